/- What functions of the program come to. -/
import Derived.Test.YtcnnnioepabfiaaPrg05
namespace Go.Dav
open Go.Proofs
/-! davit/davitlaw05.LockFair -/
def M3 : Mt := { N := 97, keep := [(0, [0]), (1, [0, 3]), (2, [0, 3, 4]), (3, [0, 3, 4, 5]), (4, [0, 3, 4, 5, 21]), (5, [0, 3, 4, 5]), (6, [0, 3, 4, 5, 30]), (7, [0, 3, 4, 5]), (8, [3, 4, 6]), (9, [3, 4, 6, 41]), (10, [3, 4, 6]), (11, [3, 4, 6, 7]), (12, [3, 4, 6, 7, 48]), (13, [3, 4, 6, 7]), (14, [3, 4, 6, 7, 8, 9]), (15, [3, 4, 6, 7, 79]), (16, [2]), (17, [3, 4, 6, 86]), (18, [2]), (19, [11]), (20, [2])], ords := [], bk := [(0, [3, 4]), (1, [0, 3, 4, 5]), (2, [3]), (3, [3, 4, 6]), (4, [3, 4, 6]), (5, [3, 4, 6, 7])], cuts := [(8, [3, 4]), (17, [3, 4, 6]), (19, [3])], lk := [(4, [0, 3, 4, 5]), (9, [3, 4, 6]), (12, [3, 4, 6, 7])] }
noncomputable def c3 : Code := bodyOf Try.f3
noncomputable def c3_0 : Code := c3.sr.sr.sr.sr
noncomputable def c3_1 : Code := c3.sr.sr.sr.sr.sr
noncomputable def c3_2 : Code := c3.sr.sr.sr.sl.sr.sl.sl
noncomputable def c3_3 : Code := c3.sr.sr.sr.sr.sl.sr.sl.sl
noncomputable def c3_4 : Code := c3.sr.sr.sr.sr.sl.sr.sl.sl.sr.sr
noncomputable def c3_5 : Code := c3.sr.sr.sr.sr.sl.sr.sl.sl.sr.sl.sl.sr
noncomputable def c3_6 : Code := c3.sr.sr.sr.sr.sl.sr.sl.sl.sr.sl.sl.sl.sr.sl.sl
def e3_0 (p3_s : Option Addr) (p4_want_a : Option Addr) (p4_want_n : Nat) (p4_want_c : Nat) : Env := [(3, SV.v (Value.pointer p3_s)), (4, SV.v (Value.slice p4_want_a p4_want_n p4_want_c))]
def e3_2 (p0_cpus_a : Option Addr) (p0_cpus_n : Nat) (p0_cpus_c : Nat) (p3_s : Option Addr) (p4_want_a : Option Addr) (p4_want_n : Nat) (p4_want_c : Nat) (p5_i : Int) : Env := [(0, SV.v (Value.slice p0_cpus_a p0_cpus_n p0_cpus_c)), (3, SV.v (Value.pointer p3_s)), (4, SV.v (Value.slice p4_want_a p4_want_n p4_want_c)), (5, SV.v (Value.int IntKind.i64 p5_i))]
def e3_1 (p3_s : Option Addr) : Env := [(3, SV.v (Value.pointer p3_s))]
def e3_3 (p3_s : Option Addr) (p4_want_a : Option Addr) (p4_want_n : Nat) (p4_want_c : Nat) (p6_i : Int) : Env := [(3, SV.v (Value.pointer p3_s)), (4, SV.v (Value.slice p4_want_a p4_want_n p4_want_c)), (6, SV.v (Value.int IntKind.i64 p6_i))]
def e3_5 (p3_s : Option Addr) (p4_want_a : Option Addr) (p4_want_n : Nat) (p4_want_c : Nat) (p6_i : Int) : Env := [(3, SV.v (Value.pointer p3_s)), (4, SV.v (Value.slice p4_want_a p4_want_n p4_want_c)), (6, SV.v (Value.int IntKind.i64 p6_i))]
def e3_6 (p3_s : Option Addr) (p4_want_a : Option Addr) (p4_want_n : Nat) (p4_want_c : Nat) (p6_i : Int) (p7_k : Int) : Env := [(3, SV.v (Value.pointer p3_s)), (4, SV.v (Value.slice p4_want_a p4_want_n p4_want_c)), (6, SV.v (Value.int IntKind.i64 p6_i)), (7, SV.v (Value.int IntKind.i64 p7_k))]
def k3_0 (R : Ending → World → Prop) : Cont := retK Try.prog Try.f3.results.toList R
def k3_2 (R : Ending → World → Prop) : Cont := blockK 0 [3, 4] (seqK (fun E w => cutB (findL M3.cuts (headReg c3_0)) Try.prog M3 c3_0 E w (retK Try.prog Try.f3.results.toList R) fun E => den Try.prog M3 c3_0 E w (retK Try.prog Try.f3.results.toList R)) (retK Try.prog Try.f3.results.toList R))
def k3_1 (R : Ending → World → Prop) : Cont := retK Try.prog Try.f3.results.toList R
def k3_3 (R : Ending → World → Prop) : Cont := blockK 2 [3] (seqK (fun E w => cutB (findL M3.cuts (headReg c3_1)) Try.prog M3 c3_1 E w (retK Try.prog Try.f3.results.toList R) fun E => den Try.prog M3 c3_1 E w (retK Try.prog Try.f3.results.toList R)) (retK Try.prog Try.f3.results.toList R))
def k3_5 (B3_3 : Env → World → Prop) (R : Ending → World → Prop) : Cont := blockK 3 [3, 4, 6] (seqK (fun E w => cutB (findL M3.cuts (headReg c3_4)) Try.prog M3 c3_4 E w (loopK B3_3 (blockK 2 [3] (seqK (fun E w => cutB (findL M3.cuts (headReg c3_1)) Try.prog M3 c3_1 E w (retK Try.prog Try.f3.results.toList R) fun E => den Try.prog M3 c3_1 E w (retK Try.prog Try.f3.results.toList R)) (retK Try.prog Try.f3.results.toList R)))) fun E => den Try.prog M3 c3_4 E w (loopK B3_3 (blockK 2 [3] (seqK (fun E w => cutB (findL M3.cuts (headReg c3_1)) Try.prog M3 c3_1 E w (retK Try.prog Try.f3.results.toList R) fun E => den Try.prog M3 c3_1 E w (retK Try.prog Try.f3.results.toList R)) (retK Try.prog Try.f3.results.toList R))))) (loopK B3_3 (blockK 2 [3] (seqK (fun E w => cutB (findL M3.cuts (headReg c3_1)) Try.prog M3 c3_1 E w (retK Try.prog Try.f3.results.toList R) fun E => den Try.prog M3 c3_1 E w (retK Try.prog Try.f3.results.toList R)) (retK Try.prog Try.f3.results.toList R)))))
def k3_6 (B3_3 : Env → World → Prop) (R : Ending → World → Prop) : Cont := blockK 4 [3, 4, 6] (seqK (fun E w => cutB (findL M3.cuts (headReg c3_5)) Try.prog M3 c3_5 E w (blockK 3 [3, 4, 6] (seqK (fun E w => cutB (findL M3.cuts (headReg c3_4)) Try.prog M3 c3_4 E w (loopK B3_3 (blockK 2 [3] (seqK (fun E w => cutB (findL M3.cuts (headReg c3_1)) Try.prog M3 c3_1 E w (retK Try.prog Try.f3.results.toList R) fun E => den Try.prog M3 c3_1 E w (retK Try.prog Try.f3.results.toList R)) (retK Try.prog Try.f3.results.toList R)))) fun E => den Try.prog M3 c3_4 E w (loopK B3_3 (blockK 2 [3] (seqK (fun E w => cutB (findL M3.cuts (headReg c3_1)) Try.prog M3 c3_1 E w (retK Try.prog Try.f3.results.toList R) fun E => den Try.prog M3 c3_1 E w (retK Try.prog Try.f3.results.toList R)) (retK Try.prog Try.f3.results.toList R))))) (loopK B3_3 (blockK 2 [3] (seqK (fun E w => cutB (findL M3.cuts (headReg c3_1)) Try.prog M3 c3_1 E w (retK Try.prog Try.f3.results.toList R) fun E => den Try.prog M3 c3_1 E w (retK Try.prog Try.f3.results.toList R)) (retK Try.prog Try.f3.results.toList R)))))) fun E => den Try.prog M3 c3_5 E w (blockK 3 [3, 4, 6] (seqK (fun E w => cutB (findL M3.cuts (headReg c3_4)) Try.prog M3 c3_4 E w (loopK B3_3 (blockK 2 [3] (seqK (fun E w => cutB (findL M3.cuts (headReg c3_1)) Try.prog M3 c3_1 E w (retK Try.prog Try.f3.results.toList R) fun E => den Try.prog M3 c3_1 E w (retK Try.prog Try.f3.results.toList R)) (retK Try.prog Try.f3.results.toList R)))) fun E => den Try.prog M3 c3_4 E w (loopK B3_3 (blockK 2 [3] (seqK (fun E w => cutB (findL M3.cuts (headReg c3_1)) Try.prog M3 c3_1 E w (retK Try.prog Try.f3.results.toList R) fun E => den Try.prog M3 c3_1 E w (retK Try.prog Try.f3.results.toList R)) (retK Try.prog Try.f3.results.toList R))))) (loopK B3_3 (blockK 2 [3] (seqK (fun E w => cutB (findL M3.cuts (headReg c3_1)) Try.prog M3 c3_1 E w (retK Try.prog Try.f3.results.toList R) fun E => den Try.prog M3 c3_1 E w (retK Try.prog Try.f3.results.toList R)) (retK Try.prog Try.f3.results.toList R))))))) (blockK 3 [3, 4, 6] (seqK (fun E w => cutB (findL M3.cuts (headReg c3_4)) Try.prog M3 c3_4 E w (loopK B3_3 (blockK 2 [3] (seqK (fun E w => cutB (findL M3.cuts (headReg c3_1)) Try.prog M3 c3_1 E w (retK Try.prog Try.f3.results.toList R) fun E => den Try.prog M3 c3_1 E w (retK Try.prog Try.f3.results.toList R)) (retK Try.prog Try.f3.results.toList R)))) fun E => den Try.prog M3 c3_4 E w (loopK B3_3 (blockK 2 [3] (seqK (fun E w => cutB (findL M3.cuts (headReg c3_1)) Try.prog M3 c3_1 E w (retK Try.prog Try.f3.results.toList R) fun E => den Try.prog M3 c3_1 E w (retK Try.prog Try.f3.results.toList R)) (retK Try.prog Try.f3.results.toList R))))) (loopK B3_3 (blockK 2 [3] (seqK (fun E w => cutB (findL M3.cuts (headReg c3_1)) Try.prog M3 c3_1 E w (retK Try.prog Try.f3.results.toList R) fun E => den Try.prog M3 c3_1 E w (retK Try.prog Try.f3.results.toList R)) (retK Try.prog Try.f3.results.toList R)))))))
theorem b3 : Try.f3.body = some c3 := by kernel_rfl
theorem n3 : Try.f3.ntmps = M3.N := by kernel_rfl
theorem u3 {p0_cpus_a : Option Addr} {p0_cpus_n : Nat} {p0_cpus_c : Nat} {w : World} {R : Ending → World → Prop} (h : den Try.prog M3 c3 (argE 0 [(Value.slice p0_cpus_a p0_cpus_n p0_cpus_c)]) w (retK Try.prog Try.f3.results.toList R)) : Calls Try.prog 3 #[(Value.slice p0_cpus_a p0_cpus_n p0_cpus_c)] w R := calls_den okProg Try.func3 b3 n3 (Nat.le_of_ble_eq_true rfl) h
theorem t3 (p0_cpus_a : Option Addr) (p0_cpus_n : Nat) (p0_cpus_c : Nat) (w : World) (R : Ending → World → Prop) : den Try.prog M3 c3 (argE 0 [(Value.slice p0_cpus_a p0_cpus_n p0_cpus_c)]) w (retK Try.prog Try.f3.results.toList R) =
(New w [Value.slice none 0 0] 25 fun p w' =>
  Cut
    (WP Try.prog 97 (Code.loop c3_2)
      (e3_2 p0_cpus_a p0_cpus_n p0_cpus_c (some p) none 0 0 (0 : Int)) w' (k3_2 R))) := by kernel_rfl
theorem t3_0 (p3_s : Option Addr) (p4_want_a : Option Addr) (p4_want_n : Nat) (p4_want_c : Nat) (w : World) (R : Ending → World → Prop) : den Try.prog M3 c3_0 (e3_0 p3_s p4_want_a p4_want_n p4_want_c) w (k3_0 R) =
(Cut (WP Try.prog 97 (Code.loop c3_3) (e3_3 p3_s p4_want_a p4_want_n p4_want_c (0 : Int)) w (k3_3 R))) := by kernel_rfl
theorem t3_2 (p0_cpus_a : Option Addr) (p0_cpus_n : Nat) (p0_cpus_c : Nat) (p3_s : Option Addr) (p4_want_a : Option Addr) (p4_want_n : Nat) (p4_want_c : Nat) (p5_i : Int) (w : World) (B3_2 : Env → World → Prop) (R : Ending → World → Prop) : den Try.prog M3 c3_2 (e3_2 p0_cpus_a p0_cpus_n p0_cpus_c p3_s p4_want_a p4_want_n p4_want_c p5_i) w (loopK B3_2 (k3_2 R)) =
((decide (p5_i < (↑p0_cpus_n : Int)) = true →
    (decide (p5_i < (200 : Int)) = true →
        ((0 : Int) ≤ p5_i ∧ p5_i < (↑p0_cpus_n : Int)) ∧
          ∃ a,
            p0_cpus_a = some a ∧
              ∃ n,
                World.cell? w (Addr.add a (Int.toNat p5_i * 1)) = some (Value.int IntKind.i64 n) ∧
                  Call Try.prog 8 [Value.pointer p3_s, Value.int IntKind.i64 n] w fun e w' =>
                    ∃ n,
                      e = Ending.returned (Value.int IntKind.i64 n) ∧
                        ((n == (0 : Int)) = true →
                            ((0 : Int) ≤ p5_i ∧ p5_i < (↑p0_cpus_n : Int)) ∧
                              ∃ a,
                                p0_cpus_a = some a ∧
                                  ∃ n,
                                    World.cell? w' (Addr.add a (Int.toNat p5_i * 1)) =
                                        some (Value.int IntKind.i64 n) ∧
                                      New w' [Value.int IntKind.i64 n] 3 fun p w' =>
                                        ∃ p_1 n c w'_1,
                                          Sem.run Try.prog
                                                (Builtin.append_ #[22, 22] 22
                                                  #[Value.slice p4_want_a p4_want_n p4_want_c,
                                                    Value.slice (some p) 1 1])
                                                w' =
                                              Result.ok (Value.slice p_1 n c) w'_1 ∧
                                            B3_2
                                              [(0, SV.v (Value.slice p0_cpus_a p0_cpus_n p0_cpus_c)),
                                                (3, SV.v (Value.pointer p3_s)),
                                                (4, SV.v (Value.slice p_1 n c)),
                                                (5,
                                                  SV.v
                                                    (Value.int IntKind.i64
                                                      (IntKind.wrap IntKind.i64 (p5_i + (1 : Int)))))]
                                              w'_1) ∧
                          ((n == (0 : Int)) = false →
                            B3_2
                              [(0, SV.v (Value.slice p0_cpus_a p0_cpus_n p0_cpus_c)),
                                (3, SV.v (Value.pointer p3_s)),
                                (4, SV.v (Value.slice p4_want_a p4_want_n p4_want_c)),
                                (5,
                                  SV.v (Value.int IntKind.i64 (IntKind.wrap IntKind.i64 (p5_i + (1 : Int)))))]
                              w')) ∧
      (decide (p5_i < (200 : Int)) = false →
        CutD Try.prog M3 c3_0 (e3_0 p3_s p4_want_a p4_want_n p4_want_c) w (k3_0 R))) ∧
  (decide (p5_i < (↑p0_cpus_n : Int)) = false →
    CutD Try.prog M3 c3_0 (e3_0 p3_s p4_want_a p4_want_n p4_want_c) w (k3_0 R))) := by kernel_rfl
theorem t3_1 (p3_s : Option Addr) (w : World) (R : Ending → World → Prop) : den Try.prog M3 c3_1 (e3_1 p3_s) w (k3_1 R) =
(Call Try.prog 9 [Value.pointer p3_s] w fun e w' =>
  ∃ n b,
    e = Ending.returned (Value.tuple #[Value.int IntKind.i64 n, Value.bool b]) ∧
      ((!b) = true →
          Call Try.prog 11 [] w' fun e w' =>
            ∃ b, e = Ending.returned (Value.bool b) ∧ R (Ending.returned (Value.bool b)) w') ∧
        ((!b) = false → R (Ending.returned (Value.bool false)) w')) := by kernel_rfl
theorem t3_3 (p3_s : Option Addr) (p4_want_a : Option Addr) (p4_want_n : Nat) (p4_want_c : Nat) (p6_i : Int) (w : World) (B3_3 : Env → World → Prop) (R : Ending → World → Prop) : den Try.prog M3 c3_3 (e3_3 p3_s p4_want_a p4_want_n p4_want_c p6_i) w (loopK B3_3 (k3_3 R)) =
((decide (p6_i < (↑p4_want_n : Int)) = true →
    Cut
      (WP Try.prog 97 (Code.loop c3_6) (e3_6 p3_s p4_want_a p4_want_n p4_want_c p6_i p6_i) w
        (k3_6 B3_3 R))) ∧
  (decide (p6_i < (↑p4_want_n : Int)) = false → CutD Try.prog M3 c3_1 (e3_1 p3_s) w (k3_1 R))) := by kernel_rfl
theorem t3_5 (p3_s : Option Addr) (p4_want_a : Option Addr) (p4_want_n : Nat) (p4_want_c : Nat) (p6_i : Int) (w : World) (B3_3 : Env → World → Prop) (R : Ending → World → Prop) : den Try.prog M3 c3_5 (e3_5 p3_s p4_want_a p4_want_n p4_want_c p6_i) w (k3_5 B3_3 R) =
(((0 : Int) ≤ p6_i ∧ p6_i < (↑p4_want_n : Int)) ∧
  ∃ a,
    p4_want_a = some a ∧
      ∃ n,
        World.cell? w (Addr.add a (Int.toNat p6_i * 1)) = some (Value.int IntKind.i64 n) ∧
          Call Try.prog 10 [Value.pointer p3_s, Value.int IntKind.i64 n] w fun e w' =>
            ∃ n,
              e = Ending.returned (Value.int IntKind.i64 n) ∧
                ((n != (0 : Int)) = true → R (Ending.returned (Value.bool false)) w') ∧
                  ((n != (0 : Int)) = false →
                    B3_3
                      [(3, SV.v (Value.pointer p3_s)),
                        (4, SV.v (Value.slice p4_want_a p4_want_n p4_want_c)),
                        (6, SV.v (Value.int IntKind.i64 (IntKind.wrap IntKind.i64 (p6_i + (1 : Int)))))]
                      w')) := by kernel_rfl
theorem t3_6 (p3_s : Option Addr) (p4_want_a : Option Addr) (p4_want_n : Nat) (p4_want_c : Nat) (p6_i : Int) (p7_k : Int) (w : World) (B3_3 : Env → World → Prop) (B3_6 : Env → World → Prop) (R : Ending → World → Prop) : den Try.prog M3 c3_6 (e3_6 p3_s p4_want_a p4_want_n p4_want_c p6_i p7_k) w (loopK B3_6 (k3_6 B3_3 R)) =
((decide (p7_k < (↑p4_want_n : Int)) = true →
    Call Try.prog 9 [Value.pointer p3_s] w fun e w' =>
      ∃ n b,
        e = Ending.returned (Value.tuple #[Value.int IntKind.i64 n, Value.bool b]) ∧
          ((!b) = false →
              ((0 : Int) ≤ p6_i ∧ p6_i < (↑p4_want_n : Int)) ∧
                ∃ a,
                  p4_want_a = some a ∧
                    ∃ n_1,
                      World.cell? w' (Addr.add a (Int.toNat p6_i * 1)) = some (Value.int IntKind.i64 n_1) ∧
                        ((n != n_1) = false →
                            (decide (p7_k > p6_i) = true →
                                ((0 : Int) ≤ p7_k ∧ p7_k < (↑p4_want_n : Int)) ∧
                                  ∃ a,
                                    p4_want_a = some a ∧
                                      ∃ n,
                                        World.cell? w' (Addr.add a (Int.toNat p7_k * 1)) =
                                            some (Value.int IntKind.i64 n) ∧
                                          Call Try.prog 10 [Value.pointer p3_s, Value.int IntKind.i64 n] w'
                                            fun e w' =>
                                            ∃ n,
                                              e = Ending.returned (Value.int IntKind.i64 n) ∧
                                                ((n != (17 : Int)) = true →
                                                    R (Ending.returned (Value.bool false)) w') ∧
                                                  ((n != (17 : Int)) = false →
                                                    B3_6
                                                      [(3, SV.v (Value.pointer p3_s)),
                                                        (4,
                                                          SV.v (Value.slice p4_want_a p4_want_n p4_want_c)),
                                                        (6, SV.v (Value.int IntKind.i64 p6_i)),
                                                        (7,
                                                          SV.v
                                                            (Value.int IntKind.i64
                                                              (IntKind.wrap IntKind.i64 (p7_k + (1 : Int)))))]
                                                      w')) ∧
                              (decide (p7_k > p6_i) = false →
                                B3_6
                                  [(3, SV.v (Value.pointer p3_s)),
                                    (4, SV.v (Value.slice p4_want_a p4_want_n p4_want_c)),
                                    (6, SV.v (Value.int IntKind.i64 p6_i)),
                                    (7,
                                      SV.v (Value.int IntKind.i64 (IntKind.wrap IntKind.i64 (p7_k + (1 : Int)))))]
                                  w')) ∧
                          ((n != n_1) = true → R (Ending.returned (Value.bool false)) w')) ∧
            ((!b) = true → R (Ending.returned (Value.bool false)) w')) ∧
  (decide (p7_k < (↑p4_want_n : Int)) = false →
    CutD Try.prog M3 c3_5 (e3_5 p3_s p4_want_a p4_want_n p4_want_c p6_i) w (k3_5 B3_3 R))) := by kernel_rfl
/-! davit/davitlaw05.LockSpins -/
def M4 : Mt := { N := 92, keep := [(0, [0]), (1, [0, 3]), (2, [0, 3, 4]), (3, [0, 3, 4, 5]), (4, [0, 3, 4, 5, 20]), (5, [0, 3, 4, 5]), (6, [0, 3, 4, 5, 6]), (7, [0, 3, 4, 5, 6, 28]), (8, [0, 3, 4, 5, 37]), (9, [2]), (10, [0, 3, 4, 5, 46]), (11, [2]), (12, [0, 3, 4, 5, 7, 8]), (13, [0, 3, 4, 5, 90]), (14, [2]), (15, [2])], ords := [(8, [0, 1, 2, 4, 5, 6, 3, 7, 8]), (10, [0, 1, 2, 4, 5, 6, 3, 7, 8]), (13, [0, 1, 2, 3, 4, 5, 6, 7, 8, 9, 10, 11, 12, 13, 14, 15, 16, 17, 18, 19, 20, 21, 22, 23, 24, 25, 26, 27, 28, 29, 30, 32, 33, 34, 35, 31, 36, 37, 38])], bk := [(0, []), (1, [0, 3, 4, 5])], cuts := [(12, [0, 3, 4, 5]), (15, [])], lk := [(4, [0, 3, 4, 5])] }
noncomputable def c4 : Code := bodyOf Try.f4
noncomputable def c4_0 : Code := c4.sr.sr.sr.sr
noncomputable def c4_1 : Code := c4.sr.sr.sr.sl.sr.sl.sl
noncomputable def c4_2 : Code := c4.sr.sr.sr.sl.sr.sl.sl.sr.sr
noncomputable def c4_3 : Code := c4.sr.sr.sr.sl.sr.sl.sl.sr.sl.sl.sr.sr
def e4_0  : Env := []
def e4_1 (p0_acts_a : Option Addr) (p0_acts_n : Nat) (p0_acts_c : Nat) (p3_s : Option Addr) (p4_r : Option Addr) (p5_i : Int) : Env := [(0, SV.v (Value.slice p0_acts_a p0_acts_n p0_acts_c)), (3, SV.v (Value.pointer p3_s)), (4, SV.v (Value.pointer p4_r)), (5, SV.v (Value.int IntKind.i64 p5_i))]
def e4_3 (p0_acts_a : Option Addr) (p0_acts_n : Nat) (p0_acts_c : Nat) (p3_s : Option Addr) (p4_r : Option Addr) (p5_i : Int) : Env := [(0, SV.v (Value.slice p0_acts_a p0_acts_n p0_acts_c)), (3, SV.v (Value.pointer p3_s)), (4, SV.v (Value.pointer p4_r)), (5, SV.v (Value.int IntKind.i64 p5_i))]
def k4_0 (R : Ending → World → Prop) : Cont := retK Try.prog Try.f4.results.toList R
def k4_1 (R : Ending → World → Prop) : Cont := blockK 0 [] (seqK (fun E w => cutB (findL M4.cuts (headReg c4_0)) Try.prog M4 c4_0 E w (retK Try.prog Try.f4.results.toList R) fun E => den Try.prog M4 c4_0 E w (retK Try.prog Try.f4.results.toList R)) (retK Try.prog Try.f4.results.toList R))
def k4_3 (B4_1 : Env → World → Prop) (R : Ending → World → Prop) : Cont := blockK 1 [0, 3, 4, 5] (seqK (fun E w => cutB (findL M4.cuts (headReg c4_2)) Try.prog M4 c4_2 E w (loopK B4_1 (blockK 0 [] (seqK (fun E w => cutB (findL M4.cuts (headReg c4_0)) Try.prog M4 c4_0 E w (retK Try.prog Try.f4.results.toList R) fun E => den Try.prog M4 c4_0 E w (retK Try.prog Try.f4.results.toList R)) (retK Try.prog Try.f4.results.toList R)))) fun E => den Try.prog M4 c4_2 E w (loopK B4_1 (blockK 0 [] (seqK (fun E w => cutB (findL M4.cuts (headReg c4_0)) Try.prog M4 c4_0 E w (retK Try.prog Try.f4.results.toList R) fun E => den Try.prog M4 c4_0 E w (retK Try.prog Try.f4.results.toList R)) (retK Try.prog Try.f4.results.toList R))))) (loopK B4_1 (blockK 0 [] (seqK (fun E w => cutB (findL M4.cuts (headReg c4_0)) Try.prog M4 c4_0 E w (retK Try.prog Try.f4.results.toList R) fun E => den Try.prog M4 c4_0 E w (retK Try.prog Try.f4.results.toList R)) (retK Try.prog Try.f4.results.toList R)))))
theorem b4 : Try.f4.body = some c4 := by kernel_rfl
theorem n4 : Try.f4.ntmps = M4.N := by kernel_rfl
theorem u4 {p0_acts_a : Option Addr} {p0_acts_n : Nat} {p0_acts_c : Nat} {w : World} {R : Ending → World → Prop} (h : den Try.prog M4 c4 (argE 0 [(Value.slice p0_acts_a p0_acts_n p0_acts_c)]) w (retK Try.prog Try.f4.results.toList R)) : Calls Try.prog 4 #[(Value.slice p0_acts_a p0_acts_n p0_acts_c)] w R := calls_den okProg Try.func4 b4 n4 (Nat.le_of_ble_eq_true rfl) h
theorem t4 (p0_acts_a : Option Addr) (p0_acts_n : Nat) (p0_acts_c : Nat) (w : World) (R : Ending → World → Prop) : den Try.prog M4 c4 (argE 0 [(Value.slice p0_acts_a p0_acts_n p0_acts_c)]) w (retK Try.prog Try.f4.results.toList R) =
(New w [Value.slice none 0 0] 25 fun p w' =>
  New w' [Value.slice none 0 0] 35 fun p_1 w' =>
    Cut
      (WP Try.prog 92 (Code.loop c4_1) (e4_1 p0_acts_a p0_acts_n p0_acts_c (some p) (some p_1) (0 : Int)) w'
        (k4_1 R))) := by kernel_rfl
theorem t4_0  (w : World) (R : Ending → World → Prop) : den Try.prog M4 c4_0 (e4_0 ) w (k4_0 R) =
(Call Try.prog 11 [] w fun e w' =>
  ∃ b, e = Ending.returned (Value.bool b) ∧ R (Ending.returned (Value.bool b)) w') := by kernel_rfl
theorem t4_1 (p0_acts_a : Option Addr) (p0_acts_n : Nat) (p0_acts_c : Nat) (p3_s : Option Addr) (p4_r : Option Addr) (p5_i : Int) (w : World) (B4_1 : Env → World → Prop) (R : Ending → World → Prop) : den Try.prog M4 c4_1 (e4_1 p0_acts_a p0_acts_n p0_acts_c p3_s p4_r p5_i) w (loopK B4_1 (k4_1 R)) =
((decide (p5_i < (↑p0_acts_n : Int)) = true →
    (decide (p5_i < (200 : Int)) = true →
        ((0 : Int) ≤ p5_i ∧ p5_i < (↑p0_acts_n : Int)) ∧
          ∃ a,
            p0_acts_a = some a ∧
              ∃ n,
                World.cell? w (Addr.add (Addr.add a (Int.toNat p5_i * 2)) 0) =
                    some (Value.int IntKind.i64 n) ∧
                  ∃ b,
                    World.cell? w (Addr.add (Addr.add a (Int.toNat p5_i * 2)) 1) =
                        some (Value.bool b) ∧
                      New w [Value.int IntKind.i64 0, Value.bool false] 37 fun p w' =>
                        Wr w' p [Value.int IntKind.i64 n, Value.bool b] fun w' =>
                          ∃ b,
                            World.cell? w' (Addr.add p 1) = some (Value.bool b) ∧
                              (b = true →
                                  ∀ (w'_1 : World),
                                    World.heap w'_1 = World.heap w' →
                                      World.os w'_1 = World.os w' →
                                        World.tape w'_1 = World.tape w' →
                                          World.output w'_1 = World.output w' →
                                            ∃ n,
                                              World.cell? w'_1 (Addr.add p 0) = some (Value.int IntKind.i64 n) ∧
                                                ∃ n_1,
                                                  World.cell? w'_1 (Addr.add p 0) =
                                                      some (Value.int IntKind.i64 n_1) ∧
                                                    Call Try.prog 10
                                                      [Value.pointer p3_s, Value.int IntKind.i64 n] w'_1 fun e w' =>
                                                      ∃ n,
                                                        e = Ending.returned (Value.int IntKind.i64 n) ∧
                                                          World.cell? w' (Addr.add p 0) =
                                                              some (Value.int IntKind.i64 n_1) ∧
                                                            Call Try.prog 12
                                                              [Value.pointer p4_r, Value.int IntKind.i64 n_1] w'
                                                              fun e w' =>
                                                              ∃ n_2,
                                                                e = Ending.returned (Value.int IntKind.i64 n_2) ∧
                                                                  ((n != n_2) = true →
                                                                      R (Ending.returned (Value.bool false)) w') ∧
                                                                    ((n != n_2) = false →
                                                                      CutD Try.prog M4 c4_3
                                                                        (e4_3 p0_acts_a p0_acts_n p0_acts_c p3_s
                                                                          p4_r p5_i)
                                                                        w' (k4_3 B4_1 R))) ∧
                                (b = false →
                                  ∀ (w'_1 : World),
                                    World.heap w'_1 = World.heap w' →
                                      World.os w'_1 = World.os w' →
                                        World.tape w'_1 = World.tape w' →
                                          World.output w'_1 = World.output w' →
                                            ∃ n,
                                              World.cell? w'_1 (Addr.add p 0) = some (Value.int IntKind.i64 n) ∧
                                                ∃ n_1,
                                                  World.cell? w'_1 (Addr.add p 0) =
                                                      some (Value.int IntKind.i64 n_1) ∧
                                                    Call Try.prog 8
                                                      [Value.pointer p3_s, Value.int IntKind.i64 n] w'_1 fun e w' =>
                                                      ∃ n,
                                                        e = Ending.returned (Value.int IntKind.i64 n) ∧
                                                          World.cell? w' (Addr.add p 0) =
                                                              some (Value.int IntKind.i64 n_1) ∧
                                                            Call Try.prog 13
                                                              [Value.pointer p4_r, Value.int IntKind.i64 n_1] w'
                                                              fun e w' =>
                                                              ∃ n_2,
                                                                e = Ending.returned (Value.int IntKind.i64 n_2) ∧
                                                                  ((n != n_2) = true →
                                                                      R (Ending.returned (Value.bool false)) w') ∧
                                                                    ((n != n_2) = false →
                                                                      CutD Try.prog M4 c4_3
                                                                        (e4_3 p0_acts_a p0_acts_n p0_acts_c p3_s
                                                                          p4_r p5_i)
                                                                        w' (k4_3 B4_1 R)))) ∧
      (decide (p5_i < (200 : Int)) = false → CutD Try.prog M4 c4_0 e4_0 w (k4_0 R))) ∧
  (decide (p5_i < (↑p0_acts_n : Int)) = false → CutD Try.prog M4 c4_0 e4_0 w (k4_0 R))) := by kernel_rfl
theorem t4_3 (p0_acts_a : Option Addr) (p0_acts_n : Nat) (p0_acts_c : Nat) (p3_s : Option Addr) (p4_r : Option Addr) (p5_i : Int) (w : World) (B4_1 : Env → World → Prop) (R : Ending → World → Prop) : den Try.prog M4 c4_3 (e4_3 p0_acts_a p0_acts_n p0_acts_c p3_s p4_r p5_i) w (k4_3 B4_1 R) =
(Call Try.prog 9 [Value.pointer p3_s] w fun e w' =>
  ∃ n b,
    e = Ending.returned (Value.tuple #[Value.int IntKind.i64 n, Value.bool b]) ∧
      ∀ (w'_1 : World),
        World.heap w'_1 = World.heap w' →
          World.os w'_1 = World.os w' →
            World.tape w'_1 = World.tape w' →
              World.output w'_1 = World.output w' →
                ∃ a,
                  p4_r = some a ∧
                    ∃ p n_1 c,
                      World.cell? w'_1 (Addr.add a 0) = some (Value.slice p n_1 c) ∧
                        ((!b == decide ((↑n_1 : Int) > (0 : Int))) = false →
                            (b = true →
                                ∃ a,
                                  p4_r = some a ∧
                                    ∃ p n_2 c,
                                      World.cell? w'_1 (Addr.add a 0) = some (Value.slice p n_2 c) ∧
                                        ((0 : Int) ≤ (0 : Int) ∧ (0 : Int) < (↑n_2 : Int)) ∧
                                          ∃ a,
                                            p = some a ∧
                                              ∃ n_3,
                                                World.cell? w'_1 (Addr.add a 0) =
                                                    some (Value.int IntKind.i64 n_3) ∧
                                                  ((n != n_3) = false →
                                                      ((!b) = true →
                                                          ((n != (0 : Int)) = false →
                                                              ∃ a,
                                                                p4_r = some a ∧
                                                                  ∃ p n c,
                                                                    World.cell? w'_1 (Addr.add a 0) =
                                                                        some (Value.slice p n c) ∧
                                                                      Call Try.prog 15 [Value.pointer p3_s]
                                                                        w'_1 fun e w' =>
                                                                        ∃ p_1 n_4 c_1,
                                                                          e =
                                                                              Ending.returned
                                                                                (Value.slice p_1 n_4 c_1) ∧
                                                                            World.cell? w' (Addr.add a 0) =
                                                                                some (Value.slice p n c) ∧
                                                                              Call Try.prog 14
                                                                                [Value.slice p_1 n_4 c_1,
                                                                                  Value.slice p n c]
                                                                                w' fun e w' =>
                                                                                ∃ b,
                                                                                  e = Ending.returned (Value.bool b) ∧
                                                                                    ((!b) = true →
                                                                                        R
                                                                                          (Ending.returned
                                                                                            (Value.bool false))
                                                                                          w') ∧
                                                                                      ((!b) = false →
                                                                                        B4_1
                                                                                          [(0,
                                                                                              SV.v
                                                                                                (Value.slice p0_acts_a
                                                                                                  p0_acts_n
                                                                                                  p0_acts_c)),
                                                                                            (3,
                                                                                              SV.v
                                                                                                (Value.pointer p3_s)),
                                                                                            (4,
                                                                                              SV.v
                                                                                                (Value.pointer p4_r)),
                                                                                            (5,
                                                                                              SV.v
                                                                                                (Value.int IntKind.i64
                                                                                                  (IntKind.wrap
                                                                                                    IntKind.i64
                                                                                                    (p5_i +
                                                                                                      (1 : Int)))))]
                                                                                          w')) ∧
                                                            ((n != (0 : Int)) = true →
                                                              R (Ending.returned (Value.bool false)) w'_1)) ∧
                                                        ((!b) = false →
                                                          ∃ a,
                                                            p4_r = some a ∧
                                                              ∃ p n c,
                                                                World.cell? w'_1 (Addr.add a 0) =
                                                                    some (Value.slice p n c) ∧
                                                                  Call Try.prog 15 [Value.pointer p3_s] w'_1
                                                                    fun e w' =>
                                                                    ∃ p_1 n_4 c_1,
                                                                      e = Ending.returned (Value.slice p_1 n_4 c_1) ∧
                                                                        World.cell? w' (Addr.add a 0) =
                                                                            some (Value.slice p n c) ∧
                                                                          Call Try.prog 14
                                                                            [Value.slice p_1 n_4 c_1, Value.slice p n c]
                                                                            w' fun e w' =>
                                                                            ∃ b,
                                                                              e = Ending.returned (Value.bool b) ∧
                                                                                ((!b) = true →
                                                                                    R
                                                                                      (Ending.returned
                                                                                        (Value.bool false))
                                                                                      w') ∧
                                                                                  ((!b) = false →
                                                                                    B4_1
                                                                                      [(0,
                                                                                          SV.v
                                                                                            (Value.slice p0_acts_a
                                                                                              p0_acts_n p0_acts_c)),
                                                                                        (3,
                                                                                          SV.v (Value.pointer p3_s)),
                                                                                        (4,
                                                                                          SV.v (Value.pointer p4_r)),
                                                                                        (5,
                                                                                          SV.v
                                                                                            (Value.int IntKind.i64
                                                                                              (IntKind.wrap IntKind.i64
                                                                                                (p5_i + (1 : Int)))))]
                                                                                      w'))) ∧
                                                    ((n != n_3) = true →
                                                      R (Ending.returned (Value.bool false)) w'_1)) ∧
                              (b = false →
                                ((!b) = true →
                                    ((n != (0 : Int)) = false →
                                        ∃ a,
                                          p4_r = some a ∧
                                            ∃ p n c,
                                              World.cell? w'_1 (Addr.add a 0) = some (Value.slice p n c) ∧
                                                Call Try.prog 15 [Value.pointer p3_s] w'_1 fun e w' =>
                                                  ∃ p_1 n_2 c_1,
                                                    e = Ending.returned (Value.slice p_1 n_2 c_1) ∧
                                                      World.cell? w' (Addr.add a 0) = some (Value.slice p n c) ∧
                                                        Call Try.prog 14
                                                          [Value.slice p_1 n_2 c_1, Value.slice p n c] w' fun e w' =>
                                                          ∃ b,
                                                            e = Ending.returned (Value.bool b) ∧
                                                              ((!b) = true →
                                                                  R (Ending.returned (Value.bool false)) w') ∧
                                                                ((!b) = false →
                                                                  B4_1
                                                                    [(0,
                                                                        SV.v
                                                                          (Value.slice p0_acts_a p0_acts_n
                                                                            p0_acts_c)),
                                                                      (3, SV.v (Value.pointer p3_s)),
                                                                      (4, SV.v (Value.pointer p4_r)),
                                                                      (5,
                                                                        SV.v
                                                                          (Value.int IntKind.i64
                                                                            (IntKind.wrap IntKind.i64
                                                                              (p5_i + (1 : Int)))))]
                                                                    w')) ∧
                                      ((n != (0 : Int)) = true → R (Ending.returned (Value.bool false)) w'_1)) ∧
                                  ((!b) = false →
                                    ∃ a,
                                      p4_r = some a ∧
                                        ∃ p n c,
                                          World.cell? w'_1 (Addr.add a 0) = some (Value.slice p n c) ∧
                                            Call Try.prog 15 [Value.pointer p3_s] w'_1 fun e w' =>
                                              ∃ p_1 n_2 c_1,
                                                e = Ending.returned (Value.slice p_1 n_2 c_1) ∧
                                                  World.cell? w' (Addr.add a 0) = some (Value.slice p n c) ∧
                                                    Call Try.prog 14
                                                      [Value.slice p_1 n_2 c_1, Value.slice p n c] w' fun e w' =>
                                                      ∃ b,
                                                        e = Ending.returned (Value.bool b) ∧
                                                          ((!b) = true → R (Ending.returned (Value.bool false)) w') ∧
                                                            ((!b) = false →
                                                              B4_1
                                                                [(0,
                                                                    SV.v
                                                                      (Value.slice p0_acts_a p0_acts_n p0_acts_c)),
                                                                  (3, SV.v (Value.pointer p3_s)),
                                                                  (4, SV.v (Value.pointer p4_r)),
                                                                  (5,
                                                                    SV.v
                                                                      (Value.int IntKind.i64
                                                                        (IntKind.wrap IntKind.i64
                                                                          (p5_i + (1 : Int)))))]
                                                                w')))) ∧
                          ((!b == decide ((↑n_1 : Int) > (0 : Int))) = true →
                            R (Ending.returned (Value.bool false)) w'_1)) := by kernel_rfl
/-! davit/davitlaw05.LockPairs -/
def M5 : Mt := { N := 133, keep := [(0, [0, 1]), (1, [0, 1, 5]), (2, [0, 1, 5, 6]), (3, [0, 1, 5, 6, 7]), (4, [0, 1, 5, 6, 7, 24]), (5, [0, 1, 5, 6, 7]), (6, [0, 1, 5, 6, 7, 8]), (7, [0, 1, 5, 6, 7, 8, 33]), (8, [0, 1, 5, 6, 7, 8, 9, 10]), (9, [0, 1, 5, 6, 7, 8, 9, 10, 11, 12]), (10, [0, 1, 5, 6, 7, 8, 51]), (11, [4]), (12, [0, 1, 5, 6, 7, 8, 33, 52]), (13, [0, 1, 5, 6, 7, 8, 62]), (14, [4]), (15, [0, 1, 5, 6, 7, 8, 33, 63]), (16, [0, 1, 5, 6, 7, 8, 81]), (17, [4]), (18, [0, 1, 5, 6, 7, 8, 82]), (19, [0, 1, 5, 6, 7, 8, 92]), (20, [4]), (21, [0, 1, 5, 6, 7, 131]), (22, [4]), (23, [4])], ords := [(13, [0, 1, 2, 4, 5, 6, 3, 7, 8]), (16, [0, 1, 2, 3, 4, 5, 6, 8, 9, 10, 11, 12, 13, 14, 7, 15, 16]), (19, [0, 1, 2, 4, 5, 6, 3, 7, 8]), (21, [0, 2, 3, 4, 5, 1, 6, 7, 8, 10, 11, 12, 13, 9, 14, 15, 16, 17, 18, 19, 21, 22, 23, 20, 24, 25, 26, 27, 28, 29, 31, 32, 33, 34, 35, 36, 30, 37, 38])], bk := [(0, []), (1, [0, 1, 5, 6, 7]), (2, [0, 1, 5, 6, 7, 8])], cuts := [(21, [0, 1, 5, 6, 7, 8]), (23, [])], lk := [(4, [0, 1, 5, 6, 7])] }
noncomputable def c5 : Code := bodyOf Try.f5
noncomputable def c5_0 : Code := c5.sr.sr.sr.sr
noncomputable def c5_1 : Code := c5.sr.sr.sr.sl.sr.sl.sl
noncomputable def c5_2 : Code := c5.sr.sr.sr.sl.sr.sl.sl.sr.sr
noncomputable def c5_3 : Code := c5.sr.sr.sr.sl.sr.sl.sl.sr.sl.sl.sr.sr
def e5_0  : Env := []
def e5_1 (p0_acts_a : Option Addr) (p0_acts_n : Nat) (p0_acts_c : Nat) (p1_stamp : Int) (p5_p : Option Addr) (p6_r : Option Addr) (p7_i : Int) : Env := [(0, SV.v (Value.slice p0_acts_a p0_acts_n p0_acts_c)), (1, SV.v (Value.int IntKind.i64 p1_stamp)), (5, SV.v (Value.pointer p5_p)), (6, SV.v (Value.pointer p6_r)), (7, SV.v (Value.int IntKind.i64 p7_i))]
def e5_3 (p0_acts_a : Option Addr) (p0_acts_n : Nat) (p0_acts_c : Nat) (p1_stamp : Int) (p5_p : Option Addr) (p6_r : Option Addr) (p7_i : Int) (p8_a : Addr) : Env := [(0, SV.v (Value.slice p0_acts_a p0_acts_n p0_acts_c)), (1, SV.v (Value.int IntKind.i64 p1_stamp)), (5, SV.v (Value.pointer p5_p)), (6, SV.v (Value.pointer p6_r)), (7, SV.v (Value.int IntKind.i64 p7_i)), (8, SV.v (Value.pointer (some p8_a)))]
def k5_0 (R : Ending → World → Prop) : Cont := retK Try.prog Try.f5.results.toList R
def k5_1 (R : Ending → World → Prop) : Cont := blockK 0 [] (seqK (fun E w => cutB (findL M5.cuts (headReg c5_0)) Try.prog M5 c5_0 E w (retK Try.prog Try.f5.results.toList R) fun E => den Try.prog M5 c5_0 E w (retK Try.prog Try.f5.results.toList R)) (retK Try.prog Try.f5.results.toList R))
def k5_3 (B5_1 : Env → World → Prop) (R : Ending → World → Prop) : Cont := blockK 1 [0, 1, 5, 6, 7] (seqK (fun E w => cutB (findL M5.cuts (headReg c5_2)) Try.prog M5 c5_2 E w (loopK B5_1 (blockK 0 [] (seqK (fun E w => cutB (findL M5.cuts (headReg c5_0)) Try.prog M5 c5_0 E w (retK Try.prog Try.f5.results.toList R) fun E => den Try.prog M5 c5_0 E w (retK Try.prog Try.f5.results.toList R)) (retK Try.prog Try.f5.results.toList R)))) fun E => den Try.prog M5 c5_2 E w (loopK B5_1 (blockK 0 [] (seqK (fun E w => cutB (findL M5.cuts (headReg c5_0)) Try.prog M5 c5_0 E w (retK Try.prog Try.f5.results.toList R) fun E => den Try.prog M5 c5_0 E w (retK Try.prog Try.f5.results.toList R)) (retK Try.prog Try.f5.results.toList R))))) (loopK B5_1 (blockK 0 [] (seqK (fun E w => cutB (findL M5.cuts (headReg c5_0)) Try.prog M5 c5_0 E w (retK Try.prog Try.f5.results.toList R) fun E => den Try.prog M5 c5_0 E w (retK Try.prog Try.f5.results.toList R)) (retK Try.prog Try.f5.results.toList R)))))
theorem b5 : Try.f5.body = some c5 := by kernel_rfl
theorem n5 : Try.f5.ntmps = M5.N := by kernel_rfl
theorem u5 {p0_acts_a : Option Addr} {p0_acts_n : Nat} {p0_acts_c : Nat} {p1_stamp : Int} {w : World} {R : Ending → World → Prop} (h : den Try.prog M5 c5 (argE 0 [(Value.slice p0_acts_a p0_acts_n p0_acts_c), (Value.int IntKind.i64 p1_stamp)]) w (retK Try.prog Try.f5.results.toList R)) : Calls Try.prog 5 #[(Value.slice p0_acts_a p0_acts_n p0_acts_c), (Value.int IntKind.i64 p1_stamp)] w R := calls_den okProg Try.func5 b5 n5 (Nat.le_of_ble_eq_true rfl) h
theorem t5 (p0_acts_a : Option Addr) (p0_acts_n : Nat) (p0_acts_c : Nat) (p1_stamp : Int) (w : World) (R : Ending → World → Prop) : den Try.prog M5 c5 (argE 0 [(Value.slice p0_acts_a p0_acts_n p0_acts_c), (Value.int IntKind.i64 p1_stamp)]) w (retK Try.prog Try.f5.results.toList R) =
(New w
  [Value.int IntKind.i64 0, Value.int IntKind.i64 0, Value.int IntKind.i64 0,
    Value.int IntKind.i64 0]
  45 fun p w' =>
  New w'
    [Value.int IntKind.i64 0, Value.int IntKind.i64 0, Value.int IntKind.i64 0,
      Value.int IntKind.i64 0]
    48 fun p_1 w' =>
    Cut
      (WP Try.prog 133 (Code.loop c5_1)
        (e5_1 p0_acts_a p0_acts_n p0_acts_c p1_stamp (some p) (some p_1) (0 : Int)) w' (k5_1 R))) := by kernel_rfl
theorem t5_0  (w : World) (R : Ending → World → Prop) : den Try.prog M5 c5_0 (e5_0 ) w (k5_0 R) =
(Call Try.prog 11 [] w fun e w' =>
  ∃ b, e = Ending.returned (Value.bool b) ∧ R (Ending.returned (Value.bool b)) w') := by kernel_rfl
theorem t5_1 (p0_acts_a : Option Addr) (p0_acts_n : Nat) (p0_acts_c : Nat) (p1_stamp : Int) (p5_p : Option Addr) (p6_r : Option Addr) (p7_i : Int) (w : World) (B5_1 : Env → World → Prop) (R : Ending → World → Prop) : den Try.prog M5 c5_1 (e5_1 p0_acts_a p0_acts_n p0_acts_c p1_stamp p5_p p6_r p7_i) w (loopK B5_1 (k5_1 R)) =
((decide (p7_i < (↑p0_acts_n : Int)) = true →
    (decide (p7_i < (200 : Int)) = true →
        ((0 : Int) ≤ p7_i ∧ p7_i < (↑p0_acts_n : Int)) ∧
          ∃ a,
            p0_acts_a = some a ∧
              ∃ n,
                World.cell? w (Addr.add (Addr.add a (Int.toNat p7_i * 4)) 0) =
                    some (Value.int IntKind.i64 n) ∧
                  ∃ n_1,
                    World.cell? w (Addr.add (Addr.add a (Int.toNat p7_i * 4)) 1) =
                        some (Value.int IntKind.i64 n_1) ∧
                      ∃ n_2,
                        World.cell? w (Addr.add (Addr.add a (Int.toNat p7_i * 4)) 2) =
                            some (Value.int IntKind.i64 n_2) ∧
                          ∃ n_3,
                            World.cell? w (Addr.add (Addr.add a (Int.toNat p7_i * 4)) 3) =
                                some (Value.int IntKind.i64 n_3) ∧
                              New w
                                [Value.int IntKind.i64 0, Value.int IntKind.i64 0,
                                  Value.int IntKind.i64 0, Value.int IntKind.i64 0]
                                50 fun p w' =>
                                Wr w' p
                                  [Value.int IntKind.i64 n, Value.int IntKind.i64 n_1, Value.int IntKind.i64 n_2,
                                    Value.int IntKind.i64 n_3]
                                  fun w' =>
                                  ∃ n,
                                    World.cell? w' (Addr.add p 0) = some (Value.int IntKind.i64 n) ∧
                                      (4 : Int) ≠ (0 : Int) ∧
                                        ((Int.tmod n (4 : Int) == (0 : Int)) = true →
                                            ∀ (w'_1 : World),
                                              World.heap w'_1 = World.heap w' →
                                                World.os w'_1 = World.os w' →
                                                  World.tape w'_1 = World.tape w' →
                                                    World.output w'_1 = World.output w' →
                                                      ∃ n,
                                                        World.cell? w'_1 (Addr.add p 1) =
                                                            some (Value.int IntKind.i64 n) ∧
                                                          ∃ n_4,
                                                            World.cell? w'_1 (Addr.add p 1) =
                                                                some (Value.int IntKind.i64 n_4) ∧
                                                              Call Try.prog 16
                                                                [Value.pointer p5_p, Value.int IntKind.i64 n] w'_1
                                                                fun e w' =>
                                                                ∃ n,
                                                                  e = Ending.returned (Value.int IntKind.i64 n) ∧
                                                                    World.cell? w' (Addr.add p 1) =
                                                                        some (Value.int IntKind.i64 n_4) ∧
                                                                      Call Try.prog 17
                                                                        [Value.pointer p6_r, Value.int IntKind.i64 n_4]
                                                                        w' fun e w' =>
                                                                        ∃ n_5,
                                                                          e =
                                                                              Ending.returned
                                                                                (Value.int IntKind.i64 n_5) ∧
                                                                            ((n != n_5) = true →
                                                                                R (Ending.returned (Value.bool false))
                                                                                  w') ∧
                                                                              ((n != n_5) = false →
                                                                                CutD Try.prog M5 c5_3
                                                                                  (e5_3 p0_acts_a p0_acts_n p0_acts_c
                                                                                    p1_stamp p5_p p6_r p7_i p)
                                                                                  w' (k5_3 B5_1 R))) ∧
                                          ((Int.tmod n (4 : Int) == (0 : Int)) = false →
                                            ((Int.tmod n (4 : Int) == (1 : Int)) = true →
                                                ∀ (w'_1 : World),
                                                  World.heap w'_1 = World.heap w' →
                                                    World.os w'_1 = World.os w' →
                                                      World.tape w'_1 = World.tape w' →
                                                        World.output w'_1 = World.output w' →
                                                          ∃ n,
                                                            World.cell? w'_1 (Addr.add p 1) =
                                                                some (Value.int IntKind.i64 n) ∧
                                                              ∃ n_4,
                                                                World.cell? w'_1 (Addr.add p 2) =
                                                                    some (Value.int IntKind.i64 n_4) ∧
                                                                  ∃ n_5,
                                                                    World.cell? w'_1 (Addr.add p 3) =
                                                                        some (Value.int IntKind.i64 n_5) ∧
                                                                      ∃ n_6,
                                                                        World.cell? w'_1 (Addr.add p 1) =
                                                                            some (Value.int IntKind.i64 n_6) ∧
                                                                          ∃ n_7,
                                                                            World.cell? w'_1 (Addr.add p 2) =
                                                                                some (Value.int IntKind.i64 n_7) ∧
                                                                              ∃ n_8,
                                                                                World.cell? w'_1
                                                                                      (Addr.add p 3) =
                                                                                    some (Value.int IntKind.i64 n_8) ∧
                                                                                  Call Try.prog 18
                                                                                    [Value.pointer p5_p,
                                                                                      Value.int IntKind.i64 n,
                                                                                      Value.int IntKind.i64 n_4,
                                                                                      Value.int IntKind.i64 n_5]
                                                                                    w'_1 fun e w' =>
                                                                                    ∃ n,
                                                                                      e =
                                                                                          Ending.returned
                                                                                            (Value.int IntKind.i64 n) ∧
                                                                                        World.cell? w'
                                                                                              (Addr.add p 3) =
                                                                                            some
                                                                                              (Value.int IntKind.i64
                                                                                                n_8) ∧
                                                                                          World.cell? w'
                                                                                                (Addr.add p 2) =
                                                                                              some
                                                                                                (Value.int IntKind.i64
                                                                                                  n_7) ∧
                                                                                            World.cell? w'
                                                                                                  (Addr.add p
                                                                                                    1) =
                                                                                                some
                                                                                                  (Value.int IntKind.i64
                                                                                                    n_6) ∧
                                                                                              Call Try.prog 19
                                                                                                [Value.pointer p6_r,
                                                                                                  Value.int IntKind.i64
                                                                                                    n_6,
                                                                                                  Value.int IntKind.i64
                                                                                                    n_7,
                                                                                                  Value.int IntKind.i64
                                                                                                    n_8]
                                                                                                w' fun e w' =>
                                                                                                ∃ n_9,
                                                                                                  e =
                                                                                                      Ending.returned
                                                                                                        (Value.int
                                                                                                          IntKind.i64
                                                                                                          n_9) ∧
                                                                                                    ((n != n_9) = true →
                                                                                                        R
                                                                                                          (Ending.returned
                                                                                                            (Value.bool
                                                                                                              false))
                                                                                                          w') ∧
                                                                                                      ((n != n_9) =
                                                                                                          false →
                                                                                                        CutD Try.prog M5
                                                                                                          c5_3
                                                                                                          (e5_3
                                                                                                            p0_acts_a
                                                                                                            p0_acts_n
                                                                                                            p0_acts_c
                                                                                                            p1_stamp
                                                                                                            p5_p p6_r
                                                                                                            p7_i p)
                                                                                                          w'
                                                                                                          (k5_3 B5_1
                                                                                                            R))) ∧
                                              ((Int.tmod n (4 : Int) == (1 : Int)) = false →
                                                ((Int.tmod n (4 : Int) == (2 : Int)) = true →
                                                    ∀ (w'_1 : World),
                                                      World.heap w'_1 = World.heap w' →
                                                        World.os w'_1 = World.os w' →
                                                          World.tape w'_1 = World.tape w' →
                                                            World.output w'_1 = World.output w' →
                                                              ∃ n,
                                                                World.cell? w'_1 (Addr.add p 1) =
                                                                    some (Value.int IntKind.i64 n) ∧
                                                                  ∃ n_4,
                                                                    World.cell? w'_1 (Addr.add p 1) =
                                                                        some (Value.int IntKind.i64 n_4) ∧
                                                                      Call Try.prog 20
                                                                        [Value.pointer p5_p, Value.int IntKind.i64 n]
                                                                        w'_1 fun e w' =>
                                                                        ∃ n,
                                                                          e =
                                                                              Ending.returned
                                                                                (Value.int IntKind.i64 n) ∧
                                                                            World.cell? w' (Addr.add p 1) =
                                                                                some (Value.int IntKind.i64 n_4) ∧
                                                                              Call Try.prog 21
                                                                                [Value.pointer p6_r,
                                                                                  Value.int IntKind.i64 n_4]
                                                                                w' fun e w' =>
                                                                                ∃ n_5,
                                                                                  e =
                                                                                      Ending.returned
                                                                                        (Value.int IntKind.i64 n_5) ∧
                                                                                    ((n != n_5) = true →
                                                                                        R
                                                                                          (Ending.returned
                                                                                            (Value.bool false))
                                                                                          w') ∧
                                                                                      ((n != n_5) = false →
                                                                                        CutD Try.prog M5 c5_3
                                                                                          (e5_3 p0_acts_a p0_acts_n
                                                                                            p0_acts_c p1_stamp p5_p
                                                                                            p6_r p7_i p)
                                                                                          w' (k5_3 B5_1 R))) ∧
                                                  ((Int.tmod n (4 : Int) == (2 : Int)) = false →
                                                    Call Try.prog 22 [Value.pointer p5_p] w' fun e w' =>
                                                      ∃ n n_4,
                                                        e =
                                                            Ending.returned
                                                              (Value.tuple
                                                                #[Value.int IntKind.i64 n, Value.int IntKind.i64 n_4]) ∧
                                                          Call Try.prog 23 [Value.pointer p6_r] w' fun e w' =>
                                                            ∃ n_5 n_6,
                                                              e =
                                                                  Ending.returned
                                                                    (Value.tuple
                                                                      #[Value.int IntKind.i64 n_5,
                                                                        Value.int IntKind.i64 n_6]) ∧
                                                                ((n != n_5) = false →
                                                                    ((n_4 != n_6) = true →
                                                                        R (Ending.returned (Value.bool false)) w') ∧
                                                                      ((n_4 != n_6) = false →
                                                                        CutD Try.prog M5 c5_3
                                                                          (e5_3 p0_acts_a p0_acts_n p0_acts_c
                                                                            p1_stamp p5_p p6_r p7_i p)
                                                                          w' (k5_3 B5_1 R))) ∧
                                                                  ((n != n_5) = true →
                                                                    R (Ending.returned (Value.bool false)) w'))))) ∧
      (decide (p7_i < (200 : Int)) = false → CutD Try.prog M5 c5_0 e5_0 w (k5_0 R))) ∧
  (decide (p7_i < (↑p0_acts_n : Int)) = false → CutD Try.prog M5 c5_0 e5_0 w (k5_0 R))) := by kernel_rfl
theorem t5_3 (p0_acts_a : Option Addr) (p0_acts_n : Nat) (p0_acts_c : Nat) (p1_stamp : Int) (p5_p : Option Addr) (p6_r : Option Addr) (p7_i : Int) (p8_a : Addr) (w : World) (B5_1 : Env → World → Prop) (R : Ending → World → Prop) : den Try.prog M5 c5_3 (e5_3 p0_acts_a p0_acts_n p0_acts_c p1_stamp p5_p p6_r p7_i p8_a) w (k5_3 B5_1 R) =
(∀ (w' : World),
  World.heap w' = World.heap w →
    World.os w' = World.os w →
      World.tape w' = World.tape w →
        World.output w' = World.output w →
          ∃ a,
            p6_r = some a ∧
              ∃ n,
                World.cell? w' (Addr.add a 0) = some (Value.int IntKind.i64 n) ∧
                  Call Try.prog 24 [Value.pointer p5_p, Value.int IntKind.i64 0] w' fun e w' =>
                    ∃ n_1,
                      e = Ending.returned (Value.int IntKind.i64 n_1) ∧
                        World.cell? w' (Addr.add a 0) = some (Value.int IntKind.i64 n) ∧
                          ((n_1 != n) = false →
                              ∃ a,
                                p6_r = some a ∧
                                  ∃ n,
                                    World.cell? w' (Addr.add a 1) = some (Value.int IntKind.i64 n) ∧
                                      Call Try.prog 24 [Value.pointer p5_p, Value.int IntKind.i64 1] w'
                                        fun e w' =>
                                        ∃ n_2,
                                          e = Ending.returned (Value.int IntKind.i64 n_2) ∧
                                            World.cell? w' (Addr.add a 1) = some (Value.int IntKind.i64 n) ∧
                                              ((n_2 != n) = false →
                                                  ∃ n,
                                                    World.cell? w' (Addr.add p8_a 2) =
                                                        some (Value.int IntKind.i64 n) ∧
                                                      ∃ n_3,
                                                        World.cell? w' (Addr.add p8_a 2) =
                                                            some (Value.int IntKind.i64 n_3) ∧
                                                          Call Try.prog 24
                                                            [Value.pointer p5_p, Value.int IntKind.i64 n] w'
                                                            fun e w' =>
                                                            ∃ n,
                                                              e = Ending.returned (Value.int IntKind.i64 n) ∧
                                                                World.cell? w' (Addr.add p8_a 2) =
                                                                    some (Value.int IntKind.i64 n_3) ∧
                                                                  Call Try.prog 25
                                                                    [Value.pointer p6_r, Value.int IntKind.i64 n_3] w'
                                                                    fun e w' =>
                                                                    ∃ n_4,
                                                                      e = Ending.returned (Value.int IntKind.i64 n_4) ∧
                                                                        ((n != n_4) = false →
                                                                            ∃ a,
                                                                              p6_r = some a ∧
                                                                                ∃ n,
                                                                                  World.cell? w'
                                                                                        (Addr.add a 2) =
                                                                                      some (Value.int IntKind.i64 n) ∧
                                                                                    Call Try.prog 26
                                                                                      [Value.pointer p5_p,
                                                                                        Value.int IntKind.i64 p1_stamp]
                                                                                      w' fun e w' =>
                                                                                      ∃ b,
                                                                                        e =
                                                                                            Ending.returned
                                                                                              (Value.bool b) ∧
                                                                                          World.cell? w'
                                                                                                (Addr.add a 2) =
                                                                                              some
                                                                                                (Value.int IntKind.i64
                                                                                                  n) ∧
                                                                                            ((!b == (p1_stamp != n)) =
                                                                                                  true →
                                                                                                R
                                                                                                  (Ending.returned
                                                                                                    (Value.bool false))
                                                                                                  w') ∧
                                                                                              ((!b ==
                                                                                                      (p1_stamp !=
                                                                                                        n)) =
                                                                                                  false →
                                                                                                B5_1
                                                                                                  [(0,
                                                                                                      SV.v
                                                                                                        (Value.slice
                                                                                                          p0_acts_a
                                                                                                          p0_acts_n
                                                                                                          p0_acts_c)),
                                                                                                    (1,
                                                                                                      SV.v
                                                                                                        (Value.int
                                                                                                          IntKind.i64
                                                                                                          p1_stamp)),
                                                                                                    (5,
                                                                                                      SV.v
                                                                                                        (Value.pointer
                                                                                                          p5_p)),
                                                                                                    (6,
                                                                                                      SV.v
                                                                                                        (Value.pointer
                                                                                                          p6_r)),
                                                                                                    (7,
                                                                                                      SV.v
                                                                                                        (Value.int
                                                                                                          IntKind.i64
                                                                                                          (IntKind.wrap
                                                                                                            IntKind.i64
                                                                                                            (p7_i +
                                                                                                              (1 :
                                                                                                                Int)))))]
                                                                                                  w')) ∧
                                                                          ((n != n_4) = true →
                                                                            R (Ending.returned (Value.bool false))
                                                                              w')) ∧
                                                ((n_2 != n) = true → R (Ending.returned (Value.bool false)) w')) ∧
                            ((n_1 != n) = true → R (Ending.returned (Value.bool false)) w')) := by kernel_rfl
/-! davit/davitlaw05.LockWhole -/
def M6 : Mt := { N := 86, keep := [(0, [0]), (1, [0, 3]), (2, [0, 3, 4]), (3, [0, 3, 4, 5]), (4, [0, 3, 4, 5, 6]), (5, [0, 3, 4, 5, 6, 21]), (6, [0, 3, 4, 5, 6]), (7, [0, 3, 4, 5, 6, 7]), (8, [0, 3, 4, 5, 6, 7, 30]), (9, [0, 3, 4, 5, 6, 8, 9]), (10, [0, 3, 4, 5, 6, 8, 9, 10]), (11, [0, 3, 4, 5, 6, 8, 9, 10, 11]), (12, [0, 3, 4, 5, 6, 57]), (13, [2]), (14, [0, 3, 4, 5, 6, 7, 30, 58]), (15, [0, 3, 4, 5, 6]), (16, [0, 3, 4, 5, 6, 7, 30, 64]), (17, [0, 3, 4, 5, 6]), (18, [0, 3, 4, 5, 6, 7, 74]), (19, [0, 3, 4, 5, 6, 80]), (20, [0, 3, 4, 6]), (21, [0, 3, 4, 5, 6]), (22, [2])], ords := [], bk := [(0, []), (1, [0, 3, 4, 5, 6]), (2, [0, 3, 4, 5, 6])], cuts := [(22, [])], lk := [(5, [0, 3, 4, 5, 6])] }
noncomputable def c6 : Code := bodyOf Try.f6
noncomputable def c6_0 : Code := c6.sr.sr.sr.sr.sr
noncomputable def c6_1 : Code := c6.sr.sr.sr.sr.sl.sr.sl.sl
def e6_0  : Env := []
def e6_1 (p0_acts_a : Option Addr) (p0_acts_n : Nat) (p0_acts_c : Nat) (p3_p : Option Addr) (p4_a : Int) (p5_b : Int) (p6_i : Int) : Env := [(0, SV.v (Value.slice p0_acts_a p0_acts_n p0_acts_c)), (3, SV.v (Value.pointer p3_p)), (4, SV.v (Value.int IntKind.i64 p4_a)), (5, SV.v (Value.int IntKind.i64 p5_b)), (6, SV.v (Value.int IntKind.i64 p6_i))]
def k6_0 (R : Ending → World → Prop) : Cont := retK Try.prog Try.f6.results.toList R
def k6_1 (R : Ending → World → Prop) : Cont := blockK 0 [] (seqK (fun E w => cutB (findL M6.cuts (headReg c6_0)) Try.prog M6 c6_0 E w (retK Try.prog Try.f6.results.toList R) fun E => den Try.prog M6 c6_0 E w (retK Try.prog Try.f6.results.toList R)) (retK Try.prog Try.f6.results.toList R))
theorem b6 : Try.f6.body = some c6 := by kernel_rfl
theorem n6 : Try.f6.ntmps = M6.N := by kernel_rfl
theorem u6 {p0_acts_a : Option Addr} {p0_acts_n : Nat} {p0_acts_c : Nat} {w : World} {R : Ending → World → Prop} (h : den Try.prog M6 c6 (argE 0 [(Value.slice p0_acts_a p0_acts_n p0_acts_c)]) w (retK Try.prog Try.f6.results.toList R)) : Calls Try.prog 6 #[(Value.slice p0_acts_a p0_acts_n p0_acts_c)] w R := calls_den okProg Try.func6 b6 n6 (Nat.le_of_ble_eq_true rfl) h
theorem t6 (p0_acts_a : Option Addr) (p0_acts_n : Nat) (p0_acts_c : Nat) (w : World) (R : Ending → World → Prop) : den Try.prog M6 c6 (argE 0 [(Value.slice p0_acts_a p0_acts_n p0_acts_c)]) w (retK Try.prog Try.f6.results.toList R) =
(New w
  [Value.int IntKind.i64 0, Value.int IntKind.i64 0, Value.int IntKind.i64 0,
    Value.int IntKind.i64 0]
  45 fun p w' =>
  Cut
    (WP Try.prog 86 (Code.loop c6_1)
      (e6_1 p0_acts_a p0_acts_n p0_acts_c (some p) (0 : Int) (0 : Int) (0 : Int)) w' (k6_1 R))) := by kernel_rfl
theorem t6_0  (w : World) (R : Ending → World → Prop) : den Try.prog M6 c6_0 (e6_0 ) w (k6_0 R) =
(Call Try.prog 11 [] w fun e w' =>
  ∃ b, e = Ending.returned (Value.bool b) ∧ R (Ending.returned (Value.bool b)) w') := by kernel_rfl
theorem t6_1 (p0_acts_a : Option Addr) (p0_acts_n : Nat) (p0_acts_c : Nat) (p3_p : Option Addr) (p4_a : Int) (p5_b : Int) (p6_i : Int) (w : World) (B6_1 : Env → World → Prop) (R : Ending → World → Prop) : den Try.prog M6 c6_1 (e6_1 p0_acts_a p0_acts_n p0_acts_c p3_p p4_a p5_b p6_i) w (loopK B6_1 (k6_1 R)) =
((decide (p6_i < (↑p0_acts_n : Int)) = true →
    (decide (p6_i < (200 : Int)) = true →
        ((0 : Int) ≤ p6_i ∧ p6_i < (↑p0_acts_n : Int)) ∧
          ∃ a,
            p0_acts_a = some a ∧
              ∃ n,
                World.cell? w (Addr.add (Addr.add a (Int.toNat p6_i * 4)) 0) =
                    some (Value.int IntKind.i64 n) ∧
                  ∃ n_1,
                    World.cell? w (Addr.add (Addr.add a (Int.toNat p6_i * 4)) 1) =
                        some (Value.int IntKind.i64 n_1) ∧
                      ∃ n_2,
                        World.cell? w (Addr.add (Addr.add a (Int.toNat p6_i * 4)) 2) =
                            some (Value.int IntKind.i64 n_2) ∧
                          ∃ n_3,
                            World.cell? w (Addr.add (Addr.add a (Int.toNat p6_i * 4)) 3) =
                                some (Value.int IntKind.i64 n_3) ∧
                              New w
                                [Value.int IntKind.i64 0, Value.int IntKind.i64 0,
                                  Value.int IntKind.i64 0, Value.int IntKind.i64 0]
                                50 fun p w' =>
                                Wr w' p
                                  [Value.int IntKind.i64 n, Value.int IntKind.i64 n_1, Value.int IntKind.i64 n_2,
                                    Value.int IntKind.i64 n_3]
                                  fun w' =>
                                  ∃ n,
                                    World.cell? w' (Addr.add p 0) = some (Value.int IntKind.i64 n) ∧
                                      (4 : Int) ≠ (0 : Int) ∧
                                        ((Int.tmod n (4 : Int) == (0 : Int)) = true →
                                            ∃ n,
                                              World.cell? w' (Addr.add p 1) = some (Value.int IntKind.i64 n) ∧
                                                Call Try.prog 16 [Value.pointer p3_p, Value.int IntKind.i64 n]
                                                  w' fun e w' =>
                                                  ∃ n,
                                                    e = Ending.returned (Value.int IntKind.i64 n) ∧
                                                      B6_1
                                                        [(0,
                                                            SV.v (Value.slice p0_acts_a p0_acts_n p0_acts_c)),
                                                          (3, SV.v (Value.pointer p3_p)),
                                                          (4, SV.v (Value.int IntKind.i64 p4_a)),
                                                          (5, SV.v (Value.int IntKind.i64 p5_b)),
                                                          (6,
                                                            SV.v
                                                              (Value.int IntKind.i64
                                                                (IntKind.wrap IntKind.i64 (p6_i + (1 : Int)))))]
                                                        w') ∧
                                          ((Int.tmod n (4 : Int) == (0 : Int)) = false →
                                            ((Int.tmod n (4 : Int) == (1 : Int)) = true →
                                                ∃ n,
                                                  World.cell? w' (Addr.add p 1) =
                                                      some (Value.int IntKind.i64 n) ∧
                                                    ∃ n_4,
                                                      World.cell? w' (Addr.add p 2) =
                                                          some (Value.int IntKind.i64 n_4) ∧
                                                        ∃ n_5,
                                                          World.cell? w' (Addr.add p 3) =
                                                              some (Value.int IntKind.i64 n_5) ∧
                                                            Call Try.prog 18
                                                              [Value.pointer p3_p, Value.int IntKind.i64 n,
                                                                Value.int IntKind.i64 n_4, Value.int IntKind.i64 n_5]
                                                              w' fun e w' =>
                                                              ∃ n,
                                                                e = Ending.returned (Value.int IntKind.i64 n) ∧
                                                                  B6_1
                                                                    [(0,
                                                                        SV.v
                                                                          (Value.slice p0_acts_a p0_acts_n
                                                                            p0_acts_c)),
                                                                      (3, SV.v (Value.pointer p3_p)),
                                                                      (4, SV.v (Value.int IntKind.i64 p4_a)),
                                                                      (5, SV.v (Value.int IntKind.i64 p5_b)),
                                                                      (6,
                                                                        SV.v
                                                                          (Value.int IntKind.i64
                                                                            (IntKind.wrap IntKind.i64
                                                                              (p6_i + (1 : Int)))))]
                                                                    w') ∧
                                              ((Int.tmod n (4 : Int) == (1 : Int)) = false →
                                                ((Int.tmod n (4 : Int) == (2 : Int)) = true →
                                                    ∃ n,
                                                      World.cell? w' (Addr.add p 1) =
                                                          some (Value.int IntKind.i64 n) ∧
                                                        Call Try.prog 20
                                                          [Value.pointer p3_p, Value.int IntKind.i64 n] w' fun e w' =>
                                                          ∃ n,
                                                            e = Ending.returned (Value.int IntKind.i64 n) ∧
                                                              ((n == (0 : Int)) = true →
                                                                  Call Try.prog 24
                                                                    [Value.pointer p3_p,
                                                                      Value.int IntKind.i64 0]
                                                                    w' fun e w' =>
                                                                    ∃ n,
                                                                      e = Ending.returned (Value.int IntKind.i64 n) ∧
                                                                        Call Try.prog 24
                                                                          [Value.pointer p3_p,
                                                                            Value.int IntKind.i64 1]
                                                                          w' fun e w' =>
                                                                          ∃ n_4,
                                                                            e =
                                                                                Ending.returned
                                                                                  (Value.int IntKind.i64 n_4) ∧
                                                                              B6_1
                                                                                [(0,
                                                                                    SV.v
                                                                                      (Value.slice p0_acts_a p0_acts_n
                                                                                        p0_acts_c)),
                                                                                  (3,
                                                                                    SV.v (Value.pointer p3_p)),
                                                                                  (4,
                                                                                    SV.v (Value.int IntKind.i64 n)),
                                                                                  (5,
                                                                                    SV.v (Value.int IntKind.i64 n_4)),
                                                                                  (6,
                                                                                    SV.v
                                                                                      (Value.int IntKind.i64
                                                                                        (IntKind.wrap IntKind.i64
                                                                                          (p6_i + (1 : Int)))))]
                                                                                w') ∧
                                                                ((n == (0 : Int)) = false →
                                                                  B6_1
                                                                    [(0,
                                                                        SV.v
                                                                          (Value.slice p0_acts_a p0_acts_n
                                                                            p0_acts_c)),
                                                                      (3, SV.v (Value.pointer p3_p)),
                                                                      (4, SV.v (Value.int IntKind.i64 p4_a)),
                                                                      (5, SV.v (Value.int IntKind.i64 p5_b)),
                                                                      (6,
                                                                        SV.v
                                                                          (Value.int IntKind.i64
                                                                            (IntKind.wrap IntKind.i64
                                                                              (p6_i + (1 : Int)))))]
                                                                    w')) ∧
                                                  ((Int.tmod n (4 : Int) == (2 : Int)) = false →
                                                    Call Try.prog 22 [Value.pointer p3_p] w' fun e w' =>
                                                      ∃ n n_4,
                                                        e =
                                                            Ending.returned
                                                              (Value.tuple
                                                                #[Value.int IntKind.i64 n, Value.int IntKind.i64 n_4]) ∧
                                                          Call Try.prog 24
                                                            [Value.pointer p3_p, Value.int IntKind.i64 0] w'
                                                            fun e w' =>
                                                            ∃ n_5,
                                                              e = Ending.returned (Value.int IntKind.i64 n_5) ∧
                                                                Call Try.prog 24
                                                                  [Value.pointer p3_p, Value.int IntKind.i64 1]
                                                                  w' fun e w' =>
                                                                  ∃ n_6,
                                                                    e = Ending.returned (Value.int IntKind.i64 n_6) ∧
                                                                      ((n_4 == (0 : Int)) = true →
                                                                          Call Try.prog 26
                                                                            [Value.pointer p3_p,
                                                                              Value.int IntKind.i64 n]
                                                                            w' fun e w' =>
                                                                            ∃ b,
                                                                              e = Ending.returned (Value.bool b) ∧
                                                                                ((!b) = true →
                                                                                    ((n_5 != p4_a) = false →
                                                                                        ((n_6 != p5_b) = true →
                                                                                            R
                                                                                              (Ending.returned
                                                                                                (Value.bool false))
                                                                                              w') ∧
                                                                                          ((n_6 != p5_b) = false →
                                                                                            B6_1
                                                                                              [(0,
                                                                                                  SV.v
                                                                                                    (Value.slice
                                                                                                      p0_acts_a
                                                                                                      p0_acts_n
                                                                                                      p0_acts_c)),
                                                                                                (3,
                                                                                                  SV.v
                                                                                                    (Value.pointer
                                                                                                      p3_p)),
                                                                                                (4,
                                                                                                  SV.v
                                                                                                    (Value.int
                                                                                                      IntKind.i64
                                                                                                      p4_a)),
                                                                                                (5,
                                                                                                  SV.v
                                                                                                    (Value.int
                                                                                                      IntKind.i64
                                                                                                      p5_b)),
                                                                                                (6,
                                                                                                  SV.v
                                                                                                    (Value.int
                                                                                                      IntKind.i64
                                                                                                      (IntKind.wrap
                                                                                                        IntKind.i64
                                                                                                        (p6_i +
                                                                                                          (1 : Int)))))]
                                                                                              w')) ∧
                                                                                      ((n_5 != p4_a) = true →
                                                                                        R
                                                                                          (Ending.returned
                                                                                            (Value.bool false))
                                                                                          w')) ∧
                                                                                  ((!b) = false →
                                                                                    B6_1
                                                                                      [(0,
                                                                                          SV.v
                                                                                            (Value.slice p0_acts_a
                                                                                              p0_acts_n p0_acts_c)),
                                                                                        (3,
                                                                                          SV.v (Value.pointer p3_p)),
                                                                                        (4,
                                                                                          SV.v
                                                                                            (Value.int IntKind.i64
                                                                                              p4_a)),
                                                                                        (5,
                                                                                          SV.v
                                                                                            (Value.int IntKind.i64
                                                                                              p5_b)),
                                                                                        (6,
                                                                                          SV.v
                                                                                            (Value.int IntKind.i64
                                                                                              (IntKind.wrap IntKind.i64
                                                                                                (p6_i + (1 : Int)))))]
                                                                                      w')) ∧
                                                                        ((n_4 == (0 : Int)) = false →
                                                                          B6_1
                                                                            [(0,
                                                                                SV.v
                                                                                  (Value.slice p0_acts_a p0_acts_n
                                                                                    p0_acts_c)),
                                                                              (3, SV.v (Value.pointer p3_p)),
                                                                              (4,
                                                                                SV.v (Value.int IntKind.i64 p4_a)),
                                                                              (5,
                                                                                SV.v (Value.int IntKind.i64 p5_b)),
                                                                              (6,
                                                                                SV.v
                                                                                  (Value.int IntKind.i64
                                                                                    (IntKind.wrap IntKind.i64
                                                                                      (p6_i + (1 : Int)))))]
                                                                            w'))))) ∧
      (decide (p6_i < (200 : Int)) = false → CutD Try.prog M6 c6_0 e6_0 w (k6_0 R))) ∧
  (decide (p6_i < (↑p0_acts_n : Int)) = false → CutD Try.prog M6 c6_0 e6_0 w (k6_0 R))) := by kernel_rfl
/-! davit/davitlaw05.LockNil -/
def M7 : Mt := { N := 77, keep := [(0, [0, 1]), (1, [0, 1, 5]), (2, [0, 1, 5, 6]), (3, [0, 1, 5, 6, 8]), (4, [0, 1, 5, 6, 8, 10]), (5, [4])], ords := [], bk := [], cuts := [], lk := [] }
noncomputable def c7 : Code := bodyOf Try.f7
theorem b7 : Try.f7.body = some c7 := by kernel_rfl
theorem n7 : Try.f7.ntmps = M7.N := by kernel_rfl
theorem u7 {p0_cpu : Int} {p1_n : Int} {w : World} {R : Ending → World → Prop} (h : den Try.prog M7 c7 (argE 0 [(Value.int IntKind.i64 p0_cpu), (Value.int IntKind.i64 p1_n)]) w (retK Try.prog Try.f7.results.toList R)) : Calls Try.prog 7 #[(Value.int IntKind.i64 p0_cpu), (Value.int IntKind.i64 p1_n)] w R := calls_den okProg Try.func7 b7 n7 (Nat.le_of_ble_eq_true rfl) h
theorem t7 (p0_cpu : Int) (p1_n : Int) (w : World) (R : Ending → World → Prop) : den Try.prog M7 c7 (argE 0 [(Value.int IntKind.i64 p0_cpu), (Value.int IntKind.i64 p1_n)]) w (retK Try.prog Try.f7.results.toList R) =
(Call Try.prog 9 [Value.pointer none] w fun e w' =>
  ∃ n b,
    e = Ending.returned (Value.tuple #[Value.int IntKind.i64 n, Value.bool b]) ∧
      Call Try.prog 22 [Value.pointer none] w' fun e w' =>
        ∃ n n_1,
          e = Ending.returned (Value.tuple #[Value.int IntKind.i64 n, Value.int IntKind.i64 n_1]) ∧
            Call Try.prog 8 [Value.pointer none, Value.int IntKind.i64 p0_cpu] w' fun e w' =>
              ∃ n,
                e = Ending.returned (Value.int IntKind.i64 n) ∧
                  ((n == (1 : Int)) = true →
                      Call Try.prog 10 [Value.pointer none, Value.int IntKind.i64 p0_cpu] w' fun e w' =>
                        ∃ n,
                          e = Ending.returned (Value.int IntKind.i64 n) ∧
                            ((n == (1 : Int)) = true →
                                ((!b) = true →
                                    Call Try.prog 15 [Value.pointer none] w' fun e w' =>
                                      ∃ p n c,
                                        e = Ending.returned (Value.slice p n c) ∧
                                          (((↑n : Int) == (0 : Int)) = true →
                                              Call Try.prog 16
                                                [Value.pointer none, Value.int IntKind.i64 p0_cpu] w' fun e w' =>
                                                ∃ n,
                                                  e = Ending.returned (Value.int IntKind.i64 n) ∧
                                                    ((n == (1 : Int)) = true →
                                                        Call Try.prog 18
                                                          [Value.pointer none, Value.int IntKind.i64 p0_cpu,
                                                            Value.int IntKind.i64 0,
                                                            Value.int IntKind.i64 p1_n]
                                                          w' fun e w' =>
                                                          ∃ n,
                                                            e = Ending.returned (Value.int IntKind.i64 n) ∧
                                                              ((n == (1 : Int)) = true →
                                                                  Call Try.prog 20
                                                                    [Value.pointer none, Value.int IntKind.i64 p0_cpu]
                                                                    w' fun e w' =>
                                                                    ∃ n,
                                                                      e = Ending.returned (Value.int IntKind.i64 n) ∧
                                                                        ((n == (1 : Int)) = true →
                                                                            ((n_1 == (1 : Int)) = true →
                                                                                Call Try.prog 24
                                                                                  [Value.pointer none,
                                                                                    Value.int IntKind.i64 0]
                                                                                  w' fun e w' =>
                                                                                  ∃ n,
                                                                                    e =
                                                                                        Ending.returned
                                                                                          (Value.int IntKind.i64 n) ∧
                                                                                      ((n == (0 : Int)) = true →
                                                                                          Call Try.prog 26
                                                                                            [Value.pointer none,
                                                                                              Value.int IntKind.i64
                                                                                                p1_n]
                                                                                            w' fun e w' =>
                                                                                            ∃ b,
                                                                                              e =
                                                                                                  Ending.returned
                                                                                                    (Value.bool b) ∧
                                                                                                (b = true →
                                                                                                    Call Try.prog
                                                                                                      11 [] w'
                                                                                                      fun e w' =>
                                                                                                      ∃ b,
                                                                                                        e =
                                                                                                            Ending.returned
                                                                                                              (Value.bool
                                                                                                                b) ∧
                                                                                                          R
                                                                                                            (Ending.returned
                                                                                                              (Value.bool
                                                                                                                b))
                                                                                                            w') ∧
                                                                                                  (b = false →
                                                                                                    R
                                                                                                      (Ending.returned
                                                                                                        (Value.bool
                                                                                                          false))
                                                                                                      w')) ∧
                                                                                        ((n == (0 : Int)) = false →
                                                                                          R
                                                                                            (Ending.returned
                                                                                              (Value.bool false))
                                                                                            w')) ∧
                                                                              ((n_1 == (1 : Int)) = false →
                                                                                R (Ending.returned (Value.bool false))
                                                                                  w')) ∧
                                                                          ((n == (1 : Int)) = false →
                                                                            R (Ending.returned (Value.bool false))
                                                                              w')) ∧
                                                                ((n == (1 : Int)) = false →
                                                                  R (Ending.returned (Value.bool false)) w')) ∧
                                                      ((n == (1 : Int)) = false →
                                                        R (Ending.returned (Value.bool false)) w')) ∧
                                            (((↑n : Int) == (0 : Int)) = false →
                                              R (Ending.returned (Value.bool false)) w')) ∧
                                  ((!b) = false → R (Ending.returned (Value.bool false)) w')) ∧
                              ((n == (1 : Int)) = false → R (Ending.returned (Value.bool false)) w')) ∧
                    ((n == (1 : Int)) = false → R (Ending.returned (Value.bool false)) w')) := by kernel_rfl
/-! (*davit/lock.Spin).Take -/
def M8 : Mt := { N := 29, keep := [(0, [0, 1]), (1, [0, 1, 5]), (2, [0, 1, 5, 11]), (3, [4]), (4, [0, 1, 18]), (5, [4]), (6, []), (7, [4])], ords := [], bk := [], cuts := [], lk := [] }
noncomputable def c8 : Code := bodyOf Try.f8
theorem b8 : Try.f8.body = some c8 := by kernel_rfl
theorem n8 : Try.f8.ntmps = M8.N := by kernel_rfl
theorem u8 {p0_s : Option Addr} {p1_cpu : Int} {w : World} {R : Ending → World → Prop} (h : den Try.prog M8 c8 (argE 0 [(Value.pointer p0_s), (Value.int IntKind.i64 p1_cpu)]) w (retK Try.prog Try.f8.results.toList R)) : Calls Try.prog 8 #[(Value.pointer p0_s), (Value.int IntKind.i64 p1_cpu)] w R := calls_den okProg Try.func8 b8 n8 (Nat.le_of_ble_eq_true rfl) h
theorem t8 (p0_s : Option Addr) (p1_cpu : Int) (w : World) (R : Ending → World → Prop) : den Try.prog M8 c8 (argE 0 [(Value.pointer p0_s), (Value.int IntKind.i64 p1_cpu)]) w (retK Try.prog Try.f8.results.toList R) =
(Call Try.prog 27 [Value.bool !Option.isNone p0_s, Value.int IntKind.i64 p1_cpu] w fun e w' =>
  ∃ n,
    e = Ending.returned (Value.int IntKind.i64 n) ∧
      ((n != (0 : Int)) = true → R (Ending.returned (Value.int IntKind.i64 n)) w') ∧
        ((n != (0 : Int)) = false →
          ∃ a,
            p0_s = some a ∧
              ∃ p n c,
                World.cell? w' (Addr.add a 0) = some (Value.slice p n c) ∧
                  Call Try.prog 28 [Value.slice p n c, Value.int IntKind.i64 p1_cpu] w' fun e w' =>
                    ∃ b,
                      e = Ending.returned (Value.bool b) ∧
                        (b = true → R (Ending.returned (Value.int IntKind.i64 6)) w') ∧
                          (b = false →
                            ∃ a,
                              p0_s = some a ∧
                                ∃ p n c,
                                  World.cell? w' (Addr.add a 0) = some (Value.slice p n c) ∧
                                    New w' [Value.int IntKind.i64 p1_cpu] 3 fun p_1 w' =>
                                      ∃ p_2 n_1 c_1 w'_1,
                                        Sem.run Try.prog
                                              (Builtin.append_ #[22, 22] 22
                                                #[Value.slice p n c, Value.slice (some p_1) 1 1])
                                              w' =
                                            Result.ok (Value.slice p_2 n_1 c_1) w'_1 ∧
                                          ∃ a,
                                            p0_s = some a ∧
                                              Wr w'_1 (Addr.add a 0) [Value.slice p_2 n_1 c_1] fun w' =>
                                                R (Ending.returned (Value.int IntKind.i64 0)) w'))) := by kernel_rfl
/-! (*davit/lock.Spin).Owner -/
def M9 : Mt := { N := 20, keep := [(0, [0]), (1, [0, 13]), (2, [2, 3]), (3, [2, 3])], ords := [], bk := [], cuts := [], lk := [] }
noncomputable def c9 : Code := bodyOf Try.f9
theorem b9 : Try.f9.body = some c9 := by kernel_rfl
theorem n9 : Try.f9.ntmps = M9.N := by kernel_rfl
theorem u9 {p0_s : Option Addr} {w : World} {R : Ending → World → Prop} (h : den Try.prog M9 c9 (argE 0 [(Value.pointer p0_s)]) w (retK Try.prog Try.f9.results.toList R)) : Calls Try.prog 9 #[(Value.pointer p0_s)] w R := calls_den okProg Try.func9 b9 n9 (Nat.le_of_ble_eq_true rfl) h
theorem t9 (p0_s : Option Addr) (w : World) (R : Ending → World → Prop) : den Try.prog M9 c9 (argE 0 [(Value.pointer p0_s)]) w (retK Try.prog Try.f9.results.toList R) =
((Option.isNone p0_s = false →
    ∃ a,
      p0_s = some a ∧
        ∃ p n c,
          World.cell? w (Addr.add a 0) = some (Value.slice p n c) ∧
            (((↑n : Int) == (0 : Int)) = true →
                R (Ending.returned (Value.tuple #[Value.int IntKind.i64 0, Value.bool false])) w) ∧
              (((↑n : Int) == (0 : Int)) = false →
                ∃ a,
                  p0_s = some a ∧
                    ∃ p n c,
                      World.cell? w (Addr.add a 0) = some (Value.slice p n c) ∧
                        ((0 : Int) ≤ (0 : Int) ∧ (0 : Int) < (↑n : Int)) ∧
                          ∃ a,
                            p = some a ∧
                              ∃ n,
                                World.cell? w (Addr.add a 0) = some (Value.int IntKind.i64 n) ∧
                                  R (Ending.returned (Value.tuple #[Value.int IntKind.i64 n, Value.bool true])) w)) ∧
  (Option.isNone p0_s = true →
    R (Ending.returned (Value.tuple #[Value.int IntKind.i64 0, Value.bool false])) w)) := by kernel_rfl
/-! (*davit/lock.Spin).Leave -/
def M10 : Mt := { N := 35, keep := [(0, [0, 1]), (1, [0, 1, 5]), (2, [0, 1, 5, 13]), (3, [4]), (4, [0, 1, 6, 7]), (5, [0, 26]), (6, [4]), (7, []), (8, [4])], ords := [], bk := [], cuts := [], lk := [] }
noncomputable def c10 : Code := bodyOf Try.f10
theorem b10 : Try.f10.body = some c10 := by kernel_rfl
theorem n10 : Try.f10.ntmps = M10.N := by kernel_rfl
theorem u10 {p0_s : Option Addr} {p1_cpu : Int} {w : World} {R : Ending → World → Prop} (h : den Try.prog M10 c10 (argE 0 [(Value.pointer p0_s), (Value.int IntKind.i64 p1_cpu)]) w (retK Try.prog Try.f10.results.toList R)) : Calls Try.prog 10 #[(Value.pointer p0_s), (Value.int IntKind.i64 p1_cpu)] w R := calls_den okProg Try.func10 b10 n10 (Nat.le_of_ble_eq_true rfl) h
theorem t10 (p0_s : Option Addr) (p1_cpu : Int) (w : World) (R : Ending → World → Prop) : den Try.prog M10 c10 (argE 0 [(Value.pointer p0_s), (Value.int IntKind.i64 p1_cpu)]) w (retK Try.prog Try.f10.results.toList R) =
(Call Try.prog 27 [Value.bool !Option.isNone p0_s, Value.int IntKind.i64 p1_cpu] w fun e w' =>
  ∃ n,
    e = Ending.returned (Value.int IntKind.i64 n) ∧
      ((n != (0 : Int)) = true → R (Ending.returned (Value.int IntKind.i64 n)) w') ∧
        ((n != (0 : Int)) = false →
          Call Try.prog 9 [Value.pointer p0_s] w' fun e w' =>
            ∃ n b,
              e = Ending.returned (Value.tuple #[Value.int IntKind.i64 n, Value.bool b]) ∧
                ((!b) = false →
                    ((n != p1_cpu) = true → R (Ending.returned (Value.int IntKind.i64 17)) w') ∧
                      ((n != p1_cpu) = false →
                        ∃ a,
                          p0_s = some a ∧
                            ∃ p n c,
                              World.cell? w' (Addr.add a 0) = some (Value.slice p n c) ∧
                                ((0 : Int) ≤ (1 : Int) ∧ (1 : Int) ≤ (↑n : Int)) ∧
                                  ∃ a,
                                    p0_s = some a ∧
                                      Wr w' (Addr.add a 0)
                                        [Value.slice (subA p c 1 1) (n - 1) (c - 1)]
                                        fun w' => R (Ending.returned (Value.int IntKind.i64 0)) w')) ∧
                  ((!b) = true → R (Ending.returned (Value.int IntKind.i64 17)) w'))) := by kernel_rfl
/-! davit/davitlaw05.known -/
def M11 : Mt := { N := 58, keep := [(0, []), (1, [1]), (2, [1, 2]), (3, [1, 2, 3]), (4, [1, 2, 3, 4, 5]), (5, [1, 2, 3, 4, 5, 6]), (6, [1, 2, 3, 4, 5, 6, 7]), (7, [2, 3, 4, 5, 6, 7, 8, 9]), (8, [0])], ords := [], bk := [], cuts := [], lk := [] }
noncomputable def c11 : Code := bodyOf Try.f11
theorem b11 : Try.f11.body = some c11 := by kernel_rfl
theorem n11 : Try.f11.ntmps = M11.N := by kernel_rfl
theorem u11  {w : World} {R : Ending → World → Prop} (h : den Try.prog M11 c11 (argE 0 []) w (retK Try.prog Try.f11.results.toList R)) : Calls Try.prog 11 #[] w R := calls_den okProg Try.func11 b11 n11 (Nat.le_of_ble_eq_true rfl) h
theorem t11  (w : World) (R : Ending → World → Prop) : den Try.prog M11 c11 (argE 0 []) w (retK Try.prog Try.f11.results.toList R) =
(New w [Value.slice none 0 0] 25 fun p w' =>
  Call Try.prog 8 [Value.pointer (some p), Value.int IntKind.i64 1] w' fun e w' =>
    ∃ n,
      e = Ending.returned (Value.int IntKind.i64 n) ∧
        Call Try.prog 8 [Value.pointer (some p), Value.int IntKind.i64 2] w' fun e w' =>
          ∃ n_1,
            e = Ending.returned (Value.int IntKind.i64 n_1) ∧
              Call Try.prog 9 [Value.pointer (some p)] w' fun e w' =>
                ∃ n_2 b,
                  e = Ending.returned (Value.tuple #[Value.int IntKind.i64 n_2, Value.bool b]) ∧
                    Call Try.prog 10 [Value.pointer (some p), Value.int IntKind.i64 2] w' fun e w' =>
                      ∃ n_3,
                        e = Ending.returned (Value.int IntKind.i64 n_3) ∧
                          Call Try.prog 10 [Value.pointer (some p), Value.int IntKind.i64 1] w'
                            fun e w' =>
                            ∃ n_4,
                              e = Ending.returned (Value.int IntKind.i64 n_4) ∧
                                Call Try.prog 9 [Value.pointer (some p)] w' fun e w' =>
                                  ∃ n_5 b_1,
                                    e = Ending.returned (Value.tuple #[Value.int IntKind.i64 n_5, Value.bool b_1]) ∧
                                      ((n == (0 : Int)) = true →
                                          ((n_1 == (0 : Int)) = true →
                                              ((n_2 == (1 : Int)) = true →
                                                  (b = true →
                                                      ((n_3 == (17 : Int)) = true →
                                                          ((n_4 == (0 : Int)) = true →
                                                              ((n_5 == (2 : Int)) = true →
                                                                  R (Ending.returned (Value.bool b_1)) w') ∧
                                                                ((n_5 == (2 : Int)) = false →
                                                                  R (Ending.returned (Value.bool false)) w')) ∧
                                                            ((n_4 == (0 : Int)) = false →
                                                              R (Ending.returned (Value.bool false)) w')) ∧
                                                        ((n_3 == (17 : Int)) = false →
                                                          R (Ending.returned (Value.bool false)) w')) ∧
                                                    (b = false → R (Ending.returned (Value.bool false)) w')) ∧
                                                ((n_2 == (1 : Int)) = false →
                                                  R (Ending.returned (Value.bool false)) w')) ∧
                                            ((n_1 == (0 : Int)) = false → R (Ending.returned (Value.bool false)) w')) ∧
                                        ((n == (0 : Int)) = false → R (Ending.returned (Value.bool false)) w')) := by kernel_rfl
/-! (*davit/davitref05.Spin).Leave -/
def M12 : Mt := { N := 33, keep := [(0, [0, 1]), (1, [0, 1, 7]), (2, [4]), (3, [0, 1, 23]), (4, [4]), (5, []), (6, [4])], ords := [], bk := [], cuts := [], lk := [] }
noncomputable def c12 : Code := bodyOf Try.f12
theorem b12 : Try.f12.body = some c12 := by kernel_rfl
theorem n12 : Try.f12.ntmps = M12.N := by kernel_rfl
theorem u12 {p0_s : Option Addr} {p1_cpu : Int} {w : World} {R : Ending → World → Prop} (h : den Try.prog M12 c12 (argE 0 [(Value.pointer p0_s), (Value.int IntKind.i64 p1_cpu)]) w (retK Try.prog Try.f12.results.toList R)) : Calls Try.prog 12 #[(Value.pointer p0_s), (Value.int IntKind.i64 p1_cpu)] w R := calls_den okProg Try.func12 b12 n12 (Nat.le_of_ble_eq_true rfl) h
theorem t12 (p0_s : Option Addr) (p1_cpu : Int) (w : World) (R : Ending → World → Prop) : den Try.prog M12 c12 (argE 0 [(Value.pointer p0_s), (Value.int IntKind.i64 p1_cpu)]) w (retK Try.prog Try.f12.results.toList R) =
(Call Try.prog 29 [Value.int IntKind.i64 p1_cpu] w fun e w' =>
  ∃ b,
    e = Ending.returned (Value.bool b) ∧
      ((!b) = true → R (Ending.returned (Value.int IntKind.i64 3)) w') ∧
        ((!b) = false →
          ∃ a,
            p0_s = some a ∧
              ∃ p n c,
                World.cell? w' (Addr.add a 0) = some (Value.slice p n c) ∧
                  (((↑n : Int) == (0 : Int)) = false →
                      ∃ a,
                        p0_s = some a ∧
                          ∃ p n c,
                            World.cell? w' (Addr.add a 0) = some (Value.slice p n c) ∧
                              ((0 : Int) ≤ (0 : Int) ∧ (0 : Int) < (↑n : Int)) ∧
                                ∃ a,
                                  p = some a ∧
                                    ∃ n,
                                      World.cell? w' (Addr.add a 0) = some (Value.int IntKind.i64 n) ∧
                                        ((n != p1_cpu) = true →
                                            R (Ending.returned (Value.int IntKind.i64 17)) w') ∧
                                          ((n != p1_cpu) = false →
                                            ∃ a,
                                              p0_s = some a ∧
                                                ∃ p n c,
                                                  World.cell? w' (Addr.add a 0) = some (Value.slice p n c) ∧
                                                    Call Try.prog 30
                                                      [Value.slice p n c, Value.int IntKind.i64 p1_cpu] w' fun e w' =>
                                                      ∃ p n c,
                                                        e = Ending.returned (Value.slice p n c) ∧
                                                          ∃ a,
                                                            p0_s = some a ∧
                                                              Wr w' (Addr.add a 0) [Value.slice p n c] fun w' =>
                                                                R (Ending.returned (Value.int IntKind.i64 0))
                                                                  w')) ∧
                    (((↑n : Int) == (0 : Int)) = true → R (Ending.returned (Value.int IntKind.i64 17)) w'))) := by kernel_rfl
/-! (*davit/davitref05.Spin).Take -/
def M13 : Mt := { N := 24, keep := [(0, [0, 1]), (1, [0, 1, 7]), (2, [4]), (3, [0, 1, 13]), (4, [4]), (5, []), (6, [4])], ords := [], bk := [], cuts := [], lk := [] }
noncomputable def c13 : Code := bodyOf Try.f13
theorem b13 : Try.f13.body = some c13 := by kernel_rfl
theorem n13 : Try.f13.ntmps = M13.N := by kernel_rfl
theorem u13 {p0_s : Option Addr} {p1_cpu : Int} {w : World} {R : Ending → World → Prop} (h : den Try.prog M13 c13 (argE 0 [(Value.pointer p0_s), (Value.int IntKind.i64 p1_cpu)]) w (retK Try.prog Try.f13.results.toList R)) : Calls Try.prog 13 #[(Value.pointer p0_s), (Value.int IntKind.i64 p1_cpu)] w R := calls_den okProg Try.func13 b13 n13 (Nat.le_of_ble_eq_true rfl) h
theorem t13 (p0_s : Option Addr) (p1_cpu : Int) (w : World) (R : Ending → World → Prop) : den Try.prog M13 c13 (argE 0 [(Value.pointer p0_s), (Value.int IntKind.i64 p1_cpu)]) w (retK Try.prog Try.f13.results.toList R) =
(Call Try.prog 29 [Value.int IntKind.i64 p1_cpu] w fun e w' =>
  ∃ b,
    e = Ending.returned (Value.bool b) ∧
      ((!b) = true → R (Ending.returned (Value.int IntKind.i64 3)) w') ∧
        ((!b) = false →
          ∃ a,
            p0_s = some a ∧
              ∃ p n c,
                World.cell? w' (Addr.add a 0) = some (Value.slice p n c) ∧
                  Call Try.prog 31 [Value.slice p n c, Value.int IntKind.i64 p1_cpu] w' fun e w' =>
                    ∃ b,
                      e = Ending.returned (Value.bool b) ∧
                        (b = true → R (Ending.returned (Value.int IntKind.i64 6)) w') ∧
                          (b = false →
                            ∃ a,
                              p0_s = some a ∧
                                ∃ p n c,
                                  World.cell? w' (Addr.add a 0) = some (Value.slice p n c) ∧
                                    New w' [Value.int IntKind.i64 p1_cpu] 3 fun p_1 w' =>
                                      ∃ p_2 n_1 c_1 w'_1,
                                        Sem.run Try.prog
                                              (Builtin.append_ #[22, 22] 22
                                                #[Value.slice p n c, Value.slice (some p_1) 1 1])
                                              w' =
                                            Result.ok (Value.slice p_2 n_1 c_1) w'_1 ∧
                                          ∃ a,
                                            p0_s = some a ∧
                                              Wr w'_1 (Addr.add a 0) [Value.slice p_2 n_1 c_1] fun w' =>
                                                R (Ending.returned (Value.int IntKind.i64 0)) w'))) := by kernel_rfl
/-! davit/davitref01.Ints -/
def M14 : Mt := { N := 26, keep := [(0, [0, 1]), (1, [0, 1, 10]), (2, [4]), (3, [0, 1, 5]), (4, [0, 1, 5, 14]), (5, [0, 1, 5]), (6, [0, 1, 5, 25]), (7, [4]), (8, [4])], ords := [(6, [0, 1, 2, 3, 4, 5, 6, 7, 8])], bk := [(0, []), (1, [0, 1, 5])], cuts := [], lk := [(4, [0, 1, 5])] }
noncomputable def c14 : Code := bodyOf Try.f14
noncomputable def c14_0 : Code := c14.sr.sr.sr
noncomputable def c14_1 : Code := c14.sr.sr.sl.sr.sl.sl
def e14_1 (p0_a_a : Option Addr) (p0_a_n : Nat) (p0_a_c : Nat) (p1_b_a : Option Addr) (p1_b_n : Nat) (p1_b_c : Nat) (p5_i : Int) : Env := [(0, SV.v (Value.slice p0_a_a p0_a_n p0_a_c)), (1, SV.v (Value.slice p1_b_a p1_b_n p1_b_c)), (5, SV.v (Value.int IntKind.i64 p5_i))]
def k14_1 (R : Ending → World → Prop) : Cont := blockK 0 [] (seqK (fun E w => cutB (findL M14.cuts (headReg c14_0)) Try.prog M14 c14_0 E w (retK Try.prog Try.f14.results.toList R) fun E => den Try.prog M14 c14_0 E w (retK Try.prog Try.f14.results.toList R)) (retK Try.prog Try.f14.results.toList R))
theorem b14 : Try.f14.body = some c14 := by kernel_rfl
theorem n14 : Try.f14.ntmps = M14.N := by kernel_rfl
theorem u14 {p0_a_a : Option Addr} {p0_a_n : Nat} {p0_a_c : Nat} {p1_b_a : Option Addr} {p1_b_n : Nat} {p1_b_c : Nat} {w : World} {R : Ending → World → Prop} (h : den Try.prog M14 c14 (argE 0 [(Value.slice p0_a_a p0_a_n p0_a_c), (Value.slice p1_b_a p1_b_n p1_b_c)]) w (retK Try.prog Try.f14.results.toList R)) : Calls Try.prog 14 #[(Value.slice p0_a_a p0_a_n p0_a_c), (Value.slice p1_b_a p1_b_n p1_b_c)] w R := calls_den okProg Try.func14 b14 n14 (Nat.le_of_ble_eq_true rfl) h
theorem t14 (p0_a_a : Option Addr) (p0_a_n : Nat) (p0_a_c : Nat) (p1_b_a : Option Addr) (p1_b_n : Nat) (p1_b_c : Nat) (w : World) (R : Ending → World → Prop) : den Try.prog M14 c14 (argE 0 [(Value.slice p0_a_a p0_a_n p0_a_c), (Value.slice p1_b_a p1_b_n p1_b_c)]) w (retK Try.prog Try.f14.results.toList R) =
((((↑p0_a_n : Int) != (↑p1_b_n : Int)) = true → R (Ending.returned (Value.bool false)) w) ∧
  (((↑p0_a_n : Int) != (↑p1_b_n : Int)) = false →
    Cut
      (WP Try.prog 26 (Code.loop c14_1) (e14_1 p0_a_a p0_a_n p0_a_c p1_b_a p1_b_n p1_b_c (0 : Int)) w
        (k14_1 R)))) := by kernel_rfl
theorem t14_1 (p0_a_a : Option Addr) (p0_a_n : Nat) (p0_a_c : Nat) (p1_b_a : Option Addr) (p1_b_n : Nat) (p1_b_c : Nat) (p5_i : Int) (w : World) (B14_1 : Env → World → Prop) (R : Ending → World → Prop) : den Try.prog M14 c14_1 (e14_1 p0_a_a p0_a_n p0_a_c p1_b_a p1_b_n p1_b_c p5_i) w (loopK B14_1 (k14_1 R)) =
((decide (p5_i < (↑p0_a_n : Int)) = true →
    ∀ (w' : World),
      World.heap w' = World.heap w →
        World.os w' = World.os w →
          World.tape w' = World.tape w →
            World.output w' = World.output w →
              ((0 : Int) ≤ p5_i ∧ p5_i < (↑p0_a_n : Int)) ∧
                ∃ a,
                  p0_a_a = some a ∧
                    ∃ n,
                      World.cell? w' (Addr.add a (Int.toNat p5_i * 1)) = some (Value.int IntKind.i64 n) ∧
                        ((0 : Int) ≤ p5_i ∧ p5_i < (↑p1_b_n : Int)) ∧
                          ∃ a,
                            p1_b_a = some a ∧
                              ∃ n_1,
                                World.cell? w' (Addr.add a (Int.toNat p5_i * 1)) =
                                    some (Value.int IntKind.i64 n_1) ∧
                                  ((n != n_1) = true → R (Ending.returned (Value.bool false)) w') ∧
                                    ((n != n_1) = false →
                                      B14_1
                                        [(0, SV.v (Value.slice p0_a_a p0_a_n p0_a_c)),
                                          (1, SV.v (Value.slice p1_b_a p1_b_n p1_b_c)),
                                          (5,
                                            SV.v
                                              (Value.int IntKind.i64 (IntKind.wrap IntKind.i64 (p5_i + (1 : Int)))))]
                                        w')) ∧
  (decide (p5_i < (↑p0_a_n : Int)) = false → R (Ending.returned (Value.bool true)) w)) := by kernel_rfl
/-! (*davit/lock.Spin).Waits -/
def M15 : Mt := { N := 10, keep := [(0, [0]), (1, [0, 4]), (2, [2]), (3, [2])], ords := [], bk := [], cuts := [], lk := [] }
noncomputable def c15 : Code := bodyOf Try.f15
theorem b15 : Try.f15.body = some c15 := by kernel_rfl
theorem n15 : Try.f15.ntmps = M15.N := by kernel_rfl
theorem u15 {p0_s : Option Addr} {w : World} {R : Ending → World → Prop} (h : den Try.prog M15 c15 (argE 0 [(Value.pointer p0_s)]) w (retK Try.prog Try.f15.results.toList R)) : Calls Try.prog 15 #[(Value.pointer p0_s)] w R := calls_den okProg Try.func15 b15 n15 (Nat.le_of_ble_eq_true rfl) h
theorem t15 (p0_s : Option Addr) (w : World) (R : Ending → World → Prop) : den Try.prog M15 c15 (argE 0 [(Value.pointer p0_s)]) w (retK Try.prog Try.f15.results.toList R) =
((Option.isNone p0_s = true → R (Ending.returned (Value.slice none 0 0)) w) ∧
  (Option.isNone p0_s = false →
    ∃ a,
      p0_s = some a ∧
        ∃ p n c,
          World.cell? w (Addr.add a 0) = some (Value.slice p n c) ∧
            Call Try.prog 32 [Value.slice p n c] w fun e w' =>
              ∃ p n c, e = Ending.returned (Value.slice p n c) ∧ R (Ending.returned (Value.slice p n c)) w')) := by kernel_rfl
/-! (*davit/lock.Pair).Begin -/
def M16 : Mt := { N := 26, keep := [(0, [0, 1]), (1, [0, 1, 5]), (2, [0, 1, 5, 11]), (3, [4]), (4, [0, 1, 14]), (5, [4]), (6, [0, 1]), (7, []), (8, [4])], ords := [], bk := [], cuts := [], lk := [] }
noncomputable def c16 : Code := bodyOf Try.f16
theorem b16 : Try.f16.body = some c16 := by kernel_rfl
theorem n16 : Try.f16.ntmps = M16.N := by kernel_rfl
theorem u16 {p0_p : Option Addr} {p1_cpu : Int} {w : World} {R : Ending → World → Prop} (h : den Try.prog M16 c16 (argE 0 [(Value.pointer p0_p), (Value.int IntKind.i64 p1_cpu)]) w (retK Try.prog Try.f16.results.toList R)) : Calls Try.prog 16 #[(Value.pointer p0_p), (Value.int IntKind.i64 p1_cpu)] w R := calls_den okProg Try.func16 b16 n16 (Nat.le_of_ble_eq_true rfl) h
theorem t16 (p0_p : Option Addr) (p1_cpu : Int) (w : World) (R : Ending → World → Prop) : den Try.prog M16 c16 (argE 0 [(Value.pointer p0_p), (Value.int IntKind.i64 p1_cpu)]) w (retK Try.prog Try.f16.results.toList R) =
(Call Try.prog 27 [Value.bool !Option.isNone p0_p, Value.int IntKind.i64 p1_cpu] w fun e w' =>
  ∃ n,
    e = Ending.returned (Value.int IntKind.i64 n) ∧
      ((n != (0 : Int)) = true → R (Ending.returned (Value.int IntKind.i64 n)) w') ∧
        ((n != (0 : Int)) = false →
          Call Try.prog 33 [Value.pointer p0_p] w' fun e w' =>
            ∃ b,
              e = Ending.returned (Value.bool b) ∧
                (b = true → R (Ending.returned (Value.int IntKind.i64 7)) w') ∧
                  (b = false →
                    ∃ a,
                      p0_p = some a ∧
                        ∃ n,
                          World.cell? w' (Addr.add a 2) = some (Value.int IntKind.i64 n) ∧
                            ∃ a,
                              p0_p = some a ∧
                                Wr w' (Addr.add a 2)
                                  [Value.int IntKind.i64 (IntKind.wrap IntKind.i64 (n + (1 : Int)))] fun w' =>
                                  ∃ a,
                                    p0_p = some a ∧
                                      Wr w' (Addr.add a 3) [Value.int IntKind.i64 p1_cpu] fun w' =>
                                        R (Ending.returned (Value.int IntKind.i64 0)) w'))) := by kernel_rfl
/-! (*davit/davitref05.Pair).Begin -/
def M17 : Mt := { N := 26, keep := [(0, [0, 1]), (1, [0, 1, 7]), (2, [4]), (3, [0, 1, 13]), (4, [4]), (5, [0, 1]), (6, []), (7, [4])], ords := [], bk := [], cuts := [], lk := [] }
noncomputable def c17 : Code := bodyOf Try.f17
theorem b17 : Try.f17.body = some c17 := by kernel_rfl
theorem n17 : Try.f17.ntmps = M17.N := by kernel_rfl
theorem u17 {p0_p : Option Addr} {p1_cpu : Int} {w : World} {R : Ending → World → Prop} (h : den Try.prog M17 c17 (argE 0 [(Value.pointer p0_p), (Value.int IntKind.i64 p1_cpu)]) w (retK Try.prog Try.f17.results.toList R)) : Calls Try.prog 17 #[(Value.pointer p0_p), (Value.int IntKind.i64 p1_cpu)] w R := calls_den okProg Try.func17 b17 n17 (Nat.le_of_ble_eq_true rfl) h
theorem t17 (p0_p : Option Addr) (p1_cpu : Int) (w : World) (R : Ending → World → Prop) : den Try.prog M17 c17 (argE 0 [(Value.pointer p0_p), (Value.int IntKind.i64 p1_cpu)]) w (retK Try.prog Try.f17.results.toList R) =
(Call Try.prog 29 [Value.int IntKind.i64 p1_cpu] w fun e w' =>
  ∃ b,
    e = Ending.returned (Value.bool b) ∧
      ((!b) = true → R (Ending.returned (Value.int IntKind.i64 3)) w') ∧
        ((!b) = false →
          ∃ a,
            p0_p = some a ∧
              ∃ n,
                World.cell? w' (Addr.add a 2) = some (Value.int IntKind.i64 n) ∧
                  (2 : Int) ≠ (0 : Int) ∧
                    ((Int.tmod n (2 : Int) == (1 : Int)) = true →
                        R (Ending.returned (Value.int IntKind.i64 7)) w') ∧
                      ((Int.tmod n (2 : Int) == (1 : Int)) = false →
                        ∃ a,
                          p0_p = some a ∧
                            ∃ n,
                              World.cell? w' (Addr.add a 2) = some (Value.int IntKind.i64 n) ∧
                                ∃ a,
                                  p0_p = some a ∧
                                    Wr w' (Addr.add a 2)
                                      [Value.int IntKind.i64 (IntKind.wrap IntKind.i64 (n + (1 : Int)))] fun w' =>
                                      ∃ a,
                                        p0_p = some a ∧
                                          Wr w' (Addr.add a 3) [Value.int IntKind.i64 p1_cpu] fun w' =>
                                            R (Ending.returned (Value.int IntKind.i64 0)) w'))) := by kernel_rfl
/-! (*davit/lock.Pair).Put -/
def M18 : Mt := { N := 36, keep := [(0, [0, 1, 2, 3]), (1, [0, 1, 2, 3, 9]), (2, [0, 1, 2, 3, 9, 16]), (3, [8]), (4, [0, 1, 2, 3, 23]), (5, [8]), (6, [0, 2, 3, 10]), (7, [0, 2, 3, 10, 28]), (8, [10]), (9, [8])], ords := [], bk := [], cuts := [], lk := [] }
noncomputable def c18 : Code := bodyOf Try.f18
theorem b18 : Try.f18.body = some c18 := by kernel_rfl
theorem n18 : Try.f18.ntmps = M18.N := by kernel_rfl
theorem u18 {p0_p : Option Addr} {p1_cpu : Int} {p2_at : Int} {p3_n : Int} {w : World} {R : Ending → World → Prop} (h : den Try.prog M18 c18 (argE 0 [(Value.pointer p0_p), (Value.int IntKind.i64 p1_cpu), (Value.int IntKind.i64 p2_at), (Value.int IntKind.i64 p3_n)]) w (retK Try.prog Try.f18.results.toList R)) : Calls Try.prog 18 #[(Value.pointer p0_p), (Value.int IntKind.i64 p1_cpu), (Value.int IntKind.i64 p2_at), (Value.int IntKind.i64 p3_n)] w R := calls_den okProg Try.func18 b18 n18 (Nat.le_of_ble_eq_true rfl) h
theorem t18 (p0_p : Option Addr) (p1_cpu : Int) (p2_at : Int) (p3_n : Int) (w : World) (R : Ending → World → Prop) : den Try.prog M18 c18 (argE 0 [(Value.pointer p0_p), (Value.int IntKind.i64 p1_cpu), (Value.int IntKind.i64 p2_at), (Value.int IntKind.i64 p3_n)]) w (retK Try.prog Try.f18.results.toList R) =
(Call Try.prog 27 [Value.bool !Option.isNone p0_p, Value.int IntKind.i64 p1_cpu] w fun e w' =>
  ∃ n,
    e = Ending.returned (Value.int IntKind.i64 n) ∧
      ((n != (0 : Int)) = true → R (Ending.returned (Value.int IntKind.i64 n)) w') ∧
        ((n != (0 : Int)) = false →
          (decide (p2_at < (0 : Int)) = false →
              (decide (p2_at ≥ (2 : Int)) = true → R (Ending.returned (Value.int IntKind.i64 3)) w') ∧
                (decide (p2_at ≥ (2 : Int)) = false →
                  Call Try.prog 34 [Value.pointer p0_p, Value.int IntKind.i64 p1_cpu] w' fun e w' =>
                    ∃ n,
                      e = Ending.returned (Value.int IntKind.i64 n) ∧
                        ((n == (0 : Int)) = true →
                            ∃ a,
                              p0_p = some a ∧
                                ((0 : Int) ≤ p2_at ∧ p2_at < (↑2 : Int)) ∧
                                  Wr w' (Addr.add (Addr.add a 0) (Int.toNat p2_at * 1))
                                    [Value.int IntKind.i64 p3_n] fun w' =>
                                    R (Ending.returned (Value.int IntKind.i64 n)) w') ∧
                          ((n == (0 : Int)) = false → R (Ending.returned (Value.int IntKind.i64 n)) w'))) ∧
            (decide (p2_at < (0 : Int)) = true → R (Ending.returned (Value.int IntKind.i64 3)) w'))) := by kernel_rfl
/-! (*davit/davitref05.Pair).Put -/
def M19 : Mt := { N := 44, keep := [(0, [0, 1, 2, 3]), (1, [0, 1, 2, 3, 19]), (2, [8]), (3, [0, 2, 3, 33]), (4, [8]), (5, [0, 3, 35]), (6, []), (7, []), (8, [8])], ords := [], bk := [], cuts := [], lk := [] }
noncomputable def c19 : Code := bodyOf Try.f19
theorem b19 : Try.f19.body = some c19 := by kernel_rfl
theorem n19 : Try.f19.ntmps = M19.N := by kernel_rfl
theorem u19 {p0_p : Option Addr} {p1_cpu : Int} {p2_at : Int} {p3_n : Int} {w : World} {R : Ending → World → Prop} (h : den Try.prog M19 c19 (argE 0 [(Value.pointer p0_p), (Value.int IntKind.i64 p1_cpu), (Value.int IntKind.i64 p2_at), (Value.int IntKind.i64 p3_n)]) w (retK Try.prog Try.f19.results.toList R)) : Calls Try.prog 19 #[(Value.pointer p0_p), (Value.int IntKind.i64 p1_cpu), (Value.int IntKind.i64 p2_at), (Value.int IntKind.i64 p3_n)] w R := calls_den okProg Try.func19 b19 n19 (Nat.le_of_ble_eq_true rfl) h
theorem t19 (p0_p : Option Addr) (p1_cpu : Int) (p2_at : Int) (p3_n : Int) (w : World) (R : Ending → World → Prop) : den Try.prog M19 c19 (argE 0 [(Value.pointer p0_p), (Value.int IntKind.i64 p1_cpu), (Value.int IntKind.i64 p2_at), (Value.int IntKind.i64 p3_n)]) w (retK Try.prog Try.f19.results.toList R) =
(Call Try.prog 29 [Value.int IntKind.i64 p1_cpu] w fun e w' =>
  ∃ b,
    e = Ending.returned (Value.bool b) ∧
      ((!b) = false →
          (decide (p2_at < (0 : Int)) = false →
              (decide (p2_at > (1 : Int)) = true → R (Ending.returned (Value.int IntKind.i64 3)) w') ∧
                (decide (p2_at > (1 : Int)) = false →
                  ∃ a,
                    p0_p = some a ∧
                      ∃ n,
                        World.cell? w' (Addr.add a 2) = some (Value.int IntKind.i64 n) ∧
                          (2 : Int) ≠ (0 : Int) ∧
                            ((Int.tmod n (2 : Int) == (0 : Int)) = false →
                                ∃ a,
                                  p0_p = some a ∧
                                    ∃ n,
                                      World.cell? w' (Addr.add a 3) = some (Value.int IntKind.i64 n) ∧
                                        ((n != p1_cpu) = true →
                                            R (Ending.returned (Value.int IntKind.i64 17)) w') ∧
                                          ((n != p1_cpu) = false →
                                            ((p2_at == (0 : Int)) = true →
                                                ∃ a,
                                                  p0_p = some a ∧
                                                    Wr w' (Addr.add a 0) [Value.int IntKind.i64 p3_n] fun w' =>
                                                      R (Ending.returned (Value.int IntKind.i64 0)) w') ∧
                                              ((p2_at == (0 : Int)) = false →
                                                ∃ a,
                                                  p0_p = some a ∧
                                                    Wr w' (Addr.add a 1) [Value.int IntKind.i64 p3_n] fun w' =>
                                                      R (Ending.returned (Value.int IntKind.i64 0)) w'))) ∧
                              ((Int.tmod n (2 : Int) == (0 : Int)) = true →
                                R (Ending.returned (Value.int IntKind.i64 17)) w'))) ∧
            (decide (p2_at < (0 : Int)) = true → R (Ending.returned (Value.int IntKind.i64 3)) w')) ∧
        ((!b) = true → R (Ending.returned (Value.int IntKind.i64 3)) w')) := by kernel_rfl
/-! (*davit/lock.Pair).End -/
def M20 : Mt := { N := 27, keep := [(0, [0, 1]), (1, [0, 1, 5]), (2, [0, 1, 5, 12]), (3, [4]), (4, [0, 6]), (5, [0, 6, 18]), (6, [6]), (7, [4])], ords := [], bk := [], cuts := [], lk := [] }
noncomputable def c20 : Code := bodyOf Try.f20
theorem b20 : Try.f20.body = some c20 := by kernel_rfl
theorem n20 : Try.f20.ntmps = M20.N := by kernel_rfl
theorem u20 {p0_p : Option Addr} {p1_cpu : Int} {w : World} {R : Ending → World → Prop} (h : den Try.prog M20 c20 (argE 0 [(Value.pointer p0_p), (Value.int IntKind.i64 p1_cpu)]) w (retK Try.prog Try.f20.results.toList R)) : Calls Try.prog 20 #[(Value.pointer p0_p), (Value.int IntKind.i64 p1_cpu)] w R := calls_den okProg Try.func20 b20 n20 (Nat.le_of_ble_eq_true rfl) h
theorem t20 (p0_p : Option Addr) (p1_cpu : Int) (w : World) (R : Ending → World → Prop) : den Try.prog M20 c20 (argE 0 [(Value.pointer p0_p), (Value.int IntKind.i64 p1_cpu)]) w (retK Try.prog Try.f20.results.toList R) =
(Call Try.prog 27 [Value.bool !Option.isNone p0_p, Value.int IntKind.i64 p1_cpu] w fun e w' =>
  ∃ n,
    e = Ending.returned (Value.int IntKind.i64 n) ∧
      ((n != (0 : Int)) = true → R (Ending.returned (Value.int IntKind.i64 n)) w') ∧
        ((n != (0 : Int)) = false →
          Call Try.prog 34 [Value.pointer p0_p, Value.int IntKind.i64 p1_cpu] w' fun e w' =>
            ∃ n,
              e = Ending.returned (Value.int IntKind.i64 n) ∧
                ((n == (0 : Int)) = true →
                    ∃ a,
                      p0_p = some a ∧
                        ∃ n_1,
                          World.cell? w' (Addr.add a 2) = some (Value.int IntKind.i64 n_1) ∧
                            ∃ a,
                              p0_p = some a ∧
                                Wr w' (Addr.add a 2)
                                  [Value.int IntKind.i64 (IntKind.wrap IntKind.i64 (n_1 + (1 : Int)))] fun w' =>
                                  R (Ending.returned (Value.int IntKind.i64 n)) w') ∧
                  ((n == (0 : Int)) = false → R (Ending.returned (Value.int IntKind.i64 n)) w'))) := by kernel_rfl
/-! (*davit/davitref05.Pair).End -/
def M21 : Mt := { N := 30, keep := [(0, [0, 1]), (1, [0, 1, 7]), (2, [4]), (3, [0, 21]), (4, [4]), (5, []), (6, [4])], ords := [], bk := [], cuts := [], lk := [] }
noncomputable def c21 : Code := bodyOf Try.f21
theorem b21 : Try.f21.body = some c21 := by kernel_rfl
theorem n21 : Try.f21.ntmps = M21.N := by kernel_rfl
theorem u21 {p0_p : Option Addr} {p1_cpu : Int} {w : World} {R : Ending → World → Prop} (h : den Try.prog M21 c21 (argE 0 [(Value.pointer p0_p), (Value.int IntKind.i64 p1_cpu)]) w (retK Try.prog Try.f21.results.toList R)) : Calls Try.prog 21 #[(Value.pointer p0_p), (Value.int IntKind.i64 p1_cpu)] w R := calls_den okProg Try.func21 b21 n21 (Nat.le_of_ble_eq_true rfl) h
theorem t21 (p0_p : Option Addr) (p1_cpu : Int) (w : World) (R : Ending → World → Prop) : den Try.prog M21 c21 (argE 0 [(Value.pointer p0_p), (Value.int IntKind.i64 p1_cpu)]) w (retK Try.prog Try.f21.results.toList R) =
(Call Try.prog 29 [Value.int IntKind.i64 p1_cpu] w fun e w' =>
  ∃ b,
    e = Ending.returned (Value.bool b) ∧
      ((!b) = true → R (Ending.returned (Value.int IntKind.i64 3)) w') ∧
        ((!b) = false →
          ∃ a,
            p0_p = some a ∧
              ∃ n,
                World.cell? w' (Addr.add a 2) = some (Value.int IntKind.i64 n) ∧
                  (2 : Int) ≠ (0 : Int) ∧
                    ((Int.tmod n (2 : Int) == (0 : Int)) = false →
                        ∃ a,
                          p0_p = some a ∧
                            ∃ n,
                              World.cell? w' (Addr.add a 3) = some (Value.int IntKind.i64 n) ∧
                                ((n != p1_cpu) = true → R (Ending.returned (Value.int IntKind.i64 17)) w') ∧
                                  ((n != p1_cpu) = false →
                                    ∃ a,
                                      p0_p = some a ∧
                                        ∃ n,
                                          World.cell? w' (Addr.add a 2) = some (Value.int IntKind.i64 n) ∧
                                            ∃ a,
                                              p0_p = some a ∧
                                                Wr w' (Addr.add a 2)
                                                  [Value.int IntKind.i64 (IntKind.wrap IntKind.i64 (n + (1 : Int)))]
                                                  fun w' =>
                                                  R (Ending.returned (Value.int IntKind.i64 0)) w')) ∧
                      ((Int.tmod n (2 : Int) == (0 : Int)) = true →
                        R (Ending.returned (Value.int IntKind.i64 17)) w'))) := by kernel_rfl
/-! (*davit/lock.Pair).Start -/
def M22 : Mt := { N := 14, keep := [(0, [0]), (1, [0, 4]), (2, [2, 3]), (3, [0, 7]), (4, [2, 3]), (5, [2, 3])], ords := [], bk := [(0, [0])], cuts := [], lk := [] }
noncomputable def c22 : Code := bodyOf Try.f22
theorem b22 : Try.f22.body = some c22 := by kernel_rfl
theorem n22 : Try.f22.ntmps = M22.N := by kernel_rfl
theorem u22 {p0_p : Option Addr} {w : World} {R : Ending → World → Prop} (h : den Try.prog M22 c22 (argE 0 [(Value.pointer p0_p)]) w (retK Try.prog Try.f22.results.toList R)) : Calls Try.prog 22 #[(Value.pointer p0_p)] w R := calls_den okProg Try.func22 b22 n22 (Nat.le_of_ble_eq_true rfl) h
theorem t22 (p0_p : Option Addr) (w : World) (R : Ending → World → Prop) : den Try.prog M22 c22 (argE 0 [(Value.pointer p0_p)]) w (retK Try.prog Try.f22.results.toList R) =
((Option.isNone p0_p = true →
    R (Ending.returned (Value.tuple #[Value.int IntKind.i64 0, Value.int IntKind.i64 1])) w) ∧
  (Option.isNone p0_p = false →
    Call Try.prog 33 [Value.pointer p0_p] w fun e w' =>
      ∃ b,
        e = Ending.returned (Value.bool b) ∧
          (b = true →
              R (Ending.returned (Value.tuple #[Value.int IntKind.i64 0, Value.int IntKind.i64 7]))
                w') ∧
            (b = false →
              ∃ a,
                p0_p = some a ∧
                  ∃ n,
                    World.cell? w' (Addr.add a 2) = some (Value.int IntKind.i64 n) ∧
                      R (Ending.returned (Value.tuple #[Value.int IntKind.i64 n, Value.int IntKind.i64 0]))
                        w'))) := by kernel_rfl
/-! (*davit/davitref05.Pair).Start -/
def M23 : Mt := { N := 14, keep := [(0, [0]), (1, [0, 9]), (2, [2, 3]), (3, [2, 3])], ords := [], bk := [], cuts := [], lk := [] }
noncomputable def c23 : Code := bodyOf Try.f23
theorem b23 : Try.f23.body = some c23 := by kernel_rfl
theorem n23 : Try.f23.ntmps = M23.N := by kernel_rfl
theorem u23 {p0_p : Option Addr} {w : World} {R : Ending → World → Prop} (h : den Try.prog M23 c23 (argE 0 [(Value.pointer p0_p)]) w (retK Try.prog Try.f23.results.toList R)) : Calls Try.prog 23 #[(Value.pointer p0_p)] w R := calls_den okProg Try.func23 b23 n23 (Nat.le_of_ble_eq_true rfl) h
theorem t23 (p0_p : Option Addr) (w : World) (R : Ending → World → Prop) : den Try.prog M23 c23 (argE 0 [(Value.pointer p0_p)]) w (retK Try.prog Try.f23.results.toList R) =
(∃ a,
  p0_p = some a ∧
    ∃ n,
      World.cell? w (Addr.add a 2) = some (Value.int IntKind.i64 n) ∧
        (2 : Int) ≠ (0 : Int) ∧
          ((Int.tmod n (2 : Int) == (1 : Int)) = true →
              R (Ending.returned (Value.tuple #[Value.int IntKind.i64 0, Value.int IntKind.i64 7]))
                w) ∧
            ((Int.tmod n (2 : Int) == (1 : Int)) = false →
              ∃ a,
                p0_p = some a ∧
                  ∃ n,
                    World.cell? w (Addr.add a 2) = some (Value.int IntKind.i64 n) ∧
                      R (Ending.returned (Value.tuple #[Value.int IntKind.i64 n, Value.int IntKind.i64 0])) w)) := by kernel_rfl
/-! (*davit/lock.Pair).Get -/
def M24 : Mt := { N := 21, keep := [(0, [0, 1]), (1, [0, 1, 14]), (2, [4]), (3, [4])], ords := [], bk := [], cuts := [], lk := [] }
noncomputable def c24 : Code := bodyOf Try.f24
theorem b24 : Try.f24.body = some c24 := by kernel_rfl
theorem n24 : Try.f24.ntmps = M24.N := by kernel_rfl
theorem u24 {p0_p : Option Addr} {p1_at : Int} {w : World} {R : Ending → World → Prop} (h : den Try.prog M24 c24 (argE 0 [(Value.pointer p0_p), (Value.int IntKind.i64 p1_at)]) w (retK Try.prog Try.f24.results.toList R)) : Calls Try.prog 24 #[(Value.pointer p0_p), (Value.int IntKind.i64 p1_at)] w R := calls_den okProg Try.func24 b24 n24 (Nat.le_of_ble_eq_true rfl) h
theorem t24 (p0_p : Option Addr) (p1_at : Int) (w : World) (R : Ending → World → Prop) : den Try.prog M24 c24 (argE 0 [(Value.pointer p0_p), (Value.int IntKind.i64 p1_at)]) w (retK Try.prog Try.f24.results.toList R) =
((Option.isNone p0_p = false →
    (decide (p1_at < (0 : Int)) = false →
        (decide (p1_at ≥ (2 : Int)) = true → R (Ending.returned (Value.int IntKind.i64 0)) w) ∧
          (decide (p1_at ≥ (2 : Int)) = false →
            ∃ a,
              p0_p = some a ∧
                ((0 : Int) ≤ p1_at ∧ p1_at < (↑2 : Int)) ∧
                  ∃ n,
                    World.cell? w (Addr.add (Addr.add a 0) (Int.toNat p1_at * 1)) =
                        some (Value.int IntKind.i64 n) ∧
                      R (Ending.returned (Value.int IntKind.i64 n)) w)) ∧
      (decide (p1_at < (0 : Int)) = true → R (Ending.returned (Value.int IntKind.i64 0)) w)) ∧
  (Option.isNone p0_p = true → R (Ending.returned (Value.int IntKind.i64 0)) w)) := by kernel_rfl
/-! (*davit/davitref05.Pair).Get -/
def M25 : Mt := { N := 17, keep := [(0, [0, 1]), (1, [0, 1, 6]), (2, [4]), (3, [0, 12]), (4, [4]), (5, [4])], ords := [], bk := [], cuts := [], lk := [] }
noncomputable def c25 : Code := bodyOf Try.f25
theorem b25 : Try.f25.body = some c25 := by kernel_rfl
theorem n25 : Try.f25.ntmps = M25.N := by kernel_rfl
theorem u25 {p0_p : Option Addr} {p1_at : Int} {w : World} {R : Ending → World → Prop} (h : den Try.prog M25 c25 (argE 0 [(Value.pointer p0_p), (Value.int IntKind.i64 p1_at)]) w (retK Try.prog Try.f25.results.toList R)) : Calls Try.prog 25 #[(Value.pointer p0_p), (Value.int IntKind.i64 p1_at)] w R := calls_den okProg Try.func25 b25 n25 (Nat.le_of_ble_eq_true rfl) h
theorem t25 (p0_p : Option Addr) (p1_at : Int) (w : World) (R : Ending → World → Prop) : den Try.prog M25 c25 (argE 0 [(Value.pointer p0_p), (Value.int IntKind.i64 p1_at)]) w (retK Try.prog Try.f25.results.toList R) =
(((p1_at == (0 : Int)) = true →
    ∃ a,
      p0_p = some a ∧
        ∃ n,
          World.cell? w (Addr.add a 0) = some (Value.int IntKind.i64 n) ∧
            R (Ending.returned (Value.int IntKind.i64 n)) w) ∧
  ((p1_at == (0 : Int)) = false →
    ((p1_at == (1 : Int)) = true →
        ∃ a,
          p0_p = some a ∧
            ∃ n,
              World.cell? w (Addr.add a 1) = some (Value.int IntKind.i64 n) ∧
                R (Ending.returned (Value.int IntKind.i64 n)) w) ∧
      ((p1_at == (1 : Int)) = false → R (Ending.returned (Value.int IntKind.i64 0)) w))) := by kernel_rfl
/-! (*davit/lock.Pair).Again -/
def M26 : Mt := { N := 15, keep := [(0, [0, 1]), (1, [4])], ords := [], bk := [], cuts := [], lk := [] }
noncomputable def c26 : Code := bodyOf Try.f26
theorem b26 : Try.f26.body = some c26 := by kernel_rfl
theorem n26 : Try.f26.ntmps = M26.N := by kernel_rfl
theorem u26 {p0_p : Option Addr} {p1_stamp : Int} {w : World} {R : Ending → World → Prop} (h : den Try.prog M26 c26 (argE 0 [(Value.pointer p0_p), (Value.int IntKind.i64 p1_stamp)]) w (retK Try.prog Try.f26.results.toList R)) : Calls Try.prog 26 #[(Value.pointer p0_p), (Value.int IntKind.i64 p1_stamp)] w R := calls_den okProg Try.func26 b26 n26 (Nat.le_of_ble_eq_true rfl) h
theorem t26 (p0_p : Option Addr) (p1_stamp : Int) (w : World) (R : Ending → World → Prop) : den Try.prog M26 c26 (argE 0 [(Value.pointer p0_p), (Value.int IntKind.i64 p1_stamp)]) w (retK Try.prog Try.f26.results.toList R) =
((Option.isNone p0_p = false →
    ∃ a,
      p0_p = some a ∧
        ∃ n,
          World.cell? w (Addr.add a 2) = some (Value.int IntKind.i64 n) ∧
            R (Ending.returned (Value.bool (n != p1_stamp))) w) ∧
  (Option.isNone p0_p = true → R (Ending.returned (Value.bool true)) w)) := by kernel_rfl
/-! davit/lock.may -/
def M27 : Mt := { N := 15, keep := [(0, [0, 1]), (1, [1, 5]), (2, [4]), (3, [8]), (4, [4]), (5, [4])], ords := [], bk := [(0, [])], cuts := [], lk := [] }
noncomputable def c27 : Code := bodyOf Try.f27
theorem b27 : Try.f27.body = some c27 := by kernel_rfl
theorem n27 : Try.f27.ntmps = M27.N := by kernel_rfl
theorem u27 {p0_there : Bool} {p1_cpu : Int} {w : World} {R : Ending → World → Prop} (h : den Try.prog M27 c27 (argE 0 [(Value.bool p0_there), (Value.int IntKind.i64 p1_cpu)]) w (retK Try.prog Try.f27.results.toList R)) : Calls Try.prog 27 #[(Value.bool p0_there), (Value.int IntKind.i64 p1_cpu)] w R := calls_den okProg Try.func27 b27 n27 (Nat.le_of_ble_eq_true rfl) h
theorem t27 (p0_there : Bool) (p1_cpu : Int) (w : World) (R : Ending → World → Prop) : den Try.prog M27 c27 (argE 0 [(Value.bool p0_there), (Value.int IntKind.i64 p1_cpu)]) w (retK Try.prog Try.f27.results.toList R) =
(((!p0_there) = true → R (Ending.returned (Value.int IntKind.i64 1)) w) ∧
  ((!p0_there) = false →
    (decide (p1_cpu < (0 : Int)) = false →
        (decide (p1_cpu ≥ (64 : Int)) = true → R (Ending.returned (Value.int IntKind.i64 3)) w) ∧
          (decide (p1_cpu ≥ (64 : Int)) = false → R (Ending.returned (Value.int IntKind.i64 0)) w)) ∧
      (decide (p1_cpu < (0 : Int)) = true → R (Ending.returned (Value.int IntKind.i64 3)) w))) := by kernel_rfl
/-! slices.Contains[[]int,int] -/
def M28 : Mt := { N := 9, keep := [(0, [0, 1]), (1, [4])], ords := [], bk := [], cuts := [], lk := [] }
noncomputable def c28 : Code := bodyOf Try.f28
theorem b28 : Try.f28.body = some c28 := by kernel_rfl
theorem n28 : Try.f28.ntmps = M28.N := by kernel_rfl
theorem u28 {p0_s_a : Option Addr} {p0_s_n : Nat} {p0_s_c : Nat} {p1_v : Int} {w : World} {R : Ending → World → Prop} (h : den Try.prog M28 c28 (argE 0 [(Value.slice p0_s_a p0_s_n p0_s_c), (Value.int IntKind.i64 p1_v)]) w (retK Try.prog Try.f28.results.toList R)) : Calls Try.prog 28 #[(Value.slice p0_s_a p0_s_n p0_s_c), (Value.int IntKind.i64 p1_v)] w R := calls_den okProg Try.func28 b28 n28 (Nat.le_of_ble_eq_true rfl) h
theorem t28 (p0_s_a : Option Addr) (p0_s_n : Nat) (p0_s_c : Nat) (p1_v : Int) (w : World) (R : Ending → World → Prop) : den Try.prog M28 c28 (argE 0 [(Value.slice p0_s_a p0_s_n p0_s_c), (Value.int IntKind.i64 p1_v)]) w (retK Try.prog Try.f28.results.toList R) =
(Call Try.prog 35 [Value.slice p0_s_a p0_s_n p0_s_c, Value.int IntKind.i64 p1_v] w fun e w' =>
  ∃ n, e = Ending.returned (Value.int IntKind.i64 n) ∧ R (Ending.returned (Value.bool (decide (n ≥ (0 : Int))))) w') := by kernel_rfl
/-! davit/davitref05.core -/
def M29 : Mt := { N := 9, keep := [(0, [0]), (1, [2])], ords := [], bk := [], cuts := [], lk := [] }
noncomputable def c29 : Code := bodyOf Try.f29
theorem b29 : Try.f29.body = some c29 := by kernel_rfl
theorem n29 : Try.f29.ntmps = M29.N := by kernel_rfl
theorem u29 {p0_cpu : Int} {w : World} {R : Ending → World → Prop} (h : den Try.prog M29 c29 (argE 0 [(Value.int IntKind.i64 p0_cpu)]) w (retK Try.prog Try.f29.results.toList R)) : Calls Try.prog 29 #[(Value.int IntKind.i64 p0_cpu)] w R := calls_den okProg Try.func29 b29 n29 (Nat.le_of_ble_eq_true rfl) h
theorem t29 (p0_cpu : Int) (w : World) (R : Ending → World → Prop) : den Try.prog M29 c29 (argE 0 [(Value.int IntKind.i64 p0_cpu)]) w (retK Try.prog Try.f29.results.toList R) =
((decide (p0_cpu ≥ (0 : Int)) = true → R (Ending.returned (Value.bool (decide (p0_cpu < (64 : Int))))) w) ∧
  (decide (p0_cpu ≥ (0 : Int)) = false → R (Ending.returned (Value.bool false)) w)) := by kernel_rfl
/-! davit/davitref03.Without -/
def M30 : Mt := { N := 27, keep := [(0, [0, 1]), (1, [0, 1, 5]), (2, [0, 1, 5, 6]), (3, [0, 1, 5, 6, 10]), (4, [0, 1, 5, 6]), (5, [0, 1, 5, 6, 18]), (6, [0, 1, 5, 6]), (7, [4])], ords := [], bk := [(0, [5]), (1, [0, 1, 5, 6])], cuts := [], lk := [(3, [0, 1, 5, 6])] }
noncomputable def c30 : Code := bodyOf Try.f30
noncomputable def c30_0 : Code := c30.sr.sr.sr
noncomputable def c30_1 : Code := c30.sr.sr.sl.sr.sl.sl
def e30_1 (p0_l_a : Option Addr) (p0_l_n : Nat) (p0_l_c : Nat) (p1_n : Int) (p5_out_a : Option Addr) (p5_out_n : Nat) (p5_out_c : Nat) (p6_i : Int) : Env := [(0, SV.v (Value.slice p0_l_a p0_l_n p0_l_c)), (1, SV.v (Value.int IntKind.i64 p1_n)), (5, SV.v (Value.slice p5_out_a p5_out_n p5_out_c)), (6, SV.v (Value.int IntKind.i64 p6_i))]
def k30_1 (R : Ending → World → Prop) : Cont := blockK 0 [5] (seqK (fun E w => cutB (findL M30.cuts (headReg c30_0)) Try.prog M30 c30_0 E w (retK Try.prog Try.f30.results.toList R) fun E => den Try.prog M30 c30_0 E w (retK Try.prog Try.f30.results.toList R)) (retK Try.prog Try.f30.results.toList R))
theorem b30 : Try.f30.body = some c30 := by kernel_rfl
theorem n30 : Try.f30.ntmps = M30.N := by kernel_rfl
theorem u30 {p0_l_a : Option Addr} {p0_l_n : Nat} {p0_l_c : Nat} {p1_n : Int} {w : World} {R : Ending → World → Prop} (h : den Try.prog M30 c30 (argE 0 [(Value.slice p0_l_a p0_l_n p0_l_c), (Value.int IntKind.i64 p1_n)]) w (retK Try.prog Try.f30.results.toList R)) : Calls Try.prog 30 #[(Value.slice p0_l_a p0_l_n p0_l_c), (Value.int IntKind.i64 p1_n)] w R := calls_den okProg Try.func30 b30 n30 (Nat.le_of_ble_eq_true rfl) h
theorem t30 (p0_l_a : Option Addr) (p0_l_n : Nat) (p0_l_c : Nat) (p1_n : Int) (w : World) (R : Ending → World → Prop) : den Try.prog M30 c30 (argE 0 [(Value.slice p0_l_a p0_l_n p0_l_c), (Value.int IntKind.i64 p1_n)]) w (retK Try.prog Try.f30.results.toList R) =
(Cut
  (WP Try.prog 27 (Code.loop c30_1) (e30_1 p0_l_a p0_l_n p0_l_c p1_n none 0 0 (0 : Int)) w
    (k30_1 R))) := by kernel_rfl
theorem t30_1 (p0_l_a : Option Addr) (p0_l_n : Nat) (p0_l_c : Nat) (p1_n : Int) (p5_out_a : Option Addr) (p5_out_n : Nat) (p5_out_c : Nat) (p6_i : Int) (w : World) (B30_1 : Env → World → Prop) (R : Ending → World → Prop) : den Try.prog M30 c30_1 (e30_1 p0_l_a p0_l_n p0_l_c p1_n p5_out_a p5_out_n p5_out_c p6_i) w (loopK B30_1 (k30_1 R)) =
((decide (p6_i < (↑p0_l_n : Int)) = true →
    ((0 : Int) ≤ p6_i ∧ p6_i < (↑p0_l_n : Int)) ∧
      ∃ a,
        p0_l_a = some a ∧
          ∃ n,
            World.cell? w (Addr.add a (Int.toNat p6_i * 1)) = some (Value.int IntKind.i64 n) ∧
              ((n != p1_n) = true →
                  ((0 : Int) ≤ p6_i ∧ p6_i < (↑p0_l_n : Int)) ∧
                    ∃ a,
                      p0_l_a = some a ∧
                        ∃ n,
                          World.cell? w (Addr.add a (Int.toNat p6_i * 1)) = some (Value.int IntKind.i64 n) ∧
                            New w [Value.int IntKind.i64 n] 3 fun p w' =>
                              ∃ p_1 n c w'_1,
                                Sem.run Try.prog
                                      (Builtin.append_ #[22, 22] 22
                                        #[Value.slice p5_out_a p5_out_n p5_out_c,
                                          Value.slice (some p) 1 1])
                                      w' =
                                    Result.ok (Value.slice p_1 n c) w'_1 ∧
                                  B30_1
                                    [(0, SV.v (Value.slice p0_l_a p0_l_n p0_l_c)),
                                      (1, SV.v (Value.int IntKind.i64 p1_n)),
                                      (5, SV.v (Value.slice p_1 n c)),
                                      (6,
                                        SV.v (Value.int IntKind.i64 (IntKind.wrap IntKind.i64 (p6_i + (1 : Int)))))]
                                    w'_1) ∧
                ((n != p1_n) = false →
                  B30_1
                    [(0, SV.v (Value.slice p0_l_a p0_l_n p0_l_c)),
                      (1, SV.v (Value.int IntKind.i64 p1_n)),
                      (5, SV.v (Value.slice p5_out_a p5_out_n p5_out_c)),
                      (6, SV.v (Value.int IntKind.i64 (IntKind.wrap IntKind.i64 (p6_i + (1 : Int)))))]
                    w)) ∧
  (decide (p6_i < (↑p0_l_n : Int)) = false → R (Ending.returned (Value.slice p5_out_a p5_out_n p5_out_c)) w)) := by kernel_rfl
/-! davit/davitref03.Has -/
def M31 : Mt := { N := 18, keep := [(0, [0, 1]), (1, [0, 1, 5]), (2, [0, 1, 5, 9]), (3, [0, 1, 5]), (4, [0, 1, 5, 17]), (5, [4]), (6, [4])], ords := [], bk := [(0, []), (1, [0, 1, 5])], cuts := [], lk := [(2, [0, 1, 5])] }
noncomputable def c31 : Code := bodyOf Try.f31
noncomputable def c31_0 : Code := c31.sr.sr
noncomputable def c31_1 : Code := c31.sr.sl.sr.sl.sl
def e31_1 (p0_l_a : Option Addr) (p0_l_n : Nat) (p0_l_c : Nat) (p1_n : Int) (p5_i : Int) : Env := [(0, SV.v (Value.slice p0_l_a p0_l_n p0_l_c)), (1, SV.v (Value.int IntKind.i64 p1_n)), (5, SV.v (Value.int IntKind.i64 p5_i))]
def k31_1 (R : Ending → World → Prop) : Cont := blockK 0 [] (seqK (fun E w => cutB (findL M31.cuts (headReg c31_0)) Try.prog M31 c31_0 E w (retK Try.prog Try.f31.results.toList R) fun E => den Try.prog M31 c31_0 E w (retK Try.prog Try.f31.results.toList R)) (retK Try.prog Try.f31.results.toList R))
theorem b31 : Try.f31.body = some c31 := by kernel_rfl
theorem n31 : Try.f31.ntmps = M31.N := by kernel_rfl
theorem u31 {p0_l_a : Option Addr} {p0_l_n : Nat} {p0_l_c : Nat} {p1_n : Int} {w : World} {R : Ending → World → Prop} (h : den Try.prog M31 c31 (argE 0 [(Value.slice p0_l_a p0_l_n p0_l_c), (Value.int IntKind.i64 p1_n)]) w (retK Try.prog Try.f31.results.toList R)) : Calls Try.prog 31 #[(Value.slice p0_l_a p0_l_n p0_l_c), (Value.int IntKind.i64 p1_n)] w R := calls_den okProg Try.func31 b31 n31 (Nat.le_of_ble_eq_true rfl) h
theorem t31 (p0_l_a : Option Addr) (p0_l_n : Nat) (p0_l_c : Nat) (p1_n : Int) (w : World) (R : Ending → World → Prop) : den Try.prog M31 c31 (argE 0 [(Value.slice p0_l_a p0_l_n p0_l_c), (Value.int IntKind.i64 p1_n)]) w (retK Try.prog Try.f31.results.toList R) =
(Cut (WP Try.prog 18 (Code.loop c31_1) (e31_1 p0_l_a p0_l_n p0_l_c p1_n (0 : Int)) w (k31_1 R))) := by kernel_rfl
theorem t31_1 (p0_l_a : Option Addr) (p0_l_n : Nat) (p0_l_c : Nat) (p1_n : Int) (p5_i : Int) (w : World) (B31_1 : Env → World → Prop) (R : Ending → World → Prop) : den Try.prog M31 c31_1 (e31_1 p0_l_a p0_l_n p0_l_c p1_n p5_i) w (loopK B31_1 (k31_1 R)) =
((decide (p5_i < (↑p0_l_n : Int)) = true →
    ((0 : Int) ≤ p5_i ∧ p5_i < (↑p0_l_n : Int)) ∧
      ∃ a,
        p0_l_a = some a ∧
          ∃ n,
            World.cell? w (Addr.add a (Int.toNat p5_i * 1)) = some (Value.int IntKind.i64 n) ∧
              ((n == p1_n) = true → R (Ending.returned (Value.bool true)) w) ∧
                ((n == p1_n) = false →
                  B31_1
                    [(0, SV.v (Value.slice p0_l_a p0_l_n p0_l_c)),
                      (1, SV.v (Value.int IntKind.i64 p1_n)),
                      (5, SV.v (Value.int IntKind.i64 (IntKind.wrap IntKind.i64 (p5_i + (1 : Int)))))]
                    w)) ∧
  (decide (p5_i < (↑p0_l_n : Int)) = false → R (Ending.returned (Value.bool false)) w)) := by kernel_rfl
/-! slices.Clone[[]int,int] -/
def M32 : Mt := { N := 8, keep := [(0, [0]), (1, [0, 4]), (2, [2]), (3, [2])], ords := [], bk := [], cuts := [], lk := [] }
noncomputable def c32 : Code := bodyOf Try.f32
theorem b32 : Try.f32.body = some c32 := by kernel_rfl
theorem n32 : Try.f32.ntmps = M32.N := by kernel_rfl
theorem u32 {p0_s_a : Option Addr} {p0_s_n : Nat} {p0_s_c : Nat} {w : World} {R : Ending → World → Prop} (h : den Try.prog M32 c32 (argE 0 [(Value.slice p0_s_a p0_s_n p0_s_c)]) w (retK Try.prog Try.f32.results.toList R)) : Calls Try.prog 32 #[(Value.slice p0_s_a p0_s_n p0_s_c)] w R := calls_den okProg Try.func32 b32 n32 (Nat.le_of_ble_eq_true rfl) h
theorem t32 (p0_s_a : Option Addr) (p0_s_n : Nat) (p0_s_c : Nat) (w : World) (R : Ending → World → Prop) : den Try.prog M32 c32 (argE 0 [(Value.slice p0_s_a p0_s_n p0_s_c)]) w (retK Try.prog Try.f32.results.toList R) =
((Option.isNone p0_s_a = true → R (Ending.returned (Value.slice none 0 0)) w) ∧
  (Option.isNone p0_s_a = false →
    New w [] 3 fun p w' =>
      ∃ p_1 n c w'_1,
        Sem.run Try.prog
              (Builtin.append_ #[22, 22] 22
                #[Value.slice (some p) 0 0, Value.slice p0_s_a p0_s_n p0_s_c])
              w' =
            Result.ok (Value.slice p_1 n c) w'_1 ∧
          R (Ending.returned (Value.slice p_1 n c)) w'_1)) := by kernel_rfl
/-! (*davit/lock.Pair).writing -/
def M33 : Mt := { N := 9, keep := [(0, [0]), (1, [2])], ords := [], bk := [], cuts := [], lk := [] }
noncomputable def c33 : Code := bodyOf Try.f33
theorem b33 : Try.f33.body = some c33 := by kernel_rfl
theorem n33 : Try.f33.ntmps = M33.N := by kernel_rfl
theorem u33 {p0_p : Option Addr} {w : World} {R : Ending → World → Prop} (h : den Try.prog M33 c33 (argE 0 [(Value.pointer p0_p)]) w (retK Try.prog Try.f33.results.toList R)) : Calls Try.prog 33 #[(Value.pointer p0_p)] w R := calls_den okProg Try.func33 b33 n33 (Nat.le_of_ble_eq_true rfl) h
theorem t33 (p0_p : Option Addr) (w : World) (R : Ending → World → Prop) : den Try.prog M33 c33 (argE 0 [(Value.pointer p0_p)]) w (retK Try.prog Try.f33.results.toList R) =
(∃ a,
  p0_p = some a ∧
    ∃ n,
      World.cell? w (Addr.add a 2) = some (Value.int IntKind.i64 n) ∧
        R (Ending.returned (Value.bool (bitsOp BinOp.and IntKind.i64 n (1 : Int) == (1 : Int)))) w) := by kernel_rfl
/-! (*davit/lock.Pair).owned -/
def M34 : Mt := { N := 16, keep := [(0, [0, 1]), (1, [15]), (2, [4]), (3, [4])], ords := [], bk := [], cuts := [], lk := [] }
noncomputable def c34 : Code := bodyOf Try.f34
theorem b34 : Try.f34.body = some c34 := by kernel_rfl
theorem n34 : Try.f34.ntmps = M34.N := by kernel_rfl
theorem u34 {p0_p : Option Addr} {p1_cpu : Int} {w : World} {R : Ending → World → Prop} (h : den Try.prog M34 c34 (argE 0 [(Value.pointer p0_p), (Value.int IntKind.i64 p1_cpu)]) w (retK Try.prog Try.f34.results.toList R)) : Calls Try.prog 34 #[(Value.pointer p0_p), (Value.int IntKind.i64 p1_cpu)] w R := calls_den okProg Try.func34 b34 n34 (Nat.le_of_ble_eq_true rfl) h
theorem t34 (p0_p : Option Addr) (p1_cpu : Int) (w : World) (R : Ending → World → Prop) : den Try.prog M34 c34 (argE 0 [(Value.pointer p0_p), (Value.int IntKind.i64 p1_cpu)]) w (retK Try.prog Try.f34.results.toList R) =
(Call Try.prog 33 [Value.pointer p0_p] w fun e w' =>
  ∃ b,
    e = Ending.returned (Value.bool b) ∧
      ((!b) = false →
          ∃ a,
            p0_p = some a ∧
              ∃ n,
                World.cell? w' (Addr.add a 3) = some (Value.int IntKind.i64 n) ∧
                  ((n != p1_cpu) = true → R (Ending.returned (Value.int IntKind.i64 17)) w') ∧
                    ((n != p1_cpu) = false → R (Ending.returned (Value.int IntKind.i64 0)) w')) ∧
        ((!b) = true → R (Ending.returned (Value.int IntKind.i64 17)) w')) := by kernel_rfl
/-! slices.Index[[]int,int] -/
def M35 : Mt := { N := 19, keep := [(0, [0, 1]), (1, [0, 1, 7, 8]), (2, [0, 1, 7, 8, 9]), (3, [0, 1, 5, 7, 8]), (4, [0, 1, 5, 7, 8, 16]), (5, [4]), (6, [0, 1, 7, 8]), (7, [4])], ords := [], bk := [(0, []), (1, [0, 1, 7, 8])], cuts := [], lk := [(2, [0, 1, 7, 8])] }
noncomputable def c35 : Code := bodyOf Try.f35
noncomputable def c35_0 : Code := c35.sr.sr
noncomputable def c35_1 : Code := c35.sr.sl.sr.sl.sl
def e35_1 (p0_s_a : Option Addr) (p0_s_n : Nat) (p0_s_c : Nat) (p1_v : Int) (p7_t : Int) (p8_t : Int) : Env := [(0, SV.v (Value.slice p0_s_a p0_s_n p0_s_c)), (1, SV.v (Value.int IntKind.i64 p1_v)), (7, SV.v (Value.int IntKind.i64 p7_t)), (8, SV.v (Value.int IntKind.i64 p8_t))]
def k35_1 (R : Ending → World → Prop) : Cont := blockK 0 [] (seqK (fun E w => cutB (findL M35.cuts (headReg c35_0)) Try.prog M35 c35_0 E w (retK Try.prog Try.f35.results.toList R) fun E => den Try.prog M35 c35_0 E w (retK Try.prog Try.f35.results.toList R)) (retK Try.prog Try.f35.results.toList R))
theorem b35 : Try.f35.body = some c35 := by kernel_rfl
theorem n35 : Try.f35.ntmps = M35.N := by kernel_rfl
theorem u35 {p0_s_a : Option Addr} {p0_s_n : Nat} {p0_s_c : Nat} {p1_v : Int} {w : World} {R : Ending → World → Prop} (h : den Try.prog M35 c35 (argE 0 [(Value.slice p0_s_a p0_s_n p0_s_c), (Value.int IntKind.i64 p1_v)]) w (retK Try.prog Try.f35.results.toList R)) : Calls Try.prog 35 #[(Value.slice p0_s_a p0_s_n p0_s_c), (Value.int IntKind.i64 p1_v)] w R := calls_den okProg Try.func35 b35 n35 (Nat.le_of_ble_eq_true rfl) h
theorem t35 (p0_s_a : Option Addr) (p0_s_n : Nat) (p0_s_c : Nat) (p1_v : Int) (w : World) (R : Ending → World → Prop) : den Try.prog M35 c35 (argE 0 [(Value.slice p0_s_a p0_s_n p0_s_c), (Value.int IntKind.i64 p1_v)]) w (retK Try.prog Try.f35.results.toList R) =
(Cut
  (WP Try.prog 19 (Code.loop c35_1) (e35_1 p0_s_a p0_s_n p0_s_c p1_v (↑p0_s_n : Int) (0 : Int)) w
    (k35_1 R))) := by kernel_rfl
theorem t35_1 (p0_s_a : Option Addr) (p0_s_n : Nat) (p0_s_c : Nat) (p1_v : Int) (p7_t : Int) (p8_t : Int) (w : World) (B35_1 : Env → World → Prop) (R : Ending → World → Prop) : den Try.prog M35 c35_1 (e35_1 p0_s_a p0_s_n p0_s_c p1_v p7_t p8_t) w (loopK B35_1 (k35_1 R)) =
((decide (p8_t < p7_t) = true →
    ((0 : Int) ≤ p8_t ∧ p8_t < (↑p0_s_n : Int)) ∧
      ∃ a,
        p0_s_a = some a ∧
          ∃ n,
            World.cell? w (Addr.add a (Int.toNat p8_t * 1)) = some (Value.int IntKind.i64 n) ∧
              ((p1_v == n) = true → R (Ending.returned (Value.int IntKind.i64 p8_t)) w) ∧
                ((p1_v == n) = false →
                  B35_1
                    [(0, SV.v (Value.slice p0_s_a p0_s_n p0_s_c)),
                      (1, SV.v (Value.int IntKind.i64 p1_v)), (7, SV.v (Value.int IntKind.i64 p7_t)),
                      (8, SV.v (Value.int IntKind.i64 (IntKind.wrap IntKind.i64 (p8_t + (1 : Int)))))]
                    w)) ∧
  (decide (p8_t < p7_t) = false → R (Ending.returned (Value.int IntKind.i64 (-1 : Int))) w)) := by kernel_rfl
end Go.Dav
