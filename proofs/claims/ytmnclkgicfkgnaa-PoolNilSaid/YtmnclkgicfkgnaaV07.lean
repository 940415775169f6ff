/- What functions of the program come to. -/
import Derived.Test.YtmnclkgicfkgnaaPrg07
namespace Go.Dav
open Go.Proofs
/-! davit/davitlaw07.PoolOnce -/
def M3 : Mt := { N := 120, keep := [(0, [0, 1]), (1, [0, 1, 5, 6]), (2, [0, 1, 5, 24]), (3, [4]), (4, [0, 1, 5, 7]), (5, [0, 1, 5, 7, 41]), (6, [0, 1, 5, 7]), (7, [0, 1, 5, 7, 48]), (8, [0, 1, 5, 7]), (9, [0, 1, 5, 7, 8]), (10, [0, 1, 5, 7, 8, 9]), (11, [0, 1, 5, 7, 8, 9, 58]), (12, [0, 1, 5, 7, 8, 9]), (13, [0, 1, 5, 7, 8, 9]), (14, [0, 1, 5, 7, 8, 10, 11]), (15, [0, 1, 5, 7, 8, 10, 11, 13, 14]), (16, [0, 1, 5, 7, 8, 10, 11, 13, 79]), (17, [0, 1, 5, 7, 83]), (18, [4]), (19, [0, 1, 5, 7, 8, 10, 11, 13, 15]), (20, [0, 1, 5, 7, 118]), (21, [4]), (22, [4])], ords := [], bk := [(0, []), (1, [0, 1, 5, 7]), (2, [0, 1, 5, 7, 8]), (3, [0, 1, 5, 7, 8, 9])], cuts := [(14, [0, 1, 5, 7, 8]), (22, [])], lk := [(5, [0, 1, 5, 7]), (11, [0, 1, 5, 7, 8, 9])] }
noncomputable def c3 : Code := bodyOf Try.f3
noncomputable def c3_0 : Code := c3.sr.sr.sr.sr
noncomputable def c3_1 : Code := c3.sr.sr.sr.sl.sr.sl.sl
noncomputable def c3_2 : Code := c3.sr.sr.sr.sl.sr.sl.sl.sr.sr
noncomputable def c3_3 : Code := c3.sr.sr.sr.sl.sr.sl.sl.sr.sl.sl.sr.sr.sr
noncomputable def c3_4 : Code := c3.sr.sr.sr.sl.sr.sl.sl.sr.sl.sl.sr.sr.sl.sr.sl.sl
def e3_0  : Env := []
def e3_1 (p0_pages : Int) (p1_acts_a : Option Addr) (p1_acts_n : Nat) (p1_acts_c : Nat) (p5_p : Option Addr) (p7_i : Int) : Env := [(0, SV.v (Value.int IntKind.i64 p0_pages)), (1, SV.v (Value.slice p1_acts_a p1_acts_n p1_acts_c)), (5, SV.v (Value.pointer p5_p)), (7, SV.v (Value.int IntKind.i64 p7_i))]
def e3_3 (p0_pages : Int) (p1_acts_a : Option Addr) (p1_acts_n : Nat) (p1_acts_c : Nat) (p5_p : Option Addr) (p7_i : Int) (p8_was_a : Option Addr) (p8_was_n : Nat) (p8_was_c : Nat) : Env := [(0, SV.v (Value.int IntKind.i64 p0_pages)), (1, SV.v (Value.slice p1_acts_a p1_acts_n p1_acts_c)), (5, SV.v (Value.pointer p5_p)), (7, SV.v (Value.int IntKind.i64 p7_i)), (8, SV.v (Value.slice p8_was_a p8_was_n p8_was_c))]
def e3_4 (p0_pages : Int) (p1_acts_a : Option Addr) (p1_acts_n : Nat) (p1_acts_c : Nat) (p5_p : Option Addr) (p7_i : Int) (p8_was_a : Option Addr) (p8_was_n : Nat) (p8_was_c : Nat) (p9_k : Int) : Env := [(0, SV.v (Value.int IntKind.i64 p0_pages)), (1, SV.v (Value.slice p1_acts_a p1_acts_n p1_acts_c)), (5, SV.v (Value.pointer p5_p)), (7, SV.v (Value.int IntKind.i64 p7_i)), (8, SV.v (Value.slice p8_was_a p8_was_n p8_was_c)), (9, SV.v (Value.int IntKind.i64 p9_k))]
def k3_0 (R : Ending → World → Prop) : Cont := retK Try.prog Try.f3.results.toList R
def k3_1 (R : Ending → World → Prop) : Cont := blockK 0 [] (seqK (fun E w => cutB (findL M3.cuts (headReg c3_0)) Try.prog M3 c3_0 E w (retK Try.prog Try.f3.results.toList R) fun E => den Try.prog M3 c3_0 E w (retK Try.prog Try.f3.results.toList R)) (retK Try.prog Try.f3.results.toList R))
def k3_3 (B3_1 : Env → World → Prop) (R : Ending → World → Prop) : Cont := blockK 1 [0, 1, 5, 7] (seqK (fun E w => cutB (findL M3.cuts (headReg c3_2)) Try.prog M3 c3_2 E w (loopK B3_1 (blockK 0 [] (seqK (fun E w => cutB (findL M3.cuts (headReg c3_0)) Try.prog M3 c3_0 E w (retK Try.prog Try.f3.results.toList R) fun E => den Try.prog M3 c3_0 E w (retK Try.prog Try.f3.results.toList R)) (retK Try.prog Try.f3.results.toList R)))) fun E => den Try.prog M3 c3_2 E w (loopK B3_1 (blockK 0 [] (seqK (fun E w => cutB (findL M3.cuts (headReg c3_0)) Try.prog M3 c3_0 E w (retK Try.prog Try.f3.results.toList R) fun E => den Try.prog M3 c3_0 E w (retK Try.prog Try.f3.results.toList R)) (retK Try.prog Try.f3.results.toList R))))) (loopK B3_1 (blockK 0 [] (seqK (fun E w => cutB (findL M3.cuts (headReg c3_0)) Try.prog M3 c3_0 E w (retK Try.prog Try.f3.results.toList R) fun E => den Try.prog M3 c3_0 E w (retK Try.prog Try.f3.results.toList R)) (retK Try.prog Try.f3.results.toList R)))))
def k3_4 (B3_1 : Env → World → Prop) (R : Ending → World → Prop) : Cont := blockK 2 [0, 1, 5, 7, 8] (seqK (fun E w => cutB (findL M3.cuts (headReg c3_3)) Try.prog M3 c3_3 E w (blockK 1 [0, 1, 5, 7] (seqK (fun E w => cutB (findL M3.cuts (headReg c3_2)) Try.prog M3 c3_2 E w (loopK B3_1 (blockK 0 [] (seqK (fun E w => cutB (findL M3.cuts (headReg c3_0)) Try.prog M3 c3_0 E w (retK Try.prog Try.f3.results.toList R) fun E => den Try.prog M3 c3_0 E w (retK Try.prog Try.f3.results.toList R)) (retK Try.prog Try.f3.results.toList R)))) fun E => den Try.prog M3 c3_2 E w (loopK B3_1 (blockK 0 [] (seqK (fun E w => cutB (findL M3.cuts (headReg c3_0)) Try.prog M3 c3_0 E w (retK Try.prog Try.f3.results.toList R) fun E => den Try.prog M3 c3_0 E w (retK Try.prog Try.f3.results.toList R)) (retK Try.prog Try.f3.results.toList R))))) (loopK B3_1 (blockK 0 [] (seqK (fun E w => cutB (findL M3.cuts (headReg c3_0)) Try.prog M3 c3_0 E w (retK Try.prog Try.f3.results.toList R) fun E => den Try.prog M3 c3_0 E w (retK Try.prog Try.f3.results.toList R)) (retK Try.prog Try.f3.results.toList R)))))) fun E => den Try.prog M3 c3_3 E w (blockK 1 [0, 1, 5, 7] (seqK (fun E w => cutB (findL M3.cuts (headReg c3_2)) Try.prog M3 c3_2 E w (loopK B3_1 (blockK 0 [] (seqK (fun E w => cutB (findL M3.cuts (headReg c3_0)) Try.prog M3 c3_0 E w (retK Try.prog Try.f3.results.toList R) fun E => den Try.prog M3 c3_0 E w (retK Try.prog Try.f3.results.toList R)) (retK Try.prog Try.f3.results.toList R)))) fun E => den Try.prog M3 c3_2 E w (loopK B3_1 (blockK 0 [] (seqK (fun E w => cutB (findL M3.cuts (headReg c3_0)) Try.prog M3 c3_0 E w (retK Try.prog Try.f3.results.toList R) fun E => den Try.prog M3 c3_0 E w (retK Try.prog Try.f3.results.toList R)) (retK Try.prog Try.f3.results.toList R))))) (loopK B3_1 (blockK 0 [] (seqK (fun E w => cutB (findL M3.cuts (headReg c3_0)) Try.prog M3 c3_0 E w (retK Try.prog Try.f3.results.toList R) fun E => den Try.prog M3 c3_0 E w (retK Try.prog Try.f3.results.toList R)) (retK Try.prog Try.f3.results.toList R))))))) (blockK 1 [0, 1, 5, 7] (seqK (fun E w => cutB (findL M3.cuts (headReg c3_2)) Try.prog M3 c3_2 E w (loopK B3_1 (blockK 0 [] (seqK (fun E w => cutB (findL M3.cuts (headReg c3_0)) Try.prog M3 c3_0 E w (retK Try.prog Try.f3.results.toList R) fun E => den Try.prog M3 c3_0 E w (retK Try.prog Try.f3.results.toList R)) (retK Try.prog Try.f3.results.toList R)))) fun E => den Try.prog M3 c3_2 E w (loopK B3_1 (blockK 0 [] (seqK (fun E w => cutB (findL M3.cuts (headReg c3_0)) Try.prog M3 c3_0 E w (retK Try.prog Try.f3.results.toList R) fun E => den Try.prog M3 c3_0 E w (retK Try.prog Try.f3.results.toList R)) (retK Try.prog Try.f3.results.toList R))))) (loopK B3_1 (blockK 0 [] (seqK (fun E w => cutB (findL M3.cuts (headReg c3_0)) Try.prog M3 c3_0 E w (retK Try.prog Try.f3.results.toList R) fun E => den Try.prog M3 c3_0 E w (retK Try.prog Try.f3.results.toList R)) (retK Try.prog Try.f3.results.toList R)))))))
theorem b3 : Try.f3.body = some c3 := by kernel_rfl
theorem n3 : Try.f3.ntmps = M3.N := by kernel_rfl
theorem u3 {p0_pages : Int} {p1_acts_a : Option Addr} {p1_acts_n : Nat} {p1_acts_c : Nat} {w : World} {R : Ending → World → Prop} (h : den Try.prog M3 c3 (argE 0 [(Value.int IntKind.i64 p0_pages), (Value.slice p1_acts_a p1_acts_n p1_acts_c)]) w (retK Try.prog Try.f3.results.toList R)) : Calls Try.prog 3 #[(Value.int IntKind.i64 p0_pages), (Value.slice p1_acts_a p1_acts_n p1_acts_c)] w R := calls_den okProg Try.func3 b3 n3 (Nat.le_of_ble_eq_true rfl) h
theorem t3 (p0_pages : Int) (p1_acts_a : Option Addr) (p1_acts_n : Nat) (p1_acts_c : Nat) (w : World) (R : Ending → World → Prop) : den Try.prog M3 c3 (argE 0 [(Value.int IntKind.i64 p0_pages), (Value.slice p1_acts_a p1_acts_n p1_acts_c)]) w (retK Try.prog Try.f3.results.toList R) =
(Call Try.prog 6 [Value.int IntKind.i64 p0_pages] w fun e w' =>
  ∃ p n,
    e = Ending.returned (Value.tuple #[Value.pointer p, Value.int IntKind.i64 n]) ∧
      ((n != (0 : Int)) = true →
          (decide (p0_pages < (1 : Int)) = false →
              (decide (p0_pages > (12 : Int)) = true →
                  Call Try.prog 7 [] w' fun e w' =>
                    ∃ b, e = Ending.returned (Value.bool b) ∧ R (Ending.returned (Value.bool b)) w') ∧
                (decide (p0_pages > (12 : Int)) = false → R (Ending.returned (Value.bool false)) w')) ∧
            (decide (p0_pages < (1 : Int)) = true →
              Call Try.prog 7 [] w' fun e w' =>
                ∃ b, e = Ending.returned (Value.bool b) ∧ R (Ending.returned (Value.bool b)) w')) ∧
        ((n != (0 : Int)) = false →
          Cut
            (WP Try.prog 120 (Code.loop c3_1) (e3_1 p0_pages p1_acts_a p1_acts_n p1_acts_c p (0 : Int)) w'
              (k3_1 R)))) := by kernel_rfl
theorem t3_0  (w : World) (R : Ending → World → Prop) : den Try.prog M3 c3_0 (e3_0 ) w (k3_0 R) =
(Call Try.prog 7 [] w fun e w' =>
  ∃ b, e = Ending.returned (Value.bool b) ∧ R (Ending.returned (Value.bool b)) w') := by kernel_rfl
theorem t3_1 (p0_pages : Int) (p1_acts_a : Option Addr) (p1_acts_n : Nat) (p1_acts_c : Nat) (p5_p : Option Addr) (p7_i : Int) (w : World) (B3_1 : Env → World → Prop) (R : Ending → World → Prop) : den Try.prog M3 c3_1 (e3_1 p0_pages p1_acts_a p1_acts_n p1_acts_c p5_p p7_i) w (loopK B3_1 (k3_1 R)) =
((decide (p7_i < (↑p1_acts_n : Int)) = true →
    (decide (p7_i < (200 : Int)) = true →
        ((0 : Int) ≤ p7_i ∧ p7_i < (↑p1_acts_n : Int)) ∧
          ∃ a,
            p1_acts_a = some a ∧
              ∃ n,
                World.cell? w (Addr.add a (Int.toNat p7_i * 1)) = some (Value.int IntKind.i64 n) ∧
                  ((n != (0 : Int)) = true →
                      ((0 : Int) ≤ p7_i ∧ p7_i < (↑p1_acts_n : Int)) ∧
                        ∃ a,
                          p1_acts_a = some a ∧
                            ∃ n,
                              World.cell? w (Addr.add a (Int.toNat p7_i * 1)) =
                                  some (Value.int IntKind.i64 n) ∧
                                Call Try.prog 8 [Value.pointer p5_p, Value.int IntKind.i64 n] w fun e w' =>
                                  ∃ n,
                                    e = Ending.returned (Value.int IntKind.i64 n) ∧
                                      B3_1
                                        [(0, SV.v (Value.int IntKind.i64 p0_pages)),
                                          (1, SV.v (Value.slice p1_acts_a p1_acts_n p1_acts_c)),
                                          (5, SV.v (Value.pointer p5_p)),
                                          (7,
                                            SV.v
                                              (Value.int IntKind.i64 (IntKind.wrap IntKind.i64 (p7_i + (1 : Int)))))]
                                        w') ∧
                    ((n != (0 : Int)) = false →
                      Cut
                        (WP Try.prog 120 (Code.loop c3_4)
                          (e3_4 p0_pages p1_acts_a p1_acts_n p1_acts_c p5_p p7_i none 0 0
                            (0 : Int))
                          w (k3_4 B3_1 R)))) ∧
      (decide (p7_i < (200 : Int)) = false → CutD Try.prog M3 c3_0 e3_0 w (k3_0 R))) ∧
  (decide (p7_i < (↑p1_acts_n : Int)) = false → CutD Try.prog M3 c3_0 e3_0 w (k3_0 R))) := by kernel_rfl
theorem t3_3 (p0_pages : Int) (p1_acts_a : Option Addr) (p1_acts_n : Nat) (p1_acts_c : Nat) (p5_p : Option Addr) (p7_i : Int) (p8_was_a : Option Addr) (p8_was_n : Nat) (p8_was_c : Nat) (w : World) (B3_1 : Env → World → Prop) (R : Ending → World → Prop) : den Try.prog M3 c3_3 (e3_3 p0_pages p1_acts_a p1_acts_n p1_acts_c p5_p p7_i p8_was_a p8_was_n p8_was_c) w (k3_3 B3_1 R) =
(Call Try.prog 10 [Value.pointer p5_p] w fun e w' =>
  ∃ n n_1 n_2,
    e = Ending.returned (Value.tuple #[Value.int IntKind.i64 n, Value.int IntKind.i64 n_1, Value.int IntKind.i64 n_2]) ∧
      Call Try.prog 11 [Value.pointer p5_p] w' fun e w' =>
        ∃ n_3 n_4,
          e = Ending.returned (Value.tuple #[Value.int IntKind.i64 n_3, Value.int IntKind.i64 n_4]) ∧
            ((n_4 != (0 : Int)) = true →
                (decide (IntKind.wrap IntKind.i64 (n + n_1) > (0 : Int)) = true →
                    R (Ending.returned (Value.bool false)) w') ∧
                  (decide (IntKind.wrap IntKind.i64 (n + n_1) > (0 : Int)) = false →
                    B3_1
                      [(0, SV.v (Value.int IntKind.i64 p0_pages)),
                        (1, SV.v (Value.slice p1_acts_a p1_acts_n p1_acts_c)),
                        (5, SV.v (Value.pointer p5_p)),
                        (7, SV.v (Value.int IntKind.i64 (IntKind.wrap IntKind.i64 (p7_i + (1 : Int)))))]
                      w')) ∧
              ((n_4 != (0 : Int)) = false →
                Call Try.prog 10 [Value.pointer p5_p] w' fun e w' =>
                  ∃ n_5 n_6 n_7,
                    e =
                        Ending.returned
                          (Value.tuple
                            #[Value.int IntKind.i64 n_5, Value.int IntKind.i64 n_6, Value.int IntKind.i64 n_7]) ∧
                      (decide (n_3 < (1 : Int)) = false →
                          (decide (n_3 > IntKind.wrap IntKind.i64 ((8 : Int) * p0_pages)) = false →
                              ((0 : Int) ≤ n_3 ∧ n_3 < (↑p8_was_n : Int)) ∧
                                ∃ a,
                                  p8_was_a = some a ∧
                                    ∃ b,
                                      World.cell? w' (Addr.add a (Int.toNat n_3 * 1)) = some (Value.bool b) ∧
                                        (b = false →
                                            Call Try.prog 9 [Value.pointer p5_p, Value.int IntKind.i64 n_3] w'
                                              fun e w' =>
                                              ∃ b,
                                                e = Ending.returned (Value.bool b) ∧
                                                  ((!b) = false →
                                                      (decide (n_5 < n) = true →
                                                          (decide (n_1 > (0 : Int)) = true →
                                                              R (Ending.returned (Value.bool false)) w') ∧
                                                            (decide (n_1 > (0 : Int)) = false →
                                                              B3_1
                                                                [(0, SV.v (Value.int IntKind.i64 p0_pages)),
                                                                  (1,
                                                                    SV.v
                                                                      (Value.slice p1_acts_a p1_acts_n p1_acts_c)),
                                                                  (5, SV.v (Value.pointer p5_p)),
                                                                  (7,
                                                                    SV.v
                                                                      (Value.int IntKind.i64
                                                                        (IntKind.wrap IntKind.i64
                                                                          (p7_i + (1 : Int)))))]
                                                                w')) ∧
                                                        (decide (n_5 < n) = false →
                                                          B3_1
                                                            [(0, SV.v (Value.int IntKind.i64 p0_pages)),
                                                              (1,
                                                                SV.v (Value.slice p1_acts_a p1_acts_n p1_acts_c)),
                                                              (5, SV.v (Value.pointer p5_p)),
                                                              (7,
                                                                SV.v
                                                                  (Value.int IntKind.i64
                                                                    (IntKind.wrap IntKind.i64 (p7_i + (1 : Int)))))]
                                                            w')) ∧
                                                    ((!b) = true → R (Ending.returned (Value.bool false)) w')) ∧
                                          (b = true → R (Ending.returned (Value.bool false)) w')) ∧
                            (decide (n_3 > IntKind.wrap IntKind.i64 ((8 : Int) * p0_pages)) = true →
                              R (Ending.returned (Value.bool false)) w')) ∧
                        (decide (n_3 < (1 : Int)) = true → R (Ending.returned (Value.bool false)) w'))) := by kernel_rfl
theorem t3_4 (p0_pages : Int) (p1_acts_a : Option Addr) (p1_acts_n : Nat) (p1_acts_c : Nat) (p5_p : Option Addr) (p7_i : Int) (p8_was_a : Option Addr) (p8_was_n : Nat) (p8_was_c : Nat) (p9_k : Int) (w : World) (B3_1 : Env → World → Prop) (B3_4 : Env → World → Prop) (R : Ending → World → Prop) : den Try.prog M3 c3_4 (e3_4 p0_pages p1_acts_a p1_acts_n p1_acts_c p5_p p7_i p8_was_a p8_was_n p8_was_c p9_k) w (loopK B3_4 (k3_4 B3_1 R)) =
((decide (p9_k ≤ IntKind.wrap IntKind.i64 ((8 : Int) * p0_pages)) = true →
    Call Try.prog 9 [Value.pointer p5_p, Value.int IntKind.i64 p9_k] w fun e w' =>
      ∃ b,
        e = Ending.returned (Value.bool b) ∧
          New w' [Value.bool b] 4 fun p w' =>
            ∃ p_1 n c w'_1,
              Sem.run Try.prog
                    (Builtin.append_ #[29, 29] 29
                      #[Value.slice p8_was_a p8_was_n p8_was_c, Value.slice (some p) 1 1])
                    w' =
                  Result.ok (Value.slice p_1 n c) w'_1 ∧
                B3_4
                  [(0, SV.v (Value.int IntKind.i64 p0_pages)),
                    (1, SV.v (Value.slice p1_acts_a p1_acts_n p1_acts_c)),
                    (5, SV.v (Value.pointer p5_p)), (7, SV.v (Value.int IntKind.i64 p7_i)),
                    (8, SV.v (Value.slice p_1 n c)),
                    (9, SV.v (Value.int IntKind.i64 (IntKind.wrap IntKind.i64 (p9_k + (1 : Int)))))]
                  w'_1) ∧
  (decide (p9_k ≤ IntKind.wrap IntKind.i64 ((8 : Int) * p0_pages)) = false →
    CutD Try.prog M3 c3_3 (e3_3 p0_pages p1_acts_a p1_acts_n p1_acts_c p5_p p7_i p8_was_a p8_was_n p8_was_c) w
      (k3_3 B3_1 R))) := by kernel_rfl
/-! davit/davitlaw07.PoolPlays -/
def M4 : Mt := { N := 133, keep := [(0, [0, 1, 2]), (1, [0, 1, 2, 7, 8]), (2, [1, 2, 7, 8, 9, 10]), (3, [1, 2, 7, 9, 41]), (4, [6]), (5, [1, 2, 7, 9, 43]), (6, [6]), (7, [1, 2, 7, 9, 11]), (8, [1, 2, 7, 9, 11, 52]), (9, [1, 2, 7, 9, 11]), (10, [1, 2, 7, 9, 11, 59]), (11, [1, 2, 7, 9, 11, 12, 13]), (12, [1, 2, 7, 9, 11, 12, 13, 14, 15]), (13, [1, 2, 7, 9, 11, 77]), (14, [6]), (15, [1, 2, 7, 9, 11, 90]), (16, [6]), (17, [1, 2, 7, 9, 11, 16, 17, 18]), (18, [1, 2, 7, 9, 11, 16, 17, 18, 19, 20, 21]), (19, [1, 2, 7, 9, 11, 131]), (20, [6]), (21, [6])], ords := [(15, [0, 1, 2, 3, 4, 6, 7, 8, 9, 10, 5, 11, 12])], bk := [(0, []), (1, [1, 2, 7, 9, 11])], cuts := [(17, [1, 2, 7, 9, 11]), (21, [])], lk := [(8, [1, 2, 7, 9, 11])] }
noncomputable def c4 : Code := bodyOf Try.f4
noncomputable def c4_0 : Code := c4.sr.sr.sr.sr.sr.sr
noncomputable def c4_1 : Code := c4.sr.sr.sr.sr.sr.sl.sr.sl.sl
noncomputable def c4_2 : Code := c4.sr.sr.sr.sr.sr.sl.sr.sl.sl.sr.sr
noncomputable def c4_3 : Code := c4.sr.sr.sr.sr.sr.sl.sr.sl.sl.sr.sl.sl.sr
def e4_0  : Env := []
def e4_1 (p1_acts_a : Option Addr) (p1_acts_n : Nat) (p1_acts_c : Nat) (p2_id : Int) (p7_p : Option Addr) (p9_r : Option Addr) (p11_i : Int) : Env := [(1, SV.v (Value.slice p1_acts_a p1_acts_n p1_acts_c)), (2, SV.v (Value.int IntKind.i64 p2_id)), (7, SV.v (Value.pointer p7_p)), (9, SV.v (Value.pointer p9_r)), (11, SV.v (Value.int IntKind.i64 p11_i))]
def e4_3 (p1_acts_a : Option Addr) (p1_acts_n : Nat) (p1_acts_c : Nat) (p2_id : Int) (p7_p : Option Addr) (p9_r : Option Addr) (p11_i : Int) : Env := [(1, SV.v (Value.slice p1_acts_a p1_acts_n p1_acts_c)), (2, SV.v (Value.int IntKind.i64 p2_id)), (7, SV.v (Value.pointer p7_p)), (9, SV.v (Value.pointer p9_r)), (11, SV.v (Value.int IntKind.i64 p11_i))]
def k4_0 (R : Ending → World → Prop) : Cont := retK Try.prog Try.f4.results.toList R
def k4_1 (R : Ending → World → Prop) : Cont := blockK 0 [] (seqK (fun E w => cutB (findL M4.cuts (headReg c4_0)) Try.prog M4 c4_0 E w (retK Try.prog Try.f4.results.toList R) fun E => den Try.prog M4 c4_0 E w (retK Try.prog Try.f4.results.toList R)) (retK Try.prog Try.f4.results.toList R))
def k4_3 (B4_1 : Env → World → Prop) (R : Ending → World → Prop) : Cont := blockK 1 [1, 2, 7, 9, 11] (seqK (fun E w => cutB (findL M4.cuts (headReg c4_2)) Try.prog M4 c4_2 E w (loopK B4_1 (blockK 0 [] (seqK (fun E w => cutB (findL M4.cuts (headReg c4_0)) Try.prog M4 c4_0 E w (retK Try.prog Try.f4.results.toList R) fun E => den Try.prog M4 c4_0 E w (retK Try.prog Try.f4.results.toList R)) (retK Try.prog Try.f4.results.toList R)))) fun E => den Try.prog M4 c4_2 E w (loopK B4_1 (blockK 0 [] (seqK (fun E w => cutB (findL M4.cuts (headReg c4_0)) Try.prog M4 c4_0 E w (retK Try.prog Try.f4.results.toList R) fun E => den Try.prog M4 c4_0 E w (retK Try.prog Try.f4.results.toList R)) (retK Try.prog Try.f4.results.toList R))))) (loopK B4_1 (blockK 0 [] (seqK (fun E w => cutB (findL M4.cuts (headReg c4_0)) Try.prog M4 c4_0 E w (retK Try.prog Try.f4.results.toList R) fun E => den Try.prog M4 c4_0 E w (retK Try.prog Try.f4.results.toList R)) (retK Try.prog Try.f4.results.toList R)))))
theorem b4 : Try.f4.body = some c4 := by kernel_rfl
theorem n4 : Try.f4.ntmps = M4.N := by kernel_rfl
theorem u4 {p0_pages : Int} {p1_acts_a : Option Addr} {p1_acts_n : Nat} {p1_acts_c : Nat} {p2_id : Int} {w : World} {R : Ending → World → Prop} (h : den Try.prog M4 c4 (argE 0 [(Value.int IntKind.i64 p0_pages), (Value.slice p1_acts_a p1_acts_n p1_acts_c), (Value.int IntKind.i64 p2_id)]) w (retK Try.prog Try.f4.results.toList R)) : Calls Try.prog 4 #[(Value.int IntKind.i64 p0_pages), (Value.slice p1_acts_a p1_acts_n p1_acts_c), (Value.int IntKind.i64 p2_id)] w R := calls_den okProg Try.func4 b4 n4 (Nat.le_of_ble_eq_true rfl) h
theorem t4 (p0_pages : Int) (p1_acts_a : Option Addr) (p1_acts_n : Nat) (p1_acts_c : Nat) (p2_id : Int) (w : World) (R : Ending → World → Prop) : den Try.prog M4 c4 (argE 0 [(Value.int IntKind.i64 p0_pages), (Value.slice p1_acts_a p1_acts_n p1_acts_c), (Value.int IntKind.i64 p2_id)]) w (retK Try.prog Try.f4.results.toList R) =
(Call Try.prog 6 [Value.int IntKind.i64 p0_pages] w fun e w' =>
  ∃ p n,
    e = Ending.returned (Value.tuple #[Value.pointer p, Value.int IntKind.i64 n]) ∧
      Call Try.prog 12 [Value.int IntKind.i64 p0_pages] w' fun e w' =>
        ∃ p_1 n_1,
          e = Ending.returned (Value.tuple #[Value.pointer p_1, Value.int IntKind.i64 n_1]) ∧
            ((n != n_1) = false →
                ((!Option.isNone p == Option.isNone p_1) = true → R (Ending.returned (Value.bool false)) w') ∧
                  ((!Option.isNone p == Option.isNone p_1) = false →
                    (Option.isNone p_1 = true →
                        Call Try.prog 7 [] w' fun e w' =>
                          ∃ b, e = Ending.returned (Value.bool b) ∧ R (Ending.returned (Value.bool b)) w') ∧
                      (Option.isNone p_1 = false →
                        Cut
                          (WP Try.prog 133 (Code.loop c4_1)
                            (e4_1 p1_acts_a p1_acts_n p1_acts_c p2_id p p_1 (0 : Int)) w' (k4_1 R))))) ∧
              ((n != n_1) = true → R (Ending.returned (Value.bool false)) w')) := by kernel_rfl
theorem t4_0  (w : World) (R : Ending → World → Prop) : den Try.prog M4 c4_0 (e4_0 ) w (k4_0 R) =
(Call Try.prog 7 [] w fun e w' =>
  ∃ b, e = Ending.returned (Value.bool b) ∧ R (Ending.returned (Value.bool b)) w') := by kernel_rfl
theorem t4_1 (p1_acts_a : Option Addr) (p1_acts_n : Nat) (p1_acts_c : Nat) (p2_id : Int) (p7_p : Option Addr) (p9_r : Option Addr) (p11_i : Int) (w : World) (B4_1 : Env → World → Prop) (R : Ending → World → Prop) : den Try.prog M4 c4_1 (e4_1 p1_acts_a p1_acts_n p1_acts_c p2_id p7_p p9_r p11_i) w (loopK B4_1 (k4_1 R)) =
((decide (p11_i < (↑p1_acts_n : Int)) = true →
    (decide (p11_i < (200 : Int)) = true →
        ((0 : Int) ≤ p11_i ∧ p11_i < (↑p1_acts_n : Int)) ∧
          ∃ a,
            p1_acts_a = some a ∧
              ∃ n,
                World.cell? w (Addr.add a (Int.toNat p11_i * 1)) = some (Value.int IntKind.i64 n) ∧
                  ((n == (0 : Int)) = true →
                      Call Try.prog 11 [Value.pointer p7_p] w fun e w' =>
                        ∃ n n_1,
                          e = Ending.returned (Value.tuple #[Value.int IntKind.i64 n, Value.int IntKind.i64 n_1]) ∧
                            Call Try.prog 13 [Value.pointer p9_r] w' fun e w' =>
                              ∃ n_2 n_3,
                                e =
                                    Ending.returned
                                      (Value.tuple #[Value.int IntKind.i64 n_2, Value.int IntKind.i64 n_3]) ∧
                                  ((n != n_2) = false →
                                      ((n_1 != n_3) = true → R (Ending.returned (Value.bool false)) w') ∧
                                        ((n_1 != n_3) = false →
                                          CutD Try.prog M4 c4_3
                                            (e4_3 p1_acts_a p1_acts_n p1_acts_c p2_id p7_p p9_r p11_i) w'
                                            (k4_3 B4_1 R))) ∧
                                    ((n != n_2) = true → R (Ending.returned (Value.bool false)) w')) ∧
                    ((n == (0 : Int)) = false →
                      ∀ (w' : World),
                        World.heap w' = World.heap w →
                          World.os w' = World.os w →
                            World.tape w' = World.tape w →
                              World.output w' = World.output w →
                                ((0 : Int) ≤ p11_i ∧ p11_i < (↑p1_acts_n : Int)) ∧
                                  ∃ a,
                                    p1_acts_a = some a ∧
                                      ∃ n,
                                        World.cell? w' (Addr.add a (Int.toNat p11_i * 1)) =
                                            some (Value.int IntKind.i64 n) ∧
                                          ((0 : Int) ≤ p11_i ∧ p11_i < (↑p1_acts_n : Int)) ∧
                                            ∃ a,
                                              p1_acts_a = some a ∧
                                                ∃ n_1,
                                                  World.cell? w' (Addr.add a (Int.toNat p11_i * 1)) =
                                                      some (Value.int IntKind.i64 n_1) ∧
                                                    Call Try.prog 8
                                                      [Value.pointer p7_p, Value.int IntKind.i64 n] w' fun e w' =>
                                                      ∃ n,
                                                        e = Ending.returned (Value.int IntKind.i64 n) ∧
                                                          World.cell? w' (Addr.add a (Int.toNat p11_i * 1)) =
                                                              some (Value.int IntKind.i64 n_1) ∧
                                                            Call Try.prog 14
                                                              [Value.pointer p9_r, Value.int IntKind.i64 n_1] w'
                                                              fun e w' =>
                                                              ∃ n_2,
                                                                e = Ending.returned (Value.int IntKind.i64 n_2) ∧
                                                                  ((n != n_2) = true →
                                                                      R (Ending.returned (Value.bool false)) w') ∧
                                                                    ((n != n_2) = false →
                                                                      CutD Try.prog M4 c4_3
                                                                        (e4_3 p1_acts_a p1_acts_n p1_acts_c p2_id
                                                                          p7_p p9_r p11_i)
                                                                        w' (k4_3 B4_1 R)))) ∧
      (decide (p11_i < (200 : Int)) = false → CutD Try.prog M4 c4_0 e4_0 w (k4_0 R))) ∧
  (decide (p11_i < (↑p1_acts_n : Int)) = false → CutD Try.prog M4 c4_0 e4_0 w (k4_0 R))) := by kernel_rfl
theorem t4_3 (p1_acts_a : Option Addr) (p1_acts_n : Nat) (p1_acts_c : Nat) (p2_id : Int) (p7_p : Option Addr) (p9_r : Option Addr) (p11_i : Int) (w : World) (B4_1 : Env → World → Prop) (R : Ending → World → Prop) : den Try.prog M4 c4_3 (e4_3 p1_acts_a p1_acts_n p1_acts_c p2_id p7_p p9_r p11_i) w (k4_3 B4_1 R) =
(Call Try.prog 10 [Value.pointer p7_p] w fun e w' =>
  ∃ n n_1 n_2,
    e = Ending.returned (Value.tuple #[Value.int IntKind.i64 n, Value.int IntKind.i64 n_1, Value.int IntKind.i64 n_2]) ∧
      Call Try.prog 15 [Value.pointer p9_r] w' fun e w' =>
        ∃ n_3 n_4 n_5,
          e =
              Ending.returned
                (Value.tuple #[Value.int IntKind.i64 n_3, Value.int IntKind.i64 n_4, Value.int IntKind.i64 n_5]) ∧
            ((n != n_3) = false →
                ((n_1 != n_4) = false →
                    ((n_2 != n_5) = false →
                        Call Try.prog 16 [Value.pointer p7_p] w' fun e w' =>
                          ∃ n,
                            e = Ending.returned (Value.int IntKind.i64 n) ∧
                              Call Try.prog 17 [Value.pointer p9_r] w' fun e w' =>
                                ∃ n_6,
                                  e = Ending.returned (Value.int IntKind.i64 n_6) ∧
                                    ((n != n_6) = false →
                                        Call Try.prog 9 [Value.pointer p7_p, Value.int IntKind.i64 p2_id] w'
                                          fun e w' =>
                                          ∃ b,
                                            e = Ending.returned (Value.bool b) ∧
                                              Call Try.prog 18
                                                [Value.pointer p9_r, Value.int IntKind.i64 p2_id] w' fun e w' =>
                                                ∃ b_1,
                                                  e = Ending.returned (Value.bool b_1) ∧
                                                    ((!b == b_1) = true → R (Ending.returned (Value.bool false)) w') ∧
                                                      ((!b == b_1) = false →
                                                        B4_1
                                                          [(1,
                                                              SV.v (Value.slice p1_acts_a p1_acts_n p1_acts_c)),
                                                            (2, SV.v (Value.int IntKind.i64 p2_id)),
                                                            (7, SV.v (Value.pointer p7_p)),
                                                            (9, SV.v (Value.pointer p9_r)),
                                                            (11,
                                                              SV.v
                                                                (Value.int IntKind.i64
                                                                  (IntKind.wrap IntKind.i64 (p11_i + (1 : Int)))))]
                                                          w')) ∧
                                      ((n != n_6) = true → R (Ending.returned (Value.bool false)) w')) ∧
                      ((n_2 != n_5) = true → R (Ending.returned (Value.bool false)) w')) ∧
                  ((n_1 != n_4) = true → R (Ending.returned (Value.bool false)) w')) ∧
              ((n != n_3) = true → R (Ending.returned (Value.bool false)) w')) := by kernel_rfl
/-! davit/davitlaw07.PoolNil -/
def M5 : Mt := { N := 54, keep := [(0, [0]), (1, [0, 3]), (2, [0, 3, 5]), (3, [0, 3, 5, 6, 7, 8]), (4, [2])], ords := [], bk := [], cuts := [], lk := [] }
noncomputable def c5 : Code := bodyOf Try.f5
theorem b5 : Try.f5.body = some c5 := by kernel_rfl
theorem n5 : Try.f5.ntmps = M5.N := by kernel_rfl
theorem u5 {p0_id : Int} {w : World} {R : Ending → World → Prop} (h : den Try.prog M5 c5 (argE 0 [(Value.int IntKind.i64 p0_id)]) w (retK Try.prog Try.f5.results.toList R)) : Calls Try.prog 5 #[(Value.int IntKind.i64 p0_id)] w R := calls_den okProg Try.func5 b5 n5 (Nat.le_of_ble_eq_true rfl) h
theorem t5 (p0_id : Int) (w : World) (R : Ending → World → Prop) : den Try.prog M5 c5 (argE 0 [(Value.int IntKind.i64 p0_id)]) w (retK Try.prog Try.f5.results.toList R) =
(Call Try.prog 11 [Value.pointer none] w fun e w' =>
  ∃ n n_1,
    e = Ending.returned (Value.tuple #[Value.int IntKind.i64 n, Value.int IntKind.i64 n_1]) ∧
      Call Try.prog 10 [Value.pointer none] w' fun e w' =>
        ∃ n n_2 n_3,
          e =
              Ending.returned
                (Value.tuple #[Value.int IntKind.i64 n, Value.int IntKind.i64 n_2, Value.int IntKind.i64 n_3]) ∧
            ((n_1 == (1 : Int)) = true →
                Call Try.prog 8 [Value.pointer none, Value.int IntKind.i64 p0_id] w' fun e w' =>
                  ∃ n_4,
                    e = Ending.returned (Value.int IntKind.i64 n_4) ∧
                      ((n_4 == (1 : Int)) = true →
                          Call Try.prog 9 [Value.pointer none, Value.int IntKind.i64 p0_id] w' fun e w' =>
                            ∃ b,
                              e = Ending.returned (Value.bool b) ∧
                                ((!b) = true →
                                    Call Try.prog 16 [Value.pointer none] w' fun e w' =>
                                      ∃ n_5,
                                        e = Ending.returned (Value.int IntKind.i64 n_5) ∧
                                          ((n_5 == (0 : Int)) = true →
                                              ((n == (0 : Int)) = true →
                                                  ((n_2 == (0 : Int)) = true →
                                                      ((n_3 == (0 : Int)) = true →
                                                          Call Try.prog 7 [] w' fun e w' =>
                                                            ∃ b,
                                                              e = Ending.returned (Value.bool b) ∧
                                                                R (Ending.returned (Value.bool b)) w') ∧
                                                        ((n_3 == (0 : Int)) = false →
                                                          R (Ending.returned (Value.bool false)) w')) ∧
                                                    ((n_2 == (0 : Int)) = false →
                                                      R (Ending.returned (Value.bool false)) w')) ∧
                                                ((n == (0 : Int)) = false →
                                                  R (Ending.returned (Value.bool false)) w')) ∧
                                            ((n_5 == (0 : Int)) = false → R (Ending.returned (Value.bool false)) w')) ∧
                                  ((!b) = false → R (Ending.returned (Value.bool false)) w')) ∧
                        ((n_4 == (1 : Int)) = false → R (Ending.returned (Value.bool false)) w')) ∧
              ((n_1 == (1 : Int)) = false → R (Ending.returned (Value.bool false)) w')) := by kernel_rfl
/-! davit/pool.New -/
def M6 : Mt := { N := 13, keep := [(0, [0]), (1, [0, 9]), (2, [2, 3]), (3, [2, 3])], ords := [], bk := [], cuts := [], lk := [] }
noncomputable def c6 : Code := bodyOf Try.f6
theorem b6 : Try.f6.body = some c6 := by kernel_rfl
theorem n6 : Try.f6.ntmps = M6.N := by kernel_rfl
theorem u6 {p0_pages : Int} {w : World} {R : Ending → World → Prop} (h : den Try.prog M6 c6 (argE 0 [(Value.int IntKind.i64 p0_pages)]) w (retK Try.prog Try.f6.results.toList R)) : Calls Try.prog 6 #[(Value.int IntKind.i64 p0_pages)] w R := calls_den okProg Try.func6 b6 n6 (Nat.le_of_ble_eq_true rfl) h
theorem t6 (p0_pages : Int) (w : World) (R : Ending → World → Prop) : den Try.prog M6 c6 (argE 0 [(Value.int IntKind.i64 p0_pages)]) w (retK Try.prog Try.f6.results.toList R) =
((decide (p0_pages < (1 : Int)) = false →
    (decide (p0_pages > (12 : Int)) = true →
        R (Ending.returned (Value.tuple #[Value.pointer none, Value.int IntKind.i64 2])) w) ∧
      (decide (p0_pages > (12 : Int)) = false →
        New w
          [Value.int IntKind.u8 0, Value.int IntKind.u8 0, Value.int IntKind.u8 0,
            Value.int IntKind.u8 0, Value.int IntKind.u8 0, Value.int IntKind.u8 0,
            Value.int IntKind.u8 0, Value.int IntKind.u8 0, Value.int IntKind.u8 0,
            Value.int IntKind.u8 0, Value.int IntKind.u8 0, Value.int IntKind.u8 0,
            Value.int IntKind.i64 p0_pages]
          43 fun p w' =>
          R (Ending.returned (Value.tuple #[Value.pointer (some p), Value.int IntKind.i64 0])) w')) ∧
  (decide (p0_pages < (1 : Int)) = true →
    R (Ending.returned (Value.tuple #[Value.pointer none, Value.int IntKind.i64 2])) w)) := by kernel_rfl
/-! davit/davitlaw07.known -/
def M7 : Mt := { N := 57, keep := [(0, []), (1, [1, 2]), (2, [1, 18]), (3, [0]), (4, [1, 3]), (5, [1, 3, 20]), (6, [1, 3]), (7, [1, 3]), (8, [1, 4]), (9, [1, 4, 5, 6]), (10, [4, 5, 6, 7, 8]), (11, [0])], ords := [], bk := [(0, [1]), (1, [1, 3])], cuts := [(8, [1])], lk := [(5, [1, 3])] }
noncomputable def c7 : Code := bodyOf Try.f7
noncomputable def c7_0 : Code := c7.sr.sr.sr.sr
noncomputable def c7_1 : Code := c7.sr.sr.sr.sl.sr.sl.sl
def e7_0 (p1_p : Option Addr) : Env := [(1, SV.v (Value.pointer p1_p))]
def e7_1 (p1_p : Option Addr) (p3_i : Int) : Env := [(1, SV.v (Value.pointer p1_p)), (3, SV.v (Value.int IntKind.i64 p3_i))]
def k7_0 (R : Ending → World → Prop) : Cont := retK Try.prog Try.f7.results.toList R
def k7_1 (R : Ending → World → Prop) : Cont := blockK 0 [1] (seqK (fun E w => cutB (findL M7.cuts (headReg c7_0)) Try.prog M7 c7_0 E w (retK Try.prog Try.f7.results.toList R) fun E => den Try.prog M7 c7_0 E w (retK Try.prog Try.f7.results.toList R)) (retK Try.prog Try.f7.results.toList R))
theorem b7 : Try.f7.body = some c7 := by kernel_rfl
theorem n7 : Try.f7.ntmps = M7.N := by kernel_rfl
theorem u7  {w : World} {R : Ending → World → Prop} (h : den Try.prog M7 c7 (argE 0 []) w (retK Try.prog Try.f7.results.toList R)) : Calls Try.prog 7 #[] w R := calls_den okProg Try.func7 b7 n7 (Nat.le_of_ble_eq_true rfl) h
theorem t7  (w : World) (R : Ending → World → Prop) : den Try.prog M7 c7 (argE 0 []) w (retK Try.prog Try.f7.results.toList R) =
(Call Try.prog 6 [Value.int IntKind.i64 2] w fun e w' =>
  ∃ p n,
    e = Ending.returned (Value.tuple #[Value.pointer p, Value.int IntKind.i64 n]) ∧
      ((n != (0 : Int)) = false →
          (Option.isNone p = true → R (Ending.returned (Value.bool false)) w') ∧
            (Option.isNone p = false → Cut (WP Try.prog 57 (Code.loop c7_1) (e7_1 p (0 : Int)) w' (k7_1 R)))) ∧
        ((n != (0 : Int)) = true → R (Ending.returned (Value.bool false)) w')) := by kernel_rfl
theorem t7_0 (p1_p : Option Addr) (w : World) (R : Ending → World → Prop) : den Try.prog M7 c7_0 (e7_0 p1_p) w (k7_0 R) =
(Call Try.prog 8 [Value.pointer p1_p, Value.int IntKind.i64 3] w fun e w' =>
  ∃ n,
    e = Ending.returned (Value.int IntKind.i64 n) ∧
      Call Try.prog 11 [Value.pointer p1_p] w' fun e w' =>
        ∃ n_1 n_2,
          e = Ending.returned (Value.tuple #[Value.int IntKind.i64 n_1, Value.int IntKind.i64 n_2]) ∧
            Call Try.prog 11 [Value.pointer p1_p] w' fun e w' =>
              ∃ n_3 n_4,
                e = Ending.returned (Value.tuple #[Value.int IntKind.i64 n_3, Value.int IntKind.i64 n_4]) ∧
                  ((n == (0 : Int)) = true →
                      ((n_1 == (3 : Int)) = true →
                          ((n_2 == (0 : Int)) = true →
                              ((n_3 == (10 : Int)) = true →
                                  R
                                    (Ending.returned
                                      (retV
                                        [match n_4 == (0 : Int) with
                                          | true => Value.bool true
                                          | false => Value.bool false]))
                                    w') ∧
                                ((n_3 == (10 : Int)) = false → R (Ending.returned (Value.bool false)) w')) ∧
                            ((n_2 == (0 : Int)) = false → R (Ending.returned (Value.bool false)) w')) ∧
                        ((n_1 == (3 : Int)) = false → R (Ending.returned (Value.bool false)) w')) ∧
                    ((n == (0 : Int)) = false → R (Ending.returned (Value.bool false)) w')) := by kernel_rfl
theorem t7_1 (p1_p : Option Addr) (p3_i : Int) (w : World) (B7_1 : Env → World → Prop) (R : Ending → World → Prop) : den Try.prog M7 c7_1 (e7_1 p1_p p3_i) w (loopK B7_1 (k7_1 R)) =
((decide (p3_i < (9 : Int)) = true →
    Call Try.prog 11 [Value.pointer p1_p] w fun e w' =>
      ∃ n n_1,
        e = Ending.returned (Value.tuple #[Value.int IntKind.i64 n, Value.int IntKind.i64 n_1]) ∧
          B7_1
            [(1, SV.v (Value.pointer p1_p)),
              (3, SV.v (Value.int IntKind.i64 (IntKind.wrap IntKind.i64 (p3_i + (1 : Int)))))]
            w') ∧
  (decide (p3_i < (9 : Int)) = false → CutD Try.prog M7 c7_0 (e7_0 p1_p) w (k7_0 R))) := by kernel_rfl
/-! (*davit/pool.Pool).Give -/
def M8 : Mt := { N := 32, keep := [(0, [0, 1]), (1, [0, 1, 7]), (2, [4]), (3, [0, 1, 10]), (4, [4]), (5, [0, 5, 6]), (6, []), (7, [4])], ords := [(6, [0, 1, 2, 3, 4, 5, 6, 7, 8, 9, 10, 11])], bk := [(0, [0, 1])], cuts := [], lk := [] }
noncomputable def c8 : Code := bodyOf Try.f8
theorem b8 : Try.f8.body = some c8 := by kernel_rfl
theorem n8 : Try.f8.ntmps = M8.N := by kernel_rfl
theorem u8 {p0_p : Option Addr} {p1_id : Int} {w : World} {R : Ending → World → Prop} (h : den Try.prog M8 c8 (argE 0 [(Value.pointer p0_p), (Value.int IntKind.i64 p1_id)]) w (retK Try.prog Try.f8.results.toList R)) : Calls Try.prog 8 #[(Value.pointer p0_p), (Value.int IntKind.i64 p1_id)] w R := calls_den okProg Try.func8 b8 n8 (Nat.le_of_ble_eq_true rfl) h
theorem t8 (p0_p : Option Addr) (p1_id : Int) (w : World) (R : Ending → World → Prop) : den Try.prog M8 c8 (argE 0 [(Value.pointer p0_p), (Value.int IntKind.i64 p1_id)]) w (retK Try.prog Try.f8.results.toList R) =
((Option.isNone p0_p = true → R (Ending.returned (Value.int IntKind.i64 1)) w) ∧
  (Option.isNone p0_p = false →
    Call Try.prog 9 [Value.pointer p0_p, Value.int IntKind.i64 p1_id] w fun e w' =>
      ∃ b,
        e = Ending.returned (Value.bool b) ∧
          ((!b) = true → R (Ending.returned (Value.int IntKind.i64 4)) w') ∧
            ((!b) = false →
              Call Try.prog 19 [Value.pointer p0_p, Value.int IntKind.i64 p1_id] w' fun e w' =>
                ∃ n n_1,
                  e = Ending.returned (Value.tuple #[Value.int IntKind.i64 n, Value.int IntKind.u8 n_1]) ∧
                    ∀ (w'_1 : World),
                      World.heap w'_1 = World.heap w' →
                        World.os w'_1 = World.os w' →
                          World.tape w'_1 = World.tape w' →
                            World.output w'_1 = World.output w' →
                              ∃ a,
                                p0_p = some a ∧
                                  ((0 : Int) ≤ n ∧ n < (↑12 : Int)) ∧
                                    ∃ n_2,
                                      World.cell? w'_1 (Addr.add (Addr.add a 0) (Int.toNat n * 1)) =
                                          some (Value.int IntKind.u8 n_2) ∧
                                        ∃ a,
                                          p0_p = some a ∧
                                            ((0 : Int) ≤ n ∧ n < (↑12 : Int)) ∧
                                              Wr w'_1 (Addr.add (Addr.add a 0) (Int.toNat n * 1))
                                                [Value.int IntKind.u8 (bitsOp BinOp.andNot IntKind.u8 n_2 n_1)]
                                                fun w' => R (Ending.returned (Value.int IntKind.i64 0)) w'))) := by kernel_rfl
/-! (*davit/pool.Pool).Out -/
def M9 : Mt := { N := 26, keep := [(0, [0, 1]), (1, [0, 5, 6]), (2, [4])], ords := [], bk := [], cuts := [], lk := [] }
noncomputable def c9 : Code := bodyOf Try.f9
theorem b9 : Try.f9.body = some c9 := by kernel_rfl
theorem n9 : Try.f9.ntmps = M9.N := by kernel_rfl
theorem u9 {p0_p : Option Addr} {p1_id : Int} {w : World} {R : Ending → World → Prop} (h : den Try.prog M9 c9 (argE 0 [(Value.pointer p0_p), (Value.int IntKind.i64 p1_id)]) w (retK Try.prog Try.f9.results.toList R)) : Calls Try.prog 9 #[(Value.pointer p0_p), (Value.int IntKind.i64 p1_id)] w R := calls_den okProg Try.func9 b9 n9 (Nat.le_of_ble_eq_true rfl) h
theorem t9 (p0_p : Option Addr) (p1_id : Int) (w : World) (R : Ending → World → Prop) : den Try.prog M9 c9 (argE 0 [(Value.pointer p0_p), (Value.int IntKind.i64 p1_id)]) w (retK Try.prog Try.f9.results.toList R) =
(Call Try.prog 19 [Value.pointer p0_p, Value.int IntKind.i64 p1_id] w fun e w' =>
  ∃ n n_1,
    e = Ending.returned (Value.tuple #[Value.int IntKind.i64 n, Value.int IntKind.u8 n_1]) ∧
      ((n_1 != (0 : Int)) = true →
          ∃ a,
            p0_p = some a ∧
              ((0 : Int) ≤ n ∧ n < (↑12 : Int)) ∧
                ∃ n_2,
                  World.cell? w' (Addr.add (Addr.add a 0) (Int.toNat n * 1)) =
                      some (Value.int IntKind.u8 n_2) ∧
                    R (Ending.returned (Value.bool (bitsOp BinOp.and IntKind.u8 n_2 n_1 != (0 : Int)))) w') ∧
        ((n_1 != (0 : Int)) = false → R (Ending.returned (Value.bool false)) w')) := by kernel_rfl
/-! (*davit/pool.Pool).Pages -/
def M10 : Mt := { N := 37, keep := [(0, [0, 2, 3, 4]), (1, [0, 2, 3, 4, 8]), (2, [2, 3, 4]), (3, [2, 3, 4, 16, 17, 18]), (4, [2, 3, 4, 16, 17, 18, 19]), (5, [2, 3, 4, 6, 16, 17, 18]), (6, [2, 3, 4, 16, 17, 18, 22]), (7, [2, 3, 4, 16, 17, 18]), (8, [2, 3, 4, 16, 17, 18, 22, 25]), (9, [2, 3, 4, 16, 17, 18]), (10, [2, 3, 4, 16, 17, 18, 29]), (11, [2, 3, 4, 16, 17, 18]), (12, [2, 3, 4, 16, 17, 18]), (13, [2, 3, 4])], ords := [(3, [0, 1, 2, 3, 4, 5, 6, 7, 8, 9])], bk := [(0, [2, 3, 4]), (1, [2, 3, 4, 16, 17, 18]), (2, [2, 3, 4, 16, 17, 18])], cuts := [], lk := [(4, [2, 3, 4, 16, 17, 18])] }
noncomputable def c10 : Code := bodyOf Try.f10
noncomputable def c10_0 : Code := c10.sr.sr.sr
noncomputable def c10_1 : Code := c10.sr.sr.sl.sr.sl.sl
def e10_1 (p2_empty : Int) (p3_part : Int) (p4_whole : Int) (p16_t_a : Option Addr) (p16_t_n : Nat) (p16_t_c : Nat) (p17_t : Int) (p18_t : Int) : Env := [(2, SV.v (Value.int IntKind.i64 p2_empty)), (3, SV.v (Value.int IntKind.i64 p3_part)), (4, SV.v (Value.int IntKind.i64 p4_whole)), (16, SV.v (Value.slice p16_t_a p16_t_n p16_t_c)), (17, SV.v (Value.int IntKind.i64 p17_t)), (18, SV.v (Value.int IntKind.i64 p18_t))]
def k10_1 (R : Ending → World → Prop) : Cont := blockK 0 [2, 3, 4] (seqK (fun E w => cutB (findL M10.cuts (headReg c10_0)) Try.prog M10 c10_0 E w (retK Try.prog Try.f10.results.toList R) fun E => den Try.prog M10 c10_0 E w (retK Try.prog Try.f10.results.toList R)) (retK Try.prog Try.f10.results.toList R))
theorem b10 : Try.f10.body = some c10 := by kernel_rfl
theorem n10 : Try.f10.ntmps = M10.N := by kernel_rfl
theorem u10 {p0_p : Option Addr} {w : World} {R : Ending → World → Prop} (h : den Try.prog M10 c10 (argE 0 [(Value.pointer p0_p)]) w (retK Try.prog Try.f10.results.toList R)) : Calls Try.prog 10 #[(Value.pointer p0_p)] w R := calls_den okProg Try.func10 b10 n10 (Nat.le_of_ble_eq_true rfl) h
theorem t10 (p0_p : Option Addr) (w : World) (R : Ending → World → Prop) : den Try.prog M10 c10 (argE 0 [(Value.pointer p0_p)]) w (retK Try.prog Try.f10.results.toList R) =
((Option.isNone p0_p = true →
    R
      (Ending.returned
        (Value.tuple
          #[Value.int IntKind.i64 0, Value.int IntKind.i64 0, Value.int IntKind.i64 0]))
      w) ∧
  (Option.isNone p0_p = false →
    ∀ (w' : World),
      World.heap w' = World.heap w →
        World.os w' = World.os w →
          World.tape w' = World.tape w →
            World.output w' = World.output w →
              ∃ a,
                p0_p = some a ∧
                  ∃ a_1,
                    p0_p = some a_1 ∧
                      ∃ n,
                        World.cell? w' (Addr.add a_1 12) = some (Value.int IntKind.i64 n) ∧
                          ((0 : Int) ≤ n ∧ n ≤ (↑12 : Int)) ∧
                            Cut
                              (WP Try.prog 37 (Code.loop c10_1)
                                (e10_1 (0 : Int) (0 : Int) (0 : Int) (some (Addr.add (Addr.add a 0) 0))
                                  (Int.toNat n - 0) 12 (↑(Int.toNat n - 0) : Int) (0 : Int))
                                w' (k10_1 R)))) := by kernel_rfl
theorem t10_1 (p2_empty : Int) (p3_part : Int) (p4_whole : Int) (p16_t_a : Option Addr) (p16_t_n : Nat) (p16_t_c : Nat) (p17_t : Int) (p18_t : Int) (w : World) (B10_1 : Env → World → Prop) (R : Ending → World → Prop) : den Try.prog M10 c10_1 (e10_1 p2_empty p3_part p4_whole p16_t_a p16_t_n p16_t_c p17_t p18_t) w (loopK B10_1 (k10_1 R)) =
((decide (p18_t < p17_t) = true →
    ((0 : Int) ≤ p18_t ∧ p18_t < (↑p16_t_n : Int)) ∧
      ∃ a,
        p16_t_a = some a ∧
          ∃ n,
            World.cell? w (Addr.add a (Int.toNat p18_t * 1)) = some (Value.int IntKind.u8 n) ∧
              ((n == (0 : Int)) = true →
                  B10_1
                    [(2, SV.v (Value.int IntKind.i64 (IntKind.wrap IntKind.i64 (p2_empty + (1 : Int))))),
                      (3, SV.v (Value.int IntKind.i64 p3_part)),
                      (4, SV.v (Value.int IntKind.i64 p4_whole)),
                      (16, SV.v (Value.slice p16_t_a p16_t_n p16_t_c)),
                      (17, SV.v (Value.int IntKind.i64 p17_t)),
                      (18, SV.v (Value.int IntKind.i64 (IntKind.wrap IntKind.i64 (p18_t + (1 : Int)))))]
                    w) ∧
                ((n == (0 : Int)) = false →
                  ((n == (255 : Int)) = true →
                      B10_1
                        [(2, SV.v (Value.int IntKind.i64 p2_empty)),
                          (3, SV.v (Value.int IntKind.i64 p3_part)),
                          (4, SV.v (Value.int IntKind.i64 (IntKind.wrap IntKind.i64 (p4_whole + (1 : Int))))),
                          (16, SV.v (Value.slice p16_t_a p16_t_n p16_t_c)),
                          (17, SV.v (Value.int IntKind.i64 p17_t)),
                          (18, SV.v (Value.int IntKind.i64 (IntKind.wrap IntKind.i64 (p18_t + (1 : Int)))))]
                        w) ∧
                    ((n == (255 : Int)) = false →
                      B10_1
                        [(2, SV.v (Value.int IntKind.i64 p2_empty)),
                          (3, SV.v (Value.int IntKind.i64 (IntKind.wrap IntKind.i64 (p3_part + (1 : Int))))),
                          (4, SV.v (Value.int IntKind.i64 p4_whole)),
                          (16, SV.v (Value.slice p16_t_a p16_t_n p16_t_c)),
                          (17, SV.v (Value.int IntKind.i64 p17_t)),
                          (18, SV.v (Value.int IntKind.i64 (IntKind.wrap IntKind.i64 (p18_t + (1 : Int)))))]
                        w))) ∧
  (decide (p18_t < p17_t) = false →
    R
      (Ending.returned
        (Value.tuple
          #[Value.int IntKind.i64 p2_empty, Value.int IntKind.i64 p3_part, Value.int IntKind.i64 p4_whole]))
      w)) := by kernel_rfl
/-! (*davit/pool.Pool).Take -/
def M11 : Mt := { N := 41, keep := [(0, [0]), (1, [0, 7]), (2, [2, 3]), (3, [0, 4]), (4, [0, 4, 11]), (5, [0, 4]), (6, [0, 4, 15]), (7, [2, 3]), (8, [0, 4, 5]), (9, [4, 5]), (10, [2, 3])], ords := [(9, [0, 1, 2, 3, 4, 5, 6, 7, 8, 9, 10, 11, 12])], bk := [], cuts := [(6, [0, 4])], lk := [] }
noncomputable def c11 : Code := bodyOf Try.f11
noncomputable def c11_0 : Code := c11.sr.sr.sr.sr
def e11_0 (p0_p : Option Addr) (p4_at : Int) : Env := [(0, SV.v (Value.pointer p0_p)), (4, SV.v (Value.int IntKind.i64 p4_at))]
def k11_0 (R : Ending → World → Prop) : Cont := retK Try.prog Try.f11.results.toList R
theorem b11 : Try.f11.body = some c11 := by kernel_rfl
theorem n11 : Try.f11.ntmps = M11.N := by kernel_rfl
theorem u11 {p0_p : Option Addr} {w : World} {R : Ending → World → Prop} (h : den Try.prog M11 c11 (argE 0 [(Value.pointer p0_p)]) w (retK Try.prog Try.f11.results.toList R)) : Calls Try.prog 11 #[(Value.pointer p0_p)] w R := calls_den okProg Try.func11 b11 n11 (Nat.le_of_ble_eq_true rfl) h
theorem t11 (p0_p : Option Addr) (w : World) (R : Ending → World → Prop) : den Try.prog M11 c11 (argE 0 [(Value.pointer p0_p)]) w (retK Try.prog Try.f11.results.toList R) =
((Option.isNone p0_p = true →
    R (Ending.returned (Value.tuple #[Value.int IntKind.i64 0, Value.int IntKind.i64 1])) w) ∧
  (Option.isNone p0_p = false →
    Call Try.prog 20 [Value.pointer p0_p, Value.func (Fn.func 21) #[] #[]] w fun e w' =>
      ∃ n,
        e = Ending.returned (Value.int IntKind.i64 n) ∧
          (decide (n < (0 : Int)) = true →
              Call Try.prog 20 [Value.pointer p0_p, Value.func (Fn.func 22) #[] #[]] w' fun e w' =>
                ∃ n,
                  e = Ending.returned (Value.int IntKind.i64 n) ∧
                    CutD Try.prog M11 c11_0 (e11_0 p0_p n) w' (k11_0 R)) ∧
            (decide (n < (0 : Int)) = false → CutD Try.prog M11 c11_0 (e11_0 p0_p n) w' (k11_0 R)))) := by kernel_rfl
theorem t11_0 (p0_p : Option Addr) (p4_at : Int) (w : World) (R : Ending → World → Prop) : den Try.prog M11 c11_0 (e11_0 p0_p p4_at) w (k11_0 R) =
((decide (p4_at < (0 : Int)) = true →
    R (Ending.returned (Value.tuple #[Value.int IntKind.i64 0, Value.int IntKind.i64 5])) w) ∧
  (decide (p4_at < (0 : Int)) = false →
    ∃ a,
      p0_p = some a ∧
        ((0 : Int) ≤ p4_at ∧ p4_at < (↑12 : Int)) ∧
          ∃ n,
            World.cell? w (Addr.add (Addr.add a 0) (Int.toNat p4_at * 1)) =
                some (Value.int IntKind.u8 n) ∧
              Call Try.prog 23
                [Value.int IntKind.u8
                    (bitsOp BinOp.xor IntKind.u8
                      (match false with
                      | true => (-1 : Int)
                      | false => IntKind.max IntKind.u8)
                      n)]
                w fun e w' =>
                ∃ n,
                  e = Ending.returned (Value.int IntKind.i64 n) ∧
                    ∀ (w'_1 : World),
                      World.heap w'_1 = World.heap w' →
                        World.os w'_1 = World.os w' →
                          World.tape w'_1 = World.tape w' →
                            World.output w'_1 = World.output w' →
                              ∃ a,
                                p0_p = some a ∧
                                  ((0 : Int) ≤ p4_at ∧ p4_at < (↑12 : Int)) ∧
                                    ∃ n_1,
                                      World.cell? w'_1
                                            (Addr.add (Addr.add a 0) (Int.toNat p4_at * 1)) =
                                          some (Value.int IntKind.u8 n_1) ∧
                                        (0 : Int) ≤ n ∧
                                          ∃ a,
                                            p0_p = some a ∧
                                              ((0 : Int) ≤ p4_at ∧ p4_at < (↑12 : Int)) ∧
                                                Wr w'_1 (Addr.add (Addr.add a 0) (Int.toNat p4_at * 1))
                                                  [Value.int IntKind.u8
                                                      (bitsOp BinOp.or IntKind.u8 n_1 (shlOp IntKind.u8 (1 : Int) n))]
                                                  fun w' =>
                                                  R
                                                    (Ending.returned
                                                      (Value.tuple
                                                        #[Value.int IntKind.i64
                                                            (IntKind.wrap IntKind.i64
                                                              (IntKind.wrap IntKind.i64
                                                                  (IntKind.wrap IntKind.i64 (p4_at * (8 : Int)) + n) +
                                                                (1 : Int))),
                                                          Value.int IntKind.i64 0]))
                                                    w')) := by kernel_rfl
/-! davit/davitref07.New -/
def M12 : Mt := { N := 16, keep := [(0, [0]), (1, [0, 9]), (2, [2, 3]), (3, [2, 3])], ords := [], bk := [], cuts := [], lk := [] }
noncomputable def c12 : Code := bodyOf Try.f12
theorem b12 : Try.f12.body = some c12 := by kernel_rfl
theorem n12 : Try.f12.ntmps = M12.N := by kernel_rfl
theorem u12 {p0_pages : Int} {w : World} {R : Ending → World → Prop} (h : den Try.prog M12 c12 (argE 0 [(Value.int IntKind.i64 p0_pages)]) w (retK Try.prog Try.f12.results.toList R)) : Calls Try.prog 12 #[(Value.int IntKind.i64 p0_pages)] w R := calls_den okProg Try.func12 b12 n12 (Nat.le_of_ble_eq_true rfl) h
theorem t12 (p0_pages : Int) (w : World) (R : Ending → World → Prop) : den Try.prog M12 c12 (argE 0 [(Value.int IntKind.i64 p0_pages)]) w (retK Try.prog Try.f12.results.toList R) =
((decide (p0_pages < (1 : Int)) = false →
    (decide (p0_pages > (12 : Int)) = true →
        R (Ending.returned (Value.tuple #[Value.pointer none, Value.int IntKind.i64 2])) w) ∧
      (decide (p0_pages > (12 : Int)) = false →
        ∃ p n c w',
          Sem.run Try.prog
                (Instr.makeSlice 29
                  (Value.int IntKind.i64
                    (IntKind.wrap IntKind.i64 (IntKind.wrap IntKind.i64 ((8 : Int) * p0_pages) + (1 : Int))))
                  (Value.int IntKind.i64
                    (IntKind.wrap IntKind.i64 (IntKind.wrap IntKind.i64 ((8 : Int) * p0_pages) + (1 : Int)))))
                w =
              Result.ok (Value.slice p n c) w' ∧
            New w' [Value.slice p n c] 51 fun p w' =>
              R (Ending.returned (Value.tuple #[Value.pointer (some p), Value.int IntKind.i64 0])) w')) ∧
  (decide (p0_pages < (1 : Int)) = true →
    R (Ending.returned (Value.tuple #[Value.pointer none, Value.int IntKind.i64 2])) w)) := by kernel_rfl
/-! (*davit/davitref07.Pool).Take -/
def M13 : Mt := { N := 43, keep := [(0, [0]), (1, [0, 4]), (2, [0, 4, 5]), (3, [0, 4, 5, 15]), (4, [0, 4, 5]), (5, [0, 4, 5, 27]), (6, [2, 3]), (7, [0, 4, 6]), (8, [0, 4, 6, 33]), (9, [0, 4, 6]), (10, [0, 4, 6, 39]), (11, [2, 3]), (12, [2, 3])], ords := [], bk := [(0, [0, 4]), (1, [0, 4, 5]), (2, []), (3, [0, 4, 6])], cuts := [(7, [0, 4])], lk := [(3, [0, 4, 5]), (8, [0, 4, 6])] }
noncomputable def c13 : Code := bodyOf Try.f13
noncomputable def c13_0 : Code := c13.sr.sr.sr
noncomputable def c13_1 : Code := c13.sr.sr.sr.sr
noncomputable def c13_2 : Code := c13.sr.sr.sl.sr.sl.sl
noncomputable def c13_3 : Code := c13.sr.sr.sr.sl.sr.sl.sl
def e13_0 (p0_p : Option Addr) (p4_many : Int) : Env := [(0, SV.v (Value.pointer p0_p)), (4, SV.v (Value.int IntKind.i64 p4_many))]
def e13_2 (p0_p : Option Addr) (p4_many : Int) (p5_i : Int) : Env := [(0, SV.v (Value.pointer p0_p)), (4, SV.v (Value.int IntKind.i64 p4_many)), (5, SV.v (Value.int IntKind.i64 p5_i))]
def e13_3 (p0_p : Option Addr) (p4_many : Int) (p6_i : Int) : Env := [(0, SV.v (Value.pointer p0_p)), (4, SV.v (Value.int IntKind.i64 p4_many)), (6, SV.v (Value.int IntKind.i64 p6_i))]
def k13_0 (R : Ending → World → Prop) : Cont := retK Try.prog Try.f13.results.toList R
def k13_2 (R : Ending → World → Prop) : Cont := blockK 0 [0, 4] (seqK (fun E w => cutB (findL M13.cuts (headReg c13_0)) Try.prog M13 c13_0 E w (retK Try.prog Try.f13.results.toList R) fun E => den Try.prog M13 c13_0 E w (retK Try.prog Try.f13.results.toList R)) (retK Try.prog Try.f13.results.toList R))
def k13_3 (R : Ending → World → Prop) : Cont := blockK 2 [] (seqK (fun E w => cutB (findL M13.cuts (headReg c13_1)) Try.prog M13 c13_1 E w (retK Try.prog Try.f13.results.toList R) fun E => den Try.prog M13 c13_1 E w (retK Try.prog Try.f13.results.toList R)) (retK Try.prog Try.f13.results.toList R))
theorem b13 : Try.f13.body = some c13 := by kernel_rfl
theorem n13 : Try.f13.ntmps = M13.N := by kernel_rfl
theorem u13 {p0_p : Option Addr} {w : World} {R : Ending → World → Prop} (h : den Try.prog M13 c13 (argE 0 [(Value.pointer p0_p)]) w (retK Try.prog Try.f13.results.toList R)) : Calls Try.prog 13 #[(Value.pointer p0_p)] w R := calls_den okProg Try.func13 b13 n13 (Nat.le_of_ble_eq_true rfl) h
theorem t13 (p0_p : Option Addr) (w : World) (R : Ending → World → Prop) : den Try.prog M13 c13 (argE 0 [(Value.pointer p0_p)]) w (retK Try.prog Try.f13.results.toList R) =
(∃ a,
  p0_p = some a ∧
    ∃ p n c,
      World.cell? w (Addr.add a 0) = some (Value.slice p n c) ∧
        (8 : Int) ≠ (0 : Int) ∧
          Cut
            (WP Try.prog 43 (Code.loop c13_2)
              (e13_2 p0_p (IntKind.wrap IntKind.i64 (Int.tdiv (↑n : Int) (8 : Int))) (0 : Int)) w (k13_2 R))) := by kernel_rfl
theorem t13_0 (p0_p : Option Addr) (p4_many : Int) (w : World) (R : Ending → World → Prop) : den Try.prog M13 c13_0 (e13_0 p0_p p4_many) w (k13_0 R) =
(Cut (WP Try.prog 43 (Code.loop c13_3) (e13_3 p0_p p4_many (0 : Int)) w (k13_3 R))) := by kernel_rfl
theorem t13_2 (p0_p : Option Addr) (p4_many : Int) (p5_i : Int) (w : World) (B13_2 : Env → World → Prop) (R : Ending → World → Prop) : den Try.prog M13 c13_2 (e13_2 p0_p p4_many p5_i) w (loopK B13_2 (k13_2 R)) =
((decide (p5_i < p4_many) = true →
    Call Try.prog 24 [Value.pointer p0_p, Value.int IntKind.i64 p5_i] w fun e w' =>
      ∃ n,
        e = Ending.returned (Value.int IntKind.i64 n) ∧
          (decide (n > (0 : Int)) = true →
              Call Try.prog 24 [Value.pointer p0_p, Value.int IntKind.i64 p5_i] w' fun e w' =>
                ∃ n,
                  e = Ending.returned (Value.int IntKind.i64 n) ∧
                    (decide (n < (8 : Int)) = true →
                        Call Try.prog 25 [Value.pointer p0_p, Value.int IntKind.i64 p5_i] w' fun e w' =>
                          ∃ n,
                            e = Ending.returned (Value.int IntKind.i64 n) ∧
                              R
                                (Ending.returned
                                  (Value.tuple #[Value.int IntKind.i64 n, Value.int IntKind.i64 0]))
                                w') ∧
                      (decide (n < (8 : Int)) = false →
                        B13_2
                          [(0, SV.v (Value.pointer p0_p)), (4, SV.v (Value.int IntKind.i64 p4_many)),
                            (5, SV.v (Value.int IntKind.i64 (IntKind.wrap IntKind.i64 (p5_i + (1 : Int)))))]
                          w')) ∧
            (decide (n > (0 : Int)) = false →
              B13_2
                [(0, SV.v (Value.pointer p0_p)), (4, SV.v (Value.int IntKind.i64 p4_many)),
                  (5, SV.v (Value.int IntKind.i64 (IntKind.wrap IntKind.i64 (p5_i + (1 : Int)))))]
                w')) ∧
  (decide (p5_i < p4_many) = false → CutD Try.prog M13 c13_0 (e13_0 p0_p p4_many) w (k13_0 R))) := by kernel_rfl
theorem t13_3 (p0_p : Option Addr) (p4_many : Int) (p6_i : Int) (w : World) (B13_3 : Env → World → Prop) (R : Ending → World → Prop) : den Try.prog M13 c13_3 (e13_3 p0_p p4_many p6_i) w (loopK B13_3 (k13_3 R)) =
((decide (p6_i < p4_many) = true →
    Call Try.prog 24 [Value.pointer p0_p, Value.int IntKind.i64 p6_i] w fun e w' =>
      ∃ n,
        e = Ending.returned (Value.int IntKind.i64 n) ∧
          ((n == (0 : Int)) = true →
              Call Try.prog 25 [Value.pointer p0_p, Value.int IntKind.i64 p6_i] w' fun e w' =>
                ∃ n,
                  e = Ending.returned (Value.int IntKind.i64 n) ∧
                    R (Ending.returned (Value.tuple #[Value.int IntKind.i64 n, Value.int IntKind.i64 0])) w') ∧
            ((n == (0 : Int)) = false →
              B13_3
                [(0, SV.v (Value.pointer p0_p)), (4, SV.v (Value.int IntKind.i64 p4_many)),
                  (6, SV.v (Value.int IntKind.i64 (IntKind.wrap IntKind.i64 (p6_i + (1 : Int)))))]
                w')) ∧
  (decide (p6_i < p4_many) = false →
    R (Ending.returned (Value.tuple #[Value.int IntKind.i64 0, Value.int IntKind.i64 5])) w)) := by kernel_rfl
/-! (*davit/davitref07.Pool).Give -/
def M14 : Mt := { N := 15, keep := [(0, [0, 1]), (1, [0, 1, 8]), (2, [4]), (3, []), (4, [4])], ords := [], bk := [], cuts := [], lk := [] }
noncomputable def c14 : Code := bodyOf Try.f14
theorem b14 : Try.f14.body = some c14 := by kernel_rfl
theorem n14 : Try.f14.ntmps = M14.N := by kernel_rfl
theorem u14 {p0_p : Option Addr} {p1_id : Int} {w : World} {R : Ending → World → Prop} (h : den Try.prog M14 c14 (argE 0 [(Value.pointer p0_p), (Value.int IntKind.i64 p1_id)]) w (retK Try.prog Try.f14.results.toList R)) : Calls Try.prog 14 #[(Value.pointer p0_p), (Value.int IntKind.i64 p1_id)] w R := calls_den okProg Try.func14 b14 n14 (Nat.le_of_ble_eq_true rfl) h
theorem t14 (p0_p : Option Addr) (p1_id : Int) (w : World) (R : Ending → World → Prop) : den Try.prog M14 c14 (argE 0 [(Value.pointer p0_p), (Value.int IntKind.i64 p1_id)]) w (retK Try.prog Try.f14.results.toList R) =
(Call Try.prog 18 [Value.pointer p0_p, Value.int IntKind.i64 p1_id] w fun e w' =>
  ∃ b,
    e = Ending.returned (Value.bool b) ∧
      ((!b) = true → R (Ending.returned (Value.int IntKind.i64 4)) w') ∧
        ((!b) = false →
          ∃ a,
            p0_p = some a ∧
              ∃ p n c,
                World.cell? w' (Addr.add a 0) = some (Value.slice p n c) ∧
                  ((0 : Int) ≤ p1_id ∧ p1_id < (↑n : Int)) ∧
                    ∃ a,
                      p = some a ∧
                        Wr w' (Addr.add a (Int.toNat p1_id * 1)) [Value.bool false] fun w' =>
                          R (Ending.returned (Value.int IntKind.i64 0)) w')) := by kernel_rfl
/-! (*davit/davitref07.Pool).Pages -/
def M15 : Mt := { N := 36, keep := [(0, [0]), (1, [0, 5]), (2, [0, 5, 6]), (3, [0, 5, 6, 7]), (4, [0, 5, 6, 7, 8]), (5, [0, 5, 6, 7, 8, 17]), (6, [0, 5, 6, 7, 8]), (7, [0, 5, 6, 7, 8, 9]), (8, [0, 5, 6, 7, 8, 9, 24]), (9, [0, 5, 6, 7, 8]), (10, [0, 5, 6, 7, 8, 28]), (11, [0, 5, 6, 7, 8]), (12, [0, 5, 6, 7, 8]), (13, [2, 3, 4])], ords := [], bk := [(0, [5, 6, 7]), (1, [0, 5, 6, 7, 8])], cuts := [], lk := [(5, [0, 5, 6, 7, 8])] }
noncomputable def c15 : Code := bodyOf Try.f15
noncomputable def c15_0 : Code := c15.sr.sr.sr.sr.sr
noncomputable def c15_1 : Code := c15.sr.sr.sr.sr.sl.sr.sl.sl
def e15_1 (p0_p : Option Addr) (p5_a : Int) (p6_b : Int) (p7_c : Int) (p8_i : Int) : Env := [(0, SV.v (Value.pointer p0_p)), (5, SV.v (Value.int IntKind.i64 p5_a)), (6, SV.v (Value.int IntKind.i64 p6_b)), (7, SV.v (Value.int IntKind.i64 p7_c)), (8, SV.v (Value.int IntKind.i64 p8_i))]
def k15_1 (R : Ending → World → Prop) : Cont := blockK 0 [5, 6, 7] (seqK (fun E w => cutB (findL M15.cuts (headReg c15_0)) Try.prog M15 c15_0 E w (retK Try.prog Try.f15.results.toList R) fun E => den Try.prog M15 c15_0 E w (retK Try.prog Try.f15.results.toList R)) (retK Try.prog Try.f15.results.toList R))
theorem b15 : Try.f15.body = some c15 := by kernel_rfl
theorem n15 : Try.f15.ntmps = M15.N := by kernel_rfl
theorem u15 {p0_p : Option Addr} {w : World} {R : Ending → World → Prop} (h : den Try.prog M15 c15 (argE 0 [(Value.pointer p0_p)]) w (retK Try.prog Try.f15.results.toList R)) : Calls Try.prog 15 #[(Value.pointer p0_p)] w R := calls_den okProg Try.func15 b15 n15 (Nat.le_of_ble_eq_true rfl) h
theorem t15 (p0_p : Option Addr) (w : World) (R : Ending → World → Prop) : den Try.prog M15 c15 (argE 0 [(Value.pointer p0_p)]) w (retK Try.prog Try.f15.results.toList R) =
(Cut (WP Try.prog 36 (Code.loop c15_1) (e15_1 p0_p (0 : Int) (0 : Int) (0 : Int) (0 : Int)) w (k15_1 R))) := by kernel_rfl
theorem t15_1 (p0_p : Option Addr) (p5_a : Int) (p6_b : Int) (p7_c : Int) (p8_i : Int) (w : World) (B15_1 : Env → World → Prop) (R : Ending → World → Prop) : den Try.prog M15 c15_1 (e15_1 p0_p p5_a p6_b p7_c p8_i) w (loopK B15_1 (k15_1 R)) =
(∃ a,
  p0_p = some a ∧
    ∃ p n c,
      World.cell? w (Addr.add a 0) = some (Value.slice p n c) ∧
        (8 : Int) ≠ (0 : Int) ∧
          (decide (p8_i < IntKind.wrap IntKind.i64 (Int.tdiv (↑n : Int) (8 : Int))) = true →
              Call Try.prog 24 [Value.pointer p0_p, Value.int IntKind.i64 p8_i] w fun e w' =>
                ∃ n,
                  e = Ending.returned (Value.int IntKind.i64 n) ∧
                    ((n == (0 : Int)) = true →
                        B15_1
                          [(0, SV.v (Value.pointer p0_p)),
                            (5, SV.v (Value.int IntKind.i64 (IntKind.wrap IntKind.i64 (p5_a + (1 : Int))))),
                            (6, SV.v (Value.int IntKind.i64 p6_b)),
                            (7, SV.v (Value.int IntKind.i64 p7_c)),
                            (8, SV.v (Value.int IntKind.i64 (IntKind.wrap IntKind.i64 (p8_i + (1 : Int)))))]
                          w') ∧
                      ((n == (0 : Int)) = false →
                        (decide (n < (8 : Int)) = true →
                            B15_1
                              [(0, SV.v (Value.pointer p0_p)), (5, SV.v (Value.int IntKind.i64 p5_a)),
                                (6,
                                  SV.v (Value.int IntKind.i64 (IntKind.wrap IntKind.i64 (p6_b + (1 : Int))))),
                                (7, SV.v (Value.int IntKind.i64 p7_c)),
                                (8,
                                  SV.v (Value.int IntKind.i64 (IntKind.wrap IntKind.i64 (p8_i + (1 : Int)))))]
                              w') ∧
                          (decide (n < (8 : Int)) = false →
                            B15_1
                              [(0, SV.v (Value.pointer p0_p)), (5, SV.v (Value.int IntKind.i64 p5_a)),
                                (6, SV.v (Value.int IntKind.i64 p6_b)),
                                (7,
                                  SV.v (Value.int IntKind.i64 (IntKind.wrap IntKind.i64 (p7_c + (1 : Int))))),
                                (8,
                                  SV.v (Value.int IntKind.i64 (IntKind.wrap IntKind.i64 (p8_i + (1 : Int)))))]
                              w'))) ∧
            (decide (p8_i < IntKind.wrap IntKind.i64 (Int.tdiv (↑n : Int) (8 : Int))) = false →
              R
                (Ending.returned
                  (Value.tuple
                    #[Value.int IntKind.i64 p5_a, Value.int IntKind.i64 p6_b, Value.int IntKind.i64 p7_c]))
                w)) := by kernel_rfl
/-! (*davit/pool.Pool).Free -/
def M16 : Mt := { N := 26, keep := [(0, [0]), (1, [0, 7]), (2, [2]), (3, [0, 3]), (4, [3, 16, 17]), (5, [3, 16, 17, 18]), (6, [3, 5, 16, 17]), (7, [3, 16, 17]), (8, [3, 16, 17]), (9, [2])], ords := [], bk := [(0, [3]), (1, [3, 16, 17])], cuts := [], lk := [(5, [3, 16, 17])] }
noncomputable def c16 : Code := bodyOf Try.f16
noncomputable def c16_0 : Code := c16.sr.sr.sr.sr
noncomputable def c16_1 : Code := c16.sr.sr.sr.sl.sr.sl.sl
def e16_1 (p3_n : Int) (p16_t_0 : Int) (p16_t_1 : Int) (p16_t_2 : Int) (p16_t_3 : Int) (p16_t_4 : Int) (p16_t_5 : Int) (p16_t_6 : Int) (p16_t_7 : Int) (p16_t_8 : Int) (p16_t_9 : Int) (p16_t_10 : Int) (p16_t_11 : Int) (p17_t : Int) : Env := [(3, SV.v (Value.int IntKind.i64 p3_n)), (16, SV.v (Value.agg #[(Value.int IntKind.u8 p16_t_0), (Value.int IntKind.u8 p16_t_1), (Value.int IntKind.u8 p16_t_2), (Value.int IntKind.u8 p16_t_3), (Value.int IntKind.u8 p16_t_4), (Value.int IntKind.u8 p16_t_5), (Value.int IntKind.u8 p16_t_6), (Value.int IntKind.u8 p16_t_7), (Value.int IntKind.u8 p16_t_8), (Value.int IntKind.u8 p16_t_9), (Value.int IntKind.u8 p16_t_10), (Value.int IntKind.u8 p16_t_11)])), (17, SV.v (Value.int IntKind.i64 p17_t))]
def k16_1 (R : Ending → World → Prop) : Cont := blockK 0 [3] (seqK (fun E w => cutB (findL M16.cuts (headReg c16_0)) Try.prog M16 c16_0 E w (retK Try.prog Try.f16.results.toList R) fun E => den Try.prog M16 c16_0 E w (retK Try.prog Try.f16.results.toList R)) (retK Try.prog Try.f16.results.toList R))
theorem b16 : Try.f16.body = some c16 := by kernel_rfl
theorem n16 : Try.f16.ntmps = M16.N := by kernel_rfl
theorem u16 {p0_p : Option Addr} {w : World} {R : Ending → World → Prop} (h : den Try.prog M16 c16 (argE 0 [(Value.pointer p0_p)]) w (retK Try.prog Try.f16.results.toList R)) : Calls Try.prog 16 #[(Value.pointer p0_p)] w R := calls_den okProg Try.func16 b16 n16 (Nat.le_of_ble_eq_true rfl) h
theorem t16 (p0_p : Option Addr) (w : World) (R : Ending → World → Prop) : den Try.prog M16 c16 (argE 0 [(Value.pointer p0_p)]) w (retK Try.prog Try.f16.results.toList R) =
((Option.isNone p0_p = true → R (Ending.returned (Value.int IntKind.i64 0)) w) ∧
  (Option.isNone p0_p = false →
    ∃ a,
      p0_p = some a ∧
        ∃ n,
          World.cell? w (Addr.add a 12) = some (Value.int IntKind.i64 n) ∧
            ∃ a,
              p0_p = some a ∧
                ∃ n_1,
                  World.cell? w (Addr.add (Addr.add a 0) 0) = some (Value.int IntKind.u8 n_1) ∧
                    ∃ n_2,
                      World.cell? w (Addr.add (Addr.add a 0) 1) = some (Value.int IntKind.u8 n_2) ∧
                        ∃ n_3,
                          World.cell? w (Addr.add (Addr.add a 0) 2) = some (Value.int IntKind.u8 n_3) ∧
                            ∃ n_4,
                              World.cell? w (Addr.add (Addr.add a 0) 3) =
                                  some (Value.int IntKind.u8 n_4) ∧
                                ∃ n_5,
                                  World.cell? w (Addr.add (Addr.add a 0) 4) =
                                      some (Value.int IntKind.u8 n_5) ∧
                                    ∃ n_6,
                                      World.cell? w (Addr.add (Addr.add a 0) 5) =
                                          some (Value.int IntKind.u8 n_6) ∧
                                        ∃ n_7,
                                          World.cell? w (Addr.add (Addr.add a 0) 6) =
                                              some (Value.int IntKind.u8 n_7) ∧
                                            ∃ n_8,
                                              World.cell? w (Addr.add (Addr.add a 0) 7) =
                                                  some (Value.int IntKind.u8 n_8) ∧
                                                ∃ n_9,
                                                  World.cell? w (Addr.add (Addr.add a 0) 8) =
                                                      some (Value.int IntKind.u8 n_9) ∧
                                                    ∃ n_10,
                                                      World.cell? w (Addr.add (Addr.add a 0) 9) =
                                                          some (Value.int IntKind.u8 n_10) ∧
                                                        ∃ n_11,
                                                          World.cell? w (Addr.add (Addr.add a 0) 10) =
                                                              some (Value.int IntKind.u8 n_11) ∧
                                                            ∃ n_12,
                                                              World.cell? w
                                                                    (Addr.add (Addr.add a 0) 11) =
                                                                  some (Value.int IntKind.u8 n_12) ∧
                                                                Cut
                                                                  (WP Try.prog 26 (Code.loop c16_1)
                                                                    (e16_1 (IntKind.wrap IntKind.i64 (n * (8 : Int)))
                                                                      n_1 n_2 n_3 n_4 n_5 n_6 n_7 n_8 n_9 n_10 n_11 n_12
                                                                      (0 : Int))
                                                                    w (k16_1 R)))) := by kernel_rfl
theorem t16_1 (p3_n : Int) (p16_t_0 : Int) (p16_t_1 : Int) (p16_t_2 : Int) (p16_t_3 : Int) (p16_t_4 : Int) (p16_t_5 : Int) (p16_t_6 : Int) (p16_t_7 : Int) (p16_t_8 : Int) (p16_t_9 : Int) (p16_t_10 : Int) (p16_t_11 : Int) (p17_t : Int) (w : World) (B16_1 : Env → World → Prop) (R : Ending → World → Prop) : den Try.prog M16 c16_1 (e16_1 p3_n p16_t_0 p16_t_1 p16_t_2 p16_t_3 p16_t_4 p16_t_5 p16_t_6 p16_t_7 p16_t_8 p16_t_9 p16_t_10 p16_t_11 p17_t) w (loopK B16_1 (k16_1 R)) =
((decide (p17_t < (12 : Int)) = true →
    ((0 : Int) ≤ p17_t ∧ p17_t < (↑12 : Int)) ∧
      ∃ n,
        [Value.int IntKind.u8 p16_t_0, Value.int IntKind.u8 p16_t_1, Value.int IntKind.u8 p16_t_2,
                Value.int IntKind.u8 p16_t_3, Value.int IntKind.u8 p16_t_4, Value.int IntKind.u8 p16_t_5,
                Value.int IntKind.u8 p16_t_6, Value.int IntKind.u8 p16_t_7, Value.int IntKind.u8 p16_t_8,
                Value.int IntKind.u8 p16_t_9, Value.int IntKind.u8 p16_t_10,
                Value.int IntKind.u8 p16_t_11][Int.toNat p17_t * 1]? =
            some (Value.int IntKind.u8 n) ∧
          Call Try.prog 26 [Value.int IntKind.u8 n] w fun e w' =>
            ∃ n,
              e = Ending.returned (Value.int IntKind.i64 n) ∧
                B16_1
                  [(3, SV.v (Value.int IntKind.i64 (IntKind.wrap IntKind.i64 (p3_n - n)))),
                    (16,
                      SV.v
                        (Value.agg
                          #[Value.int IntKind.u8 p16_t_0, Value.int IntKind.u8 p16_t_1, Value.int IntKind.u8 p16_t_2,
                            Value.int IntKind.u8 p16_t_3, Value.int IntKind.u8 p16_t_4, Value.int IntKind.u8 p16_t_5,
                            Value.int IntKind.u8 p16_t_6, Value.int IntKind.u8 p16_t_7, Value.int IntKind.u8 p16_t_8,
                            Value.int IntKind.u8 p16_t_9, Value.int IntKind.u8 p16_t_10,
                            Value.int IntKind.u8 p16_t_11])),
                    (17, SV.v (Value.int IntKind.i64 (IntKind.wrap IntKind.i64 (p17_t + (1 : Int)))))]
                  w') ∧
  (decide (p17_t < (12 : Int)) = false → R (Ending.returned (Value.int IntKind.i64 p3_n)) w)) := by kernel_rfl
/-! (*davit/davitref07.Pool).Free -/
def M17 : Mt := { N := 25, keep := [(0, [0]), (1, [0, 3]), (2, [0, 3, 4]), (3, [0, 3, 4, 11]), (4, [0, 3, 4]), (5, [0, 3, 4, 21]), (6, [0, 3, 4]), (7, [2])], ords := [], bk := [(0, [3]), (1, [0, 3, 4])], cuts := [], lk := [(3, [0, 3, 4])] }
noncomputable def c17 : Code := bodyOf Try.f17
noncomputable def c17_0 : Code := c17.sr.sr.sr
noncomputable def c17_1 : Code := c17.sr.sr.sl.sr.sl.sl
def e17_1 (p0_p : Option Addr) (p3_n : Int) (p4_i : Int) : Env := [(0, SV.v (Value.pointer p0_p)), (3, SV.v (Value.int IntKind.i64 p3_n)), (4, SV.v (Value.int IntKind.i64 p4_i))]
def k17_1 (R : Ending → World → Prop) : Cont := blockK 0 [3] (seqK (fun E w => cutB (findL M17.cuts (headReg c17_0)) Try.prog M17 c17_0 E w (retK Try.prog Try.f17.results.toList R) fun E => den Try.prog M17 c17_0 E w (retK Try.prog Try.f17.results.toList R)) (retK Try.prog Try.f17.results.toList R))
theorem b17 : Try.f17.body = some c17 := by kernel_rfl
theorem n17 : Try.f17.ntmps = M17.N := by kernel_rfl
theorem u17 {p0_p : Option Addr} {w : World} {R : Ending → World → Prop} (h : den Try.prog M17 c17 (argE 0 [(Value.pointer p0_p)]) w (retK Try.prog Try.f17.results.toList R)) : Calls Try.prog 17 #[(Value.pointer p0_p)] w R := calls_den okProg Try.func17 b17 n17 (Nat.le_of_ble_eq_true rfl) h
theorem t17 (p0_p : Option Addr) (w : World) (R : Ending → World → Prop) : den Try.prog M17 c17 (argE 0 [(Value.pointer p0_p)]) w (retK Try.prog Try.f17.results.toList R) =
(Cut (WP Try.prog 25 (Code.loop c17_1) (e17_1 p0_p (0 : Int) (1 : Int)) w (k17_1 R))) := by kernel_rfl
theorem t17_1 (p0_p : Option Addr) (p3_n : Int) (p4_i : Int) (w : World) (B17_1 : Env → World → Prop) (R : Ending → World → Prop) : den Try.prog M17 c17_1 (e17_1 p0_p p3_n p4_i) w (loopK B17_1 (k17_1 R)) =
(∃ a,
  p0_p = some a ∧
    ∃ p n c,
      World.cell? w (Addr.add a 0) = some (Value.slice p n c) ∧
        (decide (p4_i < (↑n : Int)) = true →
            ∃ a,
              p0_p = some a ∧
                ∃ p n c,
                  World.cell? w (Addr.add a 0) = some (Value.slice p n c) ∧
                    ((0 : Int) ≤ p4_i ∧ p4_i < (↑n : Int)) ∧
                      ∃ a,
                        p = some a ∧
                          ∃ b,
                            World.cell? w (Addr.add a (Int.toNat p4_i * 1)) = some (Value.bool b) ∧
                              ((!b) = true →
                                  B17_1
                                    [(0, SV.v (Value.pointer p0_p)),
                                      (3,
                                        SV.v (Value.int IntKind.i64 (IntKind.wrap IntKind.i64 (p3_n + (1 : Int))))),
                                      (4,
                                        SV.v (Value.int IntKind.i64 (IntKind.wrap IntKind.i64 (p4_i + (1 : Int)))))]
                                    w) ∧
                                ((!b) = false →
                                  B17_1
                                    [(0, SV.v (Value.pointer p0_p)),
                                      (3, SV.v (Value.int IntKind.i64 p3_n)),
                                      (4,
                                        SV.v (Value.int IntKind.i64 (IntKind.wrap IntKind.i64 (p4_i + (1 : Int)))))]
                                    w)) ∧
          (decide (p4_i < (↑n : Int)) = false → R (Ending.returned (Value.int IntKind.i64 p3_n)) w)) := by kernel_rfl
/-! (*davit/davitref07.Pool).Out -/
def M18 : Mt := { N := 25, keep := [(0, [0, 1]), (1, [4])], ords := [], bk := [], cuts := [], lk := [] }
noncomputable def c18 : Code := bodyOf Try.f18
theorem b18 : Try.f18.body = some c18 := by kernel_rfl
theorem n18 : Try.f18.ntmps = M18.N := by kernel_rfl
theorem u18 {p0_p : Option Addr} {p1_id : Int} {w : World} {R : Ending → World → Prop} (h : den Try.prog M18 c18 (argE 0 [(Value.pointer p0_p), (Value.int IntKind.i64 p1_id)]) w (retK Try.prog Try.f18.results.toList R)) : Calls Try.prog 18 #[(Value.pointer p0_p), (Value.int IntKind.i64 p1_id)] w R := calls_den okProg Try.func18 b18 n18 (Nat.le_of_ble_eq_true rfl) h
theorem t18 (p0_p : Option Addr) (p1_id : Int) (w : World) (R : Ending → World → Prop) : den Try.prog M18 c18 (argE 0 [(Value.pointer p0_p), (Value.int IntKind.i64 p1_id)]) w (retK Try.prog Try.f18.results.toList R) =
((decide (p1_id > (0 : Int)) = true →
    ∃ a,
      p0_p = some a ∧
        ∃ p n c,
          World.cell? w (Addr.add a 0) = some (Value.slice p n c) ∧
            (decide (p1_id < (↑n : Int)) = true →
                ∃ a,
                  p0_p = some a ∧
                    ∃ p n c,
                      World.cell? w (Addr.add a 0) = some (Value.slice p n c) ∧
                        ((0 : Int) ≤ p1_id ∧ p1_id < (↑n : Int)) ∧
                          ∃ a,
                            p = some a ∧
                              ∃ b,
                                World.cell? w (Addr.add a (Int.toNat p1_id * 1)) = some (Value.bool b) ∧
                                  R (Ending.returned (Value.bool b)) w) ∧
              (decide (p1_id < (↑n : Int)) = false → R (Ending.returned (Value.bool false)) w)) ∧
  (decide (p1_id > (0 : Int)) = false → R (Ending.returned (Value.bool false)) w)) := by kernel_rfl
/-! (*davit/pool.Pool).bit -/
def M19 : Mt := { N := 28, keep := [(0, [0, 1]), (1, [1, 20]), (2, [4, 5]), (3, [4, 5])], ords := [(3, [0, 1, 2, 3, 4, 5, 6, 7, 8])], bk := [], cuts := [], lk := [] }
noncomputable def c19 : Code := bodyOf Try.f19
theorem b19 : Try.f19.body = some c19 := by kernel_rfl
theorem n19 : Try.f19.ntmps = M19.N := by kernel_rfl
theorem u19 {p0_p : Option Addr} {p1_id : Int} {w : World} {R : Ending → World → Prop} (h : den Try.prog M19 c19 (argE 0 [(Value.pointer p0_p), (Value.int IntKind.i64 p1_id)]) w (retK Try.prog Try.f19.results.toList R)) : Calls Try.prog 19 #[(Value.pointer p0_p), (Value.int IntKind.i64 p1_id)] w R := calls_den okProg Try.func19 b19 n19 (Nat.le_of_ble_eq_true rfl) h
theorem t19 (p0_p : Option Addr) (p1_id : Int) (w : World) (R : Ending → World → Prop) : den Try.prog M19 c19 (argE 0 [(Value.pointer p0_p), (Value.int IntKind.i64 p1_id)]) w (retK Try.prog Try.f19.results.toList R) =
((Option.isNone p0_p = false →
    (decide (p1_id < (1 : Int)) = false →
        ∃ a,
          p0_p = some a ∧
            ∃ n,
              World.cell? w (Addr.add a 12) = some (Value.int IntKind.i64 n) ∧
                (decide (p1_id > IntKind.wrap IntKind.i64 (n * (8 : Int))) = true →
                    R
                      (Ending.returned (Value.tuple #[Value.int IntKind.i64 0, Value.int IntKind.u8 0]))
                      w) ∧
                  (decide (p1_id > IntKind.wrap IntKind.i64 (n * (8 : Int))) = false →
                    ∀ (w' : World),
                      World.heap w' = World.heap w →
                        World.os w' = World.os w →
                          World.tape w' = World.tape w →
                            World.output w' = World.output w →
                              (8 : Int) ≠ (0 : Int) ∧
                                (8 : Int) ≠ (0 : Int) ∧
                                  (0 : Int) ≤ Int.tmod (IntKind.wrap IntKind.i64 (p1_id - (1 : Int))) (8 : Int) ∧
                                    R
                                      (Ending.returned
                                        (Value.tuple
                                          #[Value.int IntKind.i64
                                              (IntKind.wrap IntKind.i64
                                                (Int.tdiv (IntKind.wrap IntKind.i64 (p1_id - (1 : Int))) (8 : Int))),
                                            Value.int IntKind.u8
                                              (shlOp IntKind.u8 (1 : Int)
                                                (Int.tmod (IntKind.wrap IntKind.i64 (p1_id - (1 : Int))) (8 : Int)))]))
                                      w')) ∧
      (decide (p1_id < (1 : Int)) = true →
        R (Ending.returned (Value.tuple #[Value.int IntKind.i64 0, Value.int IntKind.u8 0])) w)) ∧
  (Option.isNone p0_p = true →
    R (Ending.returned (Value.tuple #[Value.int IntKind.i64 0, Value.int IntKind.u8 0])) w)) := by kernel_rfl
/-! (*davit/pool.Pool).find -/
def M20 : Mt := { N := 23, keep := [(0, [0, 1]), (1, [0, 1, 9, 10]), (2, [0, 1, 9, 10, 11]), (3, [0, 1, 5, 9, 10]), (4, [0, 1, 5, 9, 10, 20]), (5, [4]), (6, [0, 1, 9, 10]), (7, [4])], ords := [], bk := [(0, []), (1, [0, 1, 9, 10])], cuts := [], lk := [(2, [0, 1, 9, 10])] }
noncomputable def c20 : Code := bodyOf Try.f20
noncomputable def c20_0 : Code := c20.sr.sr
noncomputable def c20_1 : Code := c20.sr.sl.sr.sl.sl
def e20_1 (p0_p : Option Addr) (p9_t : Int) (p10_t : Int) : Env := [(0, SV.v (Value.pointer p0_p)), (1, SV.v (Value.func (Fn.func 21) #[] #[])), (9, SV.v (Value.int IntKind.i64 p9_t)), (10, SV.v (Value.int IntKind.i64 p10_t))]
def k20_1 (R : Ending → World → Prop) : Cont := blockK 0 [] (seqK (fun E w => cutB (findL M20.cuts (headReg c20_0)) Try.prog M20 c20_0 E w (retK Try.prog Try.f20.results.toList R) fun E => den Try.prog M20 c20_0 E w (retK Try.prog Try.f20.results.toList R)) (retK Try.prog Try.f20.results.toList R))
theorem b20 : Try.f20.body = some c20 := by kernel_rfl
theorem n20 : Try.f20.ntmps = M20.N := by kernel_rfl
theorem u20 {p0_p : Option Addr} {w : World} {R : Ending → World → Prop} (h : den Try.prog M20 c20 (argE 0 [(Value.pointer p0_p), (Value.func (Fn.func 21) #[] #[])]) w (retK Try.prog Try.f20.results.toList R)) : Calls Try.prog 20 #[(Value.pointer p0_p), (Value.func (Fn.func 21) #[] #[])] w R := calls_den okProg Try.func20 b20 n20 (Nat.le_of_ble_eq_true rfl) h
theorem t20 (p0_p : Option Addr) (w : World) (R : Ending → World → Prop) : den Try.prog M20 c20 (argE 0 [(Value.pointer p0_p), (Value.func (Fn.func 21) #[] #[])]) w (retK Try.prog Try.f20.results.toList R) =
(∃ a,
  p0_p = some a ∧
    ∃ n,
      World.cell? w (Addr.add a 12) = some (Value.int IntKind.i64 n) ∧
        Cut
          (WP Try.prog 23 (Code.loop c20_1)
            [(0, SV.v (Value.pointer p0_p)), (1, SV.v (Value.func (Fn.func 21) #[] #[])),
              (9, SV.v (Value.int IntKind.i64 n)), (10, SV.v (Value.int IntKind.i64 0))]
            w (k20_1 R))) := by kernel_rfl
theorem t20_1 (p0_p : Option Addr) (p9_t : Int) (p10_t : Int) (w : World) (B20_1 : Env → World → Prop) (R : Ending → World → Prop) : den Try.prog M20 c20_1 (e20_1 p0_p p9_t p10_t) w (loopK B20_1 (k20_1 R)) =
((decide (p10_t < p9_t) = true →
    ∃ a,
      p0_p = some a ∧
        ((0 : Int) ≤ p10_t ∧ p10_t < (↑12 : Int)) ∧
          ∃ n,
            World.cell? w (Addr.add (Addr.add a 0) (Int.toNat p10_t * 1)) =
                some (Value.int IntKind.u8 n) ∧
              Call Try.prog 21 [Value.int IntKind.u8 n] w fun e w' =>
                ∃ b,
                  e = Ending.returned (Value.bool b) ∧
                    (b = true → R (Ending.returned (Value.int IntKind.i64 p10_t)) w') ∧
                      (b = false →
                        B20_1
                          [(0, SV.v (Value.pointer p0_p)),
                            (1, SV.v (Value.func (Fn.func 21) #[] #[])),
                            (9, SV.v (Value.int IntKind.i64 p9_t)),
                            (10, SV.v (Value.int IntKind.i64 (IntKind.wrap IntKind.i64 (p10_t + (1 : Int)))))]
                          w')) ∧
  (decide (p10_t < p9_t) = false → R (Ending.returned (Value.int IntKind.i64 (-1 : Int))) w)) := by kernel_rfl
/-! (*davit/pool.Pool).Take$1 -/
def M21 : Mt := { N := 9, keep := [(0, [0]), (1, [2])], ords := [], bk := [], cuts := [], lk := [] }
noncomputable def c21 : Code := bodyOf Try.f21
theorem b21 : Try.f21.body = some c21 := by kernel_rfl
theorem n21 : Try.f21.ntmps = M21.N := by kernel_rfl
theorem u21 {p0_page : Int} {w : World} {R : Ending → World → Prop} (h : den Try.prog M21 c21 (argE 0 [(Value.int IntKind.u8 p0_page)]) w (retK Try.prog Try.f21.results.toList R)) : Calls Try.prog 21 #[(Value.int IntKind.u8 p0_page)] w R := calls_den okProg Try.func21 b21 n21 (Nat.le_of_ble_eq_true rfl) h
theorem t21 (p0_page : Int) (w : World) (R : Ending → World → Prop) : den Try.prog M21 c21 (argE 0 [(Value.int IntKind.u8 p0_page)]) w (retK Try.prog Try.f21.results.toList R) =
(((p0_page != (0 : Int)) = true → R (Ending.returned (Value.bool (p0_page != (255 : Int)))) w) ∧
  ((p0_page != (0 : Int)) = false → R (Ending.returned (Value.bool false)) w)) := by kernel_rfl
/-! (*davit/pool.Pool).Take$2 -/
def M22 : Mt := { N := 5, keep := [(0, [0]), (1, [2])], ords := [], bk := [], cuts := [], lk := [] }
noncomputable def c22 : Code := bodyOf Try.f22
theorem b22 : Try.f22.body = some c22 := by kernel_rfl
theorem n22 : Try.f22.ntmps = M22.N := by kernel_rfl
theorem u22 {p0_page : Int} {w : World} {R : Ending → World → Prop} (h : den Try.prog M22 c22 (argE 0 [(Value.int IntKind.u8 p0_page)]) w (retK Try.prog Try.f22.results.toList R)) : Calls Try.prog 22 #[(Value.int IntKind.u8 p0_page)] w R := calls_den okProg Try.func22 b22 n22 (Nat.le_of_ble_eq_true rfl) h
theorem t22 (p0_page : Int) (w : World) (R : Ending → World → Prop) : den Try.prog M22 c22 (argE 0 [(Value.int IntKind.u8 p0_page)]) w (retK Try.prog Try.f22.results.toList R) =
(R (Ending.returned (Value.bool (p0_page == (0 : Int)))) w) := by kernel_rfl
/-! math/bits.TrailingZeros8 -/
def M23 : Mt := { N := 6, keep := [(0, [0]), (1, [2])], ords := [], bk := [], cuts := [], lk := [] }
noncomputable def c23 : Code := bodyOf Try.f23
theorem b23 : Try.f23.body = some c23 := by kernel_rfl
theorem n23 : Try.f23.ntmps = M23.N := by kernel_rfl
theorem u23 {p0_x : Int} {w : World} {R : Ending → World → Prop} (h : den Try.prog M23 c23 (argE 0 [(Value.int IntKind.u8 p0_x)]) w (retK Try.prog Try.f23.results.toList R)) : Calls Try.prog 23 #[(Value.int IntKind.u8 p0_x)] w R := calls_den okProg Try.func23 b23 n23 (Nat.le_of_ble_eq_true rfl) h
theorem t23 (p0_x : Int) (w : World) (R : Ending → World → Prop) : den Try.prog M23 c23 (argE 0 [(Value.int IntKind.u8 p0_x)]) w (retK Try.prog Try.f23.results.toList R) =
(((0 : Int) ≤ p0_x ∧ p0_x < (↑256 : Int)) ∧
  ∃ c,
    (∃ u,
        (ByteArray.mk #[(8 : UInt8), (0 : UInt8), (1 : UInt8), (0 : UInt8), (2 : UInt8), (0 : UInt8), (1 : UInt8),
                    (0 : UInt8), (3 : UInt8), (0 : UInt8), (1 : UInt8), (0 : UInt8), (2 : UInt8), (0 : UInt8),
                    (1 : UInt8), (0 : UInt8), (4 : UInt8), (0 : UInt8), (1 : UInt8), (0 : UInt8), (2 : UInt8),
                    (0 : UInt8), (1 : UInt8), (0 : UInt8), (3 : UInt8), (0 : UInt8), (1 : UInt8), (0 : UInt8),
                    (2 : UInt8), (0 : UInt8), (1 : UInt8), (0 : UInt8), (5 : UInt8), (0 : UInt8), (1 : UInt8),
                    (0 : UInt8), (2 : UInt8), (0 : UInt8), (1 : UInt8), (0 : UInt8), (3 : UInt8), (0 : UInt8),
                    (1 : UInt8), (0 : UInt8), (2 : UInt8), (0 : UInt8), (1 : UInt8), (0 : UInt8), (4 : UInt8),
                    (0 : UInt8), (1 : UInt8), (0 : UInt8), (2 : UInt8), (0 : UInt8), (1 : UInt8), (0 : UInt8),
                    (3 : UInt8), (0 : UInt8), (1 : UInt8), (0 : UInt8), (2 : UInt8), (0 : UInt8), (1 : UInt8),
                    (0 : UInt8), (6 : UInt8), (0 : UInt8), (1 : UInt8), (0 : UInt8), (2 : UInt8), (0 : UInt8),
                    (1 : UInt8), (0 : UInt8), (3 : UInt8), (0 : UInt8), (1 : UInt8), (0 : UInt8), (2 : UInt8),
                    (0 : UInt8), (1 : UInt8), (0 : UInt8), (4 : UInt8), (0 : UInt8), (1 : UInt8), (0 : UInt8),
                    (2 : UInt8), (0 : UInt8), (1 : UInt8), (0 : UInt8), (3 : UInt8), (0 : UInt8), (1 : UInt8),
                    (0 : UInt8), (2 : UInt8), (0 : UInt8), (1 : UInt8), (0 : UInt8), (5 : UInt8), (0 : UInt8),
                    (1 : UInt8), (0 : UInt8), (2 : UInt8), (0 : UInt8), (1 : UInt8), (0 : UInt8), (3 : UInt8),
                    (0 : UInt8), (1 : UInt8), (0 : UInt8), (2 : UInt8), (0 : UInt8), (1 : UInt8), (0 : UInt8),
                    (4 : UInt8), (0 : UInt8), (1 : UInt8), (0 : UInt8), (2 : UInt8), (0 : UInt8), (1 : UInt8),
                    (0 : UInt8), (3 : UInt8), (0 : UInt8), (1 : UInt8), (0 : UInt8), (2 : UInt8), (0 : UInt8),
                    (1 : UInt8), (0 : UInt8), (7 : UInt8), (0 : UInt8), (1 : UInt8), (0 : UInt8), (2 : UInt8),
                    (0 : UInt8), (1 : UInt8), (0 : UInt8), (3 : UInt8), (0 : UInt8), (1 : UInt8), (0 : UInt8),
                    (2 : UInt8), (0 : UInt8), (1 : UInt8), (0 : UInt8), (4 : UInt8), (0 : UInt8), (1 : UInt8),
                    (0 : UInt8), (2 : UInt8), (0 : UInt8), (1 : UInt8), (0 : UInt8), (3 : UInt8), (0 : UInt8),
                    (1 : UInt8), (0 : UInt8), (2 : UInt8), (0 : UInt8), (1 : UInt8), (0 : UInt8), (5 : UInt8),
                    (0 : UInt8), (1 : UInt8), (0 : UInt8), (2 : UInt8), (0 : UInt8), (1 : UInt8), (0 : UInt8),
                    (3 : UInt8), (0 : UInt8), (1 : UInt8), (0 : UInt8), (2 : UInt8), (0 : UInt8), (1 : UInt8),
                    (0 : UInt8), (4 : UInt8), (0 : UInt8), (1 : UInt8), (0 : UInt8), (2 : UInt8), (0 : UInt8),
                    (1 : UInt8), (0 : UInt8), (3 : UInt8), (0 : UInt8), (1 : UInt8), (0 : UInt8), (2 : UInt8),
                    (0 : UInt8), (1 : UInt8), (0 : UInt8), (6 : UInt8), (0 : UInt8), (1 : UInt8), (0 : UInt8),
                    (2 : UInt8), (0 : UInt8), (1 : UInt8), (0 : UInt8), (3 : UInt8), (0 : UInt8), (1 : UInt8),
                    (0 : UInt8), (2 : UInt8), (0 : UInt8), (1 : UInt8), (0 : UInt8), (4 : UInt8), (0 : UInt8),
                    (1 : UInt8), (0 : UInt8), (2 : UInt8), (0 : UInt8), (1 : UInt8), (0 : UInt8), (3 : UInt8),
                    (0 : UInt8), (1 : UInt8), (0 : UInt8), (2 : UInt8), (0 : UInt8), (1 : UInt8), (0 : UInt8),
                    (5 : UInt8), (0 : UInt8), (1 : UInt8), (0 : UInt8), (2 : UInt8), (0 : UInt8), (1 : UInt8),
                    (0 : UInt8), (3 : UInt8), (0 : UInt8), (1 : UInt8), (0 : UInt8), (2 : UInt8), (0 : UInt8),
                    (1 : UInt8), (0 : UInt8), (4 : UInt8), (0 : UInt8), (1 : UInt8), (0 : UInt8), (2 : UInt8),
                    (0 : UInt8), (1 : UInt8), (0 : UInt8), (3 : UInt8), (0 : UInt8), (1 : UInt8), (0 : UInt8),
                    (2 : UInt8), (0 : UInt8), (1 : UInt8), (0 : UInt8)])[Int.toNat p0_x]? =
            some u ∧
          (↑(UInt8.toNat u) : Int) = c) ∧
      R (Ending.returned (Value.int IntKind.i64 (IntKind.wrap IntKind.i64 c))) w) := by kernel_rfl
/-! (*davit/davitref07.Pool).taken -/
def M24 : Mt := { N := 27, keep := [(0, [0, 1]), (1, [0, 1, 5]), (2, [0, 1, 5, 6]), (3, [0, 1, 5, 6, 14]), (4, [0, 1, 5, 6]), (5, [0, 1, 5, 6, 23]), (6, [0, 1, 5, 6]), (7, [4])], ords := [], bk := [(0, [5]), (1, [0, 1, 5, 6])], cuts := [], lk := [(3, [0, 1, 5, 6])] }
noncomputable def c24 : Code := bodyOf Try.f24
noncomputable def c24_0 : Code := c24.sr.sr.sr
noncomputable def c24_1 : Code := c24.sr.sr.sl.sr.sl.sl
def e24_1 (p0_p : Option Addr) (p1_page : Int) (p5_n : Int) (p6_i : Int) : Env := [(0, SV.v (Value.pointer p0_p)), (1, SV.v (Value.int IntKind.i64 p1_page)), (5, SV.v (Value.int IntKind.i64 p5_n)), (6, SV.v (Value.int IntKind.i64 p6_i))]
def k24_1 (R : Ending → World → Prop) : Cont := blockK 0 [5] (seqK (fun E w => cutB (findL M24.cuts (headReg c24_0)) Try.prog M24 c24_0 E w (retK Try.prog Try.f24.results.toList R) fun E => den Try.prog M24 c24_0 E w (retK Try.prog Try.f24.results.toList R)) (retK Try.prog Try.f24.results.toList R))
theorem b24 : Try.f24.body = some c24 := by kernel_rfl
theorem n24 : Try.f24.ntmps = M24.N := by kernel_rfl
theorem u24 {p0_p : Option Addr} {p1_page : Int} {w : World} {R : Ending → World → Prop} (h : den Try.prog M24 c24 (argE 0 [(Value.pointer p0_p), (Value.int IntKind.i64 p1_page)]) w (retK Try.prog Try.f24.results.toList R)) : Calls Try.prog 24 #[(Value.pointer p0_p), (Value.int IntKind.i64 p1_page)] w R := calls_den okProg Try.func24 b24 n24 (Nat.le_of_ble_eq_true rfl) h
theorem t24 (p0_p : Option Addr) (p1_page : Int) (w : World) (R : Ending → World → Prop) : den Try.prog M24 c24 (argE 0 [(Value.pointer p0_p), (Value.int IntKind.i64 p1_page)]) w (retK Try.prog Try.f24.results.toList R) =
(Cut
  (WP Try.prog 27 (Code.loop c24_1)
    (e24_1 p0_p p1_page (0 : Int)
      (IntKind.wrap IntKind.i64 (IntKind.wrap IntKind.i64 ((8 : Int) * p1_page) + (1 : Int))))
    w (k24_1 R))) := by kernel_rfl
theorem t24_1 (p0_p : Option Addr) (p1_page : Int) (p5_n : Int) (p6_i : Int) (w : World) (B24_1 : Env → World → Prop) (R : Ending → World → Prop) : den Try.prog M24 c24_1 (e24_1 p0_p p1_page p5_n p6_i) w (loopK B24_1 (k24_1 R)) =
((decide (p6_i ≤ IntKind.wrap IntKind.i64 (IntKind.wrap IntKind.i64 ((8 : Int) * p1_page) + (8 : Int))) = true →
    ∃ a,
      p0_p = some a ∧
        ∃ p n c,
          World.cell? w (Addr.add a 0) = some (Value.slice p n c) ∧
            ((0 : Int) ≤ p6_i ∧ p6_i < (↑n : Int)) ∧
              ∃ a,
                p = some a ∧
                  ∃ b,
                    World.cell? w (Addr.add a (Int.toNat p6_i * 1)) = some (Value.bool b) ∧
                      (b = true →
                          B24_1
                            [(0, SV.v (Value.pointer p0_p)),
                              (1, SV.v (Value.int IntKind.i64 p1_page)),
                              (5, SV.v (Value.int IntKind.i64 (IntKind.wrap IntKind.i64 (p5_n + (1 : Int))))),
                              (6, SV.v (Value.int IntKind.i64 (IntKind.wrap IntKind.i64 (p6_i + (1 : Int)))))]
                            w) ∧
                        (b = false →
                          B24_1
                            [(0, SV.v (Value.pointer p0_p)),
                              (1, SV.v (Value.int IntKind.i64 p1_page)),
                              (5, SV.v (Value.int IntKind.i64 p5_n)),
                              (6, SV.v (Value.int IntKind.i64 (IntKind.wrap IntKind.i64 (p6_i + (1 : Int)))))]
                            w)) ∧
  (decide (p6_i ≤ IntKind.wrap IntKind.i64 (IntKind.wrap IntKind.i64 ((8 : Int) * p1_page) + (8 : Int))) = false →
    R (Ending.returned (Value.int IntKind.i64 p5_n)) w)) := by kernel_rfl
/-! (*davit/davitref07.Pool).free -/
def M25 : Mt := { N := 31, keep := [(0, [0, 1]), (1, [0, 1, 5]), (2, [0, 1, 5, 13]), (3, [0, 1, 5]), (4, [0, 1, 5, 23]), (5, [5]), (6, [4]), (7, [4])], ords := [], bk := [(0, []), (1, [0, 1, 5])], cuts := [], lk := [(2, [0, 1, 5])] }
noncomputable def c25 : Code := bodyOf Try.f25
noncomputable def c25_0 : Code := c25.sr.sr
noncomputable def c25_1 : Code := c25.sr.sl.sr.sl.sl
def e25_1 (p0_p : Option Addr) (p1_page : Int) (p5_i : Int) : Env := [(0, SV.v (Value.pointer p0_p)), (1, SV.v (Value.int IntKind.i64 p1_page)), (5, SV.v (Value.int IntKind.i64 p5_i))]
def k25_1 (R : Ending → World → Prop) : Cont := blockK 0 [] (seqK (fun E w => cutB (findL M25.cuts (headReg c25_0)) Try.prog M25 c25_0 E w (retK Try.prog Try.f25.results.toList R) fun E => den Try.prog M25 c25_0 E w (retK Try.prog Try.f25.results.toList R)) (retK Try.prog Try.f25.results.toList R))
theorem b25 : Try.f25.body = some c25 := by kernel_rfl
theorem n25 : Try.f25.ntmps = M25.N := by kernel_rfl
theorem u25 {p0_p : Option Addr} {p1_page : Int} {w : World} {R : Ending → World → Prop} (h : den Try.prog M25 c25 (argE 0 [(Value.pointer p0_p), (Value.int IntKind.i64 p1_page)]) w (retK Try.prog Try.f25.results.toList R)) : Calls Try.prog 25 #[(Value.pointer p0_p), (Value.int IntKind.i64 p1_page)] w R := calls_den okProg Try.func25 b25 n25 (Nat.le_of_ble_eq_true rfl) h
theorem t25 (p0_p : Option Addr) (p1_page : Int) (w : World) (R : Ending → World → Prop) : den Try.prog M25 c25 (argE 0 [(Value.pointer p0_p), (Value.int IntKind.i64 p1_page)]) w (retK Try.prog Try.f25.results.toList R) =
(Cut
  (WP Try.prog 31 (Code.loop c25_1)
    (e25_1 p0_p p1_page (IntKind.wrap IntKind.i64 (IntKind.wrap IntKind.i64 ((8 : Int) * p1_page) + (1 : Int)))) w
    (k25_1 R))) := by kernel_rfl
theorem t25_1 (p0_p : Option Addr) (p1_page : Int) (p5_i : Int) (w : World) (B25_1 : Env → World → Prop) (R : Ending → World → Prop) : den Try.prog M25 c25_1 (e25_1 p0_p p1_page p5_i) w (loopK B25_1 (k25_1 R)) =
((decide (p5_i ≤ IntKind.wrap IntKind.i64 (IntKind.wrap IntKind.i64 ((8 : Int) * p1_page) + (8 : Int))) = true →
    ∃ a,
      p0_p = some a ∧
        ∃ p n c,
          World.cell? w (Addr.add a 0) = some (Value.slice p n c) ∧
            ((0 : Int) ≤ p5_i ∧ p5_i < (↑n : Int)) ∧
              ∃ a,
                p = some a ∧
                  ∃ b,
                    World.cell? w (Addr.add a (Int.toNat p5_i * 1)) = some (Value.bool b) ∧
                      ((!b) = true →
                          ∃ a,
                            p0_p = some a ∧
                              ∃ p n c,
                                World.cell? w (Addr.add a 0) = some (Value.slice p n c) ∧
                                  ((0 : Int) ≤ p5_i ∧ p5_i < (↑n : Int)) ∧
                                    ∃ a,
                                      p = some a ∧
                                        Wr w (Addr.add a (Int.toNat p5_i * 1)) [Value.bool true] fun w' =>
                                          R (Ending.returned (Value.int IntKind.i64 p5_i)) w') ∧
                        ((!b) = false →
                          B25_1
                            [(0, SV.v (Value.pointer p0_p)),
                              (1, SV.v (Value.int IntKind.i64 p1_page)),
                              (5, SV.v (Value.int IntKind.i64 (IntKind.wrap IntKind.i64 (p5_i + (1 : Int)))))]
                            w)) ∧
  (decide (p5_i ≤ IntKind.wrap IntKind.i64 (IntKind.wrap IntKind.i64 ((8 : Int) * p1_page) + (8 : Int))) = false →
    R (Ending.returned (Value.int IntKind.i64 0)) w)) := by kernel_rfl
/-! math/bits.OnesCount8 -/
def M26 : Mt := { N := 6, keep := [(0, [0]), (1, [2])], ords := [], bk := [], cuts := [], lk := [] }
noncomputable def c26 : Code := bodyOf Try.f26
theorem b26 : Try.f26.body = some c26 := by kernel_rfl
theorem n26 : Try.f26.ntmps = M26.N := by kernel_rfl
theorem u26 {p0_x : Int} {w : World} {R : Ending → World → Prop} (h : den Try.prog M26 c26 (argE 0 [(Value.int IntKind.u8 p0_x)]) w (retK Try.prog Try.f26.results.toList R)) : Calls Try.prog 26 #[(Value.int IntKind.u8 p0_x)] w R := calls_den okProg Try.func26 b26 n26 (Nat.le_of_ble_eq_true rfl) h
theorem t26 (p0_x : Int) (w : World) (R : Ending → World → Prop) : den Try.prog M26 c26 (argE 0 [(Value.int IntKind.u8 p0_x)]) w (retK Try.prog Try.f26.results.toList R) =
(((0 : Int) ≤ p0_x ∧ p0_x < (↑256 : Int)) ∧
  ∃ c,
    (∃ u,
        (ByteArray.mk #[(0 : UInt8), (1 : UInt8), (1 : UInt8), (2 : UInt8), (1 : UInt8), (2 : UInt8), (2 : UInt8),
                    (3 : UInt8), (1 : UInt8), (2 : UInt8), (2 : UInt8), (3 : UInt8), (2 : UInt8), (3 : UInt8),
                    (3 : UInt8), (4 : UInt8), (1 : UInt8), (2 : UInt8), (2 : UInt8), (3 : UInt8), (2 : UInt8),
                    (3 : UInt8), (3 : UInt8), (4 : UInt8), (2 : UInt8), (3 : UInt8), (3 : UInt8), (4 : UInt8),
                    (3 : UInt8), (4 : UInt8), (4 : UInt8), (5 : UInt8), (1 : UInt8), (2 : UInt8), (2 : UInt8),
                    (3 : UInt8), (2 : UInt8), (3 : UInt8), (3 : UInt8), (4 : UInt8), (2 : UInt8), (3 : UInt8),
                    (3 : UInt8), (4 : UInt8), (3 : UInt8), (4 : UInt8), (4 : UInt8), (5 : UInt8), (2 : UInt8),
                    (3 : UInt8), (3 : UInt8), (4 : UInt8), (3 : UInt8), (4 : UInt8), (4 : UInt8), (5 : UInt8),
                    (3 : UInt8), (4 : UInt8), (4 : UInt8), (5 : UInt8), (4 : UInt8), (5 : UInt8), (5 : UInt8),
                    (6 : UInt8), (1 : UInt8), (2 : UInt8), (2 : UInt8), (3 : UInt8), (2 : UInt8), (3 : UInt8),
                    (3 : UInt8), (4 : UInt8), (2 : UInt8), (3 : UInt8), (3 : UInt8), (4 : UInt8), (3 : UInt8),
                    (4 : UInt8), (4 : UInt8), (5 : UInt8), (2 : UInt8), (3 : UInt8), (3 : UInt8), (4 : UInt8),
                    (3 : UInt8), (4 : UInt8), (4 : UInt8), (5 : UInt8), (3 : UInt8), (4 : UInt8), (4 : UInt8),
                    (5 : UInt8), (4 : UInt8), (5 : UInt8), (5 : UInt8), (6 : UInt8), (2 : UInt8), (3 : UInt8),
                    (3 : UInt8), (4 : UInt8), (3 : UInt8), (4 : UInt8), (4 : UInt8), (5 : UInt8), (3 : UInt8),
                    (4 : UInt8), (4 : UInt8), (5 : UInt8), (4 : UInt8), (5 : UInt8), (5 : UInt8), (6 : UInt8),
                    (3 : UInt8), (4 : UInt8), (4 : UInt8), (5 : UInt8), (4 : UInt8), (5 : UInt8), (5 : UInt8),
                    (6 : UInt8), (4 : UInt8), (5 : UInt8), (5 : UInt8), (6 : UInt8), (5 : UInt8), (6 : UInt8),
                    (6 : UInt8), (7 : UInt8), (1 : UInt8), (2 : UInt8), (2 : UInt8), (3 : UInt8), (2 : UInt8),
                    (3 : UInt8), (3 : UInt8), (4 : UInt8), (2 : UInt8), (3 : UInt8), (3 : UInt8), (4 : UInt8),
                    (3 : UInt8), (4 : UInt8), (4 : UInt8), (5 : UInt8), (2 : UInt8), (3 : UInt8), (3 : UInt8),
                    (4 : UInt8), (3 : UInt8), (4 : UInt8), (4 : UInt8), (5 : UInt8), (3 : UInt8), (4 : UInt8),
                    (4 : UInt8), (5 : UInt8), (4 : UInt8), (5 : UInt8), (5 : UInt8), (6 : UInt8), (2 : UInt8),
                    (3 : UInt8), (3 : UInt8), (4 : UInt8), (3 : UInt8), (4 : UInt8), (4 : UInt8), (5 : UInt8),
                    (3 : UInt8), (4 : UInt8), (4 : UInt8), (5 : UInt8), (4 : UInt8), (5 : UInt8), (5 : UInt8),
                    (6 : UInt8), (3 : UInt8), (4 : UInt8), (4 : UInt8), (5 : UInt8), (4 : UInt8), (5 : UInt8),
                    (5 : UInt8), (6 : UInt8), (4 : UInt8), (5 : UInt8), (5 : UInt8), (6 : UInt8), (5 : UInt8),
                    (6 : UInt8), (6 : UInt8), (7 : UInt8), (2 : UInt8), (3 : UInt8), (3 : UInt8), (4 : UInt8),
                    (3 : UInt8), (4 : UInt8), (4 : UInt8), (5 : UInt8), (3 : UInt8), (4 : UInt8), (4 : UInt8),
                    (5 : UInt8), (4 : UInt8), (5 : UInt8), (5 : UInt8), (6 : UInt8), (3 : UInt8), (4 : UInt8),
                    (4 : UInt8), (5 : UInt8), (4 : UInt8), (5 : UInt8), (5 : UInt8), (6 : UInt8), (4 : UInt8),
                    (5 : UInt8), (5 : UInt8), (6 : UInt8), (5 : UInt8), (6 : UInt8), (6 : UInt8), (7 : UInt8),
                    (3 : UInt8), (4 : UInt8), (4 : UInt8), (5 : UInt8), (4 : UInt8), (5 : UInt8), (5 : UInt8),
                    (6 : UInt8), (4 : UInt8), (5 : UInt8), (5 : UInt8), (6 : UInt8), (5 : UInt8), (6 : UInt8),
                    (6 : UInt8), (7 : UInt8), (4 : UInt8), (5 : UInt8), (5 : UInt8), (6 : UInt8), (5 : UInt8),
                    (6 : UInt8), (6 : UInt8), (7 : UInt8), (5 : UInt8), (6 : UInt8), (6 : UInt8), (7 : UInt8),
                    (6 : UInt8), (7 : UInt8), (7 : UInt8), (8 : UInt8)])[Int.toNat p0_x]? =
            some u ∧
          (↑(UInt8.toNat u) : Int) = c) ∧
      R (Ending.returned (Value.int IntKind.i64 (IntKind.wrap IntKind.i64 c))) w) := by kernel_rfl
end Go.Dav
