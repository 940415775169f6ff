/- What functions of the program come to. -/
import Derived.Test.YtibpjbmcjeglpaaPrg08
namespace Go.Dav
open Go.Proofs
/-! (*davit/pool.Pool).Free -/
def M28 : Mt := { N := 26, keep := [(0, [0]), (1, [0, 7]), (2, [2]), (3, [0, 3]), (4, [3, 16, 17]), (5, [3, 16, 17, 18]), (6, [3, 5, 16, 17]), (7, [3, 16, 17]), (8, [3, 16, 17]), (9, [2])], ords := [], bk := [(0, [3]), (1, [3, 16, 17])], cuts := [], lk := [(5, [3, 16, 17])] }
noncomputable def c28 : Code := bodyOf Try.f28
noncomputable def c28_0 : Code := c28.sr.sr.sr.sr
noncomputable def c28_1 : Code := c28.sr.sr.sr.sl.sr.sl.sl
def e28_1 (p3_n : Int) (p16_t_0 : Int) (p16_t_1 : Int) (p16_t_2 : Int) (p16_t_3 : Int) (p16_t_4 : Int) (p16_t_5 : Int) (p16_t_6 : Int) (p16_t_7 : Int) (p16_t_8 : Int) (p16_t_9 : Int) (p16_t_10 : Int) (p16_t_11 : Int) (p17_t : Int) : Env := [(3, SV.v (Value.int IntKind.i64 p3_n)), (16, SV.v (Value.agg #[(Value.int IntKind.u8 p16_t_0), (Value.int IntKind.u8 p16_t_1), (Value.int IntKind.u8 p16_t_2), (Value.int IntKind.u8 p16_t_3), (Value.int IntKind.u8 p16_t_4), (Value.int IntKind.u8 p16_t_5), (Value.int IntKind.u8 p16_t_6), (Value.int IntKind.u8 p16_t_7), (Value.int IntKind.u8 p16_t_8), (Value.int IntKind.u8 p16_t_9), (Value.int IntKind.u8 p16_t_10), (Value.int IntKind.u8 p16_t_11)])), (17, SV.v (Value.int IntKind.i64 p17_t))]
def k28_1 (R : Ending → World → Prop) : Cont := blockK 0 [3] (seqK (fun E w => cutB (findL M28.cuts (headReg c28_0)) Try.prog M28 c28_0 E w (retK Try.prog Try.f28.results.toList R) fun E => den Try.prog M28 c28_0 E w (retK Try.prog Try.f28.results.toList R)) (retK Try.prog Try.f28.results.toList R))
theorem b28 : Try.f28.body = some c28 := by kernel_rfl
theorem n28 : Try.f28.ntmps = M28.N := by kernel_rfl
theorem u28 {p0_p : Option Addr} {w : World} {R : Ending → World → Prop} (h : den Try.prog M28 c28 (argE 0 [(Value.pointer p0_p)]) w (retK Try.prog Try.f28.results.toList R)) : Calls Try.prog 28 #[(Value.pointer p0_p)] w R := calls_den okProg Try.func28 b28 n28 (Nat.le_of_ble_eq_true rfl) h
theorem t28 (p0_p : Option Addr) (w : World) (R : Ending → World → Prop) : den Try.prog M28 c28 (argE 0 [(Value.pointer p0_p)]) w (retK Try.prog Try.f28.results.toList R) =
((Option.isNone p0_p = true → R (Ending.returned (Value.int IntKind.i64 0)) w) ∧
  (Option.isNone p0_p = false →
    ∃ a,
      p0_p = some a ∧
        ∃ n,
          World.cell? w (Addr.add a 12) = some (Value.int IntKind.i64 n) ∧
            ∃ a,
              p0_p = some a ∧
                ∃ n_1,
                  World.cell? w (Addr.add (Addr.add a 0) 0) = some (Value.int IntKind.u8 n_1) ∧
                    ∃ n_2,
                      World.cell? w (Addr.add (Addr.add a 0) 1) = some (Value.int IntKind.u8 n_2) ∧
                        ∃ n_3,
                          World.cell? w (Addr.add (Addr.add a 0) 2) = some (Value.int IntKind.u8 n_3) ∧
                            ∃ n_4,
                              World.cell? w (Addr.add (Addr.add a 0) 3) =
                                  some (Value.int IntKind.u8 n_4) ∧
                                ∃ n_5,
                                  World.cell? w (Addr.add (Addr.add a 0) 4) =
                                      some (Value.int IntKind.u8 n_5) ∧
                                    ∃ n_6,
                                      World.cell? w (Addr.add (Addr.add a 0) 5) =
                                          some (Value.int IntKind.u8 n_6) ∧
                                        ∃ n_7,
                                          World.cell? w (Addr.add (Addr.add a 0) 6) =
                                              some (Value.int IntKind.u8 n_7) ∧
                                            ∃ n_8,
                                              World.cell? w (Addr.add (Addr.add a 0) 7) =
                                                  some (Value.int IntKind.u8 n_8) ∧
                                                ∃ n_9,
                                                  World.cell? w (Addr.add (Addr.add a 0) 8) =
                                                      some (Value.int IntKind.u8 n_9) ∧
                                                    ∃ n_10,
                                                      World.cell? w (Addr.add (Addr.add a 0) 9) =
                                                          some (Value.int IntKind.u8 n_10) ∧
                                                        ∃ n_11,
                                                          World.cell? w (Addr.add (Addr.add a 0) 10) =
                                                              some (Value.int IntKind.u8 n_11) ∧
                                                            ∃ n_12,
                                                              World.cell? w
                                                                    (Addr.add (Addr.add a 0) 11) =
                                                                  some (Value.int IntKind.u8 n_12) ∧
                                                                Cut
                                                                  (WP Try.prog 26 (Code.loop c28_1)
                                                                    (e28_1 (IntKind.wrap IntKind.i64 (n * (8 : Int)))
                                                                      n_1 n_2 n_3 n_4 n_5 n_6 n_7 n_8 n_9 n_10 n_11 n_12
                                                                      (0 : Int))
                                                                    w (k28_1 R)))) := by kernel_rfl
theorem t28_1 (p3_n : Int) (p16_t_0 : Int) (p16_t_1 : Int) (p16_t_2 : Int) (p16_t_3 : Int) (p16_t_4 : Int) (p16_t_5 : Int) (p16_t_6 : Int) (p16_t_7 : Int) (p16_t_8 : Int) (p16_t_9 : Int) (p16_t_10 : Int) (p16_t_11 : Int) (p17_t : Int) (w : World) (B28_1 : Env → World → Prop) (R : Ending → World → Prop) : den Try.prog M28 c28_1 (e28_1 p3_n p16_t_0 p16_t_1 p16_t_2 p16_t_3 p16_t_4 p16_t_5 p16_t_6 p16_t_7 p16_t_8 p16_t_9 p16_t_10 p16_t_11 p17_t) w (loopK B28_1 (k28_1 R)) =
((decide (p17_t < (12 : Int)) = true →
    ((0 : Int) ≤ p17_t ∧ p17_t < (↑12 : Int)) ∧
      ∃ n,
        [Value.int IntKind.u8 p16_t_0, Value.int IntKind.u8 p16_t_1, Value.int IntKind.u8 p16_t_2,
                Value.int IntKind.u8 p16_t_3, Value.int IntKind.u8 p16_t_4, Value.int IntKind.u8 p16_t_5,
                Value.int IntKind.u8 p16_t_6, Value.int IntKind.u8 p16_t_7, Value.int IntKind.u8 p16_t_8,
                Value.int IntKind.u8 p16_t_9, Value.int IntKind.u8 p16_t_10,
                Value.int IntKind.u8 p16_t_11][Int.toNat p17_t * 1]? =
            some (Value.int IntKind.u8 n) ∧
          Call Try.prog 42 [Value.int IntKind.u8 n] w fun e w' =>
            ∃ n,
              e = Ending.returned (Value.int IntKind.i64 n) ∧
                B28_1
                  [(3, SV.v (Value.int IntKind.i64 (IntKind.wrap IntKind.i64 (p3_n - n)))),
                    (16,
                      SV.v
                        (Value.agg
                          #[Value.int IntKind.u8 p16_t_0, Value.int IntKind.u8 p16_t_1, Value.int IntKind.u8 p16_t_2,
                            Value.int IntKind.u8 p16_t_3, Value.int IntKind.u8 p16_t_4, Value.int IntKind.u8 p16_t_5,
                            Value.int IntKind.u8 p16_t_6, Value.int IntKind.u8 p16_t_7, Value.int IntKind.u8 p16_t_8,
                            Value.int IntKind.u8 p16_t_9, Value.int IntKind.u8 p16_t_10,
                            Value.int IntKind.u8 p16_t_11])),
                    (17, SV.v (Value.int IntKind.i64 (IntKind.wrap IntKind.i64 (p17_t + (1 : Int)))))]
                  w') ∧
  (decide (p17_t < (12 : Int)) = false → R (Ending.returned (Value.int IntKind.i64 p3_n)) w)) := by kernel_rfl
/-! (*davit/pool.Pool).Out -/
def M29 : Mt := { N := 26, keep := [(0, [0, 1]), (1, [0, 5, 6]), (2, [4])], ords := [], bk := [], cuts := [], lk := [] }
noncomputable def c29 : Code := bodyOf Try.f29
theorem b29 : Try.f29.body = some c29 := by kernel_rfl
theorem n29 : Try.f29.ntmps = M29.N := by kernel_rfl
theorem u29 {p0_p : Option Addr} {p1_id : Int} {w : World} {R : Ending → World → Prop} (h : den Try.prog M29 c29 (argE 0 [(Value.pointer p0_p), (Value.int IntKind.i64 p1_id)]) w (retK Try.prog Try.f29.results.toList R)) : Calls Try.prog 29 #[(Value.pointer p0_p), (Value.int IntKind.i64 p1_id)] w R := calls_den okProg Try.func29 b29 n29 (Nat.le_of_ble_eq_true rfl) h
theorem t29 (p0_p : Option Addr) (p1_id : Int) (w : World) (R : Ending → World → Prop) : den Try.prog M29 c29 (argE 0 [(Value.pointer p0_p), (Value.int IntKind.i64 p1_id)]) w (retK Try.prog Try.f29.results.toList R) =
(Call Try.prog 43 [Value.pointer p0_p, Value.int IntKind.i64 p1_id] w fun e w' =>
  ∃ n n_1,
    e = Ending.returned (Value.tuple #[Value.int IntKind.i64 n, Value.int IntKind.u8 n_1]) ∧
      ((n_1 != (0 : Int)) = true →
          ∃ a,
            p0_p = some a ∧
              ((0 : Int) ≤ n ∧ n < (↑12 : Int)) ∧
                ∃ n_2,
                  World.cell? w' (Addr.add (Addr.add a 0) (Int.toNat n * 1)) =
                      some (Value.int IntKind.u8 n_2) ∧
                    R (Ending.returned (Value.bool (bitsOp BinOp.and IntKind.u8 n_2 n_1 != (0 : Int)))) w') ∧
        ((n_1 != (0 : Int)) = false → R (Ending.returned (Value.bool false)) w')) := by kernel_rfl
/-! slices.ContainsFunc[[][]int,[]int] -/
def M30 : Mt := { N := 9, keep := [(0, [0, 1]), (1, [4])], ords := [], bk := [], cuts := [], lk := [] }
noncomputable def c30 : Code := bodyOf Try.f30
theorem b30 : Try.f30.body = some c30 := by kernel_rfl
theorem n30 : Try.f30.ntmps = M30.N := by kernel_rfl
theorem u30 {p0_s_a : Option Addr} {p0_s_n : Nat} {p0_s_c : Nat} {p1_f_0 : Addr} {w : World} {R : Ending → World → Prop} (h : den Try.prog M30 c30 (argE 0 [(Value.slice p0_s_a p0_s_n p0_s_c), (Value.func (Fn.func 31) #[] #[(Value.pointer (some p1_f_0))])]) w (retK Try.prog Try.f30.results.toList R)) : Calls Try.prog 30 #[(Value.slice p0_s_a p0_s_n p0_s_c), (Value.func (Fn.func 31) #[] #[(Value.pointer (some p1_f_0))])] w R := calls_den okProg Try.func30 b30 n30 (Nat.le_of_ble_eq_true rfl) h
theorem t30 (p0_s_a : Option Addr) (p0_s_n : Nat) (p0_s_c : Nat) (p1_f_0 : Addr) (w : World) (R : Ending → World → Prop) : den Try.prog M30 c30 (argE 0 [(Value.slice p0_s_a p0_s_n p0_s_c), (Value.func (Fn.func 31) #[] #[(Value.pointer (some p1_f_0))])]) w (retK Try.prog Try.f30.results.toList R) =
(Call Try.prog 44
  [Value.slice p0_s_a p0_s_n p0_s_c, Value.func (Fn.func 31) #[] #[Value.pointer (some p1_f_0)]] w
  fun e w' =>
  ∃ n, e = Ending.returned (Value.int IntKind.i64 n) ∧ R (Ending.returned (Value.bool (decide (n ≥ (0 : Int))))) w') := by kernel_rfl
/-! (*davit/stash.Stash).Has$1 -/
def M31 : Mt := { N := 7, keep := [(0, [0, 1]), (1, [3])], ords := [], bk := [], cuts := [], lk := [] }
noncomputable def c31 : Code := bodyOf Try.f31
theorem b31 : Try.f31.body = some c31 := by kernel_rfl
theorem n31 : Try.f31.ntmps = M31.N := by kernel_rfl
theorem u31 {p0_l_a : Option Addr} {p0_l_n : Nat} {p0_l_c : Nat} {p1_t : Addr} {w : World} {R : Ending → World → Prop} (h : den Try.prog M31 c31 (argE 0 [(Value.slice p0_l_a p0_l_n p0_l_c), (Value.pointer (some p1_t))]) w (retK Try.prog Try.f31.results.toList R)) : Calls Try.prog 31 #[(Value.slice p0_l_a p0_l_n p0_l_c), (Value.pointer (some p1_t))] w R := calls_den okProg Try.func31 b31 n31 (Nat.le_of_ble_eq_true rfl) h
theorem t31 (p0_l_a : Option Addr) (p0_l_n : Nat) (p0_l_c : Nat) (p1_t : Addr) (w : World) (R : Ending → World → Prop) : den Try.prog M31 c31 (argE 0 [(Value.slice p0_l_a p0_l_n p0_l_c), (Value.pointer (some p1_t))]) w (retK Try.prog Try.f31.results.toList R) =
(∃ n,
  World.cell? w p1_t = some (Value.int IntKind.i64 n) ∧
    Call Try.prog 32 [Value.slice p0_l_a p0_l_n p0_l_c, Value.int IntKind.i64 n] w fun e w' =>
      ∃ b, e = Ending.returned (Value.bool b) ∧ R (Ending.returned (Value.bool b)) w') := by kernel_rfl
/-! slices.Contains[[]int,int] -/
def M32 : Mt := { N := 9, keep := [(0, [0, 1]), (1, [4])], ords := [], bk := [], cuts := [], lk := [] }
noncomputable def c32 : Code := bodyOf Try.f32
theorem b32 : Try.f32.body = some c32 := by kernel_rfl
theorem n32 : Try.f32.ntmps = M32.N := by kernel_rfl
theorem u32 {p0_s_a : Option Addr} {p0_s_n : Nat} {p0_s_c : Nat} {p1_v : Int} {w : World} {R : Ending → World → Prop} (h : den Try.prog M32 c32 (argE 0 [(Value.slice p0_s_a p0_s_n p0_s_c), (Value.int IntKind.i64 p1_v)]) w (retK Try.prog Try.f32.results.toList R)) : Calls Try.prog 32 #[(Value.slice p0_s_a p0_s_n p0_s_c), (Value.int IntKind.i64 p1_v)] w R := calls_den okProg Try.func32 b32 n32 (Nat.le_of_ble_eq_true rfl) h
theorem t32 (p0_s_a : Option Addr) (p0_s_n : Nat) (p0_s_c : Nat) (p1_v : Int) (w : World) (R : Ending → World → Prop) : den Try.prog M32 c32 (argE 0 [(Value.slice p0_s_a p0_s_n p0_s_c), (Value.int IntKind.i64 p1_v)]) w (retK Try.prog Try.f32.results.toList R) =
(Call Try.prog 45 [Value.slice p0_s_a p0_s_n p0_s_c, Value.int IntKind.i64 p1_v] w fun e w' =>
  ∃ n, e = Ending.returned (Value.int IntKind.i64 n) ∧ R (Ending.returned (Value.bool (decide (n ≥ (0 : Int))))) w') := by kernel_rfl
/-! (*davit/davitref07.Pool).Out -/
def M33 : Mt := { N := 25, keep := [(0, [0, 1]), (1, [4])], ords := [], bk := [], cuts := [], lk := [] }
noncomputable def c33 : Code := bodyOf Try.f33
theorem b33 : Try.f33.body = some c33 := by kernel_rfl
theorem n33 : Try.f33.ntmps = M33.N := by kernel_rfl
theorem u33 {p0_p : Option Addr} {p1_id : Int} {w : World} {R : Ending → World → Prop} (h : den Try.prog M33 c33 (argE 0 [(Value.pointer p0_p), (Value.int IntKind.i64 p1_id)]) w (retK Try.prog Try.f33.results.toList R)) : Calls Try.prog 33 #[(Value.pointer p0_p), (Value.int IntKind.i64 p1_id)] w R := calls_den okProg Try.func33 b33 n33 (Nat.le_of_ble_eq_true rfl) h
theorem t33 (p0_p : Option Addr) (p1_id : Int) (w : World) (R : Ending → World → Prop) : den Try.prog M33 c33 (argE 0 [(Value.pointer p0_p), (Value.int IntKind.i64 p1_id)]) w (retK Try.prog Try.f33.results.toList R) =
((decide (p1_id > (0 : Int)) = true →
    ∃ a,
      p0_p = some a ∧
        ∃ p n c,
          World.cell? w (Addr.add a 0) = some (Value.slice p n c) ∧
            (decide (p1_id < (↑n : Int)) = true →
                ∃ a,
                  p0_p = some a ∧
                    ∃ p n c,
                      World.cell? w (Addr.add a 0) = some (Value.slice p n c) ∧
                        ((0 : Int) ≤ p1_id ∧ p1_id < (↑n : Int)) ∧
                          ∃ a,
                            p = some a ∧
                              ∃ b,
                                World.cell? w (Addr.add a (Int.toNat p1_id * 1)) = some (Value.bool b) ∧
                                  R (Ending.returned (Value.bool b)) w) ∧
              (decide (p1_id < (↑n : Int)) = false → R (Ending.returned (Value.bool false)) w)) ∧
  (decide (p1_id > (0 : Int)) = false → R (Ending.returned (Value.bool false)) w)) := by kernel_rfl
/-! (*davit/davitref08.Stash).kept -/
def M34 : Mt := { N := 24, keep := [(0, [0, 1]), (1, [0, 1, 5]), (2, [0, 1, 5, 12]), (3, [0, 1, 5]), (4, [0, 1, 5, 23]), (5, [4]), (6, [4])], ords := [], bk := [(0, []), (1, [0, 1, 5])], cuts := [], lk := [(2, [0, 1, 5])] }
noncomputable def c34 : Code := bodyOf Try.f34
noncomputable def c34_0 : Code := c34.sr.sr
noncomputable def c34_1 : Code := c34.sr.sl.sr.sl.sl
def e34_1 (p0_s : Option Addr) (p1_id : Int) (p5_i : Int) : Env := [(0, SV.v (Value.pointer p0_s)), (1, SV.v (Value.int IntKind.i64 p1_id)), (5, SV.v (Value.int IntKind.i64 p5_i))]
def k34_1 (R : Ending → World → Prop) : Cont := blockK 0 [] (seqK (fun E w => cutB (findL M34.cuts (headReg c34_0)) Try.prog M34 c34_0 E w (retK Try.prog Try.f34.results.toList R) fun E => den Try.prog M34 c34_0 E w (retK Try.prog Try.f34.results.toList R)) (retK Try.prog Try.f34.results.toList R))
theorem b34 : Try.f34.body = some c34 := by kernel_rfl
theorem n34 : Try.f34.ntmps = M34.N := by kernel_rfl
theorem u34 {p0_s : Option Addr} {p1_id : Int} {w : World} {R : Ending → World → Prop} (h : den Try.prog M34 c34 (argE 0 [(Value.pointer p0_s), (Value.int IntKind.i64 p1_id)]) w (retK Try.prog Try.f34.results.toList R)) : Calls Try.prog 34 #[(Value.pointer p0_s), (Value.int IntKind.i64 p1_id)] w R := calls_den okProg Try.func34 b34 n34 (Nat.le_of_ble_eq_true rfl) h
theorem t34 (p0_s : Option Addr) (p1_id : Int) (w : World) (R : Ending → World → Prop) : den Try.prog M34 c34 (argE 0 [(Value.pointer p0_s), (Value.int IntKind.i64 p1_id)]) w (retK Try.prog Try.f34.results.toList R) =
(Cut (WP Try.prog 24 (Code.loop c34_1) (e34_1 p0_s p1_id (0 : Int)) w (k34_1 R))) := by kernel_rfl
theorem t34_1 (p0_s : Option Addr) (p1_id : Int) (p5_i : Int) (w : World) (B34_1 : Env → World → Prop) (R : Ending → World → Prop) : den Try.prog M34 c34_1 (e34_1 p0_s p1_id p5_i) w (loopK B34_1 (k34_1 R)) =
(∃ a,
  p0_s = some a ∧
    ∃ p n c,
      World.cell? w (Addr.add a 1) = some (Value.slice p n c) ∧
        (decide (p5_i < (↑n : Int)) = true →
            ∃ a,
              p0_s = some a ∧
                ∃ p n c,
                  World.cell? w (Addr.add a 1) = some (Value.slice p n c) ∧
                    ((0 : Int) ≤ p5_i ∧ p5_i < (↑n : Int)) ∧
                      ∃ a,
                        p = some a ∧
                          ∃ p n c,
                            World.cell? w (Addr.add a (Int.toNat p5_i * 1)) = some (Value.slice p n c) ∧
                              Call Try.prog 46 [Value.slice p n c, Value.int IntKind.i64 p1_id] w fun e w' =>
                                ∃ b,
                                  e = Ending.returned (Value.bool b) ∧
                                    (b = true → R (Ending.returned (Value.bool true)) w') ∧
                                      (b = false →
                                        B34_1
                                          [(0, SV.v (Value.pointer p0_s)),
                                            (1, SV.v (Value.int IntKind.i64 p1_id)),
                                            (5,
                                              SV.v
                                                (Value.int IntKind.i64 (IntKind.wrap IntKind.i64 (p5_i + (1 : Int)))))]
                                          w')) ∧
          (decide (p5_i < (↑n : Int)) = false → R (Ending.returned (Value.bool false)) w)) := by kernel_rfl
/-! (*davit/stash.Stash).may -/
def M35 : Mt := { N := 20, keep := [(0, [0, 1]), (1, [0, 1, 5]), (2, [4]), (3, [8]), (4, [4]), (5, [4])], ords := [], bk := [(0, [])], cuts := [], lk := [] }
noncomputable def c35 : Code := bodyOf Try.f35
theorem b35 : Try.f35.body = some c35 := by kernel_rfl
theorem n35 : Try.f35.ntmps = M35.N := by kernel_rfl
theorem u35 {p0_s : Option Addr} {p1_cpu : Int} {w : World} {R : Ending → World → Prop} (h : den Try.prog M35 c35 (argE 0 [(Value.pointer p0_s), (Value.int IntKind.i64 p1_cpu)]) w (retK Try.prog Try.f35.results.toList R)) : Calls Try.prog 35 #[(Value.pointer p0_s), (Value.int IntKind.i64 p1_cpu)] w R := calls_den okProg Try.func35 b35 n35 (Nat.le_of_ble_eq_true rfl) h
theorem t35 (p0_s : Option Addr) (p1_cpu : Int) (w : World) (R : Ending → World → Prop) : den Try.prog M35 c35 (argE 0 [(Value.pointer p0_s), (Value.int IntKind.i64 p1_cpu)]) w (retK Try.prog Try.f35.results.toList R) =
((Option.isNone p0_s = true → R (Ending.returned (Value.int IntKind.i64 1)) w) ∧
  (Option.isNone p0_s = false →
    (decide (p1_cpu < (0 : Int)) = false →
        ∃ a,
          p0_s = some a ∧
            ∃ p n c,
              World.cell? w (Addr.add a 2) = some (Value.slice p n c) ∧
                (decide (p1_cpu ≥ (↑n : Int)) = true → R (Ending.returned (Value.int IntKind.i64 3)) w) ∧
                  (decide (p1_cpu ≥ (↑n : Int)) = false → R (Ending.returned (Value.int IntKind.i64 0)) w)) ∧
      (decide (p1_cpu < (0 : Int)) = true → R (Ending.returned (Value.int IntKind.i64 3)) w))) := by kernel_rfl
/-! slices.Clone[[]int,int] -/
def M36 : Mt := { N := 8, keep := [(0, [0]), (1, [0, 4]), (2, [2]), (3, [2])], ords := [], bk := [], cuts := [], lk := [] }
noncomputable def c36 : Code := bodyOf Try.f36
theorem b36 : Try.f36.body = some c36 := by kernel_rfl
theorem n36 : Try.f36.ntmps = M36.N := by kernel_rfl
theorem u36 {p0_s_a : Option Addr} {p0_s_n : Nat} {p0_s_c : Nat} {w : World} {R : Ending → World → Prop} (h : den Try.prog M36 c36 (argE 0 [(Value.slice p0_s_a p0_s_n p0_s_c)]) w (retK Try.prog Try.f36.results.toList R)) : Calls Try.prog 36 #[(Value.slice p0_s_a p0_s_n p0_s_c)] w R := calls_den okProg Try.func36 b36 n36 (Nat.le_of_ble_eq_true rfl) h
theorem t36 (p0_s_a : Option Addr) (p0_s_n : Nat) (p0_s_c : Nat) (w : World) (R : Ending → World → Prop) : den Try.prog M36 c36 (argE 0 [(Value.slice p0_s_a p0_s_n p0_s_c)]) w (retK Try.prog Try.f36.results.toList R) =
((Option.isNone p0_s_a = true → R (Ending.returned (Value.slice none 0 0)) w) ∧
  (Option.isNone p0_s_a = false →
    New w [] 3 fun p w' =>
      ∃ p_1 n c w'_1,
        Sem.run Try.prog
              (Builtin.append_ #[35, 35] 35
                #[Value.slice (some p) 0 0, Value.slice p0_s_a p0_s_n p0_s_c])
              w' =
            Result.ok (Value.slice p_1 n c) w'_1 ∧
          R (Ending.returned (Value.slice p_1 n c)) w'_1)) := by kernel_rfl
/-! (*davit/stash.Stash).fill -/
def M37 : Mt := { N := 44, keep := [(0, [0, 1, 14]), (1, [0, 1, 15]), (2, [0, 1, 15, 16]), (3, [0, 1, 4, 5, 15]), (4, [0, 1, 4, 15, 26]), (5, [0, 1, 15]), (6, [0, 1, 15])], ords := [(5, [0, 1, 2, 3, 4, 5, 6, 7, 8, 9, 10, 11, 12, 13, 14, 15, 16])], bk := [(0, []), (1, [0, 1, 15])], cuts := [], lk := [(2, [0, 1, 15])] }
noncomputable def c37 : Code := bodyOf Try.f37
noncomputable def c37_0 : Code := c37.sr.sr.sl.sl
def e37_0 (p0_s : Option Addr) (p1_cpu : Int) (p15_t : Int) : Env := [(0, SV.v (Value.pointer p0_s)), (1, SV.v (Value.int IntKind.i64 p1_cpu)), (15, SV.v (Value.int IntKind.i64 p15_t))]
def k37_0 (R : Ending → World → Prop) : Cont := blockK 0 [] (retK Try.prog Try.f37.results.toList R)
theorem b37 : Try.f37.body = some c37 := by kernel_rfl
theorem n37 : Try.f37.ntmps = M37.N := by kernel_rfl
theorem u37 {p0_s : Option Addr} {p1_cpu : Int} {w : World} {R : Ending → World → Prop} (h : den Try.prog M37 c37 (argE 0 [(Value.pointer p0_s), (Value.int IntKind.i64 p1_cpu)]) w (retK Try.prog Try.f37.results.toList R)) : Calls Try.prog 37 #[(Value.pointer p0_s), (Value.int IntKind.i64 p1_cpu)] w R := calls_den okProg Try.func37 b37 n37 (Nat.le_of_ble_eq_true rfl) h
theorem t37 (p0_s : Option Addr) (p1_cpu : Int) (w : World) (R : Ending → World → Prop) : den Try.prog M37 c37 (argE 0 [(Value.pointer p0_s), (Value.int IntKind.i64 p1_cpu)]) w (retK Try.prog Try.f37.results.toList R) =
(∃ a,
  p0_s = some a ∧
    ∃ p n c,
      World.cell? w (Addr.add a 2) = some (Value.slice p n c) ∧
        ((0 : Int) ≤ p1_cpu ∧ p1_cpu < (↑n : Int)) ∧
          ∃ a,
            p = some a ∧
              ∃ p n c,
                World.cell? w (Addr.add a (Int.toNat p1_cpu * 1)) = some (Value.slice p n c) ∧
                  (decide ((↑n : Int) > (0 : Int)) = true → R (Ending.returned (Value.tuple #[])) w) ∧
                    (decide ((↑n : Int) > (0 : Int)) = false →
                      Cut (WP Try.prog 44 (Code.loop c37_0) (e37_0 p0_s p1_cpu (0 : Int)) w (k37_0 R)))) := by kernel_rfl
theorem t37_0 (p0_s : Option Addr) (p1_cpu : Int) (p15_t : Int) (w : World) (B37_0 : Env → World → Prop) (R : Ending → World → Prop) : den Try.prog M37 c37_0 (e37_0 p0_s p1_cpu p15_t) w (loopK B37_0 (k37_0 R)) =
((decide (p15_t < (2 : Int)) = true →
    ∃ a,
      p0_s = some a ∧
        ∃ p,
          World.cell? w (Addr.add a 0) = some (Value.pointer p) ∧
            Call Try.prog 47 [Value.pointer p] w fun e w' =>
              ∃ n n_1,
                e = Ending.returned (Value.tuple #[Value.int IntKind.i64 n, Value.int IntKind.i64 n_1]) ∧
                  ((n_1 == (0 : Int)) = true →
                      ∀ (w'_1 : World),
                        World.heap w'_1 = World.heap w' →
                          World.os w'_1 = World.os w' →
                            World.tape w'_1 = World.tape w' →
                              World.output w'_1 = World.output w' →
                                ∃ a,
                                  p0_s = some a ∧
                                    ∃ p n_2 c,
                                      World.cell? w'_1 (Addr.add a 2) = some (Value.slice p n_2 c) ∧
                                        ∃ a_1,
                                          p0_s = some a_1 ∧
                                            ∃ p_1 n_3 c_1,
                                              World.cell? w'_1 (Addr.add a_1 2) =
                                                  some (Value.slice p_1 n_3 c_1) ∧
                                                ((0 : Int) ≤ p1_cpu ∧ p1_cpu < (↑n_3 : Int)) ∧
                                                  ∃ a_2,
                                                    p_1 = some a_2 ∧
                                                      ∃ p_2 n_4 c_2,
                                                        World.cell? w'_1
                                                              (Addr.add a_2 (Int.toNat p1_cpu * 1)) =
                                                            some (Value.slice p_2 n_4 c_2) ∧
                                                          New w'_1 [Value.int IntKind.i64 n] 3 fun p_3 w' =>
                                                            World.cell? w'
                                                                  (Addr.add a_2 (Int.toNat p1_cpu * 1)) =
                                                                some (Value.slice p_2 n_4 c_2) ∧
                                                              World.cell? w' (Addr.add a_1 2) =
                                                                  some (Value.slice p_1 n_3 c_1) ∧
                                                                World.cell? w' (Addr.add a 2) =
                                                                    some (Value.slice p n_2 c) ∧
                                                                  ∃ p_4 n c_3 w'_2,
                                                                    Sem.run Try.prog
                                                                          (Builtin.append_ #[35, 35]
                                                                            35
                                                                            #[Value.slice p_2 n_4 c_2,
                                                                              Value.slice (some p_3) 1
                                                                                1])
                                                                          w' =
                                                                        Result.ok (Value.slice p_4 n c_3) w'_2 ∧
                                                                      World.cell? w'_2 (Addr.add a 2) =
                                                                          some (Value.slice p n_2 c) ∧
                                                                        ((0 : Int) ≤ p1_cpu ∧ p1_cpu < (↑n_2 : Int)) ∧
                                                                          ∃ a,
                                                                            p = some a ∧
                                                                              Wr w'_2
                                                                                (Addr.add a
                                                                                  (Int.toNat p1_cpu * 1))
                                                                                [Value.slice p_4 n c_3] fun w' =>
                                                                                B37_0
                                                                                  [(0,
                                                                                      SV.v (Value.pointer p0_s)),
                                                                                    (1,
                                                                                      SV.v
                                                                                        (Value.int IntKind.i64
                                                                                          p1_cpu)),
                                                                                    (15,
                                                                                      SV.v
                                                                                        (Value.int IntKind.i64
                                                                                          (IntKind.wrap IntKind.i64
                                                                                            (p15_t + (1 : Int)))))]
                                                                                  w') ∧
                    ((n_1 == (0 : Int)) = false →
                      B37_0
                        [(0, SV.v (Value.pointer p0_s)), (1, SV.v (Value.int IntKind.i64 p1_cpu)),
                          (15, SV.v (Value.int IntKind.i64 (IntKind.wrap IntKind.i64 (p15_t + (1 : Int)))))]
                        w')) ∧
  (decide (p15_t < (2 : Int)) = false → R (Ending.returned (Value.tuple #[])) w)) := by kernel_rfl
/-! (*davit/stash.Stash).back -/
def M38 : Mt := { N := 45, keep := [(0, [0, 1, 2, 16, 17, 18]), (1, [0, 1, 2, 16, 17, 18, 19]), (2, [0, 1, 2, 7, 16, 17, 18]), (3, [0, 1, 2, 16, 17, 18]), (4, [0, 1, 2, 16, 17, 18]), (5, [])], ords := [(5, [0, 1, 2, 3, 4, 5, 6, 7, 8, 9, 10, 11, 12, 13, 14, 15, 16])], bk := [(0, [0, 1, 2]), (1, [0, 1, 2, 16, 17, 18])], cuts := [(5, [0, 1, 2])], lk := [(1, [0, 1, 2, 16, 17, 18])] }
noncomputable def c38 : Code := bodyOf Try.f38
noncomputable def c38_0 : Code := c38.sr
noncomputable def c38_1 : Code := c38.sl.sr.sl.sl
def e38_0 (p0_s : Option Addr) (p1_cpu : Int) (p2_many : Int) : Env := [(0, SV.v (Value.pointer p0_s)), (1, SV.v (Value.int IntKind.i64 p1_cpu)), (2, SV.v (Value.int IntKind.i64 p2_many))]
def e38_1 (p0_s : Option Addr) (p1_cpu : Int) (p2_many : Int) (p16_t_a : Option Addr) (p16_t_n : Nat) (p16_t_c : Nat) (p17_t : Int) (p18_t : Int) : Env := [(0, SV.v (Value.pointer p0_s)), (1, SV.v (Value.int IntKind.i64 p1_cpu)), (2, SV.v (Value.int IntKind.i64 p2_many)), (16, SV.v (Value.slice p16_t_a p16_t_n p16_t_c)), (17, SV.v (Value.int IntKind.i64 p17_t)), (18, SV.v (Value.int IntKind.i64 p18_t))]
def k38_0 (R : Ending → World → Prop) : Cont := retK Try.prog Try.f38.results.toList R
def k38_1 (R : Ending → World → Prop) : Cont := blockK 0 [0, 1, 2] (seqK (fun E w => cutB (findL M38.cuts (headReg c38_0)) Try.prog M38 c38_0 E w (retK Try.prog Try.f38.results.toList R) fun E => den Try.prog M38 c38_0 E w (retK Try.prog Try.f38.results.toList R)) (retK Try.prog Try.f38.results.toList R))
theorem b38 : Try.f38.body = some c38 := by kernel_rfl
theorem n38 : Try.f38.ntmps = M38.N := by kernel_rfl
theorem u38 {p0_s : Option Addr} {p1_cpu : Int} {p2_many : Int} {w : World} {R : Ending → World → Prop} (h : den Try.prog M38 c38 (argE 0 [(Value.pointer p0_s), (Value.int IntKind.i64 p1_cpu), (Value.int IntKind.i64 p2_many)]) w (retK Try.prog Try.f38.results.toList R)) : Calls Try.prog 38 #[(Value.pointer p0_s), (Value.int IntKind.i64 p1_cpu), (Value.int IntKind.i64 p2_many)] w R := calls_den okProg Try.func38 b38 n38 (Nat.le_of_ble_eq_true rfl) h
theorem t38 (p0_s : Option Addr) (p1_cpu : Int) (p2_many : Int) (w : World) (R : Ending → World → Prop) : den Try.prog M38 c38 (argE 0 [(Value.pointer p0_s), (Value.int IntKind.i64 p1_cpu), (Value.int IntKind.i64 p2_many)]) w (retK Try.prog Try.f38.results.toList R) =
(∃ a,
  p0_s = some a ∧
    ∃ p n c,
      World.cell? w (Addr.add a 2) = some (Value.slice p n c) ∧
        ((0 : Int) ≤ p1_cpu ∧ p1_cpu < (↑n : Int)) ∧
          ∃ a,
            p = some a ∧
              ∃ p n c,
                World.cell? w (Addr.add a (Int.toNat p1_cpu * 1)) = some (Value.slice p n c) ∧
                  ((0 : Int) ≤ p2_many ∧ p2_many ≤ (↑c : Int)) ∧
                    Cut
                      (WP Try.prog 45 (Code.loop c38_1)
                        (e38_1 p0_s p1_cpu p2_many (subA p c 0 1) (Int.toNat p2_many - 0)
                          (c - 0) (↑(Int.toNat p2_many - 0) : Int) (0 : Int))
                        w (k38_1 R))) := by kernel_rfl
theorem t38_0 (p0_s : Option Addr) (p1_cpu : Int) (p2_many : Int) (w : World) (R : Ending → World → Prop) : den Try.prog M38 c38_0 (e38_0 p0_s p1_cpu p2_many) w (k38_0 R) =
(∀ (w' : World),
  World.heap w' = World.heap w →
    World.os w' = World.os w →
      World.tape w' = World.tape w →
        World.output w' = World.output w →
          ∃ a,
            p0_s = some a ∧
              ∃ p n c,
                World.cell? w' (Addr.add a 2) = some (Value.slice p n c) ∧
                  ∃ a_1,
                    p0_s = some a_1 ∧
                      ∃ p_1 n_1 c_1,
                        World.cell? w' (Addr.add a_1 2) = some (Value.slice p_1 n_1 c_1) ∧
                          ((0 : Int) ≤ p1_cpu ∧ p1_cpu < (↑n_1 : Int)) ∧
                            ∃ a_2,
                              p_1 = some a_2 ∧
                                ∃ p_2 n_2 c_2,
                                  World.cell? w' (Addr.add a_2 (Int.toNat p1_cpu * 1)) =
                                      some (Value.slice p_2 n_2 c_2) ∧
                                    ((0 : Int) ≤ p2_many ∧ p2_many ≤ (↑n_2 : Int)) ∧
                                      Call Try.prog 36
                                        [Value.slice (subA p_2 c_2 (Int.toNat p2_many) 1)
                                            (n_2 - Int.toNat p2_many) (c_2 - Int.toNat p2_many)]
                                        w' fun e w' =>
                                        ∃ p_3 n_3 c_3,
                                          e = Ending.returned (Value.slice p_3 n_3 c_3) ∧
                                            World.cell? w' (Addr.add a 2) = some (Value.slice p n c) ∧
                                              ((0 : Int) ≤ p1_cpu ∧ p1_cpu < (↑n : Int)) ∧
                                                ∃ a,
                                                  p = some a ∧
                                                    Wr w' (Addr.add a (Int.toNat p1_cpu * 1))
                                                      [Value.slice p_3 n_3 c_3] fun w' =>
                                                      R (Ending.returned (Value.tuple #[])) w') := by kernel_rfl
theorem t38_1 (p0_s : Option Addr) (p1_cpu : Int) (p2_many : Int) (p16_t_a : Option Addr) (p16_t_n : Nat) (p16_t_c : Nat) (p17_t : Int) (p18_t : Int) (w : World) (B38_1 : Env → World → Prop) (R : Ending → World → Prop) : den Try.prog M38 c38_1 (e38_1 p0_s p1_cpu p2_many p16_t_a p16_t_n p16_t_c p17_t p18_t) w (loopK B38_1 (k38_1 R)) =
((decide (p18_t < p17_t) = true →
    ((0 : Int) ≤ p18_t ∧ p18_t < (↑p16_t_n : Int)) ∧
      ∃ a,
        p16_t_a = some a ∧
          ∃ n,
            World.cell? w (Addr.add a (Int.toNat p18_t * 1)) = some (Value.int IntKind.i64 n) ∧
              ∃ a,
                p0_s = some a ∧
                  ∃ p,
                    World.cell? w (Addr.add a 0) = some (Value.pointer p) ∧
                      Call Try.prog 48 [Value.pointer p, Value.int IntKind.i64 n] w fun e w' =>
                        ∃ n,
                          e = Ending.returned (Value.int IntKind.i64 n) ∧
                            B38_1
                              [(0, SV.v (Value.pointer p0_s)),
                                (1, SV.v (Value.int IntKind.i64 p1_cpu)),
                                (2, SV.v (Value.int IntKind.i64 p2_many)),
                                (16, SV.v (Value.slice p16_t_a p16_t_n p16_t_c)),
                                (17, SV.v (Value.int IntKind.i64 p17_t)),
                                (18,
                                  SV.v (Value.int IntKind.i64 (IntKind.wrap IntKind.i64 (p18_t + (1 : Int)))))]
                              w') ∧
  (decide (p18_t < p17_t) = false → CutD Try.prog M38 c38_0 (e38_0 p0_s p1_cpu p2_many) w (k38_0 R))) := by kernel_rfl
/-! (*davit/davitref07.Pool).Take -/
def M39 : Mt := { N := 43, keep := [(0, [0]), (1, [0, 4]), (2, [0, 4, 5]), (3, [0, 4, 5, 15]), (4, [0, 4, 5]), (5, [0, 4, 5, 27]), (6, [2, 3]), (7, [0, 4, 6]), (8, [0, 4, 6, 33]), (9, [0, 4, 6]), (10, [0, 4, 6, 39]), (11, [2, 3]), (12, [2, 3])], ords := [], bk := [(0, [0, 4]), (1, [0, 4, 5]), (2, []), (3, [0, 4, 6])], cuts := [(7, [0, 4])], lk := [(3, [0, 4, 5]), (8, [0, 4, 6])] }
noncomputable def c39 : Code := bodyOf Try.f39
noncomputable def c39_0 : Code := c39.sr.sr.sr
noncomputable def c39_1 : Code := c39.sr.sr.sr.sr
noncomputable def c39_2 : Code := c39.sr.sr.sl.sr.sl.sl
noncomputable def c39_3 : Code := c39.sr.sr.sr.sl.sr.sl.sl
def e39_0 (p0_p : Option Addr) (p4_many : Int) : Env := [(0, SV.v (Value.pointer p0_p)), (4, SV.v (Value.int IntKind.i64 p4_many))]
def e39_2 (p0_p : Option Addr) (p4_many : Int) (p5_i : Int) : Env := [(0, SV.v (Value.pointer p0_p)), (4, SV.v (Value.int IntKind.i64 p4_many)), (5, SV.v (Value.int IntKind.i64 p5_i))]
def e39_3 (p0_p : Option Addr) (p4_many : Int) (p6_i : Int) : Env := [(0, SV.v (Value.pointer p0_p)), (4, SV.v (Value.int IntKind.i64 p4_many)), (6, SV.v (Value.int IntKind.i64 p6_i))]
def k39_0 (R : Ending → World → Prop) : Cont := retK Try.prog Try.f39.results.toList R
def k39_2 (R : Ending → World → Prop) : Cont := blockK 0 [0, 4] (seqK (fun E w => cutB (findL M39.cuts (headReg c39_0)) Try.prog M39 c39_0 E w (retK Try.prog Try.f39.results.toList R) fun E => den Try.prog M39 c39_0 E w (retK Try.prog Try.f39.results.toList R)) (retK Try.prog Try.f39.results.toList R))
def k39_3 (R : Ending → World → Prop) : Cont := blockK 2 [] (seqK (fun E w => cutB (findL M39.cuts (headReg c39_1)) Try.prog M39 c39_1 E w (retK Try.prog Try.f39.results.toList R) fun E => den Try.prog M39 c39_1 E w (retK Try.prog Try.f39.results.toList R)) (retK Try.prog Try.f39.results.toList R))
theorem b39 : Try.f39.body = some c39 := by kernel_rfl
theorem n39 : Try.f39.ntmps = M39.N := by kernel_rfl
theorem u39 {p0_p : Option Addr} {w : World} {R : Ending → World → Prop} (h : den Try.prog M39 c39 (argE 0 [(Value.pointer p0_p)]) w (retK Try.prog Try.f39.results.toList R)) : Calls Try.prog 39 #[(Value.pointer p0_p)] w R := calls_den okProg Try.func39 b39 n39 (Nat.le_of_ble_eq_true rfl) h
theorem t39 (p0_p : Option Addr) (w : World) (R : Ending → World → Prop) : den Try.prog M39 c39 (argE 0 [(Value.pointer p0_p)]) w (retK Try.prog Try.f39.results.toList R) =
(∃ a,
  p0_p = some a ∧
    ∃ p n c,
      World.cell? w (Addr.add a 0) = some (Value.slice p n c) ∧
        (8 : Int) ≠ (0 : Int) ∧
          Cut
            (WP Try.prog 43 (Code.loop c39_2)
              (e39_2 p0_p (IntKind.wrap IntKind.i64 (Int.tdiv (↑n : Int) (8 : Int))) (0 : Int)) w (k39_2 R))) := by kernel_rfl
theorem t39_0 (p0_p : Option Addr) (p4_many : Int) (w : World) (R : Ending → World → Prop) : den Try.prog M39 c39_0 (e39_0 p0_p p4_many) w (k39_0 R) =
(Cut (WP Try.prog 43 (Code.loop c39_3) (e39_3 p0_p p4_many (0 : Int)) w (k39_3 R))) := by kernel_rfl
theorem t39_2 (p0_p : Option Addr) (p4_many : Int) (p5_i : Int) (w : World) (B39_2 : Env → World → Prop) (R : Ending → World → Prop) : den Try.prog M39 c39_2 (e39_2 p0_p p4_many p5_i) w (loopK B39_2 (k39_2 R)) =
((decide (p5_i < p4_many) = true →
    Call Try.prog 49 [Value.pointer p0_p, Value.int IntKind.i64 p5_i] w fun e w' =>
      ∃ n,
        e = Ending.returned (Value.int IntKind.i64 n) ∧
          (decide (n > (0 : Int)) = true →
              Call Try.prog 49 [Value.pointer p0_p, Value.int IntKind.i64 p5_i] w' fun e w' =>
                ∃ n,
                  e = Ending.returned (Value.int IntKind.i64 n) ∧
                    (decide (n < (8 : Int)) = true →
                        Call Try.prog 50 [Value.pointer p0_p, Value.int IntKind.i64 p5_i] w' fun e w' =>
                          ∃ n,
                            e = Ending.returned (Value.int IntKind.i64 n) ∧
                              R
                                (Ending.returned
                                  (Value.tuple #[Value.int IntKind.i64 n, Value.int IntKind.i64 0]))
                                w') ∧
                      (decide (n < (8 : Int)) = false →
                        B39_2
                          [(0, SV.v (Value.pointer p0_p)), (4, SV.v (Value.int IntKind.i64 p4_many)),
                            (5, SV.v (Value.int IntKind.i64 (IntKind.wrap IntKind.i64 (p5_i + (1 : Int)))))]
                          w')) ∧
            (decide (n > (0 : Int)) = false →
              B39_2
                [(0, SV.v (Value.pointer p0_p)), (4, SV.v (Value.int IntKind.i64 p4_many)),
                  (5, SV.v (Value.int IntKind.i64 (IntKind.wrap IntKind.i64 (p5_i + (1 : Int)))))]
                w')) ∧
  (decide (p5_i < p4_many) = false → CutD Try.prog M39 c39_0 (e39_0 p0_p p4_many) w (k39_0 R))) := by kernel_rfl
theorem t39_3 (p0_p : Option Addr) (p4_many : Int) (p6_i : Int) (w : World) (B39_3 : Env → World → Prop) (R : Ending → World → Prop) : den Try.prog M39 c39_3 (e39_3 p0_p p4_many p6_i) w (loopK B39_3 (k39_3 R)) =
((decide (p6_i < p4_many) = true →
    Call Try.prog 49 [Value.pointer p0_p, Value.int IntKind.i64 p6_i] w fun e w' =>
      ∃ n,
        e = Ending.returned (Value.int IntKind.i64 n) ∧
          ((n == (0 : Int)) = true →
              Call Try.prog 50 [Value.pointer p0_p, Value.int IntKind.i64 p6_i] w' fun e w' =>
                ∃ n,
                  e = Ending.returned (Value.int IntKind.i64 n) ∧
                    R (Ending.returned (Value.tuple #[Value.int IntKind.i64 n, Value.int IntKind.i64 0])) w') ∧
            ((n == (0 : Int)) = false →
              B39_3
                [(0, SV.v (Value.pointer p0_p)), (4, SV.v (Value.int IntKind.i64 p4_many)),
                  (6, SV.v (Value.int IntKind.i64 (IntKind.wrap IntKind.i64 (p6_i + (1 : Int)))))]
                w')) ∧
  (decide (p6_i < p4_many) = false →
    R (Ending.returned (Value.tuple #[Value.int IntKind.i64 0, Value.int IntKind.i64 5])) w)) := by kernel_rfl
/-! davit/davitref03.Without -/
def M40 : Mt := { N := 27, keep := [(0, [0, 1]), (1, [0, 1, 5]), (2, [0, 1, 5, 6]), (3, [0, 1, 5, 6, 10]), (4, [0, 1, 5, 6]), (5, [0, 1, 5, 6, 18]), (6, [0, 1, 5, 6]), (7, [4])], ords := [], bk := [(0, [5]), (1, [0, 1, 5, 6])], cuts := [], lk := [(3, [0, 1, 5, 6])] }
noncomputable def c40 : Code := bodyOf Try.f40
noncomputable def c40_0 : Code := c40.sr.sr.sr
noncomputable def c40_1 : Code := c40.sr.sr.sl.sr.sl.sl
def e40_1 (p0_l_a : Option Addr) (p0_l_n : Nat) (p0_l_c : Nat) (p1_n : Int) (p5_out_a : Option Addr) (p5_out_n : Nat) (p5_out_c : Nat) (p6_i : Int) : Env := [(0, SV.v (Value.slice p0_l_a p0_l_n p0_l_c)), (1, SV.v (Value.int IntKind.i64 p1_n)), (5, SV.v (Value.slice p5_out_a p5_out_n p5_out_c)), (6, SV.v (Value.int IntKind.i64 p6_i))]
def k40_1 (R : Ending → World → Prop) : Cont := blockK 0 [5] (seqK (fun E w => cutB (findL M40.cuts (headReg c40_0)) Try.prog M40 c40_0 E w (retK Try.prog Try.f40.results.toList R) fun E => den Try.prog M40 c40_0 E w (retK Try.prog Try.f40.results.toList R)) (retK Try.prog Try.f40.results.toList R))
theorem b40 : Try.f40.body = some c40 := by kernel_rfl
theorem n40 : Try.f40.ntmps = M40.N := by kernel_rfl
theorem u40 {p0_l_a : Option Addr} {p0_l_n : Nat} {p0_l_c : Nat} {p1_n : Int} {w : World} {R : Ending → World → Prop} (h : den Try.prog M40 c40 (argE 0 [(Value.slice p0_l_a p0_l_n p0_l_c), (Value.int IntKind.i64 p1_n)]) w (retK Try.prog Try.f40.results.toList R)) : Calls Try.prog 40 #[(Value.slice p0_l_a p0_l_n p0_l_c), (Value.int IntKind.i64 p1_n)] w R := calls_den okProg Try.func40 b40 n40 (Nat.le_of_ble_eq_true rfl) h
theorem t40 (p0_l_a : Option Addr) (p0_l_n : Nat) (p0_l_c : Nat) (p1_n : Int) (w : World) (R : Ending → World → Prop) : den Try.prog M40 c40 (argE 0 [(Value.slice p0_l_a p0_l_n p0_l_c), (Value.int IntKind.i64 p1_n)]) w (retK Try.prog Try.f40.results.toList R) =
(Cut
  (WP Try.prog 27 (Code.loop c40_1) (e40_1 p0_l_a p0_l_n p0_l_c p1_n none 0 0 (0 : Int)) w
    (k40_1 R))) := by kernel_rfl
theorem t40_1 (p0_l_a : Option Addr) (p0_l_n : Nat) (p0_l_c : Nat) (p1_n : Int) (p5_out_a : Option Addr) (p5_out_n : Nat) (p5_out_c : Nat) (p6_i : Int) (w : World) (B40_1 : Env → World → Prop) (R : Ending → World → Prop) : den Try.prog M40 c40_1 (e40_1 p0_l_a p0_l_n p0_l_c p1_n p5_out_a p5_out_n p5_out_c p6_i) w (loopK B40_1 (k40_1 R)) =
((decide (p6_i < (↑p0_l_n : Int)) = true →
    ((0 : Int) ≤ p6_i ∧ p6_i < (↑p0_l_n : Int)) ∧
      ∃ a,
        p0_l_a = some a ∧
          ∃ n,
            World.cell? w (Addr.add a (Int.toNat p6_i * 1)) = some (Value.int IntKind.i64 n) ∧
              ((n != p1_n) = true →
                  ((0 : Int) ≤ p6_i ∧ p6_i < (↑p0_l_n : Int)) ∧
                    ∃ a,
                      p0_l_a = some a ∧
                        ∃ n,
                          World.cell? w (Addr.add a (Int.toNat p6_i * 1)) = some (Value.int IntKind.i64 n) ∧
                            New w [Value.int IntKind.i64 n] 3 fun p w' =>
                              ∃ p_1 n c w'_1,
                                Sem.run Try.prog
                                      (Builtin.append_ #[35, 35] 35
                                        #[Value.slice p5_out_a p5_out_n p5_out_c,
                                          Value.slice (some p) 1 1])
                                      w' =
                                    Result.ok (Value.slice p_1 n c) w'_1 ∧
                                  B40_1
                                    [(0, SV.v (Value.slice p0_l_a p0_l_n p0_l_c)),
                                      (1, SV.v (Value.int IntKind.i64 p1_n)),
                                      (5, SV.v (Value.slice p_1 n c)),
                                      (6,
                                        SV.v (Value.int IntKind.i64 (IntKind.wrap IntKind.i64 (p6_i + (1 : Int)))))]
                                    w'_1) ∧
                ((n != p1_n) = false →
                  B40_1
                    [(0, SV.v (Value.slice p0_l_a p0_l_n p0_l_c)),
                      (1, SV.v (Value.int IntKind.i64 p1_n)),
                      (5, SV.v (Value.slice p5_out_a p5_out_n p5_out_c)),
                      (6, SV.v (Value.int IntKind.i64 (IntKind.wrap IntKind.i64 (p6_i + (1 : Int)))))]
                    w)) ∧
  (decide (p6_i < (↑p0_l_n : Int)) = false → R (Ending.returned (Value.slice p5_out_a p5_out_n p5_out_c)) w)) := by kernel_rfl
/-! (*davit/davitref07.Pool).Give -/
def M41 : Mt := { N := 15, keep := [(0, [0, 1]), (1, [0, 1, 8]), (2, [4]), (3, []), (4, [4])], ords := [], bk := [], cuts := [], lk := [] }
noncomputable def c41 : Code := bodyOf Try.f41
theorem b41 : Try.f41.body = some c41 := by kernel_rfl
theorem n41 : Try.f41.ntmps = M41.N := by kernel_rfl
theorem u41 {p0_p : Option Addr} {p1_id : Int} {w : World} {R : Ending → World → Prop} (h : den Try.prog M41 c41 (argE 0 [(Value.pointer p0_p), (Value.int IntKind.i64 p1_id)]) w (retK Try.prog Try.f41.results.toList R)) : Calls Try.prog 41 #[(Value.pointer p0_p), (Value.int IntKind.i64 p1_id)] w R := calls_den okProg Try.func41 b41 n41 (Nat.le_of_ble_eq_true rfl) h
theorem t41 (p0_p : Option Addr) (p1_id : Int) (w : World) (R : Ending → World → Prop) : den Try.prog M41 c41 (argE 0 [(Value.pointer p0_p), (Value.int IntKind.i64 p1_id)]) w (retK Try.prog Try.f41.results.toList R) =
(Call Try.prog 33 [Value.pointer p0_p, Value.int IntKind.i64 p1_id] w fun e w' =>
  ∃ b,
    e = Ending.returned (Value.bool b) ∧
      ((!b) = true → R (Ending.returned (Value.int IntKind.i64 4)) w') ∧
        ((!b) = false →
          ∃ a,
            p0_p = some a ∧
              ∃ p n c,
                World.cell? w' (Addr.add a 0) = some (Value.slice p n c) ∧
                  ((0 : Int) ≤ p1_id ∧ p1_id < (↑n : Int)) ∧
                    ∃ a,
                      p = some a ∧
                        Wr w' (Addr.add a (Int.toNat p1_id * 1)) [Value.bool false] fun w' =>
                          R (Ending.returned (Value.int IntKind.i64 0)) w')) := by kernel_rfl
/-! math/bits.OnesCount8 -/
def M42 : Mt := { N := 6, keep := [(0, [0]), (1, [2])], ords := [], bk := [], cuts := [], lk := [] }
noncomputable def c42 : Code := bodyOf Try.f42
theorem b42 : Try.f42.body = some c42 := by kernel_rfl
theorem n42 : Try.f42.ntmps = M42.N := by kernel_rfl
theorem u42 {p0_x : Int} {w : World} {R : Ending → World → Prop} (h : den Try.prog M42 c42 (argE 0 [(Value.int IntKind.u8 p0_x)]) w (retK Try.prog Try.f42.results.toList R)) : Calls Try.prog 42 #[(Value.int IntKind.u8 p0_x)] w R := calls_den okProg Try.func42 b42 n42 (Nat.le_of_ble_eq_true rfl) h
theorem t42 (p0_x : Int) (w : World) (R : Ending → World → Prop) : den Try.prog M42 c42 (argE 0 [(Value.int IntKind.u8 p0_x)]) w (retK Try.prog Try.f42.results.toList R) =
(((0 : Int) ≤ p0_x ∧ p0_x < (↑256 : Int)) ∧
  ∃ c,
    (∃ u,
        (ByteArray.mk #[(0 : UInt8), (1 : UInt8), (1 : UInt8), (2 : UInt8), (1 : UInt8), (2 : UInt8), (2 : UInt8),
                    (3 : UInt8), (1 : UInt8), (2 : UInt8), (2 : UInt8), (3 : UInt8), (2 : UInt8), (3 : UInt8),
                    (3 : UInt8), (4 : UInt8), (1 : UInt8), (2 : UInt8), (2 : UInt8), (3 : UInt8), (2 : UInt8),
                    (3 : UInt8), (3 : UInt8), (4 : UInt8), (2 : UInt8), (3 : UInt8), (3 : UInt8), (4 : UInt8),
                    (3 : UInt8), (4 : UInt8), (4 : UInt8), (5 : UInt8), (1 : UInt8), (2 : UInt8), (2 : UInt8),
                    (3 : UInt8), (2 : UInt8), (3 : UInt8), (3 : UInt8), (4 : UInt8), (2 : UInt8), (3 : UInt8),
                    (3 : UInt8), (4 : UInt8), (3 : UInt8), (4 : UInt8), (4 : UInt8), (5 : UInt8), (2 : UInt8),
                    (3 : UInt8), (3 : UInt8), (4 : UInt8), (3 : UInt8), (4 : UInt8), (4 : UInt8), (5 : UInt8),
                    (3 : UInt8), (4 : UInt8), (4 : UInt8), (5 : UInt8), (4 : UInt8), (5 : UInt8), (5 : UInt8),
                    (6 : UInt8), (1 : UInt8), (2 : UInt8), (2 : UInt8), (3 : UInt8), (2 : UInt8), (3 : UInt8),
                    (3 : UInt8), (4 : UInt8), (2 : UInt8), (3 : UInt8), (3 : UInt8), (4 : UInt8), (3 : UInt8),
                    (4 : UInt8), (4 : UInt8), (5 : UInt8), (2 : UInt8), (3 : UInt8), (3 : UInt8), (4 : UInt8),
                    (3 : UInt8), (4 : UInt8), (4 : UInt8), (5 : UInt8), (3 : UInt8), (4 : UInt8), (4 : UInt8),
                    (5 : UInt8), (4 : UInt8), (5 : UInt8), (5 : UInt8), (6 : UInt8), (2 : UInt8), (3 : UInt8),
                    (3 : UInt8), (4 : UInt8), (3 : UInt8), (4 : UInt8), (4 : UInt8), (5 : UInt8), (3 : UInt8),
                    (4 : UInt8), (4 : UInt8), (5 : UInt8), (4 : UInt8), (5 : UInt8), (5 : UInt8), (6 : UInt8),
                    (3 : UInt8), (4 : UInt8), (4 : UInt8), (5 : UInt8), (4 : UInt8), (5 : UInt8), (5 : UInt8),
                    (6 : UInt8), (4 : UInt8), (5 : UInt8), (5 : UInt8), (6 : UInt8), (5 : UInt8), (6 : UInt8),
                    (6 : UInt8), (7 : UInt8), (1 : UInt8), (2 : UInt8), (2 : UInt8), (3 : UInt8), (2 : UInt8),
                    (3 : UInt8), (3 : UInt8), (4 : UInt8), (2 : UInt8), (3 : UInt8), (3 : UInt8), (4 : UInt8),
                    (3 : UInt8), (4 : UInt8), (4 : UInt8), (5 : UInt8), (2 : UInt8), (3 : UInt8), (3 : UInt8),
                    (4 : UInt8), (3 : UInt8), (4 : UInt8), (4 : UInt8), (5 : UInt8), (3 : UInt8), (4 : UInt8),
                    (4 : UInt8), (5 : UInt8), (4 : UInt8), (5 : UInt8), (5 : UInt8), (6 : UInt8), (2 : UInt8),
                    (3 : UInt8), (3 : UInt8), (4 : UInt8), (3 : UInt8), (4 : UInt8), (4 : UInt8), (5 : UInt8),
                    (3 : UInt8), (4 : UInt8), (4 : UInt8), (5 : UInt8), (4 : UInt8), (5 : UInt8), (5 : UInt8),
                    (6 : UInt8), (3 : UInt8), (4 : UInt8), (4 : UInt8), (5 : UInt8), (4 : UInt8), (5 : UInt8),
                    (5 : UInt8), (6 : UInt8), (4 : UInt8), (5 : UInt8), (5 : UInt8), (6 : UInt8), (5 : UInt8),
                    (6 : UInt8), (6 : UInt8), (7 : UInt8), (2 : UInt8), (3 : UInt8), (3 : UInt8), (4 : UInt8),
                    (3 : UInt8), (4 : UInt8), (4 : UInt8), (5 : UInt8), (3 : UInt8), (4 : UInt8), (4 : UInt8),
                    (5 : UInt8), (4 : UInt8), (5 : UInt8), (5 : UInt8), (6 : UInt8), (3 : UInt8), (4 : UInt8),
                    (4 : UInt8), (5 : UInt8), (4 : UInt8), (5 : UInt8), (5 : UInt8), (6 : UInt8), (4 : UInt8),
                    (5 : UInt8), (5 : UInt8), (6 : UInt8), (5 : UInt8), (6 : UInt8), (6 : UInt8), (7 : UInt8),
                    (3 : UInt8), (4 : UInt8), (4 : UInt8), (5 : UInt8), (4 : UInt8), (5 : UInt8), (5 : UInt8),
                    (6 : UInt8), (4 : UInt8), (5 : UInt8), (5 : UInt8), (6 : UInt8), (5 : UInt8), (6 : UInt8),
                    (6 : UInt8), (7 : UInt8), (4 : UInt8), (5 : UInt8), (5 : UInt8), (6 : UInt8), (5 : UInt8),
                    (6 : UInt8), (6 : UInt8), (7 : UInt8), (5 : UInt8), (6 : UInt8), (6 : UInt8), (7 : UInt8),
                    (6 : UInt8), (7 : UInt8), (7 : UInt8), (8 : UInt8)])[Int.toNat p0_x]? =
            some u ∧
          (↑(UInt8.toNat u) : Int) = c) ∧
      R (Ending.returned (Value.int IntKind.i64 (IntKind.wrap IntKind.i64 c))) w) := by kernel_rfl
/-! (*davit/pool.Pool).bit -/
def M43 : Mt := { N := 28, keep := [(0, [0, 1]), (1, [1, 20]), (2, [4, 5]), (3, [4, 5])], ords := [(3, [0, 1, 2, 3, 4, 5, 6, 7, 8])], bk := [], cuts := [], lk := [] }
noncomputable def c43 : Code := bodyOf Try.f43
theorem b43 : Try.f43.body = some c43 := by kernel_rfl
theorem n43 : Try.f43.ntmps = M43.N := by kernel_rfl
theorem u43 {p0_p : Option Addr} {p1_id : Int} {w : World} {R : Ending → World → Prop} (h : den Try.prog M43 c43 (argE 0 [(Value.pointer p0_p), (Value.int IntKind.i64 p1_id)]) w (retK Try.prog Try.f43.results.toList R)) : Calls Try.prog 43 #[(Value.pointer p0_p), (Value.int IntKind.i64 p1_id)] w R := calls_den okProg Try.func43 b43 n43 (Nat.le_of_ble_eq_true rfl) h
theorem t43 (p0_p : Option Addr) (p1_id : Int) (w : World) (R : Ending → World → Prop) : den Try.prog M43 c43 (argE 0 [(Value.pointer p0_p), (Value.int IntKind.i64 p1_id)]) w (retK Try.prog Try.f43.results.toList R) =
((Option.isNone p0_p = false →
    (decide (p1_id < (1 : Int)) = false →
        ∃ a,
          p0_p = some a ∧
            ∃ n,
              World.cell? w (Addr.add a 12) = some (Value.int IntKind.i64 n) ∧
                (decide (p1_id > IntKind.wrap IntKind.i64 (n * (8 : Int))) = true →
                    R
                      (Ending.returned (Value.tuple #[Value.int IntKind.i64 0, Value.int IntKind.u8 0]))
                      w) ∧
                  (decide (p1_id > IntKind.wrap IntKind.i64 (n * (8 : Int))) = false →
                    ∀ (w' : World),
                      World.heap w' = World.heap w →
                        World.os w' = World.os w →
                          World.tape w' = World.tape w →
                            World.output w' = World.output w →
                              (8 : Int) ≠ (0 : Int) ∧
                                (8 : Int) ≠ (0 : Int) ∧
                                  (0 : Int) ≤ Int.tmod (IntKind.wrap IntKind.i64 (p1_id - (1 : Int))) (8 : Int) ∧
                                    R
                                      (Ending.returned
                                        (Value.tuple
                                          #[Value.int IntKind.i64
                                              (IntKind.wrap IntKind.i64
                                                (Int.tdiv (IntKind.wrap IntKind.i64 (p1_id - (1 : Int))) (8 : Int))),
                                            Value.int IntKind.u8
                                              (shlOp IntKind.u8 (1 : Int)
                                                (Int.tmod (IntKind.wrap IntKind.i64 (p1_id - (1 : Int))) (8 : Int)))]))
                                      w')) ∧
      (decide (p1_id < (1 : Int)) = true →
        R (Ending.returned (Value.tuple #[Value.int IntKind.i64 0, Value.int IntKind.u8 0])) w)) ∧
  (Option.isNone p0_p = true →
    R (Ending.returned (Value.tuple #[Value.int IntKind.i64 0, Value.int IntKind.u8 0])) w)) := by kernel_rfl
/-! slices.IndexFunc[[][]int,[]int] -/
def M44 : Mt := { N := 19, keep := [(0, [0, 1]), (1, [0, 1, 7, 8]), (2, [0, 1, 7, 8, 9]), (3, [0, 1, 5, 7, 8]), (4, [0, 1, 5, 7, 8, 16]), (5, [4]), (6, [0, 1, 7, 8]), (7, [4])], ords := [], bk := [(0, []), (1, [0, 1, 7, 8])], cuts := [], lk := [(2, [0, 1, 7, 8])] }
noncomputable def c44 : Code := bodyOf Try.f44
noncomputable def c44_0 : Code := c44.sr.sr
noncomputable def c44_1 : Code := c44.sr.sl.sr.sl.sl
def e44_1 (p0_s_a : Option Addr) (p0_s_n : Nat) (p0_s_c : Nat) (p1_f_0 : Addr) (p7_t : Int) (p8_t : Int) : Env := [(0, SV.v (Value.slice p0_s_a p0_s_n p0_s_c)), (1, SV.v (Value.func (Fn.func 31) #[] #[(Value.pointer (some p1_f_0))])), (7, SV.v (Value.int IntKind.i64 p7_t)), (8, SV.v (Value.int IntKind.i64 p8_t))]
def k44_1 (R : Ending → World → Prop) : Cont := blockK 0 [] (seqK (fun E w => cutB (findL M44.cuts (headReg c44_0)) Try.prog M44 c44_0 E w (retK Try.prog Try.f44.results.toList R) fun E => den Try.prog M44 c44_0 E w (retK Try.prog Try.f44.results.toList R)) (retK Try.prog Try.f44.results.toList R))
theorem b44 : Try.f44.body = some c44 := by kernel_rfl
theorem n44 : Try.f44.ntmps = M44.N := by kernel_rfl
theorem u44 {p0_s_a : Option Addr} {p0_s_n : Nat} {p0_s_c : Nat} {p1_f_0 : Addr} {w : World} {R : Ending → World → Prop} (h : den Try.prog M44 c44 (argE 0 [(Value.slice p0_s_a p0_s_n p0_s_c), (Value.func (Fn.func 31) #[] #[(Value.pointer (some p1_f_0))])]) w (retK Try.prog Try.f44.results.toList R)) : Calls Try.prog 44 #[(Value.slice p0_s_a p0_s_n p0_s_c), (Value.func (Fn.func 31) #[] #[(Value.pointer (some p1_f_0))])] w R := calls_den okProg Try.func44 b44 n44 (Nat.le_of_ble_eq_true rfl) h
theorem t44 (p0_s_a : Option Addr) (p0_s_n : Nat) (p0_s_c : Nat) (p1_f_0 : Addr) (w : World) (R : Ending → World → Prop) : den Try.prog M44 c44 (argE 0 [(Value.slice p0_s_a p0_s_n p0_s_c), (Value.func (Fn.func 31) #[] #[(Value.pointer (some p1_f_0))])]) w (retK Try.prog Try.f44.results.toList R) =
(Cut
  (WP Try.prog 19 (Code.loop c44_1)
    [(0, SV.v (Value.slice p0_s_a p0_s_n p0_s_c)),
      (1, SV.v (Value.func (Fn.func 31) #[] #[Value.pointer (some p1_f_0)])),
      (7, SV.v (Value.int IntKind.i64 (↑p0_s_n : Int))), (8, SV.v (Value.int IntKind.i64 0))]
    w (k44_1 R))) := by kernel_rfl
theorem t44_1 (p0_s_a : Option Addr) (p0_s_n : Nat) (p0_s_c : Nat) (p1_f_0 : Addr) (p7_t : Int) (p8_t : Int) (w : World) (B44_1 : Env → World → Prop) (R : Ending → World → Prop) : den Try.prog M44 c44_1 (e44_1 p0_s_a p0_s_n p0_s_c p1_f_0 p7_t p8_t) w (loopK B44_1 (k44_1 R)) =
((decide (p8_t < p7_t) = true →
    ((0 : Int) ≤ p8_t ∧ p8_t < (↑p0_s_n : Int)) ∧
      ∃ a,
        p0_s_a = some a ∧
          ∃ p n c,
            World.cell? w (Addr.add a (Int.toNat p8_t * 1)) = some (Value.slice p n c) ∧
              Call Try.prog 31 [Value.slice p n c, Value.pointer (some p1_f_0)] w fun e w' =>
                ∃ b,
                  e = Ending.returned (Value.bool b) ∧
                    (b = true → R (Ending.returned (Value.int IntKind.i64 p8_t)) w') ∧
                      (b = false →
                        B44_1
                          [(0, SV.v (Value.slice p0_s_a p0_s_n p0_s_c)),
                            (1, SV.v (Value.func (Fn.func 31) #[] #[Value.pointer (some p1_f_0)])),
                            (7, SV.v (Value.int IntKind.i64 p7_t)),
                            (8, SV.v (Value.int IntKind.i64 (IntKind.wrap IntKind.i64 (p8_t + (1 : Int)))))]
                          w')) ∧
  (decide (p8_t < p7_t) = false → R (Ending.returned (Value.int IntKind.i64 (-1 : Int))) w)) := by kernel_rfl
/-! slices.Index[[]int,int] -/
def M45 : Mt := { N := 19, keep := [(0, [0, 1]), (1, [0, 1, 7, 8]), (2, [0, 1, 7, 8, 9]), (3, [0, 1, 5, 7, 8]), (4, [0, 1, 5, 7, 8, 16]), (5, [4]), (6, [0, 1, 7, 8]), (7, [4])], ords := [], bk := [(0, []), (1, [0, 1, 7, 8])], cuts := [], lk := [(2, [0, 1, 7, 8])] }
noncomputable def c45 : Code := bodyOf Try.f45
noncomputable def c45_0 : Code := c45.sr.sr
noncomputable def c45_1 : Code := c45.sr.sl.sr.sl.sl
def e45_1 (p0_s_a : Option Addr) (p0_s_n : Nat) (p0_s_c : Nat) (p1_v : Int) (p7_t : Int) (p8_t : Int) : Env := [(0, SV.v (Value.slice p0_s_a p0_s_n p0_s_c)), (1, SV.v (Value.int IntKind.i64 p1_v)), (7, SV.v (Value.int IntKind.i64 p7_t)), (8, SV.v (Value.int IntKind.i64 p8_t))]
def k45_1 (R : Ending → World → Prop) : Cont := blockK 0 [] (seqK (fun E w => cutB (findL M45.cuts (headReg c45_0)) Try.prog M45 c45_0 E w (retK Try.prog Try.f45.results.toList R) fun E => den Try.prog M45 c45_0 E w (retK Try.prog Try.f45.results.toList R)) (retK Try.prog Try.f45.results.toList R))
theorem b45 : Try.f45.body = some c45 := by kernel_rfl
theorem n45 : Try.f45.ntmps = M45.N := by kernel_rfl
theorem u45 {p0_s_a : Option Addr} {p0_s_n : Nat} {p0_s_c : Nat} {p1_v : Int} {w : World} {R : Ending → World → Prop} (h : den Try.prog M45 c45 (argE 0 [(Value.slice p0_s_a p0_s_n p0_s_c), (Value.int IntKind.i64 p1_v)]) w (retK Try.prog Try.f45.results.toList R)) : Calls Try.prog 45 #[(Value.slice p0_s_a p0_s_n p0_s_c), (Value.int IntKind.i64 p1_v)] w R := calls_den okProg Try.func45 b45 n45 (Nat.le_of_ble_eq_true rfl) h
theorem t45 (p0_s_a : Option Addr) (p0_s_n : Nat) (p0_s_c : Nat) (p1_v : Int) (w : World) (R : Ending → World → Prop) : den Try.prog M45 c45 (argE 0 [(Value.slice p0_s_a p0_s_n p0_s_c), (Value.int IntKind.i64 p1_v)]) w (retK Try.prog Try.f45.results.toList R) =
(Cut
  (WP Try.prog 19 (Code.loop c45_1) (e45_1 p0_s_a p0_s_n p0_s_c p1_v (↑p0_s_n : Int) (0 : Int)) w
    (k45_1 R))) := by kernel_rfl
theorem t45_1 (p0_s_a : Option Addr) (p0_s_n : Nat) (p0_s_c : Nat) (p1_v : Int) (p7_t : Int) (p8_t : Int) (w : World) (B45_1 : Env → World → Prop) (R : Ending → World → Prop) : den Try.prog M45 c45_1 (e45_1 p0_s_a p0_s_n p0_s_c p1_v p7_t p8_t) w (loopK B45_1 (k45_1 R)) =
((decide (p8_t < p7_t) = true →
    ((0 : Int) ≤ p8_t ∧ p8_t < (↑p0_s_n : Int)) ∧
      ∃ a,
        p0_s_a = some a ∧
          ∃ n,
            World.cell? w (Addr.add a (Int.toNat p8_t * 1)) = some (Value.int IntKind.i64 n) ∧
              ((p1_v == n) = true → R (Ending.returned (Value.int IntKind.i64 p8_t)) w) ∧
                ((p1_v == n) = false →
                  B45_1
                    [(0, SV.v (Value.slice p0_s_a p0_s_n p0_s_c)),
                      (1, SV.v (Value.int IntKind.i64 p1_v)), (7, SV.v (Value.int IntKind.i64 p7_t)),
                      (8, SV.v (Value.int IntKind.i64 (IntKind.wrap IntKind.i64 (p8_t + (1 : Int)))))]
                    w)) ∧
  (decide (p8_t < p7_t) = false → R (Ending.returned (Value.int IntKind.i64 (-1 : Int))) w)) := by kernel_rfl
/-! davit/davitref03.Has -/
def M46 : Mt := { N := 18, keep := [(0, [0, 1]), (1, [0, 1, 5]), (2, [0, 1, 5, 9]), (3, [0, 1, 5]), (4, [0, 1, 5, 17]), (5, [4]), (6, [4])], ords := [], bk := [(0, []), (1, [0, 1, 5])], cuts := [], lk := [(2, [0, 1, 5])] }
noncomputable def c46 : Code := bodyOf Try.f46
noncomputable def c46_0 : Code := c46.sr.sr
noncomputable def c46_1 : Code := c46.sr.sl.sr.sl.sl
def e46_1 (p0_l_a : Option Addr) (p0_l_n : Nat) (p0_l_c : Nat) (p1_n : Int) (p5_i : Int) : Env := [(0, SV.v (Value.slice p0_l_a p0_l_n p0_l_c)), (1, SV.v (Value.int IntKind.i64 p1_n)), (5, SV.v (Value.int IntKind.i64 p5_i))]
def k46_1 (R : Ending → World → Prop) : Cont := blockK 0 [] (seqK (fun E w => cutB (findL M46.cuts (headReg c46_0)) Try.prog M46 c46_0 E w (retK Try.prog Try.f46.results.toList R) fun E => den Try.prog M46 c46_0 E w (retK Try.prog Try.f46.results.toList R)) (retK Try.prog Try.f46.results.toList R))
theorem b46 : Try.f46.body = some c46 := by kernel_rfl
theorem n46 : Try.f46.ntmps = M46.N := by kernel_rfl
theorem u46 {p0_l_a : Option Addr} {p0_l_n : Nat} {p0_l_c : Nat} {p1_n : Int} {w : World} {R : Ending → World → Prop} (h : den Try.prog M46 c46 (argE 0 [(Value.slice p0_l_a p0_l_n p0_l_c), (Value.int IntKind.i64 p1_n)]) w (retK Try.prog Try.f46.results.toList R)) : Calls Try.prog 46 #[(Value.slice p0_l_a p0_l_n p0_l_c), (Value.int IntKind.i64 p1_n)] w R := calls_den okProg Try.func46 b46 n46 (Nat.le_of_ble_eq_true rfl) h
theorem t46 (p0_l_a : Option Addr) (p0_l_n : Nat) (p0_l_c : Nat) (p1_n : Int) (w : World) (R : Ending → World → Prop) : den Try.prog M46 c46 (argE 0 [(Value.slice p0_l_a p0_l_n p0_l_c), (Value.int IntKind.i64 p1_n)]) w (retK Try.prog Try.f46.results.toList R) =
(Cut (WP Try.prog 18 (Code.loop c46_1) (e46_1 p0_l_a p0_l_n p0_l_c p1_n (0 : Int)) w (k46_1 R))) := by kernel_rfl
theorem t46_1 (p0_l_a : Option Addr) (p0_l_n : Nat) (p0_l_c : Nat) (p1_n : Int) (p5_i : Int) (w : World) (B46_1 : Env → World → Prop) (R : Ending → World → Prop) : den Try.prog M46 c46_1 (e46_1 p0_l_a p0_l_n p0_l_c p1_n p5_i) w (loopK B46_1 (k46_1 R)) =
((decide (p5_i < (↑p0_l_n : Int)) = true →
    ((0 : Int) ≤ p5_i ∧ p5_i < (↑p0_l_n : Int)) ∧
      ∃ a,
        p0_l_a = some a ∧
          ∃ n,
            World.cell? w (Addr.add a (Int.toNat p5_i * 1)) = some (Value.int IntKind.i64 n) ∧
              ((n == p1_n) = true → R (Ending.returned (Value.bool true)) w) ∧
                ((n == p1_n) = false →
                  B46_1
                    [(0, SV.v (Value.slice p0_l_a p0_l_n p0_l_c)),
                      (1, SV.v (Value.int IntKind.i64 p1_n)),
                      (5, SV.v (Value.int IntKind.i64 (IntKind.wrap IntKind.i64 (p5_i + (1 : Int)))))]
                    w)) ∧
  (decide (p5_i < (↑p0_l_n : Int)) = false → R (Ending.returned (Value.bool false)) w)) := by kernel_rfl
/-! (*davit/pool.Pool).Take -/
def M47 : Mt := { N := 41, keep := [(0, [0]), (1, [0, 7]), (2, [2, 3]), (3, [0, 4]), (4, [0, 4, 11]), (5, [0, 4]), (6, [0, 4, 15]), (7, [2, 3]), (8, [0, 4, 5]), (9, [4, 5]), (10, [2, 3])], ords := [(9, [0, 1, 2, 3, 4, 5, 6, 7, 8, 9, 10, 11, 12])], bk := [], cuts := [(6, [0, 4])], lk := [] }
noncomputable def c47 : Code := bodyOf Try.f47
noncomputable def c47_0 : Code := c47.sr.sr.sr.sr
def e47_0 (p0_p : Option Addr) (p4_at : Int) : Env := [(0, SV.v (Value.pointer p0_p)), (4, SV.v (Value.int IntKind.i64 p4_at))]
def k47_0 (R : Ending → World → Prop) : Cont := retK Try.prog Try.f47.results.toList R
theorem b47 : Try.f47.body = some c47 := by kernel_rfl
theorem n47 : Try.f47.ntmps = M47.N := by kernel_rfl
theorem u47 {p0_p : Option Addr} {w : World} {R : Ending → World → Prop} (h : den Try.prog M47 c47 (argE 0 [(Value.pointer p0_p)]) w (retK Try.prog Try.f47.results.toList R)) : Calls Try.prog 47 #[(Value.pointer p0_p)] w R := calls_den okProg Try.func47 b47 n47 (Nat.le_of_ble_eq_true rfl) h
theorem t47 (p0_p : Option Addr) (w : World) (R : Ending → World → Prop) : den Try.prog M47 c47 (argE 0 [(Value.pointer p0_p)]) w (retK Try.prog Try.f47.results.toList R) =
((Option.isNone p0_p = true →
    R (Ending.returned (Value.tuple #[Value.int IntKind.i64 0, Value.int IntKind.i64 1])) w) ∧
  (Option.isNone p0_p = false →
    Call Try.prog 51 [Value.pointer p0_p, Value.func (Fn.func 52) #[] #[]] w fun e w' =>
      ∃ n,
        e = Ending.returned (Value.int IntKind.i64 n) ∧
          (decide (n < (0 : Int)) = true →
              Call Try.prog 51 [Value.pointer p0_p, Value.func (Fn.func 53) #[] #[]] w' fun e w' =>
                ∃ n,
                  e = Ending.returned (Value.int IntKind.i64 n) ∧
                    CutD Try.prog M47 c47_0 (e47_0 p0_p n) w' (k47_0 R)) ∧
            (decide (n < (0 : Int)) = false → CutD Try.prog M47 c47_0 (e47_0 p0_p n) w' (k47_0 R)))) := by kernel_rfl
theorem t47_0 (p0_p : Option Addr) (p4_at : Int) (w : World) (R : Ending → World → Prop) : den Try.prog M47 c47_0 (e47_0 p0_p p4_at) w (k47_0 R) =
((decide (p4_at < (0 : Int)) = true →
    R (Ending.returned (Value.tuple #[Value.int IntKind.i64 0, Value.int IntKind.i64 5])) w) ∧
  (decide (p4_at < (0 : Int)) = false →
    ∃ a,
      p0_p = some a ∧
        ((0 : Int) ≤ p4_at ∧ p4_at < (↑12 : Int)) ∧
          ∃ n,
            World.cell? w (Addr.add (Addr.add a 0) (Int.toNat p4_at * 1)) =
                some (Value.int IntKind.u8 n) ∧
              Call Try.prog 54
                [Value.int IntKind.u8
                    (bitsOp BinOp.xor IntKind.u8
                      (match false with
                      | true => (-1 : Int)
                      | false => IntKind.max IntKind.u8)
                      n)]
                w fun e w' =>
                ∃ n,
                  e = Ending.returned (Value.int IntKind.i64 n) ∧
                    ∀ (w'_1 : World),
                      World.heap w'_1 = World.heap w' →
                        World.os w'_1 = World.os w' →
                          World.tape w'_1 = World.tape w' →
                            World.output w'_1 = World.output w' →
                              ∃ a,
                                p0_p = some a ∧
                                  ((0 : Int) ≤ p4_at ∧ p4_at < (↑12 : Int)) ∧
                                    ∃ n_1,
                                      World.cell? w'_1
                                            (Addr.add (Addr.add a 0) (Int.toNat p4_at * 1)) =
                                          some (Value.int IntKind.u8 n_1) ∧
                                        (0 : Int) ≤ n ∧
                                          ∃ a,
                                            p0_p = some a ∧
                                              ((0 : Int) ≤ p4_at ∧ p4_at < (↑12 : Int)) ∧
                                                Wr w'_1 (Addr.add (Addr.add a 0) (Int.toNat p4_at * 1))
                                                  [Value.int IntKind.u8
                                                      (bitsOp BinOp.or IntKind.u8 n_1 (shlOp IntKind.u8 (1 : Int) n))]
                                                  fun w' =>
                                                  R
                                                    (Ending.returned
                                                      (Value.tuple
                                                        #[Value.int IntKind.i64
                                                            (IntKind.wrap IntKind.i64
                                                              (IntKind.wrap IntKind.i64
                                                                  (IntKind.wrap IntKind.i64 (p4_at * (8 : Int)) + n) +
                                                                (1 : Int))),
                                                          Value.int IntKind.i64 0]))
                                                    w')) := by kernel_rfl
/-! (*davit/pool.Pool).Give -/
def M48 : Mt := { N := 32, keep := [(0, [0, 1]), (1, [0, 1, 7]), (2, [4]), (3, [0, 1, 10]), (4, [4]), (5, [0, 5, 6]), (6, []), (7, [4])], ords := [(6, [0, 1, 2, 3, 4, 5, 6, 7, 8, 9, 10, 11])], bk := [(0, [0, 1])], cuts := [], lk := [] }
noncomputable def c48 : Code := bodyOf Try.f48
theorem b48 : Try.f48.body = some c48 := by kernel_rfl
theorem n48 : Try.f48.ntmps = M48.N := by kernel_rfl
theorem u48 {p0_p : Option Addr} {p1_id : Int} {w : World} {R : Ending → World → Prop} (h : den Try.prog M48 c48 (argE 0 [(Value.pointer p0_p), (Value.int IntKind.i64 p1_id)]) w (retK Try.prog Try.f48.results.toList R)) : Calls Try.prog 48 #[(Value.pointer p0_p), (Value.int IntKind.i64 p1_id)] w R := calls_den okProg Try.func48 b48 n48 (Nat.le_of_ble_eq_true rfl) h
theorem t48 (p0_p : Option Addr) (p1_id : Int) (w : World) (R : Ending → World → Prop) : den Try.prog M48 c48 (argE 0 [(Value.pointer p0_p), (Value.int IntKind.i64 p1_id)]) w (retK Try.prog Try.f48.results.toList R) =
((Option.isNone p0_p = true → R (Ending.returned (Value.int IntKind.i64 1)) w) ∧
  (Option.isNone p0_p = false →
    Call Try.prog 29 [Value.pointer p0_p, Value.int IntKind.i64 p1_id] w fun e w' =>
      ∃ b,
        e = Ending.returned (Value.bool b) ∧
          ((!b) = true → R (Ending.returned (Value.int IntKind.i64 4)) w') ∧
            ((!b) = false →
              Call Try.prog 43 [Value.pointer p0_p, Value.int IntKind.i64 p1_id] w' fun e w' =>
                ∃ n n_1,
                  e = Ending.returned (Value.tuple #[Value.int IntKind.i64 n, Value.int IntKind.u8 n_1]) ∧
                    ∀ (w'_1 : World),
                      World.heap w'_1 = World.heap w' →
                        World.os w'_1 = World.os w' →
                          World.tape w'_1 = World.tape w' →
                            World.output w'_1 = World.output w' →
                              ∃ a,
                                p0_p = some a ∧
                                  ((0 : Int) ≤ n ∧ n < (↑12 : Int)) ∧
                                    ∃ n_2,
                                      World.cell? w'_1 (Addr.add (Addr.add a 0) (Int.toNat n * 1)) =
                                          some (Value.int IntKind.u8 n_2) ∧
                                        ∃ a,
                                          p0_p = some a ∧
                                            ((0 : Int) ≤ n ∧ n < (↑12 : Int)) ∧
                                              Wr w'_1 (Addr.add (Addr.add a 0) (Int.toNat n * 1))
                                                [Value.int IntKind.u8 (bitsOp BinOp.andNot IntKind.u8 n_2 n_1)]
                                                fun w' => R (Ending.returned (Value.int IntKind.i64 0)) w'))) := by kernel_rfl
/-! (*davit/davitref07.Pool).taken -/
def M49 : Mt := { N := 27, keep := [(0, [0, 1]), (1, [0, 1, 5]), (2, [0, 1, 5, 6]), (3, [0, 1, 5, 6, 14]), (4, [0, 1, 5, 6]), (5, [0, 1, 5, 6, 23]), (6, [0, 1, 5, 6]), (7, [4])], ords := [], bk := [(0, [5]), (1, [0, 1, 5, 6])], cuts := [], lk := [(3, [0, 1, 5, 6])] }
noncomputable def c49 : Code := bodyOf Try.f49
noncomputable def c49_0 : Code := c49.sr.sr.sr
noncomputable def c49_1 : Code := c49.sr.sr.sl.sr.sl.sl
def e49_1 (p0_p : Option Addr) (p1_page : Int) (p5_n : Int) (p6_i : Int) : Env := [(0, SV.v (Value.pointer p0_p)), (1, SV.v (Value.int IntKind.i64 p1_page)), (5, SV.v (Value.int IntKind.i64 p5_n)), (6, SV.v (Value.int IntKind.i64 p6_i))]
def k49_1 (R : Ending → World → Prop) : Cont := blockK 0 [5] (seqK (fun E w => cutB (findL M49.cuts (headReg c49_0)) Try.prog M49 c49_0 E w (retK Try.prog Try.f49.results.toList R) fun E => den Try.prog M49 c49_0 E w (retK Try.prog Try.f49.results.toList R)) (retK Try.prog Try.f49.results.toList R))
theorem b49 : Try.f49.body = some c49 := by kernel_rfl
theorem n49 : Try.f49.ntmps = M49.N := by kernel_rfl
theorem u49 {p0_p : Option Addr} {p1_page : Int} {w : World} {R : Ending → World → Prop} (h : den Try.prog M49 c49 (argE 0 [(Value.pointer p0_p), (Value.int IntKind.i64 p1_page)]) w (retK Try.prog Try.f49.results.toList R)) : Calls Try.prog 49 #[(Value.pointer p0_p), (Value.int IntKind.i64 p1_page)] w R := calls_den okProg Try.func49 b49 n49 (Nat.le_of_ble_eq_true rfl) h
theorem t49 (p0_p : Option Addr) (p1_page : Int) (w : World) (R : Ending → World → Prop) : den Try.prog M49 c49 (argE 0 [(Value.pointer p0_p), (Value.int IntKind.i64 p1_page)]) w (retK Try.prog Try.f49.results.toList R) =
(Cut
  (WP Try.prog 27 (Code.loop c49_1)
    (e49_1 p0_p p1_page (0 : Int)
      (IntKind.wrap IntKind.i64 (IntKind.wrap IntKind.i64 ((8 : Int) * p1_page) + (1 : Int))))
    w (k49_1 R))) := by kernel_rfl
theorem t49_1 (p0_p : Option Addr) (p1_page : Int) (p5_n : Int) (p6_i : Int) (w : World) (B49_1 : Env → World → Prop) (R : Ending → World → Prop) : den Try.prog M49 c49_1 (e49_1 p0_p p1_page p5_n p6_i) w (loopK B49_1 (k49_1 R)) =
((decide (p6_i ≤ IntKind.wrap IntKind.i64 (IntKind.wrap IntKind.i64 ((8 : Int) * p1_page) + (8 : Int))) = true →
    ∃ a,
      p0_p = some a ∧
        ∃ p n c,
          World.cell? w (Addr.add a 0) = some (Value.slice p n c) ∧
            ((0 : Int) ≤ p6_i ∧ p6_i < (↑n : Int)) ∧
              ∃ a,
                p = some a ∧
                  ∃ b,
                    World.cell? w (Addr.add a (Int.toNat p6_i * 1)) = some (Value.bool b) ∧
                      (b = true →
                          B49_1
                            [(0, SV.v (Value.pointer p0_p)),
                              (1, SV.v (Value.int IntKind.i64 p1_page)),
                              (5, SV.v (Value.int IntKind.i64 (IntKind.wrap IntKind.i64 (p5_n + (1 : Int))))),
                              (6, SV.v (Value.int IntKind.i64 (IntKind.wrap IntKind.i64 (p6_i + (1 : Int)))))]
                            w) ∧
                        (b = false →
                          B49_1
                            [(0, SV.v (Value.pointer p0_p)),
                              (1, SV.v (Value.int IntKind.i64 p1_page)),
                              (5, SV.v (Value.int IntKind.i64 p5_n)),
                              (6, SV.v (Value.int IntKind.i64 (IntKind.wrap IntKind.i64 (p6_i + (1 : Int)))))]
                            w)) ∧
  (decide (p6_i ≤ IntKind.wrap IntKind.i64 (IntKind.wrap IntKind.i64 ((8 : Int) * p1_page) + (8 : Int))) = false →
    R (Ending.returned (Value.int IntKind.i64 p5_n)) w)) := by kernel_rfl
/-! (*davit/davitref07.Pool).free -/
def M50 : Mt := { N := 31, keep := [(0, [0, 1]), (1, [0, 1, 5]), (2, [0, 1, 5, 13]), (3, [0, 1, 5]), (4, [0, 1, 5, 23]), (5, [5]), (6, [4]), (7, [4])], ords := [], bk := [(0, []), (1, [0, 1, 5])], cuts := [], lk := [(2, [0, 1, 5])] }
noncomputable def c50 : Code := bodyOf Try.f50
noncomputable def c50_0 : Code := c50.sr.sr
noncomputable def c50_1 : Code := c50.sr.sl.sr.sl.sl
def e50_1 (p0_p : Option Addr) (p1_page : Int) (p5_i : Int) : Env := [(0, SV.v (Value.pointer p0_p)), (1, SV.v (Value.int IntKind.i64 p1_page)), (5, SV.v (Value.int IntKind.i64 p5_i))]
def k50_1 (R : Ending → World → Prop) : Cont := blockK 0 [] (seqK (fun E w => cutB (findL M50.cuts (headReg c50_0)) Try.prog M50 c50_0 E w (retK Try.prog Try.f50.results.toList R) fun E => den Try.prog M50 c50_0 E w (retK Try.prog Try.f50.results.toList R)) (retK Try.prog Try.f50.results.toList R))
theorem b50 : Try.f50.body = some c50 := by kernel_rfl
theorem n50 : Try.f50.ntmps = M50.N := by kernel_rfl
theorem u50 {p0_p : Option Addr} {p1_page : Int} {w : World} {R : Ending → World → Prop} (h : den Try.prog M50 c50 (argE 0 [(Value.pointer p0_p), (Value.int IntKind.i64 p1_page)]) w (retK Try.prog Try.f50.results.toList R)) : Calls Try.prog 50 #[(Value.pointer p0_p), (Value.int IntKind.i64 p1_page)] w R := calls_den okProg Try.func50 b50 n50 (Nat.le_of_ble_eq_true rfl) h
theorem t50 (p0_p : Option Addr) (p1_page : Int) (w : World) (R : Ending → World → Prop) : den Try.prog M50 c50 (argE 0 [(Value.pointer p0_p), (Value.int IntKind.i64 p1_page)]) w (retK Try.prog Try.f50.results.toList R) =
(Cut
  (WP Try.prog 31 (Code.loop c50_1)
    (e50_1 p0_p p1_page (IntKind.wrap IntKind.i64 (IntKind.wrap IntKind.i64 ((8 : Int) * p1_page) + (1 : Int)))) w
    (k50_1 R))) := by kernel_rfl
theorem t50_1 (p0_p : Option Addr) (p1_page : Int) (p5_i : Int) (w : World) (B50_1 : Env → World → Prop) (R : Ending → World → Prop) : den Try.prog M50 c50_1 (e50_1 p0_p p1_page p5_i) w (loopK B50_1 (k50_1 R)) =
((decide (p5_i ≤ IntKind.wrap IntKind.i64 (IntKind.wrap IntKind.i64 ((8 : Int) * p1_page) + (8 : Int))) = true →
    ∃ a,
      p0_p = some a ∧
        ∃ p n c,
          World.cell? w (Addr.add a 0) = some (Value.slice p n c) ∧
            ((0 : Int) ≤ p5_i ∧ p5_i < (↑n : Int)) ∧
              ∃ a,
                p = some a ∧
                  ∃ b,
                    World.cell? w (Addr.add a (Int.toNat p5_i * 1)) = some (Value.bool b) ∧
                      ((!b) = true →
                          ∃ a,
                            p0_p = some a ∧
                              ∃ p n c,
                                World.cell? w (Addr.add a 0) = some (Value.slice p n c) ∧
                                  ((0 : Int) ≤ p5_i ∧ p5_i < (↑n : Int)) ∧
                                    ∃ a,
                                      p = some a ∧
                                        Wr w (Addr.add a (Int.toNat p5_i * 1)) [Value.bool true] fun w' =>
                                          R (Ending.returned (Value.int IntKind.i64 p5_i)) w') ∧
                        ((!b) = false →
                          B50_1
                            [(0, SV.v (Value.pointer p0_p)),
                              (1, SV.v (Value.int IntKind.i64 p1_page)),
                              (5, SV.v (Value.int IntKind.i64 (IntKind.wrap IntKind.i64 (p5_i + (1 : Int)))))]
                            w)) ∧
  (decide (p5_i ≤ IntKind.wrap IntKind.i64 (IntKind.wrap IntKind.i64 ((8 : Int) * p1_page) + (8 : Int))) = false →
    R (Ending.returned (Value.int IntKind.i64 0)) w)) := by kernel_rfl
/-! (*davit/pool.Pool).find -/
def M51 : Mt := { N := 23, keep := [(0, [0, 1]), (1, [0, 1, 9, 10]), (2, [0, 1, 9, 10, 11]), (3, [0, 1, 5, 9, 10]), (4, [0, 1, 5, 9, 10, 20]), (5, [4]), (6, [0, 1, 9, 10]), (7, [4])], ords := [], bk := [(0, []), (1, [0, 1, 9, 10])], cuts := [], lk := [(2, [0, 1, 9, 10])] }
noncomputable def c51 : Code := bodyOf Try.f51
noncomputable def c51_0 : Code := c51.sr.sr
noncomputable def c51_1 : Code := c51.sr.sl.sr.sl.sl
def e51_1 (p0_p : Option Addr) (p9_t : Int) (p10_t : Int) : Env := [(0, SV.v (Value.pointer p0_p)), (1, SV.v (Value.func (Fn.func 52) #[] #[])), (9, SV.v (Value.int IntKind.i64 p9_t)), (10, SV.v (Value.int IntKind.i64 p10_t))]
def k51_1 (R : Ending → World → Prop) : Cont := blockK 0 [] (seqK (fun E w => cutB (findL M51.cuts (headReg c51_0)) Try.prog M51 c51_0 E w (retK Try.prog Try.f51.results.toList R) fun E => den Try.prog M51 c51_0 E w (retK Try.prog Try.f51.results.toList R)) (retK Try.prog Try.f51.results.toList R))
theorem b51 : Try.f51.body = some c51 := by kernel_rfl
theorem n51 : Try.f51.ntmps = M51.N := by kernel_rfl
theorem u51 {p0_p : Option Addr} {w : World} {R : Ending → World → Prop} (h : den Try.prog M51 c51 (argE 0 [(Value.pointer p0_p), (Value.func (Fn.func 52) #[] #[])]) w (retK Try.prog Try.f51.results.toList R)) : Calls Try.prog 51 #[(Value.pointer p0_p), (Value.func (Fn.func 52) #[] #[])] w R := calls_den okProg Try.func51 b51 n51 (Nat.le_of_ble_eq_true rfl) h
theorem t51 (p0_p : Option Addr) (w : World) (R : Ending → World → Prop) : den Try.prog M51 c51 (argE 0 [(Value.pointer p0_p), (Value.func (Fn.func 52) #[] #[])]) w (retK Try.prog Try.f51.results.toList R) =
(∃ a,
  p0_p = some a ∧
    ∃ n,
      World.cell? w (Addr.add a 12) = some (Value.int IntKind.i64 n) ∧
        Cut
          (WP Try.prog 23 (Code.loop c51_1)
            [(0, SV.v (Value.pointer p0_p)), (1, SV.v (Value.func (Fn.func 52) #[] #[])),
              (9, SV.v (Value.int IntKind.i64 n)), (10, SV.v (Value.int IntKind.i64 0))]
            w (k51_1 R))) := by kernel_rfl
theorem t51_1 (p0_p : Option Addr) (p9_t : Int) (p10_t : Int) (w : World) (B51_1 : Env → World → Prop) (R : Ending → World → Prop) : den Try.prog M51 c51_1 (e51_1 p0_p p9_t p10_t) w (loopK B51_1 (k51_1 R)) =
((decide (p10_t < p9_t) = true →
    ∃ a,
      p0_p = some a ∧
        ((0 : Int) ≤ p10_t ∧ p10_t < (↑12 : Int)) ∧
          ∃ n,
            World.cell? w (Addr.add (Addr.add a 0) (Int.toNat p10_t * 1)) =
                some (Value.int IntKind.u8 n) ∧
              Call Try.prog 52 [Value.int IntKind.u8 n] w fun e w' =>
                ∃ b,
                  e = Ending.returned (Value.bool b) ∧
                    (b = true → R (Ending.returned (Value.int IntKind.i64 p10_t)) w') ∧
                      (b = false →
                        B51_1
                          [(0, SV.v (Value.pointer p0_p)),
                            (1, SV.v (Value.func (Fn.func 52) #[] #[])),
                            (9, SV.v (Value.int IntKind.i64 p9_t)),
                            (10, SV.v (Value.int IntKind.i64 (IntKind.wrap IntKind.i64 (p10_t + (1 : Int)))))]
                          w')) ∧
  (decide (p10_t < p9_t) = false → R (Ending.returned (Value.int IntKind.i64 (-1 : Int))) w)) := by kernel_rfl
/-! (*davit/pool.Pool).Take$1 -/
def M52 : Mt := { N := 9, keep := [(0, [0]), (1, [2])], ords := [], bk := [], cuts := [], lk := [] }
noncomputable def c52 : Code := bodyOf Try.f52
theorem b52 : Try.f52.body = some c52 := by kernel_rfl
theorem n52 : Try.f52.ntmps = M52.N := by kernel_rfl
theorem u52 {p0_page : Int} {w : World} {R : Ending → World → Prop} (h : den Try.prog M52 c52 (argE 0 [(Value.int IntKind.u8 p0_page)]) w (retK Try.prog Try.f52.results.toList R)) : Calls Try.prog 52 #[(Value.int IntKind.u8 p0_page)] w R := calls_den okProg Try.func52 b52 n52 (Nat.le_of_ble_eq_true rfl) h
theorem t52 (p0_page : Int) (w : World) (R : Ending → World → Prop) : den Try.prog M52 c52 (argE 0 [(Value.int IntKind.u8 p0_page)]) w (retK Try.prog Try.f52.results.toList R) =
(((p0_page != (0 : Int)) = true → R (Ending.returned (Value.bool (p0_page != (255 : Int)))) w) ∧
  ((p0_page != (0 : Int)) = false → R (Ending.returned (Value.bool false)) w)) := by kernel_rfl
/-! (*davit/pool.Pool).Take$2 -/
def M53 : Mt := { N := 5, keep := [(0, [0]), (1, [2])], ords := [], bk := [], cuts := [], lk := [] }
noncomputable def c53 : Code := bodyOf Try.f53
theorem b53 : Try.f53.body = some c53 := by kernel_rfl
theorem n53 : Try.f53.ntmps = M53.N := by kernel_rfl
theorem u53 {p0_page : Int} {w : World} {R : Ending → World → Prop} (h : den Try.prog M53 c53 (argE 0 [(Value.int IntKind.u8 p0_page)]) w (retK Try.prog Try.f53.results.toList R)) : Calls Try.prog 53 #[(Value.int IntKind.u8 p0_page)] w R := calls_den okProg Try.func53 b53 n53 (Nat.le_of_ble_eq_true rfl) h
theorem t53 (p0_page : Int) (w : World) (R : Ending → World → Prop) : den Try.prog M53 c53 (argE 0 [(Value.int IntKind.u8 p0_page)]) w (retK Try.prog Try.f53.results.toList R) =
(R (Ending.returned (Value.bool (p0_page == (0 : Int)))) w) := by kernel_rfl
/-! math/bits.TrailingZeros8 -/
def M54 : Mt := { N := 6, keep := [(0, [0]), (1, [2])], ords := [], bk := [], cuts := [], lk := [] }
noncomputable def c54 : Code := bodyOf Try.f54
theorem b54 : Try.f54.body = some c54 := by kernel_rfl
theorem n54 : Try.f54.ntmps = M54.N := by kernel_rfl
theorem u54 {p0_x : Int} {w : World} {R : Ending → World → Prop} (h : den Try.prog M54 c54 (argE 0 [(Value.int IntKind.u8 p0_x)]) w (retK Try.prog Try.f54.results.toList R)) : Calls Try.prog 54 #[(Value.int IntKind.u8 p0_x)] w R := calls_den okProg Try.func54 b54 n54 (Nat.le_of_ble_eq_true rfl) h
theorem t54 (p0_x : Int) (w : World) (R : Ending → World → Prop) : den Try.prog M54 c54 (argE 0 [(Value.int IntKind.u8 p0_x)]) w (retK Try.prog Try.f54.results.toList R) =
(((0 : Int) ≤ p0_x ∧ p0_x < (↑256 : Int)) ∧
  ∃ c,
    (∃ u,
        (ByteArray.mk #[(8 : UInt8), (0 : UInt8), (1 : UInt8), (0 : UInt8), (2 : UInt8), (0 : UInt8), (1 : UInt8),
                    (0 : UInt8), (3 : UInt8), (0 : UInt8), (1 : UInt8), (0 : UInt8), (2 : UInt8), (0 : UInt8),
                    (1 : UInt8), (0 : UInt8), (4 : UInt8), (0 : UInt8), (1 : UInt8), (0 : UInt8), (2 : UInt8),
                    (0 : UInt8), (1 : UInt8), (0 : UInt8), (3 : UInt8), (0 : UInt8), (1 : UInt8), (0 : UInt8),
                    (2 : UInt8), (0 : UInt8), (1 : UInt8), (0 : UInt8), (5 : UInt8), (0 : UInt8), (1 : UInt8),
                    (0 : UInt8), (2 : UInt8), (0 : UInt8), (1 : UInt8), (0 : UInt8), (3 : UInt8), (0 : UInt8),
                    (1 : UInt8), (0 : UInt8), (2 : UInt8), (0 : UInt8), (1 : UInt8), (0 : UInt8), (4 : UInt8),
                    (0 : UInt8), (1 : UInt8), (0 : UInt8), (2 : UInt8), (0 : UInt8), (1 : UInt8), (0 : UInt8),
                    (3 : UInt8), (0 : UInt8), (1 : UInt8), (0 : UInt8), (2 : UInt8), (0 : UInt8), (1 : UInt8),
                    (0 : UInt8), (6 : UInt8), (0 : UInt8), (1 : UInt8), (0 : UInt8), (2 : UInt8), (0 : UInt8),
                    (1 : UInt8), (0 : UInt8), (3 : UInt8), (0 : UInt8), (1 : UInt8), (0 : UInt8), (2 : UInt8),
                    (0 : UInt8), (1 : UInt8), (0 : UInt8), (4 : UInt8), (0 : UInt8), (1 : UInt8), (0 : UInt8),
                    (2 : UInt8), (0 : UInt8), (1 : UInt8), (0 : UInt8), (3 : UInt8), (0 : UInt8), (1 : UInt8),
                    (0 : UInt8), (2 : UInt8), (0 : UInt8), (1 : UInt8), (0 : UInt8), (5 : UInt8), (0 : UInt8),
                    (1 : UInt8), (0 : UInt8), (2 : UInt8), (0 : UInt8), (1 : UInt8), (0 : UInt8), (3 : UInt8),
                    (0 : UInt8), (1 : UInt8), (0 : UInt8), (2 : UInt8), (0 : UInt8), (1 : UInt8), (0 : UInt8),
                    (4 : UInt8), (0 : UInt8), (1 : UInt8), (0 : UInt8), (2 : UInt8), (0 : UInt8), (1 : UInt8),
                    (0 : UInt8), (3 : UInt8), (0 : UInt8), (1 : UInt8), (0 : UInt8), (2 : UInt8), (0 : UInt8),
                    (1 : UInt8), (0 : UInt8), (7 : UInt8), (0 : UInt8), (1 : UInt8), (0 : UInt8), (2 : UInt8),
                    (0 : UInt8), (1 : UInt8), (0 : UInt8), (3 : UInt8), (0 : UInt8), (1 : UInt8), (0 : UInt8),
                    (2 : UInt8), (0 : UInt8), (1 : UInt8), (0 : UInt8), (4 : UInt8), (0 : UInt8), (1 : UInt8),
                    (0 : UInt8), (2 : UInt8), (0 : UInt8), (1 : UInt8), (0 : UInt8), (3 : UInt8), (0 : UInt8),
                    (1 : UInt8), (0 : UInt8), (2 : UInt8), (0 : UInt8), (1 : UInt8), (0 : UInt8), (5 : UInt8),
                    (0 : UInt8), (1 : UInt8), (0 : UInt8), (2 : UInt8), (0 : UInt8), (1 : UInt8), (0 : UInt8),
                    (3 : UInt8), (0 : UInt8), (1 : UInt8), (0 : UInt8), (2 : UInt8), (0 : UInt8), (1 : UInt8),
                    (0 : UInt8), (4 : UInt8), (0 : UInt8), (1 : UInt8), (0 : UInt8), (2 : UInt8), (0 : UInt8),
                    (1 : UInt8), (0 : UInt8), (3 : UInt8), (0 : UInt8), (1 : UInt8), (0 : UInt8), (2 : UInt8),
                    (0 : UInt8), (1 : UInt8), (0 : UInt8), (6 : UInt8), (0 : UInt8), (1 : UInt8), (0 : UInt8),
                    (2 : UInt8), (0 : UInt8), (1 : UInt8), (0 : UInt8), (3 : UInt8), (0 : UInt8), (1 : UInt8),
                    (0 : UInt8), (2 : UInt8), (0 : UInt8), (1 : UInt8), (0 : UInt8), (4 : UInt8), (0 : UInt8),
                    (1 : UInt8), (0 : UInt8), (2 : UInt8), (0 : UInt8), (1 : UInt8), (0 : UInt8), (3 : UInt8),
                    (0 : UInt8), (1 : UInt8), (0 : UInt8), (2 : UInt8), (0 : UInt8), (1 : UInt8), (0 : UInt8),
                    (5 : UInt8), (0 : UInt8), (1 : UInt8), (0 : UInt8), (2 : UInt8), (0 : UInt8), (1 : UInt8),
                    (0 : UInt8), (3 : UInt8), (0 : UInt8), (1 : UInt8), (0 : UInt8), (2 : UInt8), (0 : UInt8),
                    (1 : UInt8), (0 : UInt8), (4 : UInt8), (0 : UInt8), (1 : UInt8), (0 : UInt8), (2 : UInt8),
                    (0 : UInt8), (1 : UInt8), (0 : UInt8), (3 : UInt8), (0 : UInt8), (1 : UInt8), (0 : UInt8),
                    (2 : UInt8), (0 : UInt8), (1 : UInt8), (0 : UInt8)])[Int.toNat p0_x]? =
            some u ∧
          (↑(UInt8.toNat u) : Int) = c) ∧
      R (Ending.returned (Value.int IntKind.i64 (IntKind.wrap IntKind.i64 c))) w) := by kernel_rfl
end Go.Dav
