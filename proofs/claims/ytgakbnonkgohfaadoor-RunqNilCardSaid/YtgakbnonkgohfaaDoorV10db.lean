/- What functions of the program come to. -/
import Derived.Test.YtgakbnonkgohfaaDoorPrg10d
namespace Go.Dav
open Go.Proofs
/-! (*davit/davitref09.Queue).Back -/
def M55 : Mt := { N := 30, keep := [(0, [0, 1]), (1, [0, 1, 5, 6]), (2, [0, 1, 5, 14]), (3, [4]), (4, [0, 1, 5]), (5, []), (6, [4])], ords := [], bk := [], cuts := [], lk := [] }
noncomputable def c55 : Code := bodyOf Tryd.f55
theorem b55 : Tryd.f55.body = some c55 := by kernel_rfl
theorem n55 : Tryd.f55.ntmps = M55.N := by kernel_rfl
set_option maxRecDepth 100000 in
theorem u55 {p0_q : Option Addr} {p1_id : Int} {w : World} {R : Ending → World → Prop} (h : den Tryd.prog M55 c55 (argE 0 [(Value.pointer p0_q), (Value.int IntKind.i64 p1_id)]) w (retK Tryd.prog Tryd.f55.results.toList R)) : Calls Tryd.prog 55 #[(Value.pointer p0_q), (Value.int IntKind.i64 p1_id)] w R := calls_den okProg Tryd.func55 b55 n55 (Nat.le_of_ble_eq_true rfl) h
theorem t55 (p0_q : Option Addr) (p1_id : Int) (w : World) (R : Ending → World → Prop) : den Tryd.prog M55 c55 (argE 0 [(Value.pointer p0_q), (Value.int IntKind.i64 p1_id)]) w (retK Tryd.prog Tryd.f55.results.toList R) =
(Call Tryd.prog 34 [Value.pointer p0_q, Value.int IntKind.i64 p1_id] w fun e w' =>
  ∃ n b,
    e = Ending.returned (Value.tuple #[Value.int IntKind.i64 n, Value.bool b]) ∧
      ((!b) = true → R (Ending.returned (Value.int IntKind.i64 4)) w') ∧
        ((!b) = false →
          Call Tryd.prog 56 [Value.pointer p0_q, Value.int IntKind.i64 p1_id] w' fun e w' =>
            ∃ n_1,
              e = Ending.returned (Value.int IntKind.i64 n_1) ∧
                ∃ a,
                  p0_q = some a ∧
                    ∃ p n_2 c,
                      World.cell? w' (Addr.add a 1) = some (Value.slice p n_2 c) ∧
                        New w' [Value.int IntKind.i64 n, Value.int IntKind.i64 p1_id] 82 fun p_1 w' =>
                          ∃ p_2 n c_1 w'_1,
                            Sem.run Tryd.prog
                                  (Builtin.append_ #[78, 78] 78
                                    #[Value.slice p n_2 c, Value.slice (some p_1) 1 1])
                                  w' =
                                Result.ok (Value.slice p_2 n c_1) w'_1 ∧
                              ∃ a,
                                p0_q = some a ∧
                                  Wr w'_1 (Addr.add a 1) [Value.slice p_2 n c_1] fun w' =>
                                    R (Ending.returned (Value.int IntKind.i64 0)) w')) := by kernel_rfl
/-! (*davit/davitref09.Queue).Drop -/
def M56 : Mt := { N := 32, keep := [(0, [0, 1]), (1, [0, 5]), (2, [0, 5, 11]), (3, [4]), (4, [0, 5, 6]), (5, [0, 5, 6]), (6, []), (7, [4])], ords := [], bk := [], cuts := [], lk := [] }
noncomputable def c56 : Code := bodyOf Tryd.f56
theorem b56 : Tryd.f56.body = some c56 := by kernel_rfl
theorem n56 : Tryd.f56.ntmps = M56.N := by kernel_rfl
set_option maxRecDepth 100000 in
theorem u56 {p0_q : Option Addr} {p1_id : Int} {w : World} {R : Ending → World → Prop} (h : den Tryd.prog M56 c56 (argE 0 [(Value.pointer p0_q), (Value.int IntKind.i64 p1_id)]) w (retK Tryd.prog Tryd.f56.results.toList R)) : Calls Tryd.prog 56 #[(Value.pointer p0_q), (Value.int IntKind.i64 p1_id)] w R := calls_den okProg Tryd.func56 b56 n56 (Nat.le_of_ble_eq_true rfl) h
theorem t56 (p0_q : Option Addr) (p1_id : Int) (w : World) (R : Ending → World → Prop) : den Tryd.prog M56 c56 (argE 0 [(Value.pointer p0_q), (Value.int IntKind.i64 p1_id)]) w (retK Tryd.prog Tryd.f56.results.toList R) =
(Call Tryd.prog 57 [Value.pointer p0_q, Value.int IntKind.i64 p1_id] w fun e w' =>
  ∃ n,
    e = Ending.returned (Value.int IntKind.i64 n) ∧
      (decide (n < (0 : Int)) = true → R (Ending.returned (Value.int IntKind.i64 4)) w') ∧
        (decide (n < (0 : Int)) = false →
          ∃ a,
            p0_q = some a ∧
              ∃ p n_1 c,
                World.cell? w' (Addr.add a 1) = some (Value.slice p n_1 c) ∧
                  ((0 : Int) ≤ n ∧ n ≤ (↑c : Int)) ∧
                    ∃ p_1 n_2 c_1 w'_1,
                      Sem.run Tryd.prog
                            (Builtin.append_ #[78, 78] 78
                              #[Value.slice none 0 0,
                                Value.slice (subA p c 0 2) (Int.toNat n - 0) (c - 0)])
                            w' =
                          Result.ok (Value.slice p_1 n_2 c_1) w'_1 ∧
                        ∃ a,
                          p0_q = some a ∧
                            ∃ p n_3 c,
                              World.cell? w'_1 (Addr.add a 1) = some (Value.slice p n_3 c) ∧
                                ((0 : Int) ≤ IntKind.wrap IntKind.i64 (n + (1 : Int)) ∧
                                    IntKind.wrap IntKind.i64 (n + (1 : Int)) ≤ (↑n_3 : Int)) ∧
                                  ∃ p_2 n_4 c_2 w',
                                    Sem.run Tryd.prog
                                          (Builtin.append_ #[78, 78] 78
                                            #[Value.slice p_1 n_2 c_1,
                                              Value.slice
                                                (subA p c (Int.toNat (IntKind.wrap IntKind.i64 (n + (1 : Int))))
                                                  2)
                                                (n_3 - Int.toNat (IntKind.wrap IntKind.i64 (n + (1 : Int))))
                                                (c - Int.toNat (IntKind.wrap IntKind.i64 (n + (1 : Int))))])
                                          w'_1 =
                                        Result.ok (Value.slice p_2 n_4 c_2) w' ∧
                                      ∃ a,
                                        p0_q = some a ∧
                                          Wr w' (Addr.add a 1) [Value.slice p_2 n_4 c_2] fun w' =>
                                            R (Ending.returned (Value.int IntKind.i64 0)) w')) := by kernel_rfl
/-! (*davit/davitref09.Queue).find -/
def M57 : Mt := { N := 26, keep := [(0, [0, 1]), (1, [0, 1, 5]), (2, [0, 1, 5, 12]), (3, [0, 1, 5]), (4, [0, 1, 5, 24]), (5, [4]), (6, [4])], ords := [], bk := [(0, []), (1, [0, 1, 5])], cuts := [], lk := [(2, [0, 1, 5])] }
noncomputable def c57 : Code := bodyOf Tryd.f57
noncomputable def c57_0 : Code := c57.sr.sr
noncomputable def c57_1 : Code := c57.sr.sl.sr.sl.sl
def e57_1 (p0_q : Option Addr) (p1_id : Int) (p5_i : Int) : Env := [(0, SV.v (Value.pointer p0_q)), (1, SV.v (Value.int IntKind.i64 p1_id)), (5, SV.v (Value.int IntKind.i64 p5_i))]
def k57_1 (R : Ending → World → Prop) : Cont := blockK 0 [] (seqK (fun E w => cutB (findL M57.cuts (headReg c57_0)) Tryd.prog M57 c57_0 E w (retK Tryd.prog Tryd.f57.results.toList R) fun E => den Tryd.prog M57 c57_0 E w (retK Tryd.prog Tryd.f57.results.toList R)) (retK Tryd.prog Tryd.f57.results.toList R))
theorem b57 : Tryd.f57.body = some c57 := by kernel_rfl
theorem n57 : Tryd.f57.ntmps = M57.N := by kernel_rfl
set_option maxRecDepth 100000 in
theorem u57 {p0_q : Option Addr} {p1_id : Int} {w : World} {R : Ending → World → Prop} (h : den Tryd.prog M57 c57 (argE 0 [(Value.pointer p0_q), (Value.int IntKind.i64 p1_id)]) w (retK Tryd.prog Tryd.f57.results.toList R)) : Calls Tryd.prog 57 #[(Value.pointer p0_q), (Value.int IntKind.i64 p1_id)] w R := calls_den okProg Tryd.func57 b57 n57 (Nat.le_of_ble_eq_true rfl) h
theorem t57 (p0_q : Option Addr) (p1_id : Int) (w : World) (R : Ending → World → Prop) : den Tryd.prog M57 c57 (argE 0 [(Value.pointer p0_q), (Value.int IntKind.i64 p1_id)]) w (retK Tryd.prog Tryd.f57.results.toList R) =
(Cut (WP Tryd.prog 26 (Code.loop c57_1) (e57_1 p0_q p1_id (0 : Int)) w (k57_1 R))) := by kernel_rfl
theorem t57_1 (p0_q : Option Addr) (p1_id : Int) (p5_i : Int) (w : World) (B57_1 : Env → World → Prop) (R : Ending → World → Prop) : den Tryd.prog M57 c57_1 (e57_1 p0_q p1_id p5_i) w (loopK B57_1 (k57_1 R)) =
(∃ a,
  p0_q = some a ∧
    ∃ p n c,
      World.cell? w (Addr.add a 1) = some (Value.slice p n c) ∧
        (decide (p5_i < (↑n : Int)) = true →
            ∃ a,
              p0_q = some a ∧
                ∃ p n c,
                  World.cell? w (Addr.add a 1) = some (Value.slice p n c) ∧
                    ((0 : Int) ≤ p5_i ∧ p5_i < (↑n : Int)) ∧
                      ∃ a,
                        p = some a ∧
                          ∃ n,
                            World.cell? w (Addr.add (Addr.add a (Int.toNat p5_i * 2)) 1) =
                                some (Value.int IntKind.i64 n) ∧
                              ((n == p1_id) = true → R (Ending.returned (Value.int IntKind.i64 p5_i)) w) ∧
                                ((n == p1_id) = false →
                                  B57_1
                                    [(0, SV.v (Value.pointer p0_q)),
                                      (1, SV.v (Value.int IntKind.i64 p1_id)),
                                      (5,
                                        SV.v (Value.int IntKind.i64 (IntKind.wrap IntKind.i64 (p5_i + (1 : Int)))))]
                                    w)) ∧
          (decide (p5_i < (↑n : Int)) = false → R (Ending.returned (Value.int IntKind.i64 (-1 : Int))) w)) := by kernel_rfl
/-! (*davit/prio.Queue).down -/
def M58 : Mt := { N := 4, keep := [(0, [1]), (1, [2])], ords := [], bk := [], cuts := [], lk := [] }
noncomputable def c58 : Code := bodyOf Tryd.f58
theorem b58 : Tryd.f58.body = some c58 := by kernel_rfl
theorem n58 : Tryd.f58.ntmps = M58.N := by kernel_rfl
set_option maxRecDepth 100000 in
theorem u58 {p0_q : Option Addr} {w : World} {R : Ending → World → Prop} (h : den Tryd.prog M58 c58 (argE 0 [(Value.pointer p0_q)]) w (retK Tryd.prog Tryd.f58.results.toList R)) : Calls Tryd.prog 58 #[(Value.pointer p0_q)] w R := calls_den okProg Tryd.func58 b58 n58 (Nat.le_of_ble_eq_true rfl) h
theorem t58 (p0_q : Option Addr) (w : World) (R : Ending → World → Prop) : den Tryd.prog M58 c58 (argE 0 [(Value.pointer p0_q)]) w (retK Tryd.prog Tryd.f58.results.toList R) =
(New w [Value.pointer p0_q] 55 fun p w' =>
  R (Ending.returned (Value.func (Fn.func 69) #[] #[Value.pointer (some p)])) w') := by kernel_rfl
/-! (*davit/fifo.Queue).List -/
def M59 : Mt := { N := 39, keep := [(0, [0]), (1, [0, 13]), (2, [2]), (3, [0, 3]), (4, [0, 3, 4]), (5, [3]), (6, [2])], ords := [(4, [0, 1, 2, 3, 4, 5, 6, 7, 8, 9, 10, 11]), (5, [0, 1, 2, 3, 4, 5, 6, 7])], bk := [], cuts := [], lk := [] }
noncomputable def c59 : Code := bodyOf Tryd.f59
theorem b59 : Tryd.f59.body = some c59 := by kernel_rfl
theorem n59 : Tryd.f59.ntmps = M59.N := by kernel_rfl
set_option maxRecDepth 100000 in
theorem u59 {p0_q : Option Addr} {w : World} {R : Ending → World → Prop} (h : den Tryd.prog M59 c59 (argE 0 [(Value.pointer p0_q)]) w (retK Tryd.prog Tryd.f59.results.toList R)) : Calls Tryd.prog 59 #[(Value.pointer p0_q)] w R := calls_den okProg Tryd.func59 b59 n59 (Nat.le_of_ble_eq_true rfl) h
theorem t59 (p0_q : Option Addr) (w : World) (R : Ending → World → Prop) : den Tryd.prog M59 c59 (argE 0 [(Value.pointer p0_q)]) w (retK Tryd.prog Tryd.f59.results.toList R) =
((Option.isNone p0_q = false →
    ∃ a,
      p0_q = some a ∧
        ∃ n,
          World.cell? w (Addr.add a 2) = some (Value.int IntKind.i64 n) ∧
            ((n == (0 : Int)) = true → R (Ending.returned (Value.slice none 0 0)) w) ∧
              ((n == (0 : Int)) = false →
                ∃ a,
                  p0_q = some a ∧
                    ∃ n,
                      World.cell? w (Addr.add a 2) = some (Value.int IntKind.i64 n) ∧
                        ∃ p n_1 c w',
                          Sem.run Tryd.prog
                                (Instr.makeSlice 39 (Value.int IntKind.i64 n) (Value.int IntKind.i64 n)) w =
                              Result.ok (Value.slice p n_1 c) w' ∧
                            ∀ (w'_1 : World),
                              World.heap w'_1 = World.heap w' →
                                World.os w'_1 = World.os w' →
                                  World.tape w'_1 = World.tape w' →
                                    World.output w'_1 = World.output w' →
                                      ∃ a,
                                        p0_q = some a ∧
                                          ∃ p_1 n c_1,
                                            World.cell? w'_1 (Addr.add a 0) = some (Value.slice p_1 n c_1) ∧
                                              ∃ a,
                                                p0_q = some a ∧
                                                  ∃ n_2,
                                                    World.cell? w'_1 (Addr.add a 1) =
                                                        some (Value.int IntKind.i64 n_2) ∧
                                                      ((0 : Int) ≤ n_2 ∧ n_2 ≤ (↑n : Int)) ∧
                                                        ∃ n_3 w',
                                                          Sem.run Tryd.prog
                                                                (Builtin.copy_ #[39, 39] 3
                                                                  #[Value.slice p n_1 c,
                                                                    Value.slice (subA p_1 c_1 (Int.toNat n_2) 1)
                                                                      (n - Int.toNat n_2) (c_1 - Int.toNat n_2)])
                                                                w'_1 =
                                                              Result.ok (Value.int IntKind.i64 n_3) w' ∧
                                                            ∀ (w'_2 : World),
                                                              World.heap w'_2 = World.heap w' →
                                                                World.os w'_2 = World.os w' →
                                                                  World.tape w'_2 = World.tape w' →
                                                                    World.output w'_2 = World.output w' →
                                                                      ((0 : Int) ≤ n_3 ∧ n_3 ≤ (↑n_1 : Int)) ∧
                                                                        ∃ a,
                                                                          p0_q = some a ∧
                                                                            ∃ p_2 n c_2,
                                                                              World.cell? w'_2 (Addr.add a 0) =
                                                                                  some (Value.slice p_2 n c_2) ∧
                                                                                ∃ n_4 w',
                                                                                  Sem.run Tryd.prog
                                                                                        (Builtin.copy_
                                                                                          #[39, 39]
                                                                                          3
                                                                                          #[Value.slice
                                                                                              (subA p c (Int.toNat n_3)
                                                                                                1)
                                                                                              (n_1 - Int.toNat n_3)
                                                                                              (c - Int.toNat n_3),
                                                                                            Value.slice p_2 n c_2])
                                                                                        w'_2 =
                                                                                      Result.ok
                                                                                        (Value.int IntKind.i64 n_4) w' ∧
                                                                                    R
                                                                                      (Ending.returned
                                                                                        (Value.slice p n_1 c))
                                                                                      w')) ∧
  (Option.isNone p0_q = true → R (Ending.returned (Value.slice none 0 0)) w)) := by kernel_rfl
/-! (davit/mask.Mask).And -/
def M60 : Mt := { N := 8, keep := [(0, [0, 1]), (1, [4])], ords := [], bk := [], cuts := [], lk := [] }
noncomputable def c60 : Code := bodyOf Tryd.f60
theorem b60 : Tryd.f60.body = some c60 := by kernel_rfl
theorem n60 : Tryd.f60.ntmps = M60.N := by kernel_rfl
set_option maxRecDepth 100000 in
theorem u60 {p0_m : Int} {p1_o : Int} {w : World} {R : Ending → World → Prop} (h : den Tryd.prog M60 c60 (argE 0 [(Value.int IntKind.u64 p0_m), (Value.int IntKind.u64 p1_o)]) w (retK Tryd.prog Tryd.f60.results.toList R)) : Calls Tryd.prog 60 #[(Value.int IntKind.u64 p0_m), (Value.int IntKind.u64 p1_o)] w R := calls_den okProg Tryd.func60 b60 n60 (Nat.le_of_ble_eq_true rfl) h
theorem t60 (p0_m : Int) (p1_o : Int) (w : World) (R : Ending → World → Prop) : den Tryd.prog M60 c60 (argE 0 [(Value.int IntKind.u64 p0_m), (Value.int IntKind.u64 p1_o)]) w (retK Tryd.prog Tryd.f60.results.toList R) =
(R (Ending.returned (Value.int IntKind.u64 (bitsOp BinOp.and IntKind.u64 p0_m p1_o))) w) := by kernel_rfl
/-! davit/mask.Upto -/
def M61 : Mt := { N := 12, keep := [(0, [0]), (1, [0, 3]), (2, [2]), (3, [0, 6]), (4, [2]), (5, [2])], ords := [], bk := [(0, [0])], cuts := [], lk := [] }
noncomputable def c61 : Code := bodyOf Tryd.f61
theorem b61 : Tryd.f61.body = some c61 := by kernel_rfl
theorem n61 : Tryd.f61.ntmps = M61.N := by kernel_rfl
set_option maxRecDepth 100000 in
theorem u61 {p0_n : Int} {w : World} {R : Ending → World → Prop} (h : den Tryd.prog M61 c61 (argE 0 [(Value.int IntKind.i64 p0_n)]) w (retK Tryd.prog Tryd.f61.results.toList R)) : Calls Tryd.prog 61 #[(Value.int IntKind.i64 p0_n)] w R := calls_den okProg Tryd.func61 b61 n61 (Nat.le_of_ble_eq_true rfl) h
theorem t61 (p0_n : Int) (w : World) (R : Ending → World → Prop) : den Tryd.prog M61 c61 (argE 0 [(Value.int IntKind.i64 p0_n)]) w (retK Tryd.prog Tryd.f61.results.toList R) =
((decide (p0_n ≤ (0 : Int)) = true → R (Ending.returned (Value.int IntKind.u64 0)) w) ∧
  (decide (p0_n ≤ (0 : Int)) = false →
    (decide (p0_n ≥ (64 : Int)) = true →
        R (Ending.returned (Value.int IntKind.u64 18446744073709551615)) w) ∧
      (decide (p0_n ≥ (64 : Int)) = false →
        Call Tryd.prog 70 [Value.int IntKind.i64 p0_n] w fun e w' =>
          ∃ n,
            e = Ending.returned (Value.int IntKind.u64 n) ∧
              R (Ending.returned (Value.int IntKind.u64 (IntKind.wrap IntKind.u64 (n - (1 : Int))))) w'))) := by kernel_rfl
/-! (davit/mask.Mask).List -/
def M62 : Mt := { N := 16, keep := [(0, [0]), (1, [0, 3]), (2, [0, 3, 5]), (3, [0, 3]), (4, [0, 3]), (5, [2])], ords := [], bk := [(0, [3]), (1, [0, 3])], cuts := [], lk := [(2, [0, 3])] }
noncomputable def c62 : Code := bodyOf Tryd.f62
noncomputable def c62_0 : Code := c62.sr.sr.sr
noncomputable def c62_1 : Code := c62.sr.sr.sl.sl.sl
def e62_1 (p0_m : Int) (p3_l_a : Option Addr) (p3_l_n : Nat) (p3_l_c : Nat) : Env := [(0, SV.v (Value.int IntKind.u64 p0_m)), (3, SV.v (Value.slice p3_l_a p3_l_n p3_l_c))]
def k62_1 (R : Ending → World → Prop) : Cont := blockK 0 [3] (seqK (fun E w => cutB (findL M62.cuts (headReg c62_0)) Tryd.prog M62 c62_0 E w (retK Tryd.prog Tryd.f62.results.toList R) fun E => den Tryd.prog M62 c62_0 E w (retK Tryd.prog Tryd.f62.results.toList R)) (retK Tryd.prog Tryd.f62.results.toList R))
theorem b62 : Tryd.f62.body = some c62 := by kernel_rfl
theorem n62 : Tryd.f62.ntmps = M62.N := by kernel_rfl
set_option maxRecDepth 100000 in
theorem u62 {p0_m : Int} {w : World} {R : Ending → World → Prop} (h : den Tryd.prog M62 c62 (argE 0 [(Value.int IntKind.u64 p0_m)]) w (retK Tryd.prog Tryd.f62.results.toList R)) : Calls Tryd.prog 62 #[(Value.int IntKind.u64 p0_m)] w R := calls_den okProg Tryd.func62 b62 n62 (Nat.le_of_ble_eq_true rfl) h
theorem t62 (p0_m : Int) (w : World) (R : Ending → World → Prop) : den Tryd.prog M62 c62 (argE 0 [(Value.int IntKind.u64 p0_m)]) w (retK Tryd.prog Tryd.f62.results.toList R) =
(Cut (WP Tryd.prog 16 (Code.loop c62_1) (e62_1 p0_m none 0 0) w (k62_1 R))) := by kernel_rfl
theorem t62_1 (p0_m : Int) (p3_l_a : Option Addr) (p3_l_n : Nat) (p3_l_c : Nat) (w : World) (B62_1 : Env → World → Prop) (R : Ending → World → Prop) : den Tryd.prog M62 c62_1 (e62_1 p0_m p3_l_a p3_l_n p3_l_c) w (loopK B62_1 (k62_1 R)) =
(((p0_m != (0 : Int)) = true →
    Call Tryd.prog 71 [Value.int IntKind.u64 p0_m] w fun e w' =>
      ∃ n,
        e = Ending.returned (Value.int IntKind.i64 n) ∧
          New w' [Value.int IntKind.i64 n] 3 fun p w' =>
            ∃ p_1 n c w'_1,
              Sem.run Tryd.prog
                    (Builtin.append_ #[39, 39] 39
                      #[Value.slice p3_l_a p3_l_n p3_l_c, Value.slice (some p) 1 1])
                    w' =
                  Result.ok (Value.slice p_1 n c) w'_1 ∧
                B62_1
                  [(0,
                      SV.v
                        (Value.int IntKind.u64
                          (bitsOp BinOp.and IntKind.u64 p0_m (IntKind.wrap IntKind.u64 (p0_m - (1 : Int)))))),
                    (3, SV.v (Value.slice p_1 n c))]
                  w'_1) ∧
  ((p0_m != (0 : Int)) = false → R (Ending.returned (Value.slice p3_l_a p3_l_n p3_l_c)) w)) := by kernel_rfl
/-! davit/davitref01.Has -/
def M63 : Mt := { N := 17, keep := [(0, [0, 1]), (1, [0, 1, 10]), (2, [4]), (3, [4])], ords := [], bk := [], cuts := [], lk := [] }
noncomputable def c63 : Code := bodyOf Tryd.f63
theorem b63 : Tryd.f63.body = some c63 := by kernel_rfl
theorem n63 : Tryd.f63.ntmps = M63.N := by kernel_rfl
set_option maxRecDepth 100000 in
theorem u63 {p0_m : Int} {p1_cpu : Int} {w : World} {R : Ending → World → Prop} (h : den Tryd.prog M63 c63 (argE 0 [(Value.int IntKind.u64 p0_m), (Value.int IntKind.i64 p1_cpu)]) w (retK Tryd.prog Tryd.f63.results.toList R)) : Calls Tryd.prog 63 #[(Value.int IntKind.u64 p0_m), (Value.int IntKind.i64 p1_cpu)] w R := calls_den okProg Tryd.func63 b63 n63 (Nat.le_of_ble_eq_true rfl) h
theorem t63 (p0_m : Int) (p1_cpu : Int) (w : World) (R : Ending → World → Prop) : den Tryd.prog M63 c63 (argE 0 [(Value.int IntKind.u64 p0_m), (Value.int IntKind.i64 p1_cpu)]) w (retK Tryd.prog Tryd.f63.results.toList R) =
((decide (p1_cpu < (0 : Int)) = false →
    (decide (p1_cpu > (63 : Int)) = true → R (Ending.returned (Value.bool false)) w) ∧
      (decide (p1_cpu > (63 : Int)) = false →
        (0 : Int) ≤ IntKind.wrap IntKind.u64 p1_cpu ∧
          (2 : Int) ≠ (0 : Int) ∧
            R
              (Ending.returned
                (Value.bool
                  (Int.tmod (shrOp IntKind.u64 p0_m (IntKind.wrap IntKind.u64 p1_cpu)) (2 : Int) == (1 : Int))))
              w)) ∧
  (decide (p1_cpu < (0 : Int)) = true → R (Ending.returned (Value.bool false)) w)) := by kernel_rfl
/-! (*davit/fifo.Queue).Front -/
def M65 : Mt := { N := 23, keep := [(0, [0]), (1, [0, 4]), (2, [2, 3]), (3, [0, 7]), (4, [2, 3]), (5, [2, 3])], ords := [(5, [0, 1, 2, 3, 4, 5, 6, 7, 8, 9, 10, 11])], bk := [(0, [0])], cuts := [], lk := [] }
noncomputable def c65 : Code := bodyOf Tryd.f65
theorem b65 : Tryd.f65.body = some c65 := by kernel_rfl
theorem n65 : Tryd.f65.ntmps = M65.N := by kernel_rfl
set_option maxRecDepth 100000 in
theorem u65 {p0_q : Option Addr} {w : World} {R : Ending → World → Prop} (h : den Tryd.prog M65 c65 (argE 0 [(Value.pointer p0_q)]) w (retK Tryd.prog Tryd.f65.results.toList R)) : Calls Tryd.prog 65 #[(Value.pointer p0_q)] w R := calls_den okProg Tryd.func65 b65 n65 (Nat.le_of_ble_eq_true rfl) h
theorem t65 (p0_q : Option Addr) (w : World) (R : Ending → World → Prop) : den Tryd.prog M65 c65 (argE 0 [(Value.pointer p0_q)]) w (retK Tryd.prog Tryd.f65.results.toList R) =
((Option.isNone p0_q = true →
    R (Ending.returned (Value.tuple #[Value.int IntKind.i64 0, Value.int IntKind.i64 1])) w) ∧
  (Option.isNone p0_q = false →
    ∃ a,
      p0_q = some a ∧
        ∃ n,
          World.cell? w (Addr.add a 2) = some (Value.int IntKind.i64 n) ∧
            ((n == (0 : Int)) = true →
                R (Ending.returned (Value.tuple #[Value.int IntKind.i64 0, Value.int IntKind.i64 12]))
                  w) ∧
              ((n == (0 : Int)) = false →
                ∀ (w' : World),
                  World.heap w' = World.heap w →
                    World.os w' = World.os w →
                      World.tape w' = World.tape w →
                        World.output w' = World.output w →
                          ∃ a,
                            p0_q = some a ∧
                              ∃ p n c,
                                World.cell? w' (Addr.add a 0) = some (Value.slice p n c) ∧
                                  ∃ a,
                                    p0_q = some a ∧
                                      ∃ n_1,
                                        World.cell? w' (Addr.add a 1) = some (Value.int IntKind.i64 n_1) ∧
                                          ((0 : Int) ≤ n_1 ∧ n_1 < (↑n : Int)) ∧
                                            ∃ a,
                                              p = some a ∧
                                                ∃ n,
                                                  World.cell? w' (Addr.add a (Int.toNat n_1 * 1)) =
                                                      some (Value.int IntKind.i64 n) ∧
                                                    R
                                                      (Ending.returned
                                                        (Value.tuple
                                                          #[Value.int IntKind.i64 n, Value.int IntKind.i64 0]))
                                                      w'))) := by kernel_rfl
/-! (*davit/fifo.Queue).Turn -/
def M66 : Mt := { N := 16, keep := [(0, [0]), (1, [0, 3, 4]), (2, [0, 3, 4, 11]), (3, [2]), (4, [2])], ords := [], bk := [], cuts := [], lk := [] }
noncomputable def c66 : Code := bodyOf Tryd.f66
theorem b66 : Tryd.f66.body = some c66 := by kernel_rfl
theorem n66 : Tryd.f66.ntmps = M66.N := by kernel_rfl
set_option maxRecDepth 100000 in
theorem u66 {p0_q : Option Addr} {w : World} {R : Ending → World → Prop} (h : den Tryd.prog M66 c66 (argE 0 [(Value.pointer p0_q)]) w (retK Tryd.prog Tryd.f66.results.toList R)) : Calls Tryd.prog 66 #[(Value.pointer p0_q)] w R := calls_den okProg Tryd.func66 b66 n66 (Nat.le_of_ble_eq_true rfl) h
theorem t66 (p0_q : Option Addr) (w : World) (R : Ending → World → Prop) : den Tryd.prog M66 c66 (argE 0 [(Value.pointer p0_q)]) w (retK Tryd.prog Tryd.f66.results.toList R) =
(Call Tryd.prog 73 [Value.pointer p0_q] w fun e w' =>
  ∃ n n_1,
    e = Ending.returned (Value.tuple #[Value.int IntKind.i64 n, Value.int IntKind.i64 n_1]) ∧
      ((n_1 != (0 : Int)) = true → R (Ending.returned (Value.int IntKind.i64 n_1)) w') ∧
        ((n_1 != (0 : Int)) = false →
          Call Tryd.prog 67 [Value.pointer p0_q, Value.int IntKind.i64 n] w' fun e w' =>
            ∃ n, e = Ending.returned (Value.int IntKind.i64 n) ∧ R (Ending.returned (Value.int IntKind.i64 n)) w')) := by kernel_rfl
/-! (*davit/fifo.Queue).Push -/
def M67 : Mt := { N := 42, keep := [(0, [0, 1]), (1, [0, 1, 5]), (2, [4]), (3, [0, 1, 8]), (4, [4]), (5, [0, 1, 12]), (6, [4]), (7, [0]), (8, []), (9, [4])], ords := [(5, [0, 1, 2, 3, 4, 5, 6, 7, 8, 9, 10]), (7, [0, 1, 2, 3, 4, 5, 6, 7, 8, 10, 9, 11, 12])], bk := [(0, [0, 1])], cuts := [], lk := [] }
noncomputable def c67 : Code := bodyOf Tryd.f67
theorem b67 : Tryd.f67.body = some c67 := by kernel_rfl
theorem n67 : Tryd.f67.ntmps = M67.N := by kernel_rfl
set_option maxRecDepth 100000 in
theorem u67 {p0_q : Option Addr} {p1_n : Int} {w : World} {R : Ending → World → Prop} (h : den Tryd.prog M67 c67 (argE 0 [(Value.pointer p0_q), (Value.int IntKind.i64 p1_n)]) w (retK Tryd.prog Tryd.f67.results.toList R)) : Calls Tryd.prog 67 #[(Value.pointer p0_q), (Value.int IntKind.i64 p1_n)] w R := calls_den okProg Tryd.func67 b67 n67 (Nat.le_of_ble_eq_true rfl) h
theorem t67 (p0_q : Option Addr) (p1_n : Int) (w : World) (R : Ending → World → Prop) : den Tryd.prog M67 c67 (argE 0 [(Value.pointer p0_q), (Value.int IntKind.i64 p1_n)]) w (retK Tryd.prog Tryd.f67.results.toList R) =
((Option.isNone p0_q = true → R (Ending.returned (Value.int IntKind.i64 1)) w) ∧
  (Option.isNone p0_q = false →
    Call Tryd.prog 74 [Value.pointer p0_q, Value.int IntKind.i64 p1_n] w fun e w' =>
      ∃ b,
        e = Ending.returned (Value.bool b) ∧
          (b = true → R (Ending.returned (Value.int IntKind.i64 6)) w') ∧
            (b = false →
              ∀ (w'_1 : World),
                World.heap w'_1 = World.heap w' →
                  World.os w'_1 = World.os w' →
                    World.tape w'_1 = World.tape w' →
                      World.output w'_1 = World.output w' →
                        ∃ a,
                          p0_q = some a ∧
                            ∃ n,
                              World.cell? w'_1 (Addr.add a 2) = some (Value.int IntKind.i64 n) ∧
                                ∃ a,
                                  p0_q = some a ∧
                                    ∃ p n_1 c,
                                      World.cell? w'_1 (Addr.add a 0) = some (Value.slice p n_1 c) ∧
                                        ((n == (↑n_1 : Int)) = true →
                                            R (Ending.returned (Value.int IntKind.i64 5)) w'_1) ∧
                                          ((n == (↑n_1 : Int)) = false →
                                            ∀ (w' : World),
                                              World.heap w' = World.heap w'_1 →
                                                World.os w' = World.os w'_1 →
                                                  World.tape w' = World.tape w'_1 →
                                                    World.output w' = World.output w'_1 →
                                                      ∃ a,
                                                        p0_q = some a ∧
                                                          ∃ p n c,
                                                            World.cell? w' (Addr.add a 0) =
                                                                some (Value.slice p n c) ∧
                                                              ∃ a_1,
                                                                p0_q = some a_1 ∧
                                                                  ∃ n_2,
                                                                    World.cell? w' (Addr.add a_1 2) =
                                                                        some (Value.int IntKind.i64 n_2) ∧
                                                                      Call Tryd.prog 75
                                                                        [Value.pointer p0_q, Value.int IntKind.i64 n_2]
                                                                        w' fun e w' =>
                                                                        ∃ n_3,
                                                                          e =
                                                                              Ending.returned
                                                                                (Value.int IntKind.i64 n_3) ∧
                                                                            World.cell? w' (Addr.add a 0) =
                                                                                some (Value.slice p n c) ∧
                                                                              ((0 : Int) ≤ n_3 ∧ n_3 < (↑n : Int)) ∧
                                                                                ∃ a,
                                                                                  p = some a ∧
                                                                                    Wr w'
                                                                                      (Addr.add a
                                                                                        (Int.toNat n_3 * 1))
                                                                                      [Value.int IntKind.i64 p1_n]
                                                                                      fun w' =>
                                                                                      ∃ a,
                                                                                        p0_q = some a ∧
                                                                                          ∃ n,
                                                                                            World.cell? w'
                                                                                                  (Addr.add a
                                                                                                    2) =
                                                                                                some
                                                                                                  (Value.int IntKind.i64
                                                                                                    n) ∧
                                                                                              ∃ a,
                                                                                                p0_q = some a ∧
                                                                                                  Wr w'
                                                                                                    (Addr.add a
                                                                                                      2)
                                                                                                    [Value.int
                                                                                                        IntKind.i64
                                                                                                        (IntKind.wrap
                                                                                                          IntKind.i64
                                                                                                          (n +
                                                                                                            (1 : Int)))]
                                                                                                    fun w' =>
                                                                                                    R
                                                                                                      (Ending.returned
                                                                                                        (Value.int
                                                                                                          IntKind.i64
                                                                                                          (0 : Int)))
                                                                                                      w')))) := by kernel_rfl
/-! (*davit/fifo.Queue).Drop -/
def M68 : Mt := { N := 45, keep := [(0, [0, 1]), (1, [0, 1, 9]), (2, [4]), (3, [0, 1, 5]), (4, [0, 5, 6]), (5, [0, 5, 6, 16]), (6, [4]), (7, [0, 5, 7]), (8, [0, 5, 7, 22]), (9, [0, 5, 7]), (10, [0, 5, 7]), (11, []), (12, [4])], ords := [(10, [0, 1, 2, 3, 4, 5, 7, 8, 9, 10, 11, 6, 12, 13])], bk := [(0, [0]), (1, [0, 5, 7])], cuts := [], lk := [(8, [0, 5, 7])] }
noncomputable def c68 : Code := bodyOf Tryd.f68
noncomputable def c68_0 : Code := c68.sr.sr.sr.sr.sr.sr
noncomputable def c68_1 : Code := c68.sr.sr.sr.sr.sr.sl.sr.sl.sl
def e68_1 (p0_q : Option Addr) (p5_l_a : Option Addr) (p5_l_n : Nat) (p5_l_c : Nat) (p7_i : Int) : Env := [(0, SV.v (Value.pointer p0_q)), (5, SV.v (Value.slice p5_l_a p5_l_n p5_l_c)), (7, SV.v (Value.int IntKind.i64 p7_i))]
def k68_1 (R : Ending → World → Prop) : Cont := blockK 0 [0] (seqK (fun E w => cutB (findL M68.cuts (headReg c68_0)) Tryd.prog M68 c68_0 E w (retK Tryd.prog Tryd.f68.results.toList R) fun E => den Tryd.prog M68 c68_0 E w (retK Tryd.prog Tryd.f68.results.toList R)) (retK Tryd.prog Tryd.f68.results.toList R))
theorem b68 : Tryd.f68.body = some c68 := by kernel_rfl
theorem n68 : Tryd.f68.ntmps = M68.N := by kernel_rfl
set_option maxRecDepth 100000 in
theorem u68 {p0_q : Option Addr} {p1_n : Int} {w : World} {R : Ending → World → Prop} (h : den Tryd.prog M68 c68 (argE 0 [(Value.pointer p0_q), (Value.int IntKind.i64 p1_n)]) w (retK Tryd.prog Tryd.f68.results.toList R)) : Calls Tryd.prog 68 #[(Value.pointer p0_q), (Value.int IntKind.i64 p1_n)] w R := calls_den okProg Tryd.func68 b68 n68 (Nat.le_of_ble_eq_true rfl) h
theorem t68 (p0_q : Option Addr) (p1_n : Int) (w : World) (R : Ending → World → Prop) : den Tryd.prog M68 c68 (argE 0 [(Value.pointer p0_q), (Value.int IntKind.i64 p1_n)]) w (retK Tryd.prog Tryd.f68.results.toList R) =
((Option.isNone p0_q = true → R (Ending.returned (Value.int IntKind.i64 1)) w) ∧
  (Option.isNone p0_q = false →
    Call Tryd.prog 59 [Value.pointer p0_q] w fun e w' =>
      ∃ p n c,
        e = Ending.returned (Value.slice p n c) ∧
          Call Tryd.prog 76 [Value.slice p n c, Value.int IntKind.i64 p1_n] w' fun e w' =>
            ∃ n_1,
              e = Ending.returned (Value.int IntKind.i64 n_1) ∧
                (decide (n_1 < (0 : Int)) = true → R (Ending.returned (Value.int IntKind.i64 4)) w') ∧
                  (decide (n_1 < (0 : Int)) = false →
                    Cut (WP Tryd.prog 45 (Code.loop c68_1) (e68_1 p0_q p n c n_1) w' (k68_1 R))))) := by kernel_rfl
theorem t68_1 (p0_q : Option Addr) (p5_l_a : Option Addr) (p5_l_n : Nat) (p5_l_c : Nat) (p7_i : Int) (w : World) (B68_1 : Env → World → Prop) (R : Ending → World → Prop) : den Tryd.prog M68 c68_1 (e68_1 p0_q p5_l_a p5_l_n p5_l_c p7_i) w (loopK B68_1 (k68_1 R)) =
((decide (IntKind.wrap IntKind.i64 (p7_i + (1 : Int)) < (↑p5_l_n : Int)) = true →
    ∀ (w' : World),
      World.heap w' = World.heap w →
        World.os w' = World.os w →
          World.tape w' = World.tape w →
            World.output w' = World.output w →
              ∃ a,
                p0_q = some a ∧
                  ∃ p n c,
                    World.cell? w' (Addr.add a 0) = some (Value.slice p n c) ∧
                      ((0 : Int) ≤ IntKind.wrap IntKind.i64 (p7_i + (1 : Int)) ∧
                          IntKind.wrap IntKind.i64 (p7_i + (1 : Int)) < (↑p5_l_n : Int)) ∧
                        ∃ a_1,
                          p5_l_a = some a_1 ∧
                            ∃ n_1,
                              World.cell? w'
                                    (Addr.add a_1
                                      (Int.toNat (IntKind.wrap IntKind.i64 (p7_i + (1 : Int))) * 1)) =
                                  some (Value.int IntKind.i64 n_1) ∧
                                Call Tryd.prog 75 [Value.pointer p0_q, Value.int IntKind.i64 p7_i] w'
                                  fun e w' =>
                                  ∃ n_2,
                                    e = Ending.returned (Value.int IntKind.i64 n_2) ∧
                                      World.cell? w'
                                            (Addr.add a_1
                                              (Int.toNat (IntKind.wrap IntKind.i64 (p7_i + (1 : Int))) * 1)) =
                                          some (Value.int IntKind.i64 n_1) ∧
                                        World.cell? w' (Addr.add a 0) = some (Value.slice p n c) ∧
                                          ((0 : Int) ≤ n_2 ∧ n_2 < (↑n : Int)) ∧
                                            ∃ a,
                                              p = some a ∧
                                                Wr w' (Addr.add a (Int.toNat n_2 * 1))
                                                  [Value.int IntKind.i64 n_1] fun w' =>
                                                  B68_1
                                                    [(0, SV.v (Value.pointer p0_q)),
                                                      (5, SV.v (Value.slice p5_l_a p5_l_n p5_l_c)),
                                                      (7,
                                                        SV.v
                                                          (Value.int IntKind.i64
                                                            (IntKind.wrap IntKind.i64 (p7_i + (1 : Int)))))]
                                                    w') ∧
  (decide (IntKind.wrap IntKind.i64 (p7_i + (1 : Int)) < (↑p5_l_n : Int)) = false →
    ∃ a,
      p0_q = some a ∧
        ∃ n,
          World.cell? w (Addr.add a 2) = some (Value.int IntKind.i64 n) ∧
            ∃ a,
              p0_q = some a ∧
                Wr w (Addr.add a 2) [Value.int IntKind.i64 (IntKind.wrap IntKind.i64 (n - (1 : Int)))]
                  fun w' => R (Ending.returned (Value.int IntKind.i64 0)) w')) := by kernel_rfl
/-! davit/mask.one -/
def M70 : Mt := { N := 11, keep := [(0, [0]), (1, [0, 8]), (2, [2]), (3, [2])], ords := [], bk := [], cuts := [], lk := [] }
noncomputable def c70 : Code := bodyOf Tryd.f70
theorem b70 : Tryd.f70.body = some c70 := by kernel_rfl
theorem n70 : Tryd.f70.ntmps = M70.N := by kernel_rfl
set_option maxRecDepth 100000 in
theorem u70 {p0_cpu : Int} {w : World} {R : Ending → World → Prop} (h : den Tryd.prog M70 c70 (argE 0 [(Value.int IntKind.i64 p0_cpu)]) w (retK Tryd.prog Tryd.f70.results.toList R)) : Calls Tryd.prog 70 #[(Value.int IntKind.i64 p0_cpu)] w R := calls_den okProg Tryd.func70 b70 n70 (Nat.le_of_ble_eq_true rfl) h
theorem t70 (p0_cpu : Int) (w : World) (R : Ending → World → Prop) : den Tryd.prog M70 c70 (argE 0 [(Value.int IntKind.i64 p0_cpu)]) w (retK Tryd.prog Tryd.f70.results.toList R) =
((decide (p0_cpu < (0 : Int)) = false →
    (decide (p0_cpu ≥ (64 : Int)) = true → R (Ending.returned (Value.int IntKind.u64 0)) w) ∧
      (decide (p0_cpu ≥ (64 : Int)) = false →
        (0 : Int) ≤ p0_cpu ∧ R (Ending.returned (Value.int IntKind.u64 (shlOp IntKind.u64 (1 : Int) p0_cpu))) w)) ∧
  (decide (p0_cpu < (0 : Int)) = true → R (Ending.returned (Value.int IntKind.u64 0)) w)) := by kernel_rfl
/-! math/bits.TrailingZeros64 -/
def M71 : Mt := { N := 14, keep := [(0, [0]), (1, [0, 4]), (2, [2]), (3, [2])], ords := [], bk := [], cuts := [], lk := [] }
noncomputable def c71 : Code := bodyOf Tryd.f71
theorem b71 : Tryd.f71.body = some c71 := by kernel_rfl
theorem n71 : Tryd.f71.ntmps = M71.N := by kernel_rfl
set_option maxRecDepth 100000 in
theorem u71 {p0_x : Int} {w : World} {R : Ending → World → Prop} (h : den Tryd.prog M71 c71 (argE 0 [(Value.int IntKind.u64 p0_x)]) w (retK Tryd.prog Tryd.f71.results.toList R)) : Calls Tryd.prog 71 #[(Value.int IntKind.u64 p0_x)] w R := calls_den okProg Tryd.func71 b71 n71 (Nat.le_of_ble_eq_true rfl) h
set_option maxRecDepth 100000 in
theorem t71 (p0_x : Int) (w : World) (R : Ending → World → Prop) : den Tryd.prog M71 c71 (argE 0 [(Value.int IntKind.u64 p0_x)]) w (retK Tryd.prog Tryd.f71.results.toList R) =
(((p0_x == (0 : Int)) = true → R (Ending.returned (Value.int IntKind.i64 64)) w) ∧
  ((p0_x == (0 : Int)) = false → (0 : Int) ≤ (58 : Int) ∧ ((0 : Int) ≤ shrOp IntKind.u64 (IntKind.wrap IntKind.u64 (bitsOp BinOp.and IntKind.u64 p0_x (IntKind.wrap IntKind.u64 (0 - p0_x)) * 285870213051353865)) 58 ∧ shrOp IntKind.u64 (IntKind.wrap IntKind.u64 (bitsOp BinOp.and IntKind.u64 p0_x (IntKind.wrap IntKind.u64 (0 - p0_x)) * 285870213051353865)) 58 < ((64 : Nat) : Int)) ∧
    ∃ n, World.cell? w (Addr.add ⟨0, 0, none⟩ (Int.toNat (shrOp IntKind.u64 (IntKind.wrap IntKind.u64 (bitsOp BinOp.and IntKind.u64 p0_x (IntKind.wrap IntKind.u64 (0 - p0_x)) * 285870213051353865)) 58) * 1)) = some (Value.int IntKind.u8 n) ∧ R (Ending.returned (Value.int IntKind.i64 (IntKind.wrap IntKind.i64 n))) w)) := by kernel_rfl
/-! (*davit/fifo.Queue).Len -/
def M72 : Mt := { N := 9, keep := [(0, [0]), (1, [0, 4]), (2, [2]), (3, [2])], ords := [], bk := [], cuts := [], lk := [] }
noncomputable def c72 : Code := bodyOf Tryd.f72
theorem b72 : Tryd.f72.body = some c72 := by kernel_rfl
theorem n72 : Tryd.f72.ntmps = M72.N := by kernel_rfl
set_option maxRecDepth 100000 in
theorem u72 {p0_q : Option Addr} {w : World} {R : Ending → World → Prop} (h : den Tryd.prog M72 c72 (argE 0 [(Value.pointer p0_q)]) w (retK Tryd.prog Tryd.f72.results.toList R)) : Calls Tryd.prog 72 #[(Value.pointer p0_q)] w R := calls_den okProg Tryd.func72 b72 n72 (Nat.le_of_ble_eq_true rfl) h
theorem t72 (p0_q : Option Addr) (w : World) (R : Ending → World → Prop) : den Tryd.prog M72 c72 (argE 0 [(Value.pointer p0_q)]) w (retK Tryd.prog Tryd.f72.results.toList R) =
((Option.isNone p0_q = true → R (Ending.returned (Value.int IntKind.i64 0)) w) ∧
  (Option.isNone p0_q = false →
    ∃ a,
      p0_q = some a ∧
        ∃ n,
          World.cell? w (Addr.add a 2) = some (Value.int IntKind.i64 n) ∧
            R (Ending.returned (Value.int IntKind.i64 n)) w)) := by kernel_rfl
/-! (*davit/fifo.Queue).Pop -/
def M73 : Mt := { N := 27, keep := [(0, [0]), (1, [0, 4, 5]), (2, [0, 4, 5, 12]), (3, [0, 4, 5]), (4, [4, 5]), (5, [2, 3])], ords := [], bk := [], cuts := [], lk := [] }
noncomputable def c73 : Code := bodyOf Tryd.f73
theorem b73 : Tryd.f73.body = some c73 := by kernel_rfl
theorem n73 : Tryd.f73.ntmps = M73.N := by kernel_rfl
set_option maxRecDepth 100000 in
theorem u73 {p0_q : Option Addr} {w : World} {R : Ending → World → Prop} (h : den Tryd.prog M73 c73 (argE 0 [(Value.pointer p0_q)]) w (retK Tryd.prog Tryd.f73.results.toList R)) : Calls Tryd.prog 73 #[(Value.pointer p0_q)] w R := calls_den okProg Tryd.func73 b73 n73 (Nat.le_of_ble_eq_true rfl) h
theorem t73 (p0_q : Option Addr) (w : World) (R : Ending → World → Prop) : den Tryd.prog M73 c73 (argE 0 [(Value.pointer p0_q)]) w (retK Tryd.prog Tryd.f73.results.toList R) =
(Call Tryd.prog 65 [Value.pointer p0_q] w fun e w' =>
  ∃ n n_1,
    e = Ending.returned (Value.tuple #[Value.int IntKind.i64 n, Value.int IntKind.i64 n_1]) ∧
      ((n_1 == (0 : Int)) = true →
          Call Tryd.prog 75 [Value.pointer p0_q, Value.int IntKind.i64 1] w' fun e w' =>
            ∃ n_2,
              e = Ending.returned (Value.int IntKind.i64 n_2) ∧
                ∃ a,
                  p0_q = some a ∧
                    Wr w' (Addr.add a 1) [Value.int IntKind.i64 n_2] fun w' =>
                      ∃ a,
                        p0_q = some a ∧
                          ∃ n_3,
                            World.cell? w' (Addr.add a 2) = some (Value.int IntKind.i64 n_3) ∧
                              ∃ a,
                                p0_q = some a ∧
                                  Wr w' (Addr.add a 2)
                                    [Value.int IntKind.i64 (IntKind.wrap IntKind.i64 (n_3 - (1 : Int)))] fun w' =>
                                    R
                                      (Ending.returned
                                        (Value.tuple #[Value.int IntKind.i64 n, Value.int IntKind.i64 n_1]))
                                      w') ∧
        ((n_1 == (0 : Int)) = false →
          R (Ending.returned (Value.tuple #[Value.int IntKind.i64 n, Value.int IntKind.i64 n_1])) w')) := by kernel_rfl
/-! (*davit/fifo.Queue).Has -/
def M74 : Mt := { N := 9, keep := [(0, [0, 1]), (1, [4])], ords := [], bk := [], cuts := [], lk := [] }
noncomputable def c74 : Code := bodyOf Tryd.f74
theorem b74 : Tryd.f74.body = some c74 := by kernel_rfl
theorem n74 : Tryd.f74.ntmps = M74.N := by kernel_rfl
set_option maxRecDepth 100000 in
theorem u74 {p0_q : Option Addr} {p1_n : Int} {w : World} {R : Ending → World → Prop} (h : den Tryd.prog M74 c74 (argE 0 [(Value.pointer p0_q), (Value.int IntKind.i64 p1_n)]) w (retK Tryd.prog Tryd.f74.results.toList R)) : Calls Tryd.prog 74 #[(Value.pointer p0_q), (Value.int IntKind.i64 p1_n)] w R := calls_den okProg Tryd.func74 b74 n74 (Nat.le_of_ble_eq_true rfl) h
theorem t74 (p0_q : Option Addr) (p1_n : Int) (w : World) (R : Ending → World → Prop) : den Tryd.prog M74 c74 (argE 0 [(Value.pointer p0_q), (Value.int IntKind.i64 p1_n)]) w (retK Tryd.prog Tryd.f74.results.toList R) =
(Call Tryd.prog 59 [Value.pointer p0_q] w fun e w' =>
  ∃ p n c,
    e = Ending.returned (Value.slice p n c) ∧
      Call Tryd.prog 77 [Value.slice p n c, Value.int IntKind.i64 p1_n] w' fun e w' =>
        ∃ b, e = Ending.returned (Value.bool b) ∧ R (Ending.returned (Value.bool b)) w') := by kernel_rfl
/-! (*davit/fifo.Queue).at -/
def M75 : Mt := { N := 17, keep := [(0, [0, 1]), (1, [4])], ords := [(1, [0, 1, 2, 3, 4, 5, 6, 7, 8, 9, 10, 11, 12])], bk := [], cuts := [], lk := [] }
noncomputable def c75 : Code := bodyOf Tryd.f75
theorem b75 : Tryd.f75.body = some c75 := by kernel_rfl
theorem n75 : Tryd.f75.ntmps = M75.N := by kernel_rfl
set_option maxRecDepth 100000 in
theorem u75 {p0_q : Option Addr} {p1_n : Int} {w : World} {R : Ending → World → Prop} (h : den Tryd.prog M75 c75 (argE 0 [(Value.pointer p0_q), (Value.int IntKind.i64 p1_n)]) w (retK Tryd.prog Tryd.f75.results.toList R)) : Calls Tryd.prog 75 #[(Value.pointer p0_q), (Value.int IntKind.i64 p1_n)] w R := calls_den okProg Tryd.func75 b75 n75 (Nat.le_of_ble_eq_true rfl) h
theorem t75 (p0_q : Option Addr) (p1_n : Int) (w : World) (R : Ending → World → Prop) : den Tryd.prog M75 c75 (argE 0 [(Value.pointer p0_q), (Value.int IntKind.i64 p1_n)]) w (retK Tryd.prog Tryd.f75.results.toList R) =
(∀ (w' : World),
  World.heap w' = World.heap w →
    World.os w' = World.os w →
      World.tape w' = World.tape w →
        World.output w' = World.output w →
          ∃ a,
            p0_q = some a ∧
              ∃ n,
                World.cell? w' (Addr.add a 1) = some (Value.int IntKind.i64 n) ∧
                  ∃ a,
                    p0_q = some a ∧
                      ∃ p n_1 c,
                        World.cell? w' (Addr.add a 0) = some (Value.slice p n_1 c) ∧
                          (↑n_1 : Int) ≠ (0 : Int) ∧
                            R
                              (Ending.returned
                                (Value.int IntKind.i64 (Int.tmod (IntKind.wrap IntKind.i64 (n + p1_n)) (↑n_1 : Int))))
                              w') := by kernel_rfl
/-! slices.Index[[]int,int] -/
def M76 : Mt := { N := 19, keep := [(0, [0, 1]), (1, [0, 1, 7, 8]), (2, [0, 1, 7, 8, 9]), (3, [0, 1, 5, 7, 8]), (4, [0, 1, 5, 7, 8, 16]), (5, [4]), (6, [0, 1, 7, 8]), (7, [4])], ords := [], bk := [(0, []), (1, [0, 1, 7, 8])], cuts := [], lk := [(2, [0, 1, 7, 8])] }
noncomputable def c76 : Code := bodyOf Tryd.f76
noncomputable def c76_0 : Code := c76.sr.sr
noncomputable def c76_1 : Code := c76.sr.sl.sr.sl.sl
def e76_1 (p0_s_a : Option Addr) (p0_s_n : Nat) (p0_s_c : Nat) (p1_v : Int) (p7_t : Int) (p8_t : Int) : Env := [(0, SV.v (Value.slice p0_s_a p0_s_n p0_s_c)), (1, SV.v (Value.int IntKind.i64 p1_v)), (7, SV.v (Value.int IntKind.i64 p7_t)), (8, SV.v (Value.int IntKind.i64 p8_t))]
def k76_1 (R : Ending → World → Prop) : Cont := blockK 0 [] (seqK (fun E w => cutB (findL M76.cuts (headReg c76_0)) Tryd.prog M76 c76_0 E w (retK Tryd.prog Tryd.f76.results.toList R) fun E => den Tryd.prog M76 c76_0 E w (retK Tryd.prog Tryd.f76.results.toList R)) (retK Tryd.prog Tryd.f76.results.toList R))
theorem b76 : Tryd.f76.body = some c76 := by kernel_rfl
theorem n76 : Tryd.f76.ntmps = M76.N := by kernel_rfl
set_option maxRecDepth 100000 in
theorem u76 {p0_s_a : Option Addr} {p0_s_n : Nat} {p0_s_c : Nat} {p1_v : Int} {w : World} {R : Ending → World → Prop} (h : den Tryd.prog M76 c76 (argE 0 [(Value.slice p0_s_a p0_s_n p0_s_c), (Value.int IntKind.i64 p1_v)]) w (retK Tryd.prog Tryd.f76.results.toList R)) : Calls Tryd.prog 76 #[(Value.slice p0_s_a p0_s_n p0_s_c), (Value.int IntKind.i64 p1_v)] w R := calls_den okProg Tryd.func76 b76 n76 (Nat.le_of_ble_eq_true rfl) h
theorem t76 (p0_s_a : Option Addr) (p0_s_n : Nat) (p0_s_c : Nat) (p1_v : Int) (w : World) (R : Ending → World → Prop) : den Tryd.prog M76 c76 (argE 0 [(Value.slice p0_s_a p0_s_n p0_s_c), (Value.int IntKind.i64 p1_v)]) w (retK Tryd.prog Tryd.f76.results.toList R) =
(Cut
  (WP Tryd.prog 19 (Code.loop c76_1) (e76_1 p0_s_a p0_s_n p0_s_c p1_v (↑p0_s_n : Int) (0 : Int)) w
    (k76_1 R))) := by kernel_rfl
theorem t76_1 (p0_s_a : Option Addr) (p0_s_n : Nat) (p0_s_c : Nat) (p1_v : Int) (p7_t : Int) (p8_t : Int) (w : World) (B76_1 : Env → World → Prop) (R : Ending → World → Prop) : den Tryd.prog M76 c76_1 (e76_1 p0_s_a p0_s_n p0_s_c p1_v p7_t p8_t) w (loopK B76_1 (k76_1 R)) =
((decide (p8_t < p7_t) = true →
    ((0 : Int) ≤ p8_t ∧ p8_t < (↑p0_s_n : Int)) ∧
      ∃ a,
        p0_s_a = some a ∧
          ∃ n,
            World.cell? w (Addr.add a (Int.toNat p8_t * 1)) = some (Value.int IntKind.i64 n) ∧
              ((p1_v == n) = true → R (Ending.returned (Value.int IntKind.i64 p8_t)) w) ∧
                ((p1_v == n) = false →
                  B76_1
                    [(0, SV.v (Value.slice p0_s_a p0_s_n p0_s_c)),
                      (1, SV.v (Value.int IntKind.i64 p1_v)), (7, SV.v (Value.int IntKind.i64 p7_t)),
                      (8, SV.v (Value.int IntKind.i64 (IntKind.wrap IntKind.i64 (p8_t + (1 : Int)))))]
                    w)) ∧
  (decide (p8_t < p7_t) = false → R (Ending.returned (Value.int IntKind.i64 (-1 : Int))) w)) := by kernel_rfl
/-! slices.Contains[[]int,int] -/
def M77 : Mt := { N := 9, keep := [(0, [0, 1]), (1, [4])], ords := [], bk := [], cuts := [], lk := [] }
noncomputable def c77 : Code := bodyOf Tryd.f77
theorem b77 : Tryd.f77.body = some c77 := by kernel_rfl
theorem n77 : Tryd.f77.ntmps = M77.N := by kernel_rfl
set_option maxRecDepth 100000 in
theorem u77 {p0_s_a : Option Addr} {p0_s_n : Nat} {p0_s_c : Nat} {p1_v : Int} {w : World} {R : Ending → World → Prop} (h : den Tryd.prog M77 c77 (argE 0 [(Value.slice p0_s_a p0_s_n p0_s_c), (Value.int IntKind.i64 p1_v)]) w (retK Tryd.prog Tryd.f77.results.toList R)) : Calls Tryd.prog 77 #[(Value.slice p0_s_a p0_s_n p0_s_c), (Value.int IntKind.i64 p1_v)] w R := calls_den okProg Tryd.func77 b77 n77 (Nat.le_of_ble_eq_true rfl) h
theorem t77 (p0_s_a : Option Addr) (p0_s_n : Nat) (p0_s_c : Nat) (p1_v : Int) (w : World) (R : Ending → World → Prop) : den Tryd.prog M77 c77 (argE 0 [(Value.slice p0_s_a p0_s_n p0_s_c), (Value.int IntKind.i64 p1_v)]) w (retK Tryd.prog Tryd.f77.results.toList R) =
(Call Tryd.prog 76 [Value.slice p0_s_a p0_s_n p0_s_c, Value.int IntKind.i64 p1_v] w fun e w' =>
  ∃ n, e = Ending.returned (Value.int IntKind.i64 n) ∧ R (Ending.returned (Value.bool (decide (n ≥ (0 : Int))))) w') := by kernel_rfl
end Go.Dav
