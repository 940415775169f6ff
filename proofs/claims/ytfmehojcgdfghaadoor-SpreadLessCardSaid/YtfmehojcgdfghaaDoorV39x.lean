/- What functions of the program come to. -/
import Derived.Test.YtfmehojcgdfghaaDoorPrg39
namespace Go.Dav
open Go.Proofs
namespace Fn2
/-! davit/spread.best -/
def M34 : Mt := { N := 34, keep := [(0, [0, 1, 2]), (1, [0, 1, 2, 7]), (2, [0, 2, 7, 11, 12, 13]), (3, [0, 2, 7, 11, 12, 13, 14]), (4, [0, 2, 7, 9, 11, 12, 13]), (5, [0, 2, 7, 9, 11, 12, 13, 30]), (6, [0, 2, 7, 11, 12, 13]), (7, [0, 2, 7, 11, 12, 13]), (8, [6])], ords := [(5, [0, 1, 2, 3, 4, 5, 6, 7, 8, 9, 10, 11, 12, 13])], bk := [(0, [7]), (1, [0, 2, 7, 11, 12, 13])], cuts := [], lk := [(3, [0, 2, 7, 11, 12, 13])] }
noncomputable def c34 : Code := bodyOf Tryd.f34
noncomputable def c34_0 : Code := c34.sr.sr.sr
noncomputable def c34_1 : Code := c34.sr.sr.sl.sr.sl.sl
def e34_1 (p0_loads_a : Option Addr) (p0_loads_n : Nat) (p0_loads_c : Nat) (p7_at : Int) (p11_t_a : Option Addr) (p11_t_n : Nat) (p11_t_c : Nat) (p12_t : Int) (p13_t : Int) : Env := [(0, SV.v (Value.slice p0_loads_a p0_loads_n p0_loads_c)), (2, SV.v (Value.func (Fn.func 36) #[] #[])), (7, SV.v (Value.int IntKind.i64 p7_at)), (11, SV.v (Value.slice p11_t_a p11_t_n p11_t_c)), (12, SV.v (Value.int IntKind.i64 p12_t)), (13, SV.v (Value.int IntKind.i64 p13_t))]
def k34_1 (R : Ending → World → Prop) : Cont := blockK 0 [7] (seqK (fun E w => cutB (findL M34.cuts (headReg c34_0)) Tryd.prog M34 c34_0 E w (retK Tryd.prog Tryd.f34.results.toList R) fun E => den Tryd.prog M34 c34_0 E w (retK Tryd.prog Tryd.f34.results.toList R)) (retK Tryd.prog Tryd.f34.results.toList R))
theorem b34 : Tryd.f34.body = some c34 := by kernel_rfl
theorem n34 : Tryd.f34.ntmps = M34.N := by kernel_rfl
set_option maxRecDepth 100000 in
theorem u34 {p0_loads_a : Option Addr} {p0_loads_n : Nat} {p0_loads_c : Nat} {p1_of : Int} {w : World} {R : Ending → World → Prop} (h : den Tryd.prog M34 c34 (argE 0 [(Value.slice p0_loads_a p0_loads_n p0_loads_c), (Value.int IntKind.u64 p1_of), (Value.func (Fn.func 36) #[] #[])]) w (retK Tryd.prog Tryd.f34.results.toList R)) : Calls Tryd.prog 34 #[(Value.slice p0_loads_a p0_loads_n p0_loads_c), (Value.int IntKind.u64 p1_of), (Value.func (Fn.func 36) #[] #[])] w R := calls_den okProg Tryd.func34 b34 n34 (Nat.le_of_ble_eq_true rfl) h
theorem t34 (p0_loads_a : Option Addr) (p0_loads_n : Nat) (p0_loads_c : Nat) (p1_of : Int) (w : World) (R : Ending → World → Prop) : den Tryd.prog M34 c34 (argE 0 [(Value.slice p0_loads_a p0_loads_n p0_loads_c), (Value.int IntKind.u64 p1_of), (Value.func (Fn.func 36) #[] #[])]) w (retK Tryd.prog Tryd.f34.results.toList R) =
(Call Tryd.prog 47 [Value.int IntKind.u64 p1_of] w fun e w' =>
  ∃ p n c,
    e = Ending.returned (Value.slice p n c) ∧
      Cut
        (WP Tryd.prog 34 (Code.loop c34_1)
          [(0, SV.v (Value.slice p0_loads_a p0_loads_n p0_loads_c)),
            (2, SV.v (Value.func (Fn.func 36) #[] #[])),
            (7, SV.v (Value.int IntKind.i64 (-1 : Int))), (11, SV.v (Value.slice p n c)),
            (12, SV.v (Value.int IntKind.i64 (↑n : Int))), (13, SV.v (Value.int IntKind.i64 0))]
          w' (k34_1 R))) := by kernel_rfl
theorem t34_1 (p0_loads_a : Option Addr) (p0_loads_n : Nat) (p0_loads_c : Nat) (p7_at : Int) (p11_t_a : Option Addr) (p11_t_n : Nat) (p11_t_c : Nat) (p12_t : Int) (p13_t : Int) (w : World) (B34_1 : Env → World → Prop) (R : Ending → World → Prop) : den Tryd.prog M34 c34_1 (e34_1 p0_loads_a p0_loads_n p0_loads_c p7_at p11_t_a p11_t_n p11_t_c p12_t p13_t) w (loopK B34_1 (k34_1 R)) =
((decide (p13_t < p12_t) = true →
    ((0 : Int) ≤ p13_t ∧ p13_t < (↑p11_t_n : Int)) ∧
      ∃ a,
        p11_t_a = some a ∧
          ∃ n,
            World.cell? w (Addr.add a (Int.toNat p13_t * 1)) = some (Value.int IntKind.i64 n) ∧
              ∀ (w' : World),
                World.heap w' = World.heap w →
                  World.os w' = World.os w →
                    World.tape w' = World.tape w →
                      World.output w' = World.output w →
                        (decide (p7_at < (0 : Int)) = false →
                            ((0 : Int) ≤ n ∧ n < (↑p0_loads_n : Int)) ∧
                              ∃ a,
                                p0_loads_a = some a ∧
                                  ∃ n_1,
                                    World.cell? w' (Addr.add a (Int.toNat n * 1)) =
                                        some (Value.int IntKind.i64 n_1) ∧
                                      ((0 : Int) ≤ p7_at ∧ p7_at < (↑p0_loads_n : Int)) ∧
                                        ∃ a,
                                          p0_loads_a = some a ∧
                                            ∃ n_2,
                                              World.cell? w' (Addr.add a (Int.toNat p7_at * 1)) =
                                                  some (Value.int IntKind.i64 n_2) ∧
                                                Call Tryd.prog 36
                                                  [Value.int IntKind.i64 n_1, Value.int IntKind.i64 n_2] w' fun e w' =>
                                                  ∃ b,
                                                    e = Ending.returned (Value.bool b) ∧
                                                      (b = true →
                                                          B34_1
                                                            [(0,
                                                                SV.v (Value.slice p0_loads_a p0_loads_n p0_loads_c)),
                                                              (2,
                                                                SV.v (Value.func (Fn.func 36) #[] #[])),
                                                              (7, SV.v (Value.int IntKind.i64 n)),
                                                              (11,
                                                                SV.v (Value.slice p11_t_a p11_t_n p11_t_c)),
                                                              (12, SV.v (Value.int IntKind.i64 p12_t)),
                                                              (13,
                                                                SV.v
                                                                  (Value.int IntKind.i64
                                                                    (IntKind.wrap IntKind.i64 (p13_t + (1 : Int)))))]
                                                            w') ∧
                                                        (b = false →
                                                          B34_1
                                                            [(0,
                                                                SV.v (Value.slice p0_loads_a p0_loads_n p0_loads_c)),
                                                              (2,
                                                                SV.v (Value.func (Fn.func 36) #[] #[])),
                                                              (7, SV.v (Value.int IntKind.i64 p7_at)),
                                                              (11,
                                                                SV.v (Value.slice p11_t_a p11_t_n p11_t_c)),
                                                              (12, SV.v (Value.int IntKind.i64 p12_t)),
                                                              (13,
                                                                SV.v
                                                                  (Value.int IntKind.i64
                                                                    (IntKind.wrap IntKind.i64 (p13_t + (1 : Int)))))]
                                                            w')) ∧
                          (decide (p7_at < (0 : Int)) = true →
                            B34_1
                              [(0, SV.v (Value.slice p0_loads_a p0_loads_n p0_loads_c)),
                                (2, SV.v (Value.func (Fn.func 36) #[] #[])),
                                (7, SV.v (Value.int IntKind.i64 n)),
                                (11, SV.v (Value.slice p11_t_a p11_t_n p11_t_c)),
                                (12, SV.v (Value.int IntKind.i64 p12_t)),
                                (13,
                                  SV.v (Value.int IntKind.i64 (IntKind.wrap IntKind.i64 (p13_t + (1 : Int)))))]
                              w')) ∧
  (decide (p13_t < p12_t) = false → R (Ending.returned (Value.int IntKind.i64 p7_at)) w)) := by kernel_rfl
end Fn2
end Go.Dav
