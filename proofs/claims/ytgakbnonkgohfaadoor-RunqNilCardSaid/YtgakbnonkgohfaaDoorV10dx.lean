/- What functions of the program come to. -/
import Derived.Test.YtgakbnonkgohfaaDoorPrg10d
namespace Go.Dav
open Go.Proofs
namespace Fn2
/-! (*davit/runq.Runq).best -/
def M41 : Mt := { N := 46, keep := [(0, [0, 1, 2]), (1, [0, 1, 2, 13]), (2, [6, 7]), (3, [0, 2, 8]), (4, [0, 2, 8, 25]), (5, [6, 7]), (6, [0, 2, 8, 9]), (7, [0, 2, 9, 29, 30, 31]), (8, [0, 2, 9, 29, 30, 31, 32]), (9, [0, 2, 9, 11, 29, 30, 31]), (10, [0, 2, 9, 11, 29, 30, 31, 42]), (11, [0, 2, 9, 29, 30, 31]), (12, [0, 2, 9, 29, 30, 31]), (13, [6, 7])], ords := [], bk := [(0, [9]), (1, [0, 2, 9, 29, 30, 31])], cuts := [], lk := [(8, [0, 2, 9, 29, 30, 31])] }
noncomputable def c41 : Code := bodyOf Tryd.f41
noncomputable def c41_0 : Code := c41.sr.sr.sr.sr.sr.sr
noncomputable def c41_1 : Code := c41.sr.sr.sr.sr.sr.sl.sr.sl.sl
def e41_1 (p0_r : Option Addr) (p9_at : Int) (p29_t_a : Option Addr) (p29_t_n : Nat) (p29_t_c : Nat) (p30_t : Int) (p31_t : Int) : Env := [(0, SV.v (Value.pointer p0_r)), (2, SV.v (Value.func (Fn.func 44) #[] #[])), (9, SV.v (Value.int IntKind.i64 p9_at)), (29, SV.v (Value.slice p29_t_a p29_t_n p29_t_c)), (30, SV.v (Value.int IntKind.i64 p30_t)), (31, SV.v (Value.int IntKind.i64 p31_t))]
def k41_1 (R : Ending → World → Prop) : Cont := blockK 0 [9] (seqK (fun E w => cutB (findL M41.cuts (headReg c41_0)) Tryd.prog M41 c41_0 E w (retK Tryd.prog Tryd.f41.results.toList R) fun E => den Tryd.prog M41 c41_0 E w (retK Tryd.prog Tryd.f41.results.toList R)) (retK Tryd.prog Tryd.f41.results.toList R))
theorem b41 : Tryd.f41.body = some c41 := by kernel_rfl
theorem n41 : Tryd.f41.ntmps = M41.N := by kernel_rfl
set_option maxRecDepth 100000 in
theorem u41 {p0_r : Option Addr} {p1_of : Int} {w : World} {R : Ending → World → Prop} (h : den Tryd.prog M41 c41 (argE 0 [(Value.pointer p0_r), (Value.int IntKind.u64 p1_of), (Value.func (Fn.func 44) #[] #[])]) w (retK Tryd.prog Tryd.f41.results.toList R)) : Calls Tryd.prog 41 #[(Value.pointer p0_r), (Value.int IntKind.u64 p1_of), (Value.func (Fn.func 44) #[] #[])] w R := calls_den okProg Tryd.func41 b41 n41 (Nat.le_of_ble_eq_true rfl) h
theorem t41 (p0_r : Option Addr) (p1_of : Int) (w : World) (R : Ending → World → Prop) : den Tryd.prog M41 c41 (argE 0 [(Value.pointer p0_r), (Value.int IntKind.u64 p1_of), (Value.func (Fn.func 44) #[] #[])]) w (retK Tryd.prog Tryd.f41.results.toList R) =
((Option.isNone p0_r = true →
    R (Ending.returned (Value.tuple #[Value.int IntKind.i64 0, Value.int IntKind.i64 1])) w) ∧
  (Option.isNone p0_r = false →
    ∃ a,
      p0_r = some a ∧
        ∃ p n c,
          World.cell? w (Addr.add a 0) = some (Value.slice p n c) ∧
            Call Tryd.prog 61 [Value.int IntKind.i64 (↑n : Int)] w fun e w' =>
              ∃ n,
                e = Ending.returned (Value.int IntKind.u64 n) ∧
                  Call Tryd.prog 60 [Value.int IntKind.u64 p1_of, Value.int IntKind.u64 n] w' fun e w' =>
                    ∃ n,
                      e = Ending.returned (Value.int IntKind.u64 n) ∧
                        Call Tryd.prog 62 [Value.int IntKind.u64 n] w' fun e w' =>
                          ∃ p n c,
                            e = Ending.returned (Value.slice p n c) ∧
                              (((↑n : Int) == (0 : Int)) = true →
                                  R
                                    (Ending.returned
                                      (Value.tuple
                                        #[Value.int IntKind.i64 0, Value.int IntKind.i64 12]))
                                    w') ∧
                                (((↑n : Int) == (0 : Int)) = false →
                                  ((0 : Int) ≤ (0 : Int) ∧ (0 : Int) < (↑n : Int)) ∧
                                    ∃ a,
                                      p = some a ∧
                                        ∃ n_1,
                                          World.cell? w' (Addr.add a 0) = some (Value.int IntKind.i64 n_1) ∧
                                            Cut
                                              (WP Tryd.prog 46 (Code.loop c41_1)
                                                [(0, SV.v (Value.pointer p0_r)),
                                                  (2, SV.v (Value.func (Fn.func 44) #[] #[])),
                                                  (9, SV.v (Value.int IntKind.i64 n_1)),
                                                  (29, SV.v (Value.slice p n c)),
                                                  (30, SV.v (Value.int IntKind.i64 (↑n : Int))),
                                                  (31, SV.v (Value.int IntKind.i64 0))]
                                                w' (k41_1 R))))) := by kernel_rfl
theorem t41_1 (p0_r : Option Addr) (p9_at : Int) (p29_t_a : Option Addr) (p29_t_n : Nat) (p29_t_c : Nat) (p30_t : Int) (p31_t : Int) (w : World) (B41_1 : Env → World → Prop) (R : Ending → World → Prop) : den Tryd.prog M41 c41_1 (e41_1 p0_r p9_at p29_t_a p29_t_n p29_t_c p30_t p31_t) w (loopK B41_1 (k41_1 R)) =
((decide (p31_t < p30_t) = true →
    ((0 : Int) ≤ p31_t ∧ p31_t < (↑p29_t_n : Int)) ∧
      ∃ a,
        p29_t_a = some a ∧
          ∃ n,
            World.cell? w (Addr.add a (Int.toNat p31_t * 1)) = some (Value.int IntKind.i64 n) ∧
              Call Tryd.prog 13 [Value.pointer p0_r, Value.int IntKind.i64 n] w fun e w' =>
                ∃ n_1,
                  e = Ending.returned (Value.int IntKind.i64 n_1) ∧
                    Call Tryd.prog 13 [Value.pointer p0_r, Value.int IntKind.i64 p9_at] w' fun e w' =>
                      ∃ n_2,
                        e = Ending.returned (Value.int IntKind.i64 n_2) ∧
                          Call Tryd.prog 44 [Value.int IntKind.i64 n_1, Value.int IntKind.i64 n_2] w'
                            fun e w' =>
                            ∃ b,
                              e = Ending.returned (Value.bool b) ∧
                                (b = true →
                                    B41_1
                                      [(0, SV.v (Value.pointer p0_r)),
                                        (2, SV.v (Value.func (Fn.func 44) #[] #[])),
                                        (9, SV.v (Value.int IntKind.i64 n)),
                                        (29, SV.v (Value.slice p29_t_a p29_t_n p29_t_c)),
                                        (30, SV.v (Value.int IntKind.i64 p30_t)),
                                        (31,
                                          SV.v (Value.int IntKind.i64 (IntKind.wrap IntKind.i64 (p31_t + (1 : Int)))))]
                                      w') ∧
                                  (b = false →
                                    B41_1
                                      [(0, SV.v (Value.pointer p0_r)),
                                        (2, SV.v (Value.func (Fn.func 44) #[] #[])),
                                        (9, SV.v (Value.int IntKind.i64 p9_at)),
                                        (29, SV.v (Value.slice p29_t_a p29_t_n p29_t_c)),
                                        (30, SV.v (Value.int IntKind.i64 p30_t)),
                                        (31,
                                          SV.v (Value.int IntKind.i64 (IntKind.wrap IntKind.i64 (p31_t + (1 : Int)))))]
                                      w')) ∧
  (decide (p31_t < p30_t) = false →
    R (Ending.returned (Value.tuple #[Value.int IntKind.i64 p9_at, Value.int IntKind.i64 0])) w)) := by kernel_rfl
end Fn2
end Go.Dav
