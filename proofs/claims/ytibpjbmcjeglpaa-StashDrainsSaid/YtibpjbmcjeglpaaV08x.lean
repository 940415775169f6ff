/- What functions of the program come to. -/
import Derived.Test.YtibpjbmcjeglpaaPrg08
namespace Go.Dav
open Go.Proofs
namespace Fn2
/-! (*davit/pool.Pool).find -/
def M51 : Mt := { N := 23, keep := [(0, [0, 1]), (1, [0, 1, 9, 10]), (2, [0, 1, 9, 10, 11]), (3, [0, 1, 5, 9, 10]), (4, [0, 1, 5, 9, 10, 20]), (5, [4]), (6, [0, 1, 9, 10]), (7, [4])], ords := [], bk := [(0, []), (1, [0, 1, 9, 10])], cuts := [], lk := [(2, [0, 1, 9, 10])] }
noncomputable def c51 : Code := bodyOf Try.f51
noncomputable def c51_0 : Code := c51.sr.sr
noncomputable def c51_1 : Code := c51.sr.sl.sr.sl.sl
def e51_1 (p0_p : Option Addr) (p9_t : Int) (p10_t : Int) : Env := [(0, SV.v (Value.pointer p0_p)), (1, SV.v (Value.func (Fn.func 53) #[] #[])), (9, SV.v (Value.int IntKind.i64 p9_t)), (10, SV.v (Value.int IntKind.i64 p10_t))]
def k51_1 (R : Ending → World → Prop) : Cont := blockK 0 [] (seqK (fun E w => cutB (findL M51.cuts (headReg c51_0)) Try.prog M51 c51_0 E w (retK Try.prog Try.f51.results.toList R) fun E => den Try.prog M51 c51_0 E w (retK Try.prog Try.f51.results.toList R)) (retK Try.prog Try.f51.results.toList R))
theorem b51 : Try.f51.body = some c51 := by kernel_rfl
theorem n51 : Try.f51.ntmps = M51.N := by kernel_rfl
theorem u51 {p0_p : Option Addr} {w : World} {R : Ending → World → Prop} (h : den Try.prog M51 c51 (argE 0 [(Value.pointer p0_p), (Value.func (Fn.func 53) #[] #[])]) w (retK Try.prog Try.f51.results.toList R)) : Calls Try.prog 51 #[(Value.pointer p0_p), (Value.func (Fn.func 53) #[] #[])] w R := calls_den okProg Try.func51 b51 n51 (Nat.le_of_ble_eq_true rfl) h
theorem t51 (p0_p : Option Addr) (w : World) (R : Ending → World → Prop) : den Try.prog M51 c51 (argE 0 [(Value.pointer p0_p), (Value.func (Fn.func 53) #[] #[])]) w (retK Try.prog Try.f51.results.toList R) =
(∃ a,
  p0_p = some a ∧
    ∃ n,
      World.cell? w (Addr.add a 12) = some (Value.int IntKind.i64 n) ∧
        Cut
          (WP Try.prog 23 (Code.loop c51_1)
            [(0, SV.v (Value.pointer p0_p)), (1, SV.v (Value.func (Fn.func 53) #[] #[])),
              (9, SV.v (Value.int IntKind.i64 n)), (10, SV.v (Value.int IntKind.i64 0))]
            w (k51_1 R))) := by kernel_rfl
theorem t51_1 (p0_p : Option Addr) (p9_t : Int) (p10_t : Int) (w : World) (B51_1 : Env → World → Prop) (R : Ending → World → Prop) : den Try.prog M51 c51_1 (e51_1 p0_p p9_t p10_t) w (loopK B51_1 (k51_1 R)) =
((decide (p10_t < p9_t) = true →
    ∃ a,
      p0_p = some a ∧
        ((0 : Int) ≤ p10_t ∧ p10_t < (↑12 : Int)) ∧
          ∃ n,
            World.cell? w (Addr.add (Addr.add a 0) (Int.toNat p10_t * 1)) =
                some (Value.int IntKind.u8 n) ∧
              Call Try.prog 53 [Value.int IntKind.u8 n] w fun e w' =>
                ∃ b,
                  e = Ending.returned (Value.bool b) ∧
                    (b = true → R (Ending.returned (Value.int IntKind.i64 p10_t)) w') ∧
                      (b = false →
                        B51_1
                          [(0, SV.v (Value.pointer p0_p)),
                            (1, SV.v (Value.func (Fn.func 53) #[] #[])),
                            (9, SV.v (Value.int IntKind.i64 p9_t)),
                            (10, SV.v (Value.int IntKind.i64 (IntKind.wrap IntKind.i64 (p10_t + (1 : Int)))))]
                          w')) ∧
  (decide (p10_t < p9_t) = false → R (Ending.returned (Value.int IntKind.i64 (-1 : Int))) w)) := by kernel_rfl
end Fn2
end Go.Dav
