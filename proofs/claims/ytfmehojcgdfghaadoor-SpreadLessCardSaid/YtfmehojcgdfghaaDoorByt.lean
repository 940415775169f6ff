/- A byte of a closed string, as a number. -/
import Derived.Test.YtfmehojcgdfghaaDoorBits
import Derived.Laws.MathBits
set_option linter.unusedSimpArgs false
set_option linter.unusedVariables false
namespace Go.Dav
theorem byte_at {data : Array UInt8} (f : Nat → Nat) (h : (data.toList.map UInt8.toNat == (List.range 256).map f) = true) {x : Nat} (hx : x < 256) : ∃ u, (ByteArray.mk data)[x]? = some u ∧ ((UInt8.toNat u : Nat) : Int) = (f x : Int) := by
  have h := eq_of_beq h
  have hs : data.size = 256 := by
    have := congrArg List.length h
    simpa using this
  have hx' : x < (ByteArray.mk data).size := by show x < data.size; omega
  refine ⟨data[x]'(by omega), ?_, ?_⟩
  · rw [getElem?_pos (ByteArray.mk data) x hx']
    rfl
  · have h1 : (data.toList.map UInt8.toNat)[x]? = ((List.range 256).map f)[x]? := by rw [h]
    simp [hx, hs] at h1
    exact congrArg Int.ofNat h1
theorem wrap8 {x : Int} (h : 0 ≤ x ∧ x < 256) : IntKind.wrap .u8 x = x := by
  have e : (2 ^ IntKind.u8.bits : Int) = 256 := by decide
  unfold IntKind.wrap
  simp only [e, IntKind.signed, Bool.false_and]
  simp
  omega
end Go.Dav
