/- The program and what is asked of it once. -/
import Derived.Test.YtfmehojcgdfghaaDoorProg
import Derived.Test.YtfmehojcgdfghaaDoorDen
namespace Go.Dav
open Go.Proofs
theorem okProg : okP Tryd.prog = true := by kernel_rfl
end Go.Dav
