/- The program and what is asked of it once. -/
import Derived.Test.YticbeaaghiodlaaDoorProg
import Derived.Test.YticbeaaghiodlaaDoorDen
namespace Go.Dav
open Go.Proofs
theorem okProg : okP Tryd.prog = true := by kernel_rfl
end Go.Dav
