/- The program and what is asked of it once. -/
import Derived.Test.YtgakbnonkgohfaaProg
import Derived.Test.YtgakbnonkgohfaaDen
namespace Go.Dav
open Go.Proofs
theorem okProg : okP Try.prog = true := by kernel_rfl
end Go.Dav
