/- The program and what is asked of it once. -/
import Derived.Test.YtmnclkgicfkgnaaProg
import Derived.Test.YtmnclkgicfkgnaaDen
namespace Go.Dav
open Go.Proofs
theorem okProg : okP Try.prog = true := by kernel_rfl
end Go.Dav
