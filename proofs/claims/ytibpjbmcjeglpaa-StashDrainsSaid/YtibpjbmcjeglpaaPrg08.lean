/- The program and what is asked of it once. -/
import Derived.Test.YtibpjbmcjeglpaaProg
import Derived.Test.YtibpjbmcjeglpaaDen
namespace Go.Dav
open Go.Proofs
theorem okProg : okP Try.prog = true := by kernel_rfl
end Go.Dav
