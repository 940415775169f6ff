/- What the functions on masks of cores come to. -/
import Derived.Test.YtfpgfcecbnlliaaDoorPrg18
import Derived.Test.YtfpgfcecbnlliaaDoorV18
import Derived.Test.YtfpgfcecbnlliaaDoorBits
set_option linter.unusedSimpArgs false
set_option linter.unusedVariables false
namespace Go.Dav
open Go.Proofs

theorem elI : ElemT Tryd.prog 38 3 1 8 [.int .i64 0] := ⟨by kernel_rfl, by kernel_rfl, rfl, by omega⟩

end Go.Dav
