/- What the functions on masks of cores come to. -/
import Derived.Test.YtmlaiacompgcnaaDoorPrg17
import Derived.Test.YtmlaiacompgcnaaDoorV17
import Derived.Test.YtmlaiacompgcnaaDoorBits
set_option linter.unusedSimpArgs false
set_option linter.unusedVariables false
namespace Go.Dav
open Go.Proofs

theorem elI : ElemT Tryd.prog 38 3 1 8 [.int .i64 0] := ⟨by kernel_rfl, by kernel_rfl, rfl, by omega⟩

end Go.Dav
