/- What the functions on masks of cores come to. -/
import Derived.Test.YtokmhpfheaaajaaDoorPrg04
import Derived.Test.YtokmhpfheaaajaaDoorV04
import Derived.Test.YtokmhpfheaaajaaDoorBits
set_option linter.unusedSimpArgs false
set_option linter.unusedVariables false
namespace Go.Dav
open Go.Proofs

theorem elI : ElemT Tryd.prog 22 3 1 8 [.int .i64 0] := ⟨by kernel_rfl, by kernel_rfl, rfl, by omega⟩

end Go.Dav
