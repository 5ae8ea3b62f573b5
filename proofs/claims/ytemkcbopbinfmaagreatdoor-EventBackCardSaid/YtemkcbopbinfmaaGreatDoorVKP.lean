/- The program. -/
import Derived.Test.YtemkcbopbinfmaaGreatDoorVKL
import Derived.Test.YtemkcbopbinfmaaGreatDoorProg
import Derived.KernelRfl
set_option linter.all false
namespace Go.VK
open Go
open Go.Proofs
noncomputable abbrev P : Program := Tryz.prog
end Go.VK
