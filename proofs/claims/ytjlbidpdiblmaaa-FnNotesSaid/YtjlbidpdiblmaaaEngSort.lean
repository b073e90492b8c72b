import Derived.Test.YtjlbidpdiblmaaaEngNest
import Derived.Lib.RowBridge
import Derived.Sort.Grow
namespace Go.Eng
set_option linter.unusedVariables false
set_option linter.unusedSimpArgs false
open Go.RowKit Go.Sort
variable {P:Program} {X:Nat→Prop} {w w':World} {ρ:RM}
end Go.Eng
