import Derived.Test.YtfhffgfbnlikjaaEngDoor
import Derived.Lib.ItoaNum
import Derived.Lib.Strings
namespace Go.Eng
set_option linter.unusedVariables false
set_option linter.unusedSimpArgs false
open Go.RowKit Go.Sort
open Cod (enc dec)
end Go.Eng
