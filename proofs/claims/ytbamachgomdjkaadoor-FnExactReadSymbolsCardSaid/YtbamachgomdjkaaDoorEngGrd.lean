/-
  THE ENGINE, PART 34: guarded runs, side by side.
-/
import Derived.Test.YtbamachgomdjkaaDoorEngTy
namespace Go.Eng
set_option linter.unusedVariables false
set_option linter.unusedSimpArgs false
end Go.Eng
