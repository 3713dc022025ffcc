/- Layer 5, the plain law: the stage's theorems. -/
import Derived.Test.YtbnhflckmfmkoaaHkMe
import Derived.Test.YtbnhflckmfmkoaaHkMk
set_option linter.unusedSimpArgs false
set_option linter.unusedVariables false
namespace Go.Hk
/-! ### All of a text -/
/-! ### What Ends tells rises -/
/-! ### What stands ahead makes no difference -/
/-! ### Nothing -/
end Go.Hk
