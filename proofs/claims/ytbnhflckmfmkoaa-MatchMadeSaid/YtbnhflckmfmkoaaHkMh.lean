/- Layer 5, the plain law: again and again; parts. -/
import Derived.Test.YtbnhflckmfmkoaaHkMf
set_option linter.unusedSimpArgs false
set_option linter.unusedVariables false
namespace Go.Hk
/-! ### A loop without end -/
/-! ### Parts -/
end Go.Hk
namespace Go.Hk
end Go.Hk
