/- Layer 3: which patterns are the same; which match nothing. -/
import Derived.Test.YtbnhflckmfmkoaaHkCR3
set_option linter.unusedSimpArgs false
set_option linter.unusedVariables false
namespace Go.Hk.C
open Go.Proofs

end Go.Hk.C
