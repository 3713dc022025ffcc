/- Layer 5: the document's step. -/
import Derived.Test.YtbnhflckmfmkoaaHkCN6
set_option linter.unusedSimpArgs false
set_option linter.unusedVariables false
set_option maxRecDepth 20000
namespace Go.Hk.C
open Go.Proofs


end Go.Hk.C
