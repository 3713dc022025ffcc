/- Layer 5: the document's answer. -/
import Derived.Test.YtbnhflckmfmkoaaHkCN7
import Derived.Test.YtbnhflckmfmkoaaHkSq
set_option linter.unusedSimpArgs false
set_option linter.unusedVariables false
set_option maxRecDepth 20000
namespace Go.Hk.C
open Go.Proofs

end Go.Hk.C
