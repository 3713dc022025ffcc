/- Layer 5: what Ends tells rises, is in the text, and is matched. -/
import Derived.Test.YtbnhflckmfmkoaaHkCN9
import Derived.Test.YtbnhflckmfmkoaaHkMh
set_option linter.unusedSimpArgs false
set_option linter.unusedVariables false
set_option maxRecDepth 20000
namespace Go.Hk.C
open Go.Proofs

end Go.Hk.C
