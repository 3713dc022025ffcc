/- Layer 5: again and again. -/
import Derived.Test.YtbnhflckmfmkoaaHkCN10
import Derived.Test.YtbnhflckmfmkoaaHkCN9
import Derived.Test.YtbnhflckmfmkoaaHkCM3
import Derived.Test.YtbnhflckmfmkoaaHkMh
set_option linter.unusedSimpArgs false
set_option linter.unusedVariables false
set_option maxRecDepth 20000
namespace Go.Hk.C
open Go.Proofs

end Go.Hk.C
