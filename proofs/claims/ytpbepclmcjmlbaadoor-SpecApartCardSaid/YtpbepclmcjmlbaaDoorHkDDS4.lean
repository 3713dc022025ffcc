/- Layer 6: which rules may be, the reference's. -/
import Derived.Test.YtpbepclmcjmlbaaDoorHkDDS3
set_option linter.unusedSimpArgs false
set_option linter.unusedVariables false
set_option maxRecDepth 20000
namespace Go.Hk.DD
open Go.Proofs

end Go.Hk.DD
