/- Layer 3: what is made, by numbers, and that it answers both ways. -/
import Derived.Test.YtpbepclmcjmlbaaDoorHkDDM3
import Derived.Test.YtpbepclmcjmlbaaDoorHkDDRC
set_option linter.unusedSimpArgs false
set_option linter.unusedVariables false
set_option maxRecDepth 20000
namespace Go.Hk.DD
open Go.Proofs

end Go.Hk.DD
