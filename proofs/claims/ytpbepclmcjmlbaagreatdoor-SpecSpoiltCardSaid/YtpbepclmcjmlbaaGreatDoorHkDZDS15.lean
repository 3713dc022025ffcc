/- Layer 6: what is made is answered alike. -/
import Derived.Test.YtpbepclmcjmlbaaGreatDoorHkDZDS13
set_option linter.unusedSimpArgs false
set_option linter.unusedVariables false
set_option maxRecDepth 20000
set_option maxHeartbeats 4000000
namespace Go.Hk.DZD
open Go.Proofs

end Go.Hk.DZD
