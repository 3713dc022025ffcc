/- Layer 6: what the statements are handed. -/
import Derived.Test.YtpbepclmcjmlbaaGreatDoorHkDZDS10
import Derived.Test.YtpbepclmcjmlbaaGreatDoorHkDZDRD
set_option linter.unusedSimpArgs false
set_option linter.unusedVariables false
namespace Go.Hk.DZD
open Go.Proofs

end Go.Hk.DZD
