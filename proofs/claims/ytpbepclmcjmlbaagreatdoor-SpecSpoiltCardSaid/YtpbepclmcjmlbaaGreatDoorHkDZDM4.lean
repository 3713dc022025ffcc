/- Layer 3: what is made, by numbers, and that it answers both ways. -/
import Derived.Test.YtpbepclmcjmlbaaGreatDoorHkDZDM3
import Derived.Test.YtpbepclmcjmlbaaGreatDoorHkDZDRC
set_option linter.unusedSimpArgs false
set_option linter.unusedVariables false
set_option maxRecDepth 20000
namespace Go.Hk.DZD
open Go.Proofs

end Go.Hk.DZD
