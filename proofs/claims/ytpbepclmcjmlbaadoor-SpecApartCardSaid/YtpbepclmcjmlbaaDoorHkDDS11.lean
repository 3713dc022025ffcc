/- Layer 6: what the statements are handed. -/
import Derived.Test.YtpbepclmcjmlbaaDoorHkDDS10
import Derived.Test.YtpbepclmcjmlbaaDoorHkDDRD
set_option linter.unusedSimpArgs false
set_option linter.unusedVariables false
namespace Go.Hk.DD
open Go.Proofs

end Go.Hk.DD
