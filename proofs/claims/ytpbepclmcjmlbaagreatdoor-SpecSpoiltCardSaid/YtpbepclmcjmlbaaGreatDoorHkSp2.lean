/- Layer 6, the plain law: a text is of one set of rules only. -/
import Derived.Test.YtpbepclmcjmlbaaGreatDoorHkPh
import Derived.Test.YtpbepclmcjmlbaaGreatDoorHkUr
set_option linter.unusedSimpArgs false
set_option linter.unusedVariables false
namespace Go.Hk
/-! ### Bytes of a pattern's text -/
def tb (b : UInt8) : Bool := decide (b ≠ 10) && decide (b ≠ 32) && decide (b ≠ 47) && decide (b ≠ 60) && decide (b ≠ 94)
/-! ### Names -/
end Go.Hk
