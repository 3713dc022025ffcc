/- Layer 5, the plain law of the document's answer: lists of truths. -/
import Derived.Test.YtbnhflckmfmkoaaHkMc
set_option linter.unusedSimpArgs false
set_option linter.unusedVariables false
namespace Go.Hk
end Go.Hk
namespace Go.Hk
end Go.Hk
namespace Go.Hk
section
variable {r : Pl} {S : Nat → Prop} {N : Nat}
end
end Go.Hk
namespace Go.Hk
end Go.Hk
namespace Go.Hk
section
variable {r : Pl} {S : Nat → Prop} {m : Nat}
end
end Go.Hk
namespace Go.Hk
end Go.Hk
namespace Go.Hk
end Go.Hk
