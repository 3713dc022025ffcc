/- Layer 5: the document's lists of truths. -/
import Derived.Test.YtbnhflckmfmkoaaHkCN5
import Derived.Test.YtbnhflckmfmkoaaHkMd
set_option linter.unusedSimpArgs false
set_option linter.unusedVariables false
set_option maxRecDepth 20000
namespace Go.Hk.C
open Go.Proofs
theorem ti60 : tiOf Try.prog 60 = some { size := 1, bytes := 24, zero := some (.sl .nil 0 []), k := .slice 4 } := by kernel_rfl
attribute [go_sem] ti60
end Go.Hk.C
