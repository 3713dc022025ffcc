/- Layer 1: lists and runs. -/
import Derived.Test.YtbnhflckmfmkoaaHkCL1
set_option linter.unusedSimpArgs false
set_option linter.unusedVariables false
namespace Go.Hk.C
open Go.Proofs

structure Ls where
  i : Nat
  r : Rt
  T : List (Nat × (Nat × Nat))
end Go.Hk.C
