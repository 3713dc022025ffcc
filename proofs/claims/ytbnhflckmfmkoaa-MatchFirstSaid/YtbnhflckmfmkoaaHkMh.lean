/- Layer 5, the plain law: again and again; parts. -/
import Derived.Test.YtbnhflckmfmkoaaHkMf
set_option linter.unusedSimpArgs false
set_option linter.unusedVariables false
namespace Go.Hk
/-! ### A loop without end -/
/-! ### Parts -/
end Go.Hk
namespace Go.Hk
theorem ends_right {x : Rx} {s : List UInt8} {i : Nat} (hr : rightT x = true) (hl : s.length ≤ 10000) (hi : i ≤ s.length) : endsL x s (i : Int) = (cset (s.length + 1) (R s x i)).map fun j : Nat => (j : Int) := by
  unfold endsL
  rw [if_pos ⟨hr, hl, by omega, by omega⟩, Int.toNat_natCast]
end Go.Hk
