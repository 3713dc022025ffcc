/- Layer 5, the plain law: the stage's theorems. -/
import Derived.Test.YtbnhflckmfmkoaaHkMe
import Derived.Test.YtbnhflckmfmkoaaHkMk
set_option linter.unusedSimpArgs false
set_option linter.unusedVariables false
namespace Go.Hk
/-! ### All of a text -/
theorem match_iff {x : Rx} {s : List UInt8} (hr : rightT x = true) (hl : s.length ≤ 10000) : (s.length : Int) ∈ endsL x s 0 ↔ R s x 0 s.length := by
  unfold endsL
  rw [if_pos ⟨hr, hl, by omega, by omega⟩, List.mem_map]
  constructor
  · rintro ⟨j, h1, h2⟩
    have : j = s.length := by omega
    subst this
    exact (cset_mem.1 h1).2
  · intro h
    exact ⟨s.length, cset_mem.2 ⟨by omega, h⟩, rfl⟩
theorem match_cut {x : Rx} {s : List UInt8} {a n : Nat} (hr : rightT x = true) (hl : s.length ≤ 10000) (ha : a ≤ n) (hn : n ≤ s.length) : (((s.drop a).take (n - a)).length : Int) ∈ endsL x ((s.drop a).take (n - a)) 0 ↔ R s x a n := by
  have hlen : ((s.drop a).take (n - a)).length = n - a := by simp; omega
  rw [match_iff hr (by omega), hlen, R_cut (by omega) x 0 (n - a) (Nat.le_refl _)]
  rw [Nat.add_zero, show a + (n - a) = n by omega]
/-! ### What Ends tells rises -/
/-! ### What stands ahead makes no difference -/
/-! ### Nothing -/
end Go.Hk
