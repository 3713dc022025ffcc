/- Layer 6: what the statements are handed. -/
import Derived.Test.YtpbepclmcjmlbaaGreatDoorHkDZDS10
import Derived.Test.YtpbepclmcjmlbaaGreatDoorHkDZDRD
set_option linter.unusedSimpArgs false
set_option linter.unusedVariables false
namespace Go.Hk.DZD
open Go.Proofs

theorem rd_str {d : Nat} {s : List AVal} (h : shp Tryz.prog d 9 s) : ∃ b : List UInt8, b.length < 9223372036854775808 ∧ s = [.str b] := by
  cases d with
  | zero => exact h.elim
  | succ d =>
    simp only [shp, ti9] at h
    obtain ⟨b, rfl, hb⟩ := h
    exact ⟨b, max_lt hb, rfl⟩
end Go.Hk.DZD
