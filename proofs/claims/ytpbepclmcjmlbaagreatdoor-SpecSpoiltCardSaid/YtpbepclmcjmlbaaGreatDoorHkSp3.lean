/- Layer 6, the plain law: a text is of one set of rules only. -/
import Derived.Test.YtpbepclmcjmlbaaGreatDoorHkSp2
set_option linter.unusedSimpArgs false
set_option linter.unusedVariables false
namespace Go.Hk
/-- Rules that may be, of patterns that are small. -/
structure SpOk (s : Sp) : Prop where
  right : rightS s = true
  ok : ∀ r ∈ s.rules, okX r.rx ∧ okX r.trail
theorem SpOk.first {s : Sp} (h : SpOk s) : ∃ l, s.conds = ⟨initial, false⟩ :: l := by
  have := h.right
  simp only [rightS, Bool.and_eq_true, decide_eq_true_eq, Bool.not_eq_true'] at this
  obtain ⟨⟨⟨⟨⟨⟨⟨h1, _⟩, _⟩, h2⟩, h3⟩, _⟩, _⟩, _⟩ := this
  cases hc : s.conds with
  | nil => rw [hc] at h1; simp at h1
  | cons c l =>
    rw [hc] at h2 h3
    simp only [List.getD_cons_zero] at h2 h3
    cases c
    simp only at h2 h3
    subst h2; subst h3
    exact ⟨l, rfl⟩
end Go.Hk
