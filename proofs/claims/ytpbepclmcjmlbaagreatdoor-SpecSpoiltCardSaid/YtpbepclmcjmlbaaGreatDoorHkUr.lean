/- Layer 3, the plain law: a text is of one pattern only. -/
import Derived.Test.YtpbepclmcjmlbaaGreatDoorHkPg
set_option linter.unusedSimpArgs false
set_option linter.unusedVariables false
namespace Go.Hk
/-! ### Sets -/
/-! ### Bytes of a set -/
/-- How a byte's text begins: a plain byte or a backslash. -/
def cSt (b : UInt8) : Prop := plain b.toNat = true ∨ b = 92
instance (b : UInt8) : Decidable (cSt b) := inferInstanceAs (Decidable (_ ∨ _))
/-- How a text may begin. -/
def sOk (b : UInt8) : Prop := b ≠ 41 ∧ b ≠ 124 ∧ b ≠ 123
/-! ### Numbers -/
/-! ### Patterns -/
/-- Patterns of any depth that may be, with sets of bytes. -/
structure WR (x : Rx) : Prop where
  ok : okX x
  r : inR x
theorem WR.kid {x y : Rx} (h : WR x) (hy : y ∈ x.l) : WR y := ⟨h.ok.mem hy, h.r.kid hy⟩
theorem inR.zero {x : Rx} (h : inR x) : x.k ≠ 5 → x.lo = 0 ∧ x.hi = 0 ∧ (x.k = 1 → x.s = 0) := by
  intro h5
  have h := h.own
  unfold Hk.own at h
  rw [if_neg h5] at h
  split at h
  · simp only [Bool.and_eq_true, decide_eq_true_eq] at h
    refine ⟨h.1.1.2, h.1.2, fun h1 => ?_⟩
    have := h.1.1.1
    rw [h1] at this
    simpa using this
  · split at h
    · simp only [Bool.and_eq_true, decide_eq_true_eq] at h
      exact ⟨h.1.1.2, h.1.2, fun h1 => by omega⟩
    · cases h
/-- The kinds. -/
theorem WR.cases {x : Rx} (h : WR x) : x = .mk 1 0 0 0 [] ∨ (∃ s, x = .mk 2 s 0 0 [] ∧ s ≠ 0 ∧ s < 2 ^ 256) ∨ (∃ l, x = .mk 3 0 0 0 l ∧ 2 ≤ l.length ∧ ∀ y ∈ l, WR y ∧ y.k ≠ 3) ∨ (∃ l, x = .mk 4 0 0 0 l ∧ 2 ≤ l.length ∧ ∀ y ∈ l, WR y ∧ y.k ≠ 4) ∨ (∃ lo hi y, x = .mk 5 0 lo hi [y] ∧ times lo hi = true ∧ WR y) := by
  have hz := h.r.zero
  have hk := fun y hy => h.kid (y := y) hy
  have hu := fun y hy => h.r.unlike (y := y) hy
  have hs := h.ok.st
  have hc := h.r.cases
  obtain ⟨k, s, lo, hi, l⟩ := x
  simp only [Rx.k, Rx.s, Rx.lo, Rx.hi, Rx.l] at *
  have hk5 : ∀ y ∈ l, k ≠ 5 → y.k ≠ k := fun y hy h5 he => by
    have := hu y hy
    simp [unlike, he, h5] at this
  rcases hc with ⟨h1, h2⟩ | ⟨h1, h2, h3⟩ | ⟨h1, h2, h3⟩ | ⟨h1, h2, h3, y, h4⟩
  · subst h1; subst h2
    obtain ⟨rfl, rfl, h3⟩ := hz (by decide)
    obtain rfl := h3 rfl
    exact .inl rfl
  · subst h1; subst h3
    obtain ⟨rfl, rfl, _⟩ := hz (by decide)
    exact .inr (.inl ⟨s, rfl, h2, hs⟩)
  · subst h2
    rcases h1 with rfl | rfl
    · obtain ⟨rfl, rfl, _⟩ := hz (by decide)
      exact .inr (.inr (.inl ⟨l, rfl, h3, fun y hy => ⟨hk y hy, hk5 y hy (by decide)⟩⟩))
    · obtain ⟨rfl, rfl, _⟩ := hz (by decide)
      exact .inr (.inr (.inr (.inl ⟨l, rfl, h3, fun y hy => ⟨hk y hy, hk5 y hy (by decide)⟩⟩)))
  · subst h1; subst h2; subst h4
    exact .inr (.inr (.inr (.inr ⟨lo, hi, y, rfl, h3, hk y (by simp)⟩)))
/-! What may follow. -/
def ends (u : List UInt8) : Prop := u = [] ∨ ∃ r, u = 41 :: r
def endQ (u : List UInt8) : Prop := u = [] ∨ (∃ r, u = 41 :: r) ∨ ∃ r, u = 124 :: r
theorem endQ.not {u t : List UInt8} {b : UInt8} (h : endQ u) (hb : sOk b) : u ≠ b :: t := by
  intro e
  rcases h with h | ⟨q, h⟩ | ⟨q, h⟩ <;> rw [h] at e
  · cases e
  · exact hb.1 (List.cons.inj e).1.symm
  · exact hb.2.1 (List.cons.inj e).1.symm
/-- The kinds of atoms. -/
theorem WR.atom {x : Rx} (h : WR x) : x = .mk 1 0 0 0 [] ∨ (∃ s, x = .mk 2 s 0 0 [] ∧ s ≠ 0 ∧ s < 2 ^ 256) ∨ 3 ≤ x.k := by
  rcases h.cases with h | h | ⟨l, rfl, hl, hk⟩ | ⟨l, rfl, hl, hk⟩ | ⟨lo, hi, y, rfl, ht, hy⟩
  · exact .inl h
  · exact .inr (.inl h)
  all_goals exact .inr (.inr (by simp only [Rx.k]; decide))
/-! Units: an atom, or one that is repeated. -/
/-! Units one behind the other. -/
/-! Alternatives. -/
theorem ends.not {u r : List UInt8} (h : ends u) : u ≠ 124 :: r := by
  intro e
  rcases h with h | ⟨q, h⟩ <;> rw [h] at e <;> cases e
end Go.Hk
