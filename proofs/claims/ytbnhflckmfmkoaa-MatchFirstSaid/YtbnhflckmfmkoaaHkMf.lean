/- Layer 5, the plain law: the stage's theorems. -/
import Derived.Test.YtbnhflckmfmkoaaHkMe
import Derived.Test.YtbnhflckmfmkoaaHkMk
set_option linter.unusedSimpArgs false
set_option linter.unusedVariables false
namespace Go.Hk
/-! ### All of a text -/
theorem match_iff {x : Rx} {s : List UInt8} (hr : rightT x = true) (hl : s.length ≤ 10000) : (s.length : Int) ∈ endsL x s 0 ↔ R s x 0 s.length := by
  unfold endsL
  rw [if_pos ⟨hr, hl, by omega, by omega⟩, List.mem_map]
  constructor
  · rintro ⟨j, h1, h2⟩
    have : j = s.length := by omega
    subst this
    exact (cset_mem.1 h1).2
  · intro h
    exact ⟨s.length, cset_mem.2 ⟨by omega, h⟩, rfl⟩
theorem match_cut {x : Rx} {s : List UInt8} {a n : Nat} (hr : rightT x = true) (hl : s.length ≤ 10000) (ha : a ≤ n) (hn : n ≤ s.length) : (((s.drop a).take (n - a)).length : Int) ∈ endsL x ((s.drop a).take (n - a)) 0 ↔ R s x a n := by
  have hlen : ((s.drop a).take (n - a)).length = n - a := by simp; omega
  rw [match_iff hr (by omega), hlen, R_cut (by omega) x 0 (n - a) (Nat.le_refl _)]
  rw [Nat.add_zero, show a + (n - a) = n by omega]
/-! ### What Ends tells rises -/
noncomputable def cnt (S : Nat → Prop) (n : Nat) : Nat := (cset n S).length
theorem cset_succ {S : Nat → Prop} {n : Nat} : (S n → cset (n + 1) S = cset n S ++ [n]) ∧ (¬ S n → cset (n + 1) S = cset n S) := by
  unfold cset
  rw [List.range_succ, List.filter_append]
  exact ⟨fun h => by simp [h], fun h => by simp [h]⟩
theorem cnt_succ {S : Nat → Prop} {n : Nat} : (S n → cnt S (n + 1) = cnt S n + 1) ∧ (¬ S n → cnt S (n + 1) = cnt S n) := by
  unfold cnt
  exact ⟨fun h => by rw [cset_succ.1 h]; simp, fun h => by rw [cset_succ.2 h]⟩
theorem cset_pre {S : Nat → Prop} {n : Nat} : ∀ {N : Nat}, n ≤ N → ∃ B, cset N S = cset n S ++ B ∧ ∀ b ∈ B, n ≤ b
  | 0, h => by
    obtain rfl : n = 0 := by omega
    exact ⟨[], by simp, by simp⟩
  | N + 1, h => by
    by_cases he : n = N + 1
    · subst he
      exact ⟨[], by simp, by simp⟩
    · obtain ⟨B, h1, h2⟩ := cset_pre (S := S) (n := n) (N := N) (by omega)
      by_cases hs : S N
      · exact ⟨B ++ [N], by rw [cset_succ.1 hs, h1, List.append_assoc], fun b hb => by
          rcases List.mem_append.1 hb with hb | hb
          · exact h2 b hb
          · simp only [List.mem_singleton] at hb; omega⟩
      · exact ⟨B, by rw [cset_succ.2 hs, h1], h2⟩
theorem cset_at {S : Nat → Prop} {n N : Nat} (h : n < N) : (S n → (cset N S)[cnt S n]? = some n) ∧ (¬ S n → ∀ m, (cset N S)[cnt S n]? = some m → m ≠ n) := by
  obtain ⟨B, h1, h2⟩ := cset_pre (S := S) (n := n + 1) (N := N) (by omega)
  constructor
  · intro hs
    unfold cnt
    rw [h1, cset_succ.1 hs, List.append_assoc, List.getElem?_append_right (Nat.le_refl _)]
    simp
  · intro hs m hm
    unfold cnt at hm
    rw [h1, cset_succ.2 hs, List.getElem?_append_right (Nat.le_refl _)] at hm
    have := h2 m (List.mem_of_getElem? hm)
    omega
theorem cnt_le {S : Nat → Prop} {n N : Nat} (h : n ≤ N) : cnt S n ≤ cnt S N := by
  obtain ⟨B, h1, _⟩ := cset_pre (S := S) h
  unfold cnt
  rw [h1]
  simp
theorem cnt_none {S : Nat → Prop} {n : Nat} (h : ∀ j, j < n → ¬ S j) : cnt S n = 0 := by
  unfold cnt
  rw [List.length_eq_zero_iff, List.eq_nil_iff_forall_not_mem]
  intro j hj
  obtain ⟨h1, h2⟩ := cset_mem.1 hj
  exact h j h1 h2
/-! ### What stands ahead makes no difference -/
/-! ### Nothing -/
end Go.Hk
