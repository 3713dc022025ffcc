/- Layer 3: what the statements are handed. -/
import Derived.Test.YtbnhflckmfmkoaaHkCN12
import Derived.Test.YtbnhflckmfmkoaaHkCRC
import Derived.Test.YtbnhflckmfmkoaaHkCR4
import Derived.Test.YtbnhflckmfmkoaaHkPf
set_option linter.unusedSimpArgs false
set_option linter.unusedVariables false
namespace Go.Hk.C
open Go.Proofs

theorem wf_k {k : IntKind} {n : Int} (h : (Lit.int k n).wf = true) : k.min ≤ n ∧ n ≤ k.max := by simpa [Lit.wf] using h
theorem rd_u8 {d : Nat} {s : List AVal} (h : shp Try.prog d 5 s) : ∃ n : Nat, n < 256 ∧ s = [.int .u8 (n : Nat)] := by
  cases d with
  | zero => exact h.elim
  | succ d =>
    simp only [shp, ti5] at h
    obtain ⟨n, rfl, hw⟩ := h
    have : 0 ≤ n ∧ n ≤ 255 := wf_k hw
    exact ⟨n.toNat, by omega, by rw [Int.toNat_of_nonneg this.1]⟩
theorem max_lt {n : Nat} (h : n ≤ maxLen) : n < 9223372036854775808 := by
  have : maxLen = 9223372036854775807 := rfl
  omega
theorem rd_bytes {d : Nat} {s : List AVal} (h : shp Try.prog d 22 s) : ∃ l : List Nat, (l.length < 9223372036854775808 ∧ ∀ n ∈ l, n < 256) ∧ s = [slc c8 l] := by
  cases d with
  | zero => exact h.elim
  | succ d =>
    simp only [shp, ti22] at h
    obtain ⟨xs, rfl, hm, hx⟩ := h
    obtain ⟨l, h1, h2, h3⟩ := list_of (f := c8) (ok := fun n => n < 256) (fun x h => rd_u8 h) xs hx
    exact ⟨l, ⟨by rw [h1]; exact max_lt hm, h3⟩, by rw [← h1, h2]⟩
theorem c8_cU : ∀ l : List Nat, (∀ n ∈ l, n < 256) → slc c8 l = slc cU (l.map UInt8.ofNat) ∧ l.length = (l.map UInt8.ofNat).length := by
  intro l h
  refine ⟨?_, by simp⟩
  have : fl c8 l = fl cU (l.map UInt8.ofNat) := by
    induction l with
    | nil => rfl
    | cons n l ih =>
      have hn := h n (by simp)
      have e : (UInt8.ofNat n).toNat = n := by simp; omega
      simp only [List.map_cons, fl, ih fun m hm => h m (by simp [hm]), cU, c8, e]
  simp [slc, this]
theorem rd_cU {d : Nat} {s : List AVal} (h : shp Try.prog d 22 s) : ∃ l : List UInt8, l.length < 9223372036854775808 ∧ s = [slc cU l] := by
  obtain ⟨l, ⟨h1, h2⟩, rfl⟩ := rd_bytes h
  obtain ⟨e1, e2⟩ := c8_cU l h2
  exact ⟨l.map UInt8.ofNat, by omega, by rw [e1]⟩
end Go.Hk.C
