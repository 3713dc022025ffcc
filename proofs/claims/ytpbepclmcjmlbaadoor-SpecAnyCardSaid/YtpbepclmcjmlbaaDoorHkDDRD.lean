/- Layer 3: what the statements are handed. -/
import Derived.Test.YtpbepclmcjmlbaaDoorHkDDR8
import Derived.Test.YtpbepclmcjmlbaaDoorHkDDRC
import Derived.Test.YtpbepclmcjmlbaaDoorHkDDR4
import Derived.Test.YtpbepclmcjmlbaaDoorHkPf
set_option linter.unusedSimpArgs false
set_option linter.unusedVariables false
namespace Go.Hk.DD
open Go.Proofs

theorem wf_k {k : IntKind} {n : Int} (h : (Lit.int k n).wf = true) : k.min ≤ n ∧ n ≤ k.max := by simpa [Lit.wf] using h
theorem rd_int {d : Nat} {s : List AVal} (h : shp Tryd.prog d 3 s) : ∃ n : Int, (-9223372036854775808 ≤ n ∧ n ≤ 9223372036854775807) ∧ s = [.int .i64 n] := by
  cases d with
  | zero => exact h.elim
  | succ d =>
    simp only [shp, ti3] at h
    obtain ⟨n, rfl, hw⟩ := h
    exact ⟨n, wf_k hw, rfl⟩
theorem rd_u8 {d : Nat} {s : List AVal} (h : shp Tryd.prog d 5 s) : ∃ n : Nat, n < 256 ∧ s = [.int .u8 (n : Nat)] := by
  cases d with
  | zero => exact h.elim
  | succ d =>
    simp only [shp, ti5] at h
    obtain ⟨n, rfl, hw⟩ := h
    have : 0 ≤ n ∧ n ≤ 255 := wf_k hw
    exact ⟨n.toNat, by omega, by rw [Int.toNat_of_nonneg this.1]⟩
theorem rd_word {d : Nat} {s : List AVal} (h : shp Tryd.prog d 36 s) : ∃ n : Nat, n < 18446744073709551616 ∧ s = [.int .u64 (n : Nat)] := by
  cases d with
  | zero => exact h.elim
  | succ d =>
    simp only [shp, ti36] at h
    obtain ⟨n, rfl, hw⟩ := h
    have : 0 ≤ n ∧ n ≤ 18446744073709551615 := wf_k hw
    exact ⟨n.toNat, by omega, by rw [Int.toNat_of_nonneg this.1]⟩
theorem rd_set {d : Nat} {s : List AVal} (h : shp Tryd.prog d 38 s) : ∃ A : Nat, A < 2 ^ 256 ∧ s = setL A := by
  cases d with
  | zero => exact h.elim
  | succ d =>
    simp only [shp, ti38, shpN] at h
    obtain ⟨x0, _, rfl, h0, x1, _, rfl, h1, x2, _, rfl, h2, x3, _, rfl, h3, rfl⟩ := h
    obtain ⟨a, ha, rfl⟩ := rd_word h0
    obtain ⟨b, hb, rfl⟩ := rd_word h1
    obtain ⟨c, hc, rfl⟩ := rd_word h2
    obtain ⟨e, he, rfl⟩ := rd_word h3
    obtain ⟨k0, k1, k2, k3⟩ := wd_sum a b c e ha hb hc he
    refine ⟨a + 2 ^ 64 * b + 2 ^ 128 * c + 2 ^ 192 * e, by omega, ?_⟩
    simp only [setL, k0, k1, k2, k3]
    rfl
theorem max_lt {n : Nat} (h : n ≤ maxLen) : n < 9223372036854775808 := by
  have : maxLen = 9223372036854775807 := rfl
  omega
theorem rd_bytes {d : Nat} {s : List AVal} (h : shp Tryd.prog d 29 s) : ∃ l : List Nat, (l.length < 9223372036854775808 ∧ ∀ n ∈ l, n < 256) ∧ s = [slc c8 l] := by
  cases d with
  | zero => exact h.elim
  | succ d =>
    simp only [shp, ti29] at h
    obtain ⟨xs, rfl, hm, hx⟩ := h
    obtain ⟨l, h1, h2, h3⟩ := list_of (f := c8) (ok := fun n => n < 256) (fun x h => rd_u8 h) xs hx
    exact ⟨l, ⟨by rw [h1]; exact max_lt hm, h3⟩, by rw [← h1, h2]⟩
theorem c8_cU : ∀ l : List Nat, (∀ n ∈ l, n < 256) → slc c8 l = slc cU (l.map UInt8.ofNat) ∧ l.length = (l.map UInt8.ofNat).length := by
  intro l h
  refine ⟨?_, by simp⟩
  have : fl c8 l = fl cU (l.map UInt8.ofNat) := by
    induction l with
    | nil => rfl
    | cons n l ih =>
      have hn := h n (by simp)
      have e : (UInt8.ofNat n).toNat = n := by simp; omega
      simp only [List.map_cons, fl, ih fun m hm => h m (by simp [hm]), cU, c8, e]
  simp [slc, this]
theorem rd_cU {d : Nat} {s : List AVal} (h : shp Tryd.prog d 29 s) : ∃ l : List UInt8, l.length < 9223372036854775808 ∧ s = [slc cU l] := by
  obtain ⟨l, ⟨h1, h2⟩, rfl⟩ := rd_bytes h
  obtain ⟨e1, e2⟩ := c8_cU l h2
  exact ⟨l.map UInt8.ofNat, by omega, by rw [e1]⟩
theorem rd_Rx : ∀ (n d : Nat), d ≤ n → ∀ {s : List AVal}, shp Tryd.prog d 41 s → ∃ x : Rx, okW x ∧ s = cR x := by
  intro n
  induction n with
  | zero =>
    intro d hd s h
    obtain rfl : d = 0 := by omega
    exact h.elim
  | succ n ih =>
    intro d hd s h
    cases d with
    | zero => exact h.elim
    | succ d =>
      simp only [shp, ti41, shpFs] at h
      obtain ⟨x0, _, rfl, h0, x1, _, rfl, h1, x2, _, rfl, h2, x3, _, rfl, h3, x4, _, rfl, h4, rfl⟩ := h
      obtain ⟨k, hk, rfl⟩ := rd_int h0
      obtain ⟨A, hA, rfl⟩ := rd_set h1
      obtain ⟨lo, hlo, rfl⟩ := rd_int h2
      obtain ⟨hi, hhi, rfl⟩ := rd_int h3
      cases d with
      | zero => exact h4.elim
      | succ d =>
        simp only [shp, ti39] at h4
        obtain ⟨xs, rfl, hm, hx⟩ := h4
        obtain ⟨l, e1, e2, e3⟩ := list_of (f := cR) (ok := okW) (fun x h => ih d (by omega) h) xs hx
        refine ⟨.mk k A lo hi l, .mk (by omega) hA (by omega) (by omega) (by rw [e1]; exact max_lt hm) e3, ?_⟩
        rw [← e1, e2, cR, cRs_fl]
        simp
theorem rd_rx {d : Nat} {s : List AVal} (h : shp Tryd.prog d 41 s) : ∃ x : Rx, okW x ∧ s = cR x := rd_Rx d d (Nat.le_refl _) h
end Go.Hk.DD
