/- Layer 2: what the statements are handed. -/
import Derived.Test.YtpncchabnolnkaaHkA20
import Derived.Test.YtpncchabnolnkaaHkRead
set_option linter.unusedSimpArgs false
set_option linter.unusedVariables false
namespace Go.Hk.A
open Go.Proofs

theorem wf_k {k : IntKind} {n : Int} (h : (Lit.int k n).wf = true) : k.min ≤ n ∧ n ≤ k.max := by simpa [Lit.wf] using h
theorem rd_int {d : Nat} {s : List AVal} (h : shp Try.prog d 3 s) : ∃ n : Int, (-9223372036854775808 ≤ n ∧ n ≤ 9223372036854775807) ∧ s = [.int .i64 n] := by
  cases d with
  | zero => exact h.elim
  | succ d =>
    simp only [shp, ti3] at h
    obtain ⟨n, rfl, hw⟩ := h
    exact ⟨n, wf_k hw, rfl⟩
theorem rd_u8 {d : Nat} {s : List AVal} (h : shp Try.prog d 5 s) : ∃ n : Nat, n < 256 ∧ s = [.int .u8 (n : Nat)] := by
  cases d with
  | zero => exact h.elim
  | succ d =>
    simp only [shp, ti5] at h
    obtain ⟨n, rfl, hw⟩ := h
    have : 0 ≤ n ∧ n ≤ 255 := wf_k hw
    exact ⟨n.toNat, by omega, by rw [Int.toNat_of_nonneg this.1]⟩
theorem rd_word {d : Nat} {s : List AVal} (h : shp Try.prog d 22 s) : ∃ n : Nat, n < 18446744073709551616 ∧ s = [.int .u64 (n : Nat)] := by
  cases d with
  | zero => exact h.elim
  | succ d =>
    simp only [shp, ti22] at h
    obtain ⟨n, rfl, hw⟩ := h
    have : 0 ≤ n ∧ n ≤ 18446744073709551615 := wf_k hw
    exact ⟨n.toNat, by omega, by rw [Int.toNat_of_nonneg this.1]⟩
theorem rd_set {d : Nat} {s : List AVal} (h : shp Try.prog d 24 s) : ∃ A : Nat, A < 2 ^ 256 ∧ s = setL A := by
  cases d with
  | zero => exact h.elim
  | succ d =>
    simp only [shp, ti24, shpN] at h
    obtain ⟨x0, _, rfl, h0, x1, _, rfl, h1, x2, _, rfl, h2, x3, _, rfl, h3, rfl⟩ := h
    obtain ⟨a, ha, rfl⟩ := rd_word h0
    obtain ⟨b, hb, rfl⟩ := rd_word h1
    obtain ⟨c, hc, rfl⟩ := rd_word h2
    obtain ⟨e, he, rfl⟩ := rd_word h3
    obtain ⟨k0, k1, k2, k3⟩ := wd_sum a b c e ha hb hc he
    refine ⟨a + 2 ^ 64 * b + 2 ^ 128 * c + 2 ^ 192 * e, by omega, ?_⟩
    simp only [setL, k0, k1, k2, k3]
    rfl
theorem max_lt {n : Nat} (h : n ≤ maxLen) : n < 9223372036854775808 := by
  have : maxLen = 9223372036854775807 := rfl
  omega
theorem rd_sets {d : Nat} {s : List AVal} (h : shp Try.prog d 41 s) : ∃ l : List Nat, (l.length < 9223372036854775808 ∧ ∀ A ∈ l, A < 2 ^ 256) ∧ s = [setsV l] := by
  cases d with
  | zero => exact h.elim
  | succ d =>
    simp only [shp, ti41] at h
    obtain ⟨xs, rfl, hm, hx⟩ := h
    obtain ⟨l, h1, h2, h3⟩ := list_of (fun x h => rd_set h) xs hx
    exact ⟨l, ⟨by rw [h1]; exact max_lt hm, h3⟩, by rw [← h1, h2]⟩
theorem rd_quad {d : Nat} {s : List AVal} (h : shp Try.prog d 56 s) : ∃ q : Quad, quadOK q ∧ s = cQ q := by
  cases d with
  | zero => exact h.elim
  | succ d =>
    simp only [shp, ti56, shpN] at h
    obtain ⟨x0, _, rfl, h0, x1, _, rfl, h1, x2, _, rfl, h2, x3, _, rfl, h3, rfl⟩ := h
    obtain ⟨a, ha, rfl⟩ := rd_u8 h0
    obtain ⟨b, hb, rfl⟩ := rd_u8 h1
    obtain ⟨c, hc, rfl⟩ := rd_u8 h2
    obtain ⟨e, he, rfl⟩ := rd_u8 h3
    exact ⟨⟨a, b, c, e⟩, ⟨ha, hb, hc, he⟩, rfl⟩
theorem rd_quads {d : Nat} {s : List AVal} (h : shp Try.prog d 43 s) : ∃ l : List Quad, okQ l ∧ s = [slc cQ l] := by
  cases d with
  | zero => exact h.elim
  | succ d =>
    simp only [shp, ti43] at h
    obtain ⟨xs, rfl, hm, hx⟩ := h
    obtain ⟨l, h1, h2, h3⟩ := list_of (fun x h => rd_quad h) xs hx
    exact ⟨l, ⟨by rw [h1]; exact max_lt hm, h3⟩, by rw [← h1, h2]⟩
theorem rd_ints {d : Nat} {s : List AVal} (h : shp Try.prog d 32 s) : ∃ l : List Int, l.length < 9223372036854775808 ∧ s = [intV l] := by
  cases d with
  | zero => exact h.elim
  | succ d =>
    simp only [shp, ti32] at h
    obtain ⟨xs, rfl, hm, hx⟩ := h
    obtain ⟨l, h1, h2, h3⟩ := list_of (f := cI) (ok := fun _ => True) (fun x h => by obtain ⟨n, _, rfl⟩ := rd_int h; exact ⟨n, trivial, rfl⟩) xs hx
    have e : fl cI l = intL l := by
      clear h1 h2 h3
      induction l with
      | nil => rfl
      | cons x l ih => simp [fl, cI, intL, ih]
    exact ⟨l, by rw [h1]; exact max_lt hm, by rw [← h1, h2, e]; rfl⟩
end Go.Hk.A
