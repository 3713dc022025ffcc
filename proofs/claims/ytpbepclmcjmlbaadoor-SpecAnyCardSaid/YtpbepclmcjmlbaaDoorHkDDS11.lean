/- Layer 6: what the statements are handed. -/
import Derived.Test.YtpbepclmcjmlbaaDoorHkDDS10
import Derived.Test.YtpbepclmcjmlbaaDoorHkDDRD
set_option linter.unusedSimpArgs false
set_option linter.unusedVariables false
namespace Go.Hk.DD
open Go.Proofs

theorem rd_bool {d : Nat} {s : List AVal} (h : shp Tryd.prog d 4 s) : ∃ b : Bool, s = [.bool b] := by
  cases d with
  | zero => exact h.elim
  | succ d =>
    simp only [shp, ti4] at h
    exact h
theorem rd_str {d : Nat} {s : List AVal} (h : shp Tryd.prog d 9 s) : ∃ b : List UInt8, b.length < 9223372036854775808 ∧ s = [.str b] := by
  cases d with
  | zero => exact h.elim
  | succ d =>
    simp only [shp, ti9] at h
    obtain ⟨b, rfl, hb⟩ := h
    exact ⟨b, max_lt hb, rfl⟩
theorem rd_ints {d : Nat} {s : List AVal} (h : shp Tryd.prog d 35 s) : ∃ l : List Int, l.length < 9223372036854775808 ∧ s = [slc cI l] := by
  cases d with
  | zero => exact h.elim
  | succ d =>
    simp only [shp, ti35] at h
    obtain ⟨xs, rfl, hm, hx⟩ := h
    obtain ⟨l, h1, h2, _⟩ := list_of (f := cI) (ok := fun _ => True) (fun x h => by obtain ⟨n, _, rfl⟩ := rd_int h; exact ⟨n, trivial, rfl⟩) xs hx
    exact ⟨l, by rw [h1]; exact max_lt hm, by rw [slc, h1, h2]⟩
theorem rd_cond {d : Nat} {s : List AVal} (h : shp Tryd.prog d 45 s) : ∃ c : Cd, c.name.length < 9223372036854775808 ∧ s = cCd c := by
  cases d with
  | zero => exact h.elim
  | succ d =>
    simp only [shp, ti45, shpFs] at h
    obtain ⟨x0, _, rfl, h0, x1, _, rfl, h1, rfl⟩ := h
    obtain ⟨b, hb, rfl⟩ := rd_str h0
    obtain ⟨e, rfl⟩ := rd_bool h1
    exact ⟨⟨b, e⟩, hb, rfl⟩
theorem rd_rule {d : Nat} {s : List AVal} (h : shp Tryd.prog d 43 s) : ∃ q : Ru, okRu q ∧ s = cRu q := by
  cases d with
  | zero => exact h.elim
  | succ d =>
    simp only [shp, ti43, shpFs] at h
    obtain ⟨x0, _, rfl, h0, x1, _, rfl, h1, x2, _, rfl, h2, x3, _, rfl, h3, x4, _, rfl, h4, x5, _, rfl, h5, x6, _, rfl, h6, x7, _, rfl, h7, rfl⟩ := h
    obtain ⟨l, hl, rfl⟩ := rd_ints h0
    obtain ⟨all, rfl⟩ := rd_bool h1
    obtain ⟨bol, rfl⟩ := rd_bool h2
    obtain ⟨x, hx, rfl⟩ := rd_rx h3
    obtain ⟨y, hy, rfl⟩ := rd_rx h4
    obtain ⟨e, rfl⟩ := rd_bool h5
    obtain ⟨a, _, rfl⟩ := rd_int h6
    obtain ⟨t, _, rfl⟩ := rd_int h7
    exact ⟨⟨l, all, bol, x, y, e, a, t⟩, ⟨hl, hx, hy⟩, by simp [cRu, slc]⟩
theorem rd_spec {d : Nat} {s : List AVal} (h : shp Tryd.prog d 25 s) : ∃ u : Sp, okSp u ∧ s = cSp u := by
  cases d with
  | zero => exact h.elim
  | succ d =>
    simp only [shp, ti25, shpFs] at h
    obtain ⟨x0, _, rfl, h0, x1, _, rfl, h1, x2, _, rfl, h2, rfl⟩ := h
    obtain ⟨b, rfl⟩ := rd_bool h1
    cases d with
    | zero => exact h0.elim
    | succ d =>
      simp only [shp, ti22] at h0
      simp only [shp, ti23] at h2
      obtain ⟨xs, rfl, hm, hx⟩ := h0
      obtain ⟨ys, rfl, hm2, hy⟩ := h2
      obtain ⟨l, e1, e2, e3⟩ := list_of (f := cCd) (ok := fun c => c.name.length < 9223372036854775808) (fun x h => rd_cond h) xs hx
      obtain ⟨q, g1, g2, g3⟩ := list_of (f := cRu) (ok := okRu) (fun x h => rd_rule h) ys hy
      exact ⟨⟨l, b, q⟩, ⟨by rw [e1]; exact max_lt hm, by rw [g1]; exact max_lt hm2, e3, g3⟩, by simp [cSp, e1, e2, g1, g2]⟩
end Go.Hk.DD
