/- Values of the model's language ars values of Lean, there and back. -/
import Derived.Test.YtdimacffjdpkfaaHkQ15
import Derived.Test.YtdimacffjdpkfaaHkQ16
set_option linter.unusedSimpArgs false
namespace Go.Hk

structure Enc (α : Type) where
  enc : α → AVal
  dec : AVal → Option α
  ok : α → Prop
  de : ∀ x, ok x → dec (enc x) = some x
  ed : ∀ v x, dec v = some x → v = enc x ∧ ok x

section
variable {α β γ δ : Type}

variable {P : Program} {fid : FuncId}
end

/-! ### Numbers -/

/-! ### Sets -/
def decSet : AVal → Option Nat
  | .agg [.int .u64 a, .int .u64 b, .int .u64 c, .int .u64 d] =>
    if (0 ≤ a ∧ a < 18446744073709551616) ∧ (0 ≤ b ∧ b < 18446744073709551616) ∧ (0 ≤ c ∧ c < 18446744073709551616) ∧ (0 ≤ d ∧ d < 18446744073709551616) then
      some (a.toNat + 2 ^ 64 * b.toNat + 2 ^ 128 * c.toNat + 2 ^ 192 * d.toNat)
    else none
  | _ => none
theorem wd_sum (a b c d : Nat) (ha : a < 2 ^ 64) (hb : b < 2 ^ 64) (hc : c < 2 ^ 64) (hd : d < 2 ^ 64) :
    wd (a + 2 ^ 64 * b + 2 ^ 128 * c + 2 ^ 192 * d) 0 = a ∧ wd (a + 2 ^ 64 * b + 2 ^ 128 * c + 2 ^ 192 * d) 1 = b ∧ wd (a + 2 ^ 64 * b + 2 ^ 128 * c + 2 ^ 192 * d) 2 = c ∧ wd (a + 2 ^ 64 * b + 2 ^ 128 * c + 2 ^ 192 * d) 3 = d := by
  simp only [wd]
  refine ⟨by omega, by omega, by omega, by omega⟩
theorem sum_wd (A : Nat) (h : A < 2 ^ 256) : wd A 0 + 2 ^ 64 * wd A 1 + 2 ^ 128 * wd A 2 + 2 ^ 192 * wd A 3 = A := by
  simp only [wd]
  omega
def eSet : Enc Nat where
  enc := setV
  dec := decSet
  ok A := A < 2 ^ 256
  de A h := by
    have w (k : Nat) : (0 : Int) ≤ (wd A k : Nat) ∧ ((wd A k : Nat) : Int) < 18446744073709551616 := ⟨Int.natCast_nonneg _, Int.ofNat_lt.mpr (wd_lt A k)⟩
    simp only [setV, setL, decSet, w, and_self, if_true, Int.toNat_natCast]
    rw [sum_wd A h]
  ed v A h := by
    unfold decSet at h
    split at h
    · rename_i a b c d
      split at h
      · rename_i hc
        obtain ⟨ha, hb, hc, hd⟩ := hc
        simp only [Option.some.injEq] at h
        subst h
        obtain ⟨h0, h1, h2, h3⟩ := wd_sum a.toNat b.toNat c.toNat d.toNat (by omega) (by omega) (by omega) (by omega)
        refine ⟨?_, by omega⟩
        simp only [setV, setL, h0, h1, h2, h3, Int.toNat_of_nonneg ha.1, Int.toNat_of_nonneg hb.1, Int.toNat_of_nonneg hc.1, Int.toNat_of_nonneg hd.1]
      · cases h
    · cases h

/-! ### Lists -/
/-! ### Sets by their bits -/
def mk (p : Nat → Bool) : Nat → Nat
  | 0 => 0
  | n + 1 => if p n then mk p n ||| 2 ^ n else mk p n
theorem mk_bit (p : Nat → Bool) (n i : Nat) : (mk p n).testBit i = (decide (i < n) && p i) := by
  induction n with
  | zero => simp [mk]
  | succ n ih =>
    simp only [mk]
    by_cases h : n = i
    · subst h
      cases hp : p n <;> simp [hp, Nat.testBit_or, ih, Nat.testBit_two_pow]
    · have e : (i < n + 1) = (i < n) := by apply propext; omega
      cases hp : p n <;> simp [Nat.testBit_or, ih, Nat.testBit_two_pow, h, e]
theorem mk_lt (p : Nat → Bool) (n : Nat) : mk p n < 2 ^ n := by
  induction n with
  | zero => simp [mk]
  | succ n ih =>
    have h1 : 2 ^ n < 2 ^ (n + 1) := Nat.pow_lt_pow_right (by decide) (by omega)
    simp only [mk]
    split
    · exact Nat.or_lt_two_pow (by omega) h1
    · omega
theorem mk_lt256 (p : Nat → Bool) (n : Nat) (h : n ≤ 256) : mk p n < 2 ^ 256 := Nat.lt_of_lt_of_le (mk_lt p n) (Nat.pow_le_pow_right (by decide) h)
end Go.Hk
namespace Go.Hk

/-! ### Appending one element -/
theorem okR_nx {T : List (Nat × (Nat × Nat))} {r : Rt} {a b : Nat} {sz : Nat × Nat} (h : okR T r a sz = true) : okR (nxT T r b sz) (nxR T r) b sz = true := by
  cases r with
  | no => simp [okR] at h
  | full => simp [nxT, nxR, okR]
  | nil => simp [nxT, nxR, okR]
  | tok t =>
    simp only [okR, beq_iff_eq] at h
    have := (List.getElem?_eq_some_iff.1 h).1
    simp [nxT, nxR, okR, this]
/-! ### Words and bits -/
def notN (A : Nat) : Nat := mk (fun i => !A.testBit i) 256
theorem mk_step {p : Nat → Bool} {n : Nat} : mk p (n + 1) = if p n then mk p n ||| 2 ^ n else mk p n := rfl
theorem notN_lt (A : Nat) : notN A < 2 ^ 256 := mk_lt _ _

/-! ### Letters -/
def oth (b : Nat) : Nat := if 97 ≤ b ∧ b ≤ 122 then b - 32 else if 65 ≤ b ∧ b ≤ 90 then b + 32 else b
/-! ### Lists of what is in a set -/
def lst (A : Nat) : Nat → List Int
  | 0 => []
  | n + 1 => if A.testBit n then lst A n ++ [(n : Int)] else lst A n
end Go.Hk
namespace Go.Hk
/-! ### Both cases of all letters, word by word -/
end Go.Hk
namespace Go.Hk
/-! ### What may be written, read at the end -/
theorem view_msl_eq {m : AMem} {k b e o n l : Nat} : view (k + 1) m (.msl b e o n l) = (match m.H[b]? with
    | some (.cells e' cs) => if e = e' ∧ o + l ≤ cs.length then (match optMap (view k m) ((cs.drop o).take l) with | some ds => some (.sl .no n ds) | none => none) else none
    | _ => none) := by simp only [view, strip]; rfl
theorem optMap_strip {f : AVal → Option AVal} : ∀ (cs ds : List AVal), stripL cs = some ds → (∀ v u, strip v = some u → f v = some u) → optMap f cs = some ds
  | [], ds, h, _ => by simpa [optMap, stripL] using h
  | v :: cs, ds, h, hf => by
    simp only [stripL] at h
    split at h
    · rename_i x y hx hy
      cases h
      simp only [optMap, hf _ _ hx, optMap_strip cs y hy hf]
    · cases h
end Go.Hk
