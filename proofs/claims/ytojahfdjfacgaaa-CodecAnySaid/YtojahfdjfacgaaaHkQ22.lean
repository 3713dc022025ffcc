/- Values of the model's language ars values of Lean, there and back. -/
import Derived.Test.YtojahfdjfacgaaaHkQ20
import Derived.Test.YtojahfdjfacgaaaHkQ21
set_option linter.unusedSimpArgs false
namespace Go.Hk

section
variable {α β γ δ : Type}

variable {P : Program} {fid : FuncId}
end

/-! ### Numbers -/

/-! ### Sets -/
/-! ### Lists -/
/-! ### Sets by their bits -/
def mk (p : Nat → Bool) : Nat → Nat
  | 0 => 0
  | n + 1 => if p n then mk p n ||| 2 ^ n else mk p n
end Go.Hk
namespace Go.Hk

/-! ### Appending one element -/
theorem okR_nx {T : List (Nat × (Nat × Nat))} {r : Rt} {a b : Nat} {sz : Nat × Nat} (h : okR T r a sz = true) : okR (nxT T r b sz) (nxR T r) b sz = true := by
  cases r with
  | no => simp [okR] at h
  | full => simp [nxT, nxR, okR]
  | nil => simp [nxT, nxR, okR]
  | tok t =>
    simp only [okR, beq_iff_eq] at h
    have := (List.getElem?_eq_some_iff.1 h).1
    simp [nxT, nxR, okR, this]
/-! ### Words and bits -/
/-! ### Letters -/
def oth (b : Nat) : Nat := if 97 ≤ b ∧ b ≤ 122 then b - 32 else if 65 ≤ b ∧ b ≤ 90 then b + 32 else b
/-! ### Lists of what is in a set -/
def lst (A : Nat) : Nat → List Int
  | 0 => []
  | n + 1 => if A.testBit n then lst A n ++ [(n : Int)] else lst A n
end Go.Hk
namespace Go.Hk
/-! ### Both cases of all letters, word by word -/
end Go.Hk
namespace Go.Hk
/-! ### What may be written, read at the end -/
theorem view_msl_eq {m : AMem} {k b e o n l : Nat} : view (k + 1) m (.msl b e o n l) = (match m.H[b]? with
    | some (.cells e' cs) => if e = e' ∧ o + l ≤ cs.length then (match optMap (view k m) ((cs.drop o).take l) with | some ds => some (.sl .no n ds) | none => none) else none
    | _ => none) := by simp only [view, strip]; rfl
theorem optMap_strip {f : AVal → Option AVal} : ∀ (cs ds : List AVal), stripL cs = some ds → (∀ v u, strip v = some u → f v = some u) → optMap f cs = some ds
  | [], ds, h, _ => by simpa [optMap, stripL] using h
  | v :: cs, ds, h, hf => by
    simp only [stripL] at h
    split at h
    · rename_i x y hx hy
      cases h
      simp only [optMap, hf _ _ hx, optMap_strip cs y hy hf]
    · cases h
end Go.Hk
