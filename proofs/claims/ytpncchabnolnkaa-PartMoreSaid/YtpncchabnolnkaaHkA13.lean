/- Layer 2: the document's classes. -/
import Derived.Test.YtpncchabnolnkaaHkA12
set_option linter.unusedSimpArgs false
set_option linter.unusedVariables false
namespace Go.Hk.A
open Go.Proofs

abbrev Rsm (l : List Nat) : Nat → Nat → Bool := fun a b => sameB l a b
abbrev firstS (l : List Nat) (b : Nat) : Nat → Nat → Option Nat := firstR (Rsm l) b
abbrev cls (l : List Nat) : Nat → List Int × Nat := cn (Rsm l)
def okS (l : List Nat) : Prop := l.length < 1000000000 ∧ ∀ A ∈ l, A < 2 ^ 256
theorem setsV_inj {l r : List Nat} (hl : okS l) (hr : okS r) (h : setsV l = setsV r) : l = r := slc_inj setL_len (fun x hx y hy => setL_inj' (hl.2 x hx) (hr.2 y hy)) h
noncomputable def iSame : List AVal → Option AVal := pimp fun xs r => ∃ (l : List Nat) (a : Int) (b : Int), (okS l) ∧ xs = [setsV l, .int .i64 a, .int .i64 b] ∧ r = .bool (sameB l a b)
theorem iSame_eq {l : List Nat} {a : Int} {b : Int} (h : okS l) : iSame [setsV l, .int .i64 a, .int .i64 b] = some (.bool (sameB l a b)) := pimp_eq ⟨l, a, b, h, rfl, rfl⟩ (by rintro _ ⟨l', a', b', h', e, rfl⟩; simp only [List.cons.injEq, AVal.int.injEq, and_true, true_and] at e; obtain ⟨e1, rfl, rfl⟩ := e; rw [setsV_inj h' h e1.symm])
theorem iSame_call : ∀ xs v, iSame xs = some v → PCall Try.prog 48 xs v := fun xs v h0 => by obtain ⟨l, a, b, h, rfl, rfl⟩ := pimp_spec h0; exact w48 l a b h.1 h.2
end Go.Hk.A
