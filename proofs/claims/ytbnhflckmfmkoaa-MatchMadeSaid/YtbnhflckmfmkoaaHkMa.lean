/- Layer 5, the plain law: from where to where a pattern goes. -/
import Derived.Test.YtbnhflckmfmkoaaHkPg
set_option linter.unusedSimpArgs false
set_option linter.unusedVariables false
namespace Go.Hk
abbrev Pl := Nat → Nat → Prop
/-- So many rounds. -/
def iter (r : Pl) : Nat → Pl
  | 0 => fun i j => i = j
  | n + 1 => fun i j => ∃ k, iter r n i k ∧ r k j
theorem iter_add (r : Pl) (m : Nat) : ∀ (n : Nat) (i j : Nat), (∃ k, iter r m i k ∧ iter r n k j) ↔ iter r (m + n) i j
  | 0, i, j => by simp [iter]
  | n + 1, i, j => by
    have ih := iter_add r m n
    constructor
    · rintro ⟨k, h1, l, h2, h3⟩
      exact ⟨l, (ih i l).1 ⟨k, h1, h2⟩, h3⟩
    · rintro ⟨l, h2, h3⟩
      obtain ⟨k, h1, h4⟩ := (ih i l).2 h2
      exact ⟨k, h1, l, h4, h3⟩
/-- A loop without end, from at most one. -/
def loopy (y : Rx) : Bool := decide (y.k = 5) && decide (y.hi < 0) && decide (y.lo ≤ 1)
/-- How many rounds more: so many, or any number. -/
def more (lo hi : Int) (y : Rx) : Option Nat := if 0 ≤ hi then some (hi - lo).toNat else if loopy y then some (1 - lo).toNat else none
def upTo (o : Option Nat) (n : Nat) : Prop := match o with | some m => n ≤ m | none => True
mutual
def R (t : List UInt8) : Rx → Pl
  | .mk k s lo hi l => fun i j =>
    if k = 2 then i < t.length ∧ s.testBit (t.getD i 0).toNat = true ∧ j = i + 1
    else if k = 3 then Rall t l i j
    else if k = 4 then Rany t l i j
    else if k = 5 then (if size (.mk k s lo hi l) = 0 then i = j else (match l with | y :: _ => ∃ n, upTo (more lo hi y) n ∧ iter (R t y) (lo.toNat + n) i j | [] => i = j))
    else i = j
def Rall (t : List UInt8) : List Rx → Pl
  | [] => fun i j => i = j
  | x :: l => fun i j => ∃ k, R t x i k ∧ Rall t l k j
def Rany (t : List UInt8) : List Rx → Pl
  | [] => fun _ _ => False
  | x :: l => fun i j => R t x i j ∨ Rany t l i j
end
end Go.Hk
