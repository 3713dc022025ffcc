/- Layer 5, the plain law: from where to where a pattern goes. -/
import Derived.Test.YtbnhflckmfmkoaaHkPg
set_option linter.unusedSimpArgs false
set_option linter.unusedVariables false
namespace Go.Hk
abbrev Pl := Nat → Nat → Prop
/-- So many rounds. -/
def iter (r : Pl) : Nat → Pl
  | 0 => fun i j => i = j
  | n + 1 => fun i j => ∃ k, iter r n i k ∧ r k j
theorem iter_add (r : Pl) (m : Nat) : ∀ (n : Nat) (i j : Nat), (∃ k, iter r m i k ∧ iter r n k j) ↔ iter r (m + n) i j
  | 0, i, j => by simp [iter]
  | n + 1, i, j => by
    have ih := iter_add r m n
    constructor
    · rintro ⟨k, h1, l, h2, h3⟩
      exact ⟨l, (ih i l).1 ⟨k, h1, h2⟩, h3⟩
    · rintro ⟨l, h2, h3⟩
      obtain ⟨k, h1, h4⟩ := (ih i l).2 h2
      exact ⟨k, h1, l, h4, h3⟩
/-- A loop without end, from at most one. -/
def loopy (y : Rx) : Bool := decide (y.k = 5) && decide (y.hi < 0) && decide (y.lo ≤ 1)
/-- How many rounds more: so many, or any number. -/
def more (lo hi : Int) (y : Rx) : Option Nat := if 0 ≤ hi then some (hi - lo).toNat else if loopy y then some (1 - lo).toNat else none
def upTo (o : Option Nat) (n : Nat) : Prop := match o with | some m => n ≤ m | none => True
mutual
def R (t : List UInt8) : Rx → Pl
  | .mk k s lo hi l => fun i j =>
    if k = 2 then i < t.length ∧ s.testBit (t.getD i 0).toNat = true ∧ j = i + 1
    else if k = 3 then Rall t l i j
    else if k = 4 then Rany t l i j
    else if k = 5 then (if size (.mk k s lo hi l) = 0 then i = j else (match l with | y :: _ => ∃ n, upTo (more lo hi y) n ∧ iter (R t y) (lo.toNat + n) i j | [] => i = j))
    else i = j
def Rall (t : List UInt8) : List Rx → Pl
  | [] => fun i j => i = j
  | x :: l => fun i j => ∃ k, R t x i k ∧ Rall t l k j
def Rany (t : List UInt8) : List Rx → Pl
  | [] => fun _ _ => False
  | x :: l => fun i j => R t x i j ∨ Rany t l i j
end
theorem iter_mono {r : Pl} (h : ∀ i j, r i j → i ≤ j) : ∀ (n i j : Nat), iter r n i j → i ≤ j
  | 0, i, j, e => by simp only [iter] at e; omega
  | n + 1, i, j, ⟨k, h1, h2⟩ => Nat.le_trans (iter_mono h n i k h1) (h k j h2)
theorem Rall_mono {t : List UInt8} : ∀ (l : List Rx), (∀ x ∈ l, ∀ i j, R t x i j → i ≤ j) → ∀ i j, Rall t l i j → i ≤ j
  | [], _, i, j, e => by simp only [Rall] at e; omega
  | x :: l, h, i, j, e => by
    simp only [Rall] at e
    obtain ⟨k, h1, h2⟩ := e
    exact Nat.le_trans (h x (by simp) i k h1) (Rall_mono l (fun y hy => h y (by simp [hy])) k j h2)
theorem Rany_mono {t : List UInt8} : ∀ (l : List Rx), (∀ x ∈ l, ∀ i j, R t x i j → i ≤ j) → ∀ i j, Rany t l i j → i ≤ j
  | [], _, i, j, e => by simp only [Rany] at e
  | x :: l, h, i, j, e => by
    simp only [Rany] at e
    rcases e with e | e
    · exact h x (by simp) i j e
    · exact Rany_mono l (fun y hy => h y (by simp [hy])) i j e
theorem R_mono (t : List UInt8) (x : Rx) : ∀ i j, R t x i j → i ≤ j := by
  induction x using Rx.ind with
  | h x ih =>
    obtain ⟨k, s, lo, hi, l⟩ := x
    intro i j h
    rw [R] at h
    have ih : ∀ y ∈ l, ∀ i j, R t y i j → i ≤ j := ih
    split at h
    · omega
    · split at h
      · exact Rall_mono l ih i j h
      · split at h
        · exact Rany_mono l ih i j h
        · split at h
          · split at h
            · omega
            · split at h
              · obtain ⟨n, _, hn⟩ := h
                exact iter_mono (ih _ List.mem_cons_self) _ i j hn
              · omega
          · omega
/-- The same on a piece of the text. -/
theorem iter_cut {r q : Pl} {a b : Nat} (hq : ∀ i j, q i j → i ≤ j) (hr : ∀ i j, r i j → i ≤ j) (h : ∀ i j, j ≤ b → (r i j ↔ q (a + i) (a + j))) : ∀ (n i j : Nat), j ≤ b → (iter r n i j ↔ iter q n (a + i) (a + j))
  | 0, i, j, _ => by simp only [iter]; omega
  | n + 1, i, j, hj => by
    simp only [iter]
    constructor
    · rintro ⟨k, h1, h2⟩
      have := hr k j h2
      exact ⟨a + k, (iter_cut hq hr h n i k (by omega)).1 h1, (h k j hj).1 h2⟩
    · rintro ⟨k, h1, h2⟩
      have e1 := iter_mono hq n (a + i) k h1
      have e2 := hq k (a + j) h2
      obtain ⟨k, rfl⟩ : ∃ k', k = a + k' := ⟨k - a, by omega⟩
      exact ⟨k, (iter_cut hq hr h n i k (by omega)).2 h1, (h k j hj).2 h2⟩
theorem Rall_cut {t u : List UInt8} {a b : Nat} : ∀ (l : List Rx), (∀ x ∈ l, ∀ i j, j ≤ b → (R u x i j ↔ R t x (a + i) (a + j))) → ∀ i j, j ≤ b → (Rall u l i j ↔ Rall t l (a + i) (a + j))
  | [], _, i, j, _ => by simp only [Rall]; omega
  | x :: l, h, i, j, hj => by
    simp only [Rall]
    have ih := Rall_cut l (fun y hy => h y (by simp [hy]))
    constructor
    · rintro ⟨k, h1, h2⟩
      have := Rall_mono l (fun y _ => R_mono u y) k j h2
      exact ⟨a + k, (h x (by simp) i k (by omega)).1 h1, (ih k j hj).1 h2⟩
    · rintro ⟨k, h1, h2⟩
      have e1 := R_mono t x (a + i) k h1
      have e2 := Rall_mono l (fun y _ => R_mono t y) k (a + j) h2
      obtain ⟨k, rfl⟩ : ∃ k', k = a + k' := ⟨k - a, by omega⟩
      exact ⟨k, (h x (by simp) i k (by omega)).2 h1, (ih k j hj).2 h2⟩
theorem Rany_cut {t u : List UInt8} {a b : Nat} : ∀ (l : List Rx), (∀ x ∈ l, ∀ i j, j ≤ b → (R u x i j ↔ R t x (a + i) (a + j))) → ∀ i j, j ≤ b → (Rany u l i j ↔ Rany t l (a + i) (a + j))
  | [], _, i, j, _ => by simp only [Rany]
  | x :: l, h, i, j, hj => by
    simp only [Rany]
    rw [h x (by simp) i j hj, Rany_cut l (fun y hy => h y (by simp [hy])) i j hj]
theorem R_cut {t : List UInt8} {a b : Nat} (hb : a + b ≤ t.length) (x : Rx) : ∀ i j, j ≤ b → (R ((t.drop a).take b) x i j ↔ R t x (a + i) (a + j)) := by
  induction x using Rx.ind with
  | h x ih =>
    obtain ⟨k, s, lo, hi, l⟩ := x
    intro i j hj
    have ih : ∀ y ∈ l, ∀ i j, j ≤ b → (R ((t.drop a).take b) y i j ↔ R t y (a + i) (a + j)) := ih
    have hlen : ((t.drop a).take b).length = b := by simp; omega
    rw [R, R]
    split
    · rw [hlen]
      constructor
      · rintro ⟨h1, h2, h3⟩
        refine ⟨by omega, ?_, by omega⟩
        rw [List.getD_eq_getElem?_getD, List.getElem?_take, if_pos h1, List.getElem?_drop, ← List.getD_eq_getElem?_getD] at h2
        exact h2
      · rintro ⟨h1, h2, h3⟩
        have h4 : i < b := by omega
        refine ⟨h4, ?_, by omega⟩
        rw [List.getD_eq_getElem?_getD, List.getElem?_take, if_pos h4, List.getElem?_drop, ← List.getD_eq_getElem?_getD]
        exact h2
    · split
      · exact Rall_cut l ih i j hj
      · split
        · exact Rany_cut l ih i j hj
        · split
          · split
            · omega
            · split
              · constructor
                · rintro ⟨n, h1, h2⟩
                  exact ⟨n, h1, (iter_cut (R_mono _ _) (R_mono _ _) (ih _ List.mem_cons_self) _ i j hj).1 h2⟩
                · rintro ⟨n, h1, h2⟩
                  exact ⟨n, h1, (iter_cut (R_mono _ _) (R_mono _ _) (ih _ List.mem_cons_self) _ i j hj).2 h2⟩
              · omega
          · omega
end Go.Hk
