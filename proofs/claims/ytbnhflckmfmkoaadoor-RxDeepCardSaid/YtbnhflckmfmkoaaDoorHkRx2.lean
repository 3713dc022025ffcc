/- Layer 3, the plain law: which patterns may be; which are the same; which match nothing. -/
import Derived.Test.YtbnhflckmfmkoaaDoorHkRx
set_option linter.unusedSimpArgs false
set_option linter.unusedVariables false
namespace Go.Hk
/-! ### What is asked of the elements of a list -/
section
variable {α : Type} {p : α → Bool} {l : List α} {i : Nat} {x : α}
/-- The place of the first one of which p. -/
def idx (p : α → Bool) : List α → Int
  | [] => -1
  | x :: l => if p x then 0 else if idx p l < 0 then -1 else idx p l + 1
theorem idx_bd : ∀ l : List α, -1 ≤ idx p l ∧ idx p l < l.length
  | [] => by simp [idx]
  | x :: l => by
    have := idx_bd l
    simp only [idx, List.length_cons]
    split
    · omega
    · split <;> omega
theorem idx_any : ∀ l : List α, decide (0 ≤ idx p l) = l.any p
  | [] => by simp [idx]
  | x :: l => by
    have h := idx_any l
    have hb := idx_bd (p := p) l
    simp only [idx, List.any_cons]
    by_cases hp : p x = true
    · simp [hp]
    · rw [← h]
      simp only [Bool.not_eq_true] at hp
      simp only [hp, Bool.false_or, Bool.false_eq_true, if_false]
      split <;> simp <;> omega
theorem idx_none (h : ∀ x ∈ l, p x = false) : idx p l = -1 := by
  induction l with
  | nil => rfl
  | cons y l ih => rw [idx, h y (by simp), ih fun z hz => h z (by simp [hz])]; simp
theorem idx_at : ∀ {l : List α} {i : Nat}, l[i]? = some x → (∀ y ∈ l.take i, p y = false) → p x = true → idx p l = i
  | y :: l, 0, hx, _, hp => by
    simp only [List.getElem?_cons_zero, Option.some.injEq] at hx
    subst hx
    rw [idx, hp]; simp
  | y :: l, i + 1, hx, hi, hp => by
    rw [idx, hi y (by simp), idx_at (l := l) (i := i) (by simpa using hx) (fun z hz => hi z (by simp [hz])) hp]
    simp
    omega
theorem upto_next (h : ∀ y ∈ l.take i, p y = false) (hx : l[i]? = some x) (hp : p x = false) : ∀ y ∈ l.take (i + 1), p y = false := by
  obtain ⟨hi, rfl⟩ := List.getElem?_eq_some_iff.1 hx
  intro y hy
  rw [List.take_succ_eq_append_getElem hi, List.mem_append, List.mem_singleton] at hy
  rcases hy with hy | rfl
  · exact h y hy
  · exact hp
theorem any_none (h : ∀ x ∈ l, p x = false) : l.any p = false := by
  rw [← idx_any, idx_none h]; rfl
theorem any_at (hx : l[i]? = some x) (hp : p x = true) : l.any p = true := List.any_eq_true.2 ⟨x, List.mem_of_getElem? hx, hp⟩
theorem all_of (h : ∀ y ∈ l, p y = true) : l.all p = true := List.all_eq_true.2 h
theorem all_not (hx : l[i]? = some x) (hp : p x = false) : l.all p = false := by
  rw [Bool.eq_false_iff, Ne, List.all_eq_true]
  intro h
  rw [h x (List.mem_of_getElem? hx)] at hp
  cases hp
end
/-! ### Which may be -/
def times (lo hi : Int) : Bool := decide (0 ≤ lo) && decide (lo ≤ 20) && (decide (hi = -1) || decide (imax 1 lo ≤ hi) && decide (hi ≤ 20))
def own (x : Rx) : Bool :=
  if x.k = 5 then decide (x.s = 0) && decide (x.l.length = 1) && times x.lo x.hi
  else if x.k = 1 ∨ x.k = 2 then (decide (x.s = 0) == decide (x.k = 1)) && decide (x.lo = 0) && decide (x.hi = 0) && decide (x.l.length = 0)
  else if x.k = 3 ∨ x.k = 4 then decide (x.s = 0) && decide (x.lo = 0) && decide (x.hi = 0) && decide (2 ≤ x.l.length)
  else false
/-- A part of another kind, but in a Rep. -/
def unlike (k : Int) (y : Rx) : Bool := !(decide (y.k = k) && decide (k ≠ 5))
mutual
def right : Rx → Int → Bool
  | .mk k s lo hi l, d => decide (0 < d) && own (.mk k s lo hi l) && rights k l (d - 1)
def rights : Int → List Rx → Int → Bool
  | _, [], _ => true
  | k, y :: l, d => unlike k y && right y d && rights k l d
end
def rodd (x : Rx) (d : Int) (y : Rx) : Bool := decide (y.k = x.k) && decide (x.k ≠ 5) || !right y (d - 1)
theorem rights_any (x : Rx) (d : Int) : ∀ l : List Rx, rights x.k l (d - 1) = !l.any (rodd x d)
  | [] => by rw [rights]; rfl
  | y :: l => by
    rw [rights, rights_any x d l, List.any_cons, rodd, unlike]
    cases decide (y.k = x.k) <;> cases decide (x.k ≠ 5) <;> cases right y (d - 1) <;> simp
theorem right_eq (x : Rx) (d : Int) : right x d = (decide (0 < d) && own x && !x.l.any (rodd x d)) := by
  rw [← rights_any]; cases x; rw [right]; rfl
theorem right_kid {x y : Rx} {d : Int} (h : right x d = true) (hy : y ∈ x.l) : right y (d - 1) = true := by
  rw [right_eq, Bool.and_eq_true, Bool.not_eq_true', ← Bool.not_eq_true] at h
  have h2 := h.2
  rw [List.any_eq_true] at h2
  cases hr : right y (d - 1)
  · exact absurd ⟨y, hy, by simp [rodd, hr]⟩ h2
  · rfl
theorem right_pos {x : Rx} {d : Int} (h : right x d = true) : 0 < d := by
  rw [right_eq, Bool.and_eq_true, Bool.and_eq_true] at h
  exact of_decide_eq_true h.1.1
theorem right_own {x : Rx} {d : Int} (h : right x d = true) : own x = true := by
  rw [right_eq, Bool.and_eq_true, Bool.and_eq_true] at h
  exact h.1.2
theorem right_unlike {x y : Rx} {d : Int} (h : right x d = true) (hy : y ∈ x.l) : unlike x.k y = true := by
  rw [right_eq, Bool.and_eq_true, Bool.not_eq_true', ← Bool.not_eq_true] at h
  have h2 := h.2
  rw [List.any_eq_true] at h2
  cases hr : unlike x.k y
  · exact absurd ⟨y, hy, by rw [rodd, Bool.or_eq_true]; left; simpa [unlike] using hr⟩ h2
  · rfl
/-- Of some depth. -/
def inR (x : Rx) : Prop := ∃ d, right x d = true
theorem inR.kid {x y : Rx} (h : inR x) (hy : y ∈ x.l) : inR y := by obtain ⟨d, h⟩ := h; exact ⟨d - 1, right_kid h hy⟩
theorem inR.own {x : Rx} (h : inR x) : Hk.own x = true := by obtain ⟨d, h⟩ := h; exact right_own h
theorem inR.unlike {x y : Rx} (h : inR x) (hy : y ∈ x.l) : Hk.unlike x.k y = true := by obtain ⟨d, h⟩ := h; exact right_unlike h hy
/-- The kinds of patterns that may be. -/
theorem inR.cases {x : Rx} (h : inR x) : (x.k = 1 ∧ x.l = []) ∨ (x.k = 2 ∧ x.s ≠ 0 ∧ x.l = []) ∨ ((x.k = 3 ∨ x.k = 4) ∧ x.s = 0 ∧ 2 ≤ x.l.length) ∨ (x.k = 5 ∧ x.s = 0 ∧ times x.lo x.hi = true ∧ ∃ y, x.l = [y]) := by
  have h := h.own
  unfold Hk.own at h
  split at h
  · rename_i h5
    simp only [Bool.and_eq_true, decide_eq_true_eq] at h
    right; right; right
    refine ⟨h5, h.1.1, h.2, ?_⟩
    have hl := h.1.2
    match x.l, hl with
    | [y], _ => exact ⟨y, rfl⟩
  · split at h
    · rename_i h12
      simp only [Bool.and_eq_true, decide_eq_true_eq] at h
      have hl : x.l = [] := List.eq_nil_of_length_eq_zero h.2
      rcases h12 with h1 | h2
      · exact .inl ⟨h1, hl⟩
      · right; left
        refine ⟨h2, fun hs => ?_, hl⟩
        have := h.1.1.1
        rw [h2, hs] at this
        simp at this
    · split at h
      · rename_i h34
        simp only [Bool.and_eq_true, decide_eq_true_eq] at h
        exact .inr (.inr (.inl ⟨h34, h.1.1.1, h.2⟩))
      · cases h
def rightT (x : Rx) : Bool := right x 20 && decide (size x ≤ 200) && decide (0 ≤ nodes x 1000)
/-! ### Which are the same -/
section
variable {α : Type} {p : α → α → Bool} {l r : List α} {i : Nat} {x y : α}
/-- Two lists, element by element. -/
def all2 (p : α → α → Bool) : List α → List α → Bool
  | [], _ => true
  | x :: l, r => (match r with | y :: r => p x y && all2 p l r | [] => false)
def all2To (p : α → α → Bool) (l r : List α) (i : Nat) : Bool := all2 p (l.take i) (r.take i)
theorem all2_cons : all2 p (x :: l) (y :: r) = (p x y && all2 p l r) := rfl
theorem all2To_next : ∀ {l r : List α} {i : Nat} {x y : α}, l[i]? = some x → r[i]? = some y → all2To p l r (i + 1) = (all2To p l r i && p x y)
  | a :: l, b :: r, 0, x, y, hx, hy => by
    simp only [List.getElem?_cons_zero, Option.some.injEq] at hx hy
    subst hx; subst hy
    simp [all2To, all2, all2_cons]
  | a :: l, b :: r, i + 1, x, y, hx, hy => by
    have h := all2To_next (l := l) (r := r) (i := i) (by simpa using hx) (by simpa using hy)
    simp only [all2To, List.take_succ_cons, all2_cons] at h ⊢
    rw [h, Bool.and_assoc]
theorem all2To_zero : all2To p l r 0 = true := by simp [all2To, all2]
theorem all2To_all (h : l.length = r.length) : all2To p l r l.length = all2 p l r := by
  rw [all2To, List.take_length, h, List.take_length]
theorem all2To_le (h : l.length = r.length) : ∀ {j i : Nat}, i + j = l.length → all2To p l r i = false → all2 p l r = false := by
  intro j
  induction j with
  | zero => intro i hi hs; have : i = l.length := by omega
            subst this; rwa [all2To_all h] at hs
  | succ j ih =>
    intro i hi hs
    have h1 : l[i]? = some (l[i]'(by omega)) := by simp
    have h2 : r[i]? = some (r[i]'(by omega)) := by simp
    refine ih (i := i + 1) (by omega) ?_
    rw [all2To_next h1 h2, hs]; rfl
theorem all2_not (h : l.length = r.length) (hx : l[i]? = some x) (hy : r[i]? = some y) (hs : p x y = false) : all2 p l r = false := by
  have hi := (List.getElem?_eq_some_iff.1 hx).1
  refine all2To_le h (i := i + 1) (j := l.length - (i + 1)) (by omega) ?_
  rw [all2To_next hx hy, hs, Bool.and_false]
theorem all2To_step (hs : all2To p l r i = true) (hx : l[i]? = some x) (hy : r[i]? = some y) (hp : p x y = true) : all2To p l r (i + 1) = true := by rw [all2To_next hx hy, hs, hp]; rfl
theorem all2_eq (h : ∀ x ∈ l, ∀ y, p x y = true ↔ x = y) (hl : l.length = r.length) : all2 p l r = true ↔ l = r := by
  induction l generalizing r with
  | nil => cases r with
    | nil => simp [all2]
    | cons y r => simp at hl
  | cons x l ih =>
    cases r with
    | nil => simp at hl
    | cons y r =>
      rw [all2_cons, Bool.and_eq_true, h x (by simp) y, ih (fun z hz => h z (by simp [hz])) (by simpa using hl)]
      simp
end
mutual
def same : Rx → Rx → Bool
  | .mk k s lo hi l, y => decide (k = y.k) && decide (s = y.s) && decide (lo = y.lo) && decide (hi = y.hi) && decide (l.length = y.l.length) && sames l y.l
def sames : List Rx → List Rx → Bool
  | [], _ => true
  | x :: l, r => (match r with | y :: r => same x y && sames l r | [] => false)
end
theorem sames_all : ∀ l r : List Rx, sames l r = all2 same l r
  | [], _ => by rw [sames]; rfl
  | x :: l, [] => by rw [sames]; rfl
  | x :: l, y :: r => by rw [sames, sames_all l r]; rfl
theorem same_eq (x y : Rx) : same x y = (decide (x.k = y.k) && decide (x.s = y.s) && decide (x.lo = y.lo) && decide (x.hi = y.hi) && decide (x.l.length = y.l.length) && all2 same x.l y.l) := by rw [← sames_all]; cases x; rw [same]; rfl
theorem same_iff (x : Rx) : ∀ y, same x y = true ↔ x = y := by
  induction x using Rx.ind with
  | h x ih =>
    intro y
    rw [same_eq]
    simp only [Bool.and_eq_true, decide_eq_true_eq]
    constructor
    · rintro ⟨⟨⟨⟨⟨h1, h2⟩, h3⟩, h4⟩, h5⟩, h6⟩
      exact Rx.ext' h1 h2 h3 h4 ((all2_eq ih h5).1 h6)
    · rintro rfl
      exact ⟨⟨⟨⟨⟨rfl, rfl⟩, rfl⟩, rfl⟩, rfl⟩, (all2_eq ih rfl).2 rfl⟩
/-! ### Which match nothing -/
mutual
def null : Rx → Bool
  | .mk k _ lo _ l => if k = 2 then false else if k = 4 then nullE l else if k = 5 ∧ lo = 0 then true else if k = 5 ∨ k = 3 then nullA l else true
def nullA : List Rx → Bool
  | [] => true
  | y :: l => null y && nullA l
def nullE : List Rx → Bool
  | [] => false
  | y :: l => null y || nullE l
end
theorem nullA_all : ∀ l, nullA l = l.all null
  | [] => by rw [nullA]; rfl
  | y :: l => by rw [nullA, nullA_all l, List.all_cons]
theorem nullE_any : ∀ l, nullE l = l.any null
  | [] => by rw [nullE]; rfl
  | y :: l => by rw [nullE, nullE_any l, List.any_cons]
theorem null_eq (x : Rx) : null x = if x.k = 2 then false else if x.k = 4 then x.l.any null else if x.k = 5 ∧ x.lo = 0 then true else if x.k = 5 ∨ x.k = 3 then x.l.all null else true := by
  cases x; rw [null, nullA_all, nullE_any]; rfl
theorem any_not_all (l : List Rx) : l.any (fun y => !null y) = !l.all null := by
  induction l with
  | nil => rfl
  | cons y l ih => rw [List.any_cons, List.all_cons, ih]; cases null y <;> simp
end Go.Hk
