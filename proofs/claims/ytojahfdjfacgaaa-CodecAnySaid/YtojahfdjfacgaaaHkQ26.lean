import Derived.Test.YtojahfdjfacgaaaHkQ24
import Derived.Test.YtojahfdjfacgaaaHkQ25
import Derived.Test.YtojahfdjfacgaaaHkQ23
/- Layer 3, the plain law: patterns, their cells, and what is told of them. -/
set_option linter.unusedSimpArgs false
set_option linter.unusedVariables false
namespace Go.Hk

/-! ### Lists, from their beginning -/
section
variable {α β : Type}
end
/-! ### Patterns -/
inductive Rx where
  | mk (k : Int) (s : Nat) (lo hi : Int) (l : List Rx)
namespace Rx
def k : Rx → Int | mk k _ _ _ _ => k
def s : Rx → Nat | mk _ s _ _ _ => s
def lo : Rx → Int | mk _ _ lo _ _ => lo
def hi : Rx → Int | mk _ _ _ hi _ => hi
def l : Rx → List Rx | mk _ _ _ _ l => l
end Rx
mutual
def cR : Rx → List AVal
  | .mk k s lo hi l => .int .i64 k :: (setL s ++ [.int .i64 lo, .int .i64 hi, .sl .no l.length (cRs l)])
def cRs : List Rx → List AVal
  | [] => []
  | x :: l => cR x ++ cRs l
end
theorem cRs_fl : ∀ l : List Rx, cRs l = fl cR l
  | [] => rfl
  | x :: l => by rw [cRs, fl_cons, cRs_fl l]
def rV (x : Rx) : AVal := .agg (cR x)
theorem cR_eq (x : Rx) : cR x = [.int .i64 x.k, .int .u64 (wd x.s 0 : Nat), .int .u64 (wd x.s 1 : Nat), .int .u64 (wd x.s 2 : Nat), .int .u64 (wd x.s 3 : Nat), .int .i64 x.lo, .int .i64 x.hi, .sl .no x.l.length (fl cR x.l)] := by
  cases x
  simp only [cR, cRs_fl, setL, Rx.k, Rx.s, Rx.lo, Rx.hi, Rx.l, List.cons_append, List.nil_append]
theorem cR_len (x : Rx) : (cR x).length = 8 := by rw [cR_eq]; rfl
mutual
theorem cR_strip : ∀ x : Rx, stripL (cR x) = some (cR x)
  | .mk k s lo hi l => by
    have h := cRs_strip l
    simp only [cR, setL, List.cons_append, List.nil_append, stripL, strip, h]
theorem cRs_strip : ∀ l : List Rx, stripL (cRs l) = some (cRs l)
  | [] => rfl
  | x :: l => by rw [cRs]; exact s_append (cR_strip x) (cRs_strip l)
end
theorem rV_strip (x : Rx) : strip (rV x) = some (rV x) := by simp only [rV, strip, cR_strip]
theorem rV_cells (x : Rx) : cellsOf (rV x) = some (cR x) := rfl
theorem rV_agg (x : Rx) : AVal.agg (cR x) = rV x := nr rfl
theorem rV_agg8 (x : Rx) : AVal.agg [.int .i64 x.k, .int .u64 (wd x.s 0 : Nat), .int .u64 (wd x.s 1 : Nat), .int .u64 (wd x.s 2 : Nat), .int .u64 (wd x.s 3 : Nat), .int .i64 x.lo, .int .i64 x.hi, .sl .no x.l.length (fl cR x.l)] = rV x := by rw [← cR_eq, rV]
theorem set_agg4 (A : Nat) : AVal.agg [.int .u64 (wd A 0 : Nat), .int .u64 (wd A 1 : Nat), .int .u64 (wd A 2 : Nat), .int .u64 (wd A 3 : Nat)] = setV A := nr rfl

theorem l_s_cR {l : List Rx} : stripL (fl cR l) = some (fl cR l) := fl_strip cR_strip l
theorem l_n_cR {l : List Rx} : (fl cR l).length = l.length * 8 := fl_len cR_len l
theorem l_s_cP {l : List (Int × Int)} : stripL (fl cP l) = some (fl cP l) := fl_strip cP_strip l
theorem l_n_cP {l : List (Int × Int)} : (fl cP l).length = l.length * 2 := fl_len cP_len l
theorem c_rV {h t : Nat} {x : Rx} : clo h t (rV x) = true := clo_strip _ _ (rV_strip x)
theorem c_cR {h t : Nat} {x : Rx} : cloL h t (cR x) = true := cloL_strip _ _ (cR_strip x)
theorem c_flR {h t : Nat} {l : List Rx} : cloL h t (fl cR l) = true := cloL_strip _ _ l_s_cR
theorem c_flP {h t : Nat} {l : List (Int × Int)} : cloL h t (fl cP l) = true := cloL_strip _ _ l_s_cP
theorem setMany_full : ∀ (vs cs : List AVal) (pre : List AVal), cs.length = vs.length → setMany (pre ++ cs) pre.length vs = pre ++ vs
  | [], cs, pre, h => by
    have := List.eq_nil_of_length_eq_zero h
    subst this; rfl
  | v :: vs, c :: cs, pre, h => by
    have := setMany_full vs cs (pre ++ [v]) (by simpa using h)
    simp only [List.length_append, List.length_singleton, List.append_assoc, List.singleton_append] at this
    simp only [setMany]
    rw [show (pre ++ c :: cs).set pre.length v = pre ++ v :: cs by simp [List.set_append]]
    exact this
theorem l_put_cR {a b c d e f g h : AVal} {x : Rx} : setMany [a, b, c, d, e, f, g, h] 0 (cR x) = cR x := setMany_full (cR x) [a, b, c, d, e, f, g, h] [] (cR_len x).symm
theorem l_put_cR' {x y : Rx} : setMany (cR y) 0 (cR x) = cR x := setMany_full (cR x) (cR y) [] (by rw [cR_len, cR_len])
theorem l_take_cR {x : Rx} : List.take 8 (cR x) = cR x := List.take_of_length_le (by rw [cR_len]; omega)
theorem n_isB_R {x : Rx} : isB (cR x) = false := by rw [cR_eq]; rfl
attribute [go_sem] cR_len l_put_cR l_put_cR' l_take_cR n_isB_R
attribute [go_sem] rV_cells rV_strip rV_agg rV_agg8 set_agg4 l_s_cR l_n_cR l_s_cP l_n_cP c_rV c_cR c_flR c_flP

/-- What a pattern that is handed in is: its lists are shorter than N. -/
inductive okB (N : Nat) : Rx → Prop
  | mk {k : Int} {s : Nat} {lo hi : Int} {l : List Rx} (hk : -9223372036854775808 ≤ k ∧ k < 9223372036854775808) (hs : s < 2 ^ 256) (hlo : -9223372036854775808 ≤ lo ∧ lo < 9223372036854775808)
      (hhi : -9223372036854775808 ≤ hi ∧ hi < 9223372036854775808) (hl : l.length < N) (h : ∀ y ∈ l, okB N y) : okB N (.mk k s lo hi l)
abbrev okX : Rx → Prop := okB 9223372036854775808
/-- The same, of lists ars long ars may be. -/
abbrev okW : Rx → Prop := okB 9223372036854775808
namespace okB
variable {N M : Nat} {x y : Rx}
theorem kd (h : okB N x) : -9223372036854775808 ≤ x.k ∧ x.k < 9223372036854775808 := by cases h; assumption
theorem st (h : okB N x) : x.s < 2 ^ 256 := by cases h; assumption
theorem low (h : okB N x) : -9223372036854775808 ≤ x.lo ∧ x.lo < 9223372036854775808 := by cases h; assumption
theorem len (h : okB N x) : x.l.length < N := by cases h; assumption
theorem le (h : okB N x) (hm : N ≤ M) : okB M x := by
  induction h with
  | mk hk hs hlo hhi hl _ ih => exact .mk hk hs hlo hhi (by omega) ih
end okB
theorem okB.w {x : Rx} (h : okX x) : okW x := h.le (by omega)
mutual
def sz : Rx → Nat
  | .mk _ _ _ _ l => szs l + 1
def szs : List Rx → Nat
  | [] => 0
  | x :: l => sz x + szs l
end
theorem Rx.ext' {x y : Rx} (h1 : x.k = y.k) (h2 : x.s = y.s) (h3 : x.lo = y.lo) (h4 : x.hi = y.hi) (h5 : x.l = y.l) : x = y := by
  cases x; cases y
  simp only [Rx.k, Rx.s, Rx.lo, Rx.hi, Rx.l] at h1 h2 h3 h4 h5
  subst h1; subst h2; subst h3; subst h4; subst h5; rfl
/-! ### How many places, how many patterns -/
def smin (a b : Int) : Int := imin (a + b) 1000000
mutual
def size : Rx → Int
  | .mk k _ lo hi l => if k = 2 then 1 else if k < 3 ∨ 5 < k then 0 else imin (if k = 5 then sizes l * imax 1 (imin 1000 (imax lo hi)) else sizes l) 1000000
def sizes : List Rx → Int
  | [] => 0
  | x :: l => smin (size x) (sizes l)
end
end Go.Hk
/- Layer 3, the plain law: which patterns may be; which are the same; which match nothing. -/
namespace Go.Hk
/-! ### What is asked of the elements of a list -/
section
variable {α : Type} {p : α → Bool} {l : List α} {i : Nat} {x : α}
/-- The place of the first one of which p. -/
def idx (p : α → Bool) : List α → Int
  | [] => -1
  | x :: l => if p x then 0 else if idx p l < 0 then -1 else idx p l + 1
theorem idx_bd : ∀ l : List α, -1 ≤ idx p l ∧ idx p l < l.length
  | [] => by simp [idx]
  | x :: l => by
    have := idx_bd l
    simp only [idx, List.length_cons]
    split
    · omega
    · split <;> omega
theorem idx_any : ∀ l : List α, decide (0 ≤ idx p l) = l.any p
  | [] => by simp [idx]
  | x :: l => by
    have h := idx_any l
    have hb := idx_bd (p := p) l
    simp only [idx, List.any_cons]
    by_cases hp : p x = true
    · simp [hp]
    · rw [← h]
      simp only [Bool.not_eq_true] at hp
      simp only [hp, Bool.false_or, Bool.false_eq_true, if_false]
      split <;> simp <;> omega
theorem idx_none (h : ∀ x ∈ l, p x = false) : idx p l = -1 := by
  induction l with
  | nil => rfl
  | cons y l ih => rw [idx, h y (by simp), ih fun z hz => h z (by simp [hz])]; simp
theorem idx_at : ∀ {l : List α} {i : Nat}, l[i]? = some x → (∀ y ∈ l.take i, p y = false) → p x = true → idx p l = i
  | y :: l, 0, hx, _, hp => by
    simp only [List.getElem?_cons_zero, Option.some.injEq] at hx
    subst hx
    rw [idx, hp]; simp
  | y :: l, i + 1, hx, hi, hp => by
    rw [idx, hi y (by simp), idx_at (l := l) (i := i) (by simpa using hx) (fun z hz => hi z (by simp [hz])) hp]
    simp
    omega
theorem upto_next (h : ∀ y ∈ l.take i, p y = false) (hx : l[i]? = some x) (hp : p x = false) : ∀ y ∈ l.take (i + 1), p y = false := by
  obtain ⟨hi, rfl⟩ := List.getElem?_eq_some_iff.1 hx
  intro y hy
  rw [List.take_succ_eq_append_getElem hi, List.mem_append, List.mem_singleton] at hy
  rcases hy with hy | rfl
  · exact h y hy
  · exact hp
end
/-! ### Which may be -/
def times (lo hi : Int) : Bool := decide (0 ≤ lo) && decide (lo ≤ 20) && (decide (hi = -1) || decide (imax 1 lo ≤ hi) && decide (hi ≤ 20))
def own (x : Rx) : Bool :=
  if x.k = 5 then decide (x.s = 0) && decide (x.l.length = 1) && times x.lo x.hi
  else if x.k = 1 ∨ x.k = 2 then (decide (x.s = 0) == decide (x.k = 1)) && decide (x.lo = 0) && decide (x.hi = 0) && decide (x.l.length = 0)
  else if x.k = 3 ∨ x.k = 4 then decide (x.s = 0) && decide (x.lo = 0) && decide (x.hi = 0) && decide (2 ≤ x.l.length)
  else false
/-- A part of another kind, but in a Rep. -/
def unlike (k : Int) (y : Rx) : Bool := !(decide (y.k = k) && decide (k ≠ 5))
mutual
def right : Rx → Int → Bool
  | .mk k s lo hi l, d => decide (0 < d) && own (.mk k s lo hi l) && rights k l (d - 1)
def rights : Int → List Rx → Int → Bool
  | _, [], _ => true
  | k, y :: l, d => unlike k y && right y d && rights k l d
end
def rodd (x : Rx) (d : Int) (y : Rx) : Bool := decide (y.k = x.k) && decide (x.k ≠ 5) || !right y (d - 1)
theorem rights_any (x : Rx) (d : Int) : ∀ l : List Rx, rights x.k l (d - 1) = !l.any (rodd x d)
  | [] => by rw [rights]; rfl
  | y :: l => by
    rw [rights, rights_any x d l, List.any_cons, rodd, unlike]
    cases decide (y.k = x.k) <;> cases decide (x.k ≠ 5) <;> cases right y (d - 1) <;> simp
theorem right_eq (x : Rx) (d : Int) : right x d = (decide (0 < d) && own x && !x.l.any (rodd x d)) := by
  rw [← rights_any]; cases x; rw [right]; rfl
theorem right_own {x : Rx} {d : Int} (h : right x d = true) : own x = true := by
  rw [right_eq, Bool.and_eq_true, Bool.and_eq_true] at h
  exact h.1.2
theorem right_unlike {x y : Rx} {d : Int} (h : right x d = true) (hy : y ∈ x.l) : unlike x.k y = true := by
  rw [right_eq, Bool.and_eq_true, Bool.not_eq_true', ← Bool.not_eq_true] at h
  have h2 := h.2
  rw [List.any_eq_true] at h2
  cases hr : unlike x.k y
  · exact absurd ⟨y, hy, by rw [rodd, Bool.or_eq_true]; left; simpa [unlike] using hr⟩ h2
  · rfl
/-- Of some depth. -/
def inR (x : Rx) : Prop := ∃ d, right x d = true
theorem inR.own {x : Rx} (h : inR x) : Hk.own x = true := by obtain ⟨d, h⟩ := h; exact right_own h
theorem inR.unlike {x y : Rx} (h : inR x) (hy : y ∈ x.l) : Hk.unlike x.k y = true := by obtain ⟨d, h⟩ := h; exact right_unlike h hy
/-- The kinds of patterns that may be. -/
theorem inR.cases {x : Rx} (h : inR x) : (x.k = 1 ∧ x.l = []) ∨ (x.k = 2 ∧ x.s ≠ 0 ∧ x.l = []) ∨ ((x.k = 3 ∨ x.k = 4) ∧ x.s = 0 ∧ 2 ≤ x.l.length) ∨ (x.k = 5 ∧ x.s = 0 ∧ times x.lo x.hi = true ∧ ∃ y, x.l = [y]) := by
  have h := h.own
  unfold Hk.own at h
  split at h
  · rename_i h5
    simp only [Bool.and_eq_true, decide_eq_true_eq] at h
    right; right; right
    refine ⟨h5, h.1.1, h.2, ?_⟩
    have hl := h.1.2
    match x.l, hl with
    | [y], _ => exact ⟨y, rfl⟩
  · split at h
    · rename_i h12
      simp only [Bool.and_eq_true, decide_eq_true_eq] at h
      have hl : x.l = [] := List.eq_nil_of_length_eq_zero h.2
      rcases h12 with h1 | h2
      · exact .inl ⟨h1, hl⟩
      · right; left
        refine ⟨h2, fun hs => ?_, hl⟩
        have := h.1.1.1
        rw [h2, hs] at this
        simp at this
    · split at h
      · rename_i h34
        simp only [Bool.and_eq_true, decide_eq_true_eq] at h
        exact .inr (.inr (.inl ⟨h34, h.1.1.1, h.2⟩))
      · cases h
/-! ### Which are the same -/
section
variable {α : Type} {p : α → α → Bool} {l r : List α} {i : Nat} {x y : α}
end
mutual
def same : Rx → Rx → Bool
  | .mk k s lo hi l, y => decide (k = y.k) && decide (s = y.s) && decide (lo = y.lo) && decide (hi = y.hi) && decide (l.length = y.l.length) && sames l y.l
def sames : List Rx → List Rx → Bool
  | [], _ => true
  | x :: l, r => (match r with | y :: r => same x y && sames l r | [] => false)
end
/-! ### Which match nothing -/
end Go.Hk
namespace Go.Hk
end Go.Hk
/- Layer 13: tables, and which may be. -/
namespace Go.Hk

structure Pk where
  mp : List Int
  wd : Int
  bs : List Int
  df : List Int
  nx : List Int
  ck : List Int
  ac : List Int
  st : List Int
  deriving DecidableEq

def cPk (p : Pk) : List AVal := [slc cI p.mp, .int .i64 p.wd, slc cI p.bs, slc cI p.df, slc cI p.nx, slc cI p.ck, slc cI p.ac, slc cI p.st]
def pkV (p : Pk) : AVal := .agg (cPk p)
theorem cPk_eq (p : Pk) : cPk p = [.sl .no p.mp.length (fl cI p.mp), .int .i64 p.wd, .sl .no p.bs.length (fl cI p.bs), .sl .no p.df.length (fl cI p.df), .sl .no p.nx.length (fl cI p.nx), .sl .no p.ck.length (fl cI p.ck), .sl .no p.ac.length (fl cI p.ac), .sl .no p.st.length (fl cI p.st)] := rfl
theorem cPk_strip (p : Pk) : stripL (cPk p) = some (cPk p) := by
  simp only [cPk, stripL, strip, slc, fl_strip cI_strip]
theorem pkV_strip (p : Pk) : strip (pkV p) = some (pkV p) := by simp only [pkV, strip, cPk_strip]
theorem sI_inj {l r : List Int} (h : AVal.sl .no l.length (fl cI l) = .sl .no r.length (fl cI r)) : l = r := slc_inj cI_len (fun _ _ _ _ => cI_inj) h
theorem pkV_inj {p q : Pk} (h : pkV p = pkV q) : p = q := by
  have h1 := AVal.agg.inj h
  simp only [cPk, slc, List.cons.injEq, and_true] at h1
  obtain ⟨a, b, c, d, e, f, g, i⟩ := h1
  cases p; cases q
  simp only at a b c d e f g i
  have := sI_inj a; have := sI_inj c; have := sI_inj d; have := sI_inj e; have := sI_inj f; have := sI_inj g; have := sI_inj i
  have := (AVal.int.inj b).2
  subst_vars
  rfl

theorem pkV_cells (p : Pk) : cellsOf (pkV p) = some [.sl .no p.mp.length (fl cI p.mp), .int .i64 p.wd, .sl .no p.bs.length (fl cI p.bs), .sl .no p.df.length (fl cI p.df), .sl .no p.nx.length (fl cI p.nx), .sl .no p.ck.length (fl cI p.ck), .sl .no p.ac.length (fl cI p.ac), .sl .no p.st.length (fl cI p.st)] := rfl
theorem pkV_agg8 (p : Pk) : AVal.agg [.sl .no p.mp.length (fl cI p.mp), .int .i64 p.wd, .sl .no p.bs.length (fl cI p.bs), .sl .no p.df.length (fl cI p.df), .sl .no p.nx.length (fl cI p.nx), .sl .no p.ck.length (fl cI p.ck), .sl .no p.ac.length (fl cI p.ac), .sl .no p.st.length (fl cI p.st)] = pkV p := nr rfl
theorem c_pkV {h t : Nat} {p : Pk} : clo h t (pkV p) = true := clo_strip _ _ (pkV_strip p)
attribute [go_sem] pkV_cells pkV_agg8 pkV_strip c_pkV

/-- Lists no longer than may be. -/
structure okPk (p : Pk) : Prop where
  mp : p.mp.length < 9223372036854775808
  bs : p.bs.length < 9223372036854775808
  df : p.df.length < 9223372036854775808
  nx : p.nx.length < 9223372036854775808
  ck : p.ck.length < 9223372036854775808
  ac : p.ac.length < 9223372036854775808
  st : p.st.length < 9223372036854775808

def outI (a b : Int) (n : Int) : Bool := decide (n < a) || decide (b ≤ n)
def withinI (l : List Int) (a b : Int) : Bool := l.all fun n => !outI a b n
theorem withinI_any {l : List Int} {a b : Int} : (!l.any (outI a b)) = withinI l a b := by simp [withinI, List.all_eq_not_any_not]
theorem withinI_iff {l : List Int} {a b : Int} : withinI l a b = true ↔ ∀ n ∈ l, a ≤ n ∧ n < b := by
  simp only [withinI, outI, List.all_eq_true, Bool.not_eq_true', Bool.or_eq_false_iff, decide_eq_false_iff_not, Int.not_lt, Int.not_le]
/-- The first of a row's numbers lie where they may. -/
def dfTo (l : List Int) (i : Nat) : Bool := (List.range i).all fun j => match l[j]? with | some k => !outI (-1) j k | none => false
theorem dfTo_zero {l : List Int} : dfTo l 0 = true := rfl
theorem dfTo_next {l : List Int} {i : Nat} {k : Int} (h : l[i]? = some k) : dfTo l (i + 1) = (dfTo l i && !outI (-1) i k) := by
  unfold dfTo
  rw [List.range_succ, List.all_append]
  simp [h]
theorem dfTo_le {l : List Int} {i j : Nat} (h : dfTo l i = true) (hj : j ≤ i) : dfTo l j = true := by
  unfold dfTo at *
  simp only [List.all_eq_true, List.mem_range] at *
  intro x hx
  exact h x (by omega)
theorem dfTo_bad {l : List Int} {i n : Nat} {k : Int} (h : l[i]? = some k) (hb : outI (-1) i k = true) (hn : i < n) : dfTo l n = false := by
  cases hh : dfTo l n with
  | false => rfl
  | true =>
    have := dfTo_le hh (show i + 1 ≤ n by omega)
    rw [dfTo_next h, hb] at this
    simp at this

def sizesP (p : Pk) : Bool := decide (p.bs.length ≤ 500) && decide (p.nx.length ≤ 50000) && decide (p.df.length = p.bs.length) && decide (p.ac.length = p.bs.length) && decide (p.ck.length = p.nx.length) && decide (p.mp.length = 256) && decide (p.st.length ≤ 16)
def listsP (p : Pk) : Bool := withinI p.mp 0 p.wd && withinI p.bs 0 (p.nx.length + 1) && withinI p.nx (-1) p.bs.length && withinI p.ck (-1) p.bs.length && withinI p.ac (-1) 40 && withinI p.st (-1) p.bs.length
def validP (p : Pk) : Bool := sizesP p && (decide (1 ≤ p.wd) && decide (p.wd ≤ 256)) && dfTo p.df p.df.length && listsP p
end Go.Hk
namespace Go.Hk
theorem pk_eq_iff {p q : Pk} : p = q ↔ (p.wd = q.wd ∧ p.mp = q.mp ∧ p.bs = q.bs ∧ p.df = q.df ∧ p.nx = q.nx ∧ p.ck = q.ck ∧ p.ac = q.ac ∧ p.st = q.st) := by
  cases p; cases q
  simp only [Pk.mk.injEq]
  constructor
  · rintro ⟨a, b, c, d, e, f, g, h⟩; exact ⟨b, a, c, d, e, f, g, h⟩
  · rintro ⟨a, b, c, d, e, f, g, h⟩; exact ⟨b, a, c, d, e, f, g, h⟩
theorem pk_dec {p q : Pk} : decide (p = q) = (decide (p.wd = q.wd) && (decide (p.mp = q.mp) && (decide (p.bs = q.bs) && (decide (p.df = q.df) && (decide (p.nx = q.nx) && (decide (p.ck = q.ck) && (decide (p.ac = q.ac) && decide (p.st = q.st)))))))) := by
  rw [Bool.eq_iff_iff]
  simp only [decide_eq_true_eq, Bool.and_eq_true]
  exact pk_eq_iff
end Go.Hk
namespace Go.Hk
/-- A round of a loop that appends: how far, what may be appended to the list, tokens. -/
structure Lz where
  i : Nat
  r : Rt
  T : List (Nat × (Nat × Nat))
end Go.Hk
namespace Go.Hk
/-! A list that grows under a token of its own, behind the tokens T. -/
def lzR (T : List (Nat × (Nat × Nat))) (i : Nat) : Rt := if i = 0 then .nil else .tok T.length
def lzT (T : List (Nat × (Nat × Nat))) (i : Nat) (z : Nat × Nat) : List (Nat × (Nat × Nat)) := if i = 0 then T else T ++ [(i, z)]
theorem lz_ok {T : List (Nat × (Nat × Nat))} {i : Nat} {z : Nat × Nat} : okR (lzT T i z) (lzR T i) i z = true := by
  unfold lzT lzR
  split
  · rfl
  · simp [okR]
theorem lz_R {T : List (Nat × (Nat × Nat))} {i : Nat} {z : Nat × Nat} : nxR (lzT T i z) (lzR T i) = lzR T (i + 1) := by
  unfold lzT lzR
  split <;> simp [nxR]
theorem lz_T {T : List (Nat × (Nat × Nat))} {i : Nat} {z : Nat × Nat} : nxT (lzT T i z) (lzR T i) (i + 1) z = lzT T (i + 1) z := by
  unfold lzT lzR
  split
  · rename_i h; subst h; simp [nxT]
  · simp [nxT]
theorem lz_len {T : List (Nat × (Nat × Nat))} {i : Nat} {z : Nat × Nat} : T.length ≤ (lzT T i z).length := by
  unfold lzT
  split <;> simp
theorem lz_app {T : List (Nat × (Nat × Nat))} {i : Nat} {z : Nat × Nat} : ∃ X, lzT T i z = T ++ X := by
  unfold lzT
  split
  · exact ⟨[], by simp⟩
  · exact ⟨_, rfl⟩
end Go.Hk
