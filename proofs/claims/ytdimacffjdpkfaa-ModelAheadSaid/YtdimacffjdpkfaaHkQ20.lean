import Derived.Test.YtdimacffjdpkfaaHkQ19
import Derived.Test.YtdimacffjdpkfaaHkQ09
import Derived.Laws.Externs
import Derived.Lib.MakeNoZero
/- Layer 3, the plain law: patterns, their cells, and what is told of them. -/
set_option linter.unusedSimpArgs false
set_option linter.unusedVariables false
namespace Go.Hk

/-! ### Lists, from their beginning -/
section
variable {α β : Type}
/-- What a walk along a list has come to, before the place i. -/
def fo (g : β → α → β) (b : β) (l : List α) (i : Nat) : β := (l.take i).foldl g b
theorem fo_zero {g : β → α → β} {b : β} {l : List α} : fo g b l 0 = b := rfl
theorem fo_succ {g : β → α → β} {b : β} {l : List α} {i : Nat} {x : α} (h : l[i]? = some x) : fo g b l (i + 1) = g (fo g b l i) x := by
  obtain ⟨hi, rfl⟩ := List.getElem?_eq_some_iff.1 h
  simp only [fo, List.take_succ_eq_append_getElem hi, List.foldl_append, List.foldl_cons, List.foldl_nil]
theorem fo_all {g : β → α → β} {b : β} {l : List α} : fo g b l l.length = l.foldl g b := by simp [fo]
end
theorem imax_le {x y : Int} : x ≤ imax x y ∧ y ≤ imax x y ∧ (imax x y = x ∨ imax x y = y) := by unfold imax; split <;> omega
theorem imin_le {x y : Int} : imin x y ≤ x ∧ imin x y ≤ y ∧ (imin x y = x ∨ imin x y = y) := by unfold imin; split <;> omega

/-! ### Patterns -/
inductive Rx where
  | mk (k : Int) (s : Nat) (lo hi : Int) (l : List Rx)
namespace Rx
def k : Rx → Int | mk k _ _ _ _ => k
def s : Rx → Nat | mk _ s _ _ _ => s
def lo : Rx → Int | mk _ _ lo _ _ => lo
def hi : Rx → Int | mk _ _ _ hi _ => hi
def l : Rx → List Rx | mk _ _ _ _ l => l
end Rx
mutual
def cR : Rx → List AVal
  | .mk k s lo hi l => .int .i64 k :: (setL s ++ [.int .i64 lo, .int .i64 hi, .sl .no l.length (cRs l)])
def cRs : List Rx → List AVal
  | [] => []
  | x :: l => cR x ++ cRs l
end
theorem cRs_fl : ∀ l : List Rx, cRs l = fl cR l
  | [] => rfl
  | x :: l => by rw [cRs, fl_cons, cRs_fl l]
def rV (x : Rx) : AVal := .agg (cR x)
theorem cR_eq (x : Rx) : cR x = [.int .i64 x.k, .int .u64 (wd x.s 0 : Nat), .int .u64 (wd x.s 1 : Nat), .int .u64 (wd x.s 2 : Nat), .int .u64 (wd x.s 3 : Nat), .int .i64 x.lo, .int .i64 x.hi, .sl .no x.l.length (fl cR x.l)] := by
  cases x
  simp only [cR, cRs_fl, setL, Rx.k, Rx.s, Rx.lo, Rx.hi, Rx.l, List.cons_append, List.nil_append]
theorem cR_len (x : Rx) : (cR x).length = 8 := by rw [cR_eq]; rfl
mutual
theorem cR_strip : ∀ x : Rx, stripL (cR x) = some (cR x)
  | .mk k s lo hi l => by
    have h := cRs_strip l
    simp only [cR, setL, List.cons_append, List.nil_append, stripL, strip, h]
theorem cRs_strip : ∀ l : List Rx, stripL (cRs l) = some (cRs l)
  | [] => rfl
  | x :: l => by rw [cRs]; exact s_append (cR_strip x) (cRs_strip l)
end
theorem rV_strip (x : Rx) : strip (rV x) = some (rV x) := by simp only [rV, strip, cR_strip]
theorem rV_cells (x : Rx) : cellsOf (rV x) = some (cR x) := rfl
theorem rV_agg (x : Rx) : AVal.agg (cR x) = rV x := nr rfl
theorem rV_agg8 (x : Rx) : AVal.agg [.int .i64 x.k, .int .u64 (wd x.s 0 : Nat), .int .u64 (wd x.s 1 : Nat), .int .u64 (wd x.s 2 : Nat), .int .u64 (wd x.s 3 : Nat), .int .i64 x.lo, .int .i64 x.hi, .sl .no x.l.length (fl cR x.l)] = rV x := by rw [← cR_eq, rV]
theorem set_agg4 (A : Nat) : AVal.agg [.int .u64 (wd A 0 : Nat), .int .u64 (wd A 1 : Nat), .int .u64 (wd A 2 : Nat), .int .u64 (wd A 3 : Nat)] = setV A := nr rfl

theorem l_s_cR {l : List Rx} : stripL (fl cR l) = some (fl cR l) := fl_strip cR_strip l
theorem l_n_cR {l : List Rx} : (fl cR l).length = l.length * 8 := fl_len cR_len l
theorem l_s_cP {l : List (Int × Int)} : stripL (fl cP l) = some (fl cP l) := fl_strip cP_strip l
theorem l_n_cP {l : List (Int × Int)} : (fl cP l).length = l.length * 2 := fl_len cP_len l
theorem c_rV {h t : Nat} {x : Rx} : clo h t (rV x) = true := clo_strip _ _ (rV_strip x)
theorem c_cR {h t : Nat} {x : Rx} : cloL h t (cR x) = true := cloL_strip _ _ (cR_strip x)
theorem c_flR {h t : Nat} {l : List Rx} : cloL h t (fl cR l) = true := cloL_strip _ _ l_s_cR
theorem c_flP {h t : Nat} {l : List (Int × Int)} : cloL h t (fl cP l) = true := cloL_strip _ _ l_s_cP
theorem setMany_full : ∀ (vs cs : List AVal) (pre : List AVal), cs.length = vs.length → setMany (pre ++ cs) pre.length vs = pre ++ vs
  | [], cs, pre, h => by
    have := List.eq_nil_of_length_eq_zero h
    subst this; rfl
  | v :: vs, c :: cs, pre, h => by
    have := setMany_full vs cs (pre ++ [v]) (by simpa using h)
    simp only [List.length_append, List.length_singleton, List.append_assoc, List.singleton_append] at this
    simp only [setMany]
    rw [show (pre ++ c :: cs).set pre.length v = pre ++ v :: cs by simp [List.set_append]]
    exact this
theorem l_put_cR {a b c d e f g h : AVal} {x : Rx} : setMany [a, b, c, d, e, f, g, h] 0 (cR x) = cR x := setMany_full (cR x) [a, b, c, d, e, f, g, h] [] (cR_len x).symm
theorem l_put_cR' {x y : Rx} : setMany (cR y) 0 (cR x) = cR x := setMany_full (cR x) (cR y) [] (by rw [cR_len, cR_len])
theorem l_take_cR {x : Rx} : List.take 8 (cR x) = cR x := List.take_of_length_le (by rw [cR_len]; omega)
theorem n_isB_R {x : Rx} : isB (cR x) = false := by rw [cR_eq]; rfl
attribute [go_sem] cR_len l_put_cR l_put_cR' l_take_cR n_isB_R
attribute [go_sem] rV_cells rV_strip rV_agg rV_agg8 set_agg4 l_s_cR l_n_cR l_s_cP l_n_cP c_rV c_cR c_flR c_flP

/-- What a pattern that is handed in is: its lists are shorter than N. -/
inductive okB (N : Nat) : Rx → Prop
  | mk {k : Int} {s : Nat} {lo hi : Int} {l : List Rx} (hk : -9223372036854775808 ≤ k ∧ k < 9223372036854775808) (hs : s < 2 ^ 256) (hlo : -9223372036854775808 ≤ lo ∧ lo < 9223372036854775808)
      (hhi : -9223372036854775808 ≤ hi ∧ hi < 9223372036854775808) (hl : l.length < N) (h : ∀ y ∈ l, okB N y) : okB N (.mk k s lo hi l)
abbrev okX : Rx → Prop := okB 9223372036854775808
/-- The same, of lists ars long ars may be. -/
abbrev okW : Rx → Prop := okB 9223372036854775808
namespace okB
variable {N M : Nat} {x y : Rx}
theorem kd (h : okB N x) : -9223372036854775808 ≤ x.k ∧ x.k < 9223372036854775808 := by cases h; assumption
theorem st (h : okB N x) : x.s < 2 ^ 256 := by cases h; assumption
theorem low (h : okB N x) : -9223372036854775808 ≤ x.lo ∧ x.lo < 9223372036854775808 := by cases h; assumption
theorem len (h : okB N x) : x.l.length < N := by cases h; assumption
theorem mem (h : okB N x) (hy : y ∈ x.l) : okB N y := by
  cases h
  rename_i h6
  exact h6 y hy
theorem kid {i : Nat} (h : okB N x) (hy : x.l[i]? = some y) : okB N y := h.mem (List.mem_of_getElem? hy)
theorem le (h : okB N x) (hm : N ≤ M) : okB M x := by
  induction h with
  | mk hk hs hlo hhi hl _ ih => exact .mk hk hs hlo hhi (by omega) ih
end okB
theorem okB.w {x : Rx} (h : okX x) : okW x := h.le (by omega)
mutual
def sz : Rx → Nat
  | .mk _ _ _ _ l => szs l + 1
def szs : List Rx → Nat
  | [] => 0
  | x :: l => sz x + szs l
end
theorem szs_mem : ∀ {l : List Rx} {y : Rx}, y ∈ l → sz y ≤ szs l
  | x :: l, y, h => by
    rw [szs]
    rcases List.mem_cons.1 h with rfl | h
    · omega
    · have := szs_mem h; omega
theorem sz_eq (x : Rx) : sz x = szs x.l + 1 := by cases x; rfl
theorem sz_mem {x y : Rx} (hy : y ∈ x.l) : sz y < sz x := by
  have := szs_mem hy
  rw [sz_eq x]; omega
theorem sz_kid {x y : Rx} {i : Nat} (hy : x.l[i]? = some y) : sz y < sz x := sz_mem (List.mem_of_getElem? hy)
/-- Induction on patterns. -/
theorem Rx.ind {p : Rx → Prop} (h : ∀ x, (∀ y ∈ x.l, p y) → p x) : ∀ x, p x := by
  have key : ∀ n x, sz x ≤ n → p x := by
    intro n
    induction n with
    | zero => intro x hx; rw [sz_eq] at hx; omega
    | succ n ih => intro x hx; exact h x fun y hy => ih y (by have := sz_mem hy; omega)
  exact fun x => key _ x (Nat.le_refl _)
theorem Rx.ext' {x y : Rx} (h1 : x.k = y.k) (h2 : x.s = y.s) (h3 : x.lo = y.lo) (h4 : x.hi = y.hi) (h5 : x.l = y.l) : x = y := by
  cases x; cases y
  simp only [Rx.k, Rx.s, Rx.lo, Rx.hi, Rx.l] at h1 h2 h3 h4 h5
  subst h1; subst h2; subst h3; subst h4; subst h5; rfl
theorem cR_inj' {N M : Nat} : ∀ x : Rx, okB N x → ∀ y, okB M y → cR x = cR y → x = y := by
  intro x
  induction x using Rx.ind with
  | h x ih =>
    intro hx y hy h
    rw [cR_eq, cR_eq] at h
    simp only [List.cons.injEq, AVal.int.injEq, AVal.sl.injEq, true_and, and_true] at h
    obtain ⟨h1, w0, w1, w2, w3, h2, h3, h4, h5⟩ := h
    have hs : x.s = y.s := setL_inj' hx.st hy.st (by simp only [setL, w0, w1, w2, w3])
    have hl : x.l = y.l := by
      have key : ∀ a b : List Rx, (∀ z ∈ a, z ∈ x.l) → (∀ z ∈ b, z ∈ y.l) → a.length = b.length → fl cR a = fl cR b → a = b := by
        intro a
        induction a with
        | nil => intro b _ _ hl _; exact (List.eq_nil_of_length_eq_zero hl.symm).symm
        | cons z a iha =>
          intro b ha hb hl hf
          cases b with
          | nil => simp at hl
          | cons w b =>
            have := List.append_inj (s₁ := cR z) (s₂ := cR w) hf (by rw [cR_len, cR_len])
            rw [ih z (ha z (by simp)) (hx.mem (ha z (by simp))) w (hy.mem (hb w (by simp))) this.1, iha b (fun u hu => ha u (by simp [hu])) (fun u hu => hb u (by simp [hu])) (by simpa using hl) this.2]
      exact key _ _ (fun _ h => h) (fun _ h => h) h4 h5
    exact Rx.ext' h1 hs h2 h3 hl
theorem rV_inj {N M : Nat} {x y : Rx} (hx : okB N x) (hy : okB M y) (h : rV x = rV y) : x = y := cR_inj' x hx y hy (AVal.agg.inj h)

/-! ### How many places, how many patterns -/
def smin (a b : Int) : Int := imin (a + b) 1000000
mutual
def size : Rx → Int
  | .mk k _ lo hi l => if k = 2 then 1 else if k < 3 ∨ 5 < k then 0 else imin (if k = 5 then sizes l * imax 1 (imin 1000 (imax lo hi)) else sizes l) 1000000
def sizes : List Rx → Int
  | [] => 0
  | x :: l => smin (size x) (sizes l)
end
theorem sizes_pos : ∀ l : List Rx, (∀ x ∈ l, 0 ≤ size x) → 0 ≤ sizes l ∧ sizes l ≤ 1000000
  | [], _ => by simp [sizes]
  | x :: l, h => by
    have h1 := h x (by simp)
    have h2 := sizes_pos l fun y hy => h y (by simp [hy])
    simp only [sizes, smin, imin]
    split <;> omega
theorem size_pos (x : Rx) : 0 ≤ size x ∧ size x ≤ 1000000 := by
  induction x using Rx.ind with
  | h x ih =>
    cases x with
    | mk k s lo hi l =>
      have h2 := sizes_pos l fun y hy => (ih y hy).1
      simp only [size]
      split
      · omega
      · split
        · omega
        · have hm : 0 ≤ sizes l * imax 1 (imin 1000 (imax lo hi)) := Int.mul_nonneg h2.1 (by have := (@imax_le 1 (imin 1000 (imax lo hi))).1; omega)
          have e := @imin_le (if k = 5 then sizes l * imax 1 (imin 1000 (imax lo hi)) else sizes l) 1000000
          have : 0 ≤ (if k = 5 then sizes l * imax 1 (imin 1000 (imax lo hi)) else sizes l) := by split <;> omega
          omega
theorem sizes_bd (l : List Rx) : 0 ≤ sizes l ∧ sizes l ≤ 1000000 := sizes_pos l fun x _ => (size_pos x).1
theorem sizes_app : ∀ (a b : List Rx), sizes (a ++ b) = smin (sizes a) (sizes b)
  | [], b => by
    have := sizes_bd b
    have h0 : sizes [] = 0 := by rw [sizes]
    rw [List.nil_append, h0]
    unfold smin imin
    rw [if_neg (by omega)]; omega
  | x :: a, b => by
    have h1 := size_pos x
    have h2 := sizes_bd a
    have h3 := sizes_bd b
    simp only [List.cons_append, sizes, sizes_app a b, smin, imin]
    repeat' split
    all_goals omega
theorem sizes_next {l : List Rx} {i : Nat} {y : Rx} (h : l[i]? = some y) : sizes (l.take (i + 1)) = imin (sizes (l.take i) + size y) 1000000 := by
  obtain ⟨hi, rfl⟩ := List.getElem?_eq_some_iff.1 h
  have h1 := size_pos l[i]
  rw [List.take_succ_eq_append_getElem hi, sizes_app]
  have : sizes [l[i]] = size l[i] := by
    have h0 : sizes [] = 0 := by rw [sizes]
    rw [sizes, h0]
    unfold smin imin
    rw [if_neg (by omega)]; omega
  rw [this]; rfl
theorem size_eq (x : Rx) : size x = if x.k = 2 then 1 else if x.k < 3 ∨ 5 < x.k then 0 else imin (if x.k = 5 then sizes x.l * imax 1 (imin 1000 (imax x.lo x.hi)) else sizes x.l) 1000000 := by cases x; rfl
/-- A sum that is too great already. -/
theorem sizes_most {l : List Rx} {i : Nat} (h : sizes (l.take i) = 1000000) : sizes l = 1000000 := by
  have e := sizes_app (l.take i) (l.drop i)
  rw [List.take_append_drop] at e
  have := sizes_bd (l.drop i)
  rw [e, h, smin, imin]
  split <;> omega
theorem size_most {x : Rx} (hk : x.k = 3 ∨ x.k = 4 ∨ x.k = 5) (h : sizes x.l = 1000000) : size x = 1000000 := by
  rw [size_eq, if_neg (by omega), if_neg (by omega), h]
  have hm := (@imax_le 1 (imin 1000 (imax x.lo x.hi))).1
  generalize imax 1 (imin 1000 (imax x.lo x.hi)) = w at *
  have e := @imin_le (if x.k = 5 then 1000000 * w else 1000000) 1000000
  split at e <;> split <;> omega
theorem times_bd {n lo hi : Int} (h : 0 ≤ n ∧ n ≤ 1000000) : 0 ≤ n * imax 1 (imin 1000 (imax lo hi)) ∧ n * imax 1 (imin 1000 (imax lo hi)) ≤ 1000000000 := by
  have h1 : 0 ≤ imax 1 (imin 1000 (imax lo hi)) ∧ imax 1 (imin 1000 (imax lo hi)) ≤ 1000 := by
    have a := @imax_le 1 (imin 1000 (imax lo hi))
    have b := @imin_le 1000 (imax lo hi)
    omega
  refine ⟨Int.mul_nonneg h.1 h1.1, ?_⟩
  have := Int.mul_le_mul h.2 h1.2 h1.1 (by omega)
  omega

mutual
/-- What is left of so many patterns. -/
def nodes : Rx → Int → Int
  | .mk _ _ _ _ l, m => nodesL l (m - 1)
def nodesL : List Rx → Int → Int
  | [], m => m
  | x :: l, m => nodesL l (if 0 ≤ m then nodes x m else m)
end
def nstep (m : Int) (x : Rx) : Int := if 0 ≤ m then nodes x m else m
theorem nodesL_fo : ∀ (l : List Rx) (m : Int), nodesL l m = l.foldl nstep m
  | [], m => by rw [nodesL]; rfl
  | x :: l, m => by rw [nodesL, nodesL_fo l, List.foldl_cons]; rfl
theorem nodes_eq (x : Rx) (m : Int) : nodes x m = x.l.foldl nstep (m - 1) := by cases x; rw [nodes, nodesL_fo]; rfl
theorem nstep_bd (hf : ∀ x : Rx, ∀ m : Int, 0 ≤ m → -1 ≤ nodes x m ∧ nodes x m ≤ m - 1) (l : List Rx) (m : Int) (hm : -1 ≤ m) : -1 ≤ l.foldl nstep m ∧ l.foldl nstep m ≤ m := by
  induction l generalizing m with
  | nil => exact ⟨hm, Int.le_refl _⟩
  | cons x l ih =>
    rw [List.foldl_cons]
    by_cases h : 0 ≤ m
    · have h1 := hf x m h
      have := ih (nstep m x) (by simp only [nstep, if_pos h]; omega)
      simp only [nstep, if_pos h] at this ⊢
      omega
    · have : nstep m x = m := by simp only [nstep, if_neg h]
      rw [this]; exact ih m hm
theorem nodes_bd (x : Rx) : ∀ m : Int, 0 ≤ m → -1 ≤ nodes x m ∧ nodes x m ≤ m - 1 := by
  induction x using Rx.ind with
  | h x ih =>
    intro m hm
    rw [nodes_eq]
    have key : ∀ (l : List Rx) (m : Int), (∀ y ∈ l, y ∈ x.l) → -1 ≤ m → -1 ≤ l.foldl nstep m ∧ l.foldl nstep m ≤ m := by
      intro l
      induction l with
      | nil => intro m _ hm; exact ⟨hm, Int.le_refl _⟩
      | cons y l ihl =>
        intro m hl hm
        rw [List.foldl_cons]
        by_cases h : 0 ≤ m
        · have h1 := ih y (hl y (by simp)) m h
          have := ihl (nstep m y) (fun z hz => hl z (by simp [hz])) (by simp only [nstep, if_pos h]; omega)
          simp only [nstep, if_pos h] at this ⊢
          omega
        · have : nstep m y = m := by simp only [nstep, if_neg h]
          rw [this]; exact ihl m (fun z hz => hl z (by simp [hz])) hm
    exact key _ _ (fun _ h => h) (by omega)
theorem nfo_bd (l : List Rx) (m : Int) (i : Nat) (hm : -1 ≤ m) : -1 ≤ fo nstep m l i ∧ fo nstep m l i ≤ m := nstep_bd nodes_bd _ _ hm
end Go.Hk
/- Layer 3, the plain law: which patterns may be; which are the same; which match nothing. -/
namespace Go.Hk
/-! ### What is asked of the elements of a list -/
section
variable {α : Type} {p : α → Bool} {l : List α} {i : Nat} {x : α}
/-- The place of the first one of which p. -/
def idx (p : α → Bool) : List α → Int
  | [] => -1
  | x :: l => if p x then 0 else if idx p l < 0 then -1 else idx p l + 1
theorem idx_bd : ∀ l : List α, -1 ≤ idx p l ∧ idx p l < l.length
  | [] => by simp [idx]
  | x :: l => by
    have := idx_bd l
    simp only [idx, List.length_cons]
    split
    · omega
    · split <;> omega
theorem idx_any : ∀ l : List α, decide (0 ≤ idx p l) = l.any p
  | [] => by simp [idx]
  | x :: l => by
    have h := idx_any l
    have hb := idx_bd (p := p) l
    simp only [idx, List.any_cons]
    by_cases hp : p x = true
    · simp [hp]
    · rw [← h]
      simp only [Bool.not_eq_true] at hp
      simp only [hp, Bool.false_or, Bool.false_eq_true, if_false]
      split <;> simp <;> omega
theorem idx_none (h : ∀ x ∈ l, p x = false) : idx p l = -1 := by
  induction l with
  | nil => rfl
  | cons y l ih => rw [idx, h y (by simp), ih fun z hz => h z (by simp [hz])]; simp
theorem idx_at : ∀ {l : List α} {i : Nat}, l[i]? = some x → (∀ y ∈ l.take i, p y = false) → p x = true → idx p l = i
  | y :: l, 0, hx, _, hp => by
    simp only [List.getElem?_cons_zero, Option.some.injEq] at hx
    subst hx
    rw [idx, hp]; simp
  | y :: l, i + 1, hx, hi, hp => by
    rw [idx, hi y (by simp), idx_at (l := l) (i := i) (by simpa using hx) (fun z hz => hi z (by simp [hz])) hp]
    simp
    omega
theorem upto_next (h : ∀ y ∈ l.take i, p y = false) (hx : l[i]? = some x) (hp : p x = false) : ∀ y ∈ l.take (i + 1), p y = false := by
  obtain ⟨hi, rfl⟩ := List.getElem?_eq_some_iff.1 hx
  intro y hy
  rw [List.take_succ_eq_append_getElem hi, List.mem_append, List.mem_singleton] at hy
  rcases hy with hy | rfl
  · exact h y hy
  · exact hp
theorem any_none (h : ∀ x ∈ l, p x = false) : l.any p = false := by
  rw [← idx_any, idx_none h]; rfl
end
/-! ### Which may be -/
def times (lo hi : Int) : Bool := decide (0 ≤ lo) && decide (lo ≤ 20) && (decide (hi = -1) || decide (imax 1 lo ≤ hi) && decide (hi ≤ 20))
def own (x : Rx) : Bool :=
  if x.k = 5 then decide (x.s = 0) && decide (x.l.length = 1) && times x.lo x.hi
  else if x.k = 1 ∨ x.k = 2 then (decide (x.s = 0) == decide (x.k = 1)) && decide (x.lo = 0) && decide (x.hi = 0) && decide (x.l.length = 0)
  else if x.k = 3 ∨ x.k = 4 then decide (x.s = 0) && decide (x.lo = 0) && decide (x.hi = 0) && decide (2 ≤ x.l.length)
  else false
/-- A part of another kind, but in a Rep. -/
def unlike (k : Int) (y : Rx) : Bool := !(decide (y.k = k) && decide (k ≠ 5))
mutual
def right : Rx → Int → Bool
  | .mk k s lo hi l, d => decide (0 < d) && own (.mk k s lo hi l) && rights k l (d - 1)
def rights : Int → List Rx → Int → Bool
  | _, [], _ => true
  | k, y :: l, d => unlike k y && right y d && rights k l d
end
def rodd (x : Rx) (d : Int) (y : Rx) : Bool := decide (y.k = x.k) && decide (x.k ≠ 5) || !right y (d - 1)
theorem rights_any (x : Rx) (d : Int) : ∀ l : List Rx, rights x.k l (d - 1) = !l.any (rodd x d)
  | [] => by rw [rights]; rfl
  | y :: l => by
    rw [rights, rights_any x d l, List.any_cons, rodd, unlike]
    cases decide (y.k = x.k) <;> cases decide (x.k ≠ 5) <;> cases right y (d - 1) <;> simp
theorem right_eq (x : Rx) (d : Int) : right x d = (decide (0 < d) && own x && !x.l.any (rodd x d)) := by
  rw [← rights_any]; cases x; rw [right]; rfl
theorem right_kid {x y : Rx} {d : Int} (h : right x d = true) (hy : y ∈ x.l) : right y (d - 1) = true := by
  rw [right_eq, Bool.and_eq_true, Bool.not_eq_true', ← Bool.not_eq_true] at h
  have h2 := h.2
  rw [List.any_eq_true] at h2
  cases hr : right y (d - 1)
  · exact absurd ⟨y, hy, by simp [rodd, hr]⟩ h2
  · rfl
theorem right_pos {x : Rx} {d : Int} (h : right x d = true) : 0 < d := by
  rw [right_eq, Bool.and_eq_true, Bool.and_eq_true] at h
  exact of_decide_eq_true h.1.1
theorem right_own {x : Rx} {d : Int} (h : right x d = true) : own x = true := by
  rw [right_eq, Bool.and_eq_true, Bool.and_eq_true] at h
  exact h.1.2
theorem right_unlike {x y : Rx} {d : Int} (h : right x d = true) (hy : y ∈ x.l) : unlike x.k y = true := by
  rw [right_eq, Bool.and_eq_true, Bool.not_eq_true', ← Bool.not_eq_true] at h
  have h2 := h.2
  rw [List.any_eq_true] at h2
  cases hr : unlike x.k y
  · exact absurd ⟨y, hy, by rw [rodd, Bool.or_eq_true]; left; simpa [unlike] using hr⟩ h2
  · rfl
/-- Of some depth. -/
def inR (x : Rx) : Prop := ∃ d, right x d = true
theorem inR.kid {x y : Rx} (h : inR x) (hy : y ∈ x.l) : inR y := by obtain ⟨d, h⟩ := h; exact ⟨d - 1, right_kid h hy⟩
theorem inR.own {x : Rx} (h : inR x) : Hk.own x = true := by obtain ⟨d, h⟩ := h; exact right_own h
theorem inR.unlike {x y : Rx} (h : inR x) (hy : y ∈ x.l) : Hk.unlike x.k y = true := by obtain ⟨d, h⟩ := h; exact right_unlike h hy
/-- The kinds of patterns that may be. -/
theorem inR.cases {x : Rx} (h : inR x) : (x.k = 1 ∧ x.l = []) ∨ (x.k = 2 ∧ x.s ≠ 0 ∧ x.l = []) ∨ ((x.k = 3 ∨ x.k = 4) ∧ x.s = 0 ∧ 2 ≤ x.l.length) ∨ (x.k = 5 ∧ x.s = 0 ∧ times x.lo x.hi = true ∧ ∃ y, x.l = [y]) := by
  have h := h.own
  unfold Hk.own at h
  split at h
  · rename_i h5
    simp only [Bool.and_eq_true, decide_eq_true_eq] at h
    right; right; right
    refine ⟨h5, h.1.1, h.2, ?_⟩
    have hl := h.1.2
    match x.l, hl with
    | [y], _ => exact ⟨y, rfl⟩
  · split at h
    · rename_i h12
      simp only [Bool.and_eq_true, decide_eq_true_eq] at h
      have hl : x.l = [] := List.eq_nil_of_length_eq_zero h.2
      rcases h12 with h1 | h2
      · exact .inl ⟨h1, hl⟩
      · right; left
        refine ⟨h2, fun hs => ?_, hl⟩
        have := h.1.1.1
        rw [h2, hs] at this
        simp at this
    · split at h
      · rename_i h34
        simp only [Bool.and_eq_true, decide_eq_true_eq] at h
        exact .inr (.inr (.inl ⟨h34, h.1.1.1, h.2⟩))
      · cases h
def rightT (x : Rx) : Bool := right x 20 && decide (size x ≤ 200) && decide (0 ≤ nodes x 1000)
/-! ### Which are the same -/
section
variable {α : Type} {p : α → α → Bool} {l r : List α} {i : Nat} {x y : α}
end
mutual
def same : Rx → Rx → Bool
  | .mk k s lo hi l, y => decide (k = y.k) && decide (s = y.s) && decide (lo = y.lo) && decide (hi = y.hi) && decide (l.length = y.l.length) && sames l y.l
def sames : List Rx → List Rx → Bool
  | [], _ => true
  | x :: l, r => (match r with | y :: r => same x y && sames l r | [] => false)
end
/-! ### Which match nothing -/
end Go.Hk
namespace Go.Hk
/-- A sum that is too great wraps once. -/
theorem wrap_up {n : Int} (h : 9223372036854775808 ≤ n) (h' : n < 27670116110564327424) : IntKind.i64.wrap n = n - 18446744073709551616 := by
  have e : IntKind.i64.wrap n = IntKind.i64.wrap (n - 18446744073709551616) := by
    simp only [IntKind.wrap, IntKind.bits, IntKind.signed]
    simp
  rw [e, w_i64 (by omega)]
end Go.Hk
/- Two functions of the library that the model runs in one step: NoEscape, MakeNoZero. -/
namespace Go.Hk
open Go.RowKit
theorem vals_one {vals : Array Value} (h : vals.size = 1) : vals = #[vals.getD 0 undef] := by
  match vals, h with
  | ⟨[x]⟩, _ => rfl
end Go.Hk
/- strings.Builder: what its methods do to the row of bytes behind it. -/
namespace Go.Hk
theorem cU_len (c : UInt8) : (cU c).length = 1 := rfl
theorem cU_strip (c : UInt8) : stripL (cU c) = some (cU c) := rfl
theorem cU_inj {a b : UInt8} (h : cU a = cU b) : a = b := by
  simp only [cU, List.cons.injEq, AVal.int.injEq, and_true, true_and, Int.natCast_inj] at h
  exact UInt8.toNat.inj h
theorem fl_cU_map (s : List UInt8) : fl cU s = s.map fun c => .int .u8 c.toNat := by
  induction s with
  | nil => rfl
  | cons c s ih => rw [fl_cons, ih]; rfl
theorem bytesOf_cU (s : List UInt8) : bytesOf (fl cU s) = some s := by rw [fl_cU_map, bytesOf_map]
theorem l_s_cU {s : List UInt8} : stripL (fl cU s) = some (fl cU s) := fl_strip cU_strip s
theorem l_n_cU {s : List UInt8} : (fl cU s).length = s.length := by rw [fl_len cU_len, Nat.mul_one]
section
variable {B e : TypeId} {v x : AVal} {b t : Nat} {H : List ABlk} {T : List (Nat × (Nat × Nat))} {s s' : List UInt8} {n c : Int}
theorem set_at {x : ABlk} (h : b < H.length) : (H.set b x)[b]? = some x := List.getElem?_set_self h
end
end Go.Hk
/- strings.Join: the plain law. -/
namespace Go.Hk
def cS (s : List UInt8) : List AVal := [.str s]
theorem cS_len (s : List UInt8) : (cS s).length = 1 := rfl
theorem cS_strip (s : List UInt8) : stripL (cS s) = some (cS s) := rfl
theorem l_s_cS {l : List (List UInt8)} : stripL (fl cS l) = some (fl cS l) := fl_strip cS_strip l
theorem l_n_cS {l : List (List UInt8)} : (fl cS l).length = l.length := by rw [fl_len cS_len, Nat.mul_one]
theorem c_flS {h t : Nat} {l : List (List UInt8)} : cloL h t (fl cS l) = true := cloL_strip _ _ l_s_cS
attribute [go_sem] l_s_cS l_n_cS c_flS l_s_cU l_n_cU
/-- What stands behind the first one. -/
def jt (sep : List UInt8) : List (List UInt8) → List UInt8
  | [] => []
  | y :: l => sep ++ (y ++ jt sep l)
def joinS (sep : List UInt8) : List (List UInt8) → List UInt8
  | [] => []
  | x :: l => x ++ jt sep l
end Go.Hk
/- Layer 3, the plain law: the text of a pattern. -/
namespace Go.Hk
def plain (n : Int) : Bool := decide (97 ≤ n) && decide (n ≤ 122) || decide (65 ≤ n) && decide (n ≤ 90) || decide (48 ≤ n) && decide (n ≤ 57)
def hexs : List UInt8 := [48, 49, 50, 51, 52, 53, 54, 55, 56, 57, 97, 98, 99, 100, 101, 102]
def hexd (k : Nat) : UInt8 := hexs.getD k 0
def charT (n : Nat) : List UInt8 := if plain n then [UInt8.ofNat n] else [92, 120, hexd (n / 16), hexd (n % 16)]
end Go.Hk
namespace Go.Hk
/-! ### Texts of sets -/
def charI (n : Int) : List UInt8 := charT n.toNat
def runT (r : Int × Int) : List UInt8 := if r.1 < r.2 then charI r.1 ++ ([45] ++ charI r.2) else charI r.1
def rT : List (Int × Int) → List UInt8
  | [] => []
  | r :: l => runT r ++ rT l
/-- A set's text. -/
def btext (A : Nat) : List UInt8 := if (runsN A 256).length = 1 ∧ ((runsN A 256).getD 0 (0, 0)).1 = ((runsN A 256).getD 0 (0, 0)).2 then charI ((runsN A 256).getD 0 (0, 0)).1 else [91] ++ rT (runsN A 256) ++ [93]
/-! ### Texts of numbers -/
def itoa (n : Int) : List UInt8 := if n < 10 then [UInt8.ofNat (48 + n.toNat)] else [UInt8.ofNat (48 + n.toNat / 10), UInt8.ofNat (48 + n.toNat % 10)]
end Go.Hk
namespace Go.Hk
/-! ### Texts of patterns -/
def par (b : Bool) (t : List UInt8) : List UInt8 := if b then [40] ++ t ++ [41] else t
def pk (k j : Int) : Bool := if k = 5 then decide (3 ≤ j) else if k = 3 then decide (j = 4) else false
def tail5 (lo hi : Int) : List UInt8 := [123] ++ itoa lo ++ [44] ++ (if 0 ≤ hi then itoa hi else []) ++ [125]
def sepK (k : Int) : List UInt8 := if k = 4 then [124] else []
mutual
def text : Rx → List UInt8
  | .mk k s lo hi l => if k = 2 then btext s else if k = 5 then joinS [] (texts k l) ++ tail5 lo hi else if k = 3 ∨ k = 4 then joinS (sepK k) (texts k l) else [40, 41]
def texts : Int → List Rx → List (List UInt8)
  | _, [] => []
  | k, y :: l => par (pk k y.k) (text y) :: texts k l
end
/-- Patterns in one, and how long its text is. -/
theorem nodes_fold (l : List Rx) (f : Rx → Nat) (hf : ∀ y ∈ l, ∀ m : Int, 0 ≤ m → 0 ≤ nodes y m → (f y : Int) ≤ m - nodes y m) : ∀ m : Int, 0 ≤ l.foldl nstep m → ((l.map f).sum : Int) ≤ m - l.foldl nstep m := by
  induction l with
  | nil => intro m _; simp
  | cons y l ih =>
    intro m hm
    rw [List.foldl_cons] at hm ⊢
    have hneg : ∀ (l : List Rx) (m : Int), m < 0 → l.foldl nstep m = m := by
      intro l
      induction l with
      | nil => intro m _; rfl
      | cons z l ih => intro m hm; rw [List.foldl_cons, nstep, if_neg (by omega)]; exact ih m hm
    by_cases h0 : 0 ≤ m
    · rw [nstep, if_pos h0] at hm ⊢
      by_cases h1 : 0 ≤ nodes y m
      · have a := hf y (by simp) m h0 h1
        have b := ih (fun z hz => hf z (by simp [hz])) (nodes y m) hm
        simp only [List.map_cons, List.sum_cons]
        omega
      · rw [hneg _ _ (by omega)] at hm; omega
    · rw [nstep, if_neg h0, hneg _ _ (by omega)] at hm; omega
theorem sz_nodes (x : Rx) : ∀ m : Int, 0 ≤ m → 0 ≤ nodes x m → (sz x : Int) ≤ m - nodes x m := by
  induction x using Rx.ind with
  | h x ih =>
    intro m hm h
    rw [nodes_eq] at h ⊢
    have := nodes_fold x.l sz (fun y hy m h0 h1 => ih y hy m h0 h1) (m - 1) h
    have e : ∀ l, szs l = (l.map sz).sum := by
      intro l
      induction l with
      | nil => rfl
      | cons y l ih => rw [szs, ih]; simp
    rw [sz_eq, e]
    omega
end Go.Hk
namespace Go.Hk
theorem len_szs : ∀ l : List Rx, l.length ≤ szs l
  | [] => Nat.le_refl _
  | x :: l => by have := len_szs l; rw [szs, sz_eq, List.length_cons]; omega
theorem okB.small {N M : Nat} {x : Rx} (h : okB N x) : sz x < M → okB M x := by
  induction h with
  | @mk k s lo hi l hk hs hlo hhi hl h ih =>
    intro hm
    rw [sz] at hm
    refine .mk hk hs hlo hhi (by have := len_szs l; omega) fun y hy => ih y hy ?_
    have := szs_mem hy
    omega
/-- Few patterns have short lists. -/
abbrev okS : Rx → Prop := okB 1000000
theorem okW.fewS {x : Rx} (h : okW x) {m : Int} (hm : 0 ≤ m ∧ m < 1000000) (hn : 0 ≤ nodes x m) : okS x := by
  have := sz_nodes x m hm.1 hn
  exact h.small (by omega)
theorem okB.big {x : Rx} (h : okS x) : okX x := h.le (by omega)
theorem okW.few {x : Rx} (h : okW x) {m : Int} (hm : 0 ≤ m ∧ m < 1000000) (hn : 0 ≤ nodes x m) : okX x := (h.fewS hm hn).big
/-- A pattern of one byte. -/
def chX (b : Int) : Rx := .mk 2 (ofN b b) 0 0 []
theorem chX_ok (b : Int) : okX (chX b) := .mk (by omega) (ofN_lt _ _) (by omega) (by omega) (by simp) (fun y hy => by cases hy)
def noX : Rx := .mk 0 0 0 0 []
theorem noX_ok : okX noX := .mk (by omega) (by omega) (by omega) (by omega) (by simp) (fun y hy => by cases hy)
end Go.Hk
