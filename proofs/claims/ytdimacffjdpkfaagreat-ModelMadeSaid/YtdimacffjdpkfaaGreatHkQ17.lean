import Derived.Test.YtdimacffjdpkfaaGreatHkQ16
import Derived.Test.YtdimacffjdpkfaaGreatHkQ08
import Derived.Laws.Externs
import Derived.Lib.MakeNoZero
import Derived.Test.YtdimacffjdpkfaaGreatHkQ15
set_option linter.unusedSimpArgs false
set_option linter.unusedVariables false
namespace Go.Hk
section
variable {α : Type} {p : α → Bool} {l : List α} {i : Nat} {x : α}
def idx (p : α → Bool) : List α → Int
  | [] => -1
  | x :: l => if p x then 0 else if idx p l < 0 then -1 else idx p l + 1
theorem idx_bd : ∀ l : List α, -1 ≤ idx p l ∧ idx p l < l.length
  | [] => by simp [idx]
  | x :: l => by
    have := idx_bd l
    simp only [idx, List.length_cons]
    split
    · omega
    · split <;> omega
theorem idx_any : ∀ l : List α, decide (0 ≤ idx p l) = l.any p
  | [] => by simp [idx]
  | x :: l => by
    have h := idx_any l
    have hb := idx_bd (p := p) l
    simp only [idx, List.any_cons]
    by_cases hp : p x = true
    · simp [hp]
    · rw [← h]
      simp only [Bool.not_eq_true] at hp
      simp only [hp, Bool.false_or, Bool.false_eq_true, if_false]
      split <;> simp <;> omega
theorem idx_none (h : ∀ x ∈ l, p x = false) : idx p l = -1 := by
  induction l with
  | nil => rfl
  | cons y l ih => rw [idx, h y (by simp), ih fun z hz => h z (by simp [hz])]; simp
theorem idx_at : ∀ {l : List α} {i : Nat}, l[i]? = some x → (∀ y ∈ l.take i, p y = false) → p x = true → idx p l = i
  | y :: l, 0, hx, _, hp => by
    simp only [List.getElem?_cons_zero, Option.some.injEq] at hx
    subst hx
    rw [idx, hp]; simp
  | y :: l, i + 1, hx, hi, hp => by
    rw [idx, hi y (by simp), idx_at (l := l) (i := i) (by simpa using hx) (fun z hz => hi z (by simp [hz])) hp]
    simp
    omega
theorem upto_next (h : ∀ y ∈ l.take i, p y = false) (hx : l[i]? = some x) (hp : p x = false) : ∀ y ∈ l.take (i + 1), p y = false := by
  obtain ⟨hi, rfl⟩ := List.getElem?_eq_some_iff.1 hx
  intro y hy
  rw [List.take_succ_eq_append_getElem hi, List.mem_append, List.mem_singleton] at hy
  rcases hy with hy | rfl
  · exact h y hy
  · exact hp
theorem any_none (h : ∀ x ∈ l, p x = false) : l.any p = false := by
  rw [← idx_any, idx_none h]; rfl
theorem any_at (hx : l[i]? = some x) (hp : p x = true) : l.any p = true := List.any_eq_true.2 ⟨x, List.mem_of_getElem? hx, hp⟩
end
def times (lo hi : Int) : Bool := decide (0 ≤ lo) && decide (lo ≤ 20) && (decide (hi = -1) || decide (imax 1 lo ≤ hi) && decide (hi ≤ 20))
def own (x : Rx) : Bool :=
  if x.k = 5 then decide (x.s = 0) && decide (x.l.length = 1) && times x.lo x.hi
  else if x.k = 1 ∨ x.k = 2 then (decide (x.s = 0) == decide (x.k = 1)) && decide (x.lo = 0) && decide (x.hi = 0) && decide (x.l.length = 0)
  else if x.k = 3 ∨ x.k = 4 then decide (x.s = 0) && decide (x.lo = 0) && decide (x.hi = 0) && decide (2 ≤ x.l.length)
  else false
def unlike (k : Int) (y : Rx) : Bool := !(decide (y.k = k) && decide (k ≠ 5))
mutual
def right : Rx → Int → Bool
  | .mk k s lo hi l, d => decide (0 < d) && own (.mk k s lo hi l) && rights k l (d - 1)
def rights : Int → List Rx → Int → Bool
  | _, [], _ => true
  | k, y :: l, d => unlike k y && right y d && rights k l d
end
def rodd (x : Rx) (d : Int) (y : Rx) : Bool := decide (y.k = x.k) && decide (x.k ≠ 5) || !right y (d - 1)
theorem rights_any (x : Rx) (d : Int) : ∀ l : List Rx, rights x.k l (d - 1) = !l.any (rodd x d)
  | [] => by rw [rights]; rfl
  | y :: l => by
    rw [rights, rights_any x d l, List.any_cons, rodd, unlike]
    cases decide (y.k = x.k) <;> cases decide (x.k ≠ 5) <;> cases right y (d - 1) <;> simp
theorem right_eq (x : Rx) (d : Int) : right x d = (decide (0 < d) && own x && !x.l.any (rodd x d)) := by
  rw [← rights_any]; cases x; rw [right]; rfl
theorem right_kid {x y : Rx} {d : Int} (h : right x d = true) (hy : y ∈ x.l) : right y (d - 1) = true := by
  rw [right_eq, Bool.and_eq_true, Bool.not_eq_true', ← Bool.not_eq_true] at h
  have h2 := h.2
  rw [List.any_eq_true] at h2
  cases hr : right y (d - 1)
  · exact absurd ⟨y, hy, by simp [rodd, hr]⟩ h2
  · rfl
theorem right_pos {x : Rx} {d : Int} (h : right x d = true) : 0 < d := by
  rw [right_eq, Bool.and_eq_true, Bool.and_eq_true] at h
  exact of_decide_eq_true h.1.1
theorem right_own {x : Rx} {d : Int} (h : right x d = true) : own x = true := by
  rw [right_eq, Bool.and_eq_true, Bool.and_eq_true] at h
  exact h.1.2
theorem right_unlike {x y : Rx} {d : Int} (h : right x d = true) (hy : y ∈ x.l) : unlike x.k y = true := by
  rw [right_eq, Bool.and_eq_true, Bool.not_eq_true', ← Bool.not_eq_true] at h
  have h2 := h.2
  rw [List.any_eq_true] at h2
  cases hr : unlike x.k y
  · exact absurd ⟨y, hy, by rw [rodd, Bool.or_eq_true]; left; simpa [unlike] using hr⟩ h2
  · rfl
def inR (x : Rx) : Prop := ∃ d, right x d = true
theorem inR.kid {x y : Rx} (h : inR x) (hy : y ∈ x.l) : inR y := by obtain ⟨d, h⟩ := h; exact ⟨d - 1, right_kid h hy⟩
theorem inR.own {x : Rx} (h : inR x) : Hk.own x = true := by obtain ⟨d, h⟩ := h; exact right_own h
theorem inR.unlike {x y : Rx} (h : inR x) (hy : y ∈ x.l) : Hk.unlike x.k y = true := by obtain ⟨d, h⟩ := h; exact right_unlike h hy
theorem inR.cases {x : Rx} (h : inR x) : (x.k = 1 ∧ x.l = []) ∨ (x.k = 2 ∧ x.s ≠ 0 ∧ x.l = []) ∨ ((x.k = 3 ∨ x.k = 4) ∧ x.s = 0 ∧ 2 ≤ x.l.length) ∨ (x.k = 5 ∧ x.s = 0 ∧ times x.lo x.hi = true ∧ ∃ y, x.l = [y]) := by
  have h := h.own
  unfold Hk.own at h
  split at h
  · rename_i h5
    simp only [Bool.and_eq_true, decide_eq_true_eq] at h
    right; right; right
    refine ⟨h5, h.1.1, h.2, ?_⟩
    have hl := h.1.2
    match x.l, hl with
    | [y], _ => exact ⟨y, rfl⟩
  · split at h
    · rename_i h12
      simp only [Bool.and_eq_true, decide_eq_true_eq] at h
      have hl : x.l = [] := List.eq_nil_of_length_eq_zero h.2
      rcases h12 with h1 | h2
      · exact .inl ⟨h1, hl⟩
      · right; left
        refine ⟨h2, fun hs => ?_, hl⟩
        have := h.1.1.1
        rw [h2, hs] at this
        simp at this
    · split at h
      · rename_i h34
        simp only [Bool.and_eq_true, decide_eq_true_eq] at h
        exact .inr (.inr (.inl ⟨h34, h.1.1.1, h.2⟩))
      · cases h
def rightT (x : Rx) : Bool := right x 20 && decide (size x ≤ 200) && decide (0 ≤ nodes x 1000)
section
variable {α : Type} {p : α → α → Bool} {l r : List α} {i : Nat} {x y : α}
end
mutual
def same : Rx → Rx → Bool
  | .mk k s lo hi l, y => decide (k = y.k) && decide (s = y.s) && decide (lo = y.lo) && decide (hi = y.hi) && decide (l.length = y.l.length) && sames l y.l
def sames : List Rx → List Rx → Bool
  | [], _ => true
  | x :: l, r => (match r with | y :: r => same x y && sames l r | [] => false)
end
end Go.Hk
namespace Go.Hk
theorem wrap_up {n : Int} (h : 9223372036854775808 ≤ n) (h' : n < 27670116110564327424) : IntKind.i64.wrap n = n - 18446744073709551616 := by
  have e : IntKind.i64.wrap n = IntKind.i64.wrap (n - 18446744073709551616) := by
    simp only [IntKind.wrap, IntKind.bits, IntKind.signed]
    simp
  rw [e, w_i64 (by omega)]
end Go.Hk
namespace Go.Hk
open Go.RowKit
theorem vals_one {vals : Array Value} (h : vals.size = 1) : vals = #[vals.getD 0 undef] := by
  match vals, h with
  | ⟨[x]⟩, _ => rfl
end Go.Hk
namespace Go.Hk
theorem cU_len (c : UInt8) : (cU c).length = 1 := rfl
theorem cU_strip (c : UInt8) : stripL (cU c) = some (cU c) := rfl
theorem cU_inj {a b : UInt8} (h : cU a = cU b) : a = b := by
  simp only [cU, List.cons.injEq, AVal.int.injEq, and_true, true_and, Int.natCast_inj] at h
  exact UInt8.toNat.inj h
theorem fl_cU_map (s : List UInt8) : fl cU s = s.map fun c => .int .u8 c.toNat := by
  induction s with
  | nil => rfl
  | cons c s ih => rw [fl_cons, ih]; rfl
theorem bytesOf_cU (s : List UInt8) : bytesOf (fl cU s) = some s := by rw [fl_cU_map, bytesOf_map]
theorem l_s_cU {s : List UInt8} : stripL (fl cU s) = some (fl cU s) := fl_strip cU_strip s
theorem l_n_cU {s : List UInt8} : (fl cU s).length = s.length := by rw [fl_len cU_len, Nat.mul_one]
section
variable {B e : TypeId} {v x : AVal} {b t : Nat} {H : List ABlk} {T : List (Nat × (Nat × Nat))} {s s' : List UInt8} {n c : Int}
theorem set_at {x : ABlk} (h : b < H.length) : (H.set b x)[b]? = some x := List.getElem?_set_self h
end
end Go.Hk
namespace Go.Hk
def cS (s : List UInt8) : List AVal := [.str s]
theorem cS_len (s : List UInt8) : (cS s).length = 1 := rfl
theorem cS_strip (s : List UInt8) : stripL (cS s) = some (cS s) := rfl
theorem l_s_cS {l : List (List UInt8)} : stripL (fl cS l) = some (fl cS l) := fl_strip cS_strip l
theorem l_n_cS {l : List (List UInt8)} : (fl cS l).length = l.length := by rw [fl_len cS_len, Nat.mul_one]
theorem c_flS {h t : Nat} {l : List (List UInt8)} : cloL h t (fl cS l) = true := cloL_strip _ _ l_s_cS
attribute [go_sem] l_s_cS l_n_cS c_flS l_s_cU l_n_cU
def jt (sep : List UInt8) : List (List UInt8) → List UInt8
  | [] => []
  | y :: l => sep ++ (y ++ jt sep l)
def joinS (sep : List UInt8) : List (List UInt8) → List UInt8
  | [] => []
  | x :: l => x ++ jt sep l
end Go.Hk
namespace Go.Hk
def plain (n : Int) : Bool := decide (97 ≤ n) && decide (n ≤ 122) || decide (65 ≤ n) && decide (n ≤ 90) || decide (48 ≤ n) && decide (n ≤ 57)
def hexs : List UInt8 := [48, 49, 50, 51, 52, 53, 54, 55, 56, 57, 97, 98, 99, 100, 101, 102]
def hexd (k : Nat) : UInt8 := hexs.getD k 0
def charT (n : Nat) : List UInt8 := if plain n then [UInt8.ofNat n] else [92, 120, hexd (n / 16), hexd (n % 16)]
end Go.Hk
namespace Go.Hk
def charI (n : Int) : List UInt8 := charT n.toNat
def runT (r : Int × Int) : List UInt8 := if r.1 < r.2 then charI r.1 ++ ([45] ++ charI r.2) else charI r.1
def rT : List (Int × Int) → List UInt8
  | [] => []
  | r :: l => runT r ++ rT l
def btext (A : Nat) : List UInt8 := if (runsN A 256).length = 1 ∧ ((runsN A 256).getD 0 (0, 0)).1 = ((runsN A 256).getD 0 (0, 0)).2 then charI ((runsN A 256).getD 0 (0, 0)).1 else [91] ++ rT (runsN A 256) ++ [93]
def itoa (n : Int) : List UInt8 := if n < 10 then [UInt8.ofNat (48 + n.toNat)] else [UInt8.ofNat (48 + n.toNat / 10), UInt8.ofNat (48 + n.toNat % 10)]
end Go.Hk
namespace Go.Hk
def par (b : Bool) (t : List UInt8) : List UInt8 := if b then [40] ++ t ++ [41] else t
def pk (k j : Int) : Bool := if k = 5 then decide (3 ≤ j) else if k = 3 then decide (j = 4) else false
def tail5 (lo hi : Int) : List UInt8 := [123] ++ itoa lo ++ [44] ++ (if 0 ≤ hi then itoa hi else []) ++ [125]
def sepK (k : Int) : List UInt8 := if k = 4 then [124] else []
mutual
def text : Rx → List UInt8
  | .mk k s lo hi l => if k = 2 then btext s else if k = 5 then joinS [] (texts k l) ++ tail5 lo hi else if k = 3 ∨ k = 4 then joinS (sepK k) (texts k l) else [40, 41]
def texts : Int → List Rx → List (List UInt8)
  | _, [] => []
  | k, y :: l => par (pk k y.k) (text y) :: texts k l
end
theorem nodes_fold (l : List Rx) (f : Rx → Nat) (hf : ∀ y ∈ l, ∀ m : Int, 0 ≤ m → 0 ≤ nodes y m → (f y : Int) ≤ m - nodes y m) : ∀ m : Int, 0 ≤ l.foldl nstep m → ((l.map f).sum : Int) ≤ m - l.foldl nstep m := by
  induction l with
  | nil => intro m _; simp
  | cons y l ih =>
    intro m hm
    rw [List.foldl_cons] at hm ⊢
    have hneg : ∀ (l : List Rx) (m : Int), m < 0 → l.foldl nstep m = m := by
      intro l
      induction l with
      | nil => intro m _; rfl
      | cons z l ih => intro m hm; rw [List.foldl_cons, nstep, if_neg (by omega)]; exact ih m hm
    by_cases h0 : 0 ≤ m
    · rw [nstep, if_pos h0] at hm ⊢
      by_cases h1 : 0 ≤ nodes y m
      · have a := hf y (by simp) m h0 h1
        have b := ih (fun z hz => hf z (by simp [hz])) (nodes y m) hm
        simp only [List.map_cons, List.sum_cons]
        omega
      · rw [hneg _ _ (by omega)] at hm; omega
    · rw [nstep, if_neg h0, hneg _ _ (by omega)] at hm; omega
theorem sz_nodes (x : Rx) : ∀ m : Int, 0 ≤ m → 0 ≤ nodes x m → (sz x : Int) ≤ m - nodes x m := by
  induction x using Rx.ind with
  | h x ih =>
    intro m hm h
    rw [nodes_eq] at h ⊢
    have := nodes_fold x.l sz (fun y hy m h0 h1 => ih y hy m h0 h1) (m - 1) h
    have e : ∀ l, szs l = (l.map sz).sum := by
      intro l
      induction l with
      | nil => rfl
      | cons y l ih => rw [szs, ih]; simp
    rw [sz_eq, e]
    omega
end Go.Hk
namespace Go.Hk
theorem len_szs : ∀ l : List Rx, l.length ≤ szs l
  | [] => Nat.le_refl _
  | x :: l => by have := len_szs l; rw [szs, sz_eq, List.length_cons]; omega
theorem okB.small {N M : Nat} {x : Rx} (h : okB N x) : sz x < M → okB M x := by
  induction h with
  | @mk k s lo hi l hk hs hlo hhi hl h ih =>
    intro hm
    rw [sz] at hm
    refine .mk hk hs hlo hhi (by have := len_szs l; omega) fun y hy => ih y hy ?_
    have := szs_mem hy
    omega
abbrev okS : Rx → Prop := okB 1000000
theorem okW.fewS {x : Rx} (h : okW x) {m : Int} (hm : 0 ≤ m ∧ m < 1000000) (hn : 0 ≤ nodes x m) : okS x := by
  have := sz_nodes x m hm.1 hn
  exact h.small (by omega)
theorem okB.big {x : Rx} (h : okS x) : okX x := h.le (by omega)
theorem okW.few {x : Rx} (h : okW x) {m : Int} (hm : 0 ≤ m ∧ m < 1000000) (hn : 0 ≤ nodes x m) : okX x := (h.fewS hm hn).big
def chX (b : Int) : Rx := .mk 2 (ofN b b) 0 0 []
theorem chX_ok (b : Int) : okX (chX b) := .mk (by omega) (ofN_lt _ _) (by omega) (by omega) (by simp) (fun y hy => by cases hy)
def noX : Rx := .mk 0 0 0 0 []
theorem noX_ok : okX noX := .mk (by omega) (by omega) (by omega) (by omega) (by simp) (fun y hy => by cases hy)
end Go.Hk
namespace Go.Hk
def pickV (L : List UInt8) (at' n : Nat) : Nat := match L[at']? with | some c => c.toNat % n | none => 0
theorem pickV_lt {L : List UInt8} {a n : Nat} (h : 0 < n) : pickV L a n < n := by
  unfold pickV
  split
  · exact Nat.mod_lt _ h
  · exact h
theorem pickV_in {L : List UInt8} {a n : Nat} (h : a < L.length) : pickV L a n = (L[a]'h).toNat % n := by simp [pickV, h]
theorem pickV_out {L : List UInt8} {a n : Nat} (h : L.length ≤ a) : pickV L a n = 0 := by simp [pickV, h]
def odds : List Int := [10, 45, 90, 0, 255, 48]
def lfX (s : Nat) : Rx := .mk 2 s 0 0 []
def emX : Rx := .mk 1 0 0 0 []
def leafM (L : List UInt8) (a : Nat) : Rx × Nat :=
  if pickV L a 8 = 0 then (emX, a + 1)
  else if pickV L a 8 = 1 then (lfX (ofN 97 99), a + 1)
  else if pickV L a 8 = 2 then (lfX (notN (ofN 97 97)), a + 1)
  else if pickV L a 8 = 3 then (chX (odds.getD (pickV L (a + 1) 6) 0), a + 2)
  else (chX (97 + (pickV L (a + 1) 3 : Nat)), a + 2)
def joinX (k : Int) (l : List Rx) : Rx := .mk k 0 0 0 (l.flatMap fun y => if y.k = k then y.l else [y])
def hiV (L : List UInt8) (a lo : Nat) : Int × Nat := if pickV L a 2 = 1 then (imax 1 (lo : Nat) + (pickV L (a + 1) 2 : Nat), a + 2) else (-1, a + 1)
def rxM (L : List UInt8) (d a : Nat) : Rx × Nat :=
  if d = 0 ∨ pickV L a 8 < 2 ∨ L.length ≤ a + 1 then leafM L (a + 1)
  else if pickV L a 8 < 5 then (joinX 3 [(rxM L (d - 1) (a + 1)).1, (rxM L (d - 1) (rxM L (d - 1) (a + 1)).2).1], (rxM L (d - 1) (rxM L (d - 1) (a + 1)).2).2)
  else if pickV L a 8 = 5 then (joinX 4 [(rxM L (d - 1) (a + 1)).1, (rxM L (d - 1) (rxM L (d - 1) (a + 1)).2).1], (rxM L (d - 1) (rxM L (d - 1) (a + 1)).2).2)
  else (.mk 5 0 (pickV L (a + 1) 3 : Nat) (hiV L (a + 2) (pickV L (a + 1) 3)).1 [(rxM L (d - 2) (hiV L (a + 2) (pickV L (a + 1) 3)).2).1], (rxM L (d - 2) (hiV L (a + 2) (pickV L (a + 1) 3)).2).2)
termination_by d
decreasing_by all_goals omega
end Go.Hk
namespace Go.Hk
theorem right_mono (x : Rx) : ∀ d e : Int, d ≤ e → right x d = true → right x e = true := by
  induction x using Rx.ind with
  | h x ih =>
    intro d e hde h
    have h' := h
    rw [right_eq] at h ⊢
    simp only [Bool.and_eq_true, decide_eq_true_eq, Bool.not_eq_true'] at h ⊢
    refine ⟨⟨by omega, h.1.2⟩, ?_⟩
    rw [Bool.eq_false_iff, Ne, List.any_eq_true]
    rintro ⟨y, hy, ho⟩
    have h1 := right_kid h' hy
    have h2 := right_unlike h' hy
    have h3 := ih y hy (d - 1) (e - 1) (by omega) h1
    simp only [rodd, h3, Bool.not_true, Bool.or_false] at ho
    simp [unlike] at h2
    simp at ho
    omega
theorem right_mk {x : Rx} {d : Int} (hd : 0 < d) (ho : own x = true) (h : ∀ y ∈ x.l, unlike x.k y = true ∧ right y (d - 1) = true) : right x d = true := by
  rw [right_eq]
  simp only [Bool.and_eq_true, decide_eq_true_eq, Bool.not_eq_true']
  refine ⟨⟨hd, ho⟩, any_none fun y hy => ?_⟩
  obtain ⟨h1, h2⟩ := h y hy
  simp only [rodd, h2, Bool.not_true, Bool.or_false]
  simp [unlike] at h1
  simp
  omega
theorem leaf_right {x : Rx} (hl : x.l = []) (ho : own x = true) {d : Int} (hd : 0 < d) : right x d = true := right_mk hd ho fun y hy => by rw [hl] at hy; cases hy
theorem emX_own : own emX = true := by decide
theorem lfX_own {s : Nat} (h : s ≠ 0) : own (lfX s) = true := by simp [own, lfX, Rx.k, Rx.s, Rx.lo, Rx.hi, Rx.l, h]
theorem ofN_pos {b : Nat} (h : b < 256) : ofN b b ≠ 0 := by
  intro h0
  have h1 : (ofN b b).testBit b = true := by rw [ofN, mk_bit]; simp [h, inOf]
  rw [h0] at h1
  simp at h1
theorem chX_own {b : Int} (h : 0 ≤ b ∧ b < 256) : own (chX b) = true := by
  obtain ⟨n, rfl⟩ := Int.eq_ofNat_of_zero_le h.1
  exact lfX_own (ofN_pos (by omega))
theorem lfX_ok {s : Nat} (h : s < 2 ^ 256) : okX (lfX s) := .mk (by omega) h (by omega) (by omega) (by simp) (fun y hy => by cases hy)
theorem emX_ok : okX emX := .mk (by omega) (by omega) (by omega) (by omega) (by simp) (fun y hy => by cases hy)
theorem odds_bd {k : Nat} : 0 ≤ odds.getD k 0 ∧ odds.getD k 0 < 256 := by
  rcases Nat.lt_or_ge k 6 with h | h
  · have : ∀ k : Fin 6, 0 ≤ odds.getD k.val 0 ∧ odds.getD k.val 0 < 256 := by decide
    exact this ⟨k, h⟩
  · rw [List.getD_eq_getElem?_getD, List.getElem?_eq_none (by simpa [odds] using h)]; decide
structure Good (x : Rx) (d : Int) (n : Nat) : Prop where
  ok : okX x
  right : Hk.right x d = true
  sz : sz x ≤ n
theorem leafM_good (L : List UInt8) (a : Nat) : Good (leafM L a).1 1 1 := by
  have h1 : ofN 97 99 ≠ 0 := by decide +kernel
  have h2 : notN (ofN 97 97) ≠ 0 := by decide +kernel
  have h3 := pickV_lt (L := L) (a := a + 1) (n := 3) (by omega)
  unfold leafM
  split
  · exact ⟨emX_ok, leaf_right rfl emX_own (by omega), by simp [emX, Hk.sz, szs]⟩
  · split
    · exact ⟨lfX_ok (ofN_lt _ _), leaf_right rfl (lfX_own h1) (by omega), by simp [lfX, Hk.sz, szs]⟩
    · split
      · exact ⟨lfX_ok (notN_lt _), leaf_right rfl (lfX_own h2) (by omega), by simp [lfX, Hk.sz, szs]⟩
      · split
        · exact ⟨chX_ok _, leaf_right rfl (chX_own odds_bd) (by omega), by simp [chX, Hk.sz, szs]⟩
        · exact ⟨chX_ok _, leaf_right rfl (chX_own (by omega)) (by omega), by simp [chX, Hk.sz, szs]⟩
theorem leafM_at (L : List UInt8) (a : Nat) : (leafM L a).2 ≤ a + 2 ∧ a < (leafM L a).2 := by
  unfold leafM
  repeat' split
  all_goals simp
theorem szs_app : ∀ l r, szs (l ++ r) = szs l + szs r
  | [], r => by simp [szs]
  | x :: l, r => by simp only [List.cons_append, szs, szs_app l r]; omega
def flat1 (k : Int) (y : Rx) : List Rx := if y.k = k then y.l else [y]
theorem joinX_two (k : Int) (x y : Rx) : joinX k [x, y] = .mk k 0 0 0 (flat1 k x ++ flat1 k y) := by simp [joinX, flat1]
theorem flat1_sz (k : Int) (y : Rx) : szs (flat1 k y) ≤ sz y := by
  unfold flat1
  split
  · rw [sz_eq]; omega
  · simp [szs]
theorem flat1_len {k : Int} {y : Rx} {d : Int} (hk : k = 3 ∨ k = 4) (h : Hk.right y d = true) : 1 ≤ (flat1 k y).length := by
  unfold flat1
  split
  · have := (show inR y from ⟨d, h⟩).cases
    omega
  · simp
theorem flat1_mem {k : Int} {y z : Rx} {d : Int} (hk : k = 3 ∨ k = 4) (h : Hk.right y d = true) (hz : z ∈ flat1 k y) : z.k ≠ k ∧ Hk.right z d = true := by
  unfold flat1 at hz
  split at hz
  · rename_i hy
    have h1 := right_unlike h hz
    have h2 := right_kid h hz
    refine ⟨?_, right_mono z _ _ (by omega) h2⟩
    simp [unlike, hy] at h1
    omega
  · rename_i hy
    rw [List.mem_singleton] at hz
    subst hz
    exact ⟨hy, h⟩
theorem flat1_ok {k : Int} {y z : Rx} (h : okX y) (hz : z ∈ flat1 k y) : okX z := by
  unfold flat1 at hz
  split at hz
  · exact h.mem hz
  · rw [List.mem_singleton] at hz
    subst hz; exact h
theorem joinX_good {k : Int} {x y : Rx} {d : Int} {n m : Nat} (hk : k = 3 ∨ k = 4) (hx : Good x d n) (hy : Good y d m) (hb : n + m < 1000000) : Good (joinX k [x, y]) (d + 1) (n + m + 1) := by
  have hd := right_pos hx.right
  rw [joinX_two]
  have h1 := flat1_sz k x
  have h2 := flat1_sz k y
  have h3 := hx.sz
  have h4 := hy.sz
  have hl1 := len_szs (flat1 k x)
  have hl2 := len_szs (flat1 k y)
  have hl3 := flat1_len hk hx.right
  have hl4 := flat1_len hk hy.right
  refine ⟨.mk (by omega) (by omega) (by omega) (by omega) (by rw [List.length_append]; omega) fun z hz => ?_, right_mk (by omega) ?_ fun z hz => ?_, ?_⟩
  · rcases List.mem_append.1 hz with hz | hz
    · exact flat1_ok hx.ok hz
    · exact flat1_ok hy.ok hz
  · simp only [own, Rx.k, Rx.s, Rx.lo, Rx.hi, Rx.l]
    rw [if_neg (by omega), if_neg (by omega), if_pos hk]
    simp only [List.length_append, Bool.and_eq_true, decide_eq_true_eq]
    exact ⟨⟨⟨trivial, trivial⟩, trivial⟩, by omega⟩
  · have : z.k ≠ k ∧ Hk.right z d = true := by
      rcases List.mem_append.1 hz with hz | hz
      · exact flat1_mem hk hx.right hz
      · exact flat1_mem hk hy.right hz
    refine ⟨?_, by rw [Int.add_sub_cancel]; exact this.2⟩
    show (!(decide (z.k = k) && decide (k ≠ 5))) = true
    simp [this.1]
  · rw [sz, szs_app]; omega
theorem hiV_at (L : List UInt8) (a lo : Nat) : (hiV L a lo).2 ≤ a + 2 ∧ a < (hiV L a lo).2 := by unfold hiV; split <;> simp
theorem hiV_times {L : List UInt8} {a lo : Nat} (h : lo < 3) : times (lo : Nat) (hiV L a lo).1 = true := by
  have h2 := pickV_lt (L := L) (a := a + 1) (n := 2) (by omega)
  unfold hiV
  split
  · simp only [times, Bool.and_eq_true, Bool.or_eq_true, decide_eq_true_eq]
    have : 1 ≤ imax 1 (lo : Int) ∧ (lo : Int) ≤ imax 1 (lo : Int) ∧ (imax 1 (lo : Int) = 1 ∨ imax 1 (lo : Int) = lo) := imax_le
    omega
  · simp only [times, Bool.and_eq_true, Bool.or_eq_true, decide_eq_true_eq]
    exact ⟨by omega, .inl trivial⟩
theorem rxM_good (L : List UInt8) : ∀ (d a : Nat), d ≤ 10 → Good (rxM L d a).1 (d + 1) (2 ^ (d + 1) - 1) := by
  intro d
  induction d using Nat.strongRecOn with
  | ind d ih =>
    intro a hd
    have hp : (2 : Nat) ^ (d + 1) = 2 ^ d * 2 := Nat.pow_succ 2 d
    have hp0 : 0 < (2 : Nat) ^ d := Nat.pow_pos (by omega)
    rw [rxM]
    split
    · have h := leafM_good L (a + 1)
      exact ⟨h.ok, right_mono _ _ _ (by omega) h.right, by have := h.sz; omega⟩
    · rename_i h
      have hd0 : 0 < d := by omega
      have hp1 : (2 : Nat) ^ d = 2 ^ (d - 1) * 2 := by rw [← Nat.pow_succ]; congr 1; omega
      have hpm : (2 : Nat) ^ d ≤ 2 ^ 10 := Nat.pow_le_pow_right (by omega) hd
      have e1 : ((d - 1 : Nat) : Int) + 1 = d := by omega
      have e2 : d - 1 + 1 = d := by omega
      have key : ∀ k : Int, (k = 3 ∨ k = 4) → ∀ b c, Good (joinX k [(rxM L (d - 1) b).1, (rxM L (d - 1) c).1]) (d + 1) (2 ^ (d + 1) - 1) := by
        intro k hk b c
        have g1 := ih (d - 1) (by omega) b (by omega)
        have g2 := ih (d - 1) (by omega) c (by omega)
        rw [e1, e2] at g1 g2
        have g := joinX_good hk g1 g2 (by omega)
        exact ⟨g.ok, g.right, by have := g.sz; omega⟩
      split
      · exact key 3 (.inl rfl) _ _
      · split
        · exact key 4 (.inr rfl) _ _
        · have g := ih (d - 2) (by omega) (hiV L (a + 2) (pickV L (a + 1) 3)).2 (by omega)
          have hlo := pickV_lt (L := L) (a := a + 1) (n := 3) (by omega)
          have ht := hiV_times (L := L) (a := a + 2) hlo
          have hpw : (2 : Nat) ^ (d - 2 + 1) ≤ 2 ^ d := Nat.pow_le_pow_right (by omega) (by omega)
          have ht' := ht
          have him : 1 ≤ imax 1 ((pickV L (a + 1) 3 : Nat) : Int) := imax_le.1
          unfold times at ht'
          simp only [Bool.and_eq_true, Bool.or_eq_true, decide_eq_true_eq] at ht'
          refine ⟨.mk (by omega) (by omega) (by omega) (by omega) (by simp) fun z hz => ?_, right_mk (by omega) ?_ fun z hz => ?_, ?_⟩
          · rw [List.mem_singleton] at hz
            subst hz; exact g.ok
          · simp only [own, Rx.k, Rx.s, Rx.lo, Rx.hi, Rx.l, if_true]
            simp only [ht, Bool.and_true, List.length_singleton, decide_true]
          · change z ∈ [_] at hz
            rw [List.mem_singleton] at hz
            subst hz
            refine ⟨by simp [unlike, Rx.k], right_mono _ _ _ (by omega) g.right⟩
          · have := g.sz
            simp only [sz, szs]; omega
theorem rxM_at (L : List UInt8) : ∀ (d a : Nat), (rxM L d a).2 + 4 ≤ a + 8 * 2 ^ d ∧ a < (rxM L d a).2 := by
  intro d
  induction d using Nat.strongRecOn with
  | ind d ih =>
    intro a
    have hp0 : 0 < (2 : Nat) ^ d := Nat.pow_pos (by omega)
    rw [rxM]
    split
    · have h := leafM_at L (a + 1)
      omega
    · rename_i h
      have hd0 : 0 < d := by omega
      have hp1 : (2 : Nat) ^ d = 2 ^ (d - 1) * 2 := by rw [← Nat.pow_succ]; congr 1; omega
      have h1 := ih (d - 1) (by omega) (a + 1)
      have h2 := ih (d - 1) (by omega) (rxM L (d - 1) (a + 1)).2
      split
      · simp only; omega
      · split
        · simp only; omega
        · have h3 := hiV_at L (a + 2) (pickV L (a + 1) 3)
          have h4 := ih (d - 2) (by omega) (hiV L (a + 2) (pickV L (a + 1) 3)).2
          have hpw : (2 : Nat) ^ (d - 2) ≤ 2 ^ (d - 1) := Nat.pow_le_pow_right (by omega) (by omega)
          simp only; omega
theorem nodes_sz (x : Rx) : ∀ m : Int, (sz x : Int) ≤ m → nodes x m = m - sz x := by
  induction x using Rx.ind with
  | h x ih =>
    intro m hm
    rw [nodes_eq]
    have key : ∀ (l : List Rx) (m : Int), (∀ y ∈ l, y ∈ x.l) → (szs l : Int) ≤ m → l.foldl nstep m = m - szs l := by
      intro l
      induction l with
      | nil => intro m _ _; simp [szs]
      | cons y l ihl =>
        intro m hl hm
        simp only [szs] at hm
        rw [List.foldl_cons, nstep, if_pos (by omega), ih y (hl y (by simp)) m (by omega), ihl (m - sz y) (fun z hz => hl z (by simp [hz])) (by omega)]
        simp only [szs]; omega
    rw [sz_eq] at hm ⊢
    rw [key x.l (m - 1) (fun _ h => h) (by omega)]
    omega
end Go.Hk
namespace Go.Hk
def flatK (k : Int) (l : List Rx) : List Rx := l.flatMap (flat1 k)
theorem joinX_flat (k : Int) (l : List Rx) : joinX k l = .mk k 0 0 0 (flatK k l) := rfl
theorem flatK_next {k : Int} {l : List Rx} {i : Nat} {y : Rx} (h : l[i]? = some y) : flatK k (l.take (i + 1)) = flatK k (l.take i) ++ flat1 k y := by
  obtain ⟨hi, rfl⟩ := List.getElem?_eq_some_iff.1 h
  rw [List.take_succ_eq_append_getElem hi, flatK, List.flatMap_append]
  simp [flatK]
theorem flatK_le {k : Int} {l : List Rx} {i : Nat} : (flatK k (l.take i)).length ≤ (flatK k l).length := by
  have h : flatK k l = flatK k (l.take i) ++ flatK k (l.drop i) := by rw [flatK, flatK, flatK, ← List.flatMap_append, List.take_append_drop]
  rw [h, List.length_append]; omega
theorem rV_kids {k : Int} {l : List Rx} : AVal.agg [.int .i64 k, .int .u64 0, .int .u64 0, .int .u64 0, .int .u64 0, .int .i64 0, .int .i64 0, .sl .no l.length (fl cR l)] = rV (.mk k 0 0 0 l) := by rw [rV, cR, cRs_fl]; rfl
end Go.Hk
namespace Go.Hk
section
variable {G l : List ABlk} {b k t : Nat} {x y : ABlk}
theorem m_at (h : b < G.length) : (G ++ l)[b]? = G[b]? := List.getElem?_append_left h
theorem m_atS (h : b < G.length) {c : Nat} : (G.set c x ++ l)[b]? = (G.set c x)[b]? := List.getElem?_append_left (by simpa using h)
theorem m_set (h : b < G.length) : (G ++ l).set b y = G.set b y ++ l := List.set_append_left _ _ h
theorem m_setS (h : b < G.length) {c : Nat} : (G.set c x ++ l).set b y = (G.set c x).set b y ++ l := List.set_append_left _ _ (by simpa using h)
theorem m_own0 : (G ++ l)[G.length]? = l[0]? := by rw [List.getElem?_append_right (Nat.le_refl _), Nat.sub_self]
theorem m_own : (G ++ l)[G.length + k]? = l[k]? := by rw [List.getElem?_append_right (Nat.le_add_right _ _), Nat.add_sub_cancel_left]
theorem m_own0S {c : Nat} : (G.set c x ++ l)[G.length]? = l[0]? := by
  have := m_own0 (G := G.set c x) (l := l); rwa [List.length_set] at this
theorem m_ownS {c : Nat} : (G.set c x ++ l)[G.length + k]? = l[k]? := by
  have := m_own (G := G.set c x) (l := l) (k := k); rwa [List.length_set] at this
theorem m_put0 : (G ++ l).set G.length y = G ++ l.set 0 y := by rw [List.set_append_right _ _ (Nat.le_refl _), Nat.sub_self]
theorem m_put : (G ++ l).set (G.length + k) y = G ++ l.set k y := by rw [List.set_append_right _ _ (Nat.le_add_right _ _), Nat.add_sub_cancel_left]
theorem m_put0S {c : Nat} : (G.set c x ++ l).set G.length y = G.set c x ++ l.set 0 y := by
  have := m_put0 (G := G.set c x) (l := l) (y := y); rwa [List.length_set] at this
theorem m_putS {c : Nat} : (G.set c x ++ l).set (G.length + k) y = G.set c x ++ l.set k y := by
  have := m_put (G := G.set c x) (l := l) (k := k) (y := y); rwa [List.length_set] at this
theorem m_more {l' : List ABlk} : G ++ l ++ l' = G ++ (l ++ l') := List.append_assoc _ _ _
end
mutual
theorem clo_mono {h h' t t' : Nat} (hh : h ≤ h') (ht : t ≤ t') : ∀ v, clo h t v = true → clo h' t' v = true
  | .dead, _ => rfl
  | .undef, _ => rfl
  | .bool _, _ => rfl
  | .int _ _, _ => rfl
  | .str _, _ => rfl
  | .nilp, _ => rfl
  | .nilm, _ => rfl
  | .nilf, _ => rfl
  | .nili, _ => rfl
  | .ptr b _ _, k => by simp only [clo, decide_eq_true_eq] at k ⊢; omega
  | .msl b _ _ _ _, k => by simp only [clo, decide_eq_true_eq] at k ⊢; omega
  | .map b, k => by simp only [clo, decide_eq_true_eq] at k ⊢; omega
  | .tpt _ b _, k => by simp only [clo, decide_eq_true_eq] at k ⊢; omega
  | .yld b, k => by simp only [clo, decide_eq_true_eq] at k ⊢; omega
  | .sl r _ cs, k => by
    simp only [clo, Bool.and_eq_true] at k ⊢
    refine ⟨?_, cloL_mono hh ht cs k.2⟩
    cases r <;> simp only [cloR, decide_eq_true_eq] at k ⊢
    omega
  | .ipt cs _, k => by simp only [clo] at k ⊢; exact cloL_mono hh ht cs k
  | .dpt _ cs, k => by simp only [clo] at k ⊢; exact cloL_mono hh ht cs k
  | .agg cs, k => by simp only [clo] at k ⊢; exact cloL_mono hh ht cs k
  | .fn _ a c, k => by
    simp only [clo, Bool.and_eq_true] at k ⊢
    exact ⟨cloL_mono hh ht a k.1, cloL_mono hh ht c k.2⟩
  | .ifc _ v, k => by simp only [clo] at k ⊢; exact clo_mono hh ht v k
  | .tup a vs, k => by
    simp only [clo, Bool.and_eq_true] at k ⊢
    exact ⟨clo_mono hh ht a k.1, cloL_mono hh ht vs k.2⟩
theorem cloL_mono {h h' t t' : Nat} (hh : h ≤ h') (ht : t ≤ t') : ∀ cs, cloL h t cs = true → cloL h' t' cs = true
  | [], _ => rfl
  | v :: vs, k => by
    simp only [cloL, Bool.and_eq_true] at k ⊢
    exact ⟨clo_mono hh ht v k.1, cloL_mono hh ht vs k.2⟩
end
theorem cloB_mono {h h' t t' : Nat} (hh : h ≤ h') (ht : t ≤ t') {x : ABlk} (k : cloB h t x = true) : cloB h' t' x = true := by
  cases x with
  | cells e cs => exact cloL_mono hh ht cs k
  | amap es =>
    simp only [cloB, List.all_eq_true, Bool.and_eq_true] at k ⊢
    exact fun p hp => ⟨clo_mono hh ht _ (k p hp).1, clo_mono hh ht _ (k p hp).2⟩
  | iter mb l c =>
    simp only [cloB, List.all_eq_true, Bool.and_eq_true, decide_eq_true_eq, Option.all_eq_true] at k ⊢
    exact ⟨⟨by omega, fun p hp => ⟨clo_mono hh ht _ (k.1.2 p hp).1, clo_mono hh ht _ (k.1.2 p hp).2⟩⟩, fun p hp => ⟨clo_mono hh ht _ (k.2 p hp).1, clo_mono hh ht _ (k.2 p hp).2⟩⟩
  | loop st pend ps asg body env n =>
    simp only [cloB, List.all_eq_true] at k ⊢
    exact fun p hp => clo_mono hh ht _ (k p hp)
def shut (m : AMem) : Bool := m.H.all (cloB m.H.length m.T.length)
theorem shut_app {G l : List ABlk} {T X : List (Nat × (Nat × Nat))} (hG : shut ⟨G, T⟩ = true) (hl : ∀ h, G.length + l.length ≤ h → l.all (cloB h (T ++ X).length) = true) : shut ⟨G ++ l, T ++ X⟩ = true := by
  simp only [shut, List.all_append, Bool.and_eq_true] at hG ⊢
  refine ⟨?_, hl _ (by simp)⟩
  rw [List.all_eq_true] at hG ⊢
  exact fun x hx => cloB_mono (by simp) (by simp) (hG x hx)
theorem shut_set {G : List ABlk} {T : List (Nat × (Nat × Nat))} {b : Nat} {x : ABlk} (hG : shut ⟨G, T⟩ = true) (hx : cloB G.length T.length x = true) : shut ⟨G.set b x, T⟩ = true := by
  simp only [shut, List.length_set] at hG ⊢
  rw [List.all_eq_true] at hG ⊢
  intro y hy
  rcases List.mem_or_eq_of_mem_set hy with h | rfl
  · exact hG y h
  · exact hx
theorem shut_two {G l : List ABlk} {T : List (Nat × (Nat × Nat))} {b : Nat} {x : ABlk} (hG : shut ⟨G, T⟩ = true) (hx : cloB G.length T.length x = true) (hl : ∀ h, G.length + l.length ≤ h → l.all (cloB h T.length) = true) : shut ⟨G.set b x ++ l, T⟩ = true := by
  have := shut_app (X := []) (shut_set (b := b) hG hx) (l := l) (by simpa using hl)
  simpa using this
theorem shut_one {G l : List ABlk} {T : List (Nat × (Nat × Nat))} (hG : shut ⟨G, T⟩ = true) (hl : ∀ h, G.length + l.length ≤ h → l.all (cloB h T.length) = true) : shut ⟨G ++ l, T⟩ = true := by
  have := shut_app (X := []) hG (l := l) (by simpa using hl)
  simpa using this
theorem leftM_one {G l : List ABlk} {T : List (Nat × (Nat × Nat))} (hG : shut ⟨G, T⟩ = true) : LeftM ⟨G, T⟩ ⟨G ++ l, T⟩ := .inr ⟨⟨l, [], by simp⟩, hG⟩
theorem nxR_ne {T : List (Nat × (Nat × Nat))} {r : Rt} : nxR T r ≠ .full := by cases r <;> simp [nxR]
attribute [go_sem] m_own0 m_own m_own0S m_ownS m_put0 m_put m_put0S m_putS m_more List.length_append List.length_set
end Go.Hk
