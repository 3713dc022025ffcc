/- Layer 1, the plain law: sets, their lists and runs. -/
import Derived.Test.YtbnhflckmfmkoaaDoorHkX
set_option linter.unusedSimpArgs false
set_option linter.unusedVariables false
namespace Go.Hk
theorem dn {n i : Nat} (h : i < n) : n - (i + 1) < n - i := by omega
def has (A : Nat) (n : Int) : Bool := decide (0 ≤ n) && decide (n < 256) && A.testBit n.toNat
theorem has_nat {A b : Nat} (h : b < 256) : has A ((b : Nat) : Int) = A.testBit b := by
  have : (b : Int) < 256 := by omega
  simp [has, this]
theorem has_neg {A : Nat} {n : Int} (h : n < 0) : has A n = false := by
  have : ¬ 0 ≤ n := by omega
  simp [has, this]
theorem has_big {A : Nat} {n : Int} (h : 256 ≤ n) : has A n = false := by
  have : ¬ n < 256 := by omega
  simp [has, this]

theorem has_call {P : Program} (f : FuncId) (hn : ∀ n : Int, n < 0 → ∀ A, PCall P f [setV A, .int .i64 n] (.bool false)) (hb : ∀ n : Int, 256 ≤ n → ∀ A, PCall P f [setV A, .int .i64 n] (.bool false))
    (hi : ∀ A b : Nat, b < 256 → PCall P f [setV A, .int .i64 b] (.bool (A.testBit b))) (A : Nat) (n : Int) : PCall P f [setV A, .int .i64 n] (.bool (has A n)) := by
  rcases Int.lt_or_le n 0 with h | h
  · rw [has_neg h]; exact hn n h A
  · rcases Int.lt_or_le n 256 with k | k
    · obtain ⟨b, rfl⟩ := Int.eq_ofNat_of_zero_le h
      have hb : b < 256 := by omega
      rw [has_nat hb]; exact hi A b hb
    · rw [has_big k]; exact hb n k A

def inOf (lo hi : Int) (i : Nat) : Bool := decide (lo ≤ (i : Int)) && decide ((i : Int) ≤ hi)
def ofN (lo hi : Int) : Nat := mk (inOf lo hi) 256
theorem ofN_lt (lo hi : Int) : ofN lo hi < 2 ^ 256 := mk_lt _ _
theorem of_part {lo hi : Int} {b : Nat} (h : (hi < b ∨ 256 ≤ b)) : mk (inOf lo hi) b = ofN lo hi ∨ (256 < b ∧ (lo : Int) < b) := by
  by_cases hb : b ≤ 256
  · left
    refine set_ext (mk_lt256 _ _ hb) (ofN_lt lo hi) fun i hi' => ?_
    rw [ofN, mk_bit, mk_bit]
    by_cases hib : i < b
    · simp [hib, hi']
    · have : inOf lo hi i = false := by simp only [inOf, Bool.and_eq_false_iff, decide_eq_false_iff_not]; omega
      simp [this]
  · by_cases hl : lo < b
    · right; omega
    · left
      rw [ofN, mk_none, mk_none]
      · intro i hi'; simp only [inOf, Bool.and_eq_false_iff, decide_eq_false_iff_not]; omega
      · intro i hi'; simp only [inOf, Bool.and_eq_false_iff, decide_eq_false_iff_not]; omega
def setLast : List (Int × Int) → Int → List (Int × Int)
  | [], _ => []
  | [p], b => [(p.1, b)]
  | p :: q :: l, b => p :: setLast (q :: l) b
theorem setLast_add (l : List (Int × Int)) (p : Int × Int) (b : Int) : setLast (l ++ [p]) b = l ++ [(p.1, b)] := by
  induction l with
  | nil => rfl
  | cons q l ih =>
    cases l with
    | nil => rfl
    | cons r l => simp only [List.cons_append, setLast] at ih ⊢; rw [ih]
def runsN (A : Nat) : Nat → List (Int × Int)
  | 0 => []
  | n + 1 => if A.testBit n then (if 0 < n ∧ A.testBit (n - 1) = true then setLast (runsN A n) n else runsN A n ++ [((n : Int), (n : Int))]) else runsN A n
/-- What is known of the runs of what is below n. -/
theorem runsN_last (A : Nat) : ∀ n, (0 < n ∧ A.testBit (n - 1) = true → ∃ l p, runsN A n = l ++ [(p, (n : Int) - 1)]) ∧ (∀ l p q, runsN A n = l ++ [(p, q)] → q ≤ (n : Int) - 1 ∧ (q = (n : Int) - 1 → 0 < n ∧ A.testBit (n - 1) = true))
  | 0 => ⟨fun h => by omega, fun l p q h => by simp [runsN] at h⟩
  | n + 1 => by
    obtain ⟨h1, h2⟩ := runsN_last A n
    have e1 : ((n + 1 : Nat) : Int) - 1 = n := by omega
    have e2 : n + 1 - 1 = n := by omega
    rw [e1, e2]
    cases hb : A.testBit n with
    | false =>
      have hr : runsN A (n + 1) = runsN A n := by simp [runsN, hb]
      refine ⟨fun h => by simp at h, fun l p q h => ?_⟩
      rw [hr] at h
      have := h2 l p q h
      exact ⟨by omega, fun he => by omega⟩
    | true =>
      by_cases hp : 0 < n ∧ A.testBit (n - 1) = true
      · obtain ⟨l, p, hl⟩ := h1 hp
        have hr : runsN A (n + 1) = l ++ [(p, (n : Int))] := by
          have : runsN A (n + 1) = setLast (runsN A n) n := by simp [runsN, hb, hp]
          rw [this, hl, setLast_add]
        refine ⟨fun _ => ⟨l, p, hr⟩, fun l' p' q h => ?_⟩
        rw [hr] at h
        have := (List.append_inj' h rfl).2
        simp only [List.cons.injEq, Prod.mk.injEq, and_true] at this
        exact ⟨by omega, fun _ => ⟨by omega, rfl⟩⟩
      · have hr : runsN A (n + 1) = runsN A n ++ [((n : Int), (n : Int))] := by
          simp only [runsN, hb, if_true, if_neg hp]
        refine ⟨fun _ => ⟨_, _, hr⟩, fun l' p' q h => ?_⟩
        rw [hr] at h
        have := (List.append_inj' h rfl).2
        simp only [List.cons.injEq, Prod.mk.injEq, and_true] at this
        exact ⟨by omega, fun _ => ⟨by omega, rfl⟩⟩
theorem runsN_len (A n : Nat) : (runsN A n).length ≤ n := by
  induction n with
  | zero => simp [runsN]
  | succ n ih =>
    have hs : ∀ (l : List (Int × Int)) b, (setLast l b).length = l.length := by
      intro l b
      rcases List.eq_nil_or_concat l with rfl | ⟨l, p, rfl⟩
      · rfl
      · rw [List.concat_eq_append, setLast_add]; simp
    simp only [runsN]
    split
    · split
      · rw [hs]; omega
      · simp; omega
    · omega
/-- One more byte. -/
def step (acc : List (Int × Int)) (b : Int) : List (Int × Int) :=
  match acc.getLast? with
  | some p => if p.2 = b - 1 then setLast acc b else acc ++ [(b, b)]
  | none => [(b, b)]
theorem step_nil (b : Int) : step [] b = [(b, b)] := rfl
theorem step_add (l : List (Int × Int)) (p : Int × Int) (b : Int) : step (l ++ [p]) b = if p.2 = b - 1 then l ++ [(p.1, b)] else l ++ [p] ++ [(b, b)] := by
  simp [step, setLast_add]
theorem fold_runs (A : Nat) : ∀ n, (lst A n).foldl step [] = runsN A n
  | 0 => rfl
  | n + 1 => by
    have ih := fold_runs A n
    obtain ⟨h1, h2⟩ := runsN_last A n
    cases hb : A.testBit n with
    | false => simp [lst, runsN, hb, ih]
    | true =>
      have e : (lst A (n + 1)).foldl step [] = step (runsN A n) n := by simp [lst, hb, ih]
      rw [e]
      rcases List.eq_nil_or_concat (runsN A n) with hn | ⟨l, p, hn⟩
      · have hp : ¬ (0 < n ∧ A.testBit (n - 1) = true) := fun hp => by
          obtain ⟨l, p, hl⟩ := h1 hp
          rw [hn] at hl
          simp at hl
        have : runsN A (n + 1) = runsN A n ++ [((n : Int), (n : Int))] := by simp only [runsN, hb, if_true, if_neg hp]
        rw [this, hn, step_nil]
        rfl
      · rw [List.concat_eq_append] at hn
        have h3 := h2 l p.1 p.2 hn
        rw [hn, step_add]
        by_cases hp : 0 < n ∧ A.testBit (n - 1) = true
        · obtain ⟨l', p', hl⟩ := h1 hp
          rw [hn] at hl
          have hpp := (List.append_inj' hl rfl).2
          simp only [List.cons.injEq, and_true] at hpp
          have : runsN A (n + 1) = setLast (runsN A n) n := by simp [runsN, hb, hp]
          rw [this, hn, setLast_add, hpp, if_pos rfl]
        · have : runsN A (n + 1) = runsN A n ++ [((n : Int), (n : Int))] := by simp only [runsN, hb, if_true, if_neg hp]
          rw [this, hn, if_neg fun he => hp (h3.2 he)]

theorem setV_inj {A B : Nat} (ha : A < 2 ^ 256) (hb : B < 2 ^ 256) (h : setV A = setV B) : A = B := setL_inj' ha hb (AVal.agg.inj h)
/-! pairs of numbers as cells -/
def cP (p : Int × Int) : List AVal := [.int .i64 p.1, .int .i64 p.2]
theorem cP_len (p : Int × Int) : (cP p).length = 2 := rfl
theorem cP_strip (p : Int × Int) : stripL (cP p) = some (cP p) := rfl
theorem cP_inj {p q : Int × Int} (h : cP p = cP q) : p = q := by
  simp only [cP, List.cons.injEq, AVal.int.injEq, true_and, and_true] at h
  exact Prod.ext h.1 h.2
theorem runs_lt {A : Nat} {n : Nat} {p : Int × Int} (h : p ∈ runsN A n) : 0 ≤ p.1 ∧ p.1 ≤ p.2 ∧ p.2 < n := by
  have key : ∀ n, ∀ p ∈ runsN A n, 0 ≤ p.1 ∧ p.1 ≤ p.2 ∧ p.2 < n := by
    intro n
    induction n with
    | zero => intro p h; simp [runsN] at h
    | succ n ih =>
      intro p h
      cases hb : A.testBit n with
      | false =>
        have hr : runsN A (n + 1) = runsN A n := by simp [runsN, hb]
        rw [hr] at h
        have := ih p h
        omega
      | true =>
        by_cases hp : 0 < n ∧ A.testBit (n - 1) = true
        · obtain ⟨l, q, hl⟩ := (runsN_last A n).1 hp
          have hr : runsN A (n + 1) = l ++ [(q, (n : Int))] := by
            have : runsN A (n + 1) = setLast (runsN A n) n := by simp [runsN, hb, hp]
            rw [this, hl, setLast_add]
          rw [hr] at h
          rcases List.mem_append.1 h with h | h
          · have := ih p (by rw [hl]; exact List.mem_append_left _ h); omega
          · have h := List.mem_singleton.1 h
            subst h
            have := ih (q, (n : Int) - 1) (by rw [hl]; simp)
            simp only at this ⊢
            omega
        · have hr : runsN A (n + 1) = runsN A n ++ [((n : Int), (n : Int))] := by
            simp only [runsN, hb, if_true, if_neg hp]
          rw [hr] at h
          rcases List.mem_append.1 h with h | h
          · have := ih p h; omega
          · have h := List.mem_singleton.1 h
            subst h
            simp only; omega
  exact key n p h
abbrev pairL (l : List (Int × Int)) : List AVal := fl cP l
theorem pairL_len (l : List (Int × Int)) : (pairL l).length = 2 * l.length := by rw [fl_len cP_len]; omega
theorem pairL_strip (l : List (Int × Int)) : stripL (pairL l) = some (pairL l) := fl_strip cP_strip l
theorem pairL_app (l k : List (Int × Int)) : pairL (l ++ k) = pairL l ++ pairL k := fl_append
theorem pair_last (l : List (Int × Int)) (p : Int × Int) : (pairL (l ++ [p]))[l.length * 2 + 1]? = some (.int .i64 p.2) := by
  rw [pairL_app, List.getElem?_append_right (by rw [pairL_len]; omega)]
  rw [pairL_len, show l.length * 2 + 1 - 2 * l.length = 1 by omega]
  rfl
theorem pair_set (l : List (Int × Int)) (p : Int × Int) (b : Int) : (pairL (l ++ [p])).set (l.length * 2 + 1) (.int .i64 b) = pairL (l ++ [(p.1, b)]) := by
  rw [pairL_app, pairL_app, List.set_append_right _ _ (by rw [pairL_len]; omega), pairL_len, show l.length * 2 + 1 - 2 * l.length = 1 by omega]
  rfl
theorem step_len (acc : List (Int × Int)) (x : Int) : (step acc x).length ≤ acc.length + 1 := by
  rcases List.eq_nil_or_concat acc with rfl | ⟨l, p, rfl⟩
  · simp [step_nil]
  · rw [List.concat_eq_append, step_add]; split <;> simp
theorem steps_len : ∀ (m : List Int) (acc : List (Int × Int)), (m.foldl step acc).length ≤ acc.length + m.length
  | [], acc => by simp
  | x :: m, acc => by
    have h1 := steps_len m (step acc x)
    have h2 := step_len acc x
    simp only [List.foldl_cons, List.length_cons]
    omega
structure Rs where
  i : Nat
  e : Nat
def mem0 (A : Nat) (e : Nat) (rs : List (Int × Int)) : AMem := if rs = [] then ⟨[.cells 0 (setL A)], []⟩ else ⟨[.cells 0 (setL A), .cells e (pairL rs)], []⟩
def val0 (e : Nat) (rs : List (Int × Int)) : AVal := if rs = [] then .sl .nil 0 [] else .msl 1 e 0 rs.length (2 * rs.length)
theorem mem0_nil (A e : Nat) : mem0 A e [] = ⟨[.cells 0 (setL A)], []⟩ := rfl
theorem mem0_add (A e : Nat) (l : List (Int × Int)) (p : Int × Int) : mem0 A e (l ++ [p]) = ⟨[.cells 0 (setL A), .cells e (pairL (l ++ [p]))], []⟩ := by simp [mem0]
theorem val0_nil (e : Nat) : val0 e [] = .sl .nil 0 [] := rfl
theorem val0_add (e : Nat) (l : List (Int × Int)) (p : Int × Int) : val0 e (l ++ [p]) = .msl 1 e 0 (l.length + 1) (2 * (l.length + 1)) := by simp [val0]
/-! sets held against each other -/
theorem set_aeq {P : Program} {t e : TypeId} {I E : TI} (hI : tiOf P t = some I) (hk : I.k = .arr 4 e) (hE : tiOf P e = some E) (hs : E.size = 1) (hEk : E.k = .int .u64) {A B : Nat} (h : A < 2 ^ 256) (k : B < 2 ^ 256) :
    aeq P 20 t (setV A) (setV B) = some (decide (A = B)) := by
  have hr : List.range 4 = [0, 1, 2, 3] := rfl
  have h1 : ∀ x y : Int, aeq P 19 e (.int .u64 x) (.int .u64 y) = some (x == y) := fun x y => by unfold aeq; simp only [hE, hEk, if_true]
  have h2 : ∀ (A k : Nat), k < 4 → apart P e (setL A) k = some (.int .u64 (wd A k)) := fun A k hk => by simp [apart, hE, hEk, TK.agg, setL_get hk]
  unfold setV aeq
  simp only [hI, hk, hE, hs, hr, List.map_cons, List.map_nil, Nat.mul_one, h2 _ 0 (by omega), h2 _ 1 (by omega), h2 _ 2 (by omega), h2 _ 3 (by omega), h1, andL]
  by_cases hAB : A = B
  · subst hAB; simp
  · have : ¬ (wd A 0 = wd B 0 ∧ wd A 1 = wd B 1 ∧ wd A 2 = wd B 2 ∧ wd A 3 = wd B 3) := fun hw => hAB (setL_inj h k fun i hi => by
      match i, hi with
      | 0, _ => exact hw.1
      | 1, _ => exact hw.2.1
      | 2, _ => exact hw.2.2.1
      | 3, _ => exact hw.2.2.2)
    simp [hAB]
    intro a b c d
    exact this ⟨by omega, by omega, by omega, by omega⟩
theorem set_eql {P : Program} {t e : TypeId} {I E : TI} (hg : P.eqGuardType P.depth t = false) (hI : tiOf P t = some I) (hk : I.k = .arr 4 e) (hE : tiOf P e = some E) (hs : E.size = 1) (hEk : E.k = .int .u64) {A B : Nat} (h : A < 2 ^ 256) (k : B < 2 ^ 256) :
    abin P .eql t (setV A) (setV B) = some (.bool (decide (A = B))) := by
  have := set_aeq hI hk hE hs hEk h k
  unfold setV at this ⊢
  rw [e_bin_agg, hg, this]; rfl
theorem set_neq {P : Program} {t e : TypeId} {I E : TI} (hg : P.eqGuardType P.depth t = false) (hI : tiOf P t = some I) (hk : I.k = .arr 4 e) (hE : tiOf P e = some E) (hs : E.size = 1) (hEk : E.k = .int .u64) {A B : Nat} (h : A < 2 ^ 256) (k : B < 2 ^ 256) :
    abin P .neq t (setV A) (setV B) = some (.bool (!decide (A = B))) := by
  have := set_aeq hI hk hE hs hEk h k
  unfold setV at this ⊢
  rw [e_bin_agg, hg, this]; rfl
end Go.Hk
