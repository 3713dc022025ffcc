/- Layer 1: runs. -/
import Derived.Test.YtpncchabnolnkaaHkA3
set_option linter.unusedSimpArgs false
set_option linter.unusedVariables false
namespace Go.Hk.A
open Go.Proofs

/-! the plain law -/
def setLast : List (Int × Int) → Int → List (Int × Int)
  | [], _ => []
  | [p], b => [(p.1, b)]
  | p :: q :: l, b => p :: setLast (q :: l) b
theorem setLast_add (l : List (Int × Int)) (p : Int × Int) (b : Int) : setLast (l ++ [p]) b = l ++ [(p.1, b)] := by
  induction l with
  | nil => rfl
  | cons q l ih =>
    cases l with
    | nil => rfl
    | cons r l => simp only [List.cons_append, setLast] at ih ⊢; rw [ih]
def runsN (A : Nat) : Nat → List (Int × Int)
  | 0 => []
  | n + 1 => if A.testBit n then (if 0 < n ∧ A.testBit (n - 1) = true then setLast (runsN A n) n else runsN A n ++ [((n : Int), (n : Int))]) else runsN A n
/-- What is known of the runs of what is below n. -/
theorem runsN_last (A : Nat) : ∀ n, (0 < n ∧ A.testBit (n - 1) = true → ∃ l p, runsN A n = l ++ [(p, (n : Int) - 1)]) ∧ (∀ l p q, runsN A n = l ++ [(p, q)] → q ≤ (n : Int) - 1 ∧ (q = (n : Int) - 1 → 0 < n ∧ A.testBit (n - 1) = true))
  | 0 => ⟨fun h => by omega, fun l p q h => by simp [runsN] at h⟩
  | n + 1 => by
    obtain ⟨h1, h2⟩ := runsN_last A n
    have e1 : ((n + 1 : Nat) : Int) - 1 = n := by omega
    have e2 : n + 1 - 1 = n := by omega
    rw [e1, e2]
    cases hb : A.testBit n with
    | false =>
      have hr : runsN A (n + 1) = runsN A n := by simp [runsN, hb]
      refine ⟨fun h => by simp at h, fun l p q h => ?_⟩
      rw [hr] at h
      have := h2 l p q h
      exact ⟨by omega, fun he => by omega⟩
    | true =>
      by_cases hp : 0 < n ∧ A.testBit (n - 1) = true
      · obtain ⟨l, p, hl⟩ := h1 hp
        have hr : runsN A (n + 1) = l ++ [(p, (n : Int))] := by
          have : runsN A (n + 1) = setLast (runsN A n) n := by simp [runsN, hb, hp]
          rw [this, hl, setLast_add]
        refine ⟨fun _ => ⟨l, p, hr⟩, fun l' p' q h => ?_⟩
        rw [hr] at h
        have := (List.append_inj' h rfl).2
        simp only [List.cons.injEq, Prod.mk.injEq, and_true] at this
        exact ⟨by omega, fun _ => ⟨by omega, rfl⟩⟩
      · have hr : runsN A (n + 1) = runsN A n ++ [((n : Int), (n : Int))] := by
          simp only [runsN, hb, if_true, if_neg hp]
        refine ⟨fun _ => ⟨_, _, hr⟩, fun l' p' q h => ?_⟩
        rw [hr] at h
        have := (List.append_inj' h rfl).2
        simp only [List.cons.injEq, Prod.mk.injEq, and_true] at this
        exact ⟨by omega, fun _ => ⟨by omega, rfl⟩⟩
theorem runsN_len (A n : Nat) : (runsN A n).length ≤ n := by
  induction n with
  | zero => simp [runsN]
  | succ n ih =>
    have hs : ∀ (l : List (Int × Int)) b, (setLast l b).length = l.length := by
      intro l b
      rcases List.eq_nil_or_concat l with rfl | ⟨l, p, rfl⟩
      · rfl
      · rw [List.concat_eq_append, setLast_add]; simp
    simp only [runsN]
    split
    · split
      · rw [hs]; omega
      · simp; omega
    · omega
/-- One more byte. -/
def step (acc : List (Int × Int)) (b : Int) : List (Int × Int) :=
  match acc.getLast? with
  | some p => if p.2 = b - 1 then setLast acc b else acc ++ [(b, b)]
  | none => [(b, b)]
theorem step_nil (b : Int) : step [] b = [(b, b)] := rfl
theorem step_add (l : List (Int × Int)) (p : Int × Int) (b : Int) : step (l ++ [p]) b = if p.2 = b - 1 then l ++ [(p.1, b)] else l ++ [p] ++ [(b, b)] := by
  simp [step, setLast_add]
theorem fold_runs (A : Nat) : ∀ n, (lst A n).foldl step [] = runsN A n
  | 0 => rfl
  | n + 1 => by
    have ih := fold_runs A n
    obtain ⟨h1, h2⟩ := runsN_last A n
    cases hb : A.testBit n with
    | false => simp [lst, runsN, hb, ih]
    | true =>
      have e : (lst A (n + 1)).foldl step [] = step (runsN A n) n := by simp [lst, hb, ih]
      rw [e]
      rcases List.eq_nil_or_concat (runsN A n) with hn | ⟨l, p, hn⟩
      · have hp : ¬ (0 < n ∧ A.testBit (n - 1) = true) := fun hp => by
          obtain ⟨l, p, hl⟩ := h1 hp
          rw [hn] at hl
          simp at hl
        have : runsN A (n + 1) = runsN A n ++ [((n : Int), (n : Int))] := by simp only [runsN, hb, if_true, if_neg hp]
        rw [this, hn, step_nil]
        rfl
      · rw [List.concat_eq_append] at hn
        have h3 := h2 l p.1 p.2 hn
        rw [hn, step_add]
        by_cases hp : 0 < n ∧ A.testBit (n - 1) = true
        · obtain ⟨l', p', hl⟩ := h1 hp
          rw [hn] at hl
          have hpp := (List.append_inj' hl rfl).2
          simp only [List.cons.injEq, and_true] at hpp
          have : runsN A (n + 1) = setLast (runsN A n) n := by simp [runsN, hb, hp]
          rw [this, hn, setLast_add, hpp, if_pos rfl]
        · have : runsN A (n + 1) = runsN A n ++ [((n : Int), (n : Int))] := by simp only [runsN, hb, if_true, if_neg hp]
          rw [this, hn, if_neg fun he => hp (h3.2 he)]

/-! the walk -/
theorem pairL_app : ∀ (l k : List (Int × Int)), pairL (l ++ k) = pairL l ++ pairL k
  | [], _ => rfl
  | p :: l, k => by simp [pairL, pairL_app l k]
theorem pair_last (l : List (Int × Int)) (p : Int × Int) : (pairL (l ++ [p]))[l.length * 2 + 1]? = some (.int .i64 p.2) := by
  rw [pairL_app, List.getElem?_append_right (by rw [pairL_len]; omega)]
  rw [pairL_len, show l.length * 2 + 1 - 2 * l.length = 1 by omega]
  rfl
theorem pair_set (l : List (Int × Int)) (p : Int × Int) (b : Int) : (pairL (l ++ [p])).set (l.length * 2 + 1) (.int .i64 b) = pairL (l ++ [(p.1, b)]) := by
  rw [pairL_app, pairL_app, List.set_append_right _ _ (by rw [pairL_len]; omega), pairL_len, show l.length * 2 + 1 - 2 * l.length = 1 by omega]
  rfl
theorem appT35 : appT Try.prog 35 35 = some ⟨39, 2, 16⟩ := by kernel_rfl
theorem app35_first {h0 : ABlk} {T : List (Nat × Nat)} {r : Rt} {x y : AVal} : amapp Try.prog 35 35 ⟨[h0], T⟩ (.sl .full 0 []) (.sl r 1 [x, y]) = some (.msl 1 2 0 1 2, ⟨[h0, .cells 2 [x, y]], T⟩) := by
  simp [amapp, appT35, alist]
theorem app35_next {h0 : ABlk} {T : List (Nat × Nat)} {r : Rt} {x y : AVal} {e n l : Nat} {cs : List AVal} (he : e % 16 = 2) (hl : l = cs.length) (hc : cs.length = 2 * n) (hn : n < 1000000000) :
    amapp Try.prog 35 35 ⟨[h0, .cells e cs], T⟩ (.msl 1 e 0 n l) (.sl r 1 [x, y]) = some (.msl 1 (e + 16) 0 (n + 1) (l + 2), ⟨[h0, .cells (e + 16) (cs ++ [x, y])], T⟩) := by
  subst hl
  have h1 : (n + 1) * 16 ≤ 140737488355328 := by omega
  simp [amapp, appT35, alist, he, hc, h1]
  omega
theorem build35 (mu : Bool) (m : AMem) (a b : Int) : abuildSlice Try.prog mu m 35 1 [(0, .agg [.int .i64 a, .int .i64 b])] = some (.sl .full 1 [.int .i64 a, .int .i64 b], m) := by
  simp [abuildSlice, ti35, ti39, zeroRow, afill, cellsOf, setMany, List.range, List.range.loop]
theorem build39 (a b : Int) : abuild Try.prog 39 [(0, .int .i64 a), (1, .int .i64 b)] = some (.agg [.int .i64 a, .int .i64 b]) := by
  simp [abuild, ti39, ti3, afill, cellsOf, setMany]
theorem view_pairs {h0 : ABlk} {T : List (Nat × Nat)} {e n l : Nat} {rs : List (Int × Int)} (hl : l = (pairL rs).length) (hn : n = rs.length) : viewO none ⟨[h0, .cells e (pairL rs)], T⟩ (.msl 1 e 0 n l) = some (pairV rs) := by
  subst hn
  exact view_msl (b := 1) (cs := pairL rs) rfl hl (pairL_strip rs)
structure Rs where
  i : Nat
  e : Nat
def mem0 (A : Nat) (e : Nat) (rs : List (Int × Int)) : AMem := if rs = [] then ⟨[.cells 0 (setL A)], []⟩ else ⟨[.cells 0 (setL A), .cells e (pairL rs)], []⟩
def val0 (e : Nat) (rs : List (Int × Int)) : AVal := if rs = [] then .sl .full 0 [] else .msl 1 e 0 rs.length (2 * rs.length)
theorem mem0_nil (A e : Nat) : mem0 A e [] = ⟨[.cells 0 (setL A)], []⟩ := rfl
theorem mem0_add (A e : Nat) (l : List (Int × Int)) (p : Int × Int) : mem0 A e (l ++ [p]) = ⟨[.cells 0 (setL A), .cells e (pairL (l ++ [p]))], []⟩ := by simp [mem0]
theorem val0_nil (e : Nat) : val0 e [] = .sl .full 0 [] := rfl
theorem val0_add (e : Nat) (l : List (Int × Int)) (p : Int × Int) : val0 e (l ++ [p]) = .msl 1 e 0 (l.length + 1) (2 * (l.length + 1)) := by simp [val0]
theorem w31 (A : Nat) (hA : A < 2 ^ 256) : PCall Try.prog 31 [setV A] (pairV (runsN A 256)) := by
  refine PCall.of_w (fn := Try.f31) (Γ := gam [(15, .pure iHas)]) (mu := true) (Sound.pure (con2_call fun A n _ _ => w15 A n) Sound.nil) mixed Try.func31 rfl (by kernel_rfl) (by simp) (by kernel_rfl) ?_
  simp (disch := omega) only [go_sem, Nat.reduceAdd, Int.reduceEq, Int.reduceLT, Int.reduceLE, Int.reduceNe, Int.reduceAdd, Int.reduceSub, Int.reduceMul, Int.reduceToNat, Nat.reduceMul, Nat.reduceLT, Nat.reduceLeDiff, Nat.reduceEqDiff, ↓reduceIte, reduceCtorEq, Nat.reduceSub, Nat.reduceDiv, Try.f31, ti22, ti24]
  refine w_loop0 (fun x : Rs => 256 - x.i) (fun x => x.i ≤ 256 ∧ x.e % 16 = 2) (fun x => mem0 A x.e (runsN A x.i))
    (fun x => [(1, .ptr 0 0 0), (3, val0 x.e (runsN A x.i)), (4, .int .i64 (x.i : Nat))]) ⟨0, 2⟩ (by simp) rfl (by simp [HasE, lk, runsN, val0]) ?_
  rintro ⟨i, e⟩ ⟨hi, he⟩ E ⟨l1, l3, l4, -⟩
  simp only at hi he l1 l3 l4
  have hl := runsN_len A i
  obtain ⟨h1, h2⟩ := runsN_last A i
  by_cases h : i < 256
  · cases hb : A.testBit i
    · have hr : runsN A (i + 1) = runsN A i := by simp [runsN, hb]
      rcases List.eq_nil_or_concat (runsN A i) with hn | ⟨l, p, hn⟩
      · simp (disch := first | assumption | omega) only [go_sem, Nat.reduceAdd, Int.reduceEq, Int.reduceLT, Int.reduceLE, Int.reduceNe, Int.reduceAdd, Int.reduceSub, Int.reduceMul, Int.reduceToNat, Nat.reduceMul, Nat.reduceLT, Nat.reduceLeDiff, Nat.reduceEqDiff, ↓reduceIte, reduceCtorEq, Nat.reduceSub, Nat.reduceDiv, ti3, ti22, ti24, ti35, ti39, l1, l3, l4, iHas_eq, has_nat, hb, hn, mem0_nil, val0_nil]
        exact ⟨⟨i + 1, e⟩, dn h, ⟨h, he⟩, by simp only [hr, hn, mem0_nil], by simp [HasE, lk, l1, l3, hr, hn]⟩
      · rw [List.concat_eq_append] at hn
        simp (disch := first | assumption | omega) only [go_sem, Nat.reduceAdd, Int.reduceEq, Int.reduceLT, Int.reduceLE, Int.reduceNe, Int.reduceAdd, Int.reduceSub, Int.reduceMul, Int.reduceToNat, Nat.reduceMul, Nat.reduceLT, Nat.reduceLeDiff, Nat.reduceEqDiff, ↓reduceIte, reduceCtorEq, Nat.reduceSub, Nat.reduceDiv, ti3, ti22, ti24, ti35, ti39, l1, l3, l4, iHas_eq, has_nat, hb, hn, mem0_add, val0_add]
        exact ⟨⟨i + 1, e⟩, dn h, ⟨h, he⟩, by simp only [hr, hn, mem0_add], by simp [HasE, lk, l1, l3, hr, hn]⟩
    · rcases List.eq_nil_or_concat (runsN A i) with hn | ⟨l, p, hn⟩
      · have hp : ¬ (0 < i ∧ A.testBit (i - 1) = true) := fun hp => by
          obtain ⟨l, p, hl⟩ := h1 hp
          rw [hn] at hl
          simp at hl
        have hr : runsN A (i + 1) = [] ++ [((i : Int), (i : Int))] := by simp [runsN, hb, hp, hn]
        by_cases h0 : 0 < i
        · have hb1 : has A ((i : Int) - 1) = false := by
            have e1 : ((i : Int) - 1) = ((i - 1 : Nat) : Int) := by omega
            rw [e1, has_nat (by omega)]
            cases hb2 : A.testBit (i - 1)
            · rfl
            · exact absurd ⟨h0, hb2⟩ hp
          simp (disch := first | assumption | omega) only [go_sem, Nat.reduceAdd, Int.reduceEq, Int.reduceLT, Int.reduceLE, Int.reduceNe, Int.reduceAdd, Int.reduceSub, Int.reduceMul, Int.reduceToNat, Nat.reduceMul, Nat.reduceLT, Nat.reduceLeDiff, Nat.reduceEqDiff, ↓reduceIte, reduceCtorEq, Nat.reduceSub, Nat.reduceDiv, ti3, ti22, ti24, ti35, ti39, l1, l3, l4, iHas_eq, has_nat, hb, hn, mem0_nil, val0_nil, hb1, build35, build39, app35_first]
          exact ⟨⟨i + 1, 2⟩, dn h, ⟨h, rfl⟩, by simp only [hr, mem0_add]; rfl, by simp [HasE, lk, l1, hr, val0]⟩
        · simp (disch := first | assumption | omega) only [go_sem, Nat.reduceAdd, Int.reduceEq, Int.reduceLT, Int.reduceLE, Int.reduceNe, Int.reduceAdd, Int.reduceSub, Int.reduceMul, Int.reduceToNat, Nat.reduceMul, Nat.reduceLT, Nat.reduceLeDiff, Nat.reduceEqDiff, ↓reduceIte, reduceCtorEq, Nat.reduceSub, Nat.reduceDiv, ti3, ti22, ti24, ti35, ti39, l1, l3, l4, iHas_eq, has_nat, hb, hn, mem0_nil, val0_nil, build35, build39, app35_first]
          exact ⟨⟨i + 1, 2⟩, dn h, ⟨h, rfl⟩, by simp only [hr, mem0_add]; rfl, by simp [HasE, lk, l1, hr, val0]⟩
      · rw [List.concat_eq_append] at hn
        have hll : l.length < 256 := by rw [hn] at hl; simp at hl; omega
        have hpl : (pairL (l ++ [p])).length = 2 * (l.length + 1) := by rw [pairL_len]; simp
        by_cases h0 : 0 < i
        · have e1 : ((i : Int) - 1) = ((i - 1 : Nat) : Int) := by omega
          cases hb2 : A.testBit (i - 1)
          · have hb1 : has A ((i : Int) - 1) = false := by rw [e1, has_nat (by omega)]; exact hb2
            have hr : runsN A (i + 1) = l ++ [p] ++ [((i : Int), (i : Int))] := by simp [runsN, hb, hb2, hn]
            simp (disch := first | assumption | omega | (simp only [pairL_len, List.length_append, List.length_cons, List.length_nil]; omega)) only [go_sem, Nat.reduceAdd, Int.reduceEq, Int.reduceLT, Int.reduceLE, Int.reduceNe, Int.reduceAdd, Int.reduceSub, Int.reduceMul, Int.reduceToNat, Nat.reduceMul, Nat.reduceLT, Nat.reduceLeDiff, Nat.reduceEqDiff, ↓reduceIte, reduceCtorEq, Nat.reduceSub, Nat.reduceDiv, ti3, ti22, ti24, ti35, ti39, l1, l3, l4, iHas_eq, has_nat, hb, hn, mem0_add, val0_add, hb1, build35, build39, app35_next]
            exact ⟨⟨i + 1, e + 16⟩, dn h, ⟨h, by show (e + 16) % 16 = 2; omega⟩, by simp only [hr, mem0_add, pairL_app (l ++ [p])]; rfl, by simp [HasE, lk, l1, hr, val0]; omega⟩
          · have hb1 : has A ((i : Int) - 1) = true := by rw [e1, has_nat (by omega)]; exact hb2
            have hr : runsN A (i + 1) = l ++ [(p.1, (i : Int))] := by simp [runsN, hb, hb2, hn, h0, setLast_add]
            have e3 : ((l.length + 1 : Nat) : Int) - 1 = (l.length : Nat) := by omega
            simp (disch := first | assumption | omega | (simp only [pairL_len, List.length_append, List.length_cons, List.length_nil]; omega)) only [go_sem, Nat.reduceAdd, Int.reduceEq, Int.reduceLT, Int.reduceLE, Int.reduceNe, Int.reduceAdd, Int.reduceSub, Int.reduceMul, Int.reduceToNat, Nat.reduceMul, Nat.reduceLT, Nat.reduceLeDiff, Nat.reduceEqDiff, ↓reduceIte, reduceCtorEq, Nat.reduceSub, Nat.reduceDiv, ti3, ti22, ti24, ti35, ti39, l1, l3, l4, iHas_eq, has_nat, hb, hn, mem0_add, val0_add, hb1, e3, pair_last, pair_set]
            exact ⟨⟨i + 1, e⟩, dn h, ⟨h, he⟩, by simp only [hr, mem0_add], by simp [HasE, lk, l1, l3, hr, hn, val0]⟩
        · exfalso
          have : i = 0 := by omega
          subst this
          simp [runsN] at hn
  · have h4 : i = 256 := by omega
    subst h4
    rcases List.eq_nil_or_concat (runsN A 256) with hn | ⟨l, p, hn⟩
    · simp (disch := first | assumption | omega) only [go_sem, Nat.reduceAdd, Int.reduceEq, Int.reduceLT, Int.reduceLE, Int.reduceNe, Int.reduceAdd, Int.reduceSub, Int.reduceMul, Int.reduceToNat, Nat.reduceMul, Nat.reduceLT, Nat.reduceLeDiff, Nat.reduceEqDiff, ↓reduceIte, reduceCtorEq, Nat.reduceSub, Nat.reduceDiv, ti3, ti22, ti24, ti35, ti39, l1, l3, l4, hn, mem0_nil, val0_nil]
      rfl
    · rw [List.concat_eq_append] at hn
      rw [hn] at l3 ⊢
      have hpl : 2 * (l.length + 1) = (pairL (l ++ [p])).length := by rw [pairL_len]; simp
      have hpl2 : l.length + 1 = (l ++ [p]).length := by simp
      simp (disch := first | assumption | omega) only [go_sem, Nat.reduceAdd, Int.reduceEq, Int.reduceLT, Int.reduceLE, Int.reduceNe, Int.reduceAdd, Int.reduceSub, Int.reduceMul, Int.reduceToNat, Nat.reduceMul, Nat.reduceLT, Nat.reduceLeDiff, Nat.reduceEqDiff, ↓reduceIte, reduceCtorEq, Nat.reduceSub, Nat.reduceDiv, ti3, ti22, ti24, ti35, ti39, l1, l3, l4, mem0_add, val0_add, pairL_strip, pairV, hpl2]
def iList : List AVal → Option AVal := con1 eSet fun A => intV (lst A 256)
theorem iList_eq {A : Nat} (h : A < 2 ^ 256) : iList [setV A] = some (intV (lst A 256)) := con1_eq (E := eSet) h
theorem w30 (A : Nat) (hA : A < 2 ^ 256) : PCall Try.prog 30 [setV A] (pairV (runsN A 256)) := by
  rw [← fold_runs]
  have hlm := lst_mem A 256
  have hll := lst_len A 256
  refine PCall.of_w (fn := Try.f30) (Γ := gam [(27, .pure iList)]) (mu := true) (Sound.pure (con1_call fun A h => w27 A h) Sound.nil) mixed Try.func30 rfl (by kernel_rfl) (by simp) (by kernel_rfl) ?_
  simp (disch := first | assumption | omega) only [go_sem, Nat.reduceAdd, Int.reduceEq, Int.reduceLT, Int.reduceLE, Int.reduceNe, Int.reduceAdd, Int.reduceSub, Int.reduceMul, Int.reduceToNat, Nat.reduceMul, Nat.reduceLT, Nat.reduceLeDiff, Nat.reduceEqDiff, ↓reduceIte, reduceCtorEq, Nat.reduceSub, Nat.reduceDiv, Try.f30, ti22, ti24, iList_eq, intV, ti32]
  generalize hL : lst A 256 = L at *
  refine w_loop0 (fun x : Rs => L.length - x.i) (fun x => x.i ≤ L.length ∧ x.e % 16 = 2) (fun x => mem0 A x.e ((L.take x.i).foldl step []))
    (fun x => [(1, .ptr 0 0 0), (2, val0 x.e ((L.take x.i).foldl step [])), (7, .sl .no L.length (intL L)), (8, .int .i64 (L.length : Nat)), (9, .int .i64 (x.i : Nat))]) ⟨0, 2⟩ (by simp) rfl (by simp [HasE, lk, val0]) ?_
  rintro ⟨i, e⟩ ⟨hi, he⟩ E ⟨l1, l2, l7, l8, l9, -⟩
  simp only at hi he l1 l2 l7 l8 l9
  by_cases h : i < L.length
  · have hget : L[i]?.getD 0 = L[i] := by simp [h]
    obtain ⟨hb0, hb1⟩ := hlm L[i] (List.getElem_mem h)
    have hnext : (L.take (i + 1)).foldl step [] = step ((L.take i).foldl step []) L[i] := by
      rw [List.take_succ_eq_append_getElem h, List.foldl_append]; rfl
    have hil := intL_len L
    generalize hb : L[i] = b at *
    rcases List.eq_nil_or_concat ((L.take i).foldl step []) with hn | ⟨l, p, hn⟩
    · rw [hn, step_nil] at hnext
      have hr : (L.take (i + 1)).foldl step [] = [] ++ [(b, b)] := hnext
      simp (disch := first | assumption | omega) only [go_sem, Nat.reduceAdd, Int.reduceEq, Int.reduceLT, Int.reduceLE, Int.reduceNe, Int.reduceAdd, Int.reduceSub, Int.reduceMul, Int.reduceToNat, Nat.reduceMul, Nat.reduceLT, Nat.reduceLeDiff, Nat.reduceEqDiff, ↓reduceIte, reduceCtorEq, Nat.reduceSub, Nat.reduceDiv, ti3, ti22, ti24, ti32, ti35, ti39, l1, l2, l7, l8, l9, hn, mem0_nil, val0_nil, build35, build39, app35_first, intL_get, hget]
      exact ⟨⟨i + 1, 2⟩, dn h, ⟨h, rfl⟩, by simp only [hr, mem0_add]; rfl, by simp [HasE, lk, l1, l7, l8, hr, val0]⟩
    · rw [List.concat_eq_append] at hn
      rw [hn, step_add] at hnext
      have hpl : (pairL (l ++ [p])).length = 2 * (l.length + 1) := by rw [pairL_len]; simp
      have hlen : l.length < 1000 := by
        have : ∀ (m : List Int) (acc : List (Int × Int)), (m.foldl step acc).length ≤ acc.length + m.length := by
          intro m
          induction m with
          | nil => intro acc; simp
          | cons x m ih =>
            intro acc
            have h1 := ih (step acc x)
            have h2 : (step acc x).length ≤ acc.length + 1 := by
              rcases List.eq_nil_or_concat acc with rfl | ⟨l, p, rfl⟩
              · simp [step_nil]
              · rw [List.concat_eq_append, step_add]; split <;> simp
            simp only [List.foldl_cons, List.length_cons]
            omega
        have h1 := this (L.take i) []
        rw [hn] at h1
        simp at h1
        omega
      have e3 : ((l.length + 1 : Nat) : Int) - 1 = (l.length : Nat) := by omega
      by_cases hp : p.2 = b - 1
      · rw [if_pos hp] at hnext
        simp (disch := first | assumption | omega) only [go_sem, Nat.reduceAdd, Int.reduceEq, Int.reduceLT, Int.reduceLE, Int.reduceNe, Int.reduceAdd, Int.reduceSub, Int.reduceMul, Int.reduceToNat, Nat.reduceMul, Nat.reduceLT, Nat.reduceLeDiff, Nat.reduceEqDiff, ↓reduceIte, reduceCtorEq, Nat.reduceSub, Nat.reduceDiv, ti3, ti22, ti24, ti32, ti35, ti39, l1, l2, l7, l8, l9, hn, mem0_add, val0_add, intL_get, hget, e3, pair_last, pair_set, hp]
        exact ⟨⟨i + 1, e⟩, dn h, ⟨h, he⟩, by simp only [hnext, mem0_add], by simp [HasE, lk, l1, l2, l7, l8, hnext, hn, val0]⟩
      · rw [if_neg hp] at hnext
        simp (disch := first | assumption | omega) only [go_sem, Nat.reduceAdd, Int.reduceEq, Int.reduceLT, Int.reduceLE, Int.reduceNe, Int.reduceAdd, Int.reduceSub, Int.reduceMul, Int.reduceToNat, Nat.reduceMul, Nat.reduceLT, Nat.reduceLeDiff, Nat.reduceEqDiff, ↓reduceIte, reduceCtorEq, Nat.reduceSub, Nat.reduceDiv, ti3, ti22, ti24, ti32, ti35, ti39, l1, l2, l7, l8, l9, hn, mem0_add, val0_add, intL_get, hget, e3, pair_last, pair_set, build35, build39, app35_next]
        exact ⟨⟨i + 1, e + 16⟩, dn h, ⟨h, by show (e + 16) % 16 = 2; omega⟩, by simp only [hnext, mem0_add, pairL_app (l ++ [p])]; rfl, by simp [HasE, lk, l1, l7, l8, hnext, val0]; omega⟩
  · have h4 : i = L.length := by omega
    subst h4
    rw [List.take_length] at *
    rcases List.eq_nil_or_concat (L.foldl step []) with hn | ⟨l, p, hn⟩
    · simp (disch := first | assumption | omega) only [go_sem, Nat.reduceAdd, Int.reduceEq, Int.reduceLT, Int.reduceLE, Int.reduceNe, Int.reduceAdd, Int.reduceSub, Int.reduceMul, Int.reduceToNat, Nat.reduceMul, Nat.reduceLT, Nat.reduceLeDiff, Nat.reduceEqDiff, ↓reduceIte, reduceCtorEq, Nat.reduceSub, Nat.reduceDiv, ti3, ti22, ti24, ti35, ti39, l1, l2, l7, l8, l9, hn, mem0_nil, val0_nil]
      rfl
    · rw [List.concat_eq_append] at hn
      rw [hn] at l2 ⊢
      have hpl : 2 * (l.length + 1) = (pairL (l ++ [p])).length := by rw [pairL_len]; simp
      have hpl2 : l.length + 1 = (l ++ [p]).length := by simp
      simp (disch := first | assumption | omega) only [go_sem, Nat.reduceAdd, Int.reduceEq, Int.reduceLT, Int.reduceLE, Int.reduceNe, Int.reduceAdd, Int.reduceSub, Int.reduceMul, Int.reduceToNat, Nat.reduceMul, Nat.reduceLT, Nat.reduceLeDiff, Nat.reduceEqDiff, ↓reduceIte, reduceCtorEq, Nat.reduceSub, Nat.reduceDiv, ti3, ti22, ti24, ti35, ti39, l1, l2, l7, l8, l9, mem0_add, val0_add, pairL_strip, pairV, hpl2]
end Go.Hk.A
