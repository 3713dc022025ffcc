/- Layer 1: lists. -/
import Derived.Test.YtpncchabnolnkaaHkA2
set_option linter.unusedSimpArgs false
set_option linter.unusedVariables false
namespace Go.Hk.A
open Go.Proofs
theorem ti3 : tiOf Try.prog 3 = some { size := 1, bytes := 8, zero := some (.int .i64 0), k := .int .i64 } := by kernel_rfl
theorem ti32 : tiOf Try.prog 32 = some { size := 1, bytes := 24, zero := some (.sl .full 0 []), k := .slice 3 } := by kernel_rfl
theorem ti35 : tiOf Try.prog 35 = some { size := 1, bytes := 24, zero := some (.sl .full 0 []), k := .slice 39 } := by kernel_rfl
theorem ti39 : tiOf Try.prog 39 = some { size := 2, bytes := 16, zero := some (.agg [.int .i64 0, .int .i64 0]), k := .arr 2 3 } := by kernel_rfl
theorem app32 {H : List ABlk} {T : List (Nat × Nat)} {r r' : Rt} {n : Nat} {cs : List AVal} {d : AVal} (hr : okR T r cs.length 1 = true) (h : cs.length = n) (hn : n < 1000000000) :
    aappend Try.prog 32 32 ⟨H, T⟩ (.sl r n cs) (.sl r' 1 [d]) = some (.sl (nxR T r) (n + 1) (cs ++ [d]), ⟨H, nxT T r (n + 1) 1⟩) := app_one (e := 3) (by_ := 8) (by kernel_rfl) (by decide) hr h hn
def intL (l : List Int) : List AVal := l.map (.int .i64)
def intV (l : List Int) : AVal := .sl .no l.length (intL l)
theorem intL_len (l : List Int) : (intL l).length = l.length := by simp [intL]
theorem intL_add (l : List Int) (x : Int) : intL (l ++ [x]) = intL l ++ [.int .i64 x] := by simp [intL]
theorem intL_strip (l : List Int) : stripL (intL l) = some (intL l) := s_map fun _ => rfl
def eInts : Enc (List Int) := eSl (eInt .i64) 1000000000
theorem intV_def (l : List Int) : AVal.sl .no l.length (intL l) = intV l := nr rfl
theorem intV_strip (l : List Int) : strip (intV l) = some (intV l) := by simp only [intV, strip, intL_strip]
theorem buildOne (mu : Bool) (m : AMem) (n : Int) : abuildSlice Try.prog mu m 32 1 [(0, .int .i64 n)] = some (.sl .full 1 [.int .i64 n], m) := by
  simp [abuildSlice, ti32, ti3, zeroRow, afill, cellsOf, setMany, List.range, List.range.loop]
structure Ls where
  i : Nat
  r : Rt
  T : List (Nat × Nat)
theorem w27 (A : Nat) (hA : A < 2 ^ 256) : PCall Try.prog 27 [setV A] (intV (lst A 256)) := by
  refine PCall.of_w (fn := Try.f27) (Γ := gam [(14, .pure iHas)]) (mu := false) (Sound.pure (con2_call fun A n _ _ => w14 A n) Sound.nil) mixed Try.func27 rfl (by kernel_rfl) (by simp) (by kernel_rfl) ?_
  simp (disch := omega) only [go_sem, Nat.reduceAdd, Int.reduceEq, Int.reduceLT, Int.reduceLE, Int.reduceNe, Int.reduceAdd, Int.reduceSub, Int.reduceMul, Int.reduceToNat, Nat.reduceMul, Nat.reduceLT, Nat.reduceLeDiff, Nat.reduceEqDiff, ↓reduceIte, reduceCtorEq, Nat.reduceSub, Nat.reduceDiv, Try.f27, ti22, ti24]
  refine w_loop0 (fun x : Ls => 256 - x.i) (fun x => x.i ≤ 256 ∧ okR x.T x.r (lst A x.i).length 1 = true) (fun x => ⟨[.cells 0 (setL A)], x.T⟩)
    (fun x => [(1, .ptr 0 0 0), (2, .sl x.r (lst A x.i).length (intL (lst A x.i))), (4, .int .i64 (x.i : Nat))]) ⟨0, .full, []⟩ (by simp [okR]) rfl (by simp [HasE, lk, lst, intL]) ?_
  rintro ⟨i, r, T⟩ ⟨hi, hr⟩ E ⟨l1, l2, l4, -⟩
  simp only at hi hr l1 l2 l4
  have hl := lst_len A i
  by_cases h : i < 256
  · cases h1 : A.testBit i
    · simp (disch := first | assumption | omega) only [go_sem, Nat.reduceAdd, Int.reduceEq, Int.reduceLT, Int.reduceLE, Int.reduceNe, Int.reduceAdd, Int.reduceSub, Int.reduceMul, Int.reduceToNat, Nat.reduceMul, Nat.reduceLT, Nat.reduceLeDiff, Nat.reduceEqDiff, ↓reduceIte, reduceCtorEq, Nat.reduceSub, Nat.reduceDiv, ti22, ti24, l1, l2, l4, iHas_eq, has_nat, h1]
      exact ⟨⟨i + 1, r, T⟩, dn h, ⟨h, by simpa [lst, h1] using hr⟩, rfl, by simp [HasE, lk, lst, h1, l1, l2]⟩
    · simp (disch := first | assumption | omega | (simp only [intL_len]; done) | (simp only [intL_len]; assumption)) only [go_sem, Nat.reduceAdd, Int.reduceEq, Int.reduceLT, Int.reduceLE, Int.reduceNe, Int.reduceAdd, Int.reduceSub, Int.reduceMul, Int.reduceToNat, Nat.reduceMul, Nat.reduceLT, Nat.reduceLeDiff, Nat.reduceEqDiff, ↓reduceIte, reduceCtorEq, Nat.reduceSub, Nat.reduceDiv, ti22, ti24, l1, l2, l4, iHas_eq, has_nat, h1, buildOne, app32]
      exact ⟨⟨i + 1, nxR T r, nxT T r ((lst A i).length + 1) 1⟩, dn h, ⟨h, by simpa [lst, h1] using okR_nx hr⟩, rfl, by simp [HasE, lk, lst, h1, l1, intL]⟩
  · have h4 : i = 256 := by omega
    subst h4
    simp (disch := first | assumption | omega) only [go_sem, Nat.reduceAdd, Int.reduceEq, Int.reduceLT, Int.reduceLE, Int.reduceNe, Int.reduceAdd, Int.reduceSub, Int.reduceMul, Int.reduceToNat, Nat.reduceMul, Nat.reduceLT, Nat.reduceLeDiff, Nat.reduceEqDiff, ↓reduceIte, reduceCtorEq, Nat.reduceSub, Nat.reduceDiv, ti22, ti24, l1, l2, l4, intL_strip, intV_def]
theorem w28 (A : Nat) (hA : A < 2 ^ 256) : PCall Try.prog 28 [setV A] (intV (lst A 256)) := by
  refine PCall.of_w (fn := Try.f28) (Γ := gam [(15, .pure iHas)]) (mu := false) (Sound.pure (con2_call fun A n _ _ => w15 A n) Sound.nil) mixed Try.func28 rfl (by kernel_rfl) (by simp) (by kernel_rfl) ?_
  simp (disch := omega) only [go_sem, Nat.reduceAdd, Int.reduceEq, Int.reduceLT, Int.reduceLE, Int.reduceNe, Int.reduceAdd, Int.reduceSub, Int.reduceMul, Int.reduceToNat, Nat.reduceMul, Nat.reduceLT, Nat.reduceLeDiff, Nat.reduceEqDiff, ↓reduceIte, reduceCtorEq, Nat.reduceSub, Nat.reduceDiv, Try.f28, ti22, ti24]
  refine w_loop0 (fun x : Ls => 256 - x.i) (fun x => x.i ≤ 256 ∧ okR x.T x.r (lst A x.i).length 1 = true) (fun x => ⟨[.cells 0 (setL A)], x.T⟩)
    (fun x => [(1, .ptr 0 0 0), (3, .sl x.r (lst A x.i).length (intL (lst A x.i))), (4, .int .i64 (x.i : Nat))]) ⟨0, .full, []⟩ (by simp [okR]) rfl (by simp [HasE, lk, lst, intL]) ?_
  rintro ⟨i, r, T⟩ ⟨hi, hr⟩ E ⟨l1, l2, l4, -⟩
  simp only at hi hr l1 l2 l4
  have hl := lst_len A i
  by_cases h : i < 256
  · cases h1 : A.testBit i
    · simp (disch := first | assumption | omega) only [go_sem, Nat.reduceAdd, Int.reduceEq, Int.reduceLT, Int.reduceLE, Int.reduceNe, Int.reduceAdd, Int.reduceSub, Int.reduceMul, Int.reduceToNat, Nat.reduceMul, Nat.reduceLT, Nat.reduceLeDiff, Nat.reduceEqDiff, ↓reduceIte, reduceCtorEq, Nat.reduceSub, Nat.reduceDiv, ti22, ti24, l1, l2, l4, iHas_eq, has_nat, h1]
      exact ⟨⟨i + 1, r, T⟩, dn h, ⟨h, by simpa [lst, h1] using hr⟩, rfl, by simp [HasE, lk, lst, h1, l1, l2]⟩
    · simp (disch := first | assumption | omega | (simp only [intL_len]; done) | (simp only [intL_len]; assumption)) only [go_sem, Nat.reduceAdd, Int.reduceEq, Int.reduceLT, Int.reduceLE, Int.reduceNe, Int.reduceAdd, Int.reduceSub, Int.reduceMul, Int.reduceToNat, Nat.reduceMul, Nat.reduceLT, Nat.reduceLeDiff, Nat.reduceEqDiff, ↓reduceIte, reduceCtorEq, Nat.reduceSub, Nat.reduceDiv, ti22, ti24, l1, l2, l4, iHas_eq, has_nat, h1, buildOne, app32]
      exact ⟨⟨i + 1, nxR T r, nxT T r ((lst A i).length + 1) 1⟩, dn h, ⟨h, by simpa [lst, h1] using okR_nx hr⟩, rfl, by simp [HasE, lk, lst, h1, l1, intL]⟩
  · have h4 : i = 256 := by omega
    subst h4
    simp (disch := first | assumption | omega) only [go_sem, Nat.reduceAdd, Int.reduceEq, Int.reduceLT, Int.reduceLE, Int.reduceNe, Int.reduceAdd, Int.reduceSub, Int.reduceMul, Int.reduceToNat, Nat.reduceMul, Nat.reduceLT, Nat.reduceLeDiff, Nat.reduceEqDiff, ↓reduceIte, reduceCtorEq, Nat.reduceSub, Nat.reduceDiv, ti22, ti24, l1, l2, l4, intL_strip, intV_def]
theorem intL_get {l : List Int} {i : Nat} (h : i < l.length) : (intL l)[i]? = some (.int .i64 (l[i]?.getD 0)) := by
  simp [intL, h]
theorem take_next {α : Type} [DecidableEq α] {d : α} {a b : List α} {i : Nat} (h : i < a.length) (h2 : i < b.length) (hp : a.take i = b.take i) (h3 : a[i]?.getD d = b[i]?.getD d) : a.take (i + 1) = b.take (i + 1) := by
  simp only [List.getElem?_eq_getElem h, List.getElem?_eq_getElem h2, Option.getD_some] at h3
  rw [List.take_succ_eq_append_getElem h, List.take_succ_eq_append_getElem h2, hp, h3]
theorem w26 (a b : List Int) (ha : a.length < 1000000000) (hb : b.length < 1000000000) : PCall Try.prog 26 [intV a, intV b] (.bool (decide (a = b))) := by
  refine PCall.of_w (fn := Try.f26) (Γ := gam []) (mu := false) Sound.nil mixed Try.func26 rfl (by kernel_rfl) (by simp) (by kernel_rfl) ?_
  by_cases hab : a.length = b.length
  · simp (disch := omega) only [go_sem, Nat.reduceAdd, Int.reduceEq, Int.reduceLT, Int.reduceLE, Int.reduceNe, Int.reduceAdd, Int.reduceSub, Int.reduceMul, Int.reduceToNat, Nat.reduceMul, Nat.reduceLT, Nat.reduceLeDiff, Nat.reduceEqDiff, ↓reduceIte, reduceCtorEq, Nat.reduceSub, Nat.reduceDiv, Try.f26, ti3, ti32, intV, intL_len]
    refine w_loop0 (fun i : Nat => a.length - i) (fun i => i ≤ a.length ∧ a.take i = b.take i) (fun i => ⟨[], []⟩)
      (fun i => [(0, intV a), (1, intV b), (5, .int .i64 (i : Nat))]) 0 (by simp) rfl (by simp [HasE, lk, intV]) ?_
    rintro i ⟨hi, hp⟩ E ⟨l0, l1, l5, -⟩
    by_cases h : i < a.length
    · have h2 : i < b.length := by omega
      by_cases h3 : a[i]?.getD 0 = b[i]?.getD 0
      · simp (disch := first | assumption | omega) only [go_sem, Nat.reduceAdd, Int.reduceEq, Int.reduceLT, Int.reduceLE, Int.reduceNe, Int.reduceAdd, Int.reduceSub, Int.reduceMul, Int.reduceToNat, Nat.reduceMul, Nat.reduceLT, Nat.reduceLeDiff, Nat.reduceEqDiff, ↓reduceIte, reduceCtorEq, Nat.reduceSub, Nat.reduceDiv, ti3, ti32, l0, l1, l5, intV, intL_len, intL_get]
        exact ⟨i + 1, dn h, ⟨h, take_next h h2 hp h3⟩, rfl, by simp [HasE, lk, l0, l1, intV]⟩
      · simp (disch := first | assumption | omega) only [go_sem, Nat.reduceAdd, Int.reduceEq, Int.reduceLT, Int.reduceLE, Int.reduceNe, Int.reduceAdd, Int.reduceSub, Int.reduceMul, Int.reduceToNat, Nat.reduceMul, Nat.reduceLT, Nat.reduceLeDiff, Nat.reduceEqDiff, ↓reduceIte, reduceCtorEq, Nat.reduceSub, Nat.reduceDiv, ti3, ti32, l0, l1, l5, intV, intL_len, intL_get]
        have : ¬ a = b := fun hh => h3 (by rw [hh])
        simp [this]
    · have hi' : i = a.length := by omega
      have : a = b := by
        rw [hi', List.take_length, hab, List.take_length] at hp
        exact hp
      simp (disch := first | assumption | omega) only [go_sem, Nat.reduceAdd, Int.reduceEq, Int.reduceLT, Int.reduceLE, Int.reduceNe, Int.reduceAdd, Int.reduceSub, Int.reduceMul, Int.reduceToNat, Nat.reduceMul, Nat.reduceLT, Nat.reduceLeDiff, Nat.reduceEqDiff, ↓reduceIte, reduceCtorEq, Nat.reduceSub, Nat.reduceDiv, ti3, ti32, l0, l1, l5, intV, intL_len, intL_get, this]
  · simp (disch := omega) only [go_sem, Nat.reduceAdd, Int.reduceEq, Int.reduceLT, Int.reduceLE, Int.reduceNe, Int.reduceAdd, Int.reduceSub, Int.reduceMul, Int.reduceToNat, Nat.reduceMul, Nat.reduceLT, Nat.reduceLeDiff, Nat.reduceEqDiff, ↓reduceIte, reduceCtorEq, Nat.reduceSub, Nat.reduceDiv, Try.f26, ti3, ti32, intV, intL_len]
    have : ¬ a = b := fun hh => hab (by rw [hh])
    simp [this]
/-! runs -/
def pairL : List (Int × Int) → List AVal
  | [] => []
  | p :: l => .int .i64 p.1 :: .int .i64 p.2 :: pairL l
theorem pairL_len : ∀ l : List (Int × Int), (pairL l).length = 2 * l.length
  | [] => rfl
  | p :: l => by simp [pairL, pairL_len l]; omega
theorem pairL_strip : ∀ l : List (Int × Int), stripL (pairL l) = some (pairL l)
  | [] => rfl
  | p :: l => by simp [pairL, stripL, strip, pairL_strip l]
theorem pairL_get : ∀ (l : List (Int × Int)) (i : Nat) (_ : i < l.length), List.take 2 (List.drop (i * 2) (pairL l)) = [.int .i64 (l[i]?.getD (0, 0)).1, .int .i64 (l[i]?.getD (0, 0)).2]
  | p :: l, 0, _ => by simp [pairL]
  | p :: l, i + 1, h => by
    have := pairL_get l i (by simpa using h)
    rw [show (i + 1) * 2 = i * 2 + 2 by omega]
    simpa [pairL] using this
def pairV (l : List (Int × Int)) : AVal := .sl .no l.length (pairL l)
theorem guard39 : Try.prog.eqGuardType Try.prog.depth 39 = false := by kernel_rfl
theorem pair_neq (a b c d : Int) : abin Try.prog .neq 39 (.agg [.int .i64 a, .int .i64 b]) (.agg [.int .i64 c, .int .i64 d]) = some (.bool (!decide ((a, b) = (c, d)))) := by
  have hr : List.range 2 = [0, 1] := rfl
  have h1 : ∀ x y : Int, aeq Try.prog 19 3 (.int .i64 x) (.int .i64 y) = some (x == y) := fun x y => by unfold aeq; simp only [ti3, if_true]
  have h2 : ∀ x y : Int, apart Try.prog 3 [.int .i64 x, .int .i64 y] 0 = some (.int .i64 x) := fun x y => by simp [apart, ti3, TK.agg]
  have h3 : ∀ x y : Int, apart Try.prog 3 [.int .i64 x, .int .i64 y] 1 = some (.int .i64 y) := fun x y => by simp [apart, ti3, TK.agg]
  rw [e_bin_agg, guard39]
  unfold aeq
  simp only [Bool.false_eq_true, if_false, ti39, ti3, hr, List.map_cons, List.map_nil, Nat.zero_mul, Nat.one_mul, h2, h3, h1, andL]
  by_cases h4 : a = c <;> by_cases h5 : b = d <;> simp [h4, h5, aEqOp]
theorem w29 (a b : List (Int × Int)) (ha : a.length < 1000000000) (hb : b.length < 1000000000) : PCall Try.prog 29 [pairV a, pairV b] (.bool (decide (a = b))) := by
  refine PCall.of_w (fn := Try.f29) (Γ := gam []) (mu := false) Sound.nil mixed Try.func29 rfl (by kernel_rfl) (by simp) (by kernel_rfl) ?_
  by_cases hab : a.length = b.length
  · simp (disch := omega) only [go_sem, Nat.reduceAdd, Int.reduceEq, Int.reduceLT, Int.reduceLE, Int.reduceNe, Int.reduceAdd, Int.reduceSub, Int.reduceMul, Int.reduceToNat, Nat.reduceMul, Nat.reduceLT, Nat.reduceLeDiff, Nat.reduceEqDiff, ↓reduceIte, reduceCtorEq, Nat.reduceSub, Nat.reduceDiv, Try.f29, ti3, ti35, ti39, pairV, pairL_len]
    refine w_loop0 (fun i : Nat => a.length - i) (fun i => i ≤ a.length ∧ a.take i = b.take i) (fun i => ⟨[], []⟩)
      (fun i => [(0, pairV a), (1, pairV b), (5, .int .i64 (i : Nat))]) 0 (by simp) rfl (by simp [HasE, lk, pairV]) ?_
    rintro i ⟨hi, hp⟩ E ⟨l0, l1, l5, -⟩
    by_cases h : i < a.length
    · have h2 : i < b.length := by omega
      by_cases h3 : a[i]?.getD (0, 0) = b[i]?.getD (0, 0)
      · simp (disch := first | assumption | omega) only [go_sem, Nat.reduceAdd, Int.reduceEq, Int.reduceLT, Int.reduceLE, Int.reduceNe, Int.reduceAdd, Int.reduceSub, Int.reduceMul, Int.reduceToNat, Nat.reduceMul, Nat.reduceLT, Nat.reduceLeDiff, Nat.reduceEqDiff, ↓reduceIte, reduceCtorEq, Nat.reduceSub, Nat.reduceDiv, ti3, ti35, ti39, l0, l1, l5, pairV, pairL_len, pairL_get, pair_neq, h3]
        exact ⟨i + 1, dn h, ⟨h, take_next h h2 hp h3⟩, rfl, by simp [HasE, lk, l0, l1, pairV]⟩
      · simp (disch := first | assumption | omega) only [go_sem, Nat.reduceAdd, Int.reduceEq, Int.reduceLT, Int.reduceLE, Int.reduceNe, Int.reduceAdd, Int.reduceSub, Int.reduceMul, Int.reduceToNat, Nat.reduceMul, Nat.reduceLT, Nat.reduceLeDiff, Nat.reduceEqDiff, ↓reduceIte, reduceCtorEq, Nat.reduceSub, Nat.reduceDiv, ti3, ti35, ti39, l0, l1, l5, pairV, pairL_len, pairL_get, pair_neq, h3]
        have : ¬ a = b := fun hh => h3 (by rw [hh])
        simp [this]
    · have hi' : i = a.length := by omega
      have : a = b := by
        rw [hi', List.take_length, hab, List.take_length] at hp
        exact hp
      simp (disch := first | assumption | omega) only [go_sem, Nat.reduceAdd, Int.reduceEq, Int.reduceLT, Int.reduceLE, Int.reduceNe, Int.reduceAdd, Int.reduceSub, Int.reduceMul, Int.reduceToNat, Nat.reduceMul, Nat.reduceLT, Nat.reduceLeDiff, Nat.reduceEqDiff, ↓reduceIte, reduceCtorEq, Nat.reduceSub, Nat.reduceDiv, ti3, ti35, ti39, l0, l1, l5, pairV, pairL_len, this]
  · simp (disch := omega) only [go_sem, Nat.reduceAdd, Int.reduceEq, Int.reduceLT, Int.reduceLE, Int.reduceNe, Int.reduceAdd, Int.reduceSub, Int.reduceMul, Int.reduceToNat, Nat.reduceMul, Nat.reduceLT, Nat.reduceLeDiff, Nat.reduceEqDiff, ↓reduceIte, reduceCtorEq, Nat.reduceSub, Nat.reduceDiv, Try.f29, ti3, ti35, ti39, pairV, pairL_len]
    have : ¬ a = b := fun hh => hab (by rw [hh])
    simp [this]
end Go.Hk.A
