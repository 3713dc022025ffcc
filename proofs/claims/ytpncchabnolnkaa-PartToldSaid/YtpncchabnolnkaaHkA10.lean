/- Layer 2: least bytes. -/
import Derived.Test.YtpncchabnolnkaaHkA5
import Derived.Test.YtpncchabnolnkaaHkP02
set_option linter.unusedSimpArgs false
set_option linter.unusedVariables false
namespace Go.Hk.A
open Go.Proofs

theorem w45 (m : List Int) (k : Int) (hm : m.length < 1000000000) : PCall Try.prog 45 [intV m, .int .i64 k] (.int .i64 (idx m k)) := by
  refine PCall.of_w (fn := Try.f45) (Γ := gam []) (mu := false) Sound.nil mixed Try.func45 rfl (by kernel_rfl) (by simp) (by kernel_rfl) ?_
  simp (disch := omega) only [go_sem, Nat.reduceAdd, Int.reduceEq, Int.reduceLT, Int.reduceLE, Int.reduceNe, Int.reduceAdd, Int.reduceSub, Int.reduceMul, Int.reduceToNat, Nat.reduceMul, Nat.reduceLT, Nat.reduceLeDiff, Nat.reduceEqDiff, ↓reduceIte, reduceCtorEq, Nat.reduceSub, Nat.reduceDiv, Try.f45, ti3, ti32, intV, intL_len]
  refine w_loop0 (fun i : Nat => m.length - i) (fun i => i ≤ m.length ∧ ∀ j, j < i → m[j]? ≠ some k) (fun i => ⟨[], []⟩)
    (fun i => [(0, intV m), (1, .int .i64 k), (7, .int .i64 (m.length : Nat)), (8, .int .i64 (i : Nat))]) 0 (by simp) rfl (by simp [HasE, lk, intV]) ?_
  rintro i ⟨hi, hp⟩ E ⟨l0, l1, l7, l8, -⟩
  by_cases h : i < m.length
  · have hg : m[i]? = some m[i] := by simp [h]
    have hg2 : m[i]?.getD 0 = m[i] := by simp [h]
    by_cases h3 : k = m[i]
    · simp (disch := first | assumption | omega) only [go_sem, Nat.reduceAdd, Int.reduceEq, Int.reduceLT, Int.reduceLE, Int.reduceNe, Int.reduceAdd, Int.reduceSub, Int.reduceMul, Int.reduceToNat, Nat.reduceMul, Nat.reduceLT, Nat.reduceLeDiff, Nat.reduceEqDiff, ↓reduceIte, reduceCtorEq, Nat.reduceSub, Nat.reduceDiv, ti3, ti32, l0, l1, l7, l8, intV, intL_len, intL_get, hg2]
      rw [idx_drop k m i hp h (by rw [hg, h3])]
    · simp (disch := first | assumption | omega) only [go_sem, Nat.reduceAdd, Int.reduceEq, Int.reduceLT, Int.reduceLE, Int.reduceNe, Int.reduceAdd, Int.reduceSub, Int.reduceMul, Int.reduceToNat, Nat.reduceMul, Nat.reduceLT, Nat.reduceLeDiff, Nat.reduceEqDiff, ↓reduceIte, reduceCtorEq, Nat.reduceSub, Nat.reduceDiv, ti3, ti32, l0, l1, l7, l8, intV, intL_len, intL_get, hg2]
      refine ⟨i + 1, dn h, ⟨h, fun j hj => ?_⟩, rfl, by simp [HasE, lk, l0, l1, l7, intV]⟩
      by_cases hji : j < i
      · exact hp j hji
      · have : j = i := by omega
        subst this
        rw [hg]
        exact fun e => h3 (Option.some.inj e).symm
  · have hi' : i = m.length := by omega
    subst hi'
    rw [idx_none k m hp]
    simp (disch := first | assumption | omega) only [go_sem, Nat.reduceAdd, Int.reduceEq, Int.reduceLT, Int.reduceLE, Int.reduceNe, Int.reduceAdd, Int.reduceSub, Int.reduceMul, Int.reduceToNat, Nat.reduceMul, Nat.reduceLT, Nat.reduceLeDiff, Nat.reduceEqDiff, ↓reduceIte, reduceCtorEq, Nat.reduceSub, Nat.reduceDiv, ti3, ti32, l0, l1, l7, l8, intV, intL_len]
theorem w47 (m : List Int) (h0 : m ≠ []) (hm : m.length < 1000000000) : PCall Try.prog 47 [intV m] (.int .i64 (mx m)) := by
  have hpos : 0 < m.length := List.length_pos_iff.2 h0
  have hg0 : m[0]?.getD 0 = mx (m.take 1) := by
    cases m with
    | nil => exact absurd rfl h0
    | cons x l => simp [mx]
  refine PCall.of_w (fn := Try.f47) (Γ := gam []) (mu := false) Sound.nil mixed Try.func47 rfl (by kernel_rfl) (by simp) (by kernel_rfl) ?_
  simp (disch := omega) only [go_sem, Nat.reduceAdd, Int.reduceEq, Int.reduceLT, Int.reduceLE, Int.reduceNe, Int.reduceAdd, Int.reduceSub, Int.reduceMul, Int.reduceToNat, Nat.reduceMul, Nat.reduceLT, Nat.reduceLeDiff, Nat.reduceEqDiff, ↓reduceIte, reduceCtorEq, Nat.reduceSub, Nat.reduceDiv, Try.f47, ti3, ti32, intV, intL_len, intL_get]
  refine w_loop0 (fun i : Nat => m.length - i) (fun i => 1 ≤ i ∧ i ≤ m.length) (fun i => ⟨[], []⟩)
    (fun i => [(0, intV m), (3, .int .i64 (mx (m.take i))), (4, .int .i64 (i : Nat))]) 1 (by omega) rfl (by simp [HasE, lk, intV, ← hg0]) ?_
  rintro i ⟨h1, hi⟩ E ⟨l0, l3, l4, -⟩
  by_cases h : i < m.length
  · have hg2 : m[i]?.getD 0 = m[i] := by simp [h]
    have hn : mx (m.take (i + 1)) = mstep (mx (m.take i)) m[i] := by
      rw [List.take_succ_eq_append_getElem h, mx_add]
      intro e
      have := congrArg List.length e
      rw [List.length_take, List.length_nil] at this
      omega
    simp (disch := first | assumption | omega) only [go_sem, Nat.reduceAdd, Int.reduceEq, Int.reduceLT, Int.reduceLE, Int.reduceNe, Int.reduceAdd, Int.reduceSub, Int.reduceMul, Int.reduceToNat, Nat.reduceMul, Nat.reduceLT, Nat.reduceLeDiff, Nat.reduceEqDiff, ↓reduceIte, reduceCtorEq, Nat.reduceSub, Nat.reduceDiv, ti3, ti32, l0, l3, l4, intV, intL_len, intL_get, hg2]
    exact ⟨i + 1, dn h, ⟨by omega, h⟩, rfl, by simp [HasE, lk, l0, intV, hn, mstep]⟩
  · have hi' : i = m.length := by omega
    subst hi'
    rw [List.take_length] at l3
    simp (disch := first | assumption | omega) only [go_sem, Nat.reduceAdd, Int.reduceEq, Int.reduceLT, Int.reduceLE, Int.reduceNe, Int.reduceAdd, Int.reduceSub, Int.reduceMul, Int.reduceToNat, Nat.reduceMul, Nat.reduceLT, Nat.reduceLeDiff, Nat.reduceEqDiff, ↓reduceIte, reduceCtorEq, Nat.reduceSub, Nat.reduceDiv, ti3, ti32, l0, l3, l4, intV, intL_len, intL_get]
def iIdx : List AVal → Option AVal := con2 eInts (eInt .i64) fun m k => .int .i64 (idx m k)
theorem iIdx_eq {m : List Int} {k : Int} (h : m.length < 1000000000) : iIdx [intV m, .int .i64 k] = some (.int .i64 (idx m k)) := con2_eq (E := eInts) (F := eInt .i64) ⟨h, fun _ _ => trivial⟩ trivial
theorem w35 (m : List Int) (n : Int) (hm : m.length < 1000000000) : PCall Try.prog 35 [intV m, .int .i64 n] (intV (leastN m (if n < 256 then n.toNat else 256))) := by
  have hN : (if n < 256 then n.toNat else 256) ≤ 256 := by split <;> omega
  have hmin : ∀ i : Nat, ((i : Int) < (if 256 < n then 256 else n)) ↔ i < (if n < 256 then n.toNat else 256) := fun i => by split <;> split <;> omega
  generalize hNN : (if n < 256 then n.toNat else 256) = N at *
  refine PCall.of_w (fn := Try.f35) (Γ := gam [(45, .pure iIdx)]) (mu := false) (Sound.pure (con2_call fun m k h _ => w45 m k h.1) Sound.nil) mixed Try.func35 rfl (by kernel_rfl) (by simp) (by kernel_rfl) ?_
  simp (disch := omega) only [go_sem, Nat.reduceAdd, Int.reduceEq, Int.reduceLT, Int.reduceLE, Int.reduceNe, Int.reduceAdd, Int.reduceSub, Int.reduceMul, Int.reduceToNat, Nat.reduceMul, Nat.reduceLT, Nat.reduceLeDiff, Nat.reduceEqDiff, ↓reduceIte, reduceCtorEq, Nat.reduceSub, Nat.reduceDiv, Try.f35, ti3, ti32]
  refine w_loop0 (fun x : Ls => N - x.i) (fun x => x.i ≤ N ∧ okR x.T x.r (leastN m x.i).length 1 = true) (fun x => ⟨[], x.T⟩)
    (fun x => [(0, intV m), (4, .sl x.r (leastN m x.i).length (intL (leastN m x.i))), (7, .int .i64 (if 256 < n then 256 else n)), (8, .int .i64 (x.i : Nat))]) ⟨0, .full, []⟩ (by simp [okR]) rfl (by simp [HasE, lk, leastN, intL]) ?_
  rintro ⟨i, r, T⟩ ⟨hi, hr⟩ E ⟨l0, l4, l7, l8, -⟩
  simp only at hi hr l0 l4 l7 l8
  have hl := leastN_len m i
  by_cases h : i < N
  · have h2 := (hmin i).2 h
    simp (disch := first | assumption | omega | (simp only [intL_len]; done) | (simp only [intL_len]; assumption)) only [go_sem, Nat.reduceAdd, Int.reduceEq, Int.reduceLT, Int.reduceLE, Int.reduceNe, Int.reduceAdd, Int.reduceSub, Int.reduceMul, Int.reduceToNat, Nat.reduceMul, Nat.reduceLT, Nat.reduceLeDiff, Nat.reduceEqDiff, ↓reduceIte, reduceCtorEq, Nat.reduceSub, Nat.reduceDiv, ti3, ti32, l0, l4, l7, l8, iIdx_eq, intV_strip, buildOne, app32]
    exact ⟨⟨i + 1, nxR T r, nxT T r ((leastN m i).length + 1) 1⟩, dn h, ⟨h, by simpa [leastN] using okR_nx hr⟩, rfl, by simp [HasE, lk, leastN, l0, l7, intL]⟩
  · have h4 : i = N := by omega
    have h2 : ¬ ((i : Int) < (if 256 < n then 256 else n)) := fun hh => h ((hmin i).1 hh)
    subst h4
    simp (disch := first | assumption | omega) only [go_sem, Nat.reduceAdd, Int.reduceEq, Int.reduceLT, Int.reduceLE, Int.reduceNe, Int.reduceAdd, Int.reduceSub, Int.reduceMul, Int.reduceToNat, Nat.reduceMul, Nat.reduceLT, Nat.reduceLeDiff, Nat.reduceEqDiff, ↓reduceIte, reduceCtorEq, Nat.reduceSub, Nat.reduceDiv, ti3, ti32, l0, l4, l7, l8, intL_strip, intV_def]
theorem intV_inj {a b : List Int} (h : intV a = intV b) : a = b := by
  have := congrArg (fun v => match v with | AVal.sl _ _ cs => cs.map fun v => (match v with | AVal.int _ n => n | _ => 0) | _ => []) h
  simpa [intV, intL, Function.comp_def] using this
noncomputable def iMax : List AVal → Option AVal := pimp fun xs r => ∃ (m : List Int), (m ≠ [] ∧ m.length < 1000000000) ∧ xs = [intV m] ∧ r = .int .i64 (mx m)
theorem iMax_eq {m : List Int} (h : m ≠ [] ∧ m.length < 1000000000) : iMax [intV m] = some (.int .i64 (mx m)) := pimp_eq ⟨m, h, rfl, rfl⟩ (by rintro _ ⟨m', h', e, rfl⟩; simp only [List.cons.injEq, and_true] at e; rw [intV_inj e])
theorem iMax_call : ∀ xs v, iMax xs = some v → PCall Try.prog 47 xs v := fun xs v h0 => by obtain ⟨m, h, rfl, rfl⟩ := pimp_spec h0; exact w47 m h.1 h.2
noncomputable def iLst : List AVal → Option AVal := pimp fun xs r => ∃ (m : List Int) (n : Int), (m.length < 1000000000) ∧ xs = [intV m, .int .i64 n] ∧ r = intV (leastN m (if n < 256 then n.toNat else 256))
theorem iLst_eq {m : List Int} {n : Int} (h : m.length < 1000000000) : iLst [intV m, .int .i64 n] = some (intV (leastN m (if n < 256 then n.toNat else 256))) := pimp_eq ⟨m, n, h, rfl, rfl⟩ (by rintro _ ⟨m', n', h', e, rfl⟩; simp only [List.cons.injEq, AVal.int.injEq, and_true, true_and] at e; obtain ⟨e1, rfl⟩ := e; rw [intV_inj e1])
theorem iLst_call : ∀ xs v, iLst xs = some v → PCall Try.prog 35 xs v := fun xs v h0 => by obtain ⟨m, n, h, rfl, rfl⟩ := pimp_spec h0; exact w35 m n h
end Go.Hk.A

