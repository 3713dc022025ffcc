/- Layer 2: the document's least bytes. -/
import Derived.Test.YtpncchabnolnkaaHkA10
set_option linter.unusedSimpArgs false
set_option linter.unusedVariables false
namespace Go.Hk.A
open Go.Proofs

/-- Where a number stands first from a place on. -/
def idxF (m : List Int) (k : Int) (j : Nat) : Int := if idx (m.drop j) k < 0 then -1 else idx (m.drop j) k + j
theorem idxF_len (m : List Int) (k : Int) : idxF m k m.length = -1 := by simp [idxF, idx]
theorem idxF_zero (m : List Int) (k : Int) : idxF m k 0 = idx m k := by
  have := (idx_bound k m).1
  simp only [idxF, List.drop_zero]
  split <;> omega
theorem idxF_step {m : List Int} {k : Int} {j : Nat} (h : j < m.length) : idxF m k j = if m[j]?.getD 0 = k then (j : Int) else idxF m k (j + 1) := by
  have hd : m.drop j = m[j] :: m.drop (j + 1) := List.drop_eq_getElem_cons h
  have hg : m[j]?.getD 0 = m[j] := by simp [h]
  rw [hg]
  simp only [idxF, hd, idx]
  by_cases e : m[j] = k
  · simp [e]
  · have e2 : ¬ k = m[j] := fun h => e h.symm
    simp only [e, e2, if_false]
    split <;> split <;> omega
theorem w36 (m : List Int) (n : Int) (hm : m.length < 1000000000) : PCall Try.prog 36 [intV m, .int .i64 n] (intV (leastN m (if n < 256 then n.toNat else 256))) := by
  have hN : (if n < 256 then n.toNat else 256) ≤ 256 := by split <;> omega
  have hmin : ∀ i : Nat, ((i : Int) < n ∧ i < 256) ↔ i < (if n < 256 then n.toNat else 256) := fun i => by split <;> omega
  generalize hNN : (if n < 256 then n.toNat else 256) = N at *
  refine PCall.of_w (fn := Try.f36) (Γ := gam []) (mu := false) Sound.nil mixed Try.func36 rfl (by kernel_rfl) (by simp) (by kernel_rfl) ?_
  simp (disch := omega) only [go_sem, Nat.reduceAdd, Int.reduceEq, Int.reduceLT, Int.reduceLE, Int.reduceNe, Int.reduceAdd, Int.reduceSub, Int.reduceMul, Int.reduceToNat, Nat.reduceMul, Nat.reduceLT, Nat.reduceLeDiff, Nat.reduceEqDiff, ↓reduceIte, reduceCtorEq, Nat.reduceSub, Nat.reduceDiv, Try.f36, ti3, ti32]
  refine w_loop0 (fun x : Ls => N - x.i) (fun x => x.i ≤ N ∧ okR x.T x.r (leastN m x.i).length 1 = true) (fun x => ⟨[], x.T⟩)
    (fun x => [(0, intV m), (1, .int .i64 n), (5, .sl x.r (leastN m x.i).length (intL (leastN m x.i))), (6, .int .i64 (x.i : Nat))]) ⟨0, .full, []⟩ (by simp [okR]) rfl (by simp [HasE, lk, leastN, intL]) ?_
  rintro ⟨i, r, T⟩ ⟨hi, hr⟩ E ⟨l0, l1, l5, l6, -⟩
  simp only at hi hr l0 l1 l5 l6
  have hl := leastN_len m i
  by_cases h : i < N
  · obtain ⟨h2, h3⟩ := (hmin i).2 h
    simp (disch := first | assumption | omega) only [go_sem, Nat.reduceAdd, Int.reduceEq, Int.reduceLT, Int.reduceLE, Int.reduceNe, Int.reduceAdd, Int.reduceSub, Int.reduceMul, Int.reduceToNat, Nat.reduceMul, Nat.reduceLT, Nat.reduceLeDiff, Nat.reduceEqDiff, ↓reduceIte, reduceCtorEq, Nat.reduceSub, Nat.reduceDiv, ti3, ti32, l0, l1, l5, l6, intV, intL_len]
    refine w_loop0 (fun j : Nat => j) (fun j => j ≤ m.length) (fun _ => ⟨[], T⟩)
      (fun j => [(0, intV m), (1, .int .i64 n), (5, .sl r (leastN m i).length (intL (leastN m i))), (6, .int .i64 (i : Nat)), (7, .int .i64 (idxF m i j)), (8, .int .i64 ((j : Int) - 1))]) m.length (Nat.le_refl _) rfl (by simp [HasE, lk, l0, l1, l5, l6, intV, idxF_len]) ?_
    rintro j hj F ⟨k0, k1, k5, k6, k7, k8, -⟩
    cases j with
    | zero =>
      simp (disch := first | assumption | omega | (simp only [intL_len]; done) | (simp only [intL_len]; assumption)) only [go_sem, Nat.reduceAdd, Int.reduceEq, Int.reduceLT, Int.reduceLE, Int.reduceNe, Int.reduceAdd, Int.reduceSub, Int.reduceMul, Int.reduceToNat, Nat.reduceMul, Nat.reduceLT, Nat.reduceLeDiff, Nat.reduceEqDiff, ↓reduceIte, reduceCtorEq, Nat.reduceSub, Nat.reduceDiv, ti3, ti32, k0, k1, k5, k6, k7, k8, idxF_zero, buildOne, app32]
      exact ⟨⟨i + 1, nxR T r, nxT T r ((leastN m i).length + 1) 1⟩, dn h, ⟨h, by simpa [leastN] using okR_nx hr⟩, rfl, by simp [HasE, lk, leastN, k0, k1, intL, intV]⟩
    | succ j =>
      have e1 : (((j + 1 : Nat) : Int) - 1) = (j : Nat) := by omega
      rw [e1] at k8
      have hs := idxF_step (k := (i : Int)) (show j < m.length by omega)
      by_cases he : m[j]?.getD 0 = (i : Int)
      · rw [if_pos he] at hs
        simp (disch := first | assumption | omega) only [go_sem, Nat.reduceAdd, Int.reduceEq, Int.reduceLT, Int.reduceLE, Int.reduceNe, Int.reduceAdd, Int.reduceSub, Int.reduceMul, Int.reduceToNat, Nat.reduceMul, Nat.reduceLT, Nat.reduceLeDiff, Nat.reduceEqDiff, ↓reduceIte, reduceCtorEq, Nat.reduceSub, Nat.reduceDiv, ti3, ti32, k0, k1, k5, k6, k7, k8, intV, intL_len, intL_get, he]
        exact ⟨j, Nat.lt_succ_self j, by omega, rfl, by simp [HasE, lk, k0, k1, k5, k6, intV, hs]⟩
      · rw [if_neg he] at hs
        simp (disch := first | assumption | omega) only [go_sem, Nat.reduceAdd, Int.reduceEq, Int.reduceLT, Int.reduceLE, Int.reduceNe, Int.reduceAdd, Int.reduceSub, Int.reduceMul, Int.reduceToNat, Nat.reduceMul, Nat.reduceLT, Nat.reduceLeDiff, Nat.reduceEqDiff, ↓reduceIte, reduceCtorEq, Nat.reduceSub, Nat.reduceDiv, ti3, ti32, k0, k1, k5, k6, k7, k8, intV, intL_len, intL_get]
        exact ⟨j, Nat.lt_succ_self j, by omega, rfl, by simp [HasE, lk, k0, k1, k5, k6, k7, intV, hs]⟩
  · have h4 : i = N := by omega
    have h2 : ¬ ((i : Int) < n ∧ i < 256) := fun hh => h ((hmin i).1 hh)
    subst h4
    by_cases h5 : (i : Int) < n
    · have h6 : ¬ i < 256 := fun hh => h2 ⟨h5, hh⟩
      simp (disch := first | assumption | omega) only [go_sem, Nat.reduceAdd, Int.reduceEq, Int.reduceLT, Int.reduceLE, Int.reduceNe, Int.reduceAdd, Int.reduceSub, Int.reduceMul, Int.reduceToNat, Nat.reduceMul, Nat.reduceLT, Nat.reduceLeDiff, Nat.reduceEqDiff, ↓reduceIte, reduceCtorEq, Nat.reduceSub, Nat.reduceDiv, ti3, ti32, l0, l1, l5, l6, intL_strip, intV_def]
    · simp (disch := first | assumption | omega) only [go_sem, Nat.reduceAdd, Int.reduceEq, Int.reduceLT, Int.reduceLE, Int.reduceNe, Int.reduceAdd, Int.reduceSub, Int.reduceMul, Int.reduceToNat, Nat.reduceMul, Nat.reduceLT, Nat.reduceLeDiff, Nat.reduceEqDiff, ↓reduceIte, reduceCtorEq, Nat.reduceSub, Nat.reduceDiv, ti3, ti32, l0, l1, l5, l6, intL_strip, intV_def]
end Go.Hk.A
