/- Layer 1: the document's functions on sets, and the ones with loops. -/
import Derived.Test.YtpncchabnolnkaaHkA1
set_option linter.unusedSimpArgs false
set_option linter.unusedVariables false
namespace Go.Hk.A
open Go.Proofs

theorem w21 (A B : Nat) (hA : A < 2 ^ 256) (hB : B < 2 ^ 256) : PCall Try.prog 21 [setV A, setV B] (setV (mk (fun i => A.testBit i && B.testBit i) 256)) := by
  refine PCall.of_w (fn := Try.f21) (Γ := gR) (mu := false) sR mixed Try.func21 rfl (by kernel_rfl) (by simp) (by kernel_rfl) ?_
  simp (disch := omega) only [go_sem, Nat.reduceAdd, Int.reduceEq, Int.reduceLT, Int.reduceLE, Int.reduceNe, Int.reduceAdd, Int.reduceSub, Int.reduceMul, Int.reduceToNat, Nat.reduceMul, Nat.reduceLT, Nat.reduceLeDiff, Nat.reduceEqDiff, ↓reduceIte, reduceCtorEq, Nat.reduceSub, Nat.reduceDiv, Try.f21, ti22, ti24]
  refine w_loop0 (fun i : Nat => 256 - i) (fun i => i ≤ 256) (fun i => ⟨[.cells 0 (setL A), .cells 0 (setL B), .cells 0 (setL 0), .cells 0 (setL (mk (fun i => A.testBit i && B.testBit i) i))], []⟩)
    (fun i => [(2, .ptr 0 0 0), (3, .ptr 1 0 0), (4, .ptr 2 0 0), (5, .ptr 3 0 0), (6, .int .i64 (i : Nat))]) 0 (by omega) rfl (by simp [HasE, lk]) ?_
  rintro i hi E ⟨l2, l3, l4, l5, l6, -⟩
  by_cases h : i < 256
  · have hR := mk_lt256 (fun i => A.testBit i && B.testBit i) i hi
    cases h1 : A.testBit i <;> cases h2 : B.testBit i <;>
    · simp (disch := first | assumption | omega) only [go_sem, Nat.reduceAdd, Int.reduceEq, Int.reduceLT, Int.reduceLE, Int.reduceNe, Int.reduceAdd, Int.reduceSub, Int.reduceMul, Int.reduceToNat, Nat.reduceMul, Nat.reduceLT, Nat.reduceLeDiff, Nat.reduceEqDiff, ↓reduceIte, reduceCtorEq, Nat.reduceSub, Nat.reduceDiv, ti22, ti24, l2, l3, l4, l5, l6, gR, iHas_eq, has_nat, iAdd_eq, h1, h2]
      exact ⟨i + 1, dn h, h, by simp [mk_step, h1, h2], by simp [HasE, lk, l2, l3, l4, l5]⟩
  · have h4 : i = 256 := by omega
    subst h4
    simp (disch := first | assumption | omega) only [go_sem, Nat.reduceAdd, Int.reduceEq, Int.reduceLT, Int.reduceLE, Int.reduceNe, Int.reduceAdd, Int.reduceSub, Int.reduceMul, Int.reduceToNat, Nat.reduceMul, Nat.reduceLT, Nat.reduceLeDiff, Nat.reduceEqDiff, ↓reduceIte, reduceCtorEq, Nat.reduceSub, Nat.reduceDiv, ti22, ti24, l2, l3, l4, l5, l6]
theorem w23 (A : Nat) (hA : A < 2 ^ 256) : PCall Try.prog 23 [setV A] (setV (notN A)) := by
  refine PCall.of_w (fn := Try.f23) (Γ := gR) (mu := false) sR mixed Try.func23 rfl (by kernel_rfl) (by simp) (by kernel_rfl) ?_
  simp (disch := omega) only [go_sem, Nat.reduceAdd, Int.reduceEq, Int.reduceLT, Int.reduceLE, Int.reduceNe, Int.reduceAdd, Int.reduceSub, Int.reduceMul, Int.reduceToNat, Nat.reduceMul, Nat.reduceLT, Nat.reduceLeDiff, Nat.reduceEqDiff, ↓reduceIte, reduceCtorEq, Nat.reduceSub, Nat.reduceDiv, Try.f23, ti22, ti24]
  refine w_loop0 (fun i : Nat => 256 - i) (fun i => i ≤ 256) (fun i => ⟨[.cells 0 (setL A), .cells 0 (setL 0), .cells 0 (setL (mk (fun i => !A.testBit i) i))], []⟩)
    (fun i => [(1, .ptr 0 0 0), (2, .ptr 1 0 0), (3, .ptr 2 0 0), (4, .int .i64 (i : Nat))]) 0 (by omega) rfl (by simp [HasE, lk]) ?_
  rintro i hi E ⟨l1, l2, l3, l4, -⟩
  by_cases h : i < 256
  · have hR := mk_lt256 (fun i => !A.testBit i) i hi
    cases h1 : A.testBit i <;>
    · simp (disch := first | assumption | omega) only [go_sem, Nat.reduceAdd, Int.reduceEq, Int.reduceLT, Int.reduceLE, Int.reduceNe, Int.reduceAdd, Int.reduceSub, Int.reduceMul, Int.reduceToNat, Nat.reduceMul, Nat.reduceLT, Nat.reduceLeDiff, Nat.reduceEqDiff, ↓reduceIte, reduceCtorEq, Nat.reduceSub, Nat.reduceDiv, ti22, ti24, l1, l2, l3, l4, gR, iHas_eq, has_nat, iAdd_eq, h1]
      exact ⟨i + 1, dn h, h, by simp [mk_step, h1], by simp [HasE, lk, l1, l2, l3]⟩
  · have h4 : i = 256 := by omega
    subst h4
    simp (disch := first | assumption | omega) only [go_sem, Nat.reduceAdd, Int.reduceEq, Int.reduceLT, Int.reduceLE, Int.reduceNe, Int.reduceAdd, Int.reduceSub, Int.reduceMul, Int.reduceToNat, Nat.reduceMul, Nat.reduceLT, Nat.reduceLeDiff, Nat.reduceEqDiff, ↓reduceIte, reduceCtorEq, Nat.reduceSub, Nat.reduceDiv, ti22, ti24, l1, l2, l3, l4, notN]
theorem w25 (A : Nat) (hA : A < 2 ^ 256) : PCall Try.prog 25 [setV A] (setV (foldN A)) := by
  rw [← facc_all hA]
  refine PCall.of_w (fn := Try.f25) (Γ := gR) (mu := false) sR mixed Try.func25 rfl (by kernel_rfl) (by simp) (by kernel_rfl) ?_
  simp (disch := omega) only [go_sem, Nat.reduceAdd, Int.reduceEq, Int.reduceLT, Int.reduceLE, Int.reduceNe, Int.reduceAdd, Int.reduceSub, Int.reduceMul, Int.reduceToNat, Nat.reduceMul, Nat.reduceLT, Nat.reduceLeDiff, Nat.reduceEqDiff, ↓reduceIte, reduceCtorEq, Nat.reduceSub, Nat.reduceDiv, Try.f25, ti22, ti24]
  refine w_loop0 (fun i : Nat => 256 - i) (fun i => i ≤ 256) (fun i => ⟨[.cells 0 (setL A), .cells 0 (setL 0), .cells 0 (setL (facc A i))], []⟩)
    (fun i => [(1, .ptr 0 0 0), (2, .ptr 1 0 0), (3, .ptr 2 0 0), (4, .int .i64 (i : Nat))]) 0 (by omega) rfl (by simp [HasE, lk]) ?_
  rintro i hi E ⟨l1, l2, l3, l4, -⟩
  by_cases h : i < 256
  · have hR := facc_lt hA i hi
    have ho := oth_lt h
    cases h1 : A.testBit i <;>
    · simp (disch := first | assumption | omega) only [go_sem, Nat.reduceAdd, Int.reduceEq, Int.reduceLT, Int.reduceLE, Int.reduceNe, Int.reduceAdd, Int.reduceSub, Int.reduceMul, Int.reduceToNat, Nat.reduceMul, Nat.reduceLT, Nat.reduceLeDiff, Nat.reduceEqDiff, ↓reduceIte, reduceCtorEq, Nat.reduceSub, Nat.reduceDiv, ti22, ti24, l1, l2, l3, l4, gR, iHas_eq, has_nat, iAdd_eq, iOther_eq, h1]
      exact ⟨i + 1, dn h, h, by simp [facc, h1], by simp [HasE, lk, l1, l2, l3]⟩
  · have h4 : i = 256 := by omega
    subst h4
    simp (disch := first | assumption | omega) only [go_sem, Nat.reduceAdd, Int.reduceEq, Int.reduceLT, Int.reduceLE, Int.reduceNe, Int.reduceAdd, Int.reduceSub, Int.reduceMul, Int.reduceToNat, Nat.reduceMul, Nat.reduceLT, Nat.reduceLeDiff, Nat.reduceEqDiff, ↓reduceIte, reduceCtorEq, Nat.reduceSub, Nat.reduceDiv, ti22, ti24, l1, l2, l3, l4]

/-! from one byte to another -/
def inOf (lo hi : Int) (i : Nat) : Bool := decide (lo ≤ (i : Int)) && decide ((i : Int) ≤ hi)
def ofN (lo hi : Int) : Nat := mk (inOf lo hi) 256
theorem ofN_lt (lo hi : Int) : ofN lo hi < 2 ^ 256 := mk_lt _ _
theorem w17 (lo hi : Int) : PCall Try.prog 17 [.int .i64 lo, .int .i64 hi] (setV (ofN lo hi)) := by
  refine PCall.of_w (fn := Try.f17) (Γ := gR) (mu := false) sR mixed Try.func17 rfl (by kernel_rfl) (by simp) (by kernel_rfl) ?_
  simp (disch := omega) only [go_sem, Nat.reduceAdd, Int.reduceEq, Int.reduceLT, Int.reduceLE, Int.reduceNe, Int.reduceAdd, Int.reduceSub, Int.reduceMul, Int.reduceToNat, Nat.reduceMul, Nat.reduceLT, Nat.reduceLeDiff, Nat.reduceEqDiff, ↓reduceIte, reduceCtorEq, Nat.reduceSub, Nat.reduceDiv, Try.f17, ti22, ti24]
  refine w_loop0 (fun i : Nat => 256 - i) (fun i => i ≤ 256) (fun i => ⟨[.cells 0 (setL 0), .cells 0 (setL (mk (inOf lo hi) i))], []⟩)
    (fun i => [(0, .int .i64 lo), (1, .int .i64 hi), (4, .ptr 0 0 0), (5, .ptr 1 0 0), (6, .int .i64 (i : Nat))]) 0 (by omega) rfl (by simp [HasE, lk]) ?_
  rintro i hi' E ⟨l0, l1, l4, l5, l6, -⟩
  by_cases h : i < 256
  · have hR := mk_lt256 (inOf lo hi) i hi'
    by_cases h1 : lo ≤ (i : Int)
    · by_cases h2 : (i : Int) ≤ hi
      · simp (disch := first | assumption | omega) only [go_sem, Nat.reduceAdd, Int.reduceEq, Int.reduceLT, Int.reduceLE, Int.reduceNe, Int.reduceAdd, Int.reduceSub, Int.reduceMul, Int.reduceToNat, Nat.reduceMul, Nat.reduceLT, Nat.reduceLeDiff, Nat.reduceEqDiff, ↓reduceIte, reduceCtorEq, Nat.reduceSub, Nat.reduceDiv, ti22, ti24, l0, l1, l4, l5, l6, gR, iAdd_eq]
        exact ⟨i + 1, dn h, h, by simp [mk_step, inOf, h1, h2], by simp [HasE, lk, l0, l1, l4, l5]⟩
      · simp (disch := first | assumption | omega) only [go_sem, Nat.reduceAdd, Int.reduceEq, Int.reduceLT, Int.reduceLE, Int.reduceNe, Int.reduceAdd, Int.reduceSub, Int.reduceMul, Int.reduceToNat, Nat.reduceMul, Nat.reduceLT, Nat.reduceLeDiff, Nat.reduceEqDiff, ↓reduceIte, reduceCtorEq, Nat.reduceSub, Nat.reduceDiv, ti22, ti24, l0, l1, l4, l5, l6, gR, iAdd_eq]
        exact ⟨i + 1, dn h, h, by simp [mk_step, inOf, h1, h2], by simp [HasE, lk, l0, l1, l4, l5]⟩
    · simp (disch := first | assumption | omega) only [go_sem, Nat.reduceAdd, Int.reduceEq, Int.reduceLT, Int.reduceLE, Int.reduceNe, Int.reduceAdd, Int.reduceSub, Int.reduceMul, Int.reduceToNat, Nat.reduceMul, Nat.reduceLT, Nat.reduceLeDiff, Nat.reduceEqDiff, ↓reduceIte, reduceCtorEq, Nat.reduceSub, Nat.reduceDiv, ti22, ti24, l0, l1, l4, l5, l6, gR, iAdd_eq]
      exact ⟨i + 1, dn h, h, by simp [mk_step, inOf, h1], by simp [HasE, lk, l0, l1, l4, l5]⟩
  · have h4 : i = 256 := by omega
    subst h4
    simp (disch := first | assumption | omega) only [go_sem, Nat.reduceAdd, Int.reduceEq, Int.reduceLT, Int.reduceLE, Int.reduceNe, Int.reduceAdd, Int.reduceSub, Int.reduceMul, Int.reduceToNat, Nat.reduceMul, Nat.reduceLT, Nat.reduceLeDiff, Nat.reduceEqDiff, ↓reduceIte, reduceCtorEq, Nat.reduceSub, Nat.reduceDiv, ti22, ti24, l0, l1, l4, l5, l6, ofN]
theorem of_part {lo hi : Int} {b : Nat} (h : (hi < b ∨ 256 ≤ b)) : mk (inOf lo hi) b = ofN lo hi ∨ (256 < b ∧ (lo : Int) < b) := by
  by_cases hb : b ≤ 256
  · left
    refine set_ext (mk_lt256 _ _ hb) (ofN_lt lo hi) fun i hi' => ?_
    rw [ofN, mk_bit, mk_bit]
    by_cases hib : i < b
    · simp [hib, hi']
    · have : inOf lo hi i = false := by simp only [inOf, Bool.and_eq_false_iff, decide_eq_false_iff_not]; omega
      simp [this]
  · by_cases hl : lo < b
    · right; omega
    · left
      rw [ofN, mk_none, mk_none]
      · intro i hi'; simp only [inOf, Bool.and_eq_false_iff, decide_eq_false_iff_not]; omega
      · intro i hi'; simp only [inOf, Bool.and_eq_false_iff, decide_eq_false_iff_not]; omega
theorem w16 (lo hi : Int) : PCall Try.prog 16 [.int .i64 lo, .int .i64 hi] (setV (ofN lo hi)) := by
  obtain ⟨b0, hb0⟩ : ∃ b0 : Nat, (b0 : Int) = if lo < 0 then 0 else lo := by
    by_cases h : lo < 0
    · exact ⟨0, by simp [h]⟩
    · exact ⟨lo.toNat, by simp [h]; omega⟩
  have hz : mk (inOf lo hi) b0 = 0 := mk_none fun i hi' => by
    simp only [inOf, Bool.and_eq_false_iff, decide_eq_false_iff_not]
    split at hb0 <;> omega
  refine PCall.of_w (fn := Try.f16) (Γ := gam []) (mu := false) Sound.nil mixed Try.func16 rfl (by kernel_rfl) (by simp) (by kernel_rfl) ?_
  simp (disch := omega) only [go_sem, Nat.reduceAdd, Int.reduceEq, Int.reduceLT, Int.reduceLE, Int.reduceNe, Int.reduceAdd, Int.reduceSub, Int.reduceMul, Int.reduceToNat, Nat.reduceMul, Nat.reduceLT, Nat.reduceLeDiff, Nat.reduceEqDiff, ↓reduceIte, reduceCtorEq, Nat.reduceSub, Nat.reduceDiv, Try.f16, ti22, ti24]
  refine w_loop0 (fun i : Nat => 256 - i) (fun i => b0 ≤ i ∧ (i ≤ 256 ∨ i = b0)) (fun i => ⟨[.cells 0 (setL (mk (inOf lo hi) i))], []⟩)
    (fun i => [(1, .int .i64 hi), (4, .ptr 0 0 0), (5, .int .i64 (i : Nat))]) b0 ⟨by omega, by omega⟩ (by rw [hz]) (by simp [HasE, lk]; omega) ?_
  rintro i ⟨hbi, hi'⟩ E ⟨l1, l4, l5, -⟩
  have hlo : lo ≤ i ∨ lo ≤ i := by left; split at hb0 <;> omega
  by_cases h : (i : Int) ≤ hi ∧ i < 256
  · obtain ⟨h1, h2⟩ := h
    have h3 : inOf lo hi i = true := by
      have hi0 : b0 ≤ i ∨ ¬ b0 ≤ i := by omega
      simp only [inOf, Bool.and_eq_true, decide_eq_true_eq]
      refine ⟨?_, h1⟩
      rcases hlo with hlo | hlo <;> omega
    by_cases h4 : (255 : Int) < hi <;>
    · simp (disch := first | assumption | omega) only [go_sem, Nat.reduceAdd, Int.reduceEq, Int.reduceLT, Int.reduceLE, Int.reduceNe, Int.reduceAdd, Int.reduceSub, Int.reduceMul, Int.reduceToNat, Nat.reduceMul, Nat.reduceLT, Nat.reduceLeDiff, Nat.reduceEqDiff, ↓reduceIte, reduceCtorEq, Nat.reduceSub, Nat.reduceDiv, ti22, ti24, l1, l4, l5, n_or]
      exact ⟨i + 1, dn h2, ⟨by omega, by omega⟩, by simp [mk_step, h3], by simp [HasE, lk, l1, l4]⟩
  · have he : mk (inOf lo hi) i = ofN lo hi := by
      rcases of_part (lo := lo) (hi := hi) (b := i) (by omega) with h5 | h5
      · exact h5
      · exfalso; split at hb0 <;> omega
    rw [← he]
    by_cases h4 : (255 : Int) < hi <;>
    simp (disch := first | assumption | omega) only [go_sem, Nat.reduceAdd, Int.reduceEq, Int.reduceLT, Int.reduceLE, Int.reduceNe, Int.reduceAdd, Int.reduceSub, Int.reduceMul, Int.reduceToNat, Nat.reduceMul, Nat.reduceLT, Nat.reduceLeDiff, Nat.reduceEqDiff, ↓reduceIte, reduceCtorEq, Nat.reduceSub, Nat.reduceDiv, ti22, ti24, l1, l4, l5]
theorem w24 (A : Nat) (hA : A < 2 ^ 256) : PCall Try.prog 24 [setV A] (setV (foldN A)) := by
  refine PCall.of_w (fn := Try.f24) (Γ := gam []) (mu := false) Sound.nil mixed Try.func24 rfl (by kernel_rfl) (by simp) (by kernel_rfl) ?_
  simp (disch := omega) only [go_sem, Nat.reduceAdd, Int.reduceEq, Int.reduceLT, Int.reduceLE, Int.reduceNe, Int.reduceAdd, Int.reduceSub, Int.reduceMul, Int.reduceToNat, Nat.reduceMul, Nat.reduceLT, Nat.reduceLeDiff, Nat.reduceEqDiff, ↓reduceIte, reduceCtorEq, Nat.reduceSub, Nat.reduceDiv, Try.f24, ti22, ti24, fold_set]
end Go.Hk.A
