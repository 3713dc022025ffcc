/- Layer 2: lists of sets; are two bytes in the same ones? -/
import Derived.Test.YtpncchabnolnkaaHkA11
set_option linter.unusedSimpArgs false
set_option linter.unusedVariables false
namespace Go.Hk.A
open Go.Proofs
theorem ti41 : tiOf Try.prog 41 = some { size := 1, bytes := 24, zero := some (.sl .full 0 []), k := .slice 24 } := by kernel_rfl
abbrev setsL (l : List Nat) : List AVal := fl setL l
abbrev setsV (l : List Nat) : AVal := slc setL l
theorem setsL_len (l : List Nat) : (setsL l).length = 4 * l.length := by rw [fl_len (k := 4) setL_len, Nat.mul_comm]
theorem setsL_strip (l : List Nat) : stripL (setsL l) = some (setsL l) := fl_strip setL_strip l
theorem setsL_get (l : List Nat) (i : Nat) (h : i < l.length) : List.take 4 (List.drop (i * 4) (setsL l)) = setL (l[i]?.getD 0) := fl_at setL_len (by simp [h])
def sameB (l : List Nat) (a b : Int) : Bool := l.all fun A => has A a == has A b
theorem w48 (l : List Nat) (a b : Int) (hl : l.length < 1000000000) (hA : ∀ A ∈ l, A < 2 ^ 256) : PCall Try.prog 48 [setsV l, .int .i64 a, .int .i64 b] (.bool (sameB l a b)) := by
  refine PCall.of_w (fn := Try.f48) (Γ := gam [(15, .pure iHas)]) (mu := false) (Sound.pure (con2_call fun A n _ _ => w15 A n) Sound.nil) mixed Try.func48 rfl (by kernel_rfl) (by simp) (by kernel_rfl) ?_
  simp (disch := omega) only [go_sem, Nat.reduceAdd, Int.reduceEq, Int.reduceLT, Int.reduceLE, Int.reduceNe, Int.reduceAdd, Int.reduceSub, Int.reduceMul, Int.reduceToNat, Nat.reduceMul, Nat.reduceLT, Nat.reduceLeDiff, Nat.reduceEqDiff, ↓reduceIte, reduceCtorEq, Nat.reduceSub, Nat.reduceDiv, Try.f48, ti3, ti41]
  refine w_loop0 (fun i : Nat => l.length - i) (fun i => i ≤ l.length ∧ sameB (l.take i) a b = true) (fun i => ⟨[], []⟩)
    (fun i => [(0, setsV l), (1, .int .i64 a), (2, .int .i64 b), (7, .int .i64 (i : Nat))]) 0 (by simp [sameB]) rfl (by simp [HasE, lk]) ?_
  rintro i ⟨hi, hp⟩ E ⟨l0, l1, l2, l7, -⟩
  have hsl := fl_len setL_len l
  by_cases h : i < l.length
  · have hg : l[i]?.getD 0 = l[i] := by simp [h]
    have hB := hA l[i] (List.getElem_mem h)
    have hn : sameB (l.take (i + 1)) a b = (sameB (l.take i) a b && (has l[i] a == has l[i] b)) := by
      rw [List.take_succ_eq_append_getElem h]; simp only [sameB, List.all_append, List.all_cons, List.all_nil, Bool.and_true]
    have hneq : ∀ x y : Bool, abin Try.prog .neq 4 (.bool x) (.bool y) = some (.bool (!(x == y))) := fun x y => by
      rw [e_bin_bool]; unfold aeq; simp only [ti4, aEqOp]; rfl
    cases hx : has l[i] a <;> cases hy : has l[i] b <;>
    simp (disch := first | assumption | omega) only [go_sem, Nat.reduceAdd, Int.reduceEq, Int.reduceLT, Int.reduceLE, Int.reduceNe, Int.reduceAdd, Int.reduceSub, Int.reduceMul, Int.reduceToNat, Nat.reduceMul, Nat.reduceLT, Nat.reduceLeDiff, Nat.reduceEqDiff, ↓reduceIte, reduceCtorEq, Nat.reduceSub, Nat.reduceDiv, ti3, ti4, ti22, ti24, ti41, l0, l1, l2, l7, setsV, setsL_get, hg, n_agg, iHas_eq, hneq, hx, hy, setL_take]
    · exact ⟨i + 1, dn h, ⟨h, by rw [hn, hp, hx, hy]; rfl⟩, rfl, by simp [HasE, lk, l0, l1, l2, setsV]⟩
    · have : sameB l a b = false := by
        simp only [sameB, List.all_eq_false]
        exact ⟨l[i], List.getElem_mem h, by simp [hx, hy]⟩
      rw [this]
    · have : sameB l a b = false := by
        simp only [sameB, List.all_eq_false]
        exact ⟨l[i], List.getElem_mem h, by simp [hx, hy]⟩
      rw [this]
    · exact ⟨i + 1, dn h, ⟨h, by rw [hn, hp, hx, hy]; rfl⟩, rfl, by simp [HasE, lk, l0, l1, l2, setsV]⟩
  · have hi' : i = l.length := by omega
    subst hi'
    rw [List.take_length] at hp
    rw [hp]
    simp (disch := first | assumption | omega) only [go_sem, Nat.reduceAdd, Int.reduceEq, Int.reduceLT, Int.reduceLE, Int.reduceNe, Int.reduceAdd, Int.reduceSub, Int.reduceMul, Int.reduceToNat, Nat.reduceMul, Nat.reduceLT, Nat.reduceLeDiff, Nat.reduceEqDiff, ↓reduceIte, reduceCtorEq, Nat.reduceSub, Nat.reduceDiv, ti3, ti4, ti41, l0, l1, l2, l7, setsV]
end Go.Hk.A
