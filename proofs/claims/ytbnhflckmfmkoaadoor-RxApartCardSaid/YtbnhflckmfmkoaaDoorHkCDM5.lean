/- Layer 3: patterns of one text are the same. -/
import Derived.Test.YtbnhflckmfmkoaaDoorHkCDM4
import Derived.Test.YtbnhflckmfmkoaaDoorHkUr
set_option linter.unusedSimpArgs false
set_option linter.unusedVariables false
set_option maxRecDepth 20000
namespace Go.Hk.CD
open Go.Proofs

theorem apart {x y : Rx} (hx : okX x) (hy : okX y) (a : rightT x = true) (b : rightT y = true) : decide (text x = text y) = same x y := by
  have rx : inR x := by unfold rightT at a; simp only [Bool.and_eq_true] at a; exact ⟨20, a.1.1⟩
  have ry : inR y := by unfold rightT at b; simp only [Bool.and_eq_true] at b; exact ⟨20, b.1.1⟩
  rw [Bool.eq_iff_iff, decide_eq_true_eq, same_iff]
  exact ⟨text_inj ⟨hx, rx⟩ ⟨hy, ry⟩, fun h => by rw [h]⟩
theorem pr_right {x : Rx} (h : rightT x = true) : printV x = .tup (.str (text x)) [.int .i64 0] := by rw [printV, if_pos h]
theorem w_RxApart (L M : List UInt8) (hL : L.length < 9223372036854775808) (hM : M.length < 9223372036854775808) : PCall Tryd.prog 7 [slc cU L, slc cU M] (.bool true) := by
  obtain ⟨a1, a2, a3, a4⟩ := madeX_good L
  obtain ⟨b1, b2, b3, b4⟩ := madeX_good M
  have hok : okX (madeX L) ∧ okX (madeX M) := ⟨a1, b1⟩
  have hp := apart a1 b1 a2 b2
  have p1 := pr_right a2
  have p2 := pr_right b2
  cases hs : same (madeX L) (madeX M)
  · rw [hs] at hp
    refine PCall.of_w (fn := Tryd.f7) (Γ := gam [(8, .pure iAw), (11, .pure iMade), (14, .pure iPr), (15, .pure iSm)]) (mu := false) (Sound.pure iAw_call (Sound.pure iMade_call (Sound.pure iPr_call (Sound.pure iSm_call Sound.nil)))) mixed Tryd.func7 rfl (by kernel_rfl) (by simp) (by kernel_rfl) ?_
    simp (disch := first | assumption | omega | exact okR_new | exact okR_one | exact trivial | (simp only [List.length_append, List.length_cons, List.length_nil]; omega) | (simp only [List.length_append, List.length_cons, List.length_nil, Nat.reduceAdd])) only [go_sem, Bool.and_true, Bool.true_and, Nat.reduceAdd, Int.reduceEq, Int.reduceLT, Int.reduceLE, Int.reduceNe, Int.reduceAdd, Int.reduceSub, Int.reduceMul, Int.reduceToNat, Nat.reduceMul, Nat.reduceLT, Nat.reduceLeDiff, Nat.reduceEqDiff, ↓reduceIte, reduceCtorEq, Nat.reduceSub, Nat.reduceDiv, e_go, e_cond_bool, e_w_bool, e_step_ite, e_reg_ite, e_regW_ite, e_code_ite, e_block_ite, e_evQ_ite, e_fin_ite, e_pair_ite, Tryd.f7, ti3, ti4, ti5, ti9, ti22, ti24, ti25, ti27, ti31, ti38, iAw_eq, iMade_eq, iPr_eq, iSm_eq, e_bin_bool, p1, p2, hp, hs]
  · rw [hs] at hp
    refine PCall.of_w (fn := Tryd.f7) (Γ := gam [(8, .pure iAw), (11, .pure iMade), (14, .pure iPr), (15, .pure iSm)]) (mu := false) (Sound.pure iAw_call (Sound.pure iMade_call (Sound.pure iPr_call (Sound.pure iSm_call Sound.nil)))) mixed Tryd.func7 rfl (by kernel_rfl) (by simp) (by kernel_rfl) ?_
    simp (disch := first | assumption | omega | exact okR_new | exact okR_one | exact trivial | (simp only [List.length_append, List.length_cons, List.length_nil]; omega) | (simp only [List.length_append, List.length_cons, List.length_nil, Nat.reduceAdd])) only [go_sem, Bool.and_true, Bool.true_and, Nat.reduceAdd, Int.reduceEq, Int.reduceLT, Int.reduceLE, Int.reduceNe, Int.reduceAdd, Int.reduceSub, Int.reduceMul, Int.reduceToNat, Nat.reduceMul, Nat.reduceLT, Nat.reduceLeDiff, Nat.reduceEqDiff, ↓reduceIte, reduceCtorEq, Nat.reduceSub, Nat.reduceDiv, e_go, e_cond_bool, e_w_bool, e_step_ite, e_reg_ite, e_regW_ite, e_code_ite, e_block_ite, e_evQ_ite, e_fin_ite, e_pair_ite, Tryd.f7, ti3, ti4, ti5, ti9, ti22, ti24, ti25, ti27, ti31, ti38, iAw_eq, iMade_eq, iPr_eq, iSm_eq, e_bin_bool, p1, p2, hp, hs]
end Go.Hk.CD
