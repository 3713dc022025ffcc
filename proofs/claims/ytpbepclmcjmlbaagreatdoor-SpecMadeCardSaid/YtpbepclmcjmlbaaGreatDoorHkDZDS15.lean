/- Layer 6: what is made is answered alike. -/
import Derived.Test.YtpbepclmcjmlbaaGreatDoorHkDZDS13
set_option linter.unusedSimpArgs false
set_option linter.unusedVariables false
set_option maxRecDepth 20000
set_option maxHeartbeats 4000000
namespace Go.Hk.DZD
open Go.Proofs

theorem w_SpecMade (L M : List UInt8) (x y : Nat) (hL : L.length < 9223372036854775808) (hM : M.length < 9223372036854775808) (hx : x < 256) (hy : y < 256) : PCall Tryz.prog 3 [slc cU L, slc cU M, .int .u8 (x : Nat), .int .u8 (y : Nat)] (.bool true) := by
  obtain ⟨a1, a2⟩ := madeS_good L false
  obtain ⟨b1, b2⟩ := madeS_good M false
  have h6 : ((x : Nat) : Int).tmod 6 = ((x % 6 : Nat) : Int) := by rw [Int.tmod_eq_emod_of_nonneg (by omega)]; rfl
  have h5 : ((y : Nat) : Int).tmod 5 = ((y % 5 : Nat) : Int) := by rw [Int.tmod_eq_emod_of_nonneg (by omega)]; rfl
  have hab : okSp (madeS L false) ∧ okSp (madeS M false) := ⟨a1, b1⟩
  have haa : okSp (madeS L false) ∧ okSp (madeS L false) := ⟨a1, a1⟩
  refine PCall.of_w (fn := Tryz.f3) (Γ := gam [(5, .pure iMade6), (6, .pure iAw6), (7, .pure iSame6), (8, .pure iR6)]) (mu := false) (Sound.pure iMade6_call (Sound.pure iAw6_call (Sound.pure iSame6_call (Sound.pure iR6_call Sound.nil)))) mixed Tryz.func3 rfl (by kernel_rfl) (by simp) (by kernel_rfl) ?_
  simp (disch := first | assumption | omega | exact okR_new | exact okR_one | exact trivial | (simp only [List.length_append, List.length_cons, List.length_nil]; omega) | (simp only [List.length_append, List.length_cons, List.length_nil, Nat.reduceAdd])) only [go_sem, e_go, e_cond_bool, e_w_bool, e_step_ite, e_reg_ite, e_regW_ite, e_code_ite, e_block_ite, e_evQ_ite, e_fin_ite, e_pair_ite, Tryz.f3, iMade6_eq, iAw6_eq, iSame6_eq, iR6_eq, h6, h5, a2]
end Go.Hk.DZD
