/- Layer 5: what Ends tells rises, is in the text, and is matched. -/
import Derived.Test.YtbnhflckmfmkoaaHkCN9
import Derived.Test.YtbnhflckmfmkoaaHkMh
set_option linter.unusedSimpArgs false
set_option linter.unusedVariables false
set_option maxRecDepth 20000
namespace Go.Hk.C
open Go.Proofs

theorem w_MatchFirst (l t : List UInt8) (a : Nat) (hl : l.length < 9223372036854775808) (ht : t.length < 9223372036854775808) (ha : a < 256) : PCall Try.prog 6 [slc cU l, slc cU t, .int .u8 (a : Nat)] (.bool true) := by
  obtain ⟨h1, h2, h3, h4⟩ := madeX_good l
  have htl := textT_len t
  have hmade := iMade_eq (L := l) hl
  have htext := iText_eq (l := t) ht
  generalize madeX l = x at *
  generalize textT t = s at *
  have hmod : a % (s.length + 1) < s.length + 1 := Nat.mod_lt _ (by omega)
  have htm : ((a : Nat) : Int).tmod ((s.length : Int) + 1) = ((a % (s.length + 1) : Nat) : Int) := rfl
  generalize a % (s.length + 1) = K at *
  have hw2 : IntKind.i64.wrap (a : Int) = (a : Int) := IntWalk.i64_in _ (by omega)
  have hw3 : IntKind.i64.wrap ((s.length : Int) + 1) = (s.length : Int) + 1 := IntWalk.i64_in _ (by omega)
  have hE := iEnds_eq (x := x) (s := s) (i := (K : Int)) ⟨h1, by omega⟩
  rw [ends_right h2 (by omega) (by omega)] at hE
  obtain ⟨E, hEE⟩ : ∃ E, (cset (s.length + 1) (R s x K)).map (fun j : Nat => (j : Int)) = E := ⟨_, rfl⟩
  have hEl : E.length = cnt (R s x K) (s.length + 1) := by rw [← hEE, List.length_map]; rfl
  rw [hEE] at hE
  refine PCall.of_w (fn := Try.f6) (Γ := gam [(7, .pure iAw5), (9, .pure iMade), (10, .pure iText), (11, .pure iMat), (13, .pure iEnds)]) (mu := false) (Sound.pure iAw5_call (Sound.pure iMade_call (Sound.pure iText_call (Sound.pure iMat_call (Sound.pure iEnds_call Sound.nil))))) mixed Try.func6 rfl (by kernel_rfl) (by simp) (by kernel_rfl) ?_
  simp (disch := first | assumption | omega | exact okR_new | exact okR_one | exact trivial | (simp only [List.length_append, List.length_cons, List.length_nil]; omega) | (simp only [List.length_append, List.length_cons, List.length_nil, Nat.reduceAdd])) only [go_sem, e_go, e_cond_bool, e_w_bool, e_step_ite, e_reg_ite, e_regW_ite, e_code_ite, e_block_ite, e_evQ_ite, e_fin_ite, e_pair_ite, Try.f6, iAw5_eq, iMade_eq, iText_eq, iMat_eq, iEnds_eq, hmade, htext, hw2, hw3, htm, hE]
  refine w_loop [6] [12, 13] (fun n : Nat => s.length + 1 - n) (fun n => K ≤ n ∧ n ≤ s.length + 1) (fun n => ⟨[.cells 0 (cR x)], []⟩)
    (fun n => [(12, .int .i64 (cnt (R s x K) n : Nat)), (13, .int .i64 (n : Nat))]) K (fun _ => rfl) (by kernel_rfl) ⟨Nat.le_refl _, by omega⟩ rfl (by
      have : cnt (R s x K) K = 0 := cnt_none fun j hj h => by have := R_mono s x K j h; omega
      simp [HasE, lk, this]) ?_
  rintro n ⟨hn1, hn2⟩
  by_cases hn : n ≤ s.length
  · have hM := iMat_eq (x := x) (s := (s.drop K).take (n - K)) ⟨h1, by simp; omega⟩
    have hmc := match_cut (x := x) (s := s) h2 (by omega) hn1 hn
    have hi1 : (if 0 ≤ (n : Int) ∧ (n : Int) ≤ ((s.length : Nat) : Int) then some ((n : Int)).toNat else none) = some n := by rw [if_pos (by omega)]; congr 1
    have hi2 : (if 0 ≤ (K : Int) ∧ (K : Int) ≤ ((n : Nat) : Int) then some ((K : Int)).toNat else none) = some K := by rw [if_pos (by omega)]; congr 1
    have hw : IntKind.i64.wrap ((n : Int) + 1) = (n : Int) + 1 := IntWalk.i64_in _ (by omega)
    have hcl := cnt_le (S := R s x K) (show n ≤ s.length + 1 by omega)
    have hcl1 := cnt_le (S := R s x K) (show n + 1 ≤ s.length + 1 by omega)
    have hcb : cnt (R s x K) (s.length + 1) ≤ s.length + 1 := cset_len
    have hat := cset_at (S := R s x K) (show n < s.length + 1 by omega)
    have hcs := cnt_succ (S := R s x K) (n := n)
    obtain ⟨c, hc⟩ : ∃ c, cnt (R s x K) n = c := ⟨_, rfl⟩
    rw [hc] at hat hcs hcl
    by_cases hS : R s x K n
    · have hd : decide (((((s.drop K).take (n - K)).length : Nat) : Int) ∈ endsL x ((s.drop K).take (n - K)) 0) = true := decide_eq_true (hmc.2 hS)
      rw [hd] at hM
      have hc1 := hcs.1 hS
      have hlt : decide ((c : Int) < (E.length : Int)) = true := by simp; omega
      have hg : (fl cI E)[c]? = some (.int .i64 (n : Int)) := fl_cI_get (by rw [← hEE, List.getElem?_map, hat.1 hS]; rfl)
      have hwc : IntKind.i64.wrap ((c : Int) + 1) = (c : Int) + 1 := IntWalk.i64_in _ (by omega)
      simp (disch := first | assumption | omega | exact okR_new | exact okR_one | exact trivial | (simp only [List.length_append, List.length_cons, List.length_nil]; omega) | (simp only [List.length_append, List.length_cons, List.length_nil, Nat.reduceAdd])) only [go_sem, e_go, e_cond_bool, e_w_bool, e_step_ite, e_reg_ite, e_regW_ite, e_code_ite, e_block_ite, e_evQ_ite, e_fin_ite, e_pair_ite, Try.f6, iAw5_eq, iMade_eq, iText_eq, iMat_eq, iEnds_eq, hc, hlt, hg, hi1, hi2, hM, hw, hwc]
      exact ⟨n + 1, (by show s.length + 1 - (n + 1) < s.length + 1 - n; omega), ⟨by omega, by omega⟩, rfl, by simp [HasE, lk, hc1, put, ev, hw]⟩
    · have hd : decide (((((s.drop K).take (n - K)).length : Nat) : Int) ∈ endsL x ((s.drop K).take (n - K)) 0) = false := decide_eq_false fun h => hS (hmc.1 h)
      rw [hd] at hM
      have hc1 := hcs.2 hS
      by_cases hlc : c < E.length
      · have hlt : decide ((c : Int) < (E.length : Int)) = true := by simp; omega
        have hne : E[c] ≠ (n : Int) := fun e => by
          have he : E[c]? = some (n : Int) := by rw [List.getElem?_eq_getElem hlc, e]
          rw [← hEE, List.getElem?_map, Option.map_eq_some_iff] at he
          obtain ⟨m, m1, m2⟩ := he
          exact hat.2 hS m m1 (by omega)
        have hg : (fl cI E)[c]? = some (.int .i64 E[c]) := fl_cI_get (List.getElem?_eq_getElem hlc)
        have hdn : decide (E[c] = (n : Int)) = false := decide_eq_false hne
        simp (disch := first | assumption | omega | exact okR_new | exact okR_one | exact trivial | (simp only [List.length_append, List.length_cons, List.length_nil]; omega) | (simp only [List.length_append, List.length_cons, List.length_nil, Nat.reduceAdd])) only [go_sem, e_go, e_cond_bool, e_w_bool, e_step_ite, e_reg_ite, e_regW_ite, e_code_ite, e_block_ite, e_evQ_ite, e_fin_ite, e_pair_ite, Try.f6, iAw5_eq, iMade_eq, iText_eq, iMat_eq, iEnds_eq, hc, hlt, hg, hdn, hi1, hi2, hM, hw]
        exact ⟨n + 1, (by show s.length + 1 - (n + 1) < s.length + 1 - n; omega), ⟨by omega, by omega⟩, rfl, by simp [HasE, lk, hc1, put, ev, hw]⟩
      · have hlt : decide ((c : Int) < (E.length : Int)) = false := by simp; omega
        simp (disch := first | assumption | omega | exact okR_new | exact okR_one | exact trivial | (simp only [List.length_append, List.length_cons, List.length_nil]; omega) | (simp only [List.length_append, List.length_cons, List.length_nil, Nat.reduceAdd])) only [go_sem, e_go, e_cond_bool, e_w_bool, e_step_ite, e_reg_ite, e_regW_ite, e_code_ite, e_block_ite, e_evQ_ite, e_fin_ite, e_pair_ite, Try.f6, iAw5_eq, iMade_eq, iText_eq, iMat_eq, iEnds_eq, hc, hlt, hi1, hi2, hM, hw]
        exact ⟨n + 1, (by show s.length + 1 - (n + 1) < s.length + 1 - n; omega), ⟨by omega, by omega⟩, rfl, by simp [HasE, lk, hc1, put, ev, hw]⟩
  · have hn' : n = s.length + 1 := by omega
    subst hn'
    have hd : decide (((cnt (R s x K) (s.length + 1) : Nat) : Int) = (E.length : Int)) = true := by simp; omega
    simp (disch := first | assumption | omega | exact okR_new | exact okR_one | exact trivial | (simp only [List.length_append, List.length_cons, List.length_nil]; omega) | (simp only [List.length_append, List.length_cons, List.length_nil, Nat.reduceAdd])) only [go_sem, e_go, e_cond_bool, e_w_bool, e_step_ite, e_reg_ite, e_regW_ite, e_code_ite, e_block_ite, e_evQ_ite, e_fin_ite, e_pair_ite, Try.f6, iAw5_eq, iMade_eq, iText_eq, iMat_eq, iEnds_eq, hd]
end Go.Hk.C
