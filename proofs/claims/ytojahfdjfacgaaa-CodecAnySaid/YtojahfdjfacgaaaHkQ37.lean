/- Layer 14, the document's answer: bytes as tables. -/
import Derived.Test.YtojahfdjfacgaaaHkQ36
set_option linter.unusedSimpArgs false
set_option linter.unusedVariables false
set_option maxRecDepth 20000
namespace Go.Hk.N
open Go.Proofs
theorem ti64 : tiOf Try.prog 64 = some { size := 1, bytes := 24, zero := some (.sl .nil 0 []), k := .slice 22 } := by kernel_rfl
attribute [go_sem] ti64
theorem apLs_T : appT Try.prog 64 64 = some ⟨22, 1, 24⟩ := by kernel_rfl
theorem apLs_one {H : List ABlk} {T : List (Nat × (Nat × Nat))} {r r' : Rt} {l} {x} (hr : okR T r l.length (1, 22) = true) (hn : l.length + 1 < 1000000000) : aappend Try.prog 64 64 ⟨H, T⟩ (.sl r l.length (fl cLI l)) (.sl r' 1 (cLI x)) = some (.sl (nxR T r) (l ++ [x]).length (fl cLI (l ++ [x])), ⟨H, nxT T r (l ++ [x]).length (1, 22)⟩) := app_fl1 apLs_T (by decide) cLI_len rfl hr hn
theorem apLs_mk (mu : Bool) (m : AMem) {x} : abuildSlice Try.prog mu m 64 1 [(0, slc cI x)] = some (.sl .full 1 (cLI x), m) := build_one ti64 ti22 rfl rfl (cLI_len x) rfl (by decide) (by decide)
theorem bI7 {m : AMem} {a b c d e f g : Int} : abuildSlice Try.prog false m 22 7 [(0, .int .i64 a), (1, .int .i64 b), (2, .int .i64 c), (3, .int .i64 d), (4, .int .i64 e), (5, .int .i64 f), (6, .int .i64 g)] = some (.sl .full 7 (fl cI [a, b, c, d, e, f, g]), m) := by
  exact build_seq (P := Try.prog) (mu := false) (m := m) (n := 7) (vs := [.int .i64 a, .int .i64 b, .int .i64 c, .int .i64 d, .int .i64 e, .int .i64 f, .int .i64 g]) (out := [.int .i64 a, .int .i64 b, .int .i64 c, .int .i64 d, .int .i64 e, .int .i64 f, .int .i64 g]) ti22 rfl ti3 rfl rfl ⟨by decide, rfl⟩ rfl (by decide)
theorem noPk_fold : AVal.agg [.sl .no 0 [], .int .i64 0, .sl .no 0 [], .sl .no 0 [], .sl .no 0 [], .sl .no 0 [], .sl .no 0 [], .sl .no 0 []] = pkV noPk := rfl
theorem w_DecodeR (s : List UInt8) (h : s.length < 400000000) : PCall Try.prog 10 [.str s] (decV (decP s)) := by
  refine PCall.of_w (fn := Try.f10) (Γ := gam [(20, .pure iVr), (23, .pure iTk)]) (mu := false) (Sound.pure iVr_call (Sound.pure iTk_call Sound.nil)) mixed Try.func10 rfl (by kernel_rfl) (by simp) (by kernel_rfl) ?_
  by_cases h4 : s.length < 4
  · have d4 : decide ((s.length : Int) < 4) = true := decide_eq_true (by omega)
    have hm : decP s = none := if_neg (fun h => by have := congrArg List.length h; simp [magic] at this; omega)
    rw [hm]
    simp (disch := first | assumption | omega | exact okR_new | exact okR_one | exact trivial | (simp only [List.length_append, List.length_cons, List.length_nil]; omega) | (simp only [List.length_append, List.length_cons, List.length_nil, Nat.reduceAdd])) only [go_sem, e_go, e_cond_bool, e_w_bool, e_step_ite, e_reg_ite, e_regW_ite, e_code_ite, e_block_ite, e_evQ_ite, e_fin_ite, e_pair_ite, Try.f10, iVr_eq, iTk_eq, d4, noPk_fold, decV]
    skip
  · have d4 : decide ((s.length : Int) < 4) = false := decide_eq_false (by omega)
    by_cases hm : s.take 4 = magic
    · have hd : decP s = decB (s.drop 4) := if_pos hm
      rw [hd]
      have dm : decide (s.take 4 = [72, 75, 76, 49]) = true := decide_eq_true hm
      obtain ⟨u, hu⟩ : ∃ u, s.drop 4 = u := ⟨_, rfl⟩
      have hds : List.take (s.length - 4) (List.drop 4 s) = u := by rw [← hu]; exact List.take_of_length_le (by simp)
      have hul : u.length < 400000000 := by rw [← hu]; simp; omega
      rw [hu]
      have hT4 := iTk_eq (s := u) (n := 4) ⟨hul, by decide, by decide⟩
      cases ht : takeN u 4 with
      | none =>
        rw [ht] at hT4
        rw [decB_none1 ht]
        simp (disch := first | assumption | omega | exact okR_new | exact okR_one | exact trivial | (simp only [List.length_append, List.length_cons, List.length_nil]; omega) | (simp only [List.length_append, List.length_cons, List.length_nil, Nat.reduceAdd])) only [go_sem, e_go, e_cond_bool, e_w_bool, e_step_ite, e_reg_ite, e_regW_ite, e_code_ite, e_block_ite, e_evQ_ite, e_fin_ite, e_pair_ite, Try.f10, iVr_eq, iTk_eq, d4, dm, hds, hT4, noPk_fold, decV]
      | some a0 =>
        obtain ⟨hd0, s0⟩ := a0
        rw [ht] at hT4
        obtain ⟨q1, q2, q3, q4⟩ := takeN_some ht
        obtain ⟨x0, x1, x2, x3, rfl⟩ := four (show hd0.length = 4 by omega)
        have hat0 : (fl cI [x0, x1, x2, x3])[0]? = some (.int .i64 x0) := rfl
        have hat1 : (fl cI [x0, x1, x2, x3])[1]? = some (.int .i64 x1) := rfl
        have hat2 : (fl cI [x0, x1, x2, x3])[2]? = some (.int .i64 x2) := rfl
        have hat3 : (fl cI [x0, x1, x2, x3])[3]? = some (.int .i64 x3) := rfl
        have hmny : manyOf [x0, x1, x2, x3] = [256, x1, x1, x2, x2, x1, x3] := rfl
        have hmok := fun n => many_ok (h := [x0, x1, x2, x3]) q4 (n := n)
        simp (disch := first | assumption | omega | exact okR_new | exact okR_one | exact trivial | (simp only [List.length_append, List.length_cons, List.length_nil]; omega) | (simp only [List.length_append, List.length_cons, List.length_nil, Nat.reduceAdd])) only [go_sem, e_go, e_cond_bool, e_w_bool, e_step_ite, e_reg_ite, e_regW_ite, e_code_ite, e_block_ite, e_evQ_ite, e_fin_ite, e_pair_ite, Try.f10, iVr_eq, iTk_eq, d4, dm, hds, hT4, hat1, hat2, hat3, bI7]
        rw [← hmny]
        refine w_loop [3] [5, 7, 53] (fun x : Lz × List (List Int) × List UInt8 => 7 - x.1.i) (fun x => x.1.i ≤ 7 ∧ tkTo (manyOf [x0, x1, x2, x3]) s0 x.1.i = some (x.2.1, x.2.2) ∧ okR x.1.T x.1.r x.2.1.length (1, 22) = true)
          (fun x => ⟨[.cells 0 [.sl .nil 0 [], .int .i64 0, .sl .nil 0 [], .sl .nil 0 [], .sl .nil 0 [], .sl .nil 0 [], .sl .nil 0 [], .sl .nil 0 []]], x.1.T⟩)
          (fun x => [(5, .str x.2.2), (7, .sl x.1.r x.2.1.length (fl cLI x.2.1)), (53, .int .i64 (x.1.i : Nat))]) (⟨0, .nil, []⟩, [], s0) (fun _ => rfl) (by kernel_rfl) ⟨Nat.zero_le _, rfl, rfl⟩ rfl (by simp [HasE, lk, fl]) ?_
        rintro ⟨⟨i, r, T⟩, ls, left⟩ ⟨hi, hq, hr⟩
        simp only at hi hq hr
        obtain ⟨hll, hlel⟩ := tkTo_some hq
        by_cases hlt : i < 7
        · have hg : (manyOf [x0, x1, x2, x3])[i]? = some (manyOf [x0, x1, x2, x3])[i] := by rw [List.getElem?_eq_getElem (show i < 7 from hlt)]
          have hmem : (manyOf [x0, x1, x2, x3])[i] ∈ manyOf [x0, x1, x2, x3] := List.getElem_mem (show i < 7 from hlt)
          have hat := fl_cI_get hg
          have hok := hmok _ hmem
          generalize (manyOf [x0, x1, x2, x3])[i] = n at *
          have hT := iTk_eq (s := left) (n := n) ⟨by omega, by omega, by omega⟩
          cases htn : takeN left n with
          | none =>
            rw [htn] at hT
            rw [decB_none2 ht hq hg htn hlt]
            simp (disch := first | assumption | omega | exact okR_new | exact okR_one | exact trivial | (simp only [List.length_append, List.length_cons, List.length_nil]; omega) | (simp only [List.length_append, List.length_cons, List.length_nil, Nat.reduceAdd])) only [go_sem, e_go, e_cond_bool, e_w_bool, e_step_ite, e_reg_ite, e_regW_ite, e_code_ite, e_block_ite, e_evQ_ite, e_fin_ite, e_pair_ite, Try.f10, iVr_eq, iTk_eq, hat, hT, noPk_fold, decV]
            skip
          | some b0 =>
            obtain ⟨l, r2⟩ := b0
            rw [htn] at hT
            have hnx := tkTo_next hq hg
            rw [htn] at hnx
            simp (disch := first | assumption | omega | exact okR_new | exact okR_one | exact trivial | (simp only [List.length_append, List.length_cons, List.length_nil]; omega) | (simp only [List.length_append, List.length_cons, List.length_nil, Nat.reduceAdd])) only [go_sem, e_go, e_cond_bool, e_w_bool, e_step_ite, e_reg_ite, e_regW_ite, e_code_ite, e_block_ite, e_evQ_ite, e_fin_ite, e_pair_ite, Try.f10, iVr_eq, iTk_eq, hat, hT, apLs_mk, apLs_one]
            exact ⟨(⟨i + 1, nxR T r, _⟩, ls ++ [l], r2), dn hlt, ⟨hlt, hnx, by simp only [List.length_append, List.length_cons, List.length_nil, Nat.zero_add]; exact okR_nx hr⟩, rfl, by simp [HasE, lk]⟩
        · have hi' : i = 7 := by omega
          subst hi'
          rw [decB_end ht hq]
          have hoks := pkOf_ok (w := x0) (tkTo_lens hq) (by omega)
          obtain ⟨a, b, c, d, e, f, g, rfl⟩ := seven hll
          have hV := iVr_eq hoks
          generalize hp : pkOf x0 [a, b, c, d, e, f, g] = p at *
          have hfold : AVal.agg [.sl .no a.length (fl cI a), .int .i64 x0, .sl .no b.length (fl cI b), .sl .no c.length (fl cI c), .sl .no d.length (fl cI d), .sl .no e.length (fl cI e), .sl .no f.length (fl cI f), .sl .no g.length (fl cI g)] = pkV p := by rw [← hp]; rfl
          have hx0 : [x0, x1, x2, x3].getD 0 0 = x0 := rfl
          have f0 : (fl cLI [a, b, c, d, e, f, g])[0]? = some (.sl .no a.length (fl cI a)) := rfl
          have f1 : (fl cLI [a, b, c, d, e, f, g])[1]? = some (.sl .no b.length (fl cI b)) := rfl
          have f2 : (fl cLI [a, b, c, d, e, f, g])[2]? = some (.sl .no c.length (fl cI c)) := rfl
          have f3 : (fl cLI [a, b, c, d, e, f, g])[3]? = some (.sl .no d.length (fl cI d)) := rfl
          have f4 : (fl cLI [a, b, c, d, e, f, g])[4]? = some (.sl .no e.length (fl cI e)) := rfl
          have f5 : (fl cLI [a, b, c, d, e, f, g])[5]? = some (.sl .no f.length (fl cI f)) := rfl
          have f6 : (fl cLI [a, b, c, d, e, f, g])[6]? = some (.sl .no g.length (fl cI g)) := rfl
          rw [hx0, hp]
          (simp (disch := first | assumption | omega | exact okR_new | exact okR_one | exact trivial | (simp only [List.length_append, List.length_cons, List.length_nil]; omega) | (simp only [List.length_append, List.length_cons, List.length_nil, Nat.reduceAdd])) only [go_sem, e_bin_bool, Bool.true_and, Bool.and_true, Bool.false_and, Bool.and_false, Bool.true_or, Bool.or_true, Bool.false_or, Bool.or_false, Bool.not_eq_eq_eq_not, Bool.not_not, z_or, z_and, z_beq_t, z_beq_f, decide_eq_true_eq, decide_eq_false_iff_not, ite_not, Bool.not_eq_true', Bool.or_eq_true, Bool.and_eq_true, i_t, i_f, Try.f10, iVr_eq, iTk_eq, hat0, f0, f1, f2, f3, f4, f5, f6, hfold, hV, noPk_fold, decV] <;> (repeat' ((first | refine w_cond_cases ?_ ?_ | refine w_go_cases ?_ ?_ | refine w_pick_cases ?_ ?_) <;> intro hq <;> (try simp only [decide_eq_true_eq, decide_eq_false_iff_not, Bool.not_eq_true', Bool.not_eq_false', Bool.or_eq_true, Bool.and_eq_true, Bool.or_eq_false_iff, Bool.and_eq_false_iff, Bool.not_eq_eq_eq_not, Bool.not_true, Bool.not_false, Bool.not_not] at hq) <;> (first | simp (disch := first | assumption | omega | exact okR_new | exact okR_one | exact trivial | (simp only [List.length_append, List.length_cons, List.length_nil]; omega) | (simp only [List.length_append, List.length_cons, List.length_nil, Nat.reduceAdd])) only [show (_ : Bool) = true from hq, go_sem, e_bin_bool, Bool.true_and, Bool.and_true, Bool.false_and, Bool.and_false, Bool.true_or, Bool.or_true, Bool.false_or, Bool.or_false, Bool.not_eq_eq_eq_not, Bool.not_not, z_or, z_and, z_beq_t, z_beq_f, decide_eq_true_eq, decide_eq_false_iff_not, ite_not, Bool.not_eq_true', Bool.or_eq_true, Bool.and_eq_true, i_t, i_f, Try.f10, iVr_eq, iTk_eq, hat0, f0, f1, f2, f3, f4, f5, f6, hfold, hV, noPk_fold, decV] | simp (disch := first | assumption | omega | exact okR_new | exact okR_one | exact trivial | (simp only [List.length_append, List.length_cons, List.length_nil]; omega) | (simp only [List.length_append, List.length_cons, List.length_nil, Nat.reduceAdd])) only [show (_ : Bool) = false from hq, go_sem, e_bin_bool, Bool.true_and, Bool.and_true, Bool.false_and, Bool.and_false, Bool.true_or, Bool.or_true, Bool.false_or, Bool.or_false, Bool.not_eq_eq_eq_not, Bool.not_not, z_or, z_and, z_beq_t, z_beq_f, decide_eq_true_eq, decide_eq_false_iff_not, ite_not, Bool.not_eq_true', Bool.or_eq_true, Bool.and_eq_true, i_t, i_f, Try.f10, iVr_eq, iTk_eq, hat0, f0, f1, f2, f3, f4, f5, f6, hfold, hV, noPk_fold, decV] | simp (disch := first | assumption | omega | exact okR_new | exact okR_one | exact trivial | (simp only [List.length_append, List.length_cons, List.length_nil]; omega) | (simp only [List.length_append, List.length_cons, List.length_nil, Nat.reduceAdd])) only [go_sem, e_bin_bool, Bool.true_and, Bool.and_true, Bool.false_and, Bool.and_false, Bool.true_or, Bool.or_true, Bool.false_or, Bool.or_false, Bool.not_eq_eq_eq_not, Bool.not_not, z_or, z_and, z_beq_t, z_beq_f, decide_eq_true_eq, decide_eq_false_iff_not, ite_not, Bool.not_eq_true', Bool.or_eq_true, Bool.and_eq_true, i_t, i_f, Try.f10, iVr_eq, iTk_eq, hat0, f0, f1, f2, f3, f4, f5, f6, hfold, hV, noPk_fold, decV] | skip))))
          · simp
          · rw [if_neg (by rintro ⟨h1, _⟩; simp_all)]
    · have hd : decP s = none := if_neg hm
      rw [hd]
      have dm : decide (s.take 4 = [72, 75, 76, 49]) = false := decide_eq_false hm
      simp (disch := first | assumption | omega | exact okR_new | exact okR_one | exact trivial | (simp only [List.length_append, List.length_cons, List.length_nil]; omega) | (simp only [List.length_append, List.length_cons, List.length_nil, Nat.reduceAdd])) only [go_sem, e_go, e_cond_bool, e_w_bool, e_step_ite, e_reg_ite, e_regW_ite, e_code_ite, e_block_ite, e_evQ_ite, e_fin_ite, e_pair_ite, Try.f10, iVr_eq, iTk_eq, d4, dm, noPk_fold, decV]
      skip
noncomputable def iDr : List AVal → Option AVal := pimp fun xs r => ∃ (s : List UInt8), (s.length < 400000000) ∧ xs = [.str s] ∧ r = decV (decP s)
theorem iDr_eq {s : List UInt8} (h : s.length < 400000000) : iDr [.str s] = some (decV (decP s)) := pimp_eq ⟨s, h, rfl, rfl⟩ (by rintro _ ⟨s', h', e, rfl⟩; have e0 := (List.cons.inj e).1; have e0r := (List.cons.inj e).2; have q0 := AVal.str.inj e0; subst q0; first | rfl | exact ⟨rfl, rfl⟩)
theorem iDr_call : ∀ xs v, iDr xs = some v → PCall Try.prog 10 xs v := fun xs v h0 => by obtain ⟨s, h, rfl, rfl⟩ := pimp_spec h0; exact w_DecodeR s h
end Go.Hk.N
