/- Layer 2: what classes tell. -/
import Derived.Test.YtpncchabnolnkaaHkA19
set_option linter.unusedSimpArgs false
set_option linter.unusedVariables false
namespace Go.Hk.A
open Go.Proofs

theorem bool_eq_abin (x y : Bool) : abin Try.prog .eql 4 (.bool x) (.bool y) = some (.bool (x == y)) := by
  rw [e_bin_bool]; unfold aeq; simp only [ti4, aEqOp]; rfl
theorem sameB_next {l : List Nat} {i : Nat} (h : i < l.length) (a b : Int) : sameB (l.take (i + 1)) a b = (sameB (l.take i) a b && (has l[i] a == has l[i] b)) := by
  rw [List.take_succ_eq_append_getElem h]; simp only [sameB, List.all_append, List.all_cons, List.all_nil, Bool.and_true]
/-- The least byte of a class. -/
theorem idx_cls (l : List Nat) {c : Nat} (hc : c < (cls l 256).2) : ∃ p : Nat, idx (cls l 256).1 c = p ∧ p < 256 ∧ (cls l 256).1[p]? = some (c : Int) := by
  obtain ⟨j, h1, h2⟩ := cn_all 256 c hc
  obtain ⟨i, h3, h4, h5⟩ := idx_mem (c : Int) _ j h2
  exact ⟨i, h3, by omega, h5⟩
theorem idx_rise (l : List Nat) {c : Nat} (hc : c + 1 < (cls l 256).2) : idx (cls l 256).1 c < idx (cls l 256).1 ((c + 1 : Nat) : Int) := by
  obtain ⟨p, h1, h2, h3⟩ := idx_cls l hc
  obtain ⟨i, h4, h5⟩ := cn_ahead 256 p c h3
  obtain ⟨q, h6, h7, _⟩ := idx_mem (c : Int) _ i h5
  rw [h1, h6]; omega
structure Bs where
  i : Nat
theorem l12 (l : List Quad) (a b : Nat) (hl : okQ l) (ha : a < 256) (hb : b < 256) : PCall Try.prog 12 [slc cQ l, .int .u8 (a : Nat), .int .u8 (b : Nat)] (.bool true) := by
  have ht := trivial
  have ho := okS_runs l
  have hq : (runsQ l).length ≤ 10 := by simp only [runsQ, List.length_map, List.length_take]; omega
  generalize hs : runsQ l = s at *
  have hQ : iQs [slc cQ l] = some (setsV s) := by rw [iQs_eq hl, hs]
  have k1 := cls_len s
  have k2 := cls_cnt s
  refine PCall.of_w (fn := Try.f12) (Γ := gam [(15, .pure iHas), (32, .pure iAwk), (34, .pure iQs), (35, .pure iLst), (37, .pure iSpl)]) (mu := false) (Sound.pure (con2_call fun A n _ _ => w15 A n) (Sound.pure iAwk_call (Sound.pure iQs_call (Sound.pure iLst_call (Sound.pure iSpl_call Sound.nil))))) mixed Try.func12 rfl (by kernel_rfl) (by simp) (by kernel_rfl) ?_
  simp (disch := first | assumption | omega | exact okR_new) only [go_sem, Nat.reduceAdd, Int.reduceEq, Int.reduceLT, Int.reduceLE, Int.reduceNe, Int.reduceAdd, Int.reduceSub, Int.reduceMul, Int.reduceToNat, Nat.reduceMul, Nat.reduceLT, Nat.reduceLeDiff, Nat.reduceEqDiff, ↓reduceIte, reduceCtorEq, Nat.reduceSub, Nat.reduceDiv, Try.f12, ti3, ti4, ti5, ti22, ti24, ti32, ti41, ti43, ti56, iHas_eq, iAwk_eq, iQs_eq, iLst_eq, iSpl_eq, fl_strip cQ_strip, hQ, clsV_def, conv_b, intV, intL_len, k1]
  refine w_loop [] [11, 12] (fun i : Nat => s.length - i) (fun i => i ≤ s.length) (fun _ => ⟨[], []⟩)
    (fun i => [(11, .bool (sameB (s.take i) a b)), (12, .int .i64 (i : Nat))]) 0 (fun _ => rfl) (by kernel_rfl) (Nat.zero_le _) rfl (by simp [HasE, lk, sameB]) ?_
  intro i hi
  by_cases h : i < s.length
  · have hg := fl_at setL_len (show s[i]? = some s[i] by simp [h])
    have hB := ho.2 s[i] (List.getElem_mem h)
    have hn := sameB_next h (a : Int) (b : Int)
    cases hp : sameB (s.take i) a b
    · rw [hp, Bool.false_and] at hn
      simp (disch := first | assumption | omega | exact okR_new) only [go_sem, Nat.reduceAdd, Int.reduceEq, Int.reduceLT, Int.reduceLE, Int.reduceNe, Int.reduceAdd, Int.reduceSub, Int.reduceMul, Int.reduceToNat, Nat.reduceMul, Nat.reduceLT, Nat.reduceLeDiff, Nat.reduceEqDiff, ↓reduceIte, reduceCtorEq, Nat.reduceSub, Nat.reduceDiv, Try.f12, ti3, ti4, ti5, ti22, ti24, ti32, ti41, ti43, ti56, iHas_eq, iAwk_eq, iQs_eq, iLst_eq, iSpl_eq, hg, n_agg, conv_b, bool_eq_abin]
      exact ⟨i + 1, dn h, h, rfl, by simp [HasE, lk, hn]⟩
    · rw [hp, Bool.true_and] at hn
      simp (disch := first | assumption | omega | exact okR_new) only [go_sem, Nat.reduceAdd, Int.reduceEq, Int.reduceLT, Int.reduceLE, Int.reduceNe, Int.reduceAdd, Int.reduceSub, Int.reduceMul, Int.reduceToNat, Nat.reduceMul, Nat.reduceLT, Nat.reduceLeDiff, Nat.reduceEqDiff, ↓reduceIte, reduceCtorEq, Nat.reduceSub, Nat.reduceDiv, Try.f12, ti3, ti4, ti5, ti22, ti24, ti32, ti41, ti43, ti56, iHas_eq, iAwk_eq, iQs_eq, iLst_eq, iSpl_eq, hg, n_agg, conv_b, bool_eq_abin]
      exact ⟨i + 1, dn h, h, rfl, by simp [HasE, lk, hn]⟩
  · have : i = s.length := by omega
    subst this
    rw [List.take_length]
    have hL := iLst_eq (m := (cls s 256).1) (n := ((cls s 256).2 : Nat)) (by omega)
    have hif := cls_if s
    have kl := leastN_len (cls s 256).1 (cls s 256).2
    simp only [intV, k1, Int.toNat_natCast, hif, kl] at hL
    simp (disch := first | assumption | omega | exact okR_new) only [go_sem, Nat.reduceAdd, Int.reduceEq, Int.reduceLT, Int.reduceLE, Int.reduceNe, Int.reduceAdd, Int.reduceSub, Int.reduceMul, Int.reduceToNat, Nat.reduceMul, Nat.reduceLT, Nat.reduceLeDiff, Nat.reduceEqDiff, ↓reduceIte, reduceCtorEq, Nat.reduceSub, Nat.reduceDiv, Try.f12, ti3, ti4, ti5, ti22, ti24, ti32, ti41, ti43, ti56, iHas_eq, iAwk_eq, iQs_eq, iLst_eq, iSpl_eq, hL, intL_strip]
    refine w_loop [6] [14] (fun c : Nat => (cls s 256).2 - c) (fun c => c ≤ (cls s 256).2) (fun _ => ⟨[], []⟩)
      (fun c => [(14, .int .i64 (c : Nat))]) 0 (fun _ => rfl) (by kernel_rfl) (Nat.zero_le _) rfl (by simp [HasE, lk]) ?_
    intro c hc
    by_cases h1 : c < (cls s 256).2
    · obtain ⟨p, p1, p2, p3⟩ := idx_cls s h1
      have g1 : (intL (leastN (cls s 256).1 (cls s 256).2))[c]? = some (.int .i64 (p : Nat)) := by simp [intL, leastN_get _ h1, p1]
      have g2 : (intL (cls s 256).1)[p]? = some (.int .i64 (c : Nat)) := by simp [intL, p3]
      have kn : (intL (leastN (cls s 256).1 (cls s 256).2)).length = (cls s 256).2 := by rw [intL_len, kl]
      have kn2 : (intL (cls s 256).1).length = 256 := by rw [intL_len, k1]
      cases c with
      | zero =>
        simp (disch := first | assumption | omega | exact okR_new) only [go_sem, Nat.reduceAdd, Int.reduceEq, Int.reduceLT, Int.reduceLE, Int.reduceNe, Int.reduceAdd, Int.reduceSub, Int.reduceMul, Int.reduceToNat, Nat.reduceMul, Nat.reduceLT, Nat.reduceLeDiff, Nat.reduceEqDiff, ↓reduceIte, reduceCtorEq, Nat.reduceSub, Nat.reduceDiv, Try.f12, ti3, ti4, ti5, ti22, ti24, ti32, ti41, ti43, ti56, iHas_eq, iAwk_eq, iQs_eq, iLst_eq, iSpl_eq, g1, g2]
        exact ⟨1, dn h1, h1, rfl, by simp [HasE, lk]⟩
      | succ c =>
        have hr := idx_rise s h1
        obtain ⟨q, q1, q2, q3⟩ := idx_cls s (show c < (cls s 256).2 by omega)
        have g3 : (intL (leastN (cls s 256).1 (cls s 256).2))[c]? = some (.int .i64 (q : Nat)) := by simp [intL, leastN_get _ (show c < (cls s 256).2 by omega), q1]
        rw [p1, q1] at hr
        have e1 : ((c + 1 : Nat) : Int) - 1 = (c : Nat) := by omega
        simp (disch := first | assumption | omega | exact okR_new) only [go_sem, Nat.reduceAdd, Int.reduceEq, Int.reduceLT, Int.reduceLE, Int.reduceNe, Int.reduceAdd, Int.reduceSub, Int.reduceMul, Int.reduceToNat, Nat.reduceMul, Nat.reduceLT, Nat.reduceLeDiff, Nat.reduceEqDiff, ↓reduceIte, reduceCtorEq, Nat.reduceSub, Nat.reduceDiv, Try.f12, ti3, ti4, ti5, ti22, ti24, ti32, ti41, ti43, ti56, iHas_eq, iAwk_eq, iQs_eq, iLst_eq, iSpl_eq, g1, g2, g3, e1]
        exact ⟨c + 1 + 1, dn h1, h1, rfl, by simp [HasE, lk]⟩
    · have : c = (cls s 256).2 := by omega
      subst this
      have hi := cls_iff s ha hb
      have g1 : (intL (cls s 256).1)[a]? = some (.int .i64 ((cls s 256).1[a]?.getD 0)) := intL_get (by omega)
      have g2 : (intL (cls s 256).1)[b]? = some (.int .i64 ((cls s 256).1[b]?.getD 0)) := intL_get (by omega)
      have he : ((cls s 256).1[a]?.getD 0 = (cls s 256).1[b]?.getD 0) ↔ sameB s a b = true := by
        rw [← hi, List.getElem?_eq_getElem (by omega), List.getElem?_eq_getElem (by omega)]; simp
      by_cases hh : (cls s 256).1[a]?.getD 0 = (cls s 256).1[b]?.getD 0
      · have hb2 := he.1 hh
        simp (disch := first | assumption | omega | exact okR_new) only [go_sem, Nat.reduceAdd, Int.reduceEq, Int.reduceLT, Int.reduceLE, Int.reduceNe, Int.reduceAdd, Int.reduceSub, Int.reduceMul, Int.reduceToNat, Nat.reduceMul, Nat.reduceLT, Nat.reduceLeDiff, Nat.reduceEqDiff, ↓reduceIte, reduceCtorEq, Nat.reduceSub, Nat.reduceDiv, Try.f12, ti3, ti4, ti5, ti22, ti24, ti32, ti41, ti43, ti56, iHas_eq, iAwk_eq, iQs_eq, iLst_eq, iSpl_eq, g1, g2, bool_eq_abin, hb2]
      · have hb2 : sameB s a b = false := by cases hx : sameB s a b with | false => rfl | true => exact absurd (he.2 hx) hh
        simp (disch := first | assumption | omega | exact okR_new) only [go_sem, Nat.reduceAdd, Int.reduceEq, Int.reduceLT, Int.reduceLE, Int.reduceNe, Int.reduceAdd, Int.reduceSub, Int.reduceMul, Int.reduceToNat, Nat.reduceMul, Nat.reduceLT, Nat.reduceLeDiff, Nat.reduceEqDiff, ↓reduceIte, reduceCtorEq, Nat.reduceSub, Nat.reduceDiv, Try.f12, ti3, ti4, ti5, ti22, ti24, ti32, ti41, ti43, ti56, iHas_eq, iAwk_eq, iQs_eq, iLst_eq, iSpl_eq, g1, g2, bool_eq_abin, hb2]
end Go.Hk.A
