import Derived.Test.YtojahfdjfacgaaaHkQ39
import Derived.Test.YtojahfdjfacgaaaHkQ25
/- Layer 14: what the laws ask. -/
set_option linter.unusedSimpArgs false
set_option linter.unusedVariables false
set_option maxRecDepth 20000
namespace Go.Hk.N
open Go.Proofs

noncomputable def iEn : List AVal → Option AVal := pimp fun xs r => ∃ (p : Pk), (okPk p) ∧ xs = [pkV p] ∧ r = (if validP p = true then .tup (.str (encP p)) [.int .i64 0] else .tup (.str []) [.int .i64 1])
theorem iEn_eq {p : Pk} (h : okPk p) : iEn [pkV p] = some ((if validP p = true then .tup (.str (encP p)) [.int .i64 0] else .tup (.str []) [.int .i64 1])) := pimp_eq ⟨p, h, rfl, rfl⟩ (by rintro _ ⟨p', h', e, rfl⟩; have e0 := pkV_inj (List.cons.inj e).1; subst e0; rfl)
theorem iEn_call : ∀ xs v, iEn xs = some v → PCall Try.prog 6 xs v := fun xs v h0 => by obtain ⟨p, h, rfl, rfl⟩ := pimp_spec h0; exact w_Encode p h
noncomputable def iEr : List AVal → Option AVal := pimp fun xs r => ∃ (p : Pk), (okPk p) ∧ xs = [pkV p] ∧ r = (if validP p = true then .tup (.str (encP p)) [.int .i64 0] else .tup (.str []) [.int .i64 1])
theorem iEr_eq {p : Pk} (h : okPk p) : iEr [pkV p] = some ((if validP p = true then .tup (.str (encP p)) [.int .i64 0] else .tup (.str []) [.int .i64 1])) := pimp_eq ⟨p, h, rfl, rfl⟩ (by rintro _ ⟨p', h', e, rfl⟩; have e0 := pkV_inj (List.cons.inj e).1; subst e0; rfl)
theorem iEr_call : ∀ xs v, iEr xs = some v → PCall Try.prog 9 xs v := fun xs v h0 => by obtain ⟨p, h, rfl, rfl⟩ := pimp_spec h0; exact w_EncodeR p h
theorem w_same14 (p : Pk) (s : List UInt8) (h : okPk p) (hs : s.length < 400000000) : PCall Try.prog 5 [pkV p, .str s] (.bool true) := by
  have e1 := iEn_eq h
  have e2 := iEr_eq h
  have d1 := iDe_eq hs
  have d2 := iDr_eq hs
  have hd := fun q => decP_ok (p := q) hs
  generalize decP s = o at *
  obtain ⟨S, n, hS⟩ : ∃ S n, (if validP p = true then AVal.tup (.str (encP p)) [.int .i64 0] else .tup (.str []) [.int .i64 1]) = .tup (.str S) [.int .i64 n] := by
    split
    · exact ⟨_, _, rfl⟩
    · exact ⟨_, _, rfl⟩
  rw [hS] at e1 e2
  obtain ⟨q, k, hq, hqo⟩ : ∃ q k, decV o = .tup (pkV q) [.int .i64 k] ∧ okPk q := by
    cases o with
    | none => exact ⟨noPk, 60, rfl, noPk_ok⟩
    | some q => exact ⟨q, 0, rfl, hd q rfl⟩
  rw [hq] at d1 d2
  have hm := iSm_eq (p := q) (q := q) ⟨hqo, hqo⟩
  rw [decide_eq_true rfl] at hm
  refine PCall.of_w (fn := Try.f5) (Γ := gam [(6, .pure iEn), (7, .pure iDe), (8, .pure iSm), (9, .pure iEr), (10, .pure iDr)]) (mu := false) (Sound.pure iEn_call (Sound.pure iDe_call (Sound.pure iSm_call (Sound.pure iEr_call (Sound.pure iDr_call Sound.nil))))) mixed Try.func5 rfl (by kernel_rfl) (by simp) (by kernel_rfl) ?_
  simp (disch := first | assumption | omega | exact okR_new | exact okR_one | exact trivial | (simp only [List.length_append, List.length_cons, List.length_nil]; omega) | (simp only [List.length_append, List.length_cons, List.length_nil, Nat.reduceAdd])) only [go_sem, e_go, e_cond_bool, e_w_bool, e_step_ite, e_reg_ite, e_regW_ite, e_code_ite, e_block_ite, e_evQ_ite, e_fin_ite, e_pair_ite, Try.f5, iEn_eq, iDe_eq, iSm_eq, iEr_eq, iDr_eq, e1, e2, d1, d2, hm]
noncomputable def iSa : List AVal → Option AVal := pimp fun xs r => ∃ (p : Pk) (s : List UInt8), (okPk p ∧ s.length < 400000000) ∧ xs = [pkV p, .str s] ∧ r = .bool true
theorem iSa_eq {p : Pk} {s : List UInt8} (h : okPk p ∧ s.length < 400000000) : iSa [pkV p, .str s] = some (.bool true) := pimp_eq ⟨p, s, h, rfl, rfl⟩ (by rintro _ ⟨p', s', h', e, rfl⟩; have e0 := (List.cons.inj e).1; have e0r := (List.cons.inj e).2; have e1 := (List.cons.inj e0r).1; have e1r := (List.cons.inj e0r).2; have q0 := pkV_inj e0; have q1 := AVal.str.inj e1; subst q0; subst q1; first | rfl | exact ⟨rfl, rfl⟩)
theorem iSa_call : ∀ xs v, iSa xs = some v → PCall Try.prog 5 xs v := fun xs v h0 => by obtain ⟨p, s, h, rfl, rfl⟩ := pimp_spec h0; exact w_same14 p s h.1 h.2
theorem w_awake14 : PCall Try.prog 4 [] (.bool true) := by
  have e1 := iEn_eq pk0_ok
  have e2 := iEn_eq noPk_ok
  rw [if_pos pk0_valid] at e1
  rw [if_neg (by rw [noPk_bad]; decide)] at e2
  have hl := pk0_len
  have h6 := pk0_take
  have d1 := iDe_eq (s := encP pk0) (by rw [hl]; decide)
  have d2 := iDe_eq (s := encP pk0 ++ [120]) (by rw [List.length_append, hl]; decide)
  rw [pk0_dec] at d1
  rw [pk0_more] at d2
  generalize encP pk0 = S at *
  have hm := iSm_eq (p := pk0) (q := pk0) ⟨pk0_ok, pk0_ok⟩
  rw [decide_eq_true rfl] at hm
  have hrep : List.replicate 256 (AVal.int .i64 0) = fl cI pk0.mp := fl_rep.symm
  have hf : AVal.agg [.sl .no 256 (fl cI pk0.mp), .int .i64 1, .sl .no 0 [], .sl .no 0 [], .sl .no 0 [], .sl .no 0 [], .sl .no 0 [], .sl .no 0 []] = pkV pk0 := rfl
  have hln : (List.take 6 S).length = 6 := by rw [h6]; rfl
  refine PCall.of_w (fn := Try.f4) (Γ := gam [(6, .pure iEn), (7, .pure iDe), (8, .pure iSm)]) (mu := false) (Sound.pure iEn_call (Sound.pure iDe_call (Sound.pure iSm_call Sound.nil))) mixed Try.func4 rfl (by kernel_rfl) (by simp) (by kernel_rfl) ?_
  simp (disch := first | assumption | omega | exact okR_new | exact okR_one | exact trivial | (simp only [List.length_append, List.length_cons, List.length_nil]; omega) | (simp only [List.length_append, List.length_cons, List.length_nil, Nat.reduceAdd])) only [go_sem, e_go, e_cond_bool, e_w_bool, e_step_ite, e_reg_ite, e_regW_ite, e_code_ite, e_block_ite, e_evQ_ite, e_fin_ite, e_pair_ite, Try.f4, iEn_eq, iDe_eq, iSm_eq, e1, e2, d1, d2, hm, hrep, hf, hl, h6, decV, noPk_fold]
noncomputable def iAw : List AVal → Option AVal := pimp fun xs r => (True) ∧ xs = [] ∧ r = .bool true
theorem iAw_eq  (h : True) : iAw [] = some (.bool true) := pimp_eq ⟨h, rfl, rfl⟩ (by rintro _ ⟨h', e, rfl⟩; first | rfl | exact ⟨rfl, rfl⟩)
theorem iAw_call : ∀ xs v, iAw xs = some v → PCall Try.prog 4 xs v := fun xs v h0 => by obtain ⟨h, rfl, rfl⟩ := pimp_spec h0; exact w_awake14
end Go.Hk.N
/- Layer 14: what the statements are handed; CodecAny. -/
namespace Go.Hk.N
open Go.Proofs

theorem wf_kI {k : IntKind} {n : Int} (h : (Lit.int k n).wf = true) : k.min ≤ n ∧ n ≤ k.max := by simpa [Lit.wf] using h
theorem rd_intI {d : Nat} {s : List AVal} (h : shp Try.prog d 3 s) : ∃ n : Int, (-9223372036854775808 ≤ n ∧ n ≤ 9223372036854775807) ∧ s = [.int .i64 n] := by
  cases d with
  | zero => exact h.elim
  | succ d =>
    simp only [shp, ti3] at h
    obtain ⟨n, rfl, hw⟩ := h
    exact ⟨n, wf_kI hw, rfl⟩
theorem max_ltI {n : Nat} (h : n ≤ maxLen) : n < 9223372036854775808 := by
  have : maxLen = 9223372036854775807 := rfl
  omega
theorem rd_ints {d : Nat} {s : List AVal} (h : shp Try.prog d 22 s) : ∃ l : List Int, l.length < 9223372036854775808 ∧ s = [slc cI l] := by
  cases d with
  | zero => exact h.elim
  | succ d =>
    simp only [shp, ti22] at h
    obtain ⟨xs, rfl, hm, hx⟩ := h
    obtain ⟨l, h1, h2, h3⟩ := list_of (f := cI) (ok := fun _ => True) (fun x h => by obtain ⟨n, _, rfl⟩ := rd_intI h; exact ⟨n, trivial, rfl⟩) xs hx
    exact ⟨l, by rw [h1]; exact max_ltI hm, by rw [← h1, h2]⟩
theorem rd_strI {d : Nat} {s : List AVal} (h : shp Try.prog d 9 s) : ∃ t : List UInt8, t.length < 9223372036854775808 ∧ s = [.str t] := by
  cases d with
  | zero => exact h.elim
  | succ d =>
    simp only [shp, ti9] at h
    obtain ⟨n, rfl, hw⟩ := h
    exact ⟨n, max_ltI (by assumption), rfl⟩
theorem rd_pk {d : Nat} {s : List AVal} (h : shp Try.prog d 24 s) : ∃ p : Pk, okPk p ∧ s = cPk p := by
  cases d with
  | zero => exact h.elim
  | succ d =>
    simp only [shp, ti24, shpFs] at h
    obtain ⟨x0, _, rfl, h0, x1, _, rfl, h1, x2, _, rfl, h2, x3, _, rfl, h3, x4, _, rfl, h4, x5, _, rfl, h5, x6, _, rfl, h6, x7, _, rfl, h7, rfl⟩ := h
    obtain ⟨a, ha, rfl⟩ := rd_ints h0
    obtain ⟨w, _, rfl⟩ := rd_intI h1
    obtain ⟨b, hb, rfl⟩ := rd_ints h2
    obtain ⟨c, hc, rfl⟩ := rd_ints h3
    obtain ⟨e, he, rfl⟩ := rd_ints h4
    obtain ⟨f, hf, rfl⟩ := rd_ints h5
    obtain ⟨g, hg, rfl⟩ := rd_ints h6
    obtain ⟨i, hi, rfl⟩ := rd_ints h7
    exact ⟨⟨a, w, b, c, e, f, g, i⟩, ⟨ha, hb, hc, he, hf, hg, hi⟩, rfl⟩
theorem w_CodecAny (p : Pk) (s : List UInt8) (h : okPk p) (hs : s.length < 9223372036854775808) : PCall Try.prog 3 [pkV p, .str s] (.bool true) := by
  have h1 := iAw_eq trivial
  have h2 : s.length ≤ 2000 → iSa [pkV p, .str s] = some (.bool true) := fun hl => iSa_eq ⟨h, by omega⟩
  have h3 : s.length ≤ 2000 → iSa [pkV p, .str ([72, 75, 76, 49] ++ s)] = some (.bool true) := fun hl => iSa_eq ⟨h, by simp; omega⟩
  obtain ⟨k0, k1, k2, k3, k4, k5, k6⟩ := h
  refine PCall.of_w (fn := Try.f3) (Γ := gam [(4, .pure iAw), (5, .pure iSa)]) (mu := false) (Sound.pure iAw_call (Sound.pure iSa_call Sound.nil)) mixed Try.func3 rfl (by kernel_rfl) (by simp) (by kernel_rfl) ?_
  by_cases hl : s.length ≤ 2000
  · have h2 := h2 hl
    have h3 := h3 hl
    simp only [List.cons_append, List.nil_append] at h3
    (simp (disch := first | assumption | omega | exact okR_new | exact okR_one | exact trivial | (simp only [List.length_append, List.length_cons, List.length_nil]; omega) | (simp only [List.length_append, List.length_cons, List.length_nil, Nat.reduceAdd])) only [go_sem, e_bin_bool, Bool.true_and, Bool.and_true, Bool.false_and, Bool.and_false, Bool.true_or, Bool.or_true, Bool.false_or, Bool.or_false, Bool.not_eq_eq_eq_not, Bool.not_not, z_or, z_and, z_beq_t, z_beq_f, decide_eq_true_eq, decide_eq_false_iff_not, ite_not, Bool.not_eq_true', Bool.or_eq_true, Bool.and_eq_true, i_t, i_f, Try.f3, iAw_eq, iSa_eq, h1, h2, h3] <;> (repeat' ((first | refine w_cond_cases ?_ ?_ | refine w_go_cases ?_ ?_ | refine w_pick_cases ?_ ?_) <;> intro hq <;> (try simp only [decide_eq_true_eq, decide_eq_false_iff_not, Bool.not_eq_true', Bool.not_eq_false', Bool.or_eq_true, Bool.and_eq_true, Bool.or_eq_false_iff, Bool.and_eq_false_iff, Bool.not_eq_eq_eq_not, Bool.not_true, Bool.not_false, Bool.not_not] at hq) <;> (first | simp (disch := first | assumption | omega | exact okR_new | exact okR_one | exact trivial | (simp only [List.length_append, List.length_cons, List.length_nil]; omega) | (simp only [List.length_append, List.length_cons, List.length_nil, Nat.reduceAdd])) only [show (_ : Bool) = true from hq, go_sem, e_bin_bool, Bool.true_and, Bool.and_true, Bool.false_and, Bool.and_false, Bool.true_or, Bool.or_true, Bool.false_or, Bool.or_false, Bool.not_eq_eq_eq_not, Bool.not_not, z_or, z_and, z_beq_t, z_beq_f, decide_eq_true_eq, decide_eq_false_iff_not, ite_not, Bool.not_eq_true', Bool.or_eq_true, Bool.and_eq_true, i_t, i_f, Try.f3, iAw_eq, iSa_eq, h1, h2, h3] | simp (disch := first | assumption | omega | exact okR_new | exact okR_one | exact trivial | (simp only [List.length_append, List.length_cons, List.length_nil]; omega) | (simp only [List.length_append, List.length_cons, List.length_nil, Nat.reduceAdd])) only [show (_ : Bool) = false from hq, go_sem, e_bin_bool, Bool.true_and, Bool.and_true, Bool.false_and, Bool.and_false, Bool.true_or, Bool.or_true, Bool.false_or, Bool.or_false, Bool.not_eq_eq_eq_not, Bool.not_not, z_or, z_and, z_beq_t, z_beq_f, decide_eq_true_eq, decide_eq_false_iff_not, ite_not, Bool.not_eq_true', Bool.or_eq_true, Bool.and_eq_true, i_t, i_f, Try.f3, iAw_eq, iSa_eq, h1, h2, h3] | simp (disch := first | assumption | omega | exact okR_new | exact okR_one | exact trivial | (simp only [List.length_append, List.length_cons, List.length_nil]; omega) | (simp only [List.length_append, List.length_cons, List.length_nil, Nat.reduceAdd])) only [go_sem, e_bin_bool, Bool.true_and, Bool.and_true, Bool.false_and, Bool.and_false, Bool.true_or, Bool.or_true, Bool.false_or, Bool.or_false, Bool.not_eq_eq_eq_not, Bool.not_not, z_or, z_and, z_beq_t, z_beq_f, decide_eq_true_eq, decide_eq_false_iff_not, ite_not, Bool.not_eq_true', Bool.or_eq_true, Bool.and_eq_true, i_t, i_f, Try.f3, iAw_eq, iSa_eq, h1, h2, h3] | skip))))
  · (simp (disch := first | assumption | omega | exact okR_new | exact okR_one | exact trivial | (simp only [List.length_append, List.length_cons, List.length_nil]; omega) | (simp only [List.length_append, List.length_cons, List.length_nil, Nat.reduceAdd])) only [go_sem, e_bin_bool, Bool.true_and, Bool.and_true, Bool.false_and, Bool.and_false, Bool.true_or, Bool.or_true, Bool.false_or, Bool.or_false, Bool.not_eq_eq_eq_not, Bool.not_not, z_or, z_and, z_beq_t, z_beq_f, decide_eq_true_eq, decide_eq_false_iff_not, ite_not, Bool.not_eq_true', Bool.or_eq_true, Bool.and_eq_true, i_t, i_f, Try.f3, iAw_eq, iSa_eq, h1] <;> (repeat' ((first | refine w_cond_cases ?_ ?_ | refine w_go_cases ?_ ?_ | refine w_pick_cases ?_ ?_) <;> intro hq <;> (try simp only [decide_eq_true_eq, decide_eq_false_iff_not, Bool.not_eq_true', Bool.not_eq_false', Bool.or_eq_true, Bool.and_eq_true, Bool.or_eq_false_iff, Bool.and_eq_false_iff, Bool.not_eq_eq_eq_not, Bool.not_true, Bool.not_false, Bool.not_not] at hq) <;> (first | simp (disch := first | assumption | omega | exact okR_new | exact okR_one | exact trivial | (simp only [List.length_append, List.length_cons, List.length_nil]; omega) | (simp only [List.length_append, List.length_cons, List.length_nil, Nat.reduceAdd])) only [show (_ : Bool) = true from hq, go_sem, e_bin_bool, Bool.true_and, Bool.and_true, Bool.false_and, Bool.and_false, Bool.true_or, Bool.or_true, Bool.false_or, Bool.or_false, Bool.not_eq_eq_eq_not, Bool.not_not, z_or, z_and, z_beq_t, z_beq_f, decide_eq_true_eq, decide_eq_false_iff_not, ite_not, Bool.not_eq_true', Bool.or_eq_true, Bool.and_eq_true, i_t, i_f, Try.f3, iAw_eq, iSa_eq, h1] | simp (disch := first | assumption | omega | exact okR_new | exact okR_one | exact trivial | (simp only [List.length_append, List.length_cons, List.length_nil]; omega) | (simp only [List.length_append, List.length_cons, List.length_nil, Nat.reduceAdd])) only [show (_ : Bool) = false from hq, go_sem, e_bin_bool, Bool.true_and, Bool.and_true, Bool.false_and, Bool.and_false, Bool.true_or, Bool.or_true, Bool.false_or, Bool.or_false, Bool.not_eq_eq_eq_not, Bool.not_not, z_or, z_and, z_beq_t, z_beq_f, decide_eq_true_eq, decide_eq_false_iff_not, ite_not, Bool.not_eq_true', Bool.or_eq_true, Bool.and_eq_true, i_t, i_f, Try.f3, iAw_eq, iSa_eq, h1] | simp (disch := first | assumption | omega | exact okR_new | exact okR_one | exact trivial | (simp only [List.length_append, List.length_cons, List.length_nil]; omega) | (simp only [List.length_append, List.length_cons, List.length_nil, Nat.reduceAdd])) only [go_sem, e_bin_bool, Bool.true_and, Bool.and_true, Bool.false_and, Bool.and_false, Bool.true_or, Bool.or_true, Bool.false_or, Bool.or_false, Bool.not_eq_eq_eq_not, Bool.not_not, z_or, z_and, z_beq_t, z_beq_f, decide_eq_true_eq, decide_eq_false_iff_not, ite_not, Bool.not_eq_true', Bool.or_eq_true, Bool.and_eq_true, i_t, i_f, Try.f3, iAw_eq, iSa_eq, h1] | skip))))
    all_goals omega
end Go.Hk.N
