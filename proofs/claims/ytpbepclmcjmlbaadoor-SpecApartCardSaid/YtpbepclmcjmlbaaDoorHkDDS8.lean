/- Layer 6: a line; the text of the reference. -/
import Derived.Test.YtpbepclmcjmlbaaDoorHkDDS7
set_option linter.unusedSimpArgs false
set_option linter.unusedVariables false
set_option maxRecDepth 20000
namespace Go.Hk.DD
open Go.Proofs

theorem apN_T : appT Tryd.prog 93 93 = some ⟨9, 1, 16⟩ := by kernel_rfl
theorem apN_one {H : List ABlk} {T : List (Nat × (Nat × Nat))} {r r' : Rt} {l} {x} (hr : okR T r l.length (1, 9) = true) (hn : l.length + 1 < 1000000000) : aappend Tryd.prog 93 93 ⟨H, T⟩ (.sl r l.length (fl cS l)) (.sl r' 1 (cS x)) = some (.sl (nxR T r) (l ++ [x]).length (fl cS (l ++ [x])), ⟨H, nxT T r (l ++ [x]).length (1, 9)⟩) := app_fl1 apN_T (by decide) cS_len rfl hr hn
theorem apN_mk (mu : Bool) (m : AMem) {x} : abuildSlice Tryd.prog mu m 93 1 [(0, .str x)] = some (.sl .full 1 (cS x), m) := build_one ti93 ti9 rfl rfl (cS_len x) rfl (by decide) (by decide)
theorem c_cSp {h t : Nat} {s : Sp} : cloL h t (cSp s) = true := by simp [cSp, cloL, clo, cloR, c_flCd, c_flRu]
theorem c_flI {h t : Nat} {l : List Int} : cloL h t (fl cI l) = true := cloL_strip _ _ (fl_strip cI_strip l)
/-- A line, without its end. -/
def lin0 (s : Sp) (q : Ru) : List UInt8 := whereT s.conds q ++ (ruT q ++ actT s.conds q)
theorem lin0_eq {s : Sp} {q : Ru} : lin0 s q ++ [10] = lineT s.conds q := by simp [lin0, lineT]
theorem w_line (s : Sp) (q : Ru) (h : LnOk s q) : PCall Tryd.prog 41 [sV s, ruV q] (.str (lin0 s q)) := by
  have hcd := h.cd
  have hj := h.join
  have hl := h.cl
  have hall := h.all
  have hn8 := (rightS_spec h.rs).2.1
  have b1 := h.where_len
  have b2 := h.ru_len
  have hcq := cRu_eq q
  have hcs := cSp_eq s
  have hok : okRu q ∧ matchB q = true := ⟨h.okR, h.mt⟩
  have hact := h.act
  have hns := h.names
  have hto : 0 ≤ q.to → q.to < s.conds.length → ∃ k : Nat, ∃ hk : k < s.conds.length, q.to = (k : Nat) ∧ nameAt s.conds q.to = (s.conds[k]).name ∧ (s.conds[k]).name.length ≤ 12 := fun h1 h2 => by
    obtain ⟨k, hk'⟩ : ∃ k : Nat, q.to = (k : Nat) := ⟨q.to.toNat, by omega⟩
    have hk : k < s.conds.length := by omega
    exact ⟨k, hk, hk', by rw [hk']; exact nameAt_eq (by simp [hk]), ((rightS_spec h.rs).2.2.2.1 _ (List.getElem_mem hk)).2⟩
  have hfq : AVal.agg (cRu q) = ruV q := rfl
  rw [hcq] at hfq
  refine PCall.of_w (fn := Tryd.f41) (Γ := gam [(58, .pure iJn), (59, .pure iRuT), (60, .pure iAcS)]) (mu := false) (Sound.pure iJn_call (Sound.pure iRuT_call (Sound.pure iAcS_call Sound.nil))) mixed Tryd.func41 rfl (by kernel_rfl) (by simp) (by kernel_rfl) ?_
  cases ha : q.all
  · rw [lin0, whereT, if_neg (by simp [ha])]
    generalize hL : q.conds.map (nameAt s.conds) = L at *
    have hLl : L.length = q.conds.length := by rw [← hL, List.length_map]
    have hJ : okJ [44] L := ⟨by omega, fun x hx => (hns x hx).1, by omega⟩
    have htl : ∀ i, (L.take i).length ≤ 8 := fun i => by rw [List.length_take]; omega
    simp only [ha] at hfq
    simp (disch := first | assumption | omega | exact okR_new | exact okR_one | exact trivial | (simp only [List.length_append, List.length_cons, List.length_nil]; omega) | (simp only [List.length_append, List.length_cons, List.length_nil, Nat.reduceAdd])) only [go_sem, e_go, e_cond_bool, e_w_bool, e_step_ite, e_reg_ite, e_regW_ite, e_code_ite, e_block_ite, e_evQ_ite, e_fin_ite, e_pair_ite, Tryd.f41, iJn_eq, iRuT_eq, iAcS_eq, hcq, hcs, ha]
    refine w_loopc [] [6, 16] (fun x' : Ls => q.conds.length - x'.i) (fun x' => x'.i ≤ q.conds.length ∧ okR x'.T x'.r (L.take x'.i).length (1, 9) = true) (fun x' => ⟨[.cells 0 (cSp s), .cells 0 (cRu q)], x'.T⟩)
      (fun x' => [(6, .sl x'.r (L.take x'.i).length (fl cS (L.take x'.i))), (16, .int .i64 (x'.i : Nat))]) ⟨0, .nil, []⟩ (fun _ => rfl) (by kernel_rfl) ⟨Nat.zero_le _, by simp [okR]⟩ ⟨[], [], by simp only [hcs, hcq, ha, List.append_nil]⟩ (by simp [HasE, lk, fl]) ?_ ?_
    · rintro ⟨i, r, T⟩ ⟨_, hr'⟩
      have hcl := c_okR hr' (Nat.le_refl _)
      simp only at hcl
      simp (disch := assumption) [cloE, clo, cloL, cloB, c_Rno, c_Rfull, c_append, c_cSp, c_cRu, c_sV, c_ruV, c_flS, c_flI, hcl, c_Rnil]
    rintro ⟨i, r, T⟩ ⟨hi, hr'⟩
    simp only at hi hr'
    by_cases h : i < q.conds.length
    · have hg : q.conds[i]? = some q.conds[i] := by simp [h]
      have hat := fl_get1 cI_len hg
      obtain ⟨k, hk⟩ : ∃ k : Nat, q.conds[i] = (k : Nat) := ⟨q.conds[i].toNat, by have := hcd _ (List.getElem_mem h); omega⟩
      have hk2 : k < s.conds.length := by have := hcd _ (List.getElem_mem h); omega
      have hgk : s.conds[k]? = some s.conds[k] := by simp [hk2]
      have hc0 := fl_get0 cCd_len hgk (by decide)
      simp only [cCd, List.getElem?_cons_zero] at hc0
      have hle : k * 2 + 2 ≤ s.conds.length * 2 := by omega
      have hgL : L[i]? = some (s.conds[k].name) := by rw [← hL, List.getElem?_map, hg, hk]; simp [nameAt_eq hgk]
      rw [hk] at hat
      have hnx : L.take (i + 1) = L.take i ++ [s.conds[k].name] := by
        obtain ⟨h1, h2⟩ := List.getElem?_eq_some_iff.1 hgL
        rw [List.take_succ_eq_append_getElem h1, h2]
      have hml := htl i
      generalize s.conds[k] = d at *
      generalize hM : L.take i = M at *
      simp (disch := first | assumption | omega | exact okR_new | exact okR_one | exact trivial | (simp only [List.length_append, List.length_cons, List.length_nil]; omega) | (simp only [List.length_append, List.length_cons, List.length_nil, Nat.reduceAdd])) only [go_sem, e_go, e_cond_bool, e_w_bool, e_step_ite, e_reg_ite, e_regW_ite, e_code_ite, e_block_ite, e_evQ_ite, e_fin_ite, e_pair_ite, Tryd.f41, iJn_eq, iRuT_eq, iAcS_eq, hcq, hcs, ha, hat, hc0, cI, apN_mk, apN_one]
      refine ⟨⟨i + 1, nxR T r, nxT T r (M.length + 1) (1, 9)⟩, ?_, ⟨h, ?_⟩, ⟨[], [], ?_⟩, ?_⟩
      · show q.conds.length - (i + 1) < q.conds.length - i
        omega
      · show okR _ _ (L.take (i + 1)).length _ = true
        rw [hnx, List.length_append]; exact okR_nx hr'
      · simp only [hcs, hcq, ha, List.append_nil, List.cons_append, List.nil_append, List.length_append, List.length_cons, List.length_nil]
      · simp only [HasE, lk, hnx]; simp
    · have hi' : i = q.conds.length := by omega
      subst hi'
      rw [← hLl, List.take_length] at hr'
      have hLt : L.take q.conds.length = L := by rw [← hLl, List.take_length]
      have hLs : L.take (L.length) = L := List.take_length
      have hz : (q.conds.length = 0) = (joinS [44] L = []) := by
        apply propext
        cases hLc : L with
        | nil => rw [hLc] at hLl; simp at hLl; simp [joinS, hLl]
        | cons x l =>
          have := (hns x (by rw [hLc]; simp)).1
          rw [hLc] at hLl
          constructor
          · intro h0; rw [h0] at hLl; simp at hLl
          · intro h0
            have h1 := congrArg List.length h0
            simp only [joinS, List.length_append, List.length_nil] at h1
            omega
      by_cases hq0 : q.conds.length = 0
      · have hj0 : joinS [44] L = [] := hz ▸ hq0
        rw [if_pos hq0]
        simp only [List.nil_append]
        rcases hact with ⟨hc, hr1, hr2⟩ | hc | hc
        · obtain ⟨k, hk, hto', hnm, hnl⟩ := hto hr1 hr2
          have hgk : s.conds[k]? = some s.conds[k] := by simp [hk]
          have hc0 := fl_get0 cCd_len hgk (by decide)
          simp only [cCd, List.getElem?_cons_zero] at hc0
          have hle : k * 2 + 2 ≤ s.conds.length * 2 := by omega
          simp only [hc, hto'] at hfq
          simp only [actT, hc, hnm]
          generalize s.conds[k] = d at *
          simp (disch := first | assumption | omega | exact okR_new | exact okR_one | exact trivial | (simp only [List.length_append, List.length_cons, List.length_nil]; omega) | (simp only [List.length_append, List.length_cons, List.length_nil, Nat.reduceAdd])) only [go_sem, e_go, e_cond_bool, e_w_bool, e_step_ite, e_reg_ite, e_regW_ite, e_code_ite, e_block_ite, e_evQ_ite, e_fin_ite, e_pair_ite, Tryd.f41, iJn_eq, iRuT_eq, iAcS_eq, hcq, hcs, ha, hLt, hj0, hfq, hc, hto', hc0]
          simp
        · simp only [hc] at hfq
          simp only [actT, hc]
          simp (disch := first | assumption | omega | exact okR_new | exact okR_one | exact trivial | (simp only [List.length_append, List.length_cons, List.length_nil]; omega) | (simp only [List.length_append, List.length_cons, List.length_nil, Nat.reduceAdd])) only [go_sem, e_go, e_cond_bool, e_w_bool, e_step_ite, e_reg_ite, e_regW_ite, e_code_ite, e_block_ite, e_evQ_ite, e_fin_ite, e_pair_ite, Tryd.f41, iJn_eq, iRuT_eq, iAcS_eq, hcq, hcs, ha, hLt, hj0, hfq, hc]
          simp
        · simp only [hc] at hfq
          simp only [actT, hc]
          simp (disch := first | assumption | omega | exact okR_new | exact okR_one | exact trivial | (simp only [List.length_append, List.length_cons, List.length_nil]; omega) | (simp only [List.length_append, List.length_cons, List.length_nil, Nat.reduceAdd])) only [go_sem, e_go, e_cond_bool, e_w_bool, e_step_ite, e_reg_ite, e_regW_ite, e_code_ite, e_block_ite, e_evQ_ite, e_fin_ite, e_pair_ite, Tryd.f41, iJn_eq, iRuT_eq, iAcS_eq, hcq, hcs, ha, hLt, hj0, hfq, hc]
          simp
      · have hj0 : ¬ joinS [44] L = [] := fun e => hq0 (hz ▸ e)
        rw [if_neg hq0]
        rcases hact with ⟨hc, hr1, hr2⟩ | hc | hc
        · obtain ⟨k, hk, hto', hnm, hnl⟩ := hto hr1 hr2
          have hgk : s.conds[k]? = some s.conds[k] := by simp [hk]
          have hc0 := fl_get0 cCd_len hgk (by decide)
          simp only [cCd, List.getElem?_cons_zero] at hc0
          have hle : k * 2 + 2 ≤ s.conds.length * 2 := by omega
          simp only [hc, hto'] at hfq
          simp only [actT, hc, hnm]
          generalize s.conds[k] = d at *
          simp (disch := first | assumption | omega | exact okR_new | exact okR_one | exact trivial | (simp only [List.length_append, List.length_cons, List.length_nil]; omega) | (simp only [List.length_append, List.length_cons, List.length_nil, Nat.reduceAdd])) only [go_sem, e_go, e_cond_bool, e_w_bool, e_step_ite, e_reg_ite, e_regW_ite, e_code_ite, e_block_ite, e_evQ_ite, e_fin_ite, e_pair_ite, Tryd.f41, iJn_eq, iRuT_eq, iAcS_eq, hcq, hcs, ha, hLt, hj0, hfq, hc, hto', hc0]
          simp
        · simp only [hc] at hfq
          simp only [actT, hc]
          simp (disch := first | assumption | omega | exact okR_new | exact okR_one | exact trivial | (simp only [List.length_append, List.length_cons, List.length_nil]; omega) | (simp only [List.length_append, List.length_cons, List.length_nil, Nat.reduceAdd])) only [go_sem, e_go, e_cond_bool, e_w_bool, e_step_ite, e_reg_ite, e_regW_ite, e_code_ite, e_block_ite, e_evQ_ite, e_fin_ite, e_pair_ite, Tryd.f41, iJn_eq, iRuT_eq, iAcS_eq, hcq, hcs, ha, hLt, hj0, hfq, hc]
          simp
        · simp only [hc] at hfq
          simp only [actT, hc]
          simp (disch := first | assumption | omega | exact okR_new | exact okR_one | exact trivial | (simp only [List.length_append, List.length_cons, List.length_nil]; omega) | (simp only [List.length_append, List.length_cons, List.length_nil, Nat.reduceAdd])) only [go_sem, e_go, e_cond_bool, e_w_bool, e_step_ite, e_reg_ite, e_regW_ite, e_code_ite, e_block_ite, e_evQ_ite, e_fin_ite, e_pair_ite, Tryd.f41, iJn_eq, iRuT_eq, iAcS_eq, hcq, hcs, ha, hLt, hj0, hfq, hc]
          simp
  · have hz := hall ha
    simp only [ha] at hfq
    have hw : whereT s.conds q = [60, 42, 62] := by unfold whereT; rw [if_pos ha]
    rw [lin0, hw]
    rcases hact with ⟨hc, hr1, hr2⟩ | hc | hc
    · obtain ⟨k, hk, hto', hnm, hnl⟩ := hto hr1 hr2
      have hgk : s.conds[k]? = some s.conds[k] := by simp [hk]
      have hc0 := fl_get0 cCd_len hgk (by decide)
      simp only [cCd, List.getElem?_cons_zero] at hc0
      have hle : k * 2 + 2 ≤ s.conds.length * 2 := by omega
      simp only [hc, hto'] at hfq
      simp only [actT, hc, hnm]
      generalize s.conds[k] = d at *
      simp (disch := first | assumption | omega | exact okR_new | exact okR_one | exact trivial | (simp only [List.length_append, List.length_cons, List.length_nil]; omega) | (simp only [List.length_append, List.length_cons, List.length_nil, Nat.reduceAdd])) only [go_sem, e_go, e_cond_bool, e_w_bool, e_step_ite, e_reg_ite, e_regW_ite, e_code_ite, e_block_ite, e_evQ_ite, e_fin_ite, e_pair_ite, Tryd.f41, iJn_eq, iRuT_eq, iAcS_eq, hcq, hcs, hfq, ha, hc, hto', hc0]
      simp
    · simp only [hc] at hfq
      simp only [actT, hc]
      simp (disch := first | assumption | omega | exact okR_new | exact okR_one | exact trivial | (simp only [List.length_append, List.length_cons, List.length_nil]; omega) | (simp only [List.length_append, List.length_cons, List.length_nil, Nat.reduceAdd])) only [go_sem, e_go, e_cond_bool, e_w_bool, e_step_ite, e_reg_ite, e_regW_ite, e_code_ite, e_block_ite, e_evQ_ite, e_fin_ite, e_pair_ite, Tryd.f41, iJn_eq, iRuT_eq, iAcS_eq, hcq, hcs, hfq, ha, hc]
      simp
    · simp only [hc] at hfq
      simp only [actT, hc]
      simp (disch := first | assumption | omega | exact okR_new | exact okR_one | exact trivial | (simp only [List.length_append, List.length_cons, List.length_nil]; omega) | (simp only [List.length_append, List.length_cons, List.length_nil, Nat.reduceAdd])) only [go_sem, e_go, e_cond_bool, e_w_bool, e_step_ite, e_reg_ite, e_regW_ite, e_code_ite, e_block_ite, e_evQ_ite, e_fin_ite, e_pair_ite, Tryd.f41, iJn_eq, iRuT_eq, iAcS_eq, hcq, hcs, hfq, ha, hc]
      simp
noncomputable def iLn : List AVal → Option AVal := pimp fun xs r => ∃ (s : Sp) (u : Ru), (LnOk s u) ∧ xs = [sV s, ruV u] ∧ r = .str (lin0 s u)
theorem iLn_eq {s : Sp} {u : Ru} (h : LnOk s u) : iLn [sV s, ruV u] = some (.str (lin0 s u)) := pimp_eq ⟨s, u, h, rfl, rfl⟩ (by rintro _ ⟨s', u', h', e, rfl⟩; have e0 := sV_inj h.okS h'.okS (List.cons.inj e).1; have e1 := ruV_inj h.okR h'.okR (List.cons.inj (List.cons.inj e).2).1; subst e0 e1; rfl)
theorem iLn_call : ∀ xs v, iLn xs = some v → PCall Tryd.prog 41 xs v := fun xs v h0 => by obtain ⟨s, u, h, rfl, rfl⟩ := pimp_spec h0; exact w_line s u h
end Go.Hk.DD
