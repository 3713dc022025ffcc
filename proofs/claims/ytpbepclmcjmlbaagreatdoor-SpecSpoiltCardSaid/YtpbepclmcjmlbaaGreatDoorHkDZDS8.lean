/- Layer 6: a line; the text of the reference. -/
import Derived.Test.YtpbepclmcjmlbaaGreatDoorHkDZDS7
set_option linter.unusedSimpArgs false
set_option linter.unusedVariables false
set_option maxRecDepth 20000
namespace Go.Hk.DZD
open Go.Proofs

theorem apN_T : appT Tryz.prog 97 97 = some ⟨9, 1, 16⟩ := by kernel_rfl
theorem apN_one {H : List ABlk} {T : List (Nat × (Nat × Nat))} {r r' : Rt} {l} {x} (hr : okR T r l.length (1, 9) = true) (hn : l.length + 1 < 1000000000) : aappend Tryz.prog 97 97 ⟨H, T⟩ (.sl r l.length (fl cS l)) (.sl r' 1 (cS x)) = some (.sl (nxR T r) (l ++ [x]).length (fl cS (l ++ [x])), ⟨H, nxT T r (l ++ [x]).length (1, 9)⟩) := app_fl1 apN_T (by decide) cS_len rfl hr hn
theorem apN_mk (mu : Bool) (m : AMem) {x} : abuildSlice Tryz.prog mu m 97 1 [(0, .str x)] = some (.sl .full 1 (cS x), m) := build_one ti97 ti9 rfl rfl (cS_len x) rfl (by decide) (by decide)
theorem c_cSp {h t : Nat} {s : Sp} : cloL h t (cSp s) = true := by simp [cSp, cloL, clo, cloR, c_flCd, c_flRu]
theorem c_flI {h t : Nat} {l : List Int} : cloL h t (fl cI l) = true := cloL_strip _ _ (fl_strip cI_strip l)
/-- A line, without its end. -/
def lin0 (s : Sp) (q : Ru) : List UInt8 := whereT s.conds q ++ (ruT q ++ actT s.conds q)
theorem lin0_eq {s : Sp} {q : Ru} : lin0 s q ++ [10] = lineT s.conds q := by simp [lin0, lineT]
theorem w_line (s : Sp) (q : Ru) (h : LnOk s q) : PCall Tryz.prog 46 [sV s, ruV q] (.str (lin0 s q)) := by
  have hcd := h.cd
  have hj := h.join
  have hl := h.cl
  have hall := h.all
  have hn8 := (rightS_spec h.rs).2.1
  have b1 := h.where_len
  have b2 := h.ru_len
  have hcq := cRu_eq q
  have hcs := cSp_eq s
  have hok : okRu q ∧ matchB q = true := ⟨h.okR, h.mt⟩
  have hact := h.act
  have hns := h.names
  have hto : 0 ≤ q.to → q.to < s.conds.length → ∃ k : Nat, ∃ hk : k < s.conds.length, q.to = (k : Nat) ∧ nameAt s.conds q.to = (s.conds[k]).name ∧ (s.conds[k]).name.length ≤ 12 := fun h1 h2 => by
    obtain ⟨k, hk'⟩ : ∃ k : Nat, q.to = (k : Nat) := ⟨q.to.toNat, by omega⟩
    have hk : k < s.conds.length := by omega
    exact ⟨k, hk, hk', by rw [hk']; exact nameAt_eq (by simp [hk]), ((rightS_spec h.rs).2.2.2.1 _ (List.getElem_mem hk)).2⟩
  have hfq : AVal.agg (cRu q) = ruV q := rfl
  rw [hcq] at hfq
  refine PCall.of_w (fn := Tryz.f46) (Γ := gam [(61, .pure iJn), (62, .pure iRuT), (63, .pure iAcS)]) (mu := false) (Sound.pure iJn_call (Sound.pure iRuT_call (Sound.pure iAcS_call Sound.nil))) mixed Tryz.func46 rfl (by kernel_rfl) (by simp) (by kernel_rfl) ?_
  cases ha : q.all
  · rw [lin0, whereT, if_neg (by simp [ha])]
    generalize hL : q.conds.map (nameAt s.conds) = L at *
    have hLl : L.length = q.conds.length := by rw [← hL, List.length_map]
    have hJ : okJ [44] L := ⟨by omega, fun x hx => (hns x hx).1, by omega⟩
    have htl : ∀ i, (L.take i).length ≤ 8 := fun i => by rw [List.length_take]; omega
    simp only [ha] at hfq
    simp (disch := first | assumption | omega | exact okR_new | exact okR_one | exact trivial | (simp only [List.length_append, List.length_cons, List.length_nil]; omega) | (simp only [List.length_append, List.length_cons, List.length_nil, Nat.reduceAdd])) only [go_sem, e_go, e_cond_bool, e_w_bool, e_step_ite, e_reg_ite, e_regW_ite, e_code_ite, e_block_ite, e_evQ_ite, e_fin_ite, e_pair_ite, Tryz.f46, iJn_eq, iRuT_eq, iAcS_eq, hcq, hcs, ha]
    refine w_loopc [] [6, 16] (fun x' : Ls => q.conds.length - x'.i) (fun x' => x'.i ≤ q.conds.length ∧ okR x'.T x'.r (L.take x'.i).length (1, 9) = true) (fun x' => ⟨[.cells 0 (cSp s), .cells 0 (cRu q)], x'.T⟩)
      (fun x' => [(6, .sl x'.r (L.take x'.i).length (fl cS (L.take x'.i))), (16, .int .i64 (x'.i : Nat))]) ⟨0, .nil, []⟩ (fun _ => rfl) (by kernel_rfl) ⟨Nat.zero_le _, by simp [okR]⟩ ⟨[], [], by simp only [hcs, hcq, ha, List.append_nil]⟩ (by simp [HasE, lk, fl]) ?_ ?_
    · rintro ⟨i, r, T⟩ ⟨_, hr'⟩
      have hcl := c_okR hr' (Nat.le_refl _)
      simp only at hcl
      simp (disch := assumption) [cloE, clo, cloL, cloB, c_Rno, c_Rfull, c_append, c_cSp, c_cRu, c_sV, c_ruV, c_flS, c_flI, hcl, c_Rnil]
    rintro ⟨i, r, T⟩ ⟨hi, hr'⟩
    simp only at hi hr'
    by_cases h : i < q.conds.length
    · have hg : q.conds[i]? = some q.conds[i] := by simp [h]
      have hat := fl_get1 cI_len hg
      obtain ⟨k, hk⟩ : ∃ k : Nat, q.conds[i] = (k : Nat) := ⟨q.conds[i].toNat, by have := hcd _ (List.getElem_mem h); omega⟩
      have hk2 : k < s.conds.length := by have := hcd _ (List.getElem_mem h); omega
      have hgk : s.conds[k]? = some s.conds[k] := by simp [hk2]
      have hc0 := fl_get0 cCd_len hgk (by decide)
      simp only [cCd, List.getElem?_cons_zero] at hc0
      have hle : k * 2 + 2 ≤ s.conds.length * 2 := by omega
      have hgL : L[i]? = some (s.conds[k].name) := by rw [← hL, List.getElem?_map, hg, hk]; simp [nameAt_eq hgk]
      rw [hk] at hat
      have hnx : L.take (i + 1) = L.take i ++ [s.conds[k].name] := by
        obtain ⟨h1, h2⟩ := List.getElem?_eq_some_iff.1 hgL
        rw [List.take_succ_eq_append_getElem h1, h2]
      have hml := htl i
      generalize s.conds[k] = d at *
      generalize hM : L.take i = M at *
      simp (disch := first | assumption | omega | exact okR_new | exact okR_one | exact trivial | (simp only [List.length_append, List.length_cons, List.length_nil]; omega) | (simp only [List.length_append, List.length_cons, List.length_nil, Nat.reduceAdd])) only [go_sem, e_go, e_cond_bool, e_w_bool, e_step_ite, e_reg_ite, e_regW_ite, e_code_ite, e_block_ite, e_evQ_ite, e_fin_ite, e_pair_ite, Tryz.f46, iJn_eq, iRuT_eq, iAcS_eq, hcq, hcs, ha, hat, hc0, cI, apN_mk, apN_one]
      refine ⟨⟨i + 1, nxR T r, nxT T r (M.length + 1) (1, 9)⟩, ?_, ⟨h, ?_⟩, ⟨[], [], ?_⟩, ?_⟩
      · show q.conds.length - (i + 1) < q.conds.length - i
        omega
      · show okR _ _ (L.take (i + 1)).length _ = true
        rw [hnx, List.length_append]; exact okR_nx hr'
      · simp only [hcs, hcq, ha, List.append_nil, List.cons_append, List.nil_append, List.length_append, List.length_cons, List.length_nil]
      · simp only [HasE, lk, hnx]; simp
    · have hi' : i = q.conds.length := by omega
      subst hi'
      rw [← hLl, List.take_length] at hr'
      have hLt : L.take q.conds.length = L := by rw [← hLl, List.take_length]
      have hLs : L.take (L.length) = L := List.take_length
      have hz : (q.conds.length = 0) = (joinS [44] L = []) := by
        apply propext
        cases hLc : L with
        | nil => rw [hLc] at hLl; simp at hLl; simp [joinS, hLl]
        | cons x l =>
          have := (hns x (by rw [hLc]; simp)).1
          rw [hLc] at hLl
          constructor
          · intro h0; rw [h0] at hLl; simp at hLl
          · intro h0
            have h1 := congrArg List.length h0
            simp only [joinS, List.length_append, List.length_nil] at h1
            omega
      by_cases hq0 : q.conds.length = 0
      · have hj0 : joinS [44] L = [] := hz ▸ hq0
        rw [if_pos hq0]
        simp only [List.nil_append]
        rcases hact with ⟨hc, hr1, hr2⟩ | hc | hc
        · obtain ⟨k, hk, hto', hnm, hnl⟩ := hto hr1 hr2
          have hgk : s.conds[k]? = some s.conds[k] := by simp [hk]
          have hc0 := fl_get0 cCd_len hgk (by decide)
          simp only [cCd, List.getElem?_cons_zero] at hc0
          have hle : k * 2 + 2 ≤ s.conds.length * 2 := by omega
          simp only [hc, hto'] at hfq
          simp only [actT, hc, hnm]
          generalize s.conds[k] = d at *
          simp (disch := first | assumption | omega | exact okR_new | exact okR_one | exact trivial | (simp only [List.length_append, List.length_cons, List.length_nil]; omega) | (simp only [List.length_append, List.length_cons, List.length_nil, Nat.reduceAdd])) only [go_sem, e_go, e_cond_bool, e_w_bool, e_step_ite, e_reg_ite, e_regW_ite, e_code_ite, e_block_ite, e_evQ_ite, e_fin_ite, e_pair_ite, Tryz.f46, iJn_eq, iRuT_eq, iAcS_eq, hcq, hcs, ha, hLt, hj0, hfq, hc, hto', hc0]
          simp
        · simp only [hc] at hfq
          simp only [actT, hc]
          simp (disch := first | assumption | omega | exact okR_new | exact okR_one | exact trivial | (simp only [List.length_append, List.length_cons, List.length_nil]; omega) | (simp only [List.length_append, List.length_cons, List.length_nil, Nat.reduceAdd])) only [go_sem, e_go, e_cond_bool, e_w_bool, e_step_ite, e_reg_ite, e_regW_ite, e_code_ite, e_block_ite, e_evQ_ite, e_fin_ite, e_pair_ite, Tryz.f46, iJn_eq, iRuT_eq, iAcS_eq, hcq, hcs, ha, hLt, hj0, hfq, hc]
          simp
        · simp only [hc] at hfq
          simp only [actT, hc]
          simp (disch := first | assumption | omega | exact okR_new | exact okR_one | exact trivial | (simp only [List.length_append, List.length_cons, List.length_nil]; omega) | (simp only [List.length_append, List.length_cons, List.length_nil, Nat.reduceAdd])) only [go_sem, e_go, e_cond_bool, e_w_bool, e_step_ite, e_reg_ite, e_regW_ite, e_code_ite, e_block_ite, e_evQ_ite, e_fin_ite, e_pair_ite, Tryz.f46, iJn_eq, iRuT_eq, iAcS_eq, hcq, hcs, ha, hLt, hj0, hfq, hc]
          simp
      · have hj0 : ¬ joinS [44] L = [] := fun e => hq0 (hz ▸ e)
        rw [if_neg hq0]
        rcases hact with ⟨hc, hr1, hr2⟩ | hc | hc
        · obtain ⟨k, hk, hto', hnm, hnl⟩ := hto hr1 hr2
          have hgk : s.conds[k]? = some s.conds[k] := by simp [hk]
          have hc0 := fl_get0 cCd_len hgk (by decide)
          simp only [cCd, List.getElem?_cons_zero] at hc0
          have hle : k * 2 + 2 ≤ s.conds.length * 2 := by omega
          simp only [hc, hto'] at hfq
          simp only [actT, hc, hnm]
          generalize s.conds[k] = d at *
          simp (disch := first | assumption | omega | exact okR_new | exact okR_one | exact trivial | (simp only [List.length_append, List.length_cons, List.length_nil]; omega) | (simp only [List.length_append, List.length_cons, List.length_nil, Nat.reduceAdd])) only [go_sem, e_go, e_cond_bool, e_w_bool, e_step_ite, e_reg_ite, e_regW_ite, e_code_ite, e_block_ite, e_evQ_ite, e_fin_ite, e_pair_ite, Tryz.f46, iJn_eq, iRuT_eq, iAcS_eq, hcq, hcs, ha, hLt, hj0, hfq, hc, hto', hc0]
          simp
        · simp only [hc] at hfq
          simp only [actT, hc]
          simp (disch := first | assumption | omega | exact okR_new | exact okR_one | exact trivial | (simp only [List.length_append, List.length_cons, List.length_nil]; omega) | (simp only [List.length_append, List.length_cons, List.length_nil, Nat.reduceAdd])) only [go_sem, e_go, e_cond_bool, e_w_bool, e_step_ite, e_reg_ite, e_regW_ite, e_code_ite, e_block_ite, e_evQ_ite, e_fin_ite, e_pair_ite, Tryz.f46, iJn_eq, iRuT_eq, iAcS_eq, hcq, hcs, ha, hLt, hj0, hfq, hc]
          simp
        · simp only [hc] at hfq
          simp only [actT, hc]
          simp (disch := first | assumption | omega | exact okR_new | exact okR_one | exact trivial | (simp only [List.length_append, List.length_cons, List.length_nil]; omega) | (simp only [List.length_append, List.length_cons, List.length_nil, Nat.reduceAdd])) only [go_sem, e_go, e_cond_bool, e_w_bool, e_step_ite, e_reg_ite, e_regW_ite, e_code_ite, e_block_ite, e_evQ_ite, e_fin_ite, e_pair_ite, Tryz.f46, iJn_eq, iRuT_eq, iAcS_eq, hcq, hcs, ha, hLt, hj0, hfq, hc]
          simp
  · have hz := hall ha
    simp only [ha] at hfq
    have hw : whereT s.conds q = [60, 42, 62] := by unfold whereT; rw [if_pos ha]
    rw [lin0, hw]
    rcases hact with ⟨hc, hr1, hr2⟩ | hc | hc
    · obtain ⟨k, hk, hto', hnm, hnl⟩ := hto hr1 hr2
      have hgk : s.conds[k]? = some s.conds[k] := by simp [hk]
      have hc0 := fl_get0 cCd_len hgk (by decide)
      simp only [cCd, List.getElem?_cons_zero] at hc0
      have hle : k * 2 + 2 ≤ s.conds.length * 2 := by omega
      simp only [hc, hto'] at hfq
      simp only [actT, hc, hnm]
      generalize s.conds[k] = d at *
      simp (disch := first | assumption | omega | exact okR_new | exact okR_one | exact trivial | (simp only [List.length_append, List.length_cons, List.length_nil]; omega) | (simp only [List.length_append, List.length_cons, List.length_nil, Nat.reduceAdd])) only [go_sem, e_go, e_cond_bool, e_w_bool, e_step_ite, e_reg_ite, e_regW_ite, e_code_ite, e_block_ite, e_evQ_ite, e_fin_ite, e_pair_ite, Tryz.f46, iJn_eq, iRuT_eq, iAcS_eq, hcq, hcs, hfq, ha, hc, hto', hc0]
      simp
    · simp only [hc] at hfq
      simp only [actT, hc]
      simp (disch := first | assumption | omega | exact okR_new | exact okR_one | exact trivial | (simp only [List.length_append, List.length_cons, List.length_nil]; omega) | (simp only [List.length_append, List.length_cons, List.length_nil, Nat.reduceAdd])) only [go_sem, e_go, e_cond_bool, e_w_bool, e_step_ite, e_reg_ite, e_regW_ite, e_code_ite, e_block_ite, e_evQ_ite, e_fin_ite, e_pair_ite, Tryz.f46, iJn_eq, iRuT_eq, iAcS_eq, hcq, hcs, hfq, ha, hc]
      simp
    · simp only [hc] at hfq
      simp only [actT, hc]
      simp (disch := first | assumption | omega | exact okR_new | exact okR_one | exact trivial | (simp only [List.length_append, List.length_cons, List.length_nil]; omega) | (simp only [List.length_append, List.length_cons, List.length_nil, Nat.reduceAdd])) only [go_sem, e_go, e_cond_bool, e_w_bool, e_step_ite, e_reg_ite, e_regW_ite, e_code_ite, e_block_ite, e_evQ_ite, e_fin_ite, e_pair_ite, Tryz.f46, iJn_eq, iRuT_eq, iAcS_eq, hcq, hcs, hfq, ha, hc]
      simp
noncomputable def iLn : List AVal → Option AVal := pimp fun xs r => ∃ (s : Sp) (u : Ru), (LnOk s u) ∧ xs = [sV s, ruV u] ∧ r = .str (lin0 s u)
theorem iLn_eq {s : Sp} {u : Ru} (h : LnOk s u) : iLn [sV s, ruV u] = some (.str (lin0 s u)) := pimp_eq ⟨s, u, h, rfl, rfl⟩ (by rintro _ ⟨s', u', h', e, rfl⟩; have e0 := sV_inj h.okS h'.okS (List.cons.inj e).1; have e1 := ruV_inj h.okR h'.okR (List.cons.inj (List.cons.inj e).2).1; subst e0 e1; rfl)
theorem iLn_call : ∀ xs v, iLn xs = some v → PCall Tryz.prog 46 xs v := fun xs v h0 => by obtain ⟨s, u, h, rfl, rfl⟩ := pimp_spec h0; exact w_line s u h
theorem w_PrintR6 (s : Sp) (h : okSp s) : PCall Tryz.prog 15 [sV s] (printSV s) := by
  have hcs := cSp_eq s
  have hnc := h.nc
  have hnr := h.nr
  have hfs : AVal.agg (cSp s) = sV s := rfl
  rw [hcs] at hfs
  unfold printSV
  refine PCall.of_w (fn := Tryz.f15) (Γ := gam [(16, .pure iR6R), (34, .pure iLnR)]) (mu := false) (Sound.pure iR6R_call (Sound.pure iLnR_call Sound.nil)) mixed Tryz.func15 rfl (by kernel_rfl) (by simp) (by kernel_rfl) ?_
  cases hr : rightS s
  · simp (disch := first | assumption | omega | exact okR_new | exact okR_one | exact trivial | (simp only [List.length_append, List.length_cons, List.length_nil]; omega) | (simp only [List.length_append, List.length_cons, List.length_nil, Nat.reduceAdd])) only [go_sem, e_go, e_cond_bool, e_w_bool, e_step_ite, e_reg_ite, e_regW_ite, e_code_ite, e_block_ite, e_evQ_ite, e_fin_ite, e_pair_ite, Tryz.f15, iR6R_eq, iLnR_eq, hcs, hr]
  · have hsp := rightS_spec hr
    have hbc := condsT_bd hr
    have hbl := linesT_bd h hr
    simp (disch := first | assumption | omega | exact okR_new | exact okR_one | exact trivial | (simp only [List.length_append, List.length_cons, List.length_nil]; omega) | (simp only [List.length_append, List.length_cons, List.length_nil, Nat.reduceAdd])) only [go_sem, e_go, e_cond_bool, e_w_bool, e_step_ite, e_reg_ite, e_regW_ite, e_code_ite, e_block_ite, e_evQ_ite, e_fin_ite, e_pair_ite, Tryz.f15, iR6R_eq, iLnR_eq, hcs, hr]
    refine w_loop [] [4, 5] (fun i : Nat => s.conds.length - i) (fun i => 1 ≤ i ∧ i ≤ s.conds.length) (fun i => ⟨[.cells 0 (cSp s)], []⟩)
      (fun i => [(4, .str (condsT ((s.conds.drop 1).take (i - 1)))), (5, .int .i64 (i : Nat))]) 1 (fun _ => rfl) (by kernel_rfl) ⟨Nat.le_refl _, hsp.1⟩ (by simp only [hcs]) (by simp [HasE, lk, condsT]) ?_
    rintro i ⟨hi1, hi⟩
    by_cases hlt : i < s.conds.length
    · have hg : s.conds[i]? = some s.conds[i] := by simp [hlt]
      have hc0 := fl_get0 cCd_len hg (by decide)
      have hc1 := fl_get cCd_len hg (j := 1) (by omega)
      simp only [cCd, List.getElem?_cons_zero, List.getElem?_cons_succ] at hc0 hc1
      have hle : i * 2 + 2 ≤ s.conds.length * 2 := by omega
      have hnx : condsT ((s.conds.drop 1).take i) = condsT ((s.conds.drop 1).take (i - 1)) ++ condT s.conds[i] := by
        have := condsT_next (q := s.conds.drop 1) (i := i - 1) (r := s.conds[i]) (by rw [List.getElem?_drop, show 1 + (i - 1) = i by omega]; exact hg)
        rw [← this, show i - 1 + 1 = i by omega]
      have hb1 := hbc (i - 1)
      have hnl := (hsp.2.2.2.1 _ (List.getElem_mem hlt)).2
      generalize s.conds[i] = d at *
      generalize condsT ((s.conds.drop 1).take (i - 1)) = A at *
      cases hx : d.ex
      · simp (disch := first | assumption | omega | exact okR_new | exact okR_one | exact trivial | (simp only [List.length_append, List.length_cons, List.length_nil]; omega) | (simp only [List.length_append, List.length_cons, List.length_nil, Nat.reduceAdd])) only [go_sem, e_go, e_cond_bool, e_w_bool, e_step_ite, e_reg_ite, e_regW_ite, e_code_ite, e_block_ite, e_evQ_ite, e_fin_ite, e_pair_ite, Tryz.f15, iR6R_eq, iLnR_eq, hcs, hc0, hc1, hx]
        exact ⟨i + 1, by show s.conds.length - (i + 1) < s.conds.length - i; omega, ⟨by omega, hlt⟩, by simp only [hcs], by simp only [HasE, lk, Nat.add_sub_cancel, hnx, condT, hx]; simp⟩
      · simp (disch := first | assumption | omega | exact okR_new | exact okR_one | exact trivial | (simp only [List.length_append, List.length_cons, List.length_nil]; omega) | (simp only [List.length_append, List.length_cons, List.length_nil, Nat.reduceAdd])) only [go_sem, e_go, e_cond_bool, e_w_bool, e_step_ite, e_reg_ite, e_regW_ite, e_code_ite, e_block_ite, e_evQ_ite, e_fin_ite, e_pair_ite, Tryz.f15, iR6R_eq, iLnR_eq, hcs, hc0, hc1, hx]
        exact ⟨i + 1, by show s.conds.length - (i + 1) < s.conds.length - i; omega, ⟨by omega, hlt⟩, by simp only [hcs], by simp only [HasE, lk, Nat.add_sub_cancel, hnx, condT, hx]; simp⟩
    · have hi' : i = s.conds.length := by omega
      subst hi'
      have hta : (s.conds.drop 1).take (s.conds.length - 1) = s.conds.drop 1 := List.take_of_length_le (by simp)
      have hb1 := hbc (s.conds.length - 1)
      rw [hta] at *
      have hp : printS s = condsT (s.conds.drop 1) ++ (headT s ++ linesT s.conds s.rules) := rfl
      rw [hp]
      generalize condsT (s.conds.drop 1) = A at *
      have hln : ∀ i (h' : i < s.rules.length), LnOk s s.rules[i] := fun i h' => h.line hr (List.getElem_mem h')
      generalize hB : A ++ headT s = B
      have hBl : B.length ≤ 160 := by rw [← hB]; unfold headT; cases s.deft <;> simp <;> omega
      rw [show A ++ (headT s ++ linesT s.conds s.rules) = B ++ linesT s.conds s.rules by rw [← hB]; simp]
      cases hd : s.deft
      · have hB' : A ++ [37, 110, 111, 100, 101, 102, 97, 117, 108, 116, 10] ++ [37, 37, 10] = B := by rw [← hB]; simp [headT, hd]
        simp only [hd] at hfs
        simp (disch := first | assumption | omega | exact okR_new | exact okR_one | exact trivial | (simp only [List.length_append, List.length_cons, List.length_nil]; omega) | (simp only [List.length_append, List.length_cons, List.length_nil, Nat.reduceAdd])) only [go_sem, e_go, e_cond_bool, e_w_bool, e_step_ite, e_reg_ite, e_regW_ite, e_code_ite, e_block_ite, e_evQ_ite, e_fin_ite, e_pair_ite, Tryz.f15, iR6R_eq, iLnR_eq, hcs, hfs, hd, hB']
        refine w_loop [] [4, 6] (fun i : Nat => s.rules.length - i) (fun i => i ≤ s.rules.length) (fun i => ⟨[.cells 0 (cSp s)], []⟩)
          (fun i => [(4, .str (B ++ linesT s.conds (s.rules.take i))), (6, .int .i64 (i : Nat))]) 0 (fun _ => rfl) (by kernel_rfl) (Nat.zero_le _) (by simp only [hcs, hd]) (by simp [HasE, lk, linesT]) ?_
        intro i hi
        have hb2 := hbl i
        by_cases hlt : i < s.rules.length
        · have hg : s.rules[i]? = some s.rules[i] := by simp [hlt]
          have hat := fl_at cRu_len hg
          have hle : i * 22 + 22 ≤ s.rules.length * 22 := by omega
          have hok := hln i hlt
          have hll := hok.line_len
          have hnx := linesT_next (l := s.conds) hg
          simp (disch := first | assumption | omega | exact okR_new | exact okR_one | exact trivial | (simp only [List.length_append, List.length_cons, List.length_nil]; omega) | (simp only [List.length_append, List.length_cons, List.length_nil, Nat.reduceAdd])) only [go_sem, e_go, e_cond_bool, e_w_bool, e_step_ite, e_reg_ite, e_regW_ite, e_code_ite, e_block_ite, e_evQ_ite, e_fin_ite, e_pair_ite, Tryz.f15, iR6R_eq, iLnR_eq, hcs, hfs, hd, hat]
          exact ⟨i + 1, dn hlt, hlt, by simp only [hcs, hd], by simp only [HasE, lk, hnx]; simp⟩
        · have hi' : i = s.rules.length := by omega
          subst hi'
          rw [List.take_length] at *
          simp (disch := first | assumption | omega | exact okR_new | exact okR_one | exact trivial | (simp only [List.length_append, List.length_cons, List.length_nil]; omega) | (simp only [List.length_append, List.length_cons, List.length_nil, Nat.reduceAdd])) only [go_sem, e_go, e_cond_bool, e_w_bool, e_step_ite, e_reg_ite, e_regW_ite, e_code_ite, e_block_ite, e_evQ_ite, e_fin_ite, e_pair_ite, Tryz.f15, iR6R_eq, iLnR_eq, hcs, hd, List.take_length]
      · have hB' : A ++ [37, 37, 10] = B := by rw [← hB]; simp [headT, hd]
        simp only [hd] at hfs
        simp (disch := first | assumption | omega | exact okR_new | exact okR_one | exact trivial | (simp only [List.length_append, List.length_cons, List.length_nil]; omega) | (simp only [List.length_append, List.length_cons, List.length_nil, Nat.reduceAdd])) only [go_sem, e_go, e_cond_bool, e_w_bool, e_step_ite, e_reg_ite, e_regW_ite, e_code_ite, e_block_ite, e_evQ_ite, e_fin_ite, e_pair_ite, Tryz.f15, iR6R_eq, iLnR_eq, hcs, hfs, hd, hB']
        refine w_loop [] [4, 6] (fun i : Nat => s.rules.length - i) (fun i => i ≤ s.rules.length) (fun i => ⟨[.cells 0 (cSp s)], []⟩)
          (fun i => [(4, .str (B ++ linesT s.conds (s.rules.take i))), (6, .int .i64 (i : Nat))]) 0 (fun _ => rfl) (by kernel_rfl) (Nat.zero_le _) (by simp only [hcs, hd]) (by simp [HasE, lk, linesT]) ?_
        intro i hi
        have hb2 := hbl i
        by_cases hlt : i < s.rules.length
        · have hg : s.rules[i]? = some s.rules[i] := by simp [hlt]
          have hat := fl_at cRu_len hg
          have hle : i * 22 + 22 ≤ s.rules.length * 22 := by omega
          have hok := hln i hlt
          have hll := hok.line_len
          have hnx := linesT_next (l := s.conds) hg
          simp (disch := first | assumption | omega | exact okR_new | exact okR_one | exact trivial | (simp only [List.length_append, List.length_cons, List.length_nil]; omega) | (simp only [List.length_append, List.length_cons, List.length_nil, Nat.reduceAdd])) only [go_sem, e_go, e_cond_bool, e_w_bool, e_step_ite, e_reg_ite, e_regW_ite, e_code_ite, e_block_ite, e_evQ_ite, e_fin_ite, e_pair_ite, Tryz.f15, iR6R_eq, iLnR_eq, hcs, hfs, hd, hat]
          exact ⟨i + 1, dn hlt, hlt, by simp only [hcs, hd], by simp only [HasE, lk, hnx]; simp⟩
        · have hi' : i = s.rules.length := by omega
          subst hi'
          rw [List.take_length] at *
          simp (disch := first | assumption | omega | exact okR_new | exact okR_one | exact trivial | (simp only [List.length_append, List.length_cons, List.length_nil]; omega) | (simp only [List.length_append, List.length_cons, List.length_nil, Nat.reduceAdd])) only [go_sem, e_go, e_cond_bool, e_w_bool, e_step_ite, e_reg_ite, e_regW_ite, e_code_ite, e_block_ite, e_evQ_ite, e_fin_ite, e_pair_ite, Tryz.f15, iR6R_eq, iLnR_eq, hcs, hd, List.take_length]
noncomputable def iPrR6 : List AVal → Option AVal := pimp fun xs r => ∃ (u : Sp), (okSp u) ∧ xs = [sV u] ∧ r = printSV u
theorem iPrR6_eq {u : Sp} (h : okSp u) : iPrR6 [sV u] = some (printSV u) := pimp_eq ⟨u, h, rfl, rfl⟩ (by rintro _ ⟨u', h', e, rfl⟩; have e0 := sV_inj h h' (List.cons.inj e).1; subst e0; rfl)
theorem iPrR6_call : ∀ xs v, iPrR6 xs = some v → PCall Tryz.prog 15 xs v := fun xs v h0 => by obtain ⟨u, h, rfl, rfl⟩ := pimp_spec h0; exact w_PrintR6 u h
end Go.Hk.DZD
