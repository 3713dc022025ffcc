/- Layer 6: the text, by a range over a function. -/
import Derived.Test.YtpbepclmcjmlbaaGreatDoorHkDZDS8
import Derived.Test.YtpbepclmcjmlbaaGreatDoorHkRg
set_option linter.unusedSimpArgs false
set_option linter.unusedVariables false
set_option maxRecDepth 20000
namespace Go.Hk.DZD
open Go.Proofs
theorem ti57 : tiOf Tryz.prog 57 = some { size := 1, bytes := 8, zero := some (.nilf), k := .func } := by kernel_rfl
attribute [go_sem] ti57
theorem ti68 : tiOf Tryz.prog 68 = some { size := 1, bytes := 8, zero := some (.nilf), k := .func } := by kernel_rfl
attribute [go_sem] ti68
theorem ti69 : tiOf Tryz.prog 69 = some { size := 1, bytes := 8, zero := some (.nilf), k := .func } := by kernel_rfl
attribute [go_sem] ti69
def rgOf : Code → Option (Operand × Array Tmp × Code × Code)
  | .rangeFunc g ps a b => some (g, ps, a, b)
  | .seq a b => (rgOf a).orElse fun _ => rgOf b
  | .cond _ a b => (rgOf a).orElse fun _ => rgOf b
  | .block _ a => rgOf a
  | .loop a => rgOf a
  | _ => none
theorem y_Print {g : Operand} {ps : Array Tmp} {asg body : Code} (hrg : Tryz.f12.body.bind rgOf = some (g, ps, asg, body)) {env : List (Nat × AVal)} {H : List ABlk} {T : List (Nat × (Nat × Nat))} {l : List UInt8} {m' : AMem}
    (he : lk env 4 = .tpt 67 1 2) (h3 : H[3]? = some (.loop .ready none ps asg body env 16)) (hl : l.length + 1 < 1000000000)
    (hw : ∀ v, bldR 67 5 v 1 H T (l ++ [10]) H[1]? = some (v, m')) : YCall Tryz.prog 3 [.str l] ⟨H, T⟩ (.bool true) m' := by
  simp only [Tryz.f12, rgOf, Option.orElse, Option.bind_some, Option.some.injEq, Prod.mk.injEq] at hrg
  obtain ⟨rfl, rfl, rfl, rfl⟩ := hrg
  have hlen : H.length ≤ m'.H.length ∧ T.length ≤ m'.T.length ∧ ∃ x, m'.H = H.set 1 x ∧ ∀ v y, bldR 67 5 v 1 (H.set 3 y) T (l ++ [10]) (H.set 3 y)[1]? = some (v, ⟨(H.set 3 y).set 1 x, m'.T⟩) := by
    have h := bld_cases (hw .undef)
    have hg : ∀ y, (H.set 3 y)[1]? = H[1]? := fun y => List.getElem?_set_ne (by decide)
    rcases h.2 with ⟨h1, h2 | h2, rfl⟩ | ⟨t, s, h2, h4, h5, rfl⟩
    · exact ⟨by simp, by simp, _, rfl, fun v y => by rw [hg, h2]; exact bld_new h1⟩
    · exact ⟨by simp, by simp, _, rfl, fun v y => by rw [hg, h2]; exact bld_nil h1⟩
    · exact ⟨by simp, by simp, _, rfl, fun v y => by rw [hg, h2]; exact bld_on h4 rfl h5⟩
  obtain ⟨hH, hT, x, hx, hb⟩ := hlen
  have h31 : ∀ y, ((H.set 3 y).set 1 x)[3]? = some y := fun y => by
    rw [List.getElem?_set_ne (by decide)]; exact List.getElem?_set_self (List.getElem?_eq_some_iff.1 h3).1
  refine YCall.of_w (mu := false) (Γ := gam [(8, .pure iR6), (28, .raw (iWS 67 5)), (29, .raw (iBS 67 5))]) (Sound.pure iR6_call (Sound.raw iWS_call (Sound.raw iBS_call Sound.nil))) mixed h3 rfl (by kernel_rfl) rfl rfl hH hT (by kernel_rfl) (by kernel_rfl) ?_
  simp only [bindP, List.zip_cons_cons, List.zip_nil_right, List.foldl_cons, List.foldl_nil]
  simp (disch := first | assumption | omega | exact okR_new | exact okR_one | exact trivial | (simp only [List.length_append, List.length_cons, List.length_nil]; omega) | (simp only [List.length_append, List.length_cons, List.length_nil, Nat.reduceAdd])) only [go_sem, e_go, e_cond_bool, e_w_bool, e_step_ite, e_reg_ite, e_regW_ite, e_code_ite, e_block_ite, e_evQ_ite, e_fin_ite, e_pair_ite, Tryz.f12, iR6_eq, iWS_eq, bld_new, bld_nil, bld_on, bld_on0, iBS_eq, bst_on, bst_nil, he, h3, hb]
  refine ⟨⟨_, _, h31 _⟩, rfl, .inl ?_⟩
  obtain ⟨mH, mT⟩ := m'
  simp only at hx
  subst hx
  simp only [set_back h3 (show 3 ≠ 1 by decide)]
theorem yp_Print {g : Operand} {ps : Array Tmp} {asg body : Code} (hrg : Tryz.f12.body.bind rgOf = some (g, ps, asg, body)) {env : List (Nat × AVal)} (he : lk env 4 = .tpt 67 1 2) :
    ∀ args m r m', iYp 67 5 (.loop .ready none ps asg body env 16) args m = some (r, m') → YCall Tryz.prog 3 args m r m' := by
  rintro args ⟨H, T⟩ r m' h
  obtain ⟨l, rfl, h3, hl, rfl, hw⟩ := iYp_spec h
  exact y_Print hrg he h3 hl hw
theorem w_lines1 {lp : ABlk} (hy : ∀ args m r m', iYp 67 5 lp args m = some (r, m') → YCall Tryz.prog 3 args m r m') (hcl : ∀ t, cloB 4 t lp = true) (s : Sp) (h : okSp s) (hr : rightS s = true) :
    RCall Tryz.prog 45 [.yld 3, .ptr 2 0 0] ⟨[.cells 0 (cSp s), bB 67 [], .cells 0 (cSp s), lp], []⟩ .undef ⟨[.cells 0 (cSp s), bB 67 (printS s), .cells 0 (cSp s), lp], bT 5 (printS s)⟩ := by
  have hcs := cSp_eq s
  have hnc := h.nc
  have hnr := h.nr
  have hsp := rightS_spec hr
  have hbc := condsT_bd hr
  have hbl := linesT_bd h hr
  have hfs : AVal.agg (cSp s) = sV s := rfl
  rw [hcs] at hfs
  have hne : ∀ t : List UInt8, printS s = t → t ≠ [] := fun t e => by rw [← e]; unfold printS headT; cases s.deft <;> simp
  have hdrop : List.drop 2 (fl cCd s.conds) = fl cCd (s.conds.drop 1) := by
    have := fl_drop cCd_len s.conds 1
    simpa using this
  have hCl : (s.conds.drop 1).length = s.conds.length - 1 := by simp
  have hp : printS s = condsT (s.conds.drop 1) ++ (headT s ++ linesT s.conds s.rules) := rfl
  have hCm : ∀ c ∈ s.conds.drop 1, c.name.length ≤ 12 := fun c hc => (hsp.2.2.2.1 c (List.mem_of_mem_drop hc)).2
  rw [hp] at *
  refine RCall.of_w (fn := Tryz.f45) (Γ := gamg [] true (yOf 3 (iYp 67 5 lp)) 0 [(46, .pure iLn)]) (mu := false) (by simp) (by simp) (Sound.y (hy) (Sound.pure iLn_call Sound.nil)) mixed Tryz.func45 rfl (by kernel_rfl) (by simp) (by kernel_rfl) ?_
  have hn1 : s.conds.length - 1 = (s.conds.drop 1).length := by simp
  have htk : List.take ((s.conds.drop 1).length * 2) (fl cCd (s.conds.drop 1)) = fl cCd (s.conds.drop 1) := List.take_of_length_le (by rw [fl_len cCd_len]; exact Nat.le_refl _)
  simp (disch := first | assumption | omega | exact okR_new | exact okR_one | exact trivial | (simp only [List.length_append, List.length_cons, List.length_nil]; omega) | (simp only [List.length_append, List.length_cons, List.length_nil, Nat.reduceAdd])) only [go_sem, e_go, e_cond_bool, e_w_bool, e_step_ite, e_reg_ite, e_regW_ite, e_code_ite, e_block_ite, e_evQ_ite, e_fin_ite, e_pair_ite, Tryz.f45, iLn_eq, hcs, hdrop, hn1, htk]
  generalize hC : s.conds.drop 1 = C at *
  have hne0 : ∀ i (h : i < C.length) t, (condsT (C.take i) ++ t = [] → (condsT (C.take i) = [] ∧ t = [])) := fun i h t e => List.append_eq_nil_iff.1 e
  refine w_loopc [] [12] (fun i : Nat => C.length - i) (fun i => i ≤ C.length) (fun i => ⟨[.cells 0 (cSp s), bB 67 (condsT (C.take i)), .cells 0 (cSp s), lp], bT 5 (condsT (C.take i))⟩)
    (fun i => [(12, .int .i64 (i : Nat))]) 0 (fun _ => rfl) (by kernel_rfl) (Nat.zero_le _) ⟨[], [], by simp only [hcs, List.append_nil]; rfl⟩ (by simp [HasE, lk]) ?_ ?_
  · intro i hi
    have hb := c_bB (B := 67) (h := 4) (k := (bT 5 (condsT (C.take i))).length) (t := condsT (C.take i)) (by decide) (fun h => by unfold bT; rw [if_neg h]; simp)
    have hc2 := hcl (bT 5 (condsT (C.take i))).length
    simp (disch := assumption) [cloE, clo, cloL, show ∀ h t e cs, cloB h t (.cells e cs) = cloL h t cs from fun _ _ _ _ => rfl, c_Rno, c_cSp, c_sV, hb, hc2, c_flCd, c_flRu]
  intro i hi
  by_cases hlt : i < C.length
  · have hg : C[i]? = some C[i] := by simp [hlt]
    have hat := fl_at cCd_len hg
    have hle : i * 2 + 2 ≤ C.length * 2 := by omega
    have hnx := condsT_next hg
    have hb1 := hbc i
    have hnl := hCm _ (List.getElem_mem hlt)
    generalize C[i] = d at *
    cases hx : d.ex
    · simp (disch := first | assumption | omega | exact okR_new | exact okR_one | exact trivial | (simp only [List.length_append, List.length_cons, List.length_nil]; omega) | (simp only [List.length_append, List.length_cons, List.length_nil, Nat.reduceAdd])) only [go_sem, e_go, e_cond_bool, e_w_bool, e_step_ite, e_reg_ite, e_regW_ite, e_code_ite, e_block_ite, e_evQ_ite, e_fin_ite, e_pair_ite, Tryz.f45, iLn_eq, hcs, hat, cCd, hx, iYp_on]
      exact ⟨i + 1, dn hlt, hlt, ⟨[.cells 0 [.str d.name, .bool d.ex]], [], by simp only [hcs, hnx, condT, hx, List.append_nil]; simp⟩, by simp [HasE, lk]⟩
    · simp (disch := first | assumption | omega | exact okR_new | exact okR_one | exact trivial | (simp only [List.length_append, List.length_cons, List.length_nil]; omega) | (simp only [List.length_append, List.length_cons, List.length_nil, Nat.reduceAdd])) only [go_sem, e_go, e_cond_bool, e_w_bool, e_step_ite, e_reg_ite, e_regW_ite, e_code_ite, e_block_ite, e_evQ_ite, e_fin_ite, e_pair_ite, Tryz.f45, iLn_eq, hcs, hat, cCd, hx, iYp_on]
      exact ⟨i + 1, dn hlt, hlt, ⟨[.cells 0 [.str d.name, .bool d.ex]], [], by simp only [hcs, hnx, condT, hx, List.append_nil]; simp⟩, by simp [HasE, lk]⟩
  · have hi' : i = C.length := by omega
    subst hi'
    have hb1 := hbc C.length
    rw [List.take_length] at *
    generalize condsT C = A at *
    have hln : ∀ i (h' : i < s.rules.length), LnOk s s.rules[i] := fun i h' => h.line hr (List.getElem_mem h')
    generalize hB : A ++ headT s = B
    have hBl : B.length ≤ 160 := by rw [← hB]; unfold headT; cases s.deft <;> simp <;> omega
    have hBn : B ≠ [] := by rw [← hB]; unfold headT; cases s.deft <;> simp
    rw [show A ++ (headT s ++ linesT s.conds s.rules) = B ++ linesT s.conds s.rules by rw [← hB]; simp]
    cases hd : s.deft
    all_goals (
      simp only [hd] at hfs
      simp (disch := first | assumption | omega | exact okR_new | exact okR_one | exact trivial | (simp only [List.length_append, List.length_cons, List.length_nil]; omega) | (simp only [List.length_append, List.length_cons, List.length_nil, Nat.reduceAdd])) only [go_sem, e_go, e_cond_bool, e_w_bool, e_step_ite, e_reg_ite, e_regW_ite, e_code_ite, e_block_ite, e_evQ_ite, e_fin_ite, e_pair_ite, Tryz.f45, iLn_eq, hcs, hd, iYp_on]
      refine w_loopc [] [42] (fun i : Nat => s.rules.length - i) (fun i => i ≤ s.rules.length) (fun i => ⟨[.cells 0 (cSp s), bB 67 (B ++ linesT s.conds (s.rules.take i)), .cells 0 (cSp s), lp], bT 5 (B ++ linesT s.conds (s.rules.take i))⟩)
        (fun i => [(42, .int .i64 (i : Nat))]) 0 (fun _ => rfl) (by kernel_rfl) (Nat.zero_le _) ⟨[], [], by simp only [hcs, List.append_nil, ← hB, headT, hd]; simp [linesT]⟩ (by simp [HasE, lk]) ?_ ?_
      · intro i hi
        have hb := c_bB (B := 67) (h := 4) (k := (bT 5 (B ++ linesT s.conds (s.rules.take i))).length) (t := B ++ linesT s.conds (s.rules.take i)) (by decide) (fun h => by unfold bT; rw [if_neg h]; simp)
        have hc2 := hcl (bT 5 (B ++ linesT s.conds (s.rules.take i))).length
        simp (disch := assumption) [cloE, clo, cloL, show ∀ h t e cs, cloB h t (.cells e cs) = cloL h t cs from fun _ _ _ _ => rfl, c_Rno, c_cSp, c_sV, hb, hc2, c_flCd, c_flRu]
      intro i hi
      have hb2 := hbl i
      by_cases hlt : i < s.rules.length
      · have hg : s.rules[i]? = some s.rules[i] := by simp [hlt]
        have hat := fl_at cRu_len hg
        have hle : i * 22 + 22 ≤ s.rules.length * 22 := by omega
        have hok := hln i hlt
        have hll := hok.line_len
        have hnx := linesT_next (l := s.conds) hg
        rw [← lin0_eq] at hnx hll
        simp only [List.length_append, List.length_cons, List.length_nil] at hll
        simp (disch := first | assumption | omega | exact okR_new | exact okR_one | exact trivial | (simp only [List.length_append, List.length_cons, List.length_nil]; omega) | (simp only [List.length_append, List.length_cons, List.length_nil, Nat.reduceAdd])) only [go_sem, e_go, e_cond_bool, e_w_bool, e_step_ite, e_reg_ite, e_regW_ite, e_code_ite, e_block_ite, e_evQ_ite, e_fin_ite, e_pair_ite, Tryz.f45, iLn_eq, hcs, hfs, hd, hat, iYp_on]
        exact ⟨i + 1, dn hlt, hlt, ⟨[.cells 0 (cRu s.rules[i])], [], by simp only [hcs, hd, hnx, List.append_nil]; simp⟩, by simp [HasE, lk]⟩
      · have hi' : i = s.rules.length := by omega
        subst hi'
        rw [List.take_length] at *
        simp (disch := first | assumption | omega | exact okR_new | exact okR_one | exact trivial | (simp only [List.length_append, List.length_cons, List.length_nil]; omega) | (simp only [List.length_append, List.length_cons, List.length_nil, Nat.reduceAdd])) only [go_sem, e_go, e_cond_bool, e_w_bool, e_step_ite, e_reg_ite, e_regW_ite, e_code_ite, e_block_ite, e_evQ_ite, e_fin_ite, e_pair_ite, Tryz.f45, iLn_eq, hcs, hd, List.take_length]
        exact .inl rfl)
open Classical in
/-- The lines, as a function to range over. -/
noncomputable def iLns (s : Sp) (xs : List AVal) (m : AMem) : Option (AVal × AMem) :=
  if xs = [sV s] ∧ m = ⟨[.cells 0 (cSp s), bB 67 []], []⟩ then some (.fn 45 [] [.ptr 2 0 0], ⟨[.cells 0 (cSp s), bB 67 [], .cells 0 (cSp s)], []⟩) else none
theorem iLns_call (s : Sp) : ∀ xs m v m', iLns s xs m = some (v, m') → RCall Tryz.prog 27 xs m v m' := by
  intro xs m v m' h
  unfold iLns at h
  split at h
  · rename_i hc
    obtain ⟨rfl, rfl⟩ := hc
    simp only [Option.some.injEq, Prod.mk.injEq] at h
    obtain ⟨rfl, rfl⟩ := h
    have hcs := cSp_eq s
    refine RCall.of_w (fn := Tryz.f27) (Γ := gam []) (mu := false) (by simp) (by simp) Sound.nil mixed Tryz.func27 rfl (by kernel_rfl) (by simp) (by kernel_rfl) ?_
    simp (disch := first | assumption | omega | exact okR_new | exact okR_one | exact trivial | (simp only [List.length_append, List.length_cons, List.length_nil]; omega) | (simp only [List.length_append, List.length_cons, List.length_nil, Nat.reduceAdd])) only [go_sem, e_go, e_cond_bool, e_w_bool, e_step_ite, e_reg_ite, e_regW_ite, e_code_ite, e_block_ite, e_evQ_ite, e_fin_ite, e_pair_ite, Tryz.f27, hcs]
    exact .inl rfl
  · cases h
theorem iLns_eq {s : Sp} : iLns s [sV s] ⟨[.cells 0 (cSp s), bB 67 []], []⟩ = some (.fn 45 [] [.ptr 2 0 0], ⟨[.cells 0 (cSp s), bB 67 [], .cells 0 (cSp s)], []⟩) := if_pos ⟨rfl, rfl⟩

theorem w_Print6 (s : Sp) (h : okSp s) : PCall Tryz.prog 12 [sV s] (printSV s) := by
  have hcs := cSp_eq s
  unfold printSV
  have hbn : ABlk.cells 0 [.nilp, .sl .nil 0 []] = bB 67 [] := rfl
  refine PCall.of_w (fn := Tryz.f12) (Γ := gamg [] false yNo 16 [(8, .pure iR6), (28, .raw (iWS 67 5)), (29, .raw (iBS 67 5)), (27, .raw (iLns s))]) (mu := false) (Sound.g (Sound.pure iR6_call (Sound.raw iWS_call (Sound.raw iBS_call (Sound.raw (iLns_call s) Sound.nil))))) mixed Tryz.func12 rfl (by kernel_rfl) (by simp) (by kernel_rfl) ?_
  cases hr : rightS s
  · simp (disch := first | assumption | omega | exact okR_new | exact okR_one | exact trivial | (simp only [List.length_append, List.length_cons, List.length_nil]; omega) | (simp only [List.length_append, List.length_cons, List.length_nil, Nat.reduceAdd])) only [go_sem, e_go, e_cond_bool, e_w_bool, e_step_ite, e_reg_ite, e_regW_ite, e_code_ite, e_block_ite, e_evQ_ite, e_fin_ite, e_pair_ite, Tryz.f12, iR6_eq, iWS_eq, bld_new, bld_nil, bld_on, bld_on0, iBS_eq, bst_on, bst_nil, iLns_eq, hr]
  · have hlq := iLns_eq (s := s)
    rw [hcs] at hlq
    simp (disch := first | assumption | omega | exact okR_new | exact okR_one | exact trivial | (simp only [List.length_append, List.length_cons, List.length_nil]; omega) | (simp only [List.length_append, List.length_cons, List.length_nil, Nat.reduceAdd])) only [go_sem, e_go, e_cond_bool, e_w_bool, e_step_ite, e_reg_ite, e_regW_ite, e_code_ite, e_block_ite, e_evQ_ite, e_fin_ite, e_pair_ite, Tryz.f12, iR6_eq, iWS_eq, bld_new, bld_nil, bld_on, bld_on0, iBS_eq, bst_on, bst_nil, iLns_eq, hr, hbn, hlq]
    have hpl : (printS s).length < 1000000000 := by
      have h1 := condsT_bd hr (s.conds.drop 1).length
      have h2 := linesT_bd h hr s.rules.length
      rw [List.take_length] at h1 h2
      unfold printS headT
      cases s.deft <;> simp <;> simp at h1 <;> omega
    have hpn : printS s ≠ [] := by unfold printS headT; cases s.deft <;> simp
    have hBp : bB 67 (printS s) = .cells 0 [.tpt 67 1 2, .sl (.tok 0) (printS s).length (fl cU (printS s))] := if_neg hpn
    have hTp : bT 5 (printS s) = [((printS s).length, (1, 5))] := if_neg hpn
    have hp0 : 0 < (printS s).length := List.length_pos_iff.2 hpn
    have hok : okR [((printS s).length, (1, 5))] (.tok 0) (printS s).length (1, 5) = true := by simp [okR]
    refine w_rangeFunc 45 [] [.ptr 2 0 0] .undef ⟨[.cells 0 (cSp s), bB 67 (printS s), .cells 0 (cSp s), _], bT 5 (printS s)⟩ .ready none rfl ?_ rfl (by decide) ?_
    · rw [← hcs]
      exact w_lines1 (yp_Print (by rfl) rfl) (fun t => by simp [cloB, clo, cloL, c_sV]) s h hr
    · rw [hBp, hTp]
      simp (disch := first | assumption | omega | exact okR_new | exact okR_one | exact trivial | (simp only [List.length_append, List.length_cons, List.length_nil]; omega) | (simp only [List.length_append, List.length_cons, List.length_nil, Nat.reduceAdd])) only [go_sem, e_go, e_cond_bool, e_w_bool, e_step_ite, e_reg_ite, e_regW_ite, e_code_ite, e_block_ite, e_evQ_ite, e_fin_ite, e_pair_ite, Tryz.f12, iR6_eq, iWS_eq, bld_new, bld_nil, bld_on, bld_on0, iBS_eq, bst_on, bst_nil, iLns_eq, hcs, pendQ, hok]
noncomputable def iPr6 : List AVal → Option AVal := pimp fun xs r => ∃ (u : Sp), (okSp u) ∧ xs = [sV u] ∧ r = printSV u
theorem iPr6_eq {u : Sp} (h : okSp u) : iPr6 [sV u] = some (printSV u) := pimp_eq ⟨u, h, rfl, rfl⟩ (by rintro _ ⟨u', h', e, rfl⟩; have e0 := sV_inj h h' (List.cons.inj e).1; subst e0; rfl)
theorem iPr6_call : ∀ xs v, iPr6 xs = some v → PCall Tryz.prog 12 xs v := fun xs v h0 => by obtain ⟨u, h, rfl, rfl⟩ := pimp_spec h0; exact w_Print6 u h
end Go.Hk.DZD
