/- Layer 6: the texts of rules. -/
import Derived.Test.YtpbepclmcjmlbaaGreatDoorHkDZDS6
import Derived.Test.YtpbepclmcjmlbaaGreatDoorHkPh
set_option linter.unusedSimpArgs false
set_option linter.unusedVariables false
set_option maxRecDepth 20000
namespace Go.Hk.DZD
open Go.Proofs
theorem ti99 : tiOf Tryz.prog 99 = some { size := 1, bytes := 8, zero := some (.int .i64 0), k := .int .i64 } := by kernel_rfl
attribute [go_sem] ti99
theorem w_acS (n : Int) : PCall Tryz.prog 63 [.int .i64 n] (.str (if n = 1 then [101, 109, 105, 116] else if n = 2 then [115, 107, 105, 112] else [98, 101, 103, 105, 110])) := by
  refine PCall.of_w (fn := Tryz.f63) (Γ := gam []) (mu := false) Sound.nil mixed Tryz.func63 rfl (by kernel_rfl) (by simp) (by kernel_rfl) ?_
  by_cases h1 : n = 1
  · simp (disch := first | assumption | omega | exact okR_new | exact okR_one | exact trivial | (simp only [List.length_append, List.length_cons, List.length_nil]; omega) | (simp only [List.length_append, List.length_cons, List.length_nil, Nat.reduceAdd])) only [go_sem, e_go, e_cond_bool, e_w_bool, e_step_ite, e_reg_ite, e_regW_ite, e_code_ite, e_block_ite, e_evQ_ite, e_fin_ite, e_pair_ite, Tryz.f63, h1]
  · by_cases h2 : n = 2
    · simp (disch := first | assumption | omega | exact okR_new | exact okR_one | exact trivial | (simp only [List.length_append, List.length_cons, List.length_nil]; omega) | (simp only [List.length_append, List.length_cons, List.length_nil, Nat.reduceAdd])) only [go_sem, e_go, e_cond_bool, e_w_bool, e_step_ite, e_reg_ite, e_regW_ite, e_code_ite, e_block_ite, e_evQ_ite, e_fin_ite, e_pair_ite, Tryz.f63, h1, h2]
    · simp (disch := first | assumption | omega | exact okR_new | exact okR_one | exact trivial | (simp only [List.length_append, List.length_cons, List.length_nil]; omega) | (simp only [List.length_append, List.length_cons, List.length_nil, Nat.reduceAdd])) only [go_sem, e_go, e_cond_bool, e_w_bool, e_step_ite, e_reg_ite, e_regW_ite, e_code_ite, e_block_ite, e_evQ_ite, e_fin_ite, e_pair_ite, Tryz.f63, h1, h2]
noncomputable def iAcS : List AVal → Option AVal := pimp fun xs r => ∃ (n : Int), (True) ∧ xs = [.int .i64 n] ∧ r = .str (if n = 1 then [101, 109, 105, 116] else if n = 2 then [115, 107, 105, 112] else [98, 101, 103, 105, 110])
theorem iAcS_eq {n : Int} (h : True) : iAcS [.int .i64 n] = some (.str (if n = 1 then [101, 109, 105, 116] else if n = 2 then [115, 107, 105, 112] else [98, 101, 103, 105, 110])) := pimp_eq ⟨n, h, rfl, rfl⟩ (by rintro _ ⟨n', h', e, rfl⟩; have e0 := (List.cons.inj e).1; have e0r := (List.cons.inj e).2; have q0 := (AVal.int.inj e0).2; subst q0; first | rfl | exact ⟨rfl, rfl⟩)
theorem iAcS_call : ∀ xs v, iAcS xs = some v → PCall Tryz.prog 63 xs v := fun xs v h0 => by obtain ⟨n, h, rfl, rfl⟩ := pimp_spec h0; exact w_acS n
theorem w_ruT (q : Ru) (h : okRu q ∧ matchB q = true) : PCall Tryz.prog 62 [ruV q] (.str (ruT q)) := by
  obtain ⟨ho, hm⟩ := h
  have hx := ho.rx
  have hy := ho.tr
  have hcq := cRu_eq q
  simp only [matchB] at hm
  unfold ruT
  refine PCall.of_w (fn := Tryz.f62) (Γ := gam [(40, .pure iNo), (77, .pure iPr)]) (mu := false) (Sound.pure iNo_call (Sound.pure iPr_call Sound.nil)) mixed Tryz.func62 rfl (by kernel_rfl) (by simp) (by kernel_rfl) ?_
  cases he : q.eof
  · simp only [he, Bool.false_eq_true, if_false, Bool.and_eq_true] at hm ⊢
    obtain ⟨h1, h2⟩ := hm
    have l1 := text_short h1
    have p1 : printV q.rx = .tup (.str (text q.rx)) [.int .i64 0] := by unfold printV; rw [if_pos h1]
    cases hb : q.bol <;> cases hn : noneX q.trail
    all_goals (
      first
      | (have h3 : rightT q.trail = true := by simpa [hn] using h2
         have l2 := text_short h3
         have p2 : printV q.trail = .tup (.str (text q.trail)) [.int .i64 0] := by unfold printV; rw [if_pos h3]
         simp (disch := first | assumption | omega | exact okR_new | exact okR_one | exact trivial | (simp only [List.length_append, List.length_cons, List.length_nil]; omega) | (simp only [List.length_append, List.length_cons, List.length_nil, Nat.reduceAdd])) only [go_sem, e_go, e_cond_bool, e_w_bool, e_step_ite, e_reg_ite, e_regW_ite, e_code_ite, e_block_ite, e_evQ_ite, e_fin_ite, e_pair_ite, Tryz.f62, iNo_eq, iPr_eq, hcq, he, hb, hn, p1, p2]
         try simp)
      | (simp (disch := first | assumption | omega | exact okR_new | exact okR_one | exact trivial | (simp only [List.length_append, List.length_cons, List.length_nil]; omega) | (simp only [List.length_append, List.length_cons, List.length_nil, Nat.reduceAdd])) only [go_sem, e_go, e_cond_bool, e_w_bool, e_step_ite, e_reg_ite, e_regW_ite, e_code_ite, e_block_ite, e_evQ_ite, e_fin_ite, e_pair_ite, Tryz.f62, iNo_eq, iPr_eq, hcq, he, hb, hn, p1]
         try simp))
  · simp (disch := first | assumption | omega | exact okR_new | exact okR_one | exact trivial | (simp only [List.length_append, List.length_cons, List.length_nil]; omega) | (simp only [List.length_append, List.length_cons, List.length_nil, Nat.reduceAdd])) only [go_sem, e_go, e_cond_bool, e_w_bool, e_step_ite, e_reg_ite, e_regW_ite, e_code_ite, e_block_ite, e_evQ_ite, e_fin_ite, e_pair_ite, Tryz.f62, iNo_eq, iPr_eq, hcq, he]
noncomputable def iRuT : List AVal → Option AVal := pimp fun xs r => ∃ (u : Ru), (okRu u ∧ matchB u = true) ∧ xs = [ruV u] ∧ r = .str (ruT u)
theorem iRuT_eq {u : Ru} (h : okRu u ∧ matchB u = true) : iRuT [ruV u] = some (.str (ruT u)) := pimp_eq ⟨u, h, rfl, rfl⟩ (by rintro _ ⟨u', h', e, rfl⟩; have e0 := ruV_inj h.1 h'.1 (List.cons.inj e).1; subst e0; rfl)
theorem iRuT_call : ∀ xs v, iRuT xs = some v → PCall Tryz.prog 62 xs v := fun xs v h0 => by obtain ⟨u, h, rfl, rfl⟩ := pimp_spec h0; exact w_ruT u h
theorem w_head (s : Sp) (q : Ru) (h : LnOk s q) : PCall Tryz.prog 51 [sV s, ruV q] (.str (whereT s.conds q)) := by
  have hcd := h.cd
  have hj := h.join
  have hl := h.cl
  have hn8 := (rightS_spec h.rs).2.1
  have hcq := cRu_eq q
  have hcs := cSp_eq s
  unfold whereT
  refine PCall.of_w (fn := Tryz.f51) (Γ := gam []) (mu := false) Sound.nil mixed Tryz.func51 rfl (by kernel_rfl) (by simp) (by kernel_rfl) ?_
  cases ha : q.all
  · by_cases hz : q.conds.length = 0
    · simp (disch := first | assumption | omega | exact okR_new | exact okR_one | exact trivial | (simp only [List.length_append, List.length_cons, List.length_nil]; omega) | (simp only [List.length_append, List.length_cons, List.length_nil, Nat.reduceAdd])) only [go_sem, e_go, e_cond_bool, e_w_bool, e_step_ite, e_reg_ite, e_regW_ite, e_code_ite, e_block_ite, e_evQ_ite, e_fin_ite, e_pair_ite, Tryz.f51, hcq, hcs, ha, hz]
    · rw [if_neg (by simp), if_neg hz]
      generalize hL : q.conds.map (nameAt s.conds) = L at *
      have hLl : L.length = q.conds.length := by rw [← hL, List.length_map]
      simp (disch := first | assumption | omega | exact okR_new | exact okR_one | exact trivial | (simp only [List.length_append, List.length_cons, List.length_nil]; omega) | (simp only [List.length_append, List.length_cons, List.length_nil, Nat.reduceAdd])) only [go_sem, e_go, e_cond_bool, e_w_bool, e_step_ite, e_reg_ite, e_regW_ite, e_code_ite, e_block_ite, e_evQ_ite, e_fin_ite, e_pair_ite, Tryz.f51, hcq, hcs, ha, hz]
      refine w_loop [] [5, 6] (fun i : Nat => q.conds.length - i) (fun i => i ≤ q.conds.length) (fun i => ⟨[.cells 0 (cSp s), .cells 0 (cRu q)], []⟩)
        (fun i => [(5, .str (60 :: jo [44] L i)), (6, .int .i64 (i : Nat))]) 0 (fun _ => rfl) (by kernel_rfl) (Nat.zero_le _) (by simp only [hcs, hcq, ha]) (by simp [HasE, lk, jo, joinS]) ?_
      intro i hi
      have hb1 := jo_le (sep := [44]) (l := L) (i := i)
      by_cases h : i < q.conds.length
      · have hg : q.conds[i]? = some q.conds[i] := by simp [h]
        have hat := fl_get1 cI_len hg
        obtain ⟨k, hk⟩ : ∃ k : Nat, q.conds[i] = (k : Nat) := ⟨q.conds[i].toNat, by have := hcd _ (List.getElem_mem h); omega⟩
        have hk2 : k < s.conds.length := by have := hcd _ (List.getElem_mem h); omega
        have hgk : s.conds[k]? = some s.conds[k] := by simp [hk2]
        have hc0 := fl_get0 cCd_len hgk (by decide)
        simp only [cCd, List.getElem?_cons_zero] at hc0
        have hle : k * 2 + 2 ≤ s.conds.length * 2 := by omega
        have hgL : L[i]? = some (s.conds[k].name) := by rw [← hL, List.getElem?_map, hg, hk]; simp [nameAt_eq hgk]
        rw [hk] at hat
        have hb2 := jo_le (sep := [44]) (l := L) (i := i + 1)
        generalize s.conds[k] = d at *
        by_cases h0 : 0 < i
        · have hnx := jo_next (sep := [44]) h0 hgL
          rw [hnx] at hb2
          simp only [List.length_append, List.length_cons, List.length_nil] at hb2
          simp (disch := first | assumption | omega | exact okR_new | exact okR_one | exact trivial | (simp only [List.length_append, List.length_cons, List.length_nil]; omega) | (simp only [List.length_append, List.length_cons, List.length_nil, Nat.reduceAdd])) only [go_sem, e_go, e_cond_bool, e_w_bool, e_step_ite, e_reg_ite, e_regW_ite, e_code_ite, e_block_ite, e_evQ_ite, e_fin_ite, e_pair_ite, Tryz.f51, hcq, hcs, ha, hat, hc0, cI]
          exact ⟨i + 1, dn h, h, by simp only [hcs, hcq, ha], by simp [HasE, lk, hnx]⟩
        · have hi0 : i = 0 := by omega
          subst hi0
          have hnx := jo_first (sep := [44]) hgL
          have hz : ∀ sep, jo sep L 0 = [] := fun sep => by simp [jo, joinS]
          rw [hnx] at hb2
          simp (disch := first | assumption | omega | exact okR_new | exact okR_one | exact trivial | (simp only [List.length_append, List.length_cons, List.length_nil]; omega) | (simp only [List.length_append, List.length_cons, List.length_nil, Nat.reduceAdd])) only [go_sem, e_go, e_cond_bool, e_w_bool, e_step_ite, e_reg_ite, e_regW_ite, e_code_ite, e_block_ite, e_evQ_ite, e_fin_ite, e_pair_ite, Tryz.f51, hcq, hcs, ha, hat, hc0, cI, hz]
          exact ⟨1, dn h, h, by simp only [hcs, hcq, ha], by simp [HasE, lk, hnx]⟩
      · have hi' : i = q.conds.length := by omega
        subst hi'
        have hja := jo_all (sep := [44]) (l := L)
        rw [hLl] at hja
        simp (disch := first | assumption | omega | exact okR_new | exact okR_one | exact trivial | (simp only [List.length_append, List.length_cons, List.length_nil]; omega) | (simp only [List.length_append, List.length_cons, List.length_nil, Nat.reduceAdd])) only [go_sem, e_go, e_cond_bool, e_w_bool, e_step_ite, e_reg_ite, e_regW_ite, e_code_ite, e_block_ite, e_evQ_ite, e_fin_ite, e_pair_ite, Tryz.f51, hcq, hcs, ha, hja]
        try simp
  · simp (disch := first | assumption | omega | exact okR_new | exact okR_one | exact trivial | (simp only [List.length_append, List.length_cons, List.length_nil]; omega) | (simp only [List.length_append, List.length_cons, List.length_nil, Nat.reduceAdd])) only [go_sem, e_go, e_cond_bool, e_w_bool, e_step_ite, e_reg_ite, e_regW_ite, e_code_ite, e_block_ite, e_evQ_ite, e_fin_ite, e_pair_ite, Tryz.f51, hcq, hcs, ha]
noncomputable def iHd : List AVal → Option AVal := pimp fun xs r => ∃ (s : Sp) (u : Ru), (LnOk s u) ∧ xs = [sV s, ruV u] ∧ r = .str (whereT s.conds u)
theorem iHd_eq {s : Sp} {u : Ru} (h : LnOk s u) : iHd [sV s, ruV u] = some (.str (whereT s.conds u)) := pimp_eq ⟨s, u, h, rfl, rfl⟩ (by rintro _ ⟨s', u', h', e, rfl⟩; have e0 := sV_inj h.okS h'.okS (List.cons.inj e).1; have e1 := ruV_inj h.okR h'.okR (List.cons.inj (List.cons.inj e).2).1; subst e0 e1; rfl)
theorem iHd_call : ∀ xs v, iHd xs = some v → PCall Tryz.prog 51 xs v := fun xs v h0 => by obtain ⟨s, u, h, rfl, rfl⟩ := pimp_spec h0; exact w_head s u h
/-- What a line is made of. -/
def whoT (q : Ru) : List UInt8 := (if q.bol then [94] else []) ++ (if q.eof then [60, 60, 69, 79, 70, 62, 62] else text q.rx)
def traT (q : Ru) : List UInt8 := if noneX q.trail then [] else 47 :: text q.trail
theorem ruT_parts {q : Ru} (h : matchB q = true) : ruT q = whoT q ++ traT q := by
  unfold ruT whoT traT
  cases he : q.eof
  · simp
  · simp only [matchB, he, if_true, Bool.and_eq_true, Bool.not_eq_true'] at h
    simp [h.1.1, h.2]
theorem w_lineR (s : Sp) (q : Ru) (h : LnOk s q) : PCall Tryz.prog 34 [sV s, ruV q] (.str (lineT s.conds q)) := by
  have b1 := h.where_len
  have hcq := cRu_eq q
  have hcs := cSp_eq s
  have hn8 := (rightS_spec h.rs).2.1
  have hm := h.rx
  have hmm := h.mt
  have hact := h.act
  have hwho : (q.eof = false → okT q.rx) := fun he => ⟨⟨h.okR.rx.rt (hm he).1, rightT_in (hm he).1⟩, by have := text_short (hm he).1; omega⟩
  have htra : (noneX q.trail = false → okT q.trail ∧ q.trail.k ≠ 0 ∧ (text q.trail).length < 2400000) := fun hn => by
    cases he : q.eof
    · have h2 := (hm he).2 hn
      have h3 := text_short h2
      refine ⟨⟨⟨h.okR.tr.rt h2, rightT_in h2⟩, by omega⟩, ?_, h3⟩
      rcases (rightT_in h2).cases with h | h | h | h <;> omega
    · simp only [matchB, he, if_true, Bool.and_eq_true, Bool.not_eq_true'] at hmm
      rw [hn] at hmm; exact absurd hmm.2 (by simp)
  have hnon : noneX q.trail = true → q.trail.k = 0 := fun hn => by rw [noneX_eq hn]; rfl
  have hw : (whoT q).length ≤ 2400010 := by
    unfold whoT
    cases he : q.eof
    · have := text_short (hm he).1
      cases q.bol <;> simp <;> omega
    · cases q.bol <;> simp
  have hto : 0 ≤ q.to → q.to < s.conds.length → ∃ k : Nat, ∃ hk : k < s.conds.length, q.to = (k : Nat) ∧ nameAt s.conds q.to = (s.conds[k]).name ∧ (s.conds[k]).name.length ≤ 12 := fun h1 h2 => by
    obtain ⟨k, hk'⟩ : ∃ k : Nat, q.to = (k : Nat) := ⟨q.to.toNat, by omega⟩
    have hk : k < s.conds.length := by omega
    exact ⟨k, hk, hk', by rw [hk']; exact nameAt_eq (by simp [hk]), ((rightS_spec h.rs).2.2.2.1 _ (List.getElem_mem hk)).2⟩
  have hgoal : lineT s.conds q = whereT s.conds q ++ whoT q ++ traT q ++ (actT s.conds q ++ [10]) := by rw [lineT, ruT_parts hmm]; simp
  rw [hgoal]
  have ht : (traT q).length ≤ 2400000 := by
    unfold traT
    cases hn : noneX q.trail
    · have := (htra hn).2.2; simp; omega
    · simp
  clear hgoal
  have hfq : AVal.agg (cRu q) = ruV q := rfl
  rw [hcq] at hfq
  refine PCall.of_w (fn := Tryz.f34) (Γ := gam [(51, .pure iHd), (52, .pure iTxR)]) (mu := false) (Sound.pure iHd_call (Sound.pure iTxR_call Sound.nil)) mixed Tryz.func34 rfl (by kernel_rfl) (by simp) (by kernel_rfl) ?_
  cases he : q.eof
  · have hok := hwho he
    have hl1 := text_short (hm he).1
    cases hb : q.bol <;> cases hn : noneX q.trail
    all_goals (
      first
      | (guard_hyp hn : noneX q.trail = false
         obtain ⟨hok2, hk2, hl2⟩ := htra hn
         have hd : decide (q.trail.k = 0) = false := by simp [hk2]
         simp only [whoT, traT, he, hb, hn]
         simp only [he, hb] at hfq
         rcases hact with ⟨ha, hr1, hr2⟩ | ha | ha
         · obtain ⟨k, hk, hto', hnm, hnl⟩ := hto hr1 hr2
           have hgk : s.conds[k]? = some s.conds[k] := by simp [hk]
           have hc0 := fl_get0 cCd_len hgk (by decide)
           simp only [cCd, List.getElem?_cons_zero] at hc0
           have hle : k * 2 + 2 ≤ s.conds.length * 2 := by omega
           simp only [actT, ha, hnm]
           simp only [ha, hto'] at hfq
           generalize s.conds[k] = d at *
           simp (disch := first | assumption | omega | exact okR_new | exact okR_one | exact trivial | (simp only [List.length_append, List.length_cons, List.length_nil]; omega) | (simp only [List.length_append, List.length_cons, List.length_nil, Nat.reduceAdd])) only [go_sem, e_go, e_cond_bool, e_w_bool, e_step_ite, e_reg_ite, e_regW_ite, e_code_ite, e_block_ite, e_evQ_ite, e_fin_ite, e_pair_ite, Tryz.f34, iHd_eq, iTxR_eq, hcq, hcs, hfq, he, hb, hn, hd, hk2, ha, hto', hc0]
           simp
         · simp only [actT, ha]
           simp only [ha] at hfq
           simp (disch := first | assumption | omega | exact okR_new | exact okR_one | exact trivial | (simp only [List.length_append, List.length_cons, List.length_nil]; omega) | (simp only [List.length_append, List.length_cons, List.length_nil, Nat.reduceAdd])) only [go_sem, e_go, e_cond_bool, e_w_bool, e_step_ite, e_reg_ite, e_regW_ite, e_code_ite, e_block_ite, e_evQ_ite, e_fin_ite, e_pair_ite, Tryz.f34, iHd_eq, iTxR_eq, hcq, hcs, hfq, he, hb, hn, hd, hk2, ha]
           simp
         · simp only [actT, ha]
           simp only [ha] at hfq
           simp (disch := first | assumption | omega | exact okR_new | exact okR_one | exact trivial | (simp only [List.length_append, List.length_cons, List.length_nil]; omega) | (simp only [List.length_append, List.length_cons, List.length_nil, Nat.reduceAdd])) only [go_sem, e_go, e_cond_bool, e_w_bool, e_step_ite, e_reg_ite, e_regW_ite, e_code_ite, e_block_ite, e_evQ_ite, e_fin_ite, e_pair_ite, Tryz.f34, iHd_eq, iTxR_eq, hcq, hcs, hfq, he, hb, hn, hd, hk2, ha]
           simp)
      | (guard_hyp hn : noneX q.trail = true
         have hk2 := hnon hn
         simp only [whoT, traT, he, hb, hn]
         simp only [he, hb, hk2] at hfq
         rcases hact with ⟨ha, hr1, hr2⟩ | ha | ha
         · obtain ⟨k, hk, hto', hnm, hnl⟩ := hto hr1 hr2
           have hgk : s.conds[k]? = some s.conds[k] := by simp [hk]
           have hc0 := fl_get0 cCd_len hgk (by decide)
           simp only [cCd, List.getElem?_cons_zero] at hc0
           have hle : k * 2 + 2 ≤ s.conds.length * 2 := by omega
           simp only [actT, ha, hnm]
           simp only [ha, hto'] at hfq
           generalize s.conds[k] = d at *
           simp (disch := first | assumption | omega | exact okR_new | exact okR_one | exact trivial | (simp only [List.length_append, List.length_cons, List.length_nil]; omega) | (simp only [List.length_append, List.length_cons, List.length_nil, Nat.reduceAdd])) only [go_sem, e_go, e_cond_bool, e_w_bool, e_step_ite, e_reg_ite, e_regW_ite, e_code_ite, e_block_ite, e_evQ_ite, e_fin_ite, e_pair_ite, Tryz.f34, iHd_eq, iTxR_eq, hcq, hcs, hfq, he, hb, hn, hk2, ha, hto', hc0]
           simp
         · simp only [actT, ha]
           simp only [ha] at hfq
           simp (disch := first | assumption | omega | exact okR_new | exact okR_one | exact trivial | (simp only [List.length_append, List.length_cons, List.length_nil]; omega) | (simp only [List.length_append, List.length_cons, List.length_nil, Nat.reduceAdd])) only [go_sem, e_go, e_cond_bool, e_w_bool, e_step_ite, e_reg_ite, e_regW_ite, e_code_ite, e_block_ite, e_evQ_ite, e_fin_ite, e_pair_ite, Tryz.f34, iHd_eq, iTxR_eq, hcq, hcs, hfq, he, hb, hn, hk2, ha]
           simp
         · simp only [actT, ha]
           simp only [ha] at hfq
           simp (disch := first | assumption | omega | exact okR_new | exact okR_one | exact trivial | (simp only [List.length_append, List.length_cons, List.length_nil]; omega) | (simp only [List.length_append, List.length_cons, List.length_nil, Nat.reduceAdd])) only [go_sem, e_go, e_cond_bool, e_w_bool, e_step_ite, e_reg_ite, e_regW_ite, e_code_ite, e_block_ite, e_evQ_ite, e_fin_ite, e_pair_ite, Tryz.f34, iHd_eq, iTxR_eq, hcq, hcs, hfq, he, hb, hn, hk2, ha]
           simp))
  · simp only [matchB, he, if_true, Bool.and_eq_true, Bool.not_eq_true'] at hmm
    obtain ⟨⟨hb, _⟩, hn⟩ := hmm
    have hk2 := hnon hn
    simp only [whoT, traT, he, hb, hn]
    simp only [he, hb, hk2] at hfq
    rcases hact with ⟨ha, hr1, hr2⟩ | ha | ha
    · obtain ⟨k, hk, hto', hnm, hnl⟩ := hto hr1 hr2
      have hgk : s.conds[k]? = some s.conds[k] := by simp [hk]
      have hc0 := fl_get0 cCd_len hgk (by decide)
      simp only [cCd, List.getElem?_cons_zero] at hc0
      have hle : k * 2 + 2 ≤ s.conds.length * 2 := by omega
      simp only [actT, ha, hnm]
      simp only [ha, hto'] at hfq
      generalize s.conds[k] = d at *
      simp (disch := first | assumption | omega | exact okR_new | exact okR_one | exact trivial | (simp only [List.length_append, List.length_cons, List.length_nil]; omega) | (simp only [List.length_append, List.length_cons, List.length_nil, Nat.reduceAdd])) only [go_sem, e_go, e_cond_bool, e_w_bool, e_step_ite, e_reg_ite, e_regW_ite, e_code_ite, e_block_ite, e_evQ_ite, e_fin_ite, e_pair_ite, Tryz.f34, iHd_eq, iTxR_eq, hcq, hcs, hfq, he, hb, hn, hk2, ha, hto', hc0]
      simp
    · simp only [actT, ha]
      simp only [ha] at hfq
      simp (disch := first | assumption | omega | exact okR_new | exact okR_one | exact trivial | (simp only [List.length_append, List.length_cons, List.length_nil]; omega) | (simp only [List.length_append, List.length_cons, List.length_nil, Nat.reduceAdd])) only [go_sem, e_go, e_cond_bool, e_w_bool, e_step_ite, e_reg_ite, e_regW_ite, e_code_ite, e_block_ite, e_evQ_ite, e_fin_ite, e_pair_ite, Tryz.f34, iHd_eq, iTxR_eq, hcq, hcs, hfq, he, hb, hn, hk2, ha]
      simp
    · simp only [actT, ha]
      simp only [ha] at hfq
      simp (disch := first | assumption | omega | exact okR_new | exact okR_one | exact trivial | (simp only [List.length_append, List.length_cons, List.length_nil]; omega) | (simp only [List.length_append, List.length_cons, List.length_nil, Nat.reduceAdd])) only [go_sem, e_go, e_cond_bool, e_w_bool, e_step_ite, e_reg_ite, e_regW_ite, e_code_ite, e_block_ite, e_evQ_ite, e_fin_ite, e_pair_ite, Tryz.f34, iHd_eq, iTxR_eq, hcq, hcs, hfq, he, hb, hn, hk2, ha]
      simp
noncomputable def iLnR : List AVal → Option AVal := pimp fun xs r => ∃ (s : Sp) (u : Ru), (LnOk s u) ∧ xs = [sV s, ruV u] ∧ r = .str (lineT s.conds u)
theorem iLnR_eq {s : Sp} {u : Ru} (h : LnOk s u) : iLnR [sV s, ruV u] = some (.str (lineT s.conds u)) := pimp_eq ⟨s, u, h, rfl, rfl⟩ (by rintro _ ⟨s', u', h', e, rfl⟩; have e0 := sV_inj h.okS h'.okS (List.cons.inj e).1; have e1 := ruV_inj h.okR h'.okR (List.cons.inj (List.cons.inj e).2).1; subst e0 e1; rfl)
theorem iLnR_call : ∀ xs v, iLnR xs = some v → PCall Tryz.prog 34 xs v := fun xs v h0 => by obtain ⟨s, u, h, rfl, rfl⟩ := pimp_spec h0; exact w_lineR s u h
end Go.Hk.DZD
