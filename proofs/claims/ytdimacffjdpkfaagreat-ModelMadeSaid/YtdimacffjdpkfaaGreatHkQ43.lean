import Derived.Test.YtdimacffjdpkfaaGreatHkQ42
import Derived.Test.YtdimacffjdpkfaaGreatHkQ27
import Derived.Test.YtdimacffjdpkfaaGreatHkQ16
set_option linter.unusedSimpArgs false
set_option linter.unusedVariables false
set_option maxRecDepth 20000
set_option maxHeartbeats 1000000
namespace Go.Hk.MZ
open Go.Proofs

noncomputable def iEfRq : List AVal → Option AVal := pimp fun xs r => ∃ (u : Sp) (w : List UInt8) (i c : Int), (okSp u ∧ rightS u = true ∧ w.length ≤ 10000) ∧ xs = [sV u, .str w, .int .i64 i, .int .i64 c] ∧ r = .tup (.int .i64 (pickQ u w i c).1) [.int .i64 ((pickQ u w i c).2 : Nat)]
theorem iEfRq_eq {u : Sp} {w : List UInt8} {i c : Int} (h : okSp u ∧ rightS u = true ∧ w.length ≤ 10000) : iEfRq [sV u, .str w, .int .i64 i, .int .i64 c] = some (.tup (.int .i64 (pickQ u w i c).1) [.int .i64 ((pickQ u w i c).2 : Nat)]) := pimp_eq ⟨u, w, i, c, h, rfl, rfl⟩ (by rintro _ ⟨u', w', i', c', h', e, rfl⟩; have e0 := sV_inj h.1 h'.1 (List.cons.inj e).1; have er := (List.cons.inj e).2; have e1 := AVal.str.inj (List.cons.inj er).1; have es := (List.cons.inj er).2; have e2 := (AVal.int.inj (List.cons.inj es).1).2; have e3 := (AVal.int.inj (List.cons.inj (List.cons.inj es).2).1).2; subst e0 e1 e2 e3; rfl)
theorem iEfRq_call : ∀ xs v, iEfRq xs = some v → PCall Tryz.prog 14 xs v := fun xs v h0 => by obtain ⟨u, w, i, c, h, rfl, rfl⟩ := pimp_spec h0; exact w_PickR u w i c h
theorem w_TokensR (s : Sp) (w : List UInt8) (h : okSp s ∧ rightS s = true ∧ w.length ≤ 10000) : PCall Tryz.prog 13 [sV s, .str w] (.tup (resV (toksQ s w).1.1 (toksQ s w).1.2) [.int .i64 (toksQ s w).2]) := by
  obtain ⟨hs, hri, hl⟩ := h
  have hcs := cSp_eq s
  have hM := iMy8_eq (u := s) (w := w) ⟨hs, by omega⟩
  have hr : (rightS s && decide ((w.length : Int) ≤ 10000)) = true := by rw [hri]; simp; omega
  rw [hr] at hM
  have hq : toksQ s w = (toksP s w (w.length + 1) 0 0, 0) := by unfold toksQ; rw [if_pos ⟨hl, hri⟩]
  rw [hq]
  have hPq := fun (i c : Int) => iEfRq_eq (u := s) (w := w) (i := i) (c := c) ⟨hs, hri, hl⟩
  generalize hRJ : toksP s w (w.length + 1) 0 0 = RJ
  refine PCall.of_w (fn := Tryz.f13) (Γ := gam [(14, .pure iEfRq), (26, .pure iMy8), (27, .pure iHeR), (28, .pure iEfR)]) (mu := false) (Sound.pure iEfRq_call (Sound.pure iMy8_call (Sound.pure iHeR_call (Sound.pure iEfR_call Sound.nil)))) mixed Tryz.func13 rfl (by kernel_rfl) (by simp) (by kernel_rfl) ?_
  simp (disch := first | assumption | omega | exact okR_new | exact okR_one | exact trivial | (simp only [lnA, lnC, lnN]; omega) | (simp only [lnA, lnC, lnN, Nat.reduceAdd])) only [go_sem, e_go, e_cond_bool, e_w_bool, e_step_ite, e_reg_ite, e_regW_ite, e_code_ite, e_block_ite, e_evQ_ite, e_fin_ite, e_pair_ite, Tryz.f13, iEfRq_eq, iMy8_eq, iHeR_eq, iEfR_eq, hcs, hM]
  refine w_loopc [5] [7, 8] (fun x : Nat × List Tok × Nat × Int => x.1) (fun x => (x.2.2.1 ≤ w.length ∧ 0 ≤ x.2.2.2 ∧ x.2.2.2 < s.conds.length) ∧ w.length - x.2.2.1 < x.1 ∧ x.2.1.length ≤ x.2.2.1 ∧ x.2.1 ++ (toksP s w x.1 x.2.2.1 x.2.2.2).1 = RJ.1 ∧ (toksP s w x.1 x.2.2.1 x.2.2.2).2 = RJ.2) (fun x => ⟨[.cells 0 (cSp s), .cells 0 [.sl .nil 0 [], .int .i64 0], .cells 0 [.sl (gwR0 [] (x.2.1.length * 4)) x.2.1.length (fl cTok x.2.1), .int .i64 (-1)]], gwT0 [] (4, 54) (x.2.1.length * 4)⟩)
    (fun x => [(7, .int .i64 x.2.2.2), (8, .int .i64 (x.2.2.1 : Nat))]) (w.length + 1, [], 0, 0) (fun _ => rfl) (by kernel_rfl) ⟨⟨Nat.zero_le _, Int.le_refl _, right_c0 hri⟩, by omega, Nat.le_refl _, by rw [hRJ]; rfl, by rw [hRJ]⟩ ⟨[], [], by simp [hcs, gwR0, gwT0, fl]⟩ (by simp [HasE, lk]) ?_ ?_
  · rintro ⟨f, l, i, c⟩ -
    have hgc := gw_clo (T := []) (z := (4, 54)) (n := l.length * 4)
    refine ⟨?_, ?_, ?_⟩ <;> simp [cloE, clo, cloL, cloB, cSp_eq, c_Rno, c_Rnil, c_flCd, c_flRu, c_sV, c_flTok, hgc]
  rintro ⟨f, l, i, c⟩ ⟨⟨hi, hc⟩, hf, hll, hR1, hR2⟩
  simp only at hi hc hf hll hR1 hR2 ⊢
  have hpush := fun H q => tk_push H l q (by omega)
  have hP := hPq i c
  have hpq : pickQ s w (i : Nat) c = pickP s w i c := by unfold pickQ; rw [if_pos ⟨⟨hl, hri⟩, by omega, by omega, hc.1, hc.2⟩, Int.toNat_natCast]
  rw [hpq] at hP
  obtain ⟨f, rfl⟩ : ∃ f', f = f' + 1 := ⟨f - 1, by omega⟩
  by_cases hlt : i < w.length
  · have hwi : IntKind.i64.wrap ((i : Int) + 1) = ((i + 1 : Nat) : Int) := by rw [IntWalk.i64_in _ (by omega)]; omega
    rw [toksP, if_pos hlt] at hR1 hR2
    rcases next_spec (cond := c) hri hl hlt with ⟨e1, e2⟩ | ⟨k, r, g1, g2, g3, g4, g5, g6, g7, g8, g9⟩
    · rw [e1] at hP
      simp only at hP
      have hfs : AVal.agg [.sl .no s.conds.length (fl cCd s.conds), .bool s.deft, .sl .no s.rules.length (fl cRu s.rules)] = sV s := rfl
      rw [e2] at hR1 hR2
      cases hd : s.deft
      · rw [hd] at hR1 hR2 hfs
        simp only [Bool.false_eq_true, if_false, List.append_nil] at hR1 hR2
        rw [← hR1, ← hR2]
        simp (disch := first | assumption | omega | exact okR_new | exact okR_one | exact trivial | (simp only [lnA, lnC, lnN]; omega) | (simp only [lnA, lnC, lnN, Nat.reduceAdd])) only [go_sem, e_go, e_cond_bool, e_w_bool, e_step_ite, e_reg_ite, e_regW_ite, e_code_ite, e_block_ite, e_evQ_ite, e_fin_ite, e_pair_ite, Tryz.f13, iEfRq_eq, iMy8_eq, iHeR_eq, iEfR_eq, hcs, hP, hwi, hd, hfs]
        rfl
      · rw [hd] at hR1 hR2 hfs
        simp only [if_true] at hR1 hR2
        have hT : ∀ m, abuildSlice Tryz.prog false m 45 1 [(0, .agg [.int .i64 (-1), .int .i64 (i : Nat), .int .i64 ((i + 1 : Nat) : Int), .int .i64 c])] = some (.sl .full 1 (cTok ⟨-1, i, i + 1, c⟩), m) := fun m => apTk_mk false m (x := ⟨-1, i, i + 1, c⟩)
        simp (disch := first | assumption | omega | exact okR_new | exact okR_one | exact trivial | (simp only [lnA, lnC, lnN]; omega) | (simp only [lnA, lnC, lnN, Nat.reduceAdd])) only [go_sem, e_go, e_cond_bool, e_w_bool, e_step_ite, e_reg_ite, e_regW_ite, e_code_ite, e_block_ite, e_evQ_ite, e_fin_ite, e_pair_ite, Tryz.f13, iEfRq_eq, iMy8_eq, iHeR_eq, iEfR_eq, hcs, hP, hwi, hd, hfs, hT, hpush]
        refine ⟨(f, l ++ [⟨-1, i, i + 1, c⟩], i + 1, c), Nat.lt_succ_self f, ⟨⟨?_, hc⟩, ?_, ?_, ?_, hR2⟩, ⟨[], [], ?_⟩, by simp [HasE, lk]⟩
        · show i + 1 ≤ w.length; omega
        · show w.length - (i + 1) < f; omega
        · show (l ++ [_]).length ≤ i + 1; simp; omega
        · show (l ++ [_]) ++ _ = RJ.1; rw [List.append_assoc]; exact hR1
        · simp [hcs, hd]
    · have hcn := next_cond hri hl hlt hc g9
      have he : r.eof = false := by
        simp only [mayB, Bool.and_eq_true, Bool.not_eq_true'] at g2
        exact g2.1.1
      have hrr := rule_right hri g1 he
      rw [g3] at hP
      rw [g9] at hR1 hR2
      simp only at hP hR1 hR2
      have hat := fl_at cRu_len g1
      have hlk := (List.getElem?_eq_some_iff.1 g1).1
      have hle : k * 22 + 22 ≤ s.rules.length * 22 := by omega
      have hro := hs.ru _ (List.mem_of_getElem? g1)
      have hr20 := fl_get cRu_len g1 (j := 20) (by omega)
      have hr21 := fl_get cRu_len g1 (j := 21) (by omega)
      simp only [cRu_eq, List.getElem?_cons_succ, List.getElem?_cons_zero] at hr20 hr21
      have hH := iHeR_eq (u := r) (s := (w.drop i).take (longP r (w.drop i))) ⟨⟨hro, hrr.1, hrr.2⟩, by simp; omega⟩
      have hcn2 := hcn.2
      generalize headP r ((w.drop i).take (longP r (w.drop i))) = q at *
      generalize longP r (w.drop i) = n at *
      have hwn : IntKind.i64.wrap ((i : Int) + (n : Int)) = ((i + n : Nat) : Int) := by rw [IntWalk.i64_in _ (by omega)]; omega
      have hwq : IntKind.i64.wrap ((i : Int) + (q : Int)) = ((i + q : Nat) : Int) := by rw [IntWalk.i64_in _ (by omega)]; omega
      have hsl : i + n - i = n := by omega
      have hd0 : decide ((k : Int) < 0) = false := decide_eq_false (by omega)
      have hT : ∀ m, abuildSlice Tryz.prog false m 45 1 [(0, .agg [.int .i64 (k : Nat), .int .i64 (i : Nat), .int .i64 ((i + q : Nat) : Int), .int .i64 c])] = some (.sl .full 1 (cTok ⟨(k : Nat), i, i + q, c⟩), m) := fun m => apTk_mk false m (x := ⟨(k : Nat), i, i + q, c⟩)
      by_cases ha : r.act = 3
      · have hda : decide (r.act = 3) = true := decide_eq_true ha
        rw [if_pos ha] at hR1 hR2 hcn2
        simp (disch := first | assumption | omega | exact okR_new | exact okR_one | exact trivial | (simp only [lnA, lnC, lnN]; omega) | (simp only [lnA, lnC, lnN, Nat.reduceAdd])) only [go_sem, e_go, e_cond_bool, e_w_bool, e_step_ite, e_reg_ite, e_regW_ite, e_code_ite, e_block_ite, e_evQ_ite, e_fin_ite, e_pair_ite, Tryz.f13, iEfRq_eq, iMy8_eq, iHeR_eq, iEfR_eq, hcs, hP, hwi, hd0, hat, hH, hwn, hwq, hsl, hT, hpush, hr20, hr21, hda]
        refine ⟨(f, l ++ [⟨(k : Nat), i, i + q, c⟩], i + q, r.to), Nat.lt_succ_self f, ⟨⟨?_, hcn2⟩, ?_, ?_, ?_, hR2⟩, ⟨[], [], ?_⟩, by simp [HasE, lk]⟩
        · show i + q ≤ w.length; omega
        · show w.length - (i + q) < f; omega
        · show (l ++ [_]).length ≤ i + q; simp; omega
        · show (l ++ [_]) ++ _ = RJ.1; rw [List.append_assoc]; exact hR1
        · simp [hcs]
      · have hda : decide (r.act = 3) = false := decide_eq_false ha
        rw [if_neg ha] at hR1 hR2 hcn2
        simp (disch := first | assumption | omega | exact okR_new | exact okR_one | exact trivial | (simp only [lnA, lnC, lnN]; omega) | (simp only [lnA, lnC, lnN, Nat.reduceAdd])) only [go_sem, e_go, e_cond_bool, e_w_bool, e_step_ite, e_reg_ite, e_regW_ite, e_code_ite, e_block_ite, e_evQ_ite, e_fin_ite, e_pair_ite, Tryz.f13, iEfRq_eq, iMy8_eq, iHeR_eq, iEfR_eq, hcs, hP, hwi, hd0, hat, hH, hwn, hwq, hsl, hT, hpush, hr20, hr21, hda]
        refine ⟨(f, l ++ [⟨(k : Nat), i, i + q, c⟩], i + q, c), Nat.lt_succ_self f, ⟨⟨?_, hcn2⟩, ?_, ?_, ?_, hR2⟩, ⟨[], [], ?_⟩, by simp [HasE, lk]⟩
        · show i + q ≤ w.length; omega
        · show w.length - (i + q) < f; omega
        · show (l ++ [_]).length ≤ i + q; simp; omega
        · show (l ++ [_]) ++ _ = RJ.1; rw [List.append_assoc]; exact hR1
        · simp [hcs]
  · obtain rfl : i = w.length := by omega
    rw [toksP, if_neg (by omega)] at hR1 hR2
    have hE := iEfR_eq (u := s) (c := c) hs
    by_cases he : 0 ≤ eofP s c
    · rw [if_pos he] at hR1 hR2
      have hd : decide ((0 : Int) ≤ eofP s c) = true := decide_eq_true he
      have hT : ∀ m, abuildSlice Tryz.prog false m 45 1 [(0, .agg [.int .i64 (eofP s c), .int .i64 (w.length : Nat), .int .i64 (w.length : Nat), .int .i64 c])] = some (.sl .full 1 (cTok ⟨eofP s c, w.length, w.length, c⟩), m) := fun m => apTk_mk false m (x := ⟨eofP s c, w.length, w.length, c⟩)
      simp only at hR1 hR2
      rw [← hR1, ← hR2]
      generalize eofP s c = z at *
      simp (disch := first | assumption | omega | exact okR_new | exact okR_one | exact trivial | (simp only [lnA, lnC, lnN]; omega) | (simp only [lnA, lnC, lnN, Nat.reduceAdd])) only [go_sem, e_go, e_cond_bool, e_w_bool, e_step_ite, e_reg_ite, e_regW_ite, e_code_ite, e_block_ite, e_evQ_ite, e_fin_ite, e_pair_ite, Tryz.f13, iEfRq_eq, iMy8_eq, iHeR_eq, iEfR_eq, hcs, hE, hd, hT, hpush]
      simp [resV, cRes]
    · rw [if_neg he] at hR1 hR2
      have hd : decide ((0 : Int) ≤ eofP s c) = false := decide_eq_false he
      simp only [List.append_nil] at hR1 hR2
      rw [← hR1, ← hR2]
      simp (disch := first | assumption | omega | exact okR_new | exact okR_one | exact trivial | (simp only [lnA, lnC, lnN]; omega) | (simp only [lnA, lnC, lnN, Nat.reduceAdd])) only [go_sem, e_go, e_cond_bool, e_w_bool, e_step_ite, e_reg_ite, e_regW_ite, e_code_ite, e_block_ite, e_evQ_ite, e_fin_ite, e_pair_ite, Tryz.f13, iEfRq_eq, iMy8_eq, iHeR_eq, iEfR_eq, hcs, hE, hd]
      rfl
noncomputable def iTkR : List AVal → Option AVal := pimp fun xs r => ∃ (u : Sp) (w : List UInt8), (okSp u ∧ rightS u = true ∧ w.length ≤ 10000) ∧ xs = [sV u, .str w] ∧ r = .tup (resV (toksQ u w).1.1 (toksQ u w).1.2) [.int .i64 (toksQ u w).2]
theorem iTkR_eq {u : Sp} {w : List UInt8} (h : okSp u ∧ rightS u = true ∧ w.length ≤ 10000) : iTkR [sV u, .str w] = some (.tup (resV (toksQ u w).1.1 (toksQ u w).1.2) [.int .i64 (toksQ u w).2]) := pimp_eq ⟨u, w, h, rfl, rfl⟩ (by rintro _ ⟨u', w', h', e, rfl⟩; have e0 := sV_inj h.1 h'.1 (List.cons.inj e).1; have e1 := AVal.str.inj (List.cons.inj (List.cons.inj e).2).1; subst e0 e1; rfl)
theorem iTkR_call : ∀ xs v, iTkR xs = some v → PCall Tryz.prog 13 xs v := fun xs v h0 => by obtain ⟨u, w, h, rfl, rfl⟩ := pimp_spec h0; exact w_TokensR u w h
end Go.Hk.MZ
namespace Go.Hk.MZ
open Go.Proofs

theorem w_Same8 (L : List Tok) (J : Int) (hL : L.length < 1000000) : PCall Tryz.prog 15 [.agg [.sl .no L.length (fl cTok L), .int .i64 J], .agg [.sl .no L.length (fl cTok L), .int .i64 J]] (.bool true) := by
  refine PCall.of_w (fn := Tryz.f15) (Γ := gam []) (mu := false) Sound.nil mixed Tryz.func15 rfl (by kernel_rfl) (by simp) (by kernel_rfl) ?_
  simp (disch := first | assumption | omega | exact okR_new | exact okR_one | exact trivial | (simp only [lnA, lnC, lnN]; omega) | (simp only [lnA, lnC, lnN, Nat.reduceAdd])) only [go_sem, e_go, e_cond_bool, e_w_bool, e_step_ite, e_reg_ite, e_regW_ite, e_code_ite, e_block_ite, e_evQ_ite, e_fin_ite, e_pair_ite, Tryz.f15]
  refine w_loop [4] [5] (fun i : Nat => L.length - i) (fun i => i ≤ L.length) (fun i => ⟨[.cells 0 [.sl .no L.length (fl cTok L), .int .i64 J], .cells 0 [.sl .no L.length (fl cTok L), .int .i64 J]], []⟩)
    (fun i => [(5, .int .i64 (i : Nat))]) 0 (fun _ => rfl) (by kernel_rfl) (Nat.zero_le _) rfl (by simp [HasE, lk]) ?_
  intro i hi
  by_cases hlt : i < L.length
  · have hg : L[i]? = some L[i] := by simp [hlt]
    have hat := fl_at cTok_len hg
    have hle : i * 4 + 4 ≤ L.length * 4 := by omega
    have hw : IntKind.i64.wrap ((i : Int) + 1) = (i : Int) + 1 := IntWalk.i64_in _ (by omega)
    generalize L[i] = x at *
    have hne : tkE x.rule (x.st : Nat) (x.en : Nat) x.cond x.rule (x.st : Nat) (x.en : Nat) x.cond = true := by simp [tkE]
    simp (disch := first | assumption | omega | exact okR_new | exact okR_one | exact trivial | (simp only [lnA, lnC, lnN]; omega) | (simp only [lnA, lnC, lnN, Nat.reduceAdd])) only [go_sem, e_go, e_cond_bool, e_w_bool, e_step_ite, e_reg_ite, e_regW_ite, e_code_ite, e_block_ite, e_evQ_ite, e_fin_ite, e_pair_ite, Tryz.f15, hat, cTok, tk_neq, hne, hw]
    exact ⟨i + 1, dn hlt, hlt, rfl, by simp [HasE, lk]⟩
  · have hi' : i = L.length := by omega
    subst hi'
    simp (disch := first | assumption | omega | exact okR_new | exact okR_one | exact trivial | (simp only [lnA, lnC, lnN]; omega) | (simp only [lnA, lnC, lnN, Nat.reduceAdd])) only [go_sem, e_go, e_cond_bool, e_w_bool, e_step_ite, e_reg_ite, e_regW_ite, e_code_ite, e_block_ite, e_evQ_ite, e_fin_ite, e_pair_ite, Tryz.f15]
noncomputable def iSm8 : List AVal → Option AVal := pimp fun xs r => ∃ (L : List Tok) (J : Int), (L.length < 1000000) ∧ xs = [.agg [.sl .no L.length (fl cTok L), .int .i64 J], .agg [.sl .no L.length (fl cTok L), .int .i64 J]] ∧ r = .bool true
theorem iSm8_eq {L : List Tok} {J : Int} (h : L.length < 1000000) : iSm8 [.agg [.sl .no L.length (fl cTok L), .int .i64 J], .agg [.sl .no L.length (fl cTok L), .int .i64 J]] = some (.bool true) := pimp_eq ⟨L, J, h, rfl, rfl⟩ (by rintro _ ⟨L', J', h', e, rfl⟩; rfl)
theorem iSm8_call : ∀ xs v, iSm8 xs = some v → PCall Tryz.prog 15 xs v := fun xs v h0 => by obtain ⟨L, J, h, rfl, rfl⟩ := pimp_spec h0; exact w_Same8 L J h
theorem w_same8 (s : Sp) (w : List UInt8) (i c : Int) (h : okSp s ∧ rightS s = true ∧ w.length ≤ 12) : PCall Tryz.prog 5 [sV s, .str w, .int .i64 i, .int .i64 c] (.bool true) := by
  obtain ⟨a1, a2, htl⟩ := h
  obtain ⟨L, J, hQ⟩ := inQ a1 a2 htl
  have hT : iTks [sV s, .str w] = some (.tup (.agg [.sl .no L.length (fl cTok L), .int .i64 J]) [.int .i64 0]) := by
    rw [iTks_eq ⟨a1, by omega⟩, hQ.q]; rfl
  have hT2 : iTkR [sV s, .str w] = some (.tup (.agg [.sl .no L.length (fl cTok L), .int .i64 J]) [.int .i64 0]) := by
    rw [iTkR_eq ⟨a1, a2, by omega⟩, hQ.q]; rfl
  have hP := iPi_eq (u := s) (w := w) (i := i) (c := c) ⟨a1, by omega⟩
  have hP2 := iEfRq_eq (u := s) (w := w) (i := i) (c := c) ⟨a1, a2, by omega⟩
  have hS := iSm8_eq (L := L) (J := J) (by have := hQ.ll; omega)
  have hcs := cSp_eq s
  generalize pickQ s w i c = p at *
  refine PCall.of_w (fn := Tryz.f5) (Γ := gam [(10, .pure iTks), (11, .pure iPi), (13, .pure iTkR), (14, .pure iEfRq), (15, .pure iSm8)]) (mu := false) (Sound.pure iTks_call (Sound.pure iPi_call (Sound.pure iTkR_call (Sound.pure iEfRq_call (Sound.pure iSm8_call Sound.nil))))) mixed Tryz.func5 rfl (by kernel_rfl) (by simp) (by kernel_rfl) ?_
  simp (disch := first | assumption | omega | exact okR_new | exact okR_one | exact trivial | (simp only [lnA, lnC, lnN]; omega) | (simp only [lnA, lnC, lnN, Nat.reduceAdd])) only [go_sem, e_go, e_cond_bool, e_w_bool, e_step_ite, e_reg_ite, e_regW_ite, e_code_ite, e_block_ite, e_evQ_ite, e_fin_ite, e_pair_ite, Tryz.f5, iTks_eq, iPi_eq, iTkR_eq, iEfRq_eq, iSm8_eq, hcs, hT, hT2, hP, hP2, hS]
noncomputable def iSame8 : List AVal → Option AVal := pimp fun xs r => ∃ (s : Sp) (w : List UInt8) (i c : Int), (okSp s ∧ rightS s = true ∧ w.length ≤ 12) ∧ xs = [sV s, .str w, .int .i64 i, .int .i64 c] ∧ r = .bool true
theorem iSame8_eq {s : Sp} {w : List UInt8} {i c : Int} (h : okSp s ∧ rightS s = true ∧ w.length ≤ 12) : iSame8 [sV s, .str w, .int .i64 i, .int .i64 c] = some (.bool true) := pimp_eq ⟨s, w, i, c, h, rfl, rfl⟩ (by rintro _ ⟨s', w', i', c', h', e, rfl⟩; rfl)
theorem iSame8_call : ∀ xs v, iSame8 xs = some v → PCall Tryz.prog 5 xs v := fun xs v h0 => by obtain ⟨s, w, i, c, h, rfl, rfl⟩ := pimp_spec h0; exact w_same8 s w i c h
theorem w_ModelMade (l t : List UInt8) (x y : Nat) (hl : l.length < 9223372036854775808) (ht : t.length < 9223372036854775808) (hx : x < 256) (hy : y < 256) : PCall Tryz.prog 3 [slc cU l, slc cU t, .int .u8 (x : Nat), .int .u8 (y : Nat)] (.bool true) := by
  obtain ⟨a1, a2⟩ := madeS_good l false
  have htl := textT_len t
  have hmade := iMade6_eq (L := l) (p := false) hl
  have htext := iText_eq (l := t) ht
  generalize madeS l false = s at *
  generalize textT t = w at *
  have hS := fun (i c : Int) => iSame8_eq (s := s) (w := w) (i := i) (c := c) ⟨a1, a2, htl⟩
  refine PCall.of_w (fn := Tryz.f3) (Γ := gam [(4, .pure iAw8), (5, .pure iSame8), (6, .pure iMade6), (7, .pure iText)]) (mu := false) (Sound.pure iAw8_call (Sound.pure iSame8_call (Sound.pure iMade6_call (Sound.pure iText_call Sound.nil)))) mixed Tryz.func3 rfl (by kernel_rfl) (by simp) (by kernel_rfl) ?_
  simp (disch := first | assumption | omega | exact okR_new | exact okR_one | exact trivial | (simp only [lnA, lnC, lnN]; omega) | (simp only [lnA, lnC, lnN, Nat.reduceAdd])) only [go_sem, e_go, e_cond_bool, e_w_bool, e_step_ite, e_reg_ite, e_regW_ite, e_code_ite, e_block_ite, e_evQ_ite, e_fin_ite, e_pair_ite, Tryz.f3, iAw8_eq, iSame8_eq, iMade6_eq, iText_eq, hmade, htext, hS]
end Go.Hk.MZ
namespace Go.Hk.MZ
open Go.Proofs

theorem wf_k {k : IntKind} {n : Int} (h : (Lit.int k n).wf = true) : k.min ≤ n ∧ n ≤ k.max := by simpa [Lit.wf] using h
theorem rd_u8 {d : Nat} {s : List AVal} (h : shp Tryz.prog d 5 s) : ∃ n : Nat, n < 256 ∧ s = [.int .u8 (n : Nat)] := by
  cases d with
  | zero => exact h.elim
  | succ d =>
    simp only [shp, ti5] at h
    obtain ⟨n, rfl, hw⟩ := h
    have : 0 ≤ n ∧ n ≤ 255 := wf_k hw
    exact ⟨n.toNat, by omega, by rw [Int.toNat_of_nonneg this.1]⟩
theorem max_lt {n : Nat} (h : n ≤ maxLen) : n < 9223372036854775808 := by
  have : maxLen = 9223372036854775807 := rfl
  omega
theorem rd_bytes {d : Nat} {s : List AVal} (h : shp Tryz.prog d 22 s) : ∃ l : List Nat, (l.length < 9223372036854775808 ∧ ∀ n ∈ l, n < 256) ∧ s = [slc c8 l] := by
  cases d with
  | zero => exact h.elim
  | succ d =>
    simp only [shp, ti22] at h
    obtain ⟨xs, rfl, hm, hx⟩ := h
    obtain ⟨l, h1, h2, h3⟩ := list_of (f := c8) (ok := fun n => n < 256) (fun x h => rd_u8 h) xs hx
    exact ⟨l, ⟨by rw [h1]; exact max_lt hm, h3⟩, by rw [← h1, h2]⟩
theorem c8_cU : ∀ l : List Nat, (∀ n ∈ l, n < 256) → slc c8 l = slc cU (l.map UInt8.ofNat) ∧ l.length = (l.map UInt8.ofNat).length := by
  intro l h
  refine ⟨?_, by simp⟩
  have : fl c8 l = fl cU (l.map UInt8.ofNat) := by
    induction l with
    | nil => rfl
    | cons n l ih =>
      have hn := h n (by simp)
      have e : (UInt8.ofNat n).toNat = n := by simp; omega
      simp only [List.map_cons, fl, ih fun m hm => h m (by simp [hm]), cU, c8, e]
  simp [slc, this]
theorem rd_cU {d : Nat} {s : List AVal} (h : shp Tryz.prog d 22 s) : ∃ l : List UInt8, l.length < 9223372036854775808 ∧ s = [slc cU l] := by
  obtain ⟨l, ⟨h1, h2⟩, rfl⟩ := rd_bytes h
  obtain ⟨e1, e2⟩ := c8_cU l h2
  exact ⟨l.map UInt8.ofNat, by omega, by rw [e1]⟩
end Go.Hk.MZ
