import Derived.Test.YtdimacffjdpkfaaGreatHkQ40
import Derived.Test.YtdimacffjdpkfaaGreatHkQ23
set_option linter.unusedSimpArgs false
set_option linter.unusedVariables false
set_option maxRecDepth 20000
namespace Go.Hk.MZ
open Go.Proofs
theorem ti45 : tiOf Tryz.prog 45 = some { size := 1, bytes := 24, zero := some (.sl .nil 0 []), k := .slice 54 } := by kernel_rfl
attribute [go_sem] ti45
theorem ti47 : tiOf Tryz.prog 47 = some { size := 2, bytes := 32, zero := some (.agg [.sl .nil 0 [], .int .i64 0]), k := .struct [(true, 45, 0), (true, 3, 1)] } := by kernel_rfl
attribute [go_sem] ti47
theorem ti48 : tiOf Tryz.prog 48 = some { size := 1, bytes := 8, zero := some (.int .i64 0), k := .int .i64 } := by kernel_rfl
attribute [go_sem] ti48
theorem ti54 : tiOf Tryz.prog 54 = some { size := 4, bytes := 32, zero := some (.agg [.int .i64 0, .int .i64 0, .int .i64 0, .int .i64 0]), k := .struct [(true, 3, 0), (true, 3, 1), (true, 3, 2), (true, 3, 3)] } := by kernel_rfl
attribute [go_sem] ti54
theorem apTk_T : appT Tryz.prog 45 45 = some ⟨54, 4, 32⟩ := by kernel_rfl
theorem apTk_one {H : List ABlk} {T : List (Nat × (Nat × Nat))} {r r' : Rt} {l} {x} (hr : okR T r (l.length * 4) (4, 54) = true) (hn : l.length + 1 < 1000000000) : aappend Tryz.prog 45 45 ⟨H, T⟩ (.sl r l.length (fl cTok l)) (.sl r' 1 (cTok x)) = some (.sl (nxR T r) (l ++ [x]).length (fl cTok (l ++ [x])), ⟨H, nxT T r ((l ++ [x]).length * 4) (4, 54)⟩) := app_fl apTk_T (by decide) cTok_len rfl hr hn
theorem apTk_mk (mu : Bool) (m : AMem) {x} : abuildSlice Tryz.prog mu m 45 1 [(0, tokV x)] = some (.sl .full 1 (cTok x), m) := build_one ti45 ti54 rfl rfl (cTok_len x) rfl (by decide) (by decide)
theorem tk_push (H : List ABlk) (l : List Tok) (q : Tok) (h : l.length < 1000000) : aappend Tryz.prog 45 45 ⟨H, gwT0 [] (4, 54) (l.length * 4)⟩ (.sl (gwR0 [] (l.length * 4)) l.length (fl cTok l)) (.sl .full 1 (cTok q)) = some (.sl (gwR0 [] ((l ++ [q]).length * 4)) (l ++ [q]).length (fl cTok (l ++ [q])), ⟨H, gwT0 [] (4, 54) ((l ++ [q]).length * 4)⟩) := by
  have := apTk_one (H := H) (T := gwT0 [] (4, 54) (l.length * 4)) (r := gwR0 [] (l.length * 4)) (r' := .full) (l := l) (x := q) gw_ok (by omega)
  have hk : (l ++ [q]).length * 4 ≠ 0 := by simp
  rw [(gw_step hk).1, (gw_step hk).2] at this
  exact this
theorem w_Tokens (s : Sp) (w : List UInt8) (h : okSp s ∧ w.length < 1000000000) : PCall Tryz.prog 10 [sV s, .str w] (.tup (resV (toksQ s w).1.1 (toksQ s w).1.2) [.int .i64 (toksQ s w).2]) := by
  obtain ⟨hs, hw⟩ := h
  have hcs := cSp_eq s
  have hR := iMR_eq (u := s) (w := w) ⟨hs, hw⟩
  refine PCall.of_w (fn := Tryz.f10) (Γ := gam [(12, .pure iHe), (19, .pure iMR), (20, .pure iPk8), (21, .pure iEf)]) (mu := false) (Sound.pure iHe_call (Sound.pure iMR_call (Sound.pure iPk8_call (Sound.pure iEf_call Sound.nil)))) mixed Tryz.func10 rfl (by kernel_rfl) (by simp) (by kernel_rfl) ?_
  by_cases h1 : w.length ≤ 10000 ∧ rightS s = true
  · have hr : (decide ((w.length : Int) ≤ 10000) && rightS s) = true := by rw [h1.2]; simp; omega
    rw [hr] at hR
    have hq : toksQ s w = (toksP s w (w.length + 1) 0 0, 0) := by unfold toksQ; rw [if_pos h1]
    obtain ⟨hl, hri⟩ := h1
    rw [hq]
    generalize hRJ : toksP s w (w.length + 1) 0 0 = RJ
    simp (disch := first | assumption | omega | exact okR_new | exact okR_one | exact trivial | (simp only [lnA, lnC, lnN]; omega) | (simp only [lnA, lnC, lnN, Nat.reduceAdd])) only [go_sem, e_go, e_cond_bool, e_w_bool, e_step_ite, e_reg_ite, e_regW_ite, e_code_ite, e_block_ite, e_evQ_ite, e_fin_ite, e_pair_ite, Tryz.f10, iHe_eq, iMR_eq, iPk8_eq, iEf_eq, hcs, hR]
    refine w_loopc [5] [6, 7] (fun x : Nat × List Tok × Nat × Int => x.1) (fun x => x.2.2.1 ≤ w.length ∧ w.length - x.2.2.1 < x.1 ∧ x.2.1.length ≤ x.2.2.1 ∧ x.2.1 ++ (toksP s w x.1 x.2.2.1 x.2.2.2).1 = RJ.1 ∧ (toksP s w x.1 x.2.2.1 x.2.2.2).2 = RJ.2) (fun x => ⟨[.cells 0 (cSp s), .cells 0 [.sl (gwR0 [] (x.2.1.length * 4)) x.2.1.length (fl cTok x.2.1), .int .i64 (-1)]], gwT0 [] (4, 54) (x.2.1.length * 4)⟩)
      (fun x => [(6, .int .i64 (x.2.2.1 : Nat)), (7, .int .i64 x.2.2.2)]) (w.length + 1, [], 0, 0) (fun _ => rfl) (by kernel_rfl) ⟨Nat.zero_le _, by omega, Nat.le_refl _, by rw [hRJ]; rfl, by rw [hRJ]⟩ ⟨[], [], by simp [hcs, gwR0, gwT0, fl]⟩ (by simp [HasE, lk]) ?_ ?_
    · rintro ⟨f, l, i, c⟩ -
      have hgc := gw_clo (T := []) (z := (4, 54)) (n := l.length * 4)
      refine ⟨?_, ?_, ?_⟩ <;> simp [cloE, clo, cloL, cloB, cSp_eq, c_Rno, c_flCd, c_flRu, c_sV, c_flTok, hgc]
    rintro ⟨f, l, i, c⟩ ⟨hi, hf, hll, hR1, hR2⟩
    simp only at hi hf hll hR1 hR2 ⊢
    have hpush := fun H q => tk_push H l q (by omega)
    have hP := iPk8_eq (u := s) (w := w) (i := i) (c := c) ⟨hs, hi, hw⟩
    obtain ⟨f, rfl⟩ : ∃ f', f = f' + 1 := ⟨f - 1, by omega⟩
    by_cases hlt : i < w.length
    · have hwi : IntKind.i64.wrap ((i : Int) + 1) = ((i + 1 : Nat) : Int) := by rw [IntWalk.i64_in _ (by omega)]; omega
      rw [toksP, if_pos hlt] at hR1 hR2
      rcases next_spec (cond := c) hri hl hlt with ⟨e1, e2⟩ | ⟨k, r, g1, g2, g3, g4, g5, g6, g7, g8, g9⟩
      · rw [e1] at hP
        simp only at hP
        have hfs : AVal.agg [.sl .no s.conds.length (fl cCd s.conds), .bool s.deft, .sl .no s.rules.length (fl cRu s.rules)] = sV s := rfl
        rw [e2] at hR1 hR2
        cases hd : s.deft
        · rw [hd] at hR1 hR2 hfs
          simp only [Bool.false_eq_true, if_false, List.append_nil] at hR1 hR2
          rw [← hR1, ← hR2]
          simp (disch := first | assumption | omega | exact okR_new | exact okR_one | exact trivial | (simp only [lnA, lnC, lnN]; omega) | (simp only [lnA, lnC, lnN, Nat.reduceAdd])) only [go_sem, e_go, e_cond_bool, e_w_bool, e_step_ite, e_reg_ite, e_regW_ite, e_code_ite, e_block_ite, e_evQ_ite, e_fin_ite, e_pair_ite, Tryz.f10, iHe_eq, iMR_eq, iPk8_eq, iEf_eq, hcs, hP, hwi, hd, hfs]
          rfl
        · rw [hd] at hR1 hR2 hfs
          simp only [if_true] at hR1 hR2
          have hT : ∀ m, abuildSlice Tryz.prog false m 45 1 [(0, .agg [.int .i64 (-1), .int .i64 (i : Nat), .int .i64 ((i + 1 : Nat) : Int), .int .i64 c])] = some (.sl .full 1 (cTok ⟨-1, i, i + 1, c⟩), m) := fun m => apTk_mk false m (x := ⟨-1, i, i + 1, c⟩)
          simp (disch := first | assumption | omega | exact okR_new | exact okR_one | exact trivial | (simp only [lnA, lnC, lnN]; omega) | (simp only [lnA, lnC, lnN, Nat.reduceAdd])) only [go_sem, e_go, e_cond_bool, e_w_bool, e_step_ite, e_reg_ite, e_regW_ite, e_code_ite, e_block_ite, e_evQ_ite, e_fin_ite, e_pair_ite, Tryz.f10, iHe_eq, iMR_eq, iPk8_eq, iEf_eq, hcs, hP, hwi, hd, hfs, hT, hpush]
          refine ⟨(f, l ++ [⟨-1, i, i + 1, c⟩], i + 1, c), Nat.lt_succ_self f, ⟨?_, ?_, ?_, ?_, hR2⟩, ⟨[.cells 0 (cTok ⟨-1, i, i + 1, c⟩)], [], ?_⟩, by simp [HasE, lk]⟩
          · show i + 1 ≤ w.length; omega
          · show w.length - (i + 1) < f; omega
          · show (l ++ [_]).length ≤ i + 1; simp; omega
          · show (l ++ [_]) ++ _ = RJ.1; rw [List.append_assoc]; exact hR1
          · simp [hcs, hd]; rfl
      · rw [g3] at hP
        rw [g9] at hR1 hR2
        simp only at hP hR1 hR2
        have hat := fl_at cRu_len g1
        have hlk := (List.getElem?_eq_some_iff.1 g1).1
        have hle : k * 22 + 22 ≤ s.rules.length * 22 := by omega
        have hro := hs.ru _ (List.mem_of_getElem? g1)
        have hr20 := fl_get cRu_len g1 (j := 20) (by omega)
        have hr21 := fl_get cRu_len g1 (j := 21) (by omega)
        simp only [cRu_eq, List.getElem?_cons_succ, List.getElem?_cons_zero] at hr20 hr21
        have hH := iHe_eq (u := r) (s := (w.drop i).take (longP r (w.drop i))) ⟨hro, by simp; omega⟩
        generalize headP r ((w.drop i).take (longP r (w.drop i))) = q at *
        generalize longP r (w.drop i) = n at *
        have hwn : IntKind.i64.wrap ((i : Int) + (n : Int)) = ((i + n : Nat) : Int) := by rw [IntWalk.i64_in _ (by omega)]; omega
        have hwq : IntKind.i64.wrap ((i : Int) + (q : Int)) = ((i + q : Nat) : Int) := by rw [IntWalk.i64_in _ (by omega)]; omega
        have hsl : i + n - i = n := by omega
        have hd0 : decide ((0 : Int) ≤ (k : Nat)) = true := decide_eq_true (by omega)
        have hT : ∀ m, abuildSlice Tryz.prog false m 45 1 [(0, .agg [.int .i64 (k : Nat), .int .i64 (i : Nat), .int .i64 ((i + q : Nat) : Int), .int .i64 c])] = some (.sl .full 1 (cTok ⟨(k : Nat), i, i + q, c⟩), m) := fun m => apTk_mk false m (x := ⟨(k : Nat), i, i + q, c⟩)
        have hcr := cRu_eq r
        by_cases ha : r.act = 3
        · have hda : decide (r.act = 3) = true := decide_eq_true ha
          rw [if_pos ha] at hR1 hR2
          simp (disch := first | assumption | omega | exact okR_new | exact okR_one | exact trivial | (simp only [lnA, lnC, lnN]; omega) | (simp only [lnA, lnC, lnN, Nat.reduceAdd])) only [go_sem, e_go, e_cond_bool, e_w_bool, e_step_ite, e_reg_ite, e_regW_ite, e_code_ite, e_block_ite, e_evQ_ite, e_fin_ite, e_pair_ite, Tryz.f10, iHe_eq, iMR_eq, iPk8_eq, iEf_eq, hcs, hP, hwi, hd0, hat, hH, hwn, hwq, hsl, hT, hpush, hr20, hr21, hda]
          refine ⟨(f, l ++ [⟨(k : Nat), i, i + q, c⟩], i + q, r.to), Nat.lt_succ_self f, ⟨?_, ?_, ?_, ?_, hR2⟩, ⟨[.cells 0 (cTok ⟨(k : Nat), i, i + q, c⟩)], [], ?_⟩, by simp [HasE, lk]⟩
          · show i + q ≤ w.length; omega
          · show w.length - (i + q) < f; omega
          · show (l ++ [_]).length ≤ i + q; simp; omega
          · show (l ++ [_]) ++ _ = RJ.1; rw [List.append_assoc]; exact hR1
          · simp [hcs]; rfl
        · have hda : decide (r.act = 3) = false := decide_eq_false ha
          rw [if_neg ha] at hR1 hR2
          simp (disch := first | assumption | omega | exact okR_new | exact okR_one | exact trivial | (simp only [lnA, lnC, lnN]; omega) | (simp only [lnA, lnC, lnN, Nat.reduceAdd])) only [go_sem, e_go, e_cond_bool, e_w_bool, e_step_ite, e_reg_ite, e_regW_ite, e_code_ite, e_block_ite, e_evQ_ite, e_fin_ite, e_pair_ite, Tryz.f10, iHe_eq, iMR_eq, iPk8_eq, iEf_eq, hcs, hP, hwi, hd0, hat, hH, hwn, hwq, hsl, hT, hpush, hr20, hr21, hda]
          refine ⟨(f, l ++ [⟨(k : Nat), i, i + q, c⟩], i + q, c), Nat.lt_succ_self f, ⟨?_, ?_, ?_, ?_, hR2⟩, ⟨[.cells 0 (cTok ⟨(k : Nat), i, i + q, c⟩)], [], ?_⟩, by simp [HasE, lk]⟩
          · show i + q ≤ w.length; omega
          · show w.length - (i + q) < f; omega
          · show (l ++ [_]).length ≤ i + q; simp; omega
          · show (l ++ [_]) ++ _ = RJ.1; rw [List.append_assoc]; exact hR1
          · simp [hcs]; rfl
    · obtain rfl : i = w.length := by omega
      rw [toksP, if_neg (by omega)] at hR1 hR2
      have hE := iEf_eq (u := s) (c := c) hs
      by_cases he : 0 ≤ eofP s c
      · rw [if_pos he] at hR1 hR2
        have hd : decide ((0 : Int) ≤ eofP s c) = true := decide_eq_true he
        have hT : ∀ m, abuildSlice Tryz.prog false m 45 1 [(0, .agg [.int .i64 (eofP s c), .int .i64 (w.length : Nat), .int .i64 (w.length : Nat), .int .i64 c])] = some (.sl .full 1 (cTok ⟨eofP s c, w.length, w.length, c⟩), m) := fun m => apTk_mk false m (x := ⟨eofP s c, w.length, w.length, c⟩)
        simp only at hR1 hR2
        rw [← hR1, ← hR2]
        generalize eofP s c = z at *
        simp (disch := first | assumption | omega | exact okR_new | exact okR_one | exact trivial | (simp only [lnA, lnC, lnN]; omega) | (simp only [lnA, lnC, lnN, Nat.reduceAdd])) only [go_sem, e_go, e_cond_bool, e_w_bool, e_step_ite, e_reg_ite, e_regW_ite, e_code_ite, e_block_ite, e_evQ_ite, e_fin_ite, e_pair_ite, Tryz.f10, iHe_eq, iMR_eq, iPk8_eq, iEf_eq, hcs, hE, hd, hT, hpush]
        simp [resV, cRes]
      · rw [if_neg he] at hR1 hR2
        have hd : decide ((0 : Int) ≤ eofP s c) = false := decide_eq_false he
        simp only [List.append_nil] at hR1 hR2
        rw [← hR1, ← hR2]
        simp (disch := first | assumption | omega | exact okR_new | exact okR_one | exact trivial | (simp only [lnA, lnC, lnN]; omega) | (simp only [lnA, lnC, lnN, Nat.reduceAdd])) only [go_sem, e_go, e_cond_bool, e_w_bool, e_step_ite, e_reg_ite, e_regW_ite, e_code_ite, e_block_ite, e_evQ_ite, e_fin_ite, e_pair_ite, Tryz.f10, iHe_eq, iMR_eq, iPk8_eq, iEf_eq, hcs, hE, hd]
        rfl
  · have hr : (decide ((w.length : Int) ≤ 10000) && rightS s) = false := by
      cases h : rightS s
      · simp
      · have : ¬ w.length ≤ 10000 := fun h' => h1 ⟨h', h⟩
        simp; omega
    rw [hr] at hR
    have hq : toksQ s w = (([], 0), 1) := by unfold toksQ; rw [if_neg h1]
    rw [hq]
    simp (disch := first | assumption | omega | exact okR_new | exact okR_one | exact trivial | (simp only [lnA, lnC, lnN]; omega) | (simp only [lnA, lnC, lnN, Nat.reduceAdd])) only [go_sem, e_go, e_cond_bool, e_w_bool, e_step_ite, e_reg_ite, e_regW_ite, e_code_ite, e_block_ite, e_evQ_ite, e_fin_ite, e_pair_ite, Tryz.f10, iHe_eq, iMR_eq, iPk8_eq, iEf_eq, hcs, hR]
    rfl
noncomputable def iTks : List AVal → Option AVal := pimp fun xs r => ∃ (u : Sp) (w : List UInt8), (okSp u ∧ w.length < 1000000000) ∧ xs = [sV u, .str w] ∧ r = .tup (resV (toksQ u w).1.1 (toksQ u w).1.2) [.int .i64 (toksQ u w).2]
theorem iTks_eq {u : Sp} {w : List UInt8} (h : okSp u ∧ w.length < 1000000000) : iTks [sV u, .str w] = some (.tup (resV (toksQ u w).1.1 (toksQ u w).1.2) [.int .i64 (toksQ u w).2]) := pimp_eq ⟨u, w, h, rfl, rfl⟩ (by rintro _ ⟨u', w', h', e, rfl⟩; have e0 := sV_inj h.1 h'.1 (List.cons.inj e).1; have e1 := AVal.str.inj (List.cons.inj (List.cons.inj e).2).1; subst e0 e1; rfl)
theorem iTks_call : ∀ xs v, iTks xs = some v → PCall Tryz.prog 10 xs v := fun xs v h0 => by obtain ⟨u, w, h, rfl, rfl⟩ := pimp_spec h0; exact w_Tokens u w h
end Go.Hk.MZ
namespace Go.Hk.MZ
open Go.Proofs

theorem w_chr8 (b : Int) : PCall Tryz.prog 8 [.int .i64 b] (rV (chX b)) := by
  refine PCall.of_w (fn := Tryz.f8) (Γ := gam [(9, .pure iOf)]) (mu := false) (Sound.pure iOf_call Sound.nil) mixed Tryz.func8 rfl (by kernel_rfl) (by simp) (by kernel_rfl) ?_
  simp (disch := first | assumption | omega | exact okR_new | exact okR_one | exact trivial | (simp only [lnA, lnC, lnN]; omega) | (simp only [lnA, lnC, lnN, Nat.reduceAdd])) only [go_sem, e_go, e_cond_bool, e_w_bool, e_step_ite, e_reg_ite, e_regW_ite, e_code_ite, e_block_ite, e_evQ_ite, e_fin_ite, e_pair_ite, Tryz.f8, iOf_eq, setL]
  rfl
noncomputable def iChr8 : List AVal → Option AVal := pimp fun xs r => ∃ (b : Int), (True) ∧ xs = [.int .i64 b] ∧ r = rV (chX b)
theorem iChr8_eq {b : Int} (h : True) : iChr8 [.int .i64 b] = some (rV (chX b)) := pimp_eq ⟨b, h, rfl, rfl⟩ (by rintro _ ⟨b', h', e, rfl⟩; have e0 := (List.cons.inj e).1; have e0r := (List.cons.inj e).2; have q0 := (AVal.int.inj e0).2; subst q0; first | rfl | exact ⟨rfl, rfl⟩)
theorem iChr8_call : ∀ xs v, iChr8 xs = some v → PCall Tryz.prog 8 xs v := fun xs v h0 => by obtain ⟨b, h, rfl, rfl⟩ := pimp_spec h0; exact w_chr8 b
theorem stK_fold : AVal.agg [.int .i64 3, .int .u64 0, .int .u64 0, .int .u64 0, .int .u64 0, .int .i64 0, .int .i64 0, .sl .no 2 [.int .i64 2, .int .u64 ((wd (ofN 97 97) 0 : Nat) : Int), .int .u64 ((wd (ofN 97 97) 1 : Nat) : Int), .int .u64 ((wd (ofN 97 97) 2 : Nat) : Int), .int .u64 ((wd (ofN 97 97) 3 : Nat) : Int), .int .i64 0, .int .i64 0, .sl .no 0 [], .int .i64 2, .int .u64 ((wd (ofN 98 98) 0 : Nat) : Int), .int .u64 ((wd (ofN 98 98) 1 : Nat) : Int), .int .u64 ((wd (ofN 98 98) 2 : Nat) : Int), .int .u64 ((wd (ofN 98 98) 3 : Nat) : Int), .int .i64 0, .int .i64 0, .sl .no 0 []]] = rV stK := rfl
theorem azX_fold : AVal.agg [.int .i64 2, .int .u64 ((wd (ofN 97 122) 0 : Nat) : Int), .int .u64 ((wd (ofN 97 122) 1 : Nat) : Int), .int .u64 ((wd (ofN 97 122) 2 : Nat) : Int), .int .u64 ((wd (ofN 97 122) 3 : Nat) : Int), .int .i64 0, .int .i64 0, .sl .no 0 []] = rV azX := rfl
theorem bC1t {m : AMem} {cs : List AVal} (h : cs.length = 2) : abuildSlice Tryz.prog false m 25 1 [(0, .agg cs)] = some (.sl .full 1 cs, m) := build_one ti25 ti40 rfl rfl h rfl (by decide) (by decide)
def tkE (a b c d a' b' c' d' : Int) : Bool := decide (a = a') && (decide (b = b') && (decide (c = c') && decide (d = d')))
theorem tk_aeq {a b c d a' b' c' d' : Int} : aeq Tryz.prog 20 54 (.agg [.int .i64 a, .int .i64 b, .int .i64 c, .int .i64 d]) (.agg [.int .i64 a', .int .i64 b', .int .i64 c', .int .i64 d']) = some (tkE a b c d a' b' c' d') := by
  have hs : Tryz.prog.stoodInHeld 54 = false := by kernel_rfl
  have e1 : ∀ {x y : Int}, aeq Tryz.prog 19 3 (.int .i64 x) (.int .i64 y) = some (decide (x = y)) := fun {x y} => aeq_int ti3 rfl
  unfold aeq
  simp only [ti54, hs, Bool.false_eq_true, if_false, List.map_cons, List.map_nil, if_true, apart, ti3, TK.agg, List.getElem?_cons_zero, List.getElem?_cons_succ, e1]
  unfold tkE
  cases decide (a = a') <;> cases decide (b = b') <;> cases decide (c = c') <;> cases decide (d = d') <;> rfl
theorem tk_eql {a b c d a' b' c' d' : Int} : abin Tryz.prog .eql 54 (.agg [.int .i64 a, .int .i64 b, .int .i64 c, .int .i64 d]) (.agg [.int .i64 a', .int .i64 b', .int .i64 c', .int .i64 d']) = some (.bool (tkE a b c d a' b' c' d')) := by
  have hg : Tryz.prog.eqGuardType Tryz.prog.depth 54 = false := by kernel_rfl
  rw [e_bin_agg, hg, tk_aeq]; rfl
theorem tk_neq {a b c d a' b' c' d' : Int} : abin Tryz.prog .neq 54 (.agg [.int .i64 a, .int .i64 b, .int .i64 c, .int .i64 d]) (.agg [.int .i64 a', .int .i64 b', .int .i64 c', .int .i64 d']) = some (.bool (!tkE a b c d a' b' c' d')) := by
  have hg : Tryz.prog.eqGuardType Tryz.prog.depth 54 = false := by kernel_rfl
  rw [e_bin_agg, hg, tk_aeq]; rfl
theorem bRu3 {m : AMem} {c0 c1 c2 : List AVal} (h0 : c0.length = 22) (h1 : c1.length = 22) (h2 : c2.length = 22) : abuildSlice Tryz.prog false m 26 3 [(0, .agg c0), (1, .agg c1), (2, .agg c2)] = some (.sl .full 3 (c0 ++ (c1 ++ c2)), m) := by
  exact build_seq (P := Tryz.prog) (mu := false) (m := m) (n := 3) (vs := [.agg c0, .agg c1, .agg c2]) (out := c0 ++ (c1 ++ c2)) ti26 rfl ti43 rfl (by simp [cellsAll, cellsOf, h0, h1, h2]) ⟨by decide, rfl⟩ rfl (by decide)
theorem mS_fold : AVal.agg [.sl .no 1 [.str [73, 78, 73, 84, 73, 65, 76], .bool false], .bool false, .sl .no 3 [.sl .no 0 [], .bool false, .bool false, .int .i64 3, .int .u64 0, .int .u64 0, .int .u64 0, .int .u64 0, .int .i64 0, .int .i64 0, .sl .no 2 [.int .i64 2, .int .u64 ((wd (ofN 97 97) 0 : Nat) : Int), .int .u64 ((wd (ofN 97 97) 1 : Nat) : Int), .int .u64 ((wd (ofN 97 97) 2 : Nat) : Int), .int .u64 ((wd (ofN 97 97) 3 : Nat) : Int), .int .i64 0, .int .i64 0, .sl .no 0 [], .int .i64 2, .int .u64 ((wd (ofN 98 98) 0 : Nat) : Int), .int .u64 ((wd (ofN 98 98) 1 : Nat) : Int), .int .u64 ((wd (ofN 98 98) 2 : Nat) : Int), .int .u64 ((wd (ofN 98 98) 3 : Nat) : Int), .int .i64 0, .int .i64 0, .sl .no 0 []], .int .i64 0, .int .u64 0, .int .u64 0, .int .u64 0, .int .u64 0, .int .i64 0, .int .i64 0, .sl .no 0 [], .bool false, .int .i64 1, .int .i64 0, .sl .no 0 [], .bool false, .bool false, .int .i64 2, .int .u64 ((wd (ofN 97 97) 0 : Nat) : Int), .int .u64 ((wd (ofN 97 97) 1 : Nat) : Int), .int .u64 ((wd (ofN 97 97) 2 : Nat) : Int), .int .u64 ((wd (ofN 97 97) 3 : Nat) : Int), .int .i64 0, .int .i64 0, .sl .no 0 [], .int .i64 2, .int .u64 ((wd (ofN 98 98) 0 : Nat) : Int), .int .u64 ((wd (ofN 98 98) 1 : Nat) : Int), .int .u64 ((wd (ofN 98 98) 2 : Nat) : Int), .int .u64 ((wd (ofN 98 98) 3 : Nat) : Int), .int .i64 0, .int .i64 0, .sl .no 0 [], .bool false, .int .i64 2, .int .i64 0, .sl .no 0 [], .bool false, .bool false, .int .i64 2, .int .u64 ((wd (ofN 97 122) 0 : Nat) : Int), .int .u64 ((wd (ofN 97 122) 1 : Nat) : Int), .int .u64 ((wd (ofN 97 122) 2 : Nat) : Int), .int .u64 ((wd (ofN 97 122) 3 : Nat) : Int), .int .i64 0, .int .i64 0, .sl .no 0 [], .int .i64 0, .int .u64 0, .int .u64 0, .int .u64 0, .int .u64 0, .int .i64 0, .int .i64 0, .sl .no 0 [], .bool false, .int .i64 1, .int .i64 0]] = sV mS := rfl
theorem mR1_fold : AVal.agg [.sl .no 0 [], .bool false, .bool false, .int .i64 2, .int .u64 ((wd (ofN 97 97) 0 : Nat) : Int), .int .u64 ((wd (ofN 97 97) 1 : Nat) : Int), .int .u64 ((wd (ofN 97 97) 2 : Nat) : Int), .int .u64 ((wd (ofN 97 97) 3 : Nat) : Int), .int .i64 0, .int .i64 0, .sl .no 0 [], .int .i64 2, .int .u64 ((wd (ofN 98 98) 0 : Nat) : Int), .int .u64 ((wd (ofN 98 98) 1 : Nat) : Int), .int .u64 ((wd (ofN 98 98) 2 : Nat) : Int), .int .u64 ((wd (ofN 98 98) 3 : Nat) : Int), .int .i64 0, .int .i64 0, .sl .no 0 [], .bool false, .int .i64 2, .int .i64 0] = ruV mR1 := rfl
theorem noS_fold8 : AVal.agg [.sl .no 0 [], .bool false, .sl .no 0 []] = sV noS := rfl
theorem w_awake8 : PCall Tryz.prog 4 [] (.bool true) := by
  have h1 := mS_ok
  have h2 := noS_ok
  have eT : iTks [sV mS, .str [97, 98, 99, 45]] = some (.tup (.agg [.sl .no 2 [.int .i64 0, .int .i64 0, .int .i64 2, .int .i64 0, .int .i64 2, .int .i64 2, .int .i64 3, .int .i64 0], .int .i64 3]) [.int .i64 0]) := by rw [iTks_eq (u := mS) (w := [97, 98, 99, 45]) ⟨h1, by decide⟩, toks_a]; rfl
  have eN : iTks [sV noS, .str []] = some (.tup (.agg [.sl .no 0 [], .int .i64 0]) [.int .i64 1]) := by rw [iTks_eq (u := noS) (w := []) ⟨h2, by decide⟩, toks_n]; rfl
  have eH : iHe [ruV mR1, .str [97, 98]] = some (.int .i64 1) := by rw [iHe_eq (u := mR1) (s := [97, 98]) ⟨mR1_ok, by decide⟩, hd_1]; rfl
  have hq : pickQ mS [97, 98] 0 0 = (0, 2) := by
    unfold pickQ
    rw [if_pos ⟨⟨by decide, mS_right⟩, by decide⟩]
    exact pk_b
  have eP : iPi [sV mS, .str [97, 98], .int .i64 0, .int .i64 0] = some (.tup (.int .i64 0) [.int .i64 2]) := by rw [iPi_eq (u := mS) (w := [97, 98]) (i := 0) (c := 0) ⟨h1, by decide⟩, hq]; rfl
  refine PCall.of_w (fn := Tryz.f4) (Γ := gam [(8, .pure iChr8), (9, .pure iOf), (10, .pure iTks), (11, .pure iPi), (12, .pure iHe)]) (mu := false) (Sound.pure iChr8_call (Sound.pure iOf_call (Sound.pure iTks_call (Sound.pure iPi_call (Sound.pure iHe_call Sound.nil))))) mixed Tryz.func4 rfl (by kernel_rfl) (by simp) (by kernel_rfl) ?_
  simp (disch := first | assumption | omega | exact okR_new | exact okR_one | exact trivial | (simp only [lnA, lnC, lnN]; omega) | (simp only [lnA, lnC, lnN, Nat.reduceAdd]) | rfl) only [go_sem, e_go, e_cond_bool, e_w_bool, e_step_ite, e_reg_ite, e_regW_ite, e_code_ite, e_block_ite, e_evQ_ite, e_fin_ite, e_pair_ite, Tryz.f4, iChr8_eq, iOf_eq, iTks_eq, iPi_eq, iHe_eq, setL, bC1t, bR2, bRu3, mS_fold, noS_fold8, mR1_fold, chX_cells, List.cons_append, List.nil_append, stK_fold, azX_fold, eT, eN, eP, eH, tk_eql, tkE]
noncomputable def iAw8 : List AVal → Option AVal := pimp fun xs r => (True) ∧ xs = [] ∧ r = .bool true
theorem iAw8_eq  (h : True) : iAw8 [] = some (.bool true) := pimp_eq ⟨h, rfl, rfl⟩ (by rintro _ ⟨h', e, rfl⟩; first | rfl | exact ⟨rfl, rfl⟩)
theorem iAw8_call : ∀ xs v, iAw8 xs = some v → PCall Tryz.prog 4 xs v := fun xs v h0 => by obtain ⟨h, rfl, rfl⟩ := pimp_spec h0; exact w_awake8
end Go.Hk.MZ
