/- Layer 6: rules that are spoilt. -/
import Derived.Test.YtpbepclmcjmlbaaGreatDoorHkDZDS15
import Derived.Test.YtpbepclmcjmlbaaGreatDoorHkDZDS13
import Derived.Test.YtpbepclmcjmlbaaGreatDoorHkSpm
set_option linter.unusedSimpArgs false
set_option linter.unusedVariables false
set_option maxRecDepth 20000
set_option maxHeartbeats 4000000
namespace Go.Hk.DZD
open Go.Proofs
theorem ti32 : tiOf Tryz.prog 32 = some { size := 1, bytes := 8, zero := some (.nilp), k := .ptr 41 } := by kernel_rfl
attribute [go_sem] ti32
theorem apCd_T : appT Tryz.prog 23 23 = some ⟨43, 2, 24⟩ := by kernel_rfl
theorem apCd_all {H : List ABlk} {T : List (Nat × (Nat × Nat))} {r r' : Rt} {l l'} (hr : okR T r (l.length * 2) (2, 43) = true) (hf : r = .full → l.length = 0 ∨ 0 < l'.length) (hn : l.length + l'.length < 1000000000) : aappend Tryz.prog 23 23 ⟨H, T⟩ (.sl r l.length (fl cCd l)) (.sl r' l'.length (fl cCd l')) = some (.sl (nxR T r) (l ++ l').length (fl cCd (l ++ l')), ⟨H, nxT T r ((l ++ l').length * 2) (2, 43)⟩) := app_fls apCd_T (by decide) cCd_len hr hf hn
theorem apM : appT Tryz.prog 24 24 = some ⟨41, 22, 216⟩ := by kernel_rfl
theorem apC : appT Tryz.prog 23 23 = some ⟨43, 2, 24⟩ := by kernel_rfl
theorem amR {H : List ABlk} {T : List (Nat × (Nat × Nat))} {l : List Ru} (h : 1 ≤ l.length) (h' : l.length ≤ 40) : amapp Tryz.prog 24 24 ⟨H, T⟩ (.sl .nil 0 []) (.sl .no l.length (fl cRu l)) = some (.msl H.length 22 0 l.length (l.length * 22), ⟨H ++ [.cells 22 (fl cRu l)], T⟩) := by
  have hl := fl_len cRu_len l
  simp [amapp, apM, alist, hl]
  omega
theorem amC {H : List ABlk} {T : List (Nat × (Nat × Nat))} {l : List Cd} (h : 1 ≤ l.length) (h' : l.length ≤ 8) : amapp Tryz.prog 23 23 ⟨H, T⟩ (.sl .nil 0 []) (.sl .no l.length (fl cCd l)) = some (.msl H.length 2 0 l.length (l.length * 2), ⟨H ++ [.cells 2 (fl cCd l)], T⟩) := by
  have hl := fl_len cCd_len l
  simp [amapp, apC, alist, hl]
  omega
theorem bC1m {m : AMem} {cs : List AVal} (h : cs.length = 2) : abuildSlice Tryz.prog true m 23 1 [(0, .agg cs)] = some (.sl .full 1 cs, m) := build_one ti23 ti43 rfl rfl h rfl (by decide) (by decide)
theorem bI1m {m : AMem} {a : Int} : abuildSlice Tryz.prog true m 33 1 [(0, .int .i64 a)] = some (.sl .full 1 [.int .i64 a], m) := build_one ti33 ti3 rfl rfl rfl rfl (by decide) (by decide)
theorem apN : appT Tryz.prog 33 33 = some ⟨3, 1, 8⟩ := by kernel_rfl
theorem am0 {m : AMem} : amapp Tryz.prog 33 33 m (.sl .nil 0 []) (.sl .no 0 []) = some (.sl .nil 0 [], m) := by simp [amapp, apN, alist]
theorem am1 {H : List ABlk} {T : List (Nat × (Nat × Nat))} {a : Int} : amapp Tryz.prog 33 33 ⟨H, T⟩ (.sl .nil 0 []) (.sl .full 1 [.int .i64 a]) = some (.msl H.length 1 0 1 1, ⟨H ++ [.cells 1 [.int .i64 a]], T⟩) := by simp [amapp, apN, alist]
theorem amI {H : List ABlk} {T : List (Nat × (Nat × Nat))} {l : List Int} (h : ¬ l.length = 0) (h' : l.length ≤ 8) : amapp Tryz.prog 33 33 ⟨H, T⟩ (.sl .nil 0 []) (.sl .no l.length (fl cI l)) = some (.msl H.length 1 0 l.length l.length, ⟨H ++ [.cells 1 (fl cI l)], T⟩) := by
  have hl := fl_len cI_len l
  have : 0 < l.length := by omega
  simp [amapp, apN, alist, hl, this]
  omega
theorem amI2 {b0 b1 b2 : ABlk} {T : List (Nat × (Nat × Nat))} {l : List Int} {a : Int} (h' : l.length ≤ 8) : amapp Tryz.prog 33 33 ⟨[b0, b1, b2, .cells 1 (fl cI l)], T⟩ (.msl 3 1 0 l.length l.length) (.sl .full 1 [.int .i64 a]) = some (.msl 3 65 0 (l.length + 1) (l.length + 1), ⟨[b0, b1, b2, .cells 65 (fl cI l ++ [.int .i64 a])], T⟩) := by
  have hl := fl_len cI_len l
  simp [amapp, apN, alist, hl]
  omega
theorem madeS_len (L : List UInt8) (p : Bool) : (1 ≤ (madeS L p).conds.length ∧ (madeS L p).conds.length ≤ 8) ∧ 1 ≤ (madeS L p).rules.length ∧ (madeS L p).rules.length ≤ 40 := by
  have h := rightS_spec (madeS_good L p).2
  have hl := (rusM_at (L.take 60) (1 + pickV (L.take 60) 0 3) p 4 (1 + pickV (L.take 60) 3 4)).2
  refine ⟨⟨h.1, h.2.1⟩, ?_, h.2.2.1⟩
  simp only [madeS, spM, hl]; omega
-- CASES
theorem w_sp0 (L : List UInt8) (o d : Nat) (n : Int) (t : List UInt8) (hL : L.length < 9223372036854775808) (ho : o < 256) (hd : d < 256) (hn : -9223372036854775808 ≤ n ∧ n ≤ 9223372036854775807) (ht : t.length ≤ 100) (hoc : o % 12 = 0) :
    PCall Tryz.prog 4 [slc cU L, .int .u8 (o : Nat), .int .u8 (d : Nat), .int .i64 n, .str t] (.bool true) := by
  obtain ⟨a1, a2⟩ := madeS_good L false
  obtain ⟨⟨c1, c2⟩, r1, r2⟩ := madeS_len L false
  obtain ⟨s, hs⟩ : ∃ s, madeS L false = s := ⟨_, rfl⟩
  rw [hs] at a1 a2 c1 c2 r1 r2
  have hcs := cSp_eq s
  have hom : ((o : Nat) : Int).tmod 12 = ((o % 12 : Nat) : Int) := by rw [Int.tmod_eq_emod_of_nonneg (by omega)]; rfl
  have hdn : ∀ m : Nat, ((d : Nat) : Int).tmod ((m : Nat) : Int) = ((d % m : Nat) : Int) := fun m => by rw [Int.tmod_eq_emod_of_nonneg (by omega)]; rfl
  obtain ⟨k, hk⟩ : ∃ k, d % s.rules.length = k := ⟨_, rfl⟩
  have hkl : k < s.rules.length := by rw [← hk]; exact Nat.mod_lt _ (by omega)
  have hdm := hdn s.rules.length
  rw [hk] at hdm
  have hg : s.rules[k]? = some s.rules[k] := by simp [hkl]
  have hq := a1.ru _ (List.getElem_mem hkl)
  generalize hQ : s.rules[k] = q at *
  have hst : (fl cRu s.rules).set (k * 22 + 20) (.int .i64 n) = fl cRu (s.rules.set k ({ q with act := n } : Ru)) := fl_setMany (vs := [.int .i64 n]) (j := 20) cRu_len hg (by simp) (by rw [cRu_eq, cRu_eq]; rfl)
  have hfold : AVal.agg [.sl .no s.conds.length (fl cCd s.conds), .bool s.deft, .sl .no s.rules.length (fl cRu (s.rules.set k ({ q with act := n } : Ru)))] = sV (s.upR k ({ q with act := n } : Ru)) := by simp [sV, cSp, Sp.upR]
  have hok : okSp (s.upR k ({ q with act := n } : Ru)) ∧ okSp (s.upR k ({ q with act := n } : Ru)) := ⟨a1.upR ⟨hq.nc, hq.rx, hq.tr⟩, a1.upR ⟨hq.nc, hq.rx, hq.tr⟩⟩
  refine PCall.of_w (fn := Tryz.f4) (Γ := gam [(5, .pure iMade6), (6, .pure iAw6), (7, .pure iSame6)]) (mu := true) (Sound.pure iMade6_call (Sound.pure iAw6_call (Sound.pure iSame6_call Sound.nil))) mixed Tryz.func4 rfl (by kernel_rfl) (by simp) (by kernel_rfl) ?_
  simp (disch := first | assumption | omega | exact okR_new | exact okR_one | exact trivial | (simp only [List.length_append, List.length_cons, List.length_nil]; omega) | (simp only [List.length_append, List.length_cons, List.length_nil, Nat.reduceAdd])) only [go_sem, e_go, e_cond_bool, e_w_bool, e_step_ite, e_reg_ite, e_regW_ite, e_code_ite, e_block_ite, e_evQ_ite, e_fin_ite, e_pair_ite, Tryz.f4, iMade6_eq, iAw6_eq, iSame6_eq, hs, hcs, hom, hoc, hdm, amR, amC, hst, hfold]
theorem w_sp1 (L : List UInt8) (o d : Nat) (n : Int) (t : List UInt8) (hL : L.length < 9223372036854775808) (ho : o < 256) (hd : d < 256) (hn : -9223372036854775808 ≤ n ∧ n ≤ 9223372036854775807) (ht : t.length ≤ 100) (hoc : o % 12 = 1) :
    PCall Tryz.prog 4 [slc cU L, .int .u8 (o : Nat), .int .u8 (d : Nat), .int .i64 n, .str t] (.bool true) := by
  obtain ⟨a1, a2⟩ := madeS_good L false
  obtain ⟨⟨c1, c2⟩, r1, r2⟩ := madeS_len L false
  obtain ⟨s, hs⟩ : ∃ s, madeS L false = s := ⟨_, rfl⟩
  rw [hs] at a1 a2 c1 c2 r1 r2
  have hcs := cSp_eq s
  have hom : ((o : Nat) : Int).tmod 12 = ((o % 12 : Nat) : Int) := by rw [Int.tmod_eq_emod_of_nonneg (by omega)]; rfl
  have hdn : ∀ m : Nat, ((d : Nat) : Int).tmod ((m : Nat) : Int) = ((d % m : Nat) : Int) := fun m => by rw [Int.tmod_eq_emod_of_nonneg (by omega)]; rfl
  obtain ⟨k, hk⟩ : ∃ k, d % s.rules.length = k := ⟨_, rfl⟩
  have hkl : k < s.rules.length := by rw [← hk]; exact Nat.mod_lt _ (by omega)
  have hdm := hdn s.rules.length
  rw [hk] at hdm
  have hg : s.rules[k]? = some s.rules[k] := by simp [hkl]
  have hq := a1.ru _ (List.getElem_mem hkl)
  generalize hQ : s.rules[k] = q at *
  have hst : (fl cRu s.rules).set (k * 22 + 21) (.int .i64 n) = fl cRu (s.rules.set k ({ q with to := n } : Ru)) := fl_setMany (vs := [.int .i64 n]) (j := 21) cRu_len hg (by simp) (by rw [cRu_eq, cRu_eq]; rfl)
  have hfold : AVal.agg [.sl .no s.conds.length (fl cCd s.conds), .bool s.deft, .sl .no s.rules.length (fl cRu (s.rules.set k ({ q with to := n } : Ru)))] = sV (s.upR k ({ q with to := n } : Ru)) := by simp [sV, cSp, Sp.upR]
  have hok : okSp (s.upR k ({ q with to := n } : Ru)) ∧ okSp (s.upR k ({ q with to := n } : Ru)) := ⟨a1.upR ⟨hq.nc, hq.rx, hq.tr⟩, a1.upR ⟨hq.nc, hq.rx, hq.tr⟩⟩
  refine PCall.of_w (fn := Tryz.f4) (Γ := gam [(5, .pure iMade6), (6, .pure iAw6), (7, .pure iSame6)]) (mu := true) (Sound.pure iMade6_call (Sound.pure iAw6_call (Sound.pure iSame6_call Sound.nil))) mixed Tryz.func4 rfl (by kernel_rfl) (by simp) (by kernel_rfl) ?_
  simp (disch := first | assumption | omega | exact okR_new | exact okR_one | exact trivial | (simp only [List.length_append, List.length_cons, List.length_nil]; omega) | (simp only [List.length_append, List.length_cons, List.length_nil, Nat.reduceAdd])) only [go_sem, e_go, e_cond_bool, e_w_bool, e_step_ite, e_reg_ite, e_regW_ite, e_code_ite, e_block_ite, e_evQ_ite, e_fin_ite, e_pair_ite, Tryz.f4, iMade6_eq, iAw6_eq, iSame6_eq, hs, hcs, hom, hoc, hdm, amR, amC, hst, hfold]
theorem w_sp3 (L : List UInt8) (o d : Nat) (n : Int) (t : List UInt8) (hL : L.length < 9223372036854775808) (ho : o < 256) (hd : d < 256) (hn : -9223372036854775808 ≤ n ∧ n ≤ 9223372036854775807) (ht : t.length ≤ 100) (hoc : o % 12 = 3) :
    PCall Tryz.prog 4 [slc cU L, .int .u8 (o : Nat), .int .u8 (d : Nat), .int .i64 n, .str t] (.bool true) := by
  obtain ⟨a1, a2⟩ := madeS_good L false
  obtain ⟨⟨c1, c2⟩, r1, r2⟩ := madeS_len L false
  obtain ⟨s, hs⟩ : ∃ s, madeS L false = s := ⟨_, rfl⟩
  rw [hs] at a1 a2 c1 c2 r1 r2
  have hcs := cSp_eq s
  have hom : ((o : Nat) : Int).tmod 12 = ((o % 12 : Nat) : Int) := by rw [Int.tmod_eq_emod_of_nonneg (by omega)]; rfl
  have hdn : ∀ m : Nat, ((d : Nat) : Int).tmod ((m : Nat) : Int) = ((d % m : Nat) : Int) := fun m => by rw [Int.tmod_eq_emod_of_nonneg (by omega)]; rfl
  obtain ⟨k, hk⟩ : ∃ k, d % s.rules.length = k := ⟨_, rfl⟩
  have hkl : k < s.rules.length := by rw [← hk]; exact Nat.mod_lt _ (by omega)
  have hdm := hdn s.rules.length
  rw [hk] at hdm
  have hg : s.rules[k]? = some s.rules[k] := by simp [hkl]
  have hq := a1.ru _ (List.getElem_mem hkl)
  generalize hQ : s.rules[k] = q at *
  have hst : (fl cRu s.rules).set (k * 22 + 1) (.bool (!q.all)) = fl cRu (s.rules.set k ({ q with all := !q.all } : Ru)) := fl_setMany (vs := [.bool (!q.all)]) (j := 1) cRu_len hg (by simp) (by rw [cRu_eq, cRu_eq]; rfl)
  have hfold : AVal.agg [.sl .no s.conds.length (fl cCd s.conds), .bool s.deft, .sl .no s.rules.length (fl cRu (s.rules.set k ({ q with all := !q.all } : Ru)))] = sV (s.upR k ({ q with all := !q.all } : Ru)) := by simp [sV, cSp, Sp.upR]
  have hok : okSp (s.upR k ({ q with all := !q.all } : Ru)) ∧ okSp (s.upR k ({ q with all := !q.all } : Ru)) := ⟨a1.upR ⟨hq.nc, hq.rx, hq.tr⟩, a1.upR ⟨hq.nc, hq.rx, hq.tr⟩⟩
  have hrd := fl_get cRu_len hg (j := 1) (by decide)
  rw [cRu_eq] at hrd
  simp only [List.getElem?_cons_zero, List.getElem?_cons_succ] at hrd
  refine PCall.of_w (fn := Tryz.f4) (Γ := gam [(5, .pure iMade6), (6, .pure iAw6), (7, .pure iSame6)]) (mu := true) (Sound.pure iMade6_call (Sound.pure iAw6_call (Sound.pure iSame6_call Sound.nil))) mixed Tryz.func4 rfl (by kernel_rfl) (by simp) (by kernel_rfl) ?_
  simp (disch := first | assumption | omega | exact okR_new | exact okR_one | exact trivial | (simp only [List.length_append, List.length_cons, List.length_nil]; omega) | (simp only [List.length_append, List.length_cons, List.length_nil, Nat.reduceAdd])) only [go_sem, e_go, e_cond_bool, e_w_bool, e_step_ite, e_reg_ite, e_regW_ite, e_code_ite, e_block_ite, e_evQ_ite, e_fin_ite, e_pair_ite, Tryz.f4, iMade6_eq, iAw6_eq, iSame6_eq, hs, hcs, hom, hoc, hdm, amR, amC, hst, hfold, hrd]
theorem w_sp4 (L : List UInt8) (o d : Nat) (n : Int) (t : List UInt8) (hL : L.length < 9223372036854775808) (ho : o < 256) (hd : d < 256) (hn : -9223372036854775808 ≤ n ∧ n ≤ 9223372036854775807) (ht : t.length ≤ 100) (hoc : o % 12 = 4) :
    PCall Tryz.prog 4 [slc cU L, .int .u8 (o : Nat), .int .u8 (d : Nat), .int .i64 n, .str t] (.bool true) := by
  obtain ⟨a1, a2⟩ := madeS_good L false
  obtain ⟨⟨c1, c2⟩, r1, r2⟩ := madeS_len L false
  obtain ⟨s, hs⟩ : ∃ s, madeS L false = s := ⟨_, rfl⟩
  rw [hs] at a1 a2 c1 c2 r1 r2
  have hcs := cSp_eq s
  have hom : ((o : Nat) : Int).tmod 12 = ((o % 12 : Nat) : Int) := by rw [Int.tmod_eq_emod_of_nonneg (by omega)]; rfl
  have hdn : ∀ m : Nat, ((d : Nat) : Int).tmod ((m : Nat) : Int) = ((d % m : Nat) : Int) := fun m => by rw [Int.tmod_eq_emod_of_nonneg (by omega)]; rfl
  obtain ⟨k, hk⟩ : ∃ k, d % s.rules.length = k := ⟨_, rfl⟩
  have hkl : k < s.rules.length := by rw [← hk]; exact Nat.mod_lt _ (by omega)
  have hdm := hdn s.rules.length
  rw [hk] at hdm
  have hg : s.rules[k]? = some s.rules[k] := by simp [hkl]
  have hq := a1.ru _ (List.getElem_mem hkl)
  generalize hQ : s.rules[k] = q at *
  have hst : (fl cRu s.rules).set (k * 22 + 2) (.bool (!q.bol)) = fl cRu (s.rules.set k ({ q with bol := !q.bol } : Ru)) := fl_setMany (vs := [.bool (!q.bol)]) (j := 2) cRu_len hg (by simp) (by rw [cRu_eq, cRu_eq]; rfl)
  have hfold : AVal.agg [.sl .no s.conds.length (fl cCd s.conds), .bool s.deft, .sl .no s.rules.length (fl cRu (s.rules.set k ({ q with bol := !q.bol } : Ru)))] = sV (s.upR k ({ q with bol := !q.bol } : Ru)) := by simp [sV, cSp, Sp.upR]
  have hok : okSp (s.upR k ({ q with bol := !q.bol } : Ru)) ∧ okSp (s.upR k ({ q with bol := !q.bol } : Ru)) := ⟨a1.upR ⟨hq.nc, hq.rx, hq.tr⟩, a1.upR ⟨hq.nc, hq.rx, hq.tr⟩⟩
  have hrd := fl_get cRu_len hg (j := 2) (by decide)
  rw [cRu_eq] at hrd
  simp only [List.getElem?_cons_zero, List.getElem?_cons_succ] at hrd
  refine PCall.of_w (fn := Tryz.f4) (Γ := gam [(5, .pure iMade6), (6, .pure iAw6), (7, .pure iSame6)]) (mu := true) (Sound.pure iMade6_call (Sound.pure iAw6_call (Sound.pure iSame6_call Sound.nil))) mixed Tryz.func4 rfl (by kernel_rfl) (by simp) (by kernel_rfl) ?_
  simp (disch := first | assumption | omega | exact okR_new | exact okR_one | exact trivial | (simp only [List.length_append, List.length_cons, List.length_nil]; omega) | (simp only [List.length_append, List.length_cons, List.length_nil, Nat.reduceAdd])) only [go_sem, e_go, e_cond_bool, e_w_bool, e_step_ite, e_reg_ite, e_regW_ite, e_code_ite, e_block_ite, e_evQ_ite, e_fin_ite, e_pair_ite, Tryz.f4, iMade6_eq, iAw6_eq, iSame6_eq, hs, hcs, hom, hoc, hdm, amR, amC, hst, hfold, hrd]
theorem w_sp5 (L : List UInt8) (o d : Nat) (n : Int) (t : List UInt8) (hL : L.length < 9223372036854775808) (ho : o < 256) (hd : d < 256) (hn : -9223372036854775808 ≤ n ∧ n ≤ 9223372036854775807) (ht : t.length ≤ 100) (hoc : o % 12 = 5) :
    PCall Tryz.prog 4 [slc cU L, .int .u8 (o : Nat), .int .u8 (d : Nat), .int .i64 n, .str t] (.bool true) := by
  obtain ⟨a1, a2⟩ := madeS_good L false
  obtain ⟨⟨c1, c2⟩, r1, r2⟩ := madeS_len L false
  obtain ⟨s, hs⟩ : ∃ s, madeS L false = s := ⟨_, rfl⟩
  rw [hs] at a1 a2 c1 c2 r1 r2
  have hcs := cSp_eq s
  have hom : ((o : Nat) : Int).tmod 12 = ((o % 12 : Nat) : Int) := by rw [Int.tmod_eq_emod_of_nonneg (by omega)]; rfl
  have hdn : ∀ m : Nat, ((d : Nat) : Int).tmod ((m : Nat) : Int) = ((d % m : Nat) : Int) := fun m => by rw [Int.tmod_eq_emod_of_nonneg (by omega)]; rfl
  obtain ⟨k, hk⟩ : ∃ k, d % s.rules.length = k := ⟨_, rfl⟩
  have hkl : k < s.rules.length := by rw [← hk]; exact Nat.mod_lt _ (by omega)
  have hdm := hdn s.rules.length
  rw [hk] at hdm
  have hg : s.rules[k]? = some s.rules[k] := by simp [hkl]
  have hq := a1.ru _ (List.getElem_mem hkl)
  generalize hQ : s.rules[k] = q at *
  have hst : (fl cRu s.rules).set (k * 22 + 19) (.bool (!q.eof)) = fl cRu (s.rules.set k ({ q with eof := !q.eof } : Ru)) := fl_setMany (vs := [.bool (!q.eof)]) (j := 19) cRu_len hg (by simp) (by rw [cRu_eq, cRu_eq]; rfl)
  have hfold : AVal.agg [.sl .no s.conds.length (fl cCd s.conds), .bool s.deft, .sl .no s.rules.length (fl cRu (s.rules.set k ({ q with eof := !q.eof } : Ru)))] = sV (s.upR k ({ q with eof := !q.eof } : Ru)) := by simp [sV, cSp, Sp.upR]
  have hok : okSp (s.upR k ({ q with eof := !q.eof } : Ru)) ∧ okSp (s.upR k ({ q with eof := !q.eof } : Ru)) := ⟨a1.upR ⟨hq.nc, hq.rx, hq.tr⟩, a1.upR ⟨hq.nc, hq.rx, hq.tr⟩⟩
  have hrd := fl_get cRu_len hg (j := 19) (by decide)
  rw [cRu_eq] at hrd
  simp only [List.getElem?_cons_zero, List.getElem?_cons_succ] at hrd
  refine PCall.of_w (fn := Tryz.f4) (Γ := gam [(5, .pure iMade6), (6, .pure iAw6), (7, .pure iSame6)]) (mu := true) (Sound.pure iMade6_call (Sound.pure iAw6_call (Sound.pure iSame6_call Sound.nil))) mixed Tryz.func4 rfl (by kernel_rfl) (by simp) (by kernel_rfl) ?_
  simp (disch := first | assumption | omega | exact okR_new | exact okR_one | exact trivial | (simp only [List.length_append, List.length_cons, List.length_nil]; omega) | (simp only [List.length_append, List.length_cons, List.length_nil, Nat.reduceAdd])) only [go_sem, e_go, e_cond_bool, e_w_bool, e_step_ite, e_reg_ite, e_regW_ite, e_code_ite, e_block_ite, e_evQ_ite, e_fin_ite, e_pair_ite, Tryz.f4, iMade6_eq, iAw6_eq, iSame6_eq, hs, hcs, hom, hoc, hdm, amR, amC, hst, hfold, hrd]
theorem w_sp6 (L : List UInt8) (o d : Nat) (n : Int) (t : List UInt8) (hL : L.length < 9223372036854775808) (ho : o < 256) (hd : d < 256) (hn : -9223372036854775808 ≤ n ∧ n ≤ 9223372036854775807) (ht : t.length ≤ 100) (hoc : o % 12 = 6) :
    PCall Tryz.prog 4 [slc cU L, .int .u8 (o : Nat), .int .u8 (d : Nat), .int .i64 n, .str t] (.bool true) := by
  obtain ⟨a1, a2⟩ := madeS_good L false
  obtain ⟨⟨c1, c2⟩, r1, r2⟩ := madeS_len L false
  obtain ⟨s, hs⟩ : ∃ s, madeS L false = s := ⟨_, rfl⟩
  rw [hs] at a1 a2 c1 c2 r1 r2
  have hcs := cSp_eq s
  have hom : ((o : Nat) : Int).tmod 12 = ((o % 12 : Nat) : Int) := by rw [Int.tmod_eq_emod_of_nonneg (by omega)]; rfl
  have hdn : ∀ m : Nat, ((d : Nat) : Int).tmod ((m : Nat) : Int) = ((d % m : Nat) : Int) := fun m => by rw [Int.tmod_eq_emod_of_nonneg (by omega)]; rfl
  obtain ⟨k, hk⟩ : ∃ k, d % s.rules.length = k := ⟨_, rfl⟩
  have hkl : k < s.rules.length := by rw [← hk]; exact Nat.mod_lt _ (by omega)
  have hdm := hdn s.rules.length
  rw [hk] at hdm
  have hg : s.rules[k]? = some s.rules[k] := by simp [hkl]
  have hq := a1.ru _ (List.getElem_mem hkl)
  generalize hQ : s.rules[k] = q at *
  have hmx : okX (.mk n 0 0 0 []) := .mk (by omega) (by omega) (by omega) (by omega) (by simp) (fun y hy => by cases hy)
  have hst : setMany (fl cRu s.rules) (k * 22 + 11) [.int .i64 n, .int .u64 0, .int .u64 0, .int .u64 0, .int .u64 0, .int .i64 0, .int .i64 0, .sl .no 0 []] = fl cRu (s.rules.set k ({ q with trail := .mk n 0 0 0 [] } : Ru)) := fl_setMany (j := 11) cRu_len hg (by simp) (by rw [cRu_eq, cRu_eq]; simp only [setMany]; kernel_rfl)
  have hfold : AVal.agg [.sl .no s.conds.length (fl cCd s.conds), .bool s.deft, .sl .no s.rules.length (fl cRu (s.rules.set k ({ q with trail := .mk n 0 0 0 [] } : Ru)))] = sV (s.upR k ({ q with trail := .mk n 0 0 0 [] } : Ru)) := by simp [sV, cSp, Sp.upR]
  have hok : okSp (s.upR k ({ q with trail := .mk n 0 0 0 [] } : Ru)) ∧ okSp (s.upR k ({ q with trail := .mk n 0 0 0 [] } : Ru)) := ⟨a1.upR ⟨hq.nc, hq.rx, hmx⟩, a1.upR ⟨hq.nc, hq.rx, hmx⟩⟩
  have hsp : stripL (setMany (fl cRu s.rules) (k * 22 + 11) [.int .i64 n, .int .u64 0, .int .u64 0, .int .u64 0, .int .u64 0, .int .i64 0, .int .i64 0, .sl .nil 0 []]) = some (fl cRu (s.rules.set k ({ q with trail := .mk n 0 0 0 [] } : Ru))) := by
    rw [← hst]
    exact stripL_setMany _ _ _ _ _ l_s_cRu rfl
  simp only [setMany] at hsp
  refine PCall.of_w (fn := Tryz.f4) (Γ := gam [(5, .pure iMade6), (6, .pure iAw6), (7, .pure iSame6)]) (mu := true) (Sound.pure iMade6_call (Sound.pure iAw6_call (Sound.pure iSame6_call Sound.nil))) mixed Tryz.func4 rfl (by kernel_rfl) (by simp) (by kernel_rfl) ?_
  simp (disch := first | assumption | omega | exact okR_new | exact okR_one | exact trivial | (simp only [List.length_append, List.length_cons, List.length_nil]; omega) | (simp only [List.length_append, List.length_cons, List.length_nil, Nat.reduceAdd])) only [go_sem, e_go, e_cond_bool, e_w_bool, e_step_ite, e_reg_ite, e_regW_ite, e_code_ite, e_block_ite, e_evQ_ite, e_fin_ite, e_pair_ite, Tryz.f4, iMade6_eq, iAw6_eq, iSame6_eq, hs, hcs, hom, hoc, hdm, amR, amC, hst, hfold, hsp]
theorem w_sp7 (L : List UInt8) (o d : Nat) (n : Int) (t : List UInt8) (hL : L.length < 9223372036854775808) (ho : o < 256) (hd : d < 256) (hn : -9223372036854775808 ≤ n ∧ n ≤ 9223372036854775807) (ht : t.length ≤ 100) (hoc : o % 12 = 7) :
    PCall Tryz.prog 4 [slc cU L, .int .u8 (o : Nat), .int .u8 (d : Nat), .int .i64 n, .str t] (.bool true) := by
  obtain ⟨a1, a2⟩ := madeS_good L false
  obtain ⟨⟨c1, c2⟩, r1, r2⟩ := madeS_len L false
  obtain ⟨s, hs⟩ : ∃ s, madeS L false = s := ⟨_, rfl⟩
  rw [hs] at a1 a2 c1 c2 r1 r2
  have hcs := cSp_eq s
  have hom : ((o : Nat) : Int).tmod 12 = ((o % 12 : Nat) : Int) := by rw [Int.tmod_eq_emod_of_nonneg (by omega)]; rfl
  have hdn : ∀ m : Nat, ((d : Nat) : Int).tmod ((m : Nat) : Int) = ((d % m : Nat) : Int) := fun m => by rw [Int.tmod_eq_emod_of_nonneg (by omega)]; rfl
  obtain ⟨k, hk⟩ : ∃ k, d % s.rules.length = k := ⟨_, rfl⟩
  have hkl : k < s.rules.length := by rw [← hk]; exact Nat.mod_lt _ (by omega)
  have hdm := hdn s.rules.length
  rw [hk] at hdm
  have hg : s.rules[k]? = some s.rules[k] := by simp [hkl]
  have hq := a1.ru _ (List.getElem_mem hkl)
  generalize hQ : s.rules[k] = q at *
  have hmx : okX (.mk n 0 0 0 []) := .mk (by omega) (by omega) (by omega) (by omega) (by simp) (fun y hy => by cases hy)
  have hst : setMany (fl cRu s.rules) (k * 22 + 3) [.int .i64 n, .int .u64 0, .int .u64 0, .int .u64 0, .int .u64 0, .int .i64 0, .int .i64 0, .sl .no 0 []] = fl cRu (s.rules.set k ({ q with rx := .mk n 0 0 0 [] } : Ru)) := fl_setMany (j := 3) cRu_len hg (by simp) (by rw [cRu_eq, cRu_eq]; simp only [setMany]; kernel_rfl)
  have hfold : AVal.agg [.sl .no s.conds.length (fl cCd s.conds), .bool s.deft, .sl .no s.rules.length (fl cRu (s.rules.set k ({ q with rx := .mk n 0 0 0 [] } : Ru)))] = sV (s.upR k ({ q with rx := .mk n 0 0 0 [] } : Ru)) := by simp [sV, cSp, Sp.upR]
  have hok : okSp (s.upR k ({ q with rx := .mk n 0 0 0 [] } : Ru)) ∧ okSp (s.upR k ({ q with rx := .mk n 0 0 0 [] } : Ru)) := ⟨a1.upR ⟨hq.nc, hmx, hq.tr⟩, a1.upR ⟨hq.nc, hmx, hq.tr⟩⟩
  have hsp : stripL (setMany (fl cRu s.rules) (k * 22 + 3) [.int .i64 n, .int .u64 0, .int .u64 0, .int .u64 0, .int .u64 0, .int .i64 0, .int .i64 0, .sl .nil 0 []]) = some (fl cRu (s.rules.set k ({ q with rx := .mk n 0 0 0 [] } : Ru))) := by
    rw [← hst]
    exact stripL_setMany _ _ _ _ _ l_s_cRu rfl
  simp only [setMany] at hsp
  refine PCall.of_w (fn := Tryz.f4) (Γ := gam [(5, .pure iMade6), (6, .pure iAw6), (7, .pure iSame6)]) (mu := true) (Sound.pure iMade6_call (Sound.pure iAw6_call (Sound.pure iSame6_call Sound.nil))) mixed Tryz.func4 rfl (by kernel_rfl) (by simp) (by kernel_rfl) ?_
  simp (disch := first | assumption | omega | exact okR_new | exact okR_one | exact trivial | (simp only [List.length_append, List.length_cons, List.length_nil]; omega) | (simp only [List.length_append, List.length_cons, List.length_nil, Nat.reduceAdd])) only [go_sem, e_go, e_cond_bool, e_w_bool, e_step_ite, e_reg_ite, e_regW_ite, e_code_ite, e_block_ite, e_evQ_ite, e_fin_ite, e_pair_ite, Tryz.f4, iMade6_eq, iAw6_eq, iSame6_eq, hs, hcs, hom, hoc, hdm, amR, amC, hst, hfold, hsp]
theorem w_sp8 (L : List UInt8) (o d : Nat) (n : Int) (t : List UInt8) (hL : L.length < 9223372036854775808) (ho : o < 256) (hd : d < 256) (hn : -9223372036854775808 ≤ n ∧ n ≤ 9223372036854775807) (ht : t.length ≤ 100) (hoc : o % 12 = 8) :
    PCall Tryz.prog 4 [slc cU L, .int .u8 (o : Nat), .int .u8 (d : Nat), .int .i64 n, .str t] (.bool true) := by
  obtain ⟨a1, a2⟩ := madeS_good L false
  obtain ⟨⟨c1, c2⟩, r1, r2⟩ := madeS_len L false
  obtain ⟨s, hs⟩ : ∃ s, madeS L false = s := ⟨_, rfl⟩
  rw [hs] at a1 a2 c1 c2 r1 r2
  have hcs := cSp_eq s
  have hom : ((o : Nat) : Int).tmod 12 = ((o % 12 : Nat) : Int) := by rw [Int.tmod_eq_emod_of_nonneg (by omega)]; rfl
  have hdn : ∀ m : Nat, ((d : Nat) : Int).tmod ((m : Nat) : Int) = ((d % m : Nat) : Int) := fun m => by rw [Int.tmod_eq_emod_of_nonneg (by omega)]; rfl
  obtain ⟨k, hk⟩ : ∃ k, d % s.rules.length = k := ⟨_, rfl⟩
  have hkl : k < s.rules.length := by rw [← hk]; exact Nat.mod_lt _ (by omega)
  have hdm := hdn s.rules.length
  rw [hk] at hdm
  have hg : s.rules[k]? = some s.rules[k] := by simp [hkl]
  have hq := a1.ru _ (List.getElem_mem hkl)
  obtain ⟨j, hj⟩ : ∃ j, d % s.conds.length = j := ⟨_, rfl⟩
  have hjl : j < s.conds.length := by rw [← hj]; exact Nat.mod_lt _ (by omega)
  have hdj := hdn s.conds.length
  rw [hj] at hdj
  have hgc : s.conds[j]? = some s.conds[j] := by simp [hjl]
  have hcn := a1.nm _ (List.getElem_mem hjl)
  generalize hQ : s.conds[j] = c at *
  have hst : (fl cCd s.conds).set (j * 2) (.str t) = fl cCd (s.conds.set j ({ c with name := t } : Cd)) := fl_setMany (vs := [.str t]) (j := 0) cCd_len hgc (by simp) rfl
  have hfold : AVal.agg [.sl .no s.conds.length (fl cCd (s.conds.set j ({ c with name := t } : Cd))), .bool s.deft, .sl .no s.rules.length (fl cRu s.rules)] = sV (s.upC j ({ c with name := t } : Cd)) := by simp [sV, cSp, Sp.upC]
  have hok : okSp (s.upC j ({ c with name := t } : Cd)) ∧ okSp (s.upC j ({ c with name := t } : Cd)) := ⟨a1.upC (by simp only; omega), a1.upC (by simp only; omega)⟩
  refine PCall.of_w (fn := Tryz.f4) (Γ := gam [(5, .pure iMade6), (6, .pure iAw6), (7, .pure iSame6)]) (mu := true) (Sound.pure iMade6_call (Sound.pure iAw6_call (Sound.pure iSame6_call Sound.nil))) mixed Tryz.func4 rfl (by kernel_rfl) (by simp) (by kernel_rfl) ?_
  simp (disch := first | assumption | omega | exact okR_new | exact okR_one | exact trivial | (simp only [List.length_append, List.length_cons, List.length_nil]; omega) | (simp only [List.length_append, List.length_cons, List.length_nil, Nat.reduceAdd])) only [go_sem, e_go, e_cond_bool, e_w_bool, e_step_ite, e_reg_ite, e_regW_ite, e_code_ite, e_block_ite, e_evQ_ite, e_fin_ite, e_pair_ite, Tryz.f4, iMade6_eq, iAw6_eq, iSame6_eq, hs, hcs, hom, hoc, hdm, hdj, amR, amC, hst, hfold]
theorem w_sp9 (L : List UInt8) (o d : Nat) (n : Int) (t : List UInt8) (hL : L.length < 9223372036854775808) (ho : o < 256) (hd : d < 256) (hn : -9223372036854775808 ≤ n ∧ n ≤ 9223372036854775807) (ht : t.length ≤ 100) (hoc : o % 12 = 9) :
    PCall Tryz.prog 4 [slc cU L, .int .u8 (o : Nat), .int .u8 (d : Nat), .int .i64 n, .str t] (.bool true) := by
  obtain ⟨a1, a2⟩ := madeS_good L false
  obtain ⟨⟨c1, c2⟩, r1, r2⟩ := madeS_len L false
  obtain ⟨s, hs⟩ : ∃ s, madeS L false = s := ⟨_, rfl⟩
  rw [hs] at a1 a2 c1 c2 r1 r2
  have hcs := cSp_eq s
  have hom : ((o : Nat) : Int).tmod 12 = ((o % 12 : Nat) : Int) := by rw [Int.tmod_eq_emod_of_nonneg (by omega)]; rfl
  have hdn : ∀ m : Nat, ((d : Nat) : Int).tmod ((m : Nat) : Int) = ((d % m : Nat) : Int) := fun m => by rw [Int.tmod_eq_emod_of_nonneg (by omega)]; rfl
  obtain ⟨k, hk⟩ : ∃ k, d % s.rules.length = k := ⟨_, rfl⟩
  have hkl : k < s.rules.length := by rw [← hk]; exact Nat.mod_lt _ (by omega)
  have hdm := hdn s.rules.length
  rw [hk] at hdm
  have hg : s.rules[k]? = some s.rules[k] := by simp [hkl]
  have hq := a1.ru _ (List.getElem_mem hkl)
  obtain ⟨j, hj⟩ : ∃ j, d % s.conds.length = j := ⟨_, rfl⟩
  have hjl : j < s.conds.length := by rw [← hj]; exact Nat.mod_lt _ (by omega)
  have hdj := hdn s.conds.length
  rw [hj] at hdj
  have hgc : s.conds[j]? = some s.conds[j] := by simp [hjl]
  have hcn := a1.nm _ (List.getElem_mem hjl)
  generalize hQ : s.conds[j] = c at *
  have hst : (fl cCd s.conds).set (j * 2 + 1) (.bool true) = fl cCd (s.conds.set j ({ c with ex := true } : Cd)) := fl_setMany (vs := [.bool true]) (j := 1) cCd_len hgc (by simp) rfl
  have hfold : AVal.agg [.sl .no s.conds.length (fl cCd (s.conds.set j ({ c with ex := true } : Cd))), .bool s.deft, .sl .no s.rules.length (fl cRu s.rules)] = sV (s.upC j ({ c with ex := true } : Cd)) := by simp [sV, cSp, Sp.upC]
  have hok : okSp (s.upC j ({ c with ex := true } : Cd)) ∧ okSp (s.upC j ({ c with ex := true } : Cd)) := ⟨a1.upC (by simp only; omega), a1.upC (by simp only; omega)⟩
  refine PCall.of_w (fn := Tryz.f4) (Γ := gam [(5, .pure iMade6), (6, .pure iAw6), (7, .pure iSame6)]) (mu := true) (Sound.pure iMade6_call (Sound.pure iAw6_call (Sound.pure iSame6_call Sound.nil))) mixed Tryz.func4 rfl (by kernel_rfl) (by simp) (by kernel_rfl) ?_
  simp (disch := first | assumption | omega | exact okR_new | exact okR_one | exact trivial | (simp only [List.length_append, List.length_cons, List.length_nil]; omega) | (simp only [List.length_append, List.length_cons, List.length_nil, Nat.reduceAdd])) only [go_sem, e_go, e_cond_bool, e_w_bool, e_step_ite, e_reg_ite, e_regW_ite, e_code_ite, e_block_ite, e_evQ_ite, e_fin_ite, e_pair_ite, Tryz.f4, iMade6_eq, iAw6_eq, iSame6_eq, hs, hcs, hom, hoc, hdm, hdj, amR, amC, hst, hfold]
theorem w_sp10 (L : List UInt8) (o d : Nat) (n : Int) (t : List UInt8) (hL : L.length < 9223372036854775808) (ho : o < 256) (hd : d < 256) (hn : -9223372036854775808 ≤ n ∧ n ≤ 9223372036854775807) (ht : t.length ≤ 100) (hoc : o % 12 = 10) :
    PCall Tryz.prog 4 [slc cU L, .int .u8 (o : Nat), .int .u8 (d : Nat), .int .i64 n, .str t] (.bool true) := by
  obtain ⟨a1, a2⟩ := madeS_good L false
  obtain ⟨⟨c1, c2⟩, r1, r2⟩ := madeS_len L false
  obtain ⟨s, hs⟩ : ∃ s, madeS L false = s := ⟨_, rfl⟩
  rw [hs] at a1 a2 c1 c2 r1 r2
  have hcs := cSp_eq s
  have hom : ((o : Nat) : Int).tmod 12 = ((o % 12 : Nat) : Int) := by rw [Int.tmod_eq_emod_of_nonneg (by omega)]; rfl
  have hdn : ∀ m : Nat, ((d : Nat) : Int).tmod ((m : Nat) : Int) = ((d % m : Nat) : Int) := fun m => by rw [Int.tmod_eq_emod_of_nonneg (by omega)]; rfl
  obtain ⟨k, hk⟩ : ∃ k, d % s.rules.length = k := ⟨_, rfl⟩
  have hkl : k < s.rules.length := by rw [← hk]; exact Nat.mod_lt _ (by omega)
  have hdm := hdn s.rules.length
  rw [hk] at hdm
  have hg : s.rules[k]? = some s.rules[k] := by simp [hkl]
  have hq := a1.ru _ (List.getElem_mem hkl)
  have hapc : ∀ {H : List ABlk} {T : List (Nat × (Nat × Nat))}, amapp Tryz.prog 23 23 ⟨[H.getD 0 (.cells 0 []), H.getD 1 (.cells 0 []), .cells 2 (fl cCd s.conds)], T⟩ (.msl 2 2 0 s.conds.length (s.conds.length * 2)) (.sl .full 1 [.str t, .bool false]) = some (.msl 2 66 0 (s.conds.length + 1) (s.conds.length * 2 + 2), ⟨[H.getD 0 (.cells 0 []), H.getD 1 (.cells 0 []), .cells 66 (fl cCd s.conds ++ [.str t, .bool false])], T⟩) := by
    intro H T
    have hl := fl_len cCd_len s.conds
    simp [amapp, apC, alist, hl]
    omega
  have hap2 : ∀ {b0 b1 : ABlk} {T : List (Nat × (Nat × Nat))}, amapp Tryz.prog 23 23 ⟨[b0, b1, .cells 2 (fl cCd s.conds)], T⟩ (.msl 2 2 0 s.conds.length (s.conds.length * 2)) (.sl .full 1 [.str t, .bool false]) = some (.msl 2 66 0 (s.conds.length + 1) (s.conds.length * 2 + 2), ⟨[b0, b1, .cells 66 (fl cCd s.conds ++ [.str t, .bool false])], T⟩) := fun {b0 b1 T} => hapc (H := [b0, b1])
  have hl1 : fl cCd s.conds ++ [.str t, .bool false] = fl cCd (s.conds ++ [⟨t, false⟩]) := by rw [fl_append]; rfl
  have hlen : s.conds.length * 2 + 2 = (fl cCd (s.conds ++ [⟨t, false⟩])).length := by rw [fl_len cCd_len]; simp; omega
  have hfold : AVal.agg [.sl .no (s.conds.length + 1) (fl cCd (s.conds ++ [⟨t, false⟩])), .bool s.deft, .sl .no s.rules.length (fl cRu s.rules)] = sV ⟨s.conds ++ [⟨t, false⟩], s.deft, s.rules⟩ := by simp [sV, cSp]
  have hok1 : okSp ⟨s.conds ++ [⟨t, false⟩], s.deft, s.rules⟩ := ⟨by simp; omega, a1.nr, fun c hc => by
    rcases List.mem_append.1 hc with hc | hc
    · exact a1.nm c hc
    · simp at hc; subst hc; simp only; omega, a1.ru⟩
  have hok : okSp ⟨s.conds ++ [⟨t, false⟩], s.deft, s.rules⟩ ∧ okSp ⟨s.conds ++ [⟨t, false⟩], s.deft, s.rules⟩ := ⟨hok1, hok1⟩
  refine PCall.of_w (fn := Tryz.f4) (Γ := gam [(5, .pure iMade6), (6, .pure iAw6), (7, .pure iSame6)]) (mu := true) (Sound.pure iMade6_call (Sound.pure iAw6_call (Sound.pure iSame6_call Sound.nil))) mixed Tryz.func4 rfl (by kernel_rfl) (by simp) (by kernel_rfl) ?_
  simp (disch := first | assumption | omega | exact okR_new | exact okR_one | exact trivial | (simp only [List.length_append, List.length_cons, List.length_nil]; omega) | (simp only [List.length_append, List.length_cons, List.length_nil, Nat.reduceAdd])) only [go_sem, e_go, e_cond_bool, e_w_bool, e_step_ite, e_reg_ite, e_regW_ite, e_code_ite, e_block_ite, e_evQ_ite, e_fin_ite, e_pair_ite, Tryz.f4, iMade6_eq, iAw6_eq, iSame6_eq, hs, hcs, hom, hoc, hdm, amR, amC, bC1m, hap2, hl1, hlen, hfold]
theorem w_spT (L : List UInt8) (o d : Nat) (n : Int) (t : List UInt8) (hL : L.length < 9223372036854775808) (ht : 100 < t.length) (ht2 : t.length < 9223372036854775808) :
    PCall Tryz.prog 4 [slc cU L, .int .u8 (o : Nat), .int .u8 (d : Nat), .int .i64 n, .str t] (.bool true) := by
  obtain ⟨a1, a2⟩ := madeS_good L false
  obtain ⟨s, hs⟩ : ∃ s, madeS L false = s := ⟨_, rfl⟩
  rw [hs] at a1 a2
  refine PCall.of_w (fn := Tryz.f4) (Γ := gam [(5, .pure iMade6), (6, .pure iAw6), (7, .pure iSame6)]) (mu := true) (Sound.pure iMade6_call (Sound.pure iAw6_call (Sound.pure iSame6_call Sound.nil))) mixed Tryz.func4 rfl (by kernel_rfl) (by simp) (by kernel_rfl) ?_
  simp (disch := first | assumption | omega | exact okR_new | exact okR_one | exact trivial | (simp only [List.length_append, List.length_cons, List.length_nil]; omega) | (simp only [List.length_append, List.length_cons, List.length_nil, Nat.reduceAdd])) only [go_sem, e_go, e_cond_bool, e_w_bool, e_step_ite, e_reg_ite, e_regW_ite, e_code_ite, e_block_ite, e_evQ_ite, e_fin_ite, e_pair_ite, Tryz.f4, iMade6_eq, iAw6_eq, iSame6_eq, hs]
theorem w_sp2 (L : List UInt8) (o d : Nat) (n : Int) (t : List UInt8) (hL : L.length < 9223372036854775808) (ho : o < 256) (hd : d < 256) (hn : -9223372036854775808 ≤ n ∧ n ≤ 9223372036854775807) (ht : t.length ≤ 100) (hoc : o % 12 = 2) :
    PCall Tryz.prog 4 [slc cU L, .int .u8 (o : Nat), .int .u8 (d : Nat), .int .i64 n, .str t] (.bool true) := by
  obtain ⟨a1, a2⟩ := madeS_good L false
  obtain ⟨⟨c1, c2⟩, r1, r2⟩ := madeS_len L false
  obtain ⟨s, hs⟩ : ∃ s, madeS L false = s := ⟨_, rfl⟩
  rw [hs] at a1 a2 c1 c2 r1 r2
  have hcs := cSp_eq s
  have hom : ((o : Nat) : Int).tmod 12 = ((o % 12 : Nat) : Int) := by rw [Int.tmod_eq_emod_of_nonneg (by omega)]; rfl
  have hdn : ∀ m : Nat, ((d : Nat) : Int).tmod ((m : Nat) : Int) = ((d % m : Nat) : Int) := fun m => by rw [Int.tmod_eq_emod_of_nonneg (by omega)]; rfl
  obtain ⟨k, hk⟩ : ∃ k, d % s.rules.length = k := ⟨_, rfl⟩
  have hkl : k < s.rules.length := by rw [← hk]; exact Nat.mod_lt _ (by omega)
  have hdm := hdn s.rules.length
  rw [hk] at hdm
  have hg : s.rules[k]? = some s.rules[k] := by simp [hkl]
  have hq := a1.ru _ (List.getElem_mem hkl)
  have hql : s.rules[k].conds.length ≤ 8 := (a1.line a2 (List.getElem_mem hkl)).cl
  generalize hQ : s.rules[k] = q at *
  have hk0 := fl_get0 cRu_len hg (by decide)
  rw [cRu_eq] at hk0
  simp only [List.getElem?_cons_zero] at hk0
  have hki : k * 22 < (fl cRu s.rules).length := by rw [fl_len cRu_len]; omega
  have hst : (fl cRu s.rules).set (k * 22) (.sl .no (q.conds.length + 1) (fl cI (q.conds ++ [n]))) = fl cRu (s.rules.set k ({ q with conds := q.conds ++ [n] } : Ru)) := by
    have := fl_setMany (vs := [.sl .no (q.conds.length + 1) (fl cI (q.conds ++ [n]))]) (j := 0) (y := ({ q with conds := q.conds ++ [n] } : Ru)) cRu_len hg (by simp) (by rw [cRu_eq, cRu_eq]; simp [setMany])
    simpa [setMany] using this
  have hfold : AVal.agg [.sl .no s.conds.length (fl cCd s.conds), .bool s.deft, .sl .no s.rules.length (fl cRu (s.rules.set k ({ q with conds := q.conds ++ [n] } : Ru)))] = sV (s.upR k ({ q with conds := q.conds ++ [n] } : Ru)) := by simp [sV, cSp, Sp.upR]
  have hok1 : okSp (s.upR k ({ q with conds := q.conds ++ [n] } : Ru)) := a1.upR ⟨by simp; omega, hq.rx, hq.tr⟩
  have hok : okSp (s.upR k ({ q with conds := q.conds ++ [n] } : Ru)) ∧ okSp (s.upR k ({ q with conds := q.conds ++ [n] } : Ru)) := ⟨hok1, hok1⟩
  have hrl : s.rules.length * 22 = (fl cRu s.rules).length := (fl_len cRu_len _).symm
  by_cases hm : q.conds.length = 0
  · have hqc : q.conds = [] := List.eq_nil_of_length_eq_zero hm
    rw [hqc] at hk0 hst hfold hok
    simp only [List.nil_append, List.length_nil, Nat.zero_add, fl] at hk0 hst hfold hok
    have hv := view_in (m := ⟨[.cells 0 [.msl 2 2 0 s.conds.length (s.conds.length * 2), .bool s.deft, .msl 1 22 0 s.rules.length (s.rules.length * 22)], .cells 22 ((fl cRu s.rules).set (k * 22) (.msl 3 1 0 1 1)), .cells 2 (fl cCd s.conds), .cells 1 [.int .i64 n]], []⟩) (b := 1) (e := 22) (n := s.rules.length) (l := s.rules.length * 22) (i := k * 22) (cs := fl cRu s.rules) (b' := 3) (e' := 1) (n' := 1) (l' := 1) (xs := [.int .i64 n]) (k := 5) rfl hrl hki l_s_cRu rfl rfl rfl
    rw [show ([.int .i64 n] : List AVal) = cI n ++ [] from rfl, hst] at hv
    simp only [List.append_nil, cI] at hv
    refine PCall.of_w (fn := Tryz.f4) (Γ := gam [(5, .pure iMade6), (6, .pure iAw6), (7, .pure iSame6)]) (mu := true) (Sound.pure iMade6_call (Sound.pure iAw6_call (Sound.pure iSame6_call Sound.nil))) mixed Tryz.func4 rfl (by kernel_rfl) (by simp) (by kernel_rfl) ?_
    simp (disch := first | assumption | omega | exact okR_new | exact okR_one | exact trivial | (simp only [List.length_append, List.length_cons, List.length_nil]; omega) | (simp only [List.length_append, List.length_cons, List.length_nil, Nat.reduceAdd])) only [go_sem, e_go, e_cond_bool, e_w_bool, e_step_ite, e_reg_ite, e_regW_ite, e_code_ite, e_block_ite, e_evQ_ite, e_fin_ite, e_pair_ite, Tryz.f4, iMade6_eq, iAw6_eq, iSame6_eq, hs, hcs, hom, hoc, hdm, amR, amC, hk0, am0, bI1m, am1, hv, hfold]
  · have hv := view_in (m := ⟨[.cells 0 [.msl 2 2 0 s.conds.length (s.conds.length * 2), .bool s.deft, .msl 1 22 0 s.rules.length (s.rules.length * 22)], .cells 22 ((fl cRu s.rules).set (k * 22) (.msl 3 65 0 (q.conds.length + 1) (q.conds.length + 1))), .cells 2 (fl cCd s.conds), .cells 65 (fl cI q.conds ++ [.int .i64 n])], []⟩) (b := 1) (e := 22) (n := s.rules.length) (l := s.rules.length * 22) (i := k * 22) (cs := fl cRu s.rules) (b' := 3) (e' := 65) (n' := q.conds.length + 1) (l' := q.conds.length + 1) (xs := fl cI q.conds ++ [.int .i64 n]) (ys := fl cI (q.conds ++ [n])) (k := 5) rfl hrl hki l_s_cRu rfl (by simp [fl_len cI_len]) (by rw [show fl cI q.conds ++ [.int .i64 n] = fl cI (q.conds ++ [n]) by rw [fl_append]; rfl]; exact fl_strip cI_strip _)
    rw [hst] at hv
    refine PCall.of_w (fn := Tryz.f4) (Γ := gam [(5, .pure iMade6), (6, .pure iAw6), (7, .pure iSame6)]) (mu := true) (Sound.pure iMade6_call (Sound.pure iAw6_call (Sound.pure iSame6_call Sound.nil))) mixed Tryz.func4 rfl (by kernel_rfl) (by simp) (by kernel_rfl) ?_
    simp (disch := first | assumption | omega | exact okR_new | exact okR_one | exact trivial | (simp only [List.length_append, List.length_cons, List.length_nil]; omega) | (simp only [List.length_append, List.length_cons, List.length_nil, Nat.reduceAdd])) only [go_sem, e_go, e_cond_bool, e_w_bool, e_step_ite, e_reg_ite, e_regW_ite, e_code_ite, e_block_ite, e_evQ_ite, e_fin_ite, e_pair_ite, Tryz.f4, iMade6_eq, iAw6_eq, iSame6_eq, hs, hcs, hom, hoc, hdm, amR, amC, hk0, amI, bI1m, amI2, hv, hfold]
theorem w_sp11 (L : List UInt8) (o d : Nat) (n : Int) (t : List UInt8) (hL : L.length < 9223372036854775808) (ho : o < 256) (hd : d < 256) (hn : -9223372036854775808 ≤ n ∧ n ≤ 9223372036854775807) (ht : t.length ≤ 100) (hoc : o % 12 = 11) :
    PCall Tryz.prog 4 [slc cU L, .int .u8 (o : Nat), .int .u8 (d : Nat), .int .i64 n, .str t] (.bool true) := by
  obtain ⟨a1, a2⟩ := madeS_good L false
  obtain ⟨⟨c1, c2⟩, r1, r2⟩ := madeS_len L false
  obtain ⟨s, hs⟩ : ∃ s, madeS L false = s := ⟨_, rfl⟩
  rw [hs] at a1 a2 c1 c2 r1 r2
  have hcs := cSp_eq s
  have hom : ((o : Nat) : Int).tmod 12 = ((o % 12 : Nat) : Int) := by rw [Int.tmod_eq_emod_of_nonneg (by omega)]; rfl
  have hdn : ∀ m : Nat, ((d : Nat) : Int).tmod ((m : Nat) : Int) = ((d % m : Nat) : Int) := fun m => by rw [Int.tmod_eq_emod_of_nonneg (by omega)]; rfl
  obtain ⟨k, hk⟩ : ∃ k, d % s.rules.length = k := ⟨_, rfl⟩
  have hkl : k < s.rules.length := by rw [← hk]; exact Nat.mod_lt _ (by omega)
  have hdm := hdn s.rules.length
  rw [hk] at hdm
  have hg : s.rules[k]? = some s.rules[k] := by simp [hkl]
  have hq := a1.ru _ (List.getElem_mem hkl)
  generalize hQ : s.rules[k] = q at *
  have hat := fl_at cRu_len hg
  have hle : k * 22 + 22 ≤ s.rules.length * 22 := by omega
  have h20 : ((d : Nat) : Int).tmod 20 = ((d % 20 : Nat) : Int) := by rw [Int.tmod_eq_emod_of_nonneg (by omega)]; rfl
  obtain ⟨c, hc⟩ : ∃ c, 30 + d % 20 = c := ⟨_, rfl⟩
  have hcc : (30 : Int) + ((d % 20 : Nat) : Int) = (c : Nat) := by omega
  have hlen : ∀ i, (s.rules ++ List.replicate i q).length = s.rules.length + i := fun i => by simp
  have hrep : ∀ i, s.rules ++ List.replicate (i + 1) q = s.rules ++ List.replicate i q ++ [q] := fun i => by rw [List.replicate_succ', List.append_assoc]
  have ap1 : ∀ {H : List ABlk} {l : List Ru}, l.length ≤ 40 → aappend Tryz.prog 24 24 ⟨H, []⟩ (.sl .nil 0 []) (.sl .no l.length (fl cRu l)) = some (.sl (.tok 0) l.length (fl cRu l), ⟨H, [(l.length * 22, (22, 41))]⟩) := fun {H l} h => by
    have := apRu_all (H := H) (T := []) (r := .nil) (r' := .no) (l := []) (l' := l) rfl (fun h => by cases h) (by simp; omega)
    simpa [nxR, nxT, fl] using this
  have ap2 : ∀ {H : List ABlk} {l : List Cd} {y : Nat × (Nat × Nat)}, l.length ≤ 8 → aappend Tryz.prog 23 23 ⟨H, [y]⟩ (.sl .nil 0 []) (.sl .no l.length (fl cCd l)) = some (.sl (.tok 1) l.length (fl cCd l), ⟨H, [y, (l.length * 2, (2, 43))]⟩) := fun {H l y} h => by
    have := apCd_all (H := H) (T := [y]) (r := .nil) (r' := .no) (l := []) (l' := l) rfl (fun h => by cases h) (by simp; omega)
    simpa [nxR, nxT, fl] using this
  have ap3 : ∀ {H : List ABlk} {l : List Ru} {y : Nat × (Nat × Nat)}, l.length ≤ 100 → aappend Tryz.prog 24 24 ⟨H, [(l.length * 22, (22, 41)), y]⟩ (.sl (.tok 0) l.length (fl cRu l)) (.sl .full 1 (cRu q)) = some (.sl (.tok 0) (l ++ [q]).length (fl cRu (l ++ [q])), ⟨H, [((l ++ [q]).length * 22, (22, 41)), y]⟩) := fun {H l y} h => by
    have := apRu_one (H := H) (T := [(l.length * 22, (22, 41)), y]) (r := .tok 0) (r' := .full) (l := l) (x := q) (by simp [okR]) (by omega)
    simpa [nxR, nxT] using this
  have hokl : ∀ i, okSp ⟨s.conds, s.deft, s.rules ++ List.replicate i q⟩ ∨ 1000 < i := fun i => by
    by_cases hi : i ≤ 1000
    · refine .inl ⟨a1.nc, by simp; omega, a1.nm, fun r hr => ?_⟩
      rcases List.mem_append.1 hr with hr | hr
      · exact a1.ru r hr
      · rw [(List.mem_replicate.1 hr).2]; exact hq
    · exact .inr (by omega)
  refine PCall.of_w (fn := Tryz.f4) (Γ := gam [(5, .pure iMade6), (6, .pure iAw6), (7, .pure iSame6)]) (mu := false) (Sound.pure iMade6_call (Sound.pure iAw6_call (Sound.pure iSame6_call Sound.nil))) mixed Tryz.func4 rfl (by kernel_rfl) (by simp) (by kernel_rfl) ?_
  simp (disch := first | assumption | omega | exact okR_new | exact okR_one | exact trivial | (simp only [List.length_append, List.length_cons, List.length_nil]; omega) | (simp only [List.length_append, List.length_cons, List.length_nil, Nat.reduceAdd])) only [go_sem, e_go, e_cond_bool, e_w_bool, e_step_ite, e_reg_ite, e_regW_ite, e_code_ite, e_block_ite, e_evQ_ite, e_fin_ite, e_pair_ite, Tryz.f4, iMade6_eq, iAw6_eq, iSame6_eq, hs, hcs, hom, hoc, hdm, h20, hcc, ap1, ap2, l_s_cCd]
  refine w_loop [] [13] (fun i : Nat => c - i) (fun i => i ≤ c) (fun i => ⟨[.cells 0 [.sl (.tok 1) s.conds.length (fl cCd s.conds), .bool s.deft, .sl (.tok 0) (s.rules ++ List.replicate i q).length (fl cRu (s.rules ++ List.replicate i q))]], [((s.rules ++ List.replicate i q).length * 22, (22, 41)), (s.conds.length * 2, (2, 43))]⟩)
    (fun i => [(13, .int .i64 (i : Nat))]) 0 (fun _ => rfl) (by kernel_rfl) (Nat.zero_le _) (by simp) (by simp [HasE, lk]) ?_
  intro i hi
  have h100 : (s.rules ++ List.replicate i q).length ≤ 100 := by rw [hlen]; omega
  by_cases hlt : i < c
  · have hri := hrep i
    have hll := hlen i
    have hap := fun H y => ap3 (H := H) (y := y) h100
    generalize s.rules ++ List.replicate i q = l at *
    simp (disch := first | assumption | omega | exact okR_new | exact okR_one | exact trivial | (simp only [List.length_append, List.length_cons, List.length_nil]; omega) | (simp only [List.length_append, List.length_cons, List.length_nil, Nat.reduceAdd])) only [go_sem, e_go, e_cond_bool, e_w_bool, e_step_ite, e_reg_ite, e_regW_ite, e_code_ite, e_block_ite, e_evQ_ite, e_fin_ite, e_pair_ite, Tryz.f4, iMade6_eq, iAw6_eq, iSame6_eq, hdm, h20, hcc, hat, apRu_mk, hap]
    exact ⟨i + 1, dn hlt, hlt, by simp only [hri, hll, Nat.add_assoc], by simp [HasE, lk]⟩
  · have hi' : i = c := by omega
    subst hi'
    have hok1 : okSp ⟨s.conds, s.deft, s.rules ++ List.replicate i q⟩ := by
      rcases hokl i with h | h
      · exact h
      · omega
    have hok : okSp ⟨s.conds, s.deft, s.rules ++ List.replicate i q⟩ ∧ okSp ⟨s.conds, s.deft, s.rules ++ List.replicate i q⟩ := ⟨hok1, hok1⟩
    have hfold : AVal.agg [.sl .no s.conds.length (fl cCd s.conds), .bool s.deft, .sl .no (s.rules ++ List.replicate i q).length (fl cRu (s.rules ++ List.replicate i q))] = sV ⟨s.conds, s.deft, s.rules ++ List.replicate i q⟩ := rfl
    obtain ⟨j, hj⟩ : ∃ j, d % (s.rules ++ List.replicate i q).length = j := ⟨_, rfl⟩
    have hdl := hdn (s.rules ++ List.replicate i q).length
    rw [hj] at hdl
    have h0 : 0 < (s.rules ++ List.replicate i q).length := by rw [hlen]; omega
    generalize s.rules ++ List.replicate i q = rl at *
    simp (disch := first | assumption | omega | exact okR_new | exact okR_one | exact trivial | (simp only [List.length_append, List.length_cons, List.length_nil]; omega) | (simp only [List.length_append, List.length_cons, List.length_nil, Nat.reduceAdd])) only [go_sem, e_go, e_cond_bool, e_w_bool, e_step_ite, e_reg_ite, e_regW_ite, e_code_ite, e_block_ite, e_evQ_ite, e_fin_ite, e_pair_ite, Tryz.f4, iMade6_eq, iAw6_eq, iSame6_eq, hdm, h20, hcc, hdl, hfold]
theorem w_SpecSpoilt (L : List UInt8) (o d : Nat) (n : Int) (t : List UInt8) (hL : L.length < 9223372036854775808) (ho : o < 256) (hd : d < 256) (hn : -9223372036854775808 ≤ n ∧ n ≤ 9223372036854775807) (ht : t.length < 9223372036854775808) :
    PCall Tryz.prog 4 [slc cU L, .int .u8 (o : Nat), .int .u8 (d : Nat), .int .i64 n, .str t] (.bool true) := by
  by_cases h : 100 < t.length
  · exact w_spT L o d n t hL h ht
  · have h' : t.length ≤ 100 := by omega
    have hm : o % 12 < 12 := Nat.mod_lt _ (by omega)
    have : o % 12 = 0 ∨ o % 12 = 1 ∨ o % 12 = 2 ∨ o % 12 = 3 ∨ o % 12 = 4 ∨ o % 12 = 5 ∨ o % 12 = 6 ∨ o % 12 = 7 ∨ o % 12 = 8 ∨ o % 12 = 9 ∨ o % 12 = 10 ∨ o % 12 = 11 := by omega
    rcases this with e | e | e | e | e | e | e | e | e | e | e | e
    · exact w_sp0 L o d n t hL ho hd hn h' e
    · exact w_sp1 L o d n t hL ho hd hn h' e
    · exact w_sp2 L o d n t hL ho hd hn h' e
    · exact w_sp3 L o d n t hL ho hd hn h' e
    · exact w_sp4 L o d n t hL ho hd hn h' e
    · exact w_sp5 L o d n t hL ho hd hn h' e
    · exact w_sp6 L o d n t hL ho hd hn h' e
    · exact w_sp7 L o d n t hL ho hd hn h' e
    · exact w_sp8 L o d n t hL ho hd hn h' e
    · exact w_sp9 L o d n t hL ho hd hn h' e
    · exact w_sp10 L o d n t hL ho hd hn h' e
    · exact w_sp11 L o d n t hL ho hd hn h' e
end Go.Hk.DZD
