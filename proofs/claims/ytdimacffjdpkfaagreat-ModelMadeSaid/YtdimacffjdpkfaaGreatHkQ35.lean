import Derived.Test.YtdimacffjdpkfaaGreatHkQ34
set_option linter.unusedSimpArgs false
set_option linter.unusedVariables false
set_option maxRecDepth 20000
namespace Go.Hk.MZ
open Go.Proofs
theorem ti25 : tiOf Tryz.prog 25 = some { size := 1, bytes := 24, zero := some (.sl .nil 0 []), k := .slice 40 } := by kernel_rfl
attribute [go_sem] ti25
theorem ti26 : tiOf Tryz.prog 26 = some { size := 1, bytes := 24, zero := some (.sl .nil 0 []), k := .slice 43 } := by kernel_rfl
attribute [go_sem] ti26
theorem ti28 : tiOf Tryz.prog 28 = some { size := 3, bytes := 56, zero := some (.agg [.sl .nil 0 [], .bool false, .sl .nil 0 []]), k := .struct [(true, 25, 0), (true, 4, 1), (true, 26, 2)] } := by kernel_rfl
attribute [go_sem] ti28
theorem ti40 : tiOf Tryz.prog 40 = some { size := 2, bytes := 24, zero := some (.agg [.str [], .bool false]), k := .struct [(true, 9, 0), (true, 4, 1)] } := by kernel_rfl
attribute [go_sem] ti40
theorem ti94 : tiOf Tryz.prog 94 = some { size := 1, bytes := 8, zero := some (.nilm), k := .map 9 89 } := by kernel_rfl
attribute [go_sem] ti94
theorem ti98 : tiOf Tryz.prog 98 = some { size := 1, bytes := 8, zero := some (.nilf), k := .func } := by kernel_rfl
attribute [go_sem] ti98
noncomputable def iP_Ru (f : FuncId) (caps : List AVal) (p : Ru → Bool) (D : Ru → Prop) : List AVal → Option AVal := pimp fun xs r => ∃ y, (okRu y ∧ D y) ∧ xs = ruV y :: caps ∧ r = .bool (p y)
theorem iP_Ru_eq {f : FuncId} {caps : List AVal} {p : Ru → Bool} {D : Ru → Prop} {y : Ru} (h : okRu y ∧ D y) : iP_Ru f caps p D (ruV y :: caps) = some (.bool (p y)) :=
  pimp_eq ⟨y, h, rfl, rfl⟩ (by rintro _ ⟨y', h', e, rfl⟩; rw [ruV_inj h.1 h'.1 (List.cons.inj e).1])
theorem w_Idx_Ru {f : FuncId} {caps : List AVal} {p : Ru → Bool} {D : Ru → Prop} (hs : stripL caps = some caps) (hf : ∀ y, okRu y ∧ D y → PCall Tryz.prog f (ruV y :: caps) (.bool (p y))) (l : List Ru) (h : l.length < 9223372036854775808 ∧ ∀ y ∈ l, okRu y ∧ D y) :
    PCall Tryz.prog 74 [slc cRu l, .fn f [] caps] (.int .i64 (idx p l)) := by
  obtain ⟨hl, hm⟩ := h
  have snd : Sound Tryz.prog (gam [(f, .pure (iP_Ru f caps p D))]) := Sound.pure (fun xs v h0 => by obtain ⟨y, hy, rfl, rfl⟩ := pimp_spec h0; exact hf y hy) Sound.nil
  refine PCall.of_w (fn := Tryz.f74) (Γ := gam [(f, .pure (iP_Ru f caps p D))]) (mu := false) snd mixed Tryz.func74 rfl (by kernel_rfl) (by simp) (by kernel_rfl) ?_
  simp (disch := first | assumption | omega | exact okR_new | exact okR_one | exact trivial | (simp only [lnA, lnC, lnN]; omega) | (simp only [lnA, lnC, lnN, Nat.reduceAdd])) only [go_sem, e_go, e_cond_bool, e_w_bool, e_step_ite, e_reg_ite, e_regW_ite, e_code_ite, e_block_ite, e_evQ_ite, e_fin_ite, e_pair_ite, Tryz.f74]
  refine w_loop [4] [8] (fun i : Nat => l.length - i) (fun i => i ≤ l.length ∧ ∀ y ∈ l.take i, p y = false) (fun i => ⟨[], []⟩)
    (fun i => [(8, .int .i64 (i : Nat))]) 0 (fun _ => rfl) (by kernel_rfl) ⟨Nat.zero_le _, by simp⟩ rfl (by simp [HasE, lk]) ?_
  rintro i ⟨hi, hq⟩
  by_cases h : i < l.length
  · have hg : l[i]? = some l[i] := by simp [h]
    have hat := fl_at cRu_len hg
    have hle : i * 22 + 22 ≤ l.length * 22 := by omega
    have hy := hm _ (List.getElem_mem h)
    have hcall := iP_Ru_eq (f := f) (caps := caps) (p := p) hy
    cases hp : p l[i]
    · simp (disch := first | assumption | omega | exact okR_new | exact okR_one | exact trivial | (simp only [lnA, lnC, lnN]; omega) | (simp only [lnA, lnC, lnN, Nat.reduceAdd])) only [go_sem, e_go, e_cond_bool, e_w_bool, e_step_ite, e_reg_ite, e_regW_ite, e_code_ite, e_block_ite, e_evQ_ite, e_fin_ite, e_pair_ite, Tryz.f74, hat, hs, hcall, hp]
      exact ⟨i + 1, dn h, ⟨h, upto_next hq hg hp⟩, rfl, by simp [HasE, lk]⟩
    · simp (disch := first | assumption | omega | exact okR_new | exact okR_one | exact trivial | (simp only [lnA, lnC, lnN]; omega) | (simp only [lnA, lnC, lnN, Nat.reduceAdd])) only [go_sem, e_go, e_cond_bool, e_w_bool, e_step_ite, e_reg_ite, e_regW_ite, e_code_ite, e_block_ite, e_evQ_ite, e_fin_ite, e_pair_ite, Tryz.f74, hat, hs, hcall, hp]
      rw [idx_at hg hq hp]
  · have hi' : i = l.length := by omega
    subst hi'
    rw [List.take_length] at hq
    simp (disch := first | assumption | omega | exact okR_new | exact okR_one | exact trivial | (simp only [lnA, lnC, lnN]; omega) | (simp only [lnA, lnC, lnN, Nat.reduceAdd])) only [go_sem, e_go, e_cond_bool, e_w_bool, e_step_ite, e_reg_ite, e_regW_ite, e_code_ite, e_block_ite, e_evQ_ite, e_fin_ite, e_pair_ite, Tryz.f74]
    rw [idx_none hq]
noncomputable def iI_Ru (f : FuncId) (caps : List AVal) (p : Ru → Bool) (D : Ru → Prop) : List AVal → Option AVal := pimp fun xs r => ∃ l : List Ru, (l.length < 9223372036854775808 ∧ ∀ y ∈ l, okRu y ∧ D y) ∧ xs = [slc cRu l, .fn f [] caps] ∧ r = .int .i64 (idx p l)
theorem iI_Ru_eq {f : FuncId} {caps : List AVal} {p : Ru → Bool} {D : Ru → Prop} {l : List Ru} (h : l.length < 9223372036854775808 ∧ ∀ y ∈ l, okRu y ∧ D y) : iI_Ru f caps p D [slc cRu l, .fn f [] caps] = some (.int .i64 (idx p l)) :=
  pimp_eq ⟨l, h, rfl, rfl⟩ (by
    rintro _ ⟨l', h', e, rfl⟩
    rw [slc_inj cRu_len (fun a ha b hb e => ruV_inj (h.2 a ha).1 (h'.2 b hb).1 (congrArg AVal.agg e)) (List.cons.inj e).1])
theorem w_Any_Ru {f : FuncId} {caps : List AVal} {p : Ru → Bool} {D : Ru → Prop} (hs : stripL caps = some caps) (hf : ∀ y, okRu y ∧ D y → PCall Tryz.prog f (ruV y :: caps) (.bool (p y))) (l : List Ru) (h : l.length < 9223372036854775808 ∧ ∀ y ∈ l, okRu y ∧ D y) :
    PCall Tryz.prog 53 [slc cRu l, .fn f [] caps] (.bool (l.any p)) := by
  have snd : Sound Tryz.prog (gam [(74, .pure (iI_Ru f caps p D))]) := Sound.pure (fun xs v h0 => by obtain ⟨l, hl, rfl, rfl⟩ := pimp_spec h0; exact w_Idx_Ru hs hf l hl) Sound.nil
  have hcall := iI_Ru_eq (f := f) (caps := caps) (p := p) h
  refine PCall.of_w (fn := Tryz.f53) (Γ := gam [(74, .pure (iI_Ru f caps p D))]) (mu := false) snd mixed Tryz.func53 rfl (by kernel_rfl) (by simp) (by kernel_rfl) ?_
  simp (disch := first | assumption | omega | exact okR_new | exact okR_one | exact trivial | (simp only [lnA, lnC, lnN]; omega) | (simp only [lnA, lnC, lnN, Nat.reduceAdd])) only [go_sem, e_go, e_cond_bool, e_w_bool, e_step_ite, e_reg_ite, e_regW_ite, e_code_ite, e_block_ite, e_evQ_ite, e_fin_ite, e_pair_ite, Tryz.f53, hs, hcall, l_s_cRu]
  rw [← idx_any]
noncomputable def iA_Ru (f : FuncId) (caps : List AVal) (p : Ru → Bool) (D : Ru → Prop) : List AVal → Option AVal := pimp fun xs r => ∃ l : List Ru, (l.length < 9223372036854775808 ∧ ∀ y ∈ l, okRu y ∧ D y) ∧ xs = [slc cRu l, .fn f [] caps] ∧ r = .bool (l.any p)
theorem iA_Ru_eq {f : FuncId} {caps : List AVal} {p : Ru → Bool} {D : Ru → Prop} {l : List Ru} (h : l.length < 9223372036854775808 ∧ ∀ y ∈ l, okRu y ∧ D y) : iA_Ru f caps p D [slc cRu l, .fn f [] caps] = some (.bool (l.any p)) :=
  pimp_eq ⟨l, h, rfl, rfl⟩ (by
    rintro _ ⟨l', h', e, rfl⟩
    rw [slc_inj cRu_len (fun a ha b hb e => ruV_inj (h.2 a ha).1 (h'.2 b hb).1 (congrArg AVal.agg e)) (List.cons.inj e).1])
theorem iA_Ru_call {f : FuncId} {caps : List AVal} {p : Ru → Bool} {D : Ru → Prop} (hs : stripL caps = some caps) (hf : ∀ y, okRu y ∧ D y → PCall Tryz.prog f (ruV y :: caps) (.bool (p y))) : ∀ xs v, iA_Ru f caps p D xs = some v → PCall Tryz.prog 53 xs v :=
  fun xs v h0 => by obtain ⟨l, hl, rfl, rfl⟩ := pimp_spec h0; exact w_Any_Ru hs hf l hl
theorem cd_neq {c : Cd} {n : List UInt8} {b : Bool} : abin Tryz.prog .neq 40 (cdV c) (.agg [.str n, .bool b]) = some (.bool (!(decide (c.name = n) && decide (c.ex = b)))) := by
  have hg : Tryz.prog.eqGuardType Tryz.prog.depth 40 = false := by kernel_rfl
  have hs : Tryz.prog.stoodInHeld 40 = false := by kernel_rfl
  unfold cdV cCd
  rw [e_bin_agg, hg]
  have h1 : aeq Tryz.prog 20 40 (.agg [.str c.name, .bool c.ex]) (.agg [.str n, .bool b]) = some (decide (c.name = n) && decide (c.ex = b)) := by
    unfold aeq
    simp only [ti40, hs, Bool.false_eq_true, if_false, List.map_cons, List.map_nil, if_true, apart, ti9, ti4, TK.agg, List.getElem?_cons_zero, List.getElem?_cons_succ]
    have e1 : aeq Tryz.prog 19 9 (.str c.name) (.str n) = some (decide (c.name = n)) := aeq_str ti9 rfl
    have e2 : aeq Tryz.prog 19 4 (.bool c.ex) (.bool b) = some (decide (c.ex = b)) := aeq_bool ti4 rfl
    simp only [e1, e2]
    cases decide (c.name = n) <;> cases decide (c.ex = b) <;> rfl
  rw [h1]; rfl
def hadS (l : List Cd) (i : Nat) : List (List UInt8 × Unit) := (((l.map Cd.name).take i).foldl insN []).map fun x => (x, ())
theorem hadS_zero {l : List Cd} : hadS l 0 = [] := rfl
theorem mput_ins (l : List (List UInt8)) (x : List UInt8) : mput (l.map fun x => (x, ())) x () = (insN l x).map fun x => (x, ()) := by
  induction l with
  | nil => simp [mput, insN]
  | cons y l ih =>
    simp only [List.map_cons, mput]
    by_cases h : x = y
    · subst h; simp [insN]
    · rw [if_neg h, ih]
      unfold insN
      by_cases hx : x ∈ l
      · simp [hx]
      · simp [hx, h]
theorem hadS_next {l : List Cd} {i : Nat} {c : Cd} (h : l[i]? = some c) : hadS l (i + 1) = mput (hadS l i) c.name () := by
  obtain ⟨hi, rfl⟩ := List.getElem?_eq_some_iff.1 h
  unfold hadS
  rw [mput_ins, List.take_succ_eq_append_getElem (by simpa using hi), List.foldl_append]
  simp
theorem ndk_ins {l : List (List UInt8)} {x : List UInt8} (h : l.Nodup) : (insN l x).Nodup := by
  unfold insN
  split
  · exact h
  · rename_i hx
    rw [List.nodup_append]
    exact ⟨h, by simp, fun a ha b hb => by simp at hb; subst hb; intro he; subst he; exact hx ha⟩
theorem hadS_ndk {l : List Cd} {i : Nat} : ndk (hadS l i) := by
  unfold ndk hadS
  rw [List.map_map]
  have : ((fun x : List UInt8 × Unit => x.1) ∘ fun x => (x, ())) = id := rfl
  rw [this, List.map_id]
  have key : ∀ (xs l : List (List UInt8)), l.Nodup → (xs.foldl insN l).Nodup := by
    intro xs
    induction xs with
    | nil => exact fun l h => h
    | cons x xs ih => exact fun l h => ih _ (ndk_ins h)
  exact key _ _ List.nodup_nil
theorem hadS_len {l : List Cd} : decide ((hadS l l.length).length = l.length) = diff (l.map Cd.name) := by
  have := insN_diff (l.map Cd.name)
  unfold hadS
  rw [List.take_of_length_le (by simp), List.length_map, ← this]
  simp
theorem str_key (a : List UInt8) : akey Tryz.prog 20 9 (.str a) = true := by simp [akey, ti9]
theorem str_eq (a b : List UInt8) : aeq Tryz.prog 20 9 (.str a) (.str b) = some (decide (a = b)) := aeq_str ti9 rfl
theorem str_bits (a : List UInt8) : abits (.str a) (.str a) = true := by simp [abits, abit1]
theorem c_ment {h t : Nat} (es : List (List UInt8 × Unit)) : ((ment .str (fun _ => .agg []) es).all fun p => clo h t p.1 && clo h t p.2) = true := by
  rw [List.all_eq_true]
  intro p hp
  obtain ⟨x, _, rfl⟩ := List.mem_map.1 hp
  rfl
theorem had_put {e0 : Nat} {c0 : List AVal} {G : List ABlk} {T : List (Nat × (Nat × Nat))} {es : List (List UInt8 × Unit)} (hn : ndk es) (hi : noIt 1 G = true) {k : List UInt8} :
    amput Tryz.prog 94 ⟨.cells e0 c0 :: .amap (ment .str (fun _ => .agg []) es) :: G, T⟩ (.map 1) (.str k) (.agg []) = some (.undef, ⟨.cells e0 c0 :: .amap (ment .str (fun _ => .agg []) (mput es k ())) :: G, T⟩) :=
  amput_ment (vV := fun _ => .agg []) (v := ()) ti94 rfl str_key str_eq str_bits rfl hn (by simpa [noIt, noIt1] using hi)

theorem w_Right6 (s : Sp) (h' : okSp s) : PCall Tryz.prog 32 [sV s] (.bool (rightS s)) := by
  have hl := h'.nc
  have hl2 := h'.nr
  refine PCall.of_w (fn := Tryz.f32) (Γ := gam [(48, .pure iNm), (53, .pure (iA_Ru 49 [.ipt [.int .i64 s.conds.length] 0] (fun r => !ruleB s.conds.length r) (fun _ => True)))]) (mu := false) (Sound.pure iNm_call (Sound.pure (iA_Ru_call rfl (fun y hy => w_odd6 _ y hy.1)) Sound.nil)) mixed Tryz.func32 rfl (by kernel_rfl) (by simp) (by kernel_rfl) ?_
  by_cases hb : 1 ≤ s.conds.length ∧ s.conds.length ≤ 8 ∧ s.rules.length ≤ 40
  · obtain ⟨hb1, hb2, hb3⟩ := hb
    have hg : s.conds[0]? = some (s.conds.getD 0 ⟨[], false⟩) := by rw [List.getD_eq_getElem?_getD]; simp [show 0 < s.conds.length by omega]
    have hat := fl_at cCd_len hg
    simp only [Nat.zero_mul, List.drop_zero] at hat
    have hn := cd_neq (c := s.conds.getD 0 ⟨[], false⟩) (n := [73, 78, 73, 84, 73, 65, 76]) (b := false)
    have hr : rightS s = (decide ((s.conds.getD 0 ⟨[], false⟩).name = [73, 78, 73, 84, 73, 65, 76]) && !(s.conds.getD 0 ⟨[], false⟩).ex && s.conds.all (fun c => nameB c.name) && diff (s.conds.map Cd.name) && s.rules.all (ruleB s.conds.length)) := by
      unfold rightS initial; simp [hb1, hb2, hb3]
    generalize s.conds.getD 0 ⟨[], false⟩ = c0 at *
    by_cases hi : c0.name = [73, 78, 73, 84, 73, 65, 76] ∧ c0.ex = false
    · obtain ⟨hi1, hi2⟩ := hi
      rw [hi1, hi2] at hr
      simp only [decide_true, Bool.not_false, Bool.true_and] at hr
      have d1 : decide (c0.name = [73, 78, 73, 84, 73, 65, 76]) = true := decide_eq_true hi1
      have d2 : decide (c0.ex = false) = true := decide_eq_true hi2
      rw [d1, d2] at hn
      simp (disch := first | assumption | omega | exact okR_new | exact okR_one | exact trivial | (simp only [lnA, lnC, lnN]; omega) | (simp only [lnA, lnC, lnN, Nat.reduceAdd])) only [go_sem, e_go, e_cond_bool, e_w_bool, e_step_ite, e_reg_ite, e_regW_ite, e_code_ite, e_block_ite, e_evQ_ite, e_fin_ite, e_pair_ite, Tryz.f32, iNm_eq, iA_Ru_eq, hat, hn, sV_cells]
      refine w_loopc [2] [36] (fun i : Nat => s.conds.length - i) (fun i => i ≤ s.conds.length ∧ ∀ c ∈ s.conds.take i, nameB c.name = true) (fun i => ⟨[.cells 0 (cSp s), .amap (ment .str (fun _ => .agg []) (hadS s.conds i))], []⟩)
        (fun i => [(36, .int .i64 (i : Nat))]) 0 (fun _ => rfl) (by kernel_rfl) ⟨Nat.zero_le _, by simp⟩ ⟨[], [], by simp [cSp_eq, hadS_zero, ment]⟩ (by simp [HasE, lk]) ?_ ?_
      · rintro i ⟨hi, hq⟩
        simp (disch := assumption) [cloE, clo, cloL, cloB, c_Rno, c_Rfull, c_append, c_flCd, c_flRu, cSp_eq, c_ment, c_sV, c_cdV]
      rintro i ⟨hi, hq⟩
      by_cases h : i < s.conds.length
      · have hg : s.conds[i]? = some s.conds[i] := by simp [h]
        have hat := fl_at cCd_len hg
        have hle : i * 2 + 2 ≤ s.conds.length * 2 := by omega
        have hnx := hadS_next hg
        have hnd := hadS_ndk (l := s.conds) (i := i)
        have hnm := h'.nm _ (List.getElem_mem h)
        have htk : s.conds.take (i + 1) = s.conds.take i ++ [s.conds[i]] := List.take_succ_eq_append_getElem h
        have hput := had_put (e0 := 0) (c0 := [.sl .no s.conds.length (fl cCd s.conds), .bool s.deft, .sl .no s.rules.length (fl cRu s.rules)]) (G := [.cells 0 [.str s.conds[i].name, .bool s.conds[i].ex]]) (T := []) (k := s.conds[i].name) hnd rfl
        have hmem := List.getElem_mem h
        generalize s.conds[i] = c at *
        cases hc : nameB c.name
        · have hr' : rightS s = false := by rw [hr]; grind
          simp (disch := first | assumption | omega | exact okR_new | exact okR_one | exact trivial | (simp only [lnA, lnC, lnN]; omega) | (simp only [lnA, lnC, lnN, Nat.reduceAdd])) only [go_sem, e_go, e_cond_bool, e_w_bool, e_step_ite, e_reg_ite, e_regW_ite, e_code_ite, e_block_ite, e_evQ_ite, e_fin_ite, e_pair_ite, Tryz.f32, iNm_eq, iA_Ru_eq, hat, hc, hput, hr', cSp_eq]
        · simp (disch := first | assumption | omega | exact okR_new | exact okR_one | exact trivial | (simp only [lnA, lnC, lnN]; omega) | (simp only [lnA, lnC, lnN, Nat.reduceAdd])) only [go_sem, e_go, e_cond_bool, e_w_bool, e_step_ite, e_reg_ite, e_regW_ite, e_code_ite, e_block_ite, e_evQ_ite, e_fin_ite, e_pair_ite, Tryz.f32, iNm_eq, iA_Ru_eq, hat, hc, hput, cSp_eq]
          exact ⟨i + 1, dn h, ⟨h, by rw [htk]; intro d hd; rcases List.mem_append.1 hd with hd | hd; exact hq d hd; simp at hd; subst hd; exact hc⟩, ⟨[_], [], by simp [hnx, cSp_eq]; rfl⟩, by simp [HasE, lk]⟩
      · have hi' : i = s.conds.length := by omega
        subst hi'
        rw [List.take_length] at hq
        have hd := hadS_len (l := s.conds)
        have hml := ment_len (kV := .str) (vV := fun _ => .agg []) (hadS s.conds s.conds.length)
        have hru : s.rules.length < 9223372036854775808 ∧ ∀ y ∈ s.rules, okRu y ∧ True := ⟨hl2, fun y hy => ⟨h'.ru y hy, trivial⟩⟩
        have hall : (s.conds.all fun c => nameB c.name) = true := List.all_eq_true.2 hq
        have hnr : (s.rules.any fun r => !ruleB s.conds.length r) = !s.rules.all (ruleB s.conds.length) := by
          rw [List.all_eq_not_any_not, Bool.not_not]
        rw [hall, ← hd, Bool.true_and] at hr
        (simp (disch := first | assumption | omega | exact okR_new | exact okR_one | exact trivial | (simp only [lnA, lnC, lnN]; omega) | (simp only [lnA, lnC, lnN, Nat.reduceAdd])) only [go_sem, e_bin_bool, Bool.true_and, Bool.and_true, Bool.false_and, Bool.and_false, Bool.true_or, Bool.or_true, Bool.false_or, Bool.or_false, Bool.not_eq_eq_eq_not, Bool.not_not, z_or, z_and, z_beq_t, z_beq_f, decide_eq_true_eq, decide_eq_false_iff_not, ite_not, Bool.not_eq_true', Bool.or_eq_true, Bool.and_eq_true, i_t, i_f, Tryz.f32, iNm_eq, iA_Ru_eq, cSp_eq, hml] <;> (repeat' ((first | refine w_cond_cases ?_ ?_ | refine w_go_cases ?_ ?_ | refine w_pick_cases ?_ ?_) <;> intro hq <;> (try simp only [decide_eq_true_eq, decide_eq_false_iff_not, Bool.not_eq_true', Bool.not_eq_false', Bool.or_eq_true, Bool.and_eq_true, Bool.or_eq_false_iff, Bool.and_eq_false_iff, Bool.not_eq_eq_eq_not, Bool.not_true, Bool.not_false, Bool.not_not] at hq) <;> (first | simp (disch := first | assumption | omega | exact okR_new | exact okR_one | exact trivial | (simp only [lnA, lnC, lnN]; omega) | (simp only [lnA, lnC, lnN, Nat.reduceAdd])) only [show (_ : Bool) = true from hq, go_sem, e_bin_bool, Bool.true_and, Bool.and_true, Bool.false_and, Bool.and_false, Bool.true_or, Bool.or_true, Bool.false_or, Bool.or_false, Bool.not_eq_eq_eq_not, Bool.not_not, z_or, z_and, z_beq_t, z_beq_f, decide_eq_true_eq, decide_eq_false_iff_not, ite_not, Bool.not_eq_true', Bool.or_eq_true, Bool.and_eq_true, i_t, i_f, Tryz.f32, iNm_eq, iA_Ru_eq, cSp_eq, hml] | simp (disch := first | assumption | omega | exact okR_new | exact okR_one | exact trivial | (simp only [lnA, lnC, lnN]; omega) | (simp only [lnA, lnC, lnN, Nat.reduceAdd])) only [show (_ : Bool) = false from hq, go_sem, e_bin_bool, Bool.true_and, Bool.and_true, Bool.false_and, Bool.and_false, Bool.true_or, Bool.or_true, Bool.false_or, Bool.or_false, Bool.not_eq_eq_eq_not, Bool.not_not, z_or, z_and, z_beq_t, z_beq_f, decide_eq_true_eq, decide_eq_false_iff_not, ite_not, Bool.not_eq_true', Bool.or_eq_true, Bool.and_eq_true, i_t, i_f, Tryz.f32, iNm_eq, iA_Ru_eq, cSp_eq, hml] | simp (disch := first | assumption | omega | exact okR_new | exact okR_one | exact trivial | (simp only [lnA, lnC, lnN]; omega) | (simp only [lnA, lnC, lnN, Nat.reduceAdd])) only [go_sem, e_bin_bool, Bool.true_and, Bool.and_true, Bool.false_and, Bool.and_false, Bool.true_or, Bool.or_true, Bool.false_or, Bool.or_false, Bool.not_eq_eq_eq_not, Bool.not_not, z_or, z_and, z_beq_t, z_beq_f, decide_eq_true_eq, decide_eq_false_iff_not, ite_not, Bool.not_eq_true', Bool.or_eq_true, Bool.and_eq_true, i_t, i_f, Tryz.f32, iNm_eq, iA_Ru_eq, cSp_eq, hml] | skip))))
        · rw [hr, hnr]; simp; intro hne; omega
        · rw [hr]; simp; intro hne; omega
    · have hr' : rightS s = false := by rw [hr]; grind
      (simp (disch := first | assumption | omega | exact okR_new | exact okR_one | exact trivial | (simp only [lnA, lnC, lnN]; omega) | (simp only [lnA, lnC, lnN, Nat.reduceAdd])) only [go_sem, e_bin_bool, Bool.true_and, Bool.and_true, Bool.false_and, Bool.and_false, Bool.true_or, Bool.or_true, Bool.false_or, Bool.or_false, Bool.not_eq_eq_eq_not, Bool.not_not, z_or, z_and, z_beq_t, z_beq_f, decide_eq_true_eq, decide_eq_false_iff_not, ite_not, Bool.not_eq_true', Bool.or_eq_true, Bool.and_eq_true, i_t, i_f, Tryz.f32, iNm_eq, iA_Ru_eq, hat, hn, sV_cells] <;> (repeat' ((first | refine w_cond_cases ?_ ?_ | refine w_go_cases ?_ ?_ | refine w_pick_cases ?_ ?_) <;> intro hq <;> (try simp only [decide_eq_true_eq, decide_eq_false_iff_not, Bool.not_eq_true', Bool.not_eq_false', Bool.or_eq_true, Bool.and_eq_true, Bool.or_eq_false_iff, Bool.and_eq_false_iff, Bool.not_eq_eq_eq_not, Bool.not_true, Bool.not_false, Bool.not_not] at hq) <;> (first | simp (disch := first | assumption | omega | exact okR_new | exact okR_one | exact trivial | (simp only [lnA, lnC, lnN]; omega) | (simp only [lnA, lnC, lnN, Nat.reduceAdd])) only [show (_ : Bool) = true from hq, go_sem, e_bin_bool, Bool.true_and, Bool.and_true, Bool.false_and, Bool.and_false, Bool.true_or, Bool.or_true, Bool.false_or, Bool.or_false, Bool.not_eq_eq_eq_not, Bool.not_not, z_or, z_and, z_beq_t, z_beq_f, decide_eq_true_eq, decide_eq_false_iff_not, ite_not, Bool.not_eq_true', Bool.or_eq_true, Bool.and_eq_true, i_t, i_f, Tryz.f32, iNm_eq, iA_Ru_eq, hat, hn, sV_cells] | simp (disch := first | assumption | omega | exact okR_new | exact okR_one | exact trivial | (simp only [lnA, lnC, lnN]; omega) | (simp only [lnA, lnC, lnN, Nat.reduceAdd])) only [show (_ : Bool) = false from hq, go_sem, e_bin_bool, Bool.true_and, Bool.and_true, Bool.false_and, Bool.and_false, Bool.true_or, Bool.or_true, Bool.false_or, Bool.or_false, Bool.not_eq_eq_eq_not, Bool.not_not, z_or, z_and, z_beq_t, z_beq_f, decide_eq_true_eq, decide_eq_false_iff_not, ite_not, Bool.not_eq_true', Bool.or_eq_true, Bool.and_eq_true, i_t, i_f, Tryz.f32, iNm_eq, iA_Ru_eq, hat, hn, sV_cells] | simp (disch := first | assumption | omega | exact okR_new | exact okR_one | exact trivial | (simp only [lnA, lnC, lnN]; omega) | (simp only [lnA, lnC, lnN, Nat.reduceAdd])) only [go_sem, e_bin_bool, Bool.true_and, Bool.and_true, Bool.false_and, Bool.and_false, Bool.true_or, Bool.or_true, Bool.false_or, Bool.or_false, Bool.not_eq_eq_eq_not, Bool.not_not, z_or, z_and, z_beq_t, z_beq_f, decide_eq_true_eq, decide_eq_false_iff_not, ite_not, Bool.not_eq_true', Bool.or_eq_true, Bool.and_eq_true, i_t, i_f, Tryz.f32, iNm_eq, iA_Ru_eq, hat, hn, sV_cells] | skip))))
      all_goals first | (exact absurd hq hi) | (rw [hr'])
  · have hr : rightS s = false := by unfold rightS; grind
    (simp (disch := first | assumption | omega | exact okR_new | exact okR_one | exact trivial | (simp only [lnA, lnC, lnN]; omega) | (simp only [lnA, lnC, lnN, Nat.reduceAdd])) only [go_sem, e_bin_bool, Bool.true_and, Bool.and_true, Bool.false_and, Bool.and_false, Bool.true_or, Bool.or_true, Bool.false_or, Bool.or_false, Bool.not_eq_eq_eq_not, Bool.not_not, z_or, z_and, z_beq_t, z_beq_f, decide_eq_true_eq, decide_eq_false_iff_not, ite_not, Bool.not_eq_true', Bool.or_eq_true, Bool.and_eq_true, i_t, i_f, Tryz.f32, iNm_eq, iA_Ru_eq, sV_cells] <;> (repeat' ((first | refine w_cond_cases ?_ ?_ | refine w_go_cases ?_ ?_ | refine w_pick_cases ?_ ?_) <;> intro hq <;> (try simp only [decide_eq_true_eq, decide_eq_false_iff_not, Bool.not_eq_true', Bool.not_eq_false', Bool.or_eq_true, Bool.and_eq_true, Bool.or_eq_false_iff, Bool.and_eq_false_iff, Bool.not_eq_eq_eq_not, Bool.not_true, Bool.not_false, Bool.not_not] at hq) <;> (first | simp (disch := first | assumption | omega | exact okR_new | exact okR_one | exact trivial | (simp only [lnA, lnC, lnN]; omega) | (simp only [lnA, lnC, lnN, Nat.reduceAdd])) only [show (_ : Bool) = true from hq, go_sem, e_bin_bool, Bool.true_and, Bool.and_true, Bool.false_and, Bool.and_false, Bool.true_or, Bool.or_true, Bool.false_or, Bool.or_false, Bool.not_eq_eq_eq_not, Bool.not_not, z_or, z_and, z_beq_t, z_beq_f, decide_eq_true_eq, decide_eq_false_iff_not, ite_not, Bool.not_eq_true', Bool.or_eq_true, Bool.and_eq_true, i_t, i_f, Tryz.f32, iNm_eq, iA_Ru_eq, sV_cells] | simp (disch := first | assumption | omega | exact okR_new | exact okR_one | exact trivial | (simp only [lnA, lnC, lnN]; omega) | (simp only [lnA, lnC, lnN, Nat.reduceAdd])) only [show (_ : Bool) = false from hq, go_sem, e_bin_bool, Bool.true_and, Bool.and_true, Bool.false_and, Bool.and_false, Bool.true_or, Bool.or_true, Bool.false_or, Bool.or_false, Bool.not_eq_eq_eq_not, Bool.not_not, z_or, z_and, z_beq_t, z_beq_f, decide_eq_true_eq, decide_eq_false_iff_not, ite_not, Bool.not_eq_true', Bool.or_eq_true, Bool.and_eq_true, i_t, i_f, Tryz.f32, iNm_eq, iA_Ru_eq, sV_cells] | simp (disch := first | assumption | omega | exact okR_new | exact okR_one | exact trivial | (simp only [lnA, lnC, lnN]; omega) | (simp only [lnA, lnC, lnN, Nat.reduceAdd])) only [go_sem, e_bin_bool, Bool.true_and, Bool.and_true, Bool.false_and, Bool.and_false, Bool.true_or, Bool.or_true, Bool.false_or, Bool.or_false, Bool.not_eq_eq_eq_not, Bool.not_not, z_or, z_and, z_beq_t, z_beq_f, decide_eq_true_eq, decide_eq_false_iff_not, ite_not, Bool.not_eq_true', Bool.or_eq_true, Bool.and_eq_true, i_t, i_f, Tryz.f32, iNm_eq, iA_Ru_eq, sV_cells] | skip))))
    all_goals rw [hr]
noncomputable def iR6 : List AVal → Option AVal := pimp fun xs r => ∃ (u : Sp), (okSp u) ∧ xs = [sV u] ∧ r = .bool (rightS u)
theorem iR6_eq {u : Sp} (h : okSp u) : iR6 [sV u] = some (.bool (rightS u)) := pimp_eq ⟨u, h, rfl, rfl⟩ (by rintro _ ⟨u', h', e, rfl⟩; have e0 := sV_inj h h' (List.cons.inj e).1; subst e0; rfl)
theorem iR6_call : ∀ xs v, iR6 xs = some v → PCall Tryz.prog 32 xs v := fun xs v h0 => by obtain ⟨u, h, rfl, rfl⟩ := pimp_spec h0; exact w_Right6 u h
end Go.Hk.MZ
