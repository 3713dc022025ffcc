/- Layer 13: which tables may be. -/
import Derived.Test.YtojahfdjfacgaaaChecked
import Derived.Test.YtojahfdjfacgaaaHkQ24
import Derived.Test.YtojahfdjfacgaaaHkQ26
import Derived.Test.YtojahfdjfacgaaaHkQ29
import Derived.Test.YtojahfdjfacgaaaHkQ30
import Derived.Test.YtojahfdjfacgaaaHkQ28
import Derived.KernelRfl
set_option linter.unusedSimpArgs false
set_option linter.unusedVariables false
set_option maxRecDepth 20000
namespace Go.Hk.N
open Go.Proofs
theorem ti3 : tiOf Try.prog 3 = some { size := 1, bytes := 8, zero := some (.int .i64 0), k := .int .i64 } := by kernel_rfl
attribute [go_sem] ti3
theorem ti4 : tiOf Try.prog 4 = some { size := 1, bytes := 1, zero := some (.bool false), k := .bool } := by kernel_rfl
attribute [go_sem] ti4
theorem ti22 : tiOf Try.prog 22 = some { size := 1, bytes := 24, zero := some (.sl .nil 0 []), k := .slice 3 } := by kernel_rfl
attribute [go_sem] ti22
theorem ti24 : tiOf Try.prog 24 = some { size := 8, bytes := 176, zero := some (.agg [.sl .nil 0 [], .int .i64 0, .sl .nil 0 [], .sl .nil 0 [], .sl .nil 0 [], .sl .nil 0 [], .sl .nil 0 [], .sl .nil 0 []]), k := .struct [(true, 22, 0), (true, 3, 1), (true, 22, 2), (true, 22, 3), (true, 22, 4), (true, 22, 5), (true, 22, 6), (true, 22, 7)] } := by kernel_rfl
attribute [go_sem] ti24
theorem ti71 : tiOf Try.prog 71 = some { size := 1, bytes := 8, zero := some (.nilf), k := .func } := by kernel_rfl
attribute [go_sem] ti71
theorem mixed : Try.prog.follows .mixedOrders = true := by kernel_rfl
theorem w_withinOdd (a b n : Int) : PCall Try.prog 31 [.int .i64 n, .ipt [.int .i64 a] 0, .ipt [.int .i64 b] 0] (.bool (outI a b n)) := by
  refine PCall.of_w (fn := Try.f31) (Γ := gam []) (mu := false) Sound.nil mixed Try.func31 rfl (by kernel_rfl) (by simp) (by kernel_rfl) ?_
  unfold outI
  by_cases h : n < a
  · have d : decide (n < a) = true := decide_eq_true h
    simp (disch := first | assumption | omega | exact okR_new | exact okR_one | exact trivial | (simp only [List.length_append, List.length_cons, List.length_nil]; omega) | (simp only [List.length_append, List.length_cons, List.length_nil, Nat.reduceAdd])) only [go_sem, e_go, e_cond_bool, e_w_bool, e_step_ite, e_reg_ite, e_regW_ite, e_code_ite, e_block_ite, e_evQ_ite, e_fin_ite, e_pair_ite, Try.f31, d, Bool.true_or]
  · have d : decide (n < a) = false := decide_eq_false h
    simp (disch := first | assumption | omega | exact okR_new | exact okR_one | exact trivial | (simp only [List.length_append, List.length_cons, List.length_nil]; omega) | (simp only [List.length_append, List.length_cons, List.length_nil, Nat.reduceAdd])) only [go_sem, e_go, e_cond_bool, e_w_bool, e_step_ite, e_reg_ite, e_regW_ite, e_code_ite, e_block_ite, e_evQ_ite, e_fin_ite, e_pair_ite, Try.f31, d, Bool.false_or]
/-- What is asked of a number, by a function. -/
noncomputable def iP_In (f : FuncId) (caps : List AVal) (p : Int → Bool) : List AVal → Option AVal := pimp fun xs r => ∃ y : Int, xs = .int .i64 y :: caps ∧ r = .bool (p y)
theorem iP_In_eq {f : FuncId} {caps : List AVal} {p : Int → Bool} {y : Int} : iP_In f caps p (.int .i64 y :: caps) = some (.bool (p y)) :=
  pimp_eq ⟨y, rfl, rfl⟩ (by rintro _ ⟨y', e, rfl⟩; rw [(AVal.int.inj (List.cons.inj e).1).2])

theorem w_Idx_In {f : FuncId} {caps : List AVal} {p : Int → Bool} (hs : stripL caps = some caps) (hf : ∀ y, PCall Try.prog f (.int .i64 y :: caps) (.bool (p y))) (l : List Int) (hl : l.length < 9223372036854775808) :
    PCall Try.prog 34 [slc cI l, .fn f [] caps] (.int .i64 (idx p l)) := by
  have snd : Sound Try.prog (gam [(f, .pure (iP_In f caps p))]) := Sound.pure (fun xs v h0 => by obtain ⟨y, rfl, rfl⟩ := pimp_spec h0; exact hf y) Sound.nil
  refine PCall.of_w (fn := Try.f34) (Γ := gam [(f, .pure (iP_In f caps p))]) (mu := false) snd mixed Try.func34 rfl (by kernel_rfl) (by simp) (by kernel_rfl) ?_
  simp (disch := first | assumption | omega | exact okR_new | exact okR_one | exact trivial | (simp only [List.length_append, List.length_cons, List.length_nil]; omega) | (simp only [List.length_append, List.length_cons, List.length_nil, Nat.reduceAdd])) only [go_sem, e_go, e_cond_bool, e_w_bool, e_step_ite, e_reg_ite, e_regW_ite, e_code_ite, e_block_ite, e_evQ_ite, e_fin_ite, e_pair_ite, Try.f34]
  refine w_loop [4] [8] (fun i : Nat => l.length - i) (fun i => i ≤ l.length ∧ ∀ y ∈ l.take i, p y = false) (fun i => ⟨[], []⟩)
    (fun i => [(8, .int .i64 (i : Nat))]) 0 (fun _ => rfl) (by kernel_rfl) ⟨Nat.zero_le _, by simp⟩ rfl (by simp [HasE, lk]) ?_
  rintro i ⟨hi, hq⟩
  by_cases h : i < l.length
  · have hg : l[i]? = some l[i] := by simp [h]
    have hat : (fl cI l)[i]? = some (.int .i64 l[i]) := by rw [fl_get1 cI_len hg]; rfl
    have hw : IntKind.i64.wrap ((i : Int) + 1) = (i : Int) + 1 := IntWalk.i64_in _ (by omega)
    generalize l[i] = x at *
    have hcall := iP_In_eq (f := f) (caps := caps) (p := p) (y := x)
    cases hp : p x
    · simp (disch := first | assumption | omega | exact okR_new | exact okR_one | exact trivial | (simp only [List.length_append, List.length_cons, List.length_nil]; omega) | (simp only [List.length_append, List.length_cons, List.length_nil, Nat.reduceAdd])) only [go_sem, e_go, e_cond_bool, e_w_bool, e_step_ite, e_reg_ite, e_regW_ite, e_code_ite, e_block_ite, e_evQ_ite, e_fin_ite, e_pair_ite, Try.f34, hat, hs, hcall, hp]
      exact ⟨i + 1, dn h, ⟨h, upto_next hq hg hp⟩, rfl, by simp [HasE, lk]⟩
    · simp (disch := first | assumption | omega | exact okR_new | exact okR_one | exact trivial | (simp only [List.length_append, List.length_cons, List.length_nil]; omega) | (simp only [List.length_append, List.length_cons, List.length_nil, Nat.reduceAdd])) only [go_sem, e_go, e_cond_bool, e_w_bool, e_step_ite, e_reg_ite, e_regW_ite, e_code_ite, e_block_ite, e_evQ_ite, e_fin_ite, e_pair_ite, Try.f34, hat, hs, hcall, hp]
      rw [idx_at hg hq hp]
  · have hi' : i = l.length := by omega
    subst hi'
    rw [List.take_length] at hq
    simp (disch := first | assumption | omega | exact okR_new | exact okR_one | exact trivial | (simp only [List.length_append, List.length_cons, List.length_nil]; omega) | (simp only [List.length_append, List.length_cons, List.length_nil, Nat.reduceAdd])) only [go_sem, e_go, e_cond_bool, e_w_bool, e_step_ite, e_reg_ite, e_regW_ite, e_code_ite, e_block_ite, e_evQ_ite, e_fin_ite, e_pair_ite, Try.f34]
    rw [idx_none hq]
noncomputable def iI_In (f : FuncId) (caps : List AVal) (p : Int → Bool) : List AVal → Option AVal := pimp fun xs r => ∃ l : List Int, l.length < 9223372036854775808 ∧ xs = [slc cI l, .fn f [] caps] ∧ r = .int .i64 (idx p l)
theorem iI_In_eq {f : FuncId} {caps : List AVal} {p : Int → Bool} {l : List Int} (h : l.length < 9223372036854775808) : iI_In f caps p [slc cI l, .fn f [] caps] = some (.int .i64 (idx p l)) :=
  pimp_eq ⟨l, h, rfl, rfl⟩ (by
    rintro _ ⟨l', h', e, rfl⟩
    rw [sI_inj (List.cons.inj e).1])
theorem w_Any_In {f : FuncId} {caps : List AVal} {p : Int → Bool} (hs : stripL caps = some caps) (hf : ∀ y, PCall Try.prog f (.int .i64 y :: caps) (.bool (p y))) (l : List Int) (h : l.length < 9223372036854775808) :
    PCall Try.prog 30 [slc cI l, .fn f [] caps] (.bool (l.any p)) := by
  have snd : Sound Try.prog (gam [(34, .pure (iI_In f caps p))]) := Sound.pure (fun xs v h0 => by obtain ⟨l, hl, rfl, rfl⟩ := pimp_spec h0; exact w_Idx_In hs hf l hl) Sound.nil
  have hcall := iI_In_eq (f := f) (caps := caps) (p := p) h
  refine PCall.of_w (fn := Try.f30) (Γ := gam [(34, .pure (iI_In f caps p))]) (mu := false) snd mixed Try.func30 rfl (by kernel_rfl) (by simp) (by kernel_rfl) ?_
  simp (disch := first | assumption | omega | exact okR_new | exact okR_one | exact trivial | (simp only [List.length_append, List.length_cons, List.length_nil]; omega) | (simp only [List.length_append, List.length_cons, List.length_nil, Nat.reduceAdd])) only [go_sem, e_go, e_cond_bool, e_w_bool, e_step_ite, e_reg_ite, e_regW_ite, e_code_ite, e_block_ite, e_evQ_ite, e_fin_ite, e_pair_ite, Try.f30, hs, hcall]
  rw [← idx_any]
noncomputable def iA_In (f : FuncId) (caps : List AVal) (p : Int → Bool) : List AVal → Option AVal := pimp fun xs r => ∃ l : List Int, l.length < 9223372036854775808 ∧ xs = [slc cI l, .fn f [] caps] ∧ r = .bool (l.any p)
theorem iA_In_eq {f : FuncId} {caps : List AVal} {p : Int → Bool} {l : List Int} (h : l.length < 9223372036854775808) : iA_In f caps p [slc cI l, .fn f [] caps] = some (.bool (l.any p)) :=
  pimp_eq ⟨l, h, rfl, rfl⟩ (by
    rintro _ ⟨l', h', e, rfl⟩
    rw [sI_inj (List.cons.inj e).1])
theorem iA_In_call {f : FuncId} {caps : List AVal} {p : Int → Bool} (hs : stripL caps = some caps) (hf : ∀ y, PCall Try.prog f (.int .i64 y :: caps) (.bool (p y))) : ∀ xs v, iA_In f caps p xs = some v → PCall Try.prog 30 xs v :=
  fun xs v h0 => by obtain ⟨l, hl, rfl, rfl⟩ := pimp_spec h0; exact w_Any_In hs hf l hl

theorem w_within (l : List Int) (a b : Int) (h : l.length < 9223372036854775808) : PCall Try.prog 25 [slc cI l, .int .i64 a, .int .i64 b] (.bool (withinI l a b)) := by
  have hA := iA_In_eq (f := 31) (caps := [.ipt [.int .i64 a] 0, .ipt [.int .i64 b] 0]) (p := outI a b) (l := l) h
  rw [← withinI_any]
  refine PCall.of_w (fn := Try.f25) (Γ := gam [(30, .pure (iA_In 31 [.ipt [.int .i64 a] 0, .ipt [.int .i64 b] 0] (outI a b)))]) (mu := false) (Sound.pure (iA_In_call rfl (fun y => w_withinOdd a b y)) Sound.nil) mixed Try.func25 rfl (by kernel_rfl) (by simp) (by kernel_rfl) ?_
  simp (disch := first | assumption | omega | exact okR_new | exact okR_one | exact trivial | (simp only [List.length_append, List.length_cons, List.length_nil]; omega) | (simp only [List.length_append, List.length_cons, List.length_nil, Nat.reduceAdd])) only [go_sem, e_go, e_cond_bool, e_w_bool, e_step_ite, e_reg_ite, e_regW_ite, e_code_ite, e_block_ite, e_evQ_ite, e_fin_ite, e_pair_ite, Try.f25, iA_In_eq, hA]
noncomputable def iWi : List AVal → Option AVal := pimp fun xs r => ∃ (l : List Int) (a : Int) (b : Int), (l.length < 9223372036854775808) ∧ xs = [slc cI l, .int .i64 a, .int .i64 b] ∧ r = .bool (withinI l a b)
theorem iWi_eq {l : List Int} {a : Int} {b : Int} (h : l.length < 9223372036854775808) : iWi [slc cI l, .int .i64 a, .int .i64 b] = some (.bool (withinI l a b)) := pimp_eq ⟨l, a, b, h, rfl, rfl⟩ (by rintro _ ⟨l', a', b', h', e, rfl⟩; have e0 := (List.cons.inj e).1; have e0r := (List.cons.inj e).2; have e1 := (List.cons.inj e0r).1; have e1r := (List.cons.inj e0r).2; have e2 := (List.cons.inj e1r).1; have e2r := (List.cons.inj e1r).2; have q0 := slc_inj cI_len (fun _ _ _ _ => cI_inj) e0; have q1 := (AVal.int.inj e1).2; have q2 := (AVal.int.inj e2).2; subst q0; subst q1; subst q2; first | rfl | exact ⟨rfl, rfl⟩)
theorem iWi_call : ∀ xs v, iWi xs = some v → PCall Try.prog 25 xs v := fun xs v h0 => by obtain ⟨l, a, b, h, rfl, rfl⟩ := pimp_spec h0; exact w_within l a b h
theorem w_sizes (p : Pk) (h : okPk p) : PCall Try.prog 24 [pkV p] (.bool (sizesP p)) := by
  obtain ⟨h0, h1, h2, h3, h4, h5, h6⟩ := h
  refine PCall.of_w (fn := Try.f24) (Γ := gam []) (mu := false) Sound.nil mixed Try.func24 rfl (by kernel_rfl) (by simp) (by kernel_rfl) ?_
  unfold sizesP
  (simp (disch := first | assumption | omega | exact okR_new | exact okR_one | exact trivial | (simp only [List.length_append, List.length_cons, List.length_nil]; omega) | (simp only [List.length_append, List.length_cons, List.length_nil, Nat.reduceAdd])) only [go_sem, e_bin_bool, Bool.true_and, Bool.and_true, Bool.false_and, Bool.and_false, Bool.true_or, Bool.or_true, Bool.false_or, Bool.or_false, Bool.not_eq_eq_eq_not, Bool.not_not, z_or, z_and, z_beq_t, z_beq_f, decide_eq_true_eq, decide_eq_false_iff_not, ite_not, Bool.not_eq_true', Bool.or_eq_true, Bool.and_eq_true, i_t, i_f, Try.f24] <;> (repeat' ((first | refine w_cond_cases ?_ ?_ | refine w_go_cases ?_ ?_ | refine w_pick_cases ?_ ?_) <;> intro hq <;> (try simp only [decide_eq_true_eq, decide_eq_false_iff_not, Bool.not_eq_true', Bool.not_eq_false', Bool.or_eq_true, Bool.and_eq_true, Bool.or_eq_false_iff, Bool.and_eq_false_iff, Bool.not_eq_eq_eq_not, Bool.not_true, Bool.not_false, Bool.not_not] at hq) <;> (first | simp (disch := first | assumption | omega | exact okR_new | exact okR_one | exact trivial | (simp only [List.length_append, List.length_cons, List.length_nil]; omega) | (simp only [List.length_append, List.length_cons, List.length_nil, Nat.reduceAdd])) only [show (_ : Bool) = true from hq, go_sem, e_bin_bool, Bool.true_and, Bool.and_true, Bool.false_and, Bool.and_false, Bool.true_or, Bool.or_true, Bool.false_or, Bool.or_false, Bool.not_eq_eq_eq_not, Bool.not_not, z_or, z_and, z_beq_t, z_beq_f, decide_eq_true_eq, decide_eq_false_iff_not, ite_not, Bool.not_eq_true', Bool.or_eq_true, Bool.and_eq_true, i_t, i_f, Try.f24] | simp (disch := first | assumption | omega | exact okR_new | exact okR_one | exact trivial | (simp only [List.length_append, List.length_cons, List.length_nil]; omega) | (simp only [List.length_append, List.length_cons, List.length_nil, Nat.reduceAdd])) only [show (_ : Bool) = false from hq, go_sem, e_bin_bool, Bool.true_and, Bool.and_true, Bool.false_and, Bool.and_false, Bool.true_or, Bool.or_true, Bool.false_or, Bool.or_false, Bool.not_eq_eq_eq_not, Bool.not_not, z_or, z_and, z_beq_t, z_beq_f, decide_eq_true_eq, decide_eq_false_iff_not, ite_not, Bool.not_eq_true', Bool.or_eq_true, Bool.and_eq_true, i_t, i_f, Try.f24] | simp (disch := first | assumption | omega | exact okR_new | exact okR_one | exact trivial | (simp only [List.length_append, List.length_cons, List.length_nil]; omega) | (simp only [List.length_append, List.length_cons, List.length_nil, Nat.reduceAdd])) only [go_sem, e_bin_bool, Bool.true_and, Bool.and_true, Bool.false_and, Bool.and_false, Bool.true_or, Bool.or_true, Bool.false_or, Bool.or_false, Bool.not_eq_eq_eq_not, Bool.not_not, z_or, z_and, z_beq_t, z_beq_f, decide_eq_true_eq, decide_eq_false_iff_not, ite_not, Bool.not_eq_true', Bool.or_eq_true, Bool.and_eq_true, i_t, i_f, Try.f24] | skip)))) <;> (first | rfl | omega | ((repeat' split) <;> (try rw [Bool.eq_iff_iff]) <;> (try simp only [Bool.and_eq_true, Bool.or_eq_true, decide_eq_true_eq, Bool.not_eq_true', Bool.not_eq_false', decide_eq_false_iff_not, decide_eq_decide, Bool.false_eq_true, beq_iff_eq, Bool.not_eq_eq_eq_not, Bool.not_true, Bool.not_false, true_iff, false_iff, iff_true, iff_false, and_true, true_and, not_true_eq_false, not_false_eq_true] at *) <;> first | omega | grind))
noncomputable def iSz : List AVal → Option AVal := pimp fun xs r => ∃ (p : Pk), (okPk p) ∧ xs = [pkV p] ∧ r = .bool (sizesP p)
theorem iSz_eq {p : Pk} (h : okPk p) : iSz [pkV p] = some (.bool (sizesP p)) := pimp_eq ⟨p, h, rfl, rfl⟩ (by rintro _ ⟨p', h', e, rfl⟩; have e0 := pkV_inj (List.cons.inj e).1; subst e0; rfl)
theorem iSz_call : ∀ xs v, iSz xs = some v → PCall Try.prog 24 xs v := fun xs v h0 => by obtain ⟨p, h, rfl, rfl⟩ := pimp_spec h0; exact w_sizes p h
theorem w_Valid (p : Pk) (h : okPk p) : PCall Try.prog 11 [pkV p] (.bool (validP p)) := by
  have hS := iSz_eq (p := p) h
  obtain ⟨h0, h1, h2, h3, h4, h5, h6⟩ := h
  have i1 : iWi [.sl .no p.mp.length (fl cI p.mp), .int .i64 0, .int .i64 p.wd] = _ := iWi_eq (l := p.mp) (by omega)
  have i2 : iWi [.sl .no p.bs.length (fl cI p.bs), .int .i64 0, .int .i64 ((p.nx.length : Int) + 1)] = _ := iWi_eq (l := p.bs) (by omega)
  have i3 : iWi [.sl .no p.nx.length (fl cI p.nx), .int .i64 (-1), .int .i64 (p.bs.length : Nat)] = _ := iWi_eq (l := p.nx) (by omega)
  have i4 : iWi [.sl .no p.ck.length (fl cI p.ck), .int .i64 (-1), .int .i64 (p.bs.length : Nat)] = _ := iWi_eq (l := p.ck) (by omega)
  have i5 : iWi [.sl .no p.ac.length (fl cI p.ac), .int .i64 (-1), .int .i64 40] = _ := iWi_eq (l := p.ac) (by omega)
  have i6 : iWi [.sl .no p.st.length (fl cI p.st), .int .i64 (-1), .int .i64 (p.bs.length : Nat)] = _ := iWi_eq (l := p.st) (by omega)
  refine PCall.of_w (fn := Try.f11) (Γ := gam [(24, .pure iSz), (25, .pure iWi)]) (mu := false) (Sound.pure iSz_call (Sound.pure iWi_call Sound.nil)) mixed Try.func11 rfl (by kernel_rfl) (by simp) (by kernel_rfl) ?_
  unfold validP
  cases hs : sizesP p
  · simp (disch := first | assumption | omega | exact okR_new | exact okR_one | exact trivial | (simp only [List.length_append, List.length_cons, List.length_nil]; omega) | (simp only [List.length_append, List.length_cons, List.length_nil, Nat.reduceAdd])) only [go_sem, e_go, e_cond_bool, e_w_bool, e_step_ite, e_reg_ite, e_regW_ite, e_code_ite, e_block_ite, e_evQ_ite, e_fin_ite, e_pair_ite, Try.f11, iSz_eq, iWi_eq, hS, hs]
    simp
  · have hlen : p.nx.length ≤ 50000 := by unfold sizesP at hs; simp at hs; omega
    have hw : IntKind.i64.wrap ((p.nx.length : Int) + 1) = (p.nx.length : Int) + 1 := IntWalk.i64_in _ (by omega)
    by_cases g1 : p.wd < 1
    · have d1 : decide (p.wd < 1) = true := decide_eq_true g1
      have d2 : decide (1 ≤ p.wd) = false := decide_eq_false (by omega)
      rw [d2]
      simp (disch := first | assumption | omega | exact okR_new | exact okR_one | exact trivial | (simp only [List.length_append, List.length_cons, List.length_nil]; omega) | (simp only [List.length_append, List.length_cons, List.length_nil, Nat.reduceAdd])) only [go_sem, e_go, e_cond_bool, e_w_bool, e_step_ite, e_reg_ite, e_regW_ite, e_code_ite, e_block_ite, e_evQ_ite, e_fin_ite, e_pair_ite, Try.f11, iSz_eq, iWi_eq, hS, hs, d1]
      simp
    · have d1 : decide (p.wd < 1) = false := decide_eq_false g1
      by_cases g2 : 256 < p.wd
      · have d2 : decide (256 < p.wd) = true := decide_eq_true g2
        have d3 : decide (p.wd ≤ 256) = false := decide_eq_false (by omega)
        rw [d3]
        simp (disch := first | assumption | omega | exact okR_new | exact okR_one | exact trivial | (simp only [List.length_append, List.length_cons, List.length_nil]; omega) | (simp only [List.length_append, List.length_cons, List.length_nil, Nat.reduceAdd])) only [go_sem, e_go, e_cond_bool, e_w_bool, e_step_ite, e_reg_ite, e_regW_ite, e_code_ite, e_block_ite, e_evQ_ite, e_fin_ite, e_pair_ite, Try.f11, iSz_eq, iWi_eq, hS, hs, d1, d2]
        simp
      · have d2 : decide (256 < p.wd) = false := decide_eq_false g2
        have d3 : decide (p.wd ≤ 256) = true := decide_eq_true (by omega)
        have d4 : decide (1 ≤ p.wd) = true := decide_eq_true (by omega)
        rw [d3, d4]
        simp (disch := first | assumption | omega | exact okR_new | exact okR_one | exact trivial | (simp only [List.length_append, List.length_cons, List.length_nil]; omega) | (simp only [List.length_append, List.length_cons, List.length_nil, Nat.reduceAdd])) only [go_sem, e_go, e_cond_bool, e_w_bool, e_step_ite, e_reg_ite, e_regW_ite, e_code_ite, e_block_ite, e_evQ_ite, e_fin_ite, e_pair_ite, Try.f11, iSz_eq, iWi_eq, hS, hs, d1, d2]
        refine w_loop [2] [23] (fun i : Nat => p.df.length - i) (fun i => i ≤ p.df.length ∧ dfTo p.df i = true) (fun i => ⟨[.cells 0 (cPk p)], []⟩)
          (fun i => [(23, .int .i64 (i : Nat))]) 0 (fun _ => rfl) (by kernel_rfl) ⟨Nat.zero_le _, dfTo_zero⟩ (by simp only [cPk_eq]) (by simp [HasE, lk]) ?_
        rintro i ⟨hi, hq⟩
        by_cases hlt : i < p.df.length
        · have hg : p.df[i]? = some p.df[i] := by simp [hlt]
          have hat := fl_cI_get hg
          have hnx := dfTo_next hg
          generalize p.df[i] = k at *
          have hwi : IntKind.i64.wrap ((i : Int) + 1) = (i : Int) + 1 := IntWalk.i64_in _ (by omega)
          by_cases b1 : k < -1
          · have e1 : decide (k < -1) = true := decide_eq_true b1
            have hb := dfTo_bad (n := p.df.length) hg (by simp [outI, e1]) hlt
            rw [hb]
            simp (disch := first | assumption | omega | exact okR_new | exact okR_one | exact trivial | (simp only [List.length_append, List.length_cons, List.length_nil]; omega) | (simp only [List.length_append, List.length_cons, List.length_nil, Nat.reduceAdd])) only [go_sem, e_go, e_cond_bool, e_w_bool, e_step_ite, e_reg_ite, e_regW_ite, e_code_ite, e_block_ite, e_evQ_ite, e_fin_ite, e_pair_ite, Try.f11, iSz_eq, iWi_eq, hat, e1]
            simp
          · have e1 : decide (k < -1) = false := decide_eq_false b1
            by_cases b2 : (i : Int) ≤ k
            · have e2 : decide ((i : Int) ≤ k) = true := decide_eq_true b2
              have hb := dfTo_bad (n := p.df.length) hg (by simp [outI, e2]) hlt
              rw [hb]
              simp (disch := first | assumption | omega | exact okR_new | exact okR_one | exact trivial | (simp only [List.length_append, List.length_cons, List.length_nil]; omega) | (simp only [List.length_append, List.length_cons, List.length_nil, Nat.reduceAdd])) only [go_sem, e_go, e_cond_bool, e_w_bool, e_step_ite, e_reg_ite, e_regW_ite, e_code_ite, e_block_ite, e_evQ_ite, e_fin_ite, e_pair_ite, Try.f11, iSz_eq, iWi_eq, hat, e1, e2]
              simp
            · have e2 : decide ((i : Int) ≤ k) = false := decide_eq_false b2
              simp (disch := first | assumption | omega | exact okR_new | exact okR_one | exact trivial | (simp only [List.length_append, List.length_cons, List.length_nil]; omega) | (simp only [List.length_append, List.length_cons, List.length_nil, Nat.reduceAdd])) only [go_sem, e_go, e_cond_bool, e_w_bool, e_step_ite, e_reg_ite, e_regW_ite, e_code_ite, e_block_ite, e_evQ_ite, e_fin_ite, e_pair_ite, Try.f11, iSz_eq, iWi_eq, hat, e1, e2, hwi]
              exact ⟨i + 1, dn hlt, ⟨hlt, by rw [hnx, hq]; simp [outI, e1, e2]⟩, by simp only [cPk_eq], by simp [HasE, lk]⟩
        · have hi' : i = p.df.length := by omega
          subst hi'
          rw [hq]
          unfold listsP
          (simp (disch := first | assumption | omega | exact okR_new | exact okR_one | exact trivial | (simp only [List.length_append, List.length_cons, List.length_nil]; omega) | (simp only [List.length_append, List.length_cons, List.length_nil, Nat.reduceAdd])) only [go_sem, e_bin_bool, Bool.true_and, Bool.and_true, Bool.false_and, Bool.and_false, Bool.true_or, Bool.or_true, Bool.false_or, Bool.or_false, Bool.not_eq_eq_eq_not, Bool.not_not, z_or, z_and, z_beq_t, z_beq_f, decide_eq_true_eq, decide_eq_false_iff_not, ite_not, Bool.not_eq_true', Bool.or_eq_true, Bool.and_eq_true, i_t, i_f, Try.f11, iSz_eq, iWi_eq, i1, i2, i3, i4, i5, i6, hw] <;> (repeat' ((first | refine w_cond_cases ?_ ?_ | refine w_go_cases ?_ ?_ | refine w_pick_cases ?_ ?_) <;> intro hq <;> (try simp only [decide_eq_true_eq, decide_eq_false_iff_not, Bool.not_eq_true', Bool.not_eq_false', Bool.or_eq_true, Bool.and_eq_true, Bool.or_eq_false_iff, Bool.and_eq_false_iff, Bool.not_eq_eq_eq_not, Bool.not_true, Bool.not_false, Bool.not_not] at hq) <;> (first | simp (disch := first | assumption | omega | exact okR_new | exact okR_one | exact trivial | (simp only [List.length_append, List.length_cons, List.length_nil]; omega) | (simp only [List.length_append, List.length_cons, List.length_nil, Nat.reduceAdd])) only [show (_ : Bool) = true from hq, go_sem, e_bin_bool, Bool.true_and, Bool.and_true, Bool.false_and, Bool.and_false, Bool.true_or, Bool.or_true, Bool.false_or, Bool.or_false, Bool.not_eq_eq_eq_not, Bool.not_not, z_or, z_and, z_beq_t, z_beq_f, decide_eq_true_eq, decide_eq_false_iff_not, ite_not, Bool.not_eq_true', Bool.or_eq_true, Bool.and_eq_true, i_t, i_f, Try.f11, iSz_eq, iWi_eq, i1, i2, i3, i4, i5, i6, hw] | simp (disch := first | assumption | omega | exact okR_new | exact okR_one | exact trivial | (simp only [List.length_append, List.length_cons, List.length_nil]; omega) | (simp only [List.length_append, List.length_cons, List.length_nil, Nat.reduceAdd])) only [show (_ : Bool) = false from hq, go_sem, e_bin_bool, Bool.true_and, Bool.and_true, Bool.false_and, Bool.and_false, Bool.true_or, Bool.or_true, Bool.false_or, Bool.or_false, Bool.not_eq_eq_eq_not, Bool.not_not, z_or, z_and, z_beq_t, z_beq_f, decide_eq_true_eq, decide_eq_false_iff_not, ite_not, Bool.not_eq_true', Bool.or_eq_true, Bool.and_eq_true, i_t, i_f, Try.f11, iSz_eq, iWi_eq, i1, i2, i3, i4, i5, i6, hw] | simp (disch := first | assumption | omega | exact okR_new | exact okR_one | exact trivial | (simp only [List.length_append, List.length_cons, List.length_nil]; omega) | (simp only [List.length_append, List.length_cons, List.length_nil, Nat.reduceAdd])) only [go_sem, e_bin_bool, Bool.true_and, Bool.and_true, Bool.false_and, Bool.and_false, Bool.true_or, Bool.or_true, Bool.false_or, Bool.or_false, Bool.not_eq_eq_eq_not, Bool.not_not, z_or, z_and, z_beq_t, z_beq_f, decide_eq_true_eq, decide_eq_false_iff_not, ite_not, Bool.not_eq_true', Bool.or_eq_true, Bool.and_eq_true, i_t, i_f, Try.f11, iSz_eq, iWi_eq, i1, i2, i3, i4, i5, i6, hw] | skip)))) <;> (first | rfl | omega | ((repeat' split) <;> (try rw [Bool.eq_iff_iff]) <;> (try simp only [Bool.and_eq_true, Bool.or_eq_true, decide_eq_true_eq, Bool.not_eq_true', Bool.not_eq_false', decide_eq_false_iff_not, decide_eq_decide, Bool.false_eq_true, beq_iff_eq, Bool.not_eq_eq_eq_not, Bool.not_true, Bool.not_false, true_iff, false_iff, iff_true, iff_false, and_true, true_and, not_true_eq_false, not_false_eq_true] at *) <;> first | omega | grind))
noncomputable def iVa : List AVal → Option AVal := pimp fun xs r => ∃ (p : Pk), (okPk p) ∧ xs = [pkV p] ∧ r = .bool (validP p)
theorem iVa_eq {p : Pk} (h : okPk p) : iVa [pkV p] = some (.bool (validP p)) := pimp_eq ⟨p, h, rfl, rfl⟩ (by rintro _ ⟨p', h', e, rfl⟩; have e0 := pkV_inj (List.cons.inj e).1; subst e0; rfl)
theorem iVa_call : ∀ xs v, iVa xs = some v → PCall Try.prog 11 xs v := fun xs v h0 => by obtain ⟨p, h, rfl, rfl⟩ := pimp_spec h0; exact w_Valid p h
end Go.Hk.N
