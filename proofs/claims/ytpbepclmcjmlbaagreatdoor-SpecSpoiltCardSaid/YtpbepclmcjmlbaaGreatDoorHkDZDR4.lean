/- Layer 3: which patterns are the same; which match nothing. -/
import Derived.Test.YtpbepclmcjmlbaaGreatDoorHkDZDR3
set_option linter.unusedSimpArgs false
set_option linter.unusedVariables false
namespace Go.Hk.DZD
open Go.Proofs
theorem ti91 : tiOf Tryz.prog 91 = some { size := 1, bytes := 8, zero := some (.nilf), k := .func } := by kernel_rfl
attribute [go_sem] ti91
/-- How two elements are held against each other, by a function. -/
noncomputable def iP2_Rx (f : FuncId) (p : Rx → Rx → Bool) (D : Rx → Prop) : List AVal → Option AVal := pimp fun xs r => ∃ a b, ((okX a ∧ okX b) ∧ D a) ∧ xs = [rV a, rV b] ∧ r = .bool (p a b)
theorem iP2_Rx_eq {f : FuncId} {p : Rx → Rx → Bool} {D : Rx → Prop} {a b : Rx} (h : (okX a ∧ okX b) ∧ D a) : iP2_Rx f p D [rV a, rV b] = some (.bool (p a b)) :=
  pimp_eq ⟨a, b, h, rfl, rfl⟩ (by
    rintro _ ⟨a', b', h', e, rfl⟩
    have e2 := (List.cons.inj e).2
    rw [rV_inj h.1.1 h'.1.1 (List.cons.inj e).1, rV_inj h.1.2 h'.1.2 (List.cons.inj e2).1])
theorem w_Eq_Rx {f : FuncId} {p : Rx → Rx → Bool} {D : Rx → Prop} (hf : ∀ a b, (okX a ∧ okX b) ∧ D a → PCall Tryz.prog f [rV a, rV b] (.bool (p a b))) (l r : List Rx) (h : (l.length < 9223372036854775808 ∧ r.length < 9223372036854775808) ∧ (∀ y ∈ l, okX y ∧ D y) ∧ ∀ y ∈ r, okX y) :
    PCall Tryz.prog 65 [slc cR l, slc cR r, .fn f [] []] (.bool (decide (l.length = r.length) && all2 p l r)) := by
  obtain ⟨⟨hl, hr⟩, hml, hmr⟩ := h
  have snd : Sound Tryz.prog (gam [(f, .pure (iP2_Rx f p D))]) := Sound.pure (fun xs v h0 => by obtain ⟨a, b, hy, rfl, rfl⟩ := pimp_spec h0; exact hf a b hy) Sound.nil
  refine PCall.of_w (fn := Tryz.f65) (Γ := gam [(f, .pure (iP2_Rx f p D))]) (mu := false) snd mixed Tryz.func65 rfl (by kernel_rfl) (by simp) (by kernel_rfl) ?_
  by_cases hlr : l.length = r.length
  · simp (disch := first | assumption | omega | exact okR_new | exact okR_one | exact trivial | (simp only [List.length_append, List.length_cons, List.length_nil]; omega) | (simp only [List.length_append, List.length_cons, List.length_nil, Nat.reduceAdd])) only [go_sem, e_go, e_cond_bool, e_w_bool, e_step_ite, e_reg_ite, e_regW_ite, e_code_ite, e_block_ite, e_evQ_ite, e_fin_ite, e_pair_ite, Tryz.f65]
    refine w_loopc [6] [17] (fun i : Nat => l.length - i) (fun i => i ≤ l.length ∧ all2To p l r i = true) (fun i => ⟨[], []⟩)
      (fun i => [(17, .int .i64 (i : Nat))]) 0 (fun _ => rfl) (by kernel_rfl) ⟨Nat.zero_le _, all2To_zero⟩ ⟨[], [], by simp⟩ (by simp [HasE, lk]) ?_ ?_
    · rintro i -
      simp (disch := assumption) [cloE, clo, cloL, cloB, c_Rno, c_Rfull, c_append, c_flR]
    rintro i ⟨hi, hq⟩
    by_cases h : i < l.length
    · have hg : l[i]? = some l[i] := by simp [h]
      have hg' : r[i]? = some (r[i]'(by omega)) := by simp
      have hat := fl_at cR_len hg
      have hat' := fl_at cR_len hg'
      have hle : i * 8 + 8 ≤ l.length * 8 := by omega
      have hle' : i * 8 + 8 ≤ r.length * 8 := by omega
      have hy := hml _ (List.getElem_mem h)
      have hy' := hmr _ (List.mem_of_getElem? hg')
      have hcall := iP2_Rx_eq (f := f) (p := p) (D := D) ⟨⟨hy.1, hy'⟩, hy.2⟩
      cases hp : p l[i] (r[i]'(by omega))
      · have hn := all2_not hlr hg hg' hp
        simp (disch := first | assumption | omega | exact okR_new | exact okR_one | exact trivial | (simp only [List.length_append, List.length_cons, List.length_nil]; omega) | (simp only [List.length_append, List.length_cons, List.length_nil, Nat.reduceAdd])) only [go_sem, e_go, e_cond_bool, e_w_bool, e_step_ite, e_reg_ite, e_regW_ite, e_code_ite, e_block_ite, e_evQ_ite, e_fin_ite, e_pair_ite, Tryz.f65, hat, hat', hcall, hp, hn] <;> rfl
      · simp (disch := first | assumption | omega | exact okR_new | exact okR_one | exact trivial | (simp only [List.length_append, List.length_cons, List.length_nil]; omega) | (simp only [List.length_append, List.length_cons, List.length_nil, Nat.reduceAdd])) only [go_sem, e_go, e_cond_bool, e_w_bool, e_step_ite, e_reg_ite, e_regW_ite, e_code_ite, e_block_ite, e_evQ_ite, e_fin_ite, e_pair_ite, Tryz.f65, hat, hat', hcall, hp]
        exact ⟨i + 1, dn h, ⟨h, all2To_step hq hg hg' hp⟩, ⟨_, _, rfl⟩, by simp [HasE, lk]⟩
    · have hi' : i = l.length := by omega
      subst hi'
      rw [all2To_all hlr] at hq
      simp (disch := first | assumption | omega | exact okR_new | exact okR_one | exact trivial | (simp only [List.length_append, List.length_cons, List.length_nil]; omega) | (simp only [List.length_append, List.length_cons, List.length_nil, Nat.reduceAdd])) only [go_sem, e_go, e_cond_bool, e_w_bool, e_step_ite, e_reg_ite, e_regW_ite, e_code_ite, e_block_ite, e_evQ_ite, e_fin_ite, e_pair_ite, Tryz.f65, hq, hlr] <;> rfl
  · have hn : decide (l.length = r.length) = false := by simp [hlr]
    simp (disch := first | assumption | omega | exact okR_new | exact okR_one | exact trivial | (simp only [List.length_append, List.length_cons, List.length_nil]; omega) | (simp only [List.length_append, List.length_cons, List.length_nil, Nat.reduceAdd])) only [go_sem, e_go, e_cond_bool, e_w_bool, e_step_ite, e_reg_ite, e_regW_ite, e_code_ite, e_block_ite, e_evQ_ite, e_fin_ite, e_pair_ite, Tryz.f65, hn] <;> rfl
noncomputable def iE_Rx (f : FuncId) (p : Rx → Rx → Bool) (D : Rx → Prop) : List AVal → Option AVal := pimp fun xs v => ∃ l r : List Rx, ((l.length < 9223372036854775808 ∧ r.length < 9223372036854775808) ∧ (∀ y ∈ l, okX y ∧ D y) ∧ ∀ y ∈ r, okX y) ∧ xs = [slc cR l, slc cR r, .fn f [] []] ∧ v = .bool (decide (l.length = r.length) && all2 p l r)
theorem iE_Rx_eq {f : FuncId} {p : Rx → Rx → Bool} {D : Rx → Prop} {l r : List Rx} (h : (l.length < 9223372036854775808 ∧ r.length < 9223372036854775808) ∧ (∀ y ∈ l, okX y ∧ D y) ∧ ∀ y ∈ r, okX y) : iE_Rx f p D [slc cR l, slc cR r, .fn f [] []] = some (.bool (decide (l.length = r.length) && all2 p l r)) :=
  pimp_eq ⟨l, r, h, rfl, rfl⟩ (by
    rintro _ ⟨l', r', h', e, rfl⟩
    have e2 := (List.cons.inj e).2
    rw [slc_inj cR_len (fun a ha b hb e => rV_inj (h.2.1 a ha).1 (h'.2.1 b hb).1 (congrArg AVal.agg e)) (List.cons.inj e).1, slc_inj cR_len (fun a ha b hb e => rV_inj (h.2.2 a ha) (h'.2.2 b hb) (congrArg AVal.agg e)) (List.cons.inj e2).1])
theorem iE_Rx_call {f : FuncId} {p : Rx → Rx → Bool} {D : Rx → Prop} (hf : ∀ a b, (okX a ∧ okX b) ∧ D a → PCall Tryz.prog f [rV a, rV b] (.bool (p a b))) : ∀ xs v, iE_Rx f p D xs = some v → PCall Tryz.prog 65 xs v :=
  fun xs v h0 => by obtain ⟨l, r, hl, rfl, rfl⟩ := pimp_spec h0; exact w_Eq_Rx hf l r hl
noncomputable def iSm' (n : Nat) : List AVal → Option AVal := pimp fun xs r => ∃ (x : Rx) (y : Rx), ((okX x ∧ okX y) ∧ sz x < n) ∧ xs = [rV x, rV y] ∧ r = .bool (same x y)
theorem iSm'_eq {n : Nat} {x : Rx} {y : Rx} (h0 : (okX x ∧ okX y) ∧ sz x < n) : iSm' n [rV x, rV y] = some (.bool (same x y)) := by
  have h := h0.1
  refine pimp_eq ⟨x, y, h0, rfl, rfl⟩ ?_
  rintro _ ⟨x', y', h0', e, rfl⟩
  have h' := h0'.1
  have e0 := (List.cons.inj e).1; have e0r := (List.cons.inj e).2; have e1 := (List.cons.inj e0r).1; have e1r := (List.cons.inj e0r).2; have q0 := rV_inj (by first | assumption | exact h | exact h.1 | exact h.1.1 | exact h.1.1.1 | exact h.2 | exact h.2.1 | exact h.2.2 | exact h.2.2.1) (by first | assumption | exact h' | exact h'.1 | exact h'.1.1 | exact h'.1.1.1 | exact h'.2 | exact h'.2.1 | exact h'.2.2 | exact h'.2.2.1) e0; have q1 := rV_inj (by first | assumption | exact h | exact h.1 | exact h.1.1 | exact h.1.1.1 | exact h.2 | exact h.2.1 | exact h.2.2 | exact h.2.2.1) (by first | assumption | exact h' | exact h'.1 | exact h'.1.1 | exact h'.1.1.1 | exact h'.2 | exact h'.2.1 | exact h'.2.2 | exact h'.2.2.1) e1; subst q0; subst q1; first | rfl | exact ⟨rfl, rfl⟩

theorem w_Same (n : Nat) (ih_iSm' : ∀ xs v, iSm' n xs = some v → PCall Tryz.prog 50 xs v) (x y : Rx) (h : okX x ∧ okX y) (hn : sz x ≤ n) : PCall Tryz.prog 50 [rV x, rV y] (.bool (same x y)) := by
  obtain ⟨hx, hy⟩ := h
  have hcx := cR_eq x
  have hcy := cR_eq y
  have hs := hx.st
  have hl : (x.l.length < 9223372036854775808 ∧ y.l.length < 9223372036854775808) ∧ (∀ z ∈ x.l, okX z ∧ sz z < n) ∧ ∀ z ∈ y.l, okX z := ⟨⟨hx.len, hy.len⟩, fun z hz => ⟨hx.mem hz, by have := sz_mem hz; omega⟩, fun z hz => hy.mem hz⟩
  have he : abin Tryz.prog .eql 36 (setV x.s) (setV y.s) = some (.bool (decide (x.s = y.s))) := set_eql (by kernel_rfl) ti36 rfl ti34 rfl rfl hs hy.st
  rw [same_eq]
  refine PCall.of_w (fn := Tryz.f50) (Γ := gam [(50, .pure (iSm' n)), (65, .pure (iE_Rx 50 same (fun y => sz y < n)))]) (mu := false) (Sound.pure ih_iSm' (Sound.pure (iE_Rx_call fun a b h => ih_iSm' _ _ (iSm'_eq h)) Sound.nil)) mixed Tryz.func50 rfl (by kernel_rfl) (by simp) (by kernel_rfl) ?_
  (simp (disch := first | assumption | omega | exact okR_new | exact okR_one | exact trivial | (simp only [List.length_append, List.length_cons, List.length_nil]; omega) | (simp only [List.length_append, List.length_cons, List.length_nil, Nat.reduceAdd])) only [go_sem, e_bin_bool, Bool.true_and, Bool.and_true, Bool.false_and, Bool.and_false, Bool.true_or, Bool.or_true, Bool.false_or, Bool.or_false, Bool.not_eq_eq_eq_not, Bool.not_not, z_or, z_and, z_beq_t, z_beq_f, decide_eq_true_eq, decide_eq_false_iff_not, ite_not, Bool.not_eq_true', Bool.or_eq_true, Bool.and_eq_true, i_t, i_f, Tryz.f50, iSm'_eq, iE_Rx_eq, hcx, hcy, he] <;> (repeat' ((first | refine w_cond_cases ?_ ?_ | refine w_go_cases ?_ ?_ | refine w_pick_cases ?_ ?_) <;> intro hq <;> (try simp only [decide_eq_true_eq, decide_eq_false_iff_not, Bool.not_eq_true', Bool.not_eq_false', Bool.or_eq_true, Bool.and_eq_true, Bool.or_eq_false_iff, Bool.and_eq_false_iff, Bool.not_eq_eq_eq_not, Bool.not_true, Bool.not_false, Bool.not_not] at hq) <;> (first | simp (disch := first | assumption | omega | exact okR_new | exact okR_one | exact trivial | (simp only [List.length_append, List.length_cons, List.length_nil]; omega) | (simp only [List.length_append, List.length_cons, List.length_nil, Nat.reduceAdd])) only [show (_ : Bool) = true from hq, go_sem, e_bin_bool, Bool.true_and, Bool.and_true, Bool.false_and, Bool.and_false, Bool.true_or, Bool.or_true, Bool.false_or, Bool.or_false, Bool.not_eq_eq_eq_not, Bool.not_not, z_or, z_and, z_beq_t, z_beq_f, decide_eq_true_eq, decide_eq_false_iff_not, ite_not, Bool.not_eq_true', Bool.or_eq_true, Bool.and_eq_true, i_t, i_f, Tryz.f50, iSm'_eq, iE_Rx_eq, hcx, hcy, he] | simp (disch := first | assumption | omega | exact okR_new | exact okR_one | exact trivial | (simp only [List.length_append, List.length_cons, List.length_nil]; omega) | (simp only [List.length_append, List.length_cons, List.length_nil, Nat.reduceAdd])) only [show (_ : Bool) = false from hq, go_sem, e_bin_bool, Bool.true_and, Bool.and_true, Bool.false_and, Bool.and_false, Bool.true_or, Bool.or_true, Bool.false_or, Bool.or_false, Bool.not_eq_eq_eq_not, Bool.not_not, z_or, z_and, z_beq_t, z_beq_f, decide_eq_true_eq, decide_eq_false_iff_not, ite_not, Bool.not_eq_true', Bool.or_eq_true, Bool.and_eq_true, i_t, i_f, Tryz.f50, iSm'_eq, iE_Rx_eq, hcx, hcy, he] | simp (disch := first | assumption | omega | exact okR_new | exact okR_one | exact trivial | (simp only [List.length_append, List.length_cons, List.length_nil]; omega) | (simp only [List.length_append, List.length_cons, List.length_nil, Nat.reduceAdd])) only [go_sem, e_bin_bool, Bool.true_and, Bool.and_true, Bool.false_and, Bool.and_false, Bool.true_or, Bool.or_true, Bool.false_or, Bool.or_false, Bool.not_eq_eq_eq_not, Bool.not_not, z_or, z_and, z_beq_t, z_beq_f, decide_eq_true_eq, decide_eq_false_iff_not, ite_not, Bool.not_eq_true', Bool.or_eq_true, Bool.and_eq_true, i_t, i_f, Tryz.f50, iSm'_eq, iE_Rx_eq, hcx, hcy, he] | skip))))
  all_goals (clear hcx hcy he hl ih_iSm'; grind)
theorem iSm'_all : ∀ n xs v, iSm' n xs = some v → PCall Tryz.prog 50 xs v := by
  intro n
  induction n with
  | zero => intro xs v h0; obtain ⟨x, y, h, rfl, rfl⟩ := pimp_spec h0; exact absurd h.2 (Nat.not_lt_zero _)
  | succ n ih => intro xs v h0; obtain ⟨x, y, h, rfl, rfl⟩ := pimp_spec h0; exact w_Same n ih x y h.1 (Nat.le_of_lt_succ h.2)
noncomputable def iSm : List AVal → Option AVal := pimp fun xs r => ∃ (x : Rx) (y : Rx), (okX x ∧ okX y) ∧ xs = [rV x, rV y] ∧ r = .bool (same x y)
theorem iSm_eq {x : Rx} {y : Rx} (h : okX x ∧ okX y) : iSm [rV x, rV y] = some (.bool (same x y)) := pimp_eq ⟨x, y, h, rfl, rfl⟩ (by rintro _ ⟨x', y', h', e, rfl⟩; have e0 := (List.cons.inj e).1; have e0r := (List.cons.inj e).2; have e1 := (List.cons.inj e0r).1; have e1r := (List.cons.inj e0r).2; have q0 := rV_inj (by first | assumption | exact h | exact h.1 | exact h.1.1 | exact h.1.1.1 | exact h.2 | exact h.2.1 | exact h.2.2 | exact h.2.2.1) (by first | assumption | exact h' | exact h'.1 | exact h'.1.1 | exact h'.1.1.1 | exact h'.2 | exact h'.2.1 | exact h'.2.2 | exact h'.2.2.1) e0; have q1 := rV_inj (by first | assumption | exact h | exact h.1 | exact h.1.1 | exact h.1.1.1 | exact h.2 | exact h.2.1 | exact h.2.2 | exact h.2.2.1) (by first | assumption | exact h' | exact h'.1 | exact h'.1.1 | exact h'.1.1.1 | exact h'.2 | exact h'.2.1 | exact h'.2.2 | exact h'.2.2.1) e1; subst q0; subst q1; first | rfl | exact ⟨rfl, rfl⟩)
theorem iSm_call : ∀ xs v, iSm xs = some v → PCall Tryz.prog 50 xs v := fun xs v h0 => by obtain ⟨x, y, h, rfl, rfl⟩ := pimp_spec h0; exact iSm'_all (sz x + 1) _ _ (iSm'_eq ⟨h, Nat.lt_succ_self _⟩)
noncomputable def iSr2' (n : Nat) : List AVal → Option AVal := pimp fun xs r => ∃ (x : Rx) (y : Rx), ((okX x ∧ okX y) ∧ sz x < n) ∧ xs = [rV x, rV y] ∧ r = .bool (same x y)
theorem iSr2'_eq {n : Nat} {x : Rx} {y : Rx} (h0 : (okX x ∧ okX y) ∧ sz x < n) : iSr2' n [rV x, rV y] = some (.bool (same x y)) := by
  have h := h0.1
  refine pimp_eq ⟨x, y, h0, rfl, rfl⟩ ?_
  rintro _ ⟨x', y', h0', e, rfl⟩
  have h' := h0'.1
  have e0 := (List.cons.inj e).1; have e0r := (List.cons.inj e).2; have e1 := (List.cons.inj e0r).1; have e1r := (List.cons.inj e0r).2; have q0 := rV_inj (by first | assumption | exact h | exact h.1 | exact h.1.1 | exact h.1.1.1 | exact h.2 | exact h.2.1 | exact h.2.2 | exact h.2.2.1) (by first | assumption | exact h' | exact h'.1 | exact h'.1.1 | exact h'.1.1.1 | exact h'.2 | exact h'.2.1 | exact h'.2.2 | exact h'.2.2.1) e0; have q1 := rV_inj (by first | assumption | exact h | exact h.1 | exact h.1.1 | exact h.1.1.1 | exact h.2 | exact h.2.1 | exact h.2.2 | exact h.2.2.1) (by first | assumption | exact h' | exact h'.1 | exact h'.1.1 | exact h'.1.1.1 | exact h'.2 | exact h'.2.1 | exact h'.2.2 | exact h'.2.2.1) e1; subst q0; subst q1; first | rfl | exact ⟨rfl, rfl⟩
theorem w_SameR (n : Nat) (ih_iSr2' : ∀ xs v, iSr2' n xs = some v → PCall Tryz.prog 55 xs v) (x y : Rx) (h : okX x ∧ okX y) (hn : sz x ≤ n) : PCall Tryz.prog 55 [rV x, rV y] (.bool (same x y)) := by
  obtain ⟨hx, hy⟩ := h
  have hcx := cR_eq x
  have hcy := cR_eq y
  have hs := hx.st
  have hl := hx.len
  have hl' := hy.len
  have he : abin Tryz.prog .neq 36 (setV x.s) (setV y.s) = some (.bool (!decide (x.s = y.s))) := set_neq (by kernel_rfl) ti36 rfl ti34 rfl rfl hs hy.st
  rw [same_eq]
  refine PCall.of_w (fn := Tryz.f55) (Γ := gam [(55, .pure (iSr2' n))]) (mu := false) (Sound.pure ih_iSr2' Sound.nil) mixed Tryz.func55 rfl (by kernel_rfl) (by simp) (by kernel_rfl) ?_
  by_cases hh : x.k = y.k ∧ x.s = y.s ∧ x.lo = y.lo ∧ x.hi = y.hi ∧ x.l.length = y.l.length
  · obtain ⟨e1, e2, e3, e4, e5⟩ := hh
    have hb : decide (x.s = y.s) = true := by simp [e2]
    simp (disch := first | assumption | omega | exact okR_new | exact okR_one | exact trivial | (simp only [List.length_append, List.length_cons, List.length_nil]; omega) | (simp only [List.length_append, List.length_cons, List.length_nil, Nat.reduceAdd])) only [go_sem, e_go, e_cond_bool, e_w_bool, e_step_ite, e_reg_ite, e_regW_ite, e_code_ite, e_block_ite, e_evQ_ite, e_fin_ite, e_pair_ite, Tryz.f55, iSr2'_eq, hcx, hcy, he, hb]
    refine w_loop [4] [5] (fun i : Nat => x.l.length - i) (fun i => i ≤ x.l.length ∧ all2To same x.l y.l i = true) (fun i => ⟨[.cells 0 (cR x), .cells 0 (cR y)], []⟩)
      (fun i => [(5, .int .i64 (i : Nat))]) 0 (fun _ => rfl) (by kernel_rfl) ⟨Nat.zero_le _, all2To_zero⟩ (by simp only [hcx, hcy]) (by simp [HasE, lk]) ?_
    rintro i ⟨hi, hq⟩
    by_cases h : i < x.l.length
    · have hg : x.l[i]? = some x.l[i] := by simp [h]
      have hg' : y.l[i]? = some (y.l[i]'(by omega)) := by simp
      have hat := fl_at cR_len hg
      have hat' := fl_at cR_len hg'
      have hle : i * 8 + 8 ≤ x.l.length * 8 := by omega
      have hle' : i * 8 + 8 ≤ y.l.length * 8 := by omega
      have hok : (okX x.l[i] ∧ okX (y.l[i]'(by omega))) ∧ sz x.l[i] < n := ⟨⟨hx.kid hg, hy.kid hg'⟩, by have := sz_kid hg; omega⟩
      cases hp : same x.l[i] (y.l[i]'(by omega))
      · have hn := all2_not e5 hg hg' hp
        simp (disch := first | assumption | omega | exact okR_new | exact okR_one | exact trivial | (simp only [List.length_append, List.length_cons, List.length_nil]; omega) | (simp only [List.length_append, List.length_cons, List.length_nil, Nat.reduceAdd])) only [go_sem, e_go, e_cond_bool, e_w_bool, e_step_ite, e_reg_ite, e_regW_ite, e_code_ite, e_block_ite, e_evQ_ite, e_fin_ite, e_pair_ite, Tryz.f55, iSr2'_eq, hcx, hcy, hat, hat', hp, hn] <;> simp
      · simp (disch := first | assumption | omega | exact okR_new | exact okR_one | exact trivial | (simp only [List.length_append, List.length_cons, List.length_nil]; omega) | (simp only [List.length_append, List.length_cons, List.length_nil, Nat.reduceAdd])) only [go_sem, e_go, e_cond_bool, e_w_bool, e_step_ite, e_reg_ite, e_regW_ite, e_code_ite, e_block_ite, e_evQ_ite, e_fin_ite, e_pair_ite, Tryz.f55, iSr2'_eq, hcx, hcy, hat, hat', hp]
        exact ⟨i + 1, dn h, ⟨h, all2To_step hq hg hg' hp⟩, by simp only [hcx, hcy], by simp [HasE, lk]⟩
    · have hi' : i = x.l.length := by omega
      subst hi'
      rw [all2To_all e5] at hq
      simp (disch := first | assumption | omega | exact okR_new | exact okR_one | exact trivial | (simp only [List.length_append, List.length_cons, List.length_nil]; omega) | (simp only [List.length_append, List.length_cons, List.length_nil, Nat.reduceAdd])) only [go_sem, e_go, e_cond_bool, e_w_bool, e_step_ite, e_reg_ite, e_regW_ite, e_code_ite, e_block_ite, e_evQ_ite, e_fin_ite, e_pair_ite, Tryz.f55, iSr2'_eq, hcx, hq] <;> simp [e1, e2, e3, e4, e5]
  · by_cases hb : x.s = y.s
    · have hb' : decide (x.s = y.s) = true := by simp [hb]
      (simp (disch := first | assumption | omega | exact okR_new | exact okR_one | exact trivial | (simp only [List.length_append, List.length_cons, List.length_nil]; omega) | (simp only [List.length_append, List.length_cons, List.length_nil, Nat.reduceAdd])) only [go_sem, e_bin_bool, Bool.true_and, Bool.and_true, Bool.false_and, Bool.and_false, Bool.true_or, Bool.or_true, Bool.false_or, Bool.or_false, Bool.not_eq_eq_eq_not, Bool.not_not, z_or, z_and, z_beq_t, z_beq_f, decide_eq_true_eq, decide_eq_false_iff_not, ite_not, Bool.not_eq_true', Bool.or_eq_true, Bool.and_eq_true, i_t, i_f, Tryz.f55, iSr2'_eq, hcx, hcy, he, hb'] <;> (repeat' ((first | refine w_cond_cases ?_ ?_ | refine w_go_cases ?_ ?_ | refine w_pick_cases ?_ ?_) <;> intro hq <;> (try simp only [decide_eq_true_eq, decide_eq_false_iff_not, Bool.not_eq_true', Bool.not_eq_false', Bool.or_eq_true, Bool.and_eq_true, Bool.or_eq_false_iff, Bool.and_eq_false_iff, Bool.not_eq_eq_eq_not, Bool.not_true, Bool.not_false, Bool.not_not] at hq) <;> (first | simp (disch := first | assumption | omega | exact okR_new | exact okR_one | exact trivial | (simp only [List.length_append, List.length_cons, List.length_nil]; omega) | (simp only [List.length_append, List.length_cons, List.length_nil, Nat.reduceAdd])) only [show (_ : Bool) = true from hq, go_sem, e_bin_bool, Bool.true_and, Bool.and_true, Bool.false_and, Bool.and_false, Bool.true_or, Bool.or_true, Bool.false_or, Bool.or_false, Bool.not_eq_eq_eq_not, Bool.not_not, z_or, z_and, z_beq_t, z_beq_f, decide_eq_true_eq, decide_eq_false_iff_not, ite_not, Bool.not_eq_true', Bool.or_eq_true, Bool.and_eq_true, i_t, i_f, Tryz.f55, iSr2'_eq, hcx, hcy, he, hb'] | simp (disch := first | assumption | omega | exact okR_new | exact okR_one | exact trivial | (simp only [List.length_append, List.length_cons, List.length_nil]; omega) | (simp only [List.length_append, List.length_cons, List.length_nil, Nat.reduceAdd])) only [show (_ : Bool) = false from hq, go_sem, e_bin_bool, Bool.true_and, Bool.and_true, Bool.false_and, Bool.and_false, Bool.true_or, Bool.or_true, Bool.false_or, Bool.or_false, Bool.not_eq_eq_eq_not, Bool.not_not, z_or, z_and, z_beq_t, z_beq_f, decide_eq_true_eq, decide_eq_false_iff_not, ite_not, Bool.not_eq_true', Bool.or_eq_true, Bool.and_eq_true, i_t, i_f, Tryz.f55, iSr2'_eq, hcx, hcy, he, hb'] | simp (disch := first | assumption | omega | exact okR_new | exact okR_one | exact trivial | (simp only [List.length_append, List.length_cons, List.length_nil]; omega) | (simp only [List.length_append, List.length_cons, List.length_nil, Nat.reduceAdd])) only [go_sem, e_bin_bool, Bool.true_and, Bool.and_true, Bool.false_and, Bool.and_false, Bool.true_or, Bool.or_true, Bool.false_or, Bool.or_false, Bool.not_eq_eq_eq_not, Bool.not_not, z_or, z_and, z_beq_t, z_beq_f, decide_eq_true_eq, decide_eq_false_iff_not, ite_not, Bool.not_eq_true', Bool.or_eq_true, Bool.and_eq_true, i_t, i_f, Tryz.f55, iSr2'_eq, hcx, hcy, he, hb'] | skip))))
      all_goals (clear hcx hcy he ih_iSr2'; grind)
    · have hb' : decide (x.s = y.s) = false := by simp [hb]
      (simp (disch := first | assumption | omega | exact okR_new | exact okR_one | exact trivial | (simp only [List.length_append, List.length_cons, List.length_nil]; omega) | (simp only [List.length_append, List.length_cons, List.length_nil, Nat.reduceAdd])) only [go_sem, e_bin_bool, Bool.true_and, Bool.and_true, Bool.false_and, Bool.and_false, Bool.true_or, Bool.or_true, Bool.false_or, Bool.or_false, Bool.not_eq_eq_eq_not, Bool.not_not, z_or, z_and, z_beq_t, z_beq_f, decide_eq_true_eq, decide_eq_false_iff_not, ite_not, Bool.not_eq_true', Bool.or_eq_true, Bool.and_eq_true, i_t, i_f, Tryz.f55, iSr2'_eq, hcx, hcy, he, hb'] <;> (repeat' ((first | refine w_cond_cases ?_ ?_ | refine w_go_cases ?_ ?_ | refine w_pick_cases ?_ ?_) <;> intro hq <;> (try simp only [decide_eq_true_eq, decide_eq_false_iff_not, Bool.not_eq_true', Bool.not_eq_false', Bool.or_eq_true, Bool.and_eq_true, Bool.or_eq_false_iff, Bool.and_eq_false_iff, Bool.not_eq_eq_eq_not, Bool.not_true, Bool.not_false, Bool.not_not] at hq) <;> (first | simp (disch := first | assumption | omega | exact okR_new | exact okR_one | exact trivial | (simp only [List.length_append, List.length_cons, List.length_nil]; omega) | (simp only [List.length_append, List.length_cons, List.length_nil, Nat.reduceAdd])) only [show (_ : Bool) = true from hq, go_sem, e_bin_bool, Bool.true_and, Bool.and_true, Bool.false_and, Bool.and_false, Bool.true_or, Bool.or_true, Bool.false_or, Bool.or_false, Bool.not_eq_eq_eq_not, Bool.not_not, z_or, z_and, z_beq_t, z_beq_f, decide_eq_true_eq, decide_eq_false_iff_not, ite_not, Bool.not_eq_true', Bool.or_eq_true, Bool.and_eq_true, i_t, i_f, Tryz.f55, iSr2'_eq, hcx, hcy, he, hb'] | simp (disch := first | assumption | omega | exact okR_new | exact okR_one | exact trivial | (simp only [List.length_append, List.length_cons, List.length_nil]; omega) | (simp only [List.length_append, List.length_cons, List.length_nil, Nat.reduceAdd])) only [show (_ : Bool) = false from hq, go_sem, e_bin_bool, Bool.true_and, Bool.and_true, Bool.false_and, Bool.and_false, Bool.true_or, Bool.or_true, Bool.false_or, Bool.or_false, Bool.not_eq_eq_eq_not, Bool.not_not, z_or, z_and, z_beq_t, z_beq_f, decide_eq_true_eq, decide_eq_false_iff_not, ite_not, Bool.not_eq_true', Bool.or_eq_true, Bool.and_eq_true, i_t, i_f, Tryz.f55, iSr2'_eq, hcx, hcy, he, hb'] | simp (disch := first | assumption | omega | exact okR_new | exact okR_one | exact trivial | (simp only [List.length_append, List.length_cons, List.length_nil]; omega) | (simp only [List.length_append, List.length_cons, List.length_nil, Nat.reduceAdd])) only [go_sem, e_bin_bool, Bool.true_and, Bool.and_true, Bool.false_and, Bool.and_false, Bool.true_or, Bool.or_true, Bool.false_or, Bool.or_false, Bool.not_eq_eq_eq_not, Bool.not_not, z_or, z_and, z_beq_t, z_beq_f, decide_eq_true_eq, decide_eq_false_iff_not, ite_not, Bool.not_eq_true', Bool.or_eq_true, Bool.and_eq_true, i_t, i_f, Tryz.f55, iSr2'_eq, hcx, hcy, he, hb'] | skip))))
      all_goals (clear hcx hcy he ih_iSr2'; grind)
theorem iSr2'_all : ∀ n xs v, iSr2' n xs = some v → PCall Tryz.prog 55 xs v := by
  intro n
  induction n with
  | zero => intro xs v h0; obtain ⟨x, y, h, rfl, rfl⟩ := pimp_spec h0; exact absurd h.2 (Nat.not_lt_zero _)
  | succ n ih => intro xs v h0; obtain ⟨x, y, h, rfl, rfl⟩ := pimp_spec h0; exact w_SameR n ih x y h.1 (Nat.le_of_lt_succ h.2)
noncomputable def iSmR : List AVal → Option AVal := pimp fun xs r => ∃ (x : Rx) (y : Rx), (okX x ∧ okX y) ∧ xs = [rV x, rV y] ∧ r = .bool (same x y)
theorem iSmR_eq {x : Rx} {y : Rx} (h : okX x ∧ okX y) : iSmR [rV x, rV y] = some (.bool (same x y)) := pimp_eq ⟨x, y, h, rfl, rfl⟩ (by rintro _ ⟨x', y', h', e, rfl⟩; have e0 := (List.cons.inj e).1; have e0r := (List.cons.inj e).2; have e1 := (List.cons.inj e0r).1; have e1r := (List.cons.inj e0r).2; have q0 := rV_inj (by first | assumption | exact h | exact h.1 | exact h.1.1 | exact h.1.1.1 | exact h.2 | exact h.2.1 | exact h.2.2 | exact h.2.2.1) (by first | assumption | exact h' | exact h'.1 | exact h'.1.1 | exact h'.1.1.1 | exact h'.2 | exact h'.2.1 | exact h'.2.2 | exact h'.2.2.1) e0; have q1 := rV_inj (by first | assumption | exact h | exact h.1 | exact h.1.1 | exact h.1.1.1 | exact h.2 | exact h.2.1 | exact h.2.2 | exact h.2.2.1) (by first | assumption | exact h' | exact h'.1 | exact h'.1.1 | exact h'.1.1.1 | exact h'.2 | exact h'.2.1 | exact h'.2.2 | exact h'.2.2.1) e1; subst q0; subst q1; first | rfl | exact ⟨rfl, rfl⟩)
theorem iSmR_call : ∀ xs v, iSmR xs = some v → PCall Tryz.prog 55 xs v := fun xs v h0 => by obtain ⟨x, y, h, rfl, rfl⟩ := pimp_spec h0; exact iSr2'_all (sz x + 1) _ _ (iSr2'_eq ⟨h, Nat.lt_succ_self _⟩)
end Go.Hk.DZD
