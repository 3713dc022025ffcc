/- Layer 3: texts of patterns. -/
import Derived.Test.YtpbepclmcjmlbaaGreatDoorHkDZDR6
set_option linter.unusedSimpArgs false
set_option linter.unusedVariables false
namespace Go.Hk.DZD
open Go.Proofs
theorem ti118 : tiOf Tryz.prog 118 = some { size := 1, bytes := 8, zero := some (.nilm), k := .map 3 9 } := by kernel_rfl
attribute [go_sem] ti118
abbrev okT (x : Rx) : Prop := (okS x ∧ inR x) ∧ (text x).length < 1000000000
theorem okT.kid {x y : Rx} (h : okT x) (hy : y ∈ x.l) : okT y := ⟨⟨h.1.1.mem hy, h.1.2.kid hy⟩, Nat.lt_of_le_of_lt (text_kid h.1.2 hy) h.2⟩
noncomputable def iTx' (n : Nat) : List AVal → Option AVal := pimp fun xs r => ∃ (x : Rx), ((okT x) ∧ sz x < n) ∧ xs = [rV x] ∧ r = .str (text x)
theorem iTx'_eq {n : Nat} {x : Rx} (h0 : (okT x) ∧ sz x < n) : iTx' n [rV x] = some (.str (text x)) := by
  have h := h0.1
  refine pimp_eq ⟨x, h0, rfl, rfl⟩ ?_
  rintro _ ⟨x', h0', e, rfl⟩
  have h' := h0'.1
  have e0 := (List.cons.inj e).1; have e0r := (List.cons.inj e).2; have q0 := rV_inj (by first | assumption | exact h | exact h.1 | exact h.1.1 | exact h.1.1.1 | exact h.2 | exact h.2.1 | exact h.2.2 | exact h.2.2.1) (by first | assumption | exact h' | exact h'.1 | exact h'.1.1 | exact h'.1.1.1 | exact h'.2 | exact h'.2.1 | exact h'.2.2 | exact h'.2.2.1) e0; subst q0; first | rfl | exact ⟨rfl, rfl⟩
theorem w_part (n : Nat) (ih_iTx' : ∀ xs v, iTx' n xs = some v → PCall Tryz.prog 84 xs v) (y : Rx) (ks : List Int) (h : (okT y ∧ sz y < n) ∧ ks.length < 1000000) : PCall Tryz.prog 89 [rV y, slc cI ks] (.str (par (ks.any fun a => decide (y.k = a)) (text y))) := by
  obtain ⟨hok, hl⟩ := h
  have hc := cR_eq y
  have hlen := hok.1.2
  refine PCall.of_w (fn := Tryz.f89) (Γ := gam [(30, .pure iCn), (84, .pure (iTx' n))]) (mu := false) (Sound.pure iCn_call (Sound.pure ih_iTx' Sound.nil)) mixed Tryz.func89 rfl (by kernel_rfl) (by simp) (by kernel_rfl) ?_
  cases hb : ks.any fun a => decide (y.k = a) <;>
  · simp (disch := first | assumption | omega | exact okR_new | exact okR_one | exact trivial | (simp only [List.length_append, List.length_cons, List.length_nil]; omega) | (simp only [List.length_append, List.length_cons, List.length_nil, Nat.reduceAdd])) only [go_sem, e_go, e_cond_bool, e_w_bool, e_step_ite, e_reg_ite, e_regW_ite, e_code_ite, e_block_ite, e_evQ_ite, e_fin_ite, e_pair_ite, Tryz.f89, iCn_eq, iTx'_eq, hc, hb]
    simp [par]
noncomputable def iPt (n : Nat) : List AVal → Option AVal := pimp fun xs r => ∃ (y : Rx) (ks : List Int), ((okT y ∧ sz y < n) ∧ ks.length < 1000000) ∧ xs = [rV y, slc cI ks] ∧ r = .str (par (ks.any fun a => decide (y.k = a)) (text y))
theorem iPt_eq {n : Nat} {y : Rx} {ks : List Int} (h : (okT y ∧ sz y < n) ∧ ks.length < 1000000) : iPt n [rV y, slc cI ks] = some (.str (par (ks.any fun a => decide (y.k = a)) (text y))) :=
  pimp_eq ⟨y, ks, h, rfl, rfl⟩ (by
    rintro _ ⟨y', ks', h', e, rfl⟩
    rw [rV_inj h.1.1.1.1 h'.1.1.1.1 (List.cons.inj e).1, slc_inj cI_len (fun _ _ _ _ => cI_inj) (List.cons.inj (List.cons.inj e).2).1])
theorem iPt_call (n : Nat) (ih_iTx' : ∀ xs v, iTx' n xs = some v → PCall Tryz.prog 84 xs v) : ∀ xs v, iPt n xs = some v → PCall Tryz.prog 89 xs v := fun xs v h0 => by obtain ⟨y, ks, h, rfl, rfl⟩ := pimp_spec h0; exact w_part n ih_iTx' y ks h
theorem iPt_eq4 {n : Nat} {y : Rx} (h : okT y ∧ sz y < n) : iPt n [rV y, .sl .no 1 [.int .i64 4]] = some (.str (kidT 3 y)) := by
  have := iPt_eq (ks := [4]) ⟨h, by simp⟩
  have e : (([4] : List Int).any fun a => decide (y.k = a)) = pk 3 y.k := by simp [pk]
  rw [e] at this
  exact this
theorem iPt_eq3 {n : Nat} {y : Rx} (h : okT y ∧ sz y < n) : iPt n [rV y, .sl .no 3 [.int .i64 3, .int .i64 4, .int .i64 5]] = some (.str (kidT 5 y)) := by
  have := iPt_eq (ks := [3, 4, 5]) ⟨h, by simp⟩
  have hk := h.1.1.2.cases
  have e : (([3, 4, 5] : List Int).any fun a => decide (y.k = a)) = pk 5 y.k := by
    simp only [pk, List.any_cons, List.any_nil, Bool.or_false, if_true]
    rw [Bool.eq_iff_iff]
    simp only [Bool.or_eq_true, decide_eq_true_eq]
    omega
  rw [e] at this
  exact this

theorem apL_T : appT Tryz.prog 97 97 = some ⟨9, 1, 16⟩ := by kernel_rfl
theorem apL_one {H : List ABlk} {T : List (Nat × (Nat × Nat))} {r r' : Rt} {l} {x} (hr : okR T r l.length (1, 9) = true) (hn : l.length + 1 < 1000000000) : aappend Tryz.prog 97 97 ⟨H, T⟩ (.sl r l.length (fl cS l)) (.sl r' 1 (cS x)) = some (.sl (nxR T r) (l ++ [x]).length (fl cS (l ++ [x])), ⟨H, nxT T r (l ++ [x]).length (1, 9)⟩) := app_fl1 apL_T (by decide) cS_len rfl hr hn
theorem apL_mk (mu : Bool) (m : AMem) {x} : abuildSlice Tryz.prog mu m 97 1 [(0, .str x)] = some (.sl .full 1 (cS x), m) := build_one ti97 ti9 rfl rfl (cS_len x) rfl (by decide) (by decide)
theorem bI1 {m : AMem} {a : Int} : abuildSlice Tryz.prog false m 33 1 [(0, .int .i64 a)] = some (.sl .full 1 [.int .i64 a], m) := build_one ti33 ti3 rfl rfl rfl rfl (by decide) (by decide)
theorem bI3 {m : AMem} {a b c : Int} : abuildSlice Tryz.prog false m 33 3 [(0, .int .i64 a), (1, .int .i64 b), (2, .int .i64 c)] = some (.sl .full 3 [.int .i64 a, .int .i64 b, .int .i64 c], m) := build_seq (mu := false) (vs := [.int .i64 a, .int .i64 b, .int .i64 c]) ti33 rfl ti3 rfl rfl (by decide) rfl (by decide)
theorem bar_put {e0 : Nat} {cs0 : List AVal} {T : List (Nat × (Nat × Nat))} : amput Tryz.prog 118 ⟨[.cells e0 cs0, .amap []], T⟩ (.map 1) (.int .i64 4) (.str [124]) = some (.undef, ⟨[.cells e0 cs0, .amap [(.int .i64 4, .str [124])]], T⟩) := by
  simp [amput, ti118, ti3, akey, afind, noIt, noIt1]
theorem bar_look {c0 : ABlk} {T : List (Nat × (Nat × Nat))} {k : Int} : alookup Tryz.prog 118 ⟨[c0, .amap [(.int .i64 4, .str [124])]], T⟩ (.map 1) (.int .i64 k) false = some (.str (sepK k)) := by
  have hk : akey Tryz.prog 20 3 (.int .i64 k) = true := by simp [akey, ti3]
  have hq : aeq Tryz.prog 20 3 (.int .i64 k) (.int .i64 4) = some (k == 4) := by simp [aeq, ti3]
  unfold sepK
  simp only [alookup, ti118, ti9, List.getElem?_cons_succ, List.getElem?_cons_zero, hk, if_true, afind, hq]
  by_cases h : k = 4
  · subst h; rfl
  · have hb : (k == 4) = false := by simp [h]
    rw [hb, if_neg h]; rfl
theorem w_text (n : Nat) (ih_iTx' : ∀ xs v, iTx' n xs = some v → PCall Tryz.prog 84 xs v) (x : Rx) (h : okT x) (hn : sz x ≤ n) : PCall Tryz.prog 84 [rV x] (.str (text x)) := by
  have hx := h.1.1
  have hc := cR_eq x
  have hr := h.1.2
  have hl := hx.len
  have hlen := h.2
  have hst := hx.st
  rw [text_eq] at hlen ⊢
  refine PCall.of_w (fn := Tryz.f84) (Γ := gam [(61, .pure iJn), (84, .pure (iTx' n)), (87, .pure iBy), (88, .pure iIt), (89, .pure (iPt n))]) (mu := false) (Sound.pure iJn_call (Sound.pure ih_iTx' (Sound.pure iBy_call (Sound.pure iIt_call (Sound.pure (iPt_call n ih_iTx') Sound.nil))))) mixed Tryz.func84 rfl (by kernel_rfl) (by simp) (by kernel_rfl) ?_
  rcases hr.cases with ⟨hk, _⟩ | ⟨hk, _, _⟩ | ⟨hk, _, hl2⟩ | ⟨hk, _, ht, y, hy⟩
  · rw [hk] at hlen ⊢
    simp (disch := first | assumption | omega | exact okR_new | exact okR_one | exact trivial | (simp only [List.length_append, List.length_cons, List.length_nil]; omega) | (simp only [List.length_append, List.length_cons, List.length_nil, Nat.reduceAdd])) only [go_sem, e_go, e_cond_bool, e_w_bool, e_step_ite, e_reg_ite, e_regW_ite, e_code_ite, e_block_ite, e_evQ_ite, e_fin_ite, e_pair_ite, Tryz.f84, iJn_eq, iTx'_eq, iBy_eq, iIt_eq, iPt_eq3, iPt_eq4, hc, hk]
    rfl
  · rw [hk] at hlen ⊢
    simp (disch := first | assumption | omega | exact okR_new | exact okR_one | exact trivial | (simp only [List.length_append, List.length_cons, List.length_nil]; omega) | (simp only [List.length_append, List.length_cons, List.length_nil, Nat.reduceAdd])) only [go_sem, e_go, e_cond_bool, e_w_bool, e_step_ite, e_reg_ite, e_regW_ite, e_code_ite, e_block_ite, e_evQ_ite, e_fin_ite, e_pair_ite, Tryz.f84, iJn_eq, iTx'_eq, iBy_eq, iIt_eq, iPt_eq3, iPt_eq4, hc, hk]
  · rw [if_neg (by omega), if_neg (by omega), if_pos hk] at hlen ⊢
    have hkid : ∀ y ∈ x.l, okT y ∧ sz y < n := fun y hy => ⟨h.kid hy, by have := sz_mem hy; omega⟩
    have hJ : okJ (sepK x.k) (x.l.map (kidT x.k)) := ⟨by simpa using hl, fun s hs => by
      obtain ⟨y, hy, rfl⟩ := List.mem_map.1 hs
      exact par_pos (text_pos y (hr.kid hy)), hlen⟩
    rcases hk with hk | hk <;>
    · rw [hk] at hlen hJ ⊢
      simp (disch := first | assumption | omega | exact okR_new | exact okR_one | exact trivial | (simp only [List.length_append, List.length_cons, List.length_nil]; omega) | (simp only [List.length_append, List.length_cons, List.length_nil, Nat.reduceAdd])) only [go_sem, e_go, e_cond_bool, e_w_bool, e_step_ite, e_reg_ite, e_regW_ite, e_code_ite, e_block_ite, e_evQ_ite, e_fin_ite, e_pair_ite, Tryz.f84, iJn_eq, iTx'_eq, iBy_eq, iIt_eq, iPt_eq3, iPt_eq4, hc, hk]
      refine w_loopc [] [4, 43] (fun x' : Ls => x.l.length - x'.i) (fun x' => x'.i ≤ x.l.length ∧ okR x'.T x'.r ((x.l.take x'.i).map (kidT x.k)).length (1, 9) = true) (fun x' => ⟨[.cells 0 (cR x)], x'.T⟩)
        (fun x' => [(4, .sl x'.r ((x.l.take x'.i).map (kidT x.k)).length (fl cS ((x.l.take x'.i).map (kidT x.k)))), (43, .int .i64 (x'.i : Nat))]) ⟨0, .nil, []⟩ (fun _ => rfl) (by kernel_rfl) ⟨Nat.zero_le _, by simp [okR]⟩ ⟨[], [], by simp only [hc, hk, List.append_nil]⟩ (by simp [HasE, lk, fl]) ?_ ?_
      · rintro ⟨i, r, T⟩ ⟨_, hr'⟩
        have hcl := c_okR hr' (Nat.le_refl _)
        simp only at hcl
        simp (disch := assumption) [cloE, clo, cloL, cloB, c_Rno, c_Rfull, c_append, c_cR, c_flR, c_rV, c_flS, hcl, c_Rnil]
      rintro ⟨i, r, T⟩ ⟨hi, hr'⟩
      simp only at hi hr'
      by_cases h : i < x.l.length
      · have hg : x.l[i]? = some x.l[i] := by simp [h]
        have hat := fl_at cR_len hg
        have hle : i * 8 + 8 ≤ x.l.length * 8 := by omega
        have hok := hkid _ (List.getElem_mem h)
        have hnx : (x.l.take (i + 1)).map (kidT x.k) = (x.l.take i).map (kidT x.k) ++ [kidT x.k x.l[i]] := by rw [List.take_succ_eq_append_getElem h, List.map_append]; rfl
        have hml : ((x.l.take i).map (kidT x.k)).length = i := by rw [List.length_map, List.length_take]; omega
        have hkt : kidT 4 x.l[i] = text x.l[i] := by simp [kidT, pk, par]
        rw [hk] at hnx hr' hml ⊢
        try rw [hkt] at hnx
        generalize hM : (x.l.take i).map (kidT _) = M at *
        have hml2 : M.length + 1 < 1000000000 := by omega
        simp (disch := first | assumption | omega | exact okR_new | exact okR_one | exact trivial | (simp only [List.length_append, List.length_cons, List.length_nil]; omega) | (simp only [List.length_append, List.length_cons, List.length_nil, Nat.reduceAdd])) only [go_sem, e_go, e_cond_bool, e_w_bool, e_step_ite, e_reg_ite, e_regW_ite, e_code_ite, e_block_ite, e_evQ_ite, e_fin_ite, e_pair_ite, Tryz.f84, iJn_eq, iTx'_eq, iBy_eq, iIt_eq, iPt_eq3, iPt_eq4, hc, hk, hat, bI1, apL_mk, apL_one]
        refine ⟨⟨i + 1, nxR T r, nxT T r (M.length + 1) (1, 9)⟩, ?_, ⟨h, ?_⟩, ⟨[.cells 0 (cR x.l[i])], [], ?_⟩, ?_⟩
        · show x.l.length - (i + 1) < x.l.length - i
          omega
        · show okR _ _ (List.map _ (x.l.take (i + 1))).length _ = true
          rw [hnx, List.length_append]; exact okR_nx hr'
        · simp only [hc, hk, List.append_nil, List.cons_append, List.nil_append, List.length_append, List.length_cons, List.length_nil]
        · simp only [HasE, lk, hk, hnx]; simp
      · have hi' : i = x.l.length := by omega
        subst hi'
        rw [List.take_length] at hr'
        rw [hk] at hr'
        simp (disch := first | assumption | omega | exact okR_new | exact okR_one | exact trivial | (simp only [List.length_append, List.length_cons, List.length_nil]; omega) | (simp only [List.length_append, List.length_cons, List.length_nil, Nat.reduceAdd])) only [go_sem, e_go, e_cond_bool, e_w_bool, e_step_ite, e_reg_ite, e_regW_ite, e_code_ite, e_block_ite, e_evQ_ite, e_fin_ite, e_pair_ite, Tryz.f84, iJn_eq, iTx'_eq, iBy_eq, iIt_eq, iPt_eq3, iPt_eq4, hc, hk, List.take_length, bar_put, bar_look]
  · rw [if_neg (by omega), if_pos hk] at hlen ⊢
    rw [hk] at hlen ⊢
    have hym : y ∈ x.l := by rw [hy]; simp
    have hkid : okT y ∧ sz y < n := ⟨h.kid hym, by have := sz_mem hym; omega⟩
    have hl1 : x.l.length = 1 := by rw [hy]; rfl
    have hat : List.take 8 (fl cR x.l) = cR y := by rw [hy, fl_one]; exact l_take_cR
    have hj : joinS [] (x.l.map (kidT 5)) = kidT 5 y := by rw [hy]; simp [joinS, jt]
    rw [hj] at hlen ⊢
    have hb1 : 0 ≤ x.lo ∧ x.lo ≤ 20 := by
      unfold times at ht
      simp only [Bool.and_eq_true, decide_eq_true_eq] at ht
      omega
    have hb2 : x.hi ≤ 20 := by
      unfold times at ht
      simp only [Bool.and_eq_true, Bool.or_eq_true, decide_eq_true_eq] at ht
      omega
    have hi1 := (@itoa_len x.lo).2
    have hi2 := (@itoa_len x.hi).2
    have hkl : (kidT 5 y).length < 1000000000 := by
      simp only [List.length_append] at hlen
      omega
    by_cases h0 : 0 ≤ x.hi
    · have hb3 : 0 ≤ x.hi ∧ x.hi ≤ 20 := ⟨h0, hb2⟩
      have e : tail5 x.lo x.hi = [123] ++ itoa x.lo ++ [44] ++ itoa x.hi ++ [125] := by unfold tail5; rw [if_pos h0]
      rw [e]
      simp (disch := first | assumption | omega | exact okR_new | exact okR_one | exact trivial | (simp only [List.length_append, List.length_cons, List.length_nil]; omega) | (simp only [List.length_append, List.length_cons, List.length_nil, Nat.reduceAdd])) only [go_sem, e_go, e_cond_bool, e_w_bool, e_step_ite, e_reg_ite, e_regW_ite, e_code_ite, e_block_ite, e_evQ_ite, e_fin_ite, e_pair_ite, Tryz.f84, iJn_eq, iTx'_eq, iBy_eq, iIt_eq, iPt_eq3, iPt_eq4, hc, hk, hat, hl1, bI3]
      simp
    · have e : tail5 x.lo x.hi = [123] ++ itoa x.lo ++ [44] ++ [] ++ [125] := by unfold tail5; rw [if_neg h0]
      rw [e]
      simp (disch := first | assumption | omega | exact okR_new | exact okR_one | exact trivial | (simp only [List.length_append, List.length_cons, List.length_nil]; omega) | (simp only [List.length_append, List.length_cons, List.length_nil, Nat.reduceAdd])) only [go_sem, e_go, e_cond_bool, e_w_bool, e_step_ite, e_reg_ite, e_regW_ite, e_code_ite, e_block_ite, e_evQ_ite, e_fin_ite, e_pair_ite, Tryz.f84, iJn_eq, iTx'_eq, iBy_eq, iIt_eq, iPt_eq3, iPt_eq4, hc, hk, hat, hl1, bI3]
      simp
theorem iTx'_all : ∀ n xs v, iTx' n xs = some v → PCall Tryz.prog 84 xs v := by
  intro n
  induction n with
  | zero => intro xs v h0; obtain ⟨x, h, rfl, rfl⟩ := pimp_spec h0; exact absurd h.2 (Nat.not_lt_zero _)
  | succ n ih => intro xs v h0; obtain ⟨x, h, rfl, rfl⟩ := pimp_spec h0; exact w_text n ih x h.1 (Nat.le_of_lt_succ h.2)
noncomputable def iTx : List AVal → Option AVal := pimp fun xs r => ∃ (x : Rx), (okT x) ∧ xs = [rV x] ∧ r = .str (text x)
theorem iTx_eq {x : Rx} (h : okT x) : iTx [rV x] = some (.str (text x)) := pimp_eq ⟨x, h, rfl, rfl⟩ (by rintro _ ⟨x', h', e, rfl⟩; have e0 := (List.cons.inj e).1; have e0r := (List.cons.inj e).2; have q0 := rV_inj (by first | assumption | exact h | exact h.1 | exact h.1.1 | exact h.1.1.1 | exact h.2 | exact h.2.1 | exact h.2.2 | exact h.2.2.1) (by first | assumption | exact h' | exact h'.1 | exact h'.1.1 | exact h'.1.1.1 | exact h'.2 | exact h'.2.1 | exact h'.2.2 | exact h'.2.2.1) e0; subst q0; first | rfl | exact ⟨rfl, rfl⟩)
theorem iTx_call : ∀ xs v, iTx xs = some v → PCall Tryz.prog 84 xs v := fun xs v h0 => by obtain ⟨x, h, rfl, rfl⟩ := pimp_spec h0; exact iTx'_all (sz x + 1) _ _ (iTx'_eq ⟨h, Nat.lt_succ_self _⟩)
end Go.Hk.DZD
