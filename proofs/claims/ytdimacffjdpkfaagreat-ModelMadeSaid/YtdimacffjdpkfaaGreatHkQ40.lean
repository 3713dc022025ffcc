import Derived.Test.YtdimacffjdpkfaaGreatHkQ39
set_option linter.unusedSimpArgs false
set_option linter.unusedVariables false
set_option maxRecDepth 20000
namespace Go.Hk.MZ
open Go.Proofs
theorem ti75 : tiOf Tryz.prog 75 = some { size := 1, bytes := 8, zero := some (.nilf), k := .func } := by kernel_rfl
attribute [go_sem] ti75
theorem ti76 : tiOf Tryz.prog 76 = some { size := 1, bytes := 8, zero := some (.nilf), k := .func } := by kernel_rfl
attribute [go_sem] ti76
theorem ti100 : tiOf Tryz.prog 100 = some { size := 1, bytes := 8, zero := some (.nilf), k := .func } := by kernel_rfl
attribute [go_sem] ti100
theorem w_may (G : List ABlk) (T : List (Nat × (Nat × Nat))) (s : Sp) (c : Int) (b : Bool) (hs : shut ⟨G, T⟩ = true) :
    RCall Tryz.prog 33 [sV s, .int .i64 c, .bool b] ⟨G, T⟩ (.fn 54 [] [.ptr G.length 0 0, .ptr (G.length + 2) 0 0, .ptr (G.length + 1) 0 0]) ⟨G ++ [.cells 0 (cSp s), .cells 0 [.int .i64 c], .cells 0 [.bool b]], T⟩ := by
  have hcs := cSp_eq s
  refine RCall.of_w (fn := Tryz.f33) (Γ := gam []) (mu := false) (by simp) (by simp) Sound.nil mixed Tryz.func33 rfl (by kernel_rfl) (by simp) (by kernel_rfl) ?_
  simp (disch := first | assumption | omega | exact okR_new | exact okR_one | exact trivial | (simp only [lnA, lnC, lnN]; omega) | (simp only [lnA, lnC, lnN, Nat.reduceAdd])) only [go_sem, e_go, e_cond_bool, e_w_bool, e_step_ite, e_reg_ite, e_regW_ite, e_code_ite, e_block_ite, e_evQ_ite, e_fin_ite, e_pair_ite, Tryz.f33, hcs]
  exact .inl (by simp)
noncomputable def iMay8 : List AVal → AMem → Option (AVal × AMem) := rimp fun xs m r m' => ∃ (G : List ABlk) (T : List (Nat × (Nat × Nat))) (s : Sp) (c : Int) (b : Bool), (okSp s ∧ shut ⟨G, T⟩ = true) ∧ xs = [sV s, .int .i64 c, .bool b] ∧ m = ⟨G, T⟩ ∧ r = .fn 54 [] [.ptr G.length 0 0, .ptr (G.length + 2) 0 0, .ptr (G.length + 1) 0 0] ∧ m' = ⟨G ++ [.cells 0 (cSp s), .cells 0 [.int .i64 c], .cells 0 [.bool b]], T⟩
theorem iMay8_eq {G : List ABlk} {T : List (Nat × (Nat × Nat))} {s : Sp} {c : Int} {b : Bool} (h : okSp s ∧ shut ⟨G, T⟩ = true) : iMay8 [sV s, .int .i64 c, .bool b] ⟨G, T⟩ = some (.fn 54 [] [.ptr G.length 0 0, .ptr (G.length + 2) 0 0, .ptr (G.length + 1) 0 0], ⟨G ++ [.cells 0 (cSp s), .cells 0 [.int .i64 c], .cells 0 [.bool b]], T⟩) := rimp_eq ⟨G, T, s, c, b, h, rfl, rfl, rfl, rfl⟩ (by rintro _ _ ⟨G', T', s', c', b', h', e, em, rfl, rfl⟩; cases em; have e0 := sV_inj h.1 h'.1 (List.cons.inj e).1; have e1 := (AVal.int.inj (List.cons.inj (List.cons.inj e).2).1).2; have e2 := AVal.bool.inj (List.cons.inj (List.cons.inj (List.cons.inj e).2).2).1; subst e0 e1 e2; exact ⟨rfl, rfl⟩)
theorem iMay8_call : ∀ xs m v m', iMay8 xs m = some (v, m') → RCall Tryz.prog 33 xs m v m' := fun xs m v m' h0 => by obtain ⟨G, T, s, c, b, h, rfl, rfl, rfl, rfl⟩ := rimp_spec h0; exact w_may G T s c b h.2
noncomputable def mPk (s : Sp) (w : List UInt8) (i : Nat) (c : Int) (b : Bool) (p : Int × Nat) (lp : ABlk) (l : List ABlk) : AMem :=
  ⟨.cells 0 (cSp s) :: .cells 0 [.str w] :: .cells 0 [.int .i64 (i : Nat)] :: .cells 0 [.int .i64 p.1] :: .cells 0 [.int .i64 (p.2 : Nat)] :: .cells 0 (cSp s) :: .cells 0 [.int .i64 c] :: .cells 0 [.bool b] :: lp :: l, []⟩
noncomputable def stepP (w : List UInt8) (i : Nat) (p : Int × Nat) (k : Nat) (r : Ru) : Int × Nat := if p.2 < longP r (w.drop i) then ((k : Int), longP r (w.drop i)) else p
noncomputable def iYm (s : Sp) (w : List UInt8) (i : Nat) (c : Int) (b : Bool) (lp : ABlk) : List AVal → AMem → Option (AVal × AMem) := rimp fun xs m v m' =>
  ∃ (p : Int × Nat) (k : Nat) (r : Ru), okRu r ∧ xs = [.int .i64 (k : Nat), ruV r] ∧ m = mPk s w i c b p lp [.cells 0 (cRu r)] ∧ v = .bool true ∧ m' = mPk s w i c b (stepP w i p k r) lp [.cells 0 (cRu r)]
theorem iYm_eq {s : Sp} {w : List UInt8} {i : Nat} {c : Int} {b : Bool} {lp : ABlk} {p : Int × Nat} {k : Nat} {r : Ru} (h : okRu r) : iYm s w i c b lp [.int .i64 (k : Nat), ruV r] (mPk s w i c b p lp [.cells 0 (cRu r)]) = some (.bool true, mPk s w i c b (stepP w i p k r) lp [.cells 0 (cRu r)]) :=
  rimp_eq ⟨p, k, r, h, rfl, rfl, rfl, rfl⟩ (by
    rintro _ _ ⟨p', k', r', h', e, em, rfl, rfl⟩
    have e0 := Int.ofNat.inj (AVal.int.inj (List.cons.inj e).1).2
    have e1 := ruV_inj h h' (List.cons.inj (List.cons.inj e).2).1
    subst e0 e1
    simp only [mPk, AMem.mk.injEq, List.cons.injEq, ABlk.cells.injEq, AVal.int.injEq, true_and, and_true] at em
    have e2 : p = p' := Prod.ext em.1 (Int.ofNat.inj em.2)
    subst e2
    exact ⟨rfl, rfl⟩)
theorem c_mPk {s : Sp} {w : List UInt8} {i : Nat} {c : Int} {b : Bool} {p : Int × Nat} {lp : ABlk} {l : List ABlk} {h : Nat} (hl : cloB h 0 lp = true) (hr : l.all (cloB h 0) = true) : (mPk s w i c b p lp l).H.all (cloB h 0) = true := by
  simp only [mPk, List.all_cons, hl, hr]
  simp [cloB, cloL, clo, cSp_eq, cloR, c_flCd, c_flRu]
theorem y_pick (s : Sp) (w : List UInt8) (i : Nat) (c : Int) (b : Bool) (hi : i ≤ w.length) (hw : w.length < 1000000000) {g : Operand} {ps : Array Tmp} {asg body : Code} (hrg : Tryz.f20.body.bind rgOf = some (g, ps, asg, body)) {env : List (Nat × AVal)}
    (h5 : lk env 5 = .ptr 1 0 0) (h6 : lk env 6 = .ptr 2 0 0) (h8 : lk env 8 = .ptr 3 0 0) (h9 : lk env 9 = .ptr 4 0 0) (hcl : cloB 10 0 (.loop .ready none ps asg body env 33) = true) :
    ∀ args m v m', iYm s w i c b (.loop .ready none ps asg body env 33) args m = some (v, m') → YCall Tryz.prog 8 args m v m' := by
  simp only [Tryz.f20, rgOf, Option.orElse, Option.bind_some, Option.some.injEq, Prod.mk.injEq] at hrg
  obtain ⟨rfl, rfl, rfl, rfl⟩ := hrg
  intro args m v m' h
  obtain ⟨p, k, r, hr, rfl, rfl, rfl, rfl⟩ := rimp_spec h
  have hc := cRu_eq r
  have hcs := cSp_eq s
  have hL := iLg_eq (u := r) (s := w.drop i) ⟨hr, by simp; omega⟩
  have hdl : List.take (w.length - i) (List.drop i w) = w.drop i := List.take_of_length_le (by simp)
  have hgd : decide ((p.2 : Int) < (longP r (w.drop i) : Nat)) = decide (p.2 < longP r (w.drop i)) := by rw [decide_eq_decide]; omega
  unfold stepP
  obtain ⟨p1, p2⟩ := p
  simp only at hgd ⊢
  generalize longP r (w.drop i) = z at *
  by_cases hz : p2 < z
  · rw [decide_eq_true hz] at hgd
    rw [if_pos hz]
    unfold mPk
    refine YCall.of_w (mu := false) (Γ := gam [(33, .raw iMay8), (34, .pure iBol), (35, .pure iLg)]) (Sound.raw iMay8_call (Sound.pure iBol_call (Sound.pure iLg_call Sound.nil))) mixed rfl rfl (by kernel_rfl) rfl rfl (Nat.le_refl _) (Nat.le_refl _) (by kernel_rfl) (by kernel_rfl) ?_
    simp only [bindP, List.zip_cons_cons, List.zip_nil_right, List.foldl_cons, List.foldl_nil]
    simp (disch := first | assumption | omega | exact okR_new | exact okR_one | exact trivial | (simp only [lnA, lnC, lnN]; omega) | (simp only [lnA, lnC, lnN, Nat.reduceAdd])) only [go_sem, e_go, e_cond_bool, e_w_bool, e_step_ite, e_reg_ite, e_regW_ite, e_code_ite, e_block_ite, e_evQ_ite, e_fin_ite, e_pair_ite, Tryz.f20, iMay8_eq, iBol_eq, iLg_eq, h5, h6, h8, h9, hc, hcs, hdl, hL, hgd]
    have hall := c_mPk (s := s) (w := w) (i := i) (c := c) (b := b) (p := ((k : Int), z)) (l := [.cells 0 (cRu r)]) hcl (by simp [cloB, c_cRu])
    exact ⟨⟨_, _, rfl⟩, rfl, .inr ⟨⟨[_], [], rfl⟩, by simp only [mPk, hc, hcs] at hall; exact hall⟩⟩
  · rw [decide_eq_false hz] at hgd
    rw [if_neg hz]
    unfold mPk
    refine YCall.of_w (mu := false) (Γ := gam [(33, .raw iMay8), (34, .pure iBol), (35, .pure iLg)]) (Sound.raw iMay8_call (Sound.pure iBol_call (Sound.pure iLg_call Sound.nil))) mixed rfl rfl (by kernel_rfl) rfl rfl (Nat.le_refl _) (Nat.le_refl _) (by kernel_rfl) (by kernel_rfl) ?_
    simp only [bindP, List.zip_cons_cons, List.zip_nil_right, List.foldl_cons, List.foldl_nil]
    simp (disch := first | assumption | omega | exact okR_new | exact okR_one | exact trivial | (simp only [lnA, lnC, lnN]; omega) | (simp only [lnA, lnC, lnN, Nat.reduceAdd])) only [go_sem, e_go, e_cond_bool, e_w_bool, e_step_ite, e_reg_ite, e_regW_ite, e_code_ite, e_block_ite, e_evQ_ite, e_fin_ite, e_pair_ite, Tryz.f20, iMay8_eq, iBol_eq, iLg_eq, h5, h6, h8, h9, hc, hcs, hdl, hL, hgd]
    have hall := c_mPk (s := s) (w := w) (i := i) (c := c) (b := b) (p := (p1, p2)) (l := [.cells 0 (cRu r)]) hcl (by simp [cloB, c_cRu])
    exact ⟨⟨_, _, rfl⟩, rfl, .inr ⟨⟨[_], [], rfl⟩, by simp only [mPk, hc, hcs] at hall; exact hall⟩⟩
theorem w_may1 (s : Sp) (w : List UInt8) (i : Nat) (c : Int) (lp : ABlk) (hs : okSp s) (hcl : cloB 9 0 lp = true) (hy : ∀ args m v m', iYm s w i c (bolB w i) lp args m = some (v, m') → YCall Tryz.prog 8 args m v m') :
    RCall Tryz.prog 54 [.yld 8, .ptr 5 0 0, .ptr 7 0 0, .ptr 6 0 0] (mPk s w i c (bolB w i) (-1, 0) lp []) .undef (mPk s w i c (bolB w i) (pickP s w i c) lp []) := by
  have hcs := cSp_eq s
  have hnr := hs.nr
  have hA := fun k => iAct_eq (u := s) (i := k) (c := c) hs
  have hyq := fun (p : Int × Nat) (k : Nat) (r : Ru) (h : okRu r) => iYm_eq (s := s) (w := w) (i := i) (c := c) (b := bolB w i) (lp := lp) (p := p) (k := k) h
  have hm : ∀ (k : Nat) (r : Ru), s.rules[k]? = some r → pickTo s w i c (k + 1) = if mayB s w i c k r = true then stepP w i (pickTo s w i c k) k r else pickTo s w i c k := fun k r h => by
    rw [pickTo_next h]
    unfold pickStep stepP
    cases mayB s w i c k r
    · simp
    · simp
  generalize hb : bolB w i = b at *
  unfold pickP
  unfold mPk at *
  refine RCall.of_w (fn := Tryz.f54) (Γ := gamg [] true (yOf 8 (iYm s w i c b lp)) 0 [(36, .pure iAct)]) (mu := false) (by simp) (by simp) (Sound.y (hy) (Sound.pure iAct_call Sound.nil)) mixed Tryz.func54 rfl (by kernel_rfl) (by simp) (by kernel_rfl) ?_
  simp (disch := first | assumption | omega | exact okR_new | exact okR_one | exact trivial | (simp only [lnA, lnC, lnN]; omega) | (simp only [lnA, lnC, lnN, Nat.reduceAdd])) only [go_sem, e_go, e_cond_bool, e_w_bool, e_step_ite, e_reg_ite, e_regW_ite, e_code_ite, e_block_ite, e_evQ_ite, e_fin_ite, e_pair_ite, Tryz.f54, iAct_eq, hcs]
  refine w_loopc [] [10] (fun k : Nat => s.rules.length - k) (fun k => k ≤ s.rules.length) (fun k => ⟨[.cells 0 (cSp s), .cells 0 [.str w], .cells 0 [.int .i64 (i : Nat)], .cells 0 [.int .i64 (pickTo s w i c k).1], .cells 0 [.int .i64 ((pickTo s w i c k).2 : Nat)], .cells 0 (cSp s), .cells 0 [.int .i64 c], .cells 0 [.bool b], lp], []⟩)
    (fun k => [(10, .int .i64 (k : Nat))]) 0 (fun _ => rfl) (by kernel_rfl) (Nat.zero_le _) ⟨[], [], by simp [hcs, pickTo]⟩ (by simp [HasE, lk]) ?_ ?_
  · intro k hk
    have h1 := c_mPk (s := s) (w := w) (i := i) (c := c) (b := b) (p := pickTo s w i c k) (l := []) hcl rfl
    refine ⟨h1, rfl, ?_⟩
    simp (disch := assumption) [cloE, clo, cloL, cloB, c_Rno, c_Rfull, c_append, c_flCd, c_flRu, cSp_eq, c_sV]
  intro k hk
  by_cases hlt : k < s.rules.length
  · have hg : s.rules[k]? = some s.rules[k] := by simp [hlt]
    have hat := fl_at cRu_len hg
    have hle : k * 22 + 22 ≤ s.rules.length * 22 := by omega
    have hw : IntKind.i64.wrap ((k : Int) + 1) = (k : Int) + 1 := IntWalk.i64_in _ (by omega)
    have hnx := hm k s.rules[k] hg
    have hA := hA k
    have hro := hs.ru _ (List.getElem_mem hlt)
    have hyq := hyq (pickTo s w i c k) k s.rules[k] hro
    generalize s.rules[k] = r at *
    have hcr := cRu_eq r
    simp only [ruV, hcs, hcr] at hyq
    unfold mayB at hnx
    rw [hb] at hnx
    cases he : r.eof
    · have done : ∀ p, pickTo s w i c (k + 1) = p → ∀ x, (⟨[.cells 0 (cSp s), .cells 0 [.str w], .cells 0 [.int .i64 (i : Nat)], .cells 0 [.int .i64 p.1], .cells 0 [.int .i64 (p.2 : Nat)], .cells 0 (cSp s), .cells 0 [.int .i64 c], .cells 0 [.bool b], lp, x], []⟩ : AMem) =
          ⟨[.cells 0 (cSp s), .cells 0 [.str w], .cells 0 [.int .i64 (i : Nat)], .cells 0 [.int .i64 (pickTo s w i c (k + 1)).1], .cells 0 [.int .i64 ((pickTo s w i c (k + 1)).2 : Nat)], .cells 0 (cSp s), .cells 0 [.int .i64 c], .cells 0 [.bool b], lp] ++ [x], [] ++ []⟩ := fun p e x => by rw [e]; rfl
      cases hbo : (b || !r.bol)
      · simp only [he, hbo, Bool.not_false, Bool.true_and, Bool.and_true, Bool.false_and, Bool.false_eq_true, if_false] at hnx
        have hb1 : b = false := by cases b; rfl; simp at hbo
        have hb2 : r.bol = true := by rw [hb1] at hbo; simpa using hbo
        subst hb1
        simp (disch := first | assumption | omega | exact okR_new | exact okR_one | exact trivial | (simp only [lnA, lnC, lnN]; omega) | (simp only [lnA, lnC, lnN, Nat.reduceAdd])) only [go_sem, e_go, e_cond_bool, e_w_bool, e_step_ite, e_reg_ite, e_regW_ite, e_code_ite, e_block_ite, e_evQ_ite, e_fin_ite, e_pair_ite, Tryz.f54, iAct_eq, hcs, hat, hcr, he, hb2, hw]
        exact ⟨k + 1, dn hlt, hlt, ⟨_, _, done _ hnx _⟩, by simp [HasE, lk]⟩
      · simp only [he, hbo, Bool.not_false, Bool.true_and, Bool.and_true] at hnx
        cases ha : activeS s (k : Nat) c
        · rw [ha] at hA hnx
          simp only [Bool.false_eq_true, if_false] at hnx
          cases b
          · have hb2 : r.bol = false := by simpa using hbo
            simp (disch := first | assumption | omega | exact okR_new | exact okR_one | exact trivial | (simp only [lnA, lnC, lnN]; omega) | (simp only [lnA, lnC, lnN, Nat.reduceAdd])) only [go_sem, e_go, e_cond_bool, e_w_bool, e_step_ite, e_reg_ite, e_regW_ite, e_code_ite, e_block_ite, e_evQ_ite, e_fin_ite, e_pair_ite, Tryz.f54, iAct_eq, hcs, hat, hcr, he, hb2, hw, hA]
            exact ⟨k + 1, dn hlt, hlt, ⟨_, _, done _ hnx _⟩, by simp [HasE, lk]⟩
          · simp (disch := first | assumption | omega | exact okR_new | exact okR_one | exact trivial | (simp only [lnA, lnC, lnN]; omega) | (simp only [lnA, lnC, lnN, Nat.reduceAdd])) only [go_sem, e_go, e_cond_bool, e_w_bool, e_step_ite, e_reg_ite, e_regW_ite, e_code_ite, e_block_ite, e_evQ_ite, e_fin_ite, e_pair_ite, Tryz.f54, iAct_eq, hcs, hat, hcr, he, hw, hA]
            exact ⟨k + 1, dn hlt, hlt, ⟨_, _, done _ hnx _⟩, by simp [HasE, lk]⟩
        · rw [ha] at hA hnx
          simp only [if_true] at hnx
          cases b
          · have hb2 : r.bol = false := by simpa using hbo
            simp only [he, hb2] at hyq
            simp (disch := first | assumption | omega | exact okR_new | exact okR_one | exact trivial | (simp only [lnA, lnC, lnN]; omega) | (simp only [lnA, lnC, lnN, Nat.reduceAdd])) only [go_sem, e_go, e_cond_bool, e_w_bool, e_step_ite, e_reg_ite, e_regW_ite, e_code_ite, e_block_ite, e_evQ_ite, e_fin_ite, e_pair_ite, Tryz.f54, iAct_eq, hcs, hat, hcr, he, hb2, hw, hA, hyq]
            exact ⟨k + 1, dn hlt, hlt, ⟨_, _, done _ hnx _⟩, by simp [HasE, lk]⟩
          · simp only [he] at hyq
            simp (disch := first | assumption | omega | exact okR_new | exact okR_one | exact trivial | (simp only [lnA, lnC, lnN]; omega) | (simp only [lnA, lnC, lnN, Nat.reduceAdd])) only [go_sem, e_go, e_cond_bool, e_w_bool, e_step_ite, e_reg_ite, e_regW_ite, e_code_ite, e_block_ite, e_evQ_ite, e_fin_ite, e_pair_ite, Tryz.f54, iAct_eq, hcs, hat, hcr, he, hw, hA, hyq]
            exact ⟨k + 1, dn hlt, hlt, ⟨_, _, done _ hnx _⟩, by simp [HasE, lk]⟩
    · simp only [he, Bool.not_true, Bool.false_and, Bool.false_eq_true, if_false] at hnx
      have done : ∀ p, pickTo s w i c (k + 1) = p → ∀ x, (⟨[.cells 0 (cSp s), .cells 0 [.str w], .cells 0 [.int .i64 (i : Nat)], .cells 0 [.int .i64 p.1], .cells 0 [.int .i64 (p.2 : Nat)], .cells 0 (cSp s), .cells 0 [.int .i64 c], .cells 0 [.bool b], lp, x], []⟩ : AMem) =
          ⟨[.cells 0 (cSp s), .cells 0 [.str w], .cells 0 [.int .i64 (i : Nat)], .cells 0 [.int .i64 (pickTo s w i c (k + 1)).1], .cells 0 [.int .i64 ((pickTo s w i c (k + 1)).2 : Nat)], .cells 0 (cSp s), .cells 0 [.int .i64 c], .cells 0 [.bool b], lp] ++ [x], [] ++ []⟩ := fun p e x => by rw [e]; rfl
      simp (disch := first | assumption | omega | exact okR_new | exact okR_one | exact trivial | (simp only [lnA, lnC, lnN]; omega) | (simp only [lnA, lnC, lnN, Nat.reduceAdd])) only [go_sem, e_go, e_cond_bool, e_w_bool, e_step_ite, e_reg_ite, e_regW_ite, e_code_ite, e_block_ite, e_evQ_ite, e_fin_ite, e_pair_ite, Tryz.f54, iAct_eq, hcs, hat, hcr, he, hw]
      exact ⟨k + 1, dn hlt, hlt, ⟨_, _, done _ hnx _⟩, by simp [HasE, lk]⟩
  · have hi' : k = s.rules.length := by omega
    subst hi'
    simp (disch := first | assumption | omega | exact okR_new | exact okR_one | exact trivial | (simp only [lnA, lnC, lnN]; omega) | (simp only [lnA, lnC, lnN, Nat.reduceAdd])) only [go_sem, e_go, e_cond_bool, e_w_bool, e_step_ite, e_reg_ite, e_regW_ite, e_code_ite, e_block_ite, e_evQ_ite, e_fin_ite, e_pair_ite, Tryz.f54, iAct_eq, hcs]
    exact .inl rfl
theorem w_pick (s : Sp) (w : List UInt8) (i : Nat) (c : Int) (h : okSp s ∧ i ≤ w.length ∧ w.length < 1000000000) : PCall Tryz.prog 20 [sV s, .str w, .int .i64 (i : Nat), .int .i64 c] (.tup (.int .i64 (pickP s w i c).1) [.int .i64 ((pickP s w i c).2 : Nat)]) := by
  obtain ⟨hs, hi, hw⟩ := h
  have hcs := cSp_eq s
  have hM : iMay8 [sV s, .int .i64 c, .bool (bolB w i)] ⟨[.cells 0 (cSp s), .cells 0 [.str w], .cells 0 [.int .i64 (i : Nat)], .cells 0 [.int .i64 (-1)], .cells 0 [.int .i64 0]], []⟩ = some (.fn 54 [] [.ptr 5 0 0, .ptr 7 0 0, .ptr 6 0 0], ⟨[.cells 0 (cSp s), .cells 0 [.str w], .cells 0 [.int .i64 (i : Nat)], .cells 0 [.int .i64 (-1)], .cells 0 [.int .i64 0], .cells 0 (cSp s), .cells 0 [.int .i64 c], .cells 0 [.bool (bolB w i)]], []⟩) :=
    iMay8_eq (G := [.cells 0 (cSp s), .cells 0 [.str w], .cells 0 [.int .i64 (i : Nat)], .cells 0 [.int .i64 (-1)], .cells 0 [.int .i64 0]]) ⟨hs, by simp [shut, cloB, cloL, clo, cSp_eq, cloR, c_flCd, c_flRu]⟩
  simp only [hcs] at hM
  have hbi : i ≤ w.length ∧ w.length < 1000000000 := ⟨hi, hw⟩
  refine PCall.of_w (fn := Tryz.f20) (Γ := gamv [(8, (.step 0 (.fork 1 2 (.step 2 (.step 3 .done)) (.step 1 (.step 3 .done)))))] 33 [(33, .raw iMay8), (34, .pure iBol), (35, .pure iLg)]) (mu := false) (Sound.v (Sound.raw iMay8_call (Sound.pure iBol_call (Sound.pure iLg_call Sound.nil)))) mixed Tryz.func20 rfl (by kernel_rfl) (by simp) (by kernel_rfl) ?_
  simp (disch := first | assumption | omega | exact okR_new | exact okR_one | exact trivial | (simp only [lnA, lnC, lnN]; omega) | (simp only [lnA, lnC, lnN, Nat.reduceAdd])) only [go_sem, e_go, e_cond_bool, e_w_bool, e_step_ite, e_reg_ite, e_regW_ite, e_code_ite, e_block_ite, e_evQ_ite, e_fin_ite, e_pair_ite, Tryz.f20, iMay8_eq, iBol_eq, iLg_eq, hcs, hM]
  refine w_rangeFunc 54 [] [.ptr 5 0 0, .ptr 7 0 0, .ptr 6 0 0] .undef (mPk s w i c (bolB w i) (pickP s w i c) _ []) .ready none rfl ?_ rfl (by decide) ?_
  · exact w_may1 s w i c _ hs (by simp [cloB, clo, cloL, cloE, c_sV]) (y_pick s w i c (bolB w i) hi hw (by rfl) (by rfl) (by rfl) (by rfl) (by rfl) (by simp [cloB, clo, cloL, cloE, c_sV]))
  · simp (disch := first | assumption | omega | exact okR_new | exact okR_one | exact trivial | (simp only [lnA, lnC, lnN]; omega) | (simp only [lnA, lnC, lnN, Nat.reduceAdd])) only [go_sem, e_go, e_cond_bool, e_w_bool, e_step_ite, e_reg_ite, e_regW_ite, e_code_ite, e_block_ite, e_evQ_ite, e_fin_ite, e_pair_ite, Tryz.f20, iMay8_eq, iBol_eq, iLg_eq, hcs, pendQ, mPk]
    refine w_region_2v rfl rfl ?_ ?_
    all_goals (
      simp only [List.getElem_toArray, List.getElem_cons_succ, List.getElem_cons_zero]
      simp (disch := first | assumption | omega | exact okR_new | exact okR_one | exact trivial | (simp only [lnA, lnC, lnN]; omega) | (simp only [lnA, lnC, lnN, Nat.reduceAdd])) only [go_sem, e_go, e_cond_bool, e_w_bool, e_step_ite, e_reg_ite, e_regW_ite, e_code_ite, e_block_ite, e_evQ_ite, e_fin_ite, e_pair_ite, Tryz.f20, iMay8_eq, iBol_eq, iLg_eq, hcs])
noncomputable def iPk8 : List AVal → Option AVal := pimp fun xs r => ∃ (u : Sp) (w : List UInt8) (i : Nat) (c : Int), (okSp u ∧ i ≤ w.length ∧ w.length < 1000000000) ∧ xs = [sV u, .str w, .int .i64 (i : Nat), .int .i64 c] ∧ r = .tup (.int .i64 (pickP u w i c).1) [.int .i64 ((pickP u w i c).2 : Nat)]
theorem iPk8_eq {u : Sp} {w : List UInt8} {i : Nat} {c : Int} (h : okSp u ∧ i ≤ w.length ∧ w.length < 1000000000) : iPk8 [sV u, .str w, .int .i64 (i : Nat), .int .i64 c] = some (.tup (.int .i64 (pickP u w i c).1) [.int .i64 ((pickP u w i c).2 : Nat)]) := pimp_eq ⟨u, w, i, c, h, rfl, rfl⟩ (by rintro _ ⟨u', w', i', c', h', e, rfl⟩; have e0 := sV_inj h.1 h'.1 (List.cons.inj e).1; have er := (List.cons.inj e).2; have e1 := AVal.str.inj (List.cons.inj er).1; have es := (List.cons.inj er).2; have e2 := Int.ofNat.inj (AVal.int.inj (List.cons.inj es).1).2; have e3 := (AVal.int.inj (List.cons.inj (List.cons.inj es).2).1).2; subst e0 e1 e2 e3; rfl)
theorem iPk8_call : ∀ xs v, iPk8 xs = some v → PCall Tryz.prog 20 xs v := fun xs v h0 => by obtain ⟨u, w, i, c, h, rfl, rfl⟩ := pimp_spec h0; exact w_pick u w i c h
end Go.Hk.MZ
namespace Go.Hk.MZ
open Go.Proofs

noncomputable def pickQ (s : Sp) (w : List UInt8) (i c : Int) : Int × Nat := if (w.length ≤ 10000 ∧ rightS s = true) ∧ 0 ≤ i ∧ i ≤ w.length ∧ 0 ≤ c ∧ c < s.conds.length then pickP s w i.toNat c else (-1, 0)
theorem w_Pick (s : Sp) (w : List UInt8) (i c : Int) (h : okSp s ∧ w.length < 1000000000) : PCall Tryz.prog 11 [sV s, .str w, .int .i64 i, .int .i64 c] (.tup (.int .i64 (pickQ s w i c).1) [.int .i64 ((pickQ s w i c).2 : Nat)]) := by
  obtain ⟨hs, hw⟩ := h
  have hcs := cSp_eq s
  have hR := iMR_eq (u := s) (w := w) ⟨hs, hw⟩
  have hnc := hs.nc
  refine PCall.of_w (fn := Tryz.f11) (Γ := gam [(19, .pure iMR), (20, .pure iPk8)]) (mu := false) (Sound.pure iMR_call (Sound.pure iPk8_call Sound.nil)) mixed Tryz.func11 rfl (by kernel_rfl) (by simp) (by kernel_rfl) ?_
  by_cases h1 : w.length ≤ 10000 ∧ rightS s = true
  · have hr : (decide ((w.length : Int) ≤ 10000) && rightS s) = true := by rw [h1.2]; simp; omega
    rw [hr] at hR
    by_cases h2 : 0 ≤ i ∧ i ≤ w.length ∧ 0 ≤ c ∧ c < s.conds.length
    · have hq : pickQ s w i c = pickP s w i.toNat c := by unfold pickQ; rw [if_pos ⟨h1, h2⟩]
      obtain ⟨h2, h3, h4, h5⟩ := h2
      obtain ⟨k, rfl⟩ := Int.eq_ofNat_of_zero_le h2
      rw [Int.toNat_natCast] at hq
      have hP := iPk8_eq (u := s) (w := w) (i := k) (c := c) ⟨hs, by omega, hw⟩
      rw [← hq] at hP
      simp (disch := first | assumption | omega | exact okR_new | exact okR_one | exact trivial | (simp only [lnA, lnC, lnN]; omega) | (simp only [lnA, lnC, lnN, Nat.reduceAdd])) only [go_sem, e_go, e_cond_bool, e_w_bool, e_step_ite, e_reg_ite, e_regW_ite, e_code_ite, e_block_ite, e_evQ_ite, e_fin_ite, e_pair_ite, Tryz.f11, iMR_eq, iPk8_eq, hcs, hR, hP]
    · have hq : pickQ s w i c = (-1, 0) := by unfold pickQ; rw [if_neg (fun h => h2 h.2)]
      rw [hq]
      (simp (disch := first | assumption | omega | exact okR_new | exact okR_one | exact trivial | (simp only [lnA, lnC, lnN]; omega) | (simp only [lnA, lnC, lnN, Nat.reduceAdd])) only [go_sem, e_bin_bool, Bool.true_and, Bool.and_true, Bool.false_and, Bool.and_false, Bool.true_or, Bool.or_true, Bool.false_or, Bool.or_false, Bool.not_eq_eq_eq_not, Bool.not_not, z_or, z_and, z_beq_t, z_beq_f, decide_eq_true_eq, decide_eq_false_iff_not, ite_not, Bool.not_eq_true', Bool.or_eq_true, Bool.and_eq_true, i_t, i_f, Tryz.f11, iMR_eq, iPk8_eq, hcs, hR] <;> (repeat' ((first | refine w_cond_cases ?_ ?_ | refine w_go_cases ?_ ?_ | refine w_pick_cases ?_ ?_) <;> intro hq <;> (try simp only [decide_eq_true_eq, decide_eq_false_iff_not, Bool.not_eq_true', Bool.not_eq_false', Bool.or_eq_true, Bool.and_eq_true, Bool.or_eq_false_iff, Bool.and_eq_false_iff, Bool.not_eq_eq_eq_not, Bool.not_true, Bool.not_false, Bool.not_not] at hq) <;> (first | simp (disch := first | assumption | omega | exact okR_new | exact okR_one | exact trivial | (simp only [lnA, lnC, lnN]; omega) | (simp only [lnA, lnC, lnN, Nat.reduceAdd])) only [show (_ : Bool) = true from hq, go_sem, e_bin_bool, Bool.true_and, Bool.and_true, Bool.false_and, Bool.and_false, Bool.true_or, Bool.or_true, Bool.false_or, Bool.or_false, Bool.not_eq_eq_eq_not, Bool.not_not, z_or, z_and, z_beq_t, z_beq_f, decide_eq_true_eq, decide_eq_false_iff_not, ite_not, Bool.not_eq_true', Bool.or_eq_true, Bool.and_eq_true, i_t, i_f, Tryz.f11, iMR_eq, iPk8_eq, hcs, hR] | simp (disch := first | assumption | omega | exact okR_new | exact okR_one | exact trivial | (simp only [lnA, lnC, lnN]; omega) | (simp only [lnA, lnC, lnN, Nat.reduceAdd])) only [show (_ : Bool) = false from hq, go_sem, e_bin_bool, Bool.true_and, Bool.and_true, Bool.false_and, Bool.and_false, Bool.true_or, Bool.or_true, Bool.false_or, Bool.or_false, Bool.not_eq_eq_eq_not, Bool.not_not, z_or, z_and, z_beq_t, z_beq_f, decide_eq_true_eq, decide_eq_false_iff_not, ite_not, Bool.not_eq_true', Bool.or_eq_true, Bool.and_eq_true, i_t, i_f, Tryz.f11, iMR_eq, iPk8_eq, hcs, hR] | simp (disch := first | assumption | omega | exact okR_new | exact okR_one | exact trivial | (simp only [lnA, lnC, lnN]; omega) | (simp only [lnA, lnC, lnN, Nat.reduceAdd])) only [go_sem, e_bin_bool, Bool.true_and, Bool.and_true, Bool.false_and, Bool.and_false, Bool.true_or, Bool.or_true, Bool.false_or, Bool.or_false, Bool.not_eq_eq_eq_not, Bool.not_not, z_or, z_and, z_beq_t, z_beq_f, decide_eq_true_eq, decide_eq_false_iff_not, ite_not, Bool.not_eq_true', Bool.or_eq_true, Bool.and_eq_true, i_t, i_f, Tryz.f11, iMR_eq, iPk8_eq, hcs, hR] | skip))))
      all_goals first | rfl | (exfalso; omega)
  · have hr : (decide ((w.length : Int) ≤ 10000) && rightS s) = false := by
      cases h : rightS s
      · simp
      · have : ¬ w.length ≤ 10000 := fun h' => h1 ⟨h', h⟩
        simp; omega
    rw [hr] at hR
    have hq : pickQ s w i c = (-1, 0) := by unfold pickQ; rw [if_neg (fun h => h1 h.1)]
    rw [hq]
    simp (disch := first | assumption | omega | exact okR_new | exact okR_one | exact trivial | (simp only [lnA, lnC, lnN]; omega) | (simp only [lnA, lnC, lnN, Nat.reduceAdd])) only [go_sem, e_go, e_cond_bool, e_w_bool, e_step_ite, e_reg_ite, e_regW_ite, e_code_ite, e_block_ite, e_evQ_ite, e_fin_ite, e_pair_ite, Tryz.f11, iMR_eq, iPk8_eq, hcs, hR]
    rfl
noncomputable def iPi : List AVal → Option AVal := pimp fun xs r => ∃ (u : Sp) (w : List UInt8) (i c : Int), (okSp u ∧ w.length < 1000000000) ∧ xs = [sV u, .str w, .int .i64 i, .int .i64 c] ∧ r = .tup (.int .i64 (pickQ u w i c).1) [.int .i64 ((pickQ u w i c).2 : Nat)]
theorem iPi_eq {u : Sp} {w : List UInt8} {i c : Int} (h : okSp u ∧ w.length < 1000000000) : iPi [sV u, .str w, .int .i64 i, .int .i64 c] = some (.tup (.int .i64 (pickQ u w i c).1) [.int .i64 ((pickQ u w i c).2 : Nat)]) := pimp_eq ⟨u, w, i, c, h, rfl, rfl⟩ (by rintro _ ⟨u', w', i', c', h', e, rfl⟩; have e0 := sV_inj h.1 h'.1 (List.cons.inj e).1; have er := (List.cons.inj e).2; have e1 := AVal.str.inj (List.cons.inj er).1; have es := (List.cons.inj er).2; have e2 := (AVal.int.inj (List.cons.inj es).1).2; have e3 := (AVal.int.inj (List.cons.inj (List.cons.inj es).2).1).2; subst e0 e1 e2 e3; rfl)
theorem iPi_call : ∀ xs v, iPi xs = some v → PCall Tryz.prog 11 xs v := fun xs v h0 => by obtain ⟨u, w, i, c, h, rfl, rfl⟩ := pimp_spec h0; exact w_Pick u w i c h
end Go.Hk.MZ
