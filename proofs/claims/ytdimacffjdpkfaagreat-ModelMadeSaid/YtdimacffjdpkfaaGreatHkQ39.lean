import Derived.Test.YtdimacffjdpkfaaGreatHkQ38
set_option linter.unusedSimpArgs false
set_option linter.unusedVariables false
set_option maxRecDepth 20000
namespace Go.Hk.MZ
open Go.Proofs
theorem ti67 : tiOf Tryz.prog 67 = some { size := 1, bytes := 8, zero := some (.nilf), k := .func } := by kernel_rfl
attribute [go_sem] ti67
theorem ti68 : tiOf Tryz.prog 68 = some { size := 1, bytes := 8, zero := some (.nilf), k := .func } := by kernel_rfl
attribute [go_sem] ti68
theorem ti92 : tiOf Tryz.prog 92 = some { size := 1, bytes := 8, zero := some (.nilf), k := .func } := by kernel_rfl
attribute [go_sem] ti92
def rgOf : Code → Option (Operand × Array Tmp × Code × Code)
  | .rangeFunc g ps a b => some (g, ps, a, b)
  | .seq a b => (rgOf a).orElse fun _ => rgOf b
  | .cond _ a b => (rgOf a).orElse fun _ => rgOf b
  | .block _ a => rgOf a
  | .loop a => rgOf a
  | _ => none
theorem w_Back (G : List ABlk) (T : List (Nat × (Nat × Nat))) (l : List Nat) (hs : shut ⟨G, T⟩ = true) :
    RCall Tryz.prog 24 [.sl .no l.length (cN l)] ⟨G, T⟩ (.fn 42 [] [.ptr G.length 0 0]) ⟨G ++ [.cells 0 [.sl .no l.length (cN l)]], T⟩ := by
  refine RCall.of_w (fn := Tryz.f24) (Γ := gam []) (mu := false) (by simp) (by simp) Sound.nil mixed Tryz.func24 rfl (by kernel_rfl) (by simp) (by kernel_rfl) ?_
  simp (disch := first | assumption | omega | exact okR_new | exact okR_one | exact trivial | (simp only [lnA, lnC, lnN]; omega) | (simp only [lnA, lnC, lnN, Nat.reduceAdd])) only [go_sem, e_go, e_cond_bool, e_w_bool, e_step_ite, e_reg_ite, e_regW_ite, e_code_ite, e_block_ite, e_evQ_ite, e_fin_ite, e_pair_ite, Tryz.f24]
  exact .inl rfl
noncomputable def iBk : List AVal → AMem → Option (AVal × AMem) := rimp fun xs m r m' => ∃ (G : List ABlk) (T : List (Nat × (Nat × Nat))) (l : List Nat), (shut ⟨G, T⟩ = true) ∧ xs = [.sl .no l.length (cN l)] ∧ m = ⟨G, T⟩ ∧ r = .fn 42 [] [.ptr G.length 0 0] ∧ m' = ⟨G ++ [.cells 0 [.sl .no l.length (cN l)]], T⟩
theorem iBk_eq {G : List ABlk} {T : List (Nat × (Nat × Nat))} {l : List Nat} (h : shut ⟨G, T⟩ = true) : iBk [.sl .no l.length (cN l)] ⟨G, T⟩ = some (.fn 42 [] [.ptr G.length 0 0], ⟨G ++ [.cells 0 [.sl .no l.length (cN l)]], T⟩) := rimp_eq ⟨G, T, l, h, rfl, rfl, rfl, rfl⟩ (by rintro _ _ ⟨G', T', l', h', e, em, rfl, rfl⟩; cases em; have e0 := (List.cons.inj e).1; exact ⟨rfl, by rw [e0]⟩)
theorem iBk_call : ∀ xs m v m', iBk xs m = some (v, m') → RCall Tryz.prog 24 xs m v m' := fun xs m v m' h0 => by obtain ⟨G, T, l, h, rfl, rfl, rfl, rfl⟩ := rimp_spec h0; exact w_Back G T l h
theorem trail_at {x : Rx} {s : List UInt8} {h : Nat} (hl : s.length ≤ 10000) (hh : h ≤ s.length) : (((s.drop h).length : Nat) : Int) ∈ endsL x (s.drop h) 0 ↔ s.length ∈ endsN x s h := by
  cases hr : rightT x
  · have h1 : endsN x s h = [] := by unfold endsN; rw [if_neg]; rw [hr]; simp
    rw [h1]
    simp only [match_not hr, List.not_mem_nil]
  · have e := endsN_shift (x := x) (s := s) (a := h) (b := 0) hr hl (by omega)
    have e2 := endsL_N x (s.drop h) 0
    rw [Nat.add_zero] at e
    have e2 : endsL x (s.drop h) 0 = _ := e2
    rw [e2, e]
    simp only [List.mem_map, List.length_drop]
    constructor
    · rintro ⟨a, h1, h2⟩; exact ⟨a, h1, by omega⟩
    · rintro ⟨a, h1, h2⟩; exact ⟨a, h1, by omega⟩
noncomputable def trB (r : Ru) (s : List UInt8) (h : Nat) : Bool := decide (s.length ∈ endsN r.trail s h)
def mHd (r : Ru) (s : List UInt8) (l : List Nat) (z : Int) (lp : ABlk) : AMem := ⟨[.cells 0 (cRu r), .cells 0 [.str s], .cells 0 [.int .i64 z], .cells 0 [.sl .no l.length (cN l)], lp], []⟩
noncomputable def iYh (r : Ru) (s : List UInt8) (l : List Nat) (lp : LoopState → Option Code → ABlk) : List AVal → AMem → Option (AVal × AMem) := rimp fun xs m v m' =>
  ∃ (k h : Nat), (h ≤ s.length ∧ s.length ≤ 10000) ∧ xs = [.int .i64 (k : Nat), .int .i64 (h : Nat)] ∧ m = mHd r s l 0 (lp .ready none) ∧ v = .bool (!trB r s h) ∧ m' = if trB r s h = true then mHd r s l (h : Nat) (lp .done (some .ret)) else m
theorem iYh_eq {r : Ru} {s : List UInt8} {l : List Nat} {lp : LoopState → Option Code → ABlk} {k h : Nat} (hh : h ≤ s.length ∧ s.length ≤ 10000) : iYh r s l lp [.int .i64 (k : Nat), .int .i64 (h : Nat)] (mHd r s l 0 (lp .ready none)) = some (.bool (!trB r s h), if trB r s h = true then mHd r s l (h : Nat) (lp .done (some .ret)) else mHd r s l 0 (lp .ready none)) :=
  rimp_eq ⟨k, h, hh, rfl, rfl, rfl, rfl⟩ (by
    rintro _ _ ⟨k', h', _, e, _, rfl, rfl⟩
    have e1 : (h : Int) = (h' : Int) := (AVal.int.inj (List.cons.inj (List.cons.inj e).2).1).2
    have e1 : h = h' := by omega
    subst e1
    exact ⟨rfl, rfl⟩)
theorem w_Back1 (r : Ru) (s : List UInt8) (l : List Nat) (lp : LoopState → Option Code → ABlk) (hy : ∀ args m v m', iYh r s l lp args m = some (v, m') → YCall Tryz.prog 4 args m v m') (hl : l.length ≤ s.length + 1) (hs : s.length < 1000000000) (hm : ∀ a ∈ l, a ≤ s.length ∧ s.length ≤ 10000) :
    RCall Tryz.prog 42 [.yld 4, .ptr 3 0 0] (mHd r s l 0 (lp .ready none)) .undef (match l.reverse.find? (trB r s) with | some h => mHd r s l (h : Nat) (lp .done (some .ret)) | none => mHd r s l 0 (lp .ready none)) := by
  have hyq := fun (k h : Nat) (hh : h ≤ s.length ∧ s.length ≤ 10000) => iYh_eq (r := r) (s := s) (l := l) (lp := lp) (k := k) hh
  unfold mHd at hyq
  generalize hm2 : (match l.reverse.find? (trB r s) with | some h => mHd r s l (h : Nat) (lp .done (some .ret)) | none => mHd r s l 0 (lp .ready none)) = m2
  unfold mHd at hm2 ⊢
  have hlen : 5 ≤ m2.H.length ∧ 0 ≤ m2.T.length := by
    rw [← hm2]
    cases l.reverse.find? (trB r s) <;> exact ⟨Nat.le_refl _, Nat.le_refl _⟩
  refine RCall.of_w (fn := Tryz.f42) (Γ := gamg [] true (yOf 4 (iYh r s l lp)) 0 []) (mu := false) hlen.1 hlen.2 (Sound.y hy Sound.nil) mixed Tryz.func42 rfl (by kernel_rfl) (by simp) (by kernel_rfl) ?_
  have hw : IntKind.i64.wrap ((l.length : Int) - 1) = (l.length : Int) - 1 := IntWalk.i64_in _ (by omega)
  simp (disch := first | assumption | omega | exact okR_new | exact okR_one | exact trivial | (simp only [lnA, lnC, lnN]; omega) | (simp only [lnA, lnC, lnN, Nat.reduceAdd])) only [go_sem, e_go, e_cond_bool, e_w_bool, e_step_ite, e_reg_ite, e_regW_ite, e_code_ite, e_block_ite, e_evQ_ite, e_fin_ite, e_pair_ite, Tryz.f42, hw]
  refine w_loop [] [3] (fun j : Nat => j) (fun j => j ≤ l.length ∧ ∀ y ∈ l.drop j, trB r s y = false) (fun j => ⟨[.cells 0 (cRu r), .cells 0 [.str s], .cells 0 [.int .i64 0], .cells 0 [.sl .no l.length (cN l)], lp .ready none], []⟩)
    (fun j => [(3, .int .i64 ((j : Int) - 1))]) l.length (fun _ => rfl) (by kernel_rfl) ⟨Nat.le_refl _, by simp⟩ rfl (by simp [HasE, lk]) ?_
  rintro j ⟨hj, hq⟩
  cases j with
  | zero =>
    rw [List.drop_zero] at hq
    rw [find_rev_none hq] at hm2
    simp only at hm2
    simp (disch := first | assumption | omega | exact okR_new | exact okR_one | exact trivial | (simp only [lnA, lnC, lnN]; omega) | (simp only [lnA, lnC, lnN, Nat.reduceAdd])) only [go_sem, e_go, e_cond_bool, e_w_bool, e_step_ite, e_reg_ite, e_regW_ite, e_code_ite, e_block_ite, e_evQ_ite, e_fin_ite, e_pair_ite, Tryz.f42]
    exact .inl hm2
  | succ i =>
    have hg : l[i]? = some l[i] := by simp
    have hat := cN_get hg
    have hal := hm _ (List.getElem_mem (by omega : i < l.length))
    have e1 : ((i + 1 : Nat) : Int) - 1 = (i : Int) := by omega
    have hw : IntKind.i64.wrap ((i : Int) - 1) = (i : Int) - 1 := IntWalk.i64_in _ (by omega)
    have hyq := hyq i l[i] hal
    cases hp : trB r s l[i]
    · have hq' := drop_step hg hq hp
      rw [hp] at hyq
      simp (disch := first | assumption | omega | exact okR_new | exact okR_one | exact trivial | (simp only [lnA, lnC, lnN]; omega) | (simp only [lnA, lnC, lnN, Nat.reduceAdd])) only [go_sem, e_go, e_cond_bool, e_w_bool, e_step_ite, e_reg_ite, e_regW_ite, e_code_ite, e_block_ite, e_evQ_ite, e_fin_ite, e_pair_ite, Tryz.f42, e1, hat, hw, hyq]
      exact ⟨i, Nat.lt_succ_self i, ⟨by omega, hq'⟩, rfl, by simp [HasE, lk]⟩
    · rw [find_rev_at hg hq hp] at hm2
      simp only at hm2
      rw [hp] at hyq
      simp (disch := first | assumption | omega | exact okR_new | exact okR_one | exact trivial | (simp only [lnA, lnC, lnN]; omega) | (simp only [lnA, lnC, lnN, Nat.reduceAdd])) only [go_sem, e_go, e_cond_bool, e_w_bool, e_step_ite, e_reg_ite, e_regW_ite, e_code_ite, e_block_ite, e_evQ_ite, e_fin_ite, e_pair_ite, Tryz.f42, e1, hat, hw, hyq]
      exact .inl hm2
theorem w_Back1' (r : Ru) (s : List UInt8) (l : List Nat) (lp : LoopState → Option Code → ABlk) (hy : ∀ args m v m', iYh r s l lp args m = some (v, m') → YCall Tryz.prog 4 args m v m') (hl : l.length ≤ s.length + 1) (hs : s.length < 1000000000) (hm : ∀ a ∈ l, a ≤ s.length ∧ s.length ≤ 10000) (o : Option Nat) (ho : l.reverse.find? (trB r s) = o) :
    RCall Tryz.prog 42 [.yld 4, .ptr 3 0 0] (mHd r s l 0 (lp .ready none)) .undef (match o with | some h => mHd r s l (h : Nat) (lp .done (some .ret)) | none => mHd r s l 0 (lp .ready none)) := by
  have h := w_Back1 r s l lp hy hl hs hm
  rw [ho] at h
  cases o <;> exact h
theorem y_Head (r : Ru) (s : List UInt8) (l : List Nat) (ho : okRu r) {g : Operand} {ps : Array Tmp} {asg body : Code} (hrg : Tryz.f12.body.bind rgOf = some (g, ps, asg, body)) {env : List (Nat × AVal)}
    (h2 : lk env 2 = .ptr 0 0 0) (h3 : lk env 3 = .ptr 1 0 0) (h4 : lk env 4 = .ptr 2 0 0) :
    ∀ args m v m', iYh r s l (fun st p => .loop st p ps asg body env 33) args m = some (v, m') → YCall Tryz.prog 4 args m v m' := by
  simp only [Tryz.f12, rgOf, Option.orElse, Option.bind_some, Option.some.injEq, Prod.mk.injEq] at hrg
  obtain ⟨rfl, rfl, rfl, rfl⟩ := hrg
  intro args m v m' h
  obtain ⟨k, q, ⟨hh, hs⟩, rfl, rfl, rfl, rfl⟩ := rimp_spec h
  have hc := cRu_eq r
  have hM := iMat_eq (x := r.trail) (s := s.drop q) ⟨ho.tr, by simp; omega⟩
  have hd : decide ((((s.drop q).length : Nat) : Int) ∈ endsL r.trail (s.drop q) 0) = trB r s q := by unfold trB; rw [decide_eq_decide]; exact trail_at hs hh
  rw [hd] at hM
  have hdl : List.take (s.length - q) (List.drop q s) = s.drop q := List.take_of_length_le (by simp)
  cases hp : trB r s q
  · rw [hp] at hM
    unfold mHd
    simp only [Bool.false_eq_true, if_false]
    refine YCall.of_w (mu := false) (Γ := gam [(22, .pure iEnds), (23, .pure iCont), (24, .raw iBk), (25, .pure iMat)]) (Sound.pure iEnds_call (Sound.pure iCont_call (Sound.raw iBk_call (Sound.pure iMat_call Sound.nil)))) mixed rfl rfl (by kernel_rfl) rfl rfl (Nat.le_refl _) (Nat.le_refl _) (by kernel_rfl) (by kernel_rfl) ?_
    simp only [bindP, List.zip_cons_cons, List.zip_nil_right, List.foldl_cons, List.foldl_nil]
    simp (disch := first | assumption | omega | exact okR_new | exact okR_one | exact trivial | (simp only [lnA, lnC, lnN]; omega) | (simp only [lnA, lnC, lnN, Nat.reduceAdd])) only [go_sem, e_go, e_cond_bool, e_w_bool, e_step_ite, e_reg_ite, e_regW_ite, e_code_ite, e_block_ite, e_evQ_ite, e_fin_ite, e_pair_ite, Tryz.f12, iEnds_eq, iCont_eq, iBk_eq, iMat_eq, h2, h3, h4, hc, hdl, hM]
    exact ⟨⟨_, _, rfl⟩, rfl, .inl (by simp only [hc]; rfl)⟩
  · rw [hp] at hM
    unfold mHd
    simp only [if_true]
    refine YCall.of_w (mu := false) (Γ := gam [(22, .pure iEnds), (23, .pure iCont), (24, .raw iBk), (25, .pure iMat)]) (Sound.pure iEnds_call (Sound.pure iCont_call (Sound.raw iBk_call (Sound.pure iMat_call Sound.nil)))) mixed rfl rfl (by kernel_rfl) rfl rfl (Nat.le_refl _) (Nat.le_refl _) (by kernel_rfl) (by kernel_rfl) ?_
    simp only [bindP, List.zip_cons_cons, List.zip_nil_right, List.foldl_cons, List.foldl_nil]
    simp (disch := first | assumption | omega | exact okR_new | exact okR_one | exact trivial | (simp only [lnA, lnC, lnN]; omega) | (simp only [lnA, lnC, lnN, Nat.reduceAdd])) only [go_sem, e_go, e_cond_bool, e_w_bool, e_step_ite, e_reg_ite, e_regW_ite, e_code_ite, e_block_ite, e_evQ_ite, e_fin_ite, e_pair_ite, Tryz.f12, iEnds_eq, iCont_eq, iBk_eq, iMat_eq, h2, h3, h4, hc, hdl, hM]
    exact ⟨⟨_, _, rfl⟩, rfl, .inl (by simp only [hc]; rfl)⟩
theorem w_Head (r : Ru) (s : List UInt8) (h : okRu r ∧ s.length < 1000000000) : PCall Tryz.prog 12 [ruV r, .str s] (.int .i64 (headP r s : Nat)) := by
  obtain ⟨ho, hl⟩ := h
  have hE1 : iEnds [rV r.rx, .str s, .int .i64 0] = _ := iEndsN (x := r.rx) (s := s) (i := 0) ⟨ho.rx, by omega⟩
  have hL1 := endsN_len r.rx s 0
  have hLle : ∀ a ∈ endsN r.rx s 0, a ≤ s.length ∧ s.length ≤ 10000 := fun a ha => ⟨(endsN_le ha).2, by
    unfold endsN at ha
    split at ha
    · rename_i h1; exact h1.2.1
    · cases ha⟩
  have hc := cRu_eq r
  have hC := iCont_eq (l := (endsN r.rx s 0).map fun j : Nat => (j : Int)) (v := (s.length : Nat)) (by simp; omega)
  rw [slc_N rfl] at hC
  have hCd : decide (((s.length : Nat) : Int) ∈ (endsN r.rx s 0).map fun j : Nat => (j : Int)) = decide (s.length ∈ endsN r.rx s 0) := by
    rw [decide_eq_decide, List.mem_map]
    constructor
    · rintro ⟨a, h1, h2⟩; have : a = s.length := by omega
      exact this ▸ h1
    · intro h1; exact ⟨_, h1, rfl⟩
  rw [hCd] at hC
  unfold headP
  generalize hL : endsN r.rx s 0 = L at *
  refine PCall.of_w (fn := Tryz.f12) (Γ := gamg [] false yNo 33 [(22, .pure iEnds), (23, .pure iCont), (24, .raw iBk), (25, .pure iMat)]) (mu := false) (Sound.g (Sound.pure iEnds_call (Sound.pure iCont_call (Sound.raw iBk_call (Sound.pure iMat_call Sound.nil))))) mixed Tryz.func12 rfl (by kernel_rfl) (by simp) (by kernel_rfl) ?_
  by_cases hk : r.trail.k = 0
  · have hd : decide (r.trail.k = 0) = true := decide_eq_true hk
    rw [if_pos hk]
    by_cases hm : s.length ∈ L
    · rw [decide_eq_true hm] at hC
      rw [if_pos hm]
      simp (disch := first | assumption | omega | exact okR_new | exact okR_one | exact trivial | (simp only [lnA, lnC, lnN]; omega) | (simp only [lnA, lnC, lnN, Nat.reduceAdd])) only [go_sem, e_go, e_cond_bool, e_w_bool, e_step_ite, e_reg_ite, e_regW_ite, e_code_ite, e_block_ite, e_evQ_ite, e_fin_ite, e_pair_ite, Tryz.f12, iEnds_eq, iCont_eq, iBk_eq, iMat_eq, hc, hE1, hd, hC]
    · rw [decide_eq_false hm] at hC
      rw [if_neg hm]
      simp (disch := first | assumption | omega | exact okR_new | exact okR_one | exact trivial | (simp only [lnA, lnC, lnN]; omega) | (simp only [lnA, lnC, lnN, Nat.reduceAdd])) only [go_sem, e_go, e_cond_bool, e_w_bool, e_step_ite, e_reg_ite, e_regW_ite, e_code_ite, e_block_ite, e_evQ_ite, e_fin_ite, e_pair_ite, Tryz.f12, iEnds_eq, iCont_eq, iBk_eq, iMat_eq, hc, hE1, hd, hC]
      rfl
  · have hd : decide (r.trail.k = 0) = false := decide_eq_false hk
    rw [if_neg hk]
    have hB : iBk [.sl .no L.length (cN L)] ⟨[.cells 0 (cRu r), .cells 0 [.str s], .cells 0 [.int .i64 0]], []⟩ = some (.fn 42 [] [.ptr 3 0 0], ⟨[.cells 0 (cRu r), .cells 0 [.str s], .cells 0 [.int .i64 0], .cells 0 [.sl .no L.length (cN L)]], []⟩) :=
      iBk_eq (G := [.cells 0 (cRu r), .cells 0 [.str s], .cells 0 [.int .i64 0]]) (by simp [shut, cloB, cloL, clo, c_cRu])
    rw [hc] at hB
    simp (disch := first | assumption | omega | exact okR_new | exact okR_one | exact trivial | (simp only [lnA, lnC, lnN]; omega) | (simp only [lnA, lnC, lnN, Nat.reduceAdd])) only [go_sem, e_go, e_cond_bool, e_w_bool, e_step_ite, e_reg_ite, e_regW_ite, e_code_ite, e_block_ite, e_evQ_ite, e_fin_ite, e_pair_ite, Tryz.f12, iEnds_eq, iCont_eq, iBk_eq, iMat_eq, hc, hE1, hd, hB]
    cases hf : L.reverse.find? (trB r s) with
    | none =>
      refine w_rangeFunc 42 [] [.ptr 3 0 0] .undef (mHd r s L 0 _) .ready none rfl ?_ rfl (by decide) ?_
      · rw [← hc]
        exact w_Back1' r s L (fun st p => .loop st p _ _ _ _ 33) (y_Head r s L ho (by rfl) (by rfl) (by rfl) (by rfl)) hL1 hl hLle none hf
      · simp (disch := first | assumption | omega | exact okR_new | exact okR_one | exact trivial | (simp only [lnA, lnC, lnN]; omega) | (simp only [lnA, lnC, lnN, Nat.reduceAdd])) only [go_sem, e_go, e_cond_bool, e_w_bool, e_step_ite, e_reg_ite, e_regW_ite, e_code_ite, e_block_ite, e_evQ_ite, e_fin_ite, e_pair_ite, Tryz.f12, iEnds_eq, iCont_eq, iBk_eq, iMat_eq, hc, pendQ, mHd]
        have hf' : List.find? (fun h => decide (s.length ∈ endsN r.trail s h)) L.reverse = none := hf
        rw [hf']; rfl
    | some q =>
      refine w_rangeFunc 42 [] [.ptr 3 0 0] .undef (mHd r s L (q : Nat) _) .done (some .ret) rfl ?_ rfl (by decide) ?_
      · rw [← hc]
        exact w_Back1' r s L (fun st p => .loop st p _ _ _ _ 33) (y_Head r s L ho (by rfl) (by rfl) (by rfl) (by rfl)) hL1 hl hLle (some q) hf
      · simp (disch := first | assumption | omega | exact okR_new | exact okR_one | exact trivial | (simp only [lnA, lnC, lnN]; omega) | (simp only [lnA, lnC, lnN, Nat.reduceAdd])) only [go_sem, e_go, e_cond_bool, e_w_bool, e_step_ite, e_reg_ite, e_regW_ite, e_code_ite, e_block_ite, e_evQ_ite, e_fin_ite, e_pair_ite, Tryz.f12, iEnds_eq, iCont_eq, iBk_eq, iMat_eq, hc, pendQ, mHd]
        have hf' : List.find? (fun h => decide (s.length ∈ endsN r.trail s h)) L.reverse = some q := hf
        rw [hf']; rfl
noncomputable def iHe : List AVal → Option AVal := pimp fun xs r => ∃ (u : Ru) (s : List UInt8), (okRu u ∧ s.length < 1000000000) ∧ xs = [ruV u, .str s] ∧ r = .int .i64 (headP u s : Nat)
theorem iHe_eq {u : Ru} {s : List UInt8} (h : okRu u ∧ s.length < 1000000000) : iHe [ruV u, .str s] = some (.int .i64 (headP u s : Nat)) := pimp_eq ⟨u, s, h, rfl, rfl⟩ (by rintro _ ⟨u', s', h', e, rfl⟩; have e0 := ruV_inj h.1 h'.1 (List.cons.inj e).1; have e1 := AVal.str.inj (List.cons.inj (List.cons.inj e).2).1; subst e0 e1; rfl)
theorem iHe_call : ∀ xs v, iHe xs = some v → PCall Tryz.prog 12 xs v := fun xs v h0 => by obtain ⟨u, s, h, rfl, rfl⟩ := pimp_spec h0; exact w_Head u s h
end Go.Hk.MZ
namespace Go.Hk.MZ
open Go.Proofs

theorem w_Bol (w : List UInt8) (i : Nat) (h : i ≤ w.length ∧ w.length < 1000000000) : PCall Tryz.prog 34 [.str w, .int .i64 (i : Nat)] (.bool (bolB w i)) := by
  obtain ⟨hi, hl⟩ := h
  unfold bolB
  refine PCall.of_w (fn := Tryz.f34) (Γ := gam []) (mu := false) Sound.nil mixed Tryz.func34 rfl (by kernel_rfl) (by simp) (by kernel_rfl) ?_
  by_cases h0 : i = 0
  · subst h0
    simp (disch := first | assumption | omega | exact okR_new | exact okR_one | exact trivial | (simp only [lnA, lnC, lnN]; omega) | (simp only [lnA, lnC, lnN, Nat.reduceAdd])) only [go_sem, e_go, e_cond_bool, e_w_bool, e_step_ite, e_reg_ite, e_regW_ite, e_code_ite, e_block_ite, e_evQ_ite, e_fin_ite, e_pair_ite, Tryz.f34]
    simp
  · obtain ⟨j, rfl⟩ : ∃ j, i = j + 1 := ⟨i - 1, by omega⟩
    have hg : w[j]? = some w[j] := by simp
    have hd : decide (((j + 1 : Nat) : Int) = 0) = false := decide_eq_false (by omega)
    have hw : IntKind.i64.wrap (((j + 1 : Nat) : Int) - 1) = (j : Nat) := by rw [IntWalk.i64_in _ (by omega)]; omega
    have hgd : w.getD (j + 1 - 1) 0 = w[j] := by simp [List.getD_eq_getElem?_getD, hg]
    rw [hgd]
    generalize w[j] = b at *
    have e : decide (((b.toNat : Nat) : Int) = 10) = decide (b = 10) := by
      rw [decide_eq_decide]
      constructor
      · intro h; exact UInt8.toNat_inj.1 (by show b.toNat = 10; omega)
      · rintro rfl; rfl
    simp (disch := first | assumption | omega | exact okR_new | exact okR_one | exact trivial | (simp only [lnA, lnC, lnN]; omega) | (simp only [lnA, lnC, lnN, Nat.reduceAdd])) only [go_sem, e_go, e_cond_bool, e_w_bool, e_step_ite, e_reg_ite, e_regW_ite, e_code_ite, e_block_ite, e_evQ_ite, e_fin_ite, e_pair_ite, Tryz.f34, hd, hw, hg, e]
    simp
noncomputable def iBol : List AVal → Option AVal := pimp fun xs r => ∃ (w : List UInt8) (i : Nat), (i ≤ w.length ∧ w.length < 1000000000) ∧ xs = [.str w, .int .i64 (i : Nat)] ∧ r = .bool (bolB w i)
theorem iBol_eq {w : List UInt8} {i : Nat} (h : i ≤ w.length ∧ w.length < 1000000000) : iBol [.str w, .int .i64 (i : Nat)] = some (.bool (bolB w i)) := pimp_eq ⟨w, i, h, rfl, rfl⟩ (by rintro _ ⟨w', i', h', e, rfl⟩; have e0 := AVal.str.inj (List.cons.inj e).1; have e1 := (AVal.int.inj (List.cons.inj (List.cons.inj e).2).1).2; have e1 := Int.ofNat.inj e1; subst e0 e1; rfl)
theorem iBol_call : ∀ xs v, iBol xs = some v → PCall Tryz.prog 34 xs v := fun xs v h0 => by obtain ⟨w, i, h, rfl, rfl⟩ := pimp_spec h0; exact w_Bol w i h
theorem w_MRight (s : Sp) (w : List UInt8) (h : okSp s ∧ w.length < 1000000000) : PCall Tryz.prog 19 [sV s, .str w] (.bool (decide ((w.length : Int) ≤ 10000) && rightS s)) := by
  obtain ⟨hs, hl⟩ := h
  have hcs := cSp_eq s
  refine PCall.of_w (fn := Tryz.f19) (Γ := gam [(32, .pure iR6)]) (mu := false) (Sound.pure iR6_call Sound.nil) mixed Tryz.func19 rfl (by kernel_rfl) (by simp) (by kernel_rfl) ?_
  cases hd : decide ((w.length : Int) ≤ 10000)
  · simp (disch := first | assumption | omega | exact okR_new | exact okR_one | exact trivial | (simp only [lnA, lnC, lnN]; omega) | (simp only [lnA, lnC, lnN, Nat.reduceAdd])) only [go_sem, e_go, e_cond_bool, e_w_bool, e_step_ite, e_reg_ite, e_regW_ite, e_code_ite, e_block_ite, e_evQ_ite, e_fin_ite, e_pair_ite, Tryz.f19, iR6_eq, hcs, hd]
    rfl
  · simp (disch := first | assumption | omega | exact okR_new | exact okR_one | exact trivial | (simp only [lnA, lnC, lnN]; omega) | (simp only [lnA, lnC, lnN, Nat.reduceAdd])) only [go_sem, e_go, e_cond_bool, e_w_bool, e_step_ite, e_reg_ite, e_regW_ite, e_code_ite, e_block_ite, e_evQ_ite, e_fin_ite, e_pair_ite, Tryz.f19, iR6_eq, hcs, hd]
noncomputable def iMR : List AVal → Option AVal := pimp fun xs r => ∃ (u : Sp) (w : List UInt8), (okSp u ∧ w.length < 1000000000) ∧ xs = [sV u, .str w] ∧ r = .bool (decide ((w.length : Int) ≤ 10000) && rightS u)
theorem iMR_eq {u : Sp} {w : List UInt8} (h : okSp u ∧ w.length < 1000000000) : iMR [sV u, .str w] = some (.bool (decide ((w.length : Int) ≤ 10000) && rightS u)) := pimp_eq ⟨u, w, h, rfl, rfl⟩ (by rintro _ ⟨u', w', h', e, rfl⟩; have e0 := sV_inj h.1 h'.1 (List.cons.inj e).1; have e1 := AVal.str.inj (List.cons.inj (List.cons.inj e).2).1; subst e0 e1; rfl)
theorem iMR_call : ∀ xs v, iMR xs = some v → PCall Tryz.prog 19 xs v := fun xs v h0 => by obtain ⟨u, w, h, rfl, rfl⟩ := pimp_spec h0; exact w_MRight u w h
theorem w_Eof (s : Sp) (c : Int) (h : okSp s) : PCall Tryz.prog 21 [sV s, .int .i64 c] (.int .i64 (eofP s c)) := by
  have hcs := cSp_eq s
  have hl := h.nr
  have hl2 := h.nc
  refine PCall.of_w (fn := Tryz.f21) (Γ := gam [(36, .pure iAct)]) (mu := false) (Sound.pure iAct_call Sound.nil) mixed Tryz.func21 rfl (by kernel_rfl) (by simp) (by kernel_rfl) ?_
  simp (disch := first | assumption | omega | exact okR_new | exact okR_one | exact trivial | (simp only [lnA, lnC, lnN]; omega) | (simp only [lnA, lnC, lnN, Nat.reduceAdd])) only [go_sem, e_go, e_cond_bool, e_w_bool, e_step_ite, e_reg_ite, e_regW_ite, e_code_ite, e_block_ite, e_evQ_ite, e_fin_ite, e_pair_ite, Tryz.f21, iAct_eq, hcs]
  refine w_loopc [4] [10] (fun i : Nat => s.rules.length - i) (fun i => i ≤ s.rules.length ∧ eofTo s c i = none) (fun i => ⟨[.cells 0 (cSp s)], []⟩)
    (fun i => [(10, .int .i64 (i : Nat))]) 0 (fun _ => rfl) (by kernel_rfl) ⟨Nat.zero_le _, rfl⟩ ⟨[], [], by simp [hcs]⟩ (by simp [HasE, lk]) ?_ ?_
  · rintro i ⟨hi, hq⟩
    simp (disch := assumption) [cloE, clo, cloL, cloB, c_Rno, c_Rfull, c_append, c_flCd, c_flRu, cSp_eq, c_sV]
  rintro i ⟨hi, hq⟩
  by_cases hlt : i < s.rules.length
  · have hg : s.rules[i]? = some s.rules[i] := by simp [hlt]
    have hat := fl_at cRu_len hg
    have hle : i * 22 + 22 ≤ s.rules.length * 22 := by omega
    have hw : IntKind.i64.wrap ((i : Int) + 1) = (i : Int) + 1 := IntWalk.i64_in _ (by omega)
    have hnx : eofTo s c (i + 1) = if (s.rules[i].eof && activeS s (i : Int) c) = true then some i else none := by
      unfold eofTo at hq ⊢
      rw [List.range_succ, List.find?_append, hq]
      simp only [List.find?_cons, List.find?_nil, hg, Option.none_or]
      cases s.rules[i].eof && activeS s (i : Int) c <;> rfl
    have hA := iAct_eq (u := s) (i := (i : Nat)) (c := c) h
    generalize s.rules[i] = r at *
    have hcr := cRu_eq r
    cases he : r.eof
    · rw [he] at hnx
      simp (disch := first | assumption | omega | exact okR_new | exact okR_one | exact trivial | (simp only [lnA, lnC, lnN]; omega) | (simp only [lnA, lnC, lnN, Nat.reduceAdd])) only [go_sem, e_go, e_cond_bool, e_w_bool, e_step_ite, e_reg_ite, e_regW_ite, e_code_ite, e_block_ite, e_evQ_ite, e_fin_ite, e_pair_ite, Tryz.f21, iAct_eq, hcs, hat, hcr, he, hw]
      exact ⟨i + 1, dn hlt, ⟨hlt, by rw [hnx]; rfl⟩, ⟨[_], [], by simp [hcs]; rfl⟩, by simp [HasE, lk]⟩
    · rw [he] at hnx
      cases ha : activeS s (i : Nat) c
      · rw [ha] at hnx hA
        simp (disch := first | assumption | omega | exact okR_new | exact okR_one | exact trivial | (simp only [lnA, lnC, lnN]; omega) | (simp only [lnA, lnC, lnN, Nat.reduceAdd])) only [go_sem, e_go, e_cond_bool, e_w_bool, e_step_ite, e_reg_ite, e_regW_ite, e_code_ite, e_block_ite, e_evQ_ite, e_fin_ite, e_pair_ite, Tryz.f21, iAct_eq, hcs, hat, hcr, he, hw, hA]
        exact ⟨i + 1, dn hlt, ⟨hlt, by rw [hnx]; rfl⟩, ⟨[_], [], by simp [hcs]; rfl⟩, by simp [HasE, lk]⟩
      · rw [ha] at hnx hA
        have hfin : eofP s c = (i : Nat) := by
          unfold eofP
          have : eofTo s c s.rules.length = some i := by
            unfold eofTo at hnx ⊢
            have e : List.range s.rules.length = List.range (i + 1) ++ (List.range (s.rules.length - (i + 1))).map ((i + 1) + ·) := by
              rw [← List.range_add]
              congr 1; omega
            rw [e, List.find?_append, hnx]; rfl
          rw [this]
        simp (disch := first | assumption | omega | exact okR_new | exact okR_one | exact trivial | (simp only [lnA, lnC, lnN]; omega) | (simp only [lnA, lnC, lnN, Nat.reduceAdd])) only [go_sem, e_go, e_cond_bool, e_w_bool, e_step_ite, e_reg_ite, e_regW_ite, e_code_ite, e_block_ite, e_evQ_ite, e_fin_ite, e_pair_ite, Tryz.f21, iAct_eq, hcs, hat, hcr, he, hw, hA, hfin]
  · have hi' : i = s.rules.length := by omega
    subst hi'
    have hfin : eofP s c = -1 := by unfold eofP; rw [hq]
    simp (disch := first | assumption | omega | exact okR_new | exact okR_one | exact trivial | (simp only [lnA, lnC, lnN]; omega) | (simp only [lnA, lnC, lnN, Nat.reduceAdd])) only [go_sem, e_go, e_cond_bool, e_w_bool, e_step_ite, e_reg_ite, e_regW_ite, e_code_ite, e_block_ite, e_evQ_ite, e_fin_ite, e_pair_ite, Tryz.f21, iAct_eq, hcs, hfin]
noncomputable def iEf : List AVal → Option AVal := pimp fun xs r => ∃ (u : Sp) (c : Int), (okSp u) ∧ xs = [sV u, .int .i64 c] ∧ r = .int .i64 (eofP u c)
theorem iEf_eq {u : Sp} {c : Int} (h : okSp u) : iEf [sV u, .int .i64 c] = some (.int .i64 (eofP u c)) := pimp_eq ⟨u, c, h, rfl, rfl⟩ (by rintro _ ⟨u', c', h', e, rfl⟩; have e0 := sV_inj h h' (List.cons.inj e).1; have e1 := (AVal.int.inj (List.cons.inj (List.cons.inj e).2).1).2; subst e0 e1; rfl)
theorem iEf_call : ∀ xs v, iEf xs = some v → PCall Tryz.prog 21 xs v := fun xs v h0 => by obtain ⟨u, c, h, rfl, rfl⟩ := pimp_spec h0; exact w_Eof u c h
end Go.Hk.MZ
