/- Layer 2: what the statements call. -/
import Derived.Test.YtpncchabnolnkaaHkA17
set_option linter.unusedSimpArgs false
set_option linter.unusedVariables false
namespace Go.Hk.A
open Go.Proofs

noncomputable def iSpl : List AVal → Option AVal := pimp fun xs r => ∃ (l : List Nat), (okS l) ∧ xs = [setsV l] ∧ r = clsV l
theorem iSpl_eq {l : List Nat} (h : okS l) : iSpl [setsV l] = some (clsV l) := pimp_eq ⟨l, h, rfl, rfl⟩ (by rintro _ ⟨l', h', e, rfl⟩; simp only [List.cons.injEq, and_true] at e; rw [setsV_inj h' h e.symm])
theorem iSpl_call : ∀ xs v, iSpl xs = some v → PCall Try.prog 37 xs v := fun xs v h0 => by obtain ⟨l, h, rfl, rfl⟩ := pimp_spec h0; exact w37 l h


theorem clsV_def (l : List Nat) : clsV l = .tup (intV (cls l 256).1) [.int .i64 ((cls l 256).2 : Nat)] := nr rfl
theorem cls_len (l : List Nat) : (cls l 256).1.length = 256 := cn_len _ _
theorem cls_cnt (l : List Nat) : (cls l 256).2 ≤ 256 := cn_cnt _ _
theorem cls_if (l : List Nat) : (if ((cls l 256).2 : Int) < 256 then (cls l 256).2 else 256) = (cls l 256).2 := by have := cls_cnt l; split <;> omega
theorem w33 (l : List Nat) (hl : okS l) : PCall Try.prog 33 [setsV l] (.bool true) := by
  refine PCall.of_w (fn := Try.f33) (Γ := gam [(26, .pure iInts), (35, .pure iLst), (36, .pure iLst), (37, .pure iSpl), (44, .pure iSpl)]) (mu := false) (Sound.pure (con2_call fun a b h k => w26 a b h.1 k.1) (Sound.pure iLst_call (Sound.pure (fun xs v h0 => by obtain ⟨m, n, h, rfl, rfl⟩ := pimp_spec h0; exact w36 m n h) (Sound.pure iSpl_call (Sound.pure (fun xs v h0 => by obtain ⟨l, h, rfl, rfl⟩ := pimp_spec h0; exact w44 l h) Sound.nil))))) mixed Try.func33 rfl (by kernel_rfl) (by simp) (by kernel_rfl) ?_
  have h1 := cls_len l
  have h2 := cls_cnt l
  have h3 : (cls l 256).1.length < 1000000000 := by omega
  have h4 : (leastN (cls l 256).1 (cls l 256).2).length < 1000000000 := by rw [leastN_len]; omega
  have hif := cls_if l
  simp (disch := first | assumption | omega | exact okR_new) only [go_sem, Nat.reduceAdd, Int.reduceEq, Int.reduceLT, Int.reduceLE, Int.reduceNe, Int.reduceAdd, Int.reduceSub, Int.reduceMul, Int.reduceToNat, Nat.reduceMul, Nat.reduceLT, Nat.reduceLeDiff, Nat.reduceEqDiff, ↓reduceIte, reduceCtorEq, Nat.reduceSub, Nat.reduceDiv, Try.f33, ti3, ti4, ti22, ti24, ti32, ti41, iInts_eq, iLst_eq, iSpl_eq, clsV_def, intV_strip, hif]
theorem okS_one : okS [ofN 97 99] := ⟨by decide, fun A hA => by simp at hA; rw [hA]; exact ofN_lt _ _⟩
theorem okS_nil : okS [] := ⟨by decide, fun A hA => by cases hA⟩
theorem aw_cls : (cls [ofN 97 99] 256).2 = 2 ∧ (cls [ofN 97 99] 256).1[97]? = some 1 ∧ (cls [ofN 97 99] 256).1[100]? = some 0 ∧ (cls [] 256).2 = 1 ∧ (cls [] 256).1[255]? = some 0 ∧ leastN (cls [ofN 97 99] 256).1 2 = [0, 97] := by decide +kernel
theorem w32 : PCall Try.prog 32 [] (.bool true) := by
  obtain ⟨a1, a2, a3, a4, a5, a6⟩ := aw_cls
  have l1 := cls_len [ofN 97 99]
  have l2 := cls_len []
  have hS : setL (ofN 97 99) = setsL [ofN 97 99] := by simp [fl]
  have g1 : (intL (cls [ofN 97 99] 256).1)[97]? = some (.int .i64 1) := by simp [intL, a2]
  have g2 : (intL (cls [ofN 97 99] 256).1)[100]? = some (.int .i64 0) := by simp [intL, a3]
  have g3 : (intL (cls [] 256).1)[255]? = some (.int .i64 0) := by simp [intL, a5]
  have a1i : (((cls [ofN 97 99] 256).2 : Nat) : Int) = 2 := by rw [a1]; rfl
  have a4i : (((cls [] 256).2 : Nat) : Int) = 1 := by rw [a4]; rfl
  have o3 : iLst [.sl .no 256 (intL (cls [ofN 97 99] 256).1), .int .i64 2] = some (.sl .no 2 (intL [0, 97])) := by
    have := iLst_eq (m := (cls [ofN 97 99] 256).1) (n := 2) (by omega)
    simp only [intV, l1, show (2 : Int) < 256 by decide, if_true, show (2 : Int).toNat = 2 from rfl, a6] at this
    exact this
  have o4 : iInts [.sl .no 2 (intL [0, 97]), .sl .no 2 [.int .i64 0, .int .i64 97]] = some (.bool true) := iInts_eq (a := [0, 97]) (b := [0, 97]) (by decide) (by decide)
  have o5 : ∀ m, abuildSlice Try.prog false m 32 2 [(0, .int .i64 0), (1, .int .i64 97)] = some (.sl .full 2 [.int .i64 0, .int .i64 97], m) := fun m => by simp [abuildSlice, ti32, ti3, zeroRow, afill, cellsOf, setMany, List.range, List.range.loop]
  have o1 : iSpl [.sl .no 1 (fl setL [ofN 97 99])] = some (clsV [ofN 97 99]) := iSpl_eq okS_one
  have o2 : iSpl [.sl .no 0 []] = some (clsV []) := iSpl_eq okS_nil
  refine PCall.of_w (fn := Try.f32) (Γ := gam [(17, .pure iOf), (26, .pure iInts), (35, .pure iLst), (37, .pure iSpl)]) (mu := false) (Sound.pure (con2_call fun a b _ _ => w17 a b) (Sound.pure (con2_call fun a b h k => w26 a b h.1 k.1) (Sound.pure iLst_call (Sound.pure iSpl_call Sound.nil)))) mixed Try.func32 rfl (by kernel_rfl) (by simp) (by kernel_rfl) ?_
  simp (disch := first | assumption | omega | exact okR_new) only [go_sem, Nat.reduceAdd, Int.reduceEq, Int.reduceLT, Int.reduceLE, Int.reduceNe, Int.reduceAdd, Int.reduceSub, Int.reduceMul, Int.reduceToNat, Nat.reduceMul, Nat.reduceLT, Nat.reduceLeDiff, Nat.reduceEqDiff, ↓reduceIte, reduceCtorEq, Nat.reduceSub, Nat.reduceDiv, Try.f32, ti3, ti4, ti22, ti24, ti32, ti41, iOf_eq, iInts_eq, iLst_eq, iSpl_eq, appSets_mk, hS, o1, o2, clsV_def, intV, l1, l2, intL_strip, a1i, a4i, o3, o4, o5, g1, g2, g3]

noncomputable def iAwk : List AVal → Option AVal := pimp fun xs r => (True) ∧ xs = [] ∧ r = .bool true
theorem iAwk_eq  (h : True) : iAwk [] = some (.bool true) := pimp_eq ⟨h, rfl, rfl⟩ (by rintro _ ⟨h', e, rfl⟩; rfl)
theorem iAwk_call : ∀ xs v, iAwk xs = some v → PCall Try.prog 32 xs v := fun xs v h0 => by obtain ⟨h, rfl, rfl⟩ := pimp_spec h0; exact w32
noncomputable def iSam : List AVal → Option AVal := pimp fun xs r => ∃ (l : List Nat), (okS l) ∧ xs = [setsV l] ∧ r = .bool true
theorem iSam_eq {l : List Nat} (h : okS l) : iSam [setsV l] = some (.bool true) := pimp_eq ⟨l, h, rfl, rfl⟩ (by rintro _ ⟨l', h', e, rfl⟩; rfl)
theorem iSam_call : ∀ xs v, iSam xs = some v → PCall Try.prog 33 xs v := fun xs v h0 => by obtain ⟨l, h, rfl, rfl⟩ := pimp_spec h0; exact w33 l h
theorem cQ_inj {x y : Quad} (h : cQ x = cQ y) : x = y := by
  obtain ⟨a, b, c, d⟩ := x
  obtain ⟨a', b', c', d'⟩ := y
  simp only [cQ, List.cons.injEq, AVal.int.injEq, true_and, and_true] at h
  obtain ⟨h1, h2, h3, h4⟩ := h
  simp only [Quad.mk.injEq]
  omega
def okQ (l : List Quad) : Prop := l.length < 9223372036854775808 ∧ ∀ q ∈ l, quadOK q
noncomputable def iQs : List AVal → Option AVal := pimp fun xs r => ∃ (l : List Quad), (okQ l) ∧ xs = [slc cQ l] ∧ r = setsV (runsQ l)
theorem iQs_eq {l : List Quad} (h : okQ l) : iQs [slc cQ l] = some (setsV (runsQ l)) := pimp_eq ⟨l, h, rfl, rfl⟩ (by rintro _ ⟨l', h', e, rfl⟩; simp only [List.cons.injEq, and_true] at e; rw [slc_inj cQ_len (fun x _ y _ => cQ_inj) e])
theorem iQs_call : ∀ xs v, iQs xs = some v → PCall Try.prog 34 xs v := fun xs v h0 => by obtain ⟨l, h, rfl, rfl⟩ := pimp_spec h0; exact w34 l h.1 h.2
theorem okS_runs (l : List Quad) : okS (runsQ l) := ⟨by simp only [runsQ, List.length_map, List.length_take]; omega, fun A hA => by obtain ⟨q, _, rfl⟩ := List.mem_map.1 hA; exact quadSet_lt q⟩
theorem l8 (l : List Nat) (hl : l.length < 9223372036854775808) (hA : ∀ A ∈ l, A < 2 ^ 256) : PCall Try.prog 8 [setsV l] (.bool true) := by
  have ht := trivial
  refine PCall.of_w (fn := Try.f8) (Γ := gam [(32, .pure iAwk), (33, .pure iSam)]) (mu := false) (Sound.pure iAwk_call (Sound.pure iSam_call Sound.nil)) mixed Try.func8 rfl (by kernel_rfl) (by simp) (by kernel_rfl) ?_
  by_cases h : 12 < l.length
  · simp (disch := first | assumption | omega | exact okR_new) only [go_sem, Nat.reduceAdd, Int.reduceEq, Int.reduceLT, Int.reduceLE, Int.reduceNe, Int.reduceAdd, Int.reduceSub, Int.reduceMul, Int.reduceToNat, Nat.reduceMul, Nat.reduceLT, Nat.reduceLeDiff, Nat.reduceEqDiff, ↓reduceIte, reduceCtorEq, Nat.reduceSub, Nat.reduceDiv, Try.f8, ti3, ti4, ti22, ti24, ti41, iAwk_eq, iSam_eq]
  · have ho : okS l := ⟨by omega, hA⟩
    simp (disch := first | assumption | omega | exact okR_new) only [go_sem, Nat.reduceAdd, Int.reduceEq, Int.reduceLT, Int.reduceLE, Int.reduceNe, Int.reduceAdd, Int.reduceSub, Int.reduceMul, Int.reduceToNat, Nat.reduceMul, Nat.reduceLT, Nat.reduceLeDiff, Nat.reduceEqDiff, ↓reduceIte, reduceCtorEq, Nat.reduceSub, Nat.reduceDiv, Try.f8, ti3, ti4, ti22, ti24, ti41, iAwk_eq, iSam_eq]
theorem l9 (l : List Quad) (hl : okQ l) : PCall Try.prog 9 [slc cQ l] (.bool true) := by
  have ht := trivial
  have ho := okS_runs l
  refine PCall.of_w (fn := Try.f9) (Γ := gam [(32, .pure iAwk), (33, .pure iSam), (34, .pure iQs)]) (mu := false) (Sound.pure iAwk_call (Sound.pure iSam_call (Sound.pure iQs_call Sound.nil))) mixed Try.func9 rfl (by kernel_rfl) (by simp) (by kernel_rfl) ?_
  simp (disch := first | assumption | omega | exact okR_new) only [go_sem, Nat.reduceAdd, Int.reduceEq, Int.reduceLT, Int.reduceLE, Int.reduceNe, Int.reduceAdd, Int.reduceSub, Int.reduceMul, Int.reduceToNat, Nat.reduceMul, Nat.reduceLT, Nat.reduceLeDiff, Nat.reduceEqDiff, ↓reduceIte, reduceCtorEq, Nat.reduceSub, Nat.reduceDiv, Try.f9, ti4, ti5, ti22, ti24, ti41, ti43, ti56, iAwk_eq, iSam_eq, iQs_eq, fl_strip cQ_strip]
theorem l10 (m : List Int) (n : Int) (hm : m.length < 9223372036854775808) : PCall Try.prog 10 [intV m, .int .i64 n] (.bool true) := by
  have ht := trivial
  refine PCall.of_w (fn := Try.f10) (Γ := gam [(26, .pure iInts), (32, .pure iAwk), (35, .pure iLst), (36, .pure iLst)]) (mu := false) (Sound.pure (con2_call fun a b h k => w26 a b h.1 k.1) (Sound.pure iAwk_call (Sound.pure iLst_call (Sound.pure (fun xs v h0 => by obtain ⟨m, n, h, rfl, rfl⟩ := pimp_spec h0; exact w36 m n h) Sound.nil)))) mixed Try.func10 rfl (by kernel_rfl) (by simp) (by kernel_rfl) ?_
  by_cases h : 300 < m.length
  · simp (disch := first | assumption | omega | exact okR_new) only [go_sem, Nat.reduceAdd, Int.reduceEq, Int.reduceLT, Int.reduceLE, Int.reduceNe, Int.reduceAdd, Int.reduceSub, Int.reduceMul, Int.reduceToNat, Nat.reduceMul, Nat.reduceLT, Nat.reduceLeDiff, Nat.reduceEqDiff, ↓reduceIte, reduceCtorEq, Nat.reduceSub, Nat.reduceDiv, Try.f10, ti3, ti4, ti32, iInts_eq, iAwk_eq, iLst_eq, intV]
  · have ho : m.length < 1000000000 := by omega
    have h4 : (leastN m (if n < 256 then n.toNat else 256)).length < 1000000000 := by rw [leastN_len]; split <;> omega
    have e1 := iLst_eq (n := n) ho
    have e2 := iInts_eq h4 h4
    have hs := intV_strip (leastN m (if n < 256 then n.toNat else 256))
    simp only [intV] at e1 e2 hs
    simp (disch := first | assumption | omega | exact okR_new) only [go_sem, Nat.reduceAdd, Int.reduceEq, Int.reduceLT, Int.reduceLE, Int.reduceNe, Int.reduceAdd, Int.reduceSub, Int.reduceMul, Int.reduceToNat, Nat.reduceMul, Nat.reduceLT, Nat.reduceLeDiff, Nat.reduceEqDiff, ↓reduceIte, reduceCtorEq, Nat.reduceSub, Nat.reduceDiv, Try.f10, ti3, ti4, ti32, iInts_eq, iAwk_eq, iLst_eq, intV, e1, e2, hs, intL_strip]
end Go.Hk.A
