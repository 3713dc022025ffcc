/- Layer 3: deep and long patterns answer both ways. -/
import Derived.Test.YtbnhflckmfmkoaaDoorHkCDM4
set_option linter.unusedSimpArgs false
set_option linter.unusedVariables false
set_option maxRecDepth 20000
namespace Go.Hk.CD
open Go.Proofs

def repX (z : Rx) (n : Nat) : List Rx := List.replicate n z
theorem repX_len {z : Rx} {n : Nat} : (repX z n).length = n := List.length_replicate
theorem repX_next {z : Rx} {n : Nat} : repX z (n + 1) = repX z n ++ [z] := List.replicate_succ'
theorem repX_ok {k : Int} {z : Rx} {n : Nat} (hk : 0 ≤ k ∧ k < 10) (hz : okX z) (hn : n < 1000000) : okX (.mk k 0 0 0 (repX z n)) :=
  .mk (by omega) (by omega) (by omega) (by omega) (by rw [repX_len]; exact hn) (fun y hy => by
    have := List.eq_of_mem_replicate hy
    rw [this]; exact hz)
def deepR : Nat → Rx
  | 0 => chX 97
  | n + 1 => .mk 5 0 0 1 [deepR n]
theorem deepR_ok : ∀ n, okX (deepR n)
  | 0 => chX_ok 97
  | n + 1 => .mk (by omega) (by omega) (by omega) (by omega) (by simp) (fun y hy => by
    have := List.mem_singleton.1 hy
    subst this
    exact deepR_ok n)
def deepC : Nat → List AVal
  | 0 => cR (chX 97)
  | n + 1 => [.int .i64 5, .int .u64 0, .int .u64 0, .int .u64 0, .int .u64 0, .int .i64 0, .int .i64 1, .sl .full 1 (deepC n)]
def nulX : Rx := .mk 1 0 0 0 []
theorem nulX_ok : okX nulX := .mk (by omega) (by omega) (by omega) (by omega) (by simp) (fun y hy => by cases hy)
def cN (_ : Unit) : List AVal := [.int .i64 1, .int .u64 0, .int .u64 0, .int .u64 0, .int .u64 0, .int .i64 0, .int .i64 0, .sl .nil 0 []]
def vN (x : Unit) : AVal := .agg (cN x)
theorem cN_len (x : Unit) : (cN x).length = 8 := rfl
theorem apN_T : appT Tryd.prog 25 25 = some ⟨27, 8, 80⟩ := by kernel_rfl
theorem apN_one {H : List ABlk} {T : List (Nat × (Nat × Nat))} {r r' : Rt} {l} {x} (hr : okR T r (l.length * 8) (8, 27) = true) (hn : l.length + 1 < 1000000000) : aappend Tryd.prog 25 25 ⟨H, T⟩ (.sl r l.length (fl cN l)) (.sl r' 1 (cN x)) = some (.sl (nxR T r) (l ++ [x]).length (fl cN (l ++ [x])), ⟨H, nxT T r ((l ++ [x]).length * 8) (8, 27)⟩) := app_fl apN_T (by decide) cN_len rfl hr hn
theorem apN_all {H : List ABlk} {T : List (Nat × (Nat × Nat))} {r r' : Rt} {l l'} (hr : okR T r (l.length * 8) (8, 27) = true) (hf : r = .full → l.length = 0 ∨ 0 < l'.length) (hn : l.length + l'.length < 1000000000) : aappend Tryd.prog 25 25 ⟨H, T⟩ (.sl r l.length (fl cN l)) (.sl r' l'.length (fl cN l')) = some (.sl (nxR T r) (l ++ l').length (fl cN (l ++ l')), ⟨H, nxT T r ((l ++ l').length * 8) (8, 27)⟩) := app_fls apN_T (by decide) cN_len hr hf hn
theorem apN_mk (mu : Bool) (m : AMem) {x} : abuildSlice Tryd.prog mu m 25 1 [(0, vN x)] = some (.sl .full 1 (cN x), m) := build_one ti25 ti27 rfl rfl (cN_len x) rfl (by decide) (by decide)
theorem bNul {m : AMem} : abuildSlice Tryd.prog false m 25 1 [(0, .agg [.int .i64 1, .int .u64 0, .int .u64 0, .int .u64 0, .int .u64 0, .int .i64 0, .int .i64 0, .sl .nil 0 []])] = some (.sl .full 1 (cN ()), m) := apN_mk false m (x := ())
def repU (n : Nat) : List Unit := List.replicate n ()
theorem repU_len {n : Nat} : (repU n).length = n := List.length_replicate
theorem repU_next {n : Nat} : repU (n + 1) = repU n ++ [()] := List.replicate_succ'
theorem cN_strip : ∀ n, stripL (fl cN (List.replicate n ())) = some (fl cR (List.replicate n nulX))
  | 0 => rfl
  | n + 1 => by
    rw [List.replicate_succ, List.replicate_succ, fl_cons, fl_cons]
    exact s_append (by simp only [cN, nulX, cR, cRs, setL, stripL, strip]; rfl) (cN_strip n)
theorem rV_rep2 {lo hi q h : Int} {x : Rx} : AVal.agg [.int .i64 5, .int .u64 0, .int .u64 0, .int .u64 0, .int .u64 0, .int .i64 lo, .int .i64 hi, .sl .no 1 [.int .i64 5, .int .u64 0, .int .u64 0, .int .u64 0, .int .u64 0, .int .i64 q, .int .i64 h, .sl .no 1 (cR x)]] = rV (.mk 5 0 lo hi [.mk 5 0 q h [x]]) := by
  rw [← rV_rep (x := .mk 5 0 q h [x]), cR, cRs_fl]
  have : fl cR [x] = cR x := by simp [fl]
  rw [this]
  rfl
theorem repY_ok {n q : Nat} (hn : n < 100) (hq : q < 100) : okX (.mk 5 0 1 (1 + (n : Nat)) [.mk 5 0 (q : Nat) (-1) [chX 98]]) :=
  .mk (by omega) (by omega) (by omega) (by omega) (by simp) (fun y hy => by
    have := List.mem_singleton.1 hy
    subst this
    exact .mk (by omega) (by omega) (by omega) (by omega) (by simp) (fun y hy => by
      have := List.mem_singleton.1 hy
      subst this
      exact chX_ok 98))
theorem deepC_strip : ∀ n, stripL (deepC n) = some (cR (deepR n))
  | 0 => cR_strip _
  | n + 1 => by
    have h := deepC_strip n
    simp only [deepC, stripL, strip, h]
    simp only [deepR, cR, cRs, List.append_nil]
    rfl
theorem set8 {x : Rx} {a b c d e f g h : AVal} : ((((((((cR x).set 0 a).set 1 b).set 2 c).set 3 d).set 4 e).set 5 f).set 6 g).set 7 h = [a, b, c, d, e, f, g, h] := by
  rw [cR_eq]; rfl
theorem w_RxDeep (a b c : Nat) (ha : a < 256) (hb : b < 256) (hc : c < 256) : PCall Tryd.prog 6 [.int .u8 (a : Nat), .int .u8 (b : Nat), .int .u8 (c : Nat)] (.bool true) := by
  have m3 : ((b : Nat) : Int).tmod 3 = ((b % 3 : Nat) : Int) := by rw [Int.tmod_eq_emod_of_nonneg (by omega)]; rfl
  have hb3 : b % 3 < 3 := by omega
  generalize b % 3 = k at *
  by_cases k0 : k = 0
  · subst k0
    have m30 : ((a : Nat) : Int).tmod 30 = ((a % 30 : Nat) : Int) := by rw [Int.tmod_eq_emod_of_nonneg (by omega)]; rfl
    have ha30 : a % 30 < 30 := by omega
    generalize a % 30 = n at *
    refine PCall.of_w (fn := Tryd.f6) (Γ := gam [(8, .pure iAw), (10, .pure iSame), (13, .pure iChr)]) (mu := false) (Sound.pure iAw_call (Sound.pure iSame_call (Sound.pure iChr_call Sound.nil))) mixed Tryd.func6 rfl (by kernel_rfl) (by simp) (by kernel_rfl) ?_
    simp (disch := first | assumption | omega | exact okR_new | exact okR_one | exact trivial | (simp only [List.length_append, List.length_cons, List.length_nil]; omega) | (simp only [List.length_append, List.length_cons, List.length_nil, Nat.reduceAdd])) only [go_sem, Bool.and_true, Bool.true_and, Nat.reduceAdd, Int.reduceEq, Int.reduceLT, Int.reduceLE, Int.reduceNe, Int.reduceAdd, Int.reduceSub, Int.reduceMul, Int.reduceToNat, Nat.reduceMul, Nat.reduceLT, Nat.reduceLeDiff, Nat.reduceEqDiff, ↓reduceIte, reduceCtorEq, Nat.reduceSub, Nat.reduceDiv, e_go, e_cond_bool, e_w_bool, e_step_ite, e_reg_ite, e_regW_ite, e_code_ite, e_block_ite, e_evQ_ite, e_fin_ite, e_pair_ite, Tryd.f6, ti3, ti4, ti5, ti22, ti24, ti25, ti27, iAw_eq, iSame_eq, iChr_eq, m3, m30]
    refine w_loop [] [8] (fun i : Nat => n - i) (fun i => i ≤ n) (fun i => ⟨[.cells 0 (deepC i)], []⟩) (fun i => [(8, .int .i64 (i : Nat))]) 0 (fun _ => rfl) (by kernel_rfl) (by simp) (by simp [deepC]) (by simp [HasE, lk]) ?_
    intro i hi
    by_cases h : i < n
    · cases i with
      | zero =>
        have hd : deepC 0 = cR (chX 97) := rfl
        simp (disch := first | assumption | omega | exact okR_new | exact okR_one | exact trivial | (simp only [List.length_append, List.length_cons, List.length_nil]; omega) | (simp only [List.length_append, List.length_cons, List.length_nil, Nat.reduceAdd])) only [go_sem, Bool.and_true, Bool.true_and, Nat.reduceAdd, Int.reduceEq, Int.reduceLT, Int.reduceLE, Int.reduceNe, Int.reduceAdd, Int.reduceSub, Int.reduceMul, Int.reduceToNat, Nat.reduceMul, Nat.reduceLT, Nat.reduceLeDiff, Nat.reduceEqDiff, ↓reduceIte, reduceCtorEq, Nat.reduceSub, Nat.reduceDiv, e_go, e_cond_bool, e_w_bool, e_step_ite, e_reg_ite, e_regW_ite, e_code_ite, e_block_ite, e_evQ_ite, e_fin_ite, e_pair_ite, Tryd.f6, ti3, ti4, ti5, ti22, ti24, ti25, ti27, iAw_eq, iSame_eq, iChr_eq, m3, m30, hd, bR1, set8]
        refine ⟨1, by simp only; omega, by simp only; omega, by simp only [deepC], by simp [HasE, lk]⟩
      | succ i =>
        simp only [deepC]
        simp (disch := first | assumption | omega | exact okR_new | exact okR_one | exact trivial | (simp only [List.length_append, List.length_cons, List.length_nil]; omega) | (simp only [List.length_append, List.length_cons, List.length_nil, Nat.reduceAdd])) only [go_sem, Bool.and_true, Bool.true_and, Nat.reduceAdd, Int.reduceEq, Int.reduceLT, Int.reduceLE, Int.reduceNe, Int.reduceAdd, Int.reduceSub, Int.reduceMul, Int.reduceToNat, Nat.reduceMul, Nat.reduceLT, Nat.reduceLeDiff, Nat.reduceEqDiff, ↓reduceIte, reduceCtorEq, Nat.reduceSub, Nat.reduceDiv, e_go, e_cond_bool, e_w_bool, e_step_ite, e_reg_ite, e_regW_ite, e_code_ite, e_block_ite, e_evQ_ite, e_fin_ite, e_pair_ite, Tryd.f6, ti3, ti4, ti5, ti22, ti24, ti25, ti27, iAw_eq, iSame_eq, iChr_eq, m3, m30, bA1]
        refine ⟨i + 1 + 1, by simp only; omega, h, by simp only [deepC], by simp [HasE, lk]⟩
    · have hs : okX (deepR i) ∧ okX (deepR i) := ⟨deepR_ok i, deepR_ok i⟩
      have hst := deepC_strip i
      cases i with
      | zero =>
        have hd : deepC 0 = cR (chX 97) := rfl
        have hd2 : deepR 0 = chX 97 := rfl
        rw [hd2] at hs
        simp (disch := first | assumption | omega | exact okR_new | exact okR_one | exact trivial | (simp only [List.length_append, List.length_cons, List.length_nil]; omega) | (simp only [List.length_append, List.length_cons, List.length_nil, Nat.reduceAdd])) only [go_sem, Bool.and_true, Bool.true_and, Nat.reduceAdd, Int.reduceEq, Int.reduceLT, Int.reduceLE, Int.reduceNe, Int.reduceAdd, Int.reduceSub, Int.reduceMul, Int.reduceToNat, Nat.reduceMul, Nat.reduceLT, Nat.reduceLeDiff, Nat.reduceEqDiff, ↓reduceIte, reduceCtorEq, Nat.reduceSub, Nat.reduceDiv, e_go, e_cond_bool, e_w_bool, e_step_ite, e_reg_ite, e_regW_ite, e_code_ite, e_block_ite, e_evQ_ite, e_fin_ite, e_pair_ite, Tryd.f6, ti3, ti4, ti5, ti22, ti24, ti25, ti27, iAw_eq, iSame_eq, iChr_eq, m3, m30, hd]
      | succ i =>
        simp only [deepC] at *
        simp (disch := first | assumption | omega | exact okR_new | exact okR_one | exact trivial | (simp only [List.length_append, List.length_cons, List.length_nil]; omega) | (simp only [List.length_append, List.length_cons, List.length_nil, Nat.reduceAdd])) only [go_sem, Bool.and_true, Bool.true_and, Nat.reduceAdd, Int.reduceEq, Int.reduceLT, Int.reduceLE, Int.reduceNe, Int.reduceAdd, Int.reduceSub, Int.reduceMul, Int.reduceToNat, Nat.reduceMul, Nat.reduceLT, Nat.reduceLeDiff, Nat.reduceEqDiff, ↓reduceIte, reduceCtorEq, Nat.reduceSub, Nat.reduceDiv, e_go, e_cond_bool, e_w_bool, e_step_ite, e_reg_ite, e_regW_ite, e_code_ite, e_block_ite, e_evQ_ite, e_fin_ite, e_pair_ite, Tryd.f6, ti3, ti4, ti5, ti22, ti24, ti25, ti27, iAw_eq, iSame_eq, iChr_eq, m3, m30, hst]
  · have m20 : ((a : Nat) : Int).tmod 20 = ((a % 20 : Nat) : Int) := by rw [Int.tmod_eq_emod_of_nonneg (by omega)]; rfl
    have ha20 : a % 20 < 20 := by omega
    by_cases k1 : k = 1
    · subst k1
      generalize a % 20 = n at *
      refine PCall.of_w (fn := Tryd.f6) (Γ := gam [(8, .pure iAw), (10, .pure iSame), (13, .pure iChr)]) (mu := false) (Sound.pure iAw_call (Sound.pure iSame_call (Sound.pure iChr_call Sound.nil))) mixed Tryd.func6 rfl (by kernel_rfl) (by simp) (by kernel_rfl) ?_
      simp (disch := first | assumption | omega | exact okR_new | exact okR_one | exact trivial | (simp only [List.length_append, List.length_cons, List.length_nil]; omega) | (simp only [List.length_append, List.length_cons, List.length_nil, Nat.reduceAdd])) only [go_sem, Bool.and_true, Bool.true_and, Nat.reduceAdd, Int.reduceEq, Int.reduceLT, Int.reduceLE, Int.reduceNe, Int.reduceAdd, Int.reduceSub, Int.reduceMul, Int.reduceToNat, Nat.reduceMul, Nat.reduceLT, Nat.reduceLeDiff, Nat.reduceEqDiff, ↓reduceIte, reduceCtorEq, Nat.reduceSub, Nat.reduceDiv, e_go, e_cond_bool, e_w_bool, e_step_ite, e_reg_ite, e_regW_ite, e_code_ite, e_block_ite, e_evQ_ite, e_fin_ite, e_pair_ite, Tryd.f6, ti3, ti4, ti5, ti22, ti24, ti25, ti27, iAw_eq, iSame_eq, iChr_eq, m3, m20, set8]
      refine w_loop [] [9] (fun x : Ls => 190 + n - x.i) (fun x => x.i ≤ 190 + n ∧ okR x.T x.r ((repX (chX 97) x.i).length * 8) (8, 27) = true ∧ x.r ≠ .full)
        (fun x => ⟨[.cells 0 [.int .i64 3, .int .u64 0, .int .u64 0, .int .u64 0, .int .u64 0, .int .i64 0, .int .i64 0, .sl x.r (repX (chX 97) x.i).length (fl cR (repX (chX 97) x.i))]], x.T⟩)
        (fun x => [(9, .int .i64 (x.i : Nat))]) ⟨0, .nil, []⟩ (fun _ => rfl) (by kernel_rfl) (by simp [okR, repX]) (by simp [repX, fl]) (by simp [HasE, lk]) ?_
      rintro ⟨i, r, T⟩ ⟨hi, hr, hne⟩
      simp only at hi hr hne
      have hM := repX_len (z := (chX 97)) (n := i)
      have hnx := repX_next (z := (chX 97)) (n := i)
      by_cases h : i < 190 + n
      · have hi2 : (i : Int) < 190 + n := by omega
        generalize repX (chX 97) i = M at *
        have hlen : M.length * 8 + 8 < 16777216 := by omega
        simp (disch := first | assumption | omega | exact okR_new | exact okR_one | exact trivial | (simp only [List.length_append, List.length_cons, List.length_nil]; omega) | (simp only [List.length_append, List.length_cons, List.length_nil, Nat.reduceAdd])) only [go_sem, Bool.and_true, Bool.true_and, Nat.reduceAdd, Int.reduceEq, Int.reduceLT, Int.reduceLE, Int.reduceNe, Int.reduceAdd, Int.reduceSub, Int.reduceMul, Int.reduceToNat, Nat.reduceMul, Nat.reduceLT, Nat.reduceLeDiff, Nat.reduceEqDiff, ↓reduceIte, reduceCtorEq, Nat.reduceSub, Nat.reduceDiv, e_go, e_cond_bool, e_w_bool, e_step_ite, e_reg_ite, e_regW_ite, e_code_ite, e_block_ite, e_evQ_ite, e_fin_ite, e_pair_ite, Tryd.f6, ti3, ti4, ti5, ti22, ti24, ti25, ti27, iAw_eq, iSame_eq, iChr_eq, m3, m20, bR1, apX_one]
        refine ⟨⟨i + 1, nxR T r, nxT T r ((M ++ [(chX 97)]).length * 8) (8, 27)⟩, ?_, ⟨h, ?_, nxR_ne⟩, ?_, ?_⟩
        · show 190 + n - (i + 1) < 190 + n - i
          omega
        · show okR _ _ ((repX (chX 97) (i + 1)).length * 8) _ = true
          rw [hnx]; exact okR_app hr
        · simp only [hnx, List.length_append, List.length_cons, List.length_nil]
        · simp [HasE, lk]
      · have hi' : i = 190 + n := by omega
        have hi2 : ¬ (i : Int) < 190 + n := by omega
        have hok := repX_ok (k := 3) (n := i) (by omega) (chX_ok 97) (by omega)
        have m2 : ((c : Nat) : Int).tmod 2 = ((c % 2 : Nat) : Int) := by rw [Int.tmod_eq_emod_of_nonneg (by omega)]; rfl
        have m22 : ((c : Nat) : Int).tmod 22 = ((c % 22 : Nat) : Int) := by rw [Int.tmod_eq_emod_of_nonneg (by omega)]; rfl
        generalize repX (chX 97) i = M at *
        have hs : okX (.mk 3 0 0 0 M) ∧ okX (.mk 3 0 0 0 M) := ⟨hok, hok⟩
        by_cases hc2 : c % 2 = 1
        · have hc22 : c % 22 < 22 := by omega
          rw [hc2] at m2
          generalize c % 22 = q at *
          have hok3 : okX (.mk 5 0 1 (1 + (n : Nat)) [.mk 5 0 (q : Nat) (-1) [chX 98]]) := repY_ok (by omega) (by omega)
          have hs : okX (.mk 5 0 1 (1 + (n : Nat)) [.mk 5 0 (q : Nat) (-1) [chX 98]]) ∧ okX (.mk 5 0 1 (1 + (n : Nat)) [.mk 5 0 (q : Nat) (-1) [chX 98]]) := ⟨hok3, hok3⟩
          simp (disch := first | assumption | omega | exact okR_new | exact okR_one | exact trivial | (simp only [List.length_append, List.length_cons, List.length_nil]; omega) | (simp only [List.length_append, List.length_cons, List.length_nil, Nat.reduceAdd])) only [go_sem, Bool.and_true, Bool.true_and, Nat.reduceAdd, Int.reduceEq, Int.reduceLT, Int.reduceLE, Int.reduceNe, Int.reduceAdd, Int.reduceSub, Int.reduceMul, Int.reduceToNat, Nat.reduceMul, Nat.reduceLT, Nat.reduceLeDiff, Nat.reduceEqDiff, ↓reduceIte, reduceCtorEq, Nat.reduceSub, Nat.reduceDiv, e_go, e_cond_bool, e_w_bool, e_step_ite, e_reg_ite, e_regW_ite, e_code_ite, e_block_ite, e_evQ_ite, e_fin_ite, e_pair_ite, Tryd.f6, ti3, ti4, ti5, ti22, ti24, ti25, ti27, iAw_eq, iSame_eq, iChr_eq, m3, m20, m2, m22, bR1, bA1, rV_rep2]
        · have hc0 : c % 2 = 0 := by omega
          rw [hc0] at m2
          simp (disch := first | assumption | omega | exact okR_new | exact okR_one | exact trivial | (simp only [List.length_append, List.length_cons, List.length_nil]; omega) | (simp only [List.length_append, List.length_cons, List.length_nil, Nat.reduceAdd])) only [go_sem, Bool.and_true, Bool.true_and, Nat.reduceAdd, Int.reduceEq, Int.reduceLT, Int.reduceLE, Int.reduceNe, Int.reduceAdd, Int.reduceSub, Int.reduceMul, Int.reduceToNat, Nat.reduceMul, Nat.reduceLT, Nat.reduceLeDiff, Nat.reduceEqDiff, ↓reduceIte, reduceCtorEq, Nat.reduceSub, Nat.reduceDiv, e_go, e_cond_bool, e_w_bool, e_step_ite, e_reg_ite, e_regW_ite, e_code_ite, e_block_ite, e_evQ_ite, e_fin_ite, e_pair_ite, Tryd.f6, ti3, ti4, ti5, ti22, ti24, ti25, ti27, iAw_eq, iSame_eq, iChr_eq, m3, m20, m2, rV_kids]
    · have k2 : k = 2 := by omega
      subst k2
      generalize a % 20 = n at *
      refine PCall.of_w (fn := Tryd.f6) (Γ := gam [(8, .pure iAw), (10, .pure iSame), (13, .pure iChr)]) (mu := false) (Sound.pure iAw_call (Sound.pure iSame_call (Sound.pure iChr_call Sound.nil))) mixed Tryd.func6 rfl (by kernel_rfl) (by simp) (by kernel_rfl) ?_
      simp (disch := first | assumption | omega | exact okR_new | exact okR_one | exact trivial | (simp only [List.length_append, List.length_cons, List.length_nil]; omega) | (simp only [List.length_append, List.length_cons, List.length_nil, Nat.reduceAdd])) only [go_sem, Bool.and_true, Bool.true_and, Nat.reduceAdd, Int.reduceEq, Int.reduceLT, Int.reduceLE, Int.reduceNe, Int.reduceAdd, Int.reduceSub, Int.reduceMul, Int.reduceToNat, Nat.reduceMul, Nat.reduceLT, Nat.reduceLeDiff, Nat.reduceEqDiff, ↓reduceIte, reduceCtorEq, Nat.reduceSub, Nat.reduceDiv, e_go, e_cond_bool, e_w_bool, e_step_ite, e_reg_ite, e_regW_ite, e_code_ite, e_block_ite, e_evQ_ite, e_fin_ite, e_pair_ite, Tryd.f6, ti3, ti4, ti5, ti22, ti24, ti25, ti27, iAw_eq, iSame_eq, iChr_eq, m3, m20, set8]
      refine w_loop [] [10] (fun x : Ls => 990 + n - x.i) (fun x => x.i ≤ 990 + n ∧ okR x.T x.r ((repU x.i).length * 8) (8, 27) = true ∧ x.r ≠ .full)
        (fun x => ⟨[.cells 0 [.int .i64 4, .int .u64 0, .int .u64 0, .int .u64 0, .int .u64 0, .int .i64 0, .int .i64 0, .sl x.r (repU x.i).length (fl cN (repU x.i))]], x.T⟩)
        (fun x => [(10, .int .i64 (x.i : Nat))]) ⟨0, .nil, []⟩ (fun _ => rfl) (by kernel_rfl) (by simp [okR, repU]) (by simp [repU, fl]) (by simp [HasE, lk]) ?_
      rintro ⟨i, r, T⟩ ⟨hi, hr, hne⟩
      simp only at hi hr hne
      have hM := repU_len (n := i)
      have hnx := repU_next (n := i)
      by_cases h : i < 990 + n
      · have hi2 : (i : Int) < 990 + n := by omega
        generalize repU i = M at *
        have hlen : M.length * 8 + 8 < 16777216 := by omega
        simp (disch := first | assumption | omega | exact okR_new | exact okR_one | exact trivial | (simp only [List.length_append, List.length_cons, List.length_nil]; omega) | (simp only [List.length_append, List.length_cons, List.length_nil, Nat.reduceAdd])) only [go_sem, Bool.and_true, Bool.true_and, Nat.reduceAdd, Int.reduceEq, Int.reduceLT, Int.reduceLE, Int.reduceNe, Int.reduceAdd, Int.reduceSub, Int.reduceMul, Int.reduceToNat, Nat.reduceMul, Nat.reduceLT, Nat.reduceLeDiff, Nat.reduceEqDiff, ↓reduceIte, reduceCtorEq, Nat.reduceSub, Nat.reduceDiv, e_go, e_cond_bool, e_w_bool, e_step_ite, e_reg_ite, e_regW_ite, e_code_ite, e_block_ite, e_evQ_ite, e_fin_ite, e_pair_ite, Tryd.f6, ti3, ti4, ti5, ti22, ti24, ti25, ti27, iAw_eq, iSame_eq, iChr_eq, m3, m20, bNul, apN_one]
        refine ⟨⟨i + 1, nxR T r, nxT T r ((M ++ [()]).length * 8) (8, 27)⟩, ?_, ⟨h, ?_, nxR_ne⟩, ?_, ?_⟩
        · show 990 + n - (i + 1) < 990 + n - i
          omega
        · show okR _ _ ((repU (i + 1)).length * 8) _ = true
          rw [hnx]; exact okR_app hr
        · simp only [hnx, List.length_append, List.length_cons, List.length_nil]
        · simp [HasE, lk]
      · have hi' : i = 990 + n := by omega
        have hi2 : ¬ (i : Int) < 990 + n := by omega
        have hok := repX_ok (k := 4) (n := i) (by omega) nulX_ok (by omega)
        have hst := cN_strip i
        have hl2 := repX_len (z := nulX) (n := i)
        have hst : stripL (fl cN (repU i)) = some (fl cR (repX nulX i)) := hst
        generalize repX nulX i = K at *
        have hfold : AVal.agg [.int .i64 4, .int .u64 0, .int .u64 0, .int .u64 0, .int .u64 0, .int .i64 0, .int .i64 0, .sl .no (repU i).length (fl cR K)] = rV (.mk 4 0 0 0 K) := by rw [hM, ← hl2]; exact rV_kids
        generalize repU i = M at *
        have hs : okX (.mk 4 0 0 0 K) ∧ okX (.mk 4 0 0 0 K) := ⟨hok, hok⟩
        simp (disch := first | assumption | omega | exact okR_new | exact okR_one | exact trivial | (simp only [List.length_append, List.length_cons, List.length_nil]; omega) | (simp only [List.length_append, List.length_cons, List.length_nil, Nat.reduceAdd])) only [go_sem, Bool.and_true, Bool.true_and, Nat.reduceAdd, Int.reduceEq, Int.reduceLT, Int.reduceLE, Int.reduceNe, Int.reduceAdd, Int.reduceSub, Int.reduceMul, Int.reduceToNat, Nat.reduceMul, Nat.reduceLT, Nat.reduceLeDiff, Nat.reduceEqDiff, ↓reduceIte, reduceCtorEq, Nat.reduceSub, Nat.reduceDiv, e_go, e_cond_bool, e_w_bool, e_step_ite, e_reg_ite, e_regW_ite, e_code_ite, e_block_ite, e_evQ_ite, e_fin_ite, e_pair_ite, Tryd.f6, ti3, ti4, ti5, ti22, ti24, ti25, ti27, iAw_eq, iSame_eq, iChr_eq, m3, m20, hst, hfold]
end Go.Hk.CD
