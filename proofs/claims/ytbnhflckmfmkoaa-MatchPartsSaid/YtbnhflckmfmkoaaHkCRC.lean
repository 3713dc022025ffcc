/- Layer 3: patterns of one byte, and lists of patterns. -/
import Derived.Test.YtbnhflckmfmkoaaHkCR4
import Derived.Test.YtbnhflckmfmkoaaHkMk
set_option linter.unusedSimpArgs false
set_option linter.unusedVariables false
namespace Go.Hk.C
open Go.Proofs

theorem w_chr (b : Int) : PCall Try.prog 21 [.int .i64 b] (rV (chX b)) := by
  refine PCall.of_w (fn := Try.f21) (Γ := gam [(27, .pure iOf)]) (mu := false) (Sound.pure iOf_call Sound.nil) mixed Try.func21 rfl (by kernel_rfl) (by simp) (by kernel_rfl) ?_
  simp (disch := first | assumption | omega | exact okR_new | exact okR_one | exact trivial | (simp only [List.length_append, List.length_cons, List.length_nil]; omega) | (simp only [List.length_append, List.length_cons, List.length_nil, Nat.reduceAdd])) only [go_sem, e_go, e_cond_bool, e_w_bool, e_step_ite, e_reg_ite, e_regW_ite, e_code_ite, e_block_ite, e_evQ_ite, e_fin_ite, e_pair_ite, Try.f21, iOf_eq, setL]
  rfl
noncomputable def iChr : List AVal → Option AVal := pimp fun xs r => ∃ (b : Int), (True) ∧ xs = [.int .i64 b] ∧ r = rV (chX b)
theorem iChr_eq {b : Int} (h : True) : iChr [.int .i64 b] = some (rV (chX b)) := pimp_eq ⟨b, h, rfl, rfl⟩ (by rintro _ ⟨b', h', e, rfl⟩; have e0 := (List.cons.inj e).1; have e0r := (List.cons.inj e).2; have q0 := (AVal.int.inj e0).2; subst q0; first | rfl | exact ⟨rfl, rfl⟩)
theorem iChr_call : ∀ xs v, iChr xs = some v → PCall Try.prog 21 xs v := fun xs v h0 => by obtain ⟨b, h, rfl, rfl⟩ := pimp_spec h0; exact w_chr b
theorem chX_cells {b : Int} : cR (chX b) = [.int .i64 2, .int .u64 (wd (ofN b b) 0 : Nat), .int .u64 (wd (ofN b b) 1 : Nat), .int .u64 (wd (ofN b b) 2 : Nat), .int .u64 (wd (ofN b b) 3 : Nat), .int .i64 0, .int .i64 0, .sl .no 0 []] := rfl
theorem bA1 {m : AMem} {cs : List AVal} (h : cs.length = 8) : abuildSlice Try.prog false m 28 1 [(0, .agg cs)] = some (.sl .full 1 cs, m) := build_one ti28 ti30 rfl rfl h rfl (by decide) (by decide)
theorem bR1 {m : AMem} {x : Rx} : abuildSlice Try.prog false m 28 1 [(0, rV x)] = some (.sl .full 1 (cR x), m) := bA1 (cR_len x)
theorem bA2 {m : AMem} {cs ds : List AVal} (h : cs.length = 8) (h' : ds.length = 8) : abuildSlice Try.prog false m 28 2 [(0, .agg cs), (1, .agg ds)] = some (.sl .full 2 (cs ++ ds), m) := by
  have := build_seq (P := Try.prog) (mu := false) (m := m) (n := 2) (vs := [.agg cs, .agg ds]) (out := cs ++ ds) ti28 rfl ti30 rfl (by simp [cellsAll, cellsOf, h, h']) (by decide) rfl (by decide)
  exact this
theorem bR2 {m : AMem} {x y : Rx} : abuildSlice Try.prog false m 28 2 [(0, rV x), (1, rV y)] = some (.sl .full 2 (cR x ++ cR y), m) := bA2 (cR_len x) (cR_len y)
end Go.Hk.C
