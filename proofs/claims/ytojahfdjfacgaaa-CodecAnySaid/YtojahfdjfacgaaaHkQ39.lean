/- Layer 14: bytes as tables. -/
import Derived.Test.YtojahfdjfacgaaaHkQ38
set_option linter.unusedSimpArgs false
set_option linter.unusedVariables false
set_option maxRecDepth 20000
namespace Go.Hk.N
open Go.Proofs
theorem ti1 : tiOf Try.prog 1 = some { size := 1, bytes := 8, zero := some (.nilf), k := .func } := by kernel_rfl
attribute [go_sem] ti1
theorem ti58 : tiOf Try.prog 58 = some { size := 7, bytes := 56, zero := some (.agg [.int .i64 0, .int .i64 0, .int .i64 0, .int .i64 0, .int .i64 0, .int .i64 0, .int .i64 0]), k := .arr 7 3 } := by kernel_rfl
attribute [go_sem] ti58
def fld (ls : List (List Int)) (j : Nat) : AVal := match ls[j]? with
  | some l => slc cI l
  | none => .sl .nil 0 []
def c8l (w : Int) (ls : List (List Int)) : List AVal := [fld ls 0, .int .i64 w, fld ls 1, fld ls 2, fld ls 3, fld ls 4, fld ls 5, fld ls 6]
theorem c8l_len (w : Int) (ls : List (List Int)) : (c8l w ls).length = 8 := rfl
theorem fld_clo {h t j : Nat} {ls : List (List Int)} : clo h t (fld ls j) = true := by
  unfold fld
  split
  · exact c_slc cI_strip
  · rfl
theorem c8l_clo {h t : Nat} {w : Int} {ls : List (List Int)} : cloL h t (c8l w ls) = true := by
  simp only [c8l, cloL, fld_clo, Bool.and_self, Bool.true_and]
  rfl
theorem aresF {env : List (Nat × AVal)} {C0 : List AVal} {e : Int} {H : List ABlk} {T : List (Nat × (Nat × Nat))} (h2 : lk env 2 = .ptr 0 0 0) (h3 : lk env 3 = .ptr 1 0 0) (h8 : C0.length = 8) :
    ares Try.prog Try.f7.results.toList ⟨env, ⟨.cells 0 C0 :: .cells 0 [.int .i64 e] :: H, T⟩⟩ = some (.tup (.agg C0) [.int .i64 e]) := by
  have hr : Try.f7.results.toList = [.cell 2 24, .cell 3 27] := rfl
  have ht : List.take 8 C0 = C0 := List.take_of_length_le (by omega)
  rw [hr]
  simp only [ares, aresL, h2, h3]
  simp [aload, apart, ti24, ti27, h8, ht, TK.agg]
theorem w_Decode (s : List UInt8) (h : s.length < 400000000) : PCall Try.prog 7 [.str s] (decV (decP s)) := by
  have hCp := iCp_eq (s := s) h
  refine PCall.of_deferK (Γ := gam []) (mu := false) Sound.nil mixed 1 (g := 16) (caps := [.ptr 0 0 0, .ptr 1 0 0]) Try.func7 rfl (by kernel_rfl) (by kernel_rfl) (by simp) (by kernel_rfl) (by kernel_rfl) (by kernel_rfl) rfl rfl (by kernel_rfl) rfl rfl rfl rfl rfl ?_
  intro K hK
  simp (disch := first | assumption | omega | exact okR_new | exact okR_one | exact trivial | (simp only [List.length_append, List.length_cons, List.length_nil]; omega) | (simp only [List.length_append, List.length_cons, List.length_nil, Nat.reduceAdd])) only [go_sem, e_go, e_cond_bool, e_w_bool, e_step_ite, e_reg_ite, e_regW_ite, e_code_ite, e_block_ite, e_evQ_ite, e_fin_ite, e_pair_ite, Try.f7, iVa_eq, iLi_eq, iCp_eq, iRn_eq]
  refine hK _ rfl ?_
  by_cases hm : s.take 4 = magic
  · have hd : decP s = decB (s.drop 4) := if_pos hm
    rw [if_pos hm] at hCp
    unfold magic at hCp
    rw [hd]
    obtain ⟨u, hu⟩ : ∃ u, s.drop 4 = u := ⟨_, rfl⟩
    have hul : u.length < 400000000 := by rw [← hu]; simp; omega
    rw [hu] at hCp ⊢
    simp only [List.length_cons, List.length_nil]
    refine AWp.pre (Γ := gam [(11, .pure iVa), (14, .raw iLi), (17, .pure iCp), (18, .raw iRn)]) (mu := false) (Sound.pure iVa_call (Sound.raw iLi_call (Sound.pure iCp_call (Sound.raw iRn_call Sound.nil)))) mixed 3 rfl (by kernel_rfl) ?_; intro K hK; simp only [e_preC, e_preC0, e_postC, e_postC0] at hK ⊢
    simp (disch := first | assumption | omega | exact okR_new | exact okR_one | exact trivial | (simp only [List.length_append, List.length_cons, List.length_nil]; omega) | (simp only [List.length_append, List.length_cons, List.length_nil, Nat.reduceAdd])) only [go_sem, e_go, e_cond_bool, e_w_bool, e_step_ite, e_reg_ite, e_regW_ite, e_code_ite, e_block_ite, e_evQ_ite, e_fin_ite, e_pair_ite, Try.f7, iVa_eq, iLi_eq, iCp_eq, iRn_eq, hCp]
    refine hK _ ?_
    have hsh : shut ⟨[.cells 0 z8, .cells 0 [.int .i64 0], .cells 0 [.str u]], []⟩ = true := rfl
    have hsh2 : ∀ H : List ABlk, H.all (cloB (H.length + 2) 0) = true → shut ⟨.cells 0 z8 :: .cells 0 [.int .i64 60] :: H, []⟩ = true := fun H h => by
      simp only [shut, List.all_cons, List.length_cons, List.length_nil]
      rw [Bool.and_eq_true, Bool.and_eq_true]
      exact ⟨rfl, rfl, h⟩
    cases ht : takeN u 4 with
    | none =>
      rw [decB_none1 ht]
      refine AWp.seq (AWp.panC (Γ := gam []) (mu := false) Sound.nil 0 (by kernel_rfl) rfl rfl rfl rfl ?_)
      intro K2 hK2
      simp (disch := first | assumption | omega | exact okR_new | exact okR_one | exact trivial | (simp only [List.length_append, List.length_cons, List.length_nil]; omega) | (simp only [List.length_append, List.length_cons, List.length_nil, Nat.reduceAdd])) only [go_sem, e_go, e_cond_bool, e_w_bool, e_step_ite, e_reg_ite, e_regW_ite, e_code_ite, e_block_ite, e_evQ_ite, e_fin_ite, e_pair_ite, Try.f7, iVa_eq, iLi_eq, iCp_eq, iRn_eq]
      refine hK2 _ _ _ (x_rdNum u 4 2 _ _ ⟨hul, by decide, by decide⟩ rfl hsh ht) ?_
      exact ⟨_, _, _, _, .inr ⟨_, rfl, rfl⟩, d_pan z8 [.int .i64 0] [.cells 0 [.str u]] [] u.length rfl rfl (hsh2 _ rfl), rfl, rfl, rfl⟩
    | some a0 =>
      obtain ⟨hd0, s0⟩ := a0
      obtain ⟨q1, q2, q3, q4⟩ := takeN_some ht
      have hRn := iRn_eq (s := u) (n := 4) (l := hd0) (rest := s0) (b := 2) (H := [.cells 0 z8, .cells 0 [.int .i64 0], .cells 0 [.str u]]) (T := []) ⟨⟨hul, by decide⟩, rfl, hsh, ht⟩
      unfold z8 at hRn
      obtain ⟨x0, x1, x2, x3, rfl⟩ := four (show hd0.length = 4 by omega)
      have hat0 : (fl cI [x0, x1, x2, x3])[0]? = some (.int .i64 x0) := rfl
      have hat1 : (fl cI [x0, x1, x2, x3])[1]? = some (.int .i64 x1) := rfl
      have hat2 : (fl cI [x0, x1, x2, x3])[2]? = some (.int .i64 x2) := rfl
      have hat3 : (fl cI [x0, x1, x2, x3])[3]? = some (.int .i64 x3) := rfl
      have hmny : manyOf [x0, x1, x2, x3] = [256, x1, x1, x2, x2, x1, x3] := rfl
      have hmok := fun n => many_ok (h := [x0, x1, x2, x3]) q4 (n := n)
      refine AWp.pre (Γ := gam [(11, .pure iVa), (14, .raw iLi), (17, .pure iCp), (18, .raw iRn)]) (mu := false) (Sound.pure iVa_call (Sound.raw iLi_call (Sound.pure iCp_call (Sound.raw iRn_call Sound.nil)))) mixed 4 rfl (by kernel_rfl) ?_; intro K hK; simp only [e_preC, e_preC0, e_postC, e_postC0] at hK ⊢
      simp (disch := first | assumption | omega | exact okR_new | exact okR_one | exact trivial | (simp only [List.length_append, List.length_cons, List.length_nil]; omega) | (simp only [List.length_append, List.length_cons, List.length_nil, Nat.reduceAdd])) only [go_sem, e_go, e_cond_bool, e_w_bool, e_step_ite, e_reg_ite, e_regW_ite, e_code_ite, e_block_ite, e_evQ_ite, e_fin_ite, e_pair_ite, Try.f7, iVa_eq, iLi_eq, iCp_eq, iRn_eq, hRn, hat0, hat1, hat2, hat3]
      refine hK _ (AWp.seq ?_)
      have hLi := iLi_eq (b := 0) (H := [.cells 0 (c8l x0 []), .cells 0 [.int .i64 0], .cells 0 [.str s0], .cells 0 [.int .i64 256, .int .i64 x1, .int .i64 x1, .int .i64 x2, .int .i64 x2, .int .i64 x1, .int .i64 x3]]) (T := []) ⟨by simp, rfl⟩
      have hz8 : [AVal.sl .nil 0 [], .int .i64 x0, .sl .nil 0 [], .sl .nil 0 [], .sl .nil 0 [], .sl .nil 0 [], .sl .nil 0 [], .sl .nil 0 []] = c8l x0 [] := rfl
      rw [hz8]
      refine AWp.pre (Γ := gam [(11, .pure iVa), (14, .raw iLi), (17, .pure iCp), (18, .raw iRn)]) (mu := false) (Sound.pure iVa_call (Sound.raw iLi_call (Sound.pure iCp_call (Sound.raw iRn_call Sound.nil)))) mixed 1 rfl (by kernel_rfl) ?_; intro K hK; simp only [e_preC, e_preC0, e_postC, e_postC0] at hK ⊢
      simp (disch := first | assumption | omega | exact okR_new | exact okR_one | exact trivial | (simp only [List.length_append, List.length_cons, List.length_nil]; omega) | (simp only [List.length_append, List.length_cons, List.length_nil, Nat.reduceAdd])) only [go_sem, e_go, e_cond_bool, e_w_bool, e_step_ite, e_reg_ite, e_regW_ite, e_code_ite, e_block_ite, e_evQ_ite, e_fin_ite, e_pair_ite, Try.f7, iVa_eq, iLi_eq, iCp_eq, iRn_eq, hLi]
      refine hK _ (AWp.block (AWp.loop (fun k s' => ∃ i ls left, k = 7 - i ∧ i ≤ 7 ∧ tkTo (manyOf [x0, x1, x2, x3]) s0 i = some (ls, left) ∧
        s'.m = ⟨[.cells 0 (c8l x0 ls), .cells 0 [.int .i64 0], .cells 0 [.str left], .cells 0 [.int .i64 256, .int .i64 x1, .int .i64 x1, .int .i64 x2, .int .i64 x2, .int .i64 x1, .int .i64 x3]], []⟩ ∧
        lk s'.env 44 = .int .i64 (i : Nat) ∧ lk s'.env 43 = .agg (ptrs 0) ∧ lk s'.env 6 = .ptr 2 0 0 ∧ lk s'.env 10 = .ptr 3 0 0 ∧ lk s'.env 2 = .ptr 0 0 0 ∧ lk s'.env 3 = .ptr 1 0 0) ?_ (k := 7) ⟨0, [], s0, rfl, by decide, rfl, rfl, rfl, rfl, rfl, rfl, rfl, rfl⟩))
      rintro k ⟨E, m⟩ ⟨i, ls, left, rfl, hi, hq, hm2, e44, e43, e6, e10, e2, e3⟩
      simp only at hm2 e44 e43 e6 e10 e2 e3
      subst hm2
      obtain ⟨hll, hlel⟩ := tkTo_some hq
      by_cases hlt : i < 7
      · have hg : (manyOf [x0, x1, x2, x3])[i]? = some (manyOf [x0, x1, x2, x3])[i] := by rw [List.getElem?_eq_getElem (show i < 7 from hlt)]
        have hmem : (manyOf [x0, x1, x2, x3])[i] ∈ manyOf [x0, x1, x2, x3] := List.getElem_mem (show i < 7 from hlt)
        have hok := hmok _ hmem
        generalize (manyOf [x0, x1, x2, x3])[i] = n at *
        have hmn : [AVal.int .i64 256, .int .i64 x1, .int .i64 x1, .int .i64 x2, .int .i64 x2, .int .i64 x1, .int .i64 x3][i]? = some (.int .i64 n) := by
          have : [AVal.int .i64 256, .int .i64 x1, .int .i64 x1, .int .i64 x2, .int .i64 x2, .int .i64 x1, .int .i64 x3] = fl cI (manyOf [x0, x1, x2, x3]) := rfl
          rw [this]; exact fl_cI_get hg
        obtain ⟨o, hpo, ho8, hset⟩ : ∃ o, (ptrs 0)[i]? = some (.ptr 0 0 o) ∧ o < 8 ∧ ∀ l, (c8l x0 ls).set o (slc cI l) = c8l x0 (ls ++ [l]) := by
          clear hg hmem hmn hq hok
          have h7 : i = 0 ∨ i = 1 ∨ i = 2 ∨ i = 3 ∨ i = 4 ∨ i = 5 ∨ i = 6 := by omega
          rcases h7 with rfl | rfl | rfl | rfl | rfl | rfl | rfl
          · exact ⟨0, rfl, by decide, fun l => by match ls, hll with | [], _ => rfl⟩
          · exact ⟨2, rfl, by decide, fun l => by match ls, hll with | [_], _ => rfl⟩
          · exact ⟨3, rfl, by decide, fun l => by match ls, hll with | [_, _], _ => rfl⟩
          · exact ⟨4, rfl, by decide, fun l => by match ls, hll with | [_, _, _], _ => rfl⟩
          · exact ⟨5, rfl, by decide, fun l => by match ls, hll with | [_, _, _, _], _ => rfl⟩
          · exact ⟨6, rfl, by decide, fun l => by match ls, hll with | [_, _, _, _, _], _ => rfl⟩
          · exact ⟨7, rfl, by decide, fun l => by match ls, hll with | [_, _, _, _, _, _], _ => rfl⟩
        refine AWp.pre (Γ := gam [(11, .pure iVa), (14, .raw iLi), (17, .pure iCp), (18, .raw iRn)]) (mu := false) (Sound.pure iVa_call (Sound.raw iLi_call (Sound.pure iCp_call (Sound.raw iRn_call Sound.nil)))) mixed 2 rfl (by kernel_rfl) ?_; intro K hK; simp only [e_preC, e_preC0, e_postC, e_postC0] at hK ⊢
        simp (disch := first | assumption | omega | exact okR_new | exact okR_one | exact trivial | (simp only [List.length_append, List.length_cons, List.length_nil]; omega) | (simp only [List.length_append, List.length_cons, List.length_nil, Nat.reduceAdd])) only [go_sem, e_go, e_cond_bool, e_w_bool, e_step_ite, e_reg_ite, e_regW_ite, e_code_ite, e_block_ite, e_evQ_ite, e_fin_ite, e_pair_ite, Try.f7, iVa_eq, iLi_eq, iCp_eq, iRn_eq, e44]
        refine hK _ (AWp.seq (AWp.block ?_))
        refine AWp.pre (Γ := gam [(11, .pure iVa), (14, .raw iLi), (17, .pure iCp), (18, .raw iRn)]) (mu := false) (Sound.pure iVa_call (Sound.raw iLi_call (Sound.pure iCp_call (Sound.raw iRn_call Sound.nil)))) mixed 1 rfl (by kernel_rfl) ?_; intro K hK; simp only [e_preC, e_preC0, e_postC, e_postC0] at hK ⊢
        simp (disch := first | assumption | omega | exact okR_new | exact okR_one | exact trivial | (simp only [List.length_append, List.length_cons, List.length_nil]; omega) | (simp only [List.length_append, List.length_cons, List.length_nil, Nat.reduceAdd])) only [go_sem, e_go, e_cond_bool, e_w_bool, e_step_ite, e_reg_ite, e_regW_ite, e_code_ite, e_block_ite, e_evQ_ite, e_fin_ite, e_pair_ite, Try.f7, iVa_eq, iLi_eq, iCp_eq, iRn_eq, e44, e43, hpo]
        refine hK _ ?_
        have hsh3 : shut ⟨[.cells 0 (c8l x0 ls), .cells 0 [.int .i64 0], .cells 0 [.str left], .cells 0 [.int .i64 256, .int .i64 x1, .int .i64 x1, .int .i64 x2, .int .i64 x2, .int .i64 x1, .int .i64 x3]], []⟩ = true := by
          simp only [shut, List.all_cons, cloB, c8l_clo]
          rfl
        cases htn : takeN left n with
        | none =>
          rw [decB_none2 ht hq hg htn hlt]
          refine AWp.panC (Γ := gam []) (mu := false) Sound.nil 4 (by kernel_rfl) rfl rfl rfl rfl ?_
          intro K2 hK2
          simp (disch := first | assumption | omega | exact okR_new | exact okR_one | exact trivial | (simp only [List.length_append, List.length_cons, List.length_nil]; omega) | (simp only [List.length_append, List.length_cons, List.length_nil, Nat.reduceAdd])) only [go_sem, e_go, e_cond_bool, e_w_bool, e_step_ite, e_reg_ite, e_regW_ite, e_code_ite, e_block_ite, e_evQ_ite, e_fin_ite, e_pair_ite, Try.f7, iVa_eq, iLi_eq, iCp_eq, iRn_eq, e10, hmn]
          refine hK2 _ (shortV left.length) _ (by
            have := x_rdNum left n 2 _ _ ⟨by omega, by omega, by omega⟩ rfl hsh3 htn
            simpa only [List.map_cons, List.map_nil, go_sem, e6] using this) ?_
          exact ⟨_, _, _, _, .inr ⟨_, rfl, rfl⟩, d_pan (c8l x0 ls) [.int .i64 0] [.cells 0 [.str left], .cells 0 [.int .i64 256, .int .i64 x1, .int .i64 x1, .int .i64 x2, .int .i64 x2, .int .i64 x1, .int .i64 x3]] [] left.length rfl rfl (hsh2 _ rfl), rfl, aresF (by simp only [go_sem, e2]) (by simp only [go_sem, e3]) rfl, rfl⟩
        | some b0 =>
          obtain ⟨l, r2⟩ := b0
          have hnx := tkTo_next hq hg
          rw [htn] at hnx
          have hRn2 := iRn_eq (s := left) (n := n) (l := l) (rest := r2) (b := 2) (H := [.cells 0 (c8l x0 ls), .cells 0 [.int .i64 0], .cells 0 [.str left], .cells 0 [.int .i64 256, .int .i64 x1, .int .i64 x1, .int .i64 x2, .int .i64 x2, .int .i64 x1, .int .i64 x3]]) (T := []) ⟨⟨by omega, by omega⟩, rfl, hsh3, htn⟩
          have hset := hset l
          have h8 := c8l_len x0 ls
          have ho8' : o + 1 ≤ (c8l x0 ls).length := by rw [h8]; omega
          refine AWp.w (Γ := gam [(11, .pure iVa), (14, .raw iLi), (17, .pure iCp), (18, .raw iRn)]) (mu := false) (Sound.pure iVa_call (Sound.raw iLi_call (Sound.pure iCp_call (Sound.raw iRn_call Sound.nil)))) mixed _ _ _ (by kernel_rfl) ?_
          simp (disch := first | assumption | omega | exact okR_new | exact okR_one | exact trivial | (simp only [List.length_append, List.length_cons, List.length_nil]; omega) | (simp only [List.length_append, List.length_cons, List.length_nil, Nat.reduceAdd])) only [go_sem, e_go, e_cond_bool, e_w_bool, e_step_ite, e_reg_ite, e_regW_ite, e_code_ite, e_block_ite, e_evQ_ite, e_fin_ite, e_pair_ite, Try.f7, iVa_eq, iLi_eq, iCp_eq, iRn_eq, e10, e6, hmn, hRn2, hset]
          have hwi : IntKind.i64.wrap ((i : Int) + 1) = (i : Int) + 1 := IntWalk.i64_in _ (by omega)
          refine AWp.w (Γ := gam [(11, .pure iVa), (14, .raw iLi), (17, .pure iCp), (18, .raw iRn)]) (mu := false) (Sound.pure iVa_call (Sound.raw iLi_call (Sound.pure iCp_call (Sound.raw iRn_call Sound.nil)))) mixed _ _ _ (by kernel_rfl) ?_
          simp (disch := first | assumption | omega | exact okR_new | exact okR_one | exact trivial | (simp only [List.length_append, List.length_cons, List.length_nil]; omega) | (simp only [List.length_append, List.length_cons, List.length_nil, Nat.reduceAdd])) only [go_sem, e_go, e_cond_bool, e_w_bool, e_step_ite, e_reg_ite, e_regW_ite, e_code_ite, e_block_ite, e_evQ_ite, e_fin_ite, e_pair_ite, Try.f7, iVa_eq, iLi_eq, iCp_eq, iRn_eq, e44, hwi]
          refine ⟨7 - (i + 1), by omega, i + 1, ls ++ [l], r2, rfl, hlt, hnx, ?_, ?_, ?_, ?_, ?_, ?_, ?_⟩
          all_goals first | rfl | (simp only [go_sem, e44, e43, e6, e10, e2, e3]) | skip
      · have hi' : i = 7 := by omega
        subst hi'
        rw [decB_end ht hq]
        have hoks := pkOf_ok (w := x0) (tkTo_lens hq) (by omega)
        obtain ⟨a, b, c, d, e, f, g, rfl⟩ := seven hll
        have hV := iVa_eq hoks
        have hx0 : [x0, x1, x2, x3].getD 0 0 = x0 := rfl
        rw [hx0]
        generalize hp : pkOf x0 [a, b, c, d, e, f, g] = p at *
        have hc8 : c8l x0 [a, b, c, d, e, f, g] = cPk p := by rw [← hp]; rfl
        have hfold : AVal.agg (cPk p) = pkV p := rfl
        have hcl : (cPk p).length = 8 := rfl
        have htk : List.take 8 (cPk p) = cPk p := rfl
        have hc := cPk_eq p
        rw [hc8]
        refine AWp.w (Γ := gam [(11, .pure iVa), (14, .raw iLi), (17, .pure iCp), (18, .raw iRn)]) (mu := false) (Sound.pure iVa_call (Sound.raw iLi_call (Sound.pure iCp_call (Sound.raw iRn_call Sound.nil)))) mixed _ _ _ (by kernel_rfl) ?_
        simp (disch := first | assumption | omega | exact okR_new | exact okR_one | exact trivial | (simp only [List.length_append, List.length_cons, List.length_nil]; omega) | (simp only [List.length_append, List.length_cons, List.length_nil, Nat.reduceAdd])) only [go_sem, e_go, e_cond_bool, e_w_bool, e_step_ite, e_reg_ite, e_regW_ite, e_code_ite, e_block_ite, e_evQ_ite, e_fin_ite, e_pair_ite, Try.f7, iVa_eq, iLi_eq, iCp_eq, iRn_eq, e44]
        refine AWp.w (Γ := gam [(11, .pure iVa), (14, .raw iLi), (17, .pure iCp), (18, .raw iRn)]) (mu := false) (Sound.pure iVa_call (Sound.raw iLi_call (Sound.pure iCp_call (Sound.raw iRn_call Sound.nil)))) mixed _ _ _ (by kernel_rfl) ?_
        have hshp : shut ⟨[.cells 0 (cPk p), .cells 0 [.int .i64 0], .cells 0 [.str left], .cells 0 [.int .i64 256, .int .i64 x1, .int .i64 x1, .int .i64 x2, .int .i64 x2, .int .i64 x1, .int .i64 x3]], []⟩ = true := by
          simp only [shut, List.all_cons, cloB, cloL_strip _ _ (cPk_strip p)]
          rfl
        have hvw : ∀ m, view 8 m (.tup (pkV p) [.int .i64 0]) = some (.tup (pkV p) [.int .i64 0]) := fun m => v_strip (by simp only [strip, stripL, pkV_strip])
        rw [hc] at hshp
        (simp (disch := first | assumption | omega | exact okR_new | exact okR_one | exact trivial | (simp only [List.length_append, List.length_cons, List.length_nil]; omega) | (simp only [List.length_append, List.length_cons, List.length_nil, Nat.reduceAdd])) only [go_sem, e_bin_bool, Bool.true_and, Bool.and_true, Bool.false_and, Bool.and_false, Bool.true_or, Bool.or_true, Bool.false_or, Bool.or_false, Bool.not_eq_eq_eq_not, Bool.not_not, z_or, z_and, z_beq_t, z_beq_f, decide_eq_true_eq, decide_eq_false_iff_not, ite_not, Bool.not_eq_true', Bool.or_eq_true, Bool.and_eq_true, i_t, i_f, Try.f7, iVa_eq, iLi_eq, iCp_eq, iRn_eq, e2, e3, e6, hc, hV] <;> (repeat' ((first | refine w_cond_cases ?_ ?_ | refine w_go_cases ?_ ?_ | refine w_pick_cases ?_ ?_) <;> intro hq <;> (try simp only [decide_eq_true_eq, decide_eq_false_iff_not, Bool.not_eq_true', Bool.not_eq_false', Bool.or_eq_true, Bool.and_eq_true, Bool.or_eq_false_iff, Bool.and_eq_false_iff, Bool.not_eq_eq_eq_not, Bool.not_true, Bool.not_false, Bool.not_not] at hq) <;> (first | simp (disch := first | assumption | omega | exact okR_new | exact okR_one | exact trivial | (simp only [List.length_append, List.length_cons, List.length_nil]; omega) | (simp only [List.length_append, List.length_cons, List.length_nil, Nat.reduceAdd])) only [show (_ : Bool) = true from hq, go_sem, e_bin_bool, Bool.true_and, Bool.and_true, Bool.false_and, Bool.and_false, Bool.true_or, Bool.or_true, Bool.false_or, Bool.or_false, Bool.not_eq_eq_eq_not, Bool.not_not, z_or, z_and, z_beq_t, z_beq_f, decide_eq_true_eq, decide_eq_false_iff_not, ite_not, Bool.not_eq_true', Bool.or_eq_true, Bool.and_eq_true, i_t, i_f, Try.f7, iVa_eq, iLi_eq, iCp_eq, iRn_eq, e2, e3, e6, hc, hV] | simp (disch := first | assumption | omega | exact okR_new | exact okR_one | exact trivial | (simp only [List.length_append, List.length_cons, List.length_nil]; omega) | (simp only [List.length_append, List.length_cons, List.length_nil, Nat.reduceAdd])) only [show (_ : Bool) = false from hq, go_sem, e_bin_bool, Bool.true_and, Bool.and_true, Bool.false_and, Bool.and_false, Bool.true_or, Bool.or_true, Bool.false_or, Bool.or_false, Bool.not_eq_eq_eq_not, Bool.not_not, z_or, z_and, z_beq_t, z_beq_f, decide_eq_true_eq, decide_eq_false_iff_not, ite_not, Bool.not_eq_true', Bool.or_eq_true, Bool.and_eq_true, i_t, i_f, Try.f7, iVa_eq, iLi_eq, iCp_eq, iRn_eq, e2, e3, e6, hc, hV] | simp (disch := first | assumption | omega | exact okR_new | exact okR_one | exact trivial | (simp only [List.length_append, List.length_cons, List.length_nil]; omega) | (simp only [List.length_append, List.length_cons, List.length_nil, Nat.reduceAdd])) only [go_sem, e_bin_bool, Bool.true_and, Bool.and_true, Bool.false_and, Bool.and_false, Bool.true_or, Bool.or_true, Bool.false_or, Bool.or_false, Bool.not_eq_eq_eq_not, Bool.not_not, z_or, z_and, z_beq_t, z_beq_f, decide_eq_true_eq, decide_eq_false_iff_not, ite_not, Bool.not_eq_true', Bool.or_eq_true, Bool.and_eq_true, i_t, i_f, Try.f7, iVa_eq, iLi_eq, iCp_eq, iRn_eq, e2, e3, e6, hc, hV] | skip))))
        · simp only [and_false, if_false]
          exact ⟨_, _, _, _, .inl ⟨.inr rfl, rfl⟩, d_ret _ _ rfl, rfl, aresF (by simp only [go_sem, e2]) (by simp only [go_sem, e3]) rfl, rfl⟩
        · exact ⟨_, _, _, _, .inl ⟨.inr rfl, rfl⟩, d_ret _ _ hshp, rfl, aresF (by simp only [go_sem, e2]) (by simp only [go_sem, e3]) rfl, hvw _⟩
        · rw [if_neg (by rintro ⟨h1, _⟩; simp_all)]
          exact ⟨_, _, _, _, .inl ⟨.inr rfl, rfl⟩, d_ret _ _ rfl, rfl, aresF (by simp only [go_sem, e2]) (by simp only [go_sem, e3]) rfl, rfl⟩
  · have hd : decP s = none := if_neg hm
    rw [if_neg hm] at hCp
    unfold magic at hCp
    rw [hd]
    simp only [List.length_cons, List.length_nil]
    refine AWp.w (Γ := gam [(11, .pure iVa), (14, .raw iLi), (17, .pure iCp), (18, .raw iRn)]) (mu := false) (Sound.pure iVa_call (Sound.raw iLi_call (Sound.pure iCp_call (Sound.raw iRn_call Sound.nil)))) mixed _ _ _ (by kernel_rfl) ?_
    simp (disch := first | assumption | omega | exact okR_new | exact okR_one | exact trivial | (simp only [List.length_append, List.length_cons, List.length_nil]; omega) | (simp only [List.length_append, List.length_cons, List.length_nil, Nat.reduceAdd])) only [go_sem, e_go, e_cond_bool, e_w_bool, e_step_ite, e_reg_ite, e_regW_ite, e_code_ite, e_block_ite, e_evQ_ite, e_fin_ite, e_pair_ite, Try.f7, iVa_eq, iLi_eq, iCp_eq, iRn_eq, hCp]
    exact ⟨_, _, _, _, .inl ⟨.inr rfl, rfl⟩, d_ret _ _ rfl, rfl, rfl, rfl⟩
noncomputable def iDe : List AVal → Option AVal := pimp fun xs r => ∃ (s : List UInt8), (s.length < 400000000) ∧ xs = [.str s] ∧ r = decV (decP s)
theorem iDe_eq {s : List UInt8} (h : s.length < 400000000) : iDe [.str s] = some (decV (decP s)) := pimp_eq ⟨s, h, rfl, rfl⟩ (by rintro _ ⟨s', h', e, rfl⟩; have e0 := (List.cons.inj e).1; have e0r := (List.cons.inj e).2; have q0 := AVal.str.inj e0; subst q0; first | rfl | exact ⟨rfl, rfl⟩)
theorem iDe_call : ∀ xs v, iDe xs = some v → PCall Try.prog 7 xs v := fun xs v h0 => by obtain ⟨s, h, rfl, rfl⟩ := pimp_spec h0; exact w_Decode s h
end Go.Hk.N
