import Derived.Test.YtojahfdjfacgaaaHkQ23
import Derived.Test.YtojahfdjfacgaaaHkQ22
import Derived.Carry
import Derived.OpenShut
import Derived.SizedLaws
import Derived.ChangeOld
import Derived.ProofKit
import Derived.Laws.IdiomArrays
/- The rewriting rules by which code is walked, under the name that the library's rules bear. -/
namespace Go.Hk
attribute [go_sem] e_ops e_prep_nil e_prep_cons e_prep_cons_g e_ops_nil e_step e_step_g e_dst0 e_dst e_yield_undef e_go_true e_go_false
attribute [go_sem] e_fin e_pair e_put e_reg e_seq e_code e_code_ret e_code_exit e_cond e_cond_true e_cond_false e_block
attribute [go_sem] e_block_normal e_block_ret e_block_exit e_block_exit_ne e_exit e_ret e_skip e_label e_evQ e_lk_same e_tmp e_func
attribute [go_sem] e_int e_bool e_str e_nilp e_nils e_nilm e_nilf e_nili e_agg e_move e_assign e_pick
attribute [go_sem] e_pick_true e_pick_false e_pick_bool e_box e_boxO_t e_boxO_f e_bldZ_agg e_bldZ_int e_bldZ_bool e_bldZ_str e_bldZ_sl e_bldZ_nilp
attribute [go_sem] e_bldZ_nilm e_bldZ_nilf e_bldZ_nili e_alloc e_build e_buildSlice e_load e_store e_makeMap e_lookup e_mapUpdate e_insert
attribute [go_sem] e_makeIface e_nilCheck e_binOp e_unOp e_convert e_makeFunc e_makeSlice e_slice e_fieldAddr e_field e_indexAddr e_index
attribute [go_sem] e_range e_entry e_tassert e_extract e_builtin e_call e_call_dyn e_dyn e_ext e_acall e_acallP e_con_pure
attribute [go_sem] e_con_raw e_con_ext e_con_lib e_conP_pure e_conP_raw e_gamg e_gamg_dy e_yld e_gamx e_gam e_callPure e_cp
attribute [go_sem] e_bin_int e_sadd e_seql e_sneq e_bin_str e_add e_sub e_mul e_quo e_rem e_and e_or
attribute [go_sem] e_xor e_eql e_neq e_lss e_leq e_gtr e_geq e_shl e_shr e_eqop_eql e_eqop_neq e_not
attribute [go_sem] e_neg e_xor1 w_i64 w_i32 w_u64 w_u32 w_u8 d_t d_f i_t i_f k_u64
attribute [go_sem] k_i64 k_u32 k_i32 k_u8 k_min k_fdiv e_cells_agg e_cells_int e_cells_bool e_cells_str e_cells_sl e_cells_msl
attribute [go_sem] e_cells_ptr e_cells_ipt e_cells_fn e_cells_nilp e_cells_nilf e_cells_nilm e_cells_map e_push e_set_nil e_set_cons s_nil s_cons
attribute [go_sem] s_consO s_ptr s_msl s_amap s_tpt s_dpt s_int s_bool s_str s_nilp s_nilm s_nilf
attribute [go_sem] s_nili s_undef s_sl s_agg s_ipt s_fn s_tup s_mapO s_mapO2 e_new e_newP_t e_newP_f
attribute [go_sem] e_isB_t e_isB_nil e_isB_int e_isB_bool e_isB_str e_isB_sl e_isB_nilm e_isB_nilf e_isB_nili e_isB_p1 e_isB_p3 e_isB_pp
attribute [go_sem] e_isB_pi e_isB_rep e_isB_repb e_bin_np e_bin_pn e_bin_tn e_bin_tt e_conv_i e_conv_s e_conv_sl e_consU e_by_nil
attribute [go_sem] e_by_cons e_conv_t e_keep_no e_keep_full e_keep_nil e_keep_tok e_keep_t0 e_cells_tpt e_w_seq e_w_block e_w_skip e_w_ret
attribute [go_sem] e_w_exit e_w_label e_w_cond e_w_true e_w_false e_w_region e_w_regionx e_w_regiong0 e_w_regiong e_regW e_q_seq e_q_seq_ret
attribute [go_sem] e_q_seq_exit e_q_block e_q_block_ret e_q_block_exit e_fn_ret e_fn_normal e_view e_view_some n_tdiv64 n_tmod64 n_pow n_has
attribute [go_sem] n_or n_href n_many n_agg n_isB n_isB c_Rno c_Rfull c_Rnil c_nil c_cons c_append
attribute [go_sem] c_ptr c_msl c_map c_no c_full c_slnil c_tpt c_dpt c_tok c_ipt c_fn c_agg
attribute [go_sem] c_int c_bool c_str c_dead c_undef c_nilp c_nilm c_nilf c_nili c_ifc c_tup c_fl
attribute [go_sem] c_fl_tok c_sl c_okR c_E_nil c_E_cons c_B c_M c_set c_setL c_slc l_setL l_setL5
attribute [go_sem] q_cp q_cpv q_cps q_flat q_nil q_cons q_consO q_consN q_view q_viewO q_vO q_msl
attribute [go_sem] q_mslc q_mslv q_ptr q_ptrc q_ptrv q_tup q_tupO q_agg q_fn q_fnO q_mapN2 q_mapN
attribute [go_sem] q_f_int q_f_bool q_f_undef q_f_str l_s_setL l_s_cI l_s_cB l_s_c8 l_n_setL l_n_cI l_n_cB l_n_c8
attribute [go_sem] e_lk e_put_none aindexAddr afieldAddr afield aindex aload astore abuiltin alen aextract anil
attribute [go_sem] apart andL aeq List.map_cons List.map_nil List.getElem?_cons_zero List.getElem?_cons_succ List.getElem?_nil List.length_cons List.length_nil List.nil_append List.cons_append
attribute [go_sem] FnQ ares aresL exists_eq_left' Option.some.injEq AVal.bool.injEq Int.one_mul Int.natCast_nonneg Int.toNat_natCast setL_get setL_len Nat.le_refl
attribute [go_sem] setV_cells setV_strip setV_zero setL_zero setL_all n_set Option.getD_some Nat.min_self TK.agg Nat.succ_ne_self if_true if_false
attribute [go_sem] envFrom Option.bind_some Option.map_some Nat.zero_add Nat.add_zero beq_self_eq_true Bool.false_eq_true Bool.true_beq Bool.false_beq Bool.not_true Bool.not_false e_yield_bool
attribute [go_sem] and_self and_true true_and List.set_cons_zero List.set_cons_succ List.set_nil Nat.sub_zero Nat.zero_mul Nat.mul_one Nat.one_ne_zero not_true_eq_false not_false_eq_true
attribute [go_sem] decide_true decide_false kills_nil kills_cons abuild afill List.all_cons List.all_nil Option.isSome_some List.take_succ_cons List.take_zero List.drop_zero
attribute [go_sem] List.drop_succ_cons amakeSlice List.length_replicate Option.map_none aslice abound List.headD_cons List.tail_cons Int.sub_add_cancel Int.add_sub_cancel
attribute [go_sem] Bool.and_true Bool.true_and
attribute [go_sem_proc] Nat.reduceAdd Int.reduceEq Int.reduceLT Int.reduceLE Int.reduceNe Int.reduceAdd Int.reduceSub Int.reduceMul Int.reduceToNat Nat.reduceMul Nat.reduceLT Nat.reduceLeDiff Nat.reduceEqDiff reduceCtorEq Nat.reduceSub Nat.reduceDiv
attribute [go_sem_proc ↓] reduceIte
end Go.Hk
/- Layer 1, the plain law: sets, their lists and runs. -/
set_option linter.unusedSimpArgs false
set_option linter.unusedVariables false
namespace Go.Hk
theorem dn {n i : Nat} (h : i < n) : n - (i + 1) < n - i := by omega
def has (A : Nat) (n : Int) : Bool := decide (0 ≤ n) && decide (n < 256) && A.testBit n.toNat
def setLast : List (Int × Int) → Int → List (Int × Int)
  | [], _ => []
  | [p], b => [(p.1, b)]
  | p :: q :: l, b => p :: setLast (q :: l) b
def runsN (A : Nat) : Nat → List (Int × Int)
  | 0 => []
  | n + 1 => if A.testBit n then (if 0 < n ∧ A.testBit (n - 1) = true then setLast (runsN A n) n else runsN A n ++ [((n : Int), (n : Int))]) else runsN A n
/-- One more byte. -/
def step (acc : List (Int × Int)) (b : Int) : List (Int × Int) :=
  match acc.getLast? with
  | some p => if p.2 = b - 1 then setLast acc b else acc ++ [(b, b)]
  | none => [(b, b)]
/-! pairs of numbers ars cells -/
def cP (p : Int × Int) : List AVal := [.int .i64 p.1, .int .i64 p.2]
theorem cP_len (p : Int × Int) : (cP p).length = 2 := rfl
theorem cP_strip (p : Int × Int) : stripL (cP p) = some (cP p) := rfl
/-! sets held against each other -/
end Go.Hk
/- From a contract to what a row asks. -/
namespace Go.Hk
open Go.ChangeShapes Go.WideShapes Go.ChangeAt Go.RowKit

def g0 (W : World) : Ghost := { bad := fun _ _ => False, lo := W.heap.size, S := ⟨[], []⟩, ι := ⟨fun _ => 0, fun _ => 0, fun _ => 0, fun _ => none, fun _ => 0⟩, w := W }
theorem rl_g0 (W : World) : Rl (g0 W) where
  lo := Nat.le_refl _
  bad := fun _ _ h => h.elim
  objs := fun b x h => by simp [g0] at h
  its := fun b mb l c h => by simp [g0] at h
  toks := fun t g h => absurd h (empty_notok rfl)
  own := fun g h => absurd h (empty_noown rfl)
  hh := fun b b' g h => absurd h (empty_noblk rfl)
  ht := fun b t g h => absurd h (empty_noblk rfl)
  tt := fun t t' g h => absurd h (empty_notok rfl)
theorem g0_cell {W : World} {g o : Nat} {v : Value} (h : W.cell? ⟨g, o, none⟩ = some v) (h1 : v.oneCell' = true) : (g0 W).cx.cell g o v :=
  ⟨h, h1, fun h => h.elim, fun _ hb => empty_noblk rfl hb, fun _ ht => absurd ht (empty_notok rfl)⟩

theorem PCall.law {P : Program} {f : FuncId} {ars : List AVal} {vals : Array Value} {W : World} (h : PCall P f ars (.bool true)) (hv : VRs (g0 W).cx ars vals) :
    Calls P f vals W fun e W' => e = .returned (.bool true) ∧ Below W.heap.size W W' := by
  refine (h.2 (g0 W) vals (rl_g0 W) rfl hv).mono ?_
  rintro e w' ⟨v, γ', rfl, rfl, _, hext, _, hvr⟩
  cases hvr
  exact ⟨rfl, (ext_empty_grow (γ := g0 W) rfl (Nat.le_refl _) hext).toBelow⟩

section
variable {H : Type} {enc : TypeId × Value → H} {P : Program}

theorem trodAll_stays (hl : laidOutB P = true) {W W' : World} (hb : Below W.heap.size W W') : ∀ {ts : List TypeId} {vs : List Value} {ds : List (DataW H)} {ps : List MemPlace},
    (ts.all fun t => P.readableRec t && decide (t < P.types.size)) = true → DataW.TrodAll enc P W 0 (fun _ => true) true ts vs ds ps → DataW.TrodAll enc P W' 0 (fun b => decide (b < W.heap.size)) true ts vs ds ps
  | [], vs, ds, ps, _, h => by
    obtain ⟨rfl, rfl, rfl⟩ := trodAll_nil h
    exact trodAll_mk0
  | t :: ts, vs, ds, ps, ht, h => by
    obtain ⟨v, vs, d, ds, p, q, rfl, rfl, rfl, h1, h2⟩ := trodAll_cons h
    simp only [List.all_cons, Bool.and_eq_true, decide_eq_true_eq] at ht
    refine trodAll_cons_mk (Below.trod hl ht.1.1 ht.1.2 h1 hb ?_) (trodAll_stays hl hb ht.2 h2)
    obtain ⟨m, hm⟩ := h1
    exact DataW.trod_lt m _ _ _ hm

theorem vrs_of {κ : Cx} {ars : List AVal} {vs : List Value} (hl : vs.length = ars.length) (h : ∀ (j : Nat) (hj : j < ars.length), VR κ ars[j] (vs.getD j undef)) : VRs κ ars vs.toArray :=
  ⟨by simpa using hl, fun j hj => by simpa [Array.getD_eq_getD_getElem?, List.getD_eq_getElem?_getD] using h j hj⟩
inductive VRL (κ : Cx) : List AVal → List Value → Prop
  | nil : VRL κ [] []
  | cons {a : AVal} {v : Value} {ars : List AVal} {vs : List Value} (h : VR κ a v) (k : VRL κ ars vs) : VRL κ (a :: ars) (v :: vs)
theorem VRL.vrs {κ : Cx} {ars : List AVal} {args : Array Value} (h : VRL κ ars args.toList) : VRs κ ars args := by
  have key : ∀ {ars : List AVal} {vs : List Value}, VRL κ ars vs → vs.length = ars.length ∧ ∀ (j : Nat) (hj : j < ars.length), VR κ ars[j] (vs.getD j undef) := by
    intro ars vs h
    induction h with
    | nil => exact ⟨rfl, fun j h => absurd h (Nat.not_lt_zero j)⟩
    | cons h k ih =>
      refine ⟨by simp [ih.1], fun j hj => ?_⟩
      cases j with
      | zero => exact h
      | succ j => exact ih.2 j (Nat.lt_of_succ_lt_succ hj)
  obtain ⟨h1, h2⟩ := key h
  have := vrs_of h1 h2
  simpa using this
end
end Go.Hk
