/- The rewriting rules by which code is walked, under the name that the library's rules bear. -/
import Derived.Test.YtbnhflckmfmkoaaDoorHkX
namespace Go.Hk
attribute [go_sem] e_ops e_prep_nil e_prep_cons e_prep_cons_g e_ops_nil e_step e_step_g e_dst0 e_dst e_yield_undef e_go_true e_go_false
attribute [go_sem] e_fin e_pair e_put e_reg e_seq e_code e_code_ret e_code_exit e_cond e_cond_true e_cond_false e_block
attribute [go_sem] e_block_normal e_block_ret e_block_exit e_block_exit_ne e_exit e_ret e_skip e_label e_evQ e_lk_same e_tmp e_func
attribute [go_sem] e_int e_bool e_str e_nilp e_nils e_nilm e_nilf e_nili e_agg e_move e_assign e_pick
attribute [go_sem] e_pick_true e_pick_false e_pick_bool e_box e_alloc e_build e_buildSlice e_load e_store e_makeMap e_lookup e_mapUpdate
attribute [go_sem] e_insert e_makeIface e_nilCheck e_binOp e_unOp e_convert e_makeFunc e_makeSlice e_slice e_fieldAddr e_field e_indexAddr
attribute [go_sem] e_index e_extract e_builtin e_call e_call_dyn e_dyn e_ext e_acall e_acallP e_con_pure e_con_raw e_con_ext
attribute [go_sem] e_conP_pure e_gamx e_gam e_callPure e_cp e_bin_int e_sadd e_seql e_sneq e_bin_str e_add e_sub
attribute [go_sem] e_mul e_quo e_rem e_and e_or e_xor e_eql e_neq e_lss e_leq e_gtr e_geq
attribute [go_sem] e_shl e_shr e_eqop_eql e_eqop_neq e_not e_neg e_xor1 w_i64 w_i32 w_u64 w_u32 w_u8
attribute [go_sem] d_t d_f i_t i_f k_u64 k_i64 k_u32 k_i32 k_u8 k_min k_fdiv e_cells_agg
attribute [go_sem] e_cells_int e_cells_bool e_cells_str e_cells_sl e_cells_msl e_cells_ptr e_cells_ipt e_cells_fn e_cells_nilp e_cells_nilf e_cells_nilm e_cells_map
attribute [go_sem] e_push e_set_nil e_set_cons s_nil s_cons s_consO s_ptr s_msl s_amap s_tpt s_dpt s_int
attribute [go_sem] s_bool s_str s_nilp s_nilm s_nilf s_nili s_undef s_sl s_agg s_ipt s_fn s_tup
attribute [go_sem] s_mapO s_mapO2 e_new e_newP_t e_newP_f e_isB_t e_isB_nil e_isB_int e_isB_bool e_isB_str e_isB_sl e_isB_nilm
attribute [go_sem] e_isB_nilf e_isB_nili e_isB_p1 e_isB_pp e_isB_pi e_isB_rep e_isB_repb e_bin_np e_bin_pn e_bin_tn e_bin_tt e_conv_i
attribute [go_sem] e_conv_s e_conv_sl e_consU e_by_nil e_by_cons e_conv_t e_keep_no e_keep_full e_keep_nil e_keep_tok e_keep_t0 e_cells_tpt
attribute [go_sem] e_w_seq e_w_block e_w_skip e_w_ret e_w_exit e_w_label e_w_cond e_w_true e_w_false e_w_region e_w_regionx e_regW
attribute [go_sem] e_q_seq e_q_seq_ret e_q_seq_exit e_q_block e_q_block_ret e_q_block_exit e_fn_ret e_fn_normal e_view e_view_some n_tdiv64 n_tmod64
attribute [go_sem] n_pow n_has n_or n_href n_many n_agg n_isB n_isB c_Rno c_Rfull c_Rnil c_nil
attribute [go_sem] c_cons c_append c_ptr c_msl c_map c_no c_full c_slnil c_tpt c_dpt c_tok c_ipt
attribute [go_sem] c_fn c_agg c_int c_bool c_str c_dead c_undef c_nilp c_nilm c_nilf c_nili c_ifc
attribute [go_sem] c_tup c_fl c_fl_tok c_sl c_okR c_E_nil c_E_cons c_B c_M c_set c_setL c_slc
attribute [go_sem] l_setL l_setL5 q_cp q_cpv q_cps q_flat q_nil q_cons q_consO q_consN q_view q_viewO
attribute [go_sem] q_vO q_msl q_mslc q_mslv q_ptr q_ptrc q_ptrv q_tup q_tupO q_agg q_fn q_fnO
attribute [go_sem] q_mapN2 q_mapN q_f_int q_f_bool q_f_undef q_f_str l_s_setL l_s_cI l_s_cB l_s_c8 l_n_setL l_n_cI
attribute [go_sem] l_n_cB l_n_c8 e_lk e_put_none aindexAddr afieldAddr afield aindex aload astore abuiltin alen
attribute [go_sem] aextract anil apart andL aeq List.map_cons List.map_nil List.getElem?_cons_zero List.getElem?_cons_succ List.getElem?_nil List.length_cons List.length_nil
attribute [go_sem] List.nil_append List.cons_append FnQ ares aresL exists_eq_left' Option.some.injEq AVal.bool.injEq Int.one_mul Int.natCast_nonneg Int.toNat_natCast setL_get
attribute [go_sem] setL_len Nat.le_refl setV_cells setV_strip setV_zero setL_zero setL_all n_set Option.getD_some Nat.min_self TK.agg Nat.succ_ne_self
attribute [go_sem] if_true if_false envFrom Option.bind_some Option.map_some Nat.zero_add Nat.add_zero beq_self_eq_true Bool.false_eq_true Bool.true_beq Bool.false_beq Bool.not_true
attribute [go_sem] Bool.not_false e_yield_bool and_self and_true true_and List.set_cons_zero List.set_cons_succ List.set_nil Nat.sub_zero Nat.zero_mul Nat.mul_one Nat.one_ne_zero
attribute [go_sem] not_true_eq_false not_false_eq_true decide_true decide_false kills_nil kills_cons abuild afill List.all_cons List.all_nil Option.isSome_some List.take_succ_cons
attribute [go_sem] List.take_zero List.drop_zero List.drop_succ_cons amakeSlice List.length_replicate Option.map_none aslice abound List.headD_cons List.tail_cons Int.sub_add_cancel Int.add_sub_cancel
end Go.Hk
