/- The rewriting rules by which code is walked, under the name that the library's rules bear. -/
import Derived.Test.YtpncchabnolnkaaHkX
namespace Go.Hk
attribute [go_sem] e_ops e_prep_nil e_prep_cons e_prep_cons_g e_ops_nil e_step e_step_g e_step_ite e_dst0 e_dst e_yield_undef e_go_true
attribute [go_sem] e_go_false e_fin e_fin_ite e_pair e_pair_ite e_put e_reg e_reg_ite e_seq e_code e_code_ret e_code_exit
attribute [go_sem] e_code_ite e_cond e_cond_true e_cond_false e_block e_block_normal e_block_ret e_block_exit e_block_exit_ne e_block_ite e_exit e_ret
attribute [go_sem] e_skip e_label e_evQ e_evQ_ite e_lk_same e_tmp e_func e_int e_bool e_str e_nilp e_nils
attribute [go_sem] e_nilm e_nilf e_nili e_agg e_move e_assign e_pick e_pick_true e_pick_false e_pick_bool e_box e_alloc
attribute [go_sem] e_build e_buildSlice e_load e_store e_makeMap e_lookup e_mapUpdate e_insert e_makeIface e_nilCheck e_binOp e_unOp
attribute [go_sem] e_convert e_makeFunc e_makeSlice e_slice e_fieldAddr e_field e_indexAddr e_index e_extract e_builtin e_call e_call_dyn
attribute [go_sem] e_dyn e_acall e_acallP e_con_pure e_con_raw e_conP_pure e_gam e_callPure e_cp e_bin_int e_bin_str e_add
attribute [go_sem] e_sub e_mul e_quo e_rem e_and e_or e_xor e_eql e_neq e_lss e_leq e_gtr
attribute [go_sem] e_geq e_shl e_shr e_eqop_eql e_eqop_neq e_not e_neg e_xor1 w_i64 w_i32 w_u64 w_u32
attribute [go_sem] w_u8 d_t d_f i_t i_f k_u64 k_i64 k_u32 k_i32 k_u8 k_min k_fdiv
attribute [go_sem] e_cells_agg e_cells_int e_cells_bool e_cells_str e_cells_sl e_cells_msl e_cells_ptr e_cells_ipt e_cells_fn e_cells_nilp e_cells_nilf e_cells_nilm
attribute [go_sem] e_cells_map e_push e_set_nil e_set_cons s_nil s_cons s_consO s_ptr s_msl s_amap s_int s_bool
attribute [go_sem] s_str s_nilp s_nilm s_nilf s_nili s_undef s_sl s_agg s_ipt s_fn s_tup s_mapO
attribute [go_sem] s_mapO2 e_w_seq e_w_block e_w_skip e_w_ret e_w_exit e_w_label e_w_cond e_w_true e_w_false e_w_region e_regW
attribute [go_sem] e_regW_ite e_q_seq e_q_seq_ret e_q_seq_exit e_q_block e_q_block_ret e_q_block_exit e_fn_ret e_fn_normal e_view e_view_some n_tdiv64
attribute [go_sem] n_tmod64 n_pow n_has n_or n_href n_many n_agg c_Rno c_Rfull c_nil c_cons c_append
attribute [go_sem] c_ptr c_msl c_map c_no c_full c_tok c_ipt c_fn c_agg c_int c_bool c_str
attribute [go_sem] c_dead c_undef c_nilp c_nilm c_nilf c_nili c_ifc c_tup c_fl c_fl_tok c_sl c_okR
attribute [go_sem] c_E_nil c_E_cons c_B c_M c_set c_setL c_slc l_setL l_setL5 q_cp q_cpv q_cps
attribute [go_sem] q_flat q_nil q_cons q_consO q_consN q_view q_viewO q_vO q_msl q_mslc q_mslv q_ptr
attribute [go_sem] q_ptrc q_ptrv q_tup q_tupO q_agg q_mapN q_f_int q_f_bool q_f_undef q_f_str l_s_setL l_s_cI
attribute [go_sem] l_s_cB l_s_c8 l_n_setL l_n_cI l_n_cB l_n_c8 e_lk e_put_none aindexAddr afieldAddr afield aindex
attribute [go_sem] aload astore abuiltin alen aextract anil apart andL aeq List.map_cons List.map_nil List.getElem?_cons_zero
attribute [go_sem] List.getElem?_cons_succ List.getElem?_nil List.length_cons List.length_nil List.nil_append List.cons_append FnQ ares aresL exists_eq_left' Option.some.injEq AVal.bool.injEq
attribute [go_sem] Int.one_mul Int.natCast_nonneg Int.toNat_natCast setL_get setL_len Nat.le_refl setV_cells setV_strip setV_zero setL_zero setL_all n_set
attribute [go_sem] Option.getD_some Nat.min_self TK.agg Nat.succ_ne_self if_true if_false envFrom Option.bind_some Option.map_some Nat.zero_add Nat.add_zero beq_self_eq_true
attribute [go_sem] Bool.false_eq_true Bool.true_beq Bool.false_beq Bool.not_true Bool.not_false e_yield_bool e_go e_cond_bool e_w_bool and_self and_true true_and
attribute [go_sem] List.set_cons_zero List.set_cons_succ List.set_nil Nat.sub_zero Nat.zero_mul Nat.mul_one Nat.one_ne_zero not_true_eq_false not_false_eq_true decide_true decide_false kills_nil
attribute [go_sem] kills_cons abuild afill List.all_cons List.all_nil Option.isSome_some List.take_succ_cons List.take_zero List.drop_zero List.drop_succ_cons amakeSlice List.length_replicate
attribute [go_sem] Option.map_none aslice abound Int.sub_add_cancel Int.add_sub_cancel
end Go.Hk
