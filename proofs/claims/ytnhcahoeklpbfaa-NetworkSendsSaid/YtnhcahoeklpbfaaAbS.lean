/- The rules of the abstract layer as one simp set. No program. -/
import Derived.Test.YtnhcahoeklpbfaaAbT
import Derived.Attr
set_option linter.unusedSimpArgs false
set_option linter.unusedVariables false
namespace Ab
open Go
attribute [go_sem] t_skip t_region t_seq t_cond t_block t_loop t_exit t_ret t_thenN t_thenE t_thenR t_blockN
attribute [go_sem] t_blockE t_blockR t_loopE t_loopR t_loopN t_retR t_retN t_nil t_cons t_consG t_guardB t_guardU
attribute [go_sem] t_case1 t_case0 t_gate t_some t_bool t_int t_str t_agg t_tup t_loc o_mov o_pick
attribute [go_sem] o_build t_buildS t_buildN o_buildSlice o_buildD o_buildSliceD lit_t lit_f o_load o_bin o_eqAgg o_eqBool
attribute [go_sem] o_un o_toInt o_same o_strOf o_slStr o_sl o_fieldAddr o_field o_ix t_vecN t_vecS o_eqNil
attribute [go_sem] t_nils t_nn t_full o_callF o_loadD o_loadM o_ixD o_lenD o_callD br_a br_agg br_ptr
attribute [go_sem] br_nilptr br_undef br_full br_nn br_clo brl_nil brl_cons o_callI o_callK o_callT t_retIR t_retIN t_seal
attribute [go_sem] o_callZ o_loadZ t_loopFrom o_appendN fn_own fn_nils o_make o_buildO o_copy o_appendS cp_own cp_vsl o_ixArr o_elem o_byte o_extract o_nilCheck o_call o_mkFunc
attribute [go_sem] o_callvI o_callv t_clo o_lenS o_len o_min o_max o_alloc o_box o_storeN o_store stn_loc
attribute [go_sem] st_loc st_eptr o_append b_int b_str b_add b_sub b_mul b_quo b_rem b_and b_or
attribute [go_sem] b_xor b_andNot b_shl b_shr b_eql b_neq b_lss b_leq b_gtr b_geq s_add s_eql
attribute [go_sem] s_neq s_lss s_leq s_gtr s_geq u_int u_neg u_xor u_not l_locA l_loc1 l_ptrA
attribute [go_sem] l_ptr1 l_eptrA l_eptr1 f_eptr n_eptr f_loc f_ptr n_loc n_ptr n_clo g_slice g_nils
attribute [go_sem] g_full g_own g_nn g_vsl c_slice c_slice3 c_str a_nils a_full a_own consO_some consR_some
attribute [go_sem] bindO_none bindO_some andO_some r_slice r_nils r_full r_own r_nn ve_nn ve_a ve_full ve_own
attribute [go_sem] se_nil se_cons se_conv ta_def ta_some se_own se_a se_loc sl_nil sl_a sl_own fg_t fg_f fg_a fg_agg
attribute [go_sem] fg_loc fg_ptr fg_nilptr fg_full fg_nn fg_own fg_eptr fg_vsl fg_mix fg_tup fg_clo lc_nil
attribute [go_sem] lc_loc fg_undef fg_any qT_own qT_a qT_agg qT_full qT_ptr qT_clo qT_nil qT_cons v_tmp
attribute [go_sem] v_const p_some p_none q_a q_agg q_full q_own q_ptr q_clo q_nil q_cons w_a
attribute [go_sem] w_full w_own w_nil w_cons w_map e_agg e_a e_own e_mapN e_map e_full eV_a
attribute [go_sem] eV_agg eV_own hV_nil hV_cons m_nil m_cons h_nil h_cons i_nil i_cons i_bool i_int
attribute [go_sem] i_str y_a y_agg y_mix z_mix z1_a z1_own z1_nil y_loc y_own y_clo z_a
attribute [go_sem] z_agg z_loc z_own z_clo d_none d_some j_none j_some x_own x_a x_agg x_loc
attribute [go_sem] x_ptr x_full x_tup x_clo x_nn x_eptr x_vsl x_mix x_undef x_any x_nilptr k_any
attribute [go_sem] k_a k_agg k_loc k_undef k_own k_ptr k_full k_tup k_clo k_nilptr k_nn k_eptr
attribute [go_sem] k_vsl k_mix k_nil k_cons havoc sets List.isEmpty_cons List.isEmpty_nil List.length_cons List.length_nil List.length_map List.length_append
attribute [go_sem] List.length_replicate Nat.reduceAdd Nat.reduceSub Nat.reduceMul List.replicate_succ List.replicate_zero List.cons_append List.nil_append List.append_nil List.set_cons_zero List.set_cons_succ List.getD_cons_zero
attribute [go_sem] List.getD_cons_succ List.take_succ_cons List.take_zero List.drop_succ_cons List.drop_zero List.drop_nil List.take_nil reduceIte List.map_cons List.map_nil Nat.reduceLeDiff Nat.reduceEqDiff
attribute [go_sem] Nat.reduceLT true_and and_true and_self eq_self beq_true beq_false Bool.not_true Bool.not_false Bool.not_not Bool.true_eq_false Bool.false_eq_true
attribute [go_sem] reduceCtorEq Int.natCast_nonneg Int.toNat_natCast Nat.le_refl Nat.lt_irrefl imp_self false_implies true_implies decide_true decide_false Int.reduceLT Int.reduceLE
attribute [go_sem] Int.reduceToNat Nat.succ_pos Nat.zero_lt_succ
attribute [go_sem] x_bself fg_bself k_bself x_ownv fg_ownv k_ownv x_ownc fg_ownc k_ownc o_callFC o_makeC a_ownc se_cap cs_plain cs_room pv_ownc rv_own bd_def bd_loc bd_cell bd_own bd_a w_ownv
attribute [simp] havoc sets leF leV boundV boundS nms nmsOk nmOk St.nm
end Ab
