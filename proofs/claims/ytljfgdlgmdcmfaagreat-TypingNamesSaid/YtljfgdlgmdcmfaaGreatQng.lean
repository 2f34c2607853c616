/- Parts of a proof: The machine of abstract values: its rules in a few conjunctions (printed by wip/gen_BnA.py). Circuits: letters, digits, words, names, on the machine of abstract values. Circuits: lists of words; the library's Index, Contains, IndexFunc, ContainsFunc. The library's IndexFunc, ContainsFunc, at each kind of element. (Printed by gen_TypC.py.) Circuits: words, names. Circuits: expressions as trees; which are well-formed (the program's side). Circuits: sizes, numbers, Check (the program's side). Circuits: small, few, Check (the program's side). -/
import Derived.Test.YtljfgdlgmdcmfaaGreatQnf
namespace Go.Proofs.YtljfgdlgmdcmfaaGreat.Wv
set_option linter.unusedVariables false
theorem Ba:(type_of% @List.map_cons.{0,0})∧(type_of% @List.map_nil.{0,0})∧(type_of% @List.getElem?_cons_zero.{0})∧(type_of% @List.getElem?_cons_succ.{0})∧(type_of% @List.getElem?_nil.{0})∧(type_of% @List.nil_append.{0})∧(type_of% @List.cons_append.{0})∧(type_of% @List.append_nil.{0})∧(type_of% @List.take_zero.{0})∧(type_of% @List.take_succ_cons.{0})∧(type_of% @List.take_nil.{0})∧(type_of% @List.drop_zero.{0})∧(type_of% @List.drop_succ_cons.{0})∧(type_of% @List.drop_nil.{0})∧(type_of% @List.length_cons.{0})∧(type_of% @List.length_nil.{0})∧(type_of% @List.all_cons.{0})∧(type_of% @List.all_nil.{0})∧(type_of% @List.set_cons_zero.{0})∧(type_of% @List.set_cons_succ.{0})∧(type_of% @List.set_nil.{0})∧(type_of% @List.getElem?_drop.{0})∧(type_of% @List.length_map.{0,0})∧(type_of% @List.length_append.{0})∧(type_of% @Option.map_some.{0,0})∧(type_of% @Option.map_none.{0,0})∧(type_of% @Option.bind_some.{0,0})∧(type_of% @Option.bind_none.{0,0})∧(type_of% @Bool.and_true)∧(type_of% @Bool.true_and)∧(type_of% @Bool.not_true)∧(type_of% @Bool.not_false)∧(type_of% @Bool.true_beq)∧(type_of% @Bool.false_beq)∧(type_of% @Nat.mul_one)∧(type_of% @Nat.sub_zero)∧(type_of% @Nat.sub_self)∧(type_of% @Nat.add_zero)∧(type_of% @Nat.zero_add)∧(type_of% @Int.toNat_natCast)∧(type_of% @Int.natCast_zero)∧(type_of% @Int.sub_zero)∧(type_of% @Int.add_zero)∧(type_of% @Int.zero_add)∧(type_of% @ne_eq.{1})∧(type_of% @not_false_eq_true)∧(type_of% @true_and)∧(type_of% @and_true)∧(type_of% @decide_true)∧(type_of% @decide_false)∧(type_of% @eq_self.{1})∧(type_of% @Option.isNone_none.{0})∧(type_of% @Option.isNone_some.{0})∧(type_of% @Option.isSome_some.{0})∧(type_of% @Bool.false_and)∧(type_of% @Bool.and_false)∧(type_of% @cond_true.{1})∧(type_of% @cond_false.{1})∧(type_of% @List.size_toArray.{0}):=⟨@List.map_cons.{0,0}, @List.map_nil.{0,0}, @List.getElem?_cons_zero.{0}, @List.getElem?_cons_succ.{0}, @List.getElem?_nil.{0}, @List.nil_append.{0}, @List.cons_append.{0}, @List.append_nil.{0}, @List.take_zero.{0}, @List.take_succ_cons.{0}, @List.take_nil.{0}, @List.drop_zero.{0}, @List.drop_succ_cons.{0}, @List.drop_nil.{0}, @List.length_cons.{0}, @List.length_nil.{0}, @List.all_cons.{0}, @List.all_nil.{0}, @List.set_cons_zero.{0}, @List.set_cons_succ.{0}, @List.set_nil.{0}, @List.getElem?_drop.{0}, @List.length_map.{0,0}, @List.length_append.{0}, @Option.map_some.{0,0}, @Option.map_none.{0,0}, @Option.bind_some.{0,0}, @Option.bind_none.{0,0}, @Bool.and_true, @Bool.true_and, @Bool.not_true, @Bool.not_false, @Bool.true_beq, @Bool.false_beq, @Nat.mul_one, @Nat.sub_zero, @Nat.sub_self, @Nat.add_zero, @Nat.zero_add, @Int.toNat_natCast, @Int.natCast_zero, @Int.sub_zero, @Int.add_zero, @Int.zero_add, @ne_eq.{1}, @not_false_eq_true, @true_and, @and_true, @decide_true, @decide_false, @eq_self.{1}, @Option.isNone_none.{0}, @Option.isNone_some.{0}, @Option.isSome_some.{0}, @Bool.false_and, @Bool.and_false, @cond_true.{1}, @cond_false.{1}, @List.size_toArray.{0}⟩
theorem Bb:(type_of% @Wv.fitE_nil)∧(type_of% @Wv.fitE_cons)∧(type_of% @Wv.c_skip)∧(type_of% @Wv.c_ret)∧(type_of% @Wv.c_exit)∧(type_of% @Wv.c_label)∧(type_of% @Wv.c_scope)∧(type_of% @Wv.c_seq)∧(type_of% @Wv.c_block)∧(type_of% @Wv.c_cond)∧(type_of% @Wv.c_reg)∧(type_of% @Wv.c_draw)∧(type_of% @Wv.wd_no)∧(type_of% @Wv.wd_esc)∧(type_of% @Wv.k_seq0)∧(type_of% @Wv.k_seq1)∧(type_of% @Wv.k_seq2)∧(type_of% @Wv.k_seq3)∧(type_of% @Wv.k_p)∧(type_of% @Wv.k_blk0)∧(type_of% @Wv.k_blk1)∧(type_of% @Wv.k_blk2)∧(type_of% @Wv.k_blk3)∧(type_of% @Wv.k_reg)∧(type_of% @Wv.k_tail1)∧(type_of% @Wv.k_tail)∧(type_of% @Wv.k_o)∧(type_of% @Wv.k_r)∧(type_of% @Wv.k_h)∧(type_of% @Wv.k_for1)∧(type_of% @Wv.k_for2)∧(type_of% @Wv.k_for3)∧(type_of% @Wv.fz_zero)∧(type_of% @Wv.fz_cons)∧(type_of% @Wv.fz_nil)∧(type_of% @Wv.o_nil)∧(type_of% @Wv.o_cons)∧(type_of% @Wv.o_when)∧(type_of% @Wv.h_nil)∧(type_of% @Wv.h_alloc)∧(type_of% @Wv.h_cons)∧(type_of% @Wv.h_when)∧(type_of% @Wv.r_move)∧(type_of% @Wv.r_assign)∧(type_of% @Wv.r_pick)∧(type_of% @Wv.r_build)∧(type_of% @Wv.r_load)∧(type_of% @Wv.r_nilCheck)∧(type_of% @Wv.r_binOp)∧(type_of% @Wv.r_unOp)∧(type_of% @Wv.r_convert)∧(type_of% @Wv.r_fieldAddr)∧(type_of% @Wv.r_field)∧(type_of% @Wv.r_extract)∧(type_of% @Wv.w_ifc)∧(type_of% @Wv.q_ifc)∧(type_of% @Wv.w_lookup)∧(type_of% @Wv.q_lookup)∧(type_of% @Wv.w_makeMap)∧(type_of% @Wv.w_mapUpdate)∧(type_of% @Wv.w_insert)∧(type_of% @Wv.sPan_ifc)∧(type_of% @Wv.w_panic)∧(type_of% @Wv.w_move)∧(type_of% @Wv.q_move)∧(type_of% @Wv.w_assign)∧(type_of% @Wv.q_assign)∧(type_of% @Wv.w_pick)∧(type_of% @Wv.q_pick)∧(type_of% @Wv.w_build):=⟨@Wv.fitE_nil, @Wv.fitE_cons, @Wv.c_skip, @Wv.c_ret, @Wv.c_exit, @Wv.c_label, @Wv.c_scope, @Wv.c_seq, @Wv.c_block, @Wv.c_cond, @Wv.c_reg, @Wv.c_draw, @Wv.wd_no, @Wv.wd_esc, @Wv.k_seq0, @Wv.k_seq1, @Wv.k_seq2, @Wv.k_seq3, @Wv.k_p, @Wv.k_blk0, @Wv.k_blk1, @Wv.k_blk2, @Wv.k_blk3, @Wv.k_reg, @Wv.k_tail1, @Wv.k_tail, @Wv.k_o, @Wv.k_r, @Wv.k_h, @Wv.k_for1, @Wv.k_for2, @Wv.k_for3, @Wv.fz_zero, @Wv.fz_cons, @Wv.fz_nil, @Wv.o_nil, @Wv.o_cons, @Wv.o_when, @Wv.h_nil, @Wv.h_alloc, @Wv.h_cons, @Wv.h_when, @Wv.r_move, @Wv.r_assign, @Wv.r_pick, @Wv.r_build, @Wv.r_load, @Wv.r_nilCheck, @Wv.r_binOp, @Wv.r_unOp, @Wv.r_convert, @Wv.r_fieldAddr, @Wv.r_field, @Wv.r_extract, @Wv.w_ifc, @Wv.q_ifc, @Wv.w_lookup, @Wv.q_lookup, @Wv.w_makeMap, @Wv.w_mapUpdate, @Wv.w_insert, @Wv.sPan_ifc, @Wv.w_panic, @Wv.w_move, @Wv.q_move, @Wv.w_assign, @Wv.q_assign, @Wv.w_pick, @Wv.q_pick, @Wv.w_build⟩
theorem Bc:(type_of% @Wv.q_build)∧(type_of% @Wv.w_load)∧(type_of% @Wv.q_load)∧(type_of% @Wv.w_nilCheck)∧(type_of% @Wv.q_nilCheck)∧(type_of% @Wv.w_binOp)∧(type_of% @Wv.q_binOp)∧(type_of% @Wv.w_unOp)∧(type_of% @Wv.q_unOp)∧(type_of% @Wv.w_convert)∧(type_of% @Wv.q_convert)∧(type_of% @Wv.w_fieldAddr)∧(type_of% @Wv.q_fieldAddr)∧(type_of% @Wv.w_field)∧(type_of% @Wv.q_field)∧(type_of% @Wv.w_extract)∧(type_of% @Wv.q_extract)∧(type_of% @Wv.r_slice)∧(type_of% @Wv.q_slice)∧(type_of% @Wv.w_slice)∧(type_of% @Wv.r_indexAddr)∧(type_of% @Wv.q_indexAddr)∧(type_of% @Wv.w_indexAddr)∧(type_of% @Wv.r_index)∧(type_of% @Wv.q_index)∧(type_of% @Wv.w_index)∧(type_of% @Wv.r_func)∧(type_of% @Wv.q_func)∧(type_of% @Wv.w_func)∧(type_of% @Wv.q_len)∧(type_of% @Wv.w_len)∧(type_of% @Wv.q_max)∧(type_of% @Wv.w_max)∧(type_of% @Wv.q_min)∧(type_of% @Wv.w_min)∧(type_of% @Wv.w_append)∧(type_of% @Wv.w_copy)∧(type_of% @Wv.w_call)∧(type_of% @Wv.q_call)∧(type_of% @Wv.q_lit)∧(type_of% @Wv.q_append)∧(type_of% @Wv.w_lit)∧(type_of% @Wv.w_alloc)∧(type_of% @Wv.w_box)∧(type_of% @Wv.w_store)∧(type_of% @Wv.w_make)∧(type_of% @Wv.sV_some)∧(type_of% @Wv.sA_some)∧(type_of% @Wv.sG_some)∧(type_of% @Wv.sO_some)∧(type_of% @Wv.sE_some)∧(type_of% @Wv.sH_some)∧(type_of% @Wv.sZ_some)∧(type_of% @Wv.sB_some)∧(type_of% @Wv.sS_some)∧(type_of% @Wv.sT_some)∧(type_of% @Wv.sT0_some)∧(type_of% @Wv.sI_some)∧(type_of% @Wv.sX1_some)∧(type_of% @Wv.sX2_some)∧(type_of% @Wv.sN_some)∧(type_of% @Wv.sL_some)∧(type_of% @Wv.sP_t)∧(type_of% @Wv.sP_f)∧(type_of% @Wv.sC_t)∧(type_of% @Wv.sC_f)∧(type_of% @Wv.sW_tt)∧(type_of% @Wv.sW_tf)∧(type_of% @Wv.sW_ft)∧(type_of% @Wv.sW_ff):=⟨@Wv.q_build, @Wv.w_load, @Wv.q_load, @Wv.w_nilCheck, @Wv.q_nilCheck, @Wv.w_binOp, @Wv.q_binOp, @Wv.w_unOp, @Wv.q_unOp, @Wv.w_convert, @Wv.q_convert, @Wv.w_fieldAddr, @Wv.q_fieldAddr, @Wv.w_field, @Wv.q_field, @Wv.w_extract, @Wv.q_extract, @Wv.r_slice, @Wv.q_slice, @Wv.w_slice, @Wv.r_indexAddr, @Wv.q_indexAddr, @Wv.w_indexAddr, @Wv.r_index, @Wv.q_index, @Wv.w_index, @Wv.r_func, @Wv.q_func, @Wv.w_func, @Wv.q_len, @Wv.w_len, @Wv.q_max, @Wv.w_max, @Wv.q_min, @Wv.w_min, @Wv.w_append, @Wv.w_copy, @Wv.w_call, @Wv.q_call, @Wv.q_lit, @Wv.q_append, @Wv.w_lit, @Wv.w_alloc, @Wv.w_box, @Wv.w_store, @Wv.w_make, @Wv.sV_some, @Wv.sA_some, @Wv.sG_some, @Wv.sO_some, @Wv.sE_some, @Wv.sH_some, @Wv.sZ_some, @Wv.sB_some, @Wv.sS_some, @Wv.sT_some, @Wv.sT0_some, @Wv.sI_some, @Wv.sX1_some, @Wv.sX2_some, @Wv.sN_some, @Wv.sL_some, @Wv.sP_t, @Wv.sP_f, @Wv.sC_t, @Wv.sC_f, @Wv.sW_tt, @Wv.sW_tf, @Wv.sW_ft, @Wv.sW_ff⟩
theorem Bd:(type_of% @Wv.sW_dt00)∧(type_of% @Wv.sW_dt01)∧(type_of% @Wv.sW_dt10)∧(type_of% @Wv.sW_dt11)∧(type_of% @Wv.sW_df00)∧(type_of% @Wv.sW_df01)∧(type_of% @Wv.sW_df10)∧(type_of% @Wv.sW_df11)∧(type_of% @Wv.sW_un)∧(type_of% @Wv.sY_un)∧(type_of% @Wv.sY_tt)∧(type_of% @Wv.sY_tf)∧(type_of% @Wv.sY_ft)∧(type_of% @Wv.sY_ff)∧(type_of% @Wv.sY_dt00)∧(type_of% @Wv.sY_dt01)∧(type_of% @Wv.sY_dt10)∧(type_of% @Wv.sY_dt11)∧(type_of% @Wv.sY_df00)∧(type_of% @Wv.sY_df01)∧(type_of% @Wv.sY_df10)∧(type_of% @Wv.sY_df11)∧(type_of% @Wv.sP_d00)∧(type_of% @Wv.sP_d01)∧(type_of% @Wv.sP_d10)∧(type_of% @Wv.sP_d11)∧(type_of% @Wv.sF_some)∧(type_of% @Wv.finP0)∧(type_of% @Wv.finP1)∧(type_of% @Wv.finP2)∧(type_of% @Wv.fin0)∧(type_of% @Wv.fin1)∧(type_of% @Wv.resA_eq)∧(type_of% @Wv.resB1)∧(type_of% @Wv.resB0)∧(type_of% @Wv.resB2)∧(type_of% @Wv.resL_nil)∧(type_of% @Wv.resL_tmp)∧(type_of% @Wv.resC_some)∧(type_of% @Wv.yes_c)∧(type_of% @Wv.no_c)∧(type_of% @Wv.yes_n)∧(type_of% @Wv.no_n)∧(type_of% @Wv.gGet_some)∧(type_of% @Wv.put_some)∧(type_of% @Wv.put_none)∧(type_of% @Wv.get_nil)∧(type_of% @Wv.get_cons)∧(type_of% @Wv.op_tmp)∧(type_of% @Wv.op_const)∧(type_of% @Wv.op_func)∧(type_of% @Wv.op_global)∧(type_of% @Wv.keep_nil)∧(type_of% @Wv.keep_cons)∧(type_of% @Wv.kof_cons)∧(type_of% @Wv.kof_nil)∧(type_of% @Wv.arr_list)∧(type_of% @Wv.arg_nil)∧(type_of% @Wv.arg_cons)∧(type_of% @Wv.al_nil)∧(type_of% @Wv.al_cons)∧(type_of% @Wv.blkOf_eq)∧(type_of% @Wv.int_int)∧(type_of% @Wv.bin_int)∧(type_of% @Wv.bin_str)∧(type_of% @Wv.eq_eql)∧(type_of% @Wv.eq_neq)∧(type_of% @Wv.b_add)∧(type_of% @Wv.b_sub)∧(type_of% @Wv.b_mul):=⟨@Wv.sW_dt00, @Wv.sW_dt01, @Wv.sW_dt10, @Wv.sW_dt11, @Wv.sW_df00, @Wv.sW_df01, @Wv.sW_df10, @Wv.sW_df11, @Wv.sW_un, @Wv.sY_un, @Wv.sY_tt, @Wv.sY_tf, @Wv.sY_ft, @Wv.sY_ff, @Wv.sY_dt00, @Wv.sY_dt01, @Wv.sY_dt10, @Wv.sY_dt11, @Wv.sY_df00, @Wv.sY_df01, @Wv.sY_df10, @Wv.sY_df11, @Wv.sP_d00, @Wv.sP_d01, @Wv.sP_d10, @Wv.sP_d11, @Wv.sF_some, @Wv.finP0, @Wv.finP1, @Wv.finP2, @Wv.fin0, @Wv.fin1, @Wv.resA_eq, @Wv.resB1, @Wv.resB0, @Wv.resB2, @Wv.resL_nil, @Wv.resL_tmp, @Wv.resC_some, @Wv.yes_c, @Wv.no_c, @Wv.yes_n, @Wv.no_n, @Wv.gGet_some, @Wv.put_some, @Wv.put_none, @Wv.get_nil, @Wv.get_cons, @Wv.op_tmp, @Wv.op_const, @Wv.op_func, @Wv.op_global, @Wv.keep_nil, @Wv.keep_cons, @Wv.kof_cons, @Wv.kof_nil, @Wv.arr_list, @Wv.arg_nil, @Wv.arg_cons, @Wv.al_nil, @Wv.al_cons, @Wv.blkOf_eq, @Wv.int_int, @Wv.bin_int, @Wv.bin_str, @Wv.eq_eql, @Wv.eq_neq, @Wv.b_add, @Wv.b_sub, @Wv.b_mul⟩
theorem Be:(type_of% @Wv.b_quo)∧(type_of% @Wv.b_rem)∧(type_of% @Wv.b_shl)∧(type_of% @Wv.b_shr)∧(type_of% @Wv.b_and)∧(type_of% @Wv.b_or)∧(type_of% @Wv.b_xor)∧(type_of% @Wv.b_eql)∧(type_of% @Wv.b_neq)∧(type_of% @Wv.b_lss)∧(type_of% @Wv.b_leq)∧(type_of% @Wv.b_gtr)∧(type_of% @Wv.b_geq)∧(type_of% @Wv.b_cat)∧(type_of% @Wv.b_seq)∧(type_of% @Wv.b_sne)∧(type_of% @Wv.u_not)∧(type_of% @Wv.u_neg)∧(type_of% @Wv.ex_tup)∧(type_of% @Wv.mm_max)∧(type_of% @Wv.mm_min)∧(type_of% @Wv.w64)∧(type_of% @Wv.wu32)∧(type_of% @Wv.wu64)∧(type_of% @Wv.wu8)∧(type_of% @Wv.bits_u32)∧(type_of% @Wv.bits_u64)∧(type_of% @Wv.bits_i64)∧(type_of% @Wv.bits_u8)∧(type_of% @Wv.tab_len)∧(type_of% @Wv.tab_get)∧(type_of% @Wv.tab_set)∧(type_of% @Wv.ints_tab)∧(type_of% @Wv.ld)∧(type_of% @Wv.bh_ptr)∧(type_of% @Wv.bBlk_some)∧(type_of% @Wv.bh_ap)∧(type_of% @Wv.bArr1)∧(type_of% @Wv.bArr_some)∧(type_of% @Wv.bh_tp)∧(type_of% @Wv.lv_own)∧(type_of% @Wv.lv_ap)∧(type_of% @Wv.lv_ptr)∧(type_of% @Wv.lArr_some)∧(type_of% @Wv.lBlk_some)∧(type_of% @Wv.cl_int)∧(type_of% @Wv.cl_bool)∧(type_of% @Wv.cl_str)∧(type_of% @Wv.cl_nils)∧(type_of% @Wv.cl_nilp)∧(type_of% @Wv.cl_t)∧(type_of% @Wv.cl_g)∧(type_of% @Wv.cl_tp)∧(type_of% @Wv.cl_fn)∧(type_of% @Wv.cl_own)∧(type_of% @Wv.cl_ptr)∧(type_of% @Wv.on_v)∧(type_of% @Wv.oc_int)∧(type_of% @Wv.oc_bool)∧(type_of% @Wv.oc_str)∧(type_of% @Wv.oc_slice)∧(type_of% @Wv.oc_ptr)∧(type_of% @Wv.on_t)∧(type_of% @Wv.on_tp)∧(type_of% @Wv.on_fn)∧(type_of% @Wv.on_own)∧(type_of% @Wv.on_ptr)∧(type_of% @Wv.st)∧(type_of% @Wv.st_ptr)∧(type_of% @Wv.st_ap):=⟨@Wv.b_quo, @Wv.b_rem, @Wv.b_shl, @Wv.b_shr, @Wv.b_and, @Wv.b_or, @Wv.b_xor, @Wv.b_eql, @Wv.b_neq, @Wv.b_lss, @Wv.b_leq, @Wv.b_gtr, @Wv.b_geq, @Wv.b_cat, @Wv.b_seq, @Wv.b_sne, @Wv.u_not, @Wv.u_neg, @Wv.ex_tup, @Wv.mm_max, @Wv.mm_min, @Wv.w64, @Wv.wu32, @Wv.wu64, @Wv.wu8, @Wv.bits_u32, @Wv.bits_u64, @Wv.bits_i64, @Wv.bits_u8, @Wv.tab_len, @Wv.tab_get, @Wv.tab_set, @Wv.ints_tab, @Wv.ld, @Wv.bh_ptr, @Wv.bBlk_some, @Wv.bh_ap, @Wv.bArr1, @Wv.bArr_some, @Wv.bh_tp, @Wv.lv_own, @Wv.lv_ap, @Wv.lv_ptr, @Wv.lArr_some, @Wv.lBlk_some, @Wv.cl_int, @Wv.cl_bool, @Wv.cl_str, @Wv.cl_nils, @Wv.cl_nilp, @Wv.cl_t, @Wv.cl_g, @Wv.cl_tp, @Wv.cl_fn, @Wv.cl_own, @Wv.cl_ptr, @Wv.on_v, @Wv.oc_int, @Wv.oc_bool, @Wv.oc_str, @Wv.oc_slice, @Wv.oc_ptr, @Wv.on_t, @Wv.on_tp, @Wv.on_fn, @Wv.on_own, @Wv.on_ptr, @Wv.st, @Wv.st_ptr, @Wv.st_ap⟩
theorem Bf:(type_of% @Wv.stP_some)∧(type_of% @Wv.stQ_one)∧(type_of% @Wv.stQ_some)∧(type_of% @Wv.setLA_nil)∧(type_of% @Wv.setLA_cons)∧(type_of% @Wv.sD_z)∧(type_of% @Wv.sDz_some)∧(type_of% @Wv.resL_cell)∧(type_of% @Wv.rsB_some)∧(type_of% @Wv.bin_bool)∧(type_of% @Wv.bB_true)∧(type_of% @Wv.np_ptr)∧(type_of% @Wv.np_ap)∧(type_of% @Wv.np_tp)∧(type_of% @Wv.np_v)∧(type_of% @Wv.nP_true)∧(type_of% @Wv.bin_pz)∧(type_of% @Wv.bin_nilp)∧(type_of% @Wv.bin_nils)∧(type_of% @Wv.bin_g)∧(type_of% @Wv.bin_agg)∧(type_of% @Wv.eqG_h)∧(type_of% @Wv.eqH_some)∧(type_of% @Wv.eqL_nil)∧(type_of% @Wv.eqL_cons)∧(type_of% @Wv.eqC_i)∧(type_of% @Wv.eqC_b)∧(type_of% @Wv.eqC_s)∧(type_of% @Wv.andO_some)∧(type_of% @Wv.bN_true)∧(type_of% @Wv.conv_int)∧(type_of% @Wv.conv_str)∧(type_of% @Wv.cvS_true)∧(type_of% @Wv.str_one)∧(type_of% @Wv.stD_some)∧(type_of% @Wv.conv_t)∧(type_of% @Wv.conv_own)∧(type_of% @Wv.cvO_one)∧(type_of% @Wv.ints_nil)∧(type_of% @Wv.cvB_some)∧(type_of% @Wv.tk)∧(type_of% @Wv.tkB_one)∧(type_of% @Wv.tkB_agg)∧(type_of% @Wv.ix)∧(type_of% @Wv.ixB_s)∧(type_of% @Wv.ixB_a)∧(type_of% @Wv.ixC_t)∧(type_of% @Wv.ixC_own)∧(type_of% @Wv.ixD_true)∧(type_of% @Wv.ixE_some)∧(type_of% @Wv.sh)∧(type_of% @Wv.sh_ptr)∧(type_of% @Wv.sh_ap)∧(type_of% @Wv.sh_tp)∧(type_of% @Wv.lv_tp)∧(type_of% @Wv.len)∧(type_of% @Wv.len_arr)∧(type_of% @Wv.len_no)∧(type_of% @Wv.len_t)∧(type_of% @Wv.len_nil)∧(type_of% @Wv.len_own)∧(type_of% @Wv.lenD_true)∧(type_of% @Wv.len_str)∧(type_of% @Wv.stA_some)∧(type_of% @Wv.ap)∧(type_of% @Wv.apA_some)∧(type_of% @Wv.apB_one)∧(type_of% @Wv.apE_own)∧(type_of% @Wv.apF_some)∧(type_of% @Wv.apF_one):=⟨@Wv.stP_some, @Wv.stQ_one, @Wv.stQ_some, @Wv.setLA_nil, @Wv.setLA_cons, @Wv.sD_z, @Wv.sDz_some, @Wv.resL_cell, @Wv.rsB_some, @Wv.bin_bool, @Wv.bB_true, @Wv.np_ptr, @Wv.np_ap, @Wv.np_tp, @Wv.np_v, @Wv.nP_true, @Wv.bin_pz, @Wv.bin_nilp, @Wv.bin_nils, @Wv.bin_g, @Wv.bin_agg, @Wv.eqG_h, @Wv.eqH_some, @Wv.eqL_nil, @Wv.eqL_cons, @Wv.eqC_i, @Wv.eqC_b, @Wv.eqC_s, @Wv.andO_some, @Wv.bN_true, @Wv.conv_int, @Wv.conv_str, @Wv.cvS_true, @Wv.str_one, @Wv.stD_some, @Wv.conv_t, @Wv.conv_own, @Wv.cvO_one, @Wv.ints_nil, @Wv.cvB_some, @Wv.tk, @Wv.tkB_one, @Wv.tkB_agg, @Wv.ix, @Wv.ixB_s, @Wv.ixB_a, @Wv.ixC_t, @Wv.ixC_own, @Wv.ixD_true, @Wv.ixE_some, @Wv.sh, @Wv.sh_ptr, @Wv.sh_ap, @Wv.sh_tp, @Wv.lv_tp, @Wv.len, @Wv.len_arr, @Wv.len_no, @Wv.len_t, @Wv.len_nil, @Wv.len_own, @Wv.lenD_true, @Wv.len_str, @Wv.stA_some, @Wv.ap, @Wv.apA_some, @Wv.apB_one, @Wv.apE_own, @Wv.apF_some, @Wv.apF_one⟩
theorem Bg:(type_of% @Wv.apE_nil)∧(type_of% @Wv.cp)∧(type_of% @Wv.cpA_some)∧(type_of% @Wv.cpB_own)∧(type_of% @Wv.cpE_some)∧(type_of% @Wv.cpE_one)∧(type_of% @Wv.at_)∧(type_of% @Wv.atA_some)∧(type_of% @Wv.atB_some)∧(type_of% @Wv.atE_e0)∧(type_of% @Wv.atE_nil)∧(type_of% @Wv.cl_e0)∧(type_of% @Wv.on_e0)∧(type_of% @Wv.cs1_e0)∧(type_of% @Wv.cs2_e0)∧(type_of% @Wv.cs3_e0)∧(type_of% @Wv.sr)∧(type_of% @Wv.sr_t)∧(type_of% @Wv.srC_true)∧(type_of% @Wv.sr_own)∧(type_of% @Wv.srD_some)∧(type_of% @Wv.srD_one)∧(type_of% @Wv.sr_nil)∧(type_of% @Wv.sr_str)∧(type_of% @Wv.clB_some)∧(type_of% @Wv.clB_one)∧(type_of% @Wv.cs1_v)∧(type_of% @Wv.cs1_t)∧(type_of% @Wv.cs1_tp)∧(type_of% @Wv.cs1_fn)∧(type_of% @Wv.cs1_none)∧(type_of% @Wv.cs1_ptr)∧(type_of% @Wv.cs1_own)∧(type_of% @Wv.cs2_v)∧(type_of% @Wv.cs2_t)∧(type_of% @Wv.cs2_tp)∧(type_of% @Wv.cs2_fn)∧(type_of% @Wv.cs2_none)∧(type_of% @Wv.cs2_ptr)∧(type_of% @Wv.cs2_own)∧(type_of% @Wv.cs3_v)∧(type_of% @Wv.cs3_t)∧(type_of% @Wv.cs3_tp)∧(type_of% @Wv.cs3_fn)∧(type_of% @Wv.cs3_none)∧(type_of% @Wv.cs3_ptr)∧(type_of% @Wv.cs3_own)∧(type_of% @Wv.cs2_g)∧(type_of% @Wv.cs3_g)∧(type_of% @Wv.cs3_tup)∧(type_of% @Wv.cw_nil)∧(type_of% @Wv.cw_cons)∧(type_of% @Wv.cwB_some)∧(type_of% @Wv.cwC_some)∧(type_of% @Wv.lt)∧(type_of% @Wv.ltA_some)∧(type_of% @Wv.ltB_some)∧(type_of% @Wv.rw_nil)∧(type_of% @Wv.rw_cons)∧(type_of% @Wv.rwB_some)∧(type_of% @Wv.mk)∧(type_of% @Wv.mkA_some)∧(type_of% @Wv.mkB_some)∧(type_of% @Wv.zrow_int)∧(type_of% @Wv.zrow_bool)∧(type_of% @Wv.zrow_nil)∧(type_of% @Wv.fd)∧(type_of% @Wv.fdA_some)∧(type_of% @Wv.fdB_some)∧(type_of% @Wv.fl):=⟨@Wv.apE_nil, @Wv.cp, @Wv.cpA_some, @Wv.cpB_own, @Wv.cpE_some, @Wv.cpE_one, @Wv.at_, @Wv.atA_some, @Wv.atB_some, @Wv.atE_e0, @Wv.atE_nil, @Wv.cl_e0, @Wv.on_e0, @Wv.cs1_e0, @Wv.cs2_e0, @Wv.cs3_e0, @Wv.sr, @Wv.sr_t, @Wv.srC_true, @Wv.sr_own, @Wv.srD_some, @Wv.srD_one, @Wv.sr_nil, @Wv.sr_str, @Wv.clB_some, @Wv.clB_one, @Wv.cs1_v, @Wv.cs1_t, @Wv.cs1_tp, @Wv.cs1_fn, @Wv.cs1_none, @Wv.cs1_ptr, @Wv.cs1_own, @Wv.cs2_v, @Wv.cs2_t, @Wv.cs2_tp, @Wv.cs2_fn, @Wv.cs2_none, @Wv.cs2_ptr, @Wv.cs2_own, @Wv.cs3_v, @Wv.cs3_t, @Wv.cs3_tp, @Wv.cs3_fn, @Wv.cs3_none, @Wv.cs3_ptr, @Wv.cs3_own, @Wv.cs2_g, @Wv.cs3_g, @Wv.cs3_tup, @Wv.cw_nil, @Wv.cw_cons, @Wv.cwB_some, @Wv.cwC_some, @Wv.lt, @Wv.ltA_some, @Wv.ltB_some, @Wv.rw_nil, @Wv.rw_cons, @Wv.rwB_some, @Wv.mk, @Wv.mkA_some, @Wv.mkB_some, @Wv.zrow_int, @Wv.zrow_bool, @Wv.zrow_nil, @Wv.fd, @Wv.fdA_some, @Wv.fdB_some, @Wv.fl⟩
theorem Bh:(type_of% @Wv.flA_some)∧(type_of% @Wv.flB_some)∧(type_of% @Wv.co_g)∧(type_of% @Wv.co_agg)∧(type_of% @Wv.cl_agg)∧(type_of% @Wv.bdx)∧(type_of% @Wv.bdX_some)∧(type_of% @Wv.fi_nil)∧(type_of% @Wv.fi_cons)∧(type_of% @Wv.fiB_some)∧(type_of% @Wv.bo_none)∧(type_of% @Wv.bo_some)∧(type_of% @Wv.hx_some)∧(type_of% @Wv.szE_some)∧(type_of% @Wv.sl_t)∧(type_of% @Wv.st_t)∧(type_of% @Wv.st_o)∧(type_of% @Wv.slO_some)∧(type_of% @Wv.slT_some)∧(type_of% @Wv.sl_s)∧(type_of% @Wv.st_s)∧(type_of% @Wv.slS_some)∧(type_of% @Wv.tab_take)∧(type_of% @Wv.tab_drop)∧(type_of% @Wv.tab_nil)∧(type_of% @Wv.tab_one)∧(type_of% @Wv.ix_str)∧(type_of% @Wv.isB_true)∧(type_of% @Wv.cv_int)∧(type_of% @Wv.cv_t)∧(type_of% @Wv.cv_own)∧(type_of% @Wv.cv_str)∧(type_of% @Wv.cvX_none)∧(type_of% @Wv.cvX_u8)∧(type_of% @Wv.sl_ptr)∧(type_of% @Wv.slP1_some)∧(type_of% @Wv.slP2_some)∧(type_of% @Wv.lk)∧(type_of% @Wv.lkA_some)∧(type_of% @Wv.lkB_mp)∧(type_of% @Wv.lkB_tm)∧(type_of% @Wv.lkD_some)∧(type_of% @Wv.lkR_tt)∧(type_of% @Wv.lkR_tn)∧(type_of% @Wv.lkR_ft)∧(type_of% @Wv.lkR_fn)∧(type_of% @Wv.kk_int)∧(type_of% @Wv.kk_str)∧(type_of% @Wv.kb_nil)∧(type_of% @Wv.kb_cons)∧(type_of% @Wv.lm_nil)∧(type_of% @Wv.lm_cons)∧(type_of% @Wv.ke_int)∧(type_of% @Wv.ke_str)∧(type_of% @Wv.pm_nil)∧(type_of% @Wv.pm_cons)∧(type_of% @Wv.up)∧(type_of% @Wv.upA_some)∧(type_of% @Wv.upB_some)∧(type_of% @Wv.upD_some)∧(type_of% @Wv.bin_nilf)∧(type_of% @Wv.bF_eq)∧(type_of% @Wv.bF_ne)∧(type_of% @Wv.nf_nil)∧(type_of% @Wv.nf_fn)∧(type_of% @Wv.ca_mp)∧(type_of% @Wv.lv_mp)∧(type_of% @Wv.lMap_some)∧(type_of% @Wv.on_mp)∧(type_of% @Wv.ca_fn):=⟨@Wv.flA_some, @Wv.flB_some, @Wv.co_g, @Wv.co_agg, @Wv.cl_agg, @Wv.bdx, @Wv.bdX_some, @Wv.fi_nil, @Wv.fi_cons, @Wv.fiB_some, @Wv.bo_none, @Wv.bo_some, @Wv.hx_some, @Wv.szE_some, @Wv.sl_t, @Wv.st_t, @Wv.st_o, @Wv.slO_some, @Wv.slT_some, @Wv.sl_s, @Wv.st_s, @Wv.slS_some, @Wv.tab_take, @Wv.tab_drop, @Wv.tab_nil, @Wv.tab_one, @Wv.ix_str, @Wv.isB_true, @Wv.cv_int, @Wv.cv_t, @Wv.cv_own, @Wv.cv_str, @Wv.cvX_none, @Wv.cvX_u8, @Wv.sl_ptr, @Wv.slP1_some, @Wv.slP2_some, @Wv.lk, @Wv.lkA_some, @Wv.lkB_mp, @Wv.lkB_tm, @Wv.lkD_some, @Wv.lkR_tt, @Wv.lkR_tn, @Wv.lkR_ft, @Wv.lkR_fn, @Wv.kk_int, @Wv.kk_str, @Wv.kb_nil, @Wv.kb_cons, @Wv.lm_nil, @Wv.lm_cons, @Wv.ke_int, @Wv.ke_str, @Wv.pm_nil, @Wv.pm_cons, @Wv.up, @Wv.upA_some, @Wv.upB_some, @Wv.upD_some, @Wv.bin_nilf, @Wv.bF_eq, @Wv.bF_ne, @Wv.nf_nil, @Wv.nf_fn, @Wv.ca_mp, @Wv.lv_mp, @Wv.lMap_some, @Wv.on_mp, @Wv.ca_fn⟩
theorem Bi:(type_of% @Wv.ca_ifc)∧(type_of% @Wv.on_ifc)∧(type_of% @Wv.cl3_mp)∧(type_of% @Wv.cl1M_some)∧(type_of% @Wv.cl3_ifc)∧(type_of% @Wv.cl3_fn):=⟨@Wv.ca_ifc, @Wv.on_ifc, @Wv.cl3_mp, @Wv.cl1M_some, @Wv.cl3_ifc, @Wv.cl3_fn⟩
theorem Bz:(type_of% @Wv.WF0)∧(type_of% @Wv.WF1)∧(type_of% @Wv.WF2)∧(type_of% @Wv.WF3)∧(type_of% @Wv.WF4)∧(type_of% @Wv.WF5)∧(type_of% @Wv.WF6)∧(type_of% @Wv.WF7)∧(type_of% @Wv.WF8)∧(type_of% @Wv.WF9)∧(type_of% @Wv.WF10)∧(type_of% @Wv.WF11)∧(type_of% @Wv.WF12)∧(type_of% @Wv.WF13)∧(type_of% @Wv.WF14)∧(type_of% @Wv.WF15)∧(type_of% @Wv.WF16):=⟨@Wv.WF0, @Wv.WF1, @Wv.WF2, @Wv.WF3, @Wv.WF4, @Wv.WF5, @Wv.WF6, @Wv.WF7, @Wv.WF8, @Wv.WF9, @Wv.WF10, @Wv.WF11, @Wv.WF12, @Wv.WF13, @Wv.WF14, @Wv.WF15, @Wv.WF16⟩
theorem Bv:(∀ k z,Value.cells (.int k z)= #[.int k z])∧(∀ b,Value.cells (.bool b)= #[.bool b])∧(∀ s,Value.cells (.string s)= #[.string s])∧(∀ a,Value.cells (.pointer a)= #[.pointer a])∧(∀ a n c,Value.cells (.slice a n c)= #[.slice a n c])∧(∀ r,Value.cells (.map r)= #[.map r])∧(∀ f a c,Value.cells (.func f a c)= #[.func f a c])∧(Value.cells .nilFunc= #[.nilFunc])∧(∀ T v,Value.cells (.iface T v)= #[.iface T v])∧(Value.cells .nilIface= #[.nilIface])∧(∀ l,Value.cells (.agg l)=l)∧(∀ z,vcells z=z.cells.toList.map .v)∧(∀ o:Oper,isAlloc o=(o.guard.isNone && match o.op with | .alloc _=>true | _=>false)):=
 ⟨fun _ _=>rfl,fun _=>rfl,fun _=>rfl,fun _=>rfl,fun _ _ _=>rfl,fun _=>rfl,fun _ _ _=>rfl,rfl,fun _ _=>rfl,rfl,fun _=>rfl,fun _=>rfl,fun _=>rfl⟩
theorem Bw:(∀ T s cells z,froze (some (.arr T s cells z))=some (.arr T s cells cells.length))∧(∀ c,froze (some (.blk c))=some (.blk c))∧(∀ c,froze (some (.map c))=some (.map c))∧(froze none=none):=
 ⟨fun _ _ _ _=>rfl,fun _=>rfl,fun _=>rfl,rfl⟩
theorem Bx0:(type_of% @Wv.lv_own)∧(type_of% @Wv.lv_ptr)∧(type_of% @Wv.lv_ap)∧(type_of% @Wv.lArr_some)∧(type_of% @Wv.lBlk_some)∧(type_of% @Wv.tab_len)∧(type_of% @Wv.lv_tp)∧(type_of% @Nat.mul_one)∧(type_of% @Nat.zero_add)∧(type_of% @List.size_toArray.{0})∧(type_of% @decide_true)∧(type_of% @List.getElem?_cons_zero.{0})∧(type_of% @List.getElem?_cons_succ.{0})∧(type_of% @List.length_cons.{0})∧(type_of% @List.length_nil.{0})∧(type_of% @List.length_append.{0})∧(type_of% @Option.isNone_none.{0})∧(type_of% @Option.isNone_some.{0})∧(type_of% @Bool.true_and)∧(type_of% @Bool.and_false)∧(type_of% @Bool.false_and):=⟨@Wv.lv_own, @Wv.lv_ptr, @Wv.lv_ap, @Wv.lArr_some, @Wv.lBlk_some, @Wv.tab_len, @Wv.lv_tp, @Nat.mul_one, @Nat.zero_add, @List.size_toArray.{0}, @decide_true, @List.getElem?_cons_zero.{0}, @List.getElem?_cons_succ.{0}, @List.length_cons.{0}, @List.length_nil.{0}, @List.length_append.{0}, @Option.isNone_none.{0}, @Option.isNone_some.{0}, @Bool.true_and, @Bool.and_false, @Bool.false_and⟩
theorem Bx:(type_of% Bx0)∧(type_of% Bv):=⟨Bx0,Bv⟩
theorem B:(type_of% Ba)∧(type_of% Bb)∧(type_of% Bc)∧(type_of% Bd)∧(type_of% Be)∧(type_of% Bf)∧(type_of% Bg)∧(type_of% Bh)∧(type_of% Bi)∧(type_of% Bz)∧(type_of% Bv)∧(type_of% Bw)∧(type_of% @Option.some.injEq.{0}):=⟨Ba,Bb,Bc,Bd,Be,Bf,Bg,Bh,Bi,Bz,Bv,Bw, @Option.some.injEq.{0}⟩
theorem BC:(type_of% @implies_true.{0})∧(type_of% @implies_true.{1})∧(type_of% @Wv.clo_v)∧(type_of% @Wv.clo_none)∧(type_of% @Wv.clo_e0)∧(type_of% @Wv.clo_t)∧(type_of% @Wv.clo_g)∧(type_of% @Wv.clo_tup)∧(type_of% @Wv.clo_fn)∧(type_of% @Wv.clo_ifc)∧(type_of% @Wv.clo_nil)∧(type_of% @Wv.clo_cons)∧(type_of% @Wv.clo_tab)∧(type_of% @Wv.clo_map)∧(type_of% @and_self)∧(type_of% @true_and)∧(type_of% @and_true):=⟨@implies_true.{0}, @implies_true.{1}, @Wv.clo_v, @Wv.clo_none, @Wv.clo_e0, @Wv.clo_t, @Wv.clo_g, @Wv.clo_tup, @Wv.clo_fn, @Wv.clo_ifc, @Wv.clo_nil, @Wv.clo_cons, @Wv.clo_tab, @Wv.clo_map, @and_self, @true_and, @and_true⟩
theorem BK:(∀ ks,base ks=kOf ks 1000000)∧(∀ d,kOf [] d=0)∧(∀ i k r d,kOf ((i,k)::r) d=if i=d then k else kOf r d)∧(type_of% BC)∧(type_of% @Wv.lo_own)∧(type_of% @Wv.lo_ptr)∧(type_of% @Wv.lo_ap)∧(type_of% @Wv.lo_mp)∧(type_of% @Wv.lo_fn)∧(type_of% @Wv.lo_ifc)∧(type_of% @Wv.lo_tm)∧(type_of% @Wv.loL_map)∧(type_of% @Wv.loH_map)∧(type_of% @Wv.lo_v)∧(type_of% @Wv.lo_none)∧(type_of% @Wv.lo_e0)∧(type_of% @Wv.lo_t)∧(type_of% @Wv.lo_g)∧(type_of% @Wv.lo_tup)∧(type_of% @Wv.loE_nil)∧(type_of% @Wv.loE_cons)∧(type_of% @Wv.loL_nil)∧(type_of% @Wv.loL_cons)∧(type_of% @Wv.loL_tab)∧(type_of% @Wv.loH_nil)∧(type_of% @Wv.loH_none)∧(type_of% @Wv.loH_blk)∧(type_of% @Wv.loH_arr):=⟨fun _=>rfl,fun _=>rfl,fun _ _ _ _=>rfl,BC, @Wv.lo_own, @Wv.lo_ptr, @Wv.lo_ap, @Wv.lo_mp, @Wv.lo_fn, @Wv.lo_ifc, @Wv.lo_tm, @Wv.loL_map, @Wv.loH_map, @Wv.lo_v, @Wv.lo_none, @Wv.lo_e0, @Wv.lo_t, @Wv.lo_g, @Wv.lo_tup, @Wv.loE_nil, @Wv.loE_cons, @Wv.loL_nil, @Wv.loL_cons, @Wv.loL_tab, @Wv.loH_nil, @Wv.loH_none, @Wv.loH_blk, @Wv.loH_arr⟩
end Go.Proofs.YtljfgdlgmdcmfaaGreat.Wv
namespace Go.Proofs.YtljfgdlgmdcmfaaGreat
open Go.RowKit Wv
set_option linter.unusedVariables false
set_option linter.unusedSimpArgs false
def letB (c:Int):Bool:=(decide (97≤c) && decide (c≤122)) || (decide (65≤c) && decide (c≤90))
def digB (c:Int):Bool:=decide (48≤c) && decide (c≤57)
def orP (c:Int):Int:=IntKind.u8.wrap (BitVec.ofInt IntKind.u8.bits c ||| BitVec.ofInt IntKind.u8.bits 32).toNat
theorem orP_let: ∀ n:Fin 256,(decide (97≤orP n.val) && decide (orP n.val≤122))=letB n.val:=by decide+kernel
theorem letP (c:Int) (h0:0≤c) (h1:c<256):(decide (97≤orP c) && decide (orP c≤122))=letB c:=by
 have:=orP_let ⟨c.toNat,by omega⟩
 simp only [Int.toNat_of_nonneg h0] at this
 exact this
set_option maxHeartbeats 400000 in
set_option maxRecDepth 100000 in
theorem pletter_tc (c:Int) (h0:0≤c) (h1:c<256):TC Tryz.prog 152 [.v (.int .u8 c)] (.v (.bool (letB c))):=by
 have hl:=letP c h0 h1
 unfold orP at hl
 refine Wv.TC.by 11 [0,2] [] [.tmp 2] (by kernel_rfl) Tryz.func152 rfl rfl rfl (by kernel_rfl) (by kernel_rfl) (Nat.le_of_ble_eq_true rfl) rfl ?clo ?_
 case clo=>simp only [Wv.BC]
 by_cases hq:(97:Int)≤IntKind.u8.wrap (BitVec.ofInt IntKind.u8.bits c ||| BitVec.ofInt IntKind.u8.bits 32).toNat
 ·rw [decide_eq_true hq,Bool.true_and] at hl
  simp (maxSteps:=2000000) (disch:=first | omega | assumption | (simp only [Wv.Bx,simprocAttr]<;>omega) | fail) only [Wv.B,simprocAttr,hl]
 ·rw [decide_eq_false hq,Bool.false_and] at hl
  simp (maxSteps:=2000000) (disch:=first | omega | assumption | (simp only [Wv.Bx,simprocAttr]<;>omega) | fail) only [Wv.B,simprocAttr, ←hl]
set_option maxHeartbeats 400000 in
set_option maxRecDepth 100000 in
theorem pdigit_tc (c:Int):TC Tryz.prog 154 [.v (.int .u8 c)] (.v (.bool (digB c))):=by
 refine Wv.TC.by 9 [0,2] [] [.tmp 2] (by kernel_rfl) Tryz.func154 rfl rfl rfl (by kernel_rfl) (by kernel_rfl) (Nat.le_of_ble_eq_true rfl) rfl ?clo ?_
 case clo=>simp only [Wv.BC]
 unfold digB
 by_cases hq:48≤c
 ·simp (maxSteps:=2000000) (disch:=first | omega | assumption | (simp only [Wv.Bx,simprocAttr]<;>omega) | fail) only [Wv.B,simprocAttr,decide_eq_true hq]
 ·simp (maxSteps:=2000000) (disch:=first | omega | assumption | (simp only [Wv.Bx,simprocAttr]<;>omega) | fail) only [Wv.B,simprocAttr,decide_eq_false hq]
end Go.Proofs.YtljfgdlgmdcmfaaGreat
namespace Go.Proofs.YtljfgdlgmdcmfaaGreat
open Go.RowKit Wv
set_option linter.unusedVariables false
set_option linter.unusedSimpArgs false
def strsA (n:Nat) (f:Nat→ByteArray):AV:= .t n 1 (tab n fun i=> .v (.string (f i)))
theorem strs_clo (n:Nat) (f:Nat→ByteArray):Clo (strsA n f):=by unfold strsA;simp only [Wv.BC]
set_option maxHeartbeats 400000 in
set_option maxRecDepth 100000 in
theorem sindex_tc (n:Nat) (f:Nat→ByteArray) (s:ByteArray) (hn:n≤140737488351232):TC Tryz.prog 209 [strsA n f, .v (.string s)] (.v (.int .i64 (idxO (findF (fun i=>decide (s=f i)) n)))):=by
 unfold strsA
 refine Wv.TC.by 19 [0,8,7,9,1,5,16,4] [] [.tmp 4] (by kernel_rfl) Tryz.func209 rfl rfl rfl (by kernel_rfl) (by kernel_rfl) (Nat.le_of_ble_eq_true rfl) rfl ?clo ?_
 case clo=>simp only [Wv.BC]
 simp (maxSteps:=2000000) (disch:=first | omega | assumption | (simp only [Wv.Bx,simprocAttr]<;>omega) | fail) only [Wv.B,simprocAttr]
 refine wfor (σ:=Nat) (fun i=>[(0,strsA n f),(1, .v (.string s)),(7, .v (.int .i64 n)),(8, .v (.int .i64 i))]) (fun i=>[])
  (fun i=>i≤n∧ ∀ j,j<i→decide (s=f j)=false) (fun i=>n - i) 0 ⟨Nat.zero_le _,fun j hj=>by omega⟩ (by simp (maxSteps:=2000000) (disch:=first | omega | assumption | (simp only [Wv.Bx,simprocAttr]<;>omega) | fail) only [Wv.B,simprocAttr]) (by simp (maxSteps:=2000000) (disch:=first | omega | assumption | (simp only [Wv.Bx,simprocAttr]<;>omega) | fail) only [Wv.B,simprocAttr,strsA]) ?_
 rintro i ⟨hi,hb⟩
 unfold strsA
 by_cases hlt:i<n
 ·have e1:(i:Int)<n:=by omega
  cases hq:decide (s=f i) with
  | true=>
   have hf:=findF_at (p:=fun i=>decide (s=f i)) hlt hq hb
   simp (maxSteps:=2000000) (disch:=first | omega | assumption | (simp only [Wv.Bx,simprocAttr]<;>omega) | fail) only [Wv.B,simprocAttr,hq,hf,idxO]
  | false=>
   simp (maxSteps:=2000000) (disch:=first | omega | assumption | (simp only [Wv.Bx,simprocAttr]<;>omega) | fail) only [Wv.B,simprocAttr,hq]
   refine k_next (i+1) ⟨by omega,fun j hj=>?_⟩ (by omega) (by simp (maxSteps:=2000000) (disch:=first | omega | assumption | (simp only [Wv.Bx,simprocAttr]<;>omega) | fail) only [Wv.B,simprocAttr]) (by simp (maxSteps:=2000000) (disch:=first | omega | assumption | (simp only [Wv.Bx,simprocAttr]<;>omega) | fail) only [Wv.B,simprocAttr,Int.natCast_add,Int.natCast_one])
   by_cases e:j=i
   ·subst e;exact hq
   ·exact hb j (by omega)
 ·have hin:i=n:=by omega
  subst hin
  have hf:=findF_none (p:=fun i=>decide (s=f i)) hb
  simp (maxSteps:=2000000) (disch:=first | omega | assumption | (simp only [Wv.Bx,simprocAttr]<;>omega) | fail) only [Wv.B,simprocAttr,hf,idxO]
set_option maxHeartbeats 400000 in
set_option maxRecDepth 100000 in
theorem scontains_tc (n:Nat) (f:Nat→ByteArray) (s:ByteArray) (hn:n≤140737488351232):TC Tryz.prog 153 [strsA n f, .v (.string s)] (.v (.bool (anyN n fun i=>decide (s=f i)))):=by
 refine Wv.TC.by 9 [0,1,4] [] [.tmp 4] (by kernel_rfl) Tryz.func153 rfl rfl rfl (by kernel_rfl) (by kernel_rfl) (Nat.le_of_ble_eq_true rfl) rfl ?clo ?_
 case clo=>simp only [Wv.BC]
 simp (maxSteps:=2000000) (disch:=first | omega | assumption | (simp only [Wv.Bx,simprocAttr]<;>omega) | fail) only [Wv.B,simprocAttr]
 refine call_TC (sindex_tc n f s hn) rfl (by simp only [Wv.BC,strs_clo]) (by simp only [Wv.BC]) ?_
 simp (maxSteps:=2000000) (disch:=first | omega | assumption | (simp only [Wv.Bx,simprocAttr]<;>omega) | fail) only [Wv.B,simprocAttr,idxO_any]
set_option maxHeartbeats 400000 in
set_option maxRecDepth 100000 in
theorem sindexf_ht {h:Hp} (n:Nat) (f:Nat→ByteArray) (p:Nat→Bool) (fid:FuncId) (fst cap:List AV) (hn:n≤140737488351232) (hp: ∀ i,i<n→HT Tryz.prog fid (fst++[.v (.string (f i))]++cap) h (fun r h'=>r= .v (.bool (p i))∧h'=h)):
  HT Tryz.prog 155 [strsA n f, .fn (.func fid) fst cap] h (fun r h'=>r= .v (.int .i64 (idxO (findF p n)))∧h'=h):=by
 unfold strsA
 refine Wv.HT.by 19 [0,8,7,9,1,5,16,4] [(1000000,h.length)] [.tmp 4] (by kernel_rfl) Tryz.func155 rfl rfl rfl (by kernel_rfl) (by kernel_rfl) (Nat.le_of_ble_eq_true rfl) ?base ?_
 case base=>rfl
 simp (maxSteps:=2000000) (disch:=first | omega | assumption | (simp only [Wv.Bx,simprocAttr]<;>omega) | fail) only [Wv.B,simprocAttr]
 refine wfor (σ:=Nat) (fun i=>[(0,strsA n f),(1, .fn (.func fid) fst cap),(7, .v (.int .i64 n)),(8, .v (.int .i64 i))]) (fun i=>h)
  (fun i=>i≤n∧ ∀ j,j<i→p j=false) (fun i=>n - i) 0 ⟨Nat.zero_le _,fun j hj=>by omega⟩ rfl (by simp (maxSteps:=2000000) (disch:=first | omega | assumption | (simp only [Wv.Bx,simprocAttr]<;>omega) | fail) only [Wv.B,simprocAttr,strsA]) ?_
 rintro i ⟨hi,hb⟩
 unfold strsA
 by_cases hlt:i<n
 ·have e1:(i:Int)<n:=by omega
  simp (maxSteps:=2000000) (disch:=first | omega | assumption | (simp only [Wv.Bx,simprocAttr]<;>omega) | fail) only [Wv.B,simprocAttr]
  refine call_HT (hp i hlt) ?_
  rintro av h' ⟨rfl,rfl⟩
  cases hq:p i with
  | true=>
   have hf:=findF_at hlt hq hb
   simp (maxSteps:=2000000) (disch:=first | omega | assumption | (simp only [Wv.Bx,simprocAttr]<;>omega) | fail) only [Wv.B,simprocAttr,hq,hf,idxO]
  | false=>
   simp (maxSteps:=2000000) (disch:=first | omega | assumption | (simp only [Wv.Bx,simprocAttr]<;>omega) | fail) only [Wv.B,simprocAttr,hq]
   refine k_next (i+1) ⟨by omega,fun j hj=>?_⟩ (by omega) rfl (by simp (maxSteps:=2000000) (disch:=first | omega | assumption | (simp only [Wv.Bx,simprocAttr]<;>omega) | fail) only [Wv.B,simprocAttr,Int.natCast_add,Int.natCast_one])
   by_cases e:j=i
   ·subst e;exact hq
   ·exact hb j (by omega)
 ·have hin:i=n:=by omega
  subst hin
  have hf:=findF_none hb
  simp (maxSteps:=2000000) (disch:=first | omega | assumption | (simp only [Wv.Bx,simprocAttr]<;>omega) | fail) only [Wv.B,simprocAttr,hf,idxO]
end Go.Proofs.YtljfgdlgmdcmfaaGreat
namespace Go.Proofs.YtljfgdlgmdcmfaaGreat
open Go.RowKit Wv
set_option linter.unusedVariables false
set_option linter.unusedSimpArgs false
set_option maxHeartbeats 400000 in
set_option maxRecDepth 100000 in
theorem zindexf_ht {h:Hp} (n:Nat) (f:Nat→Int) (p:Nat→Bool) (fid:FuncId) (fst cap:List AV) (hn:n≤140737488351232) (hp: ∀ i,i<n→HT Tryz.prog fid (fst++[.v (.int .i64 (f i))]++cap) h (fun r h'=>r= .v (.bool (p i))∧h'=h)):
  HT Tryz.prog 210 [.t n 1 (tab n fun i=> .v (.int .i64 (f i))), .fn (.func fid) fst cap] h (fun r h'=>r= .v (.int .i64 (idxO (findF p n)))∧h'=h):=by
 refine Wv.HT.by 19 [0,8,7,9,1,5,16,4] [(1000000,h.length)] [.tmp 4] (by kernel_rfl) Tryz.func210 rfl rfl rfl (by kernel_rfl) (by kernel_rfl) (Nat.le_of_ble_eq_true rfl) ?base ?_
 case base=>rfl
 simp (maxSteps:=2000000) (disch:=first | omega | assumption | (simp only [Wv.Bx,simprocAttr]<;>omega) | fail) only [Wv.B,simprocAttr]
 refine wfor (σ:=Nat) (fun i=>[(0, .t n 1 (tab n fun i=> .v (.int .i64 (f i)))),(1, .fn (.func fid) fst cap),(7, .v (.int .i64 n)),(8, .v (.int .i64 i))]) (fun i=>h)
  (fun i=>i≤n∧ ∀ j,j<i→p j=false) (fun i=>n - i) 0 ⟨Nat.zero_le _,fun j hj=>by omega⟩ rfl (by simp (maxSteps:=2000000) (disch:=first | omega | assumption | (simp only [Wv.Bx,simprocAttr]<;>omega) | fail) only [Wv.B,simprocAttr]) ?_
 rintro i ⟨hi,hb⟩
 by_cases hlt:i<n
 ·have e1:(i:Int)<n:=by omega
  simp (maxSteps:=2000000) (disch:=first | omega | assumption | (simp only [Wv.Bx,simprocAttr]<;>omega) | fail) only [Wv.B,simprocAttr]
  refine call_HT (hp i hlt) ?_
  rintro av h' ⟨rfl,rfl⟩
  cases hq:p i with
  | true=>
   have hf:=findF_at hlt hq hb
   simp (maxSteps:=2000000) (disch:=first | omega | assumption | (simp only [Wv.Bx,simprocAttr]<;>omega) | fail) only [Wv.B,simprocAttr,hq,hf,idxO]
  | false=>
   simp (maxSteps:=2000000) (disch:=first | omega | assumption | (simp only [Wv.Bx,simprocAttr]<;>omega) | fail) only [Wv.B,simprocAttr,hq]
   refine k_next (i+1) ⟨by omega,fun j hj=>?_⟩ (by omega) rfl (by simp (maxSteps:=2000000) (disch:=first | omega | assumption | (simp only [Wv.Bx,simprocAttr]<;>omega) | fail) only [Wv.B,simprocAttr,Int.natCast_add,Int.natCast_one])
   by_cases e:j=i
   ·subst e;exact hq
   ·exact hb j (by omega)
 ·have hin:i=n:=by omega
  subst hin
  have hf:=findF_none hb
  simp (maxSteps:=2000000) (disch:=first | omega | assumption | (simp only [Wv.Bx,simprocAttr]<;>omega) | fail) only [Wv.B,simprocAttr,hf,idxO]
set_option maxHeartbeats 400000 in
set_option maxRecDepth 100000 in
theorem zcontf_ht {h:Hp} (n:Nat) (f:Nat→Int) (p:Nat→Bool) (fid:FuncId) (fst cap:List AV) (hn:n≤140737488351232) (hp: ∀ i,i<n→HT Tryz.prog fid (fst++[.v (.int .i64 (f i))]++cap) h (fun r h'=>r= .v (.bool (p i))∧h'=h)):
  HT Tryz.prog 159 [.t n 1 (tab n fun i=> .v (.int .i64 (f i))), .fn (.func fid) fst cap] h (fun r h'=>r= .v (.bool (anyN n p))∧h'=h):=by
 refine Wv.HT.by 9 [0,1,4] [(1000000,h.length)] [.tmp 4] (by kernel_rfl) Tryz.func159 rfl rfl rfl (by kernel_rfl) (by kernel_rfl) (Nat.le_of_ble_eq_true rfl) ?base ?_
 case base=>rfl
 simp (maxSteps:=2000000) (disch:=first | omega | assumption | (simp only [Wv.Bx,simprocAttr]<;>omega) | fail) only [Wv.B,simprocAttr]
 refine call_HT (fst:=[]) (cap:=[]) (zindexf_ht n f p fid fst cap hn hp) ?_
 rintro av h' ⟨rfl,rfl⟩
 simp (maxSteps:=2000000) (disch:=first | omega | assumption | (simp only [Wv.Bx,simprocAttr]<;>omega) | fail) only [Wv.B,simprocAttr,idxO_any]
set_option maxHeartbeats 400000 in
set_option maxRecDepth 100000 in
theorem xindexf_ht {h:Hp} (n:Nat) (cells:List AV) (ec:Nat→List AV) (hl:cells.length=n*5) (hel: ∀ i,i<n→List.take 5 (List.drop (i*5) cells)=ec i) (p:Nat→Bool) (fid:FuncId) (fst cap:List AV) (hn:n≤140737488351232) (hp: ∀ i,i<n→HT Tryz.prog fid (fst++[.g (ec i)]++cap) h (fun r h'=>r= .v (.bool (p i))∧h'=h)):
  HT Tryz.prog 211 [.t n 5 cells, .fn (.func fid) fst cap] h (fun r h'=>r= .v (.int .i64 (idxO (findF p n)))∧h'=h):=by
 refine Wv.HT.by 19 [0,8,7,9,1,5,16,4] [(1000000,h.length)] [.tmp 4] (by kernel_rfl) Tryz.func211 rfl rfl rfl (by kernel_rfl) (by kernel_rfl) (Nat.le_of_ble_eq_true rfl) ?base ?_
 case base=>rfl
 simp (maxSteps:=2000000) (disch:=first | omega | assumption | (simp only [Wv.Bx,simprocAttr]<;>omega) | fail) only [Wv.B,simprocAttr]
 refine wfor (σ:=Nat) (fun i=>[(0, .t n 5 cells),(1, .fn (.func fid) fst cap),(7, .v (.int .i64 n)),(8, .v (.int .i64 i))]) (fun i=>h)
  (fun i=>i≤n∧ ∀ j,j<i→p j=false) (fun i=>n - i) 0 ⟨Nat.zero_le _,fun j hj=>by omega⟩ rfl (by simp (maxSteps:=2000000) (disch:=first | omega | assumption | (simp only [Wv.Bx,simprocAttr]<;>omega) | fail) only [Wv.B,simprocAttr]) ?_
 rintro i ⟨hi,hb⟩
 by_cases hlt:i<n
 ·have e1:(i:Int)<n:=by omega
  have hi2:=hel i hlt
  have hlen:5≤(List.drop (i*5) cells).length:=by rw [List.length_drop,hl];omega
  simp (maxSteps:=2000000) (disch:=first | omega | assumption | (simp only [Wv.Bx,simprocAttr]<;>omega) | fail) only [Wv.B,simprocAttr,hi2]
  refine call_HT (hp i hlt) ?_
  rintro av h' ⟨rfl,rfl⟩
  cases hq:p i with
  | true=>
   have hf:=findF_at hlt hq hb
   simp (maxSteps:=2000000) (disch:=first | omega | assumption | (simp only [Wv.Bx,simprocAttr]<;>omega) | fail) only [Wv.B,simprocAttr,hq,hf,idxO]
  | false=>
   simp (maxSteps:=2000000) (disch:=first | omega | assumption | (simp only [Wv.Bx,simprocAttr]<;>omega) | fail) only [Wv.B,simprocAttr,hq]
   refine k_next (i+1) ⟨by omega,fun j hj=>?_⟩ (by omega) rfl (by simp (maxSteps:=2000000) (disch:=first | omega | assumption | (simp only [Wv.Bx,simprocAttr]<;>omega) | fail) only [Wv.B,simprocAttr,Int.natCast_add,Int.natCast_one])
   by_cases e:j=i
   ·subst e;exact hq
   ·exact hb j (by omega)
 ·have hin:i=n:=by omega
  subst hin
  have hf:=findF_none hb
  simp (maxSteps:=2000000) (disch:=first | omega | assumption | (simp only [Wv.Bx,simprocAttr]<;>omega) | fail) only [Wv.B,simprocAttr,hf,idxO]
set_option maxHeartbeats 400000 in
set_option maxRecDepth 100000 in
theorem xcontf_ht {h:Hp} (n:Nat) (cells:List AV) (ec:Nat→List AV) (hl:cells.length=n*5) (hel: ∀ i,i<n→List.take 5 (List.drop (i*5) cells)=ec i) (p:Nat→Bool) (fid:FuncId) (fst cap:List AV) (hn:n≤140737488351232) (hp: ∀ i,i<n→HT Tryz.prog fid (fst++[.g (ec i)]++cap) h (fun r h'=>r= .v (.bool (p i))∧h'=h)):
  HT Tryz.prog 161 [.t n 5 cells, .fn (.func fid) fst cap] h (fun r h'=>r= .v (.bool (anyN n p))∧h'=h):=by
 refine Wv.HT.by 9 [0,1,4] [(1000000,h.length)] [.tmp 4] (by kernel_rfl) Tryz.func161 rfl rfl rfl (by kernel_rfl) (by kernel_rfl) (Nat.le_of_ble_eq_true rfl) ?base ?_
 case base=>rfl
 simp (maxSteps:=2000000) (disch:=first | omega | assumption | (simp only [Wv.Bx,simprocAttr]<;>omega) | fail) only [Wv.B,simprocAttr]
 refine call_HT (fst:=[]) (cap:=[]) (xindexf_ht n cells ec hl hel p fid fst cap hn hp) ?_
 rintro av h' ⟨rfl,rfl⟩
 simp (maxSteps:=2000000) (disch:=first | omega | assumption | (simp only [Wv.Bx,simprocAttr]<;>omega) | fail) only [Wv.B,simprocAttr,idxO_any]
set_option maxHeartbeats 400000 in
set_option maxRecDepth 100000 in
theorem lindexf_ht {h:Hp} (n:Nat) (cells:List AV) (ec:Nat→List AV) (hl:cells.length=n*6) (hel: ∀ i,i<n→List.take 6 (List.drop (i*6) cells)=ec i) (p:Nat→Bool) (fid:FuncId) (fst cap:List AV) (hn:n≤140737488351232) (hp: ∀ i,i<n→HT Tryz.prog fid (fst++[.g (ec i)]++cap) h (fun r h'=>r= .v (.bool (p i))∧h'=h)):
  HT Tryz.prog 156 [.t n 6 cells, .fn (.func fid) fst cap] h (fun r h'=>r= .v (.int .i64 (idxO (findF p n)))∧h'=h):=by
 refine Wv.HT.by 19 [0,8,7,9,1,5,16,4] [(1000000,h.length)] [.tmp 4] (by kernel_rfl) Tryz.func156 rfl rfl rfl (by kernel_rfl) (by kernel_rfl) (Nat.le_of_ble_eq_true rfl) ?base ?_
 case base=>rfl
 simp (maxSteps:=2000000) (disch:=first | omega | assumption | (simp only [Wv.Bx,simprocAttr]<;>omega) | fail) only [Wv.B,simprocAttr]
 refine wfor (σ:=Nat) (fun i=>[(0, .t n 6 cells),(1, .fn (.func fid) fst cap),(7, .v (.int .i64 n)),(8, .v (.int .i64 i))]) (fun i=>h)
  (fun i=>i≤n∧ ∀ j,j<i→p j=false) (fun i=>n - i) 0 ⟨Nat.zero_le _,fun j hj=>by omega⟩ rfl (by simp (maxSteps:=2000000) (disch:=first | omega | assumption | (simp only [Wv.Bx,simprocAttr]<;>omega) | fail) only [Wv.B,simprocAttr]) ?_
 rintro i ⟨hi,hb⟩
 by_cases hlt:i<n
 ·have e1:(i:Int)<n:=by omega
  have hi2:=hel i hlt
  have hlen:6≤(List.drop (i*6) cells).length:=by rw [List.length_drop,hl];omega
  simp (maxSteps:=2000000) (disch:=first | omega | assumption | (simp only [Wv.Bx,simprocAttr]<;>omega) | fail) only [Wv.B,simprocAttr,hi2]
  refine call_HT (hp i hlt) ?_
  rintro av h' ⟨rfl,rfl⟩
  cases hq:p i with
  | true=>
   have hf:=findF_at hlt hq hb
   simp (maxSteps:=2000000) (disch:=first | omega | assumption | (simp only [Wv.Bx,simprocAttr]<;>omega) | fail) only [Wv.B,simprocAttr,hq,hf,idxO]
  | false=>
   simp (maxSteps:=2000000) (disch:=first | omega | assumption | (simp only [Wv.Bx,simprocAttr]<;>omega) | fail) only [Wv.B,simprocAttr,hq]
   refine k_next (i+1) ⟨by omega,fun j hj=>?_⟩ (by omega) rfl (by simp (maxSteps:=2000000) (disch:=first | omega | assumption | (simp only [Wv.Bx,simprocAttr]<;>omega) | fail) only [Wv.B,simprocAttr,Int.natCast_add,Int.natCast_one])
   by_cases e:j=i
   ·subst e;exact hq
   ·exact hb j (by omega)
 ·have hin:i=n:=by omega
  subst hin
  have hf:=findF_none hb
  simp (maxSteps:=2000000) (disch:=first | omega | assumption | (simp only [Wv.Bx,simprocAttr]<;>omega) | fail) only [Wv.B,simprocAttr,hf,idxO]
set_option maxHeartbeats 400000 in
set_option maxRecDepth 100000 in
theorem lcontf_ht {h:Hp} (n:Nat) (cells:List AV) (ec:Nat→List AV) (hl:cells.length=n*6) (hel: ∀ i,i<n→List.take 6 (List.drop (i*6) cells)=ec i) (p:Nat→Bool) (fid:FuncId) (fst cap:List AV) (hn:n≤140737488351232) (hp: ∀ i,i<n→HT Tryz.prog fid (fst++[.g (ec i)]++cap) h (fun r h'=>r= .v (.bool (p i))∧h'=h)):
  HT Tryz.prog 106 [.t n 6 cells, .fn (.func fid) fst cap] h (fun r h'=>r= .v (.bool (anyN n p))∧h'=h):=by
 refine Wv.HT.by 9 [0,1,4] [(1000000,h.length)] [.tmp 4] (by kernel_rfl) Tryz.func106 rfl rfl rfl (by kernel_rfl) (by kernel_rfl) (Nat.le_of_ble_eq_true rfl) ?base ?_
 case base=>rfl
 simp (maxSteps:=2000000) (disch:=first | omega | assumption | (simp only [Wv.Bx,simprocAttr]<;>omega) | fail) only [Wv.B,simprocAttr]
 refine call_HT (fst:=[]) (cap:=[]) (lindexf_ht n cells ec hl hel p fid fst cap hn hp) ?_
 rintro av h' ⟨rfl,rfl⟩
 simp (maxSteps:=2000000) (disch:=first | omega | assumption | (simp only [Wv.Bx,simprocAttr]<;>omega) | fail) only [Wv.B,simprocAttr,idxO_any]
set_option maxHeartbeats 400000 in
set_option maxRecDepth 100000 in
theorem scontf_ht {h:Hp} (n:Nat) (f:Nat→ByteArray) (p:Nat→Bool) (fid:FuncId) (fst cap:List AV) (hn:n≤140737488351232) (hp: ∀ i,i<n→HT Tryz.prog fid (fst++[.v (.string (f i))]++cap) h (fun r h'=>r= .v (.bool (p i))∧h'=h)):
  HT Tryz.prog 104 [strsA n f, .fn (.func fid) fst cap] h (fun r h'=>r= .v (.bool (anyN n p))∧h'=h):=by
 unfold strsA
 refine Wv.HT.by 9 [0,1,4] [(1000000,h.length)] [.tmp 4] (by kernel_rfl) Tryz.func104 rfl rfl rfl (by kernel_rfl) (by kernel_rfl) (Nat.le_of_ble_eq_true rfl) ?base ?_
 case base=>rfl
 simp (maxSteps:=2000000) (disch:=first | omega | assumption | (simp only [Wv.Bx,simprocAttr]<;>omega) | fail) only [Wv.B,simprocAttr]
 refine call_HT (fst:=[]) (cap:=[]) (sindexf_ht n f p fid fst cap hn hp) ?_
 rintro av h' ⟨rfl,rfl⟩
 simp (maxSteps:=2000000) (disch:=first | omega | assumption | (simp only [Wv.Bx,simprocAttr]<;>omega) | fail) only [Wv.B,simprocAttr,idxO_any]
end Go.Proofs.YtljfgdlgmdcmfaaGreat
namespace Go.Proofs.YtljfgdlgmdcmfaaGreat
open Go.RowKit Wv
set_option linter.unusedVariables false
set_option linter.unusedSimpArgs false
def byt (b:ByteArray) (i:Nat):Int:=((b[i]?).map fun c=>(c.toNat:Int)).getD 0
theorem byt_at {b:ByteArray} {i:Nat} (h:i<b.size): ∃ c:UInt8,b[i]? =some c∧(c.toNat:Int)=byt b i:=by
 refine ⟨b[i],getElem?_pos b i h,?_⟩
 unfold byt
 rw [getElem?_pos b i h];rfl
theorem byt_ge (b:ByteArray) (i:Nat):0≤byt b i∧byt b i<256:=by
 unfold byt
 cases b[i]? with
 | none=>exact ⟨Int.le_refl 0,by decide⟩
 | some c=>
  have h:c.toNat<256:=c.toNat_lt
  show 0≤((c.toNat:Nat):Int)∧((c.toNat:Nat):Int)<256
  exact ⟨Int.natCast_nonneg _,Int.ofNat_lt.2 h⟩
theorem bytA_tab (b:ByteArray):bytA b=tab b.size fun i=> .v (.int .u8 (byt b i)):=by
 apply List.ext_getElem
 ·unfold bytA tab
  rw [List.length_map,List.length_map,List.length_range]
  rfl
 ·intro i h1 h2
  have hi:i<b.size:=by simpa [bytA] using h1
  obtain ⟨c,hc,hb⟩:=byt_at hi
  have hc':b.data[i]'hi=c:=by
   rw [getElem?_pos b i hi] at hc
   exact Option.some.inj hc
  simp [bytA,tab, ←hb,hc']
def w4 (i:Nat):ByteArray:=match i with | 0=>⟨#[99,105,114,99,117,105,116]⟩ | 1=>⟨#[105,110,112,117,116]⟩ | 2=>⟨#[108,101,116]⟩ | _=>⟨#[111,117,116,112,117,116]⟩
def w8 (i:Nat):ByteArray:=match i with | 0=>⟨#[114,111,116]⟩ | 1=>⟨#[115,119,97,112]⟩ | 2=>⟨#[109,97,115,107]⟩ | 3=>⟨#[116,97,98,108,101]⟩ | 4=>⟨#[101,113]⟩ | 5=>⟨#[108,101,115,115]⟩ | 6=>⟨#[112,111,119]⟩ | _=>⟨#[115,117,109]⟩
def w16 (i:Nat):ByteArray:=if i<8 then ⟨#[]⟩ else w8 (i - 8)
def wordB (s:ByteArray) (i:Nat):Bool:=letB (byt s i) || (digB (byt s i) || decide (byt s i=95))
def nameB (s:ByteArray):Bool:=!(decide (s=⟨#[]⟩) || (decide (16<s.size) || (!letB (byt s 0) || (anyN 4 (fun i=>decide (s=w4 i)) || anyN 16 (fun i=>decide (s=w16 i)))))) && !anyN s.size fun i=>!wordB s i
theorem und_str:(Tryz.prog.underlying 9).isSome=true:=by kernel_rfl
set_option maxHeartbeats 400000 in
set_option maxRecDepth 100000 in
theorem calls_tc:TC Tryz.prog 151 [] (.g [.v (.string ⟨#[]⟩), .v (.string ⟨#[]⟩), .v (.string ⟨#[]⟩), .v (.string ⟨#[]⟩), .v (.string ⟨#[]⟩), .v (.string ⟨#[]⟩), .v (.string ⟨#[]⟩), .v (.string ⟨#[]⟩), .v (.string ⟨#[114,111,116]⟩), .v (.string ⟨#[115,119,97,112]⟩), .v (.string ⟨#[109,97,115,107]⟩), .v (.string ⟨#[116,97,98,108,101]⟩), .v (.string ⟨#[101,113]⟩), .v (.string ⟨#[108,101,115,115]⟩), .v (.string ⟨#[112,111,119]⟩), .v (.string ⟨#[115,117,109]⟩)]):=by
 refine Wv.TC.by 2 [0] [] [.cell 0 191] (by kernel_rfl) Tryz.func151 rfl rfl rfl (by kernel_rfl) (by kernel_rfl) (Nat.le_of_ble_eq_true rfl) rfl ?clo ?_
 case clo=>simp only [Wv.BC]
 simp (maxSteps:=2000000) (disch:=first | omega | assumption | (simp only [Wv.Bx,simprocAttr]<;>omega) | fail) only [Wv.B,simprocAttr]
set_option maxHeartbeats 400000 in
set_option maxRecDepth 100000 in
theorem pname_tc (s:ByteArray) (hs:s.size≤140737488351232):TC Tryz.prog 103 [.v (.string s)] (.v (.bool (nameB s))):=by
 refine Wv.TC.by 50 [0,3,29,33,32,34,31,5,48,2] [] [.tmp 2] (by kernel_rfl) Tryz.func103 rfl rfl rfl (by kernel_rfl) (by kernel_rfl) (Nat.le_of_ble_eq_true rfl) rfl ?clo ?_
 case clo=>simp only [Wv.BC]
 simp (maxSteps:=2000000) (disch:=first | omega | assumption | (simp only [Wv.Bx,simprocAttr]<;>omega) | fail) only [Wv.B,simprocAttr]
 refine call_TC calls_tc rfl (by simp only [Wv.BC]) (by simp only [Wv.BC]) ?_
 have hN:nameB s=(!(decide (s=⟨#[]⟩) || (decide (16<s.size) || (!letB (byt s 0) || (anyN 4 (fun i=>decide (s=w4 i)) || anyN 16 (fun i=>decide (s=w16 i)))))) && !anyN s.size fun i=>!wordB s i):=rfl
 cases h1:decide (s=⟨#[]⟩) with
 | true=>
  rw [h1,Bool.true_or,Bool.not_true,Bool.false_and] at hN
  simp (maxSteps:=2000000) (disch:=first | omega | assumption | (simp only [Wv.Bx,simprocAttr]<;>omega) | fail) only [Wv.B,simprocAttr,h1,hN]
 | false=>
  cases h2:decide (16<s.size) with
  | true=>
   have h2':(16:Int)<s.size:=by have:=of_decide_eq_true h2;omega
   rw [h1,h2,Bool.false_or,Bool.true_or,Bool.not_true,Bool.false_and] at hN
   simp (maxSteps:=2000000) (disch:=first | omega | assumption | (simp only [Wv.Bx,simprocAttr]<;>omega) | fail) only [Wv.B,simprocAttr,h1,h2,decide_eq_true h2',hN]
  | false=>
   have h2': ¬ (16:Int)<s.size:=by have:=of_decide_eq_false h2;omega
   have hsz:s.size≠0:=fun e=>of_decide_eq_false h1 (by cases s with | mk d=>simp [ByteArray.size] at e;rw [e])
   obtain ⟨c,hc,hb⟩:=byt_at (b:=s) (i:=0) (by omega)
   have hg:=byt_ge s 0
   simp (maxSteps:=2000000) (disch:=first | omega | assumption | (simp only [Wv.Bx,simprocAttr]<;>omega) | fail) only [Wv.B,simprocAttr,h1,h2,decide_eq_false h2',hc,hb]
   refine call_TC (pletter_tc (byt s 0) hg.1 hg.2) rfl (by simp only [Wv.BC]) (by simp only [Wv.BC]) ?_
   cases h3:letB (byt s 0) with
   | false=>
    rw [h1,h2,h3,Bool.false_or,Bool.false_or,Bool.not_false,Bool.true_or,Bool.not_true,Bool.false_and] at hN
    simp (maxSteps:=2000000) (disch:=first | omega | assumption | (simp only [Wv.Bx,simprocAttr]<;>omega) | fail) only [Wv.B,simprocAttr,hN]
   | true=>
    simp (maxSteps:=2000000) (disch:=first | omega | assumption | (simp only [Wv.Bx,simprocAttr]<;>omega) | fail) only [Wv.B,simprocAttr]
    refine call_TC (scontains_tc 4 w4 s (by omega)) rfl (by simp only [Wv.BC,strs_clo]) (by simp only [Wv.BC]) ?_
    cases h4:anyN 4 (fun i=>decide (s=w4 i)) with
    | true=>
     rw [h1,h2,h3,h4,Bool.false_or,Bool.false_or,Bool.not_true,Bool.false_or,Bool.true_or,Bool.not_true,Bool.false_and] at hN
     simp (maxSteps:=2000000) (disch:=first | omega | assumption | (simp only [Wv.Bx,simprocAttr]<;>omega) | fail) only [Wv.B,simprocAttr,hN]
    | false=>
     simp (maxSteps:=2000000) (disch:=first | omega | assumption | (simp only [Wv.Bx,simprocAttr]<;>omega) | fail) only [Wv.B,simprocAttr]
     refine call_TC (scontains_tc 16 w16 s (by omega)) rfl (by simp only [Wv.BC,strs_clo]) (by simp only [Wv.BC]) ?_
     cases h5:anyN 16 (fun i=>decide (s=w16 i)) with
     | true=>
      rw [h1,h2,h3,h4,h5,Bool.false_or,Bool.false_or,Bool.not_true,Bool.false_or,Bool.false_or,Bool.not_true,Bool.false_and] at hN
      simp (maxSteps:=2000000) (disch:=first | omega | assumption | (simp only [Wv.Bx,simprocAttr]<;>omega) | fail) only [Wv.B,simprocAttr,hN]
     | false=>
      rw [h1,h2,h3,h4,h5,Bool.false_or,Bool.false_or,Bool.not_true,Bool.false_or,Bool.false_or,Bool.not_false,Bool.true_and] at hN
      clear h1 h2 h3 h4 h5 hc hb hg
      simp (maxSteps:=2000000) (disch:=first | omega | assumption | (simp only [Wv.Bx,simprocAttr]<;>omega) | fail) only [Wv.B,simprocAttr,Wv.cvX_u8 und_str hs,bytA_tab]
      refine wfor (σ:=Nat) (fun i=>[(0, .v (.string s)),(31, .t s.size 1 (tab s.size fun i=> .v (.int .u8 (byt s i)))),(32, .v (.int .i64 s.size)),(33, .v (.int .i64 i))]) (fun i=>[none,some (.arr 9 1 [.v (.string ⟨#[99,105,114,99,117,105,116]⟩), .v (.string ⟨#[105,110,112,117,116]⟩), .v (.string ⟨#[108,101,116]⟩), .v (.string ⟨#[111,117,116,112,117,116]⟩)] 4)])
       (fun i=>i≤s.size∧ ∀ j,j<i→wordB s j=true) (fun i=>s.size - i) 0 ⟨Nat.zero_le _,fun j hj=>by omega⟩ (by simp (maxSteps:=2000000) (disch:=first | omega | assumption | (simp only [Wv.Bx,simprocAttr]<;>omega) | fail) only [Wv.B,simprocAttr]) (by simp (maxSteps:=2000000) (disch:=first | omega | assumption | (simp only [Wv.Bx,simprocAttr]<;>omega) | fail) only [Wv.B,simprocAttr]) ?_
      rintro i ⟨hi,hj⟩
      by_cases hlt:i<s.size
      ·have e1:(i:Int)<s.size:=by omega
       have hg:=byt_ge s i
       simp (maxSteps:=2000000) (disch:=first | omega | assumption | (simp only [Wv.Bx,simprocAttr]<;>omega) | fail) only [Wv.B,simprocAttr]
       refine call_TC (pletter_tc (byt s i) hg.1 hg.2) rfl (by simp only [Wv.BC]) (by simp only [Wv.BC]) ?_
       cases h3:letB (byt s i) with
       | true=>
        simp (maxSteps:=2000000) (disch:=first | omega | assumption | (simp only [Wv.Bx,simprocAttr]<;>omega) | fail) only [Wv.B,simprocAttr]
        refine k_next (i+1) ⟨by omega,fun j q=>?_⟩ (by omega) (by simp (maxSteps:=2000000) (disch:=first | omega | assumption | (simp only [Wv.Bx,simprocAttr]<;>omega) | fail) only [Wv.B,simprocAttr]) (by simp (maxSteps:=2000000) (disch:=first | omega | assumption | (simp only [Wv.Bx,simprocAttr]<;>omega) | fail) only [Wv.B,simprocAttr,Int.natCast_add,Int.natCast_one])
        by_cases e:j=i
        ·subst e;unfold wordB;rw [h3];rfl
        ·exact hj j (by omega)
       | false=>
        simp (maxSteps:=2000000) (disch:=first | omega | assumption | (simp only [Wv.Bx,simprocAttr]<;>omega) | fail) only [Wv.B,simprocAttr]
        refine call_TC (pdigit_tc (byt s i)) rfl (by simp only [Wv.BC]) (by simp only [Wv.BC]) ?_
        cases h4:digB (byt s i) with
        | true=>
         simp (maxSteps:=2000000) (disch:=first | omega | assumption | (simp only [Wv.Bx,simprocAttr]<;>omega) | fail) only [Wv.B,simprocAttr]
         refine k_next (i+1) ⟨by omega,fun j q=>?_⟩ (by omega) (by simp (maxSteps:=2000000) (disch:=first | omega | assumption | (simp only [Wv.Bx,simprocAttr]<;>omega) | fail) only [Wv.B,simprocAttr]) (by simp (maxSteps:=2000000) (disch:=first | omega | assumption | (simp only [Wv.Bx,simprocAttr]<;>omega) | fail) only [Wv.B,simprocAttr,Int.natCast_add,Int.natCast_one])
         by_cases e:j=i
         ·subst e;unfold wordB;rw [h3,h4];rfl
         ·exact hj j (by omega)
        | false=>
         cases h5:decide (byt s i=95) with
         | true=>
          simp (maxSteps:=2000000) (disch:=first | omega | assumption | (simp only [Wv.Bx,simprocAttr]<;>omega) | fail) only [Wv.B,simprocAttr,h5]
          refine k_next (i+1) ⟨by omega,fun j q=>?_⟩ (by omega) (by simp (maxSteps:=2000000) (disch:=first | omega | assumption | (simp only [Wv.Bx,simprocAttr]<;>omega) | fail) only [Wv.B,simprocAttr]) (by simp (maxSteps:=2000000) (disch:=first | omega | assumption | (simp only [Wv.Bx,simprocAttr]<;>omega) | fail) only [Wv.B,simprocAttr,Int.natCast_add,Int.natCast_one])
          by_cases e:j=i
          ·subst e;unfold wordB;rw [h3,h4,h5];rfl
          ·exact hj j (by omega)
         | false=>
          have:nameB s=false:=by
           rw [hN]
           have:anyN s.size (fun i=>!wordB s i)=true:=by
            unfold anyN
            refine List.any_eq_true.2 ⟨i,List.mem_range.2 hlt,?_⟩
            unfold wordB;rw [h3,h4,h5];rfl
           rw [this];rfl
          simp (maxSteps:=2000000) (disch:=first | omega | assumption | (simp only [Wv.Bx,simprocAttr]<;>omega) | fail) only [Wv.B,simprocAttr,h5,this]
      ·have hin:i=s.size:=by omega
       subst hin
       have:nameB s=true:=by
        rw [hN]
        have:anyN s.size (fun i=>!wordB s i)=false:=by
         unfold anyN
         refine List.any_eq_false.2 fun i hi=>?_
         rw [hj i (List.mem_range.1 hi)];decide
        rw [this];rfl
       simp (maxSteps:=2000000) (disch:=first | omega | assumption | (simp only [Wv.Bx,simprocAttr]<;>omega) | fail) only [Wv.B,simprocAttr,this]
end Go.Proofs.YtljfgdlgmdcmfaaGreat
namespace Go.Proofs.YtljfgdlgmdcmfaaGreat
open Go.RowKit Wv
set_option linter.unusedVariables false
set_option linter.unusedSimpArgs false
inductive Ex where
 | nil
 | mk (k:Int) (s:ByteArray) (n:Int) (nl:Nat) (li:Nat→Int) (na:Nat) (ar:Nat→Ex)
def tabM (n:Nat) (f:Nat→List AV):List AV:=(List.range n).flatMap f
theorem tabM_succ (n:Nat) (f:Nat→List AV):tabM (n+1) f=tabM n f++f n:=by
 unfold tabM
 rw [List.range_succ,List.flatMap_append]
 simp
theorem tabM_len {m:Nat}: ∀ {n:Nat} {f:Nat→List AV},(∀ i,(f i).length=m)→(tabM n f).length=n*m
 | 0,f,h=>by simp [tabM]
 | n+1,f,h=>by rw [tabM_succ,List.length_append,tabM_len h,h n,Nat.add_mul,Nat.one_mul]
theorem tabM_at {m:Nat}: ∀ {n:Nat} {f:Nat→List AV},(∀ i,(f i).length=m)→ ∀ i,i<n→List.take m (List.drop (i*m) (tabM n f))=f i
 | 0,f,h,i,hi=>by omega
 | n+1,f,h,i,hi=>by
  rw [tabM_succ]
  have hl:=tabM_len (n:=n) h
  by_cases e:i=n
  ·subst e
   rw [←hl,List.drop_left, ←h i,List.take_length]
  ·have hi':i<n:=by omega
   have:i*m+m≤n*m:=by rw [←Nat.succ_mul];exact Nat.mul_le_mul_right _ (by omega)
   rw [List.drop_append_of_le_length (by omega),List.take_append_of_le_length (by rw [List.length_drop];omega)]
   exact tabM_at h i hi'
theorem tabM_drop {m n:Nat} {f:Nat→List AV} (h: ∀ i,(f i).length=m) {i:Nat} (hi:i<n): ∃ r,List.drop (i*m) (tabM n f)=f i++r:=by
 refine ⟨List.drop m (List.drop (i*m) (tabM n f)),?_⟩
 have:=tabM_at h i hi
 rw [←this]
 exact (List.take_append_drop m _).symm
theorem tabM_clo {n:Nat} {f:Nat→List AV} (h: ∀ i,i<n→ ∀ a,a∈f i→Clo a): ∀ a,a∈tabM n f→Clo a:=by
 intro a ha
 unfold tabM at ha
 obtain ⟨i,h1,h2⟩:=List.mem_flatMap.1 ha
 exact h i (List.mem_range.1 h1) a h2
theorem cloA1 {a:AV} (h1:Clo a): ∀ x,x∈[a]→Clo x:=by simp only [Wv.BC];exact h1
def Ex.kind:Ex→Int
 | .nil=>0
 | .mk k .. =>k
def exC:Ex→List AV
 | .nil=>[.v (.int .i64 0), .v (.string ⟨#[]⟩), .v (.int .i64 0), .t 0 1 [], .t 0 5 []]
 | .mk k s n nl li na ar=>[.v (.int .i64 k), .v (.string s), .v (.int .i64 n), .t nl 1 (tab nl fun i=> .v (.int .i64 (li i))), .t na 5 (tabM na fun i=>exC (ar i))]
theorem exC_mk (k:Int) (s:ByteArray) (n:Int) (nl:Nat) (li:Nat→Int) (na:Nat) (ar:Nat→Ex):exC (.mk k s n nl li na ar)=[.v (.int .i64 k), .v (.string s), .v (.int .i64 n), .t nl 1 (tab nl fun i=> .v (.int .i64 (li i))), .t na 5 (tabM na fun i=>exC (ar i))]:=rfl
theorem exC_len (x:Ex):(exC x).length=5:=by cases x<;>rfl
theorem exC_clo: ∀ (x:Ex) a,a∈exC x→Clo a:=by
 intro x
 induction x with
 | nil=>unfold exC;simp only [Wv.BC]
 | mk k s n nl li na ar ih=>
  unfold exC
  have h:=tabM_clo (n:=na) (f:=fun i=>exC (ar i)) fun i _=>ih i
  intro a ha
  simp only [List.mem_cons,List.not_mem_nil,or_false] at ha
  rcases ha with rfl | rfl | rfl | rfl | rfl
  ·simp only [Wv.BC]
  ·simp only [Wv.BC]
  ·simp only [Wv.BC]
  ·simp only [Wv.BC]
  ·simp only [Wv.BC];exact h
theorem exG_clo (x:Ex):Clo (.g (exC x)):=by simp only [Wv.BC];exact exC_clo x
def okE:Ex→Prop
 | .nil=>False
 | .mk k s n nl li na ar=>s.size≤140737488351232∧nl≤140737488351232∧na≤140737488351232∧ ∀ i,i<na→okE (ar i)
theorem ok_mk {x:Ex} (h:okE x): ∃ k s n nl li na ar,x= .mk k s n nl li na ar:=by
 cases x with
 | nil=>exact h.elim
 | mk k s n nl li na ar=>exact ⟨k,s,n,nl,li,na,ar,rfl⟩
def inB (n:Int):Bool:=decide (-4294967295≤n) && decide (n≤4294967295)
def argN (k:Nat):Int:=match k with | 4=>2 | 5=>2 | 6=>1 | 7=>2 | 8=>1 | 9=>1 | 10=>1 | 11=>1 | 12=>2 | 13=>1 | 14=>1 | 15=>1 | _=>0
def numK (k:Nat):Bool:=match k with | 2=>true | 8=>true | 13=>true | 14=>true | _=>false
def lisK (k:Nat):Bool:=match k with | 3=>true | 10=>true | 11=>true | _=>false
def formB:Ex→Bool
 | .nil=>false
 | .mk k s n nl li na ar=>!decide (k<1) && (!decide (15<k) && ((if k=1 then nameB s else decide (s=⟨#[]⟩)) && (decide ((na:Int)=argN k.toNat) && ((numK k.toNat || decide (n=0)) && ((lisK k.toNat || decide ((nl:Int)=0)) && (inB n && (!anyN nl (fun i=>!inB (li i)) && !anyN na fun i=>!formB (ar i))))))))
set_option maxHeartbeats 400000 in
set_option maxRecDepth 100000 in
theorem pinside_tc (n:Int):TC Tryz.prog 158 [.v (.int .i64 n)] (.v (.bool (inB n))):=by
 refine Wv.TC.by 9 [0,2] [] [.tmp 2] (by kernel_rfl) Tryz.func158 rfl rfl rfl (by kernel_rfl) (by kernel_rfl) (Nat.le_of_ble_eq_true rfl) rfl ?clo ?_
 case clo=>simp only [Wv.BC]
 unfold inB
 by_cases hq: -4294967295≤n
 ·simp (maxSteps:=2000000) (disch:=first | omega | assumption | (simp only [Wv.Bx,simprocAttr]<;>omega) | fail) only [Wv.B,simprocAttr,decide_eq_true hq]
 ·simp (maxSteps:=2000000) (disch:=first | omega | assumption | (simp only [Wv.Bx,simprocAttr]<;>omega) | fail) only [Wv.B,simprocAttr,decide_eq_false hq]
set_option maxHeartbeats 400000 in
set_option maxRecDepth 100000 in
theorem pformed1_tc (n:Int):TC Tryz.prog 160 [.v (.int .i64 n)] (.v (.bool (!inB n))):=by
 refine Wv.TC.by 6 [0,2] [] [.tmp 2] (by kernel_rfl) Tryz.func160 rfl rfl rfl (by kernel_rfl) (by kernel_rfl) (Nat.le_of_ble_eq_true rfl) rfl ?clo ?_
 case clo=>simp only [Wv.BC]
 simp (maxSteps:=2000000) (disch:=first | omega | assumption | (simp only [Wv.Bx,simprocAttr]<;>omega) | fail) only [Wv.B,simprocAttr]
 refine call_TC (pinside_tc n) rfl (by simp only [Wv.BC]) (by simp only [Wv.BC]) ?_
 simp (maxSteps:=2000000) (disch:=first | omega | assumption | (simp only [Wv.Bx,simprocAttr]<;>omega) | fail) only [Wv.B,simprocAttr]
def formL:List AV:= .v (.int .i64 0):: .v (.bool false):: .v (.bool false):: .v (.int .i64 0):: .v (.bool false):: .v (.bool false):: .v (.int .i64 0):: .v (.bool true):: .v (.bool false):: .v (.int .i64 0):: .v (.bool false):: .v (.bool true):: .v (.int .i64 2):: .v (.bool false):: .v (.bool false):: .v (.int .i64 2):: .v (.bool false):: .v (.bool false):: .v (.int .i64 1):: .v (.bool false):: .v (.bool false):: .v (.int .i64 2):: .v (.bool false):: .v (.bool false):: .v (.int .i64 1):: .v (.bool true):: .v (.bool false):: .v (.int .i64 1):: .v (.bool false):: .v (.bool false):: .v (.int .i64 1):: .v (.bool false):: .v (.bool true):: .v (.int .i64 1):: .v (.bool false):: .v (.bool true):: .v (.int .i64 2):: .v (.bool false):: .v (.bool false):: .v (.int .i64 1):: .v (.bool true):: .v (.bool false):: .v (.int .i64 1):: .v (.bool true):: .v (.bool false):: .v (.int .i64 1):: .v (.bool false):: .v (.bool false)::[]
theorem formL_at: ∀ m:Nat,m<16→ ∃ r,List.drop (m*3) formL= .v (.int .i64 (argN m)):: .v (.bool (numK m)):: .v (.bool (lisK m))::r
 | 0,_=>⟨_,rfl⟩ | 1,_=>⟨_,rfl⟩ | 2,_=>⟨_,rfl⟩ | 3,_=>⟨_,rfl⟩ | 4,_=>⟨_,rfl⟩ | 5,_=>⟨_,rfl⟩ | 6,_=>⟨_,rfl⟩ | 7,_=>⟨_,rfl⟩ | 8,_=>⟨_,rfl⟩ | 9,_=>⟨_,rfl⟩ | 10,_=>⟨_,rfl⟩ | 11,_=>⟨_,rfl⟩ | 12,_=>⟨_,rfl⟩ | 13,_=>⟨_,rfl⟩ | 14,_=>⟨_,rfl⟩ | 15,_=>⟨_,rfl⟩
 | n+16,h=>by omega
set_option maxHeartbeats 400000 in
set_option maxRecDepth 100000 in
theorem forms_tc:TC Tryz.prog 157 [] (.g formL):=by
 refine Wv.TC.by 17 [0] [] [.cell 0 200] (by kernel_rfl) Tryz.func157 rfl rfl rfl (by kernel_rfl) (by kernel_rfl) (Nat.le_of_ble_eq_true rfl) rfl ?clo ?_
 case clo=>unfold formL;simp only [Wv.BC]
 simp (maxSteps:=2000000) (disch:=first | omega | assumption | (simp only [Wv.Bx,simprocAttr]<;>omega) | fail) only [Wv.B,simprocAttr,formL]
set_option maxHeartbeats 400000 in
set_option maxRecDepth 100000 in
theorem pformed2_tc (x:Ex) (hx:okE x) (b:Bool) (T:TC Tryz.prog 108 [.g (exC x)] (.v (.bool b))):TC Tryz.prog 162 [.g (exC x)] (.v (.bool (!b))):=by
 refine Wv.TC.by 6 [0,1,2] [] [.tmp 2] (by kernel_rfl) Tryz.func162 rfl rfl rfl (by kernel_rfl) (by kernel_rfl) (Nat.le_of_ble_eq_true rfl) rfl ?clo ?_
 case clo=>simp only [Wv.BC]
 obtain ⟨k,s,n,nl,li,na,ar,rfl⟩:=ok_mk hx
 have hG:=exG_clo (.mk k s n nl li na ar)
 unfold exC at T hG ⊢
 simp (maxSteps:=2000000) (disch:=first | omega | assumption | (simp only [Wv.Bx,simprocAttr]<;>omega) | fail) only [Wv.B,simprocAttr]
 refine call_TC T rfl (cloA1 hG) (by simp only [Wv.BC]) ?_
 simp (maxSteps:=2000000) (disch:=first | omega | assumption | (simp only [Wv.Bx,simprocAttr]<;>omega) | fail) only [Wv.B,simprocAttr]
set_option maxHeartbeats 400000 in
set_option maxRecDepth 100000 in
theorem pformed_tc (x:Ex) (h:okE x):TC Tryz.prog 108 [.g (exC x)] (.v (.bool (formB x))):=by
 induction x with
 | nil=>exact h.elim
 | mk k s n nl li na ar ih=>
 obtain ⟨hs,hnl,hna,hh⟩:=h
 refine Wv.TC.by 73 [0,1,14,3,24,5,4,2] [] [.tmp 2] (by kernel_rfl) Tryz.func108 rfl rfl rfl (by kernel_rfl) (by kernel_rfl) (Nat.le_of_ble_eq_true rfl) rfl ?clo ?_
 case clo=>simp only [Wv.BC]
 unfold exC
 simp (maxSteps:=2000000) (disch:=first | omega | assumption | (simp only [Wv.Bx,simprocAttr]<;>omega) | fail) only [Wv.B,simprocAttr]
 refine call_TC forms_tc rfl (by simp only [Wv.BC]) (by unfold formL;simp only [Wv.BC]) ?_
 have hN:formB (.mk k s n nl li na ar)=(!decide (k<1) && (!decide (15<k) && ((if k=1 then nameB s else decide (s=⟨#[]⟩)) && (decide ((na:Int)=argN k.toNat) && ((numK k.toNat || decide (n=0)) && ((lisK k.toNat || decide ((nl:Int)=0)) && (inB n && (!anyN nl (fun i=>!inB (li i)) && !anyN na fun i=>!formB (ar i))))))))):=rfl
 by_cases h1:k<1
 ·rw [decide_eq_true h1,Bool.not_true,Bool.false_and] at hN
  simp (maxSteps:=2000000) (disch:=first | omega | assumption | (simp only [Wv.Bx,simprocAttr]<;>omega) | fail) only [Wv.B,simprocAttr,formL,decide_eq_true h1,hN]
 by_cases h2:15<k
 ·rw [decide_eq_false h1,decide_eq_true h2,Bool.not_true,Bool.false_and,Bool.not_false,Bool.true_and] at hN
  simp (maxSteps:=2000000) (disch:=first | omega | assumption | (simp only [Wv.Bx,simprocAttr]<;>omega) | fail) only [Wv.B,simprocAttr,formL,decide_eq_false h1,decide_eq_true h2,hN]
 rw [decide_eq_false h1,decide_eq_false h2,Bool.not_false,Bool.true_and,Bool.true_and] at hN
 have hk0:0≤k:=by omega
 obtain ⟨lr,hf⟩:=formL_at k.toNat (by omega)
 unfold formL at hf
 have hz: ∃ b:Bool,(if k=1 then nameB s else decide (s=⟨#[]⟩))=b:=⟨_,rfl⟩
 obtain ⟨b3,h3⟩:=hz
 rw [h3] at hN
 simp (maxSteps:=2000000) (disch:=first | omega | assumption | (simp only [Wv.Bx,simprocAttr]<;>omega) | fail) only [Wv.B,simprocAttr,formL,decide_eq_false h1,decide_eq_false h2,hf]
 clear hf
 by_cases hk1:k=1
 all_goals first | rw [if_pos hk1] at h3 | rw [if_neg hk1] at h3
 rotate_left
 simp (maxSteps:=2000000) (disch:=first | omega | assumption | (simp only [Wv.Bx,simprocAttr]<;>omega) | fail) only [Wv.B,simprocAttr,decide_eq_false hk1,h3]
 rotate_left
 simp (maxSteps:=2000000) (disch:=first | omega | assumption | (simp only [Wv.Bx,simprocAttr]<;>omega) | fail) only [Wv.B,simprocAttr,decide_eq_true hk1]
 refine call_TC (pname_tc s hs) rfl (by simp only [Wv.BC]) (by simp only [Wv.BC]) ?_
 simp (maxSteps:=2000000) (disch:=first | omega | assumption | (simp only [Wv.Bx,simprocAttr]<;>omega) | fail) only [Wv.B,simprocAttr,h3]
 all_goals
  cases b3 with
  | false=>rw [Bool.false_and] at hN;simp (maxSteps:=2000000) (disch:=first | omega | assumption | (simp only [Wv.Bx,simprocAttr]<;>omega) | fail) only [Wv.B,simprocAttr,hN]
  | true=>
  rw [Bool.true_and] at hN
  cases h4:decide ((na:Int)=argN k.toNat) with
  | false=>rw [h4,Bool.false_and] at hN;simp (maxSteps:=2000000) (disch:=first | omega | assumption | (simp only [Wv.Bx,simprocAttr]<;>omega) | fail) only [Wv.B,simprocAttr,h4,hN]
  | true=>
  rw [h4,Bool.true_and] at hN
  cases h56:(numK k.toNat || decide (n=0)) with
  | false=>
   rw [h56,Bool.false_and] at hN
   have h5:=(Bool.or_eq_false_iff.1 h56).1
   have h6:=(Bool.or_eq_false_iff.1 h56).2
   simp (maxSteps:=2000000) (disch:=first | omega | assumption | (simp only [Wv.Bx,simprocAttr]<;>omega) | fail) only [Wv.B,simprocAttr,h4,h5,h6,hN]
  | true=>
  have e5:(numK k.toNat=true∧(0:Nat)=0)∨(numK k.toNat=false∧decide (n=0)=true):=by
   cases q:numK k.toNat with
   | true=>exact .inl ⟨rfl,rfl⟩
   | false=>rw [q,Bool.false_or] at h56;exact .inr ⟨rfl,h56⟩
  rw [h56,Bool.true_and] at hN
  cases h78:(lisK k.toNat || decide ((nl:Int)=0)) with
  | false=>
   rw [h78,Bool.false_and] at hN
   have h7:=(Bool.or_eq_false_iff.1 h78).1
   have h8:=(Bool.or_eq_false_iff.1 h78).2
   rcases e5 with ⟨h5,h6⟩ | ⟨h5,h6⟩<;>simp (maxSteps:=2000000) (disch:=first | omega | assumption | (simp only [Wv.Bx,simprocAttr]<;>omega) | fail) only [Wv.B,simprocAttr,h4,h5,h6,h7,h8,hN]
  | true=>
  have e7:(lisK k.toNat=true∧(0:Nat)=0)∨(lisK k.toNat=false∧decide ((nl:Int)=0)=true):=by
   cases q:lisK k.toNat with
   | true=>exact .inl ⟨rfl,rfl⟩
   | false=>rw [q,Bool.false_or] at h78;exact .inr ⟨rfl,h78⟩
  rw [h78,Bool.true_and] at hN
  rcases e5 with ⟨h5,h6⟩ | ⟨h5,h6⟩<;>rcases e7 with ⟨h7,h8⟩ | ⟨h7,h8⟩
  all_goals
   simp (maxSteps:=2000000) (disch:=first | omega | assumption | (simp only [Wv.Bx,simprocAttr]<;>omega) | fail) only [Wv.B,simprocAttr,h4,h5,h6,h7,h8]
   clear h56 h78 h4
   refine call_TC (pinside_tc n) rfl (by simp only [Wv.BC]) (by simp only [Wv.BC]) ?_
   cases h9:inB n with
   | false=>rw [h9,Bool.false_and] at hN;simp (maxSteps:=2000000) (disch:=first | omega | assumption | (simp only [Wv.Bx,simprocAttr]<;>omega) | fail) only [Wv.B,simprocAttr,hN]
   | true=>
   rw [h9,Bool.true_and] at hN
   simp (maxSteps:=2000000) (disch:=first | omega | assumption | (simp only [Wv.Bx,simprocAttr]<;>omega) | fail) only [Wv.B,simprocAttr]
   refine call_HT (fst:=[]) (cap:=[]) (zcontf_ht nl li (fun i=>!inB (li i)) _ [] [] hnl fun i hi=>(pformed1_tc (li i)).ht (cloA1 (by simp only [Wv.BC])) (by simp only [Wv.BC]) _) ?_
   rintro av h' ⟨rfl,rfl⟩
   cases h10:anyN nl (fun i=>!inB (li i)) with
   | true=>rw [h10,Bool.not_true,Bool.false_and] at hN;simp (maxSteps:=2000000) (disch:=first | omega | assumption | (simp only [Wv.Bx,simprocAttr]<;>omega) | fail) only [Wv.B,simprocAttr,hN]
   | false=>
   rw [h10,Bool.not_false,Bool.true_and] at hN
   simp (maxSteps:=2000000) (disch:=first | omega | assumption | (simp only [Wv.Bx,simprocAttr]<;>omega) | fail) only [Wv.B,simprocAttr]
   refine call_HT (fst:=[]) (cap:=[]) (xcontf_ht na (tabM na fun i=>exC (ar i)) (fun i=>exC (ar i)) (tabM_len fun i=>exC_len _) (tabM_at fun i=>exC_len _) (fun i=>!formB (ar i)) _ [] [] hna fun i hi=>(pformed2_tc (ar i) (hh i hi) _ (ih i (hh i hi))).ht (cloA1 (exG_clo (ar i))) (by simp only [Wv.BC]) _) ?_
   rintro av h' ⟨rfl,rfl⟩
   simp (maxSteps:=2000000) (disch:=first | omega | assumption | (simp only [Wv.Bx,simprocAttr]<;>omega) | fail) only [Wv.B,simprocAttr,hN]
end Go.Proofs.YtljfgdlgmdcmfaaGreat
namespace Go.Proofs.YtljfgdlgmdcmfaaGreat
open Go.RowKit Wv
set_option linter.unusedVariables false
set_option linter.unusedSimpArgs false
theorem tab_snoc {n:Nat} {f:Nat→AV}:tab (n+1) f=tab n f++[f n]:=by unfold tab;rw [List.range_succ,List.map_append];rfl
def accS (b:Nat) (f:Nat→Nat):Nat→Nat
 | 0=>b
 | n+1=>accS b f n+f n
def accX (f:Nat→Nat):Nat→Nat
 | 0=>0
 | n+1=>max (accX f n) (f n)
def accO (b:Bool) (f:Nat→Bool):Nat→Bool
 | 0=>b
 | n+1=>accO b f n || f n
theorem accS_le (b:Nat) (f:Nat→Nat): ∀ {i n:Nat},i≤n→accS b f i≤accS b f n
 | i,0,h=>by
  have:i=0:=by omega
  subst this;exact Nat.le_refl _
 | i,n+1,h=>by
  by_cases e:i=n+1
  ·subst e;exact Nat.le_refl _
  ·exact Nat.le_trans (accS_le b f (by omega)) (Nat.le_add_right _ _)
theorem accS_base (b:Nat) (f:Nat→Nat) (n:Nat):b≤accS b f n:=accS_le b f (i:=0) (Nat.zero_le n)
theorem accS_one (b:Nat) (f:Nat→Nat) {i n:Nat} (h:i<n):accS b f i+f i≤accS b f n:=accS_le b f (i:=i+1) h
theorem accX_le (f g:Nat→Nat) (b:Nat) (h: ∀ i,f i≤g i): ∀ n,accX f n≤accS b g n
 | 0=>Nat.zero_le _
 | n+1=>by
  show max (accX f n) (f n)≤accS b g n+g n
  have:=accX_le f g b h n
  have:=h n
  omega
def cntE:Ex→Nat
 | .nil=>1
 | .mk k s n nl li na ar=>accS 1 (fun i=>cntE (ar i)) na
def depE:Ex→Nat
 | .nil=>1
 | .mk k s n nl li na ar=>accX (fun i=>depE (ar i)) na+1
def lonE:Ex→Bool
 | .nil=>false
 | .mk k s n nl li na ar=>accO (decide (600<(nl:Int))) (fun i=>lonE (ar i)) na
theorem dep_cnt (x:Ex):depE x≤cntE x:=by
 induction x with
 | nil=>exact Nat.le_refl 1
 | mk k s n nl li na ar ih=>
  show accX (fun i=>depE (ar i)) na+1≤accS 1 (fun i=>cntE (ar i)) na
  have:=accX_le (fun i=>depE (ar i)) (fun i=>cntE (ar i)) 0 ih na
  have h2: ∀ n,accS 1 (fun i=>cntE (ar i)) n=accS 0 (fun i=>cntE (ar i)) n+1:=fun n=>by
   induction n with
   | zero=>rfl
   | succ n h=>show accS 1 _ n+_=accS 0 _ n+_+1;rw [h];omega
  rw [h2];omega
set_option maxHeartbeats 400000 in
set_option maxRecDepth 100000 in
theorem psize_tc (x:Ex) (h:okE x) (hc:cntE x≤4611686018427387904):TC Tryz.prog 163 [.g (exC x)] (.tup [.v (.int .i64 (cntE x)), .v (.int .i64 (depE x)), .v (.bool (lonE x))]):=by
 induction x with
 | nil=>exact h.elim
 | mk k s n nl li na ar ih=>
 obtain ⟨hs,hnl,hna,hh⟩:=h
 have hcn:accS 1 (fun i=>cntE (ar i)) na≤4611686018427387904:=hc
 refine Wv.TC.by 42 [0,1,17,16,18,15,6,2,7,3,8,4,9] [(1,5)] [.tmp 2, .tmp 3, .tmp 4] (by kernel_rfl) Tryz.func163 rfl rfl rfl (by kernel_rfl) (by kernel_rfl) (Nat.le_of_ble_eq_true rfl) rfl ?clo ?_
 case clo=>simp only [Wv.BC]
 unfold exC
 simp (maxSteps:=2000000) (disch:=first | omega | assumption | (simp only [Wv.Bx,simprocAttr]<;>omega) | fail) only [Wv.B,simprocAttr]
 refine wfor (σ:=Nat) (fun i=>[(1, .ptr 0 0),(2, .v (.int .i64 (accS 1 (fun i=>cntE (ar i)) i:Nat))),(3, .v (.int .i64 (accX (fun i=>depE (ar i)) i:Nat))),(4, .v (.bool (accO (decide (600<(nl:Int))) (fun i=>lonE (ar i)) i))),(15, .t na 5 (tabM na fun i=>exC (ar i))),(16, .v (.int .i64 na)),(17, .v (.int .i64 i))])
  (fun i=>[some (.blk [.v (.int .i64 k), .v (.string s), .v (.int .i64 n), .t nl 1 (tab nl fun i=> .v (.int .i64 (li i))), .t na 5 (tabM na fun i=>exC (ar i))])])
  (fun i=>i≤na) (fun i=>na - i) 0 (Nat.zero_le _) (by simp (maxSteps:=2000000) (disch:=first | omega | assumption | (simp only [Wv.Bx,simprocAttr]<;>omega) | fail) only [Wv.B,simprocAttr]) (by simp (maxSteps:=2000000) (disch:=first | omega | assumption | (simp only [Wv.Bx,simprocAttr]<;>omega) | fail) only [Wv.B,simprocAttr,accS,accX,accO,Int.natCast_one]) ?_
 rintro i hi
 by_cases hlt:i<na
 ·have e1:(i:Int)<na:=by omega
  have q1:=accS_one 1 (fun i=>cntE (ar i)) hlt
  have q2:=accS_base 1 (fun i=>cntE (ar i)) i
  have q3:=dep_cnt (ar i)
  obtain ⟨r,hd⟩:=tabM_drop (f:=fun i=>exC (ar i)) (fun i=>exC_len (ar i)) hlt
  have T:=ih i (hh i hlt) (by omega)
  have hG:=exG_clo (ar i)
  have hL:=tabM_clo (n:=na) (f:=fun i=>exC (ar i)) fun i _=>exC_clo (ar i)
  revert hd T hG hL
  generalize hf:(tabM na fun i=>exC (ar i))=L
  generalize hc1:cntE (ar i)=c1 at*
  generalize hc2:depE (ar i)=c2 at*
  generalize hc3:lonE (ar i)=c3
  have hoy:=hh i hlt
  generalize ar i=y at hoy ⊢
  obtain ⟨k',s',n',nl',li',na',ar',rfl⟩:=ok_mk hoy
  rw [exC_mk]
  intro hd T hG hL
  simp only [List.cons_append,List.nil_append] at hd
  simp (maxSteps:=2000000) (disch:=first | omega | assumption | (simp only [Wv.Bx,simprocAttr]<;>omega) | fail) only [Wv.B,simprocAttr,hd]
  refine call_TC T rfl (cloA1 hG) (by simp only [Wv.BC]) ?_
  simp (maxSteps:=2000000) (disch:=first | omega | assumption | (simp only [Wv.Bx,simprocAttr]<;>omega) | fail) only [Wv.B,simprocAttr]
  have hmx:(if (c2:Int)>((accX (fun i=>depE (ar i)) i:Nat):Int) then (c2:Int) else ((accX (fun i=>depE (ar i)) i:Nat):Int))=((accX (fun i=>depE (ar i)) (i+1):Nat):Int):=by
   show _=((max (accX (fun i=>depE (ar i)) i) (depE (ar i)):Nat):Int)
   rw [hc2]
   split<;>omega
  have hsx:((accS 1 (fun i=>cntE (ar i)) i:Nat):Int)+c1=((accS 1 (fun i=>cntE (ar i)) (i+1):Nat):Int):=by
   show _=((accS 1 (fun i=>cntE (ar i)) i+cntE (ar i):Nat):Int)
   rw [hc1];omega
  have hox:accO (decide (600<(nl:Int))) (fun i=>lonE (ar i)) (i+1)=(accO (decide (600<(nl:Int))) (fun i=>lonE (ar i)) i || c3):=by
   show (_ || lonE (ar i))=_
   rw [hc3]
  cases ho:accO (decide (600<(nl:Int))) (fun i=>lonE (ar i)) i with
  | true=>
   rw [ho,Bool.true_or] at hox
   simp (maxSteps:=2000000) (disch:=first | omega | assumption | (simp only [Wv.Bx,simprocAttr]<;>omega) | fail) only [Wv.B,simprocAttr,hmx,hsx]
   refine Wv.k_cut (i+1) 1 (by first | decide | exact Nat.le_of_ble_eq_true rfl) (by omega) (by omega) (by simp (maxSteps:=2000000) (disch:=first | omega | assumption | (simp only [Wv.Bx,simprocAttr]<;>omega) | fail) only [Wv.B,simprocAttr,tab_snoc,hox]) (by simp (maxSteps:=2000000) (disch:=first | omega | assumption | (simp only [Wv.Bx,simprocAttr]<;>omega) | fail) only [Wv.B,simprocAttr,Int.natCast_add,Int.natCast_one,hox]) (by simp only [↓reduceIte,List.take_zero,List.take_succ_cons,List.take_nil,Wv.BK,Nat.zero_lt_succ,Nat.lt_add_one,Nat.reduceLeDiff,Nat.lt_one_iff,Nat.one_lt_two,hL]<;>omega) (by simp only [↓reduceIte,List.take_zero,List.take_succ_cons,List.take_nil,Wv.BK,Nat.zero_lt_succ,Nat.lt_add_one,Nat.reduceLeDiff,Nat.lt_one_iff,Nat.one_lt_two,hL]<;>omega)
  | false=>
   rw [ho,Bool.false_or] at hox
   simp (maxSteps:=2000000) (disch:=first | omega | assumption | (simp only [Wv.Bx,simprocAttr]<;>omega) | fail) only [Wv.B,simprocAttr,hmx,hsx]
   refine Wv.k_cut (i+1) 1 (by first | decide | exact Nat.le_of_ble_eq_true rfl) (by omega) (by omega) (by simp (maxSteps:=2000000) (disch:=first | omega | assumption | (simp only [Wv.Bx,simprocAttr]<;>omega) | fail) only [Wv.B,simprocAttr,tab_snoc,hox]) (by simp (maxSteps:=2000000) (disch:=first | omega | assumption | (simp only [Wv.Bx,simprocAttr]<;>omega) | fail) only [Wv.B,simprocAttr,Int.natCast_add,Int.natCast_one,hox]) (by simp only [↓reduceIte,List.take_zero,List.take_succ_cons,List.take_nil,Wv.BK,Nat.zero_lt_succ,Nat.lt_add_one,Nat.reduceLeDiff,Nat.lt_one_iff,Nat.one_lt_two,hL]<;>omega) (by simp only [↓reduceIte,List.take_zero,List.take_succ_cons,List.take_nil,Wv.BK,Nat.zero_lt_succ,Nat.lt_add_one,Nat.reduceLeDiff,Nat.lt_one_iff,Nat.one_lt_two,hL]<;>omega)
 ·have hin:i=na:=by omega
  subst hin
  have h1:cntE (.mk k s n nl li i ar)=accS 1 (fun i=>cntE (ar i)) i:=rfl
  have h2:((depE (.mk k s n nl li i ar):Nat):Int)=((accX (fun i=>depE (ar i)) i:Nat):Int)+1:=by
   show ((accX (fun i=>depE (ar i)) i+1:Nat):Int)=_
   omega
  have h3:lonE (.mk k s n nl li i ar)=accO (decide (600<(nl:Int))) (fun i=>lonE (ar i)) i:=rfl
  have h4:=dep_cnt (.mk k s n nl li i ar)
  simp (maxSteps:=2000000) (disch:=first | omega | assumption | (simp only [Wv.Bx,simprocAttr]<;>omega) | fail) only [Wv.B,simprocAttr,h1,h2,h3]
end Go.Proofs.YtljfgdlgmdcmfaaGreat
namespace Go.Proofs.YtljfgdlgmdcmfaaGreat
open Go.RowKit Wv
set_option linter.unusedVariables false
set_option linter.unusedSimpArgs false
structure Ci where
 name:ByteArray
 ni:Nat
 fi:Nat→ByteArray
 nl:Nat
 ln:Nat→ByteArray
 le:Nat→Ex
 no:Nat
 fo:Nat→ByteArray
def letC (s:ByteArray) (x:Ex):List AV:= .v (.string s)::exC x
theorem letC_len (s:ByteArray) (x:Ex):(letC s x).length=6:=by cases x<;>rfl
theorem letC_clo (s:ByteArray) (x:Ex): ∀ a,a∈letC s x→Clo a:=by
 intro a ha
 rcases List.mem_cons.1 ha with rfl | h
 ·simp only [Wv.BC]
 ·exact exC_clo x a h
def Ci.lets (c:Ci):List AV:=tabM c.nl fun i=>letC (c.ln i) (c.le i)
def ciC (c:Ci):List AV:=[.v (.string c.name),strsA c.ni c.fi, .t c.nl 6 c.lets,strsA c.no c.fo]
theorem lets_clo (c:Ci): ∀ a,a∈c.lets→Clo a:=tabM_clo fun i _=>letC_clo _ _
theorem lets_len (c:Ci):c.lets.length=c.nl*6:=tabM_len fun i=>letC_len _ _
theorem ciC_clo (c:Ci): ∀ a,a∈ciC c→Clo a:=by
 unfold ciC
 simp only [Wv.BC,strs_clo]
 exact lets_clo c
theorem ciG_clo (c:Ci):Clo (.g (ciC c)):=by simp only [Wv.BC];exact ciC_clo c
structure okC (c:Ci):Prop where
 name:c.name.size≤140737488351232
 ni:c.ni≤140737488351232
 nl:c.nl≤140737488351232
 no:c.no≤140737488351232
 fi: ∀ i,i<c.ni→(c.fi i).size≤140737488351232
 fo: ∀ i,i<c.no→(c.fo i).size≤140737488351232
 ln: ∀ i,i<c.nl→(c.ln i).size≤140737488351232
 le: ∀ i,i<c.nl→okE (c.le i)∧cntE (c.le i)≤4611686018427387904
def Ci.sum (c:Ci) (i:Nat):Nat:=accS 0 (fun i=>cntE (c.le i)) i
def Ci.big (c:Ci) (i:Nat):Bool:=decide (400<((c.sum (i+1):Nat):Int)) || (decide (40<((depE (c.le i):Nat):Int)) || lonE (c.le i))
def smallB (c:Ci):Bool:=!anyN c.nl c.big
def fewB (c:Ci):Bool:=decide ((c.ni:Int)≤8) && (decide ((c.nl:Int)≤60) && decide ((c.no:Int)≤8))
def checkI (c:Ci):Int:=
 if (!nameB c.name || (anyN c.ni (fun i=>!nameB (c.fi i)) || (anyN c.no (fun i=>!nameB (c.fo i)) || (decide ((c.no:Int)=0) || !fewB c))))=true then 2
 else if anyN c.nl (fun i=>!nameB (c.ln i) || !formB (c.le i))=true then 2 else if smallB c=true then 0 else 3
set_option maxHeartbeats 400000 in
set_option maxRecDepth 100000 in
theorem psmall_tc (c:Ci) (h:okC c):TC Tryz.prog 109 [.g (ciC c)] (.v (.bool (smallB c))):=by
 refine Wv.TC.by 36 [0,1,12,11,13,10,5,3,6,7,8,34,2] [] [.tmp 2] (by kernel_rfl) Tryz.func109 rfl rfl rfl (by kernel_rfl) (by kernel_rfl) (Nat.le_of_ble_eq_true rfl) rfl ?clo ?_
 case clo=>simp only [Wv.BC]
 unfold ciC strsA
 simp (maxSteps:=2000000) (disch:=first | omega | assumption | (simp only [Wv.Bx,simprocAttr]<;>omega) | fail) only [Wv.B,simprocAttr]
 refine wfor (σ:=Nat) (fun i=>[(1, .ptr 0 0),(3, .v (.int .i64 (c.sum i:Nat))),(10, .t c.nl 6 c.lets),(11, .v (.int .i64 c.nl)),(12, .v (.int .i64 i))])
  (fun i=>[some (.blk [.v (.string c.name), .t c.ni 1 (tab c.ni fun i=> .v (.string (c.fi i))), .t c.nl 6 c.lets, .t c.no 1 (tab c.no fun i=> .v (.string (c.fo i)))])])
  (fun i=>i≤c.nl∧((c.sum i:Nat):Int)≤400∧ ∀ j,j<i→c.big j=false) (fun i=>c.nl - i) 0 ⟨Nat.zero_le _,by show ((0:Nat):Int)≤400;omega,fun j hj=>by omega⟩ (by simp (maxSteps:=2000000) (disch:=first | omega | assumption | (simp only [Wv.Bx,simprocAttr]<;>omega) | fail) only [Wv.B,simprocAttr]) (by simp (maxSteps:=2000000) (disch:=first | omega | assumption | (simp only [Wv.Bx,simprocAttr]<;>omega) | fail) only [Wv.B,simprocAttr,Ci.sum,accS]) ?_
 rintro i ⟨hi,hsum,hb⟩
 by_cases hlt:i<c.nl
 ·have e1:(i:Int)<c.nl:=by omega
  have hnl:=h.nl
  have hL:=lets_clo c
  obtain ⟨r,hd⟩:=tabM_drop (f:=fun i=>letC (c.ln i) (c.le i)) (fun i=>letC_len _ _) hlt
  have T:=psize_tc (c.le i) (h.le i hlt).1 (h.le i hlt).2
  have hc1':=(h.le i hlt).2
  have hG:=exG_clo (c.le i)
  have hbig:c.big i=(decide (400<((c.sum (i+1):Nat):Int)) || (decide (40<((depE (c.le i):Nat):Int)) || lonE (c.le i))):=rfl
  have hs1:((c.sum (i+1):Nat):Int)=((c.sum i:Nat):Int)+((cntE (c.le i):Nat):Int):=by
   show ((accS 0 (fun i=>cntE (c.le i)) i+cntE (c.le i):Nat):Int)=_
   exact Int.natCast_add _ _
  change List.drop (i*6) c.lets=letC (c.ln i) (c.le i)++r at hd
  generalize hle:c.le i=x at hd T hc1' hG hbig hs1
  generalize c.lets=L at*
  generalize cntE x=c1 at*
  generalize depE x=c2 at*
  generalize lonE x=c3 at*
  have hoy:=(h.le i hlt).1
  rw [hle] at hoy
  obtain ⟨k',s',n',nl',li',na',ar',rfl⟩:=ok_mk hoy
  unfold letC at hd
  rw [exC_mk] at hd T hG
  simp only [List.cons_append,List.nil_append] at hd
  simp (maxSteps:=2000000) (disch:=first | omega | assumption | (simp only [Wv.Bx,simprocAttr]<;>omega) | fail) only [Wv.B,simprocAttr,hd]
  refine call_TC T rfl (cloA1 hG) (by simp only [Wv.BC]) ?_
  simp (maxSteps:=2000000) (disch:=first | omega | assumption | (simp only [Wv.Bx,simprocAttr]<;>omega) | fail) only [Wv.B,simprocAttr]
  have hbad:c.big i=true→smallB c=false:=fun hq=>by
   unfold smallB
   have:anyN c.nl c.big=true:=by
    unfold anyN
    exact List.any_eq_true.2 ⟨i,List.mem_range.2 hlt,hq⟩
   rw [this];rfl
  cases d1:decide (400<((c.sum i:Nat):Int)+(c1:Int)) with
  | true=>
   have hsm:=hbad (by rw [hbig,hs1,d1];rfl)
   simp (maxSteps:=2000000) (disch:=first | omega | assumption | (simp only [Wv.Bx,simprocAttr]<;>omega) | fail) only [Wv.B,simprocAttr,d1,hsm]
  | false=>
  cases d2:decide (40<(c2:Int)) with
  | true=>
   have hsm:=hbad (by rw [hbig,hs1,d1,d2];rfl)
   simp (maxSteps:=2000000) (disch:=first | omega | assumption | (simp only [Wv.Bx,simprocAttr]<;>omega) | fail) only [Wv.B,simprocAttr,d1,d2,hsm]
  | false=>
  cases c3 with
  | true=>
   have hsm:=hbad (by rw [hbig,hs1,d1,d2];rfl)
   simp (maxSteps:=2000000) (disch:=first | omega | assumption | (simp only [Wv.Bx,simprocAttr]<;>omega) | fail) only [Wv.B,simprocAttr,d1,d2,hsm]
  | false=>
   have hbf:c.big i=false:=by rw [hbig,hs1,d1,d2];rfl
   have hsm1:=of_decide_eq_false d1
   simp (maxSteps:=2000000) (disch:=first | omega | assumption | (simp only [Wv.Bx,simprocAttr]<;>omega) | fail) only [Wv.B,simprocAttr,d1,d2]
   refine Wv.k_cut (i+1) 1 (by first | decide | exact Nat.le_of_ble_eq_true rfl) (⟨by omega,by omega,fun j hj=>by by_cases e:j=i;exact e▸hbf;exact hb j (by omega)⟩) (by omega) (by simp (maxSteps:=2000000) (disch:=first | omega | assumption | (simp only [Wv.Bx,simprocAttr]<;>omega) | fail) only [Wv.B,simprocAttr,tab_snoc,hs1]) (by simp (maxSteps:=2000000) (disch:=first | omega | assumption | (simp only [Wv.Bx,simprocAttr]<;>omega) | fail) only [Wv.B,simprocAttr,Int.natCast_add,Int.natCast_one,hs1]) (by simp only [↓reduceIte,List.take_zero,List.take_succ_cons,List.take_nil,Wv.BK,Nat.zero_lt_succ,Nat.lt_add_one,Nat.reduceLeDiff,Nat.lt_one_iff,Nat.one_lt_two,hL]<;>omega) (by simp only [↓reduceIte,List.take_zero,List.take_succ_cons,List.take_nil,Wv.BK,Nat.zero_lt_succ,Nat.lt_add_one,Nat.reduceLeDiff,Nat.lt_one_iff,Nat.one_lt_two,hL]<;>omega)
 ·have hin:i=c.nl:=by omega
  have:smallB c=true:=by
   unfold smallB
   have:anyN c.nl c.big=false:=by
    unfold anyN
    refine List.any_eq_false.2 fun j hj=>?_
    rw [hb j (by have:=List.mem_range.1 hj;omega)];decide
   rw [this];rfl
  simp (maxSteps:=2000000) (disch:=first | omega | assumption | (simp only [Wv.Bx,simprocAttr]<;>omega) | fail) only [Wv.B,simprocAttr,this,hin]
set_option maxHeartbeats 400000 in
set_option maxRecDepth 100000 in
theorem pfew_tc (c:Ci):TC Tryz.prog 105 [.g (ciC c)] (.v (.bool (fewB c))):=by
 refine Wv.TC.by 19 [0,1,2] [] [.tmp 2] (by kernel_rfl) Tryz.func105 rfl rfl rfl (by kernel_rfl) (by kernel_rfl) (Nat.le_of_ble_eq_true rfl) rfl ?clo ?_
 case clo=>simp only [Wv.BC]
 unfold ciC strsA
 have hN:fewB c=(decide ((c.ni:Int)≤8) && (decide ((c.nl:Int)≤60) && decide ((c.no:Int)≤8))):=rfl
 cases h1:decide ((c.ni:Int)≤8) with
 | false=>rw [h1,Bool.false_and] at hN;simp (maxSteps:=2000000) (disch:=first | omega | assumption | (simp only [Wv.Bx,simprocAttr]<;>omega) | fail) only [Wv.B,simprocAttr,h1,hN]
 | true=>
 cases h2:decide ((c.nl:Int)≤60) with
 | false=>rw [h1,h2,Bool.false_and,Bool.and_false] at hN;simp (maxSteps:=2000000) (disch:=first | omega | assumption | (simp only [Wv.Bx,simprocAttr]<;>omega) | fail) only [Wv.B,simprocAttr,h1,h2,hN]
 | true=>rw [h1,h2,Bool.true_and,Bool.true_and] at hN;simp (maxSteps:=2000000) (disch:=first | omega | assumption | (simp only [Wv.Bx,simprocAttr]<;>omega) | fail) only [Wv.B,simprocAttr,h1,h2,hN]
set_option maxHeartbeats 400000 in
set_option maxRecDepth 100000 in
theorem pbad_tc (s:ByteArray) (hs:s.size≤140737488351232):TC Tryz.prog 102 [.v (.string s)] (.v (.bool (!nameB s))):=by
 refine Wv.TC.by 6 [0,2] [] [.tmp 2] (by kernel_rfl) Tryz.func102 rfl rfl rfl (by kernel_rfl) (by kernel_rfl) (Nat.le_of_ble_eq_true rfl) rfl ?clo ?_
 case clo=>simp only [Wv.BC]
 simp (maxSteps:=2000000) (disch:=first | omega | assumption | (simp only [Wv.Bx,simprocAttr]<;>omega) | fail) only [Wv.B,simprocAttr]
 refine call_TC (pname_tc s hs) rfl (by simp only [Wv.BC]) (by simp only [Wv.BC]) ?_
 simp (maxSteps:=2000000) (disch:=first | omega | assumption | (simp only [Wv.Bx,simprocAttr]<;>omega) | fail) only [Wv.B,simprocAttr]
theorem HT.rd {P:Program} {f:FuncId} {args:List AV} {h:Hp} {res:AV} (T:HT P f args h fun r h'=>r=res∧h'.take h.length=h) (hr:lo h.length res) (hh:loH h.length h):HT P f args h fun r h'=>r=res∧h'=h:=
 (RD.of (R:=fun r=>r=res) (p:=fun _=>False) (T.toP _) (fun r q=>q▸hr) (fun r q=>q.elim) hh).toT fun _ _ q=>q.1
set_option maxHeartbeats 400000 in
set_option maxRecDepth 100000 in
theorem pbadl_ht {C:List AV} (hC: ∀ a,a∈C→Clo a) (s:ByteArray) (x:Ex) (hs:s.size≤140737488351232) (hx:okE x):HT Tryz.prog 107 [.g (letC s x), .ptr 1 0] [some (.blk C),some (.blk [.fn (.func 102) [] []])] (fun r h'=>r= .v (.bool (!nameB s || !formB x))∧h'=[some (.blk C),some (.blk [.fn (.func 102) [] []])]):=by
 have T:=pformed_tc x hx
 have hG:=exG_clo x
 generalize formB x=b at*
 obtain ⟨k',s',n',nl',li',na',ar',rfl⟩:=ok_mk hx
 unfold letC
 rw [exC_mk] at*
 refine HT.rd ?_ (by simp only [↓reduceIte,List.take_zero,List.take_succ_cons,List.take_nil,Wv.BK,Nat.zero_lt_succ,Nat.lt_add_one,Nat.reduceLeDiff,Nat.lt_one_iff,Nat.one_lt_two]) (by simp only [↓reduceIte,List.take_zero,List.take_succ_cons,List.take_nil,Wv.BK,Nat.zero_lt_succ,Nat.lt_add_one,Nat.reduceLeDiff,Nat.lt_one_iff,Nat.one_lt_two];exact fun a ha=> .clo (hC a ha))
 refine Wv.HT.by 14 [0,1,2,3] [(1000000,2)] [.tmp 3] (by kernel_rfl) Tryz.func107 rfl rfl rfl (by kernel_rfl) (by kernel_rfl) (Nat.le_of_ble_eq_true rfl) ?base ?_
 case base=>rfl
 simp (maxSteps:=2000000) (disch:=first | omega | assumption | (simp only [Wv.Bx,simprocAttr]<;>omega) | fail) only [Wv.B,simprocAttr]
 refine call_TC (pbad_tc s hs) rfl (by simp only [Wv.BC]) (by simp only [Wv.BC]) ?_
 cases h1:nameB s with
 | false=>simp (maxSteps:=2000000) (disch:=first | omega | assumption | (simp only [Wv.Bx,simprocAttr]<;>omega) | fail) only [Wv.B,simprocAttr,Bool.true_or]
 | true=>
  simp (maxSteps:=2000000) (disch:=first | omega | assumption | (simp only [Wv.Bx,simprocAttr]<;>omega) | fail) only [Wv.B,simprocAttr]
  refine call_TC T rfl (cloA1 hG) (by simp only [Wv.BC]) ?_
  simp (maxSteps:=2000000) (disch:=first | omega | assumption | (simp only [Wv.Bx,simprocAttr]<;>omega) | fail) only [Wv.B,simprocAttr,Bool.false_or]
set_option maxHeartbeats 400000 in
set_option maxRecDepth 100000 in
theorem pcheckC_tc (c:Ci) (h:okC c):TC Tryz.prog 61 [.g (ciC c)] (.v (.int .i64 (checkI c))):=by
 have hcl:=ciG_clo c
 have hll:=lets_len c
 have hla: ∀ i,i<c.nl→List.take 6 (List.drop (i*6) c.lets)=letC (c.ln i) (c.le i):=tabM_at fun i=>letC_len _ _
 have Tf:=pfew_tc c
 have Ts:=psmall_tc c h
 have hN:checkI c=if (!nameB c.name || (anyN c.ni (fun i=>!nameB (c.fi i)) || (anyN c.no (fun i=>!nameB (c.fo i)) || (decide ((c.no:Int)=0) || !fewB c))))=true then 2
  else if anyN c.nl (fun i=>!nameB (c.ln i) || !formB (c.le i))=true then 2 else if smallB c=true then 0 else 3:=rfl
 unfold ciC strsA at Tf Ts hcl ⊢
 refine Wv.TC.by 38 [0,3,1,30,34,37,2] [] [.tmp 2] (by kernel_rfl) Tryz.func61 rfl rfl rfl (by kernel_rfl) (by kernel_rfl) (Nat.le_of_ble_eq_true rfl) rfl ?clo ?_
 case clo=>simp only [Wv.BC]
 simp (maxSteps:=2000000) (disch:=first | omega | assumption | (simp only [Wv.Bx,simprocAttr]<;>omega) | fail) only [Wv.B,simprocAttr]
 refine call_TC (pbad_tc c.name h.name) rfl (by simp only [Wv.BC]) (by simp only [Wv.BC]) ?_
 cases h1:nameB c.name with
 | false=>rw [h1] at hN;simp only [Bool.not_false,Bool.true_or,if_true] at hN;simp (maxSteps:=2000000) (disch:=first | omega | assumption | (simp only [Wv.Bx,simprocAttr]<;>omega) | fail) only [Wv.B,simprocAttr,hN]
 | true=>
 simp (maxSteps:=2000000) (disch:=first | omega | assumption | (simp only [Wv.Bx,simprocAttr]<;>omega) | fail) only [Wv.B,simprocAttr]
 refine call_HT (fst:=[]) (cap:=[]) (scontf_ht c.ni c.fi (fun i=>!nameB (c.fi i)) _ [] [] h.ni fun i hi=>(pbad_tc (c.fi i) (h.fi i hi)).ht (cloA1 (by simp only [Wv.BC])) (by simp only [Wv.BC]) _) ?_
 rintro av h' ⟨rfl,rfl⟩
 cases h2:anyN c.ni (fun i=>!nameB (c.fi i)) with
 | true=>rw [h1,h2] at hN;simp only [Bool.not_true,Bool.false_or,Bool.true_or,if_true] at hN;simp (maxSteps:=2000000) (disch:=first | omega | assumption | (simp only [Wv.Bx,simprocAttr]<;>omega) | fail) only [Wv.B,simprocAttr,hN]
 | false=>
 simp (maxSteps:=2000000) (disch:=first | omega | assumption | (simp only [Wv.Bx,simprocAttr]<;>omega) | fail) only [Wv.B,simprocAttr]
 refine call_HT (fst:=[]) (cap:=[]) (scontf_ht c.no c.fo (fun i=>!nameB (c.fo i)) _ [] [] h.no fun i hi=>(pbad_tc (c.fo i) (h.fo i hi)).ht (cloA1 (by simp only [Wv.BC])) (by simp only [Wv.BC]) _) ?_
 rintro av h' ⟨rfl,rfl⟩
 cases h3:anyN c.no (fun i=>!nameB (c.fo i)) with
 | true=>rw [h1,h2,h3] at hN;simp only [Bool.not_true,Bool.false_or,Bool.true_or,if_true] at hN;simp (maxSteps:=2000000) (disch:=first | omega | assumption | (simp only [Wv.Bx,simprocAttr]<;>omega) | fail) only [Wv.B,simprocAttr,hN]
 | false=>
 cases h4:decide ((c.no:Int)=0) with
 | true=>rw [h1,h2,h3,h4] at hN;simp only [Bool.not_true,Bool.false_or,Bool.true_or,if_true] at hN;simp (maxSteps:=2000000) (disch:=first | omega | assumption | (simp only [Wv.Bx,simprocAttr]<;>omega) | fail) only [Wv.B,simprocAttr,h4,hN]
 | false=>
 simp (maxSteps:=2000000) (disch:=first | omega | assumption | (simp only [Wv.Bx,simprocAttr]<;>omega) | fail) only [Wv.B,simprocAttr,h4]
 refine call_TC Tf rfl (cloA1 hcl) (by simp only [Wv.BC]) ?_
 cases h5:fewB c with
 | false=>rw [h1,h2,h3,h4,h5] at hN;simp only [Bool.not_true,Bool.not_false,Bool.false_or,Bool.true_or,if_true] at hN;simp (maxSteps:=2000000) (disch:=first | omega | assumption | (simp only [Wv.Bx,simprocAttr]<;>omega) | fail) only [Wv.B,simprocAttr,hN]
 | true=>
 rw [h1,h2,h3,h4,h5] at hN;simp only [Bool.not_true,Bool.not_false,Bool.false_or,Bool.true_or,if_true,Bool.false_eq_true,if_false] at hN
 simp (maxSteps:=2000000) (disch:=first | omega | assumption | (simp only [Wv.Bx,simprocAttr]<;>omega) | fail) only [Wv.B,simprocAttr]
 refine call_HT (fst:=[]) (cap:=[]) (lcontf_ht c.nl c.lets (fun i=>letC (c.ln i) (c.le i)) hll hla (fun i=>!nameB (c.ln i) || !formB (c.le i)) _ [] [.ptr 1 0] h.nl fun i hi=>pbadl_ht (by simp only [Wv.BC];exact lets_clo c) (c.ln i) (c.le i) (h.ln i hi) (h.le i hi).1) ?_
 rintro av h' ⟨rfl,rfl⟩
 cases h6:anyN c.nl (fun i=>!nameB (c.ln i) || !formB (c.le i)) with
 | true=>rw [h6] at hN;simp only [if_true] at hN;simp (maxSteps:=2000000) (disch:=first | omega | assumption | (simp only [Wv.Bx,simprocAttr]<;>omega) | fail) only [Wv.B,simprocAttr,hN]
 | false=>
 rw [h6] at hN;simp only [Bool.false_eq_true,if_false] at hN
 simp (maxSteps:=2000000) (disch:=first | omega | assumption | (simp only [Wv.Bx,simprocAttr]<;>omega) | fail) only [Wv.B,simprocAttr]
 refine call_TC Ts rfl (cloA1 hcl) (by simp only [Wv.BC]) ?_
 cases h7:smallB c with
 | true=>rw [h7] at hN;simp only [if_true] at hN;simp (maxSteps:=2000000) (disch:=first | omega | assumption | (simp only [Wv.Bx,simprocAttr]<;>omega) | fail) only [Wv.B,simprocAttr,hN]
 | false=>rw [h7] at hN;simp only [Bool.false_eq_true,if_false] at hN;simp (maxSteps:=2000000) (disch:=first | omega | assumption | (simp only [Wv.Bx,simprocAttr]<;>omega) | fail) only [Wv.B,simprocAttr,hN]
end Go.Proofs.YtljfgdlgmdcmfaaGreat
