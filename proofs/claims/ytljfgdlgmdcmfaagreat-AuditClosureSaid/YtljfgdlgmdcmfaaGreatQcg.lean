/- Parts of a proof: The machine of abstract values: its rules in a few conjunctions (printed by wip/gen_BnA.py). Circuits: letters, digits, words, names, on the machine of abstract values. Circuits: lists of words; the library's Index, Contains, IndexFunc, ContainsFunc. The library's IndexFunc, ContainsFunc, at each kind of element. (Printed by gen_TypC.py.) Circuits: words, names. Circuits: expressions as trees; which are well-formed (the program's side). Circuits: sizes, numbers, Check (the program's side). Circuits: small, few, Check (the program's side). The law of Typing: how many parts a circuit has, its tables, its comparisons. The law of Typing: Long, parts, tables, has, on the machine. The law of Typing: has, Beyond, Heavy, on the machine. What arguments read as: expressions, circuits. What arguments read as: a list of numbers. The parameters of the service. -/
import Derived.Test.YtljfgdlgmdcmfaaGreatQcf
import Derived.ProofKit
set_option linter.unusedVariables false
set_option linter.unusedSimpArgs false
set_option maxHeartbeats 1600000
set_option maxRecDepth 100000
namespace Go.Proofs.YtljfgdlgmdcmfaaGreat.Wv
section
theorem Ba:(type_of% @List.map_cons.{0,0})∧(type_of% @List.map_nil.{0,0})∧(type_of% @List.getElem?_cons_zero.{0})∧(type_of% @List.getElem?_cons_succ.{0})∧(type_of% @List.getElem?_nil.{0})∧(type_of% @List.nil_append.{0})∧(type_of% @List.cons_append.{0})∧(type_of% @List.append_nil.{0})∧(type_of% @List.take_zero.{0})∧(type_of% @List.take_succ_cons.{0})∧(type_of% @List.take_nil.{0})∧(type_of% @List.drop_zero.{0})∧(type_of% @List.drop_succ_cons.{0})∧(type_of% @List.drop_nil.{0})∧(type_of% @List.length_cons.{0})∧(type_of% @List.length_nil.{0})∧(type_of% @List.all_cons.{0})∧(type_of% @List.all_nil.{0})∧(type_of% @List.set_cons_zero.{0})∧(type_of% @List.set_cons_succ.{0})∧(type_of% @List.set_nil.{0})∧(type_of% @List.getElem?_drop.{0})∧(type_of% @List.length_map.{0,0})∧(type_of% @List.length_append.{0})∧(type_of% @Option.map_some.{0,0})∧(type_of% @Option.map_none.{0,0})∧(type_of% @Option.bind_some.{0,0})∧(type_of% @Option.bind_none.{0,0})∧(type_of% @Bool.and_true)∧(type_of% @Bool.true_and)∧(type_of% @Bool.not_true)∧(type_of% @Bool.not_false)∧(type_of% @Bool.true_beq)∧(type_of% @Bool.false_beq)∧(type_of% @Nat.mul_one)∧(type_of% @Nat.sub_zero)∧(type_of% @Nat.sub_self)∧(type_of% @Nat.add_zero)∧(type_of% @Nat.zero_add)∧(type_of% @Int.toNat_natCast)∧(type_of% @Int.natCast_zero)∧(type_of% @Int.sub_zero)∧(type_of% @Int.add_zero)∧(type_of% @Int.zero_add)∧(type_of% @ne_eq.{1})∧(type_of% @not_false_eq_true)∧(type_of% @true_and)∧(type_of% @and_true)∧(type_of% @decide_true)∧(type_of% @decide_false)∧(type_of% @eq_self.{1})∧(type_of% @Option.isNone_none.{0})∧(type_of% @Option.isNone_some.{0})∧(type_of% @Option.isSome_some.{0})∧(type_of% @Bool.false_and)∧(type_of% @Bool.and_false)∧(type_of% @cond_true.{1})∧(type_of% @cond_false.{1})∧(type_of% @List.size_toArray.{0}):=⟨@List.map_cons.{0,0}, @List.map_nil.{0,0}, @List.getElem?_cons_zero.{0}, @List.getElem?_cons_succ.{0}, @List.getElem?_nil.{0}, @List.nil_append.{0}, @List.cons_append.{0}, @List.append_nil.{0}, @List.take_zero.{0}, @List.take_succ_cons.{0}, @List.take_nil.{0}, @List.drop_zero.{0}, @List.drop_succ_cons.{0}, @List.drop_nil.{0}, @List.length_cons.{0}, @List.length_nil.{0}, @List.all_cons.{0}, @List.all_nil.{0}, @List.set_cons_zero.{0}, @List.set_cons_succ.{0}, @List.set_nil.{0}, @List.getElem?_drop.{0}, @List.length_map.{0,0}, @List.length_append.{0}, @Option.map_some.{0,0}, @Option.map_none.{0,0}, @Option.bind_some.{0,0}, @Option.bind_none.{0,0}, @Bool.and_true, @Bool.true_and, @Bool.not_true, @Bool.not_false, @Bool.true_beq, @Bool.false_beq, @Nat.mul_one, @Nat.sub_zero, @Nat.sub_self, @Nat.add_zero, @Nat.zero_add, @Int.toNat_natCast, @Int.natCast_zero, @Int.sub_zero, @Int.add_zero, @Int.zero_add, @ne_eq.{1}, @not_false_eq_true, @true_and, @and_true, @decide_true, @decide_false, @eq_self.{1}, @Option.isNone_none.{0}, @Option.isNone_some.{0}, @Option.isSome_some.{0}, @Bool.false_and, @Bool.and_false, @cond_true.{1}, @cond_false.{1}, @List.size_toArray.{0}⟩
theorem Bb:(type_of% @Wv.fitE_nil)∧(type_of% @Wv.fitE_cons)∧(type_of% @Wv.c_skip)∧(type_of% @Wv.c_ret)∧(type_of% @Wv.c_exit)∧(type_of% @Wv.c_label)∧(type_of% @Wv.c_scope)∧(type_of% @Wv.c_seq)∧(type_of% @Wv.c_block)∧(type_of% @Wv.c_cond)∧(type_of% @Wv.c_reg)∧(type_of% @Wv.c_draw)∧(type_of% @Wv.wd_no)∧(type_of% @Wv.wd_esc)∧(type_of% @Wv.k_seq0)∧(type_of% @Wv.k_seq1)∧(type_of% @Wv.k_seq2)∧(type_of% @Wv.k_seq3)∧(type_of% @Wv.k_p)∧(type_of% @Wv.k_blk0)∧(type_of% @Wv.k_blk1)∧(type_of% @Wv.k_blk2)∧(type_of% @Wv.k_blk3)∧(type_of% @Wv.k_reg)∧(type_of% @Wv.k_tail1)∧(type_of% @Wv.k_tail)∧(type_of% @Wv.k_o)∧(type_of% @Wv.k_r)∧(type_of% @Wv.k_h)∧(type_of% @Wv.k_for1)∧(type_of% @Wv.k_for2)∧(type_of% @Wv.k_for3)∧(type_of% @Wv.fz_zero)∧(type_of% @Wv.fz_cons)∧(type_of% @Wv.fz_nil)∧(type_of% @Wv.o_nil)∧(type_of% @Wv.o_cons)∧(type_of% @Wv.o_when)∧(type_of% @Wv.h_nil)∧(type_of% @Wv.h_alloc)∧(type_of% @Wv.h_cons)∧(type_of% @Wv.h_when)∧(type_of% @Wv.r_move)∧(type_of% @Wv.r_assign)∧(type_of% @Wv.r_pick)∧(type_of% @Wv.r_build)∧(type_of% @Wv.r_load)∧(type_of% @Wv.r_nilCheck)∧(type_of% @Wv.r_binOp)∧(type_of% @Wv.r_unOp)∧(type_of% @Wv.r_convert)∧(type_of% @Wv.r_fieldAddr)∧(type_of% @Wv.r_field)∧(type_of% @Wv.r_extract)∧(type_of% @Wv.w_ifc)∧(type_of% @Wv.q_ifc)∧(type_of% @Wv.w_lookup)∧(type_of% @Wv.q_lookup)∧(type_of% @Wv.w_makeMap)∧(type_of% @Wv.w_mapUpdate)∧(type_of% @Wv.w_insert)∧(type_of% @Wv.sPan_ifc)∧(type_of% @Wv.w_panic)∧(type_of% @Wv.w_move)∧(type_of% @Wv.q_move)∧(type_of% @Wv.w_assign)∧(type_of% @Wv.q_assign)∧(type_of% @Wv.w_pick)∧(type_of% @Wv.q_pick)∧(type_of% @Wv.w_build):=⟨@Wv.fitE_nil, @Wv.fitE_cons, @Wv.c_skip, @Wv.c_ret, @Wv.c_exit, @Wv.c_label, @Wv.c_scope, @Wv.c_seq, @Wv.c_block, @Wv.c_cond, @Wv.c_reg, @Wv.c_draw, @Wv.wd_no, @Wv.wd_esc, @Wv.k_seq0, @Wv.k_seq1, @Wv.k_seq2, @Wv.k_seq3, @Wv.k_p, @Wv.k_blk0, @Wv.k_blk1, @Wv.k_blk2, @Wv.k_blk3, @Wv.k_reg, @Wv.k_tail1, @Wv.k_tail, @Wv.k_o, @Wv.k_r, @Wv.k_h, @Wv.k_for1, @Wv.k_for2, @Wv.k_for3, @Wv.fz_zero, @Wv.fz_cons, @Wv.fz_nil, @Wv.o_nil, @Wv.o_cons, @Wv.o_when, @Wv.h_nil, @Wv.h_alloc, @Wv.h_cons, @Wv.h_when, @Wv.r_move, @Wv.r_assign, @Wv.r_pick, @Wv.r_build, @Wv.r_load, @Wv.r_nilCheck, @Wv.r_binOp, @Wv.r_unOp, @Wv.r_convert, @Wv.r_fieldAddr, @Wv.r_field, @Wv.r_extract, @Wv.w_ifc, @Wv.q_ifc, @Wv.w_lookup, @Wv.q_lookup, @Wv.w_makeMap, @Wv.w_mapUpdate, @Wv.w_insert, @Wv.sPan_ifc, @Wv.w_panic, @Wv.w_move, @Wv.q_move, @Wv.w_assign, @Wv.q_assign, @Wv.w_pick, @Wv.q_pick, @Wv.w_build⟩
theorem Bc:(type_of% @Wv.q_build)∧(type_of% @Wv.w_load)∧(type_of% @Wv.q_load)∧(type_of% @Wv.w_nilCheck)∧(type_of% @Wv.q_nilCheck)∧(type_of% @Wv.w_binOp)∧(type_of% @Wv.q_binOp)∧(type_of% @Wv.w_unOp)∧(type_of% @Wv.q_unOp)∧(type_of% @Wv.w_convert)∧(type_of% @Wv.q_convert)∧(type_of% @Wv.w_fieldAddr)∧(type_of% @Wv.q_fieldAddr)∧(type_of% @Wv.w_field)∧(type_of% @Wv.q_field)∧(type_of% @Wv.w_extract)∧(type_of% @Wv.q_extract)∧(type_of% @Wv.r_slice)∧(type_of% @Wv.q_slice)∧(type_of% @Wv.w_slice)∧(type_of% @Wv.r_indexAddr)∧(type_of% @Wv.q_indexAddr)∧(type_of% @Wv.w_indexAddr)∧(type_of% @Wv.r_index)∧(type_of% @Wv.q_index)∧(type_of% @Wv.w_index)∧(type_of% @Wv.r_func)∧(type_of% @Wv.q_func)∧(type_of% @Wv.w_func)∧(type_of% @Wv.q_len)∧(type_of% @Wv.w_len)∧(type_of% @Wv.q_max)∧(type_of% @Wv.w_max)∧(type_of% @Wv.q_min)∧(type_of% @Wv.w_min)∧(type_of% @Wv.w_append)∧(type_of% @Wv.w_copy)∧(type_of% @Wv.w_call)∧(type_of% @Wv.q_call)∧(type_of% @Wv.q_lit)∧(type_of% @Wv.q_append)∧(type_of% @Wv.w_lit)∧(type_of% @Wv.w_alloc)∧(type_of% @Wv.w_box)∧(type_of% @Wv.w_store)∧(type_of% @Wv.w_make)∧(type_of% @Wv.sV_some)∧(type_of% @Wv.sA_some)∧(type_of% @Wv.sG_some)∧(type_of% @Wv.sO_some)∧(type_of% @Wv.sE_some)∧(type_of% @Wv.sH_some)∧(type_of% @Wv.sZ_some)∧(type_of% @Wv.sB_some)∧(type_of% @Wv.sS_some)∧(type_of% @Wv.sT_some)∧(type_of% @Wv.sT0_some)∧(type_of% @Wv.sI_some)∧(type_of% @Wv.sX1_some)∧(type_of% @Wv.sX2_some)∧(type_of% @Wv.sN_some)∧(type_of% @Wv.sL_some)∧(type_of% @Wv.sP_t)∧(type_of% @Wv.sP_f)∧(type_of% @Wv.sC_t)∧(type_of% @Wv.sC_f)∧(type_of% @Wv.sW_tt)∧(type_of% @Wv.sW_tf)∧(type_of% @Wv.sW_ft)∧(type_of% @Wv.sW_ff):=⟨@Wv.q_build, @Wv.w_load, @Wv.q_load, @Wv.w_nilCheck, @Wv.q_nilCheck, @Wv.w_binOp, @Wv.q_binOp, @Wv.w_unOp, @Wv.q_unOp, @Wv.w_convert, @Wv.q_convert, @Wv.w_fieldAddr, @Wv.q_fieldAddr, @Wv.w_field, @Wv.q_field, @Wv.w_extract, @Wv.q_extract, @Wv.r_slice, @Wv.q_slice, @Wv.w_slice, @Wv.r_indexAddr, @Wv.q_indexAddr, @Wv.w_indexAddr, @Wv.r_index, @Wv.q_index, @Wv.w_index, @Wv.r_func, @Wv.q_func, @Wv.w_func, @Wv.q_len, @Wv.w_len, @Wv.q_max, @Wv.w_max, @Wv.q_min, @Wv.w_min, @Wv.w_append, @Wv.w_copy, @Wv.w_call, @Wv.q_call, @Wv.q_lit, @Wv.q_append, @Wv.w_lit, @Wv.w_alloc, @Wv.w_box, @Wv.w_store, @Wv.w_make, @Wv.sV_some, @Wv.sA_some, @Wv.sG_some, @Wv.sO_some, @Wv.sE_some, @Wv.sH_some, @Wv.sZ_some, @Wv.sB_some, @Wv.sS_some, @Wv.sT_some, @Wv.sT0_some, @Wv.sI_some, @Wv.sX1_some, @Wv.sX2_some, @Wv.sN_some, @Wv.sL_some, @Wv.sP_t, @Wv.sP_f, @Wv.sC_t, @Wv.sC_f, @Wv.sW_tt, @Wv.sW_tf, @Wv.sW_ft, @Wv.sW_ff⟩
theorem Bd:(type_of% @Wv.sW_dt00)∧(type_of% @Wv.sW_dt01)∧(type_of% @Wv.sW_dt10)∧(type_of% @Wv.sW_dt11)∧(type_of% @Wv.sW_df00)∧(type_of% @Wv.sW_df01)∧(type_of% @Wv.sW_df10)∧(type_of% @Wv.sW_df11)∧(type_of% @Wv.sW_un)∧(type_of% @Wv.sY_un)∧(type_of% @Wv.sY_tt)∧(type_of% @Wv.sY_tf)∧(type_of% @Wv.sY_ft)∧(type_of% @Wv.sY_ff)∧(type_of% @Wv.sY_dt00)∧(type_of% @Wv.sY_dt01)∧(type_of% @Wv.sY_dt10)∧(type_of% @Wv.sY_dt11)∧(type_of% @Wv.sY_df00)∧(type_of% @Wv.sY_df01)∧(type_of% @Wv.sY_df10)∧(type_of% @Wv.sY_df11)∧(type_of% @Wv.sP_d00)∧(type_of% @Wv.sP_d01)∧(type_of% @Wv.sP_d10)∧(type_of% @Wv.sP_d11)∧(type_of% @Wv.sF_some)∧(type_of% @Wv.finP0)∧(type_of% @Wv.finP1)∧(type_of% @Wv.finP2)∧(type_of% @Wv.fin0)∧(type_of% @Wv.fin1)∧(type_of% @Wv.resA_eq)∧(type_of% @Wv.resB1)∧(type_of% @Wv.resB0)∧(type_of% @Wv.resB2)∧(type_of% @Wv.resL_nil)∧(type_of% @Wv.resL_tmp)∧(type_of% @Wv.resC_some)∧(type_of% @Wv.yes_c)∧(type_of% @Wv.no_c)∧(type_of% @Wv.yes_n)∧(type_of% @Wv.no_n)∧(type_of% @Wv.gGet_some)∧(type_of% @Wv.put_some)∧(type_of% @Wv.put_none)∧(type_of% @Wv.get_nil)∧(type_of% @Wv.get_cons)∧(type_of% @Wv.op_tmp)∧(type_of% @Wv.op_const)∧(type_of% @Wv.op_func)∧(type_of% @Wv.op_global)∧(type_of% @Wv.keep_nil)∧(type_of% @Wv.keep_cons)∧(type_of% @Wv.kof_cons)∧(type_of% @Wv.kof_nil)∧(type_of% @Wv.arr_list)∧(type_of% @Wv.arg_nil)∧(type_of% @Wv.arg_cons)∧(type_of% @Wv.al_nil)∧(type_of% @Wv.al_cons)∧(type_of% @Wv.blkOf_eq)∧(type_of% @Wv.int_int)∧(type_of% @Wv.bin_int)∧(type_of% @Wv.bin_str)∧(type_of% @Wv.eq_eql)∧(type_of% @Wv.eq_neq)∧(type_of% @Wv.b_add)∧(type_of% @Wv.b_sub)∧(type_of% @Wv.b_mul):=⟨@Wv.sW_dt00, @Wv.sW_dt01, @Wv.sW_dt10, @Wv.sW_dt11, @Wv.sW_df00, @Wv.sW_df01, @Wv.sW_df10, @Wv.sW_df11, @Wv.sW_un, @Wv.sY_un, @Wv.sY_tt, @Wv.sY_tf, @Wv.sY_ft, @Wv.sY_ff, @Wv.sY_dt00, @Wv.sY_dt01, @Wv.sY_dt10, @Wv.sY_dt11, @Wv.sY_df00, @Wv.sY_df01, @Wv.sY_df10, @Wv.sY_df11, @Wv.sP_d00, @Wv.sP_d01, @Wv.sP_d10, @Wv.sP_d11, @Wv.sF_some, @Wv.finP0, @Wv.finP1, @Wv.finP2, @Wv.fin0, @Wv.fin1, @Wv.resA_eq, @Wv.resB1, @Wv.resB0, @Wv.resB2, @Wv.resL_nil, @Wv.resL_tmp, @Wv.resC_some, @Wv.yes_c, @Wv.no_c, @Wv.yes_n, @Wv.no_n, @Wv.gGet_some, @Wv.put_some, @Wv.put_none, @Wv.get_nil, @Wv.get_cons, @Wv.op_tmp, @Wv.op_const, @Wv.op_func, @Wv.op_global, @Wv.keep_nil, @Wv.keep_cons, @Wv.kof_cons, @Wv.kof_nil, @Wv.arr_list, @Wv.arg_nil, @Wv.arg_cons, @Wv.al_nil, @Wv.al_cons, @Wv.blkOf_eq, @Wv.int_int, @Wv.bin_int, @Wv.bin_str, @Wv.eq_eql, @Wv.eq_neq, @Wv.b_add, @Wv.b_sub, @Wv.b_mul⟩
theorem Be:(type_of% @Wv.b_quo)∧(type_of% @Wv.b_rem)∧(type_of% @Wv.b_shl)∧(type_of% @Wv.b_shr)∧(type_of% @Wv.b_and)∧(type_of% @Wv.b_or)∧(type_of% @Wv.b_xor)∧(type_of% @Wv.b_eql)∧(type_of% @Wv.b_neq)∧(type_of% @Wv.b_lss)∧(type_of% @Wv.b_leq)∧(type_of% @Wv.b_gtr)∧(type_of% @Wv.b_geq)∧(type_of% @Wv.b_cat)∧(type_of% @Wv.b_seq)∧(type_of% @Wv.b_sne)∧(type_of% @Wv.u_not)∧(type_of% @Wv.u_neg)∧(type_of% @Wv.ex_tup)∧(type_of% @Wv.mm_max)∧(type_of% @Wv.mm_min)∧(type_of% @Wv.w64)∧(type_of% @Wv.wu32)∧(type_of% @Wv.wu64)∧(type_of% @Wv.wu8)∧(type_of% @Wv.bits_u32)∧(type_of% @Wv.bits_u64)∧(type_of% @Wv.bits_i64)∧(type_of% @Wv.bits_u8)∧(type_of% @Wv.tab_len)∧(type_of% @Wv.tab_get)∧(type_of% @Wv.tab_set)∧(type_of% @Wv.ints_tab)∧(type_of% @Wv.ld)∧(type_of% @Wv.bh_ptr)∧(type_of% @Wv.bBlk_some)∧(type_of% @Wv.bh_ap)∧(type_of% @Wv.bArr1)∧(type_of% @Wv.bArr_some)∧(type_of% @Wv.bh_tp)∧(type_of% @Wv.lv_own)∧(type_of% @Wv.lv_ap)∧(type_of% @Wv.lv_ptr)∧(type_of% @Wv.lArr_some)∧(type_of% @Wv.lBlk_some)∧(type_of% @Wv.cl_int)∧(type_of% @Wv.cl_bool)∧(type_of% @Wv.cl_str)∧(type_of% @Wv.cl_nils)∧(type_of% @Wv.cl_nilp)∧(type_of% @Wv.cl_t)∧(type_of% @Wv.cl_g)∧(type_of% @Wv.cl_tp)∧(type_of% @Wv.cl_fn)∧(type_of% @Wv.cl_own)∧(type_of% @Wv.cl_ptr)∧(type_of% @Wv.on_v)∧(type_of% @Wv.oc_int)∧(type_of% @Wv.oc_bool)∧(type_of% @Wv.oc_str)∧(type_of% @Wv.oc_slice)∧(type_of% @Wv.oc_ptr)∧(type_of% @Wv.on_t)∧(type_of% @Wv.on_tp)∧(type_of% @Wv.on_fn)∧(type_of% @Wv.on_own)∧(type_of% @Wv.on_ptr)∧(type_of% @Wv.st)∧(type_of% @Wv.st_ptr)∧(type_of% @Wv.st_ap):=⟨@Wv.b_quo, @Wv.b_rem, @Wv.b_shl, @Wv.b_shr, @Wv.b_and, @Wv.b_or, @Wv.b_xor, @Wv.b_eql, @Wv.b_neq, @Wv.b_lss, @Wv.b_leq, @Wv.b_gtr, @Wv.b_geq, @Wv.b_cat, @Wv.b_seq, @Wv.b_sne, @Wv.u_not, @Wv.u_neg, @Wv.ex_tup, @Wv.mm_max, @Wv.mm_min, @Wv.w64, @Wv.wu32, @Wv.wu64, @Wv.wu8, @Wv.bits_u32, @Wv.bits_u64, @Wv.bits_i64, @Wv.bits_u8, @Wv.tab_len, @Wv.tab_get, @Wv.tab_set, @Wv.ints_tab, @Wv.ld, @Wv.bh_ptr, @Wv.bBlk_some, @Wv.bh_ap, @Wv.bArr1, @Wv.bArr_some, @Wv.bh_tp, @Wv.lv_own, @Wv.lv_ap, @Wv.lv_ptr, @Wv.lArr_some, @Wv.lBlk_some, @Wv.cl_int, @Wv.cl_bool, @Wv.cl_str, @Wv.cl_nils, @Wv.cl_nilp, @Wv.cl_t, @Wv.cl_g, @Wv.cl_tp, @Wv.cl_fn, @Wv.cl_own, @Wv.cl_ptr, @Wv.on_v, @Wv.oc_int, @Wv.oc_bool, @Wv.oc_str, @Wv.oc_slice, @Wv.oc_ptr, @Wv.on_t, @Wv.on_tp, @Wv.on_fn, @Wv.on_own, @Wv.on_ptr, @Wv.st, @Wv.st_ptr, @Wv.st_ap⟩
theorem Bf:(type_of% @Wv.stP_some)∧(type_of% @Wv.stQ_one)∧(type_of% @Wv.stQ_some)∧(type_of% @Wv.setLA_nil)∧(type_of% @Wv.setLA_cons)∧(type_of% @Wv.sD_z)∧(type_of% @Wv.sDz_some)∧(type_of% @Wv.resL_cell)∧(type_of% @Wv.rsB_some)∧(type_of% @Wv.bin_bool)∧(type_of% @Wv.bB_true)∧(type_of% @Wv.np_ptr)∧(type_of% @Wv.np_ap)∧(type_of% @Wv.np_tp)∧(type_of% @Wv.np_v)∧(type_of% @Wv.nP_true)∧(type_of% @Wv.bin_pz)∧(type_of% @Wv.bin_nilp)∧(type_of% @Wv.bin_nils)∧(type_of% @Wv.bin_g)∧(type_of% @Wv.bin_agg)∧(type_of% @Wv.eqG_h)∧(type_of% @Wv.eqH_some)∧(type_of% @Wv.eqL_nil)∧(type_of% @Wv.eqL_cons)∧(type_of% @Wv.eqC_i)∧(type_of% @Wv.eqC_b)∧(type_of% @Wv.eqC_s)∧(type_of% @Wv.andO_some)∧(type_of% @Wv.bN_true)∧(type_of% @Wv.conv_int)∧(type_of% @Wv.conv_str)∧(type_of% @Wv.cvS_true)∧(type_of% @Wv.str_one)∧(type_of% @Wv.stD_some)∧(type_of% @Wv.conv_t)∧(type_of% @Wv.conv_own)∧(type_of% @Wv.cvO_one)∧(type_of% @Wv.ints_nil)∧(type_of% @Wv.cvB_some)∧(type_of% @Wv.tk)∧(type_of% @Wv.tkB_one)∧(type_of% @Wv.tkB_agg)∧(type_of% @Wv.ix)∧(type_of% @Wv.ixB_s)∧(type_of% @Wv.ixB_a)∧(type_of% @Wv.ixC_t)∧(type_of% @Wv.ixC_own)∧(type_of% @Wv.ixD_true)∧(type_of% @Wv.ixE_some)∧(type_of% @Wv.sh)∧(type_of% @Wv.sh_ptr)∧(type_of% @Wv.sh_ap)∧(type_of% @Wv.sh_tp)∧(type_of% @Wv.lv_tp)∧(type_of% @Wv.len)∧(type_of% @Wv.len_arr)∧(type_of% @Wv.len_no)∧(type_of% @Wv.len_t)∧(type_of% @Wv.len_nil)∧(type_of% @Wv.len_own)∧(type_of% @Wv.lenD_true)∧(type_of% @Wv.len_str)∧(type_of% @Wv.stA_some)∧(type_of% @Wv.ap)∧(type_of% @Wv.apA_some)∧(type_of% @Wv.apB_one)∧(type_of% @Wv.apE_own)∧(type_of% @Wv.apF_some)∧(type_of% @Wv.apF_one):=⟨@Wv.stP_some, @Wv.stQ_one, @Wv.stQ_some, @Wv.setLA_nil, @Wv.setLA_cons, @Wv.sD_z, @Wv.sDz_some, @Wv.resL_cell, @Wv.rsB_some, @Wv.bin_bool, @Wv.bB_true, @Wv.np_ptr, @Wv.np_ap, @Wv.np_tp, @Wv.np_v, @Wv.nP_true, @Wv.bin_pz, @Wv.bin_nilp, @Wv.bin_nils, @Wv.bin_g, @Wv.bin_agg, @Wv.eqG_h, @Wv.eqH_some, @Wv.eqL_nil, @Wv.eqL_cons, @Wv.eqC_i, @Wv.eqC_b, @Wv.eqC_s, @Wv.andO_some, @Wv.bN_true, @Wv.conv_int, @Wv.conv_str, @Wv.cvS_true, @Wv.str_one, @Wv.stD_some, @Wv.conv_t, @Wv.conv_own, @Wv.cvO_one, @Wv.ints_nil, @Wv.cvB_some, @Wv.tk, @Wv.tkB_one, @Wv.tkB_agg, @Wv.ix, @Wv.ixB_s, @Wv.ixB_a, @Wv.ixC_t, @Wv.ixC_own, @Wv.ixD_true, @Wv.ixE_some, @Wv.sh, @Wv.sh_ptr, @Wv.sh_ap, @Wv.sh_tp, @Wv.lv_tp, @Wv.len, @Wv.len_arr, @Wv.len_no, @Wv.len_t, @Wv.len_nil, @Wv.len_own, @Wv.lenD_true, @Wv.len_str, @Wv.stA_some, @Wv.ap, @Wv.apA_some, @Wv.apB_one, @Wv.apE_own, @Wv.apF_some, @Wv.apF_one⟩
theorem Bg:(type_of% @Wv.apE_nil)∧(type_of% @Wv.cp)∧(type_of% @Wv.cpA_some)∧(type_of% @Wv.cpB_own)∧(type_of% @Wv.cpE_some)∧(type_of% @Wv.cpE_one)∧(type_of% @Wv.at_)∧(type_of% @Wv.atA_some)∧(type_of% @Wv.atB_some)∧(type_of% @Wv.atE_e0)∧(type_of% @Wv.atE_nil)∧(type_of% @Wv.cl_e0)∧(type_of% @Wv.on_e0)∧(type_of% @Wv.cs1_e0)∧(type_of% @Wv.cs2_e0)∧(type_of% @Wv.cs3_e0)∧(type_of% @Wv.sr)∧(type_of% @Wv.sr_t)∧(type_of% @Wv.srC_true)∧(type_of% @Wv.sr_own)∧(type_of% @Wv.srD_some)∧(type_of% @Wv.srD_one)∧(type_of% @Wv.sr_nil)∧(type_of% @Wv.sr_str)∧(type_of% @Wv.clB_some)∧(type_of% @Wv.clB_one)∧(type_of% @Wv.cs1_v)∧(type_of% @Wv.cs1_t)∧(type_of% @Wv.cs1_tp)∧(type_of% @Wv.cs1_fn)∧(type_of% @Wv.cs1_none)∧(type_of% @Wv.cs1_ptr)∧(type_of% @Wv.cs1_own)∧(type_of% @Wv.cs2_v)∧(type_of% @Wv.cs2_t)∧(type_of% @Wv.cs2_tp)∧(type_of% @Wv.cs2_fn)∧(type_of% @Wv.cs2_none)∧(type_of% @Wv.cs2_ptr)∧(type_of% @Wv.cs2_own)∧(type_of% @Wv.cs3_v)∧(type_of% @Wv.cs3_t)∧(type_of% @Wv.cs3_tp)∧(type_of% @Wv.cs3_fn)∧(type_of% @Wv.cs3_none)∧(type_of% @Wv.cs3_ptr)∧(type_of% @Wv.cs3_own)∧(type_of% @Wv.cs2_g)∧(type_of% @Wv.cs3_g)∧(type_of% @Wv.cs3_tup)∧(type_of% @Wv.cw_nil)∧(type_of% @Wv.cw_cons)∧(type_of% @Wv.cwB_some)∧(type_of% @Wv.cwC_some)∧(type_of% @Wv.lt)∧(type_of% @Wv.ltA_some)∧(type_of% @Wv.ltB_some)∧(type_of% @Wv.rw_nil)∧(type_of% @Wv.rw_cons)∧(type_of% @Wv.rwB_some)∧(type_of% @Wv.mk)∧(type_of% @Wv.mkA_some)∧(type_of% @Wv.mkB_some)∧(type_of% @Wv.zrow_int)∧(type_of% @Wv.zrow_bool)∧(type_of% @Wv.zrow_nil)∧(type_of% @Wv.fd)∧(type_of% @Wv.fdA_some)∧(type_of% @Wv.fdB_some)∧(type_of% @Wv.fl):=⟨@Wv.apE_nil, @Wv.cp, @Wv.cpA_some, @Wv.cpB_own, @Wv.cpE_some, @Wv.cpE_one, @Wv.at_, @Wv.atA_some, @Wv.atB_some, @Wv.atE_e0, @Wv.atE_nil, @Wv.cl_e0, @Wv.on_e0, @Wv.cs1_e0, @Wv.cs2_e0, @Wv.cs3_e0, @Wv.sr, @Wv.sr_t, @Wv.srC_true, @Wv.sr_own, @Wv.srD_some, @Wv.srD_one, @Wv.sr_nil, @Wv.sr_str, @Wv.clB_some, @Wv.clB_one, @Wv.cs1_v, @Wv.cs1_t, @Wv.cs1_tp, @Wv.cs1_fn, @Wv.cs1_none, @Wv.cs1_ptr, @Wv.cs1_own, @Wv.cs2_v, @Wv.cs2_t, @Wv.cs2_tp, @Wv.cs2_fn, @Wv.cs2_none, @Wv.cs2_ptr, @Wv.cs2_own, @Wv.cs3_v, @Wv.cs3_t, @Wv.cs3_tp, @Wv.cs3_fn, @Wv.cs3_none, @Wv.cs3_ptr, @Wv.cs3_own, @Wv.cs2_g, @Wv.cs3_g, @Wv.cs3_tup, @Wv.cw_nil, @Wv.cw_cons, @Wv.cwB_some, @Wv.cwC_some, @Wv.lt, @Wv.ltA_some, @Wv.ltB_some, @Wv.rw_nil, @Wv.rw_cons, @Wv.rwB_some, @Wv.mk, @Wv.mkA_some, @Wv.mkB_some, @Wv.zrow_int, @Wv.zrow_bool, @Wv.zrow_nil, @Wv.fd, @Wv.fdA_some, @Wv.fdB_some, @Wv.fl⟩
theorem Bh:(type_of% @Wv.flA_some)∧(type_of% @Wv.flB_some)∧(type_of% @Wv.co_g)∧(type_of% @Wv.co_agg)∧(type_of% @Wv.cl_agg)∧(type_of% @Wv.bdx)∧(type_of% @Wv.bdX_some)∧(type_of% @Wv.fi_nil)∧(type_of% @Wv.fi_cons)∧(type_of% @Wv.fiB_some)∧(type_of% @Wv.bo_none)∧(type_of% @Wv.bo_some)∧(type_of% @Wv.hx_some)∧(type_of% @Wv.szE_some)∧(type_of% @Wv.sl_t)∧(type_of% @Wv.st_t)∧(type_of% @Wv.st_o)∧(type_of% @Wv.slO_some)∧(type_of% @Wv.slT_some)∧(type_of% @Wv.sl_s)∧(type_of% @Wv.st_s)∧(type_of% @Wv.slS_some)∧(type_of% @Wv.tab_take)∧(type_of% @Wv.tab_drop)∧(type_of% @Wv.tab_nil)∧(type_of% @Wv.tab_one)∧(type_of% @Wv.ix_str)∧(type_of% @Wv.isB_true)∧(type_of% @Wv.cv_int)∧(type_of% @Wv.cv_t)∧(type_of% @Wv.cv_own)∧(type_of% @Wv.cv_str)∧(type_of% @Wv.cvX_none)∧(type_of% @Wv.cvX_u8)∧(type_of% @Wv.sl_ptr)∧(type_of% @Wv.slP1_some)∧(type_of% @Wv.slP2_some)∧(type_of% @Wv.lk)∧(type_of% @Wv.lkA_some)∧(type_of% @Wv.lkB_mp)∧(type_of% @Wv.lkB_tm)∧(type_of% @Wv.lkD_some)∧(type_of% @Wv.lkR_tt)∧(type_of% @Wv.lkR_tn)∧(type_of% @Wv.lkR_ft)∧(type_of% @Wv.lkR_fn)∧(type_of% @Wv.kk_int)∧(type_of% @Wv.kk_str)∧(type_of% @Wv.kb_nil)∧(type_of% @Wv.kb_cons)∧(type_of% @Wv.lm_nil)∧(type_of% @Wv.lm_cons)∧(type_of% @Wv.ke_int)∧(type_of% @Wv.ke_str)∧(type_of% @Wv.pm_nil)∧(type_of% @Wv.pm_cons)∧(type_of% @Wv.up)∧(type_of% @Wv.upA_some)∧(type_of% @Wv.upB_some)∧(type_of% @Wv.upD_some)∧(type_of% @Wv.bin_nilf)∧(type_of% @Wv.bF_eq)∧(type_of% @Wv.bF_ne)∧(type_of% @Wv.nf_nil)∧(type_of% @Wv.nf_fn)∧(type_of% @Wv.ca_mp)∧(type_of% @Wv.lv_mp)∧(type_of% @Wv.lMap_some)∧(type_of% @Wv.on_mp)∧(type_of% @Wv.ca_fn):=⟨@Wv.flA_some, @Wv.flB_some, @Wv.co_g, @Wv.co_agg, @Wv.cl_agg, @Wv.bdx, @Wv.bdX_some, @Wv.fi_nil, @Wv.fi_cons, @Wv.fiB_some, @Wv.bo_none, @Wv.bo_some, @Wv.hx_some, @Wv.szE_some, @Wv.sl_t, @Wv.st_t, @Wv.st_o, @Wv.slO_some, @Wv.slT_some, @Wv.sl_s, @Wv.st_s, @Wv.slS_some, @Wv.tab_take, @Wv.tab_drop, @Wv.tab_nil, @Wv.tab_one, @Wv.ix_str, @Wv.isB_true, @Wv.cv_int, @Wv.cv_t, @Wv.cv_own, @Wv.cv_str, @Wv.cvX_none, @Wv.cvX_u8, @Wv.sl_ptr, @Wv.slP1_some, @Wv.slP2_some, @Wv.lk, @Wv.lkA_some, @Wv.lkB_mp, @Wv.lkB_tm, @Wv.lkD_some, @Wv.lkR_tt, @Wv.lkR_tn, @Wv.lkR_ft, @Wv.lkR_fn, @Wv.kk_int, @Wv.kk_str, @Wv.kb_nil, @Wv.kb_cons, @Wv.lm_nil, @Wv.lm_cons, @Wv.ke_int, @Wv.ke_str, @Wv.pm_nil, @Wv.pm_cons, @Wv.up, @Wv.upA_some, @Wv.upB_some, @Wv.upD_some, @Wv.bin_nilf, @Wv.bF_eq, @Wv.bF_ne, @Wv.nf_nil, @Wv.nf_fn, @Wv.ca_mp, @Wv.lv_mp, @Wv.lMap_some, @Wv.on_mp, @Wv.ca_fn⟩
theorem Bi:(type_of% @Wv.ca_ifc)∧(type_of% @Wv.on_ifc)∧(type_of% @Wv.cl3_mp)∧(type_of% @Wv.cl1M_some)∧(type_of% @Wv.cl3_ifc)∧(type_of% @Wv.cl3_fn):=⟨@Wv.ca_ifc, @Wv.on_ifc, @Wv.cl3_mp, @Wv.cl1M_some, @Wv.cl3_ifc, @Wv.cl3_fn⟩
theorem Bz:(type_of% (Wv.WF0 _ rfl))∧(type_of% (Wv.WF1 _ rfl))∧(type_of% (Wv.WF2 _ rfl))∧(type_of% (Wv.WF3 _ rfl))∧(type_of% (Wv.WF4 _ rfl))∧(type_of% (Wv.WF5 _ rfl))∧(type_of% (Wv.WF6 _ rfl))∧(type_of% (Wv.WF7 _ rfl))∧(type_of% (Wv.WF8 _ rfl))∧(type_of% (Wv.WF9 _ rfl))∧(type_of% (Wv.WF10 _ rfl))∧(type_of% (Wv.WF11 _ rfl))∧(type_of% (Wv.WF12 _ rfl))∧(type_of% (Wv.WF13 _ rfl))∧(type_of% (Wv.WF14 _ rfl))∧(type_of% (Wv.WF15 _ rfl))∧(type_of% (Wv.WF16 _ rfl)):=⟨Wv.WF0 _ rfl,Wv.WF1 _ rfl,Wv.WF2 _ rfl,Wv.WF3 _ rfl,Wv.WF4 _ rfl,Wv.WF5 _ rfl,Wv.WF6 _ rfl,Wv.WF7 _ rfl,Wv.WF8 _ rfl,Wv.WF9 _ rfl,Wv.WF10 _ rfl,Wv.WF11 _ rfl,Wv.WF12 _ rfl,Wv.WF13 _ rfl,Wv.WF14 _ rfl,Wv.WF15 _ rfl,Wv.WF16 _ rfl⟩
theorem Bv:(∀ k z,Value.cells (.int k z)= #[.int k z])∧(∀ b,Value.cells (.bool b)= #[.bool b])∧(∀ s,Value.cells (.string s)= #[.string s])∧(∀ a,Value.cells (.pointer a)= #[.pointer a])∧(∀ a n c,Value.cells (.slice a n c)= #[.slice a n c])∧(∀ r,Value.cells (.map r)= #[.map r])∧(∀ f a c,Value.cells (.func f a c)= #[.func f a c])∧(Value.cells .nilFunc= #[.nilFunc])∧(∀ T v,Value.cells (.iface T v)= #[.iface T v])∧(Value.cells .nilIface= #[.nilIface])∧(∀ l,Value.cells (.agg l)=l)∧(∀ z,vcells z=z.cells.toList.map .v)∧(∀ o:Oper,isAlloc o=(o.guard.isNone && match o.op with | .alloc _=>true | _=>false)):=
 ⟨fun _ _=>rfl,fun _=>rfl,fun _=>rfl,fun _=>rfl,fun _ _ _=>rfl,fun _=>rfl,fun _ _ _=>rfl,rfl,fun _ _=>rfl,rfl,fun _=>rfl,fun _=>rfl,fun _=>rfl⟩
theorem Bw:(∀ T s cells z,froze (some (.arr T s cells z))=some (.arr T s cells cells.length))∧(∀ c,froze (some (.blk c))=some (.blk c))∧(∀ c,froze (some (.map c))=some (.map c))∧(froze none=none):=
 ⟨fun _ _ _ _=>rfl,fun _=>rfl,fun _=>rfl,rfl⟩
theorem Bx0:(type_of% @Wv.lv_own)∧(type_of% @Wv.lv_ptr)∧(type_of% @Wv.lv_ap)∧(type_of% @Wv.lArr_some)∧(type_of% @Wv.lBlk_some)∧(type_of% @Wv.tab_len)∧(type_of% @Wv.lv_tp)∧(type_of% @Nat.mul_one)∧(type_of% @Nat.zero_add)∧(type_of% @List.size_toArray.{0})∧(type_of% @decide_true)∧(type_of% @List.getElem?_cons_zero.{0})∧(type_of% @List.getElem?_cons_succ.{0})∧(type_of% @List.length_cons.{0})∧(type_of% @List.length_nil.{0})∧(type_of% @List.length_append.{0})∧(type_of% @Option.isNone_none.{0})∧(type_of% @Option.isNone_some.{0})∧(type_of% @Bool.true_and)∧(type_of% @Bool.and_false)∧(type_of% @Bool.false_and):=⟨@Wv.lv_own, @Wv.lv_ptr, @Wv.lv_ap, @Wv.lArr_some, @Wv.lBlk_some, @Wv.tab_len, @Wv.lv_tp, @Nat.mul_one, @Nat.zero_add, @List.size_toArray.{0}, @decide_true, @List.getElem?_cons_zero.{0}, @List.getElem?_cons_succ.{0}, @List.length_cons.{0}, @List.length_nil.{0}, @List.length_append.{0}, @Option.isNone_none.{0}, @Option.isNone_some.{0}, @Bool.true_and, @Bool.and_false, @Bool.false_and⟩
theorem Bx:(type_of% Bx0)∧(type_of% Bv):=⟨Bx0,Bv⟩
theorem B:(type_of% Ba)∧(type_of% Bb)∧(type_of% Bc)∧(type_of% Bd)∧(type_of% Be)∧(type_of% Bf)∧(type_of% Bg)∧(type_of% Bh)∧(type_of% Bi)∧(type_of% Bz)∧(type_of% Bv)∧(type_of% Bw)∧(type_of% @Option.some.injEq.{0}):=⟨Ba,Bb,Bc,Bd,Be,Bf,Bg,Bh,Bi,Bz,Bv,Bw, @Option.some.injEq.{0}⟩
theorem BC:(type_of% @implies_true.{0})∧(type_of% @implies_true.{1})∧(type_of% @Wv.clo_v)∧(type_of% @Wv.clo_none)∧(type_of% @Wv.clo_e0)∧(type_of% @Wv.clo_t)∧(type_of% @Wv.clo_g)∧(type_of% @Wv.clo_tup)∧(type_of% @Wv.clo_fn)∧(type_of% @Wv.clo_ifc)∧(type_of% @Wv.clo_nil)∧(type_of% @Wv.clo_cons)∧(type_of% @Wv.clo_tab)∧(type_of% @Wv.clo_map)∧(type_of% @and_self)∧(type_of% @true_and)∧(type_of% @and_true):=⟨@implies_true.{0}, @implies_true.{1}, @Wv.clo_v, @Wv.clo_none, @Wv.clo_e0, @Wv.clo_t, @Wv.clo_g, @Wv.clo_tup, @Wv.clo_fn, @Wv.clo_ifc, @Wv.clo_nil, @Wv.clo_cons, @Wv.clo_tab, @Wv.clo_map, @and_self, @true_and, @and_true⟩
theorem BK:(∀ ks,base ks=kOf ks 1000000)∧(∀ d,kOf [] d=0)∧(∀ i k r d,kOf ((i,k)::r) d=if i=d then k else kOf r d)∧(type_of% BC)∧(type_of% @Wv.lo_own)∧(type_of% @Wv.lo_ptr)∧(type_of% @Wv.lo_ap)∧(type_of% @Wv.lo_mp)∧(type_of% @Wv.lo_fn)∧(type_of% @Wv.lo_ifc)∧(type_of% @Wv.lo_tm)∧(type_of% @Wv.loL_map)∧(type_of% @Wv.loH_map)∧(type_of% @Wv.lo_v)∧(type_of% @Wv.lo_none)∧(type_of% @Wv.lo_e0)∧(type_of% @Wv.lo_t)∧(type_of% @Wv.lo_g)∧(type_of% @Wv.lo_tup)∧(type_of% @Wv.loE_nil)∧(type_of% @Wv.loE_cons)∧(type_of% @Wv.loL_nil)∧(type_of% @Wv.loL_cons)∧(type_of% @Wv.loL_tab)∧(type_of% @Wv.loH_nil)∧(type_of% @Wv.loH_none)∧(type_of% @Wv.loH_blk)∧(type_of% @Wv.loH_arr):=⟨fun _=>rfl,fun _=>rfl,fun _ _ _ _=>rfl,BC, @Wv.lo_own, @Wv.lo_ptr, @Wv.lo_ap, @Wv.lo_mp, @Wv.lo_fn, @Wv.lo_ifc, @Wv.lo_tm, @Wv.loL_map, @Wv.loH_map, @Wv.lo_v, @Wv.lo_none, @Wv.lo_e0, @Wv.lo_t, @Wv.lo_g, @Wv.lo_tup, @Wv.loE_nil, @Wv.loE_cons, @Wv.loL_nil, @Wv.loL_cons, @Wv.loL_tab, @Wv.loH_nil, @Wv.loH_none, @Wv.loH_blk, @Wv.loH_arr⟩
theorem BL:(type_of% @BK)∧(type_of% @List.take_zero.{0})∧(type_of% @List.take_succ_cons.{0})∧(type_of% @List.take_nil.{0})∧(type_of% @Nat.zero_lt_succ)∧(type_of% @Nat.lt_add_one)∧(type_of% @Nat.lt_one_iff)∧(type_of% @Nat.one_lt_two):=⟨@BK, @List.take_zero.{0}, @List.take_succ_cons.{0}, @List.take_nil.{0}, @Nat.zero_lt_succ, @Nat.lt_add_one, @Nat.lt_one_iff, @Nat.one_lt_two⟩
theorem D {p:Prop} (h:p:=by first | omega | assumption | (simp only [Wv.Bx,simprocAttr]<;>omega) | fail):p:=h
theorem V {p:Prop} (h:p:=by simp (maxSteps:=2000000) (disch:=first|exact Wv.D|fail) only [Wv.B,simprocAttr]):p:=h
theorem V2 {p:Prop} (h:p:=by simp (maxSteps:=2000000) (disch:=first|exact Wv.D|fail) only [Wv.B,simprocAttr,Int.natCast_add,Int.natCast_one]):p:=h
theorem W {P Q:Prop} (h:Q) (e:P=Q:=by simp (maxSteps:=2000000) (disch:=first|exact Wv.D|fail) only [Wv.B,simprocAttr]<;>rfl):P:=e▸h
theorem c {p:Prop} (h:p:=by simp only [Wv.BC]):p:=h
end
end Go.Proofs.YtljfgdlgmdcmfaaGreat.Wv
namespace Go.Proofs.YtljfgdlgmdcmfaaGreat
section
open Go.RowKit Wv
def letB (c:Int):Bool:=(decide (97≤c) && decide (c≤122)) || (decide (65≤c) && decide (c≤90))
def digB (c:Int):Bool:=decide (48≤c) && decide (c≤57)
def orP (c:Int):Int:=IntKind.u8.wrap (BitVec.ofInt IntKind.u8.bits c ||| BitVec.ofInt IntKind.u8.bits 32).toNat
theorem orP_let: ∀ n:Fin 256,(decide (97≤orP n.val) && decide (orP n.val≤122))=letB n.val:=by decide+kernel
theorem letP (c:Int) (h0:0≤c) (h1:c<256):(decide (97≤orP c) && decide (orP c≤122))=letB c:=by
 have:=orP_let ⟨c.toNat,by omega⟩
 simp only [Int.toNat_of_nonneg h0] at this
 exact this
theorem pletter_tc (c:Int) (h0:0≤c) (h1:c<256):TC Tryz.prog 152 [.v (.int .u8 c)] (.v (.bool (letB c))):=by
 have hl:=letP c h0 h1
 unfold orP at hl
 refine Wv.TC.by 11 [0,2] [] [.tmp 2] Tryz.func152 rfl rfl rfl ?clo ?_
 case clo=>simp only [Wv.BC]
 by_cases hq:(97:Int)≤IntKind.u8.wrap (BitVec.ofInt IntKind.u8.bits c ||| BitVec.ofInt IntKind.u8.bits 32).toNat
 ·rw [decide_eq_true hq,Bool.true_and] at hl
  simp (disch:=first|exact Wv.D|fail) only [Wv.B,simprocAttr,hl]
 ·rw [decide_eq_false hq,Bool.false_and] at hl
  simp (disch:=first|exact Wv.D|fail) only [Wv.B,simprocAttr, ←hl]
theorem pdigit_tc (c:Int):TC Tryz.prog 154 [.v (.int .u8 c)] (.v (.bool (digB c))):=by
 refine Wv.TC.by 9 [0,2] [] [.tmp 2] Tryz.func154 rfl rfl rfl ?clo ?_
 case clo=>simp only [Wv.BC]
 unfold digB
 by_cases hq:48≤c
 ·simp (disch:=first|exact Wv.D|fail) only [Wv.B,simprocAttr,decide_eq_true hq]
 ·simp (disch:=first|exact Wv.D|fail) only [Wv.B,simprocAttr,decide_eq_false hq]
end
section
open Go.RowKit Wv
def strsA (n:Nat) (f:Nat→ByteArray):AV:= .t n 1 (tab n fun i=> .v (.string (f i)))
theorem strs_clo (n:Nat) (f:Nat→ByteArray):Clo (strsA n f):=by unfold strsA;simp only [Wv.BC]
theorem sindex_tc (n:Nat) (f:Nat→ByteArray) (s:ByteArray) (hn:n≤140737488351232):TC Tryz.prog 209 [strsA n f, .v (.string s)] (.v (.int .i64 (idxO (findF (fun i=>decide (s=f i)) n)))):=by
 unfold strsA
 refine Wv.TC.by 19 [0,8,7,9,1,5,16,4] [] [.tmp 4] Tryz.func209 rfl rfl rfl ?clo ?_
 case clo=>simp only [Wv.BC]
 refine Wv.W ?_
 refine wfor (σ:=Nat) (fun i=>[(0,strsA n f),(1, .v (.string s)),(7, .v (.int .i64 n)),(8, .v (.int .i64 i))]) (fun i=>[])
  (fun i=>i≤n∧ ∀ j,j<i→decide (s=f j)=false) (fun i=>n - i) 0 ⟨Nat.zero_le _,fun j hj=>by omega⟩ Wv.V (by simp (disch:=first|exact Wv.D|fail) only [Wv.B,simprocAttr,strsA]) ?_
 rintro i ⟨hi,hb⟩
 unfold strsA
 by_cases hlt:i<n
 ·have e1:(i:Int)<n:=by omega
  cases hq:decide (s=f i) with
  | true=>
   have hf:=findF_at (p:=fun i=>decide (s=f i)) hlt hq hb
   simp (disch:=first|exact Wv.D|fail) only [Wv.B,simprocAttr,hq,hf,idxO]
  | false=>
   simp (disch:=first|exact Wv.D|fail) only [Wv.B,simprocAttr,hq]
   refine k_next (i+1) ⟨by omega,fun j hj=>?_⟩ (by omega) Wv.V Wv.V2
   by_cases e:j=i
   ·subst e;exact hq
   ·exact hb j (by omega)
 ·have hin:i=n:=by omega
  subst hin
  have hf:=findF_none (p:=fun i=>decide (s=f i)) hb
  simp (disch:=first|exact Wv.D|fail) only [Wv.B,simprocAttr,hf,idxO]
theorem scontains_tc (n:Nat) (f:Nat→ByteArray) (s:ByteArray) (hn:n≤140737488351232):TC Tryz.prog 153 [strsA n f, .v (.string s)] (.v (.bool (anyN n fun i=>decide (s=f i)))):=by
 refine Wv.TC.by 9 [0,1,4] [] [.tmp 4] Tryz.func153 rfl rfl rfl ?clo ?_
 case clo=>simp only [Wv.BC]
 refine Wv.W ?_
 refine call_TC (sindex_tc n f s hn) rfl (by simp only [Wv.BC,strs_clo]) Wv.c ?_
 simp (disch:=first|exact Wv.D|fail) only [Wv.B,simprocAttr,idxO_any]
theorem sindexf_ht {h:Hp} (n:Nat) (f:Nat→ByteArray) (p:Nat→Bool) (fid:FuncId) (fst cap:List AV) (hn:n≤140737488351232) (hp: ∀ i,i<n→HT Tryz.prog fid (fst++[.v (.string (f i))]++cap) h (fun r h'=>r= .v (.bool (p i))∧h'=h)):
  HT Tryz.prog 155 [strsA n f, .fn (.func fid) fst cap] h (fun r h'=>r= .v (.int .i64 (idxO (findF p n)))∧h'=h):=by
 unfold strsA
 refine Wv.HT.by 19 [0,8,7,9,1,5,16,4] [(1000000,h.length)] [.tmp 4] Tryz.func155 rfl rfl rfl ?base ?_
 case base=>rfl
 refine Wv.W ?_
 refine wfor (σ:=Nat) (fun i=>[(0,strsA n f),(1, .fn (.func fid) fst cap),(7, .v (.int .i64 n)),(8, .v (.int .i64 i))]) (fun i=>h)
  (fun i=>i≤n∧ ∀ j,j<i→p j=false) (fun i=>n - i) 0 ⟨Nat.zero_le _,fun j hj=>by omega⟩ rfl (by simp (disch:=first|exact Wv.D|fail) only [Wv.B,simprocAttr,strsA]) ?_
 rintro i ⟨hi,hb⟩
 unfold strsA
 by_cases hlt:i<n
 ·have e1:(i:Int)<n:=by omega
  refine Wv.W ?_
  refine call_HT (hp i hlt) ?_
  rintro av h' ⟨rfl,rfl⟩
  cases hq:p i with
  | true=>
   have hf:=findF_at hlt hq hb
   simp (disch:=first|exact Wv.D|fail) only [Wv.B,simprocAttr,hq,hf,idxO]
  | false=>
   simp (disch:=first|exact Wv.D|fail) only [Wv.B,simprocAttr,hq]
   refine k_next (i+1) ⟨by omega,fun j hj=>?_⟩ (by omega) rfl Wv.V2
   by_cases e:j=i
   ·subst e;exact hq
   ·exact hb j (by omega)
 ·have hin:i=n:=by omega
  subst hin
  have hf:=findF_none hb
  simp (disch:=first|exact Wv.D|fail) only [Wv.B,simprocAttr,hf,idxO]
end
section
open Go.RowKit Wv
theorem zindexf_ht {h:Hp} (n:Nat) (f:Nat→Int) (p:Nat→Bool) (fid:FuncId) (fst cap:List AV) (hn:n≤140737488351232) (hp: ∀ i,i<n→HT Tryz.prog fid (fst++[.v (.int .i64 (f i))]++cap) h (fun r h'=>r= .v (.bool (p i))∧h'=h)):
  HT Tryz.prog 210 [.t n 1 (tab n fun i=> .v (.int .i64 (f i))), .fn (.func fid) fst cap] h (fun r h'=>r= .v (.int .i64 (idxO (findF p n)))∧h'=h):=by
 refine Wv.HT.by 19 [0,8,7,9,1,5,16,4] [(1000000,h.length)] [.tmp 4] Tryz.func210 rfl rfl rfl ?base ?_
 case base=>rfl
 refine Wv.W ?_
 refine wfor (σ:=Nat) (fun i=>[(0, .t n 1 (tab n fun i=> .v (.int .i64 (f i)))),(1, .fn (.func fid) fst cap),(7, .v (.int .i64 n)),(8, .v (.int .i64 i))]) (fun i=>h)
  (fun i=>i≤n∧ ∀ j,j<i→p j=false) (fun i=>n - i) 0 ⟨Nat.zero_le _,fun j hj=>by omega⟩ rfl Wv.V ?_
 rintro i ⟨hi,hb⟩
 by_cases hlt:i<n
 ·have e1:(i:Int)<n:=by omega
  refine Wv.W ?_
  refine call_HT (hp i hlt) ?_
  rintro av h' ⟨rfl,rfl⟩
  cases hq:p i with
  | true=>
   have hf:=findF_at hlt hq hb
   simp (disch:=first|exact Wv.D|fail) only [Wv.B,simprocAttr,hq,hf,idxO]
  | false=>
   simp (disch:=first|exact Wv.D|fail) only [Wv.B,simprocAttr,hq]
   refine k_next (i+1) ⟨by omega,fun j hj=>?_⟩ (by omega) rfl Wv.V2
   by_cases e:j=i
   ·subst e;exact hq
   ·exact hb j (by omega)
 ·have hin:i=n:=by omega
  subst hin
  have hf:=findF_none hb
  simp (disch:=first|exact Wv.D|fail) only [Wv.B,simprocAttr,hf,idxO]
theorem zcontf_ht {h:Hp} (n:Nat) (f:Nat→Int) (p:Nat→Bool) (fid:FuncId) (fst cap:List AV) (hn:n≤140737488351232) (hp: ∀ i,i<n→HT Tryz.prog fid (fst++[.v (.int .i64 (f i))]++cap) h (fun r h'=>r= .v (.bool (p i))∧h'=h)):
  HT Tryz.prog 159 [.t n 1 (tab n fun i=> .v (.int .i64 (f i))), .fn (.func fid) fst cap] h (fun r h'=>r= .v (.bool (anyN n p))∧h'=h):=by
 refine Wv.HT.by 9 [0,1,4] [(1000000,h.length)] [.tmp 4] Tryz.func159 rfl rfl rfl ?base ?_
 case base=>rfl
 refine Wv.W ?_
 refine call_HT (fst:=[]) (cap:=[]) (zindexf_ht n f p fid fst cap hn hp) ?_
 rintro av h' ⟨rfl,rfl⟩
 simp (disch:=first|exact Wv.D|fail) only [Wv.B,simprocAttr,idxO_any]
theorem xindexf_ht {h:Hp} (n:Nat) (cells:List AV) (ec:Nat→List AV) (hl:cells.length=n*5) (hel: ∀ i,i<n→List.take 5 (List.drop (i*5) cells)=ec i) (p:Nat→Bool) (fid:FuncId) (fst cap:List AV) (hn:n≤140737488351232) (hp: ∀ i,i<n→HT Tryz.prog fid (fst++[.g (ec i)]++cap) h (fun r h'=>r= .v (.bool (p i))∧h'=h)):
  HT Tryz.prog 211 [.t n 5 cells, .fn (.func fid) fst cap] h (fun r h'=>r= .v (.int .i64 (idxO (findF p n)))∧h'=h):=by
 refine Wv.HT.by 19 [0,8,7,9,1,5,16,4] [(1000000,h.length)] [.tmp 4] Tryz.func211 rfl rfl rfl ?base ?_
 case base=>rfl
 refine Wv.W ?_
 refine wfor (σ:=Nat) (fun i=>[(0, .t n 5 cells),(1, .fn (.func fid) fst cap),(7, .v (.int .i64 n)),(8, .v (.int .i64 i))]) (fun i=>h)
  (fun i=>i≤n∧ ∀ j,j<i→p j=false) (fun i=>n - i) 0 ⟨Nat.zero_le _,fun j hj=>by omega⟩ rfl Wv.V ?_
 rintro i ⟨hi,hb⟩
 by_cases hlt:i<n
 ·have e1:(i:Int)<n:=by omega
  have hi2:=hel i hlt
  have hlen:5≤(List.drop (i*5) cells).length:=by rw [List.length_drop,hl];omega
  simp (disch:=first|exact Wv.D|fail) only [Wv.B,simprocAttr,hi2]
  refine call_HT (hp i hlt) ?_
  rintro av h' ⟨rfl,rfl⟩
  cases hq:p i with
  | true=>
   have hf:=findF_at hlt hq hb
   simp (disch:=first|exact Wv.D|fail) only [Wv.B,simprocAttr,hq,hf,idxO]
  | false=>
   simp (disch:=first|exact Wv.D|fail) only [Wv.B,simprocAttr,hq]
   refine k_next (i+1) ⟨by omega,fun j hj=>?_⟩ (by omega) rfl Wv.V2
   by_cases e:j=i
   ·subst e;exact hq
   ·exact hb j (by omega)
 ·have hin:i=n:=by omega
  subst hin
  have hf:=findF_none hb
  simp (disch:=first|exact Wv.D|fail) only [Wv.B,simprocAttr,hf,idxO]
theorem xcontf_ht {h:Hp} (n:Nat) (cells:List AV) (ec:Nat→List AV) (hl:cells.length=n*5) (hel: ∀ i,i<n→List.take 5 (List.drop (i*5) cells)=ec i) (p:Nat→Bool) (fid:FuncId) (fst cap:List AV) (hn:n≤140737488351232) (hp: ∀ i,i<n→HT Tryz.prog fid (fst++[.g (ec i)]++cap) h (fun r h'=>r= .v (.bool (p i))∧h'=h)):
  HT Tryz.prog 161 [.t n 5 cells, .fn (.func fid) fst cap] h (fun r h'=>r= .v (.bool (anyN n p))∧h'=h):=by
 refine Wv.HT.by 9 [0,1,4] [(1000000,h.length)] [.tmp 4] Tryz.func161 rfl rfl rfl ?base ?_
 case base=>rfl
 refine Wv.W ?_
 refine call_HT (fst:=[]) (cap:=[]) (xindexf_ht n cells ec hl hel p fid fst cap hn hp) ?_
 rintro av h' ⟨rfl,rfl⟩
 simp (disch:=first|exact Wv.D|fail) only [Wv.B,simprocAttr,idxO_any]
theorem lindexf_ht {h:Hp} (n:Nat) (cells:List AV) (ec:Nat→List AV) (hl:cells.length=n*6) (hel: ∀ i,i<n→List.take 6 (List.drop (i*6) cells)=ec i) (p:Nat→Bool) (fid:FuncId) (fst cap:List AV) (hn:n≤140737488351232) (hp: ∀ i,i<n→HT Tryz.prog fid (fst++[.g (ec i)]++cap) h (fun r h'=>r= .v (.bool (p i))∧h'=h)):
  HT Tryz.prog 156 [.t n 6 cells, .fn (.func fid) fst cap] h (fun r h'=>r= .v (.int .i64 (idxO (findF p n)))∧h'=h):=by
 refine Wv.HT.by 19 [0,8,7,9,1,5,16,4] [(1000000,h.length)] [.tmp 4] Tryz.func156 rfl rfl rfl ?base ?_
 case base=>rfl
 refine Wv.W ?_
 refine wfor (σ:=Nat) (fun i=>[(0, .t n 6 cells),(1, .fn (.func fid) fst cap),(7, .v (.int .i64 n)),(8, .v (.int .i64 i))]) (fun i=>h)
  (fun i=>i≤n∧ ∀ j,j<i→p j=false) (fun i=>n - i) 0 ⟨Nat.zero_le _,fun j hj=>by omega⟩ rfl Wv.V ?_
 rintro i ⟨hi,hb⟩
 by_cases hlt:i<n
 ·have e1:(i:Int)<n:=by omega
  have hi2:=hel i hlt
  have hlen:6≤(List.drop (i*6) cells).length:=by rw [List.length_drop,hl];omega
  simp (disch:=first|exact Wv.D|fail) only [Wv.B,simprocAttr,hi2]
  refine call_HT (hp i hlt) ?_
  rintro av h' ⟨rfl,rfl⟩
  cases hq:p i with
  | true=>
   have hf:=findF_at hlt hq hb
   simp (disch:=first|exact Wv.D|fail) only [Wv.B,simprocAttr,hq,hf,idxO]
  | false=>
   simp (disch:=first|exact Wv.D|fail) only [Wv.B,simprocAttr,hq]
   refine k_next (i+1) ⟨by omega,fun j hj=>?_⟩ (by omega) rfl Wv.V2
   by_cases e:j=i
   ·subst e;exact hq
   ·exact hb j (by omega)
 ·have hin:i=n:=by omega
  subst hin
  have hf:=findF_none hb
  simp (disch:=first|exact Wv.D|fail) only [Wv.B,simprocAttr,hf,idxO]
theorem lcontf_ht {h:Hp} (n:Nat) (cells:List AV) (ec:Nat→List AV) (hl:cells.length=n*6) (hel: ∀ i,i<n→List.take 6 (List.drop (i*6) cells)=ec i) (p:Nat→Bool) (fid:FuncId) (fst cap:List AV) (hn:n≤140737488351232) (hp: ∀ i,i<n→HT Tryz.prog fid (fst++[.g (ec i)]++cap) h (fun r h'=>r= .v (.bool (p i))∧h'=h)):
  HT Tryz.prog 106 [.t n 6 cells, .fn (.func fid) fst cap] h (fun r h'=>r= .v (.bool (anyN n p))∧h'=h):=by
 refine Wv.HT.by 9 [0,1,4] [(1000000,h.length)] [.tmp 4] Tryz.func106 rfl rfl rfl ?base ?_
 case base=>rfl
 refine Wv.W ?_
 refine call_HT (fst:=[]) (cap:=[]) (lindexf_ht n cells ec hl hel p fid fst cap hn hp) ?_
 rintro av h' ⟨rfl,rfl⟩
 simp (disch:=first|exact Wv.D|fail) only [Wv.B,simprocAttr,idxO_any]
theorem scontf_ht {h:Hp} (n:Nat) (f:Nat→ByteArray) (p:Nat→Bool) (fid:FuncId) (fst cap:List AV) (hn:n≤140737488351232) (hp: ∀ i,i<n→HT Tryz.prog fid (fst++[.v (.string (f i))]++cap) h (fun r h'=>r= .v (.bool (p i))∧h'=h)):
  HT Tryz.prog 104 [strsA n f, .fn (.func fid) fst cap] h (fun r h'=>r= .v (.bool (anyN n p))∧h'=h):=by
 unfold strsA
 refine Wv.HT.by 9 [0,1,4] [(1000000,h.length)] [.tmp 4] Tryz.func104 rfl rfl rfl ?base ?_
 case base=>rfl
 refine Wv.W ?_
 refine call_HT (fst:=[]) (cap:=[]) (sindexf_ht n f p fid fst cap hn hp) ?_
 rintro av h' ⟨rfl,rfl⟩
 simp (disch:=first|exact Wv.D|fail) only [Wv.B,simprocAttr,idxO_any]
end
section
open Go.RowKit Wv
def byt (b:ByteArray) (i:Nat):Int:=((b[i]?).map fun c=>(c.toNat:Int)).getD 0
theorem byt_at {b:ByteArray} {i:Nat} (h:i<b.size): ∃ c:UInt8,b[i]? =some c∧(c.toNat:Int)=byt b i:=by
 refine ⟨b[i],getElem?_pos b i h,?_⟩
 unfold byt
 rw [getElem?_pos b i h];rfl
theorem byt_ge (b:ByteArray) (i:Nat):0≤byt b i∧byt b i<256:=by
 unfold byt
 cases b[i]? with
 | none=>exact ⟨Int.le_refl 0,by decide⟩
 | some c=>
  have h:c.toNat<256:=c.toNat_lt
  show 0≤((c.toNat:Nat):Int)∧((c.toNat:Nat):Int)<256
  exact ⟨Int.natCast_nonneg _,Int.ofNat_lt.2 h⟩
theorem bytA_tab (b:ByteArray):bytA b=tab b.size fun i=> .v (.int .u8 (byt b i)):=by
 apply List.ext_getElem
 ·unfold bytA tab
  rw [List.length_map,List.length_map,List.length_range]
  rfl
 ·intro i h1 h2
  have hi:i<b.size:=by simpa [bytA] using h1
  obtain ⟨c,hc,hb⟩:=byt_at hi
  have hc':b.data[i]'hi=c:=by
   rw [getElem?_pos b i hi] at hc
   exact Option.some.inj hc
  simp [bytA,tab, ←hb,hc']
def w4 (i:Nat):ByteArray:=match i with | 0=>⟨#[99,105,114,99,117,105,116]⟩ | 1=>⟨#[105,110,112,117,116]⟩ | 2=>⟨#[108,101,116]⟩ | _=>⟨#[111,117,116,112,117,116]⟩
def w8 (i:Nat):ByteArray:=match i with | 0=>⟨#[114,111,116]⟩ | 1=>⟨#[115,119,97,112]⟩ | 2=>⟨#[109,97,115,107]⟩ | 3=>⟨#[116,97,98,108,101]⟩ | 4=>⟨#[101,113]⟩ | 5=>⟨#[108,101,115,115]⟩ | 6=>⟨#[112,111,119]⟩ | _=>⟨#[115,117,109]⟩
def w16 (i:Nat):ByteArray:=if i<8 then ⟨#[]⟩ else w8 (i - 8)
def wordB (s:ByteArray) (i:Nat):Bool:=letB (byt s i) || (digB (byt s i) || decide (byt s i=95))
def nameB (s:ByteArray):Bool:=!(decide (s=⟨#[]⟩) || (decide (16<s.size) || (!letB (byt s 0) || (anyN 4 (fun i=>decide (s=w4 i)) || anyN 16 (fun i=>decide (s=w16 i)))))) && !anyN s.size fun i=>!wordB s i
theorem und_str:(Tryz.prog.underlying 9).isSome=true:=by kernel_rfl
theorem calls_tc:TC Tryz.prog 151 [] (.g [.v (.string ⟨#[]⟩), .v (.string ⟨#[]⟩), .v (.string ⟨#[]⟩), .v (.string ⟨#[]⟩), .v (.string ⟨#[]⟩), .v (.string ⟨#[]⟩), .v (.string ⟨#[]⟩), .v (.string ⟨#[]⟩), .v (.string ⟨#[114,111,116]⟩), .v (.string ⟨#[115,119,97,112]⟩), .v (.string ⟨#[109,97,115,107]⟩), .v (.string ⟨#[116,97,98,108,101]⟩), .v (.string ⟨#[101,113]⟩), .v (.string ⟨#[108,101,115,115]⟩), .v (.string ⟨#[112,111,119]⟩), .v (.string ⟨#[115,117,109]⟩)]):=by
 refine Wv.TC.by 2 [0] [] [.cell 0 191] Tryz.func151 rfl rfl rfl ?clo ?_
 case clo=>simp only [Wv.BC]
 exact Wv.V
theorem pname_tc (s:ByteArray) (hs:s.size≤140737488351232):TC Tryz.prog 103 [.v (.string s)] (.v (.bool (nameB s))):=by
 refine Wv.TC.by 50 [0,3,29,33,32,34,31,5,48,2] [] [.tmp 2] Tryz.func103 rfl rfl rfl ?clo ?_
 case clo=>simp only [Wv.BC]
 refine Wv.W ?_
 refine call_TC calls_tc rfl Wv.c Wv.c ?_
 have hN:nameB s=(!(decide (s=⟨#[]⟩) || (decide (16<s.size) || (!letB (byt s 0) || (anyN 4 (fun i=>decide (s=w4 i)) || anyN 16 (fun i=>decide (s=w16 i)))))) && !anyN s.size fun i=>!wordB s i):=rfl
 cases h1:decide (s=⟨#[]⟩) with
 | true=>
  rw [h1,Bool.true_or,Bool.not_true,Bool.false_and] at hN
  simp (disch:=first|exact Wv.D|fail) only [Wv.B,simprocAttr,h1,hN]
 | false=>
  cases h2:decide (16<s.size) with
  | true=>
   have h2':(16:Int)<s.size:=by have:=of_decide_eq_true h2;omega
   rw [h1,h2,Bool.false_or,Bool.true_or,Bool.not_true,Bool.false_and] at hN
   simp (disch:=first|exact Wv.D|fail) only [Wv.B,simprocAttr,h1,h2,decide_eq_true h2',hN]
  | false=>
   have h2': ¬ (16:Int)<s.size:=by have:=of_decide_eq_false h2;omega
   have hsz:s.size≠0:=fun e=>of_decide_eq_false h1 (by cases s with | mk d=>simp [ByteArray.size] at e;rw [e])
   obtain ⟨c,hc,hb⟩:=byt_at (b:=s) (i:=0) (by omega)
   have hg:=byt_ge s 0
   simp (disch:=first|exact Wv.D|fail) only [Wv.B,simprocAttr,h1,h2,decide_eq_false h2',hc,hb]
   refine call_TC (pletter_tc (byt s 0) hg.1 hg.2) rfl Wv.c Wv.c ?_
   cases h3:letB (byt s 0) with
   | false=>
    rw [h1,h2,h3,Bool.false_or,Bool.false_or,Bool.not_false,Bool.true_or,Bool.not_true,Bool.false_and] at hN
    simp (disch:=first|exact Wv.D|fail) only [Wv.B,simprocAttr,hN]
   | true=>
    refine Wv.W ?_
    refine call_TC (scontains_tc 4 w4 s (by omega)) rfl (by simp only [Wv.BC,strs_clo]) Wv.c ?_
    cases h4:anyN 4 (fun i=>decide (s=w4 i)) with
    | true=>
     rw [h1,h2,h3,h4,Bool.false_or,Bool.false_or,Bool.not_true,Bool.false_or,Bool.true_or,Bool.not_true,Bool.false_and] at hN
     simp (disch:=first|exact Wv.D|fail) only [Wv.B,simprocAttr,hN]
    | false=>
     refine Wv.W ?_
     refine call_TC (scontains_tc 16 w16 s (by omega)) rfl (by simp only [Wv.BC,strs_clo]) Wv.c ?_
     cases h5:anyN 16 (fun i=>decide (s=w16 i)) with
     | true=>
      rw [h1,h2,h3,h4,h5,Bool.false_or,Bool.false_or,Bool.not_true,Bool.false_or,Bool.false_or,Bool.not_true,Bool.false_and] at hN
      simp (disch:=first|exact Wv.D|fail) only [Wv.B,simprocAttr,hN]
     | false=>
      rw [h1,h2,h3,h4,h5,Bool.false_or,Bool.false_or,Bool.not_true,Bool.false_or,Bool.false_or,Bool.not_false,Bool.true_and] at hN
      clear h1 h2 h3 h4 h5 hc hb hg
      simp (disch:=first|exact Wv.D|fail) only [Wv.B,simprocAttr,Wv.cvX_u8 und_str hs,bytA_tab]
      refine wfor (σ:=Nat) (fun i=>[(0, .v (.string s)),(31, .t s.size 1 (tab s.size fun i=> .v (.int .u8 (byt s i)))),(32, .v (.int .i64 s.size)),(33, .v (.int .i64 i))]) (fun i=>[none,some (.arr 9 1 [.v (.string ⟨#[99,105,114,99,117,105,116]⟩), .v (.string ⟨#[105,110,112,117,116]⟩), .v (.string ⟨#[108,101,116]⟩), .v (.string ⟨#[111,117,116,112,117,116]⟩)] 4)])
       (fun i=>i≤s.size∧ ∀ j,j<i→wordB s j=true) (fun i=>s.size - i) 0 ⟨Nat.zero_le _,fun j hj=>by omega⟩ Wv.V Wv.V ?_
      rintro i ⟨hi,hj⟩
      by_cases hlt:i<s.size
      ·have e1:(i:Int)<s.size:=by omega
       have hg:=byt_ge s i
       refine Wv.W ?_
       refine call_TC (pletter_tc (byt s i) hg.1 hg.2) rfl Wv.c Wv.c ?_
       cases h3:letB (byt s i) with
       | true=>
        refine Wv.W ?_
        refine k_next (i+1) ⟨by omega,fun j q=>?_⟩ (by omega) Wv.V Wv.V2
        by_cases e:j=i
        ·subst e;unfold wordB;rw [h3];rfl
        ·exact hj j (by omega)
       | false=>
        refine Wv.W ?_
        refine call_TC (pdigit_tc (byt s i)) rfl Wv.c Wv.c ?_
        cases h4:digB (byt s i) with
        | true=>
         refine Wv.W ?_
         refine k_next (i+1) ⟨by omega,fun j q=>?_⟩ (by omega) Wv.V Wv.V2
         by_cases e:j=i
         ·subst e;unfold wordB;rw [h3,h4];rfl
         ·exact hj j (by omega)
        | false=>
         cases h5:decide (byt s i=95) with
         | true=>
          simp (disch:=first|exact Wv.D|fail) only [Wv.B,simprocAttr,h5]
          refine k_next (i+1) ⟨by omega,fun j q=>?_⟩ (by omega) Wv.V Wv.V2
          by_cases e:j=i
          ·subst e;unfold wordB;rw [h3,h4,h5];rfl
          ·exact hj j (by omega)
         | false=>
          have:nameB s=false:=by
           rw [hN]
           have:anyN s.size (fun i=>!wordB s i)=true:=by
            unfold anyN
            refine List.any_eq_true.2 ⟨i,List.mem_range.2 hlt,?_⟩
            unfold wordB;rw [h3,h4,h5];rfl
           rw [this];rfl
          simp (disch:=first|exact Wv.D|fail) only [Wv.B,simprocAttr,h5,this]
      ·have hin:i=s.size:=by omega
       subst hin
       have:nameB s=true:=by
        rw [hN]
        have:anyN s.size (fun i=>!wordB s i)=false:=by
         unfold anyN
         refine List.any_eq_false.2 fun i hi=>?_
         rw [hj i (List.mem_range.1 hi)];decide
        rw [this];rfl
       simp (disch:=first|exact Wv.D|fail) only [Wv.B,simprocAttr,this]
end
section
open Go.RowKit Wv
inductive Ex where
 | nil
 | mk (k:Int) (s:ByteArray) (n:Int) (nl:Nat) (li:Nat→Int) (na:Nat) (ar:Nat→Ex)
def tabM (n:Nat) (f:Nat→List AV):List AV:=(List.range n).flatMap f
theorem tabM_succ (n:Nat) (f:Nat→List AV):tabM (n+1) f=tabM n f++f n:=by
 unfold tabM
 rw [List.range_succ,List.flatMap_append]
 simp
theorem tabM_len {m:Nat}: ∀ {n:Nat} {f:Nat→List AV},(∀ i,(f i).length=m)→(tabM n f).length=n*m
 | 0,f,h=>by simp [tabM]
 | n+1,f,h=>by rw [tabM_succ,List.length_append,tabM_len h,h n,Nat.add_mul,Nat.one_mul]
theorem tabM_at {m:Nat}: ∀ {n:Nat} {f:Nat→List AV},(∀ i,(f i).length=m)→ ∀ i,i<n→List.take m (List.drop (i*m) (tabM n f))=f i
 | 0,f,h,i,hi=>by omega
 | n+1,f,h,i,hi=>by
  rw [tabM_succ]
  have hl:=tabM_len (n:=n) h
  by_cases e:i=n
  ·subst e
   rw [←hl,List.drop_left, ←h i,List.take_length]
  ·have hi':i<n:=by omega
   have:i*m+m≤n*m:=by rw [←Nat.succ_mul];exact Nat.mul_le_mul_right _ (by omega)
   rw [List.drop_append_of_le_length (by omega),List.take_append_of_le_length (by rw [List.length_drop];omega)]
   exact tabM_at h i hi'
theorem tabM_drop {m n:Nat} {f:Nat→List AV} (h: ∀ i,(f i).length=m) {i:Nat} (hi:i<n): ∃ r,List.drop (i*m) (tabM n f)=f i++r:=by
 refine ⟨List.drop m (List.drop (i*m) (tabM n f)),?_⟩
 have:=tabM_at h i hi
 rw [←this]
 exact (List.take_append_drop m _).symm
theorem tabM_clo {n:Nat} {f:Nat→List AV} (h: ∀ i,i<n→ ∀ a,a∈f i→Clo a): ∀ a,a∈tabM n f→Clo a:=by
 intro a ha
 unfold tabM at ha
 obtain ⟨i,h1,h2⟩:=List.mem_flatMap.1 ha
 exact h i (List.mem_range.1 h1) a h2
theorem cloA1 {a:AV} (h1:Clo a): ∀ x,x∈[a]→Clo x:=by simp only [Wv.BC];exact h1
def Ex.kind:Ex→Int
 | .nil=>0
 | .mk k .. =>k
def exC:Ex→List AV
 | .nil=>[.v (.int .i64 0), .v (.string ⟨#[]⟩), .v (.int .i64 0), .t 0 1 [], .t 0 5 []]
 | .mk k s n nl li na ar=>[.v (.int .i64 k), .v (.string s), .v (.int .i64 n), .t nl 1 (tab nl fun i=> .v (.int .i64 (li i))), .t na 5 (tabM na fun i=>exC (ar i))]
theorem exC_mk (k:Int) (s:ByteArray) (n:Int) (nl:Nat) (li:Nat→Int) (na:Nat) (ar:Nat→Ex):exC (.mk k s n nl li na ar)=[.v (.int .i64 k), .v (.string s), .v (.int .i64 n), .t nl 1 (tab nl fun i=> .v (.int .i64 (li i))), .t na 5 (tabM na fun i=>exC (ar i))]:=rfl
theorem exC_len (x:Ex):(exC x).length=5:=by cases x<;>rfl
theorem exC_clo: ∀ (x:Ex) a,a∈exC x→Clo a:=by
 intro x
 induction x with
 | nil=>unfold exC;simp only [Wv.BC]
 | mk k s n nl li na ar ih=>
  unfold exC
  have h:=tabM_clo (n:=na) (f:=fun i=>exC (ar i)) fun i _=>ih i
  intro a ha
  simp only [List.mem_cons,List.not_mem_nil,or_false] at ha
  rcases ha with rfl | rfl | rfl | rfl | rfl
  ·simp only [Wv.BC]
  ·simp only [Wv.BC]
  ·simp only [Wv.BC]
  ·simp only [Wv.BC]
  ·simp only [Wv.BC];exact h
theorem exG_clo (x:Ex):Clo (.g (exC x)):=by simp only [Wv.BC];exact exC_clo x
def okE:Ex→Prop
 | .nil=>False
 | .mk k s n nl li na ar=>s.size≤140737488351232∧nl≤140737488351232∧na≤140737488351232∧ ∀ i,i<na→okE (ar i)
theorem ok_mk {x:Ex} (h:okE x): ∃ k s n nl li na ar,x= .mk k s n nl li na ar:=by
 cases x with
 | nil=>exact h.elim
 | mk k s n nl li na ar=>exact ⟨k,s,n,nl,li,na,ar,rfl⟩
def inB (n:Int):Bool:=decide (-4294967295≤n) && decide (n≤4294967295)
def argN (k:Nat):Int:=match k with | 4=>2 | 5=>2 | 6=>1 | 7=>2 | 8=>1 | 9=>1 | 10=>1 | 11=>1 | 12=>2 | 13=>1 | 14=>1 | 15=>1 | _=>0
def numK (k:Nat):Bool:=match k with | 2=>true | 8=>true | 13=>true | 14=>true | _=>false
def lisK (k:Nat):Bool:=match k with | 3=>true | 10=>true | 11=>true | _=>false
def formB:Ex→Bool
 | .nil=>false
 | .mk k s n nl li na ar=>!decide (k<1) && (!decide (15<k) && ((if k=1 then nameB s else decide (s=⟨#[]⟩)) && (decide ((na:Int)=argN k.toNat) && ((numK k.toNat || decide (n=0)) && ((lisK k.toNat || decide ((nl:Int)=0)) && (inB n && (!anyN nl (fun i=>!inB (li i)) && !anyN na fun i=>!formB (ar i))))))))
theorem pinside_tc (n:Int):TC Tryz.prog 158 [.v (.int .i64 n)] (.v (.bool (inB n))):=by
 refine Wv.TC.by 9 [0,2] [] [.tmp 2] Tryz.func158 rfl rfl rfl ?clo ?_
 case clo=>simp only [Wv.BC]
 unfold inB
 by_cases hq: -4294967295≤n
 ·simp (disch:=first|exact Wv.D|fail) only [Wv.B,simprocAttr,decide_eq_true hq]
 ·simp (disch:=first|exact Wv.D|fail) only [Wv.B,simprocAttr,decide_eq_false hq]
theorem pformed1_tc (n:Int):TC Tryz.prog 160 [.v (.int .i64 n)] (.v (.bool (!inB n))):=by
 refine Wv.TC.by 6 [0,2] [] [.tmp 2] Tryz.func160 rfl rfl rfl ?clo ?_
 case clo=>simp only [Wv.BC]
 refine Wv.W ?_
 refine call_TC (pinside_tc n) rfl Wv.c Wv.c ?_
 exact Wv.V
def formL:List AV:= .v (.int .i64 0):: .v (.bool false):: .v (.bool false):: .v (.int .i64 0):: .v (.bool false):: .v (.bool false):: .v (.int .i64 0):: .v (.bool true):: .v (.bool false):: .v (.int .i64 0):: .v (.bool false):: .v (.bool true):: .v (.int .i64 2):: .v (.bool false):: .v (.bool false):: .v (.int .i64 2):: .v (.bool false):: .v (.bool false):: .v (.int .i64 1):: .v (.bool false):: .v (.bool false):: .v (.int .i64 2):: .v (.bool false):: .v (.bool false):: .v (.int .i64 1):: .v (.bool true):: .v (.bool false):: .v (.int .i64 1):: .v (.bool false):: .v (.bool false):: .v (.int .i64 1):: .v (.bool false):: .v (.bool true):: .v (.int .i64 1):: .v (.bool false):: .v (.bool true):: .v (.int .i64 2):: .v (.bool false):: .v (.bool false):: .v (.int .i64 1):: .v (.bool true):: .v (.bool false):: .v (.int .i64 1):: .v (.bool true):: .v (.bool false):: .v (.int .i64 1):: .v (.bool false):: .v (.bool false)::[]
theorem formL_at: ∀ m:Nat,m<16→ ∃ r,List.drop (m*3) formL= .v (.int .i64 (argN m)):: .v (.bool (numK m)):: .v (.bool (lisK m))::r
 | 0,_=>⟨_,rfl⟩ | 1,_=>⟨_,rfl⟩ | 2,_=>⟨_,rfl⟩ | 3,_=>⟨_,rfl⟩ | 4,_=>⟨_,rfl⟩ | 5,_=>⟨_,rfl⟩ | 6,_=>⟨_,rfl⟩ | 7,_=>⟨_,rfl⟩ | 8,_=>⟨_,rfl⟩ | 9,_=>⟨_,rfl⟩ | 10,_=>⟨_,rfl⟩ | 11,_=>⟨_,rfl⟩ | 12,_=>⟨_,rfl⟩ | 13,_=>⟨_,rfl⟩ | 14,_=>⟨_,rfl⟩ | 15,_=>⟨_,rfl⟩
 | n+16,h=>by omega
theorem forms_tc:TC Tryz.prog 157 [] (.g formL):=by
 refine Wv.TC.by 17 [0] [] [.cell 0 200] Tryz.func157 rfl rfl rfl ?clo ?_
 case clo=>unfold formL;simp only [Wv.BC]
 simp (disch:=first|exact Wv.D|fail) only [Wv.B,simprocAttr,formL]
theorem pformed2_tc (x:Ex) (hx:okE x) (b:Bool) (T:TC Tryz.prog 108 [.g (exC x)] (.v (.bool b))):TC Tryz.prog 162 [.g (exC x)] (.v (.bool (!b))):=by
 refine Wv.TC.by 6 [0,1,2] [] [.tmp 2] Tryz.func162 rfl rfl rfl ?clo ?_
 case clo=>simp only [Wv.BC]
 obtain ⟨k,s,n,nl,li,na,ar,rfl⟩:=ok_mk hx
 have hG:=exG_clo (.mk k s n nl li na ar)
 unfold exC at T hG ⊢
 refine Wv.W ?_
 refine call_TC T rfl (cloA1 hG) Wv.c ?_
 exact Wv.V
theorem pformed_tc (x:Ex) (h:okE x):TC Tryz.prog 108 [.g (exC x)] (.v (.bool (formB x))):=by
 induction x with
 | nil=>exact h.elim
 | mk k s n nl li na ar ih=>
 obtain ⟨hs,hnl,hna,hh⟩:=h
 refine Wv.TC.by 73 [0,1,14,3,24,5,4,2] [] [.tmp 2] Tryz.func108 rfl rfl rfl ?clo ?_
 case clo=>simp only [Wv.BC]
 unfold exC
 refine Wv.W ?_
 refine call_TC forms_tc rfl Wv.c (by unfold formL;simp only [Wv.BC]) ?_
 have hN:formB (.mk k s n nl li na ar)=(!decide (k<1) && (!decide (15<k) && ((if k=1 then nameB s else decide (s=⟨#[]⟩)) && (decide ((na:Int)=argN k.toNat) && ((numK k.toNat || decide (n=0)) && ((lisK k.toNat || decide ((nl:Int)=0)) && (inB n && (!anyN nl (fun i=>!inB (li i)) && !anyN na fun i=>!formB (ar i))))))))):=rfl
 by_cases h1:k<1
 ·rw [decide_eq_true h1,Bool.not_true,Bool.false_and] at hN
  simp (disch:=first|exact Wv.D|fail) only [Wv.B,simprocAttr,formL,decide_eq_true h1,hN]
 by_cases h2:15<k
 ·rw [decide_eq_false h1,decide_eq_true h2,Bool.not_true,Bool.false_and,Bool.not_false,Bool.true_and] at hN
  simp (disch:=first|exact Wv.D|fail) only [Wv.B,simprocAttr,formL,decide_eq_false h1,decide_eq_true h2,hN]
 rw [decide_eq_false h1,decide_eq_false h2,Bool.not_false,Bool.true_and,Bool.true_and] at hN
 have hk0:0≤k:=by omega
 obtain ⟨lr,hf⟩:=formL_at k.toNat (by omega)
 unfold formL at hf
 have hz: ∃ b:Bool,(if k=1 then nameB s else decide (s=⟨#[]⟩))=b:=⟨_,rfl⟩
 obtain ⟨b3,h3⟩:=hz
 rw [h3] at hN
 simp (disch:=first|exact Wv.D|fail) only [Wv.B,simprocAttr,formL,decide_eq_false h1,decide_eq_false h2,hf]
 clear hf
 by_cases hk1:k=1
 all_goals first | rw [if_pos hk1] at h3 | rw [if_neg hk1] at h3
 rotate_left
 simp (disch:=first|exact Wv.D|fail) only [Wv.B,simprocAttr,decide_eq_false hk1,h3]
 rotate_left
 simp (disch:=first|exact Wv.D|fail) only [Wv.B,simprocAttr,decide_eq_true hk1]
 refine call_TC (pname_tc s hs) rfl Wv.c Wv.c ?_
 simp (disch:=first|exact Wv.D|fail) only [Wv.B,simprocAttr,h3]
 all_goals
  cases b3 with
  | false=>rw [Bool.false_and] at hN;simp (disch:=first|exact Wv.D|fail) only [Wv.B,simprocAttr,hN]
  | true=>
  rw [Bool.true_and] at hN
  cases h4:decide ((na:Int)=argN k.toNat) with
  | false=>rw [h4,Bool.false_and] at hN;simp (disch:=first|exact Wv.D|fail) only [Wv.B,simprocAttr,h4,hN]
  | true=>
  rw [h4,Bool.true_and] at hN
  cases h56:(numK k.toNat || decide (n=0)) with
  | false=>
   rw [h56,Bool.false_and] at hN
   have h5:=(Bool.or_eq_false_iff.1 h56).1
   have h6:=(Bool.or_eq_false_iff.1 h56).2
   simp (disch:=first|exact Wv.D|fail) only [Wv.B,simprocAttr,h4,h5,h6,hN]
  | true=>
  have e5:(numK k.toNat=true∧(0:Nat)=0)∨(numK k.toNat=false∧decide (n=0)=true):=by
   cases q:numK k.toNat with
   | true=>exact .inl ⟨rfl,rfl⟩
   | false=>rw [q,Bool.false_or] at h56;exact .inr ⟨rfl,h56⟩
  rw [h56,Bool.true_and] at hN
  cases h78:(lisK k.toNat || decide ((nl:Int)=0)) with
  | false=>
   rw [h78,Bool.false_and] at hN
   have h7:=(Bool.or_eq_false_iff.1 h78).1
   have h8:=(Bool.or_eq_false_iff.1 h78).2
   rcases e5 with ⟨h5,h6⟩ | ⟨h5,h6⟩<;>simp (disch:=first|exact Wv.D|fail) only [Wv.B,simprocAttr,h4,h5,h6,h7,h8,hN]
  | true=>
  have e7:(lisK k.toNat=true∧(0:Nat)=0)∨(lisK k.toNat=false∧decide ((nl:Int)=0)=true):=by
   cases q:lisK k.toNat with
   | true=>exact .inl ⟨rfl,rfl⟩
   | false=>rw [q,Bool.false_or] at h78;exact .inr ⟨rfl,h78⟩
  rw [h78,Bool.true_and] at hN
  rcases e5 with ⟨h5,h6⟩ | ⟨h5,h6⟩<;>rcases e7 with ⟨h7,h8⟩ | ⟨h7,h8⟩
  all_goals
   simp (disch:=first|exact Wv.D|fail) only [Wv.B,simprocAttr,h4,h5,h6,h7,h8]
   clear h56 h78 h4
   refine call_TC (pinside_tc n) rfl Wv.c Wv.c ?_
   cases h9:inB n with
   | false=>rw [h9,Bool.false_and] at hN;simp (disch:=first|exact Wv.D|fail) only [Wv.B,simprocAttr,hN]
   | true=>
   rw [h9,Bool.true_and] at hN
   refine Wv.W ?_
   refine call_HT (fst:=[]) (cap:=[]) (zcontf_ht nl li (fun i=>!inB (li i)) _ [] [] hnl fun i hi=>(pformed1_tc (li i)).ht (cloA1 Wv.c) Wv.c _) ?_
   rintro av h' ⟨rfl,rfl⟩
   cases h10:anyN nl (fun i=>!inB (li i)) with
   | true=>rw [h10,Bool.not_true,Bool.false_and] at hN;simp (disch:=first|exact Wv.D|fail) only [Wv.B,simprocAttr,hN]
   | false=>
   rw [h10,Bool.not_false,Bool.true_and] at hN
   refine Wv.W ?_
   refine call_HT (fst:=[]) (cap:=[]) (xcontf_ht na (tabM na fun i=>exC (ar i)) (fun i=>exC (ar i)) (tabM_len fun i=>exC_len _) (tabM_at fun i=>exC_len _) (fun i=>!formB (ar i)) _ [] [] hna fun i hi=>(pformed2_tc (ar i) (hh i hi) _ (ih i (hh i hi))).ht (cloA1 (exG_clo (ar i))) Wv.c _) ?_
   rintro av h' ⟨rfl,rfl⟩
   simp (disch:=first|exact Wv.D|fail) only [Wv.B,simprocAttr,hN]
end
section
open Go.RowKit Wv
theorem tab_snoc {n:Nat} {f:Nat→AV}:tab (n+1) f=tab n f++[f n]:=by unfold tab;rw [List.range_succ,List.map_append];rfl
def accS (b:Nat) (f:Nat→Nat):Nat→Nat
 | 0=>b
 | n+1=>accS b f n+f n
def accX (f:Nat→Nat):Nat→Nat
 | 0=>0
 | n+1=>max (accX f n) (f n)
def accO (b:Bool) (f:Nat→Bool):Nat→Bool
 | 0=>b
 | n+1=>accO b f n || f n
theorem accS_le (b:Nat) (f:Nat→Nat): ∀ {i n:Nat},i≤n→accS b f i≤accS b f n
 | i,0,h=>by
  have:i=0:=by omega
  subst this;exact Nat.le_refl _
 | i,n+1,h=>by
  by_cases e:i=n+1
  ·subst e;exact Nat.le_refl _
  ·exact Nat.le_trans (accS_le b f (by omega)) (Nat.le_add_right _ _)
theorem accS_base (b:Nat) (f:Nat→Nat) (n:Nat):b≤accS b f n:=accS_le b f (i:=0) (Nat.zero_le n)
theorem accS_one (b:Nat) (f:Nat→Nat) {i n:Nat} (h:i<n):accS b f i+f i≤accS b f n:=accS_le b f (i:=i+1) h
theorem accX_le (f g:Nat→Nat) (b:Nat) (h: ∀ i,f i≤g i): ∀ n,accX f n≤accS b g n
 | 0=>Nat.zero_le _
 | n+1=>by
  show max (accX f n) (f n)≤accS b g n+g n
  have:=accX_le f g b h n
  have:=h n
  omega
def cntE:Ex→Nat
 | .nil=>1
 | .mk k s n nl li na ar=>accS 1 (fun i=>cntE (ar i)) na
def depE:Ex→Nat
 | .nil=>1
 | .mk k s n nl li na ar=>accX (fun i=>depE (ar i)) na+1
def lonE:Ex→Bool
 | .nil=>false
 | .mk k s n nl li na ar=>accO (decide (600<(nl:Int))) (fun i=>lonE (ar i)) na
theorem dep_cnt (x:Ex):depE x≤cntE x:=by
 induction x with
 | nil=>exact Nat.le_refl 1
 | mk k s n nl li na ar ih=>
  show accX (fun i=>depE (ar i)) na+1≤accS 1 (fun i=>cntE (ar i)) na
  have:=accX_le (fun i=>depE (ar i)) (fun i=>cntE (ar i)) 0 ih na
  have h2: ∀ n,accS 1 (fun i=>cntE (ar i)) n=accS 0 (fun i=>cntE (ar i)) n+1:=fun n=>by
   induction n with
   | zero=>rfl
   | succ n h=>show accS 1 _ n+_=accS 0 _ n+_+1;rw [h];omega
  rw [h2];omega
theorem psize_tc (x:Ex) (h:okE x) (hc:cntE x≤4611686018427387904):TC Tryz.prog 163 [.g (exC x)] (.tup [.v (.int .i64 (cntE x)), .v (.int .i64 (depE x)), .v (.bool (lonE x))]):=by
 induction x with
 | nil=>exact h.elim
 | mk k s n nl li na ar ih=>
 obtain ⟨hs,hnl,hna,hh⟩:=h
 have hcn:accS 1 (fun i=>cntE (ar i)) na≤4611686018427387904:=hc
 refine Wv.TC.by 42 [0,1,17,16,18,15,6,2,7,3,8,4,9] [(1,5)] [.tmp 2, .tmp 3, .tmp 4] Tryz.func163 rfl rfl rfl ?clo ?_
 case clo=>simp only [Wv.BC]
 unfold exC
 refine Wv.W ?_
 refine wfor (σ:=Nat) (fun i=>[(1, .ptr 0 0),(2, .v (.int .i64 (accS 1 (fun i=>cntE (ar i)) i:Nat))),(3, .v (.int .i64 (accX (fun i=>depE (ar i)) i:Nat))),(4, .v (.bool (accO (decide (600<(nl:Int))) (fun i=>lonE (ar i)) i))),(15, .t na 5 (tabM na fun i=>exC (ar i))),(16, .v (.int .i64 na)),(17, .v (.int .i64 i))])
  (fun i=>[some (.blk [.v (.int .i64 k), .v (.string s), .v (.int .i64 n), .t nl 1 (tab nl fun i=> .v (.int .i64 (li i))), .t na 5 (tabM na fun i=>exC (ar i))])])
  (fun i=>i≤na) (fun i=>na - i) 0 (Nat.zero_le _) Wv.V (by simp (disch:=first|exact Wv.D|fail) only [Wv.B,simprocAttr,accS,accX,accO,Int.natCast_one]) ?_
 rintro i hi
 by_cases hlt:i<na
 ·have e1:(i:Int)<na:=by omega
  have q1:=accS_one 1 (fun i=>cntE (ar i)) hlt
  have q2:=accS_base 1 (fun i=>cntE (ar i)) i
  have q3:=dep_cnt (ar i)
  obtain ⟨r,hd⟩:=tabM_drop (f:=fun i=>exC (ar i)) (fun i=>exC_len (ar i)) hlt
  have T:=ih i (hh i hlt) (by omega)
  have hG:=exG_clo (ar i)
  have hL:=tabM_clo (n:=na) (f:=fun i=>exC (ar i)) fun i _=>exC_clo (ar i)
  revert hd T hG hL
  generalize hf:(tabM na fun i=>exC (ar i))=L
  generalize hc1:cntE (ar i)=c1 at*
  generalize hc2:depE (ar i)=c2 at*
  generalize hc3:lonE (ar i)=c3
  have hoy:=hh i hlt
  generalize ar i=y at hoy ⊢
  obtain ⟨k',s',n',nl',li',na',ar',rfl⟩:=ok_mk hoy
  rw [exC_mk]
  intro hd T hG hL
  simp only [List.cons_append,List.nil_append] at hd
  simp (disch:=first|exact Wv.D|fail) only [Wv.B,simprocAttr,hd]
  refine call_TC T rfl (cloA1 hG) Wv.c ?_
  refine Wv.W ?_
  have hmx:(if (c2:Int)>((accX (fun i=>depE (ar i)) i:Nat):Int) then (c2:Int) else ((accX (fun i=>depE (ar i)) i:Nat):Int))=((accX (fun i=>depE (ar i)) (i+1):Nat):Int):=by
   show _=((max (accX (fun i=>depE (ar i)) i) (depE (ar i)):Nat):Int)
   rw [hc2]
   split<;>omega
  have hsx:((accS 1 (fun i=>cntE (ar i)) i:Nat):Int)+c1=((accS 1 (fun i=>cntE (ar i)) (i+1):Nat):Int):=by
   show _=((accS 1 (fun i=>cntE (ar i)) i+cntE (ar i):Nat):Int)
   rw [hc1];omega
  have hox:accO (decide (600<(nl:Int))) (fun i=>lonE (ar i)) (i+1)=(accO (decide (600<(nl:Int))) (fun i=>lonE (ar i)) i || c3):=by
   show (_ || lonE (ar i))=_
   rw [hc3]
  cases ho:accO (decide (600<(nl:Int))) (fun i=>lonE (ar i)) i with
  | true=>
   rw [ho,Bool.true_or] at hox
   simp (disch:=first|exact Wv.D|fail) only [Wv.B,simprocAttr,hmx,hsx]
   refine Wv.k_cut (i+1) 1 (by first | decide | exact Nat.le_of_ble_eq_true rfl) (by omega) (by omega) (by simp (disch:=first|exact Wv.D|fail) only [Wv.B,simprocAttr,tab_snoc,hox]) (by simp (disch:=first|exact Wv.D|fail) only [Wv.B,simprocAttr,Int.natCast_add,Int.natCast_one,hox]) (by simp only [Wv.BL, ↓reduceIte,Nat.reduceLeDiff,hL]<;>omega) (by simp only [Wv.BL, ↓reduceIte,Nat.reduceLeDiff,hL]<;>omega)
  | false=>
   rw [ho,Bool.false_or] at hox
   simp (disch:=first|exact Wv.D|fail) only [Wv.B,simprocAttr,hmx,hsx]
   refine Wv.k_cut (i+1) 1 (by first | decide | exact Nat.le_of_ble_eq_true rfl) (by omega) (by omega) (by simp (disch:=first|exact Wv.D|fail) only [Wv.B,simprocAttr,tab_snoc,hox]) (by simp (disch:=first|exact Wv.D|fail) only [Wv.B,simprocAttr,Int.natCast_add,Int.natCast_one,hox]) (by simp only [Wv.BL, ↓reduceIte,Nat.reduceLeDiff,hL]<;>omega) (by simp only [Wv.BL, ↓reduceIte,Nat.reduceLeDiff,hL]<;>omega)
 ·have hin:i=na:=by omega
  subst hin
  have h1:cntE (.mk k s n nl li i ar)=accS 1 (fun i=>cntE (ar i)) i:=rfl
  have h2:((depE (.mk k s n nl li i ar):Nat):Int)=((accX (fun i=>depE (ar i)) i:Nat):Int)+1:=by
   show ((accX (fun i=>depE (ar i)) i+1:Nat):Int)=_
   omega
  have h3:lonE (.mk k s n nl li i ar)=accO (decide (600<(nl:Int))) (fun i=>lonE (ar i)) i:=rfl
  have h4:=dep_cnt (.mk k s n nl li i ar)
  simp (disch:=first|exact Wv.D|fail) only [Wv.B,simprocAttr,h1,h2,h3]
end
section
open Go.RowKit Wv
structure Ci where
 name:ByteArray
 ni:Nat
 fi:Nat→ByteArray
 nl:Nat
 ln:Nat→ByteArray
 le:Nat→Ex
 no:Nat
 fo:Nat→ByteArray
def letC (s:ByteArray) (x:Ex):List AV:= .v (.string s)::exC x
theorem letC_len (s:ByteArray) (x:Ex):(letC s x).length=6:=by cases x<;>rfl
theorem letC_clo (s:ByteArray) (x:Ex): ∀ a,a∈letC s x→Clo a:=by
 intro a ha
 rcases List.mem_cons.1 ha with rfl | h
 ·simp only [Wv.BC]
 ·exact exC_clo x a h
def Ci.lets (c:Ci):List AV:=tabM c.nl fun i=>letC (c.ln i) (c.le i)
def ciC (c:Ci):List AV:=[.v (.string c.name),strsA c.ni c.fi, .t c.nl 6 c.lets,strsA c.no c.fo]
theorem lets_clo (c:Ci): ∀ a,a∈c.lets→Clo a:=tabM_clo fun i _=>letC_clo _ _
theorem lets_len (c:Ci):c.lets.length=c.nl*6:=tabM_len fun i=>letC_len _ _
theorem ciC_clo (c:Ci): ∀ a,a∈ciC c→Clo a:=by
 unfold ciC
 simp only [Wv.BC,strs_clo]
 exact lets_clo c
theorem ciG_clo (c:Ci):Clo (.g (ciC c)):=by simp only [Wv.BC];exact ciC_clo c
structure okC (c:Ci):Prop where
 name:c.name.size≤140737488351232
 ni:c.ni≤140737488351232
 nl:c.nl≤140737488351232
 no:c.no≤140737488351232
 fi: ∀ i,i<c.ni→(c.fi i).size≤140737488351232
 fo: ∀ i,i<c.no→(c.fo i).size≤140737488351232
 ln: ∀ i,i<c.nl→(c.ln i).size≤140737488351232
 le: ∀ i,i<c.nl→okE (c.le i)∧cntE (c.le i)≤4611686018427387904
def Ci.sum (c:Ci) (i:Nat):Nat:=accS 0 (fun i=>cntE (c.le i)) i
def Ci.big (c:Ci) (i:Nat):Bool:=decide (400<((c.sum (i+1):Nat):Int)) || (decide (40<((depE (c.le i):Nat):Int)) || lonE (c.le i))
def smallB (c:Ci):Bool:=!anyN c.nl c.big
def fewB (c:Ci):Bool:=decide ((c.ni:Int)≤8) && (decide ((c.nl:Int)≤60) && decide ((c.no:Int)≤8))
def checkI (c:Ci):Int:=
 if (!nameB c.name || (anyN c.ni (fun i=>!nameB (c.fi i)) || (anyN c.no (fun i=>!nameB (c.fo i)) || (decide ((c.no:Int)=0) || !fewB c))))=true then 2
 else if anyN c.nl (fun i=>!nameB (c.ln i) || !formB (c.le i))=true then 2 else if smallB c=true then 0 else 3
theorem psmall_tc (c:Ci) (h:okC c):TC Tryz.prog 109 [.g (ciC c)] (.v (.bool (smallB c))):=by
 refine Wv.TC.by 36 [0,1,12,11,13,10,5,3,6,7,8,34,2] [] [.tmp 2] Tryz.func109 rfl rfl rfl ?clo ?_
 case clo=>simp only [Wv.BC]
 unfold ciC strsA
 refine Wv.W ?_
 refine wfor (σ:=Nat) (fun i=>[(1, .ptr 0 0),(3, .v (.int .i64 (c.sum i:Nat))),(10, .t c.nl 6 c.lets),(11, .v (.int .i64 c.nl)),(12, .v (.int .i64 i))])
  (fun i=>[some (.blk [.v (.string c.name), .t c.ni 1 (tab c.ni fun i=> .v (.string (c.fi i))), .t c.nl 6 c.lets, .t c.no 1 (tab c.no fun i=> .v (.string (c.fo i)))])])
  (fun i=>i≤c.nl∧((c.sum i:Nat):Int)≤400∧ ∀ j,j<i→c.big j=false) (fun i=>c.nl - i) 0 ⟨Nat.zero_le _,by show ((0:Nat):Int)≤400;omega,fun j hj=>by omega⟩ Wv.V (by simp (disch:=first|exact Wv.D|fail) only [Wv.B,simprocAttr,Ci.sum,accS]) ?_
 rintro i ⟨hi,hsum,hb⟩
 by_cases hlt:i<c.nl
 ·have e1:(i:Int)<c.nl:=by omega
  have hnl:=h.nl
  have hL:=lets_clo c
  obtain ⟨r,hd⟩:=tabM_drop (f:=fun i=>letC (c.ln i) (c.le i)) (fun i=>letC_len _ _) hlt
  have T:=psize_tc (c.le i) (h.le i hlt).1 (h.le i hlt).2
  have hc1':=(h.le i hlt).2
  have hG:=exG_clo (c.le i)
  have hbig:c.big i=(decide (400<((c.sum (i+1):Nat):Int)) || (decide (40<((depE (c.le i):Nat):Int)) || lonE (c.le i))):=rfl
  have hs1:((c.sum (i+1):Nat):Int)=((c.sum i:Nat):Int)+((cntE (c.le i):Nat):Int):=by
   show ((accS 0 (fun i=>cntE (c.le i)) i+cntE (c.le i):Nat):Int)=_
   exact Int.natCast_add _ _
  change List.drop (i*6) c.lets=letC (c.ln i) (c.le i)++r at hd
  generalize hle:c.le i=x at hd T hc1' hG hbig hs1
  generalize c.lets=L at*
  generalize cntE x=c1 at*
  generalize depE x=c2 at*
  generalize lonE x=c3 at*
  have hoy:=(h.le i hlt).1
  rw [hle] at hoy
  obtain ⟨k',s',n',nl',li',na',ar',rfl⟩:=ok_mk hoy
  unfold letC at hd
  rw [exC_mk] at hd T hG
  simp only [List.cons_append,List.nil_append] at hd
  simp (disch:=first|exact Wv.D|fail) only [Wv.B,simprocAttr,hd]
  refine call_TC T rfl (cloA1 hG) Wv.c ?_
  refine Wv.W ?_
  have hbad:c.big i=true→smallB c=false:=fun hq=>by
   unfold smallB
   have:anyN c.nl c.big=true:=by
    unfold anyN
    exact List.any_eq_true.2 ⟨i,List.mem_range.2 hlt,hq⟩
   rw [this];rfl
  cases d1:decide (400<((c.sum i:Nat):Int)+(c1:Int)) with
  | true=>
   have hsm:=hbad (by rw [hbig,hs1,d1];rfl)
   simp (disch:=first|exact Wv.D|fail) only [Wv.B,simprocAttr,d1,hsm]
  | false=>
  cases d2:decide (40<(c2:Int)) with
  | true=>
   have hsm:=hbad (by rw [hbig,hs1,d1,d2];rfl)
   simp (disch:=first|exact Wv.D|fail) only [Wv.B,simprocAttr,d1,d2,hsm]
  | false=>
  cases c3 with
  | true=>
   have hsm:=hbad (by rw [hbig,hs1,d1,d2];rfl)
   simp (disch:=first|exact Wv.D|fail) only [Wv.B,simprocAttr,d1,d2,hsm]
  | false=>
   have hbf:c.big i=false:=by rw [hbig,hs1,d1,d2];rfl
   have hsm1:=of_decide_eq_false d1
   simp (disch:=first|exact Wv.D|fail) only [Wv.B,simprocAttr,d1,d2]
   refine Wv.k_cut (i+1) 1 (by first | decide | exact Nat.le_of_ble_eq_true rfl) (⟨by omega,by omega,fun j hj=>by by_cases e:j=i;exact e▸hbf;exact hb j (by omega)⟩) (by omega) (by simp (disch:=first|exact Wv.D|fail) only [Wv.B,simprocAttr,tab_snoc,hs1]) (by simp (disch:=first|exact Wv.D|fail) only [Wv.B,simprocAttr,Int.natCast_add,Int.natCast_one,hs1]) (by simp only [Wv.BL, ↓reduceIte,Nat.reduceLeDiff,hL]<;>omega) (by simp only [Wv.BL, ↓reduceIte,Nat.reduceLeDiff,hL]<;>omega)
 ·have hin:i=c.nl:=by omega
  have:smallB c=true:=by
   unfold smallB
   have:anyN c.nl c.big=false:=by
    unfold anyN
    refine List.any_eq_false.2 fun j hj=>?_
    rw [hb j (by have:=List.mem_range.1 hj;omega)];decide
   rw [this];rfl
  simp (disch:=first|exact Wv.D|fail) only [Wv.B,simprocAttr,this,hin]
theorem pfew_tc (c:Ci):TC Tryz.prog 105 [.g (ciC c)] (.v (.bool (fewB c))):=by
 refine Wv.TC.by 19 [0,1,2] [] [.tmp 2] Tryz.func105 rfl rfl rfl ?clo ?_
 case clo=>simp only [Wv.BC]
 unfold ciC strsA
 have hN:fewB c=(decide ((c.ni:Int)≤8) && (decide ((c.nl:Int)≤60) && decide ((c.no:Int)≤8))):=rfl
 cases h1:decide ((c.ni:Int)≤8) with
 | false=>rw [h1,Bool.false_and] at hN;simp (disch:=first|exact Wv.D|fail) only [Wv.B,simprocAttr,h1,hN]
 | true=>
 cases h2:decide ((c.nl:Int)≤60) with
 | false=>rw [h1,h2,Bool.false_and,Bool.and_false] at hN;simp (disch:=first|exact Wv.D|fail) only [Wv.B,simprocAttr,h1,h2,hN]
 | true=>rw [h1,h2,Bool.true_and,Bool.true_and] at hN;simp (disch:=first|exact Wv.D|fail) only [Wv.B,simprocAttr,h1,h2,hN]
theorem pbad_tc (s:ByteArray) (hs:s.size≤140737488351232):TC Tryz.prog 102 [.v (.string s)] (.v (.bool (!nameB s))):=by
 refine Wv.TC.by 6 [0,2] [] [.tmp 2] Tryz.func102 rfl rfl rfl ?clo ?_
 case clo=>simp only [Wv.BC]
 refine Wv.W ?_
 refine call_TC (pname_tc s hs) rfl Wv.c Wv.c ?_
 exact Wv.V
theorem HT.rd {P:Program} {f:FuncId} {args:List AV} {h:Hp} {res:AV} (T:HT P f args h fun r h'=>r=res∧h'.take h.length=h) (hr:lo h.length res) (hh:loH h.length h):HT P f args h fun r h'=>r=res∧h'=h:=
 (RD.of (R:=fun r=>r=res) (p:=fun _=>False) (T.toP _) (fun r q=>q▸hr) (fun r q=>q.elim) hh).toT fun _ _ q=>q.1
theorem pbadl_ht {C:List AV} (hC: ∀ a,a∈C→Clo a) (s:ByteArray) (x:Ex) (hs:s.size≤140737488351232) (hx:okE x):HT Tryz.prog 107 [.g (letC s x), .ptr 1 0] [some (.blk C),some (.blk [.fn (.func 102) [] []])] (fun r h'=>r= .v (.bool (!nameB s || !formB x))∧h'=[some (.blk C),some (.blk [.fn (.func 102) [] []])]):=by
 have T:=pformed_tc x hx
 have hG:=exG_clo x
 generalize formB x=b at*
 obtain ⟨k',s',n',nl',li',na',ar',rfl⟩:=ok_mk hx
 unfold letC
 rw [exC_mk] at*
 refine HT.rd ?_ (by simp only [Wv.BL, ↓reduceIte,Nat.reduceLeDiff]) (by simp only [Wv.BL, ↓reduceIte,Nat.reduceLeDiff];exact fun a ha=> .clo (hC a ha))
 refine Wv.HT.by 14 [0,1,2,3] [(1000000,2)] [.tmp 3] Tryz.func107 rfl rfl rfl ?base ?_
 case base=>rfl
 refine Wv.W ?_
 refine call_TC (pbad_tc s hs) rfl Wv.c Wv.c ?_
 cases h1:nameB s with
 | false=>simp (disch:=first|exact Wv.D|fail) only [Wv.B,simprocAttr,Bool.true_or]
 | true=>
  refine Wv.W ?_
  refine call_TC T rfl (cloA1 hG) Wv.c ?_
  simp (disch:=first|exact Wv.D|fail) only [Wv.B,simprocAttr,Bool.false_or]
theorem pcheckC_tc (c:Ci) (h:okC c):TC Tryz.prog 61 [.g (ciC c)] (.v (.int .i64 (checkI c))):=by
 have hcl:=ciG_clo c
 have hll:=lets_len c
 have hla: ∀ i,i<c.nl→List.take 6 (List.drop (i*6) c.lets)=letC (c.ln i) (c.le i):=tabM_at fun i=>letC_len _ _
 have Tf:=pfew_tc c
 have Ts:=psmall_tc c h
 have hN:checkI c=if (!nameB c.name || (anyN c.ni (fun i=>!nameB (c.fi i)) || (anyN c.no (fun i=>!nameB (c.fo i)) || (decide ((c.no:Int)=0) || !fewB c))))=true then 2
  else if anyN c.nl (fun i=>!nameB (c.ln i) || !formB (c.le i))=true then 2 else if smallB c=true then 0 else 3:=rfl
 unfold ciC strsA at Tf Ts hcl ⊢
 refine Wv.TC.by 38 [0,3,1,30,34,37,2] [] [.tmp 2] Tryz.func61 rfl rfl rfl ?clo ?_
 case clo=>simp only [Wv.BC]
 refine Wv.W ?_
 refine call_TC (pbad_tc c.name h.name) rfl Wv.c Wv.c ?_
 cases h1:nameB c.name with
 | false=>rw [h1] at hN;simp only [Bool.not_false,Bool.true_or,if_true] at hN;simp (disch:=first|exact Wv.D|fail) only [Wv.B,simprocAttr,hN]
 | true=>
 refine Wv.W ?_
 refine call_HT (fst:=[]) (cap:=[]) (scontf_ht c.ni c.fi (fun i=>!nameB (c.fi i)) _ [] [] h.ni fun i hi=>(pbad_tc (c.fi i) (h.fi i hi)).ht (cloA1 Wv.c) Wv.c _) ?_
 rintro av h' ⟨rfl,rfl⟩
 cases h2:anyN c.ni (fun i=>!nameB (c.fi i)) with
 | true=>rw [h1,h2] at hN;simp only [Bool.not_true,Bool.false_or,Bool.true_or,if_true] at hN;simp (disch:=first|exact Wv.D|fail) only [Wv.B,simprocAttr,hN]
 | false=>
 refine Wv.W ?_
 refine call_HT (fst:=[]) (cap:=[]) (scontf_ht c.no c.fo (fun i=>!nameB (c.fo i)) _ [] [] h.no fun i hi=>(pbad_tc (c.fo i) (h.fo i hi)).ht (cloA1 Wv.c) Wv.c _) ?_
 rintro av h' ⟨rfl,rfl⟩
 cases h3:anyN c.no (fun i=>!nameB (c.fo i)) with
 | true=>rw [h1,h2,h3] at hN;simp only [Bool.not_true,Bool.false_or,Bool.true_or,if_true] at hN;simp (disch:=first|exact Wv.D|fail) only [Wv.B,simprocAttr,hN]
 | false=>
 cases h4:decide ((c.no:Int)=0) with
 | true=>rw [h1,h2,h3,h4] at hN;simp only [Bool.not_true,Bool.false_or,Bool.true_or,if_true] at hN;simp (disch:=first|exact Wv.D|fail) only [Wv.B,simprocAttr,h4,hN]
 | false=>
 simp (disch:=first|exact Wv.D|fail) only [Wv.B,simprocAttr,h4]
 refine call_TC Tf rfl (cloA1 hcl) Wv.c ?_
 cases h5:fewB c with
 | false=>rw [h1,h2,h3,h4,h5] at hN;simp only [Bool.not_true,Bool.not_false,Bool.false_or,Bool.true_or,if_true] at hN;simp (disch:=first|exact Wv.D|fail) only [Wv.B,simprocAttr,hN]
 | true=>
 rw [h1,h2,h3,h4,h5] at hN;simp only [Bool.not_true,Bool.not_false,Bool.false_or,Bool.true_or,if_true,Bool.false_eq_true,if_false] at hN
 refine Wv.W ?_
 refine call_HT (fst:=[]) (cap:=[]) (lcontf_ht c.nl c.lets (fun i=>letC (c.ln i) (c.le i)) hll hla (fun i=>!nameB (c.ln i) || !formB (c.le i)) _ [] [.ptr 1 0] h.nl fun i hi=>pbadl_ht (by simp only [Wv.BC];exact lets_clo c) (c.ln i) (c.le i) (h.ln i hi) (h.le i hi).1) ?_
 rintro av h' ⟨rfl,rfl⟩
 cases h6:anyN c.nl (fun i=>!nameB (c.ln i) || !formB (c.le i)) with
 | true=>rw [h6] at hN;simp only [if_true] at hN;simp (disch:=first|exact Wv.D|fail) only [Wv.B,simprocAttr,hN]
 | false=>
 rw [h6] at hN;simp only [Bool.false_eq_true,if_false] at hN
 refine Wv.W ?_
 refine call_TC Ts rfl (cloA1 hcl) Wv.c ?_
 cases h7:smallB c with
 | true=>rw [h7] at hN;simp only [if_true] at hN;simp (disch:=first|exact Wv.D|fail) only [Wv.B,simprocAttr,hN]
 | false=>rw [h7] at hN;simp only [Bool.false_eq_true,if_false] at hN;simp (disch:=first|exact Wv.D|fail) only [Wv.B,simprocAttr,hN]
end
section
open Go.RowKit Wv
def accP (f:Nat→Int→Int) (l:Int):Nat→Int
 | 0=>l
 | i+1=>if accP f l i<0 then accP f l i else f i (accP f l i)
theorem accP_stop {f : Nat → Int → Int} {l : Int} {i : Nat} (h : accP f l i < 0) : ∀ {n : Nat}, i ≤ n → accP f l n = accP f l i
  | 0, q => by have : i = 0 := by omega
               subst this; rfl
  | n + 1, q => by
    by_cases e : i = n + 1
    · subst e; rfl
    · have ih := accP_stop h (n := n) (by omega)
      show (if accP f l n < 0 then accP f l n else f n (accP f l n)) = _
      rw [ih, if_pos h]
def partE:Ex→Int→Int
 | .nil,l=>l
 | .mk k s n nl li na ar,l=>accP (fun i x=>partE (ar i) x) (l - 1 - nl - s.size) na
theorem partE_mk (k:Int) (s:ByteArray) (n:Int) (nl:Nat) (li:Nat→Int) (na:Nat) (ar:Nat→Ex) (l:Int):partE (.mk k s n nl li na ar) l=accP (fun i x=>partE (ar i) x) (l - 1 - nl - s.size) na:=rfl
theorem accP_le' {f:Nat→Int→Int} {B:Int} {l:Int} (hl:l≤B) (hl': -1000000000000000≤l): ∀ n,(∀ i,i<n→ ∀ x,0≤x→x≤B→f i x≤B∧ -1000000000000000≤f i x)→accP f l n≤B∧ -1000000000000000≤accP f l n
 | 0,_=>⟨hl,hl'⟩
 | n+1,hf=>by
  have ih:=accP_le' hl hl' n fun i hi=>hf i (by omega)
  show (if accP f l n<0 then accP f l n else f n (accP f l n))≤B∧ -1000000000000000≤(if accP f l n<0 then accP f l n else f n (accP f l n))
  by_cases h:accP f l n<0
  ·rw [if_pos h];exact ih
  ·rw [if_neg h];exact hf n (by omega) _ (by omega) ih.1
theorem partE_le: ∀ (e:Ex),okE e→ ∀ (l B:Int), -150000000000000≤l→l≤B→0≤B→B≤1000000→partE e l≤B∧ -1000000000000000≤partE e l:=by
 intro e
 induction e with
 | nil=>intro h;exact h.elim
 | mk k s n nl li na ar ih=>
  rintro ⟨h1,h2,h3,h4⟩ l B h5 h6 h8 h7
  rw [partE_mk]
  exact accP_le' (by omega) (by omega) na fun i hi x q1 q2=>ih i (h4 i hi) x B (by omega) q2 h8 h7
theorem partE_cnt: ∀ (e:Ex),okE e→ ∀ (l:Int),0≤partE e l→(cntE e:Int)≤l - partE e l:=by
 intro e
 induction e with
 | nil=>intro h;exact h.elim
 | mk k s n nl li na ar ih=>
  rintro ⟨h1,h2,h3,h4⟩ l h
  rw [partE_mk] at h ⊢
  have key: ∀ m,m≤na→0≤accP (fun i x=>partE (ar i) x) (l - 1 - nl - s.size) m→(accS 1 (fun i=>cntE (ar i)) m:Int)≤1+(l - 1 - nl - s.size) - accP (fun i x=>partE (ar i) x) (l - 1 - nl - s.size) m:=by
   intro m
   induction m with
   | zero=>intro _ _;show ((1:Nat):Int)≤1+(l - 1 - nl - s.size) - (l - 1 - nl - s.size);omega
   | succ m ihm=>
    intro hm hq
    have e1:accP (fun i x=>partE (ar i) x) (l - 1 - nl - s.size) (m+1)=if accP (fun i x=>partE (ar i) x) (l - 1 - nl - s.size) m<0 then accP (fun i x=>partE (ar i) x) (l - 1 - nl - s.size) m else partE (ar m) (accP (fun i x=>partE (ar i) x) (l - 1 - nl - s.size) m):=rfl
    by_cases hn:accP (fun i x=>partE (ar i) x) (l - 1 - nl - s.size) m<0
    ·rw [e1,if_pos hn] at hq;omega
    ·rw [e1,if_neg hn] at hq ⊢
     have g1:=ihm (by omega) (by omega)
     have g2:=ih m (h4 m (by omega)) _ hq
     have e2:accS 1 (fun i=>cntE (ar i)) (m+1)=accS 1 (fun i=>cntE (ar i)) m+cntE (ar m):=rfl
     rw [e2,Int.natCast_add]
     omega
  have hk:=key na (Nat.le_refl _) h
  have e3:cntE (.mk k s n nl li na ar)=accS 1 (fun i=>cntE (ar i)) na:=rfl
  rw [e3]
  omega
theorem clB2 {a b:AV} (h1:Clo a) (h2:Clo b): ∀ x,x∈[a,b]→Clo x:=by simp only [Wv.BC];exact ⟨h1,h2⟩
theorem any_at {n i:Nat} {p:Nat→Bool} (hi:i<n) (h:p i=true):anyN n p=true:=by
 unfold anyN;exact List.any_eq_true.2 ⟨i,List.mem_range.2 hi,h⟩
theorem any_none {n:Nat} {p:Nat→Bool} (h: ∀ i,i<n→p i=false):anyN n p=false:=by
 unfold anyN;exact List.any_eq_false.2 fun i hi=>by rw [h i (List.mem_range.1 hi)];exact Bool.noConfusion
def sumB (f:Nat→ByteArray):Nat→Nat
 | 0=>0
 | i+1=>sumB f i+(f i).size+1
def longB (n:Nat) (f:Nat→ByteArray) (most:Int):Bool:=anyN n fun i=>decide (most - sumB f i≤((f i).size:Int))
theorem sumB_succ (f:Nat→ByteArray) (i:Nat):sumB f (i+1)=sumB f i+(f i).size+1:=rfl
theorem lLong_tc (n:Nat) (f:Nat→ByteArray) (most:Int) (hn:n≤140737488351232) (h0: -1000000≤most) (h1:most≤1000000):TC Tryz.prog 56 [strsA n f, .v (.int .i64 most)] (.v (.bool (longB n f most))):=by
 unfold strsA
 refine Wv.TC.by 27 [5,0,9,1,18,4] [] [.tmp 4] Tryz.func56 rfl rfl rfl ?clo ?_
 case clo=>simp only [Wv.BC]
 refine Wv.W ?_
 refine wfor (σ:=Nat) (fun i=>[(0, .t n 1 (tab n fun i=> .v (.string (f i)))),(1, .v (.int .i64 (most - sumB f i))),(5, .v (.int .i64 i))]) (fun i=>[]) (fun i=>i≤n∧(sumB f i:Int)≤2000000∧ ∀ j,j<i→decide (most - sumB f j≤((f j).size:Int))=false) (fun i=>n - i) 0 ⟨Nat.zero_le _,by show ((0:Nat):Int)≤_;omega,fun j hj=>by omega⟩ Wv.V (by simp (disch:=first|exact Wv.D|fail) only [Wv.B,simprocAttr,sumB,Int.natCast_zero,Int.sub_zero]) ?_
 rintro i ⟨hi,hs,hb⟩
 by_cases hlt:i<n
 ·have e1:(i:Int)<(n:Int):=by omega
  by_cases hq:most - sumB f i≤((f i).size:Int)
  ·have hL:longB n f most=true:=any_at hlt (decide_eq_true hq)
   simp (disch:=first|exact Wv.D|fail) only [Wv.B,simprocAttr,decide_eq_true e1,decide_eq_true hq,hL]
  ·have hss:=sumB_succ f i
   have e5:most - (sumB f i:Int) - ((f i).size:Int) - 1=most - ((sumB f (i+1):Nat):Int):=by rw [hss];omega
   simp (disch:=first|exact Wv.D|fail) only [Wv.B,simprocAttr,decide_eq_true e1,decide_eq_false hq]
   refine k_next (i+1) ⟨by omega,by omega,fun j hj=>?_⟩ (by omega) rfl (by simp (disch:=first|exact Wv.D|fail) only [Wv.B,simprocAttr,e5,Int.natCast_add,Int.natCast_one])
   by_cases e:j=i
   ·subst e;exact decide_eq_false hq
   ·exact hb j (by omega)
 ·obtain rfl:n=i:=by omega
  have hL:longB n f most=false:=any_none hb
  simp (disch:=first|exact Wv.D|fail) only [Wv.B,simprocAttr,Int.lt_irrefl,decide_false,hL]
theorem lparts_tc (e:Ex) (h:okE e) (l:Int) (h0: -150000000000000≤l) (h1:l≤1000000):TC Tryz.prog 57 [.g (exC e), .v (.int .i64 l)] (.v (.int .i64 (partE e l))):=by
 induction e generalizing l with
 | nil=>exact h.elim
 | mk k s n nl li na ar ih=>
 have hle:=fun m=>partE_le (.mk k s n nl li na ar) h l 1000000 h0 h1 (by omega) (by omega)
 obtain ⟨hs,hnl,hna,hh⟩:=h
 have hacc: ∀ m,m≤na→accP (fun i x=>partE (ar i) x) (l - 1 - nl - s.size) m≤1000000∧ -1000000000000000≤accP (fun i x=>partE (ar i) x) (l - 1 - nl - s.size) m:=fun m hm=>
  accP_le' (by omega) (by omega) m fun i hi x q1 q2=>partE_le (ar i) (hh i (by omega)) x 1000000 (by omega) q2 (by omega) (by omega)
 rw [partE_mk]
 clear hle
 refine Wv.TC.by 35 [0,1,2,5,24,4] [] [.tmp 4] Tryz.func57 rfl rfl rfl ?clo ?_
 case clo=>simp only [Wv.BC]
 unfold exC
 refine Wv.W ?_
 refine wfor (σ:=Nat) (fun i=>[(1, .v (.int .i64 (accP (fun i x=>partE (ar i) x) (l - 1 - nl - s.size) i))),(2, .ptr 0 0),(5, .v (.int .i64 i))])
  (fun i=>[some (.blk [.v (.int .i64 k), .v (.string s), .v (.int .i64 n), .t nl 1 (tab nl fun i=> .v (.int .i64 (li i))), .t na 5 (tabM na fun i=>exC (ar i))])])
  (fun i=>i≤na) (fun i=>na - i) 0 (Nat.zero_le _) Wv.V (by simp (disch:=first|exact Wv.D|fail) only [Wv.B,simprocAttr,accP]) ?_
 intro i hi
 have hai:=hacc i hi
 have hst:accP (fun i x=>partE (ar i) x) (l - 1 - nl - s.size) i<0→accP (fun i x=>partE (ar i) x) (l - 1 - nl - s.size) na=accP (fun i x=>partE (ar i) x) (l - 1 - nl - s.size) i:=fun q=>accP_stop q hi
 have hsu:accP (fun i x=>partE (ar i) x) (l - 1 - nl - s.size) (i+1)=if accP (fun i x=>partE (ar i) x) (l - 1 - nl - s.size) i<0 then accP (fun i x=>partE (ar i) x) (l - 1 - nl - s.size) i else partE (ar i) (accP (fun i x=>partE (ar i) x) (l - 1 - nl - s.size) i):=rfl
 by_cases hlt:i<na
 ·have e1:(i:Int)<na:=by omega
  generalize hA:accP (fun i x=>partE (ar i) x) (l - 1 - nl - s.size) i=A at*
  by_cases hneg:A<0
  ·have e2: ¬ 0≤A:=by omega
   have e3:=hst hneg
   simp (disch:=first|exact Wv.D|fail) only [Wv.B,simprocAttr,decide_eq_true e1,decide_eq_false e2,e3]
  ·have e2:0≤A:=by omega
   rw [if_neg hneg] at hsu
   have T:=ih i (hh i hlt) A (by omega) hai.1
   have hP:=partE_le (ar i) (hh i hlt) A 1000000 (by omega) hai.1 (by omega) (by omega)
   have hG:=exG_clo (ar i)
   have hoy:=hh i hlt
   have hL:=tabM_clo (n:=na) (f:=fun i=>exC (ar i)) fun i _=>exC_clo (ar i)
   obtain ⟨r,hd⟩: ∃ r,List.drop (i*5) (tabM na fun i=>exC (ar i))=exC (ar i)++r:=tabM_drop (f:=fun i=>exC (ar i)) (fun i=>exC_len (ar i)) hlt
   revert hd T hG hL hsu
   generalize (tabM na fun i=>exC (ar i))=L
   generalize partE (ar i) A=pa at hP ⊢
   generalize ar i=y at hoy ⊢
   obtain ⟨k',s',n',nl',li',na',ar',rfl⟩:=ok_mk hoy
   rw [exC_mk]
   intro hsu T hG hL hd
   simp only [List.cons_append,List.nil_append] at hd
   simp (disch:=first|exact Wv.D|fail) only [Wv.B,simprocAttr,decide_eq_true e1,decide_eq_true e2,hd]
   refine call_TC T rfl (clB2 hG (.v _)) Wv.c ?_
   refine Wv.W ?_
   refine k_next (i+1) (by omega) (by omega) rfl (by simp (disch:=first|exact Wv.D|fail) only [Wv.B,simprocAttr,hsu,Int.natCast_add,Int.natCast_one])
 ·obtain rfl:i=na:=by omega
  simp (disch:=first|exact Wv.D|fail) only [Wv.B,simprocAttr,Int.lt_irrefl,decide_false]
def tabE:Ex→Nat
 | .nil=>0
 | .mk k s n nl li na ar=>accS (if k=11∨k=13 then 1 else 0) (fun i=>tabE (ar i)) na
theorem accS_cmp {a b:Nat} {f g:Nat→Nat}: ∀ {n:Nat},a≤b→(∀ i,i<n→f i≤g i)→accS a f n≤accS b g n
 | 0,h,_=>h
 | n+1,h,hf=>by
  have h1:=accS_cmp (n:=n) h fun i hi=>hf i (by omega)
  have h2:=hf n (by omega)
  show accS a f n+f n≤accS b g n+g n
  omega
theorem tab_cnt: ∀ (e:Ex),tabE e≤cntE e:=by
 intro e
 induction e with
 | nil=>exact Nat.zero_le _
 | mk k s n nl li na ar ih=>exact accS_cmp (by split<;>omega) fun i _=>ih i
theorem ltables_tc (e : Ex) (h : okE e) (hc : cntE e ≤ 1000000) : TC Tryz.prog 58 [.g (exC e)] (.v (.int .i64 (tabE e))) := by
  induction e with
  | nil => exact h.elim
  | mk k s n nl li na ar ih =>
  obtain ⟨hs, hnl, hna, hh⟩ := h
  have hcn : accS 1 (fun i => cntE (ar i)) na ≤ 1000000 := hc
  have hfin : tabE (.mk k s n nl li na ar) = accS (if k = 11 ∨ k = 13 then 1 else 0) (fun i => tabE (ar i)) na := rfl
  rw [hfin]
  refine Wv.TC.by 29 [0, 1, 12, 4, 17, 3, 2] [] [.tmp 2] Tryz.func58 rfl rfl rfl ?clo ?_
  case clo => simp only [Wv.BC]
  unfold exC
  generalize hb : (if k = 11 ∨ k = 13 then 1 else 0 : Nat) = b0 at *
  have hb1 : b0 ≤ 1 := by rw [← hb]; split <;> omega
  by_cases k11 : k = 11
  rotate_left
  by_cases k13 : k = 13
  rotate_left
  all_goals
    first
    | (have hb0 : b0 = 1 := by rw [← hb]; exact if_pos (by omega)
       simp (disch:=first|exact Wv.D|fail) only [Wv.B, simprocAttr, decide_eq_true k11])
    | (have hb0 : b0 = 1 := by rw [← hb]; exact if_pos (by omega)
       simp (disch:=first|exact Wv.D|fail) only [Wv.B, simprocAttr, decide_eq_false k11, decide_eq_true k13])
    | (have hb0 : b0 = 0 := by rw [← hb]; exact if_neg (by omega)
       simp (disch:=first|exact Wv.D|fail) only [Wv.B, simprocAttr, decide_eq_false k11, decide_eq_false k13])
    clear hb hfin
    refine wfor (σ := Nat) (fun i => [(1, .ptr 0 0), (3, .v (.int .i64 (accS b0 (fun i => tabE (ar i)) i : Nat))), (4, .v (.int .i64 i))])
      (fun i => [some (.blk [.v (.int .i64 k), .v (.string s), .v (.int .i64 n), .t nl 1 (tab nl fun i => .v (.int .i64 (li i))), .t na 5 (tabM na fun i => exC (ar i))])])
      (fun i => i ≤ na) (fun i => na - i) 0 (Nat.zero_le _) Wv.V (by simp (disch:=first|exact Wv.D|fail) only [Wv.B, simprocAttr, accS, hb0, Int.natCast_one, Int.natCast_zero]) ?_
    clear hb0
    intro i hi
    by_cases hlt : i < na
    · have e1 : (i : Int) < na := by omega
      have q1 := accS_one 1 (fun i => cntE (ar i)) hlt
      have hqi := accS_cmp (n := i) (f := fun i => tabE (ar i)) (g := fun i => cntE (ar i)) hb1 fun j _ => tab_cnt (ar j)
      have hqm : accS 1 (fun i => cntE (ar i)) i ≤ accS 1 (fun i => cntE (ar i)) na := accS_le 1 _ hi
      have q3 := tab_cnt (ar i)
      have T := ih i (hh i hlt) (by omega)
      have hG := exG_clo (ar i)
      have hoy := hh i hlt
      have hL := tabM_clo (n := na) (f := fun i => exC (ar i)) fun i _ => exC_clo (ar i)
      obtain ⟨r, hd⟩ : ∃ r, List.drop (i * 5) (tabM na fun i => exC (ar i)) = exC (ar i) ++ r := tabM_drop (f := fun i => exC (ar i)) (fun i => exC_len (ar i)) hlt
      revert T hG hL hd
      generalize (tabM na fun i => exC (ar i)) = L
      generalize hc2 : tabE (ar i) = c2 at *
      generalize hcc : cntE (ar i) = cc at *
      generalize ar i = y at hoy ⊢
      obtain ⟨k', s', n', nl', li', na', ar', rfl⟩ := ok_mk hoy
      rw [exC_mk]
      intro T hG hL hd
      simp only [List.cons_append, List.nil_append] at hd
      simp (disch:=first|exact Wv.D|fail) only [Wv.B, simprocAttr, decide_eq_true e1, hd]
      refine call_TC T rfl (cloA1 hG) Wv.c ?_
      refine Wv.W ?_
      refine k_next (i + 1) (by omega) (by omega) rfl (by simp (disch:=first|exact Wv.D|fail) only [Wv.B, simprocAttr, accS, hc2, Int.natCast_add, Int.natCast_one])
    · obtain rfl : i = na := by omega
      simp (disch:=first|exact Wv.D|fail) only [Wv.B, simprocAttr, Int.lt_irrefl, decide_false]
structure okC0 (c:Ci):Prop where
 name:c.name.size≤140737488351232
 ni:c.ni≤140737488351232
 nl:c.nl≤140737488351232
 no:c.no≤140737488351232
 fi: ∀ i,i<c.ni→(c.fi i).size≤140737488351232
 fo: ∀ i,i<c.no→(c.fo i).size≤140737488351232
 ln: ∀ i,i<c.nl→(c.ln i).size≤140737488351232
 le: ∀ i,i<c.nl→okE (c.le i)
def leftC (c:Ci) (most:Int) (i:Nat):Int:=accP (fun i x=>partE (c.le i) (x - (c.ln i).size)) (most - c.name.size) i
def beyB (c:Ci) (most:Int):Bool:=longB c.ni c.fi most || (longB c.no c.fo most || (decide (most<(c.nl:Int)) || decide (leftC c most c.nl<0)))
theorem leftC_succ (c:Ci) (most:Int) (i:Nat):leftC c most (i+1)=if leftC c most i<0 then leftC c most i else partE (c.le i) (leftC c most i - (c.ln i).size):=rfl
theorem leftC_le {c:Ci} (h:okC0 c) {most:Int} (h0:0≤most) (h1:most≤1000000): ∀ i,i≤c.nl→leftC c most i≤1000000∧ -1000000000000000≤leftC c most i:=fun i hi=>by
 have:=h.name
 exact accP_le' (by omega) (by omega) i fun j hj x q1 q2=>by
  have:=h.ln j (by omega)
  exact partE_le _ (h.le j (by omega)) _ 1000000 (by omega) (by omega) (by omega) (by omega)
theorem left_cnt {c:Ci} (h:okC0 c) {most:Int} (h0:0≤most): ∀ i,i≤c.nl→0≤leftC c most i→leftC c most i≤most∧ ∀ j,j<i→(cntE (c.le j):Int)≤most:=by
 intro i
 induction i with
 | zero=>exact fun _ q=>⟨by show most - c.name.size≤most;omega,fun j hj=>by omega⟩
 | succ i ih=>
  intro hi hq
  rw [leftC_succ] at hq ⊢
  by_cases hn:leftC c most i<0
  ·rw [if_pos hn] at hq;omega
  ·rw [if_neg hn] at hq ⊢
   obtain ⟨g1,g2⟩:=ih (by omega) (by omega)
   have g3:=partE_cnt (c.le i) (h.le i (by omega)) _ hq
   have g4:1≤cntE (c.le i):=by cases c.le i with
    | nil=>exact Nat.le_refl _
    | mk k s n nl li na ar=>exact accS_base 1 _ _
   refine ⟨by omega,fun j hj=>?_⟩
   by_cases e:j=i
   ·subst e;omega
   ·exact g2 j (by omega)
theorem okC_of {c:Ci} (h:okC0 c) {most:Int} (h0:0≤most) (h1:most≤1000000) (hb:beyB c most=false):okC c∧c.nl≤1000000∧ ∀ i,i<c.nl→(cntE (c.le i):Int)≤most:=by
 unfold beyB at hb
 simp only [Bool.or_eq_false_iff,decide_eq_false_iff_not] at hb
 obtain ⟨_,_,b3,b4⟩:=hb
 have hl:=(left_cnt h h0 c.nl (Nat.le_refl _) (by omega)).2
 exact ⟨⟨h.name,h.ni,h.nl,h.no,h.fi,h.fo,h.ln,fun i hi=>⟨h.le i hi,by have:=hl i hi;omega⟩⟩,by omega,hl⟩
theorem lbeyond_tc (c:Ci) (h:okC0 c) (most:Int) (h0:0≤most) (h1:most≤1000000):TC Tryz.prog 16 [.g (ciC c), .v (.int .i64 most)] (.v (.bool (beyB c most))):=by
 have hli:=leftC_le h h0 h1
 have hB:beyB c most=(longB c.ni c.fi most || (longB c.no c.fo most || (decide (most<(c.nl:Int)) || decide (leftC c most c.nl<0)))):=rfl
 have T1:=lLong_tc c.ni c.fi most h.ni (by omega) h1
 have T2:=lLong_tc c.no c.fo most h.no (by omega) h1
 have hnm:=h.name
 generalize longB c.ni c.fi most=b1 at*
 generalize longB c.no c.fo most=b2 at*
 generalize beyB c most=B at*
 refine Wv.TC.by 58 [0,1,2,28,6,5,37,4] [(7,16)] [.tmp 4] Tryz.func16 rfl rfl rfl ?clo ?_
 case clo=>simp only [Wv.BC]
 unfold ciC strsA at*
 refine Wv.W ?_
 refine call_TC T1 rfl (clB2 Wv.c (.v _)) Wv.c ?_
 cases b1 with
 | true=>simp (disch:=first|exact Wv.D|fail) only [Wv.B,simprocAttr,hB,Bool.true_or]
 | false=>
 refine Wv.W ?_
 refine call_TC T2 rfl (clB2 Wv.c (.v _)) Wv.c ?_
 cases b2 with
 | true=>simp (disch:=first|exact Wv.D|fail) only [Wv.B,simprocAttr,hB,Bool.true_or,Bool.false_or]
 | false=>
 by_cases h3:most<(c.nl:Int)
 ·rw [decide_eq_true h3] at hB
  simp (disch:=first|exact Wv.D|fail) only [Wv.B,simprocAttr,decide_eq_true h3,hB,Bool.true_or,Bool.false_or]
 rw [decide_eq_false h3,Bool.false_or,Bool.false_or,Bool.false_or] at hB
 simp (disch:=first|exact Wv.D|fail) only [Wv.B,simprocAttr,decide_eq_false h3]
 refine wfor (σ:=Nat) (fun i=>[(2, .ptr 0 0),(5, .v (.int .i64 (leftC c most i))),(6, .v (.int .i64 i))])
  (fun i=>[some (.blk [.v (.string c.name), .t c.ni 1 (tab c.ni fun i=> .v (.string (c.fi i))), .t c.nl 6 c.lets, .t c.no 1 (tab c.no fun i=> .v (.string (c.fo i)))])])
  (fun i=>i≤c.nl) (fun i=>c.nl - i) 0 (Nat.zero_le _) rfl (by simp (disch:=first|exact Wv.D|fail) only [Wv.B,simprocAttr,leftC,accP]) ?_
 intro i hi
 have hai:=hli i hi
 have hsu:=leftC_succ c most i
 have hst:leftC c most i<0→leftC c most c.nl=leftC c most i:=fun q=>accP_stop q hi
 by_cases hlt:i<c.nl
 ·have e1:(i:Int)<(c.nl:Int):=by omega
  generalize leftC c most i=A at*
  by_cases hneg:A<0
  ·have e2: ¬ 0≤A:=by omega
   have e3:=hst hneg
   rw [e3] at hB
   simp (disch:=first|exact Wv.D|fail) only [Wv.B,simprocAttr,decide_eq_true e1,decide_eq_false e2,hB]
  ·have e2:0≤A:=by omega
   rw [if_neg hneg] at hsu
   have hln:=h.ln i hlt
   have T:=lparts_tc (c.le i) (h.le i hlt) (A - (c.ln i).size) (by omega) (by omega)
   have hG:=exG_clo (c.le i)
   have hoy:=h.le i hlt
   have hL:=lets_clo c
   obtain ⟨r,hd⟩: ∃ r,List.drop (i*6) c.lets=letC (c.ln i) (c.le i)++r:=tabM_drop (f:=fun i=>letC (c.ln i) (c.le i)) (fun i=>letC_len _ _) hlt
   unfold letC at hd
   generalize hA':partE (c.le i) (A - (c.ln i).size)=A' at*
   generalize hle:c.le i=y at*
   obtain ⟨k',s',n',nl',li',na',ar',rfl⟩:=ok_mk hoy
   rw [exC_mk] at T hG hd
   simp only [List.cons_append,List.nil_append] at hd
   simp (disch:=first|exact Wv.D|fail) only [Wv.B,simprocAttr,decide_eq_true e1,decide_eq_true e2,hd]
   refine calm_TC T rfl (clB2 hG (.v _)) Wv.c ?_
   refine Wv.W ?_
   refine k_next (i+1) (by omega) (by omega) rfl (by simp (disch:=first|exact Wv.D|fail) only [Wv.B,simprocAttr,hsu,Int.natCast_add,Int.natCast_one])
 ·obtain rfl:i=c.nl:=by omega
  simp (disch:=first|exact Wv.D|fail) only [Wv.B,simprocAttr,Int.lt_irrefl,decide_false,hB]
def tabC (c:Ci) (i:Nat):Nat:=accS 0 (fun i=>tabE (c.le i)) i
def heavB (p:Nat) (c:Ci):Bool:=decide ((0:Int)<(tabC c c.nl:Nat)) && decide ((1000:Int)<((tabC c c.nl:Nat):Int)*(if (600:Int)<(p:Int) then (600:Int) else (p:Int)))
theorem tabC_le {c:Ci} (hc: ∀ i,i<c.nl→tabE (c.le i)≤1000000): ∀ i,i≤c.nl→tabC c i≤i*1000000:=by
 intro i
 induction i with
 | zero=>
  intro _
  have h3:tabC c 0=0:=rfl
  omega
 | succ i ih=>
  intro hi
  have h1:=ih (by omega)
  have h2:=hc i (by omega)
  have h3:tabC c (i+1)=tabC c i+tabE (c.le i):=rfl
  rw [h3,Nat.add_mul,Nat.one_mul]
  exact Nat.add_le_add h1 h2
theorem lheavy_tc (x:List AV) (hx: ∀ a,a∈x→Clo a) (p:Nat) (A0 A2 A3 A4 A5 A6:AV) (hxe:x=[A0, .v (.int .u32 p),A2,A3,A4,A5,A6]) (hp:p≤4294967295) (c:Ci) (h:okC0 c) (hnl:c.nl≤1000000) (hcn: ∀ i,i<c.nl→cntE (c.le i)≤1000000):TC Tryz.prog 17 [.g x, .g (ciC c)] (.v (.bool (heavB p c))):=by
 subst hxe
 have hle:=tabC_le (c:=c) fun i hi=>Nat.le_trans (tab_cnt _) (hcn i hi)
 have hB:heavB p c=(decide ((0:Int)<(tabC c c.nl:Nat)) && decide ((1000:Int)<((tabC c c.nl:Nat):Int)*(if (600:Int)<(p:Int) then (600:Int) else (p:Int)))):=rfl
 have hn2:c.nl*1000000≤1000000000000:=by omega
 generalize heavB p c=B at*
 refine Wv.TC.by 34 [0,1,6,3,11,5,2,4] [] [.tmp 4] Tryz.func17 rfl rfl rfl ?clo ?_
 case clo=>simp only [Wv.BC]
 unfold ciC strsA at*
 refine Wv.W ?_
 refine wfor (σ:=Nat) (fun i=>[(2, .ptr 0 0),(3, .ptr 1 0),(5, .v (.int .i64 (tabC c i:Nat))),(6, .v (.int .i64 i))])
  (fun i=>[some (.blk [A0, .v (.int .u32 p),A2,A3,A4,A5,A6]),some (.blk [.v (.string c.name), .t c.ni 1 (tab c.ni fun i=> .v (.string (c.fi i))), .t c.nl 6 c.lets, .t c.no 1 (tab c.no fun i=> .v (.string (c.fo i)))])])
  (fun i=>i≤c.nl) (fun i=>c.nl - i) 0 (Nat.zero_le _) rfl (by simp (disch:=first|exact Wv.D|fail) only [Wv.B,simprocAttr,tabC,accS,Int.natCast_zero]) ?_
 intro i hi
 have hai:=hle i hi
 have hin:i*1000000≤1000000000000:=Nat.le_trans (Nat.mul_le_mul_right _ hi) hn2
 have hsu:tabC c (i+1)=tabC c i+tabE (c.le i):=rfl
 by_cases hlt:i<c.nl
 ·have e1:(i:Int)<(c.nl:Int):=by omega
  have q3:=Nat.le_trans (tab_cnt (c.le i)) (hcn i hlt)
  have T:=ltables_tc (c.le i) (h.le i hlt) (hcn i hlt)
  have hG:=exG_clo (c.le i)
  have hoy:=h.le i hlt
  have hL:=lets_clo c
  obtain ⟨r,hd⟩: ∃ r,List.drop (i*6) c.lets=letC (c.ln i) (c.le i)++r:=tabM_drop (f:=fun i=>letC (c.ln i) (c.le i)) (fun i=>letC_len _ _) hlt
  unfold letC at hd
  generalize tabE (c.le i)=tt at*
  generalize hle:c.le i=y at*
  obtain ⟨k',s',n',nl',li',na',ar',rfl⟩:=ok_mk hoy
  rw [exC_mk] at T hG hd
  simp only [List.cons_append,List.nil_append] at hd
  simp (disch:=first|exact Wv.D|fail) only [Wv.B,simprocAttr,decide_eq_true e1,hd]
  refine call_TC T rfl (cloA1 hG) Wv.c ?_
  refine Wv.W ?_
  refine k_next (i+1) (by omega) (by omega) rfl (by simp (disch:=first|exact Wv.D|fail) only [Wv.B,simprocAttr,hsu,Int.natCast_add,Int.natCast_one])
 ·obtain rfl:i=c.nl:=by omega
  generalize tabC c c.nl=m at*
  have hm:m≤1000000000000:=by omega
  by_cases h0:(0:Int)<(m:Int)
  ·have hmul:((m:Nat):Int)*(if (600:Int)<(p:Int) then (600:Int) else (p:Int))≤1000000000000*600:=Int.mul_le_mul (by omega) (by split<;>omega) (by split<;>omega) (by omega)
   have hmu0:0≤((m:Nat):Int)*(if (600:Int)<(p:Int) then (600:Int) else (p:Int)):=Int.mul_nonneg (by omega) (by split<;>omega)
   rw [decide_eq_true h0,Bool.true_and] at hB
   simp (disch:=first|exact Wv.D|fail) only [Wv.B,simprocAttr,Int.lt_irrefl,decide_false,decide_eq_true h0,hB]
  ·rw [decide_eq_false h0,Bool.false_and] at hB
   simp (disch:=first|exact Wv.D|fail) only [Wv.B,simprocAttr,Int.lt_irrefl,decide_false,decide_eq_false h0,hB]
end
section
open Go.ChangeShapes Go.WideShapes Go.ChangeAt Go.RowKit Go.Deep Wv
instance:Inhabited Ex:=⟨.nil⟩
instance:Inhabited ByteArray:=⟨⟨#[]⟩⟩
theorem len5 {α:Type} {l:List α} (h:l.length=5): ∃ a b c d e,l=[a,b,c,d,e]:=by
 match l,h with
 | [a,b,c,d,e],_=>exact ⟨a,b,c,d,e,rfl⟩
theorem len6 {α:Type} {l:List α} (h:l.length=6): ∃ a b c d e f,l=[a,b,c,d,e,f]:=by
 match l,h with
 | [a,b,c,d,e,f],_=>exact ⟨a,b,c,d,e,f,rfl⟩
theorem len4 {α:Type} {l:List α} (h:l.length=4): ∃ a b c d,l=[a,b,c,d]:=by
 match l,h with
 | [a,b,c,d],_=>exact ⟨a,b,c,d,rfl⟩
theorem ex_of {t:TypeId} {l:List AV} (h:Sh Tryz.prog t l):(t=46→ ∃ e,okE e∧l=exC e):=by
 have key:(t=46→ ∃ e,okE e∧l=exC e)∧(t=44→ ∃ (n:Nat) (f:Nat→Ex),n≤140737488351232∧(∀ i,i<n→okE (f i))∧l=[.t n 5 (tabM n fun i=>exC (f i))]):=by
  induction h with
  | bool h=>exact ⟨fun e=>(by subst e;cases Tryz.underlying46.symm.trans h),fun e=>(by subst e;cases Tryz.underlying44.symm.trans h)⟩
  | int h=>exact ⟨fun e=>(by subst e;cases Tryz.underlying46.symm.trans h),fun e=>(by subst e;cases Tryz.underlying44.symm.trans h)⟩
  | str h=>exact ⟨fun e=>(by subst e;cases Tryz.underlying46.symm.trans h),fun e=>(by subst e;cases Tryz.underlying44.symm.trans h)⟩
  | @slice t e n f h hn hl hf ih=>
   refine ⟨fun e=>(by subst e;cases Tryz.underlying46.symm.trans h),fun e=>?_⟩
   subst e
   have:=Tryz.underlying44.symm.trans h
   injection this with this
   injection this with this
   subst this
   have hc:Tryz.prog.cellsOf 46=5:=by kernel_rfl
   have hb:1≤Tryz.prog.bytesOf 46:=Nat.le_of_ble_eq_true (by kernel_rfl)
   obtain ⟨g,hg⟩:=choose_lt (α:=Ex) fun i hi=>(ih i hi).1 rfl
   rw [hc]
   refine ⟨n,g,?_,fun i hi=>(hg i hi).1,?_⟩
   ·have h1:=Nat.mul_le_mul_left n hb
    have h2:reachBytes=140737488351232:=rfl
    omega
   ·rw [flat_congr fun i hi=>(hg i hi).2];rfl
  | @struct t fs l h hl hf ih=>
   refine ⟨fun e=>?_,fun e=>(by subst e;cases Tryz.underlying44.symm.trans h)⟩
   subst e
   have:=Tryz.underlying46.symm.trans h
   injection this with this
   injection this with this
   subst this
   have hc:Tryz.prog.cellsOf 46=5:=by kernel_rfl
   rw [hc] at hl
   obtain ⟨a,b,c,d,e,rfl⟩:=len5 hl
   have c1:Tryz.prog.cellsOf 3=1:=by kernel_rfl
   have c2:Tryz.prog.cellsOf 9=1:=by kernel_rfl
   have c3:Tryz.prog.cellsOf 2=1:=by kernel_rfl
   have c4:Tryz.prog.cellsOf 43=1:=by kernel_rfl
   have c5:Tryz.prog.cellsOf 44=1:=by kernel_rfl
   have h0:Sh Tryz.prog 3 (([a,b,c,d,e].drop 0).take (Tryz.prog.cellsOf 3)):=hf 0 _ rfl
   have h1:Sh Tryz.prog 9 (([a,b,c,d,e].drop 1).take (Tryz.prog.cellsOf 9)):=hf 1 _ rfl
   have h2:Sh Tryz.prog 2 (([a,b,c,d,e].drop 2).take (Tryz.prog.cellsOf 2)):=hf 2 _ rfl
   have h3:Sh Tryz.prog 43 (([a,b,c,d,e].drop 3).take (Tryz.prog.cellsOf 43)):=hf 3 _ rfl
   have h4:=(ih 4 _ rfl).2 rfl
   have h4': ∃ (n:Nat) (f:Nat→Ex),n≤140737488351232∧(∀ i,i<n→okE (f i))∧([a,b,c,d,e].drop 4).take (Tryz.prog.cellsOf 44)=[.t n 5 (tabM n fun i=>exC (f i))]:=h4
   rw [c1] at h0
   rw [c2] at h1
   rw [c3] at h2
   rw [c4] at h3
   rw [c5] at h4'
   obtain ⟨z0,e0,_⟩:=sh_int Tryz.underlying3 h0
   obtain ⟨s1,e1,w1⟩:=sh_str Tryz.underlying9 h1
   obtain ⟨z2,e2,_⟩:=sh_int Tryz.underlying2 h2
   obtain ⟨n3,f3,e3,w3,_⟩:=sh_ints Tryz.underlying43 Tryz.underlying2 (Nat.le_of_ble_eq_true (by kernel_rfl)) (by kernel_rfl) h3
   obtain ⟨n4,f4,w4,o4,e4⟩:=h4'
   have f0:[a]=[AV.v (.int .i64 z0)]:=e0
   have f1:[b]=[AV.v (.string s1)]:=e1
   have f2:[c]=[AV.v (.int .i64 z2)]:=e2
   have f3':[d]=[AV.t n3 1 (tab n3 fun i=> .v (.int .i64 (f3 i)))]:=e3
   have f4':[e]=[AV.t n4 5 (tabM n4 fun i=>exC (f4 i))]:=e4
   simp only [List.cons.injEq,and_true] at f0 f1 f2 f3' f4'
   subst f0 f1 f2 f3' f4'
   have hr:reachBytes=140737488351232:=rfl
   exact ⟨.mk z0 s1 z2 n3 f3 n4 f4,⟨by omega,by omega,w4,o4⟩,rfl⟩
 exact key.1
def ciTs:List TypeId:=[3,2,9,43,26,46,44,49,27,29]
theorem ciTs_ok:setB Tryz.prog ciTs=true:=by kernel_rfl
theorem let_of {l:List AV} (h:Sh Tryz.prog 49 l): ∃ s e,s.size≤140737488351232∧okE e∧l=letC s e:=by
 obtain ⟨hl,hf⟩:=sh_struct Tryz.underlying49 h
 have hc:Tryz.prog.cellsOf 49=6:=by kernel_rfl
 rw [hc] at hl
 obtain ⟨a,b,c,d,e,f,rfl⟩:=len6 hl
 have c2:Tryz.prog.cellsOf 9=1:=by kernel_rfl
 have c3:Tryz.prog.cellsOf 46=5:=by kernel_rfl
 have h0:Sh Tryz.prog 9 (([a,b,c,d,e,f].drop 0).take (Tryz.prog.cellsOf 9)):=hf 0 _ rfl
 have h1:Sh Tryz.prog 46 (([a,b,c,d,e,f].drop 1).take (Tryz.prog.cellsOf 46)):=hf 1 _ rfl
 rw [c2] at h0
 rw [c3] at h1
 obtain ⟨s,e0,w0⟩:=sh_str Tryz.underlying9 h0
 obtain ⟨x,o1,e1⟩:=ex_of h1 rfl
 have f0:[a]=[AV.v (.string s)]:=e0
 have f1:[b,c,d,e,f]=exC x:=e1
 simp only [List.cons.injEq,and_true] at f0
 subst f0
 have hr:reachBytes=140737488351232:=rfl
 exact ⟨s,x,by omega,o1,by rw [f1];rfl⟩
theorem ci_of {l:List AV} (h:Sh Tryz.prog 29 l): ∃ c,okC0 c∧l=ciC c:=by
 obtain ⟨hl,hf⟩:=sh_struct Tryz.underlying29 h
 have hc:Tryz.prog.cellsOf 29=4:=by kernel_rfl
 rw [hc] at hl
 obtain ⟨a,b,c,d,rfl⟩:=len4 hl
 have c2:Tryz.prog.cellsOf 9=1:=by kernel_rfl
 have c3:Tryz.prog.cellsOf 26=1:=by kernel_rfl
 have c4:Tryz.prog.cellsOf 27=1:=by kernel_rfl
 have c5:Tryz.prog.cellsOf 49=6:=by kernel_rfl
 have h0:Sh Tryz.prog 9 (([a,b,c,d].drop 0).take (Tryz.prog.cellsOf 9)):=hf 0 _ rfl
 have h1:Sh Tryz.prog 26 (([a,b,c,d].drop 1).take (Tryz.prog.cellsOf 26)):=hf 1 _ rfl
 have h2:Sh Tryz.prog 27 (([a,b,c,d].drop 2).take (Tryz.prog.cellsOf 27)):=hf 2 _ rfl
 have h3:Sh Tryz.prog 26 (([a,b,c,d].drop 3).take (Tryz.prog.cellsOf 26)):=hf 3 _ rfl
 rw [c2] at h0
 rw [c3] at h1 h3
 rw [c4] at h2
 obtain ⟨s,e0,w0⟩:=sh_str Tryz.underlying9 h0
 obtain ⟨n1,g1,e1,w1,w1'⟩:=sh_strs Tryz.underlying26 Tryz.underlying9 (Nat.le_of_ble_eq_true (by kernel_rfl)) (by kernel_rfl) h1
 obtain ⟨n2,g2,e2,w2,q2⟩:=sh_slice Tryz.underlying27 (Nat.le_of_ble_eq_true (by kernel_rfl)) h2
 obtain ⟨n3,g3,e3,w3,w3'⟩:=sh_strs Tryz.underlying26 Tryz.underlying9 (Nat.le_of_ble_eq_true (by kernel_rfl)) (by kernel_rfl) h3
 obtain ⟨L,hL⟩:=choose_lt (α:=ByteArray × Ex) (p:=fun i q=>q.1.size≤140737488351232∧okE q.2∧g2 i=letC q.1 q.2) fun i hi=>by
  obtain ⟨s,e,k1,k2,k3⟩:=let_of (q2 i hi)
  exact ⟨(s,e),(⟨k1,k2,k3⟩:s.size≤140737488351232∧okE e∧g2 i=letC s e)⟩
 have f0:[a]=[AV.v (.string s)]:=e0
 have f1:[b]=[AV.t n1 1 (tab n1 fun i=> .v (.string (g1 i)))]:=e1
 have f2:[c]=[AV.t n2 (Tryz.prog.cellsOf 49) ((List.range n2).flatMap g2)]:=e2
 have f3:[d]=[AV.t n3 1 (tab n3 fun i=> .v (.string (g3 i)))]:=e3
 rw [c5,flat_congr fun i hi=>(hL i hi).2.2] at f2
 simp only [List.cons.injEq,and_true] at f0 f1 f2 f3
 subst f0 f1 f2 f3
 have hr:reachBytes=140737488351232:=rfl
 exact ⟨{name:=s,ni:=n1,fi:=g1,nl:=n2,ln:=fun i=>(L i).1,le:=fun i=>(L i).2,no:=n3,fo:=g3},
  ⟨by show s.size≤_;omega,by show n1≤_;omega,by show n2≤_;omega,by show n3≤_;omega,fun i hi=>by have:=w1' i hi;show (g1 i).size≤_;omega,fun i hi=>by have:=w3' i hi;show (g3 i).size≤_;omega,fun i hi=>(hL i hi).1,fun i hi=>(hL i hi).2.1⟩,rfl⟩
theorem circ_of {H:Type} {enc:TypeId × Value→H} {w:World} {base b0:Nat} {spare:Nat→Bool} {held:Bool} {r:Reach} {v:Value} {d:DataW H} {p:List MemPlace}
  (hv:Value.okWide Tryz.prog w r b0 29 v) (h:DataW.Trod enc Tryz.prog w base spare held 29 v d p) (hl:LightP Tryz.prog 29 d): ∃ c,okC0 c∧Rep (bareX w) (.g (ciC c)) v:=by
 simp only [Value.okWide,Tryz.underlying29] at hv
 obtain ⟨cs,rfl,_,_⟩:=hv
 obtain ⟨fuel,hf⟩:=h
 obtain ⟨l,s1,s2,s3⟩:=reads ciTs_ok fuel _ _ _ (by unfold ciTs;simp) hf hl
 obtain ⟨c,hc,rfl⟩:=ci_of s1
 refine ⟨c,hc,?_⟩
 have e:(Value.agg cs)= .agg cs.toList.toArray:=by simp
 rw [e]
 exact .g s2.1 s2.2
end
section
open Go.ChangeShapes Go.WideShapes Go.ChangeAt Go.RowKit Go.Deep Wv
def inTs:List TypeId:=[3,80]
theorem inTs_ok:setB Tryz.prog inTs=true:=by kernel_rfl
theorem ints_of {H:Type} {enc:TypeId × Value→H} {w:World} {base b0:Nat} {spare:Nat→Bool} {held:Bool} {r:Reach} {v:Value} {d:DataW H} {p:List MemPlace}
  (hv:Value.okWide Tryz.prog w r b0 80 v) (h:DataW.Trod enc Tryz.prog w base spare held 80 v d p) (hl:LightP Tryz.prog 80 d):
  ∃ (n:Nat) (f:Nat→Int),Rep (bareX w) (.t n 1 (tab n fun j=> .v (.int .i64 (f j)))) v∧n≤140737488351232:=by
 have hs: ∃ a n c,v= .slice a n c:=by
  cases v<;>simp [Value.okWide,Cell.okWide,Cell.ok,Tryz.underlying80] at hv ⊢
 obtain ⟨a,n,c,rfl⟩:=hs
 obtain ⟨fuel,hf⟩:=h
 obtain ⟨l,s1,s2,s3⟩:=reads inTs_ok fuel _ _ _ (by unfold inTs;simp) hf hl
 have hr:reachBytes=140737488351232:=rfl
 obtain ⟨n,g,rfl,w,o⟩:=sh_ints Tryz.underlying80 Tryz.underlying3 (Nat.le_of_ble_eq_true (by kernel_rfl)) (by kernel_rfl) s1
 exact ⟨n,g,s2.2 0 _ _ rfl rfl,by omega⟩
end
section
structure Par where
 n:Int
 p:Nat
 r:Int
 ch:List Nat
 sp:Nat
 wt:Int
 er:Nat
end
end Go.Proofs.YtljfgdlgmdcmfaaGreat
