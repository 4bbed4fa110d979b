/-
  The run of the law BlockHeaders.
-/
import Derived.Test.YtiicpeidjhbhiaaGreatCdDg
namespace Go.Proofs.YtiicpeidjhbhiaaGreat.blockHeaders
open Go Go.Am ty cd
set_option linter.unusedSimpArgs false
theorem en31 : enterOk Tryz.prog 31 = true := by kernel_rfl
theorem en5 : enterOk Tryz.prog 5 = true := by kernel_rfl
theorem live_run : isT (evF Tryz.prog aid0 (fun _ => none) 100 (.f 31) [] ⟨.lf, 0, [], []⟩) = true := by kernel_rfl
noncomputable def orcl : Nat → Option (List V → St → Option (V × St)) := fun g => bif Nat.beq g 31 then (bif Nat.beq g 31 then some (pureO trueS) else none) else orcrd2 g
theorem ok_orcl : OrcOk Tryz.prog orcl := orc_or 31 (ok_true (A := aid0) (d := 100) mixed live_run) ok_orcrd2
theorem eq_five (a b c d e a' b' c' d' e' : Int) : eqV Tryz.prog eqTop 98 (.agg [.int .i64 a, .int .i64 b, .int .i64 c, .int .i64 d, .int .i64 e]) (.agg [.int .i64 a', .int .i64 b', .int .i64 c', .int .i64 d', .int .i64 e']) = chainB [(a, a'), (b, b'), (c, c'), (d, d'), (e, e')] := by kernel_rfl
theorem guard_five (a b c d e : Int) : eqGuardOk Tryz.prog 98 (.agg [.int .i64 a, .int .i64 b, .int .i64 c, .int .i64 d, .int .i64 e]) = true := by kernel_rfl
theorem eql_five (a b c d e : Int) : binV Tryz.prog .eql 98 (.agg [.int .i64 a, .int .i64 b, .int .i64 c, .int .i64 d, .int .i64 e]) (.agg [.int .i64 a, .int .i64 b, .int .i64 c, .int .i64 d, .int .i64 e]) = some (.bool true) := by
  have h : eqV Tryz.prog eqTop 98 (.agg [.int .i64 a, .int .i64 b, .int .i64 c, .int .i64 d, .int .i64 e]) (.agg [.int .i64 a, .int .i64 b, .int .i64 c, .int .i64 d, .int .i64 e]) = some true := by
    rw [eq_five, chainB_eq]
    simp
  exact eql_agg (guard_five a b c d e) h
theorem eql_int (t : TypeId) (k : IntKind) (n : Int) : binV Tryz.prog .eql t (.int k n) (.int k n) = some (.bool true) := by
  cases k <;> simp [binV, isSh, binInt]
theorem z156 : zrT Tryz.prog 156 = some (.agg [.snil, .nilm]) := by kernel_rfl
set_option maxRecDepth 100000 in
theorem table_body (call : CallF) (s : St) (h0 : s.h.get s.nx = none) (h1 : s.h.get (s.nx + 1) = none) : post (evBody Tryz.prog aid0 call 17 [] s) (fun u s' => u = .ptr (s.nx + 1) 0 ∧ s' = ⟨((s.newO (.mp [] 0)).newO (.blk [.snil, .map s.nx])).h, s.nx + 2, s.lg, s.df⟩) := by
  refine post_body Tryz.func17 rfl (Nat.le_of_ble_eq_true rfl) ?_
  have b156 : ∀ {call : CallF} {mu : Bool} {env : Env} {st : St} (parts : Array (Nat × Operand)), op1 Tryz.prog call mu (.build 156 parts) env st = aggO (fillV (plc [(0, 1), (1, 1)]) [.snil, .nilm] (parts.toList.map fun p => (p.1, opv env p.2))) st := fun parts => o_bld Tryz.underlying156 z156 (by kernel_rfl) parts
  have n1 : ¬ (s.nx + 1 = s.nx) := by omega
  simp only [Tryz.f17, aid0_H, aid0_mu, aid0_L, x_seq, x_region, x_reg, x_cond, x_block, x_exit, x_ret, x_skip, s_cons, s_nil, w_none, wO, wO_some, wd_t, wd_f, wd_tup, wd_bt, wd_bf, g_t, g_f, g_fn, g_ite, p_some, p_none, p_ite, reg_none, reg_some, reg_ite, prune_nil, prune_cons,
 then_nrm, then_ext, then_ret, then_ite, cond_t, cond_f, cond_b, block_nrm, block_ret, block_ext, block_ite, o_assign, o_move, o_pick, pick_t, pick_f, pick_b, pick_bool, o_bin, o_un, u_not, o_conv, o_load, o_store, o_slice, o_nilck, nilck_ptr, nilck_iptr,
 addr_ptr, addr_iptr, o_bi, o_call, call_fn, rtV_some, rtV_ite, out_ret, out_rt, out_ite, eget_hit, eget_miss, v_tmp, v_fn, v_bool, v_int, v_str, v_nilp, v_snil, v_nilm, v_nilf, v_agg,
 b_add, b_sub, b_mul, b_quo, b_rem, b_and, b_or, b_eql, b_neq, b_lss, b_leq, b_gtr, b_geq, b_shl, b_shr, b_seql, b_sneq, b_pnil, b_pnilN, b_nilnil,
 List.getElem?_cons, Nat.reduceLT, Nat.reduceSub, Nat.reduceAdd, Nat.reduceEqDiff, ne_eq, not_false_eq_true, Option.getD_some, Bool.not_true, Bool.not_false, reduceIte, reduceCtorEq, Nat.succ_ne_zero, List.map_cons, List.map_nil, List.nil_append, List.append_nil, List.cons_append, arg_nil, arg_cons, res_v, ra_nil, ra_cons, r_tmp, r_cell, rc_some, rt_one, rt_two, rt_nil, ldH_some, stH_some, tk_f, tk_t, ixS_sl, ixA_int, fdV_agg, lenV_snil, lenV_sl, lenV_ms, bi_max, bi_min, newT_none, growT_buf, get_set, get_lf, V.cells, List.map_nil, Option.map_some, List.length_cons, List.length_nil, newO_get, newO_nx, newO_df, putO_get, putO_nx, putO_df, delO_get, delO_nx, delO_df, alH_none, o_bx, bxV_agg, bxV_int, bxV_sl, bxV_snil, fill_nil, fill_cons, fillK_some, plc_def, aggO_some, arH_some, apM_some, catP_nil, catP_cons, okIdx_nil, okIdx_cons, postC_ite, post_ite, postC_some, post_some, o_extract2, exV_tup, o_mkfn, Option.map_none, Int.reduceEq, Int.reduceNe, Int.reduceLE, Int.reduceLT, Int.reduceToNat, Int.reducePow, Int.reduceNeg, Nat.reduceLeDiff, Nat.reduceMul, Nat.reducePow, true_and, and_true, decide_eq_true_eq, List.all_cons, List.all_nil, V.one, Bool.and_self, Bool.and_true, IntKind.bits, Int.toNat_natCast, Nat.mul_one, Nat.zero_add, V.flat, List.size_toArray, decide_true, decide_false, Bool.false_eq_true, Nat.zero_le, Int.natCast_nonneg, ld2, ldr2, li2, st2, ld4, ldr4, li4, st4, ld5, ldr5, li5, st5, ld22, ldr22, li22, st22, ld53, ldr53, li53, st53, ld60, ldr60, li60, st60, ld98, ldr98, li98, st98, ld107, ldr107, li107, st107, ld154, ldr154, li154, st154, ld179, ldr179, li179, st179, ld277, ldr277, li277, st277, fa98_0, fa98_1, fa98_2, fa98_3, fa98_4, fa109_0, fa156_0, fa156_1, fa281_0, fa281_1, fa281_2, fa284_0, fa284_1, far98_0, far98_1, far98_2, far98_3, far98_4, far109_0, far156_0, far156_1, far281_0, far281_1, far281_2, far284_0, far284_1, ix60, ix63, ix176, ix277, al98, al109, al179, al277, al281, al284, bl98, bl109, bl281, bl284, bs60, bs63, bs107, bs176, slo60, shi60, ahr277, ahi277, app60_60, app107_107, len60, len63, len107, len176, cvr2_178, cv2_178, cvr3_178, cv3_178, cvr5_178, cv5_178, cvr22_178, cv22_178, cvr178_2, cv178_2, cvr178_5, cv178_5, cvr178_22, cv178_22, bpe47, bpn47, bsn60, bnn60, bpe179, bpn179, lenr60, lenr63, lenr107, lenr176, bsm60, bsm63, bsm107, bsm176, ap_nil el5, ap_ex el5, ap_tok el5, ap_ex_ms el5, ap_nil_ms el5, ap_nothing el5, apr_ex_ms el5, apr_nil_ms el5, ap_nil el60, ap_ex el60, ap_tok el60, ap_ex_ms el60, ap_nil_ms el60, ap_nothing el60, apr_ex_ms el60, apr_nil_ms el60, h0, h1, n1, o_makeMap, mpH_none, b156, splice_def, List.take_zero, List.take_succ_cons, List.drop_succ_cons, List.drop_zero, not_true_eq_false, not_false_eq_true]
  exact ⟨fun _ => trivial, rfl⟩
set_option maxRecDepth 100000 in
set_option maxHeartbeats 8000000 in
theorem heads_body (call : CallF) (a b c d e a' b' c' d' e' q k w : Int) (x : V) (v : V)
    (hlv : ∀ s, call (.f 31) [] s = some (.bool true, s))
    (hby : ∀ s, call (.f 32) [.agg [.int .i64 a, .int .i64 b, .int .i64 c, .int .i64 d, .int .i64 e]] s = some (.tup [x, .int .i64 k], s))
    (hrby : ∀ s, call (.f 33) [.agg [.int .i64 a, .int .i64 b, .int .i64 c, .int .i64 d, .int .i64 e]] s = some (.tup [x, .int .i64 k], s))
    (hps : ∀ s, call (.f 34) [v] s = some (.tup [.agg [.int .i64 a', .int .i64 b', .int .i64 c', .int .i64 d', .int .i64 e'], .int .i64 q], s))
    (hrps : ∀ s, call (.f 35) [v] s = some (.tup [.agg [.int .i64 a', .int .i64 b', .int .i64 c', .int .i64 d', .int .i64 e'], .int .i64 q], s))
    (hnt : ∀ s : St, s.h.get s.nx = none → s.h.get (s.nx + 1) = none → call (.f 17) [] s = some (.ptr (s.nx + 1) 0, ⟨((s.newO (.mp [] 0)).newO (.blk [.snil, .map s.nx])).h, s.nx + 2, s.lg, s.df⟩))
    (hdg : ∀ s : St, s.h.get 4 = some (.blk [.snil, .map 3]) → s.h.get 3 = some (.mp [] 0) → call (.f 36) [.ptr 4 0, .agg [.int .i64 a, .int .i64 b, .int .i64 c, .int .i64 d, .int .i64 e]] s = some (.tup [.int .i64 w, .int .i64 k], (s.delO 4).delO 3))
    (hrdg : ∀ s : St, s.h.get 5 = some (.blk [.snil]) → call (.f 37) [.ptr 5 0, .agg [.int .i64 a, .int .i64 b, .int .i64 c, .int .i64 d, .int .i64 e]] s = some (.tup [.int .i64 w, .int .i64 k], s.delO 5))
    (hck : ∀ s, call (.f 39) [.agg [.int .i64 a, .int .i64 b, .int .i64 c, .int .i64 d, .int .i64 e]] s = some (.int .i64 k, s))
    (hrck : ∀ s, call (.f 40) [.agg [.int .i64 a, .int .i64 b, .int .i64 c, .int .i64 d, .int .i64 e]] s = some (.int .i64 k, s))
    (heq : ∀ s, call (.f 38) [x, x] s = some (.bool true, s)) :
    post (evBody Tryz.prog aid0 call 5 [.agg [.int .i64 a, .int .i64 b, .int .i64 c, .int .i64 d, .int .i64 e], v] ⟨.lf, 0, [], []⟩) (fun u _ => u = .bool true) := by
  refine post_body Tryz.func5 rfl (Nat.le_of_ble_eq_true rfl) ?_
  have hta : ∀ a b c d e : Int, List.take 5 (List.drop 0 [V.int .i64 a, .int .i64 b, .int .i64 c, .int .i64 d, .int .i64 e]) = [V.int .i64 a, .int .i64 b, .int .i64 c, .int .i64 d, .int .i64 e] := fun _ _ _ _ _ => rfl
  have hsp : ∀ z a b c d e : V, splice [z, z, z, z, z] 0 [a, b, c, d, e] = [a, b, c, d, e] := fun _ _ _ _ _ _ => rfl
  have hp7 := pl5_7
  simp only [regAt, Tryz.f5, Option.getD_some, Nat.reduceEqDiff, List.toList_toArray, Option.map_some, Option.some.injEq, cond_true, cond_false, Nat.beq] at hp7
  have hp9 := pl5_9
  simp only [regAt, Tryz.f5, Option.getD_some, Nat.reduceEqDiff, List.toList_toArray, Option.map_some, Option.some.injEq, cond_true, cond_false, Nat.beq] at hp9
  simp only [Tryz.f5, aid0_H, aid0_mu, aid0_L, x_seq, x_region, x_reg, x_cond, x_block, x_exit, x_ret, x_skip, s_cons, s_nil, w_none, wO, wO_some, wd_t, wd_f, wd_tup, wd_bt, wd_bf, g_t, g_f, g_fn, g_ite, p_some, p_none, p_ite, reg_none, reg_some, reg_ite, prune_nil, prune_cons,
 then_nrm, then_ext, then_ret, then_ite, cond_t, cond_f, cond_b, block_nrm, block_ret, block_ext, block_ite, o_assign, o_move, o_pick, pick_t, pick_f, pick_b, pick_bool, o_bin, o_un, u_not, o_conv, o_load, o_store, o_slice, o_nilck, nilck_ptr, nilck_iptr,
 addr_ptr, addr_iptr, o_bi, o_call, call_fn, rtV_some, rtV_ite, out_ret, out_rt, out_ite, eget_hit, eget_miss, v_tmp, v_fn, v_bool, v_int, v_str, v_nilp, v_snil, v_nilm, v_nilf, v_agg,
 b_add, b_sub, b_mul, b_quo, b_rem, b_and, b_or, b_eql, b_neq, b_lss, b_leq, b_gtr, b_geq, b_shl, b_shr, b_seql, b_sneq, b_pnil, b_pnilN, b_nilnil,
 List.getElem?_cons, Nat.reduceLT, Nat.reduceSub, Nat.reduceAdd, Nat.reduceEqDiff, ne_eq, not_false_eq_true, Option.getD_some, Bool.not_true, Bool.not_false, reduceIte, reduceCtorEq, Nat.succ_ne_zero, List.map_cons, List.map_nil, List.nil_append, List.append_nil, List.cons_append, arg_nil, arg_cons, res_v, ra_nil, ra_cons, r_tmp, r_cell, rc_some, rt_one, rt_two, rt_nil, ldH_some, stH_some, tk_f, tk_t, ixS_sl, ixA_int, fdV_agg, lenV_snil, lenV_sl, lenV_ms, bi_max, bi_min, newT_none, growT_buf, get_set, get_lf, V.cells, List.map_nil, Option.map_some, List.length_cons, List.length_nil, newO_get, newO_nx, newO_df, putO_get, putO_nx, putO_df, delO_get, delO_nx, delO_df, alH_none, o_bx, bxV_agg, bxV_int, bxV_sl, bxV_snil, fill_nil, fill_cons, fillK_some, plc_def, aggO_some, arH_some, apM_some, catP_nil, catP_cons, okIdx_nil, okIdx_cons, postC_ite, post_ite, postC_some, post_some, o_extract2, exV_tup, o_mkfn, Option.map_none, Int.reduceEq, Int.reduceNe, Int.reduceLE, Int.reduceLT, Int.reduceToNat, Int.reducePow, Int.reduceNeg, Nat.reduceLeDiff, Nat.reduceMul, Nat.reducePow, true_and, and_true, decide_eq_true_eq, List.all_cons, List.all_nil, V.one, Bool.and_self, Bool.and_true, IntKind.bits, Int.toNat_natCast, Nat.mul_one, Nat.zero_add, V.flat, List.size_toArray, decide_true, decide_false, Bool.false_eq_true, Nat.zero_le, Int.natCast_nonneg, ld2, ldr2, li2, st2, ld4, ldr4, li4, st4, ld5, ldr5, li5, st5, ld22, ldr22, li22, st22, ld53, ldr53, li53, st53, ld60, ldr60, li60, st60, ld98, ldr98, li98, st98, ld107, ldr107, li107, st107, ld154, ldr154, li154, st154, ld179, ldr179, li179, st179, ld277, ldr277, li277, st277, fa98_0, fa98_1, fa98_2, fa98_3, fa98_4, fa109_0, fa156_0, fa156_1, fa281_0, fa281_1, fa281_2, fa284_0, fa284_1, far98_0, far98_1, far98_2, far98_3, far98_4, far109_0, far156_0, far156_1, far281_0, far281_1, far281_2, far284_0, far284_1, ix60, ix63, ix176, ix277, al98, al109, al179, al277, al281, al284, bl98, bl109, bl281, bl284, bs60, bs63, bs107, bs176, slo60, shi60, ahr277, ahi277, app60_60, app107_107, len60, len63, len107, len176, cvr2_178, cv2_178, cvr3_178, cv3_178, cvr5_178, cv5_178, cvr22_178, cv22_178, cvr178_2, cv178_2, cvr178_5, cv178_5, cvr178_22, cv178_22, bpe47, bpn47, bsn60, bnn60, bpe179, bpn179, lenr60, lenr63, lenr107, lenr176, bsm60, bsm63, bsm107, bsm176, ap_nil el5, ap_ex el5, ap_tok el5, ap_ex_ms el5, ap_nil_ms el5, ap_nothing el5, apr_ex_ms el5, apr_nil_ms el5, ap_nil el60, ap_ex el60, ap_tok el60, ap_ex_ms el60, ap_nil_ms el60, ap_nothing el60, apr_ex_ms el60, apr_nil_ms el60, hta, hsp, hlv, hby, hrby, hps, hrps, x_draw hp7, r_conv, bir_max, nwR_none, drP_none, List.getElem?_cons_zero, r_move, r_assign, r_pick, r_bin, r_un, r_extract, r_load, r_slice, r_bi, r_call, callR_fn, call2_some, dryR_some, dryR_ite, wetR_some, wetR_ite, outR_ret, ldR_some, tkR_some, arR_some, newR_none, apR_some, dr_nil, dr_cons, drO_some, drW_t, drW_f, drW_ite, drP_some, drP_ite, Bool.or_true, Bool.true_or, Bool.or_false, Bool.false_or, List.isEmpty_cons, List.isEmpty_nil, newO_lg, putO_lg, delO_lg, blt_iff, Bool.or_eq_true, Nat.lt_irrefl, or_false, false_or, or_true, true_or, Bool.not_eq_true', hnt, hdg, not_true_eq_false, not_false_eq_true]
  simp +decide only [if_true]
  simp only [aid0_H, aid0_mu, aid0_L, x_seq, x_region, x_reg, x_cond, x_block, x_exit, x_ret, x_skip, s_cons, s_nil, w_none, wO, wO_some, wd_t, wd_f, wd_tup, wd_bt, wd_bf, g_t, g_f, g_fn, g_ite, p_some, p_none, p_ite, reg_none, reg_some, reg_ite, prune_nil, prune_cons,
 then_nrm, then_ext, then_ret, then_ite, cond_t, cond_f, cond_b, block_nrm, block_ret, block_ext, block_ite, o_assign, o_move, o_pick, pick_t, pick_f, pick_b, pick_bool, o_bin, o_un, u_not, o_conv, o_load, o_store, o_slice, o_nilck, nilck_ptr, nilck_iptr,
 addr_ptr, addr_iptr, o_bi, o_call, call_fn, rtV_some, rtV_ite, out_ret, out_rt, out_ite, eget_hit, eget_miss, v_tmp, v_fn, v_bool, v_int, v_str, v_nilp, v_snil, v_nilm, v_nilf, v_agg,
 b_add, b_sub, b_mul, b_quo, b_rem, b_and, b_or, b_eql, b_neq, b_lss, b_leq, b_gtr, b_geq, b_shl, b_shr, b_seql, b_sneq, b_pnil, b_pnilN, b_nilnil,
 List.getElem?_cons, Nat.reduceLT, Nat.reduceSub, Nat.reduceAdd, Nat.reduceEqDiff, ne_eq, not_false_eq_true, Option.getD_some, Bool.not_true, Bool.not_false, reduceIte, reduceCtorEq, Nat.succ_ne_zero, List.map_cons, List.map_nil, List.nil_append, List.append_nil, List.cons_append, arg_nil, arg_cons, res_v, ra_nil, ra_cons, r_tmp, r_cell, rc_some, rt_one, rt_two, rt_nil, ldH_some, stH_some, tk_f, tk_t, ixS_sl, ixA_int, fdV_agg, lenV_snil, lenV_sl, lenV_ms, bi_max, bi_min, newT_none, growT_buf, get_set, get_lf, V.cells, List.map_nil, Option.map_some, List.length_cons, List.length_nil, newO_get, newO_nx, newO_df, putO_get, putO_nx, putO_df, delO_get, delO_nx, delO_df, alH_none, o_bx, bxV_agg, bxV_int, bxV_sl, bxV_snil, fill_nil, fill_cons, fillK_some, plc_def, aggO_some, arH_some, apM_some, catP_nil, catP_cons, okIdx_nil, okIdx_cons, postC_ite, post_ite, postC_some, post_some, o_extract2, exV_tup, o_mkfn, Option.map_none, Int.reduceEq, Int.reduceNe, Int.reduceLE, Int.reduceLT, Int.reduceToNat, Int.reducePow, Int.reduceNeg, Nat.reduceLeDiff, Nat.reduceMul, Nat.reducePow, true_and, and_true, decide_eq_true_eq, List.all_cons, List.all_nil, V.one, Bool.and_self, Bool.and_true, IntKind.bits, Int.toNat_natCast, Nat.mul_one, Nat.zero_add, V.flat, List.size_toArray, decide_true, decide_false, Bool.false_eq_true, Nat.zero_le, Int.natCast_nonneg, ld2, ldr2, li2, st2, ld4, ldr4, li4, st4, ld5, ldr5, li5, st5, ld22, ldr22, li22, st22, ld53, ldr53, li53, st53, ld60, ldr60, li60, st60, ld98, ldr98, li98, st98, ld107, ldr107, li107, st107, ld154, ldr154, li154, st154, ld179, ldr179, li179, st179, ld277, ldr277, li277, st277, fa98_0, fa98_1, fa98_2, fa98_3, fa98_4, fa109_0, fa156_0, fa156_1, fa281_0, fa281_1, fa281_2, fa284_0, fa284_1, far98_0, far98_1, far98_2, far98_3, far98_4, far109_0, far156_0, far156_1, far281_0, far281_1, far281_2, far284_0, far284_1, ix60, ix63, ix176, ix277, al98, al109, al179, al277, al281, al284, bl98, bl109, bl281, bl284, bs60, bs63, bs107, bs176, slo60, shi60, ahr277, ahi277, app60_60, app107_107, len60, len63, len107, len176, cvr2_178, cv2_178, cvr3_178, cv3_178, cvr5_178, cv5_178, cvr22_178, cv22_178, cvr178_2, cv178_2, cvr178_5, cv178_5, cvr178_22, cv178_22, bpe47, bpn47, bsn60, bnn60, bpe179, bpn179, lenr60, lenr63, lenr107, lenr176, bsm60, bsm63, bsm107, bsm176, ap_nil el5, ap_ex el5, ap_tok el5, ap_ex_ms el5, ap_nil_ms el5, ap_nothing el5, apr_ex_ms el5, apr_nil_ms el5, ap_nil el60, ap_ex el60, ap_tok el60, ap_ex_ms el60, ap_nil_ms el60, ap_nothing el60, apr_ex_ms el60, apr_nil_ms el60, hta, hsp, hlv, hby, hrby, hps, hrps, x_draw hp9, r_conv, bir_max, nwR_none, drP_none, List.getElem?_cons_zero, r_move, r_assign, r_pick, r_bin, r_un, r_extract, r_load, r_slice, r_bi, r_call, callR_fn, call2_some, dryR_some, dryR_ite, wetR_some, wetR_ite, outR_ret, ldR_some, tkR_some, arR_some, newR_none, apR_some, dr_nil, dr_cons, drO_some, drW_t, drW_f, drW_ite, drP_some, drP_ite, Bool.or_true, Bool.true_or, Bool.or_false, Bool.false_or, List.isEmpty_cons, List.isEmpty_nil, newO_lg, putO_lg, delO_lg, blt_iff, Bool.or_eq_true, Nat.lt_irrefl, or_false, false_or, or_true, true_or, Bool.not_eq_true', hnt, hdg, hrdg, hck, hrck, heq, eql_five, eql_int, not_true_eq_false, not_false_eq_true]
  simp +decide only [if_true]
  first | exact fun _ => trivial | done
set_option maxRecDepth 100000 in
theorem run (a b c d e : Int) (v : V) (bs : List Nat) (hb : bytesV v = some bs) (hk : okR (wkB v)) : isT (evF Tryz.prog aid0 orcl 100 (.f 5) [.agg [.int .i64 a, .int .i64 b, .int .i64 c, .int .i64 d, .int .i64 e], v] ⟨.lf, 0, [], []⟩) = true := by
  have hlv : ∀ s, evF Tryz.prog aid0 orcl 99 (.f 31) [] s = some (.bool true, s) := fun s =>
    (evF_orc (P := Tryz.prog) (A := aid0) (d := 98) (orc := orcl) (o := pureO trueS) en31 rfl).trans (pureO_some rfl s)
  have hby : ∀ s, evF Tryz.prog aid0 orcl 99 (.f 32) [.agg [.int .i64 a, .int .i64 b, .int .i64 c, .int .i64 d, .int .i64 e]] s = some (bytesR [a, b, c, d, e], s) := fun s =>
    (evF_orc (P := Tryz.prog) (A := aid0) (d := 98) (orc := orcl) (o := pureO bytesS) en32 rfl).trans (pureO_some rfl s)
  have hrby : ∀ s, evF Tryz.prog aid0 orcl 99 (.f 33) [.agg [.int .i64 a, .int .i64 b, .int .i64 c, .int .i64 d, .int .i64 e]] s = some (bytesR [a, b, c, d, e], s) := fun s =>
    (evF_orc (P := Tryz.prog) (A := aid0) (d := 98) (orc := orcl) (o := pureO bytesS) en33 rfl).trans (pureO_some rfl s)
  have hps : ∀ s, evF Tryz.prog aid0 orcl 99 (.f 34) [v] s = some (prsV v, s) := fun s =>
    (evF_orc (P := Tryz.prog) (A := aid0) (d := 98) (orc := orcl) (o := pureO parseS) en34 rfl).trans (pureO_some (parseS_eq hk (by rw [hb]; rfl)) s)
  have hrps : ∀ s, evF Tryz.prog aid0 orcl 99 (.f 35) [v] s = some (prsV v, s) := fun s =>
    (evF_orc (P := Tryz.prog) (A := aid0) (d := 98) (orc := orcl) (o := pureO parseS) en35 rfl).trans (pureO_some (parseS_eq hk (by rw [hb]; rfl)) s)
  have hck : ∀ s, evF Tryz.prog aid0 orcl 99 (.f 39) [.agg [.int .i64 a, .int .i64 b, .int .i64 c, .int .i64 d, .int .i64 e]] s = some (.int .i64 (chk [a, b, c, d, e]), s) := fun s =>
    (evF_orc (P := Tryz.prog) (A := aid0) (d := 98) (orc := orcl) (o := pureO checkS) en39 rfl).trans (pureO_some rfl s)
  have hrck : ∀ s, evF Tryz.prog aid0 orcl 99 (.f 40) [.agg [.int .i64 a, .int .i64 b, .int .i64 c, .int .i64 d, .int .i64 e]] s = some (.int .i64 (chk [a, b, c, d, e]), s) := fun s =>
    (evF_orc (P := Tryz.prog) (A := aid0) (d := 98) (orc := orcl) (o := pureO checkS) en40 rfl).trans (pureO_some rfl s)
  have hnt : ∀ s : St, s.h.get s.nx = none → s.h.get (s.nx + 1) = none → evF Tryz.prog aid0 orcl 99 (.f 17) [] s = some (.ptr (s.nx + 1) 0, ⟨((s.newO (.mp [] 0)).newO (.blk [.snil, .map s.nx])).h, s.nx + 2, s.lg, s.df⟩) := fun s h0 h1 => by
    obtain ⟨u, s', e1, rfl, rfl⟩ := post_ex (post_evF (P := Tryz.prog) (A := aid0) (orc := orcl) (d := 98) en17 rfl (table_body (evF Tryz.prog aid0 orcl 98) s h0 h1))
    exact e1
  have hdg : ∀ s : St, s.h.get 4 = some (.blk [.snil, .map 3]) → s.h.get 3 = some (.mp [] 0) → evF Tryz.prog aid0 orcl 99 (.f 36) [.ptr 4 0, .agg [.int .i64 a, .int .i64 b, .int .i64 c, .int .i64 d, .int .i64 e]] s = some (digR [a, b, c, d, e], (s.delO 4).delO 3) := fun s h0 h1 => by
    refine (evF_orc (P := Tryz.prog) (A := aid0) (d := 98) (orc := orcl) (o := digO) en36 rfl).trans ?_
    show (match tabO s 4, un5 (.agg [.int .i64 a, .int .i64 b, .int .i64 c, .int .i64 d, .int .i64 e]) with
      | some m, some l => some (digR l, (s.delO 4).delO m)
      | _, _ => none) = _
    rw [tabO_some h0 h1 (by omega)]
    rfl
  have hrdg : ∀ s : St, s.h.get 5 = some (.blk [.snil]) → evF Tryz.prog aid0 orcl 99 (.f 37) [.ptr 5 0, .agg [.int .i64 a, .int .i64 b, .int .i64 c, .int .i64 d, .int .i64 e]] s = some (digR [a, b, c, d, e], s.delO 5) := fun s h0 => by
    refine (evF_orc (P := Tryz.prog) (A := aid0) (d := 98) (orc := orcl) (o := rdigO) en37 rfl).trans ?_
    show (bif isPl s 5 then (match un5 (.agg [.int .i64 a, .int .i64 b, .int .i64 c, .int .i64 d, .int .i64 e]) with
      | some l => some (digR l, s.delO 5)
      | none => none) else none) = _
    rw [isPl_some h0]
    rfl
  have heq : ∀ (x : V) xs, bytesV x = some xs → ∀ s, evF Tryz.prog aid0 orcl 99 (.f 38) [x, x] s = some (.bool true, s) := fun x xs hx s => by
    obtain ⟨u, s', e1, rfl, rfl⟩ := post_ex (post_evF (P := Tryz.prog) (A := aid0) (orc := orcl) (d := 98) en38 rfl (equal_body (evF Tryz.prog aid0 orcl 98) x x xs xs hx hx s))
    rw [e1]; simp
  have hP : ∃ a' b' c' d' e' q : Int, prsV v = .tup [.agg [.int .i64 a', .int .i64 b', .int .i64 c', .int .i64 d', .int .i64 e'], .int .i64 q] := by
    rcases prs_back v hk with h | ⟨a', b', c', d', e', h, _, _⟩
    · exact ⟨0, 0, 0, 0, 0, 90, by unfold prsV; rw [h]; rfl⟩
    · exact ⟨a', b', c', d', e', 0, by unfold prsV; rw [h]; rfl⟩
  obtain ⟨a', b', c', d', e', q, hP⟩ := hP
  rw [hP] at hps hrps
  have key : post (evBody Tryz.prog aid0 (evF Tryz.prog aid0 orcl 99) 5 [.agg [.int .i64 a, .int .i64 b, .int .i64 c, .int .i64 d, .int .i64 e], v] ⟨.lf, 0, [], []⟩) (fun u _ => u = .bool true) := by
    rcases chk_or [a, b, c, d, e] with hx | hx
    · have hb0 : bytesR [a, b, c, d, e] = .tup [bsl (hdrB [a, b, c, d, e]) .unk, .int .i64 (chk [a, b, c, d, e])] := by unfold bytesR; rw [if_pos hx, hx]
      rw [hb0] at hby hrby
      exact heads_body _ a b c d e a' b' c' d' e' q (chk [a, b, c, d, e]) _ _ v hlv hby hrby hps hrps hnt hdg hrdg hck hrck (heq _ _ (bytesV_bsl _ _))
    · have hb0 : bytesR [a, b, c, d, e] = .tup [.snil, .int .i64 (chk [a, b, c, d, e])] := by unfold bytesR; rw [if_neg (by rw [hx]; decide), hx]
      rw [hb0] at hby hrby
      exact heads_body _ a b c d e a' b' c' d' e' q (chk [a, b, c, d, e]) _ _ v hlv hby hrby hps hrps hnt hdg hrdg hck hrck (heq _ [] rfl)
  obtain ⟨u, st', h, rfl⟩ := post_ex (post_evF (P := Tryz.prog) (A := aid0) (orc := orcl) (d := 99) en5 rfl key)
  rw [h]; rfl
end Go.Proofs.YtiicpeidjhbhiaaGreat.blockHeaders
