/-
  The codec's reader, as answers.
-/
import Derived.Test.YtiicpeidjhbhiaaGreatCdNum
namespace Go.Proofs.YtiicpeidjhbhiaaGreat.cd
open Go Go.Am ty
set_option linter.unusedSimpArgs false
/-- The small heap: a reader. -/
def st1 (R : V × Int) : St := ⟨Tr.lf.set 0 (some (rdP R)), 1, [], []⟩
theorem st1_get (R : V × Int) : (st1 R).h.get 0 = some (rdP R) := rfl
theorem st1_eta (R : V × Int) : (⟨(st1 R).h, (st1 R).nx, (st1 R).lg, []⟩ : St) = st1 R := rfl
set_option maxRecDepth 100000 in
theorem call_stuck (d k : Nat) (bv : V) (e : Int) (s : St) (h : s.h.get k = some (rdO bv e)) : evF Tryz.prog aid0 orcr (d + 1) (.f 160) [.ptr k 0] s = some (.bool (decide (e ≠ 0)), s) := by
  obtain ⟨u, s', e1, rfl, rfl⟩ := post_ex (post_evF (P := Tryz.prog) (A := aid0) (orc := orcr) (d := d) en160 rfl (stuck_body _ k bv e s h))
  exact e1
set_option maxRecDepth 100000 in
theorem call_fail (d k : Nat) (bv : V) (x : Int) (s : St) (h : s.h.get k = some (rdO bv 0)) : evF Tryz.prog aid0 orcr (d + 2) (.f 159) [.ptr k 0, .int .i64 x] s = some (.tup [], s.putO k (rdO bv x)) := by
  obtain ⟨u, s', e1, rfl, rfl⟩ := post_ex (post_evF (P := Tryz.prog) (A := aid0) (orc := orcr) (d := d + 1) en159 rfl (fail_body _ k bv x s h (call_stuck d k bv 0 ⟨s.h, s.nx, s.lg, []⟩ h)))
  exact e1
set_option maxRecDepth 100000 in
theorem call_err (d k : Nat) (bv : V) (e : Int) (s : St) (h : s.h.get k = some (rdO bv e)) : evF Tryz.prog aid0 orcr (d + 1) (.f 161) [.ptr k 0] s = some (.int .i64 e, s) := by
  obtain ⟨u, s', e1, rfl, rfl⟩ := post_ex (post_evF (P := Tryz.prog) (A := aid0) (orc := orcr) (d := d) en161 rfl (err_body _ k bv e s h))
  exact e1
set_option maxRecDepth 100000 in
theorem num_stuck (call : CallF) (k : Nat) (most : Nat) (s : St) (hs : call (.f 160) [.ptr k 0] ⟨s.h, s.nx, s.lg, []⟩ = some (.bool true, ⟨s.h, s.nx, s.lg, []⟩)) :
    post (evBody Tryz.prog aid0 call 82 [.ptr k 0, .int .u64 most] s) (fun u s' => u = .int .u64 0 ∧ s' = ⟨s.h, s.nx, s.lg, s.df⟩) := by
  refine post_body Tryz.func82 rfl (Nat.le_of_ble_eq_true rfl) ?_
  simp only [Tryz.f82, aid0_H, aid0_mu, aid0_L, x_seq, x_region, x_reg, x_cond, x_block, x_exit, x_ret, x_skip, s_cons, s_nil, w_none, wO, wO_some, wd_t, wd_f, wd_tup, wd_bt, wd_bf, g_t, g_f, g_fn, g_ite, p_some, p_none, p_ite, reg_none, reg_some, reg_ite, prune_nil, prune_cons,
 then_nrm, then_ext, then_ret, then_ite, cond_t, cond_f, cond_b, block_nrm, block_ret, block_ext, block_ite, o_assign, o_move, o_pick, pick_t, pick_f, pick_b, pick_bool, o_bin, o_un, u_not, o_conv, o_load, o_store, o_slice, o_nilck, nilck_ptr, nilck_iptr,
 addr_ptr, addr_iptr, o_bi, o_call, call_fn, rtV_some, rtV_ite, out_ret, out_rt, out_ite, eget_hit, eget_miss, v_tmp, v_fn, v_bool, v_int, v_str, v_nilp, v_snil, v_nilm, v_nilf, v_agg,
 b_add, b_sub, b_mul, b_quo, b_rem, b_and, b_or, b_eql, b_neq, b_lss, b_leq, b_gtr, b_geq, b_shl, b_shr, b_seql, b_sneq, b_pnil, b_pnilN, b_nilnil,
 List.getElem?_cons, Nat.reduceLT, Nat.reduceSub, Nat.reduceAdd, Nat.reduceEqDiff, ne_eq, not_false_eq_true, Option.getD_some, Bool.not_true, Bool.not_false, reduceIte, reduceCtorEq, Nat.succ_ne_zero, List.map_cons, List.map_nil, List.nil_append, List.append_nil, List.cons_append, arg_nil, arg_cons, res_v, ra_nil, ra_cons, r_tmp, r_cell, rc_some, rt_one, rt_two, rt_nil, ldH_some, stH_some, tk_f, tk_t, ixS_sl, ixA_int, fdV_agg, lenV_snil, lenV_sl, lenV_ms, bi_max, bi_min, newT_none, growT_buf, get_set, get_lf, V.cells, List.map_nil, Option.map_some, List.length_cons, List.length_nil, newO_get, newO_nx, newO_df, putO_get, putO_nx, putO_df, delO_get, delO_nx, delO_df, alH_none, o_bx, bxV_agg, bxV_int, bxV_sl, bxV_snil, fill_nil, fill_cons, fillK_some, plc_def, aggO_some, arH_some, apM_some, catP_nil, catP_cons, okIdx_nil, okIdx_cons, postC_ite, post_ite, postC_some, post_some, o_extract2, exV_tup, o_mkfn, Option.map_none, Int.reduceEq, Int.reduceNe, Int.reduceLE, Int.reduceLT, Int.reduceToNat, Int.reducePow, Int.reduceNeg, Nat.reduceLeDiff, Nat.reduceMul, Nat.reducePow, true_and, and_true, decide_eq_true_eq, List.all_cons, List.all_nil, V.one, Bool.and_self, Bool.and_true, IntKind.bits, Int.toNat_natCast, Nat.mul_one, Nat.zero_add, V.flat, List.size_toArray, decide_true, decide_false, Bool.false_eq_true, Nat.zero_le, Int.natCast_nonneg, ld2, ldr2, li2, st2, ld4, ldr4, li4, st4, ld5, ldr5, li5, st5, ld22, ldr22, li22, st22, ld53, ldr53, li53, st53, ld60, ldr60, li60, st60, ld98, ldr98, li98, st98, ld107, ldr107, li107, st107, ld154, ldr154, li154, st154, ld179, ldr179, li179, st179, ld277, ldr277, li277, st277, fa98_0, fa98_1, fa98_2, fa98_3, fa98_4, fa109_0, fa156_0, fa156_1, fa281_0, fa281_1, fa281_2, fa284_0, fa284_1, far98_0, far98_1, far98_2, far98_3, far98_4, far109_0, far156_0, far156_1, far281_0, far281_1, far281_2, far284_0, far284_1, ix60, ix63, ix176, ix277, al98, al109, al179, al277, al281, al284, bl98, bl109, bl281, bl284, bs60, bs63, bs107, bs176, slo60, shi60, ahr277, ahi277, app60_60, app107_107, len60, len63, len107, len176, cvr2_178, cv2_178, cvr3_178, cv3_178, cvr5_178, cv5_178, cvr22_178, cv22_178, cvr178_2, cv178_2, cvr178_5, cv178_5, cvr178_22, cv178_22, bpe47, bpn47, bsn60, bnn60, bpe179, bpn179, lenr60, lenr63, lenr107, lenr176, bsm60, bsm63, bsm107, bsm176, ap_nil el5, ap_ex el5, ap_tok el5, ap_ex_ms el5, ap_nil_ms el5, ap_nothing el5, apr_ex_ms el5, apr_nil_ms el5, ap_nil el60, ap_ex el60, ap_tok el60, ap_ex_ms el60, ap_nil_ms el60, ap_nothing el60, apr_ex_ms el60, apr_nil_ms el60, hs]
  first | exact fun _ => trivial | exact ⟨fun _ => trivial, rfl⟩
set_option maxRecDepth 100000 in
theorem take_stuck (call : CallF) (k : Nat) (s : St) (hs : call (.f 160) [.ptr k 0] ⟨s.h, s.nx, s.lg, []⟩ = some (.bool true, ⟨s.h, s.nx, s.lg, []⟩)) :
    post (evBody Tryz.prog aid0 call 80 [.ptr k 0, .int .i64 1] s) (fun u s' => u = .snil ∧ s' = ⟨s.h, s.nx, s.lg, s.df⟩) := by
  refine post_body Tryz.func80 rfl (Nat.le_of_ble_eq_true rfl) ?_
  simp only [Tryz.f80, aid0_H, aid0_mu, aid0_L, x_seq, x_region, x_reg, x_cond, x_block, x_exit, x_ret, x_skip, s_cons, s_nil, w_none, wO, wO_some, wd_t, wd_f, wd_tup, wd_bt, wd_bf, g_t, g_f, g_fn, g_ite, p_some, p_none, p_ite, reg_none, reg_some, reg_ite, prune_nil, prune_cons,
 then_nrm, then_ext, then_ret, then_ite, cond_t, cond_f, cond_b, block_nrm, block_ret, block_ext, block_ite, o_assign, o_move, o_pick, pick_t, pick_f, pick_b, pick_bool, o_bin, o_un, u_not, o_conv, o_load, o_store, o_slice, o_nilck, nilck_ptr, nilck_iptr,
 addr_ptr, addr_iptr, o_bi, o_call, call_fn, rtV_some, rtV_ite, out_ret, out_rt, out_ite, eget_hit, eget_miss, v_tmp, v_fn, v_bool, v_int, v_str, v_nilp, v_snil, v_nilm, v_nilf, v_agg,
 b_add, b_sub, b_mul, b_quo, b_rem, b_and, b_or, b_eql, b_neq, b_lss, b_leq, b_gtr, b_geq, b_shl, b_shr, b_seql, b_sneq, b_pnil, b_pnilN, b_nilnil,
 List.getElem?_cons, Nat.reduceLT, Nat.reduceSub, Nat.reduceAdd, Nat.reduceEqDiff, ne_eq, not_false_eq_true, Option.getD_some, Bool.not_true, Bool.not_false, reduceIte, reduceCtorEq, Nat.succ_ne_zero, List.map_cons, List.map_nil, List.nil_append, List.append_nil, List.cons_append, arg_nil, arg_cons, res_v, ra_nil, ra_cons, r_tmp, r_cell, rc_some, rt_one, rt_two, rt_nil, ldH_some, stH_some, tk_f, tk_t, ixS_sl, ixA_int, fdV_agg, lenV_snil, lenV_sl, lenV_ms, bi_max, bi_min, newT_none, growT_buf, get_set, get_lf, V.cells, List.map_nil, Option.map_some, List.length_cons, List.length_nil, newO_get, newO_nx, newO_df, putO_get, putO_nx, putO_df, delO_get, delO_nx, delO_df, alH_none, o_bx, bxV_agg, bxV_int, bxV_sl, bxV_snil, fill_nil, fill_cons, fillK_some, plc_def, aggO_some, arH_some, apM_some, catP_nil, catP_cons, okIdx_nil, okIdx_cons, postC_ite, post_ite, postC_some, post_some, o_extract2, exV_tup, o_mkfn, Option.map_none, Int.reduceEq, Int.reduceNe, Int.reduceLE, Int.reduceLT, Int.reduceToNat, Int.reducePow, Int.reduceNeg, Nat.reduceLeDiff, Nat.reduceMul, Nat.reducePow, true_and, and_true, decide_eq_true_eq, List.all_cons, List.all_nil, V.one, Bool.and_self, Bool.and_true, IntKind.bits, Int.toNat_natCast, Nat.mul_one, Nat.zero_add, V.flat, List.size_toArray, decide_true, decide_false, Bool.false_eq_true, Nat.zero_le, Int.natCast_nonneg, ld2, ldr2, li2, st2, ld4, ldr4, li4, st4, ld5, ldr5, li5, st5, ld22, ldr22, li22, st22, ld53, ldr53, li53, st53, ld60, ldr60, li60, st60, ld98, ldr98, li98, st98, ld107, ldr107, li107, st107, ld154, ldr154, li154, st154, ld179, ldr179, li179, st179, ld277, ldr277, li277, st277, fa98_0, fa98_1, fa98_2, fa98_3, fa98_4, fa109_0, fa156_0, fa156_1, fa281_0, fa281_1, fa281_2, fa284_0, fa284_1, far98_0, far98_1, far98_2, far98_3, far98_4, far109_0, far156_0, far156_1, far281_0, far281_1, far281_2, far284_0, far284_1, ix60, ix63, ix176, ix277, al98, al109, al179, al277, al281, al284, bl98, bl109, bl281, bl284, bs60, bs63, bs107, bs176, slo60, shi60, ahr277, ahi277, app60_60, app107_107, len60, len63, len107, len176, cvr2_178, cv2_178, cvr3_178, cv3_178, cvr5_178, cv5_178, cvr22_178, cv22_178, cvr178_2, cv178_2, cvr178_5, cv178_5, cvr178_22, cv178_22, bpe47, bpn47, bsn60, bnn60, bpe179, bpn179, lenr60, lenr63, lenr107, lenr176, bsm60, bsm63, bsm107, bsm176, ap_nil el5, ap_ex el5, ap_tok el5, ap_ex_ms el5, ap_nil_ms el5, ap_nothing el5, apr_ex_ms el5, apr_nil_ms el5, ap_nil el60, ap_ex el60, ap_tok el60, ap_ex_ms el60, ap_nil_ms el60, ap_nothing el60, apr_ex_ms el60, apr_nil_ms el60, hs]
  first | exact fun _ => trivial | exact ⟨fun _ => trivial, rfl⟩
set_option maxRecDepth 100000 in
theorem take_cut (call : CallF) (k : Nat) (bv : V) (hb : bv = .snil ∨ bv = bsl [] .unk) (s : St) (h : s.h.get k = some (rdO bv 0)) (hs : call (.f 160) [.ptr k 0] ⟨s.h, s.nx, s.lg, []⟩ = some (.bool false, ⟨s.h, s.nx, s.lg, []⟩))
    (hfl : call (.f 159) [.ptr k 0, .int .i64 10] ⟨s.h, s.nx, s.lg, []⟩ = some (.tup [], (⟨s.h, s.nx, s.lg, []⟩ : St).putO k (rdO bv 10)))
    (hs2 : call (.f 160) [.ptr k 0] ((⟨s.h, s.nx, s.lg, []⟩ : St).putO k (rdO bv 10)) = some (.bool true, (⟨s.h, s.nx, s.lg, []⟩ : St).putO k (rdO bv 10))) :
    post (evBody Tryz.prog aid0 call 80 [.ptr k 0, .int .i64 1] s) (fun u s' => u = .snil ∧ s' = s.putO k (rdO bv 10)) := by
  refine post_body Tryz.func80 rfl (Nat.le_of_ble_eq_true rfl) ?_
  have h' := h
  simp only [rdO] at h
  rcases hb with rfl | rfl
  · have c1 : (1 : Int) > 0 := by omega
    simp only [Tryz.f80, aid0_H, aid0_mu, aid0_L, x_seq, x_region, x_reg, x_cond, x_block, x_exit, x_ret, x_skip, s_cons, s_nil, w_none, wO, wO_some, wd_t, wd_f, wd_tup, wd_bt, wd_bf, g_t, g_f, g_fn, g_ite, p_some, p_none, p_ite, reg_none, reg_some, reg_ite, prune_nil, prune_cons,
 then_nrm, then_ext, then_ret, then_ite, cond_t, cond_f, cond_b, block_nrm, block_ret, block_ext, block_ite, o_assign, o_move, o_pick, pick_t, pick_f, pick_b, pick_bool, o_bin, o_un, u_not, o_conv, o_load, o_store, o_slice, o_nilck, nilck_ptr, nilck_iptr,
 addr_ptr, addr_iptr, o_bi, o_call, call_fn, rtV_some, rtV_ite, out_ret, out_rt, out_ite, eget_hit, eget_miss, v_tmp, v_fn, v_bool, v_int, v_str, v_nilp, v_snil, v_nilm, v_nilf, v_agg,
 b_add, b_sub, b_mul, b_quo, b_rem, b_and, b_or, b_eql, b_neq, b_lss, b_leq, b_gtr, b_geq, b_shl, b_shr, b_seql, b_sneq, b_pnil, b_pnilN, b_nilnil,
 List.getElem?_cons, Nat.reduceLT, Nat.reduceSub, Nat.reduceAdd, Nat.reduceEqDiff, ne_eq, not_false_eq_true, Option.getD_some, Bool.not_true, Bool.not_false, reduceIte, reduceCtorEq, Nat.succ_ne_zero, List.map_cons, List.map_nil, List.nil_append, List.append_nil, List.cons_append, arg_nil, arg_cons, res_v, ra_nil, ra_cons, r_tmp, r_cell, rc_some, rt_one, rt_two, rt_nil, ldH_some, stH_some, tk_f, tk_t, ixS_sl, ixA_int, fdV_agg, lenV_snil, lenV_sl, lenV_ms, bi_max, bi_min, newT_none, growT_buf, get_set, get_lf, V.cells, List.map_nil, Option.map_some, List.length_cons, List.length_nil, newO_get, newO_nx, newO_df, putO_get, putO_nx, putO_df, delO_get, delO_nx, delO_df, alH_none, o_bx, bxV_agg, bxV_int, bxV_sl, bxV_snil, fill_nil, fill_cons, fillK_some, plc_def, aggO_some, arH_some, apM_some, catP_nil, catP_cons, okIdx_nil, okIdx_cons, postC_ite, post_ite, postC_some, post_some, o_extract2, exV_tup, o_mkfn, Option.map_none, Int.reduceEq, Int.reduceNe, Int.reduceLE, Int.reduceLT, Int.reduceToNat, Int.reducePow, Int.reduceNeg, Nat.reduceLeDiff, Nat.reduceMul, Nat.reducePow, true_and, and_true, decide_eq_true_eq, List.all_cons, List.all_nil, V.one, Bool.and_self, Bool.and_true, IntKind.bits, Int.toNat_natCast, Nat.mul_one, Nat.zero_add, V.flat, List.size_toArray, decide_true, decide_false, Bool.false_eq_true, Nat.zero_le, Int.natCast_nonneg, ld2, ldr2, li2, st2, ld4, ldr4, li4, st4, ld5, ldr5, li5, st5, ld22, ldr22, li22, st22, ld53, ldr53, li53, st53, ld60, ldr60, li60, st60, ld98, ldr98, li98, st98, ld107, ldr107, li107, st107, ld154, ldr154, li154, st154, ld179, ldr179, li179, st179, ld277, ldr277, li277, st277, fa98_0, fa98_1, fa98_2, fa98_3, fa98_4, fa109_0, fa156_0, fa156_1, fa281_0, fa281_1, fa281_2, fa284_0, fa284_1, far98_0, far98_1, far98_2, far98_3, far98_4, far109_0, far156_0, far156_1, far281_0, far281_1, far281_2, far284_0, far284_1, ix60, ix63, ix176, ix277, al98, al109, al179, al277, al281, al284, bl98, bl109, bl281, bl284, bs60, bs63, bs107, bs176, slo60, shi60, ahr277, ahi277, app60_60, app107_107, len60, len63, len107, len176, cvr2_178, cv2_178, cvr3_178, cv3_178, cvr5_178, cv5_178, cvr22_178, cv22_178, cvr178_2, cv178_2, cvr178_5, cv178_5, cvr178_22, cv178_22, bpe47, bpn47, bsn60, bnn60, bpe179, bpn179, lenr60, lenr63, lenr107, lenr176, bsm60, bsm63, bsm107, bsm176, ap_nil el5, ap_ex el5, ap_tok el5, ap_ex_ms el5, ap_nil_ms el5, ap_nothing el5, apr_ex_ms el5, apr_nil_ms el5, ap_nil el60, ap_ex el60, ap_tok el60, ap_ex_ms el60, ap_nil_ms el60, ap_nothing el60, apr_ex_ms el60, apr_nil_ms el60, h, hs, hfl, hs2, c1]
    exact ⟨fun _ => trivial, rfl⟩
  · have c1 : (1 : Int) > ((0 : Nat) : Int) := by omega
    simp only [bsl, List.length_nil, List.map_nil] at h hfl hs2
    simp only [Tryz.f80, aid0_H, aid0_mu, aid0_L, x_seq, x_region, x_reg, x_cond, x_block, x_exit, x_ret, x_skip, s_cons, s_nil, w_none, wO, wO_some, wd_t, wd_f, wd_tup, wd_bt, wd_bf, g_t, g_f, g_fn, g_ite, p_some, p_none, p_ite, reg_none, reg_some, reg_ite, prune_nil, prune_cons,
 then_nrm, then_ext, then_ret, then_ite, cond_t, cond_f, cond_b, block_nrm, block_ret, block_ext, block_ite, o_assign, o_move, o_pick, pick_t, pick_f, pick_b, pick_bool, o_bin, o_un, u_not, o_conv, o_load, o_store, o_slice, o_nilck, nilck_ptr, nilck_iptr,
 addr_ptr, addr_iptr, o_bi, o_call, call_fn, rtV_some, rtV_ite, out_ret, out_rt, out_ite, eget_hit, eget_miss, v_tmp, v_fn, v_bool, v_int, v_str, v_nilp, v_snil, v_nilm, v_nilf, v_agg,
 b_add, b_sub, b_mul, b_quo, b_rem, b_and, b_or, b_eql, b_neq, b_lss, b_leq, b_gtr, b_geq, b_shl, b_shr, b_seql, b_sneq, b_pnil, b_pnilN, b_nilnil,
 List.getElem?_cons, Nat.reduceLT, Nat.reduceSub, Nat.reduceAdd, Nat.reduceEqDiff, ne_eq, not_false_eq_true, Option.getD_some, Bool.not_true, Bool.not_false, reduceIte, reduceCtorEq, Nat.succ_ne_zero, List.map_cons, List.map_nil, List.nil_append, List.append_nil, List.cons_append, arg_nil, arg_cons, res_v, ra_nil, ra_cons, r_tmp, r_cell, rc_some, rt_one, rt_two, rt_nil, ldH_some, stH_some, tk_f, tk_t, ixS_sl, ixA_int, fdV_agg, lenV_snil, lenV_sl, lenV_ms, bi_max, bi_min, newT_none, growT_buf, get_set, get_lf, V.cells, List.map_nil, Option.map_some, List.length_cons, List.length_nil, newO_get, newO_nx, newO_df, putO_get, putO_nx, putO_df, delO_get, delO_nx, delO_df, alH_none, o_bx, bxV_agg, bxV_int, bxV_sl, bxV_snil, fill_nil, fill_cons, fillK_some, plc_def, aggO_some, arH_some, apM_some, catP_nil, catP_cons, okIdx_nil, okIdx_cons, postC_ite, post_ite, postC_some, post_some, o_extract2, exV_tup, o_mkfn, Option.map_none, Int.reduceEq, Int.reduceNe, Int.reduceLE, Int.reduceLT, Int.reduceToNat, Int.reducePow, Int.reduceNeg, Nat.reduceLeDiff, Nat.reduceMul, Nat.reducePow, true_and, and_true, decide_eq_true_eq, List.all_cons, List.all_nil, V.one, Bool.and_self, Bool.and_true, IntKind.bits, Int.toNat_natCast, Nat.mul_one, Nat.zero_add, V.flat, List.size_toArray, decide_true, decide_false, Bool.false_eq_true, Nat.zero_le, Int.natCast_nonneg, ld2, ldr2, li2, st2, ld4, ldr4, li4, st4, ld5, ldr5, li5, st5, ld22, ldr22, li22, st22, ld53, ldr53, li53, st53, ld60, ldr60, li60, st60, ld98, ldr98, li98, st98, ld107, ldr107, li107, st107, ld154, ldr154, li154, st154, ld179, ldr179, li179, st179, ld277, ldr277, li277, st277, fa98_0, fa98_1, fa98_2, fa98_3, fa98_4, fa109_0, fa156_0, fa156_1, fa281_0, fa281_1, fa281_2, fa284_0, fa284_1, far98_0, far98_1, far98_2, far98_3, far98_4, far109_0, far156_0, far156_1, far281_0, far281_1, far281_2, far284_0, far284_1, ix60, ix63, ix176, ix277, al98, al109, al179, al277, al281, al284, bl98, bl109, bl281, bl284, bs60, bs63, bs107, bs176, slo60, shi60, ahr277, ahi277, app60_60, app107_107, len60, len63, len107, len176, cvr2_178, cv2_178, cvr3_178, cv3_178, cvr5_178, cv5_178, cvr22_178, cv22_178, cvr178_2, cv178_2, cvr178_5, cv178_5, cvr178_22, cv178_22, bpe47, bpn47, bsn60, bnn60, bpe179, bpn179, lenr60, lenr63, lenr107, lenr176, bsm60, bsm63, bsm107, bsm176, ap_nil el5, ap_ex el5, ap_tok el5, ap_ex_ms el5, ap_nil_ms el5, ap_nothing el5, apr_ex_ms el5, apr_nil_ms el5, ap_nil el60, ap_ex el60, ap_tok el60, ap_ex_ms el60, ap_nil_ms el60, ap_nothing el60, apr_ex_ms el60, apr_nil_ms el60, h, hs, hfl, hs2, c1]
    exact ⟨fun _ => trivial, rfl⟩
set_option maxRecDepth 100000 in
theorem take_one (call : CallF) (k b : Nat) (r : List Nat) (s : St) (h : s.h.get k = some (rdO (bsl (b :: r) .unk) 0)) (hs : call (.f 160) [.ptr k 0] ⟨s.h, s.nx, s.lg, []⟩ = some (.bool false, ⟨s.h, s.nx, s.lg, []⟩))
    (hc : call (.f 158) [bsl [b] .unk] ⟨s.h, s.nx, s.lg, []⟩ = some (bsl [b] .unk, ⟨s.h, s.nx, s.lg, []⟩)) :
    post (evBody Tryz.prog aid0 call 80 [.ptr k 0, .int .i64 1] s) (fun u s' => u = bsl [b] .unk ∧ s' = s.putO k (rdO (bsl r .unk) 0)) := by
  refine post_body Tryz.func80 rfl (Nat.le_of_ble_eq_true rfl) ?_
  have c1 : ¬ ((1 : Int) > ((b :: r).length : Int)) := by simp; omega
  have c2 : (1 : Int) ≤ ((b :: r).length : Int) := by simp; omega
  have cpu : ∀ x : Bool, (bif x then Cp.unk else Cp.unk) = Cp.unk := fun x => by cases x <;> rfl
  have d1 : List.take 1 ((b :: r).map u8V) = [u8V b] := rfl
  have d2 : List.take r.length (List.drop 1 ((b :: r).map u8V)) = r.map u8V := by
    show List.take r.length (r.map u8V) = r.map u8V
    rw [List.take_of_length_le (by simp)]
  have d3 : (b :: r).length - 1 = r.length := rfl
  generalize hL : (b :: r).length = L at c1 c2 d2 d3
  generalize hM : (b :: r).map u8V = M at d1 d2
  simp only [rdO, bsl, hL, hM] at h
  simp only [bsl, List.map_cons, List.map_nil, List.length_cons, List.length_nil, Nat.zero_add] at hc
  simp only [Tryz.f80, aid0_H, aid0_mu, aid0_L, x_seq, x_region, x_reg, x_cond, x_block, x_exit, x_ret, x_skip, s_cons, s_nil, w_none, wO, wO_some, wd_t, wd_f, wd_tup, wd_bt, wd_bf, g_t, g_f, g_fn, g_ite, p_some, p_none, p_ite, reg_none, reg_some, reg_ite, prune_nil, prune_cons,
 then_nrm, then_ext, then_ret, then_ite, cond_t, cond_f, cond_b, block_nrm, block_ret, block_ext, block_ite, o_assign, o_move, o_pick, pick_t, pick_f, pick_b, pick_bool, o_bin, o_un, u_not, o_conv, o_load, o_store, o_slice, o_nilck, nilck_ptr, nilck_iptr,
 addr_ptr, addr_iptr, o_bi, o_call, call_fn, rtV_some, rtV_ite, out_ret, out_rt, out_ite, eget_hit, eget_miss, v_tmp, v_fn, v_bool, v_int, v_str, v_nilp, v_snil, v_nilm, v_nilf, v_agg,
 b_add, b_sub, b_mul, b_quo, b_rem, b_and, b_or, b_eql, b_neq, b_lss, b_leq, b_gtr, b_geq, b_shl, b_shr, b_seql, b_sneq, b_pnil, b_pnilN, b_nilnil,
 List.getElem?_cons, Nat.reduceLT, Nat.reduceSub, Nat.reduceAdd, Nat.reduceEqDiff, ne_eq, not_false_eq_true, Option.getD_some, Bool.not_true, Bool.not_false, reduceIte, reduceCtorEq, Nat.succ_ne_zero, List.map_cons, List.map_nil, List.nil_append, List.append_nil, List.cons_append, arg_nil, arg_cons, res_v, ra_nil, ra_cons, r_tmp, r_cell, rc_some, rt_one, rt_two, rt_nil, ldH_some, stH_some, tk_f, tk_t, ixS_sl, ixA_int, fdV_agg, lenV_snil, lenV_sl, lenV_ms, bi_max, bi_min, newT_none, growT_buf, get_set, get_lf, V.cells, List.map_nil, Option.map_some, List.length_cons, List.length_nil, newO_get, newO_nx, newO_df, putO_get, putO_nx, putO_df, delO_get, delO_nx, delO_df, alH_none, o_bx, bxV_agg, bxV_int, bxV_sl, bxV_snil, fill_nil, fill_cons, fillK_some, plc_def, aggO_some, arH_some, apM_some, catP_nil, catP_cons, okIdx_nil, okIdx_cons, postC_ite, post_ite, postC_some, post_some, o_extract2, exV_tup, o_mkfn, Option.map_none, Int.reduceEq, Int.reduceNe, Int.reduceLE, Int.reduceLT, Int.reduceToNat, Int.reducePow, Int.reduceNeg, Nat.reduceLeDiff, Nat.reduceMul, Nat.reducePow, true_and, and_true, decide_eq_true_eq, List.all_cons, List.all_nil, V.one, Bool.and_self, Bool.and_true, IntKind.bits, Int.toNat_natCast, Nat.mul_one, Nat.zero_add, V.flat, List.size_toArray, decide_true, decide_false, Bool.false_eq_true, Nat.zero_le, Int.natCast_nonneg, ld2, ldr2, li2, st2, ld4, ldr4, li4, st4, ld5, ldr5, li5, st5, ld22, ldr22, li22, st22, ld53, ldr53, li53, st53, ld60, ldr60, li60, st60, ld98, ldr98, li98, st98, ld107, ldr107, li107, st107, ld154, ldr154, li154, st154, ld179, ldr179, li179, st179, ld277, ldr277, li277, st277, fa98_0, fa98_1, fa98_2, fa98_3, fa98_4, fa109_0, fa156_0, fa156_1, fa281_0, fa281_1, fa281_2, fa284_0, fa284_1, far98_0, far98_1, far98_2, far98_3, far98_4, far109_0, far156_0, far156_1, far281_0, far281_1, far281_2, far284_0, far284_1, ix60, ix63, ix176, ix277, al98, al109, al179, al277, al281, al284, bl98, bl109, bl281, bl284, bs60, bs63, bs107, bs176, slo60, shi60, ahr277, ahi277, app60_60, app107_107, len60, len63, len107, len176, cvr2_178, cv2_178, cvr3_178, cv3_178, cvr5_178, cv5_178, cvr22_178, cv22_178, cvr178_2, cv178_2, cvr178_5, cv178_5, cvr178_22, cv178_22, bpe47, bpn47, bsn60, bnn60, bpe179, bpn179, lenr60, lenr63, lenr107, lenr176, bsm60, bsm63, bsm107, bsm176, ap_nil el5, ap_ex el5, ap_tok el5, ap_ex_ms el5, ap_nil_ms el5, ap_nothing el5, apr_ex_ms el5, apr_nil_ms el5, ap_nil el60, ap_ex el60, ap_tok el60, ap_ex_ms el60, ap_nil_ms el60, ap_nothing el60, apr_ex_ms el60, apr_nil_ms el60, h, hs, hc, c1, c2, cpu, d1, d2, d3, splice_def, List.take_zero, List.take_succ_cons, List.drop_succ_cons, List.drop_zero]
  exact ⟨fun _ => trivial, rfl, rfl⟩
def orcn0 := orcr
noncomputable def orcn : Nat → Option (List V → St → Option (V × St)) := fun g => bif Nat.beq g 82 then some numO else orcr g
theorem okR_un (v : V) (h : okR v) : (v = .snil ∧ bytesD v = []) ∨ v = bsl (bytesD v) .unk := by
  rcases h with rfl | ⟨bs, rfl, _⟩
  · exact .inl ⟨rfl, rfl⟩
  · right; rw [bytesD_bsl]
theorem okR_len (v : V) (h : okR v) : (bytesD v).length ≤ 1099511627776 ∧ ∀ b ∈ bytesD v, b < 256 := by
  rcases h with rfl | ⟨bs, rfl, h1, h2⟩
  · simp [bytesD_snil]
  · rw [bytesD_bsl]; exact ⟨h1, h2⟩
set_option maxRecDepth 100000 in
theorem ok_orcn : OrcOk Tryz.prog orcn := by
  refine orc_add mixed ok_orcr (fun args s v s' h => ?_)
  unfold numO at h
  split at h
  · rename_i n most
    split at h
    · rename_i hm
      obtain ⟨R, hg, hk, rfl, rfl⟩ := cellH_inv h
      obtain ⟨bv, e⟩ := R
      simp only at hk
      have fin : ∀ (u : V) (t : St) (R' : V × Int), okR R'.1 → evF Tryz.prog aid0 orcr 4 (.f 82) [.ptr 0 0, .int .u64 most] (st1 (bv, e)) = some (u, t) → t.h.get 0 = some (rdP R') → u = (numV most (bv, e)).1 → R' = (numV most (bv, e)).2 → Small Tryz.prog orcr 82 [.ptr n 0, .int .u64 (.ofNat most)] s (numV most (bv, e)).1 (s.putO n (rdP (numV most (bv, e)).2)) := by
        intro u t R' hR he hgt hu hR'
        subst hu; subst hR'
        exact cell_small hg he hgt (.cons (wk_int _ _) .nil) (hk.cells e) (wk_int _ _) (hR.cells _)
      by_cases he : e = 0
      · subst he
        obtain ⟨hl, hby⟩ := okR_len bv hk
        have hst := call_stuck 2 0 bv 0 (st1 (bv, 0)) (st1_get _)
        have h1 := num_body (evF Tryz.prog aid0 orcr 3) 0 bv (bytesD bv) (okR_un bv hk) hby hl most hm (st1 (bv, 0)) (st1_get _) hst (fun x => call_fail 1 0 bv x (st1 (bv, 0)) (st1_get _))
        obtain ⟨u, t, h2, h3, h4⟩ := post_ex (post_evF (orc := orcr) en82 rfl h1)
        refine fin u t (numP most (bv, 0)).2 (hk.num (R := (bv, 0)) most) h2 ?_ ?_ rfl
        · rw [h4, putO_get, if_pos rfl]
          unfold numP
          simp only [ne_eq, not_true_eq_false, if_false]
          split <;> rfl
        · rw [h3]; unfold numV numP; simp
      · have hst := call_stuck 2 0 bv e (st1 (bv, e)) (st1_get _)
        have hd : decide (e ≠ 0) = true := by simp [he]
        rw [hd] at hst
        have h1 := num_stuck (evF Tryz.prog aid0 orcr 3) 0 most (st1 (bv, e)) hst
        obtain ⟨u, t, h2, h3, h4⟩ := post_ex (post_evF (orc := orcr) en82 rfl h1)
        refine fin u t (bv, e) hk h2 (by rw [h4]; rfl) ?_ ?_
        · rw [h3]; unfold numV numP; simp [he]
        · unfold numV numP; simp [he]
    · cases h
  · cases h
noncomputable def orct : Nat → Option (List V → St → Option (V × St)) := fun g => bif Nat.beq g 80 then some takeO else orcn g
end Go.Proofs.YtiicpeidjhbhiaaGreat.cd
