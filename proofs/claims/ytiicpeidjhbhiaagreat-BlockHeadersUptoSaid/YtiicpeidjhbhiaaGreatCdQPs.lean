/-
  The header of bytes, by the document.
-/
import Derived.Test.YtiicpeidjhbhiaaGreatCdQRd2
namespace Go.Proofs.YtiicpeidjhbhiaaGreat.cd
open Go Go.Am ty
set_option linter.unusedSimpArgs false
theorem en35 : enterOk Tryz.prog 35 = true := by kernel_rfl
set_option maxRecDepth 100000 in
set_option maxHeartbeats 8000000 in
theorem rparse_body (call : CallF) (v : V) (hv : okR (wkB v))
    (hrd : call (.f 84) [v] ((⟨.lf, 0, [], []⟩ : St).newO (.blk [.int .i64 0, .int .i64 0, .int .i64 0, .int .i64 0, .int .i64 0])) = some (.ptr 1 0, ((⟨.lf, 0, [], []⟩ : St).newO (.blk [.int .i64 0, .int .i64 0, .int .i64 0, .int .i64 0, .int .i64 0])).newO (rqP (wkB v, 0))))
    (htk : ∀ n s, call (.f 85) [.ptr n 0, .int .i64 1] s = cellQ takeP (s.h.get n) n s)
    (hnm : ∀ n s, call (.f 86) [.ptr n 0, .int .u64 9007199254740992] s = cellQ (numV mx) (s.h.get n) n s)
    (hdn : ∀ n s, call (.f 87) [.ptr n 0] s = cellQ doneV (s.h.get n) n s) :
    post (evBody Tryz.prog aid0 call 35 [v] ⟨.lf, 0, [], []⟩) (fun u _ => u = prsV v) := by
  refine post_body Tryz.func35 rfl (Nat.le_of_ble_eq_true rfl) ?_
  unfold prsV prs
  have hT1 := took_one v hv
  generalize hR1 : (takeP (wkB v, 0)).2 = R1 at hT1 ⊢
  have k1 : okR R1.1 := by rw [← hR1]; exact okR.take (R := (wkB v, 0)) hv
  generalize hR2 : numP mx R1 = R2 at hT1 ⊢
  have k2 : okR R2.2.1 := by rw [← hR2]; exact okR.num k1 mx
  have w2 : R2.1 ≤ 9007199254740992 := by rw [← hR2]; exact num_le R1
  generalize hR3 : numP mx R2.2 = R3 at hT1 ⊢
  have k3 : okR R3.2.1 := by rw [← hR3]; exact okR.num k2 mx
  have w3 : R3.1 ≤ 9007199254740992 := by rw [← hR3]; exact num_le R2.2
  generalize hR4 : numP mx R3.2 = R4 at hT1 ⊢
  have k4 : okR R4.2.1 := by rw [← hR4]; exact okR.num k3 mx
  have w4 : R4.1 ≤ 9007199254740992 := by rw [← hR4]; exact num_le R3.2
  generalize hR5 : numP mx R4.2 = R5 at hT1 ⊢
  have k5 : okR R5.2.1 := by rw [← hR5]; exact okR.num k4 mx
  have w5 : R5.1 ≤ 9007199254740992 := by rw [← hR5]; exact num_le R4.2
  generalize hR6 : numP mx R5.2 = R6 at hT1 ⊢
  have k6 : okR R6.2.1 := by rw [← hR6]; exact okR.num k5 mx
  have w6 : R6.1 ≤ 9007199254740992 := by rw [← hR6]; exact num_le R5.2
  generalize hT : (takeP (wkB v, 0)).1 = T at hT1 ⊢
  have hw : ∀ n : Nat, n ≤ 9007199254740992 → IntKind.i64.wrap (n : Int) = (n : Int) := fun n h => wrap_i64 _ (by omega) (by omega)
  have hw2 := hw _ w2
  have hw3 := hw _ w3
  have hw4 := hw _ w4
  have hw5 := hw _ w5
  have hw6 := hw _ w6
  have q0 : ∀ n s, cellQ takeP (some (rqP (wkB v, 0))) n s = some (T, s.putO n (rqP R1)) := fun n s => by rw [cellQ_some nz_take (wkB v, 0) _ _ hv, hR1, hT]
  have q1 : ∀ n s, cellQ (numV mx) (some (rqP R1)) n s = some (.int .u64 R2.1, s.putO n (rqP R2.2)) := fun n s => by rw [cellQ_some (nz_num mx) _ _ _ k1, numV, hR2]
  have q2 : ∀ n s, cellQ (numV mx) (some (rqP R2.2)) n s = some (.int .u64 R3.1, s.putO n (rqP R3.2)) := fun n s => by rw [cellQ_some (nz_num mx) _ _ _ k2, numV, hR3]
  have q3 : ∀ n s, cellQ (numV mx) (some (rqP R3.2)) n s = some (.int .u64 R4.1, s.putO n (rqP R4.2)) := fun n s => by rw [cellQ_some (nz_num mx) _ _ _ k3, numV, hR4]
  have q4 : ∀ n s, cellQ (numV mx) (some (rqP R4.2)) n s = some (.int .u64 R5.1, s.putO n (rqP R5.2)) := fun n s => by rw [cellQ_some (nz_num mx) _ _ _ k4, numV, hR5]
  have q5 : ∀ n s, cellQ (numV mx) (some (rqP R5.2)) n s = some (.int .u64 R6.1, s.putO n (rqP R6.2)) := fun n s => by rw [cellQ_some (nz_num mx) _ _ _ k5, numV, hR6]
  have q6 : ∀ n s, cellQ doneV (some (rqP R6.2)) n s = some (.int .i64 (doneP R6.2), s.putO n (rqP R6.2)) := fun n s => by rw [cellQ_some nz_done _ _ _ k6, doneV]
  have c0 : (0 : Int) < ((1 : Nat) : Int) := by omega
  have c3t : (((3 : Nat) : Int) = 3) = True := eq_true rfl
  by_cases hd : doneP R6.2 = 0
  · obtain ⟨b, hb, rfl⟩ := hT1 hd
    by_cases he : b = 3
    · subst he
      have he : bytesD (bsl [3] .unk) = [3] := bytesD_bsl _ _
      rw [if_pos ⟨hd, he⟩]
      simp only [bsl, List.map_cons, List.map_nil, List.length_cons, List.length_nil, Nat.zero_add, u8V] at q0
      simp only [Tryz.f35, aid0_H, aid0_mu, aid0_L, x_seq, x_region, x_reg, x_cond, x_block, x_exit, x_ret, x_skip, s_cons, s_nil, w_none, wO, wO_some, wd_t, wd_f, wd_tup, wd_bt, wd_bf, g_t, g_f, g_fn, g_ite, p_some, p_none, p_ite, reg_none, reg_some, reg_ite, prune_nil, prune_cons,
 then_nrm, then_ext, then_ret, then_ite, cond_t, cond_f, cond_b, block_nrm, block_ret, block_ext, block_ite, o_assign, o_move, o_pick, pick_t, pick_f, pick_b, pick_bool, o_bin, o_un, u_not, o_conv, o_load, o_store, o_slice, o_nilck, nilck_ptr, nilck_iptr,
 addr_ptr, addr_iptr, o_bi, o_call, call_fn, rtV_some, rtV_ite, out_ret, out_rt, out_ite, eget_hit, eget_miss, v_tmp, v_fn, v_bool, v_int, v_str, v_nilp, v_snil, v_nilm, v_nilf, v_agg,
 b_add, b_sub, b_mul, b_quo, b_rem, b_and, b_or, b_eql, b_neq, b_lss, b_leq, b_gtr, b_geq, b_shl, b_shr, b_seql, b_sneq, b_pnil, b_pnilN, b_nilnil,
 List.getElem?_cons, Nat.reduceLT, Nat.reduceSub, Nat.reduceAdd, Nat.reduceEqDiff, ne_eq, not_false_eq_true, Option.getD_some, Bool.not_true, Bool.not_false, reduceIte, reduceCtorEq, Nat.succ_ne_zero, List.map_cons, List.map_nil, List.nil_append, List.append_nil, List.cons_append, arg_nil, arg_cons, res_v, ra_nil, ra_cons, r_tmp, r_cell, rc_some, rt_one, rt_two, rt_nil, ldH_some, stH_some, tk_f, tk_t, ixS_sl, ixA_int, fdV_agg, lenV_snil, lenV_sl, lenV_ms, bi_max, bi_min, newT_none, growT_buf, get_set, get_lf, V.cells, List.map_nil, Option.map_some, List.length_cons, List.length_nil, newO_get, newO_nx, newO_df, putO_get, putO_nx, putO_df, delO_get, delO_nx, delO_df, alH_none, o_bx, bxV_agg, bxV_int, bxV_sl, bxV_snil, fill_nil, fill_cons, fillK_some, plc_def, aggO_some, arH_some, apM_some, catP_nil, catP_cons, okIdx_nil, okIdx_cons, postC_ite, post_ite, postC_some, post_some, o_extract2, exV_tup, o_mkfn, Option.map_none, Int.reduceEq, Int.reduceNe, Int.reduceLE, Int.reduceLT, Int.reduceToNat, Int.reducePow, Int.reduceNeg, Nat.reduceLeDiff, Nat.reduceMul, Nat.reducePow, true_and, and_true, decide_eq_true_eq, List.all_cons, List.all_nil, V.one, Bool.and_self, Bool.and_true, IntKind.bits, Int.toNat_natCast, Nat.mul_one, Nat.zero_add, V.flat, List.size_toArray, decide_true, decide_false, Bool.false_eq_true, Nat.zero_le, Int.natCast_nonneg, ld2, ldr2, li2, st2, ld4, ldr4, li4, st4, ld5, ldr5, li5, st5, ld22, ldr22, li22, st22, ld53, ldr53, li53, st53, ld60, ldr60, li60, st60, ld98, ldr98, li98, st98, ld107, ldr107, li107, st107, ld154, ldr154, li154, st154, ld179, ldr179, li179, st179, ld277, ldr277, li277, st277, fa98_0, fa98_1, fa98_2, fa98_3, fa98_4, fa109_0, fa156_0, fa156_1, fa281_0, fa281_1, fa281_2, fa284_0, fa284_1, far98_0, far98_1, far98_2, far98_3, far98_4, far109_0, far156_0, far156_1, far281_0, far281_1, far281_2, far284_0, far284_1, ix60, ix63, ix176, ix277, al98, al109, al179, al277, al281, al284, bl98, bl109, bl281, bl284, bs60, bs63, bs107, bs176, slo60, shi60, ahr277, ahi277, app60_60, app107_107, len60, len63, len107, len176, cvr2_178, cv2_178, cvr3_178, cv3_178, cvr5_178, cv5_178, cvr22_178, cv22_178, cvr178_2, cv178_2, cvr178_5, cv178_5, cvr178_22, cv178_22, bpe47, bpn47, bsn60, bnn60, bpe179, bpn179, lenr60, lenr63, lenr107, lenr176, bsm60, bsm63, bsm107, bsm176, ap_nil el5, ap_ex el5, ap_tok el5, ap_ex_ms el5, ap_nil_ms el5, ap_nothing el5, apr_ex_ms el5, apr_nil_ms el5, ap_nil el60, ap_ex el60, ap_tok el60, ap_ex_ms el60, ap_nil_ms el60, ap_nothing el60, apr_ex_ms el60, apr_nil_ms el60, splice_def, List.take_zero, List.take_succ_cons, List.drop_succ_cons, List.drop_zero, hrd, htk, hnm, hdn, q0, q1, q2, q3, q4, q5, q6, hw2, hw3, hw4, hw5, hw6, hd, c0, c3t, not_true_eq_false, not_false_eq_true]
      exact ⟨fun _ => trivial, rfl⟩
    · have he' : ¬ (bytesD (bsl [b] .unk) = [3]) := by rw [bytesD_bsl]; simpa using he
      have c3 : ((b : Int) = 3) = False := eq_false (by omega)
      rw [if_neg (fun h => he' h.2)]
      simp only [bsl, List.map_cons, List.map_nil, List.length_cons, List.length_nil, Nat.zero_add, u8V] at q0
      simp only [Tryz.f35, aid0_H, aid0_mu, aid0_L, x_seq, x_region, x_reg, x_cond, x_block, x_exit, x_ret, x_skip, s_cons, s_nil, w_none, wO, wO_some, wd_t, wd_f, wd_tup, wd_bt, wd_bf, g_t, g_f, g_fn, g_ite, p_some, p_none, p_ite, reg_none, reg_some, reg_ite, prune_nil, prune_cons,
 then_nrm, then_ext, then_ret, then_ite, cond_t, cond_f, cond_b, block_nrm, block_ret, block_ext, block_ite, o_assign, o_move, o_pick, pick_t, pick_f, pick_b, pick_bool, o_bin, o_un, u_not, o_conv, o_load, o_store, o_slice, o_nilck, nilck_ptr, nilck_iptr,
 addr_ptr, addr_iptr, o_bi, o_call, call_fn, rtV_some, rtV_ite, out_ret, out_rt, out_ite, eget_hit, eget_miss, v_tmp, v_fn, v_bool, v_int, v_str, v_nilp, v_snil, v_nilm, v_nilf, v_agg,
 b_add, b_sub, b_mul, b_quo, b_rem, b_and, b_or, b_eql, b_neq, b_lss, b_leq, b_gtr, b_geq, b_shl, b_shr, b_seql, b_sneq, b_pnil, b_pnilN, b_nilnil,
 List.getElem?_cons, Nat.reduceLT, Nat.reduceSub, Nat.reduceAdd, Nat.reduceEqDiff, ne_eq, not_false_eq_true, Option.getD_some, Bool.not_true, Bool.not_false, reduceIte, reduceCtorEq, Nat.succ_ne_zero, List.map_cons, List.map_nil, List.nil_append, List.append_nil, List.cons_append, arg_nil, arg_cons, res_v, ra_nil, ra_cons, r_tmp, r_cell, rc_some, rt_one, rt_two, rt_nil, ldH_some, stH_some, tk_f, tk_t, ixS_sl, ixA_int, fdV_agg, lenV_snil, lenV_sl, lenV_ms, bi_max, bi_min, newT_none, growT_buf, get_set, get_lf, V.cells, List.map_nil, Option.map_some, List.length_cons, List.length_nil, newO_get, newO_nx, newO_df, putO_get, putO_nx, putO_df, delO_get, delO_nx, delO_df, alH_none, o_bx, bxV_agg, bxV_int, bxV_sl, bxV_snil, fill_nil, fill_cons, fillK_some, plc_def, aggO_some, arH_some, apM_some, catP_nil, catP_cons, okIdx_nil, okIdx_cons, postC_ite, post_ite, postC_some, post_some, o_extract2, exV_tup, o_mkfn, Option.map_none, Int.reduceEq, Int.reduceNe, Int.reduceLE, Int.reduceLT, Int.reduceToNat, Int.reducePow, Int.reduceNeg, Nat.reduceLeDiff, Nat.reduceMul, Nat.reducePow, true_and, and_true, decide_eq_true_eq, List.all_cons, List.all_nil, V.one, Bool.and_self, Bool.and_true, IntKind.bits, Int.toNat_natCast, Nat.mul_one, Nat.zero_add, V.flat, List.size_toArray, decide_true, decide_false, Bool.false_eq_true, Nat.zero_le, Int.natCast_nonneg, ld2, ldr2, li2, st2, ld4, ldr4, li4, st4, ld5, ldr5, li5, st5, ld22, ldr22, li22, st22, ld53, ldr53, li53, st53, ld60, ldr60, li60, st60, ld98, ldr98, li98, st98, ld107, ldr107, li107, st107, ld154, ldr154, li154, st154, ld179, ldr179, li179, st179, ld277, ldr277, li277, st277, fa98_0, fa98_1, fa98_2, fa98_3, fa98_4, fa109_0, fa156_0, fa156_1, fa281_0, fa281_1, fa281_2, fa284_0, fa284_1, far98_0, far98_1, far98_2, far98_3, far98_4, far109_0, far156_0, far156_1, far281_0, far281_1, far281_2, far284_0, far284_1, ix60, ix63, ix176, ix277, al98, al109, al179, al277, al281, al284, bl98, bl109, bl281, bl284, bs60, bs63, bs107, bs176, slo60, shi60, ahr277, ahi277, app60_60, app107_107, len60, len63, len107, len176, cvr2_178, cv2_178, cvr3_178, cv3_178, cvr5_178, cv5_178, cvr22_178, cv22_178, cvr178_2, cv178_2, cvr178_5, cv178_5, cvr178_22, cv178_22, bpe47, bpn47, bsn60, bnn60, bpe179, bpn179, lenr60, lenr63, lenr107, lenr176, bsm60, bsm63, bsm107, bsm176, ap_nil el5, ap_ex el5, ap_tok el5, ap_ex_ms el5, ap_nil_ms el5, ap_nothing el5, apr_ex_ms el5, apr_nil_ms el5, ap_nil el60, ap_ex el60, ap_tok el60, ap_ex_ms el60, ap_nil_ms el60, ap_nothing el60, apr_ex_ms el60, apr_nil_ms el60, splice_def, List.take_zero, List.take_succ_cons, List.drop_succ_cons, List.drop_zero, hrd, htk, hnm, hdn, q0, q1, q2, q3, q4, q5, q6, hw2, hw3, hw4, hw5, hw6, hd, c0, c3, not_true_eq_false, not_false_eq_true]
      exact ⟨fun _ => trivial, rfl⟩
  · rw [if_neg (fun h => hd h.1)]
    simp only [Tryz.f35, aid0_H, aid0_mu, aid0_L, x_seq, x_region, x_reg, x_cond, x_block, x_exit, x_ret, x_skip, s_cons, s_nil, w_none, wO, wO_some, wd_t, wd_f, wd_tup, wd_bt, wd_bf, g_t, g_f, g_fn, g_ite, p_some, p_none, p_ite, reg_none, reg_some, reg_ite, prune_nil, prune_cons,
 then_nrm, then_ext, then_ret, then_ite, cond_t, cond_f, cond_b, block_nrm, block_ret, block_ext, block_ite, o_assign, o_move, o_pick, pick_t, pick_f, pick_b, pick_bool, o_bin, o_un, u_not, o_conv, o_load, o_store, o_slice, o_nilck, nilck_ptr, nilck_iptr,
 addr_ptr, addr_iptr, o_bi, o_call, call_fn, rtV_some, rtV_ite, out_ret, out_rt, out_ite, eget_hit, eget_miss, v_tmp, v_fn, v_bool, v_int, v_str, v_nilp, v_snil, v_nilm, v_nilf, v_agg,
 b_add, b_sub, b_mul, b_quo, b_rem, b_and, b_or, b_eql, b_neq, b_lss, b_leq, b_gtr, b_geq, b_shl, b_shr, b_seql, b_sneq, b_pnil, b_pnilN, b_nilnil,
 List.getElem?_cons, Nat.reduceLT, Nat.reduceSub, Nat.reduceAdd, Nat.reduceEqDiff, ne_eq, not_false_eq_true, Option.getD_some, Bool.not_true, Bool.not_false, reduceIte, reduceCtorEq, Nat.succ_ne_zero, List.map_cons, List.map_nil, List.nil_append, List.append_nil, List.cons_append, arg_nil, arg_cons, res_v, ra_nil, ra_cons, r_tmp, r_cell, rc_some, rt_one, rt_two, rt_nil, ldH_some, stH_some, tk_f, tk_t, ixS_sl, ixA_int, fdV_agg, lenV_snil, lenV_sl, lenV_ms, bi_max, bi_min, newT_none, growT_buf, get_set, get_lf, V.cells, List.map_nil, Option.map_some, List.length_cons, List.length_nil, newO_get, newO_nx, newO_df, putO_get, putO_nx, putO_df, delO_get, delO_nx, delO_df, alH_none, o_bx, bxV_agg, bxV_int, bxV_sl, bxV_snil, fill_nil, fill_cons, fillK_some, plc_def, aggO_some, arH_some, apM_some, catP_nil, catP_cons, okIdx_nil, okIdx_cons, postC_ite, post_ite, postC_some, post_some, o_extract2, exV_tup, o_mkfn, Option.map_none, Int.reduceEq, Int.reduceNe, Int.reduceLE, Int.reduceLT, Int.reduceToNat, Int.reducePow, Int.reduceNeg, Nat.reduceLeDiff, Nat.reduceMul, Nat.reducePow, true_and, and_true, decide_eq_true_eq, List.all_cons, List.all_nil, V.one, Bool.and_self, Bool.and_true, IntKind.bits, Int.toNat_natCast, Nat.mul_one, Nat.zero_add, V.flat, List.size_toArray, decide_true, decide_false, Bool.false_eq_true, Nat.zero_le, Int.natCast_nonneg, ld2, ldr2, li2, st2, ld4, ldr4, li4, st4, ld5, ldr5, li5, st5, ld22, ldr22, li22, st22, ld53, ldr53, li53, st53, ld60, ldr60, li60, st60, ld98, ldr98, li98, st98, ld107, ldr107, li107, st107, ld154, ldr154, li154, st154, ld179, ldr179, li179, st179, ld277, ldr277, li277, st277, fa98_0, fa98_1, fa98_2, fa98_3, fa98_4, fa109_0, fa156_0, fa156_1, fa281_0, fa281_1, fa281_2, fa284_0, fa284_1, far98_0, far98_1, far98_2, far98_3, far98_4, far109_0, far156_0, far156_1, far281_0, far281_1, far281_2, far284_0, far284_1, ix60, ix63, ix176, ix277, al98, al109, al179, al277, al281, al284, bl98, bl109, bl281, bl284, bs60, bs63, bs107, bs176, slo60, shi60, ahr277, ahi277, app60_60, app107_107, len60, len63, len107, len176, cvr2_178, cv2_178, cvr3_178, cv3_178, cvr5_178, cv5_178, cvr22_178, cv22_178, cvr178_2, cv178_2, cvr178_5, cv178_5, cvr178_22, cv178_22, bpe47, bpn47, bsn60, bnn60, bpe179, bpn179, lenr60, lenr63, lenr107, lenr176, bsm60, bsm63, bsm107, bsm176, ap_nil el5, ap_ex el5, ap_tok el5, ap_ex_ms el5, ap_nil_ms el5, ap_nothing el5, apr_ex_ms el5, apr_nil_ms el5, ap_nil el60, ap_ex el60, ap_tok el60, ap_ex_ms el60, ap_nil_ms el60, ap_nothing el60, apr_ex_ms el60, apr_nil_ms el60, splice_def, List.take_zero, List.take_succ_cons, List.drop_succ_cons, List.drop_zero, hrd, htk, hnm, hdn, q0, q1, q2, q3, q4, q5, q6, hw2, hw3, hw4, hw5, hw6, hd, not_true_eq_false, not_false_eq_true]
    exact ⟨fun _ => trivial, rfl⟩
noncomputable def orcqp : Nat → Option (List V → St → Option (V × St)) := fun g => bif Nat.beq g 35 then some (pureO parseS) else orcqr g
set_option maxRecDepth 100000 in
theorem ok_orcqp : OrcOk Tryz.prog orcqp := by
  refine orc_add mixed ok_orcqr (pure_small fun args w h => ?_)
  obtain ⟨v, bs, rfl, hk, hb, rfl⟩ := parseS_inv h
  have hrd : evF Tryz.prog aid0 orcqr 3 (.f 84) [wkB v] ((⟨.lf, 0, [], []⟩ : St).newO (.blk [.int .i64 0, .int .i64 0, .int .i64 0, .int .i64 0, .int .i64 0])) = some (.ptr 1 0, ((⟨.lf, 0, [], []⟩ : St).newO (.blk [.int .i64 0, .int .i64 0, .int .i64 0, .int .i64 0, .int .i64 0])).newO (rqP (wkB (wkB v), 0))) := by
    refine (evF_orc (P := Tryz.prog) (A := aid0) (d := 2) (orc := orcqr) (o := readQO) en84 rfl).trans ?_
    unfold readQO
    simp only
    rw [if_pos ⟨by rw [wkB_wkB]; exact hk, by rw [bytesV_wk hb]; rfl, by rfl⟩]
    rfl
  have htk : ∀ n s, evF Tryz.prog aid0 orcqr 3 (.f 85) [.ptr n 0, .int .i64 1] s = cellQ takeP (s.h.get n) n s := fun n s =>
    evF_orc (P := Tryz.prog) (A := aid0) (d := 2) (orc := orcqr) (o := takeQO) en85 rfl
  have hnm : ∀ n s, evF Tryz.prog aid0 orcqr 3 (.f 86) [.ptr n 0, .int .u64 9007199254740992] s = cellQ (numV mx) (s.h.get n) n s := fun n s => by
    refine (evF_orc (P := Tryz.prog) (A := aid0) (d := 2) (orc := orcqr) (o := numQO) en86 rfl).trans ?_
    show (if (9007199254740992 : Nat) < 18446744073709551616 then cellQ (numV mx) (s.h.get n) n s else none) = _
    rw [if_pos (by decide)]
  have hdn : ∀ n s, evF Tryz.prog aid0 orcqr 3 (.f 87) [.ptr n 0] s = cellQ doneV (s.h.get n) n s := fun n s =>
    evF_orc (P := Tryz.prog) (A := aid0) (d := 2) (orc := orcqr) (o := doneQO) en87 rfl
  have hh := rparse_body (evF Tryz.prog aid0 orcqr 3) (wkB v) (by rw [wkB_wkB]; exact hk) hrd htk hnm hdn
  obtain ⟨u, st', h2, rfl⟩ := post_ex (post_evF (orc := orcqr) (d := 3) en35 rfl hh)
  have e : prsV (wkB v) = prsV v := by unfold prsV prs; rw [wkB_wkB]
  rw [e] at h2
  refine ⟨aid0, 4, st', _, _, h2, .cons (wk_bytes hb) .nil, ?_⟩
  unfold prsV
  exact wk_tup (.cons (wk_agg (.self fun x hx => by obtain ⟨n, _, rfl⟩ := List.mem_map.1 hx; exact wk_int _ _)) (.cons (wk_int _ _) .nil))
end Go.Proofs.YtiicpeidjhbhiaaGreat.cd
