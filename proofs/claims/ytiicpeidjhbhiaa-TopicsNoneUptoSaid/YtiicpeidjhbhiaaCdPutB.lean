/-
  The function codec.PutBytes, for all lists of bytes up to 2^40.
-/
import Derived.Test.YtiicpeidjhbhiaaCdPut
namespace Go.Proofs.Ytiicpeidjhbhiaa.cd
open Go Go.Am ty
set_option linter.unusedSimpArgs false
theorem en31 : enterOk Try.prog 31 = true := by kernel_rfl
set_option maxRecDepth 100000 in
theorem putbytes_body (call : CallF) (v x : V) (bs xs : List Nat) (hx : bytesV x = some xs) (hl : bs.length ≤ 549755813888) (hk : xs.length ≤ 549755813888)
    (h0 : call (.f 30) [v, .int .u64 xs.length] ⟨.lf, 0, [], []⟩ = some (bsl (bs ++ varB 9 xs.length) (.tok 0 1), (⟨.lf, 0, [], []⟩ : St).newO .buf)) :
    post (evBody Try.prog aid0 call 31 [v, x] ⟨.lf, 0, [], []⟩) (fun u st => ∃ t, u = bsl (bs ++ varB 9 xs.length ++ xs) (.tok t 1) ∧ st.h.get t = some .buf ∧ t < st.nx) := by
  refine post_body Try.func31 rfl (Nat.le_of_ble_eq_true rfl) ?_
  obtain ⟨k1, k2⟩ := varB_len 9 xs.length
  have hw : IntKind.u64.wrap (xs.length : Int) = xs.length := wrap_u64 _ (by omega)
  simp only [bsl] at h0
  rcases bytesV_eq hx with ⟨rfl, rfl⟩ | ⟨cp, rfl⟩
  · simp only [List.length_nil] at h0 hw
    have h0' : call (.f 30) [v, .int .u64 0] ⟨.lf, 0, [], []⟩ = _ := h0
    have hw' : IntKind.u64.wrap 0 = 0 := rfl
    simp only [Try.f31, aid0_H, aid0_mu, aid0_L, x_seq, x_region, x_reg, x_cond, x_block, x_exit, x_ret, x_skip, s_cons, s_nil, w_none, wO, wO_some, wd_t, wd_f, wd_tup, wd_bt, wd_bf, g_t, g_f, g_fn, g_ite, p_some, p_none, p_ite, reg_none, reg_some, reg_ite, prune_nil, prune_cons,
 then_nrm, then_ext, then_ret, then_ite, cond_t, cond_f, cond_b, block_nrm, block_ret, block_ext, block_ite, o_assign, o_move, o_pick, pick_t, pick_f, pick_b, pick_bool, o_bin, o_un, u_not, o_conv, o_load, o_store, o_slice, o_nilck, nilck_ptr, nilck_iptr,
 addr_ptr, addr_iptr, o_bi, o_call, call_fn, rtV_some, rtV_ite, out_ret, out_rt, out_ite, eget_hit, eget_miss, v_tmp, v_fn, v_bool, v_int, v_str, v_nilp, v_snil, v_nilm, v_nilf, v_agg,
 b_add, b_sub, b_mul, b_quo, b_rem, b_and, b_or, b_eql, b_neq, b_lss, b_leq, b_gtr, b_geq, b_shl, b_shr, b_seql, b_sneq, b_pnil, b_pnilN, b_nilnil,
 List.getElem?_cons, Nat.reduceLT, Nat.reduceSub, Nat.reduceAdd, Nat.reduceEqDiff, ne_eq, not_false_eq_true, Option.getD_some, Bool.not_true, Bool.not_false, reduceIte, reduceCtorEq, Nat.succ_ne_zero, List.map_cons, List.map_nil, List.nil_append, List.append_nil, List.cons_append, arg_nil, arg_cons, res_v, ra_nil, ra_cons, r_tmp, r_cell, rc_some, rt_one, rt_two, rt_nil, ldH_some, stH_some, tk_f, tk_t, ixS_sl, ixA_int, fdV_agg, lenV_snil, lenV_sl, lenV_ms, bi_max, bi_min, newT_none, growT_buf, get_set, get_lf, V.cells, List.map_nil, Option.map_some, List.length_cons, List.length_nil, newO_get, newO_nx, newO_df, putO_get, putO_nx, putO_df, delO_get, delO_nx, delO_df, alH_none, o_bx, bxV_agg, bxV_int, bxV_sl, bxV_snil, fill_nil, fill_cons, fillK_some, plc_def, aggO_some, arH_some, apM_some, catP_nil, catP_cons, okIdx_nil, okIdx_cons, postC_ite, post_ite, postC_some, post_some, o_extract2, exV_tup, o_mkfn, Int.reduceLE, Int.reduceLT, Int.reduceToNat, Int.reducePow, Int.reduceNeg, Nat.reduceLeDiff, Nat.reduceMul, Nat.reducePow, true_and, and_true, decide_eq_true_eq, List.all_cons, List.all_nil, V.one, Bool.and_self, Bool.and_true, IntKind.bits, Int.toNat_natCast, Nat.mul_one, Nat.zero_add, V.flat, List.size_toArray, decide_true, decide_false, Bool.false_eq_true, Nat.zero_le, Int.natCast_nonneg, ld2, ldr2, li2, st2, ld5, ldr5, li5, st5, ld9, ldr9, li9, st9, ld26, ldr26, li26, st26, ld28, ldr28, li28, st28, ld30, ldr30, li30, st30, ld32, ldr32, li32, st32, ld34, ldr34, li34, st34, ld36, ldr36, li36, st36, ld107, ldr107, li107, st107, fa30_0, fa30_1, fa30_2, fa36_0, ix28, ix42, ix43, ix107, al24, al26, al36, al41, al107, bl24, bl26, bl36, bl41, bs22, bs27, bs28, bs42, slo27, shi27, ahr107, ahi107, app27_27, len27, len28, len42, len43, len54, len57, cv2_90, cv3_90, cv90_5, ap_nil el5, ap_ex el5, ap_tok el5, ap_ex_ms el5, ap_nil_ms el5, ap_nothing el5, apr_ex_ms el5, apr_nil_ms el5, h0', hw', List.length_nil, ap_nothing el5 (.sl _ _ _ _) trivial]
    exact ⟨fun _ => trivial, 0, by simp [bsl], rfl, by omega⟩
  · by_cases hz : xs.length = 0
    · have : xs = [] := List.eq_nil_of_length_eq_zero hz
      subst this
      simp only [List.length_nil] at h0 hw
      simp only [Try.f31, bsl, aid0_H, aid0_mu, aid0_L, x_seq, x_region, x_reg, x_cond, x_block, x_exit, x_ret, x_skip, s_cons, s_nil, w_none, wO, wO_some, wd_t, wd_f, wd_tup, wd_bt, wd_bf, g_t, g_f, g_fn, g_ite, p_some, p_none, p_ite, reg_none, reg_some, reg_ite, prune_nil, prune_cons,
 then_nrm, then_ext, then_ret, then_ite, cond_t, cond_f, cond_b, block_nrm, block_ret, block_ext, block_ite, o_assign, o_move, o_pick, pick_t, pick_f, pick_b, pick_bool, o_bin, o_un, u_not, o_conv, o_load, o_store, o_slice, o_nilck, nilck_ptr, nilck_iptr,
 addr_ptr, addr_iptr, o_bi, o_call, call_fn, rtV_some, rtV_ite, out_ret, out_rt, out_ite, eget_hit, eget_miss, v_tmp, v_fn, v_bool, v_int, v_str, v_nilp, v_snil, v_nilm, v_nilf, v_agg,
 b_add, b_sub, b_mul, b_quo, b_rem, b_and, b_or, b_eql, b_neq, b_lss, b_leq, b_gtr, b_geq, b_shl, b_shr, b_seql, b_sneq, b_pnil, b_pnilN, b_nilnil,
 List.getElem?_cons, Nat.reduceLT, Nat.reduceSub, Nat.reduceAdd, Nat.reduceEqDiff, ne_eq, not_false_eq_true, Option.getD_some, Bool.not_true, Bool.not_false, reduceIte, reduceCtorEq, Nat.succ_ne_zero, List.map_cons, List.map_nil, List.nil_append, List.append_nil, List.cons_append, arg_nil, arg_cons, res_v, ra_nil, ra_cons, r_tmp, r_cell, rc_some, rt_one, rt_two, rt_nil, ldH_some, stH_some, tk_f, tk_t, ixS_sl, ixA_int, fdV_agg, lenV_snil, lenV_sl, lenV_ms, bi_max, bi_min, newT_none, growT_buf, get_set, get_lf, V.cells, List.map_nil, Option.map_some, List.length_cons, List.length_nil, newO_get, newO_nx, newO_df, putO_get, putO_nx, putO_df, delO_get, delO_nx, delO_df, alH_none, o_bx, bxV_agg, bxV_int, bxV_sl, bxV_snil, fill_nil, fill_cons, fillK_some, plc_def, aggO_some, arH_some, apM_some, catP_nil, catP_cons, okIdx_nil, okIdx_cons, postC_ite, post_ite, postC_some, post_some, o_extract2, exV_tup, o_mkfn, Int.reduceLE, Int.reduceLT, Int.reduceToNat, Int.reducePow, Int.reduceNeg, Nat.reduceLeDiff, Nat.reduceMul, Nat.reducePow, true_and, and_true, decide_eq_true_eq, List.all_cons, List.all_nil, V.one, Bool.and_self, Bool.and_true, IntKind.bits, Int.toNat_natCast, Nat.mul_one, Nat.zero_add, V.flat, List.size_toArray, decide_true, decide_false, Bool.false_eq_true, Nat.zero_le, Int.natCast_nonneg, ld2, ldr2, li2, st2, ld5, ldr5, li5, st5, ld9, ldr9, li9, st9, ld26, ldr26, li26, st26, ld28, ldr28, li28, st28, ld30, ldr30, li30, st30, ld32, ldr32, li32, st32, ld34, ldr34, li34, st34, ld36, ldr36, li36, st36, ld107, ldr107, li107, st107, fa30_0, fa30_1, fa30_2, fa36_0, ix28, ix42, ix43, ix107, al24, al26, al36, al41, al107, bl24, bl26, bl36, bl41, bs22, bs27, bs28, bs42, slo27, shi27, ahr107, ahi107, app27_27, len27, len28, len42, len43, len54, len57, cv2_90, cv3_90, cv90_5, ap_nil el5, ap_ex el5, ap_tok el5, ap_ex_ms el5, ap_nil_ms el5, ap_nothing el5, apr_ex_ms el5, apr_nil_ms el5, h0, hw, List.length_nil]
      exact ⟨fun _ => trivial, 0, by simp [bsl], rfl, by omega⟩
    · have hr : roomOk ((bs ++ varB 9 xs.length).length + xs.length) 1 = true := by
        simp only [roomOk]
        have : Nat.ble ((2 * ((bs ++ varB 9 xs.length).length + xs.length) + 1024) * 1) 281474976710656 = true := by
          simp only [List.length_append]; apply Nat.ble_eq_true_of_le; omega
        simp only [this, Bool.and_true]; rfl
      have ho := all_one_u8 xs
      simp only [Try.f31, bsl, aid0_H, aid0_mu, aid0_L, x_seq, x_region, x_reg, x_cond, x_block, x_exit, x_ret, x_skip, s_cons, s_nil, w_none, wO, wO_some, wd_t, wd_f, wd_tup, wd_bt, wd_bf, g_t, g_f, g_fn, g_ite, p_some, p_none, p_ite, reg_none, reg_some, reg_ite, prune_nil, prune_cons,
 then_nrm, then_ext, then_ret, then_ite, cond_t, cond_f, cond_b, block_nrm, block_ret, block_ext, block_ite, o_assign, o_move, o_pick, pick_t, pick_f, pick_b, pick_bool, o_bin, o_un, u_not, o_conv, o_load, o_store, o_slice, o_nilck, nilck_ptr, nilck_iptr,
 addr_ptr, addr_iptr, o_bi, o_call, call_fn, rtV_some, rtV_ite, out_ret, out_rt, out_ite, eget_hit, eget_miss, v_tmp, v_fn, v_bool, v_int, v_str, v_nilp, v_snil, v_nilm, v_nilf, v_agg,
 b_add, b_sub, b_mul, b_quo, b_rem, b_and, b_or, b_eql, b_neq, b_lss, b_leq, b_gtr, b_geq, b_shl, b_shr, b_seql, b_sneq, b_pnil, b_pnilN, b_nilnil,
 List.getElem?_cons, Nat.reduceLT, Nat.reduceSub, Nat.reduceAdd, Nat.reduceEqDiff, ne_eq, not_false_eq_true, Option.getD_some, Bool.not_true, Bool.not_false, reduceIte, reduceCtorEq, Nat.succ_ne_zero, List.map_cons, List.map_nil, List.nil_append, List.append_nil, List.cons_append, arg_nil, arg_cons, res_v, ra_nil, ra_cons, r_tmp, r_cell, rc_some, rt_one, rt_two, rt_nil, ldH_some, stH_some, tk_f, tk_t, ixS_sl, ixA_int, fdV_agg, lenV_snil, lenV_sl, lenV_ms, bi_max, bi_min, newT_none, growT_buf, get_set, get_lf, V.cells, List.map_nil, Option.map_some, List.length_cons, List.length_nil, newO_get, newO_nx, newO_df, putO_get, putO_nx, putO_df, delO_get, delO_nx, delO_df, alH_none, o_bx, bxV_agg, bxV_int, bxV_sl, bxV_snil, fill_nil, fill_cons, fillK_some, plc_def, aggO_some, arH_some, apM_some, catP_nil, catP_cons, okIdx_nil, okIdx_cons, postC_ite, post_ite, postC_some, post_some, o_extract2, exV_tup, o_mkfn, Int.reduceLE, Int.reduceLT, Int.reduceToNat, Int.reducePow, Int.reduceNeg, Nat.reduceLeDiff, Nat.reduceMul, Nat.reducePow, true_and, and_true, decide_eq_true_eq, List.all_cons, List.all_nil, V.one, Bool.and_self, Bool.and_true, IntKind.bits, Int.toNat_natCast, Nat.mul_one, Nat.zero_add, V.flat, List.size_toArray, decide_true, decide_false, Bool.false_eq_true, Nat.zero_le, Int.natCast_nonneg, ld2, ldr2, li2, st2, ld5, ldr5, li5, st5, ld9, ldr9, li9, st9, ld26, ldr26, li26, st26, ld28, ldr28, li28, st28, ld30, ldr30, li30, st30, ld32, ldr32, li32, st32, ld34, ldr34, li34, st34, ld36, ldr36, li36, st36, ld107, ldr107, li107, st107, fa30_0, fa30_1, fa30_2, fa36_0, ix28, ix42, ix43, ix107, al24, al26, al36, al41, al107, bl24, bl26, bl36, bl41, bs22, bs27, bs28, bs42, slo27, shi27, ahr107, ahi107, app27_27, len27, len28, len42, len43, len54, len57, cv2_90, cv3_90, cv90_5, ap_nil el5, ap_ex el5, ap_tok el5, ap_ex_ms el5, ap_nil_ms el5, ap_nothing el5, apr_ex_ms el5, apr_nil_ms el5, h0, hw, hz, hr, ho]
      exact ⟨fun _ => trivial, 1, by simp [bsl, List.append_assoc, Nat.add_assoc], rfl, by omega⟩
def orc3 : Nat → Option (List V → St → Option (V × St)) := fun g => bif Nat.beq g 31 then some (freshO 1 putBS) else orc2 g
set_option maxRecDepth 100000 in
theorem ok_orc3 : OrcOk Try.prog orc3 := by
  refine orc_add mixed ok2 (fresh_small fun args cs len h => ?_)
  obtain ⟨v, x, bs, xs, rfl, hv, hx, hl, hk, rfl, rfl⟩ := putBS_inv h
  have h1 := putbytes_body (evF Try.prog aid0 orc2 1) (wkB v) (wkB x) bs xs (bytesV_wk hx) hl hk (call_put aid0 0 _ bs (bytesV_wk hv) (by omega) xs.length (by omega) ⟨.lf, 0, [], []⟩ rfl)
  obtain ⟨u, st', h2, t, rfl, h3, h4⟩ := post_ex (post_evF (orc := orc2) en31 rfl h1)
  exact ⟨aid0, 2, st', _, t, h2, h3, h4, .cons (wk_bytes hv) (.cons (wk_bytes hx) .nil), fun c hc => by
    obtain ⟨m, _, rfl⟩ := List.mem_map.1 hc; exact wk_u8 m⟩
theorem call_putb (A : Aid) (d : Nat) (v x : V) (bs xs : List Nat) (hv : bytesV v = some bs) (hx : bytesV x = some xs) (hl : bs.length ≤ 549755813888) (hk : xs.length ≤ 549755813888) (st : St) (hf : st.h.get st.nx = none) :
    evF Try.prog A orc3 (d + 1) (.f 31) [v, x] st = some (bsl (bs ++ varB 9 xs.length ++ xs) (.tok st.nx 1), st.newO .buf) :=
  (evF_orc (o := freshO 1 putBS) en31 rfl).trans (freshO_some (putBS_eq hv hx hl hk) st hf)
end Go.Proofs.Ytiicpeidjhbhiaa.cd
