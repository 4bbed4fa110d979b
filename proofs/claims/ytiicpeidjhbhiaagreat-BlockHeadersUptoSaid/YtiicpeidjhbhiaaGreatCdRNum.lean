/-
  The function bullaref01.PutNum, for every list of bytes up to 2^40 and every number.
-/
import Derived.Test.YtiicpeidjhbhiaaGreatCdPs
namespace Go.Proofs.YtiicpeidjhbhiaaGreat.cd
open Go Go.Am ty
set_option linter.unusedSimpArgs false
theorem en78 : enterOk Tryz.prog 78 = true := by kernel_rfl
theorem grow_one (o : V) (l : List Nat) (st : St) (x : Nat) (hg : Gr o l st) (hl : l.length ≤ 1099511627800) : ∃ o' st', out1 (appendA Tryz.prog false 5 o (.sl [u8V x] 1 1 .ex)) st = some (o', st') ∧ Gr o' (l ++ [x]) st' ∧ ∃ t, o' = .sl ((l ++ [x]).map u8V) (l ++ [x]).length 1 (.tok t 1) := by
  obtain ⟨hs, hd, hf⟩ := hg
  rcases hs with ⟨rfl, rfl⟩ | ⟨t, rfl, ht⟩
  · have hex : exOk 1 0 1 = true := room_ex (by omega) (by omega) (by omega)
    have hn := hf st.nx (Nat.le_refl _)
    refine ⟨.sl [u8V x] 1 1 (.tok st.nx 1), st.newO .buf, ?_, ⟨.inr ⟨st.nx, rfl, by rw [newO_get, if_pos rfl]⟩, hd, fun k hk => ?_⟩, st.nx, rfl⟩
    · rw [ap_nil el5]
      simp only [hex, hn, newT_none, if_true, Nat.one_ne_zero, if_false]
    · have hk' : st.nx + 1 ≤ k := hk
      rw [newO_get, if_neg (by omega)]; exact hf k (by omega)
  · have hr : roomOk (l.length + 1) 1 = true := room1 (by omega)
    have htn : t < st.nx := by
      rcases Nat.lt_or_ge t st.nx with h | h
      · exact h
      · rw [hf t h] at ht; cases ht
    have hn : (st.delO t).h.get st.nx = none := by
      rw [delO_get, if_neg (by omega)]; exact hf _ (Nat.le_refl _)
    refine ⟨.sl ((l ++ [x]).map u8V) (l ++ [x]).length 1 (.tok st.nx 1), (st.delO t).newO .buf, ?_, ⟨.inr ⟨st.nx, rfl, by rw [newO_get]; exact if_pos rfl⟩, hd, fun k hk => ?_⟩, st.nx, rfl⟩
    · rw [ap_tok el5]
      have ho : [u8V x].all V.one = true := rfl
      simp only [hr, ho, ht, hn, growT_buf, newT_none, if_true, Nat.one_ne_zero, if_false, and_self, List.map_append, List.map_cons, List.map_nil, List.length_append, List.length_cons, List.length_nil, Nat.zero_add, delO_nx]
    · have hk' : st.nx + 1 ≤ k := hk
      rw [newO_get, if_neg (show ¬ k = (st.delO t).nx from fun h => by rw [delO_nx] at h; omega), delO_get]
      split
      · rfl
      · exact hf k (by omega)
set_option maxRecDepth 100000 in
theorem refnum_body (call : CallF) (v : V) (bs : List Nat) (hv : bytesV v = some bs) (hl : bs.length ≤ 1099511627776) (n : Nat) (hn : n < 18446744073709551616) :
    post (evBody Tryz.prog aid0 call 78 [v, .int .u64 n] ⟨.lf, 0, [], []⟩) (fun u st => ∃ t, u = bsl (bs ++ varB 9 n) (.tok t 1) ∧ st.h.get t = some .buf ∧ t < st.nx) := by
  refine post_body Tryz.func78 rfl (Nat.le_of_ble_eq_true rfl) ?_
  have hstart : ∃ o st1, out1 (appendA Tryz.prog false 5 .snil v) ⟨.lf, 0, [], []⟩ = some (o, st1) ∧ Gr o bs st1 := by
    rcases bytesV_eq hv with ⟨rfl, rfl⟩ | ⟨cp, rfl⟩
    · exact ⟨.snil, ⟨.lf, 0, [], []⟩, ap_nothing el5 .snil trivial, ⟨.inl ⟨rfl, rfl⟩, rfl, fun _ _ => rfl⟩⟩
    · by_cases hz : bs.length = 0
      · have : bs = [] := List.eq_nil_of_length_eq_zero hz
        subst this
        exact ⟨.snil, ⟨.lf, 0, [], []⟩, by simp only [bsl, aid0_H, aid0_mu, aid0_L, x_seq, x_region, x_reg, x_cond, x_block, x_exit, x_ret, x_skip, s_cons, s_nil, w_none, wO, wO_some, wd_t, wd_f, wd_tup, wd_bt, wd_bf, g_t, g_f, g_fn, g_ite, p_some, p_none, p_ite, reg_none, reg_some, reg_ite, prune_nil, prune_cons,
 then_nrm, then_ext, then_ret, then_ite, cond_t, cond_f, cond_b, block_nrm, block_ret, block_ext, block_ite, o_assign, o_move, o_pick, pick_t, pick_f, pick_b, pick_bool, o_bin, o_un, u_not, o_conv, o_load, o_store, o_slice, o_nilck, nilck_ptr, nilck_iptr,
 addr_ptr, addr_iptr, o_bi, o_call, call_fn, rtV_some, rtV_ite, out_ret, out_rt, out_ite, eget_hit, eget_miss, v_tmp, v_fn, v_bool, v_int, v_str, v_nilp, v_snil, v_nilm, v_nilf, v_agg,
 b_add, b_sub, b_mul, b_quo, b_rem, b_and, b_or, b_eql, b_neq, b_lss, b_leq, b_gtr, b_geq, b_shl, b_shr, b_seql, b_sneq, b_pnil, b_pnilN, b_nilnil,
 List.getElem?_cons, Nat.reduceLT, Nat.reduceSub, Nat.reduceAdd, Nat.reduceEqDiff, ne_eq, not_false_eq_true, Option.getD_some, Bool.not_true, Bool.not_false, reduceIte, reduceCtorEq, Nat.succ_ne_zero, List.map_cons, List.map_nil, List.nil_append, List.append_nil, List.cons_append, arg_nil, arg_cons, res_v, ra_nil, ra_cons, r_tmp, r_cell, rc_some, rt_one, rt_two, rt_nil, ldH_some, stH_some, tk_f, tk_t, ixS_sl, ixA_int, fdV_agg, lenV_snil, lenV_sl, lenV_ms, bi_max, bi_min, newT_none, growT_buf, get_set, get_lf, V.cells, List.map_nil, Option.map_some, List.length_cons, List.length_nil, newO_get, newO_nx, newO_df, putO_get, putO_nx, putO_df, delO_get, delO_nx, delO_df, alH_none, o_bx, bxV_agg, bxV_int, bxV_sl, bxV_snil, fill_nil, fill_cons, fillK_some, plc_def, aggO_some, arH_some, apM_some, catP_nil, catP_cons, okIdx_nil, okIdx_cons, postC_ite, post_ite, postC_some, post_some, o_extract2, exV_tup, o_mkfn, Option.map_none, Int.reduceEq, Int.reduceNe, Int.reduceLE, Int.reduceLT, Int.reduceToNat, Int.reducePow, Int.reduceNeg, Nat.reduceLeDiff, Nat.reduceMul, Nat.reducePow, true_and, and_true, decide_eq_true_eq, List.all_cons, List.all_nil, V.one, Bool.and_self, Bool.and_true, IntKind.bits, Int.toNat_natCast, Nat.mul_one, Nat.zero_add, V.flat, List.size_toArray, decide_true, decide_false, Bool.false_eq_true, Nat.zero_le, Int.natCast_nonneg, ld2, ldr2, li2, st2, ld4, ldr4, li4, st4, ld5, ldr5, li5, st5, ld22, ldr22, li22, st22, ld53, ldr53, li53, st53, ld60, ldr60, li60, st60, ld98, ldr98, li98, st98, ld107, ldr107, li107, st107, ld154, ldr154, li154, st154, ld179, ldr179, li179, st179, ld277, ldr277, li277, st277, fa98_0, fa98_1, fa98_2, fa98_3, fa98_4, fa109_0, fa156_0, fa156_1, fa281_0, fa281_1, fa281_2, fa284_0, fa284_1, far98_0, far98_1, far98_2, far98_3, far98_4, far109_0, far156_0, far156_1, far281_0, far281_1, far281_2, far284_0, far284_1, ix60, ix63, ix176, ix277, al98, al109, al179, al277, al281, al284, bl98, bl109, bl281, bl284, bs60, bs63, bs107, bs176, slo60, shi60, ahr277, ahi277, app60_60, app107_107, len60, len63, len107, len176, cvr2_178, cv2_178, cvr3_178, cv3_178, cvr5_178, cv5_178, cvr22_178, cv22_178, cvr178_2, cv178_2, cvr178_5, cv178_5, cvr178_22, cv178_22, bpe47, bpn47, bsn60, bnn60, bpe179, bpn179, lenr60, lenr63, lenr107, lenr176, bsm60, bsm63, bsm107, bsm176, ap_nil el5, ap_ex el5, ap_tok el5, ap_ex_ms el5, ap_nil_ms el5, ap_nothing el5, apr_ex_ms el5, apr_nil_ms el5, ap_nil el60, ap_ex el60, ap_tok el60, ap_ex_ms el60, ap_nil_ms el60, ap_nothing el60, apr_ex_ms el60, apr_nil_ms el60], ⟨.inl ⟨rfl, rfl⟩, rfl, fun _ _ => rfl⟩⟩
      · have hex : exOk bs.length 0 1 = true := room_ex (by omega) (by omega) (by omega)
        refine ⟨.sl (bs.map u8V) bs.length 1 (.tok 0 1), (⟨.lf, 0, [], []⟩ : St).newO .buf, by simp only [bsl, aid0_H, aid0_mu, aid0_L, x_seq, x_region, x_reg, x_cond, x_block, x_exit, x_ret, x_skip, s_cons, s_nil, w_none, wO, wO_some, wd_t, wd_f, wd_tup, wd_bt, wd_bf, g_t, g_f, g_fn, g_ite, p_some, p_none, p_ite, reg_none, reg_some, reg_ite, prune_nil, prune_cons,
 then_nrm, then_ext, then_ret, then_ite, cond_t, cond_f, cond_b, block_nrm, block_ret, block_ext, block_ite, o_assign, o_move, o_pick, pick_t, pick_f, pick_b, pick_bool, o_bin, o_un, u_not, o_conv, o_load, o_store, o_slice, o_nilck, nilck_ptr, nilck_iptr,
 addr_ptr, addr_iptr, o_bi, o_call, call_fn, rtV_some, rtV_ite, out_ret, out_rt, out_ite, eget_hit, eget_miss, v_tmp, v_fn, v_bool, v_int, v_str, v_nilp, v_snil, v_nilm, v_nilf, v_agg,
 b_add, b_sub, b_mul, b_quo, b_rem, b_and, b_or, b_eql, b_neq, b_lss, b_leq, b_gtr, b_geq, b_shl, b_shr, b_seql, b_sneq, b_pnil, b_pnilN, b_nilnil,
 List.getElem?_cons, Nat.reduceLT, Nat.reduceSub, Nat.reduceAdd, Nat.reduceEqDiff, ne_eq, not_false_eq_true, Option.getD_some, Bool.not_true, Bool.not_false, reduceIte, reduceCtorEq, Nat.succ_ne_zero, List.map_cons, List.map_nil, List.nil_append, List.append_nil, List.cons_append, arg_nil, arg_cons, res_v, ra_nil, ra_cons, r_tmp, r_cell, rc_some, rt_one, rt_two, rt_nil, ldH_some, stH_some, tk_f, tk_t, ixS_sl, ixA_int, fdV_agg, lenV_snil, lenV_sl, lenV_ms, bi_max, bi_min, newT_none, growT_buf, get_set, get_lf, V.cells, List.map_nil, Option.map_some, List.length_cons, List.length_nil, newO_get, newO_nx, newO_df, putO_get, putO_nx, putO_df, delO_get, delO_nx, delO_df, alH_none, o_bx, bxV_agg, bxV_int, bxV_sl, bxV_snil, fill_nil, fill_cons, fillK_some, plc_def, aggO_some, arH_some, apM_some, catP_nil, catP_cons, okIdx_nil, okIdx_cons, postC_ite, post_ite, postC_some, post_some, o_extract2, exV_tup, o_mkfn, Option.map_none, Int.reduceEq, Int.reduceNe, Int.reduceLE, Int.reduceLT, Int.reduceToNat, Int.reducePow, Int.reduceNeg, Nat.reduceLeDiff, Nat.reduceMul, Nat.reducePow, true_and, and_true, decide_eq_true_eq, List.all_cons, List.all_nil, V.one, Bool.and_self, Bool.and_true, IntKind.bits, Int.toNat_natCast, Nat.mul_one, Nat.zero_add, V.flat, List.size_toArray, decide_true, decide_false, Bool.false_eq_true, Nat.zero_le, Int.natCast_nonneg, ld2, ldr2, li2, st2, ld4, ldr4, li4, st4, ld5, ldr5, li5, st5, ld22, ldr22, li22, st22, ld53, ldr53, li53, st53, ld60, ldr60, li60, st60, ld98, ldr98, li98, st98, ld107, ldr107, li107, st107, ld154, ldr154, li154, st154, ld179, ldr179, li179, st179, ld277, ldr277, li277, st277, fa98_0, fa98_1, fa98_2, fa98_3, fa98_4, fa109_0, fa156_0, fa156_1, fa281_0, fa281_1, fa281_2, fa284_0, fa284_1, far98_0, far98_1, far98_2, far98_3, far98_4, far109_0, far156_0, far156_1, far281_0, far281_1, far281_2, far284_0, far284_1, ix60, ix63, ix176, ix277, al98, al109, al179, al277, al281, al284, bl98, bl109, bl281, bl284, bs60, bs63, bs107, bs176, slo60, shi60, ahr277, ahi277, app60_60, app107_107, len60, len63, len107, len176, cvr2_178, cv2_178, cvr3_178, cv3_178, cvr5_178, cv5_178, cvr22_178, cv22_178, cvr178_2, cv178_2, cvr178_5, cv178_5, cvr178_22, cv178_22, bpe47, bpn47, bsn60, bnn60, bpe179, bpn179, lenr60, lenr63, lenr107, lenr176, bsm60, bsm63, bsm107, bsm176, ap_nil el5, ap_ex el5, ap_tok el5, ap_ex_ms el5, ap_nil_ms el5, ap_nothing el5, apr_ex_ms el5, apr_nil_ms el5, ap_nil el60, ap_ex el60, ap_tok el60, ap_ex_ms el60, ap_nil_ms el60, ap_nothing el60, apr_ex_ms el60, apr_nil_ms el60, hz, hex], ⟨.inr ⟨0, rfl, rfl⟩, rfl, fun k hk => ?_⟩⟩
        have hk' : 0 + 1 ≤ k := hk
        rw [newO_get, if_neg (show ¬ k = 0 by omega)]; rfl
  obtain ⟨o, st1, h1, hg⟩ := hstart
  simp only [Tryz.f78, aid0_H, aid0_mu, aid0_L, x_seq, x_region, x_reg, x_cond, x_block, x_exit, x_ret, x_skip, s_cons, s_nil, w_none, wO, wO_some, wd_t, wd_f, wd_tup, wd_bt, wd_bf, g_t, g_f, g_fn, g_ite, p_some, p_none, p_ite, reg_none, reg_some, reg_ite, prune_nil, prune_cons,
 then_nrm, then_ext, then_ret, then_ite, cond_t, cond_f, cond_b, block_nrm, block_ret, block_ext, block_ite, o_assign, o_move, o_pick, pick_t, pick_f, pick_b, pick_bool, o_bin, o_un, u_not, o_conv, o_load, o_store, o_slice, o_nilck, nilck_ptr, nilck_iptr,
 addr_ptr, addr_iptr, o_bi, o_call, call_fn, rtV_some, rtV_ite, out_ret, out_rt, out_ite, eget_hit, eget_miss, v_tmp, v_fn, v_bool, v_int, v_str, v_nilp, v_snil, v_nilm, v_nilf, v_agg,
 b_add, b_sub, b_mul, b_quo, b_rem, b_and, b_or, b_eql, b_neq, b_lss, b_leq, b_gtr, b_geq, b_shl, b_shr, b_seql, b_sneq, b_pnil, b_pnilN, b_nilnil,
 List.getElem?_cons, Nat.reduceLT, Nat.reduceSub, Nat.reduceAdd, Nat.reduceEqDiff, ne_eq, not_false_eq_true, Option.getD_some, Bool.not_true, Bool.not_false, reduceIte, reduceCtorEq, Nat.succ_ne_zero, List.map_cons, List.map_nil, List.nil_append, List.append_nil, List.cons_append, arg_nil, arg_cons, res_v, ra_nil, ra_cons, r_tmp, r_cell, rc_some, rt_one, rt_two, rt_nil, ldH_some, stH_some, tk_f, tk_t, ixS_sl, ixA_int, fdV_agg, lenV_snil, lenV_sl, lenV_ms, bi_max, bi_min, newT_none, growT_buf, get_set, get_lf, V.cells, List.map_nil, Option.map_some, List.length_cons, List.length_nil, newO_get, newO_nx, newO_df, putO_get, putO_nx, putO_df, delO_get, delO_nx, delO_df, alH_none, o_bx, bxV_agg, bxV_int, bxV_sl, bxV_snil, fill_nil, fill_cons, fillK_some, plc_def, aggO_some, arH_some, apM_some, catP_nil, catP_cons, okIdx_nil, okIdx_cons, postC_ite, post_ite, postC_some, post_some, o_extract2, exV_tup, o_mkfn, Option.map_none, Int.reduceEq, Int.reduceNe, Int.reduceLE, Int.reduceLT, Int.reduceToNat, Int.reducePow, Int.reduceNeg, Nat.reduceLeDiff, Nat.reduceMul, Nat.reducePow, true_and, and_true, decide_eq_true_eq, List.all_cons, List.all_nil, V.one, Bool.and_self, Bool.and_true, IntKind.bits, Int.toNat_natCast, Nat.mul_one, Nat.zero_add, V.flat, List.size_toArray, decide_true, decide_false, Bool.false_eq_true, Nat.zero_le, Int.natCast_nonneg, ld2, ldr2, li2, st2, ld4, ldr4, li4, st4, ld5, ldr5, li5, st5, ld22, ldr22, li22, st22, ld53, ldr53, li53, st53, ld60, ldr60, li60, st60, ld98, ldr98, li98, st98, ld107, ldr107, li107, st107, ld154, ldr154, li154, st154, ld179, ldr179, li179, st179, ld277, ldr277, li277, st277, fa98_0, fa98_1, fa98_2, fa98_3, fa98_4, fa109_0, fa156_0, fa156_1, fa281_0, fa281_1, fa281_2, fa284_0, fa284_1, far98_0, far98_1, far98_2, far98_3, far98_4, far109_0, far156_0, far156_1, far281_0, far281_1, far281_2, far284_0, far284_1, ix60, ix63, ix176, ix277, al98, al109, al179, al277, al281, al284, bl98, bl109, bl281, bl284, bs60, bs63, bs107, bs176, slo60, shi60, ahr277, ahi277, app60_60, app107_107, len60, len63, len107, len176, cvr2_178, cv2_178, cvr3_178, cv3_178, cvr5_178, cv5_178, cvr22_178, cv22_178, cvr178_2, cv178_2, cvr178_5, cv178_5, cvr178_22, cv178_22, bpe47, bpn47, bsn60, bnn60, bpe179, bpn179, lenr60, lenr63, lenr107, lenr176, bsm60, bsm63, bsm107, bsm176, ap_nil el5, ap_ex el5, ap_tok el5, ap_ex_ms el5, ap_nil_ms el5, ap_nothing el5, apr_ex_ms el5, apr_nil_ms el5, ap_nil el60, ap_ex el60, ap_tok el60, ap_ex_ms el60, ap_nil_ms el60, ap_nothing el60, apr_ex_ms el60, apr_nil_ms el60, h1]
  refine post_then (post_block (post_loop (fun j env st => ∃ (m : Nat) (pre : List Nat) (o : V), j = 9 - pre.length ∧ eget env 1 = .int .u64 m ∧ eget env 5 = o ∧ Gr o (bs ++ pre) st ∧
    pre ++ varB (9 - pre.length) m = varB 9 n ∧ m * 128 ^ pre.length ≤ n) ?_ 9 1000 _ _ ?_ (by decide)))
  · rintro j env st ⟨m, pre, o, hj, e1, e5, hgr, hpre, hle⟩
    have hk : pre.length ≤ 9 := by
      have := (varB_len 9 n).2
      rw [← hpre] at this
      have := (varB_len (9 - pre.length) m).1
      simp at *; omega
    have hlen : (bs ++ pre).length ≤ 1099511627800 := by simp; omega
    by_cases hm : m > 127
    · have hm' : (m : Int) ≥ 128 := by omega
      have hk2 : pre.length < 9 := by
        rcases Nat.lt_or_ge pre.length 9 with h | h
        · exact h
        · have : pre.length = 9 := by omega
          rw [this] at hle
          have : (128 : Nat) ^ 9 = 9223372036854775808 := by decide
          rw [this] at hle; omega
      have hb : IntKind.u8.wrap (IntKind.u8.wrap ((m : Int).tmod 128) + 128) = ((m % 128 + 128 : Nat) : Int) := by
        rw [tmod128, wrap_u8]
        have : (((m % 128 % 256 : Nat) : Int) + 128) = ((m % 128 + 128 : Nat) : Int) := by omega
        rw [this, wrap_u8]; congr 1; omega
      have hq : IntKind.u64.wrap ((m : Int).tdiv 128) = ((m / 128 : Nat) : Int) := by
        rw [tdiv128, wrap_u64 _ (by
          have : m ≤ n := Nat.le_trans (Nat.le_mul_of_pos_right m (Nat.pow_pos (by omega))) hle
          omega)]
      obtain ⟨o', st', h2, hgr', t', ht'⟩ := grow_one o (bs ++ pre) st (m % 128 + 128) hgr hlen
      simp only [u8V] at h2
      simp only [aid0_H, aid0_mu, aid0_L, x_seq, x_region, x_reg, x_cond, x_block, x_exit, x_ret, x_skip, s_cons, s_nil, w_none, wO, wO_some, wd_t, wd_f, wd_tup, wd_bt, wd_bf, g_t, g_f, g_fn, g_ite, p_some, p_none, p_ite, reg_none, reg_some, reg_ite, prune_nil, prune_cons,
 then_nrm, then_ext, then_ret, then_ite, cond_t, cond_f, cond_b, block_nrm, block_ret, block_ext, block_ite, o_assign, o_move, o_pick, pick_t, pick_f, pick_b, pick_bool, o_bin, o_un, u_not, o_conv, o_load, o_store, o_slice, o_nilck, nilck_ptr, nilck_iptr,
 addr_ptr, addr_iptr, o_bi, o_call, call_fn, rtV_some, rtV_ite, out_ret, out_rt, out_ite, eget_hit, eget_miss, v_tmp, v_fn, v_bool, v_int, v_str, v_nilp, v_snil, v_nilm, v_nilf, v_agg,
 b_add, b_sub, b_mul, b_quo, b_rem, b_and, b_or, b_eql, b_neq, b_lss, b_leq, b_gtr, b_geq, b_shl, b_shr, b_seql, b_sneq, b_pnil, b_pnilN, b_nilnil,
 List.getElem?_cons, Nat.reduceLT, Nat.reduceSub, Nat.reduceAdd, Nat.reduceEqDiff, ne_eq, not_false_eq_true, Option.getD_some, Bool.not_true, Bool.not_false, reduceIte, reduceCtorEq, Nat.succ_ne_zero, List.map_cons, List.map_nil, List.nil_append, List.append_nil, List.cons_append, arg_nil, arg_cons, res_v, ra_nil, ra_cons, r_tmp, r_cell, rc_some, rt_one, rt_two, rt_nil, ldH_some, stH_some, tk_f, tk_t, ixS_sl, ixA_int, fdV_agg, lenV_snil, lenV_sl, lenV_ms, bi_max, bi_min, newT_none, growT_buf, get_set, get_lf, V.cells, List.map_nil, Option.map_some, List.length_cons, List.length_nil, newO_get, newO_nx, newO_df, putO_get, putO_nx, putO_df, delO_get, delO_nx, delO_df, alH_none, o_bx, bxV_agg, bxV_int, bxV_sl, bxV_snil, fill_nil, fill_cons, fillK_some, plc_def, aggO_some, arH_some, apM_some, catP_nil, catP_cons, okIdx_nil, okIdx_cons, postC_ite, post_ite, postC_some, post_some, o_extract2, exV_tup, o_mkfn, Option.map_none, Int.reduceEq, Int.reduceNe, Int.reduceLE, Int.reduceLT, Int.reduceToNat, Int.reducePow, Int.reduceNeg, Nat.reduceLeDiff, Nat.reduceMul, Nat.reducePow, true_and, and_true, decide_eq_true_eq, List.all_cons, List.all_nil, V.one, Bool.and_self, Bool.and_true, IntKind.bits, Int.toNat_natCast, Nat.mul_one, Nat.zero_add, V.flat, List.size_toArray, decide_true, decide_false, Bool.false_eq_true, Nat.zero_le, Int.natCast_nonneg, ld2, ldr2, li2, st2, ld4, ldr4, li4, st4, ld5, ldr5, li5, st5, ld22, ldr22, li22, st22, ld53, ldr53, li53, st53, ld60, ldr60, li60, st60, ld98, ldr98, li98, st98, ld107, ldr107, li107, st107, ld154, ldr154, li154, st154, ld179, ldr179, li179, st179, ld277, ldr277, li277, st277, fa98_0, fa98_1, fa98_2, fa98_3, fa98_4, fa109_0, fa156_0, fa156_1, fa281_0, fa281_1, fa281_2, fa284_0, fa284_1, far98_0, far98_1, far98_2, far98_3, far98_4, far109_0, far156_0, far156_1, far281_0, far281_1, far281_2, far284_0, far284_1, ix60, ix63, ix176, ix277, al98, al109, al179, al277, al281, al284, bl98, bl109, bl281, bl284, bs60, bs63, bs107, bs176, slo60, shi60, ahr277, ahi277, app60_60, app107_107, len60, len63, len107, len176, cvr2_178, cv2_178, cvr3_178, cv3_178, cvr5_178, cv5_178, cvr22_178, cv22_178, cvr178_2, cv178_2, cvr178_5, cv178_5, cvr178_22, cv178_22, bpe47, bpn47, bsn60, bnn60, bpe179, bpn179, lenr60, lenr63, lenr107, lenr176, bsm60, bsm63, bsm107, bsm176, ap_nil el5, ap_ex el5, ap_tok el5, ap_ex_ms el5, ap_nil_ms el5, ap_nothing el5, apr_ex_ms el5, apr_nil_ms el5, ap_nil el60, ap_ex el60, ap_tok el60, ap_ex_ms el60, ap_nil_ms el60, ap_nothing el60, apr_ex_ms el60, apr_nil_ms el60, e1, e5, hm', hb, hq, h2]
      refine ⟨9 - (pre.length + 1), by omega, m / 128, pre ++ [m % 128 + 128], o', by simp, rfl, rfl, by rw [← List.append_assoc]; exact hgr', ?_, ?_⟩
      · rw [← hpre]
        have : 9 - pre.length = (9 - (pre.length + 1)) + 1 := by omega
        rw [this]
        simp only [varB, hm, if_true, List.length_append, List.length_cons, List.length_nil, Nat.zero_add]
        simp
      · simp only [List.length_append, List.length_cons, List.length_nil, Nat.zero_add, Nat.pow_succ]
        calc m / 128 * (128 ^ pre.length * 128) = (m / 128 * 128) * 128 ^ pre.length := by rw [Nat.mul_comm (128 ^ pre.length) 128, Nat.mul_assoc]
          _ ≤ m * 128 ^ pre.length := Nat.mul_le_mul_right _ (Nat.div_mul_le_self _ _)
          _ ≤ n := hle
    · have hm' : ¬ ((m : Int) ≥ 128) := by omega
      have hb : IntKind.u8.wrap (m : Int) = ((m : Nat) : Int) := by rw [wrap_u8]; congr 1; omega
      obtain ⟨o', st', h2, hgr', t', ht'⟩ := grow_one o (bs ++ pre) st m hgr hlen
      simp only [u8V] at h2
      have e9 : varB 9 n = pre ++ [m] := by
        rw [← hpre]
        cases h : 9 - pre.length with
        | zero => rfl
        | succ f => simp only [varB, hm, if_false]
      have hd := hgr'.2.1
      simp only [aid0_H, aid0_mu, aid0_L, x_seq, x_region, x_reg, x_cond, x_block, x_exit, x_ret, x_skip, s_cons, s_nil, w_none, wO, wO_some, wd_t, wd_f, wd_tup, wd_bt, wd_bf, g_t, g_f, g_fn, g_ite, p_some, p_none, p_ite, reg_none, reg_some, reg_ite, prune_nil, prune_cons,
 then_nrm, then_ext, then_ret, then_ite, cond_t, cond_f, cond_b, block_nrm, block_ret, block_ext, block_ite, o_assign, o_move, o_pick, pick_t, pick_f, pick_b, pick_bool, o_bin, o_un, u_not, o_conv, o_load, o_store, o_slice, o_nilck, nilck_ptr, nilck_iptr,
 addr_ptr, addr_iptr, o_bi, o_call, call_fn, rtV_some, rtV_ite, out_ret, out_rt, out_ite, eget_hit, eget_miss, v_tmp, v_fn, v_bool, v_int, v_str, v_nilp, v_snil, v_nilm, v_nilf, v_agg,
 b_add, b_sub, b_mul, b_quo, b_rem, b_and, b_or, b_eql, b_neq, b_lss, b_leq, b_gtr, b_geq, b_shl, b_shr, b_seql, b_sneq, b_pnil, b_pnilN, b_nilnil,
 List.getElem?_cons, Nat.reduceLT, Nat.reduceSub, Nat.reduceAdd, Nat.reduceEqDiff, ne_eq, not_false_eq_true, Option.getD_some, Bool.not_true, Bool.not_false, reduceIte, reduceCtorEq, Nat.succ_ne_zero, List.map_cons, List.map_nil, List.nil_append, List.append_nil, List.cons_append, arg_nil, arg_cons, res_v, ra_nil, ra_cons, r_tmp, r_cell, rc_some, rt_one, rt_two, rt_nil, ldH_some, stH_some, tk_f, tk_t, ixS_sl, ixA_int, fdV_agg, lenV_snil, lenV_sl, lenV_ms, bi_max, bi_min, newT_none, growT_buf, get_set, get_lf, V.cells, List.map_nil, Option.map_some, List.length_cons, List.length_nil, newO_get, newO_nx, newO_df, putO_get, putO_nx, putO_df, delO_get, delO_nx, delO_df, alH_none, o_bx, bxV_agg, bxV_int, bxV_sl, bxV_snil, fill_nil, fill_cons, fillK_some, plc_def, aggO_some, arH_some, apM_some, catP_nil, catP_cons, okIdx_nil, okIdx_cons, postC_ite, post_ite, postC_some, post_some, o_extract2, exV_tup, o_mkfn, Option.map_none, Int.reduceEq, Int.reduceNe, Int.reduceLE, Int.reduceLT, Int.reduceToNat, Int.reducePow, Int.reduceNeg, Nat.reduceLeDiff, Nat.reduceMul, Nat.reducePow, true_and, and_true, decide_eq_true_eq, List.all_cons, List.all_nil, V.one, Bool.and_self, Bool.and_true, IntKind.bits, Int.toNat_natCast, Nat.mul_one, Nat.zero_add, V.flat, List.size_toArray, decide_true, decide_false, Bool.false_eq_true, Nat.zero_le, Int.natCast_nonneg, ld2, ldr2, li2, st2, ld4, ldr4, li4, st4, ld5, ldr5, li5, st5, ld22, ldr22, li22, st22, ld53, ldr53, li53, st53, ld60, ldr60, li60, st60, ld98, ldr98, li98, st98, ld107, ldr107, li107, st107, ld154, ldr154, li154, st154, ld179, ldr179, li179, st179, ld277, ldr277, li277, st277, fa98_0, fa98_1, fa98_2, fa98_3, fa98_4, fa109_0, fa156_0, fa156_1, fa281_0, fa281_1, fa281_2, fa284_0, fa284_1, far98_0, far98_1, far98_2, far98_3, far98_4, far109_0, far156_0, far156_1, far281_0, far281_1, far281_2, far284_0, far284_1, ix60, ix63, ix176, ix277, al98, al109, al179, al277, al281, al284, bl98, bl109, bl281, bl284, bs60, bs63, bs107, bs176, slo60, shi60, ahr277, ahi277, app60_60, app107_107, len60, len63, len107, len176, cvr2_178, cv2_178, cvr3_178, cv3_178, cvr5_178, cv5_178, cvr22_178, cv22_178, cvr178_2, cv178_2, cvr178_5, cv178_5, cvr178_22, cv178_22, bpe47, bpn47, bsn60, bnn60, bpe179, bpn179, lenr60, lenr63, lenr107, lenr176, bsm60, bsm63, bsm107, bsm176, ap_nil el5, ap_ex el5, ap_tok el5, ap_ex_ms el5, ap_nil_ms el5, ap_nothing el5, apr_ex_ms el5, apr_nil_ms el5, ap_nil el60, ap_ex el60, ap_tok el60, ap_ex_ms el60, ap_nil_ms el60, ap_nothing el60, apr_ex_ms el60, apr_nil_ms el60, e1, e5, hm', hb, h2, hd]
      refine ⟨fun _ => trivial, t', ?_, ?_⟩
      · rw [ht', e9]; simp [bsl, List.append_assoc]
      · rcases hgr'.1 with ⟨rfl, h⟩ | ⟨t'', rfl, h⟩
        · cases ht'
        · cases ht'
          refine ⟨h, ?_⟩
          rcases Nat.lt_or_ge t' st'.nx with hh | hh
          · exact hh
          · rw [hgr'.2.2 t' hh] at h; cases h
  · refine ⟨n, [], o, rfl, ?_⟩
    simp only [aid0_H, aid0_mu, aid0_L, x_seq, x_region, x_reg, x_cond, x_block, x_exit, x_ret, x_skip, s_cons, s_nil, w_none, wO, wO_some, wd_t, wd_f, wd_tup, wd_bt, wd_bf, g_t, g_f, g_fn, g_ite, p_some, p_none, p_ite, reg_none, reg_some, reg_ite, prune_nil, prune_cons,
 then_nrm, then_ext, then_ret, then_ite, cond_t, cond_f, cond_b, block_nrm, block_ret, block_ext, block_ite, o_assign, o_move, o_pick, pick_t, pick_f, pick_b, pick_bool, o_bin, o_un, u_not, o_conv, o_load, o_store, o_slice, o_nilck, nilck_ptr, nilck_iptr,
 addr_ptr, addr_iptr, o_bi, o_call, call_fn, rtV_some, rtV_ite, out_ret, out_rt, out_ite, eget_hit, eget_miss, v_tmp, v_fn, v_bool, v_int, v_str, v_nilp, v_snil, v_nilm, v_nilf, v_agg,
 b_add, b_sub, b_mul, b_quo, b_rem, b_and, b_or, b_eql, b_neq, b_lss, b_leq, b_gtr, b_geq, b_shl, b_shr, b_seql, b_sneq, b_pnil, b_pnilN, b_nilnil,
 List.getElem?_cons, Nat.reduceLT, Nat.reduceSub, Nat.reduceAdd, Nat.reduceEqDiff, ne_eq, not_false_eq_true, Option.getD_some, Bool.not_true, Bool.not_false, reduceIte, reduceCtorEq, Nat.succ_ne_zero, List.map_cons, List.map_nil, List.nil_append, List.append_nil, List.cons_append, arg_nil, arg_cons, res_v, ra_nil, ra_cons, r_tmp, r_cell, rc_some, rt_one, rt_two, rt_nil, ldH_some, stH_some, tk_f, tk_t, ixS_sl, ixA_int, fdV_agg, lenV_snil, lenV_sl, lenV_ms, bi_max, bi_min, newT_none, growT_buf, get_set, get_lf, V.cells, List.map_nil, Option.map_some, List.length_cons, List.length_nil, newO_get, newO_nx, newO_df, putO_get, putO_nx, putO_df, delO_get, delO_nx, delO_df, alH_none, o_bx, bxV_agg, bxV_int, bxV_sl, bxV_snil, fill_nil, fill_cons, fillK_some, plc_def, aggO_some, arH_some, apM_some, catP_nil, catP_cons, okIdx_nil, okIdx_cons, postC_ite, post_ite, postC_some, post_some, o_extract2, exV_tup, o_mkfn, Option.map_none, Int.reduceEq, Int.reduceNe, Int.reduceLE, Int.reduceLT, Int.reduceToNat, Int.reducePow, Int.reduceNeg, Nat.reduceLeDiff, Nat.reduceMul, Nat.reducePow, true_and, and_true, decide_eq_true_eq, List.all_cons, List.all_nil, V.one, Bool.and_self, Bool.and_true, IntKind.bits, Int.toNat_natCast, Nat.mul_one, Nat.zero_add, V.flat, List.size_toArray, decide_true, decide_false, Bool.false_eq_true, Nat.zero_le, Int.natCast_nonneg, ld2, ldr2, li2, st2, ld4, ldr4, li4, st4, ld5, ldr5, li5, st5, ld22, ldr22, li22, st22, ld53, ldr53, li53, st53, ld60, ldr60, li60, st60, ld98, ldr98, li98, st98, ld107, ldr107, li107, st107, ld154, ldr154, li154, st154, ld179, ldr179, li179, st179, ld277, ldr277, li277, st277, fa98_0, fa98_1, fa98_2, fa98_3, fa98_4, fa109_0, fa156_0, fa156_1, fa281_0, fa281_1, fa281_2, fa284_0, fa284_1, far98_0, far98_1, far98_2, far98_3, far98_4, far109_0, far156_0, far156_1, far281_0, far281_1, far281_2, far284_0, far284_1, ix60, ix63, ix176, ix277, al98, al109, al179, al277, al281, al284, bl98, bl109, bl281, bl284, bs60, bs63, bs107, bs176, slo60, shi60, ahr277, ahi277, app60_60, app107_107, len60, len63, len107, len176, cvr2_178, cv2_178, cvr3_178, cv3_178, cvr5_178, cv5_178, cvr22_178, cv22_178, cvr178_2, cv178_2, cvr178_5, cv178_5, cvr178_22, cv178_22, bpe47, bpn47, bsn60, bnn60, bpe179, bpn179, lenr60, lenr63, lenr107, lenr176, bsm60, bsm63, bsm107, bsm176, ap_nil el5, ap_ex el5, ap_tok el5, ap_ex_ms el5, ap_nil_ms el5, ap_nothing el5, apr_ex_ms el5, apr_nil_ms el5, ap_nil el60, ap_ex el60, ap_tok el60, ap_ex_ms el60, ap_nil_ms el60, ap_nothing el60, apr_ex_ms el60, apr_nil_ms el60]
    simp [hg]
noncomputable def orcq1 : Nat → Option (List V → St → Option (V × St)) := fun g => bif Nat.beq g 78 then some (freshO 1 putS) else orcps g
set_option maxRecDepth 100000 in
theorem ok_orcq1 : OrcOk Tryz.prog orcq1 := by
  refine orc_add mixed ok_orcps (fresh_small fun args cs len h => ?_)
  obtain ⟨v, bs, n, rfl, hv, hl, hn, rfl, rfl⟩ := putS_inv h
  have h1 := refnum_body (evF Tryz.prog aid0 orcps 1) (wkB v) bs (bytesV_wk hv) hl n hn
  obtain ⟨u, st', h2, t, rfl, h3, h4⟩ := post_ex (post_evF (orc := orcps) en78 rfl h1)
  exact ⟨aid0, 2, st', _, t, h2, h3, h4, .cons (wk_bytes hv) (.cons (wk_int _ _) .nil), fun c hc => by
    obtain ⟨m, _, rfl⟩ := List.mem_map.1 hc; exact wk_u8 m⟩
theorem call_putR (A : Aid) (d : Nat) (v : V) (bs : List Nat) (hv : bytesV v = some bs) (hl : bs.length ≤ 1099511627776) (n : Nat) (hn : n < 18446744073709551616) (st : St) (hf : st.h.get st.nx = none) :
    evF Tryz.prog A orcq1 (d + 1) (.f 78) [v, .int .u64 n] st = some (bsl (bs ++ varB 9 n) (.tok st.nx 1), st.newO .buf) :=
  (evF_orc (o := freshO 1 putS) en78 rfl).trans (freshO_some (putS_eq hv hl hn) st hf)
end Go.Proofs.YtiicpeidjhbhiaaGreat.cd
