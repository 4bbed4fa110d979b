/-
  Digests of headers over new tables.
-/
import Derived.Test.YtiicpeidjhbhiaaGreatCdSum
namespace Go.Proofs.YtiicpeidjhbhiaaGreat.cd
open Go Go.Am ty
set_option linter.unusedSimpArgs false
theorem en36 : enterOk Tryz.prog 36 = true := by kernel_rfl
theorem en89 : enterOk Tryz.prog 89 = true := by kernel_rfl
theorem en37 : enterOk Tryz.prog 37 = true := by kernel_rfl
theorem en17 : enterOk Tryz.prog 17 = true := by kernel_rfl
theorem made_run : lookS [0, 1] (evF Tryz.prog aid0 (fun _ => none) 50 (.f 88) [.ptr 0 0] stt) = some (.bool true, [some (.blk [.snil, .map 1]), some (.mp [] 0)]) := by kernel_rfl
noncomputable def orcmd0 : Nat → Option (List V → St → Option (V × St)) := fun g => bif Nat.beq g 88 then some madeO else none
set_option maxRecDepth 100000 in
theorem ok_orcmd0 : OrcOk Tryz.prog orcmd0 := by
  refine orc_add mixed (orc0 _) (fun args st v st' h => ?_)
  obtain ⟨n, m, rfl, ht, rfl, rfl⟩ := madeO_inv h
  obtain ⟨g1, g2, g3⟩ := tabO_inv ht
  obtain ⟨st₁, hr, hk⟩ := lookS_inv made_run
  simp only [List.map_cons, List.map_nil, List.cons.injEq, and_true] at hk
  exact two_keep wk_snil g1 g2 g3 hr hk.1 hk.2 (wk_bool _)
noncomputable def orcmd : Nat → Option (List V → St → Option (V × St)) := fun g => bif Nat.beq g 88 then orcmd0 g else orcsm g
theorem ok_orcmd : OrcOk Tryz.prog orcmd := orc_or 88 ok_orcmd0 ok_orcsm
set_option maxRecDepth 100000 in
theorem given_body (call : CallF) (s : St) : post (evBody Tryz.prog aid0 call 89 [.int .i64 1] s) (fun u s' => u = .tup [.int .i64 1, .int .i64 0] ∧ s' = ⟨s.h, s.nx, s.lg, s.df⟩) := by
  refine post_body Tryz.func89 rfl (Nat.le_of_ble_eq_true rfl) ?_
  simp only [Tryz.f89, aid0_H, aid0_mu, aid0_L, x_seq, x_region, x_reg, x_cond, x_block, x_exit, x_ret, x_skip, s_cons, s_nil, w_none, wO, wO_some, wd_t, wd_f, wd_tup, wd_bt, wd_bf, g_t, g_f, g_fn, g_ite, p_some, p_none, p_ite, reg_none, reg_some, reg_ite, prune_nil, prune_cons,
 then_nrm, then_ext, then_ret, then_ite, cond_t, cond_f, cond_b, block_nrm, block_ret, block_ext, block_ite, o_assign, o_move, o_pick, pick_t, pick_f, pick_b, pick_bool, o_bin, o_un, u_not, o_conv, o_load, o_store, o_slice, o_nilck, nilck_ptr, nilck_iptr,
 addr_ptr, addr_iptr, o_bi, o_call, call_fn, rtV_some, rtV_ite, out_ret, out_rt, out_ite, eget_hit, eget_miss, v_tmp, v_fn, v_bool, v_int, v_str, v_nilp, v_snil, v_nilm, v_nilf, v_agg,
 b_add, b_sub, b_mul, b_quo, b_rem, b_and, b_or, b_eql, b_neq, b_lss, b_leq, b_gtr, b_geq, b_shl, b_shr, b_seql, b_sneq, b_pnil, b_pnilN, b_nilnil,
 List.getElem?_cons, Nat.reduceLT, Nat.reduceSub, Nat.reduceAdd, Nat.reduceEqDiff, ne_eq, not_false_eq_true, Option.getD_some, Bool.not_true, Bool.not_false, reduceIte, reduceCtorEq, Nat.succ_ne_zero, List.map_cons, List.map_nil, List.nil_append, List.append_nil, List.cons_append, arg_nil, arg_cons, res_v, ra_nil, ra_cons, r_tmp, r_cell, rc_some, rt_one, rt_two, rt_nil, ldH_some, stH_some, tk_f, tk_t, ixS_sl, ixA_int, fdV_agg, lenV_snil, lenV_sl, lenV_ms, bi_max, bi_min, newT_none, growT_buf, get_set, get_lf, V.cells, List.map_nil, Option.map_some, List.length_cons, List.length_nil, newO_get, newO_nx, newO_df, putO_get, putO_nx, putO_df, delO_get, delO_nx, delO_df, alH_none, o_bx, bxV_agg, bxV_int, bxV_sl, bxV_snil, fill_nil, fill_cons, fillK_some, plc_def, aggO_some, arH_some, apM_some, catP_nil, catP_cons, okIdx_nil, okIdx_cons, postC_ite, post_ite, postC_some, post_some, o_extract2, exV_tup, o_mkfn, Option.map_none, Int.reduceEq, Int.reduceNe, Int.reduceLE, Int.reduceLT, Int.reduceToNat, Int.reducePow, Int.reduceNeg, Nat.reduceLeDiff, Nat.reduceMul, Nat.reducePow, true_and, and_true, decide_eq_true_eq, List.all_cons, List.all_nil, V.one, Bool.and_self, Bool.and_true, IntKind.bits, Int.toNat_natCast, Nat.mul_one, Nat.zero_add, V.flat, List.size_toArray, decide_true, decide_false, Bool.false_eq_true, Nat.zero_le, Int.natCast_nonneg, ld2, ldr2, li2, st2, ld4, ldr4, li4, st4, ld5, ldr5, li5, st5, ld22, ldr22, li22, st22, ld53, ldr53, li53, st53, ld60, ldr60, li60, st60, ld98, ldr98, li98, st98, ld107, ldr107, li107, st107, ld154, ldr154, li154, st154, ld179, ldr179, li179, st179, ld277, ldr277, li277, st277, fa98_0, fa98_1, fa98_2, fa98_3, fa98_4, fa109_0, fa156_0, fa156_1, fa281_0, fa281_1, fa281_2, fa284_0, fa284_1, far98_0, far98_1, far98_2, far98_3, far98_4, far109_0, far156_0, far156_1, far281_0, far281_1, far281_2, far284_0, far284_1, ix60, ix63, ix176, ix277, al98, al109, al179, al277, al281, al284, bl98, bl109, bl281, bl284, bs60, bs63, bs107, bs176, slo60, shi60, ahr277, ahi277, app60_60, app107_107, len60, len63, len107, len176, cvr2_178, cv2_178, cvr3_178, cv3_178, cvr5_178, cv5_178, cvr22_178, cv22_178, cvr178_2, cv178_2, cvr178_5, cv178_5, cvr178_22, cv178_22, bpe47, bpn47, bsn60, bnn60, bpe179, bpn179, lenr60, lenr63, lenr107, lenr176, bsm60, bsm63, bsm107, bsm176, ap_nil el5, ap_ex el5, ap_tok el5, ap_ex_ms el5, ap_nil_ms el5, ap_nothing el5, apr_ex_ms el5, apr_nil_ms el5, ap_nil el60, ap_ex el60, ap_tok el60, ap_ex_ms el60, ap_nil_ms el60, ap_nothing el60, apr_ex_ms el60, apr_nil_ms el60, not_true_eq_false, not_false_eq_true]
  first | exact fun _ => trivial | exact ⟨fun _ => trivial, rfl, rfl⟩
def digR (l : List Int) : V := .tup [.int .i64 (if chk l = 0 then 1 else 0), .int .i64 (chk l)]
set_option maxRecDepth 100000 in
theorem digest_body (call : CallF) (a b c d e : Int) (hk : chk [a, b, c, d, e] = 0 ∨ chk [a, b, c, d, e] = 90)
    (hmd : ∀ s, call (.f 88) [.ptr 0 0] s = madeO [.ptr 0 0] s)
    (hby : ∀ s, call (.f 32) [.agg [.int .i64 a, .int .i64 b, .int .i64 c, .int .i64 d, .int .i64 e]] s = some (bytesR [a, b, c, d, e], s))
    (hsm : ∀ s cp, call (.f 90) [.ptr 0 0, bsl (hdrB [a, b, c, d, e]) cp] s = sumO [.ptr 0 0, bsl (hdrB [a, b, c, d, e]) cp] s)
    (hgv : ∀ s, call (.f 89) [.int .i64 1] s = some (.tup [.int .i64 1, .int .i64 0], s)) :
    post (evBody Tryz.prog aid0 call 36 [.ptr 0 0, .agg [.int .i64 a, .int .i64 b, .int .i64 c, .int .i64 d, .int .i64 e]] stt) (fun u _ => u = digR [a, b, c, d, e]) := by
  refine post_body Tryz.func36 rfl (Nat.le_of_ble_eq_true rfl) ?_
  have hta : ∀ a b c d e : Int, List.take 5 (List.drop 0 [V.int .i64 a, .int .i64 b, .int .i64 c, .int .i64 d, .int .i64 e]) = [V.int .i64 a, .int .i64 b, .int .i64 c, .int .i64 d, .int .i64 e] := fun _ _ _ _ _ => rfl
  have hmd' : ∀ s : St, s.h.get 0 = some (.blk [.snil, .map 1]) → s.h.get 1 = some (.mp [] 0) → call (.f 88) [.ptr 0 0] s = some (.bool true, s) := fun s h0 h1 => by
    rw [hmd]; exact madeO_some (tabO_some h0 h1 (by omega))
  have hlen : (hdrB [a, b, c, d, e]).length ≤ 1099511627776 := by
    have := catB_len [a, b, c, d, e]
    simp only [hdrB, List.length_cons, List.length_nil] at this ⊢; omega
  have hsm' : ∀ (s : St) (cp : Cp), s.h.get 0 = some (.blk [.snil, .map 1]) → s.h.get 1 = some (.mp [] 0) → call (.f 90) [.ptr 0 0, bsl (hdrB [a, b, c, d, e]) cp] s = some (.int .i64 1, (s.delO 0).delO 1) := fun s cp h0 h1 => by
    rw [hsm]; exact sumO_some (tabO_some h0 h1 (by omega)) hlen
  have s2 : stt.h.get 2 = none := rfl
  have s3 : stt.nx = 2 := rfl
  rcases hk with hk | hk
  · have hb0 : bytesR [a, b, c, d, e] = .tup [bsl (hdrB [a, b, c, d, e]) .unk, .int .i64 0] := by unfold bytesR; rw [if_pos hk]
    rw [hb0] at hby
    simp only [Tryz.f36, aid0_H, aid0_mu, aid0_L, x_seq, x_region, x_reg, x_cond, x_block, x_exit, x_ret, x_skip, s_cons, s_nil, w_none, wO, wO_some, wd_t, wd_f, wd_tup, wd_bt, wd_bf, g_t, g_f, g_fn, g_ite, p_some, p_none, p_ite, reg_none, reg_some, reg_ite, prune_nil, prune_cons,
 then_nrm, then_ext, then_ret, then_ite, cond_t, cond_f, cond_b, block_nrm, block_ret, block_ext, block_ite, o_assign, o_move, o_pick, pick_t, pick_f, pick_b, pick_bool, o_bin, o_un, u_not, o_conv, o_load, o_store, o_slice, o_nilck, nilck_ptr, nilck_iptr,
 addr_ptr, addr_iptr, o_bi, o_call, call_fn, rtV_some, rtV_ite, out_ret, out_rt, out_ite, eget_hit, eget_miss, v_tmp, v_fn, v_bool, v_int, v_str, v_nilp, v_snil, v_nilm, v_nilf, v_agg,
 b_add, b_sub, b_mul, b_quo, b_rem, b_and, b_or, b_eql, b_neq, b_lss, b_leq, b_gtr, b_geq, b_shl, b_shr, b_seql, b_sneq, b_pnil, b_pnilN, b_nilnil,
 List.getElem?_cons, Nat.reduceLT, Nat.reduceSub, Nat.reduceAdd, Nat.reduceEqDiff, ne_eq, not_false_eq_true, Option.getD_some, Bool.not_true, Bool.not_false, reduceIte, reduceCtorEq, Nat.succ_ne_zero, List.map_cons, List.map_nil, List.nil_append, List.append_nil, List.cons_append, arg_nil, arg_cons, res_v, ra_nil, ra_cons, r_tmp, r_cell, rc_some, rt_one, rt_two, rt_nil, ldH_some, stH_some, tk_f, tk_t, ixS_sl, ixA_int, fdV_agg, lenV_snil, lenV_sl, lenV_ms, bi_max, bi_min, newT_none, growT_buf, get_set, get_lf, V.cells, List.map_nil, Option.map_some, List.length_cons, List.length_nil, newO_get, newO_nx, newO_df, putO_get, putO_nx, putO_df, delO_get, delO_nx, delO_df, alH_none, o_bx, bxV_agg, bxV_int, bxV_sl, bxV_snil, fill_nil, fill_cons, fillK_some, plc_def, aggO_some, arH_some, apM_some, catP_nil, catP_cons, okIdx_nil, okIdx_cons, postC_ite, post_ite, postC_some, post_some, o_extract2, exV_tup, o_mkfn, Option.map_none, Int.reduceEq, Int.reduceNe, Int.reduceLE, Int.reduceLT, Int.reduceToNat, Int.reducePow, Int.reduceNeg, Nat.reduceLeDiff, Nat.reduceMul, Nat.reducePow, true_and, and_true, decide_eq_true_eq, List.all_cons, List.all_nil, V.one, Bool.and_self, Bool.and_true, IntKind.bits, Int.toNat_natCast, Nat.mul_one, Nat.zero_add, V.flat, List.size_toArray, decide_true, decide_false, Bool.false_eq_true, Nat.zero_le, Int.natCast_nonneg, ld2, ldr2, li2, st2, ld4, ldr4, li4, st4, ld5, ldr5, li5, st5, ld22, ldr22, li22, st22, ld53, ldr53, li53, st53, ld60, ldr60, li60, st60, ld98, ldr98, li98, st98, ld107, ldr107, li107, st107, ld154, ldr154, li154, st154, ld179, ldr179, li179, st179, ld277, ldr277, li277, st277, fa98_0, fa98_1, fa98_2, fa98_3, fa98_4, fa109_0, fa156_0, fa156_1, fa281_0, fa281_1, fa281_2, fa284_0, fa284_1, far98_0, far98_1, far98_2, far98_3, far98_4, far109_0, far156_0, far156_1, far281_0, far281_1, far281_2, far284_0, far284_1, ix60, ix63, ix176, ix277, al98, al109, al179, al277, al281, al284, bl98, bl109, bl281, bl284, bs60, bs63, bs107, bs176, slo60, shi60, ahr277, ahi277, app60_60, app107_107, len60, len63, len107, len176, cvr2_178, cv2_178, cvr3_178, cv3_178, cvr5_178, cv5_178, cvr22_178, cv22_178, cvr178_2, cv178_2, cvr178_5, cv178_5, cvr178_22, cv178_22, bpe47, bpn47, bsn60, bnn60, bpe179, bpn179, lenr60, lenr63, lenr107, lenr176, bsm60, bsm63, bsm107, bsm176, ap_nil el5, ap_ex el5, ap_tok el5, ap_ex_ms el5, ap_nil_ms el5, ap_nothing el5, apr_ex_ms el5, apr_nil_ms el5, ap_nil el60, ap_ex el60, ap_tok el60, ap_ex_ms el60, ap_nil_ms el60, ap_nothing el60, apr_ex_ms el60, apr_nil_ms el60, hta, hmd', hby, hsm', hgv, stt0, stt1, s2, s3, not_true_eq_false, not_false_eq_true]
    refine ⟨fun _ => trivial, ?_⟩
    unfold digR; rw [if_pos hk, hk]
  · have hb0 : bytesR [a, b, c, d, e] = .tup [.snil, .int .i64 90] := by unfold bytesR; rw [if_neg (by rw [hk]; decide)]
    rw [hb0] at hby
    simp only [Tryz.f36, aid0_H, aid0_mu, aid0_L, x_seq, x_region, x_reg, x_cond, x_block, x_exit, x_ret, x_skip, s_cons, s_nil, w_none, wO, wO_some, wd_t, wd_f, wd_tup, wd_bt, wd_bf, g_t, g_f, g_fn, g_ite, p_some, p_none, p_ite, reg_none, reg_some, reg_ite, prune_nil, prune_cons,
 then_nrm, then_ext, then_ret, then_ite, cond_t, cond_f, cond_b, block_nrm, block_ret, block_ext, block_ite, o_assign, o_move, o_pick, pick_t, pick_f, pick_b, pick_bool, o_bin, o_un, u_not, o_conv, o_load, o_store, o_slice, o_nilck, nilck_ptr, nilck_iptr,
 addr_ptr, addr_iptr, o_bi, o_call, call_fn, rtV_some, rtV_ite, out_ret, out_rt, out_ite, eget_hit, eget_miss, v_tmp, v_fn, v_bool, v_int, v_str, v_nilp, v_snil, v_nilm, v_nilf, v_agg,
 b_add, b_sub, b_mul, b_quo, b_rem, b_and, b_or, b_eql, b_neq, b_lss, b_leq, b_gtr, b_geq, b_shl, b_shr, b_seql, b_sneq, b_pnil, b_pnilN, b_nilnil,
 List.getElem?_cons, Nat.reduceLT, Nat.reduceSub, Nat.reduceAdd, Nat.reduceEqDiff, ne_eq, not_false_eq_true, Option.getD_some, Bool.not_true, Bool.not_false, reduceIte, reduceCtorEq, Nat.succ_ne_zero, List.map_cons, List.map_nil, List.nil_append, List.append_nil, List.cons_append, arg_nil, arg_cons, res_v, ra_nil, ra_cons, r_tmp, r_cell, rc_some, rt_one, rt_two, rt_nil, ldH_some, stH_some, tk_f, tk_t, ixS_sl, ixA_int, fdV_agg, lenV_snil, lenV_sl, lenV_ms, bi_max, bi_min, newT_none, growT_buf, get_set, get_lf, V.cells, List.map_nil, Option.map_some, List.length_cons, List.length_nil, newO_get, newO_nx, newO_df, putO_get, putO_nx, putO_df, delO_get, delO_nx, delO_df, alH_none, o_bx, bxV_agg, bxV_int, bxV_sl, bxV_snil, fill_nil, fill_cons, fillK_some, plc_def, aggO_some, arH_some, apM_some, catP_nil, catP_cons, okIdx_nil, okIdx_cons, postC_ite, post_ite, postC_some, post_some, o_extract2, exV_tup, o_mkfn, Option.map_none, Int.reduceEq, Int.reduceNe, Int.reduceLE, Int.reduceLT, Int.reduceToNat, Int.reducePow, Int.reduceNeg, Nat.reduceLeDiff, Nat.reduceMul, Nat.reducePow, true_and, and_true, decide_eq_true_eq, List.all_cons, List.all_nil, V.one, Bool.and_self, Bool.and_true, IntKind.bits, Int.toNat_natCast, Nat.mul_one, Nat.zero_add, V.flat, List.size_toArray, decide_true, decide_false, Bool.false_eq_true, Nat.zero_le, Int.natCast_nonneg, ld2, ldr2, li2, st2, ld4, ldr4, li4, st4, ld5, ldr5, li5, st5, ld22, ldr22, li22, st22, ld53, ldr53, li53, st53, ld60, ldr60, li60, st60, ld98, ldr98, li98, st98, ld107, ldr107, li107, st107, ld154, ldr154, li154, st154, ld179, ldr179, li179, st179, ld277, ldr277, li277, st277, fa98_0, fa98_1, fa98_2, fa98_3, fa98_4, fa109_0, fa156_0, fa156_1, fa281_0, fa281_1, fa281_2, fa284_0, fa284_1, far98_0, far98_1, far98_2, far98_3, far98_4, far109_0, far156_0, far156_1, far281_0, far281_1, far281_2, far284_0, far284_1, ix60, ix63, ix176, ix277, al98, al109, al179, al277, al281, al284, bl98, bl109, bl281, bl284, bs60, bs63, bs107, bs176, slo60, shi60, ahr277, ahi277, app60_60, app107_107, len60, len63, len107, len176, cvr2_178, cv2_178, cvr3_178, cv3_178, cvr5_178, cv5_178, cvr22_178, cv22_178, cvr178_2, cv178_2, cvr178_5, cv178_5, cvr178_22, cv178_22, bpe47, bpn47, bsn60, bnn60, bpe179, bpn179, lenr60, lenr63, lenr107, lenr176, bsm60, bsm63, bsm107, bsm176, ap_nil el5, ap_ex el5, ap_tok el5, ap_ex_ms el5, ap_nil_ms el5, ap_nothing el5, apr_ex_ms el5, apr_nil_ms el5, ap_nil el60, ap_ex el60, ap_tok el60, ap_ex_ms el60, ap_nil_ms el60, ap_nothing el60, apr_ex_ms el60, apr_nil_ms el60, hta, hmd', hby, hsm', hgv, stt0, stt1, s2, s3, not_true_eq_false, not_false_eq_true]
    refine ⟨fun _ => trivial, ?_⟩
    unfold digR; rw [if_neg (by rw [hk]; decide), hk]
def digO : List V → St → Option (V × St) := fun args st => match args with
  | [.ptr n 0, v] => (match tabO st n, un5 v with
    | some m, some l => some (digR l, (st.delO n).delO m)
    | _, _ => none)
  | _ => none
theorem digO_inv {args : List V} {st st' : St} {u : V} (h : digO args st = some (u, st')) : ∃ n m a b c d e, args = [.ptr n 0, .agg [.int .i64 a, .int .i64 b, .int .i64 c, .int .i64 d, .int .i64 e]] ∧ tabO st n = some m ∧ u = digR [a, b, c, d, e] ∧ st' = (st.delO n).delO m := by
  unfold digO at h
  split at h
  · rename_i n v
    split at h
    · rename_i m l hm hl
      cases h
      obtain ⟨a, b, c, d, e, rfl, rfl⟩ := un5_eq hl
      exact ⟨n, m, a, b, c, d, e, rfl, hm, rfl, rfl⟩
    · cases h
  · cases h
noncomputable def orcdg : Nat → Option (List V → St → Option (V × St)) := fun g => bif Nat.beq g 36 then some digO else orcmd g
theorem chk_or (l : List Int) : chk l = 0 ∨ chk l = 90 := by
  unfold chk
  split
  · exact .inl rfl
  · exact .inr rfl
set_option maxRecDepth 100000 in
theorem ok_orcdg : OrcOk Tryz.prog orcdg := by
  refine orc_add mixed ok_orcmd (fun args st v st' h => ?_)
  obtain ⟨n, m, a, b, c, d, e, rfl, ht, rfl, rfl⟩ := digO_inv h
  obtain ⟨g1, g2, g3⟩ := tabO_inv ht
  have hgv : ∀ s, evF Tryz.prog aid0 orcmd 3 (.f 89) [.int .i64 1] s = some (.tup [.int .i64 1, .int .i64 0], s) := fun s => by
    obtain ⟨u, s', e1, rfl, rfl⟩ := post_ex (post_evF (P := Tryz.prog) (A := aid0) (orc := orcmd) (d := 2) en89 rfl (given_body (evF Tryz.prog aid0 orcmd 2) s))
    exact e1
  have hmd : ∀ s, evF Tryz.prog aid0 orcmd 3 (.f 88) [.ptr 0 0] s = madeO [.ptr 0 0] s := fun s => evF_orc (P := Tryz.prog) (A := aid0) (d := 2) (orc := orcmd) (o := madeO) en88 rfl
  have hsm : ∀ s cp, evF Tryz.prog aid0 orcmd 3 (.f 90) [.ptr 0 0, bsl (hdrB [a, b, c, d, e]) cp] s = sumO [.ptr 0 0, bsl (hdrB [a, b, c, d, e]) cp] s := fun s cp => evF_orc (P := Tryz.prog) (A := aid0) (d := 2) (orc := orcmd) (o := sumO) en90 rfl
  have hby : ∀ s, evF Tryz.prog aid0 orcmd 3 (.f 32) [.agg [.int .i64 a, .int .i64 b, .int .i64 c, .int .i64 d, .int .i64 e]] s = some (bytesR [a, b, c, d, e], s) := fun s =>
    (evF_orc (P := Tryz.prog) (A := aid0) (d := 2) (orc := orcmd) (o := pureO bytesS) en32 rfl).trans (pureO_some rfl s)
  obtain ⟨u, st', h2, rfl⟩ := post_ex (post_evF (orc := orcmd) (d := 3) en36 rfl (digest_body (evF Tryz.prog aid0 orcmd 3) a b c d e (chk_or _) hmd hby hsm hgv))
  exact two_small wk_snil g1 g2 g3 h2 (.cons (wk5 a b c d e) .nil) (wk_tup (.cons (wk_int _ _) (.cons (wk_int _ _) .nil)))
/-- The small heap: the document's table that knows nothing. -/
def stl : St := ⟨Tr.lf.set 0 (some (.blk [.snil])), 1, [], []⟩
theorem stl0 : stl.h.get 0 = some (.blk [.snil]) := rfl
theorem look_run (v : V) : evF Tryz.prog aid0 orcdg 3 (.f 111) [.ptr 0 0, v] ⟨stl.h, 1, [], []⟩ = some (.tup [.int .i64 0, .bool false], ⟨stl.h, 1, [], []⟩) := by
  kernel_rfl
set_option maxRecDepth 100000 in
theorem rsum_body (call : CallF) (bs : List Nat) (h0 : 0 < bs.length) (hl : bs.length ≤ 1099511627776) (hlk : call (.f 111) [.ptr 0 0, bsl bs .unk] ⟨stl.h, 1, [], []⟩ = some (.tup [.int .i64 0, .bool false], ⟨stl.h, 1, [], []⟩)) :
    post (evBody Tryz.prog aid0 call 91 [.ptr 0 0, bsl bs .unk] stl) (fun u _ => u = .int .i64 1) := by
  refine post_body Tryz.func91 rfl (Nat.le_of_ble_eq_true rfl) ?_
  have hz : ¬ bs.length = 0 := by omega
  have hex : exOk bs.length 0 1 = true := room_ex (by omega) (by omega) (by omega)
  have hex1 : exOk 1 0 24 = true := by decide
  have c2 : ¬ ((0 : Int) ≥ 1048576) := by omega
  have s1 : stl.h.get 1 = none := rfl
  have s2 : stl.h.get 2 = none := rfl
  have s3 : stl.nx = 1 := rfl
  have s4 : stl.lg = [] := rfl
  simp only [bsl] at hlk
  simp only [Tryz.f91, bsl, aid0_H, aid0_mu, aid0_L, x_seq, x_region, x_reg, x_cond, x_block, x_exit, x_ret, x_skip, s_cons, s_nil, w_none, wO, wO_some, wd_t, wd_f, wd_tup, wd_bt, wd_bf, g_t, g_f, g_fn, g_ite, p_some, p_none, p_ite, reg_none, reg_some, reg_ite, prune_nil, prune_cons,
 then_nrm, then_ext, then_ret, then_ite, cond_t, cond_f, cond_b, block_nrm, block_ret, block_ext, block_ite, o_assign, o_move, o_pick, pick_t, pick_f, pick_b, pick_bool, o_bin, o_un, u_not, o_conv, o_load, o_store, o_slice, o_nilck, nilck_ptr, nilck_iptr,
 addr_ptr, addr_iptr, o_bi, o_call, call_fn, rtV_some, rtV_ite, out_ret, out_rt, out_ite, eget_hit, eget_miss, v_tmp, v_fn, v_bool, v_int, v_str, v_nilp, v_snil, v_nilm, v_nilf, v_agg,
 b_add, b_sub, b_mul, b_quo, b_rem, b_and, b_or, b_eql, b_neq, b_lss, b_leq, b_gtr, b_geq, b_shl, b_shr, b_seql, b_sneq, b_pnil, b_pnilN, b_nilnil,
 List.getElem?_cons, Nat.reduceLT, Nat.reduceSub, Nat.reduceAdd, Nat.reduceEqDiff, ne_eq, not_false_eq_true, Option.getD_some, Bool.not_true, Bool.not_false, reduceIte, reduceCtorEq, Nat.succ_ne_zero, List.map_cons, List.map_nil, List.nil_append, List.append_nil, List.cons_append, arg_nil, arg_cons, res_v, ra_nil, ra_cons, r_tmp, r_cell, rc_some, rt_one, rt_two, rt_nil, ldH_some, stH_some, tk_f, tk_t, ixS_sl, ixA_int, fdV_agg, lenV_snil, lenV_sl, lenV_ms, bi_max, bi_min, newT_none, growT_buf, get_set, get_lf, V.cells, List.map_nil, Option.map_some, List.length_cons, List.length_nil, newO_get, newO_nx, newO_df, putO_get, putO_nx, putO_df, delO_get, delO_nx, delO_df, alH_none, o_bx, bxV_agg, bxV_int, bxV_sl, bxV_snil, fill_nil, fill_cons, fillK_some, plc_def, aggO_some, arH_some, apM_some, catP_nil, catP_cons, okIdx_nil, okIdx_cons, postC_ite, post_ite, postC_some, post_some, o_extract2, exV_tup, o_mkfn, Option.map_none, Int.reduceEq, Int.reduceNe, Int.reduceLE, Int.reduceLT, Int.reduceToNat, Int.reducePow, Int.reduceNeg, Nat.reduceLeDiff, Nat.reduceMul, Nat.reducePow, true_and, and_true, decide_eq_true_eq, List.all_cons, List.all_nil, V.one, Bool.and_self, Bool.and_true, IntKind.bits, Int.toNat_natCast, Nat.mul_one, Nat.zero_add, V.flat, List.size_toArray, decide_true, decide_false, Bool.false_eq_true, Nat.zero_le, Int.natCast_nonneg, ld2, ldr2, li2, st2, ld4, ldr4, li4, st4, ld5, ldr5, li5, st5, ld22, ldr22, li22, st22, ld53, ldr53, li53, st53, ld60, ldr60, li60, st60, ld98, ldr98, li98, st98, ld107, ldr107, li107, st107, ld154, ldr154, li154, st154, ld179, ldr179, li179, st179, ld277, ldr277, li277, st277, fa98_0, fa98_1, fa98_2, fa98_3, fa98_4, fa109_0, fa156_0, fa156_1, fa281_0, fa281_1, fa281_2, fa284_0, fa284_1, far98_0, far98_1, far98_2, far98_3, far98_4, far109_0, far156_0, far156_1, far281_0, far281_1, far281_2, far284_0, far284_1, ix60, ix63, ix176, ix277, al98, al109, al179, al277, al281, al284, bl98, bl109, bl281, bl284, bs60, bs63, bs107, bs176, slo60, shi60, ahr277, ahi277, app60_60, app107_107, len60, len63, len107, len176, cvr2_178, cv2_178, cvr3_178, cv3_178, cvr5_178, cv5_178, cvr22_178, cv22_178, cvr178_2, cv178_2, cvr178_5, cv178_5, cvr178_22, cv178_22, bpe47, bpn47, bsn60, bnn60, bpe179, bpn179, lenr60, lenr63, lenr107, lenr176, bsm60, bsm63, bsm107, bsm176, ap_nil el5, ap_ex el5, ap_tok el5, ap_ex_ms el5, ap_nil_ms el5, ap_nothing el5, apr_ex_ms el5, apr_nil_ms el5, ap_nil el60, ap_ex el60, ap_tok el60, ap_ex_ms el60, ap_nil_ms el60, ap_nothing el60, apr_ex_ms el60, apr_nil_ms el60, hlk, stl0, s1, s2, s3, s4, hz, hex, hex1, c2, splice_def, List.take_zero, List.take_succ_cons, List.drop_succ_cons, List.drop_zero, not_true_eq_false, not_false_eq_true]
  exact ⟨fun _ => trivial, rfl⟩
noncomputable def orcrs : Nat → Option (List V → St → Option (V × St)) := fun g => bif Nat.beq g 91 then some rsumO else orcdg g
set_option maxRecDepth 100000 in
theorem ok_orcrs : OrcOk Tryz.prog orcrs := by
  refine orc_add mixed ok_orcdg (fun args st v st' h => ?_)
  obtain ⟨n, bs, cp, rfl, hg, h0, hl, rfl, rfl⟩ := rsumO_inv h
  obtain ⟨u, st', h2, rfl⟩ := post_ex (post_evF (orc := orcdg) (d := 3) en91 rfl (rsum_body (evF Tryz.prog aid0 orcdg 3) bs h0 hl (look_run _)))
  exact cell_drop hg h2 (.cons (wk_bsl bs cp) .nil) (.cons wk_snil .nil) (wk_int _ _)
set_option maxRecDepth 100000 in
theorem rdigest_body (call : CallF) (a b c d e : Int) (hk : chk [a, b, c, d, e] = 0 ∨ chk [a, b, c, d, e] = 90)
    (hby : ∀ s, call (.f 33) [.agg [.int .i64 a, .int .i64 b, .int .i64 c, .int .i64 d, .int .i64 e]] s = some (bytesR [a, b, c, d, e], s))
    (hsm : ∀ s cp, call (.f 91) [.ptr 0 0, bsl (hdrB [a, b, c, d, e]) cp] s = rsumO [.ptr 0 0, bsl (hdrB [a, b, c, d, e]) cp] s) :
    post (evBody Tryz.prog aid0 call 37 [.ptr 0 0, .agg [.int .i64 a, .int .i64 b, .int .i64 c, .int .i64 d, .int .i64 e]] stl) (fun u _ => u = digR [a, b, c, d, e]) := by
  refine post_body Tryz.func37 rfl (Nat.le_of_ble_eq_true rfl) ?_
  have hta : ∀ a b c d e : Int, List.take 5 (List.drop 0 [V.int .i64 a, .int .i64 b, .int .i64 c, .int .i64 d, .int .i64 e]) = [V.int .i64 a, .int .i64 b, .int .i64 c, .int .i64 d, .int .i64 e] := fun _ _ _ _ _ => rfl
  have hlen : (hdrB [a, b, c, d, e]).length ≤ 1099511627776 := by
    have := catB_len [a, b, c, d, e]
    simp only [hdrB, List.length_cons, List.length_nil] at this ⊢; omega
  have hsm' : ∀ (s : St) (cp : Cp), s.h.get 0 = some (.blk [.snil]) → call (.f 91) [.ptr 0 0, bsl (hdrB [a, b, c, d, e]) cp] s = some (.int .i64 1, s.delO 0) := fun s cp h0 => by
    rw [hsm]; exact rsumO_some h0 (by simp [hdrB]) hlen
  have s1 : stl.h.get 1 = none := rfl
  have s3 : stl.nx = 1 := rfl
  rcases hk with hk | hk
  · have hb0 : bytesR [a, b, c, d, e] = .tup [bsl (hdrB [a, b, c, d, e]) .unk, .int .i64 0] := by unfold bytesR; rw [if_pos hk]
    rw [hb0] at hby
    simp only [Tryz.f37, aid0_H, aid0_mu, aid0_L, x_seq, x_region, x_reg, x_cond, x_block, x_exit, x_ret, x_skip, s_cons, s_nil, w_none, wO, wO_some, wd_t, wd_f, wd_tup, wd_bt, wd_bf, g_t, g_f, g_fn, g_ite, p_some, p_none, p_ite, reg_none, reg_some, reg_ite, prune_nil, prune_cons,
 then_nrm, then_ext, then_ret, then_ite, cond_t, cond_f, cond_b, block_nrm, block_ret, block_ext, block_ite, o_assign, o_move, o_pick, pick_t, pick_f, pick_b, pick_bool, o_bin, o_un, u_not, o_conv, o_load, o_store, o_slice, o_nilck, nilck_ptr, nilck_iptr,
 addr_ptr, addr_iptr, o_bi, o_call, call_fn, rtV_some, rtV_ite, out_ret, out_rt, out_ite, eget_hit, eget_miss, v_tmp, v_fn, v_bool, v_int, v_str, v_nilp, v_snil, v_nilm, v_nilf, v_agg,
 b_add, b_sub, b_mul, b_quo, b_rem, b_and, b_or, b_eql, b_neq, b_lss, b_leq, b_gtr, b_geq, b_shl, b_shr, b_seql, b_sneq, b_pnil, b_pnilN, b_nilnil,
 List.getElem?_cons, Nat.reduceLT, Nat.reduceSub, Nat.reduceAdd, Nat.reduceEqDiff, ne_eq, not_false_eq_true, Option.getD_some, Bool.not_true, Bool.not_false, reduceIte, reduceCtorEq, Nat.succ_ne_zero, List.map_cons, List.map_nil, List.nil_append, List.append_nil, List.cons_append, arg_nil, arg_cons, res_v, ra_nil, ra_cons, r_tmp, r_cell, rc_some, rt_one, rt_two, rt_nil, ldH_some, stH_some, tk_f, tk_t, ixS_sl, ixA_int, fdV_agg, lenV_snil, lenV_sl, lenV_ms, bi_max, bi_min, newT_none, growT_buf, get_set, get_lf, V.cells, List.map_nil, Option.map_some, List.length_cons, List.length_nil, newO_get, newO_nx, newO_df, putO_get, putO_nx, putO_df, delO_get, delO_nx, delO_df, alH_none, o_bx, bxV_agg, bxV_int, bxV_sl, bxV_snil, fill_nil, fill_cons, fillK_some, plc_def, aggO_some, arH_some, apM_some, catP_nil, catP_cons, okIdx_nil, okIdx_cons, postC_ite, post_ite, postC_some, post_some, o_extract2, exV_tup, o_mkfn, Option.map_none, Int.reduceEq, Int.reduceNe, Int.reduceLE, Int.reduceLT, Int.reduceToNat, Int.reducePow, Int.reduceNeg, Nat.reduceLeDiff, Nat.reduceMul, Nat.reducePow, true_and, and_true, decide_eq_true_eq, List.all_cons, List.all_nil, V.one, Bool.and_self, Bool.and_true, IntKind.bits, Int.toNat_natCast, Nat.mul_one, Nat.zero_add, V.flat, List.size_toArray, decide_true, decide_false, Bool.false_eq_true, Nat.zero_le, Int.natCast_nonneg, ld2, ldr2, li2, st2, ld4, ldr4, li4, st4, ld5, ldr5, li5, st5, ld22, ldr22, li22, st22, ld53, ldr53, li53, st53, ld60, ldr60, li60, st60, ld98, ldr98, li98, st98, ld107, ldr107, li107, st107, ld154, ldr154, li154, st154, ld179, ldr179, li179, st179, ld277, ldr277, li277, st277, fa98_0, fa98_1, fa98_2, fa98_3, fa98_4, fa109_0, fa156_0, fa156_1, fa281_0, fa281_1, fa281_2, fa284_0, fa284_1, far98_0, far98_1, far98_2, far98_3, far98_4, far109_0, far156_0, far156_1, far281_0, far281_1, far281_2, far284_0, far284_1, ix60, ix63, ix176, ix277, al98, al109, al179, al277, al281, al284, bl98, bl109, bl281, bl284, bs60, bs63, bs107, bs176, slo60, shi60, ahr277, ahi277, app60_60, app107_107, len60, len63, len107, len176, cvr2_178, cv2_178, cvr3_178, cv3_178, cvr5_178, cv5_178, cvr22_178, cv22_178, cvr178_2, cv178_2, cvr178_5, cv178_5, cvr178_22, cv178_22, bpe47, bpn47, bsn60, bnn60, bpe179, bpn179, lenr60, lenr63, lenr107, lenr176, bsm60, bsm63, bsm107, bsm176, ap_nil el5, ap_ex el5, ap_tok el5, ap_ex_ms el5, ap_nil_ms el5, ap_nothing el5, apr_ex_ms el5, apr_nil_ms el5, ap_nil el60, ap_ex el60, ap_tok el60, ap_ex_ms el60, ap_nil_ms el60, ap_nothing el60, apr_ex_ms el60, apr_nil_ms el60, hta, hby, hsm', stl0, s1, s3, not_true_eq_false, not_false_eq_true]
    refine ⟨fun _ => trivial, ?_⟩
    unfold digR; rw [if_pos hk, hk]
  · have hb0 : bytesR [a, b, c, d, e] = .tup [.snil, .int .i64 90] := by unfold bytesR; rw [if_neg (by rw [hk]; decide)]
    rw [hb0] at hby
    simp only [Tryz.f37, aid0_H, aid0_mu, aid0_L, x_seq, x_region, x_reg, x_cond, x_block, x_exit, x_ret, x_skip, s_cons, s_nil, w_none, wO, wO_some, wd_t, wd_f, wd_tup, wd_bt, wd_bf, g_t, g_f, g_fn, g_ite, p_some, p_none, p_ite, reg_none, reg_some, reg_ite, prune_nil, prune_cons,
 then_nrm, then_ext, then_ret, then_ite, cond_t, cond_f, cond_b, block_nrm, block_ret, block_ext, block_ite, o_assign, o_move, o_pick, pick_t, pick_f, pick_b, pick_bool, o_bin, o_un, u_not, o_conv, o_load, o_store, o_slice, o_nilck, nilck_ptr, nilck_iptr,
 addr_ptr, addr_iptr, o_bi, o_call, call_fn, rtV_some, rtV_ite, out_ret, out_rt, out_ite, eget_hit, eget_miss, v_tmp, v_fn, v_bool, v_int, v_str, v_nilp, v_snil, v_nilm, v_nilf, v_agg,
 b_add, b_sub, b_mul, b_quo, b_rem, b_and, b_or, b_eql, b_neq, b_lss, b_leq, b_gtr, b_geq, b_shl, b_shr, b_seql, b_sneq, b_pnil, b_pnilN, b_nilnil,
 List.getElem?_cons, Nat.reduceLT, Nat.reduceSub, Nat.reduceAdd, Nat.reduceEqDiff, ne_eq, not_false_eq_true, Option.getD_some, Bool.not_true, Bool.not_false, reduceIte, reduceCtorEq, Nat.succ_ne_zero, List.map_cons, List.map_nil, List.nil_append, List.append_nil, List.cons_append, arg_nil, arg_cons, res_v, ra_nil, ra_cons, r_tmp, r_cell, rc_some, rt_one, rt_two, rt_nil, ldH_some, stH_some, tk_f, tk_t, ixS_sl, ixA_int, fdV_agg, lenV_snil, lenV_sl, lenV_ms, bi_max, bi_min, newT_none, growT_buf, get_set, get_lf, V.cells, List.map_nil, Option.map_some, List.length_cons, List.length_nil, newO_get, newO_nx, newO_df, putO_get, putO_nx, putO_df, delO_get, delO_nx, delO_df, alH_none, o_bx, bxV_agg, bxV_int, bxV_sl, bxV_snil, fill_nil, fill_cons, fillK_some, plc_def, aggO_some, arH_some, apM_some, catP_nil, catP_cons, okIdx_nil, okIdx_cons, postC_ite, post_ite, postC_some, post_some, o_extract2, exV_tup, o_mkfn, Option.map_none, Int.reduceEq, Int.reduceNe, Int.reduceLE, Int.reduceLT, Int.reduceToNat, Int.reducePow, Int.reduceNeg, Nat.reduceLeDiff, Nat.reduceMul, Nat.reducePow, true_and, and_true, decide_eq_true_eq, List.all_cons, List.all_nil, V.one, Bool.and_self, Bool.and_true, IntKind.bits, Int.toNat_natCast, Nat.mul_one, Nat.zero_add, V.flat, List.size_toArray, decide_true, decide_false, Bool.false_eq_true, Nat.zero_le, Int.natCast_nonneg, ld2, ldr2, li2, st2, ld4, ldr4, li4, st4, ld5, ldr5, li5, st5, ld22, ldr22, li22, st22, ld53, ldr53, li53, st53, ld60, ldr60, li60, st60, ld98, ldr98, li98, st98, ld107, ldr107, li107, st107, ld154, ldr154, li154, st154, ld179, ldr179, li179, st179, ld277, ldr277, li277, st277, fa98_0, fa98_1, fa98_2, fa98_3, fa98_4, fa109_0, fa156_0, fa156_1, fa281_0, fa281_1, fa281_2, fa284_0, fa284_1, far98_0, far98_1, far98_2, far98_3, far98_4, far109_0, far156_0, far156_1, far281_0, far281_1, far281_2, far284_0, far284_1, ix60, ix63, ix176, ix277, al98, al109, al179, al277, al281, al284, bl98, bl109, bl281, bl284, bs60, bs63, bs107, bs176, slo60, shi60, ahr277, ahi277, app60_60, app107_107, len60, len63, len107, len176, cvr2_178, cv2_178, cvr3_178, cv3_178, cvr5_178, cv5_178, cvr22_178, cv22_178, cvr178_2, cv178_2, cvr178_5, cv178_5, cvr178_22, cv178_22, bpe47, bpn47, bsn60, bnn60, bpe179, bpn179, lenr60, lenr63, lenr107, lenr176, bsm60, bsm63, bsm107, bsm176, ap_nil el5, ap_ex el5, ap_tok el5, ap_ex_ms el5, ap_nil_ms el5, ap_nothing el5, apr_ex_ms el5, apr_nil_ms el5, ap_nil el60, ap_ex el60, ap_tok el60, ap_ex_ms el60, ap_nil_ms el60, ap_nothing el60, apr_ex_ms el60, apr_nil_ms el60, hta, hby, hsm', stl0, s1, s3, not_true_eq_false, not_false_eq_true]
    refine ⟨fun _ => trivial, ?_⟩
    unfold digR; rw [if_neg (by rw [hk]; decide), hk]
def rdigO : List V → St → Option (V × St) := fun args st => match args with
  | [.ptr n 0, v] => bif isPl st n then (match un5 v with
    | some l => some (digR l, st.delO n)
    | none => none) else none
  | _ => none
theorem rdigO_inv {args : List V} {st st' : St} {u : V} (h : rdigO args st = some (u, st')) : ∃ n a b c d e, args = [.ptr n 0, .agg [.int .i64 a, .int .i64 b, .int .i64 c, .int .i64 d, .int .i64 e]] ∧ st.h.get n = some (.blk [.snil]) ∧ u = digR [a, b, c, d, e] ∧ st' = st.delO n := by
  unfold rdigO at h
  split at h
  · rename_i n v
    cases hp : isPl st n with
    | false => rw [hp] at h; cases h
    | true =>
      rw [hp] at h
      simp only [cond_true] at h
      split at h
      · rename_i l hl
        cases h
        obtain ⟨a, b, c, d, e, rfl, rfl⟩ := un5_eq hl
        exact ⟨n, a, b, c, d, e, rfl, isPl_eq hp, rfl, rfl⟩
      · cases h
  · cases h
noncomputable def orcrd2 : Nat → Option (List V → St → Option (V × St)) := fun g => bif Nat.beq g 37 then some rdigO else orcrs g
set_option maxRecDepth 100000 in
theorem ok_orcrd2 : OrcOk Tryz.prog orcrd2 := by
  refine orc_add mixed ok_orcrs (fun args st v st' h => ?_)
  obtain ⟨n, a, b, c, d, e, rfl, hg, rfl, rfl⟩ := rdigO_inv h
  have hsm : ∀ s cp, evF Tryz.prog aid0 orcrs 3 (.f 91) [.ptr 0 0, bsl (hdrB [a, b, c, d, e]) cp] s = rsumO [.ptr 0 0, bsl (hdrB [a, b, c, d, e]) cp] s := fun s cp => evF_orc (P := Tryz.prog) (A := aid0) (d := 2) (orc := orcrs) (o := rsumO) en91 rfl
  have hby : ∀ s, evF Tryz.prog aid0 orcrs 3 (.f 33) [.agg [.int .i64 a, .int .i64 b, .int .i64 c, .int .i64 d, .int .i64 e]] s = some (bytesR [a, b, c, d, e], s) := fun s =>
    (evF_orc (P := Tryz.prog) (A := aid0) (d := 2) (orc := orcrs) (o := pureO bytesS) en33 rfl).trans (pureO_some rfl s)
  obtain ⟨u, st', h2, rfl⟩ := post_ex (post_evF (orc := orcrs) (d := 3) en37 rfl (rdigest_body (evF Tryz.prog aid0 orcrs 3) a b c d e (chk_or _) hby hsm))
  exact cell_drop hg h2 (.cons (wk5 a b c d e) .nil) (.cons wk_snil .nil) (wk_tup (.cons (wk_int _ _) (.cons (wk_int _ _) .nil)))
end Go.Proofs.YtiicpeidjhbhiaaGreat.cd
