/-
  The run of the law TopicsNone, whole.
-/
import Derived.Test.YtiicpeidjhbhiaaTnA
namespace Go.Proofs.Ytiicpeidjhbhiaa.topicsNone
open Go Go.Am ty cd
set_option linter.unusedSimpArgs false
theorem head_run (s : List UInt8) (o : Int) (rv : V) : lookC [28, 3] [1, 123] 8 (evC Try.prog (evF Try.prog aid orc7 99) Try.f3.ntmps (aid.mu 3) (aid.H 3) aid.L 3 false (headN 14 body) (argEnv 0 [argR, argP s o rv]) ⟨.lf, 0, [], []⟩) =
    some ([.ms 123 0 3 1 none, .ptr 1 0], 124, [some (.blk [.str s, .int .i64 o, rv]), some (.blk [.int .u8 1, .int .u8 2, .int .u8 3])], [true, true, true, true, true, true, true, true], []) := by kernel_rfl
theorem len_ok : lenOk 14 body = true := by kernel_rfl
set_option maxRecDepth 100000 in
theorem tail_run (call : CallF) (s : List UInt8) (o : Int) (rv : V) (X : List Nat) (env : Env) (st : St) (e28 : eget env 28 = .ms 123 0 3 1 none) (e3 : eget env 3 = .ptr 1 0) (hnx : st.nx = 124)
    (g1 : st.h.get 1 = some (.blk [.str s, .int .i64 o, rv])) (gy : st.h.get 123 = some (.blk [.int .u8 1, .int .u8 2, .int .u8 3])) (f0 : st.h.get 124 = none) (f1 : st.h.get 125 = none) (f2 : st.h.get 126 = none) (f3 : st.h.get 127 = none) (hdf : st.df = [])
    (hE1 : ∀ st' : St, st'.h.get 123 = some (.blk [.int .u8 1, .int .u8 2, .int .u8 3]) → st'.h.get 124 = some (.blk [.int .u8 1, .int .u8 2, .int .u8 3]) → call (.f 18) [.ms 123 0 3 1 none, .ms 124 0 3 1 (some 3)] st' = some (.bool true, ⟨st'.h, st'.nx, st'.lg, st'.df⟩))
    (hP1 : ∀ st' : St, st'.h.get st'.nx = none → call (.f 19) [.agg [.str s, .int .i64 o, rv]] st' = some (bsl X (.tok st'.nx 1), st'.newO .buf))
    (hP2 : ∀ st' : St, st'.h.get st'.nx = none → call (.f 20) [.agg [.str s, .int .i64 o, rv]] st' = some (bsl X (.tok st'.nx 1), st'.newO .buf))
    (hE2 : ∀ (c1 c2 : Cp) (st' : St), call (.f 18) [bsl X c1, bsl X c2] st' = some (.bool true, ⟨st'.h, st'.nx, st'.lg, st'.df⟩)) :
    postC (evC Try.prog call Try.f3.ntmps (aid.mu 3) (aid.H 3) aid.L 3 false (tailN 14 body) env st) (fun e env st1 => (∀ id, e ≠ .ext id) ∧ st1.df = [] ∧ post (rtV (resV Try.prog Try.f3 env st1) st1) (fun v _ => v = .bool true)) := by
  have hp := pl3_28
  simp only [regAt, Try.f3, Option.getD_some, Nat.reduceEqDiff, List.toList_toArray, Option.map_some, Option.some.injEq, cond_true, cond_false, Nat.beq] at hp
  have hta : List.take 3 (List.drop 0 [V.str s, .int .i64 o, rv]) = [V.str s, .int .i64 o, rv] := rfl
  simp only [body, tailN, Try.f3, aid_H, aid_L, aid_me, aid0_H, aid0_mu, aid0_L, x_seq, x_region, x_reg, x_cond, x_block, x_exit, x_ret, x_skip, s_cons, s_nil, w_none, wO, wO_some, wd_t, wd_f, wd_tup, wd_bt, wd_bf, g_t, g_f, g_fn, g_ite, p_some, p_none, p_ite, reg_none, reg_some, reg_ite, prune_nil, prune_cons,
 then_nrm, then_ext, then_ret, then_ite, cond_t, cond_f, cond_b, block_nrm, block_ret, block_ext, block_ite, o_assign, o_move, o_pick, pick_t, pick_f, pick_b, pick_bool, o_bin, o_un, u_not, o_conv, o_load, o_store, o_slice, o_nilck, nilck_ptr, nilck_iptr,
 addr_ptr, addr_iptr, o_bi, o_call, call_fn, rtV_some, rtV_ite, out_ret, out_rt, out_ite, eget_hit, eget_miss, v_tmp, v_fn, v_bool, v_int, v_str, v_nilp, v_snil, v_nilm, v_nilf, v_agg,
 b_add, b_sub, b_mul, b_quo, b_rem, b_and, b_or, b_eql, b_neq, b_lss, b_leq, b_gtr, b_geq, b_shl, b_shr, b_seql, b_sneq, b_pnil, b_pnilN, b_nilnil,
 List.getElem?_cons, Nat.reduceLT, Nat.reduceSub, Nat.reduceAdd, Nat.reduceEqDiff, ne_eq, not_false_eq_true, Option.getD_some, Bool.not_true, Bool.not_false, reduceIte, reduceCtorEq, Nat.succ_ne_zero, List.map_cons, List.map_nil, List.nil_append, List.append_nil, List.cons_append, arg_nil, arg_cons, res_v, ra_nil, ra_cons, r_tmp, r_cell, rc_some, rt_one, rt_two, rt_nil, ldH_some, stH_some, tk_f, tk_t, ixS_sl, ixA_int, fdV_agg, lenV_snil, lenV_sl, lenV_ms, bi_max, bi_min, newT_none, growT_buf, get_set, get_lf, V.cells, List.map_nil, Option.map_some, List.length_cons, List.length_nil, newO_get, newO_nx, newO_df, putO_get, putO_nx, putO_df, delO_get, delO_nx, delO_df, alH_none, o_bx, bxV_agg, bxV_int, bxV_sl, bxV_snil, fill_nil, fill_cons, fillK_some, plc_def, aggO_some, arH_some, apM_some, catP_nil, catP_cons, okIdx_nil, okIdx_cons, postC_ite, post_ite, postC_some, post_some, o_extract2, exV_tup, o_mkfn, Int.reduceEq, Int.reduceNe, Int.reduceLE, Int.reduceLT, Int.reduceToNat, Int.reducePow, Int.reduceNeg, Nat.reduceLeDiff, Nat.reduceMul, Nat.reducePow, true_and, and_true, decide_eq_true_eq, List.all_cons, List.all_nil, V.one, Bool.and_self, Bool.and_true, IntKind.bits, Int.toNat_natCast, Nat.mul_one, Nat.zero_add, V.flat, List.size_toArray, decide_true, decide_false, Bool.false_eq_true, Nat.zero_le, Int.natCast_nonneg, ld2, ldr2, li2, st2, ld5, ldr5, li5, st5, ld9, ldr9, li9, st9, ld26, ldr26, li26, st26, ld28, ldr28, li28, st28, ld30, ldr30, li30, st30, ld32, ldr32, li32, st32, ld34, ldr34, li34, st34, ld36, ldr36, li36, st36, ld107, ldr107, li107, st107, fa30_0, fa30_1, fa30_2, fa36_0, far30_0, far30_1, far30_2, far36_0, ix28, ix42, ix43, ix107, al24, al26, al36, al41, al107, bl24, bl26, bl36, bl41, bs22, bs27, bs28, bs42, slo27, shi27, ahr107, ahi107, app27_27, len27, len28, len42, len43, len54, len57, cvr2_90, cv2_90, cvr3_90, cv3_90, cvr90_5, cv90_5, cv9_27, cvr9_27, lenr27, lenr28, lenr42, lenr43, lenr54, lenr57, bsm22, bsm27, bsm28, bsm42, ap_nil el5, ap_ex el5, ap_tok el5, ap_ex_ms el5, ap_nil_ms el5, ap_nothing el5, apr_ex_ms el5, apr_nil_ms el5, x_draw hp, r_conv, bir_max, nwR_none, drP_none, List.getElem?_cons_zero, r_move, r_assign, r_pick, r_bin, r_un, r_extract, r_load, r_slice, r_bi, r_call, callR_fn, call2_some, dryR_some, dryR_ite, wetR_some, wetR_ite, outR_ret, ldR_some, tkR_some, arR_some, newR_none, apR_some, dr_nil, dr_cons, drO_some, drW_t, drW_f, drW_ite, drP_some, drP_ite, Bool.or_true, Bool.true_or, Bool.or_false, Bool.false_or, List.isEmpty_cons, List.isEmpty_nil, newO_lg, putO_lg, delO_lg, blt_iff, Bool.or_eq_true, Nat.lt_irrefl, or_false, false_or, or_true, true_or, Bool.not_eq_true', e28, e3, hnx, g1, gy, f0, f1, f2, f3, hdf, hE1, hP1, hP2, hE2, hta]
  simp +decide only [if_true]
  first | exact fun _ => trivial | exact ⟨fun _ => trivial, trivial⟩
set_option maxRecDepth 100000 in
theorem run (s : List UInt8) (o : Int) (rv : V) (xs : List Nat) (hrv : bytesV rv = some xs) (hs : s.length ≤ 274877906944) (hx : xs.length ≤ 274877906944) (ho : -9223372036854775808 ≤ o ∧ o < 9223372036854775808) :
    isT (evF Try.prog aid orc7 100 (.f 3) [argR, argP s o rv] ⟨.lf, 0, [], []⟩) = true := by
  have key : post (evF Try.prog aid orc7 (99 + 1) (.f 3) [argR, argP s o rv] ⟨.lf, 0, [], []⟩) (fun v _ => v = .bool true) := by
    refine post_evF en3 rfl (post_body (c := body) Try.func3 rfl (Nat.le_of_ble_eq_true rfl) ?_)
    rw [split_code 14 body _ _ len_ok]
    obtain ⟨env, st, h0, h1, h2, h3, h4, h5⟩ := lookC_inv (head_run s o rv)
    refine post_then ?_
    show postC (evC Try.prog (evF Try.prog aid orc7 99) Try.f3.ntmps (aid.mu 3) (aid.H 3) aid.L 3 false (headN 14 body) (argEnv 0 [argR, argP s o rv]) ⟨.lf, 0, [], []⟩) _
    rw [h0, postC_some]
    simp only [List.map_cons, List.map_nil, List.cons.injEq, and_true] at h1 h3
    have hfr : ∀ i, i < 8 → st.h.get (st.nx + i) = none := fun i hi => by
      have h := congrArg (fun l : List Bool => l[i]?) h4
      simp only [List.getElem?_map, List.getElem?_range hi, Option.map_some] at h
      have : ([true, true, true, true, true, true, true, true] : List Bool)[i]? = some true := by
        match i, hi with
        | 0, _ | 1, _ | 2, _ | 3, _ | 4, _ | 5, _ | 6, _ | 7, _ => rfl
      rw [this] at h
      simpa using h
    rw [h2] at hfr
    refine tail_run _ s o rv (placedB s o xs) env st h1.1 h1.2 h2 h3.1 h3.2 (hfr 0 (by omega)) (hfr 1 (by omega)) (hfr 2 (by omega)) (hfr 3 (by omega)) h5 (fun st' a b => ?_) (fun st' a => ?_) (fun st' a => ?_) (fun c1 c2 st' => ?_)
    · obtain ⟨u, s', e1, rfl, rfl⟩ := post_ex (post_evF (P := Try.prog) (A := aid) (orc := orc7) en18 rfl (eq_mem (evF Try.prog aid orc7 98) 123 124 [1, 2, 3] none (some 3) st' a b))
      exact e1
    · exact (evF_orc (o := freshO 1 placedS) en19 rfl).trans (freshO_some (placedS_eq hrv hs hx ho) st' a)
    · exact (evF_orc (o := freshO 1 placedS) en20 rfl).trans (freshO_some (placedS_eq hrv hs hx ho) st' a)
    · obtain ⟨u, s', e1, rfl, rfl⟩ := post_ex (post_evF (P := Try.prog) (A := aid) (orc := orc7) en18 rfl (eq_body (evF Try.prog aid orc7 98) (placedB s o xs) c1 c2 st'))
      exact e1
  obtain ⟨v, st', h, rfl⟩ := post_ex key
  show isT (evF Try.prog aid orc7 (99 + 1) (.f 3) [argR, argP s o rv] ⟨.lf, 0, [], []⟩) = true
  rw [h]; rfl
end Go.Proofs.Ytiicpeidjhbhiaa.topicsNone
