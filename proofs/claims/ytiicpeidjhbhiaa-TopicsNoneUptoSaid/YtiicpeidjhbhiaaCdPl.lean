/-
  The function topics.PlacedBytes, for records and names up to 2^38 bytes.
-/
import Derived.Test.YtiicpeidjhbhiaaCdRPutB
namespace Go.Proofs.Ytiicpeidjhbhiaa.cd
open Go Go.Am ty
set_option linter.unusedSimpArgs false
theorem en19 : enterOk Try.prog 19 = true := by kernel_rfl
set_option maxRecDepth 100000 in
theorem placed_body (call : CallF) (s : List UInt8) (o : Int) (rv : V) (xs : List Nat) (hrv : bytesV rv = some xs) (hs : s.length ≤ 274877906944) (hx : xs.length ≤ 274877906944) (ho : -9223372036854775808 ≤ o ∧ o < 9223372036854775808)
    (hpb : ∀ v x bs xs st, bytesV v = some bs → bytesV x = some xs → bs.length ≤ 549755813888 → xs.length ≤ 549755813888 → st.h.get st.nx = none → call (.f 31) [v, x] st = some (bsl (bs ++ varB 9 xs.length ++ xs) (.tok st.nx 1), st.newO .buf))
    (hpn : ∀ v bs (n : Nat) st, bytesV v = some bs → bs.length ≤ 1099511627776 → n < 9223372036854775808 → st.h.get st.nx = none → call (.f 30) [v, .int .u64 n] st = some (bsl (bs ++ varB 9 n) (.tok st.nx 1), st.newO .buf)) :
    post (evBody Try.prog aid0 call 19 [.agg [.str s, .int .i64 o, rv]] ⟨.lf, 0, [], []⟩) (fun u st => ∃ t, u = bsl (placedB s o xs) (.tok t 1) ∧ st.h.get t = some .buf ∧ t < st.nx) := by
  refine post_body Try.func19 rfl (Nat.le_of_ble_eq_true rfl) ?_
  have hp := pl19_1
  simp only [regAt, Try.f19, Option.getD_some, Nat.reduceEqDiff, List.toList_toArray, Option.map_some, Option.some.injEq, cond_true, cond_false, Nat.beq] at hp
  have hsb : bytesV (V.sl (s.map fun b => .int .u8 b.toNat) s.length 1 .unk) = some (s.map UInt8.toNat) := by
    have e : V.sl (s.map fun b => .int .u8 b.toNat) s.length 1 .unk = bsl (s.map UInt8.toNat) .unk := by
      simp only [bsl, List.map_map, List.length_map]; rfl
    rw [e]; exact bytesV_bsl _ _
  obtain ⟨a1, a2⟩ := varB_len 9 s.length
  obtain ⟨b1, b2⟩ := varB_len 9 (max o 0).toNat
  have q1 : ∀ st : St, st.h.get st.nx = none → call (.f 31) [.snil, .sl (s.map fun b => .int .u8 b.toNat) s.length 1 .unk] st = some (bsl (varB 9 s.length ++ s.map UInt8.toNat) (.tok st.nx 1), st.newO .buf) := fun st hf => by
    have := hpb .snil _ [] (s.map UInt8.toNat) st rfl hsb (by simp) (by simp; omega) hf
    simpa using this
  have hla : (varB 9 s.length ++ s.map UInt8.toNat).length ≤ 274877906954 := by simp; omega
  have q2 : ∀ (t : Nat) (st : St), st.h.get st.nx = none → call (.f 30) [bsl (varB 9 s.length ++ s.map UInt8.toNat) (.tok t 1), .int .u64 (max o 0).toNat] st = some (bsl (varB 9 s.length ++ s.map UInt8.toNat ++ varB 9 (max o 0).toNat) (.tok st.nx 1), st.newO .buf) := fun t st hf => 
    hpn _ _ _ st (bytesV_bsl _ _) (by omega) (by omega) hf
  have q3 : ∀ (t : Nat) (st : St), st.h.get st.nx = none → call (.f 31) [bsl (varB 9 s.length ++ s.map UInt8.toNat ++ varB 9 (max o 0).toNat) (.tok t 1), rv] st = some (bsl (placedB s o xs) (.tok st.nx 1), st.newO .buf) := fun t st hf => by
    have := hpb _ rv _ xs st (bytesV_bsl (varB 9 s.length ++ s.map UInt8.toNat ++ varB 9 (max o 0).toNat) (.tok t 1)) hrv (by rw [List.length_append]; omega) (by omega) hf
    simpa [placedB, List.append_assoc] using this
  have hmx : (if o > 0 then o else 0 : Int) = ((max o 0).toNat : Int) := by
    split <;> omega
  have hw : IntKind.u64.wrap (((max o 0).toNat : Nat) : Int) = (((max o 0).toNat : Nat) : Int) := wrap_u64 _ (by omega)
  simp only [Try.f19, aid0_H, aid0_mu, aid0_L, x_seq, x_region, x_reg, x_cond, x_block, x_exit, x_ret, x_skip, s_cons, s_nil, w_none, wO, wO_some, wd_t, wd_f, wd_tup, wd_bt, wd_bf, g_t, g_f, g_fn, g_ite, p_some, p_none, p_ite, reg_none, reg_some, reg_ite, prune_nil, prune_cons,
 then_nrm, then_ext, then_ret, then_ite, cond_t, cond_f, cond_b, block_nrm, block_ret, block_ext, block_ite, o_assign, o_move, o_pick, pick_t, pick_f, pick_b, pick_bool, o_bin, o_un, u_not, o_conv, o_load, o_store, o_slice, o_nilck, nilck_ptr, nilck_iptr,
 addr_ptr, addr_iptr, o_bi, o_call, call_fn, rtV_some, rtV_ite, out_ret, out_rt, out_ite, eget_hit, eget_miss, v_tmp, v_fn, v_bool, v_int, v_str, v_nilp, v_snil, v_nilm, v_nilf, v_agg,
 b_add, b_sub, b_mul, b_quo, b_rem, b_and, b_or, b_eql, b_neq, b_lss, b_leq, b_gtr, b_geq, b_shl, b_shr, b_seql, b_sneq, b_pnil, b_pnilN, b_nilnil,
 List.getElem?_cons, Nat.reduceLT, Nat.reduceSub, Nat.reduceAdd, Nat.reduceEqDiff, ne_eq, not_false_eq_true, Option.getD_some, Bool.not_true, Bool.not_false, reduceIte, reduceCtorEq, Nat.succ_ne_zero, List.map_cons, List.map_nil, List.nil_append, List.append_nil, List.cons_append, arg_nil, arg_cons, res_v, ra_nil, ra_cons, r_tmp, r_cell, rc_some, rt_one, rt_two, rt_nil, ldH_some, stH_some, tk_f, tk_t, ixS_sl, ixA_int, fdV_agg, lenV_snil, lenV_sl, lenV_ms, bi_max, bi_min, newT_none, growT_buf, get_set, get_lf, V.cells, List.map_nil, Option.map_some, List.length_cons, List.length_nil, newO_get, newO_nx, newO_df, putO_get, putO_nx, putO_df, delO_get, delO_nx, delO_df, alH_none, o_bx, bxV_agg, bxV_int, bxV_sl, bxV_snil, fill_nil, fill_cons, fillK_some, plc_def, aggO_some, arH_some, apM_some, catP_nil, catP_cons, okIdx_nil, okIdx_cons, postC_ite, post_ite, postC_some, post_some, o_extract2, exV_tup, o_mkfn, Int.reduceEq, Int.reduceNe, Int.reduceLE, Int.reduceLT, Int.reduceToNat, Int.reducePow, Int.reduceNeg, Nat.reduceLeDiff, Nat.reduceMul, Nat.reducePow, true_and, and_true, decide_eq_true_eq, List.all_cons, List.all_nil, V.one, Bool.and_self, Bool.and_true, IntKind.bits, Int.toNat_natCast, Nat.mul_one, Nat.zero_add, V.flat, List.size_toArray, decide_true, decide_false, Bool.false_eq_true, Nat.zero_le, Int.natCast_nonneg, ld2, ldr2, li2, st2, ld5, ldr5, li5, st5, ld9, ldr9, li9, st9, ld26, ldr26, li26, st26, ld28, ldr28, li28, st28, ld30, ldr30, li30, st30, ld32, ldr32, li32, st32, ld34, ldr34, li34, st34, ld36, ldr36, li36, st36, ld107, ldr107, li107, st107, fa30_0, fa30_1, fa30_2, fa36_0, far30_0, far30_1, far30_2, far36_0, ix28, ix42, ix43, ix107, al24, al26, al36, al41, al107, bl24, bl26, bl36, bl41, bs22, bs27, bs28, bs42, slo27, shi27, ahr107, ahi107, app27_27, len27, len28, len42, len43, len54, len57, cvr2_90, cv2_90, cvr3_90, cv3_90, cvr90_5, cv90_5, cv9_27, cvr9_27, lenr27, lenr28, lenr42, lenr43, lenr54, lenr57, bsm22, bsm27, bsm28, bsm42, ap_nil el5, ap_ex el5, ap_tok el5, ap_ex_ms el5, ap_nil_ms el5, ap_nothing el5, apr_ex_ms el5, apr_nil_ms el5, x_draw hp, r_conv, bir_max, nwR_none, drP_none, List.getElem?_cons_zero, r_move, r_assign, r_pick, r_bin, r_un, r_extract, r_load, r_slice, r_bi, r_call, callR_fn, call2_some, dryR_some, dryR_ite, wetR_some, wetR_ite, outR_ret, ldR_some, tkR_some, arR_some, newR_none, apR_some, dr_nil, dr_cons, drO_some, drW_t, drW_f, drW_ite, drP_some, drP_ite, Bool.or_true, Bool.true_or, Bool.or_false, Bool.false_or, List.isEmpty_cons, List.isEmpty_nil, newO_lg, putO_lg, delO_lg, blt_iff, Bool.or_eq_true, Nat.lt_irrefl, or_false, false_or, or_true, true_or, Bool.not_eq_true', q1, q2, q3, hmx, hw]
  first
  | exact ⟨fun _ => trivial, _, rfl, rfl, by simp only [newO_nx]; omega⟩
  | (simp +decide only [if_true]
     exact ⟨fun _ => trivial, 3, rfl, rfl, by omega⟩)
def orc6 : Nat → Option (List V → St → Option (V × St)) := fun g => bif Nat.beq g 19 then some (freshO 1 placedS) else orc5 g
set_option maxRecDepth 100000 in
theorem ok_orc6 : OrcOk Try.prog orc6 := by
  refine orc_add mixed ok_orc5 (fresh_small fun args cs len h => ?_)
  obtain ⟨s, o, rv, xs, rfl, hrv, hs, hx, ho, rfl, rfl⟩ := placedS_inv h
  have h1 := placed_body (evF Try.prog aid0 orc5 2) s o (wkB rv) xs (bytesV_wk hrv) hs hx ho
    (fun v x bs xs st hv hx hl hk hf => (evF_orc (o := freshO 1 putBS) en31 rfl).trans (freshO_some (putBS_eq hv hx hl hk) st hf))
    (fun v bs n st hv hl hn hf => (evF_orc (o := freshO 1 putS) en30 rfl).trans (freshO_some (putS_eq hv hl (by omega)) st hf))
  obtain ⟨u, st', h2, t, rfl, h3, h4⟩ := post_ex (post_evF (orc := orc5) en19 rfl h1)
  exact ⟨aid0, 3, st', _, t, h2, h3, h4, .cons (wk_agg (.cons (wk_str _) (.cons (wk_int _ _) (.cons (wk_bytes hrv) .nil)))) .nil, fun c hc => by
    obtain ⟨m, _, rfl⟩ := List.mem_map.1 hc; exact wk_u8 m⟩
theorem call_placed (A : Aid) (d : Nat) (s : List UInt8) (o : Int) (rv : V) (xs : List Nat) (hrv : bytesV rv = some xs) (hs : s.length ≤ 274877906944) (hx : xs.length ≤ 274877906944) (ho : -9223372036854775808 ≤ o ∧ o < 9223372036854775808) (st : St) (hf : st.h.get st.nx = none) :
    evF Try.prog A orc6 (d + 1) (.f 19) [.agg [.str s, .int .i64 o, rv]] st = some (bsl (placedB s o xs) (.tok st.nx 1), st.newO .buf) :=
  (evF_orc (o := freshO 1 placedS) en19 rfl).trans (freshO_some (placedS_eq hrv hs hx ho) st hf)
end Go.Proofs.Ytiicpeidjhbhiaa.cd
