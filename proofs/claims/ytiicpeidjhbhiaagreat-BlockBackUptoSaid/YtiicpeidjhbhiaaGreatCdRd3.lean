/-
  The codec's reader and bytes.Equal, as answers.
-/
import Derived.Test.YtiicpeidjhbhiaaGreatCdRd2
import Derived.Test.YtiicpeidjhbhiaaGreatAm34
namespace Go.Proofs.YtiicpeidjhbhiaaGreat.cd
open Go Go.Am ty
set_option linter.unusedSimpArgs false
set_option maxRecDepth 100000 in
theorem ok_orct : OrcOk Tryz.prog orct := by
  refine orc_add mixed ok_orcn (fun args s v s' h => ?_)
  unfold takeO at h
  split at h
  · rename_i n
    obtain ⟨R, hg, hk, rfl, rfl⟩ := cellH_inv h
    obtain ⟨bv, e⟩ := R
    simp only at hk
    have cs : ∀ (d k : Nat) (bv : V) (e : Int) (s : St), s.h.get k = some (rdO bv e) → evF Tryz.prog aid0 orcn (d + 1) (.f 160) [.ptr k 0] s = some (.bool (decide (e ≠ 0)), s) := fun d k bv e s h => by
      obtain ⟨u, s', e1, rfl, rfl⟩ := post_ex (post_evF (P := Tryz.prog) (A := aid0) (orc := orcn) (d := d) en160 rfl (stuck_body _ k bv e s h))
      exact e1
    have cf : ∀ (d k : Nat) (bv : V) (x : Int) (s : St), s.h.get k = some (rdO bv 0) → evF Tryz.prog aid0 orcn (d + 2) (.f 159) [.ptr k 0, .int .i64 x] s = some (.tup [], s.putO k (rdO bv x)) := fun d k bv x s h => by
      obtain ⟨u, s', e1, rfl, rfl⟩ := post_ex (post_evF (P := Tryz.prog) (A := aid0) (orc := orcn) (d := d + 1) en159 rfl (fail_body _ k bv x s h (cs d k bv 0 ⟨s.h, s.nx, s.lg, []⟩ h)))
      exact e1
    have fin : ∀ (u : V) (t : St) (R' : V × Int), okR R'.1 → evF Tryz.prog aid0 orcn 4 (.f 80) [.ptr 0 0, .int .i64 1] (st1 (bv, e)) = some (u, t) → t.h.get 0 = some (rdP R') → u = (takeP (bv, e)).1 → R' = (takeP (bv, e)).2 → Small Tryz.prog orcn 80 [.ptr n 0, .int .i64 1] s (takeP (bv, e)).1 (s.putO n (rdP (takeP (bv, e)).2)) := by
      intro u t R' hR he hgt hu hR'
      have hk' : okR (takeP (bv, e)).1 := okR.took (R := (bv, e)) hk
      subst hu; subst hR'
      exact cell_small hg he hgt (.cons (wk_int _ _) .nil) (hk.cells e) hk'.wk (hR.cells _)
    by_cases he : e = 0
    · subst he
      have hst := cs 2 0 bv 0 (st1 (bv, 0)) (st1_get _)
      cases hb : bytesD bv with
      | nil =>
        have hb' : bv = .snil ∨ bv = bsl [] .unk := by
          rcases okR_un bv hk with h | h
          · exact .inl h.1
          · right; rw [hb] at h; exact h
        have h1 := take_cut (evF Tryz.prog aid0 orcn 3) 0 bv hb' (st1 (bv, 0)) (st1_get _) hst (cf 1 0 bv 10 (st1 (bv, 0)) (st1_get _)) (cs 2 0 bv 10 ((st1 (bv, 0)).putO 0 (rdO bv 10)) (by rw [putO_get, if_pos rfl]))
        obtain ⟨u, t, h2, h3, h4⟩ := post_ex (post_evF (orc := orcn) en80 rfl h1)
        exact fin u t (bv, 10) hk h2 (by rw [h4, putO_get, if_pos rfl]; rfl) (by rw [h3]; simp [takeP, hb]) (by simp [takeP, hb])
      | cons b r =>
        have hb' : bv = bsl (b :: r) .unk := by
          rcases okR_un bv hk with h | h
          · rw [h.2] at hb; cases hb
          · rw [hb] at h; exact h
        subst hb'
        have h1 := take_one (evF Tryz.prog aid0 orcn 3) 0 b r (st1 (bsl (b :: r) .unk, 0)) (st1_get _) hst ((evF_orc (P := Tryz.prog) (A := aid0) (d := 2) (orc := orcn) (o := pureO cloneS) en158 rfl).trans (pureO_some (cloneS_eq (bytesV_bsl [b] .unk) (by simp)) _))
        obtain ⟨u, t, h2, h3, h4⟩ := post_ex (post_evF (orc := orcn) en80 rfl h1)
        have hR : okR (bsl r .unk) := by
          have := okR.take (R := (bsl (b :: r) .unk, 0)) hk
          simpa [takeP, bytesD_bsl] using this
        exact fin u t (bsl r .unk, 0) hR h2 (by rw [h4, putO_get, if_pos rfl]; rfl) (by rw [h3]; simp [takeP, bytesD_bsl]) (by simp [takeP, bytesD_bsl])
    · have hst := cs 2 0 bv e (st1 (bv, e)) (st1_get _)
      have hd : decide (e ≠ 0) = true := by simp [he]
      rw [hd] at hst
      have h1 := take_stuck (evF Tryz.prog aid0 orcn 3) 0 (st1 (bv, e)) hst
      obtain ⟨u, t, h2, h3, h4⟩ := post_ex (post_evF (orc := orcn) en80 rfl h1)
      exact fin u t (bv, e) hk h2 (by rw [h4]; rfl) (by rw [h3]; simp [takeP, he]) (by simp [takeP, he])
  · cases h
noncomputable def orcd : Nat → Option (List V → St → Option (V × St)) := fun g => bif Nat.beq g 83 then some doneO else orct g
set_option maxRecDepth 100000 in
theorem ok_orcd : OrcOk Tryz.prog orcd := by
  refine orc_add mixed ok_orct (fun args s v s' h => ?_)
  unfold doneO at h
  split at h
  · rename_i n
    obtain ⟨R, hg, hk, rfl, rfl⟩ := cellH_inv h
    obtain ⟨bv, e⟩ := R
    simp only at hk
    have ce : evF Tryz.prog aid0 orct 1 (.f 161) [.ptr 0 0] (st1 (bv, e)) = some (.int .i64 e, st1 (bv, e)) := by
      obtain ⟨u, s', e1, rfl, rfl⟩ := post_ex (post_evF (P := Tryz.prog) (A := aid0) (orc := orct) (d := 0) en161 rfl (err_body _ 0 bv e (st1 (bv, e)) (st1_get _)))
      exact e1
    have hb : bytesV bv = some (bytesD bv) := by
      rcases okR_un bv hk with h | h
      · rw [h.1]; rfl
      · rw [h, bytesD_bsl]; exact bytesV_bsl _ _
    have h1 := done_body (evF Tryz.prog aid0 orct 1) 0 bv (bytesD bv) hb e (st1 (bv, e)) (st1_get _) ce
    obtain ⟨u, t, h2, h3, h4⟩ := post_ex (post_evF (orc := orct) en83 rfl h1)
    have hu : u = (doneV (bv, e)).1 := by rw [h3]; rfl
    subst hu
    exact cell_small hg h2 (by rw [h4]; exact st1_get _) .nil (hk.cells e) (wk_int _ _) (hk.cells _)
  · cases h
noncomputable def orcrd : Nat → Option (List V → St → Option (V × St)) := fun g => bif Nat.beq g 79 then some readO else orcd g
set_option maxRecDepth 100000 in
theorem ok_orcrd : OrcOk Tryz.prog orcrd := by
  refine orc_add mixed ok_orcd (fun args s v s' h => ?_)
  unfold readO at h
  split at h
  · rename_i w
    split at h
    · rename_i hc
      cases h
      obtain ⟨hk, hb, hf⟩ := hc
      obtain ⟨bs, hb⟩ := Option.isSome_iff_exists.1 hb
      have hl : bs.length ≤ 1099511627776 := by
        have := (okR_len _ hk).1
        have e : bytesD (wkB w) = bs := by simp [bytesD, bytesV_wk hb]
        rw [e] at this; exact this
      have h1 := read_body (evF Tryz.prog aid0 orcd 1) (wkB w) bs (bytesV_wk hb) ⟨.lf, 0, [], []⟩ ((evF_orc (P := Tryz.prog) (A := aid0) (d := 0) (orc := orcd) (o := pureO cloneS) en158 rfl).trans (pureO_some (cloneS_eq (bytesV_wk hb) hl) _)) rfl
      obtain ⟨u, t, h2, rfl, h4⟩ := post_ex (post_evF (orc := orcd) en79 rfl h1)
      rw [wkB_wkB] at h4
      exact new_small hf h2 (by rw [h4, newO_get, if_pos rfl]; rfl) (by rw [h4]; exact Nat.lt_succ_self 0) (.cons (wk_bytes hb) .nil) (hk.cells 0)
    · cases h
  · cases h
theorem cvs {st : St} (bs : List Nat) (len : Nat) (cp : Cp) : out1 (convA Tryz.prog 60 9 (.sl (bs.map u8V) len 1 cp)) st = some (.str (bs.map UInt8.ofNat), st) := cv_bs Tryz.underlying60 Tryz.underlying9 Tryz.underlying5 bs len cp
theorem cvn {st : St} : out1 (convA Tryz.prog 60 9 .snil) st = some (.str [], st) := cv_nil Tryz.underlying60 Tryz.underlying9 Tryz.underlying5
theorem en38 : enterOk Tryz.prog 38 = true := by kernel_rfl
set_option maxRecDepth 100000 in
theorem equal_body (call : CallF) (a b : V) (xs ys : List Nat) (ha : bytesV a = some xs) (hb : bytesV b = some ys) (st : St) : post (evBody Tryz.prog aid0 call 38 [a, b] st) (fun u s => u = .bool (decide (xs.map UInt8.ofNat = ys.map UInt8.ofNat)) ∧ s = ⟨st.h, st.nx, st.lg, st.df⟩) := by
  refine post_body Tryz.func38 rfl (Nat.le_of_ble_eq_true rfl) ?_
  rcases bytesV_eq ha with ⟨rfl, rfl⟩ | ⟨cp, rfl⟩
  · rcases bytesV_eq hb with ⟨rfl, rfl⟩ | ⟨cp2, rfl⟩
    · simp only [Tryz.f38, bsl, aid0_H, aid0_mu, aid0_L, x_seq, x_region, x_reg, x_cond, x_block, x_exit, x_ret, x_skip, s_cons, s_nil, w_none, wO, wO_some, wd_t, wd_f, wd_tup, wd_bt, wd_bf, g_t, g_f, g_fn, g_ite, p_some, p_none, p_ite, reg_none, reg_some, reg_ite, prune_nil, prune_cons,
 then_nrm, then_ext, then_ret, then_ite, cond_t, cond_f, cond_b, block_nrm, block_ret, block_ext, block_ite, o_assign, o_move, o_pick, pick_t, pick_f, pick_b, pick_bool, o_bin, o_un, u_not, o_conv, o_load, o_store, o_slice, o_nilck, nilck_ptr, nilck_iptr,
 addr_ptr, addr_iptr, o_bi, o_call, call_fn, rtV_some, rtV_ite, out_ret, out_rt, out_ite, eget_hit, eget_miss, v_tmp, v_fn, v_bool, v_int, v_str, v_nilp, v_snil, v_nilm, v_nilf, v_agg,
 b_add, b_sub, b_mul, b_quo, b_rem, b_and, b_or, b_eql, b_neq, b_lss, b_leq, b_gtr, b_geq, b_shl, b_shr, b_seql, b_sneq, b_pnil, b_pnilN, b_nilnil,
 List.getElem?_cons, Nat.reduceLT, Nat.reduceSub, Nat.reduceAdd, Nat.reduceEqDiff, ne_eq, not_false_eq_true, Option.getD_some, Bool.not_true, Bool.not_false, reduceIte, reduceCtorEq, Nat.succ_ne_zero, List.map_cons, List.map_nil, List.nil_append, List.append_nil, List.cons_append, arg_nil, arg_cons, res_v, ra_nil, ra_cons, r_tmp, r_cell, rc_some, rt_one, rt_two, rt_nil, ldH_some, stH_some, tk_f, tk_t, ixS_sl, ixA_int, fdV_agg, lenV_snil, lenV_sl, lenV_ms, bi_max, bi_min, newT_none, growT_buf, get_set, get_lf, V.cells, List.map_nil, Option.map_some, List.length_cons, List.length_nil, newO_get, newO_nx, newO_df, putO_get, putO_nx, putO_df, delO_get, delO_nx, delO_df, alH_none, o_bx, bxV_agg, bxV_int, bxV_sl, bxV_snil, fill_nil, fill_cons, fillK_some, plc_def, aggO_some, arH_some, apM_some, catP_nil, catP_cons, okIdx_nil, okIdx_cons, postC_ite, post_ite, postC_some, post_some, o_extract2, exV_tup, o_mkfn, Option.map_none, Int.reduceEq, Int.reduceNe, Int.reduceLE, Int.reduceLT, Int.reduceToNat, Int.reducePow, Int.reduceNeg, Nat.reduceLeDiff, Nat.reduceMul, Nat.reducePow, true_and, and_true, decide_eq_true_eq, List.all_cons, List.all_nil, V.one, Bool.and_self, Bool.and_true, IntKind.bits, Int.toNat_natCast, Nat.mul_one, Nat.zero_add, V.flat, List.size_toArray, decide_true, decide_false, Bool.false_eq_true, Nat.zero_le, Int.natCast_nonneg, ld2, ldr2, li2, st2, ld4, ldr4, li4, st4, ld5, ldr5, li5, st5, ld22, ldr22, li22, st22, ld53, ldr53, li53, st53, ld60, ldr60, li60, st60, ld98, ldr98, li98, st98, ld107, ldr107, li107, st107, ld154, ldr154, li154, st154, ld179, ldr179, li179, st179, ld277, ldr277, li277, st277, fa98_0, fa98_1, fa98_2, fa98_3, fa98_4, fa109_0, fa156_0, fa156_1, fa281_0, fa281_1, fa281_2, fa284_0, fa284_1, far98_0, far98_1, far98_2, far98_3, far98_4, far109_0, far156_0, far156_1, far281_0, far281_1, far281_2, far284_0, far284_1, ix60, ix63, ix176, ix277, al98, al109, al179, al277, al281, al284, bl98, bl109, bl281, bl284, bs60, bs63, bs107, bs176, slo60, shi60, ahr277, ahi277, app60_60, app107_107, len60, len63, len107, len176, cvr2_178, cv2_178, cvr3_178, cv3_178, cvr5_178, cv5_178, cvr22_178, cv22_178, cvr178_2, cv178_2, cvr178_5, cv178_5, cvr178_22, cv178_22, bpe47, bpn47, bsn60, bnn60, bpe179, bpn179, lenr60, lenr63, lenr107, lenr176, bsm60, bsm63, bsm107, bsm176, ap_nil el5, ap_ex el5, ap_tok el5, ap_ex_ms el5, ap_nil_ms el5, ap_nothing el5, apr_ex_ms el5, apr_nil_ms el5, ap_nil el60, ap_ex el60, ap_tok el60, ap_ex_ms el60, ap_nil_ms el60, ap_nothing el60, apr_ex_ms el60, apr_nil_ms el60, cvs, cvn]
      simp
    · simp only [Tryz.f38, bsl, aid0_H, aid0_mu, aid0_L, x_seq, x_region, x_reg, x_cond, x_block, x_exit, x_ret, x_skip, s_cons, s_nil, w_none, wO, wO_some, wd_t, wd_f, wd_tup, wd_bt, wd_bf, g_t, g_f, g_fn, g_ite, p_some, p_none, p_ite, reg_none, reg_some, reg_ite, prune_nil, prune_cons,
 then_nrm, then_ext, then_ret, then_ite, cond_t, cond_f, cond_b, block_nrm, block_ret, block_ext, block_ite, o_assign, o_move, o_pick, pick_t, pick_f, pick_b, pick_bool, o_bin, o_un, u_not, o_conv, o_load, o_store, o_slice, o_nilck, nilck_ptr, nilck_iptr,
 addr_ptr, addr_iptr, o_bi, o_call, call_fn, rtV_some, rtV_ite, out_ret, out_rt, out_ite, eget_hit, eget_miss, v_tmp, v_fn, v_bool, v_int, v_str, v_nilp, v_snil, v_nilm, v_nilf, v_agg,
 b_add, b_sub, b_mul, b_quo, b_rem, b_and, b_or, b_eql, b_neq, b_lss, b_leq, b_gtr, b_geq, b_shl, b_shr, b_seql, b_sneq, b_pnil, b_pnilN, b_nilnil,
 List.getElem?_cons, Nat.reduceLT, Nat.reduceSub, Nat.reduceAdd, Nat.reduceEqDiff, ne_eq, not_false_eq_true, Option.getD_some, Bool.not_true, Bool.not_false, reduceIte, reduceCtorEq, Nat.succ_ne_zero, List.map_cons, List.map_nil, List.nil_append, List.append_nil, List.cons_append, arg_nil, arg_cons, res_v, ra_nil, ra_cons, r_tmp, r_cell, rc_some, rt_one, rt_two, rt_nil, ldH_some, stH_some, tk_f, tk_t, ixS_sl, ixA_int, fdV_agg, lenV_snil, lenV_sl, lenV_ms, bi_max, bi_min, newT_none, growT_buf, get_set, get_lf, V.cells, List.map_nil, Option.map_some, List.length_cons, List.length_nil, newO_get, newO_nx, newO_df, putO_get, putO_nx, putO_df, delO_get, delO_nx, delO_df, alH_none, o_bx, bxV_agg, bxV_int, bxV_sl, bxV_snil, fill_nil, fill_cons, fillK_some, plc_def, aggO_some, arH_some, apM_some, catP_nil, catP_cons, okIdx_nil, okIdx_cons, postC_ite, post_ite, postC_some, post_some, o_extract2, exV_tup, o_mkfn, Option.map_none, Int.reduceEq, Int.reduceNe, Int.reduceLE, Int.reduceLT, Int.reduceToNat, Int.reducePow, Int.reduceNeg, Nat.reduceLeDiff, Nat.reduceMul, Nat.reducePow, true_and, and_true, decide_eq_true_eq, List.all_cons, List.all_nil, V.one, Bool.and_self, Bool.and_true, IntKind.bits, Int.toNat_natCast, Nat.mul_one, Nat.zero_add, V.flat, List.size_toArray, decide_true, decide_false, Bool.false_eq_true, Nat.zero_le, Int.natCast_nonneg, ld2, ldr2, li2, st2, ld4, ldr4, li4, st4, ld5, ldr5, li5, st5, ld22, ldr22, li22, st22, ld53, ldr53, li53, st53, ld60, ldr60, li60, st60, ld98, ldr98, li98, st98, ld107, ldr107, li107, st107, ld154, ldr154, li154, st154, ld179, ldr179, li179, st179, ld277, ldr277, li277, st277, fa98_0, fa98_1, fa98_2, fa98_3, fa98_4, fa109_0, fa156_0, fa156_1, fa281_0, fa281_1, fa281_2, fa284_0, fa284_1, far98_0, far98_1, far98_2, far98_3, far98_4, far109_0, far156_0, far156_1, far281_0, far281_1, far281_2, far284_0, far284_1, ix60, ix63, ix176, ix277, al98, al109, al179, al277, al281, al284, bl98, bl109, bl281, bl284, bs60, bs63, bs107, bs176, slo60, shi60, ahr277, ahi277, app60_60, app107_107, len60, len63, len107, len176, cvr2_178, cv2_178, cvr3_178, cv3_178, cvr5_178, cv5_178, cvr22_178, cv22_178, cvr178_2, cv178_2, cvr178_5, cv178_5, cvr178_22, cv178_22, bpe47, bpn47, bsn60, bnn60, bpe179, bpn179, lenr60, lenr63, lenr107, lenr176, bsm60, bsm63, bsm107, bsm176, ap_nil el5, ap_ex el5, ap_tok el5, ap_ex_ms el5, ap_nil_ms el5, ap_nothing el5, apr_ex_ms el5, apr_nil_ms el5, ap_nil el60, ap_ex el60, ap_tok el60, ap_ex_ms el60, ap_nil_ms el60, ap_nothing el60, apr_ex_ms el60, apr_nil_ms el60, cvs, cvn]
      simp
  · rcases bytesV_eq hb with ⟨rfl, rfl⟩ | ⟨cp2, rfl⟩
    · simp only [Tryz.f38, bsl, aid0_H, aid0_mu, aid0_L, x_seq, x_region, x_reg, x_cond, x_block, x_exit, x_ret, x_skip, s_cons, s_nil, w_none, wO, wO_some, wd_t, wd_f, wd_tup, wd_bt, wd_bf, g_t, g_f, g_fn, g_ite, p_some, p_none, p_ite, reg_none, reg_some, reg_ite, prune_nil, prune_cons,
 then_nrm, then_ext, then_ret, then_ite, cond_t, cond_f, cond_b, block_nrm, block_ret, block_ext, block_ite, o_assign, o_move, o_pick, pick_t, pick_f, pick_b, pick_bool, o_bin, o_un, u_not, o_conv, o_load, o_store, o_slice, o_nilck, nilck_ptr, nilck_iptr,
 addr_ptr, addr_iptr, o_bi, o_call, call_fn, rtV_some, rtV_ite, out_ret, out_rt, out_ite, eget_hit, eget_miss, v_tmp, v_fn, v_bool, v_int, v_str, v_nilp, v_snil, v_nilm, v_nilf, v_agg,
 b_add, b_sub, b_mul, b_quo, b_rem, b_and, b_or, b_eql, b_neq, b_lss, b_leq, b_gtr, b_geq, b_shl, b_shr, b_seql, b_sneq, b_pnil, b_pnilN, b_nilnil,
 List.getElem?_cons, Nat.reduceLT, Nat.reduceSub, Nat.reduceAdd, Nat.reduceEqDiff, ne_eq, not_false_eq_true, Option.getD_some, Bool.not_true, Bool.not_false, reduceIte, reduceCtorEq, Nat.succ_ne_zero, List.map_cons, List.map_nil, List.nil_append, List.append_nil, List.cons_append, arg_nil, arg_cons, res_v, ra_nil, ra_cons, r_tmp, r_cell, rc_some, rt_one, rt_two, rt_nil, ldH_some, stH_some, tk_f, tk_t, ixS_sl, ixA_int, fdV_agg, lenV_snil, lenV_sl, lenV_ms, bi_max, bi_min, newT_none, growT_buf, get_set, get_lf, V.cells, List.map_nil, Option.map_some, List.length_cons, List.length_nil, newO_get, newO_nx, newO_df, putO_get, putO_nx, putO_df, delO_get, delO_nx, delO_df, alH_none, o_bx, bxV_agg, bxV_int, bxV_sl, bxV_snil, fill_nil, fill_cons, fillK_some, plc_def, aggO_some, arH_some, apM_some, catP_nil, catP_cons, okIdx_nil, okIdx_cons, postC_ite, post_ite, postC_some, post_some, o_extract2, exV_tup, o_mkfn, Option.map_none, Int.reduceEq, Int.reduceNe, Int.reduceLE, Int.reduceLT, Int.reduceToNat, Int.reducePow, Int.reduceNeg, Nat.reduceLeDiff, Nat.reduceMul, Nat.reducePow, true_and, and_true, decide_eq_true_eq, List.all_cons, List.all_nil, V.one, Bool.and_self, Bool.and_true, IntKind.bits, Int.toNat_natCast, Nat.mul_one, Nat.zero_add, V.flat, List.size_toArray, decide_true, decide_false, Bool.false_eq_true, Nat.zero_le, Int.natCast_nonneg, ld2, ldr2, li2, st2, ld4, ldr4, li4, st4, ld5, ldr5, li5, st5, ld22, ldr22, li22, st22, ld53, ldr53, li53, st53, ld60, ldr60, li60, st60, ld98, ldr98, li98, st98, ld107, ldr107, li107, st107, ld154, ldr154, li154, st154, ld179, ldr179, li179, st179, ld277, ldr277, li277, st277, fa98_0, fa98_1, fa98_2, fa98_3, fa98_4, fa109_0, fa156_0, fa156_1, fa281_0, fa281_1, fa281_2, fa284_0, fa284_1, far98_0, far98_1, far98_2, far98_3, far98_4, far109_0, far156_0, far156_1, far281_0, far281_1, far281_2, far284_0, far284_1, ix60, ix63, ix176, ix277, al98, al109, al179, al277, al281, al284, bl98, bl109, bl281, bl284, bs60, bs63, bs107, bs176, slo60, shi60, ahr277, ahi277, app60_60, app107_107, len60, len63, len107, len176, cvr2_178, cv2_178, cvr3_178, cv3_178, cvr5_178, cv5_178, cvr22_178, cv22_178, cvr178_2, cv178_2, cvr178_5, cv178_5, cvr178_22, cv178_22, bpe47, bpn47, bsn60, bnn60, bpe179, bpn179, lenr60, lenr63, lenr107, lenr176, bsm60, bsm63, bsm107, bsm176, ap_nil el5, ap_ex el5, ap_tok el5, ap_ex_ms el5, ap_nil_ms el5, ap_nothing el5, apr_ex_ms el5, apr_nil_ms el5, ap_nil el60, ap_ex el60, ap_tok el60, ap_ex_ms el60, ap_nil_ms el60, ap_nothing el60, apr_ex_ms el60, apr_nil_ms el60, cvs, cvn]
      simp
    · simp only [Tryz.f38, bsl, aid0_H, aid0_mu, aid0_L, x_seq, x_region, x_reg, x_cond, x_block, x_exit, x_ret, x_skip, s_cons, s_nil, w_none, wO, wO_some, wd_t, wd_f, wd_tup, wd_bt, wd_bf, g_t, g_f, g_fn, g_ite, p_some, p_none, p_ite, reg_none, reg_some, reg_ite, prune_nil, prune_cons,
 then_nrm, then_ext, then_ret, then_ite, cond_t, cond_f, cond_b, block_nrm, block_ret, block_ext, block_ite, o_assign, o_move, o_pick, pick_t, pick_f, pick_b, pick_bool, o_bin, o_un, u_not, o_conv, o_load, o_store, o_slice, o_nilck, nilck_ptr, nilck_iptr,
 addr_ptr, addr_iptr, o_bi, o_call, call_fn, rtV_some, rtV_ite, out_ret, out_rt, out_ite, eget_hit, eget_miss, v_tmp, v_fn, v_bool, v_int, v_str, v_nilp, v_snil, v_nilm, v_nilf, v_agg,
 b_add, b_sub, b_mul, b_quo, b_rem, b_and, b_or, b_eql, b_neq, b_lss, b_leq, b_gtr, b_geq, b_shl, b_shr, b_seql, b_sneq, b_pnil, b_pnilN, b_nilnil,
 List.getElem?_cons, Nat.reduceLT, Nat.reduceSub, Nat.reduceAdd, Nat.reduceEqDiff, ne_eq, not_false_eq_true, Option.getD_some, Bool.not_true, Bool.not_false, reduceIte, reduceCtorEq, Nat.succ_ne_zero, List.map_cons, List.map_nil, List.nil_append, List.append_nil, List.cons_append, arg_nil, arg_cons, res_v, ra_nil, ra_cons, r_tmp, r_cell, rc_some, rt_one, rt_two, rt_nil, ldH_some, stH_some, tk_f, tk_t, ixS_sl, ixA_int, fdV_agg, lenV_snil, lenV_sl, lenV_ms, bi_max, bi_min, newT_none, growT_buf, get_set, get_lf, V.cells, List.map_nil, Option.map_some, List.length_cons, List.length_nil, newO_get, newO_nx, newO_df, putO_get, putO_nx, putO_df, delO_get, delO_nx, delO_df, alH_none, o_bx, bxV_agg, bxV_int, bxV_sl, bxV_snil, fill_nil, fill_cons, fillK_some, plc_def, aggO_some, arH_some, apM_some, catP_nil, catP_cons, okIdx_nil, okIdx_cons, postC_ite, post_ite, postC_some, post_some, o_extract2, exV_tup, o_mkfn, Option.map_none, Int.reduceEq, Int.reduceNe, Int.reduceLE, Int.reduceLT, Int.reduceToNat, Int.reducePow, Int.reduceNeg, Nat.reduceLeDiff, Nat.reduceMul, Nat.reducePow, true_and, and_true, decide_eq_true_eq, List.all_cons, List.all_nil, V.one, Bool.and_self, Bool.and_true, IntKind.bits, Int.toNat_natCast, Nat.mul_one, Nat.zero_add, V.flat, List.size_toArray, decide_true, decide_false, Bool.false_eq_true, Nat.zero_le, Int.natCast_nonneg, ld2, ldr2, li2, st2, ld4, ldr4, li4, st4, ld5, ldr5, li5, st5, ld22, ldr22, li22, st22, ld53, ldr53, li53, st53, ld60, ldr60, li60, st60, ld98, ldr98, li98, st98, ld107, ldr107, li107, st107, ld154, ldr154, li154, st154, ld179, ldr179, li179, st179, ld277, ldr277, li277, st277, fa98_0, fa98_1, fa98_2, fa98_3, fa98_4, fa109_0, fa156_0, fa156_1, fa281_0, fa281_1, fa281_2, fa284_0, fa284_1, far98_0, far98_1, far98_2, far98_3, far98_4, far109_0, far156_0, far156_1, far281_0, far281_1, far281_2, far284_0, far284_1, ix60, ix63, ix176, ix277, al98, al109, al179, al277, al281, al284, bl98, bl109, bl281, bl284, bs60, bs63, bs107, bs176, slo60, shi60, ahr277, ahi277, app60_60, app107_107, len60, len63, len107, len176, cvr2_178, cv2_178, cvr3_178, cv3_178, cvr5_178, cv5_178, cvr22_178, cv22_178, cvr178_2, cv178_2, cvr178_5, cv178_5, cvr178_22, cv178_22, bpe47, bpn47, bsn60, bnn60, bpe179, bpn179, lenr60, lenr63, lenr107, lenr176, bsm60, bsm63, bsm107, bsm176, ap_nil el5, ap_ex el5, ap_tok el5, ap_ex_ms el5, ap_nil_ms el5, ap_nothing el5, apr_ex_ms el5, apr_nil_ms el5, ap_nil el60, ap_ex el60, ap_tok el60, ap_ex_ms el60, ap_nil_ms el60, ap_nothing el60, apr_ex_ms el60, apr_nil_ms el60, cvs, cvn]
      simp
end Go.Proofs.YtiicpeidjhbhiaaGreat.cd
