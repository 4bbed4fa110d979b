/-
  THE ABSTRACT MACHINE, PART 22: regions; what is let go.
-/
import Derived.Test.YtiicpeidjhbhiaaGreatAm21
namespace Go.Am
open Go

section
variable {P : Program}

theorem ordOk_spec {ops : List Oper} : ∀ {done l : List Nat}, ordOk ops done l = true →
    (∀ i ∈ l, i ∉ done) ∧ l.Nodup ∧ ∀ X i Y, l = X ++ i :: Y → ∀ o, ops[i]? = some o → ∀ j ∈ preds o, j ∈ done ∨ j ∈ X
  | done, [], _ => ⟨fun i h => (by cases h), .nil, fun X i Y h => (by simp at h)⟩
  | done, i :: l, h => by
    rw [ordOk, Bool.and_eq_true] at h
    obtain ⟨h1, h2⟩ := h
    obtain ⟨a, b, c⟩ := ordOk_spec h2
    split at h1
    · rename_i o ho
      simp only [Bool.and_eq_true, Bool.not_eq_true', List.all_eq_true] at h1
      obtain ⟨k1, k2⟩ := h1
      have hi : i ∉ done := fun hm => by rw [(hasN_iff i done).2 hm] at k1; cases k1
      refine ⟨fun j hj => ?_, List.nodup_cons.2 ⟨fun hm => a i hm (by simp), b⟩, fun X j Y e oj hoj q hq => ?_⟩
      · rcases List.mem_cons.1 hj with rfl | hj
        · exact hi
        · exact fun hm => a j hj (by simp [hm])
      · cases X with
        | nil =>
          simp at e
          obtain ⟨rfl, rfl⟩ := e
          rw [ho] at hoj; cases hoj
          exact .inl ((hasN_iff q done).1 (k2 q hq))
        | cons x X =>
          simp at e
          obtain ⟨rfl, rfl⟩ := e
          rcases c X j Y rfl oj hoj q hq with h | h
          · rcases List.mem_cons.1 h with rfl | h
            · exact .inr (by simp)
            · exact .inl h
          · exact .inr (by simp [h])
    · cases h1

theorem apartAll_spec {ms : List Nat} : ∀ {l : List (Oper × List Nat × Nat)}, apartAll ms l = true → l.Pairwise fun x y => (ms.getD y.2.2 0).testBit x.2.2 = true ∨ apartB x.1 x.2.1 y.1 y.2.1 = true
  | [], _ => .nil
  | (x, lx, i) :: l, h => by
    rw [apartAll, Bool.and_eq_true, List.all_eq_true] at h
    refine .cons (fun y hy => ?_) (apartAll_spec h.2)
    obtain ⟨y, ly, j⟩ := y
    have := h.1 _ hy
    simp only [Bool.or_eq_true] at this
    exact this

/-- A region that draws, run in the plan's order. -/
theorem DC.of {call : CallF} (hc : CallOk P call) {nt : Nat} {mu : Bool} {ops : Array Oper} {env env' : Env} {st st' : St} {rs : List Rec} (hok : (planOf ops.toList).ok = true)
    (h : evDraw P call nt mu ops.toList (planOf ops.toList).ord env st [] = some (env', st', rs)) (hr : recsOk (planOf ops.toList).ms rs = true) : ∃ T, DC P call nt mu ops T env st env' st' := by
  obtain ⟨T, t1, t2, t3⟩ := evDraw_chain _ _ _ _ _ _ _ h
  rw [List.append_nil] at t3
  subst t3
  simp only [planOf, Bool.and_eq_true] at hok
  obtain ⟨⟨⟨m1, m2⟩, m3⟩, m4⟩ := hok
  have hT : T.map (·.i) = ordOf ops.toList (masks ops.toList []) := t2
  rw [← hT] at m1 m2
  obtain ⟨_, o2, o3⟩ := ordOk_spec m2
  obtain ⟨r1, r2⟩ := recsOk_spec hr
  have hstep : ∀ x ∈ T, ops.toList[x.i]? = some x.o := fun x hx => ((t1.facts hc).2.2.2.2 x hx).2.2.2.op
  refine ⟨T, hc, t1, fun r hrT n hn => ?_, ?_, fun i j x y hij hx hy => ?_, fun A r B e j hj => ?_, o2, fun i o ho j hj => ?_, fun i hi => ?_⟩
  · cases hq : (r.c || !r.rd.isEmpty || !r.st'.lg.isEmpty || Nat.blt r.st.nx r.st'.nx) with
    | true =>
      have hm := mrec_some hq
      obtain ⟨k1, k2⟩ := r2 _ (List.mem_reverse.2 (List.mem_filterMap.2 ⟨r, hrT, hm⟩))
      rcases hn with hn | hn
      · exact k1 n hn
      · exact k2 n hn
    | false =>
      simp only [Bool.or_eq_false_iff] at hq
      obtain ⟨⟨⟨_, q2⟩, q3⟩, _⟩ := hq
      rcases hn with hn | hn
      · cases hl : r.rd with
        | nil => rw [hl] at hn; cases hn
        | cons a b => rw [hl] at q2; simp at q2
      · cases hl : r.st'.lg with
        | nil => rw [hl] at hn; cases hn
        | cons a b => rw [hl] at q3; simp at q3
  · rw [List.pairwise_reverse, List.pairwise_filterMap] at r1
    exact r1.imp fun h x y hx hy => h x hx y hy
  · have pw := apartAll_spec m4
    rw [List.pairwise_map] at pw
    have key : ∀ (l : List Oper) (k : Nat), (l.zipIdx k).Pairwise (fun p q => (((masks ops.toList [])).getD q.2 0).testBit p.2 = true ∨ apartB p.1 (looks ops.toList p.1) q.1 (looks ops.toList q.1) = true) →
        ∀ (i j : Nat) x y, i < j → l[i]? = some x → l[j]? = some y → (((masks ops.toList [])).getD (k + j) 0).testBit (k + i) = true ∨ apartB x (looks ops.toList x) y (looks ops.toList y) = true := by
      intro l
      induction l with
      | nil => intro k _ i j x y _ hx; simp at hx
      | cons a l ih =>
        intro k hp i j x y hij hx hy
        rw [List.zipIdx_cons] at hp
        obtain ⟨h1, h2⟩ := List.pairwise_cons.1 hp
        cases i with
        | zero =>
          simp at hx; subst hx
          cases j with
          | zero => omega
          | succ j =>
            simp at hy
            have : (y, k + 1 + j) ∈ l.zipIdx (k + 1) := by
              rw [List.mem_zipIdx_iff_le_and_getElem?_sub]
              exact ⟨by omega, by rw [show k + 1 + j - (k + 1) = j by omega]; exact hy⟩
            have := h1 _ this
            rw [show k + (j + 1) = k + 1 + j by omega]
            exact this
        | succ i =>
          cases j with
          | zero => omega
          | succ j =>
            have := ih (k + 1) h2 i j x y (by omega) (by simpa using hx) (by simpa using hy)
            rw [show k + (j + 1) = k + 1 + j by omega, show k + (i + 1) = k + 1 + i by omega]
            exact this
    have := key ops.toList 0 pw i j x y hij hx hy
    simpa using this
  · have hr' := hstep r (by rw [e]; simp)
    rcases o3 (A.map (·.i)) r.i (B.map (·.i)) (by rw [e]; simp) r.o hr' j hj with h | h
    · cases h
    · obtain ⟨a, ha, rfl⟩ := List.mem_map.1 h
      exact ⟨a, ha, rfl⟩
  · have hm : (o, i) ∈ ops.toList.zipIdx := by
      rw [List.mem_zipIdx_iff_getElem?]; exact ho
    have := List.all_eq_true.1 (List.all_eq_true.1 m3 _ hm) j hj
    exact Nat.le_of_ble_eq_true this
  · have := List.all_eq_true.1 m1 i (List.mem_range.2 (by simpa using hi))
    obtain ⟨r, hr, e⟩ := List.mem_map.1 ((hasN_iff i _).1 this)
    exact ⟨r, hr, e⟩

theorem evReg_lk {call : CallF} (hc : CallOk P call) {nt : Nat} {mu : Bool} {ops : Array Oper} {draw : Bool} {env env' : Env} {st st' : St} (h : evReg P call nt mu ops draw env st = some (env', st')) : Lk st st' ∧ st'.df = st.df := by
  unfold evReg at h
  cases draw with
  | false => exact evSeq_lk hc _ _ _ _ _ h
  | true =>
    simp only [cond_true] at h
    cases hok : (planOf ops.toList).ok with
    | false => rw [hok] at h; cases h
    | true =>
      rw [hok] at h
      simp only [cond_true] at h
      split at h
      · rename_i e0 s0 rs he
        cases hr : recsOk (planOf ops.toList).ms rs with
        | false => rw [hr] at h; cases h
        | true =>
          rw [hr] at h
          simp only [cond_true] at h
          cases h
          obtain ⟨T, t1, _⟩ := evDraw_chain _ _ _ _ _ _ _ he
          exact ⟨(t1.facts hc).1, (t1.facts hc).2.1⟩
      · cases h

theorem evReg_sound (hm : P.follows .mixedOrders = true) {F : Fence} (hF : WF F) {call : CallF} (hc : CallOk P call) {nt : Nat} {mu : Bool} {ops : Array Oper} {draw : Bool} {id : Nat} {Q : Exit → Act → World → Prop} {env env' : Env} {st st' : St}
    (h : evReg P call nt mu ops draw env st = some (env', st')) {κ : Kap} {a : Act} {w : World} (s : SR P κ nt env st a w) (f : Free κ st.nx st'.nx)
    (hQ : ∀ κ' a' w', SR P κ' nt env' st' a' w' → FrW κ st.h.get w κ' st'.h.get w' st.nx st'.nx → Q .normal a' w') : (Code.region id ops draw).wpIn F 0 P Q a w := by
  have hlk := evReg_lk hc h
  unfold evReg at h
  cases draw with
  | false =>
    refine wpIn_region ?_
    have := evSeq_sound hF hc (Q := Q) ops.toList 0 env env' st st' (fun j => by simp) h κ a w s f hQ
    rw [List.range_eq_range']
    simpa using this
  | true =>
    simp only [cond_true] at h
    cases hok : (planOf ops.toList).ok with
    | false => rw [hok] at h; cases h
    | true =>
      rw [hok] at h
      simp only [cond_true] at h
      split at h
      · rename_i e0 s0 rs he
        cases hr : recsOk (planOf ops.toList).ms rs with
        | false => rw [hr] at h; cases h
        | true =>
          rw [hr] at h
          simp only [cond_true] at h
          cases h
          obtain ⟨T, d⟩ := DC.of hc hok he hr
          refine wpIn_region_any hm ?_
          have none0 : ∀ i, (Array.replicate ops.size false).getD i false = false := fun i => by
            by_cases hi : i < ops.size <;> simp [Array.getD_eq_getD_getElem?, hi]
          have h0 : hS T st (Array.replicate ops.size false) = st.h.get := funext fun n => by
            unfold hS
            exact lastOf_none T _ (fun r _ hr => by unfold inS at hr; rw [none0] at hr; cases hr)
          have e0' : ∀ t, eS T env (Array.replicate ops.size false) t = eget env t := fun t => by
            unfold eS
            exact lastOf_none T _ (fun r _ hr => by unfold inS at hr; rw [none0] at hr; cases hr)
          have fx := d.ch.facts hc
          have all1 : ∀ r ∈ T, inS (Array.replicate ops.size true) r = true := fun r hr => by
            have : r.i < ops.size := by have := (fx.2.2.2.2 r hr).2.2.2.op; have := (List.getElem?_eq_some_iff.1 this).1; simpa using this
            unfold inS; simp [Array.getD_eq_getD_getElem?, this]
          refine d.any (κ0 := κ) (W0 := w) (ds := a.defers) s.inv f hF (fun κ' a' w' D => ?_) ops.size _ (by simp) (fun i hi => by rw [none0] at hi; cases hi) ?_ κ a _ ⟨by rw [h0]; exact s.inv, fun t => by rw [e0']; exact s.re t, s.size, rfl, by rw [h0]; exact ⟨Fr.refl _ _ _ _ _, rfl, rfl⟩, fun r hr _ n h1 h2 => ?_⟩
          · have hh : hS T st (Array.replicate ops.size true) = st'.h.get := funext fun n => by
              unfold hS
              rw [fx.2.2.2.1 n]
              exact lastOf_congr T _ all1
            have ee : ∀ t, eS T env (Array.replicate ops.size true) t = eget env' t := fun t => by
              unfold eS
              rw [fx.2.2.1 t]
              exact lastOf_congr T _ all1
            have i1 := D.inv
            have f1 := D.fr
            rw [hh] at i1 f1
            refine hQ κ' a' w' ⟨fun t => by rw [← ee]; exact D.re t, D.size, ?_, i1⟩ f1
            rw [D.dfr, hlk.2]
            exact s.dfr.mono f1.ext
          · refine Nat.le_trans (List.length_filter_le _ _) (by simp)
          · obtain ⟨k1, k2, k3, _⟩ := fx.2.2.2.2 r hr
            exact f n (by omega) (by omega)
      · cases h

theorem eget_prune : ∀ (l : List Nat) (env : Env) (t : Nat), eget (pruneE l env) t = eget env t ∨ eget (pruneE l env) t = .und
  | [], env, t => .inr rfl
  | s :: l, env, t => by
    rw [pruneE, V.force_eq, eget, cond_beq]
    by_cases h : s = t
    · subst h; rw [if_pos rfl]; exact .inl rfl
    · rw [if_neg h]; exact eget_prune l env t

theorem RE.prune {κ : Kap} {H : Array Obj} {env : Env} {tmps : Array Value} (h : RE κ H env tmps) (l : List Nat) : RE κ H (pruneE l env) tmps := fun t => by
  rcases eget_prune l env t with e | e
  · rw [e]; exact h t
  · rw [e]; exact .und _

/-- An object of ours is let go, whatever becomes of its block. -/
theorem inv_free {κ : Kap} {h : Nat → Option O} {H : Array Obj} (i : Inv P κ h H) (n b : Nat) (o : O) (H' : Array Obj) (hn : h n = some o) (hr : κ.ρ n = some b) (hnb : o ≠ .buf)
    (hs : H'.size = H.size) (hne : ∀ c, c ≠ b → H'[c]? = H[c]?) (hzb : ∀ m, hz H b = some m → hz H' b = some m) (lo : Nat) :
    Inv P κ (upd h n none) H' ∧ Fr κ h H κ (upd h n none) H' lo lo := by
  have noI : ∀ j, ¬ κ.I b j := fun j hI => hnb (i.sep n o b j hn hr hI).1
  have e : Ext κ H κ H' := ⟨fun _ _ h => ⟨h, rfl⟩, fun _ _ h => h, fun c j hI => by
    by_cases hc' : c = b
    · subst hc'; exact absurd hI (noI j)
    · exact hc_block (hne c hc') j, fun c m hm => by
    by_cases hc' : c = b
    · subst hc'; exact hzb m hm
    · rw [hz_block (hne c hc')]; exact hm⟩
  have own : ∀ m c, (h m).isSome → κ.ρ m = some c → m ≠ n → c ≠ b := fun m c h1 h2 h3 hcb => by
    subst hcb; exact h3 (i.inj m n c h1 (by simp [hn]) h2 hr)
  have back : ∀ q x, upd h n none q = some x → h q = some x ∧ q ≠ n := fun q x hq => by
    by_cases hqn : q = n
    · subst hqn; rw [upd_same] at hq; cases hq
    · rw [upd_other _ _ hqn] at hq; exact ⟨hq, hqn⟩
  have back' : ∀ q, (upd h n none q).isSome → (h q).isSome := fun q hq => by
    obtain ⟨x, hx⟩ := Option.isSome_iff_exists.1 hq
    rw [(back q x hx).1]; rfl
  refine ⟨⟨fun m x hm => ?_, fun m m' c h1 h2 h3 h4 => i.inj m m' c (back' m h1) (back' m' h2) h3 h4, fun c j hI => ?_, fun m x c j hm hrm hI => i.sep m x c j (back m x hm).1 hrm hI⟩, ⟨e, by omega, fun c hc' hno => ?_, fun m hm => ⟨rfl, rfl⟩, fun m c h1 h2 => by (rw [h1] at h2; cases h2), fun c j hI => .inl hI, fun m hm => .inl (back' m hm)⟩⟩
  · obtain ⟨h1, h2⟩ := back m x hm
    obtain ⟨c, hrm, hob⟩ := i.obj m x h1
    exact ⟨c, hrm, hob.mono hrm e (hne c (own m c (by simp [h1]) hrm h2))⟩
  · obtain ⟨v, hv⟩ := i.imm c j hI
    exact ⟨v, by rw [e.cell c j hI]; exact hv⟩
  · exact hne c (fun hcb => hno ⟨n, by simp [hn], by rw [hcb]; exact hr⟩)
end
end Go.Am
