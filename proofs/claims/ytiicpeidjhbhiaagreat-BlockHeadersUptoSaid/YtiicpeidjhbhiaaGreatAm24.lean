/-
  THE ABSTRACT MACHINE, PART 24: functions.
-/
import Derived.Test.YtiicpeidjhbhiaaGreatAm23
namespace Go.Am
open Go

section
variable {P : Program}

theorem argEnv_get : ∀ (args : List V) (k t : Nat), eget (argEnv k args) t = if k ≤ t then args.getD (t - k) .und else .und
  | [], k, t => by simp [argEnv, eget, List.getD]
  | v :: args, k, t => by
    rw [argEnv, V.force_eq, eget, cond_beq, argEnv_get args (k + 1) t]
    by_cases h : k = t
    · subst h; simp [List.getD]
    · rw [if_neg h]
      by_cases h1 : k ≤ t
      · rw [if_pos (by omega), if_pos h1]
        have : t - k = (t - (k + 1)) + 1 := by omega
        rw [this]; simp [List.getD]
      · rw [if_neg (by omega), if_neg h1]

theorem args_re {κ : Kap} {H : Array Obj} {args : List V} {args' : Array Value} (h : PW κ H args args'.toList) (n : Nat) : RE κ H (argEnv 0 args) (args' ++ Array.replicate n undef) := fun t => by
  rw [argEnv_get]
  simp only [Nat.zero_le, if_true, Nat.sub_zero]
  cases hq : args[t]? with
  | none => rw [List.getD_eq_getElem?_getD, hq]; exact .und _
  | some c =>
    rw [List.getD_eq_getElem?_getD, hq]
    obtain ⟨v, hv, hr⟩ := h.get hq
    have : (args' ++ Array.replicate n undef).getD t undef = v := by
      have ht : t < args'.size := by have := (List.getElem?_eq_some_iff.1 hv).1; simpa using this
      have hv' : args'[t]? = some v := by simpa using hv
      simp [Array.getD_eq_getD_getElem?, Array.getElem?_append_left ht, hv']
    rw [this]; exact hr

theorem run_takeDeferred {b : Nat} {w : World} (h : w.heap[b]? = some (.deferred (some []))) : ∃ x w', (Instr.takeDeferred b).run P w = .ok [] w' ∧ w'.heap = w.heap.setIfInBounds b x ∧ Kp w w' := by
  have g := run_getObj (P := P) h rfl
  have s := run_setObj (P := P) (o' := .deferred none) h rfl
  exact ⟨.deferred none, { w with heap := w.heap.setIfInBounds b (.deferred none) }, by simp [Instr.takeDeferred, g, s], rfl, rfl, rfl⟩

theorem takeDf_lk : ∀ (l : List Nat) (st st' : St), takeDf l st = some st' → Lk st st' ∧ st'.nx = st.nx
  | [], st, st', h => by simp only [takeDf] at h; cases h; exact ⟨.refl _, rfl⟩
  | d :: l, st, st', h => by
    simp only [takeDf] at h
    split at h
    · obtain ⟨a, b⟩ := takeDf_lk l _ _ h
      exact ⟨(Lk.del st d).trans a, b⟩
    · cases h

theorem leaves_sound {fn : Func} {tmps : Array Value} {R : Ending → World → Prop} : ∀ (l : List Nat) (st st' : St) (ds : List Deferred) (κ : Kap) (w : World), takeDf l st = some st' → DefR κ l ds → Inv P κ st.h.get w.heap →
    (∀ w', Inv P κ st'.h.get w'.heap → FrW κ st.h.get w κ st'.h.get w' st.nx st.nx → ∃ v, (results fn tmps).run P w' = .ok v w' ∧ R (.returned v) w') → LeavesInM Fence.wide 0 P fn tmps R ds .returning w
  | [], st, st', ds, κ, w, h, hd, i, hR => by
    simp only [takeDf] at h; cases h
    cases hd
    exact hR w i (.refl _ _ _ _ _)
  | d :: l, st, st', ds, κ, w, h, hd, i, hR => by
    simp only [takeDf] at h
    split at h
    · rename_i hg
      cases hd with
      | cons hb t =>
        obtain ⟨b, hr, hob⟩ := i.obj d _ hg
        rw [hb] at hr; cases hr
        obtain ⟨x, w', run, hw', hkp⟩ := run_takeDeferred (P := P) hob
        obtain ⟨i', f'⟩ := inv_free i d _ _ (w.heap.setIfInBounds _ x) hg hb (by simp) (by simp) (fun c hcb => heap_set_ne hcb) (hz_norow hob rfl _) st.nx
        rw [← hw'] at i' f'
        have e0 : (st.delO d).h.get = upd st.h.get d none := by simp only [St.delO, get_set_upd]
        refine ⟨by simp, .inl ⟨_, w', rfl, run, ?_⟩⟩
        refine leaves_sound l (st.delO d) st' _ κ w' h t (by rw [e0]; exact i') (fun w'' i'' f'' => hR w'' i'' (FrW.trans (w₂ := w') (Nat.le_refl _) (Nat.le_refl _) ⟨f', hkp⟩ (by rw [e0] at f''; exact f'')))
    · cases h

def resF (tmps : Array Value) : ResultVar → Sem Value
  | .tmp t => pure (tmps.getD t undef)
  | .cell a t => do loadVar t (← asAddr (tmps.getD a undef))

theorem results_eq (fn : Func) (tmps : Array Value) : results fn tmps = (do let vs ← fn.results.mapM (resF tmps); pure (if h : vs.size = 1 then vs[0] else .tuple vs)) := by
  unfold results
  congr 2

/-- What a function hands back. -/
theorem resAll_sound {κ : Kap} {w : World} {env : Env} {st : St} {tmps : Array Value} (hre : RE κ w.heap env tmps) (i : Inv P κ st.h.get w.heap) : ∀ (l : List ResultVar) (vs : List V), resAll P env st l = some vs →
    ∃ vs', (l.mapM (resF tmps)).run P w = .ok vs' w ∧ PW κ w.heap vs vs'
  | [], vs, h => by simp only [resAll] at h; cases h; exact ⟨[], rfl, .nil⟩
  | r :: l, vs, h => by
    simp only [resAll] at h
    split at h
    · rename_i v us h1 h2
      cases h
      obtain ⟨us', q1, q2⟩ := resAll_sound hre i l _ h2
      obtain ⟨v', r1, r2⟩ : ∃ v', (resF tmps r).run P w = .ok v' w ∧ RV κ w.heap v v' := by
        cases r with
        | tmp t => simp only [resOne] at h1; cases h1; exact ⟨_, rfl, hre t⟩
        | cell a t =>
          simp only [resOne] at h1
          split at h1
          · rename_i v0 s0 rd0 hr
            cases h1
            obtain ⟨rfl, ad, v', he, h3, h4⟩ := loadA_sound hr i (hre a)
            exact ⟨v', by simp [resF, he, asAddr, h3], h4⟩
          · cases h1
      refine ⟨v' :: us', ?_, .cons r2 q2⟩
      rw [List.mapM_cons]
      simp only [Sem.run_bind, r1, Result.andThen_ok, q1, Sem.run_pure]
    · cases h

theorem resV_sound {κ : Kap} {w : World} {fn : Func} {env : Env} {st : St} {tmps : Array Value} {v : V} (hre : RE κ w.heap env tmps) (i : Inv P κ st.h.get w.heap) (h : resV P fn env st = some v) : ∃ v', (results fn tmps).run P w = .ok v' w ∧ RV κ w.heap v v' := by
  unfold resV at h
  have run : ∀ vs, resAll P env st fn.results.toList = some vs → ∃ vs' : List Value, (results fn tmps).run P w = .ok (if h : vs'.toArray.size = 1 then vs'.toArray[0] else .tuple vs'.toArray) w ∧ PW κ w.heap vs vs' := fun vs hvs => by
    obtain ⟨vs', q1, q2⟩ := resAll_sound hre i _ _ hvs
    refine ⟨vs', ?_, q2⟩
    rw [results_eq, Array.mapM_eq_mapM_toList]
    simp only [Sem.run_bind, Sem.run_map, q1, Sem.run_pure]
    rfl
  split at h
  · rename_i u hu
    cases h
    obtain ⟨vs', h1, h2⟩ := run _ hu
    cases vs' with
    | nil => have := h2.1; simp at this
    | cons v' l =>
      have hl := h2.tail.1
      have hl' : l = [] := List.length_eq_zero_iff.1 hl.symm
      subst hl'
      exact ⟨v', by simpa using h1, h2.head⟩
  · rename_i vs hne hvs
    cases h
    obtain ⟨vs', h1, h2⟩ := run _ hvs
    have : ¬ vs'.toArray.size = 1 := fun e => by
      have hl : vs.length = 1 := by rw [h2.1]; simpa using e
      obtain ⟨a, rfl⟩ := List.length_eq_one_iff.1 hl
      exact hne a rfl
    rw [dif_neg this] at h1
    exact ⟨_, h1, RV.tup' h2⟩
  · cases h

theorem evBody_sound (hm : P.follows .mixedOrders = true) {A : Aid} {call : CallF} (hc : CallOk P call) {f : Nat} {args : List V} {st st' : St} {v : V} (h : evBody P A call f args st = some (v, st')) :
    Lk st st' ∧ st'.df = st.df ∧ ∀ κ w args', PW κ w.heap args args'.toList → Inv P κ st.h.get w.heap → Free κ st.nx st'.nx → Calls P f args' w (Post P κ st w v st') := by
  unfold evBody at h
  split at h
  · cases h
  · rename_i fn hfn
    split at h
    · cases h
    · rename_i c hb
      cases hle : Nat.ble args.length fn.ntmps with
      | false => rw [hle] at h; cases h
      | true =>
        rw [hle] at h
        simp only [cond_true] at h
        have hle := Nat.le_of_ble_eq_true hle
        split at h
        · cases h
        · rename_i e env st1 hne he
          split at h
          · rename_i st2 htd
            split at h
            · rename_i u hres
              cases h
              obtain ⟨l1, s1⟩ := evC_sound hm hc ⟨fn, hfn, rfl⟩ _ _ _ _ _ _ he
              obtain ⟨l2, n2⟩ := takeDf_lk _ _ _ htd
              refine ⟨⟨by have := l1.nx; have := l2.nx; simp only at *; omega, fun n h1 h2 => (l1.trans l2).same n h1 h2, fun n hn => (l1.trans l2).lg n hn⟩, rfl, fun κ w args' hp i fr => ?_⟩
              refine (callsIn_wide (n := 0)).1 (callsIn_of_wp_marks hfn hb trivial ?_)
              have hsz : args'.size = args.length := by simpa using hp.1.symm
              refine s1 Fence.wide .wide (fun _ => rfl) κ _ w _ ⟨args_re hp _, by simp; omega, .nil, i⟩ (by rw [← n2]; exact fr) (fun κ1 a1 w1 s f1 => ?_)
              have fin : LeavesInM Fence.wide 0 P fn a1.tmps (Post P κ st w v ⟨st2.h, st2.nx, st2.lg, st.df⟩) a1.defers .returning w1 := by
                refine leaves_sound st1.df st1 st2 a1.defers κ1 w1 htd s.dfr s.inv (fun w2 i2 f2 => ?_)
                obtain ⟨v', r1, r2⟩ := resV_sound (s.re.mono f2.ext) i2 hres
                refine ⟨v', r1, v', κ1, rfl, r2, i2, ?_⟩
                have := f1.trans l1.nx (Nat.le_refl _) f2
                simp only at *
                rw [n2]; exact this
              cases e with
              | nrm => exact fin
              | ret => exact fin
              | ext id => exact (hne id rfl).elim
            · cases h
          · cases h
        · cases h

theorem fold_re {κ : Kap} {H : Array Obj} : ∀ (ps : List Nat) (args : List V) (args' : List Value) (env : Env) (tmps : Array Value), RE κ H env tmps → (∀ t ∈ ps, t < tmps.size) → PW κ H args args' →
    RE κ H ((ps.zip args).reverse ++ env) ((ps.zip args').foldl (fun tmps (t, a) => tmps.setIfInBounds t a) tmps) ∧ ((ps.zip args').foldl (fun tmps (t, a) => tmps.setIfInBounds t a) tmps).size = tmps.size
  | [], args, args', env, tmps, h, _, _ => by simpa using h
  | p :: ps, [], [], env, tmps, h, _, _ => by simpa using h
  | p :: ps, [], _ :: _, env, tmps, h, _, hp => by have := hp.1; simp at this
  | p :: ps, _ :: _, [], env, tmps, h, _, hp => by have := hp.1; simp at this
  | p :: ps, a :: args, a' :: args', env, tmps, h, hlt, hp => by
    have h1 : RE κ H ((p, a) :: env) (tmps.setIfInBounds p a') := fun t => by
      rw [eget, cond_beq, Array.getD_eq_getD_getElem?, Array.getElem?_setIfInBounds]
      by_cases e : p = t
      · subst e
        rw [if_pos rfl, if_pos rfl, if_pos (hlt p (by simp))]
        exact hp.head
      · rw [if_neg e, if_neg e, ← Array.getD_eq_getD_getElem?]
        exact h t
    obtain ⟨q1, q2⟩ := fold_re ps args args' ((p, a) :: env) _ h1 (fun t ht => by simpa using hlt t (by simp [ht])) hp.tail
    refine ⟨?_, by simpa using q2⟩
    simpa using q1

theorem evYld_sound (hm : P.follows .mixedOrders = true) {A : Aid} {call : CallF} (hc : CallOk P call) {l : Nat} {args : List V} {st st' : St} {v : V} (h : evYld P A call l args st = some (v, st')) :
    Lk st st' ∧ st'.df = st.df ∧ ∀ κ w args', PW κ w.heap args args'.toList → Inv P κ st.h.get w.heap → Free κ st.nx st'.nx → CallOk1 P κ w args' st v st' (.y l) := by
  unfold evYld at h
  split at h
  · rename_i f env ps asg body sx px hl
    split at h
    · rename_i fn hfn
      cases hcond : (Nat.beq sx 0 && Nat.beq args.length ps.length && ps.all (fun t => Nat.blt t fn.ntmps)) with
      | false => rw [hcond] at h; cases h
      | true =>
        rw [hcond] at h
        simp only [cond_true] at h
        simp only [Bool.and_eq_true, List.all_eq_true] at hcond
        obtain ⟨⟨c1, c2⟩, c3⟩ := hcond
        have c1 := Nat.eq_of_beq_eq_true c1
        have c2 := Nat.eq_of_beq_eq_true c2
        split at h
        · rename_i env1 st1 he1
          split at h
          · rename_i f1 v1 ps1 as1 bo1 p1 hl1
            split at h
            · rename_i e envx st2 he2
              split at h
              · rename_i f2 v2 ps2 as2 bo2 px2 hl2
                obtain ⟨l1, s1⟩ := evC_sound hm hc ⟨fn, hfn, rfl⟩ _ _ _ _ _ _ he1
                obtain ⟨l2, s2⟩ := evC_sound hm hc ⟨fn, hfn, rfl⟩ _ _ _ _ _ _ he2
                have la : Lk st1 ⟨st1.h.set l (some (.lop f1 v1 ps1 as1 bo1 1 p1)), st1.nx, l :: st1.lg, st1.df⟩ := Lk.put st1 l _
                -- in the end
                obtain ⟨o3, hv3, hvv, hs3, ho3⟩ : ∃ o3 b3, v = .bool b3 ∧ st' = ⟨st2.h.set l (some o3), st2.nx, l :: st2.lg, st.df⟩ ∧
                    ((e = .nrm ∧ b3 = true ∧ o3 = .lop f2 v2 ps2 as2 bo2 0 .nrm) ∨ (e ≠ .nrm ∧ b3 = false ∧ o3 = .lop f2 v2 ps2 as2 bo2 2 e)) := by
                  split at h
                  · cases h; exact ⟨_, true, rfl, rfl, .inl ⟨rfl, rfl, rfl⟩⟩
                  · rename_i hne; cases h; exact ⟨_, false, rfl, rfl, .inr ⟨fun e => hne e, rfl, rfl⟩⟩
                refine ⟨?_, by rw [hs3], fun κ w args' hp i fr b hb => ?_⟩
                · rw [hs3]
                  have lb : Lk st2 ⟨st2.h.set l (some o3), st2.nx, l :: st2.lg, st.df⟩ := ⟨(Lk.put st2 l o3).nx, (Lk.put st2 l o3).same, (Lk.put st2 l o3).lg⟩
                  have := (l1.trans la).trans (l2.trans lb)
                  exact ⟨this.nx, this.same, this.lg⟩
                · have hnx : st'.nx = st2.nx := by rw [hs3]
                  obtain ⟨b', hr, tmps, dfr, fn', fn0, q1, q2, q3, q4⟩ := i.obj l _ hl
                  rw [hb] at hr; cases hr
                  rw [hfn] at q1; cases q1
                  have hsz : args'.size = ps.length := by rw [← c2]; simpa using hp.1.symm
                  have htm : ((ps.toArray.zip args').foldl (fun tmps (t, a) => tmps.setIfInBounds t a) tmps) = (ps.zip args'.toList).foldl (fun tmps (t, a) => tmps.setIfInBounds t a) tmps := by
                    rw [← Array.foldl_toList, Array.toList_zip]
                  obtain ⟨re0, sz0⟩ := fold_re ps args args'.toList env tmps q3 (fun t ht => by rw [q2]; exact Nat.le_of_ble_eq_true (c3 t ht)) hp
                  rw [← htm] at re0 sz0
                  have gl := run_getObj (P := P) q4 rfl
                  have yrun : (Instr.yield b args').run P w = .ok (.round b fn0 ((ps.toArray.zip args').foldl (fun tmps (t, a) => tmps.setIfInBounds t a) tmps) asg body) w := by
                    have hns : ¬ (args'.size ≠ ps.toArray.size) := by simp [hsz]
                    simp only [Instr.yield, Instr.getLoop, Sem.run_bind, gl, Result.andThen_ok, Sem.run_pure]
                    rw [if_neg hns]
                    rfl
                  refine ⟨fn0, _, asg, body, yrun, roundIn_of_wpIn trivial ?_⟩
                  refine s1 (Fence.wide.inRound b) (.round b) (fun h => by cases h) κ { tmps := _, defers := [] } w _ ⟨re0, by rw [← q2]; exact sz0, .nil, i⟩ (by refine fr.left ?_; rw [hnx]; exact l2.nx) (fun κ1 a1 w1 s f1' => ?_)
                  have hb1 := (f1'.ext.rho _ _ hb).1
                  obtain ⟨b', hr, tmps1, dfr1, fn1, fn01, u1, u2, u3, u4⟩ := s.inv.obj l _ hl1
                  rw [hb1] at hr; cases hr
                  have g1 := run_getObj (P := P) u4 rfl
                  let r1 : Loop := { state := .busy, pending := jumpOf p1, fn := fn01, tmps := tmps1, params := ps1.toArray, assign := as1, body := bo1, defers := dfr1 }
                  have so1 := run_setObj (P := P) (o' := .loop r1) u4 rfl
                  obtain ⟨i2, f2'⟩ := set_obj (st := st1) (o' := .lop f1 v1 ps1 as1 bo1 1 p1) (x' := .loop r1) s.inv hl1 hb1 u4 rfl (by simp) (fun κ' H' ex _ hH => ⟨tmps1, dfr1, fn1, fn01, u1, u2, u3.mono ex, hH⟩)
                  show ∃ w₂, (Instr.beginRound b).run P w1 = .ok () w₂ ∧ body.wpIn (Fence.wide.inRound b) 0 P (roundPost P b (Post P κ st w v st')) a1 w₂
                  refine ⟨{ w1 with heap := w1.heap.setIfInBounds b (.loop r1) }, ?_, ?_⟩
                  · simp only [stateOf] at g1
                    simp only [Instr.beginRound, Instr.getLoop, Sem.run_bind, g1, Result.andThen_ok, Sem.run_pure]
                    rw [so1]
                    rfl
                  · have e1 : (st1.h.set l (some (.lop f1 v1 ps1 as1 bo1 1 p1))).get = upd st1.h.get l (some (.lop f1 v1 ps1 as1 bo1 1 p1)) := get_set_upd _ _ _
                    refine s2 (Fence.wide.inRound b) (.round b) (fun h => by cases h) κ1 a1 { w1 with heap := w1.heap.setIfInBounds b (.loop r1) } _ ⟨s.re.mono f2'.ext, s.size, s.dfr.mono f2'.ext, by rw [e1]; exact i2⟩
                      (by rw [← hnx]; exact fr.later (by exact l1.nx) f1'.toFr) (fun κ2 a2 w3 s' f3' => ?_)
                    rw [e1] at f3'
                    have hb2 := (f3'.ext.rho _ _ hb1).1
                    obtain ⟨b', hr, tmps2, dfr2, fn2, fn02, t1, t2, t3, t4⟩ := s'.inv.obj l _ hl2
                    rw [hb2] at hr; cases hr
                    have g2 := run_getObj (P := P) t4 rfl
                    let r2 : Loop := { state := if (jumpOf e).isNone then .ready else .done, pending := jumpOf e, fn := fn02, tmps := tmps2, params := ps2.toArray, assign := as2, body := bo2, defers := dfr2 }
                    have so2 := run_setObj (P := P) (o' := .loop r2) t4 rfl
                    have run : (Instr.endRound b (jumpOf e)).run P w3 = .ok (.bool (jumpOf e).isNone) { w3 with heap := w3.heap.setIfInBounds b (.loop r2) } := by
                      simp only [Instr.endRound, Instr.getLoop, Sem.run_bind, g2, Result.andThen_ok, Sem.run_pure]
                      rw [so2]
                      rfl
                    have hbv : (jumpOf e).isNone = hv3 ∧ ∀ κ' H', Ext κ2 w3.heap κ' H' → H'[b]? = some (.loop r2) → OB P κ' H' l b o3 := by
                      rcases ho3 with ⟨rfl, rfl, rfl⟩ | ⟨hne, rfl, rfl⟩
                      · exact ⟨rfl, fun κ' H' ex hH => ⟨tmps2, dfr2, fn2, fn02, t1, t2, t3.mono ex, hH⟩⟩
                      · cases e with
                        | nrm => exact absurd rfl hne
                        | ext id => exact ⟨rfl, fun κ' H' ex hH => ⟨tmps2, dfr2, fn2, fn02, t1, t2, t3.mono ex, hH⟩⟩
                        | ret => exact ⟨rfl, fun κ' H' ex hH => ⟨tmps2, dfr2, fn2, fn02, t1, t2, t3.mono ex, hH⟩⟩
                    obtain ⟨i4, f4'⟩ := set_obj (st := st2) (o' := o3) (x' := .loop r2) s'.inv hl2 hb2 t4 rfl (by simp) (fun κ' H' ex _ hH => hbv.2 κ' H' ex hH)
                    have e2 : st'.h.get = upd st2.h.get l (some o3) := by rw [hs3]; exact get_set_upd _ _ _
                    have post : Post P κ st w v st' (.returned (.bool (jumpOf e).isNone)) { w3 with heap := w3.heap.setIfInBounds b (.loop r2) } := by
                      refine ⟨_, κ2, rfl, by rw [hvv, hbv.1]; exact .bool _, by rw [e2]; exact i4, ?_⟩
                      rw [e2, hnx]
                      have l1nx : st.nx ≤ st1.nx := l1.nx
                      have l2nx : st1.nx ≤ st2.nx := l2.nx
                      exact ⟨((f1'.toFr.trans l1nx (Nat.le_refl _) f2').trans l1nx l2nx f3'.toFr).trans (by omega) (Nat.le_refl _) f4', f1'.kp.trans ((show Kp w1 { w1 with heap := w1.heap.setIfInBounds b (.loop r1) } from ⟨rfl, rfl⟩).trans (f3'.kp.trans ⟨rfl, rfl⟩))⟩
                    cases e with
                    | nrm => exact ⟨_, _, run, post⟩
                    | ext id => exact ⟨_, _, run, post⟩
                    | ret => exact ⟨_, _, run, post⟩
              · cases h
            · cases h
          · cases h
        · cases h
    · cases h
  · cases h

/-- What is asked of the functions that are answered for. -/
def OrcOk (P : Program) (orc : Nat → Option (List V → St → Option (V × St))) : Prop := ∀ f o args st v st', orc f = some o → o args st = some (v, st') → Lk st st' ∧ st'.df = st.df ∧
  ∀ κ w args', PW κ w.heap args args'.toList → Inv P κ st.h.get w.heap → Free κ st.nx st'.nx → Calls P f args' w (Post P κ st w v st')

theorem evF_sound (hm : P.follows .mixedOrders = true) {A : Aid} {orc : Nat → Option (List V → St → Option (V × St))} (ho : OrcOk P orc) : ∀ d, CallOk P (evF P A orc d)
  | 0 => fun g args st v st' h => by cases h
  | d + 1 => fun g args st v st' h => by
    have ih := evF_sound hm (A := A) ho d
    cases g with
    | f f =>
      simp only [evF] at h
      cases hen : enterOk P f with
      | false => rw [hen] at h; cases h
      | true =>
        rw [hen] at h
        simp only [cond_true] at h
        split at h
        · rename_i o horc
          obtain ⟨a, b, c⟩ := ho f o args st v st' horc h
          exact ⟨a, b, fun κ w args' hp i fr => ⟨hen, c κ w args' hp i fr⟩⟩
        · obtain ⟨a, b, c⟩ := evBody_sound hm ih h
          exact ⟨a, b, fun κ w args' hp i fr => ⟨hen, c κ w args' hp i fr⟩⟩
    | y l =>
      simp only [evF] at h
      exact evYld_sound hm ih h
end
end Go.Am
