/-
  THE ABSTRACT MACHINE, PART 23: code.
-/
import Derived.Test.YtiicpeidjhbhiaaGreatAm22
namespace Go.Am
open Go

def exitOf : Ex → Exit
  | .nrm => .normal
  | .ext id => .exit id
  | .ret => .ret

section
variable {P : Program}

theorem run_endLoop {b : Nat} {w : World} {r : Loop} (h : w.heap[b]? = some (.loop r)) (hs : r.state ≠ .busy) : ∃ x w', (Instr.endLoop b).run P w = .ok r.pending w' ∧ w'.heap = w.heap.setIfInBounds b x ∧ Kp w w' := by
  have g := run_getObj (P := P) h rfl
  have s := run_setObj (P := P) (o' := .loop { r with state := .exhausted }) h rfl
  have hb : ¬ r.state = LoopState.busy := hs
  exact ⟨.loop { r with state := .exhausted }, { w with heap := w.heap.setIfInBounds b (.loop { r with state := .exhausted }) }, by simp [Instr.endLoop, Instr.getLoop, g, hb, s], rfl, rfl, rfl⟩

theorem heap_set_ne {H : Array Obj} {b c : Nat} {x : Obj} (h : c ≠ b) : (H.setIfInBounds b x)[c]? = H[c]? := by
  rw [Array.getElem?_setIfInBounds, if_neg (Ne.symm h)]

theorem hz_norow {H : Array Obj} {b : Nat} {x : Obj} (h : H[b]? = some x) (hx : isRow x = false) (H' : Array Obj) : ∀ m, hz H b = some m → hz H' b = some m := fun m hm => by
  unfold hz at hm
  rw [h] at hm
  cases x <;> simp [isRow] at hx hm

variable {call : CallF} {nt : Nat} {mu : Bool} {H : Nat → Option (List Nat)} {L me : Nat} {inR : Bool}

/-- What is shown of code. -/
def CSound (P : Program) (nt : Nat) (inR : Bool) (c : Code) (env : Env) (st : St) (e : Ex) (env' : Env) (st' : St) : Prop :=
  Lk st st' ∧ ∀ F, WF F → (inR = false → F = Fence.wide) → ∀ κ a w Q, SR P κ nt env st a w → Free κ st.nx st'.nx →
    (∀ κ' a' w', SR P κ' nt env' st' a' w' → FrW κ st.h.get w κ' st'.h.get w' st.nx st'.nx → Q (exitOf e) a' w') → c.wpIn F 0 P Q a w

theorem loop_sound {b : Code} (f : Env → St → Option (Ex × Env × St)) (hf : ∀ env st e env' st', f env st = some (e, env', st') → CSound P nt inR b env st e env' st') :
    ∀ (n : Nat) (env : Env) (st : St) (e : Ex) (env' : Env) (st' : St), loopN f n env st = some (e, env', st') →
    Lk st st' ∧ ∀ F, WF F → (inR = false → F = Fence.wide) → ∀ κ a w Q, SR P κ nt env st a w → Free κ st.nx st'.nx →
      (∀ κ' a' w', SR P κ' nt env' st' a' w' → FrW κ st.h.get w κ' st'.h.get w' st.nx st'.nx → Q (exitOf e) a' w') → Code.roundsIn F 0 P b Q n a w
  | 0, env, st, e, env', st', h => by simp only [loopN] at h; cases h
  | n + 1, env, st, e, env', st', h => by
    simp only [loopN] at h
    split at h
    · rename_i env1 st1 h1
      obtain ⟨l1, s1⟩ := hf _ _ _ _ _ h1
      obtain ⟨l2, s2⟩ := loop_sound f hf n _ _ _ _ _ h
      refine ⟨l1.trans l2, fun F hF hr κ a w Q s fr hQ => ?_⟩
      refine s1 F hF hr κ a w _ s (fr.left l2.nx) (fun κ' a' w' s' f' => ?_)
      exact s2 F hF hr κ' a' w' Q s' (fr.later l1.nx f'.toFr) (fun κ'' a'' w'' s'' f'' => hQ κ'' a'' w'' s'' (f'.trans l1.nx l2.nx f''))
    · rename_i hne
      obtain ⟨l1, s1⟩ := hf _ _ _ _ _ h
      refine ⟨l1, fun F hF hr κ a w Q s fr hQ => ?_⟩
      refine s1 F hF hr κ a w _ s fr (fun κ' a' w' s' f' => ?_)
      have := hQ κ' a' w' s' f'
      cases e with
      | nrm => exact absurd h (hne _ _)
      | ext id => exact this
      | ret => exact this

theorem evC_sound (hm : P.follows .mixedOrders = true) (hc : CallOk P call) (hme : ∃ fn, P.funcs[me]? = some fn ∧ fn.ntmps = nt) : ∀ (c : Code) (env : Env) (st : St) (e : Ex) (env' : Env) (st' : St),
    evC P call nt mu H L me inR c env st = some (e, env', st') → CSound P nt inR c env st e env' st' := by
  intro c
  induction c with
  | skip =>
    intro env st e env' st' h
    simp only [evC] at h; cases h
    exact ⟨.refl _, fun F hF hr κ a w Q s fr hQ => wpIn_skip (hQ κ a w s (.refl _ _ _ _ _))⟩
  | region id ops draw =>
    intro env st e env' st' h
    simp only [evC] at h
    split at h
    · rename_i env1 st1 h1
      cases h
      refine ⟨(evReg_lk hc h1).1, fun F hF hr κ a w Q s fr hQ => evReg_sound hm hF hc h1 s fr (fun κ' a' w' s' f' => hQ κ' a' w' ⟨?_, s'.size, s'.dfr, s'.inv⟩ f')⟩
      split
      · exact s'.re.prune _
      · exact s'.re
    · cases h
  | seq x y ihx ihy =>
    intro env st e env' st' h
    simp only [evC] at h
    split at h
    · rename_i env1 st1 h1
      obtain ⟨l1, s1⟩ := ihx _ _ _ _ _ h1
      obtain ⟨l2, s2⟩ := ihy _ _ _ _ _ h
      refine ⟨l1.trans l2, fun F hF hr κ a w Q s fr hQ => wpIn_seq ?_⟩
      refine s1 F hF hr κ a w _ s (fr.left l2.nx) (fun κ' a' w' s' f' => ?_)
      exact s2 F hF hr κ' a' w' Q s' (fr.later l1.nx f'.toFr) (fun κ'' a'' w'' s'' f'' => hQ κ'' a'' w'' s'' (f'.trans l1.nx l2.nx f''))
    · rename_i hne
      obtain ⟨l1, s1⟩ := ihx _ _ _ _ _ h
      refine ⟨l1, fun F hF hr κ a w Q s fr hQ => wpIn_seq ?_⟩
      refine s1 F hF hr κ a w _ s fr (fun κ' a' w' s' f' => ?_)
      have := hQ κ' a' w' s' f'
      cases e with
      | nrm => exact absurd h (hne _ _)
      | ext id => exact this
      | ret => exact this
  | cond c x y ihx ihy =>
    intro env st e env' st' h
    simp only [evC] at h
    split at h
    · rename_i b hb
      have cv : ∀ κ a w, SR P κ nt env st a w → a.eval c = .bool b := fun κ a w s => by
        have := opv_rv (κ := κ) (H := w.heap) (env := env) (a := a) c (fun t _ => s.re t)
        rw [hb] at this
        exact this.inv_bool
      cases b with
      | true =>
        obtain ⟨l1, s1⟩ := ihx _ _ _ _ _ h
        exact ⟨l1, fun F hF hr κ a w Q s fr hQ => wpIn_cond_true (cv κ a w s) (s1 F hF hr κ a w Q s fr hQ)⟩
      | false =>
        obtain ⟨l1, s1⟩ := ihy _ _ _ _ _ h
        exact ⟨l1, fun F hF hr κ a w Q s fr hQ => wpIn_cond_false (cv κ a w s) (s1 F hF hr κ a w Q s fr hQ)⟩
    · cases h
  | block id b ih =>
    intro env st e env' st' h
    simp only [evC] at h
    split at h
    · rename_i j env1 st1 h1
      obtain ⟨l1, s1⟩ := ih _ _ _ _ _ h1
      rw [cond_beq] at h
      split at h
      · rename_i hj
        cases h
        refine ⟨l1, fun F hF hr κ a w Q s fr hQ => wpIn_block (s1 F hF hr κ a w _ s fr (fun κ' a' w' s' f' => ?_))⟩
        have := hQ κ' a' w' s' f'
        show Exit.inBlock id Q (.exit j) a' w'
        simp only [Exit.inBlock]
        rw [if_pos hj]; exact this
      · rename_i hj
        cases h
        refine ⟨l1, fun F hF hr κ a w Q s fr hQ => wpIn_block (s1 F hF hr κ a w _ s fr (fun κ' a' w' s' f' => ?_))⟩
        have := hQ κ' a' w' s' f'
        show Exit.inBlock id Q (.exit j) a' w'
        simp only [Exit.inBlock]
        rw [if_neg hj]; exact this
    · rename_i hne
      obtain ⟨l1, s1⟩ := ih _ _ _ _ _ h
      refine ⟨l1, fun F hF hr κ a w Q s fr hQ => wpIn_block (s1 F hF hr κ a w _ s fr (fun κ' a' w' s' f' => ?_))⟩
      have := hQ κ' a' w' s' f'
      cases e with
      | nrm => exact this
      | ext j => exact absurd h (hne _ _ _)
      | ret => exact this
  | loop b ih =>
    intro env st e env' st' h
    simp only [evC] at h
    obtain ⟨l1, s1⟩ := loop_sound (P := P) (nt := nt) (inR := inR) (b := b) _ (fun env st e env' st' h => ih env st e env' st' h) L env st e env' st' h
    exact ⟨l1, fun F hF hr κ a w Q s fr hQ => wpIn_loop_rounds L (s1 F hF hr κ a w Q s fr hQ)⟩
  | exit id =>
    intro env st e env' st' h
    simp only [evC] at h; cases h
    exact ⟨.refl _, fun F hF hr κ a w Q s fr hQ => wpIn_exit (hQ κ a w s (.refl _ _ _ _ _))⟩
  | ret =>
    intro env st e env' st' h
    simp only [evC] at h; cases h
    exact ⟨.refl _, fun F hF hr κ a w Q s fr hQ => wpIn_ret (hQ κ a w s (.refl _ _ _ _ _))⟩
  | rangeFunc g ps asg body iha ihb =>
    intro env st e env' st' h
    simp only [evC] at h
    cases hin : inR with
    | true => rw [hin] at h; cases h
    | false =>
      rw [hin] at h
      simp only [cond_false] at h
      split at h
      · rename_i f first cap hg
        split at h
        · rename_i hn0 hn1
          split at h
          · rename_i u st2 hcall
            split at h
            · rename_i f1 v1 ps1 as1 bo1 sx p hl
              cases hsx : Nat.beq sx 1 with
              | true => rw [hsx] at h; cases h
              | false =>
                rw [hsx] at h
                simp only [cond_false] at h
                cases h
                obtain ⟨lc, dc, sc⟩ := hc _ _ _ _ _ hcall
                have l0 : Lk st ((st.newO .dfr).newO (.lop me env ps.toList asg body 0 .nrm)) := (Lk.new st _).trans (Lk.new _ _)
                have hnx2 : st.nx + 1 + 1 ≤ st2.nx := by have := lc.nx; simpa [St.newO] using this
                refine ⟨(l0.trans lc).trans ⟨Nat.le_refl _, fun n h1 h2 => ?_, fun n hn => by simp [hn]⟩, ?_⟩
                · have : n ≠ st.nx + 1 := fun e => h1 (by simp [e])
                  simp [Tr.get_set, this]
                · intro F hF hr κ a w Q s fr hQ
                  obtain rfl := hr rfl
                  obtain ⟨mfn, hmf, hmn⟩ := hme
                  -- the block, the record
                  have k0 : κ.ρ st.nx = none := fr st.nx (Nat.le_refl _) (by simp only; omega)
                  have k1 : κ.ρ (st.nx + 1) = none := fr (st.nx + 1) (by omega) (by simp only; omega)
                  obtain ⟨i1, f1'⟩ := inv_add (H := w.heap) s.inv (.deferred (some [])) st.nx 0 0 .dfr k0 (by unfold OB; exact push_new _ _) (fun j hj => by omega) (fun h => by omega)
                  have k1' : (κ.add st.nx w.heap.size 0 0).ρ (st.nx + 1) = none := by simp [Kap.add, k1]
                  refine wpIn_rangeFunc (fun fnx _ => ?_)
                  let rec0 : Loop := { state := .ready, pending := none, fn := fnx, tmps := a.tmps, params := ps, assign := asg, body := body, defers := w.heap.size }
                  have x2 := ext_add i1 (.loop rec0) (st.nx + 1) 0 0 k1'
                  obtain ⟨i2, f2'⟩ := inv_add i1 (.loop rec0) (st.nx + 1) 0 0 (.lop me env ps.toList asg body 0 .nrm) k1'
                    ⟨a.tmps, w.heap.size, mfn, fnx, hmf, by rw [s.size, hmn], (s.re.mono f1'.ext).mono x2, by rw [push_new]; simp [rec0, stateOf, jumpOf]⟩ (fun j hj => by omega) (fun h => by omega)
                  have f12 := f1'.trans (by omega) (by omega) f2'
                  generalize hκ2 : (κ.add st.nx w.heap.size 0 0).add (st.nx + 1) (w.heap.push (.deferred (some []))).size 0 0 = κ2 at i2 f12
                  have r0 : κ2.ρ st.nx = some w.heap.size := by rw [← hκ2]; simp [Kap.add]
                  have r1 : κ2.ρ (st.nx + 1) = some (w.heap.size + 1) := by rw [← hκ2]; simp [Kap.add]
                  have hst1 : ((st.newO .dfr).newO (.lop me env ps.toList asg body 0 .nrm)).h.get = upd (upd st.h.get st.nx (some .dfr)) (st.nx + 1) (some (.lop me env ps.toList asg body 0 .nrm)) := by
                    simp only [St.newO, get_set_upd]
                  have gv := opv_rv (κ := κ) (H := w.heap) (env := env) (a := a) g (fun t _ => s.re t)
                  rw [hg] at gv
                  generalize hge : a.eval g = gval at gv
                  cases gv with
                  | fn _ _ _ vs ws h1 h2 e1 e2 =>
                    let w2 : World := (w.alloc (.deferred (some []))).alloc (.loop rec0)
                    have hw2 : w2.heap = (w.heap.push (.deferred (some []))).push (.loop rec0) := rfl
                    have p1 : PW κ w.heap first vs.toList := ⟨by simpa using h1, fun j c u a1 a2 => e1 j c u a1 (by simpa using a2)⟩
                    have p2 : PW κ w.heap cap ws.toList := ⟨by simpa using h2, fun j c u a1 a2 => e2 j c u a1 (by simpa using a2)⟩
                    have pp : PW κ2 w2.heap (first ++ [.yld (st.nx + 1)] ++ cap) (vs ++ #[Value.func (.yield (w.heap.size + 1)) #[] #[]] ++ ws).toList := by
                      simp only [Array.toList_append]
                      exact ((p1.mono f12.ext).append (.cons (.yld _ _ r1) .nil)).append (p2.mono f12.ext)
                    have hfree : Free κ2 (st.nx + 1 + 1) st2.nx := fun n h1 h2 => by
                      rw [(f12.rho n (by omega)).1]; exact fr n (by omega) h2
                    obtain ⟨hen, hcalls⟩ := sc κ2 w2 _ pp (by rw [hst1]; exact i2) (by simpa [St.newO] using hfree)
                    refine ⟨w.heap.size + 1, [{ target := .collected w.heap.size, args := #[] }], w2, { target := .fn (.func f) ws, args := vs ++ #[.func (.yield (w.heap.size + 1)) #[] #[]] }, w2, f, vs ++ #[.func (.yield (w.heap.size + 1)) #[] #[]] ++ ws, w2, ?_, ?_, fun _ _ => trivial, ?_, fun hd => (by cases hd), ?_⟩
                    · have e1 : (w.heap.push (.deferred (some []))).size = w.heap.size + 1 := by simp
                      show Result.ok ((w.heap.push (.deferred (some []))).size, _) w2 = _
                      rw [e1]
                    · simp only [resolve, hge, Deferred.ofValue]
                      simp [Act.eval]
                    · unfold enterOk at hen
                      cases hfn : P.funcs[f]? with
                      | none => rw [hfn] at hen; cases hen
                      | some fnn =>
                        rw [hfn] at hen
                        simp only [Bool.and_eq_true, Bool.not_eq_true'] at hen
                        have hnm : ¬ fnn.name = "runtime.NumGoroutine" := by simpa using hen.2
                        have hb' : ¬ fnn.body = none := by intro e; rw [e] at hen; simp at hen
                        simp [invoke, callFunc, hfn, hnm, hb']
                    · refine WF.wide.calls (hcalls.mono ?_)
                      rintro _ w3 ⟨v', κ3, rfl, hv, hi3, hf3⟩
                      obtain ⟨b, hr3, tmps3, dfr3, fn3, fn03, q1, q2, q3, q4⟩ := hi3.obj (st.nx + 1) _ hl
                      have hns : stateOf sx ≠ .busy := by
                        have : sx ≠ 1 := by rintro rfl; cases hsx
                        match sx, this with
                        | 0, _ => simp [stateOf]
                        | 1, h => exact absurd rfl h
                        | n + 2, _ => simp [stateOf]
                      have hb : b = w.heap.size + 1 := by have := (hf3.ext.rho _ _ r1).1; rw [hr3] at this; cases this; rfl
                      subst hb
                      obtain ⟨xo, w4, run, hw4, hkp4⟩ := run_endLoop (P := P) q4 hns
                      refine ⟨jumpOf e, w4, run, ?_⟩
                      obtain ⟨i4, f4⟩ := inv_free hi3 (st.nx + 1) (w.heap.size + 1) _ (w3.heap.setIfInBounds (w.heap.size + 1) xo) hl hr3 (by simp) (by simp) (fun c hcb => heap_set_ne hcb) (hz_norow q4 rfl _) st2.nx
                      rw [← hw4] at i4 f4
                      have fall := (f12.trans (c := st2.nx) (by omega) (by omega) (by rw [hst1] at hf3; exact hf3.toFr)).trans (by omega) (Nat.le_refl _) f4
                      have key : ∀ (Q' : Exit), Q' = exitOf e → Q Q' { a with defers := [{ target := .collected w.heap.size, args := #[] }] ++ a.defers } w4 := fun Q' hq => hq ▸ hQ κ3 { a with defers := [{ target := .collected w.heap.size, args := #[] }] ++ a.defers } w4
                        ⟨s.re.mono fall.ext, s.size, .cons ((hf3.ext.rho _ _ r0).1) (by rw [dc]; exact s.dfr.mono fall.ext), by simp only [get_set_upd]; exact i4⟩ ⟨by simp only [get_set_upd]; exact fall, (show Kp w w2 from ⟨rfl, rfl⟩).trans (hf3.kp.trans hkp4)⟩
                      cases e with
                      | nrm => exact key _ rfl
                      | ext id => exact wpIn_exit (key _ rfl)
                      | ret => exact wpIn_ret (key _ rfl)
            · cases h
          · cases h
        · cases h
      · cases h
  | scope b _ => intro env st e env' st' h; simp only [evC] at h; cases h
  | label l => intro env st e env' st' h; simp only [evC] at h; cases h
  | goto l => intro env st e env' st' h; simp only [evC] at h; cases h
  | refuse w => intro env st e env' st' h; simp only [evC] at h; cases h
end
end Go.Am
