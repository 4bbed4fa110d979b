/-
  THE ABSTRACT MACHINE, PART 18: an operation, calls and all, as the walk meets it.
-/
import Derived.Test.YtiicpeidjhbhiaaGreatAm17
namespace Go.Am
open Go

def Post (P : Program) (κ : Kap) (st : St) (w : World) (v : V) (st' : St) : Ending → World → Prop := fun e w' =>
  ∃ v' κ', e = .returned v' ∧ RV κ' w'.heap v v' ∧ Inv P κ' st'.h.get w'.heap ∧ FrW κ st.h.get w κ' st'.h.get w' st.nx st'.nx

def CallOk1 (P : Program) (κ : Kap) (w : World) (args' : Array Value) (st : St) (v : V) (st' : St) : Tg → Prop
  | .f f => enterOk P f = true ∧ Calls P f args' w (Post P κ st w v st')
  | .y l => ∀ b, κ.ρ l = some b → ∃ f tmps asg body, (Instr.yield b args').run P w = .ok (.round b f tmps asg body) w ∧ RoundIn Fence.wide 0 P b f tmps asg body w (Post P κ st w v st')

/-- What is asked of whoever answers calls. -/
def CallOk (P : Program) (call : CallF) : Prop := ∀ g args st v st', call g args st = some (v, st') → Lk st st' ∧ st'.df = st.df ∧
  ∀ κ w args', PW κ w.heap args args'.toList → Inv P κ st.h.get w.heap → Free κ st.nx st'.nx → CallOk1 P κ w args' st v st' g

/-- The fences that are met: none; none, in a round. -/
inductive WF : Fence → Prop
  | wide : WF Fence.wide
  | round (l : Nat) : WF (Fence.wide.inRound l)

theorem WF.fn {F : Fence} (h : WF F) (f : FuncId) : F.fn f := by cases h <;> trivial
theorem WF.depth {F : Fence} (h : WF F) : F.depth = none := by cases h <;> rfl
theorem WF.calls {F : Fence} (h : WF F) {n : Nat} {P : Program} {f : FuncId} {args : Array Value} {w : World} {R : Ending → World → Prop} (c : Calls P f args w R) : CallsIn F n P f args w R := by
  cases h with
  | wide => exact callsIn_wide.2 c
  | round l => exact callsIn_wide.2 c
theorem WF.rounds {F : Fence} (h : WF F) {n : Nat} {P : Program} {l : Nat} {f : FuncId} {tmps : Array Value} {asg body : Code} {w : World} {R : Ending → World → Prop} (c : RoundIn Fence.wide 0 P l f tmps asg body w R) : RoundIn F n P l f tmps asg body w R := by
  have key : RoundIn Fence.wide n P l f tmps asg body w R := ⟨trivial, fun c' cs _ => c.2 c' cs (room_wide _)⟩
  cases h with
  | wide => exact key
  | round l => exact key

section
variable {P : Program} {κ : Kap} {w : World}

theorem evOp_inv {call : CallF} {mu : Bool} {o : Oper} {env : Env} {st st' : St} {v : V} {rd : List Nat} {c : Bool} (h : evOp P call mu o env st = some (v, st', rd, c)) :
    (c = false ∧ runA (opA P mu (opv env) o.op) st [] = .val v st' rd) ∨
    (c = true ∧ rd = [] ∧ ∃ cl f, o.op = .call cl ∧ cl.callee = .value f ∧
      ((∃ fn first cap, opv env f = .fn fn first cap ∧ call (.f fn) (first ++ cl.args.toList.map (opv env) ++ cap) st = some (v, st')) ∨
       (∃ l, opv env f = .yld l ∧ call (.y l) (cl.args.toList.map (opv env)) st = some (v, st')))) := by
  unfold evOp at h
  split at h
  · rename_i v0 s0 rd0 hr
    cases h
    exact .inl ⟨rfl, hr⟩
  · rename_i g args hr
    cases hi : isCallOp o with
    | false => rw [hi] at h; cases h
    | true =>
      rw [hi] at h
      simp only [cond_true] at h
      split at h
      · rename_i v0 s0 hcall
        cases h
        refine .inr ⟨rfl, rfl, ?_⟩
        unfold isCallOp at hi
        split at hi
        · rename_i cl hop
          split at hi
          · rename_i f hcl
            refine ⟨cl, f, hop, hcl, ?_⟩
            rw [hop] at hr
            simp only [opA, hcl] at hr
            split at hr
            · rename_i fn first cap hf
              simp only [runA] at hr
              cases hr
              exact .inl ⟨fn, first, cap, hf, hcall⟩
            · rename_i l hf
              simp only [runA] at hr
              cases hr
              exact .inr ⟨l, hf, hcall⟩
            · simp only [runA] at hr; cases hr
          · cases hi
        · cases hi
      · cases h
  · cases h

theorem evOp_lk {call : CallF} (hc : CallOk P call) {mu : Bool} {o : Oper} {env : Env} {st st' : St} {v : V} {rd : List Nat} {c : Bool} (h : evOp P call mu o env st = some (v, st', rd, c)) : Lk st st' ∧ st'.df = st.df := by
  rcases evOp_inv h with ⟨_, h⟩ | ⟨_, _, cl, f, _, _, ⟨_, _, _, _, h⟩ | ⟨_, _, h⟩⟩
  · obtain ⟨a, b, _⟩ := runA_lk _ _ _ _ _ _ h; exact ⟨a, b⟩
  · obtain ⟨a, b, _⟩ := hc _ _ _ _ _ h; exact ⟨a, b⟩
  · obtain ⟨a, b, _⟩ := hc _ _ _ _ _ h; exact ⟨a, b⟩

theorem evOp_env {call : CallF} {mu : Bool} {o : Oper} {env env2 : Env} {st : St} (h : ∀ x ∈ o.op.operands, opv env x = opv env2 x) : evOp P call mu o env st = evOp P call mu o env2 st := by
  unfold evOp
  rw [opA_congr o.op h]

/-- It can be run on as much of the heap as it touches. -/
theorem evOp_part {call : CallF} (hc : CallOk P call) {mu : Bool} {o : Oper} {env : Env} {st st' : St} {v : V} {rd : List Nat} {c : Bool} (h : evOp P call mu o env st = some (v, st', rd, c)) (hfree : ∀ n, st.nx ≤ n → n < st'.nx → st.h.get n = none) :
    ∃ t t', evOp P call mu o env ⟨t, st.nx, st.lg, st.df⟩ = some (v, ⟨t', st'.nx, st'.lg, st'.df⟩, rd, c) ∧
      (∀ n x, t.get n = some x → st.h.get n = some x ∧ (c = true ∨ n ∈ rd ∨ n ∈ st'.lg)) ∧ (∀ n, n ∈ st'.lg ∨ (st.nx ≤ n ∧ n < st'.nx) → t'.get n = st'.h.get n) ∧
      (∀ n, n ∉ st'.lg → (n < st.nx ∨ st'.nx ≤ n) → t'.get n = t.get n) := by
  rcases evOp_inv h with ⟨rfl, h1⟩ | ⟨rfl, _, _⟩
  · obtain ⟨t, ht⟩ := Tr.part st.h (rd ++ st'.lg)
    obtain ⟨t', a, b⟩ := runA_local (fun n => n ∈ rd ∨ n ∈ st'.lg ∨ (st.nx ≤ n ∧ n < st'.nx)) _ _ _ _ _ _ h1 (fun n hn => hn) t (fun n hn => by
      rw [ht n]
      split
      · rfl
      · rename_i hno
        rcases hn with hn | hn | hn
        · exact absurd (by simp [hn]) hno
        · exact absurd (by simp [hn]) hno
        · rw [hfree n hn.1 hn.2])
    have l := (runA_lk _ _ _ _ _ _ a).1
    refine ⟨t, t', ?_, fun n x hx => ?_, fun n hn => b n (.inr hn), fun n h1 h2 => l.same n h1 h2⟩
    · unfold evOp; rw [a]
    · rw [ht n] at hx
      split at hx
      · rename_i hm
        simp only [List.mem_append] at hm
        exact ⟨hx, .inr hm⟩
      · cases hx
  · have l := (evOp_lk hc h).1
    exact ⟨st.h, st'.h, h, fun n x hx => ⟨hx, .inl rfl⟩, fun n hn => rfl, fun n h1 h2 => l.same n h1 h2⟩

open Classical in
/-- An operation, as the walk meets it. -/
theorem evOp_sound {F : Fence} (hF : WF F) {call : CallF} (hc : CallOk P call) {mu : Bool} {o : Oper} {env : Env} {st st' : St} {v : V} {rd : List Nat} {c : Bool} (h : evOp P call mu o env st = some (v, st', rd, c)) {a : Act}
    (hρ : ∀ t, Operand.tmp t ∈ o.op.operands → RV κ w.heap (eget env t) (a.tmps.getD t undef)) (i : Inv P κ st.h.get w.heap) (f : Free κ st.nx st'.nx) {next : Act → World → Prop} {Q : Exit → Act → World → Prop}
    (hn : ∀ κ' v' w', RV κ' w'.heap v v' → Inv P κ' st'.h.get w'.heap → FrW κ st.h.get w κ' st'.h.get w' st.nx st'.nx → next (a.put o.dst v') w') : o.wpIn F 0 P a w next Q := by
  refine ⟨fun g _ => hF.fn g, ?_⟩
  have hρ' : ∀ x ∈ o.op.operands, RV κ w.heap (opv env x) (a.eval x) := fun x hx => opv_rv x (fun t ht => hρ t (ht ▸ hx))
  rcases evOp_inv h with ⟨rfl, h1⟩ | ⟨rfl, _, cl, fo, hop, hcl, hcase⟩
  · have hnd : ∀ c, o.op ≠ .defer c := fun c hd => by rw [hd] at h1; exact runA_fail h1
    rw [Oper.semAt_eq _ _ _ hnd]
    have e : opA P mu (opv env) o.op = opA P mu (fun x => if x ∈ o.op.operands.toList then opv env x else .und) o.op := opA_congr o.op (fun x hx => by rw [if_pos (by simpa using hx)])
    rw [e] at h1
    obtain ⟨κ', v', w', hr, hv, hi, hf⟩ := op_sound (P := P) (o := o) (ρ' := a.eval) h1 i (fun x => by
      split
      · rename_i hx; exact hρ' x (by simpa using hx)
      · exact .und _) f
    rcases hr with hr | ⟨hr, rfl⟩
    · rw [hr]; exact hn κ' v' w' hv hi hf
    · rw [hr]; exact hn κ' undef w' hv hi hf
  · rw [Oper.semAt_eq _ _ _ (fun c hd => by rw [hop] at hd; cases hd)]
    have hfo := hρ' fo (by rw [hop]; simp [Op.operands, Call.operands, hcl])
    have pargs : PW κ w.heap (cl.args.toList.map (opv env)) (cl.args.map a.eval).toList := by
      rw [Array.toList_map]
      exact PW.map (fun x hx => hρ' x (by rw [hop]; simp [Op.operands, Call.operands]; exact .inr (by simpa using hx)))
    have hex : execOp a.eval o = (do let d ← resolve a.eval cl o.type; invoke d.target d.args) := by
      unfold execOp; rw [hop]
    rcases hcase with ⟨fn, first, cap, hf, hcall⟩ | ⟨l, hf, hcall⟩
    · rw [hf] at hfo
      generalize hg : a.eval fo = gv at hfo
      cases hfo with
      | fn _ _ _ vs ws h1 h2 e1 e2 =>
        have p1 : PW κ w.heap first vs.toList := ⟨by simpa using h1, fun j c u a1 a2 => e1 j c u a1 (by simpa using a2)⟩
        have p2 : PW κ w.heap cap ws.toList := ⟨by simpa using h2, fun j c u a1 a2 => e2 j c u a1 (by simpa using a2)⟩
        have pp : PW κ w.heap (first ++ cl.args.toList.map (opv env) ++ cap) (vs ++ cl.args.map a.eval ++ ws).toList := by
          simp only [Array.toList_append]
          exact (p1.append pargs).append p2
        obtain ⟨_, _, hgo⟩ := hc _ _ _ _ _ hcall
        obtain ⟨hen, hcalls⟩ := hgo κ w _ pp i f
        have run : (execOp a.eval o).run P w = .ok (.enter fn (vs ++ cl.args.map a.eval ++ ws)) w := by
          rw [hex]
          unfold enterOk at hen
          cases hfn : P.funcs[fn]? with
          | none => rw [hfn] at hen; cases hen
          | some fnn =>
            rw [hfn] at hen
            simp only [Bool.and_eq_true, Bool.not_eq_true'] at hen
            have hb : fnn.body.isNone = false := by
              cases hbb : fnn.body with
              | none => rw [hbb] at hen; simp at hen
              | some _ => rfl
            have hnm : ¬ fnn.name = "runtime.NumGoroutine" := by simpa using hen.2
            have hb' : ¬ fnn.body = none := by intro e; rw [e] at hb; cases hb
            simp [resolve, hcl, hg, Deferred.ofValue, invoke, callFunc, hfn, hnm, hb']
        rw [run]
        refine ⟨fun hd => (by rw [hF.depth] at hd; cases hd), hF.calls (hcalls.mono ?_)⟩
        rintro e w' ⟨v', κ', rfl, a1, a2, a3⟩
        exact hn κ' v' w' a1 a2 a3
    · rw [hf] at hfo
      generalize hg : a.eval fo = gv at hfo
      cases hfo with
      | yld _ b hb =>
        obtain ⟨_, _, hgo⟩ := hc _ _ _ _ _ hcall
        obtain ⟨f', tmps, asg, body, hy, hround⟩ := hgo κ w _ pargs i f b hb
        have run : (execOp a.eval o).run P w = .ok (.round b f' tmps asg body) w := by
          rw [hex]
          simp [resolve, hcl, hg, Deferred.ofValue, invoke, hy]
        rw [run]
        refine ⟨fun hd => (by rw [hF.depth] at hd; cases hd), hF.rounds (hround.mono ?_)⟩
        rintro e w' ⟨v', κ', rfl, a1, a2, a3⟩
        exact hn κ' v' w' a1 a2 a3

end
end Go.Am
