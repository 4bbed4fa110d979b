/-
  THE ABSTRACT MACHINE, PART 29: its steps as rewriting rules, for runs over values that are not known.
-/
import Derived.Test.YtiicpeidjhbhiaaGreatAm28
namespace Go.Am
open Go

/-- What is asked of an outcome. -/
def post (r : Option (V × St)) (Q : V → St → Prop) : Prop := match r with
  | some (v, s) => Q v s
  | none => False
def postC (r : Option (Ex × Env × St)) (Q : Ex → Env → St → Prop) : Prop := match r with
  | some (e, env, s) => Q e env s
  | none => False

theorem post_some (v : V) (s : St) (Q : V → St → Prop) : post (some (v, s)) Q = Q v s := rfl
theorem postC_some (e : Ex) (env : Env) (s : St) (Q : Ex → Env → St → Prop) : postC (some (e, env, s)) Q = Q e env s := rfl
theorem post_ite (c : Prop) [Decidable c] (a b : Option (V × St)) (Q : V → St → Prop) : post (if c then a else b) Q = if c then post a Q else post b Q := by split <;> rfl
theorem postC_ite (c : Prop) [Decidable c] (a b : Option (Ex × Env × St)) (Q : Ex → Env → St → Prop) : postC (if c then a else b) Q = if c then postC a Q else postC b Q := by split <;> rfl
theorem post_ex {r : Option (V × St)} {Q : V → St → Prop} (h : post r Q) : ∃ v s, r = some (v, s) ∧ Q v s := by
  cases r with
  | none => exact h.elim
  | some x => exact ⟨x.1, x.2, rfl, h⟩
theorem postC_ex {r : Option (Ex × Env × St)} {Q : Ex → Env → St → Prop} (h : postC r Q) : ∃ e env s, r = some (e, env, s) ∧ Q e env s := by
  cases r with
  | none => exact h.elim
  | some x => exact ⟨x.1, x.2.1, x.2.2, rfl, h⟩
theorem post_mono {r : Option (V × St)} {Q R : V → St → Prop} (h : post r Q) (hq : ∀ v s, Q v s → R v s) : post r R := by
  cases r with
  | none => exact h.elim
  | some x => exact hq _ _ h
theorem postC_mono {r : Option (Ex × Env × St)} {Q R : Ex → Env → St → Prop} (h : postC r Q) (hq : ∀ e env s, Q e env s → R e env s) : postC r R := by
  cases r with
  | none => exact h.elim
  | some x => exact hq _ _ _ h

section
variable {P : Program} {call : CallF} {nt : Nat} {mu : Bool} {H : Nat → Option (List Nat)} {L me : Nat} {inR : Bool}

/-- What comes behind. -/
def thenC (P : Program) (call : CallF) (nt : Nat) (mu : Bool) (H : Nat → Option (List Nat)) (L me : Nat) (inR : Bool) (r : Option (Ex × Env × St)) (b : Code) : Option (Ex × Env × St) := match r with
  | some (.nrm, env, st) => evC P call nt mu H L me inR b env st
  | r => r
def condC (P : Program) (call : CallF) (nt : Nat) (mu : Bool) (H : Nat → Option (List Nat)) (L me : Nat) (inR : Bool) (v : V) (t e : Code) (env : Env) (st : St) : Option (Ex × Env × St) := match v with
  | .bool b => bif b then evC P call nt mu H L me inR t env st else evC P call nt mu H L me inR e env st
  | _ => none
def blockC (id : Nat) (r : Option (Ex × Env × St)) : Option (Ex × Env × St) := match r with
  | some (.ext j, env, st) => bif Nat.beq j id then some (.nrm, env, st) else some (.ext j, env, st)
  | r => r
/-- Behind a region. -/
def regC (l : Option (List Nat)) (r : Option (Env × St)) : Option (Ex × Env × St) := match r with
  | some (env, st) => some (.nrm, (match l with | some l => pruneE l env | none => env), st)
  | none => none

theorem x_skip (env : Env) (st : St) : evC P call nt mu H L me inR .skip env st = some (.nrm, env, st) := rfl
theorem x_seq (a b : Code) (env : Env) (st : St) : evC P call nt mu H L me inR (.seq a b) env st = thenC P call nt mu H L me inR (evC P call nt mu H L me inR a env st) b := by
  simp only [evC, thenC]; split <;> simp_all
theorem x_cond (c : Operand) (t e : Code) (env : Env) (st : St) : evC P call nt mu H L me inR (.cond c t e) env st = condC P call nt mu H L me inR (opv env c) t e env st := by
  simp only [evC, condC]; cases opv env c <;> rfl
theorem x_block (id : Nat) (b : Code) (env : Env) (st : St) : evC P call nt mu H L me inR (.block id b) env st = blockC id (evC P call nt mu H L me inR b env st) := by
  simp only [evC, blockC]; split <;> simp_all
theorem x_loop (b : Code) (env : Env) (st : St) : evC P call nt mu H L me inR (.loop b) env st = loopN (evC P call nt mu H L me inR b) L env st := by simp only [evC]
theorem x_exit (id : Nat) (env : Env) (st : St) : evC P call nt mu H L me inR (.exit id) env st = some (.ext id, env, st) := by simp only [evC]
theorem x_ret (env : Env) (st : St) : evC P call nt mu H L me inR .ret env st = some (.ret, env, st) := by simp only [evC]
theorem x_region (id : Nat) (ops : Array Oper) (draw : Bool) (env : Env) (st : St) : evC P call nt mu H L me inR (.region id ops draw) env st = regC (H id) (evReg P call nt mu ops draw env st) := by
  simp only [evC, regC]; cases evReg P call nt mu ops draw env st <;> rfl

theorem then_nrm (b : Code) (env : Env) (st : St) : thenC P call nt mu H L me inR (some (.nrm, env, st)) b = evC P call nt mu H L me inR b env st := rfl
theorem then_ext (b : Code) (id : Nat) (env : Env) (st : St) : thenC P call nt mu H L me inR (some (.ext id, env, st)) b = some (.ext id, env, st) := rfl
theorem then_ret (b : Code) (env : Env) (st : St) : thenC P call nt mu H L me inR (some (.ret, env, st)) b = some (.ret, env, st) := rfl
theorem then_ite (c : Prop) [Decidable c] (x y : Option (Ex × Env × St)) (b : Code) : thenC P call nt mu H L me inR (if c then x else y) b = if c then thenC P call nt mu H L me inR x b else thenC P call nt mu H L me inR y b := by split <;> rfl
theorem cond_t (t e : Code) (env : Env) (st : St) : condC P call nt mu H L me inR (.bool true) t e env st = evC P call nt mu H L me inR t env st := rfl
theorem cond_f (t e : Code) (env : Env) (st : St) : condC P call nt mu H L me inR (.bool false) t e env st = evC P call nt mu H L me inR e env st := rfl
theorem cond_b (b : Bool) (t e : Code) (env : Env) (st : St) : condC P call nt mu H L me inR (.bool b) t e env st = if b = true then evC P call nt mu H L me inR t env st else evC P call nt mu H L me inR e env st := by cases b <;> rfl
theorem block_nrm (id : Nat) (env : Env) (st : St) : blockC id (some (.nrm, env, st)) = some (.nrm, env, st) := rfl
theorem block_ret (id : Nat) (env : Env) (st : St) : blockC id (some (.ret, env, st)) = some (.ret, env, st) := rfl
theorem block_ext (id j : Nat) (env : Env) (st : St) : blockC id (some (.ext j, env, st)) = if j = id then some (.nrm, env, st) else some (.ext j, env, st) := by
  simp only [blockC]
  by_cases h : j = id
  · subst h; simp
  · have : Nat.beq j id = false := by
      cases hb : Nat.beq j id with
      | false => rfl
      | true => exact absurd (Nat.eq_of_beq_eq_true hb) h
    simp [this, h]
theorem block_ite (c : Prop) [Decidable c] (x y : Option (Ex × Env × St)) (id : Nat) : blockC id (if c then x else y) = if c then blockC id x else blockC id y := by split <;> rfl
theorem reg_some (l : List Nat) (env : Env) (st : St) : regC (some l) (some (env, st)) = some (.nrm, pruneE l env, st) := rfl
theorem reg_none (env : Env) (st : St) : regC none (some (env, st)) = some (.nrm, env, st) := rfl
theorem reg_ite (c : Prop) [Decidable c] (x y : Option (Env × St)) (l : Option (List Nat)) : regC l (if c then x else y) = if c then regC l x else regC l y := by split <;> rfl
theorem prune_nil (env : Env) : pruneE [] env = [] := rfl
theorem prune_cons (s : Nat) (r : List Nat) (env : Env) : pruneE (s :: r) env = (s, eget env s) :: pruneE r env := by simp only [pruneE, V.force_eq]

/-- A region, one operation behind the other. -/
theorem x_reg (ops : List Oper) (env : Env) (st : St) : evReg P call nt mu ops.toArray false env st = evSeq P call nt mu ops ops env st := rfl

/-- An operation's outcome. -/
def op1 (P : Program) (call : CallF) (mu : Bool) (op : Op) (env : Env) (st : St) : Option (V × St) := match runA (opA P mu (opv env) op) st [] with
  | .val v s _ => some (v, s)
  | .call g args => (match op with
    | .call c => (match c.callee with | .value _ => call g args st | _ => none)
    | _ => none)
  | .bad => none

def putD (P : Program) (call : CallF) (nt : Nat) (mu : Bool) (all : List Oper) (d : Option Nat) (r : List Oper) (env : Env) (x : Option (V × St)) : Option (Env × St) := match x with
  | some (v, st) => (match d with
    | none => evSeq P call nt mu all r env st
    | some d => bif Nat.blt d nt then evSeq P call nt mu all r ((d, v) :: env) st else none)
  | none => none

def grd (P : Program) (call : CallF) (nt : Nat) (mu : Bool) (all : List Oper) (g : Option Bool) (d : Option Nat) (op : Op) (r : List Oper) (env : Env) (st : St) : Option (Env × St) := match g with
  | some true => putD P call nt mu all d r env (op1 P call mu op env st)
  | some false => (match d with
    | none => evSeq P call nt mu all r env st
    | some d => bif Nat.blt d nt then evSeq P call nt mu all r ((d, .tup []) :: env) st else none)
  | none => none

theorem s_nil (all : List Oper) (env : Env) (st : St) : evSeq P call nt mu all [] env st = some (env, st) := rfl
theorem s_cons (all : List Oper) (d : Option Nat) (op : Op) (t : TypeId) (pos : String) (af : Array Edge) (g : Option (Nat × Bool)) (r : List Oper) (env : Env) (st : St) :
    evSeq P call nt mu all (⟨d, op, t, pos, af, g⟩ :: r) env st = grd P call nt mu all (wantV all env g) d op r env st := by
  simp only [evSeq, grd]
  cases wantV all env g with
  | none => rfl
  | some b =>
    cases b with
    | false =>
      simp only [eput]
      cases d with
      | none => rfl
      | some d => cases hb : Nat.blt d nt <;> simp [V.force_eq, hb]
    | true =>
      simp only [evOp, op1, putD]
      cases hr : runA (opA P mu (opv env) op) st [] with
      | bad => rfl
      | val v s rd =>
        simp only [eput]
        cases d with
        | none => rfl
        | some d => cases hb : Nat.blt d nt <;> simp [V.force_eq, hb]
      | call g args =>
        simp only
        cases g with
        | f f =>
          simp only [isCallOp]
          cases op with
          | call c =>
            cases hc : c.callee with
            | value x =>
              simp only [hc, cond_true]
              cases call (.f f) args st with
              | none => rfl
              | some x =>
                simp only [eput]
                cases d with
                | none => rfl
                | some d => cases hb : Nat.blt d nt <;> simp [V.force_eq, hb]
            | builtin b => simp [hc]
            | invoke a b => simp [hc]
          | _ => rfl
        | y l =>
          simp only [isCallOp]
          cases op with
          | call c =>
            cases hc : c.callee with
            | value x =>
              simp only [hc, cond_true]
              cases call (.y l) args st with
              | none => rfl
              | some x =>
                simp only [eput]
                cases d with
                | none => rfl
                | some d => cases hb : Nat.blt d nt <;> simp [V.force_eq, hb]
            | builtin b => simp [hc]
            | invoke a b => simp [hc]
          | _ => rfl

theorem w_none (all : List Oper) (env : Env) : wantV all env none = some true := rfl
theorem g_t (all : List Oper) (d : Option Nat) (op : Op) (r : List Oper) (env : Env) (st : St) : grd P call nt mu all (some true) d op r env st = putD P call nt mu all d r env (op1 P call mu op env st) := rfl
theorem g_f (all : List Oper) (d : Nat) (op : Op) (r : List Oper) (env : Env) (st : St) (h : d < nt) : grd P call nt mu all (some false) (some d) op r env st = evSeq P call nt mu all r ((d, .tup []) :: env) st := by
  have : Nat.blt d nt = true := by simp [Nat.blt]; omega
  simp [grd, this]
theorem g_fn (all : List Oper) (op : Op) (r : List Oper) (env : Env) (st : St) : grd P call nt mu all (some false) none op r env st = evSeq P call nt mu all r env st := rfl
theorem g_ite (all : List Oper) (c : Prop) [Decidable c] (x y : Option Bool) (d : Option Nat) (op : Op) (r : List Oper) (env : Env) (st : St) :
    grd P call nt mu all (if c then x else y) d op r env st = if c then grd P call nt mu all x d op r env st else grd P call nt mu all y d op r env st := by split <;> rfl
theorem p_some (all : List Oper) (d : Nat) (r : List Oper) (env : Env) (v : V) (st : St) (h : d < nt) : putD P call nt mu all (some d) r env (some (v, st)) = evSeq P call nt mu all r ((d, v) :: env) st := by
  have : Nat.blt d nt = true := by simp [Nat.blt]; omega
  simp [putD, this]
theorem p_none (all : List Oper) (r : List Oper) (env : Env) (v : V) (st : St) : putD P call nt mu all none r env (some (v, st)) = evSeq P call nt mu all r env st := rfl
theorem p_ite (all : List Oper) (c : Prop) [Decidable c] (d : Option Nat) (r : List Oper) (env : Env) (x y : Option (V × St)) :
    putD P call nt mu all d r env (if c then x else y) = if c then putD P call nt mu all d r env x else putD P call nt mu all d r env y := by split <;> rfl

/-- A guard that looks at a bool. -/
def wantD (v : V) (w : Bool) : Option Bool := match v with
  | .bool b => some (b == w)
  | .tup _ => some false
  | _ => none
theorem w_some (all : List Oper) (env : Env) (j : Nat) (w : Bool) (o : Oper) (d : Nat) (h : all[j]? = some o) (hd : o.dst = some d) : wantV all env (some (j, w)) = wantD (eget env d) w := by
  simp only [wantV, h, hd, wantD]; cases eget env d <;> rfl
def wantO (o : Option Oper) (env : Env) (w : Bool) : Option Bool := match o with
  | some o => (match o.dst with | some d => wantD (eget env d) w | none => none)
  | none => none
theorem wO (all : List Oper) (env : Env) (j : Nat) (w : Bool) : wantV all env (some (j, w)) = wantO all[j]? env w := by
  simp only [wantV, wantO]
  cases all[j]? with
  | none => rfl
  | some o => cases o.dst with
    | none => rfl
    | some d => simp only [wantD]; cases eget env d <;> rfl
theorem wO_some (d : Nat) (op : Op) (t : TypeId) (pos : String) (af : Array Edge) (g : Option (Nat × Bool)) (env : Env) (w : Bool) : wantO (some ⟨some d, op, t, pos, af, g⟩) env w = wantD (eget env d) w := rfl
theorem wd_t (w : Bool) : wantD (.bool true) w = some w := by cases w <;> rfl
theorem wd_f (w : Bool) : wantD (.bool false) w = some (!w) := by cases w <;> rfl
theorem wd_tup (w : Bool) (l : List V) : wantD (.tup l) w = some false := rfl
theorem wd_bt (b : Bool) : wantD (.bool b) true = if b = true then some true else some false := by cases b <;> rfl
theorem wd_bf (b : Bool) : wantD (.bool b) false = if b = true then some false else some true := by cases b <;> rfl

theorem eget_hit (n : Nat) (v : V) (e : Env) : eget ((n, v) :: e) n = v := by simp [eget]
theorem eget_miss (k n : Nat) (v : V) (e : Env) (h : k ≠ n) : eget ((k, v) :: e) n = eget e n := by
  have : Nat.beq k n = false := by
    cases hb : Nat.beq k n with
    | false => rfl
    | true => exact absurd (Nat.eq_of_beq_eq_true hb) h
  simp [eget, this]
theorem v_tmp (env : Env) (t : Nat) : opv env (.tmp t) = eget env t := rfl
theorem v_fn (env : Env) (f : Nat) : opv env (.func f) = .fn f [] [] := rfl
theorem v_bool (env : Env) (b : Bool) : opv env (.const (.bool b)) = .bool b := rfl
theorem v_int (env : Env) (k : IntKind) (n : Int) : opv env (.const (.int k n)) = .int k n := rfl
theorem v_str (env : Env) (s : ByteArray) : opv env (.const (.string s)) = .str s.data.toList := rfl
theorem v_nilp (env : Env) : opv env (.const (.pointer none)) = .nilp := rfl
theorem v_snil (env : Env) : opv env (.const (.slice none 0 0)) = .snil := rfl
theorem v_nilm (env : Env) : opv env (.const (.map none)) = .nilm := rfl
theorem v_nilf (env : Env) : opv env (.const .nilFunc) = .nilf := rfl
theorem v_agg (env : Env) (a : Array Value) : opv env (.const (.agg a)) = .agg (a.toList.map ofSc) := rfl

/-- What an answer without a heap comes to. -/
def rtV (x : Option V) (st : St) : Option (V × St) := match x with
  | some v => some (v, st)
  | none => none
theorem rtV_some (v : V) (st : St) : rtV (some v) st = some (v, st) := rfl
theorem rtV_ite (c : Prop) [Decidable c] (x y : Option V) (st : St) : rtV (if c then x else y) st = if c then rtV x st else rtV y st := by split <;> rfl
/-- What an answer comes to. -/
def out1 (a : Ac) (st : St) : Option (V × St) := match runA a st [] with
  | .val v s _ => some (v, s)
  | _ => none
theorem runA_ignore : ∀ (a : Ac) (st : St) (rd rd' : List Nat), (match runA a st rd with | .val v s _ => some (v, s) | _ => none) = (match runA a st rd' with | .val v s _ => some (v, s) | _ => none) := by
  intro a
  induction a with
  | fail => intros; rfl
  | ret v => intros; rfl
  | get n k ih => intro st rd rd'; simp only [runA]; cases st.h.get n with
    | none => rfl
    | some o => exact ih o st _ _
  | put n o k ih => intro st rd rd'; simp only [runA]; cases st.h.get n with
    | none => rfl
    | some _ => exact ih _ _ _
  | del n k ih => intro st rd rd'; simp only [runA]; cases st.h.get n with
    | none => rfl
    | some _ => exact ih _ _ _
  | new o k ih => intro st rd rd'; simp only [runA]; cases st.h.get st.nx with
    | none => exact ih _ _ _ _
    | some _ => rfl
  | call f args => intros; rfl
  | yld l args => intros; rfl
theorem out_ret (v : V) (st : St) : out1 (.ret v) st = some (v, st) := rfl
theorem out_rt (v : Option V) (st : St) : out1 (rt v) st = rtV v st := by cases v <;> rfl
theorem out_get (n : Nat) (k : O → Ac) (st : St) (o : O) (h : st.h.get n = some o) : out1 (.get n k) st = out1 (k o) st := by
  simp only [out1, runA, h]; exact runA_ignore _ _ _ _
theorem out_put (n : Nat) (o o' : O) (k : Ac) (st : St) (h : st.h.get n = some o') : out1 (.put n o k) st = out1 k (st.putO n o) := by simp only [out1, runA, h]
theorem out_del (n : Nat) (o' : O) (k : Ac) (st : St) (h : st.h.get n = some o') : out1 (.del n k) st = out1 k (st.delO n) := by simp only [out1, runA, h]
theorem out_new (o : O) (k : Nat → Ac) (st : St) (h : st.h.get st.nx = none) : out1 (.new o k) st = out1 (k st.nx) (st.newO o) := by simp only [out1, runA, h]
theorem out_ite (c : Prop) [Decidable c] (a b : Ac) (st : St) : out1 (if c then a else b) st = if c then out1 a st else out1 b st := by split <;> rfl
theorem out_cond (c : Bool) (a b : Ac) (st : St) : out1 (bif c then a else b) st = if c = true then out1 a st else out1 b st := by cases c <;> rfl
theorem op_of (op : Op) (env : Env) (st : St) (h : ∀ c, op ≠ .call c) : op1 P call mu op env st = out1 (opA P mu (opv env) op) st := by
  unfold op1 out1
  split <;> simp_all

/-- A call of a function's value. -/
def callV (call : CallF) (f : V) (args : List V) (st : St) : Option (V × St) := match f with
  | .fn g first cap => call (.f g) (first ++ args ++ cap) st
  | .yld l => call (.y l) args st
  | _ => none
theorem call_fn (g : Nat) (first cap args : List V) (st : St) : callV call (.fn g first cap) args st = call (.f g) (first ++ args ++ cap) st := rfl
end
end Go.Am
