/-
  THE ABSTRACT MACHINE, PART 2: regions, code, functions.
-/
import Derived.Test.YtiicpeidjhbhiaaGreatAm1
namespace Go.Am
open Go

/-- Whom a call enters. -/
inductive Tg where
  | f (n : Nat)
  | y (l : Nat)

inductive Out where
  | val (v : V) (s : St) (rd : List Nat)
  | call (g : Tg) (args : List V)
  | bad

def runA : Ac → St → List Nat → Out
  | .fail, _, _ => .bad
  | .ret v, s, rd => .val v s rd
  | .get n k, s, rd => match s.h.get n with | some o => runA (k o) s (n :: rd) | none => .bad
  | .put n o k, s, rd => match s.h.get n with | some _ => runA k (s.putO n o) rd | none => .bad
  | .del n k, s, rd => match s.h.get n with | some _ => runA k (s.delO n) rd | none => .bad
  | .new o k, s, rd => match s.h.get s.nx with | none => runA (k s.nx) (s.newO o) rd | some _ => .bad
  | .call f args, _, _ => .call (.f f) args
  | .yld l args, _, _ => .call (.y l) args

/-- The value's head is reckoned before it is kept. -/
def V.force {α : Type} (v : V) (k : V → α) : α :=
  match v with
  | .bool b => k (.bool b)
  | .int q n => k (.int q n)
  | .str s => k (.str s)
  | .nilp => k .nilp
  | .ptr n o => k (.ptr n o)
  | .iptr c o => k (.iptr c o)
  | .snil => k .snil
  | .sl c l z p => k (.sl c l z p)
  | .ms n o l z c => k (.ms n o l z c)
  | .nilm => k .nilm
  | .map n => k (.map n)
  | .fn f a c => k (.fn f a c)
  | .yld l => k (.yld l)
  | .nilf => k .nilf
  | .agg c => k (.agg c)
  | .tup c => k (.tup c)
  | .it n => k (.it n)
  | .opq => k .opq
  | .und => k .und

theorem V.force_eq {α : Type} (v : V) (k : V → α) : v.force k = k v := by cases v <;> rfl

abbrev CallF := Tg → List V → St → Option (V × St)

def eput (nt : Nat) (env : Env) (dst : Option Nat) (v : V) : Option Env :=
  match dst with
  | none => some env
  | some d => bif Nat.blt d nt then v.force fun v => some ((d, v) :: env) else none

def wantV (all : List Oper) (env : Env) : Option (Nat × Bool) → Option Bool
  | none => some true
  | some (j, w) => match all[j]? with
    | some oj => (match oj.dst with
      | some d => (match eget env d with | .bool b => some (b == w) | .tup _ => some false | _ => none)
      | none => none)
    | none => none

/-- What an operation has touched: what it read and wrote of what was there; the names that it gave. -/
structure Rec where
  i : Nat
  isCall : Bool
  rd : List Nat
  wr : List Nat
  lo : Nat
  hi : Nat

section ev
variable (P : Program) (call : CallF) (nt : Nat) (mu : Bool)

def isCallOp (o : Oper) : Bool := match o.op with
  | .call c => (match c.callee with | .value _ => true | _ => false)
  | _ => false

/-- One operation, wanted: its value, the state, what it read, whether it called. -/
def evOp (o : Oper) (env : Env) (st : St) : Option (V × St × List Nat × Bool) :=
  match runA (opA P mu (opv env) o.op) st [] with
  | .val v s rd => some (v, s, rd, false)
  | .call f args => bif isCallOp o then (match call f args st with | some (v, s) => some (v, s, [], true) | none => none) else none
  | .bad => none

/-- A list of operations, one behind the other. -/
def evSeq (all : List Oper) : List Oper → Env → St → Option (Env × St)
  | [], env, st => some (env, st)
  | o :: r, env, st =>
    match wantV all env o.guard with
    | none => none
    | some false => (match eput nt env o.dst (.tup []) with | some env => evSeq all r env st | none => none)
    | some true => (match evOp P call mu o env st with
      | some (v, st, _, _) => (match eput nt env o.dst v with | some env => evSeq all r env st | none => none)
      | none => none)

def preds (o : Oper) : List Nat := o.after.toList.filterMap fun e => bif Region.binds .any e then some e.on else none

def maskOf (o : Oper) (acc : List Nat) : Nat := (preds o).foldl (fun s j => s ||| 2 ^ j ||| acc.getD j 0) 0

/-- For each operation, as bits: all that stands ahead of it. -/
def masks : List Oper → List Nat → List Nat
  | [], acc => acc
  | o :: r, acc => masks r (acc ++ [maskOf o acc])

def ordOf (ops : List Oper) (ms : List Nat) : List Nat :=
  let n := ops.length
  let step (acc : List Nat) (c : Nat) : List Nat :=
    let m := ms.getD c 0
    acc ++ ((List.range n).filter fun j => m.testBit j && !acc.contains j) ++ [c]
  let acc := ((List.range n).filter fun c => ((ops[c]?).map isCallOp).getD false).foldl step []
  acc ++ (List.range n).filter fun j => !acc.contains j

def hasN (d : Nat) : List Nat → Bool
  | [] => false
  | x :: r => Nat.beq d x || hasN d r

/-- Is it an order that may be? -/
def ordOk (ops : List Oper) : List Nat → List Nat → Bool
  | _, [] => true
  | done, i :: r =>
    (match ops[i]? with
    | some o => !hasN i done && (preds o).all (fun j => hasN j done)
    | none => false) && ordOk ops (i :: done) r

/-- Where an operation looks. -/
def looks (all : List Oper) (o : Oper) : List Nat :=
  (o.op.operands.toList.filterMap fun | .tmp t => some t | _ => none) ++
  (match o.guard with
   | some (g, _) => (match all[g]? with | some og => (match og.dst with | some d => [d] | none => []) | none => [])
   | none => [])

def apartB (x : Oper) (lx : List Nat) (y : Oper) (ly : List Nat) : Bool :=
  (match x.dst with
   | some d => !hasN d ly && (match y.dst with | some e => !Nat.beq d e | none => true)
   | none => true) &&
  (match y.dst with
   | some d => !hasN d lx
   | none => true)

/-- No two that may change places lay hands on the same temporaries. -/
def apartAll (ms : List Nat) : List (Oper × List Nat × Nat) → Bool
  | [] => true
  | (x, lx, i) :: r => (r.all fun (y, ly, j) => (ms.getD j 0).testBit i || apartB x lx y ly) && apartAll ms r

structure Plan where
  ms : List Nat
  ord : List Nat
  ok : Bool

def planOf (ops : List Oper) : Plan :=
  let ms := masks ops []
  let ord := ordOf ops ms
  ⟨ms, ord, ((List.range ops.length).all fun i => hasN i ord) && ordOk ops [] ord && (ops.zipIdx.all fun p => (preds p.1).all fun j => Nat.blt j p.2) &&
    apartAll ms (ops.zipIdx.map fun p => (p.1, looks ops p.1, p.2))⟩

def disj (a b : List Nat) : Bool := a.all fun x => !hasN x b

/-- Is it no name that this one gave? -/
def Rec.out (j : Rec) (n : Nat) : Bool := Nat.blt n j.lo || Nat.ble j.hi n

/-- May the later one (i) come ahead of the elder one (j)? -/
def compat (ms : List Nat) (i j : Rec) : Bool :=
  (ms.getD i.i 0).testBit j.i ||
    (bif i.isCall then false else
     i.rd.all j.out && i.wr.all j.out &&
     (bif j.isCall then i.wr.isEmpty && disj j.wr i.rd
      else disj i.wr j.rd && disj i.wr j.wr && disj j.wr i.rd))

def recsOk (ms : List Nat) : List Rec → Bool
  | [] => true
  | i :: r => (i.rd.all fun n => Nat.blt n i.hi) && (i.wr.all fun n => Nat.blt n i.hi) && r.all (compat ms i) && recsOk ms r

/-- The operations of a region that draws its order, in the plan's order. -/
def evDraw (all : List Oper) : List Nat → Env → St → List Rec → Option (Env × St × List Rec)
  | [], env, st, rs => some (env, st, rs)
  | i :: r, env, st, rs =>
    match all[i]? with
    | none => none
    | some o =>
      match wantV all env o.guard with
      | none => none
      | some false => (match eput nt env o.dst (.tup []) with | some env => evDraw all r env st rs | none => none)
      | some true => (match evOp P call mu o env ⟨st.h, st.nx, [], st.df⟩ with
        | some (v, st', rd, c) => (match eput nt env o.dst v with
          | some env => evDraw all r env ⟨st'.h, st'.nx, st'.lg ++ st.lg, st'.df⟩ (bif c || !rd.isEmpty || !st'.lg.isEmpty || Nat.blt st.nx st'.nx then ⟨i, c, rd, st'.lg, st.nx, st'.nx⟩ :: rs else rs)
          | none => none)
        | none => none)

def evReg (ops : Array Oper) (draw : Bool) (env : Env) (st : St) : Option (Env × St) :=
  let all := ops.toList
  bif draw then
    (let pl := planOf all
     bif pl.ok then (match evDraw P call nt mu all pl.ord env st [] with
      | some (env, st, rs) => bif recsOk pl.ms rs then some (env, st) else none
      | none => none) else none)
  else evSeq P call nt mu all all env st

def pruneE : List Nat → Env → Env
  | [], _ => []
  | s :: r, env => (eget env s).force fun v => (s, v) :: pruneE r env

def loopN (f : Env → St → Option (Ex × Env × St)) : Nat → Env → St → Option (Ex × Env × St)
  | 0, _, _ => none
  | n + 1, env, st => match f env st with
    | some (.nrm, env, st) => loopN f n env st
    | r => r

variable (H : Nat → Option (List Nat)) (L : Nat) (me : Nat) (inR : Bool)

def evC : Code → Env → St → Option (Ex × Env × St)
  | .skip, env, st => some (.nrm, env, st)
  | .region id ops draw, env, st => (match evReg P call nt mu ops draw env st with
    | some (env, st) => some (.nrm, (match H id with | some l => pruneE l env | none => env), st)
    | none => none)
  | .seq a b, env, st => (match evC a env st with
    | some (.nrm, env, st) => evC b env st
    | r => r)
  | .cond c t e, env, st => (match opv env c with
    | .bool b => bif b then evC t env st else evC e env st
    | _ => none)
  | .block id b, env, st => (match evC b env st with
    | some (.ext j, env, st) => bif Nat.beq j id then some (.nrm, env, st) else some (.ext j, env, st)
    | r => r)
  | .loop b, env, st => loopN (evC b) L env st
  | .exit id, env, st => some (.ext id, env, st)
  | .ret, env, st => some (.ret, env, st)
  | .rangeFunc g ps asg body, env, st => bif inR then none else (match opv env g with
    | .fn f first cap =>
      (match st.h.get st.nx, st.h.get (st.nx + 1) with
      | none, none =>
        let d := st.nx
        let l := st.nx + 1
        let st1 := (st.newO .dfr).newO (.lop me env ps.toList asg body 0 .nrm)
        (match call (.f f) (first ++ [.yld l] ++ cap) st1 with
        | some (_, st2) => (match st2.h.get l with
          | some (.lop _ _ _ _ _ s p) => bif Nat.beq s 1 then none else some (p, env, ⟨st2.h.set l none, st2.nx, l :: st2.lg, d :: st2.df⟩)
          | _ => none)
        | none => none)
      | _, _ => none)
    | _ => none)
  | _, _, _ => none

end ev

def resOne (P : Program) (env : Env) (st : St) : ResultVar → Option V
  | .tmp t => some (eget env t)
  | .cell a t => match runA (loadA P t (eget env a)) st [] with
    | .val v _ _ => some v
    | _ => none

def resAll (P : Program) (env : Env) (st : St) : List ResultVar → Option (List V)
  | [] => some []
  | r :: rs => match resOne P env st r, resAll P env st rs with
    | some v, some vs => some (v :: vs)
    | _, _ => none

def resV (P : Program) (fn : Func) (env : Env) (st : St) : Option V :=
  match resAll P env st fn.results.toList with
  | some [v] => some v
  | some vs => some (.tup vs)
  | none => none

def argEnv : Nat → List V → Env
  | _, [] => []
  | i, v :: r => v.force fun v => (i, v) :: argEnv (i + 1) r

/-- The frame's deferred calls are taken: there are none. -/
def takeDf : List Nat → St → Option St
  | [], st => some st
  | d :: r, st => match st.h.get d with
    | some .dfr => takeDf r (st.delO d)
    | _ => none

/-- What a machine is given beside the program: what lives behind each region, where memory of its own is made, how many rounds. -/
structure Aid where
  H : Nat → Nat → Option (List Nat)
  mu : Nat → Bool
  L : Nat

/-- A function's body, its callees by 'call'. -/
def evBody (P : Program) (A : Aid) (call : CallF) (f : Nat) (args : List V) (st : St) : Option (V × St) :=
  match P.funcs[f]? with
  | none => none
  | some fn => match fn.body with
    | none => none
    | some c =>
      bif Nat.ble args.length fn.ntmps then
        (match evC P call fn.ntmps (A.mu f) (A.H f) A.L f false c (argEnv 0 args) ⟨st.h, st.nx, st.lg, []⟩ with
        | some (.ext _, _, _) => none
        | some (_, env, st1) => (match takeDf st1.df st1 with
          | some st2 => (match resV P fn env st2 with | some v => some (v, ⟨st2.h, st2.nx, st2.lg, st.df⟩) | none => none)
          | none => none)
        | none => none)
      else none

/-- One round of a loop over a function. -/
def evYld (P : Program) (A : Aid) (call : CallF) (l : Nat) (args : List V) (st : St) : Option (V × St) :=
  match st.h.get l with
  | some (.lop f env ps asg body s _) =>
    (match P.funcs[f]? with
    | some fn =>
      bif Nat.beq s 0 && Nat.beq args.length ps.length && ps.all (fun t => Nat.blt t fn.ntmps) then
        (match evC P call fn.ntmps (A.mu f) (A.H f) A.L f true asg ((ps.zip args).reverse ++ env) ⟨st.h, st.nx, st.lg, []⟩ with
        | some (.nrm, env1, st1) =>
          (match st1.h.get l with
          | some (.lop f1 v1 ps1 as1 bo1 0 p1) =>
            (match evC P call fn.ntmps (A.mu f) (A.H f) A.L f true body env1 ⟨st1.h.set l (some (.lop f1 v1 ps1 as1 bo1 1 p1)), st1.nx, l :: st1.lg, st1.df⟩ with
            | some (e, _, st2) => (match st2.h.get l with
              | some (.lop f2 v2 ps2 as2 bo2 1 _) =>
                  (match e with
                  | .nrm => some (.bool true, ⟨st2.h.set l (some (.lop f2 v2 ps2 as2 bo2 0 .nrm)), st2.nx, l :: st2.lg, st.df⟩)
                  | e => some (.bool false, ⟨st2.h.set l (some (.lop f2 v2 ps2 as2 bo2 2 e)), st2.nx, l :: st2.lg, st.df⟩))
              | _ => none)
            | none => none)
          | _ => none)
        | _ => none)
      else none
    | none => none)
  | _ => none

/-- May it be entered? -/
def enterOk (P : Program) (f : Nat) : Bool :=
  match P.funcs[f]? with
  | some fn => fn.body.isSome && !(fn.name == "runtime.NumGoroutine")
  | none => false

/-- A function, its callees by their own bodies, d levels deep. -/
def evF (P : Program) (A : Aid) (orc : Nat → Option (List V → St → Option (V × St))) : Nat → CallF
  | 0, _, _, _ => none
  | d + 1, .f f, args, st =>
    bif enterOk P f then
      (match orc f with
      | some o => o args st
      | none => evBody P A (evF P A orc d) f args st)
    else none
  | d + 1, .y l, args, st => evYld P A (evF P A orc d) l args st

end Go.Am
