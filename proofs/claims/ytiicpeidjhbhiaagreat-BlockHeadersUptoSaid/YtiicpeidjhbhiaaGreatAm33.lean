/-
  THE ABSTRACT MACHINE, PART 33: regions that draw their order, as rewriting rules; answers that tell a new list.
-/
import Derived.Test.YtiicpeidjhbhiaaGreatAm32
namespace Go.Am
open Go

section
variable {P : Program} {call : CallF} {nt : Nat} {mu : Bool}

/-- An operation's outcome, with what it read. -/
def opR (P : Program) (call : CallF) (mu : Bool) (op : Op) (env : Env) (st : St) : Option (V × St × List Nat × Bool) := match runA (opA P mu (opv env) op) st [] with
  | .val v s rd => some (v, s, rd, false)
  | .call g args => (match op with
    | .call c => (match c.callee with | .value _ => (match call g args st with | some (v, s) => some (v, s, [], true) | none => none) | _ => none)
    | _ => none)
  | .bad => none
def outR (a : Ac) (st : St) : Option (V × St × List Nat) := match runA a st [] with
  | .val v s rd => some (v, s, rd)
  | _ => none
/-- A value read of nothing. -/
def dryR (x : Option (V × St)) : Option (V × St × List Nat × Bool) := match x with
  | some (v, s) => some (v, s, [], false)
  | none => none
theorem dryR_some (v : V) (s : St) : dryR (some (v, s)) = some (v, s, [], false) := rfl
theorem dryR_ite (c : Prop) [Decidable c] (x y : Option (V × St)) : dryR (if c then x else y) = if c then dryR x else dryR y := by split <;> rfl
def wetR (x : Option (V × St × List Nat)) : Option (V × St × List Nat × Bool) := match x with
  | some (v, s, rd) => some (v, s, rd, false)
  | none => none
theorem wetR_some (v : V) (s : St) (rd : List Nat) : wetR (some (v, s, rd)) = some (v, s, rd, false) := rfl
theorem wetR_ite (c : Prop) [Decidable c] (x y : Option (V × St × List Nat)) : wetR (if c then x else y) = if c then wetR x else wetR y := by split <;> rfl

variable {env : Env} {st : St}
theorem r_of (op : Op) (h : ∀ c, op ≠ .call c) : opR P call mu op env st = wetR (outR (opA P mu (opv env) op) st) := by
  unfold opR wetR outR
  split <;> simp_all
theorem outR_ret (v : V) : outR (.ret v) st = some (v, st, []) := rfl
theorem outR_rt (v : Option V) : wetR (outR (rt v) st) = dryR (rtV v st) := by cases v <;> rfl
theorem r_move (x : Operand) : opR P call mu (.move x) env st = some (opv env x, st, [], false) := rfl
theorem r_assign (x : Operand) : opR P call mu (.assign x) env st = some (opv env x, st, [], false) := rfl
theorem r_pick (c a b : Operand) : opR P call mu (.pick c a b) env st = dryR (pickV (opv env c) (opv env a) (opv env b) st) := by
  unfold opR opA pickV
  simp only
  cases opv env c <;> rfl
theorem r_bin (op : BinOp) (t t2 : TypeId) (x y : Operand) : opR P call mu (.binOp op t x y t2) env st = dryR (rtV (binV P op t (opv env x) (opv env y)) st) := by
  rw [r_of _ (by simp)]
  simp only [opA, outR_rt]
theorem r_un (op : UnOp) (t : TypeId) (x : Operand) : opR P call mu (.unOp op t x) env st = dryR (rtV (unV op (opv env x)) st) := by
  rw [r_of _ (by simp)]
  simp only [opA, outR_rt]
theorem r_extract (t : Operand) (i : Nat) : opR P call mu (.extract t i) env st = dryR (exV (opv env t) i st) := by
  rw [r_of _ (by simp)]
  simp only [opA]
  cases opv env t <;> first | exact outR_rt _ | rfl
theorem r_load (t : TypeId) (a : Operand) : opR P call mu (.load t a) env st = wetR (outR (loadA P t (opv env a)) st) := by
  rw [r_of _ (by simp)]
  simp only [opA]
theorem r_slice (t : TypeId) (x : Operand) (lo hi mx : Option Operand) : opR P call mu (.slice t x lo hi mx) env st = wetR (outR (sliceA P t (opv env x) (lo.map (opv env)) (hi.map (opv env)) (mx.map (opv env))) st) := by
  rw [r_of _ (by simp)]
  simp only [opA]
theorem r_bi (b : Builtin) (args : Array Operand) (tys : Array TypeId) : opR P call mu (.call ⟨.builtin b, args, tys⟩) env st = wetR (outR (builtinA P mu b tys.toList (args.toList.map (opv env))) st) := by
  unfold opR outR opA wetR
  simp only
  split <;> simp_all
def callR (call : CallF) (f : V) (args : List V) (st : St) : Option (V × St × List Nat × Bool) := match callV call f args st with
  | some (v, s) => some (v, s, [], true)
  | none => none
theorem r_call (f : Operand) (args : Array Operand) (tys : Array TypeId) : opR P call mu (.call ⟨.value f, args, tys⟩) env st = callR call (opv env f) (args.toList.map (opv env)) st := by
  unfold opR callR callV opA
  simp only
  cases opv env f <;> rfl
def call2 (x : Option (V × St)) : Option (V × St × List Nat × Bool) := match x with
  | some (v, s) => some (v, s, [], true)
  | none => none
theorem callR_fn (g : Nat) (first cap args : List V) : callR call (.fn g first cap) args st = call2 (call (.f g) (first ++ args ++ cap) st) := by
  unfold callR call2
  rw [call_fn]
theorem call2_some (v : V) (s : St) : call2 (some (v, s)) = some (v, s, [], true) := rfl

/-- Loads. -/
def ldR (o : Option O) (n off : Nat) (agg : Bool) (sz : Nat) (st : St) : Option (V × St × List Nat) := match o with
  | some (.blk cs) => (match takeCells cs off agg sz with | some v => some (v, st, [n]) | none => none)
  | _ => none
def tkR (x : Option V) (n : Nat) (st : St) : Option (V × St × List Nat) := match x with | some v => some (v, st, [n]) | none => none
theorem tkR_some (v : V) (n : Nat) : tkR (some v) n st = some (v, st, [n]) := rfl
theorem ldR_some (cs : List V) (n off : Nat) (agg : Bool) (sz : Nat) : ldR (some (.blk cs)) n off agg sz st = tkR (takeCells cs off agg sz) n st := by
  show (match takeCells cs off agg sz with | some v => some (v, st, [n]) | none => none) = tkR (takeCells cs off agg sz) n st
  cases takeCells cs off agg sz <;> rfl
theorem ldr_ptr {t : TypeId} {d : TypeDesc} {sz : Nat} (hu : P.underlying t = some d) (hs : szT P t = some sz) (n off : Nat) : outR (loadA P t (.ptr n off)) st = ldR (st.h.get n) n off (isAggD d) sz st := by
  simp only [loadA, hu, hs, outR, runA, ldR]
  cases st.h.get n with
  | none => rfl
  | some o =>
    cases o <;> try rfl
    simp only
    cases takeCells _ off (isAggD d) sz <;> rfl
/-- A part of an array. -/
def arR (o : Option O) (b off n sz : Nat) (i : Int) (st : St) : Option (V × St × List Nat) := match o with
  | some (.blk cs) => if off + n * sz ≤ cs.length ∧ 0 ≤ i ∧ i ≤ n then some (.ms b off i.toNat sz (some n), st, [b]) else none
  | _ => none
theorem arR_some (cs : List V) (b off n sz : Nat) (i : Int) : arR (some (.blk cs)) b off n sz i st = if off + n * sz ≤ cs.length ∧ 0 ≤ i ∧ i ≤ n then some (.ms b off i.toNat sz (some n), st, [b]) else none := rfl
theorem arr_hi {t e : TypeId} {n sz : Nat} (hu : P.underlying t = some (.array n e)) (hs : szT P e = some sz) (b off : Nat) (k : IntKind) (i : Int) : outR (sliceA P t (.ptr b off) none (some (.int k i)) none) st = arR (st.h.get b) b off n sz i st := by
  simp only [sliceA, hu, hs, outR, runA, arR]
  cases st.h.get b with
  | none => rfl
  | some o =>
    cases o with
    | blk cs =>
      simp only [bnd]
      by_cases h1 : off + n * sz ≤ cs.length
      · have : Nat.ble (off + n * sz) cs.length = true := by simpa using h1
        simp only [this, Bool.not_true, cond_false]
        by_cases h2 : 0 ≤ i ∧ i ≤ (n : Int)
        · have : (decide (0 ≤ i) && decide (i ≤ (n : Int))) = true := by simp [h2.1, h2.2]
          simp only [this, cond_true, if_pos (show off + n * sz ≤ cs.length ∧ 0 ≤ i ∧ i ≤ (n : Int) from ⟨h1, h2⟩), Option.isSome_some, Option.isSome_none, Bool.not_false, Bool.or_true, Nat.beq_refl, Bool.true_or, Bool.and_self, runA, Nat.zero_mul, Nat.add_zero, Nat.sub_zero]
        · have : (decide (0 ≤ i) && decide (i ≤ (n : Int))) = false := by
            cases hb : (decide (0 ≤ i) && decide (i ≤ (n : Int))) with
            | false => rfl
            | true => simp only [Bool.and_eq_true, decide_eq_true_eq] at hb; exact absurd hb h2
          simp only [this, cond_false, if_neg (show ¬ (off + n * sz ≤ cs.length ∧ 0 ≤ i ∧ i ≤ (n : Int)) from fun h => h2 h.2), runA]
      · have : Nat.ble (off + n * sz) cs.length = false := by
          cases hb : Nat.ble (off + n * sz) cs.length with
          | false => rfl
          | true => exact absurd (Nat.le_of_ble_eq_true hb) h1
        simp only [this, Bool.not_false, cond_true, if_neg (show ¬ (off + n * sz ≤ cs.length ∧ 0 ≤ i ∧ i ≤ (n : Int)) from fun h => h1 h.1), runA]
    | _ => rfl
/-- Growing by what lies in memory. -/
def newR (o : Option O) (sz : Nat) (cs : List V) (len : Nat) (rd : List Nat) (st : St) : Option (V × St × List Nat) := match o with
  | none => some (.sl cs len sz (.tok st.nx sz), st.newO .buf, rd)
  | some _ => none
theorem newR_none (sz : Nat) (cs : List V) (len : Nat) (rd : List Nat) : newR none sz cs len rd st = some (.sl cs len sz (.tok st.nx sz), st.newO .buf, rd) := rfl
def apR (o : Option O) (cs : List V) (len n off m sz b : Nat) (s : V) (st : St) : Option (V × St × List Nat) := match o with
  | some (.blk xs) => if ((xs.drop off).take (m * sz)).length = m * sz then (if m = 0 then some (s, st, [n]) else if exOk (len + m) len b = true then newR (st.h.get st.nx) sz (cs ++ (xs.drop off).take (m * sz)) (len + m) [n] st else none) else none
  | _ => none
theorem apR_some (xs cs : List V) (len n off m sz b : Nat) (s : V) : apR (some (.blk xs)) cs len n off m sz b s st = if ((xs.drop off).take (m * sz)).length = m * sz then (if m = 0 then some (s, st, [n]) else if exOk (len + m) len b = true then newR (st.h.get st.nx) sz (cs ++ (xs.drop off).take (m * sz)) (len + m) [n] st else none) else none := rfl
theorem apr_ex_ms {e : TypeId} {sz b : Nat} (h : El P e sz b) (cs : List V) (len n off m : Nat) (c : Option Nat) : outR (appendA P false e (.sl cs len sz .ex) (.ms n off m sz c)) st = apR (st.h.get n) cs len n off m sz b (.sl cs len sz .ex) st := by
  obtain ⟨⟨z, h1, h2⟩, h3, h4⟩ := h
  simp only [appendA, h1, h3, h2, Nat.beq_refl, Bool.not_true, cond_false, rdMs, outR, runA, apR]
  cases hg : st.h.get n with
  | none => rfl
  | some o =>
    cases o with
    | blk xs =>
      simp only [cond_beq]
      by_cases hl : ((xs.drop off).take (m * sz)).length = m * sz
      · rw [if_pos hl, if_pos hl]
        by_cases hm : m = 0
        · rw [if_pos hm, if_pos hm]; rfl
        · rw [if_neg hm, if_neg hm]
          simp only [Bool.true_and, h4]
          cases hx : exOk (len + m) len b with
          | false => rfl
          | true =>
            simp only [cond_true, if_true, newSl, cond_false, runA, newR]
            cases st.h.get st.nx <;> rfl
      · rw [if_neg hl, if_neg hl]; rfl
    | _ => rfl
theorem apr_nil_ms {e : TypeId} {sz b : Nat} (h : El P e sz b) (n off m : Nat) (c : Option Nat) : outR (appendA P false e .snil (.ms n off m sz c)) st = apR (st.h.get n) [] 0 n off m sz b .snil st := by
  obtain ⟨⟨z, h1, h2⟩, h3, h4⟩ := h
  simp only [appendA, h1, h3, h2, Nat.beq_refl, Bool.not_true, cond_false, rdMs, outR, runA, apR]
  cases hg : st.h.get n with
  | none => rfl
  | some o =>
    cases o with
    | blk xs =>
      simp only [cond_beq]
      by_cases hl : ((xs.drop off).take (m * sz)).length = m * sz
      · rw [if_pos hl, if_pos hl]
        by_cases hm : m = 0
        · rw [if_pos hm, if_pos hm]; rfl
        · rw [if_neg hm, if_neg hm]
          simp only [h4, Nat.zero_add, List.nil_append]
          cases hx : exOk m 0 b with
          | false => rfl
          | true =>
            simp only [cond_true, if_true, newSl, cond_false, runA, newR]
            cases st.h.get st.nx <;> rfl
      · rw [if_neg hl, if_neg hl]; rfl
    | _ => rfl

theorem b_slnil {t e : TypeId} (hu : P.underlying t = some (.slice e)) (cs : List V) (l z : Nat) (cp : Cp) : binV P .eql t (.sl cs l z cp) .snil = some (.bool false) := by
  simp [binV, eqGuardOk, eqTop, eqV, hu]
theorem b_snnil {t e : TypeId} (hu : P.underlying t = some (.slice e)) : binV P .eql t .snil .snil = some (.bool true) := by
  simp [binV, eqGuardOk, eqTop, eqV, hu]
theorem b_pp {t e : TypeId} (hu : P.underlying t = some (.pointer e)) (n o : Nat) : binV P .eql t (.ptr n o) .nilp = some (.bool false) := b_pnil _ _ _ _ hu
theorem b_pq {t e : TypeId} (hu : P.underlying t = some (.pointer e)) (n o : Nat) : binV P .neq t (.ptr n o) .nilp = some (.bool true) := b_pnilN _ _ _ _ hu
theorem r_conv (s d : TypeId) (x : Operand) : opR P call mu (.convert s d x) env st = wetR (outR (convA P s d (opv env x)) st) := by
  rw [r_of _ (by simp)]
  simp only [opA]
theorem cvr_int {s d : TypeId} {k k1 : IntKind} (hs : P.underlying s = some (.int k)) (hd : P.underlying d = some (.int k1)) (k2 : IntKind) (n : Int) : outR (convA P s d (.int k2 n)) st = some (.int k1 (k1.wrap n), st, []) := by
  simp only [convA, hs, hd, outR_ret]
theorem cv_sb {s d e : TypeId} (hs : P.underlying s = some .string) (hd : P.underlying d = some (.slice e)) (he : P.underlying e = some (.int .u8)) (l : List UInt8) : out1 (convA P s d (.str l)) st = some (.sl (l.map fun b => .int .u8 b.toNat) l.length 1 .unk, st) := by
  simp only [convA, hs, hd, he, out_ret]
theorem cvr_sb {s d e : TypeId} (hs : P.underlying s = some .string) (hd : P.underlying d = some (.slice e)) (he : P.underlying e = some (.int .u8)) (l : List UInt8) : outR (convA P s d (.str l)) st = some (.sl (l.map fun b => .int .u8 b.toNat) l.length 1 .unk, st, []) := by
  simp only [convA, hs, hd, he, outR_ret]
theorem r_fa {s : TypeId} {i k ft off : Nat} {fs : Array Field} (hu : P.underlying s = some (.struct fs)) (hf : (fs[i]?).map (fun f => (f.type, f.offset)) = some (ft, off)) (hs : szT P ft = some (k + 1)) (x : Operand) :
    opR P call mu (.fieldAddr s x i) env st = dryR (rtV (addrA (opv env x) off) st) := by
  rw [r_of _ (by simp)]
  cases h : fs[i]? with
  | none => rw [h] at hf; cases hf
  | some f =>
    rw [h] at hf
    simp only [Option.map_some, Option.some.injEq, Prod.mk.injEq] at hf
    obtain ⟨h1, h2⟩ := hf
    subst h1; subst h2
    simp only [opA, hu, h, hs, outR_rt]
theorem bir_max (t : List TypeId) (k : IntKind) (a b : Int) : outR (builtinA P mu .max t [.int k a, .int k b]) st = some (.int k (if b > a then b else a), st, []) := by
  simp [builtinA, foldV, mxInt, outR, runA, rt]
theorem bir_len {t e : TypeId} (hu : P.underlying t = some (.slice e)) (x : V) : wetR (outR (builtinA P mu .len [t] [x]) st) = dryR (lenV x st) := by
  cases x <;> simp [builtinA, hu, lenV, outR, runA, wetR, dryR]
/-- Memory of its own. -/
def nwR (o : Option O) (cs : List V) (len sz : Nat) (st : St) : Option (V × St × List Nat) := match o with
  | none => some (.ms st.nx 0 len sz (some len), st.newO (.blk cs), [])
  | some _ => none
theorem nwR_none (cs : List V) (len sz : Nat) : nwR none cs len sz st = some (.ms st.nx 0 len sz (some len), st.newO (.blk cs), []) := rfl
theorem r_bsm {t e : TypeId} {sz b len : Nat} (hu : P.underlying t = some (.slice e)) (he : El P e sz b) (parts : Array (Nat × Operand)) (hl : parts.size = len ∧ len * sz ≤ 16777216 ∧ okIdx env sz 0 parts.toList = true) :
    opR P call true (.buildSlice t len parts) env st = wetR (nwR (st.h.get st.nx) (catP env parts.toList) len sz st) := by
  obtain ⟨⟨z, h1, h2⟩, h3, _⟩ := he
  obtain ⟨h4, h5, h6⟩ := hl
  rw [r_of _ (by simp)]
  have hb : Nat.ble (len * sz) 16777216 = true := by simpa using h5
  have := fill_seq env sz parts.toList 0 [] (zeros z.cells (len * sz)) (by simp) (by simp [zeros, h4]) h6
  simp only [List.nil_append] at this
  simp only [opA, hu, h3, h1, hb, cond_true, this, outR, runA, nwR]
  cases st.h.get st.nx <;> rfl
/-! ### The region -/
def dr (P : Program) (call : CallF) (nt : Nat) (mu : Bool) (all : List Oper) (ms : List Nat) (l : List Nat) (env : Env) (st : St) (rs : List Rec) : Option (Env × St) := match evDraw P call nt mu all l env st rs with
  | some (env, st, rs) => if recsOk ms rs = true then some (env, st) else none
  | none => none
theorem x_draw {ops : List Oper} {ms ord : List Nat} (hp : planOf ops = ⟨ms, ord, true⟩) : evReg P call nt mu ops.toArray true env st = dr P call nt mu ops ms ord env st [] := by
  simp only [evReg, cond_true, hp, dr]
  cases evDraw P call nt mu ops ord env st [] with
  | none => rfl
  | some x => simp only [cond_if]
theorem dr_nil (all : List Oper) (ms : List Nat) (rs : List Rec) : dr P call nt mu all ms [] env st rs = if recsOk ms rs = true then some (env, st) else none := rfl
/-- Behind an operation. -/
def drP (P : Program) (call : CallF) (nt : Nat) (mu : Bool) (all : List Oper) (ms : List Nat) (i : Nat) (d : Option Nat) (r : List Nat) (env : Env) (st : St) (rs : List Rec) (x : Option (V × St × List Nat × Bool)) : Option (Env × St) := match x with
  | some (v, st', rd, c) => (match eput nt env d v with
    | some env => dr P call nt mu all ms r env ⟨st'.h, st'.nx, st'.lg ++ st.lg, st'.df⟩ (if (c || !rd.isEmpty || !st'.lg.isEmpty || Nat.blt st.nx st'.nx) = true then ⟨i, c, rd, st'.lg, st.nx, st'.nx⟩ :: rs else rs)
    | none => none)
  | none => none
def drW (P : Program) (call : CallF) (nt : Nat) (mu : Bool) (all : List Oper) (ms : List Nat) (i : Nat) (g : Option Bool) (d : Option Nat) (op : Op) (r : List Nat) (env : Env) (st : St) (rs : List Rec) : Option (Env × St) := match g with
  | none => none
  | some false => (match eput nt env d (.tup []) with | some env => dr P call nt mu all ms r env st rs | none => none)
  | some true => drP P call nt mu all ms i d r env st rs (opR P call mu op env ⟨st.h, st.nx, [], st.df⟩)
def drO (P : Program) (call : CallF) (nt : Nat) (mu : Bool) (all : List Oper) (ms : List Nat) (i : Nat) (o : Option Oper) (r : List Nat) (env : Env) (st : St) (rs : List Rec) : Option (Env × St) := match o with
  | none => none
  | some o => drW P call nt mu all ms i (wantV all env o.guard) o.dst o.op r env st rs
theorem evOp_opR (o : Oper) (env : Env) (st : St) : evOp P call mu o env st = opR P call mu o.op env st := by
  simp only [evOp, opR]
  cases runA (opA P mu (opv env) o.op) st [] with
  | bad => rfl
  | val v s rd => rfl
  | call g args =>
    simp only [isCallOp]
    cases o.op with
    | call c =>
      cases hc : c.callee with
      | value x =>
        simp only [hc, cond_true]
        cases call g args st <;> rfl
      | builtin b => simp [hc]
      | invoke a b => simp [hc]
    | _ => rfl
theorem dr_cons (all : List Oper) (ms : List Nat) (i : Nat) (r : List Nat) (rs : List Rec) : dr P call nt mu all ms (i :: r) env st rs = drO P call nt mu all ms i all[i]? r env st rs := by
  simp only [dr, evDraw, drO]
  cases all[i]? with
  | none => rfl
  | some o =>
    simp only [drW]
    cases wantV all env o.guard with
    | none => rfl
    | some b =>
      cases b with
      | false =>
        simp only
        cases eput nt env o.dst (.tup []) with
        | none => rfl
        | some env' => rfl
      | true =>
        simp only [drP, evOp_opR]
        cases opR P call mu o.op env ⟨st.h, st.nx, [], st.df⟩ with
        | none => rfl
        | some x =>
          obtain ⟨v, st', rd, c⟩ := x
          simp only
          cases eput nt env o.dst v with
          | none => rfl
          | some env' => simp only [dr, cond_if]
theorem drO_some (all : List Oper) (ms : List Nat) (i : Nat) (d : Option Nat) (op : Op) (t : TypeId) (pos : String) (af : Array Edge) (g : Option (Nat × Bool)) (r : List Nat) (rs : List Rec) :
    drO P call nt mu all ms i (some ⟨d, op, t, pos, af, g⟩) r env st rs = drW P call nt mu all ms i (wantV all env g) d op r env st rs := rfl
theorem drW_t (all : List Oper) (ms : List Nat) (i : Nat) (d : Option Nat) (op : Op) (r : List Nat) (rs : List Rec) : drW P call nt mu all ms i (some true) d op r env st rs = drP P call nt mu all ms i d r env st rs (opR P call mu op env ⟨st.h, st.nx, [], st.df⟩) := rfl
theorem drW_f (all : List Oper) (ms : List Nat) (i d : Nat) (op : Op) (r : List Nat) (rs : List Rec) (h : d < nt) : drW P call nt mu all ms i (some false) (some d) op r env st rs = dr P call nt mu all ms r ((d, .tup []) :: env) st rs := by
  have : Nat.blt d nt = true := by simp [Nat.blt]; omega
  simp [drW, eput, this, V.force_eq]
theorem drW_ite (all : List Oper) (ms : List Nat) (i : Nat) (c : Prop) [Decidable c] (x y : Option Bool) (d : Option Nat) (op : Op) (r : List Nat) (rs : List Rec) :
    drW P call nt mu all ms i (if c then x else y) d op r env st rs = if c then drW P call nt mu all ms i x d op r env st rs else drW P call nt mu all ms i y d op r env st rs := by split <;> rfl
theorem drP_some (all : List Oper) (ms : List Nat) (i d : Nat) (r : List Nat) (rs : List Rec) (v : V) (st' : St) (rd : List Nat) (c : Bool) (h : d < nt) :
    drP P call nt mu all ms i (some d) r env st rs (some (v, st', rd, c)) = dr P call nt mu all ms r ((d, v) :: env) ⟨st'.h, st'.nx, st'.lg ++ st.lg, st'.df⟩ (if (c || !rd.isEmpty || !st'.lg.isEmpty || Nat.blt st.nx st'.nx) = true then ⟨i, c, rd, st'.lg, st.nx, st'.nx⟩ :: rs else rs) := by
  have : Nat.blt d nt = true := by simp [Nat.blt]; omega
  simp [drP, eput, this, V.force_eq]
theorem drP_none (all : List Oper) (ms : List Nat) (i : Nat) (r : List Nat) (rs : List Rec) (v : V) (st' : St) (rd : List Nat) (c : Bool) :
    drP P call nt mu all ms i none r env st rs (some (v, st', rd, c)) = dr P call nt mu all ms r env ⟨st'.h, st'.nx, st'.lg ++ st.lg, st'.df⟩ (if (c || !rd.isEmpty || !st'.lg.isEmpty || Nat.blt st.nx st'.nx) = true then ⟨i, c, rd, st'.lg, st.nx, st'.nx⟩ :: rs else rs) := by
  simp [drP, eput]
theorem drP_ite (all : List Oper) (ms : List Nat) (i : Nat) (c : Prop) [Decidable c] (d : Option Nat) (r : List Nat) (rs : List Rec) (x y : Option (V × St × List Nat × Bool)) :
    drP P call nt mu all ms i d r env st rs (if c then x else y) = if c then drP P call nt mu all ms i d r env st rs x else drP P call nt mu all ms i d r env st rs y := by split <;> rfl
end

theorem newO_lg (st : St) (o : O) : (st.newO o).lg = st.lg := rfl
theorem putO_lg (st : St) (n : Nat) (o : O) : (st.putO n o).lg = n :: st.lg := rfl
theorem delO_lg (st : St) (n : Nat) : (st.delO n).lg = n :: st.lg := rfl
theorem blt_iff (x y : Nat) : (Nat.blt x y = true) = (x < y) := by simp [Nat.blt]; rfl
/-- The operations of the region of a number. -/
def regAt : Nat → Code → Option (List Oper)
  | id, .region i ops _ => bif Nat.beq i id then some ops.toList else none
  | id, .seq a b => (match regAt id a with | some l => some l | none => regAt id b)
  | id, .cond _ a b => (match regAt id a with | some l => some l | none => regAt id b)
  | id, .block _ b => regAt id b
  | id, .loop b => regAt id b
  | id, .rangeFunc _ _ a b => (match regAt id a with | some l => some l | none => regAt id b)
  | id, .scope b => regAt id b
  | _, _ => none

/-- An answer that tells a new list. -/
def freshO (sz : Nat) (s : List V → Option (List V × Nat)) : List V → St → Option (V × St) := fun args st => match s args with
  | some (cs, len) => (match st.h.get st.nx with | none => some (.sl cs len sz (.tok st.nx sz), st.newO .buf) | some _ => none)
  | none => none

theorem freshO_some {sz : Nat} {s : List V → Option (List V × Nat)} {args cs : List V} {len : Nat} (h : s args = some (cs, len)) (st : St) (hf : st.h.get st.nx = none) : freshO sz s args st = some (.sl cs len sz (.tok st.nx sz), st.newO .buf) := by
  simp only [freshO, h, hf]

theorem fresh_small {P : Program} {orc : Nat → Option (List V → St → Option (V × St))} {f sz : Nat} {s : List V → Option (List V × Nat)}
    (h : ∀ args cs len, s args = some (cs, len) → ∃ A d st' args₀ t, evF P A orc d (.f f) args₀ ⟨.lf, 0, [], []⟩ = some (.sl cs len sz (.tok t sz), st') ∧ st'.h.get t = some .buf ∧ t < st'.nx ∧ WkL args₀ args ∧ ∀ c ∈ cs, Wk c c) :
    ∀ args st v st', freshO sz s args st = some (v, st') → Small P orc f args st v st' := by
  intro args st v st' ho
  unfold freshO at ho
  cases hs : s args with
  | none => rw [hs] at ho; cases ho
  | some u =>
    obtain ⟨cs, len⟩ := u
    rw [hs] at ho
    simp only at ho
    cases hn : st.h.get st.nx with
    | some _ => rw [hn] at ho; cases ho
    | none =>
      rw [hn] at ho
      cases ho
      obtain ⟨A, d, st', args₀, t, h1, h2, h3, h4, h5⟩ := h args cs len hs
      refine ⟨A, d, 0, ⟨.lf, 0, [], []⟩, st', args₀, _, id, 1, fun _ => t, h1, rfl, ⟨h4.1, fun i a b ha hb => wk_dn (h4.2 i a b ha hb)⟩, fun i o hi => by simp [Tr.get] at hi, fun i j hi => by simp [Tr.get] at hi,
        fun j hj => ⟨Nat.zero_le _, h3⟩, fun i j hi hj _ => by omega, fun κ₁ κ₂ H x l hx => ?_, rfl, .new _ _, rfl, fun n o hn' => ?_⟩
      · cases hx with
        | sl _ _ _ _ b o cap vs hl hs hi hv hcap he =>
          obtain ⟨q0, q1, q2, q3, m, q4, q5⟩ := hcap
          obtain ⟨w1, w2⟩ := l.new 0 (by omega) b q1
          refine .sl cs len sz _ b o cap vs hl hs (fun i hx => l.imm _ _ (hi i hx)) hv ⟨rfl, by simpa using w1, by simpa [q2] using w2, q3, m, q4, q5⟩ (fun i c v h1 h2 => h5 c (List.mem_of_getElem? h1) κ₁ κ₂ H v l.imm (he i c v h1 h2))
      · rw [newO_get] at hn'
        by_cases e : n = st.nx
        · rw [if_pos e] at hn'
          cases hn'
          refine .inr (.inl ⟨0, .buf, by omega, by simpa using e, h2, fun _ => rfl, fun κ₁ κ₂ H b l hr ho => ?_⟩)
          obtain ⟨arr, ee, a1, a2⟩ := ho
          obtain ⟨w1, w2⟩ := l.new 0 (by omega) b hr
          subst e
          exact ⟨arr, ee, a1, by have : κ₂.φ st.nx = κ₁.φ t := by simpa using w2
                                 rw [this]; exact a2⟩
        · rw [if_neg e] at hn'
          exact .inr (.inr ⟨hn', by omega, fun i hi => by simp [Tr.get] at hi⟩)
end Go.Am
namespace Go.Am
open Go
section
variable {P : Program} {st : St}
/-- A part of a list, its room bounded. -/
theorem sl_max {t e : TypeId} {sz : Nat} (hu : P.underlying t = some (.slice e)) (hs : szT P e = some sz) (cs : List V) (len : Nat) (cp : Cp) (k k' : IntKind) (i j : Int) : out1 (sliceA P t (.sl cs len sz cp) none (some (.int k i)) (some (.int k' j))) st =
    if (0 ≤ j ∧ j ≤ len) ∧ 0 ≤ i ∧ i ≤ j then some (.sl (cs.take (i.toNat * sz)) i.toNat sz (bif Nat.beq j.toNat i.toNat then .ex else .unk), st) else none := by
  simp only [sliceA, hu, hs, Nat.beq_refl, Bool.not_true, cond_false, bnd]
  by_cases h : 0 ≤ j ∧ j ≤ (len : Int)
  · have : (decide (0 ≤ j) && decide (j ≤ (len : Int))) = true := by simp [h.1, h.2]
    simp only [this, cond_true]
    by_cases h2 : 0 ≤ i ∧ i ≤ j
    · have : (decide (0 ≤ i) && decide (i ≤ (j.toNat : Int))) = true := by simp [h2.1]; omega
      simp only [this, cond_true, if_pos (show (0 ≤ j ∧ j ≤ (len : Int)) ∧ 0 ≤ i ∧ i ≤ j from ⟨h, h2⟩), Nat.zero_mul, List.drop_zero, Nat.sub_zero]
      rfl
    · have : (decide (0 ≤ i) && decide (i ≤ (j.toNat : Int))) = false := by
        cases hb : (decide (0 ≤ i) && decide (i ≤ (j.toNat : Int))) with
        | false => rfl
        | true => simp only [Bool.and_eq_true, decide_eq_true_eq] at hb; exact absurd ⟨hb.1, by omega⟩ h2
      simp only [this, cond_false, if_neg (show ¬ ((0 ≤ j ∧ j ≤ (len : Int)) ∧ 0 ≤ i ∧ i ≤ j) from fun h' => h2 h'.2)]
      rfl
  · have : (decide (0 ≤ j) && decide (j ≤ (len : Int))) = false := by
      cases hb : (decide (0 ≤ j) && decide (j ≤ (len : Int))) with
      | false => rfl
      | true => simp only [Bool.and_eq_true, decide_eq_true_eq] at hb; exact absurd hb h
    simp only [this, cond_false, if_neg (show ¬ ((0 ≤ j ∧ j ≤ (len : Int)) ∧ 0 ≤ i ∧ i ≤ j) from fun h' => h h'.1)]
    rfl
theorem sl_snil3 {t e : TypeId} {sz : Nat} (hu : P.underlying t = some (.slice e)) (hs : szT P e = some sz) (k k' : IntKind) : out1 (sliceA P t .snil none (some (.int k 0)) (some (.int k' 0))) st = some (.snil, st) := by
  simp only [sliceA, hu, hs, bnd]
  rfl
theorem room_ex {n old b : Nat} (hb : 0 < b) (hn : (2 * n + 1024) * b ≤ 281474976710656) (ho : old < n) : exOk n old b = true := by
  have h : roomOk n b = true := by
    have h1 : Nat.blt 0 b = true := by simp [Nat.blt]; omega
    have h2 : Nat.ble ((2 * n + 1024) * b) 281474976710656 = true := by simpa using hn
    simp [roomOk, h1, h2]
  obtain ⟨_, h2⟩ := roomOk_fits h ho
  have h1 : Nat.blt 0 b = true := by simp [Nat.blt]; omega
  have h3 : Nat.ble (Builtin.nextslicecap n old * b) 281474976710656 = true := by simpa using h2
  simp [exOk, h1, h3]
end
end Go.Am
