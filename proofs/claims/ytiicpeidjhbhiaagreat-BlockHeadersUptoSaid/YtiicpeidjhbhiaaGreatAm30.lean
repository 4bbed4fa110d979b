/-
  THE ABSTRACT MACHINE, PART 30: each operation's rewriting rule.
-/
import Derived.Test.YtiicpeidjhbhiaaGreatAm29
namespace Go.Am
open Go

section
variable {P : Program} {call : CallF} {mu : Bool} {env : Env} {st : St}

theorem o_move (x : Operand) : op1 P call mu (.move x) env st = some (opv env x, st) := rfl
theorem o_assign (x : Operand) : op1 P call mu (.assign x) env st = some (opv env x, st) := rfl
/-- Picked. -/
def pickV (c a b : V) (st : St) : Option (V × St) := match c with
  | .bool t => some (bif t then a else b, st)
  | _ => none
theorem o_pick (c a b : Operand) : op1 P call mu (.pick c a b) env st = pickV (opv env c) (opv env a) (opv env b) st := by
  unfold op1 opA pickV
  simp only
  cases opv env c <;> rfl
theorem pick_t (a b : V) : pickV (.bool true) a b st = some (a, st) := rfl
theorem pick_f (a b : V) : pickV (.bool false) a b st = some (b, st) := rfl
theorem pick_b (c : Bool) (a b : V) : pickV (.bool c) a b st = if c = true then some (a, st) else some (b, st) := by cases c <;> rfl
theorem pick_bool (c a b : Bool) : pickV (.bool c) (.bool a) (.bool b) st = some (.bool (bif c then a else b), st) := by cases c <;> rfl

theorem o_alloc (t : TypeId) (z : V) (h : zrT P t = some z) (hn : st.h.get st.nx = none) : op1 P call mu (.alloc t) env st = some (.ptr st.nx 0, st.newO (.blk z.cells)) := by
  rw [op_of _ _ _ (by simp)]
  simp only [opA, h]
  rw [out_new _ _ _ hn]; rfl
theorem o_box (t : TypeId) (x : Operand) (hf : (opv env x).flat = true) (hn : st.h.get st.nx = none) : op1 P call mu (.box t x) env st = some (.ptr st.nx 0, st.newO (.blk (opv env x).cells)) := by
  rw [op_of _ _ _ (by simp)]
  simp only [opA, hf, cond_true]
  rw [out_new _ _ _ hn]; rfl
theorem o_build (t : TypeId) (parts : Array (Nat × Operand)) : op1 P call mu (.build t parts) env st = rtV (buildV P t (parts.toList.map fun p => (p.1, opv env p.2))) st := by
  rw [op_of _ _ _ (by simp)]
  simp only [opA, out_rt]
theorem o_bin (op : BinOp) (t t2 : TypeId) (x y : Operand) : op1 P call mu (.binOp op t x y t2) env st = rtV (binV P op t (opv env x) (opv env y)) st := by
  rw [op_of _ _ _ (by simp)]
  simp only [opA, out_rt]
theorem o_un (op : UnOp) (t : TypeId) (x : Operand) : op1 P call mu (.unOp op t x) env st = rtV (unV op (opv env x)) st := by
  rw [op_of _ _ _ (by simp)]
  simp only [opA, out_rt]
theorem o_conv (s d : TypeId) (x : Operand) : op1 P call mu (.convert s d x) env st = out1 (convA P s d (opv env x)) st := by
  rw [op_of _ _ _ (by simp)]
  simp only [opA]
theorem o_load (t : TypeId) (a : Operand) : op1 P call mu (.load t a) env st = out1 (loadA P t (opv env a)) st := by
  rw [op_of _ _ _ (by simp)]
  simp only [opA]
theorem o_store (t : TypeId) (a v : Operand) : op1 P call mu (.store t a v) env st = out1 (storeA P t (opv env a) (opv env v)) st := by
  rw [op_of _ _ _ (by simp)]
  simp only [opA]
theorem o_mkfn (f : Nat) (a b : Array Operand) : op1 P call mu (.makeFunc (.func f) a b) env st = some (.fn f (a.toList.map (opv env)) (b.toList.map (opv env)), st) := rfl
theorem o_slice (t : TypeId) (x : Operand) (lo hi mx : Option Operand) : op1 P call mu (.slice t x lo hi mx) env st = out1 (sliceA P t (opv env x) (lo.map (opv env)) (hi.map (opv env)) (mx.map (opv env))) st := by
  rw [op_of _ _ _ (by simp)]
  simp only [opA]

def nilck (v : V) (st : St) : Option (V × St) := match v with
  | .ptr n o => some (.ptr n o, st)
  | .iptr c o => some (.iptr c o, st)
  | .fn f a c => some (.fn f a c, st)
  | .yld l => some (.yld l, st)
  | _ => none
theorem o_nilck (x : Operand) : op1 P call mu (.nilCheck x) env st = nilck (opv env x) st := by
  rw [op_of _ _ _ (by simp)]
  simp only [opA, nilck]
  cases opv env x <;> rfl
theorem nilck_ptr (n o : Nat) : nilck (.ptr n o) st = some (.ptr n o, st) := rfl
theorem nilck_iptr (c : List V) (o : Nat) : nilck (.iptr c o) st = some (.iptr c o, st) := rfl

theorem o_faddr (s : TypeId) (x : Operand) (i : Nat) (fs : Array Field) (f : Field) (k : Nat) (hu : P.underlying s = some (.struct fs)) (hf : fs[i]? = some f) (hs : szT P f.type = some (k + 1)) :
    op1 P call mu (.fieldAddr s x i) env st = rtV (addrA (opv env x) f.offset) st := by
  rw [op_of _ _ _ (by simp)]
  simp only [opA, hu, hf, hs, out_rt]
theorem addr_ptr (n o d : Nat) : addrA (.ptr n o) d = some (.ptr n (o + d)) := rfl
theorem addr_iptr (c : List V) (o d : Nat) : addrA (.iptr c o) d = some (.iptr c (o + d)) := rfl
theorem o_field (s : TypeId) (x : Operand) (i : Nat) (fs : Array Field) (f : Field) (cs : List V) (hu : P.underlying s = some (.struct fs)) (hx : opv env x = .agg cs) (hf : fs[i]? = some f) :
    op1 P call mu (.field s x i) env st = rtV (partV P f.type cs f.offset) st := by
  rw [op_of _ _ _ (by simp)]
  simp only [opA, hu, hx, hf, out_rt]
theorem o_extract (t : Operand) (i : Nat) (vs : List V) (h : opv env t = .tup vs) : op1 P call mu (.extract t i) env st = rtV vs[i]? st := by
  rw [op_of _ _ _ (by simp)]
  simp only [opA, h, out_rt]

/-- The address of a list's element. -/
def idxS (sz : Nat) (x : V) (i : Int) : Ac := match x with
  | .sl cs len sz' _ => bif Nat.beq sz sz' && decide (0 ≤ i) && decide (i < len) then .ret (.iptr cs (i.toNat * sz)) else .fail
  | .ms n off len sz' _ => bif Nat.beq sz sz' && decide (0 ≤ i) && decide (i < len) then .ret (.ptr n (off + i.toNat * sz)) else .fail
  | _ => .fail
theorem o_iaddrS (t : TypeId) (x i : Operand) (e : TypeId) (sz : Nat) (k : IntKind) (n : Int) (hu : P.underlying t = some (.slice e)) (hs : szT P e = some sz) (hi : opv env i = .int k n) :
    op1 P call mu (.indexAddr t x i) env st = out1 (idxS sz (opv env x) n) st := by
  rw [op_of _ _ _ (by simp)]
  simp only [opA, hu, hs, hi, idxS]
  cases opv env x <;> rfl
theorem o_iaddrA (t : TypeId) (x i : Operand) (len : Nat) (e : TypeId) (sz : Nat) (k : IntKind) (n : Int) (hu : P.underlying t = some (.array len e)) (hs : szT P e = some sz) (hi : opv env i = .int k n) :
    op1 P call mu (.indexAddr t x i) env st = if (decide (0 ≤ n) && decide (n < len)) = true then rtV (addrA (opv env x) (n.toNat * sz)) st else none := by
  rw [op_of _ _ _ (by simp)]
  simp only [opA, hu, hs, hi, out_cond, out_rt]
  split <;> rfl

theorem o_bi (b : Builtin) (args : Array Operand) (tys : Array TypeId) : op1 P call mu (.call ⟨.builtin b, args, tys⟩) env st = out1 (builtinA P mu b tys.toList (args.toList.map (opv env))) st := by
  unfold op1 out1 opA
  simp only
  split <;> simp_all
theorem o_call (f : Operand) (args : Array Operand) (tys : Array TypeId) : op1 P call mu (.call ⟨.value f, args, tys⟩) env st = callV call (opv env f) (args.toList.map (opv env)) st := by
  unfold op1 callV opA
  simp only
  cases opv env f <;> rfl

/-! ### Reckoning -/
theorem beq_dec {α : Type} [BEq α] [LawfulBEq α] [DecidableEq α] (a b : α) : (a == b) = decide (a = b) := by
  by_cases h : a = b
  · subst h; simp
  · simp [h]
def andI (k : IntKind) (a b : Int) : Int := k.wrap (BitVec.ofInt k.bits a &&& BitVec.ofInt k.bits b).toNat
def orI (k : IntKind) (a b : Int) : Int := k.wrap (BitVec.ofInt k.bits a ||| BitVec.ofInt k.bits b).toNat
theorem b_add (t : TypeId) (k : IntKind) (a b : Int) : binV P .add t (.int k a) (.int k b) = some (.int k (k.wrap (a + b))) := by simp [binV, binInt, isSh]
theorem b_sub (t : TypeId) (k : IntKind) (a b : Int) : binV P .sub t (.int k a) (.int k b) = some (.int k (k.wrap (a - b))) := by simp [binV, binInt, isSh]
theorem b_mul (t : TypeId) (k : IntKind) (a b : Int) : binV P .mul t (.int k a) (.int k b) = some (.int k (k.wrap (a * b))) := by simp [binV, binInt, isSh]
theorem b_quo (t : TypeId) (k : IntKind) (a b : Int) (h : b ≠ 0) : binV P .quo t (.int k a) (.int k b) = some (.int k (k.wrap (a.tdiv b))) := by
  have h' : (b == 0) = false := by simp [h]
  simp [binV, binInt, isSh, h']
theorem b_rem (t : TypeId) (k : IntKind) (a b : Int) (h : b ≠ 0) : binV P .rem t (.int k a) (.int k b) = some (.int k (a.tmod b)) := by
  have h' : (b == 0) = false := by simp [h]
  simp [binV, binInt, isSh, h']
theorem b_and (t : TypeId) (k : IntKind) (a b : Int) : binV P .and t (.int k a) (.int k b) = some (.int k (andI k a b)) := by simp [binV, binInt, isSh, andI]
theorem b_or (t : TypeId) (k : IntKind) (a b : Int) : binV P .or t (.int k a) (.int k b) = some (.int k (orI k a b)) := by simp [binV, binInt, isSh, orI]
theorem b_eql (t : TypeId) (k : IntKind) (a b : Int) : binV P .eql t (.int k a) (.int k b) = some (.bool (decide (a = b))) := by
  simp [binV, binInt, isSh, beq_dec]
theorem b_neq (t : TypeId) (k : IntKind) (a b : Int) : binV P .neq t (.int k a) (.int k b) = some (.bool (decide (a ≠ b))) := by
  simp [binV, binInt, isSh, bne, beq_dec]
theorem b_lss (t : TypeId) (k : IntKind) (a b : Int) : binV P .lss t (.int k a) (.int k b) = some (.bool (decide (a < b))) := by simp [binV, binInt, isSh]
theorem b_leq (t : TypeId) (k : IntKind) (a b : Int) : binV P .leq t (.int k a) (.int k b) = some (.bool (decide (a ≤ b))) := by simp [binV, binInt, isSh]
theorem b_gtr (t : TypeId) (k : IntKind) (a b : Int) : binV P .gtr t (.int k a) (.int k b) = some (.bool (decide (a > b))) := by simp [binV, binInt, isSh]
theorem b_geq (t : TypeId) (k : IntKind) (a b : Int) : binV P .geq t (.int k a) (.int k b) = some (.bool (decide (a ≥ b))) := by simp [binV, binInt, isSh]
theorem b_shl (t : TypeId) (k k' : IntKind) (a b : Int) (h : 0 ≤ b) : binV P .shl t (.int k a) (.int k' b) = some (.int k (k.wrap (a * 2 ^ (min b.toNat k.bits)))) := by
  have : decide (b < 0) = false := by simp; omega
  simp [binV, shInt, isSh, this]
theorem b_shr (t : TypeId) (k k' : IntKind) (a b : Int) (h : 0 ≤ b) : binV P .shr t (.int k a) (.int k' b) = some (.int k (a.fdiv (2 ^ (min b.toNat k.bits)))) := by
  have : decide (b < 0) = false := by simp; omega
  simp [binV, shInt, isSh, this]
theorem b_seql (t : TypeId) (a b : List UInt8) : binV P .eql t (.str a) (.str b) = some (.bool (decide (a = b))) := by simp [binV, binStr, beq_dec]
theorem b_sneq (t : TypeId) (a b : List UInt8) : binV P .neq t (.str a) (.str b) = some (.bool (decide (a ≠ b))) := by simp [binV, binStr, bne, beq_dec]
theorem u_not (b : Bool) : unV .not (.bool b) = some (.bool (!b)) := rfl

/-- Pointers and nil. -/
theorem b_pnil (t e : TypeId) (n o : Nat) (hu : P.underlying t = some (.pointer e)) : binV P .eql t (.ptr n o) .nilp = some (.bool false) := by
  simp [binV, eqGuardOk, eqTop, eqV, hu]
theorem b_pnilN (t e : TypeId) (n o : Nat) (hu : P.underlying t = some (.pointer e)) : binV P .neq t (.ptr n o) .nilp = some (.bool true) := by
  simp [binV, eqGuardOk, eqTop, eqV, hu]
theorem b_nilnil (t e : TypeId) (hu : P.underlying t = some (.pointer e)) : binV P .eql t .nilp .nilp = some (.bool true) := by
  simp [binV, eqGuardOk, eqTop, eqV, hu]

/-! ### Memory -/
def ldH (o : Option O) (off : Nat) (agg : Bool) (sz : Nat) (st : St) : Option (V × St) := match o with
  | some (.blk cs) => rtV (takeCells cs off agg sz) st
  | _ => none
theorem ldH_some (cs : List V) (off : Nat) (agg : Bool) (sz : Nat) : ldH (some (.blk cs)) off agg sz st = rtV (takeCells cs off agg sz) st := rfl
theorem tk_f (cs : List V) (off sz : Nat) : takeCells cs off false sz = cs[off]? := rfl
theorem tk_t (cs : List V) (off sz : Nat) : takeCells cs off true sz = if ((cs.drop off).take sz).length = sz then some (.agg ((cs.drop off).take sz)) else none := by
  simp only [takeCells, cond_true]
  rw [cond_beq]
theorem ld_ptr {t : TypeId} {d : TypeDesc} {sz : Nat} (hu : P.underlying t = some d) (hs : szT P t = some sz) (n off : Nat) : out1 (loadA P t (.ptr n off)) st = ldH (st.h.get n) off (isAggD d) sz st := by
  simp only [loadA, hu, hs, out1, runA, ldH]
  cases st.h.get n with
  | none => rfl
  | some o =>
    simp only
    rw [runA_ignore _ _ _ []]
    cases o <;> first | exact out_rt _ _ | rfl
theorem ld_iptr {t : TypeId} {d : TypeDesc} {sz : Nat} (hu : P.underlying t = some d) (hs : szT P t = some sz) (cs : List V) (off : Nat) : out1 (loadA P t (.iptr cs off)) st = rtV (takeCells cs off (isAggD d) sz) st := by
  simp only [loadA, hu, hs, out_rt]
def stH (o : Option O) (n off sz : Nat) (v : V) (st : St) : Option (V × St) := match o with
  | some (.blk cs) => if v.cells.length = sz ∧ off + sz ≤ cs.length ∧ v.cells.all V.one = true then some (.und, st.putO n (.blk (splice cs off v.cells))) else none
  | _ => none
theorem stH_some (cs : List V) (n off sz : Nat) (v : V) : stH (some (.blk cs)) n off sz v st = if v.cells.length = sz ∧ off + sz ≤ cs.length ∧ v.cells.all V.one = true then some (.und, st.putO n (.blk (splice cs off v.cells))) else none := rfl
theorem st_ptr {t : TypeId} {sz : Nat} (hs : szT P t = some sz) (n off : Nat) (v : V) : out1 (storeA P t (.ptr n off) v) st = stH (st.h.get n) n off sz v st := by
  simp only [storeA, hs, out1, runA, stH]
  cases hg : st.h.get n with
  | none => rfl
  | some o =>
    cases o with
    | blk cs =>
      simp only
      by_cases h : v.cells.length = sz ∧ off + sz ≤ cs.length ∧ v.cells.all V.one = true
      · have h1 : Nat.beq v.cells.length sz = true := by simp [h.1]
        have h2 : Nat.ble (off + sz) cs.length = true := by simp [h.2.1]
        rw [if_pos h]
        simp only [h1, h2, h.2.2, Bool.and_self, cond_true, runA, hg]
      · have : (Nat.beq v.cells.length sz && Nat.ble (off + sz) cs.length && v.cells.all V.one) = false := by
          cases hb : (Nat.beq v.cells.length sz && Nat.ble (off + sz) cs.length && v.cells.all V.one) with
          | false => rfl
          | true =>
            simp only [Bool.and_eq_true] at hb
            exact absurd ⟨Nat.eq_of_beq_eq_true hb.1.1, Nat.le_of_ble_eq_true hb.1.2, hb.2⟩ h
        simp only [this, cond_false, if_neg h, runA]
    | _ => rfl
/-- The address of an element. -/
def ixS (sz : Nat) (x i : V) (st : St) : Option (V × St) := match x, i with
  | .sl cs len sz' _, .int _ n => if sz = sz' ∧ 0 ≤ n ∧ n < len then some (.iptr cs (n.toNat * sz), st) else none
  | .ms b off len sz' _, .int _ n => if sz = sz' ∧ 0 ≤ n ∧ n < len then some (.ptr b (off + n.toNat * sz), st) else none
  | _, _ => none
theorem ixS_sl (sz sz' : Nat) (cs : List V) (len : Nat) (cp : Cp) (k : IntKind) (n : Int) : ixS sz (.sl cs len sz' cp) (.int k n) st = if sz = sz' ∧ 0 ≤ n ∧ n < len then some (.iptr cs (n.toNat * sz), st) else none := rfl
theorem and3 {a b : Nat} {p q : Prop} [Decidable p] [Decidable q] {α : Type} (x y : α) : (bif Nat.beq a b && decide p && decide q then x else y) = if a = b ∧ p ∧ q then x else y := by
  by_cases h : a = b
  · subst h; by_cases hp : p <;> by_cases hq : q <;> simp [hp, hq]
  · have : Nat.beq a b = false := by
      cases hb : Nat.beq a b with
      | false => rfl
      | true => exact absurd (Nat.eq_of_beq_eq_true hb) h
    simp [this, h]
theorem o_ixS {t e : TypeId} {sz : Nat} (hu : P.underlying t = some (.slice e)) (hs : szT P e = some sz) (x i : Operand) : op1 P call mu (.indexAddr t x i) env st = ixS sz (opv env x) (opv env i) st := by
  rw [op_of _ _ _ (by simp)]
  simp only [opA, hu]
  generalize opv env x = a
  generalize opv env i = b
  cases b with
  | int k n =>
    simp only [hs]
    cases a with
    | sl cs len sz' cp => simp only [ixS, and3]; split <;> rfl
    | ms m off len sz' cap => simp only [ixS, and3]; split <;> rfl
    | _ => rfl
  | _ => cases a <;> rfl
def ixA (len sz : Nat) (x i : V) (st : St) : Option (V × St) := match i with
  | .int _ n => if 0 ≤ n ∧ n < len then rtV (addrA x (n.toNat * sz)) st else none
  | _ => none
theorem ixA_int (len sz : Nat) (x : V) (k : IntKind) (n : Int) : ixA len sz x (.int k n) st = if 0 ≤ n ∧ n < len then rtV (addrA x (n.toNat * sz)) st else none := rfl
theorem o_ixA {t e : TypeId} {len sz : Nat} (hu : P.underlying t = some (.array len e)) (hs : szT P e = some sz) (x i : Operand) : op1 P call mu (.indexAddr t x i) env st = ixA len sz (opv env x) (opv env i) st := by
  rw [op_of _ _ _ (by simp)]
  simp only [opA, hu]
  generalize opv env x = a
  generalize opv env i = b
  cases b with
  | int k n =>
    simp only [hs, ixA, out_cond, out_rt]
    by_cases h : 0 ≤ n ∧ n < (len : Int)
    · have : (decide (0 ≤ n) && decide (n < (len : Int))) = true := by simp [h.1, h.2]
      rw [if_pos this, if_pos h]
    · have : ¬ (decide (0 ≤ n) && decide (n < (len : Int))) = true := by
        intro hb
        simp only [Bool.and_eq_true, decide_eq_true_eq] at hb; exact absurd hb h
      rw [if_neg this, if_neg h]; rfl
  | _ => rfl

/-- A field of a value. -/
def fdV (x : V) (off : Nat) (agg : Bool) (sz : Nat) (st : St) : Option (V × St) := match x with
  | .agg cs => rtV (takeCells cs off agg sz) st
  | _ => none
theorem fdV_agg (cs : List V) (off : Nat) (agg : Bool) (sz : Nat) : fdV (.agg cs) off agg sz st = rtV (takeCells cs off agg sz) st := rfl
theorem o_fd {s : TypeId} {fs : Array Field} {i : Nat} {f : Field} {d : TypeDesc} {sz : Nat} (hu : P.underlying s = some (.struct fs)) (hf : fs[i]? = some f) (hd : P.underlying f.type = some d) (hs : szT P f.type = some sz) (x : Operand) :
    op1 P call mu (.field s x i) env st = fdV (opv env x) f.offset (isAggD d) sz st := by
  rw [op_of _ _ _ (by simp)]
  simp only [opA, hu]
  cases opv env x <;> try rfl
  simp only [hf, fdV, partV, hd, hs, out_rt, takeCells]

/-! ### What builtins tell -/
def lenV (x : V) (st : St) : Option (V × St) := match x with
  | .snil => some (.int .i64 0, st)
  | .sl _ n _ _ => some (.int .i64 n, st)
  | .ms _ _ n _ _ => some (.int .i64 n, st)
  | _ => none
theorem lenV_snil : lenV .snil st = some (.int .i64 0, st) := rfl
theorem lenV_sl (cs : List V) (n sz : Nat) (cp : Cp) : lenV (.sl cs n sz cp) st = some (.int .i64 n, st) := rfl
theorem lenV_ms (b o n sz : Nat) (c : Option Nat) : lenV (.ms b o n sz c) st = some (.int .i64 n, st) := rfl
theorem bi_len {t e : TypeId} (hu : P.underlying t = some (.slice e)) (x : V) : out1 (builtinA P mu .len [t] [x]) st = lenV x st := by
  cases x <;> simp [builtinA, hu, lenV, out1, runA]
theorem bi_slen {t : TypeId} (hu : P.underlying t = some .string) (s : List UInt8) : out1 (builtinA P mu .len [t] [.str s]) st = some (.int .i64 s.length, st) := by
  simp [builtinA, hu, out1, runA]
theorem bi_app {t t2 e e2 : TypeId} (hu : P.underlying t = some (.slice e)) (hu2 : P.underlying t2 = some (.slice e2)) (s x : V) : builtinA P mu .append [t, t2] [s, x] = appendA P mu e s x := by simp [builtinA, hu, hu2]
theorem bi_max (t : List TypeId) (k : IntKind) (a b : Int) : out1 (builtinA P mu .max t [.int k a, .int k b]) st = some (.int k (if b > a then b else a), st) := by
  simp [builtinA, foldV, mxInt, out1, runA, rt]
theorem bi_min (t : List TypeId) (k : IntKind) (a b : Int) : out1 (builtinA P mu .min t [.int k a, .int k b]) st = some (.int k (if b < a then b else a), st) := by
  simp [builtinA, foldV, mnInt, out1, runA, rt]

/-- A new list, as a value. -/
def newT (o : Option O) (sz : Nat) (cs : List V) (len : Nat) (st : St) : Option (V × St) := match o with
  | none => some (.sl cs len sz (.tok st.nx sz), st.newO .buf)
  | some _ => none
theorem newT_none (sz : Nat) (cs : List V) (len : Nat) : newT none sz cs len st = some (.sl cs len sz (.tok st.nx sz), st.newO .buf) := rfl
theorem out_newSl (sz : Nat) (cs : List V) (len : Nat) : out1 (newSl false sz cs len) st = newT (st.h.get st.nx) sz cs len st := by
  simp only [newSl, cond_false, out1, runA, newT]
  cases st.h.get st.nx <;> rfl
/-- What is known of an element type. -/
structure El (P : Program) (e : TypeId) (sz b : Nat) : Prop where
  z : ∃ z, zrT P e = some z ∧ z.cells.length = sz
  s : szT P e = some sz
  b : byT P e = b
theorem cond_if {α : Type} (c : Bool) (x y : α) : (bif c then x else y) = if c = true then x else y := by cases c <;> rfl
theorem ap_nil {e : TypeId} {sz b : Nat} (h : El P e sz b) (cs : List V) (m : Nat) (cp : Cp) : out1 (appendA P false e .snil (.sl cs m sz cp)) st =
    if m = 0 then some (.snil, st) else if exOk m 0 b = true then newT (st.h.get st.nx) sz cs m st else none := by
  obtain ⟨⟨z, h1, h2⟩, h3, h4⟩ := h
  simp only [appendA, h1, h3, h2, Nat.beq_refl, Bool.not_true, cond_false, rdMs, rdCells, cond_true, cond_beq, h4, out_ite, out_cond, out_ret, out_newSl]
  rfl
theorem ap_ex {e : TypeId} {sz b : Nat} (h : El P e sz b) (cs xs : List V) (len m : Nat) (cp : Cp) : out1 (appendA P false e (.sl cs len sz .ex) (.sl xs m sz cp)) st =
    if m = 0 then some (.sl cs len sz .ex, st) else if exOk (len + m) len b = true then newT (st.h.get st.nx) sz (cs ++ xs) (len + m) st else none := by
  obtain ⟨⟨z, h1, h2⟩, h3, h4⟩ := h
  simp only [appendA, h1, h3, h2, Nat.beq_refl, Bool.not_true, cond_false, rdMs, rdCells, cond_true, cond_beq, h4, out_ite, out_cond, out_ret, out_newSl, Bool.true_and]
  rfl
/-- A list that grows in its own tail. -/
def growT (o : Option O) (n sz : Nat) (cs : List V) (len : Nat) (st : St) : Option (V × St) := match o with
  | some .buf => newT ((st.delO n).h.get st.nx) sz cs len (st.delO n)
  | _ => none
theorem growT_buf (n sz : Nat) (cs : List V) (len : Nat) : growT (some .buf) n sz cs len st = newT ((st.delO n).h.get st.nx) sz cs len (st.delO n) := rfl
theorem ap_tok {e : TypeId} {sz b : Nat} (h : El P e sz b) (cs xs : List V) (len m n k : Nat) (cp : Cp) : out1 (appendA P false e (.sl cs len sz (.tok n k)) (.sl xs m sz cp)) st =
    if m = 0 then some (.sl cs len sz (.tok n k), st) else if roomOk (len + m) b = true ∧ xs.all V.one = true then growT (st.h.get n) n sz (cs ++ xs) (len + m) st else none := by
  obtain ⟨⟨z, h1, h2⟩, h3, h4⟩ := h
  simp only [appendA, h1, h3, h2, Nat.beq_refl, Bool.not_true, cond_false, rdMs, rdCells, cond_true, cond_beq, h4, out_ite, out_cond, out_ret, out_newSl, Bool.true_and, Bool.and_eq_true]
  congr 1
  by_cases hc : roomOk (len + m) b = true ∧ xs.all V.one = true
  · rw [if_pos hc, if_pos hc]
    cases hg : st.h.get n with
    | none => simp only [out1, runA, hg, growT]
    | some o =>
      rw [out_get _ _ _ _ hg]
      cases o <;> try rfl
      simp only
      rw [out_del _ _ _ _ hg, out_newSl]
      rfl
  · rw [if_neg hc, if_neg hc]; rfl
theorem ap_nothing {e : TypeId} {sz b : Nat} (h : El P e sz b) (s : V) (hs : match s with | .snil | .sl _ _ _ _ | .ms _ _ _ _ _ => True | _ => False) : out1 (appendA P mu e s .snil) st = some (s, st) := by
  obtain ⟨⟨z, h1, h2⟩, h3, h4⟩ := h
  simp only [appendA, h1, h3, h2, Nat.beq_refl, Bool.not_true, cond_false, rdMs, rdCells, cond_true]
  cases s <;> first | rfl | exact hs.elim

/-- A part of a list. -/
theorem sl_lo {t e : TypeId} {sz : Nat} (hu : P.underlying t = some (.slice e)) (hs : szT P e = some sz) (cs : List V) (len : Nat) (cp : Cp) (k : IntKind) (i : Int) : out1 (sliceA P t (.sl cs len sz cp) (some (.int k i)) none none) st =
    if 0 ≤ i ∧ i ≤ len then some (.sl ((cs.drop (i.toNat * sz)).take ((len - i.toNat) * sz)) (len - i.toNat) sz (bif Nat.blt i.toNat len then cp else .unk), st) else none := by
  simp only [sliceA, hu, hs, Nat.beq_refl, Bool.not_true, cond_false, bnd]
  by_cases h : 0 ≤ i ∧ i ≤ len
  · have : (decide (0 ≤ i) && decide (i ≤ (len : Int))) = true := by simp [h.1, h.2]
    simp only [this, cond_true, if_pos h, Nat.beq_refl, Bool.true_and]
    rfl
  · have : (decide (0 ≤ i) && decide (i ≤ (len : Int))) = false := by
      cases hb : (decide (0 ≤ i) && decide (i ≤ (len : Int))) with
      | false => rfl
      | true => simp only [Bool.and_eq_true, decide_eq_true_eq] at hb; exact absurd hb h
    simp only [this, cond_false, if_neg h]
    rfl
theorem sl_hi {t e : TypeId} {sz : Nat} (hu : P.underlying t = some (.slice e)) (hs : szT P e = some sz) (cs : List V) (len : Nat) (cp : Cp) (k : IntKind) (i : Int) : out1 (sliceA P t (.sl cs len sz cp) none (some (.int k i)) none) st =
    if 0 ≤ i ∧ i ≤ len then some (.sl (cs.take (i.toNat * sz)) i.toNat sz (bif Nat.beq i.toNat len && Nat.blt 0 len then cp else .unk), st) else none := by
  simp only [sliceA, hu, hs, Nat.beq_refl, Bool.not_true, cond_false, bnd]
  by_cases h : 0 ≤ i ∧ i ≤ len
  · have : (decide (0 ≤ i) && decide (i ≤ (len : Int))) = true := by simp [h.1, h.2]
    simp only [this, cond_true, if_pos h, Nat.zero_mul, List.drop_zero, Nat.sub_zero]
    rfl
  · have : (decide (0 ≤ i) && decide (i ≤ (len : Int))) = false := by
      cases hb : (decide (0 ≤ i) && decide (i ≤ (len : Int))) with
      | false => rfl
      | true => simp only [Bool.and_eq_true, decide_eq_true_eq] at hb; exact absurd hb h
    simp only [this, cond_false, if_neg h]
    rfl

theorem fa_of {s : TypeId} {i k ft off : Nat} {fs : Array Field} (hu : P.underlying s = some (.struct fs)) (hf : (fs[i]?).map (fun f => (f.type, f.offset)) = some (ft, off)) (hs : szT P ft = some (k + 1)) (x : Operand) :
    op1 P call mu (.fieldAddr s x i) env st = rtV (addrA (opv env x) off) st := by
  cases h : fs[i]? with
  | none => rw [h] at hf; cases hf
  | some f =>
    rw [h] at hf
    simp only [Option.map_some, Option.some.injEq, Prod.mk.injEq] at hf
    obtain ⟨h1, h2⟩ := hf
    subst h1; subst h2
    exact o_faddr _ _ _ _ _ _ hu h hs
theorem fd_of {s : TypeId} {i sz ft off : Nat} {d : TypeDesc} {fs : Array Field} (hu : P.underlying s = some (.struct fs)) (hf : (fs[i]?).map (fun f => (f.type, f.offset)) = some (ft, off)) (hd : P.underlying ft = some d) (hs : szT P ft = some sz) (x : Operand) :
    op1 P call mu (.field s x i) env st = fdV (opv env x) off (isAggD d) sz st := by
  cases h : fs[i]? with
  | none => rw [h] at hf; cases hf
  | some f =>
    rw [h] at hf
    simp only [Option.map_some, Option.some.injEq, Prod.mk.injEq] at hf
    obtain ⟨h1, h2⟩ := hf
    subst h1; subst h2
    exact o_fd hu h hd hs x

/-! ### The heap -/
theorem get_set (t : Tr O) (n m : Nat) (o : Option O) : (t.set n o).get m = if m = n then o else t.get m := Tr.get_set t n o m
theorem get_lf (m : Nat) : (Tr.lf : Tr O).get m = none := rfl
end
end Go.Am
