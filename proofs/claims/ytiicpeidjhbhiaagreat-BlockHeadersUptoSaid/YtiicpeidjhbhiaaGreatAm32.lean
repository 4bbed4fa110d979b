/-
  THE ABSTRACT MACHINE, PART 32: what comes of a run, asked backwards.
-/
import Derived.Test.YtiicpeidjhbhiaaGreatAm30
namespace Go.Am
open Go

section
variable {P : Program} {call : CallF} {nt : Nat} {mu : Bool} {H : Nat → Option (List Nat)} {L me : Nat} {inR : Bool}

theorem post_then {r : Option (Ex × Env × St)} {b : Code} {Q : Ex → Env → St → Prop}
    (h : postC r (fun e env st => match e with | .nrm => postC (evC P call nt mu H L me inR b env st) Q | e => Q e env st)) : postC (thenC P call nt mu H L me inR r b) Q := by
  cases r with
  | none => exact h
  | some x =>
    obtain ⟨e, env, st⟩ := x
    cases e <;> exact h
theorem post_block {r : Option (Ex × Env × St)} {id : Nat} {Q : Ex → Env → St → Prop}
    (h : postC r (fun e env st => match e with | .ext j => if j = id then Q .nrm env st else Q (.ext j) env st | e => Q e env st)) : postC (blockC id r) Q := by
  cases r with
  | none => exact h
  | some x =>
    obtain ⟨e, env, st⟩ := x
    cases e with
    | ext j =>
      rw [block_ext]
      simp only [postC_some] at h
      by_cases hj : j = id
      · rw [if_pos hj] at h; rw [if_pos hj]; exact h
      · rw [if_neg hj] at h; rw [if_neg hj]; exact h
    | _ => exact h
/-- A loop whose rounds are counted down. -/
theorem post_loop (I : Nat → Env → St → Prop) {f : Env → St → Option (Ex × Env × St)} {Q : Ex → Env → St → Prop}
    (step : ∀ n env st, I n env st → postC (f env st) (fun e env' st' => match e with | .nrm => ∃ m, m < n ∧ I m env' st' | e => Q e env' st')) :
    ∀ (n L : Nat) (env : Env) (st : St), I n env st → n < L → postC (loopN f L env st) Q := by
  intro n
  induction n using Nat.strongRecOn with
  | _ n ih =>
    intro L env st hI hL
    cases L with
    | zero => omega
    | succ L =>
      have h := step n env st hI
      simp only [loopN]
      cases hf : f env st with
      | none => rw [hf] at h; exact h
      | some x =>
        obtain ⟨e, env', st'⟩ := x
        rw [hf] at h
        cases e with
        | nrm =>
          obtain ⟨m, hm, hI'⟩ := h
          exact ih m hm L env' st' hI' (by omega)
        | _ => exact h

/-- A function's body. -/
theorem post_body {A : Aid} {f : Nat} {fn : Func} {c : Code} {args : List V} {st : St} {Q : V → St → Prop} (hf : P.funcs[f]? = some fn) (hb : fn.body = some c) (ha : args.length ≤ fn.ntmps)
    (h : postC (evC P call fn.ntmps (A.mu f) (A.H f) A.L f false c (argEnv 0 args) ⟨st.h, st.nx, st.lg, []⟩) (fun e env st1 => (∀ id, e ≠ .ext id) ∧ st1.df = [] ∧ post (rtV (resV P fn env st1) st1) (fun v _ => Q v ⟨st1.h, st1.nx, st1.lg, st.df⟩))) :
    post (evBody P A call f args st) Q := by
  obtain ⟨e, env, st1, h1, h2, h3, h4⟩ := postC_ex h
  have ha' : Nat.ble args.length fn.ntmps = true := by simpa using ha
  simp only [evBody, hf, hb, ha', cond_true, h1]
  cases e with
  | ext id => exact absurd rfl (h2 id)
  | nrm =>
    simp only [h3, takeDf]
    cases hr : resV P fn env st1 with
    | none => rw [hr] at h4; exact h4.elim
    | some v => rw [hr] at h4; exact h4
  | ret =>
    simp only [h3, takeDf]
    cases hr : resV P fn env st1 with
    | none => rw [hr] at h4; exact h4.elim
    | some v => rw [hr] at h4; exact h4

theorem post_evF {A : Aid} {orc : Nat → Option (List V → St → Option (V × St))} {d f : Nat} {args : List V} {st : St} {Q : V → St → Prop} (he : enterOk P f = true) (ho : orc f = none)
    (h : post (evBody P A (evF P A orc d) f args st) Q) : post (evF P A orc (d + 1) (.f f) args st) Q := by
  simp only [evF, he, cond_true, ho]; exact h
theorem evF_orc {A : Aid} {orc : Nat → Option (List V → St → Option (V × St))} {d f : Nat} {args : List V} {st : St} {o : List V → St → Option (V × St)} (he : enterOk P f = true) (ho : orc f = some o) :
    evF P A orc (d + 1) (.f f) args st = o args st := by
  simp only [evF, he, cond_true, ho]

theorem arg_nil (i : Nat) : argEnv i [] = [] := rfl
theorem arg_cons (i : Nat) (v : V) (r : List V) : argEnv i (v :: r) = (i, v) :: argEnv (i + 1) r := by simp only [argEnv, V.force_eq]

def exV (v : V) (i : Nat) (st : St) : Option (V × St) := match v with
  | .tup vs => rtV vs[i]? st
  | _ => none
theorem exV_tup (vs : List V) (i : Nat) (st : St) : exV (.tup vs) i st = rtV vs[i]? st := rfl
theorem o_extract2 {env : Env} {st : St} (t : Operand) (i : Nat) : op1 P call mu (.extract t i) env st = exV (opv env t) i st := by
  rw [op_of _ _ _ (by simp)]
  simp only [opA]
  cases opv env t <;> first | exact out_rt _ _ | rfl

/-! ### States -/
theorem newO_get (st : St) (o : O) (m : Nat) : (st.newO o).h.get m = if m = st.nx then some o else st.h.get m := by simp [St.newO, Tr.get_set]
theorem newO_nx (st : St) (o : O) : (st.newO o).nx = st.nx + 1 := rfl
theorem newO_df (st : St) (o : O) : (st.newO o).df = st.df := rfl
theorem putO_get (st : St) (n : Nat) (o : O) (m : Nat) : (st.putO n o).h.get m = if m = n then some o else st.h.get m := by simp [St.putO, Tr.get_set]
theorem putO_nx (st : St) (n : Nat) (o : O) : (st.putO n o).nx = st.nx := rfl
theorem putO_df (st : St) (n : Nat) (o : O) : (st.putO n o).df = st.df := rfl
theorem delO_get (st : St) (n m : Nat) : (st.delO n).h.get m = if m = n then none else st.h.get m := by simp [St.delO, Tr.get_set]
theorem delO_nx (st : St) (n : Nat) : (st.delO n).nx = st.nx := rfl
theorem delO_df (st : St) (n : Nat) : (st.delO n).df = st.df := rfl
/-- A state that is told by its heap, its next name. -/
structure Is (st : St) (nx : Nat) (h : Nat → Option O) : Prop where
  nx : st.nx = nx
  h : ∀ n, st.h.get n = h n
  df : st.df = []

/-- New memory. -/
def alH (o : Option O) (cs : List V) (st : St) : Option (V × St) := match o with
  | none => some (.ptr st.nx 0, st.newO (.blk cs))
  | some _ => none
theorem alH_none (cs : List V) (st : St) : alH none cs st = some (.ptr st.nx 0, st.newO (.blk cs)) := rfl
theorem o_al {env : Env} {st : St} {t : TypeId} {z : V} (h : zrT P t = some z) : op1 P call mu (.alloc t) env st = alH (st.h.get st.nx) z.cells st := by
  rw [op_of _ _ _ (by simp)]
  simp only [opA, h, out1, runA]
  cases st.h.get st.nx <;> rfl
def bxV (x : V) (st : St) : Option (V × St) := if x.flat = true then alH (st.h.get st.nx) x.cells st else none
theorem o_bx {env : Env} {st : St} (t : TypeId) (x : Operand) : op1 P call mu (.box t x) env st = bxV (opv env x) st := by
  rw [op_of _ _ _ (by simp)]
  simp only [opA, bxV, out_cond]
  split
  · simp only [out1, runA]
    cases st.h.get st.nx <;> rfl
  · rfl
theorem bxV_agg (cs : List V) (st : St) : bxV (.agg cs) st = alH (st.h.get st.nx) cs st := rfl
theorem bxV_int (k : IntKind) (n : Int) (st : St) : bxV (.int k n) st = alH (st.h.get st.nx) [.int k n] st := rfl
theorem bxV_sl (cs : List V) (len sz : Nat) (cp : Cp) (st : St) : bxV (.sl cs len sz cp) st = alH (st.h.get st.nx) [.sl cs len sz cp] st := rfl
theorem bxV_snil (st : St) : bxV .snil st = alH (st.h.get st.nx) [.snil] st := rfl

/-! ### Lists and structs that are put together -/
theorem fill_nil (place : Nat → Option (Nat × Nat)) (cells : List V) : fillV place cells [] = some cells := rfl
def fillK (pl : Option (Nat × Nat)) (place : Nat → Option (Nat × Nat)) (cells : List V) (v : V) (rest : List (Nat × V)) : Option (List V) := match pl with
  | none => none
  | some (off, size) => if v.flat = true ∧ v.cells.length = size ∧ off + size ≤ cells.length then fillV place (splice cells off v.cells) rest else none
theorem fill_cons (place : Nat → Option (Nat × Nat)) (cells : List V) (i : Nat) (v : V) (rest : List (Nat × V)) : fillV place cells ((i, v) :: rest) = fillK (place i) place cells v rest := by
  simp only [fillV, fillK]
  cases place i with
  | none => rfl
  | some p =>
    obtain ⟨off, size⟩ := p
    simp only
    by_cases h : v.flat = true ∧ v.cells.length = size ∧ off + size ≤ cells.length
    · have h1 : Nat.beq v.cells.length size = true := by simp [h.2.1]
      have h2 : Nat.ble (off + size) cells.length = true := by simp [h.2.2]
      simp only [h.1, h1, h2, Bool.and_self, cond_true]
      rw [if_pos ⟨trivial, h.2⟩]
    · have : (v.flat && Nat.beq v.cells.length size && Nat.ble (off + size) cells.length) = false := by
        cases hb : (v.flat && Nat.beq v.cells.length size && Nat.ble (off + size) cells.length) with
        | false => rfl
        | true =>
          simp only [Bool.and_eq_true] at hb
          exact absurd ⟨hb.1.1, Nat.eq_of_beq_eq_true hb.1.2, Nat.le_of_ble_eq_true hb.2⟩ h
      simp only [this, cond_false, if_neg h]
theorem fillK_some (off size : Nat) (place : Nat → Option (Nat × Nat)) (cells : List V) (v : V) (rest : List (Nat × V)) :
    fillK (some (off, size)) place cells v rest = if v.flat = true ∧ v.cells.length = size ∧ off + size ≤ cells.length then fillV place (splice cells off v.cells) rest else none := rfl
theorem splice_def (cs : List V) (off : Nat) (xs : List V) : splice cs off xs = cs.take off ++ xs ++ cs.drop (off + xs.length) := rfl

theorem fillV_congr {p q : Nat → Option (Nat × Nat)} (h : ∀ i, p i = q i) (cs : List V) (ps : List (Nat × V)) : fillV p cs ps = fillV q cs ps := by rw [show p = q from funext h]
/-- Places by number. -/
def plc (l : List (Nat × Nat)) (i : Nat) : Option (Nat × Nat) := l[i]?
theorem plc_def (l : List (Nat × Nat)) (i : Nat) : plc l i = l[i]? := rfl
def aggO (x : Option (List V)) (st : St) : Option (V × St) := match x with
  | some cs => some (.agg cs, st)
  | none => none
theorem aggO_some (cs : List V) (st : St) : aggO (some cs) st = some (.agg cs, st) := rfl
theorem o_bld {env : Env} {st : St} {t : TypeId} {fs : Array Field} {z : V} {l : List (Nat × Nat)} (hu : P.underlying t = some (.struct fs)) (hz : zrT P t = some z)
    (hl : fs.toList.map (fun f => (szT P f.type).map fun s => (f.offset, s)) = l.map some) (parts : Array (Nat × Operand)) :
    op1 P call mu (.build t parts) env st = aggO (fillV (plc l) z.cells (parts.toList.map fun p => (p.1, opv env p.2))) st := by
  rw [o_build]
  have hall : fs.all (fun f => (szT P f.type).isSome) = true := by
    rw [← Array.all_toList, List.all_eq_true]
    intro f hf
    have : ((szT P f.type).map fun s => (f.offset, s)) ∈ l.map some := by rw [← hl]; exact List.mem_map_of_mem hf
    cases hs : szT P f.type with
    | none => rw [hs] at this; simp at this
    | some s => rfl
  unfold buildV
  simp only [hz, hu, hall, cond_true]
  rw [fillV_congr (q := plc l) (fun i => by
    have h := congrArg (fun x : List (Option (Nat × Nat)) => x[i]?) hl
    simp only [List.getElem?_map, Array.getElem?_toList] at h
    unfold plc
    cases hf : fs[i]? with
    | none =>
      rw [hf] at h
      cases hi : l[i]? with
      | none => rfl
      | some p => rw [hi] at h; simp at h
    | some f =>
      rw [hf] at h
      cases hi : l[i]? with
      | none => rw [hi] at h; simp at h
      | some p =>
        rw [hi] at h
        simp only [Option.map_some, Option.some.injEq] at h
        cases hs : szT P f.type with
        | none => rw [hs] at h; simp at h
        | some s => rw [hs] at h; simpa [hs] using h)]
  cases fillV (plc l) z.cells (parts.toList.map fun p => (p.1, opv env p.2)) <;> rfl

/-- A list's parts, one behind the other. -/
def okIdx (env : Env) (sz : Nat) : Nat → List (Nat × Operand) → Bool
  | _, [] => true
  | k, (i, x) :: r => Nat.beq i k && (opv env x).flat && Nat.beq (opv env x).cells.length sz && okIdx env sz (k + 1) r
def catP (env : Env) : List (Nat × Operand) → List V
  | [] => []
  | (_, x) :: r => (opv env x).cells ++ catP env r
theorem catP_nil (env : Env) : catP env [] = [] := rfl
theorem catP_cons (env : Env) (i : Nat) (x : Operand) (r : List (Nat × Operand)) : catP env ((i, x) :: r) = (opv env x).cells ++ catP env r := rfl
theorem okIdx_nil (env : Env) (sz k : Nat) : okIdx env sz k [] = true := rfl
theorem okIdx_cons (env : Env) (sz k i : Nat) (x : Operand) (r : List (Nat × Operand)) : (okIdx env sz k ((i, x) :: r) = true) = (i = k ∧ (opv env x).flat = true ∧ (opv env x).cells.length = sz ∧ okIdx env sz (k + 1) r = true) := by
  simp [okIdx, and_assoc]
theorem fill_seq (env : Env) (sz : Nat) : ∀ (parts : List (Nat × Operand)) (k : Nat) (pre suf : List V), pre.length = k * sz → suf.length = parts.length * sz → okIdx env sz k parts = true →
    fillV (fun i => some (i * sz, sz)) (pre ++ suf) (parts.map fun p => (p.1, opv env p.2)) = some (pre ++ catP env parts)
  | [], k, pre, suf, h1, h2, _ => by
    have : suf = [] := by apply List.eq_nil_of_length_eq_zero; simpa using h2
    simp [this, catP, fillV]
  | (i, x) :: r, k, pre, suf, h1, h2, h => by
    rw [okIdx_cons] at h
    obtain ⟨rfl, hf, hc, hr⟩ := h
    simp only [List.map_cons, fill_cons, fillK_some]
    have hsuf : suf.length = r.length * sz + sz := by simpa [Nat.add_mul] using h2
    rw [if_pos ⟨hf, hc, by simp [h1]; omega⟩]
    have : splice (pre ++ suf) (i * sz) (opv env x).cells = (pre ++ (opv env x).cells) ++ suf.drop sz := by
      rw [splice_def, ← h1, List.take_left, hc, ← List.drop_drop, List.drop_left]
    rw [this, fill_seq env sz r (i + 1) _ _ (by simp [h1, hc, Nat.add_mul]) (by simp [hsuf]) hr, catP_cons, List.append_assoc]
theorem o_bs {env : Env} {st : St} {t e : TypeId} {sz b len : Nat} (hu : P.underlying t = some (.slice e)) (he : El P e sz b) (parts : Array (Nat × Operand)) (hl : parts.size = len ∧ len * sz ≤ 16777216 ∧ okIdx env sz 0 parts.toList = true) :
    op1 P call false (.buildSlice t len parts) env st = some (.sl (catP env parts.toList) len sz .ex, st) := by
  obtain ⟨⟨z, h1, h2⟩, h3, _⟩ := he
  obtain ⟨h4, h5, h6⟩ := hl
  rw [op_of _ _ _ (by simp)]
  have hb : Nat.ble (len * sz) 16777216 = true := by simpa using h5
  have := fill_seq env sz parts.toList 0 [] (zeros z.cells (len * sz)) (by simp) (by simp [zeros, h4]) h6
  simp only [List.nil_append] at this
  simp only [opA, hu, h3, h1, hb, cond_true, this, cond_false, out_ret]

theorem cv_int {st : St} {s d : TypeId} {k k1 : IntKind} (hs : P.underlying s = some (.int k)) (hd : P.underlying d = some (.int k1)) (k2 : IntKind) (n : Int) : out1 (convA P s d (.int k2 n)) st = some (.int k1 (k1.wrap n), st) := by
  simp only [convA, hs, hd, out_ret]
/-! ### A part of an array -/
def arH (o : Option O) (b off n sz : Nat) (i : Int) (st : St) : Option (V × St) := match o with
  | some (.blk cs) => if off + n * sz ≤ cs.length ∧ 0 ≤ i ∧ i ≤ n then some (.ms b off i.toNat sz (some n), st) else none
  | _ => none
theorem arH_some (cs : List V) (b off n sz : Nat) (i : Int) (st : St) : arH (some (.blk cs)) b off n sz i st = if off + n * sz ≤ cs.length ∧ 0 ≤ i ∧ i ≤ n then some (.ms b off i.toNat sz (some n), st) else none := rfl
theorem ar_hi {st : St} {t e : TypeId} {n sz : Nat} (hu : P.underlying t = some (.array n e)) (hs : szT P e = some sz) (b off : Nat) (k : IntKind) (i : Int) : out1 (sliceA P t (.ptr b off) none (some (.int k i)) none) st = arH (st.h.get b) b off n sz i st := by
  simp only [sliceA, hu, hs, out1, runA, arH]
  cases st.h.get b with
  | none => rfl
  | some o =>
    cases o with
    | blk cs =>
      simp only [bnd]
      by_cases h1 : off + n * sz ≤ cs.length
      · have : Nat.ble (off + n * sz) cs.length = true := by simpa using h1
        simp only [this, Bool.not_true, cond_false]
        by_cases h2 : 0 ≤ i ∧ i ≤ (n : Int)
        · have : (decide (0 ≤ i) && decide (i ≤ (n : Int))) = true := by simp [h2.1, h2.2]
          simp only [this, cond_true, if_pos (show off + n * sz ≤ cs.length ∧ 0 ≤ i ∧ i ≤ (n : Int) from ⟨h1, h2⟩), Option.isSome_some, Option.isSome_none, Bool.not_false, Bool.or_true, Nat.beq_refl, Bool.true_or, Bool.and_self, runA, Nat.zero_mul, Nat.add_zero, Nat.sub_zero]
        · have : (decide (0 ≤ i) && decide (i ≤ (n : Int))) = false := by
            cases hb : (decide (0 ≤ i) && decide (i ≤ (n : Int))) with
            | false => rfl
            | true => simp only [Bool.and_eq_true, decide_eq_true_eq] at hb; exact absurd hb h2
          simp only [this, cond_false, if_neg (show ¬ (off + n * sz ≤ cs.length ∧ 0 ≤ i ∧ i ≤ (n : Int)) from fun h => h2 h.2), runA]
      · have : Nat.ble (off + n * sz) cs.length = false := by
          cases hb : Nat.ble (off + n * sz) cs.length with
          | false => rfl
          | true => exact absurd (Nat.le_of_ble_eq_true hb) h1
        simp only [this, Bool.not_false, cond_true, if_neg (show ¬ (off + n * sz ≤ cs.length ∧ 0 ≤ i ∧ i ≤ (n : Int)) from fun h => h1 h.1), runA]
    | _ => rfl
/-- Growing by what lies in memory. -/
def apM (o : Option O) (cs : List V) (len off m sz b : Nat) (s : V) (st : St) : Option (V × St) := match o with
  | some (.blk xs) => if ((xs.drop off).take (m * sz)).length = m * sz then (if m = 0 then some (s, st) else if exOk (len + m) len b = true then newT (st.h.get st.nx) sz (cs ++ (xs.drop off).take (m * sz)) (len + m) st else none) else none
  | _ => none
theorem apM_some (xs cs : List V) (len off m sz b : Nat) (s : V) (st : St) : apM (some (.blk xs)) cs len off m sz b s st = if ((xs.drop off).take (m * sz)).length = m * sz then (if m = 0 then some (s, st) else if exOk (len + m) len b = true then newT (st.h.get st.nx) sz (cs ++ (xs.drop off).take (m * sz)) (len + m) st else none) else none := rfl
theorem ap_ex_ms {st : St} {e : TypeId} {sz b : Nat} (h : El P e sz b) (cs : List V) (len n off m : Nat) (c : Option Nat) : out1 (appendA P false e (.sl cs len sz .ex) (.ms n off m sz c)) st = apM (st.h.get n) cs len off m sz b (.sl cs len sz .ex) st := by
  obtain ⟨⟨z, h1, h2⟩, h3, h4⟩ := h
  simp only [appendA, h1, h3, h2, Nat.beq_refl, Bool.not_true, cond_false, rdMs, out1, runA, apM]
  cases hg : st.h.get n with
  | none => rfl
  | some o =>
    cases o with
    | blk xs =>
      simp only [cond_beq]
      by_cases hl : ((xs.drop off).take (m * sz)).length = m * sz
      · rw [if_pos hl, if_pos hl]
        by_cases hm : m = 0
        · rw [if_pos hm, if_pos hm]; rfl
        · rw [if_neg hm, if_neg hm]
          simp only [Bool.true_and, h4]
          cases hx : exOk (len + m) len b with
          | false => rfl
          | true =>
            simp only [cond_true, if_true]
            rw [runA_ignore _ _ _ []]
            exact out_newSl _ _ _
      · rw [if_neg hl, if_neg hl]; rfl
    | _ => rfl
theorem ap_nil_ms {st : St} {e : TypeId} {sz b : Nat} (h : El P e sz b) (n off m : Nat) (c : Option Nat) : out1 (appendA P false e .snil (.ms n off m sz c)) st = apM (st.h.get n) [] 0 off m sz b .snil st := by
  obtain ⟨⟨z, h1, h2⟩, h3, h4⟩ := h
  simp only [appendA, h1, h3, h2, Nat.beq_refl, Bool.not_true, cond_false, rdMs, out1, runA, apM]
  cases hg : st.h.get n with
  | none => rfl
  | some o =>
    cases o with
    | blk xs =>
      simp only [cond_beq]
      by_cases hl : ((xs.drop off).take (m * sz)).length = m * sz
      · rw [if_pos hl, if_pos hl]
        by_cases hm : m = 0
        · rw [if_pos hm, if_pos hm]; rfl
        · rw [if_neg hm, if_neg hm]
          simp only [h4, Nat.zero_add, List.nil_append]
          cases hx : exOk m 0 b with
          | false => rfl
          | true =>
            simp only [cond_true, if_true]
            rw [runA_ignore _ _ _ []]
            exact out_newSl _ _ _
      · rw [if_neg hl, if_neg hl]; rfl
    | _ => rfl

/-- A function's results. -/
def res1 (P : Program) (env : Env) (st : St) (r : ResultVar) : Option V := match r with
  | .tmp t => some (eget env t)
  | .cell a t => (out1 (loadA P t (eget env a)) st).map (·.1)
theorem res_one (env : Env) (st : St) (r : ResultVar) : resOne P env st r = res1 P env st r := by
  cases r with
  | tmp t => rfl
  | cell a t =>
    simp only [resOne, res1, out1]
    cases runA (loadA P t (eget env a)) st [] <;> rfl
theorem r_tmp (env : Env) (st : St) (t : Nat) : res1 P env st (.tmp t) = some (eget env t) := rfl
theorem r_cell (env : Env) (st : St) (a : Nat) (t : TypeId) : res1 P env st (.cell a t) = (out1 (loadA P t (eget env a)) st).map (·.1) := rfl
theorem ra_nil (env : Env) (st : St) : resAll P env st [] = some [] := rfl
def resC (a : Option V) (b : Option (List V)) : Option (List V) := match a, b with
  | some v, some vs => some (v :: vs)
  | _, _ => none
theorem ra_cons (env : Env) (st : St) (r : ResultVar) (rs : List ResultVar) : resAll P env st (r :: rs) = resC (res1 P env st r) (resAll P env st rs) := by
  simp only [resAll, resC, res_one]
  cases res1 P env st r <;> cases resAll P env st rs <;> rfl
theorem rc_some (v : V) (vs : List V) : resC (some v) (some vs) = some (v :: vs) := rfl
def resT (r : Option (List V)) : Option V := match r with
  | some [v] => some v
  | some vs => some (.tup vs)
  | none => none
theorem res_v (fn : Func) (env : Env) (st : St) : resV P fn env st = resT (resAll P env st fn.results.toList) := by
  unfold resV resT
  split <;> simp_all
theorem rt_one (v : V) : resT (some [v]) = some v := rfl
theorem rt_nil : resT (some []) = some (.tup []) := rfl
theorem rt_two (v u : V) (r : List V) : resT (some (v :: u :: r)) = some (.tup (v :: u :: r)) := rfl
end
end Go.Am
