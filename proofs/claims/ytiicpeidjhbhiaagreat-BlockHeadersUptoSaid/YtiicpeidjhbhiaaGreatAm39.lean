/-
  THE ABSTRACT MACHINE, PART 37: answers put together; a closed function's answer; equality of numbers laid side by side.
-/
import Derived.Test.YtiicpeidjhbhiaaGreatAm28
import Derived.Test.YtiicpeidjhbhiaaGreatAm35
import Derived.Test.YtiicpeidjhbhiaaGreatAm36
import Derived.Test.YtiicpeidjhbhiaaGreatCd1
namespace Go.Am
open Go
theorem orc_or {P : Program} {o1 o2 : Nat → Option (List V → St → Option (V × St))} (f : Nat) (h1 : OrcOk P o1) (h2 : OrcOk P o2) : OrcOk P (fun g => bif Nat.beq g f then o1 g else o2 g) := by
  intro g o args st v st' h
  have h : (bif Nat.beq g f then o1 g else o2 g) = some o := h
  cases hb : Nat.beq g f with
  | true => rw [hb] at h; exact h1 g o args st v st' h
  | false => rw [hb] at h; exact h2 g o args st v st' h
/-- A function without arguments that tells 'true'. -/
def trueS : List V → Option V
  | [] => some (.bool true)
  | _ => none
theorem trueS_inv {args : List V} {u : V} (h : trueS args = some u) : args = [] ∧ u = .bool true := by
  unfold trueS at h
  split at h
  · cases h; exact ⟨rfl, rfl⟩
  · cases h
theorem isT_inv {r : Option (V × St)} (h : isT r = true) : ∃ st, r = some (.bool true, st) := by
  unfold isT at h
  split at h
  · exact ⟨_, rfl⟩
  · cases h
theorem ok_true {P : Program} (hm : P.follows .mixedOrders = true) {A : Aid} {d f : Nat} (h : isT (evF P A (fun _ => none) d (.f f) [] ⟨.lf, 0, [], []⟩) = true) : OrcOk P (fun g => bif Nat.beq g f then some (pureO trueS) else none) := by
  refine orc_add hm (orc0 P) (pure_small fun args v hv => ?_)
  obtain ⟨rfl, rfl⟩ := trueS_inv hv
  obtain ⟨st, hst⟩ := isT_inv h
  exact ⟨A, d, st, _, _, hst, .nil, wk_bool _⟩
/-- Numbers told apart one by one. -/
def chainB : List (Int × Int) → Option Bool
  | [] => some true
  | (a, b) :: r => (match some (a == b) with | some true => chainB r | some false => some false | none => none)
theorem chainB_eq : ∀ l : List (Int × Int), chainB l = some (decide (∀ p ∈ l, p.1 = p.2))
  | [] => by simp [chainB]
  | (a, b) :: r => by
    have ih := chainB_eq r
    by_cases h : a = b
    · have hb : (a == b) = true := by simp [h]
      simp only [chainB, hb, ih]
      simp [h]
    · have hb : (a == b) = false := by simp [h]
      simp only [chainB, hb]
      simp [h]
theorem neq_agg {P : Program} {t : TypeId} {xs ys : List V} {b : Bool} (hg : eqGuardOk P t (.agg xs) = true) (h : eqV P eqTop t (.agg xs) (.agg ys) = some b) : binV P .neq t (.agg xs) (.agg ys) = some (.bool (!b)) := by
  simp only [binV, hg, cond_true, h]
theorem eql_agg {P : Program} {t : TypeId} {xs ys : List V} {b : Bool} (hg : eqGuardOk P t (.agg xs) = true) (h : eqV P eqTop t (.agg xs) (.agg ys) = some b) : binV P .eql t (.agg xs) (.agg ys) = some (.bool b) := by
  simp only [binV, hg, cond_true, h]
end Go.Am

namespace Go.Am
open Go
theorem cells_slice {P : Program} {w : World} {r : Reach} {base : Nat} {u e : TypeId} {v : Value} (hu : P.underlying u = some (.slice e)) (h : Value.okWide P w r base u v) : v.cells = #[v] := by
  unfold Value.okWide at h
  rw [hu] at h
  cases v with
  | agg cs =>
    have h : Cell.okWide P w r base u (.agg cs) := h
    unfold Cell.okWide Cell.ok at h
    rw [hu] at h
    exact h.elim
  | _ => rfl
end Go.Am

namespace Go.Am
open Go

section
variable {P : Program} {call : CallF} {mu : Bool} {env : Env} {st : St}
def lkA (P : Program) (kt : TypeId) (z m k : V) : Ac := bif ckKey P 10000 kt k && k.key then (match m with
        | .nilm => .ret (bif true then .tup [z, .bool false] else z)
        | .map n => .get n fun
          | .mp es _ => (match findV P kt k es with
            | some (some (_, v)) => .ret (bif true then .tup [v, .bool true] else v)
            | some none => .ret (bif true then .tup [z, .bool false] else z)
            | none => .fail)
          | _ => .fail
        | _ => .fail) else .fail
theorem r_lookup {t kt et : TypeId} {z : V} (hu : P.underlying t = some (.map kt et)) (hz : zrT P et = some z) (m i : Operand) : opR P call mu (.lookup t m i true) env st = wetR (outR (lkA P kt z (opv env m) (opv env i)) st) := by
  rw [r_of _ (by simp)]
  simp only [opA, hu, hz, lkA]
  rfl
theorem ck_str {kt : TypeId} (hk : P.underlying kt = some .string) (s : List UInt8) : ckKey P 10000 kt (.str s) = true := by
  show ckKey P (9999 + 1) kt (.str s) = true
  simp only [ckKey, hk]
theorem lk_none {kt : TypeId} (hk : P.underlying kt = some .string) (z : V) (n : Nat) (s : List UInt8) (hg : st.h.get n = some (.mp [] 0)) : outR (lkA P kt z (.map n) (.str s)) st = some (.tup [z, .bool false], st, [n]) := by
  have h2 : (V.str s).key = true := rfl
  simp only [lkA, ck_str hk, h2, Bool.and_self, cond_true, outR, runA, hg, findV]
def muA (P : Program) (kt : TypeId) (m k x : V) : Ac := match m with
  | .map n => bif ckKey P 10000 kt k && k.key && x.flat then .get n fun
      | .mp es clk => (match findV P kt k es with
        | some (some (i, _)) => (match es[i]? with
          | some e => bif e.k.keyB k then .put n (.mp (setNth es i k x) clk) (.ret .und) else .fail
          | none => .fail)
        | some none => .put n (.mp (es ++ [⟨k, x, clk⟩]) (clk + 1)) (.ret .und)
        | none => .fail)
      | _ => .fail
      else .fail
  | _ => .fail
theorem r_mapUpdate {t kt et : TypeId} (hu : P.underlying t = some (.map kt et)) (m k x : Operand) : opR P call mu (.mapUpdate t m k x) env st = wetR (outR (muA P kt (opv env m) (opv env k) (opv env x)) st) := by
  rw [r_of _ (by simp)]
  simp only [opA, hu, muA]
  cases opv env m <;> rfl
theorem mu_none {kt : TypeId} (hk : P.underlying kt = some .string) (x : V) (hx : x.flat = true) (n : Nat) (s : List UInt8) (hg : st.h.get n = some (.mp [] 0)) : outR (muA P kt (.map n) (.str s) x) st = some (.und, st.putO n (.mp [⟨.str s, x, 0⟩] 1), [n]) := by
  have h2 : (V.str s).key = true := rfl
  simp only [muA, ck_str hk, h2, hx, Bool.and_self, cond_true, outR, runA, hg, findV, List.nil_append, Nat.zero_add]
theorem mu_int {kt : TypeId} (hk : P.underlying kt = some .string) (ik : IntKind) (x : Int) (n : Nat) (s : List UInt8) (hg : st.h.get n = some (.mp [] 0)) : outR (muA P kt (.map n) (.str s) (.int ik x)) st = some (.und, st.putO n (.mp [⟨.str s, .int ik x, 0⟩] 1), [n]) := mu_none hk _ rfl n s hg
theorem b_mnil {t kt et : TypeId} (hu : P.underlying t = some (.map kt et)) (n : Nat) : binV P .eql t (.map n) .nilm = some (.bool false) := by
  simp [binV, eqGuardOk, eqTop, eqV, hu]
def mpH (o : Option O) (st : St) : Option (V × St) := match o with
  | none => some (.map st.nx, st.newO (.mp [] 0))
  | some _ => none
theorem mpH_none : mpH none st = some (.map st.nx, st.newO (.mp [] 0)) := rfl
theorem o_makeMap (t : TypeId) : op1 P call mu (.makeMap t none) env st = mpH (st.h.get st.nx) st := by
  rw [op_of _ _ _ (by simp)]
  simp only [opA, out1, runA, mpH]
  cases st.h.get st.nx <;> rfl
theorem r_nilck (x : Operand) : opR P call mu (.nilCheck x) env st = dryR (nilck (opv env x) st) := by
  rw [r_of _ (by simp)]
  simp only [opA, nilck]
  cases opv env x <;> rfl
theorem r_bsF {t e : TypeId} {sz b len : Nat} (hu : P.underlying t = some (.slice e)) (he : El P e sz b) (parts : Array (Nat × Operand)) (hl : parts.size = len ∧ len * sz ≤ 16777216 ∧ okIdx env sz 0 parts.toList = true) :
    opR P call false (.buildSlice t len parts) env st = some (.sl (catP env parts.toList) len sz .ex, st, [], false) := by
  obtain ⟨⟨z, h1, h2⟩, h3, _⟩ := he
  obtain ⟨h4, h5, h6⟩ := hl
  rw [r_of _ (by simp)]
  have hb : Nat.ble (len * sz) 16777216 = true := by simpa using h5
  have := fill_seq env sz parts.toList 0 [] (zeros z.cells (len * sz)) (by simp) (by simp [zeros, h4]) h6
  simp only [List.nil_append] at this
  simp only [opA, hu, h3, h1, hb, cond_true, this, cond_false, outR_ret, wetR_some]
def stR (o : Option O) (n off sz : Nat) (v : V) (st : St) : Option (V × St × List Nat) := match o with
  | some (.blk cs) => if v.cells.length = sz ∧ off + sz ≤ cs.length ∧ v.cells.all V.one = true then some (.und, st.putO n (.blk (splice cs off v.cells)), [n]) else none
  | _ => none
theorem stR_some (cs : List V) (n off sz : Nat) (v : V) : stR (some (.blk cs)) n off sz v st = if v.cells.length = sz ∧ off + sz ≤ cs.length ∧ v.cells.all V.one = true then some (.und, st.putO n (.blk (splice cs off v.cells)), [n]) else none := rfl
theorem r_store (t : TypeId) (a v : Operand) : opR P call mu (.store t a v) env st = wetR (outR (storeA P t (opv env a) (opv env v)) st) := by
  rw [r_of _ (by simp)]; rfl
theorem str_ptr {t : TypeId} {sz : Nat} (hs : szT P t = some sz) (n off : Nat) (v : V) : outR (storeA P t (.ptr n off) v) st = stR (st.h.get n) n off sz v st := by
  simp only [storeA, hs, outR, runA, stR]
  cases hg : st.h.get n with
  | none => rfl
  | some o =>
    cases o with
    | blk cs =>
      dsimp only
      by_cases hc : v.cells.length = sz ∧ off + sz ≤ cs.length ∧ v.cells.all V.one = true
      · rw [if_pos hc]
        have hb : (Nat.beq v.cells.length sz && Nat.ble (off + sz) cs.length && v.cells.all V.one) = true := by simp [hc.1, hc.2.1]; simpa using hc.2.2
        simp only [hb, cond_true, runA, hg]
      · rw [if_neg hc]
        have hb : (Nat.beq v.cells.length sz && Nat.ble (off + sz) cs.length && v.cells.all V.one) = false := by
          cases h : (Nat.beq v.cells.length sz && Nat.ble (off + sz) cs.length && v.cells.all V.one) with
          | false => rfl
          | true =>
            simp only [Bool.and_eq_true] at h
            exact absurd ⟨Nat.eq_of_beq_eq_true h.1.1, Nat.le_of_ble_eq_true h.1.2, h.2⟩ hc
        simp only [hb, cond_false, runA]
    | _ => rfl
theorem apr_nil {e : TypeId} {sz b : Nat} (h : El P e sz b) (cs : List V) (m : Nat) (cp : Cp) : outR (appendA P false e .snil (.sl cs m sz cp)) st =
    if m = 0 then some (.snil, st, []) else if exOk m 0 b = true then newR (st.h.get st.nx) sz cs m [] st else none := by
  obtain ⟨⟨z, h1, h2⟩, h3, h4⟩ := h
  simp only [appendA, h1, h3, h2, Nat.beq_refl, Bool.not_true, cond_false, rdMs, rdCells, cond_true, cond_beq, h4]
  by_cases hm : m = 0
  · rw [if_pos hm, if_pos hm]; rfl
  · rw [if_neg hm, if_neg hm]
    cases hx : exOk m 0 b with
    | false => rfl
    | true =>
      simp only [cond_true, if_true, newSl, outR, cond_false, runA, newR]
      cases hh : st.h.get st.nx <;> simp only [runA]
end

/-- A function that is handed a table's address: the table and its map are laid anew, and are unknown afterwards. -/
theorem two_small {P : Program} {orc : Nat → Option (List V → St → Option (V × St))} {f : Nat} {rest rest₀ : List V} {v v₀ : V} {st st₁ : St} {n m : Nat} {A : Aid} {d : Nat} {u : V}
    (hu : Wk u u) (hg : st.h.get n = some (.blk [u, .map m])) (hg2 : st.h.get m = some (.mp [] 0)) (hnm : n ≠ m)
    (hev : evF P A orc d (.f f) (.ptr 0 0 :: rest₀) ⟨(Tr.lf.set 0 (some (.blk [u, .map 1]))).set 1 (some (.mp [] 0)), 2, [], []⟩ = some (v₀, st₁))
    (h1 : WkL rest₀ rest) (h3 : Wk v v₀) : Small P orc f (.ptr n 0 :: rest) st v ((st.delO n).delO m) := by
  have gi : ∀ i, ((Tr.lf.set 0 (some (O.blk [u, .map 1]))).set 1 (some (.mp [] 0))).get i = if i = 1 then some (.mp [] 0) else if i = 0 then some (O.blk [u, .map 1]) else none := fun i => by
    simp [Tr.get_set, Tr.get]
  refine ⟨A, d, 2, ⟨(Tr.lf.set 0 (some (.blk [u, .map 1]))).set 1 (some (.mp [] 0)), 2, [], []⟩, st₁, .ptr 0 0 :: rest₀, v₀, fun i => if i = 0 then n else m, 0, id, hev, rfl, ⟨by simp [h1.1], fun i a b ha hb => ?_⟩, fun i o hi => ?_, fun i j hi hj e => ?_, fun j hj => by omega, fun i j hi => by omega, wk_up h3, rfl, (Lk.del st n).trans (Lk.del _ m), rfl, fun k o hk => ?_⟩
  · cases i with
    | zero =>
      simp only [List.getElem?_cons_zero, Option.some.injEq] at ha hb
      subst ha; subst hb
      intro κ H x hx
      obtain ⟨b, hr, rfl⟩ := hx.inv_ptr
      exact .ptr 0 0 b (by simp [Kap.pull, hr])
    | succ i => exact wk_dn (h1.2 i a b (by simpa using ha) (by simpa using hb))
  · have hi' := (gi i).symm.trans hi
    by_cases e : i = 1
    · subst e
      simp only [if_true] at hi'; cases hi'
      refine ⟨by omega, _, hg2, ⟨fun h => (by cases h), fun κ H b hb => ?_⟩⟩
      obtain ⟨ces, a1, a2, _⟩ := hb
      exact ⟨ces, a1, a2, fun i e c h => by simp at h⟩
    · rw [if_neg e] at hi'
      by_cases e0 : i = 0
      · subst e0
        simp only [if_true] at hi'; cases hi'
        refine ⟨by omega, _, hg, ⟨fun h => (by cases h), fun κ H b hb => ?_⟩⟩
        obtain ⟨arr, e, vs, a1, a2, a3⟩ := hb
        refine ⟨arr, e, vs, a1, ?_, a3⟩
        obtain ⟨x, y, rfl⟩ : ∃ x y, vs = [x, y] := by
          have h := a2.1
          match vs, h with
          | [x, y], _ => exact ⟨x, y, rfl⟩
        have r1 : RV κ H u x := a2.2 0 u x rfl rfl
        have r2 : RV κ H (.map m) y := a2.2 1 _ y rfl rfl
        refine .cons (hu κ _ H x (fun _ _ h => h) r1) (.cons ?_ ⟨rfl, fun i a b h => by simp at h⟩)
        cases r2 with
        | map _ r h => exact .map 1 r (by simp [Kap.pull, h])
      · rw [if_neg e0] at hi'; cases hi'
  · have z : ∀ i, (((Tr.lf.set 0 (some (O.blk [u, .map 1]))).set 1 (some (.mp [] 0))).get i).isSome → i = 0 ∨ i = 1 := fun i hi => by
      rw [gi] at hi
      by_cases e : i = 1
      · exact .inr e
      · by_cases e0 : i = 0
        · exact .inl e0
        · rw [if_neg e, if_neg e0] at hi; cases hi
    rcases z i hi with rfl | rfl <;> rcases z j hj with rfl | rfl
    · rfl
    · simp at e; exact absurd e hnm
    · simp at e; exact absurd e.symm hnm
    · rfl
  · rw [delO_get, delO_get] at hk
    by_cases e : k = m
    · rw [if_pos e] at hk; cases hk
    · rw [if_neg e] at hk
      by_cases e0 : k = n
      · rw [if_pos e0] at hk; cases hk
      · rw [if_neg e0] at hk
        refine .inr (.inr ⟨hk, by omega, fun i _ => ?_⟩)
        show k ≠ if i = 0 then n else m
        split
        · exact e0
        · exact e
/-- A function that is handed a table's address and leaves the table as it is. -/
theorem two_keep {P : Program} {orc : Nat → Option (List V → St → Option (V × St))} {f : Nat} {v v₀ : V} {st st₁ : St} {n m : Nat} {A : Aid} {d : Nat} {u : V}
    (hu : Wk u u) (hg : st.h.get n = some (.blk [u, .map m])) (hg2 : st.h.get m = some (.mp [] 0)) (hnm : n ≠ m)
    (hev : evF P A orc d (.f f) [.ptr 0 0] ⟨(Tr.lf.set 0 (some (.blk [u, .map 1]))).set 1 (some (.mp [] 0)), 2, [], []⟩ = some (v₀, st₁))
    (k0 : st₁.h.get 0 = some (.blk [u, .map 1])) (k1 : st₁.h.get 1 = some (.mp [] 0)) (h3 : Wk v v₀) : Small P orc f [.ptr n 0] st v st := by
  have gi : ∀ i, ((Tr.lf.set 0 (some (O.blk [u, .map 1]))).set 1 (some (.mp [] 0))).get i = if i = 1 then some (.mp [] 0) else if i = 0 then some (O.blk [u, .map 1]) else none := fun i => by
    simp [Tr.get_set, Tr.get]
  have z : ∀ i, (((Tr.lf.set 0 (some (O.blk [u, .map 1]))).set 1 (some (.mp [] 0))).get i).isSome → i = 0 ∨ i = 1 := fun i hi => by
    rw [gi] at hi
    by_cases e : i = 1
    · exact .inr e
    · by_cases e0 : i = 0
      · exact .inl e0
      · rw [if_neg e, if_neg e0] at hi; cases hi
  have two : ∀ vs : List Value, ∀ κ H w, PW κ H [u, .map w] vs → ∃ x y, vs = [x, y] ∧ RV κ H u x ∧ RV κ H (.map w) y := fun vs κ H w a2 => by
    obtain ⟨x, y, rfl⟩ : ∃ x y, vs = [x, y] := by
      have h := a2.1
      match vs, h with
      | [x, y], _ => exact ⟨x, y, rfl⟩
    exact ⟨x, y, rfl, a2.2 0 u x rfl rfl, a2.2 1 _ y rfl rfl⟩
  refine ⟨A, d, 2, ⟨(Tr.lf.set 0 (some (.blk [u, .map 1]))).set 1 (some (.mp [] 0)), 2, [], []⟩, st₁, [.ptr 0 0], v₀, fun i => if i = 0 then n else m, 0, id, hev, rfl, ⟨rfl, fun i a b ha hb => ?_⟩, fun i o hi => ?_, fun i j hi hj e => ?_, fun j hj => by omega, fun i j hi => by omega, wk_up h3, rfl, .refl _, rfl, fun k o hk => ?_⟩
  · cases i with
    | zero =>
      simp only [List.getElem?_cons_zero, Option.some.injEq] at ha hb
      subst ha; subst hb
      intro κ H x hx
      obtain ⟨b, hr, rfl⟩ := hx.inv_ptr
      exact .ptr 0 0 b (by simp [Kap.pull, hr])
    | succ i => simp at ha
  · have hi' := (gi i).symm.trans hi
    by_cases e : i = 1
    · subst e
      simp only [if_true] at hi'; cases hi'
      refine ⟨by omega, _, hg2, ⟨fun h => (by cases h), fun κ H b hb => ?_⟩⟩
      obtain ⟨ces, a1, a2, _⟩ := hb
      exact ⟨ces, a1, a2, fun i e c h => by simp at h⟩
    · rw [if_neg e] at hi'
      by_cases e0 : i = 0
      · subst e0
        simp only [if_true] at hi'; cases hi'
        refine ⟨by omega, _, hg, ⟨fun h => (by cases h), fun κ H b hb => ?_⟩⟩
        obtain ⟨arr, e, vs, a1, a2, a3⟩ := hb
        refine ⟨arr, e, vs, a1, ?_, a3⟩
        obtain ⟨x, y, rfl, r1, r2⟩ := two vs _ _ _ a2
        refine .cons (hu κ _ H x (fun _ _ h => h) r1) (.cons ?_ ⟨rfl, fun i a b h => by simp at h⟩)
        cases r2 with
        | map _ r h => exact .map 1 r (by simp [Kap.pull, h])
      · rw [if_neg e0] at hi'; cases hi'
  · rcases z i hi with rfl | rfl <;> rcases z j hj with rfl | rfl
    · rfl
    · simp at e; exact absurd e hnm
    · simp at e; exact absurd e.symm hnm
    · rfl
  · by_cases e : k = m
    · subst e
      rw [hg2] at hk; cases hk
      refine .inl ⟨1, _, by omega, by simp, k1, ⟨fun h => (by cases h), fun κ₁ κ₂ H b l hr hb => ?_⟩⟩
      obtain ⟨ces, a1, a2, _⟩ := hb
      exact ⟨ces, a1, a2, fun i e c h => by simp at h⟩
    · by_cases e0 : k = n
      · subst e0
        rw [hg] at hk; cases hk
        refine .inl ⟨0, _, by omega, by simp, k0, ⟨fun h => (by cases h), fun κ₁ κ₂ H b l hr hb => ?_⟩⟩
        obtain ⟨arr, e, vs, a1, a2, a3⟩ := hb
        refine ⟨arr, e, vs, a1, ?_, a3⟩
        obtain ⟨x, y, rfl, r1, r2⟩ := two vs _ _ _ a2
        refine .cons (hu κ₁ _ H x l.imm r1) (.cons ?_ ⟨rfl, fun i a b h => by simp at h⟩)
        cases r2 with
        | map _ r h =>
          have := (l.old 1 (by omega) r h).1
          exact .map m r (by simpa using this)
      · refine .inr (.inr ⟨hk, by omega, fun i _ => ?_⟩)
        show k ≠ if i = 0 then n else m
        split
        · exact e0
        · exact e
/-- An outcome's parts. -/
def lookS (ns : List Nat) (r : Option (V × St)) : Option (V × List (Option O)) := match r with
  | some (v, st) => some (v, ns.map st.h.get)
  | none => none
theorem lookS_inv {ns : List Nat} {r : Option (V × St)} {v : V} {os : List (Option O)} (h : lookS ns r = some (v, os)) : ∃ st, r = some (v, st) ∧ ns.map st.h.get = os := by
  unfold lookS at h
  split at h
  · cases h; exact ⟨_, rfl, rfl⟩
  · cases h
/-- A table that knows nothing, and its map. -/
def tabM : O → Option Nat
  | .blk [.snil, .map m] => some m
  | _ => none
def emptyM : O → Bool
  | .mp [] 0 => true
  | _ => false
def tabO (st : St) (n : Nat) : Option Nat := match st.h.get n with
  | some o => (match tabM o with
    | some m => (match st.h.get m with
      | some o2 => bif emptyM o2 && !(Nat.beq n m) then some m else none
      | none => none)
    | none => none)
  | none => none
theorem tabM_eq {o : O} {m : Nat} (h : tabM o = some m) : o = .blk [.snil, .map m] := by
  unfold tabM at h
  split at h
  · cases h; rfl
  · cases h
theorem emptyM_eq {o : O} (h : emptyM o = true) : o = .mp [] 0 := by
  unfold emptyM at h
  split at h
  · rfl
  · cases h
theorem tabO_inv {st : St} {n m : Nat} (h : tabO st n = some m) : st.h.get n = some (.blk [.snil, .map m]) ∧ st.h.get m = some (.mp [] 0) ∧ n ≠ m := by
  unfold tabO at h
  split at h
  · rename_i o ho
    split at h
    · rename_i m' hm
      split at h
      · rename_i o2 ho2
        cases hb : (emptyM o2 && !(Nat.beq n m')) with
        | false => rw [hb] at h; cases h
        | true =>
          rw [hb] at h
          cases h
          simp only [Bool.and_eq_true] at hb
          refine ⟨by rw [ho, tabM_eq hm], by rw [ho2, emptyM_eq hb.1], fun e => ?_⟩
          subst e
          simp at hb
      · cases h
    · cases h
  · cases h
theorem tabO_some {st : St} {n m : Nat} (h1 : st.h.get n = some (.blk [.snil, .map m])) (h2 : st.h.get m = some (.mp [] 0)) (h3 : n ≠ m) : tabO st n = some m := by
  have hb : Nat.beq n m = false := by
    cases h : Nat.beq n m with
    | false => rfl
    | true => exact absurd (Nat.eq_of_beq_eq_true h) h3
  simp only [tabO, h1, tabM, h2, emptyM, hb]
  rfl
def madeO : List V → St → Option (V × St) := fun args st => match args with
  | [.ptr n 0] => (match tabO st n with | some _ => some (.bool true, st) | none => none)
  | _ => none
theorem madeO_inv {args : List V} {st st' : St} {u : V} (h : madeO args st = some (u, st')) : ∃ n m, args = [.ptr n 0] ∧ tabO st n = some m ∧ u = .bool true ∧ st' = st := by
  unfold madeO at h
  split at h
  · rename_i n
    split at h
    · rename_i m hm
      cases h
      exact ⟨n, m, rfl, hm, rfl, rfl⟩
    · cases h
  · cases h
theorem madeO_some {st : St} {n m : Nat} (h : tabO st n = some m) : madeO [.ptr n 0] st = some (.bool true, st) := by
  show (match tabO st n with | some _ => some (V.bool true, st) | none => none) = _
  rw [h]
/-- What a table that knows nothing says to bytes. -/
def sumO : List V → St → Option (V × St) := fun args st => match args with
  | [.ptr n 0, .sl cs len sz cp] => (match tabO st n, bytesV (.sl cs len sz cp) with
    | some m, some bs => if bs.length ≤ 1099511627776 then some (.int .i64 1, (st.delO n).delO m) else none
    | _, _ => none)
  | _ => none
theorem sumO_inv {args : List V} {st st' : St} {u : V} (h : sumO args st = some (u, st')) : ∃ n m bs cp, args = [.ptr n 0, bsl bs cp] ∧ tabO st n = some m ∧ bs.length ≤ 1099511627776 ∧ u = .int .i64 1 ∧ st' = (st.delO n).delO m := by
  unfold sumO at h
  split at h
  · rename_i n cs len sz cp
    split at h
    · rename_i m bs hm hb
      split at h
      · rename_i hl
        cases h
        rcases bytesV_eq hb with ⟨e, _⟩ | ⟨cp', e⟩
        · cases e
        · exact ⟨n, m, bs, cp', by rw [e], hm, hl, rfl, rfl⟩
      · cases h
    · cases h
  · cases h
theorem sumO_some {st : St} {n m : Nat} {bs : List Nat} {cp : Cp} (h : tabO st n = some m) (hl : bs.length ≤ 1099511627776) : sumO [.ptr n 0, bsl bs cp] st = some (.int .i64 1, (st.delO n).delO m) := by
  have hb := bytesV_bsl bs cp
  unfold bsl at hb
  show (match tabO st n, bytesV (.sl (bs.map u8V) bs.length 1 cp) with
    | some m, some bs => if bs.length ≤ 1099511627776 then some (V.int .i64 1, (st.delO n).delO m) else none
    | _, _ => none) = _
  rw [h, hb]
  simp only [hl, if_true]
/-- A function that is handed a block's address: the block is unknown afterwards. -/
theorem cell_drop {P : Program} {orc : Nat → Option (List V → St → Option (V × St))} {f : Nat} {rest rest₀ cs cs₀ : List V} {v v₀ : V} {st st₁ : St} {n : Nat} {A : Aid} {d : Nat}
    (hg : st.h.get n = some (.blk cs))
    (hev : evF P A orc d (.f f) (.ptr 0 0 :: rest₀) ⟨Tr.lf.set 0 (some (.blk cs₀)), 1, [], []⟩ = some (v₀, st₁))
    (h1 : WkL rest₀ rest) (h2 : WkL cs₀ cs) (h3 : Wk v v₀) : Small P orc f (.ptr n 0 :: rest) st v (st.delO n) := by
  refine ⟨A, d, 1, ⟨Tr.lf.set 0 (some (.blk cs₀)), 1, [], []⟩, st₁, .ptr 0 0 :: rest₀, v₀, fun _ => n, 0, id, hev, rfl, ⟨by simp [h1.1], fun i a b ha hb => ?_⟩, fun i o hi => ?_, fun i j hi hj _ => ?_, fun j hj => by omega, fun i j hi => by omega, wk_up h3, rfl, .del _ _, rfl, fun m o hm => ?_⟩
  · cases i with
    | zero =>
      simp only [List.getElem?_cons_zero, Option.some.injEq] at ha hb
      subst ha; subst hb
      intro κ H x hx
      obtain ⟨b, hr, rfl⟩ := hx.inv_ptr
      exact .ptr 0 0 b (by simp [Kap.pull, hr])
    | succ i => exact wk_dn (h1.2 i a b (by simpa using ha) (by simpa using hb))
  · have hi' : (if i = 0 then some (O.blk cs₀) else none) = some o := by simpa [Tr.get_set, Tr.get] using hi
    by_cases e : i = 0
    · rw [if_pos e] at hi'; cases hi'
      subst e
      refine ⟨by omega, _, hg, ⟨fun h => (by cases h), fun κ H b hb => ?_⟩⟩
      obtain ⟨arr, e, vs, a1, a2, a3⟩ := hb
      exact ⟨arr, e, vs, a1, h2.dn a2, a3⟩
    · rw [if_neg e] at hi'; cases hi'
  · have z : ∀ i, ((⟨Tr.lf.set 0 (some (O.blk cs₀)), 1, [], []⟩ : St).h.get i).isSome → i = 0 := fun i hi => by
      by_cases e : i = 0
      · exact e
      · simp [Tr.get_set, Tr.get, e] at hi
    rw [z i hi, z j hj]
  · rw [delO_get] at hm
    by_cases e : m = n
    · rw [if_pos e] at hm; cases hm
    · rw [if_neg e] at hm
      exact .inr (.inr ⟨hm, by omega, fun i hi => e⟩)
def plainO : O → Bool
  | .blk [.snil] => true
  | _ => false
theorem plainO_eq {o : O} (h : plainO o = true) : o = .blk [.snil] := by
  unfold plainO at h
  split at h
  · rfl
  · cases h
def isPl (st : St) (n : Nat) : Bool := match st.h.get n with | some o => plainO o | none => false
theorem isPl_eq {st : St} {n : Nat} (h : isPl st n = true) : st.h.get n = some (.blk [.snil]) := by
  unfold isPl at h
  split at h
  · rename_i o ho; rw [ho, plainO_eq h]
  · cases h
theorem isPl_some {st : St} {n : Nat} (h : st.h.get n = some (.blk [.snil])) : isPl st n = true := by
  simp only [isPl, h, plainO]
/-- What the document's table that knows nothing says to bytes. -/
def rsumO : List V → St → Option (V × St) := fun args st => match args with
  | [.ptr n 0, .sl cs len sz cp] => bif isPl st n then (match bytesV (.sl cs len sz cp) with
    | some bs => if 0 < bs.length ∧ bs.length ≤ 1099511627776 then some (.int .i64 1, st.delO n) else none
    | none => none) else none
  | _ => none
theorem rsumO_inv {args : List V} {st st' : St} {u : V} (h : rsumO args st = some (u, st')) : ∃ n bs cp, args = [.ptr n 0, bsl bs cp] ∧ st.h.get n = some (.blk [.snil]) ∧ 0 < bs.length ∧ bs.length ≤ 1099511627776 ∧ u = .int .i64 1 ∧ st' = st.delO n := by
  unfold rsumO at h
  split at h
  · rename_i n cs len sz cp
    cases hp : isPl st n with
    | false => rw [hp] at h; cases h
    | true =>
      rw [hp] at h
      simp only [cond_true] at h
      split at h
      · rename_i bs hb
        split at h
        · rename_i hl
          cases h
          rcases bytesV_eq hb with ⟨e, _⟩ | ⟨cp', e⟩
          · cases e
          · exact ⟨n, bs, cp', by rw [e], isPl_eq hp, hl.1, hl.2, rfl, rfl⟩
        · cases h
      · cases h
  · cases h
theorem rsumO_some {st : St} {n : Nat} {bs : List Nat} {cp : Cp} (h : st.h.get n = some (.blk [.snil])) (h0 : 0 < bs.length) (hl : bs.length ≤ 1099511627776) : rsumO [.ptr n 0, bsl bs cp] st = some (.int .i64 1, st.delO n) := by
  have hb := bytesV_bsl bs cp
  unfold bsl at hb
  show (bif isPl st n then (match bytesV (.sl (bs.map u8V) bs.length 1 cp) with
    | some bs => if 0 < bs.length ∧ bs.length ≤ 1099511627776 then some (V.int .i64 1, st.delO n) else none
    | none => none) else none) = _
  rw [isPl_some h, hb]
  simp only [h0, hl, and_self, if_true, cond_true]
end Go.Am
