/-
  THE ABSTRACT MACHINE, PART 13: maps, iterators.
-/
import Derived.Test.YtiicpeidjhbhiaaGreatAm12
namespace Go.Am
open Go

theorem bytes_ext {a b : ByteArray} (h : a.data.toList = b.data.toList) : a = b := by
  obtain ⟨⟨x⟩⟩ := a
  obtain ⟨⟨y⟩⟩ := b
  simp at h
  rw [h]

/-- Is it a row of cells? -/
def isRow : Obj → Bool
  | .cells _ _ _ => true
  | _ => false

section keys
variable {P : Program} {κ : Kap} {H : Array Obj}

theorem keyB1_sound {a b : V} {x y : Value} (h : a.keyB1 b = true) (ha : RV κ H a x) (hb : RV κ H b y) : x = y ∧ ∀ n, Instr.sameBits n x y = true := by
  unfold V.keyB1 at h
  split at h
  · simp only [Bool.and_eq_true, decide_eq_true_eq, beq_iff_eq] at h
    obtain ⟨rfl, rfl⟩ := h
    obtain rfl := ha.inv_int
    obtain rfl := hb.inv_int
    exact ⟨rfl, fun n => by cases n <;> simp [Instr.sameBits]⟩
  · have h := eq_of_beq h
    subst h
    obtain ⟨s, rfl, h1⟩ := ha.inv_str
    obtain ⟨t, rfl, h2⟩ := hb.inv_str
    have : s = t := bytes_ext (h1.trans h2.symm)
    subst this
    have e : (s == s) = true := by rw [bytes_beq]; exact beq_self_eq_true _
    exact ⟨rfl, fun n => by cases n <;> simp [Instr.sameBits, e]⟩
  · have h := eq_of_beq h
    subst h
    obtain rfl := ha.inv_bool
    obtain rfl := hb.inv_bool
    exact ⟨rfl, fun n => by cases n <;> simp [Instr.sameBits]⟩
  · cases h

theorem keysB_sound : ∀ {a b : List V} {x y : List Value}, keysB a b = true → PW κ H a x → PW κ H b y → x = y ∧ ∀ n, ((x.zip y).all fun (p, q) => Instr.sameBits n p q) = true
  | [], [], x, y, _, ha, hb => by
    have h1 : x = [] := by have := ha.1; simpa using this.symm
    have h2 : y = [] := by have := hb.1; simpa using this.symm
    subst h1; subst h2; exact ⟨rfl, fun _ => rfl⟩
  | a :: as, b :: bs, x, y, h, ha, hb => by
    cases x with
    | nil => have := ha.1; simp at this
    | cons x xs =>
      cases y with
      | nil => have := hb.1; simp at this
      | cons y ys =>
        simp only [keysB, Bool.and_eq_true] at h
        obtain ⟨e1, s1⟩ := keyB1_sound h.1 ha.head hb.head
        obtain ⟨e2, s2⟩ := keysB_sound h.2 ha.tail hb.tail
        subst e1; subst e2
        exact ⟨rfl, fun n => by simp only [List.zip_cons_cons, List.all_cons, s1 n, Bool.true_and]; exact s2 n⟩
  | [], _ :: _, _, _, h, _, _ => by simp [keysB] at h
  | _ :: _, [], _, _, h, _, _ => by simp [keysB] at h

theorem keyB_sound {a b : V} {x y : Value} (h : a.keyB b = true) (ha : RV κ H a x) (hb : RV κ H b y) : x = y ∧ ∀ n, Instr.sameBits (n + 1) x y = true := by
  unfold V.keyB at h
  split at h
  · obtain ⟨vs, rfl, p⟩ := ha.inv_agg
    obtain ⟨us, rfl, q⟩ := hb.inv_agg
    obtain ⟨e, s⟩ := keysB_sound h p q
    have : vs = us := Array.ext' e
    subst this
    exact ⟨rfl, fun n => by simp only [Instr.sameBits, beq_self_eq_true, Bool.true_and]; exact s n⟩
  · obtain ⟨e, s⟩ := keyB1_sound h ha hb
    exact ⟨e, fun n => s (n + 1)⟩

theorem ckKey_sound : ∀ (d : Nat) (t : TypeId) (v : V) (v' : Value) (em : Bool), ckKey P d t v = true → RV κ H v v' → ∀ w, (Instr.checkKey em d t v').run P w = .ok () w := by
  intro d
  induction d with
  | zero => intro t v v' em h; simp [ckKey] at h
  | succ d ih =>
    intro t v v' em h hv w
    unfold ckKey at h
    cases hu : P.underlying t with
    | none => rw [hu] at h; cases h
    | some ty =>
      rw [hu] at h
      cases ty with
      | int k => simp [Instr.checkKey, run_underlying hu]
      | string => simp [Instr.checkKey, run_underlying hu]
      | bool => simp [Instr.checkKey, run_underlying hu]
      | struct fields =>
        dsimp only at h
        split at h
        · rename_i cs
          obtain ⟨vs, rfl, p⟩ := hv.inv_agg
          simp only [Instr.checkKey, Sem.run_bind, run_underlying hu, Result.andThen_ok]
          rw [← Array.forIn_toList]
          rw [List.all_eq_true] at h
          have key : ∀ l : List Field, (∀ f ∈ l, (if f.name = "_" then true else (match partV P f.type cs f.offset with | some x => ckKey P d f.type x | none => false)) = true) →
              ((forIn l PUnit.unit fun f r => if f.name ≠ "_" then (do
                let __do_lift ← part f.type vs f.offset
                Instr.checkKey em d f.type __do_lift
                pure PUnit.unit
                pure (ForInStep.yield PUnit.unit)) else (do pure PUnit.unit; pure (ForInStep.yield PUnit.unit)) : Sem PUnit)).run P w = .ok PUnit.unit w := by
            intro l
            induction l with
            | nil => intro _; rfl
            | cons f l ihl =>
              intro hl
              have hf := hl f (by simp)
              have ih' := ihl (fun g hg => hl g (by simp [hg]))
              simp only [List.forIn_cons, Sem.run_bind]
              by_cases hn : f.name = "_"
              · rw [if_neg (by simp [hn])]
                simp only [Sem.run_pure, Result.andThen_ok]
                exact ih'
              · rw [if_neg hn] at hf
                rw [if_pos hn]
                cases hp : partV P f.type cs f.offset with
                | none => rw [hp] at hf; cases hf
                | some x =>
                  rw [hp] at hf
                  obtain ⟨x', r1, r2⟩ := run_part hp p w
                  simp only [Sem.run_bind, r1, Result.andThen_ok, ih _ _ _ em hf r2 w, Sem.run_pure]
                  exact ih'
          have := congrArg (fun r => Result.andThen r (fun (_ : PUnit) w' => Result.ok () w')) (key fields.toList h)
          simpa using this
        · cases h
      | array len e =>
        dsimp only at h
        split at h
        · rename_i cs sz hs
          obtain ⟨vs, rfl, p⟩ := hv.inv_agg
          simp only [Instr.checkKey, Sem.run_bind, run_underlying hu, Result.andThen_ok]
          rw [Std.Legacy.Range.forIn_eq_forIn_range']
          simp only [Std.Legacy.Range.size, Nat.sub_zero, Nat.add_sub_cancel, Nat.div_one]
          rw [List.range_eq_range', List.all_eq_true] at h
          generalize List.range' 0 len 1 = l at h ⊢
          induction l with
          | nil => simp
          | cons i l ihl =>
            have hf := h i (by simp)
            have ih' := ihl (fun g hg => h g (by simp [hg]))
            cases hp : partV P e cs (i * sz) with
            | none => rw [hp] at hf; cases hf
            | some x =>
              rw [hp] at hf
              obtain ⟨x', r1, r2⟩ := run_part hp p w
              simp only [List.forIn_cons, Sem.run_bind, run_szT hs, r1, Result.andThen_ok, ih _ _ _ em hf r2 w, Sem.run_pure]
              exact ih'
        · cases h
      | _ => cases h

/-- Entries. -/
def EPW (κ : Kap) (H : Array Obj) (es : List En) (cs : List MapEntry) : Prop :=
  es.length = cs.length ∧ ∀ (i : Nat) e c, es[i]? = some e → cs[i]? = some c → RV κ H e.k c.key ∧ RV κ H e.v c.val ∧ e.born = c.born

theorem EPW.tail {e : En} {c : MapEntry} {es : List En} {cs : List MapEntry} (h : EPW κ H (e :: es) (c :: cs)) : EPW κ H es cs :=
  ⟨by simpa using h.1, fun i a b h1 h2 => h.2 (i + 1) a b (by simpa using h1) (by simpa using h2)⟩
theorem EPW.cons {e : En} {c : MapEntry} {es : List En} {cs : List MapEntry} (h1 : RV κ H e.k c.key) (h2 : RV κ H e.v c.val) (h3 : e.born = c.born) (h : EPW κ H es cs) : EPW κ H (e :: es) (c :: cs) :=
  ⟨by simp [h.1], fun i a b g1 g2 => by
    cases i with
    | zero => simp at g1 g2; subst g1; subst g2; exact ⟨h1, h2, h3⟩
    | succ i => simp at g1 g2; exact h.2 i a b g1 g2⟩

theorem sameNow_eq {t : TypeId} {d : TypeDesc} (hu : P.underlying t = some d) {x y : Value} {b : Bool} (h : Instr.sameNow d x y = some b) (w : World) : (Op.equal t x y).run P w = .ok b w := by
  unfold Instr.sameNow at h
  split at h
  · split at h
    · rename_i k a k' b' hk
      subst hk; cases h; exact run_equalIn_int w 9999 t _ _ _ _ hu
    · cases h
  · cases h
    rw [beq_toListBytes]
    exact run_equalIn_string w 9999 t _ _ hu
  · cases h
    exact run_equalIn_bool' w 9999 t _ _ hu
  · cases h

theorem find_sound {t : TypeId} {k : V} {k' : Value} (hk : RV κ H k k') : ∀ (es : List En) (cs : List MapEntry) (r : Option (Nat × V)), findV P t k es = some r → EPW κ H es cs → ∀ (w : World) (i0 : Nat),
    ∃ r' : Option (Nat × Value), (Instr.findAsking t k' cs i0).run P w = .ok r' w ∧ (∀ d, P.underlying t = some d → ∀ q, Instr.findNow d k' cs i0 = some q → q = r') ∧
      (match r, r' with | none, none => True | some (i, v), some (j, u) => j = i0 + i ∧ RV κ H v u ∧ ∃ e c, es[i]? = some e ∧ cs[i]? = some c ∧ v = e.v ∧ u = c.val ∧ RV κ H e.k c.key | _, _ => False) := by
  intro es
  induction es with
  | nil =>
    intro cs r h hp w i0
    simp only [findV] at h; cases h
    cases cs with
    | nil => exact ⟨none, rfl, fun d _ q hq => by simp [Instr.findNow] at hq; exact hq.symm, trivial⟩
    | cons _ _ => have := hp.1; simp at this
  | cons e es ih =>
    intro cs r h hp w i0
    cases cs with
    | nil => have := hp.1; simp at this
    | cons c cs =>
      obtain ⟨h1, h2, h3⟩ := hp.2 0 e c rfl rfl
      simp only [findV] at h
      cases he : eqV P eqTop t k e.k with
      | none => rw [he] at h; cases h
      | some b =>
        rw [he] at h
        have hq := eqTop_sound he hk h1 w
        cases b with
        | true =>
          simp only at h; cases h
          refine ⟨some (i0, c.val), by simp [Instr.findAsking, hq], fun d hu q hn => ?_, ⟨rfl, h2, e, c, rfl, rfl, rfl, rfl, h1⟩⟩
          simp only [Instr.findNow] at hn
          cases hs : Instr.sameNow d k' c.key with
          | none => rw [hs] at hn; cases hn
          | some b =>
            have := sameNow_eq (P := P) hu hs w
            rw [hq] at this
            cases this
            rw [hs] at hn; cases hn; rfl
        | false =>
          simp only at h
          have hr : ∃ r0, findV P t k es = some r0 ∧ r = (match r0 with | some (i, u) => some (i + 1, u) | none => none) := by
            cases hf : findV P t k es with
            | none => rw [hf] at h; cases h
            | some r0 =>
              rw [hf] at h
              cases r0 with
              | none => cases h; exact ⟨none, rfl, rfl⟩
              | some x => obtain ⟨i, u⟩ := x; cases h; exact ⟨some (i, u), rfl, rfl⟩
          obtain ⟨r0, hf, rfl⟩ := hr
          obtain ⟨r', a1, a2, a3⟩ := ih cs r0 hf hp.tail w (i0 + 1)
          refine ⟨r', by simp [Instr.findAsking, hq, a1], fun d hu q hn => ?_, ?_⟩
          · simp only [Instr.findNow] at hn
            cases hs : Instr.sameNow d k' c.key with
            | none => rw [hs] at hn; cases hn
            | some b =>
              have := sameNow_eq (P := P) hu hs w
              rw [hq] at this
              cases this
              rw [hs] at hn
              exact a2 d hu q hn
          · cases r0 with
            | none => cases r' <;> simp_all
            | some x =>
              obtain ⟨i, v⟩ := x
              cases r' with
              | none => exact a3.elim
              | some y =>
                obtain ⟨j, u⟩ := y
                obtain ⟨b1, b2, e', c', b3, b4, b5, b6, b7⟩ := a3
                exact ⟨by omega, b2, e', c', by simpa using b3, by simpa using b4, b5, b6, b7⟩

theorem findKey_sound {t : TypeId} {d : TypeDesc} (hu : P.underlying t = some d) {k : V} {k' : Value} (hk : RV κ H k k') {es : List En} {cs : List MapEntry} {r : Option (Nat × V)} (h : findV P t k es = some r) (hp : EPW κ H es cs) (w : World) :
    ∃ r' : Option (Nat × Value), (Instr.findKey t k' cs).run P w = .ok r' w ∧
      (match r, r' with | none, none => True | some (i, v), some (j, u) => j = i ∧ RV κ H v u ∧ ∃ e c, es[i]? = some e ∧ cs[i]? = some c ∧ v = e.v ∧ u = c.val ∧ RV κ H e.k c.key | _, _ => False) := by
  obtain ⟨r', a1, a2, a3⟩ := find_sound hk es cs r h hp w 0
  refine ⟨r', ?_, ?_⟩
  · unfold Instr.findKey
    simp only [Sem.run_bind, run_underlying hu, Result.andThen_ok]
    cases hn : Instr.findNow d k' cs 0 with
    | none => exact a1
    | some q => have := a2 d hu q hn; subst this; rfl
  · cases r with
    | none => cases r' <;> simp_all
    | some x =>
      cases r' with
      | none => exact a3
      | some y => obtain ⟨b1, b2⟩ := a3; exact ⟨by omega, b2⟩
end keys

section ops
variable {P : Program} {κ : Kap} {st st' : St} {w : World} {v : V} {rd rd' : List Nat}

theorem mp_entries (i : Inv P κ st.h.get w.heap) {n b : Nat} {es : List En} {clk : Nat} (hn : st.h.get n = some (.mp es clk)) (hr : κ.ρ n = some b) :
    ∃ ces : Array MapEntry, w.heap[b]? = some (.map ces clk) ∧ EPW κ w.heap es ces.toList := by
  obtain ⟨b', hr', ces, h1, h2, h3⟩ := i.obj n _ hn
  rw [hr] at hr'; cases hr'
  exact ⟨ces, h1, by simpa using h2, fun i e c a1 a2 => h3 i e c a1 (by simpa using a2)⟩

theorem run_getObj {r : Nat} {o : Obj} (h : w.heap[r]? = some o) (ho : isRow o = false) : (getObj r).run P w = .ok o w := by
  cases o <;> first | (simp [isRow] at ho; done) | simp [getObj, Sem.run, h]
theorem run_setObj {r : Nat} {o o' : Obj} (h : w.heap[r]? = some o) (ho : isRow o = false) : (setObj r o').run P w = .ok () { w with heap := w.heap.setIfInBounds r o' } := by
  cases o <;> first | (simp [isRow] at ho; done) | simp [setObj, Sem.run, h]

/-- An object of ours that is no row of cells is turned. -/
theorem set_obj (i : Inv P κ st.h.get w.heap) {n b : Nat} {o o' : O} {x x' : Obj} (hn : st.h.get n = some o) (hr : κ.ρ n = some b) (hx : w.heap[b]? = some x) (hc : isRow x = false) (hnb : o ≠ .buf)
    (ho : ∀ κ' H', Ext κ w.heap κ' H' → κ'.ρ = κ.ρ → H'[b]? = some x' → OB P κ' H' n b o') :
    Inv P κ (upd st.h.get n (some o')) (w.heap.setIfInBounds b x') ∧ Fr κ st.h.get w.heap κ (upd st.h.get n (some o')) (w.heap.setIfInBounds b x') st.nx st.nx := by
  have hb : b < w.heap.size := (Array.getElem?_eq_some_iff.1 hx).1
  refine inv_put i n b o o' _ hn hr hnb (by simp) (fun c hcb => by rw [Array.getElem?_setIfInBounds, if_neg (Ne.symm hcb)]) (fun m hm => ?_) (fun e => ho κ _ e rfl (by simp [hb])) st.nx
  exfalso
  unfold hz at hm
  rw [hx] at hm
  cases x <;> simp [isRow] at hc hm

theorem op_lookup {t : TypeId} {m k : V} {m' k' : Value} {ok : Bool} (h : runA (match P.underlying t with
    | some (.map kt et) => (match zrT P et with
      | some z => bif ckKey P 10000 kt k && k.key then (match m with
        | .nilm => .ret (bif ok then .tup [z, .bool false] else z)
        | .map n => .get n fun
          | .mp es _ => (match findV P kt k es with
            | some (some (_, v)) => .ret (bif ok then .tup [v, .bool true] else v)
            | some none => .ret (bif ok then .tup [z, .bool false] else z)
            | none => .fail)
          | _ => .fail
        | _ => .fail) else .fail
      | none => .fail)
    | _ => .fail) st rd = .val v st' rd') (i : Inv P κ st.h.get w.heap) (hm : RV κ w.heap m m') (hk : RV κ w.heap k k') :
    OpR P κ st w ((do let r ← Instr.lookup t m' k' ok; pure (Next.value r) : Sem Next).run P w) v st' := by
  split at h
  · rename_i kt et hu
    split at h
    · rename_i z hz
      obtain ⟨zv, hzr, rfl⟩ := zrT_run hz w
      cases hc : (ckKey P 10000 kt k && k.key) with
      | false => rw [hc] at h; exact (runA_fail h).elim
      | true =>
        rw [hc] at h
        simp only [cond_true] at h
        simp only [Bool.and_eq_true] at hc
        have ck := fun em => ckKey_sound 10000 kt k k' em hc.1 hk w
        have fin : ∀ (x : V) (u : Value) (b : Bool), RV κ w.heap x u → RV κ w.heap (bif ok then .tup [x, .bool b] else x) (if ok then .tuple #[u, .bool b] else u) := fun x u b hx => by
          cases ok
          · exact hx
          · exact RV.tup' (vs := [u, .bool b]) (.cons hx (.cons (.bool b) .nil))
        have hkd : ∃ d, P.underlying kt = some d := by
          cases hd : P.underlying kt with
          | some d => exact ⟨d, rfl⟩
          | none => have := hc.1; unfold ckKey at this; rw [hd] at this; cases this
        split at h
        · obtain ⟨rfl, rfl⟩ := runA_ret h
          cases hm
          have fk : (Instr.findKey kt k' []).run P w = .ok none w := by
            obtain ⟨d, hd⟩ := hkd
            simp [Instr.findKey, run_underlying hd, Instr.findNow]
          have := OpR.pure (w := w) i (fin _ _ false (rv_val κ w.heap zv))
          cases ok <;> simpa [Instr.lookup, run_underlying hu, ck, fk, hzr] using this
        · rename_i n
          obtain ⟨o, ho, h1⟩ := runA_get h
          split at h1
          · rename_i es clk
            obtain ⟨b, hr, rfl⟩ := hm.inv_map
            obtain ⟨ces, e1, e2⟩ := mp_entries i ho hr
            have go := run_getObj (P := P) e1 rfl
            obtain ⟨d, hd⟩ := hkd
            split at h1
            · rename_i j u hf
              obtain ⟨rfl, rfl⟩ := runA_ret h1
              obtain ⟨r', f1, f2⟩ := findKey_sound hd hk hf e2 w
              cases r' with
              | none => exact f2.elim
              | some y =>
                obtain ⟨_, f3, _⟩ := f2
                have := OpR.pure (w := w) i (fin _ _ true f3)
                cases ok <;> simpa [Instr.lookup, run_underlying hu, go, ck, f1, hzr] using this
            · rename_i hf
              obtain ⟨rfl, rfl⟩ := runA_ret h1
              obtain ⟨r', f1, f2⟩ := findKey_sound hd hk hf e2 w
              cases r' with
              | some y => exact f2.elim
              | none =>
                have := OpR.pure (w := w) i (fin _ _ false (rv_val κ w.heap zv))
                cases ok <;> simpa [Instr.lookup, run_underlying hu, go, ck, f1, hzr] using this
            · exact (runA_fail h1).elim
          · exact (runA_fail h1).elim
        · exact (runA_fail h).elim
    · exact (runA_fail h).elim
  · exact (runA_fail h).elim

theorem modify_set {cs : List MapEntry} {es : List En} {j : Nat} {k x : V} {k' x' : Value} {H : Array Obj} (hp : EPW κ H es cs) (hk : RV κ H k k') (hx : RV κ H x x') :
    EPW κ H (setNth es j k x) (cs.modify j fun e => { e with key := k', val := x' }) := by
  induction es generalizing cs j with
  | nil =>
    cases cs with
    | nil => cases j <;> exact ⟨rfl, fun i e c h => by simp [setNth] at h⟩
    | cons _ _ => have := hp.1; simp at this
  | cons e es ih =>
    cases cs with
    | nil => have := hp.1; simp at this
    | cons c cs =>
      obtain ⟨h1, h2, h3⟩ := hp.2 0 e c rfl rfl
      cases j with
      | zero => simp only [setNth, List.modify_zero_cons]; exact .cons hk hx h3 hp.tail
      | succ j => simp only [setNth, List.modify_succ_cons]; exact .cons h1 h2 h3 (ih hp.tail)

theorem op_mapUpdate {t : TypeId} {m k x : V} {m' k' x' : Value} (h : runA (match P.underlying t, m with
    | some (.map kt _), .map n => bif ckKey P 10000 kt k && k.key && x.flat then .get n fun
      | .mp es clk => (match findV P kt k es with
        | some (some (i, _)) => (match es[i]? with
          | some e => bif e.k.keyB k then .put n (.mp (setNth es i k x) clk) (.ret .und) else .fail
          | none => .fail)
        | some none => .put n (.mp (es ++ [⟨k, x, clk⟩]) (clk + 1)) (.ret .und)
        | none => .fail)
      | _ => .fail
      else .fail
    | _, _ => .fail) st rd = .val v st' rd') (i : Inv P κ st.h.get w.heap) (hm : RV κ w.heap m m') (hk : RV κ w.heap k k') (hx : RV κ w.heap x x') :
    OpR P κ st w ((do Instr.mapUpdate t m' k' x'; pure Next.skip : Sem Next).run P w) v st' := by
  split at h
  · rename_i kt et n hu
    cases hc : (ckKey P 10000 kt k && k.key && x.flat) with
    | false => rw [hc] at h; exact (runA_fail h).elim
    | true =>
      rw [hc] at h
      simp only [cond_true] at h
      simp only [Bool.and_eq_true] at hc
      have ck := ckKey_sound 10000 kt k k' false hc.1.1 hk w
      obtain ⟨d, hd⟩ : ∃ d, P.underlying kt = some d := by
        cases hd : P.underlying kt with
        | some d => exact ⟨d, rfl⟩
        | none => have := hc.1.1; unfold ckKey at this; rw [hd] at this; cases this
      obtain ⟨o, ho, h1⟩ := runA_get h
      split at h1
      · rename_i es clk
        obtain ⟨b, hr, rfl⟩ := hm.inv_map
        obtain ⟨ces, e1, e2⟩ := mp_entries i ho hr
        have go := run_getObj (P := P) e1 rfl
        split at h1
        · rename_i j u hf
          obtain ⟨r', f1, f2⟩ := findKey_sound hd hk hf e2 w
          cases r' with
          | none => exact f2.elim
          | some y =>
            obtain ⟨j', u'⟩ := y
            obtain ⟨rfl, f3, e, c, g1, g2, g3, g4, g5⟩ := f2
            rw [g1] at h1
            dsimp only at h1
            cases hkb : e.k.keyB k with
            | false => rw [hkb] at h1; exact (runA_fail h1).elim
            | true =>
              rw [hkb] at h1
              obtain ⟨_, h2⟩ := runA_put h1
              obtain ⟨rfl, rfl⟩ := runA_ret h2
              obtain ⟨s1, s2⟩ := keyB_sound hkb g5 hk
              have g2' : ces[j']? = some c := by simpa using g2
              have stays : (Instr.keyThatStays c.key k').run P w = .ok k' w := by
                unfold Instr.keyThatStays
                rw [if_pos (s2 9999)]; rfl
              have so := run_setObj (P := P) (o' := .map (ces.modify j' fun e => { e with key := k', val := x' }) clk) e1 rfl
              obtain ⟨i', fr⟩ := set_obj (o' := .mp (setNth es j' k x) clk) (x' := .map (ces.modify j' fun e => { e with key := k', val := x' }) clk) i ho hr e1 rfl (by simp) (fun κ' H' ex _ hb' => by
                have ep := modify_set (j := j') e2 hk hx
                refine ⟨_, hb', ?_, fun q e c a1 a2 => ?_⟩
                · have := ep.1; simpa using this
                · have : (ces.toList.modify j' fun e => { e with key := k', val := x' })[q]? = some c := by
                    rw [← Array.toList_modify, Array.getElem?_toList]; exact a2
                  obtain ⟨b1, b2, b3⟩ := ep.2 q e c a1 this
                  exact ⟨b1.mono ex, b2.mono ex, b3⟩)
              refine ⟨κ, undef, { w with heap := w.heap.setIfInBounds b (.map (ces.modify j' fun e => { e with key := k', val := x' }) clk) }, .inr ⟨?_, rfl⟩, .und _, ?_, ?_⟩
              · simp [Instr.mapUpdate, run_underlying hu, go, ck, f1, g2', stays, so]
              · simp only [St.putO, get_set_upd]; exact i'
              · simp only [St.putO, get_set_upd]; exact ⟨fr, rfl, rfl⟩
        · rename_i hf
          obtain ⟨r', f1, f2⟩ := findKey_sound hd hk hf e2 w
          cases r' with
          | some y => exact f2.elim
          | none =>
            obtain ⟨_, h2⟩ := runA_put h1
            obtain ⟨rfl, rfl⟩ := runA_ret h2
            have so := run_setObj (P := P) (o' := .map (ces.push { key := k', val := x', born := clk }) (clk + 1)) e1 rfl
            obtain ⟨i', fr⟩ := set_obj (o' := .mp (es ++ [⟨k, x, clk⟩]) (clk + 1)) (x' := .map (ces.push { key := k', val := x', born := clk }) (clk + 1)) i ho hr e1 rfl (by simp) (fun κ' H' ex _ hb' => by
              refine ⟨_, hb', ?_, fun q e c a1 a2 => ?_⟩
              · have := e2.1; simp at this ⊢; exact this
              · have hl : es.length = ces.size := by simpa using e2.1
                by_cases hq : q < es.length
                · rw [List.getElem?_append_left hq] at a1
                  rw [Array.getElem?_push, if_neg (by omega)] at a2
                  obtain ⟨b1, b2, b3⟩ := e2.2 q e c a1 (by simpa using a2)
                  exact ⟨b1.mono ex, b2.mono ex, b3⟩
                · rw [List.getElem?_append_right (by omega)] at a1
                  have : q = es.length := by
                    have := (List.getElem?_eq_some_iff.1 a1).1; simp at this; omega
                  subst this
                  simp at a1
                  rw [Array.getElem?_push, if_pos hl] at a2
                  cases a2; subst a1
                  exact ⟨hk.mono ex, hx.mono ex, rfl⟩)
            refine ⟨κ, undef, { w with heap := w.heap.setIfInBounds b (.map (ces.push { key := k', val := x', born := clk }) (clk + 1)) }, .inr ⟨?_, rfl⟩, .und _, ?_, ?_⟩
            · simp [Instr.mapUpdate, run_underlying hu, go, ck, f1, so]
            · simp only [St.putO, get_set_upd]; exact i'
            · simp only [St.putO, get_set_upd]; exact ⟨fr, rfl, rfl⟩
        · exact (runA_fail h1).elim
      · exact (runA_fail h1).elim
  · exact (runA_fail h).elim
end ops
end Go.Am
