/-
  THE ABSTRACT MACHINE, PART 16: the other builtins; every operation that is no call.
-/
import Derived.Test.YtiicpeidjhbhiaaGreatAm15
namespace Go.Am
open Go

section ops
variable {P : Program} {κ : Kap} {st st' : St} {w : World} {v : V} {rd rd' : List Nat}

theorem run_asIntOf (k : IntKind) (n : Int) (w : World) : (asIntOf (.int k n)).run P w = .ok (k, n) w := rfl

/-- 'append(nil, make([]T, n)...)'. -/
theorem appendZ_sound {ats : Array TypeId} {t t2 ty e : TypeId} {q : IntKind} {s : V} {s' : Value} {n : Int} {k : IntKind} (a0 : ats[0]? = some t) (a1 : ats[1]? = some t2) (ht : P.underlying t = some (.slice e)) (ht2 : P.underlying t2 = some (.int q))
    (h : runA (appendZ P e s (IntKind.i64.wrap n)) st rd = .val v st' rd') (i : Inv P κ st.h.get w.heap) (hsv : RV κ w.heap s s') (f : Free κ st.nx st'.nx) :
    OpR P κ st w ((do let r ← Builtin.append_ ats ty #[s', .int k n]; pure (Next.value r) : Sem Next).run P w) v st' := by
  unfold appendZ at h
  split at h
  · rename_i sz z hs hzz
    obtain ⟨zv, hzr, rfl⟩ := zrT_all hzz
    cases hsv
    obtain ⟨ti, hi, his⟩ := szT_info hs
    have hby : byT P e = ti.bytes := by simp [byT, hi]
    generalize hN : IntKind.i64.wrap n = N at h
    cases hneg : decide (N < 0) with
    | true => rw [hneg] at h; exact (runA_fail h).elim
    | false =>
      rw [hneg] at h
      simp only [cond_false] at h
      have hneg : ¬ N < 0 := by simpa using hneg
      obtain ⟨m, rfl⟩ := Int.eq_ofNat_of_zero_le (show 0 ≤ N by omega)
      cases hz0 : decide ((m : Int) = 0) with
      | true =>
        rw [hz0] at h
        simp only [cond_true] at h
        have hm : m = 0 := by simpa using hz0
        subst hm
        obtain ⟨rfl, rfl⟩ := runA_ret h
        have run : (Builtin.append_ ats ty #[.slice none 0 0, .int k n]).run P w = .ok (.slice none 0 0) w := by
          simp [Builtin.append_, a0, a1, run_underlying ht, run_underlying ht2, sizeOf, typeInfo, hi, asInt, run_asIntOf, hN]
        simpa [run] using OpR.pure (P := P) i (RV.snil (κ := κ) (H := w.heap))
      | false =>
        rw [hz0] at h
        simp only [cond_false] at h
        have hm : ¬ m = 0 := by simpa using hz0
        cases hc : (exOk (m : Int).toNat 0 (byT P e) && Nat.ble ((m : Int).toNat * byT P e) 281474976710656 && Nat.beq (ofVal zv).cells.length sz) with
        | false => rw [hc] at h; exact (runA_fail h).elim
        | true =>
          rw [hc] at h
          simp only [cond_true] at h
          simp only [Bool.and_eq_true, Int.toNat_natCast] at hc
          obtain ⟨⟨c1, c2⟩, c3⟩ := hc
          obtain ⟨b1, b2⟩ := exOk_fits c1
          have c2 := Nat.le_of_ble_eq_true c2
          have c3 := Nat.eq_of_beq_eq_true c3
          have hzs : zv.cells.size = sz := by
            have h2 := (pw_zero κ w.heap zv).1
            rw [← c3, h2]; simp
          rw [hby] at b1 b2 c2
          have h63 : m ≤ m * ti.bytes := Nat.le_mul_of_pos_right _ b1
          have d1 : ¬ (281474976710656 < (m : Int) * (ti.bytes : Int)) := by rw [← Int.natCast_mul]; omega
          have d3 : ¬ (9223372036854775807 < (m : Int)) := by omega
          have d4 : ¬ (281474976710656 < Builtin.nextslicecap m 0 * ti.bytes) := by omega
          have run : (Builtin.append_ ats ty #[.slice none 0 0, .int k n]).run P w = .ok (.slice (some ⟨w.heap.size, 0, none⟩) m (grownCap w m 0 e)) (w.drew.alloc (.cells (Builtin.zeroCells zv.cells m ++ Builtin.zeroCells zv.cells (grownCap w m 0 e - m)) e)) := by
            simp [Builtin.append_, a0, a1, run_underlying ht, run_underlying ht2, sizeOf, typeInfo, hi, asInt, run_asIntOf, hN, hm, d1, d3, d4, Question.forced, run_firstCells_none, newRow, grownCap, hzr]
            rw [if_neg (show ¬ (m : Int) < 0 by omega)]
            split
            · rename_i h0
              have : sz = 0 := by
                rcases Nat.mul_eq_zero.1 h0 with h | h
                · omega
                · omega
              have hz : zv.cells.size = 0 := by omega
              simp [Builtin.zeroCells, hz, show (Array.range 0 : Array Nat) = #[] from rfl]
            · rfl
          have p := pw_zeros (pw_zero κ w.heap zv) (m * sz)
          have := newSl_new (P := P) (mu := true) (sz := sz) (cs := zeros (ofVal zv).cells (m * sz)) (len := m) (cap := grownCap w m 0 e) (w := w) (e := e) (arr := Builtin.zeroCells zv.cells m ++ Builtin.zeroCells zv.cells (grownCap w m 0 e - m))
            (w' := w.drew.alloc (.cells (Builtin.zeroCells zv.cells m ++ Builtin.zeroCells zv.cells (grownCap w m 0 e - m)) e)) h i f p
            (fun j u hj => by
              have e0 : ((Array.range (m * sz)).map (fun i => zv.cells[i % zv.cells.size]!)) = Builtin.zeroCells zv.cells m := by unfold Builtin.zeroCells; rw [hzs]
              rw [e0] at hj
              have : j < (Builtin.zeroCells zv.cells m).size := by simpa using (List.getElem?_eq_some_iff.1 hj).1
              rw [Array.getElem?_append_left this]; simpa using hj) (by simp [zeros]) (grownCap_ge w m 0 e |> fun h => by simpa using h)
            (by rw [Array.size_append, size_zeroCells, size_zeroCells, hzs, ← Nat.add_mul]; exact Nat.mul_le_mul_right _ (by have := grownCap_ge w m 0 e; omega)) rfl
          simpa [run] using this
  · exact (runA_fail h).elim


theorem EPW.erase {H : Array Obj} {es : List En} {cs : List MapEntry} (h : EPW κ H es cs) (j : Nat) : EPW κ H (es.eraseIdx j) (cs.eraseIdx j) := by
  refine ⟨?_, fun q e c h1 h2 => ?_⟩
  · rw [List.length_eraseIdx, List.length_eraseIdx, h.1]
  · rw [List.getElem?_eraseIdx] at h1 h2
    split at h1
    · rw [if_pos (by assumption)] at h2; exact h.2 _ e c h1 h2
    · rw [if_neg (by assumption)] at h2; exact h.2 _ e c h1 h2

theorem max_sound {H : Array Obj} : ∀ (l : List V) (a : V) (l' : List Value) (a' : Value) (out : V), foldV mxInt a l = some out → RV κ H a a' → PW κ H l l' → ∀ w, ∃ out', (l'.foldlM Builtin.max2 a').run P w = .ok out' w ∧ RV κ H out out' := by
  intro l
  induction l with
  | nil =>
    intro a l' a' out h ha hl w
    simp only [foldV] at h; cases h
    have : l' = [] := List.length_eq_zero_iff.1 (by rw [← hl.1]; rfl)
    subst this
    exact ⟨a', rfl, ha⟩
  | cons b l ih =>
    intro a l' a' out h ha hl w
    cases l' with
    | nil => have := hl.1; simp at this
    | cons b' l' =>
      simp only [foldV] at h
      cases hg : mxInt a b with
      | none => rw [hg] at h; cases h
      | some c =>
        rw [hg] at h
        unfold mxInt at hg
        split at hg
        · rename_i k x k' y
          split at hg
          · rename_i hk; subst hk
            cases hg
            have e1 := ha.inv_int
            have e2 := hl.head.inv_int
            subst e1; subst e2
            obtain ⟨o, h1, h2⟩ := ih _ l' _ out h (.int k _) hl.tail w
            refine ⟨o, ?_, h2⟩
            simp only [List.foldlM_cons, Sem.run_bind, Builtin.max2, Sem.run_pure, Result.andThen_ok]
            exact h1
          · cases hg
        · cases hg

theorem min_sound {H : Array Obj} : ∀ (l : List V) (a : V) (l' : List Value) (a' : Value) (out : V), foldV mnInt a l = some out → RV κ H a a' → PW κ H l l' → ∀ w, ∃ out', (l'.foldlM Builtin.min2 a').run P w = .ok out' w ∧ RV κ H out out' := by
  intro l
  induction l with
  | nil =>
    intro a l' a' out h ha hl w
    simp only [foldV] at h; cases h
    have : l' = [] := List.length_eq_zero_iff.1 (by rw [← hl.1]; rfl)
    subst this
    exact ⟨a', rfl, ha⟩
  | cons b l ih =>
    intro a l' a' out h ha hl w
    cases l' with
    | nil => have := hl.1; simp at this
    | cons b' l' =>
      simp only [foldV] at h
      cases hg : mnInt a b with
      | none => rw [hg] at h; cases h
      | some c =>
        rw [hg] at h
        unfold mnInt at hg
        split at hg
        · rename_i k x k' y
          split at hg
          · rename_i hk; subst hk
            cases hg
            have e1 := ha.inv_int
            have e2 := hl.head.inv_int
            subst e1; subst e2
            obtain ⟨o, h1, h2⟩ := ih _ l' _ out h (.int k _) hl.tail w
            refine ⟨o, ?_, h2⟩
            simp only [List.foldlM_cons, Sem.run_bind, Builtin.min2, Sem.run_pure, Result.andThen_ok]
            exact h1
          · cases hg
        · cases hg

theorem pw1 {H : Array Obj} {a : V} {vs : Array Value} (h : PW κ H [a] vs.toList) : ∃ x, vs = #[x] ∧ RV κ H a x := by
  have hl : vs.size = 1 := by simpa using h.1.symm
  refine ⟨vs[0], ?_, h.2 0 a _ rfl (by simp [hl])⟩
  apply Array.ext
  · simp [hl]
  · intro j h1 h2
    have : j = 0 := by simp at h2; exact h2
    subst this; rfl
theorem pw2 {H : Array Obj} {a b : V} {vs : Array Value} (h : PW κ H [a, b] vs.toList) : ∃ x y, vs = #[x, y] ∧ RV κ H a x ∧ RV κ H b y := by
  have hl : vs.size = 2 := by simpa using h.1.symm
  refine ⟨vs[0], vs[1], ?_, h.2 0 a _ rfl (by simp [hl]), h.2 1 b _ rfl (by simp [hl])⟩
  apply Array.ext
  · simp [hl]
  · intro j h1 h2
    have : j = 0 ∨ j = 1 := by simp at h2; omega
    rcases this with rfl | rfl <;> rfl

theorem op_len {ats : Array TypeId} {t ty : TypeId} {ts : List TypeId} {x : V} {x' : Value} (ha : ats.toList = t :: ts) (h : runA (match P.underlying t, x with
    | some .string, .str s => .ret (.int .i64 s.length)
    | some (.slice _), .snil => .ret (.int .i64 0)
    | some (.slice _), .sl _ n _ _ => .ret (.int .i64 n)
    | some (.slice _), .ms _ _ n _ _ => .ret (.int .i64 n)
    | some (.map _ _), .nilm => .ret (.int .i64 0)
    | some (.map _ _), .map n => .get n fun | .mp es _ => .ret (.int .i64 es.length) | _ => .fail
    | some (.array n _), _ => .ret (.int .i64 n)
    | some (.pointer a), _ => (match P.underlying a with | some (.array n _) => .ret (.int .i64 n) | _ => .fail)
    | _, _ => .fail) st rd = .val v st' rd') (i : Inv P κ st.h.get w.heap) (hx : RV κ w.heap x x') :
    OpR P κ st w ((do let r ← Builtin.len_ ats ty #[x']; pure (Next.value r) : Sem Next).run P w) v st' := by
  have a0 : ats[0]? = some t := by rw [← Array.getElem?_toList, ha]; rfl
  split at h
  all_goals try (exact (runA_fail h).elim)
  · rename_i hu
    obtain ⟨rfl, rfl⟩ := runA_ret h
    obtain ⟨s, rfl, rfl⟩ := hx.inv_str
    have run : (Builtin.len_ ats ty #[.string s]).run P w = .ok (.int .i64 s.size) w := by simp [Builtin.len_, a0, run_underlying hu, goInt]
    have hl : s.data.toList.length = s.size := by rw [Array.length_toList]; rfl
    rw [hl]
    have := OpR.pure (P := P) i (RV.int (κ := κ) (H := w.heap) .i64 s.size)
    simpa only [Sem.run_bind, run, Result.andThen_ok, Sem.run_pure] using this
  · rename_i hu
    obtain ⟨rfl, rfl⟩ := runA_ret h
    cases hx
    simpa [Builtin.len_, a0, run_underlying hu, goInt] using OpR.pure (P := P) i (RV.int (κ := κ) (H := w.heap) .i64 0)
  · rename_i n _ _ hu
    obtain ⟨rfl, rfl⟩ := runA_ret h
    cases hx
    simpa [Builtin.len_, a0, run_underlying hu, goInt] using OpR.pure (P := P) i (RV.int (κ := κ) (H := w.heap) .i64 n)
  · rename_i n _ _ hu
    obtain ⟨rfl, rfl⟩ := runA_ret h
    cases hx
    simpa [Builtin.len_, a0, run_underlying hu, goInt] using OpR.pure (P := P) i (RV.int (κ := κ) (H := w.heap) .i64 n)
  · rename_i hu
    obtain ⟨rfl, rfl⟩ := runA_ret h
    cases hx
    simpa [Builtin.len_, a0, run_underlying hu, goInt] using OpR.pure (P := P) i (RV.int (κ := κ) (H := w.heap) .i64 0)
  · rename_i n hu
    obtain ⟨o, ho, h1⟩ := runA_get h
    split at h1
    · rename_i es clk
      obtain ⟨rfl, rfl⟩ := runA_ret h1
      obtain ⟨b, hr, rfl⟩ := hx.inv_map
      obtain ⟨ces, e1, e2⟩ := mp_entries i ho hr
      have go := run_getObj (P := P) e1 rfl
      have hl : es.length = ces.size := by simpa using e2.1
      simpa [Builtin.len_, a0, run_underlying hu, goInt, go, hl] using OpR.pure (P := P) i (RV.int (κ := κ) (H := w.heap) .i64 es.length)
    · exact (runA_fail h1).elim
  · rename_i n _ hu
    obtain ⟨rfl, rfl⟩ := runA_ret h
    simpa [Builtin.len_, a0, run_underlying hu, goInt] using OpR.pure (P := P) i (RV.int (κ := κ) (H := w.heap) .i64 n)
  · rename_i a _ hu
    split at h
    · rename_i n _ hu2
      obtain ⟨rfl, rfl⟩ := runA_ret h
      simpa [Builtin.len_, a0, run_underlying hu, run_underlying hu2, goInt] using OpR.pure (P := P) i (RV.int (κ := κ) (H := w.heap) .i64 n)
    · exact (runA_fail h).elim


theorem op_delete {ats : Array TypeId} {t ty : TypeId} {ts : List TypeId} {n : Nat} {k : V} {m' k' : Value} (ha : ats.toList = t :: ts) (h : runA (match P.underlying t with
    | some (.map kt _) => bif ckKey P 10000 kt k && k.key then .get n fun
        | .mp es clk => (match findV P kt k es with
          | some (some (i, _)) => .put n (.mp (es.eraseIdx i) clk) (.ret (.tup []))
          | some none => .put n (.mp es clk) (.ret (.tup []))
          | none => .fail)
        | _ => .fail
      else .fail
    | _ => .fail) st rd = .val v st' rd') (i : Inv P κ st.h.get w.heap) (hm : RV κ w.heap (.map n) m') (hk : RV κ w.heap k k') :
    OpR P κ st w ((do let r ← Builtin.delete_ ats ty #[m', k']; pure (Next.value r) : Sem Next).run P w) v st' := by
  have a0 : ats[0]? = some t := by rw [← Array.getElem?_toList, ha]; rfl
  split at h
  · rename_i kt et hu
    cases hc : (ckKey P 10000 kt k && k.key) with
    | false => rw [hc] at h; exact (runA_fail h).elim
    | true =>
      rw [hc] at h
      simp only [cond_true] at h
      simp only [Bool.and_eq_true] at hc
      obtain ⟨d, hd⟩ : ∃ d, P.underlying kt = some d := by
        cases hd : P.underlying kt with
        | some d => exact ⟨d, rfl⟩
        | none => have := hc.1; unfold ckKey at this; rw [hd] at this; cases this
      obtain ⟨o, ho, h1⟩ := runA_get h
      split at h1
      · rename_i es clk
        obtain ⟨b, hr, rfl⟩ := hm.inv_map
        obtain ⟨ces, e1, e2⟩ := mp_entries i ho hr
        have go := run_getObj (P := P) e1 rfl
        have ck := ckKey_sound 10000 kt k k' ces.isEmpty hc.1 hk w
        split at h1
        · rename_i j u hf
          obtain ⟨r', f1, f2⟩ := findKey_sound hd hk hf e2 w
          cases r' with
          | none => exact f2.elim
          | some y =>
            obtain ⟨j', u'⟩ := y
            obtain ⟨rfl, f3, e, c, g1, g2, g3, g4, g5⟩ := f2
            obtain ⟨_, h2⟩ := runA_put h1
            obtain ⟨rfl, rfl⟩ := runA_ret h2
            have so := run_setObj (P := P) (o' := .map (ces.eraseIdxIfInBounds j') clk) e1 rfl
            obtain ⟨i', fr⟩ := set_obj (o' := .mp (es.eraseIdx j') clk) (x' := .map (ces.eraseIdxIfInBounds j') clk) i ho hr e1 rfl (by simp) (fun κ' H' ex _ hb' => by
              have ep := e2.erase j'
              have et : (ces.eraseIdxIfInBounds j').toList = ces.toList.eraseIdx j' := by
                unfold Array.eraseIdxIfInBounds
                split
                · simp
                · rw [List.eraseIdx_of_length_le (by simp; omega)]
              rw [← et] at ep
              refine ⟨_, hb', by rw [ep.1, Array.length_toList], fun q e c a1 a2 => ?_⟩
              obtain ⟨b1, b2, b3⟩ := ep.2 q e c a1 (by rw [Array.getElem?_toList]; exact a2)
              exact ⟨b1.mono ex, b2.mono ex, b3⟩)
            refine ⟨κ, .tuple #[], { w with heap := w.heap.setIfInBounds b (.map (ces.eraseIdxIfInBounds j') clk) }, .inl ?_, .tup _ _ rfl (fun i c v h => by simp at h), ?_, ?_⟩
            · simp [Builtin.delete_, a0, run_underlying hu, go, ck, f1, so]
            · simp only [St.putO, get_set_upd]; exact i'
            · simp only [St.putO, get_set_upd]; exact ⟨fr, rfl, rfl⟩
        · rename_i hf
          obtain ⟨r', f1, f2⟩ := findKey_sound hd hk hf e2 w
          cases r' with
          | some y => exact f2.elim
          | none =>
            obtain ⟨_, h2⟩ := runA_put h1
            obtain ⟨rfl, rfl⟩ := runA_ret h2
            have so := run_setObj (P := P) (o' := .map ces clk) e1 rfl
            obtain ⟨i', fr⟩ := set_obj (o' := .mp es clk) (x' := .map ces clk) i ho hr e1 rfl (by simp) (fun κ' H' ex _ hb' => by
              refine ⟨_, hb', by simpa using e2.1, fun q e c a1 a2 => ?_⟩
              obtain ⟨b1, b2, b3⟩ := e2.2 q e c a1 (by simpa using a2)
              exact ⟨b1.mono ex, b2.mono ex, b3⟩)
            refine ⟨κ, .tuple #[], { w with heap := w.heap.setIfInBounds b (.map ces clk) }, .inl ?_, .tup _ _ rfl (fun i c v h => by simp at h), ?_, ?_⟩
            · simp [Builtin.delete_, a0, run_underlying hu, go, ck, f1, so]
            · simp only [St.putO, get_set_upd]; exact i'
            · simp only [St.putO, get_set_upd]; exact ⟨fr, rfl, rfl⟩
        · exact (runA_fail h1).elim
      · exact (runA_fail h1).elim
  · exact (runA_fail h).elim

theorem builtin_sound {mu : Bool} {b : Builtin} {ats : Array TypeId} {ty : TypeId} {args : List V} {args' : Array Value} {cst : Array Bool} (h : runA (builtinA P mu b ats.toList args) st rd = .val v st' rd') (i : Inv P κ st.h.get w.heap)
    (hp : PW κ w.heap args args'.toList) (f : Free κ st.nx st'.nx) : OpR P κ st w ((builtin b ats ty cst args').run P w) v st' := by
  unfold builtinA at h
  split at h
  · rename_i t ts x hats
    obtain ⟨x', rfl, hx⟩ := pw1 hp
    exact op_len (P := P) (ats := ats) (ty := ty) hats h i hx
  · rename_i t t2 ts s x hats
    obtain ⟨s', x', rfl, hs, hx⟩ := pw2 hp
    have a0 : ats[0]? = some t := by rw [← Array.getElem?_toList, hats]; rfl
    have a1 : ats[1]? = some t2 := by rw [← Array.getElem?_toList, hats]; rfl
    split at h
    · rename_i e e2 h1 h2
      exact appendA_sound (ty := ty) a0 a1 h1 ⟨_, h2, fun k => by simp⟩ h i hs hx f
    · rename_i e h1 h2
      exact appendA_sound (ty := ty) a0 a1 h1 ⟨_, h2, fun k => by simp⟩ h i hs hx f
    · rename_i e q h1 h2
      split at h
      · rename_i k n
        obtain rfl := hx.inv_int
        exact appendZ_sound (ty := ty) a0 a1 h1 h2 h i hs f
      · exact (runA_fail h).elim
    · exact (runA_fail h).elim
  · rename_i t ts x hats
    obtain ⟨x', rfl, hx⟩ := pw1 hp
    have a0 : ats[0]? = some t := by rw [← Array.getElem?_toList, hats]; rfl
    split at h
    · rename_i hu
      obtain ⟨rfl, rfl⟩ := runA_ret h
      cases hx
      simpa [builtin, Builtin.cap_, a0, run_underlying hu, goInt] using OpR.pure (P := P) i (RV.int (κ := κ) (H := w.heap) .i64 0)
    · rename_i hu
      obtain ⟨rfl, rfl⟩ := runA_ret h
      cases hx with
      | sl _ _ _ _ b o cap vs hl hs hI hv hcap he =>
        have hcap : cap = _ := hcap
        simpa [builtin, Builtin.cap_, a0, run_underlying hu, goInt, hcap] using OpR.pure (P := P) i (RV.int (κ := κ) (H := w.heap) .i64 cap)
    · rename_i hu
      obtain ⟨rfl, rfl⟩ := runA_ret h
      cases hx with
      | ms _ _ _ _ _ b cap' m hr hlen hcap hm hb =>
        have hcap := hcap _ rfl
        simpa [builtin, Builtin.cap_, a0, run_underlying hu, goInt, hcap] using OpR.pure (P := P) i (RV.int (κ := κ) (H := w.heap) .i64 cap')
    · exact (runA_fail h).elim
  · rename_i a r
    obtain ⟨h1, rfl⟩ := runA_rt h
    obtain ⟨l, hl⟩ : ∃ l, args'.toList = l := ⟨_, rfl⟩
    rw [hl] at hp
    cases l with
    | nil => have := hp.1; simp at this
    | cons a' l =>
      obtain ⟨o, g1, g2⟩ := max_sound (P := P) r a l a' v h1 hp.head hp.tail w
      simpa [builtin, Builtin.max_, hl, g1] using OpR.pure (P := P) i g2
  · rename_i a r
    obtain ⟨h1, rfl⟩ := runA_rt h
    obtain ⟨l, hl⟩ : ∃ l, args'.toList = l := ⟨_, rfl⟩
    rw [hl] at hp
    cases l with
    | nil => have := hp.1; simp at this
    | cons a' l =>
      obtain ⟨o, g1, g2⟩ := min_sound (P := P) r a l a' v h1 hp.head hp.tail w
      simpa [builtin, Builtin.min_, hl, g1] using OpR.pure (P := P) i g2
  · rename_i t ts n k hats
    obtain ⟨m', k', rfl, hm, hk⟩ := pw2 hp
    exact op_delete (P := P) (ats := ats) (ty := ty) hats h i hm hk
  · exact (runA_fail h).elim

theorem eval_pw {H : Array Obj} {ρ : Operand → V} {ρ' : Operand → Value} (hρ : ∀ x, RV κ H (ρ x) (ρ' x)) (xs : Array Operand) : PW κ H (xs.toList.map ρ) (xs.map ρ').toList := by
  rw [Array.toList_map]
  exact PW.map (fun x _ => hρ x)

theorem RO.of {H : Array Obj} {ρ : Operand → V} {ρ' : Operand → Value} (hρ : ∀ x, RV κ H (ρ x) (ρ' x)) (x : Option Operand) : RO κ H (x.map ρ) (x.map ρ') := by
  cases x with
  | none => trivial
  | some x => exact hρ x

/-- An operation that is no call. -/
theorem op_sound {mu : Bool} {o : Oper} {ρ : Operand → V} {ρ' : Operand → Value} (h : runA (opA P mu ρ o.op) st rd = .val v st' rd') (i : Inv P κ st.h.get w.heap) (hρ : ∀ x, RV κ w.heap (ρ x) (ρ' x)) (f : Free κ st.nx st'.nx) :
    OpR P κ st w ((execOp ρ' o).run P w) v st' := by
  obtain ⟨dst, op, ty, pos, af, g⟩ := o
  dsimp only at h
  unfold opA at h
  split at h
  · obtain ⟨rfl, rfl⟩ := runA_ret h; exact OpR.pure i (hρ _)
  · obtain ⟨rfl, rfl⟩ := runA_ret h; exact OpR.pure i (hρ _)
  · exact op_pick h i (hρ _) (hρ _) (hρ _)
  · exact op_alloc h i f
  · exact op_box h i (hρ _) f
  · obtain ⟨h1, rfl⟩ := runA_rt h
    exact op_build h1 i (PR.of hρ _)
  · exact op_buildSlice h i (PR.of hρ _) f
  · exact op_load h i (hρ _)
  · exact op_store h i (hρ _) (hρ _)
  · exact op_nilCheck h i (hρ _) _ _ _ _ _
  · obtain ⟨h1, rfl⟩ := runA_rt h
    exact op_bin h1 i (hρ _) (hρ _)
  · obtain ⟨h1, rfl⟩ := runA_rt h
    exact op_un h1 i (hρ _)
  · exact op_conv h i (hρ _)
  · rename_i fn first cap
    obtain ⟨rfl, rfl⟩ := runA_ret h
    have p1 := eval_pw hρ first
    have p2 := eval_pw hρ cap
    have := OpR.pure (P := P) i (RV.fn (κ := κ) (H := w.heap) fn _ _ (first.map ρ') (cap.map ρ') (by simp) (by simp) (fun j c u h1 h2 => p1.2 j c u h1 (by simpa using h2)) (fun j c u h1 h2 => p2.2 j c u h1 (by simpa using h2)))
    simpa [execOp, Instr.makeFunc] using this
  · exact op_makeMap h i f
  · rename_i lo hi mx
    exact op_slice h i (hρ _) (RO.of hρ lo) (RO.of hρ hi) (RO.of hρ mx)
  · exact op_fieldAddr h i (hρ _)
  · exact op_field h i (hρ _)
  · exact op_indexAddr h i (hρ _) (hρ _)
  · exact op_index h i (hρ _) (hρ _)
  · exact op_lookup h i (hρ _) (hρ _)
  · exact op_mapUpdate h i (hρ _) (hρ _) (hρ _)
  · exact op_mapUpdate h i (hρ _) (hρ _) (hρ _)
  · exact op_range h i (hρ _) f
  · exact op_nextM h i (hρ _)
  · exact op_entry h i (hρ _)
  · exact op_nextS h i (hρ _)
  · exact op_extract h i (hρ _)
  · split at h
    · split at h
      · exact (runA_call h).elim
      · exact (runA_yld h).elim
      · exact (runA_fail h).elim
    · rename_i b hc
      rename_i c _
      simp only [execOp, resolve, hc, invoke, Sem.run_bind, Sem.run_pure, Result.andThen_ok]
      exact builtin_sound (P := P) h i (eval_pw hρ c.args) f
    · exact (runA_fail h).elim
  · exact (runA_fail h).elim

end ops
end Go.Am
