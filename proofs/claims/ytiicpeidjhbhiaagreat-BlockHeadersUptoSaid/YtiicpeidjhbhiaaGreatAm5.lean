/-
  THE ABSTRACT MACHINE, PART 5: each operation does in the model what the machine says: values, memory that is made, read, written.
-/
import Derived.Test.YtiicpeidjhbhiaaGreatAm4
namespace Go.Am
open Go

/-- The world outside stays as it was. -/
def Kp (w w' : World) : Prop := w'.os = w.os ∧ w'.output = w.output
theorem Kp.refl (w : World) : Kp w w := ⟨rfl, rfl⟩
theorem Kp.trans {a b c : World} (x : Kp a b) (y : Kp b c) : Kp a c := ⟨y.1.trans x.1, y.2.trans x.2⟩
theorem kp_setCells (b : Nat) : ∀ (vs : List Value) (o : Nat) (w : World), Kp w (w.setCells b o vs)
  | [], _, _ => ⟨rfl, rfl⟩
  | v :: vs, o, w => (show Kp w (w.setCell ⟨b, o, none⟩ v) from ⟨rfl, rfl⟩).trans (kp_setCells b vs (o + 1) _)

/-- 'Fr', from world to world. -/
structure FrW (κ : Kap) (h : Nat → Option O) (w : World) (κ' : Kap) (h' : Nat → Option O) (w' : World) (lo hi : Nat) : Prop extends Fr κ h w.heap κ' h' w'.heap lo hi where
  kp : Kp w w'

theorem FrW.refl (κ : Kap) (h : Nat → Option O) (w : World) (lo hi : Nat) : FrW κ h w κ h w lo hi := ⟨Fr.refl _ _ _ _ _, .refl _⟩
theorem FrW.trans {κ₁ κ₂ κ₃ : Kap} {h₁ h₂ h₃ : Nat → Option O} {w₁ w₂ w₃ : World} {a b c : Nat} (hab : a ≤ b) (hbc : b ≤ c) (x : FrW κ₁ h₁ w₁ κ₂ h₂ w₂ a b) (y : FrW κ₂ h₂ w₂ κ₃ h₃ w₃ b c) : FrW κ₁ h₁ w₁ κ₃ h₃ w₃ a c :=
  ⟨Fr.trans hab hbc x.toFr y.toFr, x.kp.trans y.kp⟩

/-- What an operation has come to. -/
def OpR (P : Program) (κ : Kap) (st : St) (w : World) (r : Result Next) (v : V) (st' : St) : Prop :=
  ∃ κ' v' w', (r = .ok (.value v') w' ∨ (r = .ok .skip w' ∧ v' = undef)) ∧ RV κ' w'.heap v v' ∧ Inv P κ' st'.h.get w'.heap ∧
    FrW κ st.h.get w κ' st'.h.get w' st.nx st'.nx

theorem OpR.pure {P : Program} {κ : Kap} {st : St} {w : World} {v : V} {v' : Value} (i : Inv P κ st.h.get w.heap) (h : RV κ w.heap v v') : OpR P κ st w (.ok (.value v') w) v st :=
  ⟨κ, v', w, .inl rfl, h, i, .refl _ _ _ _ _⟩

theorem OpR.pureSkip {P : Program} {κ : Kap} {st : St} {w : World} (i : Inv P κ st.h.get w.heap) : OpR P κ st w (.ok .skip w) .und st :=
  ⟨κ, undef, w, .inr ⟨rfl, rfl⟩, .und _, i, .refl _ _ _ _ _⟩

theorem runA_ret {v u : V} {st st' : St} {rd rd' : List Nat} (h : runA (.ret v) st rd = .val u st' rd') : u = v ∧ st' = st := by
  simp only [runA] at h; cases h; exact ⟨rfl, rfl⟩

theorem runA_rt {x : Option V} {u : V} {st st' : St} {rd rd' : List Nat} (h : runA (rt x) st rd = .val u st' rd') : x = some u ∧ st' = st := by
  cases x with
  | none => simp only [rt, runA] at h; cases h
  | some v => simp only [rt] at h; obtain ⟨rfl, rfl⟩ := runA_ret h; exact ⟨rfl, rfl⟩

theorem runA_fail {u : V} {st st' : St} {rd rd' : List Nat} (h : runA .fail st rd = .val u st' rd') : False := by
  simp only [runA] at h; cases h

theorem runA_get {n : Nat} {k : O → Ac} {u : V} {st st' : St} {rd rd' : List Nat} (h : runA (.get n k) st rd = .val u st' rd') :
    ∃ o, st.h.get n = some o ∧ runA (k o) st (n :: rd) = .val u st' rd' := by
  simp only [runA] at h
  cases ho : st.h.get n with
  | none => rw [ho] at h; cases h
  | some o => rw [ho] at h; exact ⟨o, rfl, h⟩

theorem runA_put {n : Nat} {o : O} {k : Ac} {u : V} {st st' : St} {rd rd' : List Nat} (h : runA (.put n o k) st rd = .val u st' rd') :
    (∃ x, st.h.get n = some x) ∧ runA k (st.putO n o) rd = .val u st' rd' := by
  simp only [runA] at h
  cases ho : st.h.get n with
  | none => rw [ho] at h; cases h
  | some x => rw [ho] at h; exact ⟨⟨x, rfl⟩, h⟩

theorem runA_del {n : Nat} {k : Ac} {u : V} {st st' : St} {rd rd' : List Nat} (h : runA (.del n k) st rd = .val u st' rd') :
    (∃ x, st.h.get n = some x) ∧ runA k (st.delO n) rd = .val u st' rd' := by
  simp only [runA] at h
  cases ho : st.h.get n with
  | none => rw [ho] at h; cases h
  | some x => rw [ho] at h; exact ⟨⟨x, rfl⟩, h⟩

theorem runA_new {o : O} {k : Nat → Ac} {u : V} {st st' : St} {rd rd' : List Nat} (h : runA (.new o k) st rd = .val u st' rd') :
    st.h.get st.nx = none ∧ runA (k st.nx) (st.newO o) rd = .val u st' rd' := by
  simp only [runA] at h
  cases ho : st.h.get st.nx with
  | some x => rw [ho] at h; cases h
  | none => rw [ho] at h; exact ⟨rfl, h⟩

theorem runA_call {f : Nat} {args : List V} {u : V} {st st' : St} {rd rd' : List Nat} (h : runA (.call f args) st rd = .val u st' rd') : False := by
  simp only [runA] at h; cases h
theorem runA_yld {f : Nat} {args : List V} {u : V} {st st' : St} {rd rd' : List Nat} (h : runA (.yld f args) st rd = .val u st' rd') : False := by
  simp only [runA] at h; cases h

/-! ### Constants, parts -/
theorem rv_sc (κ : Kap) (H : Array Obj) (v : Value) : RV κ H (ofSc v) v := by
  unfold ofSc
  split
  · exact .bool _
  · exact .int _ _
  · exact .str _ _ rfl
  · exact .nilp
  · exact .snil
  · exact .nilm
  · exact .nilf
  · exact .und _

theorem pw_sc (κ : Kap) (H : Array Obj) (l : List Value) : PW κ H (l.map ofSc) l := by
  have := PW.map (κ := κ) (H := H) (f := ofSc) (g := id) (l := l) (fun x _ => rv_sc κ H x)
  simpa using this

theorem rv_val (κ : Kap) (H : Array Obj) (v : Value) : RV κ H (ofVal v) v := by
  unfold ofVal
  split
  · rename_i cs
    have := RV.agg' (pw_sc κ H cs.toList)
    simpa using this
  · exact rv_sc κ H v

theorem pw_cells {κ : Kap} {H : Array Obj} {v : V} {v' : Value} (h : RV κ H v v') (hf : v.flat = true) : PW κ H v.cells v'.cells.toList := by
  cases h with
  | agg cs vs hl he => simpa [V.cells, Value.cells] using RV.agg_pw (.agg cs vs hl he)
  | tup cs vs hl he => simp [V.flat] at hf
  | und v => simp [V.flat] at hf
  | opq _ ho =>
    have : v'.cells = #[v'] := by cases v' <;> simp_all [Value.oneCell', Value.cells]
    rw [this]; exact .cons (.opq v' ho) .nil
  | bool b => exact .cons (.bool b) .nil
  | int k n => exact .cons (.int k n) .nil
  | str s l h => exact .cons (.str s l h) .nil
  | nilp => exact .cons .nilp .nil
  | ptr n off b h => exact .cons (.ptr n off b h) .nil
  | iptr cs off b o vs hl hI hv he => exact .cons (.iptr cs off b o vs hl hI hv he) .nil
  | snil => exact .cons .snil .nil
  | sl cs len sz cp b o cap vs hl hs hI hv hcap he => exact .cons (.sl cs len sz cp b o cap vs hl hs hI hv hcap he) .nil
  | ms n off len sz cap b cap' m h hlen hcap hm hb => exact .cons (.ms n off len sz cap b cap' m h hlen hcap hm hb) .nil
  | nilm => exact .cons .nilm .nil
  | map n r h => exact .cons (.map n r h) .nil
  | fn f first cap vs ws h1 h2 e1 e2 => exact .cons (.fn f first cap vs ws h1 h2 e1 e2) .nil
  | yld l b h => exact .cons (.yld l b h) .nil
  | nilf => exact .cons .nilf .nil
  | it n b h => exact .cons (.it n b h) .nil

theorem flat_of_one {v : V} (h : v.one = true) : v.flat = true := by cases v <;> simp_all [V.one, V.flat]

theorem one_cell {κ : Kap} {H : Array Obj} {v : V} {v' : Value} (h : RV κ H v v') (hf : v.one = true) : v'.oneCell' = true := by
  cases h <;> simp_all [V.one, Value.oneCell']

theorem cells_sc (v : Value) : (ofSc v).cells = [ofSc v] := by unfold ofSc; split <;> rfl

theorem pw_zero (κ : Kap) (H : Array Obj) (z : Value) : PW κ H (ofVal z).cells z.cells.toList := by
  have one : ∀ v : Value, ofVal v = ofSc v → v.cells = #[v] → PW κ H (ofVal v).cells v.cells.toList := fun v h1 h2 => by
    rw [h1, h2, cells_sc]; exact .cons (rv_sc κ H v) .nil
  cases z with
  | agg cs => simpa [ofVal, V.cells, Value.cells] using pw_sc κ H cs.toList
  | _ => exact one _ rfl rfl

/-! ### The types' words -/
section types
variable {P : Program} {w : World}
theorem szT_info {t : TypeId} {n : Nat} (h : szT P t = some n) : ∃ i, P.info? t = some i ∧ i.size = n := by
  unfold szT at h
  cases hi : P.info? t with
  | none => rw [hi] at h; cases h
  | some i => rw [hi] at h; exact ⟨i, rfl, by simpa using h⟩
theorem run_szT {t : TypeId} {n : Nat} (h : szT P t = some n) (w : World) : (sizeOf t).run P w = .ok n w := by
  obtain ⟨i, hi, rfl⟩ := szT_info h
  simp [sizeOf, typeInfo, hi]
theorem run_und {t : TypeId} {d : TypeDesc} (h : P.underlying t = some d) (w : World) : (underlying t).run P w = .ok d w := run_underlying h w
theorem run_agg {t : TypeId} {d : TypeDesc} (h : P.underlying t = some d) (w : World) : (isAgg t).run P w = .ok (isAggD d) w := by
  unfold isAgg
  rw [Sem.run_bind, run_underlying h w]
  cases d <;> rfl
theorem zrT_run {t : TypeId} {z : V} (h : zrT P t = some z) (w : World) : ∃ zv, (zeroValue t).run P w = .ok zv w ∧ z = ofVal zv := by
  unfold zrT at h
  cases hi : P.info? t with
  | none => rw [hi] at h; cases h
  | some i =>
    rw [hi] at h
    cases hz : i.zero with
    | none => simp [hz] at h
    | some zv => simp [hz] at h; exact ⟨zv, by simp [zeroValue, typeInfo, hi, hz], h.symm⟩

/-- A part. -/
theorem run_part {κ : Kap} {H : Array Obj} {t : TypeId} {cs : List V} {vs : Array Value} {off : Nat} {v : V} (h : partV P t cs off = some v) (hp : PW κ H cs vs.toList) (w : World) :
    ∃ v', (part t vs off).run P w = .ok v' w ∧ RV κ H v v' := by
  unfold partV at h
  cases hu : P.underlying t with
  | none => rw [hu] at h; cases h
  | some d =>
    rw [hu] at h
    dsimp only at h
    cases hd : isAggD d with
    | true =>
      rw [hd] at h
      simp only [cond_true] at h
      cases hs : szT P t with
      | none => rw [hs] at h; cases h
      | some sz =>
        rw [hs] at h
        dsimp only at h
        rw [cond_beq] at h
        split at h
        · cases h
          refine ⟨.agg (vs.extract off (off + sz)), ?_, ?_⟩
          · simp [part, run_agg hu, hd, run_szT hs]
          · have := RV.agg' ((hp.drop off).take sz)
            have e : (List.take sz (List.drop off vs.toList)).toArray = vs.extract off (off + sz) := by
              apply Array.ext'
              simp [List.extract_eq_take_drop]
            rwa [e] at this
        · cases h
    | false =>
      rw [hd] at h
      simp only [cond_false] at h
      obtain ⟨v', h1, h2⟩ := hp.get h
      refine ⟨v', ?_, h2⟩
      have : vs[off]? = some v' := by simpa using h1
      simp [part, run_agg hu, hd, this]
end types
end Go.Am
