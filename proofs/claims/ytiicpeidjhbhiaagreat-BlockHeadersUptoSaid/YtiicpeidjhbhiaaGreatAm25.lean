/-
  THE ABSTRACT MACHINE, PART 25: from a run of the machine to what a row asks.
-/
import Derived.Test.YtiicpeidjhbhiaaGreatAm24
import Derived.WalkKit
import Derived.ProofKit
import Derived.OpenShut
import Derived.JoinedCond
namespace Go.Am
open Go Go.ChangeShapes Go.WideShapes Go.ChangeAt Go.RowKit

/-- All that is there stays as it is. -/
def kap0 (w : World) : Kap := ⟨fun _ => none, fun _ => 0, fun b o => (hc w.heap b o).isSome⟩

theorem inv0 (P : Program) (w : World) : Inv P (kap0 w) (Tr.lf : Tr O).get w.heap :=
  ⟨fun n o h => by simp [Tr.get] at h, fun n m b h => by simp [Tr.get] at h, fun b o h => Option.isSome_iff_exists.1 h, fun n o b i h => by simp [Tr.get] at h⟩

/-- What was there is there; what is new lies behind it. -/
def Stays (w w' : World) : Prop := w.keptBut w' (fun _ => False) ∧ (∀ b, b < w.heap.size → w'.heap[b]? = w.heap[b]?)

theorem stays_of {P : Program} {w w' : World} {κ' : Kap} {h' : Nat → Option O} {lo hi : Nat} (f : FrW (kap0 w) (Tr.lf : Tr O).get w κ' h' w' lo hi) : Stays w w' := by
  have hb : ∀ b, b < w.heap.size → w'.heap[b]? = w.heap[b]? := fun b hb => f.keep b hb (by rintro ⟨n, hn, _⟩; simp [Tr.get] at hn)
  refine ⟨⟨f.kp.1, f.kp.2, fun i hi => ?_⟩, hb⟩
  rw [hb i hi]
  cases hq : w.heap[i]? with
  | none => rfl
  | some o => cases o <;> simp

theorem am_calls {P : Program} (hm : P.follows .mixedOrders = true) {A : Aid} {orc : Nat → Option (List V → St → Option (V × St))} (ho : OrcOk P orc) {d f : Nat} {args : List V} {v : V} {st' : St}
    (h : evF P A orc d (.f f) args ⟨.lf, 0, [], []⟩ = some (v, st')) {w : World} {args' : Array Value} (hp : PW (kap0 w) w.heap args args'.toList) :
    Calls P f args' w (fun e w' => ∃ v' κ', e = .returned v' ∧ RV κ' w'.heap v v' ∧ Stays w w') := by
  obtain ⟨_, _, hc⟩ := evF_sound hm ho d _ _ _ _ _ h
  obtain ⟨_, hcalls⟩ := hc (kap0 w) w args' hp (inv0 P w) (fun n _ _ => rfl)
  refine hcalls.mono ?_
  rintro e w' ⟨v', κ', rfl, h1, h2, h3⟩
  exact ⟨v', κ', rfl, h1, stays_of (P := P) h3⟩

def isT : Option (V × St) → Bool
  | some (.bool true, _) => true
  | _ => false

theorem orc0 (P : Program) : OrcOk P (fun _ => none) := fun f o args st v st' h => by cases h

/-- A law that the machine finds true. -/
theorem am_true {P : Program} (hm : P.follows .mixedOrders = true) {A : Aid} {orc : Nat → Option (List V → St → Option (V × St))} (ho : OrcOk P orc) {d f : Nat} {args : List V} (h : isT (evF P A orc d (.f f) args ⟨.lf, 0, [], []⟩) = true) {w : World} {args' : Array Value}
    (hp : PW (kap0 w) w.heap args args'.toList) : Calls P f args' w (fun e w' => e = .returned (.bool true) ∧ Stays w w') := by
  cases hq : evF P A orc d (.f f) args ⟨.lf, 0, [], []⟩ with
  | none => rw [hq] at h; cases h
  | some x =>
    obtain ⟨v, st'⟩ := x
    rw [hq] at h
    have hv : v = .bool true := by
      cases v with
      | bool b => cases b with
        | true => rfl
        | false => cases h
      | _ => cases h
    subst hv
    refine (am_calls hm ho hq hp).mono ?_
    rintro e w' ⟨v', κ', rfl, h1, h2⟩
    exact ⟨by rw [h1.inv_bool], h2⟩

theorem stays_frozen {w w' : World} (h : Stays w w') (a : Addr) (ha : a.block < w.heap.size) : w'.frozen? a = w.frozen? a := by
  unfold World.frozen?
  rw [h.2 a.block ha]

/-- 'post_of_same', of what was frozen asked at what was there alone. -/
theorem post_of_stays {H : Type} {enc : TypeId × Value → H} {P : Program} {f : Func} {s : ChangeSpec} {apart fresh handsOn again : Bool} {W W' : World} {args : Array Value} {v : Value} {ds gs : List (DataW H)} {before pa pv : List MemPlace}
    (hW : DataW.Whole enc P f.params.toList s.vars apart W args.toList ds gs before)
    (hres : ∀ (b : Nat) (sp : Nat → Bool) (hd : Bool), DataW.TrodAll enc P W' b sp hd f.resultTypes.toList (v.resultList f.resultTypes.size) (s.fn H (ds ++ gs)).results [])
    (hargs : ∀ sp : Nat → Bool, (∀ p ∈ before, sp p.block = true) → DataW.TrodAll enc P W' 0 sp true f.params.toList args.toList (s.fn H (ds ++ gs)).args pa)
    (hvars : ∀ sp : Nat → Bool, (∀ p ∈ before, sp p.block = true) → DataW.TrodVars enc P W' sp s.vars (s.fn H (ds ++ gs)).vars pv)
    (hps : before = pa ++ pv) (hs : Stays W W')
    (hok : ∀ (j : Nat) (t : TypeId) (r : Value), f.resultTypes[j]? = some t → (v.resultList f.resultTypes.size)[j]? = some r → Value.okWide P W' .any 0 t r) :
    s.post enc P f apart fresh handsOn again W args v W' := by
  have hold : ∀ p ∈ before, (fun b => decide (b < W.heap.size)) p.block = true := fun p hp => by simpa using hW.lt p hp
  have hlt := hW.lt
  refine ⟨ds, gs, before, [], pa, pv, hW, hres _ _ _, hargs _ hold, hvars _ hold, World.keptBut_mono (fun p hp => hp.elim) hs.1, fun _ => ?_⟩
  obtain ⟨_, _, _, _, _, hz, hn⟩ := hW
  refine ⟨hok, _, _, ([] ++ pa) ++ pv, ⟨[] ++ pa, pv, trodAll_append (hargs _ (fun _ _ => rfl)) (hres _ _ _), hvars _ (fun _ _ => rfl), rfl, ?_, ?_⟩, ?_⟩
  · intro b off hp
    have hp' : MemPlace.cell b off ∈ before := by rw [hps]; simpa using hp
    rw [stays_frozen hs _ (hlt _ hp')]
    exact hz b off hp'
  · intro ha
    have := hn ha
    rw [hps] at this
    simpa using this
  · intro p hp _
    rw [hps]
    simpa using hp

end Go.Am
