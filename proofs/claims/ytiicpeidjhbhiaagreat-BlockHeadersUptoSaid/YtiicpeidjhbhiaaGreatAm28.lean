/-
  THE ABSTRACT MACHINE, PART 28: values without names; answers that only tell a value.
-/
import Derived.Test.YtiicpeidjhbhiaaGreatAm27
namespace Go.Am
open Go

/-- A weaker telling of a value that holds no names. -/
def Wk (u v : V) : Prop := ∀ κ κ' H x, (∀ b o, κ.I b o → κ'.I b o) → RV κ H v x → RV κ' H u x

theorem wk_bool (b : Bool) : Wk (.bool b) (.bool b) := fun _ _ _ _ _ h => by cases h; exact .bool _
theorem wk_int (k : IntKind) (n : Int) : Wk (.int k n) (.int k n) := fun _ _ _ _ _ h => by cases h; exact .int _ _
theorem wk_str (l : List UInt8) : Wk (.str l) (.str l) := fun _ _ _ _ _ h => by
  cases h with
  | str s _ h => exact .str s _ h
theorem wk_nilp : Wk .nilp .nilp := fun _ _ _ _ _ h => by cases h; exact .nilp
theorem wk_snil : Wk .snil .snil := fun _ _ _ _ _ h => by cases h; exact .snil
theorem wk_nilm : Wk .nilm .nilm := fun _ _ _ _ _ h => by cases h; exact .nilm
theorem wk_nilf : Wk .nilf .nilf := fun _ _ _ _ _ h => by cases h; exact .nilf
theorem wk_opq : Wk .opq .opq := fun _ _ _ x _ h => by
  cases h with
  | opq _ h => exact .opq x h

def WkL (us vs : List V) : Prop := us.length = vs.length ∧ ∀ (i : Nat) u v, us[i]? = some u → vs[i]? = some v → Wk u v

theorem WkL.nil : WkL [] [] := ⟨rfl, fun i u v h => by simp at h⟩
theorem WkL.cons {u v : V} {us vs : List V} (h : Wk u v) (t : WkL us vs) : WkL (u :: us) (v :: vs) := ⟨by simp [t.1], fun i a b h1 h2 => by
  cases i with
  | zero => simp at h1 h2; subst h1; subst h2; exact h
  | succ i => simp at h1 h2; exact t.2 i a b h1 h2⟩
theorem WkL.self {us : List V} (h : ∀ u ∈ us, Wk u u) : WkL us us := ⟨rfl, fun i u v h1 h2 => by
  rw [h1] at h2; cases h2; exact h u (List.mem_of_getElem? h1)⟩
theorem WkL.append {a b c d : List V} (h : WkL a b) (k : WkL c d) : WkL (a ++ c) (b ++ d) := by
  refine ⟨by simp [h.1, k.1], fun i u v h1 h2 => ?_⟩
  by_cases hi : i < a.length
  · rw [List.getElem?_append_left hi] at h1
    rw [List.getElem?_append_left (h.1 ▸ hi)] at h2
    exact h.2 i u v h1 h2
  · rw [List.getElem?_append_right (by omega)] at h1
    rw [List.getElem?_append_right (by have := h.1; omega), ← h.1] at h2
    exact k.2 _ u v h1 h2

theorem WkL.pw {us vs : List V} (h : WkL us vs) {κ κ' : Kap} {H : Array Obj} {xs : List Value} (hI : ∀ b o, κ.I b o → κ'.I b o) (hp : PW κ H vs xs) : PW κ' H us xs :=
  ⟨h.1.trans hp.1, fun i c x h1 h2 => by
    obtain ⟨v, hv⟩ : ∃ v, vs[i]? = some v := ⟨vs[i]'(by rw [← h.1]; exact (List.getElem?_eq_some_iff.1 h1).1), by simp⟩
    exact h.2 i c v h1 hv κ κ' H x hI (hp.2 i v x hv h2)⟩

theorem wk_sl {us cs : List V} (len sz : Nat) (cp : Cp) (h : WkL us cs) : Wk (.sl us len sz .unk) (.sl cs len sz cp) := fun κ κ' H x hI hx => by
  cases hx with
  | sl _ _ _ _ b o cap vs hl hs hi hv hcap he =>
    have hw := h.pw hI (κ := κ) (H := H) (xs := vs) ⟨hl, fun i c v h1 h2 => he i c v h1 h2⟩
    refine .sl us len sz .unk b o cap vs hw.1 (h.1.trans hs) (fun i hx => hI _ _ (hi i hx)) hv ?_ hw.2
    cases cp with
    | ex => exact Nat.le_of_eq hcap.symm
    | unk => exact hcap
    | tok t sz' => exact hcap.2.2.2.1

theorem wk_slx {us cs : List V} (len sz : Nat) (h : WkL us cs) : Wk (.sl us len sz .ex) (.sl cs len sz .ex) := fun κ κ' H x hI hx => by
  cases hx with
  | sl _ _ _ _ b o cap vs hl hs hi hv hcap he =>
    have hw := h.pw hI (κ := κ) (H := H) (xs := vs) ⟨hl, fun i c v h1 h2 => he i c v h1 h2⟩
    exact .sl us len sz .ex b o cap vs hw.1 (h.1.trans hs) (fun i hx => hI _ _ (hi i hx)) hv hcap hw.2

theorem wk_agg {us cs : List V} (h : WkL us cs) : Wk (.agg us) (.agg cs) := fun κ κ' H x hI hx => by
  cases hx with
  | agg _ vs hl he =>
    have hw := h.pw hI (κ := κ) (H := H) (xs := vs.toList) ⟨by simpa using hl, fun i c v h1 h2 => he i c v h1 (by simpa using h2)⟩
    exact .agg us vs (by simpa using hw.1) (fun i c v h1 h2 => hw.2 i c v h1 (by simpa using h2))

theorem wk_tup {us cs : List V} (h : WkL us cs) : Wk (.tup us) (.tup cs) := fun κ κ' H x hI hx => by
  cases hx with
  | tup _ vs hl he =>
    have hw := h.pw hI (κ := κ) (H := H) (xs := vs.toList) ⟨by simpa using hl, fun i c v h1 h2 => he i c v h1 (by simpa using h2)⟩
    exact .tup us vs (by simpa using hw.1) (fun i c v h1 h2 => hw.2 i c v h1 (by simpa using h2))

theorem wk_up {k : Nat} {σ : Nat → Nat} {m : Nat} {τ : Nat → Nat} {N : Nat} {v₀ v : V} (h : Wk v v₀) : VUp k σ m τ N v₀ v := fun κ₁ κ₂ H x l hx => h κ₁ κ₂ H x l.imm hx
theorem wk_dn {k : Nat} {σ : Nat → Nat} {v₀ v : V} (h : Wk v₀ v) : VDn k σ v₀ v := fun κ H x hx => h κ _ H x (fun _ _ h => h) hx

/-- An answer that only tells a value. -/
def pureO (s : List V → Option V) : List V → St → Option (V × St) := fun args st => match s args with | some v => some (v, st) | none => none

theorem pureO_some {s : List V → Option V} {args : List V} {v : V} (h : s args = some v) (st : St) : pureO s args st = some (v, st) := by
  simp only [pureO, h]

theorem pure_small {P : Program} {orc : Nat → Option (List V → St → Option (V × St))} {f : Nat} {s : List V → Option V}
    (h : ∀ args v, s args = some v → ∃ A d st' args₀ v₀, evF P A orc d (.f f) args₀ ⟨.lf, 0, [], []⟩ = some (v₀, st') ∧ WkL args₀ args ∧ Wk v v₀) :
    ∀ args st v st', pureO s args st = some (v, st') → Small P orc f args st v st' := by
  intro args st v st' ho
  unfold pureO at ho
  cases hs : s args with
  | none => rw [hs] at ho; cases ho
  | some u =>
    rw [hs] at ho
    cases ho
    obtain ⟨A, d, st', args₀, v₀, h1, h2, h3⟩ := h args v hs
    refine ⟨A, d, 0, ⟨.lf, 0, [], []⟩, st', args₀, v₀, id, 0, id, h1, rfl, ⟨h2.1, fun i a b ha hb => wk_dn (h2.2 i a b ha hb)⟩, fun i o hi => by simp [Tr.get] at hi, fun i j hi => by simp [Tr.get] at hi,
      fun j hj => by omega, fun i j hi => by omega, wk_up h3, rfl, .refl _, rfl, fun n o hn => .inr (.inr ⟨hn, by omega, fun i hi => by simp [Tr.get] at hi⟩)⟩

end Go.Am
