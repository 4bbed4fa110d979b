/-
  THE ABSTRACT MACHINE, PART 37: answers put together; a closed function's answer; equality of numbers laid side by side.
-/
import Derived.Test.YtiicpeidjhbhiaaGreatAm28
namespace Go.Am
open Go
theorem orc_or {P : Program} {o1 o2 : Nat → Option (List V → St → Option (V × St))} (f : Nat) (h1 : OrcOk P o1) (h2 : OrcOk P o2) : OrcOk P (fun g => bif Nat.beq g f then o1 g else o2 g) := by
  intro g o args st v st' h
  have h : (bif Nat.beq g f then o1 g else o2 g) = some o := h
  cases hb : Nat.beq g f with
  | true => rw [hb] at h; exact h1 g o args st v st' h
  | false => rw [hb] at h; exact h2 g o args st v st' h
/-- A function without arguments that tells 'true'. -/
def trueS : List V → Option V
  | [] => some (.bool true)
  | _ => none
theorem trueS_inv {args : List V} {u : V} (h : trueS args = some u) : args = [] ∧ u = .bool true := by
  unfold trueS at h
  split at h
  · cases h; exact ⟨rfl, rfl⟩
  · cases h
theorem isT_inv {r : Option (V × St)} (h : isT r = true) : ∃ st, r = some (.bool true, st) := by
  unfold isT at h
  split at h
  · exact ⟨_, rfl⟩
  · cases h
theorem ok_true {P : Program} (hm : P.follows .mixedOrders = true) {A : Aid} {d f : Nat} (h : isT (evF P A (fun _ => none) d (.f f) [] ⟨.lf, 0, [], []⟩) = true) : OrcOk P (fun g => bif Nat.beq g f then some (pureO trueS) else none) := by
  refine orc_add hm (orc0 P) (pure_small fun args v hv => ?_)
  obtain ⟨rfl, rfl⟩ := trueS_inv hv
  obtain ⟨st, hst⟩ := isT_inv h
  exact ⟨A, d, st, _, _, hst, .nil, wk_bool _⟩
/-- Numbers told apart one by one. -/
def chainB : List (Int × Int) → Option Bool
  | [] => some true
  | (a, b) :: r => (match some (a == b) with | some true => chainB r | some false => some false | none => none)
theorem chainB_eq : ∀ l : List (Int × Int), chainB l = some (decide (∀ p ∈ l, p.1 = p.2))
  | [] => by simp [chainB]
  | (a, b) :: r => by
    have ih := chainB_eq r
    by_cases h : a = b
    · have hb : (a == b) = true := by simp [h]
      simp only [chainB, hb, ih]
      simp [h]
    · have hb : (a == b) = false := by simp [h]
      simp only [chainB, hb]
      simp [h]
theorem neq_agg {P : Program} {t : TypeId} {xs ys : List V} {b : Bool} (hg : eqGuardOk P t (.agg xs) = true) (h : eqV P eqTop t (.agg xs) (.agg ys) = some b) : binV P .neq t (.agg xs) (.agg ys) = some (.bool (!b)) := by
  simp only [binV, hg, cond_true, h]
theorem eql_agg {P : Program} {t : TypeId} {xs ys : List V} {b : Bool} (hg : eqGuardOk P t (.agg xs) = true) (h : eqV P eqTop t (.agg xs) (.agg ys) = some b) : binV P .eql t (.agg xs) (.agg ys) = some (.bool b) := by
  simp only [binV, hg, cond_true, h]
end Go.Am
