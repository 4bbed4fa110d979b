/-
  THE ABSTRACT MACHINE, PART 38: an argument of one cell.
-/
import Derived.Test.YtiicpeidjhbhiaaGreatAm35
namespace Go.Am
open Go
theorem cells_slice {P : Program} {w : World} {r : Reach} {base : Nat} {u e : TypeId} {v : Value} (hu : P.underlying u = some (.slice e)) (h : Value.okWide P w r base u v) : v.cells = #[v] := by
  unfold Value.okWide at h
  rw [hu] at h
  cases v with
  | agg cs =>
    have h : Cell.okWide P w r base u (.agg cs) := h
    unfold Cell.okWide Cell.ok at h
    rw [hu] at h
    exact h.elim
  | _ => rfl
end Go.Am
