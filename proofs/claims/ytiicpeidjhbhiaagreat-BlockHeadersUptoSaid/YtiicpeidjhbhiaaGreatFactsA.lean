/-
  Closed facts of the loaded program. No conditions.
-/
import Derived.Test.YtiicpeidjhbhiaaGreatRows
import Derived.JoinedOf
namespace Go.Proofs.YtiicpeidjhbhiaaGreat.factsA
open Go
theorem laidOut : laidOutB Tryz.prog = true := by kernel_rfl
theorem mapsRowed_ : mapsRowed Tryz.prog = true := by kernel_rfl
theorem stops : (Tryz.prog.stops == []) = true := by kernel_rfl
theorem stopKnobs : (Tryz.prog.stopKnobs == []) = true := by kernel_rfl
theorem plainKeys : (false == Tryz.prog.plainKeys) = true := by kernel_rfl
theorem stopsHeard : Tryz.prog.stopsHeard = true := by kernel_rfl
theorem pin : Tryz.pinned.checked.prog = Tryz.prog := by kernel_rfl
end Go.Proofs.YtiicpeidjhbhiaaGreat.factsA
