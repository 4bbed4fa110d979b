/-
  The abstract machine's run of the law PreparedNone over opaque arguments. No conditions.
-/
import Derived.Test.YtiicpeidjhbhiaaGreatProg
import Derived.Test.YtiicpeidjhbhiaaGreatAm26
namespace Go.Proofs.YtiicpeidjhbhiaaGreat.preparedNone
open Go Go.Am
theorem own : ownKnob Tryz.prog.godebug = none := by kernel_rfl
theorem mixed : Tryz.prog.follows .mixedOrders = true := by kernel_rfl
theorem good : goodB Tryz.prog (closeT Tryz.prog 12 Tryz.f3.params.toList) = true := by kernel_rfl
theorem given_ : (Tryz.f3.params.toList.all fun t => hasN t (closeT Tryz.prog 12 Tryz.f3.params.toList)) = true := by kernel_rfl
def aid : Aid := ⟨fun _ _ => none, fun f => Nat.beq f 3 || Nat.beq f 101, 1000⟩
theorem run : isT (evF Tryz.prog aid (fun _ => none) 100 (.f 3) [.agg (List.replicate (Tryz.prog.cellsOf 29) .opq), .opq] ⟨.lf, 0, [], []⟩) = true := by kernel_rfl
end Go.Proofs.YtiicpeidjhbhiaaGreat.preparedNone
