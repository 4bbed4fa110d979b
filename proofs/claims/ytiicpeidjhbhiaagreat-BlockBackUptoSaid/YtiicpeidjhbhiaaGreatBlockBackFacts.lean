/-
  The closed facts of the row of BlockBack. No conditions.
-/
import Derived.Test.YtiicpeidjhbhiaaGreatFactsA
namespace Go.Proofs.YtiicpeidjhbhiaaGreat.blockBack
open Go
theorem k1 : Rows.blockBackUptoRow.wf ((Rows.OpenSpec.upto Rows.blockBackSpec)) = true := by kernel_rfl
theorem k4 : Tryz.f6.params.all (Tryz.prog.readableRec ·) = true := by kernel_rfl
theorem k5 : namedTie Tryz.prog Rows.blockBackUptoRow.named (Rows.OpenSpec.upto Rows.blockBackSpec).bare.vars = true := by kernel_rfl
theorem k6 : (Rows.blockBackUptoRow.stops == []) = true := by kernel_rfl
theorem k8 : (Rows.blockBackUptoRow.knobs == []) = true := by kernel_rfl
theorem k10 : (Rows.blockBackUptoRow.inPlace == Tryz.prog.inPlace 6) = true := by kernel_rfl
theorem k11 : (Rows.blockBackUptoRow.unfollowed == Tryz.prog.unfollowed 6) = true := by kernel_rfl
theorem k12 : (Rows.blockBackUptoRow.recurses == Tryz.prog.recurses 6) = true := by kernel_rfl
theorem k13 : (Rows.blockBackUptoRow.named == Tryz.prog.varsNamed 6) = true := by kernel_rfl
theorem k14 : (Rows.blockBackUptoRow.maps == (Tryz.f6.params.toList ++ (Rows.OpenSpec.upto Rows.blockBackSpec).bare.plain.varTypes Tryz.prog).any (Tryz.prog.mapsRec ·)) = true := by kernel_rfl
theorem k15 : (Rows.blockBackUptoRow.ifaces == (Tryz.f6.params.toList ++ (Rows.OpenSpec.upto Rows.blockBackSpec).bare.plain.varTypes Tryz.prog).any (Tryz.prog.ifacesRec ·)) = true := by kernel_rfl
theorem k16 : (Rows.blockBackUptoRow.mapsOut == Tryz.prog.mapsAmong Tryz.f6.resultTypes.toList) = true := by kernel_rfl
theorem k17 : (Rows.blockBackUptoRow.loops == (Tryz.f6.params.toList ++ (Rows.OpenSpec.upto Rows.blockBackSpec).bare.plain.varTypes Tryz.prog).any (Tryz.prog.loopsFrom ·)) = true := by kernel_rfl
theorem k17b : (Rows.blockBackUptoRow.wideKeys == (Tryz.f6.params.toList ++ (Rows.OpenSpec.upto Rows.blockBackSpec).bare.plain.varTypes Tryz.prog ++ Tryz.f6.resultTypes.toList).any (Tryz.prog.wideKeysFrom ·)) = true := by kernel_rfl
theorem k18 : (Rows.OpenSpec.upto Rows.blockBackSpec).bare.vars.all (Tryz.prog.varReadable ·) = true := by kernel_rfl
theorem k19 : Tryz.f6.resultTypes.all (fun t => Tryz.prog.readableRec t && decide (t < Tryz.prog.types.size)) = true := by kernel_rfl
theorem k20 : (Rows.blockBackUptoRow.ifacesOut == Tryz.f6.resultTypes.toList.any (Tryz.prog.ifacesRec ·)) = true := by kernel_rfl
theorem k21 : (Rows.blockBackUptoRow.loopsOut == Tryz.f6.resultTypes.toList.any (Tryz.prog.loopsFrom ·)) = true := by kernel_rfl
theorem k22 : (Rows.blockBackUptoRow.plainKeys == Tryz.prog.plainKeys) = true := by
  have h : Rows.blockBackUptoRow.plainKeys = false := by kernel_rfl
  rw [h]; exact factsA.plainKeys
theorem k23 : Rows.blockBackUptoRow.shortTexts.isNone = true := by kernel_rfl
theorem k24 : Tryz.prog.mayEnter = true := by kernel_rfl
theorem k24b : (Rows.blockBackUptoRow.lifted == Tryz.prog.liftsFinal) = true := by kernel_rfl
theorem k24c : (Tryz.prog.make == some Rows.blockBackUptoRow.make) = true := by kernel_rfl
theorem k25 : (Rows.blockBackUptoRow.kinds == (if Rows.blockBackUptoRow.domain.isEmpty then [] else Tryz.f6.params.toList.map fun t => match Tryz.prog.underlying t with | some (.int k) => some k | _ => none)) = true := by kernel_rfl
theorem k26 : (Rows.blockBackUptoRow.pinned == Rows.blockBackUptoRow.pinnedBy) = true := by kernel_rfl
theorem k27 : (Rows.blockBackUptoRow.veiled == (Tryz.f6.params.toList ++ (Rows.OpenSpec.upto Rows.blockBackSpec).bare.plain.varTypes Tryz.prog ++ Tryz.f6.resultTypes.toList).any (Tryz.prog.veiledRec ·)) = true := by kernel_rfl
theorem k28 : Rows.blockBackUptoRow.veiledFits Tryz.prog Tryz.f6.params.toList (Tryz.f6.params.toList ++ (Rows.OpenSpec.upto Rows.blockBackSpec).bare.plain.varTypes Tryz.prog ++ Tryz.f6.resultTypes.toList) = true := by kernel_rfl
theorem noInit : Tryz.prog.inits.idxOf? 6 = none := by kernel_rfl
theorem named : Tryz.pinned.checked.prog.funcNamed Rows.blockBackUptoRow.func = some 6 := by kernel_rfl
end Go.Proofs.YtiicpeidjhbhiaaGreat.blockBack
