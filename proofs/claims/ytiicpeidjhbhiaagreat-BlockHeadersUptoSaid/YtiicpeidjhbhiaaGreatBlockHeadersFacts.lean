/-
  The closed facts of the row of BlockHeaders. No conditions.
-/
import Derived.Test.YtiicpeidjhbhiaaGreatFactsA
namespace Go.Proofs.YtiicpeidjhbhiaaGreat.blockHeaders
open Go
theorem k1 : Rows.blockHeadersUptoRow.wf ((Rows.OpenSpec.upto Rows.blockHeadersSpec)) = true := by kernel_rfl
theorem k4 : Tryz.f5.params.all (Tryz.prog.readableRec ·) = true := by kernel_rfl
theorem k5 : namedTie Tryz.prog Rows.blockHeadersUptoRow.named (Rows.OpenSpec.upto Rows.blockHeadersSpec).bare.vars = true := by kernel_rfl
theorem k6 : (Rows.blockHeadersUptoRow.stops == []) = true := by kernel_rfl
theorem k8 : (Rows.blockHeadersUptoRow.knobs == []) = true := by kernel_rfl
theorem k10 : (Rows.blockHeadersUptoRow.inPlace == Tryz.prog.inPlace 5) = true := by kernel_rfl
theorem k11 : (Rows.blockHeadersUptoRow.unfollowed == Tryz.prog.unfollowed 5) = true := by kernel_rfl
theorem k12 : (Rows.blockHeadersUptoRow.recurses == Tryz.prog.recurses 5) = true := by kernel_rfl
theorem k13 : (Rows.blockHeadersUptoRow.named == Tryz.prog.varsNamed 5) = true := by kernel_rfl
theorem k14 : (Rows.blockHeadersUptoRow.maps == (Tryz.f5.params.toList ++ (Rows.OpenSpec.upto Rows.blockHeadersSpec).bare.plain.varTypes Tryz.prog).any (Tryz.prog.mapsRec ·)) = true := by kernel_rfl
theorem k15 : (Rows.blockHeadersUptoRow.ifaces == (Tryz.f5.params.toList ++ (Rows.OpenSpec.upto Rows.blockHeadersSpec).bare.plain.varTypes Tryz.prog).any (Tryz.prog.ifacesRec ·)) = true := by kernel_rfl
theorem k16 : (Rows.blockHeadersUptoRow.mapsOut == Tryz.prog.mapsAmong Tryz.f5.resultTypes.toList) = true := by kernel_rfl
theorem k17 : (Rows.blockHeadersUptoRow.loops == (Tryz.f5.params.toList ++ (Rows.OpenSpec.upto Rows.blockHeadersSpec).bare.plain.varTypes Tryz.prog).any (Tryz.prog.loopsFrom ·)) = true := by kernel_rfl
theorem k17b : (Rows.blockHeadersUptoRow.wideKeys == (Tryz.f5.params.toList ++ (Rows.OpenSpec.upto Rows.blockHeadersSpec).bare.plain.varTypes Tryz.prog ++ Tryz.f5.resultTypes.toList).any (Tryz.prog.wideKeysFrom ·)) = true := by kernel_rfl
theorem k18 : (Rows.OpenSpec.upto Rows.blockHeadersSpec).bare.vars.all (Tryz.prog.varReadable ·) = true := by kernel_rfl
theorem k19 : Tryz.f5.resultTypes.all (fun t => Tryz.prog.readableRec t && decide (t < Tryz.prog.types.size)) = true := by kernel_rfl
theorem k20 : (Rows.blockHeadersUptoRow.ifacesOut == Tryz.f5.resultTypes.toList.any (Tryz.prog.ifacesRec ·)) = true := by kernel_rfl
theorem k21 : (Rows.blockHeadersUptoRow.loopsOut == Tryz.f5.resultTypes.toList.any (Tryz.prog.loopsFrom ·)) = true := by kernel_rfl
theorem k22 : (Rows.blockHeadersUptoRow.plainKeys == Tryz.prog.plainKeys) = true := by
  have h : Rows.blockHeadersUptoRow.plainKeys = false := by kernel_rfl
  rw [h]; exact factsA.plainKeys
theorem k23 : Rows.blockHeadersUptoRow.shortTexts.isNone = true := by kernel_rfl
theorem k24 : Tryz.prog.mayEnter = true := by kernel_rfl
theorem k24b : (Rows.blockHeadersUptoRow.lifted == Tryz.prog.liftsFinal) = true := by kernel_rfl
theorem k24c : (Tryz.prog.make == some Rows.blockHeadersUptoRow.make) = true := by kernel_rfl
theorem k25 : (Rows.blockHeadersUptoRow.kinds == (if Rows.blockHeadersUptoRow.domain.isEmpty then [] else Tryz.f5.params.toList.map fun t => match Tryz.prog.underlying t with | some (.int k) => some k | _ => none)) = true := by kernel_rfl
theorem k26 : (Rows.blockHeadersUptoRow.pinned == Rows.blockHeadersUptoRow.pinnedBy) = true := by kernel_rfl
theorem k27 : (Rows.blockHeadersUptoRow.veiled == (Tryz.f5.params.toList ++ (Rows.OpenSpec.upto Rows.blockHeadersSpec).bare.plain.varTypes Tryz.prog ++ Tryz.f5.resultTypes.toList).any (Tryz.prog.veiledRec ·)) = true := by kernel_rfl
theorem k28 : Rows.blockHeadersUptoRow.veiledFits Tryz.prog Tryz.f5.params.toList (Tryz.f5.params.toList ++ (Rows.OpenSpec.upto Rows.blockHeadersSpec).bare.plain.varTypes Tryz.prog ++ Tryz.f5.resultTypes.toList) = true := by kernel_rfl
theorem noInit : Tryz.prog.inits.idxOf? 5 = none := by kernel_rfl
theorem named : Tryz.pinned.checked.prog.funcNamed Rows.blockHeadersUptoRow.func = some 5 := by kernel_rfl
end Go.Proofs.YtiicpeidjhbhiaaGreat.blockHeaders
