/-
  The closed facts of the row of PreparedNone. No conditions.
-/
import Derived.Test.YtiicpeidjhbhiaaGreatFactsA
namespace Go.Proofs.YtiicpeidjhbhiaaGreat.preparedNone
open Go
theorem k1 : Rows.preparedNoneRow.wf (OpenSpec.ofChange Rows.preparedNoneSpec) = true := by kernel_rfl
theorem k4 : Tryz.f3.params.all (Tryz.prog.readableRec ·) = true := by kernel_rfl
theorem k5 : namedTie Tryz.prog Rows.preparedNoneRow.named Rows.preparedNoneSpec.vars = true := by kernel_rfl
theorem k6 : (Rows.preparedNoneRow.stops == []) = true := by kernel_rfl
theorem k8 : (Rows.preparedNoneRow.knobs == []) = true := by kernel_rfl
theorem k10 : (Rows.preparedNoneRow.inPlace == Tryz.prog.inPlace 3) = true := by kernel_rfl
theorem k11 : (Rows.preparedNoneRow.unfollowed == Tryz.prog.unfollowed 3) = true := by kernel_rfl
theorem k12 : (Rows.preparedNoneRow.recurses == Tryz.prog.recurses 3) = true := by kernel_rfl
theorem k13 : (Rows.preparedNoneRow.named == Tryz.prog.varsNamed 3) = true := by kernel_rfl
theorem k14 : (Rows.preparedNoneRow.maps == (Tryz.f3.params.toList ++ Rows.preparedNoneSpec.plain.varTypes Tryz.prog).any (Tryz.prog.mapsRec ·)) = true := by kernel_rfl
theorem k15 : (Rows.preparedNoneRow.ifaces == (Tryz.f3.params.toList ++ Rows.preparedNoneSpec.plain.varTypes Tryz.prog).any (Tryz.prog.ifacesRec ·)) = true := by kernel_rfl
theorem k16 : (Rows.preparedNoneRow.mapsOut == Tryz.prog.mapsAmong Tryz.f3.resultTypes.toList) = true := by kernel_rfl
theorem k17 : (Rows.preparedNoneRow.loops == (Tryz.f3.params.toList ++ Rows.preparedNoneSpec.plain.varTypes Tryz.prog).any (Tryz.prog.loopsFrom ·)) = true := by kernel_rfl
theorem k17b : (Rows.preparedNoneRow.wideKeys == (Tryz.f3.params.toList ++ Rows.preparedNoneSpec.plain.varTypes Tryz.prog ++ Tryz.f3.resultTypes.toList).any (Tryz.prog.wideKeysFrom ·)) = true := by kernel_rfl
theorem k18 : Rows.preparedNoneSpec.vars.all (Tryz.prog.varReadable ·) = true := by kernel_rfl
theorem k19 : Tryz.f3.resultTypes.all (fun t => Tryz.prog.readableRec t && decide (t < Tryz.prog.types.size)) = true := by kernel_rfl
theorem k20 : (Rows.preparedNoneRow.ifacesOut == Tryz.f3.resultTypes.toList.any (Tryz.prog.ifacesRec ·)) = true := by kernel_rfl
theorem k21 : (Rows.preparedNoneRow.loopsOut == Tryz.f3.resultTypes.toList.any (Tryz.prog.loopsFrom ·)) = true := by kernel_rfl
theorem k22 : (Rows.preparedNoneRow.plainKeys == Tryz.prog.plainKeys) = true := by
  have h : Rows.preparedNoneRow.plainKeys = false := by kernel_rfl
  rw [h]; exact factsA.plainKeys
theorem k23 : Rows.preparedNoneRow.shortTexts.isNone = true := by kernel_rfl
theorem k24 : Tryz.prog.mayEnter = true := by kernel_rfl
theorem k24b : (Rows.preparedNoneRow.lifted == Tryz.prog.liftsFinal) = true := by kernel_rfl
theorem k24c : (Tryz.prog.make == some Rows.preparedNoneRow.make) = true := by kernel_rfl
theorem k25 : (Rows.preparedNoneRow.kinds == (if Rows.preparedNoneRow.domain.isEmpty then [] else Tryz.f3.params.toList.map fun t => match Tryz.prog.underlying t with | some (.int k) => some k | _ => none)) = true := by kernel_rfl
theorem k26 : (Rows.preparedNoneRow.pinned == Rows.preparedNoneRow.pinnedBy) = true := by kernel_rfl
theorem k27 : (Rows.preparedNoneRow.veiled == (Tryz.f3.params.toList ++ Rows.preparedNoneSpec.plain.varTypes Tryz.prog ++ Tryz.f3.resultTypes.toList).any (Tryz.prog.veiledRec ·)) = true := by kernel_rfl
theorem k28 : Rows.preparedNoneRow.veiledFits Tryz.prog Tryz.f3.params.toList (Tryz.f3.params.toList ++ Rows.preparedNoneSpec.plain.varTypes Tryz.prog ++ Tryz.f3.resultTypes.toList) = true := by kernel_rfl
theorem noInit : Tryz.prog.inits.idxOf? 3 = none := by kernel_rfl
theorem named : Tryz.pinned.checked.prog.funcNamed Rows.preparedNoneRow.func = some 3 := by kernel_rfl
end Go.Proofs.YtiicpeidjhbhiaaGreat.preparedNone
