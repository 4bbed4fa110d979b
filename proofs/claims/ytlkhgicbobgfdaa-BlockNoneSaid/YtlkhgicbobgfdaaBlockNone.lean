/- bullalaw09.BlockNone: whatever the header and the batch that come in, the law returns true, and both read behind the call as they read before. No condition. -/
import Derived.Test.YtlkhgicbobgfdaaRows
import Derived.Test.YtlkhgicbobgfdaaAm26
namespace Go.Proofs.Ytlkhgicbobgfdaa.blockNone
open Go Go.ChangeShapes Go.WideShapes Go.ChangeAt Go.RowKit Go.Am

theorem own : ownKnob Try.prog.godebug = none := by kernel_rfl
theorem mixed : Try.prog.follows .mixedOrders = true := by kernel_rfl

theorem good : goodB Try.prog (closeT Try.prog 8 Try.f8.params.toList) = true := by kernel_rfl
theorem given_ : (Try.f8.params.toList.all fun t => hasN t (closeT Try.prog 8 Try.f8.params.toList)) = true := by kernel_rfl

theorem under35 : ∃ d, Try.prog.underlying 35 = some d ∧ isAggD d = false := by
  have h : (match Try.prog.underlying 35 with | some d => !isAggD d | none => false) = true := by kernel_rfl
  cases hu : Try.prog.underlying 35 with
  | none => rw [hu] at h; cases h
  | some d => rw [hu] at h; exact ⟨d, rfl, by simpa using h⟩

def aid : Aid := ⟨fun _ _ => none, fun _ => false, 1000⟩

theorem run : isT (evF Try.prog aid (fun _ => none) 100 (.f 8) [.agg (List.replicate (Try.prog.cellsOf 114) .opq), .opq] ⟨.lf, 0, [], []⟩) = true := by kernel_rfl

def isStruct : Option TypeDesc → Bool
  | some (.struct _) => true
  | _ => false
theorem under114 : ∃ fs, Try.prog.underlying 114 = some (.struct fs) := by
  have h : isStruct (Try.prog.underlying 114) = true := by kernel_rfl
  cases hu : Try.prog.underlying 114 with
  | none => rw [hu] at h; cases h
  | some d => rw [hu] at h; cases d <;> first | exact ⟨_, rfl⟩ | cases h

set_option maxRecDepth 100000 in
theorem lifted (os : Os) (started : os.Started) (H : Type) (enc : TypeId × Value → H) :
    ReturnsInHanded {} Try.checked os 8 .any (Rows.blockNoneSpec.pre6 enc Try.prog Try.f8 Rows.blockNoneRow.domain false) (Rows.blockNoneSpec.post enc Try.prog Try.f8 false true false false) := by
  refine returnsInHanded_of_change (C := Try.checked) own started (by kernel_rfl) Try.func8
    (ChangeSpec.witness6 (enc := enc) (C := Try.checked) false ⟨#[], #[(match Try.prog.info? 114 with | some i => i.zero.getD .nilFunc | none => .nilFunc), (match Try.prog.info? 35 with | some i => i.zero.getD .nilFunc | none => .nilFunc)], []⟩ 20 (by kernel_rfl) (by kernel_rfl) (by kernel_rfl) (by kernel_rfl)) ?_
  intro W base args ds gs before hval0 hW hcnd _
  have hval : ∀ (j : Nat) t v, Try.f8.params[j]? = some t → args[j]? = some v → Value.okWide Try.prog W .any base t v := hval0
  have hW' := hW
  obtain ⟨p, q, hA0, hV, rfl, hfz, hnd⟩ := hW
  have hA : DataW.TrodAll enc Try.prog W 0 (fun _ => true) true Try.f8.params.toList args.toList ds p := hA0
  have hA1 := hA
  rw [Try.params8] at hA hval
  obtain ⟨v0, vs0, d0, ds0, p0, q0, hargs, rfl, rfl, h0, r0⟩ := trodAll_cons hA
  obtain ⟨v1, vs1, d1, ds1, p1, q1, rfl, rfl, rfl, h1, r1⟩ := trodAll_cons r0
  obtain ⟨rfl, rfl, rfl⟩ := trodAll_nil r1
  obtain rfl : args = #[v0, v1] := by cases args; simp_all
  obtain ⟨rfl, rfl⟩ := trodVars_none hV
  obtain ⟨fs, hu⟩ := under114
  obtain ⟨dd, hu2, hd2⟩ := under35
  have hp : PW (kap0 W) W.heap [.agg (List.replicate (Try.prog.cellsOf 114) .opq), .opq] (#[v0, v1] : Array Value).toList := .cons (opq_agg hu (hval 0 114 v0 rfl rfl) _ _) (.cons (opq_one hu2 hd2 (hval 1 35 v1 rfl rfl) _ _) .nil)
  refine (am_true mixed (orc0 _) run hp).mono fun e W' ⟨he, hs⟩ => ?_
  subst he
  exact ⟨_, rfl, post_of_stays hW' (fun _ _ _ => (trodAll_cons_mk (shut_bool Try.underlying4 _) trodAll_mk0)) (fun sp hsp => trodAll_stays (G := (· ∈ closeT Try.prog 8 Try.f8.params.toList)) hs.2 (good_parts good) _ _ _ _ (fun t ht => (hasN_iff _ _).1 (List.all_eq_true.1 given_ t ht)) hA1 (fun p hp => hsp p (by simpa using hp))) (fun _ _ => rfl) (by simp) hs
    (ok_one (by kernel_rfl) rfl (okWide_bool_mk Try.underlying4 _))⟩

theorem over : Rows.blockNoneRow.holds Try.pinned (OpenSpec.ofChange Rows.blockNoneSpec) :=
  OpenClaim.holds_of_wide 8 Try.f8 rfl rfl rfl rfl rfl rfl rfl ⟨rfl, rfl, rfl, rfl, rfl⟩ rfl rfl rfl rfl rfl (by kernel_rfl) Try.func8 (by kernel_rfl)
    (of_decide_eq_true (by kernel_rfl)) (by unfold Func.isWrapper; first | (rw [if_pos (by decide +kernel)]; kernel_rfl) | (rw [if_neg (by decide +kernel)]; exact ⟨rfl, rfl⟩))
    (fun os started H enc _ => lifted os started H enc)

theorem proved : Rows.BlockNoneSaid := over
end Go.Proofs.Ytlkhgicbobgfdaa.blockNone
