/-
  The law PreparedNone, for every input: the arguments are held opaque, and the abstract machine finds the law true. No conditions.
-/
import Derived.Test.YtiicpeidjhbhiaaGreatPreparedNoneFacts
import Derived.Test.YtiicpeidjhbhiaaGreatPreparedNoneRun
namespace Go.Proofs.YtiicpeidjhbhiaaGreat.preparedNone
open Go Go.ChangeShapes Go.WideShapes Go.ChangeAt Go.RowKit Go.Am
theorem closed : joinedFacts Tryz.prog 3 Tryz.f3 Rows.preparedNoneSpec Rows.preparedNoneRow = true := by
  unfold joinedFacts
  simp only [Bool.and_eq_true]
  set_option maxRecDepth 4000 in
  exact ⟨⟨⟨⟨⟨⟨⟨⟨⟨⟨⟨⟨⟨⟨⟨⟨⟨⟨⟨⟨⟨⟨⟨⟨⟨⟨⟨⟨⟨⟨⟨k1, factsA.laidOut⟩, factsA.mapsRowed_⟩, k4⟩, k5⟩, k6⟩, factsA.stops⟩, k8⟩, factsA.stopKnobs⟩, k10⟩, k11⟩, k12⟩, k13⟩, k14⟩, k15⟩, k16⟩, k17⟩, k17b⟩, k18⟩, k19⟩, k20⟩, k21⟩, k22⟩, k23⟩, factsA.stopsHeard⟩, k24⟩, k24b⟩, k24c⟩, k25⟩, k26⟩, k27⟩, k28⟩
theorem closedPin : joinedFacts Tryz.pinned.checked.prog 3 Tryz.f3 Rows.preparedNoneSpec Rows.preparedNoneRow = true := by
  rw [factsA.pin]; exact closed


def isStruct : Option TypeDesc → Bool
  | some (.struct _) => true
  | _ => false
theorem under3 : ∃ d, Tryz.prog.underlying 3 = some d ∧ isAggD d = false := by
  have h : (match Tryz.prog.underlying 3 with | some d => !isAggD d | none => false) = true := by kernel_rfl
  cases hu : Tryz.prog.underlying 3 with
  | none => rw [hu] at h; cases h
  | some d => rw [hu] at h; exact ⟨d, rfl, by simpa using h⟩
theorem under29 : ∃ fs, Tryz.prog.underlying 29 = some (.struct fs) := by
  have h : isStruct (Tryz.prog.underlying 29) = true := by kernel_rfl
  cases hu : Tryz.prog.underlying 29 with
  | none => rw [hu] at h; cases h
  | some d => rw [hu] at h; cases d <;> first | exact ⟨_, rfl⟩ | cases h

set_option maxRecDepth 100000 in
theorem lifted (os : Os) (started : os.Started) (H : Type) (enc : TypeId × Value → H) :
    ReturnsInHanded {} Tryz.checked os 3 .any (Rows.preparedNoneSpec.pre6 enc Tryz.prog Tryz.f3 Rows.preparedNoneRow.domain false) (Rows.preparedNoneSpec.post enc Tryz.prog Tryz.f3 false true false false) := by
  refine returnsInHanded_of_change (C := Tryz.checked) own started noInit Tryz.func3
    (ChangeSpec.witness6 (enc := enc) (C := Tryz.checked) false ⟨#[], #[(match Tryz.prog.info? 29 with | some i => i.zero.getD .nilFunc | none => .nilFunc), (match Tryz.prog.info? 3 with | some i => i.zero.getD .nilFunc | none => .nilFunc)], []⟩ 20 (by kernel_rfl) (by kernel_rfl) (by kernel_rfl) (by kernel_rfl)) ?_
  intro W base args ds gs before hval0 hW hcnd _
  have hval : ∀ (j : Nat) t v, Tryz.f3.params[j]? = some t → args[j]? = some v → Value.okWide Tryz.prog W .any base t v := hval0
  have hW' := hW
  obtain ⟨p, q, hA0, hV, rfl, hfz, hnd⟩ := hW
  have hA : DataW.TrodAll enc Tryz.prog W 0 (fun _ => true) true Tryz.f3.params.toList args.toList ds p := hA0
  have hA1 := hA
  rw [Tryz.params3] at hA hval
  obtain ⟨v0, vs0, d0, ds0, p0, q0, hargs, rfl, rfl, h0, r0⟩ := trodAll_cons hA
  obtain ⟨v1, vs1, d1, ds1, p1, q1, rfl, rfl, rfl, h1, r1⟩ := trodAll_cons r0
  obtain ⟨rfl, rfl, rfl⟩ := trodAll_nil r1
  obtain rfl : args = #[v0, v1] := by cases args; simp_all
  obtain ⟨rfl, rfl⟩ := trodVars_none hV
  obtain ⟨dd3, hu3, hd3⟩ := under3
  obtain ⟨fs29, hu29⟩ := under29
  have hp : PW (kap0 W) W.heap [.agg (List.replicate (Tryz.prog.cellsOf 29) .opq), .opq] (#[v0, v1] : Array Value).toList := .cons (opq_agg hu29 (hval 0 29 v0 rfl rfl) _ _) (.cons (opq_one hu3 hd3 (hval 1 3 v1 rfl rfl) _ _) .nil)
  refine (am_true mixed (orc0 _) run hp).mono fun e W' ⟨he, hs⟩ => ?_
  subst he
  exact ⟨_, rfl, post_of_stays hW' (fun _ _ _ => (trodAll_cons_mk (shut_bool Tryz.underlying4 _) trodAll_mk0)) (fun sp hsp => trodAll_stays (G := (· ∈ closeT Tryz.prog 12 Tryz.f3.params.toList)) hs.2 (good_parts good) _ _ _ _ (fun t ht => (hasN_iff _ _).1 (List.all_eq_true.1 given_ t ht)) hA1 (fun p hp => hsp p (by simpa using hp))) (fun _ _ => rfl) (by simp) hs
    (ok_one (by kernel_rfl) rfl (okWide_bool_mk Tryz.underlying4 _))⟩

theorem over : Rows.preparedNoneRow.holds Tryz.pinned (OpenSpec.ofChange Rows.preparedNoneSpec) :=
  OpenClaim.holds_of_wide 3 Tryz.f3 rfl rfl rfl rfl rfl rfl rfl ⟨rfl, rfl, rfl, rfl, rfl⟩ rfl rfl rfl rfl rfl named Tryz.func3 closedPin
    (of_decide_eq_true (by kernel_rfl)) (by unfold Func.isWrapper; first | (rw [if_pos (by decide +kernel)]; kernel_rfl) | (rw [if_neg (by decide +kernel)]; exact ⟨rfl, rfl⟩))
    (fun os started H enc _ => lifted os started H enc)

theorem proved : Rows.PreparedNoneSaid := over
end Go.Proofs.YtiicpeidjhbhiaaGreat.preparedNone
