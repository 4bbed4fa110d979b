/-
  The law TopicsNone where the arguments are of bulk at most 1048576: true; the input reads as it did.
-/
import Derived.Test.YtiicpeidjhbhiaaRows
import Derived.Test.YtiicpeidjhbhiaaTnB
import Derived.Test.YtiicpeidjhbhiaaAm35
import Derived.Test.YtiicpeidjhbhiaaAm26
namespace Go.Proofs.Ytiicpeidjhbhiaa.topicsNone
open Go Go.ChangeShapes Go.WideShapes Go.ChangeAt Go.RowKit Go.Am Go.Proofs.Ytiicpeidjhbhiaa.cd

theorem own : ownKnob Try.prog.godebug = none := by kernel_rfl
theorem good : goodB Try.prog (closeT Try.prog 12 Try.f3.params.toList) = true := by kernel_rfl
theorem given_ : (Try.f3.params.toList.all fun t => hasN t (closeT Try.prog 12 Try.f3.params.toList)) = true := by kernel_rfl
theorem shut_ : shutB Try.prog [5] [30, 9, 2, 28] = true := by kernel_rfl
def isStruct : Option TypeDesc → Bool
  | some (.struct _) => true
  | _ => false
theorem under26 : ∃ fs, Try.prog.underlying 26 = some (.struct fs) := by
  have h : isStruct (Try.prog.underlying 26) = true := by kernel_rfl
  cases hu : Try.prog.underlying 26 with
  | none => rw [hu] at h; cases h
  | some d => rw [hu] at h; cases d <;> first | exact ⟨_, rfl⟩ | cases h
theorem cells26 : Try.prog.cellsOf 26 = 7 := by kernel_rfl
theorem cells5 : Try.prog.cellsOf 5 = 1 := by kernel_rfl

/-- What a place for a record is, taken apart. -/
theorem open30 {H : Type} {d : DataW H} {us : List V} (h : Sh Try.prog 30 d us) : ∃ (l : List UInt8) (o : Int) (rv : V) (bs : List Nat) (d3 : DataW H), d = .agg [.lit (.string l), .lit (.int .i64 o), d3] ∧ us = [.str l, .int .i64 o, rv] ∧ bytesV rv = some bs ∧
    (-9223372036854775808 ≤ o ∧ o < 9223372036854775808) ∧ ((d3 = .nil ∧ bs = []) ∨ ∃ ds sp, d3 = .slice ds sp ∧ bs.length = ds.length) := by
  obtain ⟨ds, uss, rfl, rfl, h1, h2, hh⟩ := sh_struct Try.underlying30 h
  match ds, uss, h1, h2 with
  | [d1, d2, d3], [u1, u2, u3], _, _ =>
    obtain ⟨l, rfl, rfl, _⟩ := sh_str Try.underlying9 (hh 0 _ d1 u1 rfl rfl rfl)
    obtain ⟨o, rfl, rfl, hw⟩ := sh_int Try.underlying2 (hh 1 _ d2 u2 rfl rfl rfl)
    obtain ⟨rv, bs, rfl, hb, _, hd⟩ := sh_bytes Try.underlying28 Try.underlying5 cells5 (hh 2 _ d3 u3 rfl rfl rfl)
    refine ⟨l, o, rv, bs, d3, rfl, rfl, hb, ?_, hd⟩
    have hn : -9223372036854775808 ≤ o ∧ o ≤ 9223372036854775807 := by simpa [Lit.wf, IntKind.min, IntKind.max, IntKind.signed, IntKind.bits] using hw
    omega

theorem lenAll {H : Type} (l : List (DataW H)) : l.length ≤ Rows.uptoBulkAll l := by
  induction l with
  | nil => simp [Rows.uptoBulkAll]
  | cons x r ih =>
    have : 1 ≤ Rows.uptoBulk x := by
      cases x with
      | lit l => cases l <;> simp [Rows.uptoBulk]
      | nil => simp [Rows.uptoBulk]
      | ptr d => simp [Rows.uptoBulk]
      | slice elems spare => simp [Rows.uptoBulk]
      | agg parts => simp [Rows.uptoBulk]
      | iface t d => simp [Rows.uptoBulk]
      | map entries => simp [Rows.uptoBulk]
      | held h => simp [Rows.uptoBulk]
    simp only [Rows.uptoBulkAll, List.length_cons]; omega

set_option maxRecDepth 100000 in
theorem contract (H : Type) (enc : TypeId × Value → H) (W : World) (base : Nat) (args : Array Value) (ds gs : List (DataW H)) (before : List MemPlace)
    (hval : ∀ (j : Nat) t v, Try.f3.params[j]? = some t → args[j]? = some v → Value.okWide Try.prog W .any base t v)
    (hW : DataW.Whole enc Try.prog Try.f3.params.toList Rows.topicsNoneSpec.vars false W args.toList ds gs before) (hk : Rows.uptoSmall H (ds ++ gs) = true) :
    Calls Try.prog 3 args W fun e W' => ∃ v, e = .returned v ∧ Rows.topicsNoneSpec.post enc Try.prog Try.f3 false true false false W args v W' := by
  have hW' := hW
  obtain ⟨p, q, hA0, hV, rfl, hfz, hnd⟩ := hW
  have hA : DataW.TrodAll enc Try.prog W 0 (fun _ => true) true Try.f3.params.toList args.toList ds p := hA0
  have hA1 := hA
  rw [Try.params3] at hA hval
  obtain ⟨v0, vs0, d0, ds0, p0, q0, hargs, rfl, rfl, h0, r0⟩ := trodAll_cons hA
  obtain ⟨v1, vs1, d1, ds1, p1, q1, rfl, rfl, rfl, h1, r1⟩ := trodAll_cons r0
  obtain ⟨rfl, rfl, rfl⟩ := trodAll_nil r1
  obtain rfl : args = #[v0, v1] := by cases args; simp_all
  obtain ⟨rfl, rfl⟩ := trodVars_none hV
  obtain ⟨fs26, hu26⟩ := under26
  obtain ⟨cs1, rfl, hsp⟩ := spot_struct Try.underlying30 (hval 1 30 v1 rfl rfl)
  obtain ⟨fuel, h1⟩ := h1
  obtain ⟨us, hsh, hpw⟩ := sh_of shut_ fuel 30 _ _ (by simp) hsp h1
  obtain ⟨l, o, rv, bs, d3, rfl, rfl, hrv, ho, hd3⟩ := open30 hsh
  have hbulk : Rows.uptoBulkAll ([d0, .agg [.lit (.string l), .lit (.int .i64 o), d3]] ++ []) ≤ 1048576 := of_decide_eq_true hk
  simp only [List.append_nil, Rows.uptoBulkAll, Rows.uptoBulk] at hbulk
  have hl : l.length ≤ 1048576 := by omega
  have hb : bs.length ≤ 1048576 := by
    rcases hd3 with ⟨rfl, rfl⟩ | ⟨es, sp, rfl, e⟩
    · simp
    · have := lenAll es
      simp only [Rows.uptoBulk] at hbulk
      omega
  have hp : PW (kap0 W) W.heap [argR, argP l o rv] (#[v0, .agg cs1] : Array Value).toList := by
    have hpw' : PW (kap0 W) W.heap [.str l, .int .i64 o, rv] cs1.toList := hpw
    refine .cons ?_ (.cons (.agg _ _ (by simpa using hpw'.1) (fun i c v a b => hpw'.2 i c v a (by simpa using b))) .nil)
    have := opq_agg hu26 (hval 0 26 v0 rfl rfl) (kap0 W) W.heap
    rw [cells26] at this
    exact this
  refine (am_true mixed ok_orc7 (run l o rv bs hrv (by omega) (by omega) ho) hp).mono fun e W' ⟨he, hs⟩ => ?_
  subst he
  exact ⟨_, rfl, post_of_stays hW' (fun _ _ _ => (trodAll_cons_mk (shut_bool Try.underlying4 _) trodAll_mk0)) (fun sp hsp => trodAll_stays (G := (· ∈ closeT Try.prog 12 Try.f3.params.toList)) hs.2 (good_parts good) _ _ _ _ (fun t ht => (hasN_iff _ _).1 (List.all_eq_true.1 given_ t ht)) hA1 (fun p hp => hsp p (by simpa using hp))) (fun _ _ => rfl) (by simp) hs
    (ok_one (by kernel_rfl) rfl (okWide_bool_mk Try.underlying4 _))⟩

set_option maxRecDepth 100000 in
theorem lifted (os : Os) (started : os.Started) (H : Type) (enc : TypeId × Value → H) (F : Stop.Interp) :
    ReturnsInHanded {} Try.checked os 3 .any ((Rows.OpenSpec.upto Rows.topicsNoneSpec).pre6 enc Try.prog Try.f3 Rows.topicsNoneUptoRow.domain false) (((Rows.OpenSpec.upto Rows.topicsNoneSpec).at F).post enc Try.prog Try.f3 false true false false) := by
  refine returnsInHanded_of_cond (C := Try.checked) (s := Rows.OpenSpec.upto Rows.topicsNoneSpec) (k := Rows.uptoSmall) rfl own started (by kernel_rfl) Try.func3
    (OpenSpec.witness (enc := enc) (C := Try.checked) (s := Rows.OpenSpec.upto Rows.topicsNoneSpec) (k := Rows.uptoSmall) rfl false ⟨#[], #[(match Try.prog.info? 26 with | some i => i.zero.getD .nilFunc | none => .nilFunc), (match Try.prog.info? 30 with | some i => i.zero.getD .nilFunc | none => .nilFunc)], []⟩ 20 (by kernel_rfl) (by kernel_rfl) (by kernel_rfl)
      (x := ([.agg [.lit (.int .i64 0), .lit (.int .i64 0), .agg [.lit (.int .i64 0), .lit (.string []), .lit (.string []), .lit (.int .i64 0), .nil]], .agg [.lit (.string []), .lit (.int .i64 0), .nil]], [], [])) (by kernel_rfl) rfl (by kernel_rfl)) ?_
  intro W base args ds gs before hval hW _ hk _
  exact contract H enc W base args ds gs before hval hW hk

theorem over : Rows.topicsNoneUptoRow.holds Try.pinned (Rows.OpenSpec.upto Rows.topicsNoneSpec) :=
  OpenClaim.holds_of_cond 3 Try.f3 rfl rfl rfl rfl rfl rfl rfl ⟨rfl, rfl, rfl, rfl, rfl⟩ rfl rfl rfl rfl rfl (by kernel_rfl) Try.func3 (by kernel_rfl)
    (of_decide_eq_true (by kernel_rfl)) (by unfold Func.isWrapper; first | (rw [if_pos (by decide +kernel)]; kernel_rfl) | (rw [if_neg (by decide +kernel)]; exact ⟨rfl, rfl⟩))
    (fun os started H enc _ F => lifted os started H enc F)

theorem proved : Rows.TopicsNoneUptoSaid := over
end Go.Proofs.Ytiicpeidjhbhiaa.topicsNone
