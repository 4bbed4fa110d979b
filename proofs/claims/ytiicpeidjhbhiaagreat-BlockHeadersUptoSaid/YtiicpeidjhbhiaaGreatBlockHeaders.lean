/-
  The law BlockHeaders where the arguments are of bulk at most 1048576: true; the input reads as it did.
-/
import Derived.Test.YtiicpeidjhbhiaaGreatBlockHeadersFacts
import Derived.Test.YtiicpeidjhbhiaaGreatBhA
import Derived.Test.YtiicpeidjhbhiaaGreatAm39
import Derived.Test.YtiicpeidjhbhiaaGreatAm26
namespace Go.Proofs.YtiicpeidjhbhiaaGreat.blockHeaders
open Go Go.ChangeShapes Go.WideShapes Go.ChangeAt Go.RowKit Go.Am Go.Proofs.YtiicpeidjhbhiaaGreat.cd
theorem closed : joinedFacts Tryz.prog 5 Tryz.f5 (Rows.OpenSpec.upto Rows.blockHeadersSpec).bare Rows.blockHeadersUptoRow = true := by
  unfold joinedFacts
  simp only [Bool.and_eq_true]
  set_option maxRecDepth 4000 in
  exact ⟨⟨⟨⟨⟨⟨⟨⟨⟨⟨⟨⟨⟨⟨⟨⟨⟨⟨⟨⟨⟨⟨⟨⟨⟨⟨⟨⟨⟨⟨⟨k1, factsA.laidOut⟩, factsA.mapsRowed_⟩, k4⟩, k5⟩, k6⟩, factsA.stops⟩, k8⟩, factsA.stopKnobs⟩, k10⟩, k11⟩, k12⟩, k13⟩, k14⟩, k15⟩, k16⟩, k17⟩, k17b⟩, k18⟩, k19⟩, k20⟩, k21⟩, k22⟩, k23⟩, factsA.stopsHeard⟩, k24⟩, k24b⟩, k24c⟩, k25⟩, k26⟩, k27⟩, k28⟩
theorem closedPin : joinedFacts Tryz.pinned.checked.prog 5 Tryz.f5 (Rows.OpenSpec.upto Rows.blockHeadersSpec).bare Rows.blockHeadersUptoRow = true := by
  rw [factsA.pin]; exact closed

theorem own : ownKnob Tryz.prog.godebug = none := by kernel_rfl
theorem good : goodB Tryz.prog (closeT Tryz.prog 12 Tryz.f5.params.toList) = true := by kernel_rfl
theorem given_ : (Tryz.f5.params.toList.all fun t => hasN t (closeT Tryz.prog 12 Tryz.f5.params.toList)) = true := by kernel_rfl
theorem shut_ : shutB Tryz.prog [5] [98, 2, 22, 60] = true := by kernel_rfl
theorem cells5 : Tryz.prog.cellsOf 5 = 1 := by kernel_rfl

/-- What a header is, taken apart. -/
theorem open98 {H : Type} {d : DataW H} {us : List V} (h : Sh Tryz.prog 98 d us) : ∃ (a b c e g : Int), us = [.int .i64 a, .int .i64 b, .int .i64 c, .int .i64 e, .int .i64 g] := by
  obtain ⟨ds, uss, rfl, rfl, h1, h2, hh⟩ := sh_struct Tryz.underlying98 h
  match ds, uss, h1, h2 with
  | [d1, d2, d3, d4, d5], [u1, u2, u3, u4, u5], _, _ =>
    obtain ⟨a, rfl, rfl, _⟩ := sh_int Tryz.underlying2 (hh 0 _ d1 u1 rfl rfl rfl)
    obtain ⟨b, rfl, rfl, _⟩ := sh_int Tryz.underlying22 (hh 1 _ d2 u2 rfl rfl rfl)
    obtain ⟨c, rfl, rfl, _⟩ := sh_int Tryz.underlying22 (hh 2 _ d3 u3 rfl rfl rfl)
    obtain ⟨e, rfl, rfl, _⟩ := sh_int Tryz.underlying22 (hh 3 _ d4 u4 rfl rfl rfl)
    obtain ⟨g, rfl, rfl, _⟩ := sh_int Tryz.underlying22 (hh 4 _ d5 u5 rfl rfl rfl)
    exact ⟨a, b, c, e, g, rfl⟩

theorem lenAll {H : Type} (l : List (DataW H)) : l.length ≤ Rows.uptoBulkAll l := by
  induction l with
  | nil => simp [Rows.uptoBulkAll]
  | cons x r ih =>
    have : 1 ≤ Rows.uptoBulk x := by
      cases x with
      | lit l => cases l <;> simp [Rows.uptoBulk]
      | nil => simp [Rows.uptoBulk]
      | ptr d => simp [Rows.uptoBulk]
      | slice elems spare => simp [Rows.uptoBulk]
      | agg parts => simp [Rows.uptoBulk]
      | iface t d => simp [Rows.uptoBulk]
      | map entries => simp [Rows.uptoBulk]
      | held h => simp [Rows.uptoBulk]
    simp only [Rows.uptoBulkAll, List.length_cons]; omega

set_option maxRecDepth 100000 in
theorem contract (H : Type) (enc : TypeId × Value → H) (W : World) (base : Nat) (args : Array Value) (ds gs : List (DataW H)) (before : List MemPlace)
    (hval : ∀ (j : Nat) t v, Tryz.f5.params[j]? = some t → args[j]? = some v → Value.okWide Tryz.prog W .any base t v)
    (hW : DataW.Whole enc Tryz.prog Tryz.f5.params.toList Rows.blockHeadersSpec.vars false W args.toList ds gs before) (hk : Rows.uptoSmall H (ds ++ gs) = true) :
    Calls Tryz.prog 5 args W fun e W' => ∃ v, e = .returned v ∧ Rows.blockHeadersSpec.post enc Tryz.prog Tryz.f5 false true false false W args v W' := by
  have hW' := hW
  obtain ⟨p, q, hA0, hV, rfl, hfz, hnd⟩ := hW
  have hA : DataW.TrodAll enc Tryz.prog W 0 (fun _ => true) true Tryz.f5.params.toList args.toList ds p := hA0
  have hA1 := hA
  rw [Tryz.params5] at hA hval
  obtain ⟨v0, vs0, d0, ds0, p0, q0, hargs, rfl, rfl, h0, r0⟩ := trodAll_cons hA
  obtain ⟨v1, vs1, d1, ds1, p1, q1, rfl, rfl, rfl, h1, r1⟩ := trodAll_cons r0
  obtain ⟨rfl, rfl, rfl⟩ := trodAll_nil r1
  obtain rfl : args = #[v0, v1] := by cases args; simp_all
  obtain ⟨rfl, rfl⟩ := trodVars_none hV
  obtain ⟨cs0, rfl, hsp0⟩ := spot_struct Tryz.underlying98 (hval 0 98 v0 rfl rfl)
  have hsp1 := spot_one Tryz.underlying60 (hval 1 60 v1 rfl rfl)
  have hc1 : v1.cells = #[v1] := cells_slice Tryz.underlying60 (hval 1 60 v1 rfl rfl)
  obtain ⟨fuel0, h0⟩ := h0
  obtain ⟨fuel1, h1⟩ := h1
  obtain ⟨us0, hsh0, hpw0⟩ := sh_of shut_ fuel0 98 _ _ (by simp) hsp0 h0
  obtain ⟨us1, hsh1, hpw1⟩ := sh_of shut_ fuel1 60 _ _ (by simp) (fun x hx => by rw [hc1] at hx; simp at hx; subst hx; exact hsp1) h1
  obtain ⟨a, b, c, e', g, rfl⟩ := open98 hsh0
  obtain ⟨rv, bs, rfl, hrv, hlt, hd⟩ := sh_bytes Tryz.underlying60 Tryz.underlying5 cells5 hsh1
  have hbulk : Rows.uptoBulkAll ([d0, d1] ++ []) ≤ 1048576 := of_decide_eq_true hk
  simp only [List.append_nil, Rows.uptoBulkAll] at hbulk
  have hb : bs.length ≤ 1048576 := by
    rcases hd with ⟨rfl, rfl⟩ | ⟨es, sp, rfl, e⟩
    · simp
    · have := lenAll es
      simp only [Rows.uptoBulk] at hbulk
      omega
  have hok : okR (wkB rv) := by
    rcases bytesV_eq hrv with ⟨rfl, _⟩ | ⟨cp, rfl⟩
    · exact .inl rfl
    · exact .inr ⟨bs, rfl, by omega, hlt⟩
  have hp : PW (kap0 W) W.heap [.agg [.int .i64 a, .int .i64 b, .int .i64 c, .int .i64 e', .int .i64 g], rv] (#[.agg cs0, v1] : Array Value).toList := by
    have hpw0' : PW (kap0 W) W.heap [.int .i64 a, .int .i64 b, .int .i64 c, .int .i64 e', .int .i64 g] cs0.toList := hpw0
    have pw1 : RV (kap0 W) W.heap rv v1 := by rw [hc1] at hpw1; exact hpw1.head
    exact .cons (.agg _ _ (by simpa using hpw0'.1) (fun i c v a b => hpw0'.2 i c v a (by simpa using b))) (.cons pw1 .nil)
  refine (am_true mixed ok_orcl (run a b c e' g rv bs hrv hok) hp).mono fun e W' ⟨he, hs⟩ => ?_
  subst he
  exact ⟨_, rfl, post_of_stays hW' (fun _ _ _ => (trodAll_cons_mk (shut_bool Tryz.underlying4 _) trodAll_mk0)) (fun sp hsp => trodAll_stays (G := (· ∈ closeT Tryz.prog 12 Tryz.f5.params.toList)) hs.2 (good_parts good) _ _ _ _ (fun t ht => (hasN_iff _ _).1 (List.all_eq_true.1 given_ t ht)) hA1 (fun p hp => hsp p (by simpa using hp))) (fun _ _ => rfl) (by simp) hs
    (ok_one (by kernel_rfl) rfl (okWide_bool_mk Tryz.underlying4 _))⟩

set_option maxRecDepth 100000 in
theorem lifted (os : Os) (started : os.Started) (H : Type) (enc : TypeId × Value → H) (F : Stop.Interp) :
    ReturnsInHanded {} Tryz.checked os 5 .any ((Rows.OpenSpec.upto Rows.blockHeadersSpec).pre6 enc Tryz.prog Tryz.f5 Rows.blockHeadersUptoRow.domain false) (((Rows.OpenSpec.upto Rows.blockHeadersSpec).at F).post enc Tryz.prog Tryz.f5 false true false false) := by
  refine returnsInHanded_of_cond (C := Tryz.checked) (s := (Rows.OpenSpec.upto Rows.blockHeadersSpec)) (k := Rows.uptoSmall) rfl own started noInit Tryz.func5
    (OpenSpec.witness (enc := enc) (C := Tryz.checked) (s := (Rows.OpenSpec.upto Rows.blockHeadersSpec)) (k := Rows.uptoSmall) rfl false ⟨#[], #[(match Tryz.prog.info? 98 with | some i => i.zero.getD .nilFunc | none => .nilFunc), (match Tryz.prog.info? 60 with | some i => i.zero.getD .nilFunc | none => .nilFunc)], []⟩ 20 (by kernel_rfl) (by kernel_rfl) (by kernel_rfl)
      (x := ([.agg [.lit (.int .i64 0), .lit (.int .i64 0), .lit (.int .i64 0), .lit (.int .i64 0), .lit (.int .i64 0)], .nil], [], [])) (by kernel_rfl) rfl (by kernel_rfl)) ?_
  intro W base args ds gs before hval hW _ hk _
  exact contract H enc W base args ds gs before hval hW hk

theorem over : Rows.blockHeadersUptoRow.holds Tryz.pinned (Rows.OpenSpec.upto Rows.blockHeadersSpec) :=
  OpenClaim.holds_of_cond 5 Tryz.f5 rfl rfl rfl rfl rfl rfl rfl ⟨rfl, rfl, rfl, rfl, rfl⟩ rfl rfl rfl rfl rfl named Tryz.func5 closedPin
    (of_decide_eq_true (by kernel_rfl)) (by unfold Func.isWrapper; first | (rw [if_pos (by decide +kernel)]; kernel_rfl) | (rw [if_neg (by decide +kernel)]; exact ⟨rfl, rfl⟩))
    (fun os started H enc _ F => lifted os started H enc F)

theorem proved : Rows.BlockHeadersUptoSaid := over
end Go.Proofs.YtiicpeidjhbhiaaGreat.blockHeaders
