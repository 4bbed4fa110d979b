/-
  THE ABSTRACT MACHINE, PART 35: what comes in, taken apart.
-/
import Derived.Test.YtiicpeidjhbhiaaGreatAm34
namespace Go.Am
open Go

section
variable {H : Type} {P : Program} {t : TypeId} {d : DataW H} {us : List V}

theorem sh_int {k : IntKind} (hu : P.underlying t = some (.int k)) (h : Sh P t d us) : ∃ n, d = .lit (.int k n) ∧ us = [.int k n] ∧ (Lit.int k n).wf = true := by
  cases h with
  | int hu' hw => rw [hu] at hu'; cases hu'; exact ⟨_, rfl, rfl, hw⟩
  | bool hu' => rw [hu] at hu'; cases hu'
  | str hu' _ => rw [hu] at hu'; cases hu'
  | snil hu' => rw [hu] at hu'; cases hu'
  | sl hu' _ _ _ _ _ _ _ => rw [hu] at hu'; cases hu'
  | st hu' _ _ _ _ _ => rw [hu] at hu'; cases hu'
  | arr hu' _ _ _ _ _ => rw [hu] at hu'; cases hu'
  | oth hu' => rw [hu] at hu'; exact hu'.elim
theorem sh_str (hu : P.underlying t = some .string) (h : Sh P t d us) : ∃ l, d = .lit (.string l) ∧ us = [.str l] ∧ l.length ≤ maxLen := by
  cases h with
  | str hu' hl => exact ⟨_, rfl, rfl, hl⟩
  | int hu' hw => rw [hu] at hu'; cases hu'
  | bool hu' => rw [hu] at hu'; cases hu'
  | snil hu' => rw [hu] at hu'; cases hu'
  | sl hu' _ _ _ _ _ _ _ => rw [hu] at hu'; cases hu'
  | st hu' _ _ _ _ _ => rw [hu] at hu'; cases hu'
  | arr hu' _ _ _ _ _ => rw [hu] at hu'; cases hu'
  | oth hu' => rw [hu] at hu'; exact hu'.elim
theorem sh_slice {e : TypeId} (hu : P.underlying t = some (.slice e)) (h : Sh P t d us) : (d = .nil ∧ us = [.snil]) ∨
    ∃ ds sp uss, d = .slice ds sp ∧ us = [.sl (List.flatten uss) ds.length (P.cellsOf e) .unk] ∧ uss.length = ds.length ∧ (∀ us ∈ uss, us.length = P.cellsOf e) ∧ (∀ (i : Nat) d us, ds[i]? = some d → uss[i]? = some us → Sh P e d us) ∧ ds.length ≤ maxLen := by
  cases h with
  | snil hu' => exact .inl ⟨rfl, rfl⟩
  | sl hu' ds sp uss hl hc hh hm => rw [hu] at hu'; cases hu'; exact .inr ⟨ds, sp, uss, rfl, rfl, hl, hc, hh, hm⟩
  | str hu' hl => rw [hu] at hu'; cases hu'
  | int hu' hw => rw [hu] at hu'; cases hu'
  | bool hu' => rw [hu] at hu'; cases hu'
  | st hu' _ _ _ _ _ => rw [hu] at hu'; cases hu'
  | arr hu' _ _ _ _ _ => rw [hu] at hu'; cases hu'
  | oth hu' => rw [hu] at hu'; exact hu'.elim
theorem sh_struct {fs : Array Field} (hu : P.underlying t = some (.struct fs)) (h : Sh P t d us) : ∃ ds uss, d = .agg ds ∧ us = List.flatten uss ∧ ds.length = fs.size ∧ uss.length = fs.size ∧ ∀ (i : Nat) f d us, fs[i]? = some f → ds[i]? = some d → uss[i]? = some us → Sh P f.type d us := by
  cases h with
  | st hu' ds uss h1 h2 hh => rw [hu] at hu'; cases hu'; exact ⟨ds, uss, rfl, rfl, h1, h2, hh⟩
  | snil hu' => rw [hu] at hu'; cases hu'
  | sl hu' _ _ _ _ _ _ _ => rw [hu] at hu'; cases hu'
  | str hu' hl => rw [hu] at hu'; cases hu'
  | int hu' hw => rw [hu] at hu'; cases hu'
  | bool hu' => rw [hu] at hu'; cases hu'
  | arr hu' _ _ _ _ _ => rw [hu] at hu'; cases hu'
  | oth hu' => rw [hu] at hu'; exact hu'.elim

/-- A list of bytes. -/
theorem sh_bytes {e : TypeId} (hu : P.underlying t = some (.slice e)) (he : P.underlying e = some (.int .u8)) (hc : P.cellsOf e = 1) (h : Sh P t d us) : ∃ v bs, us = [v] ∧ bytesV v = some bs ∧ (∀ b ∈ bs, b < 256) ∧
    ((d = .nil ∧ bs = []) ∨ ∃ ds sp, d = .slice ds sp ∧ bs.length = ds.length) := by
  rcases sh_slice hu h with ⟨rfl, rfl⟩ | ⟨ds, sp, uss, rfl, rfl, hl, hcs, hh, hm⟩
  · exact ⟨.snil, [], rfl, rfl, by simp, .inl ⟨rfl, rfl⟩⟩
  · have key : ∀ (ds : List (DataW H)) (uss : List (List V)), uss.length = ds.length → (∀ (i : Nat) d us, ds[i]? = some d → uss[i]? = some us → Sh P e d us) → ∃ bs : List Nat, uss.flatten = bs.map u8V ∧ bs.length = ds.length ∧ ∀ b ∈ bs, b < 256 := by
      intro ds
      induction ds with
      | nil => intro uss h _; have : uss = [] := List.eq_nil_of_length_eq_zero (by simpa using h); subst this; exact ⟨[], rfl, rfl, by simp⟩
      | cons d r ih =>
        intro uss h hh
        cases uss with
        | nil => simp at h
        | cons us uss =>
          obtain ⟨n, rfl, rfl, hw⟩ := sh_int he (hh 0 d us rfl rfl)
          obtain ⟨bs, h1, h2, h3⟩ := ih uss (by simpa using h) (fun i a b h1 h2 => hh (i + 1) a b (by simpa using h1) (by simpa using h2))
          have hn : 0 ≤ n ∧ n ≤ 255 := by simpa [Lit.wf, IntKind.min, IntKind.max, IntKind.signed, IntKind.bits] using hw
          refine ⟨n.toNat :: bs, ?_, by simp [h2], fun b hb => ?_⟩
          · simp only [List.flatten_cons, h1, List.map_cons, u8V, List.cons_append, List.nil_append]
            rw [Int.toNat_of_nonneg hn.1]
          · rcases List.mem_cons.1 hb with rfl | hb
            · omega
            · exact h3 b hb
    obtain ⟨bs, h1, h2, h3⟩ := key ds uss hl hh
    refine ⟨bsl bs .unk, bs, ?_, bytesV_bsl _ _, h3, .inr ⟨ds, sp, rfl, h2⟩⟩
    rw [h1, hc, bsl, h2]

theorem spot_cell {w : World} {r : Reach} {base : Nat} {u : TypeId} {v : Value} (h : Cell.okWide P w r base u v) : spotless v := by
  cases v with
  | slice a len cap =>
    cases a with
    | none => trivial
    | some a =>
      unfold Cell.okWide Cell.ok at h
      cases hu : P.underlying u with
      | none => rw [hu] at h; exact h.elim
      | some dd =>
        rw [hu] at h
        cases dd <;> first | exact h.elim | exact h.2.2.2.1
  | _ => trivial
theorem spot_struct {w : World} {r : Reach} {base : Nat} {u : TypeId} {v : Value} {fs : Array Field} (hu : P.underlying u = some (.struct fs)) (h : Value.okWide P w r base u v) : ∃ cs, v = .agg cs ∧ ∀ x ∈ v.cells.toList, spotless x := by
  unfold Value.okWide at h
  rw [hu] at h
  obtain ⟨cs, rfl, hs, ts, _, _, hc⟩ := h
  refine ⟨cs, rfl, fun x hx => ?_⟩
  have hx' : x ∈ cs.toList := hx
  obtain ⟨i, hi, rfl⟩ := List.getElem_of_mem hx'
  obtain ⟨u, _, ho⟩ := hc i cs.toList[i] (by simp at hi; simp [hi])
  exact spot_cell ho
theorem spot_one {w : World} {r : Reach} {base : Nat} {u e : TypeId} {v : Value} (hu : P.underlying u = some (.slice e)) (h : Value.okWide P w r base u v) : spotless v := by
  unfold Value.okWide at h
  rw [hu] at h
  exact spot_cell h
end

section
variable {H : Type} {enc : TypeId × Value → H} {P : Program} {w : World} {sp : Nat → Bool} {held : Bool}
theorem nosl_atom {r : TypeId → List Value → Option (DataW H × List MemPlace)} {t : TypeId} {cs : List Value} {x : DataW H × List MemPlace} (h : DataW.trodStep enc P w 0 sp held r t cs = some x)
    (hn : match P.underlying t with | some (.slice _) | some (.struct _) | some (.array _ _) => False | _ => True) : ∀ v ∈ cs, spotless v := by
  intro v hv
  unfold DataW.trodStep at h
  split at h
  case h_7 hu => rw [hu] at hn; exact hn.elim
  case h_8 hu => rw [hu] at hn; exact hn.elim
  case h_9 hu => rw [hu] at hn; exact hn.elim
  case h_10 hu => rw [hu] at hn; exact hn.elim
  case h_21 => cases h
  all_goals (simp only [List.mem_singleton] at hv; subst hv; trivial)
/-- The sets of types, checked. -/
theorem sh_of {N M : List TypeId} (h : shutB P N M = true) (n : Nat) (t : TypeId) (cs : List Value) (x : DataW H × List MemPlace) (ht : t ∈ M) (hs : ∀ v ∈ cs, spotless v) (hx : DataW.trod enc P w 0 sp held n t cs = some x) :
    ∃ us, Sh P t x.1 us ∧ PW (kap0 w) w.heap us cs := by
  simp only [shutB, Bool.and_eq_true, List.all_eq_true] at h
  obtain ⟨hN, hM⟩ := h
  have eN : ∀ (n : Nat) (e : TypeId) (cs : List Value) (x : DataW H × List MemPlace), e ∈ N → DataW.trod enc P w 0 sp held n e cs = some x → ∃ us, Sh P e x.1 us ∧ PW (kap0 w) w.heap us cs := by
    intro n e cs x he hx
    have main := sh_gen (enc := enc) (P := P) (w := w) (sp := sp) (held := held) (E := fun _ => False) (M := fun t => t ∈ N) (fun t ht => by
      have := hN t ht
      revert this
      cases hu : P.underlying t with
      | none => intro _; trivial
      | some dd =>
        cases dd with
        | slice e => intro h; cases h
        | struct fs =>
          intro h
          simp only [Bool.and_eq_true, List.all_eq_true] at h
          exact ⟨h.1, fun f hf => (hasN_iff _ _).1 (h.2 f hf)⟩
        | array n e =>
          intro h
          simp only [Bool.and_eq_true] at h
          exact ⟨Nat.eq_of_beq_eq_true h.1, (hasN_iff _ _).1 h.2⟩
        | _ => intro _; trivial) (fun _ _ _ _ h _ => h.elim) n e
    -- cells of these types hold no lists: what is no list is spotless
    have nosl : ∀ (n : Nat) (e : TypeId) (cs : List Value) (x : DataW H × List MemPlace), e ∈ N → DataW.trod enc P w 0 sp held n e cs = some x → ∀ v ∈ cs, spotless v := by
      intro n
      induction n with
      | zero => intro e cs x _ h; simp [DataW.trod] at h
      | succ n ih =>
        intro e cs x he hx v hv
        have hn := hN e he
        cases hu : P.underlying e with
        | none => simp [DataW.trod_step, DataW.trodStep, hu] at hx
        | some dd =>
          rw [hu] at hn
          cases dd with
          | slice e' => cases hn
          | struct fs =>
            simp only [Bool.and_eq_true, List.all_eq_true] at hn
            obtain ⟨hti, hfs⟩ := hn
            rw [DataW.trod_step] at hx
            simp only [DataW.trodStep, hu] at hx
            split at hx
            · rename_i hl
              simp only [Option.map_eq_some_iff] at hx
              obtain ⟨xs, hxs, _⟩ := hx
              have e' := tile_parts (P := P) fs.toList 0 (P.cellsOf e) cs hti hl
              rw [List.drop_zero] at e'
              rw [← e'] at hv
              obtain ⟨c, hc, hvc⟩ := List.mem_flatten.1 hv
              obtain ⟨f, hf, rfl⟩ := List.mem_map.1 hc
              obtain ⟨i, hi, hfi⟩ := List.getElem_of_mem hf
              have hlt : i < xs.length := by rw [mapM_len hxs]; exact hi
              have := mapM_some_get hxs i f (by rw [List.getElem?_eq_getElem hi, hfi])
              rw [List.getElem?_eq_getElem hlt] at this
              exact ih _ _ _ ((hasN_iff _ _).1 (hfs f hf)) this v hvc
            · cases hx
          | array m e' =>
            simp only [Bool.and_eq_true] at hn
            obtain ⟨hsz, he'⟩ := hn
            rw [DataW.trod_step] at hx
            simp only [DataW.trodStep, hu] at hx
            split at hx
            · rename_i hl
              simp only [Option.map_eq_some_iff] at hx
              obtain ⟨xs, hxs, _⟩ := hx
              have e'' := range_parts (P.cellsOf e') m cs (by rw [hl, ← Nat.eq_of_beq_eq_true hsz])
              rw [← e''] at hv
              obtain ⟨c, hc, hvc⟩ := List.mem_flatten.1 hv
              obtain ⟨i, hi, rfl⟩ := List.mem_map.1 hc
              have hlt : i < xs.length := by rw [mapM_len hxs]; simpa using hi
              have hi' : i < m := by simpa using hi
              have := mapM_some_get hxs i i (by rw [List.getElem?_range hi'])
              rw [List.getElem?_eq_getElem hlt] at this
              exact ih _ _ _ ((hasN_iff _ _).1 he') this v hvc
            · cases hx
          | _ =>
            rw [DataW.trod_step] at hx
            exact nosl_atom hx (by rw [hu]; trivial) v hv
    exact main cs x he (fun v hv _ => nosl n e cs x he hx v hv) hx
  exact sh_gen (E := fun t => t ∈ N) (M := fun t => t ∈ M) (fun t ht => by
      have := hM t ht
      revert this
      cases hu : P.underlying t with
      | none => intro _; trivial
      | some dd =>
        cases dd with
        | slice e => intro h; exact (hasN_iff _ _).1 h
        | struct fs =>
          intro h
          simp only [Bool.and_eq_true, List.all_eq_true] at h
          exact ⟨h.1, fun f hf => (hasN_iff _ _).1 (h.2 f hf)⟩
        | array n e =>
          intro h
          simp only [Bool.and_eq_true] at h
          exact ⟨Nat.eq_of_beq_eq_true h.1, (hasN_iff _ _).1 h.2⟩
        | _ => intro _; trivial) eN n t cs x ht (fun v hv _ => hs v hv) hx
end
end Go.Am
