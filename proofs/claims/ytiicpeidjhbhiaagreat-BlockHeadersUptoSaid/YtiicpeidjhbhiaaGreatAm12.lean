/-
  THE ABSTRACT MACHINE, PART 12: s[l:h:m].
-/
import Derived.Test.YtiicpeidjhbhiaaGreatAm11
namespace Go.Am
open Go

section ops
variable {P : Program} {κ : Kap} {st st' : St} {w : World} {v : V} {rd rd' : List Nat}

/-- An operand that may be missing. -/
def RO (κ : Kap) (H : Array Obj) : Option V → Option Value → Prop
  | none, none => True
  | some v, some u => RV κ H v u
  | _, _ => False

theorem RO.isSome {H : Array Obj} {x : Option V} {x' : Option Value} (h : RO κ H x x') : x'.isSome = x.isSome := by
  cases x <;> cases x' <;> simp_all [RO]

/-- A bound that is given. -/
theorem bnd_some {H : Array Obj} {x : V} {x' : Value} {dflt most n most' : Nat} (h : bnd (some x) dflt most = some n) (hx : RV κ H x x') (hm : most ≤ most') (code : BoundsCode) (w : World) :
    (Instr.sliceBound x' most' code).run P w = .ok n w ∧ n ≤ most := by
  cases x with
  | int k i =>
    obtain rfl := hx.inv_int
    simp only [bnd] at h
    cases hb : (decide (0 ≤ i) && decide (i ≤ (most : Int))) with
    | false => rw [hb] at h; cases h
    | true =>
      rw [hb] at h
      simp only [cond_true] at h
      cases h
      simp only [Bool.and_eq_true, decide_eq_true_eq] at hb
      refine ⟨?_, by omega⟩
      have : 0 ≤ i ∧ i ≤ (most' : Int) := ⟨hb.1, by omega⟩
      simp [Instr.sliceBound, asIntOf, this]
  | _ => simp [bnd] at h

/-- The three bounds, where the capacity is known from below alone ('most'), or there is a third one. -/
theorem bounds_sound {H : Array Obj} {lo hi mx : Option V} {lo' hi' mx' : Option Value} {isS : Bool} {len most cap l hh m : Nat} (h1 : RO κ H lo lo') (h2 : RO κ H hi hi') (h3 : RO κ H mx mx')
    (hm : bnd mx most most = some m) (hh' : bnd hi len m = some hh) (hl : bnd lo 0 hh = some l) (hcap : most ≤ cap) (hform : (hi.isSome || !mx.isSome) = true) (hlen : mx = none → len ≤ most) (w : World) :
    (Instr.sliceBounds isS len cap lo' hi' mx').run P w = .ok (l, hh, if mx.isSome then m else cap) w ∧ l ≤ hh ∧ (hi.isSome = true → hh ≤ m) ∧ (hi = none → hh = len) ∧ m ≤ most ∧ (mx = none → m = most) := by
  have hl0 : l ≤ hh := by
    cases lo with
    | none => simp [bnd] at hl; omega
    | some x =>
      cases lo' with
      | none => exact h1.elim
      | some x' => exact (bnd_some (P := P) hl h1 (Nat.le_refl _) .index w).2
  have hm0 : m ≤ most := by
    cases mx with
    | none => simp [bnd] at hm; omega
    | some x =>
      cases mx' with
      | none => exact h3.elim
      | some x' => exact (bnd_some (P := P) hm h3 (Nat.le_refl _) .index w).2
  refine ⟨?_, hl0, fun hs => ?_, fun hn => by subst hn; simp [bnd] at hh'; omega, hm0, fun hn => by subst hn; simp [bnd] at hm; omega⟩
  · unfold Instr.sliceBounds
    cases mx with
    | none =>
      cases mx' with
      | some _ => exact h3.elim
      | none =>
        simp [bnd] at hm
        subst hm
        cases hi with
        | none =>
          cases hi' with
          | some _ => exact h2.elim
          | none =>
            simp [bnd] at hh'
            subst hh'
            cases lo with
            | none =>
              cases lo' with
              | some _ => exact h1.elim
              | none => simp [bnd] at hl; subst hl; simp
            | some x =>
              cases lo' with
              | none => exact h1.elim
              | some x' => simp [(bnd_some (P := P) hl h1 (Nat.le_refl _) .sliceB w).1]
        | some y =>
          cases hi' with
          | none => exact h2.elim
          | some y' =>
            have hy := fun c => (bnd_some (P := P) hh' h2 hcap c w).1
            cases lo with
            | none =>
              cases lo' with
              | some _ => exact h1.elim
              | none => simp [bnd] at hl; subst hl; simp [hy]
            | some x =>
              cases lo' with
              | none => exact h1.elim
              | some x' => simp [hy, (bnd_some (P := P) hl h1 (Nat.le_refl _) .sliceB w).1]
    | some z =>
      cases mx' with
      | none => exact h3.elim
      | some z' =>
        have hz := fun c => (bnd_some (P := P) hm h3 hcap c w).1
        cases hi with
        | none => simp at hform
        | some y =>
          cases hi' with
          | none => exact h2.elim
          | some y' =>
            have hy := fun c => (bnd_some (P := P) hh' h2 (Nat.le_refl _) c w).1
            cases lo with
            | none =>
              cases lo' with
              | some _ => exact h1.elim
              | none => simp [bnd] at hl; subst hl; simp [hz, hy]
            | some x =>
              cases lo' with
              | none => exact h1.elim
              | some x' => simp [hz, hy, (bnd_some (P := P) hl h1 (Nat.le_refl _) .slice3C w).1]
  · cases hi with
    | none => cases hs
    | some y =>
      cases hi' with
      | none => exact h2.elim
      | some y' => exact (bnd_some (P := P) hh' h2 (Nat.le_refl _) .index w).2

theorem op_slice {t : TypeId} {x : V} {x' : Value} {lo hi mx : Option V} {lo' hi' mx' : Option Value} (h : runA (sliceA P t x lo hi mx) st rd = .val v st' rd') (i : Inv P κ st.h.get w.heap) (hx : RV κ w.heap x x')
    (h1 : RO κ w.heap lo lo') (h2 : RO κ w.heap hi hi') (h3 : RO κ w.heap mx mx') :
    OpR P κ st w ((do let r ← Instr.sliceAt t x' lo' hi' mx'; pure (Next.value r) : Sem Next).run P w) v st' := by
  unfold sliceA at h
  split at h
  · -- a string
    rename_i hu
    split at h
    · rename_i s
      split at h
      · rename_i hh hbh
        split at h
        · rename_i l hbl
          obtain ⟨rfl, rfl⟩ := runA_ret h
          obtain ⟨str, rfl, rfl⟩ := hx.inv_str
          have hlen : str.data.toList.length = str.size := rfl
          rw [hlen] at hbh
          have hmx : mx' = none := by cases mx' with | none => rfl | some _ => exact h3.elim
          subst hmx
          obtain ⟨b1, b2, b3, b4, _⟩ := bounds_sound (P := P) (κ := κ) (H := w.heap) (isS := false) (len := str.size) (most := str.size) (cap := str.size) (mx := none) (mx' := none) h1 h2 trivial (m := str.size) rfl hbh hbl (Nat.le_refl _) (by simp) (fun _ => Nat.le_refl _) w
          have hhs : hh ≤ str.size := by
            cases hi with
            | none => have := b4 rfl; omega
            | some _ => exact b3 rfl
          have := OpR.pure (w := w) i (RV.str (κ := κ) (H := w.heap) (str.extract l hh) _ rfl)
          have e : (str.extract l hh).data.toList = (str.data.toList.drop l).take (hh - l) := by
            rw [ByteArray.data_extract]; simp [List.extract_eq_take_drop]
          rw [e] at this
          simpa [Instr.sliceAt, Instr.slice, run_underlying hu, b1] using this
        · exact (runA_fail h).elim
      · exact (runA_fail h).elim
    · exact (runA_fail h).elim
  · -- a list
    rename_i elem hu
    split at h
    · exact (runA_fail h).elim
    · rename_i sz hs
      have at' : Instr.sliceAt t x' lo' hi' mx' = (do match ← underlying t with | .array n elem => (do
          let a ← Instr.sureAddr x'
          let (l, h, m) ← Instr.sliceBounds false n n lo' hi' mx'
          let size ← sizeOf elem
          pure (.slice (some (if m = l then a else a.add (l * size))) (h - l) (m - l))) | _ => Instr.slice t x' lo' hi' mx') := rfl
      have run_at : ∀ (a : Option Addr) (len cap l hh m : Nat), x' = .slice a len cap → (Instr.sliceBounds true len cap lo' hi' mx').run P w = .ok (l, hh, m) w →
          (Instr.sliceAt t x' lo' hi' mx').run P w = .ok (.slice (if m = l then a else a.map (·.add (l * sz))) (hh - l) (m - l)) w := by
        rintro a len cap l hh m rfl hb
        simp [Instr.sliceAt, Instr.slice, run_underlying hu, hb, run_szT hs]
      split at h
      · -- nil
        cases hx
        split at h
        · rename_i m hbm
          split at h
          · rename_i hh hbh
            split at h
            · rename_i l hbl
              cases hf : (hi.isSome || !mx.isSome) with
              | false => rw [hf] at h; exact (runA_fail h).elim
              | true =>
                rw [hf] at h
                obtain ⟨rfl, rfl⟩ := runA_ret h
                obtain ⟨b1, b2, b3, b4, b5, b6⟩ := bounds_sound (P := P) (κ := κ) (H := w.heap) (isS := true) (len := 0) (most := 0) (cap := 0) h1 h2 h3 hbm hbh hbl (Nat.le_refl _) hf (fun _ => Nat.le_refl _) w
                have hhz : hh = 0 := by
                  cases hi with
                  | none => exact b4 rfl
                  | some _ => have := b3 rfl; omega
                have hm0 : (if mx.isSome then m else 0) = 0 := by split <;> omega
                rw [hm0] at b1
                have r := run_at none 0 0 _ _ _ rfl b1
                have := OpR.pure (w := w) i (RV.snil (κ := κ) (H := w.heap))
                have hl0 : l = 0 := by omega
                subst hl0; subst hhz
                have e : (do let r ← Instr.sliceAt t (.slice none 0 0) lo' hi' mx'; pure (Next.value r) : Sem Next).run P w = .ok (.value (.slice none 0 0)) w := by simp [r]
                rw [e]; exact this
            · exact (runA_fail h).elim
          · exact (runA_fail h).elim
        · exact (runA_fail h).elim
      · -- a value
        rename_i cs len sz' cp
        cases hq : Nat.beq sz sz' with
        | false => rw [hq] at h; exact (runA_fail h).elim
        | true =>
          rw [hq] at h
          have hq := Nat.eq_of_beq_eq_true hq
          subst hq
          simp only [Bool.not_true, cond_false] at h
          split at h
          · exact (runA_fail h).elim
          · rename_i m hbm
            split at h
            · exact (runA_fail h).elim
            · rename_i hh hbh
              split at h
              · exact (runA_fail h).elim
              · rename_i l hbl
                cases hf : (hi.isSome || !mx.isSome) with
                | false => rw [hf] at h; exact (runA_fail h).elim
                | true =>
                  rw [hf] at h
                  obtain ⟨rfl, rfl⟩ := runA_ret h
                  cases hx with
                  | sl _ _ _ _ b o cap vs hl hss hI hv hcap he =>
                    have hlc : len ≤ cap := by
                      cases cp with
                      | ex => exact Nat.le_of_eq hcap.symm
                      | unk => exact hcap
                      | tok n z => exact hcap.2.2.2.1
                    obtain ⟨b1, b2, b3, b4, b5, b6⟩ := bounds_sound (P := P) (κ := κ) (H := w.heap) (isS := true) (len := len) (most := len) (cap := cap) h1 h2 h3 hbm hbh hbl hlc hf (fun _ => Nat.le_refl _) w
                    have hhl : hh ≤ len := by
                      cases hi with
                      | none => have := b4 rfl; omega
                      | some _ => have := b3 rfl; omega
                    have run := run_at _ _ _ _ _ _ rfl b1
                    have pw0 : PW κ w.heap cs vs := ⟨hl, he⟩
                    have pw := (pw0.drop (l * sz)).take ((hh - l) * sz)
                    have hmul : (hh - l) * sz + l * sz = hh * sz := by rw [← Nat.add_mul]; congr 1; omega
                    have hle : hh * sz ≤ len * sz := Nat.mul_le_mul_right _ hhl
                    have plen : ((cs.drop (l * sz)).take ((hh - l) * sz)).length = (hh - l) * sz := by simp; omega
                    -- the new address
                    have val : ∀ o' cap' cp', (0 < (hh - l) * sz → o' = o + l * sz) → CapOk κ w.heap b o' ((cs.drop (l * sz)).take ((hh - l) * sz)).length (hh - l) sz cap' cp' →
                        RV κ w.heap (.sl ((cs.drop (l * sz)).take ((hh - l) * sz)) (hh - l) sz cp') (.slice (some ⟨b, o', none⟩) (hh - l) cap') := fun o' cap' cp' ho hc' => by
                      refine .sl _ _ _ _ b o' cap' _ pw.1 plen (fun j hj => ?_) (fun j u hj => ?_) hc' pw.2
                      · have hj' : j < (hh - l) * sz := by rw [← pw.1, plen] at hj; exact hj
                        rw [ho (by omega), Nat.add_assoc]
                        exact hI _ (by rw [← hl]; omega)
                      · have hj' : j < (hh - l) * sz := by
                          have := (List.getElem?_eq_some_iff.1 hj).1
                          rw [← pw.1, plen] at this; exact this
                        rw [ho (by omega), Nat.add_assoc]
                        rw [List.getElem?_take_of_lt hj', List.getElem?_drop] at hj
                        exact hv _ u hj
                    have addr : ∀ m' : Nat, (if m' = l then some (⟨b, o, none⟩ : Addr) else (some (⟨b, o, none⟩ : Addr)).map (·.add (l * sz))) = some ⟨b, if m' = l then o else o + l * sz, none⟩ := fun m' => by
                      split <;> simp [Addr.add_mid]
                    rw [addr] at run
                    have fin : ∀ cp', CapOk κ w.heap b (if (if mx.isSome then m else cap) = l then o else o + l * sz) ((cs.drop (l * sz)).take ((hh - l) * sz)).length (hh - l) sz ((if mx.isSome then m else cap) - l) cp' →
                        OpR P κ st' w ((do let r ← Instr.sliceAt t (.slice (some ⟨b, o, none⟩) len cap) lo' hi' mx'; pure (Next.value r) : Sem Next).run P w) (.sl ((cs.drop (l * sz)).take ((hh - l) * sz)) (hh - l) sz cp') st' := fun cp' hc' => by
                      have := OpR.pure (w := w) i (val _ _ cp' (fun hpos => by
                        rw [if_neg]
                        intro e
                        have : hh ≤ l := by
                          cases mx with
                          | none => simp at e; omega
                          | some z =>
                            simp at e
                            cases hi with
                            | none => simp at hf
                            | some y => have := b3 rfl; omega
                        have : (hh - l) = 0 := by omega
                        rw [this] at hpos; omega) hc')
                      simpa [run] using this
                    apply fin
                    cases mx with
                    | some z =>
                      simp only [Option.isSome_some, if_true]
                      cases hi with
                      | none => simp at hf
                      | some y =>
                        have := b3 rfl
                        rw [cond_beq]
                        by_cases e : m = hh
                        · rw [if_pos e]; show m - l = hh - l; omega
                        · rw [if_neg e]; show hh - l ≤ m - l; omega
                    | none =>
                      simp only [Option.isSome_none, Bool.false_eq_true, if_false]
                      have hm' := b6 rfl
                      cases hc : (Nat.beq hh len && Nat.blt l len) with
                      | false => show hh - l ≤ cap - l; omega
                      | true =>
                        simp only [cond_true]
                        simp only [Bool.and_eq_true] at hc
                        have c1 := Nat.eq_of_beq_eq_true hc.1
                        have c2 : l < len := by have := hc.2; simp [Nat.blt] at this; omega
                        rw [if_neg (by omega)]
                        cases cp with
                        | ex => show cap - l = hh - l; have : cap = len := hcap; omega
                        | unk => show hh - l ≤ cap - l; omega
                        | tok n z =>
                          obtain ⟨t1, t2, t3, t4, mm, t5, t6⟩ := hcap
                          refine ⟨t1, t2, ?_, by omega, mm, t5, ?_⟩
                          · rw [plen, t3]; subst c1; omega
                          · have : (cap - l) * sz + l * sz = cap * sz := by rw [← Nat.add_mul]; congr 1; omega
                            omega
      · -- memory of its own
        rename_i n off len sz' cap
        cases hq : Nat.beq sz sz' with
        | false => rw [hq] at h; exact (runA_fail h).elim
        | true =>
          rw [hq] at h
          have hq := Nat.eq_of_beq_eq_true hq
          subst hq
          simp only [Bool.not_true, cond_false] at h
          split at h
          · exact (runA_fail h).elim
          · rename_i m hbm
            split at h
            · exact (runA_fail h).elim
            · rename_i hh hbh
              split at h
              · exact (runA_fail h).elim
              · rename_i l hbl
                cases hf : ((hi.isSome || !mx.isSome) && (Nat.beq l 0 || Nat.blt l m)) with
                | false => rw [hf] at h; exact (runA_fail h).elim
                | true =>
                  rw [hf] at h
                  obtain ⟨rfl, rfl⟩ := runA_ret h
                  simp only [Bool.and_eq_true] at hf
                  obtain ⟨hf, hlm⟩ := hf
                  have hlm : l = 0 ∨ l < m := by
                    rcases Bool.or_eq_true_iff.1 hlm with h | h
                    · exact .inl (Nat.eq_of_beq_eq_true h)
                    · exact .inr (by simp [Nat.blt] at h; omega)
                  cases hx with
                  | ms _ _ _ _ _ b cap' mm hr hle hcap hm hbd =>
                    have hmost : cap.getD len ≤ cap' := by
                      cases cap with
                      | none => exact hle
                      | some c => have := hcap c rfl; simp; omega
                    have hml : len ≤ cap.getD len := by
                      cases cap with
                      | none => exact Nat.le_refl _
                      | some c => have := hcap c rfl; simp; omega
                    obtain ⟨b1, b2, b3, b4, b5, b6⟩ := bounds_sound (P := P) (κ := κ) (H := w.heap) (isS := true) (len := len) (most := cap.getD len) (cap := cap') h1 h2 h3 hbm hbh hbl hmost hf (fun _ => hml) w
                    obtain ⟨M, hM, hMn, hMs⟩ : ∃ M, (if mx.isSome = true then m else cap') = M ∧ (mx = none → M = cap') ∧ (mx.isSome = true → M = m) := ⟨_, rfl, (by rintro rfl; rfl), fun h => (by rw [if_pos h])⟩
                    rw [hM] at b1
                    have run := run_at _ _ _ _ _ _ rfl b1
                    have cases_mx : (mx = none ∧ M = cap' ∧ m = cap.getD len) ∨ (mx.isSome = true ∧ M = m ∧ hh ≤ m) := by
                      cases mx with
                      | none => exact .inl ⟨rfl, hMn rfl, b6 rfl⟩
                      | some z =>
                        cases hi with
                        | none => simp at hf
                        | some _ => exact .inr ⟨rfl, hMs rfl, b3 rfl⟩
                    have hh0 : hh ≤ cap.getD len := by
                      cases hi with
                      | none => have := b4 rfl; omega
                      | some _ => have := b3 rfl; omega
                    have hhc : hh ≤ M := by rcases cases_mx with ⟨_, h, _⟩ | ⟨_, h, _⟩ <;> omega
                    have addr : (if M = l then some (⟨b, off, none⟩ : Addr) else (some (⟨b, off, none⟩ : Addr)).map (·.add (l * sz))) = some ⟨b, off + l * sz, none⟩ := by
                      by_cases e : M = l
                      · rw [if_pos e]
                        have : l = 0 := by rcases hlm with h | h <;> rcases cases_mx with ⟨_, h', _⟩ | ⟨_, h', _⟩ <;> omega
                        simp [this]
                      · rw [if_neg e]; simp [Addr.add_mid]
                    rw [addr] at run
                    have hcc : M ≤ cap' := by rcases cases_mx with ⟨_, h, _⟩ | ⟨_, h, _⟩ <;> omega
                    have hmul : (M - l) * sz + l * sz = M * sz := by rw [← Nat.add_mul]; congr 1; omega
                    have hmul2 : M * sz ≤ cap' * sz := Nat.mul_le_mul_right _ hcc
                    have := OpR.pure (w := w) i (RV.ms (κ := κ) (H := w.heap) n (off + l * sz) (hh - l) sz (bif mx.isSome || cap.isSome then some (m - l) else none) b (M - l) mm hr (by omega) (fun c hc => by
                      rcases cases_mx with ⟨e1, e2, e3⟩ | ⟨e1, e2, _⟩
                      · cases cap with
                        | none => subst e1; simp at hc
                        | some c' => have := hcap c' rfl; subst e1; simp at hc e3; omega
                      · rw [e1] at hc; simp at hc; omega) hm (by omega))
                    simpa [run] using this
      · exact (runA_fail h).elim
  · -- an array
    rename_i n elem hu
    split at h
    · rename_i sz bn off hs
      obtain ⟨ob, ho, h0⟩ := runA_get h
      split at h0
      · rename_i cs
        cases hq : Nat.ble (off + n * sz) cs.length with
        | false => rw [hq] at h0; exact (runA_fail h0).elim
        | true =>
          rw [hq] at h0
          have hq := Nat.le_of_ble_eq_true hq
          simp only [Bool.not_true, cond_false] at h0
          split at h0
          · exact (runA_fail h0).elim
          · rename_i m hbm
            split at h0
            · exact (runA_fail h0).elim
            · rename_i hh hbh
              split at h0
              · exact (runA_fail h0).elim
              · rename_i l hbl
                cases hf : ((hi.isSome || !mx.isSome) && (Nat.beq l 0 || Nat.blt l m)) with
                | false => rw [hf] at h0; exact (runA_fail h0).elim
                | true =>
                  rw [hf] at h0
                  obtain ⟨rfl, rfl⟩ := runA_ret h0
                  simp only [Bool.and_eq_true] at hf
                  obtain ⟨hf, hlm⟩ := hf
                  have hlm : l = 0 ∨ l < m := by
                    rcases Bool.or_eq_true_iff.1 hlm with h | h
                    · exact .inl (Nat.eq_of_beq_eq_true h)
                    · exact .inr (by simp [Nat.blt] at h; omega)
                  obtain ⟨b, hr, rfl⟩ := hx.inv_ptr
                  obtain ⟨b', hr', arr, e, us, o1, o2, o3⟩ := i.obj bn _ ho
                  rw [hr] at hr'; cases hr'
                  have ul : us.length ≤ arr.size := by
                    rcases Nat.lt_or_ge arr.size us.length with h | h
                    · have := o3 arr.size us[arr.size] (by simp [h])
                      have := (Array.getElem?_eq_some_iff.1 this).1; omega
                    · exact h
                  obtain ⟨b1, b2, b3, b4, b5, b6⟩ := bounds_sound (P := P) (κ := κ) (H := w.heap) (isS := false) (len := n) (most := n) (cap := n) h1 h2 h3 hbm hbh hbl (Nat.le_refl _) hf (fun _ => Nat.le_refl _) w
                  have hm' : (if mx.isSome then m else n) = m := by
                    cases mx with
                    | none => have := b6 rfl; simp; omega
                    | some _ => rfl
                  rw [hm'] at b1
                  have addr : (if m = l then (⟨b, off, none⟩ : Addr) else (⟨b, off, none⟩ : Addr).add (l * sz)) = ⟨b, off + l * sz, none⟩ := by
                    split
                    · rename_i e
                      have : l = 0 := by omega
                      simp [this]
                    · simp [Addr.add_mid]
                  have hhm : hh ≤ m := by
                    cases hi with
                    | none =>
                      cases mx with
                      | none => have := b4 rfl; have := b6 rfl; omega
                      | some _ => simp at hf
                    | some _ => exact b3 rfl
                  have hmul : (m - l) * sz + l * sz = m * sz := by rw [← Nat.add_mul]; congr 1; omega
                  have hmul2 : m * sz ≤ n * sz := Nat.mul_le_mul_right _ b5
                  have hus := o2.1
                  have := OpR.pure (w := w) i (RV.ms (κ := κ) (H := w.heap) bn (off + l * sz) (hh - l) sz (some (m - l)) b (m - l) arr.size hr (by omega) (fun c hc => by cases hc; rfl) (by simp [hz, o1]) (by omega))
                  simpa [Instr.sliceAt, run_underlying hu, Instr.sureAddr, b1, run_szT hs, addr] using this
      · exact (runA_fail h0).elim
    · exact (runA_fail h).elim
  · exact (runA_fail h).elim
end ops
end Go.Am
