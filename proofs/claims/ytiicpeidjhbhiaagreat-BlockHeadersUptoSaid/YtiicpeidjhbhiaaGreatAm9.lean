/-
  THE ABSTRACT MACHINE, PART 9: places and parts, things that are built, conversions, slices.
-/
import Derived.Test.YtiicpeidjhbhiaaGreatAm8
namespace Go.Am
open Go

theorem bytes_get (s : ByteArray) (k : Nat) : s[k]? = s.data.toList[k]? := by
  by_cases hl : k < s.size
  · rw [getElem?_pos s k hl, List.getElem?_eq_getElem (by exact hl)]; rfl
  · rw [getElem?_neg s k hl, List.getElem?_eq_none (by exact Nat.le_of_not_lt hl)]

section ops
variable {P : Program} {κ : Kap} {st st' : St} {w : World} {v : V} {rd rd' : List Nat}

theorem op_un {op : UnOp} {x : V} {x' : Value} (h : unV op x = some v) (i : Inv P κ st.h.get w.heap) (hx : RV κ w.heap x x') :
    OpR P κ st w ((do let r ← Op.unary op x'; pure (Next.value r) : Sem Next).run P w) v st := by
  unfold unV at h
  split at h
  · cases h; cases hx; simpa [Op.unary] using OpR.pure i (.bool _)
  · cases h; cases hx; simpa [Op.unary, Op.intArith] using OpR.pure i (.int _ _)
  · cases h

theorem op_pick {x a b : V} {x' a' b' : Value} (h : runA (match x with | .bool t => .ret (bif t then a else b) | _ => .fail) st rd = .val v st' rd') (i : Inv P κ st.h.get w.heap)
    (hx : RV κ w.heap x x') (ha : RV κ w.heap a a') (hb : RV κ w.heap b b') :
    OpR P κ st w ((do pure (Next.value (if ← asBool x' then a' else b')) : Sem Next).run P w) v st' := by
  split at h
  · rename_i t
    obtain ⟨rfl, rfl⟩ := runA_ret h
    cases hx
    cases t
    · simpa [asBool] using OpR.pure i hb
    · simpa [asBool] using OpR.pure i ha
  · exact (runA_fail h).elim

theorem op_nilCheck {o : Operand} {ρ' : Operand → Value} {x : V} (h : runA (match x with | .ptr n o => .ret (.ptr n o) | .iptr c o => .ret (.iptr c o) | .fn f a c => .ret (.fn f a c) | .yld l => .ret (.yld l) | _ => .fail) st rd = .val v st' rd')
    (i : Inv P κ st.h.get w.heap) (hx : RV κ w.heap x (ρ' o)) (dst : Option Tmp) (ty : TypeId) (pos : String) (af : Array Edge) (g : Option (Nat × Bool)) :
    OpR P κ st w ((execOp ρ' ⟨dst, .nilCheck o, ty, pos, af, g⟩).run P w) v st' := by
  generalize he : ρ' o = x' at hx
  split at h
  · obtain ⟨rfl, rfl⟩ := runA_ret h
    have := OpR.pure i hx
    cases hx; simpa [execOp, he] using this
  · obtain ⟨rfl, rfl⟩ := runA_ret h
    have := OpR.pure i hx
    cases hx; simpa [execOp, he] using this
  · obtain ⟨rfl, rfl⟩ := runA_ret h
    have := OpR.pure i hx
    cases hx; simpa [execOp, he] using this
  · obtain ⟨rfl, rfl⟩ := runA_ret h
    have := OpR.pure i hx
    cases hx; simpa [execOp, he] using this
  · exact (runA_fail h).elim

theorem op_extract {x : V} {x' : Value} {n : Nat} (h : runA (match x with | .tup vs => rt vs[n]? | _ => .fail) st rd = .val v st' rd') (i : Inv P κ st.h.get w.heap) (hx : RV κ w.heap x x') :
    OpR P κ st w ((do let r ← Instr.extract x' n; pure (Next.value r) : Sem Next).run P w) v st' := by
  split at h
  · obtain ⟨h1, rfl⟩ := runA_rt h
    obtain ⟨vs, rfl, p⟩ := hx.inv_tup
    obtain ⟨u, h2, h3⟩ := p.get h1
    have h2' : vs[n]? = some u := by simpa using h2
    simpa [Instr.extract, h2'] using OpR.pure i h3
  · exact (runA_fail h).elim

theorem addrA_sound {x : V} {x' : Value} {d : Nat} {H : Array Obj} (h : addrA x d = some v) (hx : RV κ H x x') :
    ∃ b o, x' = .pointer (some ⟨b, o, none⟩) ∧ RV κ H v (.pointer (some ⟨b, o + d, none⟩)) := by
  unfold addrA at h
  split at h
  · cases h
    obtain ⟨b, hr, rfl⟩ := hx.inv_ptr
    exact ⟨b, _, rfl, .ptr _ _ _ hr⟩
  · rename_i cs off
    cases h
    cases hx with
    | iptr _ _ b o vs hl hI hv he => exact ⟨b, o + off, rfl, by rw [Nat.add_assoc]; exact .iptr cs _ b o vs hl hI hv he⟩
  · cases h

theorem op_fieldAddr {s : TypeId} {x : V} {x' : Value} {k : Nat} (h : runA (match P.underlying s with
      | some (.struct fields) => (match fields[k]? with
        | some f => (match szT P f.type with | some (_ + 1) => rt (addrA x f.offset) | _ => .fail)
        | none => .fail)
      | _ => .fail) st rd = .val v st' rd') (i : Inv P κ st.h.get w.heap) (hx : RV κ w.heap x x') :
    OpR P κ st w ((do let r ← Instr.fieldAt s x' k; pure (Next.value r) : Sem Next).run P w) v st' := by
  split at h
  · rename_i fields hu
    split at h
    · rename_i f hf
      split at h
      · rename_i m hs
        obtain ⟨h1, rfl⟩ := runA_rt h
        obtain ⟨b, o, rfl, h2⟩ := addrA_sound h1 hx
        have := OpR.pure i h2
        simpa [Instr.fieldAt, run_underlying hu, hf, Instr.sureAddr, fieldPlace, run_szT hs, Addr.add_mid] using this
      · exact (runA_fail h).elim
    · exact (runA_fail h).elim
  · exact (runA_fail h).elim

theorem op_field {s : TypeId} {x : V} {x' : Value} {k : Nat} (h : runA (match P.underlying s, x with
      | some (.struct fields), .agg cs => (match fields[k]? with | some f => rt (partV P f.type cs f.offset) | none => .fail)
      | _, _ => .fail) st rd = .val v st' rd') (i : Inv P κ st.h.get w.heap) (hx : RV κ w.heap x x') :
    OpR P κ st w ((do let r ← Instr.field s x' k; pure (Next.value r) : Sem Next).run P w) v st' := by
  split at h
  · rename_i fields cs hu
    split at h
    · rename_i f hf
      obtain ⟨h1, rfl⟩ := runA_rt h
      obtain ⟨vs, rfl, p⟩ := hx.inv_agg
      obtain ⟨u, h2, h3⟩ := run_part h1 p w
      have := OpR.pure i h3
      simpa [Instr.field, run_underlying hu, hf, asAgg, h2] using this
    · exact (runA_fail h).elim
  · exact (runA_fail h).elim

theorem op_indexAddr {t : TypeId} {x y : V} {x' y' : Value} (h : runA (match P.underlying t, y with
    | some (.array len elem), .int _ i => (match szT P elem with
      | some sz => bif decide (0 ≤ i) && decide (i < len) then rt (addrA x (i.toNat * sz)) else .fail
      | none => .fail)
    | some (.slice elem), .int _ i => (match szT P elem with
      | some sz => (match x with
        | .sl cs len sz' _ => bif Nat.beq sz sz' && decide (0 ≤ i) && decide (i < len) then .ret (.iptr cs (i.toNat * sz)) else .fail
        | .ms n off len sz' _ => bif Nat.beq sz sz' && decide (0 ≤ i) && decide (i < len) then .ret (.ptr n (off + i.toNat * sz)) else .fail
        | _ => .fail)
      | none => .fail)
    | _, _ => .fail) st rd = .val v st' rd') (i : Inv P κ st.h.get w.heap) (hx : RV κ w.heap x x') (hy : RV κ w.heap y y') :
    OpR P κ st w ((do let r ← Instr.indexAt t x' y'; pure (Next.value r) : Sem Next).run P w) v st' := by
  split at h
  · rename_i len elem k n hu
    obtain rfl := hy.inv_int
    split at h
    · rename_i sz hs
      cases hb : (decide (0 ≤ n) && decide (n < len)) with
      | false => rw [hb] at h; exact (runA_fail h).elim
      | true =>
        rw [hb] at h
        simp only [Bool.and_eq_true, decide_eq_true_eq] at hb
        obtain ⟨h1, rfl⟩ := runA_rt h
        obtain ⟨b, o, rfl, h2⟩ := addrA_sound h1 hx
        have := OpR.pure i h2
        simpa [Instr.indexAt, asIntOf, run_underlying hu, Instr.sureAddr, run_szT hs, Addr.add_mid, hb] using this
    · exact (runA_fail h).elim
  · rename_i elem k n hu
    obtain rfl := hy.inv_int
    split at h
    · rename_i sz hs
      split at h
      · rename_i cs len sz' cp
        cases hb : (Nat.beq sz sz' && decide (0 ≤ n) && decide (n < len)) with
        | false => rw [hb] at h; exact (runA_fail h).elim
        | true =>
          rw [hb] at h
          simp only [Bool.and_eq_true, decide_eq_true_eq] at hb
          obtain ⟨⟨_, hb1⟩, hb2⟩ := hb
          obtain ⟨rfl, rfl⟩ := runA_ret h
          cases hx with
          | sl _ _ _ _ b o cap vs hl hss hI hv hcap he =>
            have := OpR.pure (w := w) i (RV.iptr cs (n.toNat * sz) b o vs hl hI hv he)
            simpa [Instr.indexAt, asIntOf, run_underlying hu, run_szT hs, Addr.add_mid, hb1, hb2] using this
      · rename_i nm off len sz' cap
        cases hb : (Nat.beq sz sz' && decide (0 ≤ n) && decide (n < len)) with
        | false => rw [hb] at h; exact (runA_fail h).elim
        | true =>
          rw [hb] at h
          simp only [Bool.and_eq_true, decide_eq_true_eq] at hb
          obtain ⟨⟨_, hb1⟩, hb2⟩ := hb
          obtain ⟨rfl, rfl⟩ := runA_ret h
          cases hx with
          | ms _ _ _ _ _ b cap' m hr hlen hcap hm hbd =>
            have := OpR.pure (w := w) i (RV.ptr (H := w.heap) nm (off + n.toNat * sz) b hr)
            simpa [Instr.indexAt, asIntOf, run_underlying hu, run_szT hs, Addr.add_mid, hb1, hb2] using this
      · exact (runA_fail h).elim
    · exact (runA_fail h).elim
  · exact (runA_fail h).elim

theorem op_index {t : TypeId} {x y : V} {x' y' : Value} (h : runA (match P.underlying t, x, y with
    | some (.array len elem), .agg cs, .int _ i => (match szT P elem with
      | some sz => bif decide (0 ≤ i) && decide (i < len) then rt (partV P elem cs (i.toNat * sz)) else .fail
      | none => .fail)
    | some .string, .str s, .int _ i => bif decide (0 ≤ i) then (match s[i.toNat]? with | some b => .ret (.int .u8 b.toNat) | none => .fail) else .fail
    | _, _, _ => .fail) st rd = .val v st' rd') (i : Inv P κ st.h.get w.heap) (hx : RV κ w.heap x x') (hy : RV κ w.heap y y') :
    OpR P κ st w ((do let r ← Instr.index t x' y'; pure (Next.value r) : Sem Next).run P w) v st' := by
  split at h
  · rename_i len elem cs k n hu
    obtain rfl := hy.inv_int
    obtain ⟨vs, rfl, p⟩ := hx.inv_agg
    split at h
    · rename_i sz hs
      cases hb : (decide (0 ≤ n) && decide (n < len)) with
      | false => rw [hb] at h; exact (runA_fail h).elim
      | true =>
        rw [hb] at h
        simp only [Bool.and_eq_true, decide_eq_true_eq] at hb
        obtain ⟨h1, rfl⟩ := runA_rt h
        obtain ⟨u, h2, h3⟩ := run_part h1 p w
        have := OpR.pure i h3
        simpa [Instr.index, asIntOf, run_underlying hu, run_szT hs, hb, h2] using this
    · exact (runA_fail h).elim
  · rename_i s k n hu
    obtain rfl := hy.inv_int
    obtain ⟨str, rfl, hstr⟩ := hx.inv_str
    cases hb : decide (0 ≤ n) with
    | false => rw [hb] at h; exact (runA_fail h).elim
    | true =>
      rw [hb] at h
      simp only [decide_eq_true_eq] at hb
      simp only [cond_true] at h
      split at h
      · rename_i c hc
        obtain ⟨rfl, rfl⟩ := runA_ret h
        have := OpR.pure (w := w) i (RV.int (κ := κ) (H := w.heap) .u8 c.toNat)
        have hc' : str[n.toNat]? = some c := by
          subst hstr
          rw [← hc]
          exact bytes_get str n.toNat
        simpa [Instr.index, asIntOf, run_underlying hu, hb, hc'] using this
      · exact (runA_fail h).elim
  · exact (runA_fail h).elim
end ops
end Go.Am
