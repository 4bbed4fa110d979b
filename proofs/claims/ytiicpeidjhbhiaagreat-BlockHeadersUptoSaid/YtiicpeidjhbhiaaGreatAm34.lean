/-
  THE ABSTRACT MACHINE, PART 34: code in two parts; lists of bytes that are held against each other.
-/
import Derived.Test.YtiicpeidjhbhiaaGreatCd1
import Derived.Test.YtiicpeidjhbhiaaGreatAm31
namespace Go.Am
open Go

def tailN : Nat → Code → Code
  | k + 1, .seq _ b => tailN k b
  | _, c => c
def headN : Nat → Code → Code
  | k + 1, .seq a b => .seq a (headN k b)
  | _, _ => .skip
def lenOk : Nat → Code → Bool
  | 0, _ => true
  | k + 1, .seq _ b => lenOk k b
  | _ + 1, _ => false

section
variable {P : Program} {call : CallF} {nt : Nat} {mu : Bool} {H : Nat → Option (List Nat)} {L me : Nat} {inR : Bool}

theorem split_code : ∀ (k : Nat) (c : Code) (env : Env) (st : St), lenOk k c = true → evC P call nt mu H L me inR c env st = thenC P call nt mu H L me inR (evC P call nt mu H L me inR (headN k c) env st) (tailN k c)
  | 0, c, env, st, _ => by
    have h1 : headN 0 c = .skip := by cases c <;> rfl
    have h2 : tailN 0 c = c := by cases c <;> rfl
    rw [h1, h2, x_skip, then_nrm]
  | k + 1, c, env, st, h => by
    cases c with
    | seq a b =>
      have h' : lenOk k b = true := h
      show evC P call nt mu H L me inR (.seq a b) env st = thenC P call nt mu H L me inR (evC P call nt mu H L me inR (.seq a (headN k b)) env st) (tailN k b)
      rw [x_seq, x_seq]
      cases hr : evC P call nt mu H L me inR a env st with
      | none => rfl
      | some x =>
        obtain ⟨e, env', st'⟩ := x
        cases e with
        | nrm => rw [then_nrm, then_nrm]; exact split_code k b env' st' h'
        | _ => rfl
    | _ => cases h

/-- What is looked at behind a run: temporaries, the next name, objects, what is free. -/
def lookC (ts ns : List Nat) (m : Nat) (r : Option (Ex × Env × St)) : Option (List V × Nat × List (Option O) × List Bool × List Nat) := match r with
  | some (.nrm, env, st) => some (ts.map (eget env), st.nx, ns.map st.h.get, (List.range m).map (fun i => (st.h.get (st.nx + i)).isNone), st.df)
  | _ => none
theorem lookC_inv {ts ns : List Nat} {m nx : Nat} {r : Option (Ex × Env × St)} {vs : List V} {os : List (Option O)} {fr : List Bool} {df : List Nat} (h : lookC ts ns m r = some (vs, nx, os, fr, df)) :
    ∃ env st, r = some (.nrm, env, st) ∧ ts.map (eget env) = vs ∧ st.nx = nx ∧ ns.map st.h.get = os ∧ (List.range m).map (fun i => (st.h.get (st.nx + i)).isNone) = fr ∧ st.df = df := by
  unfold lookC at h
  split at h
  · rename_i env st
    simp only [Option.some.injEq, Prod.mk.injEq] at h
    exact ⟨env, st, rfl, h.1, h.2.1, h.2.2.1, h.2.2.2.1, h.2.2.2.2⟩
  · cases h

/-! ### Bytes as strings -/
theorem u8s_map : ∀ (bs : List Nat), u8s (bs.map u8V) = some (bs.map UInt8.ofNat)
  | [] => rfl
  | b :: r => by
    have : u8V b = .int .u8 (Int.ofNat b) := rfl
    simp only [List.map_cons, this, u8s, u8s_map r]
    rfl
variable {st : St}
theorem cv_bs {s d e : TypeId} (hs : P.underlying s = some (.slice e)) (hd : P.underlying d = some .string) (he : P.underlying e = some (.int .u8)) (bs : List Nat) (len : Nat) (cp : Cp) : out1 (convA P s d (.sl (bs.map u8V) len 1 cp)) st = some (.str (bs.map UInt8.ofNat), st) := by
  simp only [convA, hs, hd, he, rdMs, rdCells, Nat.beq_refl, cond_true, u8s_map, out_ret]
theorem cv_nil {s d e : TypeId} (hs : P.underlying s = some (.slice e)) (hd : P.underlying d = some .string) (he : P.underlying e = some (.int .u8)) : out1 (convA P s d .snil) st = some (.str [], st) := by
  simp only [convA, hs, hd, he, rdMs, rdCells, u8s, out_ret]
theorem cv_ms {s d e : TypeId} (hs : P.underlying s = some (.slice e)) (hd : P.underlying d = some .string) (he : P.underlying e = some (.int .u8)) (n : Nat) (bs : List Nat) (c : Option Nat) (h : st.h.get n = some (.blk (bs.map u8V))) :
    out1 (convA P s d (.ms n 0 bs.length 1 c)) st = some (.str (bs.map UInt8.ofNat), st) := by
  simp only [convA, hs, hd, he, rdMs, Nat.beq_refl, Bool.not_true, cond_false]
  rw [out_get _ _ _ _ h]
  have e : (List.take (bs.length * 1) (List.drop 0 (bs.map u8V))) = bs.map u8V := by
    rw [Nat.mul_one, List.drop_zero, List.take_of_length_le (by simp)]
  have e2 : Nat.beq (bs.map u8V).length (bs.length * 1) = true := by simp
  simp only [e, e2, cond_true, u8s_map, out_ret]
end
end Go.Am
