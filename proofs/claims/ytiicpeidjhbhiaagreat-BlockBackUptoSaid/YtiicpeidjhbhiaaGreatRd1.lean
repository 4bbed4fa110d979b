/-
  The reader's states.
-/
import Derived.Test.YtiicpeidjhbhiaaGreatCd1
import Derived.Test.YtiicpeidjhbhiaaGreatAm36
namespace Go.Am
open Go
/-- A reader: its bytes, its error. -/
def rdO (bv : V) (e : Int) : O := .blk [bv, .int .i64 e, .bool true]
/-- What 'Clone' answers. -/
def cloneS : List V → Option V
  | [v] => (match bytesV v with
    | some bs => if bs.length ≤ 1099511627776 then some (wkB v) else none
    | none => none)
  | _ => none
theorem cloneS_eq {v : V} {bs : List Nat} (hv : bytesV v = some bs) (hl : bs.length ≤ 1099511627776) : cloneS [v] = some (wkB v) := by
  show (match bytesV v with
    | some bs => if bs.length ≤ 1099511627776 then some (wkB v) else none
    | none => none) = _
  simp only [hv, hl, if_true]
theorem cloneS_inv {args : List V} {u : V} (h : cloneS args = some u) : ∃ v bs, args = [v] ∧ bytesV v = some bs ∧ bs.length ≤ 1099511627776 ∧ u = wkB v := by
  unfold cloneS at h
  split at h
  · rename_i v
    cases hv : bytesV v with
    | none => rw [hv] at h; cases h
    | some bs =>
      rw [hv] at h
      simp only at h
      split at h
      · rename_i hc
        cases h
        exact ⟨v, bs, rfl, hv, hc, rfl⟩
      · cases h
  · cases h
theorem wkB_wkB (v : V) : wkB (wkB v) = wkB v := by cases v <;> rfl
end Go.Am
namespace Go.Am
open Go
/-- What is read of a number: its value, the error, what is left. -/
def rdNum (most : Nat) : Nat → Nat → List Nat → Nat × Int × List Nat
  | _, _, [] => (0, 10, [])
  | i, acc, c :: r => if c > 127 then (if i = 9 then (0, 11, []) else rdNum most (i + 1) (acc + c % 128 * 128 ^ i) r)
    else if (i > 0 ∧ c = 0) ∨ (i = 9 ∧ c > 1) ∨ acc + c * 128 ^ i > most then (0, 11, []) else (acc + c * 128 ^ i, 0, r)
theorem orI_add (acc x i : Nat) (ha : acc < 128 ^ i) (hx : x * 128 ^ i < 18446744073709551616) (ha' : acc < 18446744073709551616) : orI .u64 (acc : Int) ((x * 128 ^ i : Nat) : Int) = ((acc + x * 128 ^ i : Nat) : Int) := by
  have e : (128 : Nat) ^ i = 2 ^ (7 * i) := by rw [show (128 : Nat) = 2 ^ 7 from rfl, ← Nat.pow_mul]
  have hor : acc ||| (x * 128 ^ i) = acc + x * 128 ^ i := by
    rw [e] at ha ⊢
    have := Nat.two_pow_add_eq_or_of_lt ha x
    rw [Nat.mul_comm] at this
    rw [Nat.add_comm, this, Nat.or_comm]
  have hlt : acc + x * 128 ^ i < 18446744073709551616 := by
    rw [← hor]
    exact Nat.or_lt_two_pow (n := 64) ha' hx
  unfold orI
  show IntKind.u64.wrap (((BitVec.ofInt 64 (acc : Int) ||| BitVec.ofInt 64 ((x * 128 ^ i : Nat) : Int)).toNat : Nat) : Int) = _
  rw [BitVec.ofInt_natCast, BitVec.ofInt_natCast, BitVec.toNat_or, BitVec.toNat_ofNat, BitVec.toNat_ofNat, Nat.mod_eq_of_lt ha', Nat.mod_eq_of_lt hx, hor, wrap_u64 _ hlt]
theorem shl7 (x i : Nat) (hi : i ≤ 9) : (x : Int) * 2 ^ (min ((7 : Int) * (i : Int)).toNat 64) = ((x * 128 ^ i : Nat) : Int) := by
  have h1 : ((7 : Int) * (i : Int)).toNat = 7 * i := by omega
  rw [h1, Nat.min_eq_left (by omega)]
  have e : (128 : Nat) ^ i = 2 ^ (7 * i) := by rw [show (128 : Nat) = 2 ^ 7 from rfl, ← Nat.pow_mul]
  rw [e]; simp
end Go.Am
namespace Go.Am
open Go
/-- A reader as a pair. -/
def rdP (R : V × Int) : O := rdO R.1 R.2
def bytesD (v : V) : List Nat := (bytesV v).getD []
theorem bytesD_bsl (bs : List Nat) (cp : Cp) : bytesD (bsl bs cp) = bs := by simp [bytesD, bytesV_bsl]
theorem bytesD_snil : bytesD .snil = [] := rfl
def okR (v : V) : Prop := v = .snil ∨ ∃ bs, v = bsl bs .unk ∧ bs.length ≤ 1099511627776 ∧ ∀ b ∈ bs, b < 256
theorem okR.wk {v : V} (h : okR v) : Wk v v := by
  rcases h with rfl | ⟨bs, rfl, _⟩
  · exact wk_snil
  · exact wk_bsl bs .unk
theorem okR.cells {v : V} (h : okR v) (e : Int) : WkL [v, .int .i64 e, .bool true] [v, .int .i64 e, .bool true] := .cons h.wk (.cons (wk_int _ _) (.cons (wk_bool _) .nil))
def numP (most : Nat) (R : V × Int) : Nat × (V × Int) := if R.2 ≠ 0 then (0, R) else
  ((rdNum most 0 0 (bytesD R.1)).1, if (rdNum most 0 0 (bytesD R.1)).2.1 = 0 then (bsl (rdNum most 0 0 (bytesD R.1)).2.2 .unk, 0) else (R.1, (rdNum most 0 0 (bytesD R.1)).2.1))
def takeP (R : V × Int) : V × (V × Int) := if R.2 ≠ 0 then (.snil, R) else match bytesD R.1 with
  | [] => (.snil, (R.1, 10))
  | b :: r => (bsl [b] .unk, (bsl r .unk, 0))
def doneP (R : V × Int) : Int := if R.2 ≠ 0 then R.2 else if bytesD R.1 = [] then 0 else 12
theorem rdNum_rest (most : Nat) : ∀ (bs : List Nat) (i acc : Nat), (rdNum most i acc bs).2.2.length ≤ bs.length ∧ (∀ b ∈ (rdNum most i acc bs).2.2, b ∈ bs) ∧ (rdNum most i acc bs).1 ≤ most
  | [], i, acc => by simp [rdNum]
  | c :: r, i, acc => by
    simp only [rdNum]
    split
    · split
      · simp
      · obtain ⟨h1, h2, h3⟩ := rdNum_rest most r (i + 1) (acc + c % 128 * 128 ^ i)
        exact ⟨by simp; omega, fun b hb => by simp [h2 b hb], h3⟩
    · split
      · simp
      · rename_i h
        have : ¬ acc + c * 128 ^ i > most := fun hh => h (.inr (.inr hh))
        exact ⟨by simp, fun b hb => by simp [hb], by omega⟩
theorem okR.num {R : V × Int} (h : okR R.1) (most : Nat) : okR (numP most R).2.1 := by
  unfold numP
  split
  · exact h
  · simp only
    split
    · rcases h with e | ⟨bs, e, h1, h2⟩
      · rw [e, bytesD_snil]; exact .inr ⟨[], rfl, by simp, by simp⟩
      · rw [e, bytesD_bsl]
        obtain ⟨h3, h4, _⟩ := rdNum_rest most bs 0 0
        exact .inr ⟨_, rfl, by omega, fun b hb => h2 b (h4 b hb)⟩
    · exact h
theorem okR.take {R : V × Int} (h : okR R.1) : okR (takeP R).2.1 := by
  unfold takeP
  split
  · exact h
  · rcases h with e | ⟨bs, e, h1, h2⟩
    · rw [e, bytesD_snil]; exact .inl rfl
    · rw [e, bytesD_bsl]
      cases bs with
      | nil => exact .inr ⟨[], rfl, h1, h2⟩
      | cons b r => exact .inr ⟨r, rfl, by simp at h1; omega, fun c hc => h2 c (by simp [hc])⟩
theorem okR.took {R : V × Int} (h : okR R.1) : okR (takeP R).1 := by
  unfold takeP
  split
  · exact .inl rfl
  · rcases h with e | ⟨bs, e, h1, h2⟩
    · rw [e, bytesD_snil]; exact .inl rfl
    · rw [e, bytesD_bsl]
      cases bs with
      | nil => exact .inl rfl
      | cons b r => exact .inr ⟨[b], rfl, by simp, fun c hc => h2 c (by simp at hc; simp [hc])⟩
/-- The reader behind an object. -/
def unR : O → Option (V × Int)
  | .blk [v, .int .i64 e, .bool true] => some (v, e)
  | _ => none
theorem unR_rdP (R : V × Int) : unR (rdP R) = some R := rfl
theorem unR_eq {o : O} {R : V × Int} (h : unR o = some R) : o = rdP R := by
  unfold unR at h
  split at h
  · cases h; rfl
  · cases h
open Classical in
/-- An answer of the reader. -/
noncomputable def cellH (f : V × Int → V × (V × Int)) (o : Option O) (n : Nat) (st : St) : Option (V × St) := match o with
  | some o => (match unR o with
    | some R => if okR R.1 then some ((f R).1, st.putO n (rdP (f R).2)) else none
    | none => none)
  | none => none
theorem cellH_some (f : V × Int → V × (V × Int)) (R : V × Int) (n : Nat) (st : St) (h : okR R.1) : cellH f (some (rdP R)) n st = some ((f R).1, st.putO n (rdP (f R).2)) := by
  simp only [cellH, unR_rdP, h, if_true]
theorem cellH_inv {f : V × Int → V × (V × Int)} {o : Option O} {n : Nat} {st st' : St} {v : V} (h : cellH f o n st = some (v, st')) : ∃ R, o = some (rdP R) ∧ okR R.1 ∧ v = (f R).1 ∧ st' = st.putO n (rdP (f R).2) := by
  unfold cellH at h
  cases o with
  | none => cases h
  | some o =>
    simp only at h
    cases hu : unR o with
    | none => rw [hu] at h; cases h
    | some R =>
      rw [hu] at h
      simp only at h
      split at h
      · rename_i hk
        cases h
        exact ⟨R, by rw [unR_eq hu], hk, rfl, rfl⟩
      · cases h
def numV (most : Nat) (R : V × Int) : V × (V × Int) := (.int .u64 (numP most R).1, (numP most R).2)
def doneV (R : V × Int) : V × (V × Int) := (.int .i64 (doneP R), R)
noncomputable def numO : List V → St → Option (V × St) := fun args st => match args with
  | [.ptr n 0, .int .u64 (.ofNat most)] => if most < 18446744073709551616 then cellH (numV most) (st.h.get n) n st else none
  | _ => none
noncomputable def takeO : List V → St → Option (V × St) := fun args st => match args with
  | [.ptr n 0, .int .i64 1] => cellH takeP (st.h.get n) n st
  | _ => none
noncomputable def doneO : List V → St → Option (V × St) := fun args st => match args with
  | [.ptr n 0] => cellH doneV (st.h.get n) n st
  | _ => none
open Classical in
noncomputable def readO : List V → St → Option (V × St) := fun args st => match args with
  | [v] => if okR (wkB v) ∧ (bytesV v).isSome ∧ st.h.get st.nx = none then some (.ptr st.nx 0, st.newO (rdP (wkB v, 0))) else none
  | _ => none
end Go.Am
