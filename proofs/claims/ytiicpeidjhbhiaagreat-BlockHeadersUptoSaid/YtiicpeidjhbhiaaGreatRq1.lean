/-
  The reader's states.
-/
import Derived.Test.YtiicpeidjhbhiaaGreatCd1
import Derived.Test.YtiicpeidjhbhiaaGreatAm36
namespace Go.Am
open Go
/-- A reader: its bytes, its error. -/
def rdO (bv : V) (e : Int) : O := .blk [bv, .int .i64 e, .bool true]
/-- What 'Clone' answers. -/
def cloneS : List V → Option V
  | [v] => (match bytesV v with
    | some bs => if bs.length ≤ 1099511627776 then some (wkB v) else none
    | none => none)
  | _ => none
theorem cloneS_eq {v : V} {bs : List Nat} (hv : bytesV v = some bs) (hl : bs.length ≤ 1099511627776) : cloneS [v] = some (wkB v) := by
  show (match bytesV v with
    | some bs => if bs.length ≤ 1099511627776 then some (wkB v) else none
    | none => none) = _
  simp only [hv, hl, if_true]
theorem cloneS_inv {args : List V} {u : V} (h : cloneS args = some u) : ∃ v bs, args = [v] ∧ bytesV v = some bs ∧ bs.length ≤ 1099511627776 ∧ u = wkB v := by
  unfold cloneS at h
  split at h
  · rename_i v
    cases hv : bytesV v with
    | none => rw [hv] at h; cases h
    | some bs =>
      rw [hv] at h
      simp only at h
      split at h
      · rename_i hc
        cases h
        exact ⟨v, bs, rfl, hv, hc, rfl⟩
      · cases h
  · cases h
theorem wkB_wkB (v : V) : wkB (wkB v) = wkB v := by cases v <;> rfl
end Go.Am
namespace Go.Am
open Go
/-- What is read of a number: its value, the error, what is left. -/
def rdNum (most : Nat) : Nat → Nat → List Nat → Nat × Int × List Nat
  | _, _, [] => (0, 10, [])
  | i, acc, c :: r => if c > 127 then (if i = 9 then (0, 11, []) else rdNum most (i + 1) (acc + c % 128 * 128 ^ i) r)
    else if (i > 0 ∧ c = 0) ∨ (i = 9 ∧ c > 1) ∨ acc + c * 128 ^ i > most then (0, 11, []) else (acc + c * 128 ^ i, 0, r)
theorem orI_add (acc x i : Nat) (ha : acc < 128 ^ i) (hx : x * 128 ^ i < 18446744073709551616) (ha' : acc < 18446744073709551616) : orI .u64 (acc : Int) ((x * 128 ^ i : Nat) : Int) = ((acc + x * 128 ^ i : Nat) : Int) := by
  have e : (128 : Nat) ^ i = 2 ^ (7 * i) := by rw [show (128 : Nat) = 2 ^ 7 from rfl, ← Nat.pow_mul]
  have hor : acc ||| (x * 128 ^ i) = acc + x * 128 ^ i := by
    rw [e] at ha ⊢
    have := Nat.two_pow_add_eq_or_of_lt ha x
    rw [Nat.mul_comm] at this
    rw [Nat.add_comm, this, Nat.or_comm]
  have hlt : acc + x * 128 ^ i < 18446744073709551616 := by
    rw [← hor]
    exact Nat.or_lt_two_pow (n := 64) ha' hx
  unfold orI
  show IntKind.u64.wrap (((BitVec.ofInt 64 (acc : Int) ||| BitVec.ofInt 64 ((x * 128 ^ i : Nat) : Int)).toNat : Nat) : Int) = _
  rw [BitVec.ofInt_natCast, BitVec.ofInt_natCast, BitVec.toNat_or, BitVec.toNat_ofNat, BitVec.toNat_ofNat, Nat.mod_eq_of_lt ha', Nat.mod_eq_of_lt hx, hor, wrap_u64 _ hlt]
theorem shl7 (x i : Nat) (hi : i ≤ 9) : (x : Int) * 2 ^ (min ((7 : Int) * (i : Int)).toNat 64) = ((x * 128 ^ i : Nat) : Int) := by
  have h1 : ((7 : Int) * (i : Int)).toNat = 7 * i := by omega
  rw [h1, Nat.min_eq_left (by omega)]
  have e : (128 : Nat) ^ i = 2 ^ (7 * i) := by rw [show (128 : Nat) = 2 ^ 7 from rfl, ← Nat.pow_mul]
  rw [e]; simp
end Go.Am
namespace Go.Am
open Go
/-- A reader as a pair. -/
def rdP (R : V × Int) : O := rdO R.1 R.2
def bytesD (v : V) : List Nat := (bytesV v).getD []
theorem bytesD_bsl (bs : List Nat) (cp : Cp) : bytesD (bsl bs cp) = bs := by simp [bytesD, bytesV_bsl]
theorem bytesD_snil : bytesD .snil = [] := rfl
def okR (v : V) : Prop := v = .snil ∨ ∃ bs, v = bsl bs .unk ∧ bs.length ≤ 1099511627776 ∧ ∀ b ∈ bs, b < 256
theorem okR.wk {v : V} (h : okR v) : Wk v v := by
  rcases h with rfl | ⟨bs, rfl, _⟩
  · exact wk_snil
  · exact wk_bsl bs .unk
theorem okR.cells {v : V} (h : okR v) (e : Int) : WkL [v, .int .i64 e, .bool true] [v, .int .i64 e, .bool true] := .cons h.wk (.cons (wk_int _ _) (.cons (wk_bool _) .nil))
def numP (most : Nat) (R : V × Int) : Nat × (V × Int) := if R.2 ≠ 0 then (0, R) else
  ((rdNum most 0 0 (bytesD R.1)).1, if (rdNum most 0 0 (bytesD R.1)).2.1 = 0 then (bsl (rdNum most 0 0 (bytesD R.1)).2.2 .unk, 0) else (R.1, (rdNum most 0 0 (bytesD R.1)).2.1))
def takeP (R : V × Int) : V × (V × Int) := if R.2 ≠ 0 then (.snil, R) else match bytesD R.1 with
  | [] => (.snil, (R.1, 10))
  | b :: r => (bsl [b] .unk, (bsl r .unk, 0))
def doneP (R : V × Int) : Int := if R.2 ≠ 0 then R.2 else if bytesD R.1 = [] then 0 else 12
theorem rdNum_rest (most : Nat) : ∀ (bs : List Nat) (i acc : Nat), (rdNum most i acc bs).2.2.length ≤ bs.length ∧ (∀ b ∈ (rdNum most i acc bs).2.2, b ∈ bs) ∧ (rdNum most i acc bs).1 ≤ most
  | [], i, acc => by simp [rdNum]
  | c :: r, i, acc => by
    simp only [rdNum]
    split
    · split
      · simp
      · obtain ⟨h1, h2, h3⟩ := rdNum_rest most r (i + 1) (acc + c % 128 * 128 ^ i)
        exact ⟨by simp; omega, fun b hb => by simp [h2 b hb], h3⟩
    · split
      · simp
      · rename_i h
        have : ¬ acc + c * 128 ^ i > most := fun hh => h (.inr (.inr hh))
        exact ⟨by simp, fun b hb => by simp [hb], by omega⟩
theorem okR.num {R : V × Int} (h : okR R.1) (most : Nat) : okR (numP most R).2.1 := by
  unfold numP
  split
  · exact h
  · simp only
    split
    · rcases h with e | ⟨bs, e, h1, h2⟩
      · rw [e, bytesD_snil]; exact .inr ⟨[], rfl, by simp, by simp⟩
      · rw [e, bytesD_bsl]
        obtain ⟨h3, h4, _⟩ := rdNum_rest most bs 0 0
        exact .inr ⟨_, rfl, by omega, fun b hb => h2 b (h4 b hb)⟩
    · exact h
theorem okR.take {R : V × Int} (h : okR R.1) : okR (takeP R).2.1 := by
  unfold takeP
  split
  · exact h
  · rcases h with e | ⟨bs, e, h1, h2⟩
    · rw [e, bytesD_snil]; exact .inl rfl
    · rw [e, bytesD_bsl]
      cases bs with
      | nil => exact .inr ⟨[], rfl, h1, h2⟩
      | cons b r => exact .inr ⟨r, rfl, by simp at h1; omega, fun c hc => h2 c (by simp [hc])⟩
theorem okR.took {R : V × Int} (h : okR R.1) : okR (takeP R).1 := by
  unfold takeP
  split
  · exact .inl rfl
  · rcases h with e | ⟨bs, e, h1, h2⟩
    · rw [e, bytesD_snil]; exact .inl rfl
    · rw [e, bytesD_bsl]
      cases bs with
      | nil => exact .inl rfl
      | cons b r => exact .inr ⟨[b], rfl, by simp, fun c hc => h2 c (by simp at hc; simp [hc])⟩
/-- The reader behind an object. -/
def unR : O → Option (V × Int)
  | .blk [v, .int .i64 e, .bool true] => some (v, e)
  | _ => none
theorem unR_rdP (R : V × Int) : unR (rdP R) = some R := rfl
theorem unR_eq {o : O} {R : V × Int} (h : unR o = some R) : o = rdP R := by
  unfold unR at h
  split at h
  · cases h; rfl
  · cases h
open Classical in
/-- An answer of the reader. -/
noncomputable def cellH (f : V × Int → V × (V × Int)) (o : Option O) (n : Nat) (st : St) : Option (V × St) := match o with
  | some o => (match unR o with
    | some R => if okR R.1 then some ((f R).1, st.putO n (rdP (f R).2)) else none
    | none => none)
  | none => none
theorem cellH_some (f : V × Int → V × (V × Int)) (R : V × Int) (n : Nat) (st : St) (h : okR R.1) : cellH f (some (rdP R)) n st = some ((f R).1, st.putO n (rdP (f R).2)) := by
  simp only [cellH, unR_rdP, h, if_true]
theorem cellH_inv {f : V × Int → V × (V × Int)} {o : Option O} {n : Nat} {st st' : St} {v : V} (h : cellH f o n st = some (v, st')) : ∃ R, o = some (rdP R) ∧ okR R.1 ∧ v = (f R).1 ∧ st' = st.putO n (rdP (f R).2) := by
  unfold cellH at h
  cases o with
  | none => cases h
  | some o =>
    simp only at h
    cases hu : unR o with
    | none => rw [hu] at h; cases h
    | some R =>
      rw [hu] at h
      simp only at h
      split at h
      · rename_i hk
        cases h
        exact ⟨R, by rw [unR_eq hu], hk, rfl, rfl⟩
      · cases h
def numV (most : Nat) (R : V × Int) : V × (V × Int) := (.int .u64 (numP most R).1, (numP most R).2)
def doneV (R : V × Int) : V × (V × Int) := (.int .i64 (doneP R), R)
noncomputable def numO : List V → St → Option (V × St) := fun args st => match args with
  | [.ptr n 0, .int .u64 (.ofNat most)] => if most < 18446744073709551616 then cellH (numV most) (st.h.get n) n st else none
  | _ => none
noncomputable def takeO : List V → St → Option (V × St) := fun args st => match args with
  | [.ptr n 0, .int .i64 1] => cellH takeP (st.h.get n) n st
  | _ => none
noncomputable def doneO : List V → St → Option (V × St) := fun args st => match args with
  | [.ptr n 0] => cellH doneV (st.h.get n) n st
  | _ => none
open Classical in
noncomputable def readO : List V → St → Option (V × St) := fun args st => match args with
  | [v] => if okR (wkB v) ∧ (bytesV v).isSome ∧ st.h.get st.nx = none then some (.ptr st.nx 0, st.newO (rdP (wkB v, 0))) else none
  | _ => none
end Go.Am

namespace Go.Am
open Go
/-- A header's numbers. -/
def okN (n : Int) : Prop := 0 ≤ n ∧ n ≤ 9007199254740992
instance (n : Int) : Decidable (okN n) := by unfold okN; infer_instance
def iV (n : Int) : V := .int .i64 n
def chk (l : List Int) : Int := if ∀ n ∈ l, okN n then 0 else 90
def hdrV (l : List Int) : V := .agg (l.map iV)
/-- Numbers one behind the other. -/
def catB : List Int → List Nat
  | [] => []
  | n :: r => varB 9 n.toNat ++ catB r
theorem catB_append : ∀ (a b : List Int), catB (a ++ b) = catB a ++ catB b
  | [], b => rfl
  | n :: a, b => by simp [catB, catB_append a b]
def hdrB (l : List Int) : List Nat := 3 :: catB l
theorem catB_len : ∀ (l : List Int), (catB l).length ≤ 10 * l.length
  | [] => by simp [catB]
  | n :: r => by
    have := (varB_len 9 n.toNat).2
    have := catB_len r
    simp [catB]; omega
/-- Five numbers. -/
def un5 : V → Option (List Int)
  | .agg [.int .i64 a, .int .i64 b, .int .i64 c, .int .i64 d, .int .i64 e] => some [a, b, c, d, e]
  | _ => none
theorem un5_eq {v : V} {l : List Int} (h : un5 v = some l) : ∃ a b c d e, v = .agg [.int .i64 a, .int .i64 b, .int .i64 c, .int .i64 d, .int .i64 e] ∧ l = [a, b, c, d, e] := by
  unfold un5 at h
  split at h
  · cases h; exact ⟨_, _, _, _, _, rfl, rfl⟩
  · cases h
def checkS : List V → Option V
  | [v] => (match un5 v with | some l => some (.int .i64 (chk l)) | none => none)
  | _ => none
theorem checkS_inv {args : List V} {u : V} (h : checkS args = some u) : ∃ a b c d e, args = [.agg [.int .i64 a, .int .i64 b, .int .i64 c, .int .i64 d, .int .i64 e]] ∧ u = .int .i64 (chk [a, b, c, d, e]) := by
  unfold checkS at h
  split at h
  · rename_i v
    cases hu : un5 v with
    | none => rw [hu] at h; cases h
    | some l =>
      rw [hu] at h
      cases h
      obtain ⟨a, b, c, d, e, rfl, rfl⟩ := un5_eq hu
      exact ⟨a, b, c, d, e, rfl, rfl⟩
  · cases h
/-- What a header's bytes are. -/
def bytesR (l : List Int) : V := if chk l = 0 then .tup [bsl (hdrB l) .unk, .int .i64 0] else .tup [.snil, .int .i64 90]
def bytesS : List V → Option V
  | [v] => (match un5 v with | some l => some (bytesR l) | none => none)
  | _ => none
theorem bytesS_inv {args : List V} {u : V} (h : bytesS args = some u) : ∃ a b c d e, args = [.agg [.int .i64 a, .int .i64 b, .int .i64 c, .int .i64 d, .int .i64 e]] ∧ u = bytesR [a, b, c, d, e] := by
  unfold bytesS at h
  split at h
  · rename_i v
    cases hu : un5 v with
    | none => rw [hu] at h; cases h
    | some l =>
      rw [hu] at h
      cases h
      obtain ⟨a, b, c, d, e, rfl, rfl⟩ := un5_eq hu
      exact ⟨a, b, c, d, e, rfl, rfl⟩
  · cases h
theorem wk5 (a b c d e : Int) : Wk (.agg [.int .i64 a, .int .i64 b, .int .i64 c, .int .i64 d, .int .i64 e]) (.agg [.int .i64 a, .int .i64 b, .int .i64 c, .int .i64 d, .int .i64 e]) :=
  wk_agg (.cons (wk_int _ _) (.cons (wk_int _ _) (.cons (wk_int _ _) (.cons (wk_int _ _) (.cons (wk_int _ _) .nil)))))
end Go.Am

namespace Go.Am
open Go
def mx : Nat := 9007199254740992
/-- The header of bytes, and the error. -/
def prs (v : V) : List Int × Int :=
  if doneP (numP mx (numP mx (numP mx (numP mx (numP mx (takeP (wkB v, 0)).2).2).2).2).2).2 = 0 ∧ bytesD (takeP (wkB v, 0)).1 = [3] then
    ([((numP mx (takeP (wkB v, 0)).2).1 : Int), (numP mx (numP mx (takeP (wkB v, 0)).2).2).1, (numP mx (numP mx (numP mx (takeP (wkB v, 0)).2).2).2).1, (numP mx (numP mx (numP mx (numP mx (takeP (wkB v, 0)).2).2).2).2).1, (numP mx (numP mx (numP mx (numP mx (numP mx (takeP (wkB v, 0)).2).2).2).2).2).1], 0)
  else ([0, 0, 0, 0, 0], 90)
def prsV (v : V) : V := .tup [.agg ((prs v).1.map iV), .int .i64 (prs v).2]
open Classical in
noncomputable def parseS : List V → Option V
  | [v] => if okR (wkB v) ∧ (bytesV v).isSome then some (prsV v) else none
  | _ => none
theorem parseS_inv {args : List V} {u : V} (h : parseS args = some u) : ∃ v bs, args = [v] ∧ okR (wkB v) ∧ bytesV v = some bs ∧ u = prsV v := by
  unfold parseS at h
  split at h
  · rename_i v
    split at h
    · rename_i hc
      cases h
      obtain ⟨bs, hb⟩ := Option.isSome_iff_exists.1 hc.2
      exact ⟨v, bs, rfl, hc.1, hb, rfl⟩
    · cases h
  · cases h
open Classical in
theorem parseS_eq {v : V} (h1 : okR (wkB v)) (h2 : (bytesV v).isSome) : parseS [v] = some (prsV v) := by
  show (if okR (wkB v) ∧ (bytesV v).isSome then some (prsV v) else none) = _
  rw [if_pos ⟨h1, h2⟩]
theorem okR_bytes {v : V} (h : okR v) : bytesV v = some (bytesD v) := by
  rcases h with rfl | ⟨bs, rfl, _⟩
  · rfl
  · rw [bytesD_bsl, bytesV_bsl]
theorem num_le (R : V × Int) : (numP mx R).1 ≤ 9007199254740992 := by
  unfold numP
  split
  · simp
  · exact (rdNum_rest mx (bytesD R.1) 0 0).2.2
/-- Bytes that are told apart as strings. -/
theorem ofNat_inj : ∀ (xs ys : List Nat), (∀ b ∈ xs, b < 256) → (∀ b ∈ ys, b < 256) → (xs.map UInt8.ofNat = ys.map UInt8.ofNat ↔ xs = ys)
  | [], [], _, _ => by simp
  | [], _ :: _, _, _ => by simp
  | _ :: _, [], _, _ => by simp
  | a :: x, b :: y, h1, h2 => by
    have ih := ofNat_inj x y (fun c hc => h1 c (by simp [hc])) (fun c hc => h2 c (by simp [hc]))
    have ha := h1 a (by simp)
    have hb := h2 b (by simp)
    simp only [List.map_cons, List.cons.injEq, ih]
    constructor
    · rintro ⟨h, rfl⟩
      refine ⟨?_, rfl⟩
      have := congrArg UInt8.toNat h
      simpa [UInt8.toNat_ofNat', Nat.mod_eq_of_lt ha, Nat.mod_eq_of_lt hb] using this
    · rintro ⟨rfl, rfl⟩; exact ⟨rfl, rfl⟩
end Go.Am

namespace Go.Am
open Go
theorem rd_varB (most : Nat) (hm : most ≤ 9007199254740992) : ∀ (k i acc n : Nat) (r : List Nat), i + k = 9 → acc + n * 128 ^ i ≤ most → (0 < i → 0 < n) → rdNum most i acc (varB k n ++ r) = (acc + n * 128 ^ i, 0, r)
  | 0, i, acc, n, r, hi, hle, hp => by
    have : i = 9 := by omega
    subst this
    have h1 := hp (by omega)
    have h2 : (128 : Nat) ^ 9 = 9223372036854775808 := by decide
    rw [h2] at hle
    omega
  | k + 1, i, acc, n, r, hi, hle, hp => by
    by_cases h : n > 127
    · have e1 : (n % 128 + 128) % 128 = n % 128 := by omega
      have e2 : n % 128 * 128 ^ i + n / 128 * 128 ^ (i + 1) = n * 128 ^ i := by
        rw [Nat.pow_succ, Nat.mul_comm (128 ^ i) 128, ← Nat.mul_assoc, ← Nat.add_mul, Nat.mod_add_div']
      have ih := rd_varB most hm k (i + 1) (acc + n % 128 * 128 ^ i) (n / 128) r (by omega) (by omega) (fun _ => by omega)
      have hc : n % 128 + 128 > 127 := by omega
      have hi9 : ¬ i = 9 := by omega
      simp only [varB, h, if_true, List.cons_append, rdNum, hc, hi9, if_false, e1, ih]
      rw [Nat.add_assoc, e2]
    · have hc : ¬ ((i > 0 ∧ n = 0) ∨ (i = 9 ∧ n > 1) ∨ acc + n * 128 ^ i > most) := by
        rintro (⟨a, b⟩ | ⟨a, b⟩ | a)
        · have := hp a; omega
        · omega
        · omega
      simp only [varB, h, if_false, List.cons_append, List.nil_append, rdNum, hc]
theorem rd_back (most : Nat) : ∀ (bs : List Nat) (i acc m : Nat) (r : List Nat), i ≤ 9 → (∀ b ∈ bs, b < 256) → rdNum most i acc bs = (m, 0, r) → ∃ n, m = acc + n * 128 ^ i ∧ bs = varB (9 - i) n ++ r ∧ (0 < i → 0 < n) ∧ m ≤ most
  | [], i, acc, m, r, _, _, h => by simp [rdNum] at h
  | c :: t, i, acc, m, r, hi, hb, h => by
    simp only [rdNum] at h
    split at h
    · rename_i hc
      split at h
      · cases h
      · rename_i h9
        obtain ⟨n, rfl, rfl, h1, h2⟩ := rd_back most t (i + 1) _ m r (by omega) (fun b hb' => hb b (by simp [hb'])) h
        have hn := h1 (by omega)
        have hc2 := hb c (by simp)
        refine ⟨c % 128 + n * 128, ?_, ?_, fun _ => by omega, h2⟩
        · rw [Nat.add_mul, Nat.pow_succ, Nat.mul_comm (128 ^ i) 128, ← Nat.mul_assoc, Nat.add_assoc]
        · have e : 9 - i = (9 - (i + 1)) + 1 := by omega
          have e1 : (c % 128 + n * 128) > 127 := by omega
          have e2 : (c % 128 + n * 128) % 128 + 128 = c := by omega
          have e3 : (c % 128 + n * 128) / 128 = n := by omega
          rw [e]
          simp only [varB, e1, if_true, e2, e3, List.cons_append]
    · rename_i hc
      split at h
      · cases h
      · rename_i hx
        cases h
        refine ⟨c, rfl, ?_, fun h0 => ?_, ?_⟩
        · cases hk : 9 - i with
          | zero => rfl
          | succ k => simp only [varB, hc, if_false]; rfl
        · rcases Nat.eq_zero_or_pos c with h | h
          · exact absurd (.inl ⟨h0, h⟩) hx
          · exact h
        · rcases Nat.lt_or_ge most (acc + c * 128 ^ i) with h | h
          · exact absurd (.inr (.inr h)) hx
          · exact h
theorem num_fore (n : Int) (hn : okN n) (r : List Nat) : numP mx (bsl (varB 9 n.toNat ++ r) .unk, 0) = (n.toNat, (bsl r .unk, 0)) := by
  unfold okN at hn
  have h := rd_varB mx (by decide) 9 0 0 n.toNat r rfl (by simp [mx]; omega) (fun h => absurd h (by omega))
  simp only [Nat.zero_add, Nat.pow_zero, Nat.mul_one] at h
  unfold numP
  simp only [bytesD_bsl, h]
  simp
theorem num_back {R : V × Int} (hk : okR R.1) (h : (numP mx R).2.2 = 0) : R.2 = 0 ∧ (numP mx R).1 ≤ mx ∧ bytesD R.1 = varB 9 (numP mx R).1 ++ bytesD (numP mx R).2.1 := by
  have hlt : ∀ b ∈ bytesD R.1, b < 256 := by
    rcases hk with e | ⟨bs, e, _, h2⟩
    · rw [e]; simp [bytesD_snil]
    · rw [e, bytesD_bsl]; exact h2
  unfold numP at h ⊢
  split at h
  · rename_i hr; exact absurd h hr
  · rename_i hr
    rw [if_neg hr]
    have hr0 : R.2 = 0 := by omega
    simp only at h ⊢
    split at h
    · rename_i hz
      rw [if_pos hz]
      generalize hg : rdNum mx 0 0 (bytesD R.1) = g at hz
      obtain ⟨m, e, r⟩ := g
      simp only at hz; subst hz
      obtain ⟨n, h1, h2, _, h4⟩ := rd_back mx _ 0 0 m r (by omega) hlt hg
      simp only [Nat.zero_add, Nat.pow_zero, Nat.mul_one] at h1
      subst h1
      refine ⟨hr0, h4, ?_⟩
      simp only [bytesD_bsl]
      exact h2
    · rename_i hz; exact absurd h hz
theorem un_chk {l : List Int} (h : chk l = 0) : ∀ n ∈ l, okN n := by
  unfold chk at h
  split at h
  · assumption
  · cases h
/-- What a header's bytes say is the header. -/
theorem prs_fore (a b c d e : Int) (cp : Cp) (h : chk [a, b, c, d, e] = 0) : prs (bsl (hdrB [a, b, c, d, e]) cp) = ([a, b, c, d, e], 0) := by
  have hk := un_chk h
  have ha := hk a (by simp); have hb := hk b (by simp); have hc := hk c (by simp); have hd := hk d (by simp); have he := hk e (by simp)
  have hw : wkB (bsl (hdrB [a, b, c, d, e]) cp) = bsl (hdrB [a, b, c, d, e]) .unk := rfl
  have ht : takeP (bsl (hdrB [a, b, c, d, e]) .unk, 0) = (bsl [3] .unk, (bsl (varB 9 a.toNat ++ (varB 9 b.toNat ++ (varB 9 c.toNat ++ (varB 9 d.toNat ++ (varB 9 e.toNat ++ []))))) .unk, 0)) := by
    unfold takeP
    simp only [bytesD_bsl, hdrB, catB, List.append_nil]
    simp
  unfold prs
  simp only [hw, ht, num_fore a ha, num_fore b hb, num_fore c hc, num_fore d hd, num_fore e he]
  have z : doneP (bsl [] .unk, 0) = 0 := by unfold doneP; simp [bytesD_bsl]
  rw [if_pos ⟨z, bytesD_bsl _ _⟩]
  unfold okN at ha hb hc hd he
  simp only [Int.toNat_of_nonneg ha.1, Int.toNat_of_nonneg hb.1, Int.toNat_of_nonneg hc.1, Int.toNat_of_nonneg hd.1, Int.toNat_of_nonneg he.1]
/-- What bytes say has these bytes. -/
theorem prs_back (v : V) (hk : okR (wkB v)) : prs v = ([0, 0, 0, 0, 0], 90) ∨ ∃ a b c d e, prs v = ([a, b, c, d, e], 0) ∧ chk [a, b, c, d, e] = 0 ∧ bytesD (wkB v) = hdrB [a, b, c, d, e] := by
  unfold prs
  generalize hR1 : (takeP (wkB v, 0)).2 = R1
  have k1 : okR R1.1 := by rw [← hR1]; exact okR.take (R := (wkB v, 0)) hk
  have k2 := okR.num k1 mx
  have k3 := okR.num k2 mx
  have k4 := okR.num k3 mx
  have k5 := okR.num k4 mx
  split
  · rename_i hc
    obtain ⟨h1, h2⟩ := hc
    refine .inr ⟨_, _, _, _, _, rfl, ?_, ?_⟩
    all_goals
      have h6 : (numP mx (numP mx (numP mx (numP mx (numP mx R1).2).2).2).2).2.2 = 0 ∧ bytesD (numP mx (numP mx (numP mx (numP mx (numP mx R1).2).2).2).2).2.1 = [] := by
        unfold doneP at h1
        split at h1
        · rename_i h; exact absurd h1 h
        · rename_i h
          split at h1
          · rename_i hh; exact ⟨by omega, hh⟩
          · cases h1
      obtain ⟨z5, w5, e5⟩ := num_back k5 h6.1
      obtain ⟨z4, w4, e4⟩ := num_back k4 z5
      obtain ⟨z3, w3, e3⟩ := num_back k3 z4
      obtain ⟨z2, w2, e2⟩ := num_back k2 z3
      obtain ⟨z1, w1, e1⟩ := num_back k1 z2
    · unfold chk
      rw [if_pos]
      intro n hn
      unfold okN
      unfold mx at *
      simp only [List.mem_cons, List.not_mem_nil, or_false] at hn
      rcases hn with rfl | rfl | rfl | rfl | rfl <;> omega
    · have ht : bytesD (wkB v) = 3 :: bytesD R1.1 := by
        have hr : ¬ ((0 : Int) ≠ 0) := by simp
        have hR := hR1
        unfold takeP at hR h2
        simp only [hr, if_false] at hR h2
        cases hb : bytesD (wkB v) with
        | nil => rw [hb] at h2; simp [bytesD_snil] at h2
        | cons x r =>
          rw [hb] at hR h2
          simp only [bytesD_bsl] at h2
          rw [← hR]
          simp only [bytesD_bsl]
          cases h2; rfl
      rw [ht, e1, e2, e3, e4, e5, h6.2]
      simp only [hdrB, catB, Int.toNat_natCast]
  · exact .inl rfl
theorem varB_lt : ∀ (k n : Nat), k ≤ 9 → (k = 0 → n < 256) → n < 128 ^ (k + 1) * 2 → ∀ b ∈ varB k n, b < 256
  | 0, n, _, h0, _, b, hb => by
    simp only [varB, List.mem_singleton] at hb
    subst hb; exact h0 rfl
  | k + 1, n, hk, _, h, b, hb => by
    by_cases hn : n > 127
    · simp only [varB, hn, if_true, List.mem_cons] at hb
      rcases hb with rfl | hb
      · omega
      · refine varB_lt k (n / 128) (by omega) (fun e => ?_) ?_ b hb
        · subst e
          have : n < 128 ^ 2 * 2 := h
          have : (128 : Nat) ^ 2 * 2 = 32768 := by decide
          omega
        · rw [Nat.pow_succ] at h
          generalize 128 ^ (k + 1) = p at *
          omega
    · simp only [varB, hn, if_false, List.mem_singleton] at hb
      omega
theorem varB_byte (n : Nat) (h : n < 18446744073709551616) : ∀ b ∈ varB 9 n, b < 256 := varB_lt 9 n (by omega) (by omega) (by
  have : (128 : Nat) ^ (9 + 1) * 2 = 2361183241434822606848 := by decide
  omega)
theorem catB_lt : ∀ l : List Int, (∀ n ∈ l, okN n) → ∀ b ∈ catB l, b < 256
  | [], _, b, hb => by simp [catB] at hb
  | n :: r, h, b, hb => by
    simp only [catB, List.mem_append] at hb
    rcases hb with hb | hb
    · have := h n (by simp)
      unfold okN at this
      exact varB_byte _ (by omega) b hb
    · exact catB_lt r (fun m hm => h m (by simp [hm])) b hb
theorem hdr_lt {l : List Int} (h : chk l = 0) : ∀ b ∈ hdrB l, b < 256 := fun b hb => by
  simp only [hdrB, List.mem_cons] at hb
  rcases hb with rfl | hb
  · omega
  · exact catB_lt l (un_chk h) b hb
end Go.Am

namespace Go.Am
open Go
/-- The document's reader: its bytes, its error. -/
def rqO (bv : V) (e : Int) : O := .blk [bv, .int .i64 e]
def nz (R : V × Int) : V × Int := (if R.2 ≠ 0 then .snil else R.1, R.2)
def rqP (R : V × Int) : O := rqO (nz R).1 R.2
theorem nz_ok {R : V × Int} (h : R.2 = 0) : nz R = R := by
  unfold nz
  rw [if_neg (by simp [h])]
theorem nz_bad {R : V × Int} (h : R.2 ≠ 0) : nz R = (.snil, R.2) := by simp [nz, h]
theorem nz_nz (R : V × Int) : nz (nz R) = nz R := by
  by_cases h : R.2 = 0
  · rw [nz_ok h, nz_ok h]
  · rw [nz_bad h]; exact nz_bad (R := (.snil, R.2)) h
theorem rqP_nz (R : V × Int) : rqP (nz R) = rqP R := by
  unfold rqP
  rw [nz_nz]; rfl
theorem okR.nz {R : V × Int} (h : okR R.1) : okR (nz R).1 := by
  by_cases h0 : R.2 = 0
  · rw [nz_ok h0]; exact h
  · rw [nz_bad h0]; exact .inl rfl
def unQ : O → Option (V × Int)
  | .blk [v, .int .i64 e] => some (v, e)
  | _ => none
theorem unQ_rqP (R : V × Int) : unQ (rqP R) = some (Am.nz R) := rfl
theorem unQ_eq {o : O} {R : V × Int} (h : unQ o = some R) : o = rqO R.1 R.2 := by
  unfold unQ at h
  split at h
  · cases h; rfl
  · cases h
def okQ (R : V × Int) : Prop := okR R.1 ∧ (R.2 ≠ 0 → R.1 = .snil)
theorem okQ_nz {R : V × Int} (h : okR R.1) : okQ (nz R) := by
  refine ⟨h.nz, fun h0 => ?_⟩
  have : R.2 ≠ 0 := h0
  rw [nz_bad this]
theorem okQ.eq {R : V × Int} (h : okQ R) : nz R = R := by
  by_cases h0 : R.2 = 0
  · exact nz_ok h0
  · rw [nz_bad h0]; exact Prod.ext (h.2 h0).symm rfl
open Classical in
noncomputable def cellQ (f : V × Int → V × (V × Int)) (o : Option O) (n : Nat) (st : St) : Option (V × St) := match o with
  | some o => (match unQ o with
    | some R => if okQ R then some ((f R).1, st.putO n (rqP (f R).2)) else none
    | none => none)
  | none => none
def Nz (f : V × Int → V × (V × Int)) : Prop := ∀ R, (f (nz R)).1 = (f R).1 ∧ rqP (f (nz R)).2 = rqP (f R).2
theorem cellQ_some {f : V × Int → V × (V × Int)} (hf : Nz f) (R : V × Int) (n : Nat) (st : St) (h : okR R.1) : cellQ f (some (rqP R)) n st = some ((f R).1, st.putO n (rqP (f R).2)) := by
  simp only [cellQ, unQ_rqP, okQ_nz h, if_true, (hf R).1, (hf R).2]
theorem cellQ_inv {f : V × Int → V × (V × Int)} {o : Option O} {n : Nat} {st st' : St} {v : V} (h : cellQ f o n st = some (v, st')) : ∃ R, o = some (rqO R.1 R.2) ∧ okQ R ∧ v = (f R).1 ∧ st' = st.putO n (rqP (f R).2) := by
  unfold cellQ at h
  cases o with
  | none => cases h
  | some o =>
    simp only at h
    cases hu : unQ o with
    | none => rw [hu] at h; cases h
    | some R =>
      rw [hu] at h
      simp only at h
      split at h
      · rename_i hk
        cases h
        exact ⟨R, by rw [unQ_eq hu], hk, rfl, rfl⟩
      · cases h
theorem nz_num (most : Nat) : Nz (numV most) := fun R => by
  by_cases h : R.2 = 0
  · rw [nz_ok h]; exact ⟨rfl, rfl⟩
  · have h1 : numV most R = (.int .u64 ((0 : Nat) : Int), R) := by unfold numV numP; simp [h]
    have h2 : numV most (nz R) = (.int .u64 ((0 : Nat) : Int), nz R) := by
      have : (nz R).2 ≠ 0 := h
      unfold numV numP; simp [this]
    rw [h1, h2]; exact ⟨rfl, rqP_nz R⟩
theorem nz_take : Nz takeP := fun R => by
  by_cases h : R.2 = 0
  · rw [nz_ok h]; exact ⟨rfl, rfl⟩
  · have h1 : takeP R = (.snil, R) := by unfold takeP; simp [h]
    have h2 : takeP (nz R) = (.snil, nz R) := by
      have : (nz R).2 ≠ 0 := h
      unfold takeP; simp [this]
    rw [h1, h2]; exact ⟨rfl, rqP_nz R⟩
theorem nz_done : Nz doneV := fun R => by
  refine ⟨?_, rqP_nz R⟩
  by_cases h : R.2 = 0
  · rw [nz_ok h]
  · have h1 : doneP R = R.2 := by unfold doneP; rw [if_pos h]
    have h2 : doneP (nz R) = R.2 := by
      have : (nz R).2 ≠ 0 := h
      unfold doneP; rw [if_pos this]; rfl
    show V.int .i64 (doneP (nz R)) = V.int .i64 (doneP R)
    rw [h1, h2]
noncomputable def numQO : List V → St → Option (V × St) := fun args st => match args with
  | [.ptr n 0, .int .u64 (.ofNat most)] => if most < 18446744073709551616 then cellQ (numV most) (st.h.get n) n st else none
  | _ => none
noncomputable def takeQO : List V → St → Option (V × St) := fun args st => match args with
  | [.ptr n 0, .int .i64 1] => cellQ takeP (st.h.get n) n st
  | _ => none
noncomputable def doneQO : List V → St → Option (V × St) := fun args st => match args with
  | [.ptr n 0] => cellQ doneV (st.h.get n) n st
  | _ => none
open Classical in
noncomputable def readQO : List V → St → Option (V × St) := fun args st => match args with
  | [v] => if okR (wkB v) ∧ (bytesV v).isSome ∧ st.h.get st.nx = none then some (.ptr st.nx 0, st.newO (rqP (wkB v, 0))) else none
  | _ => none
theorem okR.cellsQ {v : V} (h : okR v) (e : Int) : WkL [v, .int .i64 e] [v, .int .i64 e] := .cons h.wk (.cons (wk_int _ _) .nil)
/-- Where no error is kept to the end, a first byte was read. -/
theorem took_one (v : V) (hk : okR (wkB v)) (h : doneP (numP mx (numP mx (numP mx (numP mx (numP mx (takeP (wkB v, 0)).2).2).2).2).2).2 = 0) : ∃ b, b < 256 ∧ (takeP (wkB v, 0)).1 = bsl [b] .unk := by
  generalize hR1 : (takeP (wkB v, 0)).2 = R1 at h
  have k1 : okR R1.1 := by rw [← hR1]; exact okR.take (R := (wkB v, 0)) hk
  have k2 := okR.num k1 mx
  have k3 := okR.num k2 mx
  have k4 := okR.num k3 mx
  have k5 := okR.num k4 mx
  have h6 : (numP mx (numP mx (numP mx (numP mx (numP mx R1).2).2).2).2).2.2 = 0 := by
    unfold doneP at h
    split at h
    · rename_i hh; exact absurd h hh
    · rename_i hh; omega
  have z1 := (num_back k1 (num_back k2 (num_back k3 (num_back k4 (num_back k5 h6).1).1).1).1).1
  have hr : ¬ ((0 : Int) ≠ 0) := by simp
  unfold takeP at hR1 ⊢
  simp only [hr, if_false] at hR1 ⊢
  cases hb : bytesD (wkB v) with
  | nil => rw [hb] at hR1; rw [← hR1] at z1; cases z1
  | cons x r =>
    refine ⟨x, ?_, rfl⟩
    rcases hk with e | ⟨bs, e, _, h2⟩
    · rw [e, bytesD_snil] at hb; cases hb
    · rw [e, bytesD_bsl] at hb
      exact h2 x (by rw [hb]; simp)
end Go.Am
