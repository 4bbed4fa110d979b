/-
  Numbers in their shortest form: plain laws.
-/
import Derived.Test.YtiicpeidjhbhiaaGreatAm33
namespace Go.Am
open Go

/-- No aid: nothing is forgotten, no memory of its own, 1000 rounds. -/
def aid0 : Aid := ⟨fun _ _ => none, fun _ => false, 1000⟩
theorem aid0_H (f i : Nat) : aid0.H f i = none := rfl
theorem aid0_mu (f : Nat) : aid0.mu f = false := rfl
theorem aid0_L : aid0.L = 1000 := rfl

/-- A byte as a value. -/
def u8V (n : Nat) : V := .int .u8 n

/-- Bytes of cells. -/
def unB : List V → Option (List Nat)
  | [] => some []
  | .int .u8 n :: r => (match n, unB r with
    | .ofNat m, some l => some (m :: l)
    | _, _ => none)
  | _ :: _ => none
theorem unB_map : ∀ (bs : List Nat), unB (bs.map u8V) = some bs
  | [] => rfl
  | b :: r => by
    have : u8V b = .int .u8 (Int.ofNat b) := rfl
    simp only [List.map_cons, this, unB, unB_map r]
theorem unB_eq : ∀ {cs : List V} {bs : List Nat}, unB cs = some bs → cs = bs.map u8V := by
  intro cs
  induction cs with
  | nil => intro bs h; simp [unB] at h; subst h; rfl
  | cons c r ih =>
    intro bs h
    cases c with
    | int k n =>
      cases k with
      | u8 =>
        cases n with
        | ofNat m =>
          simp only [unB] at h
          cases hr : unB r with
          | none => rw [hr] at h; simp at h
          | some l =>
            rw [hr] at h
            simp only [Option.some.injEq] at h
            subst h
            rw [List.map_cons, ← ih hr]; rfl
        | negSucc m => simp [unB] at h
      | _ => simp [unB] at h
    | _ => simp [unB] at h
/-- Bytes as a list. -/
def bsl (bs : List Nat) (cp : Cp) : V := .sl (bs.map u8V) bs.length 1 cp
/-- The bytes of a list. -/
def bytesV : V → Option (List Nat)
  | .snil => some []
  | .sl cs len sz _ => (match unB cs with | some bs => if sz = 1 ∧ bs.length = len then some bs else none | none => none)
  | _ => none
theorem bytesV_bsl (bs : List Nat) (cp : Cp) : bytesV (bsl bs cp) = some bs := by simp [bytesV, bsl, unB_map]
theorem bytesV_eq {v : V} {bs : List Nat} (h : bytesV v = some bs) : (v = .snil ∧ bs = []) ∨ ∃ cp, v = bsl bs cp := by
  cases v with
  | snil => simp [bytesV] at h; exact .inl ⟨rfl, h⟩
  | sl cs len sz cp =>
    right
    refine ⟨cp, ?_⟩
    simp only [bytesV] at h
    cases hu : unB cs with
    | none => rw [hu] at h; cases h
    | some l =>
      rw [hu] at h
      simp only at h
      split at h
      · rename_i hl
        cases h
        obtain ⟨rfl, rfl⟩ := hl
        rw [unB_eq hu]; rfl
      · cases h
  | _ => simp [bytesV] at h
theorem wk_u8 (n : Nat) : Wk (u8V n) (u8V n) := wk_int _ _
theorem wk_u8s (bs : List Nat) : WkL (bs.map u8V) (bs.map u8V) := WkL.self fun u hu => by
  obtain ⟨n, _, rfl⟩ := List.mem_map.1 hu; exact wk_u8 n
theorem wk_bsl (bs : List Nat) (cp : Cp) : Wk (bsl bs .unk) (bsl bs cp) := wk_sl _ _ _ (wk_u8s bs)
/-- Weakened. -/
def wkB : V → V
  | .sl cs len sz _ => .sl cs len sz .unk
  | v => v
theorem wk_bytes {v : V} {bs : List Nat} (h : bytesV v = some bs) : Wk (wkB v) v := by
  rcases bytesV_eq h with ⟨rfl, _⟩ | ⟨cp, rfl⟩
  · exact wk_snil
  · exact wk_bsl bs cp

/-- A number's form. -/
def varB : Nat → Nat → List Nat
  | 0, n => [n]
  | f + 1, n => if n > 127 then (n % 128 + 128) :: varB f (n / 128) else [n]

theorem wrap_u8 (m : Nat) : IntKind.u8.wrap (m : Int) = ((m % 256 : Nat) : Int) := by
  simp [IntKind.wrap, IntKind.signed, IntKind.bits]
theorem wrap_u64 (m : Nat) (h : m < 18446744073709551616) : IntKind.u64.wrap (m : Int) = (m : Int) := by
  simp [IntKind.wrap, IntKind.signed, IntKind.bits]; omega
theorem wrap_u64' (n : Int) (h0 : 0 ≤ n) (h : n < 18446744073709551616) : IntKind.u64.wrap n = n := by
  simp [IntKind.wrap, IntKind.signed, IntKind.bits]; omega
theorem wrap_i64 (n : Int) (h0 : -9223372036854775808 ≤ n) (h : n < 9223372036854775808) : IntKind.i64.wrap n = n := by
  simp [IntKind.wrap, IntKind.signed, IntKind.bits]
  split <;> omega
theorem or_128 : ∀ x : Fin 256, (BitVec.ofNat 8 x.val ||| BitVec.ofNat 8 128).toNat = x.val % 128 + 128 := by decide +kernel
theorem and_127 : ∀ x : Fin 256, (BitVec.ofNat 8 x.val &&& BitVec.ofNat 8 127).toNat = x.val % 128 := by decide +kernel
theorem or128 (m : Nat) : (BitVec.ofInt 8 ((m % 256 : Nat) : Int) ||| BitVec.ofInt 8 128).toNat = m % 128 + 128 := by
  have h := or_128 ⟨m % 256, Nat.mod_lt _ (by omega)⟩
  simp only at h
  rw [BitVec.ofInt_natCast, show BitVec.ofInt 8 128 = BitVec.ofNat 8 128 from rfl, h]
  omega
theorem and127 (m : Nat) (h : m < 256) : (BitVec.ofInt 8 (m : Int) &&& BitVec.ofInt 8 127).toNat = m % 128 := by
  have h := and_127 ⟨m, h⟩
  simp only at h
  rw [BitVec.ofInt_natCast, show BitVec.ofInt 8 127 = BitVec.ofNat 8 127 from rfl, h]
theorem orI_128 (m : Nat) : orI .u8 (IntKind.u8.wrap (m : Int)) 128 = ((m % 128 + 128 : Nat) : Int) := by
  have h := or128 m
  unfold orI
  rw [wrap_u8 m]
  show IntKind.u8.wrap (((BitVec.ofInt 8 ((m % 256 : Nat) : Int) ||| BitVec.ofInt 8 128).toNat : Nat) : Int) = _
  rw [h, wrap_u8]; congr 1; omega
theorem andI_127 (m : Nat) (h : m < 256) : andI .u8 (m : Int) 127 = ((m % 128 : Nat) : Int) := by
  have h := and127 m h
  unfold andI
  show IntKind.u8.wrap (((BitVec.ofInt 8 (m : Int) &&& BitVec.ofInt 8 127).toNat : Nat) : Int) = _
  rw [h, wrap_u8]; congr 1; omega
theorem tmod128 (m : Nat) : (m : Int).tmod 128 = ((m % 128 : Nat) : Int) := by
  rw [Int.tmod_eq_emod_of_nonneg (by omega)]; omega
theorem tdiv128 (m : Nat) : (m : Int).tdiv 128 = ((m / 128 : Nat) : Int) := by
  rw [Int.tdiv_eq_ediv_of_nonneg (by omega)]; omega
theorem room1 {n : Nat} (h : n ≤ 140737488354816) : roomOk n 1 = true := by
  have : Nat.ble ((2 * n + 1024) * 1) 281474976710656 = true := by
    apply Nat.ble_eq_true_of_le; omega
  simp only [roomOk, this, Bool.and_true]; rfl
theorem fdiv128 (m : Nat) : (m : Int).fdiv 128 = ((m / 128 : Nat) : Int) := by
  rw [Int.fdiv_eq_ediv_of_nonneg _ (by omega)]; omega

theorem splice_mid (pre : List Nat) (k : Nat) (x : V) (hk : pre.length + 1 ≤ k) : splice (pre.map u8V ++ List.replicate (k - pre.length) (u8V 0)) pre.length [x] = pre.map u8V ++ [x] ++ List.replicate (k - (pre.length + 1)) (u8V 0) := by
  rw [splice_def]
  have e1 : (pre.map u8V ++ List.replicate (k - pre.length) (u8V 0)).take pre.length = pre.map u8V := by
    rw [List.take_append_of_le_length (by simp), List.take_of_length_le (by simp)]
  have e2 : (pre.map u8V ++ List.replicate (k - pre.length) (u8V 0)).drop (pre.length + [x].length) = List.replicate (k - (pre.length + 1)) (u8V 0) := by
    rw [List.drop_append, List.drop_of_length_le (by simp), List.nil_append, List.drop_replicate]
    congr 1
    simp; omega
  rw [e1, e2]
theorem take_all {cs : List V} {n : Nat} (h : cs.length = n) : List.take n (List.drop 0 cs) = cs := by simp [← h]
theorem splice_all {cs xs : List V} (h : xs.length = cs.length) : splice cs 0 xs = xs := by
  rw [splice_def]; simp [h]
theorem all_one_u8 (l : List Nat) : (l.map u8V).all V.one = true := by
  rw [List.all_eq_true]; intro v hv
  obtain ⟨n, _, rfl⟩ := List.mem_map.1 hv; rfl
theorem all_one_rep (k : Nat) (n : Nat) : (List.replicate k (u8V n)).all V.one = true := by
  rw [List.all_eq_true]; intro v hv
  rw [(List.mem_replicate.1 hv).2]; rfl

theorem varB_len (f : Nat) : ∀ n, 0 < (varB f n).length ∧ (varB f n).length ≤ f + 1 := by
  induction f with
  | zero => intro n; simp [varB]
  | succ f ih =>
    intro n
    simp only [varB]
    split
    · have := ih (n / 128); simp; omega
    · simp
/-- What 'form' answers. -/
def formA (n : Int) : Option V := if 0 ≤ n ∧ n < 18446744073709551616 then some (.tup [.agg ((varB 9 n.toNat).map u8V ++ List.replicate (10 - (varB 9 n.toNat).length) (u8V 0)), .int .i64 (varB 9 n.toNat).length]) else none
def formS : List V → Option V
  | [.int .u64 n] => formA n
  | _ => none
theorem formA_nat (n : Nat) (hn : n < 18446744073709551616) : formA n = some (.tup [.agg ((varB 9 n).map u8V ++ List.replicate (10 - (varB 9 n).length) (u8V 0)), .int .i64 (varB 9 n).length]) := by
  have : (0 : Int) ≤ n ∧ (n : Int) < 18446744073709551616 := by omega
  unfold formA
  rw [if_pos this]
  simp only [Int.toNat_natCast]
theorem formS_nat (n : Nat) (hn : n < 18446744073709551616) : formS [.int .u64 n] = some (.tup [.agg ((varB 9 n).map u8V ++ List.replicate (10 - (varB 9 n).length) (u8V 0)), .int .i64 (varB 9 n).length]) := formA_nat n hn
theorem formS_inv {args : List V} {v : V} (h : formS args = some v) : ∃ n : Nat, n < 18446744073709551616 ∧ args = [.int .u64 n] ∧ v = .tup [.agg ((varB 9 n).map u8V ++ List.replicate (10 - (varB 9 n).length) (u8V 0)), .int .i64 (varB 9 n).length] := by
  unfold formS at h
  split at h
  · rename_i n
    unfold formA at h
    split at h
    · rename_i hn
      refine ⟨n.toNat, by omega, ?_, ?_⟩
      · rw [Int.toNat_of_nonneg hn.1]
      · exact (Option.some.inj h).symm
    · cases h
  · cases h
/-- What 'PutNum' answers. -/
def putS : List V → Option (List V × Nat)
  | [v, .int .u64 (.ofNat n)] => (match bytesV v with
    | some bs => if bs.length ≤ 1099511627776 ∧ n < 18446744073709551616 then some ((bs ++ varB 9 n).map u8V, (bs ++ varB 9 n).length) else none
    | none => none)
  | _ => none
theorem putS_eq {v : V} {bs : List Nat} {n : Nat} (hv : bytesV v = some bs) (hl : bs.length ≤ 1099511627776) (hn : n < 18446744073709551616) : putS [v, .int .u64 n] = some ((bs ++ varB 9 n).map u8V, (bs ++ varB 9 n).length) := by
  show (match bytesV v with
    | some bs => if bs.length ≤ 1099511627776 ∧ n < 18446744073709551616 then some ((bs ++ varB 9 n).map u8V, (bs ++ varB 9 n).length) else none
    | none => none) = _
  simp only [hv, hl, hn, and_self, if_true]
theorem putS_inv {args : List V} {cs : List V} {len : Nat} (h : putS args = some (cs, len)) : ∃ v bs n, args = [v, .int .u64 (n : Nat)] ∧ bytesV v = some bs ∧ bs.length ≤ 1099511627776 ∧ n < 18446744073709551616 ∧ cs = (bs ++ varB 9 n).map u8V ∧ len = (bs ++ varB 9 n).length := by
  unfold putS at h
  split at h
  · rename_i v n
    cases hv : bytesV v with
    | none => rw [hv] at h; cases h
    | some bs =>
      rw [hv] at h
      simp only at h
      split at h
      · rename_i hc
        cases h
        exact ⟨v, bs, n, rfl, hv, hc.1, hc.2, rfl, rfl⟩
      · cases h
  · cases h

theorem bytesV_wk {v : V} {bs : List Nat} (h : bytesV v = some bs) : bytesV (wkB v) = some bs := by
  rcases bytesV_eq h with ⟨rfl, rfl⟩ | ⟨cp, rfl⟩
  · rfl
  · exact bytesV_bsl bs .unk
/-- What 'PutBytes' answers. -/
def putBS : List V → Option (List V × Nat)
  | [v, x] => (match bytesV v, bytesV x with
    | some bs, some xs => if bs.length ≤ 549755813888 ∧ xs.length ≤ 549755813888 then some ((bs ++ varB 9 xs.length ++ xs).map u8V, (bs ++ varB 9 xs.length ++ xs).length) else none
    | _, _ => none)
  | _ => none
theorem putBS_eq {v x : V} {bs xs : List Nat} (hv : bytesV v = some bs) (hx : bytesV x = some xs) (hl : bs.length ≤ 549755813888) (hk : xs.length ≤ 549755813888) : putBS [v, x] = some ((bs ++ varB 9 xs.length ++ xs).map u8V, (bs ++ varB 9 xs.length ++ xs).length) := by
  show (match bytesV v, bytesV x with
    | some bs, some xs => if bs.length ≤ 549755813888 ∧ xs.length ≤ 549755813888 then some ((bs ++ varB 9 xs.length ++ xs).map u8V, (bs ++ varB 9 xs.length ++ xs).length) else none
    | _, _ => none) = _
  simp only [hv, hx, hl, hk, and_self, if_true]
theorem putBS_inv {args : List V} {cs : List V} {len : Nat} (h : putBS args = some (cs, len)) : ∃ v x bs xs, args = [v, x] ∧ bytesV v = some bs ∧ bytesV x = some xs ∧ bs.length ≤ 549755813888 ∧ xs.length ≤ 549755813888 ∧ cs = (bs ++ varB 9 xs.length ++ xs).map u8V ∧ len = (bs ++ varB 9 xs.length ++ xs).length := by
  unfold putBS at h
  split at h
  · rename_i v x
    cases hv : bytesV v with
    | none => rw [hv] at h; cases h
    | some bs =>
      cases hx : bytesV x with
      | none => rw [hv, hx] at h; cases h
      | some xs =>
        rw [hv, hx] at h
        simp only at h
        split at h
        · rename_i hc
          cases h
          exact ⟨v, x, bs, xs, rfl, hv, hx, hc.1, hc.2, rfl, rfl⟩
        · cases h
  · cases h

/-- A list that grows, and its state. -/
def Gr (o : V) (l : List Nat) (st : St) : Prop := ((o = .snil ∧ l = []) ∨ ∃ t, o = .sl (l.map u8V) l.length 1 (.tok t 1) ∧ st.h.get t = some .buf) ∧ st.df = [] ∧ ∀ k, st.nx ≤ k → st.h.get k = none

/-- A record's bytes at its place. -/
def placedB (s : List UInt8) (o : Int) (xs : List Nat) : List Nat := varB 9 s.length ++ s.map UInt8.toNat ++ varB 9 (max o 0).toNat ++ varB 9 xs.length ++ xs
def placedS : List V → Option (List V × Nat)
  | [.agg [.str s, .int .i64 o, rv]] => (match bytesV rv with
    | some xs => if s.length ≤ 274877906944 ∧ xs.length ≤ 274877906944 ∧ -9223372036854775808 ≤ o ∧ o < 9223372036854775808 then some ((placedB s o xs).map u8V, (placedB s o xs).length) else none
    | none => none)
  | _ => none
theorem placedS_eq {s : List UInt8} {o : Int} {rv : V} {xs : List Nat} (hrv : bytesV rv = some xs) (hs : s.length ≤ 274877906944) (hx : xs.length ≤ 274877906944) (ho : -9223372036854775808 ≤ o ∧ o < 9223372036854775808) :
    placedS [.agg [.str s, .int .i64 o, rv]] = some ((placedB s o xs).map u8V, (placedB s o xs).length) := by
  show (match bytesV rv with
    | some xs => if s.length ≤ 274877906944 ∧ xs.length ≤ 274877906944 ∧ -9223372036854775808 ≤ o ∧ o < 9223372036854775808 then some ((placedB s o xs).map u8V, (placedB s o xs).length) else none
    | none => none) = _
  simp only [hrv, hs, hx, ho, and_self, if_true]
theorem placedS_inv {args cs : List V} {len : Nat} (h : placedS args = some (cs, len)) : ∃ s o rv xs, args = [.agg [.str s, .int .i64 o, rv]] ∧ bytesV rv = some xs ∧ s.length ≤ 274877906944 ∧ xs.length ≤ 274877906944 ∧ (-9223372036854775808 ≤ o ∧ o < 9223372036854775808) ∧ cs = (placedB s o xs).map u8V ∧ len = (placedB s o xs).length := by
  unfold placedS at h
  split at h
  · rename_i s o rv
    cases hrv : bytesV rv with
    | none => rw [hrv] at h; cases h
    | some xs =>
      rw [hrv] at h
      simp only at h
      split at h
      · rename_i hc
        cases h
        exact ⟨s, o, rv, xs, rfl, hrv, hc.1, hc.2.1, hc.2.2, rfl, rfl⟩
      · cases h
  · cases h
end Go.Am
