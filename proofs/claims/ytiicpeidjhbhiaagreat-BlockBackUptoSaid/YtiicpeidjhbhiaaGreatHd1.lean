/-
  Headers: plain laws.
-/
import Derived.Test.YtiicpeidjhbhiaaGreatRd1
namespace Go.Am
open Go
/-- A header's numbers. -/
def okN (n : Int) : Prop := 0 ≤ n ∧ n ≤ 9007199254740992
instance (n : Int) : Decidable (okN n) := by unfold okN; infer_instance
def iV (n : Int) : V := .int .i64 n
def chk (l : List Int) : Int := if ∀ n ∈ l, okN n then 0 else 90
def hdrV (l : List Int) : V := .agg (l.map iV)
/-- Numbers one behind the other. -/
def catB : List Int → List Nat
  | [] => []
  | n :: r => varB 9 n.toNat ++ catB r
theorem catB_append : ∀ (a b : List Int), catB (a ++ b) = catB a ++ catB b
  | [], b => rfl
  | n :: a, b => by simp [catB, catB_append a b]
def hdrB (l : List Int) : List Nat := 3 :: catB l
theorem catB_len : ∀ (l : List Int), (catB l).length ≤ 10 * l.length
  | [] => by simp [catB]
  | n :: r => by
    have := (varB_len 9 n.toNat).2
    have := catB_len r
    simp [catB]; omega
/-- Five numbers. -/
def un5 : V → Option (List Int)
  | .agg [.int .i64 a, .int .i64 b, .int .i64 c, .int .i64 d, .int .i64 e] => some [a, b, c, d, e]
  | _ => none
theorem un5_eq {v : V} {l : List Int} (h : un5 v = some l) : ∃ a b c d e, v = .agg [.int .i64 a, .int .i64 b, .int .i64 c, .int .i64 d, .int .i64 e] ∧ l = [a, b, c, d, e] := by
  unfold un5 at h
  split at h
  · cases h; exact ⟨_, _, _, _, _, rfl, rfl⟩
  · cases h
def checkS : List V → Option V
  | [v] => (match un5 v with | some l => some (.int .i64 (chk l)) | none => none)
  | _ => none
theorem checkS_inv {args : List V} {u : V} (h : checkS args = some u) : ∃ a b c d e, args = [.agg [.int .i64 a, .int .i64 b, .int .i64 c, .int .i64 d, .int .i64 e]] ∧ u = .int .i64 (chk [a, b, c, d, e]) := by
  unfold checkS at h
  split at h
  · rename_i v
    cases hu : un5 v with
    | none => rw [hu] at h; cases h
    | some l =>
      rw [hu] at h
      cases h
      obtain ⟨a, b, c, d, e, rfl, rfl⟩ := un5_eq hu
      exact ⟨a, b, c, d, e, rfl, rfl⟩
  · cases h
/-- What a header's bytes are. -/
def bytesR (l : List Int) : V := if chk l = 0 then .tup [bsl (hdrB l) .unk, .int .i64 0] else .tup [.snil, .int .i64 90]
def bytesS : List V → Option V
  | [v] => (match un5 v with | some l => some (bytesR l) | none => none)
  | _ => none
theorem bytesS_inv {args : List V} {u : V} (h : bytesS args = some u) : ∃ a b c d e, args = [.agg [.int .i64 a, .int .i64 b, .int .i64 c, .int .i64 d, .int .i64 e]] ∧ u = bytesR [a, b, c, d, e] := by
  unfold bytesS at h
  split at h
  · rename_i v
    cases hu : un5 v with
    | none => rw [hu] at h; cases h
    | some l =>
      rw [hu] at h
      cases h
      obtain ⟨a, b, c, d, e, rfl, rfl⟩ := un5_eq hu
      exact ⟨a, b, c, d, e, rfl, rfl⟩
  · cases h
theorem wk5 (a b c d e : Int) : Wk (.agg [.int .i64 a, .int .i64 b, .int .i64 c, .int .i64 d, .int .i64 e]) (.agg [.int .i64 a, .int .i64 b, .int .i64 c, .int .i64 d, .int .i64 e]) :=
  wk_agg (.cons (wk_int _ _) (.cons (wk_int _ _) (.cons (wk_int _ _) (.cons (wk_int _ _) (.cons (wk_int _ _) .nil)))))
end Go.Am
