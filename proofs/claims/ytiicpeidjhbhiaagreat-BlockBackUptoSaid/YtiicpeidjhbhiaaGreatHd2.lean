/-
  Headers out of bytes: plain laws.
-/
import Derived.Test.YtiicpeidjhbhiaaGreatHd1
namespace Go.Am
open Go
def mx : Nat := 9007199254740992
/-- The header of bytes, and the error. -/
def prs (v : V) : List Int × Int :=
  if doneP (numP mx (numP mx (numP mx (numP mx (numP mx (takeP (wkB v, 0)).2).2).2).2).2).2 = 0 ∧ bytesD (takeP (wkB v, 0)).1 = [3] then
    ([((numP mx (takeP (wkB v, 0)).2).1 : Int), (numP mx (numP mx (takeP (wkB v, 0)).2).2).1, (numP mx (numP mx (numP mx (takeP (wkB v, 0)).2).2).2).1, (numP mx (numP mx (numP mx (numP mx (takeP (wkB v, 0)).2).2).2).2).1, (numP mx (numP mx (numP mx (numP mx (numP mx (takeP (wkB v, 0)).2).2).2).2).2).1], 0)
  else ([0, 0, 0, 0, 0], 90)
def prsV (v : V) : V := .tup [.agg ((prs v).1.map iV), .int .i64 (prs v).2]
open Classical in
noncomputable def parseS : List V → Option V
  | [v] => if okR (wkB v) ∧ (bytesV v).isSome then some (prsV v) else none
  | _ => none
theorem parseS_inv {args : List V} {u : V} (h : parseS args = some u) : ∃ v bs, args = [v] ∧ okR (wkB v) ∧ bytesV v = some bs ∧ u = prsV v := by
  unfold parseS at h
  split at h
  · rename_i v
    split at h
    · rename_i hc
      cases h
      obtain ⟨bs, hb⟩ := Option.isSome_iff_exists.1 hc.2
      exact ⟨v, bs, rfl, hc.1, hb, rfl⟩
    · cases h
  · cases h
open Classical in
theorem parseS_eq {v : V} (h1 : okR (wkB v)) (h2 : (bytesV v).isSome) : parseS [v] = some (prsV v) := by
  show (if okR (wkB v) ∧ (bytesV v).isSome then some (prsV v) else none) = _
  rw [if_pos ⟨h1, h2⟩]
theorem okR_bytes {v : V} (h : okR v) : bytesV v = some (bytesD v) := by
  rcases h with rfl | ⟨bs, rfl, _⟩
  · rfl
  · rw [bytesD_bsl, bytesV_bsl]
theorem num_le (R : V × Int) : (numP mx R).1 ≤ 9007199254740992 := by
  unfold numP
  split
  · simp
  · exact (rdNum_rest mx (bytesD R.1) 0 0).2.2
/-- Bytes that are told apart as strings. -/
theorem ofNat_inj : ∀ (xs ys : List Nat), (∀ b ∈ xs, b < 256) → (∀ b ∈ ys, b < 256) → (xs.map UInt8.ofNat = ys.map UInt8.ofNat ↔ xs = ys)
  | [], [], _, _ => by simp
  | [], _ :: _, _, _ => by simp
  | _ :: _, [], _, _ => by simp
  | a :: x, b :: y, h1, h2 => by
    have ih := ofNat_inj x y (fun c hc => h1 c (by simp [hc])) (fun c hc => h2 c (by simp [hc]))
    have ha := h1 a (by simp)
    have hb := h2 b (by simp)
    simp only [List.map_cons, List.cons.injEq, ih]
    constructor
    · rintro ⟨h, rfl⟩
      refine ⟨?_, rfl⟩
      have := congrArg UInt8.toNat h
      simpa [UInt8.toNat_ofNat', Nat.mod_eq_of_lt ha, Nat.mod_eq_of_lt hb] using this
    · rintro ⟨rfl, rfl⟩; exact ⟨rfl, rfl⟩
end Go.Am
