/-
  Headers and their bytes: what one says the other has. Plain laws.
-/
import Derived.Test.YtiicpeidjhbhiaaGreatHd2
namespace Go.Am
open Go
theorem rd_varB (most : Nat) (hm : most ≤ 9007199254740992) : ∀ (k i acc n : Nat) (r : List Nat), i + k = 9 → acc + n * 128 ^ i ≤ most → (0 < i → 0 < n) → rdNum most i acc (varB k n ++ r) = (acc + n * 128 ^ i, 0, r)
  | 0, i, acc, n, r, hi, hle, hp => by
    have : i = 9 := by omega
    subst this
    have h1 := hp (by omega)
    have h2 : (128 : Nat) ^ 9 = 9223372036854775808 := by decide
    rw [h2] at hle
    omega
  | k + 1, i, acc, n, r, hi, hle, hp => by
    by_cases h : n > 127
    · have e1 : (n % 128 + 128) % 128 = n % 128 := by omega
      have e2 : n % 128 * 128 ^ i + n / 128 * 128 ^ (i + 1) = n * 128 ^ i := by
        rw [Nat.pow_succ, Nat.mul_comm (128 ^ i) 128, ← Nat.mul_assoc, ← Nat.add_mul, Nat.mod_add_div']
      have ih := rd_varB most hm k (i + 1) (acc + n % 128 * 128 ^ i) (n / 128) r (by omega) (by omega) (fun _ => by omega)
      have hc : n % 128 + 128 > 127 := by omega
      have hi9 : ¬ i = 9 := by omega
      simp only [varB, h, if_true, List.cons_append, rdNum, hc, hi9, if_false, e1, ih]
      rw [Nat.add_assoc, e2]
    · have hc : ¬ ((i > 0 ∧ n = 0) ∨ (i = 9 ∧ n > 1) ∨ acc + n * 128 ^ i > most) := by
        rintro (⟨a, b⟩ | ⟨a, b⟩ | a)
        · have := hp a; omega
        · omega
        · omega
      simp only [varB, h, if_false, List.cons_append, List.nil_append, rdNum, hc]
theorem rd_back (most : Nat) : ∀ (bs : List Nat) (i acc m : Nat) (r : List Nat), i ≤ 9 → (∀ b ∈ bs, b < 256) → rdNum most i acc bs = (m, 0, r) → ∃ n, m = acc + n * 128 ^ i ∧ bs = varB (9 - i) n ++ r ∧ (0 < i → 0 < n) ∧ m ≤ most
  | [], i, acc, m, r, _, _, h => by simp [rdNum] at h
  | c :: t, i, acc, m, r, hi, hb, h => by
    simp only [rdNum] at h
    split at h
    · rename_i hc
      split at h
      · cases h
      · rename_i h9
        obtain ⟨n, rfl, rfl, h1, h2⟩ := rd_back most t (i + 1) _ m r (by omega) (fun b hb' => hb b (by simp [hb'])) h
        have hn := h1 (by omega)
        have hc2 := hb c (by simp)
        refine ⟨c % 128 + n * 128, ?_, ?_, fun _ => by omega, h2⟩
        · rw [Nat.add_mul, Nat.pow_succ, Nat.mul_comm (128 ^ i) 128, ← Nat.mul_assoc, Nat.add_assoc]
        · have e : 9 - i = (9 - (i + 1)) + 1 := by omega
          have e1 : (c % 128 + n * 128) > 127 := by omega
          have e2 : (c % 128 + n * 128) % 128 + 128 = c := by omega
          have e3 : (c % 128 + n * 128) / 128 = n := by omega
          rw [e]
          simp only [varB, e1, if_true, e2, e3, List.cons_append]
    · rename_i hc
      split at h
      · cases h
      · rename_i hx
        cases h
        refine ⟨c, rfl, ?_, fun h0 => ?_, ?_⟩
        · cases hk : 9 - i with
          | zero => rfl
          | succ k => simp only [varB, hc, if_false]; rfl
        · rcases Nat.eq_zero_or_pos c with h | h
          · exact absurd (.inl ⟨h0, h⟩) hx
          · exact h
        · rcases Nat.lt_or_ge most (acc + c * 128 ^ i) with h | h
          · exact absurd (.inr (.inr h)) hx
          · exact h
theorem num_fore (n : Int) (hn : okN n) (r : List Nat) : numP mx (bsl (varB 9 n.toNat ++ r) .unk, 0) = (n.toNat, (bsl r .unk, 0)) := by
  unfold okN at hn
  have h := rd_varB mx (by decide) 9 0 0 n.toNat r rfl (by simp [mx]; omega) (fun h => absurd h (by omega))
  simp only [Nat.zero_add, Nat.pow_zero, Nat.mul_one] at h
  unfold numP
  simp only [bytesD_bsl, h]
  simp
theorem num_back {R : V × Int} (hk : okR R.1) (h : (numP mx R).2.2 = 0) : R.2 = 0 ∧ (numP mx R).1 ≤ mx ∧ bytesD R.1 = varB 9 (numP mx R).1 ++ bytesD (numP mx R).2.1 := by
  have hlt : ∀ b ∈ bytesD R.1, b < 256 := by
    rcases hk with e | ⟨bs, e, _, h2⟩
    · rw [e]; simp [bytesD_snil]
    · rw [e, bytesD_bsl]; exact h2
  unfold numP at h ⊢
  split at h
  · rename_i hr; exact absurd h hr
  · rename_i hr
    rw [if_neg hr]
    have hr0 : R.2 = 0 := by omega
    simp only at h ⊢
    split at h
    · rename_i hz
      rw [if_pos hz]
      generalize hg : rdNum mx 0 0 (bytesD R.1) = g at hz
      obtain ⟨m, e, r⟩ := g
      simp only at hz; subst hz
      obtain ⟨n, h1, h2, _, h4⟩ := rd_back mx _ 0 0 m r (by omega) hlt hg
      simp only [Nat.zero_add, Nat.pow_zero, Nat.mul_one] at h1
      subst h1
      refine ⟨hr0, h4, ?_⟩
      simp only [bytesD_bsl]
      exact h2
    · rename_i hz; exact absurd h hz
theorem un_chk {l : List Int} (h : chk l = 0) : ∀ n ∈ l, okN n := by
  unfold chk at h
  split at h
  · assumption
  · cases h
/-- What a header's bytes say is the header. -/
theorem prs_fore (a b c d e : Int) (cp : Cp) (h : chk [a, b, c, d, e] = 0) : prs (bsl (hdrB [a, b, c, d, e]) cp) = ([a, b, c, d, e], 0) := by
  have hk := un_chk h
  have ha := hk a (by simp); have hb := hk b (by simp); have hc := hk c (by simp); have hd := hk d (by simp); have he := hk e (by simp)
  have hw : wkB (bsl (hdrB [a, b, c, d, e]) cp) = bsl (hdrB [a, b, c, d, e]) .unk := rfl
  have ht : takeP (bsl (hdrB [a, b, c, d, e]) .unk, 0) = (bsl [3] .unk, (bsl (varB 9 a.toNat ++ (varB 9 b.toNat ++ (varB 9 c.toNat ++ (varB 9 d.toNat ++ (varB 9 e.toNat ++ []))))) .unk, 0)) := by
    unfold takeP
    simp only [bytesD_bsl, hdrB, catB, List.append_nil]
    simp
  unfold prs
  simp only [hw, ht, num_fore a ha, num_fore b hb, num_fore c hc, num_fore d hd, num_fore e he]
  have z : doneP (bsl [] .unk, 0) = 0 := by unfold doneP; simp [bytesD_bsl]
  rw [if_pos ⟨z, bytesD_bsl _ _⟩]
  unfold okN at ha hb hc hd he
  simp only [Int.toNat_of_nonneg ha.1, Int.toNat_of_nonneg hb.1, Int.toNat_of_nonneg hc.1, Int.toNat_of_nonneg hd.1, Int.toNat_of_nonneg he.1]
/-- What bytes say has these bytes. -/
theorem prs_back (v : V) (hk : okR (wkB v)) : prs v = ([0, 0, 0, 0, 0], 90) ∨ ∃ a b c d e, prs v = ([a, b, c, d, e], 0) ∧ chk [a, b, c, d, e] = 0 ∧ bytesD (wkB v) = hdrB [a, b, c, d, e] := by
  unfold prs
  generalize hR1 : (takeP (wkB v, 0)).2 = R1
  have k1 : okR R1.1 := by rw [← hR1]; exact okR.take (R := (wkB v, 0)) hk
  have k2 := okR.num k1 mx
  have k3 := okR.num k2 mx
  have k4 := okR.num k3 mx
  have k5 := okR.num k4 mx
  split
  · rename_i hc
    obtain ⟨h1, h2⟩ := hc
    refine .inr ⟨_, _, _, _, _, rfl, ?_, ?_⟩
    all_goals
      have h6 : (numP mx (numP mx (numP mx (numP mx (numP mx R1).2).2).2).2).2.2 = 0 ∧ bytesD (numP mx (numP mx (numP mx (numP mx (numP mx R1).2).2).2).2).2.1 = [] := by
        unfold doneP at h1
        split at h1
        · rename_i h; exact absurd h1 h
        · rename_i h
          split at h1
          · rename_i hh; exact ⟨by omega, hh⟩
          · cases h1
      obtain ⟨z5, w5, e5⟩ := num_back k5 h6.1
      obtain ⟨z4, w4, e4⟩ := num_back k4 z5
      obtain ⟨z3, w3, e3⟩ := num_back k3 z4
      obtain ⟨z2, w2, e2⟩ := num_back k2 z3
      obtain ⟨z1, w1, e1⟩ := num_back k1 z2
    · unfold chk
      rw [if_pos]
      intro n hn
      unfold okN
      unfold mx at *
      simp only [List.mem_cons, List.not_mem_nil, or_false] at hn
      rcases hn with rfl | rfl | rfl | rfl | rfl <;> omega
    · have ht : bytesD (wkB v) = 3 :: bytesD R1.1 := by
        have hr : ¬ ((0 : Int) ≠ 0) := by simp
        have hR := hR1
        unfold takeP at hR h2
        simp only [hr, if_false] at hR h2
        cases hb : bytesD (wkB v) with
        | nil => rw [hb] at h2; simp [bytesD_snil] at h2
        | cons x r =>
          rw [hb] at hR h2
          simp only [bytesD_bsl] at h2
          rw [← hR]
          simp only [bytesD_bsl]
          cases h2; rfl
      rw [ht, e1, e2, e3, e4, e5, h6.2]
      simp only [hdrB, catB, Int.toNat_natCast]
  · exact .inl rfl
theorem varB_lt : ∀ (k n : Nat), k ≤ 9 → (k = 0 → n < 256) → n < 128 ^ (k + 1) * 2 → ∀ b ∈ varB k n, b < 256
  | 0, n, _, h0, _, b, hb => by
    simp only [varB, List.mem_singleton] at hb
    subst hb; exact h0 rfl
  | k + 1, n, hk, _, h, b, hb => by
    by_cases hn : n > 127
    · simp only [varB, hn, if_true, List.mem_cons] at hb
      rcases hb with rfl | hb
      · omega
      · refine varB_lt k (n / 128) (by omega) (fun e => ?_) ?_ b hb
        · subst e
          have : n < 128 ^ 2 * 2 := h
          have : (128 : Nat) ^ 2 * 2 = 32768 := by decide
          omega
        · rw [Nat.pow_succ] at h
          generalize 128 ^ (k + 1) = p at *
          omega
    · simp only [varB, hn, if_false, List.mem_singleton] at hb
      omega
theorem varB_byte (n : Nat) (h : n < 18446744073709551616) : ∀ b ∈ varB 9 n, b < 256 := varB_lt 9 n (by omega) (by omega) (by
  have : (128 : Nat) ^ (9 + 1) * 2 = 2361183241434822606848 := by decide
  omega)
theorem catB_lt : ∀ l : List Int, (∀ n ∈ l, okN n) → ∀ b ∈ catB l, b < 256
  | [], _, b, hb => by simp [catB] at hb
  | n :: r, h, b, hb => by
    simp only [catB, List.mem_append] at hb
    rcases hb with hb | hb
    · have := h n (by simp)
      unfold okN at this
      exact varB_byte _ (by omega) b hb
    · exact catB_lt r (fun m hm => h m (by simp [hm])) b hb
theorem hdr_lt {l : List Int} (h : chk l = 0) : ∀ b ∈ hdrB l, b < 256 := fun b hb => by
  simp only [hdrB, List.mem_cons] at hb
  rcases hb with rfl | hb
  · omega
  · exact catB_lt l (un_chk h) b hb
end Go.Am
