/-
  THE ABSTRACT MACHINE, PART 27: a run over a small heap of its own stands for a run over any heap that holds as much.
-/
import Derived.Test.YtiicpeidjhbhiaaGreatAm26
namespace Go.Am
open Go

/-- What names that are counted from 0 stand for. -/
def Kap.pull (κ : Kap) (k : Nat) (σ : Nat → Nat) : Kap := ⟨fun i => if i < k then κ.ρ (σ i) else none, fun i => κ.φ (σ i), κ.I⟩

/-- The small machine's value may stand for the great one's. -/
def VDn (k : Nat) (σ : Nat → Nat) (v₀ v : V) : Prop := ∀ κ H x, RV κ H v x → RV (κ.pull k σ) H v₀ x

def ODn (P : Program) (k : Nat) (σ : Nat → Nat) (i : Nat) (o₀ o : O) : Prop := (o = .buf → o₀ = .buf) ∧ ∀ κ H b, OB P κ H (σ i) b o → OB P (κ.pull k σ) H i b o₀

/-- The names that are kept, under their great names. -/
structure Lift (k : Nat) (σ : Nat → Nat) (m : Nat) (τ : Nat → Nat) (N : Nat) (κ₁ κ₂ : Kap) : Prop where
  old : ∀ i, i < k → ∀ b, κ₁.ρ i = some b → κ₂.ρ (σ i) = some b ∧ κ₂.φ (σ i) = κ₁.φ i
  new : ∀ j, j < m → ∀ b, κ₁.ρ (τ j) = some b → κ₂.ρ (N + j) = some b ∧ κ₂.φ (N + j) = κ₁.φ (τ j)
  imm : ∀ b o, κ₁.I b o → κ₂.I b o

def VUp (k : Nat) (σ : Nat → Nat) (m : Nat) (τ : Nat → Nat) (N : Nat) (v₀ v : V) : Prop := ∀ κ₁ κ₂ H x, Lift k σ m τ N κ₁ κ₂ → RV κ₁ H v₀ x → RV κ₂ H v x

def OUp (P : Program) (k : Nat) (σ : Nat → Nat) (m : Nat) (τ : Nat → Nat) (N : Nat) (i n : Nat) (o₀ o : O) : Prop :=
  (o₀ = .buf → o = .buf) ∧ ∀ κ₁ κ₂ H b, Lift k σ m τ N κ₁ κ₂ → κ₁.ρ i = some b → OB P κ₁ H i b o₀ → OB P κ₂ H n b o

/-- A run over a small heap, and what it is over the great one. -/
structure Small (P : Program) (orc : Nat → Option (List V → St → Option (V × St))) (f : Nat) (args : List V) (st : St) (v : V) (st' : St) : Prop where
  ex : ∃ (A : Aid) (d k : Nat) (st₀ st₀' : St) (args₀ : List V) (v₀ : V) (σ : Nat → Nat) (m : Nat) (τ : Nat → Nat),
    evF P A orc d (.f f) args₀ st₀ = some (v₀, st₀') ∧ st₀.nx = k ∧
    (args₀.length = args.length ∧ ∀ (i : Nat) a b, args₀[i]? = some a → args[i]? = some b → VDn k σ a b) ∧
    (∀ i o₀, st₀.h.get i = some o₀ → i < k ∧ ∃ o, st.h.get (σ i) = some o ∧ ODn P k σ i o₀ o) ∧
    (∀ i j, (st₀.h.get i).isSome → (st₀.h.get j).isSome → σ i = σ j → i = j) ∧
    (∀ j, j < m → k ≤ τ j ∧ τ j < st₀'.nx) ∧ (∀ i j, i < m → j < m → τ i = τ j → i = j) ∧
    VUp k σ m τ st.nx v₀ v ∧ st'.nx = st.nx + m ∧ Lk st st' ∧ st'.df = st.df ∧
    (∀ n o, st'.h.get n = some o →
      (∃ i o₀, i < k ∧ n = σ i ∧ st₀'.h.get i = some o₀ ∧ OUp P k σ m τ st.nx i n o₀ o) ∨
      (∃ j o₀, j < m ∧ n = st.nx + j ∧ st₀'.h.get (τ j) = some o₀ ∧ OUp P k σ m τ st.nx (τ j) n o₀ o) ∨
      (st.h.get n = some o ∧ (n < st.nx ∨ st.nx + m ≤ n) ∧ ∀ i, (st₀.h.get i).isSome → n ≠ σ i))

theorem small_ok {P : Program} (hm : P.follows .mixedOrders = true) {orc : Nat → Option (List V → St → Option (V × St))} (ho : OrcOk P orc) {f : Nat} {args : List V} {st : St} {v : V} {st' : St} (hs : Small P orc f args st v st') :
    Lk st st' ∧ st'.df = st.df ∧ ∀ κ w args', PW κ w.heap args args'.toList → Inv P κ st.h.get w.heap → Free κ st.nx st'.nx → Calls P f args' w (Post P κ st w v st') := by
  obtain ⟨A, d, k, st₀, st₀', args₀, v₀, σ, m, τ, hev, hk, ⟨hal, ha⟩, hdn, hσ, hτ, hτi, hv, hnx, hlk, hdf, hup⟩ := hs.ex
  refine ⟨hlk, hdf, fun κ w args' hp hi hf => ?_⟩
  obtain ⟨_, _, hc⟩ := evF_sound hm ho d _ _ _ _ _ hev
  have hp0 : PW (κ.pull k σ) w.heap args₀ args'.toList := ⟨hal.trans hp.1, fun i c x h1 h2 => by
    obtain ⟨b, hb⟩ : ∃ b, args[i]? = some b := ⟨args[i]'(by rw [← hal]; exact (List.getElem?_eq_some_iff.1 h1).1), by simp⟩
    exact ha i c b h1 hb κ w.heap x (hp.2 i b x hb h2)⟩
  have old : ∀ i, (st₀.h.get i).isSome → i < k ∧ ∃ b, κ.ρ (σ i) = some b ∧ (κ.pull k σ).ρ i = some b ∧ (st.h.get (σ i)).isSome := fun i h => by
    obtain ⟨o₀, h0⟩ := Option.isSome_iff_exists.1 h
    obtain ⟨hik, o, h1, _⟩ := hdn i o₀ h0
    obtain ⟨b, h2, _⟩ := hi.obj _ _ h1
    exact ⟨hik, b, h2, by simp [Kap.pull, hik, h2], by simp [h1]⟩
  have hi0 : Inv P (κ.pull k σ) st₀.h.get w.heap := by
    refine ⟨fun i o₀ h0 => ?_, fun i j b h1 h2 h3 h4 => ?_, hi.imm, fun i o₀ b x h0 h1 h2 => ?_⟩
    · obtain ⟨hik, o, h1, h2⟩ := hdn i o₀ h0
      obtain ⟨b, h3, h4⟩ := hi.obj _ _ h1
      exact ⟨b, by simp [Kap.pull, hik, h3], h2.2 κ w.heap b h4⟩
    · obtain ⟨a1, b1, a2, a3, a4⟩ := old i h1
      obtain ⟨c1, b2, c2, c3, c4⟩ := old j h2
      rw [a3] at h3; cases h3
      rw [c3] at h4; cases h4
      exact hσ i j h1 h2 (hi.inj _ _ _ a4 c4 a2 c2)
    · obtain ⟨hik, o, h3, h4⟩ := hdn i o₀ h0
      have h5 : κ.ρ (σ i) = some b := by simpa [Kap.pull, hik] using h1
      obtain ⟨h6, h7⟩ := hi.sep _ o b x h3 h5 h2
      exact ⟨h4.1 h6, h7⟩
  have hf0 : Free (κ.pull k σ) st₀.nx st₀'.nx := fun n h1 _ => by
    have : ¬ n < k := by omega
    simp [Kap.pull, this]
  obtain ⟨_, hcalls⟩ := hc (κ.pull k σ) w args' hp0 hi0 hf0
  refine hcalls.mono ?_
  rintro e w' ⟨v', κ', rfl, hrv, hinv, hfr⟩
  -- names of the great heap that are new are free
  have hfree : ∀ n, st.nx ≤ n → n < st.nx + m → κ.ρ n = none := fun n h1 h2 => hf n h1 (by omega)
  let κ2 : Kap := ⟨fun n => if st.nx ≤ n ∧ n < st.nx + m then κ'.ρ (τ (n - st.nx)) else κ.ρ n, fun n => if st.nx ≤ n ∧ n < st.nx + m then κ'.φ (τ (n - st.nx)) else κ.φ n, fun b o => κ.I b o ∨ κ'.I b o⟩
  have k2old : ∀ n, ¬ (st.nx ≤ n ∧ n < st.nx + m) → κ2.ρ n = κ.ρ n ∧ κ2.φ n = κ.φ n := fun n h => by simp only [κ2, if_neg h, and_self]
  have k2some : ∀ n b, κ.ρ n = some b → κ2.ρ n = some b ∧ κ2.φ n = κ.φ n := fun n b h => by
    have : ¬ (st.nx ≤ n ∧ n < st.nx + m) := fun hh => by rw [hfree n hh.1 hh.2] at h; cases h
    rw [(k2old n this).1, (k2old n this).2]; exact ⟨h, rfl⟩
  have k2new : ∀ j, j < m → κ2.ρ (st.nx + j) = κ'.ρ (τ j) ∧ κ2.φ (st.nx + j) = κ'.φ (τ j) := fun j hj => by
    have h1 : st.nx ≤ st.nx + j ∧ st.nx + j < st.nx + m := by omega
    have h2 : st.nx + j - st.nx = j := by omega
    simp only [κ2, if_pos h1, h2, and_self]
  have lift : Lift k σ m τ st.nx κ' κ2 := by
    refine ⟨fun i hik b hb => ?_, fun j hj b hb => ?_, fun b o h => .inr h⟩
    · obtain ⟨e1, e2⟩ := hfr.rho i (.inl (by omega))
      rw [e1] at hb
      have h1 : κ.ρ (σ i) = some b := by simpa [Kap.pull, hik] using hb
      rw [e2]
      exact k2some _ _ h1
    · rw [(k2new j hj).1, (k2new j hj).2]; exact ⟨hb, rfl⟩
  have ownUp : ∀ b, Owns (κ.pull k σ) st₀.h.get b → Owns κ st.h.get b := by
    rintro b ⟨i, h1, h2⟩
    obtain ⟨a1, b1, a2, a3, a4⟩ := old i h1
    rw [a3] at h2; cases h2
    exact ⟨σ i, a4, a2⟩
  have notOwn : ∀ n b, (st.h.get n).isSome → κ.ρ n = some b → (∀ i, (st₀.h.get i).isSome → n ≠ σ i) → ¬ Owns (κ.pull k σ) st₀.h.get b := by
    rintro n b h1 h2 h3 ⟨i, h4, h5⟩
    obtain ⟨a1, b1, a2, a3, a4⟩ := old i h4
    rw [a3] at h5; cases h5
    exact h3 i h4 (hi.inj _ _ _ h1 a4 h2 a2)
  have ext2 : Ext κ w.heap κ2 w'.heap := ⟨fun n b h => k2some n b h, fun b o h => .inl h, fun b o h => hfr.ext.cell b o h, hfr.ext.size⟩
  -- what is kept
  have kept : ∀ b, b < w.heap.size → ¬ Owns (κ.pull k σ) st₀.h.get b → w'.heap[b]? = w.heap[b]? := hfr.keep
  -- an object of the small heap
  have loc : ∀ l o₀ , st₀'.h.get l = some o₀ → ∃ b, κ'.ρ l = some b ∧ OB P κ' w'.heap l b o₀ := fun l o₀ h => hinv.obj l o₀ h
  refine ⟨v', κ2, rfl, hv κ' κ2 _ _ lift hrv, ?_, ?_⟩
  · -- the great heap
    have case3 : ∀ n o, st.h.get n = some o → (n < st.nx ∨ st.nx + m ≤ n) → (∀ i, (st₀.h.get i).isSome → n ≠ σ i) → ∃ b, κ.ρ n = some b ∧ κ2.ρ n = some b ∧ κ2.φ n = κ.φ n ∧ b < w.heap.size ∧ w'.heap[b]? = w.heap[b]? ∧ OB P κ w.heap n b o := fun n o h1 h2 h3 => by
      obtain ⟨b, h4, h5⟩ := hi.obj n o h1
      obtain ⟨h6, h7⟩ := k2some n b h4
      exact ⟨b, h4, h6, h7, h5.lt, kept b h5.lt (notOwn n b (by simp [h1]) h4 h3), h5⟩
    -- a kept name, and the small name behind it
    have locn : ∀ n o, st'.h.get n = some o → (∃ l o₀, st₀'.h.get l = some o₀ ∧ ((l < k ∧ n = σ l) ∨ (∃ j, j < m ∧ n = st.nx + j ∧ l = τ j)) ∧ OUp P k σ m τ st.nx l n o₀ o) ∨ (st.h.get n = some o ∧ (n < st.nx ∨ st.nx + m ≤ n) ∧ ∀ i, (st₀.h.get i).isSome → n ≠ σ i) := fun n o h => by
      rcases hup n o h with ⟨i, o₀, h1, h2, h3, h4⟩ | ⟨j, o₀, h1, h2, h3, h4⟩ | h
      · exact .inl ⟨i, o₀, h3, .inl ⟨h1, h2⟩, h4⟩
      · exact .inl ⟨τ j, o₀, h3, .inr ⟨j, h1, h2, rfl⟩, h4⟩
      · exact .inr h
    have liftn : ∀ l n b, ((l < k ∧ n = σ l) ∨ (∃ j, j < m ∧ n = st.nx + j ∧ l = τ j)) → κ'.ρ l = some b → κ2.ρ n = some b ∧ κ2.φ n = κ'.φ l := by
      rintro l n b (⟨h1, rfl⟩ | ⟨j, h1, rfl, rfl⟩) h2
      · exact lift.old l h1 b h2
      · exact lift.new j h1 b h2
    have same : ∀ l n n', ((l < k ∧ n = σ l) ∨ (∃ j, j < m ∧ n = st.nx + j ∧ l = τ j)) → ((l < k ∧ n' = σ l) ∨ (∃ j, j < m ∧ n' = st.nx + j ∧ l = τ j)) → n = n' := by
      rintro l n n' (⟨h1, rfl⟩ | ⟨j, h1, rfl, rfl⟩) (⟨h3, rfl⟩ | ⟨j', h3, rfl, h4⟩)
      · rfl
      · have := (hτ j' h3).1; omega
      · have := (hτ j h1).1; omega
      · rw [hτi j j' h1 h3 h4]
    -- a kept small name's block is no block of the others
    have apart : ∀ l o₀ b n o, st₀'.h.get l = some o₀ → κ'.ρ l = some b → st.h.get n = some o → κ.ρ n = some b → (∀ i, (st₀.h.get i).isSome → n ≠ σ i) → b < w.heap.size → False := fun l o₀ b n o h1 h2 h3 h4 h5 h6 => by
      have hno := notOwn n b (by simp [h3]) h4 h5
      by_cases hl : l < k
      · obtain ⟨e1, _⟩ := hfr.rho l (.inl (by omega))
        rw [e1] at h2
        rcases hfr.dom l (by simp [h1]) with h | h
        · exact hno ⟨l, h, h2⟩
        · rw [h] at h2; cases h2
      · have : (κ.pull k σ).ρ l = none := by simp [Kap.pull, hl]
        rcases hfr.new l b this h2 with h | h
        · omega
        · exact hno h
    refine ⟨fun n o h => ?_, fun n n' b h1 h2 h3 h4 => ?_, fun b o h => ?_, fun n o b i h1 h2 h3 => ?_⟩
    · rcases locn n o h with ⟨l, o₀, h1, h2, h3⟩ | ⟨h1, h2, h3⟩
      · obtain ⟨b, h4, h5⟩ := loc l o₀ h1
        exact ⟨b, (liftn l n b h2 h4).1, h3.2 κ' κ2 _ b lift h4 h5⟩
      · obtain ⟨b, h4, h5, h6, h7, h8, h9⟩ := case3 n o h1 h2 h3
        exact ⟨b, h5, h9.mono h4 ext2 h8⟩
    · obtain ⟨o, h1⟩ := Option.isSome_iff_exists.1 h1
      obtain ⟨o', h2⟩ := Option.isSome_iff_exists.1 h2
      rcases locn n o h1 with ⟨l, o₀, a1, a2, a3⟩ | ⟨a1, a2, a3⟩
      · obtain ⟨b1, a4, a5⟩ := loc l o₀ a1
        have e1 := (liftn l n b1 a2 a4).1
        rw [h3] at e1; cases e1
        rcases locn n' o' h2 with ⟨l', o₀', c1, c2, c3⟩ | ⟨c1, c2, c3⟩
        · obtain ⟨b2, c4, c5⟩ := loc l' o₀' c1
          have e2 := (liftn l' n' b2 c2 c4).1
          rw [h4] at e2; cases e2
          have : l = l' := hinv.inj _ _ _ (by simp [a1]) (by simp [c1]) a4 c4
          subst this
          exact same l n n' a2 c2
        · obtain ⟨b2, c4, c5, c6, c7, c8, c9⟩ := case3 n' o' c1 c2 c3
          rw [h4] at c5; cases c5
          exact (apart l o₀ _ n' o' a1 a4 c1 c4 c3 c7).elim
      · obtain ⟨b1, a4, a5, a6, a7, a8, a9⟩ := case3 n o a1 a2 a3
        rw [h3] at a5; cases a5
        rcases locn n' o' h2 with ⟨l', o₀', c1, c2, c3⟩ | ⟨c1, c2, c3⟩
        · obtain ⟨b2, c4, c5⟩ := loc l' o₀' c1
          have e2 := (liftn l' n' b2 c2 c4).1
          rw [h4] at e2; cases e2
          exact (apart l' o₀' _ n o c1 c4 a1 a4 a3 a7).elim
        · obtain ⟨b2, c4, c5, c6, c7, c8, c9⟩ := case3 n' o' c1 c2 c3
          rw [h4] at c5; cases c5
          exact hi.inj _ _ _ (by simp [a1]) (by simp [c1]) a4 c4
    · rcases h with h | h
      · obtain ⟨x, hx⟩ := hi.imm b o h
        exact ⟨x, by rw [hfr.ext.cell b o h]; exact hx⟩
      · exact hinv.imm b o h
    · rcases locn n o h1 with ⟨l, o₀, a1, a2, a3⟩ | ⟨a1, a2, a3⟩
      · obtain ⟨b1, a4, a5⟩ := loc l o₀ a1
        obtain ⟨e1, e2⟩ := liftn l n b1 a2 a4
        rw [h2] at e1; cases e1
        have h3' : κ'.I b i := h3.elim (fun h => hfr.ext.imm b i h) id
        obtain ⟨c1, c2⟩ := hinv.sep l o₀ b i a1 a4 h3'
        exact ⟨a3.1 c1, by rw [e2]; exact c2⟩
      · obtain ⟨b1, a4, a5, a6, a7, a8, a9⟩ := case3 n o a1 a2 a3
        rw [h2] at a5; cases a5
        rw [a6]
        rcases h3 with h3 | h3
        · exact hi.sep n o b i a1 a4 h3
        · rcases hfr.imm b i h3 with h | h | h
          · exact hi.sep n o b i a1 a4 h
          · omega
          · exact (notOwn n b (by simp [a1]) a4 a3 h).elim
  · refine ⟨⟨ext2, hfr.size, fun b hb hno => kept b hb (fun h => hno (ownUp b h)), fun n hn => k2old n (by omega), fun n b h1 h2 => ?_, fun b o h => ?_, fun n hn => ?_⟩, hfr.kp⟩
    · by_cases hr : st.nx ≤ n ∧ n < st.nx + m
      · have h2' : κ'.ρ (τ (n - st.nx)) = some b := by simpa only [κ2, if_pos hr] using h2
        have hj : n - st.nx < m := by omega
        have : (κ.pull k σ).ρ (τ (n - st.nx)) = none := by
          have h1 := (hτ _ hj).1
          have : ¬ τ (n - st.nx) < k := by omega
          simp [Kap.pull, this]
        exact (hfr.new _ b this h2').imp id (ownUp b)
      · rw [(k2old n hr).1, h1] at h2; cases h2
    · rcases h with h | h
      · exact .inl h
      · exact (hfr.imm b o h).imp id (fun h => h.imp id (ownUp b))
    · obtain ⟨o, hn⟩ := Option.isSome_iff_exists.1 hn
      rcases hup n o hn with ⟨i, o₀, h1, rfl, h3, h4⟩ | ⟨j, o₀, h1, rfl, h3, h4⟩ | ⟨h, _⟩
      · rcases hfr.dom i (by simp [h3]) with h | h
        · obtain ⟨_, _, _, _, a4⟩ := old i h
          exact .inl a4
        · right
          simpa [Kap.pull, h1] using h
      · exact .inr (hfree _ (by omega) (by omega))
      · exact .inl (by simp [h])

/-- An oracle more. -/
theorem orc_add {P : Program} (hm : P.follows .mixedOrders = true) {orc : Nat → Option (List V → St → Option (V × St))} (ho : OrcOk P orc) {f : Nat} {o : List V → St → Option (V × St)}
    (h : ∀ args st v st', o args st = some (v, st') → Small P orc f args st v st') : OrcOk P (fun g => bif Nat.beq g f then some o else orc g) := by
  intro g o' args st v st' h1 h2
  by_cases hg : g = f
  · subst hg
    simp at h1
    subst h1
    exact small_ok hm ho (h args st v st' h2)
  · have : Nat.beq g f = false := by
      cases hb : Nat.beq g f with
      | false => rfl
      | true => exact absurd (Nat.eq_of_beq_eq_true hb) hg
    have h3 : (bif Nat.beq g f then some o else orc g) = some o' := h1
    rw [this] at h3
    exact ho g o' args st v st' h3 h2
end Go.Am
