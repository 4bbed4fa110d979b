/-
  THE ABSTRACT MACHINE, PART 36: answers of functions that work on one block.
-/
import Derived.Test.YtiicpeidjhbhiaaGreatAm33
namespace Go.Am
open Go

theorem WkL.dn {k : Nat} {σ : Nat → Nat} {us vs : List V} (h : WkL us vs) {κ : Kap} {H : Array Obj} {xs : List Value} (hp : PW κ H vs xs) : PW (κ.pull k σ) H us xs :=
  h.pw (κ := κ) (κ' := κ.pull k σ) (fun _ _ h => h) hp
theorem WkL.up {k : Nat} {σ : Nat → Nat} {m : Nat} {τ : Nat → Nat} {N : Nat} {us vs : List V} (h : WkL us vs) {κ₁ κ₂ : Kap} {H : Array Obj} {xs : List Value} (l : Lift k σ m τ N κ₁ κ₂) (hp : PW κ₁ H vs xs) : PW κ₂ H us xs :=
  h.pw l.imm hp

/-- A function that is handed a block's address ahead of values without names: the block is laid anew, a value without names is told. -/
theorem cell_small {P : Program} {orc : Nat → Option (List V → St → Option (V × St))} {f : Nat} {rest rest₀ cs cs₀ cs' cs₁ : List V} {v v₀ : V} {st st₁ : St} {n : Nat} {A : Aid} {d : Nat} {lg : List Nat}
    (hg : st.h.get n = some (.blk cs))
    (hev : evF P A orc d (.f f) (.ptr 0 0 :: rest₀) ⟨Tr.lf.set 0 (some (.blk cs₀)), 1, lg, []⟩ = some (v₀, st₁)) (hs : st₁.h.get 0 = some (.blk cs₁))
    (h1 : WkL rest₀ rest) (h2 : WkL cs₀ cs) (h3 : Wk v v₀) (h4 : WkL cs' cs₁) : Small P orc f (.ptr n 0 :: rest) st v (st.putO n (.blk cs')) := by
  refine ⟨A, d, 1, ⟨Tr.lf.set 0 (some (.blk cs₀)), 1, lg, []⟩, st₁, .ptr 0 0 :: rest₀, v₀, fun _ => n, 0, id, hev, rfl, ⟨by simp [h1.1], fun i a b ha hb => ?_⟩, fun i o hi => ?_, fun i j hi hj _ => ?_, fun j hj => by omega, fun i j hi => by omega, wk_up h3, rfl, .put _ _ _, rfl, fun m o hm => ?_⟩
  · cases i with
    | zero =>
      simp only [List.getElem?_cons_zero, Option.some.injEq] at ha hb
      subst ha; subst hb
      intro κ H x hx
      obtain ⟨b, hr, rfl⟩ := hx.inv_ptr
      exact .ptr 0 0 b (by simp [Kap.pull, hr])
    | succ i => exact wk_dn (h1.2 i a b (by simpa using ha) (by simpa using hb))
  · have hi' : (if i = 0 then some (O.blk cs₀) else none) = some o := by simpa [Tr.get_set, Tr.get] using hi
    by_cases e : i = 0
    · rw [if_pos e] at hi'; cases hi'
      subst e
      refine ⟨by omega, _, hg, ⟨fun h => (by cases h), fun κ H b hb => ?_⟩⟩
      obtain ⟨arr, e, vs, a1, a2, a3⟩ := hb
      exact ⟨arr, e, vs, a1, h2.dn a2, a3⟩
    · rw [if_neg e] at hi'; cases hi'
  · have z : ∀ i, ((⟨Tr.lf.set 0 (some (O.blk cs₀)), 1, lg, []⟩ : St).h.get i).isSome → i = 0 := fun i hi => by
      by_cases e : i = 0
      · exact e
      · simp [Tr.get_set, Tr.get, e] at hi
    rw [z i hi, z j hj]
  · rw [putO_get] at hm
    by_cases e : m = n
    · rw [if_pos e] at hm; cases hm
      refine .inl ⟨0, _, by omega, e, hs, ⟨fun h => (by cases h), fun κ₁ κ₂ H b l hr hb => ?_⟩⟩
      obtain ⟨arr, ee, vs, a1, a2, a3⟩ := hb
      exact ⟨arr, ee, vs, a1, h4.up l a2, a3⟩
    · rw [if_neg e] at hm
      refine .inr (.inr ⟨hm, by omega, fun i hi => e⟩)

/-- A function that tells the address of a new block of values without names. -/
theorem new_small {P : Program} {orc : Nat → Option (List V → St → Option (V × St))} {f : Nat} {args args₀ cs' cs₁ : List V} {st st₁ : St} {A : Aid} {d t : Nat} (hn : st.h.get st.nx = none)
    (hev : evF P A orc d (.f f) args₀ ⟨.lf, 0, [], []⟩ = some (.ptr t 0, st₁)) (hs : st₁.h.get t = some (.blk cs₁)) (ht : t < st₁.nx) (h1 : WkL args₀ args) (h4 : WkL cs' cs₁) : Small P orc f args st (.ptr st.nx 0) (st.newO (.blk cs')) := by
  refine ⟨A, d, 0, ⟨.lf, 0, [], []⟩, st₁, args₀, .ptr t 0, id, 1, fun _ => t, hev, rfl, ⟨h1.1, fun i a b ha hb => wk_dn (h1.2 i a b ha hb)⟩, fun i o hi => by simp [Tr.get] at hi, fun i j hi => by simp [Tr.get] at hi,
    fun j hj => ⟨Nat.zero_le _, ht⟩, fun i j hi hj _ => by omega, fun κ₁ κ₂ H x l hx => ?_, rfl, .new _ _, rfl, fun n o hn' => ?_⟩
  · obtain ⟨b, hr, rfl⟩ := hx.inv_ptr
    have := (l.new 0 (by omega) b hr).1
    exact .ptr _ _ b (by simpa using this)
  · rw [newO_get] at hn'
    by_cases e : n = st.nx
    · rw [if_pos e] at hn'
      cases hn'
      refine .inr (.inl ⟨0, _, by omega, by simpa using e, hs, ⟨fun h => (by cases h), fun κ₁ κ₂ H b l hr hb => ?_⟩⟩)
      obtain ⟨arr, ee, vs, a1, a2, a3⟩ := hb
      exact ⟨arr, ee, vs, a1, h4.up l a2, a3⟩
    · rw [if_neg e] at hn'
      exact .inr (.inr ⟨hn', by omega, fun i hi => by simp [Tr.get] at hi⟩)
end Go.Am
