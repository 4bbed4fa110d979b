/-
  THE ABSTRACT MACHINE, PART 8: arithmetic, comparisons, keys.
-/
import Derived.Test.YtiicpeidjhbhiaaGreatAm7
namespace Go.Am
open Go

section arith
variable {P : Program} {κ : Kap} {st st' : St} {w : World}

theorem binInt_sound {op : BinOp} {k : IntKind} {a b : Int} {v : V} (hsh : isSh op = false) (h : binInt op k a b = some v) (t : TypeId) (w : World) :
    ∃ v', (binOp op t (.int k a) (.int k b)).run P w = .ok v' w ∧ RV κ w.heap v v' := by
  cases op <;> simp only [binInt, isSh] at h hsh <;> first
    | (cases h; done)
    | (cases hsh; done)
    | (cases h
       refine ⟨_, ?_, by constructor⟩
       simp [binOp, Op.intArith, Op.intBits, Op.intCmp])
    | (cases hb : (b == 0) with
       | true => rw [hb] at h; cases h
       | false =>
         rw [hb] at h
         simp only [cond_false] at h
         cases h
         have hb' : b ≠ 0 := by simpa using hb
         refine ⟨_, ?_, by constructor⟩
         simp [binOp, Op.intDiv, hb'])

theorem shInt_sound {op : BinOp} {k k' : IntKind} {a b : Int} {v : V} (h : shInt op k a b = some v) (t : TypeId) (w : World) :
    ∃ v', (binOp op t (.int k a) (.int k' b)).run P w = .ok v' w ∧ RV κ w.heap v v' := by
  unfold shInt at h
  cases hb : decide (b < 0) with
  | true => rw [hb] at h; cases h
  | false =>
    rw [hb] at h
    simp only [cond_false] at h
    have hb' : ¬ b < 0 := by simpa using hb
    cases op <;> dsimp only at h <;> first
      | (cases h; done)
      | (cases h
         refine ⟨_, ?_, by constructor⟩
         simp [binOp, Op.shift, hb'])

theorem bytes_toList (s : ByteArray) : s.toList = s.data.toList := by rw [ByteArray.toList_eq]

theorem binStr_sound {op : BinOp} {a b : ByteArray} {v : V} (h : binStr op a.data.toList b.data.toList = some v) (t : TypeId) (w : World) :
    ∃ v', (binOp op t (.string a) (.string b)).run P w = .ok v' w ∧ RV κ w.heap v v' := by
  cases op <;> simp only [binStr] at h <;> first
    | (cases h; done)
    | (cases h
       refine ⟨_, ?_, by constructor⟩
       simp [binOp, Op.stringOp, bytes_toList]
       done)
    | (cases hb : Nat.ble (a.data.toList.length + b.data.toList.length) 9223372036854775807 with
       | false => rw [hb] at h; cases h
       | true =>
         rw [hb] at h
         simp only [cond_true] at h
         cases h
         have hb' := Nat.le_of_ble_eq_true hb
         refine ⟨.string (a ++ b), ?_, .str _ _ (by rw [ByteArray.data_append, Array.toList_append])⟩
         have hs : a.size + b.size ≤ 9223372036854775807 := hb'
         have hm : IntKind.i64.max = 9223372036854775807 := by decide
         simp only [binOp, Op.stringOp, hm]
         rw [if_neg (by omega)]
         rfl)

/-- Nothing is known of it. -/
def Blank (a : V) : Prop := a = .und ∨ a = .opq
theorem rv_int_inv {H : Array Obj} {a : V} {k : IntKind} {n : Int} (h : RV κ H a (.int k n)) : a = .int k n ∨ Blank a := by cases h <;> simp [Blank]
theorem rv_string_inv {H : Array Obj} {a : V} {s : ByteArray} (h : RV κ H a (.string s)) : a = .str s.data.toList ∨ Blank a := by
  cases h with
  | str _ _ h => exact .inl (by rw [h])
  | opq _ _ => exact .inr (.inr rfl)
  | und _ => exact .inr (.inl rfl)
theorem rv_float_inv {H : Array Obj} {a : V} {k : FloatKind} {n : Nat} (h : RV κ H a (.float k n)) : Blank a := by cases h <;> simp [Blank]
theorem rv_complex_inv {H : Array Obj} {a : V} {k : FloatKind} {n m : Nat} (h : RV κ H a (.complex k n m)) : Blank a := by cases h <;> simp [Blank]
theorem rv_nilIface_inv {H : Array Obj} {a : V} (h : RV κ H a .nilIface) : Blank a := by cases h <;> simp [Blank]

theorem eqV_und_l {t : TypeId} {a b : V} (ha : Blank a) : ∀ d, eqV P d t a b = none := by
  rcases ha with rfl | rfl <;> intro d
  all_goals
    cases d with
    | zero => rfl
    | succ d =>
      unfold eqV
      cases hu : P.underlying t with
      | none => rfl
      | some ty => cases ty <;> rfl

theorem eqGuard_sound {op : BinOp} {t : TypeId} {x y : Operand} {a : V} {a' b' : Value} (h : eqGuardOk P t a = true) (ha : RV κ w.heap a a') (hn : ¬ Blank a) : (eqGuard op t x y a' b').run P w = .ok () w := by
  have hm : ∀ vs, a' = .agg vs → P.eqGuardType P.depth t = false := by
    rintro vs rfl
    cases ha with
    | agg cs _ hl he => simpa [eqGuardOk] using h
    | und _ => exact absurd (.inl rfl) hn
    | opq _ _ => exact absurd (.inr rfl) hn
  have nil : a' ≠ .nilIface := by rintro rfl; exact hn (rv_nilIface_inv ha)
  cases a' with
  | nilIface => exact absurd rfl nil
  | agg vs =>
    have := hm vs rfl
    cases b' with
    | agg us => exact run_eqGuard_agg w op t x y vs us this
    | _ => cases op <;> rfl
  | _ => cases op <;> rfl

theorem run_binOp_eq {t : TypeId} {a b : V} {a' b' : Value} (ha : RV κ w.heap a a') (hb : RV κ w.heap b b') (hn : ¬ Blank a) (hi : ∀ k n k' m, a = .int k n → b = .int k' m → False) (hs : ∀ s u, a = .str s → b = .str u → False) (hb0 : ¬ Blank b) :
    binOp .eql t a' b' = (do pure (.bool (← Op.equal t a' b'))) ∧ binOp .neq t a' b' = (do pure (.bool (!(← Op.equal t a' b')))) := by
  cases a' with
  | int k n =>
    cases b' with
    | int k' m =>
      rcases rv_int_inv ha with h1 | h1
      · rcases rv_int_inv hb with h2 | h2
        · exact (hi _ _ _ _ h1 h2).elim
        · exact absurd h2 hb0
      · exact absurd h1 hn
    | _ => exact ⟨rfl, rfl⟩
  | string s =>
    cases b' with
    | string u =>
      rcases rv_string_inv ha with h1 | h1
      · rcases rv_string_inv hb with h2 | h2
        · exact (hs _ _ h1 h2).elim
        · exact absurd h2 hb0
      · exact absurd h1 hn
    | _ => exact ⟨rfl, rfl⟩
  | float k n => exact absurd (rv_float_inv ha) hn
  | complex k n m => exact absurd (rv_complex_inv ha) hn
  | _ => cases b' <;> exact ⟨rfl, rfl⟩

theorem eqV_und_r {t : TypeId} {a b : V} (hb : Blank b) : ∀ d, eqV P d t a b = none := by
  rcases hb with rfl | rfl <;> intro d
  all_goals
    cases d with
    | zero => rfl
    | succ d =>
      unfold eqV
      cases hu : P.underlying t with
      | none => rfl
      | some ty => cases ty <;> cases a <;> rfl

theorem op_bin {op : BinOp} {t : TypeId} {x y : Operand} {a b : V} {a' b' : Value} {v : V} (h : binV P op t a b = some v) (i : Inv P κ st.h.get w.heap) (ha : RV κ w.heap a a') (hb : RV κ w.heap b b') :
    OpR P κ st w ((do let r ← (do eqGuard op t x y a' b'; binOp op t a' b' : Sem Value); pure (Next.value r) : Sem Next).run P w) v st := by
  have done : ∀ v', (eqGuard op t x y a' b').run P w = .ok () w → (binOp op t a' b').run P w = .ok v' w → RV κ w.heap v v' →
      OpR P κ st w ((do let r ← (do eqGuard op t x y a' b'; binOp op t a' b' : Sem Value); pure (Next.value r) : Sem Next).run P w) v st := fun v' h0 h1 h2 => by
    have := OpR.pure i h2
    simpa [h0, h1] using this
  unfold binV at h
  split at h
  · rename_i k a1 k' b1
    obtain rfl := ha.inv_int
    obtain rfl := hb.inv_int
    have g : (eqGuard op t x y (.int k a1) (.int k' b1)).run P w = .ok () w := by unfold eqGuard; split <;> rfl
    cases hs : isSh op with
    | true =>
      rw [hs] at h
      obtain ⟨v', h1, h2⟩ := shInt_sound (P := P) (κ := κ) (k' := k') h t w
      exact done v' g h1 h2
    | false =>
      rw [hs] at h
      simp only [cond_false] at h
      split at h
      · rename_i hk
        subst hk
        obtain ⟨v', h1, h2⟩ := binInt_sound (P := P) (κ := κ) hs h t w
        exact done v' g h1 h2
      · cases h
  · obtain ⟨s1, rfl, rfl⟩ := ha.inv_str
    obtain ⟨s2, rfl, rfl⟩ := hb.inv_str
    obtain ⟨v', h1, h2⟩ := binStr_sound (P := P) (κ := κ) h t w
    exact done v' (by unfold eqGuard; split <;> rfl) h1 h2
  · rename_i hni hns
    have both : ∀ r, eqV P eqTop t a b = some r → eqGuardOk P t a = true → (eqGuard op t x y a' b').run P w = .ok () w ∧
        (binOp .eql t a' b').run P w = .ok (.bool r) w ∧ (binOp .neq t a' b').run P w = .ok (.bool (!r)) w := fun r he hg => by
      have hna : ¬ Blank a := fun hbl => by rw [eqV_und_l hbl] at he; cases he
      have hnb : ¬ Blank b := fun hbl => by rw [eqV_und_r hbl] at he; cases he
      obtain ⟨e1, e2⟩ := run_binOp_eq (t := t) ha hb hna (fun k n k' m h1 h2 => hni k n k' m h1 h2) (fun s u h1 h2 => hns s u h1 h2) hnb
      have hr := eqTop_sound he ha hb w
      exact ⟨eqGuard_sound hg ha hna, by rw [e1]; simp [hr], by rw [e2]; simp [hr]⟩
    split at h
    · cases hg : eqGuardOk P t a with
      | false => rw [hg] at h; cases h
      | true =>
        rw [hg] at h
        simp only [cond_true] at h
        cases he : eqV P eqTop t a b with
        | none => rw [he] at h; cases h
        | some r =>
          rw [he] at h; cases h
          obtain ⟨h1, h2, _⟩ := both r he hg
          exact done _ h1 h2 (.bool _)
    · cases hg : eqGuardOk P t a with
      | false => rw [hg] at h; cases h
      | true =>
        rw [hg] at h
        simp only [cond_true] at h
        cases he : eqV P eqTop t a b with
        | none => rw [he] at h; cases h
        | some r =>
          rw [he] at h; cases h
          obtain ⟨h1, _, h2⟩ := both r he hg
          exact done _ h1 h2 (.bool _)
    · cases h
end arith
end Go.Am
