/-
  THE ABSTRACT MACHINE, PART 7: equality, keys, arithmetic, parts of values.
-/
import Derived.Test.YtiicpeidjhbhiaaGreatAm6
import Derived.Laws.StructEq
namespace Go.Am
open Go

theorem bytes_beq (a b : ByteArray) : (a == b) = (a.data.toList == b.data.toList) := by
  rw [beq_toListBytes, ByteArray.toList_eq, ByteArray.toList_eq]

section eq
variable {P : Program}

theorem forIn_list {β : Type} (w : World) (f : Field → β → Sem (ForInStep β)) (fs : Array Field) (b : β) : (forIn fs b f).run P w = (forIn fs.toList b f).run P w := by
  rw [← Array.forIn_toList]

/-- Fields, by the model. -/
theorem eqFields_sound {κ : Kap} {H : Array Obj} {d : Nat} {xs ys : List V} {vs us : Array Value} (hx : PW κ H xs vs.toList) (hy : PW κ H ys us.toList)
    (ih : ∀ (t : TypeId) (x y : V) (x' y' : Value) (b : Bool), eqV P d t x y = some b → RV κ H x x' → RV κ H y y' → ∀ w, (Op.equalIn d t x' y').run P w = .ok b w) :
    ∀ (fs : List Field) (b : Bool), fs.foldr (fun f r => if f.name = "_" then r else
        match partV P f.type xs f.offset, partV P f.type ys f.offset with
        | some a, some b => (match eqV P d f.type a b with | some true => r | some false => some false | none => none)
        | _, _ => none) (some true) = some b → ∀ w, (Op.eqFields d vs us fs).run P w = .ok b w := by
  intro fs
  induction fs with
  | nil => intro b h w; simp at h; subst h; simp [Op.eqFields]
  | cons f fs ihf =>
    intro b h w
    simp only [List.foldr_cons] at h
    by_cases hn : f.name = "_"
    · rw [if_pos hn] at h
      rw [Op.eqFields, if_neg (by simp [hn])]
      exact ihf b h w
    · rw [if_neg hn] at h
      rw [Op.eqFields, if_pos hn]
      cases ha : partV P f.type xs f.offset with
      | none => rw [ha] at h; cases h
      | some a =>
        cases hb : partV P f.type ys f.offset with
        | none => rw [ha, hb] at h; cases h
        | some c =>
          rw [ha, hb] at h
          dsimp only at h
          obtain ⟨a', ra, va⟩ := run_part ha hx w
          obtain ⟨c', rc, vc⟩ := run_part hb hy w
          cases he : eqV P d f.type a c with
          | none => rw [he] at h; cases h
          | some r =>
            rw [he] at h
            have re := ih _ _ _ _ _ _ he va vc w
            cases r with
            | false => cases h; simp [ra, rc, re]
            | true => simp [ra, rc, re]; exact ihf b h w

theorem eqV_sound {κ : Kap} {H : Array Obj} : ∀ (d : Nat) (t : TypeId) (x y : V) (x' y' : Value) (b : Bool), eqV P d t x y = some b → RV κ H x x' → RV κ H y y' →
    ∀ w, (Op.equalIn d t x' y').run P w = .ok b w := by
  intro d
  induction d with
  | zero => intro t x y x' y' b h; simp [eqV] at h
  | succ d ih =>
    intro t x y x' y' b h hx hy w
    unfold eqV at h
    cases hu : P.underlying t with
    | none => rw [hu] at h; cases h
    | some ty =>
      rw [hu] at h
      cases ty with
      | bool =>
        dsimp only at h
        split at h
        · cases h; cases hx; cases hy; simp [Op.equalIn, run_underlying hu]
        · cases h
      | int k =>
        dsimp only at h
        split at h
        · split at h
          · rename_i k1 a k2 b' hk
            subst hk
            cases h; cases hx; cases hy; exact run_equalIn_int w d t _ _ _ _ hu
          · cases h
        · cases h
      | string =>
        dsimp only at h
        split at h
        · rename_i l1 l2
          cases h
          obtain ⟨s1, rfl, rfl⟩ := hx.inv_str
          obtain ⟨s2, rfl, rfl⟩ := hy.inv_str
          simp [Op.equalIn, run_underlying hu, bytes_beq]
        · cases h
      | pointer e =>
        dsimp only at h
        split at h <;> first | (cases h; done) | (cases h; cases hx; cases hy; simp [Op.equalIn, run_underlying hu])
      | slice e =>
        dsimp only at h
        split at h <;> first | (cases h; done) | (cases h; cases hx; cases hy; simp [Op.equalIn, run_underlying hu])
      | map k e =>
        dsimp only at h
        split at h <;> first | (cases h; done) | (cases h; cases hx; cases hy; simp [Op.equalIn, run_underlying hu])
      | func a r v =>
        dsimp only at h
        split at h <;> first | (cases h; done) | (cases h; cases hx; cases hy; simp [Op.equalIn, run_underlying hu])
      | struct fields =>
        dsimp only at h
        split at h
        · rename_i xs ys
          cases hp : P.stoodInHeld t with
          | true => rw [hp] at h; cases h
          | false =>
            rw [hp] at h
            simp only [cond_false] at h
            obtain ⟨vs, rfl, p1⟩ := hx.inv_agg
            obtain ⟨us, rfl, p2⟩ := hy.inv_agg
            have hf : P.fieldsOf t = fields := by simp [Program.fieldsOf, hu]
            rw [run_equalIn_agg w d t vs us (by rw [hf]; exact hu) hp, hf]
            exact eqFields_sound p1 p2 (fun t x y x' y' b h hx hy => ih t x y x' y' b h hx hy) fields.toList b h w
        · cases h
      | array len e =>
        dsimp only at h
        split at h
        · rename_i xs ys
          obtain ⟨vs, rfl, p1⟩ := hx.inv_agg
          obtain ⟨us, rfl, p2⟩ := hy.inv_agg
          cases hs : szT P e with
          | none => rw [hs] at h; cases h
          | some sz =>
            rw [hs] at h
            dsimp only at h
            simp only [Op.equalIn, Sem.run_bind, run_underlying hu, Result.andThen_ok, run_szT hs]
            rw [Std.Legacy.Range.forIn_eq_forIn_range']
            simp only [Std.Legacy.Range.size, Nat.sub_zero, Nat.add_sub_cancel, Nat.div_one]
            rw [List.range_eq_range'] at h
            generalize List.range' 0 len 1 = l at h ⊢
            induction l generalizing w with
            | nil => simp at h; subst h; simp
            | cons i l ihl =>
              simp only [List.foldr_cons] at h
              cases ha : partV P e xs (i * sz) with
              | none => rw [ha] at h; cases h
              | some a =>
                cases hb : partV P e ys (i * sz) with
                | none => rw [ha, hb] at h; cases h
                | some c =>
                  rw [ha, hb] at h
                  dsimp only at h
                  obtain ⟨a', ra, va⟩ := run_part ha p1 w
                  obtain ⟨c', rc, vc⟩ := run_part hb p2 w
                  cases he : eqV P d e a c with
                  | none => rw [he] at h; cases h
                  | some r =>
                    rw [he] at h
                    have re := ih _ _ _ _ _ _ he va vc w
                    cases r with
                    | false => cases h; simp [List.forIn_cons, ra, rc, re]
                    | true =>
                      simp only [List.forIn_cons, Sem.run_bind, ra, rc, re, Result.andThen_ok, Bool.not_true, Bool.false_eq_true, if_false, Sem.run_pure, Sem.run_ite]
                      exact ihl w h
        · cases h
      | _ => cases h

theorem eqTop_sound {κ : Kap} {H : Array Obj} {t : TypeId} {x y : V} {x' y' : Value} {b : Bool} (h : eqV P eqTop t x y = some b) (hx : RV κ H x x') (hy : RV κ H y y') (w : World) :
    (Op.equal t x' y').run P w = .ok b w := eqV_sound _ _ _ _ _ _ _ h hx hy w
end eq
end Go.Am
