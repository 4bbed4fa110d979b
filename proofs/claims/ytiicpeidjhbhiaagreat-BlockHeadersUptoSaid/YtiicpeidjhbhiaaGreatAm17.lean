/-
  THE ABSTRACT MACHINE, PART 17: what an operation hangs on; what it leaves alone; the frame rule.
-/
import Derived.Test.YtiicpeidjhbhiaaGreatAm16
namespace Go.Am
open Go

/-! ### The last one that laid hands on it -/
def lastOf {α β : Type} (l : List α) (p : α → Bool) (t : α → Option β) (x : β) : β := l.foldl (fun x a => bif p a then (t a).getD x else x) x

section lastOf
variable {α β : Type} {p q : α → Bool} {t : α → Option β}
theorem lastOf_append (a b : List α) (x : β) : lastOf (a ++ b) p t x = lastOf b p t (lastOf a p t x) := by simp [lastOf]
theorem lastOf_cons (a : α) (b : List α) (x : β) : lastOf (a :: b) p t x = lastOf b p t (bif p a then (t a).getD x else x) := rfl
theorem lastOf_none : ∀ (l : List α) (x : β), (∀ a ∈ l, p a = true → t a = none) → lastOf l p t x = x
  | [], _, _ => rfl
  | a :: l, x, h => by
    rw [lastOf_cons]
    have : (bif p a then (t a).getD x else x) = x := by
      cases hp : p a with
      | false => rfl
      | true => rw [h a (by simp) hp]; rfl
    rw [this]; exact lastOf_none l x (fun b hb => h b (by simp [hb]))
theorem lastOf_congr : ∀ (l : List α) (x : β), (∀ a ∈ l, q a = p a) → lastOf l q t x = lastOf l p t x
  | [], _, _ => rfl
  | a :: l, x, h => by
    rw [lastOf_cons, lastOf_cons, h a (by simp)]
    exact lastOf_congr l _ (fun b hb => h b (by simp [hb]))
theorem lastOf_congr' : ∀ (l : List α) (x : β), (∀ a ∈ l, q a = p a ∨ t a = none) → lastOf l q t x = lastOf l p t x
  | [], _, _ => rfl
  | a :: l, x, h => by
    have : (bif q a then (t a).getD x else x) = (bif p a then (t a).getD x else x) := by
      rcases h a (by simp) with h | h
      · rw [h]
      · rw [h]; cases p a <;> cases q a <;> rfl
    rw [lastOf_cons, lastOf_cons, this]
    exact lastOf_congr' l _ (fun b hb => h b (by simp [hb]))
/-- One more. -/
theorem lastOf_add {A B : List α} {r : α} {x : β} (hA : ∀ a ∈ A, q a = p a) (hB : ∀ b ∈ B, q b = p b) (hr : q r = true) (hr0 : p r = false) (hd : ∀ b ∈ B, p b = true → (t r).isSome → t b = none) :
    lastOf (A ++ r :: B) q t x = (t r).getD (lastOf (A ++ r :: B) p t x) := by
  rw [lastOf_append, lastOf_append, lastOf_cons, lastOf_cons, lastOf_congr A x hA, lastOf_congr B _ hB, hr, hr0]
  simp only [cond_true, cond_false]
  cases ht : t r with
  | none => rfl
  | some y =>
    simp only [Option.getD_some]
    exact lastOf_none B y (fun b hb hp => hd b hb hp (by simp [ht]))
/-- Ahead of one. -/
theorem lastOf_pre {A B : List α} {r : α} {x : β} (hA : ∀ a ∈ A, p a = false → t a = none) (hB : ∀ b ∈ B, p b = true → t b = none) (hr0 : p r = false) :
    lastOf (A ++ r :: B) p t x = lastOf A (fun _ => true) t x := by
  rw [lastOf_append, lastOf_cons, hr0]
  simp only [cond_false]
  rw [lastOf_none B _ hB]
  refine (lastOf_congr' A x (fun a ha => ?_))
  cases hp : p a with
  | true => exact .inl rfl
  | false => exact .inr (hA a ha hp)
end lastOf

theorem hasN_iff (d : Nat) : ∀ (l : List Nat), hasN d l = true ↔ d ∈ l
  | [] => by simp [hasN]
  | x :: r => by
    rw [hasN, Bool.or_eq_true, hasN_iff d r, List.mem_cons, Nat.beq_eq]

/-! ### Temporaries -/
theorem eget_eput {nt : Nat} {env env' : Env} {dst : Option Nat} {v : V} (h : eput nt env dst v = some env') (t : Nat) : eget env' t = if dst = some t then v else eget env t := by
  unfold eput at h
  cases dst with
  | none => cases h; simp
  | some d =>
    dsimp only at h
    cases hd : Nat.blt d nt with
    | false => rw [hd] at h; cases h
    | true =>
      rw [hd] at h
      simp only [cond_true, V.force_eq] at h
      cases h
      rw [eget, cond_beq]
      by_cases e : d = t <;> simp [e]
theorem eput_lt {nt : Nat} {env env' : Env} {d : Nat} {v : V} (h : eput nt env (some d) v = some env') : d < nt := by
  unfold eput at h
  dsimp only at h
  cases hd : Nat.blt d nt with
  | false => rw [hd] at h; cases h
  | true => exact Nat.le_of_ble_eq_true hd

/-- What is put where a value stands. -/
theorem put_getD (a : Act) (dst : Option Tmp) (v : Value) (t : Nat) (h : ∀ d, dst = some d → d < a.tmps.size) : (a.put dst v).tmps.getD t undef = if dst = some t then v else a.tmps.getD t undef := by
  cases dst with
  | none => simp [Act.put]
  | some d =>
    simp only [Act.put, Array.getD_eq_getD_getElem?, Array.getElem?_setIfInBounds]
    by_cases e : d = t
    · subst e; simp [h d rfl]
    · simp [e]
theorem put_size (a : Act) (dst : Option Tmp) (v : Value) : (a.put dst v).tmps.size = a.tmps.size := by
  cases dst <;> simp [Act.put]
theorem put_defers (a : Act) (dst : Option Tmp) (v : Value) : (a.put dst v).defers = a.defers := by
  cases dst <;> rfl

theorem RE.put {κ : Kap} {H : Array Obj} {nt : Nat} {env env' : Env} {dst : Option Nat} {v : V} {v' : Value} {a : Act} (h : RE κ H env a.tmps) (hs : a.tmps.size = nt) (he : eput nt env dst v = some env') (hv : RV κ H v v') : RE κ H env' (a.put dst v').tmps := fun t => by
  rw [eget_eput he, put_getD a dst v' t (fun d hd => by subst hd; rw [hs]; exact eput_lt he)]
  split
  · exact hv
  · exact h t

theorem opv_rv {κ : Kap} {H : Array Obj} {env : Env} {a : Act} (x : Operand) (h : ∀ t, x = .tmp t → RV κ H (eget env t) (a.tmps.getD t undef)) : RV κ H (opv env x) (a.eval x) := by
  cases x with
  | tmp t => exact h t rfl
  | const v => exact rv_val κ H v
  | func f => exact .fn f [] [] #[] #[] rfl rfl (fun i c v h => by simp at h) (fun i c v h => by simp at h)
  | global g => exact .und _

/-! ### Operations look at their operands alone -/
theorem map_congr_arr {α β : Type} {f g : α → β} {xs : Array α} (h : ∀ x ∈ xs, f x = g x) : xs.toList.map f = xs.toList.map g := List.map_congr_left fun x hx => h x (by simpa using hx)

theorem opA_congr {P : Program} {mu : Bool} {ρ ρ' : Operand → V} (o : Op) (h : ∀ x ∈ o.operands, ρ x = ρ' x) : opA P mu ρ o = opA P mu ρ' o := by
  cases o <;> try rfl
  case makeMap t r => cases r <;> rfl
  case move x => exact congrArg Ac.ret (h x (by simp [Op.operands]))
  case assign x => exact congrArg Ac.ret (h x (by simp [Op.operands]))
  case pick c a b => simp only [opA]; rw [h c (by simp [Op.operands]), h a (by simp [Op.operands]), h b (by simp [Op.operands])]
  case box t x => simp only [opA]; rw [h x (by simp [Op.operands])]
  case build t ps =>
    simp only [opA]
    rw [List.map_congr_left (fun p hp => by rw [h p.2 (by simp [Op.operands]; exact ⟨p.1, by simpa using hp⟩)])]
  case buildSlice t n ps =>
    simp only [opA]
    rw [List.map_congr_left (fun p hp => by rw [h p.2 (by simp [Op.operands]; exact ⟨p.1, by simpa using hp⟩)])]
  case load t x => simp only [opA]; rw [h x (by simp [Op.operands])]
  case store t x y => simp only [opA]; rw [h x (by simp [Op.operands]), h y (by simp [Op.operands])]
  case nilCheck x => simp only [opA]; rw [h x (by simp [Op.operands])]
  case binOp op t x y u => simp only [opA]; rw [h x (by simp [Op.operands]), h y (by simp [Op.operands])]
  case unOp op t x => simp only [opA]; rw [h x (by simp [Op.operands])]
  case convert s d x => simp only [opA]; rw [h x (by simp [Op.operands])]
  case makeFunc fn a b =>
    cases fn with
    | func f =>
      simp only [opA]
      rw [map_congr_arr (xs := a) (fun x hx => h x (by simp [Op.operands, hx])), map_congr_arr (xs := b) (fun x hx => h x (by simp [Op.operands, hx]))]
    | _ => rfl
  case slice t x lo hi mx =>
    simp only [opA]
    have om : ∀ y : Option Operand, (∀ z, y = some z → ρ z = ρ' z) → y.map ρ = y.map ρ' := fun y hy => by
      cases y with
      | none => rfl
      | some z => simp [hy z rfl]
    rw [h x (by simp [Op.operands]), om lo (fun z hz => h z (by simp [Op.operands, hz])), om hi (fun z hz => h z (by simp [Op.operands, hz])), om mx (fun z hz => h z (by simp [Op.operands, hz]))]
  case fieldAddr s x k => simp only [opA]; rw [h x (by simp [Op.operands])]
  case field s x k => simp only [opA]; rw [h x (by simp [Op.operands])]
  case indexAddr s x y => simp only [opA]; rw [h x (by simp [Op.operands]), h y (by simp [Op.operands])]
  case index s x y => simp only [opA]; rw [h x (by simp [Op.operands]), h y (by simp [Op.operands])]
  case lookup s x y b => simp only [opA]; rw [h x (by simp [Op.operands]), h y (by simp [Op.operands])]
  case mapUpdate t x y z => simp only [opA]; rw [h x (by simp [Op.operands]), h y (by simp [Op.operands]), h z (by simp [Op.operands])]
  case insert t x y z => simp only [opA]; rw [h x (by simp [Op.operands]), h y (by simp [Op.operands]), h z (by simp [Op.operands])]
  case range t x => simp only [opA]; rw [h x (by simp [Op.operands])]
  case next x b => cases b <;> (simp only [opA]; rw [h x (by simp [Op.operands])])
  case entry x => simp only [opA]; rw [h x (by simp [Op.operands])]
  case extract x k => simp only [opA]; rw [h x (by simp [Op.operands])]
  case call c =>
    simp only [opA]
    have ha : c.args.toList.map ρ = c.args.toList.map ρ' := map_congr_arr (fun x hx => h x (by simp [Op.operands, Call.operands, hx]))
    cases hc : c.callee with
    | value f => dsimp only; rw [h f (by simp [Op.operands, Call.operands, hc]), ha]
    | builtin b => dsimp only; rw [ha]
    | invoke r m => rfl

/-! ### What an operation leaves alone -/
structure Lk (st st' : St) : Prop where
  nx : st.nx ≤ st'.nx
  same : ∀ n, n ∉ st'.lg → (n < st.nx ∨ st'.nx ≤ n) → st'.h.get n = st.h.get n
  lg : ∀ n, n ∈ st.lg → n ∈ st'.lg

theorem Lk.refl (st : St) : Lk st st := ⟨Nat.le_refl _, fun _ _ _ => rfl, fun _ h => h⟩
theorem Lk.trans {a b c : St} (x : Lk a b) (y : Lk b c) : Lk a c :=
  ⟨Nat.le_trans x.nx y.nx, fun n h1 h2 => by
    have hb : n ∉ b.lg := fun h => h1 (y.lg n h)
    have := x.nx
    have := y.nx
    rw [y.same n h1 (by omega), x.same n hb (by omega)], fun n h => y.lg n (x.lg n h)⟩
theorem Lk.put (st : St) (n : Nat) (o : O) : Lk st (st.putO n o) := ⟨Nat.le_refl _, fun m h _ => by
  have : m ≠ n := fun e => h (by simp [St.putO, e])
  simp [St.putO, Tr.get_set, this], fun m h => by simp [St.putO, h]⟩
theorem Lk.del (st : St) (n : Nat) : Lk st (st.delO n) := ⟨Nat.le_refl _, fun m h _ => by
  have : m ≠ n := fun e => h (by simp [St.delO, e])
  simp [St.delO, Tr.get_set, this], fun m h => by simp [St.delO, h]⟩
theorem Lk.new (st : St) (o : O) : Lk st (st.newO o) := ⟨by simp [St.newO], fun m h h2 => by
  have : m ≠ st.nx := by simp [St.newO] at h2; omega
  simp [St.newO, Tr.get_set, this], fun m h => by simpa [St.newO] using h⟩

theorem runA_lk : ∀ (a : Ac) (st : St) (rd : List Nat) (v : V) (st' : St) (rd' : List Nat), runA a st rd = .val v st' rd' → Lk st st' ∧ st'.df = st.df ∧ ∀ n ∈ rd, n ∈ rd' := by
  intro a
  induction a with
  | fail => intro st rd v st' rd' h; exact (runA_fail h).elim
  | ret u => intro st rd v st' rd' h; simp only [runA] at h; cases h; exact ⟨.refl _, rfl, fun _ h => h⟩
  | get n k ih =>
    intro st rd v st' rd' h
    obtain ⟨o, _, h1⟩ := runA_get h
    obtain ⟨a, b, c⟩ := ih o st _ v st' rd' h1
    exact ⟨a, b, fun m hm => c m (by simp [hm])⟩
  | put n o k ih =>
    intro st rd v st' rd' h
    obtain ⟨_, h1⟩ := runA_put h
    obtain ⟨a, b, c⟩ := ih _ _ v st' rd' h1
    exact ⟨(Lk.put st n o).trans a, b, c⟩
  | del n k ih =>
    intro st rd v st' rd' h
    obtain ⟨_, h1⟩ := runA_del h
    obtain ⟨a, b, c⟩ := ih _ _ v st' rd' h1
    exact ⟨(Lk.del st n).trans a, b, c⟩
  | new o k ih =>
    intro st rd v st' rd' h
    obtain ⟨_, h1⟩ := runA_new h
    obtain ⟨a, b, c⟩ := ih _ _ _ v st' rd' h1
    exact ⟨(Lk.new st o).trans a, b, c⟩
  | call f args => intro st rd v st' rd' h; exact (runA_call h).elim
  | yld f args => intro st rd v st' rd' h; exact (runA_yld h).elim

/-- It can be run on as much of the heap as it touches. -/
theorem runA_local (X : Nat → Prop) : ∀ (a : Ac) (st : St) (rd : List Nat) (v : V) (st' : St) (rd' : List Nat), runA a st rd = .val v st' rd' → (∀ n, n ∈ rd' ∨ n ∈ st'.lg ∨ (st.nx ≤ n ∧ n < st'.nx) → X n) → ∀ t : Tr O, (∀ n, X n → t.get n = st.h.get n) →
    ∃ t', runA a ⟨t, st.nx, st.lg, st.df⟩ rd = .val v ⟨t', st'.nx, st'.lg, st'.df⟩ rd' ∧ ∀ n, X n → t'.get n = st'.h.get n := by
  intro a
  induction a with
  | fail => intro st rd v st' rd' h; exact (runA_fail h).elim
  | ret u =>
    intro st rd v st' rd' h _ t ht
    simp only [runA] at h
    cases h
    exact ⟨t, rfl, ht⟩
  | get n k ih =>
    intro st rd v st' rd' h hX t ht
    obtain ⟨o, ho, h1⟩ := runA_get h
    obtain ⟨_, _, c⟩ := runA_lk _ _ _ _ _ _ h1
    obtain ⟨t', a, b⟩ := ih o st _ v st' rd' h1 hX t ht
    refine ⟨t', ?_, b⟩
    simp only [runA]
    rw [ht n (hX n (.inl (c n (by simp)))), ho]
    exact a
  | put n o k ih =>
    intro st rd v st' rd' h hX t ht
    obtain ⟨⟨x, hx⟩, h1⟩ := runA_put h
    obtain ⟨l, _, _⟩ := runA_lk _ _ _ _ _ _ h1
    have hn : n ∈ st'.lg := l.lg n (by simp [St.putO])
    obtain ⟨t', a, b⟩ := ih (st.putO n o) rd v st' rd' h1 hX (t.set n (some o)) (fun m hm => by
      simp only [St.putO, Tr.get_set]
      split
      · rfl
      · exact ht m hm)
    refine ⟨t', ?_, b⟩
    simp only [runA]
    rw [ht n (hX n (.inr (.inl hn))), hx]
    exact a
  | del n k ih =>
    intro st rd v st' rd' h hX t ht
    obtain ⟨⟨x, hx⟩, h1⟩ := runA_del h
    obtain ⟨l, _, _⟩ := runA_lk _ _ _ _ _ _ h1
    have hn : n ∈ st'.lg := l.lg n (by simp [St.delO])
    obtain ⟨t', a, b⟩ := ih (st.delO n) rd v st' rd' h1 hX (t.set n none) (fun m hm => by
      simp only [St.delO, Tr.get_set]
      split
      · rfl
      · exact ht m hm)
    refine ⟨t', ?_, b⟩
    simp only [runA]
    rw [ht n (hX n (.inr (.inl hn))), hx]
    exact a
  | new o k ih =>
    intro st rd v st' rd' h hX t ht
    obtain ⟨h0, h1⟩ := runA_new h
    obtain ⟨l, _, _⟩ := runA_lk _ _ _ _ _ _ h1
    have hlt : st.nx < st'.nx := by have := l.nx; simp [St.newO] at this; omega
    obtain ⟨t', a, b⟩ := ih st.nx (st.newO o) rd v st' rd' h1 (fun m hm => hX m (by
        rcases hm with hm | hm | ⟨h1, h2⟩
        · exact .inl hm
        · exact .inr (.inl hm)
        · exact .inr (.inr ⟨by simp [St.newO] at h1; omega, h2⟩))) (t.set st.nx (some o)) (fun m hm => by
      simp only [St.newO, Tr.get_set]
      split
      · rfl
      · exact ht m hm)
    refine ⟨t', ?_, b⟩
    simp only [runA]
    rw [ht st.nx (hX _ (.inr (.inr ⟨Nat.le_refl _, hlt⟩))), h0]
    exact a
  | call f args => intro st rd v st' rd' h; exact (runA_call h).elim
  | yld f args => intro st rd v st' rd' h; exact (runA_yld h).elim

/-- As much of a heap as is named. -/
theorem Tr.part {α : Type} (t : Tr α) : ∀ (l : List Nat), ∃ t' : Tr α, ∀ n, t'.get n = if n ∈ l then t.get n else none
  | [] => ⟨.lf, fun n => by simp [Tr.get]⟩
  | x :: l => by
    obtain ⟨t', h⟩ := Tr.part t l
    refine ⟨t'.set x (t.get x), fun n => ?_⟩
    rw [Tr.get_set]
    by_cases e : n = x
    · simp [e]
    · rw [if_neg e, h n]; simp [e]

/-! ### The frame rule -/
section frame
variable {P : Program} {κ κ' : Kap} {g g' h : Nat → Option O} {H H' : Array Obj} {lo hi : Nat}

theorem Inv.sub (i : Inv P κ h H) (hg : ∀ n o, g n = some o → h n = some o) : Inv P κ g H := by
  have sm : ∀ n, (g n).isSome → (h n).isSome := fun n hn => by
    obtain ⟨o, ho⟩ := Option.isSome_iff_exists.1 hn
    rw [hg n o ho]; rfl
  exact ⟨fun n o ho => i.obj n o (hg n o ho), fun n m b h1 h2 => i.inj n m b (sm n h1) (sm m h2), i.imm, fun n o b j ho => i.sep n o b j (hg n o ho)⟩

theorem Fr.trans' {κ₁ κ₂ κ₃ : Kap} {h₁ h₂ h₃ : Nat → Option O} {H₁ H₂ H₃ : Array Obj} (x : Fr κ₁ h₁ H₁ κ₂ h₂ H₂ lo hi) (y : Fr κ₂ h₂ H₂ κ₃ h₃ H₃ lo hi) : Fr κ₁ h₁ H₁ κ₃ h₃ H₃ lo hi := by
  have own : ∀ d, Owns κ₂ h₂ d → H₁.size ≤ d ∨ Owns κ₁ h₁ d := by
    rintro d ⟨n, hn, hr⟩
    cases hk : κ₁.ρ n with
    | none => exact x.new n d hk hr
    | some d' =>
      obtain ⟨e1, _⟩ := x.ext.rho _ _ hk
      rw [e1] at hr; cases hr
      rcases x.dom n hn with h | h
      · exact .inr ⟨n, h, hk⟩
      · rw [h] at hk; cases hk
  refine ⟨x.ext.trans y.ext, Nat.le_trans x.size y.size, fun d hd hno => ?_, fun n hn => ?_, fun n d h1 h2 => ?_, fun d o hI => ?_, fun n hn => ?_⟩
  · have h2 : ¬ Owns κ₂ h₂ d := fun h => (own d h).elim (fun h' => by omega) hno
    rw [y.keep d (Nat.lt_of_lt_of_le hd x.size) h2, x.keep d hd hno]
  · obtain ⟨e1, e2⟩ := x.rho n hn
    obtain ⟨e3, e4⟩ := y.rho n hn
    exact ⟨e3.trans e1, e4.trans e2⟩
  · cases hk : κ₂.ρ n with
    | some d' =>
      obtain ⟨e1, _⟩ := y.ext.rho _ _ hk
      rw [e1] at h2; cases h2
      exact x.new n d h1 hk
    | none =>
      rcases y.new n d hk h2 with h | h
      · exact .inl (Nat.le_trans x.size h)
      · exact own d h
  · rcases y.imm d o hI with h | h | h
    · exact x.imm d o h
    · exact .inr (.inl (Nat.le_trans x.size h))
    · exact .inr (own d h)
  · rcases y.dom n hn with h | h
    · exact x.dom n h
    · cases hk : κ₁.ρ n with
      | none => exact .inr rfl
      | some d' => rw [(x.ext.rho _ _ hk).1] at h; cases h

theorem Fr.widen {lo' hi' : Nat} (f : Fr κ h H κ' g H' lo hi) (h1 : lo' ≤ lo) (h2 : hi ≤ hi') : Fr κ h H κ' g H' lo' hi' :=
  ⟨f.ext, f.size, f.keep, fun n hn => f.rho n (by omega), f.new, f.imm, f.dom⟩

theorem FrW.trans' {κ₁ κ₂ κ₃ : Kap} {h₁ h₂ h₃ : Nat → Option O} {w₁ w₂ w₃ : World} (x : FrW κ₁ h₁ w₁ κ₂ h₂ w₂ lo hi) (y : FrW κ₂ h₂ w₂ κ₃ h₃ w₃ lo hi) : FrW κ₁ h₁ w₁ κ₃ h₃ w₃ lo hi := ⟨x.toFr.trans' y.toFr, x.kp.trans y.kp⟩

theorem Inv.frame (tc : Nat → Bool) (ih : Inv P κ h H) (hg : ∀ n o, g n = some o → h n = some o) (i' : Inv P κ' g' H') (f : Fr κ g H κ' g' H' lo hi) (un : ∀ n, tc n = false → g' n = g n) :
    Inv P κ' (fun n => bif tc n then g' n else h n) H' ∧ Fr κ h H κ' (fun n => bif tc n then g' n else h n) H' lo hi := by
  have sm : ∀ n, (g n).isSome → (h n).isSome := fun n hn => by
    obtain ⟨o, ho⟩ := Option.isSome_iff_exists.1 hn
    rw [hg n o ho]; rfl
  have ownS : ∀ b, Owns κ g b → Owns κ h b := fun b ⟨n, hn, hr⟩ => ⟨n, sm n hn, hr⟩
  -- what is there behind: of g', or the frame's
  have cs : ∀ n o, (bif tc n then g' n else h n) = some o → g' n = some o ∨ (tc n = false ∧ g n = none ∧ h n = some o) := fun n o ho => by
    cases ht : tc n with
    | true => rw [ht] at ho; exact .inl ho
    | false =>
      rw [ht] at ho
      simp only [cond_false] at ho
      cases hgn : g n with
      | none => exact .inr ⟨rfl, rfl, ho⟩
      | some o' =>
        have := hg n o' hgn
        rw [this] at ho; cases ho
        exact .inl (by rw [un n ht, hgn])
  -- a block of the frame's
  have fr : ∀ n o, g n = none → h n = some o → ∃ b, κ.ρ n = some b ∧ κ'.ρ n = some b ∧ ¬ Owns κ g b ∧ b < H.size ∧ OB P κ H n b o := fun n o hgn hn => by
    obtain ⟨b, hr, hob⟩ := ih.obj n o hn
    refine ⟨b, hr, (f.ext.rho _ _ hr).1, ?_, hob.lt, hob⟩
    rintro ⟨m, hm, hrm⟩
    have := ih.inj m n b (sm m hm) (by simp [hn]) hrm hr
    subst this
    rw [hgn] at hm; cases hm
  have apart : ∀ n m b, (g' n).isSome → κ'.ρ n = some b → g m = none → (h m).isSome → κ'.ρ m = some b → False := fun n m b h1 h2 h3 h4 h5 => by
    obtain ⟨o, ho⟩ := Option.isSome_iff_exists.1 h4
    obtain ⟨b', r1, r2, r3, r4, r5⟩ := fr m o h3 ho
    rw [r2] at h5; cases h5
    cases hk : κ.ρ n with
    | some c =>
      have := (f.ext.rho _ _ hk).1
      rw [this] at h2; cases h2
      rcases f.dom n h1 with h | h
      · exact r3 ⟨n, h, hk⟩
      · rw [h] at hk; cases hk
    | none =>
      rcases f.new n _ hk h2 with h | h
      · omega
      · exact r3 h
  refine ⟨⟨fun n o ho => ?_, fun n m b h1 h2 h3 h4 => ?_, fun b j hI => i'.imm b j hI, fun n o b j ho hr hI => ?_⟩, ⟨f.ext, f.size, fun b hb hno => f.keep b hb (fun h => hno (ownS b h)), f.rho, fun n b h1 h2 => (f.new n b h1 h2).imp id (ownS b),
    fun b j hI => (f.imm b j hI).imp id (fun h => h.imp id (ownS b)), fun n hn => ?_⟩⟩
  · rcases cs n o ho with h1 | ⟨_, h2, h3⟩
    · exact i'.obj n o h1
    · obtain ⟨b, r1, r2, r3, r4, r5⟩ := fr n o h2 h3
      exact ⟨b, r2, r5.mono r1 f.ext (f.keep b r4 r3)⟩
  · obtain ⟨o1, e1⟩ := Option.isSome_iff_exists.1 h1
    obtain ⟨o2, e2⟩ := Option.isSome_iff_exists.1 h2
    rcases cs n o1 e1 with a1 | ⟨_, a2, a3⟩ <;> rcases cs m o2 e2 with b1 | ⟨_, b2, b3⟩
    · exact i'.inj n m b (by simp [a1]) (by simp [b1]) h3 h4
    · exact (apart n m b (by simp [a1]) h3 b2 (by simp [b3]) h4).elim
    · exact (apart m n b (by simp [b1]) h4 a2 (by simp [a3]) h3).elim
    · obtain ⟨c1, r1, r2, _⟩ := fr n o1 a2 a3
      obtain ⟨c2, s1, s2, _⟩ := fr m o2 b2 b3
      rw [r2] at h3; cases h3
      rw [s2] at h4; cases h4
      exact ih.inj n m _ (by simp [a3]) (by simp [b3]) r1 s1
  · rcases cs n o ho with h1 | ⟨_, h2, h3⟩
    · exact i'.sep n o b j h1 hr hI
    · obtain ⟨c, r1, r2, r3, r4, r5⟩ := fr n o h2 h3
      rw [r2] at hr; cases hr
      rcases f.imm _ j hI with h | h | h
      · have := ih.sep n o _ j h3 r1 h
        rw [(f.ext.rho _ _ r1).2]; exact this
      · omega
      · exact (r3 h).elim
  · obtain ⟨o, ho⟩ := Option.isSome_iff_exists.1 hn
    rcases cs n o ho with h1 | ⟨_, h2, h3⟩
    · exact (f.dom n (by simp [h1])).imp (sm n) id
    · exact .inl (by simp [h3])
end frame
end Go.Am
