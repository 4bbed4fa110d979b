/-
  THE ABSTRACT MACHINE, PART 4: the trie; what becomes of the relation where memory is made, written, let go.
-/
import Derived.Test.YtiicpeidjhbhiaaGreatAm3
namespace Go.Am
open Go

theorem cond_beq {α : Type} (n m : Nat) (x y : α) : (bif Nat.beq n m then x else y) = if n = m then x else y := by
  by_cases h : n = m
  · subst h; simp [Nat.beq_refl]
  · have : Nat.beq n m = false := by
      cases hb : Nat.beq n m with
      | false => rfl
      | true => exact absurd (Nat.eq_of_beq_eq_true hb) h
    simp [this, h]

theorem Tr.get_left {α : Type} (t : Tr α) (n : Nat) : t.left.get n = t.get (2 * n + 1) := by
  cases t with
  | lf => rfl
  | nd l v r =>
    simp only [Tr.left, Tr.get, cond_beq]
    rw [if_neg (by omega), if_pos (by omega)]
    congr 1; omega

theorem Tr.get_right {α : Type} (t : Tr α) (n : Nat) : t.right.get n = t.get (2 * n + 2) := by
  cases t with
  | lf => rfl
  | nd l v r =>
    simp only [Tr.right, Tr.get, cond_beq]
    rw [if_neg (by omega), if_neg (by omega)]
    congr 1; omega

theorem Tr.get_top {α : Type} (t : Tr α) : t.top = t.get 0 := by
  cases t <;> simp [Tr.top, Tr.get]

theorem Tr.get_nd {α : Type} (l r : Tr α) (v : Option α) (m : Nat) : (Tr.nd l v r).get m = if m = 0 then v else if m % 2 = 1 then l.get (m / 2) else r.get (m / 2 - 1) := by
  simp only [Tr.get, cond_beq]

theorem Tr.get_setF {α : Type} (o : Option α) : ∀ (d : Nat) (t : Tr α) (n m : Nat), n < d → (Tr.setF o d t n).get m = if m = n then o else t.get m := by
  intro d
  induction d with
  | zero => intro t n m h; omega
  | succ d ih =>
    intro t n m h
    simp only [Tr.setF, cond_beq]
    by_cases h0 : n = 0
    · subst h0
      rw [if_pos rfl, Tr.get_nd]
      by_cases m0 : m = 0
      · simp [m0]
      · rw [if_neg m0, if_neg m0]
        by_cases m1 : m % 2 = 1
        · rw [if_pos m1, Tr.get_left]; congr 1; omega
        · rw [if_neg m1, Tr.get_right]; congr 1; omega
    · rw [if_neg h0]
      by_cases n1 : n % 2 = 1
      · rw [if_pos n1, Tr.get_nd]
        by_cases m0 : m = 0
        · subst m0; rw [if_pos rfl, if_neg (by omega), Tr.get_top]
        · rw [if_neg m0]
          by_cases m1 : m % 2 = 1
          · rw [if_pos m1, ih _ _ _ (by omega), Tr.get_left]
            by_cases e : m = n
            · rw [if_pos (by omega), if_pos e]
            · rw [if_neg (by omega), if_neg e]; congr 1; omega
          · rw [if_neg m1, if_neg (by omega), Tr.get_right]; congr 1; omega
      · rw [if_neg n1, Tr.get_nd]
        by_cases m0 : m = 0
        · subst m0; rw [if_pos rfl, if_neg (by omega), Tr.get_top]
        · rw [if_neg m0]
          by_cases m1 : m % 2 = 1
          · rw [if_pos m1, if_neg (by omega), Tr.get_left]; congr 1; omega
          · rw [if_neg m1, ih _ _ _ (by omega), Tr.get_right]
            by_cases e : m = n
            · rw [if_pos (by omega), if_pos e]
            · rw [if_neg (by omega), if_neg e]; congr 1; omega

theorem Tr.get_set {α : Type} (t : Tr α) (n : Nat) (o : Option α) (m : Nat) : (t.set n o).get m = if m = n then o else t.get m :=
  Tr.get_setF o (n + 1) t n m (by omega)

/-- A heap with one name turned. -/
def upd (h : Nat → Option O) (n : Nat) (o : Option O) : Nat → Option O := fun m => if m = n then o else h m

theorem get_set_upd (t : Tr O) (n : Nat) (o : Option O) : (t.set n o).get = upd t.get n o := funext fun m => Tr.get_set t n o m
theorem upd_same (h : Nat → Option O) (n : Nat) (o : Option O) : upd h n o n = o := by simp [upd]
theorem upd_other (h : Nat → Option O) {n m : Nat} (o : Option O) (e : m ≠ n) : upd h n o m = h m := by simp [upd, e]

/-! ### Memory that is made -/
theorem push_old (H : Array Obj) (o : Obj) {b : Nat} (h : b < H.size) : (H.push o)[b]? = H[b]? := by
  rw [Array.getElem?_push, if_neg (by omega)]
theorem push_new (H : Array Obj) (o : Obj) : (H.push o)[H.size]? = some o := by simp
theorem hc_lt {H : Array Obj} {b o : Nat} {v : Value} (h : hc H b o = some v) : b < H.size := by
  unfold hc at h
  cases hb : H[b]? with
  | none => rw [hb] at h; cases h
  | some x => exact (Array.getElem?_eq_some_iff.1 hb).1
theorem hz_lt {H : Array Obj} {b m : Nat} (h : hz H b = some m) : b < H.size := by
  unfold hz at h
  cases hb : H[b]? with
  | none => rw [hb] at h; cases h
  | some x => exact (Array.getElem?_eq_some_iff.1 hb).1
theorem hc_block {H H' : Array Obj} {b : Nat} (h : H'[b]? = H[b]?) (o : Nat) : hc H' b o = hc H b o := by unfold hc; rw [h]
theorem hz_block {H H' : Array Obj} {b : Nat} (h : H'[b]? = H[b]?) : hz H' b = hz H b := by unfold hz; rw [h]

theorem OB.lt {P : Program} {κ : Kap} {H : Array Obj} {n b : Nat} {o : O} (h : OB P κ H n b o) : b < H.size := by
  have key : ∀ {x : Obj}, H[b]? = some x → b < H.size := fun h => (Array.getElem?_eq_some_iff.1 h).1
  cases o with
  | blk cs => obtain ⟨_, _, _, h, _⟩ := h; exact key h
  | mp es clk => obtain ⟨_, h, _⟩ := h; exact key h
  | buf => obtain ⟨_, _, h, _⟩ := h; exact key h
  | sit s pos => obtain ⟨_, _, h⟩ := h; exact key h
  | mit m s e l => obtain ⟨_, _, h⟩ := h; exact key h
  | lop f env ps asg body s p => obtain ⟨_, _, _, _, _, _, _, h⟩ := h; exact key h
  | dfr => exact key h

theorem OB.mono {P : Program} {κ κ' : Kap} {H H' : Array Obj} {n b : Nat} {o : O} (h : OB P κ H n b o) (hr : κ.ρ n = some b) (x : Ext κ H κ' H') (hb : H'[b]? = H[b]?) : OB P κ' H' n b o := by
  cases o with
  | blk cs => obtain ⟨arr, e, vs, h1, h2, h3⟩ := h; exact ⟨arr, e, vs, hb.trans h1, h2.mono x, h3⟩
  | mp es clk =>
    obtain ⟨ces, h1, h2, h3⟩ := h
    exact ⟨ces, hb.trans h1, h2, fun i e c a1 a2 => let ⟨r1, r2, r3⟩ := h3 i e c a1 a2; ⟨r1.mono x, r2.mono x, r3⟩⟩
  | buf => obtain ⟨arr, e, h1, h2⟩ := h; exact ⟨arr, e, hb.trans h1, by rw [(x.rho _ _ hr).2]; exact h2⟩
  | sit s pos => obtain ⟨t, h1, h2⟩ := h; exact ⟨t, h1, hb.trans h2⟩
  | mit m s e l =>
    obtain ⟨m', h1, h2⟩ := h
    refine ⟨m', ?_, hb.trans h2⟩
    cases m <;> cases m' <;> simp_all
    exact (x.rho _ _ h1).1
  | lop f env ps asg body s p => obtain ⟨tmps, dfr, fn, fn0, h1, h2, h3, h4⟩ := h; exact ⟨tmps, dfr, fn, fn0, h1, h2, h3.mono x, hb.trans h4⟩
  | dfr => exact hb.trans h

theorem Inv.lt {P : Program} {κ : Kap} {h : Nat → Option O} {H : Array Obj} (i : Inv P κ h H) {b : Nat} (ho : Owns κ h b) : b < H.size := by
  obtain ⟨n, hn, hr⟩ := ho
  obtain ⟨o, ho⟩ := Option.isSome_iff_exists.1 hn
  obtain ⟨b', hr', hob⟩ := i.obj n o ho
  rw [hr] at hr'; cases hr'
  exact hob.lt

/-- A new block: a name for it, the first k cells of it immutable. -/
def Kap.add (κ : Kap) (n b f k : Nat) : Kap :=
  { ρ := fun m => if m = n then some b else κ.ρ m, φ := fun m => if m = n then f else κ.φ m, I := fun c i => κ.I c i ∨ (c = b ∧ i < k) }

def Kap.addI (κ : Kap) (b k : Nat) : Kap := { κ with I := fun c i => κ.I c i ∨ (c = b ∧ i < k) }

section push
variable {P : Program} {κ : Kap} {h : Nat → Option O} {H : Array Obj}

theorem ext_push (i : Inv P κ h H) (x : Obj) {κ' : Kap} (hr : ∀ n b, κ.ρ n = some b → κ'.ρ n = some b ∧ κ'.φ n = κ.φ n) (hI : ∀ b o, κ.I b o → κ'.I b o) : Ext κ H κ' (H.push x) :=
  ⟨hr, hI, fun b o hb => (by
    obtain ⟨v, hv⟩ := i.imm b o hb
    exact hc_block (push_old H x (hc_lt hv)) o), fun b m hm => (by rw [hz_block (push_old H x (hz_lt hm))]; exact hm)⟩

theorem ext_add (i : Inv P κ h H) (x : Obj) (n f k : Nat) (hn : κ.ρ n = none) : Ext κ H (κ.add n H.size f k) (H.push x) :=
  ext_push i x (fun m b hm => by
    have : m ≠ n := by rintro rfl; rw [hn] at hm; cases hm
    simp [Kap.add, this, hm]) (fun _ _ h => .inl h)

theorem ext_addI (i : Inv P κ h H) (x : Obj) (k : Nat) : Ext κ H (κ.addI H.size k) (H.push x) := ext_push i x (fun _ _ hm => ⟨hm, rfl⟩) (fun _ _ h => .inl h)

/-- A new object with a name. -/
theorem inv_add (i : Inv P κ h H) (x : Obj) (n f k : Nat) (o : O) (hn : κ.ρ n = none)
    (ho : OB P (κ.add n H.size f k) (H.push x) n H.size o) (hk : ∀ j, j < k → ∃ v, hc (H.push x) H.size j = some v) (hb : 0 < k → o = .buf ∧ k ≤ f) :
    Inv P (κ.add n H.size f k) (upd h n (some o)) (H.push x) ∧ Fr κ h H (κ.add n H.size f k) (upd h n (some o)) (H.push x) n (n + 1) := by
  have e := ext_add i x n f k hn
  have hrn : (κ.add n H.size f k).ρ n = some H.size := by simp [Kap.add]
  have hrm : ∀ m, m ≠ n → (κ.add n H.size f k).ρ m = κ.ρ m := fun m hm => by simp [Kap.add, hm]
  have hpm : ∀ m, m ≠ n → (κ.add n H.size f k).φ m = κ.φ m := fun m hm => by simp [Kap.add, hm]
  have hlt : ∀ m b, (h m).isSome → κ.ρ m = some b → b < H.size := fun m b h1 h2 => i.lt ⟨m, h1, h2⟩
  refine ⟨⟨fun m o' hm => ?_, fun m m' b h1 h2 h3 h4 => ?_, fun b j hI => ?_, fun m o' b j hm hr hI => ?_⟩, ⟨e, by simp, fun b hb' _ => push_old H x hb', fun m hm => ?_, fun m b h1 h2 => ?_, fun b j hI => ?_, fun m hm => ?_⟩⟩
  · by_cases hmn : m = n
    · subst hmn; rw [upd_same] at hm; cases hm; exact ⟨_, hrn, ho⟩
    · rw [upd_other _ _ hmn] at hm
      obtain ⟨b, hr, hob⟩ := i.obj m o' hm
      exact ⟨b, by rw [hrm m hmn]; exact hr, hob.mono hr e (push_old H x hob.lt)⟩
  · by_cases h1' : m = n <;> by_cases h2' : m' = n
    · rw [h1', h2']
    · subst h1'; rw [upd_other _ _ h2'] at h2; rw [hrn] at h3; rw [hrm m' h2'] at h4; cases h3; have := hlt _ _ h2 h4; omega
    · subst h2'; rw [upd_other _ _ h1'] at h1; rw [hrn] at h4; rw [hrm m h1'] at h3; cases h4; have := hlt _ _ h1 h3; omega
    · rw [upd_other _ _ h1'] at h1; rw [upd_other _ _ h2'] at h2; rw [hrm m h1'] at h3; rw [hrm m' h2'] at h4; exact i.inj m m' b h1 h2 h3 h4
  · rcases hI with hI | ⟨rfl, hj⟩
    · obtain ⟨v, hv⟩ := i.imm b j hI
      exact ⟨v, by rw [hc_block (push_old H x (hc_lt hv))]; exact hv⟩
    · exact hk j hj
  · by_cases hmn : m = n
    · subst hmn
      rw [upd_same] at hm; cases hm
      rw [hrn] at hr; cases hr
      rcases hI with hI | ⟨_, hj⟩
      · obtain ⟨v, hv⟩ := i.imm _ _ hI; have := hc_lt hv; omega
      · obtain ⟨h1, h2⟩ := hb (by omega)
        exact ⟨h1, by simp [Kap.add]; omega⟩
    · rw [upd_other _ _ hmn] at hm
      rw [hrm m hmn] at hr
      rw [hpm m hmn]
      rcases hI with hI | ⟨rfl, _⟩
      · exact i.sep m o' b j hm hr hI
      · have := hlt m _ (by simp [hm]) hr; omega
  · have : m ≠ n := by omega
    exact ⟨hrm m this, hpm m this⟩
  · by_cases hmn : m = n
    · subst hmn; rw [hrn] at h2; cases h2; exact .inl (Nat.le_refl _)
    · rw [hrm m hmn, h1] at h2; cases h2
  · rcases hI with hI | ⟨rfl, _⟩
    · exact .inl hI
    · exact .inr (.inl (Nat.le_refl _))
  · by_cases hmn : m = n
    · subst hmn; exact .inr hn
    · rw [upd_other _ _ hmn] at hm; exact .inl hm

/-- New immutable cells, with no name. -/
theorem inv_addI (i : Inv P κ h H) (x : Obj) (n k : Nat) (hk : ∀ j, j < k → ∃ v, hc (H.push x) H.size j = some v) :
    Inv P (κ.addI H.size k) h (H.push x) ∧ Fr κ h H (κ.addI H.size k) h (H.push x) n n := by
  have e := ext_addI i x k
  refine ⟨⟨fun m o' hm => ?_, fun m m' b h1 h2 h3 h4 => i.inj m m' b h1 h2 h3 h4, fun b j hI => ?_, fun m o' b j hm hr hI => ?_⟩, ⟨e, by simp, fun b hb' _ => push_old H x hb', fun m hm => ⟨rfl, rfl⟩, fun m b h1 h2 => ?_, fun b j hI => ?_, fun m hm => .inl hm⟩⟩
  · obtain ⟨b, hr, hob⟩ := i.obj m o' hm
    exact ⟨b, hr, hob.mono hr e (push_old H x hob.lt)⟩
  · rcases hI with hI | ⟨rfl, hj⟩
    · obtain ⟨v, hv⟩ := i.imm b j hI
      exact ⟨v, by rw [hc_block (push_old H x (hc_lt hv))]; exact hv⟩
    · exact hk j hj
  · rcases hI with hI | ⟨rfl, _⟩
    · exact i.sep m o' b j hm hr hI
    · have := i.lt ⟨m, by simp [hm], hr⟩; omega
  · have h2' : κ.ρ m = some b := h2
    rw [h1] at h2'; cases h2'
  · rcases hI with hI | ⟨rfl, _⟩
    · exact .inl hI
    · exact .inr (.inl (Nat.le_refl _))

/-- An object of ours is turned in its block. -/
theorem inv_put (i : Inv P κ h H) (n b : Nat) (o o' : O) (H' : Array Obj) (hn : h n = some o) (hr : κ.ρ n = some b) (hnb : o ≠ .buf)
    (hs : H'.size = H.size) (hne : ∀ c, c ≠ b → H'[c]? = H[c]?) (hzb : ∀ m, hz H b = some m → hz H' b = some m)
    (ho : Ext κ H κ H' → OB P κ H' n b o') (lo : Nat) :
    Inv P κ (upd h n (some o')) H' ∧ Fr κ h H κ (upd h n (some o')) H' lo lo := by
  have noI : ∀ j, ¬ κ.I b j := fun j hI => hnb (i.sep n o b j hn hr hI).1
  have e : Ext κ H κ H' := ⟨fun _ _ h => ⟨h, rfl⟩, fun _ _ h => h, fun c j hI => by
    by_cases hc' : c = b
    · subst hc'; exact absurd hI (noI j)
    · exact hc_block (hne c hc') j, fun c m hm => by
    by_cases hc' : c = b
    · subst hc'; exact hzb m hm
    · rw [hz_block (hne c hc')]; exact hm⟩
  have own : ∀ m c, (h m).isSome → κ.ρ m = some c → m ≠ n → c ≠ b := fun m c h1 h2 h3 hcb => by
    subst hcb; exact h3 (i.inj m n c h1 (by simp [hn]) h2 hr)
  refine ⟨⟨fun m x hm => ?_, fun m m' c h1 h2 h3 h4 => ?_, fun c j hI => ?_, fun m x c j hm hrm hI => ?_⟩, ⟨e, by omega, fun c hc' hno => ?_, fun m hm => ⟨rfl, rfl⟩, fun m c h1 h2 => by (rw [h1] at h2; cases h2), fun c j hI => .inl hI, fun m hm => ?_⟩⟩
  · by_cases hmn : m = n
    · subst hmn; rw [upd_same] at hm; cases hm; exact ⟨b, hr, ho e⟩
    · rw [upd_other _ _ hmn] at hm
      obtain ⟨c, hrm, hob⟩ := i.obj m x hm
      exact ⟨c, hrm, hob.mono hrm e (hne c (own m c (by simp [hm]) hrm hmn))⟩
  · have back : ∀ q, (upd h n (some o') q).isSome → (h q).isSome := fun q hq => by
      by_cases hqn : q = n
      · subst hqn; simp [hn]
      · rwa [upd_other _ _ hqn] at hq
    exact i.inj m m' c (back m h1) (back m' h2) h3 h4
  · obtain ⟨v, hv⟩ := i.imm c j hI
    exact ⟨v, by rw [e.cell c j hI]; exact hv⟩
  · by_cases hmn : m = n
    · subst hmn; rw [hr] at hrm; cases hrm; exact absurd hI (noI j)
    · rw [upd_other _ _ hmn] at hm; exact i.sep m x c j hm hrm hI
  · exact hne c (fun hcb => hno ⟨n, by simp [hn], by rw [hcb]; exact hr⟩)
  · by_cases hmn : m = n
    · subst hmn; exact .inl (by simp [hn])
    · rw [upd_other _ _ hmn] at hm; exact .inl hm

/-- A name is let go. -/
theorem inv_del (i : Inv P κ h H) (n lo : Nat) : Inv P κ (upd h n none) H ∧ Fr κ h H κ (upd h n none) H lo lo := by
  have back : ∀ q x, upd h n none q = some x → h q = some x := fun q x hq => by
    by_cases hqn : q = n
    · subst hqn; rw [upd_same] at hq; cases hq
    · rwa [upd_other _ _ hqn] at hq
  have back' : ∀ q, (upd h n none q).isSome → (h q).isSome := fun q hq => by
    obtain ⟨x, hx⟩ := Option.isSome_iff_exists.1 hq
    rw [back q x hx]; rfl
  exact ⟨⟨fun m x hm => i.obj m x (back m x hm), fun m m' c h1 h2 h3 h4 => i.inj m m' c (back' m h1) (back' m' h2) h3 h4, i.imm, fun m x c j hm hr hI => i.sep m x c j (back m x hm) hr hI⟩,
    ⟨.refl _ _, Nat.le_refl _, fun _ _ _ => rfl, fun _ _ => ⟨rfl, rfl⟩, fun m c h1 h2 => by (rw [h1] at h2; cases h2), fun _ _ h => .inl h, fun m hm => .inl (back' m hm)⟩⟩

/-- A block of ours is given up: the cells from 'lo' up to 'f' are immutable from now on, what lies behind is the new list's. -/
theorem inv_grow (i : Inv P κ h H) (n n' b lo f : Nat) (o : O) (H' : Array Obj) (hn : h n = some o) (hr : κ.ρ n = some b) (hn' : κ.ρ n' = none)
    (hold : ∀ j, κ.I b j → j < lo ∧ hc H' b j = hc H b j) (hlo : lo ≤ f)
    (hs : H'.size = H.size) (hne : ∀ c, c ≠ b → H'[c]? = H[c]?) (arr : Array Value) (e : TypeId) (hb : H'[b]? = some (.cells arr e (0, 0))) (hf : f ≤ arr.size) (hzb : ∀ m, hz H b = some m → hz H' b = some m) :
    let κ' : Kap := { ρ := fun m => if m = n' then some b else κ.ρ m, φ := fun m => if m = n' then f else κ.φ m, I := fun c j => κ.I c j ∨ (c = b ∧ lo ≤ j ∧ j < f) }
    Inv P κ' (upd (upd h n none) n' (some .buf)) H' ∧ Fr κ h H κ' (upd (upd h n none) n' (some .buf)) H' n' (n' + 1) := by
  intro κ'
  have hnn : n ≠ n' := by rintro rfl; rw [hr] at hn'; cases hn'
  have hrm : ∀ m, m ≠ n' → κ'.ρ m = κ.ρ m := fun m hm => by simp [κ', hm]
  have hpm : ∀ m, m ≠ n' → κ'.φ m = κ.φ m := fun m hm => by simp [κ', hm]
  have hrn : κ'.ρ n' = some b := by simp [κ']
  have hpn : κ'.φ n' = f := by simp [κ']
  have x : Ext κ H κ' H' := ⟨fun m c hm => by
      have : m ≠ n' := by rintro rfl; rw [hn'] at hm; cases hm
      rw [hrm m this, hpm m this]; exact ⟨hm, rfl⟩, fun _ _ h => .inl h, fun c j hI => by
      by_cases hcb : c = b
      · subst hcb; exact (hold j hI).2
      · exact hc_block (hne c hcb) j, fun c m hm => by
      by_cases hcb : c = b
      · subst hcb; exact hzb m hm
      · rw [hz_block (hne c hcb)]; exact hm⟩
  have at' : ∀ m y, m ≠ n' → upd (upd h n none) n' (some .buf) m = some y → h m = some y ∧ m ≠ n := fun m y h1 h2 => by
    rw [upd_other _ _ h1] at h2
    by_cases hmn : m = n
    · subst hmn; rw [upd_same] at h2; cases h2
    · rw [upd_other _ _ hmn] at h2; exact ⟨h2, hmn⟩
  have own : ∀ m c, (h m).isSome → κ.ρ m = some c → m ≠ n → c ≠ b := fun m c h1 h2 h3 hcb => by
    subst hcb; exact h3 (i.inj m n c h1 (by simp [hn]) h2 hr)
  refine ⟨⟨fun m y hm => ?_, fun m m' c h1 h2 h3 h4 => ?_, fun c j hI => ?_, fun m y c j hm hrm' hI => ?_⟩, ⟨x, by omega, fun c hc' hno => ?_, fun m hm => ?_, fun m c h1 h2 => ?_, fun c j hI => ?_, fun m hm => ?_⟩⟩
  · by_cases hmn : m = n'
    · subst hmn; rw [upd_same] at hm; cases hm; exact ⟨b, hrn, arr, e, hb, by rw [hpn]; exact hf⟩
    · obtain ⟨h1, h2⟩ := at' m y hmn hm
      obtain ⟨c, hrc, hob⟩ := i.obj m y h1
      exact ⟨c, by rw [hrm m hmn]; exact hrc, hob.mono hrc x (hne c (own m c (by simp [h1]) hrc h2))⟩
  · have sm : ∀ q, q ≠ n' → (upd (upd h n none) n' (some .buf) q).isSome → (h q).isSome ∧ q ≠ n := fun q hq h => by
      obtain ⟨y, hy⟩ := Option.isSome_iff_exists.1 h
      obtain ⟨a, a'⟩ := at' q y hq hy
      exact ⟨by rw [a]; rfl, a'⟩
    by_cases h1' : m = n' <;> by_cases h2' : m' = n'
    · rw [h1', h2']
    · subst h1'; rw [hrn] at h3; cases h3; rw [hrm m' h2'] at h4; obtain ⟨a, a'⟩ := sm m' h2' h2; exact absurd rfl (own m' _ a h4 a')
    · subst h2'; rw [hrn] at h4; cases h4; rw [hrm m h1'] at h3; obtain ⟨a, a'⟩ := sm m h1' h1; exact absurd rfl (own m _ a h3 a')
    · rw [hrm m h1'] at h3; rw [hrm m' h2'] at h4; exact i.inj m m' c (sm m h1' h1).1 (sm m' h2' h2).1 h3 h4
  · rcases hI with hI | ⟨rfl, _, hj⟩
    · obtain ⟨v, hv⟩ := i.imm c j hI
      exact ⟨v, by rw [x.cell c j hI]; exact hv⟩
    · have : j < arr.size := by omega
      exact ⟨arr[j], by simp [hc, hb, this]⟩
  · by_cases hmn : m = n'
    · subst hmn
      rw [upd_same] at hm; cases hm
      rw [hrn] at hrm'; cases hrm'
      refine ⟨rfl, ?_⟩
      rw [hpn]
      rcases hI with hI | ⟨_, _, hj⟩
      · have := (hold j hI).1; omega
      · exact hj
    · obtain ⟨h1, h2⟩ := at' m y hmn hm
      rw [hrm m hmn] at hrm'
      rw [hpm m hmn]
      rcases hI with hI | ⟨rfl, _⟩
      · exact i.sep m y c j h1 hrm' hI
      · exact absurd rfl (own m _ (by simp [h1]) hrm' h2)
  · exact hne c (fun hcb => hno ⟨n, by simp [hn], by rw [hcb]; exact hr⟩)
  · have : m ≠ n' := by omega
    exact ⟨hrm m this, hpm m this⟩
  · by_cases hmn : m = n'
    · subst hmn; rw [hrn] at h2; cases h2; exact .inr ⟨n, by simp [hn], hr⟩
    · rw [hrm m hmn, h1] at h2; cases h2
  · rcases hI with hI | ⟨rfl, _⟩
    · exact .inl hI
    · exact .inr (.inr ⟨n, by simp [hn], hr⟩)
  · by_cases hmn : m = n'
    · subst hmn; exact .inr hn'
    · obtain ⟨y, hy⟩ := Option.isSome_iff_exists.1 hm
      exact .inl (by rw [(at' m y hmn hy).1]; rfl)
end push
end Go.Am
