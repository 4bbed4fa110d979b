/-
  THE ABSTRACT MACHINE, PART 3: how its values and heap lie in the model's memory.
-/
import Derived.Test.YtiicpeidjhbhiaaGreatAm2
import Derived.RangeFuncLeaves
import Derived.OrdersIn
import Derived.LoopNIn
import Derived.Deep.MidRow
namespace Go.Am
open Go

/-- A cell of the heap. -/
def hc (H : Array Obj) (b o : Nat) : Option Value :=
  match H[b]? with
  | some (.cells c _ _) => c[o]?
  | _ => none

/-- How many cells a block has. -/
def hz (H : Array Obj) (b : Nat) : Option Nat :=
  match H[b]? with
  | some (.cells c _ _) => some c.size
  | _ => none

theorem cell_hc (w : World) (b o : Nat) : w.cell? ⟨b, o, none⟩ = hc w.heap b o := by
  unfold World.cell? hc
  cases h : w.heap[b]? with
  | none => rfl
  | some x => cases x <;> rfl

theorem shape_hz (w : World) (b : Nat) : (w.shape? b).map (·.2) = hz w.heap b := by
  unfold World.shape? hz
  cases h : w.heap[b]? with
  | none => rfl
  | some x => cases x <;> rfl

/-- Where names lie, where lists' tails begin, which cells stay as they are. -/
structure Kap where
  ρ : Nat → Option Nat
  φ : Nat → Nat
  I : Nat → Nat → Prop

/-- What is known of a capacity. -/
def CapOk (κ : Kap) (H : Array Obj) (b o n len sz cap : Nat) : Cp → Prop
  | .ex => cap = len
  | .unk => len ≤ cap
  | .tok t sz' => sz' = sz ∧ κ.ρ t = some b ∧ κ.φ t = o + n ∧ len ≤ cap ∧ ∃ m, hz H b = some m ∧ o + cap * sz ≤ m

/-- An abstract value stands for a value. -/
inductive RV (κ : Kap) (H : Array Obj) : V → Value → Prop
  | bool (b : Bool) : RV κ H (.bool b) (.bool b)
  | int (k : IntKind) (n : Int) : RV κ H (.int k n) (.int k n)
  | str (s : ByteArray) (l : List UInt8) (h : s.data.toList = l) : RV κ H (.str l) (.string s)
  | nilp : RV κ H .nilp (.pointer none)
  | ptr (n off b : Nat) (h : κ.ρ n = some b) : RV κ H (.ptr n off) (.pointer (some ⟨b, off, none⟩))
  | iptr (cs : List V) (off b o : Nat) (vs : List Value) (hl : cs.length = vs.length) (hI : ∀ i, i < vs.length → κ.I b (o + i))
      (hv : ∀ (i : Nat) v, vs[i]? = some v → hc H b (o + i) = some v)
      (he : ∀ (i : Nat) c v, cs[i]? = some c → vs[i]? = some v → RV κ H c v) : RV κ H (.iptr cs off) (.pointer (some ⟨b, o + off, none⟩))
  | snil : RV κ H .snil (.slice none 0 0)
  | sl (cs : List V) (len sz : Nat) (cp : Cp) (b o cap : Nat) (vs : List Value) (hl : cs.length = vs.length) (hs : cs.length = len * sz)
      (hI : ∀ i, i < vs.length → κ.I b (o + i)) (hv : ∀ (i : Nat) v, vs[i]? = some v → hc H b (o + i) = some v)
      (hcap : CapOk κ H b o cs.length len sz cap cp)
      (he : ∀ (i : Nat) c v, cs[i]? = some c → vs[i]? = some v → RV κ H c v) : RV κ H (.sl cs len sz cp) (.slice (some ⟨b, o, none⟩) len cap)
  | ms (n off len sz : Nat) (cap : Option Nat) (b cap' m : Nat) (h : κ.ρ n = some b) (hlen : len ≤ cap') (hcap : ∀ c, cap = some c → cap' = c)
      (hm : hz H b = some m) (hb : off + cap' * sz ≤ m) : RV κ H (.ms n off len sz cap) (.slice (some ⟨b, off, none⟩) len cap')
  | nilm : RV κ H .nilm (.map none)
  | map (n r : Nat) (h : κ.ρ n = some r) : RV κ H (.map n) (.map (some r))
  | fn (f : Nat) (first cap : List V) (vs ws : Array Value) (h1 : first.length = vs.size) (h2 : cap.length = ws.size)
      (e1 : ∀ (i : Nat) c v, first[i]? = some c → vs[i]? = some v → RV κ H c v) (e2 : ∀ (i : Nat) c v, cap[i]? = some c → ws[i]? = some v → RV κ H c v) :
      RV κ H (.fn f first cap) (.func (.func f) vs ws)
  | yld (l b : Nat) (h : κ.ρ l = some b) : RV κ H (.yld l) (.func (.yield b) #[] #[])
  | nilf : RV κ H .nilf .nilFunc
  | agg (cs : List V) (vs : Array Value) (hl : cs.length = vs.size) (he : ∀ (i : Nat) c v, cs[i]? = some c → vs[i]? = some v → RV κ H c v) : RV κ H (.agg cs) (.agg vs)
  | tup (cs : List V) (vs : Array Value) (hl : cs.length = vs.size) (he : ∀ (i : Nat) c v, cs[i]? = some c → vs[i]? = some v → RV κ H c v) : RV κ H (.tup cs) (.tuple vs)
  | it (n b : Nat) (h : κ.ρ n = some b) : RV κ H (.it n) (.pointer (some ⟨b, 0, none⟩))
  | opq (v : Value) (h : v.oneCell' = true) : RV κ H .opq v
  | und (v : Value) : RV κ H .und v

/-- Value by value. -/
def PW (κ : Kap) (H : Array Obj) (cs : List V) (vs : List Value) : Prop :=
  cs.length = vs.length ∧ ∀ (i : Nat) c v, cs[i]? = some c → vs[i]? = some v → RV κ H c v

/-- What stays, from one memory to a later one. -/
structure Ext (κ : Kap) (H : Array Obj) (κ' : Kap) (H' : Array Obj) : Prop where
  rho : ∀ n b, κ.ρ n = some b → κ'.ρ n = some b ∧ κ'.φ n = κ.φ n
  imm : ∀ b o, κ.I b o → κ'.I b o
  cell : ∀ b o, κ.I b o → hc H' b o = hc H b o
  size : ∀ b m, hz H b = some m → hz H' b = some m

theorem Ext.refl (κ : Kap) (H : Array Obj) : Ext κ H κ H := ⟨fun _ _ h => ⟨h, rfl⟩, fun _ _ h => h, fun _ _ _ => rfl, fun _ _ h => h⟩

theorem Ext.trans {κ₁ κ₂ κ₃ : Kap} {H₁ H₂ H₃ : Array Obj} (a : Ext κ₁ H₁ κ₂ H₂) (b : Ext κ₂ H₂ κ₃ H₃) : Ext κ₁ H₁ κ₃ H₃ :=
  ⟨fun n c h => let ⟨h1, h2⟩ := a.rho n c h; let ⟨h3, h4⟩ := b.rho n c h1; ⟨h3, h4.trans h2⟩, fun c o h => b.imm c o (a.imm c o h),
   fun c o h => (b.cell c o (a.imm c o h)).trans (a.cell c o h), fun c m h => b.size c m (a.size c m h)⟩

theorem CapOk.mono {κ κ' : Kap} {H H' : Array Obj} {b o n len sz cap : Nat} {cp : Cp} (x : Ext κ H κ' H') (h : CapOk κ H b o n len sz cap cp) : CapOk κ' H' b o n len sz cap cp := by
  cases cp with
  | ex => exact h
  | unk => exact h
  | tok t sz' =>
    obtain ⟨h0, h1, h2, h3, m, h4, h5⟩ := h
    obtain ⟨h6, h7⟩ := x.rho _ _ h1
    exact ⟨h0, h6, h7.trans h2, h3, m, x.size _ _ h4, h5⟩

theorem RV.mono {κ κ' : Kap} {H H' : Array Obj} {c : V} {v : Value} (x : Ext κ H κ' H') (h : RV κ H c v) : RV κ' H' c v := by
  induction h with
  | bool b => exact .bool b
  | int k n => exact .int k n
  | str s l h => exact .str s l h
  | nilp => exact .nilp
  | ptr n off b h => exact .ptr n off b (x.rho _ _ h).1
  | iptr cs off b o vs hl hI hv he ih =>
    exact .iptr cs off b o vs hl (fun i hi => x.imm _ _ (hI i hi)) (fun i v h => by
      rw [x.cell _ _ (hI i (List.getElem?_eq_some_iff.1 h).1)]; exact hv i v h) ih
  | snil => exact .snil
  | sl cs len sz cp b o cap vs hl hs hI hv hcap he ih =>
    exact .sl cs len sz cp b o cap vs hl hs (fun i hi => x.imm _ _ (hI i hi)) (fun i v h => by
      rw [x.cell _ _ (hI i (List.getElem?_eq_some_iff.1 h).1)]; exact hv i v h) (hcap.mono x) ih
  | ms n off len sz cap b cap' m h hlen hcap hm hb => exact .ms n off len sz cap b cap' m (x.rho _ _ h).1 hlen hcap (x.size _ _ hm) hb
  | nilm => exact .nilm
  | map n r h => exact .map n r (x.rho _ _ h).1
  | fn f first cap vs ws h1 h2 _ _ ih1 ih2 => exact .fn f first cap vs ws h1 h2 ih1 ih2
  | yld l b h => exact .yld l b (x.rho _ _ h).1
  | nilf => exact .nilf
  | agg cs vs hl _ ih => exact .agg cs vs hl ih
  | tup cs vs hl _ ih => exact .tup cs vs hl ih
  | it n b h => exact .it n b (x.rho _ _ h).1
  | opq v h => exact .opq v h
  | und v => exact .und v

theorem PW.mono {κ κ' : Kap} {H H' : Array Obj} {cs : List V} {vs : List Value} (x : Ext κ H κ' H') (h : PW κ H cs vs) : PW κ' H' cs vs :=
  ⟨h.1, fun i c v h1 h2 => (h.2 i c v h1 h2).mono x⟩

section pw
variable {κ : Kap} {H : Array Obj}
theorem PW.nil : PW κ H [] [] := ⟨rfl, fun i c v h => by simp at h⟩
theorem PW.cons {c : V} {v : Value} {cs : List V} {vs : List Value} (h : RV κ H c v) (t : PW κ H cs vs) : PW κ H (c :: cs) (v :: vs) :=
  ⟨by simp [t.1], fun i a b h1 h2 => by
    cases i with
    | zero => simp at h1 h2; subst h1; subst h2; exact h
    | succ i => simp at h1 h2; exact t.2 i a b h1 h2⟩
theorem PW.head {c : V} {v : Value} {cs : List V} {vs : List Value} (h : PW κ H (c :: cs) (v :: vs)) : RV κ H c v := h.2 0 c v rfl rfl
theorem PW.tail {c : V} {v : Value} {cs : List V} {vs : List Value} (h : PW κ H (c :: cs) (v :: vs)) : PW κ H cs vs :=
  ⟨by simpa using h.1, fun i a b h1 h2 => h.2 (i + 1) a b (by simpa using h1) (by simpa using h2)⟩
theorem PW.append {a b : List V} {x y : List Value} (h : PW κ H a x) (k : PW κ H b y) : PW κ H (a ++ b) (x ++ y) := by
  refine ⟨by simp [h.1, k.1], fun i c v h1 h2 => ?_⟩
  by_cases hi : i < a.length
  · rw [List.getElem?_append_left hi] at h1
    rw [List.getElem?_append_left (h.1 ▸ hi)] at h2
    exact h.2 i c v h1 h2
  · rw [List.getElem?_append_right (by omega)] at h1
    rw [List.getElem?_append_right (by have := h.1; omega)] at h2
    rw [← h.1] at h2
    exact k.2 _ c v h1 h2
theorem PW.drop {a : List V} {x : List Value} (h : PW κ H a x) (n : Nat) : PW κ H (a.drop n) (x.drop n) :=
  ⟨by simp [h.1], fun i c v h1 h2 => by rw [List.getElem?_drop] at h1 h2; exact h.2 _ c v h1 h2⟩
theorem PW.take {a : List V} {x : List Value} (h : PW κ H a x) (n : Nat) : PW κ H (a.take n) (x.take n) :=
  ⟨by simp [h.1], fun i c v h1 h2 => by
    rw [List.getElem?_take] at h1 h2
    split at h1
    · rw [if_pos (by assumption)] at h2; exact h.2 _ c v h1 h2
    · cases h1⟩
theorem PW.get {a : List V} {x : List Value} (h : PW κ H a x) {i : Nat} {c : V} (hc : a[i]? = some c) : ∃ v, x[i]? = some v ∧ RV κ H c v := by
  have hi : i < x.length := h.1 ▸ (List.getElem?_eq_some_iff.1 hc).1
  exact ⟨x[i], by simp [hi], h.2 i c _ hc (by simp [hi])⟩
/-- Each has its value. -/
theorem PW.of_forall : ∀ {a : List V} (_ : ∀ c, c ∈ a → ∃ v, RV κ H c v), ∃ x, PW κ H a x
  | [], _ => ⟨[], .nil⟩
  | c :: a, h => by
    obtain ⟨v, hv⟩ := h c (by simp)
    obtain ⟨x, hx⟩ := PW.of_forall (a := a) (fun c' h' => h c' (by simp [h']))
    exact ⟨v :: x, hx.cons hv⟩
theorem PW.map {α : Type} {f : α → V} {g : α → Value} : ∀ {l : List α} (_ : ∀ x, x ∈ l → RV κ H (f x) (g x)), PW κ H (l.map f) (l.map g)
  | [], _ => .nil
  | a :: l, h => .cons (h a (by simp)) (PW.map (fun x hx => h x (by simp [hx])))
theorem RV.agg' {cs : List V} {vs : List Value} (h : PW κ H cs vs) : RV κ H (.agg cs) (.agg vs.toArray) := .agg cs vs.toArray (by simpa using h.1) (fun i c v h1 h2 => h.2 i c v h1 (by simpa using h2))
theorem RV.tup' {cs : List V} {vs : List Value} (h : PW κ H cs vs) : RV κ H (.tup cs) (.tuple vs.toArray) := .tup cs vs.toArray (by simpa using h.1) (fun i c v h1 h2 => h.2 i c v h1 (by simpa using h2))
theorem RV.agg_pw {cs : List V} {vs : Array Value} (h : RV κ H (.agg cs) (.agg vs)) : PW κ H cs vs.toList := by
  cases h with
  | agg _ _ hl he => exact ⟨by simpa using hl, fun i c v h1 h2 => he i c v h1 (by simpa using h2)⟩
theorem RV.tup_pw {cs : List V} {vs : Array Value} (h : RV κ H (.tup cs) (.tuple vs)) : PW κ H cs vs.toList := by
  cases h with
  | tup _ _ hl he => exact ⟨by simpa using hl, fun i c v h1 h2 => he i c v h1 (by simpa using h2)⟩
theorem RV.inv_agg {cs : List V} {v : Value} (h : RV κ H (.agg cs) v) : ∃ vs, v = .agg vs ∧ PW κ H cs vs.toList := by
  cases h with
  | agg _ vs hl he => exact ⟨vs, rfl, RV.agg_pw (.agg _ vs hl he)⟩
theorem RV.inv_tup {cs : List V} {v : Value} (h : RV κ H (.tup cs) v) : ∃ vs, v = .tuple vs ∧ PW κ H cs vs.toList := by
  cases h with
  | tup _ vs hl he => exact ⟨vs, rfl, RV.tup_pw (.tup _ vs hl he)⟩
theorem RV.inv_int {k : IntKind} {n : Int} {v : Value} (h : RV κ H (.int k n) v) : v = .int k n := by cases h; rfl
theorem RV.inv_bool {b : Bool} {v : Value} (h : RV κ H (.bool b) v) : v = .bool b := by cases h; rfl
theorem RV.inv_str {l : List UInt8} {v : Value} (h : RV κ H (.str l) v) : ∃ s : ByteArray, v = .string s ∧ s.data.toList = l := by
  cases h with
  | str s _ h => exact ⟨s, rfl, h⟩
theorem RV.inv_ptr {n off : Nat} {v : Value} (h : RV κ H (.ptr n off) v) : ∃ b, κ.ρ n = some b ∧ v = .pointer (some ⟨b, off, none⟩) := by
  cases h with
  | ptr _ _ b h => exact ⟨b, h, rfl⟩
theorem RV.inv_map {n : Nat} {v : Value} (h : RV κ H (.map n) v) : ∃ b, κ.ρ n = some b ∧ v = .map (some b) := by
  cases h with
  | map _ b h => exact ⟨b, h, rfl⟩
theorem RV.inv_it {n : Nat} {v : Value} (h : RV κ H (.it n) v) : ∃ b, κ.ρ n = some b ∧ v = .pointer (some ⟨b, 0, none⟩) := by
  cases h with
  | it _ b h => exact ⟨b, h, rfl⟩
end pw

/-- Temporaries. -/
def RE (κ : Kap) (H : Array Obj) (env : Env) (tmps : Array Value) : Prop := ∀ n, RV κ H (eget env n) (tmps.getD n undef)

theorem RE.mono {κ κ' : Kap} {H H' : Array Obj} {env : Env} {tmps : Array Value} (x : Ext κ H κ' H') (h : RE κ H env tmps) : RE κ' H' env tmps := fun n => (h n).mono x

/-- A pending jump. -/
def jumpOf : Ex → Option Code
  | .nrm => none
  | .ext id => some (.exit id)
  | .ret => some .ret

def stateOf : Nat → LoopState
  | 0 => .ready
  | 1 => .busy
  | _ => .done

/-- How an object lies in memory. -/
def OB (P : Program) (κ : Kap) (H : Array Obj) (n b : Nat) : O → Prop
  | .blk cs => ∃ arr e vs, H[b]? = some (.cells arr e (0, 0)) ∧ PW κ H cs vs ∧ ∀ (i : Nat) v, vs[i]? = some v → arr[i]? = some v
  | .mp es clk => ∃ ces : Array MapEntry, H[b]? = some (.map ces clk) ∧ es.length = ces.size ∧ ∀ (i : Nat) e c, es[i]? = some e → ces[i]? = some c → RV κ H e.k c.key ∧ RV κ H e.v c.val ∧ e.born = c.born
  | .buf => ∃ arr e, H[b]? = some (.cells arr e (0, 0)) ∧ κ.φ n ≤ arr.size
  | .sit s pos => ∃ t : ByteArray, t.data.toList = s ∧ H[b]? = some (.stringIter t pos)
  | .mit m since seen last => ∃ m' : Option Nat, (match m, m' with | none, none => True | some a, some r => κ.ρ a = some r | _, _ => False) ∧ H[b]? = some (.mapIter m' since seen.toArray last)
  | .lop f env ps asg body s p => ∃ tmps dfr fn fn0, P.funcs[f]? = some fn ∧ tmps.size = fn.ntmps ∧ RE κ H env tmps ∧
      H[b]? = some (.loop { state := stateOf s, pending := jumpOf p, fn := fn0, tmps, params := ps.toArray, assign := asg, body, defers := dfr })
  | .dfr => H[b]? = some (.deferred (some []))

/-- The abstract heap lies in memory. -/
structure Inv (P : Program) (κ : Kap) (h : Nat → Option O) (H : Array Obj) : Prop where
  obj : ∀ n o, h n = some o → ∃ b, κ.ρ n = some b ∧ OB P κ H n b o
  inj : ∀ n m b, (h n).isSome → (h m).isSome → κ.ρ n = some b → κ.ρ m = some b → n = m
  imm : ∀ b o, κ.I b o → ∃ v, hc H b o = some v
  sep : ∀ n o b i, h n = some o → κ.ρ n = some b → κ.I b i → o = .buf ∧ i < κ.φ n

/-- A block that the heap owns. -/
def Owns (κ : Kap) (h : Nat → Option O) (b : Nat) : Prop := ∃ n, (h n).isSome ∧ κ.ρ n = some b

/-- What a step leaves as it was. -/
structure Fr (κ : Kap) (h : Nat → Option O) (H : Array Obj) (κ' : Kap) (h' : Nat → Option O) (H' : Array Obj) (lo hi : Nat) : Prop where
  ext : Ext κ H κ' H'
  size : H.size ≤ H'.size
  keep : ∀ b, b < H.size → ¬ Owns κ h b → H'[b]? = H[b]?
  rho : ∀ n, n < lo ∨ hi ≤ n → κ'.ρ n = κ.ρ n ∧ κ'.φ n = κ.φ n
  new : ∀ n b, κ.ρ n = none → κ'.ρ n = some b → H.size ≤ b ∨ Owns κ h b
  imm : ∀ b o, κ'.I b o → κ.I b o ∨ H.size ≤ b ∨ Owns κ h b
  dom : ∀ n, (h' n).isSome → (h n).isSome ∨ κ.ρ n = none

theorem Fr.refl (κ : Kap) (h : Nat → Option O) (H : Array Obj) (lo hi : Nat) : Fr κ h H κ h H lo hi :=
  ⟨.refl _ _, Nat.le_refl _, fun _ _ _ => rfl, fun _ _ => ⟨rfl, rfl⟩, fun _ _ h1 h2 => (by rw [h1] at h2; cases h2), fun _ _ h => .inl h, fun _ h => .inl h⟩

theorem Fr.trans {κ₁ κ₂ κ₃ : Kap} {h₁ h₂ h₃ : Nat → Option O} {H₁ H₂ H₃ : Array Obj} {a b c : Nat} (hab : a ≤ b) (hbc : b ≤ c)
    (x : Fr κ₁ h₁ H₁ κ₂ h₂ H₂ a b) (y : Fr κ₂ h₂ H₂ κ₃ h₃ H₃ b c) : Fr κ₁ h₁ H₁ κ₃ h₃ H₃ a c := by
  have own : ∀ d, Owns κ₂ h₂ d → H₁.size ≤ d ∨ Owns κ₁ h₁ d := by
    rintro d ⟨n, hn, hr⟩
    cases hk : κ₁.ρ n with
    | none => exact x.new n d hk hr
    | some d' =>
      obtain ⟨e1, _⟩ := x.ext.rho _ _ hk
      rw [e1] at hr; cases hr
      rcases x.dom n hn with h | h
      · exact .inr ⟨n, h, hk⟩
      · rw [h] at hk; cases hk
  refine ⟨x.ext.trans y.ext, Nat.le_trans x.size y.size, fun d hd hno => ?_, fun n hn => ?_, fun n d h1 h2 => ?_, fun d o hI => ?_, fun n hn => ?_⟩
  · have h2 : ¬ Owns κ₂ h₂ d := fun h => (own d h).elim (fun h' => by omega) hno
    rw [y.keep d (Nat.lt_of_lt_of_le hd x.size) h2, x.keep d hd hno]
  · obtain ⟨e1, e2⟩ := x.rho n (by omega)
    obtain ⟨e3, e4⟩ := y.rho n (by omega)
    exact ⟨e3.trans e1, e4.trans e2⟩
  · cases hk : κ₂.ρ n with
    | some d' =>
      obtain ⟨e1, _⟩ := y.ext.rho _ _ hk
      rw [e1] at h2; cases h2
      exact x.new n d h1 hk
    | none =>
      rcases y.new n d hk h2 with h | h
      · exact .inl (Nat.le_trans x.size h)
      · exact own d h
  · rcases y.imm d o hI with h | h | h
    · exact x.imm d o h
    · exact .inr (.inl (Nat.le_trans x.size h))
    · exact .inr (own d h)
  · rcases y.dom n hn with h | h
    · exact x.dom n h
    · cases hk : κ₁.ρ n with
      | none => exact .inr rfl
      | some d' => rw [(x.ext.rho _ _ hk).1] at h; cases h

/-- Names that are still to be given. -/
def Free (κ : Kap) (lo hi : Nat) : Prop := ∀ n, lo ≤ n → n < hi → κ.ρ n = none

theorem Free.later {κ κ' : Kap} {h h' : Nat → Option O} {H H' : Array Obj} {a b c : Nat} (f : Free κ a c) (hab : a ≤ b) (x : Fr κ h H κ' h' H' a b) : Free κ' b c := fun n h1 h2 => by
  rw [(x.rho n (by omega)).1]; exact f n (by omega) h2
theorem Free.left {κ : Kap} {a b c : Nat} (f : Free κ a c) (h : b ≤ c) : Free κ a b := fun n h1 h2 => f n h1 (by omega)

end Go.Am
