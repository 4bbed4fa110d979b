/-
  THE ABSTRACT MACHINE, PART 20: a region that draws its order: whatever order is drawn, it comes to what the plan's order comes to.
-/
import Derived.Test.YtiicpeidjhbhiaaGreatAm19
namespace Go.Am
open Go

structure Tk where
  i : Nat
  o : Oper
  env : Env
  st : St
  v : V
  st' : St
  rd : List Nat
  c : Bool
  run : Bool

def Tk.touch (r : Tk) (n : Nat) : Bool := hasN n r.st'.lg || (Nat.ble r.st.nx n && Nat.blt n r.st'.nx)
theorem Tk.touch_iff (r : Tk) (n : Nat) : r.touch n = true ↔ n ∈ r.st'.lg ∨ (r.st.nx ≤ n ∧ n < r.st'.nx) := by
  unfold Tk.touch
  rw [Bool.or_eq_true, Bool.and_eq_true, hasN_iff]
  constructor
  · rintro (h | ⟨h1, h2⟩)
    · exact .inl h
    · exact .inr ⟨Nat.le_of_ble_eq_true h1, Nat.le_of_ble_eq_true h2⟩
  · rintro (h | ⟨h1, h2⟩)
    · exact .inl h
    · exact .inr ⟨Nat.ble_eq_true_of_le h1, Nat.ble_eq_true_of_le h2⟩
def Tk.hp (n : Nat) (r : Tk) : Option (Option O) := bif r.touch n then some (r.st'.h.get n) else none
def Tk.ev (t : Nat) (r : Tk) : Option V := if r.o.dst = some t then some r.v else none
def Tk.mrec (r : Tk) : Option Rec := bif r.c || !r.rd.isEmpty || !r.st'.lg.isEmpty || Nat.blt r.st.nx r.st'.nx then some ⟨r.i, r.c, r.rd, r.st'.lg, r.st.nx, r.st'.nx⟩ else none

theorem Tk.hp_none {r : Tk} {n : Nat} (h : r.touch n = false) : r.hp n = none := by unfold Tk.hp; rw [h]; rfl
theorem Tk.hp_some {r : Tk} {n : Nat} (h : r.touch n = true) : r.hp n = some (r.st'.h.get n) := by unfold Tk.hp; rw [h]; rfl

section
variable (P : Program) (call : CallF) (nt : Nat) (mu : Bool) (all : List Oper)

structure StepT (r : Tk) : Prop where
  op : all[r.i]? = some r.o
  lg : r.st.lg = []
  want : wantV all r.env r.o.guard = some r.run
  skip : r.run = false → r.v = .tup [] ∧ r.st' = r.st ∧ r.rd = [] ∧ r.c = false
  go : r.run = true → evOp P call mu r.o r.env r.st = some (r.v, r.st', r.rd, r.c)

inductive Chain : Env → St → List Tk → Env → St → Prop
  | nil (env : Env) (st : St) : Chain env st [] env st
  | cons {r : Tk} {env1 e : Env} {st s : St} {T : List Tk} (step : StepT P call mu all r) (hst : r.st = ⟨st.h, st.nx, [], st.df⟩) (hp : eput nt r.env r.o.dst r.v = some env1)
      (t : Chain env1 ⟨r.st'.h, r.st'.nx, r.st'.lg ++ st.lg, r.st'.df⟩ T e s) : Chain r.env st (r :: T) e s
end

section
variable {P : Program} {call : CallF} {nt : Nat} {mu : Bool} {all : List Oper}

theorem StepT.lk (hc : CallOk P call) {r : Tk} (h : StepT P call mu all r) : Lk r.st r.st' ∧ r.st'.df = r.st.df := by
  cases hr : r.run with
  | false => obtain ⟨_, e, _⟩ := h.skip hr; rw [e]; exact ⟨.refl _, rfl⟩
  | true => exact evOp_lk hc (h.go hr)

theorem Chain.facts (hc : CallOk P call) {env e : Env} {st s : St} {T : List Tk} (h : Chain P call nt mu all env st T e s) :
    Lk st s ∧ s.df = st.df ∧ (∀ t, eget e t = lastOf T (fun _ => true) (Tk.ev t) (eget env t)) ∧ (∀ n, s.h.get n = lastOf T (fun _ => true) (Tk.hp n) (st.h.get n)) ∧
    ∀ r ∈ T, st.nx ≤ r.st.nx ∧ r.st.nx ≤ r.st'.nx ∧ r.st'.nx ≤ s.nx ∧ StepT P call mu all r := by
  induction h with
  | nil env st => exact ⟨.refl _, rfl, fun _ => rfl, fun _ => rfl, fun r h => by cases h⟩
  | @cons r env1 e st s T step hst hp t ih =>
    obtain ⟨i1, i2, i3, i4, i5⟩ := ih
    obtain ⟨l1, l2⟩ := step.lk hc
    have k1 : Lk st ⟨r.st'.h, r.st'.nx, r.st'.lg ++ st.lg, r.st'.df⟩ := by
      refine ⟨?_, fun n h1 h2 => ?_, fun n h => by simp [h]⟩
      · have := l1.nx; rw [hst] at this; exact this
      · have := l1.same n (fun h => h1 (by simp [h])) (by rw [hst]; exact h2)
        rw [hst] at this; exact this
    have hnx : st.nx ≤ r.st.nx ∧ r.st.nx ≤ r.st'.nx := ⟨by rw [hst]; exact Nat.le_refl _, l1.nx⟩
    refine ⟨k1.trans i1, ?_, fun u => ?_, fun n => ?_, fun x hx => ?_⟩
    · rw [i2]; dsimp only; rw [l2, hst]
    · rw [i3, lastOf_cons, eget_eput hp]
      simp only [cond_true, Tk.ev]
      congr 1
      split <;> rfl
    · rw [i4, lastOf_cons]
      simp only [cond_true]
      congr 1
      cases ht : r.touch n with
      | true => rw [Tk.hp_some ht]; rfl
      | false =>
        rw [Tk.hp_none ht]
        have : ¬ (n ∈ r.st'.lg ∨ (r.st.nx ≤ n ∧ n < r.st'.nx)) := fun h => by rw [(r.touch_iff n).2 h] at ht; cases ht
        have := l1.same n (fun h => this (.inl h)) (by omega)
        rw [hst] at this
        exact this
    · rcases List.mem_cons.1 hx with rfl | hx
      · exact ⟨hnx.1, hnx.2, i1.nx, step⟩
      · obtain ⟨a, b, c, d⟩ := i5 x hx
        exact ⟨by dsimp only at a; omega, b, c, d⟩

theorem Chain.split {e : Env} {s : St} {r : Tk} {B : List Tk} : ∀ {A : List Tk} {env : Env} {st : St}, Chain P call nt mu all env st (A ++ r :: B) e s →
    ∃ stA env1, Chain P call nt mu all env st A r.env stA ∧ r.st = ⟨stA.h, stA.nx, [], stA.df⟩ ∧ StepT P call mu all r ∧ eput nt r.env r.o.dst r.v = some env1 ∧
      Chain P call nt mu all env1 ⟨r.st'.h, r.st'.nx, r.st'.lg ++ stA.lg, r.st'.df⟩ B e s
  | [], env, st, h => by
    cases h with
    | cons step hst hp t => exact ⟨st, _, .nil _ _, hst, step, hp, t⟩
  | a :: A, env, st, h => by
    cases h with
    | cons step hst hp t =>
      obtain ⟨stA, env1, h1, h2, h3, h4, h5⟩ := Chain.split (A := A) t
      exact ⟨stA, env1, .cons step hst hp h1, h2, h3, h4, h5⟩

theorem evDraw_chain : ∀ (l : List Nat) (env e : Env) (st s : St) (rs rs' : List Rec), evDraw P call nt mu all l env st rs = some (e, s, rs') →
    ∃ T, Chain P call nt mu all env st T e s ∧ T.map (·.i) = l ∧ rs' = (T.filterMap Tk.mrec).reverse ++ rs
  | [], env, e, st, s, rs, rs', h => by
    simp only [evDraw] at h; cases h
    exact ⟨[], .nil _ _, rfl, rfl⟩
  | i :: l, env, e, st, s, rs, rs', h => by
    simp only [evDraw] at h
    split at h
    · cases h
    · rename_i o ho
      split at h
      · cases h
      · rename_i hw
        split at h
        · rename_i env1 hp
          obtain ⟨T, h1, h2, h3⟩ := evDraw_chain l _ _ _ _ _ _ h
          have step : StepT P call mu all ⟨i, o, env, ⟨st.h, st.nx, [], st.df⟩, .tup [], ⟨st.h, st.nx, [], st.df⟩, [], false, false⟩ := ⟨ho, rfl, hw, fun _ => ⟨rfl, rfl, rfl, rfl⟩, fun h => by cases h⟩
          refine ⟨⟨i, o, env, ⟨st.h, st.nx, [], st.df⟩, .tup [], ⟨st.h, st.nx, [], st.df⟩, [], false, false⟩ :: T, .cons step rfl hp h1, by simp [h2], ?_⟩
          have : Tk.mrec ⟨i, o, env, ⟨st.h, st.nx, [], st.df⟩, .tup [], ⟨st.h, st.nx, [], st.df⟩, [], false, false⟩ = none := by
            unfold Tk.mrec
            have : Nat.blt st.nx st.nx = false := by
              cases hb : Nat.blt st.nx st.nx with
              | false => rfl
              | true => exact absurd (Nat.le_of_ble_eq_true hb) (by omega)
            simp [this]
          rw [h3, List.filterMap_cons_none this]
        · cases h
      · rename_i hw
        split at h
        · rename_i v st1 rd c he
          split at h
          · rename_i env1 hp
            obtain ⟨T, h1, h2, h3⟩ := evDraw_chain l _ _ _ _ _ _ h
            have step : StepT P call mu all ⟨i, o, env, ⟨st.h, st.nx, [], st.df⟩, v, st1, rd, c, true⟩ := ⟨ho, rfl, hw, fun h => (by cases h), fun _ => he⟩
            refine ⟨⟨i, o, env, ⟨st.h, st.nx, [], st.df⟩, v, st1, rd, c, true⟩ :: T, .cons step rfl hp h1, by simp [h2], ?_⟩
            rw [h3]
            cases hq : (c || !rd.isEmpty || !st1.lg.isEmpty || Nat.blt st.nx st1.nx) with
            | true =>
              have : Tk.mrec ⟨i, o, env, ⟨st.h, st.nx, [], st.df⟩, v, st1, rd, c, true⟩ = some ⟨i, c, rd, st1.lg, st.nx, st1.nx⟩ := by
                unfold Tk.mrec; simp only [hq, cond_true]
              rw [List.filterMap_cons_some this]; simp
            | false =>
              have : Tk.mrec ⟨i, o, env, ⟨st.h, st.nx, [], st.df⟩, v, st1, rd, c, true⟩ = none := by
                unfold Tk.mrec; simp only [hq, cond_false]
              rw [List.filterMap_cons_none this]; simp
          · cases h
        · cases h
end

theorem disj_spec {a b : List Nat} (h : disj a b = true) : ∀ n ∈ a, n ∉ b := fun n h1 h2 => by
  have := List.all_eq_true.1 h n h1
  rw [(hasN_iff n b).2 h2] at this; cases this
theorem out_spec {j : Rec} {n : Nat} (h : j.out n = true) : n < j.lo ∨ j.hi ≤ n := by
  unfold Rec.out at h
  rw [Bool.or_eq_true] at h
  exact h.imp Nat.le_of_ble_eq_true Nat.le_of_ble_eq_true

theorem recsOk_spec {ms : List Nat} : ∀ {l : List Rec}, recsOk ms l = true → l.Pairwise (fun i j => compat ms i j = true) ∧ ∀ i ∈ l, (∀ n ∈ i.rd, n < i.hi) ∧ ∀ n ∈ i.wr, n < i.hi
  | [], _ => ⟨.nil, fun i h => by cases h⟩
  | i :: l, h => by
    simp only [recsOk, Bool.and_eq_true, List.all_eq_true] at h
    obtain ⟨⟨⟨h1, h2⟩, h3⟩, h4⟩ := h
    obtain ⟨a, b⟩ := recsOk_spec h4
    refine ⟨.cons h3 a, fun j hj => ?_⟩
    rcases List.mem_cons.1 hj with rfl | hj
    · exact ⟨fun n hn => Nat.le_of_ble_eq_true (h1 n hn), fun n hn => Nat.le_of_ble_eq_true (h2 n hn)⟩
    · exact b j hj

/-- All that is known of a region's run in the plan's order. -/
structure DC (P : Program) (call : CallF) (nt : Nat) (mu : Bool) (ops : Array Oper) (T : List Tk) (env0 : Env) (st0 : St) (e : Env) (s : St) : Prop where
  hc : CallOk P call
  ch : Chain P call nt mu ops.toList env0 st0 T e s
  per : ∀ r ∈ T, ∀ n, (n ∈ r.rd ∨ n ∈ r.st'.lg) → n < r.st'.nx
  pair : T.Pairwise (fun a b => ∀ x y, a.mrec = some x → b.mrec = some y → compat (masks ops.toList []) y x = true)
  apart : ∀ (i j : Nat) x y, i < j → ops.toList[i]? = some x → ops.toList[j]? = some y → ((masks ops.toList []).getD j 0).testBit i = true ∨ apartB x (looks ops.toList x) y (looks ops.toList y) = true
  closed : ∀ A r B, T = A ++ r :: B → ∀ j ∈ preds r.o, ∃ a ∈ A, a.i = j
  nodup : (T.map (·.i)).Nodup
  lt : ∀ (i : Nat) o, ops.toList[i]? = some o → ∀ j ∈ preds o, j < i
  mem : ∀ i, i < ops.size → ∃ r ∈ T, r.i = i

section
variable {P : Program} {call : CallF} {nt : Nat} {mu : Bool} {ops : Array Oper} {T : List Tk} {env0 e : Env} {st0 s : St}

theorem mrec_some {r : Tk} (h : (r.c || !r.rd.isEmpty || !r.st'.lg.isEmpty || Nat.blt r.st.nx r.st'.nx) = true) : r.mrec = some ⟨r.i, r.c, r.rd, r.st'.lg, r.st.nx, r.st'.nx⟩ := by
  unfold Tk.mrec; rw [h]; rfl
theorem mrec_touch {r : Tk} {n : Nat} (h : r.touch n = true) : r.mrec = some ⟨r.i, r.c, r.rd, r.st'.lg, r.st.nx, r.st'.nx⟩ := by
  refine mrec_some ?_
  rcases (r.touch_iff n).1 h with h | h
  · cases hl : r.st'.lg with
    | nil => rw [hl] at h; cases h
    | cons x l => simp
  · have : Nat.blt r.st.nx r.st'.nx = true := Nat.ble_eq_true_of_le (by omega)
    simp [this]
theorem mrec_rd {r : Tk} {n : Nat} (h : n ∈ r.rd) : r.mrec = some ⟨r.i, r.c, r.rd, r.st'.lg, r.st.nx, r.st'.nx⟩ := by
  refine mrec_some ?_
  cases hl : r.rd with
  | nil => rw [hl] at h; cases h
  | cons x l => simp
theorem mrec_call {r : Tk} (h : r.c = true) : r.mrec = some ⟨r.i, r.c, r.rd, r.st'.lg, r.st.nx, r.st'.nx⟩ := mrec_some (by simp [h])

/-- An elder one and a later one, neither hanging on the other. -/
theorem DC.two (d : DC P call nt mu ops T env0 st0 e s) {X Y : List Tk} {x y : Tk} (hT : T = X ++ x :: Y) (hy : y ∈ Y) (hm : ((masks ops.toList []).getD y.i 0).testBit x.i = false) :
    (∀ n, x.touch n = true → n ∉ y.rd) ∧ (∀ n, y.touch n = true → n ∉ x.rd) ∧ (∀ n, x.touch n = true → y.touch n = true → False) ∧ (y.c = true → ∀ n, x.touch n = false) ∧ (x.c = true → y.st'.lg = []) ∧ x.st'.nx ≤ y.st.nx := by
  have hch := d.ch
  rw [hT] at hch
  obtain ⟨stA, env1, c1, c2, c3, c4, c5⟩ := hch.split
  obtain ⟨f1, f2, f3, f4, f5⟩ := c5.facts d.hc
  have hnx : x.st'.nx ≤ y.st.nx := (f5 y hy).1
  have hxT : x ∈ T := by rw [hT]; simp
  have hyT : y ∈ T := by rw [hT]; simp [hy]
  have hp := d.pair
  rw [hT, List.pairwise_append] at hp
  have hp := (List.pairwise_cons.1 hp.2.1).1 y hy
  have com : ∀ {rx ry : Rec}, x.mrec = some rx → y.mrec = some ry → rx = ⟨x.i, x.c, x.rd, x.st'.lg, x.st.nx, x.st'.nx⟩ → ry = ⟨y.i, y.c, y.rd, y.st'.lg, y.st.nx, y.st'.nx⟩ →
      y.c = false ∧ (∀ n ∈ y.rd, n < x.st.nx ∨ x.st'.nx ≤ n) ∧ (∀ n ∈ y.st'.lg, n < x.st.nx ∨ x.st'.nx ≤ n) ∧
      (x.c = true → y.st'.lg = [] ∧ disj x.st'.lg y.rd = true) ∧ (x.c = false → disj y.st'.lg x.rd = true ∧ disj y.st'.lg x.st'.lg = true ∧ disj x.st'.lg y.rd = true) := by
    intro rx ry h1 h2 e1 e2
    have := hp rx ry h1 h2
    subst e1 e2
    unfold compat at this
    dsimp only at this
    rw [hm, Bool.false_or] at this
    cases hyc : y.c with
    | true => rw [hyc] at this; cases this
    | false =>
      rw [hyc] at this
      simp only [cond_false, Bool.and_eq_true, List.all_eq_true] at this
      obtain ⟨⟨t1, t2⟩, t3⟩ := this
      refine ⟨rfl, fun n hn => out_spec (t1 n hn), fun n hn => out_spec (t2 n hn), fun hx => ?_, fun hx => ?_⟩
      · rw [hx] at t3
        simp only [cond_true, Bool.and_eq_true] at t3
        exact ⟨by simpa using t3.1, t3.2⟩
      · rw [hx] at t3
        simp only [cond_false, Bool.and_eq_true] at t3
        exact ⟨t3.1.1, t3.1.2, t3.2⟩
  have perx := d.per x hxT
  have pery := d.per y hyT
  refine ⟨fun n h1 h2 => ?_, fun n h1 h2 => ?_, fun n h1 h2 => ?_, fun h1 n => ?_, fun h1 => ?_, hnx⟩
  · obtain ⟨_, k2, _, k4, k5⟩ := com (mrec_touch h1) (mrec_rd h2) rfl rfl
    rcases (x.touch_iff n).1 h1 with h | h
    · cases hxc : x.c with
      | true => exact disj_spec (k4 hxc).2 n h h2
      | false => exact disj_spec (k5 hxc).2.2 n h h2
    · have := k2 n h2; omega
  · obtain ⟨_, _, k3, k4, k5⟩ := com (mrec_rd h2) (mrec_touch h1) rfl rfl
    rcases (y.touch_iff n).1 h1 with h | h
    · cases hxc : x.c with
      | true => rw [(k4 hxc).1] at h; cases h
      | false => exact disj_spec (k5 hxc).1 n h h2
    · have := perx n (.inl h2); omega
  · obtain ⟨_, _, k3, k4, k5⟩ := com (mrec_touch h1) (mrec_touch h2) rfl rfl
    rcases (x.touch_iff n).1 h1 with h | h <;> rcases (y.touch_iff n).1 h2 with h' | h'
    · cases hxc : x.c with
      | true => rw [(k4 hxc).1] at h'; cases h'
      | false => exact disj_spec (k5 hxc).2.1 n h' h
    · have := perx n (.inr h); omega
    · have := k3 n h'; omega
    · omega
  · cases ht : x.touch n with
    | false => rfl
    | true =>
      obtain ⟨k1, _⟩ := com (mrec_touch ht) (mrec_call h1) rfl rfl
      rw [h1] at k1; cases k1
  · cases hl : y.st'.lg with
    | nil => rfl
    | cons z l =>
      have : y.touch z = true := (y.touch_iff z).2 (.inl (by simp [hl]))
      obtain ⟨_, _, _, k4, _⟩ := com (mrec_call h1) (mrec_touch this) rfl rfl
      rw [(k4 h1).1] at hl; cases hl

theorem apartB_spec {x y : Oper} {lx ly : List Nat} (h : apartB x lx y ly = true) : (∀ d, x.dst = some d → d ∉ ly ∧ y.dst ≠ some d) ∧ (∀ d, y.dst = some d → d ∉ lx ∧ x.dst ≠ some d) := by
  unfold apartB at h
  rw [Bool.and_eq_true] at h
  have k1 : ∀ d, x.dst = some d → d ∉ ly ∧ y.dst ≠ some d := fun d hd => by
    rw [hd] at h
    simp only [Bool.and_eq_true, Bool.not_eq_true'] at h
    refine ⟨fun hm => ?_, fun hy => ?_⟩
    · rw [(hasN_iff d ly).2 hm] at h; simp at h
    · rw [hy] at h; simp [Nat.beq_refl] at h
  refine ⟨k1, fun d hd => ⟨fun hm => ?_, fun hx => (k1 d hx).2 hd⟩⟩
  rw [hd] at h
  simp only [Bool.not_eq_true'] at h
  rw [(hasN_iff d lx).2 hm] at h; simp at h

end
end Go.Am
