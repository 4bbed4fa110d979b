/-
  THE ABSTRACT MACHINE, PART 21: whatever order is drawn.
-/
import Derived.Test.YtiicpeidjhbhiaaGreatAm20
namespace Go.Am
open Go

section
variable {P : Program} {call : CallF} {nt : Nat} {mu : Bool} {ops : Array Oper} {T : List Tk} {env0 e : Env} {st0 s : St}

def inS (listed : Array Bool) (r : Tk) : Bool := listed.getD r.i false

/-- Heap and temporaries, where these have been. -/
def hS (T : List Tk) (st0 : St) (listed : Array Bool) (n : Nat) : Option O := lastOf T (inS listed) (Tk.hp n) (st0.h.get n)
def eS (T : List Tk) (env0 : Env) (listed : Array Bool) (t : Nat) : V := lastOf T (inS listed) (Tk.ev t) (eget env0 t)

def Closed (ops : Array Oper) (listed : Array Bool) : Prop := ∀ i, listed.getD i false = true → ∃ o, ops.toList[i]? = some o ∧ ∀ j ∈ preds o, listed.getD j false = true

structure DI (P : Program) (nt : Nat) (T : List Tk) (env0 : Env) (st0 s : St) (κ0 : Kap) (W0 : World) (ds : List Deferred) (listed : Array Bool) (κ : Kap) (a : Act) (w : World) : Prop where
  inv : Inv P κ (hS T st0 listed) w.heap
  re : ∀ t, RV κ w.heap (eS T env0 listed t) (a.tmps.getD t undef)
  size : a.tmps.size = nt
  dfr : a.defers = ds
  fr : FrW κ0 st0.h.get W0 κ (hS T st0 listed) w st0.nx s.nx
  free : ∀ r ∈ T, inS listed r = false → Free κ r.st.nx r.st'.nx

theorem getD_set_of_lt {listed : Array Bool} {i j : Nat} (hi : i < listed.size) (d : Bool) : (listed.setIfInBounds i true).getD j d = if j = i then true else listed.getD j d := by
  simp only [Array.getD_eq_getD_getElem?, Array.getElem?_setIfInBounds]
  by_cases h : i = j
  · subst h; simp [hi]
  · rw [if_neg h, if_neg (Ne.symm h)]

theorem getD_flip {listed : Array Bool} {i : Nat} (hi : i < listed.size) (d d' : Bool) : listed.getD i d = listed.getD i d' := by
  simp [Array.getD_eq_getD_getElem?, hi]

theorem nodup_split {A B : List Tk} {r : Tk} (h : ((A ++ r :: B).map (·.i)).Nodup) : (∀ a ∈ A, a.i ≠ r.i) ∧ (∀ b ∈ B, b.i ≠ r.i) ∧ ∀ a ∈ A, ∀ b ∈ B, a.i ≠ b.i := by
  rw [List.map_append, List.map_cons, List.nodup_append] at h
  obtain ⟨_, h2, h3⟩ := h
  rw [List.nodup_cons] at h2
  refine ⟨fun a ha e => ?_, fun b hb e => ?_, fun a ha b hb e => ?_⟩
  · exact h3 a.i (List.mem_map_of_mem ha) r.i (by simp) e
  · exact h2.1 (e ▸ List.mem_map_of_mem (f := (·.i)) hb)
  · exact h3 a.i (List.mem_map_of_mem ha) b.i (List.mem_cons_of_mem _ (List.mem_map_of_mem hb)) e

/-- What it hangs on has been ahead of it in the plan. -/
theorem DC.anc (d : DC P call nt mu ops T env0 st0 e s) {A B : List Tk} {r : Tk} (hT : T = A ++ r :: B) {b : Nat} (hb : ((masks ops.toList []).getD r.i 0).testBit b = true) : ∃ a ∈ A, a.i = b := by
  have hstep : ∀ x ∈ T, ops.toList[x.i]? = some x.o := fun x hx => ((d.ch.facts d.hc).2.2.2.2 x hx).2.2.2.op
  refine anc_in d.lt (S := fun j => ∃ a ∈ A, a.i = j) (fun i hi => ?_) r.i r.o (hstep r (by rw [hT]; simp)) (fun j hj => d.closed A r B hT j hj) b hb
  obtain ⟨a, ha, rfl⟩ := hi
  refine ⟨a.o, hstep a (by rw [hT]; simp [ha]), fun j hj => ?_⟩
  obtain ⟨A1, A2, rfl⟩ := List.append_of_mem ha
  obtain ⟨x, hx, e⟩ := d.closed A1 a (A2 ++ r :: B) (by rw [hT]; simp) j hj
  exact ⟨x, by simp [hx], e⟩

/-- One that is to come: what is known of those that have been. -/
structure Around (T A B : List Tk) (r : Tk) (all : List Oper) (listed : Array Bool) : Prop where
  aT : ∀ a ∈ A, inS listed a = false → (∀ n, a.touch n = true → n ∉ r.rd) ∧ (∀ n, a.touch n = true → r.touch n = true → False) ∧ (r.c = true → ∀ n, a.touch n = false) ∧ ∀ d, a.o.dst = some d → d ∉ looks all r.o ∧ r.o.dst ≠ some d
  bT : ∀ b ∈ B, inS listed b = true → (∀ n, b.touch n = true → n ∉ r.rd) ∧ (∀ n, b.touch n = true → r.touch n = true → False) ∧ (r.c = true → b.st'.lg = []) ∧ r.st'.nx ≤ b.st.nx ∧ ∀ d, b.o.dst = some d → d ∉ looks all r.o ∧ r.o.dst ≠ some d

theorem DC.around (d : DC P call nt mu ops T env0 st0 e s) {A B : List Tk} {r : Tk} (hT : T = A ++ r :: B) {listed : Array Bool} (hcl : Closed ops listed) (hr : inS listed r = false) (hp : ∀ j ∈ preds r.o, listed.getD j false = true) :
    Around T A B r ops.toList listed := by
  have hstep : ∀ x ∈ T, ops.toList[x.i]? = some x.o := fun x hx => ((d.ch.facts d.hc).2.2.2.2 x hx).2.2.2.op
  have hrT : r ∈ T := by rw [hT]; simp
  obtain ⟨n1, n2, n3⟩ := nodup_split (hT ▸ d.nodup)
  have mR : ∀ b, ((masks ops.toList []).getD r.i 0).testBit b = true → listed.getD b false = true := fun b hb => anc_in d.lt hcl r.i r.o (hstep r hrT) hp b hb
  constructor
  · intro a ha has
    have hm : ((masks ops.toList []).getD r.i 0).testBit a.i = false := by
      cases h : ((masks ops.toList []).getD r.i 0).testBit a.i with
      | false => rfl
      | true => have := mR _ h; unfold inS at has; rw [this] at has; cases has
    have haT : a ∈ T := by rw [hT]; simp [ha]
    obtain ⟨A1, A2, rfl⟩ := List.append_of_mem ha
    obtain ⟨t1, t2, t3, t4, t5, t6⟩ := d.two (X := A1) (x := a) (Y := A2 ++ r :: B) (y := r) (by rw [hT]; simp) (by simp) hm
    refine ⟨t1, t3, t4, fun q hq => ?_⟩
    rcases Nat.lt_trichotomy a.i r.i with hlt | heq | hgt
    · rcases d.apart _ _ _ _ hlt (hstep a haT) (hstep r hrT) with h | h
      · rw [hm] at h; cases h
      · exact (apartB_spec h).1 q hq
    · exact absurd heq (n1 a ha)
    · rcases d.apart _ _ _ _ hgt (hstep r hrT) (hstep a haT) with h | h
      · obtain ⟨x, hx, e⟩ := d.anc (A := A1) (r := a) (B := A2 ++ r :: B) (by rw [hT]; simp) h
        exact absurd e (n1 x (by simp [hx]))
      · exact (apartB_spec h).2 q hq
  · intro b hb hbs
    have hbT : b ∈ T := by rw [hT]; simp [hb]
    have hm : ((masks ops.toList []).getD b.i 0).testBit r.i = false := by
      cases h : ((masks ops.toList []).getD b.i 0).testBit r.i with
      | false => rfl
      | true =>
        obtain ⟨ob, hob, hpb⟩ := hcl b.i hbs
        have := anc_in d.lt hcl b.i ob hob hpb r.i h
        unfold inS at hr
        rw [this] at hr; cases hr
    obtain ⟨t1, t2, t3, t4, t5, t6⟩ := d.two hT hb hm
    refine ⟨t2, fun n h1 h2 => t3 n h2 h1, t5, t6, fun q hq => ?_⟩
    rcases Nat.lt_trichotomy r.i b.i with hlt | heq | hgt
    · rcases d.apart _ _ _ _ hlt (hstep r hrT) (hstep b hbT) with h | h
      · rw [hm] at h; cases h
      · exact (apartB_spec h).2 q hq
    · exact absurd heq.symm (n2 b hb)
    · rcases d.apart _ _ _ _ hgt (hstep b hbT) (hstep r hrT) with h | h
      · obtain ⟨x, hx, e⟩ := d.anc hT h
        exact absurd e (n3 x hx b hb)
      · exact (apartB_spec h).1 q hq

theorem Tk.ev_none {r : Tk} {t : Nat} (h : r.o.dst ≠ some t) : r.ev t = none := by unfold Tk.ev; rw [if_neg h]

/-- One more. -/
theorem DC.step (d : DC P call nt mu ops T env0 st0 e s) {κ0 : Kap} {W0 : World} {ds : List Deferred} (hI0 : Inv P κ0 st0.h.get W0.heap) (hF0 : Free κ0 st0.nx s.nx) {F : Fence} (hF : WF F) {Q : Exit → Act → World → Prop}
    {listed : Array Bool} (hls : listed.size = ops.size) (hcl : Closed ops listed) {κ : Kap} {a : Act} {w : World} (D : DI P nt T env0 st0 s κ0 W0 ds listed κ a w) {i : Nat} (hi : i ∈ Region.ready .any ops listed) {K : Act → World → Prop}
    (hK : ∀ κ' a' w', DI P nt T env0 st0 s κ0 W0 ds (listed.setIfInBounds i true) κ' a' w' → K a' w') : wpOpIn F 0 P ops Q i K a w := by
  obtain ⟨hun, o, ho, hall⟩ := mem_ready.1 hi
  have ho' : ops.toList[i]? = some o := by simpa using ho
  have hisz : i < ops.size := (Array.getElem?_eq_some_iff.1 ho).1
  have hil : i < listed.size := by omega
  obtain ⟨r, hrT, hri⟩ := d.mem i hisz
  obtain ⟨A, B, hT⟩ := List.append_of_mem hrT
  have fx := d.ch.facts d.hc
  obtain ⟨_, _, hrs, step⟩ := fx.2.2.2.2 r hrT
  have hro : r.o = o := by have := step.op; rw [hri, ho'] at this; cases this; rfl
  have hr0 : inS listed r = false := by unfold inS; rw [hri, getD_flip hil false true]; exact hun
  have hpr : ∀ j ∈ preds r.o, listed.getD j false = true := fun j hj => by
    unfold preds at hj
    obtain ⟨ed, he1, he2⟩ := List.mem_filterMap.1 hj
    cases hb : Region.binds .any ed with
    | false => rw [hb] at he2; cases he2
    | true =>
      rw [hb] at he2
      simp only [cond_true, Option.some.injEq] at he2
      subst he2
      exact hall ed (by rw [hro] at he1; simpa using he1) hb
  have ar := d.around hT hcl hr0 hpr
  obtain ⟨n1, n2, n3⟩ := nodup_split (hT ▸ d.nodup)
  have hch := d.ch
  rw [hT] at hch
  obtain ⟨stA, env1, c1, c2, c3, c4, c5⟩ := hch.split
  have fA := c1.facts d.hc
  have fB := c5.facts d.hc
  have rnx : r.st.nx = stA.nx := by rw [c2]
  have rh : r.st.h = stA.h := by rw [c2]
  -- the temporaries it looks at
  have hev : ∀ t, t ∈ looks ops.toList r.o → eget r.env t = eS T env0 listed t := fun t ht => by
    unfold eS
    rw [hT, lastOf_pre (fun x hx hxs => Tk.ev_none (fun hd => ((ar.aT x hx hxs).2.2.2 t hd).1 ht)) (fun x hx hxs => Tk.ev_none (fun hd => ((ar.bT x hx hxs).2.2.2.2 t hd).1 ht)) hr0]
    exact fA.2.2.1 t
  have hw := wanted_sound (ops := ops) (o := r.o) (env := r.env) (a := a) step.want (fun t ht => by rw [hev t ht]; exact D.re t)
  -- the set behind it
  have q1 : inS (listed.setIfInBounds i true) r = true := by unfold inS; rw [hri, getD_set_of_lt hil]; simp
  have q2 : ∀ x : Tk, x.i ≠ r.i → inS (listed.setIfInBounds i true) x = inS listed x := fun x hx => by unfold inS; rw [getD_set_of_lt hil, if_neg (by rw [← hri]; exact hx)]
  have hS' : ∀ n, hS T st0 (listed.setIfInBounds i true) n = (r.hp n).getD (hS T st0 listed n) := fun n => by
    unfold hS
    rw [hT]
    refine lastOf_add (fun x hx => q2 x (n1 x hx)) (fun x hx => q2 x (n2 x hx)) q1 hr0 (fun b hb hbs hsome => ?_)
    cases ht : b.touch n with
    | false => exact Tk.hp_none ht
    | true =>
      exfalso
      have hrt : r.touch n = true := by
        cases h : r.touch n with
        | true => rfl
        | false => rw [Tk.hp_none h] at hsome; cases hsome
      exact (ar.bT b hb hbs).2.1 n ht hrt
  have eS' : ∀ t, eS T env0 (listed.setIfInBounds i true) t = if r.o.dst = some t then r.v else eS T env0 listed t := fun t => by
    unfold eS
    rw [hT]
    rw [lastOf_add (t := Tk.ev t) (fun x hx => q2 x (n1 x hx)) (fun x hx => q2 x (n2 x hx)) q1 hr0 (fun b hb hbs hsome => ?_)]
    · unfold Tk.ev
      split <;> rfl
    · refine Tk.ev_none (fun hd => ?_)
      have : r.o.dst = some t := by
        by_cases h : r.o.dst = some t
        · exact h
        · rw [Tk.ev_none h] at hsome; cases hsome
      exact ((ar.bT b hb hbs).2.2.2.2 t hd).2 this
  have dlt : ∀ q, r.o.dst = some q → q < a.tmps.size := fun q hq => by rw [hq] at c4; rw [D.size]; exact eput_lt c4
  have free' : ∀ κ', (∀ n, n < r.st.nx ∨ r.st'.nx ≤ n → κ'.ρ n = κ.ρ n) → ∀ x ∈ T, inS (listed.setIfInBounds i true) x = false → Free κ' x.st.nx x.st'.nx := fun κ' hκ x hx hxs n h1 h2 => by
    have hxr : x ≠ r := by rintro rfl; rw [q1] at hxs; cases hxs
    have hsep : x.st'.nx ≤ r.st.nx ∨ r.st'.nx ≤ x.st.nx := by
      rw [hT] at hx
      rcases List.mem_append.1 hx with hx | hx
      · left; have := (fA.2.2.2.2 x hx).2.2.1; omega
      · rcases List.mem_cons.1 hx with hx | hx
        · exact absurd hx hxr
        · right; exact (fB.2.2.2.2 x hx).1
    have hxi : x.i ≠ r.i := by
      intro e'
      have hx' := hx
      rw [hT] at hx'
      rcases List.mem_append.1 hx' with hx' | hx'
      · exact n1 x hx' e'
      · rcases List.mem_cons.1 hx' with hx' | hx'
        · exact hxr hx'
        · exact n2 x hx' e'
    rw [hκ n (by omega)]
    exact D.free x hx (by rw [← q2 x hxi]; exact hxs) n h1 h2
  unfold wpOpIn
  rw [ho]
  dsimp only
  rw [← hro, hw]
  cases hrun : r.run with
  | false =>
    simp only [Bool.false_eq_true, if_false]
    refine ⟨fun g _ => hF.fn g, ?_⟩
    obtain ⟨k1, k2, k3, k4⟩ := step.skip hrun
    have same : hS T st0 (listed.setIfInBounds i true) = hS T st0 listed := funext fun n => by
      rw [hS', Tk.hp_none]; rfl
      cases ht : r.touch n with
      | false => rfl
      | true =>
        exfalso
        rcases (r.touch_iff n).1 ht with h | h
        · rw [k2, step.lg] at h; cases h
        · rw [k2] at h; omega
    refine hK κ _ w ⟨by rw [same]; exact D.inv, fun t => ?_, by rw [put_size]; exact D.size, by rw [put_defers]; exact D.dfr, by rw [same]; exact D.fr, free' κ (fun _ _ => rfl)⟩
    rw [eS', put_getD _ _ _ _ dlt]
    split
    · rw [k1]; exact .tup [] #[] rfl (fun i c v h => by simp at h)
    · exact D.re t
  | true =>
    simp only [if_true]
    have hgo := step.go hrun
    have hA0 : ∀ n, stA.nx ≤ n → n < s.nx → stA.h.get n = none := fun n h1 h2 => by
      rw [fA.2.2.2.1 n, lastOf_none]
      · cases hq : st0.h.get n with
        | none => rfl
        | some x =>
          obtain ⟨b, hb, _⟩ := hI0.obj n x hq
          rw [hF0 n (by have := fA.1.nx; omega) h2] at hb; cases hb
      · intro x hx _
        refine Tk.hp_none ?_
        cases ht : x.touch n with
        | false => rfl
        | true =>
          exfalso
          have h3 := (fA.2.2.2.2 x hx).2.2.1
          rcases (x.touch_iff n).1 ht with h | h
          · have := d.per x (by rw [hT]; simp [hx]) n (.inr h); omega
          · omega
    obtain ⟨t, t', p1, p2, p3, p4⟩ := evOp_part d.hc hgo (fun n h1 h2 => by rw [rh]; exact hA0 n (by omega) (by omega))
    -- what it is given is there
    have sub : ∀ n x, t.get n = some x → hS T st0 listed n = some x := fun n x hx => by
      obtain ⟨h1, h2⟩ := p2 n x hx
      have hpre : (∀ y ∈ A, inS listed y = false → y.hp n = none) ∧ (∀ y ∈ B, inS listed y = true → y.hp n = none) := by
        refine ⟨fun y hy hys => Tk.hp_none ?_, fun y hy hys => Tk.hp_none ?_⟩
        · cases ht : y.touch n with
          | false => rfl
          | true =>
            exfalso
            obtain ⟨u1, u2, u3, _⟩ := ar.aT y hy hys
            rcases h2 with h2 | h2 | h2
            · rw [u3 h2 n] at ht; cases ht
            · exact u1 n ht h2
            · exact u2 n ht ((r.touch_iff n).2 (.inl h2))
        · cases ht : y.touch n with
          | false => rfl
          | true =>
            exfalso
            obtain ⟨u1, u2, u3, u4, _⟩ := ar.bT y hy hys
            rcases h2 with h2 | h2 | h2
            · rcases (y.touch_iff n).1 ht with h | h
              · rw [u3 h2] at h; cases h
              · have hs := (fB.2.2.2.2 y hy).2.2.1
                rw [rh, hA0 n (by have := step.lk d.hc; have := this.1.nx; omega) (by omega)] at h1
                cases h1
            · exact u1 n ht h2
            · exact u2 n ht ((r.touch_iff n).2 (.inl h2))
      unfold hS
      rw [hT, lastOf_pre hpre.1 hpre.2 hr0, ← fA.2.2.2.1 n, ← rh]
      exact h1
    refine evOp_sound (κ := κ) hF d.hc p1 (fun u hu => ?_) (D.inv.sub sub) (D.free r hrT hr0) (fun κ' v' w' hv hi' hf => ?_)
    · have hl : u ∈ looks ops.toList r.o := by
        unfold looks
        refine List.mem_append_left _ (List.mem_filterMap.2 ⟨.tmp u, by simpa using hu, rfl⟩)
      rw [hev u hl]; exact D.re u
    · obtain ⟨g1, g2⟩ := D.inv.frame r.touch sub hi' hf.toFr (fun n hn => by
        have : ¬ (n ∈ r.st'.lg ∨ (r.st.nx ≤ n ∧ n < r.st'.nx)) := fun h => by rw [(r.touch_iff n).2 h] at hn; cases hn
        exact p4 n (fun h => this (.inl h)) (by omega))
      have same : (fun n => bif r.touch n then t'.get n else hS T st0 listed n) = hS T st0 (listed.setIfInBounds i true) := funext fun n => by
        rw [hS']
        cases ht : r.touch n with
        | true => rw [Tk.hp_some ht]; exact p3 n ((r.touch_iff n).1 ht)
        | false => rw [Tk.hp_none ht]; rfl
      rw [same] at g1 g2
      refine hK κ' _ w' ⟨g1, fun u => ?_, by rw [put_size]; exact D.size, by rw [put_defers]; exact D.dfr, ⟨D.fr.toFr.trans' (g2.widen (by have := fA.1.nx; simp only; omega) hrs), D.fr.kp.trans hf.kp⟩, free' κ' (fun n hn => (hf.rho n (by simpa using hn)).1)⟩
      rw [eS', put_getD _ _ _ _ dlt]
      split
      · exact hv
      · exact (D.re u).mono hf.ext

/-- How many are to come. -/
def unl (ops : Array Oper) (listed : Array Bool) : List Nat := (List.range ops.size).filter fun i => !listed.getD i true

/-- Whatever order is drawn. -/
theorem DC.any (d : DC P call nt mu ops T env0 st0 e s) {κ0 : Kap} {W0 : World} {ds : List Deferred} (hI0 : Inv P κ0 st0.h.get W0.heap) (hF0 : Free κ0 st0.nx s.nx) {F : Fence} (hF : WF F) {Q : Exit → Act → World → Prop}
    (hdf : ∀ κ a w, DI P nt T env0 st0 s κ0 W0 ds (Array.replicate ops.size true) κ a w → Q .normal a w) :
    ∀ (fuel : Nat) (listed : Array Bool), listed.size = ops.size → Closed ops listed → (unl ops listed).length ≤ fuel → ∀ κ a w, DI P nt T env0 st0 s κ0 W0 ds listed κ a w → wpAnyIn F 0 P .any ops Q fuel listed a w := by
  -- where none is ready, all have been
  have full : ∀ listed : Array Bool, listed.size = ops.size → Region.ready .any ops listed = [] → listed = Array.replicate ops.size true := fun listed hls hr => by
    have all : ∀ i, i < ops.size → listed.getD i false = true := by
      intro i
      induction i using Nat.strongRecOn with
      | _ i ih =>
        intro hi
        cases hq : listed.getD i false with
        | true => rfl
        | false =>
          exfalso
          have ho : ops[i]? = some ops[i] := by simp [hi]
          have : i ∈ Region.ready .any ops listed := mem_ready.2 ⟨by rw [getD_flip (by omega) true false]; exact hq, ops[i], ho, fun ed he hb => by
            have hj : ed.on ∈ preds ops[i] := List.mem_filterMap.2 ⟨ed, by simpa using he, by rw [hb]; rfl⟩
            have hlt := d.lt i ops[i] (by simp [hi]) ed.on hj
            exact ih ed.on hlt (by omega)⟩
          rw [hr] at this; cases this
    apply Array.ext
    · simp [hls]
    · intro j h1 h2
      have := all j (by simpa using h2)
      simpa [Array.getD_eq_getD_getElem?, h1] using this
  intro fuel
  induction fuel with
  | zero =>
    intro listed hls hcl hu κ a w D
    have hr : Region.ready .any ops listed = [] := by
      cases hq : Region.ready .any ops listed with
      | nil => rfl
      | cons i l =>
        exfalso
        have hi : i ∈ Region.ready .any ops listed := by rw [hq]; simp
        obtain ⟨hun, o, ho, _⟩ := mem_ready.1 hi
        have : i ∈ unl ops listed := List.mem_filter.2 ⟨List.mem_range.2 (Array.getElem?_eq_some_iff.1 ho).1, by rw [hun]; rfl⟩
        have hz : unl ops listed = [] := List.length_eq_zero_iff.1 (by omega)
        rw [hz] at this; cases this
    refine ⟨hr, hdf κ a w ?_⟩
    rw [← full listed hls hr]; exact D
  | succ fuel ih =>
    intro listed hls hcl hu κ a w D
    refine ⟨fun hr => hdf κ a w (by rw [← full listed hls hr]; exact D), fun i hi => ?_⟩
    obtain ⟨hun, o, ho, hall⟩ := mem_ready.1 hi
    have hisz : i < ops.size := (Array.getElem?_eq_some_iff.1 ho).1
    have hil : i < listed.size := by omega
    refine d.step hI0 hF0 hF hls hcl D hi (fun κ' a' w' D' => ih _ (by rw [Array.size_setIfInBounds]; exact hls) (fun j hj => ?_) ?_ κ' a' w' D')
    · rw [getD_set_of_lt hil] at hj
      have keep : ∀ q, listed.getD q false = true → (listed.setIfInBounds i true).getD q false = true := fun q hq => by
        rw [getD_set_of_lt hil]; split
        · rfl
        · exact hq
      split at hj
      · rename_i hji
        subst hji
        refine ⟨o, by simpa using ho, fun q hq => keep q ?_⟩
        unfold preds at hq
        obtain ⟨ed, he1, he2⟩ := List.mem_filterMap.1 hq
        cases hb : Region.binds .any ed with
        | false => rw [hb] at he2; cases he2
        | true =>
          rw [hb] at he2
          simp only [cond_true, Option.some.injEq] at he2
          subst he2
          exact hall ed (by simpa using he1) hb
      · obtain ⟨oj, h1, h2⟩ := hcl j hj
        exact ⟨oj, h1, fun q hq => keep q (h2 q hq)⟩
    · have e1 : unl ops (listed.setIfInBounds i true) = (unl ops listed).filter (fun j => !(listed.setIfInBounds i true).getD j true) := by
        unfold unl
        rw [List.filter_filter]
        refine List.filter_congr (fun j _ => ?_)
        rw [getD_set_of_lt hil]
        by_cases h : j = i
        · simp [h]
        · simp [h]
      have : (unl ops (listed.setIfInBounds i true)).length < (unl ops listed).length := by
        rw [e1]
        refine List.length_filter_lt_length_iff_exists.2 ⟨i, List.mem_filter.2 ⟨List.mem_range.2 hisz, by rw [hun]; rfl⟩, ?_⟩
        rw [getD_set_of_lt hil]; simp
      omega
end
end Go.Am
