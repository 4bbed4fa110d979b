/-
  THE ABSTRACT MACHINE, PART 31: what comes in, as abstract values.
-/
import Derived.Test.YtiicpeidjhbhiaaGreatAm28
import Derived.ChangeArms
namespace Go.Am
open Go

/-- How data of a type looks as abstract cells. -/
inductive Sh {H : Type} (P : Program) : TypeId → DataW H → List V → Prop
  | bool {t : TypeId} {b : Bool} (hu : P.underlying t = some .bool) : Sh P t (.lit (.bool b)) [.bool b]
  | int {t : TypeId} {k : IntKind} {n : Int} (hu : P.underlying t = some (.int k)) (hw : (Lit.int k n).wf = true) : Sh P t (.lit (.int k n)) [.int k n]
  | str {t : TypeId} {l : List UInt8} (hu : P.underlying t = some .string) (hl : l.length ≤ maxLen) : Sh P t (.lit (.string l)) [.str l]
  | snil {t e : TypeId} (hu : P.underlying t = some (.slice e)) : Sh P t .nil [.snil]
  | sl {t e : TypeId} (hu : P.underlying t = some (.slice e)) (ds sp : List (DataW H)) (uss : List (List V)) (hl : uss.length = ds.length) (hc : ∀ us ∈ uss, us.length = P.cellsOf e)
      (h : ∀ (i : Nat) d us, ds[i]? = some d → uss[i]? = some us → Sh P e d us) (hm : ds.length ≤ maxLen) : Sh P t (.slice ds sp) [.sl uss.flatten ds.length (P.cellsOf e) .unk]
  | st {t : TypeId} {fs : Array Field} (hu : P.underlying t = some (.struct fs)) (ds : List (DataW H)) (uss : List (List V)) (h1 : ds.length = fs.size) (h2 : uss.length = fs.size)
      (h : ∀ (i : Nat) f d us, fs[i]? = some f → ds[i]? = some d → uss[i]? = some us → Sh P f.type d us) : Sh P t (.agg ds) uss.flatten
  | arr {t e : TypeId} {n : Nat} (hu : P.underlying t = some (.array n e)) (ds : List (DataW H)) (uss : List (List V)) (h1 : ds.length = n) (h2 : uss.length = n)
      (h : ∀ (i : Nat) d us, ds[i]? = some d → uss[i]? = some us → Sh P e d us) : Sh P t (.agg ds) uss.flatten
  | oth {t : TypeId} {d : DataW H} (hu : match P.underlying t with | some .bool | some (.int _) | some .string | some (.slice _) | some (.struct _) | some (.array _ _) => False | _ => True) : Sh P t d [.opq]

def spotless : Value → Prop
  | .slice (some a) _ _ => a.spot = none
  | _ => True

/-- A struct's fields lie side by side. -/
def tileB (P : Program) : List Field → Nat → Nat → Bool
  | [], o, n => Nat.beq o n
  | f :: r, o, n => Nat.beq f.offset o && tileB P r (o + P.cellsOf f.type) n

/-- Closed sets of types. M: slices whose elements are of N. -/
def shutB (P : Program) (N M : List TypeId) : Bool :=
  (N.all fun t => match P.underlying t with
    | some (.slice _) => false
    | some (.struct fs) => tileB P fs.toList 0 (P.cellsOf t) && fs.toList.all (fun f => hasN f.type N)
    | some (.array n e) => Nat.beq (n * P.cellsOf e) (P.cellsOf t) && hasN e N
    | _ => true) &&
  (M.all fun t => match P.underlying t with
    | some (.slice e) => hasN e N
    | some (.struct fs) => tileB P fs.toList 0 (P.cellsOf t) && fs.toList.all (fun f => hasN f.type M)
    | some (.array n e) => Nat.beq (n * P.cellsOf e) (P.cellsOf t) && hasN e M
    | _ => true)

section
variable {H : Type} {enc : TypeId × Value → H} {P : Program} {w : World} {sp : Nat → Bool} {held : Bool}

theorem PW.flatten {κ : Kap} {Hp : Array Obj} : ∀ {uss : List (List V)} {css : List (List Value)}, uss.length = css.length → (∀ (i : Nat) us cs, uss[i]? = some us → css[i]? = some cs → PW κ Hp us cs) → PW κ Hp uss.flatten css.flatten
  | [], [], _, _ => .nil
  | [], _ :: _, h, _ => by simp at h
  | _ :: _, [], h, _ => by simp at h
  | us :: uss, cs :: css, h, hp => by
    simp only [List.flatten_cons]
    exact (hp 0 us cs rfl rfl).append (PW.flatten (by simpa using h) (fun i a b h1 h2 => hp (i + 1) a b (by simpa using h1) (by simpa using h2)))

theorem choose_list {α β : Type} {R : Nat → α → β → Prop} : ∀ (l : List α) (k : Nat), (∀ (i : Nat) a, l[i]? = some a → ∃ b, R (k + i) a b) → ∃ r : List β, r.length = l.length ∧ ∀ (i : Nat) a b, l[i]? = some a → r[i]? = some b → R (k + i) a b
  | [], k, _ => ⟨[], rfl, fun i a b h => by simp at h⟩
  | a :: l, k, h => by
    obtain ⟨b, hb⟩ := h 0 a rfl
    obtain ⟨r, h1, h2⟩ := choose_list (R := R) l (k + 1) (fun i x hx => by
      have := h (i + 1) x (by simpa using hx)
      rwa [show k + (i + 1) = k + 1 + i by omega] at this)
    refine ⟨b :: r, by simp [h1], fun i x y hx hy => ?_⟩
    cases i with
    | zero => simp at hx hy; subst hx; subst hy; exact hb
    | succ i =>
      have := h2 i x y (by simpa using hx) (by simpa using hy)
      rwa [show k + 1 + i = k + (i + 1) by omega] at this

theorem tile_parts : ∀ (fs : List Field) (o n : Nat) (cs : List Value), tileB P fs o n = true → cs.length = n → (fs.map fun f => (cs.drop f.offset).take (P.cellsOf f.type)).flatten = cs.drop o
  | [], o, n, cs, h, hl => by
    have : o = n := Nat.eq_of_beq_eq_true h
    simp [this, hl]
  | f :: r, o, n, cs, h, hl => by
    simp only [tileB, Bool.and_eq_true] at h
    have ho : f.offset = o := Nat.eq_of_beq_eq_true h.1
    simp only [List.map_cons, List.flatten_cons, tile_parts r _ n cs h.2 hl, ho]
    rw [← List.drop_drop, List.take_append_drop]

theorem range_parts (m : Nat) : ∀ (n : Nat) (cs : List Value), cs.length = n * m → ((List.range n).map fun i => (cs.drop (i * m)).take m).flatten = cs
  | 0, cs, h => by
    have : cs = [] := by apply List.eq_nil_of_length_eq_zero; simpa using h
    simp [this]
  | n + 1, cs, h => by
    rw [List.range_succ_eq_map]
    simp only [List.map_cons, List.map_map, List.flatten_cons, Nat.zero_mul, List.drop_zero]
    have := range_parts m n (cs.drop m) (by simp [h, Nat.add_mul])
    have e : ((List.range n).map ((fun i => (cs.drop (i * m)).take m) ∘ Nat.succ)) = ((List.range n).map fun i => ((cs.drop m).drop (i * m)).take m) := by
      apply List.map_congr_left
      intro i _
      simp only [Function.comp, List.drop_drop]
      congr 2
      rw [Nat.succ_mul]; omega
    rw [e, this, List.take_append_drop]

theorem addr_add {a : Addr} (hs : a.spot = none) (n : Nat) : a.add n = ⟨a.block, a.off + n, none⟩ := by
  obtain ⟨b, o, s⟩ := a
  simp only at hs
  subst hs
  unfold Addr.add
  split <;> simp_all

theorem hc_of_cells {base : Nat} {a : Addr} {n : Nat} {cs : List Value} (h : w.cells? base a n = some cs) (hs : a.spot = none) : cs.length = n ∧ ∀ (i : Nat) v, cs[i]? = some v → hc w.heap a.block (a.off + i) = some v := by
  obtain ⟨hb, hl, hc'⟩ := World.cells?_some h
  refine ⟨hl, fun i v hv => ?_⟩
  have hi : i < n := hl ▸ (List.getElem?_eq_some_iff.1 hv).1
  have := hc' i hi
  rw [hv, addr_add hs] at this
  rw [← cell_hc]
  exact this

/-- A list's memory. -/
theorem sl_rv {a : Addr} {len cap sz : Nat} (hs : a.spot = none) (hcap : len ≤ cap) (uss : List (List V)) (hu : ∀ us ∈ uss, us.length = sz) (hl : uss.length = len)
    (h : ∀ (i : Nat) us, uss[i]? = some us → ∃ cs, w.cells? 0 (a.add (i * sz)) sz = some cs ∧ PW (kap0 w) w.heap us cs) : RV (kap0 w) w.heap (.sl uss.flatten len sz .unk) (.slice (some a) len cap) := by
  obtain ⟨css, h1, h2⟩ := choose_list (R := fun i us cs => w.cells? 0 (a.add (i * sz)) sz = some cs ∧ PW (kap0 w) w.heap us cs) uss 0 (fun i us hi => by simpa using h i us hi)
  have hflen : ∀ (l : List (List V)), (∀ us ∈ l, us.length = sz) → l.flatten.length = l.length * sz := by
    intro l hl
    induction l with
    | nil => simp
    | cons x r ih => simp only [List.flatten_cons, List.length_append, List.length_cons, hl x (by simp), ih (fun us hus => hl us (by simp [hus])), Nat.add_mul]; omega
  have hcsl : ∀ cs ∈ css, cs.length = sz := fun cs hcs => by
    obtain ⟨i, hi, rfl⟩ := List.getElem_of_mem hcs
    obtain ⟨e1, _⟩ := h2 i (uss[i]'(by omega)) css[i] (by simp) (by simp)
    exact (World.cells?_some e1).2.1
  have cell : ∀ (css : List (List Value)) (k : Nat), (∀ cs ∈ css, cs.length = sz) → (∀ (i : Nat) cs, css[i]? = some cs → ∀ (j : Nat) v, cs[j]? = some v → hc w.heap a.block (a.off + (k + i) * sz + j) = some v) →
      ∀ (i : Nat) v, css.flatten[i]? = some v → hc w.heap a.block (a.off + k * sz + i) = some v := by
    intro css
    induction css with
    | nil => intro k _ _ i v h; simp at h
    | cons c r ih =>
      intro k hlen hcell i v hv
      have hc := hlen c (by simp)
      simp only [List.flatten_cons] at hv
      by_cases hi : i < c.length
      · rw [List.getElem?_append_left hi] at hv
        have := hcell 0 c rfl i v hv
        simpa using this
      · rw [List.getElem?_append_right (by omega)] at hv
        have := ih (k + 1) (fun cs h => hlen cs (by simp [h])) (fun i cs h j v hv => by
          have := hcell (i + 1) cs (by simpa using h) j v hv
          rwa [show k + (i + 1) = k + 1 + i by omega] at this) (i - c.length) v hv
        rw [Nat.add_mul, Nat.one_mul, hc] at this
        rwa [show a.off + (k * sz + sz) + (i - sz) = a.off + k * sz + i by omega] at this
  have hcells : ∀ (i : Nat) v, css.flatten[i]? = some v → hc w.heap a.block (a.off + i) = some v := fun i v hv => by
    have := cell css 0 hcsl (fun i cs hi j v hv => by
      obtain ⟨e1, _⟩ := h2 i (uss[i]'(by rw [← h1]; exact (List.getElem?_eq_some_iff.1 hi).1)) cs (by simp) hi
      rw [addr_add hs] at e1
      have := (hc_of_cells e1 rfl).2 j v hv
      simpa using this) i v hv
    simpa using this
  have hp : PW (kap0 w) w.heap uss.flatten css.flatten := PW.flatten h1.symm (fun i us cs h3 h4 => (h2 i us cs h3 h4).2)
  obtain ⟨b, o, s⟩ := a
  simp only at hs
  subst hs
  exact .sl _ len sz .unk b o cap css.flatten hp.1 (by rw [hflen uss hu, hl]) (fun i hi => by
    have : css.flatten[i]? = some (css.flatten[i]) := by simp [hi]
    show (hc w.heap b (o + i)).isSome
    rw [hcells i _ this]; rfl) hcells hcap hp.2

theorem sh_gen {E : TypeId → Prop} {M : TypeId → Prop}
    (hM : ∀ t, M t → match P.underlying t with
      | some (.slice e) => E e
      | some (.struct fs) => tileB P fs.toList 0 (P.cellsOf t) = true ∧ ∀ f ∈ fs.toList, M f.type
      | some (.array n e) => n * P.cellsOf e = P.cellsOf t ∧ M e
      | _ => True)
    (hE : ∀ (n : Nat) (e : TypeId) (cs : List Value) (x : DataW H × List MemPlace), E e → DataW.trod enc P w 0 sp held n e cs = some x → ∃ us, Sh P e x.1 us ∧ PW (kap0 w) w.heap us cs) :
    ∀ (n : Nat) (t : TypeId) (cs : List Value) (x : DataW H × List MemPlace), M t → (∀ v ∈ cs, (∃ e, P.underlying t = some (.slice e)) ∨ (∃ fs, P.underlying t = some (.struct fs)) ∨ (∃ n e, P.underlying t = some (.array n e)) → spotless v) → DataW.trod enc P w 0 sp held n t cs = some x → ∃ us, Sh P t x.1 us ∧ PW (kap0 w) w.heap us cs := by
  intro n
  induction n with
  | zero => intro t cs x _ _ h; simp [DataW.trod] at h
  | succ n ih =>
    intro t cs x hMt hsp h
    have hm := hM t hMt
    have one : ∀ (v : Value), v.oneCell' = true → PW (kap0 w) w.heap [V.opq] [v] := fun v hv => .cons (.opq v hv) .nil
    rw [DataW.trod_step] at h
    unfold DataW.trodStep at h
    split at h
    case h_1 hu => cases h; exact ⟨_, .bool hu, .cons (.bool _) .nil⟩
    case h_2 k k' m hu =>
      split at h
      · rename_i hc
        cases h
        obtain ⟨rfl, hw⟩ := hc
        exact ⟨_, .int hu hw, .cons (.int _ _) .nil⟩
      · cases h
    case h_3 hu =>
      split at h
      · cases h; exact ⟨_, .oth (by rw [hu]; trivial), one _ rfl⟩
      · cases h
    case h_4 s hu =>
      split at h
      · rename_i hc
        cases h; exact ⟨_, .str hu (by simpa using hc), .cons (.str _ _ rfl) .nil⟩
      · cases h
    case h_5 hu => cases h; exact ⟨_, .oth (by rw [hu]; trivial), one _ rfl⟩
    case h_6 e a hu => exact ⟨_, .oth (by rw [hu]; trivial), one _ rfl⟩
    case h_7 e hu => cases h; exact ⟨_, .snil hu, .cons .snil .nil⟩
    case h_8 e a len cap hu =>
      simp only at h
      split at h
      · rename_i hcond
        simp only [Option.map_eq_some_iff, Option.bind_eq_some_iff] at h
        obtain ⟨elems, he, rest, hrest, rfl⟩ := h
        rw [hu] at hm
        have hspa : a.spot = none := hsp (.slice (some a) len cap) (by simp) (.inl ⟨e, hu⟩)
        have hel : elems.length = len := by
          have := mapM_len he
          simpa using this
        have each : ∀ (i : Nat) y, elems[i]? = some y → ∃ us, Sh P e y.1 us ∧ us.length = P.cellsOf e ∧ ∃ cs, w.cells? 0 (a.add (i * P.cellsOf e)) (P.cellsOf e) = some cs ∧ PW (kap0 w) w.heap us cs := fun i y hi => by
          have hlt : i < len := hel ▸ (List.getElem?_eq_some_iff.1 hi).1
          have := mapM_some_get he i i (by simp [hlt])
          rw [hi] at this
          simp only [Option.bind_eq_some_iff] at this
          obtain ⟨cs, hc, ht⟩ := this
          obtain ⟨us, h1, h2⟩ := hE n e cs y hm ht
          exact ⟨us, h1, by rw [h2.1]; exact (World.cells?_some hc).2.1, cs, hc, h2⟩
        obtain ⟨uss, hl, hus⟩ := choose_list (R := fun i y us => Sh P e y.1 us ∧ us.length = P.cellsOf e ∧ ∃ cs, w.cells? 0 (a.add (i * P.cellsOf e)) (P.cellsOf e) = some cs ∧ PW (kap0 w) w.heap us cs) elems 0 (fun i y hi => by simpa using each i y hi)
        have hus' : ∀ (i : Nat) us, uss[i]? = some us → ∃ y, elems[i]? = some y ∧ Sh P e y.1 us ∧ us.length = P.cellsOf e ∧ ∃ cs, w.cells? 0 (a.add (i * P.cellsOf e)) (P.cellsOf e) = some cs ∧ PW (kap0 w) w.heap us cs := fun i us hi => by
          have hlt : i < elems.length := hl ▸ (List.getElem?_eq_some_iff.1 hi).1
          have := hus i elems[i] us (by simp [hlt]) hi
          exact ⟨elems[i], by simp [hlt], by simpa using this⟩
        refine ⟨[.sl uss.flatten len (P.cellsOf e) .unk], ?_, .cons ?_ .nil⟩
        · have := Sh.sl (P := P) hu (elems.map (·.1)) (rest.map (·.1)) uss (by simpa using hl) (fun us hm => by
            obtain ⟨i, hi, rfl⟩ := List.getElem_of_mem hm
            obtain ⟨y, _, _, h3, _⟩ := hus' i uss[i] (by simp [hi])
            exact h3) (fun i d us h1 h2 => by
            obtain ⟨y, h3, h4, _⟩ := hus' i us h2
            simp only [List.getElem?_map, h3, Option.map_some, Option.some.injEq] at h1
            subst h1; exact h4) (by simp; omega)
          simpa [hel] using this
        · exact sl_rv hspa hcond.2.1 uss (fun us hm => by
            obtain ⟨i, hi, rfl⟩ := List.getElem_of_mem hm
            obtain ⟨y, _, _, h3, _⟩ := hus' i uss[i] (by simp [hi])
            exact h3) (by rw [hl, hel]) (fun i us hi => by
            obtain ⟨y, _, _, _, h5⟩ := hus' i us hi
            exact h5)
      · cases h
    case h_9 fs hu =>
      rename_i cs _ _
      split at h
      · rename_i hl
        simp only [Option.map_eq_some_iff] at h
        obtain ⟨xs, hx, rfl⟩ := h
        rw [hu] at hm
        have hxl : xs.length = fs.size := by
          have := mapM_len hx
          simpa using this
        have each : ∀ (i : Nat) y, xs[i]? = some y → ∃ us f, fs[i]? = some f ∧ Sh P f.type y.1 us ∧ PW (kap0 w) w.heap us ((cs.drop f.offset).take (P.cellsOf f.type)) := fun i y hi => by
          have hlt : i < fs.size := hxl ▸ (List.getElem?_eq_some_iff.1 hi).1
          have hf : fs.toList[i]? = some fs[i] := by simp [hlt]
          have := mapM_some_get hx i fs[i] hf
          rw [hi] at this
          obtain ⟨us, h1, h2⟩ := ih _ _ _ (hm.2 fs[i] (by simp)) (fun v hv _ => hsp v (List.mem_of_mem_drop (List.mem_of_mem_take hv)) (.inr (.inl ⟨fs, hu⟩))) this
          exact ⟨us, fs[i], by simp [hlt], h1, h2⟩
        obtain ⟨uss, hl2, hus⟩ := choose_list (R := fun i y us => ∃ f, fs[i]? = some f ∧ Sh P f.type y.1 us ∧ PW (kap0 w) w.heap us ((cs.drop f.offset).take (P.cellsOf f.type))) xs 0 (fun i y hi => by simpa using each i y hi)
        refine ⟨uss.flatten, .st hu (xs.map (·.1)) uss (by simpa using hxl) (by rw [hl2, hxl]) (fun i f d us h1 h2 h3 => ?_), ?_⟩
        · have hlt : i < xs.length := hl2 ▸ (List.getElem?_eq_some_iff.1 h3).1
          obtain ⟨f', h4, h5, _⟩ := hus i xs[i] us (by simp [hlt]) h3
          simp only [Nat.zero_add] at h4
          rw [h1] at h4; cases h4
          simp only [List.getElem?_map, show xs[i]? = some xs[i] by simp [hlt], Option.map_some, Option.some.injEq] at h2
          subst h2; exact h5
        · have e := tile_parts (P := P) fs.toList 0 (P.cellsOf t) cs hm.1 hl
          rw [List.drop_zero] at e
          rw [← e]
          refine PW.flatten (by simp [hl2, hxl]) (fun i us c h1 h2 => ?_)
          have hlt : i < xs.length := hl2 ▸ (List.getElem?_eq_some_iff.1 h1).1
          obtain ⟨f', h4, _, h6⟩ := hus i xs[i] us (by simp [hlt]) h1
          simp only [Nat.zero_add] at h4
          simp only [List.getElem?_map, Array.getElem?_toList, h4, Option.map_some, Option.some.injEq] at h2
          subst h2; exact h6
      · cases h
    case h_10 m e hu =>
      rename_i cs _ _
      split at h
      · rename_i hl
        simp only [Option.map_eq_some_iff] at h
        obtain ⟨xs, hx, rfl⟩ := h
        rw [hu] at hm
        have hxl : xs.length = m := by
          have := mapM_len hx
          simpa using this
        have each : ∀ (i : Nat) y, xs[i]? = some y → ∃ us, Sh P e y.1 us ∧ PW (kap0 w) w.heap us ((cs.drop (i * P.cellsOf e)).take (P.cellsOf e)) := fun i y hi => by
          have hlt : i < m := hxl ▸ (List.getElem?_eq_some_iff.1 hi).1
          have := mapM_some_get hx i i (by simp [hlt])
          rw [hi] at this
          obtain ⟨us, h1, h2⟩ := ih _ _ _ hm.2 (fun v hv _ => hsp v (List.mem_of_mem_drop (List.mem_of_mem_take hv)) (.inr (.inr ⟨m, e, hu⟩))) this
          exact ⟨us, h1, h2⟩
        obtain ⟨uss, hl2, hus⟩ := choose_list (R := fun i y us => Sh P e y.1 us ∧ PW (kap0 w) w.heap us ((cs.drop (i * P.cellsOf e)).take (P.cellsOf e))) xs 0 (fun i y hi => by simpa using each i y hi)
        refine ⟨uss.flatten, .arr hu (xs.map (·.1)) uss (by simpa using hxl) (by rw [hl2, hxl]) (fun i d us h2 h3 => ?_), ?_⟩
        · have hlt : i < xs.length := hl2 ▸ (List.getElem?_eq_some_iff.1 h3).1
          obtain ⟨h5, _⟩ := hus i xs[i] us (by simp [hlt]) h3
          simp only [List.getElem?_map, show xs[i]? = some xs[i] by simp [hlt], Option.map_some, Option.some.injEq] at h2
          subst h2; exact h5
        · have e' := range_parts (P.cellsOf e) m cs (by rw [hl, ← hm.1])
          rw [← e']
          refine PW.flatten (by simp [hl2, hxl]) (fun i us c h1 h2 => ?_)
          have hlt : i < xs.length := hl2 ▸ (List.getElem?_eq_some_iff.1 h1).1
          obtain ⟨_, h6⟩ := hus i xs[i] us (by simp [hlt]) h1
          have hm' : i < m := hxl ▸ hlt
          simp only [List.getElem?_map, List.getElem?_range hm', Option.map_some, Option.some.injEq] at h2
          subst h2
          simpa using h6
      · cases h
    case h_11 hu => cases h; exact ⟨_, .oth (by rw [hu]; trivial), one _ rfl⟩
    case h_12 hu => exact ⟨_, .oth (by rw [hu]; trivial), one _ rfl⟩
    case h_13 hu => exact ⟨_, .oth (by rw [hu]; trivial), one _ rfl⟩
    case h_14 hu => exact ⟨_, .oth (by rw [hu]; trivial), one _ rfl⟩
    case h_15 hu => exact ⟨_, .oth (by rw [hu]; trivial), one _ rfl⟩
    case h_16 hu => exact ⟨_, .oth (by rw [hu]; trivial), one _ rfl⟩
    case h_17 hu => exact ⟨_, .oth (by rw [hu]; trivial), one _ rfl⟩
    case h_18 hu => exact ⟨_, .oth (by rw [hu]; trivial), one _ rfl⟩
    case h_19 hu => exact ⟨_, .oth (by rw [hu]; trivial), one _ rfl⟩
    case h_20 hu => exact ⟨_, .oth (by rw [hu]; trivial), one _ rfl⟩
    case h_21 => cases h
end
end Go.Am
