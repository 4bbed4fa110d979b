/-
  THE ABSTRACT MACHINE, PART 26: what is read of memory that stays reads as it did; whatever comes in is something.
-/
import Derived.Test.YtiicpeidjhbhiaaGreatAm25
import Derived.DataShut
namespace Go.Am
open Go Go.ChangeShapes Go.WideShapes Go.ChangeAt Go.RowKit

section
variable {H : Type} {enc : TypeId × Value → H} {P : Program} {w w' : World} {base : Nat} {sp : Nat → Bool} {G : TypeId → Prop}

theorem mapM_some_of {α β : Type} {f g : α → Option β} : ∀ {l : List α} {r : List β}, l.mapM f = some r → (∀ a ∈ l, ∀ y ∈ r, f a = some y → g a = some y) → l.mapM g = some r := by
  intro l
  induction l with
  | nil => intro r h _; simpa using h
  | cons a as ih =>
    intro r h hg
    rw [List.mapM_cons] at h
    cases ha : f a with
    | none => simp [ha] at h
    | some b =>
      cases has : as.mapM f with
      | none => simp [ha, has] at h
      | some bs =>
        simp [ha, has] at h
        subst h
        rw [List.mapM_cons, hg a (by simp) b (by simp) ha, ih has (fun a' h1 y h2 => hg a' (by simp [h1]) y (by simp [h2]))]
        rfl

theorem mapM_len {α β : Type} {f : α → Option β} : ∀ {l : List α} {r : List β}, l.mapM f = some r → r.length = l.length := by
  intro l
  induction l with
  | nil => intro r h; simp at h; subst h; rfl
  | cons a as ih =>
    intro r h
    rw [List.mapM_cons] at h
    cases ha : f a with
    | none => simp [ha] at h
    | some b =>
      cases has : as.mapM f with
      | none => simp [ha, has] at h
      | some bs =>
        simp [ha, has] at h
        subst h
        simp [ih has]

theorem cell_stays (hs : ∀ b, b < w.heap.size → w'.heap[b]? = w.heap[b]?) {a : Addr} {v : Value} (h : w.cell? a = some v) : w'.cell? a = some v := by
  have hb := World.block_lt_of_cell? w a h
  unfold World.cell? at h ⊢
  rw [hs _ hb]; exact h

theorem cells_stays (hs : ∀ b, b < w.heap.size → w'.heap[b]? = w.heap[b]?) {a : Addr} {n : Nat} {cs : List Value} (h : w.cells? base a n = some cs) : w'.cells? base a n = some cs := by
  obtain ⟨hb, hl, hc⟩ := World.cells?_some h
  refine World.cells?_of_each hb hl (fun i hi => ?_)
  have h1 := hc i hi
  have h2 : cs[i]? = some (cs[i]'(by omega)) := by simp
  rw [h2] at h1 ⊢
  exact cell_stays hs h1

/-- Types whose parts are such types too; lists are of elements that have cells. -/
def Parts (P : Program) (G : TypeId → Prop) (t : TypeId) : Prop := match P.underlying t with
  | some (.slice e) => 0 < P.cellsOf e ∧ G e
  | some (.pointer e) => G e
  | some (.array _ e) => G e
  | some (.map _ e) => G e
  | some (.struct fs) => ∀ f ∈ fs.toList, G f.type
  | _ => True

theorem trodStep_stays (hs : ∀ b, b < w.heap.size → w'.heap[b]? = w.heap[b]?) (hz : ∀ t, G t → Parts P G t) {r r' : TypeId → List Value → Option (DataW H × List MemPlace)}
    (hr : ∀ t cs x, G t → r t cs = some x → (∀ p ∈ x.2, sp p.block = true) → r' t cs = some x) {t : TypeId} (hG : G t) {cs : List Value} {x : DataW H × List MemPlace}
    (h : DataW.trodStep enc P w base (fun _ => true) true r t cs = some x) (hp : ∀ p ∈ x.2, sp p.block = true) : DataW.trodStep enc P w' base sp true r' t cs = some x := by
  have hparts := hz t hG
  unfold Parts at hparts
  unfold DataW.trodStep at h ⊢
  split at h
  case h_1 hu => first | exact h | (simp only [hu]; exact h)
  case h_2 hu => first | exact h | (simp only [hu]; exact h)
  case h_3 hu => first | exact h | (simp only [hu]; exact h)
  case h_4 hu => first | exact h | (simp only [hu]; exact h)
  case h_5 hu => first | exact h | (simp only [hu]; exact h)
  case h_6 e a hu =>
    try simp only [hu]
    simp only [Option.map_eq_some_iff, Option.bind_eq_some_iff] at h ⊢
    obtain ⟨y, ⟨cs', hc, hy⟩, rfl⟩ := h
    rw [hu] at hparts
    exact ⟨y, ⟨cs', cells_stays hs hc, hr _ _ _ hparts hy (fun p h => hp p (by simp [h]))⟩, rfl⟩
  case h_7 hu => first | exact h | (simp only [hu]; exact h)
  case h_8 e a len cap hu =>
    try simp only
    simp only at h
    split at h
    · rename_i hcond
      rw [if_pos hcond]
      simp only [if_true, Option.map_eq_some_iff, Option.bind_eq_some_iff] at h
      obtain ⟨elems, he, rest, hrest, rfl⟩ := h
      rw [hu] at hparts
      have one : ∀ i y, (w.cells? base (a.add (i * P.cellsOf e)) (P.cellsOf e)).bind (r e) = some y → (∀ p ∈ y.2, sp p.block = true) → (w'.cells? base (a.add (i * P.cellsOf e)) (P.cellsOf e)).bind (r' e) = some y := fun i y hy hpy => by
        simp only [Option.bind_eq_some_iff] at hy ⊢
        obtain ⟨cs', hc, hy⟩ := hy
        exact ⟨cs', cells_stays hs hc, hr _ _ _ hparts.2 hy hpy⟩
      have he' := mapM_some_of (g := fun i => (w'.cells? base (a.add (i * P.cellsOf e)) (P.cellsOf e)).bind (r' e)) he (fun i _ y hy h => one i y h (fun p hpy => hp p (by
        refine List.mem_append_right _ (List.mem_flatMap.2 ⟨y, by simp [hy], hpy⟩))))
      have hrest' := mapM_some_of (g := fun j => (w'.cells? base (a.add ((len + j) * P.cellsOf e)) (P.cellsOf e)).bind (r' e)) hrest (fun i _ y hy h => one (len + i) y h (fun p hpy => hp p (by
        refine List.mem_append_right _ (List.mem_flatMap.2 ⟨y, by simp [hy], hpy⟩))))
      rw [he']
      simp only [Option.bind_some]
      cases hsp : sp a.block with
      | true => rw [if_pos rfl, hrest']; rfl
      | false =>
        have hl1 : elems.length = len := by
          have := mapM_len he
          simpa using this
        have hl2 : rest.length = cap - len := by
          have := mapM_len hrest
          simpa using this
        have : (elems.length + rest.length) * P.cellsOf e = 0 := by
          rcases Nat.eq_zero_or_pos ((elems.length + rest.length) * P.cellsOf e) with h0 | h0
          · exact h0
          · have := hp (.cell a.block (a.off + 0)) (List.mem_append_left _ (MemPlace.mem_row.2 ⟨0, h0, rfl⟩))
            simp only [MemPlace.block] at this
            rw [hsp] at this; cases this
        have hpos := hparts.1
        have : rest.length = 0 := by
          rcases Nat.mul_eq_zero.1 this with h | h <;> omega
        have : rest = [] := List.length_eq_zero_iff.1 this
        subst this
        rw [if_neg (by simp)]
        rfl
    · cases h
  case h_9 fs hu =>
    try simp only [hu]
    split at h
    · rename_i hl
      rw [if_pos hl]
      simp only [Option.map_eq_some_iff] at h ⊢
      obtain ⟨xs, hx, rfl⟩ := h
      rw [hu] at hparts
      exact ⟨xs, mapM_some_of hx (fun f hf y hy h => hr _ _ _ (hparts f hf) h (fun p hpy => hp p (List.mem_flatMap.2 ⟨y, hy, hpy⟩))), rfl⟩
    · cases h
  case h_10 n e hu =>
    try simp only [hu]
    split at h
    · rename_i hl
      rw [if_pos hl]
      simp only [Option.map_eq_some_iff] at h ⊢
      obtain ⟨xs, hx, rfl⟩ := h
      rw [hu] at hparts
      exact ⟨xs, mapM_some_of hx (fun f _ y hy h => hr _ _ _ hparts h (fun p hpy => hp p (List.mem_flatMap.2 ⟨y, hy, hpy⟩))), rfl⟩
    · cases h
  case h_11 hu => first | exact h | (simp only [hu]; exact h)
  case h_12 hu => first | exact h | (simp only [hu]; exact h)
  case h_13 hu => first | exact h | (simp only [hu]; exact h)
  case h_14 k e b hu =>
    try simp only
    split at h
    · rename_i es clock hb
      have hlt : b < w.heap.size := (Array.getElem?_eq_some_iff.1 hb).1
      rw [hs b hlt, hb]
      dsimp only
      split at h
      · rename_i hc
        rw [if_pos hc]
        simp only [Option.bind_eq_some_iff] at h ⊢
        obtain ⟨entries, he, hd⟩ := h
        refine ⟨entries, mapM_some_of he (fun q _ y hy h => ?_), hd⟩
        simp only [Option.bind_eq_some_iff] at h ⊢
        obtain ⟨key, hk, hv⟩ := h
        refine ⟨key, hk, ?_⟩
        split at hv
        · rename_i hf
          rw [if_pos hf]
          simp only [Option.map_eq_some_iff] at hv ⊢
          obtain ⟨z, hz', rfl⟩ := hv
          rw [hu] at hparts
          refine ⟨z, hr _ _ _ hparts hz' (fun p hpz => hp p ?_), rfl⟩
          split at hd
          · cases hd
            exact List.mem_cons_of_mem _ (List.mem_flatMap.2 ⟨_, hy, hpz⟩)
          · cases hd
        · cases hv
      · cases h
    · cases h
  case h_15 hu => first | exact h | (simp only [hu]; exact h)
  case h_16 hu => first | exact h | (simp only [hu]; exact h)
  case h_17 hu => first | exact h | (simp only [hu]; exact h)
  case h_18 hu => first | exact h | (simp only [hu]; exact h)
  case h_19 hu => first | exact h | (simp only [hu]; exact h)
  case h_20 hu => first | exact h | (simp only [hu]; exact h)
  case h_21 => cases h

theorem trod_stays (hs : ∀ b, b < w.heap.size → w'.heap[b]? = w.heap[b]?) (hz : ∀ t, G t → Parts P G t) : ∀ (n : Nat) (t : TypeId) (cs : List Value) (x : DataW H × List MemPlace), G t →
    DataW.trod enc P w base (fun _ => true) true n t cs = some x → (∀ p ∈ x.2, sp p.block = true) → DataW.trod enc P w' base sp true n t cs = some x := by
  intro n
  induction n with
  | zero => intro t cs x _ h; simp [DataW.trod] at h
  | succ n ih =>
    intro t cs x hG h hp
    rw [DataW.trod_step] at h ⊢
    exact trodStep_stays hs hz ih hG h hp

theorem trodAll_stays (hs : ∀ b, b < w.heap.size → w'.heap[b]? = w.heap[b]?) (hz : ∀ t, G t → Parts P G t) : ∀ (ts : List TypeId) (vs : List Value) (ds : List (DataW H)) (ps : List MemPlace), (∀ t ∈ ts, G t) →
    DataW.TrodAll enc P w base (fun _ => true) true ts vs ds ps → (∀ p ∈ ps, sp p.block = true) → DataW.TrodAll enc P w' base sp true ts vs ds ps
  | [], [], [], ps, _, h, _ => h
  | [], [], _ :: _, ps, _, h, _ => h.elim
  | [], _ :: _, _, ps, _, h, _ => h.elim
  | _ :: _, [], _, ps, _, h, _ => h.elim
  | _ :: _, _ :: _, [], ps, _, h, _ => h.elim
  | t :: ts, v :: vs, d :: ds, ps, hG, h, hp => by
    obtain ⟨p, q, ⟨fuel, h1⟩, h2, rfl⟩ := h
    exact ⟨p, q, ⟨fuel, trod_stays hs hz _ _ _ _ (hG t (by simp)) h1 (fun x hx => hp x (by simp [hx]))⟩, trodAll_stays hs hz ts vs ds q (fun u hu => hG u (by simp [hu])) h2 (fun x hx => hp x (by simp [hx])), rfl⟩
end
end Go.Am

namespace Go.Am
open Go

theorem cell_one {P : Program} {w : World} {r : Reach} {base : Nat} {t : TypeId} {v : Value} (h : Cell.okWide P w r base t v) : v.oneCell' = true := by
  cases v with
  | agg cs =>
    exfalso
    unfold Cell.okWide Cell.ok at h
    cases hu : P.underlying t with
    | none => simp [hu] at h
    | some d => cases d <;> simp [hu] at h
  | tuple cs =>
    exfalso
    unfold Cell.okWide Cell.ok at h
    cases hu : P.underlying t with
    | none => simp [hu] at h
    | some d => cases d <;> simp [hu] at h
  | _ => rfl

/-- What comes in, of a type that is no struct and no array. -/
theorem opq_one {P : Program} {w : World} {r : Reach} {base : Nat} {t : TypeId} {v : Value} {d : TypeDesc} (hu : P.underlying t = some d) (hd : isAggD d = false) (h : Value.okWide P w r base t v) (κ : Kap) (H : Array Obj) : RV κ H .opq v := by
  unfold Value.okWide at h
  rw [hu] at h
  refine .opq v (cell_one (P := P) (w := w) (r := r) (base := base) (t := t) ?_)
  cases d <;> simp [isAggD] at hd <;> exact h

/-- .. of a struct's. -/
theorem opq_agg {P : Program} {w : World} {r : Reach} {base : Nat} {t : TypeId} {v : Value} {fs : Array Field} (hu : P.underlying t = some (.struct fs)) (h : Value.okWide P w r base t v) (κ : Kap) (H : Array Obj) : RV κ H (.agg (List.replicate (P.cellsOf t) .opq)) v := by
  unfold Value.okWide at h
  rw [hu] at h
  obtain ⟨cs, rfl, hs, ts, _, _, hc⟩ := h
  refine .agg _ _ (by simp [hs]) (fun i c v h1 h2 => ?_)
  have : c = .opq := List.eq_of_mem_replicate (List.mem_of_getElem? h1)
  subst this
  obtain ⟨u, _, ho⟩ := hc i v h2
  exact .opq v (cell_one ho)
end Go.Am

namespace Go.Am
open Go

def partsOf (P : Program) (t : TypeId) : List TypeId := match P.underlying t with
  | some (.slice e) => [e]
  | some (.pointer e) => [e]
  | some (.array _ e) => [e]
  | some (.map _ e) => [e]
  | some (.struct fs) => fs.toList.map (·.type)
  | _ => []

def goodB (P : Program) (l : List TypeId) : Bool := l.all fun t => (partsOf P t).all (fun u => hasN u l) && (match P.underlying t with | some (.slice e) => Nat.blt 0 (P.cellsOf e) | _ => true)

/-- A type, its parts, their parts. -/
def closeT (P : Program) : Nat → List TypeId → List TypeId
  | 0, l => l
  | n + 1, l => closeT P n ((l.flatMap (partsOf P)).foldl (fun l u => bif hasN u l then l else u :: l) l)

theorem good_parts {P : Program} {l : List TypeId} (h : goodB P l = true) (t : TypeId) (ht : t ∈ l) : Parts P (· ∈ l) t := by
  have := List.all_eq_true.1 h t ht
  rw [Bool.and_eq_true, List.all_eq_true] at this
  obtain ⟨h1, h2⟩ := this
  have h1 : ∀ u ∈ partsOf P t, u ∈ l := fun u hu => (hasN_iff u l).1 (h1 u hu)
  unfold Parts
  unfold partsOf at h1
  split
  · rename_i e hu
    rw [hu] at h1 h2
    exact ⟨Nat.le_of_ble_eq_true h2, h1 e (by simp)⟩
  · rename_i e hu; rw [hu] at h1; exact h1 e (by simp)
  · rename_i e hu; rw [hu] at h1; exact h1 e (by simp)
  · rename_i e hu; rw [hu] at h1; exact h1 e (by simp)
  · rename_i fs hu; rw [hu] at h1; exact fun f hf => h1 f.type (List.mem_map_of_mem hf)
  · trivial
end Go.Am
