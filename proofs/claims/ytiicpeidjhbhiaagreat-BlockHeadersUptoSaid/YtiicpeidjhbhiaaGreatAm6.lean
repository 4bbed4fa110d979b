/-
  THE ABSTRACT MACHINE, PART 6: the operations that read, make and build.
-/
import Derived.Test.YtiicpeidjhbhiaaGreatAm5
namespace Go.Am
open Go

theorem splice_get (cs : List V) (off : Nat) (xs : List V) (h : off + xs.length ≤ cs.length) (i : Nat) :
    (splice cs off xs)[i]? = if i < off then cs[i]? else if i < off + xs.length then xs[i - off]? else cs[i]? := by
  unfold splice
  by_cases h1 : i < off
  · rw [if_pos h1, List.append_assoc, List.getElem?_append_left (by simp; omega), List.getElem?_take_of_lt h1]
  · rw [if_neg h1]
    have hl : (List.take off cs).length = off := by simp; omega
    by_cases h2 : i < off + xs.length
    · rw [if_pos h2, List.getElem?_append_left (by simp; omega), List.getElem?_append_right (by omega), hl]
    · rw [if_neg h2, List.getElem?_append_right (by simp; omega), List.getElem?_drop]
      congr 1; simp; omega

theorem splice_length (cs : List V) (off : Nat) (xs : List V) (h : off + xs.length ≤ cs.length) : (splice cs off xs).length = cs.length := by
  unfold splice; simp; omega

theorem fold_set (off : Nat) : ∀ (l : List Value) (k : Nat) (arr : Array Value),
    ((l.zipIdx k).foldl (fun (cs : Array Value) (x : Value × Nat) => cs.setIfInBounds (off + x.2) x.1) arr).size = arr.size ∧
    ∀ i : Nat, i < arr.size → ((l.zipIdx k).foldl (fun (cs : Array Value) (x : Value × Nat) => cs.setIfInBounds (off + x.2) x.1) arr)[i]? =
      if off + k ≤ i ∧ i < off + k + l.length then l[i - off - k]? else arr[i]? := by
  intro l
  induction l with
  | nil => intro k arr; exact ⟨rfl, fun i _ => by simp; intro a b; omega⟩
  | cons c l ih =>
    intro k arr
    simp only [List.zipIdx_cons, List.foldl_cons]
    obtain ⟨h1, h2⟩ := ih (k + 1) (arr.setIfInBounds (off + k) c)
    refine ⟨by rw [h1]; simp, fun i hi => ?_⟩
    rw [h2 i (by simpa using hi)]
    by_cases e : i = off + k
    · subst e
      rw [if_neg (by omega), if_pos (by simp)]
      simp [hi]
    · by_cases hr : off + (k + 1) ≤ i ∧ i < off + (k + 1) + l.length
      · rw [if_pos hr, if_pos (by simp; omega)]
        rw [show i - off - k = (i - off - (k + 1)) + 1 from by omega]; simp
      · rw [if_neg hr, if_neg (by simp; omega), Array.getElem?_setIfInBounds, if_neg (by omega)]

/-- Parts that are laid into cells. -/
theorem fill_sound {κ : Kap} {H : Array Obj} (place : Nat → Option (Nat × Nat)) : ∀ (parts : List (Nat × V)) (parts' : List (Nat × Value)) (cells : List V) (arr : Array Value) (out : List V),
    fillV place cells parts = some out → PW κ H cells arr.toList → parts.length = parts'.length →
    (∀ (i : Nat) p q, parts[i]? = some p → parts'[i]? = some q → p.1 = q.1 ∧ RV κ H p.2 q.2) →
    ∃ arr', Instr.fill place arr parts' = some arr' ∧ PW κ H out arr'.toList := by
  intro parts
  induction parts with
  | nil =>
    intro parts' cells arr out h hp hl _
    cases parts' with
    | nil => simp only [fillV] at h; cases h; exact ⟨arr, rfl, hp⟩
    | cons _ _ => simp at hl
  | cons p parts ih =>
    intro parts' cells arr out h hp hl he
    cases parts' with
    | nil => simp at hl
    | cons q parts' =>
      obtain ⟨i, v⟩ := p
      obtain ⟨i', v'⟩ := q
      obtain ⟨e1, e2⟩ := he 0 _ _ rfl rfl
      dsimp only at e1 e2
      subst e1
      simp only [fillV] at h
      cases hpl : place i with
      | none => rw [hpl] at h; cases h
      | some x =>
        obtain ⟨off, size⟩ := x
        rw [hpl] at h
        dsimp only at h
        cases hc : (v.flat && Nat.beq v.cells.length size && Nat.ble (off + size) cells.length) with
        | false => rw [hc] at h; cases h
        | true =>
          rw [hc] at h
          simp only [cond_true] at h
          simp only [Bool.and_eq_true] at hc
          obtain ⟨⟨hf, hs⟩, hb⟩ := hc
          have hs := Nat.eq_of_beq_eq_true hs
          have hb := Nat.le_of_ble_eq_true hb
          have pc := pw_cells e2 hf
          have sz : v'.cells.size = size := by rw [← hs, pc.1]; simp
          have al : cells.length = arr.size := by simpa using hp.1
          obtain ⟨f1, f2⟩ := fold_set off v'.cells.toList 0 arr
          have hfold : v'.cells.zipIdx.foldl (fun (cs : Array Value) (x : Value × Nat) => cs.setIfInBounds (off + x.2) x.1) arr = (v'.cells.toList.zipIdx 0).foldl (fun (cs : Array Value) (x : Value × Nat) => cs.setIfInBounds (off + x.2) x.1) arr := by
            rw [← Array.foldl_toList, Array.toList_zipIdx]
          have hpn : PW κ H (splice cells off v.cells) (v'.cells.zipIdx.foldl (fun (cs : Array Value) (x : Value × Nat) => cs.setIfInBounds (off + x.2) x.1) arr).toList := by
            rw [hfold]
            refine ⟨by rw [splice_length _ _ _ (by omega), al]; exact (Eq.trans (Array.length_toList) f1).symm, fun j c u h1 h2 => ?_⟩
            rw [splice_get _ _ _ (by omega)] at h1
            rw [Array.getElem?_toList] at h2
            have hj : j < arr.size := by
              have := (Array.getElem?_eq_some_iff.1 h2).1; omega
            rw [f2 j hj] at h2
            have vl : v'.cells.toList.length = v.cells.length := by simp [sz, hs]
            by_cases a1 : j < off
            · rw [if_pos a1] at h1; rw [if_neg (by omega)] at h2
              exact hp.2 j c u h1 (by simpa using h2)
            · rw [if_neg a1] at h1
              by_cases a2 : j < off + v.cells.length
              · rw [if_pos a2] at h1; rw [if_pos (by omega)] at h2
                exact pc.2 _ c u h1 (by simpa using h2)
              · rw [if_neg a2] at h1; rw [if_neg (by omega)] at h2
                exact hp.2 j c u h1 (by simpa using h2)
          obtain ⟨arr', h3, h4⟩ := ih parts' _ _ out h hpn (by simpa using hl) (fun k p q a b => he (k + 1) p q (by simpa using a) (by simpa using b))
          refine ⟨arr', ?_, h4⟩
          simp only [Instr.fill, hpl]
          rw [if_neg (by simp; omega)]
          exact h3

section ops
variable {P : Program} {κ : Kap} {st st' : St} {w : World} {v : V} {rd rd' : List Nat}

/-- New memory with a name, cells in it. -/
theorem new_blk (i : Inv P κ st.h.get w.heap) {cs : List V} {arr : Array Value} {e : TypeId} (hp : PW κ w.heap cs arr.toList) (hn : κ.ρ st.nx = none) (k : Nat → V) (k' : Nat → Value)
    (hk : ∀ κ' H', κ'.ρ st.nx = some w.heap.size → hz H' w.heap.size = some arr.size → RV κ' H' (k st.nx) (k' w.heap.size)) :
    OpR P κ st w (.ok (.value (k' w.heap.size)) (w.alloc (.cells arr e))) (k st.nx) (st.newO (.blk cs)) := by
  have x := ext_add i (.cells arr e) st.nx 0 0 hn
  obtain ⟨i', f'⟩ := inv_add i (.cells arr e) st.nx 0 0 (.blk cs) hn ⟨arr, e, arr.toList, push_new _ _, hp.mono x, fun j u h => by simpa using h⟩ (fun j hj => by omega) (fun h => by omega)
  refine ⟨κ.add st.nx w.heap.size 0 0, k' w.heap.size, w.alloc (.cells arr e), .inl rfl, hk _ _ (by simp [Kap.add]) ?_, ?_, ?_⟩
  · unfold hz; rw [show (w.alloc (.cells arr e)).heap = w.heap.push (.cells arr e) from rfl, push_new]
  · simp only [St.newO, get_set_upd]; exact i'
  · simp only [St.newO, get_set_upd]; exact ⟨f', rfl, rfl⟩

theorem op_alloc {t : TypeId} (h : runA (match zrT P t with | some z => .new (.blk z.cells) fun n => .ret (.ptr n 0) | none => .fail) st rd = .val v st' rd')
    (i : Inv P κ st.h.get w.heap) (f : Free κ st.nx st'.nx) :
    OpR P κ st w ((do let x ← Instr.alloc t true (.tuple #[]); pure (Next.value x) : Sem Next).run P w) v st' := by
  cases hz' : zrT P t with
  | none => rw [hz'] at h; exact (runA_fail h).elim
  | some z =>
    rw [hz'] at h
    obtain ⟨zv, hr, rfl⟩ := zrT_run hz' w
    obtain ⟨h0, h1⟩ := runA_new h
    obtain ⟨rfl, rfl⟩ := runA_ret h1
    have := new_blk (e := t) i (pw_zero κ w.heap zv) (f st.nx (Nat.le_refl _) (by simp [St.newO])) (fun n => .ptr n 0) (fun b => .pointer (some ⟨b, 0, none⟩)) (fun κ' H' a _ => .ptr _ _ _ a)
    simpa [Instr.alloc, hr, newVar, newRow] using this

theorem op_box {t : TypeId} {x : V} {x' : Value} (h : runA (bif x.flat then .new (.blk x.cells) fun n => .ret (.ptr n 0) else .fail) st rd = .val v st' rd')
    (i : Inv P κ st.h.get w.heap) (hx : RV κ w.heap x x') (f : Free κ st.nx st'.nx) :
    OpR P κ st w ((do let x ← Instr.box t x'; pure (Next.value x) : Sem Next).run P w) v st' := by
  cases hf : x.flat with
  | false => rw [hf] at h; exact (runA_fail h).elim
  | true =>
    rw [hf] at h
    obtain ⟨h0, h1⟩ := runA_new h
    obtain ⟨rfl, rfl⟩ := runA_ret h1
    have := new_blk (e := t) i (pw_cells hx hf) (f st.nx (Nat.le_refl _) (by simp [St.newO])) (fun n => .ptr n 0) (fun b => .pointer (some ⟨b, 0, none⟩)) (fun κ' H' a _ => .ptr _ _ _ a)
    simpa [Instr.box, newVar, newRow] using this

/-- Cells that are read. -/
theorem run_takeCells {κ : Kap} {H : Array Obj} {t : TypeId} {d : TypeDesc} {sz b o off : Nat} {cs : List V} {vs : List Value} {v : V} (hu : P.underlying t = some d) (hs : szT P t = some sz)
    (h : takeCells cs off (isAggD d) sz = some v) (hp : PW κ H cs vs) (hv : ∀ (i : Nat) u, vs[i]? = some u → w.cell? ⟨b, o + i, none⟩ = some u) :
    ∃ v', (loadVar t ⟨b, o + off, none⟩).run P w = .ok v' w ∧ RV κ H v v' := by
  unfold takeCells at h
  cases hd : isAggD d with
  | true =>
    rw [hd] at h
    simp only [cond_true, cond_beq] at h
    split at h
    · rename_i hlen
      cases h
      have hp' := (hp.drop off).take sz
      have hl : (loadCells ⟨b, o + off, none⟩ (List.take sz (List.drop off vs)).length).run P w = .ok (List.take sz (List.drop off vs)).toArray w :=
        run_loadCells_list (P := P) w ⟨b, o + off, none⟩ _ (fun j u hj => by
          rw [Addr.add_mid]
          rw [List.getElem?_take] at hj
          split at hj
          · rw [List.getElem?_drop] at hj; rw [Nat.add_assoc]; exact hv _ u hj
          · cases hj)
      rw [← hp'.1, hlen] at hl
      exact ⟨_, by simp [loadVar, run_agg hu, hd, run_szT hs, hl], RV.agg' hp'⟩
    · cases h
  | false =>
    rw [hd] at h
    simp only [cond_false] at h
    obtain ⟨u, h1, h2⟩ := hp.get h
    exact ⟨u, by simp [loadVar, run_agg hu, hd, hv off u h1], h2⟩

theorem blk_cells (i : Inv P κ st.h.get w.heap) {n b : Nat} {cs : List V} (hn : st.h.get n = some (.blk cs)) (hr : κ.ρ n = some b) :
    ∃ vs, PW κ w.heap cs vs ∧ ∀ (j : Nat) u, vs[j]? = some u → w.cell? ⟨b, 0 + j, none⟩ = some u := by
  obtain ⟨b', hr', arr, e, vs, h1, h2, h3⟩ := i.obj n _ hn
  rw [hr] at hr'; cases hr'
  exact ⟨vs, h2, fun j u hj => by rw [cell_hc, Nat.zero_add]; simp [hc, h1, h3 j u hj]⟩

theorem iptr_cells {cs : List V} {off : Nat} {x' : Value} (h : RV κ w.heap (.iptr cs off) x') :
    ∃ b o vs, x' = .pointer (some ⟨b, o + off, none⟩) ∧ PW κ w.heap cs vs ∧ ∀ (j : Nat) u, vs[j]? = some u → w.cell? ⟨b, o + j, none⟩ = some u := by
  cases h with
  | iptr _ _ b o vs hl hI hv he => exact ⟨b, o, vs, rfl, ⟨hl, he⟩, fun j u hj => by rw [cell_hc]; exact hv j u hj⟩

theorem loadA_sound {t : TypeId} {x : V} {x' : Value} (h : runA (loadA P t x) st rd = .val v st' rd') (i : Inv P κ st.h.get w.heap) (hx : RV κ w.heap x x') :
    st' = st ∧ ∃ a v', x' = .pointer (some a) ∧ (loadVar t a).run P w = .ok v' w ∧ RV κ w.heap v v' := by
  unfold loadA at h
  split at h
  · rename_i d sz hu hs
    split at h
    · rename_i n off
      obtain ⟨o, ho, h1⟩ := runA_get h
      split at h1
      · rename_i cs
        obtain ⟨h2, rfl⟩ := runA_rt h1
        obtain ⟨b, hr, rfl⟩ := hx.inv_ptr
        obtain ⟨vs, p1, p2⟩ := blk_cells i ho hr
        obtain ⟨v', q1, q2⟩ := run_takeCells (w := w) hu hs h2 p1 p2
        exact ⟨rfl, _, v', rfl, by simpa using q1, q2⟩
      · exact (runA_fail h1).elim
    · rename_i cs off
      obtain ⟨h2, rfl⟩ := runA_rt h
      obtain ⟨b, o, vs, rfl, p1, p2⟩ := iptr_cells hx
      obtain ⟨v', q1, q2⟩ := run_takeCells (w := w) hu hs h2 p1 p2
      exact ⟨rfl, _, v', rfl, q1, q2⟩
    · exact (runA_fail h).elim
  · exact (runA_fail h).elim

theorem op_load {t : TypeId} {x : V} {x' : Value} (h : runA (loadA P t x) st rd = .val v st' rd') (i : Inv P κ st.h.get w.heap) (hx : RV κ w.heap x x') :
    OpR P κ st w ((do let x ← Instr.loadAt t x'; pure (Next.value x) : Sem Next).run P w) v st' := by
  obtain ⟨rfl, a, v', rfl, h1, h2⟩ := loadA_sound h i hx
  have := OpR.pure i h2
  simpa [Instr.loadAt, Instr.sureAddr, h1] using this

/-- A block of ours, its cells written. -/
theorem setCells_heap (w : World) (b : Nat) : ∀ (vs : List Value) (o : Nat), (w.setCells b o vs).heap.size = w.heap.size ∧ (∀ c, c ≠ b → (w.setCells b o vs).heap[c]? = w.heap[c]?) ∧
    ∀ arr e fz, w.heap[b]? = some (.cells arr e fz) → ∃ arr' : Array Value, (w.setCells b o vs).heap[b]? = some (.cells arr' e fz) ∧ arr'.size = arr.size ∧
      ∀ j : Nat, j < arr.size → arr'[j]? = if o ≤ j ∧ j < o + vs.length then vs[j - o]? else arr[j]? := by
  intro vs
  induction vs generalizing w with
  | nil => intro o; exact ⟨rfl, fun _ _ => rfl, fun arr e fz h => ⟨arr, h, rfl, fun j _ => by rw [if_neg (by simp)]⟩⟩
  | cons v vs ih =>
    intro o
    rw [World.setCells]
    obtain ⟨h1, h2, h3⟩ := ih (w.setCell ⟨b, o, none⟩ v) (o + 1)
    refine ⟨by rw [h1]; simp, fun c hc => by rw [h2 c hc]; simp [World.setCell, Array.getElem?_modify, Ne.symm hc], fun arr e fz hb => ?_⟩
    have hb' : (w.setCell ⟨b, o, none⟩ v).heap[b]? = some (.cells (arr.setIfInBounds o v) e fz) := by
      simp [World.setCell, Array.getElem?_modify, hb]
    obtain ⟨arr', a1, a2, a3⟩ := h3 _ _ _ hb'
    refine ⟨arr', a1, by simpa using a2, fun j hj => ?_⟩
    rw [a3 j (by simpa using hj)]
    by_cases e1 : j = o
    · subst e1; rw [if_neg (by omega), if_pos (by simp)]; simp [hj]
    · by_cases e2 : o + 1 ≤ j ∧ j < o + 1 + vs.length
      · rw [if_pos e2, if_pos (by simp; omega), show j - o = (j - (o + 1)) + 1 from by omega]; simp
      · rw [if_neg e2, if_neg (by simp; omega), Array.getElem?_setIfInBounds, if_neg (by omega)]

/-- Cells of ours are turned. -/
theorem put_cells (i : Inv P κ st.h.get w.heap) {n b off : Nat} {cs xs : List V} {vs : List Value} (hn : st.h.get n = some (.blk cs)) (hr : κ.ρ n = some b) (hp : PW κ w.heap xs vs) (hb : off + xs.length ≤ cs.length) :
    w.there b off vs.length ∧ Inv P κ (upd st.h.get n (some (.blk (splice cs off xs)))) (w.setCells b off vs).heap ∧
    Fr κ st.h.get w.heap κ (upd st.h.get n (some (.blk (splice cs off xs)))) (w.setCells b off vs).heap st.nx st.nx ∧ PW κ (w.setCells b off vs).heap xs vs := by
  obtain ⟨b', hr', arr, e, us, h1, h2, h3⟩ := i.obj n _ hn
  rw [hr] at hr'; cases hr'
  obtain ⟨s1, s2, s3⟩ := setCells_heap w b vs off
  obtain ⟨arr', a1, a2, a3⟩ := s3 _ _ _ h1
  have ul : us.length ≤ arr.size := by
    rcases Nat.lt_or_ge arr.size us.length with h | h
    · have := h3 arr.size us[arr.size] (by simp [h])
      have := (Array.getElem?_eq_some_iff.1 this).1; omega
    · exact h
  have key : Ext κ w.heap κ (w.setCells b off vs).heap → OB P κ (w.setCells b off vs).heap n b (.blk (splice cs off xs)) := fun x => by
    refine ⟨arr', e, (us.take off ++ vs ++ us.drop (off + vs.length)), a1, ?_, fun j u hj => ?_⟩
    · have := ((h2.take off).append hp).append (h2.drop (off + vs.length))
      rw [← hp.1] at this ⊢
      exact this.mono x
    · have hul := h2.1
      have hpl := hp.1
      by_cases j1 : j < off
      · rw [List.append_assoc, List.getElem?_append_left (by simp; omega), List.getElem?_take_of_lt j1] at hj
        rw [a3 j (by omega), if_neg (by omega)]; exact h3 j u hj
      · by_cases j2 : j < off + vs.length
        · rw [List.getElem?_append_left (by simp; omega), List.getElem?_append_right (by simp; omega)] at hj
          rw [a3 j (by omega), if_pos (by omega)]
          have : j - (List.take off us).length = j - off := by simp; omega
          rwa [this] at hj
        · rw [List.getElem?_append_right (by simp; omega), List.getElem?_drop] at hj
          have : off + vs.length + (j - (List.take off us ++ vs).length) = j := by simp; omega
          rw [this] at hj
          have := h3 j u hj
          rw [a3 j (Array.getElem?_eq_some_iff.1 this).1, if_neg (by omega)]; exact this
  obtain ⟨i', f'⟩ := inv_put i n b (.blk cs) (.blk (splice cs off xs)) (w.setCells b off vs).heap hn hr (by simp) s1 s2 (fun m hm => by simp [hz, h1] at hm; simp [hz, a1, a2, hm]) key st.nx
  refine ⟨fun j hj => ?_, i', f', hp.mono f'.ext⟩
  have hj' : off + j < arr.size := by have := h2.1; have := hp.1; omega
  exact ⟨by rw [cell_hc]; simp [hc, h1, hj'], by simp [World.frozen?, h1]⟩

theorem op_store {t : TypeId} {x y : V} {x' y' : Value} (h : runA (storeA P t x y) st rd = .val v st' rd') (i : Inv P κ st.h.get w.heap) (hx : RV κ w.heap x x') (hy : RV κ w.heap y y') :
    OpR P κ st w ((do Instr.storeAt t x' y'; pure Next.skip : Sem Next).run P w) v st' := by
  unfold storeA at h
  split at h
  · rename_i sz n off hs
    obtain ⟨o, ho, h1⟩ := runA_get h
    split at h1
    · rename_i cs
      cases hcond : (Nat.beq y.cells.length sz && Nat.ble (off + sz) cs.length && y.cells.all V.one) with
      | false => rw [hcond] at h1; exact (runA_fail h1).elim
      | true =>
        rw [hcond] at h1
        simp only [cond_true] at h1
        simp only [Bool.and_eq_true, List.all_eq_true] at hcond
        obtain ⟨⟨c1, c2⟩, c3⟩ := hcond
        have c1 := Nat.eq_of_beq_eq_true c1
        have c2 := Nat.le_of_ble_eq_true c2
        obtain ⟨_, h2⟩ := runA_put h1
        obtain ⟨rfl, rfl⟩ := runA_ret h2
        obtain ⟨b, hr, rfl⟩ := hx.inv_ptr
        have hf : y.flat = true := by
          cases y <;> simp_all [V.flat, V.cells, V.one]
        have pc := pw_cells hy hf
        have hbd : off + y.cells.length ≤ cs.length := by omega
        obtain ⟨q1, q2, q3, _⟩ := put_cells i ho hr pc hbd
        have one : ∀ u ∈ y'.cells.toList, u.oneCell' = true := fun u hu => by
          obtain ⟨j, hj, rfl⟩ := List.getElem_of_mem hu
          have hj' : j < y.cells.length := by rw [pc.1]; exact hj
          exact one_cell (pc.2 j y.cells[j] _ (by simp [hj']) (by simp)) (c3 _ (List.getElem_mem hj'))
        have run : (storeVar t ⟨b, off, none⟩ y').run P w = .ok () (w.setCells b off y'.cells.toList) := by
          have st := run_storeCells_cells (P := P) b off y'.cells.toList 0 w (fun j hj => (q1 j hj).1) (fun j hj => (q1 j hj).2) one
          have hsz : y'.cells.size = sz := by rw [← c1, pc.1]; simp
          simp only [Nat.add_zero] at st
          simp [storeVar, run_szT hs, hsz, st]
        refine ⟨κ, undef, w.setCells b off y'.cells.toList, .inr ⟨?_, rfl⟩, .und _, ?_, ?_⟩
        · simp [Instr.storeAt, Instr.sureAddr, run]
        · simp only [St.putO, get_set_upd]; exact q2
        · simp only [St.putO, get_set_upd]; exact ⟨q3, kp_setCells _ _ _ _⟩
    · exact (runA_fail h1).elim
  · exact (runA_fail h).elim
end ops
end Go.Am
