/-
  THE ABSTRACT MACHINE, PART 10: structs and lists that are built, conversions, parts of lists.
-/
import Derived.Test.YtiicpeidjhbhiaaGreatAm9
namespace Go.Am
open Go

section ops
variable {P : Program} {κ : Kap} {st st' : St} {w : World} {v : V} {rd rd' : List Nat}

/-- Parts, operand by operand. -/
def PR (κ : Kap) (H : Array Obj) (ps : List (Nat × V)) (qs : List (Nat × Value)) : Prop :=
  ps.length = qs.length ∧ ∀ (i : Nat) p q, ps[i]? = some p → qs[i]? = some q → p.1 = q.1 ∧ RV κ H p.2 q.2

theorem PR.of {H : Array Obj} {ρ : Operand → V} {ρ' : Operand → Value} (hρ : ∀ x, RV κ H (ρ x) (ρ' x)) (parts : Array (Nat × Operand)) :
    PR κ H (parts.toList.map fun p => (p.1, ρ p.2)) (parts.map fun (i, x) => (i, ρ' x)).toList := by
  refine ⟨by simp, fun i p q h1 h2 => ?_⟩
  simp only [Array.toList_map, List.getElem?_map, Option.map_eq_some_iff] at h1 h2
  obtain ⟨a, ha, rfl⟩ := h1
  obtain ⟨b, hb, rfl⟩ := h2
  rw [ha] at hb; cases hb
  exact ⟨rfl, hρ _⟩

theorem run_mapM_list {α β : Type} (f : α → Sem β) (g : α → β) (w : World) : ∀ (l : List α), (∀ a ∈ l, (f a).run P w = .ok (g a) w) → (l.mapM f).run P w = .ok (l.map g) w
  | [], _ => rfl
  | a :: l, h => by
    have ih := run_mapM_list f g w l (fun b hb => h b (by simp [hb]))
    simp only [List.mapM_cons, Sem.run_bind, h a (by simp), Result.andThen_ok, ih, Sem.run_pure, List.map_cons]

theorem run_mapM_array {α β : Type} (f : α → Sem β) (g : α → β) (w : World) (l : Array α) (h : ∀ a ∈ l.toList, (f a).run P w = .ok (g a) w) : (l.mapM f).run P w = .ok (l.toList.map g).toArray w := by
  rw [Array.mapM_eq_mapM_toList, Sem.run_map, run_mapM_list f g w l.toList h]
  rfl

theorem op_build {t : TypeId} {ps : List (Nat × V)} {qs : Array (Nat × Value)} (h : buildV P t ps = some v) (i : Inv P κ st.h.get w.heap) (hp : PR κ w.heap ps qs.toList) :
    OpR P κ st w ((do let r ← Instr.build t qs; pure (Next.value r) : Sem Next).run P w) v st := by
  unfold buildV at h
  cases hz : zrT P t with
  | none => rw [hz] at h; cases h
  | some z =>
    rw [hz] at h
    dsimp only at h
    obtain ⟨zv, hr, rfl⟩ := zrT_run hz w
    split at h
    · rename_i fields hu
      split at h
      · rename_i cs hf
        cases hall : fields.all (fun f => (szT P f.type).isSome) with
        | false => rw [hall] at h; cases h
        | true =>
          rw [hall] at h
          simp only [cond_true] at h
          cases h
          have hsz : ∀ f ∈ fields.toList, ∃ s, szT P f.type = some s := fun f hf' => by
            have := (Array.all_eq_true_iff_forall_mem.1 hall) f (by simpa using hf')
            exact Option.isSome_iff_exists.1 this
          obtain ⟨arr', f1, f2⟩ := fill_sound _ ps qs.toList _ _ cs hf (pw_zero κ w.heap zv) hp.1 hp.2
          have hplace : (fun (i : Nat) => match fields[i]? with | some f => (match szT P f.type with | some s => some (f.offset, s) | none => none) | none => none) =
              fun (i : Nat) => ((fields.toList.map fun (f : Field) => (f.offset, (szT P f.type).getD 0)).toArray[i]? : Option (Nat × Nat)) := by
            funext i
            simp only [List.getElem?_toArray, List.getElem?_map, Array.getElem?_toList]
            cases hfi : fields[i]? with
            | none => rfl
            | some f =>
              obtain ⟨s, hs⟩ := hsz f (by simpa using Array.mem_of_getElem? hfi)
              simp [hs]
          have f1 := (congrArg (fun g => Instr.fill g zv.cells qs.toList) hplace.symm).trans f1
          have hm := run_mapM_array (P := P) (fun (f : Field) => (do pure (f.offset, ← sizeOf f.type) : Sem (Nat × Nat))) (fun f => (f.offset, (szT P f.type).getD 0)) w fields (fun f hf' => by
            obtain ⟨s, hs⟩ := hsz f hf'
            simp [run_szT hs, hs])
          have := OpR.pure (w := w) i (RV.agg' f2)
          simp only [Instr.build, Sem.run_bind, hr, Result.andThen_ok, run_underlying hu, hm, f1]
          simpa using this
      · cases h
    · rename_i len elem hu
      split at h
      · rename_i size hs
        split at h
        · rename_i cs hf
          cases h
          obtain ⟨arr', f1, f2⟩ := fill_sound _ ps qs.toList _ _ cs hf (pw_zero κ w.heap zv) hp.1 hp.2
          have := OpR.pure (w := w) i (RV.agg' f2)
          simpa [Instr.build, hr, run_underlying hu, run_szT hs, f1] using this
        · cases h
      · cases h
    · cases h

theorem fillV_length (place : Nat → Option (Nat × Nat)) : ∀ (parts : List (Nat × V)) (cells out : List V), fillV place cells parts = some out → out.length = cells.length := by
  intro parts
  induction parts with
  | nil => intro cells out h; simp only [fillV] at h; cases h; rfl
  | cons p parts ih =>
    intro cells out h
    obtain ⟨i, v⟩ := p
    simp only [fillV] at h
    cases hpl : place i with
    | none => rw [hpl] at h; cases h
    | some x =>
      obtain ⟨off, size⟩ := x
      rw [hpl] at h
      dsimp only at h
      cases hc : (v.flat && Nat.beq v.cells.length size && Nat.ble (off + size) cells.length) with
      | false => rw [hc] at h; cases h
      | true =>
        rw [hc] at h
        simp only [cond_true] at h
        simp only [Bool.and_eq_true] at hc
        have hs := Nat.eq_of_beq_eq_true hc.1.2
        have hb := Nat.le_of_ble_eq_true hc.2
        rw [ih _ _ h, splice_length _ _ _ (by omega)]

theorem pw_zeros {H : Array Obj} {zc : List V} {zv : Array Value} (hp : PW κ H zc zv.toList) (n : Nat) : PW κ H (zeros zc n) ((Array.range n).map (fun i => zv[i % zv.size]!)).toList := by
  have : ((Array.range n).map (fun i => zv[i % zv.size]!)).toList = (List.range n).map (fun i => zv[i % zv.size]!) := by simp
  rw [this]
  refine PW.map (fun i hi => ?_)
  have hl : zc.length = zv.size := by simpa using hp.1
  by_cases h : i % zv.size < zv.size
  · have h1 : zc[i % zc.length]? = some (zc[i % zc.length]'(by rw [hl]; exact h)) := List.getElem?_eq_getElem (by rw [hl]; exact h)
    have h2 : zv.toList[i % zc.length]? = some zv[i % zv.size] := by simp [hl, h]
    have := hp.2 _ _ _ h1 h2
    simpa [List.getD, h1, h] using this
  · have : zc.getD (i % zc.length) .und = .und := by
      simp [List.getD, List.getElem?_eq_none (show zc.length ≤ i % zc.length by rw [hl]; omega)]
    rw [this]; exact .und _

/-- A new list, all of it immutable. -/
theorem new_sl (i : Inv P κ st.h.get w.heap) {cs : List V} {arr : Array Value} {e : TypeId} (fz : Nat × Nat) (hp : PW κ w.heap cs arr.toList) (len sz cap k : Nat) (cp : Cp) (hk : k ≤ arr.size) (hs : k = len * sz)
    (hcap : ∀ κ' H', CapOk κ' H' w.heap.size 0 (cs.take k).length len sz cap cp) (w' : World) (hw : w'.heap = w.heap.push (.cells arr e fz)) (hkp : Kp w w' := by exact ⟨rfl, rfl⟩) :
    OpR P κ st w (.ok (.value (.slice (some ⟨w.heap.size, 0, none⟩) len cap)) w') (.sl (cs.take k) len sz cp) st := by
  have hl : cs.length = arr.size := by simpa using hp.1
  obtain ⟨i', f'⟩ := inv_addI i (.cells arr e fz) st.nx k (fun j hj => ⟨arr[j]'(by omega), by unfold hc; rw [push_new]; simp [show j < arr.size by omega]⟩)
  refine ⟨κ.addI w.heap.size k, _, w', .inl rfl, ?_, by rw [hw]; exact i', ⟨by rw [hw]; exact f', hkp⟩⟩
  rw [hw]
  have hp' := (hp.take k).mono f'.ext
  refine .sl _ len sz cp w.heap.size 0 cap _ hp'.1 (by simp; omega) (fun j hj => ?_) (fun j u hj => ?_) (hcap _ _) hp'.2
  · simp at hj; exact .inr ⟨by simp, by omega⟩
  · have : j < k := by
      rw [List.getElem?_take] at hj
      split at hj
      · assumption
      · cases hj
    rw [List.getElem?_take_of_lt this] at hj
    unfold hc; rw [push_new, Nat.zero_add]; simpa using hj

theorem op_buildSlice {mu : Bool} {t : TypeId} {len : Nat} {ps : List (Nat × V)} {qs : Array (Nat × Value)} (h : runA (match P.underlying t with
    | some (.slice elem) => (match szT P elem, zrT P elem with
      | some sz, some z => bif Nat.ble (len * sz) 16777216 then (match fillV (fun i => some (i * sz, sz)) (zeros z.cells (len * sz)) ps with
        | some cs => bif mu then .new (.blk cs) fun n => .ret (.ms n 0 len sz (some len)) else .ret (.sl cs len sz .ex)
        | none => .fail) else .fail
      | _, _ => .fail)
    | _ => .fail) st rd = .val v st' rd') (i : Inv P κ st.h.get w.heap) (hp : PR κ w.heap ps qs.toList) (f : Free κ st.nx st'.nx) :
    OpR P κ st w ((do let r ← Instr.buildSlice t len qs; pure (Next.value r) : Sem Next).run P w) v st' := by
  split at h
  · rename_i elem hu
    split at h
    · rename_i sz z hs hz
      obtain ⟨zv, hr, rfl⟩ := zrT_run hz w
      cases hb : Nat.ble (len * sz) 16777216 with
      | false => rw [hb] at h; exact (runA_fail h).elim
      | true =>
        rw [hb] at h
        simp only [cond_true] at h
        have hb := Nat.le_of_ble_eq_true hb
        split at h
        · rename_i cs hf
          obtain ⟨zz, z1, z1', z2⟩ : ∃ zz : Array Value, (len * sz = 0 → zz = #[]) ∧ (len * sz ≠ 0 → zz = zv.cells) ∧ PW κ w.heap (zeros (ofVal zv).cells (len * sz)) ((Array.range (len * sz)).map (fun i => zz[i % zz.size]!)).toList := by
            by_cases h0 : len * sz = 0
            · refine ⟨#[], fun _ => rfl, fun h => absurd h0 h, ?_⟩
              rw [h0]; exact ⟨by simp [zeros], fun j c u hj => by simp [zeros] at hj⟩
            · exact ⟨zv.cells, fun h => absurd h h0, fun _ => rfl, pw_zeros (pw_zero κ w.heap zv) _⟩
          obtain ⟨arr', f1, f2⟩ := fill_sound _ ps qs.toList _ _ cs hf z2 hp.1 hp.2
          have hlen : cs.length = len * sz := by rw [fillV_length _ _ _ _ hf]; simp [zeros]
          have run : (Instr.buildSlice t len qs).run P w = .ok (.slice (some ⟨w.heap.size, 0, none⟩) len len) (w.alloc (.cells arr' elem)) := by
            simp only [Instr.buildSlice, Sem.run_bind, run_underlying hu, Result.andThen_ok, run_szT hs]
            rw [if_neg (by omega)]
            by_cases h0 : len * sz = 0
            · rw [if_pos h0]
              obtain rfl := z1 h0
              simp only [Sem.run_bind, Sem.run_pure, Result.andThen_ok, f1]
              rfl
            · rw [if_neg h0]
              obtain rfl := z1' h0
              simp only [Sem.run_bind, hr, Sem.run_pure, Result.andThen_ok, f1]
              rfl
          cases mu with
          | true =>
            simp only [cond_true] at h
            obtain ⟨h0, h1⟩ := runA_new h
            obtain ⟨rfl, rfl⟩ := runA_ret h1
            have al : cs.length = arr'.size := by simpa using f2.1
            have := new_blk (e := elem) i f2 (f st.nx (Nat.le_refl _) (by simp [St.newO])) (fun n => .ms n 0 len sz (some len)) (fun b => .slice (some ⟨b, 0, none⟩) len len)
              (fun κ' H' a b => .ms _ _ _ _ _ _ len arr'.size a (Nat.le_refl _) (fun c hc => by cases hc; rfl) b (by omega))
            simpa [run] using this
          | false =>
            simp only [cond_false] at h
            obtain ⟨rfl, rfl⟩ := runA_ret h
            have al : cs.length = arr'.size := by simpa using f2.1
            have := new_sl (P := P) (e := elem) i (0, 0) f2 len sz len (len * sz) .ex (by omega) rfl (fun _ _ => rfl) (w.alloc (.cells arr' elem)) rfl
            rw [List.take_of_length_le (by omega)] at this
            simpa [run] using this
        · exact (runA_fail h).elim
    · exact (runA_fail h).elim
  · exact (runA_fail h).elim

/-- The cells of a list that is read. -/
theorem rdMs_sound {sz : Nat} {x : V} {x' : Value} {k : List V → Nat → Ac} (h : runA (rdMs sz x k) st rd = .val v st' rd') (i : Inv P κ st.h.get w.heap) (hx : RV κ w.heap x x') :
    ∃ cs len rd2 xs, runA (k cs len) st rd2 = .val v st' rd' ∧ PW κ w.heap cs xs ∧ cs.length = len * sz ∧ (∀ w1, (Builtin.lenOf x').run P w1 = .ok len w1) ∧ ∀ w1 : World, w1.heap = w.heap → (Builtin.firstCells sz len x').run P w1 = .ok xs.toArray w1 := by
  have load : ∀ b o n (xs : List Value), xs.length = n → (∀ (j : Nat) u, xs[j]? = some u → w.cell? ⟨b, o + j, none⟩ = some u) → ∀ w1 : World, w1.heap = w.heap → (loadCells ⟨b, o, none⟩ n).run P w1 = .ok xs.toArray w1 := fun b o n xs hl hc w1 he => by
    subst hl
    exact run_loadCells_list (P := P) w1 ⟨b, o, none⟩ xs (fun j u hj => by rw [Addr.add_mid, cell_hc, he, ← cell_hc]; exact hc j u hj)
  unfold rdMs at h
  split at h
  · rename_i n off len sz' cap
    cases hq : Nat.beq sz sz' with
    | false => rw [hq] at h; exact (runA_fail h).elim
    | true =>
      rw [hq] at h
      have hq := Nat.eq_of_beq_eq_true hq
      subst hq
      simp only [Bool.not_true, cond_false] at h
      obtain ⟨o, ho, h1⟩ := runA_get h
      split at h1
      · rename_i cs
        rw [cond_beq] at h1
        split at h1
        · rename_i hlen
          cases hx with
          | ms _ _ _ _ _ b cap' m hr hle hcap hm hbd =>
            obtain ⟨vs, p1, p2⟩ := blk_cells i ho hr
            have p3 := (p1.drop off).take (len * sz)
            refine ⟨_, len, _, _, h1, p3, hlen, fun _ => rfl, ?_⟩
            simp only [Builtin.firstCells]
            refine load b off _ _ (by rw [← p3.1]; exact hlen) (fun j u hj => ?_)
            rw [List.getElem?_take] at hj
            split at hj
            · rw [List.getElem?_drop] at hj
              have := p2 _ u hj
              rwa [Nat.zero_add] at this
            · cases hj
        · exact (runA_fail h1).elim
      · exact (runA_fail h1).elim
  · rename_i y hny
    unfold rdCells at h
    split at h
    · cases hx
      exact ⟨[], 0, rd, [], h, .nil, by simp, fun _ => rfl, fun _ _ => rfl⟩
    · rename_i cs len sz' cp
      cases hq : Nat.beq sz sz' with
      | false => rw [hq] at h; exact (runA_fail h).elim
      | true =>
        rw [hq] at h
        have hq := Nat.eq_of_beq_eq_true hq
        subst hq
        simp only [cond_true] at h
        cases hx with
        | sl _ _ _ _ b o cap vs hl hs hI hv hcap he =>
          refine ⟨cs, len, rd, vs, h, ⟨hl, he⟩, hs, fun _ => rfl, ?_⟩
          simp only [Builtin.firstCells]
          exact load b o _ vs (by rw [← hl]; exact hs) (fun j u hj => by rw [cell_hc]; exact hv j u hj)
    · rename_i s
      cases hq : Nat.beq sz 1 with
      | false => rw [hq] at h; exact (runA_fail h).elim
      | true =>
        rw [hq] at h
        have hq := Nat.eq_of_beq_eq_true hq
        subst hq
        simp only [cond_true] at h
        obtain ⟨str, rfl, rfl⟩ := hx.inv_str
        refine ⟨_, _, rd, str.data.toList.map (fun b => .int .u8 b.toNat), h, PW.map (fun c _ => .int _ _), by simp, fun _ => ?_, fun w1 _ => ?_⟩
        · rfl
        · simp only [Builtin.firstCells]
          have : str.extract 0 str.data.toList.length = str := by
            exact ByteArray.extract_zero_size (b := str)
          rw [this, Sem.run_pure, ← Array.toList_map, Array.toArray_toList]
    · exact (runA_fail h).elim
end ops
end Go.Am
