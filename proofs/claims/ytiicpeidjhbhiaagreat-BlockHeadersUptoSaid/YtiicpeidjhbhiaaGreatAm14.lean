/-
  THE ABSTRACT MACHINE, PART 14: iterators over strings and maps, new maps, closures.
-/
import Derived.Test.YtiicpeidjhbhiaaGreatAm13
namespace Go.Am
open Go

theorem EPW.filter {κ : Kap} {H : Array Obj} (p : Nat → Bool) : ∀ {es : List En} {cs : List MapEntry}, EPW κ H es cs → EPW κ H (es.filter fun e => p e.born) (cs.filter fun c => p c.born)
  | [], [], _ => ⟨rfl, fun i e c h => by simp at h⟩
  | [], _ :: _, h => by have := h.1; simp at this
  | _ :: _, [], h => by have := h.1; simp at this
  | e :: es, c :: cs, h => by
    obtain ⟨h1, h2, h3⟩ := h.2 0 e c rfl rfl
    have ih := EPW.filter p h.tail
    simp only [List.filter_cons, h3]
    cases p c.born
    · exact ih
    · exact .cons h1 h2 h3 ih

theorem EPW.append {κ : Kap} {H : Array Obj} {a b : List En} {x y : List MapEntry} (h : EPW κ H a x) (k : EPW κ H b y) : EPW κ H (a ++ b) (x ++ y) := by
  refine ⟨by simp [h.1, k.1], fun i c v h1 h2 => ?_⟩
  by_cases hi : i < a.length
  · rw [List.getElem?_append_left hi] at h1
    rw [List.getElem?_append_left (h.1 ▸ hi)] at h2
    exact h.2 i c v h1 h2
  · rw [List.getElem?_append_right (by omega)] at h1
    rw [List.getElem?_append_right (by have := h.1; omega)] at h2
    rw [← h.1] at h2
    exact k.2 _ c v h1 h2

theorem EPW.all {κ : Kap} {H : Array Obj} (p : Nat → Bool) : ∀ {es : List En} {cs : List MapEntry}, EPW κ H es cs → (es.all fun e => p e.born) = (cs.all fun c => p c.born)
  | [], [], _ => rfl
  | [], _ :: _, h => by have := h.1; simp at this
  | _ :: _, [], h => by have := h.1; simp at this
  | e :: es, c :: cs, h => by
    obtain ⟨_, _, h3⟩ := h.2 0 e c rfl rfl
    simp only [List.all_cons, h3, EPW.all p h.tail]

theorem EPW.find {κ : Kap} {H : Array Obj} (p : Nat → Bool) : ∀ {es : List En} {cs : List MapEntry} {e : En}, EPW κ H es cs → (es.find? fun e => p e.born) = some e →
    ∃ c, (cs.find? fun c => p c.born) = some c ∧ RV κ H e.k c.key ∧ RV κ H e.v c.val
  | [], _, _, _, he => by simp at he
  | _ :: _, [], _, h, _ => by have := h.1; simp at this
  | e :: es, c :: cs, x, h, he => by
    obtain ⟨h1, h2, h3⟩ := h.2 0 e c rfl rfl
    simp only [List.find?_cons, h3] at he ⊢
    cases hp : p c.born
    · rw [hp] at he; exact EPW.find p h.tail he
    · rw [hp] at he; cases he; exact ⟨c, rfl, h1, h2⟩

section ops
variable {P : Program} {κ : Kap} {st st' : St} {w : World} {v : V} {rd rd' : List Nat}

/-- New memory with a name that is no row of cells. -/
theorem new_obj (i : Inv P κ st.h.get w.heap) {o : O} {x : Obj} (hn : κ.ρ st.nx = none) (ho : ∀ κ' H', Ext κ w.heap κ' H' → H'[w.heap.size]? = some x → OB P κ' H' st.nx w.heap.size o) (k : Nat → V) (k' : Nat → Value)
    (hk : ∀ κ' H', κ'.ρ st.nx = some w.heap.size → RV κ' H' (k st.nx) (k' w.heap.size)) (w' : World) (hw : w'.heap = w.heap.push x) (hkp : Kp w w' := by exact ⟨rfl, rfl⟩) :
    OpR P κ st w (.ok (.value (k' w.heap.size)) w') (k st.nx) (st.newO o) := by
  have e := ext_add i x st.nx 0 0 hn
  obtain ⟨i', f'⟩ := inv_add i x st.nx 0 0 o hn (ho _ _ e (push_new _ _)) (fun j hj => by omega) (fun h => by omega)
  refine ⟨κ.add st.nx w.heap.size 0 0, k' w.heap.size, w', .inl rfl, hk _ _ (by simp [Kap.add]), ?_, ?_⟩
  · simp only [St.newO, get_set_upd, hw]; exact i'
  · exact ⟨by simp only [St.newO, get_set_upd, hw]; exact f', hkp⟩

theorem op_makeMap {t : TypeId} (h : runA (.new (.mp [] 0) fun n => .ret (.map n)) st rd = .val v st' rd') (i : Inv P κ st.h.get w.heap) (f : Free κ st.nx st'.nx) :
    OpR P κ st w ((do let r ← Instr.makeMap t none; pure (Next.value r) : Sem Next).run P w) v st' := by
  obtain ⟨_, h1⟩ := runA_new h
  obtain ⟨rfl, rfl⟩ := runA_ret h1
  have := new_obj (P := P) (o := .mp [] 0) (x := .map #[] 0) i (f st.nx (Nat.le_refl _) (by simp [St.newO])) (fun κ' H' _ hb => ⟨#[], hb, rfl, fun q e c h => by simp at h⟩) (fun n => .map n) (fun b => .map (some b)) (fun κ' H' a => .map _ _ a) (w.alloc (.map #[] 0)) rfl
  simpa [Instr.makeMap] using this

theorem op_range {t : TypeId} {x : V} {x' : Value} (h : runA (match P.underlying t, x with
    | some .string, .str s => .new (.sit s 0) fun n => .ret (.it n)
    | some (.map _ _), .nilm => .new (.mit none 0 [] 0) fun n => .ret (.it n)
    | some (.map _ _), .map m => .get m fun
      | .mp _ clk => .new (.mit (some m) clk [] clk) fun n => .ret (.it n)
      | _ => .fail
    | _, _ => .fail) st rd = .val v st' rd') (i : Inv P κ st.h.get w.heap) (hx : RV κ w.heap x x') (f : Free κ st.nx st'.nx) :
    OpR P κ st w ((do let r ← Instr.range t x'; pure (Next.value r) : Sem Next).run P w) v st' := by
  split at h
  · rename_i s hu
    obtain ⟨_, h1⟩ := runA_new h
    obtain ⟨rfl, rfl⟩ := runA_ret h1
    obtain ⟨str, rfl, rfl⟩ := hx.inv_str
    have := new_obj (P := P) (o := .sit str.data.toList 0) (x := .stringIter str 0) i (f st.nx (Nat.le_refl _) (by simp [St.newO])) (fun κ' H' _ hb => ⟨str, rfl, hb⟩) (fun n => .it n) (fun b => .pointer (some ⟨b, 0, none⟩)) (fun κ' H' a => .it _ _ a) (w.alloc (.stringIter str 0)) rfl
    simpa [Instr.range, run_underlying hu] using this
  · rename_i kt et hu
    obtain ⟨_, h1⟩ := runA_new h
    obtain ⟨rfl, rfl⟩ := runA_ret h1
    cases hx
    have := new_obj (P := P) (o := .mit none 0 [] 0) (x := .mapIter none 0 #[] 0) i (f st.nx (Nat.le_refl _) (by simp [St.newO])) (fun κ' H' _ hb => ⟨none, trivial, hb⟩) (fun n => .it n) (fun b => .pointer (some ⟨b, 0, none⟩)) (fun κ' H' a => .it _ _ a) (w.alloc (.mapIter none 0 #[] 0)) rfl
    simpa [Instr.range, run_underlying hu] using this
  · rename_i kt et m hu
    obtain ⟨o, ho, h0⟩ := runA_get h
    split at h0
    · rename_i es clk
      obtain ⟨_, h1⟩ := runA_new h0
      obtain ⟨rfl, rfl⟩ := runA_ret h1
      obtain ⟨b, hr, rfl⟩ := hx.inv_map
      obtain ⟨ces, e1, e2⟩ := mp_entries i ho hr
      have go := run_getObj (P := P) e1 rfl
      have := new_obj (P := P) (o := .mit (some m) clk [] clk) (x := .mapIter (some b) clk #[] clk) i (f st.nx (Nat.le_refl _) (by simp [St.newO])) (fun κ' H' ex hb => ⟨some b, (ex.rho _ _ hr).1, hb⟩) (fun n => .it n) (fun b => .pointer (some ⟨b, 0, none⟩)) (fun κ' H' a => .it _ _ a) (w.alloc (.mapIter (some b) clk #[] clk)) rfl
      simpa [Instr.range, run_underlying hu, go] using this
    · exact (runA_fail h0).elim
  · exact (runA_fail h).elim

theorem op_nextS {x : V} {x' : Value} {ty : TypeId} (h : runA (match x with
    | .it n => .get n fun
      | .sit s pos => bif Nat.blt pos s.length then
          (let d := Utf8.decode ⟨s.toArray⟩ pos; .put n (.sit s (pos + d.2)) (.ret (.tup [.bool true, .int .i64 pos, .int .i32 d.1])))
        else .ret (.tup [.bool false])
      | _ => .fail
    | _ => .fail) st rd = .val v st' rd') (i : Inv P κ st.h.get w.heap) (hx : RV κ w.heap x x') :
    OpR P κ st w ((do let r ← Instr.next x' true ty; pure (Next.value r) : Sem Next).run P w) v st' := by
  split at h
  · rename_i n
    obtain ⟨o, ho, h0⟩ := runA_get h
    split at h0
    · rename_i s pos
      obtain ⟨b, hr, rfl⟩ := hx.inv_it
      obtain ⟨b', hr', str, rfl, hb⟩ := i.obj n _ ho
      rw [hr] at hr'; cases hr'
      have go := run_getObj (P := P) hb rfl
      have hlen : str.data.toList.length = str.size := rfl
      have hstr : (⟨str.data.toList.toArray⟩ : ByteArray) = str := by rw [Array.toArray_toList]
      cases hlt : Nat.blt pos str.data.toList.length with
      | true =>
        rw [hlt] at h0
        simp only [cond_true] at h0
        rw [hstr] at h0
        have hlt' : pos < str.size := by
          have := Nat.le_of_ble_eq_true hlt
          omega
        obtain ⟨_, h1⟩ := runA_put h0
        obtain ⟨rfl, rfl⟩ := runA_ret h1
        have so := run_setObj (P := P) (o' := .stringIter str (pos + (Utf8.decode str pos).2)) hb rfl
        obtain ⟨i', fr⟩ := set_obj (o' := .sit str.data.toList (pos + (Utf8.decode str pos).2)) (x' := .stringIter str (pos + (Utf8.decode str pos).2)) i ho hr hb rfl (by simp) (fun κ' H' ex _ hb' => ⟨str, rfl, hb'⟩)
        refine ⟨κ, _, { w with heap := w.heap.setIfInBounds b (.stringIter str (pos + (Utf8.decode str pos).2)) }, .inl ?_, RV.tup' (vs := [.bool true, .int .i64 pos, .int .i32 (Utf8.decode str pos).1]) (.cons (.bool _) (.cons (.int _ _) (.cons (.int _ _) .nil))), ?_, ?_⟩
        · simp [Instr.next, go, hlt', so, goInt]
        · simp only [St.putO, get_set_upd]; exact i'
        · simp only [St.putO, get_set_upd]; exact ⟨fr, rfl, rfl⟩
      | false =>
        rw [hlt] at h0
        have hlt' : ¬ pos < str.size := fun hh => by
          have : Nat.blt pos str.data.toList.length = true := Nat.ble_eq_true_of_le (by omega)
          rw [this] at hlt; cases hlt
        obtain ⟨rfl, rfl⟩ := runA_ret h0
        have := OpR.pure (w := w) i (RV.tup' (κ := κ) (H := w.heap) (vs := [.bool false]) (.cons (.bool _) .nil))
        simpa [Instr.next, go, hlt'] using this
    · exact (runA_fail h0).elim
  · exact (runA_fail h).elim

def clist (cs : List MapEntry) (since : Nat) (seen : List Nat) : List (Option MapEntry) :=
  let left := cs.filter fun e => !seen.contains e.born
  let old := left.filter fun e => decide (e.born < since)
  let new := left.filter fun e => decide (e.born ≥ since)
  (if old.isEmpty then [none] else []) ++ (old ++ new).map some

theorem clist_eq (ces : Array MapEntry) (since : Nat) (seen : List Nat) :
    (if ((ces.filter fun e => !seen.toArray.contains e.born).filter (·.born < since)).isEmpty then #[none] else #[]) ++
      (((ces.filter fun e => !seen.toArray.contains e.born).filter (·.born < since)) ++ ((ces.filter fun e => !seen.toArray.contains e.born).filter (·.born ≥ since))).map some = (clist ces.toList since seen).toArray := by
  apply Array.ext'
  unfold clist
  have h : ∀ (b : Bool), ((if b = true then #[none] else #[] : Array (Option MapEntry))).toList = if b = true then [none] else [] := fun b => by cases b <;> rfl
  simp only [Array.toList_append, Array.toList_map, Array.toList_filter, h, List.contains_toArray]
  rw [← Array.isEmpty_toList]
  simp only [Array.toList_filter]

theorem cands_sound {H : Array Obj} {es : List En} {cs : List MapEntry} (hp : EPW κ H es cs) (since : Nat) (seen : List Nat) :
    (∀ e, cands es since seen = [some e] → ∃ c : MapEntry, clist cs since seen = [some c] ∧ RV κ H e.k c.key ∧ RV κ H e.v c.val ∧ e.born = c.born) ∧ (cands es since seen = [none] → clist cs since seen = [none]) := by
  have l1 := hp.filter (fun b => !seen.contains b)
  have o1 := l1.filter (fun b => decide (b < since))
  have n1 := l1.filter (fun b => decide (b ≥ since))
  have a1 := o1.append n1
  unfold cands clist
  dsimp only
  generalize ((es.filter fun e => !seen.contains e.born).filter fun e => decide (e.born < since)) = eo at *
  generalize ((es.filter fun e => !seen.contains e.born).filter fun e => decide (e.born ≥ since)) = en at *
  generalize ((cs.filter fun e => !seen.contains e.born).filter fun e => decide (e.born < since)) = co at *
  generalize ((cs.filter fun e => !seen.contains e.born).filter fun e => decide (e.born ≥ since)) = cn at *
  have hemp : eo.isEmpty = co.isEmpty := by
    have := o1.1
    cases eo <;> cases co <;> simp_all
  rw [hemp]
  refine ⟨fun e h => ?_, fun h => ?_⟩
  · cases hc : co.isEmpty with
    | true => rw [hc] at h; simp at h
    | false =>
      rw [hc] at h
      simp only [Bool.false_eq_true, if_false, List.nil_append] at h ⊢
      have hl : eo ++ en = [e] := by
        cases hx : eo ++ en with
        | nil => rw [hx] at h; simp at h
        | cons a r => rw [hx] at h; simp at h; rw [h.1, h.2]
      rw [hl] at a1
      cases hy : co ++ cn with
      | nil => rw [hy] at a1; have := a1.1; simp at this
      | cons c r =>
        rw [hy] at a1
        have hr : r = [] := by have := a1.1; simp at this; exact this
        subst hr
        obtain ⟨h1, h2, h3⟩ := a1.2 0 e c rfl rfl
        exact ⟨c, rfl, h1, h2, h3⟩
  · cases hc : co.isEmpty with
    | true =>
      rw [hc] at h
      simp only [if_true] at h ⊢
      have hl : eo ++ en = [] := by
        cases hx : eo ++ en with
        | nil => rfl
        | cons a r => rw [hx] at h; simp at h
      rw [hl] at a1
      have hy : co ++ cn = [] := by have := a1.1; cases hz : co ++ cn with | nil => rfl | cons _ _ => rw [hz] at this; simp at this
      rw [hy]; rfl
    | false =>
      rw [hc] at h
      simp only [Bool.false_eq_true, if_false, List.nil_append] at h
      cases hx : eo ++ en with
      | nil => rw [hx] at h; simp at h
      | cons a r => rw [hx] at h; simp at h

theorem op_nextM {x : V} {x' : Value} {ty : TypeId} (h : runA (match x with
    | .it n => .get n fun
      | .mit none _ _ _ => .ret (.tup [.bool false])
      | .mit (some m) since seen last => .get m fun
        | .mp es clk =>
          bif !seen.isEmpty && !es.isEmpty && es.all (fun e => decide (e.born ≥ last)) then .fail
          else (match cands es since seen with
            | [some e] => .put n (.mit (some m) since (seen ++ [e.born]) clk) (.ret (.tup [.bool true, e.k, e.v]))
            | [none] => .ret (.tup [.bool false])
            | _ => .fail)
        | _ => .fail
      | _ => .fail
    | _ => .fail) st rd = .val v st' rd') (i : Inv P κ st.h.get w.heap) (hx : RV κ w.heap x x') :
    OpR P κ st w ((do let r ← Instr.next x' false ty; pure (Next.value r) : Sem Next).run P w) v st' := by
  split at h
  · rename_i n
    obtain ⟨o, ho, h0⟩ := runA_get h
    obtain ⟨b, hr, rfl⟩ := hx.inv_it
    split at h0
    · rename_i since seen last
      obtain ⟨rfl, rfl⟩ := runA_ret h0
      obtain ⟨b', hr', m', hm, hb⟩ := i.obj n _ ho
      rw [hr] at hr'; cases hr'
      cases m' with
      | some _ => exact hm.elim
      | none =>
        have go := run_getObj (P := P) hb rfl
        have := OpR.pure (w := w) i (RV.tup' (κ := κ) (H := w.heap) (vs := [.bool false]) (.cons (.bool _) .nil))
        simpa [Instr.next, go] using this
    · rename_i m since seen last
      obtain ⟨b', hr', m', hm, hb⟩ := i.obj n _ ho
      rw [hr] at hr'; cases hr'
      cases m' with
      | none => exact hm.elim
      | some bm =>
        have go := run_getObj (P := P) hb rfl
        obtain ⟨om, hom, h1⟩ := runA_get h0
        split at h1
        · rename_i es clk
          obtain ⟨ces, e1, e2⟩ := mp_entries i hom hm
          have gm := run_getObj (P := P) e1 rfl
          cases hg : (!seen.isEmpty && !es.isEmpty && es.all (fun e => decide (e.born ≥ last))) with
          | true => rw [hg] at h1; exact (runA_fail h1).elim
          | false =>
            rw [hg] at h1
            simp only [cond_false] at h1
            have hg' : (!seen.toArray.isEmpty && !ces.isEmpty && ces.all (·.born ≥ last)) = false := by
              rw [← hg]
              have a1 : seen.toArray.isEmpty = seen.isEmpty := by simp
              have a2 : ces.isEmpty = es.isEmpty := by
                rw [← Array.isEmpty_toList]
                have := e2.1
                cases es <;> cases hq : ces.toList <;> rw [hq] at this <;> simp_all
              have a3 : ces.all (·.born ≥ last) = es.all (fun e => decide (e.born ≥ last)) := by
                rw [← Array.all_toList]
                exact (e2.all (fun b => decide (b ≥ last))).symm
              rw [a1, a2, a3]
            obtain ⟨c1, c2⟩ := cands_sound e2 since seen
            have run : ∀ L, clist ces.toList since seen = L → (Instr.next (.pointer (some ⟨b, 0, none⟩)) false ty).run P w = ((choose (.mapNext L.toArray.size)).run P w).andThen fun q w' =>
                (match L.toArray[q]? with
                | some (some e) => (do setObj b (.mapIter (some bm) since (seen.toArray.push e.born) clk); pure (.tuple #[.bool true, e.key, e.val]) : Sem Value)
                | some none => pure (.tuple #[.bool false])
                | none => stuck "Next: no such candidate" : Sem Value).run P w' := by
              rintro L rfl
              rw [← clist_eq]
              simp only [Instr.next, Sem.run_bind, go, gm, Result.andThen_ok]
              rw [if_neg (by rw [hg']; simp)]
              simp only [Sem.run_bind]
              rfl
            split at h1
            · rename_i e hc
              obtain ⟨_, h2⟩ := runA_put h1
              obtain ⟨rfl, rfl⟩ := runA_ret h2
              obtain ⟨c, d1, d2, d3, d4⟩ := c1 e hc
              have so := run_setObj (P := P) (o' := .mapIter (some bm) since (seen ++ [c.born]).toArray clk) hb rfl
              obtain ⟨i', fr⟩ := set_obj (o' := .mit (some m) since (seen ++ [e.born]) clk) (x' := .mapIter (some bm) since (seen ++ [c.born]).toArray clk) i ho hr hb rfl (by simp) (fun κ' H' ex hρ hb' => ⟨some bm, by rw [hρ]; exact hm, by rw [hb', d4]⟩)
              refine ⟨κ, .tuple #[.bool true, c.key, c.val], { w with heap := w.heap.setIfInBounds b (.mapIter (some bm) since (seen ++ [c.born]).toArray clk) }, .inl ?_, ?_, ?_, ?_⟩
              · rw [Sem.run_bind, run _ d1]
                simp [Question.forced, so]
              · exact (RV.tup' (vs := [.bool true, c.key, c.val]) (.cons (.bool true) (.cons d2 (.cons d3 .nil)))).mono fr.ext
              · simp only [St.putO, get_set_upd]; exact i'
              · simp only [St.putO, get_set_upd]; exact ⟨fr, rfl, rfl⟩
            · rename_i hc
              obtain ⟨rfl, rfl⟩ := runA_ret h1
              have d1 := c2 hc
              have := OpR.pure (w := w) i (RV.tup' (κ := κ) (H := w.heap) (vs := [.bool false]) (.cons (.bool _) .nil))
              have e : (do let r ← Instr.next (.pointer (some ⟨b, 0, none⟩)) false ty; pure (Next.value r) : Sem Next).run P w = .ok (.value (.tuple #[.bool false])) w := by
                rw [Sem.run_bind, run _ d1]
                simp [Question.forced]
              rw [e]; exact this
            · exact (runA_fail h1).elim
        · exact (runA_fail h1).elim
    · exact (runA_fail h0).elim
  · exact (runA_fail h).elim

theorem op_entry {x : V} {x' : Value} (h : runA (match x with
    | .it n => .get n fun
      | .mit (some m) _ seen stepped => .get m fun
        | .mp es clk => bif Nat.beq clk stepped then (match seen.getLast? with
            | some stamp => (match es.find? (fun e => e.born == stamp) with | some e => .ret (.tup [e.k, e.v]) | none => .fail)
            | none => .fail) else .fail
        | _ => .fail
      | _ => .fail
    | _ => .fail) st rd = .val v st' rd') (i : Inv P κ st.h.get w.heap) (hx : RV κ w.heap x x') :
    OpR P κ st w ((do let r ← Instr.entry x'; pure (Next.value r) : Sem Next).run P w) v st' := by
  split at h
  · rename_i n
    obtain ⟨o, ho, h0⟩ := runA_get h
    obtain ⟨b, hr, rfl⟩ := hx.inv_it
    split at h0
    · rename_i m since seen stepped
      obtain ⟨b', hr', m', hm, hb⟩ := i.obj n _ ho
      rw [hr] at hr'; cases hr'
      cases m' with
      | none => exact hm.elim
      | some bm =>
        have go := run_getObj (P := P) hb rfl
        obtain ⟨om, hom, h1⟩ := runA_get h0
        split at h1
        · rename_i es clk
          obtain ⟨ces, e1, e2⟩ := mp_entries i hom hm
          have gm := run_getObj (P := P) e1 rfl
          rw [cond_beq] at h1
          split at h1
          · rename_i hclk
            split at h1
            · rename_i stamp hlast
              split at h1
              · rename_i e he
                obtain ⟨rfl, rfl⟩ := runA_ret h1
                obtain ⟨c, d1, d2, d3⟩ := e2.find (fun b => b == stamp) he
                have hback : seen.toArray.back? = some stamp := by simpa using hlast
                have hfind : ces.find? (·.born == stamp) = some c := by rw [← Array.find?_toList]; exact d1
                have := OpR.pure (w := w) i (RV.tup' (vs := [c.key, c.val]) (.cons d2 (.cons d3 .nil)))
                simpa [Instr.entry, go, gm, hback, hclk, hfind] using this
              · exact (runA_fail h1).elim
            · exact (runA_fail h1).elim
          · exact (runA_fail h1).elim
        · exact (runA_fail h1).elim
    · exact (runA_fail h0).elim
  · exact (runA_fail h).elim
end ops
end Go.Am
