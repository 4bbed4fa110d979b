/-
  THE ABSTRACT MACHINE, PART 15: append.
-/
import Derived.Test.YtiicpeidjhbhiaaGreatAm14
import Derived.Laws.AppendOwn
namespace Go.Am
open Go

/-- A block of ours takes another name. -/
theorem inv_move {P : Program} {κ : Kap} {h : Nat → Option O} {H : Array Obj} (i : Inv P κ h H) (n n' b : Nat) (o o' : O) (H' : Array Obj) (hn : h n = some o) (hr : κ.ρ n = some b) (hnb : o ≠ .buf) (hn' : κ.ρ n' = none)
    (hs : H'.size = H.size) (hne : ∀ c, c ≠ b → H'[c]? = H[c]?) (hzb : ∀ m, hz H b = some m → hz H' b = some m) :
    let κ' : Kap := { κ with ρ := fun m => if m = n' then some b else κ.ρ m }
    (Ext κ H κ' H' → OB P κ' H' n' b o') →
    Inv P κ' (upd (upd h n none) n' (some o')) H' ∧ Fr κ h H κ' (upd (upd h n none) n' (some o')) H' n' (n' + 1) := by
  intro κ' ho
  have hnn : n ≠ n' := by rintro rfl; rw [hr] at hn'; cases hn'
  have hrm : ∀ m, m ≠ n' → κ'.ρ m = κ.ρ m := fun m hm => by simp [κ', hm]
  have hpm : ∀ m, κ'.φ m = κ.φ m := fun m => rfl
  have hrn : κ'.ρ n' = some b := by simp [κ']
  have noI : ∀ j, ¬ κ.I b j := fun j hI => hnb (i.sep n o b j hn hr hI).1
  have x : Ext κ H κ' H' := ⟨fun m c hm => by
      have : m ≠ n' := by rintro rfl; rw [hn'] at hm; cases hm
      rw [hrm m this]; exact ⟨hm, rfl⟩, fun _ _ h => h, fun c j hI => by
      by_cases hcb : c = b
      · subst hcb; exact absurd hI (noI j)
      · exact hc_block (hne c hcb) j, fun c m hm => by
      by_cases hcb : c = b
      · subst hcb; exact hzb m hm
      · rw [hz_block (hne c hcb)]; exact hm⟩
  have at' : ∀ m y, m ≠ n' → upd (upd h n none) n' (some o') m = some y → h m = some y ∧ m ≠ n := fun m y h1 h2 => by
    rw [upd_other _ _ h1] at h2
    by_cases hmn : m = n
    · subst hmn; rw [upd_same] at h2; cases h2
    · rw [upd_other _ _ hmn] at h2; exact ⟨h2, hmn⟩
  have own : ∀ m c, (h m).isSome → κ.ρ m = some c → m ≠ n → c ≠ b := fun m c h1 h2 h3 hcb => by
    subst hcb; exact h3 (i.inj m n c h1 (by simp [hn]) h2 hr)
  refine ⟨⟨fun m y hm => ?_, fun m m' c h1 h2 h3 h4 => ?_, fun c j hI => ?_, fun m y c j hm hrm' hI => ?_⟩, ⟨x, by omega, fun c hc' hno => ?_, fun m hm => ?_, fun m c h1 h2 => ?_, fun c j hI => .inl hI, fun m hm => ?_⟩⟩
  · by_cases hmn : m = n'
    · subst hmn; rw [upd_same] at hm; cases hm; exact ⟨b, hrn, ho x⟩
    · obtain ⟨h1, h2⟩ := at' m y hmn hm
      obtain ⟨c, hrc, hob⟩ := i.obj m y h1
      exact ⟨c, by rw [hrm m hmn]; exact hrc, hob.mono hrc x (hne c (own m c (by simp [h1]) hrc h2))⟩
  · have sm : ∀ q, q ≠ n' → (upd (upd h n none) n' (some o') q).isSome → (h q).isSome ∧ q ≠ n := fun q hq h => by
      obtain ⟨y, hy⟩ := Option.isSome_iff_exists.1 h
      obtain ⟨a, a'⟩ := at' q y hq hy
      exact ⟨by rw [a]; rfl, a'⟩
    by_cases h1' : m = n' <;> by_cases h2' : m' = n'
    · rw [h1', h2']
    · subst h1'; rw [hrn] at h3; cases h3; rw [hrm m' h2'] at h4; obtain ⟨a, a'⟩ := sm m' h2' h2; exact absurd rfl (own m' _ a h4 a')
    · subst h2'; rw [hrn] at h4; cases h4; rw [hrm m h1'] at h3; obtain ⟨a, a'⟩ := sm m h1' h1; exact absurd rfl (own m _ a h3 a')
    · rw [hrm m h1'] at h3; rw [hrm m' h2'] at h4; exact i.inj m m' c (sm m h1' h1).1 (sm m' h2' h2).1 h3 h4
  · obtain ⟨v, hv⟩ := i.imm c j hI
    exact ⟨v, by rw [x.cell c j hI]; exact hv⟩
  · by_cases hmn : m = n'
    · subst hmn; rw [hrn] at hrm'; cases hrm'; exact absurd hI (noI j)
    · obtain ⟨h1, h2⟩ := at' m y hmn hm
      rw [hrm m hmn] at hrm'
      rw [hpm m]
      exact i.sep m y c j h1 hrm' hI
  · exact hne c (fun hcb => hno ⟨n, by simp [hn], by rw [hcb]; exact hr⟩)
  · have : m ≠ n' := by omega
    exact ⟨hrm m this, hpm m⟩
  · by_cases hmn : m = n'
    · subst hmn; rw [hrn] at h2; cases h2; exact .inr ⟨n, by simp [hn], hr⟩
    · rw [hrm m hmn, h1] at h2; cases h2
  · by_cases hmn : m = n'
    · subst hmn; exact .inr hn'
    · obtain ⟨y, hy⟩ := Option.isSome_iff_exists.1 hm
      exact .inl (by rw [(at' m y hmn hy).1]; rfl)

section ops
variable {P : Program} {κ : Kap} {st st' : St} {w : World} {v : V} {rd rd' : List Nat}

theorem OpR.after {κ1 : Kap} {st1 : St} {w1 : World} {r : Result Next} (f : FrW κ st.h.get w κ1 st1.h.get w1 st.nx st1.nx) (h1 : st.nx ≤ st1.nx) (h2 : st1.nx ≤ st'.nx)
    (o : OpR P κ1 st1 w1 r v st') : OpR P κ st w r v st' := by
  obtain ⟨κ', v', w', a, b, c, d⟩ := o
  exact ⟨κ', v', w', a, b, c, f.trans h1 h2 d⟩

/-- The list appended is no number. -/
def NotInt (P : Program) (t : TypeId) : Prop := ∃ d, P.underlying t = some d ∧ ∀ k, d ≠ .int k

/-- There is room. -/
theorem run_append_fit {ats : Array TypeId} {t t2 ty e : TypeId} {sz : Nat} (h0 : ats[0]? = some t) (h1 : ats[1]? = some t2) (ht : P.underlying t = some (.slice e)) (ht2 : NotInt P t2) (hs : szT P e = some sz)
    {base : Option Addr} {sLen sCap n : Nat} {x : Value} {news : List Value} (hl : ∀ w1, (Builtin.lenOf x).run P w1 = .ok n w1) (hc : ∀ w1 : World, w1.heap = w.heap → (Builtin.firstCells sz n x).run P w1 = .ok news.toArray w1) (hroom : sLen + n ≤ sCap) :
    (Builtin.append_ ats ty #[.slice base sLen sCap, x]).run P w = match base with
      | none => .ok (.slice none (sLen + n) sCap) w
      | some a => ((storeCells (a.add (sLen * sz)) news).run P w).andThen fun _ w' => .ok (.slice (some a) (sLen + n) sCap) w' := by
  obtain ⟨d, hd, hk⟩ := ht2
  have hz : ∀ k, d = .int k → False := fun k e => hk k e
  replace hc := hc w rfl
  cases base with
  | none => simp [Builtin.append_, h0, h1, run_underlying ht, run_underlying hd, run_szT hs, hl, hroom, hc]
  | some a =>
    simp [Builtin.append_, h0, h1, run_underlying ht, run_underlying hd, run_szT hs, hl, hroom, hc]

/-- There is none. -/
theorem run_append_new {ats : Array TypeId} {t t2 ty e : TypeId} {sz : Nat} {zv : Value} (h0 : ats[0]? = some t) (h1 : ats[1]? = some t2) (ht : P.underlying t = some (.slice e)) (ht2 : NotInt P t2) (hs : szT P e = some sz)
    (hz : ∀ w, (zeroValue e).run P w = .ok zv w) (hz' : zv.cells.size = sz)
    {base : Option Addr} {sLen sCap n : Nat} {x : Value} {olds news : List Value} (hl : ∀ w1, (Builtin.lenOf x).run P w1 = .ok n w1) (hc : ∀ w1 : World, w1.heap = w.heap → (Builtin.firstCells sz n x).run P w1 = .ok news.toArray w1)
    (ho : ∀ w1 : World, w1.heap = w.heap → (Builtin.firstCells sz sLen (.slice base sLen sCap)).run P w1 = .ok olds.toArray w1) (hroom : sCap < sLen + n) (hb : 0 < byT P e) (hfit : Builtin.nextslicecap (sLen + n) sCap * byT P e ≤ 281474976710656) :
    ∃ c rest, sLen + n ≤ c ∧ rest.size = (c - (sLen + n)) * sz ∧ (Builtin.append_ ats ty #[.slice base sLen sCap, x]).run P w = .ok (.slice (some ⟨w.heap.size, 0, none⟩) (sLen + n) c) (w.drew.alloc (.cells ((olds ++ news).toArray ++ rest) e)) := by
  obtain ⟨d, hd, hk⟩ := ht2
  have hzi : ∀ k, d = .int k → False := fun k e => hk k e
  obtain ⟨i, hi, his⟩ := szT_info hs
  have hby : byT P e = i.bytes := by simp [byT, hi]
  rw [hby] at hb hfit
  have hnb : (sLen + n) * i.bytes ≤ 281474976710656 := Nat.le_trans (Nat.mul_le_mul_right _ (le_nextslicecap (by omega))) hfit
  have h63 : sLen + n ≤ (sLen + n) * i.bytes := Nat.le_mul_of_pos_right _ hb
  have hn : ¬ (sLen + n ≤ sCap) := by omega
  have h63' : ¬ (9223372036854775807 < ((sLen : Int) + (n : Int))) := by omega
  have h48' : ¬ (281474976710656 < Builtin.nextslicecap (sLen + n) sCap * i.bytes) := by omega
  refine ⟨grownCap w (sLen + n) sCap e, Builtin.zeroCells zv.cells (grownCap w (sLen + n) sCap e - (sLen + n)), grownCap_ge w (sLen + n) sCap e, by rw [size_zeroCells, hz'], ?_⟩
  have hcd := hc w.drew rfl
  have hod := ho w.drew rfl
  simp [Builtin.append_, h0, h1, run_underlying ht, run_underlying hd, sizeOf, typeInfo, hi, his, hl, hn, h63', h48', Question.forced, hcd, hod, hz, newRow, grownCap]
  congr 2
  apply Array.ext'
  simp


/-- A new list behind a growth: in a new block. -/
theorem newSl_new {mu : Bool} {sz : Nat} {cs : List V} {len : Nat} (h : runA (newSl mu sz cs len) st rd = .val v st' rd') (i : Inv P κ st.h.get w.heap) (f : Free κ st.nx st'.nx) {arr : Array Value} {e : TypeId} {xs : List Value}
    (hp : PW κ w.heap cs xs) (hx : ∀ (j : Nat) u, xs[j]? = some u → arr[j]? = some u) (hl : cs.length = len * sz) {cap : Nat} (hcap : len ≤ cap) (hsz : cap * sz ≤ arr.size) {w' : World} (hw : w'.heap = w.heap.push (.cells arr e (0, 0))) (hkp : Kp w w' := by exact ⟨rfl, rfl⟩) :
    OpR P κ st w (.ok (.value (.slice (some ⟨w.heap.size, 0, none⟩) len cap)) w') v st' := by
  have hle : len * sz ≤ arr.size := Nat.le_trans (Nat.mul_le_mul_right _ hcap) hsz
  unfold newSl at h
  cases mu with
  | true =>
    simp only [cond_true] at h
    obtain ⟨h0, h1⟩ := runA_new h
    obtain ⟨rfl, rfl⟩ := runA_ret h1
    have hn : κ.ρ st.nx = none := f _ (Nat.le_refl _) (by simp [St.newO])
    have x := ext_add i (.cells arr e (0, 0)) st.nx 0 0 hn
    obtain ⟨i', f'⟩ := inv_add i (.cells arr e (0, 0)) st.nx 0 0 (.blk cs) hn ⟨arr, e, xs, push_new _ _, hp.mono x, hx⟩ (fun j hj => by omega) (fun h => by omega)
    refine ⟨_, _, w', .inl rfl, ?_, by rw [hw]; simp only [St.newO, get_set_upd]; exact i', ⟨by rw [hw]; simp only [St.newO, get_set_upd]; exact f', hkp⟩⟩
    rw [hw]
    exact .ms _ _ _ _ _ _ _ arr.size (by simp [Kap.add]) hcap (fun c hc => by cases hc) (by unfold hz; rw [push_new]) (by omega)
  | false =>
    simp only [cond_false] at h
    obtain ⟨h0, h1⟩ := runA_new h
    obtain ⟨rfl, rfl⟩ := runA_ret h1
    have hn : κ.ρ st.nx = none := f _ (Nat.le_refl _) (by simp [St.newO])
    have x := ext_add i (.cells arr e (0, 0)) st.nx (len * sz) (len * sz) hn
    obtain ⟨i', f'⟩ := inv_add i (.cells arr e (0, 0)) st.nx (len * sz) (len * sz) .buf hn ⟨arr, e, push_new _ _, by simp [Kap.add]; exact hle⟩
      (fun j hj => ⟨arr[j]'(by omega), by unfold hc; rw [push_new]; simp [show j < arr.size by omega]⟩) (fun _ => ⟨rfl, Nat.le_refl _⟩)
    refine ⟨_, _, w', .inl rfl, ?_, by rw [hw]; simp only [St.newO, get_set_upd]; exact i', ⟨by rw [hw]; simp only [St.newO, get_set_upd]; exact f', hkp⟩⟩
    rw [hw]
    have hp' := hp.mono x
    refine .sl _ len sz _ w.heap.size 0 cap xs hp.1 hl (fun j hj => ?_) (fun j u hj => ?_) ?_ hp'.2
    · exact .inr ⟨rfl, by have := hp.1; omega⟩
    · unfold hc; rw [push_new, Nat.zero_add]; exact hx j u hj
    · exact ⟨rfl, by simp [Kap.add], by simp [Kap.add, hl], hcap, arr.size, by unfold hz; rw [push_new], by omega⟩

/-- .. in the block that it had. -/
theorem grow_same {n b lo o len cap sz : Nat} {ob : O} {cs : List V} {xs : List Value} {w' : World} {arr : Array Value} {e : TypeId} (h : runA (newSl false sz cs len) (st.delO n) rd = .val v st' rd') (i : Inv P κ st.h.get w.heap) (f : Free κ st.nx st'.nx)
    (hn : st.h.get n = some ob) (hr : κ.ρ n = some b) (hold : ∀ j, κ.I b j → j < lo ∧ hc w'.heap b j = hc w.heap b j) (hlo : lo ≤ o + cs.length) (hs : w'.heap.size = w.heap.size) (hne : ∀ c, c ≠ b → w'.heap[c]? = w.heap[c]?)
    (hb : w'.heap[b]? = some (.cells arr e (0, 0))) (hzb : ∀ m, hz w.heap b = some m → hz w'.heap b = some m) (hcap : len ≤ cap) (hsz : o + cap * sz ≤ arr.size) (hl : cs.length = len * sz)
    (hI : ∀ j, j < cs.length → κ.I b (o + j) ∨ lo ≤ o + j) (hp : PW κ w.heap cs xs) (hx : ∀ (j : Nat) u, xs[j]? = some u → arr[o + j]? = some u) (hkp : Kp w w') :
    OpR P κ st w (.ok (.value (.slice (some ⟨b, o, none⟩) len cap)) w') v st' := by
  have hle : o + len * sz ≤ arr.size := Nat.le_trans (Nat.add_le_add_left (Nat.mul_le_mul_right _ hcap) _) hsz
  unfold newSl at h
  simp only [cond_false] at h
  obtain ⟨h0, h1⟩ := runA_new h
  obtain ⟨rfl, rfl⟩ := runA_ret h1
  have hn' : κ.ρ st.nx = none := f _ (Nat.le_refl _) (by simp [St.newO, St.delO])
  obtain ⟨i', f'⟩ := inv_grow i n st.nx b lo (o + cs.length) ob w'.heap hn hr hn' hold hlo hs hne arr e hb (by omega) hzb
  refine ⟨_, _, w', .inl rfl, ?_, by simp only [St.newO, St.delO, get_set_upd]; exact i', ⟨by simp only [St.newO, St.delO, get_set_upd]; exact f', hkp⟩⟩
  have hp' := hp.mono f'.ext
  refine .sl _ len sz _ b o cap xs hp.1 hl (fun j hj => ?_) (fun j u hj => ?_) ?_ hp'.2
  · rcases hI j (by rw [hp.1]; exact hj) with h | h
    · exact .inl h
    · exact .inr ⟨rfl, h, by have := hp.1; omega⟩
  · unfold hc; rw [hb]; exact hx j u hj
  · exact ⟨rfl, by simp [St.delO], by simp [St.delO], hcap, arr.size, by unfold hz; rw [hb], hsz⟩


theorem one_all {cs : List V} {xs : List Value} (hp : PW κ w.heap cs xs) (h : cs.all V.one = true) : ∀ u ∈ xs, u.oneCell' = true := fun u hu => by
  obtain ⟨j, hj, rfl⟩ := List.getElem_of_mem hu
  have hj' : j < cs.length := by rw [hp.1]; exact hj
  exact one_cell (hp.2 j cs[j] _ (by simp [hj']) (by simp)) (List.all_eq_true.1 h _ (List.getElem_mem hj'))

theorem zrT_all {t : TypeId} {z : V} (h : zrT P t = some z) : ∃ zv, (∀ w, (zeroValue t).run P w = .ok zv w) ∧ z = ofVal zv := by
  unfold zrT at h
  cases hi : P.info? t with
  | none => rw [hi] at h; cases h
  | some i =>
    rw [hi] at h
    cases hz : i.zero with
    | none => simp [hz] at h
    | some zv => simp [hz] at h; exact ⟨zv, fun w => by simp [zeroValue, typeInfo, hi, hz], h.symm⟩

/-- Nothing is appended. -/
theorem append_none {ats : Array TypeId} {t t2 ty e : TypeId} {sz : Nat} (h0 : ats[0]? = some t) (h1 : ats[1]? = some t2) (ht : P.underlying t = some (.slice e)) (ht2 : NotInt P t2) (hs : szT P e = some sz)
    {base : Option Addr} {sLen sCap : Nat} {x : Value} (hl : ∀ w1, (Builtin.lenOf x).run P w1 = .ok 0 w1) (hc : ∀ w1 : World, w1.heap = w.heap → (Builtin.firstCells sz 0 x).run P w1 = .ok #[] w1) (hroom : sLen ≤ sCap) :
    (Builtin.append_ ats ty #[.slice base sLen sCap, x]).run P w = .ok (.slice base sLen sCap) w := by
  rw [run_append_fit (news := []) h0 h1 ht ht2 hs hl hc (by omega)]
  cases base with
  | none => rfl
  | some a => simp [storeCells, Result.andThen]

theorem roomOk_fits {need by_ old : Nat} (h : roomOk need by_ = true) (ho : old < need) : 0 < by_ ∧ Builtin.nextslicecap need old * by_ ≤ 281474976710656 := by
  unfold roomOk at h
  rw [Bool.and_eq_true] at h
  have h1 := Nat.le_of_ble_eq_true h.1
  have h2 := Nat.le_of_ble_eq_true h.2
  refine ⟨by omega, Nat.le_trans (Nat.mul_le_mul_right _ (nextslicecap_le ho)) (Nat.le_trans (Nat.mul_le_mul_right _ (by omega)) h2)⟩

theorem exOk_fits {need by_ old : Nat} (h : exOk need old by_ = true) : 0 < by_ ∧ Builtin.nextslicecap need old * by_ ≤ 281474976710656 := by
  unfold exOk at h
  rw [Bool.and_eq_true] at h
  have h1 := Nat.le_of_ble_eq_true h.1
  have h2 := Nat.le_of_ble_eq_true h.2
  exact ⟨by omega, h2⟩

theorem cond_true' {α : Type} {b : Bool} {x y : α} {p : α → Prop} (h : p (bif b then x else y)) (no : ¬ p y) : b = true ∧ p x := by
  cases b
  · exact (no h).elim
  · exact ⟨rfl, h⟩

/-- Cells of a list that is read, in every world with this heap. -/
theorem first_of {b o n : Nat} {sz sLen sCap : Nat} {xs : List Value} (hn : n = sLen * sz) (hl : xs.length = n) (hc : ∀ (j : Nat) u, xs[j]? = some u → hc w.heap b (o + j) = some u) :
    ∀ w1 : World, w1.heap = w.heap → (Builtin.firstCells sz sLen (.slice (some ⟨b, o, none⟩) sLen sCap)).run P w1 = .ok xs.toArray w1 := fun w1 he => by
  simp only [Builtin.firstCells]
  subst hn
  rw [← hl]
  exact run_loadCells_list (P := P) w1 ⟨b, o, none⟩ xs (fun j u hj => by rw [Addr.add_mid, cell_hc, he]; exact hc j u hj)

theorem newSl_nx {mu : Bool} {sz len : Nat} {cs : List V} (h : runA (newSl mu sz cs len) st rd = .val v st' rd') : st'.nx = st.nx + 1 := by
  unfold newSl at h
  cases mu with
  | true => obtain ⟨_, h1⟩ := runA_new h; obtain ⟨rfl, rfl⟩ := runA_ret h1; rfl
  | false => obtain ⟨_, h1⟩ := runA_new h; obtain ⟨rfl, rfl⟩ := runA_ret h1; rfl

/-- 'append' of a list. -/
theorem appendA_sound {mu : Bool} {ats : Array TypeId} {t t2 ty e : TypeId} {s x : V} {s' x' : Value} (a0 : ats[0]? = some t) (a1 : ats[1]? = some t2) (ht : P.underlying t = some (.slice e)) (ht2 : NotInt P t2)
    (h : runA (appendA P mu e s x) st rd = .val v st' rd') (i : Inv P κ st.h.get w.heap) (hsv : RV κ w.heap s s') (hx : RV κ w.heap x x') (f : Free κ st.nx st'.nx) :
    OpR P κ st w ((do let r ← Builtin.append_ ats ty #[s', x']; pure (Next.value r) : Sem Next).run P w) v st' := by
  unfold appendA at h
  split at h
  · rename_i sz z hs hzz
    obtain ⟨zv, hzr, rfl⟩ := zrT_all hzz
    cases hzc : (!Nat.beq (ofVal zv).cells.length sz) with
    | true => rw [hzc] at h; exact (runA_fail h).elim
    | false =>
      rw [hzc] at h
      simp only [cond_false] at h
      have hzs : zv.cells.size = sz := by
        have h1 := Nat.eq_of_beq_eq_true (by simpa using hzc : Nat.beq (ofVal zv).cells.length sz = true)
        have h2 := (pw_zero κ w.heap zv).1
        rw [← h1, h2]; simp
      obtain ⟨xc, m, rd2, news, h1, hp, hlen, r1, r2⟩ := rdMs_sound h i hx
      have hnl : news.length = m * sz := by rw [← hp.1, hlen]
      rw [cond_beq] at h1
      split at h1
      · rename_i hm
        subst hm
        have hn0 : news = [] := by rw [Nat.zero_mul] at hnl; exact List.length_eq_zero_iff.1 hnl
        subst hn0
        split at h1
        · obtain ⟨rfl, rfl⟩ := runA_ret h1
          cases hsv
          have := append_none (P := P) (ty := ty) (base := none) (sLen := 0) (sCap := 0) a0 a1 ht ht2 hs r1 r2 (Nat.le_refl _)
          simpa [this] using OpR.pure (P := P) i (RV.snil (κ := κ) (H := w.heap))
        · rename_i cs len sz' cp
          obtain ⟨rfl, rfl⟩ := runA_ret h1
          have hsv' := hsv
          cases hsv' with
          | sl _ _ _ _ b o cap vs hl hs' hI hv hcap he =>
            have hle : len ≤ cap := by
              cases cp with
              | ex => simp only [CapOk] at hcap; omega
              | unk => exact hcap
              | tok a b => exact hcap.2.2.2.1
            have := append_none (P := P) (ty := ty) (base := some ⟨b, o, none⟩) a0 a1 ht ht2 hs r1 r2 hle
            simpa [this] using OpR.pure (P := P) i hsv
        · rename_i n off len sz' cap
          obtain ⟨rfl, rfl⟩ := runA_ret h1
          have hsv' := hsv
          cases hsv' with
          | ms _ _ _ _ _ b cap' q hr hle hcap hq hbd =>
            have := append_none (P := P) (ty := ty) (base := some ⟨b, off, none⟩) a0 a1 ht ht2 hs r1 r2 hle
            simpa [this] using OpR.pure (P := P) i hsv
        · exact (runA_fail h1).elim
      · rename_i hm
        have slc : ∀ {cp : Cp} {cs : List V} {b o k cap len sz' : Nat}, CapOk κ w.heap b o k len sz' cap cp → len ≤ cap := fun {cp} _ _ _ _ _ _ _ hcap => by
          cases cp with
          | ex => simp only [CapOk] at hcap; omega
          | unk => exact hcap
          | tok a b => exact hcap.2.2.2.1
        -- a new block
        have fresh : ∀ {κ' : Kap} {st1 : St} {rd3 : List Nat} {cs : List V} {olds : List Value} {base : Option Addr} {sLen sCap : Nat}, runA (newSl mu sz (cs ++ xc) (sLen + m)) st1 rd3 = .val v st' rd' → Inv P κ' st1.h.get w.heap → Free κ' st1.nx st'.nx →
            PW κ' w.heap cs olds → PW κ' w.heap xc news → cs.length = sLen * sz → (∀ w1 : World, w1.heap = w.heap → (Builtin.firstCells sz sLen (.slice base sLen sCap)).run P w1 = .ok olds.toArray w1) → sCap < sLen + m →
            0 < byT P e → Builtin.nextslicecap (sLen + m) sCap * byT P e ≤ 281474976710656 →
            OpR P κ' st1 w ((do let r ← Builtin.append_ ats ty #[.slice base sLen sCap, x']; pure (Next.value r) : Sem Next).run P w) v st' := by
          intro κ' st1 rd3 cs olds base sLen sCap hr hi hf hpo hpx hol ho hgt hb hfit
          obtain ⟨c, rest, c1, c2, c3⟩ := run_append_new (P := P) (ty := ty) a0 a1 ht ht2 hs hzr hzs r1 r2 ho hgt hb hfit
          have hcl : (cs ++ xc).length = (sLen + m) * sz := by rw [List.length_append, hol, hlen, Nat.add_mul]
          have := newSl_new (P := P) (mu := mu) (w := w) (arr := (olds ++ news).toArray ++ rest) (e := e) (xs := olds ++ news) (cap := c) hr hi hf (hpo.append hpx)
            (fun j u hj => by
              have : j < (olds ++ news).toArray.size := by simpa using (List.getElem?_eq_some_iff.1 hj).1
              rw [Array.getElem?_append_left this]; simpa using hj) hcl c1
            (by rw [Array.size_append, c2, List.size_toArray, List.length_append, ← hpo.1, hol, ← hpx.1, hlen, ← Nat.add_mul, ← Nat.add_mul]; exact Nat.le_of_eq (by congr 1; omega))
            (w' := w.drew.alloc (.cells ((olds ++ news).toArray ++ rest) e)) rfl
          simpa [c3] using this
        -- the same block
        have fits : ∀ {b o len cap : Nat} {arr : Array Value} {et : TypeId}, w.heap[b]? = some (.cells arr et (0, 0)) → len + m ≤ cap → o + (len + m) * sz ≤ arr.size → xc.all V.one = true →
            ∃ arr' : Array Value, (Builtin.append_ ats ty #[.slice (some ⟨b, o, none⟩) len cap, x']).run P w = .ok (.slice (some ⟨b, o, none⟩) (len + m) cap) (w.setCells b (o + len * sz) news) ∧
              (w.setCells b (o + len * sz) news).heap.size = w.heap.size ∧ (∀ c, c ≠ b → (w.setCells b (o + len * sz) news).heap[c]? = w.heap[c]?) ∧ (w.setCells b (o + len * sz) news).heap[b]? = some (.cells arr' et (0, 0)) ∧ arr'.size = arr.size ∧
              (∀ j : Nat, j < o + len * sz → arr'[j]? = arr[j]?) ∧ (∀ (j : Nat) u, news[j]? = some u → arr'[o + len * sz + j]? = some u) := by
          intro b o len cap arr et hA hfit hbd hone
          obtain ⟨s1, s2, s3⟩ := setCells_heap w b news (o + len * sz)
          obtain ⟨arr', a1', a2, a3⟩ := s3 _ _ _ hA
          have hbd' : o + len * sz + m * sz ≤ arr.size := by rw [Nat.add_assoc, ← Nat.add_mul]; exact hbd
          have hst := run_storeCells_cells (P := P) b (o + len * sz) news 0 w (fun j hj => by rw [cell_hc]; have : o + len * sz + j < arr.size := by omega
                                                                                              simp [hc, hA, this])
            (fun j hj => by simp [World.frozen?, hA]) (one_all hp hone)
          simp only [Nat.add_zero] at hst
          refine ⟨arr', ?_, s1, s2, a1', a2, fun j hj => ?_, fun j u hj => ?_⟩
          · rw [run_append_fit (P := P) (ty := ty) (base := some ⟨b, o, none⟩) a0 a1 ht ht2 hs r1 r2 hfit]
            simp only [Addr.add_lit, hst, Result.andThen]
          · rw [a3 j (by omega), if_neg (by omega)]
          · have hj' := (List.getElem?_eq_some_iff.1 hj).1
            rw [a3 _ (by omega), if_pos ⟨by omega, by omega⟩]
            rw [show o + len * sz + j - (o + len * sz) = j by omega]; exact hj
        split at h1
        · cases hsv
          cases hc : exOk m 0 (byT P e) with
          | false => rw [hc] at h1; exact (runA_fail h1).elim
          | true =>
            rw [hc] at h1
            simp only [cond_true] at h1
            obtain ⟨b1, b2⟩ := exOk_fits hc
            exact fresh (cs := []) (olds := []) (sLen := 0) (sCap := 0) (by simpa using h1) i f .nil hp (by simp) (fun _ _ => rfl) (by omega) b1 (by simpa using b2)
        · rename_i cs len sz'
          cases hc : (Nat.beq sz sz' && exOk (len + m) len (byT P e)) with
          | false => rw [hc] at h1; exact (runA_fail h1).elim
          | true =>
            rw [hc] at h1
            simp only [cond_true] at h1
            rw [Bool.and_eq_true] at hc
            have hq := Nat.eq_of_beq_eq_true hc.1
            subst hq
            obtain ⟨b1, b2⟩ := exOk_fits hc.2
            cases hsv with
            | sl _ _ _ _ b o cap vs hl hs' hI hv hcap he =>
              have hcap : cap = len := hcap
              subst hcap
              exact fresh (cs := cs) (olds := vs) h1 i f ⟨hl, he⟩ hp hs' (first_of hs' hl.symm hv) (by omega) b1 b2
        · rename_i cs len sz' n q
          cases hc : (Nat.beq sz sz' && roomOk (len + m) (byT P e) && xc.all V.one) with
          | false => rw [hc] at h1; exact (runA_fail h1).elim
          | true =>
            rw [hc] at h1
            simp only [cond_true] at h1
            simp only [Bool.and_eq_true] at hc
            obtain ⟨⟨hq, hroom⟩, hone⟩ := hc
            have hq := Nat.eq_of_beq_eq_true hq
            subst hq
            obtain ⟨ob, ho, h2⟩ := runA_get h1
            split at h2
            · cases mu with
              | true => simp only [cond_true] at h2; exact (runA_fail h2).elim
              | false =>
                simp only [cond_false] at h2
                obtain ⟨_, h3⟩ := runA_del h2
                have hnx := newSl_nx h3
                cases hsv with
                | sl _ _ _ _ b o cap vs hl hs' hI hv hcap he =>
                  obtain ⟨hq, hr, hph, hle, mm, hz1, hbd⟩ := hcap
                  subst hq
                  by_cases hfit : len + m ≤ cap
                  · obtain ⟨b', hr', arr, et, hA, hB⟩ := i.obj n _ ho
                    rw [hr] at hr'; cases hr'
                    have hmm : arr.size = mm := by unfold hz at hz1; rw [hA] at hz1; simpa using hz1
                    have hbd2 : o + (len + m) * q ≤ arr.size := by rw [hmm]; exact Nat.le_trans (Nat.add_le_add_left (Nat.mul_le_mul_right _ hfit) _) hbd
                    obtain ⟨arr', q1, q2, q3, q4, q5, q6, q7⟩ := fits (o := o) (len := len) (cap := cap) hA hfit hbd2 hone
                    have hold : ∀ j, κ.I b j → j < o + len * q ∧ hc (w.setCells b (o + len * q) news).heap b j = hc w.heap b j := fun j hj => by
                      have h4 := (i.sep n _ b j ho hr hj).2
                      rw [hph, hs'] at h4
                      exact ⟨h4, by unfold hc; rw [q4, hA]; exact q6 j h4⟩
                    have hal : ∀ (j : Nat) u, vs[j]? = some u → arr[o + j]? = some u := fun j u hj => by have := hv j u hj; unfold hc at this; rw [hA] at this; exact this
                    have := grow_same (P := P) (w := w) (n := n) (b := b) (lo := o + len * q) (o := o) (len := len + m) (cap := cap) (sz := q) (cs := cs ++ xc) (xs := vs ++ news) (w' := w.setCells b (o + len * q) news) (arr := arr') (e := et) h3 i f ho hr hold
                      (by rw [List.length_append, hs']; omega) q2 q3 q4 (fun k hk => by unfold hz at hk ⊢; rw [q4]; rw [hA] at hk; simpa [q5] using hk) hfit (by rw [q5, hmm]; exact hbd)
                      (by rw [List.length_append, hs', hlen, Nat.add_mul]) (fun j hj => by
                        by_cases hjl : j < vs.length
                        · exact .inl (hI j hjl)
                        · exact .inr (by omega)) (.append ⟨hl, he⟩ hp) (fun j u hj => by
                        by_cases hjl : j < vs.length
                        · rw [List.getElem?_append_left hjl] at hj
                          rw [q6 _ (by omega)]; exact hal j u hj
                        · rw [List.getElem?_append_right (by omega)] at hj
                          have := q7 _ u hj
                          rwa [show o + len * q + (j - vs.length) = o + j by omega] at this) (kp_setCells _ _ _ _)
                    simpa [q1] using this
                  · obtain ⟨b1, b2⟩ := roomOk_fits hroom (old := cap) (by omega)
                    obtain ⟨i', f'⟩ := inv_del i n st.nx
                    have e0 : (st.delO n).h.get = upd st.h.get n none := by simp only [St.delO, get_set_upd]
                    refine OpR.after (st1 := st.delO n) (κ1 := κ) (w1 := w) ⟨by rw [e0]; exact f', rfl, rfl⟩ (Nat.le_refl _) (by rw [hnx]; simp [St.delO])
                      (fresh (cs := cs) (olds := vs) h3 (by rw [e0]; exact i') f ⟨hl, he⟩ hp hs' (first_of hs' hl.symm hv) (by omega) b1 b2)
            · exact (runA_fail h2).elim
        · rename_i n off len sz' cap
          cases hq : (!Nat.beq sz sz') with
          | true => rw [hq] at h1; exact (runA_fail h1).elim
          | false =>
            rw [hq] at h1
            simp only [cond_false] at h1
            have hq := Nat.eq_of_beq_eq_true (by simpa using hq : Nat.beq sz sz' = true)
            subst hq
            obtain ⟨ob, ho, h2⟩ := runA_get h1
            split at h2
            · rename_i cs
              cases hsv with
              | ms _ _ _ _ _ b cap' mm hr hle hcap hz1 hbd =>
                obtain rfl := hcap _ rfl
                obtain ⟨b', hr', arr, et, us, hA, hB, hC⟩ := i.obj n _ ho
                rw [hr] at hr'; cases hr'
                have hmm : arr.size = mm := by unfold hz at hz1; rw [hA] at hz1; simpa using hz1
                have ul : us.length ≤ arr.size := by
                  rcases Nat.lt_or_ge arr.size us.length with h | h
                  · have := hC arr.size us[arr.size] (by simp [h])
                    have := (Array.getElem?_eq_some_iff.1 this).1; omega
                  · exact h
                cases hfit : Nat.ble (len + m) cap' with
                | true =>
                  rw [hfit] at h2
                  simp only [cond_true] at h2
                  have hfit := Nat.le_of_ble_eq_true hfit
                  cases hc2 : (Nat.ble (off + (len + m) * sz) cs.length && xc.all V.one) with
                  | false => rw [hc2] at h2; exact (runA_fail h2).elim
                  | true =>
                    rw [hc2] at h2
                    simp only [cond_true] at h2
                    rw [Bool.and_eq_true] at hc2
                    have hcl := Nat.le_of_ble_eq_true hc2.1
                    obtain ⟨_, h3⟩ := runA_put h2
                    obtain ⟨rfl, rfl⟩ := runA_ret h3
                    have hbl := hB.1
                    obtain ⟨arr', q1, q2, q3, q4, q5, q6, q7⟩ := fits (o := off) (len := len) (cap := cap') hA hfit (by omega) hc2.2
                    have hxl : off + len * sz + xc.length ≤ cs.length := by rw [hlen, Nat.add_assoc, ← Nat.add_mul]; exact hcl
                    obtain ⟨_, i', f', _⟩ := put_cells i ho hr hp hxl
                    refine ⟨κ, .slice (some ⟨b, off, none⟩) (len + m) cap', w.setCells b (off + len * sz) news, .inl (by simp [q1]), ?_, by simp only [St.putO, get_set_upd]; exact i', ⟨by simp only [St.putO, get_set_upd]; exact f', kp_setCells _ _ _ _⟩⟩
                    exact .ms _ _ _ _ _ b cap' mm hr hfit (fun c hc => by cases hc; rfl) (f'.ext.size _ _ hz1) hbd
                | false =>
                  rw [hfit] at h2
                  simp only [cond_false] at h2
                  have hfit : cap' < len + m := by
                    rcases Nat.lt_or_ge cap' (len + m) with h | h
                    · exact h
                    · rw [Nat.ble_eq_true_of_le h] at hfit; cases hfit
                  cases hc2 : exOk (len + m) cap' (byT P e) with
                  | false => rw [hc2] at h2; exact (runA_fail h2).elim
                  | true =>
                    rw [hc2] at h2
                    simp only [cond_true] at h2
                    obtain ⟨b1, b2⟩ := exOk_fits hc2
                    rw [cond_beq] at h2
                    split at h2
                    · rename_i hol
                      have hpo := (hB.drop off).take (len * sz)
                      refine fresh (cs := (cs.drop off).take (len * sz)) (olds := (us.drop off).take (len * sz)) h2 i f hpo hp hol (first_of hol hpo.1.symm (fun j u hj => ?_)) hfit b1 b2
                      rw [List.getElem?_take] at hj
                      split at hj
                      · rw [List.getElem?_drop] at hj
                        unfold hc; rw [hA]; exact hC _ u hj
                      · cases hj
                    · exact (runA_fail h2).elim
            · exact (runA_fail h2).elim
        · rename_i n off len sz'
          cases hc : (Nat.beq sz sz' && Nat.beq off 0 && roomOk (len + m) (byT P e) && xc.all V.one) with
          | false => rw [hc] at h1; exact (runA_fail h1).elim
          | true =>
            rw [hc] at h1
            simp only [cond_true] at h1
            simp only [Bool.and_eq_true] at hc
            obtain ⟨⟨⟨hq, hoff⟩, hroom⟩, hone⟩ := hc
            have hq := Nat.eq_of_beq_eq_true hq
            have hoff := Nat.eq_of_beq_eq_true hoff
            subst hq
            subst hoff
            obtain ⟨ob, ho, h2⟩ := runA_get h1
            split at h2
            · rename_i cs
              rw [cond_beq] at h2
              split at h2
              · rename_i hol
                obtain ⟨_, h3⟩ := runA_del h2
                have hnx := newSl_nx h3
                cases hsv with
                | ms _ _ _ _ _ b cap mm hr hle hcap hz1 hbd =>
                  obtain ⟨b', hr', arr, et, us, hA, hB, hC⟩ := i.obj n _ ho
                  rw [hr] at hr'; cases hr'
                  have hmm : arr.size = mm := by unfold hz at hz1; rw [hA] at hz1; simpa using hz1
                  have hpo := hB.take (len * sz)
                  have hpl : (us.take (len * sz)).length = len * sz := by rw [← hpo.1, hol]
                  by_cases hfit : len + m ≤ cap
                  · have hbd2 : 0 + (len + m) * sz ≤ arr.size := by rw [hmm]; exact Nat.le_trans (Nat.add_le_add_left (Nat.mul_le_mul_right _ hfit) _) hbd
                    obtain ⟨arr', q1, q2, q3, q4, q5, q6, q7⟩ := fits (o := 0) (len := len) (cap := cap) hA hfit hbd2 hone
                    have noI : ∀ j, ¬ κ.I b j := fun j hI => by have := (i.sep n _ b j ho hr hI).1; cases this
                    have hzb : ∀ k, hz w.heap b = some k → hz (w.setCells b (0 + len * sz) news).heap b = some k := fun k hk => by unfold hz at hk ⊢; rw [q4]; rw [hA] at hk; simpa [q5] using hk
                    have hx' : ∀ (j : Nat) u, (us.take (len * sz) ++ news)[j]? = some u → arr'[0 + j]? = some u := fun j u hj => by
                      by_cases hjl : j < len * sz
                      · rw [List.getElem?_append_left (by omega), List.getElem?_take_of_lt hjl] at hj
                        rw [q6 _ (by omega), Nat.zero_add]; exact hC j u hj
                      · rw [List.getElem?_append_right (by omega), hpl] at hj
                        have := q7 _ u hj
                        rwa [show 0 + len * sz + (j - len * sz) = 0 + j by omega] at this
                    cases mu with
                    | false =>
                      have := grow_same (P := P) (w := w) (n := n) (b := b) (lo := 0) (o := 0) (len := len + m) (cap := cap) (sz := sz) (cs := cs.take (len * sz) ++ xc) (xs := us.take (len * sz) ++ news) (w' := w.setCells b (0 + len * sz) news) (arr := arr') (e := et) h3 i f ho hr
                        (fun j hj => absurd hj (noI j)) (by omega) q2 q3 q4 hzb hfit (by rw [q5, hmm]; exact hbd) (by rw [List.length_append, hol, hlen, Nat.add_mul]) (fun j hj => .inr (by omega)) (hpo.append hp) hx' (kp_setCells _ _ _ _)
                      simpa [q1] using this
                    | true =>
                      unfold newSl at h3
                      simp only [cond_true] at h3
                      obtain ⟨h00, h4⟩ := runA_new h3
                      obtain ⟨rfl, rfl⟩ := runA_ret h4
                      have hn' : κ.ρ st.nx = none := f _ (Nat.le_refl _) (by simp [St.newO, St.delO])
                      obtain ⟨i', f'⟩ := inv_move i n st.nx b (.blk cs) (.blk (cs.take (len * sz) ++ xc)) (w.setCells b (0 + len * sz) news).heap ho hr (by simp) hn' q2 q3 hzb
                        (fun x => ⟨arr', et, _, q4, (hpo.append hp).mono x, fun j u hj => by have := hx' j u hj; rwa [Nat.zero_add] at this⟩)
                      refine ⟨_, .slice (some ⟨b, 0, none⟩) (len + m) cap, w.setCells b (0 + len * sz) news, .inl (by simp [q1]), ?_, by simp only [St.newO, St.delO, get_set_upd]; exact i', ⟨by simp only [St.newO, St.delO, get_set_upd]; exact f', kp_setCells _ _ _ _⟩⟩
                      exact .ms _ _ _ _ _ b cap mm (by simp [St.delO]) hfit (fun c hc => by cases hc) (hzb _ hz1) hbd
                  · obtain ⟨b1, b2⟩ := roomOk_fits hroom (old := cap) (by omega)
                    obtain ⟨i', f'⟩ := inv_del i n st.nx
                    have e0 : (st.delO n).h.get = upd st.h.get n none := by simp only [St.delO, get_set_upd]
                    refine OpR.after (st1 := st.delO n) (κ1 := κ) (w1 := w) ⟨by rw [e0]; exact f', rfl, rfl⟩ (Nat.le_refl _) (by rw [hnx]; simp [St.delO])
                      (fresh (cs := cs.take (len * sz)) (olds := us.take (len * sz)) h3 (by rw [e0]; exact i') f hpo hp hol (first_of hol hpo.1.symm (fun j u hj => ?_)) (by omega) b1 b2)
                    rw [List.getElem?_take] at hj
                    split at hj
                    · unfold hc; rw [hA, Nat.zero_add]; exact hC _ u hj
                    · cases hj
              · exact (runA_fail h2).elim
            · exact (runA_fail h2).elim
        · exact (runA_fail h1).elim
  · exact (runA_fail h).elim

end ops
end Go.Am
