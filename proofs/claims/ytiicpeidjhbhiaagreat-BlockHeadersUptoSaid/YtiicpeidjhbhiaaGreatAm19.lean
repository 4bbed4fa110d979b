/-
  THE ABSTRACT MACHINE, PART 19: a region, in the order in which it is written; in whatever order is drawn.
-/
import Derived.Test.YtiicpeidjhbhiaaGreatAm18
namespace Go.Am
open Go

/-- The marks among an activation's deferred calls. -/
inductive DefR (κ : Kap) : List Nat → List Deferred → Prop
  | nil : DefR κ [] []
  | cons {d b : Nat} {l : List Nat} {ds : List Deferred} (h : κ.ρ d = some b) (t : DefR κ l ds) : DefR κ (d :: l) ({ target := .collected b, args := #[] } :: ds)

theorem DefR.mono {κ κ' : Kap} {H H' : Array Obj} {l : List Nat} {ds : List Deferred} (x : Ext κ H κ' H') (h : DefR κ l ds) : DefR κ' l ds := by
  induction h with
  | nil => exact .nil
  | cons h _ ih => exact .cons (x.rho _ _ h).1 ih

/-- Temporaries, heap, marks. -/
structure SR (P : Program) (κ : Kap) (nt : Nat) (env : Env) (st : St) (a : Act) (w : World) : Prop where
  re : RE κ w.heap env a.tmps
  size : a.tmps.size = nt
  dfr : DefR κ st.df a.defers
  inv : Inv P κ st.h.get w.heap

section
variable {P : Program}

/-- Is it wanted? -/
theorem wanted_sound {κ : Kap} {H : Array Obj} {ops : Array Oper} {env : Env} {o : Oper} {b : Bool} {a : Act} (h : wantV ops.toList env o.guard = some b)
    (hr : ∀ t, t ∈ looks ops.toList o → RV κ H (eget env t) (a.tmps.getD t undef)) : Region.wanted o (yielded ops a.tmps) = b := by
  unfold Region.wanted
  unfold wantV at h
  cases hg : o.guard with
  | none => rw [hg] at h; cases h; rfl
  | some g =>
    obtain ⟨j, w⟩ := g
    rw [hg] at h
    dsimp only at h ⊢
    cases ho : ops.toList[j]? with
    | none => rw [ho] at h; cases h
    | some oj =>
      rw [ho] at h
      dsimp only at h
      have ho' : ops[j]? = some oj := by simpa using ho
      cases hd : oj.dst with
      | none => rw [hd] at h; cases h
      | some d =>
        rw [hd] at h
        dsimp only at h
        have hl : d ∈ looks ops.toList o := by
          unfold looks
          rw [hg]
          simp only [ho, hd]
          simp
        have rv := hr d hl
        unfold yielded
        rw [ho']
        simp only [Option.bind_some, hd]
        split at h
        · rename_i b' he
          rw [he] at rv
          have hv := rv.inv_bool
          have : a.tmps[d]? = some (.bool b') := by
            rw [Array.getD_eq_getD_getElem?] at hv
            cases hq : a.tmps[d]? with
            | none => rw [hq] at hv; simp [undef] at hv
            | some u => rw [hq] at hv; simpa using hv
          rw [this]
          cases h
          cases b' <;> cases w <;> rfl
        · rename_i vs he
          rw [he] at rv
          obtain ⟨us, hv, _⟩ := rv.inv_tup
          cases h
          rw [Array.getD_eq_getD_getElem?] at hv
          cases hq : a.tmps[d]? with
          | none => rfl
          | some u => rw [hq] at hv; simp at hv; rw [hv]; rfl
        · cases h

/-! ### In the order in which it is written -/
theorem evSeq_lk {call : CallF} (hc : CallOk P call) {nt : Nat} {mu : Bool} {all : List Oper} : ∀ (l : List Oper) (env env' : Env) (st st' : St), evSeq P call nt mu all l env st = some (env', st') → Lk st st' ∧ st'.df = st.df
  | [], env, env', st, st', h => by simp only [evSeq] at h; cases h; exact ⟨.refl _, rfl⟩
  | o :: l, env, env', st, st', h => by
    simp only [evSeq] at h
    split at h
    · cases h
    · split at h
      · exact evSeq_lk hc l _ _ _ _ h
      · cases h
    · split at h
      · rename_i he
        split at h
        · obtain ⟨a, b⟩ := evOp_lk hc he
          obtain ⟨c, d⟩ := evSeq_lk hc l _ _ _ _ h
          exact ⟨a.trans c, d.trans b⟩
        · cases h
      · cases h

theorem evSeq_sound {F : Fence} (hF : WF F) {call : CallF} (hc : CallOk P call) {nt : Nat} {mu : Bool} {ops : Array Oper} {Q : Exit → Act → World → Prop} :
    ∀ (l : List Oper) (k : Nat) (env env' : Env) (st st' : St), (∀ j : Nat, l[j]? = ops.toList[k + j]?) → evSeq P call nt mu ops.toList l env st = some (env', st') →
    ∀ κ a w, SR P κ nt env st a w → Free κ st.nx st'.nx →
      (∀ κ' a' w', SR P κ' nt env' st' a' w' → FrW κ st.h.get w κ' st'.h.get w' st.nx st'.nx → Q .normal a' w') → wpOpsIn F 0 P ops Q (List.range' k l.length) a w
  | [], k, env, env', st, st', _, h, κ, a, w, s, f, hQ => by
    simp only [evSeq] at h; cases h
    exact hQ κ a w s (.refl _ _ _ _ _)
  | o :: l, k, env, env', st, st', hl, h, κ, a, w, s, f, hQ => by
    have ho : ops[k]? = some o := by have := hl 0; simpa using this.symm
    have hl' : ∀ j : Nat, l[j]? = ops.toList[k + 1 + j]? := fun j => by have := hl (j + 1); rw [show k + 1 + j = k + (j + 1) by omega]; simpa using this
    have hlk := evSeq_lk hc _ _ _ _ _ h
    simp only [evSeq] at h
    rw [List.length_cons, List.range'_succ, wpOpsIn, ho]
    dsimp only
    split at h
    · cases h
    · rename_i hw
      split at h
      · rename_i env1 he
        rw [wanted_sound hw (fun t _ => s.re t)]
        simp only [Bool.false_eq_true, if_false]
        refine ⟨fun g _ => hF.fn g, ?_⟩
        refine evSeq_sound hF hc l (k + 1) env1 env' st st' hl' h κ _ w ⟨s.re.put s.size he (.tup [] #[] rfl (fun i c v h => by simp at h)), by rw [put_size]; exact s.size, by rw [put_defers]; exact s.dfr, s.inv⟩ f hQ
      · cases h
    · rename_i hw
      split at h
      · rename_i v st1 rd c he
        split at h
        · rename_i env1 hp
          rw [wanted_sound hw (fun t _ => s.re t)]
          simp only [if_true]
          have l1 := evOp_lk hc he
          have l2 := evSeq_lk hc _ _ _ _ _ h
          refine evOp_sound hF hc he (fun t _ => s.re t) s.inv (f.left l2.1.nx) (fun κ' v' w' hv hi hf => ?_)
          refine evSeq_sound hF hc l (k + 1) env1 env' st1 st' hl' h κ' _ w' ⟨(s.re.mono hf.ext).put s.size hp hv, by rw [put_size]; exact s.size, by rw [put_defers, l1.2]; exact s.dfr.mono hf.ext, hi⟩ (f.later l1.1.nx hf.toFr)
            (fun κ'' a'' w'' s' f' => hQ κ'' a'' w'' s' (hf.trans l1.1.nx l2.1.nx f'))
        · cases h
      · cases h

/-! ### What stands ahead of what -/
theorem testBit_fold (f : Nat → Nat) : ∀ (l : List Nat) (s b : Nat), (l.foldl (fun s j => s ||| 2 ^ j ||| f j) s).testBit b = true → s.testBit b = true ∨ ∃ j ∈ l, b = j ∨ (f j).testBit b = true
  | [], s, b, h => .inl h
  | j :: l, s, b, h => by
    rw [List.foldl_cons] at h
    rcases testBit_fold f l _ b h with h | ⟨k, hk, h⟩
    · rw [Nat.testBit_or, Nat.testBit_or, Bool.or_eq_true, Bool.or_eq_true, Nat.testBit_two_pow] at h
      rcases h with (h | h) | h
      · exact .inl h
      · exact .inr ⟨j, by simp, .inl (of_decide_eq_true h).symm⟩
      · exact .inr ⟨j, by simp, .inr h⟩
    · exact .inr ⟨k, by simp [hk], h⟩

theorem masks_spec : ∀ (l : List Oper) (acc : List Nat), (∃ r, masks l acc = acc ++ r ∧ r.length = l.length) ∧
    ∀ (k : Nat) o, l[k]? = some o → (∀ j ∈ preds o, j < acc.length + k) → (masks l acc).getD (acc.length + k) 0 = maskOf o (masks l acc)
  | [], acc => ⟨⟨[], by simp [masks], rfl⟩, fun k o h => by simp at h⟩
  | x :: l, acc => by
    obtain ⟨⟨r, h1, h2⟩, h3⟩ := masks_spec l (acc ++ [maskOf x acc])
    refine ⟨⟨maskOf x acc :: r, ?_, by simp [h2]⟩, fun k o ho hp => ?_⟩
    · rw [masks, h1]; simp
    · rw [masks]
      cases k with
      | zero =>
        simp at ho
        subst ho
        rw [h1]
        have e1 : (acc ++ [maskOf x acc] ++ r).getD (acc.length + 0) 0 = maskOf x acc := by
          simp [List.getD]
        rw [e1]
        unfold maskOf
        have key : ∀ (ps : List Nat) (s : Nat), (∀ j ∈ ps, j < acc.length) → ps.foldl (fun s j => s ||| 2 ^ j ||| acc.getD j 0) s = ps.foldl (fun s j => s ||| 2 ^ j ||| (acc ++ [maskOf x acc] ++ r).getD j 0) s := by
          intro ps
          induction ps with
          | nil => intro s _; rfl
          | cons j ps ih =>
            intro s hps
            rw [List.foldl_cons, List.foldl_cons]
            have : (acc ++ [maskOf x acc] ++ r).getD j 0 = acc.getD j 0 := by
              have hj := hps j (by simp)
              simp [List.getD, List.getElem?_append_left hj]
            rw [this]
            exact ih _ (fun j' h => hps j' (by simp [h]))
        exact key _ 0 (fun j hj => by have := hp j hj; omega)
      | succ k =>
        have := h3 k o (by simpa using ho) (fun j hj => by have := hp j hj; simp; omega)
        rw [show acc.length + (k + 1) = (acc ++ [maskOf x acc]).length + k by simp; omega]
        exact this

/-- What stands ahead stands within whatever is closed. -/
theorem anc_in {all : List Oper} (hlt : ∀ (i : Nat) o, all[i]? = some o → ∀ j ∈ preds o, j < i) {S : Nat → Prop} (hS : ∀ i, S i → ∃ o, all[i]? = some o ∧ ∀ j ∈ preds o, S j) :
    ∀ (i : Nat) o, all[i]? = some o → (∀ j ∈ preds o, S j) → ∀ b, ((masks all []).getD i 0).testBit b = true → S b := by
  intro i
  induction i using Nat.strongRecOn with
  | _ i ih =>
    intro o ho hp b hb
    have e := (masks_spec all []).2 i o ho (fun j hj => by simpa using hlt i o ho j hj)
    simp only [List.length_nil, Nat.zero_add] at e
    rw [e] at hb
    unfold maskOf at hb
    rcases testBit_fold _ _ _ _ hb with h | ⟨j, hj, h⟩
    · simp at h
    · rcases h with rfl | h
      · exact hp _ hj
      · obtain ⟨oj, hoj, hpj⟩ := hS j (hp j hj)
        exact ih j (hlt i o ho j hj) oj hoj hpj b h

end
end Go.Am
