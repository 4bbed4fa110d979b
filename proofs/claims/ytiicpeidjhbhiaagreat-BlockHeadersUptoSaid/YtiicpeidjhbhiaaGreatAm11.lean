/-
  THE ABSTRACT MACHINE, PART 11: conversions, parts of lists.
-/
import Derived.Test.YtiicpeidjhbhiaaGreatAm10
import Derived.Laws.BytesString
namespace Go.Am
open Go

section ops
variable {P : Program} {κ : Kap} {st st' : St} {w : World} {v : V} {rd rd' : List Nat}

theorem u8s_ints {H : Array Obj} : ∀ {cs : List V} {l : List UInt8} {xs : List Value}, u8s cs = some l → PW κ H cs xs → ∃ ns : List Int, xs = ns.map (Value.int .u8) ∧ l = ns.map fun n => UInt8.ofNat n.toNat := by
  intro cs
  induction cs with
  | nil =>
    intro l xs h hp
    simp only [u8s] at h; cases h
    cases xs with
    | nil => exact ⟨[], rfl, rfl⟩
    | cons x xs => have := hp.1; simp at this
  | cons c cs ih =>
    intro l xs h hp
    cases xs with
    | nil => have := hp.1; simp at this
    | cons x xs =>
      cases c with
      | int k n =>
        cases k with
        | u8 =>
          simp only [u8s] at h
          cases hr : u8s cs with
          | none => rw [hr] at h; cases h
          | some l' =>
            rw [hr] at h; cases h
            obtain ⟨ns, rfl, rfl⟩ := ih hr hp.tail
            obtain rfl := hp.head.inv_int
            exact ⟨n :: ns, rfl, rfl⟩
        | _ => simp [u8s] at h
      | _ => simp [u8s] at h

theorem foldl_push (ns : List Int) : ∀ s : ByteArray, (ns.foldl (fun (r : ByteArray) (n : Int) => r.push (UInt8.ofNat n.toNat)) s).data.toList = s.data.toList ++ ns.map fun n => UInt8.ofNat n.toNat := by
  induction ns with
  | nil => intro s; simp
  | cons n ns ih =>
    intro s
    rw [List.foldl_cons, ih]
    have : (s.push (UInt8.ofNat n.toNat)).data.toList = s.data.toList ++ [UInt8.ofNat n.toNat] := by
      show (s.data.push _).toList = _
      simp
    rw [this]; simp

theorem run_bytesStr {x' : Value} {sz len : Nat} {cs : List V} {xs : List Value} {l : List UInt8} (hsz : sz = 1) (hl : (Builtin.lenOf x').run P w = .ok len w) (hf : (Builtin.firstCells sz len x').run P w = .ok xs.toArray w)
    (hs : ∃ a n c, x' = .slice a n c) (hu : u8s cs = some l) {H : Array Obj} (hp : PW κ H cs xs) : ∃ s : ByteArray, (Conv.bytesToString x').run P w = .ok (.string s) w ∧ s.data.toList = l := by
  obtain ⟨ns, rfl, rfl⟩ := u8s_ints hu hp
  obtain ⟨a, n, c, rfl⟩ := hs
  subst hsz
  cases a with
  | none =>
    have : (ns.map (Value.int .u8)).toArray = #[] := by
      simp only [Builtin.firstCells, Sem.run_pure, Result.ok.injEq] at hf
      exact hf.1.symm
    have : ns = [] := by simpa using this
    subst this
    exact ⟨ByteArray.empty, rfl, rfl⟩
  | some a =>
    simp only [Builtin.lenOf, Sem.run_pure, Result.ok.injEq] at hl
    obtain ⟨rfl, _⟩ := hl
    simp only [Builtin.firstCells, Nat.mul_one] at hf
    exact ⟨_, run_bytesToString w a n c ns hf, by rw [foldl_push]; rfl⟩

theorem push_modify (H : Array Obj) (x : Obj) (f : Obj → Obj) : (H.push x).modify H.size f = H.push (f x) := by
  apply Array.ext_getElem?
  intro i
  rw [Array.getElem?_modify, Array.getElem?_push, Array.getElem?_push]
  by_cases h : H.size = i
  · subst h; simp
  · rw [if_neg h, if_neg (Ne.symm h), if_neg (Ne.symm h)]

theorem run_strBytes (e : TypeId) (str : ByteArray) (w : World) : ∃ (cap : Nat) (arr : Array Value) (w' : World), (Conv.stringToBytes e str).run P w = .ok (.slice (some ⟨w.heap.size, 0, none⟩) str.size cap) w' ∧
    w'.heap = w.heap.push (.cells arr e (arr.size, arr.size + 1)) ∧ str.size ≤ cap ∧ arr = str.data.map (fun b => Value.int .u8 b.toNat) ++ Array.replicate (cap - str.size) (.int .u8 0) ∧ Kp w w' := by
  have hle : str.size ≤ (Question.appendCap str.size 0 e).cut (w.tape w.drawn (Question.appendCap str.size 0 e)) := by simp [Question.cut]
  generalize hcap : (Question.appendCap str.size 0 e).cut (w.tape w.drawn (Question.appendCap str.size 0 e)) = cap at hle
  generalize harr : str.data.map (fun b => Value.int .u8 b.toNat) ++ Array.replicate (cap - str.size) (.int .u8 0) = arr
  refine ⟨cap, arr, { w with drawn := w.drawn + 1, heap := w.heap.push (.cells arr e (arr.size, arr.size + 1)) }, ?_, rfl, hle, harr.symm, rfl, rfl⟩
  unfold Conv.stringToBytes
  simp only [Sem.run_bind, run_choose, Question.forced, Bool.false_eq_true, if_false, Result.andThen_ok, newRow, run_newObj, Sem.run_pure, markStringish, run_shape, hcap, harr]
  have hshape : ({ w with drawn := w.drawn + 1, heap := w.heap.push (.cells arr e) } : World).shape? w.heap.size = some (e, arr.size) := by
    simp [World.shape?]
  have hfz : (({ w with drawn := w.drawn + 1, heap := w.heap.push (.cells arr e) } : World).freeze { block := w.heap.size, off := arr.size } 1) = { w with drawn := w.drawn + 1, heap := w.heap.push (.cells arr e (arr.size, arr.size + 1)) } := by
    simp only [World.freeze]
    rw [if_neg (by omega), push_modify]
    simp
  simp only [hshape, run_freeze, hfz, Result.andThen_ok]

theorem op_conv {src dst : TypeId} {x : V} {x' : Value} (h : runA (convA P src dst x) st rd = .val v st' rd') (i : Inv P κ st.h.get w.heap) (hx : RV κ w.heap x x') :
    OpR P κ st w ((do let r ← convert src dst x'; pure (Next.value r) : Sem Next).run P w) v st' := by
  unfold convA at h
  split at h
  · rename_i k0 k hs hd
    split at h
    · rename_i k1 n
      obtain ⟨rfl, rfl⟩ := runA_ret h
      obtain rfl := hx.inv_int
      have := OpR.pure (w := w) i (RV.int (κ := κ) (H := w.heap) k (k.wrap n))
      simpa [convert, run_underlying hs, run_underlying hd, Conv.intToInt] using this
    · exact (runA_fail h).elim
  · rename_i hs hd
    split at h
    · obtain ⟨rfl, rfl⟩ := runA_ret h
      obtain ⟨s, rfl, rfl⟩ := hx.inv_str
      have := OpR.pure (w := w) i hx
      simpa [convert, run_underlying hs, run_underlying hd] using this
    · exact (runA_fail h).elim
  · rename_i e hs hd
    split at h
    · rename_i s he
      obtain ⟨rfl, rfl⟩ := runA_ret h
      obtain ⟨str, rfl, rfl⟩ := hx.inv_str
      have pc : PW κ w.heap ((str.data.toList.map fun b => V.int .u8 b.toNat)) (str.data.toList.map fun b => Value.int .u8 b.toNat) := PW.map (fun c _ => .int _ _)
      obtain ⟨cap, arr, w', run0, hw', hcap, harr, hkp⟩ := run_strBytes (P := P) e str w
      have hlen : str.data.toList.length = str.size := rfl
      have hsz : arr.size = cap := by
        have : str.data.size = str.size := rfl
        rw [harr]; simp [this]; omega
      have hp : PW κ w.heap ((str.data.toList.map fun b => V.int .u8 b.toNat) ++ List.replicate (cap - str.size) .und) arr.toList := by
        have e1 : arr.toList = (str.data.toList.map fun b => Value.int .u8 b.toNat) ++ List.replicate (cap - str.size) (.int .u8 0) := by rw [harr]; simp
        rw [e1]
        refine pc.append ⟨by simp, fun j c u h1 h2 => ?_⟩
        have : c = .und := by
          have := List.mem_of_getElem? h1
          simpa using (List.eq_of_mem_replicate this)
        subst this; exact .und _
      have run : (convert src dst (.string str)).run P w = .ok (.slice (some ⟨w.heap.size, 0, none⟩) str.size cap) w' := by
        simp only [convert, Sem.run_bind, run_underlying hs, run_underlying hd, run_underlying he, Result.andThen_ok]
        exact run0
      have := new_sl (P := P) (e := e) i (arr.size, arr.size + 1) hp str.size 1 cap str.size .unk (by omega) (by omega) (fun _ _ => hcap) w' hw' hkp
      rw [List.take_append_of_le_length (by simp [hlen]), List.take_of_length_le (by simp [hlen])] at this
      simpa [run, hlen] using this
    · exact (runA_fail h).elim
  · rename_i e hs hd
    split at h
    · rename_i he
      split at h
      · exact (runA_fail h).elim
      rename_i y hns
      obtain ⟨cs, len, rd2, xs, h1, hp, hl, r1, r2⟩ := rdMs_sound h i hx
      split at h1
      · rename_i l hu
        obtain ⟨rfl, rfl⟩ := runA_ret h1
        have hsl : ∃ a n c, x' = .slice a n c := by
          have no : ∀ z, x = z → (∀ k, rdMs 1 z k = .fail) → False := fun z hy hf => by
            subst hy; rw [hf] at h; exact runA_fail h
          cases hx with
          | snil => exact ⟨_, _, _, rfl⟩
          | sl => exact ⟨_, _, _, rfl⟩
          | ms => exact ⟨_, _, _, rfl⟩
          | str s l _ => exact (hns _ rfl).elim
          | _ => exact (no _ rfl (fun _ => rfl)).elim
        obtain ⟨s, q1, q2⟩ := run_bytesStr (P := P) rfl (r1 w) (r2 w rfl) hsl hu hp
        have := OpR.pure (w := w) i (RV.str (κ := κ) (H := w.heap) s l q2)
        obtain ⟨a, n, c, rfl⟩ := hsl
        simpa [run_convert_bytes_string w src dst e a n c hs he hd, q1] using this
      · exact (runA_fail h1).elim
    · exact (runA_fail h).elim
  · exact (runA_fail h).elim
end ops
end Go.Am
