/-
  THE ABSTRACT MACHINE, PART 1: its values, its heap, its evaluator: a deterministic function over the loaded code. No tape, slices as values.
-/
import Derived.Calls
import Derived.Orders
import Derived.KernelRfl
namespace Go.Am
open Go

/-- What is known of a slice's capacity. -/
inductive Cp where
  | ex
  | unk
  | tok (n : Nat) (sz : Nat)

/-- An abstract value. -/
inductive V where
  | bool (b : Bool)
  | int (k : IntKind) (n : Int)
  | str (s : List UInt8)
  | nilp
  | ptr (n off : Nat)
  | iptr (cs : List V) (off : Nat)
  | snil
  | sl (cs : List V) (len sz : Nat) (cp : Cp)
  | ms (n off len sz : Nat) (cap : Option Nat)
  | nilm
  | map (n : Nat)
  | fn (f : Nat) (first cap : List V)
  | yld (l : Nat)
  | nilf
  | agg (cs : List V)
  | tup (vs : List V)
  | it (n : Nat)
  | opq
  | und

instance : Inhabited V := ⟨.und⟩

/-- An entry of a map. -/
structure En where
  k : V
  v : V
  born : Nat

abbrev Env := List (Nat × V)

/-- How code is left. -/
inductive Ex where
  | nrm
  | ext (id : Nat)
  | ret

/-- An abstract object: cells, a map, a list's tail, iterators, a loop over a function (its function, its temporaries, its state: 0 ready, 1 busy, 2 done), its deferred calls. -/
inductive O where
  | blk (cs : List V)
  | mp (es : List En) (clk : Nat)
  | buf
  | sit (s : List UInt8) (pos : Nat)
  | mit (m : Option Nat) (since : Nat) (seen : List Nat) (last : Nat)
  | lop (f : Nat) (env : Env) (ps : List Nat) (asg body : Code) (state : Nat) (pend : Ex)
  | dfr

/-- A trie of numbers. -/
inductive Tr (α : Type) where
  | lf
  | nd (l : Tr α) (v : Option α) (r : Tr α)

def Tr.get {α : Type} : Tr α → Nat → Option α
  | .lf, _ => none
  | .nd l v r, n => bif Nat.beq n 0 then v else bif Nat.beq (n % 2) 1 then l.get (n / 2) else r.get (n / 2 - 1)

def Tr.left {α : Type} : Tr α → Tr α | .lf => .lf | .nd l _ _ => l
def Tr.right {α : Type} : Tr α → Tr α | .lf => .lf | .nd _ _ r => r
def Tr.top {α : Type} : Tr α → Option α | .lf => none | .nd _ v _ => v

def Tr.setF {α : Type} (o : Option α) : Nat → Tr α → Nat → Tr α
  | 0, t, _ => t
  | d + 1, t, n => bif Nat.beq n 0 then .nd t.left o t.right
      else bif Nat.beq (n % 2) 1 then .nd (setF o d t.left (n / 2)) t.top t.right
      else .nd t.left t.top (setF o d t.right (n / 2 - 1))

def Tr.set {α : Type} (t : Tr α) (n : Nat) (o : Option α) : Tr α := t.setF o (n + 1) n

/-- The state: heap, next name, names written, the frame's blocks of deferred calls. -/
structure St where
  h : Tr O
  nx : Nat
  lg : List Nat
  df : List Nat

def St.putO (s : St) (n : Nat) (o : O) : St := ⟨s.h.set n (some o), s.nx, n :: s.lg, s.df⟩
def St.delO (s : St) (n : Nat) : St := ⟨s.h.set n none, s.nx, n :: s.lg, s.df⟩
def St.newO (s : St) (o : O) : St := ⟨s.h.set s.nx (some o), s.nx + 1, s.lg, s.df⟩

def eget : Env → Nat → V
  | [], _ => .und
  | (k, v) :: e, n => bif Nat.beq k n then v else eget e n

/-- A constant's value. -/
def ofSc : Value → V
  | .bool b => .bool b
  | .int k n => .int k n
  | .string s => .str s.data.toList
  | .pointer none => .nilp
  | .slice none 0 0 => .snil
  | .map none => .nilm
  | .nilFunc => .nilf
  | _ => .und

def ofVal : Value → V
  | .agg cs => .agg (cs.toList.map ofSc)
  | v => ofSc v

def opv (e : Env) : Operand → V
  | .tmp t => eget e t
  | .const v => ofVal v
  | .func f => .fn f [] []
  | .global _ => .und

def V.cells : V → List V
  | .agg cs => cs
  | v => [v]

/-- May it stand in one cell? -/
def V.one : V → Bool
  | .agg _ | .tup _ | .und => false
  | _ => true

/-- May it be laid into new memory, or be a part of something? -/
def V.flat : V → Bool
  | .tup _ | .und => false
  | _ => true

/-- What an operation asks of the heap. -/
inductive Ac where
  | fail
  | ret (v : V)
  | get (n : Nat) (k : O → Ac)
  | put (n : Nat) (o : O) (k : Ac)
  | del (n : Nat) (k : Ac)
  | new (o : O) (k : Nat → Ac)
  | call (f : Nat) (args : List V)
  | yld (l : Nat) (args : List V)

section types
variable (P : Program)

def szT (t : TypeId) : Option Nat := match P.info? t with | some i => some i.size | none => none
def byT (t : TypeId) : Nat := match P.info? t with | some i => i.bytes | none => 0
def isAggD : TypeDesc → Bool
  | .struct _ | .array _ _ => true
  | _ => false
def zrT (t : TypeId) : Option V := match P.info? t with | some i => (match i.zero with | some z => some (ofVal z) | none => none) | none => none

/-- A part of an aggregate. -/
def partV (t : TypeId) (cs : List V) (off : Nat) : Option V :=
  match P.underlying t with
  | none => none
  | some d => bif isAggD d then (match szT P t with
      | none => none
      | some sz => let xs := (cs.drop off).take sz; bif Nat.beq xs.length sz then some (.agg xs) else none)
    else cs[off]?

/-- Equality by a type. -/
def eqV : Nat → TypeId → V → V → Option Bool
  | 0, _, _, _ => none
  | d + 1, t, x, y =>
    match P.underlying t with
    | some .bool => (match x, y with | .bool a, .bool b => some (a == b) | _, _ => none)
    | some (.int _) => (match x, y with | .int k a, .int k' b => if k = k' then some (a == b) else none | _, _ => none)
    | some .string => (match x, y with | .str a, .str b => some (a == b) | _, _ => none)
    | some (.pointer _) => (match x, y with | .nilp, .nilp => some true | .nilp, .ptr _ _ => some false | .ptr _ _, .nilp => some false | .nilp, .iptr _ _ => some false | .iptr _ _, .nilp => some false | _, _ => none)
    | some (.slice _) => (match x, y with | .snil, .snil => some true | .snil, .sl _ _ _ _ => some false | .sl _ _ _ _, .snil => some false | .snil, .ms _ _ _ _ _ => some false | .ms _ _ _ _ _, .snil => some false | _, _ => none)
    | some (.map _ _) => (match x, y with | .nilm, .nilm => some true | .nilm, .map _ => some false | .map _, .nilm => some false | _, _ => none)
    | some (.func _ _ _) => (match x, y with | .nilf, .nilf => some true | .nilf, .fn _ _ _ => some false | .fn _ _ _, .nilf => some false | _, _ => none)
    | some (.struct fields) => (match x, y with
      | .agg xs, .agg ys => bif P.stoodInHeld t then none else
          fields.toList.foldr (fun f r => if f.name = "_" then r else
            match partV P f.type xs f.offset, partV P f.type ys f.offset with
            | some a, some b => (match eqV d f.type a b with | some true => r | some false => some false | none => none)
            | _, _ => none) (some true)
      | _, _ => none)
    | some (.array len elem) => (match x, y with
      | .agg xs, .agg ys => (match szT P elem with
          | none => none
          | some sz => (List.range len).foldr (fun i r =>
            match partV P elem xs (i * sz), partV P elem ys (i * sz) with
            | some a, some b => (match eqV d elem a b with | some true => r | some false => some false | none => none)
            | _, _ => none) (some true))
      | _, _ => none)
    | _ => none

def eqTop : Nat := 10000

def eqGuardOk (t : TypeId) (x : V) : Bool := match x with
  | .agg _ => !P.eqGuardType P.depth t
  | _ => true

def binInt (op : BinOp) (k : IntKind) (a b : Int) : Option V :=
  match op with
  | .add => some (.int k (k.wrap (a + b)))
  | .sub => some (.int k (k.wrap (a - b)))
  | .mul => some (.int k (k.wrap (a * b)))
  | .quo => bif b == 0 then none else some (.int k (k.wrap (a.tdiv b)))
  | .rem => bif b == 0 then none else some (.int k (a.tmod b))
  | .and => some (.int k (k.wrap (BitVec.ofInt k.bits a &&& BitVec.ofInt k.bits b).toNat))
  | .or => some (.int k (k.wrap (BitVec.ofInt k.bits a ||| BitVec.ofInt k.bits b).toNat))
  | .xor => some (.int k (k.wrap (BitVec.ofInt k.bits a ^^^ BitVec.ofInt k.bits b).toNat))
  | .eql => some (.bool (a == b))
  | .neq => some (.bool (a != b))
  | .lss => some (.bool (decide (a < b)))
  | .leq => some (.bool (decide (a ≤ b)))
  | .gtr => some (.bool (decide (a > b)))
  | .geq => some (.bool (decide (a ≥ b)))
  | _ => none

def shInt (op : BinOp) (k : IntKind) (a b : Int) : Option V :=
  bif decide (b < 0) then none else
  match op with
  | .shl => some (.int k (k.wrap (a * 2 ^ (min b.toNat k.bits))))
  | .shr => some (.int k (a.fdiv (2 ^ (min b.toNat k.bits))))
  | _ => none

def binStr (op : BinOp) (a b : List UInt8) : Option V :=
  match op with
  | .add => bif Nat.ble (a.length + b.length) 9223372036854775807 then some (.str (a ++ b)) else none
  | .eql => some (.bool (a == b))
  | .neq => some (.bool (!(a == b)))
  | .lss => some (.bool (Op.bytesLess a b))
  | .leq => some (.bool (Op.bytesLess a b || a == b))
  | .gtr => some (.bool (!(Op.bytesLess a b || a == b)))
  | .geq => some (.bool (!Op.bytesLess a b))
  | _ => none

def isSh : BinOp → Bool | .shl | .shr => true | _ => false

def binV (op : BinOp) (t : TypeId) (x y : V) : Option V :=
  match x, y with
  | .int k a, .int k' b => bif isSh op then shInt op k a b else if k = k' then binInt op k a b else none
  | .str a, .str b => binStr op a b
  | x, y => match op with
    | .eql => bif eqGuardOk P t x then (match eqV P eqTop t x y with | some b => some (.bool b) | none => none) else none
    | .neq => bif eqGuardOk P t x then (match eqV P eqTop t x y with | some b => some (.bool (!b)) | none => none) else none
    | _ => none

def unV (op : UnOp) (x : V) : Option V :=
  match op, x with
  | .not, .bool b => some (.bool (!b))
  | .neg, .int k n => some (.int k (k.wrap (0 - n)))
  | _, _ => none

/-- Cells of a zero value, again and again. -/
def zeros (z : List V) (n : Nat) : List V := (List.range n).map fun i => z.getD (i % z.length) .und

def splice (cs : List V) (off : Nat) (xs : List V) : List V := cs.take off ++ xs ++ cs.drop (off + xs.length)

def fillV (place : Nat → Option (Nat × Nat)) : List V → List (Nat × V) → Option (List V)
  | cells, [] => some cells
  | cells, (i, v) :: rest =>
    match place i with
    | none => none
    | some (off, size) =>
      bif v.flat && Nat.beq v.cells.length size && Nat.ble (off + size) cells.length then fillV place (splice cells off v.cells) rest else none

def buildV (t : TypeId) (parts : List (Nat × V)) : Option V :=
  match zrT P t with
  | none => none
  | some z =>
    match P.underlying t with
    | some (.struct fields) =>
      (match fillV (fun i => match fields[i]? with | some f => (match szT P f.type with | some s => some (f.offset, s) | none => none) | none => none) z.cells parts with
      | some cs => bif fields.all (fun f => (szT P f.type).isSome) then some (.agg cs) else none
      | none => none)
    | some (.array _ elem) =>
      (match szT P elem with
      | some size => (match fillV (fun i => some (i * size, size)) z.cells parts with | some cs => some (.agg cs) | none => none)
      | none => none)
    | _ => none

def asI : V → Option Int
  | .int _ n => some n
  | _ => none

/-- A slice's bounds. -/
def bnd (x : Option V) (dflt most : Nat) : Option Nat :=
  match x with
  | none => some dflt
  | some (.int _ i) => bif decide (0 ≤ i) && decide (i ≤ most) then some i.toNat else none
  | some _ => none

def u8s : List V → Option (List UInt8)
  | [] => some []
  | .int .u8 n :: r => (match u8s r with | some l => some (UInt8.ofNat n.toNat :: l) | none => none)
  | _ :: _ => none

/-- A key that holds plain things alone. -/
def V.key1 : V → Bool
  | .int _ _ | .str _ | .bool _ => true
  | _ => false
def V.key : V → Bool
  | .agg cs => cs.all V.key1
  | v => v.key1

def V.keyB1 : V → V → Bool
  | .int k a, .int k' b => decide (k = k') && (a == b)
  | .str a, .str b => a == b
  | .bool a, .bool b => a == b
  | _, _ => false
def keysB : List V → List V → Bool
  | [], [] => true
  | a :: x, b :: y => a.keyB1 b && keysB x y
  | _, _ => false
def V.keyB : V → V → Bool
  | .agg x, .agg y => keysB x y
  | a, b => a.keyB1 b

def ckKey : Nat → TypeId → V → Bool
  | 0, _, _ => false
  | d + 1, t, v =>
    match P.underlying t with
    | some (.int _) | some .string | some .bool => true
    | some (.struct fields) => (match v with
      | .agg cs => fields.toList.all fun f => if f.name = "_" then true else (match partV P f.type cs f.offset with | some x => ckKey d f.type x | none => false)
      | _ => false)
    | some (.array len elem) => (match v, szT P elem with
      | .agg cs, some sz => (List.range len).all fun i => (match partV P elem cs (i * sz) with | some x => ckKey d elem x | none => false)
      | _, _ => false)
    | _ => false

/-- The place of a key. -/
def findV (t : TypeId) (k : V) : List En → Option (Option (Nat × V))
  | [] => some none
  | e :: es =>
    match eqV P eqTop t k e.k with
    | some true => some (some (0, e.v))
    | some false => (match findV t k es with | some (some (i, u)) => some (some (i + 1, u)) | some none => some none | none => none)
    | none => none

def setNth : List En → Nat → V → V → List En
  | [], _, _, _ => []
  | e :: es, 0, k, v => ⟨k, v, e.born⟩ :: es
  | x :: es, i + 1, k, v => x :: setNth es i k v

end types

/-- The bound on what grows. -/
def roomOk (n by_ : Nat) : Bool := Nat.blt 0 by_ && Nat.ble ((2 * n + 1024) * by_) 281474976710656

def exOk (n len by_ : Nat) : Bool := Nat.blt 0 by_ && Nat.ble (Builtin.nextslicecap n len * by_) 281474976710656

/-- The cells of a list that is read. -/
def rdCells (sz : Nat) (x : V) (k : List V → Nat → Ac) : Ac :=
  match x with
  | .snil => k [] 0
  | .sl cs len sz' _ => bif Nat.beq sz sz' then k cs len else .fail
  | .str s => bif Nat.beq sz 1 then k (s.map fun b => .int .u8 b.toNat) s.length else .fail
  | _ => .fail

def rdMs (sz : Nat) (x : V) (k : List V → Nat → Ac) : Ac :=
  match x with
  | .ms n off len sz' _ => bif !Nat.beq sz sz' then .fail else .get n fun
    | .blk cs => let xs := (cs.drop off).take (len * sz); bif Nat.beq xs.length (len * sz) then k xs len else .fail
    | _ => .fail
  | x => rdCells sz x k

/-- A new list: as a value, or as memory of its own. -/
def newSl (mu : Bool) (sz : Nat) (cs : List V) (len : Nat) : Ac :=
  bif mu then .new (.blk cs) fun n => .ret (.ms n 0 len sz none)
  else .new .buf fun n => .ret (.sl cs len sz (.tok n sz))

def appendA (P : Program) (mu : Bool) (elem : TypeId) (s x : V) : Ac :=
  match szT P elem, zrT P elem with
  | some sz, some z =>
    bif !Nat.beq z.cells.length sz then .fail else
    rdMs sz x fun xc m =>
      bif Nat.beq m 0 then (match s with
        | .snil | .sl _ _ _ _ | .ms _ _ _ _ _ => .ret s
        | _ => .fail)
      else match s with
        | .snil => bif exOk m 0 (byT P elem) then newSl mu sz xc m else .fail
        | .sl cs len sz' .ex => bif Nat.beq sz sz' && exOk (len + m) len (byT P elem) then newSl mu sz (cs ++ xc) (len + m) else .fail
        | .sl cs len sz' (.tok n _) => bif Nat.beq sz sz' && roomOk (len + m) (byT P elem) && xc.all V.one then .get n fun
            | .buf => bif mu then .fail else .del n (newSl false sz (cs ++ xc) (len + m))
            | _ => .fail
          else .fail
        | .ms n off len sz' (some cap) => bif !Nat.beq sz sz' then .fail else .get n fun
            | .blk cs =>
              bif Nat.ble (len + m) cap then
                (bif Nat.ble ((off + (len + m) * sz)) cs.length && xc.all V.one then .put n (.blk (splice cs (off + len * sz) xc)) (.ret (.ms n off (len + m) sz (some cap))) else .fail)
              else bif exOk (len + m) cap (byT P elem) then
                (let old := (cs.drop off).take (len * sz); bif Nat.beq old.length (len * sz) then newSl mu sz (old ++ xc) (len + m) else .fail)
              else .fail
            | _ => .fail
        | .ms n off len sz' none => bif Nat.beq sz sz' && Nat.beq off 0 && roomOk (len + m) (byT P elem) && xc.all V.one then .get n fun
            | .blk cs => let old := cs.take (len * sz); bif Nat.beq old.length (len * sz) then .del n (newSl mu sz (old ++ xc) (len + m)) else .fail
            | _ => .fail
          else .fail
        | _ => .fail
  | _, _ => .fail

/-- append(s, make([]T, n)...) at a nil list. -/
def appendZ (P : Program) (elem : TypeId) (s : V) (n : Int) : Ac :=
  match szT P elem, zrT P elem, s with
  | some sz, some z, .snil =>
    bif decide (n < 0) then .fail else bif decide (n = 0) then .ret .snil else
    bif exOk n.toNat 0 (byT P elem) && Nat.ble (n.toNat * byT P elem) 281474976710656 && Nat.beq z.cells.length sz then
      .new (.blk (zeros z.cells (n.toNat * sz))) fun b => .ret (.ms b 0 n.toNat sz none)
    else .fail
  | _, _, _ => .fail

def mxInt (a b : V) : Option V := match a, b with
  | .int k x, .int k' y => if k = k' then some (.int k (if y > x then y else x)) else none
  | _, _ => none
def mnInt (a b : V) : Option V := match a, b with
  | .int k x, .int k' y => if k = k' then some (.int k (if y < x then y else x)) else none
  | _, _ => none

def foldV (g : V → V → Option V) : V → List V → Option V
  | a, [] => some a
  | a, b :: r => match g a b with | some c => foldV g c r | none => none

def rt : Option V → Ac
  | some v => .ret v
  | none => .fail

def builtinA (P : Program) (mu : Bool) (b : Builtin) (argTypes : List TypeId) (args : List V) : Ac :=
  match b, argTypes, args with
  | .len, t :: _, [x] =>
    (match P.underlying t, x with
    | some .string, .str s => .ret (.int .i64 s.length)
    | some (.slice _), .snil => .ret (.int .i64 0)
    | some (.slice _), .sl _ n _ _ => .ret (.int .i64 n)
    | some (.slice _), .ms _ _ n _ _ => .ret (.int .i64 n)
    | some (.map _ _), .nilm => .ret (.int .i64 0)
    | some (.map _ _), .map n => .get n fun | .mp es _ => .ret (.int .i64 es.length) | _ => .fail
    | some (.array n _), _ => .ret (.int .i64 n)
    | some (.pointer a), _ => (match P.underlying a with | some (.array n _) => .ret (.int .i64 n) | _ => .fail)
    | _, _ => .fail)
  | .append, t :: t2 :: _, [s, x] =>
    (match P.underlying t, P.underlying t2 with
    | some (.slice elem), some (.slice _) => appendA P mu elem s x
    | some (.slice elem), some .string => appendA P mu elem s x
    | some (.slice elem), some (.int _) => (match x with | .int _ n => appendZ P elem s (IntKind.i64.wrap n) | _ => .fail)
    | _, _ => .fail)
  | .cap, t :: _, [x] =>
    (match P.underlying t, x with
    | some (.slice _), .snil => .ret (.int .i64 0)
    | some (.slice _), .sl _ n _ .ex => .ret (.int .i64 n)
    | some (.slice _), .ms _ _ _ _ (some c) => .ret (.int .i64 c)
    | _, _ => .fail)
  | .max, _, a :: r => rt (foldV mxInt a r)
  | .min, _, a :: r => rt (foldV mnInt a r)
  | .delete, t :: _, [.map n, k] =>
    (match P.underlying t with
    | some (.map kt _) => bif ckKey P 10000 kt k && k.key then .get n fun
        | .mp es clk => (match findV P kt k es with
          | some (some (i, _)) => .put n (.mp (es.eraseIdx i) clk) (.ret (.tup []))
          | some none => .put n (.mp es clk) (.ret (.tup []))
          | none => .fail)
        | _ => .fail
      else .fail
    | _ => .fail)
  | _, _, _ => .fail

def sliceA (P : Program) (t : TypeId) (x : V) (lo hi mx : Option V) : Ac :=
  match P.underlying t with
  | some .string => (match x, mx with
    | .str s, none => (match bnd hi s.length s.length with
      | some h => (match bnd lo 0 h with | some l => .ret (.str ((s.drop l).take (h - l))) | none => .fail)
      | none => .fail)
    | _, _ => .fail)
  | some (.slice elem) => (match szT P elem with
    | none => .fail
    | some sz => (match x with
      | .snil => (match bnd mx 0 0 with
        | some m => (match bnd hi 0 m with | some h => (match bnd lo 0 h with | some _ => bif hi.isSome || !mx.isSome then .ret .snil else .fail | none => .fail) | none => .fail)
        | none => .fail)
      | .sl cs len sz' cp => bif !Nat.beq sz sz' then .fail else (match bnd mx len len with
        | none => .fail
        | some m => (match bnd hi len m with
          | none => .fail
          | some h => (match bnd lo 0 h with
            | none => .fail
            | some l => bif hi.isSome || !mx.isSome then .ret (.sl ((cs.drop (l * sz)).take ((h - l) * sz)) (h - l) sz
                (match mx with
                | some _ => bif Nat.beq m h then .ex else .unk
                | none => bif Nat.beq h len && Nat.blt l len then cp else .unk)) else .fail)))
      | .ms n off len sz' cap => bif !Nat.beq sz sz' then .fail else (match bnd mx (cap.getD len) (cap.getD len) with
        | none => .fail
        | some m => (match bnd hi len m with
          | none => .fail
          | some h => (match bnd lo 0 h with
            | none => .fail
            | some l => bif (hi.isSome || !mx.isSome) && (Nat.beq l 0 || Nat.blt l m) then .ret (.ms n (off + l * sz) (h - l) sz (bif mx.isSome || cap.isSome then some (m - l) else none)) else .fail)))
      | _ => .fail))
  | some (.array n elem) => (match szT P elem, x with
    | some sz, .ptr b off => .get b (fun
      | .blk cs => bif !Nat.ble (off + n * sz) cs.length then .fail else (match bnd mx n n with
        | none => .fail
        | some m => (match bnd hi n m with
          | none => .fail
          | some h => (match bnd lo 0 h with
            | none => .fail
            | some l => bif (hi.isSome || !mx.isSome) && (Nat.beq l 0 || Nat.blt l m) then .ret (.ms b (off + l * sz) (h - l) sz (some (m - l))) else .fail)))
      | _ => .fail)
    | _, _ => .fail)
  | _ => .fail

def convA (P : Program) (src dst : TypeId) (x : V) : Ac :=
  match P.underlying src, P.underlying dst with
  | some (.int _), some (.int k) => (match x with | .int _ n => .ret (.int k (k.wrap n)) | _ => .fail)
  | some .string, some .string => (match x with | .str s => .ret (.str s) | _ => .fail)
  | some .string, some (.slice e) => (match P.underlying e, x with
    | some (.int .u8), .str s => .ret (.sl (s.map fun b => .int .u8 b.toNat) s.length 1 .unk)
    | _, _ => .fail)
  | some (.slice e), some .string => (match P.underlying e with
    | some (.int .u8) => (match x with
      | .str _ => .fail
      | x => rdMs 1 x fun cs _ => (match u8s cs with | some l => .ret (.str l) | none => .fail))
    | _ => .fail)
  | _, _ => .fail

def addrA (x : V) (d : Nat) : Option V := match x with
  | .ptr n off => some (.ptr n (off + d))
  | .iptr cs off => some (.iptr cs (off + d))
  | _ => none

def takeCells (cs : List V) (off : Nat) (agg : Bool) (sz : Nat) : Option V :=
  bif agg then (let xs := (cs.drop off).take sz; bif Nat.beq xs.length sz then some (.agg xs) else none) else cs[off]?

def loadA (P : Program) (t : TypeId) (a : V) : Ac :=
  match P.underlying t, szT P t with
  | some d, some sz => (match a with
    | .ptr n off => .get n fun | .blk cs => rt (takeCells cs off (isAggD d) sz) | _ => .fail
    | .iptr cs off => rt (takeCells cs off (isAggD d) sz)
    | _ => .fail)
  | _, _ => .fail

def storeA (P : Program) (t : TypeId) (a v : V) : Ac :=
  match szT P t, a with
  | some sz, .ptr n off => .get n fun
    | .blk cs => bif Nat.beq v.cells.length sz && Nat.ble (off + sz) cs.length && v.cells.all V.one then .put n (.blk (splice cs off v.cells)) (.ret .und) else .fail
    | _ => .fail
  | _, _ => .fail

/-- Which entries may come next. -/
def cands (es : List En) (since : Nat) (seen : List Nat) : List (Option En) :=
  let left := es.filter fun e => !seen.contains e.born
  let old := left.filter fun e => decide (e.born < since)
  let new := left.filter fun e => decide (e.born ≥ since)
  (if old.isEmpty then [none] else []) ++ (old ++ new).map some

/-- One operation. -/
def opA (P : Program) (mu : Bool) (ρ : Operand → V) (o : Op) : Ac :=
  match o with
  | .move x | .assign x => .ret (ρ x)
  | .pick c a b => (match ρ c with | .bool t => .ret (bif t then ρ a else ρ b) | _ => .fail)
  | .alloc t => (match zrT P t with | some z => .new (.blk z.cells) fun n => .ret (.ptr n 0) | none => .fail)
  | .box _ x => bif (ρ x).flat then .new (.blk (ρ x).cells) fun n => .ret (.ptr n 0) else .fail
  | .build t parts => rt (buildV P t (parts.toList.map fun p => (p.1, ρ p.2)))
  | .buildSlice t len parts => (match P.underlying t with
    | some (.slice elem) => (match szT P elem, zrT P elem with
      | some sz, some z => bif Nat.ble (len * sz) 16777216 then (match fillV (fun i => some (i * sz, sz)) (zeros z.cells (len * sz)) (parts.toList.map fun p => (p.1, ρ p.2)) with
        | some cs => bif mu then .new (.blk cs) fun n => .ret (.ms n 0 len sz (some len)) else .ret (.sl cs len sz .ex)
        | none => .fail) else .fail
      | _, _ => .fail)
    | _ => .fail)
  | .load t a => loadA P t (ρ a)
  | .store t a v => storeA P t (ρ a) (ρ v)
  | .nilCheck x => (match ρ x with | .ptr n o => .ret (.ptr n o) | .iptr c o => .ret (.iptr c o) | .fn f a c => .ret (.fn f a c) | .yld l => .ret (.yld l) | _ => .fail)
  | .binOp op t x y _ => rt (binV P op t (ρ x) (ρ y))
  | .unOp op _ x => rt (unV op (ρ x))
  | .convert s d x => convA P s d (ρ x)
  | .makeFunc (.func f) first cap => .ret (.fn f (first.toList.map ρ) (cap.toList.map ρ))
  | .makeMap _ none => .new (.mp [] 0) fun n => .ret (.map n)
  | .slice t x lo hi mx => sliceA P t (ρ x) (lo.map ρ) (hi.map ρ) (mx.map ρ)
  | .fieldAddr s x i => (match P.underlying s with
    | some (.struct fields) => (match fields[i]? with
      | some f => (match szT P f.type with | some (_ + 1) => rt (addrA (ρ x) f.offset) | _ => .fail)
      | none => .fail)
    | _ => .fail)
  | .field s x i => (match P.underlying s, ρ x with
    | some (.struct fields), .agg cs => (match fields[i]? with | some f => rt (partV P f.type cs f.offset) | none => .fail)
    | _, _ => .fail)
  | .indexAddr t x i => (match P.underlying t, ρ i with
    | some (.array len elem), .int _ i => (match szT P elem with
      | some sz => bif decide (0 ≤ i) && decide (i < len) then rt (addrA (ρ x) (i.toNat * sz)) else .fail
      | none => .fail)
    | some (.slice elem), .int _ i => (match szT P elem with
      | some sz => (match ρ x with
        | .sl cs len sz' _ => bif Nat.beq sz sz' && decide (0 ≤ i) && decide (i < len) then .ret (.iptr cs (i.toNat * sz)) else .fail
        | .ms n off len sz' _ => bif Nat.beq sz sz' && decide (0 ≤ i) && decide (i < len) then .ret (.ptr n (off + i.toNat * sz)) else .fail
        | _ => .fail)
      | none => .fail)
    | _, _ => .fail)
  | .index t x i => (match P.underlying t, ρ x, ρ i with
    | some (.array len elem), .agg cs, .int _ i => (match szT P elem with
      | some sz => bif decide (0 ≤ i) && decide (i < len) then rt (partV P elem cs (i.toNat * sz)) else .fail
      | none => .fail)
    | some .string, .str s, .int _ i => bif decide (0 ≤ i) then (match s[i.toNat]? with | some b => .ret (.int .u8 b.toNat) | none => .fail) else .fail
    | _, _, _ => .fail)
  | .lookup t m i ok => (match P.underlying t with
    | some (.map kt et) => (match zrT P et with
      | some z => bif ckKey P 10000 kt (ρ i) && (ρ i).key then (match ρ m with
        | .nilm => .ret (bif ok then .tup [z, .bool false] else z)
        | .map n => .get n fun
          | .mp es _ => (match findV P kt (ρ i) es with
            | some (some (_, v)) => .ret (bif ok then .tup [v, .bool true] else v)
            | some none => .ret (bif ok then .tup [z, .bool false] else z)
            | none => .fail)
          | _ => .fail
        | _ => .fail) else .fail
      | none => .fail)
    | _ => .fail)
  | .mapUpdate t m k x | .insert t m k x => (match P.underlying t, ρ m with
    | some (.map kt _), .map n => bif ckKey P 10000 kt (ρ k) && (ρ k).key && (ρ x).flat then .get n fun
      | .mp es clk => (match findV P kt (ρ k) es with
        | some (some (i, _)) => (match es[i]? with
          | some e => bif e.k.keyB (ρ k) then .put n (.mp (setNth es i (ρ k) (ρ x)) clk) (.ret .und) else .fail
          | none => .fail)
        | some none => .put n (.mp (es ++ [⟨ρ k, ρ x, clk⟩]) (clk + 1)) (.ret .und)
        | none => .fail)
      | _ => .fail
      else .fail
    | _, _ => .fail)
  | .range t x => (match P.underlying t, ρ x with
    | some .string, .str s => .new (.sit s 0) fun n => .ret (.it n)
    | some (.map _ _), .nilm => .new (.mit none 0 [] 0) fun n => .ret (.it n)
    | some (.map _ _), .map m => .get m fun
      | .mp _ clk => .new (.mit (some m) clk [] clk) fun n => .ret (.it n)
      | _ => .fail
    | _, _ => .fail)
  | .next i false => (match ρ i with
    | .it n => .get n fun
      | .mit none _ _ _ => .ret (.tup [.bool false])
      | .mit (some m) since seen last => .get m fun
        | .mp es clk =>
          bif !seen.isEmpty && !es.isEmpty && es.all (fun e => decide (e.born ≥ last)) then .fail
          else (match cands es since seen with
            | [some e] => .put n (.mit (some m) since (seen ++ [e.born]) clk) (.ret (.tup [.bool true, e.k, e.v]))
            | [none] => .ret (.tup [.bool false])
            | _ => .fail)
        | _ => .fail
      | _ => .fail
    | _ => .fail)
  | .entry i => (match ρ i with
    | .it n => .get n fun
      | .mit (some m) _ seen stepped => .get m fun
        | .mp es clk => bif Nat.beq clk stepped then (match seen.getLast? with
            | some stamp => (match es.find? (fun e => e.born == stamp) with | some e => .ret (.tup [e.k, e.v]) | none => .fail)
            | none => .fail) else .fail
        | _ => .fail
      | _ => .fail
    | _ => .fail)
  | .next i true => (match ρ i with
    | .it n => .get n fun
      | .sit s pos => bif Nat.blt pos s.length then
          (let d := Utf8.decode ⟨s.toArray⟩ pos; .put n (.sit s (pos + d.2)) (.ret (.tup [.bool true, .int .i64 pos, .int .i32 d.1])))
        else .ret (.tup [.bool false])
      | _ => .fail
    | _ => .fail)
  | .extract t i => (match ρ t with | .tup vs => rt vs[i]? | _ => .fail)
  | .call c => (match c.callee with
    | .value f => (match ρ f with
      | .fn f first cap => .call f (first ++ c.args.toList.map ρ ++ cap)
      | .yld l => .yld l (c.args.toList.map ρ)
      | _ => .fail)
    | .builtin b => builtinA P mu b c.argTypes.toList (c.args.toList.map ρ)
    | .invoke _ _ => .fail)
  | _ => .fail

end Go.Am
