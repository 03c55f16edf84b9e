/- Part of the proof of KnownFactsUptoCardSaid: see the last file.  -/
import Derived.Calls
import Derived.Laws.NewBlocks
import Derived.Tactics
import Derived.Laws.Cells
set_option linter.unusedSimpArgs false
set_option linter.unusedVariables false
set_option linter.unusedSectionVars false
/- The abstract machine: a functional, tape-free reading of the model's own Code over an abstract heap. Definitions alone. -/
namespace Go.AM
open Go

/-! ### Heap -/
inductive AObj where
  | cells (cs : List Value) (own : Bool)
  | map (kv : List (Value × Value))
  | fix (o : Obj)
  deriving Inhabited

structure Hp where
  next : Nat
  get : Nat → Option AObj
  ty : Nat → Option TypeId

def Hp.new (H : Hp) (o : AObj) : Hp := ⟨H.next + 1, fun i => if i = H.next then some o else H.get i, H.ty⟩
def Hp.set (H : Hp) (i : Nat) (o : Option AObj) : Hp := ⟨H.next, fun j => if j = i then o else H.get j, H.ty⟩
/-- The type of an object's block is noted. -/
def Hp.mark (H : Hp) (i : Nat) (T : TypeId) : Hp := ⟨H.next, H.get, fun j => if j = i then some T else H.ty j⟩

inductive Bx where
  | cells (cs : List Value) (ro : Bool)
  | iter (s : ByteArray) (pos : Nat)
  | iterRo (s : ByteArray) (pos : Nat)
  deriving Inhabited

structure St where
  bx : Nat → Option Bx
  hp : Hp

def St.setB (S : St) (d : Nat) (b : Option Bx) : St := ⟨fun j => if j = d then b else S.bx j, S.hp⟩

inductive Slot where
  | unk
  | und
  | val (v : Value)
  | loc (d off : Nat)
  deriving Inhabited

abbrev Fr := List Slot
def getS (fr : Fr) (t : Nat) : Slot := fr.getD t .unk
def putS (fr : Fr) (d : Option Nat) (s : Slot) : Fr := match d with | some d => fr.set d s | none => fr
def Slot.notLoc (d : Nat) : Slot → Bool
  | .loc e _ => !(Nat.beq e d)
  | _ => true

abbrev Handler := FuncId → List Value → Hp → Option (Value × Hp)

/-- Which boxes stay in the frame; what is kept at joins and loops. -/
structure Orc where
  loc : FuncId → List Nat
  join : FuncId → Nat → Option (List Nat × List Nat)
  loop : FuncId → Nat → List Nat × List Nat
  xt : FuncId → Option (List Value → Option Value) := fun _ => none
  gt : TypeId → Bool := fun _ => false

/-! ### Values -/
def scalarOk : Value → Bool
  | .bool _ | .int _ _ | .string _ | .pointer none | .slice none 0 0 | .map none | .nilFunc | .nilIface => true
  | _ => false
def constOk : Value → Bool
  | .agg cs => cs.toList.all scalarOk
  | .tuple vs => vs.toList.all scalarOk
  | v => scalarOk v
/-- The value of one cell. -/
def one : Value → Bool
  | .agg _ | .tuple _ => false
  | _ => true

def aggD : TypeDesc → Bool
  | .struct _ | .array _ _ => true
  | _ => false

section
variable {α : Type}

def br (t : Bool) (x y : Option α) : Option α := match t with | true => x | false => y
noncomputable def chk (p : Prop) (k : Option α) : Option α := open Classical in if p then k else none

def tyC (P : Program) (T : TypeId) (k : Nat → Bool → Option α) : Option α :=
  match P.info? T with
  | none => none
  | some i => match P.underlying T with
    | none => none
    | some d => k i.size (aggD d)

def zeroC (P : Program) (T : TypeId) (k : Value → Option α) : Option α :=
  match P.info? T with
  | none => none
  | some i => match i.zero with
    | none => none
    | some z => match constOk z with
      | true => k z
      | false => none

def rdCells (cs : List Value) (off n : Nat) (agg : Bool) : Option Value :=
  match agg with
  | true => if off + n ≤ cs.length then some (.agg ((cs.drop off).take n).toArray) else none
  | false => cs[off]?
def Hp.rd (H : Hp) (i off n : Nat) (agg : Bool) : Option Value :=
  match H.get i with
  | some (.cells cs _) => rdCells cs off n agg
  | _ => none
def Hp.rdP (H : Hp) (p : Value) (n : Nat) (agg : Bool) : Option Value :=
  match p with
  | .pointer (some ⟨i, off, none⟩) => H.rd i off n agg
  | _ => none
def pLoad (n : Nat) (agg : Bool) (H : Hp) (p : Value) (k : Value → Option α) : Option α :=
  match H.rdP p n agg with
  | some v => k v
  | none => none
def pCell (n : Nat) (agg : Bool) (cs : List Value) (off : Nat) (k : Value → Option α) : Option α :=
  match rdCells cs off n agg with
  | some v => k v
  | none => none
def spl (cs : List Value) (off : Nat) (vs : List Value) : List Value := cs.take off ++ vs ++ cs.drop (off + vs.length)
def cellsL (v : Value) : List Value := v.cells.toList
def wrCells (n : Nat) (cs : List Value) (off : Nat) (v : Value) : Option (List Value) :=
  if (cellsL v).length = n ∧ off + n ≤ cs.length ∧ (cellsL v).all one = true then some (spl cs off (cellsL v)) else none
def pSplice (n : Nat) (cs : List Value) (off : Nat) (v : Value) (k : List Value → Option α) : Option α :=
  match wrCells n cs off v with
  | some cs' => k cs'
  | none => none
def Hp.wr (H : Hp) (p : Value) (n : Nat) (v : Value) : Option Hp :=
  match p with
  | .pointer (some ⟨i, off, none⟩) =>
    match H.get i with
    | some (.cells cs true) => match wrCells n cs off v with
      | some cs' => some (H.set i (some (.cells cs' true)))
      | none => none
    | _ => none
  | _ => none
def pStore (n : Nat) (H : Hp) (p v : Value) (k : Hp → Option α) : Option α :=
  match H.wr p n v with
  | some H' => k H'
  | none => none

def pNil (v : Value) (k : Option α) : Option α :=
  match v with
  | .pointer (some _) | .func (.func _) _ _ => k
  | _ => none
def pOffs (n : Nat) (p : Value) (k : Value → Option α) : Option α :=
  match p with
  | .pointer (some ⟨i, off, none⟩) => k (.pointer (some ⟨i, off + n, none⟩))
  | _ => none
def pBool (v : Value) (k : Bool → Option α) : Option α :=
  match v with
  | .bool b => k b
  | _ => none

/-! ### Arithmetic and comparisons -/
def bvOp (op : BinOp) (k : IntKind) (x y : Int) : Option Value :=
  let a := BitVec.ofInt k.bits x
  let b := BitVec.ofInt k.bits y
  match op with
  | .and => some (.int k (k.wrap (a &&& b).toNat))
  | .or => some (.int k (k.wrap (a ||| b).toNat))
  | .xor => some (.int k (k.wrap (a ^^^ b).toNat))
  | .andNot => some (.int k (k.wrap (a &&& ~~~b).toNat))
  | _ => none
def intOp (op : BinOp) (k : IntKind) (x y : Int) : Option Value :=
  match op with
  | .add => some (.int k (k.wrap (x + y)))
  | .sub => some (.int k (k.wrap (x - y)))
  | .mul => some (.int k (k.wrap (x * y)))
  | .quo => if y = 0 then none else some (.int k (k.wrap (x.tdiv y)))
  | .rem => if y = 0 then none else some (.int k (x.tmod y))
  | .eql => some (.bool (x == y))
  | .neq => some (.bool (x != y))
  | .lss => some (.bool (x < y))
  | .leq => some (.bool (x ≤ y))
  | .gtr => some (.bool (x > y))
  | .geq => some (.bool (x ≥ y))
  | .and | .or | .xor | .andNot => bvOp op k x y
  | .shl | .shr => none
def strOp (op : BinOp) (x y : ByteArray) : Option Value :=
  match op with
  | .add => if ((x.size + y.size : Nat) : Int) > IntKind.i64.max then none else some (.string (x ++ y))
  | .eql => some (.bool (x.toList == y.toList))
  | .neq => some (.bool !(x.toList == y.toList))
  | .lss => some (.bool (Op.bytesLess x.toList y.toList))
  | .leq => some (.bool (Op.bytesLess x.toList y.toList || x.toList == y.toList))
  | .gtr => some (.bool !(Op.bytesLess x.toList y.toList || x.toList == y.toList))
  | .geq => some (.bool !(Op.bytesLess x.toList y.toList))
  | _ => none
def shOp (op : BinOp) (k : IntKind) (x y : Int) : Option Value :=
  if y < 0 then none else
  match op with
  | .shl => some (.int k (k.wrap (x * 2 ^ (min y.toNat k.bits))))
  | .shr => some (.int k (x.fdiv (2 ^ (min y.toNat k.bits))))
  | _ => none

def partT (P : Program) (t : TypeId) (cs : List Value) (off : Nat) : Option Value :=
  match P.info? t, P.underlying t with
  | some i, some d => match aggD d with
    | true => some (.agg ((cs.drop off).take i.size).toArray)
    | false => cs[off]?
  | _, _ => none

def eqFields (P : Program) (c : TypeId → Value → Value → Option Bool) (xs ys : List Value) : List Field → Option Bool
  | [] => some true
  | f :: fs =>
    match f.name == "_" with
    | true => eqFields P c xs ys fs
    | false =>
      match partT P f.type xs f.offset, partT P f.type ys f.offset with
      | some x, some y => match c f.type x y with
        | some true => eqFields P c xs ys fs
        | r => r
      | _, _ => none
def eqT (P : Program) : Nat → TypeId → Value → Value → Option Bool
  | 0, _, _, _ => none
  | d + 1, t, x, y =>
    match P.underlying t, x, y with
    | some .bool, .bool a, .bool b => some (a == b)
    | some (.int _), .int k a, .int k' b => if k = k' then some (a == b) else none
    | some .string, .string a, .string b => some (a == b)
    | some (.pointer _), .pointer none, .pointer b => some b.isNone
    | some (.pointer _), .pointer _, .pointer none => some false
    | some (.slice _), .slice none _ _, .slice b _ _ => some b.isNone
    | some (.slice _), .slice _ _ _, .slice none _ _ => some false
    | some (.map _ _), .map none, .map b => some b.isNone
    | some (.map _ _), .map _, .map none => some false
    | some (.func _ _ _), .nilFunc, .nilFunc => some true
    | some (.func _ _ _), .nilFunc, .func _ _ _ => some false
    | some (.func _ _ _), .func _ _ _, .nilFunc => some false
    | some (.struct fields), .agg xs, .agg ys =>
      match P.stoodInHeld t with
      | true => none
      | false => eqFields P (eqT P d) xs.toList ys.toList fields.toList
    | _, _, _ => none
end
end Go.AM
/- The abstract machine: operations and control. Definitions alone. -/
namespace Go.AM
open Go

section
variable {α : Type}

/-! ### Building -/
def fillL (place : Nat → Option (Nat × Nat)) (cells : List Value) : List (Nat × Value) → Option (List Value)
  | [] => some cells
  | (i, v) :: rest =>
    match place i with
    | none => none
    | some (off, size) =>
      if (cellsL v).length = size ∧ off + size ≤ cells.length ∧ (cellsL v).all one = true then fillL place (spl cells off (cellsL v)) rest else none
def placesOf (P : Program) : List Field → Option (List (Nat × Nat))
  | [] => some []
  | f :: fs => match P.info? f.type with
    | none => none
    | some i => match placesOf P fs with
      | none => none
      | some r => some ((f.offset, i.size) :: r)
def placeAt (l : List (Nat × Nat)) (i : Nat) : Option (Nat × Nat) := l[i]?
def buildV (P : Program) (t : TypeId) (parts : List (Nat × Value)) : Option Value :=
  zeroC P t fun z =>
    match P.underlying t with
    | some (.struct fields) => match placesOf P fields.toList with
      | none => none
      | some l => match fillL (placeAt l) (cellsL z) parts with
        | some cs => some (.agg cs.toArray)
        | none => none
    | some (.array _ elem) => match P.info? elem with
      | none => none
      | some i => match fillL (fun j => some (j * i.size, i.size)) (cellsL z) parts with
        | some cs => some (.agg cs.toArray)
        | none => none
    | _ => none
def pBuild (P : Program) (t : TypeId) (parts : List (Nat × Value)) (k : Value → Option α) : Option α :=
  match buildV P t parts with
  | some v => k v
  | none => none
def repl (n : Nat) (zs : List Value) : List Value := match n with | 0 => [] | n + 1 => zs ++ repl n zs
/-- What a slice type's element is: its cells, its bytes, its zero's cells. -/
def sliceC (P : Program) (t : TypeId) (k : Nat → Nat → List Value → Option α) : Option α :=
  match P.underlying t with
  | some (.slice e) => match P.info? e with
    | none => none
    | some i => zeroC P e fun z => if i.size = 0 ∨ i.bytes = 0 ∨ (cellsL z).length ≠ i.size ∨ ((cellsL z).all one) = false then none else k i.size i.bytes (cellsL z)
  | _ => none
def buildSliceV (sz : Nat) (zs : List Value) (len : Nat) (parts : List (Nat × Value)) (H : Hp) : Option (Value × Hp) :=
  if len * sz > 2 ^ 24 then none else
  match fillL (fun i => some (i * sz, sz)) (repl len zs) parts with
  | some cs => some (.slice (some ⟨H.next, 0, some sz⟩) len len, H.new (.cells cs true))
  | none => none
def pBuildSlice (sz : Nat) (zs : List Value) (len : Nat) (parts : List (Nat × Value)) (H : Hp) (k : Value → Hp → Option α) : Option α :=
  match buildSliceV sz zs len parts H with
  | some (v, H') => k v H'
  | none => none
def makeSliceV (sz bytes : Nat) (zs : List Value) (l c : Value) (H : Hp) : Option (Value × Hp) :=
  match l, c with
  | .int .i64 n, .int .i64 m => if 0 ≤ n ∧ n ≤ m ∧ m * bytes ≤ 2 ^ 47 then
      some (.slice (some ⟨H.next, 0, some sz⟩) n.toNat m.toNat, H.new (.cells (repl m.toNat zs) true)) else none
  | _, _ => none
def pMakeSlice (sz bytes : Nat) (zs : List Value) (l c : Value) (H : Hp) (k : Value → Hp → Option α) : Option α :=
  match makeSliceV sz bytes zs l c H with
  | some (v, H') => k v H'
  | none => none
def pAlloc (cs : List Value) (H : Hp) (k : Value → Hp → Option α) : Option α :=
  k (.pointer (some ⟨H.next, 0, none⟩)) (H.new (.cells cs true))
def pAllocT (T : TypeId) (cs : List Value) (H : Hp) (k : Value → Hp → Option α) : Option α := k (.pointer (some ⟨H.next, 0, none⟩)) ((H.new (.cells cs true)).mark H.next T)
def pAllocG (g : Bool) (T : TypeId) (cs : List Value) (H : Hp) (k : Value → Hp → Option α) : Option α :=
  match g with
  | true => pAllocT T cs H k
  | false => pAlloc cs H k
def pNewMap (H : Hp) (k : Value → Hp → Option α) : Option α := k (.map (some H.next)) (H.new (.map []))

/-! ### Slices and strings -/
def optInt (d : Nat) : Option Value → Option Int
  | none => some d
  | some (.int _ n) => some n
  | _ => none
def sliceS (x : Value) (lo hi : Option Value) : Option Value :=
  match x with
  | .string s => match optInt 0 lo, optInt s.size hi with
    | some l, some h => if 0 ≤ l ∧ l ≤ h ∧ h ≤ s.size then some (.string (s.extract l.toNat h.toNat)) else none
    | _, _ => none
  | _ => none
def sliceV (sz : Nat) (x : Value) (lo hi : Option Value) : Option Value :=
  match x with
  | .slice none 0 0 => match optInt 0 lo, optInt 0 hi with
    | some l, some h => if l = 0 ∧ h = 0 then some (.slice none 0 0) else none
    | _, _ => none
  | .slice (some ⟨i, o, some z⟩) n c => match optInt 0 lo, optInt n hi with
    | some l, some h => if z = sz ∧ 0 ≤ l ∧ l ≤ h ∧ h ≤ c then some (.slice (some ⟨i, o + l.toNat * sz, some sz⟩) (h - l).toNat (c - l.toNat)) else none
    | _, _ => none
  | _ => none
def pSliceS (x : Value) (lo hi : Option Value) (k : Value → Option α) : Option α :=
  match sliceS x lo hi with
  | some v => k v
  | none => none
def pSlice (sz : Nat) (x : Value) (lo hi : Option Value) (k : Value → Option α) : Option α :=
  match sliceV sz x lo hi with
  | some v => k v
  | none => none
/-- An element's address in a slice. -/
def idxV (sz : Nat) (x ix : Value) : Option Value :=
  match x, ix with
  | .slice (some ⟨i, o, some z⟩) n _, .int _ j => if z = sz ∧ 0 ≤ j ∧ j < n then some (.pointer (some ⟨i, o + j.toNat * sz, none⟩)) else none
  | _, _ => none
def pIdx (sz : Nat) (x ix : Value) (k : Value → Option α) : Option α :=
  match idxV sz x ix with
  | some v => k v
  | none => none
/-- An element's address in an array behind a pointer. -/
def pIdxArr (len sz : Nat) (x ix : Value) (k : Value → Option α) : Option α :=
  match x, ix with
  | .pointer (some ⟨i, o, none⟩), .int _ j => if 0 ≤ j ∧ j < len then k (.pointer (some ⟨i, o + j.toNat * sz, none⟩)) else none
  | _, _ => none
def pIdxLoc (len : Nat) (ix : Value) (k : Nat → Option α) : Option α :=
  match ix with
  | .int _ j => if 0 ≤ j ∧ j < len then k j.toNat else none
  | _ => none
/-- An element of an array's value, a byte of a string. -/
def atStr (s : ByteArray) (j : Int) : Option Value := if 0 ≤ j then (s[j.toNat]?).map (fun b => .int .u8 (b.toNat : Int)) else none
def pAtStr (x ix : Value) (k : Value → Option α) : Option α :=
  match x, ix with
  | .string s, .int _ j => match atStr s j with
    | some v => k v
    | none => none
  | _, _ => none
def partC (agg : Bool) (n : Nat) (cs : List Value) (off : Nat) : Option Value :=
  match agg with
  | true => some (.agg ((cs.drop off).take n).toArray)
  | false => cs[off]?
def pPart (agg : Bool) (n off : Nat) (x : Value) (k : Value → Option α) : Option α :=
  match x with
  | .agg cs => match partC agg n cs.toList off with
    | some v => k v
    | none => none
  | _ => none
def pAtArr (len : Nat) (agg : Bool) (n : Nat) (x ix : Value) (k : Value → Option α) : Option α :=
  match ix with
  | .int _ j => if 0 ≤ j ∧ j < len then pPart agg n (j.toNat * n) x k else none
  | _ => none
def extractV (t : Value) (i : Nat) : Option Value :=
  match t with
  | .tuple vs => vs.toList[i]?
  | _ => none
def pExtract (t : Value) (i : Nat) (k : Value → Option α) : Option α :=
  match extractV t i with
  | some v => k v
  | none => none

/-- What a slice holds; bytes of a string. -/
def srcCells (sz : Nat) (x : Value) (H : Hp) : Option (Nat × List Value) :=
  match x with
  | .slice none 0 0 => some (0, [])
  | .slice (some ⟨i, o, some z⟩) n _ => if z = sz then
      match H.get i with
      | some (.cells cs _) => if o + n * sz ≤ cs.length then some (n, (cs.drop o).take (n * sz)) else none
      | _ => none else none
  | .string s => if sz = 1 then some (s.size, s.data.toList.map fun b => .int .u8 (b.toNat : Int)) else none
  | _ => none
def appendV (sz bytes : Nat) (s x : Value) (H : Hp) : Option (Value × Hp) :=
  match srcCells sz x H with
  | none => none
  | some (m, new) =>
    match s with
    | .slice none 0 0 =>
      if m = 0 then some (.slice none 0 0, H)
      else if m * bytes ≤ 2 ^ 47 ∧ new.all one = true then some (.slice (some ⟨H.next, 0, some sz⟩) m m, H.new (.cells new true)) else none
    | .slice (some ⟨i, o, some z⟩) n c =>
      if z ≠ sz then none else
      if m = 0 ∧ n ≤ c then some (s, H)
      else match H.get i with
        | some (.cells cs true) =>
          if n + m ≤ c then
            if o + (n + m) * sz ≤ cs.length ∧ new.all one = true then some (.slice (some ⟨i, o, some sz⟩) (n + m) c, H.set i (some (.cells (spl cs (o + n * sz) new) true))) else none
          else if o + n * sz ≤ cs.length ∧ (n + m) * bytes ≤ 2 ^ 47 ∧ new.all one = true then
            some (.slice (some ⟨H.next, 0, some sz⟩) (n + m) (n + m), (H.set i none).new (.cells ((cs.drop o).take (n * sz) ++ new) true))
          else none
        | _ => none
    | _ => none
def pAppend (sz bytes : Nat) (s x : Value) (H : Hp) (k : Value → Hp → Option α) : Option α :=
  match appendV sz bytes s x H with
  | some (v, H') => k v H'
  | none => none
/-- May the new object of an append be marked? -/
def canMark (e : TypeId) (s : Value) (H : Hp) : Bool :=
  match s with
  | .slice none 0 0 => true
  | .slice (some ⟨i, 0, some _⟩) _ (_ + 1) => match H.ty i with
    | some T => Nat.beq T e
    | none => false
  | _ => false
def markA (e : TypeId) (s : Value) (H H' : Hp) : Hp :=
  match Nat.beq H'.next (H.next + 1) && canMark e s H with
  | true => H'.mark H.next e
  | false => H'
def pAppendT (e : TypeId) (sz bytes : Nat) (s x : Value) (H : Hp) (k : Value → Hp → Option α) : Option α :=
  match appendV sz bytes s x H with
  | some (v, H') => k v (markA e s H H')
  | none => none
def pAppendG (g : Option TypeId) (sz bytes : Nat) (s x : Value) (H : Hp) (k : Value → Hp → Option α) : Option α :=
  match g with
  | some e => pAppendT e sz bytes s x H k
  | none => pAppend sz bytes s x H k
def copyV (sz : Nat) (d x : Value) (H : Hp) : Option (Value × Hp) :=
  match srcCells sz x H, d with
  | some (_, _), .slice none 0 0 => some (.int .i64 0, H)
  | some (m, new), .slice (some ⟨i, o, some z⟩) n _ =>
    if z ≠ sz then none else
    match H.get i with
    | some (.cells cs true) =>
      if o + min m n * sz ≤ cs.length ∧ new.all one = true then some (.int .i64 (min m n : Nat), H.set i (some (.cells (spl cs o (new.take (min m n * sz))) true))) else none
    | _ => none
  | _, _ => none
def pCopy (sz : Nat) (d x : Value) (H : Hp) (k : Value → Hp → Option α) : Option α :=
  match copyV sz d x H with
  | some (v, H') => k v H'
  | none => none
inductive LenK where
  | str | sl | mp
def lenK : TypeDesc → Option LenK
  | .string => some .str
  | .slice _ => some .sl
  | .map _ _ => some .mp
  | _ => none
def lenV (q : LenK) (x : Value) (H : Hp) : Option Value :=
  match q, x with
  | .str, .string s => some (.int .i64 s.size)
  | .sl, .slice _ n _ => some (.int .i64 n)
  | .mp, .map none => some (.int .i64 0)
  | .mp, .map (some i) => match H.get i with
    | some (.map kv) => some (.int .i64 kv.length)
    | _ => none
  | _, _ => none
def pLen (q : LenK) (x : Value) (H : Hp) (k : Value → Option α) : Option α :=
  match lenV q x H with
  | some v => k v
  | none => none
/-- Bytes of a slice as a string. -/
def bytesOf : List Value → Option (List UInt8)
  | [] => some []
  | .int .u8 n :: r => match bytesOf r with
    | some l => some (UInt8.ofNat n.toNat :: l)
    | none => none
  | _ => none
def toStrV (x : Value) (H : Hp) : Option Value :=
  match x with
  | .slice none _ _ => some (.string ⟨#[]⟩)
  | .slice (some a) n c => match srcCells 1 (.slice (some a) n c) H with
    | some (_, cs) => match bytesOf cs with
      | some l => some (.string ⟨l.toArray⟩)
      | none => none
    | none => none
  | _ => none
def pToStr (x : Value) (H : Hp) (k : Value → Option α) : Option α :=
  match toStrV x H with
  | some v => k v
  | none => none
def pToBytes (x : Value) (H : Hp) (k : Value → Hp → Option α) : Option α :=
  match x with
  | .string s => if s.size ≤ 2 ^ 47 then k (.slice (some ⟨H.next, 0, some 1⟩) s.size s.size) (H.new (.cells (s.data.toList.map fun b => .int .u8 (b.toNat : Int)) true)) else none
  | _ => none

/-! ### Maps -/
def keyOk (P : Program) : Nat → TypeId → Bool
  | 0, _ => false
  | d + 1, t => match P.underlying t with
    | some .bool | some (.int _) | some .string => true
    | some (.struct fs) => fs.toList.all fun f => keyOk P d f.type && ((P.info? f.type).isSome)
    | _ => false
def findT (P : Program) (kt : TypeId) (key : Value) : List (Value × Value) → Nat → Option (Option (Nat × Value))
  | [], _ => some none
  | (k, v) :: r, i => match eqT P 10000 kt key k with
    | some true => some (some (i, v))
    | some false => findT P kt key r (i + 1)
    | none => none
def mapOf (m : Value) (H : Hp) : Option (List (Value × Value)) :=
  match m with
  | .map none => some []
  | .map (some i) => match H.get i with
    | some (.map kv) => some kv
    | _ => none
  | _ => none
/-- A map type's key, and its elements' zero value. -/
def mapC (P : Program) (T : TypeId) (k : TypeId → Value → Option α) : Option α :=
  match P.underlying T with
  | some (.map kt et) => match keyOk P 20 kt with
    | true => zeroC P et fun z => k kt z
    | false => none
  | _ => none
def shapeOk (P : Program) : Nat → TypeId → Value → Bool
  | 0, _, _ => false
  | d + 1, t, v => match P.underlying t, v with
    | some .bool, .bool _ => true
    | some (.int _), .int _ _ => true
    | some .string, .string _ => true
    | some (.struct fs), .agg cs => fs.toList.all fun f => match partT P f.type cs.toList f.offset with
      | some x => shapeOk P d f.type x
      | none => false
    | _, _ => false
def lookV (P : Program) (kt : TypeId) (z m key : Value) (H : Hp) : Option (Value × Bool) :=
  if shapeOk P 20 kt key = true then
  match mapOf m H with
  | none => none
  | some kv => match findT P kt key kv 0 with
    | some (some (_, v)) => some (v, true)
    | some none => some (z, false)
    | none => none
  else none
def pLook (P : Program) (kt : TypeId) (z m key : Value) (ok : Bool) (H : Hp) (k : Value → Option α) : Option α :=
  match lookV P kt z m key H with
  | some (v, b) => match ok with
    | true => k (.tuple #[v, .bool b])
    | false => k v
  | none => none
def setAt (kv : List (Value × Value)) (i : Nat) (key v : Value) : List (Value × Value) := kv.set i (key, v)
def updV (P : Program) (kt : TypeId) (m key v : Value) (H : Hp) : Option Hp :=
  if shapeOk P 20 kt key = true then
  match m with
  | .map (some i) => match H.get i with
    | some (.map kv) => match findT P kt key kv 0 with
      | some (some (j, _)) => match kv[j]? with
        | some (k0, _) => if Instr.sameBits 10000 k0 key = true then some (H.set i (some (.map (setAt kv j key v)))) else none
        | none => none
      | some none => some (H.set i (some (.map (kv ++ [(key, v)]))))
      | none => none
    | _ => none
  | _ => none
  else none
def pUpd (P : Program) (kt : TypeId) (m key v : Value) (H : Hp) (k : Hp → Option α) : Option α :=
  match updV P kt m key v H with
  | some H' => k H'
  | none => none
def delV (P : Program) (kt : TypeId) (m key : Value) (H : Hp) : Option Hp :=
  if shapeOk P 20 kt key = true then
  match m with
  | .map none => some H
  | .map (some i) => match H.get i with
    | some (.map kv) => match findT P kt key kv 0 with
      | some (some (j, _)) => some (H.set i (some (.map (kv.eraseIdx j))))
      | some none => some H
      | none => none
    | _ => none
  | _ => none
  else none
def pDel (P : Program) (kt : TypeId) (m key : Value) (H : Hp) (k : Hp → Option α) : Option α :=
  match delV P kt m key H with
  | some H' => k H'
  | none => none

/-! ### Operators -/
def nilLike : Value → Bool
  | .pointer none | .slice none _ _ | .map none | .nilFunc => true
  | _ => false
def eqOp (P : Program) (T : TypeId) (x y : Value) : Option Bool :=
  match x, y with
  | .agg _, .agg _ => match P.eqGuardType P.depth T with
    | true => none
    | false => eqT P Op.maxDepth T x y
  | .nilIface, _ => none
  | .bool _, .bool _ | .pointer _, .pointer _ | .slice _ _ _, .slice _ _ _ | .map _, .map _ | .nilFunc, .nilFunc | .nilFunc, .func _ _ _ | .func _ _ _, .nilFunc => eqT P Op.maxDepth T x y
  | _, _ => none
def binV (P : Program) (op : BinOp) (T : TypeId) (x y : Value) : Option Value :=
  match x, y with
  | .int k a, .int k' b => match op with
    | .shl | .shr => shOp op k a b
    | _ => if k = k' then intOp op k a b else none
  | .string a, .string b => strOp op a b
  | x, y => match op with
    | .eql => match eqOp P T x y with
      | some b => some (.bool b)
      | none => none
    | .neq => match eqOp P T x y with
      | some b => some (.bool !b)
      | none => none
    | _ => none
def pBin (P : Program) (op : BinOp) (T : TypeId) (x y : Value) (k : Value → Option α) : Option α :=
  match binV P op T x y with
  | some v => k v
  | none => none
def unV (op : UnOp) (x : Value) : Option Value :=
  match op, x with
  | .neg, .int k n => some (.int k (k.wrap (0 - n)))
  | .xor, .int k n => bvOp .xor k (if k.signed then -1 else k.max) n
  | .not, .bool b => some (.bool !b)
  | _, _ => none
def pUn (op : UnOp) (x : Value) (k : Value → Option α) : Option α :=
  match unV op x with
  | some v => k v
  | none => none
def convIntV (kd : IntKind) (x : Value) : Option Value :=
  match x with
  | .int _ n => some (.int kd (kd.wrap n))
  | _ => none
def pConvInt (kd : IntKind) (x : Value) (k : Value → Option α) : Option α :=
  match convIntV kd x with
  | some v => k v
  | none => none
def pRune (x : Value) (k : Value → Option α) : Option α :=
  match x with
  | .int _ n => k (.string (Utf8.encode n))
  | _ => none
def pStr (x : Value) (k : Value → Option α) : Option α :=
  match x with
  | .string _ => k x
  | _ => none
def mm (mx : Bool) (x y : Value) : Option Value :=
  match x, y with
  | .int k a, .int _ b => some (.int k (match mx with | true => if b > a then b else a | false => if b < a then b else a))
  | _, _ => none
def mmL (mx : Bool) (x : Value) : List Value → Option Value
  | [] => some x
  | y :: r => match mm mx x y with
    | some z => mmL mx z r
    | none => none
def pMM (mx : Bool) (vs : List Value) (k : Value → Option α) : Option α :=
  match vs with
  | [] => none
  | x :: r => match mmL mx x r with
    | some v => k v
    | none => none
def pCallF (h : Handler) (g : FuncId) (args : List Value) (H : Hp) (k : Value → Hp → Option α) : Option α :=
  match h g args H with
  | some (v, H') => k v H'
  | none => none
def pCall (h : Handler) (fv : Value) (vs : List Value) (H : Hp) (k : Value → Hp → Option α) : Option α :=
  match fv with
  | .func (.func g) first captured => pCallF h g (first.toList ++ (vs ++ captured.toList)) H k
  | _ => none

/-! ### Operands -/
def ev (G : Nat) (fr : Fr) : Operand → Slot
  | .tmp t => getS fr t
  | .const v => match constOk v with
    | true => .val v
    | false => .unk
  | .global g => match Nat.blt g G with
    | true => .val (.pointer (some ⟨g, 0, none⟩))
    | false => .unk
  | .func f => .val (.func (.func f) #[] #[])
def sV (s : Slot) (k : Value → Option α) : Option α :=
  match s with
  | .val v => k v
  | _ => none
def evs (G : Nat) (fr : Fr) : List Operand → (List Value → Option α) → Option α
  | [], k => k []
  | x :: xs, k => sV (ev G fr x) fun v => evs G fr xs fun vs => k (v :: vs)
def optV (G : Nat) (fr : Fr) (x : Option Operand) (k : Option Value → Option α) : Option α :=
  match x with
  | none => k none
  | some x => sV (ev G fr x) fun v => k (some v)

def sel (t : Bool) (x y : Value) : Value := match t with | true => x | false => y
def pStrC (x : Value) (k : ByteArray → Option α) : Option α :=
  match x with
  | .string s => k s
  | _ => none

/-! ### One operation -/
structure Ctx where
  P : Program
  O : Orc
  h : Handler
  f : FuncId

/-- The type of a slice's items, if it is one to be noted. -/
def gtOf (P : Program) (O : Orc) (t : TypeId) : Option TypeId :=
  match P.underlying t with
  | some (.slice e) => match O.gt e with
    | true => some e
    | false => none
  | _ => none
def newBox (C : Ctx) (S : St) (d : Option Nat) (T : TypeId) (cs : List Value) (k : Slot → St → Option α) : Option α :=
  match d with
  | some d => match (C.O.loc C.f).elem d with
    | true => match S.bx d with
      | some _ => none
      | none => k (.loc d 0) (S.setB d (some (.cells cs false)))
    | false => pAllocG (C.O.gt T) T cs S.hp fun v H => k (.val v) ⟨S.bx, H⟩
  | none => none

def opC (C : Ctx) (fr : Fr) (S : St) (o : Oper) (k : Slot → St → Option α) : Option α :=
  let G := C.P.globals.size
  match o.op with
  | .move x | .assign x => k (ev G fr x) S
  | .pick c a b => sV (ev G fr c) fun c => pBool c fun t =>
      match ev G fr a, ev G fr b with
      | .val x, .val y => k (.val (sel t x y)) S
      | sa, sb => match t with
        | true => k sa S
        | false => k sb S
  | .alloc T => zeroC C.P T fun z => match (cellsL z).all one with
      | true => newBox C S o.dst T (cellsL z) k
      | false => none
  | .box T x => sV (ev G fr x) fun v => newBox C S o.dst T (cellsL v) k
  | .build T parts => evs G fr (parts.toList.map (·.2)) fun vs => pBuild C.P T ((parts.toList.map (·.1)).zip vs) fun v => k (.val v) S
  | .buildSlice T len parts => evs G fr (parts.toList.map (·.2)) fun vs => sliceC C.P T fun sz _ zs =>
      pBuildSlice sz zs len ((parts.toList.map (·.1)).zip vs) S.hp fun v H => k (.val v) ⟨S.bx, H⟩
  | .load T a => tyC C.P T fun n agg => match ev G fr a with
      | .loc d off => match S.bx d with
        | some (.cells cs _) => pCell n agg cs off fun v => k (.val v) S
        | _ => none
      | .val p => pLoad n agg S.hp p fun v => k (.val v) S
      | _ => none
  | .store T a x => sV (ev G fr x) fun v => tyC C.P T fun n _ => match ev G fr a with
      | .loc d off => match S.bx d with
        | some (.cells cs false) => pSplice n cs off v fun cs' => k .unk (S.setB d (some (.cells cs' false)))
        | _ => none
      | .val p => pStore n S.hp p v fun H => k .unk ⟨S.bx, H⟩
      | _ => none
  | .nilCheck x => match ev G fr x with
      | .loc d off => k (.loc d off) S
      | .val v => pNil v (k (.val v) S)
      | _ => none
  | .binOp op T x y _ => sV (ev G fr x) fun x => sV (ev G fr y) fun y => pBin C.P op T x y fun v => k (.val v) S
  | .unOp op _ x => sV (ev G fr x) fun x => pUn op x fun v => k (.val v) S
  | .convert src dst x => sV (ev G fr x) fun x =>
      match C.P.underlying src, C.P.underlying dst with
      | some (.int _), some (.int kd) => pConvInt kd x fun v => k (.val v) S
      | some .string, some .string => pStr x (fun v => k (.val v) S)
      | some (.int _), some .string => pRune x fun v => k (.val v) S
      | some .string, some (.slice e) => match C.P.underlying e with
        | some (.int .u8) => pToBytes x S.hp fun v H => k (.val v) ⟨S.bx, H⟩
        | _ => none
      | some (.slice e), some .string => match C.P.underlying e with
        | some (.int .u8) => pToStr x S.hp fun v => k (.val v) S
        | _ => none
      | _, _ => none
  | .makeFunc fn first captured => evs G fr first.toList fun fs => evs G fr captured.toList fun cs => k (.val (.func fn fs.toArray cs.toArray)) S
  | .makeMap _ none => pNewMap S.hp fun v H => k (.val v) ⟨S.bx, H⟩
  | .makeSlice T l c => sV (ev G fr l) fun l => sV (ev G fr c) fun c => sliceC C.P T fun sz bytes zs =>
      pMakeSlice sz bytes zs l c S.hp fun v H => k (.val v) ⟨S.bx, H⟩
  | .slice T x lo hi none => sV (ev G fr x) fun x => optV G fr lo fun lo => optV G fr hi fun hi =>
      match C.P.underlying T with
      | some .string => pSliceS x lo hi fun v => k (.val v) S
      | some (.slice e) => match C.P.info? e with
        | some i => pSlice i.size x lo hi fun v => k (.val v) S
        | none => none
      | _ => none
  | .fieldAddr T x f => match C.P.underlying T with
      | some (.struct fs) => match fs.toList[f]? with
        | some fd => match C.P.info? fd.type with
          | some i => match Nat.beq i.size 0 with
            | true => none
            | false => match ev G fr x with
              | .loc d off => k (.loc d (off + fd.offset)) S
              | .val p => pOffs fd.offset p fun v => k (.val v) S
              | _ => none
          | none => none
        | none => none
      | _ => none
  | .field T x f => sV (ev G fr x) fun x => match C.P.underlying T with
      | some (.struct fs) => match fs.toList[f]? with
        | some fd => tyC C.P fd.type fun n agg => pPart agg n fd.offset x fun v => k (.val v) S
        | none => none
      | _ => none
  | .indexAddr T x i => sV (ev G fr i) fun i => match C.P.underlying T with
      | some (.slice e) => match C.P.info? e with
        | some ti => sV (ev G fr x) fun x => pIdx ti.size x i fun v => k (.val v) S
        | none => none
      | some (.array len e) => match C.P.info? e with
        | some ti => match ev G fr x with
          | .loc d off => pIdxLoc len i fun j => k (.loc d (off + j * ti.size)) S
          | .val p => pIdxArr len ti.size p i fun v => k (.val v) S
          | _ => none
        | none => none
      | _ => none
  | .index T x i => sV (ev G fr x) fun x => sV (ev G fr i) fun i => match C.P.underlying T with
      | some .string => pAtStr x i fun v => k (.val v) S
      | some (.array len e) => tyC C.P e fun n agg => pAtArr len agg n x i fun v => k (.val v) S
      | _ => none
  | .lookup T m key ok => sV (ev G fr m) fun m => sV (ev G fr key) fun key => mapC C.P T fun kt z =>
      pLook C.P kt z m key ok S.hp fun v => k (.val v) S
  | .mapUpdate T m key x => sV (ev G fr m) fun m => sV (ev G fr key) fun key => sV (ev G fr x) fun x => mapC C.P T fun kt _ =>
      pUpd C.P kt m key x S.hp fun H => k .unk ⟨S.bx, H⟩
  | .insert T m key x => sV (ev G fr m) fun m => sV (ev G fr key) fun key => sV (ev G fr x) fun x => mapC C.P T fun kt _ =>
      pUpd C.P kt m key x S.hp fun H => k .unk ⟨S.bx, H⟩
  | .extract t i => sV (ev G fr t) fun t => pExtract t i fun v => k (.val v) S
  | .range T x => sV (ev G fr x) fun x => match C.P.underlying T, o.dst with
      | some .string, some d => match S.bx d with
        | some _ => none
        | none => pStrC x fun s => k (.loc d 0) (S.setB d (some (.iter s 0)))
      | _, _ => none
  | .next it true => match ev G fr it with
      | .loc d 0 => match S.bx d with
        | some (.iter s pos) => br (Nat.blt pos s.size)
            (k (.val (.tuple #[.bool true, .int .i64 pos, .int .i32 (Utf8.decode s pos).1])) (S.setB d (some (.iter s (pos + (Utf8.decode s pos).2)))))
            (k (.val (.tuple #[.bool false])) S)
        | _ => none
      | _ => none
  | .call c => match c.callee with
      | .value fo => sV (ev G fr fo) fun fv => evs G fr c.args.toList fun vs => pCall C.h fv vs S.hp fun v H => k (.val v) ⟨S.bx, H⟩
      | .invoke _ _ => none
      | .builtin b => evs G fr c.args.toList fun vs => match b, vs, c.argTypes.toList with
        | .len, [x], [t] => match C.P.underlying t with
          | some d => match lenK d with
            | some q => pLen q x S.hp fun v => k (.val v) S
            | none => none
          | none => none
        | .append, [s, x], [t, u] => sliceC C.P t fun sz bytes _ => match C.P.underlying u with
          | some (.slice _) | some .string => pAppendG (gtOf C.P C.O t) sz bytes s x S.hp fun v H => k (.val v) ⟨S.bx, H⟩
          | _ => none
        | .copy, [d, x], [t, _] => sliceC C.P t fun sz _ _ => pCopy sz d x S.hp fun v H => k (.val v) ⟨S.bx, H⟩
        | .max, vs, _ => pMM true vs fun v => k (.val v) S
        | .min, vs, _ => pMM false vs fun v => k (.val v) S
        | .delete, [m, key], [T, _] => mapC C.P T fun kt _ => pDel C.P kt m key S.hp fun H => k (.val (.tuple #[])) ⟨S.bx, H⟩
        | _, _, _ => none
  | _ => none

/-! ### Regions -/
structure K (α : Type) where
  norm : Fr → St → Option α
  exit : Nat → Fr → St → Option α
  ret : Value → Hp → Option α

/-- Is an operation wanted? Behind this its guard's value is written out. -/
def guardC (ops : List Oper) (fr : Fr) (o : Oper) (k : Bool → Fr → Option α) : Option α :=
  match o.guard with
  | none => k true fr
  | some (j, want) => match ops[j]? with
    | some g => match g.dst with
      | some d => match getS fr d with
        | .und => k false fr
        | s => sV s fun v => pBool v fun b => br b (k want (fr.set d (.val (.bool true)))) (k (!want) (fr.set d (.val (.bool false))))
      | none => none
    | none => none

def opsC (C : Ctx) (ops : List Oper) (k : Fr → St → Option α) : List Oper → Fr → St → Option α
  | [], fr, S => k fr S
  | o :: rest, fr, S => guardC ops fr o fun w fr => match w with
    | true => opC C fr S o fun s S' => opsC C ops k rest (putS fr o.dst s) S'
    | false => opsC C ops k rest (putS fr o.dst .und) S

/-! ### Regions that draw their order -/
inductive OK where
  | pure | read | eff
def kindOf (P : Program) : Op → OK
  | .move _ | .assign _ | .pick .. | .build .. | .nilCheck _ | .binOp .. | .unOp .. | .makeFunc .. | .slice .. | .fieldAddr .. | .field .. | .indexAddr .. | .index .. | .extract .. | .makeInterface .. => .pure
  | .load .. | .lookup .. => .read
  | .convert src dst _ => match P.underlying src, P.underlying dst with
    | some (.int _), some (.int _) | some .string, some .string | some (.int _), some .string => .pure
    | _, _ => .eff
  | .call { callee := .builtin .len, .. } => .read
  | .call { callee := .builtin .max, .. } | .call { callee := .builtin .min, .. } => .pure
  | _ => .eff
/-- The common ancestors of each operation, as bits. -/
def ancs (ops : List Oper) : List Nat :=
  ops.foldl (fun acc o => acc ++ [o.after.toList.foldl (fun s e => match Region.binds .any e with | true => s ||| 2 ^ e.on ||| acc.getD e.on 0 | false => s) 0]) []
def touches (ops : List Oper) (o : Oper) : List Nat :=
  (o.op.operands.toList.filterMap fun | .tmp t => some t | _ => none) ++
  (match o.guard with
   | some (g, _) => match ops[g]? with
     | some q => q.dst.toList
     | none => []
   | none => [])
def clash (ops : List Oper) (a b : Oper) : Bool :=
  (match a.dst with | some d => (touches ops b).elem d || b.dst == some d | none => false) || (match b.dst with | some d => (touches ops a).elem d | none => false)
/-- A box of the frame, laid without a guard: it may be laid first. -/
def isLA (O : Orc) (f : FuncId) (o : Oper) : Bool :=
  match o.guard, o.op, o.dst with
  | none, .alloc _, some d => (O.loc f).elem d
  | _, _, _ => false
def kindD (P : Program) (O : Orc) (f : FuncId) (o : Oper) : OK :=
  match isLA O f o with
  | true => .pure
  | false => kindOf P o.op
/-- Every two operations that touch one slot, and every two that act, stand in one order, that of the text. -/
def inOrder (P : Program) (O : Orc) (f : FuncId) (ops : List Oper) (an : List Nat) : Bool :=
  (List.range ops.length).all fun j => (match ops[j]? with
    | some b => b.after.toList.all fun e => !(Region.binds .any e) || Nat.blt e.on j
    | none => false) && (List.range j).all fun i =>
    match ops[i]?, ops[j]? with
    | some a, some b => (an.getD j 0).testBit i || !(clash ops a b || (match kindD P O f a, kindD P O f b with | .eff, .eff => true | _, _ => false))
    | _, _ => false
/-- An operation in a region that draws: boxes of the frame lie there already. -/
def opD (C : Ctx) (fr : Fr) (S : St) (o : Oper) (k : Slot → St → Option α) : Option α :=
  match isLA C.O C.f o with
  | true => (match o.dst with
    | some d => k (.loc d 0) S
    | none => none)
  | false => opC C fr S o k
def hoistC (C : Ctx) (k : St → Option α) : List Oper → St → Option α
  | [], S => k S
  | o :: r, S => match isLA C.O C.f o with
    | true => opC C [] S o fun _ S' => hoistC C k r S'
    | false => hoistC C k r S
/-- Where an operation reads or acts: a box of the frame, or the heap. -/
def tagOf (C : Ctx) (fr : Fr) (o : Oper) : Option Nat :=
  match o.op with
  | .load _ a | .store _ a _ => match ev C.P.globals.size fr a with
    | .loc d _ => some d
    | _ => none
  | .alloc _ | .box _ _ => match o.dst with
    | some d => match (C.O.loc C.f).elem d with
      | true => some d
      | false => none
    | none => none
  | .range _ _ => o.dst
  | .next it _ => match ev C.P.globals.size fr it with
    | .loc d _ => some d
    | _ => none
  | _ => none
noncomputable def lenAgain (q : LenK) (x : Value) (H : Hp) (v : Value) (k : Option α) : Option α := chk (lenV q x H = some v) k
/-- The same reading, in another state. -/
noncomputable def again (C : Ctx) (fr : Fr) (S : St) (o : Oper) (s : Slot) (k : Option α) : Option α :=
  let G := C.P.globals.size
  match s with
  | .val v => match o.op with
    | .load T a => tyC C.P T fun n agg => match ev G fr a with
      | .loc d off => match S.bx d with
        | some (.cells cs _) => chk (rdCells cs off n agg = some v) k
        | _ => none
      | .val p => chk (S.hp.rdP p n agg = some v) k
      | _ => none
    | .lookup T m key ok => sV (ev G fr m) fun m => sV (ev G fr key) fun key => mapC C.P T fun kt z =>
        chk (pLook C.P kt z m key ok S.hp some = some v) k
    | .call c => evs G fr c.args.toList fun vs => match vs, c.argTypes.toList with
      | [x], [t] => match C.P.underlying t with
        | some d => match lenK d with
          | some q => lenAgain q x S.hp v k
          | none => none
        | none => none
      | _, _ => none
    | _ => none
  | _ => none
structure Rd where
  i : Nat
  o : Oper
  fr : Fr
  s : Slot
  tag : Option Nat
def sameTag (a b : Option Nat) : Bool :=
  match a, b with
  | none, none => true
  | some x, some y => Nat.beq x y
  | _, _ => false
noncomputable def chkBack (C : Ctx) (an i : Nat) (o : Oper) (fr : Fr) (s : Slot) (tag : Option Nat) (k : Option α) : List (Nat × Option Nat × St) → Option α
  | [] => k
  | (j, t, S) :: r => match an.testBit j || !(sameTag t tag) with
    | true => chkBack C an i o fr s tag k r
    | false => again C fr S o s (chkBack C an i o fr s tag k r)
noncomputable def chkFore (C : Ctx) (an : Nat) (tag : Option Nat) (S : St) (k : Option α) : List Rd → Option α
  | [] => k
  | r :: rs => match an.testBit r.i || !(sameTag r.tag tag) with
    | true => chkFore C an tag S k rs
    | false => again C r.fr S r.o r.s (chkFore C an tag S k rs)
noncomputable def drawC (C : Ctx) (ops : List Oper) (an : List Nat) (k : Fr → St → Option α) : List Oper → Nat → Fr → St → List (Nat × Option Nat × St) → List Rd → Option α
  | [], _, fr, S, _, _ => k fr S
  | o :: rest, i, fr, S, es, rs => guardC ops fr o fun w fr => match w with
    | false => drawC C ops an k rest (i + 1) (putS fr o.dst .und) S es rs
    | true => match kindD C.P C.O C.f o with
      | .pure => opD C fr S o fun s S' => drawC C ops an k rest (i + 1) (putS fr o.dst s) S' es rs
      | .read => opD C fr S o fun s S' => chkBack C (an.getD i 0) i o fr s (tagOf C fr o)
          (drawC C ops an k rest (i + 1) (putS fr o.dst s) S' es (rs ++ [⟨i, o, fr, s, tagOf C fr o⟩])) es
      | .eff => opD C fr S o fun s S' => chkFore C (an.getD i 0) (tagOf C fr o) S'
          (drawC C ops an k rest (i + 1) (putS fr o.dst s) S' (es ++ [(i, tagOf C fr o, S)]) rs) rs

noncomputable def drawH (C : Ctx) (ops : List Oper) (k : Fr → St → Option α) (fr : Fr) (S : St) : Option α :=
  hoistC C (fun S => drawC C ops (ancs ops) k ops 0 fr S [] []) ops S

/-! ### Control -/
inductive Ctl where
  | next
  | exit (id : Nat)
  | ret

def rid : Code → Nat
  | .region id _ _ => id
  | .seq a _ => rid a
  | .cond _ a b => match rid a with
    | 0 => rid b
    | n + 1 => n + 1
  | .block _ c => rid c
  | .loop c => rid c
  | .scope c => rid c
  | _ => 0
/-- The slots that code writes. -/
def wr : Code → List Nat → List Nat
  | .region _ ops _, acc => ops.toList.foldr (fun o acc => match o.dst with | some d => d :: acc | none => acc) acc
  | .seq a b, acc => wr a (wr b acc)
  | .cond _ a b, acc => wr a (wr b acc)
  | .block _ c, acc => wr c acc
  | .loop c, acc => wr c acc
  | .scope c, acc => wr c acc
  | _, acc => acc
def boxV (b : Option Bx) (k : Value → Option α) : Option α :=
  match b with
  | some (.cells cs _) => k (.agg cs.toArray)
  | some (.iter s pos) => k (.tuple #[.string s, .int .i64 pos])
  | _ => none
def strOf : Value → ByteArray
  | .tuple vs => match vs.toList with
    | .string s :: _ => s
    | _ => ⟨#[]⟩
  | _ => ⟨#[]⟩
def posOf : Value → Nat
  | .tuple vs => match vs.toList with
    | [_, .int _ n] => n.toNat
    | _ => 0
  | _ => 0
def backBx (b : Option Bx) (v : Value) : Option Bx :=
  match b with
  | some (.iter _ _) => some (.iter (strOf v) (posOf v))
  | some (.cells _ false) => some (.cells (cellsL v) false)
  | b => b
def roBx (b : Option Bx) : Option Bx :=
  match b with
  | some (.cells cs _) => some (.cells cs true)
  | some (.iter s p) => some (.iterRo s p)
  | b => b
def saveB (S : St) : List Nat → (List Value → Option α) → Option α
  | [], k => k []
  | d :: ds, k => boxV (S.bx d) fun v => saveB S ds fun vs => k (v :: vs)
def saveS (fr : Fr) : List Nat → (List Value → Option α) → Option α
  | [], k => k []
  | d :: ds, k => sV (getS fr d) fun v => saveS fr ds fun vs => k (v :: vs)
/-- A frame of the same shape with other values in the slots that are kept; what is written and not kept is not known. -/
def fillS (w keep : List Nat) (l : List Value) : Fr → Nat → Fr
  | [], _ => []
  | s :: r, i => (match keep.idxOf? i with
      | some j => .val (l.getD j undef)
      | none => match w.elem i with
        | true => .unk
        | false => s) :: fillS w keep l r (i + 1)
/-- The boxes that are kept are filled; the others are read alone. -/
def fillB (keep : List Nat) (l : List Value) (bx : Nat → Option Bx) : Nat → Option Bx :=
  fun d => match keep.idxOf? d with
    | some j => backBx (bx d) (l.getD j undef)
    | none => roBx (bx d)
def backB (keep : List Nat) (l : List Value) (bx : Nat → Option Bx) : Nat → Option Bx :=
  fun d => match keep.idxOf? d with
    | some j => backBx (bx d) (l.getD j undef)
    | none => bx d

abbrev Outc := Ctl × List Value × Hp
def saveAll (ks kb : List Nat) (c : Ctl) (fr : Fr) (S : St) : Option Outc :=
  saveS fr ks fun vs => saveB S kb fun bs => some (c, vs ++ bs, S.hp)
def Kout (ks kb : List Nat) : K Outc :=
  { norm := saveAll ks kb .next, exit := fun id => saveAll ks kb (.exit id), ret := fun v H => some (.ret, [v], H) }

def iterL (step : List Value → Hp → Option Outc) : Nat → List Value → Hp → Option Outc
  | 0, _, _ => none
  | n + 1, l, H => match step l H with
    | some (.next, l', H') => iterL step n l' H'
    | r => r
open Classical in
noncomputable def loopD (step : List Value → Hp → Option Outc) (l : List Value) (H : Hp) : Option Outc :=
  if h : ∃ r n, iterL step n l H = some r then some h.choose else none
def onCtl (c : Ctl) (nx : Option α) (ex : Nat → Option α) (rt : Option α) : Option α :=
  match c with
  | .next => nx
  | .exit id => ex id
  | .ret => rt
def onExit (j id : Nat) (x y : Option α) : Option α := match Nat.beq j id with | true => x | false => y
def roB (keep : List Nat) (bx : Nat → Option Bx) : Nat → Option Bx :=
  fun d => match keep.elem d with
    | true => bx d
    | false => roBx (bx d)
def bindO (x : Option Outc) (k : Ctl → List Value → Hp → Option α) : Option α :=
  match x with
  | some (c, l, H) => k c l H
  | none => none

/-! ### Results, and code -/
def resC (P : Program) (fr : Fr) (S : St) : List ResultVar → (List Value → Option α) → Option α
  | [], k => k []
  | .tmp t :: r, k => sV (getS fr t) fun v => resC P fr S r fun vs => k (v :: vs)
  | .cell t T :: r, k => tyC P T fun n agg => match getS fr t with
    | .loc d off => match S.bx d with
      | some (.cells cs _) => pCell n agg cs off fun v => resC P fr S r fun vs => k (v :: vs)
      | _ => none
    | .val p => pLoad n agg S.hp p fun v => resC P fr S r fun vs => k (v :: vs)
    | _ => none
def resV : List Value → Value
  | [v] => v
  | vs => .tuple vs.toArray
end

noncomputable def exec (C : Ctx) (rs : List ResultVar) : Code → (α : Type) → Fr → St → K α → Option α
  | .skip, _, fr, S, k => k.norm fr S
  | .region _ ops draw, _, fr, S, k => match draw with
    | false => opsC C ops.toList k.norm ops.toList fr S
    | true => match inOrder C.P C.O C.f ops.toList (ancs ops.toList) with
      | true => drawH C ops.toList k.norm fr S
      | false => none
  | .seq a b, α, fr, S, k => match C.O.join C.f (rid b) with
    | none => exec C rs a α fr S { k with norm := fun fr S => exec C rs b α fr S k }
    | some (ks, kb) => bindO (exec C rs a Outc fr ⟨roB kb S.bx, S.hp⟩ (Kout ks kb)) fun c l H => onCtl c
      (exec C rs b α (fillS (wr a []) ks l fr 0) ⟨backB kb (l.drop ks.length) S.bx, H⟩ k)
      (fun id => k.exit id (fillS (wr a []) ks l fr 0) ⟨backB kb (l.drop ks.length) S.bx, H⟩)
      (k.ret (l.headD undef) H)
  | .cond c x y, α, fr, S, k => sV (ev C.P.globals.size fr c) fun v => pBool v fun t => br t (exec C rs x α fr S k) (exec C rs y α fr S k)
  | .block id c, α, fr, S, k => exec C rs c α fr S { k with exit := fun j fr S => onExit j id (k.norm fr S) (k.exit j fr S) }
  | .loop c, _, fr, S, k => match C.O.loop C.f (rid c) with
    | (ks, kb) => saveS fr ks fun vs => saveB S kb fun bs =>
      bindO (loopD (fun l H => exec C rs c Outc (fillS (wr c []) ks l fr 0) ⟨fillB kb (l.drop ks.length) S.bx, H⟩ (Kout ks kb)) (vs ++ bs) S.hp) fun c' l H => onCtl c' none
      (fun id => k.exit id (fillS (wr c []) ks l fr 0) ⟨backB kb (l.drop ks.length) S.bx, H⟩)
      (k.ret (l.headD undef) H)
  | .exit id, _, fr, S, k => k.exit id fr S
  | .ret, _, fr, S, k => resC C.P fr S rs fun vs => k.ret (resV vs) S.hp
  | _, _, _, _, _ => none

def Kfun (P : Program) (rs : List ResultVar) : K (Value × Hp) :=
  { norm := fun fr S => resC P fr S rs fun vs => some (resV vs, S.hp), exit := fun _ _ _ => none, ret := fun v H => some (v, H) }
noncomputable def callF (P : Program) (O : Orc) (ext : FuncId → Option (List Value → Hp → Option (Value × Hp))) (h : Handler) : Handler := fun f args H =>
  match P.funcs[f]? with
  | none => none
  | some fn => match fn.name == "runtime.NumGoroutine" with
    | true => none
    | false => match fn.body with
      | none => match O.xt f with
        | some e => (match e args with
          | some v => some (v, H)
          | none => none)
        | none => none
      | some c => match ext f with
        | some e => e args H
        | none => exec ⟨P, O, h, f⟩ fn.results.toList c _ (args.map .val ++ List.replicate (fn.ntmps - args.length) .unk) ⟨fun _ => none, H⟩ (Kfun P fn.results.toList)
noncomputable def runN (P : Program) (O : Orc) (ext : FuncId → Option (List Value → Hp → Option (Value × Hp))) : Nat → Handler
  | 0 => fun _ _ _ => none
  | n + 1 => callF P O ext (runN P O ext n)
open Classical in
noncomputable def run (P : Program) (O : Orc) (ext : FuncId → Option (List Value → Hp → Option (Value × Hp))) : Handler := fun f args H =>
  if h : ∃ r n, runN P O ext n f args H = some r then some h.choose else none
end Go.AM
namespace Go.AM
noncomputable def execF (P : Program) (O : Orc) (h : Handler) (f : FuncId) (fn : Func) (args : List Value) (H : Hp) : Option (Value × Hp) :=
  exec ⟨P, O, h, f⟩ fn.results.toList (fn.body.getD .skip) _ (args.map .val ++ List.replicate (fn.ntmps - args.length) .unk) ⟨fun _ => none, H⟩ (Kfun P fn.results.toList)
/-- A table by numbers. -/
def look {β : Type} (d : β) : List (Nat × β) → Nat → β
  | [], _ => d
  | (i, b) :: r, j => match Nat.beq i j with
    | true => b
    | false => look d r j
def mkOrc (l : List (Nat × List Nat)) (j : List (Nat × List (Nat × Option (List Nat × List Nat)))) (p : List (Nat × List (Nat × List Nat × List Nat))) : Orc :=
  { loc := look [] l, join := fun f => look none (look [] j f), loop := fun f => look ([], []) (look [] p f) }
end Go.AM
/- The abstract machine: operations as functions of what they read. -/
set_option linter.unusedVariables false
namespace Go.AM
open Go

section
variable {α γ : Type} {K : γ → Option α}

theorem sV_nat {s : Slot} {f : Value → Option α} {g : Value → Option γ} (h : ∀ v, f v = (g v).bind K) : sV s f = (sV s g).bind K := by cases s <;> first | exact h _ | rfl
theorem evs_nat {G : Nat} {fr : Fr} : ∀ (xs : List Operand) {f : List Value → Option α} {g : List Value → Option γ}, (∀ v, f v = (g v).bind K) → evs G fr xs f = (evs G fr xs g).bind K
  | [], f, g, h => h []
  | x :: xs, f, g, h => sV_nat fun v => evs_nat xs fun vs => h (v :: vs)
theorem optV_nat {G : Nat} {fr : Fr} {x : Option Operand} {f : Option Value → Option α} {g : Option Value → Option γ} (h : ∀ v, f v = (g v).bind K) : optV G fr x f = (optV G fr x g).bind K := by
  cases x with
  | none => exact h _
  | some x => exact sV_nat fun v => h _
theorem pBool_nat {v : Value} {f : Bool → Option α} {g : Bool → Option γ} (h : ∀ v, f v = (g v).bind K) : pBool v f = (pBool v g).bind K := by cases v <;> first | exact h _ | rfl
theorem pLoad_nat {n : Nat} {a : Bool} {H : Hp} {p : Value} {f : Value → Option α} {g : Value → Option γ} (h : ∀ v, f v = (g v).bind K) : pLoad n a H p f = (pLoad n a H p g).bind K := by
  unfold pLoad; cases (H.rdP p n a) <;> first | exact h _ | rfl
theorem pCell_nat {n : Nat} {a : Bool} {cs : List Value} {o : Nat} {f : Value → Option α} {g : Value → Option γ} (h : ∀ v, f v = (g v).bind K) : pCell n a cs o f = (pCell n a cs o g).bind K := by
  unfold pCell; cases (rdCells cs o n a) <;> first | exact h _ | rfl
theorem pBuild_nat {P : Program} {t : TypeId} {l : List (Nat × Value)} {f : Value → Option α} {g : Value → Option γ} (h : ∀ v, f v = (g v).bind K) : pBuild P t l f = (pBuild P t l g).bind K := by
  unfold pBuild; cases (buildV P t l) <;> first | exact h _ | rfl
theorem pSliceS_nat {x : Value} {lo hi : Option Value} {f : Value → Option α} {g : Value → Option γ} (h : ∀ v, f v = (g v).bind K) : pSliceS x lo hi f = (pSliceS x lo hi g).bind K := by
  unfold pSliceS; cases (sliceS x lo hi) <;> first | exact h _ | rfl
theorem pSlice_nat {n : Nat} {x : Value} {lo hi : Option Value} {f : Value → Option α} {g : Value → Option γ} (h : ∀ v, f v = (g v).bind K) : pSlice n x lo hi f = (pSlice n x lo hi g).bind K := by
  unfold pSlice; cases (sliceV n x lo hi) <;> first | exact h _ | rfl
theorem pIdx_nat {n : Nat} {x i : Value} {f : Value → Option α} {g : Value → Option γ} (h : ∀ v, f v = (g v).bind K) : pIdx n x i f = (pIdx n x i g).bind K := by
  unfold pIdx; cases (idxV n x i) <;> first | exact h _ | rfl
theorem pExtract_nat {t : Value} {i : Nat} {f : Value → Option α} {g : Value → Option γ} (h : ∀ v, f v = (g v).bind K) : pExtract t i f = (pExtract t i g).bind K := by
  unfold pExtract; cases (extractV t i) <;> first | exact h _ | rfl
theorem pBin_nat {P : Program} {op : BinOp} {T : TypeId} {x y : Value} {f : Value → Option α} {g : Value → Option γ} (h : ∀ v, f v = (g v).bind K) : pBin P op T x y f = (pBin P op T x y g).bind K := by
  unfold pBin; cases (binV P op T x y) <;> first | exact h _ | rfl
theorem pUn_nat {op : UnOp} {x : Value} {f : Value → Option α} {g : Value → Option γ} (h : ∀ v, f v = (g v).bind K) : pUn op x f = (pUn op x g).bind K := by
  unfold pUn; cases (unV op x) <;> first | exact h _ | rfl
theorem pConvInt_nat {kd : IntKind} {x : Value} {f : Value → Option α} {g : Value → Option γ} (h : ∀ v, f v = (g v).bind K) : pConvInt kd x f = (pConvInt kd x g).bind K := by
  unfold pConvInt; cases (convIntV kd x) <;> first | exact h _ | rfl
theorem pLen_nat {q : LenK} {x : Value} {H : Hp} {f : Value → Option α} {g : Value → Option γ} (h : ∀ v, f v = (g v).bind K) : pLen q x H f = (pLen q x H g).bind K := by
  unfold pLen; cases (lenV q x H) <;> first | exact h _ | rfl
theorem pToStr_nat {x : Value} {H : Hp} {f : Value → Option α} {g : Value → Option γ} (h : ∀ v, f v = (g v).bind K) : pToStr x H f = (pToStr x H g).bind K := by
  unfold pToStr; cases (toStrV x H) <;> first | exact h _ | rfl
theorem pStore_nat {n : Nat} {H : Hp} {p v : Value} {f : Hp → Option α} {g : Hp → Option γ} (h : ∀ v, f v = (g v).bind K) : pStore n H p v f = (pStore n H p v g).bind K := by
  unfold pStore; cases (H.wr p n v) <;> first | exact h _ | rfl
theorem pUpd_nat {P : Program} {kt : TypeId} {m key v : Value} {H : Hp} {f : Hp → Option α} {g : Hp → Option γ} (h : ∀ v, f v = (g v).bind K) : pUpd P kt m key v H f = (pUpd P kt m key v H g).bind K := by
  unfold pUpd; cases (updV P kt m key v H) <;> first | exact h _ | rfl
theorem pDel_nat {P : Program} {kt : TypeId} {m key : Value} {H : Hp} {f : Hp → Option α} {g : Hp → Option γ} (h : ∀ v, f v = (g v).bind K) : pDel P kt m key H f = (pDel P kt m key H g).bind K := by
  unfold pDel; cases (delV P kt m key H) <;> first | exact h _ | rfl
theorem pSplice_nat {n : Nat} {cs : List Value} {o : Nat} {v : Value} {f : List Value → Option α} {g : List Value → Option γ} (h : ∀ v, f v = (g v).bind K) : pSplice n cs o v f = (pSplice n cs o v g).bind K := by
  unfold pSplice; cases (wrCells n cs o v) <;> first | exact h _ | rfl
theorem pBuildSlice_nat {n : Nat} {zs : List Value} {len : Nat} {l : List (Nat × Value)} {H : Hp} {f : Value → Hp → Option α} {g : Value → Hp → Option γ} (h : ∀ v u, f v u = (g v u).bind K) : pBuildSlice n zs len l H f = (pBuildSlice n zs len l H g).bind K := by
  unfold pBuildSlice; rcases (buildSliceV n zs len l H) with _ | ⟨v, u⟩
  · rfl
  · exact h _ _
theorem pMakeSlice_nat {n m : Nat} {zs : List Value} {l c : Value} {H : Hp} {f : Value → Hp → Option α} {g : Value → Hp → Option γ} (h : ∀ v u, f v u = (g v u).bind K) : pMakeSlice n m zs l c H f = (pMakeSlice n m zs l c H g).bind K := by
  unfold pMakeSlice; rcases (makeSliceV n m zs l c H) with _ | ⟨v, u⟩
  · rfl
  · exact h _ _
theorem pAppend_nat {n m : Nat} {s x : Value} {H : Hp} {f : Value → Hp → Option α} {g : Value → Hp → Option γ} (h : ∀ v u, f v u = (g v u).bind K) : pAppend n m s x H f = (pAppend n m s x H g).bind K := by
  unfold pAppend; rcases (appendV n m s x H) with _ | ⟨v, u⟩
  · rfl
  · exact h _ _
theorem pAppendT_nat {e : TypeId} {n m : Nat} {s x : Value} {H : Hp} {f : Value → Hp → Option α} {g : Value → Hp → Option γ} (h : ∀ v u, f v u = (g v u).bind K) : pAppendT e n m s x H f = (pAppendT e n m s x H g).bind K := by
  unfold pAppendT; rcases (appendV n m s x H) with _ | ⟨v, u⟩
  · rfl
  · exact h _ _
theorem pAppendG_nat {e : Option TypeId} {n m : Nat} {s x : Value} {H : Hp} {f : Value → Hp → Option α} {g : Value → Hp → Option γ} (h : ∀ v u, f v u = (g v u).bind K) : pAppendG e n m s x H f = (pAppendG e n m s x H g).bind K := by
  cases e with
  | none => exact pAppend_nat h
  | some e => exact pAppendT_nat h
theorem pCopy_nat {n : Nat} {s x : Value} {H : Hp} {f : Value → Hp → Option α} {g : Value → Hp → Option γ} (h : ∀ v u, f v u = (g v u).bind K) : pCopy n s x H f = (pCopy n s x H g).bind K := by
  unfold pCopy; rcases (copyV n s x H) with _ | ⟨v, u⟩
  · rfl
  · exact h _ _
theorem tyC_nat {P : Program} {T : TypeId} {f : Nat → Bool → Option α} {g : Nat → Bool → Option γ} (h : ∀ v u, f v u = (g v u).bind K) : tyC P T f = (tyC P T g).bind K := by
  unfold tyC; cases P.info? T with
  | none => rfl
  | some i => cases P.underlying T with
    | none => rfl
    | some d => exact h _ _
theorem zeroC_nat {P : Program} {T : TypeId} {f : Value → Option α} {g : Value → Option γ} (h : ∀ v, f v = (g v).bind K) : zeroC P T f = (zeroC P T g).bind K := by
  unfold zeroC; rcases P.info? T with _ | i
  · rfl
  · dsimp only
    rcases i.zero with _ | z
    · rfl
    · dsimp only
      cases constOk z with
      | true => exact h _
      | false => rfl
theorem sliceC_nat {P : Program} {T : TypeId} {f : Nat → Nat → List Value → Option α} {g : Nat → Nat → List Value → Option γ} (h : ∀ v u l, f v u l = (g v u l).bind K) : sliceC P T f = (sliceC P T g).bind K := by
  unfold sliceC; rcases P.underlying T with _ | d
  · rfl
  · cases d <;> first | rfl | skip
    rename_i e
    dsimp only
    cases P.info? e with
    | none => rfl
    | some i => exact zeroC_nat fun z => by split; · rfl
                                            · exact h _ _ _
theorem mapC_nat {P : Program} {T : TypeId} {f : TypeId → Value → Option α} {g : TypeId → Value → Option γ} (h : ∀ v u, f v u = (g v u).bind K) : mapC P T f = (mapC P T g).bind K := by
  unfold mapC; rcases P.underlying T with _ | d
  · rfl
  · cases d <;> first | rfl | skip
    rename_i kt et
    dsimp only
    cases keyOk P 20 kt with
    | true => exact zeroC_nat fun z => h _ _
    | false => rfl
theorem pNil_nat {v : Value} {f : Option α} {g : Option γ} (h : f = g.bind K) : pNil v f = (pNil v g).bind K := by
  unfold pNil; split <;> first | exact h | rfl
theorem pOffs_nat {n : Nat} {v : Value} {f : Value → Option α} {g : Value → Option γ} (h : ∀ v, f v = (g v).bind K) : pOffs n v f = (pOffs n v g).bind K := by
  unfold pOffs; split <;> first | exact h _ | rfl
theorem pRune_nat {v : Value} {f : Value → Option α} {g : Value → Option γ} (h : ∀ v, f v = (g v).bind K) : pRune v f = (pRune v g).bind K := by
  unfold pRune; split <;> first | exact h _ | rfl
theorem pStr_nat {v : Value} {f : Value → Option α} {g : Value → Option γ} (h : ∀ v, f v = (g v).bind K) : pStr v f = (pStr v g).bind K := by
  unfold pStr; split <;> first | exact h _ | rfl
theorem pStrC_nat {v : Value} {f : ByteArray → Option α} {g : ByteArray → Option γ} (h : ∀ v, f v = (g v).bind K) : pStrC v f = (pStrC v g).bind K := by
  unfold pStrC; split <;> first | exact h _ | rfl
theorem pPart_nat {a : Bool} {n o : Nat} {v : Value} {f : Value → Option α} {g : Value → Option γ} (h : ∀ v, f v = (g v).bind K) : pPart a n o v f = (pPart a n o v g).bind K := by
  unfold pPart; split
  · rename_i cs; cases partC a n cs.toList o <;> first | exact h _ | rfl
  · rfl
theorem pIdxArr_nat {n o : Nat} {v i : Value} {f : Value → Option α} {g : Value → Option γ} (h : ∀ v, f v = (g v).bind K) : pIdxArr n o v i f = (pIdxArr n o v i g).bind K := by
  unfold pIdxArr; split
  · split; · exact h _
    · rfl
  · rfl
theorem pIdxLoc_nat {n : Nat} {i : Value} {f : Nat → Option α} {g : Nat → Option γ} (h : ∀ v, f v = (g v).bind K) : pIdxLoc n i f = (pIdxLoc n i g).bind K := by
  unfold pIdxLoc; split
  · split; · exact h _
    · rfl
  · rfl
theorem pAtStr_nat {v i : Value} {f : Value → Option α} {g : Value → Option γ} (h : ∀ v, f v = (g v).bind K) : pAtStr v i f = (pAtStr v i g).bind K := by
  unfold pAtStr; split
  · rename_i s kd j; cases atStr s j <;> first | exact h _ | rfl
  · rfl
theorem pAtArr_nat {len n : Nat} {a : Bool} {v i : Value} {f : Value → Option α} {g : Value → Option γ} (h : ∀ v, f v = (g v).bind K) : pAtArr len a n v i f = (pAtArr len a n v i g).bind K := by
  unfold pAtArr; split
  · split; · exact pPart_nat h
    · rfl
  · rfl
theorem pLook_nat {P : Program} {kt : TypeId} {z m key : Value} {ok : Bool} {H : Hp} {f : Value → Option α} {g : Value → Option γ} (h : ∀ v, f v = (g v).bind K) : pLook P kt z m key ok H f = (pLook P kt z m key ok H g).bind K := by
  unfold pLook
  generalize lookV P kt z m key H = q
  rcases q with _ | ⟨v, b⟩
  · rfl
  · cases ok <;> exact h _
theorem pToBytes_nat {x : Value} {H : Hp} {f : Value → Hp → Option α} {g : Value → Hp → Option γ} (h : ∀ v u, f v u = (g v u).bind K) : pToBytes x H f = (pToBytes x H g).bind K := by
  unfold pToBytes; split
  · split; · exact h _ _
    · rfl
  · rfl
theorem br_nat {b : Bool} {f f' : Option α} {g g' : Option γ} (h : f = g.bind K) (h' : f' = g'.bind K) : br b f f' = (br b g g').bind K := by cases b <;> assumption
theorem pAllocG_nat {b : Bool} {T : TypeId} {cs : List Value} {H : Hp} {f : Value → Hp → Option α} {g : Value → Hp → Option γ} (h : ∀ v u, f v u = (g v u).bind K) : pAllocG b T cs H f = (pAllocG b T cs H g).bind K := by
  cases b <;> exact h _ _
theorem newBox_nat {C : Ctx} {S : St} {d : Option Nat} {T : TypeId} {cs : List Value} {f : Slot → St → Option α} {g : Slot → St → Option γ} (h : ∀ v u, f v u = (g v u).bind K) : newBox C S d T cs f = (newBox C S d T cs g).bind K := by
  unfold newBox; split
  · split
    · split
      · rfl
      · exact h _ _
    · exact pAllocG_nat fun _ _ => h _ _
  · rfl
theorem pMM_nat {b : Bool} {l : List Value} {f : Value → Option α} {g : Value → Option γ} (h : ∀ v, f v = (g v).bind K) : pMM b l f = (pMM b l g).bind K := by
  unfold pMM; split
  · rfl
  · rename_i x r; cases mmL b x r <;> first | exact h _ | rfl
theorem pCall_nat {h' : Handler} {fv : Value} {vs : List Value} {H : Hp} {f : Value → Hp → Option α} {g : Value → Hp → Option γ} (h : ∀ v u, f v u = (g v u).bind K) : pCall h' fv vs H f = (pCall h' fv vs H g).bind K := by
  unfold pCall; split
  · rename_i g' first captured
    unfold pCallF
    generalize h' g' (first.toList ++ (vs ++ captured.toList)) H = q
    rcases q with _ | ⟨v, u⟩
    · rfl
    · exact h _ _
  · rfl
end
end Go.AM
/- The abstract machine: operations as functions of what they read, II. -/
set_option linter.unusedVariables false
namespace Go.AM
open Go

section
variable {α : Type}

def opR (C : Ctx) (fr : Fr) (S : St) (o : Oper) : Option (Slot × St) := opC C fr S o fun s S' => some (s, S')

theorem convert_nat {γ : Type} {K : γ → Option α} {C : Ctx} {src dst : TypeId} {x : Value} {H : Hp} {f : Value → Option α} {g : Value → Option γ} {f2 : Value → Hp → Option α} {g2 : Value → Hp → Option γ} (h : ∀ v, f v = (g v).bind K) (h2 : ∀ v u, f2 v u = (g2 v u).bind K) :
    (match C.P.underlying src, C.P.underlying dst with
      | some (.int _), some (.int kd) => pConvInt kd x f
      | some .string, some .string => pStr x f
      | some (.int _), some .string => pRune x f
      | some .string, some (.slice e) => match C.P.underlying e with
        | some (.int .u8) => pToBytes x H f2
        | _ => none
      | some (.slice e), some .string => match C.P.underlying e with
        | some (.int .u8) => pToStr x H f
        | _ => none
      | _, _ => none) =
    (match C.P.underlying src, C.P.underlying dst with
      | some (.int _), some (.int kd) => pConvInt kd x g
      | some .string, some .string => pStr x g
      | some (.int _), some .string => pRune x g
      | some .string, some (.slice e) => match C.P.underlying e with
        | some (.int .u8) => pToBytes x H g2
        | _ => none
      | some (.slice e), some .string => match C.P.underlying e with
        | some (.int .u8) => pToStr x H g
        | _ => none
      | _, _ => none).bind K := by
  rcases C.P.underlying src with _ | d
  · rfl
  · rcases C.P.underlying dst with _ | d'
    · cases d <;> rfl
    · cases d <;> cases d' <;> first | rfl | exact pConvInt_nat h | exact pStr_nat h | exact pRune_nat h | skip
      · rename_i e
        dsimp only
        rcases C.P.underlying e with _ | d
        · rfl
        · cases d <;> first | rfl | skip
          rename_i kd
          cases kd <;> first | rfl | exact pToBytes_nat h2
      · rename_i e
        dsimp only
        rcases C.P.underlying e with _ | d
        · rfl
        · cases d <;> first | rfl | skip
          rename_i kd
          cases kd <;> first | rfl | exact pToStr_nat h

theorem opC_nat (C : Ctx) (fr : Fr) (S : St) (o : Oper) (k : Slot → St → Option α) : opC C fr S o k = (opR C fr S o).bind fun p => k p.1 p.2 := by
  unfold opR opC
  dsimp only
  cases o.op <;> (try dsimp only) <;> first | rfl | skip
  case pick c a b =>
    refine sV_nat fun c => pBool_nat fun t => ?_
    cases ev C.P.globals.size fr a <;> cases ev C.P.globals.size fr b <;> cases t <;> rfl
  case alloc T =>
    refine zeroC_nat fun z => ?_
    cases (cellsL z).all one with
    | true => exact newBox_nat fun _ _ => rfl
    | false => rfl
  case box T x => exact sV_nat fun v => newBox_nat fun _ _ => rfl
  case build T p => exact evs_nat _ fun v => pBuild_nat fun _ => rfl
  case buildSlice T n p => exact evs_nat _ fun v => sliceC_nat fun _ _ _ => pBuildSlice_nat fun _ _ => rfl
  case insert T m key x => exact sV_nat fun m => sV_nat fun key => sV_nat fun x => mapC_nat fun _ _ => pUpd_nat fun _ => rfl
  case mapUpdate T m key x => exact sV_nat fun m => sV_nat fun key => sV_nat fun x => mapC_nat fun _ _ => pUpd_nat fun _ => rfl
  case load T a =>
    refine tyC_nat fun n agg => ?_
    cases ev C.P.globals.size fr a with
    | loc d off =>
      dsimp only
      rcases S.bx d with _ | b
      · rfl
      · cases b with
        | cells cs ro => exact pCell_nat fun _ => rfl
        | _ => rfl
    | val p => exact pLoad_nat fun _ => rfl
    | _ => rfl
  case store T a x =>
    refine sV_nat fun v => tyC_nat fun n agg => ?_
    cases ev C.P.globals.size fr a with
    | loc d off =>
      dsimp only
      rcases S.bx d with _ | b
      · rfl
      · cases b with
        | cells cs ro => cases ro <;> first | rfl | exact pSplice_nat fun _ => rfl
        | _ => rfl
    | val p => exact pStore_nat fun _ => rfl
    | _ => rfl
  case nilCheck x =>
    cases ev C.P.globals.size fr x with
    | val p => exact pNil_nat rfl
    | _ => rfl
  case binOp op T x y T' => exact sV_nat fun x => sV_nat fun y => pBin_nat fun _ => rfl
  case unOp op T x => exact sV_nat fun x => pUn_nat fun _ => rfl
  case convert src dst x => exact sV_nat fun x => convert_nat (fun _ => rfl) (fun _ _ => rfl)
  case makeFunc fn first captured => exact evs_nat _ fun fs => evs_nat _ fun cs => rfl
  case makeMap T x => cases x <;> rfl
  case makeSlice T l c => exact sV_nat fun l => sV_nat fun c => sliceC_nat fun _ _ _ => pMakeSlice_nat fun _ _ => rfl
  case slice T x lo hi mx =>
    cases mx with
    | some m => rfl
    | none =>
      dsimp only
      refine sV_nat fun x => optV_nat fun lo => optV_nat fun hi => ?_
      rcases C.P.underlying T with _ | d
      · rfl
      · cases d <;> first | rfl | exact pSliceS_nat fun _ => rfl | skip
        rename_i e
        dsimp only
        rcases C.P.info? e with _ | i
        · rfl
        · exact pSlice_nat fun _ => rfl
  case fieldAddr T x f =>
    rcases C.P.underlying T with _ | d
    · rfl
    · cases d <;> first | rfl | skip
      rename_i fs
      dsimp only
      rcases fs.toList[f]? with _ | fd
      · rfl
      · dsimp only
        rcases C.P.info? fd.type with _ | i
        · rfl
        · dsimp only
          cases Nat.beq i.size 0
          · dsimp only
            cases ev C.P.globals.size fr x with
            | val p => exact pOffs_nat fun _ => rfl
            | _ => rfl
          · rfl
  case field T x f =>
    refine sV_nat fun x => ?_
    rcases C.P.underlying T with _ | d
    · rfl
    · cases d <;> first | rfl | skip
      rename_i fs
      dsimp only
      rcases fs.toList[f]? with _ | fd
      · rfl
      · exact tyC_nat fun n agg => pPart_nat fun _ => rfl
  case indexAddr T x i =>
    refine sV_nat fun i => ?_
    rcases C.P.underlying T with _ | d
    · rfl
    · cases d <;> first | rfl | skip
      · rename_i e
        dsimp only
        rcases C.P.info? e with _ | ti
        · rfl
        · exact sV_nat fun x => pIdx_nat fun _ => rfl
      · rename_i len e
        dsimp only
        rcases C.P.info? e with _ | ti
        · rfl
        · dsimp only
          cases ev C.P.globals.size fr x with
          | loc d off => exact pIdxLoc_nat fun _ => rfl
          | val p => exact pIdxArr_nat fun _ => rfl
          | _ => rfl
  case index T x i =>
    refine sV_nat fun x => sV_nat fun i => ?_
    rcases C.P.underlying T with _ | d
    · rfl
    · cases d <;> first | rfl | exact pAtStr_nat fun _ => rfl | exact tyC_nat fun _ _ => pAtArr_nat fun _ => rfl
  case lookup T m key ok => exact sV_nat fun m => sV_nat fun key => mapC_nat fun kt z => pLook_nat fun _ => rfl
  case range T x =>
    refine sV_nat fun x => ?_
    rcases C.P.underlying T with _ | d
    · rfl
    · cases d <;> first | rfl | skip
      rcases o.dst with _ | d
      · rfl
      · dsimp only
        rcases S.bx d with _ | b
        · exact pStrC_nat fun _ => rfl
        · rfl
  case next it b =>
    cases b with
    | false => rfl
    | true =>
      dsimp only
      cases ev C.P.globals.size fr it with
      | loc d off =>
        cases off with
        | zero =>
          show (match S.bx d with
            | some (.iter s pos) => br (Nat.blt pos s.size) (k (Slot.val (.tuple #[.bool true, .int .i64 pos, .int .i32 (Utf8.decode s pos).1])) (S.setB d (some (.iter s (pos + (Utf8.decode s pos).2))))) (k (Slot.val (.tuple #[.bool false])) S)
            | _ => none) = Option.bind (match S.bx d with
            | some (.iter s pos) => br (Nat.blt pos s.size) (some ((Slot.val (.tuple #[.bool true, .int .i64 pos, .int .i32 (Utf8.decode s pos).1])), (S.setB d (some (.iter s (pos + (Utf8.decode s pos).2)))))) (some ((Slot.val (.tuple #[.bool false])), S))
            | _ => none) (fun p => k p.1 p.2)
          rcases S.bx d with _ | b
          · rfl
          · cases b with
            | iter s pos => exact br_nat rfl rfl
            | _ => rfl
        | succ n => rfl
      | _ => rfl
  case extract t i => exact sV_nat fun t => pExtract_nat fun _ => rfl
  case call c =>
    rcases c.callee with fo | ⟨rv, m⟩ | b
    · exact sV_nat fun fv => evs_nat _ fun vs => pCall_nat fun _ _ => rfl
    · rfl
    · refine evs_nat _ fun vs => ?_
      generalize c.argTypes.toList = ts
      cases b <;> (try dsimp only) <;> first | rfl | exact pMM_nat fun _ => rfl | skip
      all_goals
        rcases vs with _ | ⟨x, _ | ⟨y, _ | ⟨z, vs⟩⟩⟩ <;> rcases ts with _ | ⟨t, _ | ⟨u, _ | ⟨t3, ts⟩⟩⟩ <;> (try dsimp only) <;> first | rfl | skip
      · refine sliceC_nat fun sz bytes _ => ?_
        rcases C.P.underlying u with _ | d
        · rfl
        · cases d <;> first | rfl | exact pAppendG_nat fun _ _ => rfl
      · exact sliceC_nat fun sz _ _ => pCopy_nat fun _ _ => rfl
      · exact mapC_nat fun kt _ => pDel_nat fun _ => rfl
      · rcases C.P.underlying t with _ | d
        · rfl
        · dsimp only
          rcases lenK d with _ | q
          · rfl
          · exact pLen_nat fun _ => rfl
end
end Go.AM
/- The abstract machine: operations that do not act. -/
set_option linter.unusedVariables false
namespace Go.AM
open Go

section
variable {α : Type}

/-! ### What does not act -/
theorem opC_pr (C : Ctx) (fr : Fr) (S S2 : St) (o : Oper) (k : Slot → St → Option α) (hp : kindOf C.P o.op = .pure ∨ (kindOf C.P o.op = .read ∧ S2 = S)) :
    opC C fr S o k = (opC C fr S2 o (fun s _ => some s)).bind fun s => k s S := by
  unfold opC
  dsimp only
  generalize hop : o.op = op at hp ⊢
  have ne : ∀ {x : OK}, x = .eff → ¬ (x = .pure ∨ (x = .read ∧ S2 = S)) := by rintro x rfl (h | ⟨h, _⟩) <;> cases h
  cases op <;> (try dsimp only) <;> first | rfl | exact absurd hp (ne rfl) | skip
  case pick c a b =>
    refine sV_nat fun c => pBool_nat fun t => ?_
    cases ev C.P.globals.size fr a <;> cases ev C.P.globals.size fr b <;> cases t <;> rfl
  case build T p => exact evs_nat _ fun v => pBuild_nat fun _ => rfl
  case load T a =>
    have hS : S2 = S := by rcases hp with h | h; · cases h
                           · exact h.2
    subst hS
    refine tyC_nat fun n agg => ?_
    cases ev C.P.globals.size fr a with
    | loc d off =>
      dsimp only
      rcases S2.bx d with _ | b
      · rfl
      · cases b with
        | cells cs ro => exact pCell_nat fun _ => rfl
        | _ => rfl
    | val p => exact pLoad_nat fun _ => rfl
    | _ => rfl
  case nilCheck x =>
    cases ev C.P.globals.size fr x with
    | val p => exact pNil_nat rfl
    | _ => rfl
  case binOp op T x y T' => exact sV_nat fun x => sV_nat fun y => pBin_nat fun _ => rfl
  case unOp op T x => exact sV_nat fun x => pUn_nat fun _ => rfl
  case convert src dst x =>
    refine sV_nat fun x => ?_
    unfold kindOf at hp
    dsimp only at hp
    rcases h1 : C.P.underlying src with _ | d
    · rfl
    · rcases h2 : C.P.underlying dst with _ | d'
      · cases d <;> rfl
      · rw [h1, h2] at hp
        cases d <;> cases d' <;> first | rfl | exact absurd hp (ne rfl) | exact pConvInt_nat (fun _ => rfl) | exact pStr_nat (fun _ => rfl) | exact pRune_nat (fun _ => rfl)
  case makeFunc fn first captured => exact evs_nat _ fun fs => evs_nat _ fun cs => rfl
  case slice T x lo hi mx =>
    cases mx with
    | some m => rfl
    | none =>
      dsimp only
      refine sV_nat fun x => optV_nat fun lo => optV_nat fun hi => ?_
      rcases C.P.underlying T with _ | d
      · rfl
      · cases d <;> first | rfl | exact pSliceS_nat fun _ => rfl | skip
        rename_i e
        dsimp only
        rcases C.P.info? e with _ | i
        · rfl
        · exact pSlice_nat fun _ => rfl
  case fieldAddr T x f =>
    rcases C.P.underlying T with _ | d
    · rfl
    · cases d <;> first | rfl | skip
      rename_i fs
      dsimp only
      rcases fs.toList[f]? with _ | fd
      · rfl
      · dsimp only
        rcases C.P.info? fd.type with _ | i
        · rfl
        · dsimp only
          cases Nat.beq i.size 0
          · dsimp only
            cases ev C.P.globals.size fr x with
            | val p => exact pOffs_nat fun _ => rfl
            | _ => rfl
          · rfl
  case field T x f =>
    refine sV_nat fun x => ?_
    rcases C.P.underlying T with _ | d
    · rfl
    · cases d <;> first | rfl | skip
      rename_i fs
      dsimp only
      rcases fs.toList[f]? with _ | fd
      · rfl
      · exact tyC_nat fun n agg => pPart_nat fun _ => rfl
  case indexAddr T x i =>
    refine sV_nat fun i => ?_
    rcases C.P.underlying T with _ | d
    · rfl
    · cases d <;> first | rfl | skip
      · rename_i e
        dsimp only
        rcases C.P.info? e with _ | ti
        · rfl
        · exact sV_nat fun x => pIdx_nat fun _ => rfl
      · rename_i len e
        dsimp only
        rcases C.P.info? e with _ | ti
        · rfl
        · dsimp only
          cases ev C.P.globals.size fr x with
          | loc d off => exact pIdxLoc_nat fun _ => rfl
          | val p => exact pIdxArr_nat fun _ => rfl
          | _ => rfl
  case index T x i =>
    refine sV_nat fun x => sV_nat fun i => ?_
    rcases C.P.underlying T with _ | d
    · rfl
    · cases d <;> first | rfl | exact pAtStr_nat fun _ => rfl | exact tyC_nat fun _ _ => pAtArr_nat fun _ => rfl
  case lookup T m key ok =>
    have hS : S2 = S := by rcases hp with h | h; · cases h
                           · exact h.2
    subst hS
    exact sV_nat fun m => sV_nat fun key => mapC_nat fun kt z => pLook_nat fun _ => rfl
  case extract t i => exact sV_nat fun t => pExtract_nat fun _ => rfl
  case call c =>
    obtain ⟨callee, args, ats⟩ := c
    rcases callee with fo | ⟨rv, m⟩ | b
    · exact absurd hp (ne rfl)
    · rfl
    · cases b <;> first | exact absurd hp (ne rfl) | skip
      · have hS : S2 = S := by rcases hp with h | h; · cases h
                               · exact h.2
        subst hS
        refine evs_nat _ fun vs => ?_
        generalize ats.toList = ts
        rcases vs with _ | ⟨x, _ | ⟨y, _ | ⟨z, vs⟩⟩⟩ <;> rcases ts with _ | ⟨t, _ | ⟨u, _ | ⟨t3, ts⟩⟩⟩ <;> (try dsimp only) <;> first | rfl | skip
        rcases C.P.underlying t with _ | d
        · rfl
        · dsimp only
          rcases lenK d with _ | q
          · rfl
          · exact pLen_nat fun _ => rfl
      · exact evs_nat _ fun vs => pMM_nat fun _ => rfl
      · exact evs_nat _ fun vs => pMM_nat fun _ => rfl
end
end Go.AM
/- The abstract machine: its run is a limit; the equation of a run; loops. -/
set_option linter.unusedVariables false
namespace Go.AM
open Go

/-- A growing family of answers, and what it comes to. -/
structure Lim {α : Type} (F : Nat → Option α) (x : Option α) : Prop where
  mono : ∀ n r, F n = some r → F (n + 1) = some r
  le : ∀ n r, F n = some r → x = some r
  sup : ∀ r, x = some r → ∃ n, F n = some r
section
variable {α γ : Type}
theorem Lim.const (x : Option α) : Lim (fun _ => x) x := ⟨fun _ _ h => h, fun _ _ h => h, fun _ h => ⟨0, h⟩⟩
theorem Lim.of_eq {F : Nat → Option α} {x : Option α} (h : ∀ n, F n = x) : Lim F x := by
  have : F = fun _ => x := funext h
  rw [this]; exact Lim.const x
theorem Lim.mono' {F : Nat → Option α} {x : Option α} (h : Lim F x) {n m : Nat} (hm : n ≤ m) {r : α} (hr : F n = some r) : F m = some r := by
  induction m with
  | zero => have : n = 0 := by omega
            subst this; exact hr
  | succ m ih =>
    rcases Nat.lt_or_ge m n with q | q
    · have : n = m + 1 := by omega
      subst this; exact hr
    · exact h.mono m r (ih q)
theorem Lim.bind {F : Nat → Option γ} {x : Option γ} (h : Lim F x) {G : Nat → γ → Option α} {g : γ → Option α} (hg : ∀ v, Lim (fun n => G n v) (g v)) : Lim (fun n => (F n).bind (G n)) (x.bind g) := by
  have inv : ∀ {a : Option γ} {f : γ → Option α} {r : α}, a.bind f = some r → ∃ v, a = some v ∧ f v = some r := fun {a f r} h => by
    cases a with
    | none => cases h
    | some v => exact ⟨v, rfl, h⟩
  refine ⟨fun n r hr => ?_, fun n r hr => ?_, fun r hr => ?_⟩
  · obtain ⟨v, h1, h2⟩ := inv hr
    rw [h.mono n v h1]; exact (hg v).mono n r h2
  · obtain ⟨v, h1, h2⟩ := inv hr
    rw [h.le n v h1]; exact (hg v).le n r h2
  · obtain ⟨v, h1, h2⟩ := inv hr
    obtain ⟨n, hn⟩ := h.sup v h1
    obtain ⟨m, hm⟩ := (hg v).sup r h2
    refine ⟨max n m, ?_⟩
    rw [h.mono' (Nat.le_max_left n m) hn]
    exact (hg v).mono' (Nat.le_max_right n m) hm
/-- What passes its way on to one continuation. -/
theorem Lim.nat {p : Option γ} {X : Nat → Option α} {x : Option α} {G : Nat → γ → Option α} {g : γ → Option α} (hX : ∀ n, X n = p.bind (G n)) (hx : x = p.bind g) (hg : ∀ v, Lim (fun n => G n v) (g v)) : Lim X x := by
  have : X = fun n => p.bind (G n) := funext hX
  rw [this, hx]
  exact (Lim.const p).bind hg

def nextD (f : List Value → Hp → Option Outc) (o : Outc) : Option Outc :=
  match o with
  | (.next, l, H) => f l H
  | r => some r
theorem iterL_succ (s : List Value → Hp → Option Outc) (m : Nat) (l : List Value) (H : Hp) : iterL s (m + 1) l H = (s l H).bind (nextD (iterL s m)) := by
  show (match s l H with | some (.next, l', H') => iterL s m l' H' | r => r) = _
  rcases s l H with _ | ⟨c, l', H'⟩
  · rfl
  · cases c <;> rfl
theorem bind_some {α γ : Type} {a : Option γ} {f : γ → Option α} {r : α} (h : a.bind f = some r) : ∃ v, a = some v ∧ f v = some r := by
  cases a with
  | none => cases h
  | some v => exact ⟨v, rfl, h⟩
theorem nextD_imp {f g : List Value → Hp → Option Outc} {o r : Outc} (h : ∀ l H, f l H = some r → g l H = some r) (hr : nextD f o = some r) : nextD g o = some r := by
  obtain ⟨c, l, H⟩ := o
  cases c with
  | next => exact h l H hr
  | _ => exact hr
theorem iterL_add {step : List Value → Hp → Option Outc} : ∀ (n : Nat) {l : List Value} {H : Hp} {r : Outc}, iterL step n l H = some r → iterL step (n + 1) l H = some r
  | 0, l, H, r, h => by cases h
  | n + 1, l, H, r, h => by
    rw [iterL_succ] at h ⊢
    obtain ⟨v, h1, h2⟩ := bind_some h
    rw [h1]
    exact nextD_imp (fun l H => iterL_add n) h2
theorem iterL_le {step : List Value → Hp → Option Outc} {n m : Nat} (hm : n ≤ m) {l : List Value} {H : Hp} {r : Outc} (h : iterL step n l H = some r) : iterL step m l H = some r := by
  induction m with
  | zero => have : n = 0 := by omega
            subst this; exact h
  | succ m ih =>
    rcases Nat.lt_or_ge m n with q | q
    · have : n = m + 1 := by omega
      subst this; exact h
    · exact iterL_add m (ih q)
theorem loopD_iff {step : List Value → Hp → Option Outc} {l : List Value} {H : Hp} {r : Outc} : loopD step l H = some r ↔ ∃ n, iterL step n l H = some r := by
  unfold loopD
  constructor
  · intro h
    split at h
    · rename_i hex
      obtain ⟨n, hn⟩ := hex.choose_spec
      have h : hex.choose = r := by simpa using h
      exact ⟨n, by rw [hn, h]⟩
    · cases h
  · rintro ⟨n, hn⟩
    have hex : ∃ r n, iterL step n l H = some r := ⟨r, n, hn⟩
    rw [dif_pos hex]
    obtain ⟨m, hm⟩ := hex.choose_spec
    have h1 := iterL_le (Nat.le_max_left n m) hn
    have h2 := iterL_le (Nat.le_max_right n m) hm
    rw [h1] at h2
    exact h2.symm
/-- A loop, round by round. -/
theorem loopD_eq (step : List Value → Hp → Option Outc) (l : List Value) (H : Hp) : loopD step l H = (step l H).bind (nextD (loopD step)) := by
  apply Option.ext
  intro r
  rw [loopD_iff]
  constructor
  · rintro ⟨n, hn⟩
    cases n with
    | zero => cases hn
    | succ n =>
      rw [iterL_succ] at hn
      obtain ⟨v, h1, h2⟩ := bind_some hn
      rw [h1]
      exact nextD_imp (fun l H h => loopD_iff.2 ⟨n, h⟩) h2
  · intro h
    obtain ⟨⟨c, l', H'⟩, h1, h2⟩ := bind_some h
    cases c with
    | next =>
      obtain ⟨n, hn⟩ := loopD_iff.1 h2
      exact ⟨n + 1, by rw [iterL_succ, h1]; exact hn⟩
    | _ => exact ⟨1, by rw [iterL_succ, h1]; exact h2⟩
theorem Lim.iter {F : Nat → List Value → Hp → Option Outc} {step : List Value → Hp → Option Outc} (h : ∀ l H, Lim (fun n => F n l H) (step l H)) : ∀ (m : Nat) (l : List Value) (H : Hp), Lim (fun n => iterL (F n) m l H) (iterL step m l H)
  | 0, l, H => Lim.const none
  | m + 1, l, H => by
    have e1 : (fun n => iterL (F n) (m + 1) l H) = fun n => (F n l H).bind (nextD (iterL (F n) m)) := funext fun n => iterL_succ (F n) m l H
    rw [e1, iterL_succ]
    refine (h l H).bind fun o => ?_
    obtain ⟨c, l', H'⟩ := o
    cases c with
    | next => exact Lim.iter h m l' H'
    | _ => exact Lim.const _
theorem Lim.loop {F : Nat → List Value → Hp → Option Outc} {step : List Value → Hp → Option Outc} (h : ∀ l H, Lim (fun n => F n l H) (step l H)) (l : List Value) (H : Hp) : Lim (fun n => loopD (F n) l H) (loopD step l H) := by
  refine ⟨fun n r hr => ?_, fun n r hr => ?_, fun r hr => ?_⟩
  · obtain ⟨m, hm⟩ := loopD_iff.1 hr
    exact loopD_iff.2 ⟨m, (Lim.iter h m l H).mono n r hm⟩
  · obtain ⟨m, hm⟩ := loopD_iff.1 hr
    exact loopD_iff.2 ⟨m, (Lim.iter h m l H).le n r hm⟩
  · obtain ⟨m, hm⟩ := loopD_iff.1 hr
    obtain ⟨n, hn⟩ := (Lim.iter h m l H).sup r hm
    exact ⟨n, loopD_iff.2 ⟨m, hn⟩⟩

/-! ### Handlers -/
structure Chain (P : Program) (O : Orc) (f : FuncId) (hs : Nat → Handler) (h : Handler) : Prop where
  lim : ∀ g a H, Lim (fun n => hs n g a H) (h g a H)

variable {P : Program} {O : Orc} {f : FuncId} {hs : Nat → Handler} {h : Handler}

theorem opR_lim (hc : Chain P O f hs h) (fr : Fr) (S : St) (o : Oper) : Lim (fun n => opR ⟨P, O, hs n, f⟩ fr S o) (opR ⟨P, O, h, f⟩ fr S o) := by
  unfold opR opC
  dsimp only
  cases o.op <;> (try dsimp only) <;> first | exact Lim.of_eq fun n => rfl | skip
  case makeMap t r => cases r <;> exact Lim.of_eq fun n => rfl
  case slice T x lo hi mx => cases mx <;> exact Lim.of_eq fun n => rfl
  case next it b => cases b <;> exact Lim.of_eq fun n => rfl
  rename_i c
  rcases c.callee with fo | ⟨rv, m⟩ | b
  · refine Lim.nat (fun n => sV_nat (g := some) fun v => rfl) (sV_nat (g := some) fun v => rfl) fun fv => ?_
    refine Lim.nat (fun n => evs_nat _ (g := some) fun v => rfl) (evs_nat _ (g := some) fun v => rfl) fun vs => ?_
    have e : ∀ h' : Handler, pCall h' fv vs S.hp (fun v H => some (Slot.val v, (⟨S.bx, H⟩ : St))) = (pCall h' fv vs S.hp fun v H => some (v, H)).bind fun p => some (Slot.val p.1, (⟨S.bx, p.2⟩ : St)) := fun h' => pCall_nat fun _ _ => rfl
    have e1 : (fun n => pCall (hs n) fv vs S.hp (fun v H => some (Slot.val v, (⟨S.bx, H⟩ : St)))) = fun n => (pCall (hs n) fv vs S.hp fun v H => some (v, H)).bind fun p => some (Slot.val p.1, (⟨S.bx, p.2⟩ : St)) := funext fun n => e (hs n)
    show Lim (fun n => pCall (hs n) fv vs S.hp (fun v H => some (Slot.val v, (⟨S.bx, H⟩ : St)))) (pCall h fv vs S.hp (fun v H => some (Slot.val v, (⟨S.bx, H⟩ : St))))
    rw [e1, e h]
    refine Lim.bind ?_ fun v => Lim.const _
    unfold pCall
    split
    · rename_i g first captured
      have e2 : ∀ h' : Handler, pCallF h' g (first.toList ++ (vs ++ captured.toList)) S.hp (fun v H => some (v, H)) = h' g (first.toList ++ (vs ++ captured.toList)) S.hp := fun h' => by
        unfold pCallF
        rcases h' g (first.toList ++ (vs ++ captured.toList)) S.hp with _ | ⟨v, H'⟩ <;> rfl
      simp only [e2]
      exact hc.lim g _ S.hp
    · exact Lim.const _
  · exact Lim.const _
  · exact Lim.const _
theorem opC_lim (hc : Chain P O f hs h) {fr : Fr} {S : St} {o : Oper} {K : Nat → Slot → St → Option α} {k : Slot → St → Option α} (hk : ∀ s S, Lim (fun n => K n s S) (k s S)) : Lim (fun n => opC ⟨P, O, hs n, f⟩ fr S o (K n)) (opC ⟨P, O, h, f⟩ fr S o k) := by
  have e1 : (fun n => opC ⟨P, O, hs n, f⟩ fr S o (K n)) = fun n => (opR ⟨P, O, hs n, f⟩ fr S o).bind fun p => K n p.1 p.2 := funext fun n => opC_nat _ _ _ _ _
  rw [e1, opC_nat]
  exact (opR_lim hc fr S o).bind fun p => hk p.1 p.2

/-! ### Regions, code, functions -/
theorem guardC_nat {α : Type} (ops : List Oper) (fr : Fr) (o : Oper) (k : Bool → Fr → Option α) : guardC ops fr o k = (guardC ops fr o fun b fr => some (b, fr)).bind fun p => k p.1 p.2 := by
  unfold guardC
  split
  · rfl
  · split
    · split
      · split
        · rfl
        · exact sV_nat fun v => pBool_nat fun b => br_nat rfl rfl
      · rfl
    · rfl
theorem guardC_lim {α : Type} {ops : List Oper} {fr : Fr} {o : Oper} {K : Nat → Bool → Fr → Option α} {k : Bool → Fr → Option α} (hk : ∀ b fr, Lim (fun n => K n b fr) (k b fr)) : Lim (fun n => guardC ops fr o (K n)) (guardC ops fr o k) :=
  Lim.nat (fun n => guardC_nat ops fr o (K n)) (guardC_nat ops fr o k) fun p => hk p.1 p.2
theorem opsC_lim {α : Type} (hc : Chain P O f hs h) {ops : List Oper} {K : Nat → Fr → St → Option α} {k : Fr → St → Option α} (hk : ∀ fr S, Lim (fun n => K n fr S) (k fr S)) : ∀ (l : List Oper) (fr : Fr) (S : St), Lim (fun n => opsC ⟨P, O, hs n, f⟩ ops (K n) l fr S) (opsC ⟨P, O, h, f⟩ ops k l fr S)
  | [], fr, S => hk fr S
  | o :: l, fr, S => by
    refine guardC_lim fun b fr => ?_
    cases b with
    | true => exact opC_lim hc fun s S' => opsC_lim hc hk l _ _
    | false => exact opsC_lim hc hk l _ _
theorem chk_nat {α : Type} {p : Prop} (k : Option α) : chk p k = (chk p (some ())).bind fun _ => k := by
  unfold chk; split <;> rfl
theorem again_nat {α : Type} (C : Ctx) (fr : Fr) (S : St) (o : Oper) (s : Slot) (k : Option α) : again C fr S o s k = (again C fr S o s (some ())).bind fun _ => k := by
  unfold again
  dsimp only
  cases s <;> first | rfl | skip
  rename_i v
  cases o.op <;> (try dsimp only) <;> first | rfl | skip
  case load T a =>
    refine tyC_nat fun n agg => ?_
    cases ev C.P.globals.size fr a with
    | loc d off =>
      dsimp only
      rcases S.bx d with _ | b
      · rfl
      · cases b <;> first | rfl | exact chk_nat k
    | val p => exact chk_nat k
    | _ => rfl
  case lookup T m key ok => exact sV_nat fun m => sV_nat fun key => mapC_nat fun kt z => chk_nat k
  case call c =>
    refine evs_nat _ fun vs => ?_
    generalize c.argTypes.toList = ts
    rcases vs with _ | ⟨x, _ | ⟨y, vs⟩⟩ <;> rcases ts with _ | ⟨t, _ | ⟨u, ts⟩⟩ <;> (try dsimp only) <;> first | rfl | skip
    rcases C.P.underlying t with _ | d
    · rfl
    · dsimp only
      rcases lenK d with _ | q
      · rfl
      · exact chk_nat k
theorem again_lim {α : Type} {fr : Fr} {S : St} {o : Oper} {s : Slot} {K : Nat → Option α} {k : Option α} (hk : Lim K k) : Lim (fun n => again ⟨P, O, hs n, f⟩ fr S o s (K n)) (again ⟨P, O, h, f⟩ fr S o s k) := by
  have e : ∀ h', again ⟨P, O, h', f⟩ fr S o s (some ()) = again ⟨P, O, h, f⟩ fr S o s (some ()) := fun h' => rfl
  exact Lim.nat (p := again ⟨P, O, h, f⟩ fr S o s (some ())) (G := fun n _ => K n) (g := fun _ => k) (fun n => by rw [again_nat, e]) (again_nat _ _ _ _ _ _) fun _ => hk
theorem chkBack_lim {α : Type} {a i : Nat} {o : Oper} {fr : Fr} {s : Slot} {tag : Option Nat} {K : Nat → Option α} {k : Option α} (hk : Lim K k) : ∀ es : List (Nat × Option Nat × St), Lim (fun n => chkBack ⟨P, O, hs n, f⟩ a i o fr s tag (K n) es) (chkBack ⟨P, O, h, f⟩ a i o fr s tag k es)
  | [] => hk
  | (j, t, S) :: es => by
    unfold chkBack
    split
    · exact chkBack_lim hk es
    · exact again_lim (chkBack_lim hk es)
theorem chkFore_lim {α : Type} {a : Nat} {tag : Option Nat} {S : St} {K : Nat → Option α} {k : Option α} (hk : Lim K k) : ∀ rs : List Rd, Lim (fun n => chkFore ⟨P, O, hs n, f⟩ a tag S (K n) rs) (chkFore ⟨P, O, h, f⟩ a tag S k rs)
  | [] => hk
  | r :: rs => by
    unfold chkFore
    split
    · exact chkFore_lim hk rs
    · exact again_lim (chkFore_lim hk rs)
theorem opD_lim (hc : Chain P O f hs h) {fr : Fr} {S : St} {o : Oper} {K : Nat → Slot → St → Option α} {k : Slot → St → Option α} (hk : ∀ s S, Lim (fun n => K n s S) (k s S)) : Lim (fun n => opD ⟨P, O, hs n, f⟩ fr S o (K n)) (opD ⟨P, O, h, f⟩ fr S o k) := by
  unfold opD
  dsimp only
  cases hl : isLA O f o with
  | true =>
    cases hd : o.dst with
    | none => exact Lim.const _
    | some d => exact hk _ _
  | false => exact opC_lim hc hk
theorem hoistC_lim (hc : Chain P O f hs h) {K : Nat → St → Option α} {k : St → Option α} (hk : ∀ S, Lim (fun n => K n S) (k S)) : ∀ (l : List Oper) (S : St), Lim (fun n => hoistC ⟨P, O, hs n, f⟩ (K n) l S) (hoistC ⟨P, O, h, f⟩ k l S)
  | [], S => hk S
  | o :: l, S => by
    unfold hoistC
    dsimp only
    cases isLA O f o with
    | true => exact opC_lim hc fun _ S' => hoistC_lim hc hk l S'
    | false => exact hoistC_lim hc hk l S
theorem drawC_lim {α : Type} (hc : Chain P O f hs h) {ops : List Oper} {an : List Nat} {K : Nat → Fr → St → Option α} {k : Fr → St → Option α} (hk : ∀ fr S, Lim (fun n => K n fr S) (k fr S)) :
    ∀ (l : List Oper) (i : Nat) (fr : Fr) (S : St) (es : List (Nat × Option Nat × St)) (rs : List Rd), Lim (fun n => drawC ⟨P, O, hs n, f⟩ ops an (K n) l i fr S es rs) (drawC ⟨P, O, h, f⟩ ops an k l i fr S es rs)
  | [], i, fr, S, es, rs => hk fr S
  | o :: l, i, fr, S, es, rs => by
    unfold drawC
    refine guardC_lim fun b fr => ?_
    cases b with
    | false => exact drawC_lim hc hk l _ _ _ _ _
    | true =>
      dsimp only
      obtain ⟨tg, ht⟩ : ∃ t, ∀ h', tagOf ⟨P, O, h', f⟩ fr o = t := ⟨tagOf ⟨P, O, h, f⟩ fr o, fun h' => rfl⟩
      simp only [ht]
      cases kindD P O f o with
      | pure => exact opD_lim hc fun s S' => drawC_lim hc hk l _ _ _ _ _
      | read => exact opD_lim hc fun s S' => chkBack_lim (drawC_lim hc hk l _ _ _ _ _) es
      | eff => exact opD_lim hc fun s S' => chkFore_lim (drawC_lim hc hk l _ _ _ _ _) rs

theorem drawH_lim {α : Type} (hc : Chain P O f hs h) {ops : List Oper} {K : Nat → Fr → St → Option α} {k : Fr → St → Option α} (hk : ∀ fr S, Lim (fun n => K n fr S) (k fr S)) (fr : Fr) (S : St) :
    Lim (fun n => drawH ⟨P, O, hs n, f⟩ ops (K n) fr S) (drawH ⟨P, O, h, f⟩ ops k fr S) :=
  hoistC_lim hc (fun S => drawC_lim hc hk _ _ _ _ _ _) _ _
theorem resC_nat {α : Type} {fr : Fr} {S : St} : ∀ (rs : List ResultVar) (k : List Value → Option α), resC P fr S rs k = (resC P fr S rs some).bind k
  | [], k => rfl
  | .tmp t :: rs, k => by
    have e : ∀ {γ : Type} (k : List Value → Option γ), resC P fr S (.tmp t :: rs) k = sV (getS fr t) fun v => resC P fr S rs fun vs => k (v :: vs) := fun k => rfl
    rw [e, e]
    refine sV_nat fun v => ?_
    rw [resC_nat rs, resC_nat rs fun vs => some (v :: vs)]
    cases resC P fr S rs some <;> rfl
  | .cell t T :: rs, k => by
    unfold resC
    refine tyC_nat fun n agg => ?_
    have e : ∀ v, (resC P fr S rs fun vs => k (v :: vs)) = (resC P fr S rs fun vs => some (v :: vs)).bind k := fun v => by
      rw [resC_nat rs, resC_nat rs fun vs => some (v :: vs)]
      cases resC P fr S rs some <;> rfl
    cases getS fr t with
    | loc d off =>
      dsimp only
      rcases S.bx d with _ | b
      · rfl
      · cases b <;> first | rfl | exact pCell_nat e
    | val p => exact pLoad_nat e
    | _ => rfl
structure KLim {α : Type} (K : Nat → AM.K α) (k : AM.K α) : Prop where
  norm : ∀ fr S, Lim (fun n => (K n).norm fr S) (k.norm fr S)
  exit : ∀ id fr S, Lim (fun n => (K n).exit id fr S) (k.exit id fr S)
  ret : ∀ v H, Lim (fun n => (K n).ret v H) (k.ret v H)
theorem saveS_nat {α γ : Type} {X : γ → Option α} {fr : Fr} : ∀ (ks : List Nat) {k : List Value → Option α} {g : List Value → Option γ}, (∀ v, k v = (g v).bind X) → saveS fr ks k = (saveS fr ks g).bind X
  | [], k, g, h => h []
  | d :: ks, k, g, h => sV_nat fun v => saveS_nat ks fun vs => h (v :: vs)
theorem saveB_nat {α γ : Type} {X : γ → Option α} {S : St} : ∀ (ks : List Nat) {k : List Value → Option α} {g : List Value → Option γ}, (∀ v, k v = (g v).bind X) → saveB S ks k = (saveB S ks g).bind X
  | [], k, g, h => h []
  | d :: ks, k, g, h => by
    unfold saveB boxV
    split
    · exact saveB_nat ks fun vs => h _
    · exact saveB_nat ks fun vs => h _
    · rfl
theorem bindO_eq {α : Type} (x : Option Outc) (k : Ctl → List Value → Hp → Option α) : bindO x k = x.bind fun o => k o.1 o.2.1 o.2.2 := by rcases x with _ | ⟨c, l, H⟩ <;> rfl
theorem bindO_lim {α : Type} {X : Nat → Option Outc} {x : Option Outc} (hx : Lim X x) {K : Nat → Ctl → List Value → Hp → Option α} {k : Ctl → List Value → Hp → Option α} (hk : ∀ c l H, Lim (fun n => K n c l H) (k c l H)) :
    Lim (fun n => bindO (X n) (K n)) (bindO x k) := by
  have e : (fun n => bindO (X n) (K n)) = fun n => (X n).bind fun o => K n o.1 o.2.1 o.2.2 := funext fun n => bindO_eq _ _
  rw [e, bindO_eq]
  exact hx.bind fun o => hk _ _ _

theorem exec_lim (hc : Chain P O f hs h) (rs : List ResultVar) : ∀ (c : Code) {α : Type} (fr : Fr) (S : St) {K : Nat → AM.K α} {k : AM.K α}, KLim K k → Lim (fun n => exec ⟨P, O, hs n, f⟩ rs c α fr S (K n)) (exec ⟨P, O, h, f⟩ rs c α fr S k)
  | .skip, α, fr, S, K, k, hk => hk.norm fr S
  | .region id ops draw, α, fr, S, K, k, hk => by
    unfold exec
    cases draw with
    | false => exact opsC_lim hc hk.norm _ _ _
    | true =>
      dsimp only
      cases inOrder P O f ops.toList (ancs ops.toList) with
      | true => exact drawH_lim hc hk.norm _ _
      | false => exact Lim.const _
  | .seq a b, α, fr, S, K, k, hk => by
    unfold exec
    dsimp only
    rcases O.join f (rid b) with _ | ⟨ks, kb⟩
    · exact exec_lim hc rs a fr S ⟨fun fr S => exec_lim hc rs b fr S hk, hk.exit, hk.ret⟩
    · refine bindO_lim (exec_lim hc rs a fr _ ⟨fun _ _ => Lim.const _, fun _ _ _ => Lim.const _, fun _ _ => Lim.const _⟩) fun c l H => ?_
      cases c with
      | next => exact exec_lim hc rs b _ _ hk
      | exit id => exact hk.exit _ _ _
      | ret => exact hk.ret _ _
  | .cond c x y, α, fr, S, K, k, hk => by
    unfold exec
    dsimp only
    refine Lim.nat (p := sV (ev P.globals.size fr c) fun v => pBool v some) (G := fun n t => br t (exec ⟨P, O, hs n, f⟩ rs x α fr S (K n)) (exec ⟨P, O, hs n, f⟩ rs y α fr S (K n)))
      (g := fun t => br t (exec ⟨P, O, h, f⟩ rs x α fr S k) (exec ⟨P, O, h, f⟩ rs y α fr S k)) (fun n => sV_nat fun v => pBool_nat fun t => rfl) (sV_nat fun v => pBool_nat fun t => rfl) fun t => ?_
    cases t with
    | true => exact exec_lim hc rs x fr S hk
    | false => exact exec_lim hc rs y fr S hk
  | .block id c, α, fr, S, K, k, hk => by
    unfold exec
    refine exec_lim hc rs c fr S ⟨hk.norm, fun j fr S => ?_, hk.ret⟩
    try dsimp only
    unfold onExit
    cases Nat.beq j id with
    | true => exact hk.norm _ _
    | false => exact hk.exit _ _ _
  | .loop c, α, fr, S, K, k, hk => by
    obtain ⟨ks, kb, hq⟩ : ∃ ks kb, O.loop f (rid c) = (ks, kb) := ⟨_, _, rfl⟩
    unfold exec
    simp only [hq]
    refine Lim.nat (fun n => saveS_nat ks (g := some) fun v => rfl) (saveS_nat ks (g := some) fun v => rfl) fun vs => ?_
    refine Lim.nat (fun n => saveB_nat kb (g := some) fun v => rfl) (saveB_nat kb (g := some) fun v => rfl) fun bs => ?_
    refine bindO_lim (Lim.loop (fun l H => exec_lim hc rs c _ _ ⟨fun _ _ => Lim.const _, fun _ _ _ => Lim.const _, fun _ _ => Lim.const _⟩) _ _) fun c' l H => ?_
    cases c' with
    | next => exact Lim.const _
    | exit id => exact hk.exit _ _ _
    | ret => exact hk.ret _ _
  | .exit id, α, fr, S, K, k, hk => hk.exit id fr S
  | .ret, α, fr, S, K, k, hk => by
    unfold exec
    exact Lim.nat (fun n => resC_nat rs _) (resC_nat rs _) fun vs => hk.ret _ _
  | .rangeFunc _ _ _ _, _, _, _, _, _, _ => Lim.const _
  | .scope _, _, _, _, _, _, _ => Lim.const _
  | .label _, _, _, _, _, _, _ => Lim.const _
  | .goto _, _, _, _, _, _, _ => Lim.const _
  | .refuse _, _, _, _, _, _, _ => Lim.const _

theorem callF_lim {ext : FuncId → Option (List Value → Hp → Option (Value × Hp))} (hc : ∀ f, Chain P O f hs h) (g : FuncId) (args : List Value) (H : Hp) : Lim (fun n => callF P O ext (hs n) g args H) (callF P O ext h g args H) := by
  unfold callF
  rcases P.funcs[g]? with _ | fn
  · exact Lim.const _
  · dsimp only
    cases fn.name == "runtime.NumGoroutine" with
    | true => exact Lim.const _
    | false =>
      dsimp only
      rcases fn.body with _ | c
      · exact Lim.const _
      · dsimp only
        rcases ext g with _ | e
        · exact exec_lim (hc g) _ c _ _ ⟨fun _ _ => Lim.const _, fun _ _ _ => Lim.const _, fun _ _ => Lim.const _⟩
        · exact Lim.const _
theorem runN_mono {ext : FuncId → Option (List Value → Hp → Option (Value × Hp))} : ∀ (n : Nat) (g : FuncId) (args : List Value) (H : Hp) (r : Value × Hp), runN P O ext n g args H = some r → runN P O ext (n + 1) g args H = some r
  | 0, g, args, H, r, h => by cases h
  | n + 1, g, args, H, r, h => by
    have hch : ∀ f, Chain P O f (fun i => match i with | 0 => runN P O ext n | _ => runN P O ext (n + 1)) (runN P O ext (n + 1)) := fun f => ⟨fun g a H => ⟨fun i r hr => by
        cases i with
        | zero => exact runN_mono n g a H r hr
        | succ i => exact hr, fun i r hr => by
        cases i with
        | zero => exact runN_mono n g a H r hr
        | succ i => exact hr, fun r hr => ⟨1, hr⟩⟩⟩
    exact (callF_lim (ext := ext) hch g args H).mono 0 r h
theorem run_iff {ext : FuncId → Option (List Value → Hp → Option (Value × Hp))} {g : FuncId} {args : List Value} {H : Hp} {r : Value × Hp} : run P O ext g args H = some r ↔ ∃ n, runN P O ext n g args H = some r := by
  have hle : ∀ {n m : Nat} {r : Value × Hp}, n ≤ m → runN P O ext n g args H = some r → runN P O ext m g args H = some r := by
    intro n m r hm hr
    induction m with
    | zero => have : n = 0 := by omega
              subst this; exact hr
    | succ m ih =>
      rcases Nat.lt_or_ge m n with q | q
      · have : n = m + 1 := by omega
        subst this; exact hr
      · exact runN_mono m g args H r (ih q)
  unfold run
  constructor
  · intro h
    split at h
    · rename_i hex
      obtain ⟨n, hn⟩ := hex.choose_spec
      have h : hex.choose = r := by simpa using h
      exact ⟨n, by rw [hn, h]⟩
    · cases h
  · rintro ⟨n, hn⟩
    have hex : ∃ r n, runN P O ext n g args H = some r := ⟨r, n, hn⟩
    rw [dif_pos hex]
    obtain ⟨m, hm⟩ := hex.choose_spec
    have h1 := hle (Nat.le_max_left n m) hn
    have h2 := hle (Nat.le_max_right n m) hm
    rw [h1] at h2
    exact h2.symm
/-- **A run is its own function's call.** -/
theorem run_eq {ext : FuncId → Option (List Value → Hp → Option (Value × Hp))} (g : FuncId) (args : List Value) (H : Hp) : run P O ext g args H = callF P O ext (run P O ext) g args H := by
  have hch : ∀ f, Chain P O f (runN P O ext) (run P O ext) := fun f => ⟨fun g a H => ⟨fun n r hr => runN_mono n g a H r hr, fun n r hr => run_iff.2 ⟨n, hr⟩, fun r hr => run_iff.1 hr⟩⟩
  have hl := callF_lim (ext := ext) hch g args H
  apply Option.ext
  intro r
  constructor
  · intro h
    obtain ⟨n, hn⟩ := run_iff.1 h
    cases n with
    | zero => cases hn
    | succ n => exact hl.le n r hn
  · intro h
    obtain ⟨n, hn⟩ := hl.sup r h
    exact run_iff.2 ⟨n + 1, hn⟩
/-- A run of a function that is not taken whole. -/
theorem run_fn {ext : FuncId → Option (List Value → Hp → Option (Value × Hp))} {g : FuncId} {fn : Func} (hf : P.funcs[g]? = some fn) (hn : (fn.name == "runtime.NumGoroutine") = false) (hb : fn.body.isSome = true) (hx : ext g = none) (args : List Value) (H : Hp) :
    run P O ext g args H = execF P O (run P O ext) g fn args H := by
  rw [run_eq]
  unfold callF execF
  rw [hf]
  dsimp only
  rw [hn]
  dsimp only
  obtain ⟨c, hc⟩ := Option.isSome_iff_exists.1 hb
  rw [hc]
  dsimp only
  rw [hx]
  rfl
end
end Go.AM
/- The abstract machine with fuel in its loops too: a closed run can be worked out by the kernel. -/
set_option linter.unusedVariables false
set_option linter.unusedSectionVars false
namespace Go.AM
open Go
/-- Alike values: what the kernel can see. -/
def eqL (f : Value → Value → Bool) : List Value → List Value → Bool
  | [], [] => true
  | a :: r, b :: s => match f a b with
    | true => eqL f r s
    | false => false
  | _, _ => false
theorem eqL_sound {f : Value → Value → Bool} (hf : ∀ a b, f a b = true → a = b) : ∀ {l m : List Value}, eqL f l m = true → l = m
  | [], [], _ => rfl
  | [], _ :: _, h => by cases h
  | _ :: _, [], h => by cases h
  | a :: r, b :: s, h => by
    unfold eqL at h
    cases q : f a b with
    | true => rw [q] at h; rw [hf a b q, eqL_sound hf h]
    | false => rw [q] at h; cases h
def eqF : Value → Value → Bool
  | .bool a, .bool b => a == b
  | .int k a, .int j b => decide (k = j) && decide (a = b)
  | .string a, .string b => decide (a.data.toList = b.data.toList)
  | .pointer a, .pointer b => decide (a = b)
  | .slice a n m, .slice b i j => decide (a = b) && (decide (n = i) && decide (m = j))
  | .map a, .map b => decide (a = b)
  | _, _ => false
theorem eqF_sound (a b : Value) (h : eqF a b = true) : a = b := by
  unfold eqF at h
  split at h <;> first | (cases h; done) | skip
  · rename_i x y; exact congrArg Value.bool (by simpa using h)
  · simp only [Bool.and_eq_true, decide_eq_true_eq] at h; rw [h.1, h.2]
  · rename_i x y
    have : x.data.toList = y.data.toList := of_decide_eq_true h
    cases x; cases y
    rename_i x y
    exact congrArg (fun z => Value.string ⟨z⟩) (Array.ext' this)
  · rw [of_decide_eq_true h]
  · simp only [Bool.and_eq_true, decide_eq_true_eq] at h; rw [h.1, h.2.1, h.2.2]
  · rw [of_decide_eq_true h]
def eqA (f : Value → Value → Bool) (a b : Value) : Bool :=
  match a, b with
  | .agg a, .agg b => eqL f a.toList b.toList
  | .tuple a, .tuple b => eqL f a.toList b.toList
  | a, b => eqF a b
theorem eqA_sound {f : Value → Value → Bool} (hf : ∀ a b, f a b = true → a = b) (a b : Value) (h : eqA f a b = true) : a = b := by
  unfold eqA at h
  split at h
  · exact congrArg Value.agg (Array.ext' (eqL_sound hf h))
  · exact congrArg Value.tuple (Array.ext' (eqL_sound hf h))
  · exact eqF_sound _ _ h
def eqV : Nat → Value → Value → Bool
  | 0 => eqF
  | n + 1 => eqA (eqV n)
theorem eqV_sound : ∀ (n : Nat) (a b : Value), eqV n a b = true → a = b
  | 0 => eqF_sound
  | n + 1 => eqA_sound (eqV_sound n)
def eqO : Option Value → Value → Bool
  | some a, b => eqV 8 a b
  | none, _ => false
noncomputable def chkE {α : Type} (o : Option Value) (v : Value) (k : Option α) : Option α := match eqO o v with
  | true => k
  | false => chk (o = some v) k
theorem chkE_eq {α : Type} (o : Option Value) (v : Value) (k : Option α) : chkE o v k = chk (o = some v) k := by
  unfold chkE
  cases h : eqO o v with
  | false => rfl
  | true =>
    cases o with
    | none => cases h
    | some a =>
      have : a = v := eqV_sound 8 a v h
      subst this
      unfold chk
      dsimp only
      rw [if_pos rfl]
noncomputable def againM {α : Type} (C : Ctx) (fr : Fr) (S : St) (o : Oper) (s : Slot) (k : Option α) : Option α :=
  let G := C.P.globals.size
  match s with
  | .val v => match o.op with
    | .load T a => tyC C.P T fun n agg => match ev G fr a with
      | .loc d off => match S.bx d with
        | some (.cells cs _) => chkE (rdCells cs off n agg) v k
        | _ => none
      | .val p => chkE (S.hp.rdP p n agg) v k
      | _ => none
    | .lookup T m key ok => sV (ev G fr m) fun m => sV (ev G fr key) fun key => mapC C.P T fun kt z =>
        chkE (pLook C.P kt z m key ok S.hp some) v k
    | .call c => evs G fr c.args.toList fun vs => match vs, c.argTypes.toList with
      | [x], [t] => match C.P.underlying t with
        | some d => match lenK d with
          | some q => chkE (lenV q x S.hp) v k
          | none => none
        | none => none
      | _, _ => none
    | _ => none
  | _ => none
theorem againM_eq : @againM = @again := by
  funext α C fr S o s k
  unfold againM again lenAgain
  simp only [chkE_eq] <;> rfl
noncomputable def chkBackM {α : Type} (C : Ctx) (an i : Nat) (o : Oper) (fr : Fr) (s : Slot) (tag : Option Nat) (k : Option α) : List (Nat × Option Nat × St) → Option α
  | [] => k
  | (j, t, S) :: r => match an.testBit j || !(sameTag t tag) with
    | true => chkBackM C an i o fr s tag k r
    | false => againM C fr S o s (chkBackM C an i o fr s tag k r)
theorem chkBackM_eq : @chkBackM = @chkBack := by
  funext α C an i o fr s tag k l
  induction l with
  | nil => rfl
  | cons x r ih => unfold chkBackM chkBack; rw [ih, againM_eq] <;> rfl
noncomputable def chkForeM {α : Type} (C : Ctx) (an : Nat) (tag : Option Nat) (S : St) (k : Option α) : List Rd → Option α
  | [] => k
  | r :: rs => match an.testBit r.i || !(sameTag r.tag tag) with
    | true => chkForeM C an tag S k rs
    | false => againM C r.fr S r.o r.s (chkForeM C an tag S k rs)
theorem chkForeM_eq : @chkForeM = @chkFore := by
  funext α C an tag S k l
  induction l with
  | nil => rfl
  | cons x r ih => unfold chkForeM chkFore; rw [ih, againM_eq] <;> rfl
noncomputable def drawM {α : Type} (C : Ctx) (ops : List Oper) (an : List Nat) (k : Fr → St → Option α) : List Oper → Nat → Fr → St → List (Nat × Option Nat × St) → List Rd → Option α
  | [], _, fr, S, _, _ => k fr S
  | o :: rest, i, fr, S, es, rs => guardC ops fr o fun w fr => match w with
    | false => drawM C ops an k rest (i + 1) (putS fr o.dst .und) S es rs
    | true => match kindD C.P C.O C.f o with
      | .pure => opD C fr S o fun s S' => drawM C ops an k rest (i + 1) (putS fr o.dst s) S' es rs
      | .read => opD C fr S o fun s S' => chkBackM C (an.getD i 0) i o fr s (tagOf C fr o)
          (drawM C ops an k rest (i + 1) (putS fr o.dst s) S' es (rs ++ [⟨i, o, fr, s, tagOf C fr o⟩])) es
      | .eff => opD C fr S o fun s S' => chkForeM C (an.getD i 0) (tagOf C fr o) S'
          (drawM C ops an k rest (i + 1) (putS fr o.dst s) S' (es ++ [(i, tagOf C fr o, S)]) rs) rs
theorem drawM_eq {α : Type} (C : Ctx) (ops : List Oper) (an : List Nat) (k : Fr → St → Option α) : ∀ (l : List Oper), drawM C ops an k l = drawC C ops an k l
  | [] => rfl
  | o :: l => by
    funext i fr S es rs
    unfold drawM drawC
    simp only [drawM_eq C ops an k l, chkBackM_eq, chkForeM_eq] <;> rfl
noncomputable def drawHM {α : Type} (C : Ctx) (ops : List Oper) (k : Fr → St → Option α) (fr : Fr) (S : St) : Option α :=
  hoistC C (fun S => drawM C ops (ancs ops) k ops 0 fr S [] []) ops S
theorem drawHM_eq {α : Type} (C : Ctx) (ops : List Oper) (k : Fr → St → Option α) : drawHM C ops k = drawH C ops k := by
  funext fr S
  unfold drawHM drawH
  simp only [drawM_eq]
/-- exec with fuel for each loop. -/
noncomputable def execM (m : Nat) (C : Ctx) (rs : List ResultVar) : Code → (α : Type) → Fr → St → K α → Option α
  | .skip, _, fr, S, k => k.norm fr S
  | .region _ ops draw, _, fr, S, k => match draw with
    | false => opsC C ops.toList k.norm ops.toList fr S
    | true => match inOrder C.P C.O C.f ops.toList (ancs ops.toList) with
      | true => drawHM C ops.toList k.norm fr S
      | false => none
  | .seq a b, α, fr, S, k => match C.O.join C.f (rid b) with
    | none => execM m C rs a α fr S { k with norm := fun fr S => execM m C rs b α fr S k }
    | some (ks, kb) => bindO (execM m C rs a Outc fr ⟨roB kb S.bx, S.hp⟩ (Kout ks kb)) fun c l H => onCtl c
      (execM m C rs b α (fillS (wr a []) ks l fr 0) ⟨backB kb (l.drop ks.length) S.bx, H⟩ k)
      (fun id => k.exit id (fillS (wr a []) ks l fr 0) ⟨backB kb (l.drop ks.length) S.bx, H⟩)
      (k.ret (l.headD undef) H)
  | .cond c x y, α, fr, S, k => sV (ev C.P.globals.size fr c) fun v => pBool v fun t => br t (execM m C rs x α fr S k) (execM m C rs y α fr S k)
  | .block id c, α, fr, S, k => execM m C rs c α fr S { k with exit := fun j fr S => onExit j id (k.norm fr S) (k.exit j fr S) }
  | .loop c, _, fr, S, k => match C.O.loop C.f (rid c) with
    | (ks, kb) => saveS fr ks fun vs => saveB S kb fun bs =>
      bindO (iterL (fun l H => execM m C rs c Outc (fillS (wr c []) ks l fr 0) ⟨fillB kb (l.drop ks.length) S.bx, H⟩ (Kout ks kb)) m (vs ++ bs) S.hp) fun c' l H => onCtl c' none
      (fun id => k.exit id (fillS (wr c []) ks l fr 0) ⟨backB kb (l.drop ks.length) S.bx, H⟩)
      (k.ret (l.headD undef) H)
  | .exit id, _, fr, S, k => k.exit id fr S
  | .ret, _, fr, S, k => resC C.P fr S rs fun vs => k.ret (resV vs) S.hp
  | _, _, _, _, _ => none
/-- A call with fuel in its loops. -/
noncomputable def callM (m : Nat) (P : Program) (O : Orc) (ext : FuncId → Option (List Value → Hp → Option (Value × Hp))) (h : Handler) : Handler := fun f args H =>
  match P.funcs[f]? with
  | none => none
  | some fn => match fn.name == "runtime.NumGoroutine" with
    | true => none
    | false => match fn.body with
      | none => match O.xt f with
        | some e => (match e args with
          | some v => some (v, H)
          | none => none)
        | none => none
      | some c => match ext f with
        | some e => e args H
        | none => execM m ⟨P, O, h, f⟩ fn.results.toList c _ (args.map .val ++ List.replicate (fn.ntmps - args.length) .unk) ⟨fun _ => none, H⟩ (Kfun P fn.results.toList)
/-- A run: n calls deep, m rounds of each loop. -/
noncomputable def runM (m : Nat) (P : Program) (O : Orc) (ext : FuncId → Option (List Value → Hp → Option (Value × Hp))) : Nat → Handler
  | 0 => fun _ _ _ => none
  | n + 1 => callM m P O ext (runM m P O ext n)

variable {P : Program} {O : Orc} {f : FuncId} {hs : Nat → Handler} {h : Handler}
theorem Lim.loopM {F : Nat → List Value → Hp → Option Outc} {step : List Value → Hp → Option Outc} (h : ∀ l H, Lim (fun n => F n l H) (step l H)) (m : Nat → Nat) (hm : ∀ n, m n ≤ m (n + 1)) (hs : ∀ n, ∃ k, n ≤ m k) (l : List Value) (H : Hp) : Lim (fun n => iterL (F n) (m n) l H) (loopD step l H) := by
  have key : ∀ {a b : Nat}, a ≤ b → m a ≤ m b := fun {a b} hab => by
    induction b with
    | zero => have : a = 0 := by omega
              subst this; exact Nat.le_refl _
    | succ b ih =>
      rcases Nat.lt_or_ge b a with q | q
      · have : a = b + 1 := by omega
        subst this; exact Nat.le_refl _
      · exact Nat.le_trans (ih q) (hm b)
  refine ⟨fun n r hr => iterL_le (hm n) ((Lim.iter h (m n) l H).mono n r hr), fun n r hr => loopD_iff.2 ⟨m n, (Lim.iter h (m n) l H).le n r hr⟩, fun r hr => ?_⟩
  obtain ⟨a, ha⟩ := loopD_iff.1 hr
  obtain ⟨n, hn⟩ := (Lim.iter h a l H).sup r ha
  obtain ⟨k, hk⟩ := hs a
  refine ⟨max n k, ?_⟩
  exact iterL_le (Nat.le_trans hk (key (Nat.le_max_right n k))) ((Lim.iter h a l H).mono' (Nat.le_max_left n k) hn)
theorem execM_lim (hc : Chain P O f hs h) (rs : List ResultVar) : ∀ (c : Code) {α : Type} (fr : Fr) (S : St) {K : Nat → AM.K α} {k : AM.K α}, KLim K k → Lim (fun n => execM n ⟨P, O, hs n, f⟩ rs c α fr S (K n)) (exec ⟨P, O, h, f⟩ rs c α fr S k)
  | .skip, α, fr, S, K, k, hk => hk.norm fr S
  | .region id ops draw, α, fr, S, K, k, hk => by
    unfold exec execM
    cases draw with
    | false => exact opsC_lim hc hk.norm _ _ _
    | true =>
      dsimp only
      cases inOrder P O f ops.toList (ancs ops.toList) with
      | true => simp only [drawHM_eq]; exact drawH_lim hc hk.norm _ _
      | false => exact Lim.const _
  | .seq a b, α, fr, S, K, k, hk => by
    unfold exec execM
    dsimp only
    rcases O.join f (rid b) with _ | ⟨ks, kb⟩
    · exact execM_lim hc rs a fr S ⟨fun fr S => execM_lim hc rs b fr S hk, hk.exit, hk.ret⟩
    · refine bindO_lim (execM_lim hc rs a fr _ ⟨fun _ _ => Lim.const _, fun _ _ _ => Lim.const _, fun _ _ => Lim.const _⟩) fun c l H => ?_
      cases c with
      | next => exact execM_lim hc rs b _ _ hk
      | exit id => exact hk.exit _ _ _
      | ret => exact hk.ret _ _
  | .cond c x y, α, fr, S, K, k, hk => by
    unfold exec execM
    dsimp only
    refine Lim.nat (p := sV (ev P.globals.size fr c) fun v => pBool v some) (G := fun n t => br t (execM n ⟨P, O, hs n, f⟩ rs x α fr S (K n)) (execM n ⟨P, O, hs n, f⟩ rs y α fr S (K n)))
      (g := fun t => br t (exec ⟨P, O, h, f⟩ rs x α fr S k) (exec ⟨P, O, h, f⟩ rs y α fr S k)) (fun n => sV_nat fun v => pBool_nat fun t => rfl) (sV_nat fun v => pBool_nat fun t => rfl) fun t => ?_
    cases t with
    | true => exact execM_lim hc rs x fr S hk
    | false => exact execM_lim hc rs y fr S hk
  | .block id c, α, fr, S, K, k, hk => by
    unfold exec execM
    refine execM_lim hc rs c fr S ⟨hk.norm, fun j fr S => ?_, hk.ret⟩
    try dsimp only
    unfold onExit
    cases Nat.beq j id with
    | true => exact hk.norm _ _
    | false => exact hk.exit _ _ _
  | .loop c, α, fr, S, K, k, hk => by
    obtain ⟨ks, kb, hq⟩ : ∃ ks kb, O.loop f (rid c) = (ks, kb) := ⟨_, _, rfl⟩
    unfold exec execM
    simp only [hq]
    refine Lim.nat (fun n => saveS_nat ks (g := some) fun v => rfl) (saveS_nat ks (g := some) fun v => rfl) fun vs => ?_
    refine Lim.nat (fun n => saveB_nat kb (g := some) fun v => rfl) (saveB_nat kb (g := some) fun v => rfl) fun bs => ?_
    refine bindO_lim (Lim.loopM (F := fun n l H => execM n ⟨P, O, hs n, f⟩ rs c Outc (fillS (wr c []) ks l fr 0) ⟨fillB kb (l.drop ks.length) S.bx, H⟩ (Kout ks kb)) (fun l H => execM_lim hc rs c _ _ ⟨fun _ _ => Lim.const _, fun _ _ _ => Lim.const _, fun _ _ => Lim.const _⟩) (fun n => n) (fun n => Nat.le_succ n) (fun n => ⟨n, Nat.le_refl n⟩) _ _) fun c' l H => ?_
    cases c' with
    | next => exact Lim.const _
    | exit id => exact hk.exit _ _ _
    | ret => exact hk.ret _ _
  | .exit id, α, fr, S, K, k, hk => hk.exit id fr S
  | .ret, α, fr, S, K, k, hk => by
    unfold exec execM
    exact Lim.nat (fun n => resC_nat rs _) (resC_nat rs _) fun vs => hk.ret _ _
  | .rangeFunc _ _ _ _, _, _, _, _, _, _ => Lim.const _
  | .scope _, _, _, _, _, _, _ => Lim.const _
  | .label _, _, _, _, _, _, _ => Lim.const _
  | .goto _, _, _, _, _, _, _ => Lim.const _
  | .refuse _, _, _, _, _, _, _ => Lim.const _
theorem callM_le {ext : FuncId → Option (List Value → Hp → Option (Value × Hp))} {h1 : Handler} (m : Nat) (hle : ∀ g a H r, h1 g a H = some r → h g a H = some r) {g : FuncId} {args : List Value} {H : Hp} {r : Value × Hp} :
    callM m P O ext h1 g args H = some r → callF P O ext h g args H = some r := by
  unfold callM callF
  rcases P.funcs[g]? with _ | fn
  · intro hr; cases hr
  · dsimp only
    cases fn.name == "runtime.NumGoroutine" with
    | true => intro hr; cases hr
    | false =>
      dsimp only
      rcases fn.body with _ | c
      · exact id
      · dsimp only
        rcases ext g with _ | e
        · dsimp only
          intro hr
          have hc : Chain P O g (fun i => match decide (i ≤ m) with | true => h1 | false => h) h := by
            refine ⟨fun q a H => ⟨fun n r hr => ?_, fun n r hr => ?_, fun r hr => ⟨m + 1, ?_⟩⟩⟩
            · show (match decide (n + 1 ≤ m) with | true => h1 | false => h) q a H = some r
              have hr : (match decide (n ≤ m) with | true => h1 | false => h) q a H = some r := hr
              cases e1 : decide (n + 1 ≤ m) with
              | true =>
                have e2 : decide (n ≤ m) = true := decide_eq_true (by have := of_decide_eq_true e1; omega)
                rw [e2] at hr; exact hr
              | false =>
                cases e2 : decide (n ≤ m) with
                | true => rw [e2] at hr; exact hle q a H r hr
                | false => rw [e2] at hr; exact hr
            · have hr : (match decide (n ≤ m) with | true => h1 | false => h) q a H = some r := hr
              cases e2 : decide (n ≤ m) with
              | true => rw [e2] at hr; exact hle q a H r hr
              | false => rw [e2] at hr; exact hr
            · show (match decide (m + 1 ≤ m) with | true => h1 | false => h) q a H = some r
              have e2 : decide (m + 1 ≤ m) = false := decide_eq_false (by omega)
              rw [e2]; exact hr
          have := (execM_lim hc fn.results.toList c (args.map .val ++ List.replicate (fn.ntmps - args.length) .unk) ⟨fun _ => none, H⟩ (K := fun _ => Kfun P fn.results.toList) (k := Kfun P fn.results.toList) ⟨fun _ _ => Lim.const _, fun _ _ _ => Lim.const _, fun _ _ => Lim.const _⟩).le m r
          have e : decide (m ≤ m) = true := decide_eq_true (Nat.le_refl m)
          rw [e] at this
          exact this hr
        · exact id
/-- **What the kernel works out, the run answers.** -/
theorem run_of_runM {ext : FuncId → Option (List Value → Hp → Option (Value × Hp))} {m : Nat} : ∀ {n : Nat} {g : FuncId} {args : List Value} {H : Hp} {r : Value × Hp}, runM m P O ext n g args H = some r → run P O ext g args H = some r
  | 0, g, args, H, r, hr => by cases hr
  | n + 1, g, args, H, r, hr => by
    rw [run_eq]
    exact callM_le m (fun g a H r => run_of_runM) hr
end Go.AM
/- The Term seat: the primitives, by rule. -/
set_option linter.unusedVariables false
namespace Go.AM
open Go
section
variable {α : Type} {P : Program}
theorem s_bool (b : Bool) (k : Bool → Option α) : pBool (.bool b) k = k b := rfl
theorem s_br (b : Bool) (x y : Option α) : br b x y = if b = true then x else y := by cases b <;> rfl
theorem s_lss (T : TypeId) (kd : IntKind) (a b : Int) (k : Value → Option α) : pBin P .lss T (.int kd a) (.int kd b) k = k (.bool (decide (a < b))) := by simp [pBin, binV, intOp]
theorem s_leq (T : TypeId) (kd : IntKind) (a b : Int) (k : Value → Option α) : pBin P .leq T (.int kd a) (.int kd b) k = k (.bool (decide (a ≤ b))) := by simp [pBin, binV, intOp]
theorem s_gtr (T : TypeId) (kd : IntKind) (a b : Int) (k : Value → Option α) : pBin P .gtr T (.int kd a) (.int kd b) k = k (.bool (decide (a > b))) := by simp [pBin, binV, intOp]
theorem s_geq (T : TypeId) (kd : IntKind) (a b : Int) (k : Value → Option α) : pBin P .geq T (.int kd a) (.int kd b) k = k (.bool (decide (a ≥ b))) := by simp [pBin, binV, intOp]
theorem s_eql (T : TypeId) (kd : IntKind) (a b : Int) (k : Value → Option α) : pBin P .eql T (.int kd a) (.int kd b) k = k (.bool (decide (a = b))) := by
  have : (a == b) = decide (a = b) := by rw [Bool.eq_iff_iff]; simp
  simp [pBin, binV, intOp, this]
theorem s_neq (T : TypeId) (kd : IntKind) (a b : Int) (k : Value → Option α) : pBin P .neq T (.int kd a) (.int kd b) k = k (.bool (decide (a ≠ b))) := by
  have : (a != b) = decide (a ≠ b) := by rw [Bool.eq_iff_iff]; simp
  simp [pBin, binV, intOp, this]
theorem s_add (T : TypeId) (kd : IntKind) (a b : Int) (k : Value → Option α) : pBin P .add T (.int kd a) (.int kd b) k = k (.int kd (kd.wrap (a + b))) := by simp [pBin, binV, intOp]
theorem s_sub (T : TypeId) (kd : IntKind) (a b : Int) (k : Value → Option α) : pBin P .sub T (.int kd a) (.int kd b) k = k (.int kd (kd.wrap (a - b))) := by simp [pBin, binV, intOp]
theorem s_mul (T : TypeId) (kd : IntKind) (a b : Int) (k : Value → Option α) : pBin P .mul T (.int kd a) (.int kd b) k = k (.int kd (kd.wrap (a * b))) := by simp [pBin, binV, intOp]
theorem s_not (b : Bool) (k : Value → Option α) : pUn .not (.bool b) k = k (.bool !b) := rfl
theorem s_nil (a : Addr) (k : Option α) : pNil (.pointer (some a)) k = k := rfl
theorem s_offs (n i o : Nat) (k : Value → Option α) : pOffs n (.pointer (some ⟨i, o, none⟩)) k = k (.pointer (some ⟨i, o + n, none⟩)) := rfl
theorem s_load {H : Hp} {i : Nat} {cs : List Value} {own : Bool} (h : H.get i = some (.cells cs own)) (o : Nat) (v : Value) (hv : cs[o]? = some v) (k : Value → Option α) : pLoad 1 false H (.pointer (some ⟨i, o, none⟩)) k = k v := by
  simp [pLoad, Hp.rdP, Hp.rd, h, rdCells, hv]
theorem s_cell (cs : List Value) (o : Nat) (v : Value) (hv : cs[o]? = some v) (k : Value → Option α) : pCell 1 false cs o k = k v := by simp [pCell, rdCells, hv]
theorem s_bind (c : Ctl) (l : List Value) (H : Hp) (k : Ctl → List Value → Hp → Option α) : bindO (some (c, l, H)) k = k c l H := rfl
theorem s_bind_ite (p : Prop) [Decidable p] (a b : Option Outc) (k : Ctl → List Value → Hp → Option α) : bindO (if p then a else b) k = if p then bindO a k else bindO b k := by split <;> rfl
theorem s_next (a : Option α) (b : Nat → Option α) (c : Option α) : onCtl .next a b c = a := rfl
theorem s_exit (j : Nat) (a : Option α) (b : Nat → Option α) (c : Option α) : onCtl (.exit j) a b c = b j := rfl
theorem s_ret (a : Option α) (b : Nat → Option α) (c : Option α) : onCtl .ret a b c = c := rfl
theorem s_onExit (j : Nat) (x y : Option α) : onExit j j x y = x := by simp [onExit]
theorem s_call {h : Handler} {g : FuncId} {args : List Value} {H : Hp} {v : Value} {H' : Hp} (e : h g args H = some (v, H')) (k : Value → Hp → Option α) : pCallF h g args H k = k v H' := by simp [pCallF, e]
theorem s_ext (vs : List Value) (i : Nat) (v : Value) (h : vs[i]? = some v) (k : Value → Option α) : pExtract (.tuple vs.toArray) i k = k v := by simp [pExtract, extractV, h]
end
end Go.AM
/- The abstract machine: slices that are owned, and what leaves the rest as it was. -/
set_option linter.unusedVariables false
set_option linter.unusedSimpArgs false
namespace Go.AM
open Go
/-- Nothing else is touched. -/
structure Frm (M : Nat → Prop) (H H' : Hp) : Prop where
  next : H.next ≤ H'.next
  same : ∀ j, j < H.next → ¬ M j → H'.get j = H.get j
theorem Frm.refl (M : Nat → Prop) (H : Hp) : Frm M H H := ⟨Nat.le_refl _, fun _ _ _ => rfl⟩
theorem Frm.trans {M N : Nat → Prop} {H H1 H2 : Hp} (h : Frm M H H1) (k : Frm N H1 H2) (hn : ∀ j, N j → M j ∨ H.next ≤ j) : Frm M H H2 :=
  ⟨Nat.le_trans h.next k.next, fun j hj hm => by
    rw [k.same j (Nat.lt_of_lt_of_le hj h.next) (fun q => by rcases hn j q with a | a; exact hm a; omega), h.same j hj hm]⟩
theorem Frm.mono {M N : Nat → Prop} {H H' : Hp} (h : Frm M H H') (hn : ∀ j, M j → N j ∨ H.next ≤ j) : Frm N H H' := ⟨h.next, fun j hj hm => h.same j hj fun q => by rcases hn j q with a | a; exact hm a; omega⟩
/-- A slice's object. -/
def vid : Value → Option Nat
  | .slice (some a) _ _ => some a.block
  | _ => none
def Id (v : Value) (j : Nat) : Prop := vid v = some j
theorem get_new (H : Hp) (o : AObj) (i : Nat) : (H.new o).get i = if i = H.next then some o else H.get i := rfl
theorem get_set (H : Hp) (j : Nat) (o : Option AObj) (i : Nat) : (H.set j o).get i = if i = j then o else H.get i := rfl
theorem fr_new (H : Hp) (o : AObj) (M : Nat → Prop) : Frm M H (H.new o) := ⟨by show H.next ≤ H.next + 1; omega, fun j hj _ => by rw [get_new, if_neg (by omega)]⟩
theorem fr_set (H : Hp) (i : Nat) (o : Option AObj) (M : Nat → Prop) (hm : M i) : Frm M H (H.set i o) := ⟨Nat.le_refl _, fun j hj hn => by rw [get_set, if_neg (fun e => hn (by rw [e]; exact hm))]⟩

/-- A slice that is owned: so many elements, their cells. -/
def Vec (H : Hp) (sz : Nat) (v : Value) (n : Nat) (cs : List Value) : Prop :=
  (n = 0 ∧ cs = [] ∧ v = .slice none 0 0) ∨ ∃ y c rest, v = .slice (some ⟨y, 0, some sz⟩) n c ∧ n ≤ c ∧ H.get y = some (.cells (cs ++ rest) true) ∧ cs.length = n * sz ∧ rest.length = (c - n) * sz ∧ y < H.next ∧ rest.all one = true
section
variable {H H' : Hp} {sz : Nat} {v : Value} {n : Nat} {cs : List Value}
theorem Vec.len (h : Vec H sz v n cs) {α : Type} (H' : Hp) (k : Value → Option α) : pLen .sl v H' k = k (.int .i64 n) := by
  rcases h with ⟨rfl, _, rfl⟩ | ⟨y, c, rest, rfl, _⟩ <;> rfl
theorem Vec.lenV (h : Vec H sz v n cs) (H' : Hp) : AM.lenV .sl v H' = some (.int .i64 n) := by
  rcases h with ⟨rfl, _, rfl⟩ | ⟨y, c, rest, rfl, _⟩ <;> rfl
theorem Vec.size (h : Vec H sz v n cs) : cs.length = n * sz := by
  rcases h with ⟨rfl, rfl, _⟩ | ⟨y, c, rest, _, _, _, h, _⟩
  · simp
  · exact h
theorem Vec.lt (h : Vec H sz v n cs) {j : Nat} (hj : Id v j) : j < H.next := by
  rcases h with ⟨_, _, rfl⟩ | ⟨y, c, rest, rfl, _, _, _, _, h, _⟩
  · cases hj
  · cases hj; exact h
theorem Vec.own (h : Vec H sz v n cs) {j : Nat} (hj : Id v j) : ∃ cs, H.get j = some (.cells cs true) := by
  rcases h with ⟨_, _, rfl⟩ | ⟨y, c, rest, rfl, _, h, _⟩
  · cases hj
  · cases hj; exact ⟨_, h⟩
theorem Vec.keep' (h : Vec H sz v n cs) (hg : ∀ j, Id v j → H'.get j = H.get j) (hn : H.next ≤ H'.next) : Vec H' sz v n cs := by
  rcases h with e | ⟨y, c, rest, rfl, h1, h2, h3, h4, h5, h6⟩
  · exact .inl e
  · exact .inr ⟨y, c, rest, rfl, h1, by rw [hg y rfl]; exact h2, h3, h4, Nat.lt_of_lt_of_le h5 hn, h6⟩
theorem Vec.keep {M : Nat → Prop} (h : Vec H sz v n cs) (k : Frm M H H') (hm : ∀ j, Id v j → ¬ M j) : Vec H' sz v n cs :=
  h.keep' (fun j hj => k.same j (h.lt hj) (hm j hj)) k.next
theorem Vec.nil (H : Hp) (sz : Nat) : Vec H sz (.slice none 0 0) 0 [] := .inl ⟨rfl, rfl, rfl⟩
/-- An element's address. -/
theorem Vec.ix (h : Vec H sz v n cs) {i : Nat} (hi : i < n) : ∃ y, Id v y ∧ (∃ rest, H.get y = some (.cells (cs ++ rest) true)) ∧ ∀ (α : Type) (kd : IntKind) (k : Value → Option α), pIdx sz v (.int kd (i : Int)) k = k (.pointer (some ⟨y, i * sz, none⟩)) := by
  rcases h with ⟨rfl, _, _⟩ | ⟨y, c, rest, rfl, h1, h2, h3, h4, h5⟩
  · omega
  · refine ⟨y, rfl, ⟨rest, h2⟩, fun α kd k => ?_⟩
    unfold pIdx idxV
    have : sz = sz ∧ (0 : Int) ≤ (i : Int) ∧ (i : Int) < (n : Int) := ⟨rfl, by omega, by omega⟩
    simp only [this, and_self, if_true, Nat.zero_add, Int.toNat_natCast]
theorem ld_cell {y : Nat} {rest : List Value} {own : Bool} (h : H.get y = some (.cells (cs ++ rest) own)) {o : Nat} {x : Value} (hx : cs[o]? = some x) {α : Type} (k : Value → Option α) : pLoad 1 false H (.pointer (some ⟨y, o, none⟩)) k = k x := by
  have hlt := (List.getElem?_eq_some_iff.1 hx).1
  have : (cs ++ rest)[o]? = some x := by rw [List.getElem?_append_left hlt]; exact hx
  simp [pLoad, Hp.rdP, Hp.rd, h, rdCells, this]
theorem ld_agg {y : Nat} {rest : List Value} {own : Bool} (h : H.get y = some (.cells (cs ++ rest) own)) {o m : Nat} (ho : o + m ≤ cs.length) {α : Type} (k : Value → Option α) : pLoad m true H (.pointer (some ⟨y, o, none⟩)) k = k (.agg ((cs.drop o).take m).toArray) := by
  have h1 : o + m ≤ (cs ++ rest).length := by rw [List.length_append]; omega
  have h2 : ((cs ++ rest).drop o).take m = (cs.drop o).take m := by
    rw [List.drop_append_of_le_length (by omega), List.take_append_of_le_length (by rw [List.length_drop]; omega)]
  simp only [pLoad, Hp.rdP, Hp.rd, h, rdCells, h1, if_true, h2]
theorem Vec.ids (h : Vec H sz v n cs) {y : Nat} (hy : Id v y) : ∃ c rest, v = .slice (some ⟨y, 0, some sz⟩) n c ∧ n ≤ c ∧ H.get y = some (.cells (cs ++ rest) true) ∧ cs.length = n * sz ∧ rest.length = (c - n) * sz ∧ y < H.next ∧ rest.all one = true := by
  rcases h with ⟨_, _, rfl⟩ | ⟨y', c, rest, rfl, h⟩
  · cases hy
  · cases hy; exact ⟨c, rest, rfl, h⟩
/-- Some cells are written. -/
theorem Vec.set (h : Vec H sz v n cs) {y o m : Nat} (hy : Id v y) {x : Value} (hm : (cellsL x).length = m) (ho : o + m ≤ cs.length) (h1 : (cellsL x).all one = true) :
    ∃ H', (∀ (α : Type) (k : Hp → Option α), pStore m H (.pointer (some ⟨y, o, none⟩)) x k = k H') ∧ Vec H' sz v n (spl cs o (cellsL x)) ∧ Frm (Id v) H H' ∧ H'.next = H.next := by
  obtain ⟨c, rest, rfl, g1, g2, g3, g4, g5, g6⟩ := h.ids hy
  have hs : spl (cs ++ rest) o (cellsL x) = spl cs o (cellsL x) ++ rest := by
    unfold spl
    rw [List.take_append_of_le_length (by omega), List.drop_append_of_le_length (by omega)]
    simp
  have hw : wrCells m (cs ++ rest) o x = some (spl cs o (cellsL x) ++ rest) := by
    unfold wrCells
    rw [if_pos ⟨hm, by rw [List.length_append]; omega, h1⟩, hs]
  have hl : (spl cs o (cellsL x)).length = cs.length := by
    unfold spl
    simp only [List.length_append, List.length_take, List.length_drop, hm]
    omega
  refine ⟨H.set y (some (.cells (spl cs o (cellsL x) ++ rest) true)), fun α k => ?_, .inr ⟨y, c, rest, rfl, g1, ?_, by rw [hl]; exact g3, g4, g5, g6⟩, fr_set _ _ _ _ rfl, rfl⟩
  · unfold pStore
    have : H.wr (.pointer (some ⟨y, o, none⟩)) m x = some (H.set y (some (.cells (spl cs o (cellsL x) ++ rest) true))) := by
      show (match H.get y with | some (.cells cs true) => (match wrCells m cs o x with | some cs' => some (H.set y (some (.cells cs' true))) | none => none) | _ => none) = _
      rw [g2]; dsimp only; rw [hw]
    rw [this]
  · rw [get_set, if_pos rfl]
/-- The last elements are dropped. -/
theorem Vec.cut (h : Vec H sz v n cs) (hcs : cs.all one = true) {m : Nat} (hm : m ≤ n) : ∃ v', (∀ (α : Type) (kd : IntKind) (k : Value → Option α), pSlice sz v none (some (.int kd (m : Int))) k = k v') ∧ Vec H sz v' m (cs.take (m * sz)) ∧ (∀ j, Id v' j → Id v j) := by
  rcases h with ⟨rfl, rfl, rfl⟩ | ⟨y, c, rest, rfl, h1, h2, h3, h4, h5, h6⟩
  · obtain rfl : m = 0 := by omega
    refine ⟨.slice none 0 0, fun α kd k => ?_, by simpa using Vec.nil H sz, fun j hj => hj⟩
    unfold pSlice sliceV
    simp [optInt]
  · refine ⟨.slice (some ⟨y, 0, some sz⟩) m c, fun α kd k => ?_, .inr ⟨y, c, cs.drop (m * sz) ++ rest, rfl, by omega, ?_, ?_, ?_, h5, ?_⟩, fun j hj => hj⟩
    · have : sliceV sz (.slice (some ⟨y, 0, some sz⟩) n c) none (some (.int kd (m : Int))) = some (.slice (some ⟨y, 0, some sz⟩) m c) := by
        unfold sliceV
        dsimp only [optInt]
        rw [if_pos ⟨rfl, by omega, by omega, by omega⟩]
        simp
      unfold pSlice
      rw [this]
    · rw [← List.append_assoc, List.take_append_drop]; exact h2
    · rw [List.length_take, h3]; exact Nat.min_eq_left (Nat.mul_le_mul_right sz hm)
    · rw [List.length_append, List.length_drop, h3, h4, Nat.sub_mul, Nat.sub_mul]
      have a1 := Nat.mul_le_mul_right sz hm
      have a2 := Nat.mul_le_mul_right sz h1
      rw [Nat.sub_mul] at *
      omega
    · rw [List.all_append, Bool.and_eq_true]
      refine ⟨?_, h6⟩
      rw [List.all_eq_true] at hcs ⊢
      exact fun x hx => hcs x (List.mem_of_mem_drop hx)
/-- A new slice of zeros. -/
theorem repl_len (zs : List Value) : ∀ n, (repl n zs).length = n * zs.length
  | 0 => by simp [repl]
  | n + 1 => by show (zs ++ repl n zs).length = _; rw [List.length_append, repl_len zs n, Nat.succ_mul]; omega
theorem Vec.make (H : Hp) {sz bytes : Nat} {zs : List Value} (hz : zs.length = sz) {n : Nat} (hb : n * bytes ≤ 2 ^ 47) :
    ∃ v, (∀ (α : Type) (k : Value → Hp → Option α), pMakeSlice sz bytes zs (.int .i64 (n : Int)) (.int .i64 (n : Int)) H k = k v (H.new (.cells (repl n zs) true))) ∧ Vec (H.new (.cells (repl n zs) true)) sz v n (repl n zs) ∧ (∀ j, Id v j → j = H.next) := by
  refine ⟨.slice (some ⟨H.next, 0, some sz⟩) n n, fun α k => ?_, .inr ⟨H.next, n, [], rfl, Nat.le_refl _, ?_, by rw [repl_len, hz], by simp, by show H.next < H.next + 1; omega, rfl⟩, fun j hj => by cases hj; rfl⟩
  · have e : ((2 : Int) ^ 47) = ((2 ^ 47 : Nat) : Int) := by rfl
    have hb' : (n : Int) * (bytes : Int) ≤ 2 ^ 47 := by rw [e, ← Int.natCast_mul]; exact Int.ofNat_le.2 hb
    have : makeSliceV sz bytes zs (.int .i64 (n : Int)) (.int .i64 (n : Int)) H = some (.slice (some ⟨H.next, 0, some sz⟩) n n, H.new (.cells (repl n zs) true)) := by
      unfold makeSliceV
      dsimp only
      rw [if_pos ⟨by omega, by omega, hb'⟩]
      rfl
    unfold pMakeSlice
    rw [this]
  · rw [get_new, if_pos rfl, List.append_nil]
/-- One element more. -/
theorem Vec.push (h : Vec H sz v n cs) {bytes : Nat} {zs : List Value} {x : Value} (hs : 0 < sz) (hs2 : sz ≤ 2 ^ 24) (hz : zs.length = sz) (hx : (cellsL x).length = sz) (h1 : (cellsL x).all one = true) (hb : (n + 1) * bytes ≤ 2 ^ 47) :
    ∃ v' H', (∀ (α : Type) (k : Value → Hp → Option α), (pBuildSlice sz zs 1 [(0, x)] H fun t H1 => pAppend sz bytes v t H1 k) = k v' H') ∧ Vec H' sz v' (n + 1) (cs ++ cellsL x) ∧ Frm (Id v) H H' ∧ (∀ j, Id v' j → Id v j ∨ H.next ≤ j) ∧ (∃ j, Id v' j) := by
  have hbuild : buildSliceV sz zs 1 [(0, x)] H = some (.slice (some ⟨H.next, 0, some sz⟩) 1 1, H.new (.cells (cellsL x) true)) := by
    unfold buildSliceV
    rw [if_neg (by omega)]
    have e0 : spl (repl 1 zs) (0 * sz) (cellsL x) = cellsL x := by
      unfold spl
      have : (repl 1 zs).length = sz := by rw [repl_len, hz, Nat.one_mul]
      rw [Nat.zero_mul, List.take_zero, List.nil_append, List.drop_of_length_le (by omega), List.append_nil]
    have : fillL (fun i => some (i * sz, sz)) (repl 1 zs) [(0, x)] = some (cellsL x) := by
      unfold fillL
      dsimp only
      rw [if_pos ⟨hx, by rw [repl_len, hz]; omega, h1⟩, e0]
      rfl
    rw [this]
  have hb' : ∀ (α : Type) (k : Value → Hp → Option α), (pBuildSlice sz zs 1 [(0, x)] H fun t H1 => pAppend sz bytes v t H1 k) = pAppend sz bytes v (.slice (some ⟨H.next, 0, some sz⟩) 1 1) (H.new (.cells (cellsL x) true)) k := fun α k => by
    unfold pBuildSlice; rw [hbuild]
  generalize hH1 : H.new (.cells (cellsL x) true) = H1 at hb'
  have n1 : H1.next = H.next + 1 := by rw [← hH1]; rfl
  have g1 : ∀ j, j < H.next → H1.get j = H.get j := fun j hj => by rw [← hH1, get_new, if_neg (by omega)]
  have gt : H1.get H.next = some (.cells (cellsL x) true) := by rw [← hH1, get_new, if_pos rfl]
  have hsrc : srcCells sz (.slice (some ⟨H.next, 0, some sz⟩) 1 1) H1 = some (1, cellsL x) := by
    unfold srcCells
    dsimp only
    rw [if_pos rfl, gt]
    dsimp only
    rw [if_pos (by omega), List.drop_zero, List.take_of_length_le (by omega)]
  rcases h with ⟨rfl, rfl, rfl⟩ | ⟨y, c, rest, rfl, k1, k2, k3, k4, k5, k6⟩
  · refine ⟨.slice (some ⟨H1.next, 0, some sz⟩) 1 1, H1.new (.cells (cellsL x) true), fun α k => ?_, .inr ⟨H1.next, 1, [], rfl, Nat.le_refl _, ?_, by simpa using hx, by simp, by show H1.next < H1.next + 1; omega, rfl⟩, ⟨by show H.next ≤ H1.next + 1; omega, fun j hj _ => by rw [get_new, if_neg (by omega), g1 j hj]⟩, fun j hj => ?_, ⟨_, rfl⟩⟩
    · rw [hb']
      unfold pAppend appendV
      rw [hsrc]
      dsimp only
      rw [if_neg (by decide), if_pos ⟨by omega, h1⟩]
      rfl
    · rw [get_new, if_pos rfl, List.nil_append, List.append_nil]
    · cases hj; exact .inr (by show H.next ≤ H1.next; omega)
  · have gy : H1.get y = some (.cells (cs ++ rest) true) := by rw [g1 y k5]; exact k2
    have hyn : y ≠ H.next := by omega
    by_cases hc : n + 1 ≤ c
    · -- in place
      have hrl : sz ≤ rest.length := by
        rw [k4]
        have : 1 * sz ≤ (c - n) * sz := Nat.mul_le_mul_right sz (by omega)
        omega
      have hsp : spl (cs ++ rest) (0 + n * sz) (cellsL x) = (cs ++ cellsL x) ++ rest.drop sz := by
        unfold spl
        rw [Nat.zero_add, ← k3, List.take_left' rfl, hx]
        rw [List.drop_append, List.drop_of_length_le (by omega), List.nil_append, Nat.add_sub_cancel_left]
      refine ⟨.slice (some ⟨y, 0, some sz⟩) (n + 1) c, H1.set y (some (.cells ((cs ++ cellsL x) ++ rest.drop sz) true)), fun α k => ?_, .inr ⟨y, c, rest.drop sz, rfl, hc, ?_, ?_, ?_, by show y < H1.next; omega, ?_⟩, ⟨by show H.next ≤ H1.next; omega, fun j hj hm => ?_⟩, fun j hj => ?_, ⟨_, rfl⟩⟩
      · rw [hb']
        unfold pAppend appendV
        rw [hsrc]
        dsimp only
        rw [if_neg (by simp), if_neg (by omega), gy]
        dsimp only
        rw [if_pos hc, if_pos ⟨by rw [List.length_append, k3, k4]; have := Nat.mul_le_mul_right sz hc; rw [Nat.sub_mul]; have := Nat.mul_le_mul_right sz k1; omega, h1⟩, hsp]
      · rw [get_set, if_pos rfl]
      · rw [List.length_append, k3, hx, Nat.succ_mul]
      · rw [List.length_drop, k4]
        have : (c - n) * sz = (c - (n + 1)) * sz + sz := by rw [← Nat.succ_mul]; congr 1; omega
        omega
      · rw [List.all_eq_true] at k6 ⊢
        exact fun z hz => k6 z (List.mem_of_mem_drop hz)
      · rw [get_set, if_neg (fun e => hm (by rw [e]; rfl)), g1 j hj]
      · cases hj; exact .inl rfl
    · -- it moves
      refine ⟨.slice (some ⟨H1.next, 0, some sz⟩) (n + 1) (n + 1), (H1.set y none).new (.cells (cs ++ cellsL x) true), fun α k => ?_, .inr ⟨H1.next, n + 1, [], rfl, Nat.le_refl _, ?_, ?_, by simp, by show H1.next < H1.next + 1; omega, rfl⟩, ⟨by show H.next ≤ H1.next + 1; omega, fun j hj hm => ?_⟩, fun j hj => ?_, ⟨_, rfl⟩⟩
      · rw [hb']
        unfold pAppend appendV
        rw [hsrc]
        dsimp only
        have ht : ((cs ++ rest).drop 0).take (n * sz) = cs := by rw [List.drop_zero, ← k3, List.take_left' rfl]
        rw [if_neg (by simp), if_neg (by omega), gy]
        dsimp only
        rw [if_neg hc, if_pos ⟨by rw [List.length_append, k3]; omega, hb, h1⟩, ht]
      · rw [get_new, if_pos (show H1.next = (H1.set y none).next from rfl), List.append_nil]
      · rw [List.length_append, k3, hx, Nat.succ_mul]
      · rw [get_new, if_neg (by show ¬ j = H1.next; omega), get_set, if_neg (fun e => hm (by rw [e]; rfl)), g1 j hj]
      · cases hj; exact .inr (by show H.next ≤ H1.next; omega)
end
end Go.AM
/- The abstract machine: slices that are read; appending them. -/
set_option linter.unusedVariables false
set_option linter.unusedSimpArgs false
namespace Go.AM
open Go
/-- A slice that may be read. -/
def Rdb (H : Hp) (sz : Nat) (v : Value) (n : Nat) (cs : List Value) : Prop :=
  (n = 0 ∧ cs = [] ∧ v = .slice none 0 0) ∨ ∃ y c rest own, v = .slice (some ⟨y, 0, some sz⟩) n c ∧ n ≤ c ∧ H.get y = some (.cells (cs ++ rest) own) ∧ cs.length = n * sz ∧ y < H.next
section
variable {H H' : Hp} {sz : Nat} {v : Value} {n : Nat} {cs : List Value}
theorem Vec.rd (h : Vec H sz v n cs) : Rdb H sz v n cs := by
  rcases h with e | ⟨y, c, rest, rfl, h1, h2, h3, h4, h5, h6⟩
  · exact .inl e
  · exact .inr ⟨y, c, rest, true, rfl, h1, h2, h3, h5⟩
theorem Rdb.len (h : Rdb H sz v n cs) {α : Type} (H' : Hp) (k : Value → Option α) : pLen .sl v H' k = k (.int .i64 n) := by
  rcases h with ⟨rfl, _, rfl⟩ | ⟨y, c, rest, own, rfl, _⟩ <;> rfl
theorem Rdb.size (h : Rdb H sz v n cs) : cs.length = n * sz := by
  rcases h with ⟨rfl, rfl, _⟩ | ⟨y, c, rest, own, _, _, _, h, _⟩
  · simp
  · exact h
theorem Rdb.lt (h : Rdb H sz v n cs) {j : Nat} (hj : Id v j) : j < H.next := by
  rcases h with ⟨_, _, rfl⟩ | ⟨y, c, rest, own, rfl, _, _, _, h⟩
  · cases hj
  · cases hj; exact h
theorem Rdb.keep' (h : Rdb H sz v n cs) (hg : ∀ j, Id v j → H'.get j = H.get j) (hn : H.next ≤ H'.next) : Rdb H' sz v n cs := by
  rcases h with e | ⟨y, c, rest, own, rfl, h1, h2, h3, h4⟩
  · exact .inl e
  · exact .inr ⟨y, c, rest, own, rfl, h1, by rw [hg y rfl]; exact h2, h3, Nat.lt_of_lt_of_le h4 hn⟩
theorem Rdb.keep {M : Nat → Prop} (h : Rdb H sz v n cs) (k : Frm M H H') (hm : ∀ j, Id v j → ¬ M j) : Rdb H' sz v n cs :=
  h.keep' (fun j hj => k.same j (h.lt hj) (hm j hj)) k.next
theorem Rdb.ix (h : Rdb H sz v n cs) {i : Nat} (hi : i < n) : ∃ y, Id v y ∧ (∃ rest own, H.get y = some (.cells (cs ++ rest) own)) ∧ ∀ (α : Type) (kd : IntKind) (k : Value → Option α), pIdx sz v (.int kd (i : Int)) k = k (.pointer (some ⟨y, i * sz, none⟩)) := by
  rcases h with ⟨rfl, _, _⟩ | ⟨y, c, rest, own, rfl, h1, h2, h3, h4⟩
  · omega
  · refine ⟨y, rfl, ⟨rest, own, h2⟩, fun α kd k => ?_⟩
    unfold pIdx idxV
    have : sz = sz ∧ (0 : Int) ≤ (i : Int) ∧ (i : Int) < (n : Int) := ⟨rfl, by omega, by omega⟩
    simp only [this, and_self, if_true, Nat.zero_add, Int.toNat_natCast]
theorem Rdb.src (h : Rdb H sz v n cs) : srcCells sz v H = some (n, cs) := by
  rcases h with ⟨rfl, rfl, rfl⟩ | ⟨y, c, rest, own, rfl, h1, h2, h3, h4⟩
  · rfl
  · unfold srcCells
    dsimp only
    rw [if_pos rfl, h2]
    dsimp only
    rw [if_pos (by rw [List.length_append]; omega), List.drop_zero, ← h3, List.take_left' rfl]
/-- A slice is appended. -/
theorem Vec.app (h : Vec H sz v n cs) {x : Value} {m : Nat} {new : List Value} (hx : Rdb H sz x m new) {bytes : Nat} (h1 : new.all one = true) (hb : (n + m) * bytes ≤ 2 ^ 47) :
    ∃ v' H', (∀ (α : Type) (k : Value → Hp → Option α), pAppend sz bytes v x H k = k v' H') ∧ Vec H' sz v' (n + m) (cs ++ new) ∧ Frm (Id v) H H' ∧ (∀ j, Id v' j → Id v j ∨ H.next ≤ j) := by
  have hsrc := hx.src
  have hxl := hx.size
  rcases h with ⟨rfl, rfl, rfl⟩ | ⟨y, c, rest, rfl, k1, k2, k3, k4, k5, k6⟩
  · by_cases hm : m = 0
    · subst hm
      refine ⟨.slice none 0 0, H, fun α k => ?_, ?_, Frm.refl _ _, fun j hj => .inl hj⟩
      · have : appendV sz bytes (.slice none 0 0) x H = some (.slice none 0 0, H) := by
          unfold appendV
          rw [hsrc]; rfl
        unfold pAppend
        rw [this]
      · have : new = [] := List.length_eq_zero_iff.1 (by omega)
        subst this
        exact Vec.nil H sz
    · refine ⟨.slice (some ⟨H.next, 0, some sz⟩) m m, H.new (.cells new true), fun α k => ?_, .inr ⟨H.next, m, [], by simp, by omega, ?_, by simp; omega, by simp, by show H.next < H.next + 1; omega, rfl⟩, fr_new _ _ _, fun j hj => ?_⟩
      · have : appendV sz bytes (.slice none 0 0) x H = some (.slice (some ⟨H.next, 0, some sz⟩) m m, H.new (.cells new true)) := by
          unfold appendV
          rw [hsrc]
          dsimp only
          rw [if_neg hm, if_pos ⟨by rw [Nat.zero_add] at hb; exact hb, h1⟩]
          rfl
        unfold pAppend
        rw [this]
      · rw [get_new, if_pos rfl, List.nil_append, List.append_nil]
      · cases hj; exact .inr (Nat.le_refl _)
  · by_cases hm : m = 0
    · subst hm
      have : new = [] := List.length_eq_zero_iff.1 (by omega)
      subst this
      refine ⟨.slice (some ⟨y, 0, some sz⟩) n c, H, fun α k => ?_, .inr ⟨y, c, rest, rfl, k1, by rw [List.append_nil]; exact k2, by rw [List.append_nil]; exact k3, k4, k5, k6⟩, Frm.refl _ _, fun j hj => .inl hj⟩
      have : appendV sz bytes (.slice (some ⟨y, 0, some sz⟩) n c) x H = some (.slice (some ⟨y, 0, some sz⟩) n c, H) := by
        unfold appendV
        rw [hsrc]
        dsimp only
        rw [if_neg (by simp), if_pos ⟨rfl, k1⟩]
      unfold pAppend
      rw [this]
    · by_cases hc : n + m ≤ c
      · have hrl : m * sz ≤ rest.length := by rw [k4]; exact Nat.mul_le_mul_right sz (by omega)
        have hsp : spl (cs ++ rest) (0 + n * sz) new = (cs ++ new) ++ rest.drop (m * sz) := by
          unfold spl
          rw [Nat.zero_add, ← k3, List.take_left' rfl, hxl]
          rw [List.drop_append, List.drop_of_length_le (by omega), List.nil_append, Nat.add_sub_cancel_left]
        have hle : (n + m) * sz ≤ c * sz := Nat.mul_le_mul_right sz hc
        have hcl : (cs ++ rest).length = c * sz := by
          rw [List.length_append, k3, k4, ← Nat.add_mul]; congr 1; omega
        refine ⟨.slice (some ⟨y, 0, some sz⟩) (n + m) c, H.set y (some (.cells ((cs ++ new) ++ rest.drop (m * sz)) true)), fun α k => ?_, .inr ⟨y, c, rest.drop (m * sz), rfl, hc, ?_, ?_, ?_, k5, ?_⟩, fr_set _ _ _ _ rfl, fun j hj => .inl hj⟩
        · have : appendV sz bytes (.slice (some ⟨y, 0, some sz⟩) n c) x H = some (.slice (some ⟨y, 0, some sz⟩) (n + m) c, H.set y (some (.cells ((cs ++ new) ++ rest.drop (m * sz)) true))) := by
            unfold appendV
            rw [hsrc]
            dsimp only
            rw [if_neg (by simp), if_neg (by omega), k2]
            dsimp only
            rw [if_pos hc, if_pos ⟨by rw [hcl]; omega, h1⟩, hsp]
          unfold pAppend
          rw [this]
        · rw [get_set, if_pos rfl]
        · rw [List.length_append, k3, hxl, Nat.add_mul]
        · rw [List.length_drop, k4, ← Nat.sub_mul]; congr 1; omega
        · rw [List.all_eq_true] at k6 ⊢
          exact fun z hz => k6 z (List.mem_of_mem_drop hz)
      · have ht : ((cs ++ rest).drop 0).take (n * sz) = cs := by rw [List.drop_zero, ← k3, List.take_left' rfl]
        refine ⟨.slice (some ⟨H.next, 0, some sz⟩) (n + m) (n + m), (H.set y none).new (.cells (cs ++ new) true), fun α k => ?_, .inr ⟨H.next, n + m, [], rfl, Nat.le_refl _, ?_, ?_, by simp, by show H.next < H.next + 1; omega, rfl⟩, ⟨by show H.next ≤ H.next + 1; omega, fun j hj hm' => ?_⟩, fun j hj => ?_⟩
        · have : appendV sz bytes (.slice (some ⟨y, 0, some sz⟩) n c) x H = some (.slice (some ⟨H.next, 0, some sz⟩) (n + m) (n + m), (H.set y none).new (.cells (cs ++ new) true)) := by
            unfold appendV
            rw [hsrc]
            dsimp only
            rw [if_neg (by simp), if_neg (by omega), k2]
            dsimp only
            rw [if_neg hc, if_pos ⟨by rw [List.length_append, k3]; omega, hb, h1⟩, ht]
          unfold pAppend
          rw [this]
        · rw [get_new, if_pos (show H.next = (H.set y none).next from rfl), List.append_nil]
        · rw [List.length_append, k3, hxl, Nat.add_mul]
        · rw [get_new, if_neg (by show ¬ j = H.next; omega), get_set, if_neg (fun e => hm' (by rw [e]; rfl))]
        · cases hj; exact .inr (Nat.le_refl _)
/-- An empty slice that is not nil. -/
theorem Vec.empty (H : Hp) (sz : Nat) (zs : List Value) : (∀ (α : Type) (k : Value → Hp → Option α), pBuildSlice sz zs 0 [] H k = k (.slice (some ⟨H.next, 0, some sz⟩) 0 0) (H.new (.cells [] true))) ∧ Vec (H.new (.cells [] true)) sz (.slice (some ⟨H.next, 0, some sz⟩) 0 0) 0 [] :=
  ⟨fun α k => by
    have : buildSliceV sz zs 0 [] H = some (.slice (some ⟨H.next, 0, some sz⟩) 0 0, H.new (.cells [] true)) := by
      unfold buildSliceV
      rw [if_neg (by omega)]
      rfl
    unfold pBuildSlice
    rw [this], .inr ⟨H.next, 0, [], rfl, Nat.le_refl _, by rw [get_new, if_pos rfl]; rfl, by simp, by simp, by show H.next < H.next + 1; omega, rfl⟩⟩
end
end Go.AM
/- The abstract machine: several slices of a function's own. -/
set_option linter.unusedVariables false
set_option linter.unusedSimpArgs false
namespace Go.AM
open Go
structure Sl where
  sz : Nat
  v : Value
  n : Nat
  cs : List Value
/-- Slices that were made behind H0, apart from each other; what was there at H0 is as it was. -/
structure Own (H0 H : Hp) (vs : List Sl) : Prop where
  next : H0.next ≤ H.next
  old : ∀ j, j < H0.next → H.get j = H0.get j
  vec : ∀ e ∈ vs, Vec H e.sz e.v e.n e.cs
  new : ∀ e ∈ vs, ∀ j, Id e.v j → H0.next ≤ j
  apart : vs.Pairwise fun a b => ∀ j, Id a.v j → ¬ Id b.v j
section
variable {H0 H : Hp} {sz : Nat} {v : Value} {n : Nat} {cs : List Value} {r : List Sl}
theorem Own.nil (H : Hp) : Own H H [] := ⟨Nat.le_refl _, fun _ _ => rfl, fun e h => (by cases h), fun e h => (by cases h), List.Pairwise.nil⟩
theorem Own.head {a : Sl} (h : Own H0 H (a :: r)) : Vec H a.sz a.v a.n a.cs := h.vec a (List.mem_cons_self ..)
theorem Own.tail {a : Sl} (h : Own H0 H (a :: r)) : Own H0 H r :=
  ⟨h.next, h.old, fun e he => h.vec e (List.mem_cons_of_mem _ he), fun e he => h.new e (List.mem_cons_of_mem _ he), (List.pairwise_cons.1 h.apart).2⟩
theorem Own.swap {a b : Sl} (h : Own H0 H (a :: b :: r)) : Own H0 H (b :: a :: r) := by
  obtain ⟨h1, h2⟩ := List.pairwise_cons.1 h.apart
  obtain ⟨h3, h4⟩ := List.pairwise_cons.1 h2
  refine ⟨h.next, h.old, fun e he => h.vec e ?_, fun e he => h.new e ?_, List.pairwise_cons.2 ⟨fun e he j a b => ?_, List.pairwise_cons.2 ⟨fun e he => h1 e (List.mem_cons_of_mem _ he), h4⟩⟩⟩
  · simp only [List.mem_cons] at he ⊢
    rcases he with e | e | e <;> simp [e]
  · simp only [List.mem_cons] at he ⊢
    rcases he with e | e | e <;> simp [e]
  · rcases List.mem_cons.1 he with rfl | he
    · exact h1 _ (List.mem_cons_self ..) j b a
    · exact h3 e he j a b
theorem Own.third {a b c : Sl} (h : Own H0 H (a :: b :: c :: r)) : Own H0 H (c :: a :: b :: r) := by
  -- c to the front
  obtain ⟨h1, h2⟩ := List.pairwise_cons.1 h.apart
  obtain ⟨h3, h4⟩ := List.pairwise_cons.1 h2
  obtain ⟨h5, h6⟩ := List.pairwise_cons.1 h4
  refine ⟨h.next, h.old, fun e he => h.vec e ?_, fun e he => h.new e ?_, List.pairwise_cons.2 ⟨fun e he j x y => ?_, List.pairwise_cons.2 ⟨fun e he => ?_, List.pairwise_cons.2 ⟨fun e he => h3 e (List.mem_cons_of_mem _ he), h6⟩⟩⟩⟩
  · simp only [List.mem_cons] at he ⊢
    rcases he with e | e | e | e <;> simp [e]
  · simp only [List.mem_cons] at he ⊢
    rcases he with e | e | e | e <;> simp [e]
  · rcases List.mem_cons.1 he with rfl | he
    · exact h1 _ (by simp) j y x
    · rcases List.mem_cons.1 he with rfl | he
      · exact h3 _ (by simp) j y x
      · exact h5 e he j x y
  · rcases List.mem_cons.1 he with rfl | he
    · exact h1 _ (by simp)
    · exact h1 e (by simp [he])
/-- The first one changes, the others stay. -/
theorem Own.upd {a a' : Sl} {H' : Hp} (h : Own H0 H (a :: r)) (hv : Vec H' a'.sz a'.v a'.n a'.cs) (hf : Frm (Id a.v) H H') (hi : ∀ j, Id a'.v j → Id a.v j ∨ H.next ≤ j) : Own H0 H' (a' :: r) := by
  obtain ⟨h1, h2⟩ := List.pairwise_cons.1 h.apart
  have hn := h.next
  refine ⟨Nat.le_trans h.next hf.next, fun j hj => ?_, fun e he => ?_, fun e he j hj => ?_, List.pairwise_cons.2 ⟨fun e he j x y => ?_, h2⟩⟩
  · rw [hf.same j (Nat.lt_of_lt_of_le hj h.next) (fun q => by have := h.new a (by simp) j q; omega), h.old j hj]
  · rcases List.mem_cons.1 he with rfl | he
    · exact hv
    · exact (h.vec e (by simp [he])).keep hf fun j x y => h1 e he j y x
  · rcases List.mem_cons.1 he with rfl | he
    · rcases hi j hj with q | q
      · exact h.new a (by simp) j q
      · omega
    · exact h.new e (by simp [he]) j hj
  · rcases hi j x with q | q
    · exact h1 e he j q y
    · have := (h.vec e (by simp [he])).lt y; omega
/-- One more, that is new. -/
theorem Own.add {a : Sl} {H' : Hp} (h : Own H0 H r) (hv : Vec H' a.sz a.v a.n a.cs) (hf : Frm (fun _ => False) H H') (hi : ∀ j, Id a.v j → H.next ≤ j) : Own H0 H' (a :: r) := by
  have hn := h.next
  refine ⟨Nat.le_trans h.next hf.next, fun j hj => ?_, fun e he => ?_, fun e he j hj => ?_, List.pairwise_cons.2 ⟨fun e he j x y => ?_, h.apart⟩⟩
  · rw [hf.same j (Nat.lt_of_lt_of_le hj h.next) (fun q => q), h.old j hj]
  · rcases List.mem_cons.1 he with rfl | he
    · exact hv
    · exact (h.vec e he).keep hf fun j _ q => q
  · rcases List.mem_cons.1 he with rfl | he
    · have := hi j hj; omega
    · exact h.new e he j hj
  · have := hi j x
    have := (h.vec e he).lt y; omega
/-- A call that leaves all as it was. -/
theorem Own.frm {H' : Hp} (h : Own H0 H r) (hf : Frm (fun _ => False) H H') : Own H0 H' r :=
  ⟨Nat.le_trans h.next hf.next, fun j hj => by rw [hf.same j (Nat.lt_of_lt_of_le hj h.next) (fun q => q), h.old j hj], fun e he => (h.vec e he).keep hf fun j _ q => q, h.new, h.apart⟩
theorem Own.toFrm (h : Own H0 H r) : Frm (fun _ => False) H0 H := ⟨h.next, fun j hj _ => h.old j hj⟩
/-- Nothing yet, and a nil slice. -/
theorem Own.addNil (h : Own H0 H r) (sz : Nat) : Own H0 H (⟨sz, .slice none 0 0, 0, []⟩ :: r) := by
  refine ⟨h.next, h.old, fun e he => ?_, fun e he j hj => ?_, List.pairwise_cons.2 ⟨fun e he j x => (by cases x), h.apart⟩⟩
  · rcases List.mem_cons.1 he with rfl | he
    · exact Vec.nil H sz
    · exact h.vec e he
  · rcases List.mem_cons.1 he with rfl | he
    · cases hj
    · exact h.new e he j hj
/-- Push. -/
theorem Own.push (h : Own H0 H (⟨sz, v, n, cs⟩ :: r)) {bytes : Nat} {zs : List Value} {x : Value} (hs : 0 < sz) (hs2 : sz ≤ 2 ^ 24) (hz : zs.length = sz) (hx : (cellsL x).length = sz) (h1 : (cellsL x).all one = true) (hb : (n + 1) * bytes ≤ 2 ^ 47) :
    ∃ v' H', (∀ (α : Type) (k : Value → Hp → Option α), (pBuildSlice sz zs 1 [(0, x)] H fun t H1 => pAppend sz bytes v t H1 k) = k v' H') ∧ Own H0 H' (⟨sz, v', n + 1, cs ++ cellsL x⟩ :: r) := by
  obtain ⟨v', H', e1, e2, e3, e4, _⟩ := h.head.push (bytes := bytes) (zs := zs) hs hs2 hz hx h1 hb
  exact ⟨v', H', e1, h.upd (a' := ⟨sz, v', n + 1, cs ++ cellsL x⟩) e2 e3 e4⟩
/-- Cut. -/
theorem Own.cut (h : Own H0 H (⟨sz, v, n, cs⟩ :: r)) (hcs : cs.all one = true) {m : Nat} (hm : m ≤ n) : ∃ v', (∀ (α : Type) (kd : IntKind) (k : Value → Option α), pSlice sz v none (some (.int kd (m : Int))) k = k v') ∧ Own H0 H (⟨sz, v', m, cs.take (m * sz)⟩ :: r) := by
  obtain ⟨v', e1, e2, e3⟩ := h.head.cut hcs hm
  exact ⟨v', e1, h.upd (a' := ⟨sz, v', m, cs.take (m * sz)⟩) e2 (Frm.refl _ _) fun j q => .inl (e3 j q)⟩
/-- Store. -/
theorem Own.set (h : Own H0 H (⟨sz, v, n, cs⟩ :: r)) {i : Nat} (hi : i < n) : ∃ y, Id v y ∧ (∀ (α : Type) (kd : IntKind) (k : Value → Option α), pIdx sz v (.int kd (i : Int)) k = k (.pointer (some ⟨y, i * sz, none⟩))) ∧
    (∀ (o : Nat) (x : Value), cs[o]? = some x → ∀ (α : Type) (k : Value → Option α), pLoad 1 false H (.pointer (some ⟨y, o, none⟩)) k = k x) ∧
    (∀ (o m : Nat), o + m ≤ n * sz → ∀ (α : Type) (k : Value → Option α), pLoad m true H (.pointer (some ⟨y, o, none⟩)) k = k (.agg ((cs.drop o).take m).toArray)) ∧
    (∀ (o m : Nat) (x : Value), (cellsL x).length = m → o + m ≤ n * sz → (cellsL x).all one = true → ∃ H', (∀ (α : Type) (k : Hp → Option α), pStore m H (.pointer (some ⟨y, o, none⟩)) x k = k H') ∧ Own H0 H' (⟨sz, v, n, spl cs o (cellsL x)⟩ :: r)) := by
  obtain ⟨y, hy, ⟨rest, hg⟩, hix⟩ := h.head.ix hi
  have hl := h.head.size
  dsimp only at hl hy hg hix
  refine ⟨y, hy, hix, fun o x hx α k => ld_cell hg hx k, fun o m ho α k => (by have h2 : o + m ≤ cs.length := (by rw [hl]; exact ho); exact ld_agg hg h2 k), fun o m x hm ho h1 => ?_⟩
  obtain ⟨H', e1, e2, e3, e4⟩ := h.head.set (o := o) hy hm (by dsimp only; omega) h1
  exact ⟨H', e1, h.upd (a' := ⟨sz, v, n, spl cs o (cellsL x)⟩) e2 e3 fun j q => .inl q⟩
theorem Own.make (h : Own H0 H r) {bytes : Nat} {zs : List Value} (hz : zs.length = sz) {n : Nat} (hb : n * bytes ≤ 2 ^ 47) :
    ∃ v H', (∀ (α : Type) (k : Value → Hp → Option α), pMakeSlice sz bytes zs (.int .i64 (n : Int)) (.int .i64 (n : Int)) H k = k v H') ∧ Own H0 H' (⟨sz, v, n, repl n zs⟩ :: r) := by
  obtain ⟨v, e1, e2, e3⟩ := Vec.make H hz hb
  exact ⟨v, _, e1, h.add (a := ⟨sz, v, n, repl n zs⟩) e2 (fr_new _ _ _) fun j q => by have := e3 j q; omega⟩
/-- Writing one cell of a row of cells of one kind. -/
theorem spl_set {α : Type} (f : α → Value) (l : List α) {i : Nat} (hi : i < l.length) (x : α) : spl (l.map f) (i * 1) [f x] = (l.set i x).map f := by
  unfold spl
  rw [Nat.mul_one, List.map_set, List.set_eq_take_append_cons_drop, if_pos (by simpa using hi)]
  simp
end
end Go.AM
/- Naturals by their digits to a base, plainly. -/
set_option linter.unusedVariables false
namespace Go.AM
/-- The digits of a natural to the base b, the lowest first; none of 0. -/
def digs (b : Nat) : Nat → Nat → List Nat
  | 0, _ => []
  | f + 1, n => if n = 0 then [] else n % b :: digs b f (n / b)
def dg (b n : Nat) : List Nat := digs b n n
theorem digs_fuel {b : Nat} (hb : 2 ≤ b) : ∀ (n f g : Nat), n ≤ f → n ≤ g → digs b f n = digs b g n := by
  intro n
  induction n using Nat.strongRecOn with
  | _ n ih =>
    intro f g hf hg
    cases f with
    | zero =>
      have : n = 0 := by omega
      subst this
      cases g with
      | zero => rfl
      | succ g => simp [digs]
    | succ f =>
      cases g with
      | zero =>
        have : n = 0 := by omega
        subst this
        simp [digs]
      | succ g =>
        unfold digs
        by_cases h : n = 0
        · rw [if_pos h, if_pos h]
        · rw [if_neg h, if_neg h]
          have : n / b < n := Nat.div_lt_self (by omega) (by omega)
          rw [ih (n / b) this f g (by omega) (by omega)]
theorem dg_zero (b : Nat) : dg b 0 = [] := rfl
theorem dg_pos {b : Nat} (hb : 2 ≤ b) {n : Nat} (h : n ≠ 0) : dg b n = n % b :: dg b (n / b) := by
  cases n with
  | zero => exact absurd rfl h
  | succ n =>
    have e : digs b (n + 1) (n + 1) = if n + 1 = 0 then [] else (n + 1) % b :: digs b n ((n + 1) / b) := rfl
    show digs b (n + 1) (n + 1) = (n + 1) % b :: digs b ((n + 1) / b) ((n + 1) / b)
    have : (n + 1) / b < n + 1 := Nat.div_lt_self (by omega) (by omega)
    rw [e, if_neg h, digs_fuel hb ((n + 1) / b) n ((n + 1) / b) (by omega) (Nat.le_refl _)]
theorem dg_nil {b : Nat} (hb : 2 ≤ b) {n : Nat} : dg b n = [] ↔ n = 0 := by
  constructor
  · intro h
    rcases Nat.eq_zero_or_pos n with q | q
    · exact q
    · rw [dg_pos hb (by omega)] at h; cases h
  · rintro rfl; rfl
theorem dg_lt {b : Nat} (hb : 2 ≤ b) : ∀ (n : Nat), ∀ x ∈ dg b n, x < b := by
  intro n
  induction n using Nat.strongRecOn with
  | _ n ih =>
    intro x hx
    by_cases h : n = 0
    · subst h; cases hx
    · rw [dg_pos hb h] at hx
      rcases List.mem_cons.1 hx with rfl | hx
      · exact Nat.mod_lt _ (by omega)
      · exact ih (n / b) (Nat.div_lt_self (by omega) (by omega)) x hx
/-- The value of digits. -/
def vl (b : Nat) : List Nat → Nat
  | [] => 0
  | x :: l => x + b * vl b l
theorem vl_dg {b : Nat} (hb : 2 ≤ b) : ∀ (n : Nat), vl b (dg b n) = n := by
  intro n
  induction n using Nat.strongRecOn with
  | _ n ih =>
    by_cases h : n = 0
    · subst h; rfl
    · rw [dg_pos hb h]
      show n % b + b * vl b (dg b (n / b)) = n
      rw [ih (n / b) (Nat.div_lt_self (by omega) (by omega))]
      exact Nat.mod_add_div n b
theorem vl_app (b : Nat) : ∀ (l m : List Nat), vl b (l ++ m) = vl b l + b ^ l.length * vl b m
  | [], m => by simp [vl]
  | x :: l, m => by
    show x + b * vl b (l ++ m) = x + b * vl b l + b ^ (l.length + 1) * vl b m
    rw [vl_app b l m, Nat.mul_add, Nat.pow_succ]
    rw [show b ^ l.length * b * vl b m = b * (b ^ l.length * vl b m) by rw [Nat.mul_comm (b ^ l.length) b, Nat.mul_assoc]]
    omega
theorem vl_lt {b : Nat} (hb : 2 ≤ b) : ∀ (l : List Nat), (∀ x ∈ l, x < b) → vl b l < b ^ l.length
  | [], _ => by simp [vl]
  | x :: l, h => by
    have h1 := h x (List.mem_cons_self ..)
    have h2 := vl_lt hb l fun y hy => h y (List.mem_cons_of_mem _ hy)
    show x + b * vl b l < b ^ (l.length + 1)
    rw [Nat.pow_succ, Nat.mul_comm (b ^ l.length) b]
    have h3 : b * (vl b l + 1) ≤ b * b ^ l.length := Nat.mul_le_mul_left b h2
    rw [Nat.mul_add, Nat.mul_one] at h3
    omega
/-- Digits below the base, the highest not 0, are those of their value. -/
theorem dg_vl {b : Nat} (hb : 2 ≤ b) : ∀ (l : List Nat), (∀ x ∈ l, x < b) → (∀ x, l.getLast? = some x → x ≠ 0) → dg b (vl b l) = l
  | [], _, _ => rfl
  | x :: l, h, hz => by
    have hx := h x (List.mem_cons_self ..)
    have ih := dg_vl hb l (fun y hy => h y (List.mem_cons_of_mem _ hy)) (fun y hy => by
      cases l with
      | nil => cases hy
      | cons z l => exact hz y (by rw [List.getLast?_cons_cons]; exact hy))
    have hne : vl b (x :: l) ≠ 0 := by
      show x + b * vl b l ≠ 0
      cases l with
      | nil =>
        have := hz x rfl
        simp [vl]; exact this
      | cons z l =>
        intro e
        have e2 : vl b (z :: l) = 0 := by
          have : b * vl b (z :: l) = 0 := by omega
          rcases Nat.mul_eq_zero.1 this with q | q
          · omega
          · exact q
        rw [e2] at ih
        cases ih
    rw [dg_pos hb hne]
    have e1 : vl b (x :: l) % b = x := by
      show (x + b * vl b l) % b = x
      rw [Nat.add_mul_mod_self_left]; exact Nat.mod_eq_of_lt hx
    have e2 : vl b (x :: l) / b = vl b l := by
      show (x + b * vl b l) / b = vl b l
      rw [Nat.add_mul_div_left _ _ (by omega), Nat.div_eq_of_lt hx, Nat.zero_add]
    rw [e1, e2, ih]
theorem dg_len_lt {b : Nat} (hb : 2 ≤ b) {n k : Nat} (h : n < b ^ k) : (dg b n).length ≤ k := by
  induction k generalizing n with
  | zero =>
    have : n = 0 := by simpa using h
    subst this; simp [dg_zero]
  | succ k ih =>
    by_cases h0 : n = 0
    · subst h0; simp [dg_zero]
    · rw [dg_pos hb h0, List.length_cons]
      have : n / b < b ^ k := Nat.div_lt_of_lt_mul (by rw [Nat.mul_comm, ← Nat.pow_succ]; exact h)
      have := ih this
      omega
/-- Held against each other: the lengths, then the highest digit that is unlike. -/
theorem dg_len_mono {b : Nat} (hb : 2 ≤ b) : ∀ (m n : Nat), n ≤ m → (dg b n).length ≤ (dg b m).length := by
  intro m
  induction m using Nat.strongRecOn with
  | _ m ih =>
    intro n h
    by_cases h0 : n = 0
    · subst h0; simp [dg_zero]
    · have hm : m ≠ 0 := by omega
      rw [dg_pos hb h0, dg_pos hb hm, List.length_cons, List.length_cons]
      have := ih (m / b) (Nat.div_lt_self (by omega) (by omega)) (n / b) (Nat.div_le_div_right h)
      omega
end Go.AM
/- The abstract machine: the primitives, by rule. -/
set_option linter.unusedVariables false
set_option linter.unusedSimpArgs false
namespace Go.AM
open Go
section
variable {α : Type} {P : Program}
theorem q_brf (x y : Option α) : br false x y = y := rfl
theorem q_brt (x y : Option α) : br true x y = x := rfl
theorem q_head (v : Value) (l : List Value) : (v :: l).headD undef = v := rfl
theorem q_conv (kd k2 : IntKind) (a : Int) (k : Value → Option α) : pConvInt kd (.int k2 a) k = k (.int kd (kd.wrap a)) := rfl
theorem q_slen (s : ByteArray) (H : Hp) (k : Value → Option α) : pLen .str (.string s) H k = k (.int .i64 s.size) := rfl
theorem q_chk {q : Prop} (h : q) (k : Option α) : chk q k = k := by unfold chk; exact if_pos h
theorem q_ext0 (x y : Value) (k : Value → Option α) : pExtract (.tuple #[x, y]) 0 k = k x := rfl
theorem q_ext1 (x y : Value) (k : Value → Option α) : pExtract (.tuple #[x, y]) 1 k = k y := rfl
theorem q_wrap {k : IntKind} {n : Int} (h1 : k.min ≤ n) (h2 : n ≤ k.max) : k.wrap n = n := by
  cases k <;> simp [IntKind.wrap, IntKind.min, IntKind.max, IntKind.signed, IntKind.bits] at * <;> omega
theorem q_i64 {x : Int} (h1 : -9223372036854775808 ≤ x) (h2 : x ≤ 9223372036854775807) : IntKind.i64.wrap x = x := q_wrap (by have : IntKind.i64.min = -9223372036854775808 := rfl; omega) (by have : IntKind.i64.max = 9223372036854775807 := rfl; omega)
theorem q_u64 {x : Int} (h1 : 0 ≤ x) (h2 : x ≤ 18446744073709551615) : IntKind.u64.wrap x = x := q_wrap (by have : IntKind.u64.min = 0 := rfl; omega) (by have : IntKind.u64.max = 18446744073709551615 := rfl; omega)
theorem q_u8 {x : Int} (h1 : 0 ≤ x) (h2 : x ≤ 255) : IntKind.u8.wrap x = x := q_wrap (by have : IntKind.u8.min = 0 := rfl; omega) (by have : IntKind.u8.max = 255 := rfl; omega)
theorem q_rem (T : TypeId) (kd : IntKind) (a b : Nat) (hb : b ≠ 0) (k : Value → Option α) : pBin P .rem T (.int kd (a : Int)) (.int kd (b : Int)) k = k (.int kd ((a % b : Nat) : Int)) := by
  have hb' : ¬ (b : Int) = 0 := by omega
  have : ((a : Int).tmod (b : Int)) = ((a % b : Nat) : Int) := Int.ofNat_tmod a b |>.symm
  have : binV P .rem T (.int kd (a : Int)) (.int kd (b : Int)) = some (.int kd ((a % b : Nat) : Int)) := by
    show (if kd = kd then intOp .rem kd (a : Int) (b : Int) else none) = _
    rw [if_pos rfl]
    unfold intOp
    dsimp only
    rw [if_neg hb', this]
  unfold pBin; rw [this]
theorem q_quo (T : TypeId) (a b : Nat) (hb : b ≠ 0) (ha : a < 18446744073709551616) (k : Value → Option α) : pBin P .quo T (.int .u64 (a : Int)) (.int .u64 (b : Int)) k = k (.int .u64 ((a / b : Nat) : Int)) := by
  have hb' : ¬ (b : Int) = 0 := by omega
  have h1 : ((a : Int).tdiv (b : Int)) = ((a / b : Nat) : Int) := rfl
  have h2 : a / b ≤ a := Nat.div_le_self a b
  have h3 : IntKind.u64.wrap ((a / b : Nat) : Int) = ((a / b : Nat) : Int) := by
    clear h1
    generalize a / b = q at h2
    exact q_u64 (by omega) (by omega)
  have : binV P .quo T (.int .u64 (a : Int)) (.int .u64 (b : Int)) = some (.int .u64 ((a / b : Nat) : Int)) := by
    show (if IntKind.u64 = IntKind.u64 then intOp .quo .u64 (a : Int) (b : Int) else none) = _
    rw [if_pos rfl]
    unfold intOp
    dsimp only
    rw [if_neg hb', h1, h3]
  unfold pBin; rw [this]
theorem q_add (T : TypeId) (a b : Nat) (h : a + b < 18446744073709551616) (k : Value → Option α) : pBin P .add T (.int .u64 (a : Int)) (.int .u64 (b : Int)) k = k (.int .u64 ((a + b : Nat) : Int)) := by
  rw [s_add, q_u64 (by omega) (by omega)]; rfl
theorem q_mul (T : TypeId) (a b : Nat) (h : a * b < 18446744073709551616) (k : Value → Option α) : pBin P .mul T (.int .u64 (a : Int)) (.int .u64 (b : Int)) k = k (.int .u64 ((a * b : Nat) : Int)) := by
  rw [s_mul, ← Int.natCast_mul, q_u64 (by omega) (by omega)]
theorem q_at (s : ByteArray) (i : Nat) (b : UInt8) (h : s.data.toList[i]? = some b) (k : Value → Option α) : pAtStr (.string s) (.int .i64 (i : Int)) k = k (.int .u8 (b.toNat : Int)) := by
  have hi : i < s.data.toList.length := (List.getElem?_eq_some_iff.1 h).1
  have hb : s[i]? = some b := by
    have h1 : s.data[i]? = some b := by rw [← h]; simp
    obtain ⟨h2, h3⟩ := Array.getElem?_eq_some_iff.1 h1
    have h4 : i < s.size := h2
    rw [getElem?_pos s i h4]
    exact congrArg some h3
  have : atStr s (i : Int) = some (.int .u8 (b.toNat : Int)) := by
    unfold atStr
    rw [if_pos (by omega), Int.toNat_natCast, hb]; rfl
  unfold pAtStr
  dsimp only
  rw [this]
theorem q_seql (T : TypeId) (a b : ByteArray) (k : Value → Option α) : pBin P .eql T (.string a) (.string b) k = k (.bool (a.toList == b.toList)) := rfl
theorem q_beql (T : TypeId) (a b : Bool) (hT : P.underlying T = some .bool) (k : Value → Option α) : pBin P .eql T (.bool a) (.bool b) k = k (.bool (a == b)) := by
  have : eqT P Op.maxDepth T (.bool a) (.bool b) = some (a == b) := by
    unfold Op.maxDepth
    simp only [eqT, hT]
  simp only [pBin, binV, eqOp, this]
end
/-- Numbers without a sign, as cells. -/
def u64s (l : List Nat) : List Value := l.map fun (t : Nat) => Value.int .u64 (t : Int)
theorem u64s_len (l : List Nat) : (u64s l).length = l.length := by simp [u64s]
theorem u64s_one (l : List Nat) : (u64s l).all one = true := by simp [u64s, one]
theorem u64s_app (l m : List Nat) : u64s (l ++ m) = u64s l ++ u64s m := by simp [u64s]
theorem u64s_get {l : List Nat} {i : Nat} {t : Nat} (h : l[i]? = some t) : (u64s l)[i]? = some (.int .u64 (t : Int)) := by simp [u64s, h]
theorem Rdb.u64 {H : Hp} {v : Value} {n : Nat} {l : List Nat} (h : Rdb H 1 v n (u64s l)) {i : Nat} {t : Nat} (ht : l[i]? = some t) :
    ∃ y, (∀ (α : Type) (kd : IntKind) (k : Value → Option α), pIdx 1 v (.int kd (i : Int)) k = k (.pointer (some ⟨y, i * 1, none⟩))) ∧ (∀ (α : Type) (k : Value → Option α), pLoad 1 false H (.pointer (some ⟨y, i * 1, none⟩)) k = k (.int .u64 (t : Int))) := by
  have hs := h.size
  rw [u64s_len] at hs
  obtain ⟨y, hy, ⟨rest, own, hg⟩, hix⟩ := h.ix (i := i) (by have := (List.getElem?_eq_some_iff.1 ht).1; omega)
  exact ⟨y, hix, fun α k => ld_cell hg (by rw [Nat.mul_one]; exact u64s_get ht) k⟩
/-- A suffix of digits. -/
theorem dg_drop {b : Nat} (hb : 2 ≤ b) {l : List Nat} {i a : Nat} (h : l.drop i = dg b a) : (a ≠ 0 → l[i]? = some (a % b) ∧ i < l.length) ∧ (a = 0 → l.length ≤ i) ∧ l.drop (i + 1) = dg b (a / b) := by
  by_cases h0 : a = 0
  · subst h0
    have h1 : l.drop i = [] := h
    have h2 : l.length ≤ i := by simpa using h1
    refine ⟨fun q => absurd rfl q, fun _ => h2, ?_⟩
    rw [Nat.zero_div, List.drop_of_length_le (by omega)]; rfl
  · rw [dg_pos hb h0] at h
    have h1 : l[i]? = some (a % b) := by
      have : (l.drop i)[0]? = some (a % b) := by rw [h]; rfl
      rwa [List.getElem?_drop, Nat.add_zero] at this
    have h2 := (List.getElem?_eq_some_iff.1 h1).1
    refine ⟨fun _ => ⟨h1, h2⟩, fun q => absurd q h0, ?_⟩
    have : l.drop (i + 1) = (l.drop i).drop 1 := by rw [List.drop_drop]
    rw [this, h]; rfl
end Go.AM
/- The abstract machine: words of 64 bits. -/
set_option linter.unusedVariables false
set_option linter.unusedSimpArgs false
set_option linter.unusedSectionVars false
namespace Go.AM
open Go
/-- The value of a word. -/
def wv (b : BitVec 64) : Value := .int .u64 (b.toNat : Int)
section
variable {α : Type} {P : Program}
theorem bv_ofInt (a : BitVec 64) : BitVec.ofInt 64 (a.toNat : Int) = a := by
  rw [BitVec.ofInt_natCast, BitVec.ofNat_toNat, BitVec.setWidth_eq]
theorem bv_wrap (a : BitVec 64) : IntKind.u64.wrap (a.toNat : Int) = (a.toNat : Int) := q_u64 (by omega) (by have := a.isLt; omega)
theorem bv_wrapI (x : Int) : Value.int .u64 (IntKind.u64.wrap x) = wv (BitVec.ofInt 64 x) := by
  unfold wv
  congr 1
  rw [BitVec.toNat_ofInt]
  simp [IntKind.wrap, IntKind.signed, IntKind.bits]
  omega
theorem b_bin {op : BinOp} {T : TypeId} {a b c : BitVec 64} {k : Value → Option α} (h : intOp op .u64 (a.toNat : Int) (b.toNat : Int) = some (wv c)) (hop : op ≠ .shl ∧ op ≠ .shr) : pBin P op T (wv a) (wv b) k = k (wv c) := by
  have : binV P op T (wv a) (wv b) = some (wv c) := by
    rw [← h]
    unfold wv binV
    cases op <;> first | rfl | (exact absurd rfl hop.1) | (exact absurd rfl hop.2)
  unfold pBin; rw [this]
theorem b_binB {op : BinOp} {T : TypeId} {a b : BitVec 64} {c : Bool} {k : Value → Option α} (h : intOp op .u64 (a.toNat : Int) (b.toNat : Int) = some (.bool c)) (hop : op ≠ .shl ∧ op ≠ .shr) : pBin P op T (wv a) (wv b) k = k (.bool c) := by
  have : binV P op T (wv a) (wv b) = some (.bool c) := by
    rw [← h]
    unfold wv binV
    cases op <;> first | rfl | (exact absurd rfl hop.1) | (exact absurd rfl hop.2)
  unfold pBin; rw [this]
variable (T : TypeId) (a b : BitVec 64) (k : Value → Option α)
theorem b_and : pBin P .and T (wv a) (wv b) k = k (wv (a &&& b)) := b_bin (by
  show some (Value.int .u64 (IntKind.u64.wrap ((BitVec.ofInt 64 (a.toNat : Int)) &&& (BitVec.ofInt 64 (b.toNat : Int))).toNat)) = _
  rw [bv_ofInt, bv_ofInt, bv_wrap]; rfl) ⟨by decide, by decide⟩
theorem b_or : pBin P .or T (wv a) (wv b) k = k (wv (a ||| b)) := b_bin (by
  show some (Value.int .u64 (IntKind.u64.wrap ((BitVec.ofInt 64 (a.toNat : Int)) ||| (BitVec.ofInt 64 (b.toNat : Int))).toNat)) = _
  rw [bv_ofInt, bv_ofInt, bv_wrap]; rfl) ⟨by decide, by decide⟩
theorem b_xor : pBin P .xor T (wv a) (wv b) k = k (wv (a ^^^ b)) := b_bin (by
  show some (Value.int .u64 (IntKind.u64.wrap ((BitVec.ofInt 64 (a.toNat : Int)) ^^^ (BitVec.ofInt 64 (b.toNat : Int))).toNat)) = _
  rw [bv_ofInt, bv_ofInt, bv_wrap]; rfl) ⟨by decide, by decide⟩
theorem b_andNot : pBin P .andNot T (wv a) (wv b) k = k (wv (a &&& ~~~b)) := b_bin (by
  show some (Value.int .u64 (IntKind.u64.wrap ((BitVec.ofInt 64 (a.toNat : Int)) &&& ~~~(BitVec.ofInt 64 (b.toNat : Int))).toNat)) = _
  rw [bv_ofInt, bv_ofInt, bv_wrap]; rfl) ⟨by decide, by decide⟩
theorem b_not : pUn .xor (wv a) k = k (wv (~~~a)) := by
  have : unV .xor (wv a) = some (wv (~~~a)) := by
    show some (Value.int .u64 (IntKind.u64.wrap ((BitVec.ofInt 64 (IntKind.u64.max)) ^^^ (BitVec.ofInt 64 (a.toNat : Int))).toNat)) = _
    rw [bv_ofInt, bv_wrap]
    have : BitVec.ofInt 64 IntKind.u64.max = BitVec.allOnes 64 := by decide
    rw [this, BitVec.allOnes_xor]; rfl
  unfold pUn; rw [this]
theorem b_add : pBin P .add T (wv a) (wv b) k = k (wv (a + b)) := b_bin (by
  show some (Value.int .u64 (IntKind.u64.wrap ((a.toNat : Int) + b.toNat))) = _
  rw [bv_wrapI]
  congr 2) ⟨by decide, by decide⟩
theorem b_sub : pBin P .sub T (wv a) (wv b) k = k (wv (a - b)) := b_bin (by
  show some (Value.int .u64 (IntKind.u64.wrap ((a.toNat : Int) - b.toNat))) = _
  rw [bv_wrapI]
  congr 2
  apply BitVec.eq_of_toNat_eq
  rw [BitVec.toNat_ofInt, BitVec.toNat_sub]
  have := a.isLt
  have := b.isLt
  omega) ⟨by decide, by decide⟩
theorem b_mul : pBin P .mul T (wv a) (wv b) k = k (wv (a * b)) := b_bin (by
  show some (Value.int .u64 (IntKind.u64.wrap ((a.toNat : Int) * b.toNat))) = _
  rw [bv_wrapI]
  congr 2) ⟨by decide, by decide⟩
theorem b_eql : pBin P .eql T (wv a) (wv b) k = k (.bool (decide (a = b))) := b_binB (by
  show some (Value.bool ((a.toNat : Int) == b.toNat)) = _
  congr 2
  have e : (a.toNat : Int) = b.toNat ↔ a = b := ⟨fun h => BitVec.eq_of_toNat_eq (by omega), fun h => by rw [h]⟩
  rw [Bool.eq_iff_iff]
  simp [e]) ⟨by decide, by decide⟩
theorem b_neq : pBin P .neq T (wv a) (wv b) k = k (.bool (!decide (a = b))) := b_binB (by
  show some (Value.bool ((a.toNat : Int) != b.toNat)) = _
  congr 2
  have e : (a.toNat : Int) = b.toNat ↔ a = b := ⟨fun h => BitVec.eq_of_toNat_eq (by omega), fun h => by rw [h]⟩
  rw [Bool.eq_iff_iff]
  simp [e]) ⟨by decide, by decide⟩
theorem b_lss : pBin P .lss T (wv a) (wv b) k = k (.bool (decide (a.toNat < b.toNat))) := b_binB (by
  show some (Value.bool (decide ((a.toNat : Int) < b.toNat))) = _
  congr 2
  rw [decide_eq_decide]; omega) ⟨by decide, by decide⟩
theorem b_leq : pBin P .leq T (wv a) (wv b) k = k (.bool (decide (a.toNat ≤ b.toNat))) := b_binB (by
  show some (Value.bool (decide ((a.toNat : Int) ≤ b.toNat))) = _
  congr 2
  rw [decide_eq_decide]; omega) ⟨by decide, by decide⟩
theorem b_gtr : pBin P .gtr T (wv a) (wv b) k = k (.bool (decide (b.toNat < a.toNat))) := b_binB (by
  show some (Value.bool (decide ((a.toNat : Int) > b.toNat))) = _
  congr 2
  rw [decide_eq_decide]; omega) ⟨by decide, by decide⟩
theorem b_geq : pBin P .geq T (wv a) (wv b) k = k (.bool (decide (b.toNat ≤ a.toNat))) := b_binB (by
  show some (Value.bool (decide ((a.toNat : Int) ≥ b.toNat))) = _
  congr 2
  rw [decide_eq_decide]; omega) ⟨by decide, by decide⟩
theorem b_shl (kd : IntKind) (n : Nat) : pBin P .shl T (wv a) (.int kd (n : Int)) k = k (wv (a <<< n)) := by
  have : binV P .shl T (wv a) (.int kd (n : Int)) = some (wv (a <<< n)) := by
    show (if (n : Int) < 0 then none else some (Value.int .u64 (IntKind.u64.wrap ((a.toNat : Int) * 2 ^ (min ((n : Int).toNat) 64))))) = _
    rw [if_neg (by omega), bv_wrapI, Int.toNat_natCast]
    congr 2
    apply BitVec.eq_of_toNat_eq
    rw [BitVec.toNat_ofInt, BitVec.toNat_shiftLeft, Nat.shiftLeft_eq]
    have e : ((a.toNat : Int) * 2 ^ (min n 64)) = ((a.toNat * 2 ^ (min n 64) : Nat) : Int) := by push_cast; rfl
    rw [e]
    have e2 : (((a.toNat * 2 ^ (min n 64) : Nat) : Int) % ((2 ^ 64 : Nat) : Int)).toNat = a.toNat * 2 ^ (min n 64) % 2 ^ 64 := by omega
    rw [e2]
    rcases Nat.lt_or_ge n 64 with h | h
    · rw [Nat.min_eq_left (by omega)]
    · rw [Nat.min_eq_right h]
      have : a.toNat * 2 ^ n = a.toNat * 2 ^ (n - 64) * 2 ^ 64 := by
        rw [Nat.mul_assoc, ← Nat.pow_add]; congr 2; omega
      rw [this, Nat.mul_mod_left, Nat.mul_mod_left]
  unfold pBin; rw [this]
theorem b_shr (kd : IntKind) (n : Nat) : pBin P .shr T (wv a) (.int kd (n : Int)) k = k (wv (a >>> n)) := by
  have : binV P .shr T (wv a) (.int kd (n : Int)) = some (wv (a >>> n)) := by
    show (if (n : Int) < 0 then none else some (Value.int .u64 ((a.toNat : Int).fdiv (2 ^ (min ((n : Int).toNat) 64))))) = _
    rw [if_neg (by omega), Int.toNat_natCast]
    unfold wv
    congr 2
    rw [BitVec.toNat_ushiftRight, Nat.shiftRight_eq_div_pow]
    have e : ((2 : Int) ^ (min n 64)) = ((2 ^ (min n 64) : Nat) : Int) := by push_cast; rfl
    rw [e, ← Int.ofNat_fdiv]
    congr 1
    rcases Nat.lt_or_ge n 64 with h | h
    · rw [Nat.min_eq_left (by omega)]
    · rw [Nat.min_eq_right h, Nat.div_eq_of_lt a.isLt, Nat.div_eq_of_lt (Nat.lt_of_lt_of_le a.isLt (Nat.pow_le_pow_right (by decide) h))]
  unfold pBin; rw [this]
end
end Go.AM
/- Words of 64 bits: the least word from one on that has given bits. Plainly. -/
set_option linter.unusedVariables false
set_option linter.unusedSimpArgs false
namespace Go.AM.N14
open Go Go.AM
abbrev W64 := BitVec 64
theorem bit_eq {a b : W64} (h : ∀ j, a.getLsbD j = b.getLsbD j) : a = b := BitVec.eq_of_getLsbD_eq fun i _ => h i
theorem bit_hi (a : W64) {j : Nat} (h : 64 ≤ j) : a.getLsbD j = false := BitVec.getLsbD_of_ge a j h
theorem nat_lt_bits {x y i : Nat} (hx : x.testBit i = false) (hy : y.testBit i = true) (h : ∀ j, i < j → x.testBit j = y.testBit j) : x < y := by
  have e : x / 2 ^ (i + 1) = y / 2 ^ (i + 1) := Nat.eq_of_testBit_eq fun j => by
    rw [Nat.testBit_div_two_pow, Nat.testBit_div_two_pow]; exact h _ (by omega)
  have p : ∀ z : Nat, z / 2 ^ (i + 1) = z / 2 ^ i / 2 := fun z => by rw [Nat.pow_succ, Nat.div_div_eq_div_mul]
  rw [p, p] at e
  rw [Nat.testBit_eq_decide_div_mod_eq] at hx hy
  have hx : ¬ x / 2 ^ i % 2 = 1 := of_decide_eq_false hx
  have hy : y / 2 ^ i % 2 = 1 := of_decide_eq_true hy
  have : x / 2 ^ i < y / 2 ^ i := by omega
  exact Nat.lt_of_not_le fun hle => by have := Nat.div_le_div_right (c := 2 ^ i) hle; omega
theorem lt_of_bits {a b : W64} {i : Nat} (h1 : a.getLsbD i = false) (h2 : b.getLsbD i = true) (h : ∀ j, i < j → a.getLsbD j = b.getLsbD j) : a.toNat < b.toNat :=
  nat_lt_bits (i := i) (by rw [BitVec.testBit_toNat]; exact h1) (by rw [BitVec.testBit_toNat]; exact h2) fun j hj => by rw [BitVec.testBit_toNat, BitVec.testBit_toNat]; exact h j hj
theorem bits_of_ne {a b : Nat} (h : a ≠ b) : ∃ i, a.testBit i ≠ b.testBit i ∧ ∀ j, i < j → a.testBit j = b.testBit j := by
  have hx : a ^^^ b ≠ 0 := fun e => h (Nat.eq_of_testBit_eq fun j => by have q := congrArg (fun z => Nat.testBit z j) e; simpa using q)
  refine ⟨(a ^^^ b).log2, ?_, fun j hj => ?_⟩
  · have : (a ^^^ b).testBit (a ^^^ b).log2 = true := Nat.testBit_log2 hx
    rw [Nat.testBit_xor] at this
    intro e
    rw [e] at this
    simp at this
  · have hl : a ^^^ b < 2 ^ j := Nat.lt_of_lt_of_le Nat.lt_log2_self (Nat.pow_le_pow_right (by decide) hj)
    have : (a ^^^ b).testBit j = false := Nat.testBit_lt_two_pow hl
    rw [Nat.testBit_xor] at this
    simpa using this
theorem bits_of_lt {a b : W64} (h : a.toNat < b.toNat) : ∃ i, i < 64 ∧ a.getLsbD i = false ∧ b.getLsbD i = true ∧ ∀ j, i < j → a.getLsbD j = b.getLsbD j := by
  obtain ⟨i, h1, h2⟩ := bits_of_ne (a := a.toNat) (b := b.toNat) (by omega)
  rw [BitVec.testBit_toNat, BitVec.testBit_toNat] at h1
  have h2 : ∀ j, i < j → a.getLsbD j = b.getLsbD j := fun j hj => by have := h2 j hj; rwa [BitVec.testBit_toNat, BitVec.testBit_toNat] at this
  have hi : i < 64 := by
    rcases Nat.lt_or_ge i 64 with q | q
    · exact q
    · rw [bit_hi a q, bit_hi b q] at h1; exact absurd rfl h1
  cases ha : a.getLsbD i with
  | false =>
    refine ⟨i, hi, ha, ?_, h2⟩
    cases hb : b.getLsbD i with
    | true => rfl
    | false => rw [ha, hb] at h1; exact absurd rfl h1
  | true =>
    cases hb : b.getLsbD i with
    | true => rw [ha, hb] at h1; exact absurd rfl h1
    | false => have := lt_of_bits hb ha fun j hj => (h2 j hj).symm; omega
/-- A word has the bits. -/
def Fit (o z x : W64) : Prop := ∀ j, (o.getLsbD j = true → x.getLsbD j = true) ∧ (z.getLsbD j = true → x.getLsbD j = false)
theorem fit_iff {o z x : W64} : (x &&& o = o ∧ x &&& z = 0#64) ↔ Fit o z x := by
  constructor
  · rintro ⟨h1, h2⟩ j
    have e1 := congrArg (fun b => BitVec.getLsbD b j) h1
    have e2 := congrArg (fun b => BitVec.getLsbD b j) h2
    simp only [BitVec.getLsbD_and, BitVec.getLsbD_zero] at e1 e2
    constructor
    · intro h; rw [h] at e1; simpa using e1
    · intro h; rw [h] at e2; simpa using e2
  · intro h
    constructor
    · refine bit_eq fun j => ?_
      rw [BitVec.getLsbD_and]
      cases ho : o.getLsbD j with
      | false => simp
      | true => rw [(h j).1 ho]; rfl
    · refine bit_eq fun j => ?_
      rw [BitVec.getLsbD_and, BitVec.getLsbD_zero]
      cases hz : z.getLsbD j with
      | false => simp
      | true => rw [(h j).2 hz]; rfl
/-- Disjoint bits. -/
def Dis (o z : W64) : Prop := ∀ j, o.getLsbD j = true → z.getLsbD j = false
theorem Fit.dis {o z x : W64} (h : Fit o z x) : Dis o z := fun j ho => by
  cases hz : z.getLsbD j with
  | false => rfl
  | true => have := (h j).1 ho; rw [(h j).2 hz] at this; cases this
theorem dis_iff {o z : W64} : o &&& z = 0#64 ↔ Dis o z := by
  constructor
  · intro h j ho
    have e := congrArg (fun b => BitVec.getLsbD b j) h
    simp only [BitVec.getLsbD_and, BitVec.getLsbD_zero] at e
    rw [ho] at e; simpa using e
  · intro h
    refine bit_eq fun j => ?_
    rw [BitVec.getLsbD_and, BitVec.getLsbD_zero]
    cases ho : o.getLsbD j with
    | false => rfl
    | true => rw [h j ho]; rfl
/-- The candidate that parts from x at a bit. -/
structure Cand (o x : W64) (h : Nat) (y : W64) : Prop where
  hi : ∀ j, h < j → y.getLsbD j = x.getLsbD j
  mid : y.getLsbD h = true
  lo : ∀ j, j < h → y.getLsbD j = o.getLsbD j
theorem Cand.lt {o x y : W64} {h : Nat} (hc : Cand o x h y) (hx : x.getLsbD h = false) : x.toNat < y.toNat :=
  lt_of_bits hx hc.mid fun j hj => (hc.hi j hj).symm
theorem Cand.fit {o z x y : W64} {h : Nat} (hc : Cand o x h y) (hd : Dis o z) (hz : z.getLsbD h = false) (hi : ∀ j, h < j → (o.getLsbD j = true → x.getLsbD j = true) ∧ (z.getLsbD j = true → x.getLsbD j = false)) : Fit o z y := by
  intro j
  rcases Nat.lt_trichotomy j h with q | rfl | q
  · rw [hc.lo j q]
    exact ⟨id, fun hz => by
      cases ho : o.getLsbD j with
      | false => rfl
      | true => rw [hd j ho] at hz; cases hz⟩
  · rw [hc.mid]; exact ⟨fun _ => rfl, fun h => by rw [hz] at h; cases h⟩
  · rw [hc.hi j q]; exact hi j q
/-- A word above x that has the bits parts from x at a bit where a candidate may be, and is not below the candidates up to there. -/
theorem part {o z x t : W64} (hf : Fit o z t) (hl : x.toNat < t.toNat) : ∃ i, i < 64 ∧ x.getLsbD i = false ∧ t.getLsbD i = true ∧ z.getLsbD i = false ∧ (∀ j, i < j → t.getLsbD j = x.getLsbD j) ∧
    (∀ j, i < j → (o.getLsbD j = true → x.getLsbD j = true) ∧ (z.getLsbD j = true → x.getLsbD j = false)) := by
  obtain ⟨i, h1, h2, h3, h4⟩ := bits_of_lt hl
  refine ⟨i, h1, h2, h3, ?_, fun j hj => (h4 j hj).symm, fun j hj => ?_⟩
  · cases hz : z.getLsbD i with
    | false => rfl
    | true => rw [(hf i).2 hz] at h3; cases h3
  · rw [h4 j hj]; exact hf j
theorem Cand.le {o z x y t : W64} {h i : Nat} (hc : Cand o x h y) (hf : Fit o z t) (hx : x.getLsbD i = false) (ht : t.getLsbD i = true) (hj : ∀ j, i < j → t.getLsbD j = x.getLsbD j) (hle : h ≤ i) : y.toNat ≤ t.toNat := by
  rcases Nat.lt_or_ge t.toNat y.toNat with q | q
  · obtain ⟨k, k1, k2, k3, k4⟩ := bits_of_lt q
    rcases Nat.lt_trichotomy k i with r | rfl | r
    · -- below i: t's bit i is 1
      rcases Nat.lt_or_eq_of_le hle with s | rfl
      · have : y.getLsbD i = false := by rw [hc.hi i s]; exact hx
        have e := k4 i r
        rw [ht, this] at e; cases e
      · rw [hc.lo k r] at k3
        rw [(hf k).1 k3] at k2; cases k2
    · rw [ht] at k2; cases k2
    · rw [hc.hi k (by omega), ← hj k r] at k3
      rw [k3] at k2; cases k2
  · exact q
/-! ### The text of a candidate -/
theorem bit_one (h j : Nat) (hh : h < 64) : ((1#64) <<< h).getLsbD j = decide (j = h) := by
  rw [BitVec.getLsbD_shiftLeft]
  rcases Nat.lt_trichotomy j h with q | rfl | q
  · simp [q, show ¬ j = h by omega]
  · simp [hh]
  · have : (1#64).getLsbD (j - h) = false := by
      rw [show (1#64) = BitVec.ofNat 64 1 from rfl, BitVec.getLsbD_ofNat]
      have : Nat.testBit 1 (j - h) = false := Nat.testBit_lt_two_pow (Nat.one_lt_two_pow (by omega))
      simp [this]
    simp [this, show ¬ j = h by omega]
def msk (n : Nat) : W64 := BitVec.ofNat 64 (2 ^ n - 1)
theorem bit_msk (n j : Nat) : (msk n).getLsbD j = (decide (j < 64) && decide (j < n)) := by
  unfold msk
  rw [BitVec.getLsbD_ofNat, Nat.testBit_two_pow_sub_one]
theorem msk_sub (n : Nat) (hn : n < 64) : (1#64) <<< n - 1#64 = msk n := by
  apply BitVec.eq_of_toNat_eq
  unfold msk
  have h1 : 2 ^ n < 2 ^ 64 := Nat.pow_lt_pow_right (by decide) hn
  have h2 : 0 < 2 ^ n := Nat.two_pow_pos n
  rw [BitVec.toNat_sub, BitVec.toNat_shiftLeft, Nat.shiftLeft_eq, BitVec.toNat_ofNat]
  simp only [BitVec.toNat_ofNat]
  have e : (1 % 2 ^ 64) = 1 := rfl
  rw [e, Nat.one_mul, Nat.mod_eq_of_lt h1]
  omega
theorem msk_all : msk 64 = BitVec.allOnes 64 := rfl
theorem msk_nat (n : Nat) (hn : n ≤ 64) : (msk n).toNat = 2 ^ n - 1 := by
  unfold msk
  have : 2 ^ n ≤ 2 ^ 64 := Nat.pow_le_pow_right (by decide) hn
  have := Nat.two_pow_pos n
  rw [BitVec.toNat_ofNat, Nat.mod_eq_of_lt (by omega)]
def candT (o x : W64) (h : Nat) : W64 := x >>> h <<< h ||| (1#64) <<< h ||| (o &&& ((1#64) <<< h - 1#64))
theorem bit_cut (x : W64) (h j : Nat) : (x >>> h <<< h).getLsbD j = (decide (h ≤ j) && x.getLsbD j) := by
  rw [BitVec.getLsbD_shiftLeft, BitVec.getLsbD_ushiftRight]
  rcases Nat.lt_or_ge j h with q | q
  · simp [q, show ¬ h ≤ j by omega]
  · rcases Nat.lt_or_ge j 64 with r | r
    · simp [q, r, show ¬ j < h by omega, show h + (j - h) = j by omega]
    · simp [bit_hi x r]; intro hj; omega
theorem candT_ok (o x : W64) {h : Nat} (hh : h < 64) : Cand o x h (candT o x h) := by
  unfold candT
  rw [msk_sub h hh]
  constructor
  · intro j hj
    rw [BitVec.getLsbD_or, BitVec.getLsbD_or, bit_cut, bit_one h j hh, BitVec.getLsbD_and, bit_msk]
    simp [show h ≤ j by omega, show ¬ j = h by omega, show ¬ j < h by omega]
  · rw [BitVec.getLsbD_or, BitVec.getLsbD_or, bit_one h h hh]; simp
  · intro j hj
    rw [BitVec.getLsbD_or, BitVec.getLsbD_or, bit_cut, bit_one h j hh, BitVec.getLsbD_and, bit_msk]
    simp [show ¬ h ≤ j by omega, show ¬ j = h by omega, hj, show j < 64 by omega]
def candR (o x : W64) (h : Nat) : W64 := x &&& ~~~(msk (h + 1)) ||| (1#64) <<< h ||| (o &&& msk h)
theorem candR_ok (o x : W64) {h : Nat} (hh : h < 64) : Cand o x h (candR o x h) := by
  unfold candR
  constructor
  · intro j hj
    rw [BitVec.getLsbD_or, BitVec.getLsbD_or, BitVec.getLsbD_and, BitVec.getLsbD_not, bit_msk, bit_one h j hh, BitVec.getLsbD_and, bit_msk]
    rcases Nat.lt_or_ge j 64 with r | r
    · simp [show ¬ j = h by omega, show ¬ j < h by omega, show ¬ j < h + 1 by omega, r]
    · simp [bit_hi x r, show ¬ j = h by omega, show ¬ j < h by omega]
  · rw [BitVec.getLsbD_or, BitVec.getLsbD_or, bit_one h h hh]; simp
  · intro j hj
    rw [BitVec.getLsbD_or, BitVec.getLsbD_or, BitVec.getLsbD_and, BitVec.getLsbD_not, bit_msk, bit_one h j hh, BitVec.getLsbD_and, bit_msk]
    simp [show ¬ j = h by omega, hj, show j < 64 by omega, show j < h + 1 by omega]
end Go.AM.N14
/- The least fitting word from one on: what both texts look for. Plainly. -/
set_option linter.unusedVariables false
set_option linter.unusedSimpArgs false
namespace Go.AM.N14
open Go Go.AM
theorem le_msk {y : W64} {n : Nat} (hn : n ≤ 64) : y.toNat ≤ (msk n).toNat ↔ ∀ j, n ≤ j → y.getLsbD j = false := by
  rw [msk_nat n hn]
  have p := Nat.two_pow_pos n
  constructor
  · intro h j hj
    rw [← BitVec.testBit_toNat]
    exact Nat.testBit_lt_two_pow (Nat.lt_of_lt_of_le (show y.toNat < 2 ^ n by omega) (Nat.pow_le_pow_right (by decide) hj))
  · intro h
    have : y.toNat < 2 ^ n := Nat.lt_pow_two_of_testBit _ fun i hi => by rw [BitVec.testBit_toNat]; exact h i hi
    omega
/-- The answer of 'the least fitting word from x on, of n bits'. -/
def Up (o z x : W64) (n : Nat) (r : Option W64) : Prop := match r with
  | some y => Fit o z y ∧ x.toNat ≤ y.toNat ∧ y.toNat ≤ (msk n).toNat ∧ ∀ t, Fit o z t → x.toNat ≤ t.toNat → y.toNat ≤ t.toNat
  | none => ∀ t, Fit o z t → x.toNat ≤ t.toNat → t.toNat ≤ (msk n).toNat → False
theorem up_fit {o z x : W64} {n : Nat} (hx : x.toNat ≤ (msk n).toNat) (h : Fit o z x) : Up o z x n (some x) := ⟨h, Nat.le_refl _, hx, fun _ _ h => h⟩
theorem up_clash {o z x : W64} {n : Nat} (h : ¬ Dis o z) : Up o z x n none := fun t ht _ _ => h ht.dis
theorem ne_of_not_fit {o z x t : W64} (hx : ¬ Fit o z x) (ht : Fit o z t) (h : x.toNat ≤ t.toNat) : x.toNat < t.toNat := by
  rcases Nat.lt_or_eq_of_le h with q | q
  · exact q
  · have : x = t := BitVec.eq_of_toNat_eq q
    subst this; exact absurd ht hx
/-- The first bit from some place on whose candidate fits, where below it none does. -/
theorem up_at {o z x : W64} {n h : Nat} (hn : n ≤ 64) (hh : h < n) (hx : x.toNat ≤ (msk n).toNat) (ho : o.toNat ≤ (msk n).toNat) (hd : Dis o z) (hnf : ¬ Fit o z x) (h1 : x.getLsbD h = false) (h2 : z.getLsbD h = false)
    (hi : ∀ j, h < j → (o.getLsbD j = true → x.getLsbD j = true) ∧ (z.getLsbD j = true → x.getLsbD j = false))
    (hmin : ∀ i, x.getLsbD i = false → z.getLsbD i = false → (∀ j, i < j → (o.getLsbD j = true → x.getLsbD j = true) ∧ (z.getLsbD j = true → x.getLsbD j = false)) → h ≤ i) {y : W64} (hc : Cand o x h y) : Up o z x n (some y) := by
  refine ⟨hc.fit hd h2 hi, Nat.le_of_lt (hc.lt h1), (le_msk hn).2 fun j hj => ?_, fun t ht hl => ?_⟩
  · rw [hc.hi j (by omega)]; exact (le_msk hn).1 hx j hj
  · obtain ⟨i, i1, i2, i3, i4, i5, i6⟩ := part ht (ne_of_not_fit hnf ht hl)
    exact hc.le ht i2 i3 i5 (hmin i i2 i4 i6)
theorem up_none {o z x : W64} {n : Nat} (hn : n ≤ 64) (hnf : ¬ Fit o z x)
    (hno : ∀ i, i < n → x.getLsbD i = false → z.getLsbD i = false → (∀ j, i < j → (o.getLsbD j = true → x.getLsbD j = true) ∧ (z.getLsbD j = true → x.getLsbD j = false)) → False) : Up o z x n none := fun t ht hl hm => by
  obtain ⟨i, i1, i2, i3, i4, i5, i6⟩ := part ht (ne_of_not_fit hnf ht hl)
  rcases Nat.lt_or_ge i n with q | q
  · exact hno i q i2 i4 i6
  · rw [(le_msk hn).1 hm i q] at i3; cases i3
/-- The answer is one. -/
theorem Up.uniq {o z x : W64} {n : Nat} {r s : Option W64} (h1 : Up o z x n r) (h2 : Up o z x n s) : r = s := by
  cases r with
  | none => cases s with
    | none => rfl
    | some y => exact (h1 y h2.1 h2.2.1 h2.2.2.1).elim
  | some x' => cases s with
    | none => exact (h2 x' h1.1 h1.2.1 h1.2.2.1).elim
    | some y =>
      have a := h1.2.2.2 y h2.1 h2.2.1
      have b := h2.2.2.2 x' h1.1 h1.2.1
      exact congrArg some (BitVec.eq_of_toNat_eq (by omega))
/-! ### Downwards: the opposite words -/
theorem flip_bit {m x : W64} (j : Nat) : (m &&& ~~~x).getLsbD j = (m.getLsbD j && !x.getLsbD j) := by
  rw [BitVec.getLsbD_and, BitVec.getLsbD_not]
  rcases Nat.lt_or_ge j 64 with q | q
  · simp [q]
  · simp [bit_hi m q]
theorem flip_nat {n : Nat} (hn : n ≤ 64) {x : W64} (hx : x.toNat ≤ (msk n).toNat) : (msk n &&& ~~~x).toNat = (msk n).toNat - x.toNat := by
  have h : x + (msk n &&& ~~~x) = msk n := by
    have : x &&& (msk n &&& ~~~x) = 0#64 := bit_eq fun j => by rw [BitVec.getLsbD_and, flip_bit, BitVec.getLsbD_zero]; cases x.getLsbD j <;> simp
    rw [BitVec.add_eq_or_of_and_eq_zero _ _ this]
    refine bit_eq fun j => ?_
    rw [BitVec.getLsbD_or, flip_bit]
    cases hj : x.getLsbD j with
    | false => simp
    | true =>
      rw [bit_msk]
      have : j < n := by
        rcases Nat.lt_or_ge j n with q | q
        · exact q
        · rw [(le_msk hn).1 hx j q] at hj; cases hj
      simp [this, show j < 64 by omega]
  have hl : (msk n &&& ~~~x).toNat ≤ (msk n).toNat := (le_msk hn).2 fun j hj => by rw [flip_bit, bit_msk]; simp [show ¬ j < n by omega]
  have e := congrArg BitVec.toNat h
  rw [BitVec.toNat_add] at e
  have b1 := (msk n).isLt
  have b2 := x.isLt
  have b3 : x.toNat + (msk n &&& ~~~x).toNat < 2 ^ 64 ∨ 2 ^ 64 ≤ x.toNat + (msk n &&& ~~~x).toNat := by omega
  rcases b3 with q | q
  · rw [Nat.mod_eq_of_lt q] at e; omega
  · rw [Nat.mod_eq_sub_mod q, Nat.mod_eq_of_lt (by omega)] at e; omega
theorem flip_flip {n : Nat} (hn : n ≤ 64) {x : W64} (hx : x.toNat ≤ (msk n).toNat) : msk n &&& ~~~(msk n &&& ~~~x) = x := by
  refine bit_eq fun j => ?_
  rw [flip_bit, flip_bit, bit_msk]
  rcases Nat.lt_or_ge j n with q | q
  · simp [q, show j < 64 by omega]
  · rw [(le_msk hn).1 hx j q]; simp [show ¬ j < n by omega]
theorem flip_le {n : Nat} (hn : n ≤ 64) (x : W64) : (msk n &&& ~~~x).toNat ≤ (msk n).toNat := (le_msk hn).2 fun j hj => by rw [flip_bit, bit_msk]; simp [show ¬ j < n by omega]
theorem flip_fit {n : Nat} (hn : n ≤ 64) {o z x : W64} (ho : o.toNat ≤ (msk n).toNat) (hz : z.toNat ≤ (msk n).toNat) (hx : Fit o z x) : Fit z o (msk n &&& ~~~x) := by
  intro j
  rw [flip_bit, bit_msk]
  rcases Nat.lt_or_ge j n with q | q
  · simp only [q, show j < 64 by omega, decide_true, Bool.true_and]
    exact ⟨fun h => by rw [(hx j).2 h]; rfl, fun h => by rw [(hx j).1 h]; rfl⟩
  · rw [(le_msk hn).1 ho j q, (le_msk hn).1 hz j q]
    exact ⟨fun h => absurd h (by decide), fun h => absurd h (by decide)⟩
/-- The answer of 'the greatest fitting word up to x, of n bits'. -/
def Down (o z x : W64) (n : Nat) (r : Option W64) : Prop := match r with
  | some y => Fit o z y ∧ y.toNat ≤ x.toNat ∧ ∀ t, Fit o z t → t.toNat ≤ x.toNat → t.toNat ≤ y.toNat
  | none => ∀ t, Fit o z t → t.toNat ≤ x.toNat → False
theorem down_of_up {n : Nat} (hn : n ≤ 64) {o z x : W64} (ho : o.toNat ≤ (msk n).toNat) (hz : z.toNat ≤ (msk n).toNat) (hx : x.toNat ≤ (msk n).toNat) {r : Option W64} (h : Up z o (msk n &&& ~~~x) n r) : Down o z x n (r.map fun y => msk n &&& ~~~y) := by
  have key : ∀ t : W64, Fit o z t → t.toNat ≤ x.toNat → Fit z o (msk n &&& ~~~t) ∧ (msk n &&& ~~~x).toNat ≤ (msk n &&& ~~~t).toNat ∧ (msk n &&& ~~~t).toNat = (msk n).toNat - t.toNat := fun t ht hl => by
    have e1 := flip_nat hn hx
    have e2 := flip_nat hn (x := t) (by omega)
    exact ⟨flip_fit hn ho hz ht, by omega, e2⟩
  cases r with
  | none => exact fun t ht hl => h _ (key t ht hl).1 (key t ht hl).2.1 (flip_le hn t)
  | some y =>
    obtain ⟨h1, h2, h3, h4⟩ := h
    have e1 := flip_nat hn hx
    have e2 := flip_nat hn h3
    refine ⟨flip_fit hn hz ho h1, by show (msk n &&& ~~~y).toNat ≤ _; omega, fun t ht hl => ?_⟩
    have := key t ht hl
    have := h4 _ this.1 this.2.1
    show _ ≤ (msk n &&& ~~~y).toNat
    omega
theorem Down.uniq {o z x : W64} {n : Nat} {r s : Option W64} (h1 : Down o z x n r) (h2 : Down o z x n s) : r = s := by
  cases r with
  | none => cases s with
    | none => rfl
    | some y => exact (h1 y h2.1 h2.2.1).elim
  | some x' => cases s with
    | none => exact (h2 x' h1.1 h1.2.1).elim
    | some y =>
      have a := h1.2.2 y h2.1 h2.2.1
      have b := h2.2.2 x' h1.1 h1.2.1
      exact congrArg some (BitVec.eq_of_toNat_eq (by omega))
end Go.AM.N14
/- The abstract machine: how its heap stands to the model's world. -/
set_option linter.unusedVariables false
namespace Go.AM
open Go

structure BI where
  b : Nat
  s : Nat
  t : Nat
abbrev Bt := Nat → Option BI
def Bt.le (β β' : Bt) : Prop := ∀ i x, β i = some x → β' i = some x
theorem Bt.le_refl (β : Bt) : β.le β := fun _ _ h => h
theorem Bt.le_trans {a b c : Bt} (h : a.le b) (k : b.le c) : a.le c := fun i x e => k i x (h i x e)

/-- A value of the machine's, and the model's. -/
inductive VRel (β : Bt) : Value → Value → Prop
  | bool (b : Bool) : VRel β (.bool b) (.bool b)
  | int (k : IntKind) (n : Int) : VRel β (.int k n) (.int k n)
  | string (s : ByteArray) : VRel β (.string s) (.string s)
  | pnil : VRel β (.pointer none) (.pointer none)
  | ptr (i o : Nat) (x : BI) (h : β i = some x) : VRel β (.pointer (some ⟨i, o, none⟩)) (.pointer (some ⟨x.b, x.s + o, none⟩))
  | snil : VRel β (.slice none 0 0) (.slice none 0 0)
  | slice (i o z n c : Nat) (x : BI) (o' c' : Nat) (h : β i = some x) (hn : n ≤ c) (hc : c ≤ c') (ht : o' + c' * z ≤ x.t) (ho : 0 < c → o' = x.s + o) :
      VRel β (.slice (some ⟨i, o, some z⟩) n c) (.slice (some ⟨x.b, o', none⟩) n c')
  | mnil : VRel β (.map none) (.map none)
  | map (i : Nat) (x : BI) (h : β i = some x) : VRel β (.map (some i)) (.map (some x.b))
  | nilFunc : VRel β .nilFunc .nilFunc
  | nilIface : VRel β .nilIface .nilIface
  | iface (t : TypeId) (v v' : Value) (h : VRel β v v') : VRel β (.iface t v) (.iface t v')
  | func (fn : Fn) (fs fs' cs cs' : List Value) (hl : fs.length = fs'.length) (h : ∀ (k : Nat) v v', fs[k]? = some v → fs'[k]? = some v' → VRel β v v')
      (hl2 : cs.length = cs'.length) (h2 : ∀ (k : Nat) v v', cs[k]? = some v → cs'[k]? = some v' → VRel β v v') : VRel β (.func fn ⟨fs⟩ ⟨cs⟩) (.func fn ⟨fs'⟩ ⟨cs'⟩)
  | agg (cs cs' : List Value) (hl : cs.length = cs'.length) (h : ∀ (k : Nat) v v', cs[k]? = some v → cs'[k]? = some v' → VRel β v v') : VRel β (.agg ⟨cs⟩) (.agg ⟨cs'⟩)
  | tuple (cs cs' : List Value) (hl : cs.length = cs'.length) (h : ∀ (k : Nat) v v', cs[k]? = some v → cs'[k]? = some v' → VRel β v v') : VRel β (.tuple ⟨cs⟩) (.tuple ⟨cs'⟩)

def LRel (β : Bt) (l l' : List Value) : Prop := l.length = l'.length ∧ ∀ (k : Nat) v v', l[k]? = some v → l'[k]? = some v' → VRel β v v'

theorem VRel.mono {β β' : Bt} (hb : β.le β') {v v' : Value} (h : VRel β v v') : VRel β' v v' := by
  induction h with
  | bool b => exact .bool b
  | int k n => exact .int k n
  | string s => exact .string s
  | pnil => exact .pnil
  | ptr i o x h => exact .ptr i o x (hb _ _ h)
  | snil => exact .snil
  | slice i o z n c x o' c' h hn hc ht ho => exact .slice i o z n c x o' c' (hb _ _ h) hn hc ht ho
  | mnil => exact .mnil
  | map i x h => exact .map i x (hb _ _ h)
  | nilFunc => exact .nilFunc
  | nilIface => exact .nilIface
  | iface t v v' _ ih => exact .iface t v v' ih
  | func fn fs fs' cs cs' hl _ hl2 _ ih ih2 => exact .func fn fs fs' cs cs' hl ih hl2 ih2
  | agg cs cs' hl _ ih => exact .agg cs cs' hl ih
  | tuple cs cs' hl _ ih => exact .tuple cs cs' hl ih
theorem LRel.mono {β β' : Bt} (hb : β.le β') {l l' : List Value} (h : LRel β l l') : LRel β' l l' := ⟨h.1, fun k v v' a b => (h.2 k v v' a b).mono hb⟩

theorem LRel.nil (β : Bt) : LRel β [] [] := ⟨rfl, by simp⟩
theorem LRel.cons {β : Bt} {v v' : Value} {l l' : List Value} (h : VRel β v v') (hl : LRel β l l') : LRel β (v :: l) (v' :: l') := by
  refine ⟨by simp [hl.1], fun k a b ha hb => ?_⟩
  cases k with
  | zero => simp at ha hb; subst ha; subst hb; exact h
  | succ k => simp at ha hb; exact hl.2 k a b ha hb
theorem LRel.append {β : Bt} {a a' b b' : List Value} (h : LRel β a a') (k : LRel β b b') : LRel β (a ++ b) (a' ++ b') := by
  refine ⟨by simp [h.1, k.1], fun i v v' hv hv' => ?_⟩
  by_cases hi : i < a.length
  · rw [List.getElem?_append_left hi] at hv
    rw [List.getElem?_append_left (h.1 ▸ hi)] at hv'
    exact h.2 i v v' hv hv'
  · rw [List.getElem?_append_right (by omega)] at hv
    rw [List.getElem?_append_right (by have := h.1; omega), ← h.1] at hv'
    exact k.2 _ v v' hv hv'
theorem LRel.take {β : Bt} {a a' : List Value} (h : LRel β a a') (n : Nat) : LRel β (a.take n) (a'.take n) := by
  refine ⟨by simp [h.1], fun i v v' hv hv' => ?_⟩
  rw [List.getElem?_take] at hv hv'
  split at hv <;> simp_all
  exact h.2 i v v' hv hv'
theorem LRel.drop {β : Bt} {a a' : List Value} (h : LRel β a a') (n : Nat) : LRel β (a.drop n) (a'.drop n) := by
  refine ⟨by simp [h.1], fun i v v' hv hv' => ?_⟩
  rw [List.getElem?_drop] at hv hv'
  exact h.2 _ v v' hv hv'
theorem LRel.get {β : Bt} {a a' : List Value} (h : LRel β a a') {k : Nat} {v : Value} (hv : a[k]? = some v) : ∃ v', a'[k]? = some v' ∧ VRel β v v' := by
  have hk : k < a.length := (List.getElem?_eq_some_iff.1 hv).1
  have hk' : k < a'.length := h.1 ▸ hk
  exact ⟨a'[k], by simp [hk'], h.2 k v _ hv (by simp [hk'])⟩
theorem LRel.of_get {β : Bt} {a a' : List Value} (hl : a.length = a'.length) (h : ∀ (k : Nat) v, a[k]? = some v → ∃ v', a'[k]? = some v' ∧ VRel β v v') : LRel β a a' :=
  ⟨hl, fun k v v' hv hv' => by obtain ⟨u, hu, hr⟩ := h k v hv; rw [hv'] at hu; cases hu; exact hr⟩

theorem agg_iff {β : Bt} {cs : Array Value} {v' : Value} : VRel β (.agg cs) v' ↔ ∃ cs' : Array Value, v' = .agg cs' ∧ LRel β cs.toList cs'.toList := by
  constructor
  · intro h
    cases h with
    | agg cs cs' hl h => exact ⟨⟨cs'⟩, rfl, hl, h⟩
  · rintro ⟨cs', rfl, hl, h⟩
    obtain ⟨cs⟩ := cs
    obtain ⟨cs'⟩ := cs'
    exact .agg cs cs' hl h
theorem tuple_iff {β : Bt} {cs : Array Value} {v' : Value} : VRel β (.tuple cs) v' ↔ ∃ cs' : Array Value, v' = .tuple cs' ∧ LRel β cs.toList cs'.toList := by
  constructor
  · intro h
    cases h with
    | tuple cs cs' hl h => exact ⟨⟨cs'⟩, rfl, hl, h⟩
  · rintro ⟨cs', rfl, hl, h⟩
    obtain ⟨cs⟩ := cs
    obtain ⟨cs'⟩ := cs'
    exact .tuple cs cs' hl h

theorem VRel.one_eq {β : Bt} {v v' : Value} (h : VRel β v v') : v'.oneCell' = one v := by cases h <;> rfl
theorem VRel.cells {β : Bt} {v v' : Value} (h : VRel β v v') : LRel β (cellsL v) v'.cells.toList := by
  cases h with
  | agg cs cs' hl h => exact ⟨hl, h⟩
  | _ => simp only [cellsL, Value.cells]; exact LRel.cons (by constructor <;> assumption) (LRel.nil _)

/-! ### Worlds -/
def AObj.own : AObj → Bool
  | .cells _ o => o
  | .map _ => true
  | .fix _ => false
def OwnB (H : Hp) (β : Bt) (b : Nat) : Prop := ∃ i o x, H.get i = some o ∧ o.own = true ∧ β i = some x ∧ x.b = b
def ERel (β : Bt) (kv : List (Value × Value)) (es : List MapEntry) : Prop :=
  kv.length = es.length ∧ ∀ (j : Nat) k v (e : MapEntry), kv[j]? = some (k, v) → es[j]? = some e → VRel β k e.key ∧ VRel β v e.val
theorem ERel.mono {β β' : Bt} (hb : β.le β') {kv : List (Value × Value)} {es : List MapEntry} (h : ERel β kv es) : ERel β' kv es :=
  ⟨h.1, fun j k v e a b => ⟨(h.2 j k v e a b).1.mono hb, (h.2 j k v e a b).2.mono hb⟩⟩

/-- A row of cells that nobody froze. -/
def RowAt (w : World) (b t : Nat) : Prop := ∃ arr e fz, w.heap[b]? = some (.cells arr e fz) ∧ arr.size = t ∧ ∀ j, j < t → ¬ (fz.1 ≤ j ∧ j < fz.2)

/-- The type of an object's block. -/
def Typed (w : World) (β : Bt) (i : Nat) (T : TypeId) : Prop := ∃ x arr fz, β i = some x ∧ x.s = 0 ∧ w.heap[x.b]? = some (.cells arr T fz) ∧ arr.size = x.t
structure Rel (P : Program) (w : World) (H : Hp) (β : Bt) : Prop where
  cells : ∀ i cs own, H.get i = some (.cells cs own) → ∃ x, β i = some x ∧ (∀ j v, cs[j]? = some v → ∃ v', w.cell? ⟨x.b, x.s + j, none⟩ = some v' ∧ VRel β v v') ∧
    (own = true → RowAt w x.b x.t ∧ x.s + cs.length ≤ x.t)
  maps : ∀ i kv, H.get i = some (.map kv) → ∃ x, β i = some x ∧ ∃ es clock, w.heap[x.b]? = some (.map es clock) ∧ ERel β kv es.toList ∧ (∀ e ∈ es.toList, e.born < clock)
  apart : ∀ i j o o' x y, i ≠ j → H.get i = some o → H.get j = some o' → o.own = true → β i = some x → β j = some y → x.b ≠ y.b
  fresh : ∀ i, H.next ≤ i → H.get i = none ∧ β i = none
  lt : ∀ i x, β i = some x → x.b < w.heap.size
  glob : ∀ g, g < P.globals.size → ∃ t, β g = some ⟨g, 0, t⟩
  fix : ∀ i o, H.get i = some (.fix o) → ∃ x, β i = some x ∧ w.heap[x.b]? = some o
  tys : ∀ i T, H.ty i = some T → Typed w β i T

/-- What is below block number N, and not of its own, is as it was. -/
structure Ext (N : Nat) (w : World) (H : Hp) (β : Bt) (w' : World) (H' : Hp) (β' : Bt) : Prop where
  os : w'.os = w.os
  tape : w'.tape = w.tape
  output : w'.output = w.output
  size : w.heap.size ≤ w'.heap.size
  le : β.le β'
  next : H.next ≤ H'.next
  frame : ∀ b, b < N → ¬ OwnB H β b → w'.heap[b]? = w.heap[b]?
  own : ∀ b, OwnB H' β' b → N ≤ b ∨ OwnB H β b
  news : ∀ i x, β' i = some x → β i = none → N ≤ x.b ∨ OwnB H β x.b

theorem Ext.refl (N : Nat) (w : World) (H : Hp) (β : Bt) : Ext N w H β w H β :=
  ⟨rfl, rfl, rfl, Nat.le_refl _, Bt.le_refl _, Nat.le_refl _, fun _ _ _ => rfl, fun _ h => .inr h, fun i x h e => by rw [h] at e; cases e⟩
theorem Ext.weaken {M N : Nat} {w w' : World} {H H' : Hp} {β β' : Bt} (h : Ext M w H β w' H' β') (hn : N ≤ M) : Ext N w H β w' H' β' :=
  ⟨h.os, h.tape, h.output, h.size, h.le, h.next, fun b hb => h.frame b (Nat.lt_of_lt_of_le hb hn), fun b q => (h.own b q).imp (Nat.le_trans hn) id, fun i x hx e => (h.news i x hx e).imp (Nat.le_trans hn) id⟩
theorem Ext.trans {N : Nat} {w1 w2 w3 : World} {H1 H2 H3 : Hp} {β1 β2 β3 : Bt} (h : Ext N w1 H1 β1 w2 H2 β2) (k : Ext N w2 H2 β2 w3 H3 β3) : Ext N w1 H1 β1 w3 H3 β3 where
  os := k.os.trans h.os
  tape := k.tape.trans h.tape
  output := k.output.trans h.output
  size := Nat.le_trans h.size k.size
  le := Bt.le_trans h.le k.le
  next := Nat.le_trans h.next k.next
  frame := fun b hb ho => by
    have ho2 : ¬ OwnB H2 β2 b := fun q => (h.own b q).elim (fun q => by omega) ho
    rw [k.frame b hb ho2, h.frame b hb ho]
  own := fun b q => by
    rcases k.own b q with q | q
    · exact .inl q
    · exact h.own b q
  news := fun i x hx e => by
    cases hb : β2 i with
    | none =>
      rcases k.news i x hx hb with q | q
      · exact .inl q
      · exact h.own _ q
    | some y =>
      have hy := k.le i y hb
      rw [hx] at hy
      cases hy
      exact h.news i x hb e

theorem cell_iff {w : World} {b j : Nat} {v : Value} : w.cell? ⟨b, j, none⟩ = some v ↔ ∃ arr e fz, w.heap[b]? = some (.cells arr e fz) ∧ arr[j]? = some v := by
  unfold World.cell?
  constructor
  · intro h
    dsimp only at h
    split at h
    · rename_i c e fz hh; exact ⟨c, e, fz, hh, by simpa using h⟩
    · simp at h
  · rintro ⟨arr, e, fz, hh, hv⟩
    simp [hh, hv]

/-- The world with some cells of one row written. -/
structure Put (w : World) (b off : Nat) (vs : List Value) (w' : World) : Prop where
  os : w'.os = w.os
  tape : w'.tape = w.tape
  output : w'.output = w.output
  size : w'.heap.size = w.heap.size
  other : ∀ k, k ≠ b → w'.heap[k]? = w.heap[k]?
  row : ∀ arr e fz, w.heap[b]? = some (.cells arr e fz) → ∃ arr', w'.heap[b]? = some (.cells arr' e fz) ∧ arr'.size = arr.size ∧
    ∀ j, arr'[j]? = if off ≤ j ∧ j < off + vs.length then vs[j - off]? else arr[j]?

theorem Put.nil (w : World) (b off : Nat) : Put w b off [] w := ⟨rfl, rfl, rfl, rfl, fun _ _ => rfl, fun arr e fz h => ⟨arr, h, rfl, fun j => by rw [if_neg (by simp only [List.length_nil]; omega)]⟩⟩

theorem setCell_put (w : World) (b off : Nat) (v : Value) (arr : Array Value) (e : TypeId) (fz : Nat × Nat) (hw : w.heap[b]? = some (.cells arr e fz)) (ho : off < arr.size) :
    Put w b off [v] (w.setCell ⟨b, off, none⟩ v) := by
  refine ⟨rfl, rfl, rfl, by simp [World.setCell], fun k hk => ?_, fun arr' e' fz' h' => ?_⟩
  · simp only [World.setCell, Array.getElem?_modify]
    rw [if_neg (by omega)]
  · rw [hw] at h'; cases h'
    refine ⟨arr.setIfInBounds off v, ?_, by simp, fun j => ?_⟩
    · simp [World.setCell, Array.getElem?_modify, hw]
    · simp only [Array.getElem?_setIfInBounds, List.length_singleton]
      by_cases hj : off = j
      · subst hj; simp [ho]
      · rw [if_neg hj, if_neg (by omega)]

theorem Put.cons {w w1 w2 : World} {b off : Nat} {v : Value} {vs : List Value} (h : Put w b off [v] w1) (k : Put w1 b (off + 1) vs w2) : Put w b off (v :: vs) w2 := by
  refine ⟨k.os.trans h.os, k.tape.trans h.tape, k.output.trans h.output, k.size.trans h.size, fun i hi => (k.other i hi).trans (h.other i hi), fun arr e fz hw => ?_⟩
  obtain ⟨a1, h1, s1, g1⟩ := h.row arr e fz hw
  obtain ⟨a2, h2, s2, g2⟩ := k.row a1 e fz h1
  refine ⟨a2, h2, s2.trans s1, fun j => ?_⟩
  rw [g2 j, g1 j]
  simp only [List.length_cons, List.length_nil]
  by_cases c1 : off + 1 ≤ j ∧ j < off + 1 + vs.length
  · rw [if_pos c1, if_pos (by omega)]
    rw [show j - off = (j - (off + 1)) + 1 by omega]; simp
  · rw [if_neg c1]
    by_cases c2 : off = j
    · subst c2
      rw [if_pos (by omega), if_pos (by omega)]
      simp
    · rw [if_neg (by omega), if_neg (by omega)]

theorem frozen_false {w : World} {b j : Nat} {arr : Array Value} {e : TypeId} {fz : Nat × Nat} (hw : w.heap[b]? = some (.cells arr e fz)) (h : ¬ (fz.1 ≤ j ∧ j < fz.2)) : w.frozen? ⟨b, j, none⟩ = false := by
  obtain ⟨lo, hi⟩ := fz
  simp only [World.frozen?, hw]
  simp at h ⊢
  omega

theorem run_storeCells (P : Program) (b off : Nat) (arr : Array Value) (e : TypeId) (fz : Nat × Nat) (hfz : ∀ j, j < arr.size → ¬ (fz.1 ≤ j ∧ j < fz.2)) :
    ∀ (vs : List Value) (i : Nat) (w : World) (arr' : Array Value), w.heap[b]? = some (.cells arr' e fz) → arr'.size = arr.size → off + i + vs.length ≤ arr.size → (vs.all Value.oneCell') = true →
    ∃ w', (storeCells ⟨b, off, none⟩ vs i).run P w = .ok () w' ∧ Put w b (off + i) vs w'
  | [], i, w, arr', _, _, _, _ => ⟨w, by simp [storeCells], Put.nil _ _ _⟩
  | v :: vs, i, w, arr', hw, hs, hl, h1 => by
    simp only [List.all_cons, Bool.and_eq_true] at h1
    simp only [List.length_cons] at hl
    have hadd : (⟨b, off, none⟩ : Addr).add i = ⟨b, off + i, none⟩ := by unfold Addr.add; split <;> simp_all
    have hput := setCell_put w b (off + i) v arr' e fz hw (by omega)
    obtain ⟨a1, ha1, hs1, _⟩ := hput.row arr' e fz hw
    obtain ⟨w', hr, hp⟩ := run_storeCells P b off arr e fz hfz vs (i + 1) (w.setCell ⟨b, off + i, none⟩ v) a1 ha1 (by omega) (by omega) h1.2
    refine ⟨w', ?_, hput.cons (by rw [show off + i + 1 = off + (i + 1) by omega]; exact hp)⟩
    have hc : w.cell? ⟨b, off + i, none⟩ = some (arr'[off + i]'(by omega)) := cell_iff.2 ⟨arr', e, fz, hw, by simp⟩
    have hz : w.frozen? ⟨b, off + i, none⟩ = false := frozen_false hw (hfz (off + i) (by omega))
    simp only [storeCells, Sem.run_bind, hadd, run_store P w _ v _ h1.1, hc, hz, Bool.false_eq_true, if_false, Result.andThen_ok, hr]

theorem run_loadCells_rel {P : Program} {w : World} {b off : Nat} {β : Bt} {l : List Value} (h : ∀ j v, l[j]? = some v → ∃ v', w.cell? ⟨b, off + j, none⟩ = some v' ∧ VRel β v v') :
    ∃ l' : List Value, (loadCells ⟨b, off, none⟩ l.length).run P w = .ok l'.toArray w ∧ LRel β l l' := by
  have hf : ∀ j, j < l.length → w.cell? ⟨b, off + j, none⟩ = some ((w.cell? ⟨b, off + j, none⟩).getD undef) := by
    intro j hj
    obtain ⟨v', hv, _⟩ := h j l[j] (by simp [hj])
    simp [hv]
  have hadd : ∀ j, (⟨b, off, none⟩ : Addr).add j = ⟨b, off + j, none⟩ := by intro j; unfold Addr.add; split <;> simp_all
  refine ⟨(List.range l.length).map fun j => (w.cell? ⟨b, off + j, none⟩).getD undef, ?_, by simp, fun k v v' hv hv' => ?_⟩
  · rw [run_loadCells w ⟨b, off, none⟩ l.length (fun j => (w.cell? ⟨b, off + j, none⟩).getD undef) (fun j hj => by rw [hadd]; exact hf j hj)]
  · obtain ⟨u, hu, hr⟩ := h k v hv
    have hk : k < l.length := (List.getElem?_eq_some_iff.1 hv).1
    rw [List.getElem?_map, List.getElem?_range hk] at hv'
    simp [hu] at hv'
    subst hv'
    exact hr
end Go.AM
