/- Part of the proof of NeedEnoughUptoCardSaid: see the last file.  -/
import Derived.Calls
import Derived.KernelRfl
import Derived.Test.YtndbionhpkjckaaDoorProg
set_option linter.unusedSimpArgs false
set_option linter.unusedVariables false
set_option linter.unusedSectionVars false
/- The abstract machine: a functional, tape-free reading of the model's own Code over an abstract heap. Definitions alone. -/
namespace Go.AM
open Go

/-! ### Heap -/
inductive AObj where
  | cells (cs : List Value) (own : Bool)
  | map (kv : List (Value × Value))
  | fix (o : Obj)
  deriving Inhabited

structure Hp where
  next : Nat
  get : Nat → Option AObj

def Hp.new (H : Hp) (o : AObj) : Hp := ⟨H.next + 1, fun i => if i = H.next then some o else H.get i⟩
def Hp.set (H : Hp) (i : Nat) (o : Option AObj) : Hp := ⟨H.next, fun j => if j = i then o else H.get j⟩

inductive Bx where
  | cells (cs : List Value) (ro : Bool)
  | iter (s : ByteArray) (pos : Nat)
  | iterRo (s : ByteArray) (pos : Nat)
  deriving Inhabited

structure St where
  bx : Nat → Option Bx
  hp : Hp

def St.setB (S : St) (d : Nat) (b : Option Bx) : St := ⟨fun j => if j = d then b else S.bx j, S.hp⟩

inductive Slot where
  | unk
  | und
  | val (v : Value)
  | loc (d off : Nat)
  deriving Inhabited

abbrev Fr := List Slot
def getS (fr : Fr) (t : Nat) : Slot := fr.getD t .unk
def putS (fr : Fr) (d : Option Nat) (s : Slot) : Fr := match d with | some d => fr.set d s | none => fr
def Slot.notLoc (d : Nat) : Slot → Bool
  | .loc e _ => !(Nat.beq e d)
  | _ => true

abbrev Handler := FuncId → List Value → Hp → Option (Value × Hp)

/-- Which boxes stay in the frame; what is kept at joins and loops. -/
structure Orc where
  loc : FuncId → List Nat
  join : FuncId → Nat → Option (List Nat × List Nat)
  loop : FuncId → Nat → List Nat × List Nat

/-! ### Values -/
def scalarOk : Value → Bool
  | .bool _ | .int _ _ | .string _ | .pointer none | .slice none 0 0 | .map none | .nilFunc | .nilIface => true
  | _ => false
def constOk : Value → Bool
  | .agg cs => cs.toList.all scalarOk
  | .tuple vs => vs.toList.all scalarOk
  | v => scalarOk v
/-- The value of one cell. -/
def one : Value → Bool
  | .agg _ | .tuple _ => false
  | _ => true

def aggD : TypeDesc → Bool
  | .struct _ | .array _ _ => true
  | _ => false

section
variable {α : Type}

def br (t : Bool) (x y : Option α) : Option α := match t with | true => x | false => y
noncomputable def chk (p : Prop) (k : Option α) : Option α := open Classical in if p then k else none

def tyC (P : Program) (T : TypeId) (k : Nat → Bool → Option α) : Option α :=
  match P.info? T with
  | none => none
  | some i => match P.underlying T with
    | none => none
    | some d => k i.size (aggD d)

def zeroC (P : Program) (T : TypeId) (k : Value → Option α) : Option α :=
  match P.info? T with
  | none => none
  | some i => match i.zero with
    | none => none
    | some z => match constOk z with
      | true => k z
      | false => none

def rdCells (cs : List Value) (off n : Nat) (agg : Bool) : Option Value :=
  match agg with
  | true => if off + n ≤ cs.length then some (.agg ((cs.drop off).take n).toArray) else none
  | false => cs[off]?
def Hp.rd (H : Hp) (i off n : Nat) (agg : Bool) : Option Value :=
  match H.get i with
  | some (.cells cs _) => rdCells cs off n agg
  | _ => none
def Hp.rdP (H : Hp) (p : Value) (n : Nat) (agg : Bool) : Option Value :=
  match p with
  | .pointer (some ⟨i, off, none⟩) => H.rd i off n agg
  | _ => none
def pLoad (n : Nat) (agg : Bool) (H : Hp) (p : Value) (k : Value → Option α) : Option α :=
  match H.rdP p n agg with
  | some v => k v
  | none => none
def pCell (n : Nat) (agg : Bool) (cs : List Value) (off : Nat) (k : Value → Option α) : Option α :=
  match rdCells cs off n agg with
  | some v => k v
  | none => none
def spl (cs : List Value) (off : Nat) (vs : List Value) : List Value := cs.take off ++ vs ++ cs.drop (off + vs.length)
def cellsL (v : Value) : List Value := v.cells.toList
def wrCells (n : Nat) (cs : List Value) (off : Nat) (v : Value) : Option (List Value) :=
  if (cellsL v).length = n ∧ off + n ≤ cs.length ∧ (cellsL v).all one = true then some (spl cs off (cellsL v)) else none
def pSplice (n : Nat) (cs : List Value) (off : Nat) (v : Value) (k : List Value → Option α) : Option α :=
  match wrCells n cs off v with
  | some cs' => k cs'
  | none => none
def Hp.wr (H : Hp) (p : Value) (n : Nat) (v : Value) : Option Hp :=
  match p with
  | .pointer (some ⟨i, off, none⟩) =>
    match H.get i with
    | some (.cells cs true) => match wrCells n cs off v with
      | some cs' => some (H.set i (some (.cells cs' true)))
      | none => none
    | _ => none
  | _ => none
def pStore (n : Nat) (H : Hp) (p v : Value) (k : Hp → Option α) : Option α :=
  match H.wr p n v with
  | some H' => k H'
  | none => none

def pNil (v : Value) (k : Option α) : Option α :=
  match v with
  | .pointer (some _) | .func (.func _) _ _ => k
  | _ => none
def pOffs (n : Nat) (p : Value) (k : Value → Option α) : Option α :=
  match p with
  | .pointer (some ⟨i, off, none⟩) => k (.pointer (some ⟨i, off + n, none⟩))
  | _ => none
def pBool (v : Value) (k : Bool → Option α) : Option α :=
  match v with
  | .bool b => k b
  | _ => none

/-! ### Arithmetic and comparisons -/
def bvOp (op : BinOp) (k : IntKind) (x y : Int) : Option Value :=
  let a := BitVec.ofInt k.bits x
  let b := BitVec.ofInt k.bits y
  match op with
  | .and => some (.int k (k.wrap (a &&& b).toNat))
  | .or => some (.int k (k.wrap (a ||| b).toNat))
  | .xor => some (.int k (k.wrap (a ^^^ b).toNat))
  | .andNot => some (.int k (k.wrap (a &&& ~~~b).toNat))
  | _ => none
def intOp (op : BinOp) (k : IntKind) (x y : Int) : Option Value :=
  match op with
  | .add => some (.int k (k.wrap (x + y)))
  | .sub => some (.int k (k.wrap (x - y)))
  | .mul => some (.int k (k.wrap (x * y)))
  | .quo => if y = 0 then none else some (.int k (k.wrap (x.tdiv y)))
  | .rem => if y = 0 then none else some (.int k (x.tmod y))
  | .eql => some (.bool (x == y))
  | .neq => some (.bool (x != y))
  | .lss => some (.bool (x < y))
  | .leq => some (.bool (x ≤ y))
  | .gtr => some (.bool (x > y))
  | .geq => some (.bool (x ≥ y))
  | .and | .or | .xor | .andNot => bvOp op k x y
  | .shl | .shr => none
def strOp (op : BinOp) (x y : ByteArray) : Option Value :=
  match op with
  | .add => if ((x.size + y.size : Nat) : Int) > IntKind.i64.max then none else some (.string (x ++ y))
  | .eql => some (.bool (x.toList == y.toList))
  | .neq => some (.bool !(x.toList == y.toList))
  | .lss => some (.bool (Op.bytesLess x.toList y.toList))
  | .leq => some (.bool (Op.bytesLess x.toList y.toList || x.toList == y.toList))
  | .gtr => some (.bool !(Op.bytesLess x.toList y.toList || x.toList == y.toList))
  | .geq => some (.bool !(Op.bytesLess x.toList y.toList))
  | _ => none
def shOp (op : BinOp) (k : IntKind) (x y : Int) : Option Value :=
  if y < 0 then none else
  match op with
  | .shl => some (.int k (k.wrap (x * 2 ^ (min y.toNat k.bits))))
  | .shr => some (.int k (x.fdiv (2 ^ (min y.toNat k.bits))))
  | _ => none

def partT (P : Program) (t : TypeId) (cs : List Value) (off : Nat) : Option Value :=
  match P.info? t, P.underlying t with
  | some i, some d => match aggD d with
    | true => some (.agg ((cs.drop off).take i.size).toArray)
    | false => cs[off]?
  | _, _ => none

def eqFields (P : Program) (c : TypeId → Value → Value → Option Bool) (xs ys : List Value) : List Field → Option Bool
  | [] => some true
  | f :: fs =>
    match f.name == "_" with
    | true => eqFields P c xs ys fs
    | false =>
      match partT P f.type xs f.offset, partT P f.type ys f.offset with
      | some x, some y => match c f.type x y with
        | some true => eqFields P c xs ys fs
        | r => r
      | _, _ => none
def eqT (P : Program) : Nat → TypeId → Value → Value → Option Bool
  | 0, _, _, _ => none
  | d + 1, t, x, y =>
    match P.underlying t, x, y with
    | some .bool, .bool a, .bool b => some (a == b)
    | some (.int _), .int k a, .int k' b => if k = k' then some (a == b) else none
    | some .string, .string a, .string b => some (a == b)
    | some (.pointer _), .pointer none, .pointer b => some b.isNone
    | some (.pointer _), .pointer _, .pointer none => some false
    | some (.slice _), .slice none _ _, .slice b _ _ => some b.isNone
    | some (.slice _), .slice _ _ _, .slice none _ _ => some false
    | some (.map _ _), .map none, .map b => some b.isNone
    | some (.map _ _), .map _, .map none => some false
    | some (.func _ _ _), .nilFunc, .nilFunc => some true
    | some (.func _ _ _), .nilFunc, .func _ _ _ => some false
    | some (.func _ _ _), .func _ _ _, .nilFunc => some false
    | some (.struct fields), .agg xs, .agg ys =>
      match P.stoodInHeld t with
      | true => none
      | false => eqFields P (eqT P d) xs.toList ys.toList fields.toList
    | _, _, _ => none
end
end Go.AM
/- The abstract machine: operations and control. Definitions alone. -/
namespace Go.AM
open Go

section
variable {α : Type}

/-! ### Building -/
def fillL (place : Nat → Option (Nat × Nat)) (cells : List Value) : List (Nat × Value) → Option (List Value)
  | [] => some cells
  | (i, v) :: rest =>
    match place i with
    | none => none
    | some (off, size) =>
      if (cellsL v).length = size ∧ off + size ≤ cells.length ∧ (cellsL v).all one = true then fillL place (spl cells off (cellsL v)) rest else none
def placesOf (P : Program) : List Field → Option (List (Nat × Nat))
  | [] => some []
  | f :: fs => match P.info? f.type with
    | none => none
    | some i => match placesOf P fs with
      | none => none
      | some r => some ((f.offset, i.size) :: r)
def placeAt (l : List (Nat × Nat)) (i : Nat) : Option (Nat × Nat) := l[i]?
def buildV (P : Program) (t : TypeId) (parts : List (Nat × Value)) : Option Value :=
  zeroC P t fun z =>
    match P.underlying t with
    | some (.struct fields) => match placesOf P fields.toList with
      | none => none
      | some l => match fillL (placeAt l) (cellsL z) parts with
        | some cs => some (.agg cs.toArray)
        | none => none
    | some (.array _ elem) => match P.info? elem with
      | none => none
      | some i => match fillL (fun j => some (j * i.size, i.size)) (cellsL z) parts with
        | some cs => some (.agg cs.toArray)
        | none => none
    | _ => none
def pBuild (P : Program) (t : TypeId) (parts : List (Nat × Value)) (k : Value → Option α) : Option α :=
  match buildV P t parts with
  | some v => k v
  | none => none
def repl (n : Nat) (zs : List Value) : List Value := match n with | 0 => [] | n + 1 => zs ++ repl n zs
/-- What a slice type's element is: its cells, its bytes, its zero's cells. -/
def sliceC (P : Program) (t : TypeId) (k : Nat → Nat → List Value → Option α) : Option α :=
  match P.underlying t with
  | some (.slice e) => match P.info? e with
    | none => none
    | some i => zeroC P e fun z => if i.size = 0 ∨ i.bytes = 0 ∨ (cellsL z).length ≠ i.size ∨ ((cellsL z).all one) = false then none else k i.size i.bytes (cellsL z)
  | _ => none
def buildSliceV (sz : Nat) (zs : List Value) (len : Nat) (parts : List (Nat × Value)) (H : Hp) : Option (Value × Hp) :=
  if len * sz > 2 ^ 24 then none else
  match fillL (fun i => some (i * sz, sz)) (repl len zs) parts with
  | some cs => some (.slice (some ⟨H.next, 0, some sz⟩) len len, H.new (.cells cs true))
  | none => none
def pBuildSlice (sz : Nat) (zs : List Value) (len : Nat) (parts : List (Nat × Value)) (H : Hp) (k : Value → Hp → Option α) : Option α :=
  match buildSliceV sz zs len parts H with
  | some (v, H') => k v H'
  | none => none
def makeSliceV (sz bytes : Nat) (zs : List Value) (l c : Value) (H : Hp) : Option (Value × Hp) :=
  match l, c with
  | .int .i64 n, .int .i64 m => if 0 ≤ n ∧ n ≤ m ∧ m * bytes ≤ 2 ^ 47 then
      some (.slice (some ⟨H.next, 0, some sz⟩) n.toNat m.toNat, H.new (.cells (repl m.toNat zs) true)) else none
  | _, _ => none
def pMakeSlice (sz bytes : Nat) (zs : List Value) (l c : Value) (H : Hp) (k : Value → Hp → Option α) : Option α :=
  match makeSliceV sz bytes zs l c H with
  | some (v, H') => k v H'
  | none => none
def pAlloc (cs : List Value) (H : Hp) (k : Value → Hp → Option α) : Option α :=
  k (.pointer (some ⟨H.next, 0, none⟩)) (H.new (.cells cs true))
def pNewMap (H : Hp) (k : Value → Hp → Option α) : Option α := k (.map (some H.next)) (H.new (.map []))

/-! ### Slices and strings -/
def optInt (d : Nat) : Option Value → Option Int
  | none => some d
  | some (.int _ n) => some n
  | _ => none
def sliceS (x : Value) (lo hi : Option Value) : Option Value :=
  match x with
  | .string s => match optInt 0 lo, optInt s.size hi with
    | some l, some h => if 0 ≤ l ∧ l ≤ h ∧ h ≤ s.size then some (.string (s.extract l.toNat h.toNat)) else none
    | _, _ => none
  | _ => none
def sliceV (sz : Nat) (x : Value) (lo hi : Option Value) : Option Value :=
  match x with
  | .slice none 0 0 => match optInt 0 lo, optInt 0 hi with
    | some l, some h => if l = 0 ∧ h = 0 then some (.slice none 0 0) else none
    | _, _ => none
  | .slice (some ⟨i, o, some z⟩) n c => match optInt 0 lo, optInt n hi with
    | some l, some h => if z = sz ∧ 0 ≤ l ∧ l ≤ h ∧ h ≤ c then some (.slice (some ⟨i, o + l.toNat * sz, some sz⟩) (h - l).toNat (c - l.toNat)) else none
    | _, _ => none
  | _ => none
def pSliceS (x : Value) (lo hi : Option Value) (k : Value → Option α) : Option α :=
  match sliceS x lo hi with
  | some v => k v
  | none => none
def pSlice (sz : Nat) (x : Value) (lo hi : Option Value) (k : Value → Option α) : Option α :=
  match sliceV sz x lo hi with
  | some v => k v
  | none => none
/-- An element's address in a slice. -/
def idxV (sz : Nat) (x ix : Value) : Option Value :=
  match x, ix with
  | .slice (some ⟨i, o, some z⟩) n _, .int _ j => if z = sz ∧ 0 ≤ j ∧ j < n then some (.pointer (some ⟨i, o + j.toNat * sz, none⟩)) else none
  | _, _ => none
def pIdx (sz : Nat) (x ix : Value) (k : Value → Option α) : Option α :=
  match idxV sz x ix with
  | some v => k v
  | none => none
/-- An element's address in an array behind a pointer. -/
def pIdxArr (len sz : Nat) (x ix : Value) (k : Value → Option α) : Option α :=
  match x, ix with
  | .pointer (some ⟨i, o, none⟩), .int _ j => if 0 ≤ j ∧ j < len then k (.pointer (some ⟨i, o + j.toNat * sz, none⟩)) else none
  | _, _ => none
def pIdxLoc (len : Nat) (ix : Value) (k : Nat → Option α) : Option α :=
  match ix with
  | .int _ j => if 0 ≤ j ∧ j < len then k j.toNat else none
  | _ => none
/-- An element of an array's value, a byte of a string. -/
def atStr (s : ByteArray) (j : Int) : Option Value := if 0 ≤ j then (s[j.toNat]?).map (fun b => .int .u8 (b.toNat : Int)) else none
def pAtStr (x ix : Value) (k : Value → Option α) : Option α :=
  match x, ix with
  | .string s, .int _ j => match atStr s j with
    | some v => k v
    | none => none
  | _, _ => none
def partC (agg : Bool) (n : Nat) (cs : List Value) (off : Nat) : Option Value :=
  match agg with
  | true => some (.agg ((cs.drop off).take n).toArray)
  | false => cs[off]?
def pPart (agg : Bool) (n off : Nat) (x : Value) (k : Value → Option α) : Option α :=
  match x with
  | .agg cs => match partC agg n cs.toList off with
    | some v => k v
    | none => none
  | _ => none
def pAtArr (len : Nat) (agg : Bool) (n : Nat) (x ix : Value) (k : Value → Option α) : Option α :=
  match ix with
  | .int _ j => if 0 ≤ j ∧ j < len then pPart agg n (j.toNat * n) x k else none
  | _ => none
def extractV (t : Value) (i : Nat) : Option Value :=
  match t with
  | .tuple vs => vs.toList[i]?
  | _ => none
def pExtract (t : Value) (i : Nat) (k : Value → Option α) : Option α :=
  match extractV t i with
  | some v => k v
  | none => none

/-- What a slice holds; bytes of a string. -/
def srcCells (sz : Nat) (x : Value) (H : Hp) : Option (Nat × List Value) :=
  match x with
  | .slice none 0 0 => some (0, [])
  | .slice (some ⟨i, o, some z⟩) n _ => if z = sz then
      match H.get i with
      | some (.cells cs _) => if o + n * sz ≤ cs.length then some (n, (cs.drop o).take (n * sz)) else none
      | _ => none else none
  | .string s => if sz = 1 then some (s.size, s.data.toList.map fun b => .int .u8 (b.toNat : Int)) else none
  | _ => none
def appendV (sz bytes : Nat) (s x : Value) (H : Hp) : Option (Value × Hp) :=
  match srcCells sz x H with
  | none => none
  | some (m, new) =>
    match s with
    | .slice none 0 0 =>
      if m = 0 then some (.slice none 0 0, H)
      else if m * bytes ≤ 2 ^ 47 ∧ new.all one = true then some (.slice (some ⟨H.next, 0, some sz⟩) m m, H.new (.cells new true)) else none
    | .slice (some ⟨i, o, some z⟩) n c =>
      if z ≠ sz then none else
      if m = 0 ∧ n ≤ c then some (s, H)
      else match H.get i with
        | some (.cells cs true) =>
          if n + m ≤ c then
            if o + (n + m) * sz ≤ cs.length ∧ new.all one = true then some (.slice (some ⟨i, o, some sz⟩) (n + m) c, H.set i (some (.cells (spl cs (o + n * sz) new) true))) else none
          else if o + n * sz ≤ cs.length ∧ (n + m) * bytes ≤ 2 ^ 47 ∧ new.all one = true then
            some (.slice (some ⟨H.next, 0, some sz⟩) (n + m) (n + m), (H.set i none).new (.cells ((cs.drop o).take (n * sz) ++ new) true))
          else none
        | _ => none
    | _ => none
def pAppend (sz bytes : Nat) (s x : Value) (H : Hp) (k : Value → Hp → Option α) : Option α :=
  match appendV sz bytes s x H with
  | some (v, H') => k v H'
  | none => none
def copyV (sz : Nat) (d x : Value) (H : Hp) : Option (Value × Hp) :=
  match srcCells sz x H, d with
  | some (_, _), .slice none 0 0 => some (.int .i64 0, H)
  | some (m, new), .slice (some ⟨i, o, some z⟩) n _ =>
    if z ≠ sz then none else
    match H.get i with
    | some (.cells cs true) =>
      if o + min m n * sz ≤ cs.length ∧ new.all one = true then some (.int .i64 (min m n : Nat), H.set i (some (.cells (spl cs o (new.take (min m n * sz))) true))) else none
    | _ => none
  | _, _ => none
def pCopy (sz : Nat) (d x : Value) (H : Hp) (k : Value → Hp → Option α) : Option α :=
  match copyV sz d x H with
  | some (v, H') => k v H'
  | none => none
inductive LenK where
  | str | sl | mp
def lenK : TypeDesc → Option LenK
  | .string => some .str
  | .slice _ => some .sl
  | .map _ _ => some .mp
  | _ => none
def lenV (q : LenK) (x : Value) (H : Hp) : Option Value :=
  match q, x with
  | .str, .string s => some (.int .i64 s.size)
  | .sl, .slice _ n _ => some (.int .i64 n)
  | .mp, .map none => some (.int .i64 0)
  | .mp, .map (some i) => match H.get i with
    | some (.map kv) => some (.int .i64 kv.length)
    | _ => none
  | _, _ => none
def pLen (q : LenK) (x : Value) (H : Hp) (k : Value → Option α) : Option α :=
  match lenV q x H with
  | some v => k v
  | none => none
/-- Bytes of a slice as a string. -/
def bytesOf : List Value → Option (List UInt8)
  | [] => some []
  | .int .u8 n :: r => match bytesOf r with
    | some l => some (UInt8.ofNat n.toNat :: l)
    | none => none
  | _ => none
def toStrV (x : Value) (H : Hp) : Option Value :=
  match x with
  | .slice none _ _ => some (.string ⟨#[]⟩)
  | .slice (some a) n c => match srcCells 1 (.slice (some a) n c) H with
    | some (_, cs) => match bytesOf cs with
      | some l => some (.string ⟨l.toArray⟩)
      | none => none
    | none => none
  | _ => none
def pToStr (x : Value) (H : Hp) (k : Value → Option α) : Option α :=
  match toStrV x H with
  | some v => k v
  | none => none
def pToBytes (x : Value) (H : Hp) (k : Value → Hp → Option α) : Option α :=
  match x with
  | .string s => if s.size ≤ 2 ^ 47 then k (.slice (some ⟨H.next, 0, some 1⟩) s.size s.size) (H.new (.cells (s.data.toList.map fun b => .int .u8 (b.toNat : Int)) true)) else none
  | _ => none

/-! ### Maps -/
def keyOk (P : Program) : Nat → TypeId → Bool
  | 0, _ => false
  | d + 1, t => match P.underlying t with
    | some .bool | some (.int _) | some .string => true
    | some (.struct fs) => fs.toList.all fun f => keyOk P d f.type && ((P.info? f.type).isSome)
    | _ => false
def findT (P : Program) (kt : TypeId) (key : Value) : List (Value × Value) → Nat → Option (Option (Nat × Value))
  | [], _ => some none
  | (k, v) :: r, i => match eqT P 10000 kt key k with
    | some true => some (some (i, v))
    | some false => findT P kt key r (i + 1)
    | none => none
def mapOf (m : Value) (H : Hp) : Option (List (Value × Value)) :=
  match m with
  | .map none => some []
  | .map (some i) => match H.get i with
    | some (.map kv) => some kv
    | _ => none
  | _ => none
/-- A map type's key, and its elements' zero value. -/
def mapC (P : Program) (T : TypeId) (k : TypeId → Value → Option α) : Option α :=
  match P.underlying T with
  | some (.map kt et) => match keyOk P 20 kt with
    | true => zeroC P et fun z => k kt z
    | false => none
  | _ => none
def shapeOk (P : Program) : Nat → TypeId → Value → Bool
  | 0, _, _ => false
  | d + 1, t, v => match P.underlying t, v with
    | some .bool, .bool _ => true
    | some (.int _), .int _ _ => true
    | some .string, .string _ => true
    | some (.struct fs), .agg cs => fs.toList.all fun f => match partT P f.type cs.toList f.offset with
      | some x => shapeOk P d f.type x
      | none => false
    | _, _ => false
def lookV (P : Program) (kt : TypeId) (z m key : Value) (H : Hp) : Option (Value × Bool) :=
  if shapeOk P 20 kt key = true then
  match mapOf m H with
  | none => none
  | some kv => match findT P kt key kv 0 with
    | some (some (_, v)) => some (v, true)
    | some none => some (z, false)
    | none => none
  else none
def pLook (P : Program) (kt : TypeId) (z m key : Value) (ok : Bool) (H : Hp) (k : Value → Option α) : Option α :=
  match lookV P kt z m key H with
  | some (v, b) => match ok with
    | true => k (.tuple #[v, .bool b])
    | false => k v
  | none => none
def setAt (kv : List (Value × Value)) (i : Nat) (key v : Value) : List (Value × Value) := kv.set i (key, v)
def updV (P : Program) (kt : TypeId) (m key v : Value) (H : Hp) : Option Hp :=
  if shapeOk P 20 kt key = true then
  match m with
  | .map (some i) => match H.get i with
    | some (.map kv) => match findT P kt key kv 0 with
      | some (some (j, _)) => match kv[j]? with
        | some (k0, _) => if Instr.sameBits 10000 k0 key = true then some (H.set i (some (.map (setAt kv j key v)))) else none
        | none => none
      | some none => some (H.set i (some (.map (kv ++ [(key, v)]))))
      | none => none
    | _ => none
  | _ => none
  else none
def pUpd (P : Program) (kt : TypeId) (m key v : Value) (H : Hp) (k : Hp → Option α) : Option α :=
  match updV P kt m key v H with
  | some H' => k H'
  | none => none
def delV (P : Program) (kt : TypeId) (m key : Value) (H : Hp) : Option Hp :=
  if shapeOk P 20 kt key = true then
  match m with
  | .map none => some H
  | .map (some i) => match H.get i with
    | some (.map kv) => match findT P kt key kv 0 with
      | some (some (j, _)) => some (H.set i (some (.map (kv.eraseIdx j))))
      | some none => some H
      | none => none
    | _ => none
  | _ => none
  else none
def pDel (P : Program) (kt : TypeId) (m key : Value) (H : Hp) (k : Hp → Option α) : Option α :=
  match delV P kt m key H with
  | some H' => k H'
  | none => none

/-! ### Operators -/
def nilLike : Value → Bool
  | .pointer none | .slice none _ _ | .map none | .nilFunc => true
  | _ => false
def eqOp (P : Program) (T : TypeId) (x y : Value) : Option Bool :=
  match x, y with
  | .agg _, .agg _ => match P.eqGuardType P.depth T with
    | true => none
    | false => eqT P Op.maxDepth T x y
  | .nilIface, _ => none
  | .bool _, .bool _ | .pointer _, .pointer _ | .slice _ _ _, .slice _ _ _ | .map _, .map _ | .nilFunc, .nilFunc | .nilFunc, .func _ _ _ | .func _ _ _, .nilFunc => eqT P Op.maxDepth T x y
  | _, _ => none
def binV (P : Program) (op : BinOp) (T : TypeId) (x y : Value) : Option Value :=
  match x, y with
  | .int k a, .int k' b => match op with
    | .shl | .shr => shOp op k a b
    | _ => if k = k' then intOp op k a b else none
  | .string a, .string b => strOp op a b
  | x, y => match op with
    | .eql => match eqOp P T x y with
      | some b => some (.bool b)
      | none => none
    | .neq => match eqOp P T x y with
      | some b => some (.bool !b)
      | none => none
    | _ => none
def pBin (P : Program) (op : BinOp) (T : TypeId) (x y : Value) (k : Value → Option α) : Option α :=
  match binV P op T x y with
  | some v => k v
  | none => none
def unV (op : UnOp) (x : Value) : Option Value :=
  match op, x with
  | .neg, .int k n => some (.int k (k.wrap (0 - n)))
  | .xor, .int k n => bvOp .xor k (if k.signed then -1 else k.max) n
  | .not, .bool b => some (.bool !b)
  | _, _ => none
def pUn (op : UnOp) (x : Value) (k : Value → Option α) : Option α :=
  match unV op x with
  | some v => k v
  | none => none
def convIntV (kd : IntKind) (x : Value) : Option Value :=
  match x with
  | .int _ n => some (.int kd (kd.wrap n))
  | _ => none
def pConvInt (kd : IntKind) (x : Value) (k : Value → Option α) : Option α :=
  match convIntV kd x with
  | some v => k v
  | none => none
def pRune (x : Value) (k : Value → Option α) : Option α :=
  match x with
  | .int _ n => k (.string (Utf8.encode n))
  | _ => none
def pStr (x : Value) (k : Value → Option α) : Option α :=
  match x with
  | .string _ => k x
  | _ => none
def mm (mx : Bool) (x y : Value) : Option Value :=
  match x, y with
  | .int k a, .int _ b => some (.int k (match mx with | true => if b > a then b else a | false => if b < a then b else a))
  | _, _ => none
def mmL (mx : Bool) (x : Value) : List Value → Option Value
  | [] => some x
  | y :: r => match mm mx x y with
    | some z => mmL mx z r
    | none => none
def pMM (mx : Bool) (vs : List Value) (k : Value → Option α) : Option α :=
  match vs with
  | [] => none
  | x :: r => match mmL mx x r with
    | some v => k v
    | none => none
def pCallF (h : Handler) (g : FuncId) (args : List Value) (H : Hp) (k : Value → Hp → Option α) : Option α :=
  match h g args H with
  | some (v, H') => k v H'
  | none => none
def pCall (h : Handler) (fv : Value) (vs : List Value) (H : Hp) (k : Value → Hp → Option α) : Option α :=
  match fv with
  | .func (.func g) first captured => pCallF h g (first.toList ++ (vs ++ captured.toList)) H k
  | _ => none

/-! ### Operands -/
def ev (G : Nat) (fr : Fr) : Operand → Slot
  | .tmp t => getS fr t
  | .const v => match constOk v with
    | true => .val v
    | false => .unk
  | .global g => match Nat.blt g G with
    | true => .val (.pointer (some ⟨g, 0, none⟩))
    | false => .unk
  | .func f => .val (.func (.func f) #[] #[])
def sV (s : Slot) (k : Value → Option α) : Option α :=
  match s with
  | .val v => k v
  | _ => none
def evs (G : Nat) (fr : Fr) : List Operand → (List Value → Option α) → Option α
  | [], k => k []
  | x :: xs, k => sV (ev G fr x) fun v => evs G fr xs fun vs => k (v :: vs)
def optV (G : Nat) (fr : Fr) (x : Option Operand) (k : Option Value → Option α) : Option α :=
  match x with
  | none => k none
  | some x => sV (ev G fr x) fun v => k (some v)

def sel (t : Bool) (x y : Value) : Value := match t with | true => x | false => y
def pStrC (x : Value) (k : ByteArray → Option α) : Option α :=
  match x with
  | .string s => k s
  | _ => none

/-! ### One operation -/
structure Ctx where
  P : Program
  O : Orc
  h : Handler
  f : FuncId

def newBox (C : Ctx) (S : St) (d : Option Nat) (cs : List Value) (k : Slot → St → Option α) : Option α :=
  match d with
  | some d => match (C.O.loc C.f).elem d with
    | true => match S.bx d with
      | some _ => none
      | none => k (.loc d 0) (S.setB d (some (.cells cs false)))
    | false => pAlloc cs S.hp fun v H => k (.val v) ⟨S.bx, H⟩
  | none => none

def opC (C : Ctx) (fr : Fr) (S : St) (o : Oper) (k : Slot → St → Option α) : Option α :=
  let G := C.P.globals.size
  match o.op with
  | .move x | .assign x => k (ev G fr x) S
  | .pick c a b => sV (ev G fr c) fun c => pBool c fun t =>
      match ev G fr a, ev G fr b with
      | .val x, .val y => k (.val (sel t x y)) S
      | sa, sb => match t with
        | true => k sa S
        | false => k sb S
  | .alloc T => zeroC C.P T fun z => match (cellsL z).all one with
      | true => newBox C S o.dst (cellsL z) k
      | false => none
  | .box _ x => sV (ev G fr x) fun v => newBox C S o.dst (cellsL v) k
  | .build T parts => evs G fr (parts.toList.map (·.2)) fun vs => pBuild C.P T ((parts.toList.map (·.1)).zip vs) fun v => k (.val v) S
  | .buildSlice T len parts => evs G fr (parts.toList.map (·.2)) fun vs => sliceC C.P T fun sz _ zs =>
      pBuildSlice sz zs len ((parts.toList.map (·.1)).zip vs) S.hp fun v H => k (.val v) ⟨S.bx, H⟩
  | .load T a => tyC C.P T fun n agg => match ev G fr a with
      | .loc d off => match S.bx d with
        | some (.cells cs _) => pCell n agg cs off fun v => k (.val v) S
        | _ => none
      | .val p => pLoad n agg S.hp p fun v => k (.val v) S
      | _ => none
  | .store T a x => sV (ev G fr x) fun v => tyC C.P T fun n _ => match ev G fr a with
      | .loc d off => match S.bx d with
        | some (.cells cs false) => pSplice n cs off v fun cs' => k .unk (S.setB d (some (.cells cs' false)))
        | _ => none
      | .val p => pStore n S.hp p v fun H => k .unk ⟨S.bx, H⟩
      | _ => none
  | .nilCheck x => match ev G fr x with
      | .loc d off => k (.loc d off) S
      | .val v => pNil v (k (.val v) S)
      | _ => none
  | .binOp op T x y _ => sV (ev G fr x) fun x => sV (ev G fr y) fun y => pBin C.P op T x y fun v => k (.val v) S
  | .unOp op _ x => sV (ev G fr x) fun x => pUn op x fun v => k (.val v) S
  | .convert src dst x => sV (ev G fr x) fun x =>
      match C.P.underlying src, C.P.underlying dst with
      | some (.int _), some (.int kd) => pConvInt kd x fun v => k (.val v) S
      | some .string, some .string => pStr x (fun v => k (.val v) S)
      | some (.int _), some .string => pRune x fun v => k (.val v) S
      | some .string, some (.slice e) => match C.P.underlying e with
        | some (.int .u8) => pToBytes x S.hp fun v H => k (.val v) ⟨S.bx, H⟩
        | _ => none
      | some (.slice e), some .string => match C.P.underlying e with
        | some (.int .u8) => pToStr x S.hp fun v => k (.val v) S
        | _ => none
      | _, _ => none
  | .makeFunc fn first captured => evs G fr first.toList fun fs => evs G fr captured.toList fun cs => k (.val (.func fn fs.toArray cs.toArray)) S
  | .makeMap _ none => pNewMap S.hp fun v H => k (.val v) ⟨S.bx, H⟩
  | .makeSlice T l c => sV (ev G fr l) fun l => sV (ev G fr c) fun c => sliceC C.P T fun sz bytes zs =>
      pMakeSlice sz bytes zs l c S.hp fun v H => k (.val v) ⟨S.bx, H⟩
  | .slice T x lo hi none => sV (ev G fr x) fun x => optV G fr lo fun lo => optV G fr hi fun hi =>
      match C.P.underlying T with
      | some .string => pSliceS x lo hi fun v => k (.val v) S
      | some (.slice e) => match C.P.info? e with
        | some i => pSlice i.size x lo hi fun v => k (.val v) S
        | none => none
      | _ => none
  | .fieldAddr T x f => match C.P.underlying T with
      | some (.struct fs) => match fs.toList[f]? with
        | some fd => match C.P.info? fd.type with
          | some i => match Nat.beq i.size 0 with
            | true => none
            | false => match ev G fr x with
              | .loc d off => k (.loc d (off + fd.offset)) S
              | .val p => pOffs fd.offset p fun v => k (.val v) S
              | _ => none
          | none => none
        | none => none
      | _ => none
  | .field T x f => sV (ev G fr x) fun x => match C.P.underlying T with
      | some (.struct fs) => match fs.toList[f]? with
        | some fd => tyC C.P fd.type fun n agg => pPart agg n fd.offset x fun v => k (.val v) S
        | none => none
      | _ => none
  | .indexAddr T x i => sV (ev G fr i) fun i => match C.P.underlying T with
      | some (.slice e) => match C.P.info? e with
        | some ti => sV (ev G fr x) fun x => pIdx ti.size x i fun v => k (.val v) S
        | none => none
      | some (.array len e) => match C.P.info? e with
        | some ti => match ev G fr x with
          | .loc d off => pIdxLoc len i fun j => k (.loc d (off + j * ti.size)) S
          | .val p => pIdxArr len ti.size p i fun v => k (.val v) S
          | _ => none
        | none => none
      | _ => none
  | .index T x i => sV (ev G fr x) fun x => sV (ev G fr i) fun i => match C.P.underlying T with
      | some .string => pAtStr x i fun v => k (.val v) S
      | some (.array len e) => tyC C.P e fun n agg => pAtArr len agg n x i fun v => k (.val v) S
      | _ => none
  | .lookup T m key ok => sV (ev G fr m) fun m => sV (ev G fr key) fun key => mapC C.P T fun kt z =>
      pLook C.P kt z m key ok S.hp fun v => k (.val v) S
  | .mapUpdate T m key x => sV (ev G fr m) fun m => sV (ev G fr key) fun key => sV (ev G fr x) fun x => mapC C.P T fun kt _ =>
      pUpd C.P kt m key x S.hp fun H => k .unk ⟨S.bx, H⟩
  | .insert T m key x => sV (ev G fr m) fun m => sV (ev G fr key) fun key => sV (ev G fr x) fun x => mapC C.P T fun kt _ =>
      pUpd C.P kt m key x S.hp fun H => k .unk ⟨S.bx, H⟩
  | .extract t i => sV (ev G fr t) fun t => pExtract t i fun v => k (.val v) S
  | .range T x => sV (ev G fr x) fun x => match C.P.underlying T, o.dst with
      | some .string, some d => match S.bx d with
        | some _ => none
        | none => pStrC x fun s => k (.loc d 0) (S.setB d (some (.iter s 0)))
      | _, _ => none
  | .next it true => match ev G fr it with
      | .loc d 0 => match S.bx d with
        | some (.iter s pos) => br (Nat.blt pos s.size)
            (k (.val (.tuple #[.bool true, .int .i64 pos, .int .i32 (Utf8.decode s pos).1])) (S.setB d (some (.iter s (pos + (Utf8.decode s pos).2)))))
            (k (.val (.tuple #[.bool false])) S)
        | _ => none
      | _ => none
  | .call c => match c.callee with
      | .value fo => sV (ev G fr fo) fun fv => evs G fr c.args.toList fun vs => pCall C.h fv vs S.hp fun v H => k (.val v) ⟨S.bx, H⟩
      | .invoke _ _ => none
      | .builtin b => evs G fr c.args.toList fun vs => match b, vs, c.argTypes.toList with
        | .len, [x], [t] => match C.P.underlying t with
          | some d => match lenK d with
            | some q => pLen q x S.hp fun v => k (.val v) S
            | none => none
          | none => none
        | .append, [s, x], [t, u] => sliceC C.P t fun sz bytes _ => match C.P.underlying u with
          | some (.slice _) | some .string => pAppend sz bytes s x S.hp fun v H => k (.val v) ⟨S.bx, H⟩
          | _ => none
        | .copy, [d, x], [t, _] => sliceC C.P t fun sz _ _ => pCopy sz d x S.hp fun v H => k (.val v) ⟨S.bx, H⟩
        | .max, vs, _ => pMM true vs fun v => k (.val v) S
        | .min, vs, _ => pMM false vs fun v => k (.val v) S
        | .delete, [m, key], [T, _] => mapC C.P T fun kt _ => pDel C.P kt m key S.hp fun H => k (.val (.tuple #[])) ⟨S.bx, H⟩
        | _, _, _ => none
  | _ => none

/-! ### Regions -/
structure K (α : Type) where
  norm : Fr → St → Option α
  exit : Nat → Fr → St → Option α
  ret : Value → Hp → Option α

/-- Is an operation wanted? Behind this its guard's value is written out. -/
def guardC (ops : List Oper) (fr : Fr) (o : Oper) (k : Bool → Fr → Option α) : Option α :=
  match o.guard with
  | none => k true fr
  | some (j, want) => match ops[j]? with
    | some g => match g.dst with
      | some d => match getS fr d with
        | .und => k false fr
        | s => sV s fun v => pBool v fun b => br b (k want (fr.set d (.val (.bool true)))) (k (!want) (fr.set d (.val (.bool false))))
      | none => none
    | none => none

def opsC (C : Ctx) (ops : List Oper) (k : Fr → St → Option α) : List Oper → Fr → St → Option α
  | [], fr, S => k fr S
  | o :: rest, fr, S => guardC ops fr o fun w fr => match w with
    | true => opC C fr S o fun s S' => opsC C ops k rest (putS fr o.dst s) S'
    | false => opsC C ops k rest (putS fr o.dst .und) S

/-! ### Regions that draw their order -/
inductive OK where
  | pure | read | eff
def kindOf (P : Program) : Op → OK
  | .move _ | .assign _ | .pick .. | .build .. | .nilCheck _ | .binOp .. | .unOp .. | .makeFunc .. | .slice .. | .fieldAddr .. | .field .. | .indexAddr .. | .index .. | .extract .. | .makeInterface .. => .pure
  | .load .. | .lookup .. => .read
  | .convert src dst _ => match P.underlying src, P.underlying dst with
    | some (.int _), some (.int _) | some .string, some .string | some (.int _), some .string => .pure
    | _, _ => .eff
  | .call { callee := .builtin .len, .. } => .read
  | .call { callee := .builtin .max, .. } | .call { callee := .builtin .min, .. } => .pure
  | _ => .eff
/-- The common ancestors of each operation, as bits. -/
def ancs (ops : List Oper) : List Nat :=
  ops.foldl (fun acc o => acc ++ [o.after.toList.foldl (fun s e => match Region.binds .any e with | true => s ||| 2 ^ e.on ||| acc.getD e.on 0 | false => s) 0]) []
def touches (ops : List Oper) (o : Oper) : List Nat :=
  (o.op.operands.toList.filterMap fun | .tmp t => some t | _ => none) ++
  (match o.guard with
   | some (g, _) => match ops[g]? with
     | some q => q.dst.toList
     | none => []
   | none => [])
def clash (ops : List Oper) (a b : Oper) : Bool :=
  (match a.dst with | some d => (touches ops b).elem d || b.dst == some d | none => false) || (match b.dst with | some d => (touches ops a).elem d | none => false)
/-- Every two operations that touch one slot, and every two that act, stand in one order, that of the text. -/
def inOrder (P : Program) (ops : List Oper) (an : List Nat) : Bool :=
  (List.range ops.length).all fun j => (match ops[j]? with
    | some b => b.after.toList.all fun e => !(Region.binds .any e) || Nat.blt e.on j
    | none => false) && (List.range j).all fun i =>
    match ops[i]?, ops[j]? with
    | some a, some b => (an.getD j 0).testBit i || !(clash ops a b || (match kindOf P a.op, kindOf P b.op with | .eff, .eff => true | _, _ => false))
    | _, _ => false
/-- Where an operation reads or acts: a box of the frame, or the heap. -/
def tagOf (C : Ctx) (fr : Fr) (o : Oper) : Option Nat :=
  match o.op with
  | .load _ a | .store _ a _ => match ev C.P.globals.size fr a with
    | .loc d _ => some d
    | _ => none
  | .alloc _ | .box _ _ => match o.dst with
    | some d => match (C.O.loc C.f).elem d with
      | true => some d
      | false => none
    | none => none
  | .range _ _ => o.dst
  | .next it _ => match ev C.P.globals.size fr it with
    | .loc d _ => some d
    | _ => none
  | _ => none
noncomputable def lenAgain (q : LenK) (x : Value) (H : Hp) (v : Value) (k : Option α) : Option α := chk (lenV q x H = some v) k
/-- The same reading, in another state. -/
noncomputable def again (C : Ctx) (fr : Fr) (S : St) (o : Oper) (s : Slot) (k : Option α) : Option α :=
  let G := C.P.globals.size
  match s with
  | .val v => match o.op with
    | .load T a => tyC C.P T fun n agg => match ev G fr a with
      | .loc d off => match S.bx d with
        | some (.cells cs _) => chk (rdCells cs off n agg = some v) k
        | _ => none
      | .val p => chk (S.hp.rdP p n agg = some v) k
      | _ => none
    | .lookup T m key ok => sV (ev G fr m) fun m => sV (ev G fr key) fun key => mapC C.P T fun kt z =>
        chk (pLook C.P kt z m key ok S.hp some = some v) k
    | .call c => evs G fr c.args.toList fun vs => match vs, c.argTypes.toList with
      | [x], [t] => match C.P.underlying t with
        | some d => match lenK d with
          | some q => lenAgain q x S.hp v k
          | none => none
        | none => none
      | _, _ => none
    | _ => none
  | _ => none
structure Rd where
  i : Nat
  o : Oper
  fr : Fr
  s : Slot
  tag : Option Nat
def sameTag (a b : Option Nat) : Bool :=
  match a, b with
  | none, none => true
  | some x, some y => Nat.beq x y
  | _, _ => false
noncomputable def chkBack (C : Ctx) (an i : Nat) (o : Oper) (fr : Fr) (s : Slot) (tag : Option Nat) (k : Option α) : List (Nat × Option Nat × St) → Option α
  | [] => k
  | (j, t, S) :: r => match an.testBit j || !(sameTag t tag) with
    | true => chkBack C an i o fr s tag k r
    | false => again C fr S o s (chkBack C an i o fr s tag k r)
noncomputable def chkFore (C : Ctx) (an : Nat) (tag : Option Nat) (S : St) (k : Option α) : List Rd → Option α
  | [] => k
  | r :: rs => match an.testBit r.i || !(sameTag r.tag tag) with
    | true => chkFore C an tag S k rs
    | false => again C r.fr S r.o r.s (chkFore C an tag S k rs)
noncomputable def drawC (C : Ctx) (ops : List Oper) (an : List Nat) (k : Fr → St → Option α) : List Oper → Nat → Fr → St → List (Nat × Option Nat × St) → List Rd → Option α
  | [], _, fr, S, _, _ => k fr S
  | o :: rest, i, fr, S, es, rs => guardC ops fr o fun w fr => match w with
    | false => drawC C ops an k rest (i + 1) (putS fr o.dst .und) S es rs
    | true => match kindOf C.P o.op with
      | .pure => opC C fr S o fun s S' => drawC C ops an k rest (i + 1) (putS fr o.dst s) S' es rs
      | .read => opC C fr S o fun s S' => chkBack C (an.getD i 0) i o fr s (tagOf C fr o)
          (drawC C ops an k rest (i + 1) (putS fr o.dst s) S' es (rs ++ [⟨i, o, fr, s, tagOf C fr o⟩])) es
      | .eff => opC C fr S o fun s S' => chkFore C (an.getD i 0) (tagOf C fr o) S'
          (drawC C ops an k rest (i + 1) (putS fr o.dst s) S' (es ++ [(i, tagOf C fr o, S)]) rs) rs

/-! ### Control -/
inductive Ctl where
  | next
  | exit (id : Nat)
  | ret

def rid : Code → Nat
  | .region id _ _ => id
  | .seq a _ => rid a
  | .cond _ a b => match rid a with
    | 0 => rid b
    | n + 1 => n + 1
  | .block _ c => rid c
  | .loop c => rid c
  | .scope c => rid c
  | _ => 0
/-- The slots that code writes. -/
def wr : Code → List Nat → List Nat
  | .region _ ops _, acc => ops.toList.foldr (fun o acc => match o.dst with | some d => d :: acc | none => acc) acc
  | .seq a b, acc => wr a (wr b acc)
  | .cond _ a b, acc => wr a (wr b acc)
  | .block _ c, acc => wr c acc
  | .loop c, acc => wr c acc
  | .scope c, acc => wr c acc
  | _, acc => acc
def boxV (b : Option Bx) (k : Value → Option α) : Option α :=
  match b with
  | some (.cells cs _) => k (.agg cs.toArray)
  | some (.iter s pos) => k (.tuple #[.string s, .int .i64 pos])
  | _ => none
def strOf : Value → ByteArray
  | .tuple vs => match vs.toList with
    | .string s :: _ => s
    | _ => ⟨#[]⟩
  | _ => ⟨#[]⟩
def posOf : Value → Nat
  | .tuple vs => match vs.toList with
    | [_, .int _ n] => n.toNat
    | _ => 0
  | _ => 0
def backBx (b : Option Bx) (v : Value) : Option Bx :=
  match b with
  | some (.iter _ _) => some (.iter (strOf v) (posOf v))
  | some (.cells _ false) => some (.cells (cellsL v) false)
  | b => b
def roBx (b : Option Bx) : Option Bx :=
  match b with
  | some (.cells cs _) => some (.cells cs true)
  | some (.iter s p) => some (.iterRo s p)
  | b => b
def saveB (S : St) : List Nat → (List Value → Option α) → Option α
  | [], k => k []
  | d :: ds, k => boxV (S.bx d) fun v => saveB S ds fun vs => k (v :: vs)
def saveS (fr : Fr) : List Nat → (List Value → Option α) → Option α
  | [], k => k []
  | d :: ds, k => sV (getS fr d) fun v => saveS fr ds fun vs => k (v :: vs)
/-- A frame of the same shape with other values in the slots that are kept; what is written and not kept is not known. -/
def fillS (w keep : List Nat) (l : List Value) : Fr → Nat → Fr
  | [], _ => []
  | s :: r, i => (match keep.idxOf? i with
      | some j => .val (l.getD j undef)
      | none => match w.elem i with
        | true => .unk
        | false => s) :: fillS w keep l r (i + 1)
/-- The boxes that are kept are filled; the others are read alone. -/
def fillB (keep : List Nat) (l : List Value) (bx : Nat → Option Bx) : Nat → Option Bx :=
  fun d => match keep.idxOf? d with
    | some j => backBx (bx d) (l.getD j undef)
    | none => roBx (bx d)
def backB (keep : List Nat) (l : List Value) (bx : Nat → Option Bx) : Nat → Option Bx :=
  fun d => match keep.idxOf? d with
    | some j => backBx (bx d) (l.getD j undef)
    | none => bx d

abbrev Outc := Ctl × List Value × Hp
def saveAll (ks kb : List Nat) (c : Ctl) (fr : Fr) (S : St) : Option Outc :=
  saveS fr ks fun vs => saveB S kb fun bs => some (c, vs ++ bs, S.hp)
def Kout (ks kb : List Nat) : K Outc :=
  { norm := saveAll ks kb .next, exit := fun id => saveAll ks kb (.exit id), ret := fun v H => some (.ret, [v], H) }

def iterL (step : List Value → Hp → Option Outc) : Nat → List Value → Hp → Option Outc
  | 0, _, _ => none
  | n + 1, l, H => match step l H with
    | some (.next, l', H') => iterL step n l' H'
    | r => r
open Classical in
noncomputable def loopD (step : List Value → Hp → Option Outc) (l : List Value) (H : Hp) : Option Outc :=
  if h : ∃ r n, iterL step n l H = some r then some h.choose else none
def onCtl (c : Ctl) (nx : Option α) (ex : Nat → Option α) (rt : Option α) : Option α :=
  match c with
  | .next => nx
  | .exit id => ex id
  | .ret => rt
def onExit (j id : Nat) (x y : Option α) : Option α := match Nat.beq j id with | true => x | false => y
def roB (keep : List Nat) (bx : Nat → Option Bx) : Nat → Option Bx :=
  fun d => match keep.elem d with
    | true => bx d
    | false => roBx (bx d)
def bindO (x : Option Outc) (k : Ctl → List Value → Hp → Option α) : Option α :=
  match x with
  | some (c, l, H) => k c l H
  | none => none

/-! ### Results, and code -/
def resC (P : Program) (fr : Fr) (S : St) : List ResultVar → (List Value → Option α) → Option α
  | [], k => k []
  | .tmp t :: r, k => sV (getS fr t) fun v => resC P fr S r fun vs => k (v :: vs)
  | .cell t T :: r, k => tyC P T fun n agg => match getS fr t with
    | .loc d off => match S.bx d with
      | some (.cells cs _) => pCell n agg cs off fun v => resC P fr S r fun vs => k (v :: vs)
      | _ => none
    | .val p => pLoad n agg S.hp p fun v => resC P fr S r fun vs => k (v :: vs)
    | _ => none
def resV : List Value → Value
  | [v] => v
  | vs => .tuple vs.toArray
end

noncomputable def exec (C : Ctx) (rs : List ResultVar) : Code → (α : Type) → Fr → St → K α → Option α
  | .skip, _, fr, S, k => k.norm fr S
  | .region _ ops draw, _, fr, S, k => match draw with
    | false => opsC C ops.toList k.norm ops.toList fr S
    | true => match inOrder C.P ops.toList (ancs ops.toList) with
      | true => drawC C ops.toList (ancs ops.toList) k.norm ops.toList 0 fr S [] []
      | false => none
  | .seq a b, α, fr, S, k => match C.O.join C.f (rid b) with
    | none => exec C rs a α fr S { k with norm := fun fr S => exec C rs b α fr S k }
    | some (ks, kb) => bindO (exec C rs a Outc fr ⟨roB kb S.bx, S.hp⟩ (Kout ks kb)) fun c l H => onCtl c
      (exec C rs b α (fillS (wr a []) ks l fr 0) ⟨backB kb (l.drop ks.length) S.bx, H⟩ k)
      (fun id => k.exit id (fillS (wr a []) ks l fr 0) ⟨backB kb (l.drop ks.length) S.bx, H⟩)
      (k.ret (l.headD undef) H)
  | .cond c x y, α, fr, S, k => sV (ev C.P.globals.size fr c) fun v => pBool v fun t => br t (exec C rs x α fr S k) (exec C rs y α fr S k)
  | .block id c, α, fr, S, k => exec C rs c α fr S { k with exit := fun j fr S => onExit j id (k.norm fr S) (k.exit j fr S) }
  | .loop c, _, fr, S, k => match C.O.loop C.f (rid c) with
    | (ks, kb) => saveS fr ks fun vs => saveB S kb fun bs =>
      bindO (loopD (fun l H => exec C rs c Outc (fillS (wr c []) ks l fr 0) ⟨fillB kb (l.drop ks.length) S.bx, H⟩ (Kout ks kb)) (vs ++ bs) S.hp) fun c' l H => onCtl c' none
      (fun id => k.exit id (fillS (wr c []) ks l fr 0) ⟨backB kb (l.drop ks.length) S.bx, H⟩)
      (k.ret (l.headD undef) H)
  | .exit id, _, fr, S, k => k.exit id fr S
  | .ret, _, fr, S, k => resC C.P fr S rs fun vs => k.ret (resV vs) S.hp
  | _, _, _, _, _ => none

def Kfun (P : Program) (rs : List ResultVar) : K (Value × Hp) :=
  { norm := fun fr S => resC P fr S rs fun vs => some (resV vs, S.hp), exit := fun _ _ _ => none, ret := fun v H => some (v, H) }
noncomputable def callF (P : Program) (O : Orc) (ext : FuncId → Option (List Value → Hp → Option (Value × Hp))) (h : Handler) : Handler := fun f args H =>
  match P.funcs[f]? with
  | none => none
  | some fn => match fn.name == "runtime.NumGoroutine" with
    | true => none
    | false => match fn.body with
      | none => none
      | some c => match ext f with
        | some e => e args H
        | none => exec ⟨P, O, h, f⟩ fn.results.toList c _ (args.map .val ++ List.replicate (fn.ntmps - args.length) .unk) ⟨fun _ => none, H⟩ (Kfun P fn.results.toList)
noncomputable def runN (P : Program) (O : Orc) (ext : FuncId → Option (List Value → Hp → Option (Value × Hp))) : Nat → Handler
  | 0 => fun _ _ _ => none
  | n + 1 => callF P O ext (runN P O ext n)
open Classical in
noncomputable def run (P : Program) (O : Orc) (ext : FuncId → Option (List Value → Hp → Option (Value × Hp))) : Handler := fun f args H =>
  if h : ∃ r n, runN P O ext n f args H = some r then some h.choose else none
end Go.AM
namespace Go.AM
noncomputable def execF (P : Program) (O : Orc) (h : Handler) (f : FuncId) (fn : Func) (args : List Value) (H : Hp) : Option (Value × Hp) :=
  exec ⟨P, O, h, f⟩ fn.results.toList (fn.body.getD .skip) _ (args.map .val ++ List.replicate (fn.ntmps - args.length) .unk) ⟨fun _ => none, H⟩ (Kfun P fn.results.toList)
/-- A table by numbers. -/
def look {β : Type} (d : β) : List (Nat × β) → Nat → β
  | [], _ => d
  | (i, b) :: r, j => match Nat.beq i j with
    | true => b
    | false => look d r j
def mkOrc (l : List (Nat × List Nat)) (j : List (Nat × List (Nat × Option (List Nat × List Nat)))) (p : List (Nat × List (Nat × List Nat × List Nat))) : Orc :=
  { loc := look [] l, join := fun f => look none (look [] j f), loop := fun f => look ([], []) (look [] p f) }
end Go.AM
/- The abstract machine: operations as functions of what they read. -/
set_option linter.unusedVariables false
namespace Go.AM
open Go

section
variable {α γ : Type} {K : γ → Option α}

theorem sV_nat {s : Slot} {f : Value → Option α} {g : Value → Option γ} (h : ∀ v, f v = (g v).bind K) : sV s f = (sV s g).bind K := by cases s <;> first | exact h _ | rfl
theorem evs_nat {G : Nat} {fr : Fr} : ∀ (xs : List Operand) {f : List Value → Option α} {g : List Value → Option γ}, (∀ v, f v = (g v).bind K) → evs G fr xs f = (evs G fr xs g).bind K
  | [], f, g, h => h []
  | x :: xs, f, g, h => sV_nat fun v => evs_nat xs fun vs => h (v :: vs)
theorem optV_nat {G : Nat} {fr : Fr} {x : Option Operand} {f : Option Value → Option α} {g : Option Value → Option γ} (h : ∀ v, f v = (g v).bind K) : optV G fr x f = (optV G fr x g).bind K := by
  cases x with
  | none => exact h _
  | some x => exact sV_nat fun v => h _
theorem pBool_nat {v : Value} {f : Bool → Option α} {g : Bool → Option γ} (h : ∀ v, f v = (g v).bind K) : pBool v f = (pBool v g).bind K := by cases v <;> first | exact h _ | rfl
theorem pLoad_nat {n : Nat} {a : Bool} {H : Hp} {p : Value} {f : Value → Option α} {g : Value → Option γ} (h : ∀ v, f v = (g v).bind K) : pLoad n a H p f = (pLoad n a H p g).bind K := by
  unfold pLoad; cases (H.rdP p n a) <;> first | exact h _ | rfl
theorem pCell_nat {n : Nat} {a : Bool} {cs : List Value} {o : Nat} {f : Value → Option α} {g : Value → Option γ} (h : ∀ v, f v = (g v).bind K) : pCell n a cs o f = (pCell n a cs o g).bind K := by
  unfold pCell; cases (rdCells cs o n a) <;> first | exact h _ | rfl
theorem pBuild_nat {P : Program} {t : TypeId} {l : List (Nat × Value)} {f : Value → Option α} {g : Value → Option γ} (h : ∀ v, f v = (g v).bind K) : pBuild P t l f = (pBuild P t l g).bind K := by
  unfold pBuild; cases (buildV P t l) <;> first | exact h _ | rfl
theorem pSliceS_nat {x : Value} {lo hi : Option Value} {f : Value → Option α} {g : Value → Option γ} (h : ∀ v, f v = (g v).bind K) : pSliceS x lo hi f = (pSliceS x lo hi g).bind K := by
  unfold pSliceS; cases (sliceS x lo hi) <;> first | exact h _ | rfl
theorem pSlice_nat {n : Nat} {x : Value} {lo hi : Option Value} {f : Value → Option α} {g : Value → Option γ} (h : ∀ v, f v = (g v).bind K) : pSlice n x lo hi f = (pSlice n x lo hi g).bind K := by
  unfold pSlice; cases (sliceV n x lo hi) <;> first | exact h _ | rfl
theorem pIdx_nat {n : Nat} {x i : Value} {f : Value → Option α} {g : Value → Option γ} (h : ∀ v, f v = (g v).bind K) : pIdx n x i f = (pIdx n x i g).bind K := by
  unfold pIdx; cases (idxV n x i) <;> first | exact h _ | rfl
theorem pExtract_nat {t : Value} {i : Nat} {f : Value → Option α} {g : Value → Option γ} (h : ∀ v, f v = (g v).bind K) : pExtract t i f = (pExtract t i g).bind K := by
  unfold pExtract; cases (extractV t i) <;> first | exact h _ | rfl
theorem pBin_nat {P : Program} {op : BinOp} {T : TypeId} {x y : Value} {f : Value → Option α} {g : Value → Option γ} (h : ∀ v, f v = (g v).bind K) : pBin P op T x y f = (pBin P op T x y g).bind K := by
  unfold pBin; cases (binV P op T x y) <;> first | exact h _ | rfl
theorem pUn_nat {op : UnOp} {x : Value} {f : Value → Option α} {g : Value → Option γ} (h : ∀ v, f v = (g v).bind K) : pUn op x f = (pUn op x g).bind K := by
  unfold pUn; cases (unV op x) <;> first | exact h _ | rfl
theorem pConvInt_nat {kd : IntKind} {x : Value} {f : Value → Option α} {g : Value → Option γ} (h : ∀ v, f v = (g v).bind K) : pConvInt kd x f = (pConvInt kd x g).bind K := by
  unfold pConvInt; cases (convIntV kd x) <;> first | exact h _ | rfl
theorem pLen_nat {q : LenK} {x : Value} {H : Hp} {f : Value → Option α} {g : Value → Option γ} (h : ∀ v, f v = (g v).bind K) : pLen q x H f = (pLen q x H g).bind K := by
  unfold pLen; cases (lenV q x H) <;> first | exact h _ | rfl
theorem pToStr_nat {x : Value} {H : Hp} {f : Value → Option α} {g : Value → Option γ} (h : ∀ v, f v = (g v).bind K) : pToStr x H f = (pToStr x H g).bind K := by
  unfold pToStr; cases (toStrV x H) <;> first | exact h _ | rfl
theorem pStore_nat {n : Nat} {H : Hp} {p v : Value} {f : Hp → Option α} {g : Hp → Option γ} (h : ∀ v, f v = (g v).bind K) : pStore n H p v f = (pStore n H p v g).bind K := by
  unfold pStore; cases (H.wr p n v) <;> first | exact h _ | rfl
theorem pUpd_nat {P : Program} {kt : TypeId} {m key v : Value} {H : Hp} {f : Hp → Option α} {g : Hp → Option γ} (h : ∀ v, f v = (g v).bind K) : pUpd P kt m key v H f = (pUpd P kt m key v H g).bind K := by
  unfold pUpd; cases (updV P kt m key v H) <;> first | exact h _ | rfl
theorem pDel_nat {P : Program} {kt : TypeId} {m key : Value} {H : Hp} {f : Hp → Option α} {g : Hp → Option γ} (h : ∀ v, f v = (g v).bind K) : pDel P kt m key H f = (pDel P kt m key H g).bind K := by
  unfold pDel; cases (delV P kt m key H) <;> first | exact h _ | rfl
theorem pSplice_nat {n : Nat} {cs : List Value} {o : Nat} {v : Value} {f : List Value → Option α} {g : List Value → Option γ} (h : ∀ v, f v = (g v).bind K) : pSplice n cs o v f = (pSplice n cs o v g).bind K := by
  unfold pSplice; cases (wrCells n cs o v) <;> first | exact h _ | rfl
theorem pBuildSlice_nat {n : Nat} {zs : List Value} {len : Nat} {l : List (Nat × Value)} {H : Hp} {f : Value → Hp → Option α} {g : Value → Hp → Option γ} (h : ∀ v u, f v u = (g v u).bind K) : pBuildSlice n zs len l H f = (pBuildSlice n zs len l H g).bind K := by
  unfold pBuildSlice; rcases (buildSliceV n zs len l H) with _ | ⟨v, u⟩
  · rfl
  · exact h _ _
theorem pMakeSlice_nat {n m : Nat} {zs : List Value} {l c : Value} {H : Hp} {f : Value → Hp → Option α} {g : Value → Hp → Option γ} (h : ∀ v u, f v u = (g v u).bind K) : pMakeSlice n m zs l c H f = (pMakeSlice n m zs l c H g).bind K := by
  unfold pMakeSlice; rcases (makeSliceV n m zs l c H) with _ | ⟨v, u⟩
  · rfl
  · exact h _ _
theorem pAppend_nat {n m : Nat} {s x : Value} {H : Hp} {f : Value → Hp → Option α} {g : Value → Hp → Option γ} (h : ∀ v u, f v u = (g v u).bind K) : pAppend n m s x H f = (pAppend n m s x H g).bind K := by
  unfold pAppend; rcases (appendV n m s x H) with _ | ⟨v, u⟩
  · rfl
  · exact h _ _
theorem pCopy_nat {n : Nat} {s x : Value} {H : Hp} {f : Value → Hp → Option α} {g : Value → Hp → Option γ} (h : ∀ v u, f v u = (g v u).bind K) : pCopy n s x H f = (pCopy n s x H g).bind K := by
  unfold pCopy; rcases (copyV n s x H) with _ | ⟨v, u⟩
  · rfl
  · exact h _ _
theorem tyC_nat {P : Program} {T : TypeId} {f : Nat → Bool → Option α} {g : Nat → Bool → Option γ} (h : ∀ v u, f v u = (g v u).bind K) : tyC P T f = (tyC P T g).bind K := by
  unfold tyC; cases P.info? T with
  | none => rfl
  | some i => cases P.underlying T with
    | none => rfl
    | some d => exact h _ _
theorem zeroC_nat {P : Program} {T : TypeId} {f : Value → Option α} {g : Value → Option γ} (h : ∀ v, f v = (g v).bind K) : zeroC P T f = (zeroC P T g).bind K := by
  unfold zeroC; rcases P.info? T with _ | i
  · rfl
  · dsimp only
    rcases i.zero with _ | z
    · rfl
    · dsimp only
      cases constOk z with
      | true => exact h _
      | false => rfl
theorem sliceC_nat {P : Program} {T : TypeId} {f : Nat → Nat → List Value → Option α} {g : Nat → Nat → List Value → Option γ} (h : ∀ v u l, f v u l = (g v u l).bind K) : sliceC P T f = (sliceC P T g).bind K := by
  unfold sliceC; rcases P.underlying T with _ | d
  · rfl
  · cases d <;> first | rfl | skip
    rename_i e
    dsimp only
    cases P.info? e with
    | none => rfl
    | some i => exact zeroC_nat fun z => by split; · rfl
                                            · exact h _ _ _
theorem mapC_nat {P : Program} {T : TypeId} {f : TypeId → Value → Option α} {g : TypeId → Value → Option γ} (h : ∀ v u, f v u = (g v u).bind K) : mapC P T f = (mapC P T g).bind K := by
  unfold mapC; rcases P.underlying T with _ | d
  · rfl
  · cases d <;> first | rfl | skip
    rename_i kt et
    dsimp only
    cases keyOk P 20 kt with
    | true => exact zeroC_nat fun z => h _ _
    | false => rfl
theorem pNil_nat {v : Value} {f : Option α} {g : Option γ} (h : f = g.bind K) : pNil v f = (pNil v g).bind K := by
  unfold pNil; split <;> first | exact h | rfl
theorem pOffs_nat {n : Nat} {v : Value} {f : Value → Option α} {g : Value → Option γ} (h : ∀ v, f v = (g v).bind K) : pOffs n v f = (pOffs n v g).bind K := by
  unfold pOffs; split <;> first | exact h _ | rfl
theorem pRune_nat {v : Value} {f : Value → Option α} {g : Value → Option γ} (h : ∀ v, f v = (g v).bind K) : pRune v f = (pRune v g).bind K := by
  unfold pRune; split <;> first | exact h _ | rfl
theorem pStr_nat {v : Value} {f : Value → Option α} {g : Value → Option γ} (h : ∀ v, f v = (g v).bind K) : pStr v f = (pStr v g).bind K := by
  unfold pStr; split <;> first | exact h _ | rfl
theorem pStrC_nat {v : Value} {f : ByteArray → Option α} {g : ByteArray → Option γ} (h : ∀ v, f v = (g v).bind K) : pStrC v f = (pStrC v g).bind K := by
  unfold pStrC; split <;> first | exact h _ | rfl
theorem pPart_nat {a : Bool} {n o : Nat} {v : Value} {f : Value → Option α} {g : Value → Option γ} (h : ∀ v, f v = (g v).bind K) : pPart a n o v f = (pPart a n o v g).bind K := by
  unfold pPart; split
  · rename_i cs; cases partC a n cs.toList o <;> first | exact h _ | rfl
  · rfl
theorem pIdxArr_nat {n o : Nat} {v i : Value} {f : Value → Option α} {g : Value → Option γ} (h : ∀ v, f v = (g v).bind K) : pIdxArr n o v i f = (pIdxArr n o v i g).bind K := by
  unfold pIdxArr; split
  · split; · exact h _
    · rfl
  · rfl
theorem pIdxLoc_nat {n : Nat} {i : Value} {f : Nat → Option α} {g : Nat → Option γ} (h : ∀ v, f v = (g v).bind K) : pIdxLoc n i f = (pIdxLoc n i g).bind K := by
  unfold pIdxLoc; split
  · split; · exact h _
    · rfl
  · rfl
theorem pAtStr_nat {v i : Value} {f : Value → Option α} {g : Value → Option γ} (h : ∀ v, f v = (g v).bind K) : pAtStr v i f = (pAtStr v i g).bind K := by
  unfold pAtStr; split
  · rename_i s kd j; cases atStr s j <;> first | exact h _ | rfl
  · rfl
theorem pAtArr_nat {len n : Nat} {a : Bool} {v i : Value} {f : Value → Option α} {g : Value → Option γ} (h : ∀ v, f v = (g v).bind K) : pAtArr len a n v i f = (pAtArr len a n v i g).bind K := by
  unfold pAtArr; split
  · split; · exact pPart_nat h
    · rfl
  · rfl
theorem pLook_nat {P : Program} {kt : TypeId} {z m key : Value} {ok : Bool} {H : Hp} {f : Value → Option α} {g : Value → Option γ} (h : ∀ v, f v = (g v).bind K) : pLook P kt z m key ok H f = (pLook P kt z m key ok H g).bind K := by
  unfold pLook
  generalize lookV P kt z m key H = q
  rcases q with _ | ⟨v, b⟩
  · rfl
  · cases ok <;> exact h _
theorem pToBytes_nat {x : Value} {H : Hp} {f : Value → Hp → Option α} {g : Value → Hp → Option γ} (h : ∀ v u, f v u = (g v u).bind K) : pToBytes x H f = (pToBytes x H g).bind K := by
  unfold pToBytes; split
  · split; · exact h _ _
    · rfl
  · rfl
theorem br_nat {b : Bool} {f f' : Option α} {g g' : Option γ} (h : f = g.bind K) (h' : f' = g'.bind K) : br b f f' = (br b g g').bind K := by cases b <;> assumption
theorem newBox_nat {C : Ctx} {S : St} {d : Option Nat} {cs : List Value} {f : Slot → St → Option α} {g : Slot → St → Option γ} (h : ∀ v u, f v u = (g v u).bind K) : newBox C S d cs f = (newBox C S d cs g).bind K := by
  unfold newBox; split
  · split
    · split
      · rfl
      · exact h _ _
    · exact h _ _
  · rfl
theorem pMM_nat {b : Bool} {l : List Value} {f : Value → Option α} {g : Value → Option γ} (h : ∀ v, f v = (g v).bind K) : pMM b l f = (pMM b l g).bind K := by
  unfold pMM; split
  · rfl
  · rename_i x r; cases mmL b x r <;> first | exact h _ | rfl
theorem pCall_nat {h' : Handler} {fv : Value} {vs : List Value} {H : Hp} {f : Value → Hp → Option α} {g : Value → Hp → Option γ} (h : ∀ v u, f v u = (g v u).bind K) : pCall h' fv vs H f = (pCall h' fv vs H g).bind K := by
  unfold pCall; split
  · rename_i g' first captured
    unfold pCallF
    generalize h' g' (first.toList ++ (vs ++ captured.toList)) H = q
    rcases q with _ | ⟨v, u⟩
    · rfl
    · exact h _ _
  · rfl
end
end Go.AM
/- The abstract machine: operations as functions of what they read, II. -/
set_option linter.unusedVariables false
namespace Go.AM
open Go

section
variable {α : Type}

def opR (C : Ctx) (fr : Fr) (S : St) (o : Oper) : Option (Slot × St) := opC C fr S o fun s S' => some (s, S')

theorem convert_nat {γ : Type} {K : γ → Option α} {C : Ctx} {src dst : TypeId} {x : Value} {H : Hp} {f : Value → Option α} {g : Value → Option γ} {f2 : Value → Hp → Option α} {g2 : Value → Hp → Option γ} (h : ∀ v, f v = (g v).bind K) (h2 : ∀ v u, f2 v u = (g2 v u).bind K) :
    (match C.P.underlying src, C.P.underlying dst with
      | some (.int _), some (.int kd) => pConvInt kd x f
      | some .string, some .string => pStr x f
      | some (.int _), some .string => pRune x f
      | some .string, some (.slice e) => match C.P.underlying e with
        | some (.int .u8) => pToBytes x H f2
        | _ => none
      | some (.slice e), some .string => match C.P.underlying e with
        | some (.int .u8) => pToStr x H f
        | _ => none
      | _, _ => none) =
    (match C.P.underlying src, C.P.underlying dst with
      | some (.int _), some (.int kd) => pConvInt kd x g
      | some .string, some .string => pStr x g
      | some (.int _), some .string => pRune x g
      | some .string, some (.slice e) => match C.P.underlying e with
        | some (.int .u8) => pToBytes x H g2
        | _ => none
      | some (.slice e), some .string => match C.P.underlying e with
        | some (.int .u8) => pToStr x H g
        | _ => none
      | _, _ => none).bind K := by
  rcases C.P.underlying src with _ | d
  · rfl
  · rcases C.P.underlying dst with _ | d'
    · cases d <;> rfl
    · cases d <;> cases d' <;> first | rfl | exact pConvInt_nat h | exact pStr_nat h | exact pRune_nat h | skip
      · rename_i e
        dsimp only
        rcases C.P.underlying e with _ | d
        · rfl
        · cases d <;> first | rfl | skip
          rename_i kd
          cases kd <;> first | rfl | exact pToBytes_nat h2
      · rename_i e
        dsimp only
        rcases C.P.underlying e with _ | d
        · rfl
        · cases d <;> first | rfl | skip
          rename_i kd
          cases kd <;> first | rfl | exact pToStr_nat h

theorem opC_nat (C : Ctx) (fr : Fr) (S : St) (o : Oper) (k : Slot → St → Option α) : opC C fr S o k = (opR C fr S o).bind fun p => k p.1 p.2 := by
  unfold opR opC
  dsimp only
  cases o.op <;> (try dsimp only) <;> first | rfl | skip
  case pick c a b =>
    refine sV_nat fun c => pBool_nat fun t => ?_
    cases ev C.P.globals.size fr a <;> cases ev C.P.globals.size fr b <;> cases t <;> rfl
  case alloc T =>
    refine zeroC_nat fun z => ?_
    cases (cellsL z).all one with
    | true => exact newBox_nat fun _ _ => rfl
    | false => rfl
  case box T x => exact sV_nat fun v => newBox_nat fun _ _ => rfl
  case build T p => exact evs_nat _ fun v => pBuild_nat fun _ => rfl
  case buildSlice T n p => exact evs_nat _ fun v => sliceC_nat fun _ _ _ => pBuildSlice_nat fun _ _ => rfl
  case insert T m key x => exact sV_nat fun m => sV_nat fun key => sV_nat fun x => mapC_nat fun _ _ => pUpd_nat fun _ => rfl
  case mapUpdate T m key x => exact sV_nat fun m => sV_nat fun key => sV_nat fun x => mapC_nat fun _ _ => pUpd_nat fun _ => rfl
  case load T a =>
    refine tyC_nat fun n agg => ?_
    cases ev C.P.globals.size fr a with
    | loc d off =>
      dsimp only
      rcases S.bx d with _ | b
      · rfl
      · cases b with
        | cells cs ro => exact pCell_nat fun _ => rfl
        | _ => rfl
    | val p => exact pLoad_nat fun _ => rfl
    | _ => rfl
  case store T a x =>
    refine sV_nat fun v => tyC_nat fun n agg => ?_
    cases ev C.P.globals.size fr a with
    | loc d off =>
      dsimp only
      rcases S.bx d with _ | b
      · rfl
      · cases b with
        | cells cs ro => cases ro <;> first | rfl | exact pSplice_nat fun _ => rfl
        | _ => rfl
    | val p => exact pStore_nat fun _ => rfl
    | _ => rfl
  case nilCheck x =>
    cases ev C.P.globals.size fr x with
    | val p => exact pNil_nat rfl
    | _ => rfl
  case binOp op T x y T' => exact sV_nat fun x => sV_nat fun y => pBin_nat fun _ => rfl
  case unOp op T x => exact sV_nat fun x => pUn_nat fun _ => rfl
  case convert src dst x => exact sV_nat fun x => convert_nat (fun _ => rfl) (fun _ _ => rfl)
  case makeFunc fn first captured => exact evs_nat _ fun fs => evs_nat _ fun cs => rfl
  case makeMap T x => cases x <;> rfl
  case makeSlice T l c => exact sV_nat fun l => sV_nat fun c => sliceC_nat fun _ _ _ => pMakeSlice_nat fun _ _ => rfl
  case slice T x lo hi mx =>
    cases mx with
    | some m => rfl
    | none =>
      dsimp only
      refine sV_nat fun x => optV_nat fun lo => optV_nat fun hi => ?_
      rcases C.P.underlying T with _ | d
      · rfl
      · cases d <;> first | rfl | exact pSliceS_nat fun _ => rfl | skip
        rename_i e
        dsimp only
        rcases C.P.info? e with _ | i
        · rfl
        · exact pSlice_nat fun _ => rfl
  case fieldAddr T x f =>
    rcases C.P.underlying T with _ | d
    · rfl
    · cases d <;> first | rfl | skip
      rename_i fs
      dsimp only
      rcases fs.toList[f]? with _ | fd
      · rfl
      · dsimp only
        rcases C.P.info? fd.type with _ | i
        · rfl
        · dsimp only
          cases Nat.beq i.size 0
          · dsimp only
            cases ev C.P.globals.size fr x with
            | val p => exact pOffs_nat fun _ => rfl
            | _ => rfl
          · rfl
  case field T x f =>
    refine sV_nat fun x => ?_
    rcases C.P.underlying T with _ | d
    · rfl
    · cases d <;> first | rfl | skip
      rename_i fs
      dsimp only
      rcases fs.toList[f]? with _ | fd
      · rfl
      · exact tyC_nat fun n agg => pPart_nat fun _ => rfl
  case indexAddr T x i =>
    refine sV_nat fun i => ?_
    rcases C.P.underlying T with _ | d
    · rfl
    · cases d <;> first | rfl | skip
      · rename_i e
        dsimp only
        rcases C.P.info? e with _ | ti
        · rfl
        · exact sV_nat fun x => pIdx_nat fun _ => rfl
      · rename_i len e
        dsimp only
        rcases C.P.info? e with _ | ti
        · rfl
        · dsimp only
          cases ev C.P.globals.size fr x with
          | loc d off => exact pIdxLoc_nat fun _ => rfl
          | val p => exact pIdxArr_nat fun _ => rfl
          | _ => rfl
  case index T x i =>
    refine sV_nat fun x => sV_nat fun i => ?_
    rcases C.P.underlying T with _ | d
    · rfl
    · cases d <;> first | rfl | exact pAtStr_nat fun _ => rfl | exact tyC_nat fun _ _ => pAtArr_nat fun _ => rfl
  case lookup T m key ok => exact sV_nat fun m => sV_nat fun key => mapC_nat fun kt z => pLook_nat fun _ => rfl
  case range T x =>
    refine sV_nat fun x => ?_
    rcases C.P.underlying T with _ | d
    · rfl
    · cases d <;> first | rfl | skip
      rcases o.dst with _ | d
      · rfl
      · dsimp only
        rcases S.bx d with _ | b
        · exact pStrC_nat fun _ => rfl
        · rfl
  case next it b =>
    cases b with
    | false => rfl
    | true =>
      dsimp only
      cases ev C.P.globals.size fr it with
      | loc d off =>
        cases off with
        | zero =>
          show (match S.bx d with
            | some (.iter s pos) => br (Nat.blt pos s.size) (k (Slot.val (.tuple #[.bool true, .int .i64 pos, .int .i32 (Utf8.decode s pos).1])) (S.setB d (some (.iter s (pos + (Utf8.decode s pos).2))))) (k (Slot.val (.tuple #[.bool false])) S)
            | _ => none) = Option.bind (match S.bx d with
            | some (.iter s pos) => br (Nat.blt pos s.size) (some ((Slot.val (.tuple #[.bool true, .int .i64 pos, .int .i32 (Utf8.decode s pos).1])), (S.setB d (some (.iter s (pos + (Utf8.decode s pos).2)))))) (some ((Slot.val (.tuple #[.bool false])), S))
            | _ => none) (fun p => k p.1 p.2)
          rcases S.bx d with _ | b
          · rfl
          · cases b with
            | iter s pos => exact br_nat rfl rfl
            | _ => rfl
        | succ n => rfl
      | _ => rfl
  case extract t i => exact sV_nat fun t => pExtract_nat fun _ => rfl
  case call c =>
    rcases c.callee with fo | ⟨rv, m⟩ | b
    · exact sV_nat fun fv => evs_nat _ fun vs => pCall_nat fun _ _ => rfl
    · rfl
    · refine evs_nat _ fun vs => ?_
      generalize c.argTypes.toList = ts
      cases b <;> (try dsimp only) <;> first | rfl | exact pMM_nat fun _ => rfl | skip
      all_goals
        rcases vs with _ | ⟨x, _ | ⟨y, _ | ⟨z, vs⟩⟩⟩ <;> rcases ts with _ | ⟨t, _ | ⟨u, _ | ⟨t3, ts⟩⟩⟩ <;> (try dsimp only) <;> first | rfl | skip
      · refine sliceC_nat fun sz bytes _ => ?_
        rcases C.P.underlying u with _ | d
        · rfl
        · cases d <;> first | rfl | exact pAppend_nat fun _ _ => rfl
      · exact sliceC_nat fun sz _ _ => pCopy_nat fun _ _ => rfl
      · exact mapC_nat fun kt _ => pDel_nat fun _ => rfl
      · rcases C.P.underlying t with _ | d
        · rfl
        · dsimp only
          rcases lenK d with _ | q
          · rfl
          · exact pLen_nat fun _ => rfl
end
end Go.AM
/- The abstract machine: operations that do not act. -/
set_option linter.unusedVariables false
namespace Go.AM
open Go

section
variable {α : Type}

/-! ### What does not act -/
theorem opC_pr (C : Ctx) (fr : Fr) (S S2 : St) (o : Oper) (k : Slot → St → Option α) (hp : kindOf C.P o.op = .pure ∨ (kindOf C.P o.op = .read ∧ S2 = S)) :
    opC C fr S o k = (opC C fr S2 o (fun s _ => some s)).bind fun s => k s S := by
  unfold opC
  dsimp only
  generalize hop : o.op = op at hp ⊢
  have ne : ∀ {x : OK}, x = .eff → ¬ (x = .pure ∨ (x = .read ∧ S2 = S)) := by rintro x rfl (h | ⟨h, _⟩) <;> cases h
  cases op <;> (try dsimp only) <;> first | rfl | exact absurd hp (ne rfl) | skip
  case pick c a b =>
    refine sV_nat fun c => pBool_nat fun t => ?_
    cases ev C.P.globals.size fr a <;> cases ev C.P.globals.size fr b <;> cases t <;> rfl
  case build T p => exact evs_nat _ fun v => pBuild_nat fun _ => rfl
  case load T a =>
    have hS : S2 = S := by rcases hp with h | h; · cases h
                           · exact h.2
    subst hS
    refine tyC_nat fun n agg => ?_
    cases ev C.P.globals.size fr a with
    | loc d off =>
      dsimp only
      rcases S2.bx d with _ | b
      · rfl
      · cases b with
        | cells cs ro => exact pCell_nat fun _ => rfl
        | _ => rfl
    | val p => exact pLoad_nat fun _ => rfl
    | _ => rfl
  case nilCheck x =>
    cases ev C.P.globals.size fr x with
    | val p => exact pNil_nat rfl
    | _ => rfl
  case binOp op T x y T' => exact sV_nat fun x => sV_nat fun y => pBin_nat fun _ => rfl
  case unOp op T x => exact sV_nat fun x => pUn_nat fun _ => rfl
  case convert src dst x =>
    refine sV_nat fun x => ?_
    unfold kindOf at hp
    dsimp only at hp
    rcases h1 : C.P.underlying src with _ | d
    · rfl
    · rcases h2 : C.P.underlying dst with _ | d'
      · cases d <;> rfl
      · rw [h1, h2] at hp
        cases d <;> cases d' <;> first | rfl | exact absurd hp (ne rfl) | exact pConvInt_nat (fun _ => rfl) | exact pStr_nat (fun _ => rfl) | exact pRune_nat (fun _ => rfl)
  case makeFunc fn first captured => exact evs_nat _ fun fs => evs_nat _ fun cs => rfl
  case slice T x lo hi mx =>
    cases mx with
    | some m => rfl
    | none =>
      dsimp only
      refine sV_nat fun x => optV_nat fun lo => optV_nat fun hi => ?_
      rcases C.P.underlying T with _ | d
      · rfl
      · cases d <;> first | rfl | exact pSliceS_nat fun _ => rfl | skip
        rename_i e
        dsimp only
        rcases C.P.info? e with _ | i
        · rfl
        · exact pSlice_nat fun _ => rfl
  case fieldAddr T x f =>
    rcases C.P.underlying T with _ | d
    · rfl
    · cases d <;> first | rfl | skip
      rename_i fs
      dsimp only
      rcases fs.toList[f]? with _ | fd
      · rfl
      · dsimp only
        rcases C.P.info? fd.type with _ | i
        · rfl
        · dsimp only
          cases Nat.beq i.size 0
          · dsimp only
            cases ev C.P.globals.size fr x with
            | val p => exact pOffs_nat fun _ => rfl
            | _ => rfl
          · rfl
  case field T x f =>
    refine sV_nat fun x => ?_
    rcases C.P.underlying T with _ | d
    · rfl
    · cases d <;> first | rfl | skip
      rename_i fs
      dsimp only
      rcases fs.toList[f]? with _ | fd
      · rfl
      · exact tyC_nat fun n agg => pPart_nat fun _ => rfl
  case indexAddr T x i =>
    refine sV_nat fun i => ?_
    rcases C.P.underlying T with _ | d
    · rfl
    · cases d <;> first | rfl | skip
      · rename_i e
        dsimp only
        rcases C.P.info? e with _ | ti
        · rfl
        · exact sV_nat fun x => pIdx_nat fun _ => rfl
      · rename_i len e
        dsimp only
        rcases C.P.info? e with _ | ti
        · rfl
        · dsimp only
          cases ev C.P.globals.size fr x with
          | loc d off => exact pIdxLoc_nat fun _ => rfl
          | val p => exact pIdxArr_nat fun _ => rfl
          | _ => rfl
  case index T x i =>
    refine sV_nat fun x => sV_nat fun i => ?_
    rcases C.P.underlying T with _ | d
    · rfl
    · cases d <;> first | rfl | exact pAtStr_nat fun _ => rfl | exact tyC_nat fun _ _ => pAtArr_nat fun _ => rfl
  case lookup T m key ok =>
    have hS : S2 = S := by rcases hp with h | h; · cases h
                           · exact h.2
    subst hS
    exact sV_nat fun m => sV_nat fun key => mapC_nat fun kt z => pLook_nat fun _ => rfl
  case extract t i => exact sV_nat fun t => pExtract_nat fun _ => rfl
  case call c =>
    obtain ⟨callee, args, ats⟩ := c
    rcases callee with fo | ⟨rv, m⟩ | b
    · exact absurd hp (ne rfl)
    · rfl
    · cases b <;> first | exact absurd hp (ne rfl) | skip
      · have hS : S2 = S := by rcases hp with h | h; · cases h
                               · exact h.2
        subst hS
        refine evs_nat _ fun vs => ?_
        generalize ats.toList = ts
        rcases vs with _ | ⟨x, _ | ⟨y, _ | ⟨z, vs⟩⟩⟩ <;> rcases ts with _ | ⟨t, _ | ⟨u, _ | ⟨t3, ts⟩⟩⟩ <;> (try dsimp only) <;> first | rfl | skip
        rcases C.P.underlying t with _ | d
        · rfl
        · dsimp only
          rcases lenK d with _ | q
          · rfl
          · exact pLen_nat fun _ => rfl
      · exact evs_nat _ fun vs => pMM_nat fun _ => rfl
      · exact evs_nat _ fun vs => pMM_nat fun _ => rfl
end
end Go.AM
/- The abstract machine: its run is a limit; the equation of a run; loops. -/
set_option linter.unusedVariables false
namespace Go.AM
open Go

/-- A growing family of answers, and what it comes to. -/
structure Lim {α : Type} (F : Nat → Option α) (x : Option α) : Prop where
  mono : ∀ n r, F n = some r → F (n + 1) = some r
  le : ∀ n r, F n = some r → x = some r
  sup : ∀ r, x = some r → ∃ n, F n = some r
section
variable {α γ : Type}
theorem Lim.const (x : Option α) : Lim (fun _ => x) x := ⟨fun _ _ h => h, fun _ _ h => h, fun _ h => ⟨0, h⟩⟩
theorem Lim.of_eq {F : Nat → Option α} {x : Option α} (h : ∀ n, F n = x) : Lim F x := by
  have : F = fun _ => x := funext h
  rw [this]; exact Lim.const x
theorem Lim.mono' {F : Nat → Option α} {x : Option α} (h : Lim F x) {n m : Nat} (hm : n ≤ m) {r : α} (hr : F n = some r) : F m = some r := by
  induction m with
  | zero => have : n = 0 := by omega
            subst this; exact hr
  | succ m ih =>
    rcases Nat.lt_or_ge m n with q | q
    · have : n = m + 1 := by omega
      subst this; exact hr
    · exact h.mono m r (ih q)
theorem Lim.bind {F : Nat → Option γ} {x : Option γ} (h : Lim F x) {G : Nat → γ → Option α} {g : γ → Option α} (hg : ∀ v, Lim (fun n => G n v) (g v)) : Lim (fun n => (F n).bind (G n)) (x.bind g) := by
  have inv : ∀ {a : Option γ} {f : γ → Option α} {r : α}, a.bind f = some r → ∃ v, a = some v ∧ f v = some r := fun {a f r} h => by
    cases a with
    | none => cases h
    | some v => exact ⟨v, rfl, h⟩
  refine ⟨fun n r hr => ?_, fun n r hr => ?_, fun r hr => ?_⟩
  · obtain ⟨v, h1, h2⟩ := inv hr
    rw [h.mono n v h1]; exact (hg v).mono n r h2
  · obtain ⟨v, h1, h2⟩ := inv hr
    rw [h.le n v h1]; exact (hg v).le n r h2
  · obtain ⟨v, h1, h2⟩ := inv hr
    obtain ⟨n, hn⟩ := h.sup v h1
    obtain ⟨m, hm⟩ := (hg v).sup r h2
    refine ⟨max n m, ?_⟩
    rw [h.mono' (Nat.le_max_left n m) hn]
    exact (hg v).mono' (Nat.le_max_right n m) hm
/-- What passes its way on to one continuation. -/
theorem Lim.nat {p : Option γ} {X : Nat → Option α} {x : Option α} {G : Nat → γ → Option α} {g : γ → Option α} (hX : ∀ n, X n = p.bind (G n)) (hx : x = p.bind g) (hg : ∀ v, Lim (fun n => G n v) (g v)) : Lim X x := by
  have : X = fun n => p.bind (G n) := funext hX
  rw [this, hx]
  exact (Lim.const p).bind hg

def nextD (f : List Value → Hp → Option Outc) (o : Outc) : Option Outc :=
  match o with
  | (.next, l, H) => f l H
  | r => some r
theorem iterL_succ (s : List Value → Hp → Option Outc) (m : Nat) (l : List Value) (H : Hp) : iterL s (m + 1) l H = (s l H).bind (nextD (iterL s m)) := by
  show (match s l H with | some (.next, l', H') => iterL s m l' H' | r => r) = _
  rcases s l H with _ | ⟨c, l', H'⟩
  · rfl
  · cases c <;> rfl
theorem bind_some {α γ : Type} {a : Option γ} {f : γ → Option α} {r : α} (h : a.bind f = some r) : ∃ v, a = some v ∧ f v = some r := by
  cases a with
  | none => cases h
  | some v => exact ⟨v, rfl, h⟩
theorem nextD_imp {f g : List Value → Hp → Option Outc} {o r : Outc} (h : ∀ l H, f l H = some r → g l H = some r) (hr : nextD f o = some r) : nextD g o = some r := by
  obtain ⟨c, l, H⟩ := o
  cases c with
  | next => exact h l H hr
  | _ => exact hr
theorem iterL_add {step : List Value → Hp → Option Outc} : ∀ (n : Nat) {l : List Value} {H : Hp} {r : Outc}, iterL step n l H = some r → iterL step (n + 1) l H = some r
  | 0, l, H, r, h => by cases h
  | n + 1, l, H, r, h => by
    rw [iterL_succ] at h ⊢
    obtain ⟨v, h1, h2⟩ := bind_some h
    rw [h1]
    exact nextD_imp (fun l H => iterL_add n) h2
theorem iterL_le {step : List Value → Hp → Option Outc} {n m : Nat} (hm : n ≤ m) {l : List Value} {H : Hp} {r : Outc} (h : iterL step n l H = some r) : iterL step m l H = some r := by
  induction m with
  | zero => have : n = 0 := by omega
            subst this; exact h
  | succ m ih =>
    rcases Nat.lt_or_ge m n with q | q
    · have : n = m + 1 := by omega
      subst this; exact h
    · exact iterL_add m (ih q)
theorem loopD_iff {step : List Value → Hp → Option Outc} {l : List Value} {H : Hp} {r : Outc} : loopD step l H = some r ↔ ∃ n, iterL step n l H = some r := by
  unfold loopD
  constructor
  · intro h
    split at h
    · rename_i hex
      obtain ⟨n, hn⟩ := hex.choose_spec
      have h : hex.choose = r := by simpa using h
      exact ⟨n, by rw [hn, h]⟩
    · cases h
  · rintro ⟨n, hn⟩
    have hex : ∃ r n, iterL step n l H = some r := ⟨r, n, hn⟩
    rw [dif_pos hex]
    obtain ⟨m, hm⟩ := hex.choose_spec
    have h1 := iterL_le (Nat.le_max_left n m) hn
    have h2 := iterL_le (Nat.le_max_right n m) hm
    rw [h1] at h2
    exact h2.symm
/-- A loop, round by round. -/
theorem loopD_eq (step : List Value → Hp → Option Outc) (l : List Value) (H : Hp) : loopD step l H = (step l H).bind (nextD (loopD step)) := by
  apply Option.ext
  intro r
  rw [loopD_iff]
  constructor
  · rintro ⟨n, hn⟩
    cases n with
    | zero => cases hn
    | succ n =>
      rw [iterL_succ] at hn
      obtain ⟨v, h1, h2⟩ := bind_some hn
      rw [h1]
      exact nextD_imp (fun l H h => loopD_iff.2 ⟨n, h⟩) h2
  · intro h
    obtain ⟨⟨c, l', H'⟩, h1, h2⟩ := bind_some h
    cases c with
    | next =>
      obtain ⟨n, hn⟩ := loopD_iff.1 h2
      exact ⟨n + 1, by rw [iterL_succ, h1]; exact hn⟩
    | _ => exact ⟨1, by rw [iterL_succ, h1]; exact h2⟩
theorem Lim.iter {F : Nat → List Value → Hp → Option Outc} {step : List Value → Hp → Option Outc} (h : ∀ l H, Lim (fun n => F n l H) (step l H)) : ∀ (m : Nat) (l : List Value) (H : Hp), Lim (fun n => iterL (F n) m l H) (iterL step m l H)
  | 0, l, H => Lim.const none
  | m + 1, l, H => by
    have e1 : (fun n => iterL (F n) (m + 1) l H) = fun n => (F n l H).bind (nextD (iterL (F n) m)) := funext fun n => iterL_succ (F n) m l H
    rw [e1, iterL_succ]
    refine (h l H).bind fun o => ?_
    obtain ⟨c, l', H'⟩ := o
    cases c with
    | next => exact Lim.iter h m l' H'
    | _ => exact Lim.const _
theorem Lim.loop {F : Nat → List Value → Hp → Option Outc} {step : List Value → Hp → Option Outc} (h : ∀ l H, Lim (fun n => F n l H) (step l H)) (l : List Value) (H : Hp) : Lim (fun n => loopD (F n) l H) (loopD step l H) := by
  refine ⟨fun n r hr => ?_, fun n r hr => ?_, fun r hr => ?_⟩
  · obtain ⟨m, hm⟩ := loopD_iff.1 hr
    exact loopD_iff.2 ⟨m, (Lim.iter h m l H).mono n r hm⟩
  · obtain ⟨m, hm⟩ := loopD_iff.1 hr
    exact loopD_iff.2 ⟨m, (Lim.iter h m l H).le n r hm⟩
  · obtain ⟨m, hm⟩ := loopD_iff.1 hr
    obtain ⟨n, hn⟩ := (Lim.iter h m l H).sup r hm
    exact ⟨n, loopD_iff.2 ⟨m, hn⟩⟩

/-! ### Handlers -/
structure Chain (P : Program) (O : Orc) (f : FuncId) (hs : Nat → Handler) (h : Handler) : Prop where
  lim : ∀ g a H, Lim (fun n => hs n g a H) (h g a H)

variable {P : Program} {O : Orc} {f : FuncId} {hs : Nat → Handler} {h : Handler}

theorem opR_lim (hc : Chain P O f hs h) (fr : Fr) (S : St) (o : Oper) : Lim (fun n => opR ⟨P, O, hs n, f⟩ fr S o) (opR ⟨P, O, h, f⟩ fr S o) := by
  unfold opR opC
  dsimp only
  cases o.op <;> (try dsimp only) <;> first | exact Lim.of_eq fun n => rfl | skip
  case makeMap t r => cases r <;> exact Lim.of_eq fun n => rfl
  case slice T x lo hi mx => cases mx <;> exact Lim.of_eq fun n => rfl
  case next it b => cases b <;> exact Lim.of_eq fun n => rfl
  rename_i c
  rcases c.callee with fo | ⟨rv, m⟩ | b
  · refine Lim.nat (fun n => sV_nat (g := some) fun v => rfl) (sV_nat (g := some) fun v => rfl) fun fv => ?_
    refine Lim.nat (fun n => evs_nat _ (g := some) fun v => rfl) (evs_nat _ (g := some) fun v => rfl) fun vs => ?_
    have e : ∀ h' : Handler, pCall h' fv vs S.hp (fun v H => some (Slot.val v, (⟨S.bx, H⟩ : St))) = (pCall h' fv vs S.hp fun v H => some (v, H)).bind fun p => some (Slot.val p.1, (⟨S.bx, p.2⟩ : St)) := fun h' => pCall_nat fun _ _ => rfl
    have e1 : (fun n => pCall (hs n) fv vs S.hp (fun v H => some (Slot.val v, (⟨S.bx, H⟩ : St)))) = fun n => (pCall (hs n) fv vs S.hp fun v H => some (v, H)).bind fun p => some (Slot.val p.1, (⟨S.bx, p.2⟩ : St)) := funext fun n => e (hs n)
    show Lim (fun n => pCall (hs n) fv vs S.hp (fun v H => some (Slot.val v, (⟨S.bx, H⟩ : St)))) (pCall h fv vs S.hp (fun v H => some (Slot.val v, (⟨S.bx, H⟩ : St))))
    rw [e1, e h]
    refine Lim.bind ?_ fun v => Lim.const _
    unfold pCall
    split
    · rename_i g first captured
      have e2 : ∀ h' : Handler, pCallF h' g (first.toList ++ (vs ++ captured.toList)) S.hp (fun v H => some (v, H)) = h' g (first.toList ++ (vs ++ captured.toList)) S.hp := fun h' => by
        unfold pCallF
        rcases h' g (first.toList ++ (vs ++ captured.toList)) S.hp with _ | ⟨v, H'⟩ <;> rfl
      simp only [e2]
      exact hc.lim g _ S.hp
    · exact Lim.const _
  · exact Lim.const _
  · exact Lim.const _
theorem opC_lim (hc : Chain P O f hs h) {fr : Fr} {S : St} {o : Oper} {K : Nat → Slot → St → Option α} {k : Slot → St → Option α} (hk : ∀ s S, Lim (fun n => K n s S) (k s S)) : Lim (fun n => opC ⟨P, O, hs n, f⟩ fr S o (K n)) (opC ⟨P, O, h, f⟩ fr S o k) := by
  have e1 : (fun n => opC ⟨P, O, hs n, f⟩ fr S o (K n)) = fun n => (opR ⟨P, O, hs n, f⟩ fr S o).bind fun p => K n p.1 p.2 := funext fun n => opC_nat _ _ _ _ _
  rw [e1, opC_nat]
  exact (opR_lim hc fr S o).bind fun p => hk p.1 p.2

/-! ### Regions, code, functions -/
theorem guardC_nat {α : Type} (ops : List Oper) (fr : Fr) (o : Oper) (k : Bool → Fr → Option α) : guardC ops fr o k = (guardC ops fr o fun b fr => some (b, fr)).bind fun p => k p.1 p.2 := by
  unfold guardC
  split
  · rfl
  · split
    · split
      · split
        · rfl
        · exact sV_nat fun v => pBool_nat fun b => br_nat rfl rfl
      · rfl
    · rfl
theorem guardC_lim {α : Type} {ops : List Oper} {fr : Fr} {o : Oper} {K : Nat → Bool → Fr → Option α} {k : Bool → Fr → Option α} (hk : ∀ b fr, Lim (fun n => K n b fr) (k b fr)) : Lim (fun n => guardC ops fr o (K n)) (guardC ops fr o k) :=
  Lim.nat (fun n => guardC_nat ops fr o (K n)) (guardC_nat ops fr o k) fun p => hk p.1 p.2
theorem opsC_lim {α : Type} (hc : Chain P O f hs h) {ops : List Oper} {K : Nat → Fr → St → Option α} {k : Fr → St → Option α} (hk : ∀ fr S, Lim (fun n => K n fr S) (k fr S)) : ∀ (l : List Oper) (fr : Fr) (S : St), Lim (fun n => opsC ⟨P, O, hs n, f⟩ ops (K n) l fr S) (opsC ⟨P, O, h, f⟩ ops k l fr S)
  | [], fr, S => hk fr S
  | o :: l, fr, S => by
    refine guardC_lim fun b fr => ?_
    cases b with
    | true => exact opC_lim hc fun s S' => opsC_lim hc hk l _ _
    | false => exact opsC_lim hc hk l _ _
theorem chk_nat {α : Type} {p : Prop} (k : Option α) : chk p k = (chk p (some ())).bind fun _ => k := by
  unfold chk; split <;> rfl
theorem again_nat {α : Type} (C : Ctx) (fr : Fr) (S : St) (o : Oper) (s : Slot) (k : Option α) : again C fr S o s k = (again C fr S o s (some ())).bind fun _ => k := by
  unfold again
  dsimp only
  cases s <;> first | rfl | skip
  rename_i v
  cases o.op <;> (try dsimp only) <;> first | rfl | skip
  case load T a =>
    refine tyC_nat fun n agg => ?_
    cases ev C.P.globals.size fr a with
    | loc d off =>
      dsimp only
      rcases S.bx d with _ | b
      · rfl
      · cases b <;> first | rfl | exact chk_nat k
    | val p => exact chk_nat k
    | _ => rfl
  case lookup T m key ok => exact sV_nat fun m => sV_nat fun key => mapC_nat fun kt z => chk_nat k
  case call c =>
    refine evs_nat _ fun vs => ?_
    generalize c.argTypes.toList = ts
    rcases vs with _ | ⟨x, _ | ⟨y, vs⟩⟩ <;> rcases ts with _ | ⟨t, _ | ⟨u, ts⟩⟩ <;> (try dsimp only) <;> first | rfl | skip
    rcases C.P.underlying t with _ | d
    · rfl
    · dsimp only
      rcases lenK d with _ | q
      · rfl
      · exact chk_nat k
theorem again_lim {α : Type} {fr : Fr} {S : St} {o : Oper} {s : Slot} {K : Nat → Option α} {k : Option α} (hk : Lim K k) : Lim (fun n => again ⟨P, O, hs n, f⟩ fr S o s (K n)) (again ⟨P, O, h, f⟩ fr S o s k) := by
  have e : ∀ h', again ⟨P, O, h', f⟩ fr S o s (some ()) = again ⟨P, O, h, f⟩ fr S o s (some ()) := fun h' => rfl
  exact Lim.nat (p := again ⟨P, O, h, f⟩ fr S o s (some ())) (G := fun n _ => K n) (g := fun _ => k) (fun n => by rw [again_nat, e]) (again_nat _ _ _ _ _ _) fun _ => hk
theorem chkBack_lim {α : Type} {a i : Nat} {o : Oper} {fr : Fr} {s : Slot} {tag : Option Nat} {K : Nat → Option α} {k : Option α} (hk : Lim K k) : ∀ es : List (Nat × Option Nat × St), Lim (fun n => chkBack ⟨P, O, hs n, f⟩ a i o fr s tag (K n) es) (chkBack ⟨P, O, h, f⟩ a i o fr s tag k es)
  | [] => hk
  | (j, t, S) :: es => by
    unfold chkBack
    split
    · exact chkBack_lim hk es
    · exact again_lim (chkBack_lim hk es)
theorem chkFore_lim {α : Type} {a : Nat} {tag : Option Nat} {S : St} {K : Nat → Option α} {k : Option α} (hk : Lim K k) : ∀ rs : List Rd, Lim (fun n => chkFore ⟨P, O, hs n, f⟩ a tag S (K n) rs) (chkFore ⟨P, O, h, f⟩ a tag S k rs)
  | [] => hk
  | r :: rs => by
    unfold chkFore
    split
    · exact chkFore_lim hk rs
    · exact again_lim (chkFore_lim hk rs)
theorem drawC_lim {α : Type} (hc : Chain P O f hs h) {ops : List Oper} {an : List Nat} {K : Nat → Fr → St → Option α} {k : Fr → St → Option α} (hk : ∀ fr S, Lim (fun n => K n fr S) (k fr S)) :
    ∀ (l : List Oper) (i : Nat) (fr : Fr) (S : St) (es : List (Nat × Option Nat × St)) (rs : List Rd), Lim (fun n => drawC ⟨P, O, hs n, f⟩ ops an (K n) l i fr S es rs) (drawC ⟨P, O, h, f⟩ ops an k l i fr S es rs)
  | [], i, fr, S, es, rs => hk fr S
  | o :: l, i, fr, S, es, rs => by
    unfold drawC
    refine guardC_lim fun b fr => ?_
    cases b with
    | false => exact drawC_lim hc hk l _ _ _ _ _
    | true =>
      dsimp only
      obtain ⟨tg, ht⟩ : ∃ t, ∀ h', tagOf ⟨P, O, h', f⟩ fr o = t := ⟨tagOf ⟨P, O, h, f⟩ fr o, fun h' => rfl⟩
      simp only [ht]
      cases kindOf P o.op with
      | pure => exact opC_lim hc fun s S' => drawC_lim hc hk l _ _ _ _ _
      | read => exact opC_lim hc fun s S' => chkBack_lim (drawC_lim hc hk l _ _ _ _ _) es
      | eff => exact opC_lim hc fun s S' => chkFore_lim (drawC_lim hc hk l _ _ _ _ _) rs

theorem resC_nat {α : Type} {fr : Fr} {S : St} : ∀ (rs : List ResultVar) (k : List Value → Option α), resC P fr S rs k = (resC P fr S rs some).bind k
  | [], k => rfl
  | .tmp t :: rs, k => by
    have e : ∀ {γ : Type} (k : List Value → Option γ), resC P fr S (.tmp t :: rs) k = sV (getS fr t) fun v => resC P fr S rs fun vs => k (v :: vs) := fun k => rfl
    rw [e, e]
    refine sV_nat fun v => ?_
    rw [resC_nat rs, resC_nat rs fun vs => some (v :: vs)]
    cases resC P fr S rs some <;> rfl
  | .cell t T :: rs, k => by
    unfold resC
    refine tyC_nat fun n agg => ?_
    have e : ∀ v, (resC P fr S rs fun vs => k (v :: vs)) = (resC P fr S rs fun vs => some (v :: vs)).bind k := fun v => by
      rw [resC_nat rs, resC_nat rs fun vs => some (v :: vs)]
      cases resC P fr S rs some <;> rfl
    cases getS fr t with
    | loc d off =>
      dsimp only
      rcases S.bx d with _ | b
      · rfl
      · cases b <;> first | rfl | exact pCell_nat e
    | val p => exact pLoad_nat e
    | _ => rfl
structure KLim {α : Type} (K : Nat → AM.K α) (k : AM.K α) : Prop where
  norm : ∀ fr S, Lim (fun n => (K n).norm fr S) (k.norm fr S)
  exit : ∀ id fr S, Lim (fun n => (K n).exit id fr S) (k.exit id fr S)
  ret : ∀ v H, Lim (fun n => (K n).ret v H) (k.ret v H)
theorem saveS_nat {α γ : Type} {X : γ → Option α} {fr : Fr} : ∀ (ks : List Nat) {k : List Value → Option α} {g : List Value → Option γ}, (∀ v, k v = (g v).bind X) → saveS fr ks k = (saveS fr ks g).bind X
  | [], k, g, h => h []
  | d :: ks, k, g, h => sV_nat fun v => saveS_nat ks fun vs => h (v :: vs)
theorem saveB_nat {α γ : Type} {X : γ → Option α} {S : St} : ∀ (ks : List Nat) {k : List Value → Option α} {g : List Value → Option γ}, (∀ v, k v = (g v).bind X) → saveB S ks k = (saveB S ks g).bind X
  | [], k, g, h => h []
  | d :: ks, k, g, h => by
    unfold saveB boxV
    split
    · exact saveB_nat ks fun vs => h _
    · exact saveB_nat ks fun vs => h _
    · rfl
theorem bindO_eq {α : Type} (x : Option Outc) (k : Ctl → List Value → Hp → Option α) : bindO x k = x.bind fun o => k o.1 o.2.1 o.2.2 := by rcases x with _ | ⟨c, l, H⟩ <;> rfl
theorem bindO_lim {α : Type} {X : Nat → Option Outc} {x : Option Outc} (hx : Lim X x) {K : Nat → Ctl → List Value → Hp → Option α} {k : Ctl → List Value → Hp → Option α} (hk : ∀ c l H, Lim (fun n => K n c l H) (k c l H)) :
    Lim (fun n => bindO (X n) (K n)) (bindO x k) := by
  have e : (fun n => bindO (X n) (K n)) = fun n => (X n).bind fun o => K n o.1 o.2.1 o.2.2 := funext fun n => bindO_eq _ _
  rw [e, bindO_eq]
  exact hx.bind fun o => hk _ _ _

theorem exec_lim (hc : Chain P O f hs h) (rs : List ResultVar) : ∀ (c : Code) {α : Type} (fr : Fr) (S : St) {K : Nat → AM.K α} {k : AM.K α}, KLim K k → Lim (fun n => exec ⟨P, O, hs n, f⟩ rs c α fr S (K n)) (exec ⟨P, O, h, f⟩ rs c α fr S k)
  | .skip, α, fr, S, K, k, hk => hk.norm fr S
  | .region id ops draw, α, fr, S, K, k, hk => by
    unfold exec
    cases draw with
    | false => exact opsC_lim hc hk.norm _ _ _
    | true =>
      dsimp only
      cases inOrder P ops.toList (ancs ops.toList) with
      | true => exact drawC_lim hc hk.norm _ _ _ _ _ _
      | false => exact Lim.const _
  | .seq a b, α, fr, S, K, k, hk => by
    unfold exec
    dsimp only
    rcases O.join f (rid b) with _ | ⟨ks, kb⟩
    · exact exec_lim hc rs a fr S ⟨fun fr S => exec_lim hc rs b fr S hk, hk.exit, hk.ret⟩
    · refine bindO_lim (exec_lim hc rs a fr _ ⟨fun _ _ => Lim.const _, fun _ _ _ => Lim.const _, fun _ _ => Lim.const _⟩) fun c l H => ?_
      cases c with
      | next => exact exec_lim hc rs b _ _ hk
      | exit id => exact hk.exit _ _ _
      | ret => exact hk.ret _ _
  | .cond c x y, α, fr, S, K, k, hk => by
    unfold exec
    dsimp only
    refine Lim.nat (p := sV (ev P.globals.size fr c) fun v => pBool v some) (G := fun n t => br t (exec ⟨P, O, hs n, f⟩ rs x α fr S (K n)) (exec ⟨P, O, hs n, f⟩ rs y α fr S (K n)))
      (g := fun t => br t (exec ⟨P, O, h, f⟩ rs x α fr S k) (exec ⟨P, O, h, f⟩ rs y α fr S k)) (fun n => sV_nat fun v => pBool_nat fun t => rfl) (sV_nat fun v => pBool_nat fun t => rfl) fun t => ?_
    cases t with
    | true => exact exec_lim hc rs x fr S hk
    | false => exact exec_lim hc rs y fr S hk
  | .block id c, α, fr, S, K, k, hk => by
    unfold exec
    refine exec_lim hc rs c fr S ⟨hk.norm, fun j fr S => ?_, hk.ret⟩
    try dsimp only
    unfold onExit
    cases Nat.beq j id with
    | true => exact hk.norm _ _
    | false => exact hk.exit _ _ _
  | .loop c, α, fr, S, K, k, hk => by
    obtain ⟨ks, kb, hq⟩ : ∃ ks kb, O.loop f (rid c) = (ks, kb) := ⟨_, _, rfl⟩
    unfold exec
    simp only [hq]
    refine Lim.nat (fun n => saveS_nat ks (g := some) fun v => rfl) (saveS_nat ks (g := some) fun v => rfl) fun vs => ?_
    refine Lim.nat (fun n => saveB_nat kb (g := some) fun v => rfl) (saveB_nat kb (g := some) fun v => rfl) fun bs => ?_
    refine bindO_lim (Lim.loop (fun l H => exec_lim hc rs c _ _ ⟨fun _ _ => Lim.const _, fun _ _ _ => Lim.const _, fun _ _ => Lim.const _⟩) _ _) fun c' l H => ?_
    cases c' with
    | next => exact Lim.const _
    | exit id => exact hk.exit _ _ _
    | ret => exact hk.ret _ _
  | .exit id, α, fr, S, K, k, hk => hk.exit id fr S
  | .ret, α, fr, S, K, k, hk => by
    unfold exec
    exact Lim.nat (fun n => resC_nat rs _) (resC_nat rs _) fun vs => hk.ret _ _
  | .rangeFunc _ _ _ _, _, _, _, _, _, _ => Lim.const _
  | .scope _, _, _, _, _, _, _ => Lim.const _
  | .label _, _, _, _, _, _, _ => Lim.const _
  | .goto _, _, _, _, _, _, _ => Lim.const _
  | .refuse _, _, _, _, _, _, _ => Lim.const _

theorem callF_lim {ext : FuncId → Option (List Value → Hp → Option (Value × Hp))} (hc : ∀ f, Chain P O f hs h) (g : FuncId) (args : List Value) (H : Hp) : Lim (fun n => callF P O ext (hs n) g args H) (callF P O ext h g args H) := by
  unfold callF
  rcases P.funcs[g]? with _ | fn
  · exact Lim.const _
  · dsimp only
    cases fn.name == "runtime.NumGoroutine" with
    | true => exact Lim.const _
    | false =>
      dsimp only
      rcases fn.body with _ | c
      · exact Lim.const _
      · dsimp only
        rcases ext g with _ | e
        · exact exec_lim (hc g) _ c _ _ ⟨fun _ _ => Lim.const _, fun _ _ _ => Lim.const _, fun _ _ => Lim.const _⟩
        · exact Lim.const _
theorem runN_mono {ext : FuncId → Option (List Value → Hp → Option (Value × Hp))} : ∀ (n : Nat) (g : FuncId) (args : List Value) (H : Hp) (r : Value × Hp), runN P O ext n g args H = some r → runN P O ext (n + 1) g args H = some r
  | 0, g, args, H, r, h => by cases h
  | n + 1, g, args, H, r, h => by
    have hch : ∀ f, Chain P O f (fun i => match i with | 0 => runN P O ext n | _ => runN P O ext (n + 1)) (runN P O ext (n + 1)) := fun f => ⟨fun g a H => ⟨fun i r hr => by
        cases i with
        | zero => exact runN_mono n g a H r hr
        | succ i => exact hr, fun i r hr => by
        cases i with
        | zero => exact runN_mono n g a H r hr
        | succ i => exact hr, fun r hr => ⟨1, hr⟩⟩⟩
    exact (callF_lim (ext := ext) hch g args H).mono 0 r h
theorem run_iff {ext : FuncId → Option (List Value → Hp → Option (Value × Hp))} {g : FuncId} {args : List Value} {H : Hp} {r : Value × Hp} : run P O ext g args H = some r ↔ ∃ n, runN P O ext n g args H = some r := by
  have hle : ∀ {n m : Nat} {r : Value × Hp}, n ≤ m → runN P O ext n g args H = some r → runN P O ext m g args H = some r := by
    intro n m r hm hr
    induction m with
    | zero => have : n = 0 := by omega
              subst this; exact hr
    | succ m ih =>
      rcases Nat.lt_or_ge m n with q | q
      · have : n = m + 1 := by omega
        subst this; exact hr
      · exact runN_mono m g args H r (ih q)
  unfold run
  constructor
  · intro h
    split at h
    · rename_i hex
      obtain ⟨n, hn⟩ := hex.choose_spec
      have h : hex.choose = r := by simpa using h
      exact ⟨n, by rw [hn, h]⟩
    · cases h
  · rintro ⟨n, hn⟩
    have hex : ∃ r n, runN P O ext n g args H = some r := ⟨r, n, hn⟩
    rw [dif_pos hex]
    obtain ⟨m, hm⟩ := hex.choose_spec
    have h1 := hle (Nat.le_max_left n m) hn
    have h2 := hle (Nat.le_max_right n m) hm
    rw [h1] at h2
    exact h2.symm
/-- **A run is its own function's call.** -/
theorem run_eq {ext : FuncId → Option (List Value → Hp → Option (Value × Hp))} (g : FuncId) (args : List Value) (H : Hp) : run P O ext g args H = callF P O ext (run P O ext) g args H := by
  have hch : ∀ f, Chain P O f (runN P O ext) (run P O ext) := fun f => ⟨fun g a H => ⟨fun n r hr => runN_mono n g a H r hr, fun n r hr => run_iff.2 ⟨n, hr⟩, fun r hr => run_iff.1 hr⟩⟩
  have hl := callF_lim (ext := ext) hch g args H
  apply Option.ext
  intro r
  constructor
  · intro h
    obtain ⟨n, hn⟩ := run_iff.1 h
    cases n with
    | zero => cases hn
    | succ n => exact hl.le n r hn
  · intro h
    obtain ⟨n, hn⟩ := hl.sup r h
    exact run_iff.2 ⟨n + 1, hn⟩
/-- A run of a function that is not taken whole. -/
theorem run_fn {ext : FuncId → Option (List Value → Hp → Option (Value × Hp))} {g : FuncId} {fn : Func} (hf : P.funcs[g]? = some fn) (hn : (fn.name == "runtime.NumGoroutine") = false) (hb : fn.body.isSome = true) (hx : ext g = none) (args : List Value) (H : Hp) :
    run P O ext g args H = execF P O (run P O ext) g fn args H := by
  rw [run_eq]
  unfold callF execF
  rw [hf]
  dsimp only
  rw [hn]
  dsimp only
  obtain ⟨c, hc⟩ := Option.isSome_iff_exists.1 hb
  rw [hc]
  dsimp only
  rw [hx]
  rfl
end
end Go.AM
namespace Go.AM.N20
open Go Go.AM
set_option linter.unusedVariables false
set_option maxRecDepth 100000
def orc : Orc := mkOrc [(3, [1]), (4, [2, 3]), (5, [1]), (6, [1]), (7, [2, 3, 6]), (8, [2, 3])]
  [(9, [(3, some ([], []))]), (13, [(6, some ([], []))]), (16, [(3, some ([], []))]), (19, [(11, some ([], [])), (3, some ([], []))])]
  [(7, [(2, [28], [])]), (10, [(5, [4, 5], [])]), (11, [(4, [5], [])]), (12, [(2, [0, 3], [])]), (13, [(4, [5, 6, 7], [])]), (15, [(2, [6], [])]), (19, [(17, [10], []), (9, [7, 8], []), (5, [6], [])]), (20, [(1, [0], [])])]
noncomputable def m3 (R : Handler) (x0 : Value) (H0 : Hp) : Option (Value × Hp) :=
 pCell 6 true (cellsL x0) 0 fun v1 =>
 pCallF R 5 [v1] H0 fun r2 H3 =>
 pCell 6 true (cellsL x0) 0 fun v4 =>
 pCallF R 6 [v4] H3 fun r5 H6 =>
 pBin Go.Proofs.Tryd.prog .eql 4 r2 r5 fun v7 =>
 some (v7, H6)
theorem e3 (R : Handler) (x0 : Value) (H0 : Hp) : execF Go.Proofs.Tryd.prog orc R 3 Go.Proofs.Tryd.f3 [x0] H0 = m3 R x0 H0 := by kernel_rfl
noncomputable def m4 (R : Handler) (x0 x1 : Value) (H0 : Hp) : Option (Value × Hp) :=
 pCell 6 true (cellsL x0) 0 fun v1 =>
 pCell 4 true (cellsL x1) 0 fun v2 =>
 pCallF R 7 [v1, v2] H0 fun r3 H4 =>
 pCell 6 true (cellsL x0) 0 fun v5 =>
 pCell 4 true (cellsL x1) 0 fun v6 =>
 pCallF R 8 [v5, v6] H4 fun r7 H8 =>
 pBin Go.Proofs.Tryd.prog .eql 4 r3 r7 fun v9 =>
 some (v9, H8)
theorem e4 (R : Handler) (x0 x1 : Value) (H0 : Hp) : execF Go.Proofs.Tryd.prog orc R 4 Go.Proofs.Tryd.f4 [x0, x1] H0 = m4 R x0 x1 H0 := by kernel_rfl
noncomputable def m5 (R : Handler) (x0 : Value) (H0 : Hp) : Option (Value × Hp) :=
 pCell 1 false (cellsL x0) 5 fun v1 =>
 pCallF R 9 [v1, (.int .i64 1044480)] H0 fun r2 H3 =>
 some (r2, H3)
theorem e5 (R : Handler) (x0 : Value) (H0 : Hp) : execF Go.Proofs.Tryd.prog orc R 5 Go.Proofs.Tryd.f5 [x0] H0 = m5 R x0 H0 := by kernel_rfl
noncomputable def m6 (R : Handler) (x0 : Value) (H0 : Hp) : Option (Value × Hp) :=
 pCell 1 false (cellsL x0) 5 fun v1 =>
 pCallF R 10 [v1] H0 fun r2 H3 =>
 pExtract r2 0 fun v4 =>
 pExtract r2 1 fun v5 =>
 pBool v5 fun b6 => br b6
 (pCallF R 12 [(.int .u64 1048576)] H3 fun r7 H8 =>
 pCallF R 12 [(.int .u64 4096)] H8 fun r9 H10 =>
 pCallF R 13 [v4, r9] H10 fun r11 H12 =>
 pCallF R 11 [r7, r11] H12 fun r13 H14 =>
 pUn .not r13 fun v15 =>
 some (v15, H14))
 (some ((.bool false), H3))
theorem e6 (R : Handler) (x0 : Value) (H0 : Hp) : execF Go.Proofs.Tryd.prog orc R 6 Go.Proofs.Tryd.f6 [x0] H0 = m6 R x0 H0 := by kernel_rfl
noncomputable def m7 (R : Handler) (x0 x1 : Value) (H0 : Hp) : Option (Value × Hp) :=
 pCell 1 false (cellsL x0) 0 fun v1 =>
 pCell 1 false (cellsL x1) 0 fun v2 =>
 pBuild Go.Proofs.Tryd.prog 37 [(0, v1), (1, v2)] fun v3 =>
 pCell 1 false (cellsL x0) 1 fun v4 =>
 pCell 1 false (cellsL x1) 1 fun v5 =>
 pBuild Go.Proofs.Tryd.prog 37 [(0, v4), (1, v5)] fun v6 =>
 pCell 1 false (cellsL x0) 3 fun v7 =>
 pCell 1 false (cellsL x1) 2 fun v8 =>
 pBuild Go.Proofs.Tryd.prog 37 [(0, v7), (1, v8)] fun v9 =>
 pCell 1 false (cellsL x0) 4 fun v10 =>
 pCell 1 false (cellsL x1) 3 fun v11 =>
 pBuild Go.Proofs.Tryd.prog 37 [(0, v10), (1, v11)] fun v12 =>
 pBuild Go.Proofs.Tryd.prog 38 [(0, v3), (1, v6), (2, v9), (3, v12)] fun v13 =>
 bindO (loopD (fun l14 H15 =>
 pBin Go.Proofs.Tryd.prog .lss 3 (l14.getD 0 undef) (.int .i64 4) fun v16 =>
 pBool v16 fun b17 => br b17
 (pAtArr 4 true 2 v13 (l14.getD 0 undef) fun v18 =>
 pSplice 2 [.string ⟨#[]⟩, .int .i64 0] 0 v18 fun c19 =>
 pCell 1 false c19 1 fun v20 =>
 pBin Go.Proofs.Tryd.prog .geq 2 v20 (.int .i64 0) fun v21 =>
 pBool v21 fun b22 => br b22
 (pCell 1 false c19 0 fun v23 =>
 pCell 1 false c19 1 fun v24 =>
 pCallF R 9 [v23, v24] H15 fun r25 H26 =>
 pUn .not r25 fun v27 =>
 pBool v27 fun b28 => br b28
 (some (.ret, [(.bool false)], H26))
 (pBin Go.Proofs.Tryd.prog .add 3 (l14.getD 0 undef) (.int .i64 1) fun v29 =>
 some (.next, [v29], H26)))
 (pBin Go.Proofs.Tryd.prog .add 3 (l14.getD 0 undef) (.int .i64 1) fun v30 =>
 some (.next, [v30], H15)))
 (some (.exit 0, [(l14.getD 0 undef)], H15))) [(.int .i64 0)] H0) fun q31 l32 H33 => onCtl q31 none
 (fun i34 => onExit i34 0 (
 some ((.bool true), H33)) (
 none))
 (some ((l32.headD undef), H33))
theorem e7 (R : Handler) (x0 x1 : Value) (H0 : Hp) : execF Go.Proofs.Tryd.prog orc R 7 Go.Proofs.Tryd.f7 [x0, x1] H0 = m7 R x0 x1 H0 := by kernel_rfl
noncomputable def m8 (R : Handler) (x0 x1 : Value) (H0 : Hp) : Option (Value × Hp) :=
 pCell 1 false (cellsL x0) 0 fun v1 =>
 pCell 1 false (cellsL x1) 0 fun v2 =>
 pCallF R 14 [v1, v2] H0 fun r3 H4 =>
 pBool r3 fun b5 => br b5
 (pCell 1 false (cellsL x0) 1 fun v6 =>
 pCell 1 false (cellsL x1) 1 fun v7 =>
 pCallF R 14 [v6, v7] H4 fun r8 H9 =>
 pBool r8 fun b10 => br b10
 (pCell 1 false (cellsL x0) 3 fun v11 =>
 pCell 1 false (cellsL x1) 2 fun v12 =>
 pCallF R 14 [v11, v12] H9 fun r13 H14 =>
 pBool r13 fun b15 => br b15
 (pCell 1 false (cellsL x0) 4 fun v16 =>
 pCell 1 false (cellsL x1) 3 fun v17 =>
 pCallF R 14 [v16, v17] H14 fun r18 H19 =>
 some (r18, H19))
 (some ((.bool false), H14)))
 (some ((.bool false), H9)))
 (some ((.bool false), H4))
theorem e8 (R : Handler) (x0 x1 : Value) (H0 : Hp) : execF Go.Proofs.Tryd.prog orc R 8 Go.Proofs.Tryd.f8 [x0, x1] H0 = m8 R x0 x1 H0 := by kernel_rfl
noncomputable def m9 (R : Handler) (x0 x1 : Value) (H0 : Hp) : Option (Value × Hp) :=
 bindO (
 pBin Go.Proofs.Tryd.prog .eql 9 x0 (.string ⟨#[]⟩) fun v1 =>
 pBool v1 fun b2 => br b2
 (some (.ret, [(.bool false)], H0))
 (pCallF R 15 [x0] H0 fun r3 H4 =>
 pUn .not r3 fun v5 =>
 pBool v5 fun b6 => br b6
 (some (.ret, [(.bool false)], H4))
 (some (.next, [], H4)))) fun q7 l8 H9 => onCtl q7
 (pCallF R 16 [x0, (.string ⟨#[48]⟩)] H9 fun r11 H12 =>
 pCallF R 17 [x1, (.int .i64 10)] H12 fun r13 H14 =>
 pLen .str r11 H14 fun v15 =>
 pLen .str r13 H14 fun v16 =>
 pBin Go.Proofs.Tryd.prog .lss 3 v15 v16 fun v17 =>
 pBool v17 fun b18 => br b18
 (some ((.bool true), H14))
 (pLen .str r11 H14 fun v19 =>
 pLen .str r13 H14 fun v20 =>
 pBin Go.Proofs.Tryd.prog .eql 3 v19 v20 fun v21 =>
 pBool v21 fun b22 => br b22
 (pCallF R 18 [r11, r13] H14 fun r23 H24 =>
 pBin Go.Proofs.Tryd.prog .leq 3 r23 (.int .i64 0) fun v25 =>
 some (v25, H24))
 (some ((.bool false), H14))))
 (fun i10 => none)
 (some ((l8.headD undef), H9))
theorem e9 (R : Handler) (x0 x1 : Value) (H0 : Hp) : execF Go.Proofs.Tryd.prog orc R 9 Go.Proofs.Tryd.f9 [x0, x1] H0 = m9 R x0 x1 H0 := by kernel_rfl
noncomputable def m10 (R : Handler) (x0 : Value) (H0 : Hp) : Option (Value × Hp) :=
 pBin Go.Proofs.Tryd.prog .eql 9 x0 (.string ⟨#[]⟩) fun v1 =>
 pBool v1 fun b2 => br b2
 (some ((.tuple #[(.slice none 0 0), (.bool false)]), H0))
 (bindO (loopD (fun l3 H4 =>
 pLen .str x0 H4 fun v5 =>
 pBin Go.Proofs.Tryd.prog .lss 3 (l3.getD 1 undef) v5 fun v6 =>
 pBool v6 fun b7 => br b7
 (pAtStr x0 (l3.getD 1 undef) fun v8 =>
 pBin Go.Proofs.Tryd.prog .lss 5 v8 (.int .u8 48) fun v9 =>
 pBool v9 fun b10 => br b10
 (some (.ret, [(.tuple #[(.slice none 0 0), (.bool false)])], H4))
 (pAtStr x0 (l3.getD 1 undef) fun v11 =>
 pBin Go.Proofs.Tryd.prog .gtr 5 v11 (.int .u8 57) fun v12 =>
 pBool v12 fun b13 => br b13
 (some (.ret, [(.tuple #[(.slice none 0 0), (.bool false)])], H4))
 (pCallF R 12 [(.int .u64 10)] H4 fun r14 H15 =>
 pCallF R 19 [(l3.getD 0 undef), r14] H15 fun r16 H17 =>
 pAtStr x0 (l3.getD 1 undef) fun v18 =>
 pBin Go.Proofs.Tryd.prog .sub 5 v18 (.int .u8 48) fun v19 =>
 pConvInt .u64 v19 fun v20 =>
 pCallF R 12 [v20] H17 fun r21 H22 =>
 pCallF R 13 [r16, r21] H22 fun r23 H24 =>
 pBin Go.Proofs.Tryd.prog .add 3 (l3.getD 1 undef) (.int .i64 1) fun v25 =>
 some (.next, [r23, v25], H24))))
 (some (.exit 0, [(l3.getD 0 undef), (l3.getD 1 undef)], H4))) [(.slice none 0 0), (.int .i64 0)] H0) fun q26 l27 H28 => onCtl q26 none
 (fun i29 => onExit i29 0 (
 some ((.tuple #[(l27.getD 0 undef), (.bool true)]), H28)) (
 none))
 (some ((l27.headD undef), H28)))
theorem e10 (R : Handler) (x0 : Value) (H0 : Hp) : execF Go.Proofs.Tryd.prog orc R 10 Go.Proofs.Tryd.f10 [x0] H0 = m10 R x0 H0 := by kernel_rfl
noncomputable def m11 (R : Handler) (x0 x1 : Value) (H0 : Hp) : Option (Value × Hp) :=
 pLen .sl x0 H0 fun v1 =>
 pLen .sl x1 H0 fun v2 =>
 pBin Go.Proofs.Tryd.prog .neq 3 v1 v2 fun v3 =>
 pBool v3 fun b4 => br b4
 (pLen .sl x0 H0 fun v5 =>
 pLen .sl x1 H0 fun v6 =>
 pBin Go.Proofs.Tryd.prog .lss 3 v5 v6 fun v7 =>
 some (v7, H0))
 (pLen .sl x0 H0 fun v8 =>
 pBin Go.Proofs.Tryd.prog .sub 3 v8 (.int .i64 1) fun v9 =>
 bindO (loopD (fun l10 H11 =>
 pBin Go.Proofs.Tryd.prog .geq 3 (l10.getD 0 undef) (.int .i64 0) fun v12 =>
 pBool v12 fun b13 => br b13
 (pIdx 1 x0 (l10.getD 0 undef) fun p14 =>
 pLoad 1 false H11 p14 fun v15 =>
 pIdx 1 x1 (l10.getD 0 undef) fun p16 =>
 pLoad 1 false H11 p16 fun v17 =>
 pBin Go.Proofs.Tryd.prog .neq 35 v15 v17 fun v18 =>
 pBool v18 fun b19 => br b19
 (pIdx 1 x0 (l10.getD 0 undef) fun p20 =>
 pLoad 1 false H11 p20 fun v21 =>
 pIdx 1 x1 (l10.getD 0 undef) fun p22 =>
 pLoad 1 false H11 p22 fun v23 =>
 pBin Go.Proofs.Tryd.prog .lss 35 v21 v23 fun v24 =>
 some (.ret, [v24], H11))
 (pBin Go.Proofs.Tryd.prog .sub 3 (l10.getD 0 undef) (.int .i64 1) fun v25 =>
 some (.next, [v25], H11)))
 (some (.exit 0, [(l10.getD 0 undef)], H11))) [v9] H0) fun q26 l27 H28 => onCtl q26 none
 (fun i29 => onExit i29 0 (
 some ((.bool false), H28)) (
 none))
 (some ((l27.headD undef), H28)))
theorem e11 (R : Handler) (x0 x1 : Value) (H0 : Hp) : execF Go.Proofs.Tryd.prog orc R 11 Go.Proofs.Tryd.f11 [x0, x1] H0 = m11 R x0 x1 H0 := by kernel_rfl
noncomputable def m12 (R : Handler) (x0 : Value) (H0 : Hp) : Option (Value × Hp) :=
 bindO (loopD (fun l1 H2 =>
 pBin Go.Proofs.Tryd.prog .gtr 35 (l1.getD 0 undef) (.int .u64 0) fun v3 =>
 pBool v3 fun b4 => br b4
 (pBin Go.Proofs.Tryd.prog .rem 35 (l1.getD 0 undef) (.int .u64 10000) fun v5 =>
 pBuildSlice 1 [.int .u64 0] 1 [(0, v5)] H2 fun v6 H7 =>
 pAppend 1 8 (l1.getD 1 undef) v6 H7 fun v8 H9 =>
 pBin Go.Proofs.Tryd.prog .quo 35 (l1.getD 0 undef) (.int .u64 10000) fun v10 =>
 some (.next, [v10, v8], H9))
 (some (.exit 0, [(l1.getD 0 undef), (l1.getD 1 undef)], H2))) [x0, (.slice none 0 0)] H0) fun q11 l12 H13 => onCtl q11 none
 (fun i14 => onExit i14 0 (
 some ((l12.getD 1 undef), H13)) (
 none))
 (some ((l12.headD undef), H13))
theorem e12 (R : Handler) (x0 : Value) (H0 : Hp) : execF Go.Proofs.Tryd.prog orc R 12 Go.Proofs.Tryd.f12 [x0] H0 = m12 R x0 H0 := by kernel_rfl
noncomputable def m13 (R : Handler) (x0 x1 : Value) (H0 : Hp) : Option (Value × Hp) :=
 bindO (loopD (fun l1 H2 =>
 bindO (
 pLen .sl x0 H2 fun v3 =>
 pBin Go.Proofs.Tryd.prog .lss 3 (l1.getD 2 undef) v3 fun v4 =>
 pBool v4 fun b5 => br b5
 (some (.next, [], H2))
 (pLen .sl x1 H2 fun v6 =>
 pBin Go.Proofs.Tryd.prog .lss 3 (l1.getD 2 undef) v6 fun v7 =>
 pBool v7 fun b8 => br b8
 (some (.next, [], H2))
 (pBin Go.Proofs.Tryd.prog .gtr 35 (l1.getD 1 undef) (.int .u64 0) fun v9 =>
 pBool v9 fun b10 => br b10
 (some (.next, [], H2))
 (some (.exit 0, [], H2))))) fun q11 l12 H13 => onCtl q11
 (pLen .sl x0 H13 fun v15 =>
 pBin Go.Proofs.Tryd.prog .lss 3 (l1.getD 2 undef) v15 fun v16 =>
 pBool v16 fun b17 => br b17
 (pIdx 1 x0 (l1.getD 2 undef) fun p18 =>
 pLoad 1 false H13 p18 fun v19 =>
 pBin Go.Proofs.Tryd.prog .add 35 (l1.getD 1 undef) v19 fun v20 =>
 pLen .sl x1 H13 fun v21 =>
 pBin Go.Proofs.Tryd.prog .lss 3 (l1.getD 2 undef) v21 fun v22 =>
 pBool v22 fun b23 => br b23
 (pIdx 1 x1 (l1.getD 2 undef) fun p24 =>
 pLoad 1 false H13 p24 fun v25 =>
 pBin Go.Proofs.Tryd.prog .add 35 v20 v25 fun v26 =>
 pBin Go.Proofs.Tryd.prog .rem 35 v26 (.int .u64 10000) fun v27 =>
 pBuildSlice 1 [.int .u64 0] 1 [(0, v27)] H13 fun v28 H29 =>
 pAppend 1 8 (l1.getD 0 undef) v28 H29 fun v30 H31 =>
 pBin Go.Proofs.Tryd.prog .quo 35 v26 (.int .u64 10000) fun v32 =>
 pBin Go.Proofs.Tryd.prog .add 3 (l1.getD 2 undef) (.int .i64 1) fun v33 =>
 some (.next, [v30, v32, v33], H31))
 (pBin Go.Proofs.Tryd.prog .rem 35 v20 (.int .u64 10000) fun v34 =>
 pBuildSlice 1 [.int .u64 0] 1 [(0, v34)] H13 fun v35 H36 =>
 pAppend 1 8 (l1.getD 0 undef) v35 H36 fun v37 H38 =>
 pBin Go.Proofs.Tryd.prog .quo 35 v20 (.int .u64 10000) fun v39 =>
 pBin Go.Proofs.Tryd.prog .add 3 (l1.getD 2 undef) (.int .i64 1) fun v40 =>
 some (.next, [v37, v39, v40], H38)))
 (pLen .sl x1 H13 fun v41 =>
 pBin Go.Proofs.Tryd.prog .lss 3 (l1.getD 2 undef) v41 fun v42 =>
 pBool v42 fun b43 => br b43
 (pIdx 1 x1 (l1.getD 2 undef) fun p44 =>
 pLoad 1 false H13 p44 fun v45 =>
 pBin Go.Proofs.Tryd.prog .add 35 (l1.getD 1 undef) v45 fun v46 =>
 pBin Go.Proofs.Tryd.prog .rem 35 v46 (.int .u64 10000) fun v47 =>
 pBuildSlice 1 [.int .u64 0] 1 [(0, v47)] H13 fun v48 H49 =>
 pAppend 1 8 (l1.getD 0 undef) v48 H49 fun v50 H51 =>
 pBin Go.Proofs.Tryd.prog .quo 35 v46 (.int .u64 10000) fun v52 =>
 pBin Go.Proofs.Tryd.prog .add 3 (l1.getD 2 undef) (.int .i64 1) fun v53 =>
 some (.next, [v50, v52, v53], H51))
 (pBin Go.Proofs.Tryd.prog .rem 35 (l1.getD 1 undef) (.int .u64 10000) fun v54 =>
 pBuildSlice 1 [.int .u64 0] 1 [(0, v54)] H13 fun v55 H56 =>
 pAppend 1 8 (l1.getD 0 undef) v55 H56 fun v57 H58 =>
 pBin Go.Proofs.Tryd.prog .quo 35 (l1.getD 1 undef) (.int .u64 10000) fun v59 =>
 pBin Go.Proofs.Tryd.prog .add 3 (l1.getD 2 undef) (.int .i64 1) fun v60 =>
 some (.next, [v57, v59, v60], H58))))
 (fun i14 => some (.exit i14, [(l1.getD 0 undef), (l1.getD 1 undef), (l1.getD 2 undef)], H13))
 (some (.ret, [(l12.headD undef)], H13))) [(.slice none 0 0), (.int .u64 0), (.int .i64 0)] H0) fun q61 l62 H63 => onCtl q61 none
 (fun i64 => onExit i64 0 (
 some ((l62.getD 0 undef), H63)) (
 none))
 (some ((l62.headD undef), H63))
theorem e13 (R : Handler) (x0 x1 : Value) (H0 : Hp) : execF Go.Proofs.Tryd.prog orc R 13 Go.Proofs.Tryd.f13 [x0, x1] H0 = m13 R x0 x1 H0 := by kernel_rfl
noncomputable def m14 (R : Handler) (x0 x1 : Value) (H0 : Hp) : Option (Value × Hp) :=
 pBin Go.Proofs.Tryd.prog .lss 2 x1 (.int .i64 0) fun v1 =>
 pBool v1 fun b2 => br b2
 (some ((.bool true), H0))
 (pCallF R 10 [x0] H0 fun r3 H4 =>
 pExtract r3 0 fun v5 =>
 pExtract r3 1 fun v6 =>
 pBool v6 fun b7 => br b7
 (pConvInt .u64 x1 fun v8 =>
 pCallF R 12 [v8] H4 fun r9 H10 =>
 pCallF R 11 [r9, v5] H10 fun r11 H12 =>
 pUn .not r11 fun v13 =>
 some (v13, H12))
 (some ((.bool false), H4)))
theorem e14 (R : Handler) (x0 x1 : Value) (H0 : Hp) : execF Go.Proofs.Tryd.prog orc R 14 Go.Proofs.Tryd.f14 [x0, x1] H0 = m14 R x0 x1 H0 := by kernel_rfl
noncomputable def m15 (R : Handler) (x0 : Value) (H0 : Hp) : Option (Value × Hp) :=
 pLen .str x0 H0 fun v1 =>
 bindO (loopD (fun l2 H3 =>
 pBin Go.Proofs.Tryd.prog .lss 3 (l2.getD 0 undef) v1 fun v4 =>
 pBool v4 fun b5 => br b5
 (pAtStr x0 (l2.getD 0 undef) fun v6 =>
 pBin Go.Proofs.Tryd.prog .lss 5 v6 (.int .u8 48) fun v7 =>
 pBool v7 fun b8 => br b8
 (some (.ret, [(.bool false)], H3))
 (pAtStr x0 (l2.getD 0 undef) fun v9 =>
 pBin Go.Proofs.Tryd.prog .gtr 5 v9 (.int .u8 57) fun v10 =>
 pBool v10 fun b11 => br b11
 (some (.ret, [(.bool false)], H3))
 (pBin Go.Proofs.Tryd.prog .add 3 (l2.getD 0 undef) (.int .i64 1) fun v12 =>
 some (.next, [v12], H3))))
 (some (.exit 0, [(l2.getD 0 undef)], H3))) [(.int .i64 0)] H0) fun q13 l14 H15 => onCtl q13 none
 (fun i16 => onExit i16 0 (
 some ((.bool true), H15)) (
 none))
 (some ((l14.headD undef), H15))
theorem e15 (R : Handler) (x0 : Value) (H0 : Hp) : execF Go.Proofs.Tryd.prog orc R 15 Go.Proofs.Tryd.f15 [x0] H0 = m15 R x0 H0 := by kernel_rfl
noncomputable def m16 (R : Handler) (x0 x1 : Value) (H0 : Hp) : Option (Value × Hp) :=
 bindO (
 pBin Go.Proofs.Tryd.prog .eql 9 x0 (.string ⟨#[]⟩) fun v1 =>
 pBool v1 fun b2 => br b2
 (some (.ret, [x0], H0))
 (pBin Go.Proofs.Tryd.prog .eql 9 x1 (.string ⟨#[]⟩) fun v3 =>
 pBool v3 fun b4 => br b4
 (some (.ret, [x0], H0))
 (some (.next, [], H0)))) fun q5 l6 H7 => onCtl q5
 (pLen .str x1 H7 fun v9 =>
 pBin Go.Proofs.Tryd.prog .eql 3 v9 (.int .i64 1) fun v10 =>
 pBool v10 fun b11 => br b11
 (pAtStr x1 (.int .i64 0) fun v12 =>
 pBin Go.Proofs.Tryd.prog .lss 5 v12 (.int .u8 128) fun v13 =>
 pBool v13 fun b14 => br b14
 (pAtStr x1 (.int .i64 0) fun v15 =>
 pCallF R 20 [x0, v15] H7 fun r16 H17 =>
 some (r16, H17))
 (pCallF R 21 [x1] H7 fun r18 H19 =>
 pExtract r18 0 fun v20 =>
 pExtract r18 1 fun v21 =>
 pAlloc [.bool false, .bool false, .bool false, .bool false, .bool false, .bool false, .bool false, .bool false, .bool false, .bool false, .bool false, .bool false, .bool false, .bool false, .bool false, .bool false, .bool false, .bool false, .bool false, .bool false, .bool false, .bool false, .bool false, .bool false, .bool false, .bool false, .bool false, .bool false, .bool false, .bool false, .bool false, .bool false, .bool false, .bool false, .bool false, .bool false, .bool false, .bool false, .bool false, .bool false, .bool false, .bool false, .bool false, .bool false, .bool false, .bool false, .bool false, .bool false, .bool false, .bool false, .bool false, .bool false, .bool false, .bool false, .bool false, .bool false, .bool false, .bool false, .bool false, .bool false, .bool false, .bool false, .bool false, .bool false, .bool false, .bool false, .bool false, .bool false, .bool false, .bool false, .bool false, .bool false, .bool false, .bool false, .bool false, .bool false, .bool false, .bool false, .bool false, .bool false, .bool false, .bool false, .bool false, .bool false, .bool false, .bool false, .bool false, .bool false, .bool false, .bool false, .bool false, .bool false, .bool false, .bool false, .bool false, .bool false, .bool false, .bool false, .bool false, .bool false, .bool false, .bool false, .bool false, .bool false, .bool false, .bool false, .bool false, .bool false, .bool false, .bool false, .bool false, .bool false, .bool false, .bool false, .bool false, .bool false, .bool false, .bool false, .bool false, .bool false, .bool false, .bool false, .bool false, .bool false, .bool false, .bool false, .bool false, .bool false, .bool false, .bool false, .bool false, .bool false, .bool false, .bool false, .bool false, .bool false, .bool false, .bool false, .bool false, .bool false, .bool false, .bool false, .bool false, .bool false, .bool false, .bool false, .bool false, .bool false, .bool false, .bool false, .bool false, .bool false, .bool false, .bool false, .bool false, .bool false, .bool false, .bool false, .bool false, .bool false, .bool false, .bool false, .bool false, .bool false, .bool false, .bool false, .bool false, .bool false, .bool false, .bool false, .bool false, .bool false, .bool false, .bool false, .bool false, .bool false, .bool false, .bool false, .bool false, .bool false, .bool false, .bool false, .bool false, .bool false, .bool false, .bool false, .bool false, .bool false, .bool false, .bool false, .bool false, .bool false, .bool false, .bool false, .bool false, .bool false, .bool false, .bool false, .bool false, .bool false, .bool false, .bool false, .bool false, .bool false, .bool false, .bool false, .bool false, .bool false, .bool false, .bool false, .bool false, .bool false, .bool false, .bool false, .bool false, .bool false, .bool false, .bool false, .bool false, .bool false, .bool false, .bool false, .bool false, .bool false, .bool false, .bool false, .bool false, .bool false, .bool false, .bool false, .bool false, .bool false, .bool false, .bool false, .bool false, .bool false, .bool false, .bool false, .bool false, .bool false, .bool false, .bool false, .bool false, .bool false, .bool false, .bool false, .bool false, .bool false, .bool false, .bool false, .bool false, .bool false, .bool false, .bool false, .bool false, .bool false] H19 fun p22 H23 =>
 pStore 256 H23 p22 v20 fun H24 =>
 pBool v21 fun b25 => br b25
 (pCallF R 22 [x0, p22] H24 fun r26 H27 =>
 some (r26, H27))
 (pCallF R 23 [x0, x1] H24 fun r28 H29 =>
 some (r28, H29))))
 (pCallF R 21 [x1] H7 fun r30 H31 =>
 pExtract r30 0 fun v32 =>
 pExtract r30 1 fun v33 =>
 pAlloc [.bool false, .bool false, .bool false, .bool false, .bool false, .bool false, .bool false, .bool false, .bool false, .bool false, .bool false, .bool false, .bool false, .bool false, .bool false, .bool false, .bool false, .bool false, .bool false, .bool false, .bool false, .bool false, .bool false, .bool false, .bool false, .bool false, .bool false, .bool false, .bool false, .bool false, .bool false, .bool false, .bool false, .bool false, .bool false, .bool false, .bool false, .bool false, .bool false, .bool false, .bool false, .bool false, .bool false, .bool false, .bool false, .bool false, .bool false, .bool false, .bool false, .bool false, .bool false, .bool false, .bool false, .bool false, .bool false, .bool false, .bool false, .bool false, .bool false, .bool false, .bool false, .bool false, .bool false, .bool false, .bool false, .bool false, .bool false, .bool false, .bool false, .bool false, .bool false, .bool false, .bool false, .bool false, .bool false, .bool false, .bool false, .bool false, .bool false, .bool false, .bool false, .bool false, .bool false, .bool false, .bool false, .bool false, .bool false, .bool false, .bool false, .bool false, .bool false, .bool false, .bool false, .bool false, .bool false, .bool false, .bool false, .bool false, .bool false, .bool false, .bool false, .bool false, .bool false, .bool false, .bool false, .bool false, .bool false, .bool false, .bool false, .bool false, .bool false, .bool false, .bool false, .bool false, .bool false, .bool false, .bool false, .bool false, .bool false, .bool false, .bool false, .bool false, .bool false, .bool false, .bool false, .bool false, .bool false, .bool false, .bool false, .bool false, .bool false, .bool false, .bool false, .bool false, .bool false, .bool false, .bool false, .bool false, .bool false, .bool false, .bool false, .bool false, .bool false, .bool false, .bool false, .bool false, .bool false, .bool false, .bool false, .bool false, .bool false, .bool false, .bool false, .bool false, .bool false, .bool false, .bool false, .bool false, .bool false, .bool false, .bool false, .bool false, .bool false, .bool false, .bool false, .bool false, .bool false, .bool false, .bool false, .bool false, .bool false, .bool false, .bool false, .bool false, .bool false, .bool false, .bool false, .bool false, .bool false, .bool false, .bool false, .bool false, .bool false, .bool false, .bool false, .bool false, .bool false, .bool false, .bool false, .bool false, .bool false, .bool false, .bool false, .bool false, .bool false, .bool false, .bool false, .bool false, .bool false, .bool false, .bool false, .bool false, .bool false, .bool false, .bool false, .bool false, .bool false, .bool false, .bool false, .bool false, .bool false, .bool false, .bool false, .bool false, .bool false, .bool false, .bool false, .bool false, .bool false, .bool false, .bool false, .bool false, .bool false, .bool false, .bool false, .bool false, .bool false, .bool false, .bool false, .bool false, .bool false, .bool false, .bool false, .bool false, .bool false, .bool false, .bool false, .bool false, .bool false, .bool false, .bool false, .bool false, .bool false, .bool false, .bool false, .bool false, .bool false, .bool false, .bool false, .bool false, .bool false, .bool false, .bool false, .bool false, .bool false, .bool false] H31 fun p34 H35 =>
 pStore 256 H35 p34 v32 fun H36 =>
 pBool v33 fun b37 => br b37
 (pCallF R 22 [x0, p34] H36 fun r38 H39 =>
 some (r38, H39))
 (pCallF R 23 [x0, x1] H36 fun r40 H41 =>
 some (r40, H41))))
 (fun i8 => none)
 (some ((l6.headD undef), H7))
theorem e16 (R : Handler) (x0 x1 : Value) (H0 : Hp) : execF Go.Proofs.Tryd.prog orc R 16 Go.Proofs.Tryd.f16 [x0, x1] H0 = m16 R x0 x1 H0 := by kernel_rfl
noncomputable def m18 (R : Handler) (x0 x1 : Value) (H0 : Hp) : Option (Value × Hp) :=
 pCallF R 25 [x0, x1] H0 fun r1 H2 =>
 some (r1, H2)
theorem e18 (R : Handler) (x0 x1 : Value) (H0 : Hp) : execF Go.Proofs.Tryd.prog orc R 18 Go.Proofs.Tryd.f18 [x0, x1] H0 = m18 R x0 x1 H0 := by kernel_rfl
noncomputable def m19 (R : Handler) (x0 x1 : Value) (H0 : Hp) : Option (Value × Hp) :=
 bindO (
 pLen .sl x0 H0 fun v1 =>
 pBin Go.Proofs.Tryd.prog .eql 3 v1 (.int .i64 0) fun v2 =>
 pBool v2 fun b3 => br b3
 (some (.ret, [(.slice none 0 0)], H0))
 (pLen .sl x1 H0 fun v4 =>
 pBin Go.Proofs.Tryd.prog .eql 3 v4 (.int .i64 0) fun v5 =>
 pBool v5 fun b6 => br b6
 (some (.ret, [(.slice none 0 0)], H0))
 (some (.next, [], H0)))) fun q7 l8 H9 => onCtl q7
 (pLen .sl x0 H9 fun v11 =>
 pLen .sl x1 H9 fun v12 =>
 pBin Go.Proofs.Tryd.prog .add 3 v11 v12 fun v13 =>
 pBin Go.Proofs.Tryd.prog .add 3 v13 (.int .i64 1) fun v14 =>
 pMakeSlice 1 8 [.int .u64 0] v14 v14 H9 fun v15 H16 =>
 bindO (loopD (fun l17 H18 =>
 pLen .sl x0 H18 fun v19 =>
 pBin Go.Proofs.Tryd.prog .lss 3 (l17.getD 0 undef) v19 fun v20 =>
 pBool v20 fun b21 => br b21
 (bindO (loopD (fun l22 H23 =>
 bindO (
 pLen .sl x1 H23 fun v24 =>
 pBin Go.Proofs.Tryd.prog .lss 3 (l22.getD 1 undef) v24 fun v25 =>
 pBool v25 fun b26 => br b26
 (some (.next, [], H23))
 (pBin Go.Proofs.Tryd.prog .gtr 35 (l22.getD 0 undef) (.int .u64 0) fun v27 =>
 pBool v27 fun b28 => br b28
 (some (.next, [], H23))
 (some (.exit 2, [], H23)))) fun q29 l30 H31 => onCtl q29
 (pBin Go.Proofs.Tryd.prog .add 3 (l17.getD 0 undef) (l22.getD 1 undef) fun v33 =>
 pIdx 1 v15 v33 fun p34 =>
 pLoad 1 false H31 p34 fun v35 =>
 pBin Go.Proofs.Tryd.prog .add 35 v35 (l22.getD 0 undef) fun v36 =>
 pLen .sl x1 H31 fun v37 =>
 pBin Go.Proofs.Tryd.prog .lss 3 (l22.getD 1 undef) v37 fun v38 =>
 pBool v38 fun b39 => br b39
 (pIdx 1 x0 (l17.getD 0 undef) fun p40 =>
 pLoad 1 false H31 p40 fun v41 =>
 pIdx 1 x1 (l22.getD 1 undef) fun p42 =>
 pLoad 1 false H31 p42 fun v43 =>
 pBin Go.Proofs.Tryd.prog .mul 35 v41 v43 fun v44 =>
 pBin Go.Proofs.Tryd.prog .add 35 v36 v44 fun v45 =>
 pBin Go.Proofs.Tryd.prog .add 3 (l17.getD 0 undef) (l22.getD 1 undef) fun v46 =>
 pBin Go.Proofs.Tryd.prog .rem 35 v45 (.int .u64 10000) fun v47 =>
 pIdx 1 v15 v46 fun p48 =>
 pStore 1 H31 p48 v47 fun H49 =>
 pBin Go.Proofs.Tryd.prog .quo 35 v45 (.int .u64 10000) fun v50 =>
 pBin Go.Proofs.Tryd.prog .add 3 (l22.getD 1 undef) (.int .i64 1) fun v51 =>
 some (.next, [v50, v51], H49))
 (pBin Go.Proofs.Tryd.prog .add 3 (l17.getD 0 undef) (l22.getD 1 undef) fun v52 =>
 pBin Go.Proofs.Tryd.prog .rem 35 v36 (.int .u64 10000) fun v53 =>
 pIdx 1 v15 v52 fun p54 =>
 pStore 1 H31 p54 v53 fun H55 =>
 pBin Go.Proofs.Tryd.prog .quo 35 v36 (.int .u64 10000) fun v56 =>
 pBin Go.Proofs.Tryd.prog .add 3 (l22.getD 1 undef) (.int .i64 1) fun v57 =>
 some (.next, [v56, v57], H55)))
 (fun i32 => some (.exit i32, [(l22.getD 0 undef), (l22.getD 1 undef)], H31))
 (some (.ret, [(l30.headD undef)], H31))) [(.int .u64 0), (.int .i64 0)] H18) fun q58 l59 H60 => onCtl q58 none
 (fun i61 => onExit i61 2 (
 pBin Go.Proofs.Tryd.prog .add 3 (l17.getD 0 undef) (.int .i64 1) fun v62 =>
 some (.next, [v62], H60)) (
 onExit i61 1 (
 pBin Go.Proofs.Tryd.prog .add 3 (l17.getD 0 undef) (.int .i64 1) fun v63 =>
 some (.next, [v63], H60)) (
 some (.exit i61, [(l17.getD 0 undef)], H60))))
 (some (.ret, [(l59.headD undef)], H60)))
 (some (.exit 0, [(l17.getD 0 undef)], H18))) [(.int .i64 0)] H16) fun q64 l65 H66 => onCtl q64 none
 (fun i67 => onExit i67 0 (
 pLen .sl v15 H66 fun v68 =>
 bindO (loopD (fun l69 H70 =>
 pBin Go.Proofs.Tryd.prog .gtr 3 (l69.getD 0 undef) (.int .i64 0) fun v71 =>
 pBool v71 fun b72 => br b72
 (pBin Go.Proofs.Tryd.prog .sub 3 (l69.getD 0 undef) (.int .i64 1) fun v73 =>
 pIdx 1 v15 v73 fun p74 =>
 pLoad 1 false H70 p74 fun v75 =>
 pBin Go.Proofs.Tryd.prog .eql 35 v75 (.int .u64 0) fun v76 =>
 pBool v76 fun b77 => br b77
 (pBin Go.Proofs.Tryd.prog .sub 3 (l69.getD 0 undef) (.int .i64 1) fun v78 =>
 some (.next, [v78], H70))
 (some (.exit 4, [(l69.getD 0 undef)], H70)))
 (some (.exit 4, [(l69.getD 0 undef)], H70))) [v68] H66) fun q79 l80 H81 => onCtl q79 none
 (fun i82 => onExit i82 4 (
 pSlice 1 v15 none (some (l80.getD 0 undef)) fun v83 =>
 some (v83, H81)) (
 none))
 (some ((l80.headD undef), H81))) (
 none))
 (some ((l65.headD undef), H66)))
 (fun i10 => none)
 (some ((l8.headD undef), H9))
theorem e19 (R : Handler) (x0 x1 : Value) (H0 : Hp) : execF Go.Proofs.Tryd.prog orc R 19 Go.Proofs.Tryd.f19 [x0, x1] H0 = m19 R x0 x1 H0 := by kernel_rfl
noncomputable def m20 (R : Handler) (x0 x1 : Value) (H0 : Hp) : Option (Value × Hp) :=
 bindO (loopD (fun l1 H2 =>
 pLen .str (l1.getD 0 undef) H2 fun v3 =>
 pBin Go.Proofs.Tryd.prog .gtr 3 v3 (.int .i64 0) fun v4 =>
 pBool v4 fun b5 => br b5
 (pAtStr (l1.getD 0 undef) (.int .i64 0) fun v6 =>
 pBin Go.Proofs.Tryd.prog .eql 5 v6 x1 fun v7 =>
 pBool v7 fun b8 => br b8
 (pSliceS (l1.getD 0 undef) (some (.int .i64 1)) none fun v9 =>
 some (.next, [v9], H2))
 (some (.exit 0, [(l1.getD 0 undef)], H2)))
 (some (.exit 0, [(l1.getD 0 undef)], H2))) [x0] H0) fun q10 l11 H12 => onCtl q10 none
 (fun i13 => onExit i13 0 (
 some ((l11.getD 0 undef), H12)) (
 none))
 (some ((l11.headD undef), H12))
theorem e20 (R : Handler) (x0 x1 : Value) (H0 : Hp) : execF Go.Proofs.Tryd.prog orc R 20 Go.Proofs.Tryd.f20 [x0, x1] H0 = m20 R x0 x1 H0 := by kernel_rfl
noncomputable def m25 (R : Handler) (x0 x1 : Value) (H0 : Hp) : Option (Value × Hp) :=
 pCallF R 33 [x0, x1] H0 fun r1 H2 =>
 some (r1, H2)
theorem e25 (R : Handler) (x0 x1 : Value) (H0 : Hp) : execF Go.Proofs.Tryd.prog orc R 25 Go.Proofs.Tryd.f25 [x0, x1] H0 = m25 R x0 x1 H0 := by kernel_rfl
theorem r3 (E : FuncId → Option (List Value → Hp → Option (Value × Hp))) (h : E 3 = none) (x0 : Value) (H0 : Hp) : run Go.Proofs.Tryd.prog orc E 3 [x0] H0 = m3 (run Go.Proofs.Tryd.prog orc E) x0 H0 := (run_fn Go.Proofs.Tryd.func3 (by kernel_rfl) (by kernel_rfl) h _ _).trans (e3 _ x0 H0)
theorem r4 (E : FuncId → Option (List Value → Hp → Option (Value × Hp))) (h : E 4 = none) (x0 x1 : Value) (H0 : Hp) : run Go.Proofs.Tryd.prog orc E 4 [x0, x1] H0 = m4 (run Go.Proofs.Tryd.prog orc E) x0 x1 H0 := (run_fn Go.Proofs.Tryd.func4 (by kernel_rfl) (by kernel_rfl) h _ _).trans (e4 _ x0 x1 H0)
theorem r5 (E : FuncId → Option (List Value → Hp → Option (Value × Hp))) (h : E 5 = none) (x0 : Value) (H0 : Hp) : run Go.Proofs.Tryd.prog orc E 5 [x0] H0 = m5 (run Go.Proofs.Tryd.prog orc E) x0 H0 := (run_fn Go.Proofs.Tryd.func5 (by kernel_rfl) (by kernel_rfl) h _ _).trans (e5 _ x0 H0)
theorem r6 (E : FuncId → Option (List Value → Hp → Option (Value × Hp))) (h : E 6 = none) (x0 : Value) (H0 : Hp) : run Go.Proofs.Tryd.prog orc E 6 [x0] H0 = m6 (run Go.Proofs.Tryd.prog orc E) x0 H0 := (run_fn Go.Proofs.Tryd.func6 (by kernel_rfl) (by kernel_rfl) h _ _).trans (e6 _ x0 H0)
theorem r7 (E : FuncId → Option (List Value → Hp → Option (Value × Hp))) (h : E 7 = none) (x0 x1 : Value) (H0 : Hp) : run Go.Proofs.Tryd.prog orc E 7 [x0, x1] H0 = m7 (run Go.Proofs.Tryd.prog orc E) x0 x1 H0 := (run_fn Go.Proofs.Tryd.func7 (by kernel_rfl) (by kernel_rfl) h _ _).trans (e7 _ x0 x1 H0)
theorem r8 (E : FuncId → Option (List Value → Hp → Option (Value × Hp))) (h : E 8 = none) (x0 x1 : Value) (H0 : Hp) : run Go.Proofs.Tryd.prog orc E 8 [x0, x1] H0 = m8 (run Go.Proofs.Tryd.prog orc E) x0 x1 H0 := (run_fn Go.Proofs.Tryd.func8 (by kernel_rfl) (by kernel_rfl) h _ _).trans (e8 _ x0 x1 H0)
theorem r9 (E : FuncId → Option (List Value → Hp → Option (Value × Hp))) (h : E 9 = none) (x0 x1 : Value) (H0 : Hp) : run Go.Proofs.Tryd.prog orc E 9 [x0, x1] H0 = m9 (run Go.Proofs.Tryd.prog orc E) x0 x1 H0 := (run_fn Go.Proofs.Tryd.func9 (by kernel_rfl) (by kernel_rfl) h _ _).trans (e9 _ x0 x1 H0)
theorem r10 (E : FuncId → Option (List Value → Hp → Option (Value × Hp))) (h : E 10 = none) (x0 : Value) (H0 : Hp) : run Go.Proofs.Tryd.prog orc E 10 [x0] H0 = m10 (run Go.Proofs.Tryd.prog orc E) x0 H0 := (run_fn Go.Proofs.Tryd.func10 (by kernel_rfl) (by kernel_rfl) h _ _).trans (e10 _ x0 H0)
theorem r11 (E : FuncId → Option (List Value → Hp → Option (Value × Hp))) (h : E 11 = none) (x0 x1 : Value) (H0 : Hp) : run Go.Proofs.Tryd.prog orc E 11 [x0, x1] H0 = m11 (run Go.Proofs.Tryd.prog orc E) x0 x1 H0 := (run_fn Go.Proofs.Tryd.func11 (by kernel_rfl) (by kernel_rfl) h _ _).trans (e11 _ x0 x1 H0)
theorem r12 (E : FuncId → Option (List Value → Hp → Option (Value × Hp))) (h : E 12 = none) (x0 : Value) (H0 : Hp) : run Go.Proofs.Tryd.prog orc E 12 [x0] H0 = m12 (run Go.Proofs.Tryd.prog orc E) x0 H0 := (run_fn Go.Proofs.Tryd.func12 (by kernel_rfl) (by kernel_rfl) h _ _).trans (e12 _ x0 H0)
theorem r13 (E : FuncId → Option (List Value → Hp → Option (Value × Hp))) (h : E 13 = none) (x0 x1 : Value) (H0 : Hp) : run Go.Proofs.Tryd.prog orc E 13 [x0, x1] H0 = m13 (run Go.Proofs.Tryd.prog orc E) x0 x1 H0 := (run_fn Go.Proofs.Tryd.func13 (by kernel_rfl) (by kernel_rfl) h _ _).trans (e13 _ x0 x1 H0)
theorem r14 (E : FuncId → Option (List Value → Hp → Option (Value × Hp))) (h : E 14 = none) (x0 x1 : Value) (H0 : Hp) : run Go.Proofs.Tryd.prog orc E 14 [x0, x1] H0 = m14 (run Go.Proofs.Tryd.prog orc E) x0 x1 H0 := (run_fn Go.Proofs.Tryd.func14 (by kernel_rfl) (by kernel_rfl) h _ _).trans (e14 _ x0 x1 H0)
theorem r15 (E : FuncId → Option (List Value → Hp → Option (Value × Hp))) (h : E 15 = none) (x0 : Value) (H0 : Hp) : run Go.Proofs.Tryd.prog orc E 15 [x0] H0 = m15 (run Go.Proofs.Tryd.prog orc E) x0 H0 := (run_fn Go.Proofs.Tryd.func15 (by kernel_rfl) (by kernel_rfl) h _ _).trans (e15 _ x0 H0)
theorem r16 (E : FuncId → Option (List Value → Hp → Option (Value × Hp))) (h : E 16 = none) (x0 x1 : Value) (H0 : Hp) : run Go.Proofs.Tryd.prog orc E 16 [x0, x1] H0 = m16 (run Go.Proofs.Tryd.prog orc E) x0 x1 H0 := (run_fn Go.Proofs.Tryd.func16 (by kernel_rfl) (by kernel_rfl) h _ _).trans (e16 _ x0 x1 H0)
theorem r18 (E : FuncId → Option (List Value → Hp → Option (Value × Hp))) (h : E 18 = none) (x0 x1 : Value) (H0 : Hp) : run Go.Proofs.Tryd.prog orc E 18 [x0, x1] H0 = m18 (run Go.Proofs.Tryd.prog orc E) x0 x1 H0 := (run_fn Go.Proofs.Tryd.func18 (by kernel_rfl) (by kernel_rfl) h _ _).trans (e18 _ x0 x1 H0)
theorem r19 (E : FuncId → Option (List Value → Hp → Option (Value × Hp))) (h : E 19 = none) (x0 x1 : Value) (H0 : Hp) : run Go.Proofs.Tryd.prog orc E 19 [x0, x1] H0 = m19 (run Go.Proofs.Tryd.prog orc E) x0 x1 H0 := (run_fn Go.Proofs.Tryd.func19 (by kernel_rfl) (by kernel_rfl) h _ _).trans (e19 _ x0 x1 H0)
theorem r20 (E : FuncId → Option (List Value → Hp → Option (Value × Hp))) (h : E 20 = none) (x0 x1 : Value) (H0 : Hp) : run Go.Proofs.Tryd.prog orc E 20 [x0, x1] H0 = m20 (run Go.Proofs.Tryd.prog orc E) x0 x1 H0 := (run_fn Go.Proofs.Tryd.func20 (by kernel_rfl) (by kernel_rfl) h _ _).trans (e20 _ x0 x1 H0)
theorem r25 (E : FuncId → Option (List Value → Hp → Option (Value × Hp))) (h : E 25 = none) (x0 x1 : Value) (H0 : Hp) : run Go.Proofs.Tryd.prog orc E 25 [x0, x1] H0 = m25 (run Go.Proofs.Tryd.prog orc E) x0 x1 H0 := (run_fn Go.Proofs.Tryd.func25 (by kernel_rfl) (by kernel_rfl) h _ _).trans (e25 _ x0 x1 H0)
end Go.AM.N20
set_option linter.unusedVariables false
namespace Go.AM.N20
open Go Go.AM
set_option maxRecDepth 100000
noncomputable def s7_1 (R : Handler) (v13 : Value) (l14 : List Value) (H15 : Hp) : Option Outc :=
 pBin Go.Proofs.Tryd.prog .lss 3 (l14.getD 0 undef) (.int .i64 4) fun v16 =>
 pBool v16 fun b17 => br b17
 (pAtArr 4 true 2 v13 (l14.getD 0 undef) fun v18 =>
 pSplice 2 [.string ⟨#[]⟩, .int .i64 0] 0 v18 fun c19 =>
 pCell 1 false c19 1 fun v20 =>
 pBin Go.Proofs.Tryd.prog .geq 2 v20 (.int .i64 0) fun v21 =>
 pBool v21 fun b22 => br b22
 (pCell 1 false c19 0 fun v23 =>
 pCell 1 false c19 1 fun v24 =>
 pCallF R 9 [v23, v24] H15 fun r25 H26 =>
 pUn .not r25 fun v27 =>
 pBool v27 fun b28 => br b28
 (some (.ret, [(.bool false)], H26))
 (pBin Go.Proofs.Tryd.prog .add 3 (l14.getD 0 undef) (.int .i64 1) fun v29 =>
 some (.next, [v29], H26)))
 (pBin Go.Proofs.Tryd.prog .add 3 (l14.getD 0 undef) (.int .i64 1) fun v30 =>
 some (.next, [v30], H15)))
 (some (.exit 0, [(l14.getD 0 undef)], H15))
theorem k7 (R : Handler) (x0 x1 : Value) (H0 : Hp) : m7 R x0 x1 H0 =
 pCell 1 false (cellsL x0) 0 fun v1 =>
 pCell 1 false (cellsL x1) 0 fun v2 =>
 pBuild Go.Proofs.Tryd.prog 37 [(0, v1), (1, v2)] fun v3 =>
 pCell 1 false (cellsL x0) 1 fun v4 =>
 pCell 1 false (cellsL x1) 1 fun v5 =>
 pBuild Go.Proofs.Tryd.prog 37 [(0, v4), (1, v5)] fun v6 =>
 pCell 1 false (cellsL x0) 3 fun v7 =>
 pCell 1 false (cellsL x1) 2 fun v8 =>
 pBuild Go.Proofs.Tryd.prog 37 [(0, v7), (1, v8)] fun v9 =>
 pCell 1 false (cellsL x0) 4 fun v10 =>
 pCell 1 false (cellsL x1) 3 fun v11 =>
 pBuild Go.Proofs.Tryd.prog 37 [(0, v10), (1, v11)] fun v12 =>
 pBuild Go.Proofs.Tryd.prog 38 [(0, v3), (1, v6), (2, v9), (3, v12)] fun v13 =>
 bindO (loopD (s7_1 R v13) [(.int .i64 0)] H0) fun q31 l32 H33 => onCtl q31 none
 (fun i34 => onExit i34 0 (
 some ((.bool true), H33)) (
 none))
 (some ((l32.headD undef), H33)) := rfl
noncomputable def s10_1 (R : Handler) (x0 : Value) (l3 : List Value) (H4 : Hp) : Option Outc :=
 pLen .str x0 H4 fun v5 =>
 pBin Go.Proofs.Tryd.prog .lss 3 (l3.getD 1 undef) v5 fun v6 =>
 pBool v6 fun b7 => br b7
 (pAtStr x0 (l3.getD 1 undef) fun v8 =>
 pBin Go.Proofs.Tryd.prog .lss 5 v8 (.int .u8 48) fun v9 =>
 pBool v9 fun b10 => br b10
 (some (.ret, [(.tuple #[(.slice none 0 0), (.bool false)])], H4))
 (pAtStr x0 (l3.getD 1 undef) fun v11 =>
 pBin Go.Proofs.Tryd.prog .gtr 5 v11 (.int .u8 57) fun v12 =>
 pBool v12 fun b13 => br b13
 (some (.ret, [(.tuple #[(.slice none 0 0), (.bool false)])], H4))
 (pCallF R 12 [(.int .u64 10)] H4 fun r14 H15 =>
 pCallF R 19 [(l3.getD 0 undef), r14] H15 fun r16 H17 =>
 pAtStr x0 (l3.getD 1 undef) fun v18 =>
 pBin Go.Proofs.Tryd.prog .sub 5 v18 (.int .u8 48) fun v19 =>
 pConvInt .u64 v19 fun v20 =>
 pCallF R 12 [v20] H17 fun r21 H22 =>
 pCallF R 13 [r16, r21] H22 fun r23 H24 =>
 pBin Go.Proofs.Tryd.prog .add 3 (l3.getD 1 undef) (.int .i64 1) fun v25 =>
 some (.next, [r23, v25], H24))))
 (some (.exit 0, [(l3.getD 0 undef), (l3.getD 1 undef)], H4))
theorem k10 (R : Handler) (x0 : Value) (H0 : Hp) : m10 R x0 H0 =
 pBin Go.Proofs.Tryd.prog .eql 9 x0 (.string ⟨#[]⟩) fun v1 =>
 pBool v1 fun b2 => br b2
 (some ((.tuple #[(.slice none 0 0), (.bool false)]), H0))
 (bindO (loopD (s10_1 R x0) [(.slice none 0 0), (.int .i64 0)] H0) fun q26 l27 H28 => onCtl q26 none
 (fun i29 => onExit i29 0 (
 some ((.tuple #[(l27.getD 0 undef), (.bool true)]), H28)) (
 none))
 (some ((l27.headD undef), H28))) := rfl
noncomputable def s11_1 (R : Handler) (x0 : Value) (x1 : Value) (l10 : List Value) (H11 : Hp) : Option Outc :=
 pBin Go.Proofs.Tryd.prog .geq 3 (l10.getD 0 undef) (.int .i64 0) fun v12 =>
 pBool v12 fun b13 => br b13
 (pIdx 1 x0 (l10.getD 0 undef) fun p14 =>
 pLoad 1 false H11 p14 fun v15 =>
 pIdx 1 x1 (l10.getD 0 undef) fun p16 =>
 pLoad 1 false H11 p16 fun v17 =>
 pBin Go.Proofs.Tryd.prog .neq 35 v15 v17 fun v18 =>
 pBool v18 fun b19 => br b19
 (pIdx 1 x0 (l10.getD 0 undef) fun p20 =>
 pLoad 1 false H11 p20 fun v21 =>
 pIdx 1 x1 (l10.getD 0 undef) fun p22 =>
 pLoad 1 false H11 p22 fun v23 =>
 pBin Go.Proofs.Tryd.prog .lss 35 v21 v23 fun v24 =>
 some (.ret, [v24], H11))
 (pBin Go.Proofs.Tryd.prog .sub 3 (l10.getD 0 undef) (.int .i64 1) fun v25 =>
 some (.next, [v25], H11)))
 (some (.exit 0, [(l10.getD 0 undef)], H11))
theorem k11 (R : Handler) (x0 x1 : Value) (H0 : Hp) : m11 R x0 x1 H0 =
 pLen .sl x0 H0 fun v1 =>
 pLen .sl x1 H0 fun v2 =>
 pBin Go.Proofs.Tryd.prog .neq 3 v1 v2 fun v3 =>
 pBool v3 fun b4 => br b4
 (pLen .sl x0 H0 fun v5 =>
 pLen .sl x1 H0 fun v6 =>
 pBin Go.Proofs.Tryd.prog .lss 3 v5 v6 fun v7 =>
 some (v7, H0))
 (pLen .sl x0 H0 fun v8 =>
 pBin Go.Proofs.Tryd.prog .sub 3 v8 (.int .i64 1) fun v9 =>
 bindO (loopD (s11_1 R x0 x1) [v9] H0) fun q26 l27 H28 => onCtl q26 none
 (fun i29 => onExit i29 0 (
 some ((.bool false), H28)) (
 none))
 (some ((l27.headD undef), H28))) := rfl
noncomputable def s12_1 (R : Handler) (l1 : List Value) (H2 : Hp) : Option Outc :=
 pBin Go.Proofs.Tryd.prog .gtr 35 (l1.getD 0 undef) (.int .u64 0) fun v3 =>
 pBool v3 fun b4 => br b4
 (pBin Go.Proofs.Tryd.prog .rem 35 (l1.getD 0 undef) (.int .u64 10000) fun v5 =>
 pBuildSlice 1 [.int .u64 0] 1 [(0, v5)] H2 fun v6 H7 =>
 pAppend 1 8 (l1.getD 1 undef) v6 H7 fun v8 H9 =>
 pBin Go.Proofs.Tryd.prog .quo 35 (l1.getD 0 undef) (.int .u64 10000) fun v10 =>
 some (.next, [v10, v8], H9))
 (some (.exit 0, [(l1.getD 0 undef), (l1.getD 1 undef)], H2))
theorem k12 (R : Handler) (x0 : Value) (H0 : Hp) : m12 R x0 H0 =
 bindO (loopD (s12_1 R) [x0, (.slice none 0 0)] H0) fun q11 l12 H13 => onCtl q11 none
 (fun i14 => onExit i14 0 (
 some ((l12.getD 1 undef), H13)) (
 none))
 (some ((l12.headD undef), H13)) := rfl
noncomputable def s13_1 (R : Handler) (x0 : Value) (x1 : Value) (l1 : List Value) (H2 : Hp) : Option Outc :=
 bindO (
 pLen .sl x0 H2 fun v3 =>
 pBin Go.Proofs.Tryd.prog .lss 3 (l1.getD 2 undef) v3 fun v4 =>
 pBool v4 fun b5 => br b5
 (some (.next, [], H2))
 (pLen .sl x1 H2 fun v6 =>
 pBin Go.Proofs.Tryd.prog .lss 3 (l1.getD 2 undef) v6 fun v7 =>
 pBool v7 fun b8 => br b8
 (some (.next, [], H2))
 (pBin Go.Proofs.Tryd.prog .gtr 35 (l1.getD 1 undef) (.int .u64 0) fun v9 =>
 pBool v9 fun b10 => br b10
 (some (.next, [], H2))
 (some (.exit 0, [], H2))))) fun q11 l12 H13 => onCtl q11
 (pLen .sl x0 H13 fun v15 =>
 pBin Go.Proofs.Tryd.prog .lss 3 (l1.getD 2 undef) v15 fun v16 =>
 pBool v16 fun b17 => br b17
 (pIdx 1 x0 (l1.getD 2 undef) fun p18 =>
 pLoad 1 false H13 p18 fun v19 =>
 pBin Go.Proofs.Tryd.prog .add 35 (l1.getD 1 undef) v19 fun v20 =>
 pLen .sl x1 H13 fun v21 =>
 pBin Go.Proofs.Tryd.prog .lss 3 (l1.getD 2 undef) v21 fun v22 =>
 pBool v22 fun b23 => br b23
 (pIdx 1 x1 (l1.getD 2 undef) fun p24 =>
 pLoad 1 false H13 p24 fun v25 =>
 pBin Go.Proofs.Tryd.prog .add 35 v20 v25 fun v26 =>
 pBin Go.Proofs.Tryd.prog .rem 35 v26 (.int .u64 10000) fun v27 =>
 pBuildSlice 1 [.int .u64 0] 1 [(0, v27)] H13 fun v28 H29 =>
 pAppend 1 8 (l1.getD 0 undef) v28 H29 fun v30 H31 =>
 pBin Go.Proofs.Tryd.prog .quo 35 v26 (.int .u64 10000) fun v32 =>
 pBin Go.Proofs.Tryd.prog .add 3 (l1.getD 2 undef) (.int .i64 1) fun v33 =>
 some (.next, [v30, v32, v33], H31))
 (pBin Go.Proofs.Tryd.prog .rem 35 v20 (.int .u64 10000) fun v34 =>
 pBuildSlice 1 [.int .u64 0] 1 [(0, v34)] H13 fun v35 H36 =>
 pAppend 1 8 (l1.getD 0 undef) v35 H36 fun v37 H38 =>
 pBin Go.Proofs.Tryd.prog .quo 35 v20 (.int .u64 10000) fun v39 =>
 pBin Go.Proofs.Tryd.prog .add 3 (l1.getD 2 undef) (.int .i64 1) fun v40 =>
 some (.next, [v37, v39, v40], H38)))
 (pLen .sl x1 H13 fun v41 =>
 pBin Go.Proofs.Tryd.prog .lss 3 (l1.getD 2 undef) v41 fun v42 =>
 pBool v42 fun b43 => br b43
 (pIdx 1 x1 (l1.getD 2 undef) fun p44 =>
 pLoad 1 false H13 p44 fun v45 =>
 pBin Go.Proofs.Tryd.prog .add 35 (l1.getD 1 undef) v45 fun v46 =>
 pBin Go.Proofs.Tryd.prog .rem 35 v46 (.int .u64 10000) fun v47 =>
 pBuildSlice 1 [.int .u64 0] 1 [(0, v47)] H13 fun v48 H49 =>
 pAppend 1 8 (l1.getD 0 undef) v48 H49 fun v50 H51 =>
 pBin Go.Proofs.Tryd.prog .quo 35 v46 (.int .u64 10000) fun v52 =>
 pBin Go.Proofs.Tryd.prog .add 3 (l1.getD 2 undef) (.int .i64 1) fun v53 =>
 some (.next, [v50, v52, v53], H51))
 (pBin Go.Proofs.Tryd.prog .rem 35 (l1.getD 1 undef) (.int .u64 10000) fun v54 =>
 pBuildSlice 1 [.int .u64 0] 1 [(0, v54)] H13 fun v55 H56 =>
 pAppend 1 8 (l1.getD 0 undef) v55 H56 fun v57 H58 =>
 pBin Go.Proofs.Tryd.prog .quo 35 (l1.getD 1 undef) (.int .u64 10000) fun v59 =>
 pBin Go.Proofs.Tryd.prog .add 3 (l1.getD 2 undef) (.int .i64 1) fun v60 =>
 some (.next, [v57, v59, v60], H58))))
 (fun i14 => some (.exit i14, [(l1.getD 0 undef), (l1.getD 1 undef), (l1.getD 2 undef)], H13))
 (some (.ret, [(l12.headD undef)], H13))
theorem k13 (R : Handler) (x0 x1 : Value) (H0 : Hp) : m13 R x0 x1 H0 =
 bindO (loopD (s13_1 R x0 x1) [(.slice none 0 0), (.int .u64 0), (.int .i64 0)] H0) fun q61 l62 H63 => onCtl q61 none
 (fun i64 => onExit i64 0 (
 some ((l62.getD 0 undef), H63)) (
 none))
 (some ((l62.headD undef), H63)) := rfl
noncomputable def s15_1 (R : Handler) (x0 : Value) (v1 : Value) (l2 : List Value) (H3 : Hp) : Option Outc :=
 pBin Go.Proofs.Tryd.prog .lss 3 (l2.getD 0 undef) v1 fun v4 =>
 pBool v4 fun b5 => br b5
 (pAtStr x0 (l2.getD 0 undef) fun v6 =>
 pBin Go.Proofs.Tryd.prog .lss 5 v6 (.int .u8 48) fun v7 =>
 pBool v7 fun b8 => br b8
 (some (.ret, [(.bool false)], H3))
 (pAtStr x0 (l2.getD 0 undef) fun v9 =>
 pBin Go.Proofs.Tryd.prog .gtr 5 v9 (.int .u8 57) fun v10 =>
 pBool v10 fun b11 => br b11
 (some (.ret, [(.bool false)], H3))
 (pBin Go.Proofs.Tryd.prog .add 3 (l2.getD 0 undef) (.int .i64 1) fun v12 =>
 some (.next, [v12], H3))))
 (some (.exit 0, [(l2.getD 0 undef)], H3))
theorem k15 (R : Handler) (x0 : Value) (H0 : Hp) : m15 R x0 H0 =
 pLen .str x0 H0 fun v1 =>
 bindO (loopD (s15_1 R x0 v1) [(.int .i64 0)] H0) fun q13 l14 H15 => onCtl q13 none
 (fun i16 => onExit i16 0 (
 some ((.bool true), H15)) (
 none))
 (some ((l14.headD undef), H15)) := rfl
noncomputable def s19_1 (R : Handler) (x0 : Value) (x1 : Value) (v15 : Value) (l17 : List Value) (l22 : List Value) (H23 : Hp) : Option Outc :=
 bindO (
 pLen .sl x1 H23 fun v24 =>
 pBin Go.Proofs.Tryd.prog .lss 3 (l22.getD 1 undef) v24 fun v25 =>
 pBool v25 fun b26 => br b26
 (some (.next, [], H23))
 (pBin Go.Proofs.Tryd.prog .gtr 35 (l22.getD 0 undef) (.int .u64 0) fun v27 =>
 pBool v27 fun b28 => br b28
 (some (.next, [], H23))
 (some (.exit 2, [], H23)))) fun q29 l30 H31 => onCtl q29
 (pBin Go.Proofs.Tryd.prog .add 3 (l17.getD 0 undef) (l22.getD 1 undef) fun v33 =>
 pIdx 1 v15 v33 fun p34 =>
 pLoad 1 false H31 p34 fun v35 =>
 pBin Go.Proofs.Tryd.prog .add 35 v35 (l22.getD 0 undef) fun v36 =>
 pLen .sl x1 H31 fun v37 =>
 pBin Go.Proofs.Tryd.prog .lss 3 (l22.getD 1 undef) v37 fun v38 =>
 pBool v38 fun b39 => br b39
 (pIdx 1 x0 (l17.getD 0 undef) fun p40 =>
 pLoad 1 false H31 p40 fun v41 =>
 pIdx 1 x1 (l22.getD 1 undef) fun p42 =>
 pLoad 1 false H31 p42 fun v43 =>
 pBin Go.Proofs.Tryd.prog .mul 35 v41 v43 fun v44 =>
 pBin Go.Proofs.Tryd.prog .add 35 v36 v44 fun v45 =>
 pBin Go.Proofs.Tryd.prog .add 3 (l17.getD 0 undef) (l22.getD 1 undef) fun v46 =>
 pBin Go.Proofs.Tryd.prog .rem 35 v45 (.int .u64 10000) fun v47 =>
 pIdx 1 v15 v46 fun p48 =>
 pStore 1 H31 p48 v47 fun H49 =>
 pBin Go.Proofs.Tryd.prog .quo 35 v45 (.int .u64 10000) fun v50 =>
 pBin Go.Proofs.Tryd.prog .add 3 (l22.getD 1 undef) (.int .i64 1) fun v51 =>
 some (.next, [v50, v51], H49))
 (pBin Go.Proofs.Tryd.prog .add 3 (l17.getD 0 undef) (l22.getD 1 undef) fun v52 =>
 pBin Go.Proofs.Tryd.prog .rem 35 v36 (.int .u64 10000) fun v53 =>
 pIdx 1 v15 v52 fun p54 =>
 pStore 1 H31 p54 v53 fun H55 =>
 pBin Go.Proofs.Tryd.prog .quo 35 v36 (.int .u64 10000) fun v56 =>
 pBin Go.Proofs.Tryd.prog .add 3 (l22.getD 1 undef) (.int .i64 1) fun v57 =>
 some (.next, [v56, v57], H55)))
 (fun i32 => some (.exit i32, [(l22.getD 0 undef), (l22.getD 1 undef)], H31))
 (some (.ret, [(l30.headD undef)], H31))
noncomputable def s19_2 (R : Handler) (x0 : Value) (x1 : Value) (v15 : Value) (l17 : List Value) (H18 : Hp) : Option Outc :=
 pLen .sl x0 H18 fun v19 =>
 pBin Go.Proofs.Tryd.prog .lss 3 (l17.getD 0 undef) v19 fun v20 =>
 pBool v20 fun b21 => br b21
 (bindO (loopD (s19_1 R x0 x1 v15 l17) [(.int .u64 0), (.int .i64 0)] H18) fun q58 l59 H60 => onCtl q58 none
 (fun i61 => onExit i61 2 (
 pBin Go.Proofs.Tryd.prog .add 3 (l17.getD 0 undef) (.int .i64 1) fun v62 =>
 some (.next, [v62], H60)) (
 onExit i61 1 (
 pBin Go.Proofs.Tryd.prog .add 3 (l17.getD 0 undef) (.int .i64 1) fun v63 =>
 some (.next, [v63], H60)) (
 some (.exit i61, [(l17.getD 0 undef)], H60))))
 (some (.ret, [(l59.headD undef)], H60)))
 (some (.exit 0, [(l17.getD 0 undef)], H18))
noncomputable def s19_3 (R : Handler) (v15 : Value) (l69 : List Value) (H70 : Hp) : Option Outc :=
 pBin Go.Proofs.Tryd.prog .gtr 3 (l69.getD 0 undef) (.int .i64 0) fun v71 =>
 pBool v71 fun b72 => br b72
 (pBin Go.Proofs.Tryd.prog .sub 3 (l69.getD 0 undef) (.int .i64 1) fun v73 =>
 pIdx 1 v15 v73 fun p74 =>
 pLoad 1 false H70 p74 fun v75 =>
 pBin Go.Proofs.Tryd.prog .eql 35 v75 (.int .u64 0) fun v76 =>
 pBool v76 fun b77 => br b77
 (pBin Go.Proofs.Tryd.prog .sub 3 (l69.getD 0 undef) (.int .i64 1) fun v78 =>
 some (.next, [v78], H70))
 (some (.exit 4, [(l69.getD 0 undef)], H70)))
 (some (.exit 4, [(l69.getD 0 undef)], H70))
theorem k19 (R : Handler) (x0 x1 : Value) (H0 : Hp) : m19 R x0 x1 H0 =
 bindO (
 pLen .sl x0 H0 fun v1 =>
 pBin Go.Proofs.Tryd.prog .eql 3 v1 (.int .i64 0) fun v2 =>
 pBool v2 fun b3 => br b3
 (some (.ret, [(.slice none 0 0)], H0))
 (pLen .sl x1 H0 fun v4 =>
 pBin Go.Proofs.Tryd.prog .eql 3 v4 (.int .i64 0) fun v5 =>
 pBool v5 fun b6 => br b6
 (some (.ret, [(.slice none 0 0)], H0))
 (some (.next, [], H0)))) fun q7 l8 H9 => onCtl q7
 (pLen .sl x0 H9 fun v11 =>
 pLen .sl x1 H9 fun v12 =>
 pBin Go.Proofs.Tryd.prog .add 3 v11 v12 fun v13 =>
 pBin Go.Proofs.Tryd.prog .add 3 v13 (.int .i64 1) fun v14 =>
 pMakeSlice 1 8 [.int .u64 0] v14 v14 H9 fun v15 H16 =>
 bindO (loopD (s19_2 R x0 x1 v15) [(.int .i64 0)] H16) fun q64 l65 H66 => onCtl q64 none
 (fun i67 => onExit i67 0 (
 pLen .sl v15 H66 fun v68 =>
 bindO (loopD (s19_3 R v15) [v68] H66) fun q79 l80 H81 => onCtl q79 none
 (fun i82 => onExit i82 4 (
 pSlice 1 v15 none (some (l80.getD 0 undef)) fun v83 =>
 some (v83, H81)) (
 none))
 (some ((l80.headD undef), H81))) (
 none))
 (some ((l65.headD undef), H66)))
 (fun i10 => none)
 (some ((l8.headD undef), H9)) := rfl
noncomputable def s20_1 (R : Handler) (x1 : Value) (l1 : List Value) (H2 : Hp) : Option Outc :=
 pLen .str (l1.getD 0 undef) H2 fun v3 =>
 pBin Go.Proofs.Tryd.prog .gtr 3 v3 (.int .i64 0) fun v4 =>
 pBool v4 fun b5 => br b5
 (pAtStr (l1.getD 0 undef) (.int .i64 0) fun v6 =>
 pBin Go.Proofs.Tryd.prog .eql 5 v6 x1 fun v7 =>
 pBool v7 fun b8 => br b8
 (pSliceS (l1.getD 0 undef) (some (.int .i64 1)) none fun v9 =>
 some (.next, [v9], H2))
 (some (.exit 0, [(l1.getD 0 undef)], H2)))
 (some (.exit 0, [(l1.getD 0 undef)], H2))
theorem k20 (R : Handler) (x0 x1 : Value) (H0 : Hp) : m20 R x0 x1 H0 =
 bindO (loopD (s20_1 R x1) [x0] H0) fun q10 l11 H12 => onCtl q10 none
 (fun i13 => onExit i13 0 (
 some ((l11.getD 0 undef), H12)) (
 none))
 (some ((l11.headD undef), H12)) := rfl
end Go.AM.N20
/- The Term seat: the primitives, by rule. -/
set_option linter.unusedVariables false
namespace Go.AM
open Go
section
variable {α : Type} {P : Program}
theorem s_bool (b : Bool) (k : Bool → Option α) : pBool (.bool b) k = k b := rfl
theorem s_br (b : Bool) (x y : Option α) : br b x y = if b = true then x else y := by cases b <;> rfl
theorem s_lss (T : TypeId) (kd : IntKind) (a b : Int) (k : Value → Option α) : pBin P .lss T (.int kd a) (.int kd b) k = k (.bool (decide (a < b))) := by simp [pBin, binV, intOp]
theorem s_leq (T : TypeId) (kd : IntKind) (a b : Int) (k : Value → Option α) : pBin P .leq T (.int kd a) (.int kd b) k = k (.bool (decide (a ≤ b))) := by simp [pBin, binV, intOp]
theorem s_gtr (T : TypeId) (kd : IntKind) (a b : Int) (k : Value → Option α) : pBin P .gtr T (.int kd a) (.int kd b) k = k (.bool (decide (a > b))) := by simp [pBin, binV, intOp]
theorem s_geq (T : TypeId) (kd : IntKind) (a b : Int) (k : Value → Option α) : pBin P .geq T (.int kd a) (.int kd b) k = k (.bool (decide (a ≥ b))) := by simp [pBin, binV, intOp]
theorem s_eql (T : TypeId) (kd : IntKind) (a b : Int) (k : Value → Option α) : pBin P .eql T (.int kd a) (.int kd b) k = k (.bool (decide (a = b))) := by
  have : (a == b) = decide (a = b) := by rw [Bool.eq_iff_iff]; simp
  simp [pBin, binV, intOp, this]
theorem s_neq (T : TypeId) (kd : IntKind) (a b : Int) (k : Value → Option α) : pBin P .neq T (.int kd a) (.int kd b) k = k (.bool (decide (a ≠ b))) := by
  have : (a != b) = decide (a ≠ b) := by rw [Bool.eq_iff_iff]; simp
  simp [pBin, binV, intOp, this]
theorem s_add (T : TypeId) (kd : IntKind) (a b : Int) (k : Value → Option α) : pBin P .add T (.int kd a) (.int kd b) k = k (.int kd (kd.wrap (a + b))) := by simp [pBin, binV, intOp]
theorem s_sub (T : TypeId) (kd : IntKind) (a b : Int) (k : Value → Option α) : pBin P .sub T (.int kd a) (.int kd b) k = k (.int kd (kd.wrap (a - b))) := by simp [pBin, binV, intOp]
theorem s_mul (T : TypeId) (kd : IntKind) (a b : Int) (k : Value → Option α) : pBin P .mul T (.int kd a) (.int kd b) k = k (.int kd (kd.wrap (a * b))) := by simp [pBin, binV, intOp]
theorem s_not (b : Bool) (k : Value → Option α) : pUn .not (.bool b) k = k (.bool !b) := rfl
theorem s_nil (a : Addr) (k : Option α) : pNil (.pointer (some a)) k = k := rfl
theorem s_offs (n i o : Nat) (k : Value → Option α) : pOffs n (.pointer (some ⟨i, o, none⟩)) k = k (.pointer (some ⟨i, o + n, none⟩)) := rfl
theorem s_load {H : Hp} {i : Nat} {cs : List Value} {own : Bool} (h : H.get i = some (.cells cs own)) (o : Nat) (v : Value) (hv : cs[o]? = some v) (k : Value → Option α) : pLoad 1 false H (.pointer (some ⟨i, o, none⟩)) k = k v := by
  simp [pLoad, Hp.rdP, Hp.rd, h, rdCells, hv]
theorem s_cell (cs : List Value) (o : Nat) (v : Value) (hv : cs[o]? = some v) (k : Value → Option α) : pCell 1 false cs o k = k v := by simp [pCell, rdCells, hv]
theorem s_bind (c : Ctl) (l : List Value) (H : Hp) (k : Ctl → List Value → Hp → Option α) : bindO (some (c, l, H)) k = k c l H := rfl
theorem s_bind_ite (p : Prop) [Decidable p] (a b : Option Outc) (k : Ctl → List Value → Hp → Option α) : bindO (if p then a else b) k = if p then bindO a k else bindO b k := by split <;> rfl
theorem s_next (a : Option α) (b : Nat → Option α) (c : Option α) : onCtl .next a b c = a := rfl
theorem s_exit (j : Nat) (a : Option α) (b : Nat → Option α) (c : Option α) : onCtl (.exit j) a b c = b j := rfl
theorem s_ret (a : Option α) (b : Nat → Option α) (c : Option α) : onCtl .ret a b c = c := rfl
theorem s_onExit (j : Nat) (x y : Option α) : onExit j j x y = x := by simp [onExit]
theorem s_call {h : Handler} {g : FuncId} {args : List Value} {H : Hp} {v : Value} {H' : Hp} (e : h g args H = some (v, H')) (k : Value → Hp → Option α) : pCallF h g args H k = k v H' := by simp [pCallF, e]
theorem s_ext (vs : List Value) (i : Nat) (v : Value) (h : vs[i]? = some v) (k : Value → Option α) : pExtract (.tuple vs.toArray) i k = k v := by simp [pExtract, extractV, h]
end
end Go.AM
/- The abstract machine: slices that are owned, and what leaves the rest as it was. -/
set_option linter.unusedVariables false
set_option linter.unusedSimpArgs false
namespace Go.AM
open Go
/-- Nothing else is touched. -/
structure Frm (M : Nat → Prop) (H H' : Hp) : Prop where
  next : H.next ≤ H'.next
  same : ∀ j, j < H.next → ¬ M j → H'.get j = H.get j
theorem Frm.refl (M : Nat → Prop) (H : Hp) : Frm M H H := ⟨Nat.le_refl _, fun _ _ _ => rfl⟩
theorem Frm.trans {M N : Nat → Prop} {H H1 H2 : Hp} (h : Frm M H H1) (k : Frm N H1 H2) (hn : ∀ j, N j → M j ∨ H.next ≤ j) : Frm M H H2 :=
  ⟨Nat.le_trans h.next k.next, fun j hj hm => by
    rw [k.same j (Nat.lt_of_lt_of_le hj h.next) (fun q => by rcases hn j q with a | a; exact hm a; omega), h.same j hj hm]⟩
theorem Frm.mono {M N : Nat → Prop} {H H' : Hp} (h : Frm M H H') (hn : ∀ j, M j → N j ∨ H.next ≤ j) : Frm N H H' := ⟨h.next, fun j hj hm => h.same j hj fun q => by rcases hn j q with a | a; exact hm a; omega⟩
/-- A slice's object. -/
def vid : Value → Option Nat
  | .slice (some a) _ _ => some a.block
  | _ => none
def Id (v : Value) (j : Nat) : Prop := vid v = some j
theorem get_new (H : Hp) (o : AObj) (i : Nat) : (H.new o).get i = if i = H.next then some o else H.get i := rfl
theorem get_set (H : Hp) (j : Nat) (o : Option AObj) (i : Nat) : (H.set j o).get i = if i = j then o else H.get i := rfl
theorem fr_new (H : Hp) (o : AObj) (M : Nat → Prop) : Frm M H (H.new o) := ⟨by show H.next ≤ H.next + 1; omega, fun j hj _ => by rw [get_new, if_neg (by omega)]⟩
theorem fr_set (H : Hp) (i : Nat) (o : Option AObj) (M : Nat → Prop) (hm : M i) : Frm M H (H.set i o) := ⟨Nat.le_refl _, fun j hj hn => by rw [get_set, if_neg (fun e => hn (by rw [e]; exact hm))]⟩

/-- A slice that is owned: so many elements, their cells. -/
def Vec (H : Hp) (sz : Nat) (v : Value) (n : Nat) (cs : List Value) : Prop :=
  (n = 0 ∧ cs = [] ∧ v = .slice none 0 0) ∨ ∃ y c rest, v = .slice (some ⟨y, 0, some sz⟩) n c ∧ n ≤ c ∧ H.get y = some (.cells (cs ++ rest) true) ∧ cs.length = n * sz ∧ rest.length = (c - n) * sz ∧ y < H.next ∧ rest.all one = true
section
variable {H H' : Hp} {sz : Nat} {v : Value} {n : Nat} {cs : List Value}
theorem Vec.len (h : Vec H sz v n cs) {α : Type} (H' : Hp) (k : Value → Option α) : pLen .sl v H' k = k (.int .i64 n) := by
  rcases h with ⟨rfl, _, rfl⟩ | ⟨y, c, rest, rfl, _⟩ <;> rfl
theorem Vec.lenV (h : Vec H sz v n cs) (H' : Hp) : AM.lenV .sl v H' = some (.int .i64 n) := by
  rcases h with ⟨rfl, _, rfl⟩ | ⟨y, c, rest, rfl, _⟩ <;> rfl
theorem Vec.size (h : Vec H sz v n cs) : cs.length = n * sz := by
  rcases h with ⟨rfl, rfl, _⟩ | ⟨y, c, rest, _, _, _, h, _⟩
  · simp
  · exact h
theorem Vec.lt (h : Vec H sz v n cs) {j : Nat} (hj : Id v j) : j < H.next := by
  rcases h with ⟨_, _, rfl⟩ | ⟨y, c, rest, rfl, _, _, _, _, h, _⟩
  · cases hj
  · cases hj; exact h
theorem Vec.own (h : Vec H sz v n cs) {j : Nat} (hj : Id v j) : ∃ cs, H.get j = some (.cells cs true) := by
  rcases h with ⟨_, _, rfl⟩ | ⟨y, c, rest, rfl, _, h, _⟩
  · cases hj
  · cases hj; exact ⟨_, h⟩
theorem Vec.keep' (h : Vec H sz v n cs) (hg : ∀ j, Id v j → H'.get j = H.get j) (hn : H.next ≤ H'.next) : Vec H' sz v n cs := by
  rcases h with e | ⟨y, c, rest, rfl, h1, h2, h3, h4, h5, h6⟩
  · exact .inl e
  · exact .inr ⟨y, c, rest, rfl, h1, by rw [hg y rfl]; exact h2, h3, h4, Nat.lt_of_lt_of_le h5 hn, h6⟩
theorem Vec.keep {M : Nat → Prop} (h : Vec H sz v n cs) (k : Frm M H H') (hm : ∀ j, Id v j → ¬ M j) : Vec H' sz v n cs :=
  h.keep' (fun j hj => k.same j (h.lt hj) (hm j hj)) k.next
theorem Vec.nil (H : Hp) (sz : Nat) : Vec H sz (.slice none 0 0) 0 [] := .inl ⟨rfl, rfl, rfl⟩
/-- An element's address. -/
theorem Vec.ix (h : Vec H sz v n cs) {i : Nat} (hi : i < n) : ∃ y, Id v y ∧ (∃ rest, H.get y = some (.cells (cs ++ rest) true)) ∧ ∀ (α : Type) (kd : IntKind) (k : Value → Option α), pIdx sz v (.int kd (i : Int)) k = k (.pointer (some ⟨y, i * sz, none⟩)) := by
  rcases h with ⟨rfl, _, _⟩ | ⟨y, c, rest, rfl, h1, h2, h3, h4, h5⟩
  · omega
  · refine ⟨y, rfl, ⟨rest, h2⟩, fun α kd k => ?_⟩
    unfold pIdx idxV
    have : sz = sz ∧ (0 : Int) ≤ (i : Int) ∧ (i : Int) < (n : Int) := ⟨rfl, by omega, by omega⟩
    simp only [this, and_self, if_true, Nat.zero_add, Int.toNat_natCast]
theorem ld_cell {y : Nat} {rest : List Value} {own : Bool} (h : H.get y = some (.cells (cs ++ rest) own)) {o : Nat} {x : Value} (hx : cs[o]? = some x) {α : Type} (k : Value → Option α) : pLoad 1 false H (.pointer (some ⟨y, o, none⟩)) k = k x := by
  have hlt := (List.getElem?_eq_some_iff.1 hx).1
  have : (cs ++ rest)[o]? = some x := by rw [List.getElem?_append_left hlt]; exact hx
  simp [pLoad, Hp.rdP, Hp.rd, h, rdCells, this]
theorem ld_agg {y : Nat} {rest : List Value} {own : Bool} (h : H.get y = some (.cells (cs ++ rest) own)) {o m : Nat} (ho : o + m ≤ cs.length) {α : Type} (k : Value → Option α) : pLoad m true H (.pointer (some ⟨y, o, none⟩)) k = k (.agg ((cs.drop o).take m).toArray) := by
  have h1 : o + m ≤ (cs ++ rest).length := by rw [List.length_append]; omega
  have h2 : ((cs ++ rest).drop o).take m = (cs.drop o).take m := by
    rw [List.drop_append_of_le_length (by omega), List.take_append_of_le_length (by rw [List.length_drop]; omega)]
  simp only [pLoad, Hp.rdP, Hp.rd, h, rdCells, h1, if_true, h2]
theorem Vec.ids (h : Vec H sz v n cs) {y : Nat} (hy : Id v y) : ∃ c rest, v = .slice (some ⟨y, 0, some sz⟩) n c ∧ n ≤ c ∧ H.get y = some (.cells (cs ++ rest) true) ∧ cs.length = n * sz ∧ rest.length = (c - n) * sz ∧ y < H.next ∧ rest.all one = true := by
  rcases h with ⟨_, _, rfl⟩ | ⟨y', c, rest, rfl, h⟩
  · cases hy
  · cases hy; exact ⟨c, rest, rfl, h⟩
/-- Some cells are written. -/
theorem Vec.set (h : Vec H sz v n cs) {y o m : Nat} (hy : Id v y) {x : Value} (hm : (cellsL x).length = m) (ho : o + m ≤ cs.length) (h1 : (cellsL x).all one = true) :
    ∃ H', (∀ (α : Type) (k : Hp → Option α), pStore m H (.pointer (some ⟨y, o, none⟩)) x k = k H') ∧ Vec H' sz v n (spl cs o (cellsL x)) ∧ Frm (Id v) H H' ∧ H'.next = H.next := by
  obtain ⟨c, rest, rfl, g1, g2, g3, g4, g5, g6⟩ := h.ids hy
  have hs : spl (cs ++ rest) o (cellsL x) = spl cs o (cellsL x) ++ rest := by
    unfold spl
    rw [List.take_append_of_le_length (by omega), List.drop_append_of_le_length (by omega)]
    simp
  have hw : wrCells m (cs ++ rest) o x = some (spl cs o (cellsL x) ++ rest) := by
    unfold wrCells
    rw [if_pos ⟨hm, by rw [List.length_append]; omega, h1⟩, hs]
  have hl : (spl cs o (cellsL x)).length = cs.length := by
    unfold spl
    simp only [List.length_append, List.length_take, List.length_drop, hm]
    omega
  refine ⟨H.set y (some (.cells (spl cs o (cellsL x) ++ rest) true)), fun α k => ?_, .inr ⟨y, c, rest, rfl, g1, ?_, by rw [hl]; exact g3, g4, g5, g6⟩, fr_set _ _ _ _ rfl, rfl⟩
  · unfold pStore
    have : H.wr (.pointer (some ⟨y, o, none⟩)) m x = some (H.set y (some (.cells (spl cs o (cellsL x) ++ rest) true))) := by
      show (match H.get y with | some (.cells cs true) => (match wrCells m cs o x with | some cs' => some (H.set y (some (.cells cs' true))) | none => none) | _ => none) = _
      rw [g2]; dsimp only; rw [hw]
    rw [this]
  · rw [get_set, if_pos rfl]
/-- The last elements are dropped. -/
theorem Vec.cut (h : Vec H sz v n cs) (hcs : cs.all one = true) {m : Nat} (hm : m ≤ n) : ∃ v', (∀ (α : Type) (kd : IntKind) (k : Value → Option α), pSlice sz v none (some (.int kd (m : Int))) k = k v') ∧ Vec H sz v' m (cs.take (m * sz)) ∧ (∀ j, Id v' j → Id v j) := by
  rcases h with ⟨rfl, rfl, rfl⟩ | ⟨y, c, rest, rfl, h1, h2, h3, h4, h5, h6⟩
  · obtain rfl : m = 0 := by omega
    refine ⟨.slice none 0 0, fun α kd k => ?_, by simpa using Vec.nil H sz, fun j hj => hj⟩
    unfold pSlice sliceV
    simp [optInt]
  · refine ⟨.slice (some ⟨y, 0, some sz⟩) m c, fun α kd k => ?_, .inr ⟨y, c, cs.drop (m * sz) ++ rest, rfl, by omega, ?_, ?_, ?_, h5, ?_⟩, fun j hj => hj⟩
    · have : sliceV sz (.slice (some ⟨y, 0, some sz⟩) n c) none (some (.int kd (m : Int))) = some (.slice (some ⟨y, 0, some sz⟩) m c) := by
        unfold sliceV
        dsimp only [optInt]
        rw [if_pos ⟨rfl, by omega, by omega, by omega⟩]
        simp
      unfold pSlice
      rw [this]
    · rw [← List.append_assoc, List.take_append_drop]; exact h2
    · rw [List.length_take, h3]; exact Nat.min_eq_left (Nat.mul_le_mul_right sz hm)
    · rw [List.length_append, List.length_drop, h3, h4, Nat.sub_mul, Nat.sub_mul]
      have a1 := Nat.mul_le_mul_right sz hm
      have a2 := Nat.mul_le_mul_right sz h1
      rw [Nat.sub_mul] at *
      omega
    · rw [List.all_append, Bool.and_eq_true]
      refine ⟨?_, h6⟩
      rw [List.all_eq_true] at hcs ⊢
      exact fun x hx => hcs x (List.mem_of_mem_drop hx)
/-- A new slice of zeros. -/
theorem repl_len (zs : List Value) : ∀ n, (repl n zs).length = n * zs.length
  | 0 => by simp [repl]
  | n + 1 => by show (zs ++ repl n zs).length = _; rw [List.length_append, repl_len zs n, Nat.succ_mul]; omega
theorem Vec.make (H : Hp) {sz bytes : Nat} {zs : List Value} (hz : zs.length = sz) {n : Nat} (hb : n * bytes ≤ 2 ^ 47) :
    ∃ v, (∀ (α : Type) (k : Value → Hp → Option α), pMakeSlice sz bytes zs (.int .i64 (n : Int)) (.int .i64 (n : Int)) H k = k v (H.new (.cells (repl n zs) true))) ∧ Vec (H.new (.cells (repl n zs) true)) sz v n (repl n zs) ∧ (∀ j, Id v j → j = H.next) := by
  refine ⟨.slice (some ⟨H.next, 0, some sz⟩) n n, fun α k => ?_, .inr ⟨H.next, n, [], rfl, Nat.le_refl _, ?_, by rw [repl_len, hz], by simp, by show H.next < H.next + 1; omega, rfl⟩, fun j hj => by cases hj; rfl⟩
  · have e : ((2 : Int) ^ 47) = ((2 ^ 47 : Nat) : Int) := by rfl
    have hb' : (n : Int) * (bytes : Int) ≤ 2 ^ 47 := by rw [e, ← Int.natCast_mul]; exact Int.ofNat_le.2 hb
    have : makeSliceV sz bytes zs (.int .i64 (n : Int)) (.int .i64 (n : Int)) H = some (.slice (some ⟨H.next, 0, some sz⟩) n n, H.new (.cells (repl n zs) true)) := by
      unfold makeSliceV
      dsimp only
      rw [if_pos ⟨by omega, by omega, hb'⟩]
      rfl
    unfold pMakeSlice
    rw [this]
  · rw [get_new, if_pos rfl, List.append_nil]
/-- One element more. -/
theorem Vec.push (h : Vec H sz v n cs) {bytes : Nat} {zs : List Value} {x : Value} (hs : 0 < sz) (hs2 : sz ≤ 2 ^ 24) (hz : zs.length = sz) (hx : (cellsL x).length = sz) (h1 : (cellsL x).all one = true) (hb : (n + 1) * bytes ≤ 2 ^ 47) :
    ∃ v' H', (∀ (α : Type) (k : Value → Hp → Option α), (pBuildSlice sz zs 1 [(0, x)] H fun t H1 => pAppend sz bytes v t H1 k) = k v' H') ∧ Vec H' sz v' (n + 1) (cs ++ cellsL x) ∧ Frm (Id v) H H' ∧ (∀ j, Id v' j → Id v j ∨ H.next ≤ j) ∧ (∃ j, Id v' j) := by
  have hbuild : buildSliceV sz zs 1 [(0, x)] H = some (.slice (some ⟨H.next, 0, some sz⟩) 1 1, H.new (.cells (cellsL x) true)) := by
    unfold buildSliceV
    rw [if_neg (by omega)]
    have e0 : spl (repl 1 zs) (0 * sz) (cellsL x) = cellsL x := by
      unfold spl
      have : (repl 1 zs).length = sz := by rw [repl_len, hz, Nat.one_mul]
      rw [Nat.zero_mul, List.take_zero, List.nil_append, List.drop_of_length_le (by omega), List.append_nil]
    have : fillL (fun i => some (i * sz, sz)) (repl 1 zs) [(0, x)] = some (cellsL x) := by
      unfold fillL
      dsimp only
      rw [if_pos ⟨hx, by rw [repl_len, hz]; omega, h1⟩, e0]
      rfl
    rw [this]
  have hb' : ∀ (α : Type) (k : Value → Hp → Option α), (pBuildSlice sz zs 1 [(0, x)] H fun t H1 => pAppend sz bytes v t H1 k) = pAppend sz bytes v (.slice (some ⟨H.next, 0, some sz⟩) 1 1) (H.new (.cells (cellsL x) true)) k := fun α k => by
    unfold pBuildSlice; rw [hbuild]
  generalize hH1 : H.new (.cells (cellsL x) true) = H1 at hb'
  have n1 : H1.next = H.next + 1 := by rw [← hH1]; rfl
  have g1 : ∀ j, j < H.next → H1.get j = H.get j := fun j hj => by rw [← hH1, get_new, if_neg (by omega)]
  have gt : H1.get H.next = some (.cells (cellsL x) true) := by rw [← hH1, get_new, if_pos rfl]
  have hsrc : srcCells sz (.slice (some ⟨H.next, 0, some sz⟩) 1 1) H1 = some (1, cellsL x) := by
    unfold srcCells
    dsimp only
    rw [if_pos rfl, gt]
    dsimp only
    rw [if_pos (by omega), List.drop_zero, List.take_of_length_le (by omega)]
  rcases h with ⟨rfl, rfl, rfl⟩ | ⟨y, c, rest, rfl, k1, k2, k3, k4, k5, k6⟩
  · refine ⟨.slice (some ⟨H1.next, 0, some sz⟩) 1 1, H1.new (.cells (cellsL x) true), fun α k => ?_, .inr ⟨H1.next, 1, [], rfl, Nat.le_refl _, ?_, by simpa using hx, by simp, by show H1.next < H1.next + 1; omega, rfl⟩, ⟨by show H.next ≤ H1.next + 1; omega, fun j hj _ => by rw [get_new, if_neg (by omega), g1 j hj]⟩, fun j hj => ?_, ⟨_, rfl⟩⟩
    · rw [hb']
      unfold pAppend appendV
      rw [hsrc]
      dsimp only
      rw [if_neg (by decide), if_pos ⟨by omega, h1⟩]
      rfl
    · rw [get_new, if_pos rfl, List.nil_append, List.append_nil]
    · cases hj; exact .inr (by show H.next ≤ H1.next; omega)
  · have gy : H1.get y = some (.cells (cs ++ rest) true) := by rw [g1 y k5]; exact k2
    have hyn : y ≠ H.next := by omega
    by_cases hc : n + 1 ≤ c
    · -- in place
      have hrl : sz ≤ rest.length := by
        rw [k4]
        have : 1 * sz ≤ (c - n) * sz := Nat.mul_le_mul_right sz (by omega)
        omega
      have hsp : spl (cs ++ rest) (0 + n * sz) (cellsL x) = (cs ++ cellsL x) ++ rest.drop sz := by
        unfold spl
        rw [Nat.zero_add, ← k3, List.take_left' rfl, hx]
        rw [List.drop_append, List.drop_of_length_le (by omega), List.nil_append, Nat.add_sub_cancel_left]
      refine ⟨.slice (some ⟨y, 0, some sz⟩) (n + 1) c, H1.set y (some (.cells ((cs ++ cellsL x) ++ rest.drop sz) true)), fun α k => ?_, .inr ⟨y, c, rest.drop sz, rfl, hc, ?_, ?_, ?_, by show y < H1.next; omega, ?_⟩, ⟨by show H.next ≤ H1.next; omega, fun j hj hm => ?_⟩, fun j hj => ?_, ⟨_, rfl⟩⟩
      · rw [hb']
        unfold pAppend appendV
        rw [hsrc]
        dsimp only
        rw [if_neg (by simp), if_neg (by omega), gy]
        dsimp only
        rw [if_pos hc, if_pos ⟨by rw [List.length_append, k3, k4]; have := Nat.mul_le_mul_right sz hc; rw [Nat.sub_mul]; have := Nat.mul_le_mul_right sz k1; omega, h1⟩, hsp]
      · rw [get_set, if_pos rfl]
      · rw [List.length_append, k3, hx, Nat.succ_mul]
      · rw [List.length_drop, k4]
        have : (c - n) * sz = (c - (n + 1)) * sz + sz := by rw [← Nat.succ_mul]; congr 1; omega
        omega
      · rw [List.all_eq_true] at k6 ⊢
        exact fun z hz => k6 z (List.mem_of_mem_drop hz)
      · rw [get_set, if_neg (fun e => hm (by rw [e]; rfl)), g1 j hj]
      · cases hj; exact .inl rfl
    · -- it moves
      refine ⟨.slice (some ⟨H1.next, 0, some sz⟩) (n + 1) (n + 1), (H1.set y none).new (.cells (cs ++ cellsL x) true), fun α k => ?_, .inr ⟨H1.next, n + 1, [], rfl, Nat.le_refl _, ?_, ?_, by simp, by show H1.next < H1.next + 1; omega, rfl⟩, ⟨by show H.next ≤ H1.next + 1; omega, fun j hj hm => ?_⟩, fun j hj => ?_, ⟨_, rfl⟩⟩
      · rw [hb']
        unfold pAppend appendV
        rw [hsrc]
        dsimp only
        have ht : ((cs ++ rest).drop 0).take (n * sz) = cs := by rw [List.drop_zero, ← k3, List.take_left' rfl]
        rw [if_neg (by simp), if_neg (by omega), gy]
        dsimp only
        rw [if_neg hc, if_pos ⟨by rw [List.length_append, k3]; omega, hb, h1⟩, ht]
      · rw [get_new, if_pos (show H1.next = (H1.set y none).next from rfl), List.append_nil]
      · rw [List.length_append, k3, hx, Nat.succ_mul]
      · rw [get_new, if_neg (by show ¬ j = H1.next; omega), get_set, if_neg (fun e => hm (by rw [e]; rfl)), g1 j hj]
      · cases hj; exact .inr (by show H.next ≤ H1.next; omega)
end
end Go.AM
/- The abstract machine: slices that are read; appending them. -/
set_option linter.unusedVariables false
set_option linter.unusedSimpArgs false
namespace Go.AM
open Go
/-- A slice that may be read. -/
def Rdb (H : Hp) (sz : Nat) (v : Value) (n : Nat) (cs : List Value) : Prop :=
  (n = 0 ∧ cs = [] ∧ v = .slice none 0 0) ∨ ∃ y c rest own, v = .slice (some ⟨y, 0, some sz⟩) n c ∧ n ≤ c ∧ H.get y = some (.cells (cs ++ rest) own) ∧ cs.length = n * sz ∧ y < H.next
section
variable {H H' : Hp} {sz : Nat} {v : Value} {n : Nat} {cs : List Value}
theorem Vec.rd (h : Vec H sz v n cs) : Rdb H sz v n cs := by
  rcases h with e | ⟨y, c, rest, rfl, h1, h2, h3, h4, h5, h6⟩
  · exact .inl e
  · exact .inr ⟨y, c, rest, true, rfl, h1, h2, h3, h5⟩
theorem Rdb.len (h : Rdb H sz v n cs) {α : Type} (H' : Hp) (k : Value → Option α) : pLen .sl v H' k = k (.int .i64 n) := by
  rcases h with ⟨rfl, _, rfl⟩ | ⟨y, c, rest, own, rfl, _⟩ <;> rfl
theorem Rdb.size (h : Rdb H sz v n cs) : cs.length = n * sz := by
  rcases h with ⟨rfl, rfl, _⟩ | ⟨y, c, rest, own, _, _, _, h, _⟩
  · simp
  · exact h
theorem Rdb.lt (h : Rdb H sz v n cs) {j : Nat} (hj : Id v j) : j < H.next := by
  rcases h with ⟨_, _, rfl⟩ | ⟨y, c, rest, own, rfl, _, _, _, h⟩
  · cases hj
  · cases hj; exact h
theorem Rdb.keep' (h : Rdb H sz v n cs) (hg : ∀ j, Id v j → H'.get j = H.get j) (hn : H.next ≤ H'.next) : Rdb H' sz v n cs := by
  rcases h with e | ⟨y, c, rest, own, rfl, h1, h2, h3, h4⟩
  · exact .inl e
  · exact .inr ⟨y, c, rest, own, rfl, h1, by rw [hg y rfl]; exact h2, h3, Nat.lt_of_lt_of_le h4 hn⟩
theorem Rdb.keep {M : Nat → Prop} (h : Rdb H sz v n cs) (k : Frm M H H') (hm : ∀ j, Id v j → ¬ M j) : Rdb H' sz v n cs :=
  h.keep' (fun j hj => k.same j (h.lt hj) (hm j hj)) k.next
theorem Rdb.ix (h : Rdb H sz v n cs) {i : Nat} (hi : i < n) : ∃ y, Id v y ∧ (∃ rest own, H.get y = some (.cells (cs ++ rest) own)) ∧ ∀ (α : Type) (kd : IntKind) (k : Value → Option α), pIdx sz v (.int kd (i : Int)) k = k (.pointer (some ⟨y, i * sz, none⟩)) := by
  rcases h with ⟨rfl, _, _⟩ | ⟨y, c, rest, own, rfl, h1, h2, h3, h4⟩
  · omega
  · refine ⟨y, rfl, ⟨rest, own, h2⟩, fun α kd k => ?_⟩
    unfold pIdx idxV
    have : sz = sz ∧ (0 : Int) ≤ (i : Int) ∧ (i : Int) < (n : Int) := ⟨rfl, by omega, by omega⟩
    simp only [this, and_self, if_true, Nat.zero_add, Int.toNat_natCast]
theorem Rdb.src (h : Rdb H sz v n cs) : srcCells sz v H = some (n, cs) := by
  rcases h with ⟨rfl, rfl, rfl⟩ | ⟨y, c, rest, own, rfl, h1, h2, h3, h4⟩
  · rfl
  · unfold srcCells
    dsimp only
    rw [if_pos rfl, h2]
    dsimp only
    rw [if_pos (by rw [List.length_append]; omega), List.drop_zero, ← h3, List.take_left' rfl]
/-- A slice is appended. -/
theorem Vec.app (h : Vec H sz v n cs) {x : Value} {m : Nat} {new : List Value} (hx : Rdb H sz x m new) {bytes : Nat} (h1 : new.all one = true) (hb : (n + m) * bytes ≤ 2 ^ 47) :
    ∃ v' H', (∀ (α : Type) (k : Value → Hp → Option α), pAppend sz bytes v x H k = k v' H') ∧ Vec H' sz v' (n + m) (cs ++ new) ∧ Frm (Id v) H H' ∧ (∀ j, Id v' j → Id v j ∨ H.next ≤ j) := by
  have hsrc := hx.src
  have hxl := hx.size
  rcases h with ⟨rfl, rfl, rfl⟩ | ⟨y, c, rest, rfl, k1, k2, k3, k4, k5, k6⟩
  · by_cases hm : m = 0
    · subst hm
      refine ⟨.slice none 0 0, H, fun α k => ?_, ?_, Frm.refl _ _, fun j hj => .inl hj⟩
      · have : appendV sz bytes (.slice none 0 0) x H = some (.slice none 0 0, H) := by
          unfold appendV
          rw [hsrc]; rfl
        unfold pAppend
        rw [this]
      · have : new = [] := List.length_eq_zero_iff.1 (by omega)
        subst this
        exact Vec.nil H sz
    · refine ⟨.slice (some ⟨H.next, 0, some sz⟩) m m, H.new (.cells new true), fun α k => ?_, .inr ⟨H.next, m, [], by simp, by omega, ?_, by simp; omega, by simp, by show H.next < H.next + 1; omega, rfl⟩, fr_new _ _ _, fun j hj => ?_⟩
      · have : appendV sz bytes (.slice none 0 0) x H = some (.slice (some ⟨H.next, 0, some sz⟩) m m, H.new (.cells new true)) := by
          unfold appendV
          rw [hsrc]
          dsimp only
          rw [if_neg hm, if_pos ⟨by rw [Nat.zero_add] at hb; exact hb, h1⟩]
          rfl
        unfold pAppend
        rw [this]
      · rw [get_new, if_pos rfl, List.nil_append, List.append_nil]
      · cases hj; exact .inr (Nat.le_refl _)
  · by_cases hm : m = 0
    · subst hm
      have : new = [] := List.length_eq_zero_iff.1 (by omega)
      subst this
      refine ⟨.slice (some ⟨y, 0, some sz⟩) n c, H, fun α k => ?_, .inr ⟨y, c, rest, rfl, k1, by rw [List.append_nil]; exact k2, by rw [List.append_nil]; exact k3, k4, k5, k6⟩, Frm.refl _ _, fun j hj => .inl hj⟩
      have : appendV sz bytes (.slice (some ⟨y, 0, some sz⟩) n c) x H = some (.slice (some ⟨y, 0, some sz⟩) n c, H) := by
        unfold appendV
        rw [hsrc]
        dsimp only
        rw [if_neg (by simp), if_pos ⟨rfl, k1⟩]
      unfold pAppend
      rw [this]
    · by_cases hc : n + m ≤ c
      · have hrl : m * sz ≤ rest.length := by rw [k4]; exact Nat.mul_le_mul_right sz (by omega)
        have hsp : spl (cs ++ rest) (0 + n * sz) new = (cs ++ new) ++ rest.drop (m * sz) := by
          unfold spl
          rw [Nat.zero_add, ← k3, List.take_left' rfl, hxl]
          rw [List.drop_append, List.drop_of_length_le (by omega), List.nil_append, Nat.add_sub_cancel_left]
        have hle : (n + m) * sz ≤ c * sz := Nat.mul_le_mul_right sz hc
        have hcl : (cs ++ rest).length = c * sz := by
          rw [List.length_append, k3, k4, ← Nat.add_mul]; congr 1; omega
        refine ⟨.slice (some ⟨y, 0, some sz⟩) (n + m) c, H.set y (some (.cells ((cs ++ new) ++ rest.drop (m * sz)) true)), fun α k => ?_, .inr ⟨y, c, rest.drop (m * sz), rfl, hc, ?_, ?_, ?_, k5, ?_⟩, fr_set _ _ _ _ rfl, fun j hj => .inl hj⟩
        · have : appendV sz bytes (.slice (some ⟨y, 0, some sz⟩) n c) x H = some (.slice (some ⟨y, 0, some sz⟩) (n + m) c, H.set y (some (.cells ((cs ++ new) ++ rest.drop (m * sz)) true))) := by
            unfold appendV
            rw [hsrc]
            dsimp only
            rw [if_neg (by simp), if_neg (by omega), k2]
            dsimp only
            rw [if_pos hc, if_pos ⟨by rw [hcl]; omega, h1⟩, hsp]
          unfold pAppend
          rw [this]
        · rw [get_set, if_pos rfl]
        · rw [List.length_append, k3, hxl, Nat.add_mul]
        · rw [List.length_drop, k4, ← Nat.sub_mul]; congr 1; omega
        · rw [List.all_eq_true] at k6 ⊢
          exact fun z hz => k6 z (List.mem_of_mem_drop hz)
      · have ht : ((cs ++ rest).drop 0).take (n * sz) = cs := by rw [List.drop_zero, ← k3, List.take_left' rfl]
        refine ⟨.slice (some ⟨H.next, 0, some sz⟩) (n + m) (n + m), (H.set y none).new (.cells (cs ++ new) true), fun α k => ?_, .inr ⟨H.next, n + m, [], rfl, Nat.le_refl _, ?_, ?_, by simp, by show H.next < H.next + 1; omega, rfl⟩, ⟨by show H.next ≤ H.next + 1; omega, fun j hj hm' => ?_⟩, fun j hj => ?_⟩
        · have : appendV sz bytes (.slice (some ⟨y, 0, some sz⟩) n c) x H = some (.slice (some ⟨H.next, 0, some sz⟩) (n + m) (n + m), (H.set y none).new (.cells (cs ++ new) true)) := by
            unfold appendV
            rw [hsrc]
            dsimp only
            rw [if_neg (by simp), if_neg (by omega), k2]
            dsimp only
            rw [if_neg hc, if_pos ⟨by rw [List.length_append, k3]; omega, hb, h1⟩, ht]
          unfold pAppend
          rw [this]
        · rw [get_new, if_pos (show H.next = (H.set y none).next from rfl), List.append_nil]
        · rw [List.length_append, k3, hxl, Nat.add_mul]
        · rw [get_new, if_neg (by show ¬ j = H.next; omega), get_set, if_neg (fun e => hm' (by rw [e]; rfl))]
        · cases hj; exact .inr (Nat.le_refl _)
/-- An empty slice that is not nil. -/
theorem Vec.empty (H : Hp) (sz : Nat) (zs : List Value) : (∀ (α : Type) (k : Value → Hp → Option α), pBuildSlice sz zs 0 [] H k = k (.slice (some ⟨H.next, 0, some sz⟩) 0 0) (H.new (.cells [] true))) ∧ Vec (H.new (.cells [] true)) sz (.slice (some ⟨H.next, 0, some sz⟩) 0 0) 0 [] :=
  ⟨fun α k => by
    have : buildSliceV sz zs 0 [] H = some (.slice (some ⟨H.next, 0, some sz⟩) 0 0, H.new (.cells [] true)) := by
      unfold buildSliceV
      rw [if_neg (by omega)]
      rfl
    unfold pBuildSlice
    rw [this], .inr ⟨H.next, 0, [], rfl, Nat.le_refl _, by rw [get_new, if_pos rfl]; rfl, by simp, by simp, by show H.next < H.next + 1; omega, rfl⟩⟩
end
end Go.AM
/- The abstract machine: several slices of a function's own. -/
set_option linter.unusedVariables false
set_option linter.unusedSimpArgs false
namespace Go.AM
open Go
structure Sl where
  sz : Nat
  v : Value
  n : Nat
  cs : List Value
/-- Slices that were made behind H0, apart from each other; what was there at H0 is as it was. -/
structure Own (H0 H : Hp) (vs : List Sl) : Prop where
  next : H0.next ≤ H.next
  old : ∀ j, j < H0.next → H.get j = H0.get j
  vec : ∀ e ∈ vs, Vec H e.sz e.v e.n e.cs
  new : ∀ e ∈ vs, ∀ j, Id e.v j → H0.next ≤ j
  apart : vs.Pairwise fun a b => ∀ j, Id a.v j → ¬ Id b.v j
section
variable {H0 H : Hp} {sz : Nat} {v : Value} {n : Nat} {cs : List Value} {r : List Sl}
theorem Own.nil (H : Hp) : Own H H [] := ⟨Nat.le_refl _, fun _ _ => rfl, fun e h => (by cases h), fun e h => (by cases h), List.Pairwise.nil⟩
theorem Own.head {a : Sl} (h : Own H0 H (a :: r)) : Vec H a.sz a.v a.n a.cs := h.vec a (List.mem_cons_self ..)
theorem Own.tail {a : Sl} (h : Own H0 H (a :: r)) : Own H0 H r :=
  ⟨h.next, h.old, fun e he => h.vec e (List.mem_cons_of_mem _ he), fun e he => h.new e (List.mem_cons_of_mem _ he), (List.pairwise_cons.1 h.apart).2⟩
theorem Own.swap {a b : Sl} (h : Own H0 H (a :: b :: r)) : Own H0 H (b :: a :: r) := by
  obtain ⟨h1, h2⟩ := List.pairwise_cons.1 h.apart
  obtain ⟨h3, h4⟩ := List.pairwise_cons.1 h2
  refine ⟨h.next, h.old, fun e he => h.vec e ?_, fun e he => h.new e ?_, List.pairwise_cons.2 ⟨fun e he j a b => ?_, List.pairwise_cons.2 ⟨fun e he => h1 e (List.mem_cons_of_mem _ he), h4⟩⟩⟩
  · simp only [List.mem_cons] at he ⊢
    rcases he with e | e | e <;> simp [e]
  · simp only [List.mem_cons] at he ⊢
    rcases he with e | e | e <;> simp [e]
  · rcases List.mem_cons.1 he with rfl | he
    · exact h1 _ (List.mem_cons_self ..) j b a
    · exact h3 e he j a b
theorem Own.third {a b c : Sl} (h : Own H0 H (a :: b :: c :: r)) : Own H0 H (c :: a :: b :: r) := by
  -- c to the front
  obtain ⟨h1, h2⟩ := List.pairwise_cons.1 h.apart
  obtain ⟨h3, h4⟩ := List.pairwise_cons.1 h2
  obtain ⟨h5, h6⟩ := List.pairwise_cons.1 h4
  refine ⟨h.next, h.old, fun e he => h.vec e ?_, fun e he => h.new e ?_, List.pairwise_cons.2 ⟨fun e he j x y => ?_, List.pairwise_cons.2 ⟨fun e he => ?_, List.pairwise_cons.2 ⟨fun e he => h3 e (List.mem_cons_of_mem _ he), h6⟩⟩⟩⟩
  · simp only [List.mem_cons] at he ⊢
    rcases he with e | e | e | e <;> simp [e]
  · simp only [List.mem_cons] at he ⊢
    rcases he with e | e | e | e <;> simp [e]
  · rcases List.mem_cons.1 he with rfl | he
    · exact h1 _ (by simp) j y x
    · rcases List.mem_cons.1 he with rfl | he
      · exact h3 _ (by simp) j y x
      · exact h5 e he j x y
  · rcases List.mem_cons.1 he with rfl | he
    · exact h1 _ (by simp)
    · exact h1 e (by simp [he])
/-- The first one changes, the others stay. -/
theorem Own.upd {a a' : Sl} {H' : Hp} (h : Own H0 H (a :: r)) (hv : Vec H' a'.sz a'.v a'.n a'.cs) (hf : Frm (Id a.v) H H') (hi : ∀ j, Id a'.v j → Id a.v j ∨ H.next ≤ j) : Own H0 H' (a' :: r) := by
  obtain ⟨h1, h2⟩ := List.pairwise_cons.1 h.apart
  have hn := h.next
  refine ⟨Nat.le_trans h.next hf.next, fun j hj => ?_, fun e he => ?_, fun e he j hj => ?_, List.pairwise_cons.2 ⟨fun e he j x y => ?_, h2⟩⟩
  · rw [hf.same j (Nat.lt_of_lt_of_le hj h.next) (fun q => by have := h.new a (by simp) j q; omega), h.old j hj]
  · rcases List.mem_cons.1 he with rfl | he
    · exact hv
    · exact (h.vec e (by simp [he])).keep hf fun j x y => h1 e he j y x
  · rcases List.mem_cons.1 he with rfl | he
    · rcases hi j hj with q | q
      · exact h.new a (by simp) j q
      · omega
    · exact h.new e (by simp [he]) j hj
  · rcases hi j x with q | q
    · exact h1 e he j q y
    · have := (h.vec e (by simp [he])).lt y; omega
/-- One more, that is new. -/
theorem Own.add {a : Sl} {H' : Hp} (h : Own H0 H r) (hv : Vec H' a.sz a.v a.n a.cs) (hf : Frm (fun _ => False) H H') (hi : ∀ j, Id a.v j → H.next ≤ j) : Own H0 H' (a :: r) := by
  have hn := h.next
  refine ⟨Nat.le_trans h.next hf.next, fun j hj => ?_, fun e he => ?_, fun e he j hj => ?_, List.pairwise_cons.2 ⟨fun e he j x y => ?_, h.apart⟩⟩
  · rw [hf.same j (Nat.lt_of_lt_of_le hj h.next) (fun q => q), h.old j hj]
  · rcases List.mem_cons.1 he with rfl | he
    · exact hv
    · exact (h.vec e he).keep hf fun j _ q => q
  · rcases List.mem_cons.1 he with rfl | he
    · have := hi j hj; omega
    · exact h.new e he j hj
  · have := hi j x
    have := (h.vec e he).lt y; omega
/-- A call that leaves all as it was. -/
theorem Own.frm {H' : Hp} (h : Own H0 H r) (hf : Frm (fun _ => False) H H') : Own H0 H' r :=
  ⟨Nat.le_trans h.next hf.next, fun j hj => by rw [hf.same j (Nat.lt_of_lt_of_le hj h.next) (fun q => q), h.old j hj], fun e he => (h.vec e he).keep hf fun j _ q => q, h.new, h.apart⟩
theorem Own.toFrm (h : Own H0 H r) : Frm (fun _ => False) H0 H := ⟨h.next, fun j hj _ => h.old j hj⟩
/-- Nothing yet, and a nil slice. -/
theorem Own.addNil (h : Own H0 H r) (sz : Nat) : Own H0 H (⟨sz, .slice none 0 0, 0, []⟩ :: r) := by
  refine ⟨h.next, h.old, fun e he => ?_, fun e he j hj => ?_, List.pairwise_cons.2 ⟨fun e he j x => (by cases x), h.apart⟩⟩
  · rcases List.mem_cons.1 he with rfl | he
    · exact Vec.nil H sz
    · exact h.vec e he
  · rcases List.mem_cons.1 he with rfl | he
    · cases hj
    · exact h.new e he j hj
/-- Push. -/
theorem Own.push (h : Own H0 H (⟨sz, v, n, cs⟩ :: r)) {bytes : Nat} {zs : List Value} {x : Value} (hs : 0 < sz) (hs2 : sz ≤ 2 ^ 24) (hz : zs.length = sz) (hx : (cellsL x).length = sz) (h1 : (cellsL x).all one = true) (hb : (n + 1) * bytes ≤ 2 ^ 47) :
    ∃ v' H', (∀ (α : Type) (k : Value → Hp → Option α), (pBuildSlice sz zs 1 [(0, x)] H fun t H1 => pAppend sz bytes v t H1 k) = k v' H') ∧ Own H0 H' (⟨sz, v', n + 1, cs ++ cellsL x⟩ :: r) := by
  obtain ⟨v', H', e1, e2, e3, e4, _⟩ := h.head.push (bytes := bytes) (zs := zs) hs hs2 hz hx h1 hb
  exact ⟨v', H', e1, h.upd (a' := ⟨sz, v', n + 1, cs ++ cellsL x⟩) e2 e3 e4⟩
/-- Cut. -/
theorem Own.cut (h : Own H0 H (⟨sz, v, n, cs⟩ :: r)) (hcs : cs.all one = true) {m : Nat} (hm : m ≤ n) : ∃ v', (∀ (α : Type) (kd : IntKind) (k : Value → Option α), pSlice sz v none (some (.int kd (m : Int))) k = k v') ∧ Own H0 H (⟨sz, v', m, cs.take (m * sz)⟩ :: r) := by
  obtain ⟨v', e1, e2, e3⟩ := h.head.cut hcs hm
  exact ⟨v', e1, h.upd (a' := ⟨sz, v', m, cs.take (m * sz)⟩) e2 (Frm.refl _ _) fun j q => .inl (e3 j q)⟩
/-- Store. -/
theorem Own.set (h : Own H0 H (⟨sz, v, n, cs⟩ :: r)) {i : Nat} (hi : i < n) : ∃ y, Id v y ∧ (∀ (α : Type) (kd : IntKind) (k : Value → Option α), pIdx sz v (.int kd (i : Int)) k = k (.pointer (some ⟨y, i * sz, none⟩))) ∧
    (∀ (o : Nat) (x : Value), cs[o]? = some x → ∀ (α : Type) (k : Value → Option α), pLoad 1 false H (.pointer (some ⟨y, o, none⟩)) k = k x) ∧
    (∀ (o m : Nat), o + m ≤ n * sz → ∀ (α : Type) (k : Value → Option α), pLoad m true H (.pointer (some ⟨y, o, none⟩)) k = k (.agg ((cs.drop o).take m).toArray)) ∧
    (∀ (o m : Nat) (x : Value), (cellsL x).length = m → o + m ≤ n * sz → (cellsL x).all one = true → ∃ H', (∀ (α : Type) (k : Hp → Option α), pStore m H (.pointer (some ⟨y, o, none⟩)) x k = k H') ∧ Own H0 H' (⟨sz, v, n, spl cs o (cellsL x)⟩ :: r)) := by
  obtain ⟨y, hy, ⟨rest, hg⟩, hix⟩ := h.head.ix hi
  have hl := h.head.size
  dsimp only at hl hy hg hix
  refine ⟨y, hy, hix, fun o x hx α k => ld_cell hg hx k, fun o m ho α k => (by have h2 : o + m ≤ cs.length := (by rw [hl]; exact ho); exact ld_agg hg h2 k), fun o m x hm ho h1 => ?_⟩
  obtain ⟨H', e1, e2, e3, e4⟩ := h.head.set (o := o) hy hm (by dsimp only; omega) h1
  exact ⟨H', e1, h.upd (a' := ⟨sz, v, n, spl cs o (cellsL x)⟩) e2 e3 fun j q => .inl q⟩
theorem Own.make (h : Own H0 H r) {bytes : Nat} {zs : List Value} (hz : zs.length = sz) {n : Nat} (hb : n * bytes ≤ 2 ^ 47) :
    ∃ v H', (∀ (α : Type) (k : Value → Hp → Option α), pMakeSlice sz bytes zs (.int .i64 (n : Int)) (.int .i64 (n : Int)) H k = k v H') ∧ Own H0 H' (⟨sz, v, n, repl n zs⟩ :: r) := by
  obtain ⟨v, e1, e2, e3⟩ := Vec.make H hz hb
  exact ⟨v, _, e1, h.add (a := ⟨sz, v, n, repl n zs⟩) e2 (fr_new _ _ _) fun j q => by have := e3 j q; omega⟩
/-- Writing one cell of a row of cells of one kind. -/
theorem spl_set {α : Type} (f : α → Value) (l : List α) {i : Nat} (hi : i < l.length) (x : α) : spl (l.map f) (i * 1) [f x] = (l.set i x).map f := by
  unfold spl
  rw [Nat.mul_one, List.map_set, List.set_eq_take_append_cons_drop, if_pos (by simpa using hi)]
  simp
end
end Go.AM
/- Naturals by their digits to a base, plainly. -/
set_option linter.unusedVariables false
namespace Go.AM
/-- The digits of a natural to the base b, the lowest first; none of 0. -/
def digs (b : Nat) : Nat → Nat → List Nat
  | 0, _ => []
  | f + 1, n => if n = 0 then [] else n % b :: digs b f (n / b)
def dg (b n : Nat) : List Nat := digs b n n
theorem digs_fuel {b : Nat} (hb : 2 ≤ b) : ∀ (n f g : Nat), n ≤ f → n ≤ g → digs b f n = digs b g n := by
  intro n
  induction n using Nat.strongRecOn with
  | _ n ih =>
    intro f g hf hg
    cases f with
    | zero =>
      have : n = 0 := by omega
      subst this
      cases g with
      | zero => rfl
      | succ g => simp [digs]
    | succ f =>
      cases g with
      | zero =>
        have : n = 0 := by omega
        subst this
        simp [digs]
      | succ g =>
        unfold digs
        by_cases h : n = 0
        · rw [if_pos h, if_pos h]
        · rw [if_neg h, if_neg h]
          have : n / b < n := Nat.div_lt_self (by omega) (by omega)
          rw [ih (n / b) this f g (by omega) (by omega)]
theorem dg_zero (b : Nat) : dg b 0 = [] := rfl
theorem dg_pos {b : Nat} (hb : 2 ≤ b) {n : Nat} (h : n ≠ 0) : dg b n = n % b :: dg b (n / b) := by
  cases n with
  | zero => exact absurd rfl h
  | succ n =>
    have e : digs b (n + 1) (n + 1) = if n + 1 = 0 then [] else (n + 1) % b :: digs b n ((n + 1) / b) := rfl
    show digs b (n + 1) (n + 1) = (n + 1) % b :: digs b ((n + 1) / b) ((n + 1) / b)
    have : (n + 1) / b < n + 1 := Nat.div_lt_self (by omega) (by omega)
    rw [e, if_neg h, digs_fuel hb ((n + 1) / b) n ((n + 1) / b) (by omega) (Nat.le_refl _)]
theorem dg_nil {b : Nat} (hb : 2 ≤ b) {n : Nat} : dg b n = [] ↔ n = 0 := by
  constructor
  · intro h
    rcases Nat.eq_zero_or_pos n with q | q
    · exact q
    · rw [dg_pos hb (by omega)] at h; cases h
  · rintro rfl; rfl
theorem dg_lt {b : Nat} (hb : 2 ≤ b) : ∀ (n : Nat), ∀ x ∈ dg b n, x < b := by
  intro n
  induction n using Nat.strongRecOn with
  | _ n ih =>
    intro x hx
    by_cases h : n = 0
    · subst h; cases hx
    · rw [dg_pos hb h] at hx
      rcases List.mem_cons.1 hx with rfl | hx
      · exact Nat.mod_lt _ (by omega)
      · exact ih (n / b) (Nat.div_lt_self (by omega) (by omega)) x hx
/-- The value of digits. -/
def vl (b : Nat) : List Nat → Nat
  | [] => 0
  | x :: l => x + b * vl b l
theorem vl_dg {b : Nat} (hb : 2 ≤ b) : ∀ (n : Nat), vl b (dg b n) = n := by
  intro n
  induction n using Nat.strongRecOn with
  | _ n ih =>
    by_cases h : n = 0
    · subst h; rfl
    · rw [dg_pos hb h]
      show n % b + b * vl b (dg b (n / b)) = n
      rw [ih (n / b) (Nat.div_lt_self (by omega) (by omega))]
      exact Nat.mod_add_div n b
theorem vl_app (b : Nat) : ∀ (l m : List Nat), vl b (l ++ m) = vl b l + b ^ l.length * vl b m
  | [], m => by simp [vl]
  | x :: l, m => by
    show x + b * vl b (l ++ m) = x + b * vl b l + b ^ (l.length + 1) * vl b m
    rw [vl_app b l m, Nat.mul_add, Nat.pow_succ]
    rw [show b ^ l.length * b * vl b m = b * (b ^ l.length * vl b m) by rw [Nat.mul_comm (b ^ l.length) b, Nat.mul_assoc]]
    omega
theorem vl_lt {b : Nat} (hb : 2 ≤ b) : ∀ (l : List Nat), (∀ x ∈ l, x < b) → vl b l < b ^ l.length
  | [], _ => by simp [vl]
  | x :: l, h => by
    have h1 := h x (List.mem_cons_self ..)
    have h2 := vl_lt hb l fun y hy => h y (List.mem_cons_of_mem _ hy)
    show x + b * vl b l < b ^ (l.length + 1)
    rw [Nat.pow_succ, Nat.mul_comm (b ^ l.length) b]
    have h3 : b * (vl b l + 1) ≤ b * b ^ l.length := Nat.mul_le_mul_left b h2
    rw [Nat.mul_add, Nat.mul_one] at h3
    omega
/-- Digits below the base, the highest not 0, are those of their value. -/
theorem dg_vl {b : Nat} (hb : 2 ≤ b) : ∀ (l : List Nat), (∀ x ∈ l, x < b) → (∀ x, l.getLast? = some x → x ≠ 0) → dg b (vl b l) = l
  | [], _, _ => rfl
  | x :: l, h, hz => by
    have hx := h x (List.mem_cons_self ..)
    have ih := dg_vl hb l (fun y hy => h y (List.mem_cons_of_mem _ hy)) (fun y hy => by
      cases l with
      | nil => cases hy
      | cons z l => exact hz y (by rw [List.getLast?_cons_cons]; exact hy))
    have hne : vl b (x :: l) ≠ 0 := by
      show x + b * vl b l ≠ 0
      cases l with
      | nil =>
        have := hz x rfl
        simp [vl]; exact this
      | cons z l =>
        intro e
        have e2 : vl b (z :: l) = 0 := by
          have : b * vl b (z :: l) = 0 := by omega
          rcases Nat.mul_eq_zero.1 this with q | q
          · omega
          · exact q
        rw [e2] at ih
        cases ih
    rw [dg_pos hb hne]
    have e1 : vl b (x :: l) % b = x := by
      show (x + b * vl b l) % b = x
      rw [Nat.add_mul_mod_self_left]; exact Nat.mod_eq_of_lt hx
    have e2 : vl b (x :: l) / b = vl b l := by
      show (x + b * vl b l) / b = vl b l
      rw [Nat.add_mul_div_left _ _ (by omega), Nat.div_eq_of_lt hx, Nat.zero_add]
    rw [e1, e2, ih]
theorem dg_len_lt {b : Nat} (hb : 2 ≤ b) {n k : Nat} (h : n < b ^ k) : (dg b n).length ≤ k := by
  induction k generalizing n with
  | zero =>
    have : n = 0 := by simpa using h
    subst this; simp [dg_zero]
  | succ k ih =>
    by_cases h0 : n = 0
    · subst h0; simp [dg_zero]
    · rw [dg_pos hb h0, List.length_cons]
      have : n / b < b ^ k := Nat.div_lt_of_lt_mul (by rw [Nat.mul_comm, ← Nat.pow_succ]; exact h)
      have := ih this
      omega
/-- Held against each other: the lengths, then the highest digit that is unlike. -/
theorem dg_len_mono {b : Nat} (hb : 2 ≤ b) : ∀ (m n : Nat), n ≤ m → (dg b n).length ≤ (dg b m).length := by
  intro m
  induction m using Nat.strongRecOn with
  | _ m ih =>
    intro n h
    by_cases h0 : n = 0
    · subst h0; simp [dg_zero]
    · have hm : m ≠ 0 := by omega
      rw [dg_pos hb h0, dg_pos hb hm, List.length_cons, List.length_cons]
      have := ih (m / b) (Nat.div_lt_self (by omega) (by omega)) (n / b) (Nat.div_le_div_right h)
      omega
end Go.AM
/- The abstract machine: the primitives, by rule. -/
set_option linter.unusedVariables false
set_option linter.unusedSimpArgs false
namespace Go.AM
open Go
section
variable {α : Type} {P : Program}
theorem q_brf (x y : Option α) : br false x y = y := rfl
theorem q_brt (x y : Option α) : br true x y = x := rfl
theorem q_head (v : Value) (l : List Value) : (v :: l).headD undef = v := rfl
theorem q_conv (kd k2 : IntKind) (a : Int) (k : Value → Option α) : pConvInt kd (.int k2 a) k = k (.int kd (kd.wrap a)) := rfl
theorem q_slen (s : ByteArray) (H : Hp) (k : Value → Option α) : pLen .str (.string s) H k = k (.int .i64 s.size) := rfl
theorem q_chk {q : Prop} (h : q) (k : Option α) : chk q k = k := by unfold chk; exact if_pos h
theorem q_ext0 (x y : Value) (k : Value → Option α) : pExtract (.tuple #[x, y]) 0 k = k x := rfl
theorem q_ext1 (x y : Value) (k : Value → Option α) : pExtract (.tuple #[x, y]) 1 k = k y := rfl
theorem q_wrap {k : IntKind} {n : Int} (h1 : k.min ≤ n) (h2 : n ≤ k.max) : k.wrap n = n := by
  cases k <;> simp [IntKind.wrap, IntKind.min, IntKind.max, IntKind.signed, IntKind.bits] at * <;> omega
theorem q_i64 {x : Int} (h1 : -9223372036854775808 ≤ x) (h2 : x ≤ 9223372036854775807) : IntKind.i64.wrap x = x := q_wrap (by have : IntKind.i64.min = -9223372036854775808 := rfl; omega) (by have : IntKind.i64.max = 9223372036854775807 := rfl; omega)
theorem q_u64 {x : Int} (h1 : 0 ≤ x) (h2 : x ≤ 18446744073709551615) : IntKind.u64.wrap x = x := q_wrap (by have : IntKind.u64.min = 0 := rfl; omega) (by have : IntKind.u64.max = 18446744073709551615 := rfl; omega)
theorem q_u8 {x : Int} (h1 : 0 ≤ x) (h2 : x ≤ 255) : IntKind.u8.wrap x = x := q_wrap (by have : IntKind.u8.min = 0 := rfl; omega) (by have : IntKind.u8.max = 255 := rfl; omega)
theorem q_rem (T : TypeId) (kd : IntKind) (a b : Nat) (hb : b ≠ 0) (k : Value → Option α) : pBin P .rem T (.int kd (a : Int)) (.int kd (b : Int)) k = k (.int kd ((a % b : Nat) : Int)) := by
  have hb' : ¬ (b : Int) = 0 := by omega
  have : ((a : Int).tmod (b : Int)) = ((a % b : Nat) : Int) := Int.ofNat_tmod a b |>.symm
  have : binV P .rem T (.int kd (a : Int)) (.int kd (b : Int)) = some (.int kd ((a % b : Nat) : Int)) := by
    show (if kd = kd then intOp .rem kd (a : Int) (b : Int) else none) = _
    rw [if_pos rfl]
    unfold intOp
    dsimp only
    rw [if_neg hb', this]
  unfold pBin; rw [this]
theorem q_quo (T : TypeId) (a b : Nat) (hb : b ≠ 0) (ha : a < 18446744073709551616) (k : Value → Option α) : pBin P .quo T (.int .u64 (a : Int)) (.int .u64 (b : Int)) k = k (.int .u64 ((a / b : Nat) : Int)) := by
  have hb' : ¬ (b : Int) = 0 := by omega
  have h1 : ((a : Int).tdiv (b : Int)) = ((a / b : Nat) : Int) := rfl
  have h2 : a / b ≤ a := Nat.div_le_self a b
  have h3 : IntKind.u64.wrap ((a / b : Nat) : Int) = ((a / b : Nat) : Int) := by
    clear h1
    generalize a / b = q at h2
    exact q_u64 (by omega) (by omega)
  have : binV P .quo T (.int .u64 (a : Int)) (.int .u64 (b : Int)) = some (.int .u64 ((a / b : Nat) : Int)) := by
    show (if IntKind.u64 = IntKind.u64 then intOp .quo .u64 (a : Int) (b : Int) else none) = _
    rw [if_pos rfl]
    unfold intOp
    dsimp only
    rw [if_neg hb', h1, h3]
  unfold pBin; rw [this]
theorem q_add (T : TypeId) (a b : Nat) (h : a + b < 18446744073709551616) (k : Value → Option α) : pBin P .add T (.int .u64 (a : Int)) (.int .u64 (b : Int)) k = k (.int .u64 ((a + b : Nat) : Int)) := by
  rw [s_add, q_u64 (by omega) (by omega)]; rfl
theorem q_mul (T : TypeId) (a b : Nat) (h : a * b < 18446744073709551616) (k : Value → Option α) : pBin P .mul T (.int .u64 (a : Int)) (.int .u64 (b : Int)) k = k (.int .u64 ((a * b : Nat) : Int)) := by
  rw [s_mul, ← Int.natCast_mul, q_u64 (by omega) (by omega)]
theorem q_at (s : ByteArray) (i : Nat) (b : UInt8) (h : s.data.toList[i]? = some b) (k : Value → Option α) : pAtStr (.string s) (.int .i64 (i : Int)) k = k (.int .u8 (b.toNat : Int)) := by
  have hi : i < s.data.toList.length := (List.getElem?_eq_some_iff.1 h).1
  have hb : s[i]? = some b := by
    have h1 : s.data[i]? = some b := by rw [← h]; simp
    obtain ⟨h2, h3⟩ := Array.getElem?_eq_some_iff.1 h1
    have h4 : i < s.size := h2
    rw [getElem?_pos s i h4]
    exact congrArg some h3
  have : atStr s (i : Int) = some (.int .u8 (b.toNat : Int)) := by
    unfold atStr
    rw [if_pos (by omega), Int.toNat_natCast, hb]; rfl
  unfold pAtStr
  dsimp only
  rw [this]
theorem q_seql (T : TypeId) (a b : ByteArray) (k : Value → Option α) : pBin P .eql T (.string a) (.string b) k = k (.bool (a.toList == b.toList)) := rfl
theorem q_beql (T : TypeId) (a b : Bool) (hT : P.underlying T = some .bool) (k : Value → Option α) : pBin P .eql T (.bool a) (.bool b) k = k (.bool (a == b)) := by
  have : eqT P Op.maxDepth T (.bool a) (.bool b) = some (a == b) := by
    unfold Op.maxDepth
    simp only [eqT, hT]
  simp only [pBin, binV, eqOp, this]
end
/-- Numbers without a sign, as cells. -/
def u64s (l : List Nat) : List Value := l.map fun (t : Nat) => Value.int .u64 (t : Int)
theorem u64s_len (l : List Nat) : (u64s l).length = l.length := by simp [u64s]
theorem u64s_one (l : List Nat) : (u64s l).all one = true := by simp [u64s, one]
theorem u64s_app (l m : List Nat) : u64s (l ++ m) = u64s l ++ u64s m := by simp [u64s]
theorem u64s_get {l : List Nat} {i : Nat} {t : Nat} (h : l[i]? = some t) : (u64s l)[i]? = some (.int .u64 (t : Int)) := by simp [u64s, h]
theorem Rdb.u64 {H : Hp} {v : Value} {n : Nat} {l : List Nat} (h : Rdb H 1 v n (u64s l)) {i : Nat} {t : Nat} (ht : l[i]? = some t) :
    ∃ y, (∀ (α : Type) (kd : IntKind) (k : Value → Option α), pIdx 1 v (.int kd (i : Int)) k = k (.pointer (some ⟨y, i * 1, none⟩))) ∧ (∀ (α : Type) (k : Value → Option α), pLoad 1 false H (.pointer (some ⟨y, i * 1, none⟩)) k = k (.int .u64 (t : Int))) := by
  have hs := h.size
  rw [u64s_len] at hs
  obtain ⟨y, hy, ⟨rest, own, hg⟩, hix⟩ := h.ix (i := i) (by have := (List.getElem?_eq_some_iff.1 ht).1; omega)
  exact ⟨y, hix, fun α k => ld_cell hg (by rw [Nat.mul_one]; exact u64s_get ht) k⟩
/-- A suffix of digits. -/
theorem dg_drop {b : Nat} (hb : 2 ≤ b) {l : List Nat} {i a : Nat} (h : l.drop i = dg b a) : (a ≠ 0 → l[i]? = some (a % b) ∧ i < l.length) ∧ (a = 0 → l.length ≤ i) ∧ l.drop (i + 1) = dg b (a / b) := by
  by_cases h0 : a = 0
  · subst h0
    have h1 : l.drop i = [] := h
    have h2 : l.length ≤ i := by simpa using h1
    refine ⟨fun q => absurd rfl q, fun _ => h2, ?_⟩
    rw [Nat.zero_div, List.drop_of_length_le (by omega)]; rfl
  · rw [dg_pos hb h0] at h
    have h1 : l[i]? = some (a % b) := by
      have : (l.drop i)[0]? = some (a % b) := by rw [h]; rfl
      rwa [List.getElem?_drop, Nat.add_zero] at this
    have h2 := (List.getElem?_eq_some_iff.1 h1).1
    refine ⟨fun _ => ⟨h1, h2⟩, fun q => absurd q h0, ?_⟩
    have : l.drop (i + 1) = (l.drop i).drop 1 := by rw [List.drop_drop]
    rw [this, h]; rfl
end Go.AM
