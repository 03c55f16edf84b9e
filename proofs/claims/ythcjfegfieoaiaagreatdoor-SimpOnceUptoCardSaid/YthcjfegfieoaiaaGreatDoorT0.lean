/- Part of the proof of SimpOnceUptoCardSaid: see the last file.  -/
import Derived.Calls
import Derived.Test.YthcjfegfieoaiaaGreatDoorProg
import Derived.Shelf.Strings.BuilderX
import Derived.Lib.Strings
import Derived.Lib.Slices
import Derived.Lib.Walk
import Derived.Lib.Builder
import Derived.Lib.AppendStr
import Derived.Lib.UnsafeStr
import Derived.WalkKit
import Derived.Laws.Externs
import Derived.Laws.IdiomCopy
import Derived.KernelRfl
import Derived.Laws.NewBlocks
import Derived.Tactics
import Derived.Laws.Cells
import Derived.Laws.Build
set_option linter.unusedSimpArgs false
set_option linter.unusedVariables false
set_option linter.unusedSectionVars false
set_option linter.constructorNameAsVariable false
set_option maxRecDepth 100000
namespace Go.AM
open Go
inductive AObj where
 |cells (cs:List Value) (own:Bool)
 |map (kv:List (Value×Value))
 |fix (o:Obj)
 deriving Inhabited
structure Hp where
 next:Nat
 get:Nat→Option AObj
 ty:Nat→Option TypeId
def Hp.new(H:Hp)(o:AObj):Hp:=⟨H.next+1,fun i=>if i=H.next then some o else H.get i,H.ty⟩
def Hp.set(H:Hp)(i:Nat)(o:Option AObj):Hp:=⟨H.next,fun j=>if j=i then o else H.get j,H.ty⟩
def Hp.mark(H:Hp)(i:Nat)(T:TypeId):Hp:=⟨H.next,H.get,fun j=>if j=i then some T else H.ty j⟩
inductive Bx where
 |cells (cs:List Value) (ro:Bool)
 |iter (s:ByteArray) (pos:Nat)
 |iterRo (s:ByteArray) (pos:Nat)
 deriving Inhabited
structure St where
 bx:Nat→Option Bx
 hp:Hp
def St.setB(S:St)(d:Nat)(b:Option Bx):St:=⟨fun j=>if j=d then b else S.bx j,S.hp⟩
inductive Slot where
 |unk
 |und
 |val (v:Value)
 |loc (d off:Nat)
 deriving Inhabited
abbrev Fr:=List Slot
def getS(fr:Fr)(t:Nat):Slot:=fr.getD t .unk
def putS(fr:Fr)(d:Option Nat)(s:Slot):Fr:=match d with|some d=>fr.set d s|none=>fr
abbrev zai:=FuncId→List Value→Hp→Option (Value×Hp)
structure Orc where
 loc:FuncId→List Nat
 join:FuncId→Nat→Option (List Nat×List Nat)
 loop:FuncId→Nat→List Nat×List Nat
 xt:FuncId→Option (List Value→Option Value):=fun _=>none
 gt:TypeId→Bool:=fun _=>false
 pan:FuncId→Bool:=fun _=>false
 dfr:FuncId→Bool:=fun _=>false
def zf0:Value→Bool
 |.bool _ | .int _ _ | .string _ | .pointer none | .slice none 0 0 | .map none | .nilFunc | .nilIface=>true
 |_=>false
def zc6:Value→Bool
 |.agg cs=>cs.toList.all zf0
 |.tuple vs=>vs.toList.all zf0
 |v=>zf0 v
def one:Value→Bool
 |.agg _ | .tuple _=>false
 |_=>true
def aggD:TypeDesc→Bool
 |.struct _ | .array _ _=>true
 |_=>false
section
variable {α:Type}
def br(t:Bool)(x y:Option α):Option α:=match t with|true=>x|false=>y
noncomputable def chk(p:Prop)(k:Option α):Option α:=open Classical in if p then k else none
def tyC(P:Program)(T:TypeId)(k:Nat→Bool→Option α):Option α:=
 match P.info? T with
 |none=>none
 |some i=>match P.underlying T with
  |none=>none
  |some d=>k i.size (aggD d)
def zgy(P:Program)(T:TypeId)(k:Value→Option α):Option α:=
 match P.info? T with
 |none=>none
 |some i=>match i.zero with
  |none=>none
  |some z=>match zc6 z with
   |true=>k z
   |false=>none
def zcD(cs:List Value)(off n:Nat)(agg:Bool):Option Value:=
 match agg with
 |true=>if off+n≤cs.length then some (.agg ((cs.drop off).take n).toArray) else none
 |false=>cs[off]?
def Hp.rd(H:Hp)(i off n:Nat)(agg:Bool):Option Value:=
 match H.get i with
 |some (.cells cs _)=>zcD cs off n agg
 |some (.fix (.cells cs _ _))=>match agg with
  |true=>none
  |false=>match cs.toList[off]? with
   |some (.int kd z)=>some (.int kd z)
   |_=>none
 |_=>none
def Hp.rdP(H:Hp)(p:Value)(n:Nat)(agg:Bool):Option Value:=
 match p with
 |.pointer (some ⟨i,off,none⟩)=>H.rd i off n agg
 |_=>none
def zaH(n:Nat)(agg:Bool)(H:Hp)(p:Value)(k:Value→Option α):Option α:=
 match H.rdP p n agg with
 |some v=>k v
 |none=>none
def zaf(n:Nat)(agg:Bool)(cs:List Value)(off:Nat)(k:Value→Option α):Option α:=
 match zcD cs off n agg with
 |some v=>k v
 |none=>none
def spl(cs:List Value)(off:Nat)(vs:List Value):List Value:=cs.take off++vs++cs.drop (off+vs.length)
def zad(v:Value):List Value:=v.cells.toList
def zbV(n:Nat)(cs:List Value)(off:Nat)(v:Value):Option (List Value):=
 if (zad v).length=n∧off+n≤cs.length∧(zad v).all one=true then some (spl cs off (zad v)) else none
def zaE(n:Nat)(cs:List Value)(off:Nat)(v:Value)(k:List Value→Option α):Option α:=
 match zbV n cs off v with
 |some cs'=>k cs'
 |none=>none
def Hp.wr(H:Hp)(p:Value)(n:Nat)(v:Value):Option Hp:=
 match p with
 |.pointer (some ⟨i,off,none⟩)=>
  match H.get i with
  |some (.cells cs true)=>match zbV n cs off v with
   |some cs'=>some (H.set i (some (.cells cs' true)))
   |none=>none
  |_=>none
 |_=>none
def za8(n:Nat)(H:Hp)(p v:Value)(k:Hp→Option α):Option α:=
 match H.wr p n v with
 |some H'=>k H'
 |none=>none
def pNil(v:Value)(k:Option α):Option α:=
 match v with
 |.pointer (some _) | .func (.func _) _ _=>k
 |_=>none
def za5(n:Nat)(p:Value)(k:Value→Option α):Option α:=
 match p with
 |.pointer (some ⟨i,off,none⟩)=>k (.pointer (some ⟨i,off+n,none⟩))
 |_=>none
def zae(v:Value)(k:Bool→Option α):Option α:=
 match v with
 |.bool b=>k b
 |_=>none
def bvOp(op:BinOp)(k:IntKind)(x y:Int):Option Value:=
 let a:=BitVec.ofInt k.bits x
 let b:=BitVec.ofInt k.bits y
 match op with
 |.and=>some (.int k (k.wrap (a&&&b).toNat))
 |.or=>some (.int k (k.wrap (a|||b).toNat))
 |.xor=>some (.int k (k.wrap (a ^^^ b).toNat))
 |.andNot=>some (.int k (k.wrap (a &&& ~~~b).toNat))
 |_=>none
def zeb(op:BinOp)(k:IntKind)(x y:Int):Option Value:=
 match op with
 |.add=>some (.int k (k.wrap (x+y)))
 |.sub=>some (.int k (k.wrap (x-y)))
 |.mul=>some (.int k (k.wrap (x*y)))
 |.quo=>if y=0 then none else some (.int k (k.wrap (x.tdiv y)))
 |.rem=>if y=0 then none else some (.int k (x.tmod y))
 |.eql=>some (.bool (x==y))
 |.neq=>some (.bool (x != y))
 |.lss=>some (.bool (x<y))
 |.leq=>some (.bool (x≤y))
 |.gtr=>some (.bool (x>y))
 |.geq=>some (.bool (x≥y))
 |.and | .or | .xor | .andNot=>bvOp op k x y
 |.shl | .shr=>none
def zol(op:BinOp)(x y:ByteArray):Option Value:=
 match op with
 |.add=>if ((x.size+y.size:Nat):Int)>IntKind.i64.max then none else some (.string (x++y))
 |.eql=>some (.bool (x.toList==y.toList))
 |.neq=>some (.bool !(x.toList==y.toList))
 |.lss=>some (.bool (Op.bytesLess x.toList y.toList))
 |.leq=>some (.bool (Op.bytesLess x.toList y.toList||x.toList==y.toList))
 |.gtr=>some (.bool !(Op.bytesLess x.toList y.toList||x.toList==y.toList))
 |.geq=>some (.bool !(Op.bytesLess x.toList y.toList))
 |_=>none
def shOp(op:BinOp)(k:IntKind)(x y:Int):Option Value:=
 if y<0 then none else
 match op with
 |.shl=>some (.int k (k.wrap (x*2^(min y.toNat k.bits))))
 |.shr=>some (.int k (x.fdiv (2^(min y.toNat k.bits))))
 |_=>none
def znk(P:Program)(t:TypeId)(cs:List Value)(off:Nat):Option Value:=
 match P.info? t,P.underlying t with
 |some i,some d=>match aggD d with
  |true=>some (.agg ((cs.drop off).take i.size).toArray)
  |false=>cs[off]?
 |_,_=>none
def eqFields(P:Program)(c:TypeId→Value→Value→Option Bool)(xs ys:List Value):List Field→Option Bool
 |[]=>some true
 |f::fs=>
  match f.name == "_" with
  |true=>eqFields P c xs ys fs
  |false=>
   match znk P f.type xs f.offset,znk P f.type ys f.offset with
   |some x,some y=>match c f.type x y with
    |some true=>eqFields P c xs ys fs
    |r=>r
   |_,_=>none
def eqT(P:Program):Nat→TypeId→Value→Value→Option Bool
 |0,_,_,_=>none
 |d+1,t,x,y=>
  match P.underlying t,x,y with
  |some .bool,.bool a,.bool b=>some (a==b)
  |some (.int _),.int k a,.int k' b=>if k=k' then some (a==b) else none
  |some .string,.string a,.string b=>some (a==b)
  |some (.pointer _),.pointer none,.pointer b=>some b.isNone
  |some (.pointer _),.pointer _,.pointer none=>some false
  |some (.slice _),.slice none _ _,.slice b _ _=>some b.isNone
  |some (.slice _),.slice _ _ _,.slice none _ _=>some false
  |some (.map _ _),.map none,.map b=>some b.isNone
  |some (.map _ _),.map _,.map none=>some false
  |some (.func _ _ _),.nilFunc,.nilFunc=>some true
  |some (.func _ _ _),.nilFunc,.func _ _ _=>some false
  |some (.func _ _ _),.func _ _ _,.nilFunc=>some false
  |some (.struct fields),.agg xs,.agg ys=>
   match P.stoodInHeld t with
   |true=>none
   |false=>eqFields P (eqT P d) xs.toList ys.toList fields.toList
  |_,_,_=>none
end
section
variable {α:Type}
def zkm(place:Nat→Option (Nat×Nat))(cells:List Value):List (Nat×Value)→Option (List Value)
 |[]=>some cells
 |(i,v)::rest=>
  match place i with
  |none=>none
  |some (off,size)=>
   if (zad v).length=size∧off+size≤cells.length∧(zad v).all one=true then zkm place (spl cells off (zad v)) rest else none
def ziZ(P:Program):List Field→Option (List (Nat×Nat))
 |[]=>some []
 |f::fs=>match P.info? f.type with
  |none=>none
  |some i=>match ziZ P fs with
   |none=>none
   |some r=>some ((f.offset,i.size)::r)
def zoF(l:List (Nat×Nat))(i:Nat):Option (Nat×Nat):=l[i]?
def zn1(P:Program)(t:TypeId)(parts:List (Nat×Value)):Option Value:=
 zgy P t fun z=>
  match P.underlying t with
  |some (.struct fields)=>match ziZ P fields.toList with
   |none=>none
   |some l=>match zkm (zoF l) (zad z) parts with
    |some cs=>some (.agg cs.toArray)
    |none=>none
  |some (.array _ elem)=>match P.info? elem with
   |none=>none
   |some i=>match zkm (fun j=>some (j*i.size,i.size)) (zad z) parts with
    |some cs=>some (.agg cs.toArray)
    |none=>none
  |_=>none
def zbe(P:Program)(t:TypeId)(parts:List (Nat×Value))(k:Value→Option α):Option α:=
 match zn1 P t parts with
 |some v=>k v
 |none=>none
def repl(n:Nat)(zs:List Value):List Value:=match n with|0=>[]|n+1=>zs++repl n zs
def zg1(P:Program)(t:TypeId)(k:Nat→Nat→List Value→Option α):Option α:=
 match P.underlying t with
 |some (.slice e)=>match P.info? e with
  |none=>none
  |some i=>zgy P e fun z=>if i.size=0∨i.bytes=0∨(zad z).length≠i.size∨((zad z).all one)=false then none else k i.size i.bytes (zad z)
 |_=>none
def zbP(sz:Nat)(zs:List Value)(len:Nat)(parts:List (Nat×Value))(H:Hp):Option (Value×Hp):=
 if len*sz>2^24 then none else
 match zkm (fun i=>some (i*sz,sz)) (repl len zs) parts with
 |some cs=>some (.slice (some ⟨H.next,0,some sz⟩) len len,H.new (.cells cs true))
 |none=>none
def zaP(sz:Nat)(zs:List Value)(len:Nat)(parts:List (Nat×Value))(H:Hp)(k:Value→Hp→Option α):Option α:=
 match zbP sz zs len parts H with
 |some (v,H')=>k v H'
 |none=>none
def zeq(sz bytes:Nat)(zs:List Value)(l c:Value)(H:Hp):Option (Value×Hp):=
 match l,c with
 |.int .i64 n,.int .i64 m=>if 0≤n∧n≤m∧m*bytes≤2^47 then
   some (.slice (some ⟨H.next,0,some sz⟩) n.toNat m.toNat,H.new (.cells (repl m.toNat zs) true)) else none
 |_,_=>none
def zcj(sz bytes:Nat)(zs:List Value)(l c:Value)(H:Hp)(k:Value→Hp→Option α):Option α:=
 match zeq sz bytes zs l c H with
 |some (v,H')=>k v H'
 |none=>none
def zeY(cs:List Value)(H:Hp)(k:Value→Hp→Option α):Option α:=
 k (.pointer (some ⟨H.next,0,none⟩)) (H.new (.cells cs true))
def zmj(T:TypeId)(cs:List Value)(H:Hp)(k:Value→Hp→Option α):Option α:=k (.pointer (some ⟨H.next,0,none⟩)) ((H.new (.cells cs true)).mark H.next T)
def zmk(g:Bool)(T:TypeId)(cs:List Value)(H:Hp)(k:Value→Hp→Option α):Option α:=
 match g with
 |true=>zmj T cs H k
 |false=>zeY cs H k
def zcG(H:Hp)(k:Value→Hp→Option α):Option α:=k (.map (some H.next)) (H.new (.map []))
def zdz(d:Nat):Option Value→Option Int
 |none=>some d
 |some (.int _ n)=>some n
 |_=>none
def zmU(x:Value)(lo hi:Option Value):Option Value:=
 match x with
 |.string s=>match zdz 0 lo,zdz s.size hi with
  |some l,some h=>if 0≤l∧l≤h∧h≤s.size then some (.string (s.extract l.toNat h.toNat)) else none
  |_,_=>none
 |_=>none
def zk7(sz:Nat)(x:Value)(lo hi:Option Value):Option Value:=
 match x with
 |.slice none 0 0=>match zdz 0 lo,zdz 0 hi with
  |some l,some h=>if l=0∧h=0 then some (.slice none 0 0) else none
  |_,_=>none
 |.slice (some ⟨i,o,some z⟩) n c=>match zdz 0 lo,zdz n hi with
  |some l,some h=>if z=sz∧0≤l∧l≤h∧h≤c then some (.slice (some ⟨i,o+l.toNat*sz,some sz⟩) (h-l).toNat (c-l.toNat)) else none
  |_,_=>none
 |_=>none
def zdx(x:Value)(lo hi:Option Value)(k:Value→Option α):Option α:=
 match zmU x lo hi with
 |some v=>k v
 |none=>none
def zgk(sz:Nat)(x:Value)(lo hi:Option Value)(k:Value→Option α):Option α:=
 match zk7 sz x lo hi with
 |some v=>k v
 |none=>none
def zjg(len sz:Nat)(x:Value)(lo hi:Option Value)(H:Hp):Option Value:=
 match x with
 |.pointer (some ⟨i,o,none⟩)=>match H.get i with
  |some (.cells cs true)=>match zdz 0 lo,zdz len hi with
   |some l,some h=>if o+len*sz≤cs.length∧0≤l∧l≤h∧h≤len then some (.slice (some ⟨i,o+l.toNat*sz,some sz⟩) (h-l).toNat (len-l.toNat)) else none
   |_,_=>none
  |_=>none
 |_=>none
def zb5(len sz:Nat)(x:Value)(lo hi:Option Value)(H:Hp)(k:Value→Option α):Option α:=
 match zjg len sz x lo hi H with
 |some v=>k v
 |none=>none
def idxV(sz:Nat)(x ix:Value):Option Value:=
 match x,ix with
 |.slice (some ⟨i,o,some z⟩) n _,.int _ j=>if z=sz∧0≤j∧j<n then some (.pointer (some ⟨i,o+j.toNat*sz,none⟩)) else none
 |_,_=>none
def pIdx(sz:Nat)(x ix:Value)(k:Value→Option α):Option α:=
 match idxV sz x ix with
 |some v=>k v
 |none=>none
def zbH(len sz:Nat)(x ix:Value)(k:Value→Option α):Option α:=
 match x,ix with
 |.pointer (some ⟨i,o,none⟩),.int _ j=>if 0≤j∧j<len then k (.pointer (some ⟨i,o+j.toNat*sz,none⟩)) else none
 |_,_=>none
def zb9(len:Nat)(ix:Value)(k:Nat→Option α):Option α:=
 match ix with
 |.int _ j=>if 0≤j∧j<len then k j.toNat else none
 |_=>none
def zq9(s:ByteArray)(j:Int):Option Value:=if 0≤j then (s[j.toNat]?).map (fun b=>.int .u8 (b.toNat:Int)) else none
def zbg(x ix:Value)(k:Value→Option α):Option α:=
 match x,ix with
 |.string s,.int _ j=>match zq9 s j with
  |some v=>k v
  |none=>none
 |_,_=>none
def partC(agg:Bool)(n:Nat)(cs:List Value)(off:Nat):Option Value:=
 match agg with
 |true=>some (.agg ((cs.drop off).take n).toArray)
 |false=>cs[off]?
def zd9(agg:Bool)(n off:Nat)(x:Value)(k:Value→Option α):Option α:=
 match x with
 |.agg cs=>match partC agg n cs.toList off with
  |some v=>k v
  |none=>none
 |_=>none
def zen(len:Nat)(agg:Bool)(n:Nat)(x ix:Value)(k:Value→Option α):Option α:=
 match ix with
 |.int _ j=>if 0≤j∧j<len then zd9 agg n (j.toNat*n) x k else none
 |_=>none
def zmB(t:Value)(i:Nat):Option Value:=
 match t with
 |.tuple vs=>vs.toList[i]?
 |_=>none
def zaa(t:Value)(i:Nat)(k:Value→Option α):Option α:=
 match zmB t i with
 |some v=>k v
 |none=>none
def zbA(sz:Nat)(x:Value)(H:Hp):Option (Nat×List Value):=
 match x with
 |.slice none 0 0=>some (0,[])
 |.slice (some ⟨i,o,some z⟩) n _=>if z=sz then
   match H.get i with
   |some (.cells cs _)=>if o+n*sz≤cs.length then some (n,(cs.drop o).take (n*sz)) else none
   |_=>none else none
 |.string s=>if sz=1 then some (s.size,s.data.toList.map fun b=>.int .u8 (b.toNat:Int)) else none
 |_=>none
def zbc(sz bytes:Nat)(s x:Value)(H:Hp):Option (Value×Hp):=
 match zbA sz x H with
 |none=>none
 |some (m,new)=>
  match s with
  |.slice none 0 0=>
   if m=0 then some (.slice none 0 0,H)
   else if m*bytes≤2^47∧new.all one=true then some (.slice (some ⟨H.next,0,some sz⟩) m m,H.new (.cells new true)) else none
  |.slice (some ⟨i,o,some z⟩) n c=>
   if z≠sz then none else
   if m=0∧n≤c then some (s,H)
   else match H.get i with
    |some (.cells cs true)=>
     if n+m≤c then
      if o+(n+m)*sz≤cs.length∧new.all one=true then some (.slice (some ⟨i,o,some sz⟩) (n+m) c,H.set i (some (.cells (spl cs (o+n*sz) new) true))) else none
     else if o+n*sz≤cs.length∧(n+m)*bytes≤2^47∧new.all one=true then
      some (.slice (some ⟨H.next,0,some sz⟩) (n+m) (n+m),(H.set i none).new (.cells ((cs.drop o).take (n*sz)++new) true))
     else none
    |_=>none
  |_=>none
def zbb(sz bytes:Nat)(s x:Value)(H:Hp)(k:Value→Hp→Option α):Option α:=
 match zbc sz bytes s x H with
 |some (v,H')=>k v H'
 |none=>none
def zku(e:TypeId)(s:Value)(H:Hp):Bool:=
 match s with
 |.slice none 0 0=>true
 |.slice (some ⟨i,0,some _⟩) _ (_+1)=>match H.ty i with
  |some T=>Nat.beq T e
  |none=>false
 |_=>false
def zqM(e:TypeId)(s:Value)(H H':Hp):Hp:=
 match Nat.beq H'.next (H.next+1)&&zku e s H with
 |true=>H'.mark H.next e
 |false=>H'
def zbG(e:TypeId)(sz bytes:Nat)(s x:Value)(H:Hp)(k:Value→Hp→Option α):Option α:=
 match zbc sz bytes s x H with
 |some (v,H')=>k v (zqM e s H H')
 |none=>none
def zhm(g:Option TypeId)(sz bytes:Nat)(s x:Value)(H:Hp)(k:Value→Hp→Option α):Option α:=
 match g with
 |some e=>zbG e sz bytes s x H k
 |none=>zbb sz bytes s x H k
def copyV(sz:Nat)(d x:Value)(H:Hp):Option (Value×Hp):=
 match zbA sz x H,d with
 |some (_,_),.slice none 0 0=>some (.int .i64 0,H)
 |some (m,new),.slice (some ⟨i,o,some z⟩) n _=>
  if z≠sz then none else
  match H.get i with
  |some (.cells cs true)=>
   if o+min m n*sz≤cs.length∧new.all one=true then some (.int .i64 (min m n:Nat),H.set i (some (.cells (spl cs o (new.take (min m n*sz))) true))) else none
  |_=>none
 |_,_=>none
def pCopy(sz:Nat)(d x:Value)(H:Hp)(k:Value→Hp→Option α):Option α:=
 match copyV sz d x H with
 |some (v,H')=>k v H'
 |none=>none
inductive LenK where
 |str|sl|mp
def lenK:TypeDesc→Option LenK
 |.string=>some .str
 |.slice _=>some .sl
 |.map _ _=>some .mp
 |_=>none
def lenV(q:LenK)(x:Value)(H:Hp):Option Value:=
 match q,x with
 |.str,.string s=>some (.int .i64 s.size)
 |.sl,.slice _ n _=>some (.int .i64 n)
 |.mp,.map none=>some (.int .i64 0)
 |.mp,.map (some i)=>match H.get i with
  |some (.map kv)=>some (.int .i64 kv.length)
  |_=>none
 |_,_=>none
def pLen(q:LenK)(x:Value)(H:Hp)(k:Value→Option α):Option α:=
 match lenV q x H with
 |some v=>k v
 |none=>none
def zgT:List Value→Option (List UInt8)
 |[]=>some []
 |.int .u8 n::r=>match zgT r with
  |some l=>some (UInt8.ofNat n.toNat::l)
  |none=>none
 |_=>none
def zmQ(x:Value)(H:Hp):Option Value:=
 match x with
 |.slice none _ _=>some (.string ⟨#[]⟩)
 |.slice (some a) n c=>match zbA 1 (.slice (some a) n c) H with
  |some (_,cs)=>match zgT cs with
   |some l=>some (.string ⟨l.toArray⟩)
   |none=>none
  |none=>none
 |_=>none
def zdM(x:Value)(H:Hp)(k:Value→Option α):Option α:=
 match zmQ x H with
 |some v=>k v
 |none=>none
def zeN(x:Value)(H:Hp)(k:Value→Hp→Option α):Option α:=
 match x with
 |.string s=>if s.size≤2^47 then k (.slice (some ⟨H.next,0,some 1⟩) s.size s.size) (H.new (.cells (s.data.toList.map fun b=>.int .u8 (b.toNat:Int)) true)) else none
 |_=>none
def keyOk(P:Program):Nat→TypeId→Bool
 |0,_=>false
 |d+1,t=>match P.underlying t with
  |some .bool|some (.int _)|some .string=>true
  |some (.struct fs)=>fs.toList.all fun f=>keyOk P d f.type&&((P.info? f.type).isSome)
  |_=>false
def zfU(P:Program)(kt:TypeId)(key:Value):List (Value×Value)→Nat→Option (Option (Nat×Value))
 |[],_=>some none
 |(k,v)::r,i=>match eqT P 10000 kt key k with
  |some true=>some (some (i,v))
  |some false=>zfU P kt key r (i+1)
  |none=>none
def zqO(m:Value)(H:Hp):Option (List (Value×Value)):=
 match m with
 |.map none=>some []
 |.map (some i)=>match H.get i with
  |some (.map kv)=>some kv
  |_=>none
 |_=>none
def pHint(x:Value)(k:Option α):Option α:=
 match x with
 |.int _ _=>k
 |_=>none
def mapC(P:Program)(T:TypeId)(k:TypeId→Value→Option α):Option α:=
 match P.underlying T with
 |some (.map kt et)=>match keyOk P 20 kt with
  |true=>zgy P et fun z=>k kt z
  |false=>none
 |_=>none
def zd7(P:Program):Nat→TypeId→Value→Bool
 |0,_,_=>false
 |d+1,t,v=>match P.underlying t,v with
  |some .bool,.bool _=>true
  |some (.int _),.int _ _=>true
  |some .string,.string _=>true
  |some (.struct fs),.agg cs=>fs.toList.all fun f=>match znk P f.type cs.toList f.offset with
   |some x=>zd7 P d f.type x
   |none=>false
  |_,_=>false
def lookV(P:Program)(kt:TypeId)(z m key:Value)(H:Hp):Option (Value×Bool):=
 if zd7 P 20 kt key=true then
 match zqO m H with
 |none=>none
 |some kv=>match zfU P kt key kv 0 with
  |some (some (_,v))=>some (v,true)
  |some none=>some (z,false)
  |none=>none
 else none
def zc3(P:Program)(kt:TypeId)(z m key:Value)(ok:Bool)(H:Hp)(k:Value→Option α):Option α:=
 match lookV P kt z m key H with
 |some (v,b)=>match ok with
  |true=>k (.tuple #[v,.bool b])
  |false=>k v
 |none=>none
def zkR(kv:List (Value×Value))(i:Nat)(key v:Value):List (Value×Value):=kv.set i (key,v)
def updV(P:Program)(kt:TypeId)(m key v:Value)(H:Hp):Option Hp:=
 if zd7 P 20 kt key=true then
 match m with
 |.map (some i)=>match H.get i with
  |some (.map kv)=>match zfU P kt key kv 0 with
   |some (some (j,_))=>match kv[j]? with
    |some (k0,_)=>if Instr.sameBits 10000 k0 key=true then some (H.set i (some (.map (zkR kv j key v)))) else none
    |none=>none
   |some none=>some (H.set i (some (.map (kv++[(key,v)]))))
   |none=>none
  |_=>none
 |_=>none
 else none
def pUpd(P:Program)(kt:TypeId)(m key v:Value)(H:Hp)(k:Hp→Option α):Option α:=
 match updV P kt m key v H with
 |some H'=>k H'
 |none=>none
def delV(P:Program)(kt:TypeId)(m key:Value)(H:Hp):Option Hp:=
 if zd7 P 20 kt key=true then
 match m with
 |.map none=>some H
 |.map (some i)=>match H.get i with
  |some (.map kv)=>match zfU P kt key kv 0 with
   |some (some (j,_))=>some (H.set i (some (.map (kv.eraseIdx j))))
   |some none=>some H
   |none=>none
  |_=>none
 |_=>none
 else none
def pDel(P:Program)(kt:TypeId)(m key:Value)(H:Hp)(k:Hp→Option α):Option α:=
 match delV P kt m key H with
 |some H'=>k H'
 |none=>none
def eqOp(P:Program)(T:TypeId)(x y:Value):Option Bool:=
 match x,y with
 |.agg _,.agg _=>match P.eqGuardType P.depth T with
  |true=>none
  |false=>eqT P Op.maxDepth T x y
 |.nilIface,_=>none
 |.iface tx vx,.iface ty vy=>match P.underlying T with
  |some (.interface _)=>match Nat.beq tx ty with
   |false=>some false
   |true=>match P.info? tx with
    |some i=>match i.comparable with
     |true=>eqT P (Op.maxDepth-1) tx vx vy
     |false=>none
    |none=>none
  |_=>none
 |.bool _,.bool _ | .pointer _,.pointer _ | .slice _ _ _,.slice _ _ _ | .map _,.map _ | .nilFunc,.nilFunc | .nilFunc,.func _ _ _ | .func _ _ _,.nilFunc=>eqT P Op.maxDepth T x y
 |_,_=>none
def binV(P:Program)(op:BinOp)(T:TypeId)(x y:Value):Option Value:=
 match x,y with
 |.int k a,.int k' b=>match op with
  |.shl | .shr=>shOp op k a b
  |_=>if k=k' then zeb op k a b else none
 |.string a,.string b=>zol op a b
 |x,y=>match op with
  |.eql=>match eqOp P T x y with
   |some b=>some (.bool b)
   |none=>none
  |.neq=>match eqOp P T x y with
   |some b=>some (.bool !b)
   |none=>none
  |_=>none
def pBin(P:Program)(op:BinOp)(T:TypeId)(x y:Value)(k:Value→Option α):Option α:=
 match binV P op T x y with
 |some v=>k v
 |none=>none
def unV(op:UnOp)(x:Value):Option Value:=
 match op,x with
 |.neg,.int k n=>some (.int k (k.wrap (0-n)))
 |.xor,.int k n=>bvOp .xor k (if k.signed then -1 else k.max) n
 |.not,.bool b=>some (.bool !b)
 |_,_=>none
def pUn(op:UnOp)(x:Value)(k:Value→Option α):Option α:=
 match unV op x with
 |some v=>k v
 |none=>none
def zmE(kd:IntKind)(x:Value):Option Value:=
 match x with
 |.int _ n=>some (.int kd (kd.wrap n))
 |_=>none
def zav(kd:IntKind)(x:Value)(k:Value→Option α):Option α:=
 match zmE kd x with
 |some v=>k v
 |none=>none
def zoI(x:Value)(k:Value→Option α):Option α:=
 match x with
 |.int _ n=>k (.string (Utf8.encode n))
 |_=>none
def pStr(x:Value)(k:Value→Option α):Option α:=
 match x with
 |.string _=>k x
 |_=>none
def mm(mx:Bool)(x y:Value):Option Value:=
 match x,y with
 |.int k a,.int _ b=>some (.int k (match mx with|true=>if b>a then b else a|false=>if b<a then b else a))
 |_,_=>none
def mmL(mx:Bool)(x:Value):List Value→Option Value
 |[]=>some x
 |y::r=>match mm mx x y with
  |some z=>mmL mx z r
  |none=>none
def pMM(mx:Bool)(vs:List Value)(k:Value→Option α):Option α:=
 match vs with
 |[]=>none
 |x::r=>match mmL mx x r with
  |some v=>k v
  |none=>none
def zab(h:zai)(g:FuncId)(args:List Value)(H:Hp)(k:Value→Hp→Option α):Option α:=
 match h g args H with
 |some (v,H')=>k v H'
 |none=>none
abbrev W1(v:Value):Value:=.tuple #[.bool true,v]
abbrev W0(v:Value):Value:=.tuple #[.bool false,v]
def zhj(v:Value)(k kp:Value→Option α):Option α:=
 match v with
 |.tuple ⟨[.bool true,u]⟩=>k u
 |.tuple ⟨[.bool false,x]⟩=>kp x
 |_=>none
def zhl(h:zai)(g:FuncId)(args:List Value)(H:Hp)(k:Value→Hp→Option α):Option α:=
 match h g args H with
 |some (v,H')=>zhj v (fun u=>k u H') (fun _=>none)
 |none=>none
def zjZ(h:zai)(g:FuncId)(args:List Value)(H:Hp)(kp k:Value→Hp→Option α):Option α:=
 match h g args H with
 |some (v,H')=>zhj v (fun u=>k u H') (fun x=>kp x H')
 |none=>none
def zno(v:Value)(k:Option α):Option α:=
 match v with
 |.iface _ _=>k
 |_=>none
def zgd(O:Orc)(h:zai)(fv:Value)(vs:List Value)(H:Hp)(k:Value→Hp→Option α):Option α:=
 match fv with
 |.func (.func g) first captured=>match O.pan g with
  |false=>zab h g (first.toList++(vs++captured.toList)) H k
  |true=>zhl h g (first.toList++(vs++captured.toList)) H k
 |_=>none
def zp7:Operand→Bool
 |.const .nilIface=>true
 |_=>false
def zle(P:Program)(op:BinOp)(T:TypeId)(x:Value)(k:Value→Option α):Option α:=
 match P.underlying T with
 |some (.interface _)=>match op,x with
  |.eql,.nilIface=>k (.bool true)
  |.eql,.iface _ _=>k (.bool false)
  |.neq,.nilIface=>k (.bool false)
  |.neq,.iface _ _=>k (.bool true)
  |_,_=>none
 |_=>none
def zj1(P:Program)(T:TypeId)(x:Value)(k:Value→Option α):Option α:=
 match P.underlying T with
 |some (.interface _)=>none
 |some _=>match x with
  |.iface t v=>match Nat.beq t T with
   |true=>k v
   |false=>none
  |_=>none
 |none=>none
def znH(P:Program)(T:TypeId)(k:Option α):Option α:=
 match P.underlying T with
 |some (.interface _)=>none
 |some _=>k
 |none=>none
def ev(G:Nat)(fr:Fr):Operand→Slot
 |.tmp t=>getS fr t
 |.const v=>match zc6 v with
  |true=>.val v
  |false=>.unk
 |.global g=>match Nat.blt g G with
  |true=>.val (.pointer (some ⟨g,0,none⟩))
  |false=>.unk
 |.func f=>.val (.func (.func f) #[] #[])
def sV(s:Slot)(k:Value→Option α):Option α:=
 match s with
 |.val v=>k v
 |_=>none
def evs(G:Nat)(fr:Fr):List Operand→(List Value→Option α)→Option α
 |[],k=>k []
 |x::xs,k=>sV (ev G fr x) fun v=>evs G fr xs fun vs=>k (v::vs)
def optV(G:Nat)(fr:Fr)(x:Option Operand)(k:Option Value→Option α):Option α:=
 match x with
 |none=>k none
 |some x=>sV (ev G fr x) fun v=>k (some v)
def sel(t:Bool)(x y:Value):Value:=match t with|true=>x|false=>y
def zqG(x:Value)(k:ByteArray→Option α):Option α:=
 match x with
 |.string s=>k s
 |_=>none
structure Ctx where
 P:Program
 O:Orc
 h:zai
 f:FuncId
def gtOf(P:Program)(O:Orc)(t:TypeId):Option TypeId:=
 match P.underlying t with
 |some (.slice e)=>match O.gt e with
  |true=>some e
  |false=>none
 |_=>none
def zcU(C:Ctx)(S:St)(d:Option Nat)(T:TypeId)(cs:List Value)(k:Slot→St→Option α):Option α:=
 match d with
 |some d=>match (C.O.loc C.f).elem d with
  |true=>match S.bx d with
   |some _=>none
   |none=>k (.loc d 0) (S.setB d (some (.cells cs false)))
  |false=>zmk (C.O.gt T) T cs S.hp fun v H=>k (.val v) ⟨S.bx,H⟩
 |none=>none
def opC(C:Ctx)(fr:Fr)(S:St)(o:Oper)(k:Slot→St→Option α):Option α:=
 let G:=C.P.globals.size
 match o.op with
 |.move x | .assign x=>k (ev G fr x) S
 |.pick c a b=>sV (ev G fr c) fun c=>zae c fun t=>
   match ev G fr a,ev G fr b with
   |.val x,.val y=>k (.val (sel t x y)) S
   |sa,sb=>match t with
    |true=>k sa S
    |false=>k sb S
 |.alloc T=>zgy C.P T fun z=>match (zad z).all one with
   |true=>zcU C S o.dst T (zad z) k
   |false=>none
 |.box T x=>sV (ev G fr x) fun v=>zcU C S o.dst T (zad v) k
 |.build T parts=>evs G fr (parts.toList.map (·.2)) fun vs=>zbe C.P T ((parts.toList.map (·.1)).zip vs) fun v=>k (.val v) S
 |.buildSlice T len parts=>evs G fr (parts.toList.map (·.2)) fun vs=>zg1 C.P T fun sz _ zs=>
   zaP sz zs len ((parts.toList.map (·.1)).zip vs) S.hp fun v H=>k (.val v) ⟨S.bx,H⟩
 |.load T a=>tyC C.P T fun n agg=>match ev G fr a with
   |.loc d off=>match S.bx d with
    |some (.cells cs _)=>zaf n agg cs off fun v=>k (.val v) S
    |_=>none
   |.val p=>zaH n agg S.hp p fun v=>k (.val v) S
   |_=>none
 |.store T a x=>sV (ev G fr x) fun v=>tyC C.P T fun n _=>match ev G fr a with
   |.loc d off=>match S.bx d with
    |some (.cells cs false)=>zaE n cs off v fun cs'=>k .unk (S.setB d (some (.cells cs' false)))
    |_=>none
   |.val p=>za8 n S.hp p v fun H=>k .unk ⟨S.bx,H⟩
   |_=>none
 |.nilCheck x=>match ev G fr x with
   |.loc d off=>k (.loc d off) S
   |.val v=>pNil v (k (.val v) S)
   |_=>none
 |.binOp op T x y _=>sV (ev G fr x) fun x=>sV (ev G fr y) fun v=>match zp7 y with
   |true=>zle C.P op T x fun v=>k (.val v) S
   |false=>pBin C.P op T x v fun v=>k (.val v) S
 |.unOp op _ x=>sV (ev G fr x) fun x=>pUn op x fun v=>k (.val v) S
 |.convert src dst x=>sV (ev G fr x) fun x=>
   match C.P.underlying src,C.P.underlying dst with
   |some (.int _),some (.int kd)=>zav kd x fun v=>k (.val v) S
   |some .string,some .string=>pStr x (fun v=>k (.val v) S)
   |some (.int _),some .string=>zoI x fun v=>k (.val v) S
   |some .string,some (.slice e)=>match C.P.underlying e with
    |some (.int .u8)=>zeN x S.hp fun v H=>k (.val v) ⟨S.bx,H⟩
    |_=>none
   |some (.slice e),some .string=>match C.P.underlying e with
    |some (.int .u8)=>zdM x S.hp fun v=>k (.val v) S
    |_=>none
   |_,_=>none
 |.makeFunc fn first captured=>evs G fr first.toList fun fs=>evs G fr captured.toList fun cs=>k (.val (.func fn fs.toArray cs.toArray)) S
 |.makeMap _ none=>zcG S.hp fun v H=>k (.val v) ⟨S.bx,H⟩
 |.makeMap T (some x)=>sV (ev G fr x) fun x=>mapC C.P T fun _ _=>pHint x (zcG S.hp fun v H=>k (.val v) ⟨S.bx,H⟩)
 |.makeSlice T l c=>sV (ev G fr l) fun l=>sV (ev G fr c) fun c=>zg1 C.P T fun sz bytes zs=>
   zcj sz bytes zs l c S.hp fun v H=>k (.val v) ⟨S.bx,H⟩
 |.slice T x lo hi none=>sV (ev G fr x) fun x=>optV G fr lo fun lo=>optV G fr hi fun hi=>
   match C.P.underlying T with
   |some .string=>zdx x lo hi fun v=>k (.val v) S
   |some (.slice e)=>match C.P.info? e with
    |some i=>zgk i.size x lo hi fun v=>k (.val v) S
    |none=>none
   |some (.array n e)=>match C.P.info? e with
    |some i=>zb5 n i.size x lo hi S.hp fun v=>k (.val v) S
    |none=>none
   |_=>none
 |.fieldAddr T x f=>match C.P.underlying T with
   |some (.struct fs)=>match fs.toList[f]? with
    |some fd=>match C.P.info? fd.type with
     |some i=>match Nat.beq i.size 0 with
      |true=>none
      |false=>match ev G fr x with
       |.loc d off=>k (.loc d (off+fd.offset)) S
       |.val p=>za5 fd.offset p fun v=>k (.val v) S
       |_=>none
     |none=>none
    |none=>none
   |_=>none
 |.field T x f=>sV (ev G fr x) fun x=>match C.P.underlying T with
   |some (.struct fs)=>match fs.toList[f]? with
    |some fd=>tyC C.P fd.type fun n agg=>zd9 agg n fd.offset x fun v=>k (.val v) S
    |none=>none
   |_=>none
 |.indexAddr T x i=>sV (ev G fr i) fun i=>match C.P.underlying T with
   |some (.slice e)=>match C.P.info? e with
    |some ti=>sV (ev G fr x) fun x=>pIdx ti.size x i fun v=>k (.val v) S
    |none=>none
   |some (.array len e)=>match C.P.info? e with
    |some ti=>match ev G fr x with
     |.loc d off=>zb9 len i fun j=>k (.loc d (off+j*ti.size)) S
     |.val p=>zbH len ti.size p i fun v=>k (.val v) S
     |_=>none
    |none=>none
   |_=>none
 |.index T x i=>sV (ev G fr x) fun x=>sV (ev G fr i) fun i=>match C.P.underlying T with
   |some .string=>zbg x i fun v=>k (.val v) S
   |some (.array len e)=>tyC C.P e fun n agg=>zen len agg n x i fun v=>k (.val v) S
   |_=>none
 |.lookup T m key ok=>sV (ev G fr m) fun m=>sV (ev G fr key) fun key=>mapC C.P T fun kt z=>
   zc3 C.P kt z m key ok S.hp fun v=>k (.val v) S
 |.mapUpdate T m key x=>sV (ev G fr m) fun m=>sV (ev G fr key) fun key=>sV (ev G fr x) fun x=>mapC C.P T fun kt _=>
   pUpd C.P kt m key x S.hp fun H=>k .unk ⟨S.bx,H⟩
 |.insert T m key x=>sV (ev G fr m) fun m=>sV (ev G fr key) fun key=>sV (ev G fr x) fun x=>mapC C.P T fun kt _=>
   pUpd C.P kt m key x S.hp fun H=>k .unk ⟨S.bx,H⟩
 |.extract t i=>sV (ev G fr t) fun t=>zaa t i fun v=>k (.val v) S
 |.makeInterface T x=>sV (ev G fr x) fun v=>znH C.P T (k (.val (.iface T v)) S)
 |.typeAssert x _ T ok=>sV (ev G fr x) fun x=>zj1 C.P T x fun v=>match ok with
   |true=>k (.val (.tuple #[v,.bool true])) S
   |false=>k (.val v) S
 |.range T x=>sV (ev G fr x) fun x=>match C.P.underlying T,o.dst with
   |some .string,some d=>match S.bx d with
    |some _=>none
    |none=>zqG x fun s=>k (.loc d 0) (S.setB d (some (.iter s 0)))
   |_,_=>none
 |.next it true=>match ev G fr it with
   |.loc d 0=>match S.bx d with
    |some (.iter s pos)=>br (Nat.blt pos s.size)
      (k (.val (.tuple #[.bool true,.int .i64 pos,.int .i32 (Utf8.decode s pos).1])) (S.setB d (some (.iter s (pos+(Utf8.decode s pos).2)))))
      (k (.val (.tuple #[.bool false])) S)
    |_=>none
   |_=>none
 |.call c=>match c.callee with
   |.value fo=>sV (ev G fr fo) fun fv=>evs G fr c.args.toList fun vs=>zgd C.O C.h fv vs S.hp fun v H=>k (.val v) ⟨S.bx,H⟩
   |.invoke _ _=>none
   |.builtin b=>evs G fr c.args.toList fun vs=>match b,vs,c.argTypes.toList with
    |.len,[x],[t]=>match C.P.underlying t with
     |some d=>match lenK d with
      |some q=>pLen q x S.hp fun v=>k (.val v) S
      |none=>none
     |none=>none
    |.append,[s,x],[t,u]=>zg1 C.P t fun sz bytes _=>match C.P.underlying u with
     |some (.slice _)|some .string=>zhm (gtOf C.P C.O t) sz bytes s x S.hp fun v H=>k (.val v) ⟨S.bx,H⟩
     |_=>none
    |.copy,[d,x],[t,_]=>zg1 C.P t fun sz _ _=>pCopy sz d x S.hp fun v H=>k (.val v) ⟨S.bx,H⟩
    |.max,vs,_=>pMM true vs fun v=>k (.val v) S
    |.min,vs,_=>pMM false vs fun v=>k (.val v) S
    |.delete,[m,key],[T,_]=>mapC C.P T fun kt _=>pDel C.P kt m key S.hp fun H=>k (.val (.tuple #[])) ⟨S.bx,H⟩
    |_,_,_=>none
 |_=>none
def panS(C:Ctx)(o:Oper):Bool:=
 match o.op with
 |.call c=>match c.callee with
  |.value (.func g)=>C.O.pan g
  |_=>false
 |.panic _=>true
 |_=>false
def opW(C:Ctx)(fr:Fr)(S:St)(o:Oper)(kp:Value→Hp→Option α)(k:Slot→St→Option α):Option α:=
 match o.op with
 |.call c=>match c.callee with
  |.value (.func g)=>evs C.P.globals.size fr c.args.toList fun vs=>zjZ C.h g vs S.hp kp fun v H=>k (.val v) ⟨S.bx,H⟩
  |_=>none
 |.panic x=>sV (ev C.P.globals.size fr x) fun v=>zno v (kp v S.hp)
 |_=>none
structure K(α:Type) where
 norm:Fr→St→Option α
 exit:Nat→Fr→St→Option α
 ret:Value→Hp→Option α
def zd3(ops:List Oper)(fr:Fr)(o:Oper)(k:Bool→Fr→Option α):Option α:=
 match o.guard with
 |none=>k true fr
 |some (j,want)=>match ops[j]? with
  |some g=>match g.dst with
   |some d=>match getS fr d with
    |.und=>k false fr
    |s=>sV s fun v=>zae v fun b=>br b (k want (fr.set d (.val (.bool true)))) (k (!want) (fr.set d (.val (.bool false))))
   |none=>none
  |none=>none
def opsC(C:Ctx)(ops:List Oper)(kp:Value→Hp→Option α)(k:Fr→St→Option α):List Oper→Fr→St→Option α
 |[],fr,S=>k fr S
 |o::rest,fr,S=>zd3 ops fr o fun w fr=>match w with
  |true=>match C.O.pan C.f&&panS C o with
   |false=>opC C fr S o fun s S'=>opsC C ops kp k rest (putS fr o.dst s) S'
   |true=>opW C fr S o kp fun s S'=>opsC C ops kp k rest (putS fr o.dst s) S'
  |false=>opsC C ops kp k rest (putS fr o.dst .und) S
inductive OK where
 |pure|read|eff
def zcV(P:Program):Op→OK
 |.move _ | .assign _ | .pick .. | .build .. | .nilCheck _ | .binOp .. | .unOp .. | .makeFunc .. | .fieldAddr .. | .field .. | .indexAddr .. | .index .. | .extract .. | .makeInterface .. | .typeAssert .. => .pure
 |.load .. | .lookup .. => .read
 |.slice T .. => match P.underlying T with
  |some (.array _ _)=>.eff
  |_=>.pure
 |.convert src dst _=>match P.underlying src,P.underlying dst with
  |some (.int _),some (.int _)|some .string,some .string|some (.int _),some .string=>.pure
  |_,_=>.eff
 |.call { callee:=.builtin .len,.. }=>.read
 |.call { callee:=.builtin .max,.. } | .call { callee:=.builtin .min,.. }=>.pure
 |_=>.eff
def ancs(ops:List Oper):List Nat:=
 ops.foldl (fun acc o=>acc++[o.after.toList.foldl (fun s e=>match Region.binds .any e with|true=>s|||2^e.on|||acc.getD e.on 0|false=>s) 0]) []
def zcY(ops:List Oper)(o:Oper):List Nat:=
 (o.op.operands.toList.filterMap fun | .tmp t=>some t|_=>none) ++
 (match o.guard with
  |some (g,_)=>match ops[g]? with
   |some q=>q.dst.toList
   |none=>[]
  |none=>[])
def zqZ(ops:List Oper)(a b:Oper):Bool:=
 (match a.dst with|some d=>(zcY ops b).elem d||b.dst==some d|none=>false)||(match b.dst with|some d=>(zcY ops a).elem d|none=>false)
def isLA(O:Orc)(f:FuncId)(o:Oper):Bool:=
 match o.guard,o.op,o.dst with
 |none,.alloc _,some d=>(O.loc f).elem d
 |_,_,_=>false
def zbX(P:Program)(O:Orc)(f:FuncId)(o:Oper):OK:=
 match isLA O f o with
 |true=>.pure
 |false=>zcV P o.op
def zgI(P:Program)(O:Orc)(f:FuncId)(ops:List Oper)(an:List Nat):Bool:=
 (List.range ops.length).all fun j=>(match ops[j]? with
  |some b=>b.after.toList.all fun e=>!(Region.binds .any e)||Nat.blt e.on j
  |none=>false)&&(List.range j).all fun i=>
  match ops[i]?,ops[j]? with
  |some a,some b=>(an.getD j 0).testBit i||!(zqZ ops a b||(match zbX P O f a,zbX P O f b with | .eff,.eff=>true|_,_=>false))
  |_,_=>false
def opD(C:Ctx)(fr:Fr)(S:St)(o:Oper)(k:Slot→St→Option α):Option α:=
 match isLA C.O C.f o with
 |true=>(match o.dst with
  |some d=>k (.loc d 0) S
  |none=>none)
 |false=>opC C fr S o k
def zit(C:Ctx)(k:St→Option α):List Oper→St→Option α
 |[],S=>k S
 |o::r,S=>match isLA C.O C.f o with
  |true=>opC C [] S o fun _ S'=>zit C k r S'
  |false=>zit C k r S
def zbF(C:Ctx)(fr:Fr)(o:Oper):Option Nat:=
 match o.op with
 |.load _ a | .store _ a _=>match ev C.P.globals.size fr a with
  |.loc d _=>some d
  |_=>none
 |.alloc _ | .box _ _=>match o.dst with
  |some d=>match (C.O.loc C.f).elem d with
   |true=>some d
   |false=>none
  |none=>none
 |.range _ _=>o.dst
 |.next it _=>match ev C.P.globals.size fr it with
  |.loc d _=>some d
  |_=>none
 |_=>none
noncomputable def lenAgain(q:LenK)(x:Value)(H:Hp)(v:Value)(k:Option α):Option α:=chk (lenV q x H=some v) k
noncomputable def zh7(C:Ctx)(fr:Fr)(S:St)(o:Oper)(s:Slot)(k:Option α):Option α:=
 let G:=C.P.globals.size
 match s with
 |.val v=>match o.op with
  |.load T a=>tyC C.P T fun n agg=>match ev G fr a with
   |.loc d off=>match S.bx d with
    |some (.cells cs _)=>chk (zcD cs off n agg=some v) k
    |_=>none
   |.val p=>chk (S.hp.rdP p n agg=some v) k
   |_=>none
  |.lookup T m key ok=>sV (ev G fr m) fun m=>sV (ev G fr key) fun key=>mapC C.P T fun kt z=>
    chk (zc3 C.P kt z m key ok S.hp some=some v) k
  |.call c=>evs G fr c.args.toList fun vs=>match vs,c.argTypes.toList with
   |[x],[t]=>match C.P.underlying t with
    |some d=>match lenK d with
     |some q=>lenAgain q x S.hp v k
     |none=>none
    |none=>none
   |_,_=>none
  |_=>none
 |_=>none
structure Rd where
 i:Nat
 o:Oper
 fr:Fr
 s:Slot
 tag:Option Nat
def zcy(a b:Option Nat):Bool:=
 match a,b with
 |none,none=>true
 |some x,some y=>Nat.beq x y
 |_,_=>false
noncomputable def zfX(C:Ctx)(an i:Nat)(o:Oper)(fr:Fr)(s:Slot)(tag:Option Nat)(k:Option α):List (Nat×Option Nat×St)→Option α
 |[]=>k
 |(j,t,S)::r=>match an.testBit j||!(zcy t tag) with
  |true=>zfX C an i o fr s tag k r
  |false=>zh7 C fr S o s (zfX C an i o fr s tag k r)
noncomputable def zeS(C:Ctx)(an:Nat)(tag:Option Nat)(S:St)(k:Option α):List Rd→Option α
 |[]=>k
 |r::rs=>match an.testBit r.i||!(zcy r.tag tag) with
  |true=>zeS C an tag S k rs
  |false=>zh7 C r.fr S r.o r.s (zeS C an tag S k rs)
def zp4(ops:List Oper)(an:List Nat)(i:Nat):Bool:=(List.range ops.length).all fun j=>Nat.ble j i||(an.getD j 0).testBit i
noncomputable def ziS(C:Ctx)(ops:List Oper)(an:List Nat)(kp:Value→Hp→Option α)(k:Fr→St→Option α):List Oper→Nat→Fr→St→List (Nat×Option Nat×St)→List Rd→Option α
 |[],_,fr,S,_,_=>k fr S
 |o::rest,i,fr,S,es,rs=>zd3 ops fr o fun w fr=>match w with
  |false=>ziS C ops an kp k rest (i+1) (putS fr o.dst .und) S es rs
  |true=>match C.O.pan C.f&&panS C o with
   |true=>opW C fr S o (fun x H=>match zp4 ops an i with
     |true=>kp x H
     |false=>none) fun s S'=>zeS C (an.getD i 0) (zbF C fr o) S'
     (ziS C ops an kp k rest (i+1) (putS fr o.dst s) S' (es++[(i,zbF C fr o,S)]) rs) rs
   |false=>match zbX C.P C.O C.f o with
    |.pure=>opD C fr S o fun s S'=>ziS C ops an kp k rest (i+1) (putS fr o.dst s) S' es rs
    |.read=>opD C fr S o fun s S'=>zfX C (an.getD i 0) i o fr s (zbF C fr o)
      (ziS C ops an kp k rest (i+1) (putS fr o.dst s) S' es (rs++[⟨i,o,fr,s,zbF C fr o⟩])) es
    |.eff=>opD C fr S o fun s S'=>zeS C (an.getD i 0) (zbF C fr o) S'
      (ziS C ops an kp k rest (i+1) (putS fr o.dst s) S' (es++[(i,zbF C fr o,S)]) rs) rs
noncomputable def drawH(C:Ctx)(ops:List Oper)(kp:Value→Hp→Option α)(k:Fr→St→Option α)(fr:Fr)(S:St):Option α:=
 zit C (fun S=>ziS C ops (ancs ops) kp k ops 0 fr S [] []) ops S
inductive Ctl where
 |next
 |exit (id:Nat)
 |ret
def rid:Code→Nat
 |.region id _ _=>id
 |.seq a _=>rid a
 |.cond _ a b=>match rid a with
  |0=>rid b
  |n+1=>n+1
 |.block _ c=>rid c
 |.loop c=>rid c
 |.scope c=>rid c
 |_=>0
def wr:Code→List Nat→List Nat
 |.region _ ops _,acc=>ops.toList.foldr (fun o acc=>match o.dst with|some d=>d::acc|none=>acc) acc
 |.seq a b,acc=>wr a (wr b acc)
 |.cond _ a b,acc=>wr a (wr b acc)
 |.block _ c,acc=>wr c acc
 |.loop c,acc=>wr c acc
 |.scope c,acc=>wr c acc
 |_,acc=>acc
def boxV(b:Option Bx)(k:Value→Option α):Option α:=
 match b with
 |some (.cells cs _)=>k (.agg cs.toArray)
 |some (.iter s pos)=>k (.tuple #[.string s,.int .i64 pos])
 |_=>none
def zbz:Value→ByteArray
 |.tuple vs=>match vs.toList with
  |.string s::_=>s
  |_=>⟨#[]⟩
 |_=>⟨#[]⟩
def zbt:Value→Nat
 |.tuple vs=>match vs.toList with
  |[_,.int _ n]=>n.toNat
  |_=>0
 |_=>0
def zkG(b:Option Bx)(v:Value):Option Bx:=
 match b with
 |some (.iter _ _)=>some (.iter (zbz v) (zbt v))
 |some (.cells _ false)=>some (.cells (zad v) false)
 |b=>b
def roBx(b:Option Bx):Option Bx:=
 match b with
 |some (.cells cs _)=>some (.cells cs true)
 |some (.iter s p)=>some (.iterRo s p)
 |b=>b
def zl0(S:St):List Nat→(List Value→Option α)→Option α
 |[],k=>k []
 |d::ds,k=>boxV (S.bx d) fun v=>zl0 S ds fun vs=>k (v::vs)
def zot(fr:Fr):List Nat→(List Value→Option α)→Option α
 |[],k=>k []
 |d::ds,k=>sV (getS fr d) fun v=>zot fr ds fun vs=>k (v::vs)
def zfn(w keep:List Nat)(l:List Value):Fr→Nat→Fr
 |[],_=>[]
 |s::r,i=>(match keep.idxOf? i with
   |some j=>.val (l.getD j undef)
   |none=>match w.elem i with
    |true=>.unk
    |false=>s)::zfn w keep l r (i+1)
def zk2(keep:List Nat)(l:List Value)(bx:Nat→Option Bx):Nat→Option Bx:=
 fun d=>match keep.idxOf? d with
  |some j=>zkG (bx d) (l.getD j undef)
  |none=>roBx (bx d)
def zdG(keep:List Nat)(l:List Value)(bx:Nat→Option Bx):Nat→Option Bx:=
 fun d=>match keep.idxOf? d with
  |some j=>zkG (bx d) (l.getD j undef)
  |none=>bx d
abbrev Outc:=Ctl×List Value×Hp
def zjo(ks kb:List Nat)(c:Ctl)(fr:Fr)(S:St):Option Outc:=
 zot fr ks fun vs=>zl0 S kb fun bs=>some (c,vs++bs,S.hp)
def Kout(ks kb:List Nat):K Outc:=
 { norm:=zjo ks kb .next,exit:=fun id=>zjo ks kb (.exit id),ret:=fun v H=>some (.ret,[v],H) }
def zfl(step:List Value→Hp→Option Outc):Nat→List Value→Hp→Option Outc
 |0,_,_=>none
 |n+1,l,H=>match step l H with
  |some (.next,l',H')=>zfl step n l' H'
  |r=>r
open Classical in
noncomputable def zbi(step:List Value→Hp→Option Outc)(l:List Value)(H:Hp):Option Outc:=
 if h:∃r n,zfl step n l H=some r then some h.choose else none
def zaM(c:Ctl)(nx:Option α)(ex:Nat→Option α)(rt:Option α):Option α:=
 match c with
 |.next=>nx
 |.exit id=>ex id
 |.ret=>rt
def zaI(j id:Nat)(x y:Option α):Option α:=match Nat.beq j id with|true=>x|false=>y
def roB(keep:List Nat)(bx:Nat→Option Bx):Nat→Option Bx:=
 fun d=>match keep.elem d with
  |true=>bx d
  |false=>roBx (bx d)
def zaG(x:Option Outc)(k:Ctl→List Value→Hp→Option α):Option α:=
 match x with
 |some (c,l,H)=>k c l H
 |none=>none
def resC(P:Program)(fr:Fr)(S:St):List ResultVar→(List Value→Option α)→Option α
 |[],k=>k []
 |.tmp t::r,k=>sV (getS fr t) fun v=>resC P fr S r fun vs=>k (v::vs)
 |.cell t T::r,k=>tyC P T fun n agg=>match getS fr t with
  |.loc d off=>match S.bx d with
   |some (.cells cs _)=>zaf n agg cs off fun v=>resC P fr S r fun vs=>k (v::vs)
   |_=>none
  |.val p=>zaH n agg S.hp p fun v=>resC P fr S r fun vs=>k (v::vs)
  |_=>none
def resV:List Value→Value
 |[v]=>v
 |vs=>.tuple vs.toArray
def zjc(C:Ctx)(v:Value):Value:=
 match C.O.pan C.f with
 |true=>W1 v
 |false=>v
def zkN(fr:Fr):List ResultVar→(List Value→Option α)→Option α
 |[],k=>k []
 |.tmp t::r,k=>sV (getS fr t) fun v=>zkN fr r fun vs=>k (v::vs)
 |.cell _ _::r,k=>zkN fr r k
def zke(ops:List Oper):List ResultVar→Bool
 |[]=>true
 |.tmp t::r=>(ops.all fun o=>!(o.dst==some t))&&zke ops r
 |.cell _ _::r=>zke ops r
def panK(C:Ctx)(rs:List ResultVar)(ops:List Oper)(fr:Fr)(k:K α):Value→Hp→Option α:=
 match C.O.dfr C.f with
 |false=>fun x H=>k.ret (W0 x) H
 |true=>match zke ops rs with
  |true=>fun x H=>zkN fr rs fun vs=>k.ret (W0 (.tuple (x::vs).toArray)) H
  |false=>fun _ _=>none
end
noncomputable def exec(C:Ctx)(rs:List ResultVar):Code→(α:Type)→Fr→St→K α→Option α
 |.skip,_,fr,S,k=>k.norm fr S
 |.region _ ops draw,_,fr,S,k=>match draw with
  |false=>opsC C ops.toList (panK C rs ops.toList fr k) k.norm ops.toList fr S
  |true=>match zgI C.P C.O C.f ops.toList (ancs ops.toList) with
   |true=>drawH C ops.toList (panK C rs ops.toList fr k) k.norm fr S
   |false=>none
 |.seq a b,α,fr,S,k=>match C.O.join C.f (rid b) with
  |none=>exec C rs a α fr S { k with norm:=fun fr S=>exec C rs b α fr S k }
  |some (ks,kb)=>zaG (exec C rs a Outc fr ⟨roB kb S.bx,S.hp⟩ (Kout ks kb)) fun c l H=>zaM c
   (exec C rs b α (zfn (wr a []) ks l fr 0) ⟨zdG kb (l.drop ks.length) S.bx,H⟩ k)
   (fun id=>k.exit id (zfn (wr a []) ks l fr 0) ⟨zdG kb (l.drop ks.length) S.bx,H⟩)
   (k.ret (l.headD undef) H)
 |.cond c x y,α,fr,S,k=>sV (ev C.P.globals.size fr c) fun v=>zae v fun t=>br t (exec C rs x α fr S k) (exec C rs y α fr S k)
 |.block id c,α,fr,S,k=>exec C rs c α fr S { k with exit:=fun j fr S=>zaI j id (k.norm fr S) (k.exit j fr S) }
 |.loop c,_,fr,S,k=>match C.O.loop C.f (rid c) with
  |(ks,kb)=>zot fr ks fun vs=>zl0 S kb fun bs=>
   zaG (zbi (fun l H=>exec C rs c Outc (zfn (wr c []) ks l fr 0) ⟨zk2 kb (l.drop ks.length) S.bx,H⟩ (Kout ks kb)) (vs++bs) S.hp) fun c' l H=>zaM c' none
   (fun id=>k.exit id (zfn (wr c []) ks l fr 0) ⟨zdG kb (l.drop ks.length) S.bx,H⟩)
   (k.ret (l.headD undef) H)
 |.exit id,_,fr,S,k=>k.exit id fr S
 |.ret,_,fr,S,k=>resC C.P fr S rs fun vs=>k.ret (zjc C (resV vs)) S.hp
 |_,_,_,_,_=>none
def Kfun(C:Ctx)(rs:List ResultVar):K (Value×Hp):=
 { norm:=fun fr S=>resC C.P fr S rs fun vs=>some (zjc C (resV vs),S.hp),exit:=fun _ _ _=>none,ret:=fun v H=>some (v,H) }
section
variable {α:Type}
def zn5(x:Option (Value×Hp))(k:Value→Hp→Option α):Option α:=
 match x with
 |some (v,H)=>k v H
 |none=>none
def zqh:Code→Option (Oper×Operand)
 |.region _ ops false=>match ops.toList with
  |[o1,o2]=>match o1.guard,o2.guard,o2.dst,o2.op with
   |none,none,none,.defer c=>match c.callee,c.args.toList with
    |.value fo,[]=>some (o1,fo)
    |_,_=>none
   |_,_,_,_=>none
  |_=>none
 |_=>none
def zpI:Code→Option (Option Tmp×Code)
 |.seq (.region _ ops false) b=>match ops.toList with
  |[o]=>match o.guard,o.op with
   |none,.call c=>match c.callee,c.args.toList with
    |.builtin .recover,[]=>some (o.dst,b)
    |_,_=>none
   |_,_=>none
  |_=>none
 |_=>none
noncomputable def zkv(P:Program)(O:Orc)(h:zai)(g:FuncId)(args:List Value)(x:Value)(H:Hp)(k:Hp→Option α):Option α:=
 match P.funcs[g]? with
 |none=>none
 |some fn=>match fn.name == "runtime.NumGoroutine",O.pan g,fn.body with
  |false,false,some c=>match zpI c with
   |some (d,b)=>zn5 (exec ⟨P,O,h,g⟩ fn.results.toList b _ (putS (args.map .val++List.replicate (fn.ntmps-args.length) .unk) d (.val x)) ⟨fun _=>none,H⟩ (Kfun ⟨P,O,h,g⟩ fn.results.toList)) fun _ H=>k H
   |none=>none
  |_,_,_=>none
def zqE:List ResultVar→List Value→Option (List Value)
 |[],[]=>some []
 |.tmp _::rs,v::vs=>match zqE rs vs with
  |some l=>some (v::l)
  |none=>none
 |.cell _ _::rs,_::vs=>zqE rs vs
 |_,_=>none
def zoh(rs:List ResultVar)(u:Value)(k:List Value→Option α):Option α:=
 match rs with
 |[_]=>k [u]
 |_=>match u with
  |.tuple ⟨vs⟩=>k vs
  |_=>none
def zqH(rs:List ResultVar)(vs:List Value)(k:List Value→Option α):Option α:=
 match zqE rs vs with
 |some l=>k l
 |none=>none
def pTail(x:Value)(k:Value→List Value→Option α):Option α:=
 match x with
 |.tuple ⟨x::tv⟩=>k x tv
 |_=>none
def zh5(w:List Nat):List ResultVar→Bool
 |[]=>true
 |.tmp _::r=>zh5 w r
 |.cell t _::r=>!(w.elem t)&&zh5 w r
def endL(P:Program)(fr:Fr)(H:Hp):List ResultVar→List Value→(List Value→Option α)→Option α
 |[],[],k=>k []
 |.tmp _::rs,v::tv,k=>endL P fr H rs tv fun vs=>k (v::vs)
 |.cell t T::rs,tv,k=>tyC P T fun n agg=>sV (getS fr t) fun p=>zaH n agg H p fun v=>endL P fr H rs tv fun vs=>k (v::vs)
 |_,_,_=>none
def pClos(fv:Value)(k:FuncId→List Value→Option α):Option α:=
 match fv with
 |.func (.func g) ⟨[]⟩ ⟨cs⟩=>k g cs
 |_=>none
def retT(v:Value)(H:Hp):Option (Value×Hp):=zhj v (fun u=>some (W1 u,H)) fun _=>none
end
noncomputable def zix(C:Ctx)(rs:List ResultVar)(b:Code)(fr:Fr)(S:St)(fo:Operand):Option (Value×Hp):=
 match zh5 (wr b []) rs with
 |false=>none
 |true=>sV (ev C.P.globals.size fr fo) fun fv=>pClos fv fun g cs=>
  zn5 (exec C rs b (Value×Hp) fr S (Kfun C rs)) fun v H=>zhj v
   (fun u=>zoh rs u fun vs=>zqH rs vs fun tv=>zkv C.P C.O C.h g cs .nilIface H fun H'=>endL C.P fr H' rs tv fun vs=>some (W1 (resV vs),H'))
   (fun x=>pTail x fun x tv=>zkv C.P C.O C.h g cs x H fun H'=>endL C.P fr H' rs tv fun vs=>some (W1 (resV vs),H'))
noncomputable def znR(C:Ctx)(rs:List ResultVar):Code→Fr→St→Option (Value×Hp)
 |.seq a b,fr,S=>match zqh a with
  |some (o1,fo)=>opC C fr S o1 fun s S'=>zix C rs b (putS fr o1.dst s) S' fo
  |none=>match C.O.join C.f (rid b) with
   |none=>exec C rs a (Value×Hp) fr S { norm:=fun fr S=>znR C rs b fr S,exit:=fun _ _ _=>none,ret:=retT }
   |some (ks,kb)=>zaG (exec C rs a Outc fr ⟨roB kb S.bx,S.hp⟩ (Kout ks kb)) fun c l H=>zaM c
    (znR C rs b (zfn (wr a []) ks l fr 0) ⟨zdG kb (l.drop ks.length) S.bx,H⟩)
    (fun _=>none)
    (retT (l.headD undef) H)
 |_,_,_=>none
noncomputable def zqU(C:Ctx)(rs:List ResultVar)(c:Code)(fr:Fr)(S:St):Option (Value×Hp):=
 match C.O.dfr C.f with
 |false=>exec C rs c _ fr S (Kfun C rs)
 |true=>match C.O.pan C.f with
  |true=>znR C rs c fr S
  |false=>none
noncomputable def zkw(P:Program)(O:Orc)(ext:FuncId→Option (List Value→Hp→Option (Value×Hp)))(h:zai):zai:=fun f args H=>
 match P.funcs[f]? with
 |none=>none
 |some fn=>match fn.name == "runtime.NumGoroutine" with
  |true=>none
  |false=>match fn.body with
   |none=>match O.xt f with
    |some e=>(match e args with
     |some v=>some (v,H)
     |none=>none)
    |none=>none
   |some c=>match ext f with
    |some e=>e args H
    |none=>zqU ⟨P,O,h,f⟩ fn.results.toList c (args.map .val++List.replicate (fn.ntmps-args.length) .unk) ⟨fun _=>none,H⟩
noncomputable def runN(P:Program)(O:Orc)(ext:FuncId→Option (List Value→Hp→Option (Value×Hp))):Nat→zai
 |0=>fun _ _ _=>none
 |n+1=>zkw P O ext (runN P O ext n)
open Classical in
noncomputable def run(P:Program)(O:Orc)(ext:FuncId→Option (List Value→Hp→Option (Value×Hp))):zai:=fun f args H=>
 if h:∃r n,runN P O ext n f args H=some r then some h.choose else none
end Go.AM
namespace Go.AM
noncomputable def znS(P:Program)(O:Orc)(h:zai)(f:FuncId)(fn:Func)(args:List Value)(H:Hp):Option (Value×Hp):=
 zqU ⟨P,O,h,f⟩ fn.results.toList (fn.body.getD .skip) (args.map .val++List.replicate (fn.ntmps-args.length) .unk) ⟨fun _=>none,H⟩
def look{β:Type}(d:β):List (Nat×β)→Nat→β
 |[],_=>d
 |(i,b)::r,j=>match Nat.beq i j with
  |true=>b
  |false=>look d r j
def mkOrc(l:List (Nat×List Nat))(j:List (Nat×List (Nat×Option (List Nat×List Nat))))(p:List (Nat×List (Nat×List Nat×List Nat))):Orc:=
 { loc:=look [] l,join:=fun f=>look none (look [] j f),loop:=fun f=>look ([],[]) (look [] p f) }
end Go.AM
namespace Go.AM
open Go
section
variable {α γ:Type}{K:γ→Option α}
theorem zaF{s:Slot}{f:Value→Option α}{g:Value→Option γ}(h:∀v,f v=(g v).bind K):sV s f=(sV s g).bind K:=by cases s<;>first|exact h _|rfl
theorem zbx{G:Nat}{fr:Fr}:∀(xs:List Operand) {f:List Value→Option α} {g:List Value→Option γ},(∀v,f v=(g v).bind K)→evs G fr xs f=(evs G fr xs g).bind K
 |[],f,g,h=>h []
 |x::xs,f,g,h=>zaF fun v=>zbx xs fun vs=>h (v::vs)
theorem zdN{G:Nat}{fr:Fr}{x:Option Operand}{f:Option Value→Option α}{g:Option Value→Option γ}(h:∀v,f v=(g v).bind K):optV G fr x f=(optV G fr x g).bind K:=by
 cases x with
 |none=>exact h _
 |some x=>exact zaF fun v=>h _
theorem zfx{v:Value}{f:Bool→Option α}{g:Bool→Option γ}(h:∀v,f v=(g v).bind K):zae v f=(zae v g).bind K:=by cases v<;>first|exact h _|rfl
theorem zjT{n:Nat}{a:Bool}{H:Hp}{p:Value}{f:Value→Option α}{g:Value→Option γ}(h:∀v,f v=(g v).bind K):zaH n a H p f=(zaH n a H p g).bind K:=by unfold zaH;cases (H.rdP p n a)<;>first|exact h _|rfl
theorem zjY{n:Nat}{a:Bool}{cs:List Value}{o:Nat}{f:Value→Option α}{g:Value→Option γ}(h:∀v,f v=(g v).bind K):zaf n a cs o f=(zaf n a cs o g).bind K:=by unfold zaf;cases (zcD cs o n a)<;>first|exact h _|rfl
theorem zlf{P:Program}{t:TypeId}{l:List (Nat×Value)}{f:Value→Option α}{g:Value→Option γ}(h:∀v,f v=(g v).bind K):zbe P t l f=(zbe P t l g).bind K:=by unfold zbe;cases (zn1 P t l)<;>first|exact h _|rfl
theorem zjQ{x:Value}{lo hi:Option Value}{f:Value→Option α}{g:Value→Option γ}(h:∀v,f v=(g v).bind K):zdx x lo hi f=(zdx x lo hi g).bind K:=by unfold zdx;cases (zmU x lo hi)<;>first|exact h _|rfl
theorem zlc{n:Nat}{x:Value}{lo hi:Option Value}{f:Value→Option α}{g:Value→Option γ}(h:∀v,f v=(g v).bind K):zgk n x lo hi f=(zgk n x lo hi g).bind K:=by unfold zgk;cases (zk7 n x lo hi)<;>first|exact h _|rfl
theorem zgF{n m:Nat}{x:Value}{lo hi:Option Value}{H:Hp}{f:Value→Option α}{g:Value→Option γ}(h:∀v,f v=(g v).bind K):zb5 n m x lo hi H f=(zb5 n m x lo hi H g).bind K:=by unfold zb5;cases (zjg n m x lo hi H)<;>first|exact h _|rfl
theorem zpV{n:Nat}{x i:Value}{f:Value→Option α}{g:Value→Option γ}(h:∀v,f v=(g v).bind K):pIdx n x i f=(pIdx n x i g).bind K:=by unfold pIdx;cases (idxV n x i)<;>first|exact h _|rfl
theorem zid{t:Value}{i:Nat}{f:Value→Option α}{g:Value→Option γ}(h:∀v,f v=(g v).bind K):zaa t i f=(zaa t i g).bind K:=by unfold zaa;cases (zmB t i)<;>first|exact h _|rfl
theorem zpW{P:Program}{op:BinOp}{T:TypeId}{x y:Value}{f:Value→Option α}{g:Value→Option γ}(h:∀v,f v=(g v).bind K):pBin P op T x y f=(pBin P op T x y g).bind K:=by unfold pBin;cases (binV P op T x y)<;>first|exact h _|rfl
theorem pUn_nat{op:UnOp}{x:Value}{f:Value→Option α}{g:Value→Option γ}(h:∀v,f v=(g v).bind K):pUn op x f=(pUn op x g).bind K:=by unfold pUn;cases (unV op x)<;>first|exact h _|rfl
theorem zie{kd:IntKind}{x:Value}{f:Value→Option α}{g:Value→Option γ}(h:∀v,f v=(g v).bind K):zav kd x f=(zav kd x g).bind K:=by unfold zav;cases (zmE kd x)<;>first|exact h _|rfl
theorem zi2{q:LenK}{x:Value}{H:Hp}{f:Value→Option α}{g:Value→Option γ}(h:∀v,f v=(g v).bind K):pLen q x H f=(pLen q x H g).bind K:=by unfold pLen;cases (lenV q x H)<;>first|exact h _|rfl
theorem zqF{x:Value}{H:Hp}{f:Value→Option α}{g:Value→Option γ}(h:∀v,f v=(g v).bind K):zdM x H f=(zdM x H g).bind K:=by unfold zdM;cases (zmQ x H)<;>first|exact h _|rfl
theorem zhU{n:Nat}{H:Hp}{p v:Value}{f:Hp→Option α}{g:Hp→Option γ}(h:∀v,f v=(g v).bind K):za8 n H p v f=(za8 n H p v g).bind K:=by unfold za8;cases (H.wr p n v)<;>first|exact h _|rfl
theorem zf6{P:Program}{kt:TypeId}{m key v:Value}{H:Hp}{f:Hp→Option α}{g:Hp→Option γ}(h:∀v,f v=(g v).bind K):pUpd P kt m key v H f=(pUpd P kt m key v H g).bind K:=by unfold pUpd;cases (updV P kt m key v H)<;>first|exact h _|rfl
theorem zmi{P:Program}{kt:TypeId}{m key:Value}{H:Hp}{f:Hp→Option α}{g:Hp→Option γ}(h:∀v,f v=(g v).bind K):pDel P kt m key H f=(pDel P kt m key H g).bind K:=by unfold pDel;cases (delV P kt m key H)<;>first|exact h _|rfl
theorem zgE{n:Nat}{cs:List Value}{o:Nat}{v:Value}{f:List Value→Option α}{g:List Value→Option γ}(h:∀v,f v=(g v).bind K):zaE n cs o v f=(zaE n cs o v g).bind K:=by unfold zaE;cases (zbV n cs o v)<;>first|exact h _|rfl
theorem zdy{n:Nat}{zs:List Value}{len:Nat}{l:List (Nat×Value)}{H:Hp}{f:Value→Hp→Option α}{g:Value→Hp→Option γ}(h:∀v u,f v u=(g v u).bind K):zaP n zs len l H f=(zaP n zs len l H g).bind K:=by
 unfold zaP;rcases (zbP n zs len l H) with _|⟨v,u⟩
 ·rfl
 ·exact h _ _
theorem zea{n m:Nat}{zs:List Value}{l c:Value}{H:Hp}{f:Value→Hp→Option α}{g:Value→Hp→Option γ}(h:∀v u,f v u=(g v u).bind K):zcj n m zs l c H f=(zcj n m zs l c H g).bind K:=by
 unfold zcj;rcases (zeq n m zs l c H) with _|⟨v,u⟩
 ·rfl
 ·exact h _ _
theorem zoJ{n m:Nat}{s x:Value}{H:Hp}{f:Value→Hp→Option α}{g:Value→Hp→Option γ}(h:∀v u,f v u=(g v u).bind K):zbb n m s x H f=(zbb n m s x H g).bind K:=by
 unfold zbb;rcases (zbc n m s x H) with _|⟨v,u⟩
 ·rfl
 ·exact h _ _
theorem znr{e:TypeId}{n m:Nat}{s x:Value}{H:Hp}{f:Value→Hp→Option α}{g:Value→Hp→Option γ}(h:∀v u,f v u=(g v u).bind K):zbG e n m s x H f=(zbG e n m s x H g).bind K:=by
 unfold zbG;rcases (zbc n m s x H) with _|⟨v,u⟩
 ·rfl
 ·exact h _ _
theorem zfy{e:Option TypeId}{n m:Nat}{s x:Value}{H:Hp}{f:Value→Hp→Option α}{g:Value→Hp→Option γ}(h:∀v u,f v u=(g v u).bind K):zhm e n m s x H f=(zhm e n m s x H g).bind K:=by
 cases e with
 |none=>exact zoJ h
 |some e=>exact znr h
theorem zjX{n:Nat}{s x:Value}{H:Hp}{f:Value→Hp→Option α}{g:Value→Hp→Option γ}(h:∀v u,f v u=(g v u).bind K):pCopy n s x H f=(pCopy n s x H g).bind K:=by
 unfold pCopy;rcases (copyV n s x H) with _|⟨v,u⟩
 ·rfl
 ·exact h _ _
theorem zcx{P:Program}{T:TypeId}{f:Nat→Bool→Option α}{g:Nat→Bool→Option γ}(h:∀v u,f v u=(g v u).bind K):tyC P T f=(tyC P T g).bind K:=by
 unfold tyC;cases P.info? T with
 |none=>rfl
 |some i=>cases P.underlying T with
  |none=>rfl
  |some d=>exact h _ _
theorem zja{P:Program}{T:TypeId}{f:Value→Option α}{g:Value→Option γ}(h:∀v,f v=(g v).bind K):zgy P T f=(zgy P T g).bind K:=by
 unfold zgy;rcases P.info? T with _|i
 ·rfl
 ·dsimp only;rcases i.zero with _|z
  ·rfl
  ·dsimp only;cases zc6 z with
   |true=>exact h _
   |false=>rfl
theorem zbC {P : Program} {T : TypeId} {f : Nat → Nat → List Value → Option α} {g : Nat → Nat → List Value → Option γ} (h : ∀ v u l, f v u l = (g v u l).bind K) : zg1 P T f = (zg1 P T g).bind K := by
  unfold zg1; rcases P.underlying T with _ | d
  · rfl
  · cases d <;> first | rfl | skip
    rename_i e
    dsimp only
    cases P.info? e with
    | none => rfl
    | some i => exact zja fun z => by split; · rfl
                                      · exact h _ _ _
theorem zbN{P:Program}{T:TypeId}{f:TypeId→Value→Option α}{g:TypeId→Value→Option γ}(h:∀v u,f v u=(g v u).bind K):mapC P T f=(mapC P T g).bind K:=by
 unfold mapC;rcases P.underlying T with _|d
 ·rfl
 ·cases d<;>first|rfl|skip;rename_i kt et;dsimp only;cases keyOk P 20 kt with
  |true=>exact zja fun z=>h _ _
  |false=>rfl
theorem zjW{v:Value}{f:Option α}{g:Option γ}(h:f=g.bind K):pHint v f=(pHint v g).bind K:=by unfold pHint;split<;>first|exact h|rfl
theorem zpU{v:Value}{f:Option α}{g:Option γ}(h:f=g.bind K):pNil v f=(pNil v g).bind K:=by unfold pNil;split<;>first|exact h|rfl
theorem znp{n:Nat}{v:Value}{f:Value→Option α}{g:Value→Option γ}(h:∀v,f v=(g v).bind K):za5 n v f=(za5 n v g).bind K:=by unfold za5;split<;>first|exact h _|rfl
theorem znn{v:Value}{f:Value→Option α}{g:Value→Option γ}(h:∀v,f v=(g v).bind K):zoI v f=(zoI v g).bind K:=by unfold zoI;split<;>first|exact h _|rfl
theorem zpT{v:Value}{f:Value→Option α}{g:Value→Option γ}(h:∀v,f v=(g v).bind K):pStr v f=(pStr v g).bind K:=by unfold pStr;split<;>first|exact h _|rfl
theorem zjP{v:Value}{f:ByteArray→Option α}{g:ByteArray→Option γ}(h:∀v,f v=(g v).bind K):zqG v f=(zqG v g).bind K:=by unfold zqG;split<;>first|exact h _|rfl
theorem zjR{a:Bool}{n o:Nat}{v:Value}{f:Value→Option α}{g:Value→Option γ}(h:∀v,f v=(g v).bind K):zd9 a n o v f=(zd9 a n o v g).bind K:=by
 unfold zd9;split
 ·rename_i cs;cases partC a n cs.toList o<;>first|exact h _|rfl
 ·rfl
theorem zjV{n o:Nat}{v i:Value}{f:Value→Option α}{g:Value→Option γ}(h:∀v,f v=(g v).bind K):zbH n o v i f=(zbH n o v i g).bind K:=by
 unfold zbH;split
 ·split;· exact h _
  ·rfl
 ·rfl
theorem zjU{n:Nat}{i:Value}{f:Nat→Option α}{g:Nat→Option γ}(h:∀v,f v=(g v).bind K):zb9 n i f=(zb9 n i g).bind K:=by
 unfold zb9;split
 ·split;· exact h _
  ·rfl
 ·rfl
theorem zlg{v i:Value}{f:Value→Option α}{g:Value→Option γ}(h:∀v,f v=(g v).bind K):zbg v i f=(zbg v i g).bind K:=by
 unfold zbg;split
 ·rename_i s kd j;cases zq9 s j<;>first|exact h _|rfl
 ·rfl
theorem zlh{len n:Nat}{a:Bool}{v i:Value}{f:Value→Option α}{g:Value→Option γ}(h:∀v,f v=(g v).bind K):zen len a n v i f=(zen len a n v i g).bind K:=by
 unfold zen;split
 ·split;· exact zjR h
  ·rfl
 ·rfl
theorem znq{P:Program}{kt:TypeId}{z m key:Value}{ok:Bool}{H:Hp}{f:Value→Option α}{g:Value→Option γ}(h:∀v,f v=(g v).bind K):zc3 P kt z m key ok H f=(zc3 P kt z m key ok H g).bind K:=by
 unfold zc3;generalize lookV P kt z m key H=q;rcases q with _|⟨v,b⟩
 ·rfl
 ·cases ok<;>exact h _
theorem znm{x:Value}{H:Hp}{f:Value→Hp→Option α}{g:Value→Hp→Option γ}(h:∀v u,f v u=(g v u).bind K):zeN x H f=(zeN x H g).bind K:=by
 unfold zeN;split
 ·split;· exact h _ _
  ·rfl
 ·rfl
theorem br_nat{b:Bool}{f f':Option α}{g g':Option γ}(h:f=g.bind K)(h':f'=g'.bind K):br b f f'=(br b g g').bind K:=by cases b<;>assumption
theorem zoK{b:Bool}{T:TypeId}{cs:List Value}{H:Hp}{f:Value→Hp→Option α}{g:Value→Hp→Option γ}(h:∀v u,f v u=(g v u).bind K):zmk b T cs H f=(zmk b T cs H g).bind K:=by cases b<;>exact h _ _
theorem zlm{C:Ctx}{S:St}{d:Option Nat}{T:TypeId}{cs:List Value}{f:Slot→St→Option α}{g:Slot→St→Option γ}(h:∀v u,f v u=(g v u).bind K):zcU C S d T cs f=(zcU C S d T cs g).bind K:=by
 unfold zcU;split
 ·split
  ·split
   ·rfl
   ·exact h _ _
  ·exact zoK fun _ _=>h _ _
 ·rfl
theorem zjS{b:Bool}{l:List Value}{f:Value→Option α}{g:Value→Option γ}(h:∀v,f v=(g v).bind K):pMM b l f=(pMM b l g).bind K:=by
 unfold pMM;split
 ·rfl
 ·rename_i x r;cases mmL b x r<;>first|exact h _|rfl
theorem zqJ{h':zai}{g':FuncId}{vs:List Value}{H:Hp}{f:Value→Hp→Option α}{g:Value→Hp→Option γ}(h:∀v u,f v u=(g v u).bind K):zab h' g' vs H f=(zab h' g' vs H g).bind K:=by
 unfold zab;rcases h' g' vs H with _|⟨v,u⟩
 ·rfl
 ·exact h _ _
theorem pWrap_nat{v:Value}{f fp:Value→Option α}{g gp:Value→Option γ}(h:∀v,f v=(g v).bind K)(hp:∀v,fp v=(gp v).bind K):zhj v f fp=(zhj v g gp).bind K:=by
 unfold zhj;split
 ·exact h _
 ·exact hp _
 ·rfl
theorem zqI{h':zai}{g':FuncId}{vs:List Value}{H:Hp}{f:Value→Hp→Option α}{g:Value→Hp→Option γ}(h:∀v u,f v u=(g v u).bind K):zhl h' g' vs H f=(zhl h' g' vs H g).bind K:=by
 unfold zhl;rcases h' g' vs H with _|⟨v,u⟩
 ·rfl
 ·exact pWrap_nat (fun _=>h _ _) (fun _=>rfl)
theorem zhk{O:Orc}{h':zai}{fv:Value}{vs:List Value}{H:Hp}{f:Value→Hp→Option α}{g:Value→Hp→Option γ}(h:∀v u,f v u=(g v u).bind K):zgd O h' fv vs H f=(zgd O h' fv vs H g).bind K:=by
 unfold zgd;split
 ·split
  ·exact zqJ h
  ·exact zqI h
 ·rfl
theorem zld{P:Program}{op:BinOp}{T:TypeId}{x:Value}{f:Value→Option α}{g:Value→Option γ}(h:∀v,f v=(g v).bind K):zle P op T x f=(zle P op T x g).bind K:=by
 unfold zle;split
 ·split<;>first|exact h _|rfl
 ·rfl
theorem zj0{P:Program}{T:TypeId}{x:Value}{f:Value→Option α}{g:Value→Option γ}(h:∀v,f v=(g v).bind K):zj1 P T x f=(zj1 P T x g).bind K:=by
 unfold zj1;split
 ·rfl
 ·split
  ·split
   ·exact h _
   ·rfl
  ·rfl
 ·rfl
theorem zlB{P:Program}{T:TypeId}{f:Option α}{g:Option γ}(h:f=g.bind K):znH P T f=(znH P T g).bind K:=by unfold znH;split<;>first|exact h|rfl
end
section
variable {α:Type}
def opR(C:Ctx)(fr:Fr)(S:St)(o:Oper):Option (Slot×St):=opC C fr S o fun s S'=>some (s,S')
theorem zgP{γ:Type}{K:γ→Option α}{C:Ctx}{src dst:TypeId}{x:Value}{H:Hp}{f:Value→Option α}{g:Value→Option γ}{f2:Value→Hp→Option α}{g2:Value→Hp→Option γ}(h:∀v,f v=(g v).bind K)(h2:∀v u,f2 v u=(g2 v u).bind K) :
  (match C.P.underlying src,C.P.underlying dst with
   |some (.int _),some (.int kd)=>zav kd x f
   |some .string,some .string=>pStr x f
   |some (.int _),some .string=>zoI x f
   |some .string,some (.slice e)=>match C.P.underlying e with
    |some (.int .u8)=>zeN x H f2
    |_=>none
   |some (.slice e),some .string=>match C.P.underlying e with
    |some (.int .u8)=>zdM x H f
    |_=>none
   |_,_=>none) =
  (match C.P.underlying src,C.P.underlying dst with
   |some (.int _),some (.int kd)=>zav kd x g
   |some .string,some .string=>pStr x g
   |some (.int _),some .string=>zoI x g
   |some .string,some (.slice e)=>match C.P.underlying e with
    |some (.int .u8)=>zeN x H g2
    |_=>none
   |some (.slice e),some .string=>match C.P.underlying e with
    |some (.int .u8)=>zdM x H g
    |_=>none
   |_,_=>none).bind K:=by
 rcases C.P.underlying src with _|d
 ·rfl
 ·rcases C.P.underlying dst with _|d'
  ·cases d<;>rfl
  ·cases d<;>cases d'<;>first|rfl|exact zie h|exact zpT h|exact znn h|skip
   ·rename_i e;dsimp only;rcases C.P.underlying e with _|d
    ·rfl
    ·cases d<;>first|rfl|skip;rename_i kd;cases kd<;>first|rfl|exact znm h2
   ·rename_i e;dsimp only;rcases C.P.underlying e with _|d
    ·rfl
    ·cases d<;>first|rfl|skip;rename_i kd;cases kd<;>first|rfl|exact zqF h
theorem zoM(C:Ctx)(fr:Fr)(S:St)(o:Oper)(k:Slot→St→Option α):opC C fr S o k=(opR C fr S o).bind fun p=>k p.1 p.2:=by
 unfold opR opC;dsimp only;cases o.op<;>(try dsimp only)<;>first|rfl|skip
 case pick c a b=>
  refine zaF fun c=>zfx fun t=>?_;cases ev C.P.globals.size fr a<;>cases ev C.P.globals.size fr b<;>cases t<;>rfl
 case alloc T=>
  refine zja fun z=>?_;cases (zad z).all one with
  |true=>exact zlm fun _ _=>rfl
  |false=>rfl
 case box T x=>exact zaF fun v=>zlm fun _ _=>rfl
 case build T p=>exact zbx _ fun v=>zlf fun _=>rfl
 case buildSlice T n p=>exact zbx _ fun v=>zbC fun _ _ _=>zdy fun _ _=>rfl
 case insert T m key x=>exact zaF fun m=>zaF fun key=>zaF fun x=>zbN fun _ _=>zf6 fun _=>rfl
 case mapUpdate T m key x=>exact zaF fun m=>zaF fun key=>zaF fun x=>zbN fun _ _=>zf6 fun _=>rfl
 case load T a=>
  refine zcx fun n agg=>?_;cases ev C.P.globals.size fr a with
  |loc d off=>
   dsimp only;rcases S.bx d with _|b
   ·rfl
   ·cases b with
    |cells cs ro=>exact zjY fun _=>rfl
    |_=>rfl
  |val p=>exact zjT fun _=>rfl
  |_=>rfl
 case store T a x=>
  refine zaF fun v=>zcx fun n agg=>?_;cases ev C.P.globals.size fr a with
  |loc d off=>
   dsimp only;rcases S.bx d with _|b
   ·rfl
   ·cases b with
    |cells cs ro=>cases ro<;>first|rfl|exact zgE fun _=>rfl
    |_=>rfl
  |val p=>exact zhU fun _=>rfl
  |_=>rfl
 case nilCheck x=>
  cases ev C.P.globals.size fr x with
  |val p=>exact zpU rfl
  |_=>rfl
 case binOp op T x y T'=>
  refine zaF fun u=>zaF fun v=>?_;cases zp7 y with
  |true=>exact zld fun _=>rfl
  |false=>exact zpW fun _=>rfl
 case typeAssert x T' T ok=>
  refine zaF fun u=>zj0 fun v=>?_;cases ok<;>rfl
 case unOp op T x=>exact zaF fun x=>pUn_nat fun _=>rfl
 case convert src dst x=>exact zaF fun x=>zgP (fun _=>rfl) (fun _ _=>rfl)
 case makeFunc fn first captured=>exact zbx _ fun fs=>zbx _ fun cs=>rfl
 case makeMap T x=>
  cases x with
  |none=>rfl
  |some x=>exact zaF fun x=>zbN fun _ _=>zjW rfl
 case makeSlice T l c=>exact zaF fun l=>zaF fun c=>zbC fun _ _ _=>zea fun _ _=>rfl
 case slice T x lo hi mx=>
  cases mx with
  |some m=>rfl
  |none=>
   dsimp only;refine zaF fun x=>zdN fun lo=>zdN fun hi=>?_;rcases C.P.underlying T with _|d
   ·rfl
   ·cases d<;>first|rfl|exact zjQ fun _=>rfl|skip
    all_goals (try dsimp only)
    all_goals first
     |(rename_i e;rcases C.P.info? e with _|i<;>first|rfl|exact zlc fun _=>rfl)
     |(rename_i len e
       rcases C.P.info? e with _|i<;>first|rfl|exact zgF fun _=>rfl)
 case fieldAddr T x f=>
  rcases C.P.underlying T with _|d
  ·rfl
  ·cases d<;>first|rfl|skip;rename_i fs;dsimp only;rcases fs.toList[f]? with _|fd
   ·rfl
   ·dsimp only;rcases C.P.info? fd.type with _|i
    ·rfl
    ·dsimp only;cases Nat.beq i.size 0
     ·dsimp only;cases ev C.P.globals.size fr x with
      |val p=>exact znp fun _=>rfl
      |_=>rfl
     ·rfl
 case field T x f=>
  refine zaF fun x=>?_;rcases C.P.underlying T with _|d
  ·rfl
  ·cases d<;>first|rfl|skip;rename_i fs;dsimp only;rcases fs.toList[f]? with _|fd
   ·rfl
   ·exact zcx fun n agg=>zjR fun _=>rfl
 case indexAddr T x i=>
  refine zaF fun i=>?_;rcases C.P.underlying T with _|d
  ·rfl
  ·cases d<;>first|rfl|skip
   ·rename_i e;dsimp only;rcases C.P.info? e with _|ti
    ·rfl
    ·exact zaF fun x=>zpV fun _=>rfl
   ·rename_i len e;dsimp only;rcases C.P.info? e with _|ti
    ·rfl
    ·dsimp only;cases ev C.P.globals.size fr x with
     |loc d off=>exact zjU fun _=>rfl
     |val p=>exact zjV fun _=>rfl
     |_=>rfl
 case index T x i=>
  refine zaF fun x=>zaF fun i=>?_;rcases C.P.underlying T with _|d
  ·rfl
  ·cases d<;>first|rfl|exact zlg fun _=>rfl|exact zcx fun _ _=>zlh fun _=>rfl
 case lookup T m key ok=>exact zaF fun m=>zaF fun key=>zbN fun kt z=>znq fun _=>rfl
 case range T x=>
  refine zaF fun x=>?_;rcases C.P.underlying T with _|d
  ·rfl
  ·cases d<;>first|rfl|skip;rcases o.dst with _|d
   ·rfl
   ·dsimp only;rcases S.bx d with _|b
    ·exact zjP fun _=>rfl
    ·rfl
 case next it b=>
  cases b with
  |false=>rfl
  |true=>
   dsimp only;cases ev C.P.globals.size fr it with
   |loc d off=>
    cases off with
    |zero=>
     show (match S.bx d with
      |some (.iter s pos)=>br (Nat.blt pos s.size) (k (Slot.val (.tuple #[.bool true,.int .i64 pos,.int .i32 (Utf8.decode s pos).1])) (S.setB d (some (.iter s (pos+(Utf8.decode s pos).2))))) (k (Slot.val (.tuple #[.bool false])) S)
      |_=>none)=Option.bind (match S.bx d with
      |some (.iter s pos)=>br (Nat.blt pos s.size) (some ((Slot.val (.tuple #[.bool true,.int .i64 pos,.int .i32 (Utf8.decode s pos).1])),(S.setB d (some (.iter s (pos+(Utf8.decode s pos).2)))))) (some ((Slot.val (.tuple #[.bool false])),S))
      |_=>none) (fun p=>k p.1 p.2)
     rcases S.bx d with _|b
     ·rfl
     ·cases b with
      |iter s pos=>exact br_nat rfl rfl
      |_=>rfl
    |succ n=>rfl
   |_=>rfl
 case extract t i=>exact zaF fun t=>zid fun _=>rfl
 case makeInterface T x=>exact zaF fun t=>zlB rfl
 case call c=>
  rcases c.callee with fo|⟨rv,m⟩|b
  ·exact zaF fun fv=>zbx _ fun vs=>zhk fun _ _=>rfl
  ·rfl
  ·refine zbx _ fun vs=>?_;generalize c.argTypes.toList=ts;cases b<;>(try dsimp only)<;>first|rfl|exact zjS fun _=>rfl|skip
   all_goals
    rcases vs with _|⟨x,_|⟨y,_|⟨z,vs⟩⟩⟩<;>rcases ts with _|⟨t,_|⟨u,_|⟨t3,ts⟩⟩⟩<;>(try dsimp only)<;>first|rfl|skip
   ·refine zbC fun sz bytes _=>?_;rcases C.P.underlying u with _|d
    ·rfl
    ·cases d<;>first|rfl|exact zfy fun _ _=>rfl
   ·exact zbC fun sz _ _=>zjX fun _ _=>rfl
   ·exact zbN fun kt _=>zmi fun _=>rfl
   ·rcases C.P.underlying t with _|d
    ·rfl
    ·dsimp only;rcases lenK d with _|q
     ·rfl
     ·exact zi2 fun _=>rfl
end
section
variable {α:Type}
theorem znu (C : Ctx) (fr : Fr) (S S2 : St) (o : Oper) (k : Slot → St → Option α) (hp : zcV C.P o.op = .pure ∨ (zcV C.P o.op = .read ∧ S2 = S)) :
    opC C fr S o k = (opC C fr S2 o (fun s _ => some s)).bind fun s => k s S := by
  unfold opC
  dsimp only
  generalize hop : o.op = op at hp ⊢
  have ne : ∀ {x : OK}, x = .eff → ¬ (x = .pure ∨ (x = .read ∧ S2 = S)) := by rintro x rfl (h | ⟨h, _⟩) <;> cases h
  cases op <;> (try dsimp only) <;> first | rfl | exact absurd hp (ne rfl) | skip
  case pick c a b =>
    refine zaF fun c => zfx fun t => ?_
    cases ev C.P.globals.size fr a <;> cases ev C.P.globals.size fr b <;> cases t <;> rfl
  case build T p => exact zbx _ fun v => zlf fun _ => rfl
  case load T a =>
    have hS : S2 = S := by rcases hp with h | h; · cases h
                           · exact h.2
    subst hS
    refine zcx fun n agg => ?_
    cases ev C.P.globals.size fr a with
    | loc d off =>
      dsimp only
      rcases S2.bx d with _ | b
      · rfl
      · cases b with
        | cells cs ro => exact zjY fun _ => rfl
        | _ => rfl
    | val p => exact zjT fun _ => rfl
    | _ => rfl
  case nilCheck x =>
    cases ev C.P.globals.size fr x with
    | val p => exact zpU rfl
    | _ => rfl
  case binOp op T x y T' =>
    refine zaF fun u => zaF fun v => ?_
    cases zp7 y with
    | true => exact zld fun _ => rfl
    | false => exact zpW fun _ => rfl
  case typeAssert x T' T ok =>
    refine zaF fun u => zj0 fun v => ?_
    cases ok <;> rfl
  case unOp op T x => exact zaF fun x => pUn_nat fun _ => rfl
  case convert src dst x =>
    refine zaF fun x => ?_
    unfold zcV at hp
    dsimp only at hp
    rcases h1 : C.P.underlying src with _ | d
    · rfl
    · rcases h2 : C.P.underlying dst with _ | d'
      · cases d <;> rfl
      · rw [h1, h2] at hp
        cases d <;> cases d' <;> first | rfl | exact absurd hp (ne rfl) | exact zie (fun _ => rfl) | exact zpT (fun _ => rfl) | exact znn (fun _ => rfl)
  case makeFunc fn first captured => exact zbx _ fun fs => zbx _ fun cs => rfl
  case slice T x lo hi mx =>
    cases mx with
    | some m => rfl
    | none =>
      dsimp only
      refine zaF fun x => zdN fun lo => zdN fun hi => ?_
      unfold zcV at hp
      dsimp only at hp
      rcases h1 : C.P.underlying T with _ | d
      · rfl
      · rw [h1] at hp
        cases d <;> first | rfl | exact absurd hp (ne rfl) | exact zjQ fun _ => rfl | skip
        rename_i e
        dsimp only
        rcases C.P.info? e with _ | i
        · rfl
        · exact zlc fun _ => rfl
  case fieldAddr T x f =>
    rcases C.P.underlying T with _ | d
    · rfl
    · cases d <;> first | rfl | skip
      rename_i fs
      dsimp only
      rcases fs.toList[f]? with _ | fd
      · rfl
      · dsimp only
        rcases C.P.info? fd.type with _ | i
        · rfl
        · dsimp only
          cases Nat.beq i.size 0
          · dsimp only
            cases ev C.P.globals.size fr x with
            | val p => exact znp fun _ => rfl
            | _ => rfl
          · rfl
  case field T x f =>
    refine zaF fun x => ?_
    rcases C.P.underlying T with _ | d
    · rfl
    · cases d <;> first | rfl | skip
      rename_i fs
      dsimp only
      rcases fs.toList[f]? with _ | fd
      · rfl
      · exact zcx fun n agg => zjR fun _ => rfl
  case indexAddr T x i =>
    refine zaF fun i => ?_
    rcases C.P.underlying T with _ | d
    · rfl
    · cases d <;> first | rfl | skip
      · rename_i e
        dsimp only
        rcases C.P.info? e with _ | ti
        · rfl
        · exact zaF fun x => zpV fun _ => rfl
      · rename_i len e
        dsimp only
        rcases C.P.info? e with _ | ti
        · rfl
        · dsimp only
          cases ev C.P.globals.size fr x with
          | loc d off => exact zjU fun _ => rfl
          | val p => exact zjV fun _ => rfl
          | _ => rfl
  case index T x i =>
    refine zaF fun x => zaF fun i => ?_
    rcases C.P.underlying T with _ | d
    · rfl
    · cases d <;> first | rfl | exact zlg fun _ => rfl | exact zcx fun _ _ => zlh fun _ => rfl
  case lookup T m key ok =>
    have hS : S2 = S := by rcases hp with h | h; · cases h
                           · exact h.2
    subst hS
    exact zaF fun m => zaF fun key => zbN fun kt z => znq fun _ => rfl
  case extract t i => exact zaF fun t => zid fun _ => rfl
  case makeInterface T x => exact zaF fun t => zlB rfl
  case call c =>
    obtain ⟨callee, args, ats⟩ := c
    rcases callee with fo | ⟨rv, m⟩ | b
    · exact absurd hp (ne rfl)
    · rfl
    · cases b <;> first | exact absurd hp (ne rfl) | skip
      · have hS : S2 = S := by rcases hp with h | h; · cases h
                               · exact h.2
        subst hS
        refine zbx _ fun vs => ?_
        generalize ats.toList = ts
        rcases vs with _ | ⟨x, _ | ⟨y, _ | ⟨z, vs⟩⟩⟩ <;> rcases ts with _ | ⟨t, _ | ⟨u, _ | ⟨t3, ts⟩⟩⟩ <;> (try dsimp only) <;> first | rfl | skip
        rcases C.P.underlying t with _ | d
        · rfl
        · dsimp only
          rcases lenK d with _ | q
          · rfl
          · exact zi2 fun _ => rfl
      · exact zbx _ fun vs => zjS fun _ => rfl
      · exact zbx _ fun vs => zjS fun _ => rfl
end
structure Lim{α:Type}(F:Nat→Option α)(x:Option α):Prop where
 mono:∀n r,F n=some r→F (n+1)=some r
 le:∀n r,F n=some r→x=some r
 sup:∀r,x=some r→∃n,F n=some r
section
variable {α γ:Type}
theorem Lim.const(x:Option α):Lim (fun _=>x) x:=⟨fun _ _ h=>h,fun _ _ h=>h,fun _ h=>⟨0,h⟩⟩
theorem Lim.of_eq{F:Nat→Option α}{x:Option α}(h:∀n,F n=x):Lim F x:=by have:F=fun _=>x:=funext h;rw[this];exact Lim.const x
theorem Lim.mono' {F : Nat → Option α} {x : Option α} (h : Lim F x) {n m : Nat} (hm : n ≤ m) {r : α} (hr : F n = some r) : F m = some r := by
  induction m with
  | zero => have : n = 0 := by omega
            subst this; exact hr
  | succ m ih =>
    rcases Nat.lt_or_ge m n with q | q
    · have : n = m + 1 := by omega
      subst this; exact hr
    · exact h.mono m r (ih q)
theorem Lim.bind{F:Nat→Option γ}{x:Option γ}(h:Lim F x){G:Nat→γ→Option α}{g:γ→Option α}(hg:∀v,Lim (fun n=>G n v) (g v)):Lim (fun n=>(F n).bind (G n)) (x.bind g):=by
 have inv:∀{a:Option γ} {f:γ→Option α} {r:α},a.bind f=some r→∃v,a=some v∧f v=some r:=fun {a f r} h=>by
  cases a with
  |none=>cases h
  |some v=>exact⟨v,rfl,h⟩
 refine⟨fun n r hr=>?_,fun n r hr=>?_,fun r hr=>?_⟩
 ·obtain⟨v,h1,h2⟩:=inv hr;rw[h.mono n v h1];exact(hg v).mono n r h2
 ·obtain⟨v,h1,h2⟩:=inv hr;rw[h.le n v h1];exact(hg v).le n r h2
 ·obtain⟨v,h1,h2⟩:=inv hr;obtain⟨n,hn⟩:=h.sup v h1;obtain⟨m,hm⟩:=(hg v).sup r h2;refine⟨max n m,?_⟩;rw[h.mono' (Nat.le_max_left n m) hn];exact(hg v).mono' (Nat.le_max_right n m) hm
theorem Lim.nat{p:Option γ}{X:Nat→Option α}{x:Option α}{G:Nat→γ→Option α}{g:γ→Option α}(hX:∀n,X n=p.bind (G n))(hx:x=p.bind g)(hg:∀v,Lim (fun n=>G n v) (g v)):Lim X x:=by have:X=fun n=>p.bind (G n):=funext hX;rw[this,hx];exact(Lim.const p).bind hg
def zk0(f:List Value→Hp→Option Outc)(o:Outc):Option Outc:=
 match o with
 |(.next,l,H)=>f l H
 |r=>some r
theorem zdo(s:List Value→Hp→Option Outc)(m:Nat)(l:List Value)(H:Hp):zfl s (m+1) l H=(s l H).bind (zk0 (zfl s m)):=by
 show (match s l H with|some (.next,l',H')=>zfl s m l' H'|r=>r)=_;rcases s l H with _|⟨c,l',H'⟩
 ·rfl
 ·cases c<;>rfl
theorem bind_some{α γ:Type}{a:Option γ}{f:γ→Option α}{r:α}(h:a.bind f=some r):∃v,a=some v∧f v=some r:=by
 cases a with
 |none=>cases h
 |some v=>exact⟨v,rfl,h⟩
theorem znv{f g:List Value→Hp→Option Outc}{o r:Outc}(h:∀l H,f l H=some r→g l H=some r)(hr:zk0 f o=some r):zk0 g o=some r:=by
 obtain⟨c,l,H⟩:=o;cases c with
 |next=>exact h l H hr
 |_=>exact hr
theorem znF{step:List Value→Hp→Option Outc}:∀(n:Nat) {l:List Value} {H:Hp} {r:Outc},zfl step n l H=some r→zfl step (n+1) l H=some r
 |0,l,H,r,h=>by cases h
 |n+1,l,H,r,h=>by rw[zdo]at h ⊢;obtain⟨v,h1,h2⟩:=bind_some h;rw[h1];exact znv (fun l H=>znF n) h2
theorem zp6 {step : List Value → Hp → Option Outc} {n m : Nat} (hm : n ≤ m) {l : List Value} {H : Hp} {r : Outc} (h : zfl step n l H = some r) : zfl step m l H = some r := by
  induction m with
  | zero => have : n = 0 := by omega
            subst this; exact h
  | succ m ih =>
    rcases Nat.lt_or_ge m n with q | q
    · have : n = m + 1 := by omega
      subst this; exact h
    · exact znF m (ih q)
theorem zcd{step:List Value→Hp→Option Outc}{l:List Value}{H:Hp}{r:Outc}:zbi step l H=some r↔∃n,zfl step n l H=some r:=by
 unfold zbi;constructor
 ·intro h;split at h
  ·rename_i hex;obtain⟨n,hn⟩:=hex.choose_spec;have h:hex.choose=r:=by simpa using h
   exact⟨n,by rw[hn,h]⟩
  ·cases h
 ·rintro⟨n,hn⟩
  have hex:∃r n,zfl step n l H=some r:=⟨r,n,hn⟩
  rw[dif_pos hex];obtain⟨m,hm⟩:=hex.choose_spec;have h1:=zp6 (Nat.le_max_left n m) hn;have h2:=zp6 (Nat.le_max_right n m) hm;rw[h1]at h2;exact h2.symm
theorem zaW(step:List Value→Hp→Option Outc)(l:List Value)(H:Hp):zbi step l H=(step l H).bind (zk0 (zbi step)):=by
 apply Option.ext;intro r;rw[zcd];constructor
 ·rintro⟨n,hn⟩
  cases n with
  |zero=>cases hn
  |succ n=>
   rw[zdo]at hn;obtain⟨v,h1,h2⟩:=bind_some hn;rw[h1];exact znv (fun l H h=>zcd.2 ⟨n,h⟩) h2
 ·intro h;obtain⟨⟨c,l',H'⟩,h1,h2⟩:=bind_some h;cases c with
  |next=>
   obtain⟨n,hn⟩:=zcd.1 h2;exact⟨n+1,by rw[zdo,h1];exact hn⟩
  |_=>exact⟨1,by rw[zdo,h1];exact h2⟩
theorem Lim.iter{F:Nat→List Value→Hp→Option Outc}{step:List Value→Hp→Option Outc}(h:∀l H,Lim (fun n=>F n l H) (step l H)):∀(m:Nat) (l:List Value) (H:Hp),Lim (fun n=>zfl (F n) m l H) (zfl step m l H)
 |0,l,H=>Lim.const none
 |m+1,l,H=>by
  have e1:(fun n=>zfl (F n) (m+1) l H)=fun n=>(F n l H).bind (zk0 (zfl (F n) m)):=funext fun n=>zdo (F n) m l H;rw[e1,zdo];refine(h l H).bind fun o=>?_;obtain⟨c,l',H'⟩:=o;cases c with
  |next=>exact Lim.iter h m l' H'
  |_=>exact Lim.const _
theorem Lim.loop{F:Nat→List Value→Hp→Option Outc}{step:List Value→Hp→Option Outc}(h:∀l H,Lim (fun n=>F n l H) (step l H))(l:List Value)(H:Hp):Lim (fun n=>zbi (F n) l H) (zbi step l H):=by
 refine⟨fun n r hr=>?_,fun n r hr=>?_,fun r hr=>?_⟩
 ·obtain⟨m,hm⟩:=zcd.1 hr;exact zcd.2 ⟨m,(Lim.iter h m l H).mono n r hm⟩
 ·obtain⟨m,hm⟩:=zcd.1 hr;exact zcd.2 ⟨m,(Lim.iter h m l H).le n r hm⟩
 ·obtain⟨m,hm⟩:=zcd.1 hr;obtain⟨n,hn⟩:=(Lim.iter h m l H).sup r hm;exact⟨n,zcd.2 ⟨m,hn⟩⟩
structure zfo(P:Program)(O:Orc)(f:FuncId)(hs:Nat→zai)(h:zai):Prop where
 lim:∀g a H,Lim (fun n=>hs n g a H) (h g a H)
variable {P:Program}{O:Orc}{f:FuncId}{hs:Nat→zai}{h:zai}
theorem znl{α:Type}{v:Value}{K KP:Nat→Value→Option α}{k kp:Value→Option α}(hk:∀u,Lim (fun n=>K n u) (k u))(hp:∀u,Lim (fun n=>KP n u) (kp u)):Lim (fun n=>zhj v (K n) (KP n)) (zhj v k kp):=by
 unfold zhj;split
 ·exact hk _
 ·exact hp _
 ·exact Lim.const _
theorem opR_lim(hc:zfo P O f hs h)(fr:Fr)(S:St)(o:Oper):Lim (fun n=>opR ⟨P,O,hs n,f⟩ fr S o) (opR ⟨P,O,h,f⟩ fr S o):=by
 unfold opR opC;dsimp only;cases o.op<;>(try dsimp only)<;>first|exact Lim.of_eq fun n=>rfl|skip
 case makeMap t r=>cases r<;>exact Lim.of_eq fun n=>rfl
 case slice T x lo hi mx=>cases mx<;>exact Lim.of_eq fun n=>rfl
 case next it b=>cases b<;>exact Lim.of_eq fun n=>rfl
 rename_i c;rcases c.callee with fo|⟨rv,m⟩|b
 ·refine Lim.nat (fun n=>zaF (g:=some) fun v=>rfl) (zaF (g:=some) fun v=>rfl) fun fv=>?_;refine Lim.nat (fun n=>zbx _ (g:=some) fun v=>rfl) (zbx _ (g:=some) fun v=>rfl) fun vs=>?_;have e:∀h':zai,zgd O h' fv vs S.hp (fun v H=>some (Slot.val v,(⟨S.bx,H⟩:St)))=(zgd O h' fv vs S.hp fun v H=>some (v,H)).bind fun p=>some (Slot.val p.1,(⟨S.bx,p.2⟩:St)):=fun h'=>zhk fun _ _=>rfl;have e1:(fun n=>zgd O (hs n) fv vs S.hp (fun v H=>some (Slot.val v,(⟨S.bx,H⟩:St))))=fun n=>(zgd O (hs n) fv vs S.hp fun v H=>some (v,H)).bind fun p=>some (Slot.val p.1,(⟨S.bx,p.2⟩:St)):=funext fun n=>e (hs n);show Lim (fun n=>zgd O (hs n) fv vs S.hp (fun v H=>some (Slot.val v,(⟨S.bx,H⟩:St)))) (zgd O h fv vs S.hp (fun v H=>some (Slot.val v,(⟨S.bx,H⟩:St))));rw[e1,e h];refine Lim.bind ?_ fun v=>Lim.const _;unfold zgd;split
  ·rename_i g first captured;cases O.pan g with
   |true=>
    have e2:∀h':zai,zhl h' g (first.toList++(vs++captured.toList)) S.hp (fun v H=>some (v,H))=(h' g (first.toList++(vs++captured.toList)) S.hp).bind fun p=>zhj p.1 (fun u=>some (u,p.2)) fun _=>none:=fun h'=>by unfold zhl;rcases h' g (first.toList++(vs++captured.toList)) S.hp with _|⟨v,H'⟩<;>rfl
    simp only[e2];exact(hc.lim g _ S.hp).bind fun p=>Lim.const _
   |false=>
   dsimp only;have e2:∀h':zai,zab h' g (first.toList++(vs++captured.toList)) S.hp (fun v H=>some (v,H))=h' g (first.toList++(vs++captured.toList)) S.hp:=fun h'=>by unfold zab;rcases h' g (first.toList++(vs++captured.toList)) S.hp with _|⟨v,H'⟩<;>rfl
   simp only[e2];exact hc.lim g _ S.hp
  ·exact Lim.const _
 ·exact Lim.const _
 ·exact Lim.const _
theorem zmm(hc:zfo P O f hs h){fr:Fr}{S:St}{o:Oper}{K:Nat→Slot→St→Option α}{k:Slot→St→Option α}(hk:∀s S,Lim (fun n=>K n s S) (k s S)):Lim (fun n=>opC ⟨P,O,hs n,f⟩ fr S o (K n)) (opC ⟨P,O,h,f⟩ fr S o k):=by have e1:(fun n=>opC ⟨P,O,hs n,f⟩ fr S o (K n))=fun n=>(opR ⟨P,O,hs n,f⟩ fr S o).bind fun p=>K n p.1 p.2:=funext fun n=>zoM _ _ _ _ _;rw[e1,zoM];exact(opR_lim hc fr S o).bind fun p=>hk p.1 p.2
theorem opW_lim(hc:zfo P O f hs h){fr:Fr}{S:St}{o:Oper}{KP:Nat→Value→Hp→Option α}{kp:Value→Hp→Option α}(hp:∀x H,Lim (fun n=>KP n x H) (kp x H)){K:Nat→Slot→St→Option α}{k:Slot→St→Option α}(hk:∀s S,Lim (fun n=>K n s S) (k s S)) :
  Lim (fun n=>opW ⟨P,O,hs n,f⟩ fr S o (KP n) (K n)) (opW ⟨P,O,h,f⟩ fr S o kp k):=by
 unfold opW;split
 ·rename_i c _;split
  ·rename_i g _;dsimp only;refine Lim.nat (fun n=>zbx _ (g:=some) fun v=>rfl) (zbx _ (g:=some) fun v=>rfl) fun vs=>?_;have e2:∀(h':zai) (q1 q2:Value→Hp→Option α),zjZ h' g vs S.hp q1 q2=(h' g vs S.hp).bind fun p=>zhj p.1 (fun u=>q2 u p.2) fun x=>q1 x p.2:=fun h' q1 q2=>by unfold zjZ;rcases h' g vs S.hp with _|⟨v,H'⟩<;>rfl
   show Lim (fun n=>zjZ (hs n) g vs S.hp (KP n) fun v H=>K n (.val v) ⟨S.bx,H⟩) (zjZ h g vs S.hp kp fun v H=>k (.val v) ⟨S.bx,H⟩);simp only[e2];exact(hc.lim g _ S.hp).bind fun p=>znl (fun u=>hk _ _) fun x=>hp _ _
  ·exact Lim.const _
 ·dsimp only;refine Lim.nat (fun n=>zaF (g:=some) fun v=>rfl) (zaF (g:=some) fun v=>rfl) fun v=>?_;cases v<;>first|exact hp _ _|exact Lim.const _
 ·exact Lim.const _
theorem zlD{α:Type}(ops:List Oper)(fr:Fr)(o:Oper)(k:Bool→Fr→Option α):zd3 ops fr o k=(zd3 ops fr o fun b fr=>some (b,fr)).bind fun p=>k p.1 p.2:=by
 unfold zd3;split
 ·rfl
 ·split
  ·split
   ·split
    ·rfl
    ·exact zaF fun v=>zfx fun b=>br_nat rfl rfl
   ·rfl
  ·rfl
theorem zlE{α:Type}{ops:List Oper}{fr:Fr}{o:Oper}{K:Nat→Bool→Fr→Option α}{k:Bool→Fr→Option α}(hk:∀b fr,Lim (fun n=>K n b fr) (k b fr)):Lim (fun n=>zd3 ops fr o (K n)) (zd3 ops fr o k):=
 Lim.nat (fun n=>zlD ops fr o (K n)) (zlD ops fr o k) fun p=>hk p.1 p.2
theorem zi3{α:Type}(hc:zfo P O f hs h){ops:List Oper}{KP:Nat→Value→Hp→Option α}{kp:Value→Hp→Option α}(hp:∀x H,Lim (fun n=>KP n x H) (kp x H)){K:Nat→Fr→St→Option α}{k:Fr→St→Option α}(hk:∀fr S,Lim (fun n=>K n fr S) (k fr S)):∀(l:List Oper) (fr:Fr) (S:St),Lim (fun n=>opsC ⟨P,O,hs n,f⟩ ops (KP n) (K n) l fr S) (opsC ⟨P,O,h,f⟩ ops kp k l fr S)
 |[],fr,S=>hk fr S
 |o::l,fr,S=>by
  refine zlE fun b fr=>?_;cases b with
  |true=>
   have e:∀h',panS ⟨P,O,h',f⟩ o=panS ⟨P,O,h,f⟩ o:=fun h'=>rfl;simp only[e];cases O.pan f&&panS ⟨P,O,h,f⟩ o with
   |false=>exact zmm hc fun s S'=>zi3 hc hp hk l _ _
   |true=>exact opW_lim hc hp fun s S'=>zi3 hc hp hk l _ _
  |false=>exact zi3 hc hp hk l _ _
theorem zmF{α:Type}{p:Prop}(k:Option α):chk p k=(chk p (some ())).bind fun _=>k:=by unfold chk;split<;>rfl
theorem zoa{α:Type}(C:Ctx)(fr:Fr)(S:St)(o:Oper)(s:Slot)(k:Option α):zh7 C fr S o s k=(zh7 C fr S o s (some ())).bind fun _=>k:=by
 unfold zh7;dsimp only;cases s<;>first|rfl|skip;rename_i v;cases o.op<;>(try dsimp only)<;>first|rfl|skip
 case load T a=>
  refine zcx fun n agg=>?_;cases ev C.P.globals.size fr a with
  |loc d off=>
   dsimp only;rcases S.bx d with _|b
   ·rfl
   ·cases b<;>first|rfl|exact zmF k
  |val p=>exact zmF k
  |_=>rfl
 case lookup T m key ok=>exact zaF fun m=>zaF fun key=>zbN fun kt z=>zmF k
 case call c=>
  refine zbx _ fun vs=>?_;generalize c.argTypes.toList=ts;rcases vs with _|⟨x,_|⟨y,vs⟩⟩<;>rcases ts with _|⟨t,_|⟨u,ts⟩⟩<;>(try dsimp only)<;>first|rfl|skip;rcases C.P.underlying t with _|d
  ·rfl
  ·dsimp only;rcases lenK d with _|q
   ·rfl
   ·exact zmF k
theorem zob{α:Type}{fr:Fr}{S:St}{o:Oper}{s:Slot}{K:Nat→Option α}{k:Option α}(hk:Lim K k):Lim (fun n=>zh7 ⟨P,O,hs n,f⟩ fr S o s (K n)) (zh7 ⟨P,O,h,f⟩ fr S o s k):=by have e:∀h',zh7 ⟨P,O,h',f⟩ fr S o s (some ())=zh7 ⟨P,O,h,f⟩ fr S o s (some ()):=fun h'=>rfl;exact Lim.nat (p:=zh7 ⟨P,O,h,f⟩ fr S o s (some ())) (G:=fun n _=>K n) (g:=fun _=>k) (fun n=>by rw[zoa,e]) (zoa _ _ _ _ _ _) fun _=>hk
theorem zgR{α:Type}{a i:Nat}{o:Oper}{fr:Fr}{s:Slot}{tag:Option Nat}{K:Nat→Option α}{k:Option α}(hk:Lim K k):∀es:List (Nat×Option Nat×St),Lim (fun n=>zfX ⟨P,O,hs n,f⟩ a i o fr s tag (K n) es) (zfX ⟨P,O,h,f⟩ a i o fr s tag k es)
 |[]=>hk
 |(j,t,S)::es=>by
  unfold zfX;split
  ·exact zgR hk es
  ·exact zob (zgR hk es)
theorem zeQ{α:Type}{a:Nat}{tag:Option Nat}{S:St}{K:Nat→Option α}{k:Option α}(hk:Lim K k):∀rs:List Rd,Lim (fun n=>zeS ⟨P,O,hs n,f⟩ a tag S (K n) rs) (zeS ⟨P,O,h,f⟩ a tag S k rs)
 |[]=>hk
 |r::rs=>by
  unfold zeS;split
  ·exact zeQ hk rs
  ·exact zob (zeQ hk rs)
theorem zoL(hc:zfo P O f hs h){fr:Fr}{S:St}{o:Oper}{K:Nat→Slot→St→Option α}{k:Slot→St→Option α}(hk:∀s S,Lim (fun n=>K n s S) (k s S)):Lim (fun n=>opD ⟨P,O,hs n,f⟩ fr S o (K n)) (opD ⟨P,O,h,f⟩ fr S o k):=by
 unfold opD;dsimp only;cases hl:isLA O f o with
 |true=>
  cases hd:o.dst with
  |none=>exact Lim.const _
  |some d=>exact hk _ _
 |false=>exact zmm hc hk
theorem zh1(hc:zfo P O f hs h){K:Nat→St→Option α}{k:St→Option α}(hk:∀S,Lim (fun n=>K n S) (k S)):∀(l:List Oper) (S:St),Lim (fun n=>zit ⟨P,O,hs n,f⟩ (K n) l S) (zit ⟨P,O,h,f⟩ k l S)
 |[],S=>hk S
 |o::l,S=>by
  unfold zit;dsimp only;cases isLA O f o with
  |true=>exact zmm hc fun _ S'=>zh1 hc hk l S'
  |false=>exact zh1 hc hk l S
theorem zeF{α:Type}(hc:zfo P O f hs h){ops:List Oper}{an:List Nat}{KP:Nat→Value→Hp→Option α}{kp:Value→Hp→Option α}(hp:∀x H,Lim (fun n=>KP n x H) (kp x H)){K:Nat→Fr→St→Option α}{k:Fr→St→Option α}(hk:∀fr S,Lim (fun n=>K n fr S) (k fr S)) :
  ∀(l:List Oper) (i:Nat) (fr:Fr) (S:St) (es:List (Nat×Option Nat×St)) (rs:List Rd),Lim (fun n=>ziS ⟨P,O,hs n,f⟩ ops an (KP n) (K n) l i fr S es rs) (ziS ⟨P,O,h,f⟩ ops an kp k l i fr S es rs)
 |[],i,fr,S,es,rs=>hk fr S
 |o::l,i,fr,S,es,rs=>by
  unfold ziS;refine zlE fun b fr=>?_;cases b with
  |false=>exact zeF hc hp hk l _ _ _ _ _
  |true=>
   dsimp only;obtain⟨tg,ht⟩:∃t,∀h',zbF ⟨P,O,h',f⟩ fr o=t:=⟨zbF ⟨P,O,h,f⟩ fr o,fun h'=>rfl⟩
   have e:∀h',panS ⟨P,O,h',f⟩ o=panS ⟨P,O,h,f⟩ o:=fun h'=>rfl;simp only[ht,e];cases O.pan f&&panS ⟨P,O,h,f⟩ o with
   |true=>
    refine opW_lim hc (fun x H=>?_) fun s S'=>zeQ (zeF hc hp hk l _ _ _ _ _) rs;cases zp4 ops an i with
    |true=>exact hp _ _
    |false=>exact Lim.const _
   |false=>
   dsimp only;cases zbX P O f o with
   |pure=>exact zoL hc fun s S'=>zeF hc hp hk l _ _ _ _ _
   |read=>exact zoL hc fun s S'=>zgR (zeF hc hp hk l _ _ _ _ _) es
   |eff=>exact zoL hc fun s S'=>zeQ (zeF hc hp hk l _ _ _ _ _) rs
theorem drawH_lim{α:Type}(hc:zfo P O f hs h){ops:List Oper}{KP:Nat→Value→Hp→Option α}{kp:Value→Hp→Option α}(hp:∀x H,Lim (fun n=>KP n x H) (kp x H)){K:Nat→Fr→St→Option α}{k:Fr→St→Option α}(hk:∀fr S,Lim (fun n=>K n fr S) (k fr S))(fr:Fr)(S:St) :
  Lim (fun n=>drawH ⟨P,O,hs n,f⟩ ops (KP n) (K n) fr S) (drawH ⟨P,O,h,f⟩ ops kp k fr S):=
 zh1 hc (fun S=>zeF hc hp hk _ _ _ _ _ _) _ _
theorem zf4{α:Type}{fr:Fr}{S:St}:∀(rs:List ResultVar) (k:List Value→Option α),resC P fr S rs k=(resC P fr S rs some).bind k
 |[],k=>rfl
 |.tmp t::rs,k=>by
  have e:∀{γ:Type} (k:List Value→Option γ),resC P fr S (.tmp t::rs) k=sV (getS fr t) fun v=>resC P fr S rs fun vs=>k (v::vs):=fun k=>rfl;rw[e,e];refine zaF fun v=>?_;rw[zf4 rs,zf4 rs fun vs=>some (v::vs)];cases resC P fr S rs some<;>rfl
 |.cell t T::rs,k=>by
  unfold resC;refine zcx fun n agg=>?_;have e:∀v,(resC P fr S rs fun vs=>k (v::vs))=(resC P fr S rs fun vs=>some (v::vs)).bind k:=fun v=>by rw[zf4 rs,zf4 rs fun vs=>some (v::vs)];cases resC P fr S rs some<;>rfl
  cases getS fr t with
  |loc d off=>
   dsimp only;rcases S.bx d with _|b
   ·rfl
   ·cases b<;>first|rfl|exact zjY e
  |val p=>exact zjT e
  |_=>rfl
structure KLim{α:Type}(K:Nat→AM.K α)(k:AM.K α):Prop where
 norm:∀fr S,Lim (fun n=>(K n).norm fr S) (k.norm fr S)
 exit:∀id fr S,Lim (fun n=>(K n).exit id fr S) (k.exit id fr S)
 ret:∀v H,Lim (fun n=>(K n).ret v H) (k.ret v H)
theorem zjl{α γ:Type}{X:γ→Option α}{fr:Fr}:∀(ks:List Nat) {k:List Value→Option α} {g:List Value→Option γ},(∀v,k v=(g v).bind X)→zot fr ks k=(zot fr ks g).bind X
 |[],k,g,h=>h []
 |d::ks,k,g,h=>zaF fun v=>zjl ks fun vs=>h (v::vs)
theorem zg3{α γ:Type}{X:γ→Option α}{S:St}:∀(ks:List Nat) {k:List Value→Option α} {g:List Value→Option γ},(∀v,k v=(g v).bind X)→zl0 S ks k=(zl0 S ks g).bind X
 |[],k,g,h=>h []
 |d::ks,k,g,h=>by
  unfold zl0 boxV;split
  ·exact zg3 ks fun vs=>h _
  ·exact zg3 ks fun vs=>h _
  ·rfl
theorem zqk{α:Type}(x:Option Outc)(k:Ctl→List Value→Hp→Option α):zaG x k=x.bind fun o=>k o.1 o.2.1 o.2.2:=by rcases x with _|⟨c,l,H⟩<;>rfl
theorem zkE{α:Type}{X:Nat→Option Outc}{x:Option Outc}(hx:Lim X x){K:Nat→Ctl→List Value→Hp→Option α}{k:Ctl→List Value→Hp→Option α}(hk:∀c l H,Lim (fun n=>K n c l H) (k c l H)) :
  Lim (fun n=>zaG (X n) (K n)) (zaG x k):=by
 have e:(fun n=>zaG (X n) (K n))=fun n=>(X n).bind fun o=>K n o.1 o.2.1 o.2.2:=funext fun n=>zqk _ _;rw[e,zqk];exact hx.bind fun o=>hk _ _ _
theorem zft{α:Type}{fr:Fr}:∀(rs:List ResultVar) (k:List Value→Option α),zkN fr rs k=(zkN fr rs some).bind k
 |[],k=>rfl
 |.tmp t::rs,k=>by
  unfold zkN;refine zaF fun v=>?_;rw[zft rs,zft rs fun vs=>some (v::vs)];cases zkN fr rs some<;>rfl
 |.cell t T::rs,k=>by unfold zkN;exact zft rs k
theorem zpS{α:Type}{rs:List ResultVar}{ops:List Oper}{fr:Fr}{K:Nat→AM.K α}{k:AM.K α}(hk:KLim K k)(x:Value)(H:Hp):Lim (fun n=>panK ⟨P,O,hs n,f⟩ rs ops fr (K n) x H) (panK ⟨P,O,h,f⟩ rs ops fr k x H):=by
 unfold panK;dsimp only;cases O.dfr f with
 |false=>exact hk.ret _ _
 |true=>
  cases zke ops rs with
  |true=>exact Lim.nat (fun n=>zft rs _) (zft rs _) fun vs=>hk.ret _ _
  |false=>exact Lim.const _
theorem zcr(hc:zfo P O f hs h)(rs:List ResultVar):∀(c:Code) {α:Type} (fr:Fr) (S:St) {K:Nat→AM.K α} {k:AM.K α},KLim K k→Lim (fun n=>exec ⟨P,O,hs n,f⟩ rs c α fr S (K n)) (exec ⟨P,O,h,f⟩ rs c α fr S k)
 |.skip,α,fr,S,K,k,hk=>hk.norm fr S
 |.region id ops draw,α,fr,S,K,k,hk=>by
  unfold exec;cases draw with
  |false=>exact zi3 hc (zpS hk) hk.norm _ _ _
  |true=>
   dsimp only;cases zgI P O f ops.toList (ancs ops.toList) with
   |true=>exact drawH_lim hc (zpS hk) hk.norm _ _
   |false=>exact Lim.const _
 |.seq a b,α,fr,S,K,k,hk=>by
  unfold exec;dsimp only;rcases O.join f (rid b) with _|⟨ks,kb⟩
  ·exact zcr hc rs a fr S ⟨fun fr S=>zcr hc rs b fr S hk,hk.exit,hk.ret⟩
  ·refine zkE (zcr hc rs a fr _ ⟨fun _ _=>Lim.const _,fun _ _ _=>Lim.const _,fun _ _=>Lim.const _⟩) fun c l H=>?_;cases c with
   |next=>exact zcr hc rs b _ _ hk
   |exit id=>exact hk.exit _ _ _
   |ret=>exact hk.ret _ _
 |.cond c x y,α,fr,S,K,k,hk=>by
  unfold exec;dsimp only;refine Lim.nat (p:=sV (ev P.globals.size fr c) fun v=>zae v some) (G:=fun n t=>br t (exec ⟨P,O,hs n,f⟩ rs x α fr S (K n)) (exec ⟨P,O,hs n,f⟩ rs y α fr S (K n)))
   (g:=fun t=>br t (exec ⟨P,O,h,f⟩ rs x α fr S k) (exec ⟨P,O,h,f⟩ rs y α fr S k)) (fun n=>zaF fun v=>zfx fun t=>rfl) (zaF fun v=>zfx fun t=>rfl) fun t=>?_
  cases t with
  |true=>exact zcr hc rs x fr S hk
  |false=>exact zcr hc rs y fr S hk
 |.block id c,α,fr,S,K,k,hk=>by
  unfold exec;refine zcr hc rs c fr S ⟨hk.norm,fun j fr S=>?_,hk.ret⟩
  try dsimp only
  unfold zaI;cases Nat.beq j id with
  |true=>exact hk.norm _ _
  |false=>exact hk.exit _ _ _
 |.loop c,α,fr,S,K,k,hk=>by
  obtain⟨ks,kb,hq⟩:∃ks kb,O.loop f (rid c)=(ks,kb):=⟨_,_,rfl⟩
  unfold exec;simp only[hq];refine Lim.nat (fun n=>zjl ks (g:=some) fun v=>rfl) (zjl ks (g:=some) fun v=>rfl) fun vs=>?_;refine Lim.nat (fun n=>zg3 kb (g:=some) fun v=>rfl) (zg3 kb (g:=some) fun v=>rfl) fun bs=>?_;refine zkE (Lim.loop (fun l H=>zcr hc rs c _ _ ⟨fun _ _=>Lim.const _,fun _ _ _=>Lim.const _,fun _ _=>Lim.const _⟩) _ _) fun c' l H=>?_;cases c' with
  |next=>exact Lim.const _
  |exit id=>exact hk.exit _ _ _
  |ret=>exact hk.ret _ _
 |.exit id,α,fr,S,K,k,hk=>hk.exit id fr S
 |.ret,α,fr,S,K,k,hk=>by
  unfold exec;exact Lim.nat (fun n=>zf4 rs _) (zf4 rs _) fun vs=>hk.ret _ _
 |.rangeFunc _ _ _ _,_,_,_,_,_,_=>Lim.const _
 |.scope _,_,_,_,_,_,_=>Lim.const _
 |.label _,_,_,_,_,_,_=>Lim.const _
 |.goto _,_,_,_,_,_,_=>Lim.const _
 |.refuse _,_,_,_,_,_,_=>Lim.const _
theorem zn3{α:Type}{X:Nat→Option (Value×Hp)}{x:Option (Value×Hp)}(hx:Lim X x){K:Nat→Value→Hp→Option α}{k:Value→Hp→Option α}(hk:∀l H,Lim (fun n=>K n l H) (k l H)) :
  Lim (fun n=>zn5 (X n) (K n)) (zn5 x k):=by
 have e0:∀(x:Option (Value×Hp)) (k:Value→Hp→Option α),zn5 x k=x.bind fun o=>k o.1 o.2:=fun x k=>by rcases x with _|⟨l,H⟩<;>rfl
 have e:(fun n=>zn5 (X n) (K n))=fun n=>(X n).bind fun o=>K n o.1 o.2:=funext fun n=>e0 _ _;rw[e,e0];exact hx.bind fun o=>hk _ _
theorem zkp(hc:zfo P O f hs h)(rs:List ResultVar)(c:Code)(fr:Fr)(S:St):Lim (fun n=>exec ⟨P,O,hs n,f⟩ rs c (Value×Hp) fr S (Kfun ⟨P,O,hs n,f⟩ rs)) (exec ⟨P,O,h,f⟩ rs c (Value×Hp) fr S (Kfun ⟨P,O,h,f⟩ rs)):=
 zcr hc rs c _ _ ⟨fun _ _=>Lim.of_eq fun n=>rfl,fun _ _ _=>Lim.const _,fun _ _=>Lim.const _⟩
theorem znY{α:Type}(hc:zfo P O f hs h)(g:FuncId)(args:List Value)(x:Value)(H:Hp)(k:Hp→Option α):Lim (fun n=>zkv P O (hs n) g args x H k) (zkv P O h g args x H k):=by
 have hg:zfo P O g hs h:=⟨hc.lim⟩
 unfold zkv;rcases P.funcs[g]? with _|fn
 ·exact Lim.const _
 ·dsimp only;cases fn.name == "runtime.NumGoroutine" with
  |true=>exact Lim.const _
  |false=>
   cases O.pan g with
   |true=>exact Lim.const _
   |false=>
    rcases fn.body with _|c
    ·exact Lim.const _
    ·dsimp only;rcases zpI c with _|⟨d,b⟩
     ·exact Lim.const _
     ·dsimp only;exact zn3 (zkp hg _ b _ _) (K:=fun n _ H=>k H) (k:=fun _ H=>k H) fun _ _=>Lim.const _
theorem zqX(hc:zfo P O f hs h)(rs:List ResultVar)(b:Code)(fr:Fr)(S:St)(fo:Operand):Lim (fun n=>zix ⟨P,O,hs n,f⟩ rs b fr S fo) (zix ⟨P,O,h,f⟩ rs b fr S fo):=by
 unfold zix;cases zh5 (wr b []) rs with
 |false=>exact Lim.const _
 |true=>
  dsimp only;rcases ev P.globals.size fr fo with _|fv
  ·exact Lim.const _
  ·exact Lim.const _
  ·rename_i fv;unfold sV;dsimp only;unfold pClos;split
   ·rename_i g cs;dsimp only;refine zn3 (zkp hc _ b _ _) fun v H=>znl (fun u=>?_) fun x=>?_
    ·have q1:∀vs:List Value,Lim (fun n=>zqH rs vs fun tv=>zkv P O (hs n) g cs .nilIface H fun H'=>endL P fr H' rs tv fun vs=>some (W1 (resV vs),H')) (zqH rs vs fun tv=>zkv P O h g cs .nilIface H fun H'=>endL P fr H' rs tv fun vs=>some (W1 (resV vs),H')):=fun vs=>by
      unfold zqH;split
      ·exact znY hc _ _ _ _ _
      ·exact Lim.const _
     unfold zoh;split
     ·exact q1 _
     ·split
      ·exact q1 _
      ·exact Lim.const _
    ·unfold pTail;split
     ·exact znY hc _ _ _ _ _
     ·exact Lim.const _
   ·exact Lim.const _
  ·exact Lim.const _
theorem zko(hc:zfo P O f hs h)(rs:List ResultVar):∀(c:Code) (fr:Fr) (S:St),Lim (fun n=>znR ⟨P,O,hs n,f⟩ rs c fr S) (znR ⟨P,O,h,f⟩ rs c fr S)
 |.seq a b,fr,S=>by
  unfold znR;rcases zqh a with _|⟨o1,fo⟩
  ·dsimp only;rcases O.join f (rid b) with _|⟨ks,kb⟩
   ·exact zcr hc rs a fr S ⟨fun fr S=>zko hc rs b fr S,fun _ _ _=>Lim.const _,fun _ _=>Lim.const _⟩
   ·refine zkE (zcr hc rs a fr _ ⟨fun _ _=>Lim.const _,fun _ _ _=>Lim.const _,fun _ _=>Lim.const _⟩) fun c l H=>?_;cases c with
    |next=>exact zko hc rs b _ _
    |exit id=>exact Lim.const _
    |ret=>exact Lim.const _
  ·exact zmm hc fun s S'=>zqX hc rs b _ _ fo
 |.skip,_,_=>Lim.const _
 |.region ..,_,_=>Lim.const _
 |.cond ..,_,_=>Lim.const _
 |.block ..,_,_=>Lim.const _
 |.loop ..,_,_=>Lim.const _
 |.exit _,_,_=>Lim.const _
 |.ret,_,_=>Lim.const _
 |.rangeFunc _ _ _ _,_,_=>Lim.const _
 |.scope _,_,_=>Lim.const _
 |.label _,_,_=>Lim.const _
 |.goto _,_,_=>Lim.const _
 |.refuse _,_,_=>Lim.const _
theorem execB_lim(hc:zfo P O f hs h)(rs:List ResultVar)(c:Code)(fr:Fr)(S:St):Lim (fun n=>zqU ⟨P,O,hs n,f⟩ rs c fr S) (zqU ⟨P,O,h,f⟩ rs c fr S):=by
 unfold zqU;dsimp only;cases O.dfr f with
 |false=>exact zkp hc rs c _ _
 |true=>
  cases O.pan f with
  |true=>exact zko hc rs c fr S
  |false=>exact Lim.const _
theorem znZ{ext:FuncId→Option (List Value→Hp→Option (Value×Hp))}(hc:∀f,zfo P O f hs h)(g:FuncId)(args:List Value)(H:Hp):Lim (fun n=>zkw P O ext (hs n) g args H) (zkw P O ext h g args H):=by
 unfold zkw;rcases P.funcs[g]? with _|fn
 ·exact Lim.const _
 ·dsimp only;cases fn.name == "runtime.NumGoroutine" with
  |true=>exact Lim.const _
  |false=>
   dsimp only;rcases fn.body with _|c
   ·exact Lim.const _
   ·dsimp only;rcases ext g with _|e
    ·exact execB_lim (hc g) _ c _ _
    ·exact Lim.const _
theorem zg4{ext:FuncId→Option (List Value→Hp→Option (Value×Hp))}:∀(n:Nat) (g:FuncId) (args:List Value) (H:Hp) (r:Value×Hp),runN P O ext n g args H=some r→runN P O ext (n+1) g args H=some r
 |0,g,args,H,r,h=>by cases h
 |n+1,g,args,H,r,h=>by
  have hch:∀f,zfo P O f (fun i=>match i with|0=>runN P O ext n|_=>runN P O ext (n+1)) (runN P O ext (n+1)):=fun f=>⟨fun g a H=>⟨fun i r hr=>by
    cases i with
    |zero=>exact zg4 n g a H r hr
    |succ i=>exact hr,fun i r hr=>by
    cases i with
    |zero=>exact zg4 n g a H r hr
    |succ i=>exact hr,fun r hr=>⟨1,hr⟩⟩⟩
  exact(znZ (ext:=ext) hch g args H).mono 0 r h
theorem zl5 {ext : FuncId → Option (List Value → Hp → Option (Value × Hp))} {g : FuncId} {args : List Value} {H : Hp} {r : Value × Hp} : run P O ext g args H = some r ↔ ∃ n, runN P O ext n g args H = some r := by
  have hle : ∀ {n m : Nat} {r : Value × Hp}, n ≤ m → runN P O ext n g args H = some r → runN P O ext m g args H = some r := by
    intro n m r hm hr
    induction m with
    | zero => have : n = 0 := by omega
              subst this; exact hr
    | succ m ih =>
      rcases Nat.lt_or_ge m n with q | q
      · have : n = m + 1 := by omega
        subst this; exact hr
      · exact zg4 m g args H r (ih q)
  unfold run
  constructor
  · intro h
    split at h
    · rename_i hex
      obtain ⟨n, hn⟩ := hex.choose_spec
      have h : hex.choose = r := by simpa using h
      exact ⟨n, by rw [hn, h]⟩
    · cases h
  · rintro ⟨n, hn⟩
    have hex : ∃ r n, runN P O ext n g args H = some r := ⟨r, n, hn⟩
    rw [dif_pos hex]
    obtain ⟨m, hm⟩ := hex.choose_spec
    have h1 := hle (Nat.le_max_left n m) hn
    have h2 := hle (Nat.le_max_right n m) hm
    rw [h1] at h2
    exact h2.symm
theorem run_eq{ext:FuncId→Option (List Value→Hp→Option (Value×Hp))}(g:FuncId)(args:List Value)(H:Hp):run P O ext g args H=zkw P O ext (run P O ext) g args H:=by
 have hch:∀f,zfo P O f (runN P O ext) (run P O ext):=fun f=>⟨fun g a H=>⟨fun n r hr=>zg4 n g a H r hr,fun n r hr=>zl5.2 ⟨n,hr⟩,fun r hr=>zl5.1 hr⟩⟩
 have hl:=znZ (ext:=ext) hch g args H;apply Option.ext;intro r;constructor
 ·intro h;obtain⟨n,hn⟩:=zl5.1 h;cases n with
  |zero=>cases hn
  |succ n=>exact hl.le n r hn
 ·intro h;obtain⟨n,hn⟩:=hl.sup r h;exact zl5.2 ⟨n+1,hn⟩
theorem zaC{ext:FuncId→Option (List Value→Hp→Option (Value×Hp))}{g:FuncId}{fn:Func}(hf:P.funcs[g]?=some fn)(hn:(fn.name == "runtime.NumGoroutine")=false)(hb:fn.body.isSome=true)(hx:ext g=none)(args:List Value)(H:Hp) :
  run P O ext g args H=znS P O (run P O ext) g fn args H:=by
 rw[run_eq];unfold zkw znS;rw[hf];dsimp only;rw[hn];dsimp only;obtain⟨c,hc⟩:=Option.isSome_iff_exists.1 hb;rw[hc];dsimp only;rw[hx];rfl
end
section
variable {α:Type}{P:Program}
theorem zag(b:Bool)(k:Bool→Option α):zae (.bool b) k=k b:=rfl
theorem s_br(b:Bool)(x y:Option α):br b x y=if b=true then x else y:=by cases b<;>rfl
theorem zbL(T:TypeId)(kd:IntKind)(a b:Int)(k:Value→Option α):pBin P .lss T (.int kd a) (.int kd b) k=k (.bool (decide (a<b))):=by simp[pBin,binV,zeb]
theorem zl4(T:TypeId)(kd:IntKind)(a b:Int)(k:Value→Option α):pBin P .leq T (.int kd a) (.int kd b) k=k (.bool (decide (a≤b))):=by simp[pBin,binV,zeb]
theorem zei(T:TypeId)(kd:IntKind)(a b:Int)(k:Value→Option α):pBin P .gtr T (.int kd a) (.int kd b) k=k (.bool (decide (a>b))):=by simp[pBin,binV,zeb]
theorem zeJ(T:TypeId)(kd:IntKind)(a b:Int)(k:Value→Option α):pBin P .geq T (.int kd a) (.int kd b) k=k (.bool (decide (a≥b))):=by simp[pBin,binV,zeb]
theorem zaD(T:TypeId)(kd:IntKind)(a b:Int)(k:Value→Option α):pBin P .eql T (.int kd a) (.int kd b) k=k (.bool (decide (a=b))):=by
 have:(a==b)=decide (a=b):=by rw[Bool.eq_iff_iff];simp
 simp[pBin,binV,zeb,this]
theorem zcz(T:TypeId)(kd:IntKind)(a b:Int)(k:Value→Option α):pBin P .neq T (.int kd a) (.int kd b) k=k (.bool (decide (a≠b))):=by
 have:(a != b)=decide (a≠b):=by rw[Bool.eq_iff_iff];simp
 simp[pBin,binV,zeb,this]
theorem zbM(T:TypeId)(kd:IntKind)(a b:Int)(k:Value→Option α):pBin P .add T (.int kd a) (.int kd b) k=k (.int kd (kd.wrap (a+b))):=by simp[pBin,binV,zeb]
theorem zd8(T:TypeId)(kd:IntKind)(a b:Int)(k:Value→Option α):pBin P .sub T (.int kd a) (.int kd b) k=k (.int kd (kd.wrap (a-b))):=by simp[pBin,binV,zeb]
theorem s_mul(T:TypeId)(kd:IntKind)(a b:Int)(k:Value→Option α):pBin P .mul T (.int kd a) (.int kd b) k=k (.int kd (kd.wrap (a*b))):=by simp[pBin,binV,zeb]
theorem zb0(b:Bool)(k:Value→Option α):pUn .not (.bool b) k=k (.bool !b):=rfl
theorem zbw(a:Addr)(k:Option α):pNil (.pointer (some a)) k=k:=rfl
theorem zaY(n i o:Nat)(k:Value→Option α):za5 n (.pointer (some ⟨i,o,none⟩)) k=k (.pointer (some ⟨i,o+n,none⟩)):=rfl
theorem zeh{H:Hp}{i:Nat}{cs:List Value}{own:Bool}(h:H.get i=some (.cells cs own))(o:Nat)(v:Value)(hv:cs[o]?=some v)(k:Value→Option α):zaH 1 false H (.pointer (some ⟨i,o,none⟩)) k=k v:=by simp[zaH,Hp.rdP,Hp.rd,h,zcD,hv]
theorem zb4(cs:List Value)(o:Nat)(v:Value)(hv:cs[o]?=some v)(k:Value→Option α):zaf 1 false cs o k=k v:=by simp[zaf,zcD,hv]
theorem zay(c:Ctl)(l:List Value)(H:Hp)(k:Ctl→List Value→Hp→Option α):zaG (some (c,l,H)) k=k c l H:=rfl
theorem zdl(p:Prop) [Decidable p](a b:Option Outc)(k:Ctl→List Value→Hp→Option α):zaG (if p then a else b) k=if p then zaG a k else zaG b k:=by split<;>rfl
theorem zaR(a:Option α)(b:Nat→Option α)(c:Option α):zaM .next a b c=a:=rfl
theorem zb3(j:Nat)(a:Option α)(b:Nat→Option α)(c:Option α):zaM (.exit j) a b c=b j:=rfl
theorem zcb(a:Option α)(b:Nat→Option α)(c:Option α):zaM .ret a b c=c:=rfl
theorem zbf(j:Nat)(x y:Option α):zaI j j x y=x:=by simp[zaI]
theorem zac{h:zai}{g:FuncId}{args:List Value}{H:Hp}{v:Value}{H':Hp}(e:h g args H=some (v,H'))(k:Value→Hp→Option α):zab h g args H k=k v H':=by simp[zab,e]
end
end Go.AM
namespace Go.AM
open List Go
variable {α:Type}
theorem bT{p:Prop} [Decidable p](h:p)(x y:Option α):(zae (.bool (decide p)) fun b=>br b x y)=x:=by show br (decide p) x y=x;rw[decide_eq_true h];rfl
theorem bF{p:Prop} [Decidable p](h:¬p)(x y:Option α):(zae (.bool (decide p)) fun b=>br b x y)=y:=by show br (decide p) x y=y;rw[decide_eq_false h];rfl
theorem eT{P:Program}{T:TypeId}{kd:IntKind}{a b:Int}(h:a=b)(x y:Option α):(pBin P .eql T (.int kd a) (.int kd b) fun v=>zae v fun b=>br b x y)=x:=by rw[zaD,bT h]
theorem eF{P:Program}{T:TypeId}{kd:IntKind}{a b:Int}(h:¬a=b)(x y:Option α):(pBin P .eql T (.int kd a) (.int kd b) fun v=>zae v fun b=>br b x y)=y:=by rw[zaD,bF h]
theorem lT{P:Program}{T:TypeId}{kd:IntKind}{a b:Int}(h:a<b)(x y:Option α):(pBin P .lss T (.int kd a) (.int kd b) fun v=>zae v fun b=>br b x y)=x:=by rw[zbL,bT h]
theorem lF{P:Program}{T:TypeId}{kd:IntKind}{a b:Int}(h:¬a<b)(x y:Option α):(pBin P .lss T (.int kd a) (.int kd b) fun v=>zae v fun b=>br b x y)=y:=by rw[zbL,bF h]
theorem x01(a b:Value)(k:Value→Value→Option α):(zaa (.tuple #[a,b]) 0 fun u=>zaa (.tuple #[a,b]) 1 fun v=>k u v)=k a b:=rfl
theorem qg0{β:Type}{a:β}{l:List β}{d:β}:(a::l).getD 0 d=a:=getD_cons_zero
theorem qg1{β:Type}{a:β}{l:List β}{n:Nat}{d:β}:(a::l).getD (n+1) d=l.getD n d:=getD_cons_succ
theorem qd1{β:Type}{a:β}{l:List β}{n:Nat}:(a::l).drop (n+1)=l.drop n:=drop_succ_cons
theorem qd0{β:Type}{l:List β}:l.drop 0=l:=drop_zero
end Go.AM
namespace Go.AM
open List Go
structure Frm(M:Nat→Prop)(H H':Hp):Prop where
 next:H.next≤H'.next
 same:∀j,j<H.next→¬M j→H'.get j=H.get j
theorem Frm.refl(M:Nat→Prop)(H:Hp):Frm M H H:=⟨Nat.le_refl _,fun _ _ _=>rfl⟩
theorem Frm.trans{M N:Nat→Prop}{H H1 H2:Hp}(h:Frm M H H1)(k:Frm N H1 H2)(hn:∀j,N j→M j∨H.next≤j):Frm M H H2:=
 ⟨Nat.le_trans h.next k.next,fun j hj hm=>by
  rw[k.same j (Nat.lt_of_lt_of_le hj h.next) (fun q=>by rcases hn j q with a|a;exact hm a;omega),h.same j hj hm]⟩
def vid:Value→Option Nat
 |.slice (some a) _ _=>some a.block
 |_=>none
def Id(v:Value)(j:Nat):Prop:=vid v=some j
theorem get_new(H:Hp)(o:AObj)(i:Nat):(H.new o).get i=if i=H.next then some o else H.get i:=rfl
theorem get_set(H:Hp)(j:Nat)(o:Option AObj)(i:Nat):(H.set j o).get i=if i=j then o else H.get i:=rfl
theorem zlG(H:Hp)(o:AObj)(M:Nat→Prop):Frm M H (H.new o):=⟨by show H.next≤H.next+1;omega,fun j hj _=>by rw[get_new,if_neg (by omega)]⟩
theorem fr_set(H:Hp)(i:Nat)(o:Option AObj)(M:Nat→Prop)(hm:M i):Frm M H (H.set i o):=⟨Nat.le_refl _,fun j hj hn=>by rw[get_set,if_neg (fun e=>hn (by rw[e];exact hm))]⟩
def Vec(H:Hp)(sz:Nat)(v:Value)(n:Nat)(cs:List Value):Prop:=
 (n=0∧cs=[]∧v=.slice none 0 0)∨∃y c rest,v=.slice (some ⟨y,0,some sz⟩) n c∧n≤c∧H.get y=some (.cells (cs++rest) true)∧cs.length=n*sz∧rest.length=(c-n)*sz∧y<H.next∧rest.all one=true
section
variable {H H':Hp}{sz:Nat}{v:Value}{n:Nat}{cs:List Value}
theorem Vec.len(h:Vec H sz v n cs){α:Type}(H':Hp)(k:Value→Option α):pLen .sl v H' k=k (.int .i64 n):=by rcases h with⟨rfl,_,rfl⟩|⟨y,c,rest,rfl,_⟩<;>rfl
theorem Vec.lt(h:Vec H sz v n cs){j:Nat}(hj:Id v j):j<H.next:=by
 rcases h with⟨_,_,rfl⟩|⟨y,c,rest,rfl,_,_,_,_,h,_⟩
 ·cases hj
 ·cases hj;exact h
theorem Vec.keep'(h:Vec H sz v n cs)(hg:∀j,Id v j→H'.get j=H.get j)(hn:H.next≤H'.next):Vec H' sz v n cs:=by
 rcases h with e|⟨y,c,rest,rfl,h1,h2,h3,h4,h5,h6⟩
 ·exact .inl e
 ·exact .inr ⟨y,c,rest,rfl,h1,by rw[hg y rfl];exact h2,h3,h4,Nat.lt_of_lt_of_le h5 hn,h6⟩
theorem Vec.keep{M:Nat→Prop}(h:Vec H sz v n cs)(k:Frm M H H')(hm:∀j,Id v j→¬M j):Vec H' sz v n cs:=
 h.keep' (fun j hj=>k.same j (h.lt hj) (hm j hj)) k.next
theorem Vec.nil(H:Hp)(sz:Nat):Vec H sz (.slice none 0 0) 0 []:=.inl ⟨rfl,rfl,rfl⟩
theorem Vec.ix(h:Vec H sz v n cs){i:Nat}(hi:i<n):∃y,Id v y∧(∃rest,H.get y=some (.cells (cs++rest) true))∧∀(α:Type) (kd:IntKind) (k:Value→Option α),pIdx sz v (.int kd (i:Int)) k=k (.pointer (some ⟨y,i*sz,none⟩)):=by
 rcases h with⟨rfl,_,_⟩|⟨y,c,rest,rfl,h1,h2,h3,h4,h5⟩
 ·omega
 ·refine⟨y,rfl,⟨rest,h2⟩,fun α kd k=>?_⟩;unfold pIdx idxV;have:sz=sz∧(0:Int)≤(i:Int)∧(i:Int)<(n:Int):=⟨rfl,by omega,by omega⟩
  simp only[this,and_self,if_true,Nat.zero_add,Int.toNat_natCast]
theorem zkb{y:Nat}{rest:List Value}{own:Bool}(h:H.get y=some (.cells (cs++rest) own)){o:Nat}{x:Value}(hx:cs[o]?=some x){α:Type}(k:Value→Option α):zaH 1 false H (.pointer (some ⟨y,o,none⟩)) k=k x:=by
 have hlt:=(List.getElem?_eq_some_iff.1 hx).1;have:(cs++rest)[o]?=some x:=by rw[List.getElem?_append_left hlt];exact hx
 simp[zaH,Hp.rdP,Hp.rd,h,zcD,this]
theorem Vec.ids(h:Vec H sz v n cs){y:Nat}(hy:Id v y):∃c rest,v=.slice (some ⟨y,0,some sz⟩) n c∧n≤c∧H.get y=some (.cells (cs++rest) true)∧cs.length=n*sz∧rest.length=(c-n)*sz∧y<H.next∧rest.all one=true:=by
 rcases h with⟨_,_,rfl⟩|⟨y',c,rest,rfl,h⟩
 ·cases hy
 ·cases hy;exact⟨c,rest,rfl,h⟩
theorem Vec.set(h:Vec H sz v n cs){y o m:Nat}(hy:Id v y){x:Value}(hm:(zad x).length=m)(ho:o+m≤cs.length)(h1:(zad x).all one=true) :
  ∃H',(∀(α:Type) (k:Hp→Option α),za8 m H (.pointer (some ⟨y,o,none⟩)) x k=k H')∧Vec H' sz v n (spl cs o (zad x))∧Frm (Id v) H H'∧H'.next=H.next:=by
 obtain⟨c,rest,rfl,g1,g2,g3,g4,g5,g6⟩:=h.ids hy;have hs:spl (cs++rest) o (zad x)=spl cs o (zad x)++rest:=by unfold spl;rw[take_append_of_le_length (by omega),drop_append_of_le_length (by omega)];simp
 have hw:zbV m (cs++rest) o x=some (spl cs o (zad x)++rest):=by unfold zbV;rw[if_pos ⟨hm,by rw[length_append];omega,h1⟩,hs]
 have hl:(spl cs o (zad x)).length=cs.length:=by unfold spl;simp only[length_append,length_take,length_drop,hm];omega
 refine⟨H.set y (some (.cells (spl cs o (zad x)++rest) true)),fun α k=>?_,.inr ⟨y,c,rest,rfl,g1,?_,by rw[hl];exact g3,g4,g5,g6⟩,fr_set _ _ _ _ rfl,rfl⟩
 ·unfold za8;have:H.wr (.pointer (some ⟨y,o,none⟩)) m x=some (H.set y (some (.cells (spl cs o (zad x)++rest) true))):=by show (match H.get y with|some (.cells cs true)=>(match zbV m cs o x with|some cs'=>some (H.set y (some (.cells cs' true)))|none=>none)|_=>none)=_;rw[g2];dsimp only;rw[hw]
  rw[this]
 ·rw[get_set,if_pos rfl]
theorem Vec.cut(h:Vec H sz v n cs)(hcs:cs.all one=true){m:Nat}(hm:m≤n):∃v',(∀(α:Type) (kd:IntKind) (k:Value→Option α),zgk sz v none (some (.int kd (m:Int))) k=k v')∧Vec H sz v' m (cs.take (m*sz))∧(∀j,Id v' j→Id v j):=by
 rcases h with⟨rfl,rfl,rfl⟩|⟨y,c,rest,rfl,h1,h2,h3,h4,h5,h6⟩
 ·obtain rfl:m=0:=by omega
  refine⟨.slice none 0 0,fun α kd k=>?_,by simpa using Vec.nil H sz,fun j hj=>hj⟩;unfold zgk zk7;simp[zdz]
 ·refine⟨.slice (some ⟨y,0,some sz⟩) m c,fun α kd k=>?_,.inr ⟨y,c,cs.drop (m*sz)++rest,rfl,by omega,?_,?_,?_,h5,?_⟩,fun j hj=>hj⟩
  ·have:zk7 sz (.slice (some ⟨y,0,some sz⟩) n c) none (some (.int kd (m:Int)))=some (.slice (some ⟨y,0,some sz⟩) m c):=by unfold zk7;dsimp only[zdz];rw[if_pos ⟨rfl,by omega,by omega,by omega⟩];simp
   unfold zgk;rw[this]
  ·rw[←append_assoc,take_append_drop];exact h2
  ·rw[length_take,h3];exact Nat.min_eq_left (Nat.mul_le_mul_right sz hm)
  ·rw[length_append,length_drop,h3,h4,Nat.sub_mul,Nat.sub_mul];have a1:=Nat.mul_le_mul_right sz hm;have a2:=Nat.mul_le_mul_right sz h1;rw[Nat.sub_mul] at *;omega
  ·rw[all_append,Bool.and_eq_true];refine⟨?_,h6⟩;rw[all_eq_true]at hcs ⊢;exact fun x hx=>hcs x (mem_of_mem_drop hx)
theorem ziX(zs:List Value):∀n,(repl n zs).length=n*zs.length
 |0=>by simp[repl]
 |n+1=>by show (zs++repl n zs).length=_;rw[length_append,ziX zs n,Nat.succ_mul];omega
theorem Vec.make(H:Hp){sz bytes:Nat}{zs:List Value}(hz:zs.length=sz){n:Nat}(hb:n*bytes≤2^47) :
  ∃v,(∀(α:Type) (k:Value→Hp→Option α),zcj sz bytes zs (.int .i64 (n:Int)) (.int .i64 (n:Int)) H k=k v (H.new (.cells (repl n zs) true)))∧Vec (H.new (.cells (repl n zs) true)) sz v n (repl n zs)∧(∀j,Id v j→j=H.next):=by
 refine⟨.slice (some ⟨H.next,0,some sz⟩) n n,fun α k=>?_,.inr ⟨H.next,n,[],rfl,Nat.le_refl _,?_,by rw[ziX,hz],by simp,by show H.next<H.next+1;omega,rfl⟩,fun j hj=>by cases hj;rfl⟩
 ·have e:((2:Int)^47)=((2^47:Nat):Int):=by rfl
  have hb':(n:Int)*(bytes:Int)≤2^47:=by rw[e,←Int.natCast_mul];exact Int.ofNat_le.2 hb
  have:zeq sz bytes zs (.int .i64 (n:Int)) (.int .i64 (n:Int)) H=some (.slice (some ⟨H.next,0,some sz⟩) n n,H.new (.cells (repl n zs) true)):=by unfold zeq;dsimp only;rw[if_pos ⟨by omega,by omega,hb'⟩];rfl
  unfold zcj;rw[this]
 ·rw[get_new,if_pos rfl,append_nil]
theorem Vec.push(h:Vec H sz v n cs){bytes:Nat}{zs:List Value}{x:Value}(hs:0<sz)(hs2:sz≤2^24)(hz:zs.length=sz)(hx:(zad x).length=sz)(h1:(zad x).all one=true)(hb:(n+1)*bytes≤2^47) :
  ∃v' H',(∀(α:Type) (k:Value→Hp→Option α),(zaP sz zs 1 [(0,x)] H fun t H1=>zbb sz bytes v t H1 k)=k v' H')∧Vec H' sz v' (n+1) (cs++zad x)∧Frm (Id v) H H'∧(∀j,Id v' j→Id v j∨H.next≤j)∧(∃j,Id v' j):=by
 have hbuild:zbP sz zs 1 [(0,x)] H=some (.slice (some ⟨H.next,0,some sz⟩) 1 1,H.new (.cells (zad x) true)):=by
  unfold zbP;rw[if_neg (by omega)];have e0:spl (repl 1 zs) (0*sz) (zad x)=zad x:=by
   unfold spl;have:(repl 1 zs).length=sz:=by rw[ziX,hz,Nat.one_mul]
   rw[Nat.zero_mul,take_zero,nil_append,drop_of_length_le (by omega),append_nil]
  have:zkm (fun i=>some (i*sz,sz)) (repl 1 zs) [(0,x)]=some (zad x):=by unfold zkm;dsimp only;rw[if_pos ⟨hx,by rw[ziX,hz];omega,h1⟩,e0];rfl
  rw[this]
 have hb':∀(α:Type) (k:Value→Hp→Option α),(zaP sz zs 1 [(0,x)] H fun t H1=>zbb sz bytes v t H1 k)=zbb sz bytes v (.slice (some ⟨H.next,0,some sz⟩) 1 1) (H.new (.cells (zad x) true)) k:=fun α k=>by unfold zaP;rw[hbuild]
 generalize hH1:H.new (.cells (zad x) true)=H1 at hb';have n1:H1.next=H.next+1:=by rw[←hH1];rfl
 have g1:∀j,j<H.next→H1.get j=H.get j:=fun j hj=>by rw[←hH1,get_new,if_neg (by omega)]
 have gt:H1.get H.next=some (.cells (zad x) true):=by rw[←hH1,get_new,if_pos rfl]
 have hsrc:zbA sz (.slice (some ⟨H.next,0,some sz⟩) 1 1) H1=some (1,zad x):=by unfold zbA;dsimp only;rw[if_pos rfl,gt];dsimp only;rw[if_pos (by omega),drop_zero,take_of_length_le (by omega)]
 rcases h with⟨rfl,rfl,rfl⟩|⟨y,c,rest,rfl,k1,k2,k3,k4,k5,k6⟩
 ·refine⟨.slice (some ⟨H1.next,0,some sz⟩) 1 1,H1.new (.cells (zad x) true),fun α k=>?_,.inr ⟨H1.next,1,[],rfl,Nat.le_refl _,?_,by simpa using hx,by simp,by show H1.next<H1.next+1;omega,rfl⟩,⟨by show H.next≤H1.next+1;omega,fun j hj _=>by rw[get_new,if_neg (by omega),g1 j hj]⟩,fun j hj=>?_,⟨_,rfl⟩⟩
  ·rw[hb'];unfold zbb zbc;rw[hsrc];dsimp only;rw[if_neg (by decide),if_pos ⟨by omega,h1⟩];rfl
  ·rw[get_new,if_pos rfl,nil_append,append_nil]
  ·cases hj;exact .inr (by show H.next≤H1.next;omega)
 ·have gy:H1.get y=some (.cells (cs++rest) true):=by rw[g1 y k5];exact k2
  have hyn:y≠H.next:=by omega
  by_cases hc:n+1≤c
  ·-- in place
   have hrl:sz≤rest.length:=by rw[k4];have:1*sz≤(c-n)*sz:=Nat.mul_le_mul_right sz (by omega);omega
   have hsp:spl (cs++rest) (0+n*sz) (zad x)=(cs++zad x)++rest.drop sz:=by unfold spl;rw[Nat.zero_add,←k3,List.take_left' rfl,hx];rw[drop_append,drop_of_length_le (by omega),nil_append,Nat.add_sub_cancel_left]
   refine⟨.slice (some ⟨y,0,some sz⟩) (n+1) c,H1.set y (some (.cells ((cs++zad x)++rest.drop sz) true)),fun α k=>?_,.inr ⟨y,c,rest.drop sz,rfl,hc,?_,?_,?_,by show y<H1.next;omega,?_⟩,⟨by show H.next≤H1.next;omega,fun j hj hm=>?_⟩,fun j hj=>?_,⟨_,rfl⟩⟩
   ·rw[hb'];unfold zbb zbc;rw[hsrc];dsimp only;rw[if_neg (by simp),if_neg (by omega),gy];dsimp only;rw[if_pos hc,if_pos ⟨by rw[length_append,k3,k4];have:=Nat.mul_le_mul_right sz hc;rw[Nat.sub_mul];have:=Nat.mul_le_mul_right sz k1;omega,h1⟩,hsp]
   ·rw[get_set,if_pos rfl]
   ·rw[length_append,k3,hx,Nat.succ_mul]
   ·rw[length_drop,k4];have:(c-n)*sz=(c-(n+1))*sz+sz:=by rw[←Nat.succ_mul];congr 1;omega
    omega
   ·rw[all_eq_true]at k6 ⊢;exact fun z hz=>k6 z (mem_of_mem_drop hz)
   ·rw[get_set,if_neg (fun e=>hm (by rw[e];rfl)),g1 j hj]
   ·cases hj;exact .inl rfl
  ·-- it moves
   refine⟨.slice (some ⟨H1.next,0,some sz⟩) (n+1) (n+1),(H1.set y none).new (.cells (cs++zad x) true),fun α k=>?_,.inr ⟨H1.next,n+1,[],rfl,Nat.le_refl _,?_,?_,by simp,by show H1.next<H1.next+1;omega,rfl⟩,⟨by show H.next≤H1.next+1;omega,fun j hj hm=>?_⟩,fun j hj=>?_,⟨_,rfl⟩⟩
   ·rw[hb'];unfold zbb zbc;rw[hsrc];dsimp only;have ht:((cs++rest).drop 0).take (n*sz)=cs:=by rw[drop_zero,←k3,List.take_left' rfl]
    rw[if_neg (by simp),if_neg (by omega),gy];dsimp only;rw[if_neg hc,if_pos ⟨by rw[length_append,k3];omega,hb,h1⟩,ht]
   ·rw[get_new,if_pos (show H1.next=(H1.set y none).next from rfl),append_nil]
   ·rw[length_append,k3,hx,Nat.succ_mul]
   ·rw[get_new,if_neg (by show ¬j=H1.next;omega),get_set,if_neg (fun e=>hm (by rw[e];rfl)),g1 j hj]
   ·cases hj;exact .inr (by show H.next≤H1.next;omega)
end
def Rdb(H:Hp)(sz:Nat)(v:Value)(n:Nat)(cs:List Value):Prop:=
 (n=0∧cs=[]∧v=.slice none 0 0)∨∃y c rest own,v=.slice (some ⟨y,0,some sz⟩) n c∧n≤c∧H.get y=some (.cells (cs++rest) own)∧cs.length=n*sz∧y<H.next
section
variable {H H':Hp}{sz:Nat}{v:Value}{n:Nat}{cs:List Value}
theorem Vec.rd(h:Vec H sz v n cs):Rdb H sz v n cs:=by
 rcases h with e|⟨y,c,rest,rfl,h1,h2,h3,h4,h5,h6⟩
 ·exact .inl e
 ·exact .inr ⟨y,c,rest,true,rfl,h1,h2,h3,h5⟩
theorem Rdb.len(h:Rdb H sz v n cs){α:Type}(H':Hp)(k:Value→Option α):pLen .sl v H' k=k (.int .i64 n):=by rcases h with⟨rfl,_,rfl⟩|⟨y,c,rest,own,rfl,_⟩<;>rfl
theorem Rdb.size(h:Rdb H sz v n cs):cs.length=n*sz:=by
 rcases h with⟨rfl,rfl,_⟩|⟨y,c,rest,own,_,_,_,h,_⟩
 ·simp
 ·exact h
theorem Rdb.lt(h:Rdb H sz v n cs){j:Nat}(hj:Id v j):j<H.next:=by
 rcases h with⟨_,_,rfl⟩|⟨y,c,rest,own,rfl,_,_,_,h⟩
 ·cases hj
 ·cases hj;exact h
theorem Rdb.keep'(h:Rdb H sz v n cs)(hg:∀j,Id v j→H'.get j=H.get j)(hn:H.next≤H'.next):Rdb H' sz v n cs:=by
 rcases h with e|⟨y,c,rest,own,rfl,h1,h2,h3,h4⟩
 ·exact .inl e
 ·exact .inr ⟨y,c,rest,own,rfl,h1,by rw[hg y rfl];exact h2,h3,Nat.lt_of_lt_of_le h4 hn⟩
theorem Rdb.keep{M:Nat→Prop}(h:Rdb H sz v n cs)(k:Frm M H H')(hm:∀j,Id v j→¬M j):Rdb H' sz v n cs:=
 h.keep' (fun j hj=>k.same j (h.lt hj) (hm j hj)) k.next
theorem Rdb.ix(h:Rdb H sz v n cs){i:Nat}(hi:i<n):∃y,Id v y∧(∃rest own,H.get y=some (.cells (cs++rest) own))∧∀(α:Type) (kd:IntKind) (k:Value→Option α),pIdx sz v (.int kd (i:Int)) k=k (.pointer (some ⟨y,i*sz,none⟩)):=by
 rcases h with⟨rfl,_,_⟩|⟨y,c,rest,own,rfl,h1,h2,h3,h4⟩
 ·omega
 ·refine⟨y,rfl,⟨rest,own,h2⟩,fun α kd k=>?_⟩;unfold pIdx idxV;have:sz=sz∧(0:Int)≤(i:Int)∧(i:Int)<(n:Int):=⟨rfl,by omega,by omega⟩
  simp only[this,and_self,if_true,Nat.zero_add,Int.toNat_natCast]
theorem Rdb.src(h:Rdb H sz v n cs):zbA sz v H=some (n,cs):=by
 rcases h with⟨rfl,rfl,rfl⟩|⟨y,c,rest,own,rfl,h1,h2,h3,h4⟩
 ·rfl
 ·unfold zbA;dsimp only;rw[if_pos rfl,h2];dsimp only;rw[if_pos (by rw[length_append];omega),drop_zero,←h3,List.take_left' rfl]
theorem Vec.app(h:Vec H sz v n cs){x:Value}{m:Nat}{new:List Value}(hx:Rdb H sz x m new){bytes:Nat}(h1:new.all one=true)(hb:(n+m)*bytes≤2^47) :
  ∃v' H',(∀(α:Type) (k:Value→Hp→Option α),zbb sz bytes v x H k=k v' H')∧Vec H' sz v' (n+m) (cs++new)∧Frm (Id v) H H'∧(∀j,Id v' j→Id v j∨H.next≤j):=by
 have hsrc:=hx.src;have hxl:=hx.size;rcases h with⟨rfl,rfl,rfl⟩|⟨y,c,rest,rfl,k1,k2,k3,k4,k5,k6⟩
 ·by_cases hm:m=0
  ·subst hm;refine⟨.slice none 0 0,H,fun α k=>?_,?_,Frm.refl _ _,fun j hj=>.inl hj⟩
   ·have:zbc sz bytes (.slice none 0 0) x H=some (.slice none 0 0,H):=by unfold zbc;rw[hsrc];rfl
    unfold zbb;rw[this]
   ·have:new=[]:=length_eq_zero_iff.1 (by omega);subst this;exact Vec.nil H sz
  ·refine⟨.slice (some ⟨H.next,0,some sz⟩) m m,H.new (.cells new true),fun α k=>?_,.inr ⟨H.next,m,[],by simp,by omega,?_,by simp;omega,by simp,by show H.next<H.next+1;omega,rfl⟩,zlG _ _ _,fun j hj=>?_⟩
   ·have:zbc sz bytes (.slice none 0 0) x H=some (.slice (some ⟨H.next,0,some sz⟩) m m,H.new (.cells new true)):=by unfold zbc;rw[hsrc];dsimp only;rw[if_neg hm,if_pos ⟨by rw[Nat.zero_add]at hb;exact hb,h1⟩];rfl
    unfold zbb;rw[this]
   ·rw[get_new,if_pos rfl,nil_append,append_nil]
   ·cases hj;exact .inr (Nat.le_refl _)
 ·by_cases hm:m=0
  ·subst hm;have:new=[]:=length_eq_zero_iff.1 (by omega);subst this;refine⟨.slice (some ⟨y,0,some sz⟩) n c,H,fun α k=>?_,.inr ⟨y,c,rest,rfl,k1,by rw[append_nil];exact k2,by rw[append_nil];exact k3,k4,k5,k6⟩,Frm.refl _ _,fun j hj=>.inl hj⟩;have:zbc sz bytes (.slice (some ⟨y,0,some sz⟩) n c) x H=some (.slice (some ⟨y,0,some sz⟩) n c,H):=by unfold zbc;rw[hsrc];dsimp only;rw[if_neg (by simp),if_pos ⟨rfl,k1⟩]
   unfold zbb;rw[this]
  ·by_cases hc:n+m≤c
   ·have hrl:m*sz≤rest.length:=by rw[k4];exact Nat.mul_le_mul_right sz (by omega)
    have hsp:spl (cs++rest) (0+n*sz) new=(cs++new)++rest.drop (m*sz):=by unfold spl;rw[Nat.zero_add,←k3,List.take_left' rfl,hxl];rw[drop_append,drop_of_length_le (by omega),nil_append,Nat.add_sub_cancel_left]
    have hle:(n+m)*sz≤c*sz:=Nat.mul_le_mul_right sz hc;have hcl:(cs++rest).length=c*sz:=by rw[length_append,k3,k4,←Nat.add_mul];congr 1;omega
    refine⟨.slice (some ⟨y,0,some sz⟩) (n+m) c,H.set y (some (.cells ((cs++new)++rest.drop (m*sz)) true)),fun α k=>?_,.inr ⟨y,c,rest.drop (m*sz),rfl,hc,?_,?_,?_,k5,?_⟩,fr_set _ _ _ _ rfl,fun j hj=>.inl hj⟩
    ·have:zbc sz bytes (.slice (some ⟨y,0,some sz⟩) n c) x H=some (.slice (some ⟨y,0,some sz⟩) (n+m) c,H.set y (some (.cells ((cs++new)++rest.drop (m*sz)) true))):=by unfold zbc;rw[hsrc];dsimp only;rw[if_neg (by simp),if_neg (by omega),k2];dsimp only;rw[if_pos hc,if_pos ⟨by rw[hcl];omega,h1⟩,hsp]
     unfold zbb;rw[this]
    ·rw[get_set,if_pos rfl]
    ·rw[length_append,k3,hxl,Nat.add_mul]
    ·rw[length_drop,k4,←Nat.sub_mul];congr 1;omega
    ·rw[all_eq_true]at k6 ⊢;exact fun z hz=>k6 z (mem_of_mem_drop hz)
   ·have ht:((cs++rest).drop 0).take (n*sz)=cs:=by rw[drop_zero,←k3,List.take_left' rfl]
    refine⟨.slice (some ⟨H.next,0,some sz⟩) (n+m) (n+m),(H.set y none).new (.cells (cs++new) true),fun α k=>?_,.inr ⟨H.next,n+m,[],rfl,Nat.le_refl _,?_,?_,by simp,by show H.next<H.next+1;omega,rfl⟩,⟨by show H.next≤H.next+1;omega,fun j hj hm'=>?_⟩,fun j hj=>?_⟩
    ·have:zbc sz bytes (.slice (some ⟨y,0,some sz⟩) n c) x H=some (.slice (some ⟨H.next,0,some sz⟩) (n+m) (n+m),(H.set y none).new (.cells (cs++new) true)):=by unfold zbc;rw[hsrc];dsimp only;rw[if_neg (by simp),if_neg (by omega),k2];dsimp only;rw[if_neg hc,if_pos ⟨by rw[length_append,k3];omega,hb,h1⟩,ht]
     unfold zbb;rw[this]
    ·rw[get_new,if_pos (show H.next=(H.set y none).next from rfl),append_nil]
    ·rw[length_append,k3,hxl,Nat.add_mul]
    ·rw[get_new,if_neg (by show ¬j=H.next;omega),get_set,if_neg (fun e=>hm' (by rw[e];rfl))]
    ·cases hj;exact .inr (Nat.le_refl _)
theorem Vec.empty(H:Hp)(sz:Nat)(zs:List Value):(∀(α:Type) (k:Value→Hp→Option α),zaP sz zs 0 [] H k=k (.slice (some ⟨H.next,0,some sz⟩) 0 0) (H.new (.cells [] true)))∧Vec (H.new (.cells [] true)) sz (.slice (some ⟨H.next,0,some sz⟩) 0 0) 0 []:=
 ⟨fun α k=>by
  have:zbP sz zs 0 [] H=some (.slice (some ⟨H.next,0,some sz⟩) 0 0,H.new (.cells [] true)):=by unfold zbP;rw[if_neg (by omega)];rfl
  unfold zaP
  rw[this],.inr ⟨H.next,0,[],rfl,Nat.le_refl _,by rw[get_new,if_pos rfl];rfl,by simp,by simp,by show H.next<H.next+1;omega,rfl⟩⟩
end
structure Sl where
 sz:Nat
 v:Value
 n:Nat
 cs:List Value
structure Own(H0 H:Hp)(vs:List Sl):Prop where
 next:H0.next≤H.next
 old:∀j,j<H0.next→H.get j=H0.get j
 vec:∀e∈vs,Vec H e.sz e.v e.n e.cs
 new:∀e∈vs,∀j,Id e.v j→H0.next≤j
 apart:vs.Pairwise fun a b=>∀j,Id a.v j→¬Id b.v j
section
variable {H0 H:Hp}{sz:Nat}{v:Value}{n:Nat}{cs:List Value}{r:List Sl}
theorem Own.nil(H:Hp):Own H H []:=⟨Nat.le_refl _,fun _ _=>rfl,fun e h=>(by cases h),fun e h=>(by cases h),List.Pairwise.nil⟩
theorem Own.head{a:Sl}(h:Own H0 H (a::r)):Vec H a.sz a.v a.n a.cs:=h.vec a (mem_cons_self ..)
theorem Own.upd{a a':Sl}{H':Hp}(h:Own H0 H (a::r))(hv:Vec H' a'.sz a'.v a'.n a'.cs)(hf:Frm (Id a.v) H H')(hi:∀j,Id a'.v j→Id a.v j∨H.next≤j):Own H0 H' (a'::r):=by
 obtain⟨h1,h2⟩:=pairwise_cons.1 h.apart;have hn:=h.next;refine⟨Nat.le_trans h.next hf.next,fun j hj=>?_,fun e he=>?_,fun e he j hj=>?_,pairwise_cons.2 ⟨fun e he j x y=>?_,h2⟩⟩
 ·rw[hf.same j (Nat.lt_of_lt_of_le hj h.next) (fun q=>by have:=h.new a (by simp) j q;omega),h.old j hj]
 ·rcases mem_cons.1 he with rfl|he
  ·exact hv
  ·exact(h.vec e (by simp[he])).keep hf fun j x y=>h1 e he j y x
 ·rcases mem_cons.1 he with rfl|he
  ·rcases hi j hj with q|q
   ·exact h.new a (by simp) j q
   ·omega
  ·exact h.new e (by simp[he]) j hj
 ·rcases hi j x with q|q
  ·exact h1 e he j q y
  ·have:=(h.vec e (by simp[he])).lt y;omega
theorem Own.add{a:Sl}{H':Hp}(h:Own H0 H r)(hv:Vec H' a.sz a.v a.n a.cs)(hf:Frm (fun _=>False) H H')(hi:∀j,Id a.v j→H.next≤j):Own H0 H' (a::r):=by
 have hn:=h.next;refine⟨Nat.le_trans h.next hf.next,fun j hj=>?_,fun e he=>?_,fun e he j hj=>?_,pairwise_cons.2 ⟨fun e he j x y=>?_,h.apart⟩⟩
 ·rw[hf.same j (Nat.lt_of_lt_of_le hj h.next) (fun q=>q),h.old j hj]
 ·rcases mem_cons.1 he with rfl|he
  ·exact hv
  ·exact(h.vec e he).keep hf fun j _ q=>q
 ·rcases mem_cons.1 he with rfl|he
  ·have:=hi j hj;omega
  ·exact h.new e he j hj
 ·have:=hi j x;have:=(h.vec e he).lt y;omega
theorem spl_set{α:Type}(f:α→Value)(l:List α){i:Nat}(hi:i<l.length)(x:α):spl (l.map f) (i*1) [f x]=(l.set i x).map f:=by unfold spl;rw[Nat.mul_one,map_set,set_eq_take_append_cons_drop,if_pos (by simpa using hi)];simp
end
end Go.AM
namespace Go.AM
end Go.AM
namespace Go.AM
open Go
section
variable {α:Type}{P:Program}
theorem q_brf(x y:Option α):br false x y=y:=rfl
theorem q_brt(x y:Option α):br true x y=x:=rfl
theorem zjL(kd k2:IntKind)(a:Int)(k:Value→Option α):zav kd (.int k2 a) k=k (.int kd (kd.wrap a)):=rfl
theorem q_ext0(x y:Value)(k:Value→Option α):zaa (.tuple #[x,y]) 0 k=k x:=rfl
theorem q_ext1(x y:Value)(k:Value→Option α):zaa (.tuple #[x,y]) 1 k=k y:=rfl
theorem zpK{k:IntKind}{n:Int}(h1:k.min≤n)(h2:n≤k.max):k.wrap n=n:=by cases k<;>simp[IntKind.wrap,IntKind.min,IntKind.max,IntKind.signed,IntKind.bits] at * <;> omega
theorem ziP{x:Int}(h1:-9223372036854775808≤x)(h2:x≤9223372036854775807):IntKind.i64.wrap x=x:=zpK (by have:IntKind.i64.min=-9223372036854775808:=rfl;omega) (by have:IntKind.i64.max=9223372036854775807:=rfl;omega)
theorem q_u64{x:Int}(h1:0≤x)(h2:x≤18446744073709551615):IntKind.u64.wrap x=x:=zpK (by have:IntKind.u64.min=0:=rfl;omega) (by have:IntKind.u64.max=18446744073709551615:=rfl;omega)
theorem q_u8{x:Int}(h1:0≤x)(h2:x≤255):IntKind.u8.wrap x=x:=zpK (by have:IntKind.u8.min=0:=rfl;omega) (by have:IntKind.u8.max=255:=rfl;omega)
theorem q_rem(T:TypeId)(kd:IntKind)(a b:Nat)(hb:b≠0)(k:Value→Option α):pBin P .rem T (.int kd (a:Int)) (.int kd (b:Int)) k=k (.int kd ((a%b:Nat):Int)):=by
 have hb':¬(b:Int)=0:=by omega
 have:((a:Int).tmod (b:Int))=((a%b:Nat):Int):=Int.ofNat_tmod a b |>.symm;have:binV P .rem T (.int kd (a:Int)) (.int kd (b:Int))=some (.int kd ((a%b:Nat):Int)):=by show (if kd=kd then zeb .rem kd (a:Int) (b:Int) else none)=_;rw[if_pos rfl];unfold zeb;dsimp only;rw[if_neg hb',this]
 unfold pBin;rw[this]
theorem q_at(s:ByteArray)(i:Nat)(b:UInt8)(h:s.data.toList[i]?=some b)(k:Value→Option α):zbg (.string s) (.int .i64 (i:Int)) k=k (.int .u8 (b.toNat:Int)):=by
 have hi:i<s.data.toList.length:=(List.getElem?_eq_some_iff.1 h).1;have hb:s[i]?=some b:=by
  have h1:s.data[i]?=some b:=by rw[←h];simp
  obtain⟨h2,h3⟩:=Array.getElem?_eq_some_iff.1 h1;have h4:i<s.size:=h2;rw[getElem?_pos s i h4];exact congrArg some h3
 have:zq9 s (i:Int)=some (.int .u8 (b.toNat:Int)):=by unfold zq9;rw[if_pos (by omega),Int.toNat_natCast,hb];rfl
 unfold zbg;dsimp only;rw[this]
end
def wv(b:BitVec 64):Value:=.int .u64 (b.toNat:Int)
section
variable {α:Type}{P:Program}
theorem zeU(a:BitVec 64):BitVec.ofInt 64 (a.toNat:Int)=a:=by rw[BitVec.ofInt_natCast,BitVec.ofNat_toNat,BitVec.setWidth_eq]
theorem zky(a:BitVec 64):IntKind.u64.wrap (a.toNat:Int)=(a.toNat:Int):=q_u64 (by omega) (by have:=a.isLt;omega)
theorem zeT(x:Int):Value.int .u64 (IntKind.u64.wrap x)=wv (BitVec.ofInt 64 x):=by unfold wv;congr 1;rw[BitVec.toNat_ofInt];simp[IntKind.wrap,IntKind.signed,IntKind.bits];omega
theorem zq8{op:BinOp}{T:TypeId}{a b c:BitVec 64}{k:Value→Option α}(h:zeb op .u64 (a.toNat:Int) (b.toNat:Int)=some (wv c))(hop:op≠.shl∧op≠.shr):pBin P op T (wv a) (wv b) k=k (wv c):=by
 have:binV P op T (wv a) (wv b)=some (wv c):=by rw[←h];unfold wv binV;cases op<;>first|rfl | (exact absurd rfl hop.1) | (exact absurd rfl hop.2)
 unfold pBin;rw[this]
theorem zlR{op:BinOp}{T:TypeId}{a b:BitVec 64}{c:Bool}{k:Value→Option α}(h:zeb op .u64 (a.toNat:Int) (b.toNat:Int)=some (.bool c))(hop:op≠.shl∧op≠.shr):pBin P op T (wv a) (wv b) k=k (.bool c):=by
 have:binV P op T (wv a) (wv b)=some (.bool c):=by rw[←h];unfold wv binV;cases op<;>first|rfl | (exact absurd rfl hop.1) | (exact absurd rfl hop.2)
 unfold pBin;rw[this]
variable (T:TypeId)(a b:BitVec 64)(k:Value→Option α)
theorem b_and:pBin P .and T (wv a) (wv b) k=k (wv (a&&&b)):=zq8 (by
 show some (Value.int .u64 (IntKind.u64.wrap ((BitVec.ofInt 64 (a.toNat:Int))&&&(BitVec.ofInt 64 (b.toNat:Int))).toNat))=_
 rw[zeU,zeU,zky];rfl) ⟨by decide,by decide⟩
theorem b_or:pBin P .or T (wv a) (wv b) k=k (wv (a|||b)):=zq8 (by
 show some (Value.int .u64 (IntKind.u64.wrap ((BitVec.ofInt 64 (a.toNat:Int))|||(BitVec.ofInt 64 (b.toNat:Int))).toNat))=_
 rw[zeU,zeU,zky];rfl) ⟨by decide,by decide⟩
theorem b_xor:pBin P .xor T (wv a) (wv b) k=k (wv (a ^^^ b)):=zq8 (by
 show some (Value.int .u64 (IntKind.u64.wrap ((BitVec.ofInt 64 (a.toNat:Int)) ^^^ (BitVec.ofInt 64 (b.toNat:Int))).toNat))=_
 rw[zeU,zeU,zky];rfl) ⟨by decide,by decide⟩
theorem b_not:pUn .xor (wv a) k=k (wv (~~~a)):=by
 have:unV .xor (wv a)=some (wv (~~~a)):=by
  show some (Value.int .u64 (IntKind.u64.wrap ((BitVec.ofInt 64 (IntKind.u64.max)) ^^^ (BitVec.ofInt 64 (a.toNat:Int))).toNat))=_;rw[zeU,zky];have:BitVec.ofInt 64 IntKind.u64.max=BitVec.allOnes 64:=by decide
  rw[this,BitVec.allOnes_xor];rfl
 unfold pUn;rw[this]
theorem b_add:pBin P .add T (wv a) (wv b) k=k (wv (a+b)):=zq8 (by
 show some (Value.int .u64 (IntKind.u64.wrap ((a.toNat:Int)+b.toNat)))=_;rw[zeT]
 congr 2) ⟨by decide,by decide⟩
theorem b_sub:pBin P .sub T (wv a) (wv b) k=k (wv (a-b)):=zq8 (by
 show some (Value.int .u64 (IntKind.u64.wrap ((a.toNat:Int)-b.toNat)))=_;rw[zeT];congr 2;apply BitVec.eq_of_toNat_eq;rw[BitVec.toNat_ofInt,BitVec.toNat_sub];have:=a.isLt;have:=b.isLt
 omega) ⟨by decide,by decide⟩
theorem b_mul:pBin P .mul T (wv a) (wv b) k=k (wv (a*b)):=zq8 (by
 show some (Value.int .u64 (IntKind.u64.wrap ((a.toNat:Int)*b.toNat)))=_;rw[zeT]
 congr 2) ⟨by decide,by decide⟩
theorem zgU:pBin P .eql T (wv a) (wv b) k=k (.bool (decide (a=b))):=zlR (by
 show some (Value.bool ((a.toNat:Int)==b.toNat))=_;congr 2;have e:(a.toNat:Int)=b.toNat↔a=b:=⟨fun h=>BitVec.eq_of_toNat_eq (by omega),fun h=>by rw[h]⟩
 rw[Bool.eq_iff_iff]
 simp[e]) ⟨by decide,by decide⟩
theorem b_neq:pBin P .neq T (wv a) (wv b) k=k (.bool (!decide (a=b))):=zlR (by
 show some (Value.bool ((a.toNat:Int) != b.toNat))=_;congr 2;have e:(a.toNat:Int)=b.toNat↔a=b:=⟨fun h=>BitVec.eq_of_toNat_eq (by omega),fun h=>by rw[h]⟩
 rw[Bool.eq_iff_iff]
 simp[e]) ⟨by decide,by decide⟩
theorem b_lss:pBin P .lss T (wv a) (wv b) k=k (.bool (decide (a.toNat<b.toNat))):=zlR (by
 show some (Value.bool (decide ((a.toNat:Int)<b.toNat)))=_;congr 2
 rw[decide_eq_decide];omega) ⟨by decide,by decide⟩
theorem b_leq:pBin P .leq T (wv a) (wv b) k=k (.bool (decide (a.toNat≤b.toNat))):=zlR (by
 show some (Value.bool (decide ((a.toNat:Int)≤b.toNat)))=_;congr 2
 rw[decide_eq_decide];omega) ⟨by decide,by decide⟩
theorem b_gtr:pBin P .gtr T (wv a) (wv b) k=k (.bool (decide (b.toNat<a.toNat))):=zlR (by
 show some (Value.bool (decide ((a.toNat:Int)>b.toNat)))=_;congr 2
 rw[decide_eq_decide];omega) ⟨by decide,by decide⟩
theorem b_geq:pBin P .geq T (wv a) (wv b) k=k (.bool (decide (b.toNat≤a.toNat))):=zlR (by
 show some (Value.bool (decide ((a.toNat:Int)≥b.toNat)))=_;congr 2
 rw[decide_eq_decide];omega) ⟨by decide,by decide⟩
theorem b_shl(kd:IntKind)(n:Nat):pBin P .shl T (wv a) (.int kd (n:Int)) k=k (wv (a <<< n)):=by
 have:binV P .shl T (wv a) (.int kd (n:Int))=some (wv (a <<< n)):=by
  show (if (n:Int)<0 then none else some (Value.int .u64 (IntKind.u64.wrap ((a.toNat:Int)*2^(min ((n:Int).toNat) 64)))))=_;rw[if_neg (by omega),zeT,Int.toNat_natCast];congr 2;apply BitVec.eq_of_toNat_eq;rw[BitVec.toNat_ofInt,BitVec.toNat_shiftLeft,Nat.shiftLeft_eq];have e:((a.toNat:Int)*2^(min n 64))=((a.toNat*2^(min n 64):Nat):Int):=by push_cast;rfl
  rw[e];have e2:(((a.toNat*2^(min n 64):Nat):Int)%((2^64:Nat):Int)).toNat=a.toNat*2^(min n 64)%2^64:=by omega
  rw[e2];rcases Nat.lt_or_ge n 64 with h|h
  ·rw[Nat.min_eq_left (by omega)]
  ·rw[Nat.min_eq_right h];have:a.toNat*2^n=a.toNat*2^(n-64)*2^64:=by rw[Nat.mul_assoc,←Nat.pow_add];congr 2;omega
   rw[this,Nat.mul_mod_left,Nat.mul_mod_left]
 unfold pBin;rw[this]
theorem zk3(kd:IntKind)(n:Nat):pBin P .shr T (wv a) (.int kd (n:Int)) k=k (wv (a >>> n)):=by
 have:binV P .shr T (wv a) (.int kd (n:Int))=some (wv (a >>> n)):=by
  show (if (n:Int)<0 then none else some (Value.int .u64 ((a.toNat:Int).fdiv (2^(min ((n:Int).toNat) 64)))))=_;rw[if_neg (by omega),Int.toNat_natCast];unfold wv;congr 2;rw[BitVec.toNat_ushiftRight,Nat.shiftRight_eq_div_pow];have e:((2:Int)^(min n 64))=((2^(min n 64):Nat):Int):=by push_cast;rfl
  rw[e,←Int.ofNat_fdiv];congr 1;rcases Nat.lt_or_ge n 64 with h|h
  ·rw[Nat.min_eq_left (by omega)]
  ·rw[Nat.min_eq_right h,Nat.div_eq_of_lt a.isLt,Nat.div_eq_of_lt (Nat.lt_of_lt_of_le a.isLt (Nat.pow_le_pow_right (by decide) h))]
 unfold pBin;rw[this]
end
end Go.AM
namespace Go.AM.N14
open Go Go.AM
abbrev W64:=BitVec 64
theorem bit_eq{a b:W64}(h:∀j,a.getLsbD j=b.getLsbD j):a=b:=BitVec.eq_of_getLsbD_eq fun i _=>h i
theorem bit_hi(a:W64){j:Nat}(h:64≤j):a.getLsbD j=false:=BitVec.getLsbD_of_ge a j h
theorem zoP{x y i:Nat}(hx:x.testBit i=false)(hy:y.testBit i=true)(h:∀j,i<j→x.testBit j=y.testBit j):x<y:=by
 have e:x/2^(i+1)=y/2^(i+1):=Nat.eq_of_testBit_eq fun j=>by rw[Nat.testBit_div_two_pow,Nat.testBit_div_two_pow];exact h _ (by omega)
 have p:∀z:Nat,z/2^(i+1)=z/2^i/2:=fun z=>by rw[Nat.pow_succ,Nat.div_div_eq_div_mul]
 rw[p,p]at e;rw[Nat.testBit_eq_decide_div_mod_eq]at hx hy;have hx:¬x/2^i%2=1:=of_decide_eq_false hx;have hy:y/2^i%2=1:=of_decide_eq_true hy;have:x/2^i<y/2^i:=by omega
 exact Nat.lt_of_not_le fun hle=>by have:=Nat.div_le_div_right (c:=2^i) hle;omega
theorem zqQ{a b:W64}{i:Nat}(h1:a.getLsbD i=false)(h2:b.getLsbD i=true)(h:∀j,i<j→a.getLsbD j=b.getLsbD j):a.toNat<b.toNat:=
 zoP (i:=i) (by rw[BitVec.testBit_toNat];exact h1) (by rw[BitVec.testBit_toNat];exact h2) fun j hj=>by rw[BitVec.testBit_toNat,BitVec.testBit_toNat];exact h j hj
theorem zq2{a b:Nat}(h:a≠b):∃i,a.testBit i≠b.testBit i∧∀j,i<j→a.testBit j=b.testBit j:=by
 have hx:a ^^^ b≠0:=fun e=>h (Nat.eq_of_testBit_eq fun j=>by have q:=congrArg (fun z=>Nat.testBit z j) e;simpa using q);refine⟨(a ^^^ b).log2,?_,fun j hj=>?_⟩
 ·have:(a ^^^ b).testBit (a ^^^ b).log2=true:=Nat.testBit_log2 hx;rw[Nat.testBit_xor]at this;intro e;rw[e]at this;simp at this
 ·have hl:a ^^^ b<2^j:=Nat.lt_of_lt_of_le Nat.lt_log2_self (Nat.pow_le_pow_right (by decide) hj);have:(a ^^^ b).testBit j=false:=Nat.testBit_lt_two_pow hl;rw[Nat.testBit_xor]at this;simpa using this
theorem zq3{a b:W64}(h:a.toNat<b.toNat):∃i,i<64∧a.getLsbD i=false∧b.getLsbD i=true∧∀j,i<j→a.getLsbD j=b.getLsbD j:=by
 obtain⟨i,h1,h2⟩:=zq2 (a:=a.toNat) (b:=b.toNat) (by omega);rw[BitVec.testBit_toNat,BitVec.testBit_toNat]at h1;have h2:∀j,i<j→a.getLsbD j=b.getLsbD j:=fun j hj=>by have:=h2 j hj;rwa [BitVec.testBit_toNat,BitVec.testBit_toNat]at this
 have hi:i<64:=by
  rcases Nat.lt_or_ge i 64 with q|q
  ·exact q
  ·rw[bit_hi a q,bit_hi b q]at h1;exact absurd rfl h1
 cases ha:a.getLsbD i with
 |false=>
  refine⟨i,hi,ha,?_,h2⟩;cases hb:b.getLsbD i with
  |true=>rfl
  |false=>rw[ha,hb]at h1;exact absurd rfl h1
 |true=>
  cases hb:b.getLsbD i with
  |true=>rw[ha,hb]at h1;exact absurd rfl h1
  |false=>have:=zqQ hb ha fun j hj=>(h2 j hj).symm;omega
def Fit(o z x:W64):Prop:=∀j,(o.getLsbD j=true→x.getLsbD j=true)∧(z.getLsbD j=true→x.getLsbD j=false)
theorem part{o z x t:W64}(hf:Fit o z t)(hl:x.toNat<t.toNat):∃i,i<64∧x.getLsbD i=false∧t.getLsbD i=true∧z.getLsbD i=false∧(∀j,i<j→t.getLsbD j=x.getLsbD j) ∧
  (∀j,i<j→(o.getLsbD j=true→x.getLsbD j=true)∧(z.getLsbD j=true→x.getLsbD j=false)):=by
 obtain⟨i,h1,h2,h3,h4⟩:=zq3 hl;refine⟨i,h1,h2,h3,?_,fun j hj=>(h4 j hj).symm,fun j hj=>?_⟩
 ·cases hz:z.getLsbD i with
  |false=>rfl
  |true=>rw[(hf i).2 hz]at h3;cases h3
 ·rw[h4 j hj];exact hf j
def msk(n:Nat):W64:=BitVec.ofNat 64 (2^n-1)
theorem zkD(n j:Nat):(msk n).getLsbD j=(decide (j<64)&&decide (j<n)):=by unfold msk;rw[BitVec.getLsbD_ofNat,Nat.testBit_two_pow_sub_one]
theorem msk_all:msk 64=BitVec.allOnes 64:=rfl
theorem msk_nat(n:Nat)(hn:n≤64):(msk n).toNat=2^n-1:=by unfold msk;have:2^n≤2^64:=Nat.pow_le_pow_right (by decide) hn;have:=Nat.two_pow_pos n;rw[BitVec.toNat_ofNat,Nat.mod_eq_of_lt (by omega)]
theorem zeC{y:W64}{n:Nat}(hn:n≤64):y.toNat≤(msk n).toNat↔∀j,n≤j→y.getLsbD j=false:=by
 rw[msk_nat n hn];have p:=Nat.two_pow_pos n;constructor
 ·intro h j hj;rw[←BitVec.testBit_toNat];exact Nat.testBit_lt_two_pow (Nat.lt_of_lt_of_le (show y.toNat<2^n by omega) (Nat.pow_le_pow_right (by decide) hj))
 ·intro h;have:y.toNat<2^n:=Nat.lt_pow_two_of_testBit _ fun i hi=>by rw[BitVec.testBit_toNat];exact h i hi
  omega
end Go.AM.N14
namespace Go.AM
open Go Go.Shelf Go.RowKit Go.Proofs
theorem szB:(Go.Proofs.Tryz.prog.info? 159).map (·.size)=some 2:=by kernel_rfl
set_option maxHeartbeats 1000000 in
set_option maxRecDepth 100000 in
theorem cc_used(b:Nat)(w:World)(h0:w.cell? ⟨b,0,none⟩=some (.pointer (some ⟨b,0,none⟩))) :
  Calls Go.Proofs.Tryz.prog 158 #[.pointer (some ⟨b,0,none⟩)] w fun e w'=>e=.returned (.tuple #[])∧w'=w:=by
 obtain⟨j,hj,_⟩:=Option.map_eq_some_iff.1 szB
 go_enter Go.Proofs.Tryz.func158,Go.Proofs.Tryz.ntmps158
 go_wp2
 rw[Lib.run_neq_ptr_same w _ Go.Proofs.Tryz.underlying156 hj]
 go_wp2
 go_end0
 exact⟨rfl,rfl⟩
theorem cB2:Go.Proofs.Tryz.prog.cellsOf 159=2:=by kernel_rfl
theorem lsB0(k:Nat):liesAt Go.Proofs.Tryz.prog Go.Proofs.Tryz.prog.depth 159 (k+1) 0 159 1=true:=by kernel_rfl
theorem lsB(n:Nat)(h:2≤n):liesAt Go.Proofs.Tryz.prog Go.Proofs.Tryz.prog.depth 159 (n/Go.Proofs.Tryz.prog.cellsOf 159) 0 159 1=true:=by
 rw[cB2];obtain⟨k,hk⟩:∃k,n/2=k+1:=⟨n/2-1,by omega⟩
 rw[hk];exact lsB0 k
set_option maxHeartbeats 1000000 in
set_option maxRecDepth 100000 in
theorem cc_fresh(b n:Nat)(h2:2≤n)(w:World)(h0:w.cell? ⟨b,0,none⟩=some (.pointer none))(hsh:w.shape? b=some (159,n))(hfz:w.frozen? ⟨b,0,none⟩=false) :
  Calls Go.Proofs.Tryz.prog 158 #[.pointer (some ⟨b,0,none⟩)] w fun e w'=>e=.returned (.tuple #[])∧w'=w.setCell ⟨b,0,none⟩ (.pointer (some ⟨b,0,none⟩)):=by
 obtain⟨j,hj,hjs⟩:=Option.map_eq_some_iff.1 szB
 go_enter Go.Proofs.Tryz.func158,Go.Proofs.Tryz.ntmps158
 go_wp2
 rw[Lib.run_to_unsafe w ⟨b,0,none⟩ Go.Proofs.Tryz.underlying156 Go.Proofs.Tryz.underlying219 hj (by rw[hjs];decide) hsh (show 0<n by omega)];simp only[Result.andThen];rw[Oper.upon_value]
 go_wp2
 rw[run_callFunc_extern Go.Proofs.Tryz.func229 (by kernel_rfl) (by kernel_rfl) (by kernel_rfl) (e:=Extern.AbiNoEscape.same) (by kernel_rfl)];rw[Lib.run_noEscape];simp only[Result.andThen];rw[Oper.upon_value]
 go_wp2
 rw[Lib.run_from_unsafe w ⟨b,0,none⟩ Go.Proofs.Tryz.underlying219 Go.Proofs.Tryz.underlying156 hj hsh (lsB n h2)];simp only[Result.andThen];rw[Oper.upon_value]
 go_wp2
 go_end0
 exact⟨rfl,rfl⟩
theorem cB:Go.Proofs.Tryz.prog.cellsOf 5=1:=by kernel_rfl
set_option maxHeartbeats 2000000 in
set_option maxRecDepth 100000 in
theorem str_row(b g c cells:Nat)(l:List UInt8)(h0:l≠[])(hc:c≠0)(hn:l.length≤cells)(hs:l.length≤9223372036854775807)(w:World)
  (c1:w.cell? ⟨b,1,none⟩=some (.slice (some ⟨g,0,none⟩) l.length c)) (hsh:w.shape? g=some (5,cells)) (hcell:∀j x,l[j]?=some x→w.cell? ((⟨g,0,none⟩:Addr).add j)=some (.int .u8 x.toNat)) :
  Calls Go.Proofs.Tryz.prog 95 #[.pointer (some ⟨b,0,none⟩)] w fun e w'=>e=.returned (.string ⟨l.toArray⟩)∧∃w0:World,w0.heap=w.heap∧w0.os=w.os∧w0.tape=w.tape∧w0.output=w.output∧w'=w0.freeze ⟨g,0,none⟩ l.length:=by
 have d1:w.drew.cell? ⟨b,1,none⟩=some (.slice (some ⟨g,0,none⟩) l.length c):=c1;have hSD:(Builtin.unsafeSliceData_ #[157] 199 #[.slice (some ⟨g,0,none⟩) l.length c]).run Go.Proofs.Tryz.prog w.drew=.ok (.pointer (some ⟨g,0,none⟩)) w.drew:=
  Lib.run_unsafeSliceData_row _ _ _ _ _ _ hc
 have hUS:(Builtin.unsafeString_ #[199,3] 9 #[.pointer (some ⟨g,0,none⟩),.int .i64 l.length]).run Go.Proofs.Tryz.prog w.drew=.ok (.string ⟨l.toArray⟩) (w.drew.freeze ⟨g,0,none⟩ l.length):=
  Lib.run_unsafeString_row w.drew 199 3 9 5 Go.Proofs.Tryz.underlying199 cB g cells hsh l h0 hn hs hcell
 go_enter Go.Proofs.Tryz.func95,Go.Proofs.Tryz.ntmps95
 go_wp2
 go_region
 all_goals (go_wp2;go_ret;exact⟨rfl,w.drew,rfl,rfl,rfl,rfl,rfl⟩)
set_option maxHeartbeats 2000000 in
set_option maxRecDepth 100000 in
theorem str_nil(b:Nat)(w:World)(c1:w.cell? ⟨b,1,none⟩=some (.slice none 0 0)) :
  Calls Go.Proofs.Tryz.prog 95 #[.pointer (some ⟨b,0,none⟩)] w fun e w'=>e=.returned (.string ⟨#[]⟩)∧w'.heap=w.heap∧w'.os=w.os∧w'.tape=w.tape∧w'.output=w.output:=by
 have d1:w.drew.cell? ⟨b,1,none⟩=some (.slice none 0 0):=c1;have hSD:(Builtin.unsafeSliceData_ #[157] 199 #[.slice none 0 0]).run Go.Proofs.Tryz.prog w.drew=.ok (.pointer none) w.drew:=rfl;have hUS:(Builtin.unsafeString_ #[199,3] 9 #[.pointer none,.int .i64 0]).run Go.Proofs.Tryz.prog w.drew=.ok (.string .empty) w.drew:=Lib.run_unsafeString_none w.drew _ _ _ none
 go_enter Go.Proofs.Tryz.func95,Go.Proofs.Tryz.ntmps95
 go_wp2
 go_region
 all_goals (go_wp2;go_ret;exact⟨rfl,rfl,rfl,rfl,rfl⟩)
end Go.AM
namespace Go.AM
open List Go
structure BI where
 b:Nat
 s:Nat
 t:Nat
abbrev Bt:=Nat→Option BI
def Bt.le(β β':Bt):Prop:=∀i x,β i=some x→β' i=some x
theorem Bt.le_refl(β:Bt):β.le β:=fun _ _ h=>h
theorem Bt.le_trans{a b c:Bt}(h:a.le b)(k:b.le c):a.le c:=fun i x e=>k i x (h i x e)
inductive VRel(β:Bt):Value→Value→Prop
 |bool (b:Bool):VRel β (.bool b) (.bool b)
 |int (k:IntKind) (n:Int):VRel β (.int k n) (.int k n)
 |string (s:ByteArray):VRel β (.string s) (.string s)
 |pnil:VRel β (.pointer none) (.pointer none)
 |ptr (i o:Nat) (x:BI) (h:β i=some x):VRel β (.pointer (some ⟨i,o,none⟩)) (.pointer (some ⟨x.b,x.s+o,none⟩))
 |snil:VRel β (.slice none 0 0) (.slice none 0 0)
 |slice (i o z n c:Nat) (x:BI) (o' c':Nat) (h:β i=some x) (hn:n≤c) (hc:c≤c') (ht:o'+c'*z≤x.t) (ho:0<c→o'=x.s+o) :
   VRel β (.slice (some ⟨i,o,some z⟩) n c) (.slice (some ⟨x.b,o',none⟩) n c')
 |mnil:VRel β (.map none) (.map none)
 |map (i:Nat) (x:BI) (h:β i=some x):VRel β (.map (some i)) (.map (some x.b))
 |nilFunc:VRel β .nilFunc .nilFunc
 |nilIface:VRel β .nilIface .nilIface
 |iface (t:TypeId) (v v':Value) (h:VRel β v v'):VRel β (.iface t v) (.iface t v')
 |func (fn:Fn) (fs fs' cs cs':List Value) (hl:fs.length=fs'.length) (h:∀(k:Nat) v v',fs[k]?=some v→fs'[k]?=some v'→VRel β v v')
   (hl2:cs.length=cs'.length) (h2:∀(k:Nat) v v',cs[k]?=some v→cs'[k]?=some v'→VRel β v v'):VRel β (.func fn ⟨fs⟩ ⟨cs⟩) (.func fn ⟨fs'⟩ ⟨cs'⟩)
 |agg (cs cs':List Value) (hl:cs.length=cs'.length) (h:∀(k:Nat) v v',cs[k]?=some v→cs'[k]?=some v'→VRel β v v'):VRel β (.agg ⟨cs⟩) (.agg ⟨cs'⟩)
 |tuple (cs cs':List Value) (hl:cs.length=cs'.length) (h:∀(k:Nat) v v',cs[k]?=some v→cs'[k]?=some v'→VRel β v v'):VRel β (.tuple ⟨cs⟩) (.tuple ⟨cs'⟩)
def LRel(β:Bt)(l l':List Value):Prop:=l.length=l'.length∧∀(k:Nat) v v',l[k]?=some v→l'[k]?=some v'→VRel β v v'
theorem VRel.mono{β β':Bt}(hb:β.le β'){v v':Value}(h:VRel β v v'):VRel β' v v':=by
 induction h with
 |bool b=>exact .bool b
 |int k n=>exact .int k n
 |string s=>exact .string s
 |pnil=>exact .pnil
 |ptr i o x h=>exact .ptr i o x (hb _ _ h)
 |snil=>exact .snil
 |slice i o z n c x o' c' h hn hc ht ho=>exact .slice i o z n c x o' c' (hb _ _ h) hn hc ht ho
 |mnil=>exact .mnil
 |map i x h=>exact .map i x (hb _ _ h)
 |nilFunc=>exact .nilFunc
 |nilIface=>exact .nilIface
 |iface t v v' _ ih=>exact .iface t v v' ih
 |func fn fs fs' cs cs' hl _ hl2 _ ih ih2=>exact .func fn fs fs' cs cs' hl ih hl2 ih2
 |agg cs cs' hl _ ih=>exact .agg cs cs' hl ih
 |tuple cs cs' hl _ ih=>exact .tuple cs cs' hl ih
theorem LRel.mono{β β':Bt}(hb:β.le β'){l l':List Value}(h:LRel β l l'):LRel β' l l':=⟨h.1,fun k v v' a b=>(h.2 k v v' a b).mono hb⟩
theorem LRel.nil(β:Bt):LRel β [] []:=⟨rfl,by simp⟩
theorem LRel.cons{β:Bt}{v v':Value}{l l':List Value}(h:VRel β v v')(hl:LRel β l l'):LRel β (v::l) (v'::l'):=by
 refine⟨by simp[hl.1],fun k a b ha hb=>?_⟩;cases k with
 |zero=>simp at ha hb;subst ha;subst hb;exact h
 |succ k=>simp at ha hb;exact hl.2 k a b ha hb
theorem LRel.append{β:Bt}{a a' b b':List Value}(h:LRel β a a')(k:LRel β b b'):LRel β (a++b) (a'++b'):=by
 refine⟨by simp[h.1,k.1],fun i v v' hv hv'=>?_⟩;by_cases hi:i<a.length
 ·rw[List.getElem?_append_left hi]at hv;rw[List.getElem?_append_left (h.1▸hi)]at hv';exact h.2 i v v' hv hv'
 ·rw[List.getElem?_append_right (by omega)]at hv;rw[List.getElem?_append_right (by have:=h.1;omega),←h.1]at hv';exact k.2 _ v v' hv hv'
theorem LRel.take{β:Bt}{a a':List Value}(h:LRel β a a')(n:Nat):LRel β (a.take n) (a'.take n):=by refine⟨by simp[h.1],fun i v v' hv hv'=>?_⟩;rw[List.getElem?_take]at hv hv';split at hv<;>simp_all;exact h.2 i v v' hv hv'
theorem LRel.drop{β:Bt}{a a':List Value}(h:LRel β a a')(n:Nat):LRel β (a.drop n) (a'.drop n):=by refine⟨by simp[h.1],fun i v v' hv hv'=>?_⟩;rw[List.getElem?_drop]at hv hv';exact h.2 _ v v' hv hv'
theorem LRel.get{β:Bt}{a a':List Value}(h:LRel β a a'){k:Nat}{v:Value}(hv:a[k]?=some v):∃v',a'[k]?=some v'∧VRel β v v':=by have hk:k<a.length:=(List.getElem?_eq_some_iff.1 hv).1;have hk':k<a'.length:=h.1▸hk;exact⟨a'[k],by simp[hk'],h.2 k v _ hv (by simp[hk'])⟩
theorem LRel.of_get{β:Bt}{a a':List Value}(hl:a.length=a'.length)(h:∀(k:Nat) v,a[k]?=some v→∃v',a'[k]?=some v'∧VRel β v v'):LRel β a a':=
 ⟨hl,fun k v v' hv hv'=>by obtain⟨u,hu,hr⟩:=h k v hv;rw[hv']at hu;cases hu;exact hr⟩
theorem zcu{β:Bt}{cs:Array Value}{v':Value}:VRel β (.agg cs) v'↔∃cs':Array Value,v'=.agg cs'∧LRel β cs.toList cs'.toList:=by
 constructor
 ·intro h;cases h with
  |agg cs cs' hl h=>exact⟨⟨cs'⟩,rfl,hl,h⟩
 ·rintro⟨cs',rfl,hl,h⟩
  obtain⟨cs⟩:=cs;obtain⟨cs'⟩:=cs';exact .agg cs cs' hl h
theorem zb2{β:Bt}{cs:Array Value}{v':Value}:VRel β (.tuple cs) v'↔∃cs':Array Value,v'=.tuple cs'∧LRel β cs.toList cs'.toList:=by
 constructor
 ·intro h;cases h with
  |tuple cs cs' hl h=>exact⟨⟨cs'⟩,rfl,hl,h⟩
 ·rintro⟨cs',rfl,hl,h⟩
  obtain⟨cs⟩:=cs;obtain⟨cs'⟩:=cs';exact .tuple cs cs' hl h
theorem VRel.one_eq{β:Bt}{v v':Value}(h:VRel β v v'):v'.oneCell'=one v:=by cases h<;>rfl
theorem VRel.cells{β:Bt}{v v':Value}(h:VRel β v v'):LRel β (zad v) v'.cells.toList:=by
 cases h with
 |agg cs cs' hl h=>exact⟨hl,h⟩
 |_=>simp only[zad,Value.cells];exact LRel.cons (by constructor<;>assumption) (LRel.nil _)
def AObj.own:AObj→Bool
 |.cells _ o=>o
 |.map _=>true
 |.fix _=>false
def OwnB(H:Hp)(β:Bt)(b:Nat):Prop:=∃i o x,H.get i=some o∧o.own=true∧β i=some x∧x.b=b
def ERel(β:Bt)(kv:List (Value×Value))(es:List MapEntry):Prop:=
 kv.length=es.length∧∀(j:Nat) k v (e:MapEntry),kv[j]?=some (k,v)→es[j]?=some e→VRel β k e.key∧VRel β v e.val
theorem ERel.mono{β β':Bt}(hb:β.le β'){kv:List (Value×Value)}{es:List MapEntry}(h:ERel β kv es):ERel β' kv es:=
 ⟨h.1,fun j k v e a b=>⟨(h.2 j k v e a b).1.mono hb,(h.2 j k v e a b).2.mono hb⟩⟩
def RowAt(w:World)(b t:Nat):Prop:=∃arr e fz,w.heap[b]?=some (.cells arr e fz)∧arr.size=t∧∀j,j<t→¬(fz.1≤j∧j<fz.2)
def zmK(w:World)(β:Bt)(i:Nat)(T:TypeId):Prop:=∃x arr fz,β i=some x∧x.s=0∧w.heap[x.b]?=some (.cells arr T fz)∧arr.size=x.t
structure Rel(P:Program)(w:World)(H:Hp)(β:Bt):Prop where
 cells:∀i cs own,H.get i=some (.cells cs own)→∃x,β i=some x∧(∀j v,cs[j]?=some v→∃v',w.cell? ⟨x.b,x.s+j,none⟩=some v'∧VRel β v v') ∧
  (own=true→RowAt w x.b x.t∧x.s+cs.length≤x.t)
 maps:∀i kv,H.get i=some (.map kv)→∃x,β i=some x∧∃es clock,w.heap[x.b]?=some (.map es clock)∧ERel β kv es.toList∧(∀e∈es.toList,e.born<clock)
 apart:∀i j o o' x y,i≠j→H.get i=some o→H.get j=some o'→o.own=true→β i=some x→β j=some y→x.b≠y.b
 fresh:∀i,H.next≤i→H.get i=none∧β i=none
 lt:∀i x,β i=some x→x.b<w.heap.size
 glob:∀g,g<P.globals.size→∃t,β g=some ⟨g,0,t⟩
 fix:∀i o,H.get i=some (.fix o)→∃x,β i=some x∧x.s=0∧w.heap[x.b]?=some o
 tys:∀i T,H.ty i=some T→zmK w β i T
structure Ext(N:Nat)(w:World)(H:Hp)(β:Bt)(w':World)(H':Hp)(β':Bt):Prop where
 os:w'.os=w.os
 tape:w'.tape=w.tape
 output:w'.output=w.output
 size:w.heap.size≤w'.heap.size
 le:β.le β'
 next:H.next≤H'.next
 frame:∀b,b<N→¬OwnB H β b→w'.heap[b]?=w.heap[b]?
 own:∀b,OwnB H' β' b→N≤b∨OwnB H β b
 news:∀i x,β' i=some x→β i=none→N≤x.b∨OwnB H β x.b
theorem Ext.refl(N:Nat)(w:World)(H:Hp)(β:Bt):Ext N w H β w H β:=
 ⟨rfl,rfl,rfl,Nat.le_refl _,Bt.le_refl _,Nat.le_refl _,fun _ _ _=>rfl,fun _ h=>.inr h,fun i x h e=>by rw[h]at e;cases e⟩
theorem Ext.weaken{M N:Nat}{w w':World}{H H':Hp}{β β':Bt}(h:Ext M w H β w' H' β')(hn:N≤M):Ext N w H β w' H' β':=
 ⟨h.os,h.tape,h.output,h.size,h.le,h.next,fun b hb=>h.frame b (Nat.lt_of_lt_of_le hb hn),fun b q=>(h.own b q).imp (Nat.le_trans hn) id,fun i x hx e=>(h.news i x hx e).imp (Nat.le_trans hn) id⟩
theorem Ext.trans{N:Nat}{w1 w2 w3:World}{H1 H2 H3:Hp}{β1 β2 β3:Bt}(h:Ext N w1 H1 β1 w2 H2 β2)(k:Ext N w2 H2 β2 w3 H3 β3):Ext N w1 H1 β1 w3 H3 β3 where
 os:=k.os.trans h.os
 tape:=k.tape.trans h.tape
 output:=k.output.trans h.output
 size:=Nat.le_trans h.size k.size
 le:=Bt.le_trans h.le k.le
 next:=Nat.le_trans h.next k.next
 frame:=fun b hb ho=>by have ho2:¬OwnB H2 β2 b:=fun q=>(h.own b q).elim (fun q=>by omega) ho;rw[k.frame b hb ho2,h.frame b hb ho]
 own:=fun b q=>by
  rcases k.own b q with q|q
  ·exact .inl q
  ·exact h.own b q
 news:=fun i x hx e=>by
  cases hb:β2 i with
  |none=>
   rcases k.news i x hx hb with q|q
   ·exact .inl q
   ·exact h.own _ q
  |some y=>
   have hy:=k.le i y hb;rw[hx]at hy;cases hy;exact h.news i x hb e
theorem zce{w:World}{b j:Nat}{v:Value}:w.cell? ⟨b,j,none⟩=some v↔∃arr e fz,w.heap[b]?=some (.cells arr e fz)∧arr[j]?=some v:=by
 unfold World.cell?;constructor
 ·intro h;dsimp only at h;split at h
  ·rename_i c e fz hh;exact⟨c,e,fz,hh,by simpa using h⟩
  ·simp at h
 ·rintro⟨arr,e,fz,hh,hv⟩
  simp[hh,hv]
structure Put(w:World)(b off:Nat)(vs:List Value)(w':World):Prop where
 os:w'.os=w.os
 tape:w'.tape=w.tape
 output:w'.output=w.output
 size:w'.heap.size=w.heap.size
 other:∀k,k≠b→w'.heap[k]?=w.heap[k]?
 row:∀arr e fz,w.heap[b]?=some (.cells arr e fz)→∃arr',w'.heap[b]?=some (.cells arr' e fz)∧arr'.size=arr.size ∧
  ∀j,arr'[j]?=if off≤j∧j<off+vs.length then vs[j-off]? else arr[j]?
theorem Put.nil(w:World)(b off:Nat):Put w b off [] w:=⟨rfl,rfl,rfl,rfl,fun _ _=>rfl,fun arr e fz h=>⟨arr,h,rfl,fun j=>by rw[if_neg (by simp only[length_nil];omega)]⟩⟩
theorem zjk(w:World)(b off:Nat)(v:Value)(arr:Array Value)(e:TypeId)(fz:Nat×Nat)(hw:w.heap[b]?=some (.cells arr e fz))(ho:off<arr.size) :
  Put w b off [v] (w.setCell ⟨b,off,none⟩ v):=by
 refine⟨rfl,rfl,rfl,by simp[World.setCell],fun k hk=>?_,fun arr' e' fz' h'=>?_⟩
 ·simp only[World.setCell,Array.getElem?_modify];rw[if_neg (by omega)]
 ·rw[hw]at h';cases h';refine⟨arr.setIfInBounds off v,?_,by simp,fun j=>?_⟩
  ·simp[World.setCell,Array.getElem?_modify,hw]
  ·simp only[Array.getElem?_setIfInBounds,length_singleton];by_cases hj:off=j
   ·subst hj;simp[ho]
   ·rw[if_neg hj,if_neg (by omega)]
theorem Put.cons{w w1 w2:World}{b off:Nat}{v:Value}{vs:List Value}(h:Put w b off [v] w1)(k:Put w1 b (off+1) vs w2):Put w b off (v::vs) w2:=by
 refine⟨k.os.trans h.os,k.tape.trans h.tape,k.output.trans h.output,k.size.trans h.size,fun i hi=>(k.other i hi).trans (h.other i hi),fun arr e fz hw=>?_⟩;obtain⟨a1,h1,s1,g1⟩:=h.row arr e fz hw;obtain⟨a2,h2,s2,g2⟩:=k.row a1 e fz h1;refine⟨a2,h2,s2.trans s1,fun j=>?_⟩;rw[g2 j,g1 j];simp only[length_cons,length_nil];by_cases c1:off+1≤j∧j<off+1+vs.length
 ·rw[if_pos c1,if_pos (by omega)];rw[show j-off=(j-(off+1))+1 by omega];simp
 ·rw[if_neg c1];by_cases c2:off=j
  ·subst c2;rw[if_pos (by omega),if_pos (by omega)];simp
  ·rw[if_neg (by omega),if_neg (by omega)]
theorem ziv{w:World}{b j:Nat}{arr:Array Value}{e:TypeId}{fz:Nat×Nat}(hw:w.heap[b]?=some (.cells arr e fz))(h:¬(fz.1≤j∧j<fz.2)):w.frozen? ⟨b,j,none⟩=false:=by obtain⟨lo,hi⟩:=fz;simp only[World.frozen?,hw];simp at h ⊢;omega
theorem zcP(P:Program)(b off:Nat)(arr:Array Value)(e:TypeId)(fz:Nat×Nat)(hfz:∀j,j<arr.size→¬(fz.1≤j∧j<fz.2)) :
  ∀(vs:List Value) (i:Nat) (w:World) (arr':Array Value),w.heap[b]?=some (.cells arr' e fz)→arr'.size=arr.size→off+i+vs.length≤arr.size→(vs.all Value.oneCell')=true →
  ∃w',(storeCells ⟨b,off,none⟩ vs i).run P w=.ok () w'∧Put w b (off+i) vs w'
 |[],i,w,arr',_,_,_,_=>⟨w,by simp[storeCells],Put.nil _ _ _⟩
 |v::vs,i,w,arr',hw,hs,hl,h1=>by
  simp only[all_cons,Bool.and_eq_true]at h1;simp only[length_cons]at hl;have hadd:(⟨b,off,none⟩:Addr).add i=⟨b,off+i,none⟩:=by unfold Addr.add;split<;>simp_all
  have hput:=zjk w b (off+i) v arr' e fz hw (by omega);obtain⟨a1,ha1,hs1,_⟩:=hput.row arr' e fz hw;obtain⟨w',hr,hp⟩:=zcP P b off arr e fz hfz vs (i+1) (w.setCell ⟨b,off+i,none⟩ v) a1 ha1 (by omega) (by omega) h1.2;refine⟨w',?_,hput.cons (by rw[show off+i+1=off+(i+1) by omega];exact hp)⟩;have hc:w.cell? ⟨b,off+i,none⟩=some (arr'[off+i]'(by omega)):=zce.2 ⟨arr',e,fz,hw,by simp⟩;have hz:w.frozen? ⟨b,off+i,none⟩=false:=ziv hw (hfz (off+i) (by omega));simp only[storeCells,Sem.run_bind,hadd,run_store P w _ v _ h1.1,hc,hz,Bool.false_eq_true,if_false,Result.andThen_ok,hr]
theorem zcB{P:Program}{w:World}{b off:Nat}{β:Bt}{l:List Value}(h:∀j v,l[j]?=some v→∃v',w.cell? ⟨b,off+j,none⟩=some v'∧VRel β v v') :
  ∃l':List Value,(loadCells ⟨b,off,none⟩ l.length).run P w=.ok l'.toArray w∧LRel β l l':=by
 have hf:∀j,j<l.length→w.cell? ⟨b,off+j,none⟩=some ((w.cell? ⟨b,off+j,none⟩).getD undef):=by intro j hj;obtain⟨v',hv,_⟩:=h j l[j] (by simp[hj]);simp[hv]
 have hadd:∀j,(⟨b,off,none⟩:Addr).add j=⟨b,off+j,none⟩:=by intro j;unfold Addr.add;split<;>simp_all
 refine⟨(List.range l.length).map fun j=>(w.cell? ⟨b,off+j,none⟩).getD undef,?_,by simp,fun k v v' hv hv'=>?_⟩
 ·rw[run_loadCells w ⟨b,off,none⟩ l.length (fun j=>(w.cell? ⟨b,off+j,none⟩).getD undef) (fun j hj=>by rw[hadd];exact hf j hj)]
 ·obtain⟨u,hu,hr⟩:=h k v hv;have hk:k<l.length:=(List.getElem?_eq_some_iff.1 hv).1;rw[List.getElem?_map,List.getElem?_range hk]at hv';simp[hu]at hv';subst hv';exact hr
def SRel(β:Bt)(lam:Nat→Nat)(bx:Nat→Option Bx)(s:Slot)(v':Value):Prop:=
 match s with
 |.unk=>True
 |.und=>v'=undef
 |.val v=>VRel β v v'
 |.loc d off=>(bx d).isSome=true∧v'=.pointer (some ⟨lam d,off,none⟩)
def zmM(w:World)(β:Bt)(b:Nat):Bx→Prop
 |.cells cs _=>∃arr e,w.heap[b]?=some (.cells arr e (0,0))∧LRel β cs arr.toList
 |.iter s pos=>w.heap[b]?=some (.stringIter s pos)
 |.iterRo s pos=>w.heap[b]?=some (.stringIter s pos)
structure FRel(N:Nat)(w:World)(bx:Nat→Option Bx)(β:Bt)(lam:Nat→Nat)(fr:Fr)(a:Act):Prop where
 size:a.tmps.size=fr.length
 slot:∀d s,fr[d]?=some s→SRel β lam bx s (a.tmps.getD d undef)
 box:∀d c,bx d=some c→N≤lam d∧lam d<w.heap.size∧(∀i x,β i=some x→x.b≠lam d)∧zmM w β (lam d) c
 apart:∀d d',(bx d).isSome=true→(bx d').isSome=true→d≠d'→lam d≠lam d'
theorem SRel.mono{β β':Bt}(hb:β.le β'){lam:Nat→Nat}{bx:Nat→Option Bx}{s:Slot}{v:Value}(h:SRel β lam bx s v):SRel β' lam bx s v:=by
 cases s with
 |val u=>exact VRel.mono hb h
 |_=>exact h
theorem SRel.bx{β:Bt}{lam:Nat→Nat}{bx bx':Nat→Option Bx}(hb:∀d,(bx d).isSome=true→(bx' d).isSome=true){s:Slot}{v:Value}(h:SRel β lam bx s v):SRel β lam bx' s v:=by
 cases s with
 |loc d off=>exact⟨hb d h.1,h.2⟩
 |_=>exact h
def BxLe(b b':Option Bx):Prop:=
 match b with
 |none=>True
 |some (.cells _ false)=>∃cs',b'=some (.cells cs' false)
 |some (.iter _ _)=>∃s p,b'=some (.iter s p)
 |b=>b'=b
theorem BxLe.refl(b:Option Bx):BxLe b b:=by unfold BxLe;split<;>first|trivial|exact⟨_,rfl⟩|exact⟨_,_,rfl⟩|rfl
theorem BxLe.trans{a b c:Option Bx}(h:BxLe a b)(k:BxLe b c):BxLe a c:=by
 unfold BxLe at h;split at h
 ·trivial
 ·obtain⟨cs,rfl⟩:=h;exact k
 ·obtain⟨s,p,rfl⟩:=h;exact k
 ·subst h;exact k
theorem BxLe.some{a b:Option Bx}(h:BxLe a b)(ha:a.isSome=true):b.isSome=true:=by
 unfold BxLe at h;split at h
 ·cases ha
 ·obtain⟨cs,rfl⟩:=h;rfl
 ·obtain⟨s,p,rfl⟩:=h;rfl
 ·subst h;exact ha
def BMv(bx:Nat→Option Bx)(lam:Nat→Nat)(bx':Nat→Option Bx)(lam':Nat→Nat):Prop:=∀d,BxLe (bx d) (bx' d)∧((bx d).isSome=true→lam' d=lam d)
theorem BMv.refl(bx:Nat→Option Bx)(lam:Nat→Nat):BMv bx lam bx lam:=fun d=>⟨BxLe.refl _,fun _=>rfl⟩
theorem BMv.trans{b1 b2 b3:Nat→Option Bx}{l1 l2 l3:Nat→Nat}(h:BMv b1 l1 b2 l2)(k:BMv b2 l2 b3 l3):BMv b1 l1 b3 l3:=fun d=>
 ⟨(h d).1.trans (k d).1,fun hd=>((k d).2 ((h d).1.some hd)).trans ((h d).2 hd)⟩
theorem St.setB_same(S:St)(d:Nat)(c:Option Bx):(S.setB d c).bx d=c:=by simp[St.setB]
theorem St.setB_ne(S:St){d e:Nat}(c:Option Bx)(h:e≠d):(S.setB d c).bx e=S.bx e:=by simp[St.setB,h]
theorem BMv.set{S:St}{d:Nat}{lam:Nat→Nat}{c:Bx}(h:BxLe (S.bx d) (some c)):BMv S.bx lam (S.setB d (some c)).bx lam:=fun e=>by
 refine⟨?_,fun _=>rfl⟩;by_cases q:e=d
 ·subst q;rw[St.setB_same];exact h
 ·rw[St.setB_ne _ _ q];exact BxLe.refl _
theorem BMv.new{S:St}{d:Nat}{lam:Nat→Nat}{c:Bx}{n:Nat}(h:S.bx d=none):BMv S.bx lam (S.setB d (some c)).bx (fun j=>if j=d then n else lam j):=fun e=>by
 by_cases q:e=d
 ·subst q;rw[h];exact⟨trivial,fun q=>by cases q⟩
 ·rw[St.setB_ne _ _ q];exact⟨BxLe.refl _,fun _=>if_neg q⟩
theorem zmM.mono{β β':Bt}(hb:β.le β'){w w':World}{b:Nat}(hw:w'.heap[b]?=w.heap[b]?){c:Bx}(h:zmM w β b c):zmM w' β' b c:=by
 cases c with
 |cells cs ro=>obtain⟨arr,e,h1,h2⟩:=h;exact⟨arr,e,by rw[hw];exact h1,h2.mono hb⟩
 |iter s pos=>show w'.heap[b]?=_;rw[hw];exact h
 |iterRo s pos=>show w'.heap[b]?=_;rw[hw];exact h
theorem FRel.ext {N : Nat} {w w' : World} {H H' : Hp} {bx : Nat → Option Bx} {β β' : Bt} {lam : Nat → Nat} {fr : Fr} {a : Act}
    (h : FRel N w bx β lam fr a) (hr : ∀ i x, H.get i = some x → ∃ y, β i = some y) (k : Ext w.heap.size w H β w' H' β') : FRel N w' bx β' lam fr a where
  size := h.size
  slot := fun d s hs => (h.slot d s hs).mono k.le
  box := fun d c hc => by
    obtain ⟨h1, h2, h3, h4⟩ := h.box d c hc
    have hno : ¬ OwnB H β (lam d) := fun ⟨i, o, x, _, _, hx, hb⟩ => h3 i x hx hb
    refine ⟨h1, Nat.lt_of_lt_of_le h2 k.size, fun i x hx => ?_, h4.mono k.le (k.frame _ h2 hno)⟩
    cases hb : β i with
    | none => rcases k.news i x hx hb with q | q
              · omega
              · intro e; rw [e] at q; exact hno q
    | some y => have := k.le i y hb; rw [hx] at this; cases this; exact h3 i x hb
  apart := h.apart
theorem Rel.has{P:Program}{w:World}{H:Hp}{β:Bt}(h:Rel P w H β)(i:Nat)(o:AObj)(hi:H.get i=some o):∃x,β i=some x:=by
 cases o with
 |cells cs own=>obtain⟨x,hx,_⟩:=h.cells i cs own hi;exact⟨x,hx⟩
 |map kv=>obtain⟨x,hx,_⟩:=h.maps i kv hi;exact⟨x,hx⟩
 |fix o=>obtain⟨x,hx,_⟩:=h.fix i o hi;exact⟨x,hx⟩
theorem zcN{w w':World}{b j:Nat}(h:w'.heap[b]?=w.heap[b]?):w'.cell? ⟨b,j,none⟩=w.cell? ⟨b,j,none⟩:=by simp only[World.cell?,h]
theorem RowAt.congr{w w':World}{b t:Nat}(h:w'.heap[b]?=w.heap[b]?)(k:RowAt w b t):RowAt w' b t:=by obtain⟨arr,e,fz,h1,h2,h3⟩:=k;exact⟨arr,e,fz,by rw[h];exact h1,h2,h3⟩
theorem Rel.frame{P:Program}{w w':World}{H:Hp}{β:Bt}(h:Rel P w H β)(hs:w.heap.size≤w'.heap.size)(hw:∀i x,β i=some x→w'.heap[x.b]?=w.heap[x.b]?):Rel P w' H β where
 cells:=fun i cs own hi=>by
  obtain⟨x,hx,h1,h2⟩:=h.cells i cs own hi;refine⟨x,hx,fun j v hv=>?_,fun ho=>?_⟩
  ·rw[zcN (hw i x hx)];exact h1 j v hv
  ·exact⟨(h2 ho).1.congr (hw i x hx),(h2 ho).2⟩
 maps:=fun i kv hi=>by obtain⟨x,hx,es,clock,h1,h2⟩:=h.maps i kv hi;exact⟨x,hx,es,clock,by rw[hw i x hx];exact h1,h2⟩
 apart:=h.apart
 fresh:=h.fresh
 lt:=fun i x hx=>Nat.lt_of_lt_of_le (h.lt i x hx) hs
 glob:=h.glob
 fix:=fun i o hi=>by obtain⟨x,hx,h0,h1⟩:=h.fix i o hi;exact⟨x,hx,h0,by rw[hw i x hx];exact h1⟩
 tys:=fun i T hi=>by obtain⟨x,arr,fz,hx,h1,h2,h3⟩:=h.tys i T hi;exact⟨x,arr,fz,hx,h1,by rw[hw i x hx];exact h2,h3⟩
theorem zcL(w:World)(o:Obj)(k:Nat)(h:k<w.heap.size):(w.alloc o).heap[k]?=w.heap[k]?:=by show (w.heap.push o)[k]?=_;rw[Array.getElem?_push,if_neg (by omega)]
theorem zbE(w:World)(o:Obj):(w.alloc o).heap[w.heap.size]?=some o:=by show (w.heap.push o)[w.heap.size]?=_;rw[Array.getElem?_push,if_pos rfl]
def Bt.set(β:Bt)(i:Nat)(x:BI):Bt:=fun j=>if j=i then some x else β j
theorem Bt.le_set{β:Bt}{i:Nat}{x:BI}(h:β i=none):β.le (β.set i x):=fun j y hj=>by unfold Bt.set;rw[if_neg (fun e=>by subst e;rw[h]at hj;cases hj)];exact hj
theorem Bt.set_same(β:Bt)(i:Nat)(x:BI):(β.set i x) i=some x:=by simp[Bt.set]
theorem Hp.get_new(H:Hp)(o:AObj)(i:Nat):(H.new o).get i=if i=H.next then some o else H.get i:=rfl
theorem Hp.get_set(H:Hp)(j:Nat)(o:Option AObj)(i:Nat):(H.set j o).get i=if i=j then o else H.get i:=rfl
theorem Rel.new_cells{P:Program}{w:World}{H:Hp}{β:Bt}(h:Rel P w H β)(cs:List Value)(arr:Array Value)(e:TypeId)(fz:Nat×Nat)(n:Nat)
  (hl:LRel β cs (arr.toList.take n)) (hfz:∀j,j<arr.size→¬(fz.1≤j∧j<fz.2)) :
  Rel P (w.alloc (.cells arr e fz)) (H.new (.cells cs true)) (β.set H.next ⟨w.heap.size,0,arr.size⟩) ∧
  Ext w.heap.size w H β (w.alloc (.cells arr e fz)) (H.new (.cells cs true)) (β.set H.next ⟨w.heap.size,0,arr.size⟩):=by
 have hf:=(h.fresh H.next (Nat.le_refl _))
 have hle:=Bt.le_set (x:=⟨w.heap.size,0,arr.size⟩) hf.2;have hlen:cs.length≤arr.size:=by have:=hl.1;simp at this;omega
 have hold:∀i x,β i=some x→(w.alloc (.cells arr e fz)).heap[x.b]?=w.heap[x.b]?:=fun i x hx=>zcL _ _ _ (h.lt i x hx)
 refine⟨⟨fun i ds own hi=>?_,fun i kv hi=>?_,fun i j o o' x y hij hi hj ho hx hy=>?_,fun i hi=>?_,fun i x hx=>?_,fun g hg=>?_,fun i o hi=>(by
   rw[Hp.get_new]at hi;split at hi
   ·cases hi
   ·obtain⟨x,hx,h0,h1⟩:=h.fix i o hi
    exact⟨x,hle i x hx,h0,by rw[hold i x hx];exact h1⟩),fun i T hi=>(by
   obtain⟨x,arr,fz,hx,h1,h2,h3⟩:=h.tys i T hi
   exact⟨x,arr,fz,hle i x hx,h1,by rw[hold i x hx];exact h2,h3⟩)⟩,
  ⟨rfl,rfl,rfl,by simp,hle,Nat.le_succ _,fun b hb _=>zcL _ _ _ hb,fun b=>?_,fun i x hx hn=>?_⟩⟩
 ·rw[Hp.get_new]at hi;split at hi
  ·rename_i hin;cases hi;subst hin;refine⟨_,Bt.set_same _ _ _,fun j v hv=>?_,fun _=>⟨⟨arr,e,fz,zbE _ _,rfl,hfz⟩,by simpa using hlen⟩⟩;obtain⟨v',hv',hr⟩:=hl.get hv;refine⟨v',zce.2 ⟨arr,e,fz,zbE _ _,?_⟩,hr.mono hle⟩;rw[List.getElem?_take]at hv';split at hv'
   ·simpa using hv'
   ·simp at hv'
  ·rename_i hin;obtain⟨x,hx,h1,h2⟩:=h.cells i ds own hi;refine⟨x,hle i x hx,fun j v hv=>?_,fun ho=>⟨(h2 ho).1.congr (hold i x hx),(h2 ho).2⟩⟩;obtain⟨v',hv',hr⟩:=h1 j v hv;exact⟨v',by rw[zcN (hold i x hx)];exact hv',hr.mono hle⟩
 ·rw[Hp.get_new]at hi;split at hi
  ·cases hi
  ·obtain⟨x,hx,es,clock,h1,h2,h3⟩:=h.maps i kv hi;exact⟨x,hle i x hx,es,clock,by rw[hold i x hx];exact h1,h2.mono hle,h3⟩
 ·rw[Hp.get_new]at hi hj;unfold Bt.set at hx hy;split at hi
  ·rename_i hin;subst hin;rw[if_pos rfl]at hx;cases hx;rw[if_neg (Ne.symm hij)]at hy;have:=h.lt j y hy;show w.heap.size≠y.b;omega
  ·rename_i hin;rw[if_neg hin]at hx;split at hj
   ·rename_i hjn;subst hjn;rw[if_pos rfl]at hy;cases hy;have:=h.lt i x hx;show x.b≠w.heap.size;omega
   ·rename_i hjn;rw[if_neg hjn]at hy;exact h.apart i j o o' x y hij hi hj ho hx hy
 ·have:H.next+1≤i:=hi;rw[Hp.get_new,if_neg (by omega)];unfold Bt.set;rw[if_neg (by omega)];exact h.fresh i (by omega)
 ·unfold Bt.set at hx;split at hx
  ·cases hx;simp
  ·have:=h.lt i x hx;simp;omega
 ·obtain⟨t,ht⟩:=h.glob g hg;exact⟨t,hle g _ ht⟩
 ·rintro⟨i,o,x,hi,ho,hx,rfl⟩
  rw[Hp.get_new]at hi;unfold Bt.set at hx;split at hi
  ·rename_i hin;rw[if_pos hin]at hx;cases hx;exact .inl (Nat.le_refl _)
  ·rename_i hin;rw[if_neg hin]at hx;exact .inr ⟨i,o,x,hi,ho,hx,rfl⟩
 ·unfold Bt.set at hx;split at hx
  ·cases hx;exact .inl (Nat.le_refl _)
  ·rw[hn]at hx;cases hx
theorem Rel.new_map{P:Program}{w:World}{H:Hp}{β:Bt}(h:Rel P w H β) :
  Rel P (w.alloc (.map #[] 0)) (H.new (.map [])) (β.set H.next ⟨w.heap.size,0,0⟩)∧Ext w.heap.size w H β (w.alloc (.map #[] 0)) (H.new (.map [])) (β.set H.next ⟨w.heap.size,0,0⟩):=by
 have hf:=(h.fresh H.next (Nat.le_refl _))
 have hle:=Bt.le_set (x:=⟨w.heap.size,0,0⟩) hf.2;have hold:∀i x,β i=some x→(w.alloc (.map #[] 0)).heap[x.b]?=w.heap[x.b]?:=fun i x hx=>zcL _ _ _ (h.lt i x hx)
 refine⟨⟨fun i ds own hi=>?_,fun i kv hi=>?_,fun i j o o' x y hij hi hj ho hx hy=>?_,fun i hi=>?_,fun i x hx=>?_,fun g hg=>?_,fun i o hi=>(by
   rw[Hp.get_new]at hi;split at hi
   ·cases hi
   ·obtain⟨x,hx,h0,h1⟩:=h.fix i o hi
    exact⟨x,hle i x hx,h0,by rw[hold i x hx];exact h1⟩),fun i T hi=>(by
   obtain⟨x,arr,fz,hx,h1,h2,h3⟩:=h.tys i T hi
   exact⟨x,arr,fz,hle i x hx,h1,by rw[hold i x hx];exact h2,h3⟩)⟩,
  ⟨rfl,rfl,rfl,by simp,hle,Nat.le_succ _,fun b hb _=>zcL _ _ _ hb,fun b=>?_,fun i x hx hn=>?_⟩⟩
 ·rw[Hp.get_new]at hi;split at hi
  ·cases hi
  ·obtain⟨x,hx,h1,h2⟩:=h.cells i ds own hi;refine⟨x,hle i x hx,fun j v hv=>?_,fun ho=>⟨(h2 ho).1.congr (hold i x hx),(h2 ho).2⟩⟩;obtain⟨v',hv',hr⟩:=h1 j v hv;exact⟨v',by rw[zcN (hold i x hx)];exact hv',hr.mono hle⟩
 ·rw[Hp.get_new]at hi;split at hi
  ·rename_i hin;cases hi;subst hin;exact⟨_,Bt.set_same _ _ _,#[],0,zbE _ _,⟨rfl,by simp⟩,by simp⟩
  ·obtain⟨x,hx,es,clock,h1,h2,h3⟩:=h.maps i kv hi;exact⟨x,hle i x hx,es,clock,by rw[hold i x hx];exact h1,h2.mono hle,h3⟩
 ·rw[Hp.get_new]at hi hj;unfold Bt.set at hx hy;split at hi
  ·rename_i hin;subst hin;rw[if_pos rfl]at hx;cases hx;rw[if_neg (Ne.symm hij)]at hy;have:=h.lt j y hy;show w.heap.size≠y.b;omega
  ·rename_i hin;rw[if_neg hin]at hx;split at hj
   ·rename_i hjn;subst hjn;rw[if_pos rfl]at hy;cases hy;have:=h.lt i x hx;show x.b≠w.heap.size;omega
   ·rename_i hjn;rw[if_neg hjn]at hy;exact h.apart i j o o' x y hij hi hj ho hx hy
 ·have:H.next+1≤i:=hi;rw[Hp.get_new,if_neg (by omega)];unfold Bt.set;rw[if_neg (by omega)];exact h.fresh i (by omega)
 ·unfold Bt.set at hx;split at hx
  ·cases hx;simp
  ·have:=h.lt i x hx;simp;omega
 ·obtain⟨t,ht⟩:=h.glob g hg;exact⟨t,hle g _ ht⟩
 ·rintro⟨i,o,x,hi,ho,hx,rfl⟩
  rw[Hp.get_new]at hi;unfold Bt.set at hx;split at hi
  ·rename_i hin;rw[if_pos hin]at hx;cases hx;exact .inl (Nat.le_refl _)
  ·rename_i hin;rw[if_neg hin]at hx;exact .inr ⟨i,o,x,hi,ho,hx,rfl⟩
 ·unfold Bt.set at hx;split at hx
  ·cases hx;exact .inl (Nat.le_refl _)
  ·rw[hn]at hx;cases hx
theorem Ext.drew{N:Nat}{w w':World}{H H':Hp}{β β':Bt}(h:Ext N w H β w' H' β'):Ext N w H β w'.drew H' β':=
 ⟨h.os,h.tape,h.output,h.size,h.le,h.next,h.frame,h.own,h.news⟩
theorem Ext.of_drew{N:Nat}{w w':World}{H H':Hp}{β β':Bt}(h:Ext N w.drew H β w' H' β'):Ext N w H β w' H' β':=
 ⟨h.os,h.tape,h.output,h.size,h.le,h.next,h.frame,h.own,h.news⟩
theorem Rel.drew{P:Program}{w:World}{H:Hp}{β:Bt}(h:Rel P w H β):Rel P w.drew H β:=h.frame (Nat.le_refl _) (fun _ _ _=>rfl)
theorem FRel.drew{N:Nat}{w:World}{bx:Nat→Option Bx}{β:Bt}{lam:Nat→Nat}{fr:Fr}{a:Act}(h:FRel N w bx β lam fr a):FRel N w.drew bx β lam fr a:=
 ⟨h.size,h.slot,h.box,h.apart⟩
theorem zeg(cs:List Value)(off:Nat)(vs:List Value)(h:off+vs.length≤cs.length):(spl cs off vs).length=cs.length:=by simp[spl];omega
theorem zhC(cs:List Value)(off:Nat)(vs:List Value)(h:off+vs.length≤cs.length)(j:Nat) :
  (spl cs off vs)[j]?=if off≤j∧j<off+vs.length then vs[j-off]? else cs[j]?:=by
 unfold spl;by_cases h1:j<off
 ·rw[if_neg (by omega),append_assoc,List.getElem?_append_left (by simp;omega),List.getElem?_take,if_pos h1]
 ·by_cases h2:j<off+vs.length
  ·rw[if_pos (by omega),List.getElem?_append_left (by simp;omega),List.getElem?_append_right (by simp;omega)];simp;rw[Nat.min_eq_left (by omega)]
  ·rw[if_neg (by omega),List.getElem?_append_right (by simp;omega),List.getElem?_drop];congr 1;simp;omega
theorem zmK.put{w w':World}{β:Bt}{i:Nat}{T:TypeId}(h:zmK w β i T){b off:Nat}{vs:List Value}(hp:Put w b off vs w'):zmK w' β i T:=by
 obtain⟨x,arr,fz,hx,h1,h2,h3⟩:=h;by_cases e:x.b=b
 ·subst e;obtain⟨arr',g1,g2,_⟩:=hp.row arr T fz h2;exact⟨x,arr',fz,hx,h1,g1,by omega⟩
 ·exact⟨x,arr,fz,hx,h1,by rw[hp.other _ e];exact h2,h3⟩
theorem zmK.le{w:World}{β β':Bt}{i:Nat}{T:TypeId}(h:zmK w β i T)(hb:β.le β'):zmK w β' i T:=by obtain⟨x,arr,fz,hx,h1⟩:=h;exact⟨x,arr,fz,hb _ _ hx,h1⟩
theorem Rel.mark{P:Program}{w:World}{H:Hp}{β:Bt}(h:Rel P w H β){i:Nat}{T:TypeId}(ht:zmK w β i T):Rel P w (H.mark i T) β:=
 ⟨h.cells,h.maps,h.apart,h.fresh,h.lt,h.glob,h.fix,fun j U hj=>by
  have hj:(if j=i then some T else H.ty j)=some U:=hj;split at hj
  ·rename_i e;cases hj;subst e;exact ht
  ·exact h.tys j U hj⟩
theorem Ext.mark{N:Nat}{w w':World}{H H':Hp}{β β':Bt}(h:Ext N w H β w' H' β')(i:Nat)(T:TypeId):Ext N w H β w' (H'.mark i T) β':=
 ⟨h.os,h.tape,h.output,h.size,h.le,h.next,h.frame,h.own,h.news⟩
theorem Rel.write{P:Program}{w w':World}{H:Hp}{β:Bt}(h:Rel P w H β){i:Nat}{cs:List Value}{x:BI}(hi:H.get i=some (.cells cs true))(hx:β i=some x)
  {off:Nat} {vs vs':List Value} (hl:off+vs.length≤cs.length) (hv:LRel β vs vs') (hp:Put w x.b (x.s+off) vs' w') :
  Rel P w' (H.set i (some (.cells (spl cs off vs) true))) β∧Ext w.heap.size w H β w' (H.set i (some (.cells (spl cs off vs) true))) β:=by
 obtain⟨x',hx',h1,h2⟩:=h.cells i cs true hi;rw[hx]at hx';cases hx';obtain⟨⟨arr,e,fz,hh,hsz,hfz⟩,hle⟩:=h2 rfl;obtain⟨arr',hh',hsz',hg⟩:=hp.row arr e fz hh;have hoth:∀j o y,j≠i→H.get j=some o→β j=some y→w'.heap[y.b]?=w.heap[y.b]?:=fun j o y hji hj hy=>
  hp.other _ (fun e=>h.apart i j _ _ x y (Ne.symm hji) hi hj rfl hx hy e.symm)
 have hvl:=hv.1
 refine⟨⟨fun j ds own hj=>?_,fun j kv hj=>?_,fun j k o o' y z hjk hj hk ho hy hz=>?_,fun j hj=>?_,fun j y hy=>?_,h.glob,fun j o hj=>(by
   rw[Hp.get_set]at hj;split at hj
   ·cases hj
   ·rename_i hji;obtain⟨y,hy,h0,h3⟩:=h.fix j o hj
    exact⟨y,hy,h0,by rw[hoth j _ y hji hj hy];exact h3⟩),fun j T hj=>(h.tys j T hj).put hp⟩,
  ⟨hp.os,hp.tape,hp.output,by rw[hp.size];exact Nat.le_refl _,Bt.le_refl _,Nat.le_refl _,fun b hb ho=>?_,fun b=>?_,fun j y hy hn=>by rw[hn]at hy;cases hy⟩⟩
 ·rw[Hp.get_set]at hj;split at hj
  ·rename_i hji;cases hj;subst hji;refine⟨x,hx,fun k v hk=>?_,fun _=>⟨⟨arr',e,fz,hh',by omega,fun q hq=>hfz q hq⟩,by rw[zeg _ _ _ hl];exact hle⟩⟩;rw[zhC _ _ _ hl]at hk;split at hk
   ·rename_i hc;obtain⟨v',hv',hr⟩:=hv.get hk;refine⟨v',zce.2 ⟨arr',e,fz,hh',?_⟩,hr⟩;rw[hg,if_pos (by omega)];rw[show x.s+k-(x.s+off)=k-off by omega];exact hv'
   ·rename_i hc;obtain⟨v',hv',hr⟩:=h1 k v hk;refine⟨v',zce.2 ⟨arr',e,fz,hh',?_⟩,hr⟩;obtain⟨a2,e2,f2,g2,g3⟩:=zce.1 hv';rw[hh]at g2;cases g2;rw[hg,if_neg (by omega)];exact g3
  ·rename_i hji;obtain⟨y,hy,h3,h4⟩:=h.cells j ds own hj;have hw:=hoth j _ y hji hj hy;refine⟨y,hy,fun k v hk=>?_,fun ho=>⟨(h4 ho).1.congr hw,(h4 ho).2⟩⟩;obtain⟨v',hv',hr⟩:=h3 k v hk;exact⟨v',by rw[zcN hw];exact hv',hr⟩
 ·rw[Hp.get_set]at hj;split at hj
  ·cases hj
  ·rename_i hji;obtain⟨y,hy,es,clock,h3,h4⟩:=h.maps j kv hj;exact⟨y,hy,es,clock,by rw[hoth j _ y hji hj hy];exact h3,h4⟩
 ·rw[Hp.get_set]at hj hk;have hj':∃o2,H.get j=some o2∧o2.own=true:=by
   split at hj
   ·rename_i e;subst e;exact⟨_,hi,rfl⟩
   ·exact⟨o,hj,ho⟩
  have hk':∃o2,H.get k=some o2:=by
   split at hk
   ·rename_i e;subst e;exact⟨_,hi⟩
   ·exact⟨_,hk⟩
  obtain⟨o2,g1,g2⟩:=hj';obtain⟨o3,g3⟩:=hk';exact h.apart j k o2 o3 y z hjk g1 g3 g2 hy hz
 ·have:=h.fresh j hj;rw[Hp.get_set,if_neg (fun e=>by subst e;rw[hi]at this;cases this.1)];exact this
 ·rw[hp.size];exact h.lt j y hy
 ·exact hp.other b (fun e=>by subst e;exact ho ⟨i,_,x,hi,rfl,hx,rfl⟩)
 ·rintro⟨j,o,y,hj,ho,hy,rfl⟩
  rw[Hp.get_set]at hj;split at hj
  ·rename_i e;subst e;rw[hx]at hy;cases hy;exact .inr ⟨_,_,x,hi,rfl,hx,rfl⟩
  ·exact .inr ⟨j,o,y,hj,ho,hy,rfl⟩
theorem Rel.kill{P:Program}{w:World}{H:Hp}{β:Bt}(h:Rel P w H β)(i:Nat):Rel P w (H.set i none) β∧Ext w.heap.size w H β w (H.set i none) β:=by
 refine⟨⟨fun j ds own hj=>?_,fun j kv hj=>?_,fun j k o o' y z hjk hj hk ho hy hz=>?_,fun j hj=>?_,h.lt,h.glob,fun j o hj=>(by
   rw[Hp.get_set]at hj;split at hj
   ·cases hj
   ·exact h.fix j o hj),h.tys⟩,
  ⟨rfl,rfl,rfl,Nat.le_refl _,Bt.le_refl _,Nat.le_refl _,fun _ _ _=>rfl,fun b=>?_,fun j y hy hn=>by rw[hn]at hy;cases hy⟩⟩
 ·rw[Hp.get_set]at hj;split at hj
  ·cases hj
  ·exact h.cells j ds own hj
 ·rw[Hp.get_set]at hj;split at hj
  ·cases hj
  ·exact h.maps j kv hj
 ·rw[Hp.get_set]at hj hk;split at hj
  ·cases hj
  ·split at hk
   ·cases hk
   ·exact h.apart j k o o' y z hjk hj hk ho hy hz
 ·have:=h.fresh j hj;rw[Hp.get_set];split
  ·exact⟨rfl,this.2⟩
  ·exact this
 ·rintro⟨j,o,y,hj,ho,hy,rfl⟩
  rw[Hp.get_set]at hj;split at hj
  ·cases hj
  ·exact .inr ⟨j,o,y,hj,ho,hy,rfl⟩
end Go.AM
namespace Go.AM
open Go
def zm3(t:Option Nat)(S S2:St):Prop:=match t with|none=>S2.hp=S.hp|some d=>S2.bx d=S.bx d
def TagR(t:Option Nat)(S S':St):Prop:=match t with|none=>S'.bx=S.bx|some e=>S'.hp=S.hp∧∀d,d≠e→S'.bx d=S.bx d
theorem TagR.other{t u:Option Nat}{S S':St}(h:TagR t S S')(hn:zcy u t=false):zm3 u S S':=by
 cases t with
 |none=>cases u with
  |none=>cases hn
  |some d=>exact congrFun h d
 |some e=>cases u with
  |none=>exact h.1
  |some d=>exact h.2 d (fun q=>by subst q;simp[zcy]at hn)
section
theorem zcQ{C:Ctx}{fr:Fr}{S S':St}{o:Oper}{s:Slot}(h:opR C fr S o=some (s,S'))(k:opR C fr S o=(opR C fr S o).bind fun p=>some (p.1,(⟨S.bx,p.2.hp⟩:St))):S'.bx=S.bx:=by rw[h]at k;simp only[Option.bind_some,Option.some.injEq,Prod.mk.injEq,true_and]at k;rw[k]
theorem box_tag{C:Ctx}{fr:Fr}{S S':St}{o:Oper}{s:Slot}(e:Nat)(h:opR C fr S o=some (s,S'))(k:opR C fr S o=(opR C fr S o).bind fun p=>some (p.1,S.setB e (p.2.bx e))):S'.hp=S.hp∧∀d,d≠e→S'.bx d=S.bx d:=by rw[h]at k;simp only[Option.bind_some,Option.some.injEq,Prod.mk.injEq,true_and]at k;rw[k];exact⟨rfl,fun d hd=>St.setB_ne _ _ hd⟩
theorem zm0(s:Slot)(S:St)(e:Nat)(c:Option Bx):some (s,S.setB e c)=(some (s,S.setB e c)).bind fun p=>some (p.1,S.setB e (p.2.bx e)):=by simp[St.setB]
def zkB(C:Ctx)(d:Option Nat):Option Nat:=match d with|some d=>(match (C.O.loc C.f).elem d with|true=>some d|false=>none)|none=>none
theorem zll{C:Ctx}{S S':St}{d:Option Nat}{T:TypeId}{cs:List Value}{s:Slot}(h:zcU C S d T cs (fun s S'=>some (s,S'))=some (s,S')):TagR (zkB C d) S S':=by
 unfold zcU at h;rcases d with _|d
 ·cases h
 ·dsimp only at h;unfold zkB;cases he:(C.O.loc C.f).elem d with
  |true=>
   rw[he]at h;dsimp only at h ⊢;rw[he];rcases hb:S.bx d with _|b
   ·rw[hb]at h;cases h;exact⟨rfl,fun e hne=>St.setB_ne _ _ hne⟩
   ·rw[hb]at h;cases h
  |false=>
   rw[he]at h;dsimp only at h ⊢;rw[he];cases hg:C.O.gt T<;>rw[hg]at h<;>cases h<;>rfl
theorem zo6{C:Ctx}{fr:Fr}{S S':St}{o:Oper}{s:Slot}(h:opR C fr S o=some (s,S'))(hk:zcV C.P o.op=.eff):TagR (zbF C fr o) S S':=by
 have h0:=h;unfold opR opC at h;dsimp only at h;unfold zbF;cases hop:o.op<;>rw[hop]at h hk<;>(try dsimp only at h)<;>(try cases h;done)<;>(try cases hk;done)
 case alloc T=>
  obtain⟨z,hz⟩:∃z,zcU C S o.dst T (zad z) (fun s S'=>some (s,S'))=some (s,S'):=by
   unfold zgy at h;split at h
   ·cases h
   ·split at h
    ·cases h
    ·rename_i z _;split at h
     ·dsimp only at h;split at h
      ·exact⟨z,h⟩
      ·cases h
     ·cases h
  exact(zll hz:TagR (zkB C o.dst) S S')
 case box T x=>
  unfold sV at h;split at h
  ·exact(zll h:TagR (zkB C o.dst) S S')
  ·cases h
 case buildSlice T n p=>
  refine zcQ h0 ?_;unfold opR opC;rw[hop]
  try dsimp only
  exact zbx _ fun v=>zbC fun _ _ _=>zdy fun _ _=>rfl
 case insert T m key x=>
  refine zcQ h0 ?_;unfold opR opC;rw[hop]
  try dsimp only
  exact zaF fun m=>zaF fun key=>zaF fun x=>zbN fun _ _=>zf6 fun _=>rfl
 case convert src dst x=>
  refine zcQ h0 ?_;unfold opR opC;rw[hop]
  try dsimp only
  exact zaF fun x=>zgP (fun _=>rfl) (fun _ _=>rfl)
 case makeMap T x=>
  refine zcQ h0 ?_;unfold opR opC;rw[hop]
  try dsimp only
  cases x with
  |none=>rfl
  |some x=>exact zaF fun x=>zbN fun _ _=>zjW rfl
 case makeSlice T l c=>
  refine zcQ h0 ?_;unfold opR opC;rw[hop]
  try dsimp only
  exact zaF fun l=>zaF fun c=>zbC fun _ _ _=>zea fun _ _=>rfl
 case slice T x lo hi mx=>
  cases mx with
  |some m=>cases h
  |none=>
   refine zcQ h0 ?_;unfold opR opC;rw[hop]
   try dsimp only
   refine zaF fun x=>zdN fun lo=>zdN fun hi=>?_;unfold zcV at hk;dsimp only at hk;rcases h1:C.P.underlying T with _|d
   ·rfl
   ·rw[h1]at hk;cases d<;>first|rfl | (cases hk;done)|skip;rename_i len e;dsimp only;rcases C.P.info? e with _|i
    ·rfl
    ·exact zgF fun _=>rfl
 case mapUpdate T m key x=>
  refine zcQ h0 ?_;unfold opR opC;rw[hop]
  try dsimp only
  exact zaF fun m=>zaF fun key=>zaF fun x=>zbN fun _ _=>zf6 fun _=>rfl
 case call c=>
  refine zcQ h0 ?_;unfold opR opC;rw[hop]
  try dsimp only
  rcases c.callee with fo|⟨rv,m⟩|b
  ·exact zaF fun fv=>zbx _ fun vs=>zhk fun _ _=>rfl
  ·rfl
  ·refine zbx _ fun vs=>?_;generalize c.argTypes.toList=ts;cases b<;>(try dsimp only)<;>first|rfl|exact zjS fun _=>rfl|skip
   all_goals
    rcases vs with _|⟨x,_|⟨y,_|⟨z,vs⟩⟩⟩<;>rcases ts with _|⟨t,_|⟨u,_|⟨t3,ts⟩⟩⟩<;>(try dsimp only)<;>first|rfl|skip
   ·refine zbC fun sz bytes _=>?_;rcases C.P.underlying u with _|d
    ·rfl
    ·cases d<;>first|rfl|exact zfy fun _ _=>rfl
   ·exact zbC fun sz _ _=>zjX fun _ _=>rfl
   ·exact zbN fun kt _=>zmi fun _=>rfl
   ·rcases C.P.underlying t with _|d
    ·rfl
    ·dsimp only;rcases lenK d with _|q
     ·rfl
     ·exact zi2 fun _=>rfl
 case store T a x=>
  dsimp only;cases he:ev C.P.globals.size fr a with
  |loc d off=>
   refine box_tag d h0 ?_;unfold opR opC;rw[hop];dsimp only;refine zaF fun v=>zcx fun n agg=>?_;rw[he];dsimp only;rcases S.bx d with _|b
   ·rfl
   ·cases b with
    |cells cs ro=>cases ro<;>first|rfl|exact zgE fun _=>zm0 _ _ _ _
    |_=>rfl
  |_=>
   refine zcQ h0 ?_;unfold opR opC;rw[hop];dsimp only;refine zaF fun v=>zcx fun n agg=>?_;rw[he]
   first|rfl|exact zhU fun _=>rfl
 case range T x=>
  dsimp only;rcases hd:o.dst with _|d
  ·refine zcQ h0 ?_;unfold opR opC;rw[hop];dsimp only;refine zaF fun x=>?_;rw[hd];rcases C.P.underlying T with _|d
   ·rfl
   ·cases d<;>rfl
  ·refine box_tag d h0 ?_;unfold opR opC;rw[hop];dsimp only;refine zaF fun x=>?_;rw[hd];rcases C.P.underlying T with _|dd
   ·rfl
   ·cases dd<;>first|rfl|skip;dsimp only;rcases S.bx d with _|b
    ·exact zjP fun _=>zm0 _ _ _ _
    ·rfl
 case next it b=>
  dsimp only;cases b with
  |false=>cases h
  |true=>
  try dsimp only at h
  cases he:ev C.P.globals.size fr it with
  |loc d off=>
   rw[he]at h;cases off with
   |succ n=>cases h
   |zero=>
    have h:(match S.bx d with
      |some (.iter s pos)=>br (Nat.blt pos s.size) (some ((Slot.val (.tuple #[.bool true,.int .i64 pos,.int .i32 (Utf8.decode s pos).1])),(S.setB d (some (.iter s (pos+(Utf8.decode s pos).2)))))) (some ((Slot.val (.tuple #[.bool false])),S))
      |_=>none)=some (s,S'):=h
    refine⟨?_,fun e hne=>?_⟩
    ·rcases hb:S.bx d with _|b
     ·rw[hb]at h;cases h
     ·rw[hb]at h;cases b with
      |iter st pos=>
       dsimp only at h;unfold br at h;split at h<;>cases h<;>rfl
      |_=>cases h
    ·rcases hb:S.bx d with _|b
     ·rw[hb]at h;cases h
     ·rw[hb]at h;cases b with
      |iter st pos=>
       dsimp only at h;unfold br at h;split at h
       ·cases h;exact St.setB_ne _ _ hne
       ·cases h;rfl
      |_=>cases h
  |_=>rw[he]at h;cases h
def zoH(t:Option Nat)(a b:Nat→Option Bx):Nat→Option Bx:=match t with
 |none=>b
 |some e=>fun d=>if d=e then a d else b d
theorem zec{C:Ctx}{fr:Fr}{S S':St}{o:Oper}{s:Slot}{bx2:Nat→Option Bx}(h:opR C fr S o=some (s,S'))(k:opR C fr ⟨bx2,S.hp⟩ o=(opR C fr S o).bind fun p=>some (p.1,(⟨bx2,p.2.hp⟩:St))) :
  opR C fr ⟨bx2,S.hp⟩ o=some (s,⟨zoH none S'.bx bx2,S'.hp⟩):=by
 rw[k,h];rfl
theorem box_bx{C:Ctx}{fr:Fr}{S S':St}{o:Oper}{s:Slot}{bx2:Nat→Option Bx}(e:Nat)(h:opR C fr S o=some (s,S'))(hh:S'.hp=S.hp)(k:opR C fr ⟨bx2,S.hp⟩ o=(opR C fr S o).bind fun p=>some (p.1,St.setB ⟨bx2,S.hp⟩ e (p.2.bx e))) :
  opR C fr ⟨bx2,S.hp⟩ o=some (s,⟨zoH (some e) S'.bx bx2,S'.hp⟩):=by
 rw[k,h,hh];unfold St.setB zoH;simp only[Option.bind_some,Option.some.injEq,Prod.mk.injEq,St.mk.injEq,and_true,true_and];funext d;by_cases q:d=e
 ·subst q;rfl
 ·rw[if_neg q,if_neg q]
theorem znx{C:Ctx}{S S':St}{bx2:Nat→Option Bx}{d:Option Nat}{T:TypeId}{cs:List Value}{s:Slot}(h:zcU C S d T cs (fun s S'=>some (s,S'))=some (s,S'))(hb:∀e,zkB C d=some e→bx2 e=S.bx e) :
  zcU C ⟨bx2,S.hp⟩ d T cs (fun s S'=>some (s,S'))=some (s,⟨zoH (zkB C d) S'.bx bx2,S'.hp⟩):=by
 unfold zcU at h ⊢;rcases d with _|d
 ·cases h
 ·dsimp only at h ⊢;unfold zkB at hb ⊢;cases he:(C.O.loc C.f).elem d with
  |true=>
   rw[he]at h;dsimp only at h ⊢ hb;rw[he]at hb ⊢;rw[hb d rfl];rcases hq:S.bx d with _|b
   ·rw[hq]at h;cases h;dsimp only;unfold St.setB zoH;simp only[Option.some.injEq,Prod.mk.injEq,St.mk.injEq,and_true,true_and];funext e;by_cases q:e=d
    ·subst q;simp
    ·simp[q]
   ·rw[hq]at h;cases h
  |false=>
   rw[he]at h;dsimp only at h ⊢;rw[he];cases hg:C.O.gt T<;>rw[hg]at h<;>cases h<;>rfl
theorem zhE(s:Slot)(S:St)(b2:Nat→Option Bx)(e:Nat)(c:Option Bx):some (s,St.setB ⟨b2,S.hp⟩ e c)=(some (s,S.setB e c)).bind fun p=>some (p.1,St.setB ⟨b2,S.hp⟩ e (p.2.bx e)):=by simp[St.setB]
theorem zqu(s:Slot)(S:St)(b2:Nat→Option Bx)(e:Nat)(h:b2 e=S.bx e):some (s,(⟨b2,S.hp⟩:St))=(some (s,S)).bind fun p=>some (p.1,St.setB ⟨b2,S.hp⟩ e (p.2.bx e)):=by
 have:St.setB ⟨b2,S.hp⟩ e (S.bx e)=⟨b2,S.hp⟩:=by
  unfold St.setB;simp only[St.mk.injEq,and_true];funext j;split
  ·rename_i q;rw[q,h]
  ·rfl
 simp[this]
theorem eff_bx{C:Ctx}{fr:Fr}{S S':St}{o:Oper}{s:Slot}{bx2:Nat→Option Bx}(h:opR C fr S o=some (s,S'))(hk:zcV C.P o.op=.eff)(hb:∀d,zbF C fr o=some d→bx2 d=S.bx d) :
  opR C fr ⟨bx2,S.hp⟩ o=some (s,⟨zoH (zbF C fr o) S'.bx bx2,S'.hp⟩):=by
 have htag:=zo6 h hk;have h0:=h;unfold opR opC at h;dsimp only at h;unfold zbF at hb htag ⊢;cases hop:o.op<;>rw[hop]at h hk hb htag<;>(try dsimp only at h)<;>(try cases h;done)<;>(try cases hk;done)
 case alloc T=>
  unfold opR opC;rw[hop];dsimp only;unfold zgy at h ⊢;rcases hi:C.P.info? T with _|i
  ·rw[hi]at h;cases h
  ·rw[hi]at h;dsimp only at h ⊢;rcases hz:i.zero with _|z
   ·rw[hz]at h;cases h
   ·rw[hz]at h;dsimp only at h ⊢;cases hc:zc6 z with
    |false=>rw[hc]at h;cases h
    |true=>
     rw[hc]at h;dsimp only at h ⊢;cases ha:(zad z).all one with
     |false=>rw[ha]at h;cases h
     |true=>
      rw[ha]at h;exact znx h hb
 case box T x=>
  unfold opR opC;rw[hop];dsimp only;unfold sV at h ⊢;cases he:ev C.P.globals.size fr x<;>rw[he]at h<;>first | (cases h;done)|exact znx h hb
 case buildSlice T n p=>
  refine zec h0 ?_;unfold opR opC;rw[hop]
  try dsimp only
  exact zbx _ fun v=>zbC fun _ _ _=>zdy fun _ _=>rfl
 case insert T m key x=>
  refine zec h0 ?_;unfold opR opC;rw[hop]
  try dsimp only
  exact zaF fun m=>zaF fun key=>zaF fun x=>zbN fun _ _=>zf6 fun _=>rfl
 case convert src dst x=>
  refine zec h0 ?_;unfold opR opC;rw[hop]
  try dsimp only
  exact zaF fun x=>zgP (fun _=>rfl) (fun _ _=>rfl)
 case makeMap T x=>
  refine zec h0 ?_;unfold opR opC;rw[hop]
  try dsimp only
  cases x with
  |none=>rfl
  |some x=>exact zaF fun x=>zbN fun _ _=>zjW rfl
 case makeSlice T l c=>
  refine zec h0 ?_;unfold opR opC;rw[hop]
  try dsimp only
  exact zaF fun l=>zaF fun c=>zbC fun _ _ _=>zea fun _ _=>rfl
 case slice T x lo hi mx=>
  cases mx with
  |some m=>cases h
  |none=>
   refine zec h0 ?_;unfold opR opC;rw[hop]
   try dsimp only
   refine zaF fun x=>zdN fun lo=>zdN fun hi=>?_;unfold zcV at hk;dsimp only at hk;rcases h1:C.P.underlying T with _|d
   ·rfl
   ·rw[h1]at hk;cases d<;>first|rfl | (cases hk;done)|skip;rename_i len e;dsimp only;rcases C.P.info? e with _|i
    ·rfl
    ·exact zgF fun _=>rfl
 case mapUpdate T m key x=>
  refine zec h0 ?_;unfold opR opC;rw[hop]
  try dsimp only
  exact zaF fun m=>zaF fun key=>zaF fun x=>zbN fun _ _=>zf6 fun _=>rfl
 case call c=>
  refine zec h0 ?_;unfold opR opC;rw[hop]
  try dsimp only
  rcases c.callee with fo|⟨rv,m⟩|b
  ·exact zaF fun fv=>zbx _ fun vs=>zhk fun _ _=>rfl
  ·rfl
  ·refine zbx _ fun vs=>?_;generalize c.argTypes.toList=ts;cases b<;>(try dsimp only)<;>first|rfl|exact zjS fun _=>rfl|skip
   all_goals
    rcases vs with _|⟨x,_|⟨y,_|⟨z,vs⟩⟩⟩<;>rcases ts with _|⟨t,_|⟨u,_|⟨t3,ts⟩⟩⟩<;>(try dsimp only)<;>first|rfl|skip
   ·refine zbC fun sz bytes _=>?_;rcases C.P.underlying u with _|d
    ·rfl
    ·cases d<;>first|rfl|exact zfy fun _ _=>rfl
   ·exact zbC fun sz _ _=>zjX fun _ _=>rfl
   ·exact zbN fun kt _=>zmi fun _=>rfl
   ·rcases C.P.underlying t with _|d
    ·rfl
    ·dsimp only;rcases lenK d with _|q
     ·rfl
     ·exact zi2 fun _=>rfl
 case store T a x=>
  dsimp only at hb htag ⊢;cases he:ev C.P.globals.size fr a with
  |loc d off=>
   rw[he]at hb htag;refine box_bx d h0 htag.1 ?_;unfold opR opC;rw[hop];dsimp only;refine zaF fun v=>zcx fun n agg=>?_;rw[he];dsimp only;rw[hb d rfl];rcases S.bx d with _|b
   ·rfl
   ·cases b with
    |cells cs ro=>cases ro<;>first|rfl|exact zgE fun _=>zhE _ _ _ _ _
    |_=>rfl
  |_=>
   refine zec h0 ?_;unfold opR opC;rw[hop];dsimp only;refine zaF fun v=>zcx fun n agg=>?_;rw[he]
   first|rfl|exact zhU fun _=>rfl
 case range T x=>
  dsimp only at hb htag ⊢;rcases hd:o.dst with _|d
  ·refine zec h0 ?_;unfold opR opC;rw[hop];dsimp only;refine zaF fun x=>?_;rw[hd];rcases C.P.underlying T with _|d
   ·rfl
   ·cases d<;>rfl
  ·rw[hd]at hb htag;refine box_bx d h0 htag.1 ?_;unfold opR opC;rw[hop];dsimp only;refine zaF fun x=>?_;rw[hd];rcases C.P.underlying T with _|dd
   ·rfl
   ·cases dd<;>first|rfl|skip;dsimp only;rw[hb d rfl];rcases S.bx d with _|b
    ·exact zjP fun _=>zhE _ _ _ _ _
    ·rfl
 case next it b=>
  dsimp only at hb htag ⊢;cases b with
  |false=>cases h
  |true=>
  try dsimp only at h
  cases he:ev C.P.globals.size fr it with
  |loc d off=>
   rw[he]at h hb htag;cases off with
   |succ n=>cases h
   |zero=>
    refine box_bx d h0 htag.1 ?_;unfold opR opC;rw[hop];dsimp only;rw[he];have hbd:bx2 d=S.bx d:=hb d rfl
    show (match bx2 d with
      |some (.iter s pos)=>br (Nat.blt pos s.size) (some ((Slot.val (.tuple #[.bool true,.int .i64 pos,.int .i32 (Utf8.decode s pos).1])),(St.setB ⟨bx2,S.hp⟩ d (some (.iter s (pos+(Utf8.decode s pos).2)))))) (some ((Slot.val (.tuple #[.bool false])),(⟨bx2,S.hp⟩:St)))
      |_=>none)=(match S.bx d with
      |some (.iter s pos)=>br (Nat.blt pos s.size) (some ((Slot.val (.tuple #[.bool true,.int .i64 pos,.int .i32 (Utf8.decode s pos).1])),(S.setB d (some (.iter s (pos+(Utf8.decode s pos).2)))))) (some ((Slot.val (.tuple #[.bool false])),S))
      |_=>none).bind fun p=>some (p.1,St.setB ⟨bx2,S.hp⟩ d (p.2.bx d))
    rw[hbd];rcases hq:S.bx d with _|b
    ·rfl
    ·cases b with
     |iter st pos=>exact br_nat (zhE _ _ _ _ _) (zqu _ _ _ _ hbd)
     |_=>rfl
  |_=>rw[he]at h;cases h
theorem opR_pr{C:Ctx}{fr:Fr}{S S' S2:St}{o:Oper}{s:Slot}(h:opR C fr S o=some (s,S'))(hp:zcV C.P o.op=.pure∨(zcV C.P o.op=.read∧S2=S)) :
  S'=S∧opR C fr S2 o=some (s,S2):=by
 unfold opR at h;rw[znu C fr S S2 o _ hp]at h;have hs:opC C fr S2 o (fun s _=>some s)=some s∧S=S':=by
  cases hq:opC C fr S2 o (fun s _=>some s) with
  |none=>rw[hq]at h;cases h
  |some q=>rw[hq]at h;cases h;exact⟨rfl,rfl⟩
 refine⟨hs.2.symm,?_⟩;unfold opR;rw[znu C fr S2 S2 o _ (hp.imp id fun q=>⟨q.1,rfl⟩),hs.1];rfl
theorem read_same{C:Ctx}{fr:Fr}{S S2:St}{o:Oper}{s:Slot}(h:opR C fr S o=some (s,S))(hk:zcV C.P o.op=.read)(hs:zm3 (zbF C fr o) S S2):opR C fr S2 o=some (s,S2):=by
 have key:opC C fr S2 o (fun s _=>some s)=opC C fr S o (fun s _=>some s):=by
  unfold opC;dsimp only;unfold zbF at hs;cases hop:o.op<;>rw[hop]at hk hs<;>(try dsimp only)<;>(try cases hk;done)
  case load T a=>
   dsimp only at hs;cases he:ev C.P.globals.size fr a with
   |loc d off=>
    rw[he]at hs;have hs:S2.bx d=S.bx d:=hs;dsimp only;rw[hs]
   |val p=>
    rw[he]at hs;have hs:S2.hp=S.hp:=hs;dsimp only;rw[hs]
   |_=>rfl
  case lookup T m key ok=>
   have hs:S2.hp=S.hp:=hs;rw[hs]
  case convert src dst x=>
   unfold zcV at hk;dsimp only at hk;split at hk<;>cases hk
  case slice T x lo hi mx=>
   unfold zcV at hk;dsimp only at hk;split at hk<;>cases hk
  case call c=>
   obtain⟨callee,args,ats⟩:=c;rcases callee with fo|⟨rv,m⟩|b
   ·cases hk
   ·rfl
   ·have hs:S2.hp=S.hp:=hs;cases b<;>first|cases hk;done|skip
    rw[hs]
 unfold opR at h ⊢;rw[znu C fr S S o _ (.inr ⟨hk,rfl⟩)]at h;rw[znu C fr S2 S2 o _ (.inr ⟨hk,rfl⟩),key];cases hq:opC C fr S o (fun s _=>some s) with
 |none=>rw[hq]at h;cases h
 |some q=>rw[hq]at h;cases h;rfl
theorem zi8{α:Type}{p:Prop}{k:Option α}{r:α}(h:chk p k=some r):p∧k=some r:=by
 unfold chk at h;split at h
 ·exact⟨by assumption,h⟩
 ·cases h
theorem zqc{α:Type}{G:Nat}{fr:Fr}{r:α}:∀(xs:List Operand) (f:List Value→Option α),evs G fr xs f=some r→∃vs,f vs=some r∧∀{γ:Type} (g:List Value→Option γ),evs G fr xs g=g vs
 |[],f,h=>⟨[],h,fun g=>rfl⟩
 |x::xs,f,h=>by
  unfold evs at h;unfold sV at h;split at h
  ·rename_i v hv;obtain⟨vs,h1,h2⟩:=zqc xs _ h;refine⟨v::vs,h1,fun g=>?_⟩;unfold evs;rw[hv];exact h2 _
  ·cases h
theorem again_ok{α:Type}{C:Ctx}{fr:Fr}{S S2:St}{o:Oper}{s:Slot}{k:Option α}{r:α}(h:opR C fr S o=some (s,S))(hk:zcV C.P o.op=.read)(ha:zh7 C fr S2 o s k=some r):k=some r∧opR C fr S2 o=some (s,S2):=by
 have key:k=some r∧opC C fr S2 o (fun s _=>some s)=some s:=by
  unfold zh7 at ha;dsimp only at ha;split at ha
  ·rename_i v;unfold opC;dsimp only;split at ha
   ·rename_i T a hop;rw[hop];dsimp only;unfold tyC at ha ⊢;split at ha
    ·cases ha
    ·split at ha
     ·cases ha
     ·rename_i i hi _ d hd;dsimp only at ha ⊢;split at ha
      ·rename_i d off he
       try dsimp only at ha ⊢
       split at ha
       ·rename_i cs ro hb;obtain⟨h1,h2⟩:=zi8 ha;exact⟨h2,by (try dsimp only);unfold zaf;rw[h1]⟩
       ·cases ha
      ·rename_i p he;obtain⟨h1,h2⟩:=zi8 ha;exact⟨h2,by (try dsimp only);unfold zaH;rw[h1]⟩
      ·cases ha
   ·rename_i T m key ok hop;rw[hop];dsimp only;unfold sV at ha ⊢;split at ha
    ·rename_i mv hm;split at ha
     ·rename_i kv hkv;simp only[hm,hkv];unfold mapC zgy at ha ⊢;split at ha
      ·rename_i kt et hu;split at ha
       ·rename_i hko;split at ha
        ·cases ha
        ·rename_i i hi;split at ha
         ·cases ha
         ·rename_i z hz;split at ha
          ·rename_i hc;obtain⟨h1,h2⟩:=zi8 ha;refine⟨h2,?_⟩;simp only[hu,hko,hi,hz,hc];unfold zc3 at h1 ⊢;split at h1
           ·dsimp only;split at h1<;>cases h1<;>rfl
           ·cases h1
          ·cases ha
       ·cases ha
      ·cases ha
     ·cases ha
    ·cases ha
   ·rename_i c hop;rw[hop]at hk ⊢;obtain⟨callee,args,ats⟩:=c;rcases callee with fo|⟨rv,m⟩|b
    ·cases hk
    ·cases hk
    ·cases b<;>first|cases hk;done|skip
     obtain⟨vs,h1,h2⟩:=zqc _ _ ha;refine(?_:k=some r∧evs C.P.globals.size fr args.toList _=some (Slot.val v));rw[h2];generalize ats.toList=ts at h1 ⊢;rcases vs with _|⟨x,_|⟨y,vs⟩⟩<;>rcases ts with _|⟨t,_|⟨u,ts⟩⟩<;>(try cases h1;done)
     dsimp only at h1 ⊢;rcases hu:C.P.underlying t with _|d
     ·rw[hu]at h1;cases h1
     ·rw[hu]at h1;dsimp only at h1 ⊢;rcases hq:lenK d with _|q
      ·rw[hq]at h1;cases h1
      ·rw[hq]at h1;dsimp only at h1 ⊢;obtain⟨g1,g2⟩:=zi8 h1;refine⟨g2,?_⟩;unfold pLen;rw[g1]
   ·cases ha
  ·cases ha
 refine⟨key.1,?_⟩;unfold opR;rw[znu C fr S2 S2 o _ (.inr ⟨hk,rfl⟩),key.2];rfl
end
end Go.AM
namespace Go.AM
open List Go
theorem zcX{α:Type}{G:Nat}{fr fr':Fr}:∀(xs:List Operand) (k:List Value→Option α),(∀x∈xs,ev G fr x=ev G fr' x)→evs G fr xs k=evs G fr' xs k
 |[],k,h=>rfl
 |x::xs,k,h=>by unfold evs;rw[h x (mem_cons_self ..)];congr 1;funext v;exact zcX xs _ fun y hy=>h y (mem_cons_of_mem _ hy)
theorem zli{α:Type}{G:Nat}{fr fr':Fr}(x:Option Operand)(k:Option Value→Option α)(h:∀y,x=some y→ev G fr y=ev G fr' y):optV G fr x k=optV G fr' x k:=by
 cases x with
 |none=>rfl
 |some x=>unfold optV;dsimp only;rw[h x rfl]
theorem opR_congr{C:Ctx}{fr fr':Fr}{S:St}{o:Oper}(h:∀x∈o.op.operands,ev C.P.globals.size fr x=ev C.P.globals.size fr' x):opR C fr S o=opR C fr' S o:=by
 unfold opR opC;dsimp only;cases hop:o.op<;>rw[hop]at h<;>(try dsimp only)<;>(try rfl)
 case move x=>
  have hx:=h x (by simp[Op.operands]);simp only[hx]
 case assign x=>
  have hx:=h x (by simp[Op.operands]);simp only[hx]
 case pick c a b=>
  have hc:=h c (by simp[Op.operands]);have ha:=h a (by simp[Op.operands]);have hb:=h b (by simp[Op.operands]);simp only[hc,ha,hb]
 case box T x=>
  have hx:=h x (by simp[Op.operands]);simp only[hx]
 case insert T m y x=>
  have hm:=h m (by simp[Op.operands]);have hy:=h y (by simp[Op.operands]);have hx:=h x (by simp[Op.operands]);simp only[hm,hy,hx]
 case load T a=>
  have ha:=h a (by simp[Op.operands]);simp only[ha]
 case store T a x=>
  have ha:=h a (by simp[Op.operands]);have hx:=h x (by simp[Op.operands]);simp only[ha,hx]
 case nilCheck x=>
  have hx:=h x (by simp[Op.operands]);simp only[hx]
 case binOp op T x y T'=>
  have hx:=h x (by simp[Op.operands]);have hy:=h y (by simp[Op.operands]);simp only[hx,hy]
 case unOp op T x=>
  have hx:=h x (by simp[Op.operands]);simp only[hx]
 case convert src dst x=>
  have hx:=h x (by simp[Op.operands]);simp only[hx]
 case makeSlice T l c=>
  have hl:=h l (by simp[Op.operands]);have hc:=h c (by simp[Op.operands]);simp only[hl,hc]
 case fieldAddr T x f=>
  have hx:=h x (by simp[Op.operands]);simp only[hx]
 case field T x f=>
  have hx:=h x (by simp[Op.operands]);simp only[hx]
 case indexAddr T x i=>
  have hx:=h x (by simp[Op.operands]);have hi:=h i (by simp[Op.operands]);simp only[hx,hi]
 case index T x i=>
  have hx:=h x (by simp[Op.operands]);have hi:=h i (by simp[Op.operands]);simp only[hx,hi]
 case lookup T m y ok=>
  have hm:=h m (by simp[Op.operands]);have hy:=h y (by simp[Op.operands]);simp only[hm,hy]
 case mapUpdate T m y x=>
  have hm:=h m (by simp[Op.operands]);have hy:=h y (by simp[Op.operands]);have hx:=h x (by simp[Op.operands]);simp only[hm,hy,hx]
 case range T x=>
  have hx:=h x (by simp[Op.operands]);simp only[hx]
 case next x b=>
  have hx:=h x (by simp[Op.operands]);cases b with
  |false=>rfl
  |true=>dsimp only;rw[hx]
 case extract t i=>
  have ht:=h t (by simp[Op.operands]);simp only[ht]
 case makeInterface T x=>
  have hx:=h x (by simp[Op.operands]);simp only[hx]
 case typeAssert x T' T ok=>
  have hx:=h x (by simp[Op.operands]);simp only[hx]
 case build T p=>
  refine zcX _ _ fun x hx=>h x ?_;simp only[Op.operands];exact mem_toArray.2 hx
 case buildSlice T n p=>
  refine zcX _ _ fun x hx=>h x ?_;simp only[Op.operands];exact mem_toArray.2 hx
 case makeFunc fn first captured=>
  rw[zcX first.toList _ fun x hx=>h x (by simp[Op.operands];exact .inl (by simpa using hx))];congr 1;funext fs;exact zcX captured.toList _ fun x hx=>h x (by simp[Op.operands];exact .inr (by simpa using hx))
 case makeMap T x=>
  cases x with
  |none=>rfl
  |some x=>
   have hx:=h x (by simp[Op.operands]);simp only[hx]
 case slice T x lo hi mx=>
  have hx:=h x (by simp[Op.operands]);cases mx with
  |some m=>rfl
  |none=>
   dsimp only;rw[hx];congr 1;funext v;rw[zli lo _ fun y hy=>h y (by subst hy;simp[Op.operands])];congr 1;funext l;rw[zli hi _ fun y hy=>h y (by subst hy;simp[Op.operands])]
 case call c=>
  obtain⟨callee,args,ats⟩:=c;have ha:∀x∈args.toList,ev C.P.globals.size fr x=ev C.P.globals.size fr' x:=fun x hx=>h x (by simp[Op.operands,Call.operands];exact .inr (by simpa using hx));rcases callee with fo|⟨rv,m⟩|b
  ·have hf:=h fo (by simp[Op.operands,Call.operands]);dsimp only;rw[hf];congr 1;funext v;exact zcX _ _ ha
  ·rfl
  ·exact zcX _ _ ha
theorem zmx{P:Program}{O:Orc}{f:FuncId}{ops:List Oper}{an:List Nat}(h:zgI P O f ops an=true){j:Nat}{o:Oper}(ho:ops[j]?=some o):∀e∈o.after,Region.binds .any e=true→e.on<j:=by intro e he hb;unfold zgI at h;rw[all_eq_true]at h;have:=h j (mem_range.2 (List.getElem?_eq_some_iff.1 ho).1);rw[Bool.and_eq_true,ho]at this;have h1:=all_eq_true.1 this.1 e (by simpa using he);rw[hb]at h1;exact Nat.le_of_ble_eq_true (by simpa[Nat.blt] using h1)
theorem zcW{P:Program}{O:Orc}{f:FuncId}{ops:List Oper}{an:List Nat}(h:zgI P O f ops an=true){i j:Nat}{a b:Oper}(hij:i<j)(ha:ops[i]?=some a)(hb:ops[j]?=some b) :
  (an.getD j 0).testBit i=true∨(zqZ ops a b=false∧¬(zbX P O f a=.eff∧zbX P O f b=.eff)):=by
 unfold zgI at h;rw[all_eq_true]at h;have:=h j (mem_range.2 (List.getElem?_eq_some_iff.1 hb).1);rw[Bool.and_eq_true]at this;have h1:=all_eq_true.1 this.2 i (mem_range.2 hij);rw[ha,hb]at h1;dsimp only at h1;rw[Bool.or_eq_true]at h1;rcases h1 with h1|h1
 ·exact .inl h1
 ·refine .inr ⟨?_,fun⟨ka,kb⟩=>?_⟩
  ·cases hc:zqZ ops a b with
   |false=>rfl
   |true=>rw[hc]at h1;cases h1
  ·rw[ka,kb]at h1;cases hc:zqZ ops a b<;>rw[hc]at h1<;>cases h1
def bitsOf(acc:List Nat)(s:Nat)(es:List Edge):Nat:=es.foldl (fun s e=>match Region.binds .any e with|true=>s|||2^e.on|||acc.getD e.on 0|false=>s) s
theorem zkC{acc:List Nat}{l:Nat}:∀(es:List Edge) (s:Nat),(bitsOf acc s es).testBit l=true→s.testBit l=true∨∃e∈es,Region.binds .any e=true∧(l=e.on∨(acc.getD e.on 0).testBit l=true)
 |[],s,h=>.inl h
 |e::es,s,h=>by
  unfold bitsOf at h;rw[foldl_cons]at h;rcases zkC es _ h with h1|⟨e',he',h2⟩
  ·split at h1
   ·rename_i hb;rw[Nat.testBit_or,Nat.testBit_or,Bool.or_eq_true,Bool.or_eq_true,Nat.testBit_two_pow]at h1;rcases h1 with (h1|h1)|h1
    ·exact .inl h1
    ·exact .inr ⟨e,mem_cons_self ..,hb,.inl (of_decide_eq_true h1).symm⟩
    ·exact .inr ⟨e,mem_cons_self ..,hb,.inr h1⟩
   ·exact .inl h1
  ·exact .inr ⟨e',mem_cons_of_mem _ he',h2⟩
theorem anc_in{ops:List Oper}{D:Nat→Prop}(hD:∀(i:Nat) o,D i→ops[i]?=some o→∀e∈o.after,Region.binds .any e=true→D e.on) :
  ∀(j:Nat) o,ops[j]?=some o→(∀e∈o.after,Region.binds .any e=true→D e.on)→∀l,((ancs ops).getD j 0).testBit l=true→D l:=by
 have key:∀(rest:List Oper) (acc:List Nat),ops.drop acc.length=rest →
   (∀(j:Nat) o,ops[j]?=some o→(∀e∈o.after,Region.binds .any e=true→D e.on)→∀l,(acc.getD j 0).testBit l=true→D l) →
   ∀(j:Nat) o,ops[j]?=some o→(∀e∈o.after,Region.binds .any e=true→D e.on)→∀l,((rest.foldl (fun acc o=>acc++[bitsOf acc 0 o.after.toList]) acc).getD j 0).testBit l=true→D l:=by
  intro rest;induction rest with
  |nil=>intro acc _ h;exact h
  |cons p rest ih=>
   intro acc hd h;rw[foldl_cons];have hp:ops[acc.length]?=some p:=by
    have:(ops.drop acc.length)[0]?=some p:=by rw[hd];rfl
    rw[List.getElem?_drop]at this;simpa using this
   refine ih _ (by rw[length_append,←drop_drop,hd];rfl) ?_;intro j o ho he l hl;rw[getD_eq_getElem?_getD]at hl;rcases Nat.lt_trichotomy j acc.length with q|q|q
   ·rw[List.getElem?_append_left q,←getD_eq_getElem?_getD]at hl;exact h j o ho he l hl
   ·subst q;rw[List.getElem?_append_right (Nat.le_refl _)]at hl;simp only[Nat.sub_self,List.getElem?_cons_zero,Option.getD_some]at hl;rw[hp]at ho;cases ho;rcases zkC _ _ hl with h1|⟨e,hm,hb,h1⟩
    ·simp at h1
    ·have hm':e∈p.after:=by simpa using hm
     rcases h1 with rfl|h1
     ·exact he e hm' hb
     ·have hDe:=he e hm' hb;cases hoe:ops[e.on]? with
      |some oe=>exact h e.on oe hoe (fun e' he' hb'=>hD e.on oe hDe hoe e' he' hb') l h1
      |none=>
       have hlen:acc.length≤e.on:=by have h1:=(List.getElem?_eq_some_iff.1 hp).1;have h2:=List.getElem?_eq_none_iff.1 hoe;omega
       rw[getD_eq_getElem?_getD,List.getElem?_eq_none hlen]at h1;simp at h1
   ·rw[List.getElem?_eq_none (by simp;omega)]at hl;simp at hl
 intro j o ho he l hl;refine key ops [] rfl ?_ j o ho he l ?_
 ·intro j o _ _ l hl;simp at hl
 ·exact hl
def zdd(ops:List Oper)(fr:Fr)(o:Oper):Option Bool:=zd3 ops fr o fun b _=>some b
theorem set_same{fr:Fr}{d:Nat}{v:Value}(h:getS fr d=.val v):fr.set d (.val v)=fr:=by
 apply ext_getElem?;intro i;rw[List.getElem?_set];split
 ·rename_i e;subst e;unfold getS at h;rw[getD_eq_getElem?_getD]at h;cases hq:fr[d]? with
  |none=>rw[hq]at h;cases h
  |some s=>rw[hq]at h;rw[if_pos (List.getElem?_eq_some_iff.1 hq).1];rw[←h];rfl
 ·rfl
theorem zqS{α:Type}{ops:List Oper}{fr:Fr}{o:Oper}{k:Bool→Fr→Option α}{r:α}(h:zd3 ops fr o k=some r):∃b,zdd ops fr o=some b∧k b fr=some r:=by
 unfold zdd;unfold zd3 at h ⊢;split at h
 ·exact⟨true,rfl,h⟩
 ·split at h
  ·split at h
   ·split at h
    ·exact⟨false,rfl,h⟩
    ·rename_i d _ _ hne;unfold sV at h ⊢;split at h
     ·rename_i v hv;dsimp only at h ⊢;unfold zae at h ⊢;split at h
      ·rename_i b;dsimp only at h ⊢;unfold br at h ⊢;cases b with
       |true=>
        dsimp only at h ⊢;rw[set_same hv]at h;exact⟨_,rfl,h⟩
       |false=>
        dsimp only at h ⊢;rw[set_same hv]at h;exact⟨_,rfl,h⟩
      ·cases h
     ·cases h
   ·cases h
  ·cases h
theorem ziu{ops:List Oper}{fr fr':Fr}{o:Oper}(h:∀t∈zcY ops o,getS fr t=getS fr' t):zdd ops fr o=zdd ops fr' o:=by
 unfold zdd zd3;cases hg:o.guard with
 |none=>rfl
 |some jw=>
  obtain⟨j,want⟩:=jw;dsimp only;cases hj:ops[j]? with
  |none=>rfl
  |some g=>
   dsimp only;cases hd:g.dst with
   |none=>rfl
   |some d=>
    dsimp only;have hm:d∈zcY ops o:=by unfold zcY;rw[hg];dsimp only;rw[hj];dsimp only;rw[hd];exact mem_append_right _ (by simp)
    rw[h d hm]
theorem zqd{ops:List Oper}{G:Nat}{fr fr':Fr}{o:Oper}(h:∀t∈zcY ops o,getS fr t=getS fr' t):∀x∈o.op.operands,ev G fr x=ev G fr' x:=by
 intro x hx;cases x with
 |tmp t=>
  refine h t ?_;unfold zcY;exact mem_append_left _ (mem_filterMap.2 ⟨.tmp t,by simpa using hx,rfl⟩)
 |_=>rfl
theorem zgQ{ops:List Oper}{a b:Oper}(h:zqZ ops a b=false):(∀d,a.dst=some d→d∉zcY ops b∧b.dst≠some d)∧(∀d,b.dst=some d→d∉zcY ops a):=by
 unfold zqZ at h;rw[Bool.or_eq_false_iff]at h;refine⟨fun d hd=>?_,fun d hd=>?_⟩
 ·have:=h.1;rw[hd]at this;dsimp only at this;rw[Bool.or_eq_false_iff]at this;refine⟨fun hm=>?_,fun hq=>?_⟩
  ·have h1:(zcY ops b).elem d=true:=by simpa using hm
   rw[h1]at this;cases this.1
  ·rw[hq]at this;simp at this
 ·have:=h.2;rw[hd]at this;dsimp only at this;intro hm;have h1:(zcY ops a).elem d=true:=by simpa using hm
  rw[h1]at this;cases this
theorem zh9{β:Bt}{v:Value}(h:zf0 v=true):VRel β v v:=by unfold zf0 at h;split at h<;>first|constructor|cases h
theorem zcM{β:Bt}{v:Value}(h:zc6 v=true):VRel β v v:=by
 have aux:∀l:List Value,l.all zf0=true→LRel β l l:=fun l hl=>⟨rfl,fun k u u' hu hu'=>by
  rw[hu]at hu';cases hu'
  exact zh9 (all_eq_true.1 hl u (mem_of_getElem? hu))⟩
 unfold zc6 at h;split at h
 ·exact zcu.2 ⟨_,rfl,aux _ h⟩
 ·exact zb2.2 ⟨_,rfl,aux _ h⟩
 ·exact zh9 h
theorem zeE{P:Program}{N:Nat}{w:World}{H:Hp}{bx:Nat→Option Bx}{β:Bt}{lam:Nat→Nat}{fr:Fr}{a:Act}
  (hR:Rel P w H β) (hF:FRel N w bx β lam fr a) (x:Operand):SRel β lam bx (ev P.globals.size fr x) (a.eval x):=by
 cases x with
 |tmp t=>
  show SRel β lam bx (getS fr t) (a.tmps.getD t undef);unfold getS;cases h:fr[t]? with
  |none=>rw[getD_eq_getElem?_getD,h];trivial
  |some s=>rw[getD_eq_getElem?_getD,h];exact hF.slot t s h
 |const v=>
  simp only[ev,Act.eval];cases h:zc6 v with
  |true=>exact zcM h
  |false=>trivial
 |global g=>
  simp only[ev,Act.eval];cases h:Nat.blt g P.globals.size with
  |true=>
   obtain⟨t,ht⟩:=hR.glob g (by have:=h;simp[Nat.blt]at this;omega);exact VRel.ptr (β:=β) g 0 _ ht
  |false=>trivial
 |func f=>exact .func _ _ _ _ _ rfl (by simp) rfl (by simp)
section
variable {α:Type}
theorem sV_inv{s:Slot}{k:Value→Option α}{r:α}(h:sV s k=some r):∃v,s=.val v∧k v=some r:=by
 unfold sV at h;split at h
 ·exact⟨_,rfl,h⟩
 ·cases h
theorem za7{P:Program}{N:Nat}{w:World}{H:Hp}{bx:Nat→Option Bx}{β:Bt}{lam:Nat→Nat}{fr:Fr}{a:Act}
  (hR:Rel P w H β) (hF:FRel N w bx β lam fr a) {x:Operand} {k:Value→Option α} {r:α} (h:sV (ev P.globals.size fr x) k=some r) :
  ∃v,VRel β v (a.eval x)∧k v=some r:=by
 obtain⟨v,hv,hk⟩:=sV_inv h;have:=zeE hR hF x;rw[hv]at this;exact⟨v,this,hk⟩
theorem zfV{P:Program}{N:Nat}{w:World}{H:Hp}{bx:Nat→Option Bx}{β:Bt}{lam:Nat→Nat}{fr:Fr}{a:Act}
  (hR:Rel P w H β) (hF:FRel N w bx β lam fr a):∀(xs:List Operand) {k:List Value→Option α} {r:α},evs P.globals.size fr xs k=some r →
  ∃vs,LRel β vs (xs.map a.eval)∧k vs=some r
 |[],k,r,h=>⟨[],LRel.nil _,h⟩
 |x::xs,k,r,h=>by unfold evs at h;obtain⟨v,hv,hk⟩:=za7 hR hF h;obtain⟨vs,hvs,hk⟩:=zfV hR hF xs hk;exact⟨v::vs,hvs.cons hv,hk⟩
def ORel(β:Bt)(v v':Option Value):Prop:=match v,v' with|none,none=>True|some v,some v'=>VRel β v v'|_,_=>False
theorem zpX{P:Program}{N:Nat}{w:World}{H:Hp}{bx:Nat→Option Bx}{β:Bt}{lam:Nat→Nat}{fr:Fr}{a:Act}
  (hR:Rel P w H β) (hF:FRel N w bx β lam fr a) {x:Option Operand} {k:Option Value→Option α} {r:α} (h:optV P.globals.size fr x k=some r) :
  ∃v:Option Value,k v=some r∧ORel β v (x.map a.eval):=by
 cases x with
 |none=>exact⟨none,h,trivial⟩
 |some x=>
  obtain⟨v,hv,hk⟩:=za7 hR hF h;exact⟨some v,hk,hv⟩
theorem zhA{P:Program}{T:TypeId}{k:Nat→Bool→Option α}{r:α}(h:tyC P T k=some r) :
  ∃i d,P.info? T=some i∧P.underlying T=some d∧k i.size (aggD d)=some r:=by
 unfold tyC at h;split at h
 ·cases h
 ·split at h
  ·cases h
  ·exact⟨_,_,by assumption,by assumption,h⟩
theorem zgV{P:Program}{T:TypeId}{k:Value→Option α}{r:α}(h:zgy P T k=some r) :
  ∃i z,P.info? T=some i∧i.zero=some z∧zc6 z=true∧k z=some r:=by
 unfold zgy at h;split at h
 ·cases h
 ·split at h
  ·cases h
  ·split at h
   ·exact⟨_,_,by assumption,by assumption,by assumption,h⟩
   ·cases h
end
section
variable {P:Program}(w:World)
theorem zcR{T:TypeId}{i:TypeInfo}(h:P.info? T=some i):(typeInfo T).run P w=.ok i w:=by simp[typeInfo,h]
theorem za0{T:TypeId}{i:TypeInfo}(h:P.info? T=some i):(sizeOf T).run P w=.ok i.size w:=by simp[sizeOf,zcR w h]
theorem zaz{T:TypeId}{d:TypeDesc}(h:P.underlying T=some d):(underlying T).run P w=.ok d w:=by simp[underlying,h]
theorem zm4{T:TypeId}{d:TypeDesc}(h:P.underlying T=some d):(isAgg T).run P w=.ok (aggD d) w:=by simp only[isAgg,Sem.run_bind,zaz w h,Result.andThen_ok];cases d<;>rfl
theorem zbD{T:TypeId}{i:TypeInfo}{z:Value}(h:P.info? T=some i)(hz:i.zero=some z):(zeroValue T).run P w=.ok z w:=by simp[zeroValue,zcR w h,hz]
end
theorem zdm{P:Program}{w:World}{β:Bt}{cs:List Value}{b s off:Nat}{T:TypeId}{i:TypeInfo}{d:TypeDesc}(hi:P.info? T=some i)(hd:P.underlying T=some d)
  (hc:∀(j:Nat) u,cs[j]?=some u→∃u',w.cell? ⟨b,s+j,none⟩=some u'∧VRel β u u') {v:Value} (hv:zcD cs off i.size (aggD d)=some v) :
  ∃v',(loadVar T ⟨b,s+off,none⟩).run P w=.ok v' w∧VRel β v v':=by
 unfold zcD at hv;simp only[loadVar,Sem.run_bind,zm4 w hd,Result.andThen_ok];cases ha:aggD d with
 |true=>
  rw[ha]at hv;dsimp only at hv;split at hv
  ·rename_i hl;cases hv;have hlen:((cs.drop off).take i.size).length=i.size:=by simp;omega
   obtain⟨l',hr,hrel⟩:=zcB (P:=P) (w:=w) (b:=b) (off:=s+off) (β:=β) (l:=(cs.drop off).take i.size) (fun j u hu=>by
    rw[List.getElem?_take]at hu;split at hu
    ·rw[List.getElem?_drop]at hu;rw[show s+off+j=s+(off+j) by omega];exact hc _ u hu
    ·cases hu)
   rw[hlen]at hr;refine⟨.agg l'.toArray,?_,zcu.2 ⟨_,rfl,by simpa using hrel⟩⟩;simp only[if_true,Sem.run_bind,za0 w hi,Result.andThen_ok,hr,Sem.run_pure]
  ·cases hv
 |false=>
  rw[ha]at hv;dsimp only at hv;obtain⟨v',h1,h2⟩:=hc off v hv;exact⟨v',by simp only[Bool.false_eq_true,if_false,run_load,h1],h2⟩
theorem zjd{n off:Nat}{cs cs':List Value}{v:Value}(h:zbV n cs off v=some cs') :
  (zad v).length=n∧off+n≤cs.length∧(zad v).all one=true∧cs'=spl cs off (zad v):=by
 unfold zbV at h;split at h
 ·rename_i hc;cases h;exact⟨hc.1,hc.2.1,hc.2.2,rfl⟩
 ·cases h
theorem zmI{β:Bt}{l l':List Value}(h:LRel β l l')(ha:l.all one=true):l'.all Value.oneCell'=true:=by rw[all_eq_true]at ha ⊢;intro x hx;obtain⟨k,hk,rfl⟩:=getElem_of_mem hx;have hk2:k<l.length:=h.1▸hk;rw[(h.2 k l[k] l'[k] (by simp[hk2]) (by simp[hk])).one_eq];exact ha _ (getElem_mem hk2)
theorem zfu{P:Program}{w:World}{β:Bt}{T:TypeId}{i:TypeInfo}(hi:P.info? T=some i){v v':Value}(hv:VRel β v v')(hn:(zad v).length=i.size)(h1:(zad v).all one=true)
  {b off:Nat} {arr:Array Value} {e:TypeId} {fz:Nat×Nat} (hw:w.heap[b]?=some (.cells arr e fz)) (hfz:∀j,j<arr.size→¬(fz.1≤j∧j<fz.2)) (hl:off+i.size≤arr.size) :
  ∃w',(storeVar T ⟨b,off,none⟩ v').run P w=.ok () w'∧Put w b off v'.cells.toList w':=by
 have hc:=hv.cells;have hl':v'.cells.toList.length=i.size:=by rw[←hc.1];exact hn
 obtain⟨w',hr,hp⟩:=zcP P b off arr e fz hfz v'.cells.toList 0 w arr hw rfl (by omega) (zmI hc h1);refine⟨w',?_,by simpa using hp⟩;have hsz:v'.cells.size=i.size:=by simpa using hl'
 simp only[storeVar,Sem.run_bind,za0 w hi,Result.andThen_ok,hsz,ne_eq,not_true_eq_false,if_false,hr]
def RunTo(P:Program)(a:Act)(o:Oper)(w:World)(v':Value)(w':World):Prop:=
 (execOp a.eval o).run P w=.ok (.value v') w'∨((execOp a.eval o).run P w=.ok .skip w'∧v'=undef)
def Step{α:Type}(P:Program)(N:Nat)(w:World)(S:St)(β:Bt)(lam:Nat→Nat)(fr:Fr)(a:Act)(o:Oper)(k:Slot→St→Option α)(r:α):Prop:=
 ∃s S' w' v' β' lam',k s S'=some r∧RunTo P a o w v' w'∧Rel P w' S'.hp β'∧FRel N w' S'.bx β' lam' fr a∧SRel β' lam' S'.bx s v'∧Ext N w S.hp β w' S'.hp β'∧BMv S.bx lam S'.bx lam'
section
variable {α:Type}{P:Program}{N:Nat}{w:World}{S:St}{β:Bt}{lam:Nat→Nat}{fr:Fr}{a:Act}{o:Oper}{k:Slot→St→Option α}{r:α}
theorem Step.val(hR:Rel P w S.hp β)(hF:FRel N w S.bx β lam fr a){s:Slot}{v':Value}(hk:k s S=some r)(hr:(execOp a.eval o).run P w=.ok (.value v') w)(hs:SRel β lam S.bx s v') :
  Step P N w S β lam fr a o k r:=⟨s,S,w,v',β,lam,hk,.inl hr,hR,hF,hs,Ext.refl _ _ _ _,BMv.refl _ _⟩
theorem Step.heap(hN:N≤w.heap.size)(hR:Rel P w S.hp β)(hF:FRel N w S.bx β lam fr a){s:Slot}{v':Value}{w':World}{H':Hp}{β':Bt}(hk:k s ⟨S.bx,H'⟩=some r)
  (hr:RunTo P a o w v' w') (hR':Rel P w' H' β') (hE:Ext w.heap.size w S.hp β w' H' β') (hs:SRel β' lam S.bx s v') :
  Step P N w S β lam fr a o k r:=⟨s,⟨S.bx,H'⟩,w',v',β',lam,hk,hr,hR',hF.ext hR.has hE,hs,hE.weaken hN,BMv.refl _ _⟩
end
theorem zkA{N:Nat}{w:World}{bx:Nat→Option Bx}{β:Bt}{lam:Nat→Nat}{fr:Fr}{a:Act}(hF:FRel N w bx β lam fr a){d:Nat}{cs:List Value}{ro:Bool}
  (h:bx d=some (.cells cs ro)):∃arr e,w.heap[lam d]?=some (.cells arr e (0,0))∧LRel β cs arr.toList:=(hF.box d _ h).2.2.2
theorem zlC{w:World}{b:Nat}{arr:Array Value}{e:TypeId}{fz:Nat×Nat}{β:Bt}{cs:List Value}(hw:w.heap[b]?=some (.cells arr e fz))(h:LRel β cs arr.toList) :
  ∀(j:Nat) u,cs[j]?=some u→∃u',w.cell? ⟨b,0+j,none⟩=some u'∧VRel β u u':=fun j u hu=>by
 obtain⟨u',hu',hr⟩:=h.get hu;exact⟨u',zce.2 ⟨arr,e,fz,hw,by simpa using hu'⟩,hr⟩
section
variable {α:Type}{C:Ctx}{N:Nat}{w:World}{S:St}{β:Bt}{lam:Nat→Nat}{fr:Fr}{a:Act}{o:Oper}{k:Slot→St→Option α}{r:α}
theorem zma{P:Program}{w:World}{H:Hp}{β:Bt}(hR:Rel P w H β){T:TypeId}{i:TypeInfo}{d:TypeDesc}(hi:P.info? T=some i)(hd:P.underlying T=some d){i0 off:Nat}{cs:Array Value}{e:TypeId}{fz:Nat×Nat}
  (hg:H.get i0=some (.fix (.cells cs e fz))) {y:BI} (hy:β i0=some y) {v:Value}
  (hv:(match aggD d with|true=>none|false=>match cs.toList[off]? with|some (.int kd z)=>some (Value.int kd z)|_=>none)=some v) :
  ∃v',(loadVar T ⟨y.b,y.s+off,none⟩).run P w=.ok v' w∧VRel β v v':=by
 obtain⟨y',hy',h0,h1⟩:=hR.fix i0 _ hg;rw[hy]at hy';cases hy';split at hv
 ·cases hv
 ·rename_i ha;split at hv
  ·rename_i kd z hc;cases hv;have hcell:w.cell? ⟨y.b,y.s+off+0,none⟩=some (.int kd z):=by rw[h0,Nat.zero_add,Nat.add_zero];exact zce.2 ⟨cs,e,fz,h1,by simpa using hc⟩
   exact zdm (s:=y.s+off) (cs:=[.int kd z]) (off:=0) hi hd (fun j u hu=>by
    match j,hu with
    |0,hu=>cases hu;exact⟨_,hcell,.int _ _⟩
    |k+1,hu=>simp at hu) (by rw[ha];rfl)
  ·cases hv
theorem sim_load{T:TypeId}{x:Operand}(ho:o.op=.load T x)(h:opC C fr S o k=some r)(hR:Rel C.P w S.hp β)(hF:FRel N w S.bx β lam fr a):Step C.P N w S β lam fr a o k r:=by
 simp only[opC,ho]at h;obtain⟨i,d,hi,hd,h⟩:=zhA h;have hx:=zeE hR hF x;split at h
 ·rename_i d' off he;rw[he]at hx;have hx:a.eval x=.pointer (some ⟨lam d',off,none⟩):=hx.2;split at h
  ·rename_i cs ro hb;obtain⟨arr,e,hw,hl⟩:=zkA hF hb;unfold zaf at h;split at h
   ·rename_i v hv;obtain⟨v',hrun,hrel⟩:=zdm (s:=0) hi hd (zlC hw hl) hv;rw[Nat.zero_add]at hrun;refine Step.val hR hF h (v':=v') ?_ hrel;simp only[execOp,ho,hx,Instr.loadAt,Instr.sureAddr,Sem.run_bind,Sem.run_pure,Result.andThen_ok,hrun]
   ·cases h
  ·cases h
 ·rename_i p he;rw[he]at hx;unfold zaH at h;split at h
  ·rename_i v hv;unfold Hp.rdP at hv;split at hv
   ·rename_i i0 off;have hx:VRel β (.pointer (some ⟨i0,off,none⟩)) (a.eval x):=hx;generalize hq:a.eval x=q at hx;cases hx with
    |ptr _ _ y hy=>
    unfold Hp.rd at hv;split at hv
    ·rename_i cs own hg;obtain⟨y',hy',h1,_⟩:=hR.cells i0 cs own hg;rw[hy]at hy';cases hy';obtain⟨v',hrun,hrel⟩:=zdm hi hd h1 hv;refine Step.val hR hF h (v':=v') ?_ hrel;simp only[execOp,ho,hq,Instr.loadAt,Instr.sureAddr,Sem.run_bind,Sem.run_pure,Result.andThen_ok,hrun]
    ·rename_i cs e fz hg;obtain⟨v',hrun,hrel⟩:=zma hR hi hd hg hy hv;refine Step.val hR hF h (v':=v') ?_ hrel;simp only[execOp,ho,hq,Instr.loadAt,Instr.sureAddr,Sem.run_bind,Sem.run_pure,Result.andThen_ok,hrun]
    ·cases hv
   ·cases hv
  ·cases h
 ·cases h
end
section
variable {α:Type}{C:Ctx}{N:Nat}{w:World}{S:St}{β:Bt}{lam:Nat→Nat}{fr:Fr}{a:Act}{o:Oper}{k:Slot→St→Option α}{r:α}
theorem zpx{x:Operand}(ho:o.op=.move x∨o.op=.assign x)(h:opC C fr S o k=some r)(hR:Rel C.P w S.hp β)(hF:FRel N w S.bx β lam fr a):Step C.P N w S β lam fr a o k r:=by
 have h':k (ev C.P.globals.size fr x) S=some r:=by rcases ho with ho|ho<;>simpa only [opC,ho] using h
 refine Step.val hR hF h' (v':=a.eval x) ?_ (zeE hR hF x);rcases ho with ho|ho<;>simp only[execOp,ho,Sem.run_pure]
theorem sel_rel{β:Bt}{t:Bool}{x y x' y':Value}(hx:VRel β x x')(hy:VRel β y y'):VRel β (sel t x y) (if t then x' else y'):=by cases t<;>assumption
theorem sim_pick{c x y:Operand}(ho:o.op=.pick c x y)(h:opC C fr S o k=some r)(hR:Rel C.P w S.hp β)(hF:FRel N w S.bx β lam fr a):Step C.P N w S β lam fr a o k r:=by
 simp only[opC,ho]at h;obtain⟨v,hv,h⟩:=za7 hR hF h;unfold zae at h;split at h
 ·rename_i t;have hx:=zeE hR hF x;have hy:=zeE hR hF y;have hc:a.eval c=.bool t:=by generalize a.eval c=q at hv;cases hv;rfl
  have hrun:(execOp a.eval o).run C.P w=.ok (.value (if t then a.eval x else a.eval y)) w:=by simp only[execOp,ho,hc,asBool,Sem.run_bind,Sem.run_pure,Result.andThen_ok]
  split at h
  ·rename_i u z hu hz;rw[hu]at hx;rw[hz]at hy;exact Step.val hR hF h hrun (show VRel β _ _ from sel_rel hx hy)
  ·cases t with
   |true=>exact Step.val hR hF h hrun hx
   |false=>exact Step.val hR hF h hrun hy
 ·cases h
theorem zmZ{S:St}{d:Nat}{c c':Bx}(hb:S.bx d=some c){q:Nat}(_hq:q=q)(e:Nat)(h:(S.bx e).isSome=true):((S.setB d (some c')).bx e).isSome=true:=by
 simp only[St.setB];split
 ·rfl
 ·exact h
theorem new_box(hN:N≤w.heap.size)(hR:Rel C.P w S.hp β)(hF:FRel N w S.bx β lam fr a){d:Nat}(hb:S.bx d=none)(c:Bx)(ob:Obj)
  (hc:∀w',w'.heap[w.heap.size]?=some ob→zmM w' β w.heap.size c) :
  let lam':=fun j=>if j=d then w.heap.size else lam j
  Rel C.P (w.alloc ob) S.hp β∧FRel N (w.alloc ob) (S.setB d (some c)).bx β lam' fr a∧Ext N w S.hp β (w.alloc ob) S.hp β∧lam' d=w.heap.size:=by
 intro lam';have hold:∀i x,β i=some x→(w.alloc ob).heap[x.b]?=w.heap[x.b]?:=fun i x hx=>zcL _ _ _ (hR.lt i x hx);have hne:∀j,j≠d→lam' j=lam j:=fun j hj=>if_neg hj;have hsame:lam' d=w.heap.size:=if_pos rfl
 refine⟨hR.frame (by simp) hold,⟨hF.size,fun e s hs=>?_,fun e b he=>?_,fun e e' he he' hee=>?_⟩,
  ⟨rfl,rfl,rfl,by simp,Bt.le_refl _,Nat.le_refl _,fun b hb' _=>zcL _ _ _ (by omega),fun b q=>.inr q,fun i x hx hn=>by rw[hn]at hx;cases hx⟩,hsame⟩
 ·have:=hF.slot e s hs;cases s with
  |loc d' off=>
   have hd:d'≠d:=by intro e;subst e;have:=this.1;rw[hb]at this;cases this
   refine⟨?_,?_⟩
   ·simp only[St.setB];rw[if_neg hd];exact this.1
   ·rw[hne d' hd];exact this.2
  |_=>exact this
 ·simp only[St.setB]at he;by_cases hed:e=d
  ·subst hed;rw[if_pos rfl]at he;cases he;rw[hsame];exact⟨hN,by simp,fun i x hx=>by have:=hR.lt i x hx;omega,hc _ (zbE _ _)⟩
  ·rw[if_neg hed]at he;obtain⟨h1,h2,h3,h4⟩:=hF.box e b he;rw[hne e hed];exact⟨h1,by simp;omega,h3,h4.mono (Bt.le_refl _) (zcL _ _ _ h2)⟩
 ·simp only[St.setB]at he he';have key:∀q,(S.bx q).isSome=true→lam q<w.heap.size:=fun q hq=>by obtain⟨c',hc'⟩:=Option.isSome_iff_exists.1 hq;exact(hF.box q c' hc').2.1
  by_cases hed:e=d
  ·subst hed;rw[if_neg (Ne.symm hee)]at he';rw[hsame,hne e' (Ne.symm hee)];have:=key e' he';omega
  ·rw[if_neg hed]at he;by_cases hed':e'=d
   ·subst hed';rw[hsame,hne e hed];have:=key e he;omega
   ·rw[if_neg hed']at he';rw[hne e hed,hne e' hed'];exact hF.apart e e' he he' hee
theorem znw(hN:N≤w.heap.size)(hR:Rel C.P w S.hp β)(hF:FRel N w S.bx β lam fr a){cs:List Value}{arr:Array Value}{e:TypeId}(hl:LRel β cs arr.toList)
  (h:zcU C S o.dst e cs k=some r) (hrun:(execOp a.eval o).run C.P w=.ok (.value (.pointer (some ⟨w.heap.size,0,none⟩))) (w.alloc (.cells arr e))):Step C.P N w S β lam fr a o k r:=by
 unfold zcU at h;split at h
 ·rename_i d hd;split at h
  ·split at h
   ·cases h
   ·rename_i hb;obtain⟨g1,g2,g3,g4⟩:=new_box hN hR hF hb (.cells cs false) (.cells arr e) (fun w' hw'=>⟨arr,e,hw',hl⟩);exact⟨_,_,_,_,β,_,h,.inl hrun,g1,g2,⟨by simp[St.setB],by rw[g4]⟩,g3,BMv.new hb⟩
  ·have hl2:LRel β cs (arr.toList.take arr.size):=by rw[take_of_length_le (by simp)];exact hl
   obtain⟨g1,g2⟩:=hR.new_cells cs arr e (0,0) arr.size hl2 (by intro j hj;simp);have hv:=VRel.ptr (β:=β.set S.hp.next ⟨w.heap.size,0,arr.size⟩) S.hp.next 0 _ (Bt.set_same _ _ _);unfold zmk at h;split at h
   ·unfold zmj at h;exact Step.heap hN hR hF h (.inl hrun) (g1.mark ⟨_,arr,(0,0),Bt.set_same _ _ _,rfl,zbE _ _,rfl⟩) (g2.mark _ _) hv
   ·unfold zeY at h;exact Step.heap hN hR hF h (.inl hrun) g1 g2 hv
 ·cases h
theorem sim_alloc{T:TypeId}(ho:o.op=.alloc T)(hN:N≤w.heap.size)(h:opC C fr S o k=some r)(hR:Rel C.P w S.hp β)(hF:FRel N w S.bx β lam fr a):Step C.P N w S β lam fr a o k r:=by
 simp only[opC,ho]at h;obtain⟨i,z,hi,hz,hc,h⟩:=zgV h;split at h
 ·refine znw hN hR hF (arr:=z.cells) (e:=T) ((zcM hc).cells) h ?_;simp only[execOp,ho,Instr.alloc,Sem.run_bind,zbD w hi hz,Result.andThen_ok];simp[newVar,newRow]
 ·cases h
theorem sim_box{T:TypeId}{x:Operand}(ho:o.op=.box T x)(hN:N≤w.heap.size)(h:opC C fr S o k=some r)(hR:Rel C.P w S.hp β)(hF:FRel N w S.bx β lam fr a):Step C.P N w S β lam fr a o k r:=by simp only[opC,ho]at h;obtain⟨v,hv,h⟩:=za7 hR hF h;refine znw hN hR hF (arr:=(a.eval x).cells) (e:=T) hv.cells h ?_;simp only[execOp,ho,Instr.box,newVar,newRow];simp
theorem box_write(hN:N≤w.heap.size)(hR:Rel C.P w S.hp β)(hF:FRel N w S.bx β lam fr a){d:Nat}{cs:List Value}(hb:S.bx d=some (.cells cs false)){off:Nat}{vs vs':List Value}
  (hl:off+vs.length≤cs.length) (hv:LRel β vs vs') {w':World} (hp:Put w (lam d) off vs' w') :
  Rel C.P w' S.hp β∧FRel N w' (S.setB d (some (.cells (spl cs off vs) false))).bx β lam fr a∧Ext N w S.hp β w' S.hp β:=by
 obtain⟨b1,b2,b3,arr,e,hw,hrel⟩:=hF.box d _ hb;obtain⟨arr',hw',hs',hg⟩:=hp.row arr e _ hw;have hvl:=hv.1
 refine⟨hR.frame (by rw[hp.size];exact Nat.le_refl _) (fun i x hx=>hp.other _ (b3 i x hx)),⟨hF.size,fun q s hs=>(hF.slot q s hs).bx (fun q hq=>zmZ hb (q:=q) rfl q hq),fun q c hq=>?_,fun q q' h1 h2 hne=>?_⟩,
  ⟨hp.os,hp.tape,hp.output,by rw[hp.size];exact Nat.le_refl _,Bt.le_refl _,Nat.le_refl _,fun b hb' _=>hp.other b (by omega),fun b q=>.inr q,fun i x hx hn=>by rw[hn]at hx;cases hx⟩⟩
 ·simp only[St.setB]at hq;by_cases hqd:q=d
  ·subst hqd;rw[if_pos rfl]at hq;cases hq;refine⟨b1,by rw[hp.size];exact b2,b3,arr',e,hw',LRel.of_get ?_ fun j v hj=>?_⟩
   ·rw[zeg _ _ _ hl];have:=hrel.1;simp at this ⊢;omega
   ·rw[zhC _ _ _ hl]at hj;rw[Array.getElem?_toList,hg];split at hj
    ·rename_i hc;rw[if_pos (by omega)];exact hv.get hj
    ·rename_i hc;rw[if_neg (by omega)];have:=hrel.get hj;simpa using this
  ·rw[if_neg hqd]at hq;obtain⟨q1,q2,q3,q4⟩:=hF.box q c hq;refine⟨q1,by rw[hp.size];exact q2,q3,q4.mono (Bt.le_refl _) (hp.other _ ?_)⟩;exact hF.apart q d (by rw[hq];rfl) (by rw[hb];rfl) hqd
 ·have key:∀q,((S.setB d (some (.cells (spl cs off vs) false))).bx q).isSome=true→(S.bx q).isSome=true:=fun q hq=>by
   simp only[St.setB]at hq;split at hq
   ·rename_i e;rw[e,hb];rfl
   ·exact hq
  exact hF.apart q q' (key q h1) (key q' h2) hne
theorem sim_store{T:TypeId}{x y:Operand}(ho:o.op=.store T x y)(hN:N≤w.heap.size)(h:opC C fr S o k=some r)(hR:Rel C.P w S.hp β)(hF:FRel N w S.bx β lam fr a):Step C.P N w S β lam fr a o k r:=by
 simp only[opC,ho]at h;obtain⟨v,hv,h⟩:=za7 hR hF h;obtain⟨i,d,hi,hd,h⟩:=zhA h;have hx:=zeE hR hF x;split at h
 ·rename_i d' off he;rw[he]at hx;have hx:a.eval x=.pointer (some ⟨lam d',off,none⟩):=hx.2;split at h
  ·rename_i cs hb;unfold zaE at h;split at h
   ·rename_i cs' hw;obtain⟨h1,h2,h3,rfl⟩:=zjd hw;obtain⟨arr,e,hh,hl⟩:=zkA hF hb;have hsz:=hl.1;obtain⟨w',hrun,hp⟩:=zfu (off:=off) hi hv h1 h3 hh (by intro j hj;simp) (by simp at hsz;omega);obtain⟨g1,g2,g3⟩:=box_write hN hR hF hb (by omega) hv.cells hp;refine⟨_,_,w',undef,β,lam,h,.inr ⟨?_,rfl⟩,g1,g2,trivial,g3,BMv.set (by rw[hb];exact⟨_,rfl⟩)⟩;simp only[execOp,ho,hx,Instr.storeAt,Instr.sureAddr,Sem.run_bind,Sem.run_pure,Result.andThen_ok,hrun]
   ·cases h
  ·cases h
 ·rename_i p he;rw[he]at hx;unfold za8 at h;split at h
  ·rename_i H' hw;unfold Hp.wr at hw;split at hw
   ·rename_i i0 off;have hx:VRel β (.pointer (some ⟨i0,off,none⟩)) (a.eval x):=hx;generalize hq:a.eval x=q at hx;cases hx with
    |ptr _ _ bi hbi=>
    split at hw
    ·rename_i cs hg;split at hw
     ·rename_i cs' hwr;cases hw;obtain⟨h1,h2,h3,rfl⟩:=zjd hwr;obtain⟨bi',hbi',c1,c2⟩:=hR.cells i0 cs true hg;rw[hbi]at hbi';cases hbi';obtain⟨⟨arr,e,fz,hh,hsz,hfz⟩,hle⟩:=c2 rfl;obtain⟨w',hrun,hp⟩:=zfu (off:=bi.s+off) hi hv h1 h3 hh (by intro j hj;exact hfz j (by omega)) (by omega);obtain⟨g1,g2⟩:=hR.write hg hbi (by omega) hv.cells hp;refine Step.heap hN hR hF h (.inr ⟨?_,rfl⟩) g1 g2 trivial;simp only[execOp,ho,hq,Instr.storeAt,Instr.sureAddr,Sem.run_bind,Sem.run_pure,Result.andThen_ok,hrun]
     ·cases hw
    ·cases hw
   ·cases hw
  ·cases h
 ·cases h
theorem sim_nil{x:Operand}(ho:o.op=.nilCheck x)(h:opC C fr S o k=some r)(hR:Rel C.P w S.hp β)(hF:FRel N w S.bx β lam fr a):Step C.P N w S β lam fr a o k r:=by
 simp only[opC,ho]at h;have hx:=zeE hR hF x;split at h
 ·rename_i d off he;rw[he]at hx;have hx':a.eval x=.pointer (some ⟨lam d,off,none⟩):=hx.2;refine Step.val hR hF h (v':=a.eval x) ?_ hx;simp only[execOp,ho,hx',Sem.run_pure]
 ·rename_i v he;rw[he]at hx;have hx:VRel β v (a.eval x):=hx;unfold pNil at h;split at h
  ·generalize hq:a.eval x=q at hx;cases hx with
   |ptr i off y hy=>
   refine Step.val hR hF h (v':=.pointer (some ⟨y.b,y.s+off,none⟩)) ?_ (.ptr i off y hy);simp only[execOp,ho,hq,Sem.run_pure]
  ·generalize hq:a.eval x=q at hx;cases hx with
   |func fn fs fs' cs cs' hl hh hl2 hh2=>
   refine Step.val hR hF h (v':=.func (.func _) ⟨fs'⟩ ⟨cs'⟩) ?_ (.func _ _ _ _ _ hl hh hl2 hh2);simp only[execOp,ho,hq,Sem.run_pure]
  ·cases h
 ·cases h
theorem zdk(b off n:Nat):(⟨b,off,none⟩:Addr).add n=⟨b,off+n,none⟩:=by unfold Addr.add;split<;>simp_all
theorem zgh{P:Program}{w:World}{b off:Nat}{f:Field}{i:TypeInfo}(hi:P.info? f.type=some i)(h0:i.size≠0) :
  (fieldPlace ⟨b,off,none⟩ f).run P w=.ok ⟨b,off+f.offset,none⟩ w:=by
 simp only[fieldPlace,Sem.run_bind,za0 w hi,Result.andThen_ok,if_neg h0,Sem.run_pure,zdk]
theorem zlZ{T:TypeId}{x:Operand}{f:Nat}(ho:o.op=.fieldAddr T x f)(h:opC C fr S o k=some r)(hR:Rel C.P w S.hp β)(hF:FRel N w S.bx β lam fr a):Step C.P N w S β lam fr a o k r:=by
 simp only[opC,ho]at h;have hx:=zeE hR hF x;split at h
 ·rename_i fs hu;split at h
  ·rename_i fd hfd;split at h
   ·rename_i i hi;split at h
    ·cases h
    ·rename_i h0;have h0:i.size≠0:=by intro e;simp[e]at h0
     have hfd':fs[f]?=some fd:=by simpa using hfd
     split at h
     ·rename_i d off he;rw[he]at hx;obtain⟨hx0,hx⟩:=hx;refine Step.val hR hF h (v':=.pointer (some ⟨lam d,off+fd.offset,none⟩)) ?_ ⟨hx0,rfl⟩;simp only[execOp,ho,hx,Instr.fieldAt,Instr.sureAddr,Sem.run_bind,zaz w hu,Result.andThen_ok,hfd',Sem.run_pure,zgh hi h0]
     ·rename_i p he;rw[he]at hx;have hx:VRel β p (a.eval x):=hx;unfold za5 at h;split at h
      ·rename_i i0 off _;generalize hq:a.eval x=q at hx;cases hx with
       |ptr _ _ y hy=>
       refine Step.val hR hF h (v':=.pointer (some ⟨y.b,y.s+(off+fd.offset),none⟩)) ?_ (.ptr _ _ y hy);simp only[execOp,ho,hq,Instr.fieldAt,Instr.sureAddr,Sem.run_bind,zaz w hu,Result.andThen_ok,hfd',Sem.run_pure,zgh hi h0,Nat.add_assoc]
      ·cases h
     ·cases h
   ·cases h
  ·cases h
 ·cases h
end
end Go.AM
