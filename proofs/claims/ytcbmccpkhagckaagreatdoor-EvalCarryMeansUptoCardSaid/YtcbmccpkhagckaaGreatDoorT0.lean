/- Part of the proof of EvalCarryMeansUptoCardSaid: see the last file.  -/
import Derived.Test.YtcbmccpkhagckaaGreatDoorProg
import Derived.Shelf.Strings.BuilderX
import Derived.Lib.Strings
import Derived.Lib.Slices
import Derived.Lib.Walk
import Derived.Lib.Builder
import Derived.Lib.AppendStr
import Derived.Lib.UnsafeStr
import Derived.WalkKit
import Derived.Laws.Externs
import Derived.Laws.IdiomCopy
import Derived.KernelRfl
import Derived.Calls
import Derived.Laws.NewBlocks
import Derived.Tactics
import Derived.Laws.Cells
import Derived.Laws.Build
import Derived.Laws.StructEq
import Derived.Laws.Append
import Derived.Laws.IdiomStrings
import Derived.Laws.BytesArg
set_option linter.unusedSimpArgs false
set_option linter.unusedVariables false
set_option linter.unusedSectionVars false
set_option maxRecDepth 100000
namespace Go.AM
open Go Go.Shelf Go.RowKit Go.Proofs
theorem szB:(Go.Proofs.Tryz.prog.info? 121).map (·.size)=some 2:=by kernel_rfl
set_option maxHeartbeats 1000000 in
set_option maxRecDepth 100000 in
theorem cc_used(b:Nat)(w:World)(h0:w.cell? ⟨b,0,none⟩=some (.pointer (some ⟨b,0,none⟩))) :
  Calls Go.Proofs.Tryz.prog 97 #[.pointer (some ⟨b,0,none⟩)] w fun e w'=>e=.returned (.tuple #[])∧w'=w:=by
 obtain⟨j,hj,_⟩:=Option.map_eq_some_iff.1 szB
 go_enter Go.Proofs.Tryz.func97,Go.Proofs.Tryz.ntmps97
 go_wp2
 rw[Lib.run_neq_ptr_same w _ Go.Proofs.Tryz.underlying118 hj]
 go_wp2
 go_end0
 exact⟨rfl,rfl⟩
theorem cB2:Go.Proofs.Tryz.prog.cellsOf 121=2:=by kernel_rfl
theorem lsB0(k:Nat):liesAt Go.Proofs.Tryz.prog Go.Proofs.Tryz.prog.depth 121 (k+1) 0 121 1=true:=by kernel_rfl
theorem lsB(n:Nat)(h:2≤n):liesAt Go.Proofs.Tryz.prog Go.Proofs.Tryz.prog.depth 121 (n/Go.Proofs.Tryz.prog.cellsOf 121) 0 121 1=true:=by
 rw[cB2];obtain⟨k,hk⟩:∃k,n/2=k+1:=⟨n/2-1,by omega⟩
 rw[hk];exact lsB0 k
set_option maxHeartbeats 1000000 in
set_option maxRecDepth 100000 in
theorem cc_fresh(b n:Nat)(h2:2≤n)(w:World)(h0:w.cell? ⟨b,0,none⟩=some (.pointer none))(hsh:w.shape? b=some (121,n))(hfz:w.frozen? ⟨b,0,none⟩=false) :
  Calls Go.Proofs.Tryz.prog 97 #[.pointer (some ⟨b,0,none⟩)] w fun e w'=>e=.returned (.tuple #[])∧w'=w.setCell ⟨b,0,none⟩ (.pointer (some ⟨b,0,none⟩)):=by
 obtain⟨j,hj,hjs⟩:=Option.map_eq_some_iff.1 szB
 go_enter Go.Proofs.Tryz.func97,Go.Proofs.Tryz.ntmps97
 go_wp2
 rw[Lib.run_to_unsafe w ⟨b,0,none⟩ Go.Proofs.Tryz.underlying118 Go.Proofs.Tryz.underlying182 hj (by rw[hjs];decide) hsh (show 0<n by omega)];simp only[Result.andThen];rw[Oper.upon_value]
 go_wp2
 rw[run_callFunc_extern Go.Proofs.Tryz.func130 (by kernel_rfl) (by kernel_rfl) (by kernel_rfl) (e:=Extern.AbiNoEscape.same) (by kernel_rfl)];rw[Lib.run_noEscape];simp only[Result.andThen];rw[Oper.upon_value]
 go_wp2
 rw[Lib.run_from_unsafe w ⟨b,0,none⟩ Go.Proofs.Tryz.underlying182 Go.Proofs.Tryz.underlying118 hj hsh (lsB n h2)];simp only[Result.andThen];rw[Oper.upon_value]
 go_wp2
 go_end0
 exact⟨rfl,rfl⟩
theorem cB:Go.Proofs.Tryz.prog.cellsOf 5=1:=by kernel_rfl
set_option maxHeartbeats 2000000 in
set_option maxRecDepth 100000 in
theorem str_row(b g c cells:Nat)(l:List UInt8)(h0:l≠[])(hc:c≠0)(hn:l.length≤cells)(hs:l.length≤9223372036854775807)(w:World)
  (c1:w.cell? ⟨b,1,none⟩=some (.slice (some ⟨g,0,none⟩) l.length c)) (hsh:w.shape? g=some (5,cells)) (hcell:∀j x,l[j]?=some x→w.cell? ((⟨g,0,none⟩:Addr).add j)=some (.int .u8 x.toNat)) :
  Calls Go.Proofs.Tryz.prog 64 #[.pointer (some ⟨b,0,none⟩)] w fun e w'=>e=.returned (.string ⟨l.toArray⟩)∧∃w0:World,w0.heap=w.heap∧w0.os=w.os∧w0.tape=w.tape∧w0.output=w.output∧w'=w0.freeze ⟨g,0,none⟩ l.length:=by
 have d1:w.drew.cell? ⟨b,1,none⟩=some (.slice (some ⟨g,0,none⟩) l.length c):=c1;have hSD:(Builtin.unsafeSliceData_ #[119] 171 #[.slice (some ⟨g,0,none⟩) l.length c]).run Go.Proofs.Tryz.prog w.drew=.ok (.pointer (some ⟨g,0,none⟩)) w.drew:=
  Lib.run_unsafeSliceData_row _ _ _ _ _ _ hc
 have hUS:(Builtin.unsafeString_ #[171,3] 9 #[.pointer (some ⟨g,0,none⟩),.int .i64 l.length]).run Go.Proofs.Tryz.prog w.drew=.ok (.string ⟨l.toArray⟩) (w.drew.freeze ⟨g,0,none⟩ l.length):=
  Lib.run_unsafeString_row w.drew 171 3 9 5 Go.Proofs.Tryz.underlying171 cB g cells hsh l h0 hn hs hcell
 go_enter Go.Proofs.Tryz.func64,Go.Proofs.Tryz.ntmps64
 go_wp2
 go_region
 all_goals (go_wp2;go_ret;exact⟨rfl,w.drew,rfl,rfl,rfl,rfl,rfl⟩)
set_option maxHeartbeats 2000000 in
set_option maxRecDepth 100000 in
theorem str_nil(b:Nat)(w:World)(c1:w.cell? ⟨b,1,none⟩=some (.slice none 0 0)) :
  Calls Go.Proofs.Tryz.prog 64 #[.pointer (some ⟨b,0,none⟩)] w fun e w'=>e=.returned (.string ⟨#[]⟩)∧w'.heap=w.heap∧w'.os=w.os∧w'.tape=w.tape∧w'.output=w.output:=by
 have d1:w.drew.cell? ⟨b,1,none⟩=some (.slice none 0 0):=c1;have hSD:(Builtin.unsafeSliceData_ #[119] 171 #[.slice none 0 0]).run Go.Proofs.Tryz.prog w.drew=.ok (.pointer none) w.drew:=rfl;have hUS:(Builtin.unsafeString_ #[171,3] 9 #[.pointer none,.int .i64 0]).run Go.Proofs.Tryz.prog w.drew=.ok (.string .empty) w.drew:=Lib.run_unsafeString_none w.drew _ _ _ none
 go_enter Go.Proofs.Tryz.func64,Go.Proofs.Tryz.ntmps64
 go_wp2
 go_region
 all_goals (go_wp2;go_ret;exact⟨rfl,rfl,rfl,rfl,rfl⟩)
end Go.AM
namespace Go.AM
open Go
inductive AObj where
 |cells (cs:List Value) (own:Bool)
 |map (kv:List (Value×Value))
 |fix (o:Obj)
 deriving Inhabited
structure Hp where
 next:Nat
 get:Nat→Option AObj
 ty:Nat→Option TypeId
def Hp.new(H:Hp)(o:AObj):Hp:=⟨H.next+1,fun i=>if i=H.next then some o else H.get i,H.ty⟩
def Hp.set(H:Hp)(i:Nat)(o:Option AObj):Hp:=⟨H.next,fun j=>if j=i then o else H.get j,H.ty⟩
def Hp.mark(H:Hp)(i:Nat)(T:TypeId):Hp:=⟨H.next,H.get,fun j=>if j=i then some T else H.ty j⟩
inductive Bx where
 |cells (cs:List Value) (ro:Bool)
 |iter (s:ByteArray) (pos:Nat)
 |iterRo (s:ByteArray) (pos:Nat)
 deriving Inhabited
structure St where
 bx:Nat→Option Bx
 hp:Hp
def St.setB(S:St)(d:Nat)(b:Option Bx):St:=⟨fun j=>if j=d then b else S.bx j,S.hp⟩
inductive Slot where
 |unk
 |und
 |val (v:Value)
 |loc (d off:Nat)
 deriving Inhabited
abbrev Fr:=List Slot
def getS(fr:Fr)(t:Nat):Slot:=fr.getD t .unk
def putS(fr:Fr)(d:Option Nat)(s:Slot):Fr:=match d with|some d=>fr.set d s|none=>fr
abbrev zag:=FuncId→List Value→Hp→Option (Value×Hp)
structure Orc where
 loc:FuncId→List Nat
 join:FuncId→Nat→Option (List Nat×List Nat)
 loop:FuncId→Nat→List Nat×List Nat
 xt:FuncId→Option (List Value→Option Value):=fun _=>none
 gt:TypeId→Bool:=fun _=>false
 pan:FuncId→Bool:=fun _=>false
 dfr:FuncId→Bool:=fun _=>false
def zfy:Value→Bool
 |.bool _ | .int _ _ | .string _ | .pointer none | .slice none 0 0 | .map none | .nilFunc | .nilIface=>true
 |_=>false
def zdt:Value→Bool
 |.agg cs=>cs.toList.all zfy
 |.tuple vs=>vs.toList.all zfy
 |v=>zfy v
def one:Value→Bool
 |.agg _ | .tuple _=>false
 |_=>true
def aggD:TypeDesc→Bool
 |.struct _ | .array _ _=>true
 |_=>false
section
variable {α:Type}
def br(t:Bool)(x y:Option α):Option α:=match t with|true=>x|false=>y
noncomputable def chk(p:Prop)(k:Option α):Option α:=open Classical in if p then k else none
def tyC(P:Program)(T:TypeId)(k:Nat→Bool→Option α):Option α:=
 match P.info? T with
 |none=>none
 |some i=>match P.underlying T with
  |none=>none
  |some d=>k i.size (aggD d)
def zf2(P:Program)(T:TypeId)(k:Value→Option α):Option α:=
 match P.info? T with
 |none=>none
 |some i=>match i.zero with
  |none=>none
  |some z=>match zdt z with
   |true=>k z
   |false=>none
def zct(cs:List Value)(off n:Nat)(agg:Bool):Option Value:=
 match agg with
 |true=>if off+n≤cs.length then some (.agg ((cs.drop off).take n).toArray) else none
 |false=>cs[off]?
def Hp.rd(H:Hp)(i off n:Nat)(agg:Bool):Option Value:=
 match H.get i with
 |some (.cells cs _)=>zct cs off n agg
 |some (.fix (.cells cs _ _))=>match agg with
  |true=>none
  |false=>match cs.toList[off]? with
   |some (.int kd z)=>some (.int kd z)
   |_=>none
 |_=>none
def Hp.rdP(H:Hp)(p:Value)(n:Nat)(agg:Bool):Option Value:=
 match p with
 |.pointer (some ⟨i,off,none⟩)=>H.rd i off n agg
 |_=>none
def zal(n:Nat)(agg:Bool)(H:Hp)(p:Value)(k:Value→Option α):Option α:=
 match H.rdP p n agg with
 |some v=>k v
 |none=>none
def zai(n:Nat)(agg:Bool)(cs:List Value)(off:Nat)(k:Value→Option α):Option α:=
 match zct cs off n agg with
 |some v=>k v
 |none=>none
def spl(cs:List Value)(off:Nat)(vs:List Value):List Value:=cs.take off++vs++cs.drop (off+vs.length)
def zab(v:Value):List Value:=v.cells.toList
def za8(n:Nat)(cs:List Value)(off:Nat)(v:Value):Option (List Value):=
 if (zab v).length=n∧off+n≤cs.length∧(zab v).all one=true then some (spl cs off (zab v)) else none
def zaV(n:Nat)(cs:List Value)(off:Nat)(v:Value)(k:List Value→Option α):Option α:=
 match za8 n cs off v with
 |some cs'=>k cs'
 |none=>none
def Hp.wr(H:Hp)(p:Value)(n:Nat)(v:Value):Option Hp:=
 match p with
 |.pointer (some ⟨i,off,none⟩)=>
  match H.get i with
  |some (.cells cs true)=>match za8 n cs off v with
   |some cs'=>some (H.set i (some (.cells cs' true)))
   |none=>none
  |_=>none
 |_=>none
def zao(n:Nat)(H:Hp)(p v:Value)(k:Hp→Option α):Option α:=
 match H.wr p n v with
 |some H'=>k H'
 |none=>none
def pNil(v:Value)(k:Option α):Option α:=
 match v with
 |.pointer (some _) | .func (.func _) _ _=>k
 |_=>none
def zas(n:Nat)(p:Value)(k:Value→Option α):Option α:=
 match p with
 |.pointer (some ⟨i,off,none⟩)=>k (.pointer (some ⟨i,off+n,none⟩))
 |_=>none
def zaa(v:Value)(k:Bool→Option α):Option α:=
 match v with
 |.bool b=>k b
 |_=>none
def bvOp(op:BinOp)(k:IntKind)(x y:Int):Option Value:=
 let a:=BitVec.ofInt k.bits x
 let b:=BitVec.ofInt k.bits y
 match op with
 |.and=>some (.int k (k.wrap (a&&&b).toNat))
 |.or=>some (.int k (k.wrap (a|||b).toNat))
 |.xor=>some (.int k (k.wrap (a ^^^ b).toNat))
 |.andNot=>some (.int k (k.wrap (a &&& ~~~b).toNat))
 |_=>none
def zd4(op:BinOp)(k:IntKind)(x y:Int):Option Value:=
 match op with
 |.add=>some (.int k (k.wrap (x+y)))
 |.sub=>some (.int k (k.wrap (x-y)))
 |.mul=>some (.int k (k.wrap (x*y)))
 |.quo=>if y=0 then none else some (.int k (k.wrap (x.tdiv y)))
 |.rem=>if y=0 then none else some (.int k (x.tmod y))
 |.eql=>some (.bool (x==y))
 |.neq=>some (.bool (x != y))
 |.lss=>some (.bool (x<y))
 |.leq=>some (.bool (x≤y))
 |.gtr=>some (.bool (x>y))
 |.geq=>some (.bool (x≥y))
 |.and | .or | .xor | .andNot=>bvOp op k x y
 |.shl | .shr=>none
def znq(op:BinOp)(x y:ByteArray):Option Value:=
 match op with
 |.add=>if ((x.size+y.size:Nat):Int)>IntKind.i64.max then none else some (.string (x++y))
 |.eql=>some (.bool (x.toList==y.toList))
 |.neq=>some (.bool !(x.toList==y.toList))
 |.lss=>some (.bool (Op.bytesLess x.toList y.toList))
 |.leq=>some (.bool (Op.bytesLess x.toList y.toList||x.toList==y.toList))
 |.gtr=>some (.bool !(Op.bytesLess x.toList y.toList||x.toList==y.toList))
 |.geq=>some (.bool !(Op.bytesLess x.toList y.toList))
 |_=>none
def shOp(op:BinOp)(k:IntKind)(x y:Int):Option Value:=
 if y<0 then none else
 match op with
 |.shl=>some (.int k (k.wrap (x*2^(min y.toNat k.bits))))
 |.shr=>some (.int k (x.fdiv (2^(min y.toNat k.bits))))
 |_=>none
def zmx(P:Program)(t:TypeId)(cs:List Value)(off:Nat):Option Value:=
 match P.info? t,P.underlying t with
 |some i,some d=>match aggD d with
  |true=>some (.agg ((cs.drop off).take i.size).toArray)
  |false=>cs[off]?
 |_,_=>none
def eqFields(P:Program)(c:TypeId→Value→Value→Option Bool)(xs ys:List Value):List Field→Option Bool
 |[]=>some true
 |f::fs=>
  match f.name == "_" with
  |true=>eqFields P c xs ys fs
  |false=>
   match zmx P f.type xs f.offset,zmx P f.type ys f.offset with
   |some x,some y=>match c f.type x y with
    |some true=>eqFields P c xs ys fs
    |r=>r
   |_,_=>none
def eqT(P:Program):Nat→TypeId→Value→Value→Option Bool
 |0,_,_,_=>none
 |d+1,t,x,y=>
  match P.underlying t,x,y with
  |some .bool,.bool a,.bool b=>some (a==b)
  |some (.int _),.int k a,.int k' b=>if k=k' then some (a==b) else none
  |some .string,.string a,.string b=>some (a==b)
  |some (.pointer _),.pointer none,.pointer b=>some b.isNone
  |some (.pointer _),.pointer _,.pointer none=>some false
  |some (.slice _),.slice none _ _,.slice b _ _=>some b.isNone
  |some (.slice _),.slice _ _ _,.slice none _ _=>some false
  |some (.map _ _),.map none,.map b=>some b.isNone
  |some (.map _ _),.map _,.map none=>some false
  |some (.func _ _ _),.nilFunc,.nilFunc=>some true
  |some (.func _ _ _),.nilFunc,.func _ _ _=>some false
  |some (.func _ _ _),.func _ _ _,.nilFunc=>some false
  |some (.struct fields),.agg xs,.agg ys=>
   match P.stoodInHeld t with
   |true=>none
   |false=>eqFields P (eqT P d) xs.toList ys.toList fields.toList
  |_,_,_=>none
end
section
variable {α:Type}
def zjr(place:Nat→Option (Nat×Nat))(cells:List Value):List (Nat×Value)→Option (List Value)
 |[]=>some cells
 |(i,v)::rest=>
  match place i with
  |none=>none
  |some (off,size)=>
   if (zab v).length=size∧off+size≤cells.length∧(zab v).all one=true then zjr place (spl cells off (zab v)) rest else none
def zib(P:Program):List Field→Option (List (Nat×Nat))
 |[]=>some []
 |f::fs=>match P.info? f.type with
  |none=>none
  |some i=>match zib P fs with
   |none=>none
   |some r=>some ((f.offset,i.size)::r)
def znO(l:List (Nat×Nat))(i:Nat):Option (Nat×Nat):=l[i]?
def zg5(P:Program)(t:TypeId)(parts:List (Nat×Value)):Option Value:=
 zf2 P t fun z=>
  match P.underlying t with
  |some (.struct fields)=>match zib P fields.toList with
   |none=>none
   |some l=>match zjr (znO l) (zab z) parts with
    |some cs=>some (.agg cs.toArray)
    |none=>none
  |some (.array _ elem)=>match P.info? elem with
   |none=>none
   |some i=>match zjr (fun j=>some (j*i.size,i.size)) (zab z) parts with
    |some cs=>some (.agg cs.toArray)
    |none=>none
  |_=>none
def zaB(P:Program)(t:TypeId)(parts:List (Nat×Value))(k:Value→Option α):Option α:=
 match zg5 P t parts with
 |some v=>k v
 |none=>none
def repl(n:Nat)(zs:List Value):List Value:=match n with|0=>[]|n+1=>zs++repl n zs
def zgy(P:Program)(t:TypeId)(k:Nat→Nat→List Value→Option α):Option α:=
 match P.underlying t with
 |some (.slice e)=>match P.info? e with
  |none=>none
  |some i=>zf2 P e fun z=>if i.size=0∨i.bytes=0∨(zab z).length≠i.size∨((zab z).all one)=false then none else k i.size i.bytes (zab z)
 |_=>none
def zb0(sz:Nat)(zs:List Value)(len:Nat)(parts:List (Nat×Value))(H:Hp):Option (Value×Hp):=
 if len*sz>2^24 then none else
 match zjr (fun i=>some (i*sz,sz)) (repl len zs) parts with
 |some cs=>some (.slice (some ⟨H.next,0,some sz⟩) len len,H.new (.cells cs true))
 |none=>none
def zam(sz:Nat)(zs:List Value)(len:Nat)(parts:List (Nat×Value))(H:Hp)(k:Value→Hp→Option α):Option α:=
 match zb0 sz zs len parts H with
 |some (v,H')=>k v H'
 |none=>none
def zcn(sz bytes:Nat)(zs:List Value)(l c:Value)(H:Hp):Option (Value×Hp):=
 match l,c with
 |.int .i64 n,.int .i64 m=>if 0≤n∧n≤m∧m*bytes≤2^47 then
   some (.slice (some ⟨H.next,0,some sz⟩) n.toNat m.toNat,H.new (.cells (repl m.toNat zs) true)) else none
 |_,_=>none
def zaZ(sz bytes:Nat)(zs:List Value)(l c:Value)(H:Hp)(k:Value→Hp→Option α):Option α:=
 match zcn sz bytes zs l c H with
 |some (v,H')=>k v H'
 |none=>none
def zcI(cs:List Value)(H:Hp)(k:Value→Hp→Option α):Option α:=
 k (.pointer (some ⟨H.next,0,none⟩)) (H.new (.cells cs true))
def zlv(T:TypeId)(cs:List Value)(H:Hp)(k:Value→Hp→Option α):Option α:=k (.pointer (some ⟨H.next,0,none⟩)) ((H.new (.cells cs true)).mark H.next T)
def zlw(g:Bool)(T:TypeId)(cs:List Value)(H:Hp)(k:Value→Hp→Option α):Option α:=
 match g with
 |true=>zlv T cs H k
 |false=>zcI cs H k
def zbY(H:Hp)(k:Value→Hp→Option α):Option α:=k (.map (some H.next)) (H.new (.map []))
def zcU(d:Nat):Option Value→Option Int
 |none=>some d
 |some (.int _ n)=>some n
 |_=>none
def zgx(x:Value)(lo hi:Option Value):Option Value:=
 match x with
 |.string s=>match zcU 0 lo,zcU s.size hi with
  |some l,some h=>if 0≤l∧l≤h∧h≤s.size then some (.string (s.extract l.toNat h.toNat)) else none
  |_,_=>none
 |_=>none
def zhB(sz:Nat)(x:Value)(lo hi:Option Value):Option Value:=
 match x with
 |.slice none 0 0=>match zcU 0 lo,zcU 0 hi with
  |some l,some h=>if l=0∧h=0 then some (.slice none 0 0) else none
  |_,_=>none
 |.slice (some ⟨i,o,some z⟩) n c=>match zcU 0 lo,zcU n hi with
  |some l,some h=>if z=sz∧0≤l∧l≤h∧h≤c then some (.slice (some ⟨i,o+l.toNat*sz,some sz⟩) (h-l).toNat (c-l.toNat)) else none
  |_,_=>none
 |_=>none
def za5(x:Value)(lo hi:Option Value)(k:Value→Option α):Option α:=
 match zgx x lo hi with
 |some v=>k v
 |none=>none
def zdw(sz:Nat)(x:Value)(lo hi:Option Value)(k:Value→Option α):Option α:=
 match zhB sz x lo hi with
 |some v=>k v
 |none=>none
def ziv(len sz:Nat)(x:Value)(lo hi:Option Value)(H:Hp):Option Value:=
 match x with
 |.pointer (some ⟨i,o,none⟩)=>match H.get i with
  |some (.cells cs true)=>match zcU 0 lo,zcU len hi with
   |some l,some h=>if o+len*sz≤cs.length∧0≤l∧l≤h∧h≤len then some (.slice (some ⟨i,o+l.toNat*sz,some sz⟩) (h-l).toNat (len-l.toNat)) else none
   |_,_=>none
  |_=>none
 |_=>none
def zck(len sz:Nat)(x:Value)(lo hi:Option Value)(H:Hp)(k:Value→Option α):Option α:=
 match ziv len sz x lo hi H with
 |some v=>k v
 |none=>none
def idxV(sz:Nat)(x ix:Value):Option Value:=
 match x,ix with
 |.slice (some ⟨i,o,some z⟩) n _,.int _ j=>if z=sz∧0≤j∧j<n then some (.pointer (some ⟨i,o+j.toNat*sz,none⟩)) else none
 |_,_=>none
def pIdx(sz:Nat)(x ix:Value)(k:Value→Option α):Option α:=
 match idxV sz x ix with
 |some v=>k v
 |none=>none
def zcu(len sz:Nat)(x ix:Value)(k:Value→Option α):Option α:=
 match x,ix with
 |.pointer (some ⟨i,o,none⟩),.int _ j=>if 0≤j∧j<len then k (.pointer (some ⟨i,o+j.toNat*sz,none⟩)) else none
 |_,_=>none
def ziV(len:Nat)(ix:Value)(k:Nat→Option α):Option α:=
 match ix with
 |.int _ j=>if 0≤j∧j<len then k j.toNat else none
 |_=>none
def zqw(s:ByteArray)(j:Int):Option Value:=if 0≤j then (s[j.toNat]?).map (fun b=>.int .u8 (b.toNat:Int)) else none
def zaY(x ix:Value)(k:Value→Option α):Option α:=
 match x,ix with
 |.string s,.int _ j=>match zqw s j with
  |some v=>k v
  |none=>none
 |_,_=>none
def partC(agg:Bool)(n:Nat)(cs:List Value)(off:Nat):Option Value:=
 match agg with
 |true=>some (.agg ((cs.drop off).take n).toArray)
 |false=>cs[off]?
def znS(agg:Bool)(n off:Nat)(x:Value)(k:Value→Option α):Option α:=
 match x with
 |.agg cs=>match partC agg n cs.toList off with
  |some v=>k v
  |none=>none
 |_=>none
def zcx(len:Nat)(agg:Bool)(n:Nat)(x ix:Value)(k:Value→Option α):Option α:=
 match ix with
 |.int _ j=>if 0≤j∧j<len then znS agg n (j.toNat*n) x k else none
 |_=>none
def zlO(t:Value)(i:Nat):Option Value:=
 match t with
 |.tuple vs=>vs.toList[i]?
 |_=>none
def zaf(t:Value)(i:Nat)(k:Value→Option α):Option α:=
 match zlO t i with
 |some v=>k v
 |none=>none
def zbK(sz:Nat)(x:Value)(H:Hp):Option (Nat×List Value):=
 match x with
 |.slice none 0 0=>some (0,[])
 |.slice (some ⟨i,o,some z⟩) n _=>if z=sz then
   match H.get i with
   |some (.cells cs _)=>if o+n*sz≤cs.length then some (n,(cs.drop o).take (n*sz)) else none
   |_=>none else none
 |.string s=>if sz=1 then some (s.size,s.data.toList.map fun b=>.int .u8 (b.toNat:Int)) else none
 |_=>none
def zbE(sz bytes:Nat)(s x:Value)(H:Hp):Option (Value×Hp):=
 match zbK sz x H with
 |none=>none
 |some (m,new)=>
  match s with
  |.slice none 0 0=>
   if m=0 then some (.slice none 0 0,H)
   else if m*bytes≤2^47∧new.all one=true then some (.slice (some ⟨H.next,0,some sz⟩) m m,H.new (.cells new true)) else none
  |.slice (some ⟨i,o,some z⟩) n c=>
   if z≠sz then none else
   if m=0∧n≤c then some (s,H)
   else match H.get i with
    |some (.cells cs true)=>
     if n+m≤c then
      if o+(n+m)*sz≤cs.length∧new.all one=true then some (.slice (some ⟨i,o,some sz⟩) (n+m) c,H.set i (some (.cells (spl cs (o+n*sz) new) true))) else none
     else if o+n*sz≤cs.length∧(n+m)*bytes≤2^47∧new.all one=true then
      some (.slice (some ⟨H.next,0,some sz⟩) (n+m) (n+m),(H.set i none).new (.cells ((cs.drop o).take (n*sz)++new) true))
     else none
    |_=>none
  |_=>none
def zaJ(sz bytes:Nat)(s x:Value)(H:Hp)(k:Value→Hp→Option α):Option α:=
 match zbE sz bytes s x H with
 |some (v,H')=>k v H'
 |none=>none
def zjC(e:TypeId)(s:Value)(H:Hp):Bool:=
 match s with
 |.slice none 0 0=>true
 |.slice (some ⟨i,0,some _⟩) _ (_+1)=>match H.ty i with
  |some T=>Nat.beq T e
  |none=>false
 |_=>false
def zqb(e:TypeId)(s:Value)(H H':Hp):Hp:=
 match Nat.beq H'.next (H.next+1)&&zjC e s H with
 |true=>H'.mark H.next e
 |false=>H'
def zbN(e:TypeId)(sz bytes:Nat)(s x:Value)(H:Hp)(k:Value→Hp→Option α):Option α:=
 match zbE sz bytes s x H with
 |some (v,H')=>k v (zqb e s H H')
 |none=>none
def zgL(g:Option TypeId)(sz bytes:Nat)(s x:Value)(H:Hp)(k:Value→Hp→Option α):Option α:=
 match g with
 |some e=>zbN e sz bytes s x H k
 |none=>zaJ sz bytes s x H k
def copyV(sz:Nat)(d x:Value)(H:Hp):Option (Value×Hp):=
 match zbK sz x H,d with
 |some (_,_),.slice none 0 0=>some (.int .i64 0,H)
 |some (m,new),.slice (some ⟨i,o,some z⟩) n _=>
  if z≠sz then none else
  match H.get i with
  |some (.cells cs true)=>
   if o+min m n*sz≤cs.length∧new.all one=true then some (.int .i64 (min m n:Nat),H.set i (some (.cells (spl cs o (new.take (min m n*sz))) true))) else none
  |_=>none
 |_,_=>none
def pCopy(sz:Nat)(d x:Value)(H:Hp)(k:Value→Hp→Option α):Option α:=
 match copyV sz d x H with
 |some (v,H')=>k v H'
 |none=>none
inductive LenK where
 |str|sl|mp
def lenK:TypeDesc→Option LenK
 |.string=>some .str
 |.slice _=>some .sl
 |.map _ _=>some .mp
 |_=>none
def lenV(q:LenK)(x:Value)(H:Hp):Option Value:=
 match q,x with
 |.str,.string s=>some (.int .i64 s.size)
 |.sl,.slice _ n _=>some (.int .i64 n)
 |.mp,.map none=>some (.int .i64 0)
 |.mp,.map (some i)=>match H.get i with
  |some (.map kv)=>some (.int .i64 kv.length)
  |_=>none
 |_,_=>none
def pLen(q:LenK)(x:Value)(H:Hp)(k:Value→Option α):Option α:=
 match lenV q x H with
 |some v=>k v
 |none=>none
def zgu:List Value→Option (List UInt8)
 |[]=>some []
 |.int .u8 n::r=>match zgu r with
  |some l=>some (UInt8.ofNat n.toNat::l)
  |none=>none
 |_=>none
def zl3(x:Value)(H:Hp):Option Value:=
 match x with
 |.slice none _ _=>some (.string ⟨#[]⟩)
 |.slice (some a) n c=>match zbK 1 (.slice (some a) n c) H with
  |some (_,cs)=>match zgu cs with
   |some l=>some (.string ⟨l.toArray⟩)
   |none=>none
  |none=>none
 |_=>none
def zed(x:Value)(H:Hp)(k:Value→Option α):Option α:=
 match zl3 x H with
 |some v=>k v
 |none=>none
def zdH(x:Value)(H:Hp)(k:Value→Hp→Option α):Option α:=
 match x with
 |.string s=>if s.size≤2^47 then k (.slice (some ⟨H.next,0,some 1⟩) s.size s.size) (H.new (.cells (s.data.toList.map fun b=>.int .u8 (b.toNat:Int)) true)) else none
 |_=>none
def keyOk(P:Program):Nat→TypeId→Bool
 |0,_=>false
 |d+1,t=>match P.underlying t with
  |some .bool|some (.int _)|some .string=>true
  |some (.struct fs)=>fs.toList.all fun f=>keyOk P d f.type&&((P.info? f.type).isSome)
  |_=>false
def zeX(P:Program)(kt:TypeId)(key:Value):List (Value×Value)→Nat→Option (Option (Nat×Value))
 |[],_=>some none
 |(k,v)::r,i=>match eqT P 10000 kt key k with
  |some true=>some (some (i,v))
  |some false=>zeX P kt key r (i+1)
  |none=>none
def zn4(m:Value)(H:Hp):Option (List (Value×Value)):=
 match m with
 |.map none=>some []
 |.map (some i)=>match H.get i with
  |some (.map kv)=>some kv
  |_=>none
 |_=>none
def zgh(x:Value)(k:Option α):Option α:=
 match x with
 |.int _ _=>k
 |_=>none
def mapC(P:Program)(T:TypeId)(k:TypeId→Value→Option α):Option α:=
 match P.underlying T with
 |some (.map kt et)=>match keyOk P 20 kt with
  |true=>zf2 P et fun z=>k kt z
  |false=>none
 |_=>none
def zer(P:Program):Nat→TypeId→Value→Bool
 |0,_,_=>false
 |d+1,t,v=>match P.underlying t,v with
  |some .bool,.bool _=>true
  |some (.int _),.int _ _=>true
  |some .string,.string _=>true
  |some (.struct fs),.agg cs=>fs.toList.all fun f=>match zmx P f.type cs.toList f.offset with
   |some x=>zer P d f.type x
   |none=>false
  |_,_=>false
def lookV(P:Program)(kt:TypeId)(z m key:Value)(H:Hp):Option (Value×Bool):=
 if zer P 20 kt key=true then
 match zn4 m H with
 |none=>none
 |some kv=>match zeX P kt key kv 0 with
  |some (some (_,v))=>some (v,true)
  |some none=>some (z,false)
  |none=>none
 else none
def zbj(P:Program)(kt:TypeId)(z m key:Value)(ok:Bool)(H:Hp)(k:Value→Option α):Option α:=
 match lookV P kt z m key H with
 |some (v,b)=>match ok with
  |true=>k (.tuple #[v,.bool b])
  |false=>k v
 |none=>none
def zhZ(kv:List (Value×Value))(i:Nat)(key v:Value):List (Value×Value):=kv.set i (key,v)
def updV(P:Program)(kt:TypeId)(m key v:Value)(H:Hp):Option Hp:=
 if zer P 20 kt key=true then
 match m with
 |.map (some i)=>match H.get i with
  |some (.map kv)=>match zeX P kt key kv 0 with
   |some (some (j,_))=>match kv[j]? with
    |some (k0,_)=>if Instr.sameBits 10000 k0 key=true then some (H.set i (some (.map (zhZ kv j key v)))) else none
    |none=>none
   |some none=>some (H.set i (some (.map (kv++[(key,v)]))))
   |none=>none
  |_=>none
 |_=>none
 else none
def pUpd(P:Program)(kt:TypeId)(m key v:Value)(H:Hp)(k:Hp→Option α):Option α:=
 match updV P kt m key v H with
 |some H'=>k H'
 |none=>none
def delV(P:Program)(kt:TypeId)(m key:Value)(H:Hp):Option Hp:=
 if zer P 20 kt key=true then
 match m with
 |.map none=>some H
 |.map (some i)=>match H.get i with
  |some (.map kv)=>match zeX P kt key kv 0 with
   |some (some (j,_))=>some (H.set i (some (.map (kv.eraseIdx j))))
   |some none=>some H
   |none=>none
  |_=>none
 |_=>none
 else none
def pDel(P:Program)(kt:TypeId)(m key:Value)(H:Hp)(k:Hp→Option α):Option α:=
 match delV P kt m key H with
 |some H'=>k H'
 |none=>none
def eqOp(P:Program)(T:TypeId)(x y:Value):Option Bool:=
 match x,y with
 |.agg _,.agg _=>match P.eqGuardType P.depth T with
  |true=>none
  |false=>eqT P Op.maxDepth T x y
 |.nilIface,_=>none
 |.iface tx vx,.iface ty vy=>match P.underlying T with
  |some (.interface _)=>match Nat.beq tx ty with
   |false=>some false
   |true=>match P.info? tx with
    |some i=>match i.comparable with
     |true=>eqT P (Op.maxDepth-1) tx vx vy
     |false=>none
    |none=>none
  |_=>none
 |.bool _,.bool _ | .pointer _,.pointer _ | .slice _ _ _,.slice _ _ _ | .map _,.map _ | .nilFunc,.nilFunc | .nilFunc,.func _ _ _ | .func _ _ _,.nilFunc=>eqT P Op.maxDepth T x y
 |_,_=>none
def binV(P:Program)(op:BinOp)(T:TypeId)(x y:Value):Option Value:=
 match x,y with
 |.int k a,.int k' b=>match op with
  |.shl | .shr=>shOp op k a b
  |_=>if k=k' then zd4 op k a b else none
 |.string a,.string b=>znq op a b
 |x,y=>match op with
  |.eql=>match eqOp P T x y with
   |some b=>some (.bool b)
   |none=>none
  |.neq=>match eqOp P T x y with
   |some b=>some (.bool !b)
   |none=>none
  |_=>none
def pBin(P:Program)(op:BinOp)(T:TypeId)(x y:Value)(k:Value→Option α):Option α:=
 match binV P op T x y with
 |some v=>k v
 |none=>none
def unV(op:UnOp)(x:Value):Option Value:=
 match op,x with
 |.neg,.int k n=>some (.int k (k.wrap (0-n)))
 |.xor,.int k n=>bvOp .xor k (if k.signed then -1 else k.max) n
 |.not,.bool b=>some (.bool !b)
 |_,_=>none
def pUn(op:UnOp)(x:Value)(k:Value→Option α):Option α:=
 match unV op x with
 |some v=>k v
 |none=>none
def zlR(kd:IntKind)(x:Value):Option Value:=
 match x with
 |.int _ n=>some (.int kd (kd.wrap n))
 |_=>none
def zaj(kd:IntKind)(x:Value)(k:Value→Option α):Option α:=
 match zlR kd x with
 |some v=>k v
 |none=>none
def znR(x:Value)(k:Value→Option α):Option α:=
 match x with
 |.int _ n=>k (.string (Utf8.encode n))
 |_=>none
def pStr(x:Value)(k:Value→Option α):Option α:=
 match x with
 |.string _=>k x
 |_=>none
def mm(mx:Bool)(x y:Value):Option Value:=
 match x,y with
 |.int k a,.int _ b=>some (.int k (match mx with|true=>if b>a then b else a|false=>if b<a then b else a))
 |_,_=>none
def mmL(mx:Bool)(x:Value):List Value→Option Value
 |[]=>some x
 |y::r=>match mm mx x y with
  |some z=>mmL mx z r
  |none=>none
def pMM(mx:Bool)(vs:List Value)(k:Value→Option α):Option α:=
 match vs with
 |[]=>none
 |x::r=>match mmL mx x r with
  |some v=>k v
  |none=>none
def zad(h:zag)(g:FuncId)(args:List Value)(H:Hp)(k:Value→Hp→Option α):Option α:=
 match h g args H with
 |some (v,H')=>k v H'
 |none=>none
abbrev W1(v:Value):Value:=.tuple #[.bool true,v]
abbrev W0(v:Value):Value:=.tuple #[.bool false,v]
def zfj(v:Value)(k kp:Value→Option α):Option α:=
 match v with
 |.tuple ⟨[.bool true,u]⟩=>k u
 |.tuple ⟨[.bool false,x]⟩=>kp x
 |_=>none
def zeH(h:zag)(g:FuncId)(args:List Value)(H:Hp)(k:Value→Hp→Option α):Option α:=
 match h g args H with
 |some (v,H')=>zfj v (fun u=>k u H') (fun _=>none)
 |none=>none
def zbh(h:zag)(g:FuncId)(args:List Value)(H:Hp)(kp k:Value→Hp→Option α):Option α:=
 match h g args H with
 |some (v,H')=>zfj v (fun u=>k u H') (fun x=>kp x H')
 |none=>none
def zmC(v:Value)(k:Option α):Option α:=
 match v with
 |.iface _ _=>k
 |_=>none
def zdI(O:Orc)(h:zag)(fv:Value)(vs:List Value)(H:Hp)(k:Value→Hp→Option α):Option α:=
 match fv with
 |.func (.func g) first captured=>match O.pan g with
  |false=>zad h g (first.toList++(vs++captured.toList)) H k
  |true=>zeH h g (first.toList++(vs++captured.toList)) H k
 |_=>none
def zpp:Operand→Bool
 |.const .nilIface=>true
 |_=>false
def zdW(P:Program)(op:BinOp)(T:TypeId)(x:Value)(k:Value→Option α):Option α:=
 match P.underlying T with
 |some (.interface _)=>match op,x with
  |.eql,.nilIface=>k (.bool true)
  |.eql,.iface _ _=>k (.bool false)
  |.neq,.nilIface=>k (.bool false)
  |.neq,.iface _ _=>k (.bool true)
  |_,_=>none
 |_=>none
def zgi(P:Program)(T:TypeId)(x:Value)(k:Value→Option α):Option α:=
 match P.underlying T with
 |some (.interface _)=>none
 |some _=>match x with
  |.iface t v=>match Nat.beq t T with
   |true=>k v
   |false=>none
  |_=>none
 |none=>none
def zmU(P:Program)(T:TypeId)(k:Option α):Option α:=
 match P.underlying T with
 |some (.interface _)=>none
 |some _=>k
 |none=>none
def ev(G:Nat)(fr:Fr):Operand→Slot
 |.tmp t=>getS fr t
 |.const v=>match zdt v with
  |true=>.val v
  |false=>.unk
 |.global g=>match Nat.blt g G with
  |true=>.val (.pointer (some ⟨g,0,none⟩))
  |false=>.unk
 |.func f=>.val (.func (.func f) #[] #[])
def sV(s:Slot)(k:Value→Option α):Option α:=
 match s with
 |.val v=>k v
 |_=>none
def evs(G:Nat)(fr:Fr):List Operand→(List Value→Option α)→Option α
 |[],k=>k []
 |x::xs,k=>sV (ev G fr x) fun v=>evs G fr xs fun vs=>k (v::vs)
def optV(G:Nat)(fr:Fr)(x:Option Operand)(k:Option Value→Option α):Option α:=
 match x with
 |none=>k none
 |some x=>sV (ev G fr x) fun v=>k (some v)
def sel(t:Bool)(x y:Value):Value:=match t with|true=>x|false=>y
def zjX(x:Value)(k:ByteArray→Option α):Option α:=
 match x with
 |.string s=>k s
 |_=>none
structure Ctx where
 P:Program
 O:Orc
 h:zag
 f:FuncId
def gtOf(P:Program)(O:Orc)(t:TypeId):Option TypeId:=
 match P.underlying t with
 |some (.slice e)=>match O.gt e with
  |true=>some e
  |false=>none
 |_=>none
def zdf(C:Ctx)(S:St)(d:Option Nat)(T:TypeId)(cs:List Value)(k:Slot→St→Option α):Option α:=
 match d with
 |some d=>match (C.O.loc C.f).elem d with
  |true=>match S.bx d with
   |some _=>none
   |none=>k (.loc d 0) (S.setB d (some (.cells cs false)))
  |false=>zlw (C.O.gt T) T cs S.hp fun v H=>k (.val v) ⟨S.bx,H⟩
 |none=>none
def opC(C:Ctx)(fr:Fr)(S:St)(o:Oper)(k:Slot→St→Option α):Option α:=
 let G:=C.P.globals.size
 match o.op with
 |.move x | .assign x=>k (ev G fr x) S
 |.pick c a b=>sV (ev G fr c) fun c=>zaa c fun t=>
   match ev G fr a,ev G fr b with
   |.val x,.val y=>k (.val (sel t x y)) S
   |sa,sb=>match t with
    |true=>k sa S
    |false=>k sb S
 |.alloc T=>zf2 C.P T fun z=>match (zab z).all one with
   |true=>zdf C S o.dst T (zab z) k
   |false=>none
 |.box T x=>sV (ev G fr x) fun v=>zdf C S o.dst T (zab v) k
 |.build T parts=>evs G fr (parts.toList.map (·.2)) fun vs=>zaB C.P T ((parts.toList.map (·.1)).zip vs) fun v=>k (.val v) S
 |.buildSlice T len parts=>evs G fr (parts.toList.map (·.2)) fun vs=>zgy C.P T fun sz _ zs=>
   zam sz zs len ((parts.toList.map (·.1)).zip vs) S.hp fun v H=>k (.val v) ⟨S.bx,H⟩
 |.load T a=>tyC C.P T fun n agg=>match ev G fr a with
   |.loc d off=>match S.bx d with
    |some (.cells cs _)=>zai n agg cs off fun v=>k (.val v) S
    |_=>none
   |.val p=>zal n agg S.hp p fun v=>k (.val v) S
   |_=>none
 |.store T a x=>sV (ev G fr x) fun v=>tyC C.P T fun n _=>match ev G fr a with
   |.loc d off=>match S.bx d with
    |some (.cells cs false)=>zaV n cs off v fun cs'=>k .unk (S.setB d (some (.cells cs' false)))
    |_=>none
   |.val p=>zao n S.hp p v fun H=>k .unk ⟨S.bx,H⟩
   |_=>none
 |.nilCheck x=>match ev G fr x with
   |.loc d off=>k (.loc d off) S
   |.val v=>pNil v (k (.val v) S)
   |_=>none
 |.binOp op T x y _=>sV (ev G fr x) fun x=>sV (ev G fr y) fun v=>match zpp y with
   |true=>zdW C.P op T x fun v=>k (.val v) S
   |false=>pBin C.P op T x v fun v=>k (.val v) S
 |.unOp op _ x=>sV (ev G fr x) fun x=>pUn op x fun v=>k (.val v) S
 |.convert src dst x=>sV (ev G fr x) fun x=>
   match C.P.underlying src,C.P.underlying dst with
   |some (.int _),some (.int kd)=>zaj kd x fun v=>k (.val v) S
   |some .string,some .string=>pStr x (fun v=>k (.val v) S)
   |some (.int _),some .string=>znR x fun v=>k (.val v) S
   |some .string,some (.slice e)=>match C.P.underlying e with
    |some (.int .u8)=>zdH x S.hp fun v H=>k (.val v) ⟨S.bx,H⟩
    |_=>none
   |some (.slice e),some .string=>match C.P.underlying e with
    |some (.int .u8)=>zed x S.hp fun v=>k (.val v) S
    |_=>none
   |_,_=>none
 |.makeFunc fn first captured=>evs G fr first.toList fun fs=>evs G fr captured.toList fun cs=>k (.val (.func fn fs.toArray cs.toArray)) S
 |.makeMap _ none=>zbY S.hp fun v H=>k (.val v) ⟨S.bx,H⟩
 |.makeMap T (some x)=>sV (ev G fr x) fun x=>mapC C.P T fun _ _=>zgh x (zbY S.hp fun v H=>k (.val v) ⟨S.bx,H⟩)
 |.makeSlice T l c=>sV (ev G fr l) fun l=>sV (ev G fr c) fun c=>zgy C.P T fun sz bytes zs=>
   zaZ sz bytes zs l c S.hp fun v H=>k (.val v) ⟨S.bx,H⟩
 |.slice T x lo hi none=>sV (ev G fr x) fun x=>optV G fr lo fun lo=>optV G fr hi fun hi=>
   match C.P.underlying T with
   |some .string=>za5 x lo hi fun v=>k (.val v) S
   |some (.slice e)=>match C.P.info? e with
    |some i=>zdw i.size x lo hi fun v=>k (.val v) S
    |none=>none
   |some (.array n e)=>match C.P.info? e with
    |some i=>zck n i.size x lo hi S.hp fun v=>k (.val v) S
    |none=>none
   |_=>none
 |.fieldAddr T x f=>match C.P.underlying T with
   |some (.struct fs)=>match fs.toList[f]? with
    |some fd=>match C.P.info? fd.type with
     |some i=>match Nat.beq i.size 0 with
      |true=>none
      |false=>match ev G fr x with
       |.loc d off=>k (.loc d (off+fd.offset)) S
       |.val p=>zas fd.offset p fun v=>k (.val v) S
       |_=>none
     |none=>none
    |none=>none
   |_=>none
 |.field T x f=>sV (ev G fr x) fun x=>match C.P.underlying T with
   |some (.struct fs)=>match fs.toList[f]? with
    |some fd=>tyC C.P fd.type fun n agg=>znS agg n fd.offset x fun v=>k (.val v) S
    |none=>none
   |_=>none
 |.indexAddr T x i=>sV (ev G fr i) fun i=>match C.P.underlying T with
   |some (.slice e)=>match C.P.info? e with
    |some ti=>sV (ev G fr x) fun x=>pIdx ti.size x i fun v=>k (.val v) S
    |none=>none
   |some (.array len e)=>match C.P.info? e with
    |some ti=>match ev G fr x with
     |.loc d off=>ziV len i fun j=>k (.loc d (off+j*ti.size)) S
     |.val p=>zcu len ti.size p i fun v=>k (.val v) S
     |_=>none
    |none=>none
   |_=>none
 |.index T x i=>sV (ev G fr x) fun x=>sV (ev G fr i) fun i=>match C.P.underlying T with
   |some .string=>zaY x i fun v=>k (.val v) S
   |some (.array len e)=>tyC C.P e fun n agg=>zcx len agg n x i fun v=>k (.val v) S
   |_=>none
 |.lookup T m key ok=>sV (ev G fr m) fun m=>sV (ev G fr key) fun key=>mapC C.P T fun kt z=>
   zbj C.P kt z m key ok S.hp fun v=>k (.val v) S
 |.mapUpdate T m key x=>sV (ev G fr m) fun m=>sV (ev G fr key) fun key=>sV (ev G fr x) fun x=>mapC C.P T fun kt _=>
   pUpd C.P kt m key x S.hp fun H=>k .unk ⟨S.bx,H⟩
 |.insert T m key x=>sV (ev G fr m) fun m=>sV (ev G fr key) fun key=>sV (ev G fr x) fun x=>mapC C.P T fun kt _=>
   pUpd C.P kt m key x S.hp fun H=>k .unk ⟨S.bx,H⟩
 |.extract t i=>sV (ev G fr t) fun t=>zaf t i fun v=>k (.val v) S
 |.makeInterface T x=>sV (ev G fr x) fun v=>zmU C.P T (k (.val (.iface T v)) S)
 |.typeAssert x _ T ok=>sV (ev G fr x) fun x=>zgi C.P T x fun v=>match ok with
   |true=>k (.val (.tuple #[v,.bool true])) S
   |false=>k (.val v) S
 |.range T x=>sV (ev G fr x) fun x=>match C.P.underlying T,o.dst with
   |some .string,some d=>match S.bx d with
    |some _=>none
    |none=>zjX x fun s=>k (.loc d 0) (S.setB d (some (.iter s 0)))
   |_,_=>none
 |.next it true=>match ev G fr it with
   |.loc d 0=>match S.bx d with
    |some (.iter s pos)=>br (Nat.blt pos s.size)
      (k (.val (.tuple #[.bool true,.int .i64 pos,.int .i32 (Utf8.decode s pos).1])) (S.setB d (some (.iter s (pos+(Utf8.decode s pos).2)))))
      (k (.val (.tuple #[.bool false])) S)
    |_=>none
   |_=>none
 |.call c=>match c.callee with
   |.value fo=>sV (ev G fr fo) fun fv=>evs G fr c.args.toList fun vs=>zdI C.O C.h fv vs S.hp fun v H=>k (.val v) ⟨S.bx,H⟩
   |.invoke _ _=>none
   |.builtin b=>evs G fr c.args.toList fun vs=>match b,vs,c.argTypes.toList with
    |.len,[x],[t]=>match C.P.underlying t with
     |some d=>match lenK d with
      |some q=>pLen q x S.hp fun v=>k (.val v) S
      |none=>none
     |none=>none
    |.append,[s,x],[t,u]=>zgy C.P t fun sz bytes _=>match C.P.underlying u with
     |some (.slice _)|some .string=>zgL (gtOf C.P C.O t) sz bytes s x S.hp fun v H=>k (.val v) ⟨S.bx,H⟩
     |_=>none
    |.copy,[d,x],[t,_]=>zgy C.P t fun sz _ _=>pCopy sz d x S.hp fun v H=>k (.val v) ⟨S.bx,H⟩
    |.max,vs,_=>pMM true vs fun v=>k (.val v) S
    |.min,vs,_=>pMM false vs fun v=>k (.val v) S
    |.delete,[m,key],[T,_]=>mapC C.P T fun kt _=>pDel C.P kt m key S.hp fun H=>k (.val (.tuple #[])) ⟨S.bx,H⟩
    |_,_,_=>none
 |_=>none
def panS(C:Ctx)(o:Oper):Bool:=
 match o.op with
 |.call c=>match c.callee with
  |.value (.func g)=>C.O.pan g
  |_=>false
 |.panic _=>true
 |_=>false
def opW(C:Ctx)(fr:Fr)(S:St)(o:Oper)(kp:Value→Hp→Option α)(k:Slot→St→Option α):Option α:=
 match o.op with
 |.call c=>match c.callee with
  |.value (.func g)=>evs C.P.globals.size fr c.args.toList fun vs=>zbh C.h g vs S.hp kp fun v H=>k (.val v) ⟨S.bx,H⟩
  |_=>none
 |.panic x=>sV (ev C.P.globals.size fr x) fun v=>zmC v (kp v S.hp)
 |_=>none
structure K(α:Type) where
 norm:Fr→St→Option α
 exit:Nat→Fr→St→Option α
 ret:Value→Hp→Option α
def zen(ops:List Oper)(fr:Fr)(o:Oper)(k:Bool→Fr→Option α):Option α:=
 match o.guard with
 |none=>k true fr
 |some (j,want)=>match ops[j]? with
  |some g=>match g.dst with
   |some d=>match getS fr d with
    |.und=>k false fr
    |s=>sV s fun v=>zaa v fun b=>br b (k want (fr.set d (.val (.bool true)))) (k (!want) (fr.set d (.val (.bool false))))
   |none=>none
  |none=>none
def opsC(C:Ctx)(ops:List Oper)(kp:Value→Hp→Option α)(k:Fr→St→Option α):List Oper→Fr→St→Option α
 |[],fr,S=>k fr S
 |o::rest,fr,S=>zen ops fr o fun w fr=>match w with
  |true=>match C.O.pan C.f&&panS C o with
   |false=>opC C fr S o fun s S'=>opsC C ops kp k rest (putS fr o.dst s) S'
   |true=>opW C fr S o kp fun s S'=>opsC C ops kp k rest (putS fr o.dst s) S'
  |false=>opsC C ops kp k rest (putS fr o.dst .und) S
inductive OK where
 |pure|read|eff
def zdh(P:Program):Op→OK
 |.move _ | .assign _ | .pick .. | .build .. | .nilCheck _ | .binOp .. | .unOp .. | .makeFunc .. | .fieldAddr .. | .field .. | .indexAddr .. | .index .. | .extract .. | .makeInterface .. | .typeAssert .. => .pure
 |.load .. | .lookup .. => .read
 |.slice T .. => match P.underlying T with
  |some (.array _ _)=>.eff
  |_=>.pure
 |.convert src dst _=>match P.underlying src,P.underlying dst with
  |some (.int _),some (.int _)|some .string,some .string|some (.int _),some .string=>.pure
  |_,_=>.eff
 |.call { callee:=.builtin .len,.. }=>.read
 |.call { callee:=.builtin .max,.. } | .call { callee:=.builtin .min,.. }=>.pure
 |_=>.eff
def ancs(ops:List Oper):List Nat:=
 ops.foldl (fun acc o=>acc++[o.after.toList.foldl (fun s e=>match Region.binds .any e with|true=>s|||2^e.on|||acc.getD e.on 0|false=>s) 0]) []
def zdl(ops:List Oper)(o:Oper):List Nat:=
 (o.op.operands.toList.filterMap fun | .tmp t=>some t|_=>none) ++
 (match o.guard with
  |some (g,_)=>match ops[g]? with
   |some q=>q.dst.toList
   |none=>[]
  |none=>[])
def zqo(ops:List Oper)(a b:Oper):Bool:=
 (match a.dst with|some d=>(zdl ops b).elem d||b.dst==some d|none=>false)||(match b.dst with|some d=>(zdl ops a).elem d|none=>false)
def isLA(O:Orc)(f:FuncId)(o:Oper):Bool:=
 match o.guard,o.op,o.dst with
 |none,.alloc _,some d=>(O.loc f).elem d
 |_,_,_=>false
def zca(P:Program)(O:Orc)(f:FuncId)(o:Oper):OK:=
 match isLA O f o with
 |true=>.pure
 |false=>zdh P o.op
def zgl(P:Program)(O:Orc)(f:FuncId)(ops:List Oper)(an:List Nat):Bool:=
 (List.range ops.length).all fun j=>(match ops[j]? with
  |some b=>b.after.toList.all fun e=>!(Region.binds .any e)||Nat.blt e.on j
  |none=>false)&&(List.range j).all fun i=>
  match ops[i]?,ops[j]? with
  |some a,some b=>(an.getD j 0).testBit i||!(zqo ops a b||(match zca P O f a,zca P O f b with | .eff,.eff=>true|_,_=>false))
  |_,_=>false
def opD(C:Ctx)(fr:Fr)(S:St)(o:Oper)(k:Slot→St→Option α):Option α:=
 match isLA C.O C.f o with
 |true=>(match o.dst with
  |some d=>k (.loc d 0) S
  |none=>none)
 |false=>opC C fr S o k
def zhS(C:Ctx)(k:St→Option α):List Oper→St→Option α
 |[],S=>k S
 |o::r,S=>match isLA C.O C.f o with
  |true=>opC C [] S o fun _ S'=>zhS C k r S'
  |false=>zhS C k r S
def zbJ(C:Ctx)(fr:Fr)(o:Oper):Option Nat:=
 match o.op with
 |.load _ a | .store _ a _=>match ev C.P.globals.size fr a with
  |.loc d _=>some d
  |_=>none
 |.alloc _ | .box _ _=>match o.dst with
  |some d=>match (C.O.loc C.f).elem d with
   |true=>some d
   |false=>none
  |none=>none
 |.range _ _=>o.dst
 |.next it _=>match ev C.P.globals.size fr it with
  |.loc d _=>some d
  |_=>none
 |_=>none
noncomputable def lenAgain(q:LenK)(x:Value)(H:Hp)(v:Value)(k:Option α):Option α:=chk (lenV q x H=some v) k
noncomputable def zhy(C:Ctx)(fr:Fr)(S:St)(o:Oper)(s:Slot)(k:Option α):Option α:=
 let G:=C.P.globals.size
 match s with
 |.val v=>match o.op with
  |.load T a=>tyC C.P T fun n agg=>match ev G fr a with
   |.loc d off=>match S.bx d with
    |some (.cells cs _)=>chk (zct cs off n agg=some v) k
    |_=>none
   |.val p=>chk (S.hp.rdP p n agg=some v) k
   |_=>none
  |.lookup T m key ok=>sV (ev G fr m) fun m=>sV (ev G fr key) fun key=>mapC C.P T fun kt z=>
    chk (zbj C.P kt z m key ok S.hp some=some v) k
  |.call c=>evs G fr c.args.toList fun vs=>match vs,c.argTypes.toList with
   |[x],[t]=>match C.P.underlying t with
    |some d=>match lenK d with
     |some q=>lenAgain q x S.hp v k
     |none=>none
    |none=>none
   |_,_=>none
  |_=>none
 |_=>none
structure Rd where
 i:Nat
 o:Oper
 fr:Fr
 s:Slot
 tag:Option Nat
def zcZ(a b:Option Nat):Bool:=
 match a,b with
 |none,none=>true
 |some x,some y=>Nat.beq x y
 |_,_=>false
noncomputable def zfu(C:Ctx)(an i:Nat)(o:Oper)(fr:Fr)(s:Slot)(tag:Option Nat)(k:Option α):List (Nat×Option Nat×St)→Option α
 |[]=>k
 |(j,t,S)::r=>match an.testBit j||!(zcZ t tag) with
  |true=>zfu C an i o fr s tag k r
  |false=>zhy C fr S o s (zfu C an i o fr s tag k r)
noncomputable def ze1(C:Ctx)(an:Nat)(tag:Option Nat)(S:St)(k:Option α):List Rd→Option α
 |[]=>k
 |r::rs=>match an.testBit r.i||!(zcZ r.tag tag) with
  |true=>ze1 C an tag S k rs
  |false=>zhy C r.fr S r.o r.s (ze1 C an tag S k rs)
def zpm(ops:List Oper)(an:List Nat)(i:Nat):Bool:=(List.range ops.length).all fun j=>Nat.ble j i||(an.getD j 0).testBit i
noncomputable def zh4(C:Ctx)(ops:List Oper)(an:List Nat)(kp:Value→Hp→Option α)(k:Fr→St→Option α):List Oper→Nat→Fr→St→List (Nat×Option Nat×St)→List Rd→Option α
 |[],_,fr,S,_,_=>k fr S
 |o::rest,i,fr,S,es,rs=>zen ops fr o fun w fr=>match w with
  |false=>zh4 C ops an kp k rest (i+1) (putS fr o.dst .und) S es rs
  |true=>match C.O.pan C.f&&panS C o with
   |true=>opW C fr S o (fun x H=>match zpm ops an i with
     |true=>kp x H
     |false=>none) fun s S'=>ze1 C (an.getD i 0) (zbJ C fr o) S'
     (zh4 C ops an kp k rest (i+1) (putS fr o.dst s) S' (es++[(i,zbJ C fr o,S)]) rs) rs
   |false=>match zca C.P C.O C.f o with
    |.pure=>opD C fr S o fun s S'=>zh4 C ops an kp k rest (i+1) (putS fr o.dst s) S' es rs
    |.read=>opD C fr S o fun s S'=>zfu C (an.getD i 0) i o fr s (zbJ C fr o)
      (zh4 C ops an kp k rest (i+1) (putS fr o.dst s) S' es (rs++[⟨i,o,fr,s,zbJ C fr o⟩])) es
    |.eff=>opD C fr S o fun s S'=>ze1 C (an.getD i 0) (zbJ C fr o) S'
      (zh4 C ops an kp k rest (i+1) (putS fr o.dst s) S' (es++[(i,zbJ C fr o,S)]) rs) rs
noncomputable def drawH(C:Ctx)(ops:List Oper)(kp:Value→Hp→Option α)(k:Fr→St→Option α)(fr:Fr)(S:St):Option α:=
 zhS C (fun S=>zh4 C ops (ancs ops) kp k ops 0 fr S [] []) ops S
inductive Ctl where
 |next
 |exit (id:Nat)
 |ret
def rid:Code→Nat
 |.region id _ _=>id
 |.seq a _=>rid a
 |.cond _ a b=>match rid a with
  |0=>rid b
  |n+1=>n+1
 |.block _ c=>rid c
 |.loop c=>rid c
 |.scope c=>rid c
 |_=>0
def wr:Code→List Nat→List Nat
 |.region _ ops _,acc=>ops.toList.foldr (fun o acc=>match o.dst with|some d=>d::acc|none=>acc) acc
 |.seq a b,acc=>wr a (wr b acc)
 |.cond _ a b,acc=>wr a (wr b acc)
 |.block _ c,acc=>wr c acc
 |.loop c,acc=>wr c acc
 |.scope c,acc=>wr c acc
 |_,acc=>acc
def boxV(b:Option Bx)(k:Value→Option α):Option α:=
 match b with
 |some (.cells cs _)=>k (.agg cs.toArray)
 |some (.iter s pos)=>k (.tuple #[.string s,.int .i64 pos])
 |_=>none
def za4:Value→ByteArray
 |.tuple vs=>match vs.toList with
  |.string s::_=>s
  |_=>⟨#[]⟩
 |_=>⟨#[]⟩
def za1:Value→Nat
 |.tuple vs=>match vs.toList with
  |[_,.int _ n]=>n.toNat
  |_=>0
 |_=>0
def zjN(b:Option Bx)(v:Value):Option Bx:=
 match b with
 |some (.iter _ _)=>some (.iter (za4 v) (za1 v))
 |some (.cells _ false)=>some (.cells (zab v) false)
 |b=>b
def roBx(b:Option Bx):Option Bx:=
 match b with
 |some (.cells cs _)=>some (.cells cs true)
 |some (.iter s p)=>some (.iterRo s p)
 |b=>b
def zlc(S:St):List Nat→(List Value→Option α)→Option α
 |[],k=>k []
 |d::ds,k=>boxV (S.bx d) fun v=>zlc S ds fun vs=>k (v::vs)
def znx(fr:Fr):List Nat→(List Value→Option α)→Option α
 |[],k=>k []
 |d::ds,k=>sV (getS fr d) fun v=>znx fr ds fun vs=>k (v::vs)
def zfb(w keep:List Nat)(l:List Value):Fr→Nat→Fr
 |[],_=>[]
 |s::r,i=>(match keep.idxOf? i with
   |some j=>.val (l.getD j undef)
   |none=>match w.elem i with
    |true=>.unk
    |false=>s)::zfb w keep l r (i+1)
def zj1(keep:List Nat)(l:List Value)(bx:Nat→Option Bx):Nat→Option Bx:=
 fun d=>match keep.idxOf? d with
  |some j=>zjN (bx d) (l.getD j undef)
  |none=>roBx (bx d)
def zd6(keep:List Nat)(l:List Value)(bx:Nat→Option Bx):Nat→Option Bx:=
 fun d=>match keep.idxOf? d with
  |some j=>zjN (bx d) (l.getD j undef)
  |none=>bx d
abbrev Outc:=Ctl×List Value×Hp
def ziC(ks kb:List Nat)(c:Ctl)(fr:Fr)(S:St):Option Outc:=
 znx fr ks fun vs=>zlc S kb fun bs=>some (c,vs++bs,S.hp)
def Kout(ks kb:List Nat):K Outc:=
 { norm:=ziC ks kb .next,exit:=fun id=>ziC ks kb (.exit id),ret:=fun v H=>some (.ret,[v],H) }
def zfr(step:List Value→Hp→Option Outc):Nat→List Value→Hp→Option Outc
 |0,_,_=>none
 |n+1,l,H=>match step l H with
  |some (.next,l',H')=>zfr step n l' H'
  |r=>r
open Classical in
noncomputable def zat(step:List Value→Hp→Option Outc)(l:List Value)(H:Hp):Option Outc:=
 if h:∃r n,zfr step n l H=some r then some h.choose else none
def zaC(c:Ctl)(nx:Option α)(ex:Nat→Option α)(rt:Option α):Option α:=
 match c with
 |.next=>nx
 |.exit id=>ex id
 |.ret=>rt
def zav(j id:Nat)(x y:Option α):Option α:=match Nat.beq j id with|true=>x|false=>y
def roB(keep:List Nat)(bx:Nat→Option Bx):Nat→Option Bx:=
 fun d=>match keep.elem d with
  |true=>bx d
  |false=>roBx (bx d)
def zau(x:Option Outc)(k:Ctl→List Value→Hp→Option α):Option α:=
 match x with
 |some (c,l,H)=>k c l H
 |none=>none
def resC(P:Program)(fr:Fr)(S:St):List ResultVar→(List Value→Option α)→Option α
 |[],k=>k []
 |.tmp t::r,k=>sV (getS fr t) fun v=>resC P fr S r fun vs=>k (v::vs)
 |.cell t T::r,k=>tyC P T fun n agg=>match getS fr t with
  |.loc d off=>match S.bx d with
   |some (.cells cs _)=>zai n agg cs off fun v=>resC P fr S r fun vs=>k (v::vs)
   |_=>none
  |.val p=>zal n agg S.hp p fun v=>resC P fr S r fun vs=>k (v::vs)
  |_=>none
def resV:List Value→Value
 |[v]=>v
 |vs=>.tuple vs.toArray
def ziq(C:Ctx)(v:Value):Value:=
 match C.O.pan C.f with
 |true=>W1 v
 |false=>v
def zjR(fr:Fr):List ResultVar→(List Value→Option α)→Option α
 |[],k=>k []
 |.tmp t::r,k=>sV (getS fr t) fun v=>zjR fr r fun vs=>k (v::vs)
 |.cell _ _::r,k=>zjR fr r k
def zjl(ops:List Oper):List ResultVar→Bool
 |[]=>true
 |.tmp t::r=>(ops.all fun o=>!(o.dst==some t))&&zjl ops r
 |.cell _ _::r=>zjl ops r
def panK(C:Ctx)(rs:List ResultVar)(ops:List Oper)(fr:Fr)(k:K α):Value→Hp→Option α:=
 match C.O.dfr C.f with
 |false=>fun x H=>k.ret (W0 x) H
 |true=>match zjl ops rs with
  |true=>fun x H=>zjR fr rs fun vs=>k.ret (W0 (.tuple (x::vs).toArray)) H
  |false=>fun _ _=>none
end
noncomputable def exec(C:Ctx)(rs:List ResultVar):Code→(α:Type)→Fr→St→K α→Option α
 |.skip,_,fr,S,k=>k.norm fr S
 |.region _ ops draw,_,fr,S,k=>match draw with
  |false=>opsC C ops.toList (panK C rs ops.toList fr k) k.norm ops.toList fr S
  |true=>match zgl C.P C.O C.f ops.toList (ancs ops.toList) with
   |true=>drawH C ops.toList (panK C rs ops.toList fr k) k.norm fr S
   |false=>none
 |.seq a b,α,fr,S,k=>match C.O.join C.f (rid b) with
  |none=>exec C rs a α fr S { k with norm:=fun fr S=>exec C rs b α fr S k }
  |some (ks,kb)=>zau (exec C rs a Outc fr ⟨roB kb S.bx,S.hp⟩ (Kout ks kb)) fun c l H=>zaC c
   (exec C rs b α (zfb (wr a []) ks l fr 0) ⟨zd6 kb (l.drop ks.length) S.bx,H⟩ k)
   (fun id=>k.exit id (zfb (wr a []) ks l fr 0) ⟨zd6 kb (l.drop ks.length) S.bx,H⟩)
   (k.ret (l.headD undef) H)
 |.cond c x y,α,fr,S,k=>sV (ev C.P.globals.size fr c) fun v=>zaa v fun t=>br t (exec C rs x α fr S k) (exec C rs y α fr S k)
 |.block id c,α,fr,S,k=>exec C rs c α fr S { k with exit:=fun j fr S=>zav j id (k.norm fr S) (k.exit j fr S) }
 |.loop c,_,fr,S,k=>match C.O.loop C.f (rid c) with
  |(ks,kb)=>znx fr ks fun vs=>zlc S kb fun bs=>
   zau (zat (fun l H=>exec C rs c Outc (zfb (wr c []) ks l fr 0) ⟨zj1 kb (l.drop ks.length) S.bx,H⟩ (Kout ks kb)) (vs++bs) S.hp) fun c' l H=>zaC c' none
   (fun id=>k.exit id (zfb (wr c []) ks l fr 0) ⟨zd6 kb (l.drop ks.length) S.bx,H⟩)
   (k.ret (l.headD undef) H)
 |.exit id,_,fr,S,k=>k.exit id fr S
 |.ret,_,fr,S,k=>resC C.P fr S rs fun vs=>k.ret (ziq C (resV vs)) S.hp
 |_,_,_,_,_=>none
def Kfun(C:Ctx)(rs:List ResultVar):K (Value×Hp):=
 { norm:=fun fr S=>resC C.P fr S rs fun vs=>some (ziq C (resV vs),S.hp),exit:=fun _ _ _=>none,ret:=fun v H=>some (v,H) }
section
variable {α:Type}
def zg6(x:Option (Value×Hp))(k:Value→Hp→Option α):Option α:=
 match x with
 |some (v,H)=>k v H
 |none=>none
def zpF:Code→Option (Oper×Operand)
 |.region _ ops false=>match ops.toList with
  |[o1,o2]=>match o1.guard,o2.guard,o2.dst,o2.op with
   |none,none,none,.defer c=>match c.callee,c.args.toList with
    |.value fo,[]=>some (o1,fo)
    |_,_=>none
   |_,_,_,_=>none
  |_=>none
 |_=>none
def zoX:Code→Option (Option Tmp×Code)
 |.seq (.region _ ops false) b=>match ops.toList with
  |[o]=>match o.guard,o.op with
   |none,.call c=>match c.callee,c.args.toList with
    |.builtin .recover,[]=>some (o.dst,b)
    |_,_=>none
   |_,_=>none
  |_=>none
 |_=>none
noncomputable def zg1(P:Program)(O:Orc)(h:zag)(g:FuncId)(args:List Value)(x:Value)(H:Hp)(k:Hp→Option α):Option α:=
 match P.funcs[g]? with
 |none=>none
 |some fn=>match fn.name == "runtime.NumGoroutine",O.pan g,fn.body with
  |false,false,some c=>match zoX c with
   |some (d,b)=>zg6 (exec ⟨P,O,h,g⟩ fn.results.toList b _ (putS (args.map .val++List.replicate (fn.ntmps-args.length) .unk) d (.val x)) ⟨fun _=>none,H⟩ (Kfun ⟨P,O,h,g⟩ fn.results.toList)) fun _ H=>k H
   |none=>none
  |_,_,_=>none
def zp4:List ResultVar→List Value→Option (List Value)
 |[],[]=>some []
 |.tmp _::rs,v::vs=>match zp4 rs vs with
  |some l=>some (v::l)
  |none=>none
 |.cell _ _::rs,_::vs=>zp4 rs vs
 |_,_=>none
def zk2(rs:List ResultVar)(u:Value)(k:List Value→Option α):Option α:=
 match rs with
 |[_]=>k [u]
 |_=>match u with
  |.tuple ⟨vs⟩=>k vs
  |_=>none
def zmB(rs:List ResultVar)(vs:List Value)(k:List Value→Option α):Option α:=
 match zp4 rs vs with
 |some l=>k l
 |none=>none
def pTail(x:Value)(k:Value→List Value→Option α):Option α:=
 match x with
 |.tuple ⟨x::tv⟩=>k x tv
 |_=>none
def zhw(w:List Nat):List ResultVar→Bool
 |[]=>true
 |.tmp _::r=>zhw w r
 |.cell t _::r=>!(w.elem t)&&zhw w r
def endL(P:Program)(fr:Fr)(H:Hp):List ResultVar→List Value→(List Value→Option α)→Option α
 |[],[],k=>k []
 |.tmp _::rs,v::tv,k=>endL P fr H rs tv fun vs=>k (v::vs)
 |.cell t T::rs,tv,k=>tyC P T fun n agg=>sV (getS fr t) fun p=>zal n agg H p fun v=>endL P fr H rs tv fun vs=>k (v::vs)
 |_,_,_=>none
def pClos(fv:Value)(k:FuncId→List Value→Option α):Option α:=
 match fv with
 |.func (.func g) ⟨[]⟩ ⟨cs⟩=>k g cs
 |_=>none
def retT(v:Value)(H:Hp):Option (Value×Hp):=zfj v (fun u=>some (W1 u,H)) fun _=>none
end
noncomputable def zhW(C:Ctx)(rs:List ResultVar)(b:Code)(fr:Fr)(S:St)(fo:Operand):Option (Value×Hp):=
 match zhw (wr b []) rs with
 |false=>none
 |true=>sV (ev C.P.globals.size fr fo) fun fv=>pClos fv fun g cs=>
  zg6 (exec C rs b (Value×Hp) fr S (Kfun C rs)) fun v H=>zfj v
   (fun u=>zk2 rs u fun vs=>zmB rs vs fun tv=>zg1 C.P C.O C.h g cs .nilIface H fun H'=>endL C.P fr H' rs tv fun vs=>some (W1 (resV vs),H'))
   (fun x=>pTail x fun x tv=>zg1 C.P C.O C.h g cs x H fun H'=>endL C.P fr H' rs tv fun vs=>some (W1 (resV vs),H'))
noncomputable def zm3(C:Ctx)(rs:List ResultVar):Code→Fr→St→Option (Value×Hp)
 |.seq a b,fr,S=>match zpF a with
  |some (o1,fo)=>opC C fr S o1 fun s S'=>zhW C rs b (putS fr o1.dst s) S' fo
  |none=>match C.O.join C.f (rid b) with
   |none=>exec C rs a (Value×Hp) fr S { norm:=fun fr S=>zm3 C rs b fr S,exit:=fun _ _ _=>none,ret:=retT }
   |some (ks,kb)=>zau (exec C rs a Outc fr ⟨roB kb S.bx,S.hp⟩ (Kout ks kb)) fun c l H=>zaC c
    (zm3 C rs b (zfb (wr a []) ks l fr 0) ⟨zd6 kb (l.drop ks.length) S.bx,H⟩)
    (fun _=>none)
    (retT (l.headD undef) H)
 |_,_,_=>none
noncomputable def zqh(C:Ctx)(rs:List ResultVar)(c:Code)(fr:Fr)(S:St):Option (Value×Hp):=
 match C.O.dfr C.f with
 |false=>exec C rs c _ fr S (Kfun C rs)
 |true=>match C.O.pan C.f with
  |true=>zm3 C rs c fr S
  |false=>none
noncomputable def zh5(P:Program)(O:Orc)(ext:FuncId→Option (List Value→Hp→Option (Value×Hp)))(h:zag):zag:=fun f args H=>
 match P.funcs[f]? with
 |none=>none
 |some fn=>match fn.name == "runtime.NumGoroutine" with
  |true=>none
  |false=>match fn.body with
   |none=>match O.xt f with
    |some e=>(match e args with
     |some v=>some (v,H)
     |none=>none)
    |none=>none
   |some c=>match ext f with
    |some e=>e args H
    |none=>zqh ⟨P,O,h,f⟩ fn.results.toList c (args.map .val++List.replicate (fn.ntmps-args.length) .unk) ⟨fun _=>none,H⟩
noncomputable def runN(P:Program)(O:Orc)(ext:FuncId→Option (List Value→Hp→Option (Value×Hp))):Nat→zag
 |0=>fun _ _ _=>none
 |n+1=>zh5 P O ext (runN P O ext n)
open Classical in
noncomputable def run(P:Program)(O:Orc)(ext:FuncId→Option (List Value→Hp→Option (Value×Hp))):zag:=fun f args H=>
 if h:∃r n,runN P O ext n f args H=some r then some h.choose else none
end Go.AM
namespace Go.AM
noncomputable def zeP(P:Program)(O:Orc)(h:zag)(f:FuncId)(fn:Func)(args:List Value)(H:Hp):Option (Value×Hp):=
 zqh ⟨P,O,h,f⟩ fn.results.toList (fn.body.getD .skip) (args.map .val++List.replicate (fn.ntmps-args.length) .unk) ⟨fun _=>none,H⟩
def look{β:Type}(d:β):List (Nat×β)→Nat→β
 |[],_=>d
 |(i,b)::r,j=>match Nat.beq i j with
  |true=>b
  |false=>look d r j
def mkOrc(l:List (Nat×List Nat))(j:List (Nat×List (Nat×Option (List Nat×List Nat))))(p:List (Nat×List (Nat×List Nat×List Nat))):Orc:=
 { loc:=look [] l,join:=fun f=>look none (look [] j f),loop:=fun f=>look ([],[]) (look [] p f) }
end Go.AM
namespace Go.AM
open Go
section
variable {α γ:Type}{K:γ→Option α}
theorem zaq{s:Slot}{f:Value→Option α}{g:Value→Option γ}(h:∀v,f v=(g v).bind K):sV s f=(sV s g).bind K:=by cases s<;>first|exact h _|rfl
theorem zbo{G:Nat}{fr:Fr}:∀(xs:List Operand) {f:List Value→Option α} {g:List Value→Option γ},(∀v,f v=(g v).bind K)→evs G fr xs f=(evs G fr xs g).bind K
 |[],f,g,h=>h []
 |x::xs,f,g,h=>zaq fun v=>zbo xs fun vs=>h (v::vs)
theorem zee{G:Nat}{fr:Fr}{x:Option Operand}{f:Option Value→Option α}{g:Option Value→Option γ}(h:∀v,f v=(g v).bind K):optV G fr x f=(optV G fr x g).bind K:=by
 cases x with
 |none=>exact h _
 |some x=>exact zaq fun v=>h _
theorem zfk{v:Value}{f:Bool→Option α}{g:Bool→Option γ}(h:∀v,f v=(g v).bind K):zaa v f=(zaa v g).bind K:=by cases v<;>first|exact h _|rfl
theorem ziT{n:Nat}{a:Bool}{H:Hp}{p:Value}{f:Value→Option α}{g:Value→Option γ}(h:∀v,f v=(g v).bind K):zal n a H p f=(zal n a H p g).bind K:=by unfold zal;cases (H.rdP p n a)<;>first|exact h _|rfl
theorem ziZ{n:Nat}{a:Bool}{cs:List Value}{o:Nat}{f:Value→Option α}{g:Value→Option γ}(h:∀v,f v=(g v).bind K):zai n a cs o f=(zai n a cs o g).bind K:=by unfold zai;cases (zct cs o n a)<;>first|exact h _|rfl
theorem zkk{P:Program}{t:TypeId}{l:List (Nat×Value)}{f:Value→Option α}{g:Value→Option γ}(h:∀v,f v=(g v).bind K):zaB P t l f=(zaB P t l g).bind K:=by unfold zaB;cases (zg5 P t l)<;>first|exact h _|rfl
theorem ziQ{x:Value}{lo hi:Option Value}{f:Value→Option α}{g:Value→Option γ}(h:∀v,f v=(g v).bind K):za5 x lo hi f=(za5 x lo hi g).bind K:=by unfold za5;cases (zgx x lo hi)<;>first|exact h _|rfl
theorem zki{n:Nat}{x:Value}{lo hi:Option Value}{f:Value→Option α}{g:Value→Option γ}(h:∀v,f v=(g v).bind K):zdw n x lo hi f=(zdw n x lo hi g).bind K:=by unfold zdw;cases (zhB n x lo hi)<;>first|exact h _|rfl
theorem zgg{n m:Nat}{x:Value}{lo hi:Option Value}{H:Hp}{f:Value→Option α}{g:Value→Option γ}(h:∀v,f v=(g v).bind K):zck n m x lo hi H f=(zck n m x lo hi H g).bind K:=by unfold zck;cases (ziv n m x lo hi H)<;>first|exact h _|rfl
theorem zo9{n:Nat}{x i:Value}{f:Value→Option α}{g:Value→Option γ}(h:∀v,f v=(g v).bind K):pIdx n x i f=(pIdx n x i g).bind K:=by unfold pIdx;cases (idxV n x i)<;>first|exact h _|rfl
theorem zhG{t:Value}{i:Nat}{f:Value→Option α}{g:Value→Option γ}(h:∀v,f v=(g v).bind K):zaf t i f=(zaf t i g).bind K:=by unfold zaf;cases (zlO t i)<;>first|exact h _|rfl
theorem zpa{P:Program}{op:BinOp}{T:TypeId}{x y:Value}{f:Value→Option α}{g:Value→Option γ}(h:∀v,f v=(g v).bind K):pBin P op T x y f=(pBin P op T x y g).bind K:=by unfold pBin;cases (binV P op T x y)<;>first|exact h _|rfl
theorem pUn_nat{op:UnOp}{x:Value}{f:Value→Option α}{g:Value→Option γ}(h:∀v,f v=(g v).bind K):pUn op x f=(pUn op x g).bind K:=by unfold pUn;cases (unV op x)<;>first|exact h _|rfl
theorem zhH{kd:IntKind}{x:Value}{f:Value→Option α}{g:Value→Option γ}(h:∀v,f v=(g v).bind K):zaj kd x f=(zaj kd x g).bind K:=by unfold zaj;cases (zlR kd x)<;>first|exact h _|rfl
theorem zie{q:LenK}{x:Value}{H:Hp}{f:Value→Option α}{g:Value→Option γ}(h:∀v,f v=(g v).bind K):pLen q x H f=(pLen q x H g).bind K:=by unfold pLen;cases (lenV q x H)<;>first|exact h _|rfl
theorem zp5{x:Value}{H:Hp}{f:Value→Option α}{g:Value→Option γ}(h:∀v,f v=(g v).bind K):zed x H f=(zed x H g).bind K:=by unfold zed;cases (zl3 x H)<;>first|exact h _|rfl
theorem zhp{n:Nat}{H:Hp}{p v:Value}{f:Hp→Option α}{g:Hp→Option γ}(h:∀v,f v=(g v).bind K):zao n H p v f=(zao n H p v g).bind K:=by unfold zao;cases (H.wr p n v)<;>first|exact h _|rfl
theorem zfE{P:Program}{kt:TypeId}{m key v:Value}{H:Hp}{f:Hp→Option α}{g:Hp→Option γ}(h:∀v,f v=(g v).bind K):pUpd P kt m key v H f=(pUpd P kt m key v H g).bind K:=by unfold pUpd;cases (updV P kt m key v H)<;>first|exact h _|rfl
theorem zlu{P:Program}{kt:TypeId}{m key:Value}{H:Hp}{f:Hp→Option α}{g:Hp→Option γ}(h:∀v,f v=(g v).bind K):pDel P kt m key H f=(pDel P kt m key H g).bind K:=by unfold pDel;cases (delV P kt m key H)<;>first|exact h _|rfl
theorem zgf{n:Nat}{cs:List Value}{o:Nat}{v:Value}{f:List Value→Option α}{g:List Value→Option γ}(h:∀v,f v=(g v).bind K):zaV n cs o v f=(zaV n cs o v g).bind K:=by unfold zaV;cases (za8 n cs o v)<;>first|exact h _|rfl
theorem zdX{n:Nat}{zs:List Value}{len:Nat}{l:List (Nat×Value)}{H:Hp}{f:Value→Hp→Option α}{g:Value→Hp→Option γ}(h:∀v u,f v u=(g v u).bind K):zam n zs len l H f=(zam n zs len l H g).bind K:=by
 unfold zam;rcases (zb0 n zs len l H) with _|⟨v,u⟩
 ·rfl
 ·exact h _ _
theorem zes{n m:Nat}{zs:List Value}{l c:Value}{H:Hp}{f:Value→Hp→Option α}{g:Value→Hp→Option γ}(h:∀v u,f v u=(g v u).bind K):zaZ n m zs l c H f=(zaZ n m zs l c H g).bind K:=by
 unfold zaZ;rcases (zcn n m zs l c H) with _|⟨v,u⟩
 ·rfl
 ·exact h _ _
theorem znT{n m:Nat}{s x:Value}{H:Hp}{f:Value→Hp→Option α}{g:Value→Hp→Option γ}(h:∀v u,f v u=(g v u).bind K):zaJ n m s x H f=(zaJ n m s x H g).bind K:=by
 unfold zaJ;rcases (zbE n m s x H) with _|⟨v,u⟩
 ·rfl
 ·exact h _ _
theorem zmF{e:TypeId}{n m:Nat}{s x:Value}{H:Hp}{f:Value→Hp→Option α}{g:Value→Hp→Option γ}(h:∀v u,f v u=(g v u).bind K):zbN e n m s x H f=(zbN e n m s x H g).bind K:=by
 unfold zbN;rcases (zbE n m s x H) with _|⟨v,u⟩
 ·rfl
 ·exact h _ _
theorem zfl{e:Option TypeId}{n m:Nat}{s x:Value}{H:Hp}{f:Value→Hp→Option α}{g:Value→Hp→Option γ}(h:∀v u,f v u=(g v u).bind K):zgL e n m s x H f=(zgL e n m s x H g).bind K:=by
 cases e with
 |none=>exact znT h
 |some e=>exact zmF h
theorem ziY{n:Nat}{s x:Value}{H:Hp}{f:Value→Hp→Option α}{g:Value→Hp→Option γ}(h:∀v u,f v u=(g v u).bind K):pCopy n s x H f=(pCopy n s x H g).bind K:=by
 unfold pCopy;rcases (copyV n s x H) with _|⟨v,u⟩
 ·rfl
 ·exact h _ _
theorem zcY{P:Program}{T:TypeId}{f:Nat→Bool→Option α}{g:Nat→Bool→Option γ}(h:∀v u,f v u=(g v u).bind K):tyC P T f=(tyC P T g).bind K:=by
 unfold tyC;cases P.info? T with
 |none=>rfl
 |some i=>cases P.underlying T with
  |none=>rfl
  |some d=>exact h _ _
theorem zio{P:Program}{T:TypeId}{f:Value→Option α}{g:Value→Option γ}(h:∀v,f v=(g v).bind K):zf2 P T f=(zf2 P T g).bind K:=by
 unfold zf2;rcases P.info? T with _|i
 ·rfl
 ·dsimp only;rcases i.zero with _|z
  ·rfl
  ·dsimp only;cases zdt z with
   |true=>exact h _
   |false=>rfl
theorem zby {P : Program} {T : TypeId} {f : Nat → Nat → List Value → Option α} {g : Nat → Nat → List Value → Option γ} (h : ∀ v u l, f v u l = (g v u l).bind K) : zgy P T f = (zgy P T g).bind K := by
  unfold zgy; rcases P.underlying T with _ | d
  · rfl
  · cases d <;> first | rfl | skip
    rename_i e
    dsimp only
    cases P.info? e with
    | none => rfl
    | some i => exact zio fun z => by split; · rfl
                                      · exact h _ _ _
theorem zbZ{P:Program}{T:TypeId}{f:TypeId→Value→Option α}{g:TypeId→Value→Option γ}(h:∀v u,f v u=(g v u).bind K):mapC P T f=(mapC P T g).bind K:=by
 unfold mapC;rcases P.underlying T with _|d
 ·rfl
 ·cases d<;>first|rfl|skip;rename_i kt et;dsimp only;cases keyOk P 20 kt with
  |true=>exact zio fun z=>h _ _
  |false=>rfl
theorem ziX{v:Value}{f:Option α}{g:Option γ}(h:f=g.bind K):zgh v f=(zgh v g).bind K:=by unfold zgh;split<;>first|exact h|rfl
theorem zo8{v:Value}{f:Option α}{g:Option γ}(h:f=g.bind K):pNil v f=(pNil v g).bind K:=by unfold pNil;split<;>first|exact h|rfl
theorem zmD{n:Nat}{v:Value}{f:Value→Option α}{g:Value→Option γ}(h:∀v,f v=(g v).bind K):zas n v f=(zas n v g).bind K:=by unfold zas;split<;>first|exact h _|rfl
theorem zmA{v:Value}{f:Value→Option α}{g:Value→Option γ}(h:∀v,f v=(g v).bind K):znR v f=(znR v g).bind K:=by unfold znR;split<;>first|exact h _|rfl
theorem zo7{v:Value}{f:Value→Option α}{g:Value→Option γ}(h:∀v,f v=(g v).bind K):pStr v f=(pStr v g).bind K:=by unfold pStr;split<;>first|exact h _|rfl
theorem ziP{v:Value}{f:ByteArray→Option α}{g:ByteArray→Option γ}(h:∀v,f v=(g v).bind K):zjX v f=(zjX v g).bind K:=by unfold zjX;split<;>first|exact h _|rfl
theorem ziR{a:Bool}{n o:Nat}{v:Value}{f:Value→Option α}{g:Value→Option γ}(h:∀v,f v=(g v).bind K):znS a n o v f=(znS a n o v g).bind K:=by
 unfold znS;split
 ·rename_i cs;cases partC a n cs.toList o<;>first|exact h _|rfl
 ·rfl
theorem ziW{n o:Nat}{v i:Value}{f:Value→Option α}{g:Value→Option γ}(h:∀v,f v=(g v).bind K):zcu n o v i f=(zcu n o v i g).bind K:=by
 unfold zcu;split
 ·split;· exact h _
  ·rfl
 ·rfl
theorem ziU{n:Nat}{i:Value}{f:Nat→Option α}{g:Nat→Option γ}(h:∀v,f v=(g v).bind K):ziV n i f=(ziV n i g).bind K:=by
 unfold ziV;split
 ·split;· exact h _
  ·rfl
 ·rfl
theorem zkl{v i:Value}{f:Value→Option α}{g:Value→Option γ}(h:∀v,f v=(g v).bind K):zaY v i f=(zaY v i g).bind K:=by
 unfold zaY;split
 ·rename_i s kd j;cases zqw s j<;>first|exact h _|rfl
 ·rfl
theorem zkm{len n:Nat}{a:Bool}{v i:Value}{f:Value→Option α}{g:Value→Option γ}(h:∀v,f v=(g v).bind K):zcx len a n v i f=(zcx len a n v i g).bind K:=by
 unfold zcx;split
 ·split;· exact ziR h
  ·rfl
 ·rfl
theorem zmE{P:Program}{kt:TypeId}{z m key:Value}{ok:Bool}{H:Hp}{f:Value→Option α}{g:Value→Option γ}(h:∀v,f v=(g v).bind K):zbj P kt z m key ok H f=(zbj P kt z m key ok H g).bind K:=by
 unfold zbj;generalize lookV P kt z m key H=q;rcases q with _|⟨v,b⟩
 ·rfl
 ·cases ok<;>exact h _
theorem zmz{x:Value}{H:Hp}{f:Value→Hp→Option α}{g:Value→Hp→Option γ}(h:∀v u,f v u=(g v u).bind K):zdH x H f=(zdH x H g).bind K:=by
 unfold zdH;split
 ·split;· exact h _ _
  ·rfl
 ·rfl
theorem br_nat{b:Bool}{f f':Option α}{g g':Option γ}(h:f=g.bind K)(h':f'=g'.bind K):br b f f'=(br b g g').bind K:=by cases b<;>assumption
theorem znU{b:Bool}{T:TypeId}{cs:List Value}{H:Hp}{f:Value→Hp→Option α}{g:Value→Hp→Option γ}(h:∀v u,f v u=(g v u).bind K):zlw b T cs H f=(zlw b T cs H g).bind K:=by cases b<;>exact h _ _
theorem zks{C:Ctx}{S:St}{d:Option Nat}{T:TypeId}{cs:List Value}{f:Slot→St→Option α}{g:Slot→St→Option γ}(h:∀v u,f v u=(g v u).bind K):zdf C S d T cs f=(zdf C S d T cs g).bind K:=by
 unfold zdf;split
 ·split
  ·split
   ·rfl
   ·exact h _ _
  ·exact znU fun _ _=>h _ _
 ·rfl
theorem ziS{b:Bool}{l:List Value}{f:Value→Option α}{g:Value→Option γ}(h:∀v,f v=(g v).bind K):pMM b l f=(pMM b l g).bind K:=by
 unfold pMM;split
 ·rfl
 ·rename_i x r;cases mmL b x r<;>first|exact h _|rfl
theorem zp7{h':zag}{g':FuncId}{vs:List Value}{H:Hp}{f:Value→Hp→Option α}{g:Value→Hp→Option γ}(h:∀v u,f v u=(g v u).bind K):zad h' g' vs H f=(zad h' g' vs H g).bind K:=by
 unfold zad;rcases h' g' vs H with _|⟨v,u⟩
 ·rfl
 ·exact h _ _
theorem pWrap_nat{v:Value}{f fp:Value→Option α}{g gp:Value→Option γ}(h:∀v,f v=(g v).bind K)(hp:∀v,fp v=(gp v).bind K):zfj v f fp=(zfj v g gp).bind K:=by
 unfold zfj;split
 ·exact h _
 ·exact hp _
 ·rfl
theorem zp6{h':zag}{g':FuncId}{vs:List Value}{H:Hp}{f:Value→Hp→Option α}{g:Value→Hp→Option γ}(h:∀v u,f v u=(g v u).bind K):zeH h' g' vs H f=(zeH h' g' vs H g).bind K:=by
 unfold zeH;rcases h' g' vs H with _|⟨v,u⟩
 ·rfl
 ·exact pWrap_nat (fun _=>h _ _) (fun _=>rfl)
theorem zgK{O:Orc}{h':zag}{fv:Value}{vs:List Value}{H:Hp}{f:Value→Hp→Option α}{g:Value→Hp→Option γ}(h:∀v u,f v u=(g v u).bind K):zdI O h' fv vs H f=(zdI O h' fv vs H g).bind K:=by
 unfold zdI;split
 ·split
  ·exact zp7 h
  ·exact zp6 h
 ·rfl
theorem zkj{P:Program}{op:BinOp}{T:TypeId}{x:Value}{f:Value→Option α}{g:Value→Option γ}(h:∀v,f v=(g v).bind K):zdW P op T x f=(zdW P op T x g).bind K:=by
 unfold zdW;split
 ·split<;>first|exact h _|rfl
 ·rfl
theorem zi0{P:Program}{T:TypeId}{x:Value}{f:Value→Option α}{g:Value→Option γ}(h:∀v,f v=(g v).bind K):zgi P T x f=(zgi P T x g).bind K:=by
 unfold zgi;split
 ·rfl
 ·split
  ·split
   ·exact h _
   ·rfl
  ·rfl
 ·rfl
theorem zkK{P:Program}{T:TypeId}{f:Option α}{g:Option γ}(h:f=g.bind K):zmU P T f=(zmU P T g).bind K:=by unfold zmU;split<;>first|exact h|rfl
end
section
variable {α:Type}
def opR(C:Ctx)(fr:Fr)(S:St)(o:Oper):Option (Slot×St):=opC C fr S o fun s S'=>some (s,S')
theorem zgq{γ:Type}{K:γ→Option α}{C:Ctx}{src dst:TypeId}{x:Value}{H:Hp}{f:Value→Option α}{g:Value→Option γ}{f2:Value→Hp→Option α}{g2:Value→Hp→Option γ}(h:∀v,f v=(g v).bind K)(h2:∀v u,f2 v u=(g2 v u).bind K) :
  (match C.P.underlying src,C.P.underlying dst with
   |some (.int _),some (.int kd)=>zaj kd x f
   |some .string,some .string=>pStr x f
   |some (.int _),some .string=>znR x f
   |some .string,some (.slice e)=>match C.P.underlying e with
    |some (.int .u8)=>zdH x H f2
    |_=>none
   |some (.slice e),some .string=>match C.P.underlying e with
    |some (.int .u8)=>zed x H f
    |_=>none
   |_,_=>none) =
  (match C.P.underlying src,C.P.underlying dst with
   |some (.int _),some (.int kd)=>zaj kd x g
   |some .string,some .string=>pStr x g
   |some (.int _),some .string=>znR x g
   |some .string,some (.slice e)=>match C.P.underlying e with
    |some (.int .u8)=>zdH x H g2
    |_=>none
   |some (.slice e),some .string=>match C.P.underlying e with
    |some (.int .u8)=>zed x H g
    |_=>none
   |_,_=>none).bind K:=by
 rcases C.P.underlying src with _|d
 ·rfl
 ·rcases C.P.underlying dst with _|d'
  ·cases d<;>rfl
  ·cases d<;>cases d'<;>first|rfl|exact zhH h|exact zo7 h|exact zmA h|skip
   ·rename_i e;dsimp only;rcases C.P.underlying e with _|d
    ·rfl
    ·cases d<;>first|rfl|skip;rename_i kd;cases kd<;>first|rfl|exact zmz h2
   ·rename_i e;dsimp only;rcases C.P.underlying e with _|d
    ·rfl
    ·cases d<;>first|rfl|skip;rename_i kd;cases kd<;>first|rfl|exact zp5 h
theorem znX(C:Ctx)(fr:Fr)(S:St)(o:Oper)(k:Slot→St→Option α):opC C fr S o k=(opR C fr S o).bind fun p=>k p.1 p.2:=by
 unfold opR opC;dsimp only;cases o.op<;>(try dsimp only)<;>first|rfl|skip
 case pick c a b=>
  refine zaq fun c=>zfk fun t=>?_;cases ev C.P.globals.size fr a<;>cases ev C.P.globals.size fr b<;>cases t<;>rfl
 case alloc T=>
  refine zio fun z=>?_;cases (zab z).all one with
  |true=>exact zks fun _ _=>rfl
  |false=>rfl
 case box T x=>exact zaq fun v=>zks fun _ _=>rfl
 case build T p=>exact zbo _ fun v=>zkk fun _=>rfl
 case buildSlice T n p=>exact zbo _ fun v=>zby fun _ _ _=>zdX fun _ _=>rfl
 case insert T m key x=>exact zaq fun m=>zaq fun key=>zaq fun x=>zbZ fun _ _=>zfE fun _=>rfl
 case mapUpdate T m key x=>exact zaq fun m=>zaq fun key=>zaq fun x=>zbZ fun _ _=>zfE fun _=>rfl
 case load T a=>
  refine zcY fun n agg=>?_;cases ev C.P.globals.size fr a with
  |loc d off=>
   dsimp only;rcases S.bx d with _|b
   ·rfl
   ·cases b with
    |cells cs ro=>exact ziZ fun _=>rfl
    |_=>rfl
  |val p=>exact ziT fun _=>rfl
  |_=>rfl
 case store T a x=>
  refine zaq fun v=>zcY fun n agg=>?_;cases ev C.P.globals.size fr a with
  |loc d off=>
   dsimp only;rcases S.bx d with _|b
   ·rfl
   ·cases b with
    |cells cs ro=>cases ro<;>first|rfl|exact zgf fun _=>rfl
    |_=>rfl
  |val p=>exact zhp fun _=>rfl
  |_=>rfl
 case nilCheck x=>
  cases ev C.P.globals.size fr x with
  |val p=>exact zo8 rfl
  |_=>rfl
 case binOp op T x y T'=>
  refine zaq fun u=>zaq fun v=>?_;cases zpp y with
  |true=>exact zkj fun _=>rfl
  |false=>exact zpa fun _=>rfl
 case typeAssert x T' T ok=>
  refine zaq fun u=>zi0 fun v=>?_;cases ok<;>rfl
 case unOp op T x=>exact zaq fun x=>pUn_nat fun _=>rfl
 case convert src dst x=>exact zaq fun x=>zgq (fun _=>rfl) (fun _ _=>rfl)
 case makeFunc fn first captured=>exact zbo _ fun fs=>zbo _ fun cs=>rfl
 case makeMap T x=>
  cases x with
  |none=>rfl
  |some x=>exact zaq fun x=>zbZ fun _ _=>ziX rfl
 case makeSlice T l c=>exact zaq fun l=>zaq fun c=>zby fun _ _ _=>zes fun _ _=>rfl
 case slice T x lo hi mx=>
  cases mx with
  |some m=>rfl
  |none=>
   dsimp only;refine zaq fun x=>zee fun lo=>zee fun hi=>?_;rcases C.P.underlying T with _|d
   ·rfl
   ·cases d<;>first|rfl|exact ziQ fun _=>rfl|skip
    all_goals (try dsimp only)
    all_goals first
     |(rename_i e;rcases C.P.info? e with _|i<;>first|rfl|exact zki fun _=>rfl)
     |(rename_i len e
       rcases C.P.info? e with _|i<;>first|rfl|exact zgg fun _=>rfl)
 case fieldAddr T x f=>
  rcases C.P.underlying T with _|d
  ·rfl
  ·cases d<;>first|rfl|skip;rename_i fs;dsimp only;rcases fs.toList[f]? with _|fd
   ·rfl
   ·dsimp only;rcases C.P.info? fd.type with _|i
    ·rfl
    ·dsimp only;cases Nat.beq i.size 0
     ·dsimp only;cases ev C.P.globals.size fr x with
      |val p=>exact zmD fun _=>rfl
      |_=>rfl
     ·rfl
 case field T x f=>
  refine zaq fun x=>?_;rcases C.P.underlying T with _|d
  ·rfl
  ·cases d<;>first|rfl|skip;rename_i fs;dsimp only;rcases fs.toList[f]? with _|fd
   ·rfl
   ·exact zcY fun n agg=>ziR fun _=>rfl
 case indexAddr T x i=>
  refine zaq fun i=>?_;rcases C.P.underlying T with _|d
  ·rfl
  ·cases d<;>first|rfl|skip
   ·rename_i e;dsimp only;rcases C.P.info? e with _|ti
    ·rfl
    ·exact zaq fun x=>zo9 fun _=>rfl
   ·rename_i len e;dsimp only;rcases C.P.info? e with _|ti
    ·rfl
    ·dsimp only;cases ev C.P.globals.size fr x with
     |loc d off=>exact ziU fun _=>rfl
     |val p=>exact ziW fun _=>rfl
     |_=>rfl
 case index T x i=>
  refine zaq fun x=>zaq fun i=>?_;rcases C.P.underlying T with _|d
  ·rfl
  ·cases d<;>first|rfl|exact zkl fun _=>rfl|exact zcY fun _ _=>zkm fun _=>rfl
 case lookup T m key ok=>exact zaq fun m=>zaq fun key=>zbZ fun kt z=>zmE fun _=>rfl
 case range T x=>
  refine zaq fun x=>?_;rcases C.P.underlying T with _|d
  ·rfl
  ·cases d<;>first|rfl|skip;rcases o.dst with _|d
   ·rfl
   ·dsimp only;rcases S.bx d with _|b
    ·exact ziP fun _=>rfl
    ·rfl
 case next it b=>
  cases b with
  |false=>rfl
  |true=>
   dsimp only;cases ev C.P.globals.size fr it with
   |loc d off=>
    cases off with
    |zero=>
     show (match S.bx d with
      |some (.iter s pos)=>br (Nat.blt pos s.size) (k (Slot.val (.tuple #[.bool true,.int .i64 pos,.int .i32 (Utf8.decode s pos).1])) (S.setB d (some (.iter s (pos+(Utf8.decode s pos).2))))) (k (Slot.val (.tuple #[.bool false])) S)
      |_=>none)=Option.bind (match S.bx d with
      |some (.iter s pos)=>br (Nat.blt pos s.size) (some ((Slot.val (.tuple #[.bool true,.int .i64 pos,.int .i32 (Utf8.decode s pos).1])),(S.setB d (some (.iter s (pos+(Utf8.decode s pos).2)))))) (some ((Slot.val (.tuple #[.bool false])),S))
      |_=>none) (fun p=>k p.1 p.2)
     rcases S.bx d with _|b
     ·rfl
     ·cases b with
      |iter s pos=>exact br_nat rfl rfl
      |_=>rfl
    |succ n=>rfl
   |_=>rfl
 case extract t i=>exact zaq fun t=>zhG fun _=>rfl
 case makeInterface T x=>exact zaq fun t=>zkK rfl
 case call c=>
  rcases c.callee with fo|⟨rv,m⟩|b
  ·exact zaq fun fv=>zbo _ fun vs=>zgK fun _ _=>rfl
  ·rfl
  ·refine zbo _ fun vs=>?_;generalize c.argTypes.toList=ts;cases b<;>(try dsimp only)<;>first|rfl|exact ziS fun _=>rfl|skip
   all_goals
    rcases vs with _|⟨x,_|⟨y,_|⟨z,vs⟩⟩⟩<;>rcases ts with _|⟨t,_|⟨u,_|⟨t3,ts⟩⟩⟩<;>(try dsimp only)<;>first|rfl|skip
   ·refine zby fun sz bytes _=>?_;rcases C.P.underlying u with _|d
    ·rfl
    ·cases d<;>first|rfl|exact zfl fun _ _=>rfl
   ·exact zby fun sz _ _=>ziY fun _ _=>rfl
   ·exact zbZ fun kt _=>zlu fun _=>rfl
   ·rcases C.P.underlying t with _|d
    ·rfl
    ·dsimp only;rcases lenK d with _|q
     ·rfl
     ·exact zie fun _=>rfl
end
section
variable {α:Type}
theorem zmI (C : Ctx) (fr : Fr) (S S2 : St) (o : Oper) (k : Slot → St → Option α) (hp : zdh C.P o.op = .pure ∨ (zdh C.P o.op = .read ∧ S2 = S)) :
    opC C fr S o k = (opC C fr S2 o (fun s _ => some s)).bind fun s => k s S := by
  unfold opC
  dsimp only
  generalize hop : o.op = op at hp ⊢
  have ne : ∀ {x : OK}, x = .eff → ¬ (x = .pure ∨ (x = .read ∧ S2 = S)) := by rintro x rfl (h | ⟨h, _⟩) <;> cases h
  cases op <;> (try dsimp only) <;> first | rfl | exact absurd hp (ne rfl) | skip
  case pick c a b =>
    refine zaq fun c => zfk fun t => ?_
    cases ev C.P.globals.size fr a <;> cases ev C.P.globals.size fr b <;> cases t <;> rfl
  case build T p => exact zbo _ fun v => zkk fun _ => rfl
  case load T a =>
    have hS : S2 = S := by rcases hp with h | h; · cases h
                           · exact h.2
    subst hS
    refine zcY fun n agg => ?_
    cases ev C.P.globals.size fr a with
    | loc d off =>
      dsimp only
      rcases S2.bx d with _ | b
      · rfl
      · cases b with
        | cells cs ro => exact ziZ fun _ => rfl
        | _ => rfl
    | val p => exact ziT fun _ => rfl
    | _ => rfl
  case nilCheck x =>
    cases ev C.P.globals.size fr x with
    | val p => exact zo8 rfl
    | _ => rfl
  case binOp op T x y T' =>
    refine zaq fun u => zaq fun v => ?_
    cases zpp y with
    | true => exact zkj fun _ => rfl
    | false => exact zpa fun _ => rfl
  case typeAssert x T' T ok =>
    refine zaq fun u => zi0 fun v => ?_
    cases ok <;> rfl
  case unOp op T x => exact zaq fun x => pUn_nat fun _ => rfl
  case convert src dst x =>
    refine zaq fun x => ?_
    unfold zdh at hp
    dsimp only at hp
    rcases h1 : C.P.underlying src with _ | d
    · rfl
    · rcases h2 : C.P.underlying dst with _ | d'
      · cases d <;> rfl
      · rw [h1, h2] at hp
        cases d <;> cases d' <;> first | rfl | exact absurd hp (ne rfl) | exact zhH (fun _ => rfl) | exact zo7 (fun _ => rfl) | exact zmA (fun _ => rfl)
  case makeFunc fn first captured => exact zbo _ fun fs => zbo _ fun cs => rfl
  case slice T x lo hi mx =>
    cases mx with
    | some m => rfl
    | none =>
      dsimp only
      refine zaq fun x => zee fun lo => zee fun hi => ?_
      unfold zdh at hp
      dsimp only at hp
      rcases h1 : C.P.underlying T with _ | d
      · rfl
      · rw [h1] at hp
        cases d <;> first | rfl | exact absurd hp (ne rfl) | exact ziQ fun _ => rfl | skip
        rename_i e
        dsimp only
        rcases C.P.info? e with _ | i
        · rfl
        · exact zki fun _ => rfl
  case fieldAddr T x f =>
    rcases C.P.underlying T with _ | d
    · rfl
    · cases d <;> first | rfl | skip
      rename_i fs
      dsimp only
      rcases fs.toList[f]? with _ | fd
      · rfl
      · dsimp only
        rcases C.P.info? fd.type with _ | i
        · rfl
        · dsimp only
          cases Nat.beq i.size 0
          · dsimp only
            cases ev C.P.globals.size fr x with
            | val p => exact zmD fun _ => rfl
            | _ => rfl
          · rfl
  case field T x f =>
    refine zaq fun x => ?_
    rcases C.P.underlying T with _ | d
    · rfl
    · cases d <;> first | rfl | skip
      rename_i fs
      dsimp only
      rcases fs.toList[f]? with _ | fd
      · rfl
      · exact zcY fun n agg => ziR fun _ => rfl
  case indexAddr T x i =>
    refine zaq fun i => ?_
    rcases C.P.underlying T with _ | d
    · rfl
    · cases d <;> first | rfl | skip
      · rename_i e
        dsimp only
        rcases C.P.info? e with _ | ti
        · rfl
        · exact zaq fun x => zo9 fun _ => rfl
      · rename_i len e
        dsimp only
        rcases C.P.info? e with _ | ti
        · rfl
        · dsimp only
          cases ev C.P.globals.size fr x with
          | loc d off => exact ziU fun _ => rfl
          | val p => exact ziW fun _ => rfl
          | _ => rfl
  case index T x i =>
    refine zaq fun x => zaq fun i => ?_
    rcases C.P.underlying T with _ | d
    · rfl
    · cases d <;> first | rfl | exact zkl fun _ => rfl | exact zcY fun _ _ => zkm fun _ => rfl
  case lookup T m key ok =>
    have hS : S2 = S := by rcases hp with h | h; · cases h
                           · exact h.2
    subst hS
    exact zaq fun m => zaq fun key => zbZ fun kt z => zmE fun _ => rfl
  case extract t i => exact zaq fun t => zhG fun _ => rfl
  case makeInterface T x => exact zaq fun t => zkK rfl
  case call c =>
    obtain ⟨callee, args, ats⟩ := c
    rcases callee with fo | ⟨rv, m⟩ | b
    · exact absurd hp (ne rfl)
    · rfl
    · cases b <;> first | exact absurd hp (ne rfl) | skip
      · have hS : S2 = S := by rcases hp with h | h; · cases h
                               · exact h.2
        subst hS
        refine zbo _ fun vs => ?_
        generalize ats.toList = ts
        rcases vs with _ | ⟨x, _ | ⟨y, _ | ⟨z, vs⟩⟩⟩ <;> rcases ts with _ | ⟨t, _ | ⟨u, _ | ⟨t3, ts⟩⟩⟩ <;> (try dsimp only) <;> first | rfl | skip
        rcases C.P.underlying t with _ | d
        · rfl
        · dsimp only
          rcases lenK d with _ | q
          · rfl
          · exact zie fun _ => rfl
      · exact zbo _ fun vs => ziS fun _ => rfl
      · exact zbo _ fun vs => ziS fun _ => rfl
end
end Go.AM
namespace Go.AM
open List Go
structure BI where
 b:Nat
 s:Nat
 t:Nat
abbrev Bt:=Nat→Option BI
def Bt.le(β β':Bt):Prop:=∀i x,β i=some x→β' i=some x
theorem Bt.le_refl(β:Bt):β.le β:=fun _ _ h=>h
theorem Bt.le_trans{a b c:Bt}(h:a.le b)(k:b.le c):a.le c:=fun i x e=>k i x (h i x e)
inductive VRel(β:Bt):Value→Value→Prop
 |bool (b:Bool):VRel β (.bool b) (.bool b)
 |int (k:IntKind) (n:Int):VRel β (.int k n) (.int k n)
 |string (s:ByteArray):VRel β (.string s) (.string s)
 |pnil:VRel β (.pointer none) (.pointer none)
 |ptr (i o:Nat) (x:BI) (h:β i=some x):VRel β (.pointer (some ⟨i,o,none⟩)) (.pointer (some ⟨x.b,x.s+o,none⟩))
 |snil:VRel β (.slice none 0 0) (.slice none 0 0)
 |slice (i o z n c:Nat) (x:BI) (o' c':Nat) (h:β i=some x) (hn:n≤c) (hc:c≤c') (ht:o'+c'*z≤x.t) (ho:0<c→o'=x.s+o) :
   VRel β (.slice (some ⟨i,o,some z⟩) n c) (.slice (some ⟨x.b,o',none⟩) n c')
 |mnil:VRel β (.map none) (.map none)
 |map (i:Nat) (x:BI) (h:β i=some x):VRel β (.map (some i)) (.map (some x.b))
 |nilFunc:VRel β .nilFunc .nilFunc
 |nilIface:VRel β .nilIface .nilIface
 |iface (t:TypeId) (v v':Value) (h:VRel β v v'):VRel β (.iface t v) (.iface t v')
 |func (fn:Fn) (fs fs' cs cs':List Value) (hl:fs.length=fs'.length) (h:∀(k:Nat) v v',fs[k]?=some v→fs'[k]?=some v'→VRel β v v')
   (hl2:cs.length=cs'.length) (h2:∀(k:Nat) v v',cs[k]?=some v→cs'[k]?=some v'→VRel β v v'):VRel β (.func fn ⟨fs⟩ ⟨cs⟩) (.func fn ⟨fs'⟩ ⟨cs'⟩)
 |agg (cs cs':List Value) (hl:cs.length=cs'.length) (h:∀(k:Nat) v v',cs[k]?=some v→cs'[k]?=some v'→VRel β v v'):VRel β (.agg ⟨cs⟩) (.agg ⟨cs'⟩)
 |tuple (cs cs':List Value) (hl:cs.length=cs'.length) (h:∀(k:Nat) v v',cs[k]?=some v→cs'[k]?=some v'→VRel β v v'):VRel β (.tuple ⟨cs⟩) (.tuple ⟨cs'⟩)
def LRel(β:Bt)(l l':List Value):Prop:=l.length=l'.length∧∀(k:Nat) v v',l[k]?=some v→l'[k]?=some v'→VRel β v v'
theorem VRel.mono{β β':Bt}(hb:β.le β'){v v':Value}(h:VRel β v v'):VRel β' v v':=by
 induction h with
 |bool b=>exact .bool b
 |int k n=>exact .int k n
 |string s=>exact .string s
 |pnil=>exact .pnil
 |ptr i o x h=>exact .ptr i o x (hb _ _ h)
 |snil=>exact .snil
 |slice i o z n c x o' c' h hn hc ht ho=>exact .slice i o z n c x o' c' (hb _ _ h) hn hc ht ho
 |mnil=>exact .mnil
 |map i x h=>exact .map i x (hb _ _ h)
 |nilFunc=>exact .nilFunc
 |nilIface=>exact .nilIface
 |iface t v v' _ ih=>exact .iface t v v' ih
 |func fn fs fs' cs cs' hl _ hl2 _ ih ih2=>exact .func fn fs fs' cs cs' hl ih hl2 ih2
 |agg cs cs' hl _ ih=>exact .agg cs cs' hl ih
 |tuple cs cs' hl _ ih=>exact .tuple cs cs' hl ih
theorem LRel.mono{β β':Bt}(hb:β.le β'){l l':List Value}(h:LRel β l l'):LRel β' l l':=⟨h.1,fun k v v' a b=>(h.2 k v v' a b).mono hb⟩
theorem LRel.nil(β:Bt):LRel β [] []:=⟨rfl,by simp⟩
theorem LRel.cons{β:Bt}{v v':Value}{l l':List Value}(h:VRel β v v')(hl:LRel β l l'):LRel β (v::l) (v'::l'):=by
 refine⟨by simp[hl.1],fun k a b ha hb=>?_⟩;cases k with
 |zero=>simp at ha hb;subst ha;subst hb;exact h
 |succ k=>simp at ha hb;exact hl.2 k a b ha hb
theorem LRel.append{β:Bt}{a a' b b':List Value}(h:LRel β a a')(k:LRel β b b'):LRel β (a++b) (a'++b'):=by
 refine⟨by simp[h.1,k.1],fun i v v' hv hv'=>?_⟩;by_cases hi:i<a.length
 ·rw[List.getElem?_append_left hi]at hv;rw[List.getElem?_append_left (h.1▸hi)]at hv';exact h.2 i v v' hv hv'
 ·rw[List.getElem?_append_right (by omega)]at hv;rw[List.getElem?_append_right (by have:=h.1;omega),←h.1]at hv';exact k.2 _ v v' hv hv'
theorem LRel.take{β:Bt}{a a':List Value}(h:LRel β a a')(n:Nat):LRel β (a.take n) (a'.take n):=by refine⟨by simp[h.1],fun i v v' hv hv'=>?_⟩;rw[List.getElem?_take]at hv hv';split at hv<;>simp_all;exact h.2 i v v' hv hv'
theorem LRel.drop{β:Bt}{a a':List Value}(h:LRel β a a')(n:Nat):LRel β (a.drop n) (a'.drop n):=by refine⟨by simp[h.1],fun i v v' hv hv'=>?_⟩;rw[List.getElem?_drop]at hv hv';exact h.2 _ v v' hv hv'
theorem LRel.get{β:Bt}{a a':List Value}(h:LRel β a a'){k:Nat}{v:Value}(hv:a[k]?=some v):∃v',a'[k]?=some v'∧VRel β v v':=by have hk:k<a.length:=(List.getElem?_eq_some_iff.1 hv).1;have hk':k<a'.length:=h.1▸hk;exact⟨a'[k],by simp[hk'],h.2 k v _ hv (by simp[hk'])⟩
theorem LRel.of_get{β:Bt}{a a':List Value}(hl:a.length=a'.length)(h:∀(k:Nat) v,a[k]?=some v→∃v',a'[k]?=some v'∧VRel β v v'):LRel β a a':=
 ⟨hl,fun k v v' hv hv'=>by obtain⟨u,hu,hr⟩:=h k v hv;rw[hv']at hu;cases hu;exact hr⟩
theorem zcP{β:Bt}{cs:Array Value}{v':Value}:VRel β (.agg cs) v'↔∃cs':Array Value,v'=.agg cs'∧LRel β cs.toList cs'.toList:=by
 constructor
 ·intro h;cases h with
  |agg cs cs' hl h=>exact⟨⟨cs'⟩,rfl,hl,h⟩
 ·rintro⟨cs',rfl,hl,h⟩
  obtain⟨cs⟩:=cs;obtain⟨cs'⟩:=cs';exact .agg cs cs' hl h
theorem zch{β:Bt}{cs:Array Value}{v':Value}:VRel β (.tuple cs) v'↔∃cs':Array Value,v'=.tuple cs'∧LRel β cs.toList cs'.toList:=by
 constructor
 ·intro h;cases h with
  |tuple cs cs' hl h=>exact⟨⟨cs'⟩,rfl,hl,h⟩
 ·rintro⟨cs',rfl,hl,h⟩
  obtain⟨cs⟩:=cs;obtain⟨cs'⟩:=cs';exact .tuple cs cs' hl h
theorem VRel.one_eq{β:Bt}{v v':Value}(h:VRel β v v'):v'.oneCell'=one v:=by cases h<;>rfl
theorem VRel.cells{β:Bt}{v v':Value}(h:VRel β v v'):LRel β (zab v) v'.cells.toList:=by
 cases h with
 |agg cs cs' hl h=>exact⟨hl,h⟩
 |_=>simp only[zab,Value.cells];exact LRel.cons (by constructor<;>assumption) (LRel.nil _)
def AObj.own:AObj→Bool
 |.cells _ o=>o
 |.map _=>true
 |.fix _=>false
def OwnB(H:Hp)(β:Bt)(b:Nat):Prop:=∃i o x,H.get i=some o∧o.own=true∧β i=some x∧x.b=b
def ERel(β:Bt)(kv:List (Value×Value))(es:List MapEntry):Prop:=
 kv.length=es.length∧∀(j:Nat) k v (e:MapEntry),kv[j]?=some (k,v)→es[j]?=some e→VRel β k e.key∧VRel β v e.val
theorem ERel.mono{β β':Bt}(hb:β.le β'){kv:List (Value×Value)}{es:List MapEntry}(h:ERel β kv es):ERel β' kv es:=
 ⟨h.1,fun j k v e a b=>⟨(h.2 j k v e a b).1.mono hb,(h.2 j k v e a b).2.mono hb⟩⟩
def RowAt(w:World)(b t:Nat):Prop:=∃arr e fz,w.heap[b]?=some (.cells arr e fz)∧arr.size=t∧∀j,j<t→¬(fz.1≤j∧j<fz.2)
def zlW(w:World)(β:Bt)(i:Nat)(T:TypeId):Prop:=∃x arr fz,β i=some x∧x.s=0∧w.heap[x.b]?=some (.cells arr T fz)∧arr.size=x.t
structure Rel(P:Program)(w:World)(H:Hp)(β:Bt):Prop where
 cells:∀i cs own,H.get i=some (.cells cs own)→∃x,β i=some x∧(∀j v,cs[j]?=some v→∃v',w.cell? ⟨x.b,x.s+j,none⟩=some v'∧VRel β v v') ∧
  (own=true→RowAt w x.b x.t∧x.s+cs.length≤x.t)
 maps:∀i kv,H.get i=some (.map kv)→∃x,β i=some x∧∃es clock,w.heap[x.b]?=some (.map es clock)∧ERel β kv es.toList∧(∀e∈es.toList,e.born<clock)
 apart:∀i j o o' x y,i≠j→H.get i=some o→H.get j=some o'→o.own=true→β i=some x→β j=some y→x.b≠y.b
 fresh:∀i,H.next≤i→H.get i=none∧β i=none
 lt:∀i x,β i=some x→x.b<w.heap.size
 glob:∀g,g<P.globals.size→∃t,β g=some ⟨g,0,t⟩
 fix:∀i o,H.get i=some (.fix o)→∃x,β i=some x∧x.s=0∧w.heap[x.b]?=some o
 tys:∀i T,H.ty i=some T→zlW w β i T
structure Ext(N:Nat)(w:World)(H:Hp)(β:Bt)(w':World)(H':Hp)(β':Bt):Prop where
 os:w'.os=w.os
 tape:w'.tape=w.tape
 output:w'.output=w.output
 size:w.heap.size≤w'.heap.size
 le:β.le β'
 next:H.next≤H'.next
 frame:∀b,b<N→¬OwnB H β b→w'.heap[b]?=w.heap[b]?
 own:∀b,OwnB H' β' b→N≤b∨OwnB H β b
 news:∀i x,β' i=some x→β i=none→N≤x.b∨OwnB H β x.b
theorem Ext.refl(N:Nat)(w:World)(H:Hp)(β:Bt):Ext N w H β w H β:=
 ⟨rfl,rfl,rfl,Nat.le_refl _,Bt.le_refl _,Nat.le_refl _,fun _ _ _=>rfl,fun _ h=>.inr h,fun i x h e=>by rw[h]at e;cases e⟩
theorem Ext.weaken{M N:Nat}{w w':World}{H H':Hp}{β β':Bt}(h:Ext M w H β w' H' β')(hn:N≤M):Ext N w H β w' H' β':=
 ⟨h.os,h.tape,h.output,h.size,h.le,h.next,fun b hb=>h.frame b (Nat.lt_of_lt_of_le hb hn),fun b q=>(h.own b q).imp (Nat.le_trans hn) id,fun i x hx e=>(h.news i x hx e).imp (Nat.le_trans hn) id⟩
theorem Ext.trans{N:Nat}{w1 w2 w3:World}{H1 H2 H3:Hp}{β1 β2 β3:Bt}(h:Ext N w1 H1 β1 w2 H2 β2)(k:Ext N w2 H2 β2 w3 H3 β3):Ext N w1 H1 β1 w3 H3 β3 where
 os:=k.os.trans h.os
 tape:=k.tape.trans h.tape
 output:=k.output.trans h.output
 size:=Nat.le_trans h.size k.size
 le:=Bt.le_trans h.le k.le
 next:=Nat.le_trans h.next k.next
 frame:=fun b hb ho=>by have ho2:¬OwnB H2 β2 b:=fun q=>(h.own b q).elim (fun q=>by omega) ho;rw[k.frame b hb ho2,h.frame b hb ho]
 own:=fun b q=>by
  rcases k.own b q with q|q
  ·exact .inl q
  ·exact h.own b q
 news:=fun i x hx e=>by
  cases hb:β2 i with
  |none=>
   rcases k.news i x hx hb with q|q
   ·exact .inl q
   ·exact h.own _ q
  |some y=>
   have hy:=k.le i y hb;rw[hx]at hy;cases hy;exact h.news i x hb e
theorem zcp{w:World}{b j:Nat}{v:Value}:w.cell? ⟨b,j,none⟩=some v↔∃arr e fz,w.heap[b]?=some (.cells arr e fz)∧arr[j]?=some v:=by
 unfold World.cell?;constructor
 ·intro h;dsimp only at h;split at h
  ·rename_i c e fz hh;exact⟨c,e,fz,hh,by simpa using h⟩
  ·simp at h
 ·rintro⟨arr,e,fz,hh,hv⟩
  simp[hh,hv]
structure Put(w:World)(b off:Nat)(vs:List Value)(w':World):Prop where
 os:w'.os=w.os
 tape:w'.tape=w.tape
 output:w'.output=w.output
 size:w'.heap.size=w.heap.size
 other:∀k,k≠b→w'.heap[k]?=w.heap[k]?
 row:∀arr e fz,w.heap[b]?=some (.cells arr e fz)→∃arr',w'.heap[b]?=some (.cells arr' e fz)∧arr'.size=arr.size ∧
  ∀j,arr'[j]?=if off≤j∧j<off+vs.length then vs[j-off]? else arr[j]?
theorem Put.nil(w:World)(b off:Nat):Put w b off [] w:=⟨rfl,rfl,rfl,rfl,fun _ _=>rfl,fun arr e fz h=>⟨arr,h,rfl,fun j=>by rw[if_neg (by simp only[length_nil];omega)]⟩⟩
theorem ziy(w:World)(b off:Nat)(v:Value)(arr:Array Value)(e:TypeId)(fz:Nat×Nat)(hw:w.heap[b]?=some (.cells arr e fz))(ho:off<arr.size) :
  Put w b off [v] (w.setCell ⟨b,off,none⟩ v):=by
 refine⟨rfl,rfl,rfl,by simp[World.setCell],fun k hk=>?_,fun arr' e' fz' h'=>?_⟩
 ·simp only[World.setCell,Array.getElem?_modify];rw[if_neg (by omega)]
 ·rw[hw]at h';cases h';refine⟨arr.setIfInBounds off v,?_,by simp,fun j=>?_⟩
  ·simp[World.setCell,Array.getElem?_modify,hw]
  ·simp only[Array.getElem?_setIfInBounds,length_singleton];by_cases hj:off=j
   ·subst hj;simp[ho]
   ·rw[if_neg hj,if_neg (by omega)]
theorem Put.cons{w w1 w2:World}{b off:Nat}{v:Value}{vs:List Value}(h:Put w b off [v] w1)(k:Put w1 b (off+1) vs w2):Put w b off (v::vs) w2:=by
 refine⟨k.os.trans h.os,k.tape.trans h.tape,k.output.trans h.output,k.size.trans h.size,fun i hi=>(k.other i hi).trans (h.other i hi),fun arr e fz hw=>?_⟩;obtain⟨a1,h1,s1,g1⟩:=h.row arr e fz hw;obtain⟨a2,h2,s2,g2⟩:=k.row a1 e fz h1;refine⟨a2,h2,s2.trans s1,fun j=>?_⟩;rw[g2 j,g1 j];simp only[length_cons,length_nil];by_cases c1:off+1≤j∧j<off+1+vs.length
 ·rw[if_pos c1,if_pos (by omega)];rw[show j-off=(j-(off+1))+1 by omega];simp
 ·rw[if_neg c1];by_cases c2:off=j
  ·subst c2;rw[if_pos (by omega),if_pos (by omega)];simp
  ·rw[if_neg (by omega),if_neg (by omega)]
theorem zhU{w:World}{b j:Nat}{arr:Array Value}{e:TypeId}{fz:Nat×Nat}(hw:w.heap[b]?=some (.cells arr e fz))(h:¬(fz.1≤j∧j<fz.2)):w.frozen? ⟨b,j,none⟩=false:=by obtain⟨lo,hi⟩:=fz;simp only[World.frozen?,hw];simp at h ⊢;omega
theorem zdc(P:Program)(b off:Nat)(arr:Array Value)(e:TypeId)(fz:Nat×Nat)(hfz:∀j,j<arr.size→¬(fz.1≤j∧j<fz.2)) :
  ∀(vs:List Value) (i:Nat) (w:World) (arr':Array Value),w.heap[b]?=some (.cells arr' e fz)→arr'.size=arr.size→off+i+vs.length≤arr.size→(vs.all Value.oneCell')=true →
  ∃w',(storeCells ⟨b,off,none⟩ vs i).run P w=.ok () w'∧Put w b (off+i) vs w'
 |[],i,w,arr',_,_,_,_=>⟨w,by simp[storeCells],Put.nil _ _ _⟩
 |v::vs,i,w,arr',hw,hs,hl,h1=>by
  simp only[all_cons,Bool.and_eq_true]at h1;simp only[length_cons]at hl;have hadd:(⟨b,off,none⟩:Addr).add i=⟨b,off+i,none⟩:=by unfold Addr.add;split<;>simp_all
  have hput:=ziy w b (off+i) v arr' e fz hw (by omega);obtain⟨a1,ha1,hs1,_⟩:=hput.row arr' e fz hw;obtain⟨w',hr,hp⟩:=zdc P b off arr e fz hfz vs (i+1) (w.setCell ⟨b,off+i,none⟩ v) a1 ha1 (by omega) (by omega) h1.2;refine⟨w',?_,hput.cons (by rw[show off+i+1=off+(i+1) by omega];exact hp)⟩;have hc:w.cell? ⟨b,off+i,none⟩=some (arr'[off+i]'(by omega)):=zcp.2 ⟨arr',e,fz,hw,by simp⟩;have hz:w.frozen? ⟨b,off+i,none⟩=false:=zhU hw (hfz (off+i) (by omega));simp only[storeCells,Sem.run_bind,hadd,run_store P w _ v _ h1.1,hc,hz,Bool.false_eq_true,if_false,Result.andThen_ok,hr]
theorem zc2{P:Program}{w:World}{b off:Nat}{β:Bt}{l:List Value}(h:∀j v,l[j]?=some v→∃v',w.cell? ⟨b,off+j,none⟩=some v'∧VRel β v v') :
  ∃l':List Value,(loadCells ⟨b,off,none⟩ l.length).run P w=.ok l'.toArray w∧LRel β l l':=by
 have hf:∀j,j<l.length→w.cell? ⟨b,off+j,none⟩=some ((w.cell? ⟨b,off+j,none⟩).getD undef):=by intro j hj;obtain⟨v',hv,_⟩:=h j l[j] (by simp[hj]);simp[hv]
 have hadd:∀j,(⟨b,off,none⟩:Addr).add j=⟨b,off+j,none⟩:=by intro j;unfold Addr.add;split<;>simp_all
 refine⟨(List.range l.length).map fun j=>(w.cell? ⟨b,off+j,none⟩).getD undef,?_,by simp,fun k v v' hv hv'=>?_⟩
 ·rw[run_loadCells w ⟨b,off,none⟩ l.length (fun j=>(w.cell? ⟨b,off+j,none⟩).getD undef) (fun j hj=>by rw[hadd];exact hf j hj)]
 ·obtain⟨u,hu,hr⟩:=h k v hv;have hk:k<l.length:=(List.getElem?_eq_some_iff.1 hv).1;rw[List.getElem?_map,List.getElem?_range hk]at hv';simp[hu]at hv';subst hv';exact hr
def SRel(β:Bt)(lam:Nat→Nat)(bx:Nat→Option Bx)(s:Slot)(v':Value):Prop:=
 match s with
 |.unk=>True
 |.und=>v'=undef
 |.val v=>VRel β v v'
 |.loc d off=>(bx d).isSome=true∧v'=.pointer (some ⟨lam d,off,none⟩)
def zlY(w:World)(β:Bt)(b:Nat):Bx→Prop
 |.cells cs _=>∃arr e,w.heap[b]?=some (.cells arr e (0,0))∧LRel β cs arr.toList
 |.iter s pos=>w.heap[b]?=some (.stringIter s pos)
 |.iterRo s pos=>w.heap[b]?=some (.stringIter s pos)
structure FRel(N:Nat)(w:World)(bx:Nat→Option Bx)(β:Bt)(lam:Nat→Nat)(fr:Fr)(a:Act):Prop where
 size:a.tmps.size=fr.length
 slot:∀d s,fr[d]?=some s→SRel β lam bx s (a.tmps.getD d undef)
 box:∀d c,bx d=some c→N≤lam d∧lam d<w.heap.size∧(∀i x,β i=some x→x.b≠lam d)∧zlY w β (lam d) c
 apart:∀d d',(bx d).isSome=true→(bx d').isSome=true→d≠d'→lam d≠lam d'
theorem SRel.mono{β β':Bt}(hb:β.le β'){lam:Nat→Nat}{bx:Nat→Option Bx}{s:Slot}{v:Value}(h:SRel β lam bx s v):SRel β' lam bx s v:=by
 cases s with
 |val u=>exact VRel.mono hb h
 |_=>exact h
theorem SRel.bx{β:Bt}{lam:Nat→Nat}{bx bx':Nat→Option Bx}(hb:∀d,(bx d).isSome=true→(bx' d).isSome=true){s:Slot}{v:Value}(h:SRel β lam bx s v):SRel β lam bx' s v:=by
 cases s with
 |loc d off=>exact⟨hb d h.1,h.2⟩
 |_=>exact h
def BxLe(b b':Option Bx):Prop:=
 match b with
 |none=>True
 |some (.cells _ false)=>∃cs',b'=some (.cells cs' false)
 |some (.iter _ _)=>∃s p,b'=some (.iter s p)
 |b=>b'=b
theorem BxLe.refl(b:Option Bx):BxLe b b:=by unfold BxLe;split<;>first|trivial|exact⟨_,rfl⟩|exact⟨_,_,rfl⟩|rfl
theorem BxLe.trans{a b c:Option Bx}(h:BxLe a b)(k:BxLe b c):BxLe a c:=by
 unfold BxLe at h;split at h
 ·trivial
 ·obtain⟨cs,rfl⟩:=h;exact k
 ·obtain⟨s,p,rfl⟩:=h;exact k
 ·subst h;exact k
theorem BxLe.some{a b:Option Bx}(h:BxLe a b)(ha:a.isSome=true):b.isSome=true:=by
 unfold BxLe at h;split at h
 ·cases ha
 ·obtain⟨cs,rfl⟩:=h;rfl
 ·obtain⟨s,p,rfl⟩:=h;rfl
 ·subst h;exact ha
def BMv(bx:Nat→Option Bx)(lam:Nat→Nat)(bx':Nat→Option Bx)(lam':Nat→Nat):Prop:=∀d,BxLe (bx d) (bx' d)∧((bx d).isSome=true→lam' d=lam d)
theorem BMv.refl(bx:Nat→Option Bx)(lam:Nat→Nat):BMv bx lam bx lam:=fun d=>⟨BxLe.refl _,fun _=>rfl⟩
theorem BMv.trans{b1 b2 b3:Nat→Option Bx}{l1 l2 l3:Nat→Nat}(h:BMv b1 l1 b2 l2)(k:BMv b2 l2 b3 l3):BMv b1 l1 b3 l3:=fun d=>
 ⟨(h d).1.trans (k d).1,fun hd=>((k d).2 ((h d).1.some hd)).trans ((h d).2 hd)⟩
theorem St.setB_same(S:St)(d:Nat)(c:Option Bx):(S.setB d c).bx d=c:=by simp[St.setB]
theorem St.setB_ne(S:St){d e:Nat}(c:Option Bx)(h:e≠d):(S.setB d c).bx e=S.bx e:=by simp[St.setB,h]
theorem BMv.set{S:St}{d:Nat}{lam:Nat→Nat}{c:Bx}(h:BxLe (S.bx d) (some c)):BMv S.bx lam (S.setB d (some c)).bx lam:=fun e=>by
 refine⟨?_,fun _=>rfl⟩;by_cases q:e=d
 ·subst q;rw[St.setB_same];exact h
 ·rw[St.setB_ne _ _ q];exact BxLe.refl _
theorem BMv.new{S:St}{d:Nat}{lam:Nat→Nat}{c:Bx}{n:Nat}(h:S.bx d=none):BMv S.bx lam (S.setB d (some c)).bx (fun j=>if j=d then n else lam j):=fun e=>by
 by_cases q:e=d
 ·subst q;rw[h];exact⟨trivial,fun q=>by cases q⟩
 ·rw[St.setB_ne _ _ q];exact⟨BxLe.refl _,fun _=>if_neg q⟩
theorem zlY.mono{β β':Bt}(hb:β.le β'){w w':World}{b:Nat}(hw:w'.heap[b]?=w.heap[b]?){c:Bx}(h:zlY w β b c):zlY w' β' b c:=by
 cases c with
 |cells cs ro=>obtain⟨arr,e,h1,h2⟩:=h;exact⟨arr,e,by rw[hw];exact h1,h2.mono hb⟩
 |iter s pos=>show w'.heap[b]?=_;rw[hw];exact h
 |iterRo s pos=>show w'.heap[b]?=_;rw[hw];exact h
theorem FRel.ext {N : Nat} {w w' : World} {H H' : Hp} {bx : Nat → Option Bx} {β β' : Bt} {lam : Nat → Nat} {fr : Fr} {a : Act}
    (h : FRel N w bx β lam fr a) (hr : ∀ i x, H.get i = some x → ∃ y, β i = some y) (k : Ext w.heap.size w H β w' H' β') : FRel N w' bx β' lam fr a where
  size := h.size
  slot := fun d s hs => (h.slot d s hs).mono k.le
  box := fun d c hc => by
    obtain ⟨h1, h2, h3, h4⟩ := h.box d c hc
    have hno : ¬ OwnB H β (lam d) := fun ⟨i, o, x, _, _, hx, hb⟩ => h3 i x hx hb
    refine ⟨h1, Nat.lt_of_lt_of_le h2 k.size, fun i x hx => ?_, h4.mono k.le (k.frame _ h2 hno)⟩
    cases hb : β i with
    | none => rcases k.news i x hx hb with q | q
              · omega
              · intro e; rw [e] at q; exact hno q
    | some y => have := k.le i y hb; rw [hx] at this; cases this; exact h3 i x hb
  apart := h.apart
theorem Rel.has{P:Program}{w:World}{H:Hp}{β:Bt}(h:Rel P w H β)(i:Nat)(o:AObj)(hi:H.get i=some o):∃x,β i=some x:=by
 cases o with
 |cells cs own=>obtain⟨x,hx,_⟩:=h.cells i cs own hi;exact⟨x,hx⟩
 |map kv=>obtain⟨x,hx,_⟩:=h.maps i kv hi;exact⟨x,hx⟩
 |fix o=>obtain⟨x,hx,_⟩:=h.fix i o hi;exact⟨x,hx⟩
theorem zdb{w w':World}{b j:Nat}(h:w'.heap[b]?=w.heap[b]?):w'.cell? ⟨b,j,none⟩=w.cell? ⟨b,j,none⟩:=by simp only[World.cell?,h]
theorem RowAt.congr{w w':World}{b t:Nat}(h:w'.heap[b]?=w.heap[b]?)(k:RowAt w b t):RowAt w' b t:=by obtain⟨arr,e,fz,h1,h2,h3⟩:=k;exact⟨arr,e,fz,by rw[h];exact h1,h2,h3⟩
theorem Rel.frame{P:Program}{w w':World}{H:Hp}{β:Bt}(h:Rel P w H β)(hs:w.heap.size≤w'.heap.size)(hw:∀i x,β i=some x→w'.heap[x.b]?=w.heap[x.b]?):Rel P w' H β where
 cells:=fun i cs own hi=>by
  obtain⟨x,hx,h1,h2⟩:=h.cells i cs own hi;refine⟨x,hx,fun j v hv=>?_,fun ho=>?_⟩
  ·rw[zdb (hw i x hx)];exact h1 j v hv
  ·exact⟨(h2 ho).1.congr (hw i x hx),(h2 ho).2⟩
 maps:=fun i kv hi=>by obtain⟨x,hx,es,clock,h1,h2⟩:=h.maps i kv hi;exact⟨x,hx,es,clock,by rw[hw i x hx];exact h1,h2⟩
 apart:=h.apart
 fresh:=h.fresh
 lt:=fun i x hx=>Nat.lt_of_lt_of_le (h.lt i x hx) hs
 glob:=h.glob
 fix:=fun i o hi=>by obtain⟨x,hx,h0,h1⟩:=h.fix i o hi;exact⟨x,hx,h0,by rw[hw i x hx];exact h1⟩
 tys:=fun i T hi=>by obtain⟨x,arr,fz,hx,h1,h2,h3⟩:=h.tys i T hi;exact⟨x,arr,fz,hx,h1,by rw[hw i x hx];exact h2,h3⟩
theorem zc8(w:World)(o:Obj)(k:Nat)(h:k<w.heap.size):(w.alloc o).heap[k]?=w.heap[k]?:=by show (w.heap.push o)[k]?=_;rw[Array.getElem?_push,if_neg (by omega)]
theorem zbD(w:World)(o:Obj):(w.alloc o).heap[w.heap.size]?=some o:=by show (w.heap.push o)[w.heap.size]?=_;rw[Array.getElem?_push,if_pos rfl]
def Bt.set(β:Bt)(i:Nat)(x:BI):Bt:=fun j=>if j=i then some x else β j
theorem Bt.le_set{β:Bt}{i:Nat}{x:BI}(h:β i=none):β.le (β.set i x):=fun j y hj=>by unfold Bt.set;rw[if_neg (fun e=>by subst e;rw[h]at hj;cases hj)];exact hj
theorem Bt.set_same(β:Bt)(i:Nat)(x:BI):(β.set i x) i=some x:=by simp[Bt.set]
theorem Hp.get_new(H:Hp)(o:AObj)(i:Nat):(H.new o).get i=if i=H.next then some o else H.get i:=rfl
theorem Hp.get_set(H:Hp)(j:Nat)(o:Option AObj)(i:Nat):(H.set j o).get i=if i=j then o else H.get i:=rfl
theorem Rel.new_cells{P:Program}{w:World}{H:Hp}{β:Bt}(h:Rel P w H β)(cs:List Value)(arr:Array Value)(e:TypeId)(fz:Nat×Nat)(n:Nat)
  (hl:LRel β cs (arr.toList.take n)) (hfz:∀j,j<arr.size→¬(fz.1≤j∧j<fz.2)) :
  Rel P (w.alloc (.cells arr e fz)) (H.new (.cells cs true)) (β.set H.next ⟨w.heap.size,0,arr.size⟩) ∧
  Ext w.heap.size w H β (w.alloc (.cells arr e fz)) (H.new (.cells cs true)) (β.set H.next ⟨w.heap.size,0,arr.size⟩):=by
 have hf:=(h.fresh H.next (Nat.le_refl _))
 have hle:=Bt.le_set (x:=⟨w.heap.size,0,arr.size⟩) hf.2;have hlen:cs.length≤arr.size:=by have:=hl.1;simp at this;omega
 have hold:∀i x,β i=some x→(w.alloc (.cells arr e fz)).heap[x.b]?=w.heap[x.b]?:=fun i x hx=>zc8 _ _ _ (h.lt i x hx)
 refine⟨⟨fun i ds own hi=>?_,fun i kv hi=>?_,fun i j o o' x y hij hi hj ho hx hy=>?_,fun i hi=>?_,fun i x hx=>?_,fun g hg=>?_,fun i o hi=>(by
   rw[Hp.get_new]at hi;split at hi
   ·cases hi
   ·obtain⟨x,hx,h0,h1⟩:=h.fix i o hi
    exact⟨x,hle i x hx,h0,by rw[hold i x hx];exact h1⟩),fun i T hi=>(by
   obtain⟨x,arr,fz,hx,h1,h2,h3⟩:=h.tys i T hi
   exact⟨x,arr,fz,hle i x hx,h1,by rw[hold i x hx];exact h2,h3⟩)⟩,
  ⟨rfl,rfl,rfl,by simp,hle,Nat.le_succ _,fun b hb _=>zc8 _ _ _ hb,fun b=>?_,fun i x hx hn=>?_⟩⟩
 ·rw[Hp.get_new]at hi;split at hi
  ·rename_i hin;cases hi;subst hin;refine⟨_,Bt.set_same _ _ _,fun j v hv=>?_,fun _=>⟨⟨arr,e,fz,zbD _ _,rfl,hfz⟩,by simpa using hlen⟩⟩;obtain⟨v',hv',hr⟩:=hl.get hv;refine⟨v',zcp.2 ⟨arr,e,fz,zbD _ _,?_⟩,hr.mono hle⟩;rw[List.getElem?_take]at hv';split at hv'
   ·simpa using hv'
   ·simp at hv'
  ·rename_i hin;obtain⟨x,hx,h1,h2⟩:=h.cells i ds own hi;refine⟨x,hle i x hx,fun j v hv=>?_,fun ho=>⟨(h2 ho).1.congr (hold i x hx),(h2 ho).2⟩⟩;obtain⟨v',hv',hr⟩:=h1 j v hv;exact⟨v',by rw[zdb (hold i x hx)];exact hv',hr.mono hle⟩
 ·rw[Hp.get_new]at hi;split at hi
  ·cases hi
  ·obtain⟨x,hx,es,clock,h1,h2,h3⟩:=h.maps i kv hi;exact⟨x,hle i x hx,es,clock,by rw[hold i x hx];exact h1,h2.mono hle,h3⟩
 ·rw[Hp.get_new]at hi hj;unfold Bt.set at hx hy;split at hi
  ·rename_i hin;subst hin;rw[if_pos rfl]at hx;cases hx;rw[if_neg (Ne.symm hij)]at hy;have:=h.lt j y hy;show w.heap.size≠y.b;omega
  ·rename_i hin;rw[if_neg hin]at hx;split at hj
   ·rename_i hjn;subst hjn;rw[if_pos rfl]at hy;cases hy;have:=h.lt i x hx;show x.b≠w.heap.size;omega
   ·rename_i hjn;rw[if_neg hjn]at hy;exact h.apart i j o o' x y hij hi hj ho hx hy
 ·have:H.next+1≤i:=hi;rw[Hp.get_new,if_neg (by omega)];unfold Bt.set;rw[if_neg (by omega)];exact h.fresh i (by omega)
 ·unfold Bt.set at hx;split at hx
  ·cases hx;simp
  ·have:=h.lt i x hx;simp;omega
 ·obtain⟨t,ht⟩:=h.glob g hg;exact⟨t,hle g _ ht⟩
 ·rintro⟨i,o,x,hi,ho,hx,rfl⟩
  rw[Hp.get_new]at hi;unfold Bt.set at hx;split at hi
  ·rename_i hin;rw[if_pos hin]at hx;cases hx;exact .inl (Nat.le_refl _)
  ·rename_i hin;rw[if_neg hin]at hx;exact .inr ⟨i,o,x,hi,ho,hx,rfl⟩
 ·unfold Bt.set at hx;split at hx
  ·cases hx;exact .inl (Nat.le_refl _)
  ·rw[hn]at hx;cases hx
theorem Rel.new_map{P:Program}{w:World}{H:Hp}{β:Bt}(h:Rel P w H β) :
  Rel P (w.alloc (.map #[] 0)) (H.new (.map [])) (β.set H.next ⟨w.heap.size,0,0⟩)∧Ext w.heap.size w H β (w.alloc (.map #[] 0)) (H.new (.map [])) (β.set H.next ⟨w.heap.size,0,0⟩):=by
 have hf:=(h.fresh H.next (Nat.le_refl _))
 have hle:=Bt.le_set (x:=⟨w.heap.size,0,0⟩) hf.2;have hold:∀i x,β i=some x→(w.alloc (.map #[] 0)).heap[x.b]?=w.heap[x.b]?:=fun i x hx=>zc8 _ _ _ (h.lt i x hx)
 refine⟨⟨fun i ds own hi=>?_,fun i kv hi=>?_,fun i j o o' x y hij hi hj ho hx hy=>?_,fun i hi=>?_,fun i x hx=>?_,fun g hg=>?_,fun i o hi=>(by
   rw[Hp.get_new]at hi;split at hi
   ·cases hi
   ·obtain⟨x,hx,h0,h1⟩:=h.fix i o hi
    exact⟨x,hle i x hx,h0,by rw[hold i x hx];exact h1⟩),fun i T hi=>(by
   obtain⟨x,arr,fz,hx,h1,h2,h3⟩:=h.tys i T hi
   exact⟨x,arr,fz,hle i x hx,h1,by rw[hold i x hx];exact h2,h3⟩)⟩,
  ⟨rfl,rfl,rfl,by simp,hle,Nat.le_succ _,fun b hb _=>zc8 _ _ _ hb,fun b=>?_,fun i x hx hn=>?_⟩⟩
 ·rw[Hp.get_new]at hi;split at hi
  ·cases hi
  ·obtain⟨x,hx,h1,h2⟩:=h.cells i ds own hi;refine⟨x,hle i x hx,fun j v hv=>?_,fun ho=>⟨(h2 ho).1.congr (hold i x hx),(h2 ho).2⟩⟩;obtain⟨v',hv',hr⟩:=h1 j v hv;exact⟨v',by rw[zdb (hold i x hx)];exact hv',hr.mono hle⟩
 ·rw[Hp.get_new]at hi;split at hi
  ·rename_i hin;cases hi;subst hin;exact⟨_,Bt.set_same _ _ _,#[],0,zbD _ _,⟨rfl,by simp⟩,by simp⟩
  ·obtain⟨x,hx,es,clock,h1,h2,h3⟩:=h.maps i kv hi;exact⟨x,hle i x hx,es,clock,by rw[hold i x hx];exact h1,h2.mono hle,h3⟩
 ·rw[Hp.get_new]at hi hj;unfold Bt.set at hx hy;split at hi
  ·rename_i hin;subst hin;rw[if_pos rfl]at hx;cases hx;rw[if_neg (Ne.symm hij)]at hy;have:=h.lt j y hy;show w.heap.size≠y.b;omega
  ·rename_i hin;rw[if_neg hin]at hx;split at hj
   ·rename_i hjn;subst hjn;rw[if_pos rfl]at hy;cases hy;have:=h.lt i x hx;show x.b≠w.heap.size;omega
   ·rename_i hjn;rw[if_neg hjn]at hy;exact h.apart i j o o' x y hij hi hj ho hx hy
 ·have:H.next+1≤i:=hi;rw[Hp.get_new,if_neg (by omega)];unfold Bt.set;rw[if_neg (by omega)];exact h.fresh i (by omega)
 ·unfold Bt.set at hx;split at hx
  ·cases hx;simp
  ·have:=h.lt i x hx;simp;omega
 ·obtain⟨t,ht⟩:=h.glob g hg;exact⟨t,hle g _ ht⟩
 ·rintro⟨i,o,x,hi,ho,hx,rfl⟩
  rw[Hp.get_new]at hi;unfold Bt.set at hx;split at hi
  ·rename_i hin;rw[if_pos hin]at hx;cases hx;exact .inl (Nat.le_refl _)
  ·rename_i hin;rw[if_neg hin]at hx;exact .inr ⟨i,o,x,hi,ho,hx,rfl⟩
 ·unfold Bt.set at hx;split at hx
  ·cases hx;exact .inl (Nat.le_refl _)
  ·rw[hn]at hx;cases hx
theorem Ext.drew{N:Nat}{w w':World}{H H':Hp}{β β':Bt}(h:Ext N w H β w' H' β'):Ext N w H β w'.drew H' β':=
 ⟨h.os,h.tape,h.output,h.size,h.le,h.next,h.frame,h.own,h.news⟩
theorem Ext.of_drew{N:Nat}{w w':World}{H H':Hp}{β β':Bt}(h:Ext N w.drew H β w' H' β'):Ext N w H β w' H' β':=
 ⟨h.os,h.tape,h.output,h.size,h.le,h.next,h.frame,h.own,h.news⟩
theorem Rel.drew{P:Program}{w:World}{H:Hp}{β:Bt}(h:Rel P w H β):Rel P w.drew H β:=h.frame (Nat.le_refl _) (fun _ _ _=>rfl)
theorem FRel.drew{N:Nat}{w:World}{bx:Nat→Option Bx}{β:Bt}{lam:Nat→Nat}{fr:Fr}{a:Act}(h:FRel N w bx β lam fr a):FRel N w.drew bx β lam fr a:=
 ⟨h.size,h.slot,h.box,h.apart⟩
theorem zew(cs:List Value)(off:Nat)(vs:List Value)(h:off+vs.length≤cs.length):(spl cs off vs).length=cs.length:=by simp[spl];omega
theorem zhd(cs:List Value)(off:Nat)(vs:List Value)(h:off+vs.length≤cs.length)(j:Nat) :
  (spl cs off vs)[j]?=if off≤j∧j<off+vs.length then vs[j-off]? else cs[j]?:=by
 unfold spl;by_cases h1:j<off
 ·rw[if_neg (by omega),append_assoc,List.getElem?_append_left (by simp;omega),List.getElem?_take,if_pos h1]
 ·by_cases h2:j<off+vs.length
  ·rw[if_pos (by omega),List.getElem?_append_left (by simp;omega),List.getElem?_append_right (by simp;omega)];simp;rw[Nat.min_eq_left (by omega)]
  ·rw[if_neg (by omega),List.getElem?_append_right (by simp;omega),List.getElem?_drop];congr 1;simp;omega
theorem zlW.put{w w':World}{β:Bt}{i:Nat}{T:TypeId}(h:zlW w β i T){b off:Nat}{vs:List Value}(hp:Put w b off vs w'):zlW w' β i T:=by
 obtain⟨x,arr,fz,hx,h1,h2,h3⟩:=h;by_cases e:x.b=b
 ·subst e;obtain⟨arr',g1,g2,_⟩:=hp.row arr T fz h2;exact⟨x,arr',fz,hx,h1,g1,by omega⟩
 ·exact⟨x,arr,fz,hx,h1,by rw[hp.other _ e];exact h2,h3⟩
theorem zlW.le{w:World}{β β':Bt}{i:Nat}{T:TypeId}(h:zlW w β i T)(hb:β.le β'):zlW w β' i T:=by obtain⟨x,arr,fz,hx,h1⟩:=h;exact⟨x,arr,fz,hb _ _ hx,h1⟩
theorem Rel.mark{P:Program}{w:World}{H:Hp}{β:Bt}(h:Rel P w H β){i:Nat}{T:TypeId}(ht:zlW w β i T):Rel P w (H.mark i T) β:=
 ⟨h.cells,h.maps,h.apart,h.fresh,h.lt,h.glob,h.fix,fun j U hj=>by
  have hj:(if j=i then some T else H.ty j)=some U:=hj;split at hj
  ·rename_i e;cases hj;subst e;exact ht
  ·exact h.tys j U hj⟩
theorem Ext.mark{N:Nat}{w w':World}{H H':Hp}{β β':Bt}(h:Ext N w H β w' H' β')(i:Nat)(T:TypeId):Ext N w H β w' (H'.mark i T) β':=
 ⟨h.os,h.tape,h.output,h.size,h.le,h.next,h.frame,h.own,h.news⟩
theorem Rel.write{P:Program}{w w':World}{H:Hp}{β:Bt}(h:Rel P w H β){i:Nat}{cs:List Value}{x:BI}(hi:H.get i=some (.cells cs true))(hx:β i=some x)
  {off:Nat} {vs vs':List Value} (hl:off+vs.length≤cs.length) (hv:LRel β vs vs') (hp:Put w x.b (x.s+off) vs' w') :
  Rel P w' (H.set i (some (.cells (spl cs off vs) true))) β∧Ext w.heap.size w H β w' (H.set i (some (.cells (spl cs off vs) true))) β:=by
 obtain⟨x',hx',h1,h2⟩:=h.cells i cs true hi;rw[hx]at hx';cases hx';obtain⟨⟨arr,e,fz,hh,hsz,hfz⟩,hle⟩:=h2 rfl;obtain⟨arr',hh',hsz',hg⟩:=hp.row arr e fz hh;have hoth:∀j o y,j≠i→H.get j=some o→β j=some y→w'.heap[y.b]?=w.heap[y.b]?:=fun j o y hji hj hy=>
  hp.other _ (fun e=>h.apart i j _ _ x y (Ne.symm hji) hi hj rfl hx hy e.symm)
 have hvl:=hv.1
 refine⟨⟨fun j ds own hj=>?_,fun j kv hj=>?_,fun j k o o' y z hjk hj hk ho hy hz=>?_,fun j hj=>?_,fun j y hy=>?_,h.glob,fun j o hj=>(by
   rw[Hp.get_set]at hj;split at hj
   ·cases hj
   ·rename_i hji;obtain⟨y,hy,h0,h3⟩:=h.fix j o hj
    exact⟨y,hy,h0,by rw[hoth j _ y hji hj hy];exact h3⟩),fun j T hj=>(h.tys j T hj).put hp⟩,
  ⟨hp.os,hp.tape,hp.output,by rw[hp.size];exact Nat.le_refl _,Bt.le_refl _,Nat.le_refl _,fun b hb ho=>?_,fun b=>?_,fun j y hy hn=>by rw[hn]at hy;cases hy⟩⟩
 ·rw[Hp.get_set]at hj;split at hj
  ·rename_i hji;cases hj;subst hji;refine⟨x,hx,fun k v hk=>?_,fun _=>⟨⟨arr',e,fz,hh',by omega,fun q hq=>hfz q hq⟩,by rw[zew _ _ _ hl];exact hle⟩⟩;rw[zhd _ _ _ hl]at hk;split at hk
   ·rename_i hc;obtain⟨v',hv',hr⟩:=hv.get hk;refine⟨v',zcp.2 ⟨arr',e,fz,hh',?_⟩,hr⟩;rw[hg,if_pos (by omega)];rw[show x.s+k-(x.s+off)=k-off by omega];exact hv'
   ·rename_i hc;obtain⟨v',hv',hr⟩:=h1 k v hk;refine⟨v',zcp.2 ⟨arr',e,fz,hh',?_⟩,hr⟩;obtain⟨a2,e2,f2,g2,g3⟩:=zcp.1 hv';rw[hh]at g2;cases g2;rw[hg,if_neg (by omega)];exact g3
  ·rename_i hji;obtain⟨y,hy,h3,h4⟩:=h.cells j ds own hj;have hw:=hoth j _ y hji hj hy;refine⟨y,hy,fun k v hk=>?_,fun ho=>⟨(h4 ho).1.congr hw,(h4 ho).2⟩⟩;obtain⟨v',hv',hr⟩:=h3 k v hk;exact⟨v',by rw[zdb hw];exact hv',hr⟩
 ·rw[Hp.get_set]at hj;split at hj
  ·cases hj
  ·rename_i hji;obtain⟨y,hy,es,clock,h3,h4⟩:=h.maps j kv hj;exact⟨y,hy,es,clock,by rw[hoth j _ y hji hj hy];exact h3,h4⟩
 ·rw[Hp.get_set]at hj hk;have hj':∃o2,H.get j=some o2∧o2.own=true:=by
   split at hj
   ·rename_i e;subst e;exact⟨_,hi,rfl⟩
   ·exact⟨o,hj,ho⟩
  have hk':∃o2,H.get k=some o2:=by
   split at hk
   ·rename_i e;subst e;exact⟨_,hi⟩
   ·exact⟨_,hk⟩
  obtain⟨o2,g1,g2⟩:=hj';obtain⟨o3,g3⟩:=hk';exact h.apart j k o2 o3 y z hjk g1 g3 g2 hy hz
 ·have:=h.fresh j hj;rw[Hp.get_set,if_neg (fun e=>by subst e;rw[hi]at this;cases this.1)];exact this
 ·rw[hp.size];exact h.lt j y hy
 ·exact hp.other b (fun e=>by subst e;exact ho ⟨i,_,x,hi,rfl,hx,rfl⟩)
 ·rintro⟨j,o,y,hj,ho,hy,rfl⟩
  rw[Hp.get_set]at hj;split at hj
  ·rename_i e;subst e;rw[hx]at hy;cases hy;exact .inr ⟨_,_,x,hi,rfl,hx,rfl⟩
  ·exact .inr ⟨j,o,y,hj,ho,hy,rfl⟩
theorem Rel.kill{P:Program}{w:World}{H:Hp}{β:Bt}(h:Rel P w H β)(i:Nat):Rel P w (H.set i none) β∧Ext w.heap.size w H β w (H.set i none) β:=by
 refine⟨⟨fun j ds own hj=>?_,fun j kv hj=>?_,fun j k o o' y z hjk hj hk ho hy hz=>?_,fun j hj=>?_,h.lt,h.glob,fun j o hj=>(by
   rw[Hp.get_set]at hj;split at hj
   ·cases hj
   ·exact h.fix j o hj),h.tys⟩,
  ⟨rfl,rfl,rfl,Nat.le_refl _,Bt.le_refl _,Nat.le_refl _,fun _ _ _=>rfl,fun b=>?_,fun j y hy hn=>by rw[hn]at hy;cases hy⟩⟩
 ·rw[Hp.get_set]at hj;split at hj
  ·cases hj
  ·exact h.cells j ds own hj
 ·rw[Hp.get_set]at hj;split at hj
  ·cases hj
  ·exact h.maps j kv hj
 ·rw[Hp.get_set]at hj hk;split at hj
  ·cases hj
  ·split at hk
   ·cases hk
   ·exact h.apart j k o o' y z hjk hj hk ho hy hz
 ·have:=h.fresh j hj;rw[Hp.get_set];split
  ·exact⟨rfl,this.2⟩
  ·exact this
 ·rintro⟨j,o,y,hj,ho,hy,rfl⟩
  rw[Hp.get_set]at hj;split at hj
  ·cases hj
  ·exact .inr ⟨j,o,y,hj,ho,hy,rfl⟩
end Go.AM
namespace Go.AM
open Go
def zmf(t:Option Nat)(S S2:St):Prop:=match t with|none=>S2.hp=S.hp|some d=>S2.bx d=S.bx d
def TagR(t:Option Nat)(S S':St):Prop:=match t with|none=>S'.bx=S.bx|some e=>S'.hp=S.hp∧∀d,d≠e→S'.bx d=S.bx d
theorem TagR.other{t u:Option Nat}{S S':St}(h:TagR t S S')(hn:zcZ u t=false):zmf u S S':=by
 cases t with
 |none=>cases u with
  |none=>cases hn
  |some d=>exact congrFun h d
 |some e=>cases u with
  |none=>exact h.1
  |some d=>exact h.2 d (fun q=>by subst q;simp[zcZ]at hn)
section
theorem zdd{C:Ctx}{fr:Fr}{S S':St}{o:Oper}{s:Slot}(h:opR C fr S o=some (s,S'))(k:opR C fr S o=(opR C fr S o).bind fun p=>some (p.1,(⟨S.bx,p.2.hp⟩:St))):S'.bx=S.bx:=by rw[h]at k;simp only[Option.bind_some,Option.some.injEq,Prod.mk.injEq,true_and]at k;rw[k]
theorem box_tag{C:Ctx}{fr:Fr}{S S':St}{o:Oper}{s:Slot}(e:Nat)(h:opR C fr S o=some (s,S'))(k:opR C fr S o=(opR C fr S o).bind fun p=>some (p.1,S.setB e (p.2.bx e))):S'.hp=S.hp∧∀d,d≠e→S'.bx d=S.bx d:=by rw[h]at k;simp only[Option.bind_some,Option.some.injEq,Prod.mk.injEq,true_and]at k;rw[k];exact⟨rfl,fun d hd=>St.setB_ne _ _ hd⟩
theorem zmd(s:Slot)(S:St)(e:Nat)(c:Option Bx):some (s,S.setB e c)=(some (s,S.setB e c)).bind fun p=>some (p.1,S.setB e (p.2.bx e)):=by simp[St.setB]
def zjI(C:Ctx)(d:Option Nat):Option Nat:=match d with|some d=>(match (C.O.loc C.f).elem d with|true=>some d|false=>none)|none=>none
theorem zkr{C:Ctx}{S S':St}{d:Option Nat}{T:TypeId}{cs:List Value}{s:Slot}(h:zdf C S d T cs (fun s S'=>some (s,S'))=some (s,S')):TagR (zjI C d) S S':=by
 unfold zdf at h;rcases d with _|d
 ·cases h
 ·dsimp only at h;unfold zjI;cases he:(C.O.loc C.f).elem d with
  |true=>
   rw[he]at h;dsimp only at h ⊢;rw[he];rcases hb:S.bx d with _|b
   ·rw[hb]at h;cases h;exact⟨rfl,fun e hne=>St.setB_ne _ _ hne⟩
   ·rw[hb]at h;cases h
  |false=>
   rw[he]at h;dsimp only at h ⊢;rw[he];cases hg:C.O.gt T<;>rw[hg]at h<;>cases h<;>rfl
theorem zoh{C:Ctx}{fr:Fr}{S S':St}{o:Oper}{s:Slot}(h:opR C fr S o=some (s,S'))(hk:zdh C.P o.op=.eff):TagR (zbJ C fr o) S S':=by
 have h0:=h;unfold opR opC at h;dsimp only at h;unfold zbJ;cases hop:o.op<;>rw[hop]at h hk<;>(try dsimp only at h)<;>(try cases h;done)<;>(try cases hk;done)
 case alloc T=>
  obtain⟨z,hz⟩:∃z,zdf C S o.dst T (zab z) (fun s S'=>some (s,S'))=some (s,S'):=by
   unfold zf2 at h;split at h
   ·cases h
   ·split at h
    ·cases h
    ·rename_i z _;split at h
     ·dsimp only at h;split at h
      ·exact⟨z,h⟩
      ·cases h
     ·cases h
  exact(zkr hz:TagR (zjI C o.dst) S S')
 case box T x=>
  unfold sV at h;split at h
  ·exact(zkr h:TagR (zjI C o.dst) S S')
  ·cases h
 case buildSlice T n p=>
  refine zdd h0 ?_;unfold opR opC;rw[hop]
  try dsimp only
  exact zbo _ fun v=>zby fun _ _ _=>zdX fun _ _=>rfl
 case insert T m key x=>
  refine zdd h0 ?_;unfold opR opC;rw[hop]
  try dsimp only
  exact zaq fun m=>zaq fun key=>zaq fun x=>zbZ fun _ _=>zfE fun _=>rfl
 case convert src dst x=>
  refine zdd h0 ?_;unfold opR opC;rw[hop]
  try dsimp only
  exact zaq fun x=>zgq (fun _=>rfl) (fun _ _=>rfl)
 case makeMap T x=>
  refine zdd h0 ?_;unfold opR opC;rw[hop]
  try dsimp only
  cases x with
  |none=>rfl
  |some x=>exact zaq fun x=>zbZ fun _ _=>ziX rfl
 case makeSlice T l c=>
  refine zdd h0 ?_;unfold opR opC;rw[hop]
  try dsimp only
  exact zaq fun l=>zaq fun c=>zby fun _ _ _=>zes fun _ _=>rfl
 case slice T x lo hi mx=>
  cases mx with
  |some m=>cases h
  |none=>
   refine zdd h0 ?_;unfold opR opC;rw[hop]
   try dsimp only
   refine zaq fun x=>zee fun lo=>zee fun hi=>?_;unfold zdh at hk;dsimp only at hk;rcases h1:C.P.underlying T with _|d
   ·rfl
   ·rw[h1]at hk;cases d<;>first|rfl | (cases hk;done)|skip;rename_i len e;dsimp only;rcases C.P.info? e with _|i
    ·rfl
    ·exact zgg fun _=>rfl
 case mapUpdate T m key x=>
  refine zdd h0 ?_;unfold opR opC;rw[hop]
  try dsimp only
  exact zaq fun m=>zaq fun key=>zaq fun x=>zbZ fun _ _=>zfE fun _=>rfl
 case call c=>
  refine zdd h0 ?_;unfold opR opC;rw[hop]
  try dsimp only
  rcases c.callee with fo|⟨rv,m⟩|b
  ·exact zaq fun fv=>zbo _ fun vs=>zgK fun _ _=>rfl
  ·rfl
  ·refine zbo _ fun vs=>?_;generalize c.argTypes.toList=ts;cases b<;>(try dsimp only)<;>first|rfl|exact ziS fun _=>rfl|skip
   all_goals
    rcases vs with _|⟨x,_|⟨y,_|⟨z,vs⟩⟩⟩<;>rcases ts with _|⟨t,_|⟨u,_|⟨t3,ts⟩⟩⟩<;>(try dsimp only)<;>first|rfl|skip
   ·refine zby fun sz bytes _=>?_;rcases C.P.underlying u with _|d
    ·rfl
    ·cases d<;>first|rfl|exact zfl fun _ _=>rfl
   ·exact zby fun sz _ _=>ziY fun _ _=>rfl
   ·exact zbZ fun kt _=>zlu fun _=>rfl
   ·rcases C.P.underlying t with _|d
    ·rfl
    ·dsimp only;rcases lenK d with _|q
     ·rfl
     ·exact zie fun _=>rfl
 case store T a x=>
  dsimp only;cases he:ev C.P.globals.size fr a with
  |loc d off=>
   refine box_tag d h0 ?_;unfold opR opC;rw[hop];dsimp only;refine zaq fun v=>zcY fun n agg=>?_;rw[he];dsimp only;rcases S.bx d with _|b
   ·rfl
   ·cases b with
    |cells cs ro=>cases ro<;>first|rfl|exact zgf fun _=>zmd _ _ _ _
    |_=>rfl
  |_=>
   refine zdd h0 ?_;unfold opR opC;rw[hop];dsimp only;refine zaq fun v=>zcY fun n agg=>?_;rw[he]
   first|rfl|exact zhp fun _=>rfl
 case range T x=>
  dsimp only;rcases hd:o.dst with _|d
  ·refine zdd h0 ?_;unfold opR opC;rw[hop];dsimp only;refine zaq fun x=>?_;rw[hd];rcases C.P.underlying T with _|d
   ·rfl
   ·cases d<;>rfl
  ·refine box_tag d h0 ?_;unfold opR opC;rw[hop];dsimp only;refine zaq fun x=>?_;rw[hd];rcases C.P.underlying T with _|dd
   ·rfl
   ·cases dd<;>first|rfl|skip;dsimp only;rcases S.bx d with _|b
    ·exact ziP fun _=>zmd _ _ _ _
    ·rfl
 case next it b=>
  dsimp only;cases b with
  |false=>cases h
  |true=>
  try dsimp only at h
  cases he:ev C.P.globals.size fr it with
  |loc d off=>
   rw[he]at h;cases off with
   |succ n=>cases h
   |zero=>
    have h:(match S.bx d with
      |some (.iter s pos)=>br (Nat.blt pos s.size) (some ((Slot.val (.tuple #[.bool true,.int .i64 pos,.int .i32 (Utf8.decode s pos).1])),(S.setB d (some (.iter s (pos+(Utf8.decode s pos).2)))))) (some ((Slot.val (.tuple #[.bool false])),S))
      |_=>none)=some (s,S'):=h
    refine⟨?_,fun e hne=>?_⟩
    ·rcases hb:S.bx d with _|b
     ·rw[hb]at h;cases h
     ·rw[hb]at h;cases b with
      |iter st pos=>
       dsimp only at h;unfold br at h;split at h<;>cases h<;>rfl
      |_=>cases h
    ·rcases hb:S.bx d with _|b
     ·rw[hb]at h;cases h
     ·rw[hb]at h;cases b with
      |iter st pos=>
       dsimp only at h;unfold br at h;split at h
       ·cases h;exact St.setB_ne _ _ hne
       ·cases h;rfl
      |_=>cases h
  |_=>rw[he]at h;cases h
def znQ(t:Option Nat)(a b:Nat→Option Bx):Nat→Option Bx:=match t with
 |none=>b
 |some e=>fun d=>if d=e then a d else b d
theorem zeu{C:Ctx}{fr:Fr}{S S':St}{o:Oper}{s:Slot}{bx2:Nat→Option Bx}(h:opR C fr S o=some (s,S'))(k:opR C fr ⟨bx2,S.hp⟩ o=(opR C fr S o).bind fun p=>some (p.1,(⟨bx2,p.2.hp⟩:St))) :
  opR C fr ⟨bx2,S.hp⟩ o=some (s,⟨znQ none S'.bx bx2,S'.hp⟩):=by
 rw[k,h];rfl
theorem box_bx{C:Ctx}{fr:Fr}{S S':St}{o:Oper}{s:Slot}{bx2:Nat→Option Bx}(e:Nat)(h:opR C fr S o=some (s,S'))(hh:S'.hp=S.hp)(k:opR C fr ⟨bx2,S.hp⟩ o=(opR C fr S o).bind fun p=>some (p.1,St.setB ⟨bx2,S.hp⟩ e (p.2.bx e))) :
  opR C fr ⟨bx2,S.hp⟩ o=some (s,⟨znQ (some e) S'.bx bx2,S'.hp⟩):=by
 rw[k,h,hh];unfold St.setB znQ;simp only[Option.bind_some,Option.some.injEq,Prod.mk.injEq,St.mk.injEq,and_true,true_and];funext d;by_cases q:d=e
 ·subst q;rfl
 ·rw[if_neg q,if_neg q]
theorem zmL{C:Ctx}{S S':St}{bx2:Nat→Option Bx}{d:Option Nat}{T:TypeId}{cs:List Value}{s:Slot}(h:zdf C S d T cs (fun s S'=>some (s,S'))=some (s,S'))(hb:∀e,zjI C d=some e→bx2 e=S.bx e) :
  zdf C ⟨bx2,S.hp⟩ d T cs (fun s S'=>some (s,S'))=some (s,⟨znQ (zjI C d) S'.bx bx2,S'.hp⟩):=by
 unfold zdf at h ⊢;rcases d with _|d
 ·cases h
 ·dsimp only at h ⊢;unfold zjI at hb ⊢;cases he:(C.O.loc C.f).elem d with
  |true=>
   rw[he]at h;dsimp only at h ⊢ hb;rw[he]at hb ⊢;rw[hb d rfl];rcases hq:S.bx d with _|b
   ·rw[hq]at h;cases h;dsimp only;unfold St.setB znQ;simp only[Option.some.injEq,Prod.mk.injEq,St.mk.injEq,and_true,true_and];funext e;by_cases q:e=d
    ·subst q;simp
    ·simp[q]
   ·rw[hq]at h;cases h
  |false=>
   rw[he]at h;dsimp only at h ⊢;rw[he];cases hg:C.O.gt T<;>rw[hg]at h<;>cases h<;>rfl
theorem zhf(s:Slot)(S:St)(b2:Nat→Option Bx)(e:Nat)(c:Option Bx):some (s,St.setB ⟨b2,S.hp⟩ e c)=(some (s,S.setB e c)).bind fun p=>some (p.1,St.setB ⟨b2,S.hp⟩ e (p.2.bx e)):=by simp[St.setB]
theorem zpT(s:Slot)(S:St)(b2:Nat→Option Bx)(e:Nat)(h:b2 e=S.bx e):some (s,(⟨b2,S.hp⟩:St))=(some (s,S)).bind fun p=>some (p.1,St.setB ⟨b2,S.hp⟩ e (p.2.bx e)):=by
 have:St.setB ⟨b2,S.hp⟩ e (S.bx e)=⟨b2,S.hp⟩:=by
  unfold St.setB;simp only[St.mk.injEq,and_true];funext j;split
  ·rename_i q;rw[q,h]
  ·rfl
 simp[this]
theorem eff_bx{C:Ctx}{fr:Fr}{S S':St}{o:Oper}{s:Slot}{bx2:Nat→Option Bx}(h:opR C fr S o=some (s,S'))(hk:zdh C.P o.op=.eff)(hb:∀d,zbJ C fr o=some d→bx2 d=S.bx d) :
  opR C fr ⟨bx2,S.hp⟩ o=some (s,⟨znQ (zbJ C fr o) S'.bx bx2,S'.hp⟩):=by
 have htag:=zoh h hk;have h0:=h;unfold opR opC at h;dsimp only at h;unfold zbJ at hb htag ⊢;cases hop:o.op<;>rw[hop]at h hk hb htag<;>(try dsimp only at h)<;>(try cases h;done)<;>(try cases hk;done)
 case alloc T=>
  unfold opR opC;rw[hop];dsimp only;unfold zf2 at h ⊢;rcases hi:C.P.info? T with _|i
  ·rw[hi]at h;cases h
  ·rw[hi]at h;dsimp only at h ⊢;rcases hz:i.zero with _|z
   ·rw[hz]at h;cases h
   ·rw[hz]at h;dsimp only at h ⊢;cases hc:zdt z with
    |false=>rw[hc]at h;cases h
    |true=>
     rw[hc]at h;dsimp only at h ⊢;cases ha:(zab z).all one with
     |false=>rw[ha]at h;cases h
     |true=>
      rw[ha]at h;exact zmL h hb
 case box T x=>
  unfold opR opC;rw[hop];dsimp only;unfold sV at h ⊢;cases he:ev C.P.globals.size fr x<;>rw[he]at h<;>first | (cases h;done)|exact zmL h hb
 case buildSlice T n p=>
  refine zeu h0 ?_;unfold opR opC;rw[hop]
  try dsimp only
  exact zbo _ fun v=>zby fun _ _ _=>zdX fun _ _=>rfl
 case insert T m key x=>
  refine zeu h0 ?_;unfold opR opC;rw[hop]
  try dsimp only
  exact zaq fun m=>zaq fun key=>zaq fun x=>zbZ fun _ _=>zfE fun _=>rfl
 case convert src dst x=>
  refine zeu h0 ?_;unfold opR opC;rw[hop]
  try dsimp only
  exact zaq fun x=>zgq (fun _=>rfl) (fun _ _=>rfl)
 case makeMap T x=>
  refine zeu h0 ?_;unfold opR opC;rw[hop]
  try dsimp only
  cases x with
  |none=>rfl
  |some x=>exact zaq fun x=>zbZ fun _ _=>ziX rfl
 case makeSlice T l c=>
  refine zeu h0 ?_;unfold opR opC;rw[hop]
  try dsimp only
  exact zaq fun l=>zaq fun c=>zby fun _ _ _=>zes fun _ _=>rfl
 case slice T x lo hi mx=>
  cases mx with
  |some m=>cases h
  |none=>
   refine zeu h0 ?_;unfold opR opC;rw[hop]
   try dsimp only
   refine zaq fun x=>zee fun lo=>zee fun hi=>?_;unfold zdh at hk;dsimp only at hk;rcases h1:C.P.underlying T with _|d
   ·rfl
   ·rw[h1]at hk;cases d<;>first|rfl | (cases hk;done)|skip;rename_i len e;dsimp only;rcases C.P.info? e with _|i
    ·rfl
    ·exact zgg fun _=>rfl
 case mapUpdate T m key x=>
  refine zeu h0 ?_;unfold opR opC;rw[hop]
  try dsimp only
  exact zaq fun m=>zaq fun key=>zaq fun x=>zbZ fun _ _=>zfE fun _=>rfl
 case call c=>
  refine zeu h0 ?_;unfold opR opC;rw[hop]
  try dsimp only
  rcases c.callee with fo|⟨rv,m⟩|b
  ·exact zaq fun fv=>zbo _ fun vs=>zgK fun _ _=>rfl
  ·rfl
  ·refine zbo _ fun vs=>?_;generalize c.argTypes.toList=ts;cases b<;>(try dsimp only)<;>first|rfl|exact ziS fun _=>rfl|skip
   all_goals
    rcases vs with _|⟨x,_|⟨y,_|⟨z,vs⟩⟩⟩<;>rcases ts with _|⟨t,_|⟨u,_|⟨t3,ts⟩⟩⟩<;>(try dsimp only)<;>first|rfl|skip
   ·refine zby fun sz bytes _=>?_;rcases C.P.underlying u with _|d
    ·rfl
    ·cases d<;>first|rfl|exact zfl fun _ _=>rfl
   ·exact zby fun sz _ _=>ziY fun _ _=>rfl
   ·exact zbZ fun kt _=>zlu fun _=>rfl
   ·rcases C.P.underlying t with _|d
    ·rfl
    ·dsimp only;rcases lenK d with _|q
     ·rfl
     ·exact zie fun _=>rfl
 case store T a x=>
  dsimp only at hb htag ⊢;cases he:ev C.P.globals.size fr a with
  |loc d off=>
   rw[he]at hb htag;refine box_bx d h0 htag.1 ?_;unfold opR opC;rw[hop];dsimp only;refine zaq fun v=>zcY fun n agg=>?_;rw[he];dsimp only;rw[hb d rfl];rcases S.bx d with _|b
   ·rfl
   ·cases b with
    |cells cs ro=>cases ro<;>first|rfl|exact zgf fun _=>zhf _ _ _ _ _
    |_=>rfl
  |_=>
   refine zeu h0 ?_;unfold opR opC;rw[hop];dsimp only;refine zaq fun v=>zcY fun n agg=>?_;rw[he]
   first|rfl|exact zhp fun _=>rfl
 case range T x=>
  dsimp only at hb htag ⊢;rcases hd:o.dst with _|d
  ·refine zeu h0 ?_;unfold opR opC;rw[hop];dsimp only;refine zaq fun x=>?_;rw[hd];rcases C.P.underlying T with _|d
   ·rfl
   ·cases d<;>rfl
  ·rw[hd]at hb htag;refine box_bx d h0 htag.1 ?_;unfold opR opC;rw[hop];dsimp only;refine zaq fun x=>?_;rw[hd];rcases C.P.underlying T with _|dd
   ·rfl
   ·cases dd<;>first|rfl|skip;dsimp only;rw[hb d rfl];rcases S.bx d with _|b
    ·exact ziP fun _=>zhf _ _ _ _ _
    ·rfl
 case next it b=>
  dsimp only at hb htag ⊢;cases b with
  |false=>cases h
  |true=>
  try dsimp only at h
  cases he:ev C.P.globals.size fr it with
  |loc d off=>
   rw[he]at h hb htag;cases off with
   |succ n=>cases h
   |zero=>
    refine box_bx d h0 htag.1 ?_;unfold opR opC;rw[hop];dsimp only;rw[he];have hbd:bx2 d=S.bx d:=hb d rfl
    show (match bx2 d with
      |some (.iter s pos)=>br (Nat.blt pos s.size) (some ((Slot.val (.tuple #[.bool true,.int .i64 pos,.int .i32 (Utf8.decode s pos).1])),(St.setB ⟨bx2,S.hp⟩ d (some (.iter s (pos+(Utf8.decode s pos).2)))))) (some ((Slot.val (.tuple #[.bool false])),(⟨bx2,S.hp⟩:St)))
      |_=>none)=(match S.bx d with
      |some (.iter s pos)=>br (Nat.blt pos s.size) (some ((Slot.val (.tuple #[.bool true,.int .i64 pos,.int .i32 (Utf8.decode s pos).1])),(S.setB d (some (.iter s (pos+(Utf8.decode s pos).2)))))) (some ((Slot.val (.tuple #[.bool false])),S))
      |_=>none).bind fun p=>some (p.1,St.setB ⟨bx2,S.hp⟩ d (p.2.bx d))
    rw[hbd];rcases hq:S.bx d with _|b
    ·rfl
    ·cases b with
     |iter st pos=>exact br_nat (zhf _ _ _ _ _) (zpT _ _ _ _ hbd)
     |_=>rfl
  |_=>rw[he]at h;cases h
theorem opR_pr{C:Ctx}{fr:Fr}{S S' S2:St}{o:Oper}{s:Slot}(h:opR C fr S o=some (s,S'))(hp:zdh C.P o.op=.pure∨(zdh C.P o.op=.read∧S2=S)) :
  S'=S∧opR C fr S2 o=some (s,S2):=by
 unfold opR at h;rw[zmI C fr S S2 o _ hp]at h;have hs:opC C fr S2 o (fun s _=>some s)=some s∧S=S':=by
  cases hq:opC C fr S2 o (fun s _=>some s) with
  |none=>rw[hq]at h;cases h
  |some q=>rw[hq]at h;cases h;exact⟨rfl,rfl⟩
 refine⟨hs.2.symm,?_⟩;unfold opR;rw[zmI C fr S2 S2 o _ (hp.imp id fun q=>⟨q.1,rfl⟩),hs.1];rfl
theorem read_same{C:Ctx}{fr:Fr}{S S2:St}{o:Oper}{s:Slot}(h:opR C fr S o=some (s,S))(hk:zdh C.P o.op=.read)(hs:zmf (zbJ C fr o) S S2):opR C fr S2 o=some (s,S2):=by
 have key:opC C fr S2 o (fun s _=>some s)=opC C fr S o (fun s _=>some s):=by
  unfold opC;dsimp only;unfold zbJ at hs;cases hop:o.op<;>rw[hop]at hk hs<;>(try dsimp only)<;>(try cases hk;done)
  case load T a=>
   dsimp only at hs;cases he:ev C.P.globals.size fr a with
   |loc d off=>
    rw[he]at hs;have hs:S2.bx d=S.bx d:=hs;dsimp only;rw[hs]
   |val p=>
    rw[he]at hs;have hs:S2.hp=S.hp:=hs;dsimp only;rw[hs]
   |_=>rfl
  case lookup T m key ok=>
   have hs:S2.hp=S.hp:=hs;rw[hs]
  case convert src dst x=>
   unfold zdh at hk;dsimp only at hk;split at hk<;>cases hk
  case slice T x lo hi mx=>
   unfold zdh at hk;dsimp only at hk;split at hk<;>cases hk
  case call c=>
   obtain⟨callee,args,ats⟩:=c;rcases callee with fo|⟨rv,m⟩|b
   ·cases hk
   ·rfl
   ·have hs:S2.hp=S.hp:=hs;cases b<;>first|cases hk;done|skip
    rw[hs]
 unfold opR at h ⊢;rw[zmI C fr S S o _ (.inr ⟨hk,rfl⟩)]at h;rw[zmI C fr S2 S2 o _ (.inr ⟨hk,rfl⟩),key];cases hq:opC C fr S o (fun s _=>some s) with
 |none=>rw[hq]at h;cases h
 |some q=>rw[hq]at h;cases h;rfl
theorem zim{α:Type}{p:Prop}{k:Option α}{r:α}(h:chk p k=some r):p∧k=some r:=by
 unfold chk at h;split at h
 ·exact⟨by assumption,h⟩
 ·cases h
theorem zpx{α:Type}{G:Nat}{fr:Fr}{r:α}:∀(xs:List Operand) (f:List Value→Option α),evs G fr xs f=some r→∃vs,f vs=some r∧∀{γ:Type} (g:List Value→Option γ),evs G fr xs g=g vs
 |[],f,h=>⟨[],h,fun g=>rfl⟩
 |x::xs,f,h=>by
  unfold evs at h;unfold sV at h;split at h
  ·rename_i v hv;obtain⟨vs,h1,h2⟩:=zpx xs _ h;refine⟨v::vs,h1,fun g=>?_⟩;unfold evs;rw[hv];exact h2 _
  ·cases h
theorem again_ok{α:Type}{C:Ctx}{fr:Fr}{S S2:St}{o:Oper}{s:Slot}{k:Option α}{r:α}(h:opR C fr S o=some (s,S))(hk:zdh C.P o.op=.read)(ha:zhy C fr S2 o s k=some r):k=some r∧opR C fr S2 o=some (s,S2):=by
 have key:k=some r∧opC C fr S2 o (fun s _=>some s)=some s:=by
  unfold zhy at ha;dsimp only at ha;split at ha
  ·rename_i v;unfold opC;dsimp only;split at ha
   ·rename_i T a hop;rw[hop];dsimp only;unfold tyC at ha ⊢;split at ha
    ·cases ha
    ·split at ha
     ·cases ha
     ·rename_i i hi _ d hd;dsimp only at ha ⊢;split at ha
      ·rename_i d off he
       try dsimp only at ha ⊢
       split at ha
       ·rename_i cs ro hb;obtain⟨h1,h2⟩:=zim ha;exact⟨h2,by (try dsimp only);unfold zai;rw[h1]⟩
       ·cases ha
      ·rename_i p he;obtain⟨h1,h2⟩:=zim ha;exact⟨h2,by (try dsimp only);unfold zal;rw[h1]⟩
      ·cases ha
   ·rename_i T m key ok hop;rw[hop];dsimp only;unfold sV at ha ⊢;split at ha
    ·rename_i mv hm;split at ha
     ·rename_i kv hkv;simp only[hm,hkv];unfold mapC zf2 at ha ⊢;split at ha
      ·rename_i kt et hu;split at ha
       ·rename_i hko;split at ha
        ·cases ha
        ·rename_i i hi;split at ha
         ·cases ha
         ·rename_i z hz;split at ha
          ·rename_i hc;obtain⟨h1,h2⟩:=zim ha;refine⟨h2,?_⟩;simp only[hu,hko,hi,hz,hc];unfold zbj at h1 ⊢;split at h1
           ·dsimp only;split at h1<;>cases h1<;>rfl
           ·cases h1
          ·cases ha
       ·cases ha
      ·cases ha
     ·cases ha
    ·cases ha
   ·rename_i c hop;rw[hop]at hk ⊢;obtain⟨callee,args,ats⟩:=c;rcases callee with fo|⟨rv,m⟩|b
    ·cases hk
    ·cases hk
    ·cases b<;>first|cases hk;done|skip
     obtain⟨vs,h1,h2⟩:=zpx _ _ ha;refine(?_:k=some r∧evs C.P.globals.size fr args.toList _=some (Slot.val v));rw[h2];generalize ats.toList=ts at h1 ⊢;rcases vs with _|⟨x,_|⟨y,vs⟩⟩<;>rcases ts with _|⟨t,_|⟨u,ts⟩⟩<;>(try cases h1;done)
     dsimp only at h1 ⊢;rcases hu:C.P.underlying t with _|d
     ·rw[hu]at h1;cases h1
     ·rw[hu]at h1;dsimp only at h1 ⊢;rcases hq:lenK d with _|q
      ·rw[hq]at h1;cases h1
      ·rw[hq]at h1;dsimp only at h1 ⊢;obtain⟨g1,g2⟩:=zim h1;refine⟨g2,?_⟩;unfold pLen;rw[g1]
   ·cases ha
  ·cases ha
 refine⟨key.1,?_⟩;unfold opR;rw[zmI C fr S2 S2 o _ (.inr ⟨hk,rfl⟩),key.2];rfl
end
end Go.AM
namespace Go.AM
open List Go
theorem zdj{α:Type}{G:Nat}{fr fr':Fr}:∀(xs:List Operand) (k:List Value→Option α),(∀x∈xs,ev G fr x=ev G fr' x)→evs G fr xs k=evs G fr' xs k
 |[],k,h=>rfl
 |x::xs,k,h=>by unfold evs;rw[h x (mem_cons_self ..)];congr 1;funext v;exact zdj xs _ fun y hy=>h y (mem_cons_of_mem _ hy)
theorem zkn{α:Type}{G:Nat}{fr fr':Fr}(x:Option Operand)(k:Option Value→Option α)(h:∀y,x=some y→ev G fr y=ev G fr' y):optV G fr x k=optV G fr' x k:=by
 cases x with
 |none=>rfl
 |some x=>unfold optV;dsimp only;rw[h x rfl]
theorem opR_congr{C:Ctx}{fr fr':Fr}{S:St}{o:Oper}(h:∀x∈o.op.operands,ev C.P.globals.size fr x=ev C.P.globals.size fr' x):opR C fr S o=opR C fr' S o:=by
 unfold opR opC;dsimp only;cases hop:o.op<;>rw[hop]at h<;>(try dsimp only)<;>(try rfl)
 case move x=>
  have hx:=h x (by simp[Op.operands]);simp only[hx]
 case assign x=>
  have hx:=h x (by simp[Op.operands]);simp only[hx]
 case pick c a b=>
  have hc:=h c (by simp[Op.operands]);have ha:=h a (by simp[Op.operands]);have hb:=h b (by simp[Op.operands]);simp only[hc,ha,hb]
 case box T x=>
  have hx:=h x (by simp[Op.operands]);simp only[hx]
 case insert T m y x=>
  have hm:=h m (by simp[Op.operands]);have hy:=h y (by simp[Op.operands]);have hx:=h x (by simp[Op.operands]);simp only[hm,hy,hx]
 case load T a=>
  have ha:=h a (by simp[Op.operands]);simp only[ha]
 case store T a x=>
  have ha:=h a (by simp[Op.operands]);have hx:=h x (by simp[Op.operands]);simp only[ha,hx]
 case nilCheck x=>
  have hx:=h x (by simp[Op.operands]);simp only[hx]
 case binOp op T x y T'=>
  have hx:=h x (by simp[Op.operands]);have hy:=h y (by simp[Op.operands]);simp only[hx,hy]
 case unOp op T x=>
  have hx:=h x (by simp[Op.operands]);simp only[hx]
 case convert src dst x=>
  have hx:=h x (by simp[Op.operands]);simp only[hx]
 case makeSlice T l c=>
  have hl:=h l (by simp[Op.operands]);have hc:=h c (by simp[Op.operands]);simp only[hl,hc]
 case fieldAddr T x f=>
  have hx:=h x (by simp[Op.operands]);simp only[hx]
 case field T x f=>
  have hx:=h x (by simp[Op.operands]);simp only[hx]
 case indexAddr T x i=>
  have hx:=h x (by simp[Op.operands]);have hi:=h i (by simp[Op.operands]);simp only[hx,hi]
 case index T x i=>
  have hx:=h x (by simp[Op.operands]);have hi:=h i (by simp[Op.operands]);simp only[hx,hi]
 case lookup T m y ok=>
  have hm:=h m (by simp[Op.operands]);have hy:=h y (by simp[Op.operands]);simp only[hm,hy]
 case mapUpdate T m y x=>
  have hm:=h m (by simp[Op.operands]);have hy:=h y (by simp[Op.operands]);have hx:=h x (by simp[Op.operands]);simp only[hm,hy,hx]
 case range T x=>
  have hx:=h x (by simp[Op.operands]);simp only[hx]
 case next x b=>
  have hx:=h x (by simp[Op.operands]);cases b with
  |false=>rfl
  |true=>dsimp only;rw[hx]
 case extract t i=>
  have ht:=h t (by simp[Op.operands]);simp only[ht]
 case makeInterface T x=>
  have hx:=h x (by simp[Op.operands]);simp only[hx]
 case typeAssert x T' T ok=>
  have hx:=h x (by simp[Op.operands]);simp only[hx]
 case build T p=>
  refine zdj _ _ fun x hx=>h x ?_;simp only[Op.operands];exact mem_toArray.2 hx
 case buildSlice T n p=>
  refine zdj _ _ fun x hx=>h x ?_;simp only[Op.operands];exact mem_toArray.2 hx
 case makeFunc fn first captured=>
  rw[zdj first.toList _ fun x hx=>h x (by simp[Op.operands];exact .inl (by simpa using hx))];congr 1;funext fs;exact zdj captured.toList _ fun x hx=>h x (by simp[Op.operands];exact .inr (by simpa using hx))
 case makeMap T x=>
  cases x with
  |none=>rfl
  |some x=>
   have hx:=h x (by simp[Op.operands]);simp only[hx]
 case slice T x lo hi mx=>
  have hx:=h x (by simp[Op.operands]);cases mx with
  |some m=>rfl
  |none=>
   dsimp only;rw[hx];congr 1;funext v;rw[zkn lo _ fun y hy=>h y (by subst hy;simp[Op.operands])];congr 1;funext l;rw[zkn hi _ fun y hy=>h y (by subst hy;simp[Op.operands])]
 case call c=>
  obtain⟨callee,args,ats⟩:=c;have ha:∀x∈args.toList,ev C.P.globals.size fr x=ev C.P.globals.size fr' x:=fun x hx=>h x (by simp[Op.operands,Call.operands];exact .inr (by simpa using hx));rcases callee with fo|⟨rv,m⟩|b
  ·have hf:=h fo (by simp[Op.operands,Call.operands]);dsimp only;rw[hf];congr 1;funext v;exact zdj _ _ ha
  ·rfl
  ·exact zdj _ _ ha
theorem zlM{P:Program}{O:Orc}{f:FuncId}{ops:List Oper}{an:List Nat}(h:zgl P O f ops an=true){j:Nat}{o:Oper}(ho:ops[j]?=some o):∀e∈o.after,Region.binds .any e=true→e.on<j:=by intro e he hb;unfold zgl at h;rw[all_eq_true]at h;have:=h j (mem_range.2 (List.getElem?_eq_some_iff.1 ho).1);rw[Bool.and_eq_true,ho]at this;have h1:=all_eq_true.1 this.1 e (by simpa using he);rw[hb]at h1;exact Nat.le_of_ble_eq_true (by simpa[Nat.blt] using h1)
theorem zdi{P:Program}{O:Orc}{f:FuncId}{ops:List Oper}{an:List Nat}(h:zgl P O f ops an=true){i j:Nat}{a b:Oper}(hij:i<j)(ha:ops[i]?=some a)(hb:ops[j]?=some b) :
  (an.getD j 0).testBit i=true∨(zqo ops a b=false∧¬(zca P O f a=.eff∧zca P O f b=.eff)):=by
 unfold zgl at h;rw[all_eq_true]at h;have:=h j (mem_range.2 (List.getElem?_eq_some_iff.1 hb).1);rw[Bool.and_eq_true]at this;have h1:=all_eq_true.1 this.2 i (mem_range.2 hij);rw[ha,hb]at h1;dsimp only at h1;rw[Bool.or_eq_true]at h1;rcases h1 with h1|h1
 ·exact .inl h1
 ·refine .inr ⟨?_,fun⟨ka,kb⟩=>?_⟩
  ·cases hc:zqo ops a b with
   |false=>rfl
   |true=>rw[hc]at h1;cases h1
  ·rw[ka,kb]at h1;cases hc:zqo ops a b<;>rw[hc]at h1<;>cases h1
def bitsOf(acc:List Nat)(s:Nat)(es:List Edge):Nat:=es.foldl (fun s e=>match Region.binds .any e with|true=>s|||2^e.on|||acc.getD e.on 0|false=>s) s
theorem zjJ{acc:List Nat}{l:Nat}:∀(es:List Edge) (s:Nat),(bitsOf acc s es).testBit l=true→s.testBit l=true∨∃e∈es,Region.binds .any e=true∧(l=e.on∨(acc.getD e.on 0).testBit l=true)
 |[],s,h=>.inl h
 |e::es,s,h=>by
  unfold bitsOf at h;rw[foldl_cons]at h;rcases zjJ es _ h with h1|⟨e',he',h2⟩
  ·split at h1
   ·rename_i hb;rw[Nat.testBit_or,Nat.testBit_or,Bool.or_eq_true,Bool.or_eq_true,Nat.testBit_two_pow]at h1;rcases h1 with (h1|h1)|h1
    ·exact .inl h1
    ·exact .inr ⟨e,mem_cons_self ..,hb,.inl (of_decide_eq_true h1).symm⟩
    ·exact .inr ⟨e,mem_cons_self ..,hb,.inr h1⟩
   ·exact .inl h1
  ·exact .inr ⟨e',mem_cons_of_mem _ he',h2⟩
theorem anc_in{ops:List Oper}{D:Nat→Prop}(hD:∀(i:Nat) o,D i→ops[i]?=some o→∀e∈o.after,Region.binds .any e=true→D e.on) :
  ∀(j:Nat) o,ops[j]?=some o→(∀e∈o.after,Region.binds .any e=true→D e.on)→∀l,((ancs ops).getD j 0).testBit l=true→D l:=by
 have key:∀(rest:List Oper) (acc:List Nat),ops.drop acc.length=rest →
   (∀(j:Nat) o,ops[j]?=some o→(∀e∈o.after,Region.binds .any e=true→D e.on)→∀l,(acc.getD j 0).testBit l=true→D l) →
   ∀(j:Nat) o,ops[j]?=some o→(∀e∈o.after,Region.binds .any e=true→D e.on)→∀l,((rest.foldl (fun acc o=>acc++[bitsOf acc 0 o.after.toList]) acc).getD j 0).testBit l=true→D l:=by
  intro rest;induction rest with
  |nil=>intro acc _ h;exact h
  |cons p rest ih=>
   intro acc hd h;rw[foldl_cons];have hp:ops[acc.length]?=some p:=by
    have:(ops.drop acc.length)[0]?=some p:=by rw[hd];rfl
    rw[List.getElem?_drop]at this;simpa using this
   refine ih _ (by rw[length_append,←drop_drop,hd];rfl) ?_;intro j o ho he l hl;rw[getD_eq_getElem?_getD]at hl;rcases Nat.lt_trichotomy j acc.length with q|q|q
   ·rw[List.getElem?_append_left q,←getD_eq_getElem?_getD]at hl;exact h j o ho he l hl
   ·subst q;rw[List.getElem?_append_right (Nat.le_refl _)]at hl;simp only[Nat.sub_self,List.getElem?_cons_zero,Option.getD_some]at hl;rw[hp]at ho;cases ho;rcases zjJ _ _ hl with h1|⟨e,hm,hb,h1⟩
    ·simp at h1
    ·have hm':e∈p.after:=by simpa using hm
     rcases h1 with rfl|h1
     ·exact he e hm' hb
     ·have hDe:=he e hm' hb;cases hoe:ops[e.on]? with
      |some oe=>exact h e.on oe hoe (fun e' he' hb'=>hD e.on oe hDe hoe e' he' hb') l h1
      |none=>
       have hlen:acc.length≤e.on:=by have h1:=(List.getElem?_eq_some_iff.1 hp).1;have h2:=List.getElem?_eq_none_iff.1 hoe;omega
       rw[getD_eq_getElem?_getD,List.getElem?_eq_none hlen]at h1;simp at h1
   ·rw[List.getElem?_eq_none (by simp;omega)]at hl;simp at hl
 intro j o ho he l hl;refine key ops [] rfl ?_ j o ho he l ?_
 ·intro j o _ _ l hl;simp at hl
 ·exact hl
def zdB(ops:List Oper)(fr:Fr)(o:Oper):Option Bool:=zen ops fr o fun b _=>some b
theorem set_same{fr:Fr}{d:Nat}{v:Value}(h:getS fr d=.val v):fr.set d (.val v)=fr:=by
 apply ext_getElem?;intro i;rw[List.getElem?_set];split
 ·rename_i e;subst e;unfold getS at h;rw[getD_eq_getElem?_getD]at h;cases hq:fr[d]? with
  |none=>rw[hq]at h;cases h
  |some s=>rw[hq]at h;rw[if_pos (List.getElem?_eq_some_iff.1 hq).1];rw[←h];rfl
 ·rfl
theorem zqf{α:Type}{ops:List Oper}{fr:Fr}{o:Oper}{k:Bool→Fr→Option α}{r:α}(h:zen ops fr o k=some r):∃b,zdB ops fr o=some b∧k b fr=some r:=by
 unfold zdB;unfold zen at h ⊢;split at h
 ·exact⟨true,rfl,h⟩
 ·split at h
  ·split at h
   ·split at h
    ·exact⟨false,rfl,h⟩
    ·rename_i d _ _ hne;unfold sV at h ⊢;split at h
     ·rename_i v hv;dsimp only at h ⊢;unfold zaa at h ⊢;split at h
      ·rename_i b;dsimp only at h ⊢;unfold br at h ⊢;cases b with
       |true=>
        dsimp only at h ⊢;rw[set_same hv]at h;exact⟨_,rfl,h⟩
       |false=>
        dsimp only at h ⊢;rw[set_same hv]at h;exact⟨_,rfl,h⟩
      ·cases h
     ·cases h
   ·cases h
  ·cases h
theorem zhT{ops:List Oper}{fr fr':Fr}{o:Oper}(h:∀t∈zdl ops o,getS fr t=getS fr' t):zdB ops fr o=zdB ops fr' o:=by
 unfold zdB zen;cases hg:o.guard with
 |none=>rfl
 |some jw=>
  obtain⟨j,want⟩:=jw;dsimp only;cases hj:ops[j]? with
  |none=>rfl
  |some g=>
   dsimp only;cases hd:g.dst with
   |none=>rfl
   |some d=>
    dsimp only;have hm:d∈zdl ops o:=by unfold zdl;rw[hg];dsimp only;rw[hj];dsimp only;rw[hd];exact mem_append_right _ (by simp)
    rw[h d hm]
theorem zpy{ops:List Oper}{G:Nat}{fr fr':Fr}{o:Oper}(h:∀t∈zdl ops o,getS fr t=getS fr' t):∀x∈o.op.operands,ev G fr x=ev G fr' x:=by
 intro x hx;cases x with
 |tmp t=>
  refine h t ?_;unfold zdl;exact mem_append_left _ (mem_filterMap.2 ⟨.tmp t,by simpa using hx,rfl⟩)
 |_=>rfl
theorem zgr{ops:List Oper}{a b:Oper}(h:zqo ops a b=false):(∀d,a.dst=some d→d∉zdl ops b∧b.dst≠some d)∧(∀d,b.dst=some d→d∉zdl ops a):=by
 unfold zqo at h;rw[Bool.or_eq_false_iff]at h;refine⟨fun d hd=>?_,fun d hd=>?_⟩
 ·have:=h.1;rw[hd]at this;dsimp only at this;rw[Bool.or_eq_false_iff]at this;refine⟨fun hm=>?_,fun hq=>?_⟩
  ·have h1:(zdl ops b).elem d=true:=by simpa using hm
   rw[h1]at this;cases this.1
  ·rw[hq]at this;simp at this
 ·have:=h.2;rw[hd]at this;dsimp only at this;intro hm;have h1:(zdl ops a).elem d=true:=by simpa using hm
  rw[h1]at this;cases this
theorem zhC{β:Bt}{v:Value}(h:zfy v=true):VRel β v v:=by unfold zfy at h;split at h<;>first|constructor|cases h
theorem zda{β:Bt}{v:Value}(h:zdt v=true):VRel β v v:=by
 have aux:∀l:List Value,l.all zfy=true→LRel β l l:=fun l hl=>⟨rfl,fun k u u' hu hu'=>by
  rw[hu]at hu';cases hu'
  exact zhC (all_eq_true.1 hl u (mem_of_getElem? hu))⟩
 unfold zdt at h;split at h
 ·exact zcP.2 ⟨_,rfl,aux _ h⟩
 ·exact zch.2 ⟨_,rfl,aux _ h⟩
 ·exact zhC h
theorem zeQ{P:Program}{N:Nat}{w:World}{H:Hp}{bx:Nat→Option Bx}{β:Bt}{lam:Nat→Nat}{fr:Fr}{a:Act}
  (hR:Rel P w H β) (hF:FRel N w bx β lam fr a) (x:Operand):SRel β lam bx (ev P.globals.size fr x) (a.eval x):=by
 cases x with
 |tmp t=>
  show SRel β lam bx (getS fr t) (a.tmps.getD t undef);unfold getS;cases h:fr[t]? with
  |none=>rw[getD_eq_getElem?_getD,h];trivial
  |some s=>rw[getD_eq_getElem?_getD,h];exact hF.slot t s h
 |const v=>
  simp only[ev,Act.eval];cases h:zdt v with
  |true=>exact zda h
  |false=>trivial
 |global g=>
  simp only[ev,Act.eval];cases h:Nat.blt g P.globals.size with
  |true=>
   obtain⟨t,ht⟩:=hR.glob g (by have:=h;simp[Nat.blt]at this;omega);exact VRel.ptr (β:=β) g 0 _ ht
  |false=>trivial
 |func f=>exact .func _ _ _ _ _ rfl (by simp) rfl (by simp)
section
variable {α:Type}
theorem sV_inv{s:Slot}{k:Value→Option α}{r:α}(h:sV s k=some r):∃v,s=.val v∧k v=some r:=by
 unfold sV at h;split at h
 ·exact⟨_,rfl,h⟩
 ·cases h
theorem za2{P:Program}{N:Nat}{w:World}{H:Hp}{bx:Nat→Option Bx}{β:Bt}{lam:Nat→Nat}{fr:Fr}{a:Act}
  (hR:Rel P w H β) (hF:FRel N w bx β lam fr a) {x:Operand} {k:Value→Option α} {r:α} (h:sV (ev P.globals.size fr x) k=some r) :
  ∃v,VRel β v (a.eval x)∧k v=some r:=by
 obtain⟨v,hv,hk⟩:=sV_inv h;have:=zeQ hR hF x;rw[hv]at this;exact⟨v,this,hk⟩
theorem zft{P:Program}{N:Nat}{w:World}{H:Hp}{bx:Nat→Option Bx}{β:Bt}{lam:Nat→Nat}{fr:Fr}{a:Act}
  (hR:Rel P w H β) (hF:FRel N w bx β lam fr a):∀(xs:List Operand) {k:List Value→Option α} {r:α},evs P.globals.size fr xs k=some r →
  ∃vs,LRel β vs (xs.map a.eval)∧k vs=some r
 |[],k,r,h=>⟨[],LRel.nil _,h⟩
 |x::xs,k,r,h=>by unfold evs at h;obtain⟨v,hv,hk⟩:=za2 hR hF h;obtain⟨vs,hvs,hk⟩:=zft hR hF xs hk;exact⟨v::vs,hvs.cons hv,hk⟩
def ORel(β:Bt)(v v':Option Value):Prop:=match v,v' with|none,none=>True|some v,some v'=>VRel β v v'|_,_=>False
theorem zpc{P:Program}{N:Nat}{w:World}{H:Hp}{bx:Nat→Option Bx}{β:Bt}{lam:Nat→Nat}{fr:Fr}{a:Act}
  (hR:Rel P w H β) (hF:FRel N w bx β lam fr a) {x:Option Operand} {k:Option Value→Option α} {r:α} (h:optV P.globals.size fr x k=some r) :
  ∃v:Option Value,k v=some r∧ORel β v (x.map a.eval):=by
 cases x with
 |none=>exact⟨none,h,trivial⟩
 |some x=>
  obtain⟨v,hv,hk⟩:=za2 hR hF h;exact⟨some v,hk,hv⟩
theorem zha{P:Program}{T:TypeId}{k:Nat→Bool→Option α}{r:α}(h:tyC P T k=some r) :
  ∃i d,P.info? T=some i∧P.underlying T=some d∧k i.size (aggD d)=some r:=by
 unfold tyC at h;split at h
 ·cases h
 ·split at h
  ·cases h
  ·exact⟨_,_,by assumption,by assumption,h⟩
theorem zgv{P:Program}{T:TypeId}{k:Value→Option α}{r:α}(h:zf2 P T k=some r) :
  ∃i z,P.info? T=some i∧i.zero=some z∧zdt z=true∧k z=some r:=by
 unfold zf2 at h;split at h
 ·cases h
 ·split at h
  ·cases h
  ·split at h
   ·exact⟨_,_,by assumption,by assumption,by assumption,h⟩
   ·cases h
end
section
variable {P:Program}(w:World)
theorem zde{T:TypeId}{i:TypeInfo}(h:P.info? T=some i):(typeInfo T).run P w=.ok i w:=by simp[typeInfo,h]
theorem zaQ{T:TypeId}{i:TypeInfo}(h:P.info? T=some i):(sizeOf T).run P w=.ok i.size w:=by simp[sizeOf,zde w h]
theorem zan{T:TypeId}{d:TypeDesc}(h:P.underlying T=some d):(underlying T).run P w=.ok d w:=by simp[underlying,h]
theorem zmh{T:TypeId}{d:TypeDesc}(h:P.underlying T=some d):(isAgg T).run P w=.ok (aggD d) w:=by simp only[isAgg,Sem.run_bind,zan w h,Result.andThen_ok];cases d<;>rfl
theorem zbA{T:TypeId}{i:TypeInfo}{z:Value}(h:P.info? T=some i)(hz:i.zero=some z):(zeroValue T).run P w=.ok z w:=by simp[zeroValue,zde w h,hz]
end
theorem zdM{P:Program}{w:World}{β:Bt}{cs:List Value}{b s off:Nat}{T:TypeId}{i:TypeInfo}{d:TypeDesc}(hi:P.info? T=some i)(hd:P.underlying T=some d)
  (hc:∀(j:Nat) u,cs[j]?=some u→∃u',w.cell? ⟨b,s+j,none⟩=some u'∧VRel β u u') {v:Value} (hv:zct cs off i.size (aggD d)=some v) :
  ∃v',(loadVar T ⟨b,s+off,none⟩).run P w=.ok v' w∧VRel β v v':=by
 unfold zct at hv;simp only[loadVar,Sem.run_bind,zmh w hd,Result.andThen_ok];cases ha:aggD d with
 |true=>
  rw[ha]at hv;dsimp only at hv;split at hv
  ·rename_i hl;cases hv;have hlen:((cs.drop off).take i.size).length=i.size:=by simp;omega
   obtain⟨l',hr,hrel⟩:=zc2 (P:=P) (w:=w) (b:=b) (off:=s+off) (β:=β) (l:=(cs.drop off).take i.size) (fun j u hu=>by
    rw[List.getElem?_take]at hu;split at hu
    ·rw[List.getElem?_drop]at hu;rw[show s+off+j=s+(off+j) by omega];exact hc _ u hu
    ·cases hu)
   rw[hlen]at hr;refine⟨.agg l'.toArray,?_,zcP.2 ⟨_,rfl,by simpa using hrel⟩⟩;simp only[if_true,Sem.run_bind,zaQ w hi,Result.andThen_ok,hr,Sem.run_pure]
  ·cases hv
 |false=>
  rw[ha]at hv;dsimp only at hv;obtain⟨v',h1,h2⟩:=hc off v hv;exact⟨v',by simp only[Bool.false_eq_true,if_false,run_load,h1],h2⟩
theorem zir{n off:Nat}{cs cs':List Value}{v:Value}(h:za8 n cs off v=some cs') :
  (zab v).length=n∧off+n≤cs.length∧(zab v).all one=true∧cs'=spl cs off (zab v):=by
 unfold za8 at h;split at h
 ·rename_i hc;cases h;exact⟨hc.1,hc.2.1,hc.2.2,rfl⟩
 ·cases h
theorem zlU{β:Bt}{l l':List Value}(h:LRel β l l')(ha:l.all one=true):l'.all Value.oneCell'=true:=by rw[all_eq_true]at ha ⊢;intro x hx;obtain⟨k,hk,rfl⟩:=getElem_of_mem hx;have hk2:k<l.length:=h.1▸hk;rw[(h.2 k l[k] l'[k] (by simp[hk2]) (by simp[hk])).one_eq];exact ha _ (getElem_mem hk2)
theorem zfh{P:Program}{w:World}{β:Bt}{T:TypeId}{i:TypeInfo}(hi:P.info? T=some i){v v':Value}(hv:VRel β v v')(hn:(zab v).length=i.size)(h1:(zab v).all one=true)
  {b off:Nat} {arr:Array Value} {e:TypeId} {fz:Nat×Nat} (hw:w.heap[b]?=some (.cells arr e fz)) (hfz:∀j,j<arr.size→¬(fz.1≤j∧j<fz.2)) (hl:off+i.size≤arr.size) :
  ∃w',(storeVar T ⟨b,off,none⟩ v').run P w=.ok () w'∧Put w b off v'.cells.toList w':=by
 have hc:=hv.cells;have hl':v'.cells.toList.length=i.size:=by rw[←hc.1];exact hn
 obtain⟨w',hr,hp⟩:=zdc P b off arr e fz hfz v'.cells.toList 0 w arr hw rfl (by omega) (zlU hc h1);refine⟨w',?_,by simpa using hp⟩;have hsz:v'.cells.size=i.size:=by simpa using hl'
 simp only[storeVar,Sem.run_bind,zaQ w hi,Result.andThen_ok,hsz,ne_eq,not_true_eq_false,if_false,hr]
def RunTo(P:Program)(a:Act)(o:Oper)(w:World)(v':Value)(w':World):Prop:=
 (execOp a.eval o).run P w=.ok (.value v') w'∨((execOp a.eval o).run P w=.ok .skip w'∧v'=undef)
def Step{α:Type}(P:Program)(N:Nat)(w:World)(S:St)(β:Bt)(lam:Nat→Nat)(fr:Fr)(a:Act)(o:Oper)(k:Slot→St→Option α)(r:α):Prop:=
 ∃s S' w' v' β' lam',k s S'=some r∧RunTo P a o w v' w'∧Rel P w' S'.hp β'∧FRel N w' S'.bx β' lam' fr a∧SRel β' lam' S'.bx s v'∧Ext N w S.hp β w' S'.hp β'∧BMv S.bx lam S'.bx lam'
section
variable {α:Type}{P:Program}{N:Nat}{w:World}{S:St}{β:Bt}{lam:Nat→Nat}{fr:Fr}{a:Act}{o:Oper}{k:Slot→St→Option α}{r:α}
theorem Step.val(hR:Rel P w S.hp β)(hF:FRel N w S.bx β lam fr a){s:Slot}{v':Value}(hk:k s S=some r)(hr:(execOp a.eval o).run P w=.ok (.value v') w)(hs:SRel β lam S.bx s v') :
  Step P N w S β lam fr a o k r:=⟨s,S,w,v',β,lam,hk,.inl hr,hR,hF,hs,Ext.refl _ _ _ _,BMv.refl _ _⟩
theorem Step.heap(hN:N≤w.heap.size)(hR:Rel P w S.hp β)(hF:FRel N w S.bx β lam fr a){s:Slot}{v':Value}{w':World}{H':Hp}{β':Bt}(hk:k s ⟨S.bx,H'⟩=some r)
  (hr:RunTo P a o w v' w') (hR':Rel P w' H' β') (hE:Ext w.heap.size w S.hp β w' H' β') (hs:SRel β' lam S.bx s v') :
  Step P N w S β lam fr a o k r:=⟨s,⟨S.bx,H'⟩,w',v',β',lam,hk,hr,hR',hF.ext hR.has hE,hs,hE.weaken hN,BMv.refl _ _⟩
end
theorem zjH{N:Nat}{w:World}{bx:Nat→Option Bx}{β:Bt}{lam:Nat→Nat}{fr:Fr}{a:Act}(hF:FRel N w bx β lam fr a){d:Nat}{cs:List Value}{ro:Bool}
  (h:bx d=some (.cells cs ro)):∃arr e,w.heap[lam d]?=some (.cells arr e (0,0))∧LRel β cs arr.toList:=(hF.box d _ h).2.2.2
theorem zkM{w:World}{b:Nat}{arr:Array Value}{e:TypeId}{fz:Nat×Nat}{β:Bt}{cs:List Value}(hw:w.heap[b]?=some (.cells arr e fz))(h:LRel β cs arr.toList) :
  ∀(j:Nat) u,cs[j]?=some u→∃u',w.cell? ⟨b,0+j,none⟩=some u'∧VRel β u u':=fun j u hu=>by
 obtain⟨u',hu',hr⟩:=h.get hu;exact⟨u',zcp.2 ⟨arr,e,fz,hw,by simpa using hu'⟩,hr⟩
section
variable {α:Type}{C:Ctx}{N:Nat}{w:World}{S:St}{β:Bt}{lam:Nat→Nat}{fr:Fr}{a:Act}{o:Oper}{k:Slot→St→Option α}{r:α}
theorem zlh{P:Program}{w:World}{H:Hp}{β:Bt}(hR:Rel P w H β){T:TypeId}{i:TypeInfo}{d:TypeDesc}(hi:P.info? T=some i)(hd:P.underlying T=some d){i0 off:Nat}{cs:Array Value}{e:TypeId}{fz:Nat×Nat}
  (hg:H.get i0=some (.fix (.cells cs e fz))) {y:BI} (hy:β i0=some y) {v:Value}
  (hv:(match aggD d with|true=>none|false=>match cs.toList[off]? with|some (.int kd z)=>some (Value.int kd z)|_=>none)=some v) :
  ∃v',(loadVar T ⟨y.b,y.s+off,none⟩).run P w=.ok v' w∧VRel β v v':=by
 obtain⟨y',hy',h0,h1⟩:=hR.fix i0 _ hg;rw[hy]at hy';cases hy';split at hv
 ·cases hv
 ·rename_i ha;split at hv
  ·rename_i kd z hc;cases hv;have hcell:w.cell? ⟨y.b,y.s+off+0,none⟩=some (.int kd z):=by rw[h0,Nat.zero_add,Nat.add_zero];exact zcp.2 ⟨cs,e,fz,h1,by simpa using hc⟩
   exact zdM (s:=y.s+off) (cs:=[.int kd z]) (off:=0) hi hd (fun j u hu=>by
    match j,hu with
    |0,hu=>cases hu;exact⟨_,hcell,.int _ _⟩
    |k+1,hu=>simp at hu) (by rw[ha];rfl)
  ·cases hv
theorem sim_load{T:TypeId}{x:Operand}(ho:o.op=.load T x)(h:opC C fr S o k=some r)(hR:Rel C.P w S.hp β)(hF:FRel N w S.bx β lam fr a):Step C.P N w S β lam fr a o k r:=by
 simp only[opC,ho]at h;obtain⟨i,d,hi,hd,h⟩:=zha h;have hx:=zeQ hR hF x;split at h
 ·rename_i d' off he;rw[he]at hx;have hx:a.eval x=.pointer (some ⟨lam d',off,none⟩):=hx.2;split at h
  ·rename_i cs ro hb;obtain⟨arr,e,hw,hl⟩:=zjH hF hb;unfold zai at h;split at h
   ·rename_i v hv;obtain⟨v',hrun,hrel⟩:=zdM (s:=0) hi hd (zkM hw hl) hv;rw[Nat.zero_add]at hrun;refine Step.val hR hF h (v':=v') ?_ hrel;simp only[execOp,ho,hx,Instr.loadAt,Instr.sureAddr,Sem.run_bind,Sem.run_pure,Result.andThen_ok,hrun]
   ·cases h
  ·cases h
 ·rename_i p he;rw[he]at hx;unfold zal at h;split at h
  ·rename_i v hv;unfold Hp.rdP at hv;split at hv
   ·rename_i i0 off;have hx:VRel β (.pointer (some ⟨i0,off,none⟩)) (a.eval x):=hx;generalize hq:a.eval x=q at hx;cases hx with
    |ptr _ _ y hy=>
    unfold Hp.rd at hv;split at hv
    ·rename_i cs own hg;obtain⟨y',hy',h1,_⟩:=hR.cells i0 cs own hg;rw[hy]at hy';cases hy';obtain⟨v',hrun,hrel⟩:=zdM hi hd h1 hv;refine Step.val hR hF h (v':=v') ?_ hrel;simp only[execOp,ho,hq,Instr.loadAt,Instr.sureAddr,Sem.run_bind,Sem.run_pure,Result.andThen_ok,hrun]
    ·rename_i cs e fz hg;obtain⟨v',hrun,hrel⟩:=zlh hR hi hd hg hy hv;refine Step.val hR hF h (v':=v') ?_ hrel;simp only[execOp,ho,hq,Instr.loadAt,Instr.sureAddr,Sem.run_bind,Sem.run_pure,Result.andThen_ok,hrun]
    ·cases hv
   ·cases hv
  ·cases h
 ·cases h
end
section
variable {α:Type}{C:Ctx}{N:Nat}{w:World}{S:St}{β:Bt}{lam:Nat→Nat}{fr:Fr}{a:Act}{o:Oper}{k:Slot→St→Option α}{r:α}
theorem zoJ{x:Operand}(ho:o.op=.move x∨o.op=.assign x)(h:opC C fr S o k=some r)(hR:Rel C.P w S.hp β)(hF:FRel N w S.bx β lam fr a):Step C.P N w S β lam fr a o k r:=by
 have h':k (ev C.P.globals.size fr x) S=some r:=by rcases ho with ho|ho<;>simpa only [opC,ho] using h
 refine Step.val hR hF h' (v':=a.eval x) ?_ (zeQ hR hF x);rcases ho with ho|ho<;>simp only[execOp,ho,Sem.run_pure]
theorem sel_rel{β:Bt}{t:Bool}{x y x' y':Value}(hx:VRel β x x')(hy:VRel β y y'):VRel β (sel t x y) (if t then x' else y'):=by cases t<;>assumption
theorem sim_pick{c x y:Operand}(ho:o.op=.pick c x y)(h:opC C fr S o k=some r)(hR:Rel C.P w S.hp β)(hF:FRel N w S.bx β lam fr a):Step C.P N w S β lam fr a o k r:=by
 simp only[opC,ho]at h;obtain⟨v,hv,h⟩:=za2 hR hF h;unfold zaa at h;split at h
 ·rename_i t;have hx:=zeQ hR hF x;have hy:=zeQ hR hF y;have hc:a.eval c=.bool t:=by generalize a.eval c=q at hv;cases hv;rfl
  have hrun:(execOp a.eval o).run C.P w=.ok (.value (if t then a.eval x else a.eval y)) w:=by simp only[execOp,ho,hc,asBool,Sem.run_bind,Sem.run_pure,Result.andThen_ok]
  split at h
  ·rename_i u z hu hz;rw[hu]at hx;rw[hz]at hy;exact Step.val hR hF h hrun (show VRel β _ _ from sel_rel hx hy)
  ·cases t with
   |true=>exact Step.val hR hF h hrun hx
   |false=>exact Step.val hR hF h hrun hy
 ·cases h
theorem zmc{S:St}{d:Nat}{c c':Bx}(hb:S.bx d=some c){q:Nat}(_hq:q=q)(e:Nat)(h:(S.bx e).isSome=true):((S.setB d (some c')).bx e).isSome=true:=by
 simp only[St.setB];split
 ·rfl
 ·exact h
theorem new_box(hN:N≤w.heap.size)(hR:Rel C.P w S.hp β)(hF:FRel N w S.bx β lam fr a){d:Nat}(hb:S.bx d=none)(c:Bx)(ob:Obj)
  (hc:∀w',w'.heap[w.heap.size]?=some ob→zlY w' β w.heap.size c) :
  let lam':=fun j=>if j=d then w.heap.size else lam j
  Rel C.P (w.alloc ob) S.hp β∧FRel N (w.alloc ob) (S.setB d (some c)).bx β lam' fr a∧Ext N w S.hp β (w.alloc ob) S.hp β∧lam' d=w.heap.size:=by
 intro lam';have hold:∀i x,β i=some x→(w.alloc ob).heap[x.b]?=w.heap[x.b]?:=fun i x hx=>zc8 _ _ _ (hR.lt i x hx);have hne:∀j,j≠d→lam' j=lam j:=fun j hj=>if_neg hj;have hsame:lam' d=w.heap.size:=if_pos rfl
 refine⟨hR.frame (by simp) hold,⟨hF.size,fun e s hs=>?_,fun e b he=>?_,fun e e' he he' hee=>?_⟩,
  ⟨rfl,rfl,rfl,by simp,Bt.le_refl _,Nat.le_refl _,fun b hb' _=>zc8 _ _ _ (by omega),fun b q=>.inr q,fun i x hx hn=>by rw[hn]at hx;cases hx⟩,hsame⟩
 ·have:=hF.slot e s hs;cases s with
  |loc d' off=>
   have hd:d'≠d:=by intro e;subst e;have:=this.1;rw[hb]at this;cases this
   refine⟨?_,?_⟩
   ·simp only[St.setB];rw[if_neg hd];exact this.1
   ·rw[hne d' hd];exact this.2
  |_=>exact this
 ·simp only[St.setB]at he;by_cases hed:e=d
  ·subst hed;rw[if_pos rfl]at he;cases he;rw[hsame];exact⟨hN,by simp,fun i x hx=>by have:=hR.lt i x hx;omega,hc _ (zbD _ _)⟩
  ·rw[if_neg hed]at he;obtain⟨h1,h2,h3,h4⟩:=hF.box e b he;rw[hne e hed];exact⟨h1,by simp;omega,h3,h4.mono (Bt.le_refl _) (zc8 _ _ _ h2)⟩
 ·simp only[St.setB]at he he';have key:∀q,(S.bx q).isSome=true→lam q<w.heap.size:=fun q hq=>by obtain⟨c',hc'⟩:=Option.isSome_iff_exists.1 hq;exact(hF.box q c' hc').2.1
  by_cases hed:e=d
  ·subst hed;rw[if_neg (Ne.symm hee)]at he';rw[hsame,hne e' (Ne.symm hee)];have:=key e' he';omega
  ·rw[if_neg hed]at he;by_cases hed':e'=d
   ·subst hed';rw[hsame,hne e hed];have:=key e he;omega
   ·rw[if_neg hed']at he';rw[hne e hed,hne e' hed'];exact hF.apart e e' he he' hee
theorem zmK(hN:N≤w.heap.size)(hR:Rel C.P w S.hp β)(hF:FRel N w S.bx β lam fr a){cs:List Value}{arr:Array Value}{e:TypeId}(hl:LRel β cs arr.toList)
  (h:zdf C S o.dst e cs k=some r) (hrun:(execOp a.eval o).run C.P w=.ok (.value (.pointer (some ⟨w.heap.size,0,none⟩))) (w.alloc (.cells arr e))):Step C.P N w S β lam fr a o k r:=by
 unfold zdf at h;split at h
 ·rename_i d hd;split at h
  ·split at h
   ·cases h
   ·rename_i hb;obtain⟨g1,g2,g3,g4⟩:=new_box hN hR hF hb (.cells cs false) (.cells arr e) (fun w' hw'=>⟨arr,e,hw',hl⟩);exact⟨_,_,_,_,β,_,h,.inl hrun,g1,g2,⟨by simp[St.setB],by rw[g4]⟩,g3,BMv.new hb⟩
  ·have hl2:LRel β cs (arr.toList.take arr.size):=by rw[take_of_length_le (by simp)];exact hl
   obtain⟨g1,g2⟩:=hR.new_cells cs arr e (0,0) arr.size hl2 (by intro j hj;simp);have hv:=VRel.ptr (β:=β.set S.hp.next ⟨w.heap.size,0,arr.size⟩) S.hp.next 0 _ (Bt.set_same _ _ _);unfold zlw at h;split at h
   ·unfold zlv at h;exact Step.heap hN hR hF h (.inl hrun) (g1.mark ⟨_,arr,(0,0),Bt.set_same _ _ _,rfl,zbD _ _,rfl⟩) (g2.mark _ _) hv
   ·unfold zcI at h;exact Step.heap hN hR hF h (.inl hrun) g1 g2 hv
 ·cases h
theorem sim_alloc{T:TypeId}(ho:o.op=.alloc T)(hN:N≤w.heap.size)(h:opC C fr S o k=some r)(hR:Rel C.P w S.hp β)(hF:FRel N w S.bx β lam fr a):Step C.P N w S β lam fr a o k r:=by
 simp only[opC,ho]at h;obtain⟨i,z,hi,hz,hc,h⟩:=zgv h;split at h
 ·refine zmK hN hR hF (arr:=z.cells) (e:=T) ((zda hc).cells) h ?_;simp only[execOp,ho,Instr.alloc,Sem.run_bind,zbA w hi hz,Result.andThen_ok];simp[newVar,newRow]
 ·cases h
theorem sim_box{T:TypeId}{x:Operand}(ho:o.op=.box T x)(hN:N≤w.heap.size)(h:opC C fr S o k=some r)(hR:Rel C.P w S.hp β)(hF:FRel N w S.bx β lam fr a):Step C.P N w S β lam fr a o k r:=by simp only[opC,ho]at h;obtain⟨v,hv,h⟩:=za2 hR hF h;refine zmK hN hR hF (arr:=(a.eval x).cells) (e:=T) hv.cells h ?_;simp only[execOp,ho,Instr.box,newVar,newRow];simp
theorem box_write(hN:N≤w.heap.size)(hR:Rel C.P w S.hp β)(hF:FRel N w S.bx β lam fr a){d:Nat}{cs:List Value}(hb:S.bx d=some (.cells cs false)){off:Nat}{vs vs':List Value}
  (hl:off+vs.length≤cs.length) (hv:LRel β vs vs') {w':World} (hp:Put w (lam d) off vs' w') :
  Rel C.P w' S.hp β∧FRel N w' (S.setB d (some (.cells (spl cs off vs) false))).bx β lam fr a∧Ext N w S.hp β w' S.hp β:=by
 obtain⟨b1,b2,b3,arr,e,hw,hrel⟩:=hF.box d _ hb;obtain⟨arr',hw',hs',hg⟩:=hp.row arr e _ hw;have hvl:=hv.1
 refine⟨hR.frame (by rw[hp.size];exact Nat.le_refl _) (fun i x hx=>hp.other _ (b3 i x hx)),⟨hF.size,fun q s hs=>(hF.slot q s hs).bx (fun q hq=>zmc hb (q:=q) rfl q hq),fun q c hq=>?_,fun q q' h1 h2 hne=>?_⟩,
  ⟨hp.os,hp.tape,hp.output,by rw[hp.size];exact Nat.le_refl _,Bt.le_refl _,Nat.le_refl _,fun b hb' _=>hp.other b (by omega),fun b q=>.inr q,fun i x hx hn=>by rw[hn]at hx;cases hx⟩⟩
 ·simp only[St.setB]at hq;by_cases hqd:q=d
  ·subst hqd;rw[if_pos rfl]at hq;cases hq;refine⟨b1,by rw[hp.size];exact b2,b3,arr',e,hw',LRel.of_get ?_ fun j v hj=>?_⟩
   ·rw[zew _ _ _ hl];have:=hrel.1;simp at this ⊢;omega
   ·rw[zhd _ _ _ hl]at hj;rw[Array.getElem?_toList,hg];split at hj
    ·rename_i hc;rw[if_pos (by omega)];exact hv.get hj
    ·rename_i hc;rw[if_neg (by omega)];have:=hrel.get hj;simpa using this
  ·rw[if_neg hqd]at hq;obtain⟨q1,q2,q3,q4⟩:=hF.box q c hq;refine⟨q1,by rw[hp.size];exact q2,q3,q4.mono (Bt.le_refl _) (hp.other _ ?_)⟩;exact hF.apart q d (by rw[hq];rfl) (by rw[hb];rfl) hqd
 ·have key:∀q,((S.setB d (some (.cells (spl cs off vs) false))).bx q).isSome=true→(S.bx q).isSome=true:=fun q hq=>by
   simp only[St.setB]at hq;split at hq
   ·rename_i e;rw[e,hb];rfl
   ·exact hq
  exact hF.apart q q' (key q h1) (key q' h2) hne
theorem sim_store{T:TypeId}{x y:Operand}(ho:o.op=.store T x y)(hN:N≤w.heap.size)(h:opC C fr S o k=some r)(hR:Rel C.P w S.hp β)(hF:FRel N w S.bx β lam fr a):Step C.P N w S β lam fr a o k r:=by
 simp only[opC,ho]at h;obtain⟨v,hv,h⟩:=za2 hR hF h;obtain⟨i,d,hi,hd,h⟩:=zha h;have hx:=zeQ hR hF x;split at h
 ·rename_i d' off he;rw[he]at hx;have hx:a.eval x=.pointer (some ⟨lam d',off,none⟩):=hx.2;split at h
  ·rename_i cs hb;unfold zaV at h;split at h
   ·rename_i cs' hw;obtain⟨h1,h2,h3,rfl⟩:=zir hw;obtain⟨arr,e,hh,hl⟩:=zjH hF hb;have hsz:=hl.1;obtain⟨w',hrun,hp⟩:=zfh (off:=off) hi hv h1 h3 hh (by intro j hj;simp) (by simp at hsz;omega);obtain⟨g1,g2,g3⟩:=box_write hN hR hF hb (by omega) hv.cells hp;refine⟨_,_,w',undef,β,lam,h,.inr ⟨?_,rfl⟩,g1,g2,trivial,g3,BMv.set (by rw[hb];exact⟨_,rfl⟩)⟩;simp only[execOp,ho,hx,Instr.storeAt,Instr.sureAddr,Sem.run_bind,Sem.run_pure,Result.andThen_ok,hrun]
   ·cases h
  ·cases h
 ·rename_i p he;rw[he]at hx;unfold zao at h;split at h
  ·rename_i H' hw;unfold Hp.wr at hw;split at hw
   ·rename_i i0 off;have hx:VRel β (.pointer (some ⟨i0,off,none⟩)) (a.eval x):=hx;generalize hq:a.eval x=q at hx;cases hx with
    |ptr _ _ bi hbi=>
    split at hw
    ·rename_i cs hg;split at hw
     ·rename_i cs' hwr;cases hw;obtain⟨h1,h2,h3,rfl⟩:=zir hwr;obtain⟨bi',hbi',c1,c2⟩:=hR.cells i0 cs true hg;rw[hbi]at hbi';cases hbi';obtain⟨⟨arr,e,fz,hh,hsz,hfz⟩,hle⟩:=c2 rfl;obtain⟨w',hrun,hp⟩:=zfh (off:=bi.s+off) hi hv h1 h3 hh (by intro j hj;exact hfz j (by omega)) (by omega);obtain⟨g1,g2⟩:=hR.write hg hbi (by omega) hv.cells hp;refine Step.heap hN hR hF h (.inr ⟨?_,rfl⟩) g1 g2 trivial;simp only[execOp,ho,hq,Instr.storeAt,Instr.sureAddr,Sem.run_bind,Sem.run_pure,Result.andThen_ok,hrun]
     ·cases hw
    ·cases hw
   ·cases hw
  ·cases h
 ·cases h
theorem sim_nil{x:Operand}(ho:o.op=.nilCheck x)(h:opC C fr S o k=some r)(hR:Rel C.P w S.hp β)(hF:FRel N w S.bx β lam fr a):Step C.P N w S β lam fr a o k r:=by
 simp only[opC,ho]at h;have hx:=zeQ hR hF x;split at h
 ·rename_i d off he;rw[he]at hx;have hx':a.eval x=.pointer (some ⟨lam d,off,none⟩):=hx.2;refine Step.val hR hF h (v':=a.eval x) ?_ hx;simp only[execOp,ho,hx',Sem.run_pure]
 ·rename_i v he;rw[he]at hx;have hx:VRel β v (a.eval x):=hx;unfold pNil at h;split at h
  ·generalize hq:a.eval x=q at hx;cases hx with
   |ptr i off y hy=>
   refine Step.val hR hF h (v':=.pointer (some ⟨y.b,y.s+off,none⟩)) ?_ (.ptr i off y hy);simp only[execOp,ho,hq,Sem.run_pure]
  ·generalize hq:a.eval x=q at hx;cases hx with
   |func fn fs fs' cs cs' hl hh hl2 hh2=>
   refine Step.val hR hF h (v':=.func (.func _) ⟨fs'⟩ ⟨cs'⟩) ?_ (.func _ _ _ _ _ hl hh hl2 hh2);simp only[execOp,ho,hq,Sem.run_pure]
  ·cases h
 ·cases h
theorem zdL(b off n:Nat):(⟨b,off,none⟩:Addr).add n=⟨b,off+n,none⟩:=by unfold Addr.add;split<;>simp_all
theorem zfR{P:Program}{w:World}{b off:Nat}{f:Field}{i:TypeInfo}(hi:P.info? f.type=some i)(h0:i.size≠0) :
  (fieldPlace ⟨b,off,none⟩ f).run P w=.ok ⟨b,off+f.offset,none⟩ w:=by
 simp only[fieldPlace,Sem.run_bind,zaQ w hi,Result.andThen_ok,if_neg h0,Sem.run_pure,zdL]
theorem zla{T:TypeId}{x:Operand}{f:Nat}(ho:o.op=.fieldAddr T x f)(h:opC C fr S o k=some r)(hR:Rel C.P w S.hp β)(hF:FRel N w S.bx β lam fr a):Step C.P N w S β lam fr a o k r:=by
 simp only[opC,ho]at h;have hx:=zeQ hR hF x;split at h
 ·rename_i fs hu;split at h
  ·rename_i fd hfd;split at h
   ·rename_i i hi;split at h
    ·cases h
    ·rename_i h0;have h0:i.size≠0:=by intro e;simp[e]at h0
     have hfd':fs[f]?=some fd:=by simpa using hfd
     split at h
     ·rename_i d off he;rw[he]at hx;obtain⟨hx0,hx⟩:=hx;refine Step.val hR hF h (v':=.pointer (some ⟨lam d,off+fd.offset,none⟩)) ?_ ⟨hx0,rfl⟩;simp only[execOp,ho,hx,Instr.fieldAt,Instr.sureAddr,Sem.run_bind,zan w hu,Result.andThen_ok,hfd',Sem.run_pure,zfR hi h0]
     ·rename_i p he;rw[he]at hx;have hx:VRel β p (a.eval x):=hx;unfold zas at h;split at h
      ·rename_i i0 off _;generalize hq:a.eval x=q at hx;cases hx with
       |ptr _ _ y hy=>
       refine Step.val hR hF h (v':=.pointer (some ⟨y.b,y.s+(off+fd.offset),none⟩)) ?_ (.ptr _ _ y hy);simp only[execOp,ho,hq,Instr.fieldAt,Instr.sureAddr,Sem.run_bind,zan w hu,Result.andThen_ok,hfd',Sem.run_pure,zfR hi h0,Nat.add_assoc]
      ·cases h
     ·cases h
   ·cases h
  ·cases h
 ·cases h
end
theorem zjG{P:Program}{w:World}{op:BinOp}{k:IntKind}{x y:Int}{v:Value}(h:bvOp op k x y=some v):(Op.intBits op k x y).run P w=.ok v w:=by unfold bvOp at h;cases op<;>first | (cases h;rfl) | (cases h;done)
theorem intOp_ok{P:Program}{w:World}{op:BinOp}{T:TypeId}{k:IntKind}{x y:Int}{v:Value}(h:zd4 op k x y=some v):(binOp op T (.int k x) (.int k y)).run P w=.ok v w:=by
 unfold zd4 at h;cases op<;>simp only at h
 case quo=>
  split at h
  ·cases h
  ·rename_i h0;cases h;simp[binOp,Op.intDiv,h0]
 case rem=>
  split at h
  ·cases h
  ·rename_i h0;cases h;simp[binOp,Op.intDiv,h0]
 case and=>simp only[binOp,ne_eq,not_true_eq_false,if_false];exact zjG h
 case or=>simp only[binOp,ne_eq,not_true_eq_false,if_false];exact zjG h
 case xor=>simp only[binOp,ne_eq,not_true_eq_false,if_false];exact zjG h
 case andNot=>simp only[binOp,ne_eq,not_true_eq_false,if_false];exact zjG h
 case shl=>cases h
 case shr=>cases h
 all_goals (cases h;simp[binOp,Op.intArith,Op.intCmp])
theorem shOp_ok{P:Program}{w:World}{op:BinOp}{T:TypeId}{k k':IntKind}{x y:Int}{v:Value}(h:shOp op k x y=some v)(ho:op=.shl∨op=.shr) :
  (binOp op T (.int k x) (.int k' y)).run P w=.ok v w:=by
 unfold shOp at h;split at h
 ·cases h
 ·rename_i h0;rcases ho with rfl|rfl<;>(cases h;simp[binOp,Op.shift,h0])
theorem strOp_ok{P:Program}{w:World}{op:BinOp}{T:TypeId}{x y:ByteArray}{v:Value}(h:znq op x y=some v):(binOp op T (.string x) (.string y)).run P w=.ok v w:=by
 unfold znq at h;cases op<;>simp only at h
 case add=>
  split at h
  ·cases h
  ·rename_i h0;cases h;simp only[binOp,Op.stringOp];rw[if_neg h0];rfl
 all_goals first | (cases h;simp[binOp,Op.stringOp];done)|cases h
theorem zic{P:Program}{w:World}{β:Bt}{t:TypeId}{cs cs':List Value}{off:Nat}{v:Value}(hl:LRel β cs cs')(h:zmx P t cs off=some v) :
  ∃v',(part t cs'.toArray off).run P w=.ok v' w∧VRel β v v':=by
 unfold zmx at h;split at h
 ·rename_i i d hi hd;simp only[part,Sem.run_bind,zmh w hd,Result.andThen_ok];cases ha:aggD d with
  |true=>
   rw[ha]at h;cases h;refine⟨.agg (cs'.toArray.extract off (off+i.size)),?_,?_⟩
   ·simp only[if_true,Sem.run_bind,zaQ w hi,Result.andThen_ok,Sem.run_pure]
   ·refine zcP.2 ⟨_,rfl,?_⟩;have:=(hl.drop off).take i.size;simpa[extract_eq_take_drop] using this
  |false=>
   rw[ha]at h;obtain⟨v',hv',hr⟩:=hl.get h;have:cs'.toArray[off]?=some v':=by simpa using hv'
   exact⟨v',by simp only[Bool.false_eq_true,if_false,this,Sem.run_pure],hr⟩
 ·cases h
section
variable {α:Type}{C:Ctx}{N:Nat}{w:World}{S:St}{β:Bt}{lam:Nat→Nat}{fr:Fr}{a:Act}{o:Oper}{k:Slot→St→Option α}{r:α}
theorem zo4{P:Program}{w:World}{β:Bt}{t:TypeId}{i:TypeInfo}{d:TypeDesc}(hi:P.info? t=some i)(hd:P.underlying t=some d){cs:Array Value}{cs':Array Value}{off:Nat}{v:Value}
  (hl:LRel β cs.toList cs'.toList) (h:partC (aggD d) i.size cs.toList off=some v):∃v',(part t cs' off).run P w=.ok v' w∧VRel β v v':=by
 have h2:zmx P t cs.toList off=some v:=by unfold zmx;rw[hi,hd];unfold partC at h;exact h
 obtain⟨v',hr,hv⟩:=zic (w:=w) hl h2;exact⟨v',by simpa using hr,hv⟩
theorem sim_unOp{op:UnOp}{T:TypeId}{x:Operand}(ho:o.op=.unOp op T x)(h:opC C fr S o k=some r)(hR:Rel C.P w S.hp β)(hF:FRel N w S.bx β lam fr a):Step C.P N w S β lam fr a o k r:=by
 simp only[opC,ho]at h;obtain⟨v,hv,h⟩:=za2 hR hF h;unfold pUn at h;split at h
 ·rename_i u hu;generalize hq:a.eval x=q at hv;have key:(Op.unary op q).run C.P w=.ok u w∧VRel β u u:=by
   unfold unV at hu;split at hu
   ·cases hv;cases hu;exact⟨by simp[Op.unary,Op.intArith],.int _ _⟩
   ·cases hv;refine⟨by simp only[Op.unary];exact zjG hu,?_⟩;unfold bvOp at hu;simp at hu;subst hu;exact .int _ _
   ·cases hv;cases hu;exact⟨by simp[Op.unary],.bool _⟩
   ·cases hu
  refine Step.val hR hF h (v':=u) ?_ key.2;simp only[execOp,ho,hq,Sem.run_bind,key.1,Result.andThen_ok,Sem.run_pure]
 ·cases h
theorem zma{fn:Fn}{first captured:Array Operand}(ho:o.op=.makeFunc fn first captured)(h:opC C fr S o k=some r)(hR:Rel C.P w S.hp β)(hF:FRel N w S.bx β lam fr a):Step C.P N w S β lam fr a o k r:=by
 simp only[opC,ho]at h;obtain⟨fs,hfs,h⟩:=zft hR hF _ h;obtain⟨cs,hcs,h⟩:=zft hR hF _ h;refine Step.val hR hF h (v':=.func fn (first.map a.eval) (captured.map a.eval)) ?_ ?_
 ·simp only[execOp,ho,Instr.makeFunc,Sem.run_bind,Sem.run_pure,Result.andThen_ok]
 ·obtain⟨first⟩:=first;obtain⟨captured⟩:=captured;have:=VRel.func (β:=β) fn fs (first.map a.eval) cs (captured.map a.eval) hfs.1 hfs.2 hcs.1 hcs.2;simpa[SRel] using this
theorem zns{T:TypeId}(ho:o.op=.makeMap T none)(hN:N≤w.heap.size)(h:opC C fr S o k=some r)(hR:Rel C.P w S.hp β)(hF:FRel N w S.bx β lam fr a):Step C.P N w S β lam fr a o k r:=by simp only[opC,ho,zbY]at h;obtain⟨g1,g2⟩:=hR.new_map;refine Step.heap hN hR hF h (v':=.map (some w.heap.size)) (.inl ?_) g1 g2 (.map _ _ (Bt.set_same _ _ _));simp only[execOp,ho,Instr.makeMap,Option.map_none];simp
theorem znt{t:Operand}{i:Nat}(ho:o.op=.extract t i)(h:opC C fr S o k=some r)(hR:Rel C.P w S.hp β)(hF:FRel N w S.bx β lam fr a):Step C.P N w S β lam fr a o k r:=by
 simp only[opC,ho]at h;obtain⟨v,hv,h⟩:=za2 hR hF h;unfold zaf at h;split at h
 ·rename_i u hu;unfold zlO at hu;split at hu
  ·obtain⟨cs',hq,hl⟩:=zch.1 hv;obtain⟨u',hu',hr⟩:=hl.get hu;refine Step.val hR hF h (v':=u') ?_ hr;have hu2:cs'[i]?=some u':=by simpa using hu'
   simp only[execOp,ho,hq,Instr.extract,hu2,Sem.run_bind,Sem.run_pure,Result.andThen_ok]
  ·cases hu
 ·cases h
theorem sim_field{T:TypeId}{x:Operand}{f:Nat}(ho:o.op=.field T x f)(h:opC C fr S o k=some r)(hR:Rel C.P w S.hp β)(hF:FRel N w S.bx β lam fr a):Step C.P N w S β lam fr a o k r:=by
 simp only[opC,ho]at h;obtain⟨v,hv,h⟩:=za2 hR hF h;split at h
 ·rename_i fs hu;split at h
  ·rename_i fd hfd;obtain⟨i,d,hi,hd,h⟩:=zha h;have hfd':fs[f]?=some fd:=by simpa using hfd
   unfold znS at h;split at h
   ·obtain⟨cs',hq,hl⟩:=zcP.1 hv;split at h
    ·rename_i u hpc;obtain⟨u',hr,hv'⟩:=zo4 (w:=w) hi hd hl hpc;refine Step.val hR hF h (v':=u') ?_ hv';simp only[execOp,ho,hq,Instr.field,Sem.run_bind,zan w hu,Result.andThen_ok,hfd',asAgg,Sem.run_pure,hr]
    ·cases h
   ·cases h
  ·cases h
 ·cases h
theorem atStr_ok{s:ByteArray}{j:Int}{v:Value}(h:zqw s j=some v):∃b:UInt8,(if 0≤j then s[j.toNat]? else none)=some b∧v=.int .u8 (b.toNat:Int):=by
 unfold zqw at h;split at h
 ·rename_i hj;cases hb:s[j.toNat]? with
  |none=>rw[hb]at h;cases h
  |some b=>rw[hb]at h;cases h;exact⟨b,by rw[if_pos hj],rfl⟩
 ·cases h
theorem sim_index{T:TypeId}{x i:Operand}(ho:o.op=.index T x i)(h:opC C fr S o k=some r)(hR:Rel C.P w S.hp β)(hF:FRel N w S.bx β lam fr a):Step C.P N w S β lam fr a o k r:=by
 simp only[opC,ho]at h;obtain⟨v,hv,h⟩:=za2 hR hF h;obtain⟨ix,hix,h⟩:=za2 hR hF h;generalize hqi:a.eval i=qi at hix;split at h
 ·rename_i hu;unfold zaY at h;split at h
  ·rename_i s kd j;split at h
   ·rename_i u hat;obtain⟨b,hb,rfl⟩:=atStr_ok hat;generalize hq:a.eval x=q at hv;cases hv;cases hix;refine Step.val hR hF h (v':=.int .u8 (b.toNat:Int)) ?_ (.int _ _);simp only[execOp,ho,hq,hqi,Instr.index,asIntOf,Sem.run_bind,Sem.run_pure,zan w hu,Result.andThen_ok,hb]
   ·cases h
  ·cases h
 ·rename_i len e hu;obtain⟨ti,d,hi,hd,h⟩:=zha h;unfold zcx at h;split at h
  ·rename_i kd j;split at h
   ·rename_i hj;unfold znS at h;split at h
    ·obtain⟨cs',hq,hl⟩:=zcP.1 hv;split at h
     ·rename_i u hpc;obtain⟨u',hr,hv'⟩:=zo4 (w:=w) hi hd hl hpc;cases hix;refine Step.val hR hF h (v':=u') ?_ hv';simp only[execOp,ho,hq,hqi,Instr.index,asIntOf,Sem.run_bind,Sem.run_pure,zan w hu,Result.andThen_ok,hj,and_self,if_true,zaQ w hi,hr]
     ·cases h
    ·cases h
   ·cases h
  ·cases h
 ·cases h
theorem zk9{T:TypeId}{x i:Operand}(ho:o.op=.indexAddr T x i)(h:opC C fr S o k=some r)(hR:Rel C.P w S.hp β)(hF:FRel N w S.bx β lam fr a):Step C.P N w S β lam fr a o k r:=by
 simp only[opC,ho]at h;obtain⟨ix,hix,h⟩:=za2 hR hF h;generalize hqi:a.eval i=qi at hix;split at h
 ·rename_i e hu;split at h
  ·rename_i ti hi;obtain⟨v,hv,h⟩:=za2 hR hF h;unfold pIdx at h;split at h
   ·rename_i u hiv;unfold idxV at hiv;split at hiv
    ·rename_i i0 off z n c kd j;split at hiv
     ·rename_i hc;obtain⟨rfl,hj0,hjn⟩:=hc;cases hiv;generalize hq:a.eval x=q at hv;cases hv with
      |slice _ _ _ _ _ y o' c' hy hn hcc ht hoo=>
      cases hix;have ho':o'=y.s+off:=hoo (by omega);subst ho';refine Step.val hR hF h (v':=.pointer (some ⟨y.b,y.s+(off+j.toNat*ti.size),none⟩)) ?_ (.ptr _ _ y hy);simp only[execOp,ho,hq,hqi,Instr.indexAt,asIntOf,Sem.run_bind,Sem.run_pure,zan w hu,Result.andThen_ok,hj0,hjn,and_self,if_true,zaQ w hi,zdL,Nat.add_assoc]
     ·cases hiv
    ·cases hiv
   ·cases h
  ·cases h
 ·rename_i len e hu;split at h
  ·rename_i ti hi;have hx:=zeQ hR hF x;split at h
   ·rename_i d off he;rw[he]at hx;obtain⟨hx0,hx⟩:=hx;unfold ziV at h;split at h
    ·rename_i kd j;split at h
     ·rename_i hj;cases hix;refine Step.val hR hF h (v':=.pointer (some ⟨lam d,off+j.toNat*ti.size,none⟩)) ?_ ⟨hx0,rfl⟩;simp only[execOp,ho,hx,hqi,Instr.indexAt,Instr.sureAddr,asIntOf,Sem.run_bind,Sem.run_pure,zan w hu,Result.andThen_ok,hj,and_self,if_true,zaQ w hi,zdL]
     ·cases h
    ·cases h
   ·rename_i p he;rw[he]at hx;have hx:VRel β p (a.eval x):=hx;unfold zcu at h;split at h
    ·rename_i i0 off kd j _;split at h
     ·rename_i hj;generalize hq:a.eval x=q at hx;cases hx with
      |ptr _ _ y hy=>
      cases hix;refine Step.val hR hF h (v':=.pointer (some ⟨y.b,y.s+(off+j.toNat*ti.size),none⟩)) ?_ (.ptr _ _ y hy);simp only[execOp,ho,hq,hqi,Instr.indexAt,Instr.sureAddr,asIntOf,Sem.run_bind,Sem.run_pure,zan w hu,Result.andThen_ok,hj,and_self,if_true,zaQ w hi,zdL,Nat.add_assoc]
     ·cases h
    ·cases h
   ·cases h
  ·cases h
 ·cases h
end
end Go.AM
namespace Go.AM
open Go
theorem zgp{P:Program}{β:Bt}{d:Nat}{c:TypeId→Value→Value→Option Bool}
  (hc:∀t x y b x' y' (w:World),c t x y=some b→VRel β x x'→VRel β y y'→(Op.equalIn d t x' y').run P w=.ok b w)
  {xs ys xs' ys':List Value} (hx:LRel β xs xs') (hy:LRel β ys ys') (w:World):∀(fs:List Field) (b:Bool),eqFields P c xs ys fs=some b →
  (Op.eqFields d xs'.toArray ys'.toArray fs).run P w=.ok b w
 |[],b,h=>by cases h;simp[Op.eqFields]
 |f::fs,b,h=>by
  unfold eqFields at h;unfold Op.eqFields;split at h
  ·rename_i hn;have:f.name = "_" := by simpa using hn
   rw[if_neg (by simp[this])];exact zgp hc hx hy w fs b h
  ·rename_i hn;have hn:f.name ≠ "_" := by simpa using hn
   rw[if_pos hn];split at h
   ·rename_i x y hpx hpy;obtain⟨x',h1,r1⟩:=zic (w:=w) hx hpx;obtain⟨y',h2,r2⟩:=zic (w:=w) hy hpy;split at h
    ·rename_i he;have h3:=hc _ _ _ _ _ _ w he r1 r2;simp only[Sem.run_bind,h1,h2,h3,Result.andThen_ok,Bool.not_true,Bool.false_eq_true,if_false];exact zgp hc hx hy w fs b h
    ·rename_i he;have h3:=hc _ _ _ _ _ _ w h r1 r2;cases b with
     |true=>exact(he h).elim
     |false=>simp only[Sem.run_bind,h1,h2,h3,Result.andThen_ok,Bool.not_false,if_true,Sem.run_pure]
   ·cases h
theorem zjv{P:Program}{β:Bt}:∀(d:Nat) (t:TypeId) (x y:Value) (b:Bool) (x' y':Value) (w:World),eqT P d t x y=some b→VRel β x x'→VRel β y y' →
  (Op.equalIn d t x' y').run P w=.ok b w
 |0,t,x,y,b,x',y',w,h,_,_=>by cases h
 |d+1,t,x,y,b,x',y',w,h,hx,hy=>by
  unfold eqT at h;split at h
  case h_1 hu=>cases hx;cases hy;cases h;simp[Op.equalIn,run_underlying hu]
  case h_2 hu=>
   cases hx;cases hy;split at h
   ·rename_i hk;cases h;simp[Op.equalIn,run_underlying hu,hk]
   ·cases h
  case h_3 hu=>cases hx;cases hy;cases h;simp[Op.equalIn,run_underlying hu]
  case h_4 hu=>cases hx;cases h;cases hy<;>simp[Op.equalIn,run_underlying hu]
  case h_5 hu=>cases hy;cases h;cases hx<;>first | (simp[Op.equalIn,run_underlying hu];done) | (exfalso;simp_all;done)
  case h_6 hu=>cases hx;cases h;cases hy<;>simp[Op.equalIn,run_underlying hu]
  case h_7 hu=>cases hy;cases h;cases hx<;>first | (simp[Op.equalIn,run_underlying hu];done) | (exfalso;simp_all;done)
  case h_8 hu=>cases hx;cases h;cases hy<;>simp[Op.equalIn,run_underlying hu]
  case h_9 hu=>cases hy;cases h;cases hx<;>first | (simp[Op.equalIn,run_underlying hu];done) | (exfalso;simp_all;done)
  case h_10 hu=>cases hx;cases hy;cases h;simp[Op.equalIn,run_underlying hu]
  case h_11 hu=>cases hx;cases hy;cases h;simp[Op.equalIn,run_underlying hu]
  case h_12 hu=>cases hx;cases hy;cases h;simp[Op.equalIn,run_underlying hu]
  case h_13 fields xs ys hu=>
   obtain⟨xs',rfl,hxl⟩:=zcP.1 hx;obtain⟨ys',rfl,hyl⟩:=zcP.1 hy;split at h
   ·cases h
   ·rename_i hst;have hf:P.fieldsOf t=fields:=by simp[Program.fieldsOf,hu]
    rw[run_equalIn_struct w d t xs' ys' (by rw[hf];exact hu) hst,hf];have:=zgp (fun t x y b x' y' w h1 h2 h3=>zjv d t x y b x' y' w h1 h2 h3) hxl hyl w fields.toList b h;simpa using this
  case h_14=>cases h
section
variable {α:Type}{C:Ctx}{N:Nat}{w:World}{S:St}{β:Bt}{lam:Nat→Nat}{fr:Fr}{a:Act}{o:Oper}{k:Slot→St→Option α}{r:α}
theorem eqOp_ok{P:Program}{w:World}{T:TypeId}{X Y:Operand}{op:BinOp}{x y x' y':Value}{b:Bool}(h:eqOp P T x y=some b)(hx:VRel β x x')(hy:VRel β y y') :
  (eqGuard op T X Y x' y').run P w=.ok () w∧(Op.equal T x' y').run P w=.ok b w:=by
 unfold eqOp at h;split at h
 ·split at h
  ·cases h
  ·rename_i hg;have:=zjv Op.maxDepth T _ _ b x' y' w h hx hy;obtain⟨xs',rfl,_⟩:=zcP.1 hx;obtain⟨ys',rfl,_⟩:=zcP.1 hy;exact⟨run_eqGuard_agg w op T X Y xs' ys' hg,this⟩
 ·cases h
 ·rename_i tx vx ty vy;cases hx with
  |iface _ _ u hu=>
  cases hy with
  |iface _ _ u2 hu2=>
  split at h
  ·rename_i ms hms;refine⟨by cases op<;>rfl,?_⟩;have e2:Op.maxDepth=(Op.maxDepth-1)+1:=rfl;unfold Op.equal;rw[e2];split at h
   ·rename_i hb;cases h;have hne:tx≠ty:=Nat.ne_of_beq_eq_false hb;simp[Op.equalIn,run_underlying hms,hne]
   ·rename_i hb;have he:tx=ty:=Nat.eq_of_beq_eq_true hb;subst he;split at h
    ·rename_i i hi;split at h
     ·rename_i hcmp;have:=zjv (Op.maxDepth-1) tx _ _ b u u2 w h hu hu2;generalize Op.maxDepth-1=dd at this;simp[Op.equalIn,run_underlying hms,typeInfo,hi,hcmp,this]
     ·cases h
    ·cases h
  ·cases h
 all_goals first
  |(have:=zjv Op.maxDepth T _ _ b x' y' w h hx hy;refine⟨?_,this⟩;cases hx<;>(cases op<;>rfl))
  |cases h
theorem zgM{P:Program}{T:TypeId}{ms:Array (String×TypeId)}(hms:P.underlying T=some (.interface ms))(w:World)(q:Value)(b:Bool)(h:(q=.nilIface∧b=true)∨∃t u,q=.iface t u∧b=false):(Op.equal T q .nilIface).run P w=.ok b w:=by
 have e:∀d,(Op.equalIn (d+1) T q .nilIface).run P w=.ok b w:=fun d=>by rcases h with⟨rfl,rfl⟩|⟨t,u,rfl,rfl⟩<;>simp[Op.equalIn,run_underlying hms]
 have e2:Op.maxDepth=(Op.maxDepth-1)+1:=rfl;unfold Op.equal;rw[e2];exact e _
theorem sim_nilEq{op:BinOp}{T T':TypeId}{x y:Operand}{u:Value}(ho:o.op=.binOp op T x y T')(hyc:y=.const .nilIface)(h:(zdW C.P op T u fun v=>k (.val v) S)=some r)(hR:Rel C.P w S.hp β)(hF:FRel N w S.bx β lam fr a)(hu:VRel β u (a.eval x)):Step C.P N w S β lam fr a o k r:=by
 unfold zdW at h;split at h
 ·rename_i ms hms;generalize hqx:a.eval x=qx at hu;have hqy:a.eval y=.nilIface:=by rw[hyc];rfl
  have fin:∀(b:Bool),(binOp op T qx .nilIface:Sem Value).run C.P w=.ok (.bool b) w→(eqGuard op T x y qx .nilIface).run C.P w=.ok () w→(execOp a.eval o).run C.P w=.ok (.value (.bool b)) w:=fun b h1 h2=>by
   have hrun:(execOp a.eval o)=(do let v ←(do eqGuard op T x y qx .nilIface;binOp op T qx .nilIface);pure (.value v):Sem Next):=by simp only[execOp,ho,hqx,hqy]
   rw[hrun];simp only[Sem.run_bind,h2,Result.andThen_ok,h1];rfl
  subst hyc;split at h
  ·cases hu;refine Step.val hR hF h (v':=.bool true) (fin true ?_ (by cases x<;>rfl)) (.bool _);show ((Op.equal T .nilIface .nilIface) >>= fun b=>pure (.bool b):Sem Value).run C.P w=_;rw[Sem.run_bind,zgM hms w _ true (.inl ⟨rfl,rfl⟩)];rfl
  ·cases hu;refine Step.val hR hF h (v':=.bool false) (fin false ?_ (by cases x<;>rfl)) (.bool _);show ((Op.equal T _ .nilIface) >>= fun b=>pure (.bool b):Sem Value).run C.P w=_;rw[Sem.run_bind,zgM hms w _ false (.inr ⟨_,_,rfl,rfl⟩)];rfl
  ·cases hu;refine Step.val hR hF h (v':=.bool false) (fin false ?_ (by cases x<;>rfl)) (.bool _);show ((Op.equal T .nilIface .nilIface) >>= fun b=>pure (.bool !b):Sem Value).run C.P w=_;rw[Sem.run_bind,zgM hms w _ true (.inl ⟨rfl,rfl⟩)];rfl
  ·cases hu;refine Step.val hR hF h (v':=.bool true) (fin true ?_ (by cases x<;>rfl)) (.bool _);show ((Op.equal T _ .nilIface) >>= fun b=>pure (.bool !b):Sem Value).run C.P w=_;rw[Sem.run_bind,zgM hms w _ false (.inr ⟨_,_,rfl,rfl⟩)];rfl
  ·cases h
 ·cases h
theorem sim_binOp{op:BinOp}{T T':TypeId}{x y:Operand}(ho:o.op=.binOp op T x y T')(h:opC C fr S o k=some r)(hR:Rel C.P w S.hp β)(hF:FRel N w S.bx β lam fr a):Step C.P N w S β lam fr a o k r:=by
 simp only[opC,ho]at h;obtain⟨u,hu,h⟩:=za2 hR hF h;obtain⟨v,hv,h⟩:=za2 hR hF h;split at h
 ·rename_i hni;have hyc:y=.const .nilIface:=by
   unfold zpp at hni;split at hni
   ·rfl
   ·cases hni
  exact sim_nilEq ho hyc h hR hF hu
 unfold pBin at h;split at h
 ·rename_i z hz;generalize hqx:a.eval x=qx at hu;generalize hqy:a.eval y=qy at hv;have key:((do eqGuard op T x y qx qy;binOp op T qx qy:Sem Value)).run C.P w=.ok z w∧VRel β z z:=by
   unfold binV at hz;split at hz
   ·rename_i k1 n1 k2 n2;cases hu;cases hv;have hg:(eqGuard op T x y (.int k1 n1) (.int k2 n2)).run C.P w=.ok () w:=by cases op<;>rfl
    simp only[Sem.run_bind,hg,Result.andThen_ok];split at hz
    ·exact⟨shOp_ok hz (.inl rfl),by unfold shOp at hz;split at hz<;>cases hz;exact .int _ _⟩
    ·exact⟨shOp_ok hz (.inr rfl),by unfold shOp at hz;split at hz<;>cases hz;exact .int _ _⟩
    ·split at hz
     ·rename_i hk;subst hk;refine⟨intOp_ok hz,?_⟩;unfold zd4 at hz;cases op<;>simp only[bvOp]at hz<;>(try split at hz)<;>cases hz<;>first|exact .int _ _|exact .bool _
     ·cases hz
   ·rename_i s1 s2;cases hu;cases hv;have hg:(eqGuard op T x y (.string s1) (.string s2)).run C.P w=.ok () w:=by cases op<;>rfl
    simp only[Sem.run_bind,hg,Result.andThen_ok];refine⟨strOp_ok hz,?_⟩;unfold znq at hz;cases op<;>simp only at hz<;>(try split at hz)<;>cases hz<;>first|exact .string _|exact .bool _
   ·rename_i hn1 hn2;split at hz
    ·split at hz
     ·rename_i b he;cases hz;obtain⟨hg,hq⟩:=eqOp_ok (w:=w) (X:=x) (Y:=y) (op:=.eql) he hu hv;refine⟨?_,.bool b⟩;simp only[Sem.run_bind,hg,Result.andThen_ok];unfold eqOp at he;split at he<;>(try cases he)<;>cases hu<;>cases hv<;>simp[binOp,hq]
     ·cases hz
    ·split at hz
     ·rename_i b he;cases hz;obtain⟨hg,hq⟩:=eqOp_ok (w:=w) (X:=x) (Y:=y) (op:=.neq) he hu hv;refine⟨?_,.bool _⟩;simp only[Sem.run_bind,hg,Result.andThen_ok];unfold eqOp at he;split at he<;>(try cases he)<;>cases hu<;>cases hv<;>simp[binOp,hq]
     ·cases hz
    ·cases hz
  refine Step.val hR hF h (v':=z) ?_ key.2;have hrun:(execOp a.eval o)=(do let v ←(do eqGuard op T x y qx qy;binOp op T qx qy);pure (.value v):Sem Next):=by simp only[execOp,ho,hqx,hqy]
  rw[hrun];simp only[Sem.run_bind]at key ⊢;rw[key.1];rfl
 ·cases h
end
end Go.AM
namespace Go.AM
open List Go
theorem zfx{α:Type}{P:Program}{t:TypeId}{k:Nat→Nat→List Value→Option α}{r:α}(h:zgy P t k=some r) :
  ∃e i z,P.underlying t=some (.slice e)∧P.info? e=some i∧i.zero=some z∧i.size≠0∧i.bytes≠0∧(zab z).length=i.size∧(zab z).all one=true∧zdt z=true∧k i.size i.bytes (zab z)=some r:=by
 unfold zgy at h;split at h
 ·rename_i e hu;split at h
  ·cases h
  ·rename_i i hi;obtain⟨i',z,hi',hz,hc,h⟩:=zgv h;rw[hi]at hi';cases hi';split at h
   ·cases h
   ·rename_i hn;simp only[not_or]at hn;refine⟨e,i,z,hu,hi,hz,hn.1,hn.2.1,by have:=hn.2.2.1;omega,by have:=hn.2.2.2;simpa using this,hc,h⟩
 ·cases h
theorem zl6{P:Program}{w:World}{H:Hp}{β:Bt}(hR:Rel P w H β){sz m:Nat}{new:List Value}{x x':Value}(h:zbK sz x H=some (m,new))(hx:VRel β x x') :
  (Builtin.lenOf x').run P w=.ok m w∧new.length=m*sz∧∀n,n≤m→∃l',(Builtin.firstCells sz n x').run P w=.ok (List.toArray l') w∧LRel β (new.take (n*sz)) l':=by
 unfold zbK at h;split at h
 ·cases h;cases hx;refine⟨by simp[Builtin.lenOf],by simp,fun n hn=>⟨[],run_firstCells_none w _ _ _ _,by simpa using LRel.nil β⟩⟩
 ·rename_i i o z n c;split at h
  ·rename_i hz;subst hz;split at h
   ·rename_i cs own hg;split at h
    ·rename_i hl;cases h;cases hx with
     |slice _ _ _ _ _ y o' c' hy hnc hcc ht hoo=>
     obtain⟨y',hy',h1,_⟩:=hR.cells i cs own hg;rw[hy]at hy';cases hy';refine⟨by simp[Builtin.lenOf],by simp;omega,fun n' hn'=>?_⟩;have hle:n'*z≤m*z:=Nat.mul_le_mul_right z hn';have htk:((cs.drop o).take (m*z)).take (n'*z)=(cs.drop o).take (n'*z):=by rw[take_take,Nat.min_eq_left hle]
     rw[htk];by_cases hc0:0<c
     ·have ho':=hoo hc0;subst ho'
      obtain⟨l',hr,hrel⟩:=zc2 (P:=P) (w:=w) (b:=y.b) (off:=y.s+o) (β:=β) (l:=(cs.drop o).take (n'*z)) (fun j u hu=>by
       rw[List.getElem?_take]at hu;split at hu
       ·rw[List.getElem?_drop]at hu;rw[show y.s+o+j=y.s+(o+j) by omega];exact h1 _ u hu
       ·cases hu)
      have hlen:((cs.drop o).take (n'*z)).length=n'*z:=by simp;omega
      rw[hlen]at hr;exact⟨l',by simpa[Builtin.firstCells] using hr,hrel⟩
     ·have hm0:m=0:=by omega
      subst hm0;have hn0:n'=0:=by omega
      subst hn0;exact⟨[],by simp[Builtin.firstCells,loadCells,loadCellsFrom],by simpa using LRel.nil β⟩
    ·cases h
   ·cases h
  ·cases h
 ·rename_i s;split at h
  ·rename_i hz;subst hz;cases h;cases hx;refine⟨by simp[Builtin.lenOf],by simp,fun n hn=>⟨(s.data.toList.map fun b=>Value.int .u8 b.toNat).take (n*1),?_,?_⟩⟩
   ·simp only[Builtin.firstCells,Sem.run_pure];congr 1;apply Array.toList_inj.1;simp[extract_eq_take_drop]
   ·refine⟨rfl,fun j v v' hv hv'=>?_⟩;rw[hv]at hv';cases hv';rw[List.getElem?_take]at hv;split at hv
    ·rw[List.getElem?_map]at hv;cases hb:s.data.toList[j]? with
     |none=>rw[hb]at hv;cases hv
     |some b=>rw[hb]at hv;cases hv;exact .int _ _
    ·cases hv
  ·cases h
 ·cases h
theorem Rel.takeover{P:Program}{w w':World}{H:Hp}{β:Bt}(h:Rel P w H β){i:Nat}{cs:List Value}{x:BI}(hi:H.get i=some (.cells cs true))(hx:β i=some x)
  {p:Nat} {vs':List Value} (hp:Put w x.b p vs' w') {o':Nat} {ds:List Value} (hd:o'+ds.length≤x.t)
  (hc:∀(j:Nat) v,ds[j]?=some v→∃v',w'.cell? ⟨x.b,o'+j,none⟩=some v'∧VRel β v v') :
  Rel P w' ((H.set i none).new (.cells ds true)) (β.set H.next ⟨x.b,o',x.t⟩)∧Ext w.heap.size w H β w' ((H.set i none).new (.cells ds true)) (β.set H.next ⟨x.b,o',x.t⟩):=by
 obtain⟨x',hx',h1,h2⟩:=h.cells i cs true hi;rw[hx]at hx';cases hx';obtain⟨⟨arr,e,fz,hh,hsz,hfz⟩,hle⟩:=h2 rfl;obtain⟨arr',hh',hsz',hg⟩:=hp.row arr e fz hh;have hf:=h.fresh H.next (Nat.le_refl _);have hle':=Bt.le_set (x:=⟨x.b,o',x.t⟩) hf.2;have hoth:∀j o y,j≠i→H.get j=some o→β j=some y→w'.heap[y.b]?=w.heap[y.b]?:=fun j o y hji hj hy=>
  hp.other _ (fun e=>h.apart i j _ _ x y (Ne.symm hji) hi hj rfl hx hy e.symm)
 have hget:∀j o,((H.set i none).new (.cells ds true)).get j=some o→(j=H.next∧o=.cells ds true)∨(j≠H.next∧j≠i∧H.get j=some o):=fun j o hj=>by
  rw[Hp.get_new]at hj;split at hj
  ·rename_i e;cases hj;exact .inl ⟨e,rfl⟩
  ·rename_i e;rw[Hp.get_set]at hj;split at hj
   ·cases hj
   ·exact .inr ⟨e,by assumption,hj⟩
 have hset:∀j y,(β.set H.next ⟨x.b,o',x.t⟩) j=some y→(j=H.next∧y=⟨x.b,o',x.t⟩)∨(j≠H.next∧β j=some y):=fun j y hj=>by
  unfold Bt.set at hj;split at hj
  ·rename_i e;cases hj;exact .inl ⟨e,rfl⟩
  ·exact .inr ⟨by assumption,hj⟩
 refine⟨⟨fun j ds' own hj=>?_,fun j kv hj=>?_,fun j k o o2 y z hjk hj hk ho hy hz=>?_,fun j hj=>?_,fun j y hy=>?_,fun g hg=>?_,fun j o hj=>(by
   rcases hget j _ hj with⟨rfl,hq⟩|⟨hn,hji,hj⟩
   ·cases hq
   ·obtain⟨y,hy,h0,h3⟩:=h.fix j o hj
    exact⟨y,hle' j y hy,h0,by rw[hoth j _ y hji hj hy];exact h3⟩),fun j T hj=>((h.tys j T hj).put hp).le hle'⟩,
  ⟨hp.os,hp.tape,hp.output,by rw[hp.size];exact Nat.le_refl _,hle',Nat.le_succ _,fun b hb ho=>?_,fun b=>?_,fun j y hy hn=>?_⟩⟩
 ·rcases hget j _ hj with⟨rfl,hq⟩|⟨hn,hji,hj⟩
  ·cases hq;exact⟨_,Bt.set_same _ _ _,fun k v hk=>by obtain⟨v',q1,q2⟩:=hc k v hk;exact⟨v',q1,q2.mono hle'⟩,fun _=>⟨⟨arr',e,fz,hh',by show arr'.size=x.t;omega,fun q hq=>hfz q hq⟩,hd⟩⟩
  ·obtain⟨y,hy,h3,h4⟩:=h.cells j ds' own hj;have hw:=hoth j _ y hji hj hy;refine⟨y,hle' j y hy,fun k v hk=>?_,fun ho=>⟨(h4 ho).1.congr hw,(h4 ho).2⟩⟩;obtain⟨v',hv',hr⟩:=h3 k v hk;exact⟨v',by rw[zdb hw];exact hv',hr.mono hle'⟩
 ·rcases hget j _ hj with⟨rfl,hq⟩|⟨hn,hji,hj⟩
  ·cases hq
  ·obtain⟨y,hy,es,clock,h3,h4,h5⟩:=h.maps j kv hj;exact⟨y,hle' j y hy,es,clock,by rw[hoth j _ y hji hj hy];exact h3,h4.mono hle',h5⟩
 ·rcases hget j _ hj with⟨rfl,hq⟩|⟨hn,hji,hj⟩
  ·rcases hget k _ hk with⟨rfl,hq2⟩|⟨hn2,hki,hk⟩
   ·exact absurd rfl hjk
   ·rcases hset _ y hy with⟨_,rfl⟩|⟨hh,_⟩
    ·rcases hset k z hz with⟨e,_⟩|⟨_,hz⟩
     ·exact absurd e hn2
     ·exact h.apart i k _ _ x z (Ne.symm hki) hi hk rfl hx hz
    ·exact absurd rfl hh
  ·rcases hset j y hy with⟨e,_⟩|⟨_,hy⟩
   ·exact absurd e hn
   ·rcases hget k _ hk with⟨rfl,hq2⟩|⟨hn2,hki,hk⟩
    ·rcases hset _ z hz with⟨_,rfl⟩|⟨hh,_⟩
     ·exact(h.apart i j _ _ x y (Ne.symm hji) hi hj rfl hx hy).symm
     ·exact absurd rfl hh
    ·rcases hset k z hz with⟨e,_⟩|⟨_,hz⟩
     ·exact absurd e hn2
     ·exact h.apart j k o o2 y z hjk hj hk ho hy hz
 ·have hj:H.next+1≤j:=hj;have:=h.fresh j (by omega);have hjn:¬j=H.next:=by omega
  refine⟨?_,by unfold Bt.set;rw[if_neg hjn];exact this.2⟩;rw[Hp.get_new,if_neg (show ¬j=(H.set i none).next from hjn),Hp.get_set];split
  ·rfl
  ·exact this.1
 ·rw[hp.size];rcases hset j y hy with⟨_,rfl⟩|⟨_,hy⟩
  ·exact h.lt i x hx
  ·exact h.lt j y hy
 ·obtain⟨t,ht⟩:=h.glob g hg;exact⟨t,hle' g _ ht⟩
 ·exact hp.other b (fun e=>by subst e;exact ho ⟨i,_,x,hi,rfl,hx,rfl⟩)
 ·rintro⟨j,o,y,hj,ho,hy,rfl⟩
  rcases hget j _ hj with⟨rfl,hq⟩|⟨hn,hji,hj⟩
  ·rcases hset _ y hy with⟨_,rfl⟩|⟨hh,_⟩
   ·exact .inr ⟨i,_,x,hi,rfl,hx,rfl⟩
   ·exact absurd rfl hh
  ·rcases hset j y hy with⟨e,_⟩|⟨_,hy⟩
   ·exact absurd e hn
   ·exact .inr ⟨j,o,y,hj,ho,hy,rfl⟩
 ·rcases hset j y hy with⟨rfl,rfl⟩|⟨_,hy⟩
  ·exact .inr ⟨i,_,x,hi,rfl,hx,rfl⟩
  ·rw[hn]at hy;cases hy
theorem zfP(zs:Array Value)(n:Nat):(Builtin.zeroCells zs n).size=n*zs.size:=by simp[Builtin.zeroCells]
theorem zhv(need old:Nat)(e:TypeId)(t:Nat):∃c,Question.cut (.appendCap need old e) t=need+c:=⟨_,rfl⟩
section
variable {P:Program}{w:World}{t u ty e:TypeId}{i:TypeInfo}{z:Value}{du:TypeDesc}{base:Option Addr}{n c m:Nat}{x':Value}
theorem zdC(hu:P.underlying t=some (.slice e))(hi:P.info? e=some i)(hdu:P.underlying u=some du)(hdu':(∃q,du=.slice q)∨du=.string)(hlen:(Builtin.lenOf x').run P w=.ok m w)
  {l':List Value} (hfr:(Builtin.firstCells i.size m x').run P w=.ok l'.toArray w) (hc:n+m≤c) {w':World}
  (hst:((match base with|some a=>storeCells (a.add (n*i.size)) l'|none=>pure ():Sem Unit)).run P w=.ok () w') :
  (Builtin.append_ #[t,u] ty #[.slice base n c,x']).run P w=.ok (.slice base (n+m) c) w':=by
 unfold Builtin.append_;rcases hdu' with⟨q,rfl⟩|rfl <;>
  (simp only[List.getElem?_toArray,List.getElem?_cons_succ,List.getElem?_cons_zero,Sem.run_bind,zan w hu,Result.andThen_ok,zaQ w hi,zan w hdu,Sem.run_pure,Bool.false_eq_true,if_false,Sem.run_ite,
   hlen,hc,if_true,hfr,Bool.not_false]
   cases base with
   |none=>simp at hst;subst hst;simp
   |some a=>dsimp only at hst ⊢;simp only[Sem.run_bind,hst,Result.andThen_ok,Sem.run_pure])
theorem zfS(hu:P.underlying t=some (.slice e))(hi:P.info? e=some i)(hz:i.zero=some z)(hb0:i.bytes≠0)(hdu:P.underlying u=some du)(hdu':(∃q,du=.slice q)∨du=.string)
  (hlen:(Builtin.lenOf x').run P w=.ok m w)
  {old l':List Value} (hold:(Builtin.firstCells i.size n (.slice base n c)).run P w.drew=.ok old.toArray w.drew) (hfr:(Builtin.firstCells i.size m x').run P w.drew=.ok l'.toArray w.drew) (hc:¬n+m≤c)
  (hfit:(n+m)*i.bytes≤2^47) {d:Nat} (hcut:Question.cut (.appendCap (n+m) c e) (w.tape w.drawn (.appendCap (n+m) c e))=n+m+d) :
  (Builtin.append_ #[t,u] ty #[.slice base n c,x']).run P w=.ok (.slice (some ⟨w.heap.size,0,none⟩) (n+m) (n+m+d)) (w.drew.alloc (.cells (old.toArray++l'.toArray++Builtin.zeroCells z.cells d) e)):=by
 have hf:¬Builtin.nextslicecap (n+m) c*i.bytes>2^48:=by have:=growslice_fits (need:=n+m) (old:=c) (bytes:=i.bytes) (by omega) (by omega);omega
 have hd:n+m+d-(n+m)=d:=by omega
 unfold Builtin.append_;rcases hdu' with⟨q,rfl⟩|rfl <;>
  (simp only[List.getElem?_toArray,List.getElem?_cons_succ,List.getElem?_cons_zero,Sem.run_bind,zan w hu,Result.andThen_ok,zaQ w hi,zan w hdu,Sem.run_pure,Bool.false_eq_true,if_false,Sem.run_ite,
   hlen,hc,Bool.not_false,if_true,zde w hi,hb0,or_self,and_false,hf,run_choose,Question.forced,hcut,World.drew_eq,zde w.drew hi,run_askRoom,hold,hfr,zbA w.drew hi hz,newRow,run_newObj,hd]
   rfl)
end
theorem zol{e:TypeId}{i o z n c:Nat}{H:Hp}(h:zjC e (.slice (some ⟨i,o,some z⟩) n c) H=true):o=0∧0<c∧H.ty i=some e:=by
 unfold zjC at h;split at h
 ·rename_i q;cases q
 ·rename_i q;cases q;split at h
  ·rename_i T hT;rw[hT,Nat.eq_of_beq_eq_true h];exact⟨rfl,Nat.succ_pos _,rfl⟩
  ·cases h
 ·cases h
set_option maxHeartbeats 800000 in
theorem zni {P : Program} {w : World} {H H' : Hp} {β : Bt} (hR : Rel P w H β) {t u ty e : TypeId} {i : TypeInfo} {z : Value} {du : TypeDesc} (hu : P.underlying t = some (.slice e)) (hi : P.info? e = some i) (hz : i.zero = some z)
    (h0 : i.size ≠ 0) (hb0 : i.bytes ≠ 0) (hzl : (zab z).length = i.size) (hdu : P.underlying u = some du) (hdu' : (∃ q, du = .slice q) ∨ du = .string)
    {s x s' x' v : Value} (hs : VRel β s s') (hx : VRel β x x') (h : zbE i.size i.bytes s x H = some (v, H')) :
    ∃ v' w' β', (Builtin.append_ #[t, u] ty #[s', x']).run P w = .ok v' w' ∧ Rel P w' H' β' ∧ Ext w.heap.size w H β w' H' β' ∧ VRel β' v v' ∧
      (H'.next = H.next + 1 → zjC e s H = true → zlW w' β' H.next e) := by
  have hzz : z.cells.size = i.size := by simpa [zab] using hzl
  unfold zbE at h
  split at h
  · cases h
  · rename_i m new hsrc
    obtain ⟨hlen, hnl, hfc⟩ := zl6 hR hsrc hx
    obtain ⟨hlend, _, hfcd⟩ := zl6 hR.drew hsrc hx
    obtain ⟨l', hfr, hfrel⟩ := hfc m (Nat.le_refl _)
    obtain ⟨ld, hfd, hfrd⟩ := hfcd m (Nat.le_refl _)
    rw [take_of_length_le (by omega)] at hfrel hfrd
    have hl'l : l'.length = m * i.size := by rw [← hfrel.1]; exact hnl
    have hldl : ld.length = m * i.size := by rw [← hfrd.1]; exact hnl
    split at h
    · -- nil
      cases hs
      split at h
      · rename_i hm0
        cases h
        subst hm0
        exact ⟨.slice none 0 0, w, β, zdC hu hi hdu hdu' hlen hfr (by omega) (by simp), hR, Ext.refl _ _ _ _, .snil, fun q => absurd q (by omega)⟩
      · rename_i hm0
        split at h
        · rename_i hc
          cases h
          obtain ⟨d, hcut⟩ := zhv (0 + m) 0 e (w.tape w.drawn (.appendCap (0 + m) 0 e))
          have hrun := zfS (base := none) (n := 0) (c := 0) (ty := ty) (old := []) hu hi hz hb0 hdu hdu' hlen (by simp [Builtin.firstCells]) hfd (by omega) (by simpa using hc.1) hcut
          obtain ⟨g1, g2⟩ := hR.drew.new_cells new ([].toArray ++ ld.toArray ++ Builtin.zeroCells z.cells d) e (0, 0) (m * i.size)
            (by simp; rw [take_append_of_le_length (by omega), take_of_length_le (by omega)]; exact hfrd) (by intro j hj; simp)
          have hsz : ([].toArray ++ ld.toArray ++ Builtin.zeroCells z.cells d).size = (0 + m + d) * i.size := by
            simp only [Array.size_append, size_toArray, zfP, hldl, hzz, length_nil, Nat.add_mul, Nat.zero_add]
          refine ⟨_, _, _, hrun, g1, g2.of_drew, ?_, fun _ _ => ⟨_, _, (0, 0), Bt.set_same _ _ _, rfl, zbD _ _, rfl⟩⟩
          have := VRel.slice (β := β.set H.next ⟨w.drew.heap.size, 0, ([].toArray ++ ld.toArray ++ Builtin.zeroCells z.cells d).size⟩) H.next 0 i.size m m _ 0 (0 + m + d) (Bt.set_same _ _ _) (Nat.le_refl _) (by omega) (by rw [hsz]; simp) (by intro; rfl)
          rw [Nat.zero_add] at this ⊢
          exact this
        · cases h
    · rename_i i0 o zz n c
      split at h
      · cases h
      · rename_i hzs
        have hzs : zz = i.size := by omega
        subst hzs
        cases hs with
        | slice _ _ _ _ _ y o' c' hy hnc hcc ht hoo =>
        split at h
        · rename_i hm
          cases h
          obtain ⟨rfl, _⟩ := hm
          have hl0 : l' = [] := length_eq_zero_iff.1 (by omega)
          subst hl0
          refine ⟨_, w, β, zdC hu hi hdu hdu' hlen hfr (by omega) (by simp [storeCells]), hR, Ext.refl _ _ _ _, .slice _ _ _ _ _ y o' c' hy hnc hcc ht hoo, fun q => absurd q (by omega)⟩
        · split at h
          · rename_i cs hg
            obtain ⟨y', hy', h1, h2⟩ := hR.cells i0 cs true hg
            rw [hy] at hy'; cases hy'
            obtain ⟨⟨arr, ety, fz, hh, hsz, hfz⟩, hle⟩ := h2 rfl
            have hstore : ∀ (ws : List Value), ws.length = m * i.size → (ws.all Value.oneCell') = true → n + m ≤ c' → ∃ w', ((match (some ⟨y.b, o', none⟩ : Option Addr) with | some a => storeCells (a.add (n * i.size)) ws | none => pure () : Sem Unit)).run P w = .ok () w' ∧ Put w y.b (o' + n * i.size) ws w' := by
              intro ws hwl hw1 hnm
              have hmul : (n + m) * i.size ≤ c' * i.size := Nat.mul_le_mul_right _ hnm
              rw [Nat.add_mul] at hmul
              obtain ⟨w', hr, hp⟩ := zdc P y.b (o' + n * i.size) arr ety fz (by intro j hj; exact hfz j (by omega)) ws 0 w arr hh rfl (by omega) hw1
              exact ⟨w', by simpa [zdL] using hr, by simpa using hp⟩
            split at h
            · rename_i hnm
              split at h
              · rename_i hc
                cases h
                have hc0 : 0 < c := by omega
                have ho' := hoo hc0
                subst ho'
                obtain ⟨w', hst, hp⟩ := hstore l' hl'l (zlU hfrel hc.2) (by omega)
                have hcl := hc.1
                rw [Nat.add_mul] at hcl
                rw [show y.s + o + n * i.size = y.s + (o + n * i.size) by omega] at hp
                obtain ⟨g1, g2⟩ := hR.write hg hy (by omega) hfrel hp
                exact ⟨_, w', β, zdC hu hi hdu hdu' hlen hfr (by omega) hst, g1, g2, .slice _ _ _ _ _ y _ c' hy hnm hcc ht (fun _ => rfl), fun q => absurd q (show ¬ H.next = H.next + 1 by omega)⟩
              · cases h
            · rename_i hnm
              split at h
              · rename_i hc
                cases h
                have holdc : ∀ (j : Nat) u, ((cs.drop o).take (n * i.size))[j]? = some u → ∃ u', w.cell? ⟨y.b, o' + j, none⟩ = some u' ∧ VRel β u u' := by
                  intro j u hu
                  rw [List.getElem?_take] at hu
                  split at hu
                  · rename_i hj
                    have hn0 : 0 < n := by rcases Nat.eq_zero_or_pos n with e | e; · subst e; simp at hj
                                           exact e
                    have ho' := hoo (by omega)
                    subst ho'
                    rw [List.getElem?_drop] at hu
                    rw [show y.s + o + j = y.s + (o + j) by omega]
                    exact h1 _ u hu
                  · cases hu
                have hol : ((cs.drop o).take (n * i.size)).length = n * i.size := by simp; have := hc.1; omega
                by_cases hin : n + m ≤ c'
                · obtain ⟨w', hst, hp⟩ := hstore l' hl'l (zlU hfrel hc.2.2) hin
                  have hmul : (n + m) * i.size ≤ c' * i.size := Nat.mul_le_mul_right _ hin
                  rw [Nat.add_mul] at hmul
                  obtain ⟨arr2, hh2, hs2, hg2⟩ := hp.row arr ety fz hh
                  obtain ⟨g1, g2⟩ := hR.takeover hg hy hp (o' := o') (ds := (cs.drop o).take (n * i.size) ++ new) (by simp only [length_append, hol, hnl]; omega) (fun j v hj => by
                    by_cases hjn : j < n * i.size
                    · rw [List.getElem?_append_left (by omega)] at hj
                      obtain ⟨v', q1, q2⟩ := holdc j v hj
                      obtain ⟨a3, e3, f3, q3, q4⟩ := zcp.1 q1
                      rw [hh] at q3; cases q3
                      exact ⟨v', zcp.2 ⟨arr2, _, _, hh2, by rw [hg2, if_neg (by omega)]; exact q4⟩, q2⟩
                    · rw [List.getElem?_append_right (by omega), hol] at hj
                      obtain ⟨v', q1, q2⟩ := hfrel.get hj
                      have hjl : j - n * i.size < l'.length := (List.getElem?_eq_some_iff.1 q1).1
                      exact ⟨v', zcp.2 ⟨arr2, _, _, hh2, by rw [hg2, if_pos (by omega), show o' + j - (o' + n * i.size) = j - n * i.size by omega]; exact q1⟩, q2⟩)
                  refine ⟨_, w', _, zdC hu hi hdu hdu' hlen hfr hin hst, g1, g2, ?_, fun _ hq => by
                    obtain ⟨rfl, hc0, hty⟩ := zol hq
                    obtain ⟨y', arr', fz', hy', k1, k2, k3⟩ := hR.tys _ _ hty
                    rw [hy] at hy'; cases hy'
                    rw [hh] at k2; cases k2
                    have ho' := hoo hc0
                    exact ⟨_, arr2, fz, Bt.set_same _ _ _, by show o' = 0; omega, hh2, by show arr2.size = y.t; omega⟩⟩
                  exact .slice H.next 0 i.size (n + m) (n + m) ⟨y.b, o', y.t⟩ o' c' (Bt.set_same _ _ _) (Nat.le_refl _) hin ht (fun _ => rfl)
                · obtain ⟨d, hcut⟩ := zhv (n + m) c' e (w.tape w.drawn (.appendCap (n + m) c' e))
                  obtain ⟨old', hro, hrel⟩ := zc2 (P := P) (w := w.drew) (b := y.b) (off := o') (β := β) (l := (cs.drop o).take (n * i.size)) holdc
                  rw [hol] at hro
                  have hrun := zfS (base := some ⟨y.b, o', none⟩) (n := n) (c := c') (ty := ty) (old := old') hu hi hz hb0 hdu hdu' hlen (by simpa [Builtin.firstCells] using hro) hfd hin (by have := hc.2.1; omega) hcut
                  obtain ⟨k1, k2⟩ := hR.drew.kill i0
                  have holl : old'.length = n * i.size := by rw [← hrel.1]; exact hol
                  obtain ⟨g1, g2⟩ := k1.new_cells ((cs.drop o).take (n * i.size) ++ new) (old'.toArray ++ ld.toArray ++ Builtin.zeroCells z.cells d) e (0, 0) ((n + m) * i.size)
                    (by
                      have : (old'.toArray ++ ld.toArray ++ Builtin.zeroCells z.cells d).toList.take ((n + m) * i.size) = old' ++ ld := by
                        simp
                        rw [← append_assoc, take_append_of_le_length (by simp [Nat.add_mul]; omega), take_of_length_le (by simp [Nat.add_mul]; omega)]
                      rw [this]
                      exact hrel.append hfrd) (by intro j hj; simp)
                  have hsz2 : (old'.toArray ++ ld.toArray ++ Builtin.zeroCells z.cells d).size = (n + m + d) * i.size := by
                    simp only [Array.size_append, size_toArray, zfP, hldl, hzz, holl, Nat.add_mul]
                  refine ⟨_, _, _, hrun, g1, (k2.trans g2).of_drew, ?_, fun _ _ => ⟨_, _, (0, 0), Bt.set_same _ _ _, rfl, zbD _ _, rfl⟩⟩
                  exact .slice H.next 0 i.size (n + m) (n + m) ⟨w.heap.size, 0, _⟩ 0 (n + m + d) (Bt.set_same _ _ _) (Nat.le_refl _) (by omega) (by show 0 + _ ≤ (old'.toArray ++ ld.toArray ++ Builtin.zeroCells z.cells d).size; rw [hsz2]; omega) (fun _ => rfl)
              · cases h
          · cases h
    · cases h
end Go.AM
namespace Go.AM
open Go
section
variable {α:Type}{C:Ctx}{N:Nat}{w:World}{S:St}{β:Bt}{lam:Nat→Nat}{fr:Fr}{a:Act}{o:Oper}{k:Slot→St→Option α}{r:α}
theorem zcA{β:Bt}{d:Nat}{v:Option Value}{v':Option Value}{n:Int}(h:zcU d v=some n)(hr:ORel β v v') :
  (v'=none∧n=d)∨∃k,v'=some (.int k n):=by
 unfold zcU at h;unfold ORel at hr;split at h
 ·cases h;cases v' with
  |none=>exact .inl ⟨rfl,rfl⟩
  |some _=>exact hr.elim
 ·cases h;cases v' with
  |none=>exact hr.elim
  |some u=>cases hr;exact .inr ⟨_,rfl⟩
 ·cases h
theorem zfA{P:Program}{w:World}{isS:Bool}{len cap:Nat}{lo hi:Option Value}{l h:Int}(hl:(lo=none∧l=0)∨∃k,lo=some (.int k l))(hh:(hi=none∧h=len)∨∃k,hi=some (.int k h))
  (h0:0≤l) (h1:l≤h) (h2:h≤cap):(Instr.sliceBounds isS len cap lo hi none).run P w=.ok (l.toNat,h.toNat,cap) w:=by
 have hb:∀(k:IntKind) (x:Int) (y:Nat) (c:BoundsCode),0≤x→x≤y→(Instr.sliceBound (.int k x) y c).run P w=.ok x.toNat w:=by intro k x y c hx hy;simp only[Instr.sliceBound,asIntOf,Sem.run_bind,Sem.run_pure,Result.andThen_ok,hx,hy,and_self,if_true]
 have h3:0≤h:=Int.le_trans h0 h1;have hc2:l≤((h.toNat:Nat):Int):=by omega
 unfold Instr.sliceBounds;rcases hl with⟨rfl,rfl⟩|⟨k1,rfl⟩<;>rcases hh with⟨rfl,rfl⟩|⟨k2,rfl⟩
 ·simp
 ·simp[hb k2 h cap _ h3 h2]
 ·simp[hb k1 l len _ h0 h1]
 ·simp[hb k2 h cap _ h3 h2,hb k1 l h.toNat _ h0 hc2]
theorem sim_slice{T:TypeId}{x:Operand}{lo hi:Option Operand}(ho:o.op=.slice T x lo hi none)(h:opC C fr S o k=some r)(hR:Rel C.P w S.hp β)(hF:FRel N w S.bx β lam fr a):Step C.P N w S β lam fr a o k r:=by
 simp only[opC,ho]at h;obtain⟨v,hv,h1⟩:=za2 hR hF h;clear h;obtain⟨vl,h2,hvl⟩:=zpc hR hF h1;clear h1;obtain⟨vh,h,hvh⟩:=zpc hR hF h2;clear h2;generalize hq:a.eval x=q at hv;split at h
 ·rename_i hu;unfold za5 at h;split at h
  ·rename_i u hs;unfold zgx at hs;split at hs
   ·rename_i s;cases hv;split at hs
    ·rename_i l hh hl hh';split at hs
     ·rename_i hc;cases hs;have g1:=zcA hl hvl;have g2:=zcA hh' hvh;refine Step.val hR hF h (v':=.string (s.extract l.toNat hh.toNat)) ?_ (.string _);simp only[execOp,ho,hq,Instr.sliceAt,Instr.slice,Option.map_none,Sem.run_bind,zan w hu,Result.andThen_ok,Option.isSome_none,Bool.false_eq_true,if_false,zfA g1 g2 hc.1 hc.2.1 hc.2.2,Sem.run_pure]
     ·cases hs
    ·cases hs
   ·cases hs
  ·cases h
 ·rename_i e hu;split at h
  ·rename_i ti hi';unfold zdw at h;split at h
   ·rename_i u hs;unfold zhB at hs;split at hs
    ·cases hv;split at hs
     ·rename_i l hh hl hh';split at hs
      ·rename_i hc;cases hs;have g1:=zcA hl hvl;have g2:=zcA hh' hvh;refine Step.val hR hF h (v':=.slice none 0 0) ?_ .snil;have hb:=zfA (P:=C.P) (w:=w) (isS:=true) (len:=0) (cap:=0) g1 g2 (by omega) (by omega) (by omega);simp only[execOp,ho,hq,Instr.sliceAt,Instr.slice,Option.map_none,Sem.run_bind,zan w hu,Result.andThen_ok,hb,zaQ w hi',Sem.run_pure,hc.1,hc.2];simp
      ·cases hs
     ·cases hs
    ·rename_i i0 off z n c;split at hs
     ·rename_i l hh hl hh';split at hs
      ·rename_i hc;cases hs;obtain⟨rfl,hc0,hc1,hc2⟩:=hc;cases hv with
       |slice _ _ _ _ _ y o' c' hy hnc hcc ht hoo=>
       have g1:=zcA hl hvl;have g2:=zcA hh' hvh;have hb:=zfA (P:=C.P) (w:=w) (isS:=true) (len:=n) (cap:=c') g1 g2 hc0 hc1 (by omega);refine Step.val hR hF h (v':=.slice (some ⟨y.b,(if c'=l.toNat then o' else o'+l.toNat*ti.size),none⟩) (hh.toNat-l.toNat) (c'-l.toNat)) ?_ ?_
       ·simp only[execOp,ho,hq,Instr.sliceAt,Instr.slice,Option.map_none,Sem.run_bind,zan w hu,Result.andThen_ok,hb,zaQ w hi',Sem.run_pure,Option.map_some,zdL];split<;>rfl
       ·have hsub:(hh-l).toNat=hh.toNat-l.toNat:=by omega
        show VRel β _ _;rw[hsub];refine .slice _ _ _ _ _ y _ _ hy (by omega) (by omega) ?_ (fun hp=>?_)
        ·split
         ·rename_i e;rw[e,Nat.sub_self,Nat.zero_mul];have:=Nat.le_trans (Nat.le_add_right o' (c'*ti.size)) ht;omega
         ·have:l.toNat*ti.size+(c'-l.toNat)*ti.size=c'*ti.size:=by rw[←Nat.add_mul];congr 1;omega
          omega
        ·rw[if_neg (by omega),hoo (by omega),Nat.add_assoc]
      ·cases hs
     ·cases hs
    ·cases hs
   ·cases h
  ·cases h
 ·rename_i n e hu;split at h
  ·rename_i ti hi';unfold zck at h;split at h
   ·rename_i u hs;unfold ziv at hs;split at hs
    ·rename_i i0 off;split at hs
     ·rename_i cs hg;split at hs
      ·rename_i l hh hl hh';split at hs
       ·rename_i hc;cases hs;cases hv with
        |ptr _ _ y hy=>
        obtain⟨y',hy',_,h2⟩:=hR.cells i0 cs true hg;rw[hy]at hy';cases hy';have hle:=(h2 rfl).2;have g1:=zcA hl hvl;have g2:=zcA hh' hvh;have hb:=zfA (P:=C.P) (w:=w) (isS:=false) (len:=n) (cap:=n) g1 g2 hc.2.1 hc.2.2.1 (by omega);have hsub:(hh-l).toNat=hh.toNat-l.toNat:=by omega
        refine Step.val hR hF h (v':=.slice (some ⟨y.b,(if n=l.toNat then y.s+off else y.s+off+l.toNat*ti.size),none⟩) (hh.toNat-l.toNat) (n-l.toNat)) ?_ ?_
        ·simp only[execOp,ho,hq,Instr.sliceAt,Instr.slice,Option.map_none,Sem.run_bind,zan w hu,Result.andThen_ok,Instr.sureAddr,hb,zaQ w hi',Sem.run_pure,zdL];split<;>rfl
        ·show VRel β _ _;rw[hsub];refine .slice _ _ _ _ _ y _ _ hy (by omega) (Nat.le_refl _) ?_ (fun hp=>?_)
         ·split
          ·rename_i e;rw[e,Nat.sub_self,Nat.zero_mul];omega
          ·have:l.toNat*ti.size+(n-l.toNat)*ti.size=n*ti.size:=by rw[←Nat.add_mul];congr 1;omega
           omega
         ·rw[if_neg (by omega),Nat.add_assoc]
       ·cases hs
      ·cases hs
     ·cases hs
    ·cases hs
   ·cases h
  ·cases h
 ·cases h
end
end Go.AM
namespace Go.AM
open List Go
section
variable {α:Type}{C:Ctx}{N:Nat}{w:World}{S:St}{β:Bt}{lam:Nat→Nat}{fr:Fr}{a:Act}{o:Oper}{k:Slot→St→Option α}{r:α}
theorem zkV:∀(cs:List Value) (l:List UInt8) (β:Bt) (cs':List Value),zgu cs=some l→LRel β cs cs'→∃ns:List Int,cs'=ns.map (Value.int .u8)∧l=ns.map fun n=>UInt8.ofNat n.toNat
 |[],l,β,cs',h,hr=>by
  cases h
  have:cs'=[]:=length_eq_zero_iff.1 (by have:=hr.1;simp at this;omega)
  subst this
  exact⟨[],rfl,rfl⟩
 |v::r,l,β,cs',h,hr=>by
  cases v with
  |int k n=>
   cases k<;>simp only[zgu]at h<;>try (cases h;done)
   split at h
   ·rename_i l' hl'
    cases h
    cases cs' with
    |nil=>have:=hr.1;simp at this
    |cons v' r2=>
     have h0:=hr.2 0 _ _ rfl rfl
     cases h0
     have hr2:LRel β r r2:=⟨by have:=hr.1;simpa using this,fun k u u' hu hu'=>hr.2 (k+1) u u' (by simpa using hu) (by simpa using hu')⟩
     obtain⟨ns,he,hl⟩:=zkV r l' β r2 hl' hr2
     exact⟨n::ns,by rw[he];rfl,by rw[hl];rfl⟩
   ·cases h
  |_=>simp only[zgu]at h;cases h
theorem znu{src dst:TypeId}{x:Operand}(ho:o.op=.convert src dst x)(hN:N≤w.heap.size)(h:opC C fr S o k=some r)(hR:Rel C.P w S.hp β)(hF:FRel N w S.bx β lam fr a):Step C.P N w S β lam fr a o k r:=by
 simp only[opC,ho]at h;obtain⟨v,hv,h1⟩:=za2 hR hF h;clear h;generalize hq:a.eval x=q at hv;split at h1
 ·rename_i k1 kd hs hd;unfold zaj at h1;split at h1
  ·rename_i u hu;unfold zlR at hu;split at hu
   ·cases hu;cases hv;refine Step.val hR hF h1 (v':=_) ?_ (.int _ _);simp only[execOp,ho,hq,convert,Sem.run_bind,zan w hs,zan w hd,Result.andThen_ok,Conv.intToInt,Sem.run_pure]
   ·cases hu
  ·cases h1
 ·rename_i hs hd;unfold pStr at h1;split at h1
  ·cases hv;refine Step.val hR hF h1 (v':=_) ?_ (.string _);simp only[execOp,ho,hq,convert,Sem.run_bind,zan w hs,zan w hd,Result.andThen_ok,Sem.run_pure]
  ·cases h1
 ·rename_i k1 hs hd;unfold znR at h1;split at h1
  ·cases hv;refine Step.val hR hF h1 (v':=_) ?_ (.string _);simp only[execOp,ho,hq,convert,Sem.run_bind,zan w hs,zan w hd,Result.andThen_ok,Conv.intToString,Sem.run_pure]
  ·cases h1
 ·rename_i e hs hd;split at h1
  ·rename_i he;unfold zdH at h1;split at h1
   ·rename_i s;split at h1
    ·rename_i hsz;cases hv;have hge:s.size≤grownCap w s.size 0 e:=by obtain⟨c,hcut⟩:=zhv s.size 0 e (w.tape w.drawn (.appendCap s.size 0 e));unfold grownCap;rw[hcut];omega
     have hrun:=run_bytes_of_string (P:=C.P) w src dst e s hs hd he;generalize grownCap w s.size 0 e=cap at hge hrun;have hrow:(bytesRow s cap).toList.take s.size=s.data.toList.map fun b=>Value.int .u8 (b.toNat:Int):=by unfold bytesRow;simp only[Array.toList_append,Array.toList_map];rw[take_append_of_le_length (by simp),take_of_length_le (by simp)]
     have hrsz:(bytesRow s cap).size=cap:=by unfold bytesRow;simp;omega
     obtain⟨g1,g2⟩:=hR.drew.new_cells (s.data.toList.map fun b=>.int .u8 (b.toNat:Int)) (bytesRow s cap) e ((bytesRow s cap).size,(bytesRow s cap).size+1) s.size
      (by
       rw[hrow];refine⟨rfl,fun j u u' hu hu'=>?_⟩;rw[hu]at hu';cases hu';rw[List.getElem?_map]at hu;cases hb:s.data.toList[j]? with
       |none=>rw[hb]at hu;cases hu
       |some b=>rw[hb]at hu;cases hu;exact .int _ _) (by intro j hj;simp;omega)
     refine Step.heap hN hR hF h1 (v':=.slice (some ⟨w.heap.size,0,none⟩) s.size cap) (.inl ?_) g1 g2.of_drew
      (.slice S.hp.next 0 1 s.size s.size ⟨w.heap.size,0,(bytesRow s cap).size⟩ 0 cap (Bt.set_same _ _ _) (Nat.le_refl _) hge (by show _≤(bytesRow s cap).size;omega) (fun _=>rfl))
     simp only[execOp,ho,hq,Sem.run_bind,hrun,Result.andThen_ok,Sem.run_pure]
    ·cases h1
   ·cases h1
  ·cases h1
 ·rename_i e hs hd;split at h1
  ·rename_i he;unfold zed at h1;split at h1
   ·rename_i u hu;unfold zl3 at hu;split at hu
    ·cases hu;cases hv;refine Step.val hR hF h1 (v':=.string ⟨#[]⟩) ?_ (.string _);simp only[execOp,ho,hq,convert,Sem.run_bind,zan w hs,zan w hd,Result.andThen_ok,zan w he,Conv.bytesToString,Sem.run_pure];rfl
    ·rename_i ad n c;split at hu
     ·rename_i m cs hsrc;split at hu
      ·rename_i l hl;cases hu;obtain⟨hlen,hnl,hfc⟩:=zl6 hR hsrc hv;obtain⟨l',hfr,hfrel⟩:=hfc m (Nat.le_refl _);rw[take_of_length_le (by omega)]at hfrel;obtain⟨ns,rfl,rfl⟩:=zkV cs l β l' hl hfrel;have hmn:m=n:=by
        unfold zbK at hsrc;split at hsrc
        ·rename_i e;cases e
        ·rename_i e;cases e;split at hsrc
         ·split at hsrc
          ·split at hsrc<;>cases hsrc;rfl
          ·cases hsrc
         ·cases hsrc
        ·rename_i e;cases e
        ·cases hsrc
       subst hmn;cases hv with
       |slice i0 oo z n c y o' c' hy hnc hcc ht hoo=>
        simp only[Builtin.firstCells,Nat.mul_one]at hfr;refine Step.val hR hF h1 (v':=.string ⟨(ns.map fun (n:Int)=>UInt8.ofNat n.toNat).toArray⟩) ?_ (.string _);have:=run_bytesToString w ⟨y.b,o',none⟩ m c' ns hfr;simp only[execOp,ho,hq,convert,Sem.run_bind,zan w hs,zan w hd,Result.andThen_ok,zan w he,this,foldl_push_bytes,Sem.run_pure];have he0:ByteArray.empty.data = #[]:=rfl;rw[he0];simp
      ·cases hu
     ·cases hu
    ·cases hu
   ·cases h1
  ·cases h1
 ·cases h1
end
theorem zmY(cs:List Value):∀(vs:List Value) (off j0:Nat),off+j0+vs.length≤cs.length→∀(acc:Array Value),acc.size=cs.length →
  ((vs.zipIdx j0).foldl (fun (a:Array Value) (p:Value×Nat)=>a.setIfInBounds (off+p.2) p.1) acc).toList=spl acc.toList (off+j0) vs
 |[],off,j0,_,acc,_=>by simp[spl]
 |v::vs,off,j0,h,acc,ha=>by
  simp only[length_cons]at h;simp only[zipIdx_cons,foldl_cons];rw[zmY cs vs off (j0+1) (by omega) _ (by simp;exact ha)];apply ext_getElem?;intro k;rw[zhd _ _ _ (by simp;omega),zhd _ _ _ (by simp;omega)];simp only[Array.getElem?_toList,Array.getElem?_setIfInBounds,length_cons];by_cases h1:off+(j0+1)≤k∧k<off+(j0+1)+vs.length
  ·rw[if_pos h1,if_pos (by omega),show k-(off+j0)=(k-(off+(j0+1)))+1 by omega];simp
  ·rw[if_neg h1];by_cases h2:off+j0=k
   ·subst h2;rw[if_pos rfl,if_pos (by omega),if_pos (by omega)];simp
   ·rw[if_neg h2,if_neg (by omega)]
theorem zlN{β:Bt}{place:Nat→Option (Nat×Nat)}:∀(parts:List (Nat×Value)) (cells out:List Value) (parts':List (Nat×Value)) (cells':Array Value),
  zjr place cells parts=some out→LRel β cells cells'.toList→parts.map (·.1)=parts'.map (·.1)→LRel β (parts.map (·.2)) (parts'.map (·.2)) →
  ∃out':Array Value,Instr.fill place cells' parts'=some out'∧LRel β out out'.toList
 |[],cells,out,parts',cells',h,hc,h1,h2=>by
  cases h;have:parts'=[]:=by cases parts';rfl;simp at h1
  subst this;exact⟨cells',rfl,hc⟩
 |(i,v)::parts,cells,out,parts',cells',h,hc,h1,h2=>by
  cases parts' with
  |nil=>simp at h1
  |cons p' parts'=>
   obtain⟨i',v'⟩:=p';simp only[map_cons,List.cons.injEq]at h1;obtain⟨rfl,h1⟩:=h1;have hv:VRel β v v':=h2.2 0 _ _ rfl rfl;have h2':LRel β (parts.map (·.2)) (parts'.map (·.2)):=⟨by have:=h2.1;simpa using this,fun k u u' a b=>h2.2 (k+1) u u' (by simpa using a) (by simpa using b)⟩
   unfold zjr at h;split at h
   ·cases h
   ·rename_i off size hp;split at h
    ·rename_i hcnd;have hvc:=hv.cells;have hsz:v'.cells.size=size:=by have:=hvc.1;simp at this;omega
     have hcl:=hc.1;have hcl':cells.length=cells'.size:=by simpa using hcl
     have hset:=zmY cells v'.cells.toList off 0 (by simp;omega) cells' hcl'.symm;have hfold:(v'.cells.zipIdx.foldl (fun cs (c,j)=>cs.setIfInBounds (off+j) c) cells').toList=spl cells'.toList off v'.cells.toList:=by
      have e:v'.cells.zipIdx.toList=v'.cells.toList.zipIdx 0:=by simp
      rw[←Array.foldl_toList,e];exact hset
     have hrel:LRel β (spl cells off (zab v)) (v'.cells.zipIdx.foldl (fun cs (c,j)=>cs.setIfInBounds (off+j) c) cells').toList:=by
      rw[hfold];refine LRel.of_get ?_ fun k u hk=>?_
      ·rw[zew _ _ _ (by omega),zew _ _ _ (by simp;omega)];exact hcl
      ·rw[zhd _ _ _ (by omega)]at hk;rw[zhd _ _ _ (by simp;omega)];have hvl:=hvc.1;split at hk
       ·rw[if_pos (by omega)];exact hvc.get hk
       ·rw[if_neg (by omega)];exact hc.get hk
     obtain⟨out',g1,g2⟩:=zlN parts _ out parts' _ h hrel h1 h2';refine⟨out',?_,g2⟩;unfold Instr.fill;rw[hp];dsimp only;rw[if_neg (by simp;omega)];exact g1
    ·cases h
theorem ziO{P:Program}{w:World}:∀(fs:List Field) (l:List (Nat×Nat)),zib P fs=some l →
  (fs.mapM (m:=Sem) fun f=>do pure (f.offset,←sizeOf f.type)).run P w=.ok l w
 |[],l,h=>by cases h;simp
 |f::fs,l,h=>by
  unfold zib at h;split at h
  ·cases h
  ·rename_i i hi;split at h
   ·cases h
   ·rename_i r hr;cases h;have:=ziO (w:=w) fs r hr;simp only[mapM_cons,Sem.run_bind,zaQ w hi,Result.andThen_ok,Sem.run_pure,this]
section
variable {α:Type}{C:Ctx}{N:Nat}{w:World}{S:St}{β:Bt}{lam:Nat→Nat}{fr:Fr}{a:Act}{o:Oper}{k:Slot→St→Option α}{r:α}
theorem zmw{ρ:Operand→Value}{parts:Array (Nat×Operand)}{vs:List Value}(h:LRel β vs ((parts.toList.map (·.2)).map ρ)) :
  (((parts.toList.map (·.1)).zip vs).map (·.1))=((parts.map fun (i,x)=>(i,ρ x)).toList.map (·.1))∧LRel β (((parts.toList.map (·.1)).zip vs).map (·.2)) ((parts.map fun (i,x)=>(i,ρ x)).toList.map (·.2)):=by
 have hl:=h.1;simp only[length_map]at hl;constructor
 ·rw[map_fst_zip (by simp at hl ⊢;omega)];simp[Function.comp_def]
 ·rw[map_snd_zip (by simp at hl ⊢;omega)];simpa[Function.comp_def] using h
theorem sim_build{T:TypeId}{parts:Array (Nat×Operand)}(ho:o.op=.build T parts)(h:opC C fr S o k=some r)(hR:Rel C.P w S.hp β)(hF:FRel N w S.bx β lam fr a):Step C.P N w S β lam fr a o k r:=by
 simp only[opC,ho]at h;obtain⟨vs,hvs,h1⟩:=zft hR hF _ h;clear h;unfold zaB at h1;split at h1
 ·rename_i v hb;unfold zg5 at hb;obtain⟨i,z,hi,hz,hc,hb⟩:=zgv hb;obtain⟨hp1,hp2⟩:=zmw hvs;have hzr:=(zda (β:=β) hc).cells;split at hb
  ·rename_i fs hu;split at hb
   ·cases hb
   ·rename_i l hl;split at hb
    ·rename_i cs hf;cases hb;obtain⟨out',g1,g2⟩:=zlN _ _ cs _ _ hf hzr hp1 hp2;refine Step.val hR hF h1 (v':=.agg out') ?_ (zcP.2 ⟨out',rfl,by simpa using g2⟩);have hpl:=ziO (w:=w) fs.toList l hl;have hm:(fs.mapM (m:=Sem) fun f=>do pure (f.offset,←sizeOf f.type)).run C.P w=.ok l.toArray w:=by rw[←Array.toArray_toList (xs:=fs),mapM_toArray,Sem.run_map,hpl];simp
     have hpa:(fun x=>l.toArray[x]?)=znO l:=by funext x;simp[znO]
     simp only[execOp,ho,Instr.build,Sem.run_bind,zbA w hi hz,Result.andThen_ok,zan w hu,hm,hpa];rw[g1];simp
    ·cases hb
  ·rename_i len e hu;split at hb
   ·cases hb
   ·rename_i ti hti;split at hb
    ·rename_i cs hf;cases hb;obtain⟨out',g1,g2⟩:=zlN _ _ cs _ _ hf hzr hp1 hp2;refine Step.val hR hF h1 (v':=.agg out') ?_ (zcP.2 ⟨out',rfl,by simpa using g2⟩);simp only[execOp,ho,Instr.build,Sem.run_bind,zbA w hi hz,Result.andThen_ok,zan w hu,zaQ w hti];rw[g1];simp
    ·cases hb
  ·cases hb
 ·cases h1
theorem zf7(n:Nat)(zs:List Value):(repl n zs).length=n*zs.length:=by
 induction n with
 |zero=>simp[repl]
 |succ n ih=>simp[repl,ih,Nat.add_mul];omega
theorem repl_get (n : Nat) (zs : List Value) (j : Nat) (h : j < n * zs.length) : (repl n zs)[j]? = zs[j % zs.length]? := by
  induction n generalizing j with
  | zero => simp at h
  | succ n ih =>
    have hz : 0 < zs.length := by rcases Nat.eq_zero_or_pos zs.length with e | e; · rw [e] at h; simp at h
                                  exact e
    simp only [repl]
    by_cases hj : j < zs.length
    · rw [List.getElem?_append_left hj, Nat.mod_eq_of_lt hj]
    · have hs : (n + 1) * zs.length = n * zs.length + zs.length := Nat.succ_mul _ _
      rw [List.getElem?_append_right (by omega), ih (j - zs.length) (by omega)]
      congr 1
      exact (Nat.mod_eq_sub_mod (by omega)).symm
theorem zoT{z z':Value}(hz:VRel β z z')(n:Nat)(h0:z'.cells.size≠0) :
  LRel β (repl n (zab z)) ((Array.range (n*z'.cells.size)).map (z'.cells[· % z'.cells.size]!)).toList:=by
 have hc:=hz.cells;have hcl:=hc.1;simp only[Array.length_toList]at hcl;refine LRel.of_get (by simp[zf7,hcl]) fun j v hj=>?_;have hjl:j<n*z'.cells.size:=by have:=(List.getElem?_eq_some_iff.1 hj).1;rw[zf7,hcl]at this;exact this
 rw[repl_get _ _ _ (by rw[hcl];exact hjl),hcl]at hj;obtain⟨v',hv',hr⟩:=hc.get hj;refine⟨v',?_,hr⟩;have hm:j%z'.cells.size<z'.cells.size:=Nat.mod_lt _ (by omega);simp only[Array.getElem?_toList,Array.getElem?_map];rw[Array.getElem?_range];simp only[hjl,if_true,Option.map_some];have hv2:z'.cells[j%z'.cells.size]?=some v':=by simpa using hv'
 rw[getElem!_pos z'.cells _ hm];rw[Array.getElem?_eq_getElem hm]at hv2;exact hv2
theorem zjT{T:TypeId}{len:Nat}{parts:Array (Nat×Operand)}(ho:o.op=.buildSlice T len parts)(hN:N≤w.heap.size)(h:opC C fr S o k=some r)(hR:Rel C.P w S.hp β)(hF:FRel N w S.bx β lam fr a) :
  Step C.P N w S β lam fr a o k r:=by
 simp only[opC,ho]at h;obtain⟨vs,hvs,h1⟩:=zft hR hF _ h;clear h;obtain⟨e,i,z,hu,hi,hz,h0,hb0,hzl,hz1,hzc,h1⟩:=zfx h1;unfold zam at h1;split at h1
 ·rename_i v H' hb;unfold zb0 at hb;split at hb
  ·cases hb
  ·rename_i hsz;split at hb
   ·rename_i cs hf;cases hb;obtain⟨hp1,hp2⟩:=zmw hvs;have hzsz:z.cells.size=i.size:=by simpa[zab] using hzl
    have hrr:=zoT (zda (β:=β) hzc) len (by omega);rw[hzsz]at hrr;obtain⟨out',g1,g2⟩:=zlN _ _ cs _ _ hf hrr hp1 hp2;obtain⟨k1,k2⟩:=hR.new_cells cs out' e (0,0) out'.size (by rw[take_of_length_le (by simp)];exact g2) (by intro j hj;simp);have hosz:out'.size=len*i.size:=by
     have h3:=g2.1;have h4:∀(parts:List (Nat×Value)) (cells out:List Value) (pl:Nat→Option (Nat×Nat)),zjr pl cells parts=some out→out.length=cells.length:=by
      intro parts;induction parts with
      |nil=>intro cells out pl h;cases h;rfl
      |cons p parts ih=>
       intro cells out pl h;obtain⟨q,u⟩:=p;unfold zjr at h;split at h
       ·cases h
       ·split at h
        ·rename_i hc;rw[ih _ _ _ h,zew _ _ _ (by omega)]
        ·cases h
     have:=h4 _ _ _ _ hf;rw[zf7]at this;simp at h3;rw[←h3,this,hzl]
    refine Step.heap hN hR hF h1 (v':=.slice (some ⟨w.heap.size,0,none⟩) len len) (.inl ?_) k1 k2
     (.slice S.hp.next 0 i.size len len ⟨w.heap.size,0,out'.size⟩ 0 len (Bt.set_same _ _ _) (Nat.le_refl _) (Nat.le_refl _) (by show _≤out'.size;omega) (fun _=>rfl))
    by_cases hl0:len*i.size=0
    ·have h00:¬(0>2^24):=by decide
     have hr0:Array.range 0 = #[]:=rfl;simp only[hl0,hr0,Array.map_empty]at g1;simp only[execOp,ho,Instr.buildSlice,Sem.run_bind,zan w hu,Result.andThen_ok,zaQ w hi,if_neg h00,Sem.run_pure,hl0,if_true,hr0,Array.map_empty];rw[g1];simp[newRow]
    ·simp only[execOp,ho,Instr.buildSlice,Sem.run_bind,zan w hu,Result.andThen_ok,zaQ w hi,if_neg hsz,Sem.run_pure,if_neg hl0,zbA w hi hz,hzsz];rw[g1];simp[newRow]
   ·cases hb
 ·cases h1
theorem zk8{T:TypeId}{l c:Operand}(ho:o.op=.makeSlice T l c)(hN:N≤w.heap.size)(h:opC C fr S o k=some r)(hR:Rel C.P w S.hp β)(hF:FRel N w S.bx β lam fr a) :
  Step C.P N w S β lam fr a o k r:=by
 simp only[opC,ho]at h;obtain⟨lv,hlv,h1⟩:=za2 hR hF h;clear h;obtain⟨cv,hcv,h2⟩:=za2 hR hF h1;clear h1;obtain⟨e,i,z,hu,hi,hz,h0,hb0,hzl,hz1,hzc,h3⟩:=zfx h2;clear h2;generalize hql:a.eval l=ql at hlv;generalize hqc:a.eval c=qc at hcv;unfold zaZ at h3;split at h3
 ·rename_i v H' hm;unfold zcn at hm;split at hm
  ·rename_i n m;split at hm
   ·rename_i hc;cases hm;cases hlv;cases hcv;obtain⟨hn0,hnm,hmb⟩:=hc;have hzsz:z.cells.size=i.size:=by simpa[zab] using hzl
    have hrr:=zoT (zda (β:=β) hzc) m.toNat (by omega);let arr:=(Array.range (m.toNat*i.size)).map (z.cells[· % z.cells.size]!)
    have harr:arr=(Array.range (m.toNat*z.cells.size)).map (z.cells[· % z.cells.size]!):=by simp only[arr,hzsz]
    rw[←harr]at hrr;have hasz:arr.size=m.toNat*i.size:=by simp[arr]
    obtain⟨k1,k2⟩:=hR.new_cells (repl m.toNat (zab z)) arr e (0,0) arr.size (by rw[take_of_length_le (by simp)];exact hrr) (by intro j hj;simp);refine Step.heap hN hR hF h3 (v':=.slice (some ⟨w.heap.size,0,none⟩) n.toNat m.toNat) (.inl ?_) k1 k2
     (.slice S.hp.next 0 i.size n.toNat m.toNat ⟨w.heap.size,0,arr.size⟩ 0 m.toNat (Bt.set_same _ _ _) (by omega) (Nat.le_refl _) (by show _≤arr.size;omega) (fun _=>rfl))
    have hm47:m≤2^47:=by
     have:(1:Int)≤(i.bytes:Int):=by omega
     have h5:m*1≤m*(i.bytes:Int):=Int.mul_le_mul_of_nonneg_left this (by omega);omega
    have hw1:IntKind.i64.wrap n=n:=by simp[IntKind.wrap,IntKind.bits,IntKind.signed];omega
    have hw2:IntKind.i64.wrap m=m:=by simp[IntKind.wrap,IntKind.bits,IntKind.signed];omega
    have hcomm:(i.bytes:Int)*m=m*i.bytes:=Int.mul_comm _ _;have hcommn:(i.bytes:Int)*n≤m*i.bytes:=by rw[Int.mul_comm];exact Int.mul_le_mul_of_nonneg_right hnm (by omega)
    have ht1:¬(m<0):=by omega
    have ht2:¬((i.bytes:Int)*m>2^48):=by omega
    simp only[execOp,ho,hql,hqc,Instr.makeSlice,Sem.run_bind,zan w hu,Result.andThen_ok,asInt,asIntOf,Sem.run_pure,zde w hi,hw1,hw2];have hg:((decide (m<0)||decide ((i.bytes:Int)*m>2^48))||decide (n<0)||decide (n>m))=false:=by simp;omega
    simp only[hg,Bool.false_eq_true,if_false,Sem.run_bind,run_askRoom,Result.andThen_ok,zaQ w hi];by_cases hl0:m.toNat*i.size=0
    ·have hae:arr = #[]:=by apply Array.eq_empty_of_size_eq_zero;omega
     have hr0:Array.range 0 = #[]:=rfl;simp only[hl0,if_true,Sem.run_pure,Result.andThen_ok,hr0,Array.map_empty,newRow,Sem.run_bind,run_newObj,hae];rfl
    ·simp only[if_neg hl0,Sem.run_bind,zbA w hi hz,Sem.run_pure,Result.andThen_ok,newRow,run_newObj];rfl
   ·cases hm
  ·cases hm
 ·cases h3
end
theorem zd5{P:Program}{β:Bt}(em:Bool):∀(d n:Nat) (t:TypeId) (v v':Value) (w:World),d≤n→zer P d t v=true→VRel β v v'→(Instr.checkKey em n t v').run P w=.ok () w
 |0,n,t,v,v',w,_,h,_=>by cases h
 |d+1,0,t,v,v',w,hd,_,_=>by omega
 |d+1,n+1,t,v,v',w,hd,h,hv=>by
  unfold zer at h;split at h
  ·rename_i hu;cases hv;simp[Instr.checkKey,zan w hu]
  ·rename_i hu;cases hv;simp[Instr.checkKey,zan w hu]
  ·rename_i hu;cases hv;simp[Instr.checkKey,zan w hu]
  ·rename_i fs cs hu;obtain⟨cs',rfl,hl⟩:=zcP.1 hv;simp only[Instr.checkKey,Sem.run_bind,zan w hu,Result.andThen_ok];rw[←Array.forIn_toList];have key:∀(l:List Field),(l.all fun f=>match zmx P f.type cs.toList f.offset with|some x=>zer P d f.type x|none=>false)=true →
     (forIn l PUnit.unit (fun f (r:PUnit)=>(if f.name ≠ "_" then do
       Instr.checkKey em n f.type (←part f.type cs' f.offset)
       pure (ForInStep.yield PUnit.unit)
      else pure (ForInStep.yield PUnit.unit):Sem (ForInStep PUnit)))).run P w=.ok PUnit.unit w:=by
    intro l;induction l with
    |nil=>intro _;simp
    |cons f l ih=>
     intro hall;simp only[all_cons,Bool.and_eq_true]at hall;have ih':=ih hall.2;have h1:=hall.1;split at h1
     ·rename_i x hx;obtain⟨x',hr,hxr⟩:=zic (w:=w) hl hx;have hck:=zd5 em d n f.type x x' w (by omega) h1 hxr;have hr':(part f.type cs' f.offset).run P w=.ok x' w:=by simpa using hr
      simp only[forIn_cons,Sem.run_bind];by_cases hn:f.name ≠ "_"
      ·rw[if_pos hn];simp only[Sem.run_bind,hr',Result.andThen_ok,hck,Sem.run_pure];exact ih'
      ·rw[if_neg hn];simp only[Sem.run_pure,Result.andThen_ok];exact ih'
     ·cases h1
   have:=key fs.toList h;rw[this];rfl
  ·cases h
theorem zj9{P:Program}{β:Bt}{t:TypeId}{d:TypeDesc}(hd:P.underlying t=some d){x y x' y':Value}{b c:Bool}(h:eqT P 10000 t x y=some b)(hx:VRel β x x')(hy:VRel β y y')
  (hs:Instr.sameNow d x' y'=some c):c=b:=by
 have h1:=zjv (P:=P) 10000 t x y b x' y' default h hx hy;unfold Instr.sameNow at hs;split at hs
 ·split at hs
  ·rename_i hk;cases hs;rw[Op.equalIn]at h1;simp[zan _ hd,hk]at h1;exact h1
  ·cases hs
 ·cases hs;rw[Op.equalIn]at h1;simp[zan _ hd]at h1;exact h1
 ·cases hs;rw[Op.equalIn]at h1;simp[zan _ hd]at h1;exact h1
 ·cases hs
def zfs(es:List MapEntry):Option (Nat×Value)→Nat→Option (Nat×Value)
 |none,_=>none
 |some (j,_),i0=>(es[j-i0]?).map fun e=>(j,e.val)
theorem zil{P:Program}{kt:TypeId}{key:Value}:∀(kv:List (Value×Value)) (i j:Nat) (v:Value),zeX P kt key kv i=some (some (j,v))→i≤j∧∃k,kv[j-i]?=some (k,v)∧eqT P 10000 kt key k=some true
 |[],i,j,v,h=>by cases h
 |(k,u)::r,i,j,v,h=>by
  unfold zeX at h;split at h
  ·rename_i he;cases h;exact⟨Nat.le_refl _,k,by simp,he⟩
  ·obtain⟨h1,k',h2,h3⟩:=zil r (i+1) j v h;exact⟨by omega,k',by rw[show j-i=(j-(i+1))+1 by omega];simpa using h2,h3⟩
  ·cases h
theorem find_ok{P:Program}{w:World}{β:Bt}{kt:TypeId}{d:TypeDesc}(hd:P.underlying kt=some d){key key':Value}(hk:VRel β key key'):∀(kv:List (Value×Value)) (es:List MapEntry) (i:Nat) (res:Option (Nat×Value)),
  zeX P kt key kv i=some res→ERel β kv es →
  (Instr.findAsking kt key' es i).run P w=.ok (zfs es res i) w∧(∀q,Instr.findNow d key' es i=some q→q=zfs es res i)
 |[],es,i,res,h,hr=>by
  cases h;have:es=[]:=length_eq_zero_iff.1 (by have:=hr.1;simp at this;omega);subst this;exact⟨by simp[Instr.findAsking,zfs],fun q hq=>by cases hq;rfl⟩
 |(k,u)::kv,es,i,res,h,hr=>by
  cases es with
  |nil=>have:=hr.1;simp at this
  |cons e es=>
   have h0:=hr.2 0 k u e rfl rfl;have hr':ERel β kv es:=⟨by have:=hr.1;simpa using this,fun j a b c h1 h2=>hr.2 (j+1) a b c (by simpa using h1) (by simpa using h2)⟩
   unfold zeX at h;split at h
   ·rename_i he;cases h;have heq:(Op.equal kt key' e.key).run P w=.ok true w:=zjv 10000 kt key k true key' e.key w he hk h0.1;refine⟨by simp[Instr.findAsking,heq,zfs],fun q hq=>?_⟩;unfold Instr.findNow at hq;split at hq
    ·cases hq;simp[zfs]
    ·rename_i hs;have:=zj9 hd he hk h0.1 hs;cases this
    ·cases hq
   ·rename_i he;have heq:(Op.equal kt key' e.key).run P w=.ok false w:=zjv 10000 kt key k false key' e.key w he hk h0.1;obtain⟨g1,g2⟩:=find_ok (w:=w) hd hk kv es (i+1) res h hr';have hshift:zfs (e::es) res i=zfs es res (i+1):=by
     cases res with
     |none=>rfl
     |some p=>
      obtain⟨j,v⟩:=p;have:=(zil kv (i+1) j v h).1;simp only[zfs];rw[show j-i=(j-(i+1))+1 by omega];simp
    rw[hshift];refine⟨by simp[Instr.findAsking,heq,g1],fun q hq=>?_⟩;unfold Instr.findNow at hq;split at hq
    ·rename_i hs;have:=zj9 hd he hk h0.1 hs;cases this
    ·exact g2 q hq
    ·cases hq
   ·cases h
theorem zdO{P:Program}{w:World}{β:Bt}{kt:TypeId}{d:TypeDesc}(hd:P.underlying kt=some d){key key':Value}(hk:VRel β key key'){kv:List (Value×Value)}{es:List MapEntry}{res:Option (Nat×Value)}
  (h:zeX P kt key kv 0=some res) (hr:ERel β kv es):(Instr.findKey kt key' es).run P w=.ok (zfs es res 0) w:=by
 obtain⟨g1,g2⟩:=find_ok (w:=w) hd hk kv es 0 res h hr;simp only[Instr.findKey,Sem.run_bind,zan w hd,Result.andThen_ok];split
 ·rename_i q hq;rw[g2 q hq];rfl
 ·exact g1
theorem zih{α:Type}{P:Program}{T:TypeId}{k:TypeId→Value→Option α}{r:α}(h:mapC P T k=some r) :
  ∃kt et d i z,P.underlying T=some (.map kt et)∧P.underlying kt=some d∧P.info? et=some i∧i.zero=some z∧zdt z=true∧k kt z=some r:=by
 unfold mapC at h;split at h
 ·rename_i kt et hu;split at h
  ·rename_i hk;obtain⟨i,z,hi,hz,hc,h⟩:=zgv h;have:∃d,P.underlying kt=some d:=by
    unfold keyOk at hk;cases hd:P.underlying kt with
    |none=>rw[hd]at hk;cases hk
    |some d=>exact⟨d,rfl⟩
   obtain⟨d,hd⟩:=this;exact⟨kt,et,d,i,z,hu,hd,hi,hz,hc,h⟩
  ·cases h
 ·cases h
theorem zhD{β:Bt}(n:Nat)(a b:Option Addr)(x' y':Value)(h:Instr.sameBits n (.pointer a) (.pointer b)=true)(hx:VRel β (.pointer a) x')(hy:VRel β (.pointer b) y'):Instr.sameBits n x' y'=true:=by
 have he:a=b:=by cases n<;>simpa[Instr.sameBits] using h
 subst he;cases hx with
 |pnil=>cases hy;cases n<;>rfl
 |ptr i o q hq=>
  cases hy with
  |ptr _ _ q' hq'=>rw[hq]at hq';cases hq';cases n<;>simp[Instr.sameBits]
theorem znz{β:Bt}(n:Nat):∀(x y x' y':Value),Instr.sameBits n x y=true→VRel β x x'→VRel β y y'→Instr.sameBits n x' y'=true:=by
 induction n with
 |zero=>
  intro x y x' y' h hx hy;cases x<;>cases y<;>first
   |(cases hx;done)
   |(simp[Instr.sameBits]at h;done)
   |exact zhD 0 _ _ _ _ h hx hy
   |(cases hx;cases hy;exact h)
 |succ n ih=>
  intro x y x' y' h hx hy;have agg:∀a b:Array Value,x=.agg a→y=.agg b→Instr.sameBits (n+1) x' y'=true:=by
   intro a b hxa hyb;subst hxa;subst hyb;obtain⟨a',rfl,ha⟩:=zcP.1 hx;obtain⟨b',rfl,hb⟩:=zcP.1 hy;simp only[Instr.sameBits,Bool.and_eq_true,beq_iff_eq]at h ⊢;have h1:=ha.1;have h2:=hb.1;simp only[Array.length_toList]at h1 h2;refine⟨by omega,?_⟩;rw[all_eq_true]at h ⊢;intro p hp;obtain⟨j,hj,rfl⟩:=getElem_of_mem hp;simp only[length_zip,Array.length_toList]at hj;simp only[getElem_zip];have hja:j<a.toList.length:=by simp;omega
   have hjb:j<b.toList.length:=by simp;omega
   refine ih a.toList[j] b.toList[j] _ _ ?_ (ha.2 j _ _ (by simp) (by simp)) (hb.2 j _ _ (by simp) (by simp))
   have:=h.2 (a.toList[j],b.toList[j]) (by
    rw[←getElem_zip (l:=a.toList) (l':=b.toList) (i:=j) (h:=by simp;omega)]
    exact getElem_mem _)
   exact this
  cases x<;>cases y<;>first
   |(cases hx;done)
   |(simp[Instr.sameBits]at h;done)
   |exact zhD (n+1) _ _ _ _ h hx hy
   |exact agg _ _ rfl rfl
   |(cases hx with
     |iface _ _ v' hv=>
      cases hy with
      |iface _ _ v2' hv2=>
       simp only[Instr.sameBits,Bool.and_eq_true]at h ⊢
       exact⟨h.1,ih _ _ v' v2' h.2 hv hv2⟩)
   |(cases hx;cases hy;exact h)
end Go.AM
