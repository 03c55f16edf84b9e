/- Part of the proof of EvalValuesUptoCardSaid: see the last file.  -/
import Derived.Laws.Bits64
import Derived.KernelRfl
import Derived.Laws.RangeString
import Derived.Laws.RangeAny
import Derived.Lib.DecodeN
import Derived.Laws.MathBits
import Derived.Test.YtcbmccpkhagckaaGreatDoorRows
import Derived.Test.YtcbmccpkhagckaaGreatDoorT0
import Derived.Test.YtcbmccpkhagckaaGreatDoorT1
import Derived.Test.YtcbmccpkhagckaaGreatDoorT2
set_option linter.unusedSimpArgs false
set_option linter.unusedVariables false
set_option linter.unusedSectionVars false
set_option maxRecDepth 100000
namespace Go.AM
open List Go
def zl9(k:IntKind):List Value→List Int→Bool
 |[],[]=>true
 |.int k' a::r,b::s=>decide (k'=k)&&decide (a=b)&&zl9 k r s
 |_,_=>false
theorem zpy{k:IntKind}:∀(l:List Value) (s:List Int),zl9 k l s=true→l=s.map fun z=>Value.int k z
 |[],[],_=>rfl
 |[],_::_,h=>by cases h
 |_::_,[],h=>by unfold zl9 at h;split at h<;>simp_all
 |v::r,b::s,h=>by
  unfold zl9 at h;split at h
  ·rename_i e1 e2;cases e1
  ·rename_i k' a r' b' s' e1 e2;cases e1;cases e2;rw[Bool.and_eq_true,Bool.and_eq_true,decide_eq_true_eq,decide_eq_true_eq]at h;rw[zpy r s h.2,h.1.1,h.1.2];rfl
  ·cases h
def zqW:List Int:=Go.Lib.pow10Tab
def zlm:List Int:=Go.Lib.asciiSpaceTab
def extFmt(args:List Value)(H:Hp):Option (Value×Hp):=
 match args with
 |[.int .i64 n,.int .i64 10]=>if -9223372036854775808≤n∧n≤9223372036854775807 then
   match H.get AH with
   |some (.fix (.cells cs _ _))=>match zl9 .u64 cs.toList zqW with
    |true=>some (.string ⟨(Go.Lib.itoa n).toArray⟩,H)
    |false=>none
   |_=>none
  else none
 |_=>none
def zkK(args:List Value)(H:Hp):Option (Value×Hp):=
 match args with
 |[.string s]=>if s.size<4294967281∧s.data.toList.all (fun b=>decide (b.toNat<128))=true then
   match H.get AG with
   |some (.fix (.cells cs _ _))=>match zl9 .u8 cs.toList zlm with
    |true=>some (.slice (some ⟨H.next,0,some 1⟩) (Go.Lib.fields s.data.toList).length (Go.Lib.fields s.data.toList).length,H.new (.cells ((Go.Lib.fields s.data.toList).map fun l=>Value.string ⟨l.toArray⟩) true))
    |false=>none
   |_=>none
  else none
 |_=>none
def Hp.skip(H:Hp):Hp:=⟨H.next+1,H.get,H.ty⟩
def isErr:List Value→Bool
 |.iface _ _::_=>true
 |_=>false
def zn3(args:List Value)(H:Hp):Option (Value×Hp):=
 match args with
 |[.string fn,.string s,.int .i64 _,.int .i64 _,.iface t (.int .i64 c)]=>if t=Aj∧s.size≤281474976710656∧(c=1∨c=2) then
   match H.get (if c=2 then Az else AA) with
   |some (.fix (.cells cs _ _))=>match isErr cs.toList with
    |true=>some (.iface Ct (.pointer (some ⟨H.next,0,none⟩)),H.skip)
    |false=>none
   |_=>none
  else none
 |_=>none
def E0:FuncId→Option (List Value→Hp→Option (Value×Hp)):=fun f=>
 if f=CJ then some extFmt else if f=BP then some zkK else if f=CF then some extCC else if f=CE then some extStr
 else if f=Bj then some zn3 else none
noncomputable abbrev RR:zag:=run PP orc E0
theorem znh{P:Program}{w w':World}{H:Hp}{β:Bt}(h:Rel P w H β)(ho:w'.os=w.os)(ht:w'.tape=w.tape)(hu:w'.output=w.output)(hs:w.heap.size≤w'.heap.size)(hp:∀b,b<w.heap.size→w'.heap[b]?=w.heap[b]?) :
  Rel P w' H β∧Ext w.heap.size w H β w' H β:=
 ⟨h.frame hs fun i x hx=>hp _ (h.lt i x hx),ho,ht,hu,hs,Bt.le_refl _,Nat.le_refl _,fun b hb _=>hp b hb,fun b q=>.inr q,fun i x hx e=>by rw[hx]at e;cases e⟩
theorem Rel.skip{P:Program}{w:World}{H:Hp}{β:Bt}(h:Rel P w H β){b:Nat}(hb:b<w.heap.size)(t:Nat):Rel P w H.skip (β.set H.next ⟨b,0,t⟩)∧β.le (β.set H.next ⟨b,0,t⟩):=by
 have hf:=(h.fresh H.next (Nat.le_refl _)).2;have hle:β.le (β.set H.next ⟨b,0,t⟩):=Bt.le_set hf;have old:∀{i o y},H.get i=some o→(β.set H.next ⟨b,0,t⟩) i=some y→β i=some y:=fun {i o y} hi hy=>by obtain⟨z,hz⟩:=h.has i o hi;rw[hle i z hz]at hy;cases hy;exact hz
 refine⟨⟨fun i ds own hi=>?_,fun i kv hi=>?_,fun i j o o' x y hij hi hj ho hx hy=>h.apart i j o o' x y hij hi hj ho (old hi hx) (old hj hy),fun i hi=>?_,fun i x hx=>?_,fun g hg=>?_,fun i o hi=>?_,fun i T hi=>(h.tys i T hi).le hle⟩,hle⟩
 ·obtain⟨x,hx,h1,h2⟩:=h.cells i ds own hi;exact⟨x,hle i x hx,fun j v hv=>by obtain⟨v',h3,h4⟩:=h1 j v hv;exact⟨v',h3,h4.mono hle⟩,h2⟩
 ·obtain⟨x,hx,es,clock,h1,h2,h3⟩:=h.maps i kv hi;exact⟨x,hle i x hx,es,clock,h1,h2.mono hle,h3⟩
 ·have hi:H.next+1≤i:=hi;have:=h.fresh i (by omega);exact⟨this.1,by unfold Bt.set;rw[if_neg (by omega)];exact this.2⟩
 ·unfold Bt.set at hx;split at hx
  ·cases hx;exact hb
  ·exact h.lt i x hx
 ·obtain⟨t',ht⟩:=h.glob g hg;exact⟨t',hle g _ ht⟩
 ·obtain⟨x,hx,h1,h2⟩:=h.fix i o hi;exact⟨x,hle i x hx,h1,h2⟩
theorem LRel.two{β:Bt}{a b:Value}{l:List Value}(h:LRel β [a,b] l):∃a' b',l=[a',b']∧VRel β a a'∧VRel β b b':=by
 obtain⟨hl,hv⟩:=h
 match l,hl with
 |[x,y],_=>exact⟨x,y,rfl,hv 0 _ _ rfl rfl,hv 1 _ _ rfl rfl⟩
theorem LRel.five{β:Bt}{a b c d e:Value}{l:List Value}(h:LRel β [a,b,c,d,e] l):∃a' b' c' d' e',l=[a',b',c',d',e']∧VRel β a a'∧VRel β b b'∧VRel β c c'∧VRel β d d'∧VRel β e e':=by
 obtain⟨hl,hv⟩:=h
 match l,hl with
 |[x,y,z,u,v],_=>exact⟨x,y,z,u,v,rfl,hv 0 _ _ rfl rfl,hv 1 _ _ rfl rfl,hv 2 _ _ rfl rfl,hv 3 _ _ rfl rfl,hv 4 _ _ rfl rfl⟩
theorem tabIs{w:World}{H:Hp}{β:Bt}(hR:Rel PP w H β){name:String}{g:Nat}(hg:PP.globalNamed name=some g)(hlt:g<PP.globals.size){cs:Array Value}{e:TypeId}{fz:Nat×Nat}(h:H.get g=some (.fix (.cells cs e fz))){k:IntKind}{zs:List Int}
  (ht:zl9 k cs.toList zs=true):Go.Lib.TabIs PP w name k zs:=by
 obtain⟨x,hx,_,hx2⟩:=hR.fix g _ h;obtain⟨t,ht2⟩:=hR.glob g hlt;rw[hx]at ht2;cases ht2;unfold Go.Lib.TabIs World.var?;rw[hg];have hx2:w.heap[g]?=some (.cells cs e fz):=hx2;show (match w.heap[g]? with|some (.cells cs _ _)=>some cs|_=>none)=_;rw[hx2];dsimp only;congr 1;apply Array.ext';rw[zpy _ _ ht]
theorem zlb:PP.globals.size=12:=by kernel_rfl
theorem named_pow:PP.globalNamed "internal/strconv.uint64pow10" = some AH:=by kernel_rfl
theorem named_spc:PP.globalNamed "strings.asciiSpace" = some AG:=by kernel_rfl
theorem errIs{w:World}{H:Hp}{β:Bt}(hR:Rel PP w H β){g:Nat}(hlt:g<PP.globals.size){cs:Array Value}{e:TypeId}{fz:Nat×Nat}(h:H.get g=some (.fix (.cells cs e fz)))(ht:isErr cs.toList=true) :
  ∃te pe,w.cell? ⟨g,0,none⟩=some (.iface te pe):=by
 obtain⟨x,hx,_,hx2⟩:=hR.fix g _ h;obtain⟨t,ht2⟩:=hR.glob g hlt;rw[hx]at ht2;cases ht2;obtain⟨l⟩:=cs;cases l with
 |nil=>cases ht
 |cons v r=>
  cases v with
  |iface te pe=>exact⟨te,pe,zcC.2 ⟨_,e,fz,hx2,rfl⟩⟩
  |_=>cases ht
theorem extErr_ok{args:List Value}{H:Hp}{v:Value}{H':Hp}(he:zn3 args H=some (v,H')){args':List Value}{w:World}{β:Bt}(hl:LRel β args args')(hR:Rel PP w H β) :
  Calls PP Bj args'.toArray w fun x w'=>∃v' β',x=.returned v'∧Rel PP w' H' β'∧Ext w.heap.size w H β w' H' β'∧VRel β' v v':=by
 unfold zn3 at he;split at he
 ·rename_i fn s i1 i2 t c;split at he
  ·rename_i hc;obtain⟨rfl,hs,hc⟩:=hc;split at he
   ·rename_i cs ty fz hg;split at he
    ·rename_i hok;cases he;obtain⟨a',b',c',d',e',rfl,ha,hb,hc',hd,he'⟩:=hl.five;cases ha;cases hb;cases hc';cases hd;cases he' with
     |iface _ _ v' hv=>
     cases hv;have fin:∀e w',(∃N,e=Ending.returned (.iface Ct (.pointer (some ⟨N,0,none⟩)))∧w.heap.size≤N∧N<w'.heap.size∧RowKit.Below w.heap.size w w') →
       ∃v' β',e=.returned v'∧Rel PP w' H.skip β'∧Ext w.heap.size w H β w' H.skip β'∧VRel β' (.iface Ct (.pointer (some ⟨H.next,0,none⟩))) v':=by
      rintro e w' ⟨N,rfl,h1,h2,h3⟩
      obtain⟨r1,r2⟩:=znh hR h3.os h3.tape h3.output h3.size h3.block;obtain⟨q1,q2⟩:=r1.skip h2 0;refine⟨_,_,rfl,q1,⟨h3.os,h3.tape,h3.output,h3.size,q2,Nat.le_succ _,fun b hb _=>h3.block b hb,fun b q=>?_,fun i x hx hn=>?_⟩,.iface _ _ _ (.ptr _ 0 ⟨N,0,0⟩ (Bt.set_same _ _ _))⟩
      ·obtain⟨i,o,x,hi,ho,hx,rfl⟩:=q;have hi:H.get i=some o:=hi;obtain⟨z,hz⟩:=hR.has i o hi;rw[q2 i z hz]at hx;cases hx;exact .inr ⟨i,o,_,hi,ho,hz,rfl⟩
      ·unfold Bt.set at hx;split at hx
       ·cases hx;exact .inl h1
       ·rw[hn]at hx;cases hx
     rcases hc with rfl|rfl
     ·obtain⟨te,pe,hv⟩:=errIs hR (by rw[zlb];decide) hg hok;refine(Go.Proofs.Tryz.strconv_toError_range fn s i1 i2 _ w hs hv (.inr ⟨te,pe,rfl⟩)).mono fun e w' ⟨N,g1,g2,g3,g4⟩=>fin e w' ⟨N,g1,g2,?_,g4⟩;exact(Array.getElem?_eq_some_iff.1 g3).1
     ·obtain⟨te,pe,hv⟩:=errIs hR (by rw[zlb];decide) hg hok;refine(Go.Proofs.Tryz.strconv_toError_syntax fn s i1 i2 _ w hs hv (.inr ⟨te,pe,rfl⟩)).mono fun e w' ⟨N,g1,g2,g3,g4⟩=>fin e w' ⟨N,g1,g2,?_,g4⟩;exact(Array.getElem?_eq_some_iff.1 g3).1
    ·cases he
   ·cases he
  ·cases he
 ·cases he
theorem extE0:ExtC PP E0:=by
 intro f e hf args H v H' he args' w β hl hR;unfold E0 at hf;split at hf
 ·rename_i hf1;subst hf1;cases hf;unfold extFmt at he;split at he
  ·rename_i n;split at he
   ·rename_i hn;split at he
    ·rename_i cs ty fz hg;split at he
     ·rename_i hok;cases he;obtain⟨a',b',rfl,ha,hb⟩:=hl.two;cases ha;cases hb;have hT:=tabIs hR named_pow (by rw[zlb];decide) hg hok;refine(Go.Proofs.Tryz.internal_strconv_FormatInt_10 n hn.1 hn.2 w hT).mono fun x w' ⟨h1,k,os,h2⟩=>?_;subst h2
      obtain⟨r1,r2⟩:=znh hR (w':=Go.Sort.grow (w.drewN k) os) rfl rfl rfl (by show w.heap.size≤(w.heap++os).size;rw[Array.size_append];omega) (fun b hb=>by
       show (w.heap++os)[b]?=_
       rw[Array.getElem?_append_left hb])
      exact⟨_,β,h1,r1,r2,.string _⟩
     ·cases he
    ·cases he
   ·cases he
  ·cases he
 ·split at hf
  ·rename_i hf2;subst hf2;cases hf;unfold zkK at he;split at he
   ·rename_i s;split at he
    ·rename_i hs;split at he
     ·rename_i cs ty fz hg;split at he
      ·rename_i hok;cases he;obtain⟨a',rfl,ha⟩:=hl.single;cases ha;have hT:=tabIs hR named_spc (by rw[zlb];decide) hg hok;refine(Go.Proofs.Tryz.strings_Fields_laid s w hs.1 (fun j b hb=>of_decide_eq_true (all_eq_true.1 hs.2 b (mem_of_getElem? hb))) hT).mono fun x w' ⟨h1,h2⟩=>?_;subst h2;subst h1;have hlr:LRel β ((Go.Lib.fields s.data.toList).map fun l=>Value.string ⟨l.toArray⟩) ((((Go.Lib.fields s.data.toList).map fun l=>Value.string ⟨l.toArray⟩).toArray).toList.take ((Go.Lib.fields s.data.toList).length)):=by
        have e:(((Go.Lib.fields s.data.toList).map fun l=>Value.string ⟨l.toArray⟩).toArray).toList.take ((Go.Lib.fields s.data.toList).length)=(Go.Lib.fields s.data.toList).map fun l=>Value.string ⟨l.toArray⟩:=by rw[take_of_length_le (by simp)]
        rw[e];refine⟨rfl,fun k v v' h1 h2=>?_⟩;rw[h1]at h2;cases h2;rw[List.getElem?_map]at h1;cases q:(Go.Lib.fields s.data.toList)[k]? with
        |none=>rw[q]at h1;cases h1
        |some l=>rw[q]at h1;cases h1;exact .string _
       obtain⟨g1,g2⟩:=hR.new_cells _ (((Go.Lib.fields s.data.toList).map fun l=>Value.string ⟨l.toArray⟩).toArray) 9 (0,0) _ hlr (by intro j hj;simp);refine⟨_,_,rfl,g1,g2,?_⟩;have:=VRel.slice (β:=β.set H.next ⟨w.heap.size,0,(((Go.Lib.fields s.data.toList).map fun l=>Value.string ⟨l.toArray⟩).toArray).size⟩) H.next 0 1 (Go.Lib.fields s.data.toList).length (Go.Lib.fields s.data.toList).length _ 0 (Go.Lib.fields s.data.toList).length (Bt.set_same _ _ _) (Nat.le_refl _) (Nat.le_refl _) (by simp) (by intro;rfl);exact this
      ·cases he
     ·cases he
    ·cases he
   ·cases he
  ·split at hf
   ·rename_i hf3;subst hf3;cases hf;exact extCC_ok he hl hR
   ·split at hf
    ·rename_i hf4;subst hf4;cases hf;exact extStr_ok he hl hR
    ·split at hf
     ·rename_i hf5;subst hf5;cases hf;exact extErr_ok he hl hR
     ·cases hf
end Go.AM
namespace Go.AM
open Go
def zaj(op:Int):Int:=if op=1∨op=2∨op=3∨op=4 then 0 else if op=5∨op=15∨op=16∨op=31∨op=32∨op=33 then 1 else if op=14 then 3 else 2
theorem c29(op:Int)(H:Hp):RR Ay [.int .i64 op] H=some (.int .i64 (zaj op),H):=by
 refine(znj E0 rfl _ _).trans ?_;unfold zi8;simp only[zac,s_br,zaF,zal,zcd,zaA,za0,zbZ,zaz,decide_eq_true_eq,qg0];unfold zaj;by_cases h1:op=1
 ·simp[h1]
 by_cases h2:op=2
 ·simp[h2]
 by_cases h3:op=3
 ·simp[h3]
 by_cases h4:op=4
 ·simp[h4]
 simp only[h1,h2,h3,h4,if_false,zal,zaA,zac,qg0,decide_false,Bool.false_eq_true,or_self,false_or];by_cases h5:op=5
 ·simp[h5]
 by_cases h6:op=15
 ·simp[h6]
 by_cases h7:op=16
 ·simp[h7]
 by_cases h8:op=31
 ·simp[h8]
 by_cases h9:op=32
 ·simp[h9]
 by_cases h10:op=33
 ·simp[h10]
 by_cases h11:op=14
 ·simp[h11]
 simp[h5,h6,h7,h8,h9,h10,h11]
end Go.AM
namespace Go.AM
open List Go
structure Nd where
 op:Int
 w:Int
 a:Int
 b:Int
 c:Int
 num:Int
 name:ByteArray
def Nd.cells(n:Nd):List Value:=[.int .i64 n.op,.int .i64 n.w,.int .i64 n.a,.int .i64 n.b,.int .i64 n.c,.int .u64 n.num,.string n.name]
def Nd.val(n:Nd):Value:=.agg n.cells.toArray
def SlR(H:Hp)(sl:Value)(L:List Nd):Prop:=
 (L=[]∧sl=.slice none 0 0)∨∃i,sl=.slice (some ⟨i,0,some 7⟩) L.length L.length∧H.get i=some (.cells (L.flatMap Nd.cells) true)
structure StR(H:Hp)(p:Nat)(lim:Int)(L:List Nd)(sl:Value)(f g:Nat):Prop where
 obj:H.get p=some (.cells [.int .i64 lim,sl,.map (some f),.map (some g)] true)
 all:SlR H sl L
section
variable {H:Hp}{p f g:Nat}{lim:Int}{L:List Nd}{sl:Value}(hs:StR H p lim L sl f g){α:Type}(k:Value→Option α)
include hs
theorem StR.l0:zak 1 false H (.pointer (some ⟨p,0,none⟩)) k=k (.int .i64 lim):=zbO hs.obj 0 _ rfl k
theorem StR.l1:zak 1 false H (.pointer (some ⟨p,1,none⟩)) k=k sl:=zbO hs.obj 1 _ rfl k
theorem StR.l2:zak 1 false H (.pointer (some ⟨p,2,none⟩)) k=k (.map (some f)):=zbO hs.obj 2 _ rfl k
theorem StR.l3:zak 1 false H (.pointer (some ⟨p,3,none⟩)) k=k (.map (some g)):=zbO hs.obj 3 _ rfl k
end
theorem SlR.len{H:Hp}{sl:Value}{L:List Nd}(h:SlR H sl L){α:Type}(k:Value→Option α):pLen .sl sl H k=k (.int .i64 L.length):=by rcases h with⟨rfl,rfl⟩|⟨i,rfl,_⟩<;>rfl
theorem zl0(L:List Nd)(i j:Nat)(hj:j<7):(L.flatMap Nd.cells)[i*7+j]?=L[i]?.bind fun n=>n.cells[j]?:=by
 induction L generalizing i with
 |nil=>simp
 |cons n L ih=>
  rw[flatMap_cons];cases i with
  |zero=>rw[Nat.zero_mul,Nat.zero_add,List.getElem?_append_left (by simp[Nd.cells];omega)];rfl
  |succ i=>
   have h7:n.cells.length=7:=rfl;rw[List.getElem?_append_right (by omega),h7,show (i+1)*7+j-7=i*7+j by omega];exact ih i
theorem flat_len(L:List Nd):(L.flatMap Nd.cells).length=L.length*7:=by
 induction L with
 |nil=>rfl
 |cons n L ih=>
  have h7:n.cells.length=7:=rfl;rw[flatMap_cons,length_append,ih,length_cons,h7];omega
def isT(L:List Nd)(t:Int):Bool:=decide (t≥1)&&decide (t≤L.length)
theorem c19{H:Hp}{p f g:Nat}{lim t:Int}{L:List Nd}{sl:Value}(hs:StR H p lim L sl f g):RR AO [.pointer (some ⟨p,0,none⟩),.int .i64 t] H=some (.bool (isT L t),H):=by refine(zjZ E0 rfl _ _ _).trans ?_;unfold zf4;simp only[zac,s_br,zbt,zbA,zaJ,zb0,Nat.zero_add,hs.l1,hs.all.len,decide_eq_true_eq];unfold isT;by_cases h:t≥1<;>simp[h]
theorem c30{H:Hp}{p f g:Nat}{lim t:Int}{L:List Nd}{sl:Value}(hs:StR H p lim L sl f g):RR Au [.pointer (some ⟨p,0,none⟩),.int .i64 t] H=some (.bool (isT L t),H):=by refine(zfu E0 rfl _ _ _).trans ?_;unfold zc1;simp only[zac,s_br,zbt,zbA,zaJ,zb0,Nat.zero_add,hs.l1,hs.all.len,decide_eq_true_eq];unfold isT;by_cases h:t≥1<;>simp[h]
theorem zdc{k:IntKind}{n:Int}(h1:k.min≤n)(h2:n≤k.max):k.wrap n=n:=by cases k<;>simp[IntKind.wrap,IntKind.min,IntKind.max,IntKind.signed,IntKind.bits] at * <;> omega
def wT(L:List Nd)(d t:Int):Int:=if isT L t then (L[(t-1).toNat]?.map Nd.w).getD d else d
theorem zbx{L:List Nd}{t:Int}:isT L t=true↔1≤t∧t≤L.length:=by unfold isT;simp
theorem s_idx{H:Hp}{L:List Nd}{sl:Value}(h:SlR H sl L){t:Int}(ht:isT L t=true)(hL:(L.length:Int)≤4611686018427387904){α:Type}(k:Value→Option α) :
  ∃i n,L[(t-1).toNat]?=some n∧H.get i=some (.cells (L.flatMap Nd.cells) true)∧pIdx 7 sl (.int .i64 (IntKind.i64.wrap (t-1))) k=k (.pointer (some ⟨i,(t-1).toNat*7,none⟩)):=by
 obtain⟨h1,h2⟩:=zbx.1 ht;have hw:IntKind.i64.wrap (t-1)=t-1:=zdc (by simp[IntKind.min,IntKind.signed,IntKind.bits];omega) (by simp[IntKind.max,IntKind.signed,IntKind.bits];omega);rcases h with⟨rfl,rfl⟩|⟨i,rfl,hi⟩
 ·simp at h2;omega
 ·have hlt:(t-1).toNat<L.length:=by omega
  refine⟨i,L[(t-1).toNat],by simp[hlt],hi,?_⟩;rw[hw];unfold pIdx idxV;have:(7:Nat)=7∧0≤t-1∧t-1<(L.length:Int):=⟨rfl,by omega,by omega⟩
  simp only[this,and_self,if_true,Nat.zero_add]
theorem c40{H:Hp}{p f g:Nat}{lim t:Int}{L:List Nd}{sl:Value}(hs:StR H p lim L sl f g)(hL:(L.length:Int)≤4611686018427387904):RR Al [.pointer (some ⟨p,0,none⟩),.int .i64 t] H=some (.int .i64 (wT L (-1) t),H):=by
 refine(zk9 E0 rfl _ _ _).trans ?_;unfold zg1;simp only[zaf (c19 hs),zac,s_br,za9,zbA,zaJ,zbK,Nat.zero_add,hs.l1];unfold wT;cases ht:isT L t with
 |false=>simp
 |true=>
  obtain⟨i,n,hn,hi,hx⟩:=s_idx hs.all ht hL (fun p8=>zat 1 p8 fun p9=>zak 1 false H p9 fun v10=>some (v10,H));simp only[Bool.not_true,Bool.false_eq_true,if_false,if_true];rw[hx,zaJ,zbO hi _ (.int .i64 n.w) (by rw[zl0 _ _ _ (by omega),hn];rfl),hn];rfl
theorem c54{H:Hp}{p f g:Nat}{lim t:Int}{L:List Nd}{sl:Value}(hs:StR H p lim L sl f g)(hL:(L.length:Int)≤4611686018427387904)(ht:isT L t=true)(d:Int):RR Ag [.pointer (some ⟨p,0,none⟩),.int .i64 t] H=some (.int .i64 (wT L d t),H):=by refine(zfM E0 rfl _ _ _).trans ?_;unfold zdb;simp only[zbA,zaJ,zbK,Nat.zero_add,hs.l1];obtain⟨i,n,hn,hi,hx⟩:=s_idx hs.all ht hL (fun p8=>zat 1 p8 fun p9=>zak 1 false H p9 fun v10=>some (v10,H));rw[hx,zaJ,zbO hi _ (.int .i64 n.w) (by rw[zl0 _ _ _ (by omega),hn];rfl)];unfold wT;rw[ht,hn];rfl
end Go.AM
namespace Go.AM
open Go
section
variable {α:Type}{P:Program}(n:Nd)(k:Value→Option α)
theorem n0:zae 1 false (zab n.val) 0 k=k (.int .i64 n.op):=zcc _ 0 _ rfl k
theorem n1:zae 1 false (zab n.val) 1 k=k (.int .i64 n.w):=zcc _ 1 _ rfl k
theorem n2:zae 1 false (zab n.val) 2 k=k (.int .i64 n.a):=zcc _ 2 _ rfl k
theorem n3:zae 1 false (zab n.val) 3 k=k (.int .i64 n.b):=zcc _ 3 _ rfl k
theorem n4:zae 1 false (zab n.val) 4 k=k (.int .i64 n.c):=zcc _ 4 _ rfl k
theorem n5:zae 1 false (zab n.val) 5 k=k (.int .u64 n.num):=zcc _ 5 _ rfl k
theorem n6:zae 1 false (zab n.val) 6 k=k (.string n.name):=zcc _ 6 _ rfl k
theorem n07:zae 7 true (zab n.val) 0 k=k n.val:=rfl
theorem s_sneq(T:TypeId)(a b:ByteArray)(k:Value→Option α):pBin P .neq T (.string a) (.string b) k=k (.bool !(a.toList==b.toList)):=rfl
end
theorem zqL(p:Prop) [Decidable p](x y:Bool)(H:Hp):(if p then some (Value.bool x,H) else some (Value.bool y,H))=some (Value.bool (bif decide p then x else y),H):=by by_cases h:p<;>simp[h]
def zmC(n:Nd):Bool:=!(n.name.toList==(⟨#[]⟩:ByteArray).toList)
def zez(k:Int)(n:Nd):Bool:=
 (decide (k<1)&&decide (n.a≠0))||(decide (k<2)&&decide (n.b≠0))||(decide (k<3)&&decide (n.c≠0)) ||
 (decide (n.num≠0)&&decide (n.op≠3)&&decide (n.op≠31))||(zmC n&&decide (n.op≠4))
theorem c41(n:Nd)(H:Hp):RR Cp [n.val] H=some (.bool (zez (zaj n.op) n),H):=by refine(zni E0 rfl _ _).trans ?_;unfold zi7;simp only[n0,n2,n3,n4,n5,n6,zaf (c29 _ _),zaV,za5,s_sneq,zac,s_br,zqL];unfold zez zmC;generalize zaj n.op=k;congr 2;congr 1;generalize decide (k<1)=b1;generalize decide (n.a≠0)=b2;generalize decide (k<2)=b3;generalize decide (n.b≠0)=b4;generalize decide (k<3)=b5;generalize decide (n.c≠0)=b6;generalize decide (n.num≠0)=b7;generalize decide (n.op≠3)=b8;generalize decide (n.op≠31)=b9;generalize (!(n.name.toList==(⟨#[]⟩:ByteArray).toList))=b10;generalize decide (n.op≠4)=b11;simp only[Bool.decide_eq_true];cases b1<;>cases b2<;>cases b3<;>cases b4<;>cases b5<;>cases b6<;>simp<;>cases b7<;>cases b8<;>cases b9<;>simp<;>cases b10<;>simp
theorem zcp(v:Value)(l:List Value):(v::l).headD undef=v:=rfl
theorem c47(n:Nd)(k:Int)(H:Hp):RR Ce [n.val,.int .i64 k] H=some (.bool (zez k n),H):=by refine(zgF E0 rfl _ _ _).trans ?_;unfold zdV;simp only[n0,n2,n3,n4,n5,n6,zaV,za5,s_sneq,zac,s_br,zal,zcd,zaA,zbZ,zcp,zqL];unfold zez zmC;congr 2;congr 1;generalize decide (k<1)=b1;generalize decide (n.a≠0)=b2;generalize decide (k<2)=b3;generalize decide (n.b≠0)=b4;generalize decide (k<3)=b5;generalize decide (n.c≠0)=b6;generalize decide (n.num≠0)=b7;generalize decide (n.op≠3)=b8;generalize decide (n.op≠31)=b9;generalize (!(n.name.toList==(⟨#[]⟩:ByteArray).toList))=b10;generalize decide (n.op≠4)=b11;simp only[Bool.decide_eq_true];cases b1<;>cases b2<;>cases b3<;>cases b4<;>cases b5<;>cases b6<;>simp<;>cases b7<;>cases b8<;>cases b9<;>simp<;>cases b10<;>simp
def zi3(op:Int):Int:=if op<1∨op>33 then -1 else zaj op
theorem s_iteI(p:Prop) [Decidable p](x y:Int)(H:Hp):(if p then some (Value.int .i64 x,H) else some (Value.int .i64 y,H))=some (Value.int .i64 (if p then x else y),H):=by split<;>rfl
theorem c46(op:Int)(H:Hp):RR BB [.int .i64 op] H=some (.int .i64 (zi3 op),H):=by
 refine(zgG E0 rfl _ _).trans ?_;unfold zdW;simp only[zaV,zb0,zbp,zbt,zaF,zac,s_br,zal,zcd,zaA,za0,zbZ,zaz,zcp,decide_eq_true_eq,qg0,s_iteI,if_true];congr 2;congr 1;unfold zi3 zaj;by_cases h1:op<1
 ·simp[h1]
 by_cases h2:op>33
 ·simp[h1,h2]
 simp only[h1,h2,if_false,or_self];by_cases h3:op≤4
 ·have:op=1∨op=2∨op=3∨op=4:=by omega
  simp[h3,this]
 ·have:¬(op=1∨op=2∨op=3∨op=4):=by omega
  simp only[this,h3,if_false];by_cases h5:op=5
  ·simp[h5]
  by_cases h6:op=15
  ·simp[h6]
  by_cases h7:op=16
  ·simp[h7]
  by_cases h8:op≥31
  ·have:op=5∨op=15∨op=16∨op=31∨op=32∨op=33:=by omega
   simp[h5,h6,h7,h8,this]
   intros;omega
  ·have:¬(op=5∨op=15∨op=16∨op=31∨op=32∨op=33):=by omega
   simp[h5,h6,h7,h8,this]
   intros;omega
def zbP(op a b c:Int):Bool:=
 if zaj op=0 then true
 else if op=5 then decide (a=0)
 else if op=6∨op=7∨op=8 then decide (a=0)&&decide (b=0)
 else if op=9 then decide (a=b)
 else if op=14 then decide (a=0)&&decide (b=c)
 else if op=30 then decide (a>0)&&decide (b>0)
 else if zaj op=1 then decide (a>0)
 else decide (a>0)&&decide (a=b)
section
variable {H:Hp}{p f g:Nat}{lim:Int}{L:List Nd}{sl:Value}
theorem c42(hs:StR H p lim L sl f g)(hL:(L.length:Int)≤4611686018427387904)(n:Nd) :
  RR Cm [.pointer (some ⟨p,0,none⟩),n.val] H=some (.bool (zbP n.op (wT L (-1) n.a) (wT L (-1) n.b) (wT L (-1) n.c)),H):=by
 refine(zhc E0 rfl _ _ _).trans ?_;unfold zej;simp only[n0,n2,n3,n4,zaf (c40 hs hL),zaf (c29 _ _),zaF,zbp,zac,s_br,zal,zcd,zaA,za0,zbZ,zaz,zcp,qg0,decide_eq_true_eq,if_true];unfold zbP;generalize wT L (-1) n.a=a;generalize wT L (-1) n.b=b;generalize wT L (-1) n.c=c;generalize n.op=op;by_cases h0:zaj op=0
 ·simp only[h0,if_true]
 simp only[h0,if_false];by_cases h5:op=5
 ·simp only[h5,if_true]
 simp only[h5,if_false];by_cases h6:op=6
 ·simp[h6,zqL]
 by_cases h7:op=7
 ·simp[h7,zqL]
 by_cases h8:op=8
 ·simp[h8,zqL]
 simp only[h6,h7,h8,if_false,or_self];by_cases h9:op=9
 ·simp[h9]
 simp only[h9,if_false];by_cases h14:op=14
 ·simp[h14];by_cases q:a=0<;>simp[q]
 simp only[h14,if_false];by_cases h30:op=30
 ·simp[h30];by_cases q:a>0<;>simp[q]
 simp only[h30,if_false];by_cases h1:zaj op=1
 ·simp[h1]
 simp only[h1,if_false];by_cases q:a>0<;>simp[q]
theorem c48(hs:StR H p lim L sl f g)(hL:(L.length:Int)≤4611686018427387904)(n:Nd)(h1:1≤n.op)(h2:n.op≤33)
  (ha:zaj n.op≥1→isT L n.a=true) (hb:zaj n.op≥2→isT L n.b=true) (hc:zaj n.op≥3→isT L n.c=true) :
  RR Cc [.pointer (some ⟨p,0,none⟩),n.val] H=some (.bool (zbP n.op (wT L (-1) n.a) (wT L (-1) n.b) (wT L (-1) n.c)),H):=by
 refine(zey E0 rfl _ _ _).trans ?_;unfold zcG;have ka:=fun h=>c54 hs hL (ha h) (-1);have kb:=fun h=>c54 hs hL (hb h) (-1);have kc:=fun h=>c54 hs hL (hc h) (-1);simp only[n0,n2,n3,n4,zaF,zbp,zbt,zb0,zac,s_br,zal,zcd,zaA,za0,zbZ,zaz,zcp,qg0,decide_eq_true_eq,if_true];unfold zbP;by_cases h4:n.op≤4
 ·have:zaj n.op=0:=by unfold zaj;rw[if_pos (by omega)]
  simp only[h4,this,if_true]
 have h0:¬zaj n.op=0:=by unfold zaj;split<;>first|omega | (split<;>first|omega | (split<;>omega))
 have hA:=ka (by unfold zaj at *;split<;>first|omega | (split<;>first|omega | (split<;>omega)));simp only[h4,h0,if_false];by_cases h5:n.op=5
 ·simp only[h5,if_true,zaf hA,zaF]
 simp only[h5,if_false];by_cases hone:n.op=15∨n.op=16∨n.op≥31
 ·have hp:zaj n.op=1:=by unfold zaj;rw[if_neg (by omega),if_pos (by omega)]
  have q1:¬n.op≤8:=by omega
  have q2:¬n.op=9:=by omega
  have q3:¬n.op=14:=by omega
  have q4:¬n.op=30:=by omega
  have q5:¬(n.op=6∨n.op=7∨n.op=8):=by omega
  simp only[q1,q2,q3,q4,q5,hp,if_false,if_true];rcases hone with h|h|h
  ·simp only[h,if_true,zal,zaA,qg0,zac,s_br,zaf hA,zbp]
  ·simp[h,zal,zaA,zac,s_br,zaf hA,zbp]
  ·have w1:¬n.op=15:=by omega
   have w2:¬n.op=16:=by omega
   simp[w1,w2,h,zal,zaA,zac,s_br,zaf hA,zbp]
 have hB:=kb (by unfold zaj;rw[if_neg (by omega),if_neg (by omega)];split<;>omega);have hone1:¬zaj n.op=1:=by unfold zaj;rw[if_neg (by omega),if_neg (by omega)];split<;>omega
 by_cases h8:n.op≤8
 ·have:n.op=6∨n.op=7∨n.op=8:=by omega
  simp only[h8,this,if_true,zaf hA,zaf hB,zaF,zac,s_br,decide_eq_true_eq];by_cases q:wT L (-1) n.a=0<;>simp[q]
 have q5:¬(n.op=6∨n.op=7∨n.op=8):=by omega
 simp only[h8,q5,if_false];by_cases h9:n.op=9
 ·simp only[h9,if_true,zaf hA,zaf hB,zaF]
 simp only[h9,if_false];by_cases h14:n.op=14
 ·have hC:=kc (by unfold zaj;rw[h14];decide);simp only[h14,if_true,zaf hA,zaf hB,zaf hC,zaF,zac,s_br,decide_eq_true_eq];by_cases q:wT L (-1) n.a=0<;>simp[q]
 have w1:¬n.op=15:=by omega
 have w2:¬n.op=16:=by omega
 have w3:¬n.op≥31:=by omega
 simp only[h14,w1,w2,w3,if_false,decide_false,zal,zaA,qg0,zac,s_br,Bool.false_eq_true];by_cases h30:n.op=30
 ·simp only[h30,if_true,zaf hA,zaf hB,zbp,zac,s_br,decide_eq_true_eq];by_cases q:wT L (-1) n.a>0<;>simp[q]
 simp only[h30,hone1,if_false,zaf hA,zaf hB,zbp,zaF,zac,s_br,decide_eq_true_eq];by_cases q:wT L (-1) n.a>0<;>simp[q]
end
theorem zov{α:Type}{P:Program}(T:TypeId)(kd:IntKind)(a b:Int)(hb:b≠0)(k:Value→Option α):pBin P .rem T (.int kd a) (.int kd b) k=k (.int kd (a.tmod b)):=by simp[pBin,binV,ze5,hb]
theorem zhL{α:Type}(kd k2:IntKind)(a:Int)(k:Value→Option α):zan kd (.int k2 a) k=k (.int kd (kd.wrap a)):=rfl
theorem s_and{α:Type}{P:Program}(T:TypeId)(kd:IntKind)(a b:Int)(k:Value→Option α):pBin P .and T (.int kd a) (.int kd b) k=k (.int kd (kd.wrap (BitVec.ofInt kd.bits a&&&BitVec.ofInt kd.bits b).toNat)):=by simp[pBin,binV,ze5,bvOp]
theorem s_shl{α:Type}{P:Program}(T:TypeId)(kd k2:IntKind)(a b:Int)(hb:0≤b)(k:Value→Option α):pBin P .shl T (.int kd a) (.int k2 b) k=k (.int kd (kd.wrap (a*2^(min b.toNat kd.bits)))):=by
 have:¬b<0:=by omega
 simp[pBin,binV,shOp,this]
def ziw(w x:Int):Int:=if w<1 then 0 else if w≥64 then x else x%2^w.toNat
theorem zmq{w:Int}(h1:1≤w)(h2:w<64):(2:Int)^w.toNat<18446744073709551616∧(2:Int)≤2^w.toNat:=by
 have hw:w.toNat<64:=by omega
 have hw1:1≤w.toNat:=by omega
 have h3:(2:Nat)^w.toNat<2^64:=Nat.pow_lt_pow_right (by omega) hw;have h4:(2:Nat)^1≤2^w.toNat:=Nat.pow_le_pow_right (by omega) hw1;constructor
 ·have:((2^w.toNat:Nat):Int)<((2^64:Nat):Int):=Int.ofNat_lt.2 h3;simpa using this
 ·have:((2^1:Nat):Int)≤((2^w.toNat:Nat):Int):=Int.ofNat_le.2 h4;simpa using this
theorem zpv{w:Int}(h1:1≤w)(h2:w<64):IntKind.u64.wrap (1*2^(min (IntKind.u64.wrap w).toNat IntKind.u64.bits))=2^w.toNat:=by have hw:IntKind.u64.wrap w=w:=zdc (by simp[IntKind.min,IntKind.signed,IntKind.bits];omega) (by simp[IntKind.max,IntKind.signed,IntKind.bits];omega);rw[hw];have hb:IntKind.u64.bits=64:=rfl;rw[hb,Nat.min_eq_left (by omega),Int.one_mul];obtain⟨p1,p2⟩:=zmq h1 h2;exact zdc (by simp[IntKind.min,IntKind.signed,IntKind.bits];omega) (by simp[IntKind.max,IntKind.signed,IntKind.bits];omega)
theorem c51(w x:Int)(hx:0≤x)(H:Hp):RR Ak [.int .i64 w,.int .u64 x] H=some (.int .u64 (ziw w x),H):=by
 refine(zhk E0 rfl _ _ _).trans ?_;unfold zer ziw;simp only[zaV,zbt,zac,s_br,decide_eq_true_eq,zhL];by_cases h1:w<1
 ·simp[h1]
 by_cases h2:w≥64
 ·simp[h1,h2]
 simp only[h1,h2,if_false];have hw:IntKind.u64.wrap w=w:=zdc (by simp[IntKind.min,IntKind.signed,IntKind.bits];omega) (by simp[IntKind.max,IntKind.signed,IntKind.bits];omega);obtain⟨p1,p2⟩:=zmq (w:=w) (by omega) (by omega);rw[s_shl _ _ _ _ _ (by rw[hw];omega),zpv (by omega) (by omega),zov _ _ _ _ (by omega),Int.tmod_eq_emod_of_nonneg hx]
theorem c45(w x:Int)(hx:0≤x)(hx2:x<18446744073709551616)(H:Hp):RR Af [.int .i64 w,.int .u64 x] H=some (.int .u64 (ziw w x),H):=by
 refine(zoC E0 rfl _ _ _).trans ?_;unfold zkw ziw;simp only[zaV,zbt,zac,s_br,decide_eq_true_eq,zhL];by_cases h1:w<1
 ·simp[h1]
 by_cases h2:w≥64
 ·simp[h1,h2]
 simp only[h1,h2,if_false];have hw:IntKind.u64.wrap w=w:=zdc (by simp[IntKind.min,IntKind.signed,IntKind.bits];omega) (by simp[IntKind.max,IntKind.signed,IntKind.bits];omega);obtain⟨p1,p2⟩:=zmq (w:=w) (by omega) (by omega);rw[s_shl _ _ _ _ _ (by rw[hw];omega),zpv (by omega) (by omega),zbK,s_and];have hm:IntKind.u64.wrap (2^w.toNat-1)=2^w.toNat-1:=zdc (by simp[IntKind.min,IntKind.signed,IntKind.bits];omega) (by simp[IntKind.max,IntKind.signed,IntKind.bits];omega);rw[hm];congr 3;have hb:IntKind.u64.bits=64:=rfl;rw[hb];obtain⟨X,rfl⟩:=Int.eq_ofNat_of_zero_le hx;have e2:(2:Int)^w.toNat-1=((2^w.toNat-1:Nat):Int):=by have:1≤(2:Nat)^w.toNat:=Nat.one_le_two_pow;rw[Int.ofNat_sub this];simp
 rw[e2];have e3:BitVec.ofInt 64 ((X:Nat):Int)=BitVec.ofNat 64 X:=by simp
 have e4:BitVec.ofInt 64 (((2^w.toNat-1:Nat)):Int)=BitVec.ofNat 64 (2^w.toNat-1):=by simp
 rw[e3,e4,BitVec.toNat_and,BitVec.toNat_ofNat,BitVec.toNat_ofNat];have hX:X<2^64:=by have:(X:Int)<18446744073709551616:=hx2;omega
 have h3:(2:Nat)^w.toNat<2^64:=Nat.pow_lt_pow_right (by omega) (by omega);rw[Nat.mod_eq_of_lt hX,Nat.mod_eq_of_lt (by omega),Nat.and_two_pow_sub_one_eq_mod];have h4:X%2^w.toNat≤X:=Nat.mod_le _ _;have h5:((X:Nat):Int)%2^w.toNat=((X%2^w.toNat:Nat):Int):=by simp
 rw[h5];generalize X%2^w.toNat=Y at h4;have m1:IntKind.u64.min=0:=rfl;have m2:IntKind.u64.max=18446744073709551615:=rfl;rw[zdc (by rw[m1];omega) (by rw[m2];omega)]
def znU(w:Int):Bool:=decide (w=1∨w=2∨w=4∨w=8∨w=16∨w=32∨w=64)
def pops:List Int:=[0,1,1,2,1,2,2,3,1,2,2,3,2,3,3,4,1,2,2,3,2,3,3,4,2,3,3,4,3,4,4,5,1,2,2,3,2,3,3,4,2,3,3,4,3,4,4,5,2,3,3,4,3,4,4,5,3,4,4,5,4,5,5,6,1]
theorem all58(H:Hp):(i:Nat)→i<65→zeT RR (.int .u64 (i:Int)) H=some (.int .i64 (pops.getD i 0),H)
 |0,_=>by kernel_rfl
 |1,_=>by kernel_rfl
 |2,_=>by kernel_rfl
 |3,_=>by kernel_rfl
 |4,_=>by kernel_rfl
 |5,_=>by kernel_rfl
 |6,_=>by kernel_rfl
 |7,_=>by kernel_rfl
 |8,_=>by kernel_rfl
 |9,_=>by kernel_rfl
 |10,_=>by kernel_rfl
 |11,_=>by kernel_rfl
 |12,_=>by kernel_rfl
 |13,_=>by kernel_rfl
 |14,_=>by kernel_rfl
 |15,_=>by kernel_rfl
 |16,_=>by kernel_rfl
 |17,_=>by kernel_rfl
 |18,_=>by kernel_rfl
 |19,_=>by kernel_rfl
 |20,_=>by kernel_rfl
 |21,_=>by kernel_rfl
 |22,_=>by kernel_rfl
 |23,_=>by kernel_rfl
 |24,_=>by kernel_rfl
 |25,_=>by kernel_rfl
 |26,_=>by kernel_rfl
 |27,_=>by kernel_rfl
 |28,_=>by kernel_rfl
 |29,_=>by kernel_rfl
 |30,_=>by kernel_rfl
 |31,_=>by kernel_rfl
 |32,_=>by kernel_rfl
 |33,_=>by kernel_rfl
 |34,_=>by kernel_rfl
 |35,_=>by kernel_rfl
 |36,_=>by kernel_rfl
 |37,_=>by kernel_rfl
 |38,_=>by kernel_rfl
 |39,_=>by kernel_rfl
 |40,_=>by kernel_rfl
 |41,_=>by kernel_rfl
 |42,_=>by kernel_rfl
 |43,_=>by kernel_rfl
 |44,_=>by kernel_rfl
 |45,_=>by kernel_rfl
 |46,_=>by kernel_rfl
 |47,_=>by kernel_rfl
 |48,_=>by kernel_rfl
 |49,_=>by kernel_rfl
 |50,_=>by kernel_rfl
 |51,_=>by kernel_rfl
 |52,_=>by kernel_rfl
 |53,_=>by kernel_rfl
 |54,_=>by kernel_rfl
 |55,_=>by kernel_rfl
 |56,_=>by kernel_rfl
 |57,_=>by kernel_rfl
 |58,_=>by kernel_rfl
 |59,_=>by kernel_rfl
 |60,_=>by kernel_rfl
 |61,_=>by kernel_rfl
 |62,_=>by kernel_rfl
 |63,_=>by kernel_rfl
 |64,_=>by kernel_rfl
 |n+65,h=>by omega
theorem c53(w:Int)(h0:0≤w)(h1:w<65)(H:Hp):RR A3 [.int .u64 w] H=some (.int .i64 (pops.getD w.toNat 0),H):=by
 refine(zjm E0 rfl _ _).trans ?_;unfold zfL;have:RR B1 [.int .u64 w] H=some (.int .i64 (pops.getD w.toNat 0),H):=by refine(zh0 E0 rfl _ _).trans ?_;obtain⟨n,rfl⟩:=Int.eq_ofNat_of_zero_le h0;exact all58 H n (by omega)
 rw[zaf this]
theorem zpS:(i:Nat)→i<65→decide (pops.getD i 0=1)=znU (i:Int)
 |0,_=>by kernel_rfl
 |1,_=>by kernel_rfl
 |2,_=>by kernel_rfl
 |3,_=>by kernel_rfl
 |4,_=>by kernel_rfl
 |5,_=>by kernel_rfl
 |6,_=>by kernel_rfl
 |7,_=>by kernel_rfl
 |8,_=>by kernel_rfl
 |9,_=>by kernel_rfl
 |10,_=>by kernel_rfl
 |11,_=>by kernel_rfl
 |12,_=>by kernel_rfl
 |13,_=>by kernel_rfl
 |14,_=>by kernel_rfl
 |15,_=>by kernel_rfl
 |16,_=>by kernel_rfl
 |17,_=>by kernel_rfl
 |18,_=>by kernel_rfl
 |19,_=>by kernel_rfl
 |20,_=>by kernel_rfl
 |21,_=>by kernel_rfl
 |22,_=>by kernel_rfl
 |23,_=>by kernel_rfl
 |24,_=>by kernel_rfl
 |25,_=>by kernel_rfl
 |26,_=>by kernel_rfl
 |27,_=>by kernel_rfl
 |28,_=>by kernel_rfl
 |29,_=>by kernel_rfl
 |30,_=>by kernel_rfl
 |31,_=>by kernel_rfl
 |32,_=>by kernel_rfl
 |33,_=>by kernel_rfl
 |34,_=>by kernel_rfl
 |35,_=>by kernel_rfl
 |36,_=>by kernel_rfl
 |37,_=>by kernel_rfl
 |38,_=>by kernel_rfl
 |39,_=>by kernel_rfl
 |40,_=>by kernel_rfl
 |41,_=>by kernel_rfl
 |42,_=>by kernel_rfl
 |43,_=>by kernel_rfl
 |44,_=>by kernel_rfl
 |45,_=>by kernel_rfl
 |46,_=>by kernel_rfl
 |47,_=>by kernel_rfl
 |48,_=>by kernel_rfl
 |49,_=>by kernel_rfl
 |50,_=>by kernel_rfl
 |51,_=>by kernel_rfl
 |52,_=>by kernel_rfl
 |53,_=>by kernel_rfl
 |54,_=>by kernel_rfl
 |55,_=>by kernel_rfl
 |56,_=>by kernel_rfl
 |57,_=>by kernel_rfl
 |58,_=>by kernel_rfl
 |59,_=>by kernel_rfl
 |60,_=>by kernel_rfl
 |61,_=>by kernel_rfl
 |62,_=>by kernel_rfl
 |63,_=>by kernel_rfl
 |64,_=>by kernel_rfl
 |n+65,h=>by omega
theorem c55(w:Int)(H:Hp):RR A7 [.int .i64 w] H=some (.bool (znU w),H):=by
 refine(zfV E0 rfl _ _).trans ?_;unfold zdw
 generalize hS:(fun (l1:List Value) (H2:Hp)=>
  pBin PP .leq Aa (l1.getD 0 undef) (.int .i64 64) fun v3=>
  zaa v3 fun b4=>br b4
  (pBin PP .eql Aa (.int .i64 w) (l1.getD 0 undef) fun v5=>
  zaa v5 fun b6=>br b6
  (some (Ctl.ret,[(Value.bool true)],H2))
  (pBin PP .mul Aa (.int .i64 2) (l1.getD 0 undef) fun v7=>
  some (.next,[v7],H2)))
  (some (.exit 0,[(l1.getD 0 undef)],H2)))=S
 have hL:∀k:Int,zas S [.int .i64 k] H=if k≤64 then (if w=k then some (.ret,[.bool true],H) else zas S [.int .i64 (IntKind.i64.wrap (2*k))] H) else some (.exit 0,[.int .i64 k],H):=by
  intro k;rw[zai];have:S [.int .i64 k] H=if k≤64 then (if w=k then some (.ret,[.bool true],H) else some (.next,[.int .i64 (IntKind.i64.wrap (2*k))],H)) else some (.exit 0,[.int .i64 k],H):=by rw[←hS];simp only[zb0,zaF,s_mul,zac,s_br,qg0,decide_eq_true_eq]
  rw[this];split
  ·split<;>rfl
  ·rfl
 have w1:IntKind.i64.wrap (2*1)=2:=by decide
 have w2:IntKind.i64.wrap (2*2)=4:=by decide
 have w3:IntKind.i64.wrap (2*4)=8:=by decide
 have w4:IntKind.i64.wrap (2*8)=16:=by decide
 have w5:IntKind.i64.wrap (2*16)=32:=by decide
 have w6:IntKind.i64.wrap (2*32)=64:=by decide
 have w7:IntKind.i64.wrap (2*64)=128:=by decide
 have l1:=hL 1;rw[if_pos (show (1:Int)≤64 by decide),w1]at l1;have l2:=hL 2;rw[if_pos (show (2:Int)≤64 by decide),w2]at l2;have l4:=hL 4;rw[if_pos (show (4:Int)≤64 by decide),w3]at l4;have l8:=hL 8;rw[if_pos (show (8:Int)≤64 by decide),w4]at l8;have l16:=hL 16;rw[if_pos (show (16:Int)≤64 by decide),w5]at l16;have l32:=hL 32;rw[if_pos (show (32:Int)≤64 by decide),w6]at l32;have l64:=hL 64;rw[if_pos (show (64:Int)≤64 by decide),w7]at l64;have l128:=hL 128;rw[if_neg (show ¬(128:Int)≤64 by decide)]at l128;rw[l1,l2,l4,l8,l16,l32,l64,l128];simp only[zcd,zal,zbZ,za0,zaz,zcp];unfold znU;by_cases h1:w=1
 ·simp[h1]
 by_cases h2:w=2
 ·simp[h2]
 by_cases h3:w=4
 ·simp[h3]
 by_cases h4:w=8
 ·simp[h4]
 by_cases h5:w=16
 ·simp[h5]
 by_cases h6:w=32
 ·simp[h6]
 by_cases h7:w=64
 ·simp[h7]
 simp[h1,h2,h3,h4,h5,h6,h7]
def zbV(n:Nd)(a b:Int):Bool:=
 if n.op=1∨n.op=2∨(5≤n.op∧n.op≤13) then decide (n.w=0)
 else if n.op=3 then decide (n.w>0)&&decide (ziw n.w n.num=n.num)
 else if n.op=4 then true
 else if n.op=14 then decide (n.w=b)
 else if 25≤n.op∧n.op≤29 then decide (n.w=a)&&znU a
 else if n.op=30 then decide (n.w=a+b)
 else if n.op=31 then decide (n.w≥1)&&decide (n.w≤a)&&decide (n.num≤a-n.w)
 else if n.op=32∨n.op=33 then decide (n.w≥a)
 else decide (n.w=a)
structure Nd.Ok(n:Nd):Prop where
 w0:0≤n.w
 w1:n.w≤64
 o1:1≤n.op
 o2:n.op≤33
 n0:0≤n.num
 n1:n.num<18446744073709551616
theorem zaq{x:Int}(h1:-9223372036854775808≤x)(h2:x≤9223372036854775807):IntKind.i64.wrap x=x:=zdc (by have:IntKind.i64.min=-9223372036854775808:=rfl;omega) (by have:IntKind.i64.max=9223372036854775807:=rfl;omega)
theorem zjs{x:Int}(h1:0≤x)(h2:x≤18446744073709551615):IntKind.u64.wrap x=x:=zdc (by have:IntKind.u64.min=0:=rfl;omega) (by have:IntKind.u64.max=18446744073709551615:=rfl;omega)
section
variable {H:Hp}{p f g:Nat}{lim:Int}{L:List Nd}{sl:Value}
theorem c43(hs:StR H p lim L sl f g)(hL:(L.length:Int)≤4611686018427387904)(n:Nd)(hn:n.Ok)
  (ha:-1≤wT L (-1) n.a∧wT L (-1) n.a≤64) (hb:-1≤wT L (-1) n.b∧wT L (-1) n.b≤64) (hsort:n.op≥15→wT L (-1) n.a>0) :
  RR Cn [.pointer (some ⟨p,0,none⟩),n.val] H=some (.bool (zbV n (wT L (-1) n.a) (wT L (-1) n.b)),H):=by
 refine(ziD E0 rfl _ _ _).trans ?_;unfold zfl;have ht:=c45 n.w n.num hn.n0 hn.n1 H;simp only[n0,n1,n2,n3,n5,zaf (c40 hs hL),zaF,zbp,zbt,zb0,zac,s_br,zal,zcd,zaA,za0,zbZ,zaz,zcp,qg0,decide_eq_true_eq,if_true,zhL,zbK,zaN,zaf ht];unfold zbV;generalize wT L (-1) n.a=a at *;generalize wT L (-1) n.b=b at *;have o1:=hn.o1;have o2:=hn.o2;by_cases h1:n.op=1
 ·simp[h1]
 by_cases h2:n.op=2
 ·simp[h2]
 by_cases h5:5≤n.op∧n.op≤13
 ·have q:n.op≥5:=h5.1;simp only[h1,h2,h5,q,if_true,if_false,and_self,or_true,decide_true]
 have hc:¬(n.op=1∨n.op=2∨5≤n.op∧n.op≤13):=by omega
 simp only[hc,h1,h2,if_false];by_cases h3:n.op=3
 ·have q:¬n.op≥5:=by omega
  have q2:¬(3:Int)≥5:=by decide
  simp only[h3,q2,if_true,if_false,Bool.false_eq_true];by_cases q:n.w>0<;>simp[q]
 by_cases h4:n.op=4
 ·have q2:¬(4:Int)≥5:=by decide
  have q3:¬(4:Int)=3:=by decide
  simp only[h4,q2,q3,if_true,if_false,Bool.false_eq_true];simp
 have g5:n.op≥5:=by omega
 have g13:¬n.op≤13:=by omega
 simp only[g5,g13,h3,h4,if_true,if_false,decide_false,Bool.false_eq_true];by_cases h14:n.op=14
 ·simp only[h14,if_true];simp
 simp only[h14,if_false];have hap:=hsort (by omega);by_cases h25:25≤n.op∧n.op≤29
 ·have q:n.op≥25:=h25.1;have e:RR A3 [.int .u64 (IntKind.u64.wrap a)] H=some (.int .i64 (pops.getD a.toNat 0),H):=by rw[zjs (by omega) (by omega)];exact c53 a (by omega) (by omega) H
  have e2:=zpS a.toNat (by omega);have e3:((a.toNat:Nat):Int)=a:=Int.toNat_of_nonneg (by omega);rw[e3]at e2;simp only[q,h25.2,if_true,decide_true,zaf e,zaF,e2,and_self];by_cases q:n.w=a<;>simp[q,h25.1]
 simp only[h25,if_false];have hA:(if n.op≥25 then some (Ctl.next,[Value.bool (decide (n.op≤29))],H) else some (Ctl.next,[Value.bool false],H))=some (Ctl.next,[Value.bool false],H):=by
  by_cases q:n.op≥25
  ·have:¬n.op≤29:=by omega
   simp[q,this]
  ·simp[q]
 have w1:IntKind.i64.wrap (a+b)=a+b:=zaq (by omega) (by omega);have w0:=hn.w0;have w64:=hn.w1;have w2:IntKind.i64.wrap (a-n.w)=a-n.w:=zaq (by omega) (by omega);by_cases q25:n.op≥25
 ·have q29:¬n.op≤29:=by omega
  simp only[q25,q29,if_true,if_false,decide_false,Bool.false_eq_true,w1,w2];by_cases h30:n.op=30
  ·simp only[h30,if_true]
   try simp
  simp only[h30,if_false];by_cases h31:n.op=31
  ·simp only[h31,if_true];by_cases k1:n.w≥1
   ·by_cases k2:n.w≤a
    ·have k3:IntKind.u64.wrap (a-n.w)=a-n.w:=zjs (by omega) (by omega);simp[k1,k2,k3]
    ·simp[k1,k2]
   ·simp[k1]
  simp only[h31,if_false];by_cases h32:n.op=32
  ·simp[h32]
  by_cases h33:n.op=33
  ·simp[h33]
  omega
 ·have h30:¬n.op=30:=by omega
  have h31:¬n.op=31:=by omega
  have h32:¬n.op=32:=by omega
  have h33:¬n.op=33:=by omega
  simp only[q25,h30,h31,h32,h33,if_false,or_self,Bool.false_eq_true];simp
end
section
variable {H:Hp}{p f g:Nat}{lim:Int}{L:List Nd}{sl:Value}
theorem c49(hs:StR H p lim L sl f g)(hL:(L.length:Int)≤4611686018427387904)(n:Nd)(hn:n.Ok)
  (pa:zaj n.op≥1→isT L n.a=true) (pb:zaj n.op≥2→isT L n.b=true)
  (ha:-1≤wT L (-1) n.a∧wT L (-1) n.a≤64) (hb:-1≤wT L (-1) n.b∧wT L (-1) n.b≤64) :
  RR Cd [.pointer (some ⟨p,0,none⟩),n.val] H=some (.bool (zbV n (wT L (-1) n.a) (wT L (-1) n.b)),H):=by
 refine(zex E0 rfl _ _ _).trans ?_;unfold zcF;have ht:=c51 n.w n.num hn.n0 H;have o1:=hn.o1;have o2:=hn.o2;have w0:=hn.w0;have w64:=hn.w1;have ka:=fun h=>c54 hs hL (pa h) (-1);have kb:=fun h=>c54 hs hL (pb h) (-1);simp only[n0,n1,n2,n3,n5,zaF,zbp,zbt,zb0,zac,s_br,zal,zcd,zaA,za0,zbZ,zaz,zcp,qg0,decide_eq_true_eq,if_true,zhL,zbK,zaN,zaf ht];unfold zbV;by_cases h2:n.op≤2
 ·have q:n.op=1∨n.op=2∨5≤n.op∧n.op≤13:=by omega
  simp only[h2,q,if_true]
 by_cases h5:5≤n.op∧n.op≤13
 ·have q:n.op≥5:=h5.1;have q2:n.op=1∨n.op=2∨5≤n.op∧n.op≤13:=by omega
  simp only[h2,q,h5.2,q2,if_true,if_false,decide_true]
  try simp
 have hc:¬(n.op=1∨n.op=2∨5≤n.op∧n.op≤13):=by omega
 have hmid:(if n.op≥5 then decide (n.op≤13) else false)=false:=by
  by_cases q:n.op≥5
  ·have:¬n.op≤13:=by omega
   simp[q,this]
  ·simp[q]
 simp only[hc,h2,if_false];have key:∀x:Option (Value×Hp),(if n.op≥5 then (if n.op≤13 then some (Value.bool (decide (n.w=0)),H) else x) else (if (false:Bool)=true then some (Value.bool (decide (n.w=0)),H) else x))=x:=fun x=>by
  by_cases q:n.op≥5
  ·have:¬n.op≤13:=by omega
   simp[q,this]
  ·simp[q]
 rw[key];by_cases h3:n.op=3
 ·simp only[h3,if_true];by_cases q:n.w≥1
  ·have:n.w>0:=by omega
   simp[q,this]
  ·have:¬n.w>0:=by omega
   simp[q,this]
 by_cases h4:n.op=4
 ·simp only[h3,h4,if_true,if_false]
  try simp
 simp only[h3,h4,if_false];by_cases h14:n.op=14
 ·have hB:=kb (by unfold zaj;rw[h14];decide);simp only[h14,if_true,zaf hB,zaF]
 have hA:=ka (by unfold zaj;split<;>first|omega | (split<;>first|omega | (split<;>omega)));simp only[h14,if_false];generalize hga:wT L (-1) n.a=a at *;by_cases h30:n.op=30
 ·have hB:=kb (by unfold zaj;rw[h30];decide);have q25:¬(25≤n.op∧n.op≤29):=by omega
  have e:IntKind.i64.wrap (a+wT L (-1) n.b)=a+wT L (-1) n.b:=zaq (by omega) (by omega);simp only[q25,if_false];simp only[h30,if_true,zaf hA,zaf hB,zaF,zaN,e]
 simp only[h30,if_false];by_cases h31:n.op=31
 ·have q25:¬(25≤n.op∧n.op≤29):=by omega
  simp only[q25,if_false];simp only[h31,if_true,zaf hA,zb0];by_cases k1:n.w≥1
  ·simp only[k1,if_true,decide_true,Bool.true_and];by_cases k2:n.num≤64
   ·have n0:=hn.n0;have e1:IntKind.i64.wrap n.num=n.num:=zaq (by omega) (by omega);have e2:IntKind.i64.wrap (n.num+n.w)=n.num+n.w:=zaq (by omega) (by omega);simp only[k2,if_true,e1,e2];congr 2;congr 1;rw[Bool.eq_iff_iff];simp;omega
   ·simp only[k2,if_false];congr 2;congr 1;rw[Bool.eq_iff_iff];simp;omega
  ·simp[k1]
 simp only[h31,if_false];by_cases h32:n.op≥32
 ·have q25:¬(25≤n.op∧n.op≤29):=by omega
  have q:n.op=32∨n.op=33:=by omega
  simp only[q25,q,h32,if_false,if_true,zaf hA,zbt]
 have q3:¬(n.op=32∨n.op=33):=by omega
 simp only[h32,q3,if_false];by_cases h25:n.op≥25
 ·have q:25≤n.op∧n.op≤29:=by omega
  simp only[h25,q,if_true,zaf hA,zaF,zac,s_br,decide_eq_true_eq,zaf (c55 n.w H),and_self];by_cases k:n.w=a
  ·simp[k,q.1]
  ·simp[k,q.1]
 ·have q:¬(25≤n.op∧n.op≤29):=by omega
  simp only[h25,q,if_false,zaf hA,zaF]
  try simp
end
end Go.AM
namespace Go.AM
open List Go
def zeU(x:Int):Bool:=(decide (x≥97)&&decide (x≤122))||(decide (x≥65)&&decide (x≤90))||decide (x=95)
def zpi(x:Int):Bool:=!(decide (x<48))&&!(decide (x>57))
theorem c56(x:Int)(H:Hp):RR A5 [.int .u8 x] H=some (.bool (zeU x),H):=by refine(zfX E0 rfl _ _).trans ?_;unfold zdy zeU;simp only[zb0,zbt,zaF,zac,s_br,zqL];congr 2;congr 1;generalize decide (x≥97)=b1;generalize decide (x≤122)=b2;generalize decide (x≥65)=b3;generalize decide (x≤90)=b4;generalize decide (x=95)=b5;cases b1<;>cases b2<;>cases b3<;>cases b4<;>cases b5<;>rfl
def zf3(b:UInt8):Bool:=zeU (b.toNat:Int)||zpi (b.toNat:Int)
def zcz(s:ByteArray):Bool:=decide (s.size≥1)&&decide (s.size≤24)&&(s.data.toList.head?.any fun b=>zeU (b.toNat:Int))&&(s.data.toList.drop 1).all zf3
theorem s_at{α:Type}(s:ByteArray)(i:Nat)(b:UInt8)(h:s.data.toList[i]?=some b)(k:Value→Option α):zbn (.string s) (.int .i64 (i:Int)) k=k (.int .u8 (b.toNat:Int)):=by
 have hs:s[i]?=some b:=by
  have hl:i<s.data.toList.length:=(List.getElem?_eq_some_iff.1 h).1;have hl':i<s.size:=by simpa using hl
  rw[getElem?_pos s i hl'];rw[List.getElem?_eq_getElem hl]at h;have:s[i]=s.data[i]'(by simpa using hl):=rfl;rw[this];simpa using h
 unfold zbn zpr;have h0:(0:Int)≤(i:Int):=by omega
 simp only[h0,if_true,Int.toNat_natCast,hs,Option.map_some]
theorem zpF{α:Type}(s:ByteArray)(H:Hp)(k:Value→Option α):pLen .str (.string s) H k=k (.int .i64 s.size):=rfl
theorem c50(s:ByteArray)(H:Hp):RR AU [.string s] H=some (.bool (zcz s),H):=by
 refine(zhl E0 rfl _ _).trans ?_;unfold zes
 generalize hS:(fun (l16:List Value) (H17:Hp)=>
 pLen .str (.string s) H17 fun v18=>
 pBin PP .lss Aa (l16.getD 0 undef) v18 fun v19=>
 zaa v19 fun b20=>br b20
 (zbn (.string s) (l16.getD 0 undef) fun v21=>
 zad RR A5 [v21] H17 fun r22 H23=>
 pUn .not r22 fun v24=>
 zaa v24 fun b25=>br b25
 (zbn (.string s) (l16.getD 0 undef) fun v26=>
 pBin PP .lss Ad v26 (.int .u8 48) fun v27=>
 zaa v27 fun b28=>br b28
 (some (Ctl.ret,[(.bool false)],H23))
 (zbn (.string s) (l16.getD 0 undef) fun v29=>
 pBin PP .gtr Ad v29 (.int .u8 57) fun v30=>
 zaa v30 fun b31=>br b31
 (some (Ctl.ret,[(.bool false)],H23))
 (pBin PP .add Aa (l16.getD 0 undef) (.int .i64 1) fun v32=>
 some (.next,[v32],H23))))
 (pBin PP .add Aa (l16.getD 0 undef) (.int .i64 1) fun v33=>
 some (.next,[v33],H23)))
 (some (.exit 0,[(l16.getD 0 undef)],H17)))=S
 have hlen:s.data.toList.length=s.size:=by simp
 have hstep:∀(i:Nat) (b:UInt8),i≤100→s.size≤100→s.data.toList[i]?=some b→S [.int .i64 (i:Int)] H=if zf3 b=true then some (.next,[.int .i64 ((i+1:Nat):Int)],H) else some (.ret,[.bool false],H):=by
  intro i b hi hsz hb;have hl:i<s.data.toList.length:=(List.getElem?_eq_some_iff.1 hb).1;have hlt:((i:Nat):Int)<(s.size:Int):=by omega
  rw[←hS];have hw:IntKind.i64.wrap ((i:Int)+1)=((i+1:Nat):Int):=by rw[zaq (by omega) (by omega)];simp
  simp only[zpF,zaV,zbp,zac,s_br,decide_eq_true_eq,qg0,hlt,if_true,s_at s i b hb,zaf (c56 _ H),za9,zaN,hw];unfold zf3 zpi;cases zeU (b.toNat:Int) with
  |true=>simp
  |false=>
   by_cases q1:(b.toNat:Int)<48
   ·simp[q1]
   ·by_cases q2:(b.toNat:Int)>57
    ·simp[q1,q2]
    ·simp[q1,q2]
 have hend:S [.int .i64 (s.size:Int)] H=some (.exit 0,[.int .i64 (s.size:Int)],H):=by rw[←hS];simp only[zpF,zaV,zac,s_br,decide_eq_true_eq,qg0,Int.lt_irrefl,if_false]
 have hloop:s.size≤100→∀(r:List UInt8) (i:Nat),s.data.toList.drop i=r→i≤s.size→zas S [.int .i64 (i:Int)] H=if r.all zf3=true then some (.exit 0,[.int .i64 (s.size:Int)],H) else some (.ret,[.bool false],H):=by
  intro hsz r;induction r with
  |nil=>
   intro i hd hi;have:s.data.toList.length≤i:=by simpa using hd
   have:i=s.size:=by omega
   subst this;rw[zai,hend];simp[ziL]
  |cons b r ih=>
   intro i hd hi;have hb:s.data.toList[i]?=some b:=by
    have:(s.data.toList.drop i)[0]?=some b:=by rw[hd];rfl
    rw[List.getElem?_drop]at this;simpa using this
   have hl:i<s.data.toList.length:=(List.getElem?_eq_some_iff.1 hb).1;have hd':s.data.toList.drop (i+1)=r:=by rw[←drop_drop,hd];rfl
   rw[zai,hstep i b (by omega) hsz hb];cases hk:zf3 b with
   |true=>
    simp only[if_true,Option.bind_some,ziL];rw[ih (i+1) hd' (by omega)];simp[hk]
   |false=>simp[hk,ziL]
 simp only[zpF,zaV,zbp,zac,s_br,decide_eq_true_eq];unfold zcz;by_cases h1:(s.size:Int)<1
 ·have:¬s.size≥1:=by omega
  simp[h1,this,zal,zbZ]
 by_cases h2:(s.size:Int)>24
 ·have:¬s.size≤24:=by omega
  simp[h1,h2,this,zal,zbZ]
 have g1:s.size≥1:=by omega
 have g2:s.size≤24:=by omega
 obtain⟨c,r,hcr⟩:∃c r,s.data.toList=c::r:=by
  cases hq:s.data.toList with
  |nil=>rw[hq]at hlen;simp at hlen;omega
  |cons c r=>exact⟨c,r,rfl⟩
 simp only[h1,h2,if_false];have h0:s.data.toList[0]?=some c:=by rw[hcr];rfl
 have ha:=fun (k:Value→Option Outc)=>s_at s 0 c h0 k;simp only[Int.natCast_zero]at ha;rw[ha,zaf (c56 _ H)];simp only[za9,zac,s_br];have hd1:s.data.toList.drop 1=r:=by rw[hcr];rfl
 have hlp:=hloop (by omega) r 1 hd1 g1;simp only[Int.natCast_one]at hlp;rw[hd1,hcr];cases hc:zeU (c.toNat:Int) with
 |false=>simp[g1,g2,hc,zal,zbZ]
 |true=>
  simp only[Bool.not_true,Bool.false_eq_true,if_false,zal,zaA,hlp];cases r.all zf3 with
  |true=>simp[g1,g2,hc,zal,za0,zaz]
  |false=>simp[g1,g2,hc,zal,zbZ]
theorem zo8{x:Int}(h:128≤x):zeU x=false:=by
 unfold zeU;have h1:¬x≤122:=by omega
 have h2:¬x≤90:=by omega
 have h3:¬x=95:=by omega
 simp[h1,h2,h3]
theorem zrc{x:Int}(h:128≤x):zpi x=false:=by
 unfold zpi;have h1:x>57:=by omega
 simp[h1]
theorem c44(s:ByteArray)(H:Hp):RR Bq [.string s] H=some (.bool (zcz s),H):=by
 refine(zoD E0 rfl _ _).trans ?_;unfold zkx
 generalize hS:(fun (l12:List Value) (H13:Hp)=>
 br (Nat.blt (zbl ((l12.drop 0).getD 0 undef)) (zbr ((l12.drop 0).getD 0 undef)).size)
 (zav (
 pBin PP .geq Ai (.int .i32 (Utf8.decode (zbr ((l12.drop 0).getD 0 undef)) (zbl ((l12.drop 0).getD 0 undef))).1) (.int .i32 97) fun v14=>
 zaa v14 fun b15=>br b15
 (pBin PP .leq Ai (.int .i32 (Utf8.decode (zbr ((l12.drop 0).getD 0 undef)) (zbl ((l12.drop 0).getD 0 undef))).1) (.int .i32 122) fun v16=>
 zaa v16 fun b17=>br b17
 (some (Ctl.next,[(.bool true)],H13))
 (pBin PP .geq Ai (.int .i32 (Utf8.decode (zbr ((l12.drop 0).getD 0 undef)) (zbl ((l12.drop 0).getD 0 undef))).1) (.int .i32 65) fun v18=>
 zaa v18 fun b19=>br b19
 (pBin PP .leq Ai (.int .i32 (Utf8.decode (zbr ((l12.drop 0).getD 0 undef)) (zbl ((l12.drop 0).getD 0 undef))).1) (.int .i32 90) fun v20=>
 zaa v20 fun b21=>br b21
 (some (Ctl.next,[(.bool true)],H13))
 (pBin PP .eql Ai (.int .i32 (Utf8.decode (zbr ((l12.drop 0).getD 0 undef)) (zbl ((l12.drop 0).getD 0 undef))).1) (.int .i32 95) fun v22=>
 some (Ctl.next,[v22],H13)))
 (pBin PP .eql Ai (.int .i32 (Utf8.decode (zbr ((l12.drop 0).getD 0 undef)) (zbl ((l12.drop 0).getD 0 undef))).1) (.int .i32 95) fun v23=>
 some (Ctl.next,[v23],H13))))
 (pBin PP .geq Ai (.int .i32 (Utf8.decode (zbr ((l12.drop 0).getD 0 undef)) (zbl ((l12.drop 0).getD 0 undef))).1) (.int .i32 65) fun v24=>
 zaa v24 fun b25=>br b25
 (pBin PP .leq Ai (.int .i32 (Utf8.decode (zbr ((l12.drop 0).getD 0 undef)) (zbl ((l12.drop 0).getD 0 undef))).1) (.int .i32 90) fun v26=>
 zaa v26 fun b27=>br b27
 (some (Ctl.next,[(.bool true)],H13))
 (pBin PP .eql Ai (.int .i32 (Utf8.decode (zbr ((l12.drop 0).getD 0 undef)) (zbl ((l12.drop 0).getD 0 undef))).1) (.int .i32 95) fun v28=>
 some (Ctl.next,[v28],H13)))
 (pBin PP .eql Ai (.int .i32 (Utf8.decode (zbr ((l12.drop 0).getD 0 undef)) (zbl ((l12.drop 0).getD 0 undef))).1) (.int .i32 95) fun v29=>
 some (Ctl.next,[v29],H13)))) fun q30 l31 H32=>zaB q30
 (pUn .not (l31.getD 0 undef) fun v34=>
 zaa v34 fun b35=>br b35
 (pBin PP .eql Aa (.int .i64 ((zbl ((l12.drop 0).getD 0 undef)):Nat)) (.int .i64 0) fun v36=>
 zaa v36 fun b37=>br b37
 (some (Ctl.ret,[(.bool false)],H32))
 (pBin PP .lss Ai (.int .i32 (Utf8.decode (zbr ((l12.drop 0).getD 0 undef)) (zbl ((l12.drop 0).getD 0 undef))).1) (.int .i32 48) fun v38=>
 zaa v38 fun b39=>br b39
 (some (Ctl.ret,[(.bool false)],H32))
 (pBin PP .gtr Ai (.int .i32 (Utf8.decode (zbr ((l12.drop 0).getD 0 undef)) (zbl ((l12.drop 0).getD 0 undef))).1) (.int .i32 57) fun v40=>
 zaa v40 fun b41=>br b41
 (some (Ctl.ret,[(.bool false)],H32))
 (some (Ctl.next,[(.tuple #[.string (zbr ((l12.drop 0).getD 0 undef)),.int .i64 (((zbl ((l12.drop 0).getD 0 undef))+(Utf8.decode (zbr ((l12.drop 0).getD 0 undef)) (zbl ((l12.drop 0).getD 0 undef))).2):Nat)])],H32)))))
 (some (Ctl.next,[(.tuple #[.string (zbr ((l12.drop 0).getD 0 undef)),.int .i64 (((zbl ((l12.drop 0).getD 0 undef))+(Utf8.decode (zbr ((l12.drop 0).getD 0 undef)) (zbl ((l12.drop 0).getD 0 undef))).2):Nat)])],H32)))
 (fun i33=>zax i33 1 (
 some (Ctl.next,[(.tuple #[.string (zbr ((l12.drop 0).getD 0 undef)),.int .i64 (((zbl ((l12.drop 0).getD 0 undef))+(Utf8.decode (zbr ((l12.drop 0).getD 0 undef)) (zbl ((l12.drop 0).getD 0 undef))).2):Nat)])],H32)) (
 some (Ctl.exit i33,[(.tuple #[.string (zbr ((l12.drop 0).getD 0 undef)),.int .i64 (((zbl ((l12.drop 0).getD 0 undef))+(Utf8.decode (zbr ((l12.drop 0).getD 0 undef)) (zbl ((l12.drop 0).getD 0 undef))).2):Nat)])],H32)))
 (some (Ctl.ret,[(l31.headD undef)],H32)))
 (some (Ctl.exit 0,[(.tuple #[.string (zbr ((l12.drop 0).getD 0 undef)),.int .i64 ((zbl ((l12.drop 0).getD 0 undef)):Nat)])],H13)))=S
 have hlen:s.data.toList.length=s.size:=by simp
 have hstep:∀(i:Nat) (b:UInt8),s.data.toList[i]?=some b→S [.tuple #[.string s,.int .i64 (i:Nat)]] H =
   if (zeU (b.toNat:Int)||(decide (i≠0)&&zpi (b.toNat:Int)))=true then some (.next,[.tuple #[.string s,.int .i64 ((i+1:Nat))]],H) else some (.ret,[.bool false],H):=by
  intro i b hb;have hl:i<s.data.toList.length:=(List.getElem?_eq_some_iff.1 hb).1;have hi:i<s.size:=by omega
  have hsb:s[i]'hi=b:=by have:s[i]=s.data[i]'(by simpa using hl):=rfl;rw[this];rw[List.getElem?_eq_getElem hl]at hb;simpa using hb
  have e1:zbr (.tuple #[.string s,.int .i64 (i:Nat)])=s:=rfl;have e2:zbl (.tuple #[.string s,.int .i64 (i:Nat)])=i:=by simp[zbl]
  have e3:Nat.blt i s.size=true:=Nat.ble_eq_true_of_le hi;have e4:((i:Nat):Int)=0↔i=0:=by omega
  rw[←hS];simp only[qd0,qg0,e1,e2,e3];simp only[zbt,zb0,zaF,zaV,zbp,zac,s_br,zal,zcd,zaA,za9,qg0,if_true,decide_eq_true_eq,e4];by_cases hasc:b.toNat<128
  ·have hd:=decode_ascii s i hi (by rw[hsb];exact hasc);rw[hsb]at hd;simp only[hd];unfold zeU zpi;generalize ((b.toNat:Nat):Int)=x;by_cases a1:x≥97<;>by_cases a2:x≤122<;>by_cases a3:x≥65<;>by_cases a4:x≤90<;>by_cases a5:x=95<;>by_cases a6:i=0<;>simp[a1,a2,a3,a4,a5,a6] <;>
    (by_cases a7:x<48<;>by_cases a8:x>57<;>simp[a7,a8])
  ·have hd:=decode_high s i hi (by rw[hsb];omega);generalize Utf8.decode s i=q at hd ⊢;obtain⟨r,wd⟩:=q;have k1:¬((r:Nat):Int)≤122:=by have:=hd.1;dsimp only at this;omega
   have k2:¬((r:Nat):Int)≤90:=by omega
   have k3:¬((r:Nat):Int)=95:=by omega
   have k4:¬((r:Nat):Int)<48:=by omega
   have k5:((r:Nat):Int)>57:=by omega
   rw[zo8 (by omega),zrc (by omega)];simp[k1,k2,k3,k4,k5]
 have hend:S [.tuple #[.string s,.int .i64 (s.size:Nat)]] H=some (.exit 0,[.tuple #[.string s,.int .i64 (s.size:Nat)]],H):=by
  have e1:zbr (.tuple #[.string s,.int .i64 (s.size:Nat)])=s:=rfl;have e2:zbl (.tuple #[.string s,.int .i64 (s.size:Nat)])=s.size:=by simp[zbl]
  have e3:Nat.blt s.size s.size=false:=by
   cases hq:Nat.blt s.size s.size with
   |false=>rfl
   |true=>have:=Nat.le_of_ble_eq_true hq;omega
  rw[←hS];simp only[qd0,qg0,e1,e2,e3];rfl
 have hloop:∀(r:List UInt8) (i:Nat),s.data.toList.drop i=r→i≤s.size→1≤i→zas S [.tuple #[.string s,.int .i64 (i:Nat)]] H=if r.all zf3=true then some (.exit 0,[.tuple #[.string s,.int .i64 (s.size:Nat)]],H) else some (.ret,[.bool false],H):=by
  intro r;induction r with
  |nil=>
   intro i hd hi h1;have:s.data.toList.length≤i:=by simpa using hd
   have:i=s.size:=by omega
   subst this;rw[zai,hend];simp[ziL]
  |cons b r ih=>
   intro i hd hi h1;have hb:s.data.toList[i]?=some b:=by
    have:(s.data.toList.drop i)[0]?=some b:=by rw[hd];rfl
    rw[List.getElem?_drop]at this;simpa using this
   have hl:i<s.data.toList.length:=(List.getElem?_eq_some_iff.1 hb).1;have hd':s.data.toList.drop (i+1)=r:=by rw[←drop_drop,hd];rfl
   have hne:decide (i≠0)=true:=decide_eq_true (by omega);have hok:(zeU (b.toNat:Int)||(decide (i≠0)&&zpi (b.toNat:Int)))=zf3 b:=by rw[hne];rfl
   rw[zai,hstep i b hb,hok];cases hk:zf3 b with
   |true=>
    simp only[if_true,Option.bind_some,ziL];rw[ih (i+1) hd' (by omega) (by omega)];simp[hk]
   |false=>simp[hk,ziL]
 simp only[zpF,zaV,zbp,zac,s_br,decide_eq_true_eq];unfold zcz;by_cases h1:(s.size:Int)<1
 ·have:¬s.size≥1:=by omega
  simp[h1,this,zal,zbZ]
 by_cases h2:(s.size:Int)>24
 ·have:¬s.size≤24:=by omega
  simp[h1,h2,this,zal,zbZ]
 have g1:s.size≥1:=by omega
 have g2:s.size≤24:=by omega
 obtain⟨c,r,hcr⟩:∃c r,s.data.toList=c::r:=by
  cases hq:s.data.toList with
  |nil=>rw[hq]at hlen;simp at hlen;omega
  |cons c r=>exact⟨c,r,rfl⟩
 simp only[h1,h2,if_false,zal,zaA];have h0:s.data.toList[0]?=some c:=by rw[hcr];rfl
 have hd1:s.data.toList.drop 1=r:=by rw[hcr];rfl
 have hlp:=hloop r 1 hd1 g1 (Nat.le_refl _);have hst:=hstep 0 c h0;have hfirst:zas S [.tuple #[.string s,.int .i64 ((0:Nat):Int)]] H=if zeU (c.toNat:Int)=true then (if r.all zf3=true then some (.exit 0,[.tuple #[.string s,.int .i64 (s.size:Nat)]],H) else some (.ret,[.bool false],H)) else some (.ret,[.bool false],H):=by
  rw[zai,hst];cases hc:zeU (c.toNat:Int) with
  |false=>simp[ziL]
  |true=>
   simp only[Bool.true_or,if_true,Option.bind_some,ziL];exact hlp
 show (zav (zas S [.tuple #[.string s,.int .i64 ((0:Nat):Int)]] H) _)=_;rw[hfirst,hd1,hcr];cases hc:zeU (c.toNat:Int) with
 |false=>simp[g1,g2,hc,zal,zbZ]
 |true=>
  cases r.all zf3 with
  |true=>simp[g1,g2,hc,zal,za0,zaz]
  |false=>simp[g1,g2,hc,zal,zbZ]
end Go.AM
namespace Go.AM
open Go
def zfR(b:Bool)(k:Option Bool):Option Bool:=match some b with|some true=>k|r=>r
theorem eq36c(n m:Nd):eqT PP 10000 Ah n.val m.val =
  zfR (n.op==m.op) (zfR (n.w==m.w) (zfR (n.a==m.a) (zfR (n.b==m.b) (zfR (n.c==m.c) (zfR (n.num==m.num) (zfR (n.name==m.name) (some true))))))):=by
 kernel_rfl
def zfk(n m:Nd):Bool:=n.op==m.op&&(n.w==m.w&&(n.a==m.a&&(n.b==m.b&&(n.c==m.c&&(n.num==m.num&&n.name==m.name)))))
theorem eq36(n m:Nd):eqT PP 10000 Ah n.val m.val=some (zfk n m):=by rw[eq36c];unfold zfk;cases n.op==m.op<;>cases n.w==m.w<;>cases n.a==m.a<;>cases n.b==m.b<;>cases n.c==m.c<;>cases n.num==m.num<;>cases n.name==m.name<;>rfl
theorem eq9(s t:ByteArray):eqT PP 10000 Ac (.string s) (.string t)=some (s==t):=by kernel_rfl
theorem shape36(n:Nd):zeZ PP 20 Ah n.val=true:=by kernel_rfl
theorem zm8(s:ByteArray):zeZ PP 20 Ac (.string s)=true:=by kernel_rfl
def zeX:Nat→List Nd→List (Value×Value)
 |_,[]=>[]
 |i,n::r=>(n.val,.int .i64 ((i+1:Nat):Int))::zeX (i+1) r
def zb3(n:Nd):Nat→List Nd→Option Nat
 |_,[]=>none
 |i,m::r=>if zfk n m=true then some i else zb3 n (i+1) r
theorem find36(n:Nd):∀(L:List Nd) (i j:Nat),zfB PP Ah n.val (zeX i L) j=some ((zb3 n i L).map fun q=>(q-i+j,.int .i64 ((q+1:Nat):Int)))
 |[],i,j=>rfl
 |m::r,i,j=>by
  unfold zeX zfB zb3;rw[eq36];cases h:zfk n m with
  |true=>simp
  |false=>
   simp only[Bool.false_eq_true,if_false];rw[find36 n r (i+1) (j+1)];cases hp:zb3 n (i+1) r with
   |none=>rfl
   |some q=>
    have:i+1≤q:=by
     have aux:∀(L:List Nd) (i q:Nat),zb3 n i L=some q→i≤q:=by
      intro L;induction L with
      |nil=>intro i q h;cases h
      |cons m L ih=>
       intro i q h;unfold zb3 at h;split at h
       ·cases h;exact Nat.le_refl _
       ·have:=ih (i+1) q h;omega
     exact aux r (i+1) q hp
    simp;omega
theorem look36{H:Hp}{f:Nat}{L:List Nd}(h:H.get f=some (.map (zeX 0 L)))(n:Nd):lookV PP Ah (.int .i64 0) (.map (some f)) n.val H =
  some (match zb3 n 0 L with|some q=>(.int .i64 ((q+1:Nat):Int),true)|none=>(.int .i64 0,false)):=by
 unfold lookV;rw[shape36];simp only[if_true,zo0,h,find36];cases zb3 n 0 L<;>rfl
end Go.AM
namespace Go.AM
open List Go
theorem zhE(s t:ByteArray):(s==t)=true↔s=t:=by obtain⟨a⟩:=s;obtain⟨b⟩:=t;show (a==b)=true↔_;simp
theorem zlV(n:Nd):∀(L:List Nd) (i:Nat),zeX i (L++[n])=zeX i L++[(n.val,.int .i64 ((i+L.length+1:Nat):Int))]
 |[],i=>rfl
 |m::r,i=>by show (m.val,_)::zeX (i+1) (r++[n])=_;rw[zlV n r (i+1)];simp only[zeX,cons_append,length_cons];rw[show i+1+r.length+1=i+(r.length+1)+1 by omega]
theorem upd36{H:Hp}{f:Nat}{L:List Nd}(h:H.get f=some (.map (zeX 0 L)))(n:Nd)(hn:zb3 n 0 L=none) :
  updV PP Ah (.map (some f)) n.val (.int .i64 ((L.length+1:Nat):Int)) H=some (H.set f (some (.map (zeX 0 (L++[n]))))):=by
 unfold updV;rw[shape36];simp only[if_true,h,find36,hn,Option.map_none];rw[zlV,Nat.zero_add]
def zeG(K:List (ByteArray×Int)):List (Value×Value):=K.map fun x=>(.string x.1,.int .i64 x.2)
def zbs(s:ByteArray):Nat→List (ByteArray×Int)→Option (Nat×Int)
 |_,[]=>none
 |i,(t,w)::r=>if (s==t)=true then some (i,w) else zbs s (i+1) r
theorem find9(s:ByteArray):∀(K:List (ByteArray×Int)) (i:Nat),zfB PP Ac (.string s) (zeG K) i=some ((zbs s i K).map fun q=>(q.1,.int .i64 q.2))
 |[],i=>rfl
 |(t,w)::r,i=>by
  show (match eqT PP 10000 Ac (.string s) (.string t) with|some true=>some (some (i,Value.int .i64 w))|some false=>zfB PP Ac (.string s) (zeG r) (i+1)|none=>none)=_;rw[eq9];unfold zbs;cases h:s==t with
  |true=>simp
  |false=>
   simp only[Bool.false_eq_true,if_false];exact find9 s r (i+1)
theorem look9{H:Hp}{g:Nat}{K:List (ByteArray×Int)}(h:H.get g=some (.map (zeG K)))(s:ByteArray):lookV PP Ac (.int .i64 0) (.map (some g)) (.string s) H =
  some (match zbs s 0 K with|some q=>(.int .i64 q.2,true)|none=>(.int .i64 0,false)):=by
 unfold lookV;rw[zm8];simp only[if_true,zo0,h,find9];cases zbs s 0 K<;>rfl
theorem zlG(s:ByteArray):∀(K:List (ByteArray×Int)) (i j:Nat) (w:Int),zbs s i K=some (j,w)→i≤j∧K[j-i]?=some (s,w)
 |[],i,j,w,h=>by cases h
 |(t,u)::r,i,j,w,h=>by
  unfold zbs at h;split at h
  ·rename_i e;cases h;have:s=t:=(zhE s t).1 e;subst this;exact⟨Nat.le_refl _,by simp⟩
  ·obtain⟨h1,h2⟩:=zlG s r (i+1) j w h;refine⟨by omega,?_⟩;rw[show j-i=(j-(i+1))+1 by omega];simpa using h2
def zcN(s:ByteArray)(w:Int)(K:List (ByteArray×Int)):List (ByteArray×Int):=match zbs s 0 K with|some _=>K|none=>K++[(s,w)]
theorem upd9{H:Hp}{g:Nat}{K:List (ByteArray×Int)}(h:H.get g=some (.map (zeG K)))(s:ByteArray)(w:Int)(hw:∀j u,zbs s 0 K=some (j,u)→u=w) :
  updV PP Ac (.map (some g)) (.string s) (.int .i64 w) H=some (H.set g (some (.map (zeG (zcN s w K))))):=by
 unfold updV zcN;rw[zm8];simp only[if_true,h,find9];cases hq:zbs s 0 K with
 |none=>simp[zeG]
 |some q=>
  obtain⟨j,u⟩:=q;have hu:=hw j u hq;subst hu;obtain⟨_,h2⟩:=zlG s K 0 j u hq;rw[Nat.sub_zero]at h2;have hk:(zeG K)[j]?=some (.string s,.int .i64 u):=by unfold zeG;rw[List.getElem?_map,h2];rfl
  have hset:zjj (zeG K) j (.string s) (.int .i64 u)=zeG K:=by
   unfold zjj;apply ext_getElem?;intro i;rw[List.getElem?_set];split
   ·rename_i e;subst e;rw[if_pos (List.getElem?_eq_some_iff.1 hk).1,hk]
   ·rfl
  have hsb:Instr.sameBits 10000 (.string s) (.string s)=true:=by simp only[Instr.sameBits];exact(zhE s s).2 rfl
  simp only[Option.map_some,hk,hsb,if_true,hset]
def slId:Value→Option Nat
 |.slice (some a) _ _=>some a.block
 |_=>none
theorem zim(H:Hp)(o:AObj)(i:Nat):(H.new o).get i=if i=H.next then some o else H.get i:=rfl
theorem zpd(H:Hp)(j:Nat)(o:Option AObj)(i:Nat):(H.set j o).get i=if i=j then o else H.get i:=rfl
theorem znX(H:Hp)(j:Nat)(o:Option AObj):(H.set j o).next=H.next:=rfl
theorem zkQ(n:Nd):n.cells.all one=true:=rfl
theorem zps{H:Hp}{sl:Value}{L:List Nd}(hsl:SlR H sl L){y:Nat}{own:Bool}{n:Nd}(hy:H.get y=some (.cells n.cells own))(hlt:∀i,slId sl=some i→i<H.next)(hb:(L.length+1)*64≤2^47) :
  ∃sl' H',zbS 7 64 sl (.slice (some ⟨y,0,some 7⟩) 1 1) H=some (sl',H')∧SlR H' sl' (L++[n])∧slId sl'=some H.next∧H'.next=H.next+1 ∧
   ∀j,j<H.next→slId sl≠some j→H'.get j=H.get j:=by
 have hsrc:zcM 7 (.slice (some ⟨y,0,some 7⟩) 1 1) H=some (1,n.cells):=by simp[zcM,hy,Nd.cells]
 rcases hsl with⟨rfl,rfl⟩|⟨i,rfl,hi⟩
 ·refine⟨.slice (some ⟨H.next,0,some 7⟩) 1 1,H.new (.cells n.cells true),?_,.inr ⟨H.next,rfl,?_⟩,rfl,rfl,fun j hj _=>?_⟩
  ·unfold zbS;rw[hsrc];simp[zkQ]
  ·rw[zim,if_pos rfl];simp
  ·rw[zim,if_neg (by omega)]
 ·refine⟨.slice (some ⟨H.next,0,some 7⟩) (L.length+1) (L.length+1),(H.set i none).new (.cells (L.flatMap Nd.cells++n.cells) true),?_,.inr ⟨H.next,by simp,?_⟩,rfl,rfl,fun j hj hne=>?_⟩
  ·unfold zbS;rw[hsrc];have h1:¬L.length+1≤L.length:=by omega
   have h2:(L.flatMap Nd.cells).take (L.length*7)=L.flatMap Nd.cells:=take_of_length_le (by rw[flat_len];omega);have h3:0+L.length*7≤(L.flatMap Nd.cells).length:=by rw[flat_len];omega
   simp only[ne_eq,not_true_eq_false,if_false,hi,h1,Nat.one_ne_zero,false_and,h3,hb,zkQ,and_self,if_true,qd0,h2]
  ·rw[zim,if_pos (znX _ _ _).symm];simp[flatMap_append]
  ·have:j≠i:=fun e=>hne (by rw[e];rfl);rw[zim,znX,if_neg (by omega),zpd,if_neg this]
end Go.AM
namespace Go.AM
open Go
noncomputable def tailM(p:Nat)(n:Nd)(H:Hp):Option (Value×Hp):=
 (pNil (.pointer (some ⟨p,0,none⟩)) (
 zat 1 (.pointer (some ⟨p,0,none⟩)) fun p124=>
 zak 1 false H p124 fun v125=>
 zae 7 true (zab n.val) 0 fun v126=>
 zam 7 [.int .i64 0,.int .i64 0,.int .i64 0,.int .i64 0,.int .i64 0,.int .u64 0,.string ⟨#[]⟩] 1 [(0,v126)] H fun v127 H128=>
 chk (Hp.rdP H128 p124 1 false=some v125) (
 zaH 7 64 v125 v127 H128 fun v129 H130=>
 pNil (.pointer (some ⟨p,0,none⟩)) (
 zat 1 (.pointer (some ⟨p,0,none⟩)) fun p131=>
 zay 1 H130 p131 v129 fun H132=>
 pNil (.pointer (some ⟨p,0,none⟩)) (
 zat 2 (.pointer (some ⟨p,0,none⟩)) fun p133=>
 zak 1 false H132 p133 fun v134=>
 zae 7 true (zab n.val) 0 fun v135=>
 pNil (.pointer (some ⟨p,0,none⟩)) (
 zat 1 (.pointer (some ⟨p,0,none⟩)) fun p136=>
 zak 1 false H132 p136 fun v137=>
 pLen .sl v137 H132 fun v138=>
 pUpd PP Ah v134 v135 v138 H132 fun H139=>
 zae 1 false (zab n.val) 0 fun v140=>
 pBin PP .eql Aa v140 (.int .i64 4) fun v141=>
 zaa v141 fun b142=>br b142
 (pNil (.pointer (some ⟨p,0,none⟩)) (
 zat 3 (.pointer (some ⟨p,0,none⟩)) fun p143=>
 zak 1 false H139 p143 fun v144=>
 zae 1 false (zab n.val) 6 fun v145=>
 zae 1 false (zab n.val) 1 fun v146=>
 pUpd PP Ac v144 v145 v146 H139 fun H147=>
 pNil (.pointer (some ⟨p,0,none⟩)) (
 zat 1 (.pointer (some ⟨p,0,none⟩)) fun p148=>
 zak 1 false H147 p148 fun v149=>
 pLen .sl v149 H147 fun v150=>
 some ((.tuple #[v150,(.int .i64 0)]),H147))))
 (pNil (.pointer (some ⟨p,0,none⟩)) (
 zat 1 (.pointer (some ⟨p,0,none⟩)) fun p151=>
 zak 1 false H139 p151 fun v152=>
 pLen .sl v152 H139 fun v153=>
 some ((.tuple #[v153,(.int .i64 0)]),H139)))))))))
theorem zl3(n:Nd)(H:Hp){α:Type}(k:Value→Hp→Option α) :
  zam 7 [.int .i64 0,.int .i64 0,.int .i64 0,.int .i64 0,.int .i64 0,.int .u64 0,.string ⟨#[]⟩] 1 [(0,n.val)] H k=k (.slice (some ⟨H.next,0,some 7⟩) 1 1) (H.new (.cells n.cells true)):=by
 have:zbR 7 [.int .i64 0,.int .i64 0,.int .i64 0,.int .i64 0,.int .i64 0,.int .u64 0,.string ⟨#[]⟩] 1 [(0,n.val)] H=some (.slice (some ⟨H.next,0,some 7⟩) 1 1,H.new (.cells n.cells true)):=by have h1:zab n.val=n.cells:=rfl;have h2:n.cells.length=7:=rfl;simp[zbR,repl,zkJ,h1,h2,zkQ,spl]
 unfold zam;rw[this]
theorem zha{α:Type}{q:Prop}(h:q)(k:Option α):chk q k=k:=by unfold chk;exact if_pos h
structure StF(H:Hp)(p:Nat)(lim:Int)(L:List Nd)(K:List (ByteArray×Int))(sl:Value)(f g:Nat):Prop where
 st:StR H p lim L sl f g
 fm:H.get f=some (.map (zeX 0 L))
 gm:H.get g=some (.map (zeG K))
 pf:p≠f
 pg:p≠g
 fg:f≠g
 lp:p<H.next
 lf:f<H.next
 lg:g<H.next
 sa:∀i,slId sl=some i→i≠p∧i≠f∧i≠g∧i<H.next
theorem store1{α:Type}{H:Hp}{p f g:Nat}{lim:Int}{sl:Value}(hs:H.get p=some (.cells [.int .i64 lim,sl,.map (some f),.map (some g)] true))(v:Value)(hv:zab v=[v])(h1:one v=true)(k:Hp→Option α) :
  zay 1 H (.pointer (some ⟨p,1,none⟩)) v k=k (H.set p (some (.cells [.int .i64 lim,v,.map (some f),.map (some g)] true))):=by
 have:H.wr (.pointer (some ⟨p,1,none⟩)) 1 v=some (H.set p (some (.cells [.int .i64 lim,v,.map (some f),.map (some g)] true))):=by simp[Hp.wr,hs,zbE,hv,h1,spl]
 unfold zay;rw[this]
theorem zpJ{α:Type}{n m:Nat}{s x:Value}{H:Hp}{v:Value}{H':Hp}(h:zbS n m s x H=some (v,H'))(k:Value→Hp→Option α):zaH n m s x H k=k v H':=by unfold zaH;rw[h]
theorem s_upd{α:Type}{P:Program}{kt:TypeId}{m key v:Value}{H H':Hp}(h:updV P kt m key v H=some H')(k:Hp→Option α):pUpd P kt m key v H k=k H':=by unfold pUpd;rw[h]
theorem tail_ok{H:Hp}{p f g:Nat}{lim:Int}{L:List Nd}{K:List (ByteArray×Int)}{sl:Value}(h:StF H p lim L K sl f g)(n:Nd)(hn:zb3 n 0 L=none)(hw:n.op=4→∀j u,zbs n.name 0 K=some (j,u)→u=n.w)(hb:(L.length+1)*64≤2^47) :
  ∃H' sl',tailM p n H=some (.tuple #[.int .i64 ((L.length+1:Nat):Int),.int .i64 0],H')∧StF H' p lim (L++[n]) (if n.op=4 then zcN n.name n.w K else K) sl' f g∧H.next≤H'.next ∧
   (∀j,j<H.next→j≠p→j≠f→j≠g→slId sl≠some j→H'.get j=H.get j)∧(∀i,slId sl'=some i→H.next≤i):=by
 have hlp:=h.lp;have hlf:=h.lf;have hlg:=h.lg;have hH1:∀j,j<H.next→(H.new (.cells n.cells true)).get j=H.get j:=fun j hj=>by rw[zim,if_neg (by omega)]
 have hsl1:SlR (H.new (.cells n.cells true)) sl L:=by
  rcases h.st.all with⟨e1,e2⟩|⟨i,e1,e2⟩
  ·exact .inl ⟨e1,e2⟩
  ·have:=(h.sa i (by rw[e1];rfl)).2.2.2;exact .inr ⟨i,e1,by rw[hH1 i this];exact e2⟩
 obtain⟨sl',H2,ha,hsl2,hid,hnx,hfr⟩:=zps hsl1 (y:=H.next) (own:=true) (n:=n) (by rw[zim,if_pos rfl]) (fun i hi=>by have:=(h.sa i hi).2.2.2;show i<H.next+1;omega) hb;have hnx1:(H.new (.cells n.cells true)).next=H.next+1:=rfl;rw[hnx1]at hid hnx hfr;have hg2:∀j,j<H.next→slId sl≠some j→H2.get j=H.get j:=fun j hj hne=>by rw[hfr j (by omega) hne,hH1 j hj]
 have sp:slId sl≠some p:=fun e=>(h.sa p e).1 rfl;have sf:slId sl≠some f:=fun e=>(h.sa f e).2.1 rfl;have sg:slId sl≠some g:=fun e=>(h.sa g e).2.2.1 rfl;have hsl':∃c,sl'=.slice (some ⟨H.next+1,0,some 7⟩) (L++[n]).length c:=by
  rcases hsl2 with⟨e1,_⟩|⟨i,e1,_⟩
  ·simp at e1
  ·rw[e1]at hid;have:i=H.next+1:=by simpa[slId] using hid
   subst this;exact⟨_,e1⟩
 obtain⟨c,hslc⟩:=hsl';have hobj2:H2.get p=some (.cells [.int .i64 lim,sl,.map (some f),.map (some g)] true):=by rw[hg2 p hlp sp];exact h.st.obj
 have hcl:zab sl'=[sl']:=by rw[hslc];rfl
 have hone:one sl'=true:=by rw[hslc];rfl
 generalize hH3:H2.set p (some (.cells [.int .i64 lim,sl',.map (some f),.map (some g)] true))=H3;have g3:∀j,j≠p→H3.get j=H2.get j:=fun j hj=>by rw[←hH3,zpd,if_neg hj]
 have obj3:H3.get p=some (.cells [.int .i64 lim,sl',.map (some f),.map (some g)] true):=by rw[←hH3,zpd,if_pos rfl]
 have n3:H3.next=H.next+2:=by rw[←hH3,znX,hnx]
 have hsl3:SlR H3 sl' (L++[n]):=by
  rcases hsl2 with⟨e1,_⟩|⟨i,e1,e2⟩
  ·simp at e1
  ·have:i=H.next+1:=by rw[e1]at hid;simpa[slId] using hid
   exact .inr ⟨i,e1,by rw[g3 i (by omega)];exact e2⟩
 have hf3:H3.get f=some (.map (zeX 0 L)):=by rw[g3 f (Ne.symm h.pf),hg2 f hlf sf];exact h.fm
 have hg3:H3.get g=some (.map (zeG K)):=by rw[g3 g (Ne.symm h.pg),hg2 g hlg sg];exact h.gm
 have st3:StR H3 p lim (L++[n]) sl' f g:=⟨obj3,hsl3⟩
 have hu:=upd36 hf3 n hn;generalize hH4:H3.set f (some (.map (zeX 0 (L++[n]))))=H4 at hu;have g4:∀j,j≠f→H4.get j=H3.get j:=fun j hj=>by rw[←hH4,zpd,if_neg hj]
 have n4:H4.next=H.next+2:=by rw[←hH4,znX,n3]
 have obj4:H4.get p=some (.cells [.int .i64 lim,sl',.map (some f),.map (some g)] true):=by rw[g4 p h.pf];exact obj3
 have hf4:H4.get f=some (.map (zeX 0 (L++[n]))):=by rw[←hH4,zpd,if_pos rfl]
 have hg4:H4.get g=some (.map (zeG K)):=by rw[g4 g (Ne.symm h.fg)];exact hg3
 have hslk:∀{Hx:Hp},(∀j,j≠p→j≠f→j≠g→Hx.get j=H3.get j)→SlR Hx sl' (L++[n]):=fun hx=>by
  rcases hsl3 with⟨e1,_⟩|⟨i,e1,e2⟩
  ·simp at e1
  ·have:i=H.next+1:=by rw[e1]at hid;simpa[slId] using hid
   exact .inr ⟨i,e1,by rw[hx i (by omega) (by omega) (by omega)];exact e2⟩
 have st4:StR H4 p lim (L++[n]) sl' f g:=⟨obj4,hslk fun j _ hf _=>g4 j hf⟩
 have hlen:((L++[n]).length:Int)=((L.length+1:Nat):Int):=by simp
 have hapart:∀i,slId sl'=some i→i≠p∧i≠f∧i≠g∧i<H.next+2:=fun i hi=>by rw[hid]at hi;cases hi;exact⟨by omega,by omega,by omega,by omega⟩
 have hframe4:∀j,j<H.next→j≠p→j≠f→j≠g→slId sl≠some j→H4.get j=H.get j:=fun j a b c d e=>by rw[g4 j c,g3 j b,hg2 j a e]
 have hge:∀i,slId sl'=some i→H.next≤i:=fun i hi=>by rw[hid]at hi;cases hi;omega
 have hchk:Hp.rdP (H.new (.cells n.cells true)) (.pointer (some ⟨p,1,none⟩)) 1 false=some sl:=by simp[Hp.rdP,Hp.rd,hH1 p hlp,h.st.obj,zcx]
 by_cases hop:n.op=4
 ·have hu9:=upd9 hg4 n.name n.w (hw hop);generalize hH5:H4.set g (some (.map (zeG (zcN n.name n.w K))))=H5 at hu9;have g5:∀j,j≠g→H5.get j=H4.get j:=fun j hj=>by rw[←hH5,zpd,if_neg hj]
  have n5:H5.next=H.next+2:=by rw[←hH5,znX,n4]
  have obj5:H5.get p=some (.cells [.int .i64 lim,sl',.map (some f),.map (some g)] true):=by rw[g5 p h.pg];exact obj4
  have st5:StR H5 p lim (L++[n]) sl' f g:=⟨obj5,hslk fun j _ hf hg=>by rw[g5 j hg,g4 j hf]⟩
  refine⟨H5,sl',?_,⟨st5,?_,?_,h.pf,h.pg,h.fg,by omega,by omega,by omega,by rw[n5];exact hapart⟩,by omega,fun j a b c d e=>?_,hge⟩
  ·unfold tailM;simp only[zbA,zaJ,Nat.zero_add,h.st.l1,n07,zl3];rw[zha hchk,zpJ ha,store1 hobj2 sl' hcl hone,hH3];simp only[st3.l1,st3.l2,hsl3.len,hlen];rw[s_upd hu];simp only[n0,n1,n6,zaF,hop,decide_true,zac,s_br,if_true,st4.l3];rw[s_upd hu9];simp only[st5.l1,st5.all.len,hlen]
  ·rw[g5 f h.fg];exact hf4
  ·rw[if_pos hop,←hH5,zpd,if_pos rfl]
  ·rw[g5 j d];exact hframe4 j a b c d e
 ·refine⟨H4,sl',?_,⟨st4,hf4,?_,h.pf,h.pg,h.fg,by omega,by omega,by omega,by rw[n4];exact hapart⟩,by omega,hframe4,hge⟩
  ·unfold tailM;simp only[zbA,zaJ,Nat.zero_add,h.st.l1,n07,zl3];rw[zha hchk,zpJ ha,store1 hobj2 sl' hcl hone,hH3];simp only[st3.l1,st3.l2,hsl3.len,hlen];rw[s_upd hu];simp only[n0,zaF,hop,decide_false,zac,s_br,Bool.false_eq_true,if_false,st4.l1,st4.all.len,hlen]
  ·rw[if_neg hop];exact hg4
end Go.AM
namespace Go.AM
open List Go
def zbz(L:List Nd)(n:Nd):Bool:=(decide (zaj n.op≥1)&&!isT L n.a)||(decide (zaj n.op≥2)&&!isT L n.b)||(decide (zaj n.op≥3)&&!isT L n.c)
def zbG(K:List (ByteArray×Int))(n:Nd):Bool:=!zcz n.name||(match zbs n.name 0 K with|some q=>decide (q.2≠n.w)|none=>false)
def zcP(L:List Nd)(K:List (ByteArray×Int))(n:Nd):Int:=
 if n.op<1∨n.op>33 then 73 else if n.w<0∨n.w>64 then 5 else if zbz L n=true then 70 else if zez (zaj n.op) n=true then 1
 else if zbP n.op (wT L (-1) n.a) (wT L (-1) n.b) (wT L (-1) n.c)=false then 71 else if zbV n (wT L (-1) n.a) (wT L (-1) n.b)=false then 5
 else if n.op=4∧zbG K n=true then 72 else 0
def mkR(lim:Int)(L:List Nd)(K:List (ByteArray×Int))(n:Nd):Int×Int×List Nd×List (ByteArray×Int):=
 if zcP L K n≠0 then (0,zcP L K n,L,K) else match zb3 n 0 L with
  |some q=>(((q+1:Nat):Int),0,L,K)
  |none=>if lim>0∧(L.length:Int)≥lim then (0,4,L,K) else (((L.length+1:Nat):Int),0,L++[n],if n.op=4 then zcN n.name n.w K else K)
theorem zm1{L:List Nd}(h:∀m∈L,0≤m.w∧m.w≤64)(t:Int):-1≤wT L (-1) t∧wT L (-1) t≤64:=by
 unfold wT;split
 ·cases hq:L[(t-1).toNat]? with
  |none=>simp
  |some m=>
   have:=h m (mem_of_getElem? hq);simp;omega
 ·omega
end Go.AM
namespace Go.AM
open Go
theorem s_iteB(p:Prop) [Decidable p](x y:Bool)(H:Hp):(if p then some (Ctl.next,[Value.bool x],H) else some (Ctl.next,[Value.bool y],H))=some (Ctl.next,[Value.bool (bif decide p then x else y)],H):=by by_cases h:p<;>simp[h]
theorem zgV{α:Type}{P:Program}{kt:TypeId}{z m key v:Value}{b:Bool}{H:Hp}(h:lookV P kt z m key H=some (v,b))(k:Value→Option α):zbM P kt z m key true H k=k (.tuple #[v,.bool b]):=by unfold zbM;rw[h]
theorem s_ext0{α:Type}(x y:Value)(k:Value→Option α):zah (.tuple #[x,y]) 0 k=k x:=rfl
theorem s_ext1{α:Type}(x y:Value)(k:Value→Option α):zah (.tuple #[x,y]) 1 k=k y:=rfl
noncomputable def zqM(p:Nat)(n:Nd)(H:Hp):Option (Value×Hp):=
 pNil (.pointer (some ⟨p,0,none⟩)) (
 zat 2 (.pointer (some ⟨p,0,none⟩)) fun p102=>
 zak 1 false H p102 fun v103=>
 zae 7 true (zab n.val) 0 fun v104=>
 zbM PP Ah (.int .i64 0) v103 v104 true H fun v105=>
 zah v105 0 fun v106=>
 zah v105 1 fun v107=>
 zaa v107 fun b108=>br b108
 (some ((.tuple #[v106,(.int .i64 0)]),H))
 (zav (
 pNil (.pointer (some ⟨p,0,none⟩)) (
 zat 0 (.pointer (some ⟨p,0,none⟩)) fun p109=>
 zak 1 false H p109 fun v110=>
 pBin PP .gtr Aa v110 (.int .i64 0) fun v111=>
 zaa v111 fun b112=>br b112
 (pNil (.pointer (some ⟨p,0,none⟩)) (
 zat 1 (.pointer (some ⟨p,0,none⟩)) fun p113=>
 zak 1 false H p113 fun v114=>
 pLen .sl v114 H fun v115=>
 pNil (.pointer (some ⟨p,0,none⟩)) (
 zat 0 (.pointer (some ⟨p,0,none⟩)) fun p116=>
 zak 1 false H p116 fun v117=>
 pBin PP .geq Aa v115 v117 fun v118=>
 zaa v118 fun b119=>br b119
 (some (.ret,[(.tuple #[(.int .i64 0),(.int .i64 4)])],H))
 (some (.next,[],H)))))
 (some (.next,[],H)))) fun q120 l121 H122=>zaB q120
 (pNil (.pointer (some ⟨p,0,none⟩)) (
 zat 1 (.pointer (some ⟨p,0,none⟩)) fun p124=>
 zak 1 false H122 p124 fun v125=>
 zae 7 true (zab n.val) 0 fun v126=>
 zam 7 [.int .i64 0,.int .i64 0,.int .i64 0,.int .i64 0,.int .i64 0,.int .u64 0,.string ⟨#[]⟩] 1 [(0,v126)] H122 fun v127 H128=>
 chk (Hp.rdP H128 p124 1 false=some v125) (
 zaH 7 64 v125 v127 H128 fun v129 H130=>
 pNil (.pointer (some ⟨p,0,none⟩)) (
 zat 1 (.pointer (some ⟨p,0,none⟩)) fun p131=>
 zay 1 H130 p131 v129 fun H132=>
 pNil (.pointer (some ⟨p,0,none⟩)) (
 zat 2 (.pointer (some ⟨p,0,none⟩)) fun p133=>
 zak 1 false H132 p133 fun v134=>
 zae 7 true (zab n.val) 0 fun v135=>
 pNil (.pointer (some ⟨p,0,none⟩)) (
 zat 1 (.pointer (some ⟨p,0,none⟩)) fun p136=>
 zak 1 false H132 p136 fun v137=>
 pLen .sl v137 H132 fun v138=>
 pUpd PP Ah v134 v135 v138 H132 fun H139=>
 zae 1 false (zab n.val) 0 fun v140=>
 pBin PP .eql Aa v140 (.int .i64 4) fun v141=>
 zaa v141 fun b142=>br b142
 (pNil (.pointer (some ⟨p,0,none⟩)) (
 zat 3 (.pointer (some ⟨p,0,none⟩)) fun p143=>
 zak 1 false H139 p143 fun v144=>
 zae 1 false (zab n.val) 6 fun v145=>
 zae 1 false (zab n.val) 1 fun v146=>
 pUpd PP Ac v144 v145 v146 H139 fun H147=>
 pNil (.pointer (some ⟨p,0,none⟩)) (
 zat 1 (.pointer (some ⟨p,0,none⟩)) fun p148=>
 zak 1 false H147 p148 fun v149=>
 pLen .sl v149 H147 fun v150=>
 some ((.tuple #[v150,(.int .i64 0)]),H147))))
 (pNil (.pointer (some ⟨p,0,none⟩)) (
 zat 1 (.pointer (some ⟨p,0,none⟩)) fun p151=>
 zak 1 false H139 p151 fun v152=>
 pLen .sl v152 H139 fun v153=>
 some ((.tuple #[v153,(.int .i64 0)]),H139)))))))))
 (fun i123=>none)
 (some ((l121.headD undef),H122))))
def okR(lim:Int)(L:List Nd)(K:List (ByteArray×Int))(n:Nd):Int×Int×List Nd×List (ByteArray×Int):=
 match zb3 n 0 L with
  |some q=>(((q+1:Nat):Int),0,L,K)
  |none=>if lim>0∧(L.length:Int)≥lim then (0,4,L,K) else (((L.length+1:Nat):Int),0,L++[n],if n.op=4 then zcN n.name n.w K else K)
structure MkOk(H:Hp)(p:Nat)(lim:Int)(sl:Value)(f g:Nat)(r:Int×Int×List Nd×List (ByteArray×Int))(H':Hp)(sl':Value):Prop where
 st:StF H' p lim r.2.2.1 r.2.2.2 sl' f g
 next:H.next≤H'.next
 frame:∀j,j<H.next→j≠p→j≠f→j≠g→slId sl≠some j→H'.get j=H.get j
 own:∀i,slId sl'=some i→slId sl=some i∨H.next≤i
theorem MkOk.stay{H:Hp}{p f g:Nat}{lim:Int}{L:List Nd}{K:List (ByteArray×Int)}{sl:Value}(h:StF H p lim L K sl f g){r:Int×Int×List Nd×List (ByteArray×Int)}(hr:r.2.2=(L,K)):MkOk H p lim sl f g r H sl:=
 ⟨by rw[hr];exact h,Nat.le_refl _,fun _ _ _ _ _ _=>rfl,fun i hi=>.inl hi⟩
theorem rest_ok{H:Hp}{p f g:Nat}{lim:Int}{L:List Nd}{K:List (ByteArray×Int)}{sl:Value}(h:StF H p lim L K sl f g)(n:Nd)(hw:n.op=4→∀j u,zbs n.name 0 K=some (j,u)→u=n.w)(hb:(L.length+1)*64≤2^47) :
  ∃H' sl',zqM p n H=some (.tuple #[.int .i64 (okR lim L K n).1,.int .i64 (okR lim L K n).2.1],H')∧MkOk H p lim sl f g (okR lim L K n) H' sl':=by
 have hl36:=look36 h.fm n;unfold okR;cases hq:zb3 n 0 L with
 |some q=>
  rw[hq]at hl36;refine⟨H,sl,?_,MkOk.stay h rfl⟩;unfold zqM;simp only[zbA,zaJ,Nat.zero_add,h.st.l2,n07,zgV hl36,x01,zac,s_br,if_true]
 |none=>
  rw[hq]at hl36;by_cases hlim:lim>0∧(L.length:Int)≥lim
  ·refine⟨H,sl,?_,MkOk.stay h (by simp only[if_pos hlim])⟩;unfold zqM;simp only[zbA,zaJ,Nat.zero_add,Nat.add_zero,h.st.l0,h.st.l1,h.st.l2,h.st.all.len,n07,zgV hl36,x01,zac,s_br,zbp,zbt,hlim.1,hlim.2,decide_true,Bool.false_eq_true,if_false,if_true,zal,zbZ,zcp,if_pos hlim,and_self]
  ·obtain⟨H',sl',h1,h2,h3,h4,h5⟩:=tail_ok h n hq hw hb;rw[if_neg hlim];refine⟨H',sl',?_,⟨h2,h3,h4,fun i hi=>.inr (h5 i hi)⟩⟩;rw[←h1];unfold zqM;by_cases l1:lim>0
   ·have l2:¬((L.length:Int)≥lim):=fun q=>hlim ⟨l1,q⟩;simp only[zbA,zaJ,Nat.zero_add,Nat.add_zero,h.st.l0,h.st.l1,h.st.l2,h.st.all.len,n07,zgV hl36,x01,zac,s_br,zbp,zbt,l1,l2,decide_true,decide_false,Bool.false_eq_true,if_false,if_true,zal,zaA,zcp];unfold tailM;simp only[zbA,zaJ,Nat.zero_add,Nat.add_zero,h.st.l0,h.st.l1,h.st.l2,h.st.all.len,n07,s_br]
   ·simp only[zbA,zaJ,Nat.zero_add,Nat.add_zero,h.st.l0,h.st.l1,h.st.l2,h.st.all.len,n07,zgV hl36,x01,zac,s_br,zbp,zbt,l1,decide_true,decide_false,Bool.false_eq_true,if_false,if_true,zal,zaA,zcp];unfold tailM;simp only[zbA,zaJ,Nat.zero_add,Nat.add_zero,h.st.l0,h.st.l1,h.st.l2,h.st.all.len,n07,s_br]
theorem c31{H:Hp}{p f g:Nat}{lim:Int}{L:List Nd}{K:List (ByteArray×Int)}{sl:Value}(h:StF H p lim L K sl f g)(n:Nd)(hnum:0≤n.num∧n.num<18446744073709551616)
  (hW:∀m∈L,0≤m.w∧m.w≤64) (hb:(L.length+1)*64≤2^47) :
  ∃H' sl',RR AJ [.pointer (some ⟨p,0,none⟩),n.val] H=some (.tuple #[.int .i64 (mkR lim L K n).1,.int .i64 (mkR lim L K n).2.1],H')∧MkOk H p lim sl f g (mkR lim L K n) H' sl':=by
 have hL:(L.length:Int)≤4611686018427387904:=by omega
 have ha:=zm1 hW n.a;have hbd:=zm1 hW n.b;have stay:∀e:Int,zcP L K n=e→e≠0→RR AJ [.pointer (some ⟨p,0,none⟩),n.val] H=some (.tuple #[.int .i64 0,.int .i64 e],H) →
   ∃H' sl',RR AJ [.pointer (some ⟨p,0,none⟩),n.val] H=some (.tuple #[.int .i64 (mkR lim L K n).1,.int .i64 (mkR lim L K n).2.1],H')∧MkOk H p lim sl f g (mkR lim L K n) H' sl':=fun e he h0 hr=>by
  have hm:mkR lim L K n=(0,e,L,K):=by unfold mkR;rw[he,if_pos h0]
  rw[hm];exact⟨H,sl,hr,MkOk.stay h rfl⟩
 have hrun:=ze1 E0 rfl (.pointer (some ⟨p,0,none⟩)) n.val H;unfold zcK at hrun;simp only[n0,n1,zaf (c46 _ H),zaV,zbp,zac,s_br,zal,zcd,zaA,zbZ,qg0,decide_eq_true_eq,if_true]at hrun;by_cases hop:n.op<1∨n.op>33
 ·have:zi3 n.op<0:=by unfold zi3;rw[if_pos hop];decide
  rw[if_pos this]at hrun;exact stay 73 (by unfold zcP;rw[if_pos hop]) (by decide) hrun
 have hpr:zi3 n.op=zaj n.op:=by unfold zi3;rw[if_neg hop]
 have hp0:¬zaj n.op<0:=by unfold zaj;split<;>first|decide | (split<;>first|decide | (split<;>decide))
 rw[hpr,if_neg hp0]at hrun;by_cases hw1:n.w<0
 ·rw[if_pos hw1]at hrun;exact stay 5 (by unfold zcP;rw[if_neg hop,if_pos (.inl hw1)]) (by decide) hrun
 rw[if_neg hw1]at hrun;by_cases hw2:n.w>64
 ·rw[if_pos hw2]at hrun;exact stay 5 (by unfold zcP;rw[if_neg hop,if_pos (.inr hw2)]) (by decide) hrun
 rw[if_neg hw2]at hrun;have hww:¬(n.w<0∨n.w>64):=by omega
 simp only[n2,n3,n4,zaf (c30 h.st),zbt,za9,zac,s_br,s_iteB,zal,zaA,qg0]at hrun
 have hpp:(bif decide (decide (zaj n.op≥1)=true) then
   (bif decide ((!isT L n.a)=true) then true else
    (bif decide (decide (zaj n.op≥2)=true) then
     (bif decide ((!isT L n.b)=true) then true else (bif decide (decide (zaj n.op≥3)=true) then !isT L n.c else false))
    else (bif decide (decide (zaj n.op≥3)=true) then !isT L n.c else false)))
   else (bif decide (decide (zaj n.op≥2)=true) then
     (bif decide ((!isT L n.b)=true) then true else (bif decide (decide (zaj n.op≥3)=true) then !isT L n.c else false))
    else (bif decide (decide (zaj n.op≥3)=true) then !isT L n.c else false)))=zbz L n:=by
  unfold zbz;simp only[Bool.decide_eq_true];cases decide (zaj n.op≥1)<;>cases decide (zaj n.op≥2)<;>cases decide (zaj n.op≥3)<;>cases isT L n.a<;>cases isT L n.b<;>cases isT L n.c<;>rfl
 rw[hpp]at hrun;by_cases hpa:zbz L n=true
 ·rw[if_pos hpa]at hrun;exact stay 70 (by unfold zcP;rw[if_neg hop,if_neg hww,if_pos hpa]) (by decide) hrun
 rw[if_neg hpa]at hrun;have pa:zaj n.op≥1→isT L n.a=true:=fun q=>by
  cases e:isT L n.a with
  |true=>rfl
  |false=>exact absurd (by unfold zbz;simp[q,e]) hpa
 have pb:zaj n.op≥2→isT L n.b=true:=fun q=>by
  cases e:isT L n.b with
  |true=>rfl
  |false=>exact absurd (by unfold zbz;simp[q,e]) hpa
 have pc:zaj n.op≥3→isT L n.c=true:=fun q=>by
  cases e:isT L n.c with
  |true=>rfl
  |false=>exact absurd (by unfold zbz;simp[q,e]) hpa
 have hn:n.Ok:=⟨by omega,by omega,by omega,by omega,hnum.1,hnum.2⟩
 rw[n07,zaf (c47 n _ H),zac]at hrun;by_cases hsp:zez (zaj n.op) n=true
 ·rw[if_pos hsp]at hrun;exact stay 1 (by unfold zcP;rw[if_neg hop,if_neg hww,if_neg hpa,if_pos hsp]) (by decide) hrun
 rw[if_neg hsp]at hrun;rw[n07,zaf (c48 h.st hL n hn.o1 hn.o2 pa pb pc),za9,zac]at hrun;cases hso:zbP n.op (wT L (-1) n.a) (wT L (-1) n.b) (wT L (-1) n.c) with
 |false=>
  rw[hso]at hrun;simp only[Bool.not_false,if_true]at hrun;exact stay 71 (by unfold zcP;rw[if_neg hop,if_neg hww,if_neg hpa,if_neg hsp,if_pos hso]) (by decide) hrun
 |true=>
 rw[hso]at hrun;simp only[Bool.not_true,Bool.false_eq_true,if_false]at hrun;rw[n07,zaf (c49 h.st hL n hn pa pb ha hbd),za9,zac]at hrun;cases hwi:zbV n (wT L (-1) n.a) (wT L (-1) n.b) with
 |false=>
  rw[hwi]at hrun;simp only[Bool.not_false,if_true]at hrun;exact stay 5 (by unfold zcP;rw[if_neg hop,if_neg hww,if_neg hpa,if_neg hsp,hso,if_neg (by decide),if_pos hwi]) (by decide) hrun
 |true=>
 rw[hwi]at hrun;simp only[Bool.not_true,Bool.false_eq_true,if_false]at hrun;have hl9:=look9 h.gm n.name;have hl36:=look36 h.fm n;have hnm:n.op=4→zbG K n=true→RR AJ [.pointer (some ⟨p,0,none⟩),n.val] H=some (.tuple #[.int .i64 0,.int .i64 72],H):=by
  intro h4 hbad;refine hrun.trans ?_;simp only[h4,zaF,decide_true,zac,s_br,if_true,zbA,zaJ,Nat.zero_add,h.st.l3,n6,n1,zgV hl9];unfold zbG at hbad;cases hq:zbs n.name 0 K with
  |none=>
   rw[hq]at hbad;simp only[x01,zaf (c50 n.name H),za9,zac,s_br];cases hno:zcz n.name with
   |true=>rw[hno]at hbad;cases hbad
   |false=>simp[zal,zbZ,zcp]
  |some q=>
   rw[hq]at hbad;simp only[x01,zaf (c50 n.name H),za9,zac,s_br,za5];cases hno:zcz n.name with
   |true=>
    rw[hno]at hbad;have hne:q.2≠n.w:=by simpa using hbad
    simp[hne,zal,zbZ,zcp]
   |false=>simp[zal,zbZ,zcp]
 by_cases hbad:n.op=4∧zbG K n=true
 ·exact stay 72 (by unfold zcP;rw[if_neg hop,if_neg hww,if_neg hpa,if_neg hsp,hso,if_neg (by decide),hwi,if_neg (by decide),if_pos hbad]) (by decide) (hnm hbad.1 hbad.2)
 have herr:zcP L K n=0:=by unfold zcP;rw[if_neg hop,if_neg hww,if_neg hpa,if_neg hsp,hso,if_neg (by decide),hwi,if_neg (by decide),if_neg hbad]
 have hmk:mkR lim L K n=okR lim L K n:=by unfold mkR;rw[herr];rfl
 rw[hmk];have hgood:n.op=4→zbG K n=false:=fun h4=>by
  cases e:zbG K n with
  |true=>exact absurd ⟨h4,e⟩ hbad
  |false=>rfl
 obtain⟨H',sl',hr,hm⟩:=rest_ok h n (fun h4 j u hq=>by
  have hb:=hgood h4;unfold zbG at hb;rw[hq]at hb;simp at hb
  exact hb.2) hb
 refine⟨H',sl',hrun.trans ?_,hm⟩;rw[←hr];unfold zqM;by_cases h4:n.op=4
 ·have hb:=hgood h4;unfold zbG at hb;cases hq:zbs n.name 0 K with
  |none=>
   rw[hq]at hb hl9;have hno:zcz n.name=true:=by simpa using hb
   simp only[h4,zaF,decide_true,zac,s_br,if_true,zbA,zaJ,Nat.zero_add,h.st.l3,n0,n6,n1,zgV hl9,x01,zaf (c50 n.name H),za9,hno,Bool.not_true,Bool.false_eq_true,if_false,zal,zaA]
  |some q=>
   rw[hq]at hb hl9;have hno:zcz n.name=true∧q.2=n.w:=by simpa using hb
   simp only[h4,zaF,decide_true,zac,s_br,if_true,zbA,zaJ,Nat.zero_add,h.st.l3,n0,n6,n1,zgV hl9,x01,zaf (c50 n.name H),za9,za5,hno.1,hno.2,Bool.not_true,Bool.false_eq_true,if_false,zal,zaA,ne_eq,not_true_eq_false,decide_false]
 ·simp only[n0,n1,n6,zbA,zaJ,Nat.zero_add,h4,zaF,decide_false,zac,s_br,Bool.false_eq_true,if_false,zal,zaA]
theorem zeB{α:Type}(a b c:Int)(k:Value→Option α):zaS PP AZ [(0,.int .i64 a),(1,.int .i64 b),(2,.int .i64 c)] k=k (.agg #[.int .i64 a,.int .i64 b,.int .i64 c]):=by
 have:zg3 PP AZ [(0,.int .i64 a),(1,.int .i64 b),(2,.int .i64 c)]=some (.agg #[.int .i64 a,.int .i64 b,.int .i64 c]):=by kernel_rfl
 unfold zaS;rw[this]
theorem s_arr0{α:Type}(a b c:Value)(k:Value→Option α):zeh 3 false 1 (.agg #[a,b,c]) (.int .i64 0) k=k a:=rfl
theorem s_arr1{α:Type}(a b c:Value)(k:Value→Option α):zeh 3 false 1 (.agg #[a,b,c]) (.int .i64 1) k=k b:=rfl
theorem s_arr2{α:Type}(a b c:Value)(k:Value→Option α):zeh 3 false 1 (.agg #[a,b,c]) (.int .i64 2) k=k c:=rfl
theorem loop3{H:Hp}{p f g:Nat}{lim:Int}{L:List Nd}{sl:Value}(hs:StR H p lim L sl f g)(n:Nd)(S:List Value→Hp→Option Outc)
  (hS:S=fun (l25:List Value) (H26:Hp)=>
 pBin PP .lss Aa (l25.getD 0 undef) (.int .i64 3) fun v27=>
 zaa v27 fun b28=>br b28
 (zeh 3 false 1 (.agg #[.int .i64 n.a,.int .i64 n.b,.int .i64 n.c]) (l25.getD 0 undef) fun v29=>
 zad RR Ay [.int .i64 n.op] H26 fun r31 H32=>
 pBin PP .lss Aa (l25.getD 0 undef) r31 fun v33=>
 zaa v33 fun b34=>br b34
 (zad RR AO [.pointer (some ⟨p,0,none⟩),v29] H32 fun r35 H36=>
 pUn .not r35 fun v37=>
 zaa v37 fun b38=>br b38
 (some (.ret,[(.tuple #[(.int .i64 0),(.int .i64 70)])],H36))
 (pBin PP .add Aa (l25.getD 0 undef) (.int .i64 1) fun v39=>
 some (.next,[v39],H36)))
 (pBin PP .add Aa (l25.getD 0 undef) (.int .i64 1) fun v40=>
 some (.next,[v40],H32)))
 (some (.exit 0,[(l25.getD 0 undef)],H26))) :
  zas S [.int .i64 0] H=if zbz L n=true then some (.ret,[.tuple #[.int .i64 0,.int .i64 70]],H) else some (.exit 0,[.int .i64 3],H):=by
 have w1:IntKind.i64.wrap (0+1)=1:=by decide
 have w2:IntKind.i64.wrap (1+1)=2:=by decide
 have w3:IntKind.i64.wrap (2+1)=3:=by decide
 have e0:zas S [.int .i64 0] H=if (decide (zaj n.op≥1)&&!isT L n.a)=true then some (.ret,[.tuple #[.int .i64 0,.int .i64 70]],H) else zas S [.int .i64 1] H:=by
  rw[zai];have:S [.int .i64 0] H=if (decide (zaj n.op≥1)&&!isT L n.a)=true then some (.ret,[.tuple #[.int .i64 0,.int .i64 70]],H) else some (.next,[.int .i64 1],H):=by
   rw[hS];simp only[zaV,zac,s_br,qg0,s_arr0,zaf (c29 _ _),zaf (c19 hs),za9,zaN,w1,decide_eq_true_eq];by_cases q:0<zaj n.op
   ·have q2:zaj n.op≥1:=by omega
    cases isT L n.a<;>simp[q,q2]
   ·have q2:¬zaj n.op≥1:=by omega
    simp[q,q2]
  rw[this];split<;>rfl
 have e1:zas S [.int .i64 1] H=if (decide (zaj n.op≥2)&&!isT L n.b)=true then some (.ret,[.tuple #[.int .i64 0,.int .i64 70]],H) else zas S [.int .i64 2] H:=by
  rw[zai];have:S [.int .i64 1] H=if (decide (zaj n.op≥2)&&!isT L n.b)=true then some (.ret,[.tuple #[.int .i64 0,.int .i64 70]],H) else some (.next,[.int .i64 2],H):=by
   rw[hS];simp only[zaV,zac,s_br,qg0,s_arr1,zaf (c29 _ _),zaf (c19 hs),za9,zaN,w2,decide_eq_true_eq];by_cases q:1<zaj n.op
   ·have q2:zaj n.op≥2:=by omega
    cases isT L n.b<;>simp[q,q2]
   ·have q2:¬zaj n.op≥2:=by omega
    simp[q,q2]
  rw[this];split<;>rfl
 have e2:zas S [.int .i64 2] H=if (decide (zaj n.op≥3)&&!isT L n.c)=true then some (.ret,[.tuple #[.int .i64 0,.int .i64 70]],H) else zas S [.int .i64 3] H:=by
  rw[zai];have:S [.int .i64 2] H=if (decide (zaj n.op≥3)&&!isT L n.c)=true then some (.ret,[.tuple #[.int .i64 0,.int .i64 70]],H) else some (.next,[.int .i64 3],H):=by
   rw[hS];simp only[zaV,zac,s_br,qg0,s_arr2,zaf (c29 _ _),zaf (c19 hs),za9,zaN,w3,decide_eq_true_eq];by_cases q:2<zaj n.op
   ·have q2:zaj n.op≥3:=by omega
    cases isT L n.c<;>simp[q,q2]
   ·have q2:¬zaj n.op≥3:=by omega
    simp[q,q2]
  rw[this];split<;>rfl
 have e3:zas S [.int .i64 3] H=some (.exit 0,[.int .i64 3],H):=by
  rw[zai];have:S [.int .i64 3] H=some (.exit 0,[.int .i64 3],H):=by rw[hS];simp[zaV,zac,s_br]
  rw[this];rfl
 rw[e0,e1,e2,e3];unfold zbz;cases decide (zaj n.op≥1)&&!isT L n.a<;>cases decide (zaj n.op≥2)&&!isT L n.b<;>cases decide (zaj n.op≥3)&&!isT L n.c<;>rfl
theorem c22{H:Hp}{p f g:Nat}{lim:Int}{L:List Nd}{K:List (ByteArray×Int)}{sl:Value}(h:StF H p lim L K sl f g)(n:Nd)(hnum:0≤n.num∧n.num<18446744073709551616)
  (hW:∀m∈L,0≤m.w∧m.w≤64) (hb:(L.length+1)*64≤2^47) :
  ∃H' sl',RR AL [.pointer (some ⟨p,0,none⟩),n.val] H=some (.tuple #[.int .i64 (mkR lim L K n).1,.int .i64 (mkR lim L K n).2.1],H')∧MkOk H p lim sl f g (mkR lim L K n) H' sl':=by
 have hL:(L.length:Int)≤4611686018427387904:=by omega
 have ha:=zm1 hW n.a;have hbd:=zm1 hW n.b;have stay:∀e:Int,zcP L K n=e→e≠0→RR AL [.pointer (some ⟨p,0,none⟩),n.val] H=some (.tuple #[.int .i64 0,.int .i64 e],H) →
   ∃H' sl',RR AL [.pointer (some ⟨p,0,none⟩),n.val] H=some (.tuple #[.int .i64 (mkR lim L K n).1,.int .i64 (mkR lim L K n).2.1],H')∧MkOk H p lim sl f g (mkR lim L K n) H' sl':=fun e he h0 hr=>by
  have hm:mkR lim L K n=(0,e,L,K):=by unfold mkR;rw[he,if_pos h0]
  rw[hm];exact⟨H,sl,hr,MkOk.stay h rfl⟩
 have hrun:=ziF E0 rfl (.pointer (some ⟨p,0,none⟩)) n.val H;unfold zfn at hrun;simp only[n0,n1,n2,n3,n4,zaV,zbp,zac,s_br,zal,zcd,zaA,zbZ,zcp,decide_eq_true_eq,zeB]at hrun;by_cases hop1:n.op<1
 ·rw[if_pos hop1]at hrun;exact stay 73 (by unfold zcP;rw[if_pos (.inl hop1)]) (by decide) hrun
 rw[if_neg hop1]at hrun;by_cases hop2:n.op>33
 ·rw[if_pos hop2]at hrun;exact stay 73 (by unfold zcP;rw[if_pos (.inr hop2)]) (by decide) hrun
 rw[if_neg hop2]at hrun;have hop:¬(n.op<1∨n.op>33):=by omega
 by_cases hw1:n.w<0
 ·rw[if_pos hw1]at hrun;exact stay 5 (by unfold zcP;rw[if_neg hop,if_pos (.inl hw1)]) (by decide) hrun
 rw[if_neg hw1]at hrun;by_cases hw2:n.w>64
 ·rw[if_pos hw2]at hrun;exact stay 5 (by unfold zcP;rw[if_neg hop,if_pos (.inr hw2)]) (by decide) hrun
 rw[if_neg hw2]at hrun;have hww:¬(n.w<0∨n.w>64):=by omega
 have hloop:=loop3 h.st n _ rfl;simp only[zaV,zac,s_br,za9,zaN,decide_eq_true_eq]at hloop;simp only[zaV,zac,s_br,za9,zaN,decide_eq_true_eq,hloop]at hrun;by_cases hpa:zbz L n=true
 ·rw[if_pos hpa]at hrun;exact stay 70 (by unfold zcP;rw[if_neg hop,if_neg hww,if_pos hpa]) (by decide) hrun
 rw[if_neg hpa]at hrun;simp only[zal,za0,zaz]at hrun;have pa:zaj n.op≥1→isT L n.a=true:=fun q=>by
  cases e:isT L n.a with
  |true=>rfl
  |false=>exact absurd (by unfold zbz;simp[q,e]) hpa
 have hn:n.Ok:=⟨by omega,by omega,by omega,by omega,hnum.1,hnum.2⟩
 rw[n07,zaf (c41 n H),zac]at hrun;by_cases hsp:zez (zaj n.op) n=true
 ·rw[if_pos hsp]at hrun;exact stay 1 (by unfold zcP;rw[if_neg hop,if_neg hww,if_neg hpa,if_pos hsp]) (by decide) hrun
 rw[if_neg hsp]at hrun;rw[n07,zaf (c42 h.st hL n),za9,zac]at hrun;cases hso:zbP n.op (wT L (-1) n.a) (wT L (-1) n.b) (wT L (-1) n.c) with
 |false=>
  rw[hso]at hrun;simp only[Bool.not_false,if_true]at hrun;exact stay 71 (by unfold zcP;rw[if_neg hop,if_neg hww,if_neg hpa,if_neg hsp,if_pos hso]) (by decide) hrun
 |true=>
 have hsort:n.op≥15→wT L (-1) n.a>0:=fun q=>by
  have q0:zaj n.op≠0:=by unfold zaj;(repeat' split)<;>omega
  have:=hso;unfold zbP at this;rw[if_neg q0,if_neg (by omega),if_neg (by omega),if_neg (by omega),if_neg (by omega)]at this;split at this
  ·simp at this;omega
  ·split at this
   ·simpa using this
   ·simp at this;omega
 rw[hso]at hrun;simp only[Bool.not_true,Bool.false_eq_true,if_false]at hrun;rw[n07,zaf (c43 h.st hL n hn ha hbd hsort),za9,zac]at hrun;cases hwi:zbV n (wT L (-1) n.a) (wT L (-1) n.b) with
 |false=>
  rw[hwi]at hrun;simp only[Bool.not_false,if_true]at hrun;exact stay 5 (by unfold zcP;rw[if_neg hop,if_neg hww,if_neg hpa,if_neg hsp,hso,if_neg (by decide),if_pos hwi]) (by decide) hrun
 |true=>
 rw[hwi]at hrun;simp only[Bool.not_true,Bool.false_eq_true,if_false]at hrun;have hl9:=look9 h.gm n.name;have hnm:n.op=4→zbG K n=true→RR AL [.pointer (some ⟨p,0,none⟩),n.val] H=some (.tuple #[.int .i64 0,.int .i64 72],H):=by
  intro h4 hbad;refine hrun.trans ?_;simp only[h4,zaF,decide_true,zac,s_br,if_true,zbA,zaJ,Nat.zero_add,h.st.l3,n6,n1,zgV hl9];unfold zbG at hbad;cases hq:zbs n.name 0 K with
  |none=>
   rw[hq]at hbad;simp only[x01,zaf (c44 n.name H),za9,zac,s_br];cases hno:zcz n.name with
   |true=>rw[hno]at hbad;cases hbad
   |false=>simp[zal,zbZ,zcp]
  |some q=>
   rw[hq]at hbad;simp only[x01,zaf (c44 n.name H),za9,zac,s_br,za5];cases hno:zcz n.name with
   |true=>
    rw[hno]at hbad;have hne:q.2≠n.w:=by simpa using hbad
    simp[hne,zal,zbZ,zcp]
   |false=>simp[zal,zbZ,zcp]
 by_cases hbad:n.op=4∧zbG K n=true
 ·exact stay 72 (by unfold zcP;rw[if_neg hop,if_neg hww,if_neg hpa,if_neg hsp,hso,if_neg (by decide),hwi,if_neg (by decide),if_pos hbad]) (by decide) (hnm hbad.1 hbad.2)
 have herr:zcP L K n=0:=by unfold zcP;rw[if_neg hop,if_neg hww,if_neg hpa,if_neg hsp,hso,if_neg (by decide),hwi,if_neg (by decide),if_neg hbad]
 have hmk:mkR lim L K n=okR lim L K n:=by unfold mkR;rw[herr];rfl
 rw[hmk];have hgood:n.op=4→zbG K n=false:=fun h4=>by
  cases e:zbG K n with
  |true=>exact absurd ⟨h4,e⟩ hbad
  |false=>rfl
 obtain⟨H',sl',hr,hm⟩:=rest_ok h n (fun h4 j u hq=>by
  have hb:=hgood h4;unfold zbG at hb;rw[hq]at hb;simp at hb
  exact hb.2) hb
 refine⟨H',sl',hrun.trans ?_,hm⟩;rw[←hr];unfold zqM;by_cases h4:n.op=4
 ·have hb:=hgood h4;unfold zbG at hb;cases hq:zbs n.name 0 K with
  |none=>
   rw[hq]at hb hl9;have hno:zcz n.name=true:=by simpa using hb
   simp only[h4,zaF,decide_true,zac,s_br,if_true,zbA,zaJ,Nat.zero_add,h.st.l3,n0,n6,n1,zgV hl9,x01,zaf (c44 n.name H),za9,hno,Bool.not_true,Bool.false_eq_true,if_false,zal,zaA]
  |some q=>
   rw[hq]at hb hl9;have hno:zcz n.name=true∧q.2=n.w:=by simpa using hb
   simp only[h4,zaF,decide_true,zac,s_br,if_true,zbA,zaJ,Nat.zero_add,h.st.l3,n0,n6,n1,zgV hl9,x01,zaf (c44 n.name H),za9,za5,hno.1,hno.2,Bool.not_true,Bool.false_eq_true,if_false,zal,zaA,ne_eq,not_true_eq_false,decide_false]
 ·simp only[n0,n1,n6,zbA,zaJ,Nat.zero_add,h4,zaF,decide_false,zac,s_br,Bool.false_eq_true,if_false,zal,zaA]
def dig(d:Nat):UInt8:=UInt8.ofNat (if d<10 then 48+d else 87+d)
def dgt(b x:Nat):List UInt8:=if h:x<b∨b<2 then [dig x] else dgt b (x/b)++[dig (x%b)]
termination_by x
decreasing_by exact Nat.div_lt_self (by omega) (by omega)
abbrev ba(l:List UInt8):ByteArray:=⟨l.toArray⟩
theorem zco(l:List UInt8):(ba l).size=l.length:=by simp[ba,ByteArray.size]
theorem ze8(l:List UInt8):(ba l).data.toList=l:=by simp[ba]
theorem zlX{s:ByteArray}{l:List UInt8}(h:s.data.toList=l):s=ba l:=by cases s;subst h;simp[ba]
section
variable {α:Type}{P:Program}
theorem s_cut(s:ByteArray)(k1 k2:IntKind)(i j:Nat)(h:i≤j)(hj:j≤s.size)(k:Value→Option α):zbo (.string s) (some (.int k1 (i:Int))) (some (.int k2 (j:Int))) k=k (.string (s.extract i j)):=by
 have:zhH (.string s) (some (.int k1 (i:Int))) (some (.int k2 (j:Int)))=some (.string (s.extract i j)):=by unfold zhH;dsimp only[zdr];rw[if_pos ⟨by omega,by omega,by omega⟩];simp
 unfold zbo;rw[this]
theorem f_at(s:ByteArray)(kd:IntKind)(i:Nat)(b:UInt8)(h:s.data.toList[i]?=some b)(k:Value→Option α):zbn (.string s) (.int kd (i:Int)) k=k (.int .u8 (b.toNat:Int)):=q_at s i b h k
end
def numT(x:Nat):List UInt8:=if x<1000 then dgt 10 x else [48,120]++dgt 16 x
end Go.AM
namespace Go.AM
open List Go
theorem run_at{P:Program}{O:Orc}{ext:FuncId→Option (List Value→Hp→Option (Value×Hp))}{g:FuncId}{fn:Func}{e:List Value→Option Value}(hf:P.funcs[g]?=some fn)(hn:(fn.name == "runtime.NumGoroutine")=false)(hb:fn.body.isNone=true)(hx:O.xt g=some e){xs:List Value}{v:Value}(hv:e xs=some v)(H:Hp) :
  run P O ext g xs H=some (v,H):=by
 have hb:fn.body=none:=by
  cases q:fn.body with
  |none=>rfl
  |some c=>rw[q]at hb;cases hb
 rw[run_eq];unfold zjp;rw[hf];dsimp only;rw[hn];dsimp only;rw[hb];dsimp only;rw[hx];dsimp only;rw[hv]
abbrev nlB:ByteArray:=⟨#[10]⟩
theorem zp5{α:Type}(H:Hp)(k:Value→Option α):pLen .str (.string nlB) H k=k (.int .i64 1):=rfl
theorem nl_at{α:Type}(k:Value→Option α):zbn (.string nlB) (.int .i64 0) k=k (.int .u8 10):=f_at nlB .i64 0 10 rfl k
theorem zpG{α:Type}(T:TypeId)(a b:ByteArray)(k:Value→Option α):pBin PP .eql T (.string a) (.string b) k=k (.bool (a.data.toList==b.data.toList)):=by
 have:zqG .eql a b=some (.bool (a.data.toList==b.data.toList)):=by unfold zqG;simp only[Go.Lib.toList_data]
 unfold pBin binV;dsimp only;rw[this]
theorem c_cntS(s:ByteArray)(H:Hp):RR BO [.string s,.string nlB] H=some (.int .i64 (Go.Lib.countByte s.data.toList 10:Nat),H):=by
 have h:RR Bg [.string s,.int .u8 10] H=some (.int .i64 (Go.Lib.countByte s.data.toList 10:Nat),H):=
  run_at (e:=zlZ) Go.Proofs.Tryz.func157 (by kernel_rfl) (by kernel_rfl) (by kernel_rfl) rfl H
 refine(zj2 E0 rfl _ _ H).trans ?_;unfold zf7;simp only[zp5,zaF,zac,s_br,nl_at,zaf h,show (1:Int)≠0 by decide,decide_false,decide_true,if_false,if_true,Bool.false_eq_true]
theorem c_ixS(s:ByteArray)(H:Hp):RR Bk [.string s,.string nlB] H=some (.int .i64 (Go.Lib.indexByte s.data.toList 10),H):=by
 have h:RR Bh [.string s,.int .u8 10] H=some (.int .i64 (Go.Lib.indexByte s.data.toList 10),H):=
  run_at (e:=zlR) Go.Proofs.Tryz.func184 (by kernel_rfl) (by kernel_rfl) (by kernel_rfl) rfl H
 have h2:RR BM [.string s,.int .u8 10] H=some (.int .i64 (Go.Lib.indexByte s.data.toList 10),H):=by refine(zc8 E0 rfl _ _ H).trans ?_;unfold zb6;rw[zaf h]
 have h3:RR Cj [.string s,.string nlB] H=some (.int .i64 (Go.Lib.indexByte s.data.toList 10),H):=by
  refine(zd5 E0 rfl _ _ H).trans ?_;unfold zcr;cases e:(nlB.data.toList==s.data.toList) with
  |true=>
   have e1:s.data.toList=[10]:=(eq_of_beq e).symm;simp only[zp5,zaF,zac,s_br,nl_at,zpG,e,zal,zaA,zbZ,show (1:Int)≠0 by decide,decide_false,decide_true,if_false,if_true,Bool.false_eq_true,qg0,headD_cons];rw[e1];rfl
  |false=>simp only[zp5,zaF,zac,s_br,nl_at,zpG,zal,zaA,zbZ,e,zaf h2,show (1:Int)≠0 by decide,decide_false,decide_true,if_false,if_true,Bool.false_eq_true,qg0,headD_cons]
 refine(zj1 E0 rfl _ _ H).trans ?_;unfold zf6;rw[zaf h3]
def cutB(c:UInt8):List UInt8→List (List UInt8)
 |[]=>[[]]
 |b::r=>match b==c with
  |true=>[]::cutB c r
  |false=>match cutB c r with
   |h::t=>(b::h)::t
   |[]=>[[b]]
theorem zqt{c b:UInt8}(h:(b==c)=true)(r:List UInt8):cutB c (b::r)=[]::cutB c r:=by
 conv=>lhs;unfold cutB
 rw[h]
theorem zoa{c b:UInt8}(h:(b==c)=false){r x:List UInt8}{t:List (List UInt8)}(e:cutB c r=x::t):cutB c (b::r)=(b::x)::t:=by
 conv=>lhs;unfold cutB
 rw[h,e]
theorem zgw(c:UInt8):∀l,(cutB c l).length=l.count c+1
 |[]=>rfl
 |b::r=>by
  have ih:=zgw c r;unfold cutB;rw[count_cons];cases h:b==c with
  |true=>dsimp only;rw[length_cons,ih];simp
  |false=>
   dsimp only;split
   ·rename_i h1 t e;rw[e]at ih;simpa using ih
   ·rename_i e;rw[e]at ih;cases ih
theorem zio(c:UInt8):∀l,l.count c=0→cutB c l=[l]
 |[],_=>rfl
 |b::r,h=>by
  rw[count_cons]at h;have h1:(b==c)=false:=by
   cases q:b==c with
   |false=>rfl
   |true=>rw[q]at h;simp at h
  rw[h1]at h;unfold cutB;rw[h1];dsimp only;rw[zio c r (by simpa using h)]
theorem zn8(c:UInt8):∀l,l.count c≠0→∃m:Nat,Go.Lib.indexByte l c=m∧m<l.length∧cutB c l=l.take m::cutB c (l.drop (m+1))∧(l.drop (m+1)).count c+1=l.count c
 |[],h=>by simp at h
 |b::r,h=>by
  rw[count_cons]at h;cases q:b==c with
  |true=>
   refine⟨0,?_,by simp,?_,?_⟩
   ·unfold Go.Lib.indexByte;rw[q];rfl
   ·rw[zqt q];rfl
   ·rw[count_cons,q];simp
  |false=>
   rw[q]at h;obtain⟨m,h1,h2,h3,h4⟩:=zn8 c r (by simpa using h);refine⟨m+1,?_,by simp;omega,?_,?_⟩
   ·unfold Go.Lib.indexByte;rw[q,h1];have:((m:Int)==-1)=false:=by rw[beq_eq_false_iff_ne];omega
    simp[this]
   ·rw[zoa q h3];rfl
   ·rw[count_cons,q];simpa using h4
def str(l:List UInt8):Value:=.string (ba l)
theorem ba_take(l:List UInt8)(m:Nat):(ba l).extract 0 m=ba (l.take m):=zlX (by simp[ByteArray.data_extract])
theorem ba_drop(l:List UInt8)(m:Nat):(ba l).extract m l.length=ba (l.drop m):=zlX (by
 simp only[ByteArray.data_extract,Array.toList_extract,extract_eq_take_drop]
 exact take_of_length_le (by simp))
theorem s_upto{α:Type}(l:List UInt8)(kd:IntKind){m:Nat}(hm:m≤l.length)(k:Value→Option α):zbo (str l) none (some (.int kd (m:Int))) k=k (str (l.take m)):=by
 have:zhH (str l) none (some (.int kd (m:Int)))=some (.string ((ba l).extract 0 m)):=by unfold zhH str;dsimp only[zdr];rw[zco,if_pos ⟨by omega,by omega,by omega⟩];simp
 unfold zbo;rw[this,ba_take];rfl
theorem s_from{α:Type}(l:List UInt8)(kd:IntKind){m:Nat}(hm:m≤l.length)(k:Value→Option α):zbo (str l) (some (.int kd (m:Int))) none k=k (str (l.drop m)):=by
 have:zhH (str l) (some (.int kd (m:Int))) none=some (.string ((ba l).extract m l.length)):=by unfold zhH str;dsimp only[zdr];rw[zco,if_pos ⟨by omega,by omega,by omega⟩];simp
 unfold zbo;rw[this,ba_drop];rfl
theorem c_ixL(l:List UInt8)(H:Hp):RR Bk [str l,.string nlB] H=some (.int .i64 (Go.Lib.indexByte l 10),H):=by have:=c_ixS (ba l) H;rw[ze8]at this;exact this
theorem w64{a:Int}(h1:-9223372036854775808≤a)(h2:a≤9223372036854775807):IntKind.i64.wrap a=a:=zdc (k:=.i64) h1 h2
theorem zmc(A:List Value)(e x:Value){i n:Nat}(hi:A.length=i)(k:Nat):spl (A++repl (k+1) [e]) (i*1) [x]=A++[x]++repl k [e]:=by subst hi;have h:repl (k+1) [e]=e::repl k [e]:=rfl;unfold spl;rw[h,Nat.mul_one];simp
theorem zll(v:Value)(n:Nat)(hn:n≤2^41):∀(c i:Nat) (done:List (List UInt8)) (rest:List UInt8) (H:Hp),rest.count 10=c→Vec H 1 v n (done.map str++repl (c+1) [str []])→done.length=i→i+c+1=n→rest.length≤2^40 →
  ∃H' front last,zas (zbu RR (.string nlB) (.int .i64 0) v (.int .i64 ((n:Int)-1))) [str rest,.int .i64 (i:Int)] H=some (.exit 0,[str last,.int .i64 ((n:Int)-1)],H') ∧
   cutB 10 rest=front++[last]∧Vec H' 1 v n ((done++front).map str++repl 1 [str []])∧Frm (Id v) H H'
 |0,i,done,rest,H,hc,hv,hd,hi,hl=>by
  refine⟨H,[],rest,?_,by rw[zio _ _ hc];rfl,by rw[append_nil];exact hv,Frm.refl _ _⟩;have:zbu RR (.string nlB) (.int .i64 0) v (.int .i64 ((n:Int)-1)) [str rest,.int .i64 (i:Int)] H=some (.exit 0,[str rest,.int .i64 (i:Int)],H):=by
   unfold zbu;have h1:¬((i:Int)<(n:Int)-1):=by omega
   simp only[qg1,qg0,zaV,zac,s_br,h1,decide_false,Bool.false_eq_true,if_false]
  rw[zai,this];have e:((n:Int)-1)=(i:Int):=by omega
  rw[e];rfl
 |c+1,i,done,rest,H,hc,hv,hd,hi,hl=>by
  obtain⟨m,h1,h2,h3,h4⟩:=zn8 10 rest (by omega);obtain⟨y,hy,_,hix⟩:=hv.ix (i:=i) (by omega);have hsz:=hv.size;obtain⟨H1,hst,hv1,hf1,hnx⟩:=hv.set hy (o:=i*1) (m:=1) (x:=str (rest.take m)) rfl (by rw[hsz];omega) rfl;have hspl:=zmc (done.map str) (str []) (str (rest.take m)) (i:=i) (n:=n) (by simpa using hd) (c+1);have hcl:zab (str (rest.take m))=[str (rest.take m)]:=rfl;rw[hcl,hspl]at hv1;have hv2:Vec H1 1 v n ((done++[rest.take m]).map str++repl (c+1) [str []]):=by simpa using hv1
  obtain⟨H',front,last,g1,g2,g3,g4⟩:=zll v n hn c (i+1) (done++[rest.take m]) (rest.drop (m+1)) H1 (by omega) hv2 (by simp[hd]) (by omega) (by simp;omega);refine⟨H',rest.take m::front,last,?_,by rw[h3,g2];rfl,by simpa using g3,hf1.trans g4 (fun j hj=>.inl hj)⟩;have:zbu RR (.string nlB) (.int .i64 0) v (.int .i64 ((n:Int)-1)) [str rest,.int .i64 (i:Int)] H=some (.next,[str (rest.drop (m+1)),.int .i64 ((i+1:Nat):Int)],H1):=by
   unfold zbu;have q1:((i:Int)<(n:Int)-1):=by omega
   have q2:¬((m:Int)<0):=by omega
   simp only[qg1,qg0,zaV,zac,s_br,q1,decide_true,if_true,zaf (c_ixL rest H),h1,q2,decide_false,Bool.false_eq_true,if_false,zaN];rw[Int.add_zero,w64 (by omega) (by omega),s_upto rest _ (by omega),hix,hst,zp5,zaN];have e1:(m:Int)+1=((m+1:Nat):Int):=by omega
   have e2:(i:Int)+1=((i+1:Nat):Int):=by omega
   rw[e1,e2,w64 (by omega) (by omega),w64 (by omega) (by omega),s_from rest _ (by omega)]
  rw[zai,this];exact g1
theorem c_split(l:List UInt8)(hl:l.length≤2^40)(H:Hp):∃v H',RR BQ [str l,.string nlB] H=some (v,H')∧Vec H' 1 v (cutB 10 l).length ((cutB 10 l).map str)∧Frm (fun _=>False) H H'∧∀j,Id v j→H.next≤j:=by
 have hlen:=zgw 10 l;have hcnt:l.count 10≤l.length:=count_le_length;generalize hnn:(cutB 10 l).length=n at *;obtain⟨v,hmk,hv,hid⟩:=Vec.make H (sz:=1) (bytes:=16) (zs:=[str []]) rfl (n:=n) (by omega);obtain⟨H1,front,last,g1,g2,g3,g4⟩:=zll v n (by omega) (l.count 10) 0 [] l (H.new (.cells (repl n [str []]) true)) rfl (by show Vec _ 1 v n (repl (l.count 10+1) [str []]);rw[←hlen];exact hv) rfl (by omega) hl;rw[show ((0:Nat):Int)=0 from rfl]at g1;have hfl:front.length+1=n:=by rw[←hnn,g2];simp
 obtain⟨y,hy,_,hix⟩:=g3.ix (i:=n-1) (by omega);have hsz:=g3.size;obtain⟨H2,hst,hv2,hf2,hnx⟩:=g3.set hy (o:=(n-1)*1) (m:=1) (x:=str last) rfl (by rw[hsz];omega) rfl;have hspl:=zmc (([]++front).map str) (str []) (str last) (i:=n-1) (n:=n) (by simp;omega) 0;have hcl:zab (str last)=[str last]:=rfl;rw[hcl,hspl]at hv2;have hv3:Vec H2 1 v n ((cutB 10 l).map str):=by rw[g2];simpa[repl] using hv2
 obtain⟨v',hcut,hv4,hid4⟩:=hv3.cut (by rw[all_map];exact all_eq_true.2 fun x _=>rfl) (m:=n) (Nat.le_refl _);have hv5:Vec H2 1 v' n ((cutB 10 l).map str):=by have e:((cutB 10 l).map str).take (n*1)=(cutB 10 l).map str:=take_of_length_le (by rw[length_map,hnn];omega);rw[e]at hv4;exact hv4
 have hgen:RR BR [str l,.string nlB,.int .i64 0,.int .i64 (-1)] H=some (v',H2):=by
  refine(zhQ E0 rfl _ _ _ _ H).trans ?_;rw[zih];have hc:RR BO [str l,.string nlB] H=some (.int .i64 (l.count 10:Nat),H):=by have:=c_cntS (ba l) H;rw[ze8]at this;exact this
  have q1:¬((-1:Int)=0):=by decide
  have q2:(nlB.data.toList==(⟨#[]⟩:ByteArray).data.toList)=false:=by decide
  have q3:((-1:Int)<0):=by decide
  have e1:((l.count 10:Nat):Int)+1=(n:Int):=by omega
  have e2:∀{α:Type} (k:Value→Option α),pLen .str (str l) H k=k (.int .i64 (l.length:Int)):=fun k=>by show k (.int .i64 ((ba l).size:Int))=_;rw[zco]
  have e3:∀(a b:Int) (k:Value→Option (Value×Hp)),pMM false [.int .i64 a,.int .i64 b] k=k (.int .i64 (if b<a then b else a)):=fun a b k=>rfl;have hmk':∀(α:Type) (k:Value→Hp→Option α),za6 1 16 [Value.string ⟨#[]⟩] (.int .i64 (n:Int)) (.int .i64 (n:Int)) H k=k v (H.new (.cells (repl n [str []]) true)):=hmk;have q4:¬(((l.length:Int)+1)<(n:Int)):=by omega
  simp only[zaF,zac,s_br,q1,zpG,q2,zaV,q3,decide_true,decide_false,if_true,if_false,Bool.false_eq_true,zaf hc,zaN,e1,zal,zaA];rw[w64 (by omega) (by omega)];simp only[qg0];rw[e2,zaN,w64 (by omega) (by omega),e3,if_neg q4,hmk',zbK,w64 (by omega) (by omega),g1,zal,za0,zaz];simp only[qg1,qg0];have e5:(n:Int)-1=((n-1:Nat):Int):=by omega
  rw[e5,hix,hst,zaN];have e6:((n-1:Nat):Int)+1=(n:Int):=by omega
  rw[e6,w64 (by omega) (by omega),hcut]
 refine⟨v',H2,?_,hv5,?_,fun j hj=>?_⟩
 ·refine(zj0 E0 rfl _ _ H).trans ?_;unfold zf5;rw[zaf hgen]
 ·refine(zcv H _ (fun _=>False)).trans (g4.trans hf2 fun j hj=>.inl hj) fun j hj=>.inr ?_;rw[hid j hj];exact Nat.le_refl _
 ·rw[hid j (hid4 j hj)];exact Nat.le_refl _
theorem zn7(n b0 b1 b2 b3:Nat)(hn:0<n):(b0<128∧Go.Lib.decodeN n b0 b1 b2 b3=(b0,1))∨(128≤b0∧Go.Lib.decodeN n b0 b1 b2 b3=(65533,1)) ∨
  (128≤b0∧1<n∧128≤b1∧(Go.Lib.decodeN n b0 b1 b2 b3).2=2∧128≤(Go.Lib.decodeN n b0 b1 b2 b3).1) ∨
  (128≤b0∧2<n∧128≤b1∧128≤b2∧(Go.Lib.decodeN n b0 b1 b2 b3).2=3∧128≤(Go.Lib.decodeN n b0 b1 b2 b3).1) ∨
  (128≤b0∧3<n∧128≤b1∧128≤b2∧128≤b3∧(Go.Lib.decodeN n b0 b1 b2 b3).2=4∧128≤(Go.Lib.decodeN n b0 b1 b2 b3).1):=by
 unfold Go.Lib.decodeN
 repeat' split
 all_goals first
  |(left;exact⟨by assumption,rfl⟩)
  |(right;left;exact⟨by omega,rfl⟩)
  |(right;right;left;exact⟨by omega,by omega,by omega,rfl,by dsimp only;omega⟩)
  |(right;right;right;left;exact⟨by omega,by omega,by omega,by omega,rfl,by dsimp only;omega⟩)
  |(right;right;right;right;exact⟨by omega,by omega,by omega,by omega,by omega,rfl,by dsimp only;omega⟩)
theorem ba_get (l : List UInt8) (j : Nat) : (ba l).get! j = l.getD j 0 := by
  show (ba l).data[j]! = _
  rw [getD_eq_getElem?_getD]
  by_cases h : j < l.length
  · simp [getElem!_pos, h]
  · rw [getElem!_neg _ _ (by simpa using h), List.getElem?_eq_none (by omega)]
    rfl
theorem dec_sp(l:List UInt8)(i:Nat)(hi:i<l.length):1≤(Utf8.decode (ba l) i).2∧i+(Utf8.decode (ba l) i).2≤l.length ∧
  (((Utf8.decode (ba l) i).1=32∧(Utf8.decode (ba l) i).2=1∧l.getD i 0=32)∨((Utf8.decode (ba l) i).1≠32∧∀j,i≤j→j<i+(Utf8.decode (ba l) i).2→l.getD j 0≠32)):=by
 have no:∀j,128≤(l.getD j 0).toNat→l.getD j 0≠32:=fun j h e=>by rw[e]at h;exact absurd h (by decide)
 rw[Go.Lib.decode_at,zco];simp only[ba_get];have hs:=zn7 (l.length-i) (l.getD i 0).toNat (l.getD (i+1) 0).toNat (l.getD (i+2) 0).toNat (l.getD (i+3) 0).toNat (by omega);generalize Go.Lib.decodeN (l.length-i) (l.getD i 0).toNat (l.getD (i+1) 0).toNat (l.getD (i+2) 0).toNat (l.getD (i+3) 0).toNat=q at hs ⊢;obtain⟨r,w⟩:=q;rcases hs with⟨h1,h2⟩|⟨h1,h2⟩|⟨h1,h2,h3,h4,h5⟩|⟨h1,h2,h3,h3',h4,h5⟩|⟨h1,h2,h3,h3',h3'',h4,h5⟩
 ·cases h2;refine⟨Nat.le_refl _,by show i+1≤_;omega,?_⟩;by_cases e:l.getD i 0=32
  ·left;rw[e];exact⟨rfl,rfl,rfl⟩
  ·right;refine⟨fun q=>e (UInt8.toNat_inj.1 q),fun j h3 h4=>?_⟩;have:j=i:=by have h4:j<i+1:=h4;omega
   rw[this];exact e
 ·cases h2;refine⟨Nat.le_refl _,by show i+1≤_;omega,.inr ⟨by decide,fun j h3 h4=>?_⟩⟩;have:j=i:=by have h4:j<i+1:=h4;omega
  rw[this];exact no i h1
 ·dsimp only at h4 h5 ⊢;subst h4;refine⟨by omega,by omega,.inr ⟨by omega,fun j h6 h7=>?_⟩⟩;have:j=i∨j=i+1:=by omega
  rcases this with rfl|rfl
  ·exact no _ h1
  ·exact no _ h3
 ·dsimp only at h4 h5 ⊢;subst h4;refine⟨by omega,by omega,.inr ⟨by omega,fun j h6 h7=>?_⟩⟩;have:j=i∨j=i+1∨j=i+2:=by omega
  rcases this with rfl|rfl|rfl
  ·exact no _ h1
  ·exact no _ h3
  ·exact no _ h3'
 ·dsimp only at h4 h5 ⊢;subst h4;refine⟨by omega,by omega,.inr ⟨by omega,fun j h6 h7=>?_⟩⟩;have:j=i∨j=i+1∨j=i+2∨j=i+3:=by omega
  rcases this with rfl|rfl|rfl|rfl
  ·exact no _ h1
  ·exact no _ h3
  ·exact no _ h3'
  ·exact no _ h3''
theorem c_space(r:Int)(H:Hp):RR AD [.int .i32 r] H=some (.bool (decide (r=32)),H):=by refine(zmm E0 rfl _ H).trans ?_;unfold zia;rw[zaF]
def spn:List UInt8→Nat→Option Nat→List (Nat×Nat)
 |[],_,none=>[]
 |[],i,some a=>[(a,i)]
 |b::r,i,st=>match b==32,st with
  |true,none=>spn r (i+1) none
  |true,some a=>(a,i)::spn r (i+1) none
  |false,st=>spn r (i+1) (some (st.getD i))
theorem zpz:∀(x r:List UInt8) (i:Nat) (st:Option Nat),(∀b∈x,b≠32)→x≠[]→spn (x++r) i st=spn r (i+x.length) (some (st.getD i))
 |[],_,_,_,_,h=>absurd rfl h
 |b::x,r,i,st,h,_=>by
  have hb:(b==32)=false:=by rw[beq_eq_false_iff_ne];exact h b (mem_cons_self ..)
  show spn (b::(x++r)) i st=_;have e:spn (b::(x++r)) i st=spn (x++r) (i+1) (some (st.getD i)):=by
   conv=>lhs;unfold spn
   rw[hb]
  rw[e];cases x with
  |nil=>rfl
  |cons c x=>
   rw[zpz (c::x) r (i+1) _ (fun b hb=>h b (mem_cons_of_mem _ hb)) (by simp)];simp only[length_cons,Option.getD_some];congr 1;omega
theorem zjt{b:UInt8}(hb:(b==32)=true)(r:List UInt8)(i:Nat):spn (b::r) i none=spn r (i+1) none:=by
 conv=>lhs;unfold spn
 rw[hb]
theorem zmb{b:UInt8}(hb:(b==32)=true)(r:List UInt8)(i a:Nat):spn (b::r) i (some a)=(a,i)::spn r (i+1) none:=by
 conv=>lhs;unfold spn
 rw[hb]
def stV:Option Nat→Int→Prop
 |none,v=>v<0
 |some a,v=>v=a
def zjM(p:Nat×Nat):List Value:=[.int .i64 (p.1:Int),.int .i64 (p.2:Int)]
def zdK(l:List UInt8)(i:Nat):Value:=.tuple #[.string (ba l),.int .i64 (i:Nat)]
theorem neg_xor(a:Nat)(ha:a<2^62):∃x:Int,x<0∧∀(α:Type) (k:Value→Option α),pUn .xor (.int .i64 (a:Int)) k=k (.int .i64 x):=by
 refine⟨IntKind.i64.wrap (BitVec.ofInt 64 (-1) ^^^ BitVec.ofInt 64 (a:Int)).toNat,?_,fun α k=>rfl⟩;have e1:BitVec.ofInt 64 (-1)=BitVec.allOnes 64:=by decide
 have e2:(BitVec.ofInt 64 (a:Int)).toNat=a:=by rw[BitVec.toNat_ofInt];omega
 have e3:(BitVec.ofInt 64 (-1) ^^^ BitVec.ofInt 64 (a:Int)).toNat=2^64-1-a:=by rw[e1,BitVec.allOnes_xor,BitVec.toNat_not,e2]
 rw[e3];have hc:((2^64-1-a:Nat):Int)=18446744073709551615-(a:Int):=by omega
 rw[hc];have:(IntKind.i64.wrap (18446744073709551615-(a:Int)))=-1-(a:Int):=by clear e3;simp[IntKind.wrap,IntKind.signed,IntKind.bits];omega
 rw[this];omega
theorem s_bspan{α:Type}(a b:Int)(k:Value→Option α):zaS PP Bo [(0,.int .i64 a),(1,.int .i64 b)] k=k (.agg #[.int .i64 a,.int .i64 b]):=by
 have:zg3 PP Bo [(0,.int .i64 a),(1,.int .i64 b)]=some (.agg #[.int .i64 a,.int .i64 b]):=by kernel_rfl
 unfold zaS;rw[this]
abbrev spF:Value:=.func (.func AD) #[] #[]
theorem zju{α:Type}(r:Int)(H:Hp)(k:Value→Hp→Option α):zfx orc RR spF [.int .i32 r] H k=k (.bool (decide (r=32))) H:=by
 have h:orc.pan AD=false:=by kernel_rfl
 have e:zfx orc RR spF [.int .i32 r] H k=zad RR AD [.int .i32 r] H k:=by unfold zfx;dsimp only;rw[h];rfl
 rw[e,zaf (c_space r H)]
theorem span_loop(l:List UInt8)(hl:l.length≤2^40):∀(m i:Nat) (done:List (Nat×Nat)) (st:Option Nat) (z:Int) (v:Value) (H:Hp),l.length-i=m→i≤l.length→stV st z→(∀a,st=some a→a≤i)→done.length≤i→Vec H 2 v done.length (done.flatMap zjM) →
  ∃H' done' st' z' v',zas (za1 RR spF) [v,.int .i64 z,zdK l i] H=some (.exit 0,[v',.int .i64 z',zdK l l.length],H') ∧
   done++spn (l.drop i) i st=done'++spn [] l.length st'∧stV st' z'∧(∀a,st'=some a→a≤l.length)∧done'.length≤l.length∧Vec H' 2 v' done'.length (done'.flatMap zjM)∧Frm (Id v) H H'∧(∀j,Id v' j→Id v j∨H.next≤j):=by
 intro m;induction m using Nat.strongRecOn with
 |_ m ih=>
 intro i done st z v H hm hi hst hsti hdl hv;have step:za1 RR spF [v,.int .i64 z,zdK l i] H=br (Nat.blt i (ba l).size)
   (zfx orc RR spF [.int .i32 ((Utf8.decode (ba l) i).1:Nat)] H fun r6 H7=>zaa r6 fun b8=>br b8
    (pBin PP .geq Aa (.int .i64 z) (.int .i64 0) fun v9=>zaa v9 fun b10=>br b10
     (zaS PP Bo [(0,.int .i64 z),(1,.int .i64 (i:Nat))] fun v11=>zam 2 [.int .i64 0,.int .i64 0] 1 [(0,v11)] H7 fun v12 H13=>zaH 2 16 v v12 H13 fun v14 H15=>pUn .xor (.int .i64 z) fun v16=>
      some (.next,[v14,v16,zdK l (i+(Utf8.decode (ba l) i).2)],H15))
     (some (.next,[v,.int .i64 z,zdK l (i+(Utf8.decode (ba l) i).2)],H7)))
    (pBin PP .lss Aa (.int .i64 z) (.int .i64 0) fun v17=>zaa v17 fun b18=>br b18
     (some (.next,[v,.int .i64 (i:Nat),zdK l (i+(Utf8.decode (ba l) i).2)],H7))
     (some (.next,[v,.int .i64 z,zdK l (i+(Utf8.decode (ba l) i).2)],H7))))
   (some (.exit 0,[v,.int .i64 z,zdK l i],H)):=rfl
 rcases Nat.lt_or_ge i l.length with hlt|hge
 ·have hb:Nat.blt i (ba l).size=true:=by rw[zco,Nat.blt_eq];exact hlt
  obtain⟨d1,d2,d3⟩:=dec_sp l i hlt;have hdrop:l.drop i=l.getD i 0::l.drop (i+1):=by rw[drop_eq_getElem_cons hlt];simp[getD_eq_getElem?_getD,hlt]
  rw[hb]at step;have hd:decide ((((32:Nat):Int))=32)=true:=by decide
  rcases d3 with⟨e1,e2,e3⟩|⟨e1,e2⟩
  ·have h32:(l.getD i 0==32)=true:=by rw[e3];rfl
   rw[e1,e2]at step;cases st with
   |none=>
    have hz:¬(z≥0):=by have:z<0:=hst;omega
    have this:za1 RR spF [v,.int .i64 z,zdK l i] H=some (.next,[v,.int .i64 z,zdK l (i+1)],H):=by rw[step];simp only[s_br,if_true,zju,hd,zac,zbt,hz,decide_false,Bool.false_eq_true,if_false]
    obtain⟨H',done',st',z',v',g1,g2,g3⟩:=ih (l.length-(i+1)) (by omega) (i+1) done none z v H rfl (by omega) hst (fun a ha=>by cases ha) (by omega) hv;refine⟨H',done',st',z',v',?_,?_,g3⟩
    ·rw[zai,this];exact g1
    ·rw[hdrop,zjt h32];exact g2
   |some a=>
    have hza:z=(a:Int):=hst;have hai:=hsti a rfl;obtain⟨x,hx0,hx⟩:=neg_xor a (by omega);obtain⟨v2,H2,hpu,hv2,hf2,hid2,_⟩:=hv.push (bytes:=16) (zs:=[.int .i64 0,.int .i64 0]) (x:=.agg #[.int .i64 (a:Int),.int .i64 (i:Int)]) (by omega) (by omega) rfl rfl rfl (by omega);have hv3:Vec H2 2 v2 (done++[(a,i)]).length ((done++[(a,i)]).flatMap zjM):=by rw[length_append,flatMap_append];exact hv2
    have hz:z≥0:=by omega
    have this:za1 RR spF [v,.int .i64 z,zdK l i] H=some (.next,[v2,.int .i64 x,zdK l (i+1)],H2):=by rw[step];simp only[s_br,if_true,zju,hd,zac,zbt,hz,decide_true,s_bspan];rw[hza,hpu,hx]
    obtain⟨H',done',st',z',v',g1,g2,g3,g4,g5,g6,g7,g8⟩:=ih (l.length-(i+1)) (by omega) (i+1) (done++[(a,i)]) none x v2 H2 rfl (by omega) hx0 (fun a ha=>by cases ha) (by simp;omega) hv3;refine⟨H',done',st',z',v',?_,?_,g3,g4,g5,g6,hf2.trans g7 hid2,fun j hj=>?_⟩
    ·rw[zai,this];exact g1
    ·rw[hdrop,zmb h32];rw[←g2];simp
    ·rcases g8 j hj with q|q
     ·exact hid2 j q
     ·exact .inr (Nat.le_trans hf2.next q)
  ·generalize hq:Utf8.decode (ba l) i=q at step d1 d2 e1 e2;obtain⟨r,w⟩:=q;dsimp only at step d1 d2 e1 e2;have hr:¬((r:Int)=32):=by omega
   have hsk:∀st,spn (l.drop i) i st=spn (l.drop (i+w)) (i+w) (some (st.getD i)):=fun st=>by
    have hsp:l.drop i=(l.drop i).take w++l.drop (i+w):=by rw[←drop_drop];exact(take_append_drop w _).symm
    have hlen:((l.drop i).take w).length=w:=by rw[length_take,length_drop];omega
    have:=zpz ((l.drop i).take w) (l.drop (i+w)) i st (fun b hb=>by
     obtain⟨j,hj,hjb⟩:=mem_iff_getElem.1 hb;rw[hlen]at hj;have h1:=e2 (i+j) (by omega) (by omega);rw[getElem_take,getElem_drop]at hjb;rw[getD_eq_getElem?_getD,List.getElem?_eq_getElem (by omega),Option.getD_some,hjb]at h1
     exact h1) (fun h=>by rw[h]at hlen;simp at hlen;omega)
    rw[←hsp,hlen]at this;exact this
   have go:∀(z2:Int) (st2:Option Nat),st2=some (st.getD i)→z2=((st.getD i:Nat):Int)→st.getD i≤i→za1 RR spF [v,.int .i64 z,zdK l i] H=some (.next,[v,.int .i64 z2,zdK l (i+w)],H) →
     ∃H' done' st' z' v',zas (za1 RR spF) [v,.int .i64 z,zdK l i] H=some (.exit 0,[v',.int .i64 z',zdK l l.length],H') ∧
      done++spn (l.drop i) i st=done'++spn [] l.length st'∧stV st' z'∧(∀a,st'=some a→a≤l.length)∧done'.length≤l.length∧Vec H' 2 v' done'.length (done'.flatMap zjM)∧Frm (Id v) H H'∧(∀j,Id v' j→Id v j∨H.next≤j):=by
    intro z2 st2 hs2 hz2 hle this;obtain⟨H',done',st',z',v',g1,g2,g3⟩:=ih (l.length-(i+w)) (by omega) (i+w) done st2 z2 v H rfl (by omega) (by rw[hs2];exact hz2) (fun a ha=>by rw[hs2]at ha;cases ha;omega) (by omega) hv;refine⟨H',done',st',z',v',?_,?_,g3⟩
    ·rw[zai,this];exact g1
    ·rw[hsk,←hs2];exact g2
   cases st with
   |none=>
    have hz:z<0:=hst;refine go (i:Nat) _ rfl rfl (Nat.le_refl _) ?_;rw[step];simp only[s_br,if_true,zju,zac,hr,decide_false,Bool.false_eq_true,if_false,zaV,hz,decide_true]
   |some a=>
    have hza:z=(a:Int):=hst;have hz:¬z<0:=by omega
    refine go z _ rfl hza (hsti a rfl) ?_;rw[step];simp only[s_br,if_true,zju,zac,hr,decide_false,Bool.false_eq_true,if_false,zaV,hz]
 ·have hie:i=l.length:=by omega
  subst hie;have hb:Nat.blt l.length (ba l).size=false:=by
   rw[zco];cases h:Nat.blt l.length l.length with
   |false=>rfl
   |true=>rw[Nat.blt_eq]at h;exact absurd h (Nat.lt_irrefl _)
  rw[hb]at step;refine⟨H,done,st,z,v,?_,?_,hst,hsti,hdl,hv,Frm.refl _ _,fun j hj=>.inl hj⟩
  ·rw[zai,step];rfl
  ·rw[drop_length]
theorem zpA:∀(l:List UInt8) (i:Nat) (st:Option Nat),(∀a,st=some a→a≤i)→∀p∈spn l i st,p.1≤p.2∧p.2≤i+l.length
 |[],i,none,h,p,hp=>by cases hp
 |[],i,some a,h,p,hp=>by
  have hp:p∈[(a,i)]:=hp;rw[mem_singleton]at hp;subst hp;exact⟨h a rfl,by simp⟩
 |b::r,i,st,h,p,hp=>by
  cases hb:b==32 with
  |true=>
   cases st with
   |none=>
    rw[zjt hb]at hp;have:=zpA r (i+1) none (fun a ha=>by cases ha) p hp;simp only[length_cons];omega
   |some a=>
    rw[zmb hb]at hp;rcases mem_cons.1 hp with rfl|hp
    ·exact⟨h a rfl,by simp only[length_cons];omega⟩
    ·have:=zpA r (i+1) none (fun a ha=>by cases ha) p hp;simp only[length_cons];omega
  |false=>
   have e:spn (b::r) i st=spn r (i+1) (some (st.getD i)):=by
    conv=>lhs;unfold spn
    rw[hb]
   rw[e]at hp
   have:=zpA r (i+1) (some (st.getD i)) (fun a ha=>by
    cases ha;cases st with
    |none=>simp
    |some a=>have:=h a rfl;simp;omega) p hp
   simp only[length_cons];omega
def zbY(l:List UInt8)(p:Nat×Nat):List UInt8:=(l.take p.2).drop p.1
theorem zpI{α:Type}(l:List UInt8){a e:Nat}(h:a≤e)(he:e≤l.length)(k:Value→Option α):zbo (str l) (some (.int .i64 (a:Int))) (some (.int .i64 (e:Int))) k=k (str (zbY l (a,e))):=by
 have:=s_cut (ba l) .i64 .i64 a e h (by rw[zco];exact he) k
 have hx:(ba l).extract a e=ba (zbY l (a,e)):=zlX (by
  simp only[ByteArray.data_extract,Array.toList_extract,extract_eq_take_drop,zbY]
  rw[drop_take])
 rw[hx]at this;exact this
theorem span_at:∀(L:List (Nat×Nat)) (i:Nat) (p:Nat×Nat),L[i]?=some p→((L.flatMap zjM).drop (i*2)).take 2=zjM p
 |q::L,0,p,h=>by cases h;rfl
 |q::L,i+1,p,h=>by
  have e:(i+1)*2=i*2+2:=by omega
  rw[e];show List.take 2 (List.drop (i*2+2) (.int .i64 (q.1:Int) :: .int .i64 (q.2:Int)::L.flatMap zjM))=_;exact span_at L i p h
theorem zm0(l:List UInt8)(hl:l.length≤2^40)(L:List (Nat×Nat))(hL:∀p∈L,p.1≤p.2∧p.2≤l.length)(hn:L.length≤2^41)(sv v:Value)(hne:∀j,Id v j→¬Id sv j):∀(m i:Nat) (H:Hp),i+m=L.length→Vec H 2 sv L.length (L.flatMap zjM)→Vec H 1 v L.length (((L.take i).map (zbY l)).map str++repl m [str []]) →
  ∃H',zas (zbd RR (str l) v (.int .i64 (L.length:Int)) [sv]) [.int .i64 (i:Int)] H=some (.exit 2,[.int .i64 (L.length:Int)],H')∧Vec H' 1 v L.length ((L.map (zbY l)).map str)∧Frm (Id v) H H'
 |0,i,H,hi,hs,hv=>by
  have h1:¬((i:Int)<(L.length:Int)):=by omega
  have this:zbd RR (str l) v (.int .i64 (L.length:Int)) [sv] [.int .i64 (i:Int)] H=some (.exit 2,[.int .i64 (i:Int)],H):=by unfold zbd;simp only[qg0,zaV,zac,s_br,h1,decide_false,Bool.false_eq_true,if_false]
  have hil:i=L.length:=by omega
  refine⟨H,?_,?_,Frm.refl _ _⟩
  ·rw[zai,this,hil];rfl
  ·rw[hil,take_length]at hv;simpa[repl] using hv
 |m+1,i,H,hi,hs,hv=>by
  have hlt:i<L.length:=by omega
  have hp:L[i]?=some L[i]:=List.getElem?_eq_getElem hlt;generalize L[i]=p at hp;obtain⟨a,e⟩:=p;have hpl:=hL (a,e) (mem_of_getElem? hp);obtain⟨y,hy,⟨rest,hg⟩,hix⟩:=hs.ix (i:=i) hlt;obtain⟨y2,hy2,_,hix2⟩:=hv.ix (i:=i) hlt;have hsz:=hv.size;have hsz2:=hs.size;obtain⟨H1,hst,hv1,hf1,hnx⟩:=hv.set hy2 (o:=i*1) (m:=1) (x:=str (zbY l (a,e))) rfl (by rw[hsz];omega) rfl;have hspl:=zmc (((L.take i).map (zbY l)).map str) (str []) (str (zbY l (a,e))) (i:=i) (n:=L.length) (by simp;omega) m;have hcl:zab (str (zbY l (a,e)))=[str (zbY l (a,e))]:=rfl;rw[hcl,hspl]at hv1;have htk:L.take (i+1)=L.take i++[(a,e)]:=by rw[take_add_one,hp];rfl
  have hv2:Vec H1 1 v L.length (((L.take (i+1)).map (zbY l)).map str++repl m [str []]):=by rw[htk];simpa using hv1
  have hs2:Vec H1 2 sv L.length (L.flatMap zjM):=hs.keep hf1 fun j hj hj2=>hne j hj2 hj;obtain⟨H',g1,g2,g3⟩:=zm0 l hl L hL hn sv v hne m (i+1) H1 (by omega) hs2 hv2;refine⟨H',?_,g2,hf1.trans g3 fun j hj=>.inl hj⟩;have q1:((i:Int)<(L.length:Int)):=by omega
  have hld:=fun (α:Type) (k:Value→Option α)=>ld_agg hg (o:=i*2) (m:=2) (by rw[hsz2];omega) k;rw[span_at L i (a,e) hp]at hld;have e2:(i:Int)+1=((i+1:Nat):Int):=by omega
  have this:zbd RR (str l) v (.int .i64 (L.length:Int)) [sv] [.int .i64 (i:Int)] H=some (.next,[.int .i64 ((i+1:Nat):Int)],H1):=by unfold zbd;simp only[qg0,zaV,zac,s_br,q1,decide_true,if_true];rw[hix,hld];show (zbo (str l) (some (.int .i64 (a:Int))) (some (.int .i64 (e:Int))) fun v48=>_)=_;rw[zpI l hpl.1 hpl.2,hix2,hst,zaN,e2,w64 (by omega) (by omega)]
  rw[zai,this];exact g1
theorem Vec.capS(H:Hp){sz bytes:Nat}{zs:List Value}(hz:zs.length=sz)(h1:zs.all one=true){n:Nat}(hb:n*bytes≤2^47) :
  ∃v H',(∀(α:Type) (k:Value→Hp→Option α),za6 sz bytes zs (.int .i64 0) (.int .i64 (n:Int)) H k=k v H')∧Vec H' sz v 0 []∧Frm (fun _=>False) H H'∧(∀j,Id v j→H.next≤j):=by
 have ra:∀n,(repl n zs).all one=true:=fun n=>by
  induction n with
  |zero=>rfl
  |succ n ih=>show (zs++repl n zs).all one=true;rw[all_append,h1,ih];rfl
 refine⟨.slice (some ⟨H.next,0,some sz⟩) 0 n,H.new (.cells (repl n zs) true),fun α k=>?_,.inr ⟨H.next,n,repl n zs,rfl,Nat.zero_le _,?_,by simp,by rw[zgp,hz];rfl,by show H.next<H.next+1;omega,ra n⟩,zcv _ _ _,fun j hj=>by cases hj;exact Nat.le_refl _⟩
 ·have e:((2:Int)^47)=((2^47:Nat):Int):=by rfl
  have hb':(n:Int)*(bytes:Int)≤2^47:=by rw[e,←Int.natCast_mul];exact Int.ofNat_le.2 hb
  have:zcB sz bytes zs (.int .i64 0) (.int .i64 (n:Int)) H=some (.slice (some ⟨H.next,0,some sz⟩) 0 n,H.new (.cells (repl n zs) true)):=by unfold zcB;dsimp only;rw[if_pos ⟨by omega,by omega,hb'⟩];rfl
  unfold za6;rw[this]
 ·rw[get_new,if_pos rfl,nil_append]
def zbv(l:List UInt8):List (List UInt8):=(spn l 0 none).map (zbY l)
theorem zg9:∀(l:List UInt8) (i:Nat) (st:Option Nat),(spn l i st).length≤l.length+1
 |[],i,none=>by simp[spn]
 |[],i,some a=>by simp[spn]
 |b::r,i,st=>by
  cases hb:b==32 with
  |true=>
   cases st with
   |none=>rw[zjt hb];have:=zg9 r (i+1) none;simp only[length_cons];omega
   |some a=>rw[zmb hb];have:=zg9 r (i+1) none;simp only[length_cons];omega
  |false=>
   have e:spn (b::r) i st=spn r (i+1) (some (st.getD i)):=by
    conv=>lhs;unfold spn
    rw[hb]
   rw[e];have:=zg9 r (i+1) (some (st.getD i));simp only[length_cons];omega
theorem c_fields(l:List UInt8)(hl:l.length≤2^40)(H:Hp):∃v H',RR AK [str l,spF] H=some (v,H')∧Vec H' 1 v (zbv l).length ((zbv l).map str)∧Frm (fun _=>False) H H'∧∀j,Id v j→H.next≤j:=by
 obtain⟨v1,H1,hmk,hv1,hf1,hid1⟩:=Vec.capS H (sz:=2) (bytes:=16) (zs:=[.int .i64 0,.int .i64 0]) rfl rfl (n:=32) (by omega);obtain⟨H2,done,st,z,v2,g1,g2,g3,g4,g5,g6,g7,g8⟩:=span_loop l hl (l.length-0) 0 [] none (-1) v1 H1 rfl (Nat.zero_le _) (by show (-1:Int)<0;decide) (fun a ha=>by cases ha) (Nat.le_refl _) hv1;rw[nil_append,qd0]at g2;have hid2:∀j,Id v2 j→H.next≤j:=fun j hj=>by
  rcases g8 j hj with q|q
  ·exact hid1 j q
  ·exact Nat.le_trans hf1.next q
 have hf2:Frm (fun _=>False) H H2:=hf1.trans g7 fun j hj=>.inr (hid1 j hj)
 have last:∃H3 v3,(zav (pBin PP .geq Aa (.int .i64 z) (.int .i64 0) fun v23=>zaa v23 fun b24=>br b24
   (pLen .str (str l) H2 fun v25=>zaS PP Bo [(0,.int .i64 z),(1,v25)] fun v26=>zam 2 [.int .i64 0,.int .i64 0] 1 [(0,v26)] H2 fun v27 H28=>zaH 2 16 v2 v27 H28 fun v29 H30=>some (.next,[v29],H30))
   (some (.next,[v2],H2))):(Ctl→List Value→Hp→Option (Value×Hp))→Option (Value×Hp))=(fun k=>k .next [v3] H3) ∧
   Vec H3 2 v3 (spn l 0 none).length ((spn l 0 none).flatMap zjM)∧Frm (fun _=>False) H H3∧∀j,Id v3 j→H.next≤j:=by
  cases st with
  |none=>
   have hz:¬z≥0:=by have:z<0:=g3;omega
   have e:spn l 0 none=done:=by rw[g2];show done++[]=done;rw[append_nil]
   refine⟨H2,v2,?_,by rw[e];exact g6,hf2,hid2⟩;funext k;simp only[zbt,zac,s_br,hz,decide_false,Bool.false_eq_true,if_false,zal]
  |some a=>
   have hza:z=(a:Int):=g3;have hz:z≥0:=by omega
   have e:spn l 0 none=done++[(a,l.length)]:=g2;obtain⟨v3,H3,hpu,hv3,hf3,hid3,_⟩:=g6.push (bytes:=16) (zs:=[.int .i64 0,.int .i64 0]) (x:=.agg #[.int .i64 (a:Int),.int .i64 (l.length:Int)]) (by omega) (by omega) rfl rfl rfl (by omega);refine⟨H3,v3,?_,by rw[e,length_append,flatMap_append];exact hv3,hf2.trans hf3 fun j hj=>.inr (hid2 j hj),fun j hj=>?_⟩
   ·funext k;have e2:∀{α:Type} (k:Value→Option α),pLen .str (str l) H2 k=k (.int .i64 (l.length:Int)):=fun k=>by show k (.int .i64 ((ba l).size:Int))=_;rw[zco]
    simp only[zbt,zac,s_br,hz,decide_true,if_true,e2,s_bspan];rw[hza,hpu,zal]
   ·rcases hid3 j hj with q|q
    ·exact hid2 j q
    ·exact Nat.le_trans hf2.next q
 obtain⟨H3,v3,hlast,hv3,hf3,hid3⟩:=last;have hn:=zg9 l 0 none;have hok:=zpA l 0 none (fun a ha=>by cases ha);generalize hL:spn l 0 none=L at *;obtain⟨v4,hmk4,hv4,hid4⟩:=Vec.make H3 (sz:=1) (bytes:=16) (zs:=[str []]) rfl (n:=L.length) (by omega);have hs4:Vec (H3.new (.cells (repl L.length [str []]) true)) 2 v3 L.length (L.flatMap zjM):=hv3.keep (zcv _ _ (fun _=>False)) fun _ _ h=>h;obtain⟨H5,w1,w2,w3⟩:=zm0 l hl L (fun p hp=>by have:=hok p hp;omega) (by omega) v3 v4 (fun j hj hj3=>by have:=hid4 j hj;have:=hv3.lt hj3;omega) L.length 0 _ (by omega) hs4 (by simpa using hv4);have hw:zbv l=L.map (zbY l):=by unfold zbv;rw[hL]
 refine⟨v4,H5,?_,by rw[hw,length_map];exact w2,?_,fun j hj=>?_⟩
 ·refine(zgz E0 rfl _ _ H).trans ?_;rw[zgM];have hmk':∀(α:Type) (k:Value→Hp→Option α),za6 2 16 [.int .i64 0,.int .i64 0] (.int .i64 0) (.int .i64 32) H k=k v1 H1:=hmk;have hmk4':∀(α:Type) (k:Value→Hp→Option α),za6 1 16 [Value.string ⟨#[]⟩] (.int .i64 (L.length:Int)) (.int .i64 (L.length:Int)) H3 k=k v4 (H3.new (.cells (repl L.length [str []]) true)):=hmk4;rw[hmk'];show (zav (zas (za1 RR spF) [v1,.int .i64 (-1),zdK l 0] H1) _)=_;rw[g1,zal,za0,zaz];refine(congrFun hlast _).trans ?_;rw[zaA];simp only[qg0];rw[hv3.len,hmk4',hv3.len];have w1':zas (zbd RR (str l) v4 (.int .i64 (L.length:Int)) [v3]) [.int .i64 0] (H3.new (.cells (repl L.length [str []]) true))=some (.exit 2,[.int .i64 (L.length:Int)],H5):=w1;rw[w1',zal,za0,zaz]
 ·refine hf3.trans ((zcv _ _ (fun _=>False)).trans w3 fun j hj=>.inr (by rw[hid4 j hj];exact Nat.le_refl _)) fun j hj=>.inl hj
 ·rw[hid4 j hj];exact hf3.next
def Wds(H:Hp)(v:Value)(ws:List (List UInt8)):Prop:=
 (ws=[]∧v=.slice none 0 0)∨∃y c pre rest own,v=.slice (some ⟨y,pre.length,some 1⟩) ws.length c∧ws.length≤c∧H.get y=some (.cells (pre++ws.map str++rest) own)∧y<H.next
theorem Vec.wds{H:Hp}{v:Value}{ws:List (List UInt8)}(h:Vec H 1 v ws.length (ws.map str)):Wds H v ws:=by
 rcases h with⟨h1,h2,h3⟩|⟨y,c,rest,h1,h2,h3,h4,h5,h6,h7⟩
 ·exact .inl ⟨length_eq_zero_iff.1 h1,h3⟩
 ·exact .inr ⟨y,c,[],rest,true,h1,h2,by simpa using h3,h6⟩
theorem Wds.len{H:Hp}{v:Value}{ws:List (List UInt8)}(h:Wds H v ws){α:Type}(H':Hp)(k:Value→Option α):pLen .sl v H' k=k (.int .i64 (ws.length:Int)):=by rcases h with⟨rfl,rfl⟩|⟨y,c,pre,rest,own,rfl,_⟩<;>rfl
theorem Wds.keep{M:Nat→Prop}{H H':Hp}{v:Value}{ws:List (List UInt8)}(h:Wds H v ws)(k:Frm M H H')(hm:∀j,Id v j→¬M j):Wds H' v ws:=by
 rcases h with h|⟨y,c,pre,rest,own,rfl,h1,h2,h3⟩
 ·exact .inl h
 ·exact .inr ⟨y,c,pre,rest,own,rfl,h1,by rw[k.same y h3 (hm y rfl)];exact h2,Nat.lt_of_lt_of_le h3 k.next⟩
theorem Wds.head{H:Hp}{v:Value}{w:List UInt8}{ws:List (List UInt8)}(h:Wds H v (w::ws)):∃v',(∀(α:Type) (k:Value→Option α),(pIdx 1 v (.int .i64 0) fun p=>zak 1 false H p k)=k (str w))∧(∀(α:Type) (k:Value→Option α),zcf 1 v (some (.int .i64 1)) none k=k v')∧Wds H v' ws∧(∀j,Id v' j→Id v j):=by
 rcases h with⟨h,_⟩|⟨y,c,pre,rest,own,rfl,h1,h2,h3⟩
 ·cases h
 ·rw[length_cons]at h1;refine⟨.slice (some ⟨y,pre.length+1,some 1⟩) ws.length (c-1),fun α k=>?_,fun α k=>?_,.inr ⟨y,c-1,pre++[str w],rest,own,by simp,by omega,by simpa using h2,h3⟩,fun j hj=>hj⟩
  ·have e:idxV 1 (.slice (some ⟨y,pre.length,some 1⟩) (w::ws).length c) (.int .i64 0)=some (.pointer (some ⟨y,pre.length,none⟩)):=by unfold idxV;dsimp only;rw[if_pos ⟨rfl,by omega,by rw[length_cons];omega⟩];rfl
   unfold pIdx;rw[e];dsimp only;refine zbO h2 pre.length (str w) ?_ k;simp
  ·have e:zgU 1 (.slice (some ⟨y,pre.length,some 1⟩) (w::ws).length c) (some (.int .i64 1)) none=some (.slice (some ⟨y,pre.length+1,some 1⟩) ws.length (c-1)):=by unfold zgU;dsimp only[zdr];rw[if_pos ⟨rfl,by omega,by rw[length_cons];omega,by rw[length_cons];omega⟩];simp
   unfold zcf;rw[e]
abbrev zcJ(e:Int):Value:=.iface Ae (.agg #[.int .i64 e])
theorem zcA{α:Type}(e:Int)(k:Value→Option α):zaS PP Ae [(0,.int .i64 e)] k=k (.agg #[.int .i64 e]):=by
 have:zg3 PP Ae [(0,.int .i64 e)]=some (.agg #[.int .i64 e]):=by kernel_rfl
 unfold zaS;rw[this]
theorem next_none{H:Hp}{p:Nat}{sp wv tv:Value}(hp:H.get p=some (.cells [sp,wv,tv] true))(hw:Wds H wv []):RR Aq [.pointer (some ⟨p,0,none⟩)] H=some (W0 (zcJ 3),H):=by refine(zeC E0 rfl _ H).trans ?_;unfold zcZ;have hl:=fun (α:Type) (k:Value→Option α)=>zbO hp (0+1) wv rfl k;simp only[zbA,zaJ,hl,hw.len,zaF,zac,s_br,length_nil,Int.ofNat_zero,decide_true,if_true,zcA]
theorem next_some{H:Hp}{p:Nat}{sp wv tv:Value}(hp:H.get p=some (.cells [sp,wv,tv] true)){w:List UInt8}{ws:List (List UInt8)}(hw:Wds H wv (w::ws))(hne:¬Id wv p):∃H' wv',RR Aq [.pointer (some ⟨p,0,none⟩)] H=some (W1 (str w),H')∧H'.get p=some (.cells [sp,wv',tv] true)∧Wds H' wv' ws∧(∀j,Id wv' j→Id wv j)∧Frm (· = p) H H'∧H'.next=H.next:=by
 obtain⟨wv',h1,h2,h3,h4⟩:=hw.head;have hwr:H.wr (.pointer (some ⟨p,0+1,none⟩)) 1 wv'=some (H.set p (some (.cells [sp,wv',tv] true))):=by
  have hc:zab wv'=[wv']:=by rcases h3 with⟨_,rfl⟩|⟨y,c,pre,rest,own,rfl,_⟩<;>rfl
  have ho:one wv'=true:=by rcases h3 with⟨_,rfl⟩|⟨y,c,pre,rest,own,rfl,_⟩<;>rfl
  have hw2:zbE 1 [sp,wv,tv] (0+1) wv'=some [sp,wv',tv]:=by unfold zbE;rw[hc,if_pos ⟨rfl,by simp,by simp[ho]⟩];rfl
  show (match H.get p with|some (.cells cs true)=>(match zbE 1 cs (0+1) wv' with|some cs'=>some (H.set p (some (.cells cs' true)))|none=>none)|_=>none)=_;rw[hp];dsimp only;rw[hw2]
 have hfr:Frm (· = p) H (H.set p (some (.cells [sp,wv',tv] true))):=zgd _ _ _ _ rfl;refine⟨_,wv',?_,by rw[get_set,if_pos rfl],h3.keep hfr fun j hj e=>hne (e▸h4 j hj),h4,hfr,rfl⟩;refine(zeC E0 rfl _ H).trans ?_;unfold zcZ;have hl:=fun (α:Type) (k:Value→Option α)=>zbO hp (0+1) wv rfl k;have hz:¬(((w::ws).length:Int)=0):=by rw[length_cons];omega
 simp only[zbA,zaJ,hl,hw.len,zaF,zac,s_br,hz,decide_false,Bool.false_eq_true,if_false];rw[h1,h2];unfold zay;rw[hwr]
end Go.AM
namespace Go.AM
open Go
def hexV(n:Nat):Int:=if 48≤n∧n≤57 then (n:Int)-48 else if 97≤n∧n≤102 then (n:Int)-87 else if 65≤n∧n≤70 then (n:Int)-55 else -1
def digV(n base:Nat):Int:=if hexV n<0∨(base:Int)≤hexV n then -1 else hexV n
theorem zpc(n:Nat):-1≤hexV n∧hexV n≤15:=by
 unfold hexV;split
 ·omega
 ·split
  ·omega
  ·split<;>omega
theorem q_digit(n base:Nat)(hn:n<256)(hb:base=10∨base=16)(H:Hp):RR Ca [.int .u8 (n:Int),.int .u64 (base:Int)] H=some (.int .i64 (digV n base),H):=by
 refine(zgI E0 rfl _ _ H).trans ?_;unfold zdY;have hc:∀(α:Type) (k:Value→Option α),zan .i64 (.int .u8 (n:Int)) k=k (.int .i64 (n:Int)):=fun α k=>by show k (.int .i64 (IntKind.i64.wrap (n:Int)))=_;rw[w64 (by omega) (by omega)]
 have tailD:∀(v:Int),hexV n=v→@Eq (Option (Value×Hp)) (pMM true [Value.int .i64 v,Value.int .i64 0] fun v36=>zan .u64 v36 fun v37=>pBin PP .geq Ab v37 (Value.int .u64 (base:Int)) fun v38=>zaa v38 fun b39=>if b39=true then some (Value.int .i64 (-1),H) else some (Value.int .i64 v,H)) (some (Value.int .i64 (digV n base),H)):=by
  intro v hv;have hl:=zpc n;have e3:∀(a b:Int) (k:Value→Option (Value×Hp)),pMM true [.int .i64 a,.int .i64 b] k=k (.int .i64 (if b>a then b else a)):=fun a b k=>rfl;have hu:∀(a:Int) (h0:0≤a) (h1:a≤15) (k:Value→Option (Value×Hp)),zan .u64 (.int .i64 a) k=k (.int .u64 a):=fun a h0 h1 k=>by show k (.int .u64 (IntKind.u64.wrap a))=_;have:IntKind.u64.wrap a=a:=zdc (k:=.u64) (by show (0:Int)≤a;exact h0) (by show a≤18446744073709551615;omega);rw[this]
  rw[e3];unfold digV;rw[hv];rw[hv]at hl;by_cases h0:v<0
  ·have hv1:v=-1:=by omega
   subst hv1;rw[if_pos (by decide),hu 0 (by decide) (by decide),zbt,zac,if_pos (Or.inl (by decide))];have:¬((0:Int)≥(base:Int)):=by rcases hb with rfl|rfl<;>decide
   simp only[this,decide_false,Bool.false_eq_true,if_false]
  ·rw[if_neg (show ¬(0:Int)>v by omega),hu v (by omega) (by omega),zbt,zac];by_cases h1:v≥(base:Int)
   ·rw[if_pos (Or.inr h1)];simp only[h1,decide_true,if_true]
   ·rw[if_neg (show ¬(v<0∨(base:Int)≤v) by omega)];simp only[h1,decide_false,Bool.false_eq_true,if_false]
 have go:∀v,hexV n=v→(-1≤v∧v≤15):=fun v hv=>hv▸zpc n;by_cases h1:(n:Int)≥48<;>by_cases h2:(n:Int)≤57<;>by_cases h3:(n:Int)≥97<;>by_cases h4:(n:Int)≤102<;>by_cases h5:(n:Int)≥65<;>by_cases h6:(n:Int)≤70<;>first
  |(exfalso;omega)
  |(simp only[zbt,zb0,zac,s_br,hc,h1,h2,h3,h4,h5,h6,decide_true,decide_false,Bool.false_eq_true,if_true,if_false,zal,zaA,qg0,zbK,zaN]
    refine tailD _ ?_;unfold hexV
    first
     |rw[w64 (a:=(n:Int)-48) (by omega) (by omega)]
     |rw[w64 (a:=(n:Int)-97) (by omega) (by omega),w64 (a:=(n:Int)-97+10) (by omega) (by omega)]
     |rw[w64 (a:=(n:Int)-65) (by omega) (by omega),w64 (a:=(n:Int)-65+10) (by omega) (by omega)]
     |skip
    repeat' split
    all_goals omega)
end Go.AM
namespace Go.AM
open List Go
def numL(base:Nat):List UInt8→Nat→Option Nat
 |[],v=>some v
 |b::r,v=>if digV b.toNat base<0 then none else if v>(18446744073709551615-(digV b.toNat base).toNat)/base then none else numL base r (v*base+(digV b.toNat base).toNat)
def badN:Value:=.tuple #[.int .u64 0,.int .i64 10]
theorem zpj(n base:Nat):digV n base=-1∨(0≤digV n base∧digV n base<base∧digV n base≤15):=by
 have:=zpc n;unfold digV;split
 ·exact .inl rfl
 ·right;omega
theorem u64{a:Int}(h0:0≤a)(h1:a≤18446744073709551615):IntKind.u64.wrap a=a:=zdc (k:=.u64) h0 h1
theorem zp2(l:List UInt8)(hl:l.length≤2^40)(base:Nat)(hb:base=10∨base=16)(q:Value)(H:Hp):∀(rest:List UInt8) (i v:Nat),l.drop i=rest→i≤l.length→v≤18446744073709551615 →
  zas (zaG RR (str l) [.int .u64 (base:Int),q]) [.int .i64 (i:Int),.int .u64 (v:Int)] H=match numL base rest v with
   |some x=>some (.exit 0,[.int .i64 (l.length:Int),.int .u64 (x:Int)],H)
   |none=>some (.ret,[badN],H)
 |[],i,v,hr,hi,hv=>by
  have hil:i=l.length:=by have:=congrArg List.length hr;rw[length_drop]at this;simp at this;omega
  have e2:∀{α:Type} (k:Value→Option α),pLen .str (str l) H k=k (.int .i64 (l.length:Int)):=fun k=>by show k (.int .i64 ((ba l).size:Int))=_;rw[zco]
  have this:zaG RR (str l) [.int .u64 (base:Int),q] [.int .i64 (i:Int),.int .u64 (v:Int)] H=some (.exit 0,[.int .i64 (i:Int),.int .u64 (v:Int)],H):=by
   unfold zaG;have h1:¬((i:Int)<(l.length:Int)):=by omega
   simp only[e2,qg0,qg1,zaV,zac,s_br,h1,decide_false,Bool.false_eq_true,if_false]
  rw[zai,this,hil];rfl
 |b::r,i,v,hr,hi,hv=>by
  have hlt:i<l.length:=by have:=congrArg List.length hr;rw[length_drop]at this;simp at this;omega
  have hget:l[i]?=some b:=by have:=congrArg (fun x=>x[0]?) hr;simpa using this
  have hr2:l.drop (i+1)=r:=by rw[←drop_drop,hr];rfl
  have e2:∀{α:Type} (k:Value→Option α),pLen .str (str l) H k=k (.int .i64 (l.length:Int)):=fun k=>by show k (.int .i64 ((ba l).size:Int))=_;rw[zco]
  have hat:∀{α:Type} (k:Value→Option α),zbn (str l) (.int .i64 (i:Int)) k=k (.int .u8 (b.toNat:Int)):=fun k=>f_at (ba l) .i64 i b (by rw[ze8];exact hget) k;have h1:((i:Int)<(l.length:Int)):=by omega
  have hdig:=q_digit b.toNat base (UInt8.toNat_lt b) hb H;have hd:=zpj b.toNat base;have hb0:base≠0:=by omega
  unfold numL;by_cases h0:digV b.toNat base<0
  ·rw[if_pos h0];have this:zaG RR (str l) [.int .u64 (base:Int),q] [.int .i64 (i:Int),.int .u64 (v:Int)] H=some (.ret,[badN],H):=by unfold zaG;simp only[e2,qg0,qg1,zaV,zac,s_br,h1,decide_true,if_true,hat,zaf hdig,h0];rfl
   rw[zai,this];rfl
  ·rw[if_neg h0];obtain⟨dn,hdn⟩:∃dn:Nat,digV b.toNat base=(dn:Int):=⟨(digV b.toNat base).toNat,by omega⟩
   rw[hdn]at hdig hd h0 ⊢;simp only[Int.toNat_natCast];have hconv:∀{α:Type} (k:Value→Option α),zan .u64 (.int .i64 (dn:Int)) k=k (.int .u64 (dn:Int)):=fun k=>by show k (.int .u64 (IntKind.u64.wrap (dn:Int)))=_;rw[u64 (by omega) (by omega)]
   have hsub:IntKind.u64.wrap (18446744073709551615-(dn:Int))=((18446744073709551615-dn:Nat):Int):=by rw[u64 (by omega) (by omega)];omega
   have hq:=fun (k:Value→Option Outc)=>q_quo (P:=PP) Ab (18446744073709551615-dn) base hb0 (by omega) k;by_cases h2:v>(18446744073709551615-dn)/base
   ·rw[if_pos h2];have h2':(v:Int)>(((18446744073709551615-dn)/base:Nat):Int):=Int.ofNat_lt.2 h2;have this:zaG RR (str l) [.int .u64 (base:Int),q] [.int .i64 (i:Int),.int .u64 (v:Int)] H=some (.ret,[badN],H):=by unfold zaG;simp only[e2,qg0,qg1,zaV,zac,s_br,h1,decide_true,decide_false,Bool.false_eq_true,if_true,if_false,hat,zaf hdig,h0,hconv,zbK,hsub,hq,zbp,h2'];rfl
    rw[zai,this];rfl
   ·rw[if_neg h2];have h2':¬(v:Int)>(((18446744073709551615-dn)/base:Nat):Int):=fun h=>h2 (Int.ofNat_lt.1 h);have hm:v*base≤18446744073709551615-dn:=by
     have:v≤(18446744073709551615-dn)/base:=by omega
     exact(Nat.le_div_iff_mul_le (by omega)).1 this
    have hmul:IntKind.u64.wrap ((v:Int)*(base:Int))=((v*base:Nat):Int):=by rw[←Int.natCast_mul];exact u64 (by omega) (by omega)
    have hadd:IntKind.u64.wrap (((v*base:Nat):Int)+(dn:Int))=((v*base+dn:Nat):Int):=by rw[←Int.natCast_add];exact u64 (by omega) (by omega)
    have hinc:IntKind.i64.wrap ((i:Int)+1)=((i+1:Nat):Int):=w64 (by omega) (by omega);have this:zaG RR (str l) [.int .u64 (base:Int),q] [.int .i64 (i:Int),.int .u64 (v:Int)] H=some (.next,[.int .i64 ((i+1:Nat):Int),.int .u64 ((v*base+dn:Nat):Int)],H):=by unfold zaG;simp only[e2,qg0,qg1,zaV,zac,s_br,h1,decide_true,decide_false,Bool.false_eq_true,if_true,if_false,hat,zaf hdig,h0,hconv,zbK,hsub,hq,zbp,h2',s_mul,hmul,zaN,hadd,hinc]
    rw[zai,this];exact zp2 l hl base hb q H r (i+1) (v*base+dn) hr2 hlt (by omega)
end Go.AM
namespace Go.AM
open Go
def numP(l:List UInt8):Option Nat:=
 if l[0]?=some 48∧l[1]?=some 120 then (if l.length=2 then none else numL 16 (l.drop 2) 0) else (if l.length=0 then none else numL 10 l 0)
def numV:Option Nat→Value
 |some x=>.tuple #[.int .u64 (x:Int),.int .i64 0]
 |none=>badN
theorem u8ne{a c:UInt8}(h:¬a=c):¬((a.toNat:Int)=(c.toNat:Int)):=fun e=>h (UInt8.toNat_inj.1 (Int.ofNat.inj e))
theorem zpR(l:List UInt8)(hl:l.length≤2^40)(H:Hp):RR A6 [str l] H=some (numV (numP l),H):=by
 refine(zfW E0 rfl _ H).trans ?_;rw[zgb];have e2:∀{α:Type} (k:Value→Option α),pLen .str (str l) H k=k (.int .i64 (l.length:Int)):=fun k=>by show k (.int .i64 ((ba l).size:Int))=_;rw[zco]
 have tail:∀(base at_:Nat) (hb:base=10∨base=16) (ha:at_≤l.length),@Eq (Option (Value×Hp))
   (zaB .next (pLen .str (str l) H fun v14=>pBin PP .eql Aa ([Value.int .u64 (base:Int),Value.int .i64 (at_:Int)].getD 1 undef) v14 fun v15=>zaa v15 fun b16=>br b16
    (some ((.tuple #[(.int .u64 0),(.int .i64 10)]),H))
    (zav (zas (zaG RR (str l) [Value.int .u64 (base:Int),Value.int .i64 (at_:Int)]) [([Value.int .u64 (base:Int),Value.int .i64 (at_:Int)].getD 1 undef),(.int .u64 0)] H) fun q36 l37 H38=>zaB q36 none
     (fun i39=>zax i39 0 (some ((.tuple #[(l37.getD 1 undef),(.int .i64 0)]),H38)) none)
     (some ((l37.headD undef),H38))))
    (fun i13=>none) (some (([Value.int .u64 (base:Int),Value.int .i64 (at_:Int)].headD undef),H)))
   (some (numV (if l.length=at_ then none else numL base (l.drop at_) 0),H)):=by
  intro base at_ hb ha;rw[zaA,e2];simp only[qg0,qg1,zaF,zac,s_br];by_cases h:l.length=at_
  ·have h':((at_:Int)=(l.length:Int)):=by omega
   rw[if_pos h];simp only[h',decide_true,if_true];rfl
  ·have h':¬((at_:Int)=(l.length:Int)):=by omega
   rw[if_neg h];simp only[h',decide_false,Bool.false_eq_true,if_false];have hlp:=zp2 l hl base hb (Value.int .i64 (at_:Int)) H (l.drop at_) at_ 0 rfl ha (by omega);have hlp:zas (zaG RR (str l) [Value.int .u64 (base:Int),Value.int .i64 (at_:Int)]) [Value.int .i64 (at_:Int),Value.int .u64 0] H=_:=hlp;rw[hlp];cases numL base (l.drop at_) 0 with
   |none=>rfl
   |some x=>
    dsimp only;rw[zal,za0,zaz];rfl
 have hat:∀(i:Nat) (b:UInt8),l[i]?=some b→∀{α:Type} (k:Value→Option α),zbn (str l) (.int .i64 (i:Int)) k=k (.int .u8 (b.toNat:Int)):=fun i b hget α k=>f_at (ba l) .i64 i b (by rw[ze8];exact hget) k;unfold numP;by_cases h2:2≤l.length
 ·have h2':((l.length:Int)≥2):=by omega
  have g0:l[0]?=some l[0]:=List.getElem?_eq_getElem (by omega);have g1:l[1]?=some l[1]:=List.getElem?_eq_getElem (by omega);have a0:∀{α:Type} (k:Value→Option α),zbn (str l) (.int .i64 0) k=k (.int .u8 (l[0].toNat:Int)):=fun k=>hat 0 _ g0 k;have a1:∀{α:Type} (k:Value→Option α),zbn (str l) (.int .i64 1) k=k (.int .u8 (l[1].toNat:Int)):=fun k=>hat 1 _ g1 k;have t10:=tail 10 0 (.inl rfl) (Nat.zero_le _);have t16:=tail 16 2 (.inr rfl) h2;by_cases b0:l[0]=48
  ·have b0':((l[0].toNat:Int)=48):=by rw[b0];rfl
   by_cases b1:l[1]=120
   ·have b1':((l[1].toNat:Int)=120):=by rw[b1];rfl
    rw[if_pos ⟨by rw[g0,b0],by rw[g1,b1]⟩];simp only[e2,zbt,zac,s_br,h2',decide_true,if_true,a0,a1,zaF,b0',b1',zal]at t16 ⊢;exact t16
   ·have b1':¬((l[1].toNat:Int)=120):=u8ne b1;rw[if_neg (fun e=>b1 (by rw[g1]at e;exact Option.some.inj e.2))];simp only[e2,zbt,zac,s_br,h2',decide_true,decide_false,Bool.false_eq_true,if_false,if_true,a0,a1,zaF,b0',b1',zal,qd0]at t10 ⊢;exact t10
  ·have b0':¬((l[0].toNat:Int)=48):=u8ne b0;rw[if_neg (fun e=>b0 (by rw[g0]at e;exact Option.some.inj e.1))];simp only[e2,zbt,zac,s_br,h2',decide_true,decide_false,Bool.false_eq_true,if_false,if_true,a0,a1,zaF,b0',zal,qd0]at t10 ⊢;exact t10
 ·have h2':¬((l.length:Int)≥2):=by omega
  have g1:l[1]?=none:=List.getElem?_eq_none (by omega);have t10:=tail 10 0 (.inl rfl) (Nat.zero_le _);rw[if_neg (fun e=>by rw[g1]at e;cases e.2)];simp only[e2,zbt,zac,s_br,h2',decide_false,Bool.false_eq_true,if_false,zal,qd0]at t10 ⊢;exact t10
def zaQ(l:List UInt8):Int:=
 match numP l with
 |some x=>if x<2147483648 then (x:Int) else -1
 |none=>-1
theorem zoE(l:List UInt8)(hl:l.length≤2^40)(H:Hp):RR Bb [str l] H=some (.int .i64 (zaQ l),H):=by
 refine(zgD E0 rfl _ H).trans ?_;unfold zdT;rw[zaf (zpR l hl H)];unfold zaQ;cases numP l with
 |none=>
  have e0:∀{α:Type} (k:Value→Option α),zah (numV none) 0 k=k (.int .u64 0):=fun k=>rfl;have e1:∀{α:Type} (k:Value→Option α),zah (numV none) 1 k=k (.int .i64 10):=fun k=>rfl;have h:((10:Int)≠0):=by decide
  simp only[e0,e1,za5,zac,s_br,h,decide_true,if_true,ne_eq,not_false_eq_true]
 |some x=>
  have e0:∀{α:Type} (k:Value→Option α),zah (numV (some x)) 0 k=k (.int .u64 (x:Int)):=fun k=>rfl;have e1:∀{α:Type} (k:Value→Option α),zah (numV (some x)) 1 k=k (.int .i64 0):=fun k=>rfl;have h:¬((0:Int)≠0):=by decide
  dsimp only;by_cases hx:x<2147483648
  ·have hx':¬((x:Int)≥2147483648):=by omega
   have hc:∀{α:Type} (k:Value→Option α),zan .i64 (.int .u64 (x:Int)) k=k (.int .i64 (x:Int)):=fun k=>by show k (.int .i64 (IntKind.i64.wrap (x:Int)))=_;rw[w64 (by omega) (by omega)]
   rw[if_pos hx];simp only[e0,e1,za5,zac,s_br,h,decide_false,Bool.false_eq_true,if_false,zbt,hx',hc]
  ·have hx':((x:Int)≥2147483648):=by omega
   rw[if_neg hx];simp only[e0,e1,za5,zac,s_br,h,decide_false,decide_true,Bool.false_eq_true,if_false,if_true,zbt,hx']
end Go.AM
namespace Go.AM
open List Go
def lowB(n:Nat):Nat:=if n%64<32 then n+32 else n
theorem lowB_all:((List.range 256).all fun n=>match ze5 .or .u8 (n:Int) 32 with|some (.int .u8 m)=>m==(lowB n:Int)|_=>false)=true:=by kernel_rfl
theorem s_low(n:Nat)(hn:n<256){α:Type}(T:TypeId)(k:Value→Option α):pBin PP .or T (.int .u8 (n:Int)) (.int .u8 32) k=k (.int .u8 (lowB n:Int)):=by
 have h:=all_eq_true.1 lowB_all n (mem_range.2 hn);have e:ze5 .or .u8 (n:Int) 32=some (.int .u8 (lowB n:Int)):=by
  split at h
  ·rename_i m hm;rw[hm,eq_of_beq h]
  ·cases h
 have:binV PP .or T (.int .u8 (n:Int)) (.int .u8 32)=some (.int .u8 (lowB n:Int)):=e;unfold pBin;rw[this]
theorem c_lower(n:Nat)(hn:n<256)(H:Hp):RR At [.int .u8 (n:Int)] H=some (.int .u8 (lowB n:Int),H):=by refine(zfd E0 rfl _ H).trans ?_;unfold zcS;rw[s_low n hn]
def pd(n:Nat):Option Nat:=if 48≤n∧n≤57 then some (n-48) else if 97≤lowB n∧lowB n≤122 then some (lowB n-97+10) else none
def pdOk(n base:Nat):Bool:=match pd n with
 |none=>digV n base==-1
 |some d=>d<36&&(if d<base then digV n base==(d:Int) else digV n base==-1)
theorem pd_all:((List.range 256).all fun n=>pdOk n 10&&pdOk n 16)=true:=by kernel_rfl
theorem pd_none{n base:Nat}(hn:n<256)(hb:base=10∨base=16)(h:pd n=none):digV n base=-1:=by
 have:=all_eq_true.1 pd_all n (mem_range.2 hn);rw[Bool.and_eq_true]at this;have:pdOk n base=true:=by rcases hb with rfl|rfl;exact this.1;exact this.2
 unfold pdOk at this;rw[h]at this;exact eq_of_beq this
theorem pd_some{n base d:Nat}(hn:n<256)(hb:base=10∨base=16)(h:pd n=some d):d<36∧(d<base→digV n base=(d:Int))∧(base≤d→digV n base=-1):=by
 have:=all_eq_true.1 pd_all n (mem_range.2 hn);rw[Bool.and_eq_true]at this;have:pdOk n base=true:=by rcases hb with rfl|rfl;exact this.1;exact this.2
 unfold pdOk at this;rw[h]at this;dsimp only at this;rw[Bool.and_eq_true,decide_eq_true_eq]at this;refine⟨this.1,fun q=>?_,fun q=>?_⟩
 ·have h2:=this.2;rw[if_pos q]at h2;exact eq_of_beq h2
 ·have h2:=this.2;rw[if_neg (by omega)]at h2;exact eq_of_beq h2
def zis(l:List UInt8):List Value:=l.map fun b=>Value.int .u8 (b.toNat:Int)
def errP(u c:Int):Value:=.tuple #[.int .u64 u,.iface Aj (.int .i64 c)]
theorem u8w{a:Int}(h0:0≤a)(h1:a≤255):IntKind.u8.wrap a=a:=zdc (k:=.u8) h0 h1
def maxU:Value:=.int .u64 18446744073709551615
theorem u64mod{a:Nat}(h:18446744073709551616≤a)(h2:a<2*18446744073709551616):IntKind.u64.wrap (a:Int)=((a-18446744073709551616:Nat):Int):=by simp[IntKind.wrap,IntKind.signed,IntKind.bits];omega
def ParQ(v base:Nat)(d:Int)(i:Nat)(H:Hp)(r:Outc):Prop:=
 ((d<0∨v>(18446744073709551615-d.toNat)/base)→∃u c,(c=1∨c=2)∧r=(.ret,[errP u c],H)) ∧
 (¬(d<0∨v>(18446744073709551615-d.toNat)/base)→r=(.next,[.bool false,.int .u64 ((v*base+d.toNat:Nat):Int),.int .i64 ((i+1:Nat):Int)],H))
theorem ParQ.bad{v base:Nat}{d:Int}{i:Nat}{H:Hp}(h:d<0∨v>(18446744073709551615-d.toNat)/base)(u c:Int)(hc:c=1∨c=2):ParQ v base d i H (.ret,[errP u c],H):=⟨fun _=>⟨u,c,hc,rfl⟩,fun q=>absurd h q⟩
theorem par_step(l:List UInt8)(hl:l.length≤2^40)(base:Nat)(hb:base=10∨base=16)(xs vb:Value)(H:Hp)(hv:Rdb H 1 vb l.length (zis l))(i v:Nat)(b:UInt8)(hget:l[i]?=some b)(hv2:v≤18446744073709551615) :
  ∃r,zaU RR (.bool false) maxU vb (.int .i64 (l.length:Int)) [xs,.int .i64 (base:Int)] [.int .u64 ((18446744073709551615/base+1:Nat):Int)] [.bool false,.int .u64 (v:Int),.int .i64 (i:Int)] H=some r ∧
   ParQ v base (digV b.toNat base) i H r:=by
 have hi:i<l.length:=(List.getElem?_eq_some_iff.1 hget).1;obtain⟨y,hy,⟨rest,own,hg⟩,hix⟩:=hv.ix hi;have hix':∀(α:Type) (k:Value→Option α),pIdx 1 vb (.int .i64 (i:Int)) k=k (.pointer (some ⟨y,i,none⟩)):=fun α k=>by have:=hix α .i64 k;rwa [Nat.mul_one]at this
 have hld:∀(α:Type) (k:Value→Option α),zak 1 false H (.pointer (some ⟨y,i,none⟩)) k=k (.int .u8 (b.toNat:Int)):=fun α k=>zbO hg i _ (by
  rw[List.getElem?_append_left (by simpa[zis] using hi)]
  simp[zis,hget]) k
 have hn:=UInt8.toNat_lt b;generalize b.toNat=n at hn hld ⊢;have h1:((i:Int)<(l.length:Int)):=by omega
 have hlow:=c_lower n hn H;have hbase8:∀(α:Type) (k:Value→Option α),zan .u8 (.int .i64 (base:Int)) k=k (.int .u8 (base:Int)):=fun α k=>by show k (.int .u8 (IntKind.u8.wrap (base:Int)))=_;rw[u8w (by omega) (by omega)]
 have hbase64:∀(α:Type) (k:Value→Option α),zan .u64 (.int .i64 (base:Int)) k=k (.int .u64 (base:Int)):=fun α k=>by show k (.int .u64 (IntKind.u64.wrap (base:Int)))=_;rw[u64 (by omega) (by omega)]
 have hinc:IntKind.i64.wrap ((i:Int)+1)=((i+1:Nat):Int):=w64 (by omega) (by omega);have tailD:∀d:Nat,pd n=some d→d<36→∃r:Outc,
   (zan .u8 (.int .i64 (base:Int)) fun v131=>
    pBin PP .geq Ad (.int .u8 (d:Int)) v131 fun v132=>
    zaa v132 fun b133=>br b133
    (some (Ctl.ret,[(.tuple #[(.int .u64 0),(.iface Aj (.int .i64 2))])],H))
    (pBin PP .geq Ab (.int .u64 (v:Int)) (.int .u64 ((18446744073709551615/base+1:Nat):Int)) fun v134=>
    zaa v134 fun b135=>br b135
    (some (Ctl.ret,[(.tuple #[maxU,(.iface Aj (.int .i64 1))])],H))
    (zan .u64 (.int .i64 (base:Int)) fun v136=>
    pBin PP .mul Ab (.int .u64 (v:Int)) v136 fun v137=>
    zan .u64 (.int .u8 (d:Int)) fun v138=>
    pBin PP .add Ab v137 v138 fun v139=>
    pBin PP .lss Ab v139 v137 fun v140=>
    zaa v140 fun b141=>br b141
    (some (Ctl.ret,[(.tuple #[maxU,(.iface Aj (.int .i64 1))])],H))
    (pBin PP .gtr Ab v139 maxU fun v142=>
    zaa v142 fun b143=>br b143
    (some (Ctl.ret,[(.tuple #[maxU,(.iface Aj (.int .i64 1))])],H))
    (pBin PP .add Aa (.int .i64 (i:Int)) (.int .i64 1) fun v144=>
    some (Ctl.next,[.bool false,v139,v144],H))))))=some r ∧
   ParQ v base (digV n base) i H r:=by
  intro d hd hd36;obtain⟨_,hlt,hge⟩:=pd_some hn hb hd;rw[hbase8];by_cases hdb:base≤d
  ·have hq:digV n base<0:=by rw[hge hdb];decide
   have:((d:Int)≥(base:Int)):=by omega
   simp only[zbt,zac,s_br,this,decide_true,if_true];exact⟨_,rfl,ParQ.bad (.inl hq) 0 2 (.inr rfl)⟩
  ·have hdv:=hlt (by omega);rw[hdv];have hdb':¬((d:Int)≥(base:Int)):=by omega
   have hd0:¬((d:Int)<0):=by omega
   have hcd:∀(α:Type) (k:Value→Option α),zan .u64 (.int .u8 (d:Int)) k=k (.int .u64 (d:Int)):=fun α k=>by show k (.int .u64 (IntKind.u64.wrap (d:Int)))=_;rw[u64 (by omega) (by omega)]
   by_cases hc:v≥18446744073709551615/base+1
   ·have hq:v>(18446744073709551615-d)/base:=by have:(18446744073709551615-d)/base≤18446744073709551615/base:=Nat.div_le_div_right (by omega);omega
    have hc':((v:Int)≥((18446744073709551615/base+1:Nat):Int)):=by omega
    simp only[zbt,zac,s_br,hdb',hc',decide_true,decide_false,Bool.false_eq_true,if_true,if_false];exact⟨_,rfl,ParQ.bad (.inr hq) _ 1 (.inl rfl)⟩
   ·have hc':¬((v:Int)≥((18446744073709551615/base+1:Nat):Int)):=by omega
    have hb0:0<base:=by omega
    have hm:v*base≤18446744073709551615:=by
     have:v≤18446744073709551615/base:=by omega
     exact(Nat.le_div_iff_mul_le hb0).1 this
    have hmul:IntKind.u64.wrap ((v:Int)*(base:Int))=((v*base:Nat):Int):=by rw[←Int.natCast_mul];exact u64 (by omega) (by omega)
    by_cases ho:v*base+d≤18446744073709551615
    ·have hq:¬(v>(18446744073709551615-d)/base):=by have:v≤(18446744073709551615-d)/base:=(Nat.le_div_iff_mul_le hb0).2 (by omega);omega
     have hadd:IntKind.u64.wrap (((v*base:Nat):Int)+(d:Int))=((v*base+d:Nat):Int):=by rw[←Int.natCast_add];exact u64 (by omega) (by omega)
     have e1:¬(((v*base+d:Nat):Int)<((v*base:Nat):Int)):=by omega
     have e2:¬(((v*base+d:Nat):Int)>18446744073709551615):=by omega
     simp only[zbt,zac,s_br,hdb',hc',decide_true,decide_false,Bool.false_eq_true,if_true,if_false,hbase64,s_mul,hmul,hcd,zaN,hadd,zaV,e1,maxU,zbp,e2,hinc];exact⟨_,rfl,fun q=>absurd q (by intro q;rcases q with q|q;exact hd0 q;exact hq q),fun _=>rfl⟩
    ·have hq:(v>(18446744073709551615-d)/base):=by
      rcases Nat.lt_or_ge ((18446744073709551615-d)/base) v with q|q
      ·exact q
      ·have:=(Nat.le_div_iff_mul_le hb0).1 q;omega
     have hadd:IntKind.u64.wrap (((v*base:Nat):Int)+(d:Int))=((v*base+d-18446744073709551616:Nat):Int):=by rw[←Int.natCast_add];exact u64mod (by omega) (by omega)
     have e1:(((v*base+d-18446744073709551616:Nat):Int)<((v*base:Nat):Int)):=by omega
     simp only[zbt,zac,s_br,hdb',hc',decide_true,decide_false,Bool.false_eq_true,if_true,if_false,hbase64,s_mul,hmul,hcd,zaN,hadd,zaV,e1];exact⟨_,rfl,ParQ.bad (.inr hq) _ 1 (.inl rfl)⟩
 have bad:pd n=none→ParQ v base (digV n base) i H (Ctl.ret,[Value.tuple #[(.int .u64 0),(.iface Aj (.int .i64 2))]],H):=fun hp=>
  ParQ.bad (.inl (by rw[pd_none hn hb hp];decide)) 0 2 (.inr rfl)
 have hl256:lowB n<288:=by unfold lowB;split<;>omega
 unfold zaU;simp only[qg0,qg1,zaV,zac,s_br,h1,decide_true,if_true,hix',hld];have e95:(zav (pBin PP .eql Ad (.int .u8 (n:Int)) (.int .u8 95) fun v91=>zaa v91 fun b92=>br b92 (some (.next,[Value.bool false],H)) (some (.next,[(.bool false)],H))):(Ctl→List Value→Hp→Option Outc)→Option Outc)=fun k=>k .next [.bool false] H:=by funext k;rw[zaF,zac,s_br];split<;>rfl
 have e95':=fun k=>congrFun e95 k;simp only[zac,s_br]at e95';rw[e95',zaA];simp only[qg0,zac,s_br,Bool.false_eq_true,if_false,zb0];by_cases q1:(48:Int)≤(n:Int)<;>by_cases q2:(n:Int)≤57
 ·have hp:pd n=some (n-48):=by unfold pd;rw[if_pos ⟨by omega,by omega⟩]
  have hs:IntKind.u8.wrap ((n:Int)-48)=((n-48:Nat):Int):=by rw[u8w (by omega) (by omega)];omega
  have hT:=tailD _ hp (by omega);simp only[zb0,zac,s_br,q1,q2,decide_true,if_true,zbK,hs,zaN,zal,zaA,qg0,qg1]at hT ⊢;exact hT
 all_goals
  have hno:¬(48≤n∧n≤57):=by omega
  by_cases q3:(97:Int)≤(lowB n:Int)<;>by_cases q4:(lowB n:Int)≤122
  ·have hp:pd n=some (lowB n-97+10):=by unfold pd;rw[if_neg hno,if_pos ⟨by omega,by omega⟩]
   have hs:IntKind.u8.wrap ((lowB n:Int)-97)=((lowB n-97:Nat):Int):=by rw[u8w (by omega) (by omega)];omega
   have ha:IntKind.u8.wrap (((lowB n-97:Nat):Int)+10)=((lowB n-97+10:Nat):Int):=by rw[u8w (by omega) (by omega)];omega
   have hT:=tailD _ hp (by omega);simp only[zb0,zac,s_br,q1,q2,q3,q4,decide_true,decide_false,Bool.false_eq_true,if_true,if_false,zaf hlow,zbK,hs,zaN,ha,zal,zaA,qg0,qg1]at hT ⊢;exact hT
  all_goals
   have hp:pd n=none:=by unfold pd;rw[if_neg hno,if_neg (by omega)]
   simp only[zb0,zac,s_br,q1,q2,q3,q4,decide_true,decide_false,Bool.false_eq_true,if_true,if_false,zaf hlow,zal,zbZ,headD_cons];exact⟨_,rfl,bad hp⟩
theorem zpV(l:List UInt8)(hl:l.length≤2^40)(base:Nat)(hb:base=10∨base=16)(xs vb:Value)(H:Hp)(hv:Rdb H 1 vb l.length (zis l)):∀(rest:List UInt8) (i v:Nat),l.drop i=rest→i≤l.length→v≤18446744073709551615 →
  ∃r,zas (zaU RR (.bool false) maxU vb (.int .i64 (l.length:Int)) [xs,.int .i64 (base:Int)] [.int .u64 ((18446744073709551615/base+1:Nat):Int)]) [.bool false,.int .u64 (v:Int),.int .i64 (i:Int)] H=some r ∧
   match numL base rest v with
   |some x=>r=(.exit 3,[.bool false,.int .u64 (x:Int),.int .i64 (l.length:Int)],H)
   |none=>∃u c,(c=1∨c=2)∧r=(.ret,[errP u c],H)
 |[],i,v,hr,hi,hv2=>by
  have hil:i=l.length:=by have:=congrArg List.length hr;rw[length_drop]at this;simp at this;omega
  have this:zaU RR (.bool false) maxU vb (.int .i64 (l.length:Int)) [xs,.int .i64 (base:Int)] [.int .u64 ((18446744073709551615/base+1:Nat):Int)] [.bool false,.int .u64 (v:Int),.int .i64 (i:Int)] H=some (.exit 3,[.bool false,.int .u64 (v:Int),.int .i64 (i:Int)],H):=by
   unfold zaU;have h1:¬((i:Int)<(l.length:Int)):=by omega
   simp only[qg0,qg1,zaV,zac,s_br,h1,decide_false,Bool.false_eq_true,if_false]
  subst hil;exact⟨_,(by rw[zai,this];rfl),rfl⟩
 |b::r,i,v,hr,hi,hv2=>by
  have hlt:i<l.length:=by have:=congrArg List.length hr;rw[length_drop]at this;simp at this;omega
  have hget:l[i]?=some b:=by have:=congrArg (fun x=>x[0]?) hr;simpa using this
  have hr2:l.drop (i+1)=r:=by rw[←drop_drop,hr];rfl
  obtain⟨o,h1,h2⟩:=par_step l hl base hb xs vb H hv i v b hget hv2;unfold numL;by_cases h0:digV b.toNat base<0
  ·rw[if_pos h0];obtain⟨u,c,hc,rfl⟩:=h2.1 (.inl h0);exact⟨_,(by rw[zai,h1];rfl),u,c,hc,rfl⟩
  ·rw[if_neg h0];by_cases h3:v>(18446744073709551615-(digV b.toNat base).toNat)/base
   ·rw[if_pos h3];obtain⟨u,c,hc,rfl⟩:=h2.1 (.inr h3);exact⟨_,(by rw[zai,h1];rfl),u,c,hc,rfl⟩
   ·rw[if_neg h3];have h2:=h2.2 (by intro q;rcases q with q|q;exact h0 q;exact h3 q);subst h2;have hd:=zpj b.toNat base;have hm:v*base≤18446744073709551615-(digV b.toNat base).toNat:=by
     have:v≤(18446744073709551615-(digV b.toNat base).toNat)/base:=by omega
     exact(Nat.le_div_iff_mul_le (by omega)).1 this
    rw[zai,h1];exact zpV l hl base hb xs vb H hv r (i+1) _ hr2 hlt (by omega)
end Go.AM
namespace Go.AM
open Go
theorem run_ext{P:Program}{O:Orc}{ext:FuncId→Option (List Value→Hp→Option (Value×Hp))}{g:FuncId}{fn:Func}{e:List Value→Hp→Option (Value×Hp)}(hf:P.funcs[g]?=some fn)(hn:(fn.name == "runtime.NumGoroutine")=false)(hb:fn.body.isSome=true)(hx:ext g=some e)(xs:List Value)(H:Hp) :
  run P O ext g xs H=e xs H:=by
 rw[run_eq];unfold zjp;rw[hf];dsimp only;rw[hn];dsimp only;obtain⟨c,hc⟩:=Option.isSome_iff_exists.1 hb;rw[hc];dsimp only;rw[hx]
def bv(l:List UInt8):List Value:=l.map fun b=>Value.int .u8 (b.toNat:Int)
section
end
section
end
structure Tabs(H:Hp):Prop where
 pow:∃cs e fz,H.get AH=some (.fix (.cells cs e fz))∧zl9 .u64 cs.toList zqW=true
 spc:∃cs e fz,H.get AG=some (.fix (.cells cs e fz))∧zl9 .u8 cs.toList zlm=true
 bru:∃cs e fz,H.get A2=some (.fix (.cells cs e fz))∧cs.toList[15]?=some (.int .u8 4)
end Go.AM
namespace Go.AM
open List Go
theorem ze0{α:Type}(T:TypeId)(a b:List UInt8)(k:Value→Option α):pBin PP .eql T (str a) (str b) k=k (.bool (a==b)):=by show pBin PP .eql T (.string (ba a)) (.string (ba b)) k=_;rw[zpG,ze8,ze8]
theorem zcW{α:Type}(l:List UInt8)(H:Hp)(k:Value→Option α):pLen .str (str l) H k=k (.int .i64 (l.length:Int)):=by show k (.int .i64 ((ba l).size:Int))=_;rw[zco]
theorem zne{α:Type}(l:List UInt8)(hl:l.length≤2^40)(H:Hp)(k:Value→Hp→Option α):zd7 (str l) H k=k (.slice (some ⟨H.next,0,some 1⟩) l.length l.length) (H.new (.cells (zis l) true)):=by show (if (ba l).size≤2^47 then k (.slice (some ⟨H.next,0,some 1⟩) (ba l).size (ba l).size) (H.new (.cells ((ba l).data.toList.map fun b=>.int .u8 (b.toNat:Int)) true)) else none)=_;rw[zco,ze8,if_pos (by omega)];rfl
theorem u8conv:IntKind.u64.wrap 64=64:=by decide
theorem shl64{α:Type}(T:TypeId)(k:Value→Option α):pBin PP .shl T (.int .u64 1) (.int .u64 64) k=k (.int .u64 0):=by
 have:binV PP .shl T (.int .u64 1) (.int .u64 64)=some (.int .u64 0):=by show shOp .shl .u64 1 64=_;kernel_rfl
 unfold pBin;rw[this]
def numB(base:Nat)(l:List UInt8):Option Nat:=if l=[] then none else numL base l 0
theorem c_iparse(l:List UInt8)(hl:l.length≤2^40)(base:Nat)(hb:base=10∨base=16)(H:Hp):∃r H',RR Bi [str l,.int .i64 (base:Int),.int .i64 64] H=some (r,H')∧Frm (fun _=>False) H H' ∧
  match numB base l with
  |some x=>r=.tuple #[.int .u64 (x:Int),.nilIface]
  |none=>∃u c,(c=1∨c=2)∧r=errP u c:=by
 by_cases h0:l=[]
 ·refine⟨errP 0 2,H,?_,Frm.refl _ _,?_⟩
  ·refine(zcq E0 rfl _ _ _ H).trans ?_;rw[zcu];have he:∀{α:Type} (k:Value→Option α),pBin PP .eql Ac (str l) (.string ⟨#[]⟩) k=k (.bool (l==[])):=fun k=>ze0 Ac l [] k;rw[he,h0,zac,s_br,if_pos (by rfl)];rfl
  ·unfold numB;rw[if_pos h0];exact⟨0,2,.inr rfl,rfl⟩
 ·let H1:=H.new (.cells (zis l) true)
  have hv:Rdb H1 1 (.slice (some ⟨H.next,0,some 1⟩) l.length l.length) l.length (zis l):=
   .inr ⟨H.next,l.length,[],true,rfl,Nat.le_refl _,by rw[append_nil];exact if_pos rfl,by simp[zis],by show H.next<H.next+1;omega⟩
  have hf:Frm (fun _=>False) H H1:=zcv _ _ _;obtain⟨o,h1,h2⟩:=zpV l hl base hb (str l) _ H1 hv l 0 0 rfl (Nat.zero_le _) (by omega);have hrun:RR Bi [str l,.int .i64 (base:Int),.int .i64 64] H=zav (some o) fun q146 l147 H148=>zaB q146 none
    (fun i149=>zax i149 3 (
    zaa (l147.getD 0 undef) fun b150=>br b150
    (zad RR CD [str l] H148 fun r151 H152=>
    pUn .not r151 fun v153=>
    zaa v153 fun b154=>br b154
    (some ((.tuple #[(.int .u64 0),(.iface Aj (.int .i64 2))]),H152))
    (some ((.tuple #[(l147.getD 1 undef),.nilIface]),H152)))
    (some ((.tuple #[(l147.getD 1 undef),.nilIface]),H148))) (
    none))
    (some ((l147.headD undef),H148)):=by
   refine(zcq E0 rfl _ _ _ H).trans ?_;rw[zcu];have he:∀{α:Type} (k:Value→Option α),pBin PP .eql Ac (str l) (.string ⟨#[]⟩) k=k (.bool (l==[])):=fun k=>ze0 Ac l [] k;have hne:(l==[])=false:=by rw[beq_eq_false_iff_ne];exact h0
   have b0:¬((base:Int)=0):=by omega
   have b1:(2:Int)≤(base:Int):=by omega
   have b2:(base:Int)≤36:=by omega
   have c0:¬((64:Int)=0):=by decide
   have c1:¬((64:Int)<0):=by decide
   have c2:¬((64:Int)>64):=by decide
   have hcv:∀{α:Type} (k:Value→Option α),zan .u64 (.int .i64 64) k=k (.int .u64 64):=fun k=>by show k (.int .u64 (IntKind.u64.wrap 64))=_;rw[u8conv]
   have hsub:∀{α:Type} (k:Value→Option α),pBin PP .sub Ab (.int .u64 0) (.int .u64 1) k=k maxU:=fun k=>by rw[zbK];rfl
   have hlen:∀{α:Type} (k:Value→Option α),pLen .sl (.slice (some ⟨H.next,0,some 1⟩) l.length l.length) (H.new (.cells (zis l) true)) k=k (.int .i64 (l.length:Int)):=fun k=>rfl;simp only[he,hne,zac,s_br,Bool.false_eq_true,if_false,zaF,b0,b1,b2,decide_false,decide_true,if_true,zb0,zal,zaA,qg0,qg1,c0,c1,c2,zaV,zbp];rcases hb with rfl|rfl
   ·have d0:((10:Nat):Int)=10:=rfl;simp only[d0,decide_true,if_true,zal,zaA,hcv,shl64,hsub,zne l hl,hlen];exact congrArg (fun z=>zav z _) h1
   ·have d0:¬((16:Int)=10):=by decide
    have d1:((16:Nat):Int)=16:=rfl;simp only[d0,d1,decide_true,decide_false,Bool.false_eq_true,if_false,if_true,zal,zaA,hcv,shl64,hsub,zne l hl,hlen];exact congrArg (fun z=>zav z _) h1
  unfold numB;rw[if_neg h0];cases hn:numL base l 0 with
  |some x=>
   rw[hn]at h2;subst h2;exact⟨_,H1,hrun,hf,rfl⟩
  |none=>
   rw[hn]at h2;obtain⟨u,c,hc,rfl⟩:=h2;exact⟨_,H1,hrun,hf,u,c,hc,rfl⟩
structure Laid(H:Hp):Prop where
 next:PP.globals.size≤H.next
 tabs:Tabs H
 syn:∃cs ty fz,H.get Az=some (.fix (.cells cs ty fz))∧isErr cs.toList=true
 rng:∃cs ty fz,H.get AA=some (.fix (.cells cs ty fz))∧isErr cs.toList=true
theorem Laid.keep{H H':Hp}{M:Nat→Prop}(h:Laid H)(k:Frm M H H')(hm:∀j,M j→PP.globals.size≤j):Laid H':=by
 have e:∀g,g<PP.globals.size→H'.get g=H.get g:=fun g hg=>k.same g (by have:=h.next;omega) fun q=>by have:=hm g q;omega
 exact⟨Nat.le_trans h.next k.next,⟨by rw[e _ (by rw[zlb];decide)];exact h.tabs.pow,by rw[e _ (by rw[zlb];decide)];exact h.tabs.spc,by rw[e _ (by rw[zlb];decide)];exact h.tabs.bru⟩,
  by rw[e _ (by rw[zlb];decide)];exact h.syn,by rw[e _ (by rw[zlb];decide)];exact h.rng⟩
theorem c_toerr(fn:ByteArray)(l:List UInt8)(hl:l.length≤2^40)(b:Int)(c:Int)(hc:c=1∨c=2)(H:Hp)(hL:Laid H) :
  ∃t v,RR Bj [.string fn,str l,.int .i64 b,.int .i64 64,.iface Aj (.int .i64 c)] H=some (.iface t v,H.skip):=by
 refine⟨Ct,.pointer (some ⟨H.next,0,none⟩),?_⟩;have hE:E0 Bj=some zn3:=rfl;have:RR Bj [.string fn,str l,.int .i64 b,.int .i64 64,.iface Aj (.int .i64 c)] H=zn3 [.string fn,str l,.int .i64 b,.int .i64 64,.iface Aj (.int .i64 c)] H:=run_ext Go.Proofs.Tryz.func161 (by kernel_rfl) (by kernel_rfl) hE _ _;rw[this];have hg:∃cs ty fz,H.get (if c=2 then Az else AA)=some (.fix (.cells cs ty fz))∧isErr cs.toList=true:=by
  rcases hc with rfl|rfl
  ·exact hL.rng
  ·exact hL.syn
 obtain⟨cs,ty,fz,h1,h2⟩:=hg;show (if Aj=Aj∧(ba l).size≤281474976710656∧(c=1∨c=2) then _ else _)=_;rw[if_pos ⟨rfl,by rw[zco];omega,hc⟩,h1];dsimp only;rw[h2]
theorem skip_fr(H:Hp):Frm (fun _=>False) H H.skip:=⟨by show H.next≤H.next+1;omega,fun _ _ _=>rfl⟩
theorem c_parse(l:List UInt8)(hl:l.length≤2^40)(base:Nat)(hb:base=10∨base=16)(H:Hp)(hL:Laid H):∃r H',RR BN [str l,.int .i64 (base:Int),.int .i64 64] H=some (r,H')∧Frm (fun _=>False) H H' ∧
  match numB base l with
  |some x=>r=.tuple #[.int .u64 (x:Int),.nilIface]
  |none=>∃u t v,r=.tuple #[.int .u64 u,.iface t v]:=by
 obtain⟨r,H',h1,h2,h3⟩:=c_iparse l hl base hb H;have hrun:=zhe E0 rfl (str l) (.int .i64 (base:Int)) (.int .i64 64) H;unfold zel at hrun;rw[zaf h1]at hrun;cases hn:numB base l with
 |some x=>
  rw[hn]at h3;subst h3;refine⟨_,H',hrun.trans ?_,h2,rfl⟩;rw[x01];rfl
 |none=>
  rw[hn]at h3;obtain⟨u,c,hc,rfl⟩:=h3;obtain⟨t,v,h4⟩:=c_toerr ⟨#[80,97,114,115,101,85,105,110,116]⟩ l hl (base:Int) c hc H' (hL.keep h2 fun j q=>q.elim);refine⟨.tuple #[.int .u64 u,.iface t v],H'.skip,hrun.trans ?_,h2.trans (skip_fr H') fun j q=>q.elim,u,t,v,rfl⟩;unfold errP;rw[x01];have e:∀{α:Type} (k:Value→Option α),zfH PP .neq Bm (.iface Aj (.int .i64 c)) k=k (.bool true):=fun k=>rfl;rw[e,zac,s_br,if_pos rfl,zaf h4]
theorem c_cutp(l:List UInt8)(H:Hp):RR Ck [str l,.string ⟨#[48,120]⟩] H=some (if l.take 2=[48,120] then .tuple #[str (l.drop 2),.bool true] else .tuple #[str l,.bool false],H):=by
 have hp:RR Ci [str l,str [48,120]] H=some (.bool (decide (l.take 2=[48,120])),H):=by
  refine(zc9 E0 rfl _ _ H).trans ?_;unfold zb7;simp only[zcW,zbt,zac,s_br];by_cases h:l.length≥2
  ·have h':((l.length:Int)≥(([48,120]:List UInt8).length:Int)):=by show (l.length:Int)≥2;omega
   rw[if_pos (decide_eq_true h'),s_upto l .i64 (m:=([48,120]:List UInt8).length) h,ze0];have e:(l.take ([48,120]:List UInt8).length==[48,120])=decide (l.take 2=[48,120]):=by rw[Bool.eq_iff_iff];simp
   rw[e]
  ·have h':¬((l.length:Int)≥(([48,120]:List UInt8).length:Int)):=by show ¬(l.length:Int)≥2;omega
   rw[if_neg (fun q=>h' (of_decide_eq_true q))];have:¬(l.take 2=[48,120]):=fun e=>by have:=congrArg List.length e;rw[length_take]at this;simp at this;omega
   rw[decide_eq_false this]
 have hc:RR BL [str l,str [48,120]] H=some (if l.take 2=[48,120] then .tuple #[str (l.drop 2),.bool true] else .tuple #[str l,.bool false],H):=by
  refine(zda E0 rfl _ _ H).trans ?_;unfold zb8;rw[zaf hp,za9,zac,s_br];by_cases h:l.take 2=[48,120]
  ·rw[decide_eq_true h,if_neg (by decide),if_pos h,zcW];have hl2:2≤l.length:=by have:=congrArg List.length h;rw[length_take]at this;simp at this;omega
   have:=s_from l .i64 (m:=2) hl2 (fun v6=>some ((Value.tuple #[v6,.bool true]),H));exact this
  ·rw[decide_eq_false h,if_pos (by decide),if_neg h]
 refine(zhd E0 rfl _ _ H).trans ?_;unfold zek;have hc':RR BL [str l,.string ⟨#[48,120]⟩] H=_:=hc;rw[zaf hc'];by_cases h:l.take 2=[48,120]
 ·rw[if_pos h,x01]
 ·rw[if_neg h,x01]
theorem zpk(l:List UInt8)(i:Nat)(hi:i<l.length){c:Nat}(hc:c<128)(h:((Utf8.decode (ba l) i).1:Int)=(c:Int)):(l.getD i 0).toNat=c:=by
 rw[Go.Lib.decode_at,zco]at h;simp only[ba_get]at h;have hs:=zn7 (l.length-i) (l.getD i 0).toNat (l.getD (i+1) 0).toNat (l.getD (i+2) 0).toNat (l.getD (i+3) 0).toNat (by omega);generalize Go.Lib.decodeN (l.length-i) (l.getD i 0).toNat (l.getD (i+1) 0).toNat (l.getD (i+2) 0).toNat (l.getD (i+3) 0).toNat=q at hs h;obtain⟨r,w⟩:=q;rcases hs with⟨h1,h2⟩|⟨h1,h2⟩|⟨h1,h2,h3,h4,h5⟩|⟨h1,h2,h3,h3',h4,h5⟩|⟨h1,h2,h3,h3',h3'',h4,h5⟩
 ·cases h2;dsimp only at h;omega
 ·cases h2;dsimp only at h;omega
 all_goals (dsimp only at h h5;omega)
theorem zp3(base:Nat):∀(l:List UInt8) (v:Nat),(∃b∈l,digV b.toNat base<0)→numL base l v=none
 |[],v,⟨b,hb,_⟩=>by cases hb
 |a::r,v,⟨b,hb,hd⟩=>by
  unfold numL;by_cases h0:digV a.toNat base<0
  ·rw[if_pos h0]
  ·rw[if_neg h0];split
   ·rfl
   ·rcases mem_cons.1 hb with q|q
    ·subst q;exact absurd hd h0
    ·exact zp3 base r _ ⟨b,q,hd⟩
theorem sign_bad{b:UInt8}{base:Nat}(hb:base=10∨base=16)(h:b.toNat=95∨b.toNat=43∨b.toNat=45):digV b.toNat base<0:=by rcases hb with rfl|rfl<;>rcases h with h|h|h<;>rw[h]<;>decide
theorem sign_loop(l:List UInt8)(hl:l.length≤2^40)(H:Hp):∀(m i:Nat),l.length-i=m→i≤l.length →
  zas (zbF RR) [zdK l i] H=some (.exit 0,[zdK l l.length],H)∨(zas (zbF RR) [zdK l i] H=some (.ret,[badN],H)∧∃b∈l,b.toNat=95∨b.toNat=43∨b.toNat=45):=by
 intro m;induction m using Nat.strongRecOn with
 |_ m ih=>
 intro i hm hi;by_cases he:i=l.length
 ·left;subst he;have hb:Nat.blt l.length (ba l).size=false:=by rw[zco];exact Bool.eq_false_iff.2 fun q=>by rw[Nat.blt_eq]at q;exact Nat.lt_irrefl _ q
  have:zbF RR [zdK l l.length] H=some (.exit 0,[zdK l l.length],H):=by show br (Nat.blt l.length (ba l).size) _ _=_;rw[hb];rfl
  rw[zai,this];rfl
 ·have hlt:i<l.length:=by omega
  have hb:Nat.blt i (ba l).size=true:=by rw[zco];rw[Nat.blt_eq];exact hlt
  obtain⟨d1,d2,_⟩:=dec_sp l i hlt;have hmem:l.getD i 0∈l:=by rw[getD_eq_getElem?_getD,List.getElem?_eq_getElem hlt];exact getElem_mem hlt
  have hstep:zbF RR [zdK l i] H =
    (if ((Utf8.decode (ba l) i).1:Int)=95 then some (.ret,[badN],H) else if ((Utf8.decode (ba l) i).1:Int)=43 then some (.ret,[badN],H) else if ((Utf8.decode (ba l) i).1:Int)=45 then some (.ret,[badN],H) else some (.next,[zdK l (i+(Utf8.decode (ba l) i).2)],H)):=by
   show br (Nat.blt i (ba l).size) (pBin PP .eql Ai (.int .i32 (Utf8.decode (ba l) i).1) (.int .i32 95) fun v13=>zaa v13 fun b14=>br b14 (some (Ctl.ret,[(.tuple #[(.int .u64 0),(.int .i64 10)])],H))
    (pBin PP .eql Ai (.int .i32 (Utf8.decode (ba l) i).1) (.int .i32 43) fun v15=>zaa v15 fun b16=>br b16 (some (Ctl.ret,[(.tuple #[(.int .u64 0),(.int .i64 10)])],H))
    (pBin PP .eql Ai (.int .i32 (Utf8.decode (ba l) i).1) (.int .i32 45) fun v17=>zaa v17 fun b18=>br b18 (some (Ctl.ret,[(.tuple #[(.int .u64 0),(.int .i64 10)])],H))
    (some (Ctl.next,[zdK l (i+(Utf8.decode (ba l) i).2)],H))))) _=_
   rw[hb];simp only[zaF,zac,s_br,decide_eq_true_eq,if_true];rfl
  rw[zai,hstep];by_cases h1:((Utf8.decode (ba l) i).1:Int)=95
  ·right;rw[if_pos h1];exact⟨rfl,_,hmem,.inl (zpk l i hlt (c:=95) (by decide) h1)⟩
  ·rw[if_neg h1];by_cases h2:((Utf8.decode (ba l) i).1:Int)=43
   ·right;rw[if_pos h2];exact⟨rfl,_,hmem,.inr (.inl (zpk l i hlt (c:=43) (by decide) h2))⟩
   ·rw[if_neg h2];by_cases h3:((Utf8.decode (ba l) i).1:Int)=45
    ·right;rw[if_pos h3];exact⟨rfl,_,hmem,.inr (.inr (zpk l i hlt (c:=45) (by decide) h3))⟩
    ·rw[if_neg h3];exact ih (l.length-(i+(Utf8.decode (ba l) i).2)) (by omega) (i+(Utf8.decode (ba l) i).2) rfl d2
theorem numP_eq(l:List UInt8):numP l=if l.take 2=[48,120] then numB 16 (l.drop 2) else numB 10 l:=by
 unfold numP numB
 match l with
 |[]=>rfl
 |[a]=>simp
 |a::b::r=>
  simp only[List.getElem?_cons_zero,List.getElem?_cons_succ,take_succ_cons,take_zero,qd1,qd0,length_cons,Option.some.injEq,List.cons.injEq,and_true];by_cases h:a=48∧b=120
  ·rw[if_pos h,if_pos h];by_cases hr:r=[]
   ·subst hr;rfl
   ·rw[if_neg hr,if_neg (fun e=>hr (length_eq_zero_iff.1 (by omega)))]
  ·rw[if_neg h,if_neg h,if_neg (by omega),if_neg (by simp)]
theorem zqw(l:List UInt8)(hl:l.length≤2^40)(H:Hp)(hL:Laid H):∃H',RR AR [str l] H=some (numV (numP l),H')∧Frm (fun _=>False) H H':=by
 have hrun:=(zmp E0 rfl (str l) H)
 rw[zmI,zaf (c_cutp l H)]at hrun
 have tail:∀(d:List UInt8) (base:Nat),(base=10∨base=16)→d.length≤2^40→∃H',(zla (str d) fun s10=>
   zav (zas (zbF RR) [(.tuple #[.string s10,.int .i64 (0:Nat)])] H) fun q19 l20 H21=>zaB q19 none
   (fun i22=>zax i22 0 (
   zad RR BN [str d,(.int .i64 (base:Int)),(.int .i64 64)] H21 fun r23 H24=>
   zah r23 0 fun v25=>
   zah r23 1 fun v26=>
   zfH PP .neq Bm v26 fun v27=>
   zaa v27 fun b28=>br b28
   (some ((.tuple #[(.int .u64 0),(.int .i64 10)]),H24))
   (some ((.tuple #[v25,(.int .i64 0)]),H24))) (
   none))
   (some ((l20.headD undef),H21)))=some (numV (numB base d),H')∧Frm (fun _=>False) H H':=by
  intro d base hb hd;have e:∀(k:ByteArray→Option (Value×Hp)),zla (str d) k=k (ba d):=fun k=>rfl;rw[e];rcases sign_loop d hd H d.length 0 rfl (Nat.zero_le _) with h|⟨h,b,hm,hs⟩
  ·have h:zas (zbF RR) [(.tuple #[.string (ba d),.int .i64 (0:Nat)])] H=_:=h;obtain⟨r,H',h1,h2,h3⟩:=c_parse d hd base hb H hL;refine⟨H',?_,h2⟩;rw[h,zal,za0,zaz,zaf h1];cases hn:numB base d with
   |some x=>
    rw[hn]at h3;subst h3;rfl
   |none=>
    rw[hn]at h3;obtain⟨u,t,v,rfl⟩:=h3;rfl
  ·have h:zas (zbF RR) [(.tuple #[.string (ba d),.int .i64 (0:Nat)])] H=_:=h;refine⟨H,?_,Frm.refl _ _⟩;rw[h,zal,zbZ];have:numB base d=none:=by unfold numB;rw[if_neg (fun e=>by subst e;cases hm)];exact zp3 base d 0 ⟨b,hm,sign_bad hb hs⟩
   rw[this];rfl
 rw[numP_eq];by_cases h:l.take 2=[48,120]
 ·obtain⟨H',h1,h2⟩:=tail (l.drop 2) 16 (.inr rfl) (by rw[length_drop];omega);refine⟨H',hrun.trans ?_,h2⟩;rw[if_pos h,if_pos h,x01];exact h1
 ·obtain⟨H',h1,h2⟩:=tail l 10 (.inl rfl) hl;refine⟨H',hrun.trans ?_,h2⟩;rw[if_neg h,if_neg h,x01];exact h1
theorem zca{h:zag}{g:FuncId}{args:List Value}{H:Hp}{v:Value}{H':Hp}(e:h g args H=some (W1 v,H')){α:Type}(kp k:Value→Hp→Option α):zbI h g args H kp k=k v H':=by unfold zbI;rw[e];rfl
theorem zcb{h:zag}{g:FuncId}{args:List Value}{H:Hp}{v:Value}{H':Hp}(e:h g args H=some (W0 v,H')){α:Type}(kp k:Value→Hp→Option α):zbI h g args H kp k=kp v H':=by unfold zbI;rw[e];rfl
theorem zow{h:zag}{g:FuncId}{args:List Value}{H:Hp}{v:Value}{H':Hp}(e:h g args H=some (W1 v,H')){α:Type}(k:Value→Hp→Option α):zfi h g args H k=k v H':=by unfold zfi;rw[e];rfl
structure RdS(H:Hp)(p:Nat)(sp wv tv:Value)(ws:List (List UInt8)):Prop where
 rd:H.get p=some (.cells [sp,wv,tv] true)
 wd:Wds H wv ws
 wp:¬Id wv p
 pl:p<H.next
 sh:∀w∈ws,w.length≤2^40
theorem RdS.keep{H H':Hp}{p:Nat}{sp wv tv:Value}{ws:List (List UInt8)}{M:Nat→Prop}(h:RdS H p sp wv tv ws)(k:Frm M H H')(hp:¬M p)(hw:∀j,Id wv j→¬M j):RdS H' p sp wv tv ws:=
 ⟨by rw[k.same p h.pl hp];exact h.rd,h.wd.keep k hw,h.wp,Nat.lt_of_lt_of_le h.pl k.next,h.sh⟩
theorem RdS.next{H:Hp}{p:Nat}{sp wv tv:Value}{w:List UInt8}{ws:List (List UInt8)}(h:RdS H p sp wv tv (w::ws)) :
  ∃H' wv',RR Aq [.pointer (some ⟨p,0,none⟩)] H=some (W1 (str w),H')∧RdS H' p sp wv' tv ws∧(∀j,Id wv' j→Id wv j)∧Frm (· = p) H H':=by
 obtain⟨H',wv',h1,h2,h3,h4,h5,h6⟩:=next_some h.rd h.wd h.wp;exact⟨H',wv',h1,⟨h2,h3,fun q=>h.wp (h4 p q),by rw[h6];exact h.pl,fun x hx=>h.sh x (mem_cons_of_mem _ hx)⟩,h4,h5⟩
theorem RdS.stop{H:Hp}{p:Nat}{sp wv tv:Value}(h:RdS H p sp wv tv []):RR Aq [.pointer (some ⟨p,0,none⟩)] H=some (W0 (zcJ 3),H):=next_none h.rd h.wd
def numF(ws:List (List UInt8)):Option Int:=match ws with
 |[]=>none
 |w::_=>if zaQ w<0 then none else some (zaQ w)
def RdA(H:Hp)(p:Nat)(sp wv tv:Value)(ws:List (List UInt8))(f:FuncId)(r:Option Int):Prop:=
 match r with
 |none=>∃H',RR f [.pointer (some ⟨p,0,none⟩)] H=some (W0 (zcJ 3),H')∧Frm (· = p) H H'
 |some v=>∃H' wv',RR f [.pointer (some ⟨p,0,none⟩)] H=some (W1 (.int .i64 v),H')∧RdS H' p sp wv' tv ws.tail∧(∀j,Id wv' j→Id wv j)∧Frm (· = p) H H'
theorem zfb(w:List UInt8):zaQ w=match numP w with|some x=>if x<2147483648 then (x:Int) else -1|none=>-1:=rfl
theorem RdS.number{H:Hp}{p:Nat}{sp wv tv:Value}{ws:List (List UInt8)}(h:RdS H p sp wv tv ws)(hL:Laid H)(hp:PP.globals.size≤p):RdA H p sp wv tv ws Ao (numF ws):=by
 have hrun:=zgy E0 rfl (.pointer (some ⟨p,0,none⟩)) H;unfold zdO at hrun;cases ws with
 |nil=>
  rw[zcb h.stop]at hrun;exact⟨H,hrun,Frm.refl _ _⟩
 |cons w ws=>
  obtain⟨H1,wv',h1,h2,h3,h4⟩:=h.next;have hL1:Laid H1:=hL.keep h4 fun j q=>by rw[q];exact hp
  obtain⟨H2,g1,g2⟩:=zqw w (h.sh w (mem_cons_self ..)) H1 hL1;have h5:RdS H2 p sp wv' tv ws:=h2.keep g2 (fun q=>q) fun _ _ q=>q;have hf:Frm (· = p) H H2:=h4.trans (g2.mono fun j q=>q.elim) fun j q=>.inl q;rw[zca h1,zaf g1]at hrun;unfold numF;dsimp only;cases hn:numP w with
  |none=>
   rw[hn]at hrun;have hs:zaQ w=-1:=by rw[zfb,hn]
   rw[hs,if_pos (by decide)];refine⟨H2,hrun.trans ?_,hf⟩;have e0:∀{α:Type} (k:Value→Option α),zah (numV none) 0 k=k (.int .u64 0):=fun k=>rfl;have e1:∀{α:Type} (k:Value→Option α),zah (numV none) 1 k=k (.int .i64 10):=fun k=>rfl;simp only[e0,e1,za5,zac,s_br,zcA,show ((10:Int)≠0) from by decide,decide_true,if_true,ne_eq,not_false_eq_true]
  |some x=>
   rw[hn]at hrun;have e0:∀{α:Type} (k:Value→Option α),zah (numV (some x)) 0 k=k (.int .u64 (x:Int)):=fun k=>rfl;have e1:∀{α:Type} (k:Value→Option α),zah (numV (some x)) 1 k=k (.int .i64 0):=fun k=>rfl;have hz:¬((0:Int)≠0):=by decide
   by_cases hx:x<2147483648
   ·have hs:zaQ w=(x:Int):=by rw[zfb,hn];exact if_pos hx
    rw[hs,if_neg (by omega)];have hx':¬((x:Int)≥2147483648):=by omega
    have hc:∀{α:Type} (k:Value→Option α),zan .i64 (.int .u64 (x:Int)) k=k (.int .i64 (x:Int)):=fun k=>by show k (.int .i64 (IntKind.i64.wrap (x:Int)))=_;rw[w64 (by omega) (by omega)]
    refine⟨H2,wv',hrun.trans ?_,h5,h3,hf⟩;simp only[e0,e1,za5,zac,s_br,hz,decide_false,Bool.false_eq_true,if_false,zbt,hx',hc]
   ·have hs:zaQ w=-1:=by rw[zfb,hn];exact if_neg hx
    rw[hs,if_pos (by decide)];have hx':((x:Int)≥2147483648):=by omega
    refine⟨H2,hrun.trans ?_,hf⟩;simp only[e0,e1,za5,zac,s_br,hz,decide_false,decide_true,Bool.false_eq_true,if_false,if_true,zbt,hx',zcA]
theorem zjN(w:List UInt8):zaQ w=-1∨(0≤zaQ w∧zaQ w<2147483648):=by
 rw[zfb];cases numP w with
 |none=>exact .inl rfl
 |some x=>
  dsimp only;split
  ·right;omega
  ·exact .inl rfl
theorem numF_bd{ws:List (List UInt8)}{v:Int}(h:numF ws=some v):0≤v∧v<2147483648:=by
 cases ws with
 |nil=>cases h
 |cons w ws=>
  unfold numF at h;dsimp only at h;split at h
  ·cases h
  ·cases h;have:=zjN w;omega
def zj5(ts:List Int)(ws:List (List UInt8)):Option Int:=match numF ws with
 |none=>none
 |some v=>if 1≤v∧v≤ts.length then some (ts.getD (v-1).toNat 0) else none
def i64s(l:List Int):List Value:=l.map fun z=>Value.int .i64 z
theorem RdS.part{H:Hp}{p:Nat}{sp wv tv:Value}{ws:List (List UInt8)}{ts:List Int}(h:RdS H p sp wv tv ws)(hL:Laid H)(hp:PP.globals.size≤p)(ht:Vec H 1 tv ts.length (i64s ts))(htp:¬Id tv p):RdA H p sp wv tv ws BV (zj5 ts ws):=by
 have hrun:=zhO E0 rfl (.pointer (some ⟨p,0,none⟩)) H;unfold zeH at hrun;have hn:=h.number hL hp;unfold zj5;cases hf:numF ws with
 |none=>
  rw[hf]at hn;obtain⟨H',h1,h2⟩:=hn;rw[zcb h1]at hrun;exact⟨H',hrun,h2⟩
 |some v=>
  rw[hf]at hn;obtain⟨H',wv',h1,h2,h3,h4⟩:=hn;have hb:=numF_bd hf;rw[zca h1]at hrun;have ht':Vec H' 1 tv ts.length (i64s ts):=ht.keep h4 fun j hj q=>htp (by rw[q]at hj;exact hj);have hl:=fun (α:Type) (k:Value→Option α)=>zbO h2.rd (0+2) tv rfl k;dsimp only;by_cases hv:1≤v∧v≤ts.length
  ·rw[if_pos hv];have e1:¬(v<1):=by omega
   have e2:¬(v>(ts.length:Int)):=by omega
   have e3:IntKind.i64.wrap (v-1)=(((v-1).toNat:Nat):Int):=by rw[w64 (by omega) (by omega)];omega
   have hi:(v-1).toNat<ts.length:=by omega
   obtain⟨y,hy,⟨rest,hg⟩,hix⟩:=ht'.ix hi;refine⟨H',wv',hrun.trans ?_,h2,h3,h4⟩
   have hld:=fun (α:Type) (k:Value→Option α)=>zbO hg ((v-1).toNat*1) (.int .i64 (ts.getD (v-1).toNat 0)) (by
    rw[Nat.mul_one,List.getElem?_append_left (by simpa[i64s] using hi)]
    rw[i64s,List.getElem?_map,getD_eq_getElem?_getD,List.getElem?_eq_getElem hi];rfl) k
   simp only[zaV,zac,s_br,e1,decide_false,Bool.false_eq_true,if_false,zbA,zaJ,hl,ht'.len,zbp,e2,zbK,e3,hix,hld]
  ·rw[if_neg hv];refine⟨H',hrun.trans ?_,h4⟩;by_cases e1:v<1
   ·simp only[zaV,zac,s_br,e1,decide_true,if_true,zcA]
   ·have e2:(v>(ts.length:Int)):=by omega
    simp only[zaV,zac,s_br,e1,decide_false,decide_true,Bool.false_eq_true,if_false,if_true,zbA,zaJ,hl,ht'.len,zbp,e2,zcA]
end Go.AM
namespace Go.AM
open Go
section
end
theorem bld{α:Type}{P:Program}{t:TypeId}{l:List (Nat×Value)}{v:Value}(h:zg3 P t l=some v)(k:Value→Option α):zaS P t l k=k v:=by unfold zaS;rw[h]
section
variable {α:Type}(k:Value→Option α)
theorem b0(o:Int):zaS PP Ah [(0,.int .i64 o)] k=k (Nd.val ⟨o,0,0,0,0,0,⟨#[]⟩⟩):=bld (by kernel_rfl) k
end
abbrev Res:=Int×Int×List Nd×List (ByteArray×Int)
def Does(H:Hp)(p:Nat)(lim:Int)(sl:Value)(f g:Nat)(fn:FuncId)(args:List Value)(r:Res):Prop:=
 ∃H' sl',RR fn (.pointer (some ⟨p,0,none⟩)::args) H=some (.tuple #[.int .i64 r.1,.int .i64 r.2.1],H')∧MkOk H p lim sl f g r H' sl'
structure zmW(L:List Nd):Prop where
 w:∀m∈L,0≤m.w∧m.w≤64
 l:(L.length+1)*64≤2^47
theorem zmW.len{L:List Nd}(h:zmW L):(L.length:Int)≤4611686018427387904:=by have:=h.l;omega
section
variable {H:Hp}{p f g:Nat}{lim:Int}{L:List Nd}{K:List (ByteArray×Int)}{sl:Value}(h:StF H p lim L K sl f g)(hR:zmW L)
include h hR
theorem d22(n:Nd)(hn:0≤n.num∧n.num<18446744073709551616):Does H p lim sl f g AL [n.val] (mkR lim L K n):=c22 h n hn hR.w hR.l
theorem d31(n:Nd)(hn:0≤n.num∧n.num<18446744073709551616):Does H p lim sl f g AJ [n.val] (mkR lim L K n):=c31 h n hn hR.w hR.l
end
theorem spl7{α:Type}(n:Nd)(k:List Value→Option α):zaD 7 [.int .i64 0,.int .i64 0,.int .i64 0,.int .i64 0,.int .i64 0,.int .u64 0,.string ⟨#[]⟩] 0 n.val k=k n.cells:=by
 have:zbE 7 [.int .i64 0,.int .i64 0,.int .i64 0,.int .i64 0,.int .i64 0,.int .u64 0,.string ⟨#[]⟩] 0 n.val=some n.cells:=by kernel_rfl
 unfold zaD;rw[this]
theorem znM{α:Type}(n:Nd)(k:Value→Option α):zae 1 false n.cells 1 k=k (.int .i64 n.w):=zcc _ 1 _ rfl k
section
end
section
end
section
end
theorem new61{α:Type}(lim:Int)(v w:Nat)(k:Value→Option α):zaS PP Bp [(0,.int .i64 lim),(2,.map (some v)),(3,.map (some w))] k=k (.agg #[.int .i64 lim,.slice none 0 0,.map (some v),.map (some w)]):=bld (by kernel_rfl) k
theorem new33{α:Type}(lim:Int)(v w:Nat)(k:Value→Option α):zaS PP Cr [(0,.int .i64 lim),(2,.map (some v)),(3,.map (some w))] k=k (.agg #[.int .i64 lim,.slice none 0 0,.map (some v),.map (some w)]):=bld (by kernel_rfl) k
def newH(lim:Int)(H:Hp):Hp:=((H.new (.map [])).new (.map [])).new (.cells [.int .i64 lim,.slice none 0 0,.map (some H.next),.map (some (H.next+1))] true)
theorem newH_st(lim:Int)(H:Hp):StF (newH lim H) (H.next+2) lim [] [] (.slice none 0 0) H.next (H.next+1):=by
 refine⟨⟨?_,.inl ⟨rfl,rfl⟩⟩,?_,?_,by omega,by omega,by omega,?_,?_,?_,fun i hi=>by cases hi⟩
 ·exact if_pos rfl
 ·unfold newH;rw[zim,if_neg (by show ¬H.next=H.next+1+1;omega),zim,if_neg (by show ¬H.next=H.next+1;omega),zim,if_pos rfl];rfl
 ·unfold newH;rw[zim,if_neg (by show ¬H.next+1=H.next+1+1;omega),zim];exact if_pos rfl
 ·show H.next+2<H.next+1+1+1;omega
 ·show H.next<H.next+1+1+1;omega
 ·show H.next+1<H.next+1+1+1;omega
theorem zmB(lim:Int)(H:Hp)(j:Nat)(hj:j<H.next):(newH lim H).get j=H.get j:=by unfold newH;rw[zim,if_neg (by show ¬j=H.next+1+1;omega),zim,if_neg (by show ¬j=H.next+1;omega),zim,if_neg (by omega)]
theorem zkp(lim:Int)(H:Hp):(newH lim H).next=H.next+3:=rfl
theorem c16(lim:Int)(H:Hp):RR BT [.int .i64 lim] H=if lim<0 then some (.tuple #[.pointer none,.int .i64 1],H) else some (.tuple #[.pointer (some ⟨H.next+2,0,none⟩),.int .i64 0],newH lim H):=by refine(zqO E0 rfl _ _).trans ?_;unfold zlI;simp only[zaV,zac,s_br,decide_eq_true_eq,zcm,zfj,new61];rfl
theorem c17(lim:Int)(H:Hp):RR BA [.int .i64 lim] H=if lim<0 then some (.tuple #[.pointer none,.int .i64 1],H) else some (.tuple #[.pointer (some ⟨H.next+2,0,none⟩),.int .i64 0],newH lim H):=by refine(zhU E0 rfl _ _).trans ?_;unfold zeN;simp only[zaV,zac,s_br,decide_eq_true_eq,zcm,zfj,new33];rfl
def Foot(p f g:Nat)(sl:Value)(i:Nat):Prop:=i=p∨i=f∨i=g∨slId sl=some i
theorem StF.foot_lt{H:Hp}{p f g:Nat}{lim:Int}{L:List Nd}{K:List (ByteArray×Int)}{sl:Value}(h:StF H p lim L K sl f g){i:Nat}(hi:Foot p f g sl i):i<H.next:=by
 rcases hi with rfl|rfl|rfl|hi
 ·exact h.lp
 ·exact h.lf
 ·exact h.lg
 ·exact(h.sa i hi).2.2.2
theorem StF.keep{H H':Hp}{p f g:Nat}{lim:Int}{L:List Nd}{K:List (ByteArray×Int)}{sl:Value}(h:StF H p lim L K sl f g)(hg:∀i,Foot p f g sl i→H'.get i=H.get i)(hn:H.next≤H'.next):StF H' p lim L K sl f g:=by
 refine⟨⟨?_,?_⟩,?_,?_,h.pf,h.pg,h.fg,Nat.lt_of_lt_of_le h.lp hn,Nat.lt_of_lt_of_le h.lf hn,Nat.lt_of_lt_of_le h.lg hn,fun i hi=>?_⟩
 ·rw[hg p (.inl rfl)];exact h.st.obj
 ·rcases h.st.all with e|⟨j,e,hj⟩
  ·exact .inl e
  ·exact .inr ⟨j,e,by rw[hg j (.inr (.inr (.inr (by rw[e];rfl))))];exact hj⟩
 ·rw[hg f (.inr (.inl rfl))];exact h.fm
 ·rw[hg g (.inr (.inr (.inl rfl)))];exact h.gm
 ·obtain⟨a,b,c,d⟩:=h.sa i hi;exact⟨a,b,c,Nat.lt_of_lt_of_le d hn⟩
end Go.AM
namespace Go.AM
open List Go
structure Inv(lim:Int)(L:List Nd):Prop where
 w:∀m∈L,0≤m.w∧m.w≤64
 parts:∀(i:Nat) m,L[i]?=some m→m.a≤i∧m.b≤i∧m.c≤i
 nod:∀(i j:Nat) m,L[i]?=some m→L[j]?=some m→i=j
 lim:lim>0→(L.length:Int)≤lim
theorem Inv.nil(lim:Int):Inv lim []:=⟨fun m h=>(by cases h),fun i m h=>(by cases h),fun i j m h=>(by cases h),fun h=>by simp;omega⟩
theorem zkn(n m:Nd):zfk n m=true↔n=m:=by cases n;cases m;unfold zfk;simp[zhE]
theorem zi2(n:Nd):∀(L:List Nd) (i q:Nat),zb3 n i L=some q→i≤q∧L[q-i]?=some n
 |[],i,q,h=>by cases h
 |m::r,i,q,h=>by
  unfold zb3 at h;split at h
  ·rename_i e;cases h;have:=(zkn n m).1 e;subst this;exact⟨Nat.le_refl _,by simp⟩
  ·obtain⟨h1,h2⟩:=zi2 n r (i+1) q h;refine⟨by omega,?_⟩;rw[show q-i=(q-(i+1))+1 by omega];simpa using h2
theorem zeE(n:Nd):∀(L:List Nd) (i:Nat),zb3 n i L=none→∀(j:Nat),L[j]?≠some n
 |[],i,h,j,e=>by cases e
 |m::r,i,h,j,e=>by
  unfold zb3 at h;split at h
  ·cases h
  ·rename_i ne;cases j with
   |zero=>simp at e;subst e;exact ne ((zkn _ _).2 rfl)
   |succ j=>exact zeE n r (i+1) h j (by simpa using e)
theorem zmJ{L:List Nd}{m:Nd}{t:Int}(h:isT L t=true):isT (L++[m]) t=true:=by obtain⟨h1,h2⟩:=zbx.1 h;exact zbx.2 ⟨h1,by simp;omega⟩
theorem wT_app{L:List Nd}{m:Nd}{d t:Int}(h:isT L t=true∨t≤0):wT (L++[m]) d t=wT L d t:=by
 rcases h with h|h
 ·obtain⟨h1,h2⟩:=zbx.1 h;unfold wT;rw[if_pos h,if_pos (zmJ h),List.getElem?_append_left (by omega)]
 ·have e1:∀M:List Nd,isT M t=false:=fun M=>by
   cases e:isT M t with
   |false=>rfl
   |true=>have:=(zbx.1 e).1;omega
  unfold wT;rw[if_neg (by rw[e1];decide),if_neg (by rw[e1];decide)]
theorem zcy(op:Int):zaj op=0∨zaj op=1∨zaj op=2∨zaj op=3:=by
 unfold zaj;split
 ·exact .inl rfl
 ·split
  ·exact .inr (.inl rfl)
  ·split
   ·exact .inr (.inr (.inr rfl))
   ·exact .inr (.inr (.inl rfl))
theorem zmu{L:List Nd}{n:Nd}(h1:¬zbz L n=true)(h2:¬zez (zaj n.op) n=true) :
  (isT L n.a=true∨n.a=0)∧(isT L n.b=true∨n.b=0)∧(isT L n.c=true∨n.c=0)∧(zaj n.op≥1→isT L n.a=true)∧(zaj n.op≥2→isT L n.b=true)∧(zaj n.op≥3→isT L n.c=true):=by
 unfold zbz at h1;unfold zez at h2;simp only[Bool.or_eq_true,Bool.and_eq_true,decide_eq_true_eq,Bool.not_eq_true',not_or,not_and,Bool.not_eq_false]at h1 h2;have ha:zaj n.op≥1→isT L n.a=true:=h1.1.1;have hb:zaj n.op≥2→isT L n.b=true:=h1.1.2;have hc:zaj n.op≥3→isT L n.c=true:=h1.2;refine⟨?_,?_,?_,ha,hb,hc⟩
 ·rcases Int.lt_or_le (zaj n.op) 1 with q|q
  ·right;have:=h2.1.1.1.1 q;omega
  ·exact .inl (ha q)
 ·rcases Int.lt_or_le (zaj n.op) 2 with q|q
  ·right;have:=h2.1.1.1.2 q;omega
  ·exact .inl (hb q)
 ·rcases Int.lt_or_le (zaj n.op) 3 with q|q
  ·right;have:=h2.1.1.2 q;omega
  ·exact .inl (hc q)
theorem ziM(s t:ByteArray)(w:Int):∀(K:List (ByteArray×Int)) (i:Nat),zbs s i K=none→zbs s i (K++[(s,w)])=some (i+K.length,w)
 |[],i,h=>by
  show zbs s i [(s,w)]=_;unfold zbs;rw[if_pos ((zhE s s).2 rfl)];rfl
 |(u,v)::r,i,h=>by
  unfold zbs at h;split at h
  ·cases h
  ·rename_i ne;show zbs s i ((u,v)::(r++[(s,w)]))=_;unfold zbs;rw[if_neg ne,ziM s t w r (i+1) h,length_cons];congr 2;omega
theorem zpp{K:List (ByteArray×Int)}{n:Nd}(h:zbG K n=false):zbG (zcN n.name n.w K) n=false:=by
 unfold zcN;cases hq:zbs n.name 0 K with
 |some q=>exact h
 |none=>
  unfold zbG at h ⊢;rw[hq]at h;rw[ziM n.name n.name n.w K 0 hq];simpa using h
structure zmX(L:List Nd)(K:List (ByteArray×Int))(n:Nd):Prop where
 op:¬(n.op<1∨n.op>33)
 w:¬(n.w<0∨n.w>64)
 pt:¬zbz L n=true
 sp:¬zez (zaj n.op) n=true
 so:¬zbP n.op (wT L (-1) n.a) (wT L (-1) n.b) (wT L (-1) n.c)=false
 wi:¬zbV n (wT L (-1) n.a) (wT L (-1) n.b)=false
 nm:¬(n.op=4∧zbG K n=true)
theorem zjY{L:List Nd}{K:List (ByteArray×Int)}{n:Nd}:zcP L K n=0↔zmX L K n:=by
 constructor
 ·intro h;unfold zcP at h;split at h
  ·cases h
  ·split at h
   ·cases h
   ·split at h
    ·cases h
    ·split at h
     ·cases h
     ·split at h
      ·cases h
      ·split at h
       ·cases h
       ·split at h
        ·cases h
        ·constructor<;>assumption
 ·rintro⟨h1,h2,h3,h4,h5,h6,h7⟩
  unfold zcP;rw[if_neg h1,if_neg h2,if_neg h3,if_neg h4,if_neg h5,if_neg h6,if_neg h7]
theorem zmX.app{L:List Nd}{K K':List (ByteArray×Int)}{n m:Nd}(h:zmX L K n)(hk:n.op=4→zbG K' n=false):zmX (L++[m]) K' n:=by
 obtain⟨ga,gb,gc,ha,hb,hc⟩:=zmu h.pt h.sp;have ea:=wT_app (m:=m) (d:=-1) (ga.imp id (fun e=>by omega):isT L n.a=true∨n.a≤0);have eb:=wT_app (m:=m) (d:=-1) (gb.imp id (fun e=>by omega):isT L n.b=true∨n.b≤0);have ec:=wT_app (m:=m) (d:=-1) (gc.imp id (fun e=>by omega):isT L n.c=true∨n.c≤0);refine⟨h.op,h.w,?_,h.sp,?_,?_,fun q=>?_⟩
 ·intro q;unfold zbz at q;simp only[Bool.or_eq_true,Bool.and_eq_true,decide_eq_true_eq,Bool.not_eq_true']at q;rcases q with (⟨q1,q2⟩|⟨q1,q2⟩)|⟨q1,q2⟩
  ·rw[zmJ (ha q1)]at q2;cases q2
  ·rw[zmJ (hb q1)]at q2;cases q2
  ·rw[zmJ (hc q1)]at q2;cases q2
 ·rw[ea,eb,ec];exact h.so
 ·rw[ea,eb];exact h.wi
 ·rw[hk q.1]at q;cases q.2
theorem mk_no{lim:Int}{L:List Nd}{K:List (ByteArray×Int)}{n:Nd}(h:(mkR lim L K n).2.1≠0):mkR lim L K n=(0,(mkR lim L K n).2.1,L,K):=by
 unfold mkR at h ⊢;by_cases he:zcP L K n≠0
 ·rw[if_pos he]
 ·rw[if_neg he]at h ⊢;cases hq:zb3 n 0 L with
  |some q=>rw[hq]at h;exact absurd rfl h
  |none=>
   rw[hq]at h;dsimp only at h ⊢;split at h
   ·rename_i g;rw[if_pos g]
   ·exact absurd rfl h
theorem zkq{lim:Int}{L:List Nd}{K:List (ByteArray×Int)}{n:Nd}(h:(mkR lim L K n).2.1=0):zmX L K n ∧
  ((∃q,zb3 n 0 L=some q∧mkR lim L K n=(((q+1:Nat):Int),0,L,K)) ∨
   (zb3 n 0 L=none∧¬(lim>0∧(L.length:Int)≥lim)∧mkR lim L K n=(((L.length+1:Nat):Int),0,L++[n],if n.op=4 then zcN n.name n.w K else K))):=by
 unfold mkR at h ⊢;by_cases he:zcP L K n≠0
 ·rw[if_pos he]at h;exact absurd h he
 ·rw[if_neg he]at h ⊢;refine⟨zjY.1 (by omega),?_⟩;cases hq:zb3 n 0 L with
  |some q=>exact .inl ⟨q,rfl,rfl⟩
  |none=>
   rw[hq]at h;dsimp only at h ⊢;split at h
   ·cases h
   ·rename_i g;rw[if_neg g];exact .inr ⟨rfl,g,rfl⟩
theorem mk_bd{lim:Int}{L:List Nd}{K:List (ByteArray×Int)}{n:Nd}(h:(mkR lim L K n).2.1=0):1≤(mkR lim L K n).1∧(mkR lim L K n).1≤((mkR lim L K n).2.2.1.length:Int):=by
 obtain⟨hr,⟨q,hq,e⟩|⟨hq,_,e⟩⟩:=zkq h
 ·rw[e];have:=(List.getElem?_eq_some_iff.1 (zi2 n L 0 q hq).2).1;exact⟨by show (1:Int)≤((q+1:Nat):Int);omega,by show ((q+1:Nat):Int)≤(L.length:Int);omega⟩
 ·rw[e];exact⟨by show (1:Int)≤((L.length+1:Nat):Int);omega,by simp⟩
theorem mk_inv{lim:Int}{L:List Nd}{K:List (ByteArray×Int)}{n:Nd}(h:Inv lim L):Inv lim (mkR lim L K n).2.2.1:=by
 by_cases h0:(mkR lim L K n).2.1=0
 ·obtain⟨hr,⟨q,hq,e⟩|⟨hq,hl,e⟩⟩:=zkq h0
  ·rw[e];exact h
  ·rw[e];obtain⟨ga,gb,gc,_,_,_⟩:=zmu hr.pt hr.sp;have bd:∀x:Int,isT L x=true∨x=0→x≤(L.length:Int):=fun x hx=>by
    rcases hx with hx|hx
    ·exact(zbx.1 hx).2
    ·omega
   refine⟨fun m hm=>?_,fun i m hm=>?_,fun i j m hi hj=>?_,fun hp=>?_⟩
   ·rcases mem_append.1 hm with hm|hm
    ·exact h.w m hm
    ·rw[mem_singleton]at hm;subst hm;have:=hr.w;omega
   ·rw[List.getElem?_append]at hm;split at hm
    ·exact h.parts i m hm
    ·rename_i ge;have:i=L.length:=by have:=(List.getElem?_eq_some_iff.1 hm).1;simp at this;omega
     subst this;simp at hm;subst hm;exact⟨bd _ ga,bd _ gb,bd _ gc⟩
   ·have key:∀i:Nat,(L++[n])[i]?=some m→(i<L.length∧L[i]?=some m)∨(i=L.length∧m=n):=fun i hi=>by
     rw[List.getElem?_append]at hi;split at hi
     ·rename_i lt;exact .inl ⟨lt,hi⟩
     ·rename_i ge;have:i=L.length:=by have:=(List.getElem?_eq_some_iff.1 hi).1;simp at this;omega
      subst this;simp at hi;exact .inr ⟨rfl,hi.symm⟩
    rcases key i hi with⟨a1,a2⟩|⟨a1,a2⟩<;>rcases key j hj with⟨b1,b2⟩|⟨b1,b2⟩
    ·exact h.nod i j m a2 b2
    ·rw[b2]at a2;exact absurd a2 (zeE n L 0 hq i)
    ·rw[a2]at b2;exact absurd b2 (zeE n L 0 hq j)
    ·omega
   ·have:¬(L.length:Int)≥lim:=fun q=>hl ⟨hp,q⟩;simp;omega
 ·rw[mk_no h0];exact h
end Go.AM
namespace Go.AM
open Go
section
end
end Go.AM
namespace Go.AM
open List Go
def zce(n:Nd):List Nat:=([n.a,n.b,n.c].take (zaj n.op).toNat).map Int.toNat
def kids(L:List Nd)(t:Nat):List Nat:=match L[t-1]? with
 |some n=>zce n
 |none=>[]
structure Dag(L:List Nd):Prop where
 a:∀(i:Nat) m,L[i]?=some m→(zaj m.op≥1∧1≤m.a∧m.a≤i)∨(zaj m.op<1∧m.a=0)
 b:∀(i:Nat) m,L[i]?=some m→(zaj m.op≥2∧1≤m.b∧m.b≤i)∨(zaj m.op<2∧m.b=0)
 c:∀(i:Nat) m,L[i]?=some m→(zaj m.op≥3∧1≤m.c∧m.c≤i)∨(zaj m.op<3∧m.c=0)
theorem Dag.nil:Dag []:=⟨fun i m h=>(by cases h),fun i m h=>(by cases h),fun i m h=>(by cases h)⟩
theorem zk1{L:List Nd}{n m:Nd}{i:Nat}(h:(L++[n])[i]?=some m):L[i]?=some m∨(i=L.length∧m=n):=by
 rw[List.getElem?_append]at h;split at h
 ·exact .inl h
 ·have:i=L.length:=by have:=(List.getElem?_eq_some_iff.1 h).1;simp at this;omega
  subst this;simp at h;exact .inr ⟨rfl,h.symm⟩
theorem mk_dag{lim:Int}{L:List Nd}{K:List (ByteArray×Int)}{n:Nd}(h:Dag L):Dag (mkR lim L K n).2.2.1:=by
 by_cases h0:(mkR lim L K n).2.1=0
 ·obtain⟨hr,⟨q,hq,e⟩|⟨hq,hl,e⟩⟩:=zkq h0
  ·rw[e];exact h
  ·rw[e];have h1:=hr.pt;have h2:=hr.sp;unfold zbz at h1;unfold zez at h2;simp only[Bool.or_eq_true,Bool.and_eq_true,decide_eq_true_eq,Bool.not_eq_true',not_or,not_and,Bool.not_eq_false]at h1 h2;refine⟨fun i m hm=>?_,fun i m hm=>?_,fun i m hm=>?_⟩
   ·rcases zk1 hm with hm|⟨rfl,rfl⟩
    ·exact h.a i m hm
    ·rcases Int.lt_or_le (zaj m.op) 1 with q|q
     ·have:=h2.1.1.1.1 q;omega
     ·have:=zbx.1 (h1.1.1 q);omega
   ·rcases zk1 hm with hm|⟨rfl,rfl⟩
    ·exact h.b i m hm
    ·rcases Int.lt_or_le (zaj m.op) 2 with q|q
     ·have:=h2.1.1.1.2 q;omega
     ·have:=zbx.1 (h1.1.2 q);omega
   ·rcases zk1 hm with hm|⟨rfl,rfl⟩
    ·exact h.c i m hm
    ·rcases Int.lt_or_le (zaj m.op) 3 with q|q
     ·have:=h2.1.1.2 q;omega
     ·have:=zbx.1 (h1.2 q);omega
 ·rw[mk_no h0];exact h
theorem zkA{L:List Nd}(h:Dag L){i:Nat}{n:Nd}(hn:L[i]?=some n):(zce n).length=(zaj n.op).toNat ∧
  (∀(j:Nat) x,[n.a,n.b,n.c][j]?=some x→j<(zce n).length→(zce n)[j]?=some x.toNat∧1≤x∧x≤i)∧(∀c∈zce n,1≤c∧c≤i):=by
 have ha:=h.a i n hn;have hb:=h.b i n hn;have hc:=h.c i n hn;have key:(zce n).length=(zaj n.op).toNat∧(∀(j:Nat) x,[n.a,n.b,n.c][j]?=some x→j<(zce n).length→(zce n)[j]?=some x.toNat∧1≤x∧x≤i):=by
  rcases zcy n.op with q|q|q|q
  ·refine⟨by simp[zce,q],fun j x hx hj=>?_⟩;simp[zce,q]at hj
  ·refine⟨by simp[zce,q],fun j x hx hj=>?_⟩;simp[zce,q]at hj;subst hj;simp at hx;subst hx;exact⟨by simp[zce,q],by omega,by omega⟩
  ·refine⟨by simp[zce,q],fun j x hx hj=>?_⟩;simp[zce,q]at hj
   match j,hj with
   |0,_=>simp at hx;subst hx;exact⟨by simp[zce,q],by omega,by omega⟩
   |1,_=>simp at hx;subst hx;exact⟨by simp[zce,q],by omega,by omega⟩
  ·refine⟨by simp[zce,q],fun j x hx hj=>?_⟩;simp[zce,q]at hj
   match j,hj with
   |0,_=>simp at hx;subst hx;exact⟨by simp[zce,q],by omega,by omega⟩
   |1,_=>simp at hx;subst hx;exact⟨by simp[zce,q],by omega,by omega⟩
   |2,_=>simp at hx;subst hx;exact⟨by simp[zce,q],by omega,by omega⟩
 refine⟨key.1,key.2,fun c hcm=>?_⟩;obtain⟨j,hj⟩:=List.getElem?_of_mem hcm;have hlt:=(List.getElem?_eq_some_iff.1 hj).1;have hle:j<3:=by have h1:=key.1;rcases zcy n.op with q|q|q|q<;>rw[q]at h1<;>simp at h1<;>omega
 obtain⟨x,hx⟩:∃x,[n.a,n.b,n.c][j]?=some x:=⟨_,List.getElem?_eq_getElem (by simpa using hle)⟩
 obtain⟨h1,h2,h3⟩:=key.2 j x hx hlt;rw[hj]at h1;cases h1;omega
theorem zga{L:List Nd}(h:Dag L){t c:Nat}(ht:1≤t)(hc:c∈kids L t):1≤c∧c<t:=by
 unfold kids at hc;cases hq:L[t-1]? with
 |none=>rw[hq]at hc;cases hc
 |some n=>
  rw[hq]at hc;have:=(zkA h hq).2.2 c hc;omega
def visit(L:List Nd):Nat→Nat→List Nat→List Nat
 |0,_,out=>out
 |k+1,t,out=>if t∈out then out else (kids L t).foldl (fun o c=>visit L k c o) out++[t]
theorem zhw{α β:Type}{f g:α→β→α}:∀(l:List β) (a:α),(∀b∈l,∀a,f a b=g a b)→l.foldl f a=l.foldl g a
 |[],a,h=>rfl
 |b::l,a,h=>by rw[foldl_cons,foldl_cons,h b (mem_cons_self ..)];exact zhw l _ fun b hb=>h b (mem_cons_of_mem _ hb)
theorem zqF{L:List Nd}(h:Dag L):∀(t:Nat),1≤t→∀(k m:Nat) (out:List Nat),t≤k→t≤m→visit L k t out=visit L m t out:=by
 intro t;induction t using Nat.strongRecOn with
 |_ t ih=>
  intro ht k m out hk hm;cases k with
  |zero=>omega
  |succ k=>
   cases m with
   |zero=>omega
   |succ m=>
    unfold visit;split
    ·rfl
    ·congr 1;exact zhw _ _ fun c hc o=>by have:=zga h ht hc;exact ih c this.2 this.1 k m o (by omega) (by omega)
def post(L:List Nd)(t:Nat)(out:List Nat):List Nat:=visit L t t out
def posts(L:List Nd)(l:List Nat)(out:List Nat):List Nat:=l.foldl (fun o c=>post L c o) out
theorem zj3{L:List Nd}(h:Dag L){t:Nat}(ht:1≤t)(out:List Nat):post L t out=if t∈out then out else posts L (kids L t) out++[t]:=by
 unfold post posts;cases t with
 |zero=>omega
 |succ t=>
  show (if t+1∈out then out else _)=_;split
  ·rfl
  ·congr 1;exact zhw _ _ fun c hc o=>by have:=zga h (t:=t+1) ht hc;exact zqF h c this.1 _ _ o (by omega) (Nat.le_refl _)
theorem zmt{L:List Nd}(h:Dag L){t:Nat}(ht:1≤t){out:List Nat}(hm:t∈out):post L t out=out:=by rw[zj3 h ht,if_pos hm]
theorem zmr{L:List Nd}(h:Dag L){t:Nat}(ht:1≤t){out:List Nat}(hm:t∉out):post L t out=posts L (kids L t) out++[t]:=by rw[zj3 h ht,if_neg hm]
theorem zms{L:List Nd}(h:Dag L):∀(t:Nat),1≤t→∀(out:List Nat),(∀x∈out,x∈post L t out)∧t∈post L t out∧(∀x∈post L t out,x∈out∨(1≤x∧x≤t)):=by
 intro t;induction t using Nat.strongRecOn with
 |_ t ih=>
  intro ht out;rw[zj3 h ht];split
  ·rename_i hm;exact⟨fun x hx=>hx,hm,fun x hx=>.inl hx⟩
  ·have key:∀(l:List Nat) (o:List Nat),(∀c∈l,c∈kids L t)→(∀x∈o,x∈posts L l o)∧(∀x∈posts L l o,x∈o∨(1≤x∧x<t)):=by
    intro l;induction l with
    |nil=>exact fun o _=>⟨fun x hx=>hx,fun x hx=>.inl hx⟩
    |cons c l ihl=>
     intro o hl;have hc:=zga h ht (hl c (mem_cons_self ..));obtain⟨g1,g2,g3⟩:=ih c hc.2 hc.1 o;obtain⟨k1,k2⟩:=ihl (post L c o) fun c hc=>hl c (mem_cons_of_mem _ hc);refine⟨fun x hx=>k1 x (g1 x hx),fun x hx=>?_⟩;rcases k2 x hx with q|q
     ·rcases g3 x q with q|q
      ·exact .inl q
      ·exact .inr ⟨q.1,by omega⟩
     ·exact .inr q
   obtain⟨k1,k2⟩:=key (kids L t) out fun c hc=>hc;refine⟨fun x hx=>mem_append_left _ (k1 x hx),by simp,fun x hx=>?_⟩;rcases mem_append.1 hx with q|q
   ·rcases k2 x q with q|q
    ·exact .inl q
    ·exact .inr ⟨q.1,by omega⟩
   ·rw[mem_singleton]at q;subst q;exact .inr ⟨ht,Nat.le_refl _⟩
theorem zgr(L:List Nd)(c:Nat)(l:List Nat)(out:List Nat):posts L (c::l) out=posts L l (post L c out):=rfl
theorem zdq{L:List Nd}(h:Dag L){N:Nat}:∀(l:List Nat) (o:List Nat),(∀c∈l,1≤c∧c≤N)→(∀x∈o,x∈posts L l o)∧(∀x∈l,x∈posts L l o)∧(∀x∈posts L l o,x∈o∨(1≤x∧x≤N))
 |[],o,hl=>⟨fun x hx=>hx,fun x hx=>(by cases hx),fun x hx=>.inl hx⟩
 |c::l,o,hl=>by
  have hc:=hl c (mem_cons_self ..);obtain⟨g1,g2,g3⟩:=zms h c hc.1 o;obtain⟨k1,k2,k3⟩:=zdq h l (post L c o) fun c hc=>hl c (mem_cons_of_mem _ hc);refine⟨fun x hx=>k1 x (g1 x hx),fun x hx=>?_,fun x hx=>?_⟩
  ·rcases mem_cons.1 hx with rfl|hx
   ·exact k1 _ g2
   ·exact k2 x hx
  ·rcases k3 x hx with q|q
   ·rcases g3 x q with q|q
    ·exact .inl q
    ·exact .inr ⟨q.1,by omega⟩
   ·exact .inr q
end Go.AM
namespace Go.AM
open Go
theorem s_pnil{α:Type}{P:Program}(T:TypeId)(a:Addr)(hT:∃t,P.underlying T=some (.pointer t))(k:Value→Option α):pBin P .eql T (.pointer (some a)) (.pointer none) k=k (.bool false):=by
 obtain⟨t,ht⟩:=hT;have:eqT P Op.maxDepth T (.pointer (some a)) (.pointer none)=some false:=by unfold Op.maxDepth;simp only[eqT,ht]
 simp only[pBin,binV,eqOp,this]
theorem zjW{α:Type}{P:Program}(T:TypeId)(hT:∃t,P.underlying T=some (.pointer t))(k:Value→Option α):pBin P .eql T (.pointer none) (.pointer none) k=k (.bool true):=by
 obtain⟨t,ht⟩:=hT;have:eqT P Op.maxDepth T (.pointer none) (.pointer none)=some true:=by unfold Op.maxDepth;simp only[eqT,ht];rfl
 simp only[pBin,binV,eqOp,this]
theorem s_bneq{α:Type}{P:Program}(T:TypeId)(a b:Bool)(hT:P.underlying T=some .bool)(k:Value→Option α):pBin P .neq T (.bool a) (.bool b) k=k (.bool (!(a==b))):=by
 have:eqT P Op.maxDepth T (.bool a) (.bool b)=some (a==b):=by unfold Op.maxDepth;simp only[eqT,hT]
 simp only[pBin,binV,eqOp,this]
theorem und23:∃t,Program.underlying PP An=some (.pointer t):=⟨Bp,by kernel_rfl⟩
theorem und24:∃t,Program.underlying PP A0=some (.pointer t):=⟨Cr,by kernel_rfl⟩
theorem und4:Program.underlying PP Cq=some .bool:=by kernel_rfl
theorem zau{α:Type}(x y:Option α):br false x y=y:=rfl
theorem zaE{α:Type}(x y:Option α):br true x y=x:=rfl
end Go.AM
namespace Go.AM
open List Go Go.ChangeShapes Go.WideShapes Go.ChangeAt Go.RowKit
theorem consL{α:Type}{l:List α}{n:Nat}(h:l.length=n+1):∃a t,l=a::t∧t.length=n:=by
 cases l with
 |nil=>cases h
 |cons a t=>exact⟨a,t,rfl,by simpa using h⟩
theorem decL{X:Type}{ks:List Sc}{cells:X→List Value}{Q:X→Prop}(dec:∀l,OkL ks l→∃o:X,cells o=l∧Q o):∀Ls:List (List Value),(∀l∈Ls,OkL ks l)→∃os:List X,Ls=os.map cells∧∀o∈os,Q o
 |[],_=>⟨[],rfl,fun o h=>by cases h⟩
 |l::Ls,h=>by
  obtain⟨o,h1,h2⟩:=dec l (h l (mem_cons_self ..));obtain⟨os,h3,h4⟩:=decL dec Ls fun l hl=>h l (mem_cons_of_mem _ hl);refine⟨o::os,by rw[h3,map_cons,h1],fun x hx=>?_⟩;rcases mem_cons.1 hx with rfl|hx
  ·exact h2
  ·exact h4 x hx
open Go.Proofs.YtcbmccpkhagckaaGreatDoor in
theorem bulk1{HH:Type}(d:DataW HH):1≤Rows.uptoBulk d:=by cases d<;>first | (rename_i l;cases l<;>simp[Rows.uptoBulk])|simp[Rows.uptoBulk]
open Go.Proofs.YtcbmccpkhagckaaGreatDoor in
theorem zmS{HH:Type}:∀es:List (DataW HH),es.length≤Rows.uptoBulkAll es
 |[]=>Nat.zero_le _
 |d::r=>by have:=zmS r;have:=bulk1 d;simp only[Rows.uptoBulkAll,length_cons];omega
end Go.AM
namespace Go.AM
open List Go
theorem zgu{S:List Value→Hp→Option Outc}{H:Hp}(n:Nat)(hs:∀i,i<n→S [.int .i64 (i:Int)] H=some (.next,[.int .i64 ((i+1:Nat):Int)],H))
  (he:S [.int .i64 (n:Int)] H=some (.exit 0,[.int .i64 (n:Int)],H)):∀k i,i+k=n→zas S [.int .i64 (i:Int)] H=some (.exit 0,[.int .i64 (n:Int)],H)
 |0,i,h=>by
  have:i=n:=by omega
  subst this;rw[zai,he];rfl
 |k+1,i,h=>by rw[zai,hs i (by omega)];exact zgu n hs he k (i+1) (by omega)
def noNd:Nd:=⟨0,0,0,0,0,0,⟨#[]⟩⟩
def zgZ(L:List Nd)(t:Int):Nd:=if isT L t=true then (L[(t-1).toNat]?).getD noNd else noNd
theorem bnil{α:Type}(k:Value→Option α):zaS PP Ah [] k=k noNd.val:=bld (by kernel_rfl) k
theorem znL{α:Type}(n:Nd)(k:Value→Option α):zae 7 true n.cells 0 k=k n.val:=rfl
theorem zp4(L:List Nd):∀i n,L[i]?=some n→((L.flatMap Nd.cells).drop (i*7)).take 7=n.cells:=by
 induction L with
 |nil=>intro i o h;cases h
 |cons a L ih=>
  intro i o h;have h7:∀n:Nd,n.cells.length=7:=fun n=>rfl;rw[flatMap_cons];cases i with
  |zero=>cases h;rw[Nat.zero_mul,qd0,take_append_of_le_length (by rw[h7];omega),take_of_length_le (by rw[h7];omega)]
  |succ i=>
   rw[drop_append,drop_of_length_le (by rw[h7];omega),h7,nil_append,show (i+1)*7-7=i*7 by omega];exact ih i o h
theorem ld7{α:Type}{H:Hp}{L:List Nd}{y:Nat}{b:Bool}(h:H.get y=some (.cells (L.flatMap Nd.cells) b)){i:Nat}{n:Nd}(ho:L[i]?=some n)(k:Value→Option α) :
  zak 7 true H (.pointer (some ⟨y,i*7,none⟩)) k=k n.val:=by
 have hlt:i<L.length:=(List.getElem?_eq_some_iff.1 ho).1;have h1:i*7+7≤(L.flatMap Nd.cells).length:=by rw[flat_len];omega
 simp only[zak,Hp.rdP,Hp.rd,h,zcx,h1,if_true,zp4 L i n ho];rfl
theorem zq3(n m:Nd):zfk n m=true↔n=m:=by cases n;cases m;unfold zfk;simp[zhE]
theorem zoV(n:Nd):zfk n n=true:=(zq3 n n).2 rfl
theorem eq36d(n m:Nd):eqT PP Op.maxDepth Ah n.val m.val =
  zfR (n.op==m.op) (zfR (n.w==m.w) (zfR (n.a==m.a) (zfR (n.b==m.b) (zfR (n.c==m.c) (zfR (n.num==m.num) (zfR (n.name==m.name) (some true))))))):=by
 kernel_rfl
theorem eqOp36(n m:Nd):eqOp PP Ah n.val m.val=some (zfk n m):=by
 have hg:PP.eqGuardType PP.depth Ah=false:=by kernel_rfl
 show (match PP.eqGuardType PP.depth Ah with|true=>none|false=>eqT PP Op.maxDepth Ah n.val m.val)=_;rw[hg,eq36d];unfold zfk;cases n.op==m.op<;>cases n.w==m.w<;>cases n.a==m.a<;>cases n.b==m.b<;>cases n.c==m.c<;>cases n.num==m.num<;>cases n.name==m.name<;>rfl
theorem s_neq36{α:Type}(n m:Nd)(k:Value→Option α):pBin PP .neq Ah n.val m.val k=k (.bool (!zfk n m)):=by
 have:binV PP .neq Ah n.val m.val=some (.bool (!zfk n m)):=by show (match eqOp PP Ah n.val m.val with|some b=>some (Value.bool !b)|none=>none)=_;rw[eqOp36]
 unfold pBin;rw[this]
theorem zq4{L:List Nd}{i:Nat}(h:i<L.length):zgZ L ((i+1:Nat):Int)=L[i]∧isT L ((i+1:Nat):Int)=true:=by
 have h1:isT L ((i+1:Nat):Int)=true:=zbx.2 ⟨by omega,by omega⟩;refine⟨?_,h1⟩;unfold zgZ;rw[if_pos h1];have:(((i+1:Nat):Int)-1).toNat=i:=by omega
 rw[this];simp[h]
theorem SlR.ix{H:Hp}{L:List Nd}{sl:Value}(h:SlR H sl L){i:Nat}(hi:i<L.length){α:Type} :
  ∃y,H.get y=some (.cells (L.flatMap Nd.cells) true)∧∀(k:Value→Option α),pIdx 7 sl (.int .i64 (i:Int)) k=k (.pointer (some ⟨y,i*7,none⟩)):=by
 rcases h with⟨rfl,_⟩|⟨y,rfl,hy⟩
 ·cases hi
 ·refine⟨y,hy,fun k=>?_⟩;unfold pIdx idxV;have:(7:Nat)=7∧(0:Int)≤(i:Int)∧(i:Int)<(L.length:Int):=⟨rfl,by omega,by omega⟩
  simp only[this,and_self,if_true,Nat.zero_add,Int.toNat_natCast]
theorem s_chkL{α:Type}{H H':Hp}{sl:Value}{L:List Nd}(h:SlR H sl L)(k:Option α):zjD .sl sl H' (.int .i64 L.length) k=k:=by unfold zjD;refine zha ?_ k;rcases h with⟨rfl,rfl⟩|⟨i,rfl,_⟩<;>rfl
theorem StR.rd1{H:Hp}{p f g:Nat}{lim:Int}{L:List Nd}{sl:Value}(h:StR H p lim L sl f g):Hp.rdP H (.pointer (some ⟨p,1,none⟩)) 1 false=some sl:=by simp[Hp.rdP,Hp.rd,h.obj,zcx]
end Go.AM
namespace Go.AM
open Go
theorem zin{a b c i:Nat}(z:Foot a b c (.slice none 0 0) i):i=a∨i=b∨i=c:=by
 rcases z with z|z|z|z
 ·exact .inl z
 ·exact .inr (.inl z)
 ·exact .inr (.inr z)
 ·cases z
theorem zh8{α:Type}(n:Nd)(k:Value→Option α):zae 1 false n.cells 2 k=k (.int .i64 n.a):=zcc _ 2 _ rfl k
theorem zh7{α:Type}(n:Nd)(k:Value→Option α):zae 1 false n.cells 3 k=k (.int .i64 n.b):=zcc _ 3 _ rfl k
theorem zi6{α:Type}(n:Nd)(k:Value→Option α):zae 1 false n.cells 4 k=k (.int .i64 n.c):=zcc _ 4 _ rfl k
end Go.AM
namespace Go.AM
open List Go
def ints(l:List Nat):List Value:=l.map fun (t:Nat)=>Value.int .i64 (t:Int)
def zgi(l:List Bool):List Value:=l.map .bool
def plc(x:Nat×Nat):List Value:=[.int .i64 (x.1:Int),.int .i64 (x.2:Int)]
def zcQ(l:List (Nat×Nat)):List Value:=l.flatMap plc
theorem zmK(l:List Nat):(ints l).length=l.length:=by simp[ints]
theorem ints_one(l:List Nat):(ints l).all one=true:=by simp[ints,one]
theorem zik(l m:List Nat):ints (l++m)=ints l++ints m:=by simp[ints]
theorem zfg:∀l:List (Nat×Nat),(zcQ l).length=l.length*2
 |[]=>rfl
 |x::l=>by show (plc x++zcQ l).length=_;rw[length_append,zfg l,length_cons];show 2+_=_;omega
theorem zfh(l m:List (Nat×Nat)):zcQ (l++m)=zcQ l++zcQ m:=by simp[zcQ]
theorem zlt:∀l:List (Nat×Nat),(zcQ l).all one=true
 |[]=>rfl
 |x::l=>by show (plc x++zcQ l).all one=true;rw[all_append,zlt l];rfl
theorem zoH(l:List (Nat×Nat))(x:Nat×Nat):(zcQ (l++[x]))[l.length*2]?=some (.int .i64 (x.1:Int))∧(zcQ (l++[x]))[l.length*2+1]?=some (.int .i64 (x.2:Int)):=by
 rw[zfh];have h:=zfg l;constructor
 ·rw[List.getElem?_append_right (by omega),h,Nat.sub_self];rfl
 ·rw[List.getElem?_append_right (by omega),h,Nat.add_sub_cancel_left];rfl
structure PS(H0 H:Hp)(lv:Value)(out:List Nat)(sv:Value)(stk:List (Nat×Nat))(bv:Value)(seen:List Bool):Prop where
 next:H0.next≤H.next
 old:∀j,j<H0.next→H.get j=H0.get j
 l:Vec H 1 lv out.length (ints out)
 s:Vec H 2 sv stk.length (zcQ stk)
 b:Vec H 1 bv seen.length (zgi seen)
 al:∀j,Id lv j→H0.next≤j
 as':∀j,Id sv j→H0.next≤j
 ab:∀j,Id bv j→H0.next≤j
 ls:∀j,Id lv j→¬Id sv j
 lb:∀j,Id lv j→¬Id bv j
 sb:∀j,Id sv j→¬Id bv j
section
variable {H0 H:Hp}{lv sv bv:Value}{out:List Nat}{stk:List (Nat×Nat)}{seen:List Bool}(h:PS H0 H lv out sv stk bv seen)
include h
theorem PS.at0{p f g:Nat}{lim:Int}{L:List Nd}{K:List (ByteArray×Int)}{sl:Value}(hst:StF H0 p lim L K sl f g):StF H p lim L K sl f g:=
 hst.keep (fun i hi=>h.old i (hst.foot_lt hi)) h.next
theorem PS.see{i:Nat}(hi:i<seen.length):∃y,Id bv y∧(∀(α:Type) (kd:IntKind) (k:Value→Option α),pIdx 1 bv (.int kd (i:Int)) k=k (.pointer (some ⟨y,i*1,none⟩))) ∧
  ∃H',(∀(α:Type) (k:Hp→Option α),zay 1 H (.pointer (some ⟨y,i*1,none⟩)) (.bool true) k=k H')∧PS H0 H' lv out sv stk bv (seen.set i true)∧H'.next=H.next:=by
 obtain⟨y,hy,_,hix⟩:=h.b.ix hi;have hl:(zgi seen).length=seen.length:=by simp[zgi]
 obtain⟨H',h1,h2,h3,h4⟩:=h.b.set hy (m:=1) (o:=i*1) (x:=.bool true) rfl (by rw[hl];omega) rfl;refine⟨y,hy,hix,H',h1,⟨?_,fun j hj=>?_,h.l.keep h3 h.lb,h.s.keep h3 h.sb,?_,h.al,h.as',h.ab,h.ls,h.lb,h.sb⟩,h4⟩
 ·rw[h4];exact h.next
 ·rw[h3.same j (Nat.lt_of_lt_of_le hj h.next) (fun q=>by have:=h.ab j q;omega),h.old j hj]
 ·have e:spl (zgi seen) (i*1) (zab (.bool true))=zgi (seen.set i true):=by unfold spl zgi;show (seen.map Value.bool).take (i*1)++[Value.bool true]++(seen.map Value.bool).drop (i*1+1)=_;rw[Nat.mul_one,map_set,set_eq_take_append_cons_drop,if_pos (by simpa using hi)];simp
  rw[e]at h2;rw[length_set];exact h2
theorem PS.seen_at{i:Nat}{b:Bool}(hi:seen[i]?=some b):∃y,Id bv y∧(∀(α:Type) (kd:IntKind) (k:Value→Option α),pIdx 1 bv (.int kd (i:Int)) k=k (.pointer (some ⟨y,i*1,none⟩))) ∧
  (∀(α:Type) (k:Value→Option α),zak 1 false H (.pointer (some ⟨y,i*1,none⟩)) k=k (.bool b)):=by
 have hlt:=(List.getElem?_eq_some_iff.1 hi).1;obtain⟨y,hy,⟨rest,hg⟩,hix⟩:=h.b.ix hlt;exact⟨y,hy,hix,fun α k=>zf9 hg (by rw[Nat.mul_one];unfold zgi;rw[List.getElem?_map,hi];rfl) k⟩
theorem PS.push(t:Nat){zs:List Value}(hz:zs.length=2)(hb:(stk.length+1)*16≤2^47) :
  ∃sv' H',(∀(α:Type) (k:Value→Hp→Option α),(zam 2 zs 1 [(0,.agg #[.int .i64 (t:Int),.int .i64 0])] H fun x H1=>zaH 2 16 sv x H1 k)=k sv' H')∧PS H0 H' lv out sv' (stk++[(t,0)]) bv seen:=by
 obtain⟨sv',H',h1,h2,h3,h4,h5⟩:=h.s.push (bytes:=16) (zs:=zs) (x:=.agg #[.int .i64 (t:Int),.int .i64 0]) (by decide) (by decide) hz rfl rfl hb;have hn:=h.next;refine⟨sv',H',h1,⟨Nat.le_trans h.next h3.next,fun j hj=>?_,h.l.keep h3 h.ls,?_,h.b.keep h3 (fun j a b=>h.sb j b a),h.al,fun j hj=>?_,h.ab,fun j a b=>?_,h.lb,fun j a b=>?_⟩⟩
 ·rw[h3.same j (Nat.lt_of_lt_of_le hj h.next) (fun q=>by have:=h.as' j q;omega),h.old j hj]
 ·have:zcQ (stk++[(t,0)])=zcQ stk++zab (.agg #[.int .i64 (t:Int),.int .i64 0]):=by rw[zfh];rfl
  rw[this,length_append];exact h2
 ·rcases h4 j hj with q|q
  ·exact h.as' j q
  ·omega
 ·rcases h4 j b with q|q
  ·exact h.ls j a q
  ·have:=h.l.lt a;omega
 ·rcases h4 j a with q|q
  ·exact h.sb j q b
  ·have:=h.b.lt b;omega
theorem PS.pop{below:List (Nat×Nat)}{x:Nat×Nat}(hs:stk=below++[x]):∃sv',(∀(α:Type) (kd:IntKind) (k:Value→Option α),zcf 2 sv none (some (.int kd (below.length:Int))) k=k sv')∧PS H0 H lv out sv' below bv seen:=by subst hs;obtain⟨sv',h1,h2,h3⟩:=h.s.cut (zlt _) (m:=below.length) (by simp);refine⟨sv',h1,⟨h.next,h.old,h.l,?_,h.b,h.al,fun j a=>h.as' j (h3 j a),h.ab,fun j a b=>h.ls j a (h3 j b),h.lb,fun j a b=>h.sb j (h3 j a) b⟩⟩;rw[zfh,List.take_left' (zfg below)]at h2;exact h2
theorem PS.tell(t:Nat)(hb:(out.length+1)*8≤2^47) :
  ∃lv' H',(∀(α:Type) (k:Value→Hp→Option α),(zam 1 [.int .i64 0] 1 [(0,.int .i64 (t:Int))] H fun x H1=>zaH 1 8 lv x H1 k)=k lv' H')∧PS H0 H' lv' (out++[t]) sv stk bv seen:=by
 obtain⟨lv',H',h1,h2,h3,h4,h5⟩:=h.l.push (bytes:=8) (zs:=[.int .i64 0]) (x:=.int .i64 (t:Int)) (by decide) (by decide) rfl rfl rfl hb;have hn:=h.next;refine⟨lv',H',h1,⟨Nat.le_trans h.next h3.next,fun j hj=>?_,?_,h.s.keep h3 (fun j a b=>h.ls j b a),h.b.keep h3 (fun j a b=>h.lb j b a),fun j hj=>?_,h.as',h.ab,fun j a b=>?_,fun j a b=>?_,h.sb⟩⟩
 ·rw[h3.same j (Nat.lt_of_lt_of_le hj h.next) (fun q=>by have:=h.al j q;omega),h.old j hj]
 ·rw[zik,length_append];exact h2
 ·rcases h4 j hj with q|q
  ·exact h.al j q
  ·omega
 ·rcases h4 j a with q|q
  ·exact h.ls j q b
  ·have:=h.s.lt b;omega
 ·rcases h4 j a with q|q
  ·exact h.lb j q b
  ·have:=h.b.lt b;omega
theorem PS.step{below:List (Nat×Nat)}{t j:Nat}(hs:stk=below++[(t,j)]):∃y,(∀(α:Type) (kd:IntKind) (k:Value→Option α),pIdx 2 sv (.int kd (below.length:Int)) k=k (.pointer (some ⟨y,below.length*2,none⟩))) ∧
  (∀(α:Type) (k:Value→Option α),zak 1 false H (.pointer (some ⟨y,below.length*2,none⟩)) k=k (.int .i64 (t:Int))) ∧
  (∀(α:Type) (k:Value→Option α),zak 1 false H (.pointer (some ⟨y,below.length*2+1,none⟩)) k=k (.int .i64 (j:Int))) ∧
  Hp.rdP H (.pointer (some ⟨y,below.length*2+1,none⟩)) 1 false=some (.int .i64 (j:Int)) ∧
  ∃H',(∀(α:Type) (k:Hp→Option α),zay 1 H (.pointer (some ⟨y,below.length*2+1,none⟩)) (.int .i64 ((j+1:Nat):Int)) k=k H')∧PS H0 H' lv out sv (below++[(t,j+1)]) bv seen:=by
 subst hs;have hlt:below.length<(below++[(t,j)]).length:=by simp
 obtain⟨y,hy,⟨rest,hg⟩,hix⟩:=h.s.ix hlt;obtain⟨p1,p2⟩:=zoH below (t,j);have hl:(zcQ (below++[(t,j)])).length=below.length*2+2:=by rw[zfg,length_append];simp;omega
 obtain⟨H',h1,h2,h3,h4⟩:=h.s.set hy (m:=1) (o:=below.length*2+1) (x:=.int .i64 ((j+1:Nat):Int)) rfl (by rw[hl];omega) rfl;refine⟨y,hix,fun α k=>zf9 hg p1 k,fun α k=>zf9 hg p2 k,?_,H',h1,⟨by rw[h4];exact h.next,fun i hi=>?_,h.l.keep h3 h.ls,?_,h.b.keep h3 (fun i a b=>h.sb i b a),h.al,h.as',h.ab,h.ls,h.lb,h.sb⟩⟩
 ·have:(zcQ (below++[(t,j)])++rest)[below.length*2+1]?=some (.int .i64 (j:Int)):=by rw[List.getElem?_append_left (by omega)];exact p2
  simp only[Hp.rdP,Hp.rd,hg,zcx,this]
 ·rw[h3.same i (Nat.lt_of_lt_of_le hi h.next) (fun q=>by have:=h.as' i q;omega),h.old i hi]
 ·have e:spl (zcQ (below++[(t,j)])) (below.length*2+1) (zab (.int .i64 ((j+1:Nat):Int)))=zcQ (below++[(t,j+1)]):=by
   rw[zfh,zfh];unfold spl;have hb:=zfg below;show (zcQ below++[Value.int .i64 (t:Int),Value.int .i64 (j:Int)]).take (below.length*2+1)++[Value.int .i64 ((j+1:Nat):Int)]++(zcQ below++[Value.int .i64 (t:Int),Value.int .i64 (j:Int)]).drop (below.length*2+1+1)=zcQ below++[Value.int .i64 (t:Int),Value.int .i64 ((j+1:Nat):Int)]
   rw[take_append,hb,drop_append,hb,take_of_length_le (by omega),drop_of_length_le (by omega),Nat.add_sub_cancel_left,show below.length*2+1+1-below.length*2=2 by omega];simp
  rw[e]at h2;rw[length_append]at h2 ⊢;exact h2
end
theorem zkm:∀(n:Nat) (l:List Nat),l.Nodup→(∀x∈l,1≤x∧x≤n)→l.length≤n
 |0,l,_,h=>by
  cases l with
  |nil=>simp
  |cons a l=>have:=h a (mem_cons_self ..);omega
 |n+1,l,hn,h=>by
  by_cases hm:n+1∈l
  ·have h1:=zkm n (l.erase (n+1)) (hn.erase _) fun x hx=>by have:=(List.Nodup.mem_erase_iff hn).1 hx;have:=h x this.2;omega
   rw[length_erase_of_mem hm]at h1;omega
  ·have:=zkm n l hn fun x hx=>by have:=h x hx;have:x≠n+1:=fun e=>hm (e▸hx);omega
   omega
theorem zoF{L:List Nd}(h:Dag L):∀(t:Nat),1≤t→∀(out:List Nat),out.Nodup→(post L t out).Nodup:=by
 intro t;induction t using Nat.strongRecOn with
 |_ t ih=>
  intro ht out hn;rw[zj3 h ht];split
  ·exact hn
  ·rename_i hm;have key:∀(l:List Nat) (o:List Nat),(∀c∈l,c∈kids L t)→o.Nodup→(posts L l o).Nodup:=by
    intro l;induction l with
    |nil=>exact fun o _ h=>h
    |cons c l ihl=>
     intro o hl ho;have hc:=zga h ht (hl c (mem_cons_self ..));exact ihl _ (fun c hc=>hl c (mem_cons_of_mem _ hc)) (ih c hc.2 hc.1 o ho)
   refine nodup_append.2 ⟨key _ _ (fun c hc=>hc) hn,by simp,fun x hx y hy=>?_⟩;rw[mem_singleton]at hy;subst hy;intro e;subst e;rcases (zdq h (N:=x-1) (kids L x) out fun c hc=>by have:=zga h ht hc;omega).2.2 x hx with q|q
   ·exact hm q
   ·omega
theorem zh2{L:List Nd}(h:Dag L):∀(l:List Nat) (o:List Nat),(∀c∈l,1≤c)→o.Nodup→(posts L l o).Nodup
 |[],o,_,ho=>ho
 |c::l,o,hl,ho=>zh2 h l _ (fun c hc=>hl c (mem_cons_of_mem _ hc)) (zoF h c (hl c (mem_cons_self ..)) o ho)
structure Seen(N:Nat)(seen:List Bool)(out:List Nat)(stk:List (Nat×Nat)):Prop where
 len:seen.length=N+1
 at':∀x,x≤N→seen[x]?=some (decide (x∈out∨x∈stk.map Prod.fst))
structure Told(N:Nat)(out:List Nat):Prop where
 nd:out.Nodup
 bd:∀x∈out,1≤x∧x≤N
theorem Told.len{N:Nat}{out:List Nat}(h:Told N out):out.length≤N:=zkm N out h.nd h.bd
theorem Told.posts{L:List Nd}{N:Nat}{out l:List Nat}(h:Told N out)(hd:Dag L)(hl:∀c∈l,1≤c∧c≤N):Told N (posts L l out):=
 ⟨zh2 hd l out (fun c hc=>(hl c hc).1) h.nd,fun x hx=>by
  rcases (zdq hd l out hl).2.2 x hx with q|q
  ·exact h.bd x q
  ·exact q⟩
theorem arr3{α:Type}{a b c:Int}{j:Nat}{x:Int}(h:[a,b,c][j]?=some x)(k:Value→Option α):zeh 3 false 1 (.agg #[.int .i64 a,.int .i64 b,.int .i64 c]) (.int .i64 (j:Int)) k=k (.int .i64 x):=by
 match j,h with
 |0,h=>cases h;rfl
 |1,h=>cases h;rfl
 |2,h=>cases h;rfl
 |n+3,h=>simp at h
theorem build72{α:Type}(t:Int)(k:Value→Option α):zaS PP Cw [(0,.int .i64 t),(1,.int .i64 0)] k=k (.agg #[.int .i64 t,.int .i64 0]):=bld (by kernel_rfl) k
theorem zg0{α:Type}(n:Nd)(k:Value→Option α):zae 1 false n.cells 0 k=k (.int .i64 n.op):=zcc _ 0 _ rfl k
theorem partsT_nn(op:Int):(0:Int)≤zaj op∧zaj op≤3:=by rcases zcy op with q|q|q|q<;>rw[q]<;>decide
theorem Seen.told{N:Nat}{seen:List Bool}{out:List Nat}{below:List (Nat×Nat)}{t j:Nat}(h:Seen N seen out (below++[(t,j)])):Seen N seen (out++[t]) below:=
 ⟨h.len,fun x hx=>by
  rw[h.at' x hx];congr 2;simp only[map_append,map_cons,map_nil,mem_append,mem_singleton,eq_iff_iff];constructor
  ·rintro (q|q|q)
   ·exact .inl (.inl q)
   ·exact .inr q
   ·exact .inl (.inr q)
  ·rintro ((q|q)|q)
   ·exact .inl q
   ·exact .inr (.inr q)
   ·exact .inr (.inl q)⟩
theorem Seen.next{N:Nat}{seen:List Bool}{out:List Nat}{below:List (Nat×Nat)}{t j i:Nat}(h:Seen N seen out (below++[(t,j)])):Seen N seen out (below++[(t,i)]):=
 ⟨h.len,fun x hx=>by rw[h.at' x hx];congr 2;simp⟩
theorem Seen.add{N:Nat}{seen:List Bool}{out:List Nat}{stk:List (Nat×Nat)}{c i:Nat}(h:Seen N seen out stk)(hc:c≤N):Seen N (seen.set c true) out (stk++[(c,i)]):=
 ⟨by rw[length_set];exact h.len,fun x hx=>by
  rw[List.getElem?_set];by_cases e:c=x
  ·subst e;rw[if_pos rfl,if_pos (by rw[h.len];omega)];simp
  ·rw[if_neg e,h.at' x hx];congr 2;have:¬x=c:=fun q=>e q.symm
   simp[this]⟩
section
variable {H0:Hp}{p f g:Nat}{lim:Int}{L:List Nd}{K:List (ByteArray×Int)}{sl:Value}(hst:StF H0 p lim L K sl f g)(hd:Dag L)(hL:L.length*64≤2^46)(bv:Value)
include hst hd hL
theorem fwd:∀t,1≤t→t≤L.length→∀(m j:Nat),j+m=(kids L t).length→∀(out:List Nat) (below:List (Nat×Nat)) (seen:List Bool) (H:Hp) (lv sv:Value),
  PS H0 H lv out sv (below++[(t,j)]) bv seen→Seen L.length seen out (below++[(t,j)])→Told L.length out→(∀x∈below,t<x.1)→below.length+t≤L.length→t∉out →
  ∃H' lv' sv' seen',zas (zaM RR (.pointer (some ⟨p,0,none⟩)) bv) [lv,sv] H=zas (zaM RR (.pointer (some ⟨p,0,none⟩)) bv) [lv',sv'] H' ∧
   PS H0 H' lv' (posts L ((kids L t).drop j) out++[t]) sv' below bv seen'∧Seen L.length seen' (posts L ((kids L t).drop j) out++[t]) below:=by
 intro t;induction t using Nat.strongRecOn with
 |_ t ih=>
  intro h1 hN m;obtain⟨n,hn⟩:∃n,L[t-1]?=some n:=⟨_,List.getElem?_eq_getElem (by omega)⟩
  have hk:kids L t=zce n:=by unfold kids;rw[hn]
  obtain⟨kl,kg,kb⟩:=zkA hd hn;have hpn:=partsT_nn n.op;induction m with
  |zero=>
   intro j hj out below seen H lv sv hp hs ht hb hbl hto;have hst':=hp.at0 hst;obtain⟨y,e1,e2,e3,e4,_⟩:=hp.step rfl;obtain⟨sl',hsl,hix⟩:=hst'.st.all.ix (i:=t-1) (by omega) (α:=Outc);have hol:=ht.len;obtain⟨lv1,H1,t1,p1⟩:=hp.tell t (by omega);obtain⟨sv1,c1,p2⟩:=p1.pop rfl;have hlen:(below++[(t,j)]).length=below.length+1:=by simp
   have w1:IntKind.i64.wrap (((below.length+1:Nat):Int)-1)=(below.length:Int):=by rw[zaq (by omega) (by omega)];omega
   have w2:IntKind.i64.wrap ((t:Int)-1)=((t-1:Nat):Int):=by rw[zaq (by omega) (by omega)];omega
   have q1:((below.length+1:Nat):Int)>0:=by omega
   have hjp:(j:Int)=zaj n.op:=by rw[hk,kl]at hj;omega
   have e4':=e4;rw[hjp]at e4';have hls:∀{α:Type} (H':Hp) (k:Value→Option α),pLen .sl sv H' k=k (.int .i64 ((below.length+1:Nat):Int)):=fun H' k=>by rw[hp.s.len,hlen]
   have hdrop:(kids L t).drop j=[]:=drop_of_length_le (by omega);rw[hdrop];refine⟨H1,lv1,sv1,seen,?_,p2,hs.told⟩;rw[zai];have:zaM RR (.pointer (some ⟨p,0,none⟩)) bv [lv,sv] H=some (.next,[lv1,sv1],H1):=by unfold zaM;simp only[qg1,qg0,hls,zbp,q1,decide_true,zac,zaE,zbK,w1,e1,zbA,zaJ,Nat.zero_add,Nat.add_zero,hst'.st.l1,e2,e3,w2,hix,ld7 hsl hn,spl7,zg0,zaf (c29 _ _),zha e4',zaF,hjp,t1,c1]
   rw[this];rfl
  |succ m ihm=>
   intro j hj out below seen H lv sv hp hs ht hb hbl hto;have hst':=hp.at0 hst;obtain⟨y,e1,e2,e3,e4,H1,e5,p1⟩:=hp.step rfl;obtain⟨sl',hsl,hix⟩:=hst'.st.all.ix (i:=t-1) (by omega) (α:=Outc);have hlen:(below++[(t,j)]).length=below.length+1:=by simp
   have w1:IntKind.i64.wrap (((below.length+1:Nat):Int)-1)=(below.length:Int):=by rw[zaq (by omega) (by omega)];omega
   have w2:IntKind.i64.wrap ((t:Int)-1)=((t-1:Nat):Int):=by rw[zaq (by omega) (by omega)];omega
   have w3:IntKind.i64.wrap ((j:Int)+1)=((j+1:Nat):Int):=by
    have:j<3:=by rw[hk,kl]at hj;omega
    exact zaq (by omega) (by omega)
   have q1:((below.length+1:Nat):Int)>0:=by omega
   have hjp:¬(j:Int)=zaj n.op:=by rw[hk,kl]at hj;omega
   have hj3:j<3:=by rw[hk,kl]at hj;omega
   obtain⟨x,hx⟩:∃x,[n.a,n.b,n.c][j]?=some x:=⟨_,List.getElem?_eq_getElem (by simpa using hj3)⟩
   obtain⟨g1,g2,g3⟩:=kg j x hx (by rw[hk]at hj;omega);have hls:∀{α:Type} (H':Hp) (k:Value→Option α),pLen .sl sv H' k=k (.int .i64 ((below.length+1:Nat):Int)):=fun H' k=>by rw[hp.s.len,hlen]
   have hxc:x=((x.toNat:Nat):Int):=by omega
   generalize x.toNat=c at g1 hxc;subst hxc;have hcN:c≤L.length:=by omega
   have hct:c<t:=by omega
   have hc1:1≤c:=by omega
   have hdrop:(kids L t).drop j=c::(kids L t).drop (j+1):=by rw[hk];have hlt:j<(zce n).length:=(List.getElem?_eq_some_iff.1 g1).1;rw[drop_eq_getElem_cons hlt];have:(zce n)[j]=c:=(List.getElem?_eq_some_iff.1 g1).2;rw[this]
   rw[hdrop,zgr];have hsc:=hs.at' c hcN;have hs1:Seen L.length seen out (below++[(t,j+1)]):=hs.next;by_cases hco:c∈out
   ·-- told
    have hsc':seen[c]?=some true:=by rw[hsc];congr 1;simp[hco]
    obtain⟨z,z0,z1,z2⟩:=p1.seen_at hsc';obtain⟨H',lv',sv',seen',r1,r2,r3⟩:=ihm (j+1) (by omega) out below seen H1 lv sv p1 hs1 ht hb hbl hto;rw[zmt hd hc1 hco];refine⟨H',lv',sv',seen',?_,r2,r3⟩;rw[←r1,zai];have:zaM RR (.pointer (some ⟨p,0,none⟩)) bv [lv,sv] H=some (.next,[lv,sv],H1):=by unfold zaM;simp only[qg1,qg0,hls,zbp,q1,decide_true,zac,zaE,zau,zbK,w1,e1,zbA,zaJ,Nat.zero_add,Nat.add_zero,hst'.st.l1,e2,e3,w2,hix,ld7 hsl hn,spl7,zg0,zh8,zh7,zi6,zaf (c29 _ _),zha e4,zaF,hjp,decide_false,zeB,arr3 hx,zaN,w3,e5,z1,z2,za9,Bool.not_true]
    rw[this];rfl
   ·have hcs:c∉(below++[(t,j)]).map Prod.fst:=fun q=>by
     simp only[map_append,map_cons,map_nil,mem_append,mem_singleton,mem_map]at q;rcases q with⟨u,hu,e⟩|e
     ·have:=hb u hu;omega
     ·omega
    have hsc':seen[c]?=some false:=by rw[hsc];congr 1;simpa[hco] using hcs
    obtain⟨z,z0,z1,z2⟩:=p1.seen_at hsc';have hclt:c<seen.length:=by rw[hs.len];omega
    obtain⟨z',hz',z3,H2,z4,p2,_⟩:=p1.see hclt;obtain rfl:z'=z:=Option.some.inj (hz'.symm.trans z0);have hlen1:(below++[(t,j+1)]).length=below.length+1:=by simp
    obtain⟨sv3,H3,z5,p3⟩:=p2.push c (zs:=[.int .i64 0,.int .i64 0]) rfl (by rw[hlen1];omega);have hs3:Seen L.length (seen.set c true) out ((below++[(t,j+1)])++[(c,0)]):=hs1.add hcN;have hkc:0+(kids L c).length=(kids L c).length:=by omega
    obtain⟨H4,lv4,sv4,seen4,r1,r2,r3⟩:=ih c hct hc1 hcN (kids L c).length 0 hkc out (below++[(t,j+1)]) (seen.set c true) H3 lv sv3 p3 hs3 ht
     (fun u hu=>by
      rcases mem_append.1 hu with hu|hu
      ·have:=hb u hu;omega
      ·rw[mem_singleton]at hu;subst hu;exact hct) (by rw[hlen1];omega) hco
    rw[qd0,←zmr hd hc1 hco]at r2 r3;have ht4:Told L.length (post L c out):=ht.posts (l:=[c]) hd fun c' hc'=>by rw[mem_singleton]at hc';subst hc';exact⟨hc1,hcN⟩
    have hto4:t∉post L c out:=fun q=>by
     rcases (zms hd c hc1 out).2.2 t q with q|q
     ·exact hto q
     ·omega
    obtain⟨H5,lv5,sv5,seen5,s1,s2,s3⟩:=ihm (j+1) (by omega) (post L c out) below seen4 H4 lv4 sv4 r2 r3 ht4 hb hbl hto4;refine⟨H5,lv5,sv5,seen5,?_,s2,s3⟩;rw[←s1,←r1,zai];have:zaM RR (.pointer (some ⟨p,0,none⟩)) bv [lv,sv] H=some (.next,[lv,sv3],H3):=by unfold zaM;simp only[qg1,qg0,hls,zbp,q1,decide_true,zac,zaE,zau,zbK,w1,e1,zbA,zaJ,Nat.zero_add,Nat.add_zero,hst'.st.l1,e2,e3,w2,hix,ld7 hsl hn,spl7,zg0,zh8,zh7,zi6,zaf (c29 _ _),zha e4,zaF,hjp,decide_false,zeB,arr3 hx,zaN,w3,e5,z1,z2,za9,Bool.not_false,z3,z4,build72,z5]
    rw[this];rfl
end
end Go.AM
