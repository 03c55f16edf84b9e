/- Part of the proof of SimpOnceUptoCardSaid: see the last file.  -/
import Derived.Deep.DeepHandedRow
import Derived.Laws.Externs
import Derived.Lib.Bytealg
import Derived.KernelRfl
import Derived.Test.YthcjfegfieoaiaaGreatDoorProg
import Derived.Shelf.Strings.Builder1
import Derived.Shelf.Small.Bits
import Derived.Shelf.Strings.BuilderF
import Derived.Shelf.Strings.BuilderK
import Derived.Shelf.Strconv.Itoa0
import Derived.Shelf.Strconv.Itoa1
import Derived.Shelf.LaysM
import Derived.Shelf.Strconv.Itoa2
import Derived.Shelf.Strconv.Itoa3
import Derived.Shelf.Strings.Fields
import Derived.Shelf.Strings.SplitShaped
import Derived.Shelf.Unicode.Latin
import Derived.Shelf.Unicode.Is16White
import Derived.Shelf.Unicode.IsSpaceAny
import Derived.Shelf.Unicode.Is16WhiteD
import Derived.Shelf.Unicode.IsSpaceAnyD
import Derived.Shelf.Unicode.Is16Any
import Derived.Shelf.Unicode.Is32Any
import Derived.Shelf.Unicode.ExclAny
import Derived.Shelf.Strings.BuilderCap
import Derived.Laws.Bits64
import Derived.Test.YthcjfegfieoaiaaGreatDoorT0
import Derived.Test.YthcjfegfieoaiaaGreatDoorT1
set_option linter.unusedSimpArgs false
set_option linter.unusedVariables false
set_option linter.unusedSectionVars false
set_option linter.constructorNameAsVariable false
set_option maxRecDepth 100000
namespace Go.AM
open List Go Go.ChangeShapes Go.WideShapes Go.ChangeAt Go.RowKit
inductive Sc where
 |bool|int (k:IntKind)|str
def okSc:Sc→Value→Prop
 |.bool,v=>∃b,v=.bool b
 |.int k,v=>∃n,v=.int k n∧k.min≤n∧n≤k.max
 |.str,v=>∃s:ByteArray,v=.string s
theorem okSc.rel{k:Sc}{v:Value}(h:okSc k v)(β:Bt):VRel β v v:=by
 cases k with
 |bool=>obtain⟨b,rfl⟩:=h;exact .bool b
 |int k=>obtain⟨n,rfl,_⟩:=h;exact .int k n
 |str=>obtain⟨s,rfl⟩:=h;exact .string s
def zlI(P:Program)(c:TypeId→Option (List Sc)):List Field→Nat→Option (List Sc)
 |[],_=>some []
 |f::fs,off=>match c f.type with
  |none=>none
  |some ks=>match Nat.beq f.offset off&&Nat.beq ks.length (P.cellsOf f.type) with
   |true=>match zlI P c fs (off+ks.length) with
    |some r=>some (ks++r)
    |none=>none
   |false=>none
def flat(P:Program):Nat→TypeId→Option (List Sc)
 |0,_=>none
 |d+1,t=>match P.underlying t with
  |some .bool=>some [.bool]
  |some (.int k)=>some [.int k]
  |some .string=>some [.str]
  |some (.struct fs)=>match zlI P (flat P d) fs.toList 0 with
   |some ks=>match Nat.beq ks.length (P.cellsOf t) with
    |true=>some ks
    |false=>none
   |none=>none
  |_=>none
def OkL(ks:List Sc)(cs:List Value):Prop:=cs.length=ks.length∧∀(j:Nat) k,ks[j]?=some k→∃v,cs[j]?=some v∧okSc k v
theorem OkL.one{k:Sc}{v:Value}(h:okSc k v):OkL [k] [v]:=⟨rfl,fun j k' hk=>by
 cases j with
 |zero=>cases hk;exact⟨v,rfl,h⟩
 |succ j=>cases hk⟩
variable {HH:Type}{enc:TypeId×Value→HH}{P:Program}{w:World}{base:Nat}{sp:Nat→Bool}{held:Bool}
theorem znO{n:Nat}{c:TypeId→Option (List Sc)}(hc:∀t ks cs x,c t=some ks→DataW.trod enc P w base sp held n t cs=some x→OkL ks cs){cs:List Value} :
  ∀(fs:List Field) (off:Nat) (ks:List Sc),zlI P c fs off=some ks→(∀f∈fs,∃x,DataW.trod enc P w base sp held n f.type ((cs.drop f.offset).take (P.cellsOf f.type))=some x)→off+ks.length≤cs.length →
   ∀(j:Nat) k,ks[j]?=some k→∃v,cs[off+j]?=some v∧okSc k v
 |[],off,ks,h,_,_,j,k,hk=>by cases h;cases hk
 |f::fs,off,ks,h,hx,hl,j,k,hk=>by
  unfold zlI at h;split at h
  ·cases h
  ·rename_i k1 h1;split at h
   ·rename_i hb;rw[Bool.and_eq_true]at hb;have ho:f.offset=off:=Nat.eq_of_beq_eq_true hb.1;have hk1:k1.length=P.cellsOf f.type:=Nat.eq_of_beq_eq_true hb.2;split at h
    ·rename_i r hr;cases h;obtain⟨x,hx1⟩:=hx f (mem_cons_self ..);have hok:=hc _ _ _ _ h1 hx1;rcases Nat.lt_or_ge j k1.length with q|q
     ·rw[List.getElem?_append_left q]at hk;obtain⟨v,hv,hs⟩:=hok.2 j k hk;rw[List.getElem?_take]at hv;split at hv
      ·rw[List.getElem?_drop,ho]at hv;exact⟨v,hv,hs⟩
      ·cases hv
     ·rw[List.getElem?_append_right q]at hk;simp only[length_append]at hl;obtain⟨v,hv,hs⟩:=znO hc fs (off+k1.length) r hr (fun f hf=>hx f (mem_cons_of_mem _ hf)) (by omega) (j-k1.length) k hk;exact⟨v,by rw[show off+j=off+k1.length+(j-k1.length) by omega];exact hv,hs⟩
    ·cases h
   ·cases h
theorem flat_ok:∀(d:Nat) (t:TypeId) (ks:List Sc),flat P d t=some ks→∀(fuel:Nat) (cs:List Value) (x:DataW HH×List MemPlace),DataW.trod enc P w base sp held fuel t cs=some x→OkL ks cs
 |0,t,ks,h,_,_,_,_=>by cases h
 |d+1,t,ks,h,fuel,cs,x,hx=>by
  unfold flat at h;split at h
  ·rename_i hu;cases h;obtain⟨b,rfl,_⟩:=DataW.trod_bool hu hx;exact OkL.one ⟨b,rfl⟩
  ·rename_i k hu;cases h;obtain⟨n,rfl,_,hw⟩:=DataW.trod_int hu hx;refine OkL.one ⟨n,rfl,?_⟩;simpa[Lit.wf] using hw
  ·rename_i hu;cases h;obtain⟨s,rfl,_⟩:=DataW.trod_string hu hx;exact OkL.one ⟨s,rfl⟩
  ·rename_i fs hu;split at h
   ·rename_i k1 hf;split at h
    ·rename_i hb;cases h;have hlen:ks.length=P.cellsOf t:=Nat.eq_of_beq_eq_true hb;obtain⟨xs,n,rfl,_,hl,hxl,hall⟩:=DataW.trod_struct hu hx;refine⟨by omega,fun j k hk=>?_⟩
     obtain⟨v,hv,hs⟩:=znO (n:=n) (fun t ks cs x h1 h2=>flat_ok d t ks h1 n cs x h2) (cs:=cs) fs.toList 0 ks hf (fun f hf=>by
      obtain⟨i,hi,rfl⟩:=getElem_of_mem hf;have hi':i<fs.size:=by simpa using hi
      have:=hall i fs.toList[i] (by simp[hi']);rw[this]
      exact⟨xs[i],by simp⟩) (by omega) j k hk
     exact⟨v,by simpa using hv,hs⟩
    ·cases h
   ·cases h
  ·cases h
def B00(P:Program):Bt:=fun g=>if g<P.globals.size then some ⟨g,0,0⟩ else none
theorem Rel.addRo{W:World}{H:Hp}{β:Bt}(h:Rel P W H β)(hno:∀i o,H.get i=some o→o.own=false){cs:List Value}{b s t:Nat}(hb:b<W.heap.size)
  (hc:∀(j:Nat) v,cs[j]?=some v→∃v',W.cell? ⟨b,s+j,none⟩=some v'∧VRel β v v') :
  Rel P W (H.new (.cells cs false)) (β.set H.next ⟨b,s,t⟩)∧(∀i o,(H.new (.cells cs false)).get i=some o→o.own=false)∧β.le (β.set H.next ⟨b,s,t⟩):=by
 have hf:=(h.fresh H.next (Nat.le_refl _)).2;have hle:β.le (β.set H.next ⟨b,s,t⟩):=Bt.le_set hf;have hno':∀i o,(H.new (.cells cs false)).get i=some o→o.own=false:=fun i o hi=>by
  rw[Hp.get_new]at hi;split at hi
  ·cases hi;rfl
  ·exact hno i o hi
 refine⟨⟨fun i ds own hi=>?_,fun i kv hi=>?_,fun i j o o' x y hij hi hj ho=>(by rw[hno' i o hi]at ho;cases ho),fun i hi=>?_,fun i x hx=>?_,fun g hg=>?_,fun i o hi=>(by
   rw[Hp.get_new]at hi;split at hi
   ·cases hi
   ·obtain⟨x,hx,h0,h1⟩:=h.fix i o hi
    exact⟨x,hle i x hx,h0,h1⟩),fun i T hi=>(h.tys i T hi).le hle⟩,hno',hle⟩
 ·rw[Hp.get_new]at hi;split at hi
  ·rename_i e;cases hi;subst e;exact⟨_,Bt.set_same _ _ _,fun j v hv=>by obtain⟨v',h1,h2⟩:=hc j v hv;exact⟨v',h1,h2.mono hle⟩,fun ho=>by cases ho⟩
  ·obtain⟨x,hx,h1,h2⟩:=h.cells i ds own hi;exact⟨x,hle i x hx,fun j v hv=>by obtain⟨v',h3,h4⟩:=h1 j v hv;exact⟨v',h3,h4.mono hle⟩,h2⟩
 ·rw[Hp.get_new]at hi;split at hi
  ·cases hi
  ·have:=hno i _ hi;cases this
 ·have hi:H.next+1≤i:=hi;have:=h.fresh i (by omega);refine⟨?_,?_⟩
  ·rw[Hp.get_new,if_neg (by omega)];exact this.1
  ·unfold Bt.set;rw[if_neg (by omega)];exact this.2
 ·unfold Bt.set at hx;split at hx
  ·cases hx;exact hb
  ·exact h.lt i x hx
 ·obtain⟨t',ht⟩:=h.glob g hg;exact⟨t',hle g _ ht⟩
theorem zp3{γ δ:Type}{f:γ→Option δ}:∀(l:List γ) (cs:List δ),l.mapM f=some cs→cs.length=l.length∧∀(j:Nat) x,l[j]?=some x→∃c,cs[j]?=some c∧f x=some c
 |[],cs,h=>by cases h;exact⟨rfl,fun j x hx=>by cases hx⟩
 |y::l,cs,h=>by
  rw[mapM_cons]at h;cases hy:f y with
  |none=>rw[hy]at h;cases h
  |some c=>
   rw[hy]at h;cases hl:l.mapM f with
   |none=>rw[hl]at h;cases h
   |some r=>
    rw[hl]at h;cases h;obtain⟨h1,h2⟩:=zp3 l r hl;refine⟨by simp[h1],fun j x hx=>?_⟩;cases j with
    |zero=>cases hx;exact⟨c,rfl,hy⟩
    |succ j=>exact h2 j x hx
theorem zkk{sz:Nat}:∀(L:List (List Value)),(∀l∈L,l.length=sz)→∀i j,j<sz→L.flatten[i*sz+j]?=L[i]?.bind fun l=>l[j]?
 |[],_,i,j,_=>by simp
 |l::L,hL,i,j,hj=>by
  have h0:=hL l (mem_cons_self ..);rw[flatten_cons];cases i with
  |zero=>
   rw[Nat.zero_mul,Nat.zero_add,List.getElem?_append_left (by omega)];rfl
  |succ i=>
   rw[List.getElem?_append_right (by rw[h0,Nat.succ_mul];omega),h0,show (i+1)*sz+j-sz=i*sz+j by rw[Nat.succ_mul];omega];exact zkk L (fun l hl=>hL l (mem_cons_of_mem _ hl)) i j hj
theorem zgv{sz:Nat}:∀(L:List (List Value)),(∀l∈L,l.length=sz)→L.flatten.length=L.length*sz
 |[],_=>by simp
 |l::L,hL=>by rw[flatten_cons,length_append,hL l (mem_cons_self ..),zgv L (fun l hl=>hL l (mem_cons_of_mem _ hl)),length_cons,Nat.succ_mul];omega
theorem zn7{t e:TypeId}{d:Nat}{ks:List Sc}(ht:P.underlying t=some (.slice e))(hf:flat P d e=some ks)(hk:P.cellsOf e=ks.length)(h0:0<ks.length)
  {W:World} {H:Hp} {β:Bt} (hR:Rel P W H β) (hno:∀i o,H.get i=some o→o.own=false) {b0:Nat} {v':Value} {dw:DataW HH} {ps:List MemPlace}
  (hval:Value.okWide P W .any b0 t v') (hd:DataW.Trod enc P W 0 (fun _=>true) true t v' dw ps) :
  ∃(v:Value) (H':Hp) (β':Bt),Rel P W H' β'∧(∀i o,H'.get i=some o→o.own=false)∧β.le β'∧VRel β' v v' ∧
   ((v=.slice none 0 0∧dw=.nil∧H'=H) ∨
    ∃(L:List (List Value)) (es sp:List (DataW HH)),v=.slice (some ⟨H.next,0,some ks.length⟩) L.length L.length∧H'=H.new (.cells L.flatten false)∧(∀l∈L,OkL ks l)∧dw=.slice es sp∧es.length=L.length):=by
 obtain⟨a,len,cap,rfl⟩:=okWide_slice ht hval;obtain⟨fuel,hx⟩:=hd;rcases DataW.trod_slice ht hx with⟨h1,h2⟩|⟨a',len',cap',elems,rest,n,hfu,h1,h2,h3,h4,h5,h6,h7,_,_⟩
 ·cases h1;cases h2;exact⟨.slice none 0 0,H,β,hR,hno,Bt.le_refl _,.snil,.inl ⟨rfl,rfl,rfl⟩⟩
 ·cases h1;have hhas:W.has P .any b0 a' e cap:=by have:=hval;unfold Value.okWide Cell.okWide Cell.ok at this;rw[ht]at this;exact this.2.2
  obtain⟨_,hspot,row,cells,hshape,_⟩:=hhas;obtain⟨b,s,sp0⟩:=a';simp only at hspot;subst hspot;have hbl:b<W.heap.size:=by
   unfold World.shape? at hshape;cases hq:W.heap[b]? with
   |none=>rw[hq]at hshape;cases hshape
   |some o=>exact(Array.getElem?_eq_some_iff.1 hq).1
  have hrow:∀i,i<len→∃l:List Value,OkL ks l∧∀j u,l[j]?=some u→W.cell? ⟨b,s+(i*ks.length+j),none⟩=some u:=by
   intro i hi;have:=h7 i hi;cases hc:W.cells? 0 ((⟨b,s,none⟩:Addr).add (i*P.cellsOf e)) (P.cellsOf e) with
   |none=>
    rw[hc]at this;have hlt:i<elems.length:=by omega
    rw[List.getElem?_eq_getElem hlt]at this;cases this
   |some l=>
    rw[hc]at this;have hlt:i<elems.length:=by omega
    rw[List.getElem?_eq_getElem hlt]at this;have hok:=flat_ok d e ks hf n l _ this;refine⟨l,hok,fun j u hu=>?_⟩;unfold World.cells? at hc;rw[if_pos (Nat.zero_le _)]at hc;obtain⟨g1,g2⟩:=zp3 _ _ hc;have hjl:j<l.length:=(List.getElem?_eq_some_iff.1 hu).1;obtain⟨c,g3,g4⟩:=g2 j j (by rw[List.getElem?_range];simp at g1;omega);rw[hu]at g3;cases g3;rw[hk,zdk,zdk]at g4;rw[show s+(i*ks.length+j)=s+i*ks.length+j by omega];exact g4
  have hL:∃L:List (List Value),L.length=len∧∀i l,L[i]?=some l→OkL ks l∧∀j u,l[j]?=some u→W.cell? ⟨b,s+(i*ks.length+j),none⟩=some u:=by
   refine⟨(List.range len).map fun i=>if h:i<len then (hrow i h).choose else [],by simp,fun i l hl=>?_⟩;rw[List.getElem?_map]at hl;by_cases hi:i<len
   ·rw[List.getElem?_range hi]at hl;simp only[Option.map_some,dif_pos hi,Option.some.injEq]at hl;subst hl;exact(hrow i hi).choose_spec
   ·rw[List.getElem?_eq_none (by simp;omega)]at hl;cases hl
  obtain⟨L,hLl,hLp⟩:=hL;have hLk:∀l∈L,OkL ks l:=fun l hl=>by obtain⟨i,hi,rfl⟩:=getElem_of_mem hl;exact(hLp i L[i] (by simp)).1
  have hLs:∀l∈L,l.length=ks.length:=fun l hl=>(hLk l hl).1
  obtain⟨g1,g2,g3⟩:=hR.addRo hno (cs:=L.flatten) (b:=b) (s:=s) (t:=s+cap*ks.length) hbl (fun q v hv=>by
   have hq:q<L.flatten.length:=(List.getElem?_eq_some_iff.1 hv).1;rw[zgv L hLs]at hq;have hdm:q/ks.length*ks.length+q%ks.length=q:=by rw[Nat.mul_comm];exact Nat.div_add_mod q ks.length
   have hm:=Nat.mod_lt q h0;rw[←hdm,zkk L hLs _ _ hm]at hv;cases hl:L[q/ks.length]? with
   |none=>rw[hl]at hv;cases hv
   |some l=>
    rw[hl]at hv;obtain⟨p1,p2⟩:=hLp _ l hl;refine⟨v,?_,?_⟩
    ·have:=p2 (q%ks.length) v hv;rw[hdm]at this;exact this
    ·have hkk:q%ks.length<ks.length:=hm;obtain⟨u,hu1,hu2⟩:=p1.2 (q%ks.length) _ (List.getElem?_eq_getElem hkk);have hv':l[q%ks.length]?=some v:=hv;rw[hu1]at hv';cases hv'
     exact hu2.rel _)
  refine⟨.slice (some ⟨H.next,0,some ks.length⟩) L.length L.length,_,_,g1,g2,g3,?_,.inr ⟨L,_,_,rfl,rfl,hLk,(Prod.mk.inj h2).1,by simp;omega⟩⟩;rw[hLl];exact .slice _ _ _ _ _ _ _ _ (Bt.set_same _ _ _) (Nat.le_refl _) h4 (Nat.le_refl _) (fun _=>rfl)
end Go.AM
namespace Go.AM
open Go
theorem Rel.freeze{P:Program}{w w':World}{H:Hp}{β:Bt}(h:Rel P w H β){i:Nat}{cs:List Value}{x:BI}(hi:H.get i=some (.cells cs true))(hx:β i=some x)
  (ho:w'.os=w.os) (ht:w'.tape=w.tape) (hu:w'.output=w.output) (hs:w'.heap.size=w.heap.size) (hoth:∀k,k≠x.b→w'.heap[k]?=w.heap[k]?)
  (hrow:∀arr e fz,w.heap[x.b]?=some (.cells arr e fz)→∃fz',w'.heap[x.b]?=some (.cells arr e fz')) :
  Rel P w' (H.set i (some (.cells cs false))) β∧Ext w.heap.size w H β w' (H.set i (some (.cells cs false))) β:=by
 have hfr:∀j o y,j≠i→H.get j=some o→β j=some y→w'.heap[y.b]?=w.heap[y.b]?:=fun j o y hji hj hy=>
  hoth _ (fun e=>h.apart i j _ _ x y (Ne.symm hji) hi hj rfl hx hy e.symm)
 refine⟨⟨fun j ds own hj=>?_,fun j kv hj=>?_,fun j k o o' y z hjk hj hk hoo hy hz=>?_,fun j hj=>?_,fun j y hy=>?_,h.glob,fun j o hj=>(by
   rw[Hp.get_set]at hj;split at hj
   ·cases hj
   ·rename_i hji;obtain⟨y,hy,h0,h3⟩:=h.fix j o hj
    exact⟨y,hy,h0,by rw[hfr j _ y hji hj hy];exact h3⟩),fun j T hj=>(by
   obtain⟨y,arr,fz,hy,h1,h2,h3⟩:=h.tys j T hj;by_cases e:y.b=x.b
   ·rw[e]at h2;obtain⟨fz',h4⟩:=hrow arr T fz h2;exact⟨y,arr,fz',hy,h1,by rw[e];exact h4,h3⟩
   ·exact⟨y,arr,fz,hy,h1,by rw[hoth _ e];exact h2,h3⟩)⟩,
  ⟨ho,ht,hu,by rw[hs];exact Nat.le_refl _,Bt.le_refl _,Nat.le_refl _,fun b hb hno=>?_,fun b=>?_,fun j y hy hn=>by rw[hn]at hy;cases hy⟩⟩
 ·rw[Hp.get_set]at hj;split at hj
  ·rename_i hji;cases hj;subst hji;obtain⟨x',hx',h1,_⟩:=h.cells j cs true hi;rw[hx]at hx';cases hx';refine⟨x,hx,fun k v hk=>?_,fun q=>by cases q⟩;obtain⟨v',hv',hr⟩:=h1 k v hk;obtain⟨arr,e,fz,g1,g2⟩:=zce.1 hv';obtain⟨fz',g3⟩:=hrow arr e fz g1;exact⟨v',zce.2 ⟨arr,e,fz',g3,g2⟩,hr⟩
  ·rename_i hji;obtain⟨y,hy,h3,h4⟩:=h.cells j ds own hj;have hw:=hfr j _ y hji hj hy;refine⟨y,hy,fun k v hk=>?_,fun q=>⟨(h4 q).1.congr hw,(h4 q).2⟩⟩;obtain⟨v',hv',hr⟩:=h3 k v hk;exact⟨v',by rw[zcN hw];exact hv',hr⟩
 ·rw[Hp.get_set]at hj;split at hj
  ·cases hj
  ·rename_i hji;obtain⟨y,hy,es,clock,h3,h4⟩:=h.maps j kv hj;exact⟨y,hy,es,clock,by rw[hfr j _ y hji hj hy];exact h3,h4⟩
 ·rw[Hp.get_set]at hj hk;split at hj
  ·cases hj;cases hoo
  ·have hk':∃q,H.get k=some q:=by
    split at hk
    ·rename_i e;subst e;exact⟨_,hi⟩
    ·exact⟨_,hk⟩
   obtain⟨q,g⟩:=hk';exact h.apart j k o q y z hjk hj g hoo hy hz
 ·have:=h.fresh j hj;rw[Hp.get_set,if_neg (fun e=>by subst e;rw[hi]at this;cases this.1)];exact this
 ·rw[hs];exact h.lt j y hy
 ·exact hoth b (fun e=>by subst e;exact hno ⟨i,_,x,hi,rfl,hx,rfl⟩)
 ·rintro⟨j,o,y,hj,hoo,hy,rfl⟩
  rw[Hp.get_set]at hj;split at hj
  ·cases hj;cases hoo
  ·exact .inr ⟨j,o,y,hj,hoo,hy,rfl⟩
end Go.AM
namespace Go.AM
open List Go Go.ChangeShapes Go.WideShapes Go.ChangeAt Go.RowKit
theorem zkM{HH:Type}{enc:TypeId×Value→HH}{P:Program}{W:World}:∀{ts:List TypeId} {vs:List Value} {ds:List (DataW HH)} {ps:List MemPlace},DataW.TrodAll enc P W 0 (fun _=>true) true ts vs ds ps→ds.length=ts.length:=by
 intro ts;induction ts with
 |nil=>intro vs ds ps h;cases vs<;>cases ds<;>first|rfl|exact h.elim
 |cons t ts ih=>intro vs ds ps h;cases vs<;>cases ds<;>first|exact h.elim | (obtain⟨p,q,_,h2,_⟩:=h;simp[ih h2])
theorem zhG{C:Checked}{os:Os}{f:FuncId}{fn:Func}{s:OpenSpec}{HH:Type}{enc:TypeId×Value→HH}{k:(H:Type)→List (DataW H)→Bool}(hk:s.cond=some k){F:Stop.Interp}{conds:List PathCond}{laid:List (String×DataW Unit)}
  (own:ownKnob C.prog.godebug=none) (started:os.Started) (noInit:C.prog.inits.idxOf? f=none) (hfn:C.prog.funcs[f]?=some fn)
  (witness:∃(w:World) (tape:Tape) (i:Input),w.os=os∧(w.forCall tape i).Shaped C.prog∧i.vars=[]∧Input.okWide C.prog (w.forCall tape i) .any w.heap.size f i ∧
   s.preRow enc C.prog fn conds false laid (w.forCall tape i).memory i.args∧({}:Assume).holds C.prog (lone (Frame.enter C.prog f i.args .normal) [] (w.forCall tape i)))
  (hl:laidOutB C.prog=true) (hp:∀t∈fn.params.toList,C.prog.readableRec t=true∧t<C.prog.types.size) (hv:s.vars=[]) {tb:TypeId} (hr:fn.resultTypes = #[tb]) (hb:C.prog.underlying tb=some .bool)
  (hg:C.prog.globals.size=0∨∃x,(((begin C.prog (fun _ _=>0) default).world.heap[C.prog.globals.size-1]?).bind Obj.row?)=some x)
  (hsp:∀ds:List (DataW HH),ds.length=fn.params.size→(s.at F).fn HH ds={ results:=[.lit (.bool true)],args:=ds })
  {O:Orc} {ext:Ext1} (hm:C.prog.follows .mixedOrders=true) (he:ExtC C.prog ext)
  (main:∀(W:World) (base:Nat) (args:Array Value) (ds:List (DataW HH)) (ps:List MemPlace),C.prog.globals.size≤W.heap.size →
   (∀(j:Nat) t v,fn.params[j]?=some t→args[j]?=some v→Value.okWide C.prog W .any base t v)→DataW.TrodAll enc C.prog W 0 (fun _=>true) true fn.params.toList args.toList ds ps→k HH ds=true→laidMetH C.prog laid W →
   ∃(H0 H1:Hp) (β:Bt) (xs:List Value),Rel C.prog W H0 β∧(∀i o,H0.get i=some o→o.own=false)∧LRel β xs args.toList∧run C.prog O ext f xs H0=some (.bool true,H1))
  (hx:XtC C.prog O.xt:=by intro f e h;cases h) (hxf:O.xt f=none:=by rfl) (ho:ExtO O ext:=by intro f _;rfl) (hpf:O.pan f=false:=by rfl) :
  ReturnsInHanded {} C os f .any (s.preRow enc C.prog fn conds false laid) ((s.at F).post enc C.prog fn false true false false):=by
 refine returnsInHanded_of_row own started noInit hfn witness ?_;intro W base args ds gs before hval hw hc hkk _ hL hsh _;have hkk:=hkk k hk;obtain⟨p,q,h1,h2,e,_,_⟩:=id hw;have hgs:gs=[]:=by
  rw[hv]at h2;cases gs with
  |nil=>rfl
  |cons g gs=>exact h2.elim
 subst hgs;rw[append_nil]at hkk;obtain⟨H0,H1,β,xs,g1,g2,g3,g4⟩:=main W base args ds p (zor hsh hg) hval h1 hkk hL;refine(zn6 hm he g1 g2 g3 g4 hx hxf ho hpf).mono fun e W' ⟨h3,h4⟩=>?_;subst h3;have hlen:ds.length=fn.params.size:=by simpa using zkM h1
 exact⟨_,rfl,post_true (s:=s.at F) hl hp hv hr hb hw h4 (by rw[append_nil];exact hsp ds hlen)⟩
end Go.AM
namespace Go.AM
open Go
end Go.AM
namespace Go.AM
open Go Go.AM
noncomputable abbrev PP:Program:=Go.Proofs.Tryz.prog
abbrev ET:=FuncId→Option (List Value→Hp→Option (Value×Hp))
abbrev A2:Nat:=0
abbrev Cs:Nat:=1
abbrev AS:Nat:=2
abbrev Au:Nat:=3
abbrev Ct:Nat:=4
abbrev AH:FuncId:=129
abbrev Bm:FuncId:=130
abbrev Bn:FuncId:=127
abbrev A3:FuncId:=132
abbrev Bo:FuncId:=119
abbrev BU:FuncId:=125
abbrev A9:FuncId:=59
abbrev BV:FuncId:=117
abbrev Av:FuncId:=188
abbrev A4:FuncId:=189
abbrev Bp:FuncId:=131
abbrev Bq:FuncId:=92
abbrev BW:FuncId:=261
abbrev Ba:FuncId:=256
abbrev Ah:FuncId:=120
abbrev Br:FuncId:=128
abbrev Bs:FuncId:=191
abbrev Bu:FuncId:=190
abbrev BX:FuncId:=33
abbrev BY:FuncId:=10
abbrev BZ:FuncId:=26
abbrev B0:FuncId:=230
abbrev Bv:FuncId:=233
abbrev Ci:FuncId:=159
abbrev B1:FuncId:=259
abbrev Bb:FuncId:=253
abbrev Bw:FuncId:=254
abbrev B2:FuncId:=260
abbrev B3:FuncId:=258
abbrev B4:FuncId:=252
abbrev B5:FuncId:=251
abbrev Bc:FuncId:=30
abbrev By:FuncId:=21
abbrev Cj:FuncId:=69
abbrev Ck:FuncId:=65
abbrev Bd:FuncId:=48
abbrev Cl:FuncId:=66
abbrev AI:FuncId:=18
abbrev An:FuncId:=31
abbrev Cm:FuncId:=68
abbrev B6:FuncId:=58
abbrev Ag:FuncId:=172
abbrev Ai:FuncId:=176
abbrev AT:FuncId:=187
abbrev AU:FuncId:=173
abbrev AV:FuncId:=167
abbrev AJ:FuncId:=169
abbrev AK:FuncId:=170
abbrev AA:FuncId:=178
abbrev At:FuncId:=174
abbrev Bz:FuncId:=99
abbrev Ak:FuncId:=164
abbrev Ao:FuncId:=171
abbrev AL:FuncId:=70
abbrev Ap:FuncId:=168
abbrev AN:FuncId:=186
abbrev AW:FuncId:=234
abbrev Ay:FuncId:=236
abbrev BA:FuncId:=13
abbrev Be:FuncId:=34
abbrev B7:FuncId:=181
abbrev AO:FuncId:=107
abbrev B8:FuncId:=179
abbrev B9:FuncId:=180
abbrev Bf:FuncId:=184
abbrev BB:FuncId:=112
abbrev Ca:FuncId:=237
abbrev BC:FuncId:=175
abbrev Aw:FuncId:=235
abbrev BD:FuncId:=109
abbrev AX:FuncId:=115
abbrev Ac:FuncId:=165
abbrev A5:FuncId:=111
abbrev A6:FuncId:=110
abbrev Bg:FuncId:=183
abbrev Ad:FuncId:=166
abbrev BE:FuncId:=106
abbrev AP:FuncId:=177
abbrev Cb:FuncId:=238
abbrev AY:FuncId:=185
abbrev A7:FuncId:=114
abbrev Bh:FuncId:=182
abbrev Cc:FuncId:=57
abbrev A8:FuncId:=113
abbrev BG:FuncId:=108
abbrev Bi:FuncId:=161
abbrev BH:FuncId:=90
abbrev BJ:FuncId:=95
abbrev AB:FuncId:=94
abbrev AQ:FuncId:=89
abbrev BK:FuncId:=158
abbrev BL:FuncId:=160
abbrev AZ:FuncId:=32
abbrev Bj:FuncId:=71
abbrev A0:FuncId:=62
abbrev Bk:FuncId:=45
abbrev Az:FuncId:=88
abbrev BM:FuncId:=78
abbrev BN:FuncId:=76
abbrev Aj:FuncId:=73
abbrev AC:FuncId:=19
abbrev AR:FuncId:=47
abbrev BO:FuncId:=77
abbrev BP:FuncId:=72
abbrev BQ:FuncId:=75
abbrev BR:FuncId:=74
abbrev AD:FuncId:=61
abbrev Cd:FuncId:=123
abbrev Ar:FuncId:=121
abbrev Ce:FuncId:=124
abbrev BS:FuncId:=91
abbrev AE:FuncId:=93
abbrev Cf:FuncId:=122
abbrev Cu:TypeId:=243
abbrev Cv:TypeId:=222
abbrev BT:TypeId:=170
abbrev Cw:TypeId:=256
abbrev As:TypeId:=31
abbrev Af:TypeId:=35
abbrev Cg:TypeId:=51
abbrev Aa:TypeId:=3
abbrev Am:TypeId:=21
abbrev Ch:TypeId:=2
abbrev AF:TypeId:=25
abbrev Bl:TypeId:=37
abbrev Cr:TypeId:=119
abbrev Cn:TypeId:=114
abbrev AG:TypeId:=22
abbrev A1:TypeId:=23
abbrev Ae:TypeId:=9
abbrev Ax:TypeId:=159
abbrev Co:TypeId:=128
abbrev Cp:TypeId:=176
abbrev Cq:TypeId:=47
abbrev Al:TypeId:=181
abbrev Ab:TypeId:=24
abbrev Aq:TypeId:=5
abbrev Cx:TypeId:=251
abbrev Cy:TypeId:=248
def orc:Orc:={ mkOrc [(3,[15,18]),(4,[8]),(5,[21,23]),(6,[19]),(10,[20]),(12,[18]),(17,[10,14]),(19,[4]),(27,[5]),(28,[11]),(29,[5]),(33,[3]),(34,[13]),(35,[7]),(36,[15,17]),(38,[7]),(41,[3]),(44,[12]),(45,[14]),(46,[11,12]),(47,[14]),(48,[3]),(57,[0]),(63,[5]),(64,[9]),(67,[3,4]),(70,[8]),(71,[10]),(73,[3]),(80,[6,7,10]),(81,[6]),(83,[5,8]),(85,[3]),(86,[12,14]),(87,[3]),(96,[3]),(99,[3]),(102,[8]),(104,[3]),(106,[3,6]),(107,[3]),(108,[3,8,10]),(109,[3]),(110,[3]),(111,[3,9,11,13]),(112,[3,10]),(113,[3]),(114,[3,7]),(115,[3,6]),(122,[1]),(123,[3]),(124,[3]),(125,[15]),(133,[3]),(135,[3,4]),(136,[3]),(152,[9,10]),(153,[7]),(154,[3,7,8]),(155,[3,5]),(156,[3,5]),(157,[3]),(164,[4,5]),(167,[9,10]),(168,[6,8]),(174,[6]),(175,[8]),(179,[5]),(180,[5,15,17]),(181,[5,15,16]),(182,[7,16,17]),(183,[5]),(184,[5,10,12]),(185,[7]),(192,[2]),(193,[3]),(194,[3]),(201,[4]),(207,[4]),(209,[7]),(218,[12,13]),(219,[12,13]),(220,[8,9]),(223,[3,5,6]),(224,[3]),(231,[11,14]),(236,[9]),(237,[4]),(241,[4]),(249,[5]),(250,[9]),(263,[10])]
 [(3,[(31,some ([],[])),(28,some ([25],[])),(23,some ([],[])),(20,some ([],[])),(4,some ([],[]))]),(4,[(20,some ([],[])),(17,some ([],[])),(15,some ([],[])),(10,some ([],[]))]),(5,[(21,some ([],[])),(16,some ([],[]))]),(6,[(20,some ([],[])),(4,some ([],[]))]),(8,[(8,some ([],[])),(5,some ([],[]))]),(9,[(9,some ([],[]))]),(10,[(22,some ([],[])),(19,some ([],[]))]),(11,[(17,some ([],[])),(12,some ([],[])),(4,some ([],[]))]),(12,[(24,some ([],[])),(36,some ([15,16],[])),(11,some ([],[]))]),(14,[(9,some ([],[]))]),(17,[(6,some ([],[]))]),(26,[(4,some ([],[]))]),(35,[(8,some ([],[7]))]),(41,[(7,some ([],[]))]),(42,[(5,some ([],[]))]),(45,[(21,some ([],[]))]),(49,[(4,some ([],[]))]),(55,[(5,some ([],[])),(3,some ([],[]))]),(57,[(22,some ([48],[])),(19,some ([41],[])),(14,some ([27],[])),(8,some ([10],[]))]),(71,[(5,some ([22],[])),(4,some ([15],[])),(10,some ([],[10]))]),(73,[(26,some ([],[])),(21,some ([],[])),(5,some ([],[])),(3,some ([],[]))]),(83,[(15,some ([],[5]))]),(87,[(17,some ([83],[])),(13,some ([54],[])),(24,some ([5],[]))]),(93,[(6,some ([4],[]))]),(98,[(6,some ([3,4],[]))]),(99,[(10,some ([7],[]))]),(107,[(6,some ([23],[])),(4,some ([6,7],[]))]),(109,[(5,some ([23],[])),(14,some ([],[]))]),(110,[(24,some ([136],[])),(22,some ([121],[])),(20,some ([106],[])),(18,some ([95],[])),(13,some ([68],[]))]),(111,[(25,some ([],[])),(22,some ([],[])),(4,some ([],[]))]),(113,[(30,some ([138],[])),(20,some ([99],[])),(15,some ([79],[])),(17,some ([],[])),(4,some ([31],[]))]),(119,[(4,some ([0,2],[]))]),(123,[(8,some ([27],[]))]),(124,[(12,some ([60],[])),(4,some ([13],[]))]),(125,[(7,some ([5],[])),(3,some ([],[]))]),(127,[(3,some ([],[]))]),(129,[(5,some ([],[])),(3,some ([],[]))]),(131,[(3,some ([],[]))]),(132,[(5,some ([],[])),(3,some ([],[]))]),(135,[(22,some ([114],[])),(20,some ([98],[])),(7,some ([7],[])),(4,some ([6],[]))]),(136,[(23,some ([],[])),(18,some ([],[])),(7,some ([26],[])),(5,some ([17],[]))]),(141,[(4,some ([26],[])),(2,some ([11],[]))]),(147,[(2,some ([7],[]))]),(148,[(2,some ([7],[]))]),(150,[(4,some ([13],[]))]),(151,[(10,some ([41],[]))]),(152,[(25,some ([],[])),(22,some ([],[]))]),(154,[(12,some ([],[])),(10,some ([13],[])),(3,some ([25],[]))]),(155,[(15,some ([114],[])),(13,some ([84],[])),(11,some ([59],[]))]),(162,[(2,some ([3],[]))]),(175,[(20,some ([138],[])),(17,some ([116],[])),(14,some ([95],[])),(12,some ([79],[])),(10,some ([63],[]))]),(179,[(14,some ([78],[])),(10,some ([51],[])),(7,some ([40],[])),(4,some ([10,11],[]))]),(180,[(20,some ([137],[])),(18,some ([124],[])),(16,some ([111],[])),(14,some ([93],[])),(8,some ([52],[])),(6,some ([42],[]))]),(181,[(13,some ([86],[])),(7,some ([44],[])),(5,some ([34],[]))]),(182,[(14,some ([90],[])),(12,some ([75],[])),(10,some ([63],[])),(4,some ([28],[]))]),(183,[(20,some ([141],[])),(18,some ([120],[])),(16,some ([99],[])),(14,some ([82],[])),(10,some ([60],[])),(8,some ([48],[]))]),(184,[(6,some ([63],[])),(3,some ([],[]))]),(185,[(16,some ([114],[])),(12,some ([75],[])),(4,some ([33],[]))]),(192,[(3,some ([],[]))]),(193,[(12,some ([67],[]))]),(194,[(3,some ([8],[]))]),(195,[(3,some ([],[]))]),(207,[(24,some ([125],[]))]),(208,[(3,some ([],[]))]),(215,[(5,some ([],[])),(3,some ([],[]))]),(218,[(17,some ([85],[])),(15,some ([73],[]))]),(220,[(12,some ([54],[]))]),(222,[(7,some ([32],[])),(3,some ([16],[]))]),(224,[(18,some ([108],[])),(16,some ([93],[])),(14,some ([62],[]))]),(225,[(3,some ([],[]))]),(227,[(5,some ([],[])),(3,some ([],[]))]),(230,[(8,some ([6],[])),(4,some ([],[]))]),(231,[(14,some ([5],[]))]),(237,[(6,some ([36],[])),(4,some ([26],[]))]),(244,[(19,some ([11],[]))]),(253,[(20,some ([4,12],[]))]),(254,[(7,some ([1],[])),(3,some ([],[]))]),(255,[(5,some ([],[]))]),(262,[(2,some ([17],[]))])]
 [(3,[(33,[27],[]),(7,[11,12],[])]),(4,[(6,[4,5],[])]),(5,[(22,[20],[]),(7,[11],[])]),(6,[(47,[31],[]),(21,[10,13,18],[]),(7,[11,12],[])]),(7,[(5,[4],[])]),(8,[(6,[7],[])]),(10,[(26,[19],[]),(7,[9],[])]),(11,[(22,[16],[]),(18,[15],[])]),(12,[(37,[25],[]),(14,[15,16,17],[])]),(15,[(3,[5,6],[])]),(17,[(17,[52],[]),(8,[7,30],[])]),(22,[(17,[61],[]),(3,[28],[])]),(23,[(4,[5],[])]),(25,[(15,[89],[]),(10,[10,63],[])]),(28,[(8,[8,26],[])]),(34,[(15,[15,67],[]),(7,[31],[])]),(35,[(3,[5,6],[])]),(36,[(26,[19,113],[]),(12,[49],[])]),(37,[(6,[6,7],[]),(2,[5],[])]),(38,[(3,[5,6],[])]),(42,[(8,[11],[])]),(44,[(16,[13,14],[]),(7,[11],[])]),(45,[(37,[128],[]),(22,[86],[]),(9,[32],[])]),(46,[(31,[9,16],[]),(16,[9,13,15],[]),(7,[9,10],[])]),(47,[(16,[8,10],[]),(11,[8,10,36],[]),(2,[18],[])]),(49,[(6,[6],[])]),(50,[(3,[6,7,8],[])]),(51,[(12,[8],[]),(6,[6],[])]),(55,[(10,[8],[])]),(57,[(2,[2],[0])]),(73,[(6,[35],[])]),(80,[(11,[41],[]),(3,[16],[])]),(86,[(18,[13,15],[]),(12,[8,10],[]),(9,[8,9],[]),(2,[6],[])]),(98,[(7,[0,5],[])]),(100,[(3,[3,4],[])]),(125,[(4,[],[15])]),(160,[(27,[12],[]),(21,[10,11,12],[]),(18,[12],[]),(5,[3,4,5,6],[])]),(195,[(4,[3],[])]),(231,[(16,[49],[]),(4,[5,6],[14])]),(239,[(2,[3],[])]),(244,[(3,[9,10],[])]),(249,[(5,[6],[])]),(253,[(1,[1,4],[])]),(254,[(11,[1,13],[]),(18,[1,13],[])]),(262,[(14,[7,8],[]),(3,[20],[])]),(263,[(14,[7,8],[]),(3,[16],[])])] with gt:=fun t=>List.elem t [5,159] }
noncomputable def zcq(R:zai)(a b c:Value)(d:Hp):Option (Value×Hp):=znS PP orc R BY Go.Proofs.Tryz.f10 [a,b,c] d
noncomputable def zlt(R:zai)(b:Hp):Option (Value×Hp):=zab R AZ [(.int .i64 0)] b fun a c=>zaa a 0 fun d=>zaa a 1 fun l=>zab R Cc [] c fun e f=>zcG f fun g h=>zbe PP Cr [(0,d),(1,e),(2,g)] fun i=>zeY (zad i) h fun j k=>some (j,k)
noncomputable def zdX(R:zai)(a:Value)(b:Hp):Option (Value×Hp):=pBin PP .eql AF a (.pointer none) fun c=>zae c fun d=>br d (some ((.pointer none),b)) (pNil a (za5 0 a fun e=>zaH 1 false b e fun f=>some (f,b)))
noncomputable def zes(R:zai)(b c:Value)(d:Hp):Option (Value×Hp):=zab R AD [b,c] d fun e a=>pUn .not e fun f=>zae f fun g=>br g (zbe PP Af [] fun h=>zaE 7 [.int .i64 0,.int .i64 0,.int .i64 0,.int .i64 0,.int .i64 0,.int .u64 0,.string ⟨#[]⟩] 0 h fun i=>zaf 7 true i 0 fun j=>some ((.tuple #[j,(.int .i64 70)]),a)) (pNil b (za5 1 b fun k=>zaH 1 false a k fun l=>pBin PP .sub Aa c (.int .i64 1) fun m=>pIdx 7 l m fun n=>zaH 7 true a n fun o=>zaE 7 [.int .i64 0,.int .i64 0,.int .i64 0,.int .i64 0,.int .i64 0,.int .u64 0,.string ⟨#[]⟩] 0 o fun p=>zaf 7 true p 0 fun q=>some ((.tuple #[q,(.int .i64 0)]),a)))
noncomputable def zdZ(R:zai)(a d e:Value)(b:Hp):Option (Value×Hp):=pNil a (za5 0 a fun f=>zaH 1 false b f fun g=>zab R A0 [g,d,e] b fun c h=>zaa c 0 fun i=>zaa c 1 fun j=>some ((.tuple #[i,j]),h))
noncomputable def zdb(R:zai)(m:Hp):Option (Value×Hp):=zab R BA [] m fun a d=>zaG (pBin PP .eql AF a (.pointer none) fun n=>zae n fun o=>br o (some (.ret,[(.bool false)],d)) (zab R AI [a] d fun p e=>pBin PP .eql Bl p (.pointer none) fun q=>zae q fun r=>br r (some (.ret,[(.bool false)],e)) (some (.next,[],e)))) fun s t f=>zaM s (zab R B6 [a,(.string ⟨#[107]⟩),(.int .i64 8)] f fun g u=>zaa g 0 fun c=>zaa g 1 fun v=>zab R By [a,(.int .i64 8),(.int .u64 1)] u fun h w=>zaa h 0 fun i=>zaa h 1 fun x=>zab R Bc [a,(.int .i64 20),c,i] w fun j y=>zaa j 0 fun k=>zaa j 1 fun z=>zab R Bc [a,(.int .i64 21),k,i] y fun l b=>zaa l 0 fun A=>zaa l 1 fun B=>pBin PP .eql As v (.int .i64 0) fun C=>zae C fun D=>br D (pBin PP .eql As x (.int .i64 0) fun E=>zae E fun F=>br F (pBin PP .eql As z (.int .i64 0) fun G=>zae G fun H=>br H (pBin PP .eql As B (.int .i64 0) fun I=>zae I fun J=>br J (pBin PP .neq Aa k c fun K=>zae K fun L=>br L (pBin PP .eql Aa A c fun M=>some (M,b)) (some ((.bool false),b))) (some ((.bool false),b))) (some ((.bool false),b))) (some ((.bool false),b))) (some ((.bool false),b))) (fun N=>none) (some ((t.headD undef),f))
noncomputable def zc4(R:zai)(a e f g:Value)(b:Hp):Option (Value×Hp):=pNil a (za5 0 a fun h=>zaH 1 false b h fun i=>zab R Bj [i,e,f,g] b fun c j=>zaa c 0 fun k=>zaa c 1 fun l=>zab R AL [a,k,l] j fun d m=>zaa d 0 fun n=>zaa d 1 fun o=>some ((.tuple #[n,o]),m))
noncomputable def zdW(R:zai)(a d:Value)(b:Hp):Option (Value×Hp):=pNil a (za5 0 a fun e=>zaH 1 false b e fun f=>zab R BP [f,d] b fun c g=>zaa c 0 fun h=>zaa c 1 fun i=>some (h,g))
noncomputable def zls(R:zai)(a:Value)(b:Hp):Option (Value×Hp):=pBin PP .lss Aa a (.int .i64 0) fun c=>zae c fun d=>br d (some ((.tuple #[(.pointer none),(.int .i64 1)]),b)) (zcG b fun e f=>zcG f fun g h=>zbe PP Co [(0,a),(2,e),(3,g)] fun i=>zeY (zad i) h fun j k=>some ((.tuple #[j,(.int .i64 0)]),k))
noncomputable def zd0(R:zai)(c a:Value)(b:Hp):Option (Value×Hp):=zaf 1 false (zad a) 0 fun d=>pBin PP .eql Aa d (.int .i64 1) fun n=>zae n fun o=>br o (zaf 7 true (zad a) 9 fun p=>zab R Aj [c,p] b fun e q=>zaa e 0 fun r=>zaa e 1 fun s=>some ((.tuple #[r,s]),q)) (pBin PP .eql Aa d (.int .i64 2) fun t=>zae t fun u=>br u (zaf 1 false (zad a) 6 fun v=>zab R BP [c,v] b fun f w=>zaa f 0 fun x=>zaa f 1 fun y=>some ((.tuple #[x,y]),w)) (pBin PP .eql Aa d (.int .i64 3) fun z=>zae z fun A=>br A (zaf 1 false (zad a) 5 fun B=>zaf 1 false (zad a) 7 fun C=>zab R A0 [c,B,C] b fun g D=>zaa g 0 fun E=>zaa g 1 fun F=>some ((.tuple #[E,F]),D)) (pBin PP .eql Aa d (.int .i64 4) fun G=>zae G fun H=>br H (zaf 1 false (zad a) 8 fun I=>zaf 1 false (zad a) 5 fun J=>zab R BR [c,I,J] b fun h K=>zaa h 0 fun L=>zaa h 1 fun M=>some ((.tuple #[L,M]),K)) (pBin PP .eql Aa d (.int .i64 5) fun N=>zae N fun O=>br O (zaf 1 false (zad a) 1 fun P=>zaf 1 false (zad a) 2 fun Q=>zab R BQ [c,P,Q] b fun i S=>zaa i 0 fun T=>zaa i 1 fun U=>some ((.tuple #[T,U]),S)) (pBin PP .eql Aa d (.int .i64 6) fun V=>zae V fun W=>br W (zaf 1 false (zad a) 1 fun X=>zaf 1 false (zad a) 2 fun Y=>zaf 1 false (zad a) 3 fun Z=>zab R Bj [c,X,Y,Z] b fun j aa=>zaa j 0 fun ab=>zaa j 1 fun ac=>some ((.tuple #[ab,ac]),aa)) (pBin PP .eql Aa d (.int .i64 7) fun ad=>zae ad fun ae=>br ae (zaf 1 false (zad a) 2 fun af=>zaf 1 false (zad a) 3 fun ag=>zaf 1 false (zad a) 4 fun ah=>zab R BN [c,af,ag,ah] b fun k ai=>zaa k 0 fun aj=>zaa k 1 fun ak=>some ((.tuple #[aj,ak]),ai)) (pBin PP .eql Aa d (.int .i64 8) fun al=>zae al fun am=>br am (zaf 1 false (zad a) 2 fun ao=>zaf 1 false (zad a) 3 fun ap=>zaf 1 false (zad a) 4 fun aq=>zab R BO [c,ao,ap,aq] b fun l ar=>zaa l 0 fun au=>zaa l 1 fun av=>some ((.tuple #[au,av]),ar)) (pBin PP .eql Aa d (.int .i64 9) fun aw=>zae aw fun ax=>br ax (zaf 1 false (zad a) 1 fun ay=>zaf 1 false (zad a) 2 fun az=>zaf 1 false (zad a) 5 fun ba=>zab R BM [c,ay,az,ba] b fun m bb=>zaa m 0 fun bc=>zaa m 1 fun bd=>some ((.tuple #[bc,bd]),bb)) (some ((.tuple #[(.int .i64 0),(.int .i64 0)]),b))))))))))
noncomputable def zfN(R:zai)(a b:Value)(c:Hp):Option (Value×Hp):=znS PP orc R Be Go.Proofs.Tryz.f34 [a,b] c
noncomputable def zeu(R:zai)(a b:Value)(c:Hp):Option (Value×Hp):=znS PP orc R Bk Go.Proofs.Tryz.f45 [a,b] c
noncomputable def zdS(R:zai)(a b:Value)(c:Hp):Option (Value×Hp):=znS PP orc R AR Go.Proofs.Tryz.f47 [a,b] c
noncomputable def zeA(R:zai)(a b:Value)(c:Hp):Option (Value×Hp):=pNil a (za5 0 a fun g=>zaH 1 false c g fun h=>zaf 7 true (zad b) 0 fun i=>zab R Aj [h,i] c fun d e=>zaa d 0 fun o=>zaa d 1 fun f=>pBin PP .neq As f (.int .i64 0) fun j=>zae j fun k=>br k (some ((.tuple #[(.int .i64 0),f]),e)) (zaf 7 true (zad b) 0 fun l=>zab R Bz [a,l] e fun m n=>some ((.tuple #[m,(.int .i64 0)]),n)))
noncomputable def znC(R:zai)(u:Hp):Option (Value×Hp):=zaG (zbi (fun a f=>pBin PP .lss Aa (a.getD 0 undef) (.int .i64 34) fun v=>zae v fun w=>br w (pBin PP .eql Aa (a.getD 0 undef) (.int .i64 5) fun x=>zae x fun y=>br y (zb9 34 (a.getD 0 undef) fun z=>zaE 1 (zad ((a.drop 1).getD 0 undef)) (0+z*1) (.func (.func BE) #[] #[]) fun A=>pBin PP .add Aa (a.getD 0 undef) (.int .i64 1) fun B=>some (.next,[B,(.agg A.toArray)],f)) (zaG (pBin PP .eql Aa (a.getD 0 undef) (.int .i64 6) fun l=>zae l fun C=>br C (some (.next,[l],f)) (pBin PP .eql Aa (a.getD 0 undef) (.int .i64 7) fun D=>some (.next,[D],f))) fun E m c=>zaM E (zae (m.getD 0 undef) fun F=>br F (zb9 34 (a.getD 0 undef) fun G=>zaE 1 (zad ((a.drop 1).getD 0 undef)) (0+G*1) (.func (.func AO) #[] #[]) fun H=>pBin PP .add Aa (a.getD 0 undef) (.int .i64 1) fun I=>some (.next,[I,(.agg H.toArray)],c)) (pBin PP .eql Aa (a.getD 0 undef) (.int .i64 8) fun J=>zae J fun K=>br K (zb9 34 (a.getD 0 undef) fun L=>zaE 1 (zad ((a.drop 1).getD 0 undef)) (0+L*1) (.func (.func BG) #[] #[]) fun M=>pBin PP .add Aa (a.getD 0 undef) (.int .i64 1) fun N=>some (.next,[N,(.agg M.toArray)],c)) (pBin PP .eql Aa (a.getD 0 undef) (.int .i64 9) fun O=>zae O fun P=>br P (zb9 34 (a.getD 0 undef) fun Q=>zaE 1 (zad ((a.drop 1).getD 0 undef)) (0+Q*1) (.func (.func BD) #[] #[]) fun S=>pBin PP .add Aa (a.getD 0 undef) (.int .i64 1) fun T=>some (.next,[T,(.agg S.toArray)],c)) (zaG (pBin PP .geq Aa (a.getD 0 undef) (.int .i64 10) fun U=>zae U fun V=>br V (pBin PP .leq Aa (a.getD 0 undef) (.int .i64 13) fun W=>some (.next,[W],c)) (some (.next,[(.bool false)],c))) fun X n d=>zaM X (zae (n.getD 0 undef) fun Y=>br Y (zb9 34 (a.getD 0 undef) fun Z=>zaE 1 (zad ((a.drop 1).getD 0 undef)) (0+Z*1) (.func (.func A6) #[] #[]) fun aa=>pBin PP .add Aa (a.getD 0 undef) (.int .i64 1) fun ab=>some (.next,[ab,(.agg aa.toArray)],d)) (pBin PP .eql Aa (a.getD 0 undef) (.int .i64 14) fun ac=>zae ac fun ad=>br ad (zb9 34 (a.getD 0 undef) fun ae=>zaE 1 (zad ((a.drop 1).getD 0 undef)) (0+ae*1) (.func (.func A5) #[] #[]) fun af=>pBin PP .add Aa (a.getD 0 undef) (.int .i64 1) fun ag=>some (.next,[ag,(.agg af.toArray)],d)) (zaG (pBin PP .eql Aa (a.getD 0 undef) (.int .i64 15) fun o=>zae o fun ah=>br ah (some (.next,[o],d)) (pBin PP .eql Aa (a.getD 0 undef) (.int .i64 16) fun ai=>some (.next,[ai],d))) fun aj p e=>zaM aj (zae (p.getD 0 undef) fun ak=>br ak (zb9 34 (a.getD 0 undef) fun al=>zaE 1 (zad ((a.drop 1).getD 0 undef)) (0+al*1) (.func (.func BB) #[] #[]) fun am=>pBin PP .add Aa (a.getD 0 undef) (.int .i64 1) fun ao=>some (.next,[ao,(.agg am.toArray)],e)) (zaG (pBin PP .geq Aa (a.getD 0 undef) (.int .i64 17) fun ap=>zae ap fun aq=>br aq (pBin PP .leq Aa (a.getD 0 undef) (.int .i64 29) fun q=>zae q fun ar=>br ar (some (.next,[q],e)) (pBin PP .eql Aa (a.getD 0 undef) (.int .i64 30) fun au=>some (.next,[au],e))) (pBin PP .eql Aa (a.getD 0 undef) (.int .i64 30) fun av=>some (.next,[av],e))) fun aw r b=>zaM aw (zae (r.getD 0 undef) fun ax=>br ax (zb9 34 (a.getD 0 undef) fun ay=>zaE 1 (zad ((a.drop 1).getD 0 undef)) (0+ay*1) (.func (.func A8) #[] #[]) fun az=>pBin PP .add Aa (a.getD 0 undef) (.int .i64 1) fun ba=>some (.next,[ba,(.agg az.toArray)],b)) (pBin PP .eql Aa (a.getD 0 undef) (.int .i64 31) fun bb=>zae bb fun bc=>br bc (zb9 34 (a.getD 0 undef) fun bd=>zaE 1 (zad ((a.drop 1).getD 0 undef)) (0+bd*1) (.func (.func A7) #[] #[]) fun be=>pBin PP .add Aa (a.getD 0 undef) (.int .i64 1) fun bf=>some (.next,[bf,(.agg be.toArray)],b)) (pBin PP .eql Aa (a.getD 0 undef) (.int .i64 32) fun s=>zae s fun bg=>br bg (zae s fun bh=>br bh (zb9 34 (a.getD 0 undef) fun bi=>zaE 1 (zad ((a.drop 1).getD 0 undef)) (0+bi*1) (.func (.func AX) #[] #[]) fun bj=>pBin PP .add Aa (a.getD 0 undef) (.int .i64 1) fun bk=>some (.next,[bk,(.agg bj.toArray)],b)) (pBin PP .add Aa (a.getD 0 undef) (.int .i64 1) fun bl=>some (.next,[bl,(.agg (zad ((a.drop 1).getD 0 undef)).toArray)],b))) (pBin PP .eql Aa (a.getD 0 undef) (.int .i64 33) fun bm=>zae bm fun bn=>br bn (zb9 34 (a.getD 0 undef) fun bo=>zaE 1 (zad ((a.drop 1).getD 0 undef)) (0+bo*1) (.func (.func AX) #[] #[]) fun bp=>pBin PP .add Aa (a.getD 0 undef) (.int .i64 1) fun bq=>some (.next,[bq,(.agg bp.toArray)],b)) (pBin PP .add Aa (a.getD 0 undef) (.int .i64 1) fun bs=>some (.next,[bs,(.agg (zad ((a.drop 1).getD 0 undef)).toArray)],b)))))) (fun g=>zaI g 2 (pBin PP .add Aa (a.getD 0 undef) (.int .i64 1) fun bt=>some (.next,[bt,(.agg (zad ((a.drop 1).getD 0 undef)).toArray)],b)) (zaI g 1 (pBin PP .add Aa (a.getD 0 undef) (.int .i64 1) fun bu=>some (.next,[bu,(.agg (zad ((a.drop 1).getD 0 undef)).toArray)],b)) (some (.exit g,[(a.getD 0 undef),(.agg (zad ((a.drop 1).getD 0 undef)).toArray)],b)))) (some (.ret,[(r.headD undef)],b)))) (fun h=>zaI h 2 (pBin PP .add Aa (a.getD 0 undef) (.int .i64 1) fun bv=>some (.next,[bv,(.agg (zad ((a.drop 1).getD 0 undef)).toArray)],e)) (zaI h 1 (pBin PP .add Aa (a.getD 0 undef) (.int .i64 1) fun bw=>some (.next,[bw,(.agg (zad ((a.drop 1).getD 0 undef)).toArray)],e)) (some (.exit h,[(a.getD 0 undef),(.agg (zad ((a.drop 1).getD 0 undef)).toArray)],e)))) (some (.ret,[(p.headD undef)],e))))) (fun i=>zaI i 2 (pBin PP .add Aa (a.getD 0 undef) (.int .i64 1) fun bx=>some (.next,[bx,(.agg (zad ((a.drop 1).getD 0 undef)).toArray)],d)) (zaI i 1 (pBin PP .add Aa (a.getD 0 undef) (.int .i64 1) fun bz=>some (.next,[bz,(.agg (zad ((a.drop 1).getD 0 undef)).toArray)],d)) (some (.exit i,[(a.getD 0 undef),(.agg (zad ((a.drop 1).getD 0 undef)).toArray)],d)))) (some (.ret,[(n.headD undef)],d)))))) (fun j=>zaI j 2 (pBin PP .add Aa (a.getD 0 undef) (.int .i64 1) fun ca=>some (.next,[ca,(.agg (zad ((a.drop 1).getD 0 undef)).toArray)],c)) (zaI j 1 (pBin PP .add Aa (a.getD 0 undef) (.int .i64 1) fun cb=>some (.next,[cb,(.agg (zad ((a.drop 1).getD 0 undef)).toArray)],c)) (some (.exit j,[(a.getD 0 undef),(.agg (zad ((a.drop 1).getD 0 undef)).toArray)],c)))) (some (.ret,[(m.headD undef)],c)))) (some (.exit 0,[(a.getD 0 undef),(.agg (zad ((a.drop 1).getD 0 undef)).toArray)],f))) [(.int .i64 0),(.agg [.nilFunc,.nilFunc,.nilFunc,.nilFunc,.nilFunc,.nilFunc,.nilFunc,.nilFunc,.nilFunc,.nilFunc,.nilFunc,.nilFunc,.nilFunc,.nilFunc,.nilFunc,.nilFunc,.nilFunc,.nilFunc,.nilFunc,.nilFunc,.nilFunc,.nilFunc,.nilFunc,.nilFunc,.nilFunc,.nilFunc,.nilFunc,.nilFunc,.nilFunc,.nilFunc,.nilFunc,.nilFunc,.nilFunc,.nilFunc].toArray)] u) fun cc k t=>zaM cc none (fun cd=>zaI cd 0 (zaf 34 true (zad ((k.drop 1).getD 0 undef)) 0 fun ce=>zaE 34 (zad ((k.drop 1).getD 0 undef)) 0 ce fun cf=>zaf 34 true cf 0 fun cg=>some (cg,t)) (none)) (some ((k.headD undef),t))
noncomputable def zfe(R:zai)(a d e:Value)(b:Hp):Option (Value×Hp):=pNil a (za5 0 a fun f=>zaH 1 false b f fun g=>zab R BR [g,d,e] b fun c h=>zaa c 0 fun i=>zaa c 1 fun j=>some ((.tuple #[i,j]),h))
noncomputable def zfh(R:zai)(a:Value)(b:Hp):Option (Value×Hp):=zab R BV [a] b fun c d=>some (c,d)
noncomputable def zfz(R:zai)(b c:Value)(a:Hp):Option (Value×Hp):=pBin PP .geq Aa c (.int .i64 1) fun d=>zae d fun e=>br e (pNil b (za5 1 b fun f=>zaH 1 false a f fun g=>pLen .sl g a fun h=>pBin PP .leq Aa c h fun i=>some (i,a))) (some ((.bool false),a))
noncomputable def zdT(R:zai)(c a d:Value)(e:Hp):Option (Value×Hp):=zab R Ah [a,d] e fun f g=>zbe PP Af [(0,(.int .i64 3)),(1,a),(5,f)] fun h=>zab R Aj [c,h] g fun b i=>zaa b 0 fun j=>zaa b 1 fun k=>some ((.tuple #[j,k]),i)
noncomputable def zff(R:zai)(a e f g:Value)(b:Hp):Option (Value×Hp):=pNil a (za5 0 a fun h=>zaH 1 false b h fun i=>zab R BN [i,e,f,g] b fun c j=>zaa c 0 fun k=>zaa c 1 fun l=>zab R AL [a,k,l] j fun d m=>zaa d 0 fun n=>zaa d 1 fun o=>some ((.tuple #[n,o]),m))
noncomputable def zdY(R:zai)(a e f g:Value)(b:Hp):Option (Value×Hp):=pNil a (za5 0 a fun h=>zaH 1 false b h fun i=>zab R BO [i,e,f,g] b fun c j=>zaa c 0 fun k=>zaa c 1 fun l=>zab R AL [a,k,l] j fun d m=>zaa d 0 fun n=>zaa d 1 fun o=>some ((.tuple #[n,o]),m))
noncomputable def zfR(R:zai)(a e f:Value)(b:Hp):Option (Value×Hp):=pNil a (za5 0 a fun g=>zaH 1 false b g fun h=>zab R BQ [h,e,f] b fun c i=>zaa c 0 fun j=>zaa c 1 fun k=>zab R AL [a,j,k] i fun d l=>zaa d 0 fun m=>zaa d 1 fun n=>some ((.tuple #[m,n]),l))
noncomputable def zfg(R:zai)(a e f g:Value)(b:Hp):Option (Value×Hp):=pNil a (za5 0 a fun h=>zaH 1 false b h fun i=>zab R BM [i,e,f,g] b fun c j=>zaa c 0 fun k=>zaa c 1 fun l=>zab R AL [a,k,l] j fun d m=>zaa d 0 fun n=>zaa d 1 fun o=>some ((.tuple #[n,o]),m))
noncomputable def zfQ(R:zai)(a e c:Value)(b:Hp):Option (Value×Hp):=pBin PP .neq As c (.int .i64 0) fun f=>zae f fun g=>br g (some ((.tuple #[(.int .i64 0),c]),b)) (pNil a (za5 0 a fun h=>zaH 1 false b h fun i=>zab R AC [i,e] b fun d j=>zaa d 0 fun k=>zaa d 1 fun p=>zaE 7 [.int .i64 0,.int .i64 0,.int .i64 0,.int .i64 0,.int .i64 0,.int .u64 0,.string ⟨#[]⟩] 0 k fun l=>zaf 7 true l 0 fun m=>zab R Bz [a,m] j fun n o=>some ((.tuple #[n,(.int .i64 0)]),o)))
noncomputable def ze5(R:zai)(b c g h:Value)(i:Hp):Option (Value×Hp):=zbe PP Af [(0,c),(2,g),(3,h)] fun t=>zaE 7 [.int .i64 0,.int .i64 0,.int .i64 0,.int .i64 0,.int .i64 0,.int .u64 0,.string ⟨#[]⟩] 0 t fun a=>zaG (zaG (pBin PP .geq Aa c (.int .i64 6) fun u=>zae u fun v=>br v (pBin PP .leq Aa c (.int .i64 13) fun w=>some (.next,[w],i)) (some (.next,[(.bool false)],i))) fun x j d=>zaM x (zae (j.getD 0 undef) fun y=>br y (some (.next,[(.agg a.toArray)],d)) (zaG (pBin PP .geq Aa c (.int .i64 17) fun z=>zae z fun A=>br A (pBin PP .leq Aa c (.int .i64 29) fun B=>some (.next,[B],d)) (some (.next,[(.bool false)],d))) fun C k e=>zaM C (zae (k.getD 0 undef) fun D=>br D (zab R Ar [b,g] e fun E F=>pMM true [E,(.int .i64 0)] fun G=>zaE 1 a 1 G fun H=>some (.next,[(.agg H.toArray)],F)) (pBin PP .eql Aa c (.int .i64 30) fun I=>zae I fun J=>br J (zab R Ar [b,g] e fun K L=>pMM true [K,(.int .i64 0)] fun M=>zab R Ar [b,h] L fun N l=>pMM true [N,(.int .i64 0)] fun O=>pBin PP .add Aa M O fun P=>zaE 1 a 1 P fun f=>zaf 1 false f 1 fun Q=>pBin PP .gtr Aa Q (.int .i64 64) fun S=>zae S fun T=>br T (zaE 1 f 1 (.int .i64 0) fun U=>some (.next,[(.agg U.toArray)],l)) (zab R AD [b,g] l fun V m=>pUn .not V fun W=>zae W fun X=>br X (zaE 1 f 1 (.int .i64 0) fun Y=>some (.next,[(.agg Y.toArray)],m)) (zab R AD [b,h] m fun Z n=>pUn .not Z fun aa=>zae aa fun ab=>br ab (zaE 1 f 1 (.int .i64 0) fun ac=>some (.next,[(.agg ac.toArray)],n)) (some (.next,[(.agg f.toArray)],n))))) (some (.ret,[(.tuple #[(.int .i64 0),(.int .i64 73)])],e)))) (fun o=>zaI o 0 (some (.next,[(.agg a.toArray)],e)) (some (.exit o,[(.agg a.toArray)],e))) (some (.ret,[(k.headD undef)],e)))) (fun p=>zaI p 0 (some (.next,[(.agg a.toArray)],d)) (some (.exit p,[(.agg a.toArray)],d))) (some (.ret,[(j.headD undef)],d))) fun ad q r=>zaM ad (zaf 7 true (zad ((q.drop 0).getD 0 undef)) 0 fun ae=>zab R Aj [b,ae] r fun s af=>zaa s 0 fun ag=>zaa s 1 fun ah=>some ((.tuple #[ag,ah]),af)) (fun ai=>none) (some ((q.headD undef),r))
noncomputable def zdQ(R:zai)(a e:Value)(b:Hp):Option (Value×Hp):=zae e fun f=>br f (zbe PP Af [(0,(.int .i64 1))] fun g=>zab R Aj [a,g] b fun c h=>zaa c 0 fun i=>zaa c 1 fun j=>some ((.tuple #[i,j]),h)) (zbe PP Af [(0,(.int .i64 2))] fun k=>zab R Aj [a,k] b fun d l=>zaa d 0 fun m=>zaa d 1 fun n=>some ((.tuple #[m,n]),l))
noncomputable def zet(R:zai)(a b:Value)(j:Hp):Option (Value×Hp):=zaG (zaf 1 false (zad b) 0 fun y=>pBin PP .lss Aa y (.int .i64 1) fun z=>zae z fun A=>br A (some (.ret,[(.tuple #[(.int .i64 0),(.int .i64 73)])],j)) (zaf 1 false (zad b) 0 fun B=>pBin PP .gtr Aa B (.int .i64 33) fun C=>zae C fun D=>br D (some (.ret,[(.tuple #[(.int .i64 0),(.int .i64 73)])],j)) (some (.next,[],j)))) fun E F g=>zaM E (zaG (zaf 1 false (zad b) 1 fun G=>pBin PP .lss Aa G (.int .i64 0) fun H=>zae H fun I=>br I (some (.ret,[(.tuple #[(.int .i64 0),(.int .i64 5)])],g)) (zaf 1 false (zad b) 1 fun J=>pBin PP .gtr Aa J (.int .i64 64) fun K=>zae K fun L=>br L (some (.ret,[(.tuple #[(.int .i64 0),(.int .i64 5)])],g)) (some (.next,[],g)))) fun M N m=>zaM M (zaf 1 false (zad b) 2 fun O=>zaf 1 false (zad b) 3 fun P=>zaf 1 false (zad b) 4 fun Q=>zbe PP BT [(0,O),(1,P),(2,Q)] fun S=>zaG (zbi (fun d n=>pBin PP .lss Aa (d.getD 0 undef) (.int .i64 3) fun T=>zae T fun U=>br U (zen 3 false 1 S (d.getD 0 undef) fun V=>zaf 1 false (zad b) 0 fun W=>zab R AE [W] n fun X o=>pBin PP .lss Aa (d.getD 0 undef) X fun Y=>zae Y fun Z=>br Z (zab R AD [a,V] o fun aa p=>pUn .not aa fun ab=>zae ab fun ac=>br ac (some (.ret,[(.tuple #[(.int .i64 0),(.int .i64 70)])],p)) (pBin PP .add Aa (d.getD 0 undef) (.int .i64 1) fun ad=>some (.next,[ad],p))) (pBin PP .add Aa (d.getD 0 undef) (.int .i64 1) fun ae=>some (.next,[ae],o))) (some (.exit 0,[(d.getD 0 undef)],n))) [(.int .i64 0)] m) fun af ag q=>zaM af none (fun ah=>zaI ah 0 (zaf 7 true (zad b) 0 fun ai=>zab R Cf [ai] q fun aj r=>zae aj fun ak=>br ak (some ((.tuple #[(.int .i64 0),(.int .i64 1)]),r)) (zaf 7 true (zad b) 0 fun al=>zab R Cd [a,al] r fun am s=>pUn .not am fun ao=>zae ao fun ap=>br ap (some ((.tuple #[(.int .i64 0),(.int .i64 71)]),s)) (zaf 7 true (zad b) 0 fun aq=>zab R Ce [a,aq] s fun ar e=>pUn .not ar fun au=>zae au fun av=>br av (some ((.tuple #[(.int .i64 0),(.int .i64 5)]),e)) (zaG (zaf 1 false (zad b) 0 fun aw=>pBin PP .eql Aa aw (.int .i64 4) fun ax=>zae ax fun ay=>br ay (pNil a (za5 3 a fun az=>zaH 1 false e az fun ba=>zaf 1 false (zad b) 6 fun bb=>zc3 PP Ae (.int .i64 0) ba bb true e fun t=>zaa t 0 fun bc=>zaa t 1 fun bd=>zaf 1 false (zad b) 6 fun be=>zab R BU [be] e fun bf h=>pUn .not bf fun bg=>zae bg fun bh=>br bh (some (.ret,[(.tuple #[(.int .i64 0),(.int .i64 72)])],h)) (zae bd fun bi=>br bi (zaf 1 false (zad b) 1 fun bj=>pBin PP .neq Aa bc bj fun bk=>zae bk fun bl=>br bl (some (.ret,[(.tuple #[(.int .i64 0),(.int .i64 72)])],h)) (some (.next,[],h))) (some (.next,[],h))))) (some (.next,[],e))) fun bm bn c=>zaM bm (pNil a (za5 2 a fun bo=>zaH 1 false c bo fun bp=>zaf 7 true (zad b) 0 fun bq=>zc3 PP Af (.int .i64 0) bp bq true c fun u=>zaa u 0 fun bs=>zaa u 1 fun bt=>zae bt fun bu=>br bu (some ((.tuple #[bs,(.int .i64 0)]),c)) (zaG (pNil a (za5 0 a fun bv=>zaH 1 false c bv fun bw=>pBin PP .gtr Aa bw (.int .i64 0) fun bx=>zae bx fun bz=>br bz (pNil a (za5 1 a fun ca=>zaH 1 false c ca fun cb=>pLen .sl cb c fun cc=>pNil a (za5 0 a fun cd=>zaH 1 false c cd fun ce=>pBin PP .geq Aa cc ce fun cf=>zae cf fun cg=>br cg (some (.ret,[(.tuple #[(.int .i64 0),(.int .i64 4)])],c)) (some (.next,[],c))))) (some (.next,[],c)))) fun ch ci k=>zaM ch (pNil a (za5 1 a fun v=>zaH 1 false k v fun w=>zaf 7 true (zad b) 0 fun cj=>zaP 7 [.int .i64 0,.int .i64 0,.int .i64 0,.int .i64 0,.int .i64 0,.int .u64 0,.string ⟨#[]⟩] 1 [(0,cj)] k fun ck x=>chk (Hp.rdP x v 1 false=some w) (zbb 7 64 w ck x fun cl cm=>pNil a (za5 1 a fun cn=>za8 1 cm cn cl fun i=>pNil a (za5 2 a fun co=>zaH 1 false i co fun cp=>zaf 7 true (zad b) 0 fun cq=>pNil a (za5 1 a fun cr=>zaH 1 false i cr fun cs=>pLen .sl cs i fun ct=>pUpd PP Af cp cq ct i fun f=>zaf 1 false (zad b) 0 fun cu=>pBin PP .eql Aa cu (.int .i64 4) fun cv=>zae cv fun cw=>br cw (pNil a (za5 3 a fun cx=>zaH 1 false f cx fun cy=>zaf 1 false (zad b) 6 fun cz=>zaf 1 false (zad b) 1 fun da=>pUpd PP Ae cy cz da f fun l=>pNil a (za5 1 a fun db=>zaH 1 false l db fun dc=>pLen .sl dc l fun dd=>some ((.tuple #[dd,(.int .i64 0)]),l)))) (pNil a (za5 1 a fun de=>zaH 1 false f de fun df=>pLen .sl df f fun dg=>some ((.tuple #[dg,(.int .i64 0)]),f))))))))) (fun dh=>none) (some ((ci.headD undef),k))))) (fun di=>none) (some ((bn.headD undef),c)))))) (none)) (some ((ag.headD undef),q))) (fun dj=>none) (some ((N.headD undef),m))) (fun dk=>none) (some ((F.headD undef),g))
noncomputable def ze2(R:zai)(b c d:Value)(e:Hp):Option (Value×Hp):=zbe PP Af [(0,(.int .i64 4)),(1,d),(6,c)] fun f=>zab R Aj [b,f] e fun a g=>zaa a 0 fun h=>zaa a 1 fun i=>some ((.tuple #[h,i]),g)
noncomputable def zfA(R:zai)(b a c:Value)(d:Hp):Option (Value×Hp):=pBin PP .eql Aa a (.int .i64 5) fun i=>zae i fun j=>br j (zbe PP Af [(0,a),(2,c)] fun k=>zab R Aj [b,k] d fun e l=>zaa e 0 fun m=>zaa e 1 fun n=>some ((.tuple #[m,n]),l)) (pBin PP .eql Aa a (.int .i64 15) fun f=>zae f fun o=>br o (zae f fun p=>br p (zab R Ar [b,c] d fun q r=>pMM true [q,(.int .i64 0)] fun s=>zbe PP Af [(0,a),(1,s),(2,c)] fun t=>zab R Aj [b,t] r fun g u=>zaa g 0 fun v=>zaa g 1 fun w=>some ((.tuple #[v,w]),u)) (some ((.tuple #[(.int .i64 0),(.int .i64 73)]),d))) (pBin PP .eql Aa a (.int .i64 16) fun x=>zae x fun y=>br y (zab R Ar [b,c] d fun z A=>pMM true [z,(.int .i64 0)] fun B=>zbe PP Af [(0,a),(1,B),(2,c)] fun C=>zab R Aj [b,C] A fun h D=>zaa h 0 fun E=>zaa h 1 fun F=>some ((.tuple #[E,F]),D)) (some ((.tuple #[(.int .i64 0),(.int .i64 73)]),d))))
noncomputable def ze3(R:zai)(a d b e:Value)(f:Hp):Option (Value×Hp):=zab R Ar [a,b] f fun g h=>pMM true [g,(.int .i64 0)] fun i=>zbe PP Af [(0,(.int .i64 14)),(1,i),(2,d),(3,b),(4,e)] fun j=>zab R Aj [a,j] h fun c k=>zaa c 0 fun l=>zaa c 1 fun m=>some ((.tuple #[l,m]),k)
noncomputable def zdR(R:zai)(b c d e:Value)(f:Hp):Option (Value×Hp):=zav .u64 d fun g=>zbe PP Af [(0,(.int .i64 31)),(1,e),(2,c),(5,g)] fun h=>zab R Aj [b,h] f fun a i=>zaa a 0 fun j=>zaa a 1 fun k=>some ((.tuple #[j,k]),i)
noncomputable def ze4(R:zai)(c a d e:Value)(b:Hp):Option (Value×Hp):=pBin PP .neq Aa a (.int .i64 32) fun h=>zae h fun i=>br i (pBin PP .neq Aa a (.int .i64 33) fun j=>zae j fun k=>br k (some ((.tuple #[(.int .i64 0),(.int .i64 73)]),b)) (zbe PP Af [(0,a),(1,e),(2,d)] fun l=>zab R Aj [c,l] b fun f m=>zaa f 0 fun n=>zaa f 1 fun o=>some ((.tuple #[n,o]),m))) (zbe PP Af [(0,a),(1,e),(2,d)] fun p=>zab R Aj [c,p] b fun g q=>zaa g 0 fun r=>zaa g 1 fun s=>some ((.tuple #[r,s]),q))
noncomputable def zdC(R:zai)(a b:Value)(c:Hp):Option (Value×Hp):=zab R BH [a] c fun d e=>pBin PP .add Ae (.string ⟨#[32]⟩) d fun f=>zab R AQ [b,f] e fun h g=>some ((.tuple #[]),g)
noncomputable def zbS(R:zai)(a b:Value)(e:Hp):Option (Value×Hp):=zab R BK [a] e fun l c=>pNil a (za5 1 a fun f=>zaH 1 false c f fun g=>zbG Aq 1 1 g b c fun h i=>pNil a (za5 1 a fun j=>za8 1 i j h fun d=>pLen .str b d fun k=>some ((.tuple #[k,.nilIface]),d)))
noncomputable def zgn(R:zai)(a:Value)(b:Hp):Option (Value×Hp):=zab R Ci [a] b fun c d=>some (c,d)
noncomputable def zii(R:zai)(a:Hp):Option (Value×Hp):=zab R BL [(.string ⟨#[45,32,116,114,117,101,32,102,97,108,115,101,32,99,111,110,115,116,32,118,97,114,32,110,111,116,32,97,110,100,32,111,114,32,120,111,114,32,101,113,32,117,108,116,32,117,108,101,32,115,108,116,32,115,108,101,32,105,116,101,32,99,111,109,32,110,101,103,32,98,97,110,100,32,98,111,114,32,98,120,111,114,32,97,100,100,32,115,117,98,32,109,117,108,32,100,105,118,32,114,101,109,32,115,104,108,32,115,104,114,32,115,97,114,32,114,111,108,32,114,111,114,32,99,97,116,32,115,108,105,99,101,32,122,101,120,116,32,115,101,120,116]⟩)] a fun b c=>some (b,c)
noncomputable def zj9(R:zai)(a:Value)(b:Hp):Option (Value×Hp):=pBin PP .lss Ab a (.int .u64 1000) fun c=>zae c fun d=>br d (zab R Bi [a,(.int .i64 10)] b fun e f=>some (e,f)) (zab R Bi [a,(.int .i64 16)] b fun g h=>pBin PP .add Ae (.string ⟨#[48,120]⟩) g fun i=>some (i,h))
noncomputable def zih(R:zai)(b:Value)(c:Hp):Option (Value×Hp):=zaG (pBin PP .eql Aa b (.int .i64 1) fun d=>zae d fun m=>br m (some (.next,[d],c)) (pBin PP .eql Aa b (.int .i64 2) fun e=>zae e fun n=>br n (some (.next,[e],c)) (pBin PP .eql Aa b (.int .i64 3) fun f=>zae f fun o=>br o (some (.next,[f],c)) (pBin PP .eql Aa b (.int .i64 4) fun p=>some (.next,[p],c))))) fun q g a=>zaM q (zae (g.getD 0 undef) fun r=>br r (some ((.int .i64 0),a)) (pBin PP .eql Aa b (.int .i64 5) fun h=>zae h fun s=>br s (zae h fun t=>br t (some ((.int .i64 1),a)) (pBin PP .eql Aa b (.int .i64 14) fun u=>zae u fun v=>br v (some ((.int .i64 3),a)) (some ((.int .i64 2),a)))) (pBin PP .eql Aa b (.int .i64 15) fun i=>zae i fun w=>br w (zae i fun x=>br x (some ((.int .i64 1),a)) (pBin PP .eql Aa b (.int .i64 14) fun y=>zae y fun z=>br z (some ((.int .i64 3),a)) (some ((.int .i64 2),a)))) (pBin PP .eql Aa b (.int .i64 16) fun j=>zae j fun A=>br A (zae j fun B=>br B (some ((.int .i64 1),a)) (pBin PP .eql Aa b (.int .i64 14) fun C=>zae C fun D=>br D (some ((.int .i64 3),a)) (some ((.int .i64 2),a)))) (pBin PP .eql Aa b (.int .i64 31) fun k=>zae k fun E=>br E (zae k fun F=>br F (some ((.int .i64 1),a)) (pBin PP .eql Aa b (.int .i64 14) fun G=>zae G fun H=>br H (some ((.int .i64 3),a)) (some ((.int .i64 2),a)))) (pBin PP .eql Aa b (.int .i64 32) fun l=>zae l fun I=>br I (zae l fun J=>br J (some ((.int .i64 1),a)) (pBin PP .eql Aa b (.int .i64 14) fun K=>zae K fun L=>br L (some ((.int .i64 3),a)) (some ((.int .i64 2),a)))) (pBin PP .eql Aa b (.int .i64 33) fun M=>zae M fun N=>br N (some ((.int .i64 1),a)) (pBin PP .eql Aa b (.int .i64 14) fun O=>zae O fun P=>br P (some ((.int .i64 3),a)) (some ((.int .i64 2),a)))))))))) (fun Q=>zaI Q 0 (some ((.int .i64 2),a)) (none)) (some ((g.headD undef),a))
noncomputable def zb6(R:zai)(a c:Value)(d:Hp):Option (Value×Hp):=zab R BK [a] d fun m b=>pNil a (za5 1 a fun e=>zaH 1 false b e fun f=>zaP 1 [.int .u8 0] 1 [(0,c)] b fun g h=>zbG Aq 1 1 f g h fun i j=>pNil a (za5 1 a fun k=>za8 1 j k i fun l=>some (.nilIface,l)))
noncomputable def zez(R:zai)(a b:Value)(c:Hp):Option (Value×Hp):=pNil a (za5 35 a fun m=>zaH 1 false c m fun n=>zaf 7 true (zad b) 0 fun o=>zc3 PP Af (.int .i64 0) n o true c fun f=>zaa f 0 fun p=>zaa f 1 fun q=>zae q fun r=>br r (some (p,c)) (zaG (zaf 1 false (zad b) 0 fun s=>pNil a (za5 1 a fun t=>zbH 34 1 t s fun u=>zaH 1 false c u fun g=>pBin PP .neq Cn g .nilFunc fun v=>zae v fun w=>br w (zaf 7 true (zad b) 0 fun x=>zgd orc R g [a,x] c fun h i=>zaa h 0 fun y=>zaa h 1 fun z=>zae z fun A=>br A (some (.next,[y],i)) (some (.next,[(.int .i64 0)],i))) (some (.next,[(.int .i64 0)],c)))) fun B e d=>zaM B (pBin PP .eql Aa (e.getD 0 undef) (.int .i64 0) fun C=>zae C fun D=>br D (pNil a (za5 0 a fun E=>zaH 1 false d E fun F=>zaf 7 true (zad b) 0 fun G=>zab R Aj [F,G] d fun j k=>zaa j 0 fun l=>zaa j 1 fun P=>pNil a (za5 35 a fun H=>zaH 1 false k H fun I=>zaf 7 true (zad b) 0 fun J=>pUpd PP Af I J l k fun K=>some (l,K)))) (pNil a (za5 35 a fun L=>zaH 1 false d L fun M=>zaf 7 true (zad b) 0 fun N=>pUpd PP Af M N (e.getD 0 undef) d fun O=>some ((e.getD 0 undef),O)))) (fun Q=>none) (some ((e.headD undef),d))))
noncomputable def zfD(R:zai)(b i:Value)(j:Hp):Option (Value×Hp):=zaf 1 false (zad i) 2 fun k=>zab R Ak [b,k] j fun l a=>zaE 7 [.int .i64 0,.int .i64 0,.int .i64 0,.int .i64 0,.int .i64 0,.int .u64 0,.string ⟨#[]⟩] 0 l fun d=>zaf 1 false d 0 fun c=>pBin PP .eql Aa c (.int .i64 1) fun m=>zae m fun n=>br n (zab R An [b,(.bool false)] a fun o p=>zab R Ac [o] p fun e q=>zaa e 0 fun r=>zaa e 1 fun s=>some ((.tuple #[r,s]),q)) (pBin PP .eql Aa c (.int .i64 2) fun t=>zae t fun u=>br u (zab R An [b,(.bool true)] a fun v w=>zab R Ac [v] w fun f x=>zaa f 0 fun y=>zaa f 1 fun z=>some ((.tuple #[y,z]),x)) (pBin PP .eql Aa c (.int .i64 5) fun A=>zae A fun B=>br B (zaf 1 false d 2 fun C=>zab R Ac [C] a fun g D=>zaa g 0 fun E=>zaa g 1 fun F=>some ((.tuple #[E,F]),D)) (zab R Ad [] a fun h G=>zaa h 0 fun H=>zaa h 1 fun I=>some ((.tuple #[H,I]),G))))
noncomputable def zfL(R:zai)(e f:Value)(t:Hp):Option (Value×Hp):=zab R An [e,(.bool false)] t fun h u=>zab R An [e,(.bool true)] u fun i j=>zaG (zaf 1 false (zad f) 0 fun v=>pBin PP .eql Aa v (.int .i64 7) fun w=>zae w fun x=>br x (some (.next,[i,h],j)) (some (.next,[h,i],j))) fun y a g=>zaM y (zaf 1 false (zad f) 2 fun c=>zaf 1 false (zad f) 3 fun d=>zaG (pBin PP .eql Aa c (a.getD 0 undef) fun z=>zae z fun A=>br A (some (.next,[(.bool true)],g)) (pBin PP .eql Aa d (a.getD 0 undef) fun B=>some (.next,[B],g))) fun C k b=>zaM C (zae (k.getD 0 undef) fun D=>br D (zab R Ac [(a.getD 0 undef)] b fun l E=>zaa l 0 fun F=>zaa l 1 fun G=>some ((.tuple #[F,G]),E)) (pBin PP .eql Aa c (a.getD 1 undef) fun H=>zae H fun I=>br I (zab R Ac [d] b fun m J=>zaa m 0 fun K=>zaa m 1 fun L=>some ((.tuple #[K,L]),J)) (pBin PP .eql Aa d (a.getD 1 undef) fun M=>zae M fun N=>br N (zab R Ac [c] b fun n O=>zaa n 0 fun P=>zaa n 1 fun Q=>some ((.tuple #[P,Q]),O)) (pBin PP .eql Aa c d fun S=>zae S fun T=>br T (zab R Ac [c] b fun o U=>zaa o 0 fun V=>zaa o 1 fun W=>some ((.tuple #[V,W]),U)) (zab R AV [e,(.int .i64 5),c,d] b fun X p=>zae X fun Y=>br Y (zab R Ac [(a.getD 0 undef)] p fun q Z=>zaa q 0 fun aa=>zaa q 1 fun ab=>some ((.tuple #[aa,ab]),Z)) (zab R Ad [] p fun r ac=>zaa r 0 fun ad=>zaa r 1 fun ae=>some ((.tuple #[ad,ae]),ac))))))) (fun af=>zaI af 0 (zab R Ad [] b fun s ag=>zaa s 0 fun ah=>zaa s 1 fun ai=>some ((.tuple #[ah,ai]),ag)) (none)) (some ((k.headD undef),b))) (fun aj=>none) (some ((a.headD undef),g))
noncomputable def zfB(R:zai)(a f:Value)(u:Hp):Option (Value×Hp):=zaf 1 false (zad f) 2 fun b=>zaf 1 false (zad f) 3 fun c=>zab R Ap [a,b,(.int .i64 5)] u fun g v=>zaa g 0 fun w=>zaa g 1 fun x=>zaE 7 [.int .i64 0,.int .i64 0,.int .i64 0,.int .i64 0,.int .i64 0,.int .u64 0,.string ⟨#[]⟩] 0 w fun y=>zab R Ap [a,c,(.int .i64 5)] v fun h z=>zaa h 0 fun A=>zaa h 1 fun B=>zaE 7 [.int .i64 0,.int .i64 0,.int .i64 0,.int .i64 0,.int .i64 0,.int .u64 0,.string ⟨#[]⟩] 0 A fun C=>zab R AJ [a,b] z fun D i=>zae D fun E=>br E (zab R Ac [c] i fun j F=>zaa j 0 fun G=>zaa j 1 fun H=>some ((.tuple #[G,H]),F)) (zab R AK [a,b] i fun I k=>zae I fun J=>br J (zab R Ao [a,c] k fun K L=>zab R Ac [K] L fun l M=>zaa l 0 fun N=>zaa l 1 fun O=>some ((.tuple #[N,O]),M)) (zab R AJ [a,c] k fun P m=>zae P fun Q=>br Q (zab R Ac [b] m fun n S=>zaa n 0 fun T=>zaa n 1 fun U=>some ((.tuple #[T,U]),S)) (zab R AK [a,c] m fun V e=>zae V fun W=>br W (zab R Ao [a,b] e fun X Y=>zab R Ac [X] Y fun o Z=>zaa o 0 fun aa=>zaa o 1 fun ab=>some ((.tuple #[aa,ab]),Z)) (pBin PP .eql Aa b c fun ac=>zae ac fun ad=>br ad (zab R An [a,(.bool false)] e fun ae af=>zab R Ac [ae] af fun p ag=>zaa p 0 fun ah=>zaa p 1 fun ai=>some ((.tuple #[ah,ai]),ag)) (zab R AV [a,(.int .i64 5),b,c] e fun aj d=>zae aj fun ak=>br ak (zab R An [a,(.bool true)] d fun al am=>zab R Ac [al] am fun q ao=>zaa q 0 fun ap=>zaa q 1 fun aq=>some ((.tuple #[ap,aq]),ao)) (zae x fun ar=>br ar (zaf 1 false y 2 fun au=>zab R Ag [a,(.int .i64 8),au,c] d fun av aw=>zab R Ao [a,av] aw fun ax ay=>zab R Ac [ax] ay fun r az=>zaa r 0 fun ba=>zaa r 1 fun bb=>some ((.tuple #[ba,bb]),az)) (zae B fun bc=>br bc (zaf 1 false C 2 fun bd=>zab R Ag [a,(.int .i64 8),b,bd] d fun be bf=>zab R Ao [a,be] bf fun bg bh=>zab R Ac [bg] bh fun s bi=>zaa s 0 fun bj=>zaa s 1 fun bk=>some ((.tuple #[bj,bk]),bi)) (zab R Ad [] d fun t bl=>zaa t 0 fun bm=>zaa t 1 fun bn=>some ((.tuple #[bm,bn]),bl)))))))))
noncomputable def zgo(R:zai)(a e:Value)(f:Hp):Option (Value×Hp):=zaf 1 false (zad e) 2 fun b=>zaf 1 false (zad e) 3 fun c=>zaG (pBin PP .eql Aa b c fun z=>zae z fun A=>br A (zab R An [a,(.bool true)] f fun B C=>zab R Ac [B] C fun g D=>zaa g 0 fun E=>zaa g 1 fun F=>some (.ret,[(.tuple #[E,F])],D)) (zaG (zab R AU [a,b] f fun G h=>zae G fun H=>br H (zab R AU [a,c] h fun I J=>some (.next,[I],J)) (some (.next,[(.bool false)],h))) fun K i d=>zaM K (zae (i.getD 0 undef) fun L=>br L (zab R An [a,(.bool false)] d fun M N=>zab R Ac [M] N fun j O=>zaa j 0 fun P=>zaa j 1 fun Q=>some (.ret,[(.tuple #[P,Q])],O)) (zab R AU [a,b] d fun S k=>zae S fun T=>br T (zab R Ag [a,(.int .i64 9),c,b] k fun U V=>zab R Ac [U] V fun l W=>zaa l 0 fun X=>zaa l 1 fun Y=>some (.ret,[(.tuple #[X,Y])],W)) (zab R AK [a,c] k fun Z m=>zae Z fun aa=>br aa (zab R Ac [b] m fun n ab=>zaa n 0 fun ac=>zaa n 1 fun ad=>some (.ret,[(.tuple #[ac,ad])],ab)) (zab R AJ [a,c] m fun ae o=>zae ae fun af=>br af (zab R Ao [a,b] o fun ag ah=>zab R Ac [ag] ah fun p ai=>zaa p 0 fun aj=>zaa p 1 fun ak=>some (.ret,[(.tuple #[aj,ak])],ai)) (zab R Ak [a,b] o fun al q=>zd9 false 1 1 al fun am=>pBin PP .eql Aa am (.int .i64 0) fun ao=>zae ao fun ap=>br ap (zab R AV [a,(.int .i64 5),b,c] q fun aq r=>zae aq fun ar=>br ar (zab R An [a,(.bool false)] r fun au av=>zab R Ac [au] av fun s aw=>zaa s 0 fun ax=>zaa s 1 fun ay=>some (.ret,[(.tuple #[ax,ay])],aw)) (some (.next,[],r))) (some (.next,[],q))))))) (fun t=>zaI t 0 (some (.next,[],d)) (some (.exit t,[],d))) (some (.ret,[(i.headD undef)],d)))) fun az ba u=>zaM az (zab R At [a,c] u fun v w=>zaa v 0 fun bb=>zaa v 1 fun bc=>zae bc fun bd=>br bd (zab R BC [a,b,bb] w fun x be=>zaa x 0 fun bf=>zaa x 1 fun bg=>some ((.tuple #[bf,bg]),be)) (zab R Ad [] w fun y bh=>zaa y 0 fun bi=>zaa y 1 fun bj=>some ((.tuple #[bi,bj]),bh))) (fun bk=>none) (some ((ba.headD undef),u))
noncomputable def ze7(R:zai)(a e:Value)(m:Hp):Option (Value×Hp):=zaf 1 false (zad e) 2 fun b=>zaf 1 false (zad e) 3 fun c=>zaf 1 false (zad e) 0 fun q=>pBin PP .eql Aa q (.int .i64 11) fun S=>zae S fun T=>br T (zab R Ag [a,(.int .i64 10),c,b] m fun U V=>zab R Ao [a,U] V fun W X=>zab R Ac [W] X fun r Y=>zaa r 0 fun Z=>zaa r 1 fun aa=>some ((.tuple #[Z,aa]),Y)) (pBin PP .eql Aa q (.int .i64 13) fun ab=>zae ab fun ac=>br ac (zab R Ag [a,(.int .i64 12),c,b] m fun ad ae=>zab R Ao [a,ad] ae fun af ag=>zab R Ac [af] ag fun s ah=>zaa s 0 fun ai=>zaa s 1 fun aj=>some ((.tuple #[ai,aj]),ah)) (zab R Ak [a,b] m fun ak al=>zd9 false 1 1 ak fun j=>zab R At [a,b] al fun t am=>zaa t 0 fun n=>zaa t 1 fun o=>zab R At [a,c] am fun u p=>zaa u 0 fun k=>zaa u 1 fun l=>pBin PP .eql Aa b c fun ao=>zae ao fun ap=>br ap (zab R An [a,(.bool false)] p fun aq ar=>zab R Ac [aq] ar fun v au=>zaa v 0 fun av=>zaa v 1 fun aw=>some ((.tuple #[av,aw]),au)) (zaG (zae o fun ax=>br ax (some (.next,[l],p)) (some (.next,[(.bool false)],p))) fun ay w d=>zaM ay (zae (w.getD 0 undef) fun az=>br az (zaf 1 false (zad e) 0 fun ba=>zab R Bn [ba,j,n,k] d fun x bb=>zaa x 0 fun bc=>zaa x 1 fun es=>zab R An [a,bc] bb fun bd be=>zab R Ac [bd] be fun y bf=>zaa y 0 fun bg=>zaa y 1 fun bh=>some ((.tuple #[bg,bh]),bf)) (zaf 1 false (zad e) 0 fun bi=>pBin PP .eql Aa bi (.int .i64 12) fun bj=>zae bj fun bk=>br bk (zab R Ad [] d fun z bl=>zaa z 0 fun bm=>zaa z 1 fun bn=>some ((.tuple #[bm,bn]),bl)) (zaG (zae l fun bo=>br bo (pBin PP .eql Ab k (.int .u64 0) fun bp=>some (.next,[bp],d)) (some (.next,[(.bool false)],d))) fun bq A f=>zaM bq (zae (A.getD 0 undef) fun bs=>br bs (zab R An [a,(.bool false)] f fun bt bu=>zab R Ac [bt] bu fun B bv=>zaa B 0 fun bw=>zaa B 1 fun bx=>some ((.tuple #[bw,bx]),bv)) (zaG (zae o fun bz=>br bz (pBin PP .eql Ab n (.int .u64 0) fun ca=>some (.next,[ca],f)) (some (.next,[(.bool false)],f))) fun cb C g=>zaM cb (zae (C.getD 0 undef) fun cc=>br cc (zab R Ag [a,(.int .i64 9),c,b] g fun cd ce=>zab R Ao [a,cd] ce fun cf cg=>zab R Ac [cf] cg fun D ch=>zaa D 0 fun ci=>zaa D 1 fun cj=>some ((.tuple #[ci,cj]),ch)) (zaG (zae l fun ck=>br ck (pBin PP .eql Ab k (.int .u64 1) fun cl=>some (.next,[cl],g)) (some (.next,[(.bool false)],g))) fun cm E h=>zaM cm (zae (E.getD 0 undef) fun cn=>br cn (zab R Ai [a,j,(.int .u64 0)] h fun co cp=>zab R Ag [a,(.int .i64 9),b,co] cp fun cq cr=>zab R Ac [cq] cr fun F cs=>zaa F 0 fun ct=>zaa F 1 fun cu=>some ((.tuple #[ct,cu]),cs)) (zaG (zae o fun cv=>br cv (zab R AP [j] h fun cw cx=>pBin PP .eql Ab n cw fun cy=>some (.next,[cy],cx)) (some (.next,[(.bool false)],h))) fun cz G i=>zaM cz (zae (G.getD 0 undef) fun da=>br da (zab R An [a,(.bool false)] i fun db dc=>zab R Ac [db] dc fun H dd=>zaa H 0 fun de=>zaa H 1 fun df=>some ((.tuple #[de,df]),dd)) (zae l fun dg=>br dg (zab R AP [j] i fun dh I=>pBin PP .eql Ab k dh fun di=>zae di fun dj=>br dj (zab R Ag [a,(.int .i64 9),b,c] I fun dk dl=>zab R Ao [a,dk] dl fun dm dn=>zab R Ac [dm] dn fun J dp=>zaa J 0 fun dq=>zaa J 1 fun dr=>some ((.tuple #[dq,dr]),dp)) (zab R Ad [] I fun K ds=>zaa K 0 fun dt=>zaa K 1 fun du=>some ((.tuple #[dt,du]),ds))) (zab R Ad [] i fun L dv=>zaa L 0 fun dw=>zaa L 1 fun dx=>some ((.tuple #[dw,dx]),dv)))) (fun dy=>zaI dy 1 (zab R Ad [] i fun M dz=>zaa M 0 fun ea=>zaa M 1 fun eb=>some ((.tuple #[ea,eb]),dz)) (none)) (some ((G.headD undef),i)))) (fun ec=>zaI ec 1 (zab R Ad [] h fun N ed=>zaa N 0 fun ee=>zaa N 1 fun ef=>some ((.tuple #[ee,ef]),ed)) (none)) (some ((E.headD undef),h)))) (fun eg=>zaI eg 1 (zab R Ad [] g fun O eh=>zaa O 0 fun ei=>zaa O 1 fun ej=>some ((.tuple #[ei,ej]),eh)) (none)) (some ((C.headD undef),g)))) (fun ek=>zaI ek 1 (zab R Ad [] f fun P el=>zaa P 0 fun em=>zaa P 1 fun en=>some ((.tuple #[em,en]),el)) (none)) (some ((A.headD undef),f))))) (fun eo=>zaI eo 1 (zab R Ad [] d fun Q ep=>zaa Q 0 fun eq=>zaa Q 1 fun er=>some ((.tuple #[eq,er]),ep)) (none)) (some ((w.headD undef),d)))))
noncomputable def zfF(R:zai)(a e:Value)(K:Hp):Option (Value×Hp):=zaf 1 false (zad e) 2 fun b=>zaf 1 false (zad e) 3 fun c=>zaf 1 false (zad e) 4 fun d=>zaG (zab R AK [a,b] K fun L g=>zae L fun M=>br M (zab R Ac [c] g fun k N=>zaa k 0 fun O=>zaa k 1 fun P=>some (.ret,[(.tuple #[O,P])],N)) (pBin PP .eql Aa c d fun Q=>zae Q fun S=>br S (zab R Ac [c] g fun l T=>zaa l 0 fun U=>zaa l 1 fun V=>some (.ret,[(.tuple #[U,V])],T)) (some (.next,[],g)))) fun W X m=>zaM W (zab R AJ [a,b] m fun Y n=>zae Y fun Z=>br Z (zab R Ac [d] n fun o aa=>zaa o 0 fun ab=>zaa o 1 fun ac=>some ((.tuple #[ab,ac]),aa)) (zab R Ap [a,b,(.int .i64 5)] n fun p h=>zaa p 0 fun ad=>zaa p 1 fun ae=>zaE 7 [.int .i64 0,.int .i64 0,.int .i64 0,.int .i64 0,.int .i64 0,.int .u64 0,.string ⟨#[]⟩] 0 ad fun af=>zae ae fun ag=>br ag (zaf 1 false af 2 fun ah=>zab R AA [a,ah,d,c] h fun ai aj=>zab R Ac [ai] aj fun q ak=>zaa q 0 fun al=>zaa q 1 fun am=>some ((.tuple #[al,am]),ak)) (zaG (zaf 1 false (zad e) 1 fun ao=>pBin PP .eql Aa ao (.int .i64 0) fun ap=>zae ap fun aq=>br aq (zab R AK [a,c] h fun ar r=>zae ar fun au=>br au (zab R Ag [a,(.int .i64 7),b,d] r fun av aw=>zab R Ac [av] aw fun s ax=>zaa s 0 fun ay=>zaa s 1 fun az=>some (.ret,[(.tuple #[ay,az])],ax)) (zab R AJ [a,c] r fun ba t=>zae ba fun bb=>br bb (zab R Ao [a,b] t fun bc bd=>zab R Ag [a,(.int .i64 6),bc,d] bd fun be bf=>zab R Ac [be] bf fun u bg=>zaa u 0 fun bh=>zaa u 1 fun bi=>some (.ret,[(.tuple #[bh,bi])],bg)) (zab R AK [a,d] t fun bj v=>zae bj fun bk=>br bk (zab R Ao [a,b] v fun bl bm=>zab R Ag [a,(.int .i64 7),bl,c] bm fun bn bo=>zab R Ac [bn] bo fun w bp=>zaa w 0 fun bq=>zaa w 1 fun bs=>some (.ret,[(.tuple #[bq,bs])],bp)) (zab R AJ [a,d] v fun bt f=>zae bt fun bu=>br bu (zab R Ag [a,(.int .i64 6),b,c] f fun bv bw=>zab R Ac [bv] bw fun x bx=>zaa x 0 fun bz=>zaa x 1 fun ca=>some (.ret,[(.tuple #[bz,ca])],bx)) (pBin PP .eql Aa c b fun cb=>zae cb fun cc=>br cc (zab R Ag [a,(.int .i64 7),b,d] f fun cd ce=>zab R Ac [cd] ce fun y cf=>zaa y 0 fun cg=>zaa y 1 fun ch=>some (.ret,[(.tuple #[cg,ch])],cf)) (pBin PP .eql Aa d b fun ci=>zae ci fun cj=>br cj (zab R Ag [a,(.int .i64 6),b,c] f fun ck cl=>zab R Ac [ck] cl fun z cm=>zaa z 0 fun cn=>zaa z 1 fun co=>some (.ret,[(.tuple #[cn,co])],cm)) (some (.next,[],f)))))))) (some (.next,[],h))) fun cp cq A=>zaM cp (zaG (zab R Ap [a,c,(.int .i64 14)] A fun B i=>zaa B 0 fun cr=>zaa B 1 fun cs=>zaE 7 [.int .i64 0,.int .i64 0,.int .i64 0,.int .i64 0,.int .i64 0,.int .u64 0,.string ⟨#[]⟩] 0 cr fun C=>zae cs fun ct=>br ct (zaf 1 false C 2 fun cu=>pBin PP .eql Aa cu b fun cv=>zae cv fun cw=>br cw (zaf 1 false C 3 fun cx=>zab R AA [a,b,cx,d] i fun cy cz=>zab R Ac [cy] cz fun D da=>zaa D 0 fun db=>zaa D 1 fun dc=>some (.ret,[(.tuple #[db,dc])],da)) (some (.next,[],i))) (some (.next,[],i))) fun dd de E=>zaM dd (zab R Ap [a,d,(.int .i64 14)] E fun F j=>zaa F 0 fun df=>zaa F 1 fun dg=>zaE 7 [.int .i64 0,.int .i64 0,.int .i64 0,.int .i64 0,.int .i64 0,.int .u64 0,.string ⟨#[]⟩] 0 df fun G=>zae dg fun dh=>br dh (zaf 1 false G 2 fun di=>pBin PP .eql Aa di b fun dj=>zae dj fun dk=>br dk (zaf 1 false G 4 fun dl=>zab R AA [a,b,c,dl] j fun dm dn=>zab R Ac [dm] dn fun H dp=>zaa H 0 fun dq=>zaa H 1 fun dr=>some ((.tuple #[dq,dr]),dp)) (zab R Ad [] j fun I ds=>zaa I 0 fun dt=>zaa I 1 fun du=>some ((.tuple #[dt,du]),ds))) (zab R Ad [] j fun J dv=>zaa J 0 fun dw=>zaa J 1 fun dx=>some ((.tuple #[dw,dx]),dv))) (fun dy=>none) (some ((de.headD undef),E))) (fun dz=>none) (some ((cq.headD undef),A))))) (fun ea=>none) (some ((X.headD undef),m))
noncomputable def zfJ(R:zai)(c a:Value)(m:Hp):Option (Value×Hp):=zaf 1 false (zad a) 2 fun n=>zab R At [c,n] m fun e f=>zaa e 0 fun o=>zaa e 1 fun p=>zae p fun q=>br q (zaf 1 false (zad a) 0 fun r=>zaf 1 false (zad a) 1 fun s=>zab R Br [r,s,o] f fun g t=>zaa g 0 fun u=>zaa g 1 fun af=>zaf 1 false (zad a) 1 fun v=>zab R Ai [c,v,u] t fun w x=>zab R Ac [w] x fun h y=>zaa h 0 fun z=>zaa h 1 fun A=>some ((.tuple #[z,A]),y)) (zaf 1 false (zad a) 2 fun B=>zab R Ak [c,B] f fun C d=>zaE 7 [.int .i64 0,.int .i64 0,.int .i64 0,.int .i64 0,.int .i64 0,.int .u64 0,.string ⟨#[]⟩] 0 C fun b=>zaf 1 false b 0 fun D=>zaf 1 false (zad a) 0 fun E=>pBin PP .eql Aa D E fun F=>zae F fun G=>br G (zaf 1 false b 2 fun H=>zab R Ac [H] d fun i I=>zaa i 0 fun J=>zaa i 1 fun K=>some ((.tuple #[J,K]),I)) (zaf 1 false (zad a) 0 fun L=>pBin PP .eql Aa L (.int .i64 16) fun M=>zae M fun N=>br N (zaf 1 false b 0 fun O=>pBin PP .eql Aa O (.int .i64 21) fun P=>zae P fun Q=>br Q (zaf 1 false b 3 fun S=>zaf 1 false b 2 fun T=>zab R Ag [c,(.int .i64 21),S,T] d fun U V=>zab R Ac [U] V fun j W=>zaa j 0 fun X=>zaa j 1 fun Y=>some ((.tuple #[X,Y]),W)) (zab R Ad [] d fun k Z=>zaa k 0 fun aa=>zaa k 1 fun ab=>some ((.tuple #[aa,ab]),Z))) (zab R Ad [] d fun l ac=>zaa l 0 fun ad=>zaa l 1 fun ae=>some ((.tuple #[ad,ae]),ac))))
noncomputable def ze6(R:zai)(b a:Value)(Q:Hp):Option (Value×Hp):=zaf 1 false (zad a) 2 fun S=>zab R At [b,S] Q fun n T=>zaa n 0 fun h=>zaa n 1 fun i=>zaf 1 false (zad a) 3 fun U=>zab R At [b,U] T fun o p=>zaa o 0 fun c=>zaa o 1 fun d=>zaG (zae i fun V=>br V (some (.next,[d],p)) (some (.next,[(.bool false)],p))) fun W q g=>zaM W (zae (q.getD 0 undef) fun X=>br X (zaf 1 false (zad a) 0 fun Y=>pBin PP .eql Aa Y (.int .i64 30) fun Z=>zae Z fun aa=>br aa (zaf 1 false (zad a) 2 fun ab=>zab R Ak [b,ab] g fun ac ad=>zd9 false 1 1 ac fun ae=>zaf 1 false (zad a) 3 fun af=>zab R Ak [b,af] ad fun ag ah=>zd9 false 1 1 ag fun ai=>zab R Bm [ae,h,ai,c] ah fun r aj=>zaa r 0 fun ak=>zaa r 1 fun ec=>zaf 1 false (zad a) 1 fun al=>zab R Ai [b,al,ak] aj fun am ao=>zab R Ac [am] ao fun s ap=>zaa s 0 fun aq=>zaa s 1 fun ar=>some ((.tuple #[aq,ar]),ap)) (zaf 1 false (zad a) 0 fun au=>zaf 1 false (zad a) 1 fun av=>zab R AH [au,av,h,c] g fun t aw=>zaa t 0 fun ax=>zaa t 1 fun ed=>zaf 1 false (zad a) 1 fun ay=>zab R Ai [b,ay,ax] aw fun az ba=>zab R Ac [az] ba fun u bb=>zaa u 0 fun bc=>zaa u 1 fun bd=>some ((.tuple #[bc,bd]),bb))) (zaG (zaf 1 false (zad a) 0 fun k=>zaG (pBin PP .eql Aa k (.int .i64 17) fun v=>zae v fun be=>br be (some (.next,[v],g)) (pBin PP .eql Aa k (.int .i64 18) fun w=>zae w fun bf=>br bf (some (.next,[w],g)) (pBin PP .eql Aa k (.int .i64 19) fun x=>zae x fun bg=>br bg (some (.next,[x],g)) (pBin PP .eql Aa k (.int .i64 20) fun y=>zae y fun bh=>br bh (some (.next,[y],g)) (pBin PP .eql Aa k (.int .i64 22) fun bi=>some (.next,[bi],g)))))) fun bj z j=>zaM bj (zae (z.getD 0 undef) fun bk=>br bk (zae i fun bl=>br bl (zaf 1 false (zad a) 0 fun bm=>zaf 1 false (zad a) 3 fun bn=>zaf 1 false (zad a) 2 fun bo=>zab R Ag [b,bm,bn,bo] j fun bp bq=>zab R Ac [bp] bq fun A bs=>zaa A 0 fun bt=>zaa A 1 fun bu=>some (.ret,[(.tuple #[bt,bu])],bs)) (some (.next,[],j))) (some (.next,[],j))) (fun B=>zaI B 0 (some (.next,[],j)) (some (.exit B,[],j))) (some (.ret,[(z.headD undef)],j))) fun bv bw m=>zaM bv (zaf 1 false (zad a) 0 fun e=>zaG (pBin PP .eql Aa e (.int .i64 17) fun C=>zae C fun bx=>br bx (some (.next,[C],m)) (pBin PP .eql Aa e (.int .i64 18) fun bz=>some (.next,[bz],m))) fun ca D f=>zaM ca (zae (D.getD 0 undef) fun cb=>br cb (zaf 7 true (zad a) 0 fun cc=>zab R B8 [b,cc,c,d] f fun E cd=>zaa E 0 fun ce=>zaa E 1 fun cf=>some ((.tuple #[ce,cf]),cd)) (pBin PP .eql Aa e (.int .i64 19) fun cg=>zae cg fun ch=>br ch (zaf 7 true (zad a) 0 fun ci=>zab R B9 [b,ci,c,d] f fun F cj=>zaa F 0 fun ck=>zaa F 1 fun cl=>some ((.tuple #[ck,cl]),cj)) (pBin PP .eql Aa e (.int .i64 20) fun cm=>zae cm fun cn=>br cn (zaf 7 true (zad a) 0 fun co=>zab R B7 [b,co,c,d] f fun G cp=>zaa G 0 fun cq=>zaa G 1 fun cr=>some ((.tuple #[cq,cr]),cp)) (pBin PP .eql Aa e (.int .i64 21) fun cs=>zae cs fun ct=>br ct (zaf 7 true (zad a) 0 fun cu=>zab R Bh [b,cu,h,i,c,d] f fun H cv=>zaa H 0 fun cw=>zaa H 1 fun cx=>some ((.tuple #[cw,cx]),cv)) (zaG (pBin PP .eql Aa e (.int .i64 22) fun I=>zae I fun cy=>br cy (some (.next,[I],f)) (pBin PP .eql Aa e (.int .i64 23) fun J=>zae J fun cz=>br cz (some (.next,[J],f)) (pBin PP .eql Aa e (.int .i64 24) fun da=>some (.next,[da],f)))) fun db K l=>zaM db (zae (K.getD 0 undef) fun dc=>br dc (zaf 7 true (zad a) 0 fun dd=>zab R Bg [b,dd,c,d] l fun L de=>zaa L 0 fun df=>zaa L 1 fun dg=>some ((.tuple #[df,dg]),de)) (pBin PP .eql Aa e (.int .i64 30) fun dh=>zae dh fun di=>br di (zaf 7 true (zad a) 0 fun dj=>zab R Bf [b,dj,h,i] l fun M dk=>zaa M 0 fun dl=>zaa M 1 fun dm=>some ((.tuple #[dl,dm]),dk)) (zaf 7 true (zad a) 0 fun dn=>zab R AY [b,dn,h,i,c,d] l fun N dp=>zaa N 0 fun dq=>zaa N 1 fun dr=>some ((.tuple #[dq,dr]),dp)))) (fun ds=>zaI ds 1 (zaf 7 true (zad a) 0 fun dt=>zab R AY [b,dt,h,i,c,d] l fun O du=>zaa O 0 fun dv=>zaa O 1 fun dw=>some ((.tuple #[dv,dw]),du)) (none)) (some ((K.headD undef),l))))))) (fun dx=>zaI dx 1 (zaf 7 true (zad a) 0 fun dy=>zab R AY [b,dy,h,i,c,d] f fun P dz=>zaa P 0 fun ea=>zaa P 1 fun eb=>some ((.tuple #[ea,eb]),dz)) (none)) (some ((D.headD undef),f))) (fun ee=>none) (some ((bw.headD undef),m)))) (fun ef=>none) (some ((q.headD undef),g))
noncomputable def zev(R:zai)(c b:Value)(u:Hp):Option (Value×Hp):=zaf 1 false (zad b) 5 fun v=>zav .i64 v fun d=>zaf 1 false (zad b) 2 fun w=>zab R Ak [c,w] u fun x e=>zaE 7 [.int .i64 0,.int .i64 0,.int .i64 0,.int .i64 0,.int .i64 0,.int .u64 0,.string ⟨#[]⟩] 0 x fun a=>zaf 1 false a 0 fun y=>pBin PP .eql Aa y (.int .i64 3) fun z=>zae z fun A=>br A (zaf 1 false a 1 fun B=>zaf 1 false a 5 fun C=>zaf 1 false (zad b) 1 fun D=>zab R Bp [B,C,d,D] e fun i E=>zaa i 0 fun F=>zaa i 1 fun cu=>zaf 1 false (zad b) 1 fun G=>zab R Ai [c,G,F] E fun H I=>zab R Ac [H] I fun j J=>zaa j 0 fun K=>zaa j 1 fun L=>some ((.tuple #[K,L]),J)) (zaf 1 false (zad b) 1 fun M=>zaf 1 false a 1 fun N=>pBin PP .eql Aa M N fun O=>zae O fun P=>br P (zaf 1 false (zad b) 2 fun Q=>zab R Ac [Q] e fun k S=>zaa k 0 fun T=>zaa k 1 fun U=>some ((.tuple #[T,U]),S)) (zaf 1 false a 0 fun V=>pBin PP .eql Aa V (.int .i64 31) fun W=>zae W fun X=>br X (zaf 1 false a 2 fun Y=>zaf 1 false a 5 fun Z=>zav .i64 Z fun aa=>pBin PP .add Aa aa d fun ab=>zaf 1 false (zad b) 1 fun ac=>zab R AN [c,Y,ab,ac] e fun ad ae=>zab R Ac [ad] ae fun l af=>zaa l 0 fun ag=>zaa l 1 fun ah=>some ((.tuple #[ag,ah]),af)) (zaf 1 false a 0 fun ai=>pBin PP .eql Aa ai (.int .i64 30) fun aj=>zae aj fun ak=>br ak (zaf 1 false a 3 fun al=>zab R Ak [c,al] e fun am f=>zd9 false 1 1 am fun g=>zaf 1 false (zad b) 1 fun ao=>pBin PP .add Aa d ao fun ap=>pBin PP .leq Aa ap g fun aq=>zae aq fun ar=>br ar (zaf 1 false a 3 fun au=>zaf 1 false (zad b) 1 fun av=>zab R AN [c,au,d,av] f fun aw ax=>zab R Ac [aw] ax fun m ay=>zaa m 0 fun az=>zaa m 1 fun ba=>some ((.tuple #[az,ba]),ay)) (pBin PP .geq Aa d g fun bb=>zae bb fun bc=>br bc (zaf 1 false a 2 fun bd=>pBin PP .sub Aa d g fun be=>zaf 1 false (zad b) 1 fun bf=>zab R AN [c,bd,be,bf] f fun bg bh=>zab R Ac [bg] bh fun n bi=>zaa n 0 fun bj=>zaa n 1 fun bk=>some ((.tuple #[bj,bk]),bi)) (zab R Ad [] f fun o bl=>zaa o 0 fun bm=>zaa o 1 fun bn=>some ((.tuple #[bm,bn]),bl)))) (zaf 1 false a 0 fun bo=>pBin PP .eql Aa bo (.int .i64 32) fun bp=>zae bp fun bq=>br bq (zaf 1 false a 2 fun bs=>zab R Ak [c,bs] e fun bt h=>zd9 false 1 1 bt fun p=>zaf 1 false (zad b) 1 fun bu=>pBin PP .add Aa d bu fun bv=>pBin PP .leq Aa bv p fun bw=>zae bw fun bx=>br bx (zaf 1 false a 2 fun bz=>zaf 1 false (zad b) 1 fun ca=>zab R AN [c,bz,d,ca] h fun cb cc=>zab R Ac [cb] cc fun q cd=>zaa q 0 fun ce=>zaa q 1 fun cf=>some ((.tuple #[ce,cf]),cd)) (pBin PP .geq Aa d p fun cg=>zae cg fun ch=>br ch (zaf 1 false (zad b) 1 fun ci=>zab R Ai [c,ci,(.int .u64 0)] h fun cj ck=>zab R Ac [cj] ck fun r cl=>zaa r 0 fun cm=>zaa r 1 fun cn=>some ((.tuple #[cm,cn]),cl)) (zab R Ad [] h fun s co=>zaa s 0 fun cp=>zaa s 1 fun cq=>some ((.tuple #[cp,cq]),co)))) (zab R Ad [] e fun t cr=>zaa t 0 fun cs=>zaa t 1 fun ct=>some ((.tuple #[cs,ct]),cr))))))
noncomputable def zfG(R:zai)(d a:Value)(l:Hp):Option (Value×Hp):=zaf 1 false (zad a) 2 fun m=>zab R Ak [d,m] l fun n c=>zaE 7 [.int .i64 0,.int .i64 0,.int .i64 0,.int .i64 0,.int .i64 0,.int .u64 0,.string ⟨#[]⟩] 0 n fun b=>zaf 1 false b 0 fun o=>pBin PP .eql Aa o (.int .i64 3) fun p=>zae p fun q=>br q (zaf 1 false (zad a) 0 fun r=>zaf 1 false b 1 fun s=>zaf 1 false b 5 fun t=>zaf 1 false (zad a) 1 fun u=>zab R A3 [r,s,t,u] c fun e v=>zaa e 0 fun w=>zaa e 1 fun au=>zaf 1 false (zad a) 1 fun x=>zab R Ai [d,x,w] v fun y z=>zab R Ac [y] z fun f A=>zaa f 0 fun B=>zaa f 1 fun C=>some ((.tuple #[B,C]),A)) (zaf 1 false (zad a) 1 fun D=>zaf 1 false b 1 fun E=>pBin PP .eql Aa D E fun F=>zae F fun G=>br G (zaf 1 false (zad a) 2 fun H=>zab R Ac [H] c fun g I=>zaa g 0 fun J=>zaa g 1 fun K=>some ((.tuple #[J,K]),I)) (zaf 1 false b 0 fun L=>zaf 1 false (zad a) 0 fun M=>pBin PP .eql Aa L M fun N=>zae N fun O=>br O (zaf 1 false (zad a) 0 fun P=>zaf 1 false b 2 fun Q=>zaf 1 false (zad a) 1 fun S=>zab R AT [d,P,Q,S] c fun T U=>zab R Ac [T] U fun h V=>zaa h 0 fun W=>zaa h 1 fun X=>some ((.tuple #[W,X]),V)) (zaf 1 false (zad a) 0 fun Y=>pBin PP .eql Aa Y (.int .i64 33) fun Z=>zae Z fun aa=>br aa (zaf 1 false b 0 fun ab=>pBin PP .eql Aa ab (.int .i64 32) fun ac=>zae ac fun ad=>br ad (zaf 1 false b 2 fun ae=>zaf 1 false (zad a) 1 fun af=>zab R AT [d,(.int .i64 32),ae,af] c fun ag ah=>zab R Ac [ag] ah fun i ai=>zaa i 0 fun aj=>zaa i 1 fun ak=>some ((.tuple #[aj,ak]),ai)) (zab R Ad [] c fun j al=>zaa j 0 fun am=>zaa j 1 fun ao=>some ((.tuple #[am,ao]),al))) (zab R Ad [] c fun k ap=>zaa k 0 fun aq=>zaa k 1 fun ar=>some ((.tuple #[aq,ar]),ap)))))
noncomputable def zd1(R:zai)(a:Value)(g:Hp):Option (Value×Hp):=pBin PP .shr Ab a (.int .u64 1) fun h=>pBin PP .and Ab h (.int .u64 6148914691236517205) fun i=>pBin PP .and Ab a (.int .u64 6148914691236517205) fun j=>pBin PP .add Ab i j fun b=>pBin PP .shr Ab b (.int .u64 2) fun k=>pBin PP .and Ab k (.int .u64 3689348814741910323) fun l=>pBin PP .and Ab b (.int .u64 3689348814741910323) fun m=>pBin PP .add Ab l m fun c=>pBin PP .shr Ab c (.int .u64 4) fun n=>pBin PP .add Ab n c fun o=>pBin PP .and Ab o (.int .u64 1085102592571150095) fun d=>pBin PP .shr Ab d (.int .u64 8) fun p=>pBin PP .add Ab d p fun e=>pBin PP .shr Ab e (.int .u64 16) fun q=>pBin PP .add Ab e q fun f=>pBin PP .shr Ab f (.int .u64 32) fun r=>pBin PP .add Ab f r fun s=>zav .i64 s fun t=>pBin PP .and Aa t (.int .i64 127) fun u=>some (u,g)
noncomputable def zin(R:zai)(c:Value)(e:Hp):Option (Value×Hp):=zaG (pBin PP .geq Ab c (.int .u64 4294967296) fun g=>zae g fun h=>br h (pBin PP .shr Ab c (.int .u64 32) fun i=>some (.next,[i,(.int .i64 32)],e)) (some (.next,[c,(.int .i64 0)],e))) fun j a b=>zaM j (pBin PP .geq Ab (a.getD 0 undef) (.int .u64 65536) fun k=>zae k fun l=>br l (pBin PP .shr Ab (a.getD 0 undef) (.int .u64 16) fun d=>pBin PP .add Aa (a.getD 1 undef) (.int .i64 16) fun f=>pBin PP .geq Ab d (.int .u64 256) fun m=>zae m fun n=>br n (pBin PP .shr Ab d (.int .u64 8) fun o=>pBin PP .add Aa f (.int .i64 8) fun p=>zav .u8 o fun q=>zbg (.string ⟨#[0,1,2,2,3,3,3,3,4,4,4,4,4,4,4,4,5,5,5,5,5,5,5,5,5,5,5,5,5,5,5,5,6,6,6,6,6,6,6,6,6,6,6,6,6,6,6,6,6,6,6,6,6,6,6,6,6,6,6,6,6,6,6,6,7,7,7,7,7,7,7,7,7,7,7,7,7,7,7,7,7,7,7,7,7,7,7,7,7,7,7,7,7,7,7,7,7,7,7,7,7,7,7,7,7,7,7,7,7,7,7,7,7,7,7,7,7,7,7,7,7,7,7,7,7,7,7,7,8,8,8,8,8,8,8,8,8,8,8,8,8,8,8,8,8,8,8,8,8,8,8,8,8,8,8,8,8,8,8,8,8,8,8,8,8,8,8,8,8,8,8,8,8,8,8,8,8,8,8,8,8,8,8,8,8,8,8,8,8,8,8,8,8,8,8,8,8,8,8,8,8,8,8,8,8,8,8,8,8,8,8,8,8,8,8,8,8,8,8,8,8,8,8,8,8,8,8,8,8,8,8,8,8,8,8,8,8,8,8,8,8,8,8,8,8,8,8,8,8,8,8,8,8,8,8,8]⟩) q fun r=>zav .i64 r fun s=>pBin PP .add Aa p s fun t=>some (t,b)) (zav .u8 d fun u=>zbg (.string ⟨#[0,1,2,2,3,3,3,3,4,4,4,4,4,4,4,4,5,5,5,5,5,5,5,5,5,5,5,5,5,5,5,5,6,6,6,6,6,6,6,6,6,6,6,6,6,6,6,6,6,6,6,6,6,6,6,6,6,6,6,6,6,6,6,6,7,7,7,7,7,7,7,7,7,7,7,7,7,7,7,7,7,7,7,7,7,7,7,7,7,7,7,7,7,7,7,7,7,7,7,7,7,7,7,7,7,7,7,7,7,7,7,7,7,7,7,7,7,7,7,7,7,7,7,7,7,7,7,7,8,8,8,8,8,8,8,8,8,8,8,8,8,8,8,8,8,8,8,8,8,8,8,8,8,8,8,8,8,8,8,8,8,8,8,8,8,8,8,8,8,8,8,8,8,8,8,8,8,8,8,8,8,8,8,8,8,8,8,8,8,8,8,8,8,8,8,8,8,8,8,8,8,8,8,8,8,8,8,8,8,8,8,8,8,8,8,8,8,8,8,8,8,8,8,8,8,8,8,8,8,8,8,8,8,8,8,8,8,8,8,8,8,8,8,8,8,8,8,8,8,8,8,8,8,8,8,8]⟩) u fun v=>zav .i64 v fun w=>pBin PP .add Aa f w fun x=>some (x,b))) (pBin PP .geq Ab (a.getD 0 undef) (.int .u64 256) fun y=>zae y fun z=>br z (pBin PP .shr Ab (a.getD 0 undef) (.int .u64 8) fun A=>pBin PP .add Aa (a.getD 1 undef) (.int .i64 8) fun B=>zav .u8 A fun C=>zbg (.string ⟨#[0,1,2,2,3,3,3,3,4,4,4,4,4,4,4,4,5,5,5,5,5,5,5,5,5,5,5,5,5,5,5,5,6,6,6,6,6,6,6,6,6,6,6,6,6,6,6,6,6,6,6,6,6,6,6,6,6,6,6,6,6,6,6,6,7,7,7,7,7,7,7,7,7,7,7,7,7,7,7,7,7,7,7,7,7,7,7,7,7,7,7,7,7,7,7,7,7,7,7,7,7,7,7,7,7,7,7,7,7,7,7,7,7,7,7,7,7,7,7,7,7,7,7,7,7,7,7,7,8,8,8,8,8,8,8,8,8,8,8,8,8,8,8,8,8,8,8,8,8,8,8,8,8,8,8,8,8,8,8,8,8,8,8,8,8,8,8,8,8,8,8,8,8,8,8,8,8,8,8,8,8,8,8,8,8,8,8,8,8,8,8,8,8,8,8,8,8,8,8,8,8,8,8,8,8,8,8,8,8,8,8,8,8,8,8,8,8,8,8,8,8,8,8,8,8,8,8,8,8,8,8,8,8,8,8,8,8,8,8,8,8,8,8,8,8,8,8,8,8,8,8,8,8,8,8,8]⟩) C fun D=>zav .i64 D fun E=>pBin PP .add Aa B E fun F=>some (F,b)) (zav .u8 (a.getD 0 undef) fun G=>zbg (.string ⟨#[0,1,2,2,3,3,3,3,4,4,4,4,4,4,4,4,5,5,5,5,5,5,5,5,5,5,5,5,5,5,5,5,6,6,6,6,6,6,6,6,6,6,6,6,6,6,6,6,6,6,6,6,6,6,6,6,6,6,6,6,6,6,6,6,7,7,7,7,7,7,7,7,7,7,7,7,7,7,7,7,7,7,7,7,7,7,7,7,7,7,7,7,7,7,7,7,7,7,7,7,7,7,7,7,7,7,7,7,7,7,7,7,7,7,7,7,7,7,7,7,7,7,7,7,7,7,7,7,8,8,8,8,8,8,8,8,8,8,8,8,8,8,8,8,8,8,8,8,8,8,8,8,8,8,8,8,8,8,8,8,8,8,8,8,8,8,8,8,8,8,8,8,8,8,8,8,8,8,8,8,8,8,8,8,8,8,8,8,8,8,8,8,8,8,8,8,8,8,8,8,8,8,8,8,8,8,8,8,8,8,8,8,8,8,8,8,8,8,8,8,8,8,8,8,8,8,8,8,8,8,8,8,8,8,8,8,8,8,8,8,8,8,8,8,8,8,8,8,8,8,8,8,8,8,8,8]⟩) G fun H=>zav .i64 H fun I=>pBin PP .add Aa (a.getD 1 undef) I fun J=>some (J,b)))) (fun K=>none) (some ((a.headD undef),b))
noncomputable def zj8(R:zai)(a c:Value)(b:Hp):Option (Value×Hp):=pBin PP .lss Aa a (.int .i64 1) fun d=>zae d fun e=>br e (some ((.int .u64 0),b)) (pBin PP .geq Aa a (.int .i64 64) fun f=>zae f fun g=>br g (some (c,b)) (zav .u64 a fun h=>pBin PP .shl Ab (.int .u64 1) h fun i=>pBin PP .sub Ab i (.int .u64 1) fun j=>pBin PP .and Ab c j fun k=>some (k,b)))
noncomputable def zgm(R:zai)(b c:Value)(d:Hp):Option (Value×Hp):=zab R AD [b,c] d fun e a=>pUn .not e fun f=>zae f fun g=>br g (some ((.int .i64 (-1)),a)) (pNil b (za5 1 b fun h=>zaH 1 false a h fun i=>pBin PP .sub Aa c (.int .i64 1) fun j=>pIdx 7 i j fun k=>za5 1 k fun l=>zaH 1 false a l fun m=>some (m,a)))
noncomputable def zig(R:zai)(a:Value)(d:Hp):Option (Value×Hp):=zaf 1 false (zad a) 0 fun e=>zab R AE [e] d fun c b=>pBin PP .lss Aa c (.int .i64 1) fun f=>zae f fun g=>br g (zaf 1 false (zad a) 2 fun h=>pBin PP .neq Aa h (.int .i64 0) fun i=>zae i fun j=>br j (some ((.bool true),b)) (pBin PP .lss Aa c (.int .i64 2) fun k=>zae k fun l=>br l (zaf 1 false (zad a) 3 fun m=>pBin PP .neq Aa m (.int .i64 0) fun n=>zae n fun o=>br o (some ((.bool true),b)) (pBin PP .lss Aa c (.int .i64 3) fun p=>zae p fun q=>br q (zaf 1 false (zad a) 4 fun r=>pBin PP .neq Aa r (.int .i64 0) fun s=>zae s fun t=>br t (some ((.bool true),b)) (zaf 1 false (zad a) 5 fun u=>pBin PP .neq Ab u (.int .u64 0) fun v=>zae v fun w=>br w (zaf 1 false (zad a) 0 fun x=>pBin PP .neq Aa x (.int .i64 3) fun y=>zae y fun z=>br z (zaf 1 false (zad a) 0 fun A=>pBin PP .neq Aa A (.int .i64 31) fun B=>zae B fun C=>br C (some ((.bool true),b)) (zaf 1 false (zad a) 6 fun D=>pBin PP .neq Ae D (.string ⟨#[]⟩) fun E=>zae E fun F=>br F (zaf 1 false (zad a) 0 fun G=>pBin PP .neq Aa G (.int .i64 4) fun H=>some (H,b)) (some ((.bool false),b)))) (zaf 1 false (zad a) 6 fun I=>pBin PP .neq Ae I (.string ⟨#[]⟩) fun J=>zae J fun K=>br K (zaf 1 false (zad a) 0 fun L=>pBin PP .neq Aa L (.int .i64 4) fun M=>some (M,b)) (some ((.bool false),b)))) (zaf 1 false (zad a) 6 fun N=>pBin PP .neq Ae N (.string ⟨#[]⟩) fun O=>zae O fun P=>br P (zaf 1 false (zad a) 0 fun Q=>pBin PP .neq Aa Q (.int .i64 4) fun S=>some (S,b)) (some ((.bool false),b))))) (zaf 1 false (zad a) 5 fun T=>pBin PP .neq Ab T (.int .u64 0) fun U=>zae U fun V=>br V (zaf 1 false (zad a) 0 fun W=>pBin PP .neq Aa W (.int .i64 3) fun X=>zae X fun Y=>br Y (zaf 1 false (zad a) 0 fun Z=>pBin PP .neq Aa Z (.int .i64 31) fun aa=>zae aa fun ab=>br ab (some ((.bool true),b)) (zaf 1 false (zad a) 6 fun ac=>pBin PP .neq Ae ac (.string ⟨#[]⟩) fun ad=>zae ad fun ae=>br ae (zaf 1 false (zad a) 0 fun af=>pBin PP .neq Aa af (.int .i64 4) fun ag=>some (ag,b)) (some ((.bool false),b)))) (zaf 1 false (zad a) 6 fun ah=>pBin PP .neq Ae ah (.string ⟨#[]⟩) fun ai=>zae ai fun aj=>br aj (zaf 1 false (zad a) 0 fun ak=>pBin PP .neq Aa ak (.int .i64 4) fun al=>some (al,b)) (some ((.bool false),b)))) (zaf 1 false (zad a) 6 fun am=>pBin PP .neq Ae am (.string ⟨#[]⟩) fun ao=>zae ao fun ap=>br ap (zaf 1 false (zad a) 0 fun aq=>pBin PP .neq Aa aq (.int .i64 4) fun ar=>some (ar,b)) (some ((.bool false),b)))))) (pBin PP .lss Aa c (.int .i64 3) fun au=>zae au fun av=>br av (zaf 1 false (zad a) 4 fun aw=>pBin PP .neq Aa aw (.int .i64 0) fun ax=>zae ax fun ay=>br ay (some ((.bool true),b)) (zaf 1 false (zad a) 5 fun az=>pBin PP .neq Ab az (.int .u64 0) fun ba=>zae ba fun bb=>br bb (zaf 1 false (zad a) 0 fun bc=>pBin PP .neq Aa bc (.int .i64 3) fun bd=>zae bd fun be=>br be (zaf 1 false (zad a) 0 fun bf=>pBin PP .neq Aa bf (.int .i64 31) fun bg=>zae bg fun bh=>br bh (some ((.bool true),b)) (zaf 1 false (zad a) 6 fun bi=>pBin PP .neq Ae bi (.string ⟨#[]⟩) fun bj=>zae bj fun bk=>br bk (zaf 1 false (zad a) 0 fun bl=>pBin PP .neq Aa bl (.int .i64 4) fun bm=>some (bm,b)) (some ((.bool false),b)))) (zaf 1 false (zad a) 6 fun bn=>pBin PP .neq Ae bn (.string ⟨#[]⟩) fun bo=>zae bo fun bp=>br bp (zaf 1 false (zad a) 0 fun bq=>pBin PP .neq Aa bq (.int .i64 4) fun bs=>some (bs,b)) (some ((.bool false),b)))) (zaf 1 false (zad a) 6 fun bt=>pBin PP .neq Ae bt (.string ⟨#[]⟩) fun bu=>zae bu fun bv=>br bv (zaf 1 false (zad a) 0 fun bw=>pBin PP .neq Aa bw (.int .i64 4) fun bx=>some (bx,b)) (some ((.bool false),b))))) (zaf 1 false (zad a) 5 fun bz=>pBin PP .neq Ab bz (.int .u64 0) fun ca=>zae ca fun cb=>br cb (zaf 1 false (zad a) 0 fun cc=>pBin PP .neq Aa cc (.int .i64 3) fun cd=>zae cd fun ce=>br ce (zaf 1 false (zad a) 0 fun cf=>pBin PP .neq Aa cf (.int .i64 31) fun cg=>zae cg fun ch=>br ch (some ((.bool true),b)) (zaf 1 false (zad a) 6 fun ci=>pBin PP .neq Ae ci (.string ⟨#[]⟩) fun cj=>zae cj fun ck=>br ck (zaf 1 false (zad a) 0 fun cl=>pBin PP .neq Aa cl (.int .i64 4) fun cm=>some (cm,b)) (some ((.bool false),b)))) (zaf 1 false (zad a) 6 fun cn=>pBin PP .neq Ae cn (.string ⟨#[]⟩) fun co=>zae co fun cp=>br cp (zaf 1 false (zad a) 0 fun cq=>pBin PP .neq Aa cq (.int .i64 4) fun cr=>some (cr,b)) (some ((.bool false),b)))) (zaf 1 false (zad a) 6 fun cs=>pBin PP .neq Ae cs (.string ⟨#[]⟩) fun ct=>zae ct fun cu=>br cu (zaf 1 false (zad a) 0 fun cv=>pBin PP .neq Aa cv (.int .i64 4) fun cw=>some (cw,b)) (some ((.bool false),b))))))) (pBin PP .lss Aa c (.int .i64 2) fun cx=>zae cx fun cy=>br cy (zaf 1 false (zad a) 3 fun cz=>pBin PP .neq Aa cz (.int .i64 0) fun da=>zae da fun db=>br db (some ((.bool true),b)) (pBin PP .lss Aa c (.int .i64 3) fun dc=>zae dc fun dd=>br dd (zaf 1 false (zad a) 4 fun de=>pBin PP .neq Aa de (.int .i64 0) fun df=>zae df fun dg=>br dg (some ((.bool true),b)) (zaf 1 false (zad a) 5 fun dh=>pBin PP .neq Ab dh (.int .u64 0) fun di=>zae di fun dj=>br dj (zaf 1 false (zad a) 0 fun dk=>pBin PP .neq Aa dk (.int .i64 3) fun dl=>zae dl fun dm=>br dm (zaf 1 false (zad a) 0 fun dn=>pBin PP .neq Aa dn (.int .i64 31) fun dp=>zae dp fun dq=>br dq (some ((.bool true),b)) (zaf 1 false (zad a) 6 fun dr=>pBin PP .neq Ae dr (.string ⟨#[]⟩) fun ds=>zae ds fun dt=>br dt (zaf 1 false (zad a) 0 fun du=>pBin PP .neq Aa du (.int .i64 4) fun dv=>some (dv,b)) (some ((.bool false),b)))) (zaf 1 false (zad a) 6 fun dw=>pBin PP .neq Ae dw (.string ⟨#[]⟩) fun dx=>zae dx fun dy=>br dy (zaf 1 false (zad a) 0 fun dz=>pBin PP .neq Aa dz (.int .i64 4) fun ea=>some (ea,b)) (some ((.bool false),b)))) (zaf 1 false (zad a) 6 fun eb=>pBin PP .neq Ae eb (.string ⟨#[]⟩) fun ec=>zae ec fun ed=>br ed (zaf 1 false (zad a) 0 fun ee=>pBin PP .neq Aa ee (.int .i64 4) fun ef=>some (ef,b)) (some ((.bool false),b))))) (zaf 1 false (zad a) 5 fun eg=>pBin PP .neq Ab eg (.int .u64 0) fun eh=>zae eh fun ei=>br ei (zaf 1 false (zad a) 0 fun ej=>pBin PP .neq Aa ej (.int .i64 3) fun ek=>zae ek fun el=>br el (zaf 1 false (zad a) 0 fun em=>pBin PP .neq Aa em (.int .i64 31) fun en=>zae en fun eo=>br eo (some ((.bool true),b)) (zaf 1 false (zad a) 6 fun ep=>pBin PP .neq Ae ep (.string ⟨#[]⟩) fun eq=>zae eq fun er=>br er (zaf 1 false (zad a) 0 fun es=>pBin PP .neq Aa es (.int .i64 4) fun et=>some (et,b)) (some ((.bool false),b)))) (zaf 1 false (zad a) 6 fun eu=>pBin PP .neq Ae eu (.string ⟨#[]⟩) fun ev=>zae ev fun ew=>br ew (zaf 1 false (zad a) 0 fun ex=>pBin PP .neq Aa ex (.int .i64 4) fun ey=>some (ey,b)) (some ((.bool false),b)))) (zaf 1 false (zad a) 6 fun ez=>pBin PP .neq Ae ez (.string ⟨#[]⟩) fun fa=>zae fa fun fb=>br fb (zaf 1 false (zad a) 0 fun fc=>pBin PP .neq Aa fc (.int .i64 4) fun fd=>some (fd,b)) (some ((.bool false),b)))))) (pBin PP .lss Aa c (.int .i64 3) fun fe=>zae fe fun ff=>br ff (zaf 1 false (zad a) 4 fun fg=>pBin PP .neq Aa fg (.int .i64 0) fun fh=>zae fh fun fi=>br fi (some ((.bool true),b)) (zaf 1 false (zad a) 5 fun fj=>pBin PP .neq Ab fj (.int .u64 0) fun fk=>zae fk fun fl=>br fl (zaf 1 false (zad a) 0 fun fm=>pBin PP .neq Aa fm (.int .i64 3) fun fn=>zae fn fun fo=>br fo (zaf 1 false (zad a) 0 fun fp=>pBin PP .neq Aa fp (.int .i64 31) fun fq=>zae fq fun fr=>br fr (some ((.bool true),b)) (zaf 1 false (zad a) 6 fun fs=>pBin PP .neq Ae fs (.string ⟨#[]⟩) fun ft=>zae ft fun fu=>br fu (zaf 1 false (zad a) 0 fun fv=>pBin PP .neq Aa fv (.int .i64 4) fun fw=>some (fw,b)) (some ((.bool false),b)))) (zaf 1 false (zad a) 6 fun fx=>pBin PP .neq Ae fx (.string ⟨#[]⟩) fun fy=>zae fy fun fz=>br fz (zaf 1 false (zad a) 0 fun ga=>pBin PP .neq Aa ga (.int .i64 4) fun gb=>some (gb,b)) (some ((.bool false),b)))) (zaf 1 false (zad a) 6 fun gc=>pBin PP .neq Ae gc (.string ⟨#[]⟩) fun gd=>zae gd fun ge=>br ge (zaf 1 false (zad a) 0 fun gf=>pBin PP .neq Aa gf (.int .i64 4) fun gg=>some (gg,b)) (some ((.bool false),b))))) (zaf 1 false (zad a) 5 fun gh=>pBin PP .neq Ab gh (.int .u64 0) fun gi=>zae gi fun gj=>br gj (zaf 1 false (zad a) 0 fun gk=>pBin PP .neq Aa gk (.int .i64 3) fun gl=>zae gl fun gm=>br gm (zaf 1 false (zad a) 0 fun gn=>pBin PP .neq Aa gn (.int .i64 31) fun go=>zae go fun gp=>br gp (some ((.bool true),b)) (zaf 1 false (zad a) 6 fun gq=>pBin PP .neq Ae gq (.string ⟨#[]⟩) fun gr=>zae gr fun gs=>br gs (zaf 1 false (zad a) 0 fun gt=>pBin PP .neq Aa gt (.int .i64 4) fun gu=>some (gu,b)) (some ((.bool false),b)))) (zaf 1 false (zad a) 6 fun gv=>pBin PP .neq Ae gv (.string ⟨#[]⟩) fun gw=>zae gw fun gx=>br gx (zaf 1 false (zad a) 0 fun gy=>pBin PP .neq Aa gy (.int .i64 4) fun gz=>some (gz,b)) (some ((.bool false),b)))) (zaf 1 false (zad a) 6 fun ha=>pBin PP .neq Ae ha (.string ⟨#[]⟩) fun hb=>zae hb fun hc=>br hc (zaf 1 false (zad a) 0 fun hd=>pBin PP .neq Aa hd (.int .i64 4) fun he=>some (he,b)) (some ((.bool false),b))))))
noncomputable def zdB(R:zai)(g f:Value)(j:Hp):Option (Value×Hp):=zaf 1 false (zad f) 2 fun k=>zab R Ar [g,k] j fun b l=>zaf 1 false (zad f) 3 fun m=>zab R Ar [g,m] l fun d n=>zaf 1 false (zad f) 0 fun c=>zab R AE [c] n fun o e=>pBin PP .eql Aa o (.int .i64 0) fun p=>zae p fun q=>br q (some ((.bool true),e)) (pBin PP .eql Aa c (.int .i64 5) fun r=>zae r fun s=>br s (pBin PP .eql Aa b (.int .i64 0) fun t=>some (t,e)) (zaG (pBin PP .eql Aa c (.int .i64 6) fun u=>zae u fun v=>br v (some (.next,[(.bool true)],e)) (pBin PP .eql Aa c (.int .i64 7) fun w=>zae w fun x=>br x (some (.next,[(.bool true)],e)) (pBin PP .eql Aa c (.int .i64 8) fun y=>some (.next,[y],e)))) fun z i a=>zaM z (zae (i.getD 0 undef) fun A=>br A (pBin PP .eql Aa b (.int .i64 0) fun B=>zae B fun C=>br C (pBin PP .eql Aa d (.int .i64 0) fun D=>some (D,a)) (some ((.bool false),a))) (pBin PP .eql Aa c (.int .i64 9) fun E=>zae E fun F=>br F (pBin PP .eql Aa b d fun G=>some (G,a)) (pBin PP .eql Aa c (.int .i64 14) fun H=>zae H fun I=>br I (pBin PP .eql Aa b (.int .i64 0) fun J=>zae J fun K=>br K (zaf 1 false (zad f) 4 fun L=>zab R Ar [g,L] a fun M N=>pBin PP .eql Aa d M fun O=>some (O,N)) (some ((.bool false),a))) (pBin PP .eql Aa c (.int .i64 30) fun P=>zae P fun Q=>br Q (pBin PP .gtr Aa b (.int .i64 0) fun S=>zae S fun T=>br T (pBin PP .gtr Aa d (.int .i64 0) fun U=>some (U,a)) (some ((.bool false),a))) (zab R AE [c] a fun V h=>pBin PP .eql Aa V (.int .i64 1) fun W=>zae W fun X=>br X (pBin PP .gtr Aa b (.int .i64 0) fun Y=>some (Y,h)) (pBin PP .gtr Aa b (.int .i64 0) fun Z=>zae Z fun aa=>br aa (pBin PP .eql Aa b d fun ab=>some (ab,h)) (some ((.bool false),h)))))))) (fun ac=>zaI ac 0 (pBin PP .gtr Aa b (.int .i64 0) fun ad=>zae ad fun ae=>br ae (pBin PP .eql Aa b d fun af=>some (af,a)) (some ((.bool false),a))) (none)) (some ((i.headD undef),a))))
noncomputable def zer(R:zai)(g a:Value)(j:Hp):Option (Value×Hp):=zaf 1 false (zad a) 2 fun k=>zab R Ar [g,k] j fun d f=>zaf 1 false (zad a) 0 fun b=>zaG (pBin PP .eql Aa b (.int .i64 1) fun l=>zae l fun m=>br m (some (.next,[(.bool true)],f)) (pBin PP .eql Aa b (.int .i64 2) fun n=>zae n fun o=>br o (some (.next,[(.bool true)],f)) (pBin PP .geq Aa b (.int .i64 5) fun p=>zae p fun q=>br q (pBin PP .leq Aa b (.int .i64 13) fun r=>some (.next,[r],f)) (some (.next,[(.bool false)],f))))) fun s h e=>zaM s (zae (h.getD 0 undef) fun t=>br t (zaf 1 false (zad a) 1 fun u=>pBin PP .eql Aa u (.int .i64 0) fun v=>some (v,e)) (pBin PP .eql Aa b (.int .i64 3) fun w=>zae w fun x=>br x (zaf 1 false (zad a) 1 fun y=>pBin PP .gtr Aa y (.int .i64 0) fun z=>zae z fun A=>br A (zaf 1 false (zad a) 1 fun B=>zaf 1 false (zad a) 5 fun C=>zab R Ah [B,C] e fun D E=>zaf 1 false (zad a) 5 fun F=>pBin PP .eql Ab D F fun G=>some (G,E)) (some ((.bool false),e))) (pBin PP .eql Aa b (.int .i64 4) fun H=>zae H fun I=>br I (some ((.bool true),e)) (pBin PP .eql Aa b (.int .i64 14) fun J=>zae J fun K=>br K (zaf 1 false (zad a) 1 fun L=>zaf 1 false (zad a) 3 fun M=>zab R Ar [g,M] e fun N O=>pBin PP .eql Aa L N fun P=>some (P,O)) (zaG (pBin PP .geq Aa b (.int .i64 25) fun Q=>zae Q fun S=>br S (pBin PP .leq Aa b (.int .i64 29) fun T=>some (.next,[T],e)) (some (.next,[(.bool false)],e))) fun U i c=>zaM U (zae (i.getD 0 undef) fun V=>br V (zaf 1 false (zad a) 1 fun W=>pBin PP .eql Aa W d fun X=>zae X fun Y=>br Y (zav .u64 d fun Z=>zab R A9 [Z] c fun aa ab=>pBin PP .eql Aa aa (.int .i64 1) fun ac=>some (ac,ab)) (some ((.bool false),c))) (pBin PP .eql Aa b (.int .i64 30) fun ad=>zae ad fun ae=>br ae (zaf 1 false (zad a) 1 fun af=>zaf 1 false (zad a) 3 fun ag=>zab R Ar [g,ag] c fun ah ai=>pBin PP .add Aa d ah fun aj=>pBin PP .eql Aa af aj fun ak=>some (ak,ai)) (pBin PP .eql Aa b (.int .i64 31) fun al=>zae al fun am=>br am (zaf 1 false (zad a) 1 fun ao=>pBin PP .geq Aa ao (.int .i64 1) fun ap=>zae ap fun aq=>br aq (zaf 1 false (zad a) 1 fun ar=>pBin PP .leq Aa ar d fun au=>zae au fun av=>br av (zaf 1 false (zad a) 5 fun aw=>zaf 1 false (zad a) 1 fun ax=>pBin PP .sub Aa d ax fun ay=>zav .u64 ay fun az=>pBin PP .leq Ab aw az fun ba=>some (ba,c)) (some ((.bool false),c))) (some ((.bool false),c))) (pBin PP .eql Aa b (.int .i64 32) fun bb=>zae bb fun bc=>br bc (zaf 1 false (zad a) 1 fun bd=>pBin PP .geq Aa bd d fun be=>some (be,c)) (pBin PP .eql Aa b (.int .i64 33) fun bf=>zae bf fun bg=>br bg (zaf 1 false (zad a) 1 fun bh=>pBin PP .geq Aa bh d fun bi=>some (bi,c)) (zaf 1 false (zad a) 1 fun bj=>pBin PP .eql Aa bj d fun bk=>some (bk,c))))))) (fun bl=>zaI bl 0 (zaf 1 false (zad a) 1 fun bm=>pBin PP .eql Aa bm d fun bn=>some (bn,c)) (none)) (some ((i.headD undef),c))))))) (fun bo=>zaI bo 0 (zaf 1 false (zad a) 1 fun bp=>pBin PP .eql Aa bp d fun bq=>some (bq,e)) (none)) (some ((h.headD undef),e))
noncomputable def zka(R:zai)(e:Value)(d:Hp):Option (Value×Hp):=zaG (pLen .str e d fun j=>pBin PP .lss Aa j (.int .i64 1) fun k=>zae k fun l=>br l (some (.ret,[(.bool false)],d)) (pLen .str e d fun m=>pBin PP .gtr Aa m (.int .i64 24) fun n=>zae n fun o=>br o (some (.ret,[(.bool false)],d)) (some (.next,[],d)))) fun p q f=>zaM p (zqG e fun s11=>zaG (zbi (fun a b=>br (Nat.blt (zbt ((a.drop 0).getD 0 undef)) (zbz ((a.drop 0).getD 0 undef)).size) (zaG (pBin PP .geq Am (.int .i32 (Utf8.decode (zbz ((a.drop 0).getD 0 undef)) (zbt ((a.drop 0).getD 0 undef))).1) (.int .i32 97) fun r=>zae r fun s=>br s (pBin PP .leq Am (.int .i32 (Utf8.decode (zbz ((a.drop 0).getD 0 undef)) (zbt ((a.drop 0).getD 0 undef))).1) (.int .i32 122) fun t=>zae t fun u=>br u (some (.next,[(.bool true)],b)) (pBin PP .geq Am (.int .i32 (Utf8.decode (zbz ((a.drop 0).getD 0 undef)) (zbt ((a.drop 0).getD 0 undef))).1) (.int .i32 65) fun v=>zae v fun w=>br w (pBin PP .leq Am (.int .i32 (Utf8.decode (zbz ((a.drop 0).getD 0 undef)) (zbt ((a.drop 0).getD 0 undef))).1) (.int .i32 90) fun x=>zae x fun y=>br y (some (.next,[(.bool true)],b)) (pBin PP .eql Am (.int .i32 (Utf8.decode (zbz ((a.drop 0).getD 0 undef)) (zbt ((a.drop 0).getD 0 undef))).1) (.int .i32 95) fun z=>some (.next,[z],b))) (pBin PP .eql Am (.int .i32 (Utf8.decode (zbz ((a.drop 0).getD 0 undef)) (zbt ((a.drop 0).getD 0 undef))).1) (.int .i32 95) fun A=>some (.next,[A],b)))) (pBin PP .geq Am (.int .i32 (Utf8.decode (zbz ((a.drop 0).getD 0 undef)) (zbt ((a.drop 0).getD 0 undef))).1) (.int .i32 65) fun B=>zae B fun C=>br C (pBin PP .leq Am (.int .i32 (Utf8.decode (zbz ((a.drop 0).getD 0 undef)) (zbt ((a.drop 0).getD 0 undef))).1) (.int .i32 90) fun D=>zae D fun E=>br E (some (.next,[(.bool true)],b)) (pBin PP .eql Am (.int .i32 (Utf8.decode (zbz ((a.drop 0).getD 0 undef)) (zbt ((a.drop 0).getD 0 undef))).1) (.int .i32 95) fun F=>some (.next,[F],b))) (pBin PP .eql Am (.int .i32 (Utf8.decode (zbz ((a.drop 0).getD 0 undef)) (zbt ((a.drop 0).getD 0 undef))).1) (.int .i32 95) fun G=>some (.next,[G],b)))) fun H g c=>zaM H (pUn .not (g.getD 0 undef) fun I=>zae I fun J=>br J (pBin PP .eql Aa (.int .i64 ((zbt ((a.drop 0).getD 0 undef)):Nat)) (.int .i64 0) fun K=>zae K fun L=>br L (some (.ret,[(.bool false)],c)) (pBin PP .lss Am (.int .i32 (Utf8.decode (zbz ((a.drop 0).getD 0 undef)) (zbt ((a.drop 0).getD 0 undef))).1) (.int .i32 48) fun M=>zae M fun N=>br N (some (.ret,[(.bool false)],c)) (pBin PP .gtr Am (.int .i32 (Utf8.decode (zbz ((a.drop 0).getD 0 undef)) (zbt ((a.drop 0).getD 0 undef))).1) (.int .i32 57) fun O=>zae O fun P=>br P (some (.ret,[(.bool false)],c)) (some (.next,[(.tuple #[.string (zbz ((a.drop 0).getD 0 undef)),.int .i64 (((zbt ((a.drop 0).getD 0 undef))+(Utf8.decode (zbz ((a.drop 0).getD 0 undef)) (zbt ((a.drop 0).getD 0 undef))).2):Nat)])],c))))) (some (.next,[(.tuple #[.string (zbz ((a.drop 0).getD 0 undef)),.int .i64 (((zbt ((a.drop 0).getD 0 undef))+(Utf8.decode (zbz ((a.drop 0).getD 0 undef)) (zbt ((a.drop 0).getD 0 undef))).2):Nat)])],c))) (fun h=>zaI h 1 (some (.next,[(.tuple #[.string (zbz ((a.drop 0).getD 0 undef)),.int .i64 (((zbt ((a.drop 0).getD 0 undef))+(Utf8.decode (zbz ((a.drop 0).getD 0 undef)) (zbt ((a.drop 0).getD 0 undef))).2):Nat)])],c)) (some (.exit h,[(.tuple #[.string (zbz ((a.drop 0).getD 0 undef)),.int .i64 (((zbt ((a.drop 0).getD 0 undef))+(Utf8.decode (zbz ((a.drop 0).getD 0 undef)) (zbt ((a.drop 0).getD 0 undef))).2):Nat)])],c))) (some (.ret,[(g.headD undef)],c))) (some (.exit 0,[(.tuple #[.string (zbz ((a.drop 0).getD 0 undef)),.int .i64 ((zbt ((a.drop 0).getD 0 undef)):Nat)])],b))) [(.tuple #[.string s11,.int .i64 (0:Nat)])] f) fun Q S i=>zaM Q none (fun T=>zaI T 0 (some ((.bool true),i)) (none)) (some ((S.headD undef),i))) (fun U=>none) (some ((q.headD undef),f))
noncomputable def zlv(R:zai)(a b k l:Value)(f:Hp):Option (Value×Hp):=zaG (pBin PP .lss Aa a (.int .i64 9) fun m=>zae m fun n=>br n (some (.ret,[(.tuple #[(.bool false),(.int .i64 73)])],f)) (pBin PP .gtr Aa a (.int .i64 13) fun o=>zae o fun p=>br p (some (.ret,[(.tuple #[(.bool false),(.int .i64 73)])],f)) (some (.next,[],f)))) fun q r g=>zaM q (zab R Av [b] g fun s h=>pUn .not s fun t=>zae t fun u=>br u (some ((.tuple #[(.bool false),(.int .i64 5)]),h)) (zab R Ah [b,k] h fun d v=>zab R Ah [b,l] v fun e w=>zab R A4 [b,d] w fun i x=>zab R A4 [b,e] x fun j c=>pBin PP .eql Aa a (.int .i64 9) fun y=>zae y fun z=>br z (pBin PP .eql Ab d e fun A=>some ((.tuple #[A,(.int .i64 0)]),c)) (pBin PP .eql Aa a (.int .i64 10) fun B=>zae B fun C=>br C (pBin PP .lss Ab d e fun D=>some ((.tuple #[D,(.int .i64 0)]),c)) (pBin PP .eql Aa a (.int .i64 11) fun E=>zae E fun F=>br F (pBin PP .leq Ab d e fun G=>some ((.tuple #[G,(.int .i64 0)]),c)) (pBin PP .eql Aa a (.int .i64 12) fun H=>zae H fun I=>br I (pBin PP .lss Ch i j fun J=>some ((.tuple #[J,(.int .i64 0)]),c)) (pBin PP .leq Ch i j fun K=>some ((.tuple #[K,(.int .i64 0)]),c))))))) (fun L=>none) (some ((r.headD undef),g))
noncomputable def znD(R:zai)(b a c:Value)(d:Hp):Option (Value×Hp):=pBin PP .neq Aa b (.int .i64 15) fun g=>zae g fun h=>br h (pBin PP .neq Aa b (.int .i64 16) fun i=>zae i fun j=>br j (some ((.tuple #[(.int .u64 0),(.int .i64 73)]),d)) (zab R Av [a] d fun k e=>pUn .not k fun l=>zae l fun m=>br m (some ((.tuple #[(.int .u64 0),(.int .i64 5)]),e)) (pBin PP .eql Aa b (.int .i64 15) fun n=>zae n fun o=>br o (pUn .xor c fun p=>zab R Ah [a,p] e fun q r=>some ((.tuple #[q,(.int .i64 0)]),r)) (pUn .neg c fun s=>zab R Ah [a,s] e fun t u=>some ((.tuple #[t,(.int .i64 0)]),u))))) (zab R Av [a] d fun v f=>pUn .not v fun w=>zae w fun x=>br x (some ((.tuple #[(.int .u64 0),(.int .i64 5)]),f)) (pBin PP .eql Aa b (.int .i64 15) fun y=>zae y fun z=>br z (pUn .xor c fun A=>zab R Ah [a,A] f fun B C=>some ((.tuple #[B,(.int .i64 0)]),C)) (pUn .neg c fun D=>zab R Ah [a,D] f fun E F=>some ((.tuple #[E,(.int .i64 0)]),F))))
noncomputable def zlx(R:zai)(b a l m:Value)(f:Hp):Option (Value×Hp):=zaG (pBin PP .lss Aa b (.int .i64 17) fun n=>zae n fun o=>br o (some (.ret,[(.tuple #[(.int .u64 0),(.int .i64 73)])],f)) (pBin PP .gtr Aa b (.int .i64 29) fun p=>zae p fun q=>br q (some (.ret,[(.tuple #[(.int .u64 0),(.int .i64 73)])],f)) (some (.next,[],f)))) fun r s g=>zaM r (zaG (zab R Av [a] g fun t h=>pUn .not t fun u=>zae u fun v=>br v (some (.ret,[(.tuple #[(.int .u64 0),(.int .i64 5)])],h)) (zab R Bu [b] h fun w i=>zae w fun x=>br x (zav .u64 a fun y=>zab R A9 [y] i fun z j=>pBin PP .neq Aa z (.int .i64 1) fun A=>zae A fun B=>br B (some (.ret,[(.tuple #[(.int .u64 0),(.int .i64 5)])],j)) (some (.next,[],j))) (some (.next,[],i)))) fun C D k=>zaM C (zab R Ah [a,l] k fun e E=>zab R Ah [a,m] E fun d F=>zab R Bu [b] F fun G c=>zae G fun H=>br H (zav .u64 a fun I=>pBin PP .rem Ab d I fun J=>zav .i64 J fun K=>zab R Bs [b,a,e,K] c fun L M=>some ((.tuple #[L,(.int .i64 0)]),M)) (pBin PP .eql Aa b (.int .i64 17) fun N=>zae N fun O=>br O (pBin PP .and Ab e d fun P=>zab R Ah [a,P] c fun Q S=>some ((.tuple #[Q,(.int .i64 0)]),S)) (pBin PP .eql Aa b (.int .i64 18) fun T=>zae T fun U=>br U (pBin PP .or Ab e d fun V=>zab R Ah [a,V] c fun W X=>some ((.tuple #[W,(.int .i64 0)]),X)) (pBin PP .eql Aa b (.int .i64 19) fun Y=>zae Y fun Z=>br Z (pBin PP .xor Ab e d fun aa=>zab R Ah [a,aa] c fun ab ac=>some ((.tuple #[ab,(.int .i64 0)]),ac)) (pBin PP .eql Aa b (.int .i64 20) fun ad=>zae ad fun ae=>br ae (pBin PP .add Ab e d fun af=>zab R Ah [a,af] c fun ag ah=>some ((.tuple #[ag,(.int .i64 0)]),ah)) (pBin PP .eql Aa b (.int .i64 21) fun ai=>zae ai fun aj=>br aj (pBin PP .sub Ab e d fun ak=>zab R Ah [a,ak] c fun al am=>some ((.tuple #[al,(.int .i64 0)]),am)) (pBin PP .eql Aa b (.int .i64 22) fun ao=>zae ao fun ap=>br ap (pBin PP .mul Ab e d fun aq=>zab R Ah [a,aq] c fun ar au=>some ((.tuple #[ar,(.int .i64 0)]),au)) (pBin PP .eql Aa b (.int .i64 23) fun av=>zae av fun aw=>br aw (pBin PP .neq Ab d (.int .u64 0) fun ax=>zae ax fun ay=>br ay (pBin PP .quo Ab e d fun az=>zab R Ah [a,az] c fun ba bb=>some ((.tuple #[ba,(.int .i64 0)]),bb)) (zab R Ah [a,(.int .u64 18446744073709551615)] c fun bc bd=>some ((.tuple #[bc,(.int .i64 0)]),bd))) (pBin PP .eql Aa b (.int .i64 24) fun be=>zae be fun bf=>br bf (pBin PP .neq Ab d (.int .u64 0) fun bg=>zae bg fun bh=>br bh (pBin PP .rem Ab e d fun bi=>zab R Ah [a,bi] c fun bj bk=>some ((.tuple #[bj,(.int .i64 0)]),bk)) (zab R Ah [a,e] c fun bl bm=>some ((.tuple #[bl,(.int .i64 0)]),bm))) (zab R Ah [a,(.int .u64 0)] c fun bn bo=>some ((.tuple #[bn,(.int .i64 0)]),bo))))))))))) (fun bp=>none) (some ((D.headD undef),k))) (fun bq=>none) (some ((s.headD undef),g))
noncomputable def zlw(R:zai)(b e a f:Value)(g:Hp):Option (Value×Hp):=zab R Av [b] g fun h d=>pUn .not h fun i=>zae i fun j=>br j (some ((.tuple #[(.int .u64 0),(.int .i64 5)]),d)) (zab R Av [a] d fun k c=>pUn .not k fun l=>zae l fun m=>br m (some ((.tuple #[(.int .u64 0),(.int .i64 5)]),c)) (pBin PP .add Aa b a fun n=>pBin PP .gtr Aa n (.int .i64 64) fun o=>zae o fun p=>br p (some ((.tuple #[(.int .u64 0),(.int .i64 5)]),c)) (zab R Ah [b,e] c fun q r=>zav .u64 a fun s=>pBin PP .shl Ab q s fun t=>zab R Ah [a,f] r fun u v=>pBin PP .or Ab t u fun w=>some ((.tuple #[w,(.int .i64 0)]),v))))
noncomputable def zil(R:zai)(b f c d:Value)(g:Hp):Option (Value×Hp):=zaG (zab R Av [b] g fun h a=>pUn .not h fun i=>zae i fun j=>br j (some (.ret,[(.tuple #[(.int .u64 0),(.int .i64 5)])],a)) (pBin PP .lss Aa d (.int .i64 1) fun k=>zae k fun l=>br l (some (.ret,[(.tuple #[(.int .u64 0),(.int .i64 5)])],a)) (pBin PP .lss Aa c (.int .i64 0) fun m=>zae m fun n=>br n (some (.ret,[(.tuple #[(.int .u64 0),(.int .i64 5)])],a)) (pBin PP .gtr Aa c b fun o=>zae o fun p=>br p (some (.ret,[(.tuple #[(.int .u64 0),(.int .i64 5)])],a)) (pBin PP .sub Aa b c fun q=>pBin PP .gtr Aa d q fun r=>zae r fun s=>br s (some (.ret,[(.tuple #[(.int .u64 0),(.int .i64 5)])],a)) (some (.next,[],a))))))) fun t u e=>zaM t (zab R Ah [b,f] e fun v w=>zav .u64 c fun x=>pBin PP .shr Ab v x fun y=>zab R Ah [d,y] w fun z A=>some ((.tuple #[z,(.int .i64 0)]),A)) (fun B=>none) (some ((u.headD undef),e))
noncomputable def zlu(R:zai)(b a g c:Value)(d:Hp):Option (Value×Hp):=zaG (pBin PP .neq Aa b (.int .i64 32) fun j=>zae j fun k=>br k (pBin PP .neq Aa b (.int .i64 33) fun l=>zae l fun m=>br m (some (.ret,[(.tuple #[(.int .u64 0),(.int .i64 73)])],d)) (some (.next,[],d))) (some (.next,[],d))) fun n o h=>zaM n (zaG (zab R Av [a] h fun p i=>pUn .not p fun q=>zae q fun r=>br r (some (.ret,[(.tuple #[(.int .u64 0),(.int .i64 5)])],i)) (zab R Av [c] i fun s e=>pUn .not s fun t=>zae t fun u=>br u (some (.ret,[(.tuple #[(.int .u64 0),(.int .i64 5)])],e)) (pBin PP .lss Aa c a fun v=>zae v fun w=>br w (some (.ret,[(.tuple #[(.int .u64 0),(.int .i64 5)])],e)) (some (.next,[],e))))) fun x y f=>zaM x (pBin PP .eql Aa b (.int .i64 32) fun z=>zae z fun A=>br A (zab R Ah [a,g] f fun B C=>some ((.tuple #[B,(.int .i64 0)]),C)) (zab R A4 [a,g] f fun D E=>zav .u64 D fun F=>zab R Ah [c,F] E fun G H=>some ((.tuple #[G,(.int .i64 0)]),H))) (fun I=>none) (some ((y.headD undef),f))) (fun J=>none) (some ((o.headD undef),h))
noncomputable def zcp(R:zai)(a:Value)(b:Hp):Option (Value×Hp):=zab R B0 [a,(.int .i64 10)] b fun c d=>some (c,d)
noncomputable def zca(R:zai)(a b:Value)(c:Hp):Option (Value×Hp):=zab R Bv [a,b] c fun d e=>some (d,e)
noncomputable def zgp(R:zai)(a d:Value)(b:Hp):Option (Value×Hp):=pNil a (za5 0 a fun e=>zaH 1 false b e fun f=>zab R AC [f,d] b fun c g=>zaa c 0 fun h=>zaa c 1 fun m=>zaE 7 [.int .i64 0,.int .i64 0,.int .i64 0,.int .i64 0,.int .i64 0,.int .u64 0,.string ⟨#[]⟩] 0 h fun i=>zaf 7 true i 0 fun j=>zaE 7 [.int .i64 0,.int .i64 0,.int .i64 0,.int .i64 0,.int .i64 0,.int .u64 0,.string ⟨#[]⟩] 0 j fun k=>zaf 7 true k 0 fun l=>some (l,g))
noncomputable def zqP(R:zai)(a:Value)(b:Hp):Option (Value×Hp):=some ((.tuple #[a,(.bool true)]),b)
noncomputable def zoU(R:zai)(a:Hp):Option (Value×Hp):=some ((.tuple #[(.int .i64 0),(.bool false)]),a)
noncomputable def zda(R:zai)(e c d f:Value)(h:Hp):Option (Value×Hp):=zab R Ak [e,d] h fun i j=>zab R Ak [e,f] j fun k a=>zaE 7 [.int .i64 0,.int .i64 0,.int .i64 0,.int .i64 0,.int .i64 0,.int .u64 0,.string ⟨#[]⟩] 0 i fun g=>zaE 7 [.int .i64 0,.int .i64 0,.int .i64 0,.int .i64 0,.int .i64 0,.int .u64 0,.string ⟨#[]⟩] 0 k fun b=>zaf 1 false g 0 fun l=>pBin PP .eql Aa l c fun m=>zae m fun n=>br n (zaf 1 false g 2 fun o=>pBin PP .eql Aa o f fun p=>zae p fun q=>br q (some ((.bool true),a)) (zaf 1 false b 0 fun r=>pBin PP .eql Aa r c fun s=>zae s fun t=>br t (zaf 1 false b 2 fun u=>pBin PP .eql Aa u d fun v=>some (v,a)) (some ((.bool false),a)))) (zaf 1 false b 0 fun w=>pBin PP .eql Aa w c fun x=>zae x fun y=>br y (zaf 1 false b 2 fun z=>pBin PP .eql Aa z d fun A=>some (A,a)) (some ((.bool false),a)))
noncomputable def zfP(R:zai)(b c d:Value)(e:Hp):Option (Value×Hp):=zab R Ak [b,c] e fun f g=>zaE 7 [.int .i64 0,.int .i64 0,.int .i64 0,.int .i64 0,.int .i64 0,.int .u64 0,.string ⟨#[]⟩] 0 f fun a=>zaf 7 true a 0 fun h=>zaf 1 false a 0 fun i=>pBin PP .eql Aa i d fun j=>zaE 7 [.int .i64 0,.int .i64 0,.int .i64 0,.int .i64 0,.int .i64 0,.int .u64 0,.string ⟨#[]⟩] 0 h fun k=>zaf 7 true k 0 fun l=>some ((.tuple #[l,j]),g)
noncomputable def zc9(R:zai)(a b:Value)(c:Hp):Option (Value×Hp):=zab R Ak [a,b] c fun d e=>zd9 false 1 0 d fun f=>pBin PP .eql Aa f (.int .i64 2) fun g=>some (g,e)
noncomputable def zdD(R:zai)(a b:Value)(c:Hp):Option (Value×Hp):=zab R Ak [a,b] c fun d e=>zd9 false 1 0 d fun f=>pBin PP .eql Aa f (.int .i64 1) fun g=>some (g,e)
noncomputable def zfa(R:zai)(a b:Value)(c:Hp):Option (Value×Hp):=zab R AW [a,(.int .i64 5),b] c fun d e=>some (d,e)
noncomputable def zfd(R:zai)(b c d e:Value)(f:Hp):Option (Value×Hp):=zab R Bc [b,c,d,e] f fun a g=>zaa a 0 fun h=>zaa a 1 fun i=>some (h,g)
noncomputable def zdV(R:zai)(c d:Value)(e:Hp):Option (Value×Hp):=zab R Ak [c,d] e fun f a=>zd9 false 1 0 f fun b=>pBin PP .eql Aa b (.int .i64 1) fun g=>zae g fun h=>br h (some ((.bool true),a)) (pBin PP .eql Aa b (.int .i64 2) fun i=>zae i fun j=>br j (some ((.bool true),a)) (pBin PP .eql Aa b (.int .i64 3) fun k=>some (k,a)))
noncomputable def zgq(R:zai)(b c:Value)(d:Hp):Option (Value×Hp):=zab R Ap [b,c,(.int .i64 3)] d fun a e=>zaa a 0 fun f=>zaa a 1 fun g=>zaE 7 [.int .i64 0,.int .i64 0,.int .i64 0,.int .i64 0,.int .i64 0,.int .u64 0,.string ⟨#[]⟩] 0 f fun h=>zaf 1 false h 5 fun i=>some ((.tuple #[i,g]),e)
noncomputable def zfH(R:zai)(U o c:Value)(V:Hp):Option (Value×Hp):=zeY (zad U) V fun b p=>zaH 1 false p b fun W=>zab R Ak [W,o] p fun X q=>zaE 7 [.int .i64 0,.int .i64 0,.int .i64 0,.int .i64 0,.int .i64 0,.int .u64 0,.string ⟨#[]⟩] 0 X fun a=>zaf 1 false a 1 fun r=>zaH 1 false q b fun Y=>zaf 1 false a 0 fun Z=>zab R Ay [Y,o,Z] q fun j i=>zaa j 0 fun fu=>zaa j 1 fun k=>zaa j 2 fun l=>zaf 1 false a 0 fun aa=>pBin PP .eql Aa aa (.int .i64 15) fun ab=>zae ab fun ac=>br ac (zaf 1 false a 2 fun ad=>pUn .xor c fun ae=>zab R Aw [ad,ae,b] i fun s af=>zaa s 0 fun ag=>zaa s 1 fun ah=>some ((.tuple #[ag,ah]),af)) (zaf 1 false a 0 fun ai=>pBin PP .eql Aa ai (.int .i64 16) fun aj=>zae aj fun ak=>br ak (zaf 1 false a 2 fun al=>pUn .neg c fun am=>zab R Aw [al,am,b] i fun t ao=>zaa t 0 fun ap=>zaa t 1 fun aq=>some ((.tuple #[ap,aq]),ao)) (zaG (zaf 1 false a 0 fun ar=>pBin PP .eql Aa ar (.int .i64 20) fun au=>zae au fun av=>br av (some (.next,[l],i)) (some (.next,[(.bool false)],i))) fun aw u g=>zaM aw (zae (u.getD 0 undef) fun ax=>br ax (zaf 1 false a 2 fun ay=>pBin PP .sub Ab c k fun az=>zab R Aw [ay,az,b] g fun v ba=>zaa v 0 fun bb=>zaa v 1 fun bc=>some ((.tuple #[bb,bc]),ba)) (zaG (zaf 1 false a 0 fun bd=>pBin PP .eql Aa bd (.int .i64 19) fun be=>zae be fun bf=>br bf (some (.next,[l],g)) (some (.next,[(.bool false)],g))) fun bg w h=>zaM bg (zae (w.getD 0 undef) fun bh=>br bh (zaf 1 false a 2 fun bi=>pBin PP .xor Ab c k fun bj=>zab R Aw [bi,bj,b] h fun x bk=>zaa x 0 fun bl=>zaa x 1 fun bm=>some ((.tuple #[bl,bm]),bk)) (zaG (zaf 1 false a 0 fun bn=>pBin PP .eql Aa bn (.int .i64 28) fun bo=>zae bo fun bp=>br bp (some (.next,[l],h)) (some (.next,[(.bool false)],h))) fun bq y e=>zaM bq (zae (y.getD 0 undef) fun bs=>br bs (zab R AH [(.int .i64 29),r,c,k] e fun z bt=>zaa z 0 fun bu=>zaa z 1 fun fv=>zaf 1 false a 2 fun bv=>zab R Aw [bv,bu,b] bt fun A bw=>zaa A 0 fun bx=>zaa A 1 fun bz=>some ((.tuple #[bx,bz]),bw)) (zaG (pBin PP .eql Ab c (.int .u64 0) fun ca=>zae ca fun cb=>br cb (zaf 1 false a 0 fun cc=>pBin PP .eql Aa cc (.int .i64 21) fun cd=>zae cd fun ce=>br ce (some (.next,[(.bool true)],e)) (zaf 1 false a 0 fun cf=>pBin PP .eql Aa cf (.int .i64 19) fun cg=>some (.next,[cg],e))) (some (.next,[(.bool false)],e))) fun ch B f=>zaM ch (zae (B.getD 0 undef) fun ci=>br ci (zaH 1 false f b fun cj=>zaf 1 false a 2 fun ck=>zaf 1 false a 3 fun cl=>zab R Ag [cj,(.int .i64 9),ck,cl] f fun cm cn=>zab R Ac [cm] cn fun C co=>zaa C 0 fun cp=>zaa C 1 fun cq=>some ((.tuple #[cp,cq]),co)) (zaG (zaf 1 false a 0 fun cr=>pBin PP .eql Aa cr (.int .i64 32) fun D=>zae D fun cs=>br cs (some (.next,[D],f)) (zaf 1 false a 0 fun ct=>pBin PP .eql Aa ct (.int .i64 33) fun cu=>some (.next,[cu],f))) fun cv E d=>zaM cv (zae (E.getD 0 undef) fun cw=>br cw (zaH 1 false d b fun cx=>zaf 1 false a 2 fun cy=>zab R Ak [cx,cy] d fun cz da=>zd9 false 1 1 cz fun m=>zaf 1 false a 0 fun db=>zab R Ah [m,c] da fun dc dd=>zab R A3 [db,m,dc,r] dd fun F n=>zaa F 0 fun de=>zaa F 1 fun fw=>pBin PP .neq Ab de c fun df=>zae df fun dg=>br dg (zaH 1 false n b fun dh=>zab R An [dh,(.bool false)] n fun di dj=>zab R Ac [di] dj fun G dk=>zaa G 0 fun dl=>zaa G 1 fun dm=>some ((.tuple #[dl,dm]),dk)) (zaf 1 false a 2 fun dn=>zab R Ah [m,c] n fun dp dq=>zab R Aw [dn,dp,b] dq fun H dr=>zaa H 0 fun ds=>zaa H 1 fun dt=>some ((.tuple #[ds,dt]),dr))) (zaf 1 false a 0 fun du=>pBin PP .eql Aa du (.int .i64 14) fun dv=>zae dv fun dw=>br dw (zaH 1 false d b fun dx=>zaf 7 true a 0 fun dy=>zab R Ca [dx,dy,c] d fun I dz=>zaa I 0 fun ea=>zaa I 1 fun eb=>some ((.tuple #[ea,eb]),dz)) (zaf 1 false a 0 fun ec=>pBin PP .eql Aa ec (.int .i64 30) fun ed=>zae ed fun ee=>br ee (zaH 1 false d b fun ef=>zaf 1 false a 3 fun eg=>zab R Ak [ef,eg] d fun eh ei=>zd9 false 1 1 eh fun ej=>zaf 1 false a 2 fun ek=>zav .u64 ej fun el=>pBin PP .shr Ab c el fun em=>zab R Aw [ek,em,b] ei fun J en=>zaa J 0 fun eo=>zaa J 1 fun fx=>zaf 1 false a 3 fun ep=>zab R Aw [ep,c,b] en fun K L=>zaa K 0 fun eq=>zaa K 1 fun fy=>zaH 1 false L b fun er=>zab R Ag [er,(.int .i64 6),eo,eq] L fun es et=>zab R Ac [es] et fun M eu=>zaa M 0 fun ev=>zaa M 1 fun ew=>some ((.tuple #[ev,ew]),eu)) (zab R Ad [] d fun N ex=>zaa N 0 fun ey=>zaa N 1 fun ez=>some ((.tuple #[ey,ez]),ex))))) (fun fa=>zaI fa 0 (zab R Ad [] d fun O fb=>zaa O 0 fun fc=>zaa O 1 fun fd=>some ((.tuple #[fc,fd]),fb)) (none)) (some ((E.headD undef),d)))) (fun fe=>zaI fe 0 (zab R Ad [] f fun P ff=>zaa P 0 fun fg=>zaa P 1 fun fh=>some ((.tuple #[fg,fh]),ff)) (none)) (some ((B.headD undef),f)))) (fun fi=>zaI fi 0 (zab R Ad [] e fun Q fj=>zaa Q 0 fun fk=>zaa Q 1 fun fl=>some ((.tuple #[fk,fl]),fj)) (none)) (some ((y.headD undef),e)))) (fun fm=>zaI fm 0 (zab R Ad [] h fun S fn=>zaa S 0 fun fo=>zaa S 1 fun fp=>some ((.tuple #[fo,fp]),fn)) (none)) (some ((w.headD undef),h)))) (fun fq=>zaI fq 0 (zab R Ad [] g fun T fr=>zaa T 0 fun fs=>zaa T 1 fun ft=>some ((.tuple #[fs,ft]),fr)) (none)) (some ((u.headD undef),g))))
noncomputable def zgr(R:zai)(a d e:Value)(b:Hp):Option (Value×Hp):=pNil a (za5 0 a fun f=>zaH 1 false b f fun g=>zab R A0 [g,d,e] b fun c h=>zaa c 0 fun i=>zaa c 1 fun j=>some (i,h))
noncomputable def zj7(R:zai)(a:Value)(b:Hp):Option (Value×Hp):=zab R Ah [a,(.int .u64 18446744073709551615)] b fun c d=>some (c,d)
noncomputable def zfb(R:zai)(b c d e:Value)(f:Hp):Option (Value×Hp):=zab R Ck [b,c,d,e] f fun a g=>zaa a 0 fun h=>zaa a 1 fun i=>some (h,g)
noncomputable def ze9(R:zai)(c a i j:Value)(D:Hp):Option (Value×Hp):=zaf 1 false (zad a) 1 fun E=>zab R AP [E] D fun m n=>zaG (zaf 1 false (zad a) 0 fun F=>pBin PP .eql Aa F (.int .i64 18) fun G=>zae G fun H=>br H (some (.next,[m,(.int .u64 0)],n)) (some (.next,[(.int .u64 0),m],n))) fun I e o=>zaM I (zaf 1 false (zad a) 2 fun d=>zaf 1 false (zad a) 3 fun f=>zaf 1 false (zad a) 0 fun J=>zab R Ay [c,d,J] o fun k p=>zaa k 0 fun K=>zaa k 1 fun L=>zaa k 2 fun M=>zaG (zae j fun N=>br N (pBin PP .eql Ab i (e.getD 0 undef) fun O=>some (.next,[O],p)) (some (.next,[(.bool false)],p))) fun P q b=>zaM P (zae (q.getD 0 undef) fun Q=>br Q (zab R Ac [f] b fun r S=>zaa r 0 fun T=>zaa r 1 fun U=>some ((.tuple #[T,U]),S)) (zaG (zae j fun V=>br V (pBin PP .eql Ab i (e.getD 1 undef) fun s=>zae s fun W=>br W (some (.next,[s],b)) (pBin PP .eql Aa d f fun X=>some (.next,[X],b))) (pBin PP .eql Aa d f fun Y=>some (.next,[Y],b))) fun Z t g=>zaM Z (zae (t.getD 0 undef) fun aa=>br aa (zab R Ac [d] g fun u ab=>zaa u 0 fun ac=>zaa u 1 fun ad=>some ((.tuple #[ac,ad]),ab)) (zab R AV [c,(.int .i64 15),d,f] g fun ae l=>zae ae fun af=>br af (zaf 1 false (zad a) 1 fun ag=>zab R Ai [c,ag,(e.getD 0 undef)] l fun ah ai=>zab R Ac [ah] ai fun v aj=>zaa v 0 fun ak=>zaa v 1 fun al=>some ((.tuple #[ak,al]),aj)) (zaG (zae j fun am=>br am (some (.next,[M],l)) (some (.next,[(.bool false)],l))) fun ao w h=>zaM ao (zae (w.getD 0 undef) fun ap=>br ap (zaf 1 false (zad a) 0 fun aq=>zaf 1 false (zad a) 1 fun ar=>zab R AH [aq,ar,i,L] h fun x au=>zaa x 0 fun av=>zaa x 1 fun bv=>zaf 1 false (zad a) 0 fun aw=>zaf 1 false (zad a) 1 fun ax=>zab R Ai [c,ax,av] au fun ay az=>zab R Ag [c,aw,K,ay] az fun ba bb=>zab R Ac [ba] bb fun y bc=>zaa y 0 fun bd=>zaa y 1 fun be=>some ((.tuple #[bd,be]),bc)) (zab R Ad [] h fun z bf=>zaa z 0 fun bg=>zaa z 1 fun bh=>some ((.tuple #[bg,bh]),bf))) (fun bi=>zaI bi 0 (zab R Ad [] h fun A bj=>zaa A 0 fun bk=>zaa A 1 fun bl=>some ((.tuple #[bk,bl]),bj)) (none)) (some ((w.headD undef),h))))) (fun bm=>zaI bm 0 (zab R Ad [] g fun B bn=>zaa B 0 fun bo=>zaa B 1 fun bp=>some ((.tuple #[bo,bp]),bn)) (none)) (some ((t.headD undef),g)))) (fun bq=>zaI bq 0 (zab R Ad [] b fun C bs=>zaa C 0 fun bt=>zaa C 1 fun bu=>some ((.tuple #[bt,bu]),bs)) (none)) (some ((q.headD undef),b))) (fun bw=>none) (some ((e.headD undef),o))
noncomputable def ze8(R:zai)(a c m n:Value)(T:Hp):Option (Value×Hp):=zaf 1 false (zad c) 2 fun b=>zaf 1 false (zad c) 3 fun e=>zab R Ay [a,b,(.int .i64 19)] T fun o U=>zaa o 0 fun V=>zaa o 1 fun W=>zaa o 2 fun X=>zab R Ap [a,b,(.int .i64 19)] U fun q Y=>zaa q 0 fun Z=>zaa q 1 fun r=>zaE 7 [.int .i64 0,.int .i64 0,.int .i64 0,.int .i64 0,.int .i64 0,.int .u64 0,.string ⟨#[]⟩] 0 Z fun k=>zab R Ap [a,e,(.int .i64 19)] Y fun s t=>zaa s 0 fun aa=>zaa s 1 fun u=>zaE 7 [.int .i64 0,.int .i64 0,.int .i64 0,.int .i64 0,.int .i64 0,.int .u64 0,.string ⟨#[]⟩] 0 aa fun l=>zaG (zae n fun ab=>br ab (pBin PP .eql Ab m (.int .u64 0) fun ac=>some (.next,[ac],t)) (some (.next,[(.bool false)],t))) fun ad v f=>zaM ad (zae (v.getD 0 undef) fun ae=>br ae (zab R Ac [b] f fun w af=>zaa w 0 fun ag=>zaa w 1 fun ah=>some ((.tuple #[ag,ah]),af)) (zaG (zae n fun ai=>br ai (zaf 1 false (zad c) 1 fun aj=>zab R AP [aj] f fun ak al=>pBin PP .eql Ab m ak fun am=>some (.next,[am],al)) (some (.next,[(.bool false)],f))) fun ao x g=>zaM ao (zae (x.getD 0 undef) fun ap=>br ap (zab R AW [a,(.int .i64 15),b] g fun aq ar=>zab R Ac [aq] ar fun y au=>zaa y 0 fun av=>zaa y 1 fun aw=>some ((.tuple #[av,aw]),au)) (pBin PP .eql Aa b e fun ax=>zae ax fun ay=>br ay (zaf 1 false (zad c) 1 fun az=>zab R Ai [a,az,(.int .u64 0)] g fun ba bb=>zab R Ac [ba] bb fun z bc=>zaa z 0 fun bd=>zaa z 1 fun be=>some ((.tuple #[bd,be]),bc)) (zab R AV [a,(.int .i64 15),b,e] g fun bf p=>zae bf fun bg=>br bg (zaf 1 false (zad c) 1 fun bh=>zaf 1 false (zad c) 1 fun bi=>zab R AP [bi] p fun bj bk=>zab R Ai [a,bh,bj] bk fun bl bm=>zab R Ac [bl] bm fun A bn=>zaa A 0 fun bo=>zaa A 1 fun bp=>some ((.tuple #[bo,bp]),bn)) (zaG (zae n fun bq=>br bq (some (.next,[X],p)) (some (.next,[(.bool false)],p))) fun bs B h=>zaM bs (zae (B.getD 0 undef) fun bt=>br bt (zaf 1 false (zad c) 1 fun bu=>pBin PP .xor Ab m W fun bv=>zab R Ai [a,bu,bv] h fun bw bx=>zab R Ag [a,(.int .i64 19),V,bw] bx fun bz ca=>zab R Ac [bz] ca fun C cb=>zaa C 0 fun cc=>zaa C 1 fun cd=>some ((.tuple #[cc,cd]),cb)) (zaG (zae r fun ce=>br ce (zaf 1 false k 3 fun cf=>pBin PP .eql Aa cf e fun cg=>some (.next,[cg],h)) (some (.next,[(.bool false)],h))) fun ch D i=>zaM ch (zae (D.getD 0 undef) fun ci=>br ci (zaf 1 false k 2 fun cj=>zab R Ac [cj] i fun E ck=>zaa E 0 fun cl=>zaa E 1 fun cm=>some ((.tuple #[cl,cm]),ck)) (zaG (zae r fun cn=>br cn (zaf 1 false k 2 fun co=>pBin PP .eql Aa co e fun cp=>some (.next,[cp],i)) (some (.next,[(.bool false)],i))) fun cq F j=>zaM cq (zae (F.getD 0 undef) fun cr=>br cr (zaf 1 false k 3 fun cs=>zab R Ac [cs] j fun G ct=>zaa G 0 fun cu=>zaa G 1 fun cv=>some ((.tuple #[cu,cv]),ct)) (zaG (zae u fun cw=>br cw (zaf 1 false l 3 fun cx=>pBin PP .eql Aa cx b fun cy=>some (.next,[cy],j)) (some (.next,[(.bool false)],j))) fun cz H d=>zaM cz (zae (H.getD 0 undef) fun da=>br da (zaf 1 false l 2 fun db=>zab R Ac [db] d fun I dc=>zaa I 0 fun dd=>zaa I 1 fun de=>some ((.tuple #[dd,de]),dc)) (zae u fun df=>br df (zaf 1 false l 2 fun dg=>pBin PP .eql Aa dg b fun dh=>zae dh fun di=>br di (zaf 1 false l 3 fun dj=>zab R Ac [dj] d fun J dk=>zaa J 0 fun dl=>zaa J 1 fun dm=>some ((.tuple #[dl,dm]),dk)) (zab R Ad [] d fun K dn=>zaa K 0 fun dp=>zaa K 1 fun dq=>some ((.tuple #[dp,dq]),dn))) (zab R Ad [] d fun L dr=>zaa L 0 fun ds=>zaa L 1 fun dt=>some ((.tuple #[ds,dt]),dr)))) (fun du=>zaI du 0 (zab R Ad [] d fun M dv=>zaa M 0 fun dw=>zaa M 1 fun dx=>some ((.tuple #[dw,dx]),dv)) (none)) (some ((H.headD undef),d)))) (fun dy=>zaI dy 0 (zab R Ad [] j fun N dz=>zaa N 0 fun ea=>zaa N 1 fun eb=>some ((.tuple #[ea,eb]),dz)) (none)) (some ((F.headD undef),j)))) (fun ec=>zaI ec 0 (zab R Ad [] i fun O ed=>zaa O 0 fun ee=>zaa O 1 fun ef=>some ((.tuple #[ee,ef]),ed)) (none)) (some ((D.headD undef),i)))) (fun eg=>zaI eg 0 (zab R Ad [] h fun P eh=>zaa P 0 fun ei=>zaa P 1 fun ej=>some ((.tuple #[ei,ej]),eh)) (none)) (some ((B.headD undef),h)))))) (fun ek=>zaI ek 0 (zab R Ad [] g fun Q el=>zaa Q 0 fun em=>zaa Q 1 fun en=>some ((.tuple #[em,en]),el)) (none)) (some ((x.headD undef),g)))) (fun eo=>zaI eo 0 (zab R Ad [] f fun S ep=>zaa S 0 fun eq=>zaa S 1 fun er=>some ((.tuple #[eq,er]),ep)) (none)) (some ((v.headD undef),f))
noncomputable def zfM(R:zai)(a h k l:Value)(B:Hp):Option (Value×Hp):=zaf 1 false (zad h) 2 fun d=>zaf 1 false (zad h) 3 fun i=>zab R Ay [a,d,(.int .i64 20)] B fun j C=>zaa j 0 fun D=>zaa j 1 fun E=>zaa j 2 fun F=>zab R Ak [a,d] C fun G H=>zab R Ak [a,i] H fun I m=>zaE 7 [.int .i64 0,.int .i64 0,.int .i64 0,.int .i64 0,.int .i64 0,.int .u64 0,.string ⟨#[]⟩] 0 G fun e=>zaE 7 [.int .i64 0,.int .i64 0,.int .i64 0,.int .i64 0,.int .i64 0,.int .u64 0,.string ⟨#[]⟩] 0 I fun f=>zaG (zae l fun J=>br J (pBin PP .eql Ab k (.int .u64 0) fun K=>some (.next,[K],m)) (some (.next,[(.bool false)],m))) fun L n g=>zaM L (zae (n.getD 0 undef) fun M=>br M (zab R Ac [d] g fun o N=>zaa o 0 fun O=>zaa o 1 fun P=>some ((.tuple #[O,P]),N)) (zaG (zae l fun Q=>br Q (some (.next,[F],g)) (some (.next,[(.bool false)],g))) fun S p b=>zaM S (zae (p.getD 0 undef) fun T=>br T (zaf 1 false (zad h) 1 fun U=>pBin PP .add Ab k E fun V=>zab R Ai [a,U,V] b fun W X=>zab R Ag [a,(.int .i64 20),D,W] X fun Y Z=>zab R Ac [Y] Z fun q aa=>zaa q 0 fun ab=>zaa q 1 fun ac=>some ((.tuple #[ab,ac]),aa)) (zaf 1 false f 0 fun ad=>pBin PP .eql Aa ad (.int .i64 16) fun ae=>zae ae fun af=>br af (zaf 1 false f 2 fun ag=>zab R Ag [a,(.int .i64 21),d,ag] b fun ah ai=>zab R Ac [ah] ai fun r aj=>zaa r 0 fun ak=>zaa r 1 fun al=>some ((.tuple #[ak,al]),aj)) (zaf 1 false e 0 fun am=>pBin PP .eql Aa am (.int .i64 16) fun ao=>zae ao fun ap=>br ap (zaf 1 false e 2 fun aq=>zab R Ag [a,(.int .i64 21),i,aq] b fun ar au=>zab R Ac [ar] au fun s av=>zaa s 0 fun aw=>zaa s 1 fun ax=>some ((.tuple #[aw,ax]),av)) (zaG (zaf 1 false e 0 fun ay=>pBin PP .eql Aa ay (.int .i64 21) fun az=>zae az fun ba=>br ba (zaf 1 false e 3 fun bb=>pBin PP .eql Aa bb i fun bc=>some (.next,[bc],b)) (some (.next,[(.bool false)],b))) fun bd t c=>zaM bd (zae (t.getD 0 undef) fun be=>br be (zaf 1 false e 2 fun bf=>zab R Ac [bf] c fun u bg=>zaa u 0 fun bh=>zaa u 1 fun bi=>some ((.tuple #[bh,bi]),bg)) (zaf 1 false f 0 fun bj=>pBin PP .eql Aa bj (.int .i64 21) fun bk=>zae bk fun bl=>br bl (zaf 1 false f 3 fun bm=>pBin PP .eql Aa bm d fun bn=>zae bn fun bo=>br bo (zaf 1 false f 2 fun bp=>zab R Ac [bp] c fun v bq=>zaa v 0 fun bs=>zaa v 1 fun bt=>some ((.tuple #[bs,bt]),bq)) (zab R Ad [] c fun w bu=>zaa w 0 fun bv=>zaa w 1 fun bw=>some ((.tuple #[bv,bw]),bu))) (zab R Ad [] c fun x bx=>zaa x 0 fun bz=>zaa x 1 fun ca=>some ((.tuple #[bz,ca]),bx)))) (fun cb=>zaI cb 0 (zab R Ad [] c fun y cc=>zaa y 0 fun cd=>zaa y 1 fun ce=>some ((.tuple #[cd,ce]),cc)) (none)) (some ((t.headD undef),c)))))) (fun cf=>zaI cf 0 (zab R Ad [] b fun z cg=>zaa z 0 fun ch=>zaa z 1 fun ci=>some ((.tuple #[ch,ci]),cg)) (none)) (some ((p.headD undef),b)))) (fun cj=>zaI cj 0 (zab R Ad [] g fun A ck=>zaa A 0 fun cl=>zaa A 1 fun cm=>some ((.tuple #[cl,cm]),ck)) (none)) (some ((n.headD undef),g))
noncomputable def zfC(R:zai)(a i D E j k:Value)(F:Hp):Option (Value×Hp):=zaf 1 false (zad i) 2 fun d=>zaf 1 false (zad i) 3 fun e=>zab R Ak [a,d] F fun G H=>zab R Ak [a,e] H fun I l=>zaE 7 [.int .i64 0,.int .i64 0,.int .i64 0,.int .i64 0,.int .i64 0,.int .u64 0,.string ⟨#[]⟩] 0 G fun c=>zaE 7 [.int .i64 0,.int .i64 0,.int .i64 0,.int .i64 0,.int .i64 0,.int .u64 0,.string ⟨#[]⟩] 0 I fun m=>zaG (zae k fun J=>br J (pBin PP .eql Ab j (.int .u64 0) fun K=>some (.next,[K],l)) (some (.next,[(.bool false)],l))) fun L n b=>zaM L (zae (n.getD 0 undef) fun M=>br M (zab R Ac [d] b fun o N=>zaa o 0 fun O=>zaa o 1 fun P=>some ((.tuple #[O,P]),N)) (pBin PP .eql Aa d e fun Q=>zae Q fun S=>br S (zaf 1 false (zad i) 1 fun T=>zab R Ai [a,T,(.int .u64 0)] b fun U V=>zab R Ac [U] V fun p W=>zaa p 0 fun X=>zaa p 1 fun Y=>some ((.tuple #[X,Y]),W)) (zae k fun Z=>br Z (zaf 1 false (zad i) 1 fun aa=>pUn .neg j fun ab=>zab R Ai [a,aa,ab] b fun ac ad=>zab R Ag [a,(.int .i64 20),d,ac] ad fun ae af=>zab R Ac [ae] af fun q ag=>zaa q 0 fun ah=>zaa q 1 fun ai=>some ((.tuple #[ah,ai]),ag)) (zaG (zae E fun aj=>br aj (pBin PP .eql Ab D (.int .u64 0) fun ak=>some (.next,[ak],b)) (some (.next,[(.bool false)],b))) fun al r f=>zaM al (zae (r.getD 0 undef) fun am=>br am (zab R AW [a,(.int .i64 16),e] f fun ao ap=>zab R Ac [ao] ap fun s aq=>zaa s 0 fun ar=>zaa s 1 fun au=>some ((.tuple #[ar,au]),aq)) (zaG (zaf 1 false c 0 fun av=>pBin PP .eql Aa av (.int .i64 20) fun aw=>zae aw fun ax=>br ax (zaf 1 false c 3 fun ay=>pBin PP .eql Aa ay e fun az=>some (.next,[az],f)) (some (.next,[(.bool false)],f))) fun ba t g=>zaM ba (zae (t.getD 0 undef) fun bb=>br bb (zaf 1 false c 2 fun bc=>zab R Ac [bc] g fun u bd=>zaa u 0 fun be=>zaa u 1 fun bf=>some ((.tuple #[be,bf]),bd)) (zaG (zaf 1 false c 0 fun bg=>pBin PP .eql Aa bg (.int .i64 20) fun bh=>zae bh fun bi=>br bi (zaf 1 false c 2 fun bj=>pBin PP .eql Aa bj e fun bk=>some (.next,[bk],g)) (some (.next,[(.bool false)],g))) fun bl v h=>zaM bl (zae (v.getD 0 undef) fun bm=>br bm (zaf 1 false c 3 fun bn=>zab R Ac [bn] h fun w bo=>zaa w 0 fun bp=>zaa w 1 fun bq=>some ((.tuple #[bp,bq]),bo)) (zaf 1 false m 0 fun bs=>pBin PP .eql Aa bs (.int .i64 16) fun bt=>zae bt fun bu=>br bu (zaf 1 false m 2 fun bv=>zab R Ag [a,(.int .i64 20),d,bv] h fun bw bx=>zab R Ac [bw] bx fun x bz=>zaa x 0 fun ca=>zaa x 1 fun cb=>some ((.tuple #[ca,cb]),bz)) (zab R Ad [] h fun y cc=>zaa y 0 fun cd=>zaa y 1 fun ce=>some ((.tuple #[cd,ce]),cc)))) (fun cf=>zaI cf 0 (zab R Ad [] h fun z cg=>zaa z 0 fun ch=>zaa z 1 fun ci=>some ((.tuple #[ch,ci]),cg)) (none)) (some ((v.headD undef),h)))) (fun cj=>zaI cj 0 (zab R Ad [] g fun A ck=>zaa A 0 fun cl=>zaa A 1 fun cm=>some ((.tuple #[cl,cm]),ck)) (none)) (some ((t.headD undef),g)))) (fun cn=>zaI cn 0 (zab R Ad [] f fun B co=>zaa B 0 fun cp=>zaa B 1 fun cq=>some ((.tuple #[cp,cq]),co)) (none)) (some ((r.headD undef),f)))))) (fun cr=>zaI cr 0 (zab R Ad [] b fun C cs=>zaa C 0 fun ct=>zaa C 1 fun cu=>some ((.tuple #[ct,cu]),cs)) (none)) (some ((n.headD undef),b))
noncomputable def zfE(R:zai)(b a c O:Value)(m:Hp):Option (Value×Hp):=pUn .not O fun P=>zae P fun Q=>br Q (zab R Ad [] m fun n S=>zaa n 0 fun T=>zaa n 1 fun U=>some ((.tuple #[T,U]),S)) (zaf 1 false (zad a) 2 fun d=>zaf 1 false (zad a) 3 fun V=>zab R Cb [c] m fun o W=>zaa o 0 fun p=>zaa o 1 fun k=>zaf 1 false (zad a) 1 fun X=>zaf 1 false (zad a) 1 fun Y=>pBin PP .sub Aa Y (.int .i64 1) fun Z=>pBin PP .and Aa X Z fun aa=>pBin PP .eql Aa aa (.int .i64 0) fun q=>zaf 1 false (zad a) 0 fun ab=>zab R Ay [b,d,ab] W fun l r=>zaa l 0 fun ac=>zaa l 1 fun ad=>zaa l 2 fun ae=>zaG (zaf 1 false (zad a) 0 fun af=>pBin PP .eql Aa af (.int .i64 22) fun ag=>zae ag fun ah=>br ah (pBin PP .eql Ab c (.int .u64 0) fun ai=>some (.next,[ai],r)) (some (.next,[(.bool false)],r))) fun aj s i=>zaM aj (zae (s.getD 0 undef) fun ak=>br ak (zab R Ac [V] i fun t al=>zaa t 0 fun am=>zaa t 1 fun ao=>some ((.tuple #[am,ao]),al)) (zaG (zaf 1 false (zad a) 0 fun ap=>pBin PP .eql Aa ap (.int .i64 24) fun aq=>zae aq fun ar=>br ar (pBin PP .eql Ab c (.int .u64 1) fun au=>some (.next,[au],i)) (some (.next,[(.bool false)],i))) fun av u e=>zaM av (zae (u.getD 0 undef) fun aw=>br aw (zaf 1 false (zad a) 1 fun ax=>zab R Ai [b,ax,(.int .u64 0)] e fun ay az=>zab R Ac [ay] az fun v ba=>zaa v 0 fun bb=>zaa v 1 fun bc=>some ((.tuple #[bb,bc]),ba)) (pBin PP .eql Ab c (.int .u64 1) fun bd=>zae bd fun be=>br be (zab R Ac [d] e fun w bf=>zaa w 0 fun bg=>zaa w 1 fun bh=>some ((.tuple #[bg,bh]),bf)) (zaG (zaf 1 false (zad a) 0 fun bi=>pBin PP .eql Aa bi (.int .i64 22) fun bj=>zae bj fun bk=>br bk (zaf 1 false (zad a) 1 fun bl=>zab R AP [bl] e fun bm bn=>pBin PP .eql Ab c bm fun bo=>some (.next,[bo],bn)) (some (.next,[(.bool false)],e))) fun bp x f=>zaM bp (zae (x.getD 0 undef) fun bq=>br bq (zab R AW [b,(.int .i64 16),d] f fun bs bt=>zab R Ac [bs] bt fun y bu=>zaa y 0 fun bv=>zaa y 1 fun bw=>some ((.tuple #[bv,bw]),bu)) (zaG (zaf 1 false (zad a) 0 fun bx=>pBin PP .eql Aa bx (.int .i64 22) fun bz=>zae bz fun ca=>br ca (zae k fun cb=>br cb (some (.next,[q],f)) (some (.next,[(.bool false)],f))) (some (.next,[(.bool false)],f))) fun cc z g=>zaM cc (zae (z.getD 0 undef) fun cd=>br cd (zaf 1 false (zad a) 1 fun ce=>zab R Ai [b,ce,p] g fun cf cg=>zab R Ag [b,(.int .i64 25),d,cf] cg fun ch ci=>zab R Ac [ch] ci fun A cj=>zaa A 0 fun ck=>zaa A 1 fun cl=>some ((.tuple #[ck,cl]),cj)) (zaG (zaf 1 false (zad a) 0 fun cm=>pBin PP .eql Aa cm (.int .i64 23) fun cn=>zae cn fun co=>br co (zae k fun cp=>br cp (some (.next,[q],g)) (some (.next,[(.bool false)],g))) (some (.next,[(.bool false)],g))) fun cq B j=>zaM cq (zae (B.getD 0 undef) fun cr=>br cr (zaf 1 false (zad a) 1 fun cs=>zab R Ai [b,cs,p] j fun ct cu=>zab R Ag [b,(.int .i64 26),d,ct] cu fun cv cw=>zab R Ac [cv] cw fun C cx=>zaa C 0 fun cy=>zaa C 1 fun cz=>some ((.tuple #[cy,cz]),cx)) (zaG (zaf 1 false (zad a) 0 fun da=>pBin PP .eql Aa da (.int .i64 24) fun db=>zae db fun dc=>br dc (some (.next,[k],j)) (some (.next,[(.bool false)],j))) fun dd D h=>zaM dd (zae (D.getD 0 undef) fun de=>br de (zaf 1 false (zad a) 1 fun df=>pBin PP .sub Ab c (.int .u64 1) fun dg=>zab R Ai [b,df,dg] h fun dh di=>zab R Ag [b,(.int .i64 17),d,dh] di fun dj dk=>zab R Ac [dj] dk fun E dl=>zaa E 0 fun dm=>zaa E 1 fun dn=>some ((.tuple #[dm,dn]),dl)) (zaf 1 false (zad a) 0 fun dp=>pBin PP .eql Aa dp (.int .i64 22) fun dq=>zae dq fun dr=>br dr (zae ae fun ds=>br ds (zaf 1 false (zad a) 1 fun dt=>pBin PP .mul Ab c ad fun du=>zab R Ai [b,dt,du] h fun dv dw=>zab R Ag [b,(.int .i64 22),ac,dv] dw fun dx dy=>zab R Ac [dx] dy fun F dz=>zaa F 0 fun ea=>zaa F 1 fun eb=>some ((.tuple #[ea,eb]),dz)) (zab R Ad [] h fun G ec=>zaa G 0 fun ed=>zaa G 1 fun ee=>some ((.tuple #[ed,ee]),ec))) (zab R Ad [] h fun H ef=>zaa H 0 fun eg=>zaa H 1 fun eh=>some ((.tuple #[eg,eh]),ef)))) (fun ei=>zaI ei 0 (zab R Ad [] h fun I ej=>zaa I 0 fun ek=>zaa I 1 fun el=>some ((.tuple #[ek,el]),ej)) (none)) (some ((D.headD undef),h)))) (fun em=>zaI em 0 (zab R Ad [] j fun J en=>zaa J 0 fun eo=>zaa J 1 fun ep=>some ((.tuple #[eo,ep]),en)) (none)) (some ((B.headD undef),j)))) (fun eq=>zaI eq 0 (zab R Ad [] g fun K er=>zaa K 0 fun es=>zaa K 1 fun et=>some ((.tuple #[es,et]),er)) (none)) (some ((z.headD undef),g)))) (fun eu=>zaI eu 0 (zab R Ad [] f fun L ev=>zaa L 0 fun ew=>zaa L 1 fun ex=>some ((.tuple #[ew,ex]),ev)) (none)) (some ((x.headD undef),f))))) (fun ey=>zaI ey 0 (zab R Ad [] e fun M ez=>zaa M 0 fun fa=>zaa M 1 fun fb=>some ((.tuple #[fa,fb]),ez)) (none)) (some ((u.headD undef),e)))) (fun fc=>zaI fc 0 (zab R Ad [] i fun N fd=>zaa N 0 fun fe=>zaa N 1 fun ff=>some ((.tuple #[fe,ff]),fd)) (none)) (some ((s.headD undef),i)))
noncomputable def zfK(R:zai)(c a o p:Value)(e:Hp):Option (Value×Hp):=zaG (zae p fun q=>br q (pBin PP .eql Ab o (.int .u64 0) fun r=>zae r fun s=>br s (zaf 1 false (zad a) 3 fun t=>zaf 1 false (zad a) 1 fun u=>zab R AT [c,(.int .i64 32),t,u] e fun v w=>zab R Ac [v] w fun g x=>zaa g 0 fun y=>zaa g 1 fun z=>some (.ret,[(.tuple #[y,z])],x)) (some (.next,[],e))) (some (.next,[],e))) fun A B h=>zaM A (zaf 1 false (zad a) 2 fun C=>zab R Ap [c,C,(.int .i64 31)] h fun i D=>zaa i 0 fun E=>zaa i 1 fun F=>zaE 7 [.int .i64 0,.int .i64 0,.int .i64 0,.int .i64 0,.int .i64 0,.int .u64 0,.string ⟨#[]⟩] 0 E fun j=>zaf 1 false (zad a) 3 fun G=>zab R Ap [c,G,(.int .i64 31)] D fun k d=>zaa k 0 fun H=>zaa k 1 fun I=>zaE 7 [.int .i64 0,.int .i64 0,.int .i64 0,.int .i64 0,.int .i64 0,.int .u64 0,.string ⟨#[]⟩] 0 H fun b=>zaG (zae F fun J=>br J (zae I fun K=>br K (zaf 1 false j 2 fun L=>zaf 1 false b 2 fun M=>pBin PP .eql Aa L M fun N=>zae N fun O=>br O (zaf 1 false j 5 fun P=>zaf 1 false b 5 fun Q=>zaf 1 false b 1 fun S=>zav .u64 S fun T=>pBin PP .add Ab Q T fun U=>pBin PP .eql Ab P U fun V=>some (.next,[V],d)) (some (.next,[(.bool false)],d))) (some (.next,[(.bool false)],d))) (some (.next,[(.bool false)],d))) fun W l f=>zaM W (zae (l.getD 0 undef) fun X=>br X (zaf 1 false b 2 fun Y=>zaf 1 false b 5 fun Z=>zav .i64 Z fun aa=>zaf 1 false (zad a) 1 fun ab=>zab R AN [c,Y,aa,ab] f fun ac ad=>zab R Ac [ac] ad fun m ae=>zaa m 0 fun af=>zaa m 1 fun ag=>some ((.tuple #[af,ag]),ae)) (zab R Ad [] f fun n ah=>zaa n 0 fun ai=>zaa n 1 fun aj=>some ((.tuple #[ai,aj]),ah))) (fun ak=>none) (some ((l.headD undef),f))) (fun al=>none) (some ((B.headD undef),h))
noncomputable def zew(R:zai)(b a C D d E:Value)(F:Hp):Option (Value×Hp):=zaf 1 false (zad a) 2 fun f=>zaf 1 false (zad a) 1 fun G=>zav .u64 G fun g=>zaf 1 false (zad a) 0 fun H=>zab R Ay [b,f,H] F fun i l=>zaa i 0 fun m=>zaa i 1 fun j=>zaa i 2 fun k=>zaG (zae D fun I=>br I (pBin PP .eql Ab C (.int .u64 0) fun J=>some (.next,[J],l)) (some (.next,[(.bool false)],l))) fun K n c=>zaM K (zae (n.getD 0 undef) fun L=>br L (zab R Ac [f] c fun o M=>zaa o 0 fun N=>zaa o 1 fun O=>some ((.tuple #[N,O]),M)) (pUn .not E fun P=>zae P fun Q=>br Q (zab R Ad [] c fun p S=>zaa p 0 fun T=>zaa p 1 fun U=>some ((.tuple #[T,U]),S)) (pBin PP .geq Ab d g fun V=>zae V fun W=>br W (zaf 1 false (zad a) 0 fun X=>zaf 1 false (zad a) 1 fun Y=>pBin PP .rem Ab d g fun Z=>zab R Ai [b,Y,Z] c fun aa ab=>zab R Ag [b,X,f,aa] ab fun ac ad=>zab R Ac [ac] ad fun q ae=>zaa q 0 fun af=>zaa q 1 fun ag=>some ((.tuple #[af,ag]),ae)) (pBin PP .eql Ab d (.int .u64 0) fun ah=>zae ah fun ai=>br ai (zab R Ac [f] c fun r aj=>zaa r 0 fun ak=>zaa r 1 fun al=>some ((.tuple #[ak,al]),aj)) (zaG (zaf 1 false (zad a) 0 fun am=>pBin PP .eql Aa am (.int .i64 25) fun ao=>zae ao fun ap=>br ap (some (.next,[k],c)) (zaf 1 false (zad a) 0 fun aq=>pBin PP .eql Aa aq (.int .i64 26) fun ar=>zae ar fun au=>br au (some (.next,[k],c)) (some (.next,[(.bool false)],c)))) fun av s e=>zaM av (zae (s.getD 0 undef) fun aw=>br aw (pBin PP .add Ab d j fun ax=>pBin PP .geq Ab ax g fun ay=>zae ay fun az=>br az (zaf 1 false (zad a) 1 fun ba=>zab R Ai [b,ba,(.int .u64 0)] e fun bb bc=>zab R Ac [bb] bc fun t bd=>zaa t 0 fun be=>zaa t 1 fun bf=>some ((.tuple #[be,bf]),bd)) (zaf 1 false (zad a) 0 fun bg=>zaf 1 false (zad a) 1 fun bh=>pBin PP .add Ab d j fun bi=>zab R Ai [b,bh,bi] e fun bj bk=>zab R Ag [b,bg,m,bj] bk fun bl bm=>zab R Ac [bl] bm fun u bn=>zaa u 0 fun bo=>zaa u 1 fun bp=>some ((.tuple #[bo,bp]),bn))) (zaG (zaf 1 false (zad a) 0 fun bq=>pBin PP .eql Aa bq (.int .i64 28) fun bs=>zae bs fun bt=>br bt (some (.next,[k],e)) (some (.next,[(.bool false)],e))) fun bu v h=>zaM bu (zae (v.getD 0 undef) fun bv=>br bv (zaf 1 false (zad a) 0 fun bw=>zaf 1 false (zad a) 1 fun bx=>pBin PP .add Ab d j fun bz=>pBin PP .rem Ab bz g fun ca=>zab R Ai [b,bx,ca] h fun cb cc=>zab R Ag [b,bw,m,cb] cc fun cd ce=>zab R Ac [cd] ce fun w cf=>zaa w 0 fun cg=>zaa w 1 fun ch=>some ((.tuple #[cg,ch]),cf)) (zaf 1 false (zad a) 0 fun ci=>pBin PP .eql Aa ci (.int .i64 29) fun cj=>zae cj fun ck=>br ck (zaf 1 false (zad a) 1 fun cl=>pBin PP .sub Ab g d fun cm=>zab R Ai [b,cl,cm] h fun cn co=>zab R Ag [b,(.int .i64 28),f,cn] co fun cp cq=>zab R Ac [cp] cq fun x cr=>zaa x 0 fun cs=>zaa x 1 fun ct=>some ((.tuple #[cs,ct]),cr)) (zab R Ad [] h fun y cu=>zaa y 0 fun cv=>zaa y 1 fun cw=>some ((.tuple #[cv,cw]),cu)))) (fun cx=>zaI cx 0 (zab R Ad [] h fun z cy=>zaa z 0 fun cz=>zaa z 1 fun da=>some ((.tuple #[cz,da]),cy)) (none)) (some ((v.headD undef),h)))) (fun db=>zaI db 0 (zab R Ad [] e fun A dc=>zaa A 0 fun dd=>zaa A 1 fun de=>some ((.tuple #[dd,de]),dc)) (none)) (some ((s.headD undef),e))))))) (fun df=>zaI df 0 (zab R Ad [] c fun B dg=>zaa B 0 fun dh=>zaa B 1 fun di=>some ((.tuple #[dh,di]),dg)) (none)) (some ((n.headD undef),c))
noncomputable def zdU(R:zai)(b c d e:Value)(f:Hp):Option (Value×Hp):=zab R Cl [b,c,d,e] f fun a g=>zaa a 0 fun h=>zaa a 1 fun i=>some (h,g)
noncomputable def zfc(R:zai)(b c d e:Value)(f:Hp):Option (Value×Hp):=zab R Cj [b,c,d,e] f fun a g=>zaa a 0 fun h=>zaa a 1 fun i=>some (h,g)
noncomputable def zim(R:zai)(a:Value)(b:Hp):Option (Value×Hp):=pBin PP .geq Aa a (.int .i64 1) fun c=>zae c fun d=>br d (pBin PP .leq Aa a (.int .i64 64) fun e=>some (e,b)) (some ((.bool false),b))
noncomputable def zhs(R:zai)(a d:Value)(e:Hp):Option (Value×Hp):=zab R Av [a] e fun f b=>pUn .not f fun g=>zae g fun h=>br h (some ((.int .i64 0),b)) (pBin PP .sub Aa (.int .i64 64) a fun i=>zav .u64 i fun c=>pBin PP .shl Ab d c fun j=>zav .i64 j fun k=>pBin PP .shr Ch k c fun l=>some (l,b))
noncomputable def zhr(R:zai)(a:Value)(b:Hp):Option (Value×Hp):=pBin PP .geq Aa a (.int .i64 25) fun c=>zae c fun d=>br d (pBin PP .leq Aa a (.int .i64 29) fun e=>some (e,b)) (some ((.bool false),b))
noncomputable def zik(R:zai)(e a b c:Value)(d:Hp):Option (Value×Hp):=pBin PP .eql Aa e (.int .i64 25) fun g=>zae g fun h=>br h (zav .u64 c fun i=>pBin PP .shl Ab b i fun j=>zab R Ah [a,j] d fun k l=>some (k,l)) (pBin PP .eql Aa e (.int .i64 26) fun m=>zae m fun n=>br n (zav .u64 c fun o=>pBin PP .shr Ab b o fun p=>some (p,d)) (pBin PP .eql Aa e (.int .i64 27) fun q=>zae q fun r=>br r (zab R A4 [a,b] d fun s t=>zav .u64 c fun u=>pBin PP .shr Ch s u fun v=>zav .u64 v fun w=>zab R Ah [a,w] t fun x y=>some (x,y)) (pBin PP .eql Aa e (.int .i64 29) fun z=>zae z fun A=>br A (pBin PP .sub Aa a c fun B=>pBin PP .rem Aa B a fun f=>zav .u64 f fun C=>pBin PP .shl Ab b C fun D=>pBin PP .sub Aa a f fun E=>zav .u64 E fun F=>pBin PP .shr Ab b F fun G=>pBin PP .or Ab D G fun H=>zab R Ah [a,H] d fun I J=>some (I,J)) (zav .u64 c fun K=>pBin PP .shl Ab b K fun L=>pBin PP .sub Aa a c fun M=>zav .u64 M fun N=>pBin PP .shr Ab b N fun O=>pBin PP .or Ab L O fun P=>zab R Ah [a,P] d fun Q S=>some (Q,S)))))
noncomputable def zbu(R:zai)(a d:Value)(b:Hp):Option (Value×Hp):=pBin PP .eql Aa d (.int .i64 10) fun i=>zae i fun j=>br j (pBin PP .lss Ab a (.int .u64 100) fun k=>zae k fun l=>br l (zav .i64 a fun m=>zab R B5 [m] b fun n o=>some (n,o)) (zeY [.int .u8 0,.int .u8 0,.int .u8 0,.int .u8 0,.int .u8 0,.int .u8 0,.int .u8 0,.int .u8 0,.int .u8 0,.int .u8 0,.int .u8 0,.int .u8 0,.int .u8 0,.int .u8 0,.int .u8 0,.int .u8 0,.int .u8 0,.int .u8 0,.int .u8 0,.int .u8 0,.int .u8 0,.int .u8 0,.int .u8 0,.int .u8 0] b fun e p=>zab R B4 [a] p fun f g=>zb5 24 1 e none (some f) g fun q=>zab R Bb [q,a] g fun v c=>zb5 24 1 e none (some f) c fun r=>zdM r c fun s=>some (s,c))) (zab R Bw [(.slice none 0 0),a,d,(.bool false),(.bool false)] b fun h t=>zaa h 0 fun w=>zaa h 1 fun u=>some (u,t))
noncomputable def zfO(R:zai)(b c d:Value)(e:Hp):Option (Value×Hp):=zab R Cm [b,c,d] e fun a f=>zaa a 0 fun g=>zaa a 1 fun h=>some (g,f)
noncomputable def zex(R:zai)(e i a:Value)(b:Hp):Option (Value×Hp):=zaH 1 false b a fun c=>zaH 1 false b a fun f=>zaH 1 false b a fun j=>zab R Ak [j,e] b fun k d=>chk (Hp.rdP d a 1 false=some c) (chk (Hp.rdP d a 1 false=some f) (zd9 false 1 1 k fun l=>zab R Ai [f,l,i] d fun m g=>chk (Hp.rdP g a 1 false=some c) (zab R Ag [c,(.int .i64 9),e,m] g fun n o=>zab R Ac [n] o fun h p=>zaa h 0 fun q=>zaa h 1 fun r=>some ((.tuple #[q,r]),p))))
noncomputable def zey(R:zai)(a f g:Value)(h:Hp):Option (Value×Hp):=zab R Ap [a,f,g] h fun b c=>zaa b 0 fun i=>zaa b 1 fun j=>zaE 7 [.int .i64 0,.int .i64 0,.int .i64 0,.int .i64 0,.int .i64 0,.int .u64 0,.string ⟨#[]⟩] 0 i fun d=>pUn .not j fun k=>zae k fun l=>br l (some ((.tuple #[(.int .i64 0),(.int .u64 0),(.bool false)]),c)) (zaf 1 false d 3 fun m=>zab R At [a,m] c fun e n=>zaa e 0 fun o=>zaa e 1 fun p=>zaf 1 false d 2 fun q=>some ((.tuple #[q,o,p]),n))
noncomputable def zfI(R:zai)(a d e:Value)(t:Hp):Option (Value×Hp):=zaf 1 false (zad d) 3 fun u=>zab R At [a,u] t fun f v=>zaa f 0 fun g=>zaa f 1 fun w=>zaf 1 false (zad d) 4 fun x=>zab R At [a,x] v fun h i=>zaa h 0 fun j=>zaa h 1 fun y=>zaG (pUn .not w fun z=>zae z fun A=>br A (some (.next,[(.bool true)],i)) (pUn .not y fun B=>some (.next,[B],i))) fun C k c=>zaM C (zae (k.getD 0 undef) fun D=>br D (zab R Ad [] c fun l E=>zaa l 0 fun F=>zaa l 1 fun G=>some ((.tuple #[F,G]),E)) (zaG (pBin PP .eql Ab g e fun H=>zae H fun I=>br I (pBin PP .eql Ab j e fun J=>some (.next,[J],c)) (some (.next,[(.bool false)],c))) fun K m b=>zaM K (zae (m.getD 0 undef) fun L=>br L (zab R An [a,(.bool true)] b fun M N=>zab R Ac [M] N fun n O=>zaa n 0 fun P=>zaa n 1 fun Q=>some ((.tuple #[P,Q]),O)) (pBin PP .eql Ab g e fun S=>zae S fun T=>br T (zaf 1 false (zad d) 2 fun U=>zab R Ac [U] b fun o V=>zaa o 0 fun W=>zaa o 1 fun X=>some ((.tuple #[W,X]),V)) (pBin PP .eql Ab j e fun Y=>zae Y fun Z=>br Z (zaf 1 false (zad d) 2 fun aa=>zab R Ao [a,aa] b fun ab ac=>zab R Ac [ab] ac fun p ad=>zaa p 0 fun ae=>zaa p 1 fun af=>some ((.tuple #[ae,af]),ad)) (zab R An [a,(.bool false)] b fun ag ah=>zab R Ac [ag] ah fun q ai=>zaa q 0 fun aj=>zaa q 1 fun ak=>some ((.tuple #[aj,ak]),ai))))) (fun al=>zaI al 0 (zab R An [a,(.bool false)] b fun am ao=>zab R Ac [am] ao fun r ap=>zaa r 0 fun aq=>zaa r 1 fun ar=>some ((.tuple #[aq,ar]),ap)) (none)) (some ((m.headD undef),b)))) (fun au=>zaI au 0 (zab R An [a,(.bool false)] c fun av aw=>zab R Ac [av] aw fun s ax=>zaa s 0 fun ay=>zaa s 1 fun az=>some ((.tuple #[ay,az]),ax)) (none)) (some ((k.headD undef),c))
noncomputable def zij(R:zai)(a:Value)(d:Hp):Option (Value×Hp):=zab R Ba [a] d fun e b=>zav .u64 e fun c=>pBin PP .gtr Ab a (.int .u64 1) fun f=>zae f fun g=>br g (pBin PP .sub Ab a (.int .u64 1) fun h=>pBin PP .and Ab a h fun i=>pBin PP .eql Ab i (.int .u64 0) fun j=>some ((.tuple #[c,j]),b)) (some ((.tuple #[c,(.bool false)]),b))
noncomputable def zeB(R:zai)(a:Value)(b:Hp):Option (Value×Hp):=pBin PP .lss Aa a (.int .i64 10) fun c=>zae c fun d=>br d (pBin PP .add Aa a (.int .i64 1) fun e=>zdx (.string ⟨#[48,49,50,51,52,53,54,55,56,57,97,98,99,100,101,102,103,104,105,106,107,108,109,110,111,112,113,114,115,116,117,118,119,120,121,122]⟩) (some a) (some e) fun f=>some (f,b)) (pBin PP .mul Aa a (.int .i64 2) fun g=>pBin PP .mul Aa a (.int .i64 2) fun h=>pBin PP .add Aa h (.int .i64 2) fun i=>zdx (.string ⟨#[48,48,48,49,48,50,48,51,48,52,48,53,48,54,48,55,48,56,48,57,49,48,49,49,49,50,49,51,49,52,49,53,49,54,49,55,49,56,49,57,50,48,50,49,50,50,50,51,50,52,50,53,50,54,50,55,50,56,50,57,51,48,51,49,51,50,51,51,51,52,51,53,51,54,51,55,51,56,51,57,52,48,52,49,52,50,52,51,52,52,52,53,52,54,52,55,52,56,52,57,53,48,53,49,53,50,53,51,53,52,53,53,53,54,53,55,53,56,53,57,54,48,54,49,54,50,54,51,54,52,54,53,54,54,54,55,54,56,54,57,55,48,55,49,55,50,55,51,55,52,55,53,55,54,55,55,55,56,55,57,56,48,56,49,56,50,56,51,56,52,56,53,56,54,56,55,56,56,56,57,57,48,57,49,57,50,57,51,57,52,57,53,57,54,57,55,57,56,57,57]⟩) (some g) (some i) fun j=>some (j,b))
noncomputable def zbY(R:zai)(a:Value)(d:Hp):Option (Value×Hp):=zab R Bo [a] d fun e f=>zab R B3 [e] f fun b c=>zbH 20 1 (.pointer (some ⟨AS,0,none⟩)) b fun g=>zaH 1 false c g fun h=>pBin PP .geq Ab a h fun i=>zab R B1 [i] c fun j k=>pBin PP .add Aa b j fun l=>some (l,k)
noncomputable def zbI(R:zai)(a b:Value)(c:Hp):Option (Value×Hp):=znS PP orc R Bb Go.Proofs.Tryz.f253 [a,b] c
noncomputable def zbT(R:zai)(a b c d e:Value)(f:Hp):Option (Value×Hp):=znS PP orc R Bw Go.Proofs.Tryz.f254 [a,b,c,d,e] f
noncomputable def zbW(R:zai)(a:Value)(b:Hp):Option (Value×Hp):=pBin PP .eql Ab a (.int .u64 0) fun c=>zae c fun d=>br d (some ((.int .i64 64),b)) (pUn .neg a fun e=>pBin PP .and Ab a e fun f=>pBin PP .mul Ab f (.int .u64 285870213051353865) fun g=>pBin PP .shr Ab g (.int .u64 58) fun h=>zbH 64 1 (.pointer (some ⟨Au,0,none⟩)) h fun i=>zaH 1 false b i fun j=>zav .i64 j fun k=>some (k,b))
noncomputable def zbZ(R:zai)(a:Value)(b:Hp):Option (Value×Hp):=pBin PP .mul Aa a (.int .i64 78913) fun c=>pBin PP .shr Aa c (.int .u64 18) fun d=>some (d,b)
noncomputable def zdi(R:zai)(b:Value)(a:Hp):Option (Value×Hp):=zae b fun c=>br c (some ((.int .i64 1),a)) (some ((.int .i64 0),a))
noncomputable def zcI(R:zai)(a:Value)(b:Hp):Option (Value×Hp):=pBin PP .sub Aa a (.int .i64 1) fun c=>pBin PP .and Aa a c fun d=>pBin PP .eql Aa d (.int .i64 0) fun e=>some (e,b)
noncomputable def zdc(R:zai)(a:Value)(b:Hp):Option (Value×Hp):=zab R Ba [a] b fun c d=>some (c,d)
theorem zeL(E:ET)(h:E BY=none)(a b c:Value)(d:Hp):run PP orc E BY [a,b,c] d=zcq (run PP orc E) a b c d:=by refine(zaC Proofs.Tryz.func10 ?_ ?_ h _ _).trans ?_<;>kernel_rfl
theorem zqy(E:ET)(h:E BA=none)(a:Hp):run PP orc E BA [] a=zlt (run PP orc E)  a:=by refine(zaC Proofs.Tryz.func13 ?_ ?_ h _ _).trans ?_<;>kernel_rfl
theorem zhc(E:ET)(h:E AI=none)(a:Value)(b:Hp):run PP orc E AI [a] b=zdX (run PP orc E) a b:=by refine(zaC Proofs.Tryz.func18 ?_ ?_ h _ _).trans ?_<;>kernel_rfl
theorem zhK(E:ET)(h:E AC=none)(a b:Value)(c:Hp):run PP orc E AC [a,b] c=zes (run PP orc E) a b c:=by refine(zaC Proofs.Tryz.func19 ?_ ?_ h _ _).trans ?_<;>kernel_rfl
theorem zhe(E:ET)(h:E By=none)(a b c:Value)(d:Hp):run PP orc E By [a,b,c] d=zdZ (run PP orc E) a b c d:=by refine(zaC Proofs.Tryz.func21 ?_ ?_ h _ _).trans ?_<;>kernel_rfl
theorem zgb(E:ET)(h:E BZ=none)(a:Hp):run PP orc E BZ [] a=zdb (run PP orc E)  a:=by refine(zaC Proofs.Tryz.func26 ?_ ?_ h _ _).trans ?_<;>kernel_rfl
theorem zeX(E:ET)(h:E Bc=none)(a b c d:Value)(e:Hp):run PP orc E Bc [a,b,c,d] e=zc4 (run PP orc E) a b c d e:=by refine(zaC Proofs.Tryz.func30 ?_ ?_ h _ _).trans ?_<;>kernel_rfl
theorem zhb(E:ET)(h:E An=none)(a b:Value)(c:Hp):run PP orc E An [a,b] c=zdW (run PP orc E) a b c:=by refine(zaC Proofs.Tryz.func31 ?_ ?_ h _ _).trans ?_<;>kernel_rfl
theorem zqw(E:ET)(h:E AZ=none)(a:Value)(b:Hp):run PP orc E AZ [a] b=zls (run PP orc E) a b:=by refine(zaC Proofs.Tryz.func32 ?_ ?_ h _ _).trans ?_<;>kernel_rfl
theorem zhg(E:ET)(h:E BX=none)(a b:Value)(c:Hp):run PP orc E BX [a,b] c=zd0 (run PP orc E) a b c:=by refine(zaC Proofs.Tryz.func33 ?_ ?_ h _ _).trans ?_<;>kernel_rfl
theorem zfv(E:ET)(h:E Be=none)(a b:Value)(c:Hp):run PP orc E Be [a,b] c=zfN (run PP orc E) a b c:=by refine(zaC Proofs.Tryz.func34 ?_ ?_ h _ _).trans ?_<;>kernel_rfl
theorem zhM(E:ET)(h:E Bk=none)(a b:Value)(c:Hp):run PP orc E Bk [a,b] c=zeu (run PP orc E) a b c:=by refine(zaC Proofs.Tryz.func45 ?_ ?_ h _ _).trans ?_<;>kernel_rfl
theorem zdL(E:ET)(h:E AR=none)(a b:Value)(c:Hp):run PP orc E AR [a,b] c=zdS (run PP orc E) a b c:=by refine(zaC Proofs.Tryz.func47 ?_ ?_ h _ _).trans ?_<;>kernel_rfl
theorem zhS(E:ET)(h:E Bd=none)(a b:Value)(c:Hp):run PP orc E Bd [a,b] c=zeA (run PP orc E) a b c:=by refine(zaC Proofs.Tryz.func48 ?_ ?_ h _ _).trans ?_<;>kernel_rfl
theorem znd(E:ET)(h:E Cc=none)(a:Hp):run PP orc E Cc [] a=znC (run PP orc E)  a:=by refine(zaC Proofs.Tryz.func57 ?_ ?_ h _ _).trans ?_<;>kernel_rfl
theorem ziL(E:ET)(h:E B6=none)(a b c:Value)(d:Hp):run PP orc E B6 [a,b,c] d=zfe (run PP orc E) a b c d:=by refine(zaC Proofs.Tryz.func58 ?_ ?_ h _ _).trans ?_<;>kernel_rfl
theorem ziO(E:ET)(h:E A9=none)(a:Value)(b:Hp):run PP orc E A9 [a] b=zfh (run PP orc E) a b:=by refine(zaC Proofs.Tryz.func59 ?_ ?_ h _ _).trans ?_<;>kernel_rfl
theorem zjt(E:ET)(h:E AD=none)(a b:Value)(c:Hp):run PP orc E AD [a,b] c=zfz (run PP orc E) a b c:=by refine(zaC Proofs.Tryz.func61 ?_ ?_ h _ _).trans ?_<;>kernel_rfl
theorem zg8(E:ET)(h:E A0=none)(a b c:Value)(d:Hp):run PP orc E A0 [a,b,c] d=zdT (run PP orc E) a b c d:=by refine(zaC Proofs.Tryz.func62 ?_ ?_ h _ _).trans ?_<;>kernel_rfl
theorem ziM(E:ET)(h:E Ck=none)(a b c d:Value)(e:Hp):run PP orc E Ck [a,b,c,d] e=zff (run PP orc E) a b c d e:=by refine(zaC Proofs.Tryz.func65 ?_ ?_ h _ _).trans ?_<;>kernel_rfl
theorem zhd(E:ET)(h:E Cl=none)(a b c d:Value)(e:Hp):run PP orc E Cl [a,b,c,d] e=zdY (run PP orc E) a b c d e:=by refine(zaC Proofs.Tryz.func66 ?_ ?_ h _ _).trans ?_<;>kernel_rfl
theorem zjK(E:ET)(h:E Cm=none)(a b c:Value)(d:Hp):run PP orc E Cm [a,b,c] d=zfR (run PP orc E) a b c d:=by refine(zaC Proofs.Tryz.func68 ?_ ?_ h _ _).trans ?_<;>kernel_rfl
theorem ziN(E:ET)(h:E Cj=none)(a b c d:Value)(e:Hp):run PP orc E Cj [a,b,c,d] e=zfg (run PP orc E) a b c d e:=by refine(zaC Proofs.Tryz.func69 ?_ ?_ h _ _).trans ?_<;>kernel_rfl
theorem zjJ(E:ET)(h:E AL=none)(a b c:Value)(d:Hp):run PP orc E AL [a,b,c] d=zfQ (run PP orc E) a b c d:=by refine(zaC Proofs.Tryz.func70 ?_ ?_ h _ _).trans ?_<;>kernel_rfl
theorem ziC(E:ET)(h:E Bj=none)(a b c d:Value)(e:Hp):run PP orc E Bj [a,b,c,d] e=ze5 (run PP orc E) a b c d e:=by refine(zaC Proofs.Tryz.func71 ?_ ?_ h _ _).trans ?_<;>kernel_rfl
theorem zg6(E:ET)(h:E BP=none)(a b:Value)(c:Hp):run PP orc E BP [a,b] c=zdQ (run PP orc E) a b c:=by refine(zaC Proofs.Tryz.func72 ?_ ?_ h _ _).trans ?_<;>kernel_rfl
theorem zhL(E:ET)(h:E Aj=none)(a b:Value)(c:Hp):run PP orc E Aj [a,b] c=zet (run PP orc E) a b c:=by refine(zaC Proofs.Tryz.func73 ?_ ?_ h _ _).trans ?_<;>kernel_rfl
theorem ziz(E:ET)(h:E BR=none)(a b c:Value)(d:Hp):run PP orc E BR [a,b,c] d=ze2 (run PP orc E) a b c d:=by refine(zaC Proofs.Tryz.func74 ?_ ?_ h _ _).trans ?_<;>kernel_rfl
theorem zju(E:ET)(h:E BQ=none)(a b c:Value)(d:Hp):run PP orc E BQ [a,b,c] d=zfA (run PP orc E) a b c d:=by refine(zaC Proofs.Tryz.func75 ?_ ?_ h _ _).trans ?_<;>kernel_rfl
theorem ziA(E:ET)(h:E BN=none)(a b c d:Value)(e:Hp):run PP orc E BN [a,b,c,d] e=ze3 (run PP orc E) a b c d e:=by refine(zaC Proofs.Tryz.func76 ?_ ?_ h _ _).trans ?_<;>kernel_rfl
theorem zg7(E:ET)(h:E BO=none)(a b c d:Value)(e:Hp):run PP orc E BO [a,b,c,d] e=zdR (run PP orc E) a b c d e:=by refine(zaC Proofs.Tryz.func77 ?_ ?_ h _ _).trans ?_<;>kernel_rfl
theorem ziB(E:ET)(h:E BM=none)(a b c d:Value)(e:Hp):run PP orc E BM [a,b,c,d] e=ze4 (run PP orc E) a b c d e:=by refine(zaC Proofs.Tryz.func78 ?_ ?_ h _ _).trans ?_<;>kernel_rfl
theorem zgC(E:ET)(h:E Az=none)(a b:Value)(c:Hp):run PP orc E Az [a,b] c=zdC (run PP orc E) a b c:=by refine(zaC Proofs.Tryz.func88 ?_ ?_ h _ _).trans ?_<;>kernel_rfl
theorem zc0(E:ET)(h:E AQ=none)(a b:Value)(c:Hp):run PP orc E AQ [a,b] c=zbS (run PP orc E) a b c:=by refine(zaC Proofs.Tryz.func89 ?_ ?_ h _ _).trans ?_<;>kernel_rfl
theorem zkT(E:ET)(h:E BH=none)(a:Value)(b:Hp):run PP orc E BH [a] b=zgn (run PP orc E) a b:=by refine(zaC Proofs.Tryz.func90 ?_ ?_ h _ _).trans ?_<;>kernel_rfl
theorem znc(E:ET)(h:E BS=none)(a:Hp):run PP orc E BS [] a=zii (run PP orc E)  a:=by refine(zaC Proofs.Tryz.func91 ?_ ?_ h _ _).trans ?_<;>kernel_rfl
theorem zoB(E:ET)(h:E Bq=none)(a:Value)(b:Hp):run PP orc E Bq [a] b=zj9 (run PP orc E) a b:=by refine(zaC Proofs.Tryz.func92 ?_ ?_ h _ _).trans ?_<;>kernel_rfl
theorem znb(E:ET)(h:E AE=none)(a:Value)(b:Hp):run PP orc E AE [a] b=zih (run PP orc E) a b:=by refine(zaC Proofs.Tryz.func93 ?_ ?_ h _ _).trans ?_<;>kernel_rfl
theorem zdv(E:ET)(h:E AB=none)(a b:Value)(c:Hp):run PP orc E AB [a,b] c=zb6 (run PP orc E) a b c:=by refine(zaC Proofs.Tryz.func94 ?_ ?_ h _ _).trans ?_<;>kernel_rfl
theorem zhR(E:ET)(h:E Bz=none)(a b:Value)(c:Hp):run PP orc E Bz [a,b] c=zez (run PP orc E) a b c:=by refine(zaC Proofs.Tryz.func99 ?_ ?_ h _ _).trans ?_<;>kernel_rfl
theorem zjx(E:ET)(h:E BE=none)(a b:Value)(c:Hp):run PP orc E BE [a,b] c=zfD (run PP orc E) a b c:=by refine(zaC Proofs.Tryz.func106 ?_ ?_ h _ _).trans ?_<;>kernel_rfl
theorem zjF(E:ET)(h:E AO=none)(a b:Value)(c:Hp):run PP orc E AO [a,b] c=zfL (run PP orc E) a b c:=by refine(zaC Proofs.Tryz.func107 ?_ ?_ h _ _).trans ?_<;>kernel_rfl
theorem zjv(E:ET)(h:E BG=none)(a b:Value)(c:Hp):run PP orc E BG [a,b] c=zfB (run PP orc E) a b c:=by refine(zaC Proofs.Tryz.func108 ?_ ?_ h _ _).trans ?_<;>kernel_rfl
theorem zkU(E:ET)(h:E BD=none)(a b:Value)(c:Hp):run PP orc E BD [a,b] c=zgo (run PP orc E) a b c:=by refine(zaC Proofs.Tryz.func109 ?_ ?_ h _ _).trans ?_<;>kernel_rfl
theorem ziE(E:ET)(h:E A6=none)(a b:Value)(c:Hp):run PP orc E A6 [a,b] c=ze7 (run PP orc E) a b c:=by refine(zaC Proofs.Tryz.func110 ?_ ?_ h _ _).trans ?_<;>kernel_rfl
theorem zjz(E:ET)(h:E A5=none)(a b:Value)(c:Hp):run PP orc E A5 [a,b] c=zfF (run PP orc E) a b c:=by refine(zaC Proofs.Tryz.func111 ?_ ?_ h _ _).trans ?_<;>kernel_rfl
theorem zjD(E:ET)(h:E BB=none)(a b:Value)(c:Hp):run PP orc E BB [a,b] c=zfJ (run PP orc E) a b c:=by refine(zaC Proofs.Tryz.func112 ?_ ?_ h _ _).trans ?_<;>kernel_rfl
theorem ziD(E:ET)(h:E A8=none)(a b:Value)(c:Hp):run PP orc E A8 [a,b] c=ze6 (run PP orc E) a b c:=by refine(zaC Proofs.Tryz.func113 ?_ ?_ h _ _).trans ?_<;>kernel_rfl
theorem zhN(E:ET)(h:E A7=none)(a b:Value)(c:Hp):run PP orc E A7 [a,b] c=zev (run PP orc E) a b c:=by refine(zaC Proofs.Tryz.func114 ?_ ?_ h _ _).trans ?_<;>kernel_rfl
theorem zjA(E:ET)(h:E AX=none)(a b:Value)(c:Hp):run PP orc E AX [a,b] c=zfG (run PP orc E) a b c:=by refine(zaC Proofs.Tryz.func115 ?_ ?_ h _ _).trans ?_<;>kernel_rfl
theorem zhh(E:ET)(h:E BV=none)(a:Value)(b:Hp):run PP orc E BV [a] b=zd1 (run PP orc E) a b:=by refine(zaC Proofs.Tryz.func117 ?_ ?_ h _ _).trans ?_<;>kernel_rfl
theorem zni(E:ET)(h:E Bo=none)(a:Value)(b:Hp):run PP orc E Bo [a] b=zin (run PP orc E) a b:=by refine(zaC Proofs.Tryz.func119 ?_ ?_ h _ _).trans ?_<;>kernel_rfl
theorem zoA(E:ET)(h:E Ah=none)(a b:Value)(c:Hp):run PP orc E Ah [a,b] c=zj8 (run PP orc E) a b c:=by refine(zaC Proofs.Tryz.func120 ?_ ?_ h _ _).trans ?_<;>kernel_rfl
theorem zkS(E:ET)(h:E Ar=none)(a b:Value)(c:Hp):run PP orc E Ar [a,b] c=zgm (run PP orc E) a b c:=by refine(zaC Proofs.Tryz.func121 ?_ ?_ h _ _).trans ?_<;>kernel_rfl
theorem zna(E:ET)(h:E Cf=none)(a:Value)(b:Hp):run PP orc E Cf [a] b=zig (run PP orc E) a b:=by refine(zaC Proofs.Tryz.func122 ?_ ?_ h _ _).trans ?_<;>kernel_rfl
theorem zgB(E:ET)(h:E Cd=none)(a b:Value)(c:Hp):run PP orc E Cd [a,b] c=zdB (run PP orc E) a b c:=by refine(zaC Proofs.Tryz.func123 ?_ ?_ h _ _).trans ?_<;>kernel_rfl
theorem zhJ(E:ET)(h:E Ce=none)(a b:Value)(c:Hp):run PP orc E Ce [a,b] c=zer (run PP orc E) a b c:=by refine(zaC Proofs.Tryz.func124 ?_ ?_ h _ _).trans ?_<;>kernel_rfl
theorem zoC(E:ET)(h:E BU=none)(a:Value)(b:Hp):run PP orc E BU [a] b=zka (run PP orc E) a b:=by refine(zaC Proofs.Tryz.func125 ?_ ?_ h _ _).trans ?_<;>kernel_rfl
theorem zqA(E:ET)(h:E Bn=none)(a b c d:Value)(e:Hp):run PP orc E Bn [a,b,c,d] e=zlv (run PP orc E) a b c d e:=by refine(zaC Proofs.Tryz.func127 ?_ ?_ h _ _).trans ?_<;>kernel_rfl
theorem r_bits_Un(E:ET)(h:E Br=none)(a b c:Value)(d:Hp):run PP orc E Br [a,b,c] d=znD (run PP orc E) a b c d:=by refine(zaC Proofs.Tryz.func128 ?_ ?_ h _ _).trans ?_<;>kernel_rfl
theorem zqC(E:ET)(h:E AH=none)(a b c d:Value)(e:Hp):run PP orc E AH [a,b,c,d] e=zlx (run PP orc E) a b c d e:=by refine(zaC Proofs.Tryz.func129 ?_ ?_ h _ _).trans ?_<;>kernel_rfl
theorem zqB(E:ET)(h:E Bm=none)(a b c d:Value)(e:Hp):run PP orc E Bm [a,b,c,d] e=zlw (run PP orc E) a b c d e:=by refine(zaC Proofs.Tryz.func130 ?_ ?_ h _ _).trans ?_<;>kernel_rfl
theorem zng(E:ET)(h:E Bp=none)(a b c d:Value)(e:Hp):run PP orc E Bp [a,b,c,d] e=zil (run PP orc E) a b c d e:=by refine(zaC Proofs.Tryz.func131 ?_ ?_ h _ _).trans ?_<;>kernel_rfl
theorem zqz(E:ET)(h:E A3=none)(a b c d:Value)(e:Hp):run PP orc E A3 [a,b,c,d] e=zlu (run PP orc E) a b c d e:=by refine(zaC Proofs.Tryz.func132 ?_ ?_ h _ _).trans ?_<;>kernel_rfl
theorem zeK(E:ET)(h:E Ci=none)(a:Value)(b:Hp):run PP orc E Ci [a] b=zcp (run PP orc E) a b:=by refine(zaC Proofs.Tryz.func159 ?_ ?_ h _ _).trans ?_<;>kernel_rfl
theorem zc8(E:ET)(h:E Bi=none)(a b:Value)(c:Hp):run PP orc E Bi [a,b] c=zca (run PP orc E) a b c:=by refine(zaC Proofs.Tryz.func161 ?_ ?_ h _ _).trans ?_<;>kernel_rfl
theorem zkV(E:ET)(h:E Ak=none)(a b:Value)(c:Hp):run PP orc E Ak [a,b] c=zgp (run PP orc E) a b c:=by refine(zaC Proofs.Tryz.func164 ?_ ?_ h _ _).trans ?_<;>kernel_rfl
theorem zqx(E:ET)(h:E Ac=none)(a:Value)(b:Hp):run PP orc E Ac [a] b=zqP (run PP orc E) a b:=by refine(zaC Proofs.Tryz.func165 ?_ ?_ h _ _).trans ?_<;>kernel_rfl
theorem zoz(E:ET)(h:E Ad=none)(a:Hp):run PP orc E Ad [] a=zoU (run PP orc E)  a:=by refine(zaC Proofs.Tryz.func166 ?_ ?_ h _ _).trans ?_<;>kernel_rfl
theorem zga(E:ET)(h:E AV=none)(a b c d:Value)(e:Hp):run PP orc E AV [a,b,c,d] e=zda (run PP orc E) a b c d e:=by refine(zaC Proofs.Tryz.func167 ?_ ?_ h _ _).trans ?_<;>kernel_rfl
theorem zjI(E:ET)(h:E Ap=none)(a b c:Value)(d:Hp):run PP orc E Ap [a,b,c] d=zfP (run PP orc E) a b c d:=by refine(zaC Proofs.Tryz.func168 ?_ ?_ h _ _).trans ?_<;>kernel_rfl
theorem zf9(E:ET)(h:E AJ=none)(a b:Value)(c:Hp):run PP orc E AJ [a,b] c=zc9 (run PP orc E) a b c:=by refine(zaC Proofs.Tryz.func169 ?_ ?_ h _ _).trans ?_<;>kernel_rfl
theorem zgD(E:ET)(h:E AK=none)(a b:Value)(c:Hp):run PP orc E AK [a,b] c=zdD (run PP orc E) a b c:=by refine(zaC Proofs.Tryz.func170 ?_ ?_ h _ _).trans ?_<;>kernel_rfl
theorem ziH(E:ET)(h:E Ao=none)(a b:Value)(c:Hp):run PP orc E Ao [a,b] c=zfa (run PP orc E) a b c:=by refine(zaC Proofs.Tryz.func171 ?_ ?_ h _ _).trans ?_<;>kernel_rfl
theorem ziK(E:ET)(h:E Ag=none)(a b c d:Value)(e:Hp):run PP orc E Ag [a,b,c,d] e=zfd (run PP orc E) a b c d e:=by refine(zaC Proofs.Tryz.func172 ?_ ?_ h _ _).trans ?_<;>kernel_rfl
theorem zha(E:ET)(h:E AU=none)(a b:Value)(c:Hp):run PP orc E AU [a,b] c=zdV (run PP orc E) a b c:=by refine(zaC Proofs.Tryz.func173 ?_ ?_ h _ _).trans ?_<;>kernel_rfl
theorem zkW(E:ET)(h:E At=none)(a b:Value)(c:Hp):run PP orc E At [a,b] c=zgq (run PP orc E) a b c:=by refine(zaC Proofs.Tryz.func174 ?_ ?_ h _ _).trans ?_<;>kernel_rfl
theorem zjB(E:ET)(h:E BC=none)(a b c:Value)(d:Hp):run PP orc E BC [a,b,c] d=zfH (run PP orc E) a b c d:=by refine(zaC Proofs.Tryz.func175 ?_ ?_ h _ _).trans ?_<;>kernel_rfl
theorem zkX(E:ET)(h:E Ai=none)(a b c:Value)(d:Hp):run PP orc E Ai [a,b,c] d=zgr (run PP orc E) a b c d:=by refine(zaC Proofs.Tryz.func176 ?_ ?_ h _ _).trans ?_<;>kernel_rfl
theorem zoy(E:ET)(h:E AP=none)(a:Value)(b:Hp):run PP orc E AP [a] b=zj7 (run PP orc E) a b:=by refine(zaC Proofs.Tryz.func177 ?_ ?_ h _ _).trans ?_<;>kernel_rfl
theorem ziI(E:ET)(h:E AA=none)(a b c d:Value)(e:Hp):run PP orc E AA [a,b,c,d] e=zfb (run PP orc E) a b c d e:=by refine(zaC Proofs.Tryz.func178 ?_ ?_ h _ _).trans ?_<;>kernel_rfl
theorem ziG(E:ET)(h:E B8=none)(a b c d:Value)(e:Hp):run PP orc E B8 [a,b,c,d] e=ze9 (run PP orc E) a b c d e:=by refine(zaC Proofs.Tryz.func179 ?_ ?_ h _ _).trans ?_<;>kernel_rfl
theorem ziF(E:ET)(h:E B9=none)(a b c d:Value)(e:Hp):run PP orc E B9 [a,b,c,d] e=ze8 (run PP orc E) a b c d e:=by refine(zaC Proofs.Tryz.func180 ?_ ?_ h _ _).trans ?_<;>kernel_rfl
theorem zjG(E:ET)(h:E B7=none)(a b c d:Value)(e:Hp):run PP orc E B7 [a,b,c,d] e=zfM (run PP orc E) a b c d e:=by refine(zaC Proofs.Tryz.func181 ?_ ?_ h _ _).trans ?_<;>kernel_rfl
theorem zjw(E:ET)(h:E Bh=none)(a b c d e f:Value)(g:Hp):run PP orc E Bh [a,b,c,d,e,f] g=zfC (run PP orc E) a b c d e f g:=by refine(zaC Proofs.Tryz.func182 ?_ ?_ h _ _).trans ?_<;>kernel_rfl
theorem zjy(E:ET)(h:E Bg=none)(a b c d:Value)(e:Hp):run PP orc E Bg [a,b,c,d] e=zfE (run PP orc E) a b c d e:=by refine(zaC Proofs.Tryz.func183 ?_ ?_ h _ _).trans ?_<;>kernel_rfl
theorem zjE(E:ET)(h:E Bf=none)(a b c d:Value)(e:Hp):run PP orc E Bf [a,b,c,d] e=zfK (run PP orc E) a b c d e:=by refine(zaC Proofs.Tryz.func184 ?_ ?_ h _ _).trans ?_<;>kernel_rfl
theorem zhO(E:ET)(h:E AY=none)(a b c d e f:Value)(g:Hp):run PP orc E AY [a,b,c,d,e,f] g=zew (run PP orc E) a b c d e f g:=by refine(zaC Proofs.Tryz.func185 ?_ ?_ h _ _).trans ?_<;>kernel_rfl
theorem zg9(E:ET)(h:E AN=none)(a b c d:Value)(e:Hp):run PP orc E AN [a,b,c,d] e=zdU (run PP orc E) a b c d e:=by refine(zaC Proofs.Tryz.func186 ?_ ?_ h _ _).trans ?_<;>kernel_rfl
theorem ziJ(E:ET)(h:E AT=none)(a b c d:Value)(e:Hp):run PP orc E AT [a,b,c,d] e=zfc (run PP orc E) a b c d e:=by refine(zaC Proofs.Tryz.func187 ?_ ?_ h _ _).trans ?_<;>kernel_rfl
theorem znh(E:ET)(h:E Av=none)(a:Value)(b:Hp):run PP orc E Av [a] b=zim (run PP orc E) a b:=by refine(zaC Proofs.Tryz.func188 ?_ ?_ h _ _).trans ?_<;>kernel_rfl
theorem zmc(E:ET)(h:E A4=none)(a b:Value)(c:Hp):run PP orc E A4 [a,b] c=zhs (run PP orc E) a b c:=by refine(zaC Proofs.Tryz.func189 ?_ ?_ h _ _).trans ?_<;>kernel_rfl
theorem zmb(E:ET)(h:E Bu=none)(a:Value)(b:Hp):run PP orc E Bu [a] b=zhr (run PP orc E) a b:=by refine(zaC Proofs.Tryz.func190 ?_ ?_ h _ _).trans ?_<;>kernel_rfl
theorem znf(E:ET)(h:E Bs=none)(a b c d:Value)(e:Hp):run PP orc E Bs [a,b,c,d] e=zik (run PP orc E) a b c d e:=by refine(zaC Proofs.Tryz.func191 ?_ ?_ h _ _).trans ?_<;>kernel_rfl
theorem zbR(E:ET)(h:E Bv=none)(a b:Value)(c:Hp):run PP orc E Bv [a,b] c=zbu (run PP orc E) a b c:=by refine(zaC Proofs.Tryz.func233 ?_ ?_ h _ _).trans ?_<;>kernel_rfl
theorem zjH(E:ET)(h:E AW=none)(a b c:Value)(d:Hp):run PP orc E AW [a,b,c] d=zfO (run PP orc E) a b c d:=by refine(zaC Proofs.Tryz.func234 ?_ ?_ h _ _).trans ?_<;>kernel_rfl
theorem zhP(E:ET)(h:E Aw=none)(a b c:Value)(d:Hp):run PP orc E Aw [a,b,c] d=zex (run PP orc E) a b c d:=by refine(zaC Proofs.Tryz.func235 ?_ ?_ h _ _).trans ?_<;>kernel_rfl
theorem zhQ(E:ET)(h:E Ay=none)(a b c:Value)(d:Hp):run PP orc E Ay [a,b,c] d=zey (run PP orc E) a b c d:=by refine(zaC Proofs.Tryz.func236 ?_ ?_ h _ _).trans ?_<;>kernel_rfl
theorem zjC(E:ET)(h:E Ca=none)(a b c:Value)(d:Hp):run PP orc E Ca [a,b,c] d=zfI (run PP orc E) a b c d:=by refine(zaC Proofs.Tryz.func237 ?_ ?_ h _ _).trans ?_<;>kernel_rfl
theorem zne(E:ET)(h:E Cb=none)(a:Value)(b:Hp):run PP orc E Cb [a] b=zij (run PP orc E) a b:=by refine(zaC Proofs.Tryz.func238 ?_ ?_ h _ _).trans ?_<;>kernel_rfl
theorem zek(E:ET)(h:E B5=none)(a:Value)(b:Hp):run PP orc E B5 [a] b=zeB (run PP orc E) a b:=by refine(zaC Proofs.Tryz.func251 ?_ ?_ h _ _).trans ?_<;>kernel_rfl
theorem zdf(E:ET)(h:E B4=none)(a:Value)(b:Hp):run PP orc E B4 [a] b=zbY (run PP orc E) a b:=by refine(zaC Proofs.Tryz.func252 ?_ ?_ h _ _).trans ?_<;>kernel_rfl
theorem zcF(E:ET)(h:E Bb=none)(a b:Value)(c:Hp):run PP orc E Bb [a,b] c=zbI (run PP orc E) a b c:=by refine(zaC Proofs.Tryz.func253 ?_ ?_ h _ _).trans ?_<;>kernel_rfl
theorem zc1(E:ET)(h:E Bw=none)(a b c d e:Value)(f:Hp):run PP orc E Bw [a,b,c,d,e] f=zbT (run PP orc E) a b c d e f:=by refine(zaC Proofs.Tryz.func254 ?_ ?_ h _ _).trans ?_<;>kernel_rfl
theorem zcw(E:ET)(h:E Ba=none)(a:Value)(b:Hp):run PP orc E Ba [a] b=zbW (run PP orc E) a b:=by refine(zaC Proofs.Tryz.func256 ?_ ?_ h _ _).trans ?_<;>kernel_rfl
theorem zdg(E:ET)(h:E B3=none)(a:Value)(b:Hp):run PP orc E B3 [a] b=zbZ (run PP orc E) a b:=by refine(zaC Proofs.Tryz.func258 ?_ ?_ h _ _).trans ?_<;>kernel_rfl
theorem zdh(E:ET)(h:E B1=none)(a:Value)(b:Hp):run PP orc E B1 [a] b=zdi (run PP orc E) a b:=by refine(zaC Proofs.Tryz.func259 ?_ ?_ h _ _).trans ?_<;>kernel_rfl
theorem zcE(E:ET)(h:E B2=none)(a:Value)(b:Hp):run PP orc E B2 [a] b=zcI (run PP orc E) a b:=by refine(zaC Proofs.Tryz.func260 ?_ ?_ h _ _).trans ?_<;>kernel_rfl
theorem zgc(E:ET)(h:E BW=none)(a:Value)(b:Hp):run PP orc E BW [a] b=zdc (run PP orc E) a b:=by refine(zaC Proofs.Tryz.func261 ?_ ?_ h _ _).trans ?_<;>kernel_rfl
end Go.AM
namespace Go.AM
open List Go
def ccB(i:Nat)(H:Hp):Option AObj→Option (Value×Hp)
 |some (.cells [.pointer none,v] true)=>if H.ty i=some Ax then some (.tuple #[],H.set i (some (.cells [.pointer (some ⟨i,0,none⟩),v] true))) else none
 |some (.cells [.pointer (some ⟨j,0,none⟩),v] true)=>if j=i∧H.ty i=some Ax then some (.tuple #[],H) else none
 |_=>none
def extCC(l:List Value)(H:Hp):Option (Value×Hp):=
 match l with
 |[.pointer (some ⟨i,0,none⟩)]=>ccB i H (H.get i)
 |_=>none
def zkx:List Value→Option (List UInt8)
 |[]=>some []
 |.int .u8 (.ofNat n)::r=>if n<256 then (match zkx r with
  |some l=>some (UInt8.ofNat n::l)
  |none=>none) else none
 |_=>none
def strB2(i j n:Nat)(H:Hp):Option AObj→Option (Value×Hp)
 |some (.cells cs true)=>if H.ty i=some Ax∧H.ty j=some Aq∧0<n∧n≤cs.length∧n≤2^60 then (match zkx (cs.take n) with
  |some l=>some (.string ⟨l.toArray⟩,H.set j (some (.cells cs false)))
  |none=>none) else none
 |_=>none
def strB(i:Nat)(H:Hp):Option AObj→Option (Value×Hp)
 |some (.cells [_,.slice none 0 0] _)=>if H.ty i=some Ax then some (.string ⟨#[]⟩,H) else none
 |some (.cells [_,.slice (some ⟨j,0,some 1⟩) n c] _)=>strB2 i j n H (H.get j)
 |_=>none
def zqb(l:List Value)(H:Hp):Option (Value×Hp):=
 match l with
 |[.pointer (some ⟨i,0,none⟩)]=>strB i H (H.get i)
 |_=>none
theorem ziy:∀(cs:List Value) (l:List UInt8),zkx cs=some l→cs=l.map fun b=>Value.int .u8 (b.toNat:Int)
 |[],l,h=>by cases h;rfl
 |v::r,l,h=>by
  unfold zkx at h;split at h
  ·rename_i q;cases q
  ·rename_i n r' q;cases q;split at h
   ·rename_i hn;split at h
    ·rename_i l' hl;cases h;rw[map_cons,←ziy _ _ hl];have:(UInt8.ofNat n).toNat=n:=by simp[UInt8.toNat_ofNat];omega
     rw[this];rfl
    ·cases h
   ·cases h
  ·cases h
theorem LRel.single{β:Bt}{a:Value}{l:List Value}(h:LRel β [a] l):∃a',l=[a']∧VRel β a a':=by
 obtain⟨hl,hv⟩:=h
 match l,hl with
 |[x],_=>exact⟨x,rfl,hv 0 _ _ rfl rfl⟩
theorem zpz{w:World}{b:Nat}{arr:Array Value}{e:TypeId}{fz:Nat×Nat}(h:w.heap[b]?=some (.cells arr e fz)):w.shape? b=some (e,arr.size):=by unfold World.shape?;rw[h]
theorem znK(w:World)(b n:Nat):(w.freeze ⟨b,0,none⟩ n).heap.size=w.heap.size∧(∀k,k≠b→(w.freeze ⟨b,0,none⟩ n).heap[k]?=w.heap[k]?) ∧
  (∀arr e fz,w.heap[b]?=some (.cells arr e fz)→∃fz',(w.freeze ⟨b,0,none⟩ n).heap[b]?=some (.cells arr e fz'))∧(w.freeze ⟨b,0,none⟩ n).os=w.os∧(w.freeze ⟨b,0,none⟩ n).tape=w.tape∧(w.freeze ⟨b,0,none⟩ n).output=w.output:=by
 unfold World.freeze;split
 ·exact⟨rfl,fun _ _=>rfl,fun arr e fz h=>⟨fz,h⟩,rfl,rfl,rfl⟩
 ·refine⟨by simp,fun k hk=>?_,fun arr e fz h=>?_,rfl,rfl,rfl⟩
  ·simp only[Array.getElem?_modify];rw[if_neg (by omega)]
  ·simp only[Array.getElem?_modify,if_true,h,Option.map_some];exact⟨_,rfl⟩
theorem extCC_ok{args:List Value}{H:Hp}{v:Value}{H':Hp}(he:extCC args H=some (v,H')){args':List Value}{w:World}{β:Bt}(hl:LRel β args args')(hR:Rel PP w H β) :
  Calls PP BK args'.toArray w fun x w'=>∃v' β',x=.returned v'∧Rel PP w' H' β'∧Ext w.heap.size w H β w' H' β'∧VRel β' v v':=by
 have key:∀(i:Nat) (p u:Value),H.get i=some (.cells [p,u] true)→H.ty i=some Ax→∀x,β i=some x→x.s=0∧∃arr fz,w.heap[x.b]?=some (.cells arr Ax fz)∧arr.size=x.t∧2≤arr.size∧(∀j,j<x.t→¬(fz.1≤j∧j<fz.2)) ∧
   ∃p',w.cell? ⟨x.b,0,none⟩=some p'∧VRel β p p':=by
  intro i p u hg hty x hx;obtain⟨x',hx',h1,h2⟩:=hR.cells i _ true hg;rw[hx]at hx';cases hx';obtain⟨⟨arr,e,fz,g1,g2,g3⟩,g4⟩:=h2 rfl;obtain⟨x2,arr2,fz2,hx2,hs0,g5,g6⟩:=hR.tys i _ hty;rw[hx]at hx2;cases hx2;rw[g1]at g5;cases g5;obtain⟨p',a1,a2⟩:=h1 0 p rfl;rw[hs0]at a1 g4;have g4:0+2≤x.t:=g4;exact⟨hs0,arr,fz,g1,g2,by omega,g3,p',a1,a2⟩
 unfold extCC at he;split at he
 ·rename_i i;obtain⟨a',rfl,ha⟩:=hl.single;cases ha with
  |ptr _ _ x hx=>
  unfold ccB at he;split at he
  ·rename_i u hg;split at he
   ·rename_i hty;cases he;obtain⟨hs0,arr,fz,g1,g2,g3,g4,p',c0,r0⟩:=key i _ _ hg hty x hx;cases r0;have hput:=zjk w x.b 0 (.pointer (some ⟨x.b,0,none⟩)) arr _ fz g1 (by omega);have hfz:w.frozen? ⟨x.b,0,none⟩=false:=ziv g1 (g4 0 (by omega));have hcall:=cc_fresh x.b arr.size g3 w c0 (zpz g1) hfz;rw[hs0];refine hcall.mono fun e w' ⟨h1,h2⟩=>?_;subst h2;have hv:LRel β [Value.pointer (some ⟨i,0,none⟩)] [Value.pointer (some ⟨x.b,0,none⟩)]:=by have:=VRel.ptr (β:=β) i 0 x hx;rw[hs0]at this;exact LRel.cons this (LRel.nil _)
    obtain⟨k1,k2⟩:=hR.write hg hx (off:=0) (vs:=[Value.pointer (some ⟨i,0,none⟩)]) (vs':=[Value.pointer (some ⟨x.b,0,none⟩)]) (by simp) hv (by rw[hs0];exact hput);exact⟨_,β,h1,k1,k2,.tuple [] [] rfl (fun k v v' h=>by cases h)⟩
   ·cases he
  ·rename_i j u hg;split at he
   ·rename_i hj;cases he;obtain⟨rfl,hty⟩:=hj;obtain⟨hs0,arr,fz,g1,g2,g3,g4,p',c0,r0⟩:=key _ _ _ hg hty x hx;cases r0 with
    |ptr _ _ y hy=>
    rw[hx]at hy;cases hy;rw[hs0]at c0 ⊢;refine(cc_used x.b w c0).mono fun e w' ⟨h1,h2⟩=>?_;subst h2;exact⟨_,β,h1,hR,Ext.refl _ _ _ _,.tuple [] [] rfl (fun k v v' h=>by cases h)⟩
   ·cases he
  ·cases he
 ·cases he
theorem extStr_ok{args:List Value}{H:Hp}{v:Value}{H':Hp}(he:zqb args H=some (v,H')){args':List Value}{w:World}{β:Bt}(hl:LRel β args args')(hR:Rel PP w H β) :
  Calls PP BJ args'.toArray w fun x w'=>∃v' β',x=.returned v'∧Rel PP w' H' β'∧Ext w.heap.size w H β w' H' β'∧VRel β' v v':=by
 have zero:∀i x,H.ty i=some Ax→β i=some x→x.s=0:=fun i x hty hx=>by obtain⟨x2,arr2,fz2,hx2,hs0,_⟩:=hR.tys i _ hty;rw[hx]at hx2;cases hx2;exact hs0
 unfold zqb at he;split at he
 ·rename_i i;obtain⟨a',rfl,ha⟩:=hl.single;cases ha with
  |ptr _ _ x hx=>
  unfold strB at he;split at he
  ·rename_i p own hg;split at he
   ·rename_i hty;cases he;have hs0:=zero i x hty hx;obtain⟨x',hx',h1,_⟩:=hR.cells i _ _ hg;rw[hx]at hx';cases hx';obtain⟨v',c1,r1⟩:=h1 1 _ rfl;cases r1;rw[hs0]at c1 ⊢;refine(str_nil x.b w c1).mono fun e w' ⟨g1,g2,g3,g4,g5⟩=>?_;have hw:∀b:Nat,w'.heap[b]?=w.heap[b]?:=fun b=>by rw[g2]
    exact⟨_,β,g1,hR.frame (by rw[g2];exact Nat.le_refl _) (fun _ _ _=>hw _),⟨g3,g4,g5,by rw[g2];exact Nat.le_refl _,Bt.le_refl _,Nat.le_refl _,fun b _ _=>hw b,fun b q=>.inr q,fun i x hx hn=>by rw[hn]at hx;cases hx⟩,.string _⟩
   ·cases he
  ·rename_i p j n c own hg;unfold strB2 at he;split at he
   ·rename_i cs hgj;split at he
    ·rename_i hc;obtain⟨hty,htj,hn0,hn,hn60⟩:=hc;split at he
     ·rename_i l hb;cases he;have hs0:=zero i x hty hx;obtain⟨x',hx',h1,_⟩:=hR.cells i _ _ hg;rw[hx]at hx';cases hx';obtain⟨v',c1,r1⟩:=h1 1 _ rfl;cases r1 with
      |slice _ _ _ _ _ y o' c' hy hnc hcc ht hoo=>
      obtain⟨y2,arr,fz,hy2,ys0,k1,k2⟩:=hR.tys j _ htj;rw[hy]at hy2;cases hy2;have ho':o'=0:=by have:=hoo (by omega);omega
      subst ho';have hcl:=ziy _ _ hb;have hlen:l.length=n:=by have:=congrArg List.length hcl;rw[length_take,length_map]at this;omega
      obtain⟨y3,hy3,m1,m2⟩:=hR.cells j _ _ hgj;rw[hy]at hy3;cases hy3;obtain⟨_,m3⟩:=m2 rfl;have hcell:∀q b,l[q]?=some b→w.cell? ((⟨y.b,0,none⟩:Addr).add q)=some (.int .u8 b.toNat):=fun q b hq=>by
       have hq':cs[q]?=some (.int .u8 (b.toNat:Int)):=by
        have e1:(cs.take n)[q]?=some (Value.int .u8 (b.toNat:Int)):=by rw[hcl,List.getElem?_map,hq];rfl
        rw[List.getElem?_take]at e1;split at e1
        ·exact e1
        ·cases e1
       obtain⟨v2,d1,d2⟩:=m1 q _ hq';cases d2;have ea:(⟨y.b,0,none⟩:Addr).add q=⟨y.b,y.s+q,none⟩:=by rw[ys0];unfold Addr.add;split<;>simp_all
       rw[ea];exact d1
      rw[hs0]at c1 ⊢;rw[←hlen]at c1;have hne:l≠[]:=fun q=>by rw[q]at hlen;simp at hlen;omega
      refine(str_row x.b y.b c' arr.size l hne (by omega) (by omega) (by omega) w c1 (zpz k1) hcell).mono fun e w' ⟨g1,w0,g2,g3,g4,g5,g6⟩=>?_;subst g6;obtain⟨f1,f2,f3,f4,f5,f6⟩:=znK w0 y.b l.length;obtain⟨q1,q2⟩:=hR.freeze (w':=w0.freeze ⟨y.b,0,none⟩ l.length) hgj hy (f4.trans g3) (f5.trans g4) (f6.trans g5) (by rw[f1,g2]) (fun k hk=>by rw[f2 k hk,g2]) (fun arr e fz hh=>f3 arr e fz (by rw[g2];exact hh));exact⟨_,β,g1,q1,q2,.string _⟩
     ·cases he
    ·cases he
   ·cases he
  ·cases he
 ·cases he
end Go.AM
namespace Go.AM
open Go Go.AM
noncomputable def zaU(R:zai)(c:Value)(d:Value)(a:List Value)(b:Hp):Option Outc:=pLen .sl c b fun e=>pBin PP .lss Aa (a.getD 0 undef) e fun f=>zae f fun g=>br g (pIdx 16 c (a.getD 0 undef) fun h=>zaH 16 true b h fun i=>zab R BX [d,i] b fun l j=>pBin PP .add Aa (a.getD 0 undef) (.int .i64 1) fun k=>some (.next,[k],j)) (some (.exit 0,[(a.getD 0 undef)],b))
noncomputable def zaT(R:zai)(e:Value)(d:Value)(a:List Value)(c:Hp):Option Outc:=pLen .sl d c fun k=>pBin PP .lss Aa (a.getD 0 undef) k fun l=>zae l fun m=>br m (zab R AI [e] c fun n f=>pIdx 1 d (a.getD 0 undef) fun g=>zaH 1 false f g fun h=>chk (Hp.rdP c g 1 false=some h) (zab R AC [n,h] f fun i o=>zaa i 0 fun p=>zaa i 1 fun q=>zaE 7 [.int .i64 0,.int .i64 0,.int .i64 0,.int .i64 0,.int .i64 0,.int .u64 0,.string ⟨#[]⟩] 0 p fun r=>zaf 7 true r 0 fun s=>zab R Bd [e,s] o fun j b=>zaa j 0 fun t=>zaa j 1 fun u=>pBin PP .neq As q (.int .i64 0) fun v=>zae v fun w=>br w (some (.ret,[(.bool false)],b)) (pBin PP .neq As u (.int .i64 0) fun x=>zae x fun y=>br y (some (.ret,[(.bool false)],b)) (pIdx 1 d (a.getD 0 undef) fun z=>zaH 1 false b z fun A=>pBin PP .neq Aa t A fun B=>zae B fun C=>br C (some (.ret,[(.bool false)],b)) (pBin PP .add Aa (a.getD 0 undef) (.int .i64 1) fun D=>some (.next,[D],b)))))) (some (.exit 2,[(a.getD 0 undef)],c))
theorem zeO(R:zai)(e j k:Value)(l:Hp):zcq R e j k l =
zab R BZ [] l fun y m=>pUn .not y fun z=>zae z fun A=>br A (some ((.bool false),m)) (zab R AZ [e] m fun n o=>zaa n 0 fun f=>zaa n 1 fun bm=>pBin PP .eql Bl f (.pointer none) fun B=>zae B fun C=>br C (pBin PP .lss Aa e (.int .i64 0) fun D=>some (D,o)) (zaG (zbi (zaU R j f) [(.int .i64 0)] o) fun E F p=>zaM E none (fun G=>zaI G 0 (zaP 1 [.int .i64 0] 0 [] p fun H I=>zbb 1 8 H k I fun J K=>zab R Be [f,J] K fun g b=>zaa g 0 fun a=>zaa g 1 fun c=>zaa g 2 fun L=>pBin PP .neq As L (.int .i64 0) fun M=>zae M fun N=>br N (pBin PP .eql AF a (.pointer none) fun O=>zae O fun P=>br P (pLen .sl c b fun Q=>pBin PP .eql Aa Q (.int .i64 0) fun S=>some (S,b)) (some ((.bool false),b))) (pBin PP .eql AF a (.pointer none) fun T=>zae T fun U=>br U (some ((.bool false),b)) (zab R AI [a] b fun V W=>zab R Bk [V,c] W fun q X=>zaa q 0 fun Y=>zaa q 1 fun Z=>zab R AI [a] X fun aa ab=>zaP 1 [.int .i64 0] 0 [] ab fun ac ad=>zbb 1 8 ac c ad fun ae af=>zab R Be [aa,ae] af fun h d=>zaa h 0 fun r=>zaa h 1 fun ag=>zaa h 2 fun ah=>zaG (pBin PP .eql AF r (.pointer none) fun ai=>zae ai fun aj=>br aj (some (.ret,[(.bool false)],d)) (pBin PP .neq As Z (.int .i64 0) fun ak=>zae ak fun al=>br al (some (.ret,[(.bool false)],d)) (pBin PP .neq As ah (.int .i64 0) fun am=>zae am fun ao=>br ao (some (.ret,[(.bool false)],d)) (some (.next,[],d))))) fun ap aq s=>zaM ap (zab R AI [r] s fun ar au=>zab R Bk [ar,ag] au fun t i=>zaa t 0 fun av=>zaa t 1 fun aw=>zaG (pBin PP .neq Ae Y av fun ax=>zae ax fun ay=>br ay (some (.ret,[(.bool false)],i)) (pBin PP .neq As aw (.int .i64 0) fun az=>zae az fun ba=>br ba (some (.ret,[(.bool false)],i)) (some (.next,[],i)))) fun bb bc u=>zaM bb (zab R AI [a] u fun bd be=>zab R AR [bd,c] be fun v w=>zaa v 0 fun bf=>zaa v 1 fun bg=>pBin PP .neq As bg (.int .i64 0) fun bh=>zae bh fun bi=>br bi (some ((.bool false),w)) (zaG (zbi (zaT R a bf) [(.int .i64 0)] w) fun bj bk x=>zaM bj none (fun bl=>zaI bl 2 (some ((.bool true),x)) (none)) (some ((bk.headD undef),x)))) (fun bn=>none) (some ((bc.headD undef),u))) (fun bo=>none) (some ((aq.headD undef),s))))) (none)) (some ((F.headD undef),p)))):=by kernel_rfl
noncomputable def zbd(R:zai)(i:Value)(j:Value)(a:Value)(k:Value)(l:Value)(b:List Value)(e:Hp):Option Outc:=pBin PP .lss Aa (b.getD 0 undef) k fun m=>zae m fun n=>br n (pIdx 1 j (b.getD 0 undef) fun o=>zaH 1 false e o fun f=>zab R AC [i,f] e fun g c=>zaa g 0 fun p=>zaa g 1 fun E=>zaE 7 [.int .i64 0,.int .i64 0,.int .i64 0,.int .i64 0,.int .i64 0,.int .u64 0,.string ⟨#[]⟩] 0 p fun d=>zaf 1 false d 2 fun q=>zc3 PP Aa (.int .i64 0) a q false c fun r=>zaf 1 false d 3 fun s=>zc3 PP Aa (.int .i64 0) a s false c fun t=>zaf 1 false d 4 fun u=>zc3 PP Aa (.int .i64 0) a u false c fun v=>zaE 1 d 2 r fun w=>zaE 1 w 3 t fun x=>zaE 1 x 4 v fun y=>zaf 7 true y 0 fun z=>zab R Bd [l,z] c fun h A=>zaa h 0 fun B=>zaa h 1 fun F=>pUpd PP Aa a f B A fun C=>pBin PP .add Aa (b.getD 0 undef) (.int .i64 1) fun D=>some (.next,[D],C)) (some (.exit 0,[(b.getD 0 undef)],e))
noncomputable def zbl(R:zai)(c:Value)(d:Value)(e:Value)(a:List Value)(b:Hp):Option Outc:=pBin PP .lss Aa (a.getD 1 undef) e fun f=>zae f fun g=>br g (pIdx 1 c (a.getD 1 undef) fun h=>zaH 1 false b h fun i=>zc3 PP Aa (.int .i64 0) d i false b fun j=>zaP 1 [.int .i64 0] 1 [(0,j)] b fun k l=>zbb 1 8 (a.getD 0 undef) k l fun m n=>pBin PP .add Aa (a.getD 1 undef) (.int .i64 1) fun o=>some (.next,[m,o],n)) (some (.exit 2,[(a.getD 0 undef),(a.getD 1 undef)],b))
theorem zfS(R:zai)(b a:Value)(d:Hp):zfN R b a d =
zab R AR [b,a] d fun e f=>zaa e 0 fun g=>zaa e 1 fun h=>pBin PP .neq As h (.int .i64 0) fun n=>zae n fun o=>br o (some ((.tuple #[(.pointer none),(.slice none 0 0),h]),f)) (zab R BA [] f fun i p=>zcG p fun j k=>pLen .sl g k fun q=>zaG (zbi (zbd R b g j q i) [(.int .i64 0)] k) fun r s c=>zaM r none (fun t=>zaI t 0 (pLen .sl a c fun u=>zaG (zbi (zbl R a j u) [(.slice none 0 0),(.int .i64 0)] c) fun v l m=>zaM v none (fun w=>zaI w 2 (some ((.tuple #[i,(l.getD 0 undef),(.int .i64 0)]),m)) (none)) (some ((l.headD undef),m))) (none)) (some ((s.headD undef),c))):=by kernel_rfl
noncomputable def zbk(R:zai)(d:Value)(e:Value)(f:Value)(b:List Value)(a:List Value)(c:Hp):Option Outc:=pBin PP .lss Aa (a.getD 0 undef) e fun g=>zae g fun h=>br h (zaf 1 false b 2 fun i=>zaf 1 false b 3 fun j=>zaf 1 false b 4 fun k=>zbe PP BT [(0,i),(1,j),(2,k)] fun l=>zen 3 false 1 l (a.getD 0 undef) fun m=>zc3 PP Aa (.int .i64 0) d m false c fun n=>zab R Az [n,f] c fun q o=>pBin PP .add Aa (a.getD 0 undef) (.int .i64 1) fun p=>some (.next,[p],o)) (some (.exit 3,[(a.getD 0 undef)],c))
noncomputable def zaQ(R:zai)(k:Value)(t:Value)(l:Value)(u:Value)(v:Value)(a:Value)(b:List Value)(g:Hp):Option Outc:=pBin PP .lss Aa (b.getD 0 undef) u fun w=>zae w fun x=>br x (pIdx 1 t (b.getD 0 undef) fun y=>zaH 1 false g y fun m=>pBin PP .add Aa (b.getD 0 undef) (.int .i64 1) fun z=>pUpd PP Aa l m z g fun e=>pNil k (za5 1 k fun A=>zaH 1 false e A fun B=>pBin PP .sub Aa m (.int .i64 1) fun C=>pIdx 7 B C fun D=>zaH 7 true e D fun E=>zaE 7 [.int .i64 0,.int .i64 0,.int .i64 0,.int .i64 0,.int .i64 0,.int .u64 0,.string ⟨#[]⟩] 0 E fun c=>pBin PP .add Aa (b.getD 0 undef) (.int .i64 1) fun F=>zab R BH [F] e fun G n=>pBin PP .add Ae G (.string ⟨#[32]⟩) fun H=>zaf 1 false c 0 fun I=>pIdx 1 v I fun o=>zaH 1 false n o fun p=>chk (Hp.rdP e o 1 false=some p) (pBin PP .add Ae H p fun J=>zab R AQ [a,J] n fun bm h=>zaG (zaf 1 false c 0 fun q=>pBin PP .eql Aa q (.int .i64 3) fun K=>zae K fun L=>br L (zaf 1 false c 1 fun M=>zab R Az [M,a] h fun bn N=>zaf 1 false c 5 fun O=>zab R Bq [O] N fun P Q=>pBin PP .add Ae (.string ⟨#[32]⟩) P fun S=>zab R AQ [a,S] Q fun bo T=>some (.next,[],T)) (pBin PP .eql Aa q (.int .i64 4) fun U=>zae U fun V=>br V (zaf 1 false c 6 fun W=>pBin PP .add Ae (.string ⟨#[32]⟩) W fun X=>zab R AQ [a,X] h fun bp Y=>zaf 1 false c 1 fun Z=>zab R Az [Z,a] Y fun bq aa=>some (.next,[],aa)) (some (.next,[],h)))) fun ab ac f=>zaM ab (zaf 1 false c 0 fun ad=>zab R AE [ad] f fun ae af=>zaG (zbi (zbk R l ae a c) [(.int .i64 0)] af) fun ag ah d=>zaM ag none (fun i=>zaI i 3 (zaf 1 false c 0 fun j=>pBin PP .eql Aa j (.int .i64 31) fun ai=>zae ai fun aj=>br aj (zaf 1 false c 5 fun ak=>zav .i64 ak fun al=>zab R Az [al,a] d fun bs am=>zaf 1 false c 1 fun ao=>zab R Az [ao,a] am fun bt ap=>zab R AB [a,(.int .u8 10)] ap fun bu aq=>pBin PP .add Aa (b.getD 0 undef) (.int .i64 1) fun ar=>some (.next,[ar],aq)) (pBin PP .eql Aa j (.int .i64 32) fun r=>zae r fun au=>br au (zae r fun av=>br av (zaf 1 false c 1 fun aw=>zab R Az [aw,a] d fun bv ax=>zab R AB [a,(.int .u8 10)] ax fun bw ay=>pBin PP .add Aa (b.getD 0 undef) (.int .i64 1) fun az=>some (.next,[az],ay)) (zab R AB [a,(.int .u8 10)] d fun bx ba=>pBin PP .add Aa (b.getD 0 undef) (.int .i64 1) fun bb=>some (.next,[bb],ba))) (pBin PP .eql Aa j (.int .i64 33) fun bc=>zae bc fun bd=>br bd (zaf 1 false c 1 fun be=>zab R Az [be,a] d fun bz bf=>zab R AB [a,(.int .u8 10)] bf fun ca bg=>pBin PP .add Aa (b.getD 0 undef) (.int .i64 1) fun bh=>some (.next,[bh],bg)) (zab R AB [a,(.int .u8 10)] d fun cb bi=>pBin PP .add Aa (b.getD 0 undef) (.int .i64 1) fun bj=>some (.next,[bj],bi))))) (zaI i 1 (pBin PP .add Aa (b.getD 0 undef) (.int .i64 1) fun bk=>some (.next,[bk],d)) (some (.exit i,[(b.getD 0 undef)],d)))) (some (.ret,[(ah.headD undef)],d))) (fun s=>zaI s 1 (pBin PP .add Aa (b.getD 0 undef) (.int .i64 1) fun bl=>some (.next,[bl],f)) (some (.exit s,[(b.getD 0 undef)],f))) (some (.ret,[(ac.headD undef)],f))))) (some (.exit 0,[(b.getD 0 undef)],g))
noncomputable def zbj(R:zai)(c:Value)(d:Value)(e:Value)(f:Value)(a:List Value)(b:Hp):Option Outc:=pBin PP .lss Aa (a.getD 0 undef) e fun g=>zae g fun h=>br h (pIdx 1 c (a.getD 0 undef) fun i=>zaH 1 false b i fun j=>zc3 PP Aa (.int .i64 0) d j false b fun k=>zab R Az [k,f] b fun n l=>pBin PP .add Aa (a.getD 0 undef) (.int .i64 1) fun m=>some (.next,[m],l)) (some (.exit 6,[(a.getD 0 undef)],b))
theorem zhY(R:zai)(c b:Value)(d:Hp):zeu R c b d =
zab R AR [c,b] d fun e f=>zaa e 0 fun g=>zaa e 1 fun h=>pBin PP .neq As h (.int .i64 0) fun n=>zae n fun o=>br o (some ((.tuple #[(.string ⟨#[]⟩),h]),f)) (zmj Ax [.pointer none,.slice none 0 0] f fun a p=>zcG p fun i q=>zab R BS [] q fun r j=>pLen .sl g j fun s=>zaG (zbi (zaQ R c g i s r a) [(.int .i64 0)] j) fun t u k=>zaM t none (fun v=>zaI v 0 (zab R AQ [a,(.string ⟨#[114,111,111,116,115]⟩)] k fun D l=>pLen .sl b l fun w=>zaG (zbi (zbj R b i w a) [(.int .i64 0)] l) fun x y m=>zaM x none (fun z=>zaI z 6 (zab R AB [a,(.int .u8 10)] m fun E A=>zab R BJ [a] A fun B C=>some ((.tuple #[B,(.int .i64 0)]),C)) (none)) (some ((y.headD undef),m))) (none)) (some ((u.headD undef),k))):=by kernel_rfl
noncomputable def za2(R:zai)(d:Value)(e:Value)(f:Value)(a:List Value)(b:Hp):Option Outc:=pBin PP .lss Aa (a.getD 0 undef) f fun g=>zae g fun h=>br h (pIdx 1 e (a.getD 0 undef) fun i=>zaH 1 false b i fun j=>zab R AD [d,j] b fun k c=>pUn .not k fun l=>zae l fun m=>br m (some (.ret,[(.tuple #[(.slice none 0 0),(.int .i64 70)])],c)) (pBin PP .add Aa (a.getD 0 undef) (.int .i64 1) fun n=>some (.next,[n],c))) (some (.exit 0,[(a.getD 0 undef)],b))
noncomputable def zaN(R:zai)(h:Value)(i:Value)(a:List Value)(c:Hp):Option Outc:=pLen .sl (a.getD 1 undef) c fun m=>pBin PP .gtr Aa m (.int .i64 0) fun n=>zae n fun o=>br o (pLen .sl (a.getD 1 undef) c fun p=>pBin PP .sub Aa p (.int .i64 1) fun q=>pIdx 2 (a.getD 1 undef) q fun b=>pNil h (za5 1 h fun r=>zaH 1 false c r fun s=>pNil b (za5 0 b fun t=>zaH 1 false c t fun u=>pBin PP .sub Aa u (.int .i64 1) fun v=>pIdx 7 s v fun w=>zaH 7 true c w fun x=>zaE 7 [.int .i64 0,.int .i64 0,.int .i64 0,.int .i64 0,.int .i64 0,.int .u64 0,.string ⟨#[]⟩] 0 x fun e=>pNil b (za5 1 b fun j=>zaH 1 false c j fun k=>zaf 1 false e 0 fun y=>zab R AE [y] c fun z d=>chk (Hp.rdP d j 1 false=some k) (pBin PP .eql Aa k z fun A=>zae A fun B=>br B (pNil b (za5 0 b fun C=>zaH 1 false d C fun D=>zaP 1 [.int .i64 0] 1 [(0,D)] d fun E F=>zbb 1 8 (a.getD 0 undef) E F fun G l=>pLen .sl (a.getD 1 undef) l fun H=>pBin PP .sub Aa H (.int .i64 1) fun I=>zgk 2 (a.getD 1 undef) none (some I) fun J=>some (.next,[G,J],l))) (zaf 1 false e 2 fun K=>zaf 1 false e 3 fun L=>zaf 1 false e 4 fun M=>zbe PP BT [(0,K),(1,L),(2,M)] fun N=>pNil b (za5 1 b fun O=>zaH 1 false d O fun P=>zen 3 false 1 N P fun f=>pNil b (za5 1 b fun Q=>zaH 1 false d Q fun S=>pBin PP .add Aa S (.int .i64 1) fun T=>pNil b (za5 1 b fun U=>za8 1 d U T fun g=>pIdx 1 i f fun V=>zaH 1 false g V fun W=>pUn .not W fun X=>zae X fun Y=>br Y (pIdx 1 i f fun Z=>za8 1 g Z (.bool true) fun aa=>zbe PP Cp [(0,f),(1,(.int .i64 0))] fun ab=>zaP 2 [.int .i64 0,.int .i64 0] 1 [(0,ab)] aa fun ac ad=>zbb 2 16 (a.getD 1 undef) ac ad fun ae af=>some (.next,[(a.getD 0 undef),ae],af)) (some (.next,[(a.getD 0 undef),(a.getD 1 undef)],g))))))))))) (some (.exit 4,[(a.getD 0 undef),(a.getD 1 undef)],c))
noncomputable def za1(R:zai)(h:Value)(i:Value)(e:Value)(j:Value)(a:List Value)(c:Hp):Option Outc:=pBin PP .lss Aa (a.getD 2 undef) j fun k=>zae k fun l=>br l (pIdx 1 i (a.getD 2 undef) fun m=>zaH 1 false c m fun f=>pIdx 1 e f fun n=>zaH 1 false c n fun o=>zae o fun p=>br p (pBin PP .add Aa (a.getD 2 undef) (.int .i64 1) fun q=>some (.next,[(a.getD 0 undef),(a.getD 1 undef),q],c)) (pIdx 1 e f fun r=>za8 1 c r (.bool true) fun s=>zbe PP Cp [(0,f),(1,(.int .i64 0))] fun t=>zaP 2 [.int .i64 0,.int .i64 0] 1 [(0,t)] s fun u v=>zbb 2 16 (a.getD 1 undef) u v fun w x=>zaG (zbi (zaN R h e) [(a.getD 0 undef),w] x) fun y b d=>zaM y none (fun g=>zaI g 4 (pBin PP .add Aa (a.getD 2 undef) (.int .i64 1) fun z=>some (.next,[(b.getD 0 undef),(b.getD 1 undef),z],d)) (zaI g 3 (pBin PP .add Aa (a.getD 2 undef) (.int .i64 1) fun A=>some (.next,[(b.getD 0 undef),(b.getD 1 undef),A],d)) (some (.exit g,[(b.getD 0 undef),(b.getD 1 undef),(a.getD 2 undef)],d)))) (some (.ret,[(b.headD undef)],d)))) (some (.exit 2,[(a.getD 0 undef),(a.getD 1 undef),(a.getD 2 undef)],c))
theorem zd2(R:zai)(a b:Value)(d:Hp):zdS R a b d =
pLen .sl b d fun i=>zaG (zbi (za2 R a b i) [(.int .i64 0)] d) fun j k c=>zaM j none (fun l=>zaI l 0 (pNil a (za5 1 a fun m=>zaH 1 false c m fun n=>pLen .sl n c fun o=>pBin PP .add Aa o (.int .i64 1) fun e=>zcj 1 1 [.bool false] e e c fun p f=>pLen .sl b f fun q=>zaG (zbi (za1 R a b p q) [(.slice none 0 0),(.slice none 0 0),(.int .i64 0)] f) fun r g h=>zaM r none (fun s=>zaI s 2 (some ((.tuple #[(g.getD 0 undef),(.int .i64 0)]),h)) (none)) (some ((g.headD undef),h)))) (none)) (some ((k.headD undef),c)):=by kernel_rfl
noncomputable def za3(R:zai)(b:Value)(a:List Value)(c:Hp):Option Outc:=pBin PP .geq Aa (a.getD 1 undef) (.int .i64 8) fun k=>zae k fun l=>br l (pBin PP .rem Ab (a.getD 0 undef) (.int .u64 100000000) fun m=>zav .u32 m fun d=>pBin PP .quo Ab (a.getD 0 undef) (.int .u64 100000000) fun n=>pBin PP .quo Al d (.int .u32 10000) fun e=>pBin PP .rem Al d (.int .u32 10000) fun f=>pBin PP .quo Al f (.int .u32 100) fun o=>pBin PP .mul Al o (.int .u32 2) fun g=>pBin PP .rem Al f (.int .u32 100) fun p=>pBin PP .mul Al p (.int .u32 2) fun h=>pBin PP .quo Al e (.int .u32 100) fun q=>pBin PP .mul Al q (.int .u32 2) fun i=>pBin PP .rem Al e (.int .u32 100) fun r=>pBin PP .mul Al r (.int .u32 2) fun j=>pBin PP .sub Aa (a.getD 1 undef) (.int .i64 1) fun s=>pBin PP .sub Aa (a.getD 1 undef) (.int .i64 2) fun t=>pBin PP .add Al h (.int .u32 1) fun u=>zbg (.string ⟨#[48,48,48,49,48,50,48,51,48,52,48,53,48,54,48,55,48,56,48,57,49,48,49,49,49,50,49,51,49,52,49,53,49,54,49,55,49,56,49,57,50,48,50,49,50,50,50,51,50,52,50,53,50,54,50,55,50,56,50,57,51,48,51,49,51,50,51,51,51,52,51,53,51,54,51,55,51,56,51,57,52,48,52,49,52,50,52,51,52,52,52,53,52,54,52,55,52,56,52,57,53,48,53,49,53,50,53,51,53,52,53,53,53,54,53,55,53,56,53,57,54,48,54,49,54,50,54,51,54,52,54,53,54,54,54,55,54,56,54,57,55,48,55,49,55,50,55,51,55,52,55,53,55,54,55,55,55,56,55,57,56,48,56,49,56,50,56,51,56,52,56,53,56,54,56,55,56,56,56,57,57,48,57,49,57,50,57,51,57,52,57,53,57,54,57,55,57,56,57,57]⟩) u fun v=>zbg (.string ⟨#[48,48,48,49,48,50,48,51,48,52,48,53,48,54,48,55,48,56,48,57,49,48,49,49,49,50,49,51,49,52,49,53,49,54,49,55,49,56,49,57,50,48,50,49,50,50,50,51,50,52,50,53,50,54,50,55,50,56,50,57,51,48,51,49,51,50,51,51,51,52,51,53,51,54,51,55,51,56,51,57,52,48,52,49,52,50,52,51,52,52,52,53,52,54,52,55,52,56,52,57,53,48,53,49,53,50,53,51,53,52,53,53,53,54,53,55,53,56,53,57,54,48,54,49,54,50,54,51,54,52,54,53,54,54,54,55,54,56,54,57,55,48,55,49,55,50,55,51,55,52,55,53,55,54,55,55,55,56,55,57,56,48,56,49,56,50,56,51,56,52,56,53,56,54,56,55,56,56,56,57,57,48,57,49,57,50,57,51,57,52,57,53,57,54,57,55,57,56,57,57]⟩) h fun w=>pIdx 1 b s fun x=>za8 1 c x v fun y=>pIdx 1 b t fun z=>za8 1 y z w fun A=>pBin PP .sub Aa (a.getD 1 undef) (.int .i64 3) fun B=>pBin PP .sub Aa (a.getD 1 undef) (.int .i64 4) fun C=>pBin PP .add Al g (.int .u32 1) fun D=>zbg (.string ⟨#[48,48,48,49,48,50,48,51,48,52,48,53,48,54,48,55,48,56,48,57,49,48,49,49,49,50,49,51,49,52,49,53,49,54,49,55,49,56,49,57,50,48,50,49,50,50,50,51,50,52,50,53,50,54,50,55,50,56,50,57,51,48,51,49,51,50,51,51,51,52,51,53,51,54,51,55,51,56,51,57,52,48,52,49,52,50,52,51,52,52,52,53,52,54,52,55,52,56,52,57,53,48,53,49,53,50,53,51,53,52,53,53,53,54,53,55,53,56,53,57,54,48,54,49,54,50,54,51,54,52,54,53,54,54,54,55,54,56,54,57,55,48,55,49,55,50,55,51,55,52,55,53,55,54,55,55,55,56,55,57,56,48,56,49,56,50,56,51,56,52,56,53,56,54,56,55,56,56,56,57,57,48,57,49,57,50,57,51,57,52,57,53,57,54,57,55,57,56,57,57]⟩) D fun E=>zbg (.string ⟨#[48,48,48,49,48,50,48,51,48,52,48,53,48,54,48,55,48,56,48,57,49,48,49,49,49,50,49,51,49,52,49,53,49,54,49,55,49,56,49,57,50,48,50,49,50,50,50,51,50,52,50,53,50,54,50,55,50,56,50,57,51,48,51,49,51,50,51,51,51,52,51,53,51,54,51,55,51,56,51,57,52,48,52,49,52,50,52,51,52,52,52,53,52,54,52,55,52,56,52,57,53,48,53,49,53,50,53,51,53,52,53,53,53,54,53,55,53,56,53,57,54,48,54,49,54,50,54,51,54,52,54,53,54,54,54,55,54,56,54,57,55,48,55,49,55,50,55,51,55,52,55,53,55,54,55,55,55,56,55,57,56,48,56,49,56,50,56,51,56,52,56,53,56,54,56,55,56,56,56,57,57,48,57,49,57,50,57,51,57,52,57,53,57,54,57,55,57,56,57,57]⟩) g fun F=>pIdx 1 b B fun G=>za8 1 A G E fun H=>pIdx 1 b C fun I=>za8 1 H I F fun J=>pBin PP .sub Aa (a.getD 1 undef) (.int .i64 5) fun K=>pBin PP .sub Aa (a.getD 1 undef) (.int .i64 6) fun L=>pBin PP .add Al j (.int .u32 1) fun M=>zbg (.string ⟨#[48,48,48,49,48,50,48,51,48,52,48,53,48,54,48,55,48,56,48,57,49,48,49,49,49,50,49,51,49,52,49,53,49,54,49,55,49,56,49,57,50,48,50,49,50,50,50,51,50,52,50,53,50,54,50,55,50,56,50,57,51,48,51,49,51,50,51,51,51,52,51,53,51,54,51,55,51,56,51,57,52,48,52,49,52,50,52,51,52,52,52,53,52,54,52,55,52,56,52,57,53,48,53,49,53,50,53,51,53,52,53,53,53,54,53,55,53,56,53,57,54,48,54,49,54,50,54,51,54,52,54,53,54,54,54,55,54,56,54,57,55,48,55,49,55,50,55,51,55,52,55,53,55,54,55,55,55,56,55,57,56,48,56,49,56,50,56,51,56,52,56,53,56,54,56,55,56,56,56,57,57,48,57,49,57,50,57,51,57,52,57,53,57,54,57,55,57,56,57,57]⟩) M fun N=>zbg (.string ⟨#[48,48,48,49,48,50,48,51,48,52,48,53,48,54,48,55,48,56,48,57,49,48,49,49,49,50,49,51,49,52,49,53,49,54,49,55,49,56,49,57,50,48,50,49,50,50,50,51,50,52,50,53,50,54,50,55,50,56,50,57,51,48,51,49,51,50,51,51,51,52,51,53,51,54,51,55,51,56,51,57,52,48,52,49,52,50,52,51,52,52,52,53,52,54,52,55,52,56,52,57,53,48,53,49,53,50,53,51,53,52,53,53,53,54,53,55,53,56,53,57,54,48,54,49,54,50,54,51,54,52,54,53,54,54,54,55,54,56,54,57,55,48,55,49,55,50,55,51,55,52,55,53,55,54,55,55,55,56,55,57,56,48,56,49,56,50,56,51,56,52,56,53,56,54,56,55,56,56,56,57,57,48,57,49,57,50,57,51,57,52,57,53,57,54,57,55,57,56,57,57]⟩) j fun O=>pIdx 1 b K fun P=>za8 1 J P N fun Q=>pIdx 1 b L fun S=>za8 1 Q S O fun T=>pBin PP .sub Aa (a.getD 1 undef) (.int .i64 7) fun U=>pBin PP .sub Aa (a.getD 1 undef) (.int .i64 8) fun V=>pBin PP .add Al i (.int .u32 1) fun W=>zbg (.string ⟨#[48,48,48,49,48,50,48,51,48,52,48,53,48,54,48,55,48,56,48,57,49,48,49,49,49,50,49,51,49,52,49,53,49,54,49,55,49,56,49,57,50,48,50,49,50,50,50,51,50,52,50,53,50,54,50,55,50,56,50,57,51,48,51,49,51,50,51,51,51,52,51,53,51,54,51,55,51,56,51,57,52,48,52,49,52,50,52,51,52,52,52,53,52,54,52,55,52,56,52,57,53,48,53,49,53,50,53,51,53,52,53,53,53,54,53,55,53,56,53,57,54,48,54,49,54,50,54,51,54,52,54,53,54,54,54,55,54,56,54,57,55,48,55,49,55,50,55,51,55,52,55,53,55,54,55,55,55,56,55,57,56,48,56,49,56,50,56,51,56,52,56,53,56,54,56,55,56,56,56,57,57,48,57,49,57,50,57,51,57,52,57,53,57,54,57,55,57,56,57,57]⟩) W fun X=>zbg (.string ⟨#[48,48,48,49,48,50,48,51,48,52,48,53,48,54,48,55,48,56,48,57,49,48,49,49,49,50,49,51,49,52,49,53,49,54,49,55,49,56,49,57,50,48,50,49,50,50,50,51,50,52,50,53,50,54,50,55,50,56,50,57,51,48,51,49,51,50,51,51,51,52,51,53,51,54,51,55,51,56,51,57,52,48,52,49,52,50,52,51,52,52,52,53,52,54,52,55,52,56,52,57,53,48,53,49,53,50,53,51,53,52,53,53,53,54,53,55,53,56,53,57,54,48,54,49,54,50,54,51,54,52,54,53,54,54,54,55,54,56,54,57,55,48,55,49,55,50,55,51,55,52,55,53,55,54,55,55,55,56,55,57,56,48,56,49,56,50,56,51,56,52,56,53,56,54,56,55,56,56,56,57,57,48,57,49,57,50,57,51,57,52,57,53,57,54,57,55,57,56,57,57]⟩) i fun Y=>pIdx 1 b U fun Z=>za8 1 T Z X fun aa=>pIdx 1 b V fun ab=>za8 1 aa ab Y fun ac=>pBin PP .sub Aa (a.getD 1 undef) (.int .i64 8) fun ad=>some (.next,[n,ad],ac)) (some (.exit 0,[(a.getD 0 undef),(a.getD 1 undef)],c))
theorem zcJ(R:zai)(a h:Value)(e:Hp):zbI R a h e =
pLen .sl a e fun n=>zaG (zbi (za3 R a) [h,n] e) fun o b f=>zaM o none (fun p=>zaI p 0 (zav .u32 (b.getD 0 undef) fun g=>zaG (pBin PP .geq Aa (b.getD 1 undef) (.int .i64 4) fun q=>zae q fun r=>br r (pBin PP .rem Al g (.int .u32 10000) fun i=>pBin PP .quo Al g (.int .u32 10000) fun s=>pBin PP .quo Al i (.int .u32 100) fun t=>pBin PP .mul Al t (.int .u32 2) fun j=>pBin PP .rem Al i (.int .u32 100) fun u=>pBin PP .mul Al u (.int .u32 2) fun k=>pBin PP .sub Aa (b.getD 1 undef) (.int .i64 1) fun v=>pBin PP .sub Aa (b.getD 1 undef) (.int .i64 2) fun w=>pBin PP .add Al k (.int .u32 1) fun x=>zbg (.string ⟨#[48,48,48,49,48,50,48,51,48,52,48,53,48,54,48,55,48,56,48,57,49,48,49,49,49,50,49,51,49,52,49,53,49,54,49,55,49,56,49,57,50,48,50,49,50,50,50,51,50,52,50,53,50,54,50,55,50,56,50,57,51,48,51,49,51,50,51,51,51,52,51,53,51,54,51,55,51,56,51,57,52,48,52,49,52,50,52,51,52,52,52,53,52,54,52,55,52,56,52,57,53,48,53,49,53,50,53,51,53,52,53,53,53,54,53,55,53,56,53,57,54,48,54,49,54,50,54,51,54,52,54,53,54,54,54,55,54,56,54,57,55,48,55,49,55,50,55,51,55,52,55,53,55,54,55,55,55,56,55,57,56,48,56,49,56,50,56,51,56,52,56,53,56,54,56,55,56,56,56,57,57,48,57,49,57,50,57,51,57,52,57,53,57,54,57,55,57,56,57,57]⟩) x fun y=>zbg (.string ⟨#[48,48,48,49,48,50,48,51,48,52,48,53,48,54,48,55,48,56,48,57,49,48,49,49,49,50,49,51,49,52,49,53,49,54,49,55,49,56,49,57,50,48,50,49,50,50,50,51,50,52,50,53,50,54,50,55,50,56,50,57,51,48,51,49,51,50,51,51,51,52,51,53,51,54,51,55,51,56,51,57,52,48,52,49,52,50,52,51,52,52,52,53,52,54,52,55,52,56,52,57,53,48,53,49,53,50,53,51,53,52,53,53,53,54,53,55,53,56,53,57,54,48,54,49,54,50,54,51,54,52,54,53,54,54,54,55,54,56,54,57,55,48,55,49,55,50,55,51,55,52,55,53,55,54,55,55,55,56,55,57,56,48,56,49,56,50,56,51,56,52,56,53,56,54,56,55,56,56,56,57,57,48,57,49,57,50,57,51,57,52,57,53,57,54,57,55,57,56,57,57]⟩) k fun z=>pIdx 1 a v fun A=>za8 1 f A y fun B=>pIdx 1 a w fun C=>za8 1 B C z fun D=>pBin PP .sub Aa (b.getD 1 undef) (.int .i64 3) fun E=>pBin PP .sub Aa (b.getD 1 undef) (.int .i64 4) fun F=>pBin PP .add Al j (.int .u32 1) fun G=>zbg (.string ⟨#[48,48,48,49,48,50,48,51,48,52,48,53,48,54,48,55,48,56,48,57,49,48,49,49,49,50,49,51,49,52,49,53,49,54,49,55,49,56,49,57,50,48,50,49,50,50,50,51,50,52,50,53,50,54,50,55,50,56,50,57,51,48,51,49,51,50,51,51,51,52,51,53,51,54,51,55,51,56,51,57,52,48,52,49,52,50,52,51,52,52,52,53,52,54,52,55,52,56,52,57,53,48,53,49,53,50,53,51,53,52,53,53,53,54,53,55,53,56,53,57,54,48,54,49,54,50,54,51,54,52,54,53,54,54,54,55,54,56,54,57,55,48,55,49,55,50,55,51,55,52,55,53,55,54,55,55,55,56,55,57,56,48,56,49,56,50,56,51,56,52,56,53,56,54,56,55,56,56,56,57,57,48,57,49,57,50,57,51,57,52,57,53,57,54,57,55,57,56,57,57]⟩) G fun H=>zbg (.string ⟨#[48,48,48,49,48,50,48,51,48,52,48,53,48,54,48,55,48,56,48,57,49,48,49,49,49,50,49,51,49,52,49,53,49,54,49,55,49,56,49,57,50,48,50,49,50,50,50,51,50,52,50,53,50,54,50,55,50,56,50,57,51,48,51,49,51,50,51,51,51,52,51,53,51,54,51,55,51,56,51,57,52,48,52,49,52,50,52,51,52,52,52,53,52,54,52,55,52,56,52,57,53,48,53,49,53,50,53,51,53,52,53,53,53,54,53,55,53,56,53,57,54,48,54,49,54,50,54,51,54,52,54,53,54,54,54,55,54,56,54,57,55,48,55,49,55,50,55,51,55,52,55,53,55,54,55,55,55,56,55,57,56,48,56,49,56,50,56,51,56,52,56,53,56,54,56,55,56,56,56,57,57,48,57,49,57,50,57,51,57,52,57,53,57,54,57,55,57,56,57,57]⟩) j fun I=>pIdx 1 a E fun J=>za8 1 D J H fun K=>pIdx 1 a F fun L=>za8 1 K L I fun M=>pBin PP .sub Aa (b.getD 1 undef) (.int .i64 4) fun N=>some (.next,[N,s],M)) (some (.next,[(b.getD 1 undef),g],f))) fun O c d=>zaM O (pBin PP .geq Aa (c.getD 0 undef) (.int .i64 2) fun P=>zae P fun Q=>br Q (pBin PP .rem Al (c.getD 1 undef) (.int .u32 100) fun S=>pBin PP .mul Al S (.int .u32 2) fun l=>pBin PP .quo Al (c.getD 1 undef) (.int .u32 100) fun T=>pBin PP .sub Aa (c.getD 0 undef) (.int .i64 1) fun U=>pBin PP .sub Aa (c.getD 0 undef) (.int .i64 2) fun V=>pBin PP .add Al l (.int .u32 1) fun W=>zbg (.string ⟨#[48,48,48,49,48,50,48,51,48,52,48,53,48,54,48,55,48,56,48,57,49,48,49,49,49,50,49,51,49,52,49,53,49,54,49,55,49,56,49,57,50,48,50,49,50,50,50,51,50,52,50,53,50,54,50,55,50,56,50,57,51,48,51,49,51,50,51,51,51,52,51,53,51,54,51,55,51,56,51,57,52,48,52,49,52,50,52,51,52,52,52,53,52,54,52,55,52,56,52,57,53,48,53,49,53,50,53,51,53,52,53,53,53,54,53,55,53,56,53,57,54,48,54,49,54,50,54,51,54,52,54,53,54,54,54,55,54,56,54,57,55,48,55,49,55,50,55,51,55,52,55,53,55,54,55,55,55,56,55,57,56,48,56,49,56,50,56,51,56,52,56,53,56,54,56,55,56,56,56,57,57,48,57,49,57,50,57,51,57,52,57,53,57,54,57,55,57,56,57,57]⟩) W fun X=>zbg (.string ⟨#[48,48,48,49,48,50,48,51,48,52,48,53,48,54,48,55,48,56,48,57,49,48,49,49,49,50,49,51,49,52,49,53,49,54,49,55,49,56,49,57,50,48,50,49,50,50,50,51,50,52,50,53,50,54,50,55,50,56,50,57,51,48,51,49,51,50,51,51,51,52,51,53,51,54,51,55,51,56,51,57,52,48,52,49,52,50,52,51,52,52,52,53,52,54,52,55,52,56,52,57,53,48,53,49,53,50,53,51,53,52,53,53,53,54,53,55,53,56,53,57,54,48,54,49,54,50,54,51,54,52,54,53,54,54,54,55,54,56,54,57,55,48,55,49,55,50,55,51,55,52,55,53,55,54,55,55,55,56,55,57,56,48,56,49,56,50,56,51,56,52,56,53,56,54,56,55,56,56,56,57,57,48,57,49,57,50,57,51,57,52,57,53,57,54,57,55,57,56,57,57]⟩) l fun Y=>pIdx 1 a U fun Z=>za8 1 d Z X fun aa=>pIdx 1 a V fun ab=>za8 1 aa ab Y fun m=>pBin PP .sub Aa (c.getD 0 undef) (.int .i64 2) fun ac=>pBin PP .gtr Aa ac (.int .i64 0) fun ad=>zae ad fun ae=>br ae (pBin PP .add Al (.int .u32 48) T fun af=>zav .u8 af fun ag=>pIdx 1 a (.int .i64 0) fun ah=>za8 1 m ah ag fun ai=>some ((.tuple #[]),ai)) (some ((.tuple #[]),m))) (pBin PP .gtr Aa (c.getD 0 undef) (.int .i64 0) fun aj=>zae aj fun ak=>br ak (pBin PP .add Al (.int .u32 48) (c.getD 1 undef) fun al=>zav .u8 al fun am=>pIdx 1 a (.int .i64 0) fun ao=>za8 1 d ao am fun ap=>some ((.tuple #[]),ap)) (some ((.tuple #[]),d)))) (fun aq=>none) (some ((c.headD undef),d))) (none)) (some ((b.headD undef),f)):=by kernel_rfl
noncomputable def zaL(R:zai)(d:Value)(e:Value)(f:Value)(g:Value)(a:List Value)(b:Hp):Option Outc:=pBin PP .geq Ab (a.getD 0 undef) e fun h=>zae h fun i=>br i (pBin PP .sub Aa (a.getD 1 undef) (.int .i64 1) fun c=>pBin PP .and Cq (a.getD 0 undef) f fun j=>zbg (.string ⟨#[48,49,50,51,52,53,54,55,56,57,97,98,99,100,101,102,103,104,105,106,107,108,109,110,111,112,113,114,115,116,117,118,119,120,121,122]⟩) j fun k=>zbH 65 1 g c fun l=>za8 1 b l k fun m=>pBin PP .shr Ab (a.getD 0 undef) d fun n=>some (.next,[n,c],m)) (some (.exit 0,[(a.getD 0 undef),(a.getD 1 undef)],b))
noncomputable def zcA(R:zai)(b:Value)(f:Value)(a:List Value)(c:Hp):Option Outc:=pBin PP .geq Ab (a.getD 0 undef) b fun g=>zae g fun h=>br h (pBin PP .sub Aa (a.getD 1 undef) (.int .i64 1) fun d=>pBin PP .quo Ab (a.getD 0 undef) b fun e=>pBin PP .mul Ab e b fun i=>pBin PP .sub Ab (a.getD 0 undef) i fun j=>zbg (.string ⟨#[48,49,50,51,52,53,54,55,56,57,97,98,99,100,101,102,103,104,105,106,107,108,109,110,111,112,113,114,115,116,117,118,119,120,121,122]⟩) j fun k=>zbH 65 1 f d fun l=>za8 1 c l k fun m=>some (.next,[e,d],m)) (some (.exit 2,[(a.getD 0 undef),(a.getD 1 undef)],c))
theorem zc5(R:zai)(e l b i f:Value)(r:Hp):zbT R e l b i f r =
zaG (pBin PP .lss Aa b (.int .i64 2) fun y=>zae y fun z=>br z (none) (pBin PP .eql Aa b (.int .i64 10) fun A=>zae A fun B=>br B (none) (pBin PP .gtr Aa b (.int .i64 36) fun C=>zae C fun D=>br D (none) (some (.next,[],r))))) fun E F s=>zaM E (zeY [.int .u8 0,.int .u8 0,.int .u8 0,.int .u8 0,.int .u8 0,.int .u8 0,.int .u8 0,.int .u8 0,.int .u8 0,.int .u8 0,.int .u8 0,.int .u8 0,.int .u8 0,.int .u8 0,.int .u8 0,.int .u8 0,.int .u8 0,.int .u8 0,.int .u8 0,.int .u8 0,.int .u8 0,.int .u8 0,.int .u8 0,.int .u8 0,.int .u8 0,.int .u8 0,.int .u8 0,.int .u8 0,.int .u8 0,.int .u8 0,.int .u8 0,.int .u8 0,.int .u8 0,.int .u8 0,.int .u8 0,.int .u8 0,.int .u8 0,.int .u8 0,.int .u8 0,.int .u8 0,.int .u8 0,.int .u8 0,.int .u8 0,.int .u8 0,.int .u8 0,.int .u8 0,.int .u8 0,.int .u8 0,.int .u8 0,.int .u8 0,.int .u8 0,.int .u8 0,.int .u8 0,.int .u8 0,.int .u8 0,.int .u8 0,.int .u8 0,.int .u8 0,.int .u8 0,.int .u8 0,.int .u8 0,.int .u8 0,.int .u8 0,.int .u8 0,.int .u8 0] s fun a t=>zaG (zae i fun G=>br G (pUn .neg l fun H=>some (.next,[H],t)) (some (.next,[l],t))) fun I m u=>zaM I (zab R B2 [b] u fun J v=>zae J fun K=>br K (zav .u64 b fun L=>zab R BW [L] v fun M N=>zav .u64 M fun O=>zav .u64 b fun P=>zav .u64 b fun Q=>pBin PP .sub Cq Q (.int .u64 1) fun S=>zaG (zbi (zaL R O P S a) [(m.getD 0 undef),(.int .i64 65)] N) fun T n w=>zaM T none (fun U=>zaI U 0 (pBin PP .sub Aa (n.getD 1 undef) (.int .i64 1) fun j=>zbg (.string ⟨#[48,49,50,51,52,53,54,55,56,57,97,98,99,100,101,102,103,104,105,106,107,108,109,110,111,112,113,114,115,116,117,118,119,120,121,122]⟩) (n.getD 0 undef) fun V=>zbH 65 1 a j fun W=>za8 1 w W V fun c=>zae i fun X=>br X (pBin PP .sub Aa j (.int .i64 1) fun o=>zbH 65 1 a o fun Y=>za8 1 c Y (.int .u8 45) fun g=>zae f fun Z=>br Z (zb5 65 1 a (some o) none g fun aa=>zbG Aq 1 1 e aa g fun ab ac=>some ((.tuple #[ab,(.string ⟨#[]⟩)]),ac)) (zb5 65 1 a (some o) none g fun ad=>zdM ad g fun ae=>some ((.tuple #[(.slice none 0 0),ae]),g))) (zae f fun af=>br af (zb5 65 1 a (some j) none c fun ag=>zbG Aq 1 1 e ag c fun ah ai=>some ((.tuple #[ah,(.string ⟨#[]⟩)]),ai)) (zb5 65 1 a (some j) none c fun aj=>zdM aj c fun ak=>some ((.tuple #[(.slice none 0 0),ak]),c)))) (none)) (some ((n.headD undef),w))) (zav .u64 b fun al=>zaG (zbi (zcA R al a) [(m.getD 0 undef),(.int .i64 65)] v) fun am p x=>zaM am none (fun ao=>zaI ao 2 (pBin PP .sub Aa (p.getD 1 undef) (.int .i64 1) fun k=>zbg (.string ⟨#[48,49,50,51,52,53,54,55,56,57,97,98,99,100,101,102,103,104,105,106,107,108,109,110,111,112,113,114,115,116,117,118,119,120,121,122]⟩) (p.getD 0 undef) fun ap=>zbH 65 1 a k fun aq=>za8 1 x aq ap fun d=>zae i fun ar=>br ar (pBin PP .sub Aa k (.int .i64 1) fun q=>zbH 65 1 a q fun au=>za8 1 d au (.int .u8 45) fun h=>zae f fun av=>br av (zb5 65 1 a (some q) none h fun aw=>zbG Aq 1 1 e aw h fun ax ay=>some ((.tuple #[ax,(.string ⟨#[]⟩)]),ay)) (zb5 65 1 a (some q) none h fun az=>zdM az h fun ba=>some ((.tuple #[(.slice none 0 0),ba]),h))) (zae f fun bb=>br bb (zb5 65 1 a (some k) none d fun bc=>zbG Aq 1 1 e bc d fun bd be=>some ((.tuple #[bd,(.string ⟨#[]⟩)]),be)) (zb5 65 1 a (some k) none d fun bf=>zdM bf d fun bg=>some ((.tuple #[(.slice none 0 0),bg]),d)))) (none)) (some ((p.headD undef),x)))) (fun bh=>none) (some ((m.headD undef),u))) (fun bi=>none) (some ((F.headD undef),s)):=by kernel_rfl
end Go.AM
namespace Go.AM
open Go
def HS(P:Program)(F:Nat→Option AObj):Hp:=⟨P.globals.size,fun i=>if i<P.globals.size then F i else none,fun _=>none⟩
def isInt:Value→Bool
 |.int _ _=>true
 |_=>false
theorem isInt_rel{β:Bt}{v:Value}(h:isInt v=true):VRel β v v:=by
 unfold isInt at h;split at h
 ·exact .int _ _
 ·cases h
theorem relStart{P:Program}{W:World}(h:P.globals.size≤W.heap.size){F:Nat→Option AObj}
  (hF:∀i o,F i=some o→(∃q,o=.fix q∧W.heap[i]?=some q)∨(∃cs,o=.cells cs false∧∀(j:Nat) v,cs[j]?=some v→isInt v=true∧W.cell? ⟨i,j,none⟩=some v)) :
  Rel P W (HS P F) (B00 P)∧(∀i o,(HS P F).get i=some o→o.own=false):=by
 have key:∀i o,(HS P F).get i=some o→i<P.globals.size∧F i=some o:=fun i o hi=>by
  have hi:(if i<P.globals.size then F i else none)=some o:=hi;split at hi
  ·exact⟨by assumption,hi⟩
  ·cases hi
 have hno:∀i o,(HS P F).get i=some o→o.own=false:=fun i o hi=>by rcases hF i o (key i o hi).2 with⟨q,rfl,_⟩|⟨cs,rfl,_⟩<;>rfl
 refine⟨⟨fun i cs own hi=>?_,fun i kv hi=>?_,fun i j o o' x y _ hi _ ho=>?_,fun i hi=>⟨?_,by unfold B00;rw[if_neg (by have:P.globals.size≤i:=hi;omega)]⟩,
  fun i x hx=>(by unfold B00 at hx;split at hx<;>cases hx;show i<_;omega),fun g hg=>⟨0,by unfold B00;rw[if_pos hg]⟩,fun i o hi=>?_,fun i T hi=>(by cases hi)⟩,hno⟩
 ·obtain⟨h1,h2⟩:=key i _ hi;rcases hF i _ h2 with⟨q,e,_⟩|⟨cs',e,hc⟩
  ·cases e
  ·cases e;refine⟨⟨i,0,0⟩,by unfold B00;rw[if_pos h1],fun j v hv=>?_,fun q=>by cases q⟩;obtain⟨c1,c2⟩:=hc j v hv;exact⟨v,by rw[Nat.zero_add];exact c2,isInt_rel c1⟩
 ·obtain⟨h1,h2⟩:=key i _ hi;rcases hF i _ h2 with⟨q,e,_⟩|⟨cs',e,hc⟩<;>cases e
 ·rw[hno i o hi]at ho;cases ho
 ·show (if i<P.globals.size then F i else none)=none;have:P.globals.size≤i:=hi;rw[if_neg (by omega)]
 ·obtain⟨h1,h2⟩:=key i _ hi;rcases hF i _ h2 with⟨q,e,hq⟩|⟨cs',e,hc⟩
  ·cases e;exact⟨⟨i,0,0⟩,by unfold B00;rw[if_pos h1],rfl,hq⟩
  ·cases e
end Go.AM
namespace Go.Proofs
open Go.Shelf
def Tryz.laysM246_ren:Go.Shelf.Ren:=⟨fun|246=>230|283=>251|284=>252|285=>253|286=>254|129=>119|317=>258|318=>259|319=>260|320=>261|337=>264|338=>256|n=>n,fun|2=>2|3=>3|9=>9|4=>4|171=>233|0=>0|53=>24|37=>157|5=>5|173=>235|212=>243|51=>181|20=>20|213=>244|46=>47|232=>259|233=>256|n=>n,fun|17=>2|18=>4|19=>3|n=>n⟩
theorem Tryz.laysM246:Go.Proofs.LaysM.n246 Tryz.prog Tryz.laysM246_ren:={
 mixed:=by kernel_rfl
 f129:=Tryz.func119.trans (congrArg some (by kernel_rfl))
 f246:=Tryz.func230.trans (congrArg some (by kernel_rfl))
 f283:=Tryz.func251.trans (congrArg some (by kernel_rfl))
 f284:=Tryz.func252.trans (congrArg some (by kernel_rfl))
 f285:=Tryz.func253.trans (congrArg some (by kernel_rfl))
 f286:=Tryz.func254.trans (congrArg some (by kernel_rfl))
 f317:=Tryz.func258.trans (congrArg some (by kernel_rfl))
 f318:=Tryz.func259.trans (congrArg some (by kernel_rfl))
 f319:=Tryz.func260.trans (congrArg some (by kernel_rfl))
 f320:=Tryz.func261.trans (congrArg some (by kernel_rfl))
 f337:=Tryz.func264.trans (congrArg some (by kernel_rfl))
 f338:=Tryz.func256.trans (congrArg some (by kernel_rfl))
 t0:=Tryz.underlying0
 a0:=Tryz.isAgg0
 z0:=Tryz.sizeOf0
 v0:=Tryz.zeroValue0
 t2:=Tryz.underlying2
 a2:=Tryz.isAgg2
 z2:=Tryz.sizeOf2
 v2:=Tryz.zeroValue2
 t3:=Tryz.underlying3
 a3:=Tryz.isAgg3
 z3:=Tryz.sizeOf3
 v3:=Tryz.zeroValue3
 t4:=Tryz.underlying4
 a4:=Tryz.isAgg4
 z4:=Tryz.sizeOf4
 v4:=Tryz.zeroValue4
 t5:=Tryz.underlying5
 a5:=Tryz.isAgg5
 z5:=Tryz.sizeOf5
 v5:=Tryz.zeroValue5
 t9:=Tryz.underlying9
 a9:=Tryz.isAgg9
 z9:=Tryz.sizeOf9
 v9:=Tryz.zeroValue9
 t20:=Tryz.underlying20
 a20:=Tryz.isAgg20
 z20:=Tryz.sizeOf20
 v20:=Tryz.zeroValue20
 t37:=Tryz.underlying157
 a37:=Tryz.isAgg157
 z37:=Tryz.sizeOf157
 v37:=Tryz.zeroValue157
 t46:=Tryz.underlying47
 a46:=Tryz.isAgg47
 z46:=Tryz.sizeOf47
 v46:=Tryz.zeroValue47
 t51:=Tryz.underlying181
 a51:=Tryz.isAgg181
 z51:=Tryz.sizeOf181
 v51:=Tryz.zeroValue181
 t53:=Tryz.underlying24
 a53:=Tryz.isAgg24
 z53:=Tryz.sizeOf24
 v53:=Tryz.zeroValue24
 t171:=Tryz.underlying233
 a171:=Tryz.isAgg233
 z171:=Tryz.sizeOf233
 v171:=Tryz.zeroValue233
 t173:=Tryz.underlying235
 a173:=Tryz.isAgg235
 z173:=Tryz.sizeOf235
 v173:=Tryz.zeroValue235
 t212:=Tryz.underlying243
 a212:=Tryz.isAgg243
 z212:=Tryz.sizeOf243
 v212:=Tryz.zeroValue243
 t213:=Tryz.underlying244
 a213:=Tryz.isAgg244
 z213:=Tryz.sizeOf244
 t232:=Tryz.underlying259
 a232:=Tryz.isAgg259
 z232:=Tryz.sizeOf259
 v232:=Tryz.zeroValue259
 t233:=Tryz.underlying256
 a233:=Tryz.isAgg256
 z233:=Tryz.sizeOf256
 v233:=Tryz.zeroValue256
 g17:=by kernel_rfl
 g18:=by kernel_rfl
 g19:=by kernel_rfl
 i0:=by kernel_rfl
 i2:=by kernel_rfl
 i3:=by kernel_rfl
 i4:=by kernel_rfl
 i5:=by kernel_rfl
 i9:=by kernel_rfl
 i20:=by kernel_rfl
 i37:=by kernel_rfl
 i46:=by kernel_rfl
 i51:=by kernel_rfl
 i53:=by kernel_rfl
 i171:=by kernel_rfl
 i173:=by kernel_rfl
 i212:=by kernel_rfl
 i232:=by kernel_rfl
 i233:=by kernel_rfl
 m17:=by kernel_rfl
 m18:=by kernel_rfl
 m19:=by kernel_rfl }
open Go.RowKit Go.Sort Go.Lib in
theorem Tryz.internal_strconv_FormatInt_10(n:Int)(h0:-9223372036854775808≤n)(h1:n≤9223372036854775807)(w:World)(htab:Lib.TabIs Tryz.prog w "internal/strconv.uint64pow10" .u64 Lib.pow10Tab) :
  Calls Tryz.prog 230 #[.int .i64 n,.int .i64 10] w fun e w'=>e=.returned (.string ⟨(Lib.itoa n).toArray⟩)∧∃k os,w'=grow (w.drewN k) os:=Any.internal_strconv_FormatInt_10 Tryz.laysM246 n h0 h1 w htab
def Tryz.laysM157_ren:Go.Shelf.Ren:=⟨fun|157=>160|229=>231|199=>232|261=>255|311=>262|312=>263|n=>n,fun|9=>9|31=>166|3=>3|5=>5|4=>4|119=>222|0=>0|40=>224|152=>237|21=>21|154=>239|51=>181|141=>241|196=>248|193=>245|198=>251|49=>249|194=>246|201=>254|226=>257|46=>47|227=>258|n=>n,fun|0=>0|6=>1|n=>n⟩
theorem Tryz.laysM157:Go.Proofs.LaysM.n157 Tryz.prog Tryz.laysM157_ren:={
 mixed:=by kernel_rfl
 f157:=Tryz.func160.trans (congrArg some (by kernel_rfl))
 f199:=Tryz.func232.trans (congrArg some (by kernel_rfl))
 f229:=Tryz.func231.trans (congrArg some (by kernel_rfl))
 f261:=Tryz.func255.trans (congrArg some (by kernel_rfl))
 f311:=Tryz.func262.trans (congrArg some (by kernel_rfl))
 f312:=Tryz.func263.trans (congrArg some (by kernel_rfl))
 t0:=Tryz.underlying0
 a0:=Tryz.isAgg0
 z0:=Tryz.sizeOf0
 v0:=Tryz.zeroValue0
 t3:=Tryz.underlying3
 a3:=Tryz.isAgg3
 z3:=Tryz.sizeOf3
 v3:=Tryz.zeroValue3
 t4:=Tryz.underlying4
 a4:=Tryz.isAgg4
 z4:=Tryz.sizeOf4
 v4:=Tryz.zeroValue4
 t5:=Tryz.underlying5
 a5:=Tryz.isAgg5
 z5:=Tryz.sizeOf5
 v5:=Tryz.zeroValue5
 t9:=Tryz.underlying9
 a9:=Tryz.isAgg9
 z9:=Tryz.sizeOf9
 v9:=Tryz.zeroValue9
 t21:=Tryz.underlying21
 a21:=Tryz.isAgg21
 z21:=Tryz.sizeOf21
 v21:=Tryz.zeroValue21
 t31:=Tryz.underlying166
 a31:=Tryz.isAgg166
 z31:=Tryz.sizeOf166
 v31:=Tryz.zeroValue166
 t40:=Tryz.underlying224
 a40:=Tryz.isAgg224
 z40:=Tryz.sizeOf224
 v40:=Tryz.zeroValue224
 t46:=Tryz.underlying47
 a46:=Tryz.isAgg47
 z46:=Tryz.sizeOf47
 v46:=Tryz.zeroValue47
 t49:=Tryz.underlying249
 a49:=Tryz.isAgg249
 z49:=Tryz.sizeOf249
 v49:=Tryz.zeroValue249
 t51:=Tryz.underlying181
 a51:=Tryz.isAgg181
 z51:=Tryz.sizeOf181
 v51:=Tryz.zeroValue181
 t119:=Tryz.underlying222
 a119:=Tryz.isAgg222
 z119:=Tryz.sizeOf222
 t141:=Tryz.underlying241
 a141:=Tryz.isAgg241
 z141:=Tryz.sizeOf241
 v141:=Tryz.zeroValue241
 t152:=Tryz.underlying237
 a152:=Tryz.isAgg237
 z152:=Tryz.sizeOf237
 v152:=Tryz.zeroValue237
 t154:=Tryz.underlying239
 a154:=Tryz.isAgg239
 z154:=Tryz.sizeOf239
 v154:=Tryz.zeroValue239
 t193:=Tryz.underlying245
 a193:=Tryz.isAgg245
 z193:=Tryz.sizeOf245
 v193:=Tryz.zeroValue245
 t194:=Tryz.underlying246
 a194:=Tryz.isAgg246
 z194:=Tryz.sizeOf246
 v194:=Tryz.zeroValue246
 t196:=Tryz.underlying248
 a196:=Tryz.isAgg248
 z196:=Tryz.sizeOf248
 v196:=Tryz.zeroValue248
 t198:=Tryz.underlying251
 a198:=Tryz.isAgg251
 z198:=Tryz.sizeOf251
 v198:=Tryz.zeroValue251
 t201:=Tryz.underlying254
 a201:=Tryz.isAgg254
 z201:=Tryz.sizeOf254
 v201:=Tryz.zeroValue254
 t226:=Tryz.underlying257
 a226:=Tryz.isAgg257
 z226:=Tryz.sizeOf257
 v226:=Tryz.zeroValue257
 t227:=Tryz.underlying258
 a227:=Tryz.isAgg258
 z227:=Tryz.sizeOf258
 v227:=Tryz.zeroValue258
 g0:=by kernel_rfl
 g6:=by kernel_rfl
 i0:=by kernel_rfl
 i3:=by kernel_rfl
 i4:=by kernel_rfl
 i5:=by kernel_rfl
 i9:=by kernel_rfl
 i21:=by kernel_rfl
 i31:=by kernel_rfl
 i40:=by kernel_rfl
 i46:=by kernel_rfl
 i49:=by kernel_rfl
 i51:=by kernel_rfl
 i141:=by kernel_rfl
 i152:=by kernel_rfl
 i154:=by kernel_rfl
 i193:=by kernel_rfl
 i194:=by kernel_rfl
 i196:=by kernel_rfl
 i198:=by kernel_rfl
 i201:=by kernel_rfl
 i226:=by kernel_rfl
 i227:=by kernel_rfl
 m0:=by kernel_rfl
 m6:=by kernel_rfl }
open Go.RowKit Go.Lib in
theorem Tryz.strings_Fields_laid(s:ByteArray)(w:World)(hs:s.size<4294967281)(hascii:∀(j:Nat) b,s.data.toList[j]?=some b→b.toNat<128)(htab:Lib.TabIs Tryz.prog w "strings.asciiSpace" .u8 Lib.asciiSpaceTab) :
  Calls Tryz.prog 160 #[.string s] w fun e w'=>
   e=.returned (.slice (some ⟨w.heap.size,0,none⟩) (Lib.fields s.data.toList).length (Lib.fields s.data.toList).length)∧w'=w.alloc (.cells ((Lib.fields s.data.toList).map fun l=>Value.string ⟨l.toArray⟩).toArray 9):=Any.strings_Fields_laid Tryz.laysM157 s w hs hascii htab
end Go.Proofs
namespace Go.AM
open List Go
def zlU(k:IntKind):List Value→List Int→Bool
 |[],[]=>true
 |.int k' a::r,b::s=>decide (k'=k)&&decide (a=b)&&zlU k r s
 |_,_=>false
theorem zlT{k:IntKind}:∀(l:List Value) (s:List Int),zlU k l s=true→l=s.map fun z=>Value.int k z
 |[],[],_=>rfl
 |[],_::_,h=>by cases h
 |_::_,[],h=>by unfold zlU at h;split at h<;>simp_all
 |v::r,b::s,h=>by
  unfold zlU at h;split at h
  ·rename_i e1 e2;cases e1
  ·rename_i k' a r' b' s' e1 e2;cases e1;cases e2;rw[Bool.and_eq_true,Bool.and_eq_true,decide_eq_true_eq,decide_eq_true_eq]at h;rw[zlT r s h.2,h.1.1,h.1.2];rfl
  ·cases h
def zqD:List Int:=Go.Lib.pow10Tab
def zk6:List Int:=Go.Lib.asciiSpaceTab
def extFmt(args:List Value)(H:Hp):Option (Value×Hp):=
 match args with
 |[.int .i64 n,.int .i64 10]=>if -9223372036854775808≤n∧n≤9223372036854775807 then
   match H.get AS with
   |some (.fix (.cells cs _ _))=>match zlU .u64 cs.toList zqD with
    |true=>some (.string ⟨(Go.Lib.itoa n).toArray⟩,H)
    |false=>none
   |_=>none
  else none
 |_=>none
def zkn(args:List Value)(H:Hp):Option (Value×Hp):=
 match args with
 |[.string s]=>if s.size<4294967281∧s.data.toList.all (fun b=>decide (b.toNat<128))=true then
   match H.get A2 with
   |some (.fix (.cells cs _ _))=>match zlU .u8 cs.toList zk6 with
    |true=>some (.slice (some ⟨H.next,0,some 1⟩) (Go.Lib.fields s.data.toList).length (Go.Lib.fields s.data.toList).length,H.new (.cells ((Go.Lib.fields s.data.toList).map fun l=>Value.string ⟨l.toArray⟩) true))
    |false=>none
   |_=>none
  else none
 |_=>none
def E0:FuncId→Option (List Value→Hp→Option (Value×Hp)):=fun f=>
 if f=B0 then some extFmt else if f=BL then some zkn else if f=BK then some extCC else if f=BJ then some zqb else none
noncomputable abbrev RR:zai:=run PP orc E0
theorem rel_grown{P:Program}{w w':World}{H:Hp}{β:Bt}(h:Rel P w H β)(ho:w'.os=w.os)(ht:w'.tape=w.tape)(hu:w'.output=w.output)(hs:w.heap.size≤w'.heap.size)(hp:∀b,b<w.heap.size→w'.heap[b]?=w.heap[b]?) :
  Rel P w' H β∧Ext w.heap.size w H β w' H β:=
 ⟨h.frame hs fun i x hx=>hp _ (h.lt i x hx),ho,ht,hu,hs,Bt.le_refl _,Nat.le_refl _,fun b hb _=>hp b hb,fun b q=>.inr q,fun i x hx e=>by rw[hx]at e;cases e⟩
theorem LRel.two{β:Bt}{a b:Value}{l:List Value}(h:LRel β [a,b] l):∃a' b',l=[a',b']∧VRel β a a'∧VRel β b b':=by
 obtain⟨hl,hv⟩:=h
 match l,hl with
 |[x,y],_=>exact⟨x,y,rfl,hv 0 _ _ rfl rfl,hv 1 _ _ rfl rfl⟩
theorem tabIs{w:World}{H:Hp}{β:Bt}(hR:Rel PP w H β){name:String}{g:Nat}(hg:PP.globalNamed name=some g)(hlt:g<PP.globals.size){cs:Array Value}{e:TypeId}{fz:Nat×Nat}(h:H.get g=some (.fix (.cells cs e fz))){k:IntKind}{zs:List Int}
  (ht:zlU k cs.toList zs=true):Go.Lib.TabIs PP w name k zs:=by
 obtain⟨x,hx,_,hx2⟩:=hR.fix g _ h;obtain⟨t,ht2⟩:=hR.glob g hlt;rw[hx]at ht2;cases ht2;unfold Go.Lib.TabIs World.var?;rw[hg];have hx2:w.heap[g]?=some (.cells cs e fz):=hx2;show (match w.heap[g]? with|some (.cells cs _ _)=>some cs|_=>none)=_;rw[hx2];dsimp only;congr 1;apply Array.ext';rw[zlT _ _ ht]
theorem zkZ:PP.globals.size=6:=by kernel_rfl
theorem named_pow:PP.globalNamed "internal/strconv.uint64pow10" = some AS:=by kernel_rfl
theorem named_spc:PP.globalNamed "strings.asciiSpace" = some A2:=by kernel_rfl
theorem extE0:ExtC PP E0:=by
 intro f e hf args H v H' he args' w β hl hR;unfold E0 at hf;split at hf
 ·rename_i hf1;subst hf1;cases hf;unfold extFmt at he;split at he
  ·rename_i n;split at he
   ·rename_i hn;split at he
    ·rename_i cs ty fz hg;split at he
     ·rename_i hok;cases he;obtain⟨a',b',rfl,ha,hb⟩:=hl.two;cases ha;cases hb;have hT:=tabIs hR named_pow (by rw[zkZ];decide) hg hok;refine(Go.Proofs.Tryz.internal_strconv_FormatInt_10 n hn.1 hn.2 w hT).mono fun x w' ⟨h1,k,os,h2⟩=>?_;subst h2
      obtain⟨r1,r2⟩:=rel_grown hR (w':=Go.Sort.grow (w.drewN k) os) rfl rfl rfl (by show w.heap.size≤(w.heap++os).size;rw[Array.size_append];omega) (fun b hb=>by
       show (w.heap++os)[b]?=_
       rw[Array.getElem?_append_left hb])
      exact⟨_,β,h1,r1,r2,.string _⟩
     ·cases he
    ·cases he
   ·cases he
  ·cases he
 ·split at hf
  ·rename_i hf2;subst hf2;cases hf;unfold zkn at he;split at he
   ·rename_i s;split at he
    ·rename_i hs;split at he
     ·rename_i cs ty fz hg;split at he
      ·rename_i hok;cases he;obtain⟨a',rfl,ha⟩:=hl.single;cases ha;have hT:=tabIs hR named_spc (by rw[zkZ];decide) hg hok;refine(Go.Proofs.Tryz.strings_Fields_laid s w hs.1 (fun j b hb=>of_decide_eq_true (all_eq_true.1 hs.2 b (mem_of_getElem? hb))) hT).mono fun x w' ⟨h1,h2⟩=>?_;subst h2;subst h1;have hlr:LRel β ((Go.Lib.fields s.data.toList).map fun l=>Value.string ⟨l.toArray⟩) ((((Go.Lib.fields s.data.toList).map fun l=>Value.string ⟨l.toArray⟩).toArray).toList.take ((Go.Lib.fields s.data.toList).length)):=by
        have e:(((Go.Lib.fields s.data.toList).map fun l=>Value.string ⟨l.toArray⟩).toArray).toList.take ((Go.Lib.fields s.data.toList).length)=(Go.Lib.fields s.data.toList).map fun l=>Value.string ⟨l.toArray⟩:=by rw[take_of_length_le (by simp)]
        rw[e];refine⟨rfl,fun k v v' h1 h2=>?_⟩;rw[h1]at h2;cases h2;rw[List.getElem?_map]at h1;cases q:(Go.Lib.fields s.data.toList)[k]? with
        |none=>rw[q]at h1;cases h1
        |some l=>rw[q]at h1;cases h1;exact .string _
       obtain⟨g1,g2⟩:=hR.new_cells _ (((Go.Lib.fields s.data.toList).map fun l=>Value.string ⟨l.toArray⟩).toArray) 9 (0,0) _ hlr (by intro j hj;simp);refine⟨_,_,rfl,g1,g2,?_⟩;have:=VRel.slice (β:=β.set H.next ⟨w.heap.size,0,(((Go.Lib.fields s.data.toList).map fun l=>Value.string ⟨l.toArray⟩).toArray).size⟩) H.next 0 1 (Go.Lib.fields s.data.toList).length (Go.Lib.fields s.data.toList).length _ 0 (Go.Lib.fields s.data.toList).length (Bt.set_same _ _ _) (Nat.le_refl _) (Nat.le_refl _) (by simp) (by intro;rfl);exact this
      ·cases he
     ·cases he
    ·cases he
   ·cases he
  ·split at hf
   ·rename_i hf3;subst hf3;cases hf;exact extCC_ok he hl hR
   ·split at hf
    ·rename_i hf4;subst hf4;cases hf;exact extStr_ok he hl hR
    ·cases hf
end Go.AM
namespace Go.AM.N14
open Go Go.AM
section
variable {α:Type}
theorem u_all:Value.int .u64 18446744073709551615=wv (msk 64):=rfl
theorem cu64(n:Nat)(h:n<18446744073709551616)(k:Value→Option α):zav .u64 (.int .i64 (n:Int)) k=k (.int .u64 (n:Int)):=by rw[zjL,q_u64 (by omega) (by omega)]
end
def wd(w:Int):Nat:=(max w 1).toNat
end Go.AM.N14
namespace Go.AM
open Go
def zax(op:Int):Int:=if op=1∨op=2∨op=3∨op=4 then 0 else if op=5∨op=15∨op=16∨op=31∨op=32∨op=33 then 1 else if op=14 then 3 else 2
theorem c29(op:Int)(H:Hp):RR AE [.int .i64 op] H=some (.int .i64 (zax op),H):=by
 refine(znb E0 rfl _ _).trans ?_;unfold zih;simp only[zag,s_br,zaD,zay,zdl,zaR,zb3,zcb,zbf,decide_eq_true_eq,qg0];unfold zax;by_cases h1:op=1
 ·simp[h1]
 by_cases h2:op=2
 ·simp[h2]
 by_cases h3:op=3
 ·simp[h3]
 by_cases h4:op=4
 ·simp[h4]
 simp only[h1,h2,h3,h4,if_false,zay,zaR,zag,qg0,decide_false,Bool.false_eq_true,or_self,false_or];by_cases h5:op=5
 ·simp[h5]
 by_cases h6:op=15
 ·simp[h6]
 by_cases h7:op=16
 ·simp[h7]
 by_cases h8:op=31
 ·simp[h8]
 by_cases h9:op=32
 ·simp[h9]
 by_cases h10:op=33
 ·simp[h10]
 by_cases h11:op=14
 ·simp[h11]
 simp[h5,h6,h7,h8,h9,h10,h11]
end Go.AM
namespace Go.AM
open List Go
structure Nd where
 op:Int
 w:Int
 a:Int
 b:Int
 c:Int
 num:Int
 name:ByteArray
def Nd.cells(n:Nd):List Value:=[.int .i64 n.op,.int .i64 n.w,.int .i64 n.a,.int .i64 n.b,.int .i64 n.c,.int .u64 n.num,.string n.name]
def Nd.val(n:Nd):Value:=.agg n.cells.toArray
def SlR(H:Hp)(sl:Value)(L:List Nd):Prop:=
 (L=[]∧sl=.slice none 0 0)∨∃i,sl=.slice (some ⟨i,0,some 7⟩) L.length L.length∧H.get i=some (.cells (L.flatMap Nd.cells) true)
structure StR(H:Hp)(p:Nat)(lim:Int)(L:List Nd)(sl:Value)(f g:Nat):Prop where
 obj:H.get p=some (.cells [.int .i64 lim,sl,.map (some f),.map (some g)] true)
 all:SlR H sl L
section
variable {H:Hp}{p f g:Nat}{lim:Int}{L:List Nd}{sl:Value}(hs:StR H p lim L sl f g){α:Type}(k:Value→Option α)
include hs
theorem StR.l0:zaH 1 false H (.pointer (some ⟨p,0,none⟩)) k=k (.int .i64 lim):=zeh hs.obj 0 _ rfl k
theorem StR.l1:zaH 1 false H (.pointer (some ⟨p,1,none⟩)) k=k sl:=zeh hs.obj 1 _ rfl k
theorem StR.l2:zaH 1 false H (.pointer (some ⟨p,2,none⟩)) k=k (.map (some f)):=zeh hs.obj 2 _ rfl k
theorem StR.l3:zaH 1 false H (.pointer (some ⟨p,3,none⟩)) k=k (.map (some g)):=zeh hs.obj 3 _ rfl k
end
theorem SlR.len{H:Hp}{sl:Value}{L:List Nd}(h:SlR H sl L){α:Type}(k:Value→Option α):pLen .sl sl H k=k (.int .i64 L.length):=by rcases h with⟨rfl,rfl⟩|⟨i,rfl,_⟩<;>rfl
theorem zq0(L:List Nd)(i j:Nat)(hj:j<7):(L.flatMap Nd.cells)[i*7+j]?=L[i]?.bind fun n=>n.cells[j]?:=by
 induction L generalizing i with
 |nil=>simp
 |cons n L ih=>
  rw[flatMap_cons];cases i with
  |zero=>rw[Nat.zero_mul,Nat.zero_add,List.getElem?_append_left (by simp[Nd.cells];omega)];rfl
  |succ i=>
   have h7:n.cells.length=7:=rfl;rw[List.getElem?_append_right (by omega),h7,show (i+1)*7+j-7=i*7+j by omega];exact ih i
theorem zmz(L:List Nd):(L.flatMap Nd.cells).length=L.length*7:=by
 induction L with
 |nil=>rfl
 |cons n L ih=>
  have h7:n.cells.length=7:=rfl;rw[flatMap_cons,length_append,ih,length_cons,h7];omega
def isT(L:List Nd)(t:Int):Bool:=decide (t≥1)&&decide (t≤L.length)
theorem c19{H:Hp}{p f g:Nat}{lim t:Int}{L:List Nd}{sl:Value}(hs:StR H p lim L sl f g):RR AD [.pointer (some ⟨p,0,none⟩),.int .i64 t] H=some (.bool (isT L t),H):=by refine(zjt E0 rfl _ _ _).trans ?_;unfold zfz;simp only[zag,s_br,zeJ,zbw,zaY,zl4,Nat.zero_add,hs.l1,hs.all.len,decide_eq_true_eq];unfold isT;by_cases h:t≥1<;>simp[h]
theorem zfr{k:IntKind}{n:Int}(h1:k.min≤n)(h2:n≤k.max):k.wrap n=n:=by cases k<;>simp[IntKind.wrap,IntKind.min,IntKind.max,IntKind.signed,IntKind.bits] at * <;> omega
def wT(L:List Nd)(d t:Int):Int:=if isT L t then (L[(t-1).toNat]?.map Nd.w).getD d else d
theorem zbv{L:List Nd}{t:Int}:isT L t=true↔1≤t∧t≤L.length:=by unfold isT;simp
theorem s_idx{H:Hp}{L:List Nd}{sl:Value}(h:SlR H sl L){t:Int}(ht:isT L t=true)(hL:(L.length:Int)≤4611686018427387904){α:Type}(k:Value→Option α) :
  ∃i n,L[(t-1).toNat]?=some n∧H.get i=some (.cells (L.flatMap Nd.cells) true)∧pIdx 7 sl (.int .i64 (IntKind.i64.wrap (t-1))) k=k (.pointer (some ⟨i,(t-1).toNat*7,none⟩)):=by
 obtain⟨h1,h2⟩:=zbv.1 ht;have hw:IntKind.i64.wrap (t-1)=t-1:=zfr (by simp[IntKind.min,IntKind.signed,IntKind.bits];omega) (by simp[IntKind.max,IntKind.signed,IntKind.bits];omega);rcases h with⟨rfl,rfl⟩|⟨i,rfl,hi⟩
 ·simp at h2;omega
 ·have hlt:(t-1).toNat<L.length:=by omega
  refine⟨i,L[(t-1).toNat],by simp[hlt],hi,?_⟩;rw[hw];unfold pIdx idxV;have:(7:Nat)=7∧0≤t-1∧t-1<(L.length:Int):=⟨rfl,by omega,by omega⟩
  simp only[this,and_self,if_true,Nat.zero_add]
theorem c40{H:Hp}{p f g:Nat}{lim t:Int}{L:List Nd}{sl:Value}(hs:StR H p lim L sl f g)(hL:(L.length:Int)≤4611686018427387904):RR Ar [.pointer (some ⟨p,0,none⟩),.int .i64 t] H=some (.int .i64 (wT L (-1) t),H):=by
 refine(zkS E0 rfl _ _ _).trans ?_;unfold zgm;simp only[zac (c19 hs),zag,s_br,zb0,zbw,zaY,zd8,Nat.zero_add,hs.l1];unfold wT;cases ht:isT L t with
 |false=>simp
 |true=>
  obtain⟨i,n,hn,hi,hx⟩:=s_idx hs.all ht hL (fun p8=>za5 1 p8 fun p9=>zaH 1 false H p9 fun v10=>some (v10,H));simp only[Bool.not_true,Bool.false_eq_true,if_false,if_true];rw[hx,zaY,zeh hi _ (.int .i64 n.w) (by rw[zq0 _ _ _ (by omega),hn];rfl),hn];rfl
end Go.AM
namespace Go.AM
open Go
section
variable {α:Type}{P:Program}(n:Nd)(k:Value→Option α)
theorem n0:zaf 1 false (zad n.val) 0 k=k (.int .i64 n.op):=zb4 _ 0 _ rfl k
theorem n1:zaf 1 false (zad n.val) 1 k=k (.int .i64 n.w):=zb4 _ 1 _ rfl k
theorem n2:zaf 1 false (zad n.val) 2 k=k (.int .i64 n.a):=zb4 _ 2 _ rfl k
theorem n3:zaf 1 false (zad n.val) 3 k=k (.int .i64 n.b):=zb4 _ 3 _ rfl k
theorem n4:zaf 1 false (zad n.val) 4 k=k (.int .i64 n.c):=zb4 _ 4 _ rfl k
theorem n5:zaf 1 false (zad n.val) 5 k=k (.int .u64 n.num):=zb4 _ 5 _ rfl k
theorem n6:zaf 1 false (zad n.val) 6 k=k (.string n.name):=zb4 _ 6 _ rfl k
theorem n07:zaf 7 true (zad n.val) 0 k=k n.val:=rfl
theorem s_sneq(T:TypeId)(a b:ByteArray)(k:Value→Option α):pBin P .neq T (.string a) (.string b) k=k (.bool !(a.toList==b.toList)):=rfl
end
theorem s_ite(p:Prop) [Decidable p](x y:Bool)(H:Hp):(if p then some (Value.bool x,H) else some (Value.bool y,H))=some (Value.bool (bif decide p then x else y),H):=by by_cases h:p<;>simp[h]
def zhV(n:Nd):Bool:=!(n.name.toList==(⟨#[]⟩:ByteArray).toList)
def zdq(k:Int)(n:Nd):Bool:=
 (decide (k<1)&&decide (n.a≠0))||(decide (k<2)&&decide (n.b≠0))||(decide (k<3)&&decide (n.c≠0)) ||
 (decide (n.num≠0)&&decide (n.op≠3)&&decide (n.op≠31))||(zhV n&&decide (n.op≠4))
theorem c41(n:Nd)(H:Hp):RR Cf [n.val] H=some (.bool (zdq (zax n.op) n),H):=by refine(zna E0 rfl _ _).trans ?_;unfold zig;simp only[n0,n2,n3,n4,n5,n6,zac (c29 _ _),zbL,zcz,s_sneq,zag,s_br,s_ite];unfold zdq zhV;generalize zax n.op=k;congr 2;congr 1;generalize decide (k<1)=b1;generalize decide (n.a≠0)=b2;generalize decide (k<2)=b3;generalize decide (n.b≠0)=b4;generalize decide (k<3)=b5;generalize decide (n.c≠0)=b6;generalize decide (n.num≠0)=b7;generalize decide (n.op≠3)=b8;generalize decide (n.op≠31)=b9;generalize (!(n.name.toList==(⟨#[]⟩:ByteArray).toList))=b10;generalize decide (n.op≠4)=b11;simp only[Bool.decide_eq_true];cases b1<;>cases b2<;>cases b3<;>cases b4<;>cases b5<;>cases b6<;>simp<;>cases b7<;>cases b8<;>cases b9<;>simp<;>cases b10<;>simp
theorem zeW(v:Value)(l:List Value):(v::l).headD undef=v:=rfl
def zcg(op a b c:Int):Bool:=
 if zax op=0 then true
 else if op=5 then decide (a=0)
 else if op=6∨op=7∨op=8 then decide (a=0)&&decide (b=0)
 else if op=9 then decide (a=b)
 else if op=14 then decide (a=0)&&decide (b=c)
 else if op=30 then decide (a>0)&&decide (b>0)
 else if zax op=1 then decide (a>0)
 else decide (a>0)&&decide (a=b)
section
variable {H:Hp}{p f g:Nat}{lim:Int}{L:List Nd}{sl:Value}
theorem c42(hs:StR H p lim L sl f g)(hL:(L.length:Int)≤4611686018427387904)(n:Nd) :
  RR Cd [.pointer (some ⟨p,0,none⟩),n.val] H=some (.bool (zcg n.op (wT L (-1) n.a) (wT L (-1) n.b) (wT L (-1) n.c)),H):=by
 refine(zgB E0 rfl _ _ _).trans ?_;unfold zdB;simp only[n0,n2,n3,n4,zac (c40 hs hL),zac (c29 _ _),zaD,zei,zag,s_br,zay,zdl,zaR,zb3,zcb,zbf,zeW,qg0,decide_eq_true_eq,if_true];unfold zcg;generalize wT L (-1) n.a=a;generalize wT L (-1) n.b=b;generalize wT L (-1) n.c=c;generalize n.op=op;by_cases h0:zax op=0
 ·simp only[h0,if_true]
 simp only[h0,if_false];by_cases h5:op=5
 ·simp only[h5,if_true]
 simp only[h5,if_false];by_cases h6:op=6
 ·simp[h6,s_ite]
 by_cases h7:op=7
 ·simp[h7,s_ite]
 by_cases h8:op=8
 ·simp[h8,s_ite]
 simp only[h6,h7,h8,if_false,or_self];by_cases h9:op=9
 ·simp[h9]
 simp only[h9,if_false];by_cases h14:op=14
 ·simp[h14];by_cases q:a=0<;>simp[q]
 simp only[h14,if_false];by_cases h30:op=30
 ·simp[h30];by_cases q:a>0<;>simp[q]
 simp only[h30,if_false];by_cases h1:zax op=1
 ·simp[h1]
 simp only[h1,if_false];by_cases q:a>0<;>simp[q]
end
theorem s_rem{α:Type}{P:Program}(T:TypeId)(kd:IntKind)(a b:Int)(hb:b≠0)(k:Value→Option α):pBin P .rem T (.int kd a) (.int kd b) k=k (.int kd (a.tmod b)):=by simp[pBin,binV,zeb,hb]
theorem zdt{α:Type}(kd k2:IntKind)(a:Int)(k:Value→Option α):zav kd (.int k2 a) k=k (.int kd (kd.wrap a)):=rfl
theorem s_and{α:Type}{P:Program}(T:TypeId)(kd:IntKind)(a b:Int)(k:Value→Option α):pBin P .and T (.int kd a) (.int kd b) k=k (.int kd (kd.wrap (BitVec.ofInt kd.bits a&&&BitVec.ofInt kd.bits b).toNat)):=by simp[pBin,binV,zeb,bvOp]
theorem s_shl{α:Type}{P:Program}(T:TypeId)(kd k2:IntKind)(a b:Int)(hb:0≤b)(k:Value→Option α):pBin P .shl T (.int kd a) (.int k2 b) k=k (.int kd (kd.wrap (a*2^(min b.toNat kd.bits)))):=by
 have:¬b<0:=by omega
 simp[pBin,binV,shOp,this]
def zgZ(w x:Int):Int:=if w<1 then 0 else if w≥64 then x else x%2^w.toNat
theorem zpL{w:Int}(h1:1≤w)(h2:w<64):(2:Int)^w.toNat<18446744073709551616∧(2:Int)≤2^w.toNat:=by
 have hw:w.toNat<64:=by omega
 have hw1:1≤w.toNat:=by omega
 have h3:(2:Nat)^w.toNat<2^64:=Nat.pow_lt_pow_right (by omega) hw;have h4:(2:Nat)^1≤2^w.toNat:=Nat.pow_le_pow_right (by omega) hw1;constructor
 ·have:((2^w.toNat:Nat):Int)<((2^64:Nat):Int):=Int.ofNat_lt.2 h3;simpa using this
 ·have:((2^1:Nat):Int)≤((2^w.toNat:Nat):Int):=Int.ofNat_le.2 h4;simpa using this
theorem wrap_pow{w:Int}(h1:1≤w)(h2:w<64):IntKind.u64.wrap (1*2^(min (IntKind.u64.wrap w).toNat IntKind.u64.bits))=2^w.toNat:=by have hw:IntKind.u64.wrap w=w:=zfr (by simp[IntKind.min,IntKind.signed,IntKind.bits];omega) (by simp[IntKind.max,IntKind.signed,IntKind.bits];omega);rw[hw];have hb:IntKind.u64.bits=64:=rfl;rw[hb,Nat.min_eq_left (by omega),Int.one_mul];obtain⟨p1,p2⟩:=zpL h1 h2;exact zfr (by simp[IntKind.min,IntKind.signed,IntKind.bits];omega) (by simp[IntKind.max,IntKind.signed,IntKind.bits];omega)
theorem c45(w x:Int)(hx:0≤x)(hx2:x<18446744073709551616)(H:Hp):RR Ah [.int .i64 w,.int .u64 x] H=some (.int .u64 (zgZ w x),H):=by
 refine(zoA E0 rfl _ _ _).trans ?_;unfold zj8 zgZ;simp only[zbL,zeJ,zag,s_br,decide_eq_true_eq,zdt];by_cases h1:w<1
 ·simp[h1]
 by_cases h2:w≥64
 ·simp[h1,h2]
 simp only[h1,h2,if_false];have hw:IntKind.u64.wrap w=w:=zfr (by simp[IntKind.min,IntKind.signed,IntKind.bits];omega) (by simp[IntKind.max,IntKind.signed,IntKind.bits];omega);obtain⟨p1,p2⟩:=zpL (w:=w) (by omega) (by omega);rw[s_shl _ _ _ _ _ (by rw[hw];omega),wrap_pow (by omega) (by omega),zd8,s_and];have hm:IntKind.u64.wrap (2^w.toNat-1)=2^w.toNat-1:=zfr (by simp[IntKind.min,IntKind.signed,IntKind.bits];omega) (by simp[IntKind.max,IntKind.signed,IntKind.bits];omega);rw[hm];congr 3;have hb:IntKind.u64.bits=64:=rfl;rw[hb];obtain⟨X,rfl⟩:=Int.eq_ofNat_of_zero_le hx;have e2:(2:Int)^w.toNat-1=((2^w.toNat-1:Nat):Int):=by have:1≤(2:Nat)^w.toNat:=Nat.one_le_two_pow;rw[Int.ofNat_sub this];simp
 rw[e2];have e3:BitVec.ofInt 64 ((X:Nat):Int)=BitVec.ofNat 64 X:=by simp
 have e4:BitVec.ofInt 64 (((2^w.toNat-1:Nat)):Int)=BitVec.ofNat 64 (2^w.toNat-1):=by simp
 rw[e3,e4,BitVec.toNat_and,BitVec.toNat_ofNat,BitVec.toNat_ofNat];have hX:X<2^64:=by have:(X:Int)<18446744073709551616:=hx2;omega
 have h3:(2:Nat)^w.toNat<2^64:=Nat.pow_lt_pow_right (by omega) (by omega);rw[Nat.mod_eq_of_lt hX,Nat.mod_eq_of_lt (by omega),Nat.and_two_pow_sub_one_eq_mod];have h4:X%2^w.toNat≤X:=Nat.mod_le _ _;have h5:((X:Nat):Int)%2^w.toNat=((X%2^w.toNat:Nat):Int):=by simp
 rw[h5];generalize X%2^w.toNat=Y at h4;have m1:IntKind.u64.min=0:=rfl;have m2:IntKind.u64.max=18446744073709551615:=rfl;rw[zfr (by rw[m1];omega) (by rw[m2];omega)]
def zfm(w:Int):Bool:=decide (w=1∨w=2∨w=4∨w=8∨w=16∨w=32∨w=64)
def pops:List Int:=[0,1,1,2,1,2,2,3,1,2,2,3,2,3,3,4,1,2,2,3,2,3,3,4,2,3,3,4,3,4,4,5,1,2,2,3,2,3,3,4,2,3,3,4,3,4,4,5,2,3,3,4,3,4,4,5,3,4,4,5,4,5,5,6,1]
theorem all58(H:Hp):(i:Nat)→i<65→zd1 RR (.int .u64 (i:Int)) H=some (.int .i64 (pops.getD i 0),H)
 |0,_=>by kernel_rfl
 |1,_=>by kernel_rfl
 |2,_=>by kernel_rfl
 |3,_=>by kernel_rfl
 |4,_=>by kernel_rfl
 |5,_=>by kernel_rfl
 |6,_=>by kernel_rfl
 |7,_=>by kernel_rfl
 |8,_=>by kernel_rfl
 |9,_=>by kernel_rfl
 |10,_=>by kernel_rfl
 |11,_=>by kernel_rfl
 |12,_=>by kernel_rfl
 |13,_=>by kernel_rfl
 |14,_=>by kernel_rfl
 |15,_=>by kernel_rfl
 |16,_=>by kernel_rfl
 |17,_=>by kernel_rfl
 |18,_=>by kernel_rfl
 |19,_=>by kernel_rfl
 |20,_=>by kernel_rfl
 |21,_=>by kernel_rfl
 |22,_=>by kernel_rfl
 |23,_=>by kernel_rfl
 |24,_=>by kernel_rfl
 |25,_=>by kernel_rfl
 |26,_=>by kernel_rfl
 |27,_=>by kernel_rfl
 |28,_=>by kernel_rfl
 |29,_=>by kernel_rfl
 |30,_=>by kernel_rfl
 |31,_=>by kernel_rfl
 |32,_=>by kernel_rfl
 |33,_=>by kernel_rfl
 |34,_=>by kernel_rfl
 |35,_=>by kernel_rfl
 |36,_=>by kernel_rfl
 |37,_=>by kernel_rfl
 |38,_=>by kernel_rfl
 |39,_=>by kernel_rfl
 |40,_=>by kernel_rfl
 |41,_=>by kernel_rfl
 |42,_=>by kernel_rfl
 |43,_=>by kernel_rfl
 |44,_=>by kernel_rfl
 |45,_=>by kernel_rfl
 |46,_=>by kernel_rfl
 |47,_=>by kernel_rfl
 |48,_=>by kernel_rfl
 |49,_=>by kernel_rfl
 |50,_=>by kernel_rfl
 |51,_=>by kernel_rfl
 |52,_=>by kernel_rfl
 |53,_=>by kernel_rfl
 |54,_=>by kernel_rfl
 |55,_=>by kernel_rfl
 |56,_=>by kernel_rfl
 |57,_=>by kernel_rfl
 |58,_=>by kernel_rfl
 |59,_=>by kernel_rfl
 |60,_=>by kernel_rfl
 |61,_=>by kernel_rfl
 |62,_=>by kernel_rfl
 |63,_=>by kernel_rfl
 |64,_=>by kernel_rfl
 |n+65,h=>by omega
theorem c53(w:Int)(h0:0≤w)(h1:w<65)(H:Hp):RR A9 [.int .u64 w] H=some (.int .i64 (pops.getD w.toNat 0),H):=by
 refine(ziO E0 rfl _ _).trans ?_;unfold zfh;have:RR BV [.int .u64 w] H=some (.int .i64 (pops.getD w.toNat 0),H):=by refine(zhh E0 rfl _ _).trans ?_;obtain⟨n,rfl⟩:=Int.eq_ofNat_of_zero_le h0;exact all58 H n (by omega)
 rw[zac this]
theorem zpP:(i:Nat)→i<65→decide (pops.getD i 0=1)=zfm (i:Int)
 |0,_=>by kernel_rfl
 |1,_=>by kernel_rfl
 |2,_=>by kernel_rfl
 |3,_=>by kernel_rfl
 |4,_=>by kernel_rfl
 |5,_=>by kernel_rfl
 |6,_=>by kernel_rfl
 |7,_=>by kernel_rfl
 |8,_=>by kernel_rfl
 |9,_=>by kernel_rfl
 |10,_=>by kernel_rfl
 |11,_=>by kernel_rfl
 |12,_=>by kernel_rfl
 |13,_=>by kernel_rfl
 |14,_=>by kernel_rfl
 |15,_=>by kernel_rfl
 |16,_=>by kernel_rfl
 |17,_=>by kernel_rfl
 |18,_=>by kernel_rfl
 |19,_=>by kernel_rfl
 |20,_=>by kernel_rfl
 |21,_=>by kernel_rfl
 |22,_=>by kernel_rfl
 |23,_=>by kernel_rfl
 |24,_=>by kernel_rfl
 |25,_=>by kernel_rfl
 |26,_=>by kernel_rfl
 |27,_=>by kernel_rfl
 |28,_=>by kernel_rfl
 |29,_=>by kernel_rfl
 |30,_=>by kernel_rfl
 |31,_=>by kernel_rfl
 |32,_=>by kernel_rfl
 |33,_=>by kernel_rfl
 |34,_=>by kernel_rfl
 |35,_=>by kernel_rfl
 |36,_=>by kernel_rfl
 |37,_=>by kernel_rfl
 |38,_=>by kernel_rfl
 |39,_=>by kernel_rfl
 |40,_=>by kernel_rfl
 |41,_=>by kernel_rfl
 |42,_=>by kernel_rfl
 |43,_=>by kernel_rfl
 |44,_=>by kernel_rfl
 |45,_=>by kernel_rfl
 |46,_=>by kernel_rfl
 |47,_=>by kernel_rfl
 |48,_=>by kernel_rfl
 |49,_=>by kernel_rfl
 |50,_=>by kernel_rfl
 |51,_=>by kernel_rfl
 |52,_=>by kernel_rfl
 |53,_=>by kernel_rfl
 |54,_=>by kernel_rfl
 |55,_=>by kernel_rfl
 |56,_=>by kernel_rfl
 |57,_=>by kernel_rfl
 |58,_=>by kernel_rfl
 |59,_=>by kernel_rfl
 |60,_=>by kernel_rfl
 |61,_=>by kernel_rfl
 |62,_=>by kernel_rfl
 |63,_=>by kernel_rfl
 |64,_=>by kernel_rfl
 |n+65,h=>by omega
end Go.AM
