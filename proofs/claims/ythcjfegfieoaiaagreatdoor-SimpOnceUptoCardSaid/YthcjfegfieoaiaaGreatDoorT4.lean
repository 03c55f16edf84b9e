/- Part of the proof of SimpOnceUptoCardSaid: see the last file.  -/
import Derived.Laws.MathBits
import Derived.Lib.TrailingZeros
import Derived.Lib.Mul64
import Derived.KernelRfl
import Derived.Test.YthcjfegfieoaiaaGreatDoorT0
import Derived.Test.YthcjfegfieoaiaaGreatDoorT2
import Derived.Test.YthcjfegfieoaiaaGreatDoorT3
set_option linter.unusedSimpArgs false
set_option linter.unusedVariables false
set_option linter.unusedSectionVars false
set_option linter.constructorNameAsVariable false
set_option maxRecDepth 100000
namespace Go.AM
open List Go
theorem line_len{Φ:Int→Int}{n:Nd}(hn:zpj n)(hΦ:∀t,0≤Φ t∧Φ t≤2^42){i:Nat}(hi:i≤2^42):(line zbQ Φ i n).length≤200:=by have h1:=zdj (n:=((i+1:Nat):Int)) (by omega) (by omega);have h2:=zpp n.op;have h3:=zmJ hn hΦ (fl n.op) 0;have h4:=fl_len n.op;unfold line;simp only[length_append,length_singleton];omega
section
variable {B:Hp}{b m w p f g:Nat}{lim:Int}{L:List Nd}{K:List (ByteArray×Int)}{sl:Value}(hT:Tabs B)(hn:PP.globals.size≤B.next)(hst:StF B p lim L K sl f g)(hL:L.length*64≤2^46)(hN:∀m∈L,zpj m)
include hT hn hst hL hN
theorem loopL{out:List Nat}{v:Value}(hv:Rdb B 1 v out.length (ints out))(hout:∀t∈out,1≤t∧t≤L.length)(hol:out.length≤2^30):∀(k i:Nat) (H:Hp) (s:List UInt8) (Φ:Int→Int),i+k=out.length→DP B H zfs b m w s Φ →
  (∀t,0≤Φ t∧Φ t≤2^42)→s.length+200*k+1000≤2^46 →
  ∃H',zbi (zaQ RR (.pointer (some ⟨p,0,none⟩)) v (.map (some m)) (.int .i64 (out.length:Int)) (.slice (some ⟨w,0,some 1⟩) 34 34) (.pointer (some ⟨b,0,none⟩))) [.int .i64 (i:Int)] H=some (.exit 0,[.int .i64 (out.length:Int)],H') ∧
   DP B H' zfs b m w (s++zgs zbQ L i (out.drop i) Φ) (zio i (out.drop i) Φ)∧(∀t,0≤zio i (out.drop i) Φ t∧zio i (out.drop i) Φ t≤2^42)∧(zgs zbQ L i (out.drop i) Φ).length≤200*k
 |0,i,H,s,Φ,hi,h,hΦ,hl=>by
  have:i=out.length:=by omega
  subst this;rw[drop_of_length_le (Nat.le_refl _)];refine⟨H,?_,by unfold zgs zio;rw[append_nil];exact h,hΦ,Nat.zero_le _⟩;rw[zaW];have:zaQ RR (.pointer (some ⟨p,0,none⟩)) v (.map (some m)) (.int .i64 (out.length:Int)) (.slice (some ⟨w,0,some 1⟩) 34 34) (.pointer (some ⟨b,0,none⟩)) [.int .i64 (out.length:Int)] H=some (.exit 0,[.int .i64 (out.length:Int)],H):=by unfold zaQ;simp only[zbL,zag,zam,qg0,Int.lt_irrefl,decide_false]
  rw[this];rfl
 |k+1,i,H,s,Φ,hi,h,hΦ,hl=>by
  have hlt:i<out.length:=by omega
  have hg:out[i]?=some out[i]:=List.getElem?_eq_getElem hlt;obtain⟨t1,t2⟩:=hout out[i] (getElem_mem hlt);have hd:out.drop i=out[i]::out.drop (i+1):=drop_eq_getElem_cons hlt;obtain⟨H1,e1,h1,hΨ⟩:=stepL hT hn hst hL hN hv hout (by omega) hg h hΦ (by omega);have hnd:zpj (zaJ L out[i]):=by unfold zaJ;have:L[out[i]-1]?=some (L[out[i]-1]'(by omega)):=List.getElem?_eq_getElem _;rw[this];exact hN _ (getElem_mem _)
  have hll:=line_len hnd hΨ (i:=i) (by omega);obtain⟨H',e2,h2,h3,h4⟩:=loopL hv hout hol k (i+1) H1 _ _ (by omega) h1 hΨ (by rw[length_append];omega);rw[hd];refine⟨H',?_,?_,h3,?_⟩
  ·rw[zaW,e1];exact e2
  ·rw[append_assoc]at h2;exact h2
  ·unfold zgs;rw[length_append];omega
omit hst hL hN in
theorem loopR{x:Value}{rs:List Int}(hx:Rdb B 1 x rs.length (zb1 rs))(hrl:rs.length≤2^30){Φ:Int→Int}(hΦ:∀t,0≤Φ t∧Φ t≤2^42):∀(k i:Nat) (H:Hp) (s:List UInt8),i+k=rs.length→DP B H zfs b m w s Φ→s.length+200*k+1000≤2^46 →
  ∃H',zbi (zbj RR x (.map (some m)) (.int .i64 (rs.length:Int)) (.pointer (some ⟨b,0,none⟩))) [.int .i64 (i:Int)] H=some (.exit 6,[.int .i64 (rs.length:Int)],H')∧DP B H' zfs b m w (s++zjq Φ (rs.drop i)) Φ∧(zjq Φ (rs.drop i)).length≤200*k
 |0,i,H,s,hi,h,hl=>by
  have:i=rs.length:=by omega
  subst this;rw[drop_of_length_le (Nat.le_refl _)];refine⟨H,?_,by unfold zjq;rw[flatMap_nil,append_nil];exact h,by simp[zjq]⟩;rw[zaW];have:zbj RR x (.map (some m)) (.int .i64 (rs.length:Int)) (.pointer (some ⟨b,0,none⟩)) [.int .i64 (rs.length:Int)] H=some (.exit 6,[.int .i64 (rs.length:Int)],H):=by unfold zbj;simp only[zbL,zag,zam,qg0,Int.lt_irrefl,decide_false]
  rw[this];rfl
 |k+1,i,H,s,hi,h,hl=>by
  have hlt:i<rs.length:=by omega
  have hg:rs[i]?=some rs[i]:=List.getElem?_eq_getElem hlt;have hd:rs.drop i=rs[i]::rs.drop (i+1):=drop_eq_getElem_cons hlt;have hxH:Rdb H 1 x rs.length (zb1 rs):=hx.keep' (fun j hj=>h.old j (hx.lt hj)) h.next;obtain⟨y,x1,x2⟩:=hxH.int hg;have hb:=hΦ rs[i];obtain⟨H1,e1,h1⟩:=h.put hT hn (x:=Φ rs[i]) (by omega) (by omega) (by omega);have il:=zdj (n:=Φ rs[i]) (by omega) (by omega);have spl:(sp (itoa (Φ rs[i]))).length=(itoa (Φ rs[i])).length+1:=rfl;obtain⟨H',e2,h2,h4⟩:=loopR hx hrl hΦ k (i+1) H1 _ (by omega) h1 (by rw[length_append,spl];omega);rw[hd];have w1:IntKind.i64.wrap ((i:Int)+1)=((i+1:Nat):Int):=zaV (by omega) (by omega);have q:(i:Int)<(rs.length:Int):=by omega
  refine⟨H',?_,?_,?_⟩
  ·rw[zaW];have:zbj RR x (.map (some m)) (.int .i64 (rs.length:Int)) (.pointer (some ⟨b,0,none⟩)) [.int .i64 (i:Int)] H=some (.next,[.int .i64 ((i+1:Nat):Int)],H1):=by unfold zbj;simp only[zbL,zag,zau,qg0,q,decide_true,x1,x2,h.mp.look ikI,zac e1,zbM,w1]
   rw[this];exact e2
  ·rw[append_assoc]at h2;exact h2
  ·unfold zjq at h4 ⊢;rw[flatMap_cons,length_append];omega
end
def zhu(L:List Nd)(rs:List Int):List UInt8:=if (zcn L rs).1=0 then znU zbQ L (zcn L rs).2 rs else []
theorem orderR_in{L:List Nd}(hd:Dag L)(rs:List Int):∀t∈(zcn L rs).2,1≤t∧t≤L.length:=by
 unfold zcn;split
 ·rename_i h;obtain⟨ns,h1,h2⟩:=nats rs h;have e:rs.map Int.toNat=ns:=by rw[h1,zoS]
  rw[e];exact Told.bd ((⟨nodup_nil,fun x h=>by cases h⟩:Told L.length []).posts hd h2)
 ·intro t h;cases h
section
variable {H0:Hp}{p f g:Nat}{lim:Int}{L:List Nd}{K:List (ByteArray×Int)}{sl:Value}(hT:Tabs H0)(hn:PP.globals.size≤H0.next)(hst:StF H0 p lim L K sl f g)(hd:Dag L)(hN:∀m∈L,zpj m)(hL:L.length≤2^40){x:Value}{rs:List Int}(hO:(zcn L rs).2.length≤2^30)(hx:Rdb H0 1 x rs.length (zb1 rs))(hl:rs.length≤2^30)
include hT hn hst hd hN hL hO hx hl
theorem c_dumpW:∃H',RR Bk [.pointer (some ⟨p,0,none⟩),x] H0=some (.tuple #[.string (ba (zhu L rs)),.int .i64 (zcn L rs).1],H')∧H0.next≤H'.next∧∀k,k<H0.next→H'.get k=H0.get k:=by
 obtain⟨H2,v,a1,a2⟩:=c13 hst hd (by omega) hx.o (by omega);have hbd:=hO;have hin:=orderR_in hd rs;have hr:=(zhM E0 rfl (.pointer (some ⟨p,0,none⟩)) x H0).trans (zhY _ _ _ _);unfold zhu;generalize (zcn L rs).1=e at *;generalize (zcn L rs).2=out at *;rw[zac a1,x01,zcz,zag]at hr;by_cases he:e=0
 ·subst he;rw[decide_eq_false (by simp),zam]at hr;have f2:Frm (fun _=>False) H0 H2:=⟨a2.next,fun j hj _=>a2.old j hj⟩
  have hst2:StF H2 p lim L K sl f g:=hst.keep (fun i hi=>a2.old i (hst.foot_lt hi)) a2.next;have hT2:=hT.old hn a2.old;have hn2:PP.globals.size≤H2.next:=Nat.le_trans hn a2.next;have hx2:Rdb H2 1 x rs.length (zb1 rs):=hx.keep' (fun j hj=>a2.old j (hx.lt hj)) a2.next;let HA:Hp:=(H2.new (.cells [.pointer none,.slice none 0 0] true)).mark H2.next Ax
  let HB:Hp:=HA.new (.map [])
  let HC:Hp:=HB.new (.cells zfs true)
  have hgB:∀k,k<H2.next→HB.get k=H2.get k:=fun k hk=>by show (if k=H2.next+1 then _ else if k=H2.next then _ else H2.get k)=_;rw[if_neg (by omega),if_neg (by omega)]
  have hgC:∀k,k<H2.next→HC.get k=H2.get k:=fun k hk=>by show (if k=H2.next+2 then _ else HB.get k)=_;rw[if_neg (by omega),hgB k hk]
  have hTB:Tabs HB:=hT2.old hn2 hgB;have hc:HC.get H2.next=some (.cells [.pointer none,.slice none 0 0] true):=by show (if H2.next=H2.next+2 then _ else if H2.next=H2.next+1 then _ else if H2.next=H2.next then _ else _)=_;rw[if_neg (by omega),if_neg (by omega),if_pos rfl]
  have hm:HC.get (H2.next+1)=some (.map []):=by show (if H2.next+1=H2.next+2 then _ else if H2.next+1=H2.next+1 then _ else _)=_;rw[if_neg (by omega),if_pos rfl]
  have hw:HC.get (H2.next+2)=some (.cells zfs true):=by show (if H2.next+2=H2.next+2 then _ else _)=_;rw[if_pos rfl]
  have hty:HC.ty H2.next=some Ax:=by show (if H2.next=H2.next then _ else _)=_;rw[if_pos rfl]
  have st:DP H2 HC zfs H2.next (H2.next+1) (H2.next+2) [] (fun _=>0):=
   ⟨by show H2.next≤H2.next+1+1+1;omega,hgC,Nat.le_refl _,by omega,by omega,by omega,by omega,by omega,by show H2.next+1<H2.next+1+1+1;omega,by show H2.next+2<H2.next+1+1+1;omega,
    ⟨[],hm,fun t=>rfl⟩,hw,none,⟨hty,by show H2.next<H2.next+1+1+1;omega,_,_,hc,.inl rfl,.inl ⟨rfl,rfl,rfl⟩⟩,fun y hy=>by cases hy⟩
  have ea:∀(k:Value→Hp→Option (Value×Hp)),zmj Ax [.pointer none,.slice none 0 0] H2 k=k (.pointer (some ⟨H2.next,0,none⟩)) HA:=fun k=>rfl;have eb:∀(k:Value→Hp→Option (Value×Hp)),zcG HA k=k (.map (some (H2.next+1))) HB:=fun k=>rfl;have en:RR BS [] HB=some (.slice (some ⟨H2.next+2,0,some 1⟩) 34 34,HC):=c_names hTB;obtain⟨H3,l1,d1,hΦ,len1⟩:=loopL (b:=H2.next) (m:=H2.next+1) (w:=H2.next+2) hT2 hn2 hst2 (by omega) hN a2.vec.rd hin (by omega) out.length 0 HC [] _ (by omega) st (fun t=>by constructor<;>decide) (by simp;omega);rw[qd0,nil_append]at d1;rw[qd0]at hΦ len1;obtain⟨H4,e4,d4⟩:=d1.ws [114,111,111,116,115] (by simp;omega);obtain⟨H5,l2,d5,len2⟩:=loopR hT2 hn2 hx2 hl hΦ rs.length 0 H4 _ (by omega) d4 (by rw[length_append];simp;omega);rw[qd0]at d5 len2;obtain⟨H6,e6,d6⟩:=d5.wb (by rw[length_append,length_append];simp;omega);obtain⟨j,hj,hj2⟩:=d6.bld;obtain⟨H7,e7,bf⟩:=hj.text (by rw[length_append,length_append,length_append];simp;omega);refine⟨H7,hr.trans ?_,?_,fun k hk=>?_⟩
  ·rw[ea,eb,zac en,a2.vec.len];rw[show (0:Int)=((0:Nat):Int) from rfl,l1,zay,zb3,zbf,zac e4,hx2.len,l2,zay,zb3,zbf,zac e6,zac e7,if_pos rfl];rfl
  ·have:=d6.next;have:=bf.next;have:=a2.next;omega
  ·have h2:=a2.next;have h6:=d6.next;have:=d6.lb;rw[bf.get k (by omega) (by omega) (fun q=>by have:=hj2 k q;omega),d6.old k (by omega),a2.old k hk]
 ·rw[decide_eq_true (by simpa using he),zau]at hr;rw[if_neg he];exact⟨H2,hr,a2.next,a2.old⟩
end
end Go.AM
namespace Go.AM
open Go
section
end
end Go.AM
namespace Go.AM
open List Go
def fldC:Fld→UInt8
 |.p=>112
 |.n=>110
 |.w=>119
 |.s=>115
theorem fl_all:((List.range 34).all fun op=>decide (op=0)||decide (fl (op:Int)=(zmy (op:Int)).map fldC))=true:=by decide +kernel
theorem fl_eq{op:Nat}(h1:1≤op)(h2:op≤33):fl (op:Int)=(zmy (op:Int)).map fldC:=by
 have:=all_eq_true.1 fl_all op (mem_range.2 (by omega));rw[Bool.or_eq_true,decide_eq_true_eq,decide_eq_true_eq]at this;rcases this with q|q
 ·omega
 ·exact q
end Go.AM
namespace Go.AM
open Go
section
end
end Go.AM
namespace Go.AM
open List Go
def zd6(L:List Nd)(out:List Nat):Prop:=∀(i:Nat) t,out[i]?=some t→∀c∈kids L t,c∈out.take i
def Grew(L:List Nd)(l out out':List Nat):Prop:=∃new,out'=out++new∧∀(i:Nat) x,new[i]?=some x→x∈l∨∃(j:Nat) (u:Nat),i<j∧new[j]?=some u∧x∈kids L u
theorem zd6.app{L:List Nd}{out:List Nat}{t:Nat}(h:zd6 L out)(hk:∀c∈kids L t,c∈out):zd6 L (out++[t]):=by
 intro i x hx c hc;rw[List.getElem?_append]at hx;split at hx
 ·rename_i lt;rw[take_append_of_le_length (by omega)];exact h i x hx c hc
 ·have:i=out.length:=by have:=(List.getElem?_eq_some_iff.1 hx).1;simp at this;omega
  subst this;simp at hx;subst hx;rw[List.take_left' rfl];exact hk c hc
theorem Grew.refl(L:List Nd)(l out:List Nat):Grew L l out out:=⟨[],by simp,fun i x h=>by cases h⟩
theorem Grew.cons{L:List Nd}{c:Nat}{l out o1 o2:List Nat}(h:Grew L [c] out o1)(k:Grew L l o1 o2):Grew L (c::l) out o2:=by
 obtain⟨n1,e1,h1⟩:=h;obtain⟨n2,e2,h2⟩:=k;refine⟨n1++n2,by rw[e2,e1,append_assoc],fun i x hx=>?_⟩;rw[List.getElem?_append]at hx;split at hx
 ·rename_i lt;rcases h1 i x hx with q|⟨j,u,q1,q2,q3⟩
  ·rw[mem_singleton]at q;subst q;exact .inl (mem_cons_self ..)
  ·have:=(List.getElem?_eq_some_iff.1 q2).1;exact .inr ⟨j,u,q1,by rw[List.getElem?_append_left this];exact q2,q3⟩
 ·rename_i ge;rcases h2 _ x hx with q|⟨j,u,q1,q2,q3⟩
  ·exact .inl (mem_cons_of_mem _ q)
  ·exact .inr ⟨n1.length+j,u,by omega,by rw[List.getElem?_append_right (by omega),Nat.add_sub_cancel_left];exact q2,q3⟩
theorem post_good{L:List Nd}(h:Dag L):∀(t:Nat),1≤t→∀(out:List Nat),zd6 L out→zd6 L (post L t out)∧Grew L [t] out (post L t out):=by
 intro t;induction t using Nat.strongRecOn with
 |_ t ih=>
  intro ht out hc;rw[zeM h ht];split
  ·exact⟨hc,Grew.refl ..⟩
  ·have key:∀(l:List Nat) (o:List Nat),(∀c∈l,c∈kids L t)→zd6 L o→zd6 L (posts L l o)∧Grew L l o (posts L l o):=by
    intro l;induction l with
    |nil=>exact fun o _ h=>⟨h,Grew.refl ..⟩
    |cons c l ihl=>
     intro o hl ho;have hcc:=zdE h ht (hl c (mem_cons_self ..));obtain⟨a1,a2⟩:=ih c hcc.2 hcc.1 o ho;obtain⟨b1,b2⟩:=ihl _ (fun c hc=>hl c (mem_cons_of_mem _ hc)) a1;exact⟨b1,a2.cons b2⟩
   obtain⟨k1,new,e,k2⟩:=key (kids L t) out (fun c hc=>hc) hc;have hm:=(zcc h (N:=t) (kids L t) out fun c hc=>by have:=zdE h ht hc;omega).2.1;refine⟨k1.app hm,new++[t],by rw[e,append_assoc],fun i x hx=>?_⟩;rw[List.getElem?_append]at hx;split at hx
   ·rename_i lt;rcases k2 i x hx with q|⟨j,u,q1,q2,q3⟩
    ·exact .inr ⟨new.length,t,lt,by rw[List.getElem?_append_right (Nat.le_refl _),Nat.sub_self];rfl,q⟩
    ·have:=(List.getElem?_eq_some_iff.1 q2).1;exact .inr ⟨j,u,q1,by rw[List.getElem?_append_left this];exact q2,q3⟩
   ·rename_i ge;have:=mem_of_getElem? hx;exact .inl this
theorem zf5{L:List Nd}(h:Dag L):∀(l o:List Nat),(∀c∈l,1≤c)→zd6 L o→zd6 L (posts L l o)∧Grew L l o (posts L l o)
 |[],o,_,ho=>⟨ho,Grew.refl ..⟩
 |c::l,o,hl,ho=>by obtain⟨a1,a2⟩:=post_good h c (hl c (mem_cons_self ..)) o ho;obtain⟨b1,b2⟩:=zf5 h l _ (fun c hc=>hl c (mem_cons_of_mem _ hc)) a1;exact⟨b1,a2.cons b2⟩
theorem zqR{L:List Nd}(h:Dag L){i:Nat}{n:Nd}(hn:L[i]?=some n):(∀c∈zbO n,(c:Int)=n.a∨(c:Int)=n.b∨(c:Int)=n.c)∧(∀x:Int,x=n.a∨x=n.b∨x=n.c→x≠0→∃c∈zbO n,(c:Int)=x):=by
 have ha:=h.a i n hn;have hb:=h.b i n hn;have hc:=h.c i n hn;unfold zbO;rcases zbJ n.op with q|q|q|q<;>rw[q]
 ·refine⟨fun c hcm=>by simp at hcm,fun x hx h0=>by omega⟩
 ·refine⟨fun c hcm=>?_,fun x hx h0=>?_⟩
  ·simp at hcm;omega
  ·exact⟨n.a.toNat,by simp,by omega⟩
 ·refine⟨fun c hcm=>?_,fun x hx h0=>?_⟩
  ·simp at hcm;omega
  ·rcases hx with e|e|e
   ·exact⟨n.a.toNat,by simp,by omega⟩
   ·exact⟨n.b.toNat,by simp,by omega⟩
   ·omega
 ·refine⟨fun c hcm=>?_,fun x hx h0=>?_⟩
  ·simp at hcm;omega
  ·rcases hx with e|e|e
   ·exact⟨n.a.toNat,by simp,by omega⟩
   ·exact⟨n.b.toNat,by simp,by omega⟩
   ·exact⟨n.c.toNat,by simp,by omega⟩
structure zb8(L:List Nd)(K:List (ByteArray×Int)):Prop where
 dag:Dag L
 rt:∀m∈L,zed L K m
 num:∀m∈L,ziT m
 nod:∀(i j:Nat) m,L[i]?=some m→L[j]?=some m→i=j
 kn:∀m∈L,m.op=4→∃j,za6 m.name 0 K=some (j,m.w)
theorem zb8.nil:zb8 [] []:=⟨Dag.nil,fun m h=>(by cases h),fun m h=>(by cases h),fun i j m h=>(by cases h),fun m h=>by cases h⟩
theorem zlo{s:ByteArray}(M:List (ByteArray×Int)):∀(K:List (ByteArray×Int)) (i:Nat) (q:Nat×Int),za6 s i K=some q→za6 s i (K++M)=some q
 |[],i,q,h=>by cases h
 |(u,v)::r,i,q,h=>by
  unfold za6 at h;show za6 s i ((u,v)::(r++M))=_;unfold za6;split at h
  ·rename_i e;rw[if_pos e];exact h
  ·rename_i e;rw[if_neg e];exact zlo M r (i+1) q h
theorem zlp{s t:ByteArray}{w:Int}:∀(K:List (ByteArray×Int)) (i j:Nat) (v:Int),za6 t i (K++[(s,w)])=some (j,v)→(∃j',za6 t i K=some (j',v))∨(t=s∧v=w)
 |[],i,j,v,h=>by
  have h:za6 t i [(s,w)]=some (j,v):=h;unfold za6 at h;split at h
  ·rename_i e;cases h;exact .inr ⟨(zq7 t s).1 e,rfl⟩
  ·cases h
 |(u,x)::r,i,j,v,h=>by
  have h:za6 t i ((u,x)::(r++[(s,w)]))=some (j,v):=h;unfold za6 at h ⊢;split at h
  ·rename_i e;cases h;rw[if_pos e];exact .inl ⟨_,rfl⟩
  ·rename_i e;rw[if_neg e];exact zlp r (i+1) j v h
theorem zoQ{s t:ByteArray}{w:Int}{K:List (ByteArray×Int)}{q:Nat×Int}(h:za6 t 0 K=some q):za6 t 0 (zbm s w K)=some q:=by
 unfold zbm;split
 ·exact h
 ·exact zlo _ K 0 q h
theorem znz{s:ByteArray}{w:Int}{K:List (ByteArray×Int)}(h:∀j v,za6 s 0 K=some (j,v)→v=w):∃j,za6 s 0 (zbm s w K)=some (j,w):=by
 unfold zbm;cases hq:za6 s 0 K with
 |some q=>exact⟨q.1,by rw[←h q.1 q.2 hq];exact hq⟩
 |none=>exact⟨_,zhW s s w K 0 hq⟩
theorem zi9{K:List (ByteArray×Int)}{n:Nd}(h:zbr K n=false):zep n.name=true∧∀j v,za6 n.name 0 K=some (j,v)→v=n.w:=by unfold zbr at h;rw[Bool.or_eq_false_iff]at h;refine⟨by simpa using h.1,fun j v hv=>?_⟩;have h2:=h.2;rw[hv]at h2;simpa using h2
theorem bad_of{K:List (ByteArray×Int)}{n:Nd}(h1:zep n.name=true)(h2:∀j v,za6 n.name 0 K=some (j,v)→v=n.w):zbr K n=false:=by
 unfold zbr;rw[h1];cases hq:za6 n.name 0 K with
 |none=>rfl
 |some q=>have:=h2 q.1 q.2 hq;simp[this]
theorem zed.free{L:List Nd}{K:List (ByteArray×Int)}{n:Nd}(h:zed L K n)(h4:n.op=4):zbr K n=false:=by
 cases q:zbr K n with
 |false=>rfl
 |true=>exact absurd ⟨h4,q⟩ h.nm
theorem zmp{lim:Int}{L:List Nd}{K:List (ByteArray×Int)}{n:Nd}(hn:ziT n)(h:zb8 L K):zb8 (mkR lim L K n).2.2.1 (mkR lim L K n).2.2.2:=by
 by_cases h0:(mkR lim L K n).2.1=0
 ·have hdag:=mk_dag (lim:=lim) (K:=K) (n:=n) h.dag;obtain⟨hr,⟨q,hq,e⟩|⟨hq,_,e⟩⟩:=znB h0
  ·rw[e];exact h
  ·rw[e]at hdag ⊢;have hself:n.op=4→∃j,za6 n.name 0 (zbm n.name n.w K)=some (j,n.w):=fun h4=>znz (zi9 (hr.free h4)).2;have hpre:∀(t:ByteArray) q,za6 t 0 K=some q→za6 t 0 (if n.op=4 then zbm n.name n.w K else K)=some q:=fun t q hq=>by
    split
    ·exact zoQ hq
    ·exact hq
   refine⟨hdag,fun m hm=>?_,fun m hm=>?_,fun i j m hi hj=>?_,fun m hm h4=>?_⟩
   ·rcases mem_append.1 hm with q|q
    ·refine(h.rt m q).app fun h4=>?_;obtain⟨j,hj⟩:=h.kn m q h4;refine bad_of (zi9 ((h.rt m q).free h4)).1 fun j' v hv=>?_;rw[hpre _ _ hj]at hv;cases hv;rfl
    ·rw[mem_singleton]at q;subst q;refine hr.app fun h4=>?_;rw[if_pos h4];exact zph (hr.free h4)
   ·rcases mem_append.1 hm with q|q
    ·exact h.num m q
    ·rw[mem_singleton]at q;rw[q];exact hn
   ·have hno:=zcT n L 0 hq;rcases zkI hi with a|⟨a1,a2⟩<;>rcases zkI hj with b|⟨b1,b2⟩
    ·exact h.nod i j m a b
    ·subst b2;exact absurd a (hno i)
    ·subst a2;exact absurd b (hno j)
    ·rw[a1,b1]
   ·rcases mem_append.1 hm with q|q
    ·obtain⟨j,hj⟩:=h.kn m q h4;exact⟨j,hpre _ _ hj⟩
    ·rw[mem_singleton]at q;subst q;rw[if_pos h4];exact hself h4
 ·rw[mk_no h0];exact h
def ixO(O:List Nat)(t:Nat):Nat:=O.idxOf t+1
def rpI(O:List Nat)(x:Int):Int:=if x≤0 then 0 else (ixO O x.toNat:Int)
def renN(O:List Nat)(n:Nd):Nd:={ n with a:=rpI O n.a,b:=rpI O n.b,c:=rpI O n.c }
def renL(L:List Nd)(O:List Nat):List Nd:=O.map fun t=>renN O (zaJ L t)
theorem ix_at{O:List Nat}(hn:O.Nodup){i t:Nat}(h:O[i]?=some t):ixO O t=i+1:=by unfold ixO;have hlt:=(List.getElem?_eq_some_iff.1 h).1;have he:O[i]=t:=(List.getElem?_eq_some_iff.1 h).2;rw[←he,hn.idxOf_getElem]
theorem ix_inj{O:List Nat}{t u:Nat}(ht:t∈O)(h:ixO O t=ixO O u):t=u:=by
 unfold ixO at h;have h:O.idxOf t=O.idxOf u:=by omega
 have h1:=idxOf_lt_length_of_mem ht;have e1:O[O.idxOf t]=t:=getElem_idxOf h1;have h2:O.idxOf u<O.length:=by omega
 have e2:O[O.idxOf u]=u:=getElem_idxOf h2;rw[←e1,←e2];congr 1
structure Ord(L:List Nd)(O:List Nat):Prop where
 nd:O.Nodup
 bd:∀t∈O,1≤t∧t≤L.length
 cl:zd6 L O
theorem zaS{L:List Nd}{t:Nat}(h:1≤t∧t≤L.length):L[t-1]?=some (zaJ L t):=by unfold zaJ;rw[List.getElem?_eq_getElem (by omega)];rfl
theorem Ord.kid{L:List Nd}{O:List Nat}(h:Ord L O)(hd:Dag L){i t:Nat}(ht:O[i]?=some t){x:Int}(hx:x=(zaJ L t).a∨x=(zaJ L t).b∨x=(zaJ L t).c):x=0∨∃c:Nat,x=(c:Int)∧1≤c∧c∈O.take i:=by
 have hb:=h.bd t (mem_of_getElem? ht);have hn:=zaS hb;by_cases h0:x=0
 ·exact .inl h0
 ·obtain⟨c,c1,c2⟩:=(zqR hd hn).2 x hx h0;have hk:c∈kids L t:=by unfold kids;rw[hn];exact c1
  exact .inr ⟨c,c2.symm,(zdE hd hb.1 hk).1,h.cl i t ht c hk⟩
theorem rp_kid{L:List Nd}{O:List Nat}(h:Ord L O){i c:Nat}(hc:c∈O.take i)(h1:1≤c):rpI O (c:Int)=(ixO O c:Int)∧1≤ixO O c∧ixO O c≤i∧O[ixO O c-1]?=some c:=by
 obtain⟨j,hj⟩:=List.getElem?_of_mem hc;have hji:j<i:=by have:=(List.getElem?_eq_some_iff.1 hj).1;rw[length_take]at this;omega
 rw[List.getElem?_take,if_pos hji]at hj;have e:=ix_at h.nd hj;refine⟨?_,by omega,by omega,by rw[e];exact hj⟩;unfold rpI;rw[if_neg (by omega),Int.toNat_natCast]
theorem ren_get{L:List Nd}{O:List Nat}{i t:Nat}(h:O[i]?=some t):(renL L O)[i]?=some (renN O (zaJ L t)):=by unfold renL;rw[List.getElem?_map,h];rfl
theorem ren_len(L:List Nd)(O:List Nat):(renL L O).length=O.length:=by unfold renL;rw[length_map]
theorem zox(O:List Nat)(x:Int)(h:x=0):rpI O x=0:=by rw[h];rfl
end Go.AM
namespace Go.AM.N14
open Go Go.AM
theorem s_not'{α:Type}(b:Bool)(k:Value→Option α):pUn .not (.bool b) k=k (.bool !b):=rfl
section
end
end Go.AM.N14
namespace Go.AM
open List Go
def fw(F:Int→Int)(n:Nd):List Fld→Nat→List (List UInt8)
 |[],_=>[]
 |.p::r,k=>itoa (F ([n.a,n.b,n.c].getD k 0))::fw F n r (k+1)
 |.n::r,k=>numT n.num.toNat::fw F n r k
 |.w::r,k=>itoa n.w::fw F n r k
 |.s::r,k=>n.name.data.toList::fw F n r k
theorem zoc(F:Int→Int)(n:Nd):∀(fs:List Fld) (k:Nat),act F n (fs.map fldC) k=(fw F n fs k).flatMap sp
 |[],k=>rfl
 |.p::r,k=>by
  rw[map_cons];show sp _++act F n (r.map fldC) (k+1)=_;rw[zoc F n r (k+1)];rfl
 |.n::r,k=>by
  rw[map_cons];show sp _++act F n (r.map fldC) k=_;rw[zoc F n r k];rfl
 |.w::r,k=>by
  rw[map_cons];show sp _++act F n (r.map fldC) k=_;rw[zoc F n r k];rfl
 |.s::r,k=>by rw[map_cons];show sp _++act F n (r.map fldC) k=_;rw[zoc F n r k];rfl
def upT(n:Nat):List Int:=(List.range n).map fun (j:Nat)=>((j+1:Nat):Int)
section
end
theorem q_seqlE(a b:ByteArray)(h:(a.toList==b.toList)=true):a=b:=by
 have h:a.toList=b.toList:=by simpa using h
 rw[Go.Lib.toList_data,Go.Lib.toList_data]at h;rw[zlJ (s:=a) rfl,zlJ (s:=b) rfl,h]
theorem nd_parts{M:List Nd}{K:List (ByteArray×Int)}{n:Nd}(h:zed M K n):(zax n.op≥1→1≤n.a∧n.a≤M.length)∧(zax n.op<1→n.a=0)∧(zax n.op≥2→1≤n.b∧n.b≤M.length)∧(zax n.op<2→n.b=0)∧(zax n.op≥3→1≤n.c∧n.c≤M.length)∧(zax n.op<3→n.c=0) ∧
  (n.op≠3→n.op≠31→n.num=0)∧(n.op≠4→n.name=⟨#[]⟩):=by
 obtain⟨_,_,_,ha,hb,hc⟩:=zme h.pt h.sp;have h2:=h.sp;unfold zdq at h2;simp only[Bool.or_eq_true,Bool.and_eq_true,decide_eq_true_eq,not_or,not_and]at h2;refine⟨fun q=>zbv.1 (ha q),fun q=>?_,fun q=>zbv.1 (hb q),fun q=>?_,fun q=>zbv.1 (hc q),fun q=>?_,fun q1 q2=>?_,fun q=>?_⟩
 ·have:=h2.1.1.1.1 q;omega
 ·have:=h2.1.1.1.2 q;omega
 ·have:=h2.1.1.2 q;omega
 ·exact Decidable.byContradiction fun e=>h2.1.2 ⟨e,q1⟩ q2
 ·have hn:zhV n=false:=by
   cases e:zhV n with
   |false=>rfl
   |true=>exact absurd q (h2.2 e)
  unfold zhV at hn;have he:(n.name.toList==(⟨#[]⟩:ByteArray).toList)=true:=by simpa using hn
  have h3:=q_seqlE n.name ⟨#[]⟩ he;exact h3
theorem zk1:((List.range 34).all fun op=>decide ((zmy (op:Int)).count .p=(zax (op:Int)).toNat))=true:=by decide +kernel
theorem zqT{op:Int}(h:1≤op∧op≤33):(zmy op).count .p=(zax op).toNat:=by
 obtain⟨o,ho⟩:∃o:Nat,op=(o:Int):=⟨op.toNat,by omega⟩
 subst ho;exact of_decide_eq_true (all_eq_true.1 zk1 o (mem_range.2 (by omega)))
theorem zly(F:Int→Int)(i:Nat)(n:Nd)(h:1≤n.op∧n.op≤33):line zbQ F i n=(itoa ((i+1:Nat):Int)++(word zbQ n.op::fw F n (zmy n.op) 0).flatMap sp)++[10]:=by
 obtain⟨o,ho⟩:∃o:Nat,n.op=(o:Int):=⟨n.op.toNat,by omega⟩
 have hf:fl n.op=(zmy n.op).map fldC:=by rw[ho];exact fl_eq (by omega) (by omega)
 unfold line;rw[hf,zoc,flatMap_cons];unfold sp;simp only[append_assoc,cons_append,nil_append]
section
end
section
end
theorem ix_le{O:List Nat}{u:Nat}(hu:u∈O):ixO O u≤O.length:=by unfold ixO;exact idxOf_lt_length_of_mem hu
theorem ix_pos(O:List Nat)(u:Nat):1≤ixO O u:=by unfold ixO;omega
section
end
section
variable {L:List Nd}{K:List (ByteArray×Int)}(hg:zb8 L K){O:List Nat}(h:Ord L O)
include hg h
theorem ren_dag:Dag (renL L O):=by
 have key:∀(i:Nat) m,(renL L O)[i]?=some m→∃t,O[i]?=some t∧m=renN O (zaJ L t):=fun i m hm=>by
  unfold renL at hm;rw[List.getElem?_map]at hm;cases q:O[i]? with
  |none=>rw[q]at hm;cases hm
  |some t=>rw[q]at hm;cases hm;exact⟨t,rfl,rfl⟩
 have one:∀(i:Nat) (t:Nat),O[i]?=some t→∀x:Int,(x=(zaJ L t).a∨x=(zaJ L t).b∨x=(zaJ L t).c)→1≤x→1≤rpI O x∧rpI O x≤i:=fun i t ht x hx h1=>by
  rcases h.kid hg.dag ht hx with q|⟨c,rfl,c1,c2⟩
  ·omega
  ·have:=rp_kid h c2 c1;omega
 refine⟨fun i m hm=>?_,fun i m hm=>?_,fun i m hm=>?_⟩<;>obtain⟨t,ht,rfl⟩:=key i m hm
 ·rcases hg.dag.a _ _ (zaS (h.bd t (mem_of_getElem? ht))) with⟨q1,q2,_⟩|⟨q1,q2⟩
  ·exact .inl ⟨q1,one i t ht _ (.inl rfl) q2⟩
  ·exact .inr ⟨q1,zox O _ q2⟩
 ·rcases hg.dag.b _ _ (zaS (h.bd t (mem_of_getElem? ht))) with⟨q1,q2,_⟩|⟨q1,q2⟩
  ·exact .inl ⟨q1,one i t ht _ (.inr (.inl rfl)) q2⟩
  ·exact .inr ⟨q1,zox O _ q2⟩
 ·rcases hg.dag.c _ _ (zaS (h.bd t (mem_of_getElem? ht))) with⟨q1,q2,_⟩|⟨q1,q2⟩
  ·exact .inl ⟨q1,one i t ht _ (.inr (.inr rfl)) q2⟩
  ·exact .inr ⟨q1,zox O _ q2⟩
theorem zpH{t:Nat}(ht:t∈O):(renL L O)[ixO O t-1]?=some (renN O (zaJ L t)):=by obtain⟨i,hi⟩:=List.getElem?_of_mem ht;rw[ix_at h.nd hi,Nat.add_sub_cancel];exact ren_get hi
theorem ren_kids{t:Nat}(ht:t∈O):kids (renL L O) (ixO O t)=(kids L t).map (ixO O):=by
 obtain⟨i,hi⟩:=List.getElem?_of_mem ht;have hb:=h.bd t ht;have hn:=zaS hb;have da:=hg.dag.a _ _ hn;have db:=hg.dag.b _ _ hn;have dc:=hg.dag.c _ _ hn;have e1:kids (renL L O) (ixO O t)=zbO (renN O (zaJ L t)):=by unfold kids;rw[zpH hg h ht]
 have e2:kids L t=zbO (zaJ L t):=by unfold kids;rw[hn]
 rw[e1,e2];have one:∀x:Int,1≤x→(rpI O x).toNat=ixO O x.toNat:=fun x h1=>by unfold rpI;rw[if_neg (by omega),Int.toNat_natCast]
 generalize zaJ L t=n at *;unfold zbO;rw[show (renN O n).op=n.op from rfl,show (renN O n).a=rpI O n.a from rfl,show (renN O n).b=rpI O n.b from rfl,show (renN O n).c=rpI O n.c from rfl];rcases zbJ n.op with q|q|q|q<;>rw[q]at da db dc ⊢
 ·rfl
 ·show [(rpI O n.a).toNat]=[ixO O n.a.toNat]
  rw[one n.a (by omega)]
 ·show [(rpI O n.a).toNat,(rpI O n.b).toNat]=[ixO O n.a.toNat,ixO O n.b.toNat]
  rw[one n.a (by omega),one n.b (by omega)]
 ·show [(rpI O n.a).toNat,(rpI O n.b).toNat,(rpI O n.c).toNat]=[ixO O n.a.toNat,ixO O n.b.toNat,ixO O n.c.toNat]
  rw[one n.a (by omega),one n.b (by omega),one n.c (by omega)]
theorem kid_in{t:Nat}(ht:t∈O){c:Nat}(hc:c∈kids L t):c∈O:=by obtain⟨i,hi⟩:=List.getElem?_of_mem ht;exact mem_of_mem_take (h.cl i t hi c hc)
theorem ren_mem{t:Nat}(ht:t∈O){o:List Nat}:ixO O t∈o.map (ixO O)↔t∈o:=by refine⟨fun q=>?_,fun q=>mem_map_of_mem q⟩;obtain⟨u,hu,e⟩:=mem_map.1 q;rw[ix_inj ht e.symm];exact hu
theorem ren_post:∀(t:Nat),t∈O→∀o:List Nat,post (renL L O) (ixO O t) (o.map (ixO O))=(post L t o).map (ixO O):=by
 have hd:=ren_dag hg h;intro t;induction t using Nat.strongRecOn with
 |_ t ih=>
  intro ht o;have ht1:=(h.bd t ht).1;rw[zeM hd (ix_pos O t),zeM hg.dag ht1];by_cases hm:t∈o
  ·rw[if_pos hm,if_pos ((ren_mem hg h ht).2 hm)]
  ·rw[if_neg hm,if_neg fun q=>hm ((ren_mem hg h ht).1 q),map_append,ren_kids hg h ht];have key:∀(l:List Nat) (o:List Nat),(∀c∈l,c∈kids L t)→posts (renL L O) (l.map (ixO O)) (o.map (ixO O))=(posts L l o).map (ixO O):=by
    intro l;induction l with
    |nil=>intro o _;rfl
    |cons c l ihl=>
     intro o hl;have hc:=hl c (mem_cons_self ..);rw[map_cons,zdn,zdn,ih c (zdE hg.dag ht1 hc).2 (kid_in hg h ht hc),ihl _ fun x hx=>hl x (mem_cons_of_mem _ hx)]
   rw[key _ o fun c hc=>hc];rfl
theorem zm8:∀(l o:List Nat),(∀c∈l,c∈O)→posts (renL L O) (l.map (ixO O)) (o.map (ixO O))=(posts L l o).map (ixO O)
 |[],o,_=>rfl
 |c::l,o,hl=>by rw[map_cons,zdn,zdn,ren_post hg h c (hl c (mem_cons_self ..)),zm8 l _ fun x hx=>hl x (mem_cons_of_mem _ hx)]
omit hg h in
theorem line_same{F F2:Int→Int}{i:Nat}{n m:Nd}(h:fw F n (zmy n.op) 0=fw F2 m (zmy n.op) 0)(ho:m.op=n.op)(hop:1≤n.op∧n.op≤33):line zbQ F i n=line zbQ F2 i m:=by rw[zly F i n hop,zly F2 i m (by rw[ho];exact hop),ho,h]
omit hg h in
theorem znJ{F F2:Int→Int}{n m:Nd}(hw:m.w=n.w)(hn:m.num=n.num)(hs:m.name=n.name):∀(fs:List Fld) (k:Nat),(∀j,k≤j→j<k+fs.count .p→F ([n.a,n.b,n.c].getD j 0)=F2 ([m.a,m.b,m.c].getD j 0))→fw F n fs k=fw F2 m fs k
 |[],k,h=>rfl
 |.p::r,k,h=>by
  rw[count_cons_self]at h;show itoa _::fw F n r (k+1)=itoa _::fw F2 m r (k+1);rw[h k (Nat.le_refl _) (by omega),znJ hw hn hs r (k+1) fun j h1 h2=>h j (by omega) (by omega)]
 |.n::r,k,h=>by
  have hc:(Fld.n::r).count .p=r.count .p:=count_cons_of_ne (by decide);rw[hc]at h;show numT _::fw F n r k=numT _::fw F2 m r k;rw[hn,znJ hw hn hs r k h]
 |.w::r,k,h=>by
  have hc:(Fld.w::r).count .p=r.count .p:=count_cons_of_ne (by decide);rw[hc]at h;show itoa _::fw F n r k=itoa _::fw F2 m r k;rw[hw,znJ hw hn hs r k h]
 |.s::r,k,h=>by have hc:(Fld.s::r).count .p=r.count .p:=count_cons_of_ne (by decide);rw[hc]at h;show n.name.data.toList::fw F n r k=m.name.data.toList::fw F2 m r k;rw[hs,znJ hw hn hs r k h]
theorem zm9:∀(r:List Nat) (i:Nat) (F F2:Int→Int),O.drop i=r→(∀u∈O.take i,F (u:Int)=F2 (ixO O u:Int)) →
  zgs zbQ (renL L O) i (r.map (ixO O)) F2=zgs zbQ L i r F∧(∀u,(u∈O.take i∨u∈r)→zio i r F (u:Int)=zio i (r.map (ixO O)) F2 (ixO O u:Int))
 |[],i,F,F2,hr,hF=>⟨rfl,fun u hu=>by
  rcases hu with q|q
  ·exact hF u q
  ·cases q⟩
 |t::r,i,F,F2,hr,hF=>by
  have ht:O[i]?=some t:=by have:=congrArg (fun x=>x[0]?) hr;simpa using this
  have hmem:=mem_of_getElem? ht;have hr2:O.drop (i+1)=r:=by rw[←drop_drop,hr];rfl
  have hF2:∀u,(u=t∨u∈O.take i)→upF F (t:Int) ((i+1:Nat):Int) (u:Int)=upF F2 (ixO O t:Int) ((i+1:Nat):Int) (ixO O u:Int):=fun u hu=>by
   unfold upF;by_cases e:u=t
   ·rw[e,if_pos rfl,if_pos rfl]
   ·rw[if_neg (by omega),if_neg fun q=>e (ix_inj hmem (show ixO O t=ixO O u by omega)).symm];rcases hu with q|q
    ·exact absurd q e
    ·exact hF u q
  have htk:∀u∈O.take (i+1),upF F (t:Int) ((i+1:Nat):Int) (u:Int)=upF F2 (ixO O t:Int) ((i+1:Nat):Int) (ixO O u:Int):=fun u hu=>by
   rw[take_add_one,ht]at hu;rcases mem_append.1 hu with q|q
   ·exact hF2 u (.inr q)
   ·exact hF2 u (.inl (by simpa using q))
  obtain⟨ih1,ih2⟩:=zm9 r (i+1) (upF F (t:Int) ((i+1:Nat):Int)) (upF F2 (ixO O t:Int) ((i+1:Nat):Int)) hr2 htk;refine⟨?_,fun u hu=>ih2 u ?_⟩
  ·rw[map_cons];show line zbQ (upF F2 (ixO O t:Int) _) i (zaJ (renL L O) (ixO O t))++zgs zbQ (renL L O) (i+1) (r.map (ixO O)) (upF F2 (ixO O t:Int) _)=line zbQ (upF F (t:Int) _) i (zaJ L t)++zgs zbQ L (i+1) r (upF F (t:Int) _);rw[ih1];congr 1;have hnd:zaJ (renL L O) (ixO O t)=renN O (zaJ L t):=by unfold zaJ;rw[zpH hg h hmem];rfl
   rw[hnd];have hrt:=hg.rt _ (mem_of_getElem? (zaS (h.bd t hmem)));have hop:1≤(zaJ L t).op∧(zaJ L t).op≤33:=by have:¬((zaJ L t).op<1∨(zaJ L t).op>33):=hrt.op;omega
   have hparts:=nd_parts hrt;have hkid:=fun x hx=>h.kid hg.dag ht (x:=x) hx;have hcnt:=zqT (op:=(zaJ L t).op) hop;have hpc:=zbJ (zaJ L t).op;refine(line_same (F:=upF F (t:Int) ((i+1:Nat):Int)) (F2:=upF F2 (ixO O t:Int) ((i+1:Nat):Int)) (n:=zaJ L t) (m:=renN O (zaJ L t)) ?_ rfl hop).symm;have one:∀x:Int,(x=(zaJ L t).a∨x=(zaJ L t).b∨x=(zaJ L t).c)→1≤x→upF F (t:Int) ((i+1:Nat):Int) x=upF F2 (ixO O t:Int) ((i+1:Nat):Int) (rpI O x):=fun x hx h1=>by
    rcases hkid x hx with q|⟨c,rfl,c1,c2⟩
    ·omega
    ·rw[(rp_kid h c2 c1).1];exact hF2 c (.inr c2)
   refine znJ (n:=zaJ L t) (m:=renN O (zaJ L t)) rfl rfl rfl (zmy (zaJ L t).op) 0 fun j _ hj=>?_;rw[hcnt]at hj
   match j,hj with
   |0,hj=>exact one _ (.inl rfl) (hparts.1 (by omega)).1
   |1,hj=>exact one _ (.inr (.inl rfl)) (hparts.2.2.1 (by omega)).1
   |2,hj=>exact one _ (.inr (.inr rfl)) (hparts.2.2.2.2.1 (by omega)).1
   |j+3,hj=>omega
  ·rw[take_add_one,ht];rcases hu with q|q
   ·exact .inl (mem_append_left _ q)
   ·rcases mem_cons.1 q with q|q
    ·exact .inl (mem_append_right _ (by simp[q]))
    ·exact .inr q
theorem zl9{ns:List Nat}(hns:∀t∈ns,t∈O):znU zbQ (renL L O) (O.map (ixO O)) ((ns.map (ixO O)).map fun (t:Nat)=>(t:Int))=znU zbQ L O (ns.map fun (t:Nat)=>(t:Int)):=by
 obtain⟨a1,a2⟩:=zm9 hg h O 0 (fun _=>0) (fun _=>0) rfl (fun u hu=>by simp at hu);unfold znU;rw[a1];congr 2;unfold zjq;induction ns with
 |nil=>rfl
 |cons t r ih=>
  rw[map_cons,map_cons,map_cons,flatMap_cons,flatMap_cons,ih fun x hx=>hns x (mem_cons_of_mem _ hx)];rw[a2 t (.inr (hns t (mem_cons_self ..)))]
end
theorem zjM{L:List Nd}(hd:Dag L){ns:List Nat}(hns:∀t∈ns,1≤t∧t≤L.length):Ord L (posts L ns [])∧(∀t∈ns,t∈posts L ns []):=by have ht:Told L.length (posts L ns []):=(⟨nodup_nil,fun x h=>by cases h⟩:Told L.length []).posts hd hns;have hc:=(zf5 hd ns [] (fun c hc=>(hns c hc).1) (fun i t q=>by cases q)).1;exact⟨⟨ht.nd,ht.bd,hc⟩,(zcc hd ns [] hns).2.1⟩
theorem ask_goodS{lim:Int}{L:List Nd}{K:List (ByteArray×Int)}{o:OpA}(ho:o.Ok)(h:zb8 L K):zb8 (askR lim L K o).2.2.1 (askR lim L K o).2.2.2:=
 ask_indN (Q:=fun r=>zb8 r.2.2.1 r.2.2.2) (fun n hn=>zmp hn h) (fun e=>h) ho
theorem zm5{lim:Int}:∀(os:List OpA) (L:List Nd) (K:List (ByteArray×Int)),(∀o∈os,o.Ok)→zb8 L K→zb8 (runR lim os L K).1 (runR lim os L K).2
 |[],L,K,_,h=>h
 |o::os,L,K,ho,h=>zm5 os _ _ (fun x hx=>ho x (mem_cons_of_mem _ hx)) (ask_goodS (ho o (mem_cons_self ..)) h)
end Go.AM
namespace Go.AM.N14
open Go Go.AM
section
end
theorem shr_nat(x:W64)(n:Nat):(x >>> n).toNat=x.toNat/2^n:=by rw[BitVec.toNat_ushiftRight,Nat.shiftRight_eq_div_pow]
section
end
section
end
section
end
section
end
end Go.AM.N14
namespace Go.AM.N14
open Go Go.AM Go.ChangeShapes Go.WideShapes Go.ChangeAt Go.RowKit
end Go.AM.N14
namespace Go.AM.N14
open Go Go.AM
def lv(i:Nat):List Value:=[.int .i64 (if 0<i then 1 else 0),.int .i64 (if 1<i then 2 else 0),.int .i64 (if 2<i then 3 else 0)]
end Go.AM.N14
namespace Go.AM
open Go
end Go.AM
namespace Go.AM.N14
open Go Go.AM
end Go.AM.N14
namespace Go.AM
open Go
section
variable {H:Hp}{p f g:Nat}{lim:Int}{L:List Nd}{K:List (ByteArray×Int)}{sl:Value}(hs:StR H p lim L sl f g)
include hs
theorem c10(hL:(L.length:Int)≤4611686018427387904)(t:Int):RR AC [.pointer (some ⟨p,0,none⟩),.int .i64 t] H=some (.tuple #[(zj6 L t).val,.int .i64 (if isT L t=true then 0 else 70)],H):=by
 refine(zhK E0 rfl _ _ _).trans ?_;unfold zes;rw[zac (c19 hs),zb0,zag];unfold zj6;cases ht:isT L t with
 |false=>simp only[Bool.not_false,br,bnil,spl7,zgl,Bool.false_eq_true,if_false]
 |true=>
  obtain⟨i,n,hn,hi,hx⟩:=s_idx hs.all ht hL (fun p11=>zaH 7 true H p11 fun v12=>
   zaE 7 [.int .i64 0,.int .i64 0,.int .i64 0,.int .i64 0,.int .i64 0,.int .u64 0,.string ⟨#[]⟩] 0 v12 fun c13=>zaf 7 true c13 0 fun v14=>some ((Value.tuple #[v14,(.int .i64 0)]),H))
  simp only[Bool.not_true,br,zbw,zaY,Nat.zero_add,hs.l1,zd8,if_true];rw[hx,ld7 hi hn,spl7,zgl,hn];rfl
end
end Go.AM
namespace Go.AM.N14
open Go Go.AM
theorem ikV:zod PP Aa:=⟨fun a b=>by kernel_rfl,fun a=>by kernel_rfl⟩
section
end
section
end
section
end
section
end
end Go.AM.N14
namespace Go.AM.N14
open List Go Go.AM
def zpg:List Int:=Go.Lib.deBruijn64tab.map fun (n:Nat)=>(n:Int)
structure TabB(H:Hp):Prop where
 lt:Au<H.next
 ob:∃cs e fz,H.get Au=some (.fix (.cells cs e fz))∧cs.toList=zpg.map fun z=>Value.int .u8 z
theorem ldx{α:Type}{H:Hp}{g:Nat}{cs:Array Value}{e:TypeId}{fz:Nat×Nat}(h:H.get g=some (.fix (.cells cs e fz))){off:Nat}{kd:IntKind}{z:Int}(hc:cs.toList[off]?=some (.int kd z))(k:Value→Option α) :
  zaH 1 false H (.pointer (some ⟨g,off,none⟩)) k=k (.int kd z):=by
 have:H.rdP (.pointer (some ⟨g,off,none⟩)) 1 false=some (.int kd z):=by unfold Hp.rdP Hp.rd;dsimp only;rw[h];dsimp only;rw[hc]
 unfold zaH;rw[this]
theorem brC:(285870213051353865#64).toNat=285870213051353865:=by decide
theorem brV:Value.int .u64 285870213051353865=wv (285870213051353865#64):=by unfold wv;rw[brC];rfl
theorem p64:(2:Nat)^64=18446744073709551616:=by decide
theorem p58:(2:Nat)^58=288230376151711744:=by decide
theorem ctz_0:Go.Lib.ctz 64 (0#64).toNat=64:=by unfold Go.Lib.ctz;rw[if_pos (show (0#64).toNat=0 from rfl)]
theorem and_negB{x:W64}(h:x.toNat≠0):(x&&&(0#64-x)).toNat=2^Go.Lib.ctz 64 x.toNat:=by
 have hlt:=x.isLt;have hneg:(0#64-x).toNat=2^64-x.toNat:=by rw[BitVec.toNat_sub,show (0#64).toNat=0 from rfl,Nat.add_zero,Nat.mod_eq_of_lt (by omega)]
 rw[BitVec.toNat_and,hneg,(Go.Lib.lowest_bit 64 x.toNat h hlt).1]
theorem brIx{x:W64}(h:x.toNat≠0):(((x&&&(0#64-x))*285870213051353865#64) >>> 58).toNat=2^Go.Lib.ctz 64 x.toNat*285870213051353865%18446744073709551616/288230376151711744:=by rw[shr_nat,BitVec.toNat_mul,and_negB h,brC,p64,p58]
theorem br_idx{y:W64}{m:Nat}(h:y.toNat=m)(hm:m<64)(g:Nat)(k:Value→Option (Value×Hp)):zbH 64 1 (.pointer (some ⟨g,0,none⟩)) (wv y) k=k (.pointer (some ⟨g,m,none⟩)):=by unfold wv zbH;rw[h];dsimp only;rw[if_pos (by omega),Int.toNat_natCast,Nat.zero_add,Nat.mul_one]
theorem br_get{m c:Nat}(d1:m<64)(d2:Go.Lib.deBruijn64tab.getD m 0=c){l:List Value}(hl:l=zpg.map fun z=>Value.int .u8 z):l[m]?=some (.int .u8 (c:Int)):=by rw[hl];unfold zpg;have hl:m<Go.Lib.deBruijn64tab.length:=d1;rw[List.getElem?_map,List.getElem?_map,List.getElem?_eq_getElem hl];rw[getD_eq_getElem?_getD,List.getElem?_eq_getElem hl]at d2;have d2:Go.Lib.deBruijn64tab[m]=c:=d2;rw[d2];rfl
theorem p_tz{H:Hp}(hT:TabB H)(x:W64):RR Ba [wv x] H=some (.int .i64 ((Go.Lib.ctz 64 x.toNat:Nat):Int),H):=by
 have hr:=zcw E0 rfl (wv x) H;unfold zbW at hr;have e0:∀(k:Value→Option (Value×Hp)),pBin PP .eql Ab (wv x) (.int .u64 0) k=k (.bool (decide (x=0#64))):=fun k=>zgU _ x 0#64 k;rw[e0,zag]at hr;by_cases h0:x=0#64
 ·rw[decide_eq_true h0,zau]at hr;rw[h0]at hr ⊢;rw[ctz_0];exact hr
 rw[decide_eq_false h0,zam,b_neg,b_and]at hr;have hx0:x.toNat≠0:=fun q=>h0 (BitVec.eq_of_toNat_eq q);have l2:=(Go.Lib.lowest_bit 64 x.toNat hx0 x.isLt).2;obtain⟨d1,d2⟩:=Go.Lib.deBruijn64_at _ l2;have hix:=brIx hx0;rw[brV,b_mul,show (Value.int .u64 58)=.int .u64 ((58:Nat):Int) from rfl,zk3]at hr;generalize 2^Go.Lib.ctz 64 x.toNat*285870213051353865%18446744073709551616/288230376151711744=m at *;generalize (((x&&&(0#64-x))*285870213051353865#64) >>> 58)=y at *;obtain⟨cs,e,fz,g1,g2⟩:=hT.ob;have hc:=br_get d1 d2 g2;rw[br_idx hix d1,ldx g1 hc,zdt,zaV (by omega) (by omega)]at hr;exact hr
end Go.AM.N14
namespace Go.AM.N14
open Go Go.AM
section
end
section
end
section
end
section
end
section
end
section
variable {L:List Nd}{K:List (ByteArray×Int)}(hg:zb8 L K){S:Nat→Prop}(hcl:∀t,S t→∀c∈kids L t,S c){G:ByteArray→W64}(hG:∀t n,1≤t→S t→L[t-1]?=some n→n.op=4→(G n.name).toNat≤(msk (wd n.w)).toNat)
theorem good_w(hg:zb8 L K):∀m∈L,0≤m.w∧m.w≤64:=fun m hm=>by have:¬(m.w<0∨m.w>64):=(hg.rt m hm).w;omega
end
section
end
section
end
structure MadeN(sz:Nat)(B H:Hp)(v:Value)(n:Nat)(cs:List Value):Prop where
 next:B.next≤H.next
 old:∀j,j<B.next→H.get j=B.get j
 vec:Vec H sz v n cs
 new:∀j,Id v j→B.next≤j
section
end
section
end
section
end
section
end
section
end
section
end
section
end
end Go.AM.N14
namespace Go.AM
open Go
end Go.AM
namespace Go.AM.N14
open Go Go.AM
theorem Rdb.at1{H:Hp}{x:Value}{n:Nat}{cs:List Value}(hx:Rdb H 1 x n cs){i:Nat}{z:Value}(hi:cs[i]?=some z) :
  ∃y,(∀(α:Type) (kd:IntKind) (k:Value→Option α),pIdx 1 x (.int kd (i:Int)) k=k (.pointer (some ⟨y,i*1,none⟩)))∧(∀(α:Type) (k:Value→Option α),zaH 1 false H (.pointer (some ⟨y,i*1,none⟩)) k=k z):=by
 have hs:=hx.size;obtain⟨y,hy,⟨rest,own,hg⟩,hix⟩:=hx.ix (i:=i) (by have:=(List.getElem?_eq_some_iff.1 hi).1;omega);exact⟨y,hix,fun α k=>zkb hg (by rw[Nat.mul_one];exact hi) k⟩
section
end
end Go.AM.N14
namespace Go.AM.N14
open List Go Go.AM
theorem zj4{A:Type} [DecidableEq A]:∀(l m:List A),l.Nodup→(∀x∈l,x∈m)→l.length≤m.length
 |[],m,_,_=>Nat.zero_le _
 |a::l,m,hn,hs=>by obtain⟨n1,n2⟩:=nodup_cons.1 hn;have ha:=hs a (mem_cons_self ..);have:=zj4 l (m.erase a) n2 fun x hx=>(mem_erase_of_ne (fun e=>n1 (by rw[←e];exact hx))).2 (hs x (mem_cons_of_mem _ hx));have hlen:=length_erase_of_mem ha;have hpos:0<m.length:=length_pos_of_mem ha;rw[length_cons];omega
section
end
section
variable {L:List Nd}{K:List (ByteArray×Int)}(hg:zb8 L K){ns:List Nat}(hns:∀t∈ns,1≤t∧t≤L.length)
include hg hns
theorem zdw:(posts L ns []).Nodup∧(∀t∈posts L ns [],1≤t∧t≤L.length)∧zd6 L (posts L ns [])∧(∀t∈ns,t∈posts L ns []):=by have hd:=hg.dag;have hmem:=zcc hd (N:=L.length) ns [] hns;exact⟨zmd hd ns [] (fun c hc=>(hns c hc).1) nodup_nil,fun t ht=>(hmem.2.2 t ht).elim (fun q=>by cases q) fun q=>q,(zf5 hd ns [] (fun c hc=>(hns c hc).1) (fun i t h=>by cases h)).1,hmem.2.1⟩
end
end Go.AM.N14
namespace Go.AM.N14
open Go Go.AM
section
end
theorem zjs{H:Hp}{p v:Value}(h:∀(α:Type) (k:Value→Option α),zaH 1 false H p k=k v):Hp.rdP H p 1 false=some v:=by
 have:=h Value some;unfold zaH at this;cases hq:Hp.rdP H p 1 false with
 |none=>rw[hq]at this;cases this
 |some w=>rw[hq]at this;exact this
section
end
section
end
section
end
section
end
section
end
section
end
section
end
def mapP(tm:Int→Int)(x:Int):Int:=if x=0 then 0 else tm x
def mapN(tm:Int→Int)(n:Nd):Nd:={ n with a:=mapP tm n.a,b:=mapP tm n.b,c:=mapP tm n.c }
section
end
section
end
section
end
section
end
end Go.AM.N14
namespace Go.AM.N14
open List Go Go.AM
theorem zmf{L:List Nd}(hd:Dag L){t:Nat}{n:Nd}(hn:L[t-1]?=some n):(n.a≠0→∃u∈kids L t,n.a=(u:Int))∧(n.b≠0→∃u∈kids L t,n.b=(u:Int))∧(n.c≠0→∃u∈kids L t,n.c=(u:Int)):=by
 have hk:kids L t=([n.a,n.b,n.c].take (zax n.op).toNat).map Int.toNat:=by unfold kids;rw[hn];rfl
 have mem:∀(j:Nat) (x:Int),[n.a,n.b,n.c][j]?=some x→(j:Int)<zax n.op→1≤x→∃u∈kids L t,x=(u:Int):=fun j x hj hp hx=>by refine⟨x.toNat,?_,by omega⟩;rw[hk];refine mem_map_of_mem (mem_of_getElem? (i:=j) ?_);rw[List.getElem?_take,if_pos (by omega)];exact hj
 refine⟨fun h=>?_,fun h=>?_,fun h=>?_⟩
 ·rcases hd.a _ _ hn with⟨p,q,r⟩|⟨p,q⟩
  ·exact mem 0 _ rfl (by omega) q
  ·exact absurd q h
 ·rcases hd.b _ _ hn with⟨p,q,r⟩|⟨p,q⟩
  ·exact mem 1 _ rfl (by omega) q
  ·exact absurd q h
 ·rcases hd.c _ _ hn with⟨p,q,r⟩|⟨p,q⟩
  ·exact mem 2 _ rfl (by omega) q
  ·exact absurd q h
theorem wT_eq{L:List Nd}{t:Nat}(h:1≤t∧t≤L.length)(d:Int):wT L d (t:Int)=(zaJ L t).w:=by unfold wT;rw[zbv.2 ⟨by omega,by omega⟩,if_pos rfl,show ((t:Int)-1).toNat=t-1 by omega,zaS h];rfl
theorem zpZ{L:List Nd}{t:Nat}{n:Nd}(h:L[t-1]?=some n):zaJ L t=n:=by unfold zaJ;rw[h];rfl
theorem right_map{L L':List Nd}{K K':List (ByteArray×Int)}{tm:Int→Int}{n:Nd}(hr:zed L K n)
  (ha:n.a=0∨(isT L' (tm n.a)=true∧∀d,wT L' d (tm n.a)=wT L d n.a)) (hb:n.b=0∨(isT L' (tm n.b)=true∧∀d,wT L' d (tm n.b)=wT L d n.b)) (hc:n.c=0∨(isT L' (tm n.c)=true∧∀d,wT L' d (tm n.c)=wT L d n.c)) (hk:n.op=4→zbr K' n=false)
  (da:zax n.op≥1→n.a≠0) (db:zax n.op≥2→n.b≠0) (dc:zax n.op≥3→n.c≠0):zed L' K' (mapN tm n):=by
 have w0:∀x:Int,(x=0∨(isT L' (tm x)=true∧∀d,wT L' d (tm x)=wT L d x))→∀d,wT L' d (mapP tm x)=wT L d x:=fun x hx d=>by
  unfold mapP;rcases hx with rfl|⟨h1,h2⟩
  ·rfl
  ·by_cases h0:x=0
   ·rw[if_pos h0,h0];rfl
   ·rw[if_neg h0,h2]
 have i0:∀x:Int,(x=0∨(isT L' (tm x)=true∧∀d,wT L' d (tm x)=wT L d x))→x≠0→isT L' (mapP tm x)=true:=fun x hx h0=>by unfold mapP;rw[if_neg h0];exact(hx.resolve_left h0).1
 have hbn:zbr K' (mapN tm n)=zbr K' n:=rfl;refine⟨hr.op,hr.w,?_,?_,?_,?_,fun q=>by have:=hk q.1;rw[hbn,this]at q;cases q.2⟩
 ·intro q;unfold zbh at q;simp only[Bool.or_eq_true,Bool.and_eq_true,decide_eq_true_eq,Bool.not_eq_true']at q;rcases q with (⟨q1,q2⟩|⟨q1,q2⟩)|⟨q1,q2⟩
  ·rw[show (mapN tm n).a=mapP tm n.a from rfl,i0 n.a ha (da q1)]at q2;cases q2
  ·rw[show (mapN tm n).b=mapP tm n.b from rfl,i0 n.b hb (db q1)]at q2;cases q2
  ·rw[show (mapN tm n).c=mapP tm n.c from rfl,i0 n.c hc (dc q1)]at q2;cases q2
 ·intro q;refine hr.sp ?_;unfold zdq at q ⊢;simp only[Bool.or_eq_true,Bool.and_eq_true,decide_eq_true_eq]at q ⊢;have z:∀x:Int,mapP tm x≠0→x≠0:=fun x hx e=>hx (by unfold mapP;rw[if_pos e]);rcases q with (((⟨q1,q2⟩|⟨q1,q2⟩)|⟨q1,q2⟩)|q)|q
  ·exact .inl (.inl (.inl (.inl ⟨q1,z _ q2⟩)))
  ·exact .inl (.inl (.inl (.inr ⟨q1,z _ q2⟩)))
  ·exact .inl (.inl (.inr ⟨q1,z _ q2⟩))
  ·exact .inl (.inr q)
  ·exact .inr q
 ·show ¬zcg n.op (wT _ (-1) (mapP tm n.a)) (wT _ (-1) (mapP tm n.b)) (wT _ (-1) (mapP tm n.c))=false;rw[w0 _ ha,w0 _ hb,w0 _ hc];exact hr.so
 ·show ¬zcf (mapN tm n) (wT _ (-1) (mapP tm n.a)) (wT _ (-1) (mapP tm n.b))=false;rw[w0 _ ha,w0 _ hb];exact hr.wi
theorem zp2{lim:Int}(hlim:lim≤0){L:List Nd}{K:List (ByteArray×Int)}{n:Nd}(hr:zed L K n):(mkR lim L K n).2.1=0∧∃v:Nat,(mkR lim L K n).1=(v:Int)∧1≤v∧v≤(mkR lim L K n).2.2.1.length∧zaJ (mkR lim L K n).2.2.1 v=n∧(∃M,(mkR lim L K n).2.2.1=L++M)∧((mkR lim L K n).2.2.2=K∨n.op=4∧(mkR lim L K n).2.2.2=zbm n.name n.w K):=by
 have he:¬zcs L K n≠0:=fun q=>q (zg5.2 hr);unfold mkR;rw[if_neg he];cases hp:zbp n 0 L with
 |some q=>
  obtain⟨_,hq⟩:=zfw n L 0 q hp;rw[Nat.sub_zero]at hq;have:=(List.getElem?_eq_some_iff.1 hq).1;exact⟨rfl,q+1,rfl,by omega,by show q+1≤L.length;omega,zpZ hq,⟨[],(append_nil _).symm⟩,.inl rfl⟩
 |none=>
  dsimp only;rw[if_neg (by omega)];refine⟨rfl,L.length+1,rfl,by omega,by show _≤(L++[n]).length;simp,zpZ ?_,⟨[n],rfl⟩,?_⟩
  ·show (L++[n])[L.length+1-1]?=some n;rw[Nat.add_sub_cancel,List.getElem?_append_right (Nat.le_refl _),Nat.sub_self];rfl
  ·show (if n.op=4 then zbm n.name n.w K else K)=K∨n.op=4∧(if n.op=4 then zbm n.name n.w K else K)=zbm n.name n.w K;by_cases h4:n.op=4
   ·rw[if_pos h4];exact .inr ⟨h4,rfl⟩
   ·rw[if_neg h4];exact .inl rfl
section
end
end Go.AM.N14
namespace Go.AM.N14
open Go Go.AM
section
end
section
end
theorem name_w{L:List Nd}{K:List (ByteArray×Int)}(hg:zb8 L K){n m:Nd}(hn:n∈L)(hm:m∈L)(h4:n.op=4)(h4':m.op=4)(he:n.name=m.name):n.w=m.w:=by obtain⟨j,hj⟩:=hg.kn n hn h4;obtain⟨k,hk⟩:=hg.kn m hm h4';rw[he,hk]at hj;exact(Prod.mk.inj (Option.some.inj hj)).2.symm
section
end
end Go.AM.N14
namespace Go.AM.N14
open List Go Go.AM
inductive Tr
 |z
 |nd (op w num:Int) (name:ByteArray) (a b c:Tr)
deriving DecidableEq
def trN(n:Nd)(a b c:Tr):Tr:=.nd n.op n.w n.num n.name a b c
def tr(L:List Nd):Nat→Tr:=fnA trN .z L
theorem zcm{L:List Nd}(hd:Dag L){t:Nat}(ht:1≤t){n:Nd}(hn:L[t-1]?=some n):tr L t=trN n (tr L n.a.toNat) (tr L n.b.toNat) (tr L n.c.toNat):=fnA_eq hd trN .z ht hn
theorem zk4{L M:List Nd}(hd:Dag L)(hd2:Dag (L++M)){t:Nat}(h2:t≤L.length):tr (L++M) t=tr L t:=by
 induction t using Nat.strongRecOn with
 |_ t ih=>
  by_cases h1:t=0
  ·subst h1;rfl
  have hn:L[t-1]?=some (zaJ L t):=zaS ⟨by omega,h2⟩;have hn2:(L++M)[t-1]?=some (zaJ L t):=by rw[List.getElem?_append_left (by omega)];exact hn
  have da:=hd.a _ _ hn;have db:=hd.b _ _ hn;have dc:=hd.c _ _ hn;rw[zcm hd (by omega) hn,zcm hd2 (by omega) hn2,ih _ (by omega) (by omega),ih _ (by omega) (by omega),ih _ (by omega) (by omega)]
theorem zoi{L:List Nd}(hd:Dag L){t:Nat}(h1:1≤t)(h2:t≤L.length):tr L t≠.z:=by
 rw[zcm hd h1 (zaS ⟨h1,h2⟩)];exact fun h=>by cases h
theorem zk5{L:List Nd}(hd:Dag L)(hn:∀(i j:Nat) m,L[i]?=some m→L[j]?=some m→i=j):∀{t u:Nat},t≤L.length→u≤L.length→tr L t=tr L u→t=u:=by
 intro t;induction t using Nat.strongRecOn with
 |_ t ih=>
  intro u ht hu h;by_cases t0:t=0
  ·subst t0;by_cases u0:u=0
   ·exact u0.symm
   ·exact absurd h.symm (zoi hd (by omega) hu)
  by_cases u0:u=0
  ·subst u0;exact absurd h (zoi hd (by omega) ht)
  have h1:L[t-1]?=some (zaJ L t):=zaS ⟨by omega,ht⟩;have h2:L[u-1]?=some (zaJ L u):=zaS ⟨by omega,hu⟩;rw[zcm hd (by omega) h1,zcm hd (by omega) h2]at h;have a1:=hd.a _ _ h1;have b1:=hd.b _ _ h1;have c1:=hd.c _ _ h1;have a2:=hd.a _ _ h2;have b2:=hd.b _ _ h2;have c2:=hd.c _ _ h2;generalize zaJ L t=n at *;generalize zaJ L u=m at *;obtain⟨o1,w1,x1,y1,z1,k1,s1⟩:=n;obtain⟨o2,w2,x2,y2,z2,k2,s2⟩:=m;unfold trN at h;dsimp only at *;injection h with e1 e2 e3 e4 e5 e6 e7;have ia:=ih _ (by omega) (by omega) (by omega) e5;have ib:=ih _ (by omega) (by omega) (by omega) e6;have ic:=ih _ (by omega) (by omega) (by omega) e7;have hx:x1=x2:=by omega
  have hy:y1=y2:=by omega
  have hz:z1=z2:=by omega
  subst e1 e2 e3 e4 hx hy hz;have:=hn _ _ _ h1 h2;omega
def Tr.w:Tr→Int
 |.z=>0
 |.nd _ w _ _ _ _ _=>w
section
variable {L L2:List Nd}(hd:Dag L)(hn:∀(i j:Nat) m,L[i]?=some m→L[j]?=some m→i=j)(hd2:Dag L2)(hn2:∀(i j:Nat) m,L2[i]?=some m→L2[j]?=some m→i=j)
theorem kids_tr{t u:Nat}(hd:Dag L)(hd2:Dag L2)(ht:1≤t∧t≤L.length)(hu:1≤u∧u≤L2.length)(h:tr L t=tr L2 u):(kids L t).map (tr L)=(kids L2 u).map (tr L2):=by have h1:=zaS ht;have h2:=zaS hu;rw[zcm hd ht.1 h1,zcm hd2 hu.1 h2]at h;unfold kids;rw[h1,h2];unfold trN at h;injection h with e1 e2 e3 e4 e5 e6 e7;unfold zbO;dsimp only;rw[e1];rcases zbJ (zaJ L2 u).op with q|q|q|q<;>rw[q]<;>simp[e5,e6,e7]
include hd hn hd2 hn2
theorem mem_tr{o o2:List Nat}(ho:∀x∈o,x≤L.length)(ho2:∀x∈o2,x≤L2.length)(hm:o.map (tr L)=o2.map (tr L2)){t u:Nat}(ht:t≤L.length)(hu:u≤L2.length)(h:tr L t=tr L2 u):t∈o↔u∈o2:=by
 constructor
 ·intro q;have:tr L2 u∈o2.map (tr L2):=by rw[←hm,←h];exact mem_map_of_mem q
  obtain⟨v,hv,e⟩:=mem_map.1 this;rw[←zk5 hd2 hn2 (ho2 v hv) hu e];exact hv
 ·intro q;have:tr L t∈o.map (tr L):=by rw[hm,h];exact mem_map_of_mem q
  obtain⟨v,hv,e⟩:=mem_map.1 this;rw[←zk5 hd hn (ho v hv) ht e];exact hv
theorem zhT{N:Nat}(ih:∀t u,t<N→1≤t→t≤L.length→1≤u→u≤L2.length→tr L t=tr L2 u→∀o o2:List Nat,(∀x∈o,1≤x∧x≤L.length)→(∀x∈o2,1≤x∧x≤L2.length)→o.map (tr L)=o2.map (tr L2)→(post L t o).map (tr L)=(post L2 u o2).map (tr L2)) :
  ∀(l l2 o o2:List Nat),(∀x∈l,x<N∧1≤x∧x≤L.length)→(∀x∈l2,1≤x∧x≤L2.length)→l.map (tr L)=l2.map (tr L2)→(∀x∈o,1≤x∧x≤L.length)→(∀x∈o2,1≤x∧x≤L2.length)→o.map (tr L)=o2.map (tr L2) →
  (posts L l o).map (tr L)=(posts L2 l2 o2).map (tr L2)∧(∀x∈posts L l o,1≤x∧x≤L.length)∧(∀x∈posts L2 l2 o2,1≤x∧x≤L2.length)
 |[],l2,o,o2,hl,hl2,hm,ho,ho2,hmo=>by
  cases l2 with
  |nil=>exact⟨hmo,ho,ho2⟩
  |cons a r=>cases hm
 |t::r,l2,o,o2,hl,hl2,hm,ho,ho2,hmo=>by
  cases l2 with
  |nil=>cases hm
  |cons u r2=>
   rw[map_cons,map_cons]at hm;injection hm with h1 h2;have ht:=hl t (mem_cons_self ..);have hu:=hl2 u (mem_cons_self ..);have e:=ih t u ht.1 ht.2.1 ht.2.2 hu.1 hu.2 h1 o o2 ho ho2 hmo;have m1:∀x∈post L t o,1≤x∧x≤L.length:=fun x hx=>by have:=(zcc hd (N:=L.length) [t] o (fun c hc=>by rw[mem_singleton]at hc;rw[hc];exact ht.2)).2.2 x hx;exact this.elim (ho x) id
   have m2:∀x∈post L2 u o2,1≤x∧x≤L2.length:=fun x hx=>by have:=(zcc hd2 (N:=L2.length) [u] o2 (fun c hc=>by rw[mem_singleton]at hc;rw[hc];exact hu)).2.2 x hx;exact this.elim (ho2 x) id
   exact zhT ih r r2 (post L t o) (post L2 u o2) (fun x hx=>hl x (mem_cons_of_mem _ hx)) (fun x hx=>hl2 x (mem_cons_of_mem _ hx)) h2 m1 m2 e
theorem post_tr:∀t u,1≤t→t≤L.length→1≤u→u≤L2.length→tr L t=tr L2 u→∀o o2:List Nat,(∀x∈o,1≤x∧x≤L.length)→(∀x∈o2,1≤x∧x≤L2.length)→o.map (tr L)=o2.map (tr L2)→(post L t o).map (tr L)=(post L2 u o2).map (tr L2):=by
 intro t;induction t using Nat.strongRecOn with
 |_ t ih=>
  intro u t1 t2 u1 u2 h o o2 ho ho2 hm;have hmem:=mem_tr hd hn hd2 hn2 (fun x hx=>(ho x hx).2) (fun x hx=>(ho2 x hx).2) hm t2 u2 h;rw[zeM hd t1,zeM hd2 u1];by_cases hto:t∈o
  ·rw[if_pos hto,if_pos (hmem.1 hto)];exact hm
  ·rw[if_neg hto,if_neg (fun q=>hto (hmem.2 q))];have hk:=kids_tr hd hd2 ⟨t1,t2⟩ ⟨u1,u2⟩ h
   have:=(zhT hd hn hd2 hn2 (N:=t) (fun t' u' a b c d e f=>ih t' a u' b c d e f) (kids L t) (kids L2 u) o o2 (fun x hx=>by
    have:=zdE hd t1 hx
    exact⟨this.2,this.1,by omega⟩) (fun x hx=>by
    have:=zdE hd2 u1 hx
    exact⟨this.1,by omega⟩) hk ho ho2 hm).1
   rw[map_append,map_append,this];simp[h]
theorem zpM{l l2:List Nat}(hl:∀x∈l,1≤x∧x≤L.length)(hl2:∀x∈l2,1≤x∧x≤L2.length)(hm:l.map (tr L)=l2.map (tr L2)):(posts L l []).map (tr L)=(posts L2 l2 []).map (tr L2):=
 (zhT hd hn hd2 hn2 (N:=L.length+1) (fun t u _ a b c d e=>post_tr hd hn hd2 hn2 t u a b c d e) l l2 [] [] (fun x hx=>⟨by have:=hl x hx;omega,hl x hx⟩) hl2 hm (fun x h=>by cases h) (fun x h=>by cases h) rfl).1
theorem ix_tr{O O2:List Nat}(ho:∀x∈O,x≤L.length)(ho2:∀x∈O2,x≤L2.length)(hm:O.map (tr L)=O2.map (tr L2)){t u:Nat}(ht:t≤L.length)(hu:u≤L2.length)(h:tr L t=tr L2 u):ixO O t=ixO O2 u:=by
 unfold ixO;congr 1;induction O generalizing O2 with
 |nil=>
  cases O2 with
  |nil=>rfl
  |cons a r=>cases hm
 |cons a r ih=>
  cases O2 with
  |nil=>cases hm
  |cons b r2=>
   rw[map_cons,map_cons]at hm;injection hm with h1 h2;have hi:=ih (fun x hx=>ho x (mem_cons_of_mem _ hx)) (fun x hx=>ho2 x (mem_cons_of_mem _ hx)) h2;rw[idxOf_cons,idxOf_cons,hi];have ha:=ho a (mem_cons_self ..);have hb:=ho2 b (mem_cons_self ..);by_cases e:a=t
   ·have e2:b=u:=zk5 hd2 hn2 hb hu (by rw[←h1,e,h]);rw[e,e2,beq_self_eq_true,beq_self_eq_true]
   ·have e2:b≠u:=fun q=>e (zk5 hd hn ha ht (by rw[h1,q,h]));rw[beq_false_of_ne e,beq_false_of_ne e2]
theorem ren_tr{l l2:List Nat}(hl:∀x∈l,1≤x∧x≤L.length)(hl2:∀x∈l2,1≤x∧x≤L2.length)(hm:l.map (tr L)=l2.map (tr L2)):renL L (posts L l [])=renL L2 (posts L2 l2 [])∧l.map (ixO (posts L l []))=l2.map (ixO (posts L2 l2 []))∧(posts L l []).map (ixO (posts L l []))=(posts L2 l2 []).map (ixO (posts L2 l2 [])):=by
 have hO:=zpM hd hn hd2 hn2 hl hl2 hm;have b1:∀x∈posts L l [],1≤x∧x≤L.length:=fun x hx=>((zcc hd (N:=L.length) l [] hl).2.2 x hx).elim (fun q=>by cases q) id;have b2:∀x∈posts L2 l2 [],1≤x∧x≤L2.length:=fun x hx=>((zcc hd2 (N:=L2.length) l2 [] hl2).2.2 x hx).elim (fun q=>by cases q) id;generalize posts L l []=O at *;generalize posts L2 l2 []=O2 at *;have ix:=fun {t u:Nat} ht hu h=>ix_tr hd hn hd2 hn2 (fun x hx=>(b1 x hx).2) (fun x hx=>(b2 x hx).2) hO (t:=t) (u:=u) ht hu h;have key:∀{β:Type} (f g:Nat→β),(∀t u,1≤t→t≤L.length→1≤u→u≤L2.length→tr L t=tr L2 u→f t=g u)→∀(P P2:List Nat),(∀x∈P,1≤x∧x≤L.length)→(∀x∈P2,1≤x∧x≤L2.length)→P.map (tr L)=P2.map (tr L2)→P.map f=P2.map g:=by
  intro β f g hfg P;induction P with
  |nil=>
   intro P2 _ _ h;cases P2 with
   |nil=>rfl
   |cons a r=>cases h
  |cons a r ih=>
   intro P2 h1 h2 h;cases P2 with
   |nil=>cases h
   |cons b r2=>
    rw[map_cons,map_cons]at h;injection h with e1 e2;have p1:=h1 a (mem_cons_self ..);have p2:=h2 b (mem_cons_self ..);rw[map_cons,map_cons,hfg a b p1.1 p1.2 p2.1 p2.2 e1,ih r2 (fun x hx=>h1 x (mem_cons_of_mem _ hx)) (fun x hx=>h2 x (mem_cons_of_mem _ hx)) e2]
 refine⟨key (fun t=>renN O (zaJ L t)) (fun t=>renN O2 (zaJ L2 t)) (fun t u t1 t2 u1 u2 h=>?_) O O2 b1 b2 hO,key _ _ (fun t u t1 t2 u1 u2 h=>ix t2 u2 h) l l2 hl hl2 hm,key _ _ (fun t u t1 t2 u1 u2 h=>ix t2 u2 h) O O2 b1 b2 hO⟩;have h1:=zaS (L:=L) ⟨t1,t2⟩;have h2:=zaS (L:=L2) ⟨u1,u2⟩;have a1:=hd.a _ _ h1;have a2:=hd.b _ _ h1;have a3:=hd.c _ _ h1;have c1:=hd2.a _ _ h2;have c2:=hd2.b _ _ h2;have c3:=hd2.c _ _ h2;rw[zcm hd t1 h1,zcm hd2 u1 h2]at h;generalize zaJ L t=n at *;generalize zaJ L2 u=m at *;obtain⟨o1,w1,x1,y1,z1,k1,s1⟩:=n;obtain⟨o2,w2,x2,y2,z2,k2,s2⟩:=m;unfold trN at h;dsimp only at *;injection h with e1 e2 e3 e4 e5 e6 e7;subst e1 e2 e3 e4;have rp:∀x y:Int,0≤x→x≤L.length→0≤y→y≤L2.length→tr L x.toNat=tr L2 y.toNat→rpI O x=rpI O2 y:=fun x y x0 x1 y0 y1 h=>by
  unfold rpI;by_cases hx:x≤0
  ·have hx0:x=0:=by omega
   subst hx0;have hy:y≤0:=Int.not_lt.1 fun q=>zoi hd2 (t:=y.toNat) (by omega) (by omega) h.symm;rw[if_pos (Int.le_refl 0),if_pos hy]
  ·have hy:¬y≤0:=fun q=>by
    have hy0:y=0:=by omega
    subst hy0;exact zoi hd (t:=x.toNat) (by omega) (by omega) h
   rw[if_neg hx,if_neg hy,ix (by omega) (by omega) h]
 show renN O ⟨o1,w1,x1,y1,z1,k1,s1⟩=renN O2 ⟨o1,w1,x2,y2,z2,k1,s1⟩;unfold renN;dsimp only;rw[rp x1 x2 (by omega) (by omega) (by omega) (by omega) e5,rp y1 y2 (by omega) (by omega) (by omega) (by omega) e6,rp z1 z2 (by omega) (by omega) (by omega) (by omega) e7]
end
theorem dump_tr{L L2:List Nd}{K K2:List (ByteArray×Int)}(hg:zb8 L K)(hg2:zb8 L2 K2){l l2:List Nat}(hl:∀x∈l,1≤x∧x≤L.length)(hl2:∀x∈l2,1≤x∧x≤L2.length)(hm:l.map (tr L)=l2.map (tr L2)) :
  znU zbQ L (posts L l []) (l.map fun (t:Nat)=>(t:Int))=znU zbQ L2 (posts L2 l2 []) (l2.map fun (t:Nat)=>(t:Int)):=by
 obtain⟨r1,r2,r3⟩:=ren_tr hg.dag hg.nod hg2.dag hg2.nod hl hl2 hm;obtain⟨o1,m1⟩:=zjM hg.dag hl;obtain⟨o2,m2⟩:=zjM hg2.dag hl2;rw[←zl9 hg o1 m1,←zl9 hg2 o2 m2,r1,r2,r3]
end Go.AM.N14
namespace Go.AM.N14
open Go Go.AM
def Tr.op:Tr→Int
 |.z=>0
 |.nd o _ _ _ _ _ _=>o
def Tr.num:Tr→Int
 |.z=>0
 |.nd _ _ x _ _ _ _=>x
def Tr.a:Tr→Tr
 |.z=>.z
 |.nd _ _ _ _ a _ _=>a
def Tr.b:Tr→Tr
 |.z=>.z
 |.nd _ _ _ _ _ b _=>b
def Tr.c:Tr→Tr
 |.z=>.z
 |.nd _ _ _ _ _ _ c=>c
def Tr.k(t:Tr):W64:=BitVec.ofInt 64 t.num
def tTru(b:Bool):Tr:=.nd (if b then 1 else 2) 0 0 ⟨#[]⟩ .z .z .z
def tCon(w:Int)(x:W64):Tr:=.nd 3 w ((x&&&msk w.toNat).toNat:Int) ⟨#[]⟩ .z .z .z
inductive Ex
 |old (t:Tr)
 |tru (b:Bool)
 |con (w:Int) (x:W64)
 |un (op:Int) (a:Ex)
 |bin (op:Int) (a b:Ex)
 |ite (c a b:Ex)
 |slice (a:Ex) (i n:Int)
 |ext (op:Int) (a:Ex) (w:Int)
def tUn(op:Int)(a:Tr):Tr:=.nd op (if op=5 then 0 else a.w) 0 ⟨#[]⟩ a .z .z
def tBin(op:Int)(a b:Tr):Tr:=.nd op (if op≤13 then 0 else if op=30 then a.w+b.w else a.w) 0 ⟨#[]⟩ a b .z
def tIte(c a b:Tr):Tr:=.nd 14 a.w 0 ⟨#[]⟩ c a b
def tSl(a:Tr)(i n:Int):Tr:=.nd 31 n i ⟨#[]⟩ a .z .z
def tExt(op:Int)(a:Tr)(w:Int):Tr:=.nd op w 0 ⟨#[]⟩ a .z .z
def ones(w:Int):W64:=msk w.toNat
def ziR(o:Int)(a b:Tr):Bool:=decide (a.op=o∧a.a=b)||decide (b.op=o∧b.a=a)
def fixT(t:Tr):Bool:=decide (t.op=1∨t.op=2∨t.op=3)
def zcv(o:Int)(t:Tr):Bool:=decide (t.op=o∧t.b.op=3)
def isE(t:Tr)(v:W64):Ex:=.bin 9 (.old t) (.con t.w v)
def notT(a:Tr):Option Ex:=if a.op=1 then some (.tru false) else if a.op=2 then some (.tru true) else if a.op=5 then some (.old a.a) else none
def andT(op:Int)(a b:Tr):Option Ex:=
 if a.op=(if op=6 then 2 else 1)∨b.op=(if op=6 then 2 else 1) then some (.tru (decide (op≠6))) else if a.op=(if op=6 then 1 else 2) then some (.old b) else if b.op=(if op=6 then 1 else 2)∨a=b then some (.old a)
 else if ziR 5 a b=true then some (.tru (decide (op≠6))) else none
def xorT(a b:Tr):Option Ex:=
 if a.op=2 then some (.old b) else if a.op=1 then some (.un 5 (.old b)) else if b.op=2 then some (.old a) else if b.op=1 then some (.un 5 (.old a)) else if a=b then some (.tru false) else if ziR 5 a b=true then some (.tru true)
 else if a.op=5 then some (.un 5 (.bin 8 (.old a.a) (.old b))) else if b.op=5 then some (.un 5 (.bin 8 (.old a) (.old b.a))) else none
def eqC(x:Tr)(k:W64):Option Ex:=
 if ¬(x.b.op=3∧x.c.op=3) then none else if x.b.k=k∧x.c.k=k then some (.tru true) else if x.b.k=k then some (.old x.a) else if x.c.k=k then some (.un 5 (.old x.a)) else some (.tru false)
noncomputable def eqK(x:Tr)(k:W64):Option Ex:=
 if x.op=15 then some (isE x.a (~~~k)) else if x.op=16 then some (isE x.a (0#64-k)) else if x.op=20∧x.b.op=3 then some (isE x.a (k-x.b.k)) else if x.op=19∧x.b.op=3 then some (isE x.a (k ^^^ x.b.k))
 else if x.op=28∧x.b.op=3 then some (isE x.a (binW 29 x.w.toNat k x.b.k)) else if k=0#64∧(x.op=21∨x.op=19) then some (.bin 9 (.old x.a) (.old x.b))
 else if x.op=32∨x.op=33 then (if extW x.op x.a.w.toNat (k&&&ones x.a.w) x.w.toNat≠k then some (.tru false) else some (isE x.a (k&&&ones x.a.w)))
 else if x.op=14 then eqC x k else if x.op=30 then some (.bin 6 (isE x.a (k >>> x.b.w.toNat)) (isE x.b k)) else none
noncomputable def eqT(a b:Tr):Option Ex:=
 if a=b then some (.tru true) else if fixT a=true∧fixT b=true then some (.tru false) else if fixT a=true then some (.bin 9 (.old b) (.old a)) else if b.op=1 then some (.old a) else if b.op=2 then some (.un 5 (.old a))
 else if a.w=0∧ziR 5 a b=true then some (.tru false) else if b.op=3 then eqK a b.k else none
def zge(op:Int)(a b:Tr):Option Ex:=
 if op=11 then some (.un 5 (.bin 10 (.old b) (.old a))) else if op=13 then some (.un 5 (.bin 12 (.old b) (.old a))) else if a=b then some (.tru false) else if a.op=3∧b.op=3 then some (.tru (cmpW op a.w.toNat a.k b.k))
 else if op=12 then none else if b.op=3∧b.k=0#64 then some (.tru false) else if a.op=3∧a.k=0#64 then some (.un 5 (.bin 9 (.old b) (.old a))) else if b.op=3∧b.k=1#64 then some (.bin 9 (.old a) (.con a.w 0#64))
 else if a.op=3∧a.k=ones a.w then some (.tru false) else if b.op=3∧b.k=ones a.w then some (.un 5 (.bin 9 (.old a) (.old b))) else none
def iteT(w:Int)(a b c:Tr):Option Ex:=
 if a.op=1∨b=c then some (.old b) else if a.op=2 then some (.old c) else if a.op=5 then some (.ite (.old a.a) (.old c) (.old b))
 else if w=0∧b.op=1 then some (.bin 7 (.old a) (.old c)) else if w=0∧b.op=2 then some (.bin 6 (.un 5 (.old a)) (.old c)) else if w=0∧c.op=1 then some (.bin 7 (.un 5 (.old a)) (.old b)) else if w=0∧c.op=2 then some (.bin 6 (.old a) (.old b))
 else if w=0∧b=a then some (.bin 7 (.old a) (.old c)) else if w=0∧c=a then some (.bin 6 (.old a) (.old b))
 else if b.op=14∧b.a=a then some (.ite (.old a) (.old b.b) (.old c)) else if c.op=14∧c.a=a then some (.ite (.old a) (.old b) (.old c.c)) else none
def comT(op w:Int)(a:Tr):Option Ex:=
 if a.op=3 then some (.con w (unW op w.toNat a.k)) else if a.op=op then some (.old a.a) else if op=16∧a.op=21 then some (.bin 21 (.old a.b) (.old a.a)) else none
noncomputable def zhy(op w:Int)(a b:Tr):Option Ex:=
 if b.op=3∧b.k=(if op=17 then 0#64 else ones w) then some (.old b) else if (b.op=3∧b.k=(if op=17 then ones w else 0#64))∨a=b then some (.old a) else if ziR 15 a b=true then some (.con w (if op=17 then 0#64 else ones w))
 else if b.op=3∧zcv op a=true then some (.bin op (.old a.a) (.con w (binW op w.toNat b.k a.b.k))) else none
def zhw(w:Int)(a b:Tr):Option Ex:=
 if b.op=3∧b.k=0#64 then some (.old a) else if b.op=3∧b.k=ones w then some (.un 15 (.old a)) else if a=b then some (.con w 0#64) else if ziR 15 a b=true then some (.con w (ones w))
 else if b.op=3∧zcv 19 a=true then some (.bin 19 (.old a.a) (.con w (b.k ^^^ a.b.k))) else if a.op=19∧a.b=b then some (.old a.a) else if a.op=19∧a.a=b then some (.old a.b)
 else if b.op=19∧b.b=a then some (.old b.a) else if b.op=19∧b.a=a then some (.old b.b) else none
def addT(w:Int)(a b:Tr):Option Ex:=
 if b.op=3∧b.k=0#64 then some (.old a) else if b.op=3∧zcv 20 a=true then some (.bin 20 (.old a.a) (.con w (b.k+a.b.k))) else if b.op=16 then some (.bin 21 (.old a) (.old b.a)) else if a.op=16 then some (.bin 21 (.old b) (.old a.a))
 else if a.op=21∧a.b=b then some (.old a.a) else if b.op=21∧b.b=a then some (.old b.a) else none
def subT(w:Int)(a b:Tr):Option Ex:=
 if b.op=3∧b.k=0#64 then some (.old a) else if a=b then some (.con w 0#64) else if b.op=3 then some (.bin 20 (.old a) (.con w (0#64-b.k))) else if a.op=3∧a.k=0#64 then some (.un 16 (.old b))
 else if a.op=20∧a.b=b then some (.old a.a) else if a.op=20∧a.a=b then some (.old a.b) else if b.op=16 then some (.bin 20 (.old a) (.old b.a)) else none
def powW(y:W64):Bool:=decide (1<y.toNat)&&decide (y&&&(y-1#64)=0#64)
def mulT(op w:Int)(a b:Tr):Option Ex:=
 if ¬b.op=3 then none else if op=22∧b.k=0#64 then some (.old b) else if op=24∧b.k=1#64 then some (.con w 0#64) else if b.k=1#64 then some (.old a) else if op=22∧b.k=ones w then some (.un 16 (.old a))
 else if op=22∧powW b.k=true∧zfm w=true then some (.bin 25 (.old a) (.con w (BitVec.ofNat 64 (Go.Lib.ctz 64 b.k.toNat)))) else if op=23∧powW b.k=true∧zfm w=true then some (.bin 26 (.old a) (.con w (BitVec.ofNat 64 (Go.Lib.ctz 64 b.k.toNat))))
 else if op=24∧powW b.k=true then some (.bin 17 (.old a) (.con w (b.k-1#64))) else if op=22∧zcv 22 a=true then some (.bin 22 (.old a.a) (.con w (b.k*a.b.k))) else none
def zdJ(op w:Int)(a b:Tr):Option Ex:=
 if a.op=3∧a.k=0#64 then some (.old a) else if ¬b.op=3 then none else if b.k.toNat≥w.toNat then some (.bin op (.old a) (.con w (BitVec.ofNat 64 (b.k.toNat%w.toNat)))) else if b.k=0#64 then some (.old a)
 else if (op=25∨op=26)∧zcv op a=true then (if (b.k+a.b.k).toNat≥w.toNat then some (.con w 0#64) else some (.bin op (.old a.a) (.con w (b.k+a.b.k))))
 else if op=28∧zcv 28 a=true then some (.bin 28 (.old a.a) (.con w (BitVec.ofNat 64 ((b.k+a.b.k).toNat%w.toNat)))) else if op=29 then some (.bin 28 (.old a) (.con w (BitVec.ofNat 64 w.toNat-b.k))) else none
def catT(w:Int)(a b:Tr):Option Ex:=
 if a.op=3∧a.k=0#64 then some (.ext 32 (.old b) w) else if a.op=31∧b.op=31∧a.a=b.a∧a.num=b.num+b.w then some (.slice (.old b.a) b.num w) else none
noncomputable def zfj(op w:Int)(a b:Tr):Option Ex:=
 if a.op=3∧b.op=3 then some (.con w (if op=30 then catW a.w.toNat a.k b.w.toNat b.k else binW op w.toNat a.k b.k))
 else if (op≤20∨op=22)∧a.op=3 then some (.bin op (.old b) (.old a)) else if op≤18 then zhy op w a b else if op=19 then zhw w a b else if op=20 then addT w a b else if op=21 then subT w a b
 else if op≤24 then mulT op w a b else if op=30 then catT w a b else zdJ op w a b
def zdI(w num:Int)(a:Tr):Option Ex:=
 if a.op=3 then some (.con w (sliceW a.w.toNat a.k num.toNat w.toNat)) else if w=a.w then some (.old a) else if a.op=31 then some (.slice (.old a.a) (a.num+num) w)
 else if a.op=30∧num+w≤a.b.w then some (.slice (.old a.b) num w) else if a.op=30∧num≥a.b.w then some (.slice (.old a.a) (num-a.b.w) w)
 else if a.op=32∧num+w≤a.a.w then some (.slice (.old a.a) num w) else if a.op=32∧num≥a.a.w then some (.con w 0#64) else none
def extT(op w:Int)(a:Tr):Option Ex:=
 if a.op=3 then some (.con w (extW op a.w.toNat a.k w.toNat)) else if w=a.w then some (.old a) else if a.op=op then some (.ext op (.old a.a) w) else if op=33∧a.op=32 then some (.ext 32 (.old a.a) w) else none
noncomputable def zfk(op w num:Int)(a b c:Tr):Option Ex:=
 if op<5 then none else if op=5 then notT a else if op≤7 then andT op a b else if op=8 then xorT a b else if op=9 then eqT a b else if op≤13 then zge op a b else if op=14 then iteT w a b c else if op≤16 then comT op w a
 else if op≤30 then zfj op w a b else if op=31 then zdI w num a else extT op w a
noncomputable def zcS:Tr→Option Ex
 |.z=>none
 |.nd op w num _ a b c=>zfk op w num a b c
def exF(s:Tr→Option (Tr×Nat)):Ex→Option (Tr×Nat)
 |.old t=>some (t,0)
 |.tru b=>some (tTru b,1)
 |.con w x=>some (tCon w x,1)
 |.un op a=>(exF s a).bind fun a=>(s (tUn op a.1)).map fun t=>(t.1,a.2+1+t.2)
 |.bin op a b=>(exF s a).bind fun a=>(exF s b).bind fun b=>(s (tBin op a.1 b.1)).map fun t=>(t.1,a.2+b.2+1+t.2)
 |.ite c a b=>(exF s c).bind fun c=>(exF s a).bind fun a=>(exF s b).bind fun b=>(s (tIte c.1 a.1 b.1)).map fun t=>(t.1,c.2+a.2+b.2+1+t.2)
 |.slice a i n=>(exF s a).bind fun a=>(s (tSl a.1 i n)).map fun t=>(t.1,a.2+1+t.2)
 |.ext op a w=>(exF s a).bind fun a=>(s (tExt op a.1 w)).map fun t=>(t.1,a.2+1+t.2)
noncomputable def simF:Nat→Tr→Option (Tr×Nat)
 |0,_=>none
 |k+1,t=>match zcS t with
  |none=>some (t,3)
  |some e=>(exF (simF k) e).map fun r=>(r.1,r.2+2)
inductive WS:Tr→Prop
 |tru (b:Bool):WS (tTru b)
 |con (w:Int) (x:W64):1≤w→w≤64→WS (tCon w x)
 |var (s:ByteArray) (w:Int):0≤w→w≤64→zep s=true→WS (.nd 4 w 0 s .z .z .z)
 |not {a:Tr}:WS a→a.w=0→WS (tUn 5 a)
 |tbin (op:Int) {a b:Tr}:6≤op→op≤8→WS a→WS b→a.w=0→b.w=0→WS (tBin op a b)
 |eq {a b:Tr}:WS a→WS b→a.w=b.w→WS (tBin 9 a b)
 |cmp (op:Int) {a b:Tr}:10≤op→op≤13→WS a→WS b→1≤a.w→a.w=b.w→WS (tBin op a b)
 |ite {a b c:Tr}:WS a→WS b→WS c→a.w=0→b.w=c.w→WS (tIte a b c)
 |un (op:Int) {a:Tr}:15≤op→op≤16→WS a→1≤a.w→WS (tUn op a)
 |wbin (op:Int) {a b:Tr}:17≤op→op≤29→WS a→WS b→1≤a.w→a.w=b.w→(25≤op→zfm a.w=true)→WS (tBin op a b)
 |cat {a b:Tr}:WS a→WS b→1≤a.w→1≤b.w→a.w+b.w≤64→WS (tBin 30 a b)
 |slice {a:Tr} (i n:Int):WS a→0≤i→1≤n→i+n≤a.w→WS (tSl a i n)
 |ext (op w:Int) {a:Tr}:32≤op→op≤33→WS a→1≤a.w→a.w≤w→w≤64→WS (tExt op a w)
theorem tru_w(b:Bool):(tTru b).w=0:=rfl
theorem zo9(w:Int)(x:W64):(tCon w x).w=w:=rfl
theorem zd5(w:Int)(x:W64):(tCon w x).op=3:=rfl
theorem con_k(w:Int)(x:W64):(tCon w x).k=x&&&msk w.toNat:=by unfold tCon Tr.k Tr.num;rw[BitVec.ofInt_natCast,BitVec.ofNat_toNat,BitVec.setWidth_eq]
theorem un_w5(a:Tr):(tUn 5 a).w=0:=rfl
theorem un_w{op:Int}(h:op≠5)(a:Tr):(tUn op a).w=a.w:=by unfold tUn Tr.w;rw[if_neg h]
theorem zct{op:Int}(h:op≤13)(a b:Tr):(tBin op a b).w=0:=by unfold tBin;show (if op≤13 then (0:Int) else _)=0;rw[if_pos h]
theorem zq4{op:Int}(h:14≤op)(h2:op≠30)(a b:Tr):(tBin op a b).w=a.w:=by unfold tBin;show (if op≤13 then (0:Int) else if op=30 then _ else _)=_;rw[if_neg (by omega),if_neg h2]
theorem zmH(a b:Tr):(tBin 30 a b).w=a.w+b.w:=rfl
theorem ite_w(c a b:Tr):(tIte c a b).w=a.w:=rfl
theorem sl_w(a:Tr)(i n:Int):(tSl a i n).w=n:=rfl
theorem ext_w(op:Int)(a:Tr)(w:Int):(tExt op a w).w=w:=rfl
theorem zpt(b:Bool):(tTru b).op=if b then 1 else 2:=rfl
theorem zef(op:Int)(a:Tr):(tUn op a).op=op:=rfl
theorem un_a(op:Int)(a:Tr):(tUn op a).a=a:=rfl
theorem za4(op:Int)(a b:Tr):(tBin op a b).op=op:=rfl
theorem bin_a(op:Int)(a b:Tr):(tBin op a b).a=a:=rfl
theorem bin_b(op:Int)(a b:Tr):(tBin op a b).b=b:=rfl
theorem zgu(c a b:Tr):(tIte c a b).op=14:=rfl
theorem zkO(a:Tr)(i n:Int):(tSl a i n).op=31:=rfl
theorem sl_a(a:Tr)(i n:Int):(tSl a i n).a=a:=rfl
theorem zgw(op:Int)(a:Tr)(w:Int):(tExt op a w).op=op:=rfl
theorem ext_a(op:Int)(a:Tr)(w:Int):(tExt op a w).a=a:=rfl
theorem WS.w{t:Tr}(h:WS t):0≤t.w∧t.w≤64:=by
 induction h with
 |tru b=>rw[tru_w];decide
 |con w x h1 h2=>rw[zo9];omega
 |var s w h1 h2 h3=>exact⟨h1,h2⟩
 |not _ _ _=>rw[un_w5];decide
 |tbin op h1 h2 _ _ _ _ _ _=>rw[zct (by omega)];decide
 |eq _ _ _ _ _=>rw[zct (by decide)];decide
 |cmp op h1 h2 _ _ _ _ _ _=>rw[zct (by omega)];decide
 |ite _ _ _ _ _ _ ih _=>rw[ite_w];exact ih
 |un op h1 h2 _ _ ih=>rw[un_w (by omega)];exact ih
 |wbin op h1 h2 _ _ _ _ _ ih _=>rw[zq4 (by omega) (by omega)];exact ih
 |cat _ _ h1 h2 h3 _ _=>rw[zmH];omega
 |slice i n _ h1 h2 h3 ih=>rw[sl_w];omega
 |ext op w h1 h2 _ h3 h4 h5 ih=>rw[ext_w];omega
theorem WS.nz{t:Tr}(h:WS t):t≠.z:=by intro e;subst e;cases h
theorem zpn{t:Tr}(h:WS t)(e:t.op=1∨t.op=2):t=tTru (decide (t.op=1))∧t.w=0:=by
 cases h with
 |con w x h1 h2=>rw[zd5]at e;omega
 |tru b=>cases b<;>exact⟨rfl,rfl⟩
 |var s w _ _ _=>exact absurd e (by show ¬((4:Int)=1∨(4:Int)=2);decide)
 |not _ _=>rw[zef]at e;omega
 |eq _ _ _=>rw[za4]at e;omega
 |ite _ _ _ _ _=>rw[zgu]at e;omega
 |cat _ _ _ _ _=>rw[za4]at e;omega
 |slice _ _ _ _ _ _=>rw[zkO]at e;omega
 |tbin op _ _ _ _ _ _=>rw[za4]at e;omega
 |cmp op _ _ _ _ _ _=>rw[za4]at e;omega
 |un op _ _ _ _=>rw[zef]at e;omega
 |wbin op _ _ _ _ _ _ _=>rw[za4]at e;omega
 |ext op w _ _ _ _ _ _=>rw[zgw]at e;omega
theorem zfp{t:Tr}(h:WS t)(e:t.op=5):t=tUn 5 t.a∧WS t.a∧t.a.w=0∧t.w=0:=by
 cases h with
 |con w x h1 h2=>rw[zd5]at e;omega
 |tru b=>cases b<;>cases e
 |var s w _ _ _=>cases e
 |not h1 h2=>exact⟨rfl,h1,h2,rfl⟩
 |eq _ _ _=>rw[za4]at e;omega
 |ite _ _ _ _ _=>rw[zgu]at e;omega
 |cat _ _ _ _ _=>rw[za4]at e;omega
 |slice _ _ _ _ _ _=>rw[zkO]at e;omega
 |tbin op _ _ _ _ _ _=>rw[za4]at e;omega
 |cmp op _ _ _ _ _ _=>rw[za4]at e;omega
 |un op _ _ _ _=>rw[zef]at e;omega
 |wbin op _ _ _ _ _ _ _=>rw[za4]at e;omega
 |ext op w _ _ _ _ _ _=>rw[zgw]at e;omega
theorem zfi{t:Tr}(h:WS t)(e:15≤t.op∧t.op≤16):t=tUn t.op t.a∧WS t.a∧t.a.w=t.w∧1≤t.w:=by
 cases h with
 |con w x h1 h2=>rw[zd5]at e;omega
 |tru b=>cases b<;>exact absurd e (by decide)
 |var s w _ _ _=>exact absurd e (by show ¬(15≤(4:Int)∧(4:Int)≤16);decide)
 |not h1 h2=>rw[zef]at e;omega
 |eq _ _ _=>rw[za4]at e;omega
 |ite _ _ _ _ _=>rw[zgu]at e;omega
 |cat _ _ _ _ _=>rw[za4]at e;omega
 |slice _ _ _ _ _ _=>rw[zkO]at e;omega
 |tbin op _ _ _ _ _ _=>rw[za4]at e;omega
 |cmp op _ _ _ _ _ _=>rw[za4]at e;omega
 |un op h1 h2 h3 h4=>rw[zef]at e;exact⟨rfl,h3,by rw[un_a,un_w (by omega)],by rw[un_w (by omega)];exact h4⟩
 |wbin op _ _ _ _ _ _ _=>rw[za4]at e;omega
 |ext op w _ _ _ _ _ _=>rw[zgw]at e;omega
theorem zaX{t:Tr}(h:WS t)(e:17≤t.op∧t.op≤29):t=tBin t.op t.a t.b∧WS t.a∧WS t.b∧t.a.w=t.w∧t.b.w=t.w∧1≤t.w∧(25≤t.op→zfm t.w=true):=by
 cases h with
 |con w x h1 h2=>rw[zd5]at e;omega
 |tru b=>cases b<;>exact absurd e (by decide)
 |var s w _ _ _=>exact absurd e (by show ¬(17≤(4:Int)∧(4:Int)≤29);decide)
 |not h1 h2=>rw[zef]at e;omega
 |eq _ _ _=>rw[za4]at e;omega
 |ite _ _ _ _ _=>rw[zgu]at e;omega
 |cat _ _ _ _ _=>rw[za4]at e;omega
 |slice _ _ _ _ _ _=>rw[zkO]at e;omega
 |tbin op _ _ _ _ _ _=>rw[za4]at e;omega
 |cmp op _ _ _ _ _ _=>rw[za4]at e;omega
 |un op h1 h2 h3 h4=>rw[zef]at e;omega
 |wbin op h1 h2 h3 h4 h5 h6 h7=>
  rw[za4]at e;have:=zq4 (op:=op) (by omega) (by omega);exact⟨rfl,h3,h4,by rw[bin_a,this],by rw[bin_b,this,h6],by rw[this];exact h5,by rw[this];exact h7⟩
 |ext op w _ _ _ _ _ _=>rw[zgw]at e;omega
theorem zjb{t:Tr}(h:WS t)(e:t.op=14):t=tIte t.a t.b t.c∧WS t.a∧WS t.b∧WS t.c∧t.a.w=0∧t.b.w=t.w∧t.c.w=t.w:=by
 cases h with
 |con w x h1 h2=>rw[zd5]at e;omega
 |tru b=>cases b<;>cases e
 |var s w _ _ _=>cases e
 |not h1 h2=>rw[zef]at e;omega
 |eq _ _ _=>rw[za4]at e;omega
 |ite h1 h2 h3 h4 h5=>exact⟨rfl,h1,h2,h3,h4,rfl,h5.symm⟩
 |cat _ _ _ _ _=>rw[za4]at e;omega
 |slice _ _ _ _ _ _=>rw[zkO]at e;omega
 |tbin op _ _ _ _ _ _=>rw[za4]at e;omega
 |cmp op _ _ _ _ _ _=>rw[za4]at e;omega
 |un op h1 h2 h3 h4=>rw[zef]at e;omega
 |wbin op h1 h2 h3 h4 h5 h6 h7=>rw[za4]at e;omega
 |ext op w _ _ _ _ _ _=>rw[zgw]at e;omega
theorem zh8{t:Tr}(h:WS t)(e:t.op=30):t=tBin 30 t.a t.b∧WS t.a∧WS t.b∧1≤t.a.w∧1≤t.b.w∧t.w=t.a.w+t.b.w∧t.w≤64:=by
 cases h with
 |con w x h1 h2=>rw[zd5]at e;omega
 |tru b=>cases b<;>cases e
 |var s w _ _ _=>cases e
 |not h1 h2=>rw[zef]at e;omega
 |eq _ _ _=>rw[za4]at e;omega
 |ite h1 h2 h3 h4 h5=>rw[zgu]at e;omega
 |cat h1 h2 h3 h4 h5=>exact⟨rfl,h1,h2,h3,h4,rfl,h5⟩
 |slice _ _ _ _ _ _=>rw[zkO]at e;omega
 |tbin op _ _ _ _ _ _=>rw[za4]at e;omega
 |cmp op _ _ _ _ _ _=>rw[za4]at e;omega
 |un op h1 h2 h3 h4=>rw[zef]at e;omega
 |wbin op h1 h2 h3 h4 h5 h6 h7=>rw[za4]at e;omega
 |ext op w _ _ _ _ _ _=>rw[zgw]at e;omega
theorem zof{t:Tr}(h:WS t)(e:t.op=31):t=tSl t.a t.num t.w∧WS t.a∧0≤t.num∧1≤t.w∧t.num+t.w≤t.a.w:=by
 cases h with
 |con w x h1 h2=>rw[zd5]at e;omega
 |tru b=>cases b<;>cases e
 |var s w _ _ _=>cases e
 |not h1 h2=>rw[zef]at e;omega
 |eq _ _ _=>rw[za4]at e;omega
 |ite h1 h2 h3 h4 h5=>rw[zgu]at e;omega
 |cat h1 h2 h3 h4 h5=>rw[za4]at e;omega
 |slice i n h1 h2 h3 h4=>exact⟨rfl,h1,h2,h3,h4⟩
 |tbin op _ _ _ _ _ _=>rw[za4]at e;omega
 |cmp op _ _ _ _ _ _=>rw[za4]at e;omega
 |un op h1 h2 h3 h4=>rw[zef]at e;omega
 |wbin op h1 h2 h3 h4 h5 h6 h7=>rw[za4]at e;omega
 |ext op w _ _ _ _ _ _=>rw[zgw]at e;omega
theorem zfq{t:Tr}(h:WS t)(e:32≤t.op):t=tExt t.op t.a t.w∧WS t.a∧1≤t.a.w∧t.a.w≤t.w∧t.w≤64∧t.op≤33:=by
 cases h with
 |con w x h1 h2=>rw[zd5]at e;omega
 |tru b=>cases b<;>exact absurd e (by decide)
 |var s w _ _ _=>exact absurd e (by show ¬(32≤(4:Int));decide)
 |not h1 h2=>rw[zef]at e;omega
 |eq _ _ _=>rw[za4]at e;omega
 |ite h1 h2 h3 h4 h5=>rw[zgu]at e;omega
 |cat h1 h2 h3 h4 h5=>rw[za4]at e;omega
 |slice i n h1 h2 h3 h4=>rw[zkO]at e;omega
 |tbin op _ _ _ _ _ _=>rw[za4]at e;omega
 |cmp op _ _ _ _ _ _=>rw[za4]at e;omega
 |un op h1 h2 h3 h4=>rw[zef]at e;omega
 |wbin op h1 h2 h3 h4 h5 h6 h7=>rw[za4]at e;omega
 |ext op w h1 h2 h3 h4 h5 h6=>exact⟨rfl,h3,h4,h5,h6,h2⟩
theorem ifc{α:Type}{c:Prop} [Decidable c]{x y:Option α}{e:α}(h:(if c then x else y)=some e):(c∧x=some e)∨(¬c∧y=some e):=by
 by_cases q:c
 ·rw[if_pos q]at h;exact .inl ⟨q,h⟩
 ·rw[if_neg q]at h;exact .inr ⟨q,h⟩
inductive EW:Ex→Int→Prop
 |old {t:Tr} {w:Int}:WS t→t.w=w→EW (.old t) w
 |tru (b:Bool):EW (.tru b) 0
 |con {w v:Int} (x:W64):1≤w→w≤64→w=v→EW (.con w x) v
 |not {a:Ex}:EW a 0→EW (.un 5 a) 0
 |tbin (op:Int) {a b:Ex}:6≤op→op≤8→EW a 0→EW b 0→EW (.bin op a b) 0
 |eq {a b:Ex} {w:Int}:EW a w→EW b w→EW (.bin 9 a b) 0
 |cmp (op:Int) {a b:Ex} {w:Int}:10≤op→op≤13→1≤w→EW a w→EW b w→EW (.bin op a b) 0
 |ite {a b c:Ex} {w:Int}:EW a 0→EW b w→EW c w→EW (.ite a b c) w
 |un (op:Int) {a:Ex} {w:Int}:15≤op→op≤16→1≤w→EW a w→EW (.un op a) w
 |wbin (op:Int) {a b:Ex} {w:Int}:17≤op→op≤29→1≤w→(25≤op→zfm w=true)→EW a w→EW b w→EW (.bin op a b) w
 |slice {a:Ex} {v w:Int} (i n:Int):EW a v→0≤i→1≤n→i+n≤v→n=w→EW (.slice a i n) w
 |ext (op n:Int) {a:Ex} {v w:Int}:32≤op→op≤33→EW a v→1≤v→v≤n→n≤64→n=w→EW (.ext op a n) w
theorem znT{t:Tr}(h:WS t)(h1:1≤t.w)(v:W64):EW (isE t v) 0:=.eq (.old h rfl) (.con v h1 h.w.2 rfl)
section
variable {a b c:Tr}(ha:WS a)(hb:WS b)(hc:WS c){e:Ex}
theorem not_ok(ha:WS a)(h:notT a=some e):EW e 0:=by
 unfold notT at h;split at h
 ·cases h;exact .tru _
 ·split at h
  ·cases h;exact .tru _
  ·split at h
   ·rename_i h5;cases h;obtain⟨_,h1,h2,_⟩:=zfp ha h5;exact .old h1 h2
   ·cases h
theorem and_ok{op:Int}(ha:WS a)(hb:WS b)(wa:a.w=0)(wb:b.w=0)(h:andT op a b=some e):EW e 0:=by
 unfold andT at h;generalize (if op=6 then (2:Int) else 1)=z at h;generalize (if op=6 then (1:Int) else 2)=o at h
 repeat' split at h
 all_goals cases h
 all_goals first|exact .tru _|exact .old ha wa|exact .old hb wb
theorem xor_ok(ha:WS a)(hb:WS b)(wa:a.w=0)(wb:b.w=0)(h:xorT a b=some e):EW e 0:=by
 have na:=zfp ha;have nb:=zfp hb;unfold xorT at h
 repeat' split at h
 all_goals cases h
 all_goals first|exact .tru _|exact .old ha wa|exact .old hb wb|exact .not (.old ha wa)|exact .not (.old hb wb)|skip
 ·rename_i q;exact .not (.tbin 8 (by decide) (by decide) (.old (na q).2.1 (na q).2.2.1) (.old hb wb))
 ·rename_i q;exact .not (.tbin 8 (by decide) (by decide) (.old ha wa) (.old (nb q).2.1 (nb q).2.2.1))
theorem eqK_ok{k:W64}(ha:WS a)(h:eqK a k=some e):EW e 0:=by
 unfold eqK at h;split at h
 ·rename_i q;cases h;obtain⟨_,h1,h2,h3⟩:=zfi ha (by omega);exact znT h1 (by omega) _
 split at h
 ·rename_i q;cases h;obtain⟨_,h1,h2,h3⟩:=zfi ha (by omega);exact znT h1 (by omega) _
 split at h
 ·rename_i q;cases h;obtain⟨_,h1,h2,h3,h4,h5,_⟩:=zaX ha (by omega);exact znT h1 (by omega) _
 split at h
 ·rename_i q;cases h;obtain⟨_,h1,h2,h3,h4,h5,_⟩:=zaX ha (by omega);exact znT h1 (by omega) _
 split at h
 ·rename_i q;cases h;obtain⟨_,h1,h2,h3,h4,h5,_⟩:=zaX ha (by omega);exact znT h1 (by omega) _
 split at h
 ·rename_i q;cases h;obtain⟨_,h1,h2,h3,h4,h5,_⟩:=zaX ha (by omega);exact .eq (.old h1 h3) (.old h2 h4)
 split at h
 ·rename_i q;split at h
  ·cases h;exact .tru _
  ·cases h;obtain⟨_,h1,h2,h3,h4,h5⟩:=zfq ha (by omega);exact znT h1 h2 _
 split at h
 ·rename_i q;obtain⟨_,h1,h2,h3,h4,h5,h6⟩:=zjb ha q;unfold eqC at h
  repeat' split at h
  all_goals cases h
  all_goals first|exact .tru _|exact .old h1 h4|exact .not (.old h1 h4)
 split at h
 ·rename_i q;cases h;obtain⟨_,h1,h2,h3,h4,h5,h6⟩:=zh8 ha q;exact .tbin 6 (by decide) (by decide) (znT h1 h3 _) (znT h2 h4 _)
 ·cases h
theorem eq_ok(ha:WS a)(hb:WS b)(hw:a.w=b.w)(h:eqT a b=some e):EW e 0:=by
 have ta:=zpn ha;have tb:=zpn hb;unfold eqT at h;split at h
 ·cases h;exact .tru _
 split at h
 ·cases h;exact .tru _
 split at h
 ·cases h;exact .eq (.old hb rfl) (.old ha hw)
 split at h
 ·rename_i q;cases h;exact .old ha (by have:=(tb (.inl q)).2;omega)
 split at h
 ·rename_i q;cases h;exact .not (.old ha (by have:=(tb (.inr q)).2;omega))
 split at h
 ·cases h;exact .tru _
 split at h
 ·exact eqK_ok ha h
 ·cases h
theorem less_ok{op:Int}(ho:10≤op∧op≤13)(ha:WS a)(hb:WS b)(h1:1≤a.w)(hw:a.w=b.w)(h:zge op a b=some e):EW e 0:=by
 have hw64:=ha.w.2;unfold zge at h
 repeat' split at h
 all_goals cases h
 all_goals first|exact .tru _|exact .not (.cmp 10 (by decide) (by decide) (w:=a.w) h1 (.old hb hw.symm) (.old ha rfl))|exact .not (.cmp 12 (by decide) (by decide) (w:=a.w) h1 (.old hb hw.symm) (.old ha rfl))|exact .not (.eq (.old hb rfl) (.old ha hw))|exact .eq (.old ha rfl) (.con _ h1 hw64 rfl)|exact .not (.eq (.old ha rfl) (.old hb hw.symm))
theorem ite_ok{w:Int}(ha:WS a)(hb:WS b)(hc:WS c)(wa:a.w=0)(wb:b.w=w)(wc:c.w=w)(h:iteT w a b c=some e):EW e w:=by
 have na:=zfp ha;have ib:=zjb hb;have ic:=zjb hc;unfold iteT at h;rcases ifc h with⟨q,h⟩|⟨_,h⟩
 ·cases h;exact .old hb wb
 rcases ifc h with⟨q,h⟩|⟨_,h⟩
 ·cases h;exact .old hc wc
 rcases ifc h with⟨q,h⟩|⟨_,h⟩
 ·cases h;exact .ite (.old (na q).2.1 (na q).2.2.1) (.old hc wc) (.old hb wb)
 rcases ifc h with⟨q,h⟩|⟨_,h⟩
 ·cases h;have hw:=q.1;subst hw;exact .tbin 7 (by decide) (by decide) (.old ha wa) (.old hc wc)
 rcases ifc h with⟨q,h⟩|⟨_,h⟩
 ·cases h;have hw:=q.1;subst hw;exact .tbin 6 (by decide) (by decide) (.not (.old ha wa)) (.old hc wc)
 rcases ifc h with⟨q,h⟩|⟨_,h⟩
 ·cases h;have hw:=q.1;subst hw;exact .tbin 7 (by decide) (by decide) (.not (.old ha wa)) (.old hb wb)
 rcases ifc h with⟨q,h⟩|⟨_,h⟩
 ·cases h;have hw:=q.1;subst hw;exact .tbin 6 (by decide) (by decide) (.old ha wa) (.old hb wb)
 rcases ifc h with⟨q,h⟩|⟨_,h⟩
 ·cases h;have hw:=q.1;subst hw;exact .tbin 7 (by decide) (by decide) (.old ha wa) (.old hc wc)
 rcases ifc h with⟨q,h⟩|⟨_,h⟩
 ·cases h;have hw:=q.1;subst hw;exact .tbin 6 (by decide) (by decide) (.old ha wa) (.old hb wb)
 rcases ifc h with⟨q,h⟩|⟨_,h⟩
 ·cases h;obtain⟨_,h1,h2,h3,h4,h5,h6⟩:=ib q.1;exact .ite (.old ha wa) (.old h2 (h5.trans wb)) (.old hc wc)
 rcases ifc h with⟨q,h⟩|⟨_,h⟩
 ·cases h;obtain⟨_,h1,h2,h3,h4,h5,h6⟩:=ic q.1;exact .ite (.old ha wa) (.old hb wb) (.old h3 (h6.trans wc))
 ·cases h
theorem com_ok{op w:Int}(ho:15≤op∧op≤16)(ha:WS a)(h1:1≤a.w)(hw:a.w=w)(h:comT op w a=some e):EW e w:=by
 have hw64:=ha.w.2;unfold comT at h;split at h
 ·cases h;exact .con _ (by omega) (by omega) rfl
 split at h
 ·rename_i q;cases h;obtain⟨_,g1,g2,g3⟩:=zfi ha (by omega);exact .old g1 (g2.trans hw)
 split at h
 ·rename_i q;cases h;obtain⟨_,g1,g2,g3,g4,g5,_⟩:=zaX ha (by omega);exact .wbin 21 (by decide) (by decide) (by omega) (fun q=>by omega) (.old g2 (g4.trans hw)) (.old g1 (g3.trans hw))
 ·cases h
end
theorem zal{o:Int}{t:Tr}(h:zcv o t=true):t.op=o∧t.b.op=3:=of_decide_eq_true h
section
variable {a b c:Tr}{e:Ex}{w:Int}(ha:WS a)(hb:WS b)(wa:a.w=w)(wb:b.w=w)(h1:1≤w)
include ha hb wa wb h1
theorem band_ok{op:Int}(ho:17≤op∧op≤18)(h:zhy op w a b=some e):EW e w:=by
 have hw64:=ha.w.2;unfold zhy at h;generalize (if op=17 then 0#64 else ones w)=z at h;generalize (if op=17 then ones w else 0#64)=y at h;rcases ifc h with⟨q,h⟩|⟨_,h⟩
 ·cases h;exact .old hb wb
 rcases ifc h with⟨q,h⟩|⟨_,h⟩
 ·cases h;exact .old ha wa
 rcases ifc h with⟨q,h⟩|⟨_,h⟩
 ·cases h;exact .con _ h1 (by omega) rfl
 rcases ifc h with⟨q,h⟩|⟨_,h⟩
 ·cases h;have q:=zal q.2;obtain⟨_,g1,g2,g3,g4,g5,_⟩:=zaX ha (by omega);exact .wbin op (by omega) (by omega) h1 (fun z=>by omega) (.old g1 (g3.trans wa)) (.con _ h1 (by omega) rfl)
 ·cases h
theorem bxor_ok(h:zhw w a b=some e):EW e w:=by
 have hw64:=ha.w.2;have con:∀x,EW (.con w x) w:=fun x=>.con x h1 (by omega) rfl;have pa:a.op=19→_:=fun q=>zaX ha (by omega);have pb:b.op=19→_:=fun q=>zaX hb (by omega);unfold zhw at h;rcases ifc h with⟨q,h⟩|⟨_,h⟩
 ·cases h;exact .old ha wa
 rcases ifc h with⟨q,h⟩|⟨_,h⟩
 ·cases h;exact .un 15 (by decide) (by decide) h1 (.old ha wa)
 rcases ifc h with⟨q,h⟩|⟨_,h⟩
 ·cases h;exact con _
 rcases ifc h with⟨q,h⟩|⟨_,h⟩
 ·cases h;exact con _
 rcases ifc h with⟨q,h⟩|⟨_,h⟩
 ·cases h;obtain⟨_,g1,g2,g3,g4,g5,_⟩:=pa (zal q.2).1;exact .wbin 19 (by decide) (by decide) h1 (fun z=>by omega) (.old g1 (g3.trans wa)) (con _)
 rcases ifc h with⟨q,h⟩|⟨_,h⟩
 ·cases h;obtain⟨_,g1,g2,g3,g4,g5,_⟩:=pa q.1;exact .old g1 (g3.trans wa)
 rcases ifc h with⟨q,h⟩|⟨_,h⟩
 ·cases h;obtain⟨_,g1,g2,g3,g4,g5,_⟩:=pa q.1;exact .old g2 (g4.trans wa)
 rcases ifc h with⟨q,h⟩|⟨_,h⟩
 ·cases h;obtain⟨_,g1,g2,g3,g4,g5,_⟩:=pb q.1;exact .old g1 (g3.trans wb)
 rcases ifc h with⟨q,h⟩|⟨_,h⟩
 ·cases h;obtain⟨_,g1,g2,g3,g4,g5,_⟩:=pb q.1;exact .old g2 (g4.trans wb)
 ·cases h
theorem add_ok(h:addT w a b=some e):EW e w:=by
 have hw64:=ha.w.2;have con:∀x,EW (.con w x) w:=fun x=>.con x h1 (by omega) rfl;unfold addT at h;rcases ifc h with⟨q,h⟩|⟨_,h⟩
 ·cases h;exact .old ha wa
 rcases ifc h with⟨q,h⟩|⟨_,h⟩
 ·cases h;have q:=zal q.2;obtain⟨_,g1,g2,g3,g4,g5,_⟩:=zaX ha (by omega);exact .wbin 20 (by decide) (by decide) h1 (fun z=>by omega) (.old g1 (g3.trans wa)) (con _)
 rcases ifc h with⟨q,h⟩|⟨_,h⟩
 ·cases h;obtain⟨_,g1,g2,_⟩:=zfi hb (by omega);exact .wbin 21 (by decide) (by decide) h1 (fun z=>by omega) (.old ha wa) (.old g1 (g2.trans wb))
 rcases ifc h with⟨q,h⟩|⟨_,h⟩
 ·cases h;obtain⟨_,g1,g2,_⟩:=zfi ha (by omega);exact .wbin 21 (by decide) (by decide) h1 (fun z=>by omega) (.old hb wb) (.old g1 (g2.trans wa))
 rcases ifc h with⟨q,h⟩|⟨_,h⟩
 ·cases h;obtain⟨_,g1,g2,g3,g4,g5,_⟩:=zaX ha (by omega);exact .old g1 (g3.trans wa)
 rcases ifc h with⟨q,h⟩|⟨_,h⟩
 ·cases h;obtain⟨_,g1,g2,g3,g4,g5,_⟩:=zaX hb (by omega);exact .old g1 (g3.trans wb)
 ·cases h
theorem sub_ok(h:subT w a b=some e):EW e w:=by
 have hw64:=ha.w.2;have con:∀x,EW (.con w x) w:=fun x=>.con x h1 (by omega) rfl;unfold subT at h;rcases ifc h with⟨q,h⟩|⟨_,h⟩
 ·cases h;exact .old ha wa
 rcases ifc h with⟨q,h⟩|⟨_,h⟩
 ·cases h;exact con _
 rcases ifc h with⟨q,h⟩|⟨_,h⟩
 ·cases h;exact .wbin 20 (by decide) (by decide) h1 (fun z=>by omega) (.old ha wa) (con _)
 rcases ifc h with⟨q,h⟩|⟨_,h⟩
 ·cases h;exact .un 16 (by decide) (by decide) h1 (.old hb wb)
 rcases ifc h with⟨q,h⟩|⟨_,h⟩
 ·cases h;obtain⟨_,g1,g2,g3,g4,g5,_⟩:=zaX ha (by omega);exact .old g1 (g3.trans wa)
 rcases ifc h with⟨q,h⟩|⟨_,h⟩
 ·cases h;obtain⟨_,g1,g2,g3,g4,g5,_⟩:=zaX ha (by omega);exact .old g2 (g4.trans wa)
 rcases ifc h with⟨q,h⟩|⟨_,h⟩
 ·cases h;obtain⟨_,g1,g2,_⟩:=zfi hb (by omega);exact .wbin 20 (by decide) (by decide) h1 (fun z=>by omega) (.old ha wa) (.old g1 (g2.trans wb))
 ·cases h
theorem mul_ok{op:Int}(ho:22≤op∧op≤24)(h:mulT op w a b=some e):EW e w:=by
 have hw64:=ha.w.2;have con:∀x,EW (.con w x) w:=fun x=>.con x h1 (by omega) rfl;unfold mulT at h;rcases ifc h with⟨q,h⟩|⟨_,h⟩
 ·cases h
 rcases ifc h with⟨q,h⟩|⟨_,h⟩
 ·cases h;exact .old hb wb
 rcases ifc h with⟨q,h⟩|⟨_,h⟩
 ·cases h;exact con _
 rcases ifc h with⟨q,h⟩|⟨_,h⟩
 ·cases h;exact .old ha wa
 rcases ifc h with⟨q,h⟩|⟨_,h⟩
 ·cases h;exact .un 16 (by decide) (by decide) h1 (.old ha wa)
 rcases ifc h with⟨q,h⟩|⟨_,h⟩
 ·cases h;exact .wbin 25 (by decide) (by decide) h1 (fun z=>q.2.2) (.old ha wa) (con _)
 rcases ifc h with⟨q,h⟩|⟨_,h⟩
 ·cases h;exact .wbin 26 (by decide) (by decide) h1 (fun z=>q.2.2) (.old ha wa) (con _)
 rcases ifc h with⟨q,h⟩|⟨_,h⟩
 ·cases h;exact .wbin 17 (by decide) (by decide) h1 (fun z=>by omega) (.old ha wa) (con _)
 rcases ifc h with⟨q,h⟩|⟨_,h⟩
 ·cases h;have q:=zal q.2;obtain⟨_,g1,g2,g3,g4,g5,_⟩:=zaX ha (by omega);exact .wbin 22 (by decide) (by decide) h1 (fun z=>by omega) (.old g1 (g3.trans wa)) (con _)
 ·cases h
theorem shift_ok{op:Int}(ho:25≤op∧op≤29)(hp:zfm w=true)(h:zdJ op w a b=some e):EW e w:=by
 have hw64:=ha.w.2;have con:∀x,EW (.con w x) w:=fun x=>.con x h1 (by omega) rfl;unfold zdJ at h;rcases ifc h with⟨q,h⟩|⟨_,h⟩
 ·cases h;exact .old ha wa
 rcases ifc h with⟨q,h⟩|⟨_,h⟩
 ·cases h
 rcases ifc h with⟨q,h⟩|⟨_,h⟩
 ·cases h;exact .wbin op (by omega) (by omega) h1 (fun z=>hp) (.old ha wa) (con _)
 rcases ifc h with⟨q,h⟩|⟨_,h⟩
 ·cases h;exact .old ha wa
 rcases ifc h with⟨q,h⟩|⟨_,h⟩
 ·rcases ifc h with⟨_,h⟩|⟨_,h⟩
  ·cases h;exact con _
  ·cases h;have q:=zal q.2;obtain⟨_,g1,g2,g3,g4,g5,_⟩:=zaX ha (by omega);exact .wbin op (by omega) (by omega) h1 (fun z=>hp) (.old g1 (g3.trans wa)) (con _)
 rcases ifc h with⟨q,h⟩|⟨_,h⟩
 ·cases h;have q:=zal q.2;obtain⟨_,g1,g2,g3,g4,g5,_⟩:=zaX ha (by omega);exact .wbin 28 (by decide) (by decide) h1 (fun z=>hp) (.old g1 (g3.trans wa)) (con _)
 rcases ifc h with⟨q,h⟩|⟨_,h⟩
 ·cases h;exact .wbin 28 (by decide) (by decide) h1 (fun z=>hp) (.old ha wa) (con _)
 ·cases h
end
section
variable {a b c:Tr}{e:Ex}{w:Int}
theorem cat_ok(ha:WS a)(hb:WS b)(wa:1≤a.w)(wb:1≤b.w)(hw:w=a.w+b.w)(hw64:w≤64)(h:catT w a b=some e):EW e w:=by
 unfold catT at h;rcases ifc h with⟨q,h⟩|⟨_,h⟩
 ·cases h;exact .ext 32 w (by decide) (by decide) (.old hb rfl) wb (by omega) hw64 rfl
 rcases ifc h with⟨q,h⟩|⟨_,h⟩
 ·cases h;obtain⟨q1,q2,q3,q4⟩:=q;obtain⟨_,g1,g2,g3,g4⟩:=zof ha q1;obtain⟨_,k1,k2,k3,k4⟩:=zof hb q2;exact .slice _ _ (.old k1 rfl) k2 (by omega) (by rw[←q3];omega) rfl
 ·cases h
theorem word_ok{op:Int}(ho:17≤op∧op≤29)(ha:WS a)(hb:WS b)(wa:a.w=w)(wb:b.w=w)(h1:1≤w)(hp:25≤op→zfm w=true)(h:zfj op w a b=some e):EW e w:=by
 have hw64:=ha.w.2;unfold zfj at h;rcases ifc h with⟨q,h⟩|⟨_,h⟩
 ·cases h;exact .con _ h1 (by omega) rfl
 rcases ifc h with⟨q,h⟩|⟨_,h⟩
 ·cases h;exact .wbin op (by omega) (by omega) h1 (fun z=>by omega) (.old hb wb) (.old ha wa)
 rcases ifc h with⟨q,h⟩|⟨_,h⟩
 ·exact band_ok ha hb wa wb h1 (by omega) h
 rcases ifc h with⟨q,h⟩|⟨_,h⟩
 ·exact bxor_ok ha hb wa wb h1 h
 rcases ifc h with⟨q,h⟩|⟨_,h⟩
 ·exact add_ok ha hb wa wb h1 h
 rcases ifc h with⟨q,h⟩|⟨_,h⟩
 ·exact sub_ok ha hb wa wb h1 h
 rcases ifc h with⟨q,h⟩|⟨_,h⟩
 ·exact mul_ok ha hb wa wb h1 (by omega) h
 rcases ifc h with⟨q,h⟩|⟨_,h⟩
 ·omega
 exact shift_ok ha hb wa wb h1 (by omega) (hp (by omega)) h
theorem wcat_ok(ha:WS a)(hb:WS b)(wa:1≤a.w)(wb:1≤b.w)(hw:w=a.w+b.w)(hw64:w≤64)(h:zfj 30 w a b=some e):EW e w:=by
 unfold zfj at h;rcases ifc h with⟨q,h⟩|⟨_,h⟩
 ·cases h;exact .con _ (by omega) (by omega) rfl
 rcases ifc h with⟨q,h⟩|⟨_,h⟩
 ·omega
 rw[if_neg (by decide),if_neg (by decide),if_neg (by decide),if_neg (by decide),if_neg (by decide),if_pos rfl]at h;exact cat_ok ha hb wa wb hw hw64 h
theorem slice_ok{num:Int}(ha:WS a)(h0:0≤num)(h1:1≤w)(hw:num+w≤a.w)(h:zdI w num a=some e):EW e w:=by
 have hw64:=ha.w.2;unfold zdI at h;rcases ifc h with⟨q,h⟩|⟨_,h⟩
 ·cases h;exact .con _ h1 (by omega) rfl
 rcases ifc h with⟨q,h⟩|⟨_,h⟩
 ·cases h;exact .old ha q.symm
 rcases ifc h with⟨q,h⟩|⟨_,h⟩
 ·cases h;obtain⟨_,g1,g2,g3,g4⟩:=zof ha q;exact .slice _ _ (.old g1 rfl) (by omega) h1 (by omega) rfl
 rcases ifc h with⟨q,h⟩|⟨_,h⟩
 ·cases h;obtain⟨_,g1,g2,g3,g4,g5,g6⟩:=zh8 ha q.1;exact .slice _ _ (.old g2 rfl) h0 h1 q.2 rfl
 rcases ifc h with⟨q,h⟩|⟨_,h⟩
 ·cases h;obtain⟨_,g1,g2,g3,g4,g5,g6⟩:=zh8 ha q.1;exact .slice _ _ (.old g1 rfl) (by omega) h1 (by omega) rfl
 rcases ifc h with⟨q,h⟩|⟨_,h⟩
 ·cases h;obtain⟨_,g1,g2,g3,g4,g5⟩:=zfq ha (by omega);exact .slice _ _ (.old g1 rfl) h0 h1 q.2 rfl
 rcases ifc h with⟨q,h⟩|⟨_,h⟩
 ·cases h;exact .con _ h1 (by omega) rfl
 ·cases h
theorem ext_ok{op:Int}(ho:32≤op∧op≤33)(ha:WS a)(h1:1≤a.w)(hw:a.w≤w)(hw64:w≤64)(h:extT op w a=some e):EW e w:=by
 unfold extT at h;rcases ifc h with⟨q,h⟩|⟨_,h⟩
 ·cases h;exact .con _ (by omega) hw64 rfl
 rcases ifc h with⟨q,h⟩|⟨_,h⟩
 ·cases h;exact .old ha q.symm
 rcases ifc h with⟨q,h⟩|⟨_,h⟩
 ·cases h;obtain⟨_,g1,g2,g3,g4,g5⟩:=zfq ha (by omega);exact .ext op w (by omega) (by omega) (.old g1 rfl) g2 (by omega) hw64 rfl
 rcases ifc h with⟨q,h⟩|⟨_,h⟩
 ·cases h;obtain⟨_,g1,g2,g3,g4,g5⟩:=zfq ha (by omega);exact .ext 32 w (by decide) (by decide) (.old g1 rfl) g2 (by omega) hw64 rfl
 ·cases h
end
theorem zhf{t:Tr}(h:t.op<5):zcS t=none:=by
 cases t with
 |z=>rfl
 |nd op w num s a b c=>exact if_pos h
theorem r_and{op:Int}(h:6≤op∧op≤7)(a b:Tr):zcS (tBin op a b)=andT op a b:=by
 have key:∀w,zfk op w 0 a b .z=andT op a b:=fun w=>by unfold zfk;rw[if_neg (by omega),if_neg (by omega),if_pos (by omega)]
 exact key _
theorem zpJ{op:Int}(h:10≤op∧op≤13)(a b:Tr):zcS (tBin op a b)=zge op a b:=by
 have key:∀w,zfk op w 0 a b .z=zge op a b:=fun w=>by unfold zfk;rw[if_neg (by omega),if_neg (by omega),if_neg (by omega),if_neg (by omega),if_neg (by omega),if_pos (by omega)]
 exact key _
theorem r_com{op:Int}(h:15≤op∧op≤16)(a:Tr):zcS (tUn op a)=comT op a.w a:=by
 have key:∀w,zfk op w 0 a .z .z=comT op w a:=fun w=>by unfold zfk;rw[if_neg (by omega),if_neg (by omega),if_neg (by omega),if_neg (by omega),if_neg (by omega),if_neg (by omega),if_neg (by omega),if_pos (by omega)]
 refine(key _).trans ?_;rw[if_neg (by omega)]
theorem zic{op:Int}(h:17≤op∧op≤30)(a b:Tr):zcS (tBin op a b)=zfj op (if op=30 then a.w+b.w else a.w) a b:=by
 have key:∀w,zfk op w 0 a b .z=zfj op w a b:=fun w=>by unfold zfk;rw[if_neg (by omega),if_neg (by omega),if_neg (by omega),if_neg (by omega),if_neg (by omega),if_neg (by omega),if_neg (by omega),if_neg (by omega),if_pos (by omega)]
 refine(key _).trans ?_;rw[if_neg (by omega)]
theorem r_ext{op:Int}(h:32≤op)(a:Tr)(w:Int):zcS (tExt op a w)=extT op w a:=by show zfk op w 0 a .z .z=_;unfold zfk;rw[if_neg (by omega),if_neg (by omega),if_neg (by omega),if_neg (by omega),if_neg (by omega),if_neg (by omega),if_neg (by omega),if_neg (by omega),if_neg (by omega),if_neg (by omega)]
theorem zhF{t:Tr}(h:WS t){e:Ex}(hr:zcS t=some e):EW e t.w:=by
 cases h with
 |tru b=>rw[zhf (by rw[zpt];cases b<;>decide)]at hr;cases hr
 |con w x _ _=>rw[zhf (by rw[zd5];decide)]at hr;cases hr
 |var s w _ _ _=>rw[zhf (by show (4:Int)<5;decide)]at hr;cases hr
 |not h1 h2=>rw[un_w5];exact not_ok h1 hr
 |tbin op o1 o2 h1 h2 h3 h4=>
  rw[zct (by omega)];by_cases h8:op=8
  ·subst h8;exact xor_ok h1 h2 h3 h4 hr
  ·rw[r_and (by omega)]at hr;exact and_ok h1 h2 h3 h4 hr
 |eq h1 h2 h3=>rw[zct (by decide)];exact eq_ok h1 h2 h3 hr
 |cmp op o1 o2 h1 h2 h3 h4=>rw[zct (by omega)];rw[zpJ (by omega)]at hr;exact less_ok (by omega) h1 h2 h3 h4 hr
 |ite h1 h2 h3 h4 h5=>exact ite_ok h1 h2 h3 h4 rfl h5.symm hr
 |un op o1 o2 h1 h2=>rw[un_w (by omega)];rw[r_com (by omega)]at hr;exact com_ok (by omega) h1 h2 rfl hr
 |wbin op o1 o2 h1 h2 h3 h4 h5=>rw[zq4 (by omega) (by omega)];rw[zic (by omega),if_neg (by omega)]at hr;exact word_ok (by omega) h1 h2 rfl h4.symm h3 h5 hr
 |cat h1 h2 h3 h4 h5=>rw[zmH];rw[zic (by omega),if_pos rfl]at hr;exact wcat_ok h1 h2 h3 h4 rfl h5 hr
 |slice i n h1 h2 h3 h4=>exact slice_ok h1 h2 h3 h4 hr
 |ext op w o1 o2 h1 h2 h3 h4=>rw[r_ext (by omega)]at hr;exact ext_ok (by omega) h1 h2 h3 h4 hr
theorem zo5{s:Tr→Option (Tr×Nat)}(hs:∀t r,WS t→s t=some r→WS r.1∧r.1.w=t.w){e:Ex}{w:Int}(h:EW e w):∀r,exF s e=some r→WS r.1∧r.1.w=w:=by
 have b1:∀{α β:Type} {x:Option α} {f:α→Option β} {r:β},x.bind f=some r→∃y,x=some y∧f y=some r:=fun {α β x f r} h=>by
  cases x with
  |none=>cases h
  |some y=>exact⟨y,rfl,h⟩
 have m1:∀{α β:Type} {x:Option α} {f:α→β} {r:β},x.map f=some r→∃y,x=some y∧f y=r:=fun {α β x f r} h=>by
  cases x with
  |none=>cases h
  |some y=>exact⟨y,rfl,Option.some.inj h⟩
 induction h with
 |old h1 h2=>intro r hr;cases hr;exact⟨h1,h2⟩
 |tru b=>intro r hr;cases hr;exact⟨.tru b,rfl⟩
 |con x h1 h2 h3=>intro r hr;cases hr;exact⟨.con _ x h1 h2,h3⟩
 |not _ ih=>
  intro r hr;obtain⟨a,a1,hr⟩:=b1 hr;obtain⟨t,t1,rfl⟩:=m1 hr;obtain⟨g1,g2⟩:=ih a a1;have:=hs _ _ (.not g1 g2) t1;rw[un_w5]at this;exact this
 |un op o1 o2 hw _ ih=>
  intro r hr;obtain⟨a,a1,hr⟩:=b1 hr;obtain⟨t,t1,rfl⟩:=m1 hr;obtain⟨g1,g2⟩:=ih a a1;have:=hs _ _ (.un op o1 o2 g1 (by omega)) t1;rw[un_w (by omega),g2]at this;exact this
 |tbin op o1 o2 _ _ ih1 ih2=>
  intro r hr;obtain⟨a,a1,hr⟩:=b1 hr;obtain⟨b,b2,hr⟩:=b1 hr;obtain⟨t,t1,rfl⟩:=m1 hr;obtain⟨g1,g2⟩:=ih1 a a1;obtain⟨g3,g4⟩:=ih2 b b2;have:=hs _ _ (.tbin op o1 o2 g1 g3 g2 g4) t1;rw[zct (by omega)]at this;exact this
 |eq _ _ ih1 ih2=>
  intro r hr;obtain⟨a,a1,hr⟩:=b1 hr;obtain⟨b,b2,hr⟩:=b1 hr;obtain⟨t,t1,rfl⟩:=m1 hr;obtain⟨g1,g2⟩:=ih1 a a1;obtain⟨g3,g4⟩:=ih2 b b2;have:=hs _ _ (.eq g1 g3 (by omega)) t1;rw[zct (by decide)]at this;exact this
 |cmp op o1 o2 hw _ _ ih1 ih2=>
  intro r hr;obtain⟨a,a1,hr⟩:=b1 hr;obtain⟨b,b2,hr⟩:=b1 hr;obtain⟨t,t1,rfl⟩:=m1 hr;obtain⟨g1,g2⟩:=ih1 a a1;obtain⟨g3,g4⟩:=ih2 b b2;have:=hs _ _ (.cmp op o1 o2 g1 g3 (by omega) (by omega)) t1;rw[zct (by omega)]at this;exact this
 |ite _ _ _ ih1 ih2 ih3=>
  intro r hr;obtain⟨a,a1,hr⟩:=b1 hr;obtain⟨b,b2,hr⟩:=b1 hr;obtain⟨c,c2,hr⟩:=b1 hr;obtain⟨t,t1,rfl⟩:=m1 hr;obtain⟨g1,g2⟩:=ih1 a a1;obtain⟨g3,g4⟩:=ih2 b b2;obtain⟨g5,g6⟩:=ih3 c c2;have:=hs _ _ (.ite g1 g3 g5 g2 (by omega)) t1;rw[ite_w,g4]at this;exact this
 |wbin op o1 o2 hw hp _ _ ih1 ih2=>
  intro r hr;obtain⟨a,a1,hr⟩:=b1 hr;obtain⟨b,b2,hr⟩:=b1 hr;obtain⟨t,t1,rfl⟩:=m1 hr;obtain⟨g1,g2⟩:=ih1 a a1;obtain⟨g3,g4⟩:=ih2 b b2;have:=hs _ _ (.wbin op o1 o2 g1 g3 (by omega) (by omega) (by rw[g2];exact hp)) t1;rw[zq4 (by omega) (by omega),g2]at this;exact this
 |slice i n _ h0 h1 h2 h3 ih=>
  intro r hr;obtain⟨a,a1,hr⟩:=b1 hr;obtain⟨t,t1,rfl⟩:=m1 hr;obtain⟨g1,g2⟩:=ih a a1;have:=hs _ _ (.slice i n g1 h0 h1 (by omega)) t1;rw[sl_w,h3]at this;exact this
 |ext op n o1 o2 _ h1 h2 h3 h4 ih=>
  intro r hr;obtain⟨a,a1,hr⟩:=b1 hr;obtain⟨t,t1,rfl⟩:=m1 hr;obtain⟨g1,g2⟩:=ih a a1;have:=hs _ _ (.ext op n o1 o2 g1 (by omega) (by omega) h3) t1;rw[ext_w,h4]at this;exact this
theorem zgg:∀(k:Nat) (t:Tr) (r:Tr×Nat),WS t→simF k t=some r→WS r.1∧r.1.w=t.w
 |0,t,r,h,hr=>by cases hr
 |k+1,t,r,h,hr=>by
  unfold simF at hr;cases hq:zcS t with
  |none=>rw[hq]at hr;cases hr;exact⟨h,rfl⟩
  |some e=>
   rw[hq]at hr;dsimp only at hr;cases hx:exF (simF k) e with
   |none=>rw[hx]at hr;cases hr
   |some x=>
    rw[hx]at hr;cases hr;exact zo5 (zgg k) (zhF h hq) x hx
def Tr.dep:Tr→Nat
 |.z=>0
 |.nd op _ _ _ a b c=>(if op≤5 then 0 else 1)+max a.dep (max b.dep c.dep)
def Tr.lead:Tr→Nat
 |.z=>0
 |.nd op _ _ _ a _ _=>if op=5 then 1+a.lead else 0
def spT(x:Tr):Tr→Nat
 |.z=>0
 |.nd op _ _ _ a b c=>if op=14∧a=x then 1+max (spT x b) (spT x c) else 0
theorem zby{t:Tr}(h:6≤t.op):t.dep=1+max t.a.dep (max t.b.dep t.c.dep):=by
 cases t with
 |z=>exact absurd h (by decide)
 |nd op w num s a b c=>
  have h:6≤op:=h;show (if op≤5 then 0 else 1)+_=_;rw[if_neg (by omega)];rfl
theorem dep_not{t:Tr}(hw:WS t)(h:t.op=5):t.dep=t.a.dep:=by
 obtain⟨e,_⟩:=zfp hw h;have e2:t.dep=(tUn 5 t.a).dep:=by rw[←e]
 rw[e2];show (if (5:Int)≤5 then 0 else 1)+max t.a.dep (max 0 0)=_;rw[if_pos (by decide)];omega
theorem zgO(w:Int)(x:W64):(tCon w x).dep=0:=rfl
theorem zks{op:Int}(h:6≤op)(a b:Tr):(tBin op a b).dep=1+max a.dep b.dep:=by rw[zby (by rw[za4];exact h),bin_a,bin_b];show 1+max a.dep (max b.dep 0)=_;omega
theorem dep_un{op:Int}(h:6≤op)(a:Tr):(tUn op a).dep=1+a.dep:=by rw[zby (by rw[zef];exact h),un_a];show 1+max a.dep (max 0 0)=_;omega
theorem dep_un5(a:Tr):(tUn 5 a).dep=a.dep:=by show (if (5:Int)≤5 then 0 else 1)+max a.dep (max 0 0)=_;rw[if_pos (by decide)];omega
theorem dep_ite(c a b:Tr):(tIte c a b).dep=1+max c.dep (max a.dep b.dep):=by rw[zby (by rw[zgu];decide)];rfl
theorem dep_sl(a:Tr)(i n:Int):(tSl a i n).dep=1+a.dep:=by rw[zby (by rw[zkO];decide),sl_a];show 1+max a.dep (max 0 0)=_;omega
theorem dep_ext{op:Int}(h:6≤op)(a:Tr)(w:Int):(tExt op a w).dep=1+a.dep:=by rw[zby (by rw[zgw];exact h),ext_a];show 1+max a.dep (max 0 0)=_;omega
theorem zpv(x:Tr):∀t:Tr,spT x t≤t.dep
 |.z=>Nat.le_refl _
 |.nd op w num s a b c=>by
  have h1:=zpv x b;have h2:=zpv x c;show (if op=14∧a=x then 1+max (spT x b) (spT x c) else 0)≤(if op≤5 then 0 else 1)+max a.dep (max b.dep c.dep);split
  ·rename_i q;rw[if_neg (by omega)];omega
  ·omega
theorem sp_eq{x t:Tr}(h:t.op=14∧t.a=x):spT x t=1+max (spT x t.b) (spT x t.c):=by
 cases t with
 |z=>exact absurd h.1 (by decide)
 |nd op w num s a b c=>exact if_pos h
def flg(a b:Tr):Nat:=if fixT a=true∧¬fixT b=true then 1 else 0
def flK(a b:Tr):Nat:=if a.op=3∧¬b.op=3 then 1 else 0
def wdN(t:Tr):Nat:=max t.w.toNat 1
def kEq(a b:Tr):Nat:=7+3*flg a b+9*(wdN a*max a.dep b.dep)
def ziQ(op:Int)(a b:Tr):Nat:=18+(if op=11∨op=13 then 9 else 0)+9*(wdN a*max a.dep b.dep)
def kIte:Tr→Tr→Tr→Nat
 |.z,b,c=>13+4*(spT .z b+spT .z c)
 |.nd op w num s x y z,b,c=>if op=5 then 4+kIte x c b else 13+4*(spT (.nd op w num s x y z) b+spT (.nd op w num s x y z) c)
def kNeg(a:Tr):Nat:=8+24*a.dep
def kAdd(a b:Tr):Nat:=16+12*(a.dep+b.dep)+4*flK a b
def kSub(a b:Tr):Nat:=if a.op=3∧a.k=0#64 then 12+24*b.dep else 21+12*(a.dep+b.dep)
def kBx(a b:Tr):Nat:=16+8*(a.dep+b.dep)+4*flK a b
def kMul(a b:Tr):Nat:=30+24*(a.dep+b.dep)+4*flK a b
def kSh(op w:Int)(a b:Tr):Nat:=16+8*a.dep+(if op=29 then 6 else 0)+(if b.op=3∧b.k.toNat≥w.toNat then 6 else 0)
def kN(op w:Int)(a b c:Tr):Nat:=
 if op<5 then 3 else if op≤7 then 4 else if op=8 then 9*(a.lead+b.lead)+9 else if op=9 then kEq a b else if op≤13 then ziQ op a b else if op=14 then kIte a b c else if op=15 then 8 else if op=16 then kNeg a
 else if op≤19 then kBx a b else if op=20 then kAdd a b else if op=21 then kSub a b else if op≤24 then kMul a b else if op≤29 then kSh op w a b else if op=30 then 24+8*(a.dep+b.dep) else 16+8*(a.dep+b.dep)
def kap:Tr→Nat
 |.z=>3
 |.nd op w _ _ a b c=>kN op w a b c
theorem zkg(a:Tr):kap (tUn 5 a)=4:=rfl
theorem zo1{op:Int}(h:6≤op∧op≤7)(a b:Tr):kap (tBin op a b)=4:=by
 have key:∀w,kN op w a b .z=4:=fun w=>by unfold kN;rw[if_neg (by omega),if_pos (by omega)]
 exact key _
theorem kap_xor(a b:Tr):kap (tBin 8 a b)=9*(a.lead+b.lead)+9:=rfl
theorem zlz(a b:Tr):kap (tBin 9 a b)=kEq a b:=rfl
theorem zms{op:Int}(h:10≤op∧op≤13)(a b:Tr):kap (tBin op a b)=ziQ op a b:=by
 have key:∀w,kN op w a b .z=ziQ op a b:=fun w=>by unfold kN;rw[if_neg (by omega),if_neg (by omega),if_neg (by omega),if_neg (by omega),if_pos (by omega)]
 exact key _
theorem zo0(c a b:Tr):kap (tIte c a b)=kIte c a b:=rfl
theorem kap_com(a:Tr):kap (tUn 15 a)=8:=rfl
theorem zmr(a:Tr):kap (tUn 16 a)=kNeg a:=rfl
theorem zir{op:Int}(h:17≤op∧op≤19)(a b:Tr):kap (tBin op a b)=kBx a b:=by
 have key:∀w,kN op w a b .z=kBx a b:=fun w=>by unfold kN;rw[if_neg (by omega),if_neg (by omega),if_neg (by omega),if_neg (by omega),if_neg (by omega),if_neg (by omega),if_neg (by omega),if_neg (by omega),if_pos (by omega)]
 exact key _
theorem zgH(a b:Tr):kap (tBin 20 a b)=kAdd a b:=rfl
theorem zkf(a b:Tr):kap (tBin 21 a b)=kSub a b:=rfl
theorem zkh{op:Int}(h:22≤op∧op≤24)(a b:Tr):kap (tBin op a b)=kMul a b:=by
 have key:∀w,kN op w a b .z=kMul a b:=fun w=>by unfold kN;rw[if_neg (by omega),if_neg (by omega),if_neg (by omega),if_neg (by omega),if_neg (by omega),if_neg (by omega),if_neg (by omega),if_neg (by omega),if_neg (by omega),if_neg (by omega),if_neg (by omega),if_pos (by omega)]
 exact key _
theorem ziq{op:Int}(h:25≤op∧op≤29)(a b:Tr):kap (tBin op a b)=kSh op a.w a b:=by
 have key:∀w,kN op w a b .z=kSh op w a b:=fun w=>by unfold kN;rw[if_neg (by omega),if_neg (by omega),if_neg (by omega),if_neg (by omega),if_neg (by omega),if_neg (by omega),if_neg (by omega),if_neg (by omega),if_neg (by omega),if_neg (by omega),if_neg (by omega),if_neg (by omega),if_pos (by omega)]
 refine(key _).trans ?_;rw[if_neg (by omega),if_neg (by omega)]
theorem kap_30(a b:Tr):kap (tBin 30 a b)=24+8*(a.dep+b.dep):=rfl
theorem kap_sl(a:Tr)(i n:Int):kap (tSl a i n)=16+8*(a.dep+0):=rfl
theorem zmt{op:Int}(h:32≤op)(a:Tr)(w:Int):kap (tExt op a w)=16+8*(a.dep+0):=by show kN op w a .z .z=_;unfold kN;rw[if_neg (by omega),if_neg (by omega),if_neg (by omega),if_neg (by omega),if_neg (by omega),if_neg (by omega),if_neg (by omega),if_neg (by omega),if_neg (by omega),if_neg (by omega),if_neg (by omega),if_neg (by omega),if_neg (by omega),if_neg (by omega)];rfl
inductive KC:Ex→Nat→Prop
 |old (t:Tr):KC (.old t) 0
 |tru (b:Bool):KC (.tru b) 1
 |con (w:Int) (x:W64):KC (.con w x) 1
 |not {a:Ex} {n:Nat}:KC a n→KC (.un 5 a) (n+5)
 |and (op:Int) {a b:Ex} {n m:Nat}:6≤op→op≤7→KC a n→KC b m→KC (.bin op a b) (n+m+5)
 |un (op:Int) (t:Tr):KC (.un op (.old t)) (1+kap (tUn op t))
 |bin (op:Int) (s t:Tr):KC (.bin op (.old s) (.old t)) (1+kap (tBin op s t))
 |bink (op:Int) (s:Tr) (w:Int) (x:W64):KC (.bin op (.old s) (.con w x)) (2+kap (tBin op s (tCon w x)))
 |ite (c a b:Tr):KC (.ite (.old c) (.old a) (.old b)) (1+kap (tIte c a b))
 |slice (a:Tr) (i n:Int):KC (.slice (.old a) i n) (1+kap (tSl a i n))
 |ext (op:Int) (a:Tr) (w:Int):KC (.ext op (.old a) w) (1+kap (tExt op a w))
theorem ex_tot{k:Nat}(hs:∀t,WS t→kap t<k→∃r,simF k t=some r∧r.2≤kap t):∀{e:Ex} {n w},KC e n→EW e w→n≤k→∃r,exF (simF k) e=some r∧r.2≤n:=by
 have ws:=fun {e:Ex} {w:Int} (h:EW e w)=>zo5 (zgg k) h;intro e n w h;induction h generalizing w with
 |old t=>intro _ _;exact⟨(t,0),rfl,Nat.le_refl _⟩
 |tru b=>intro _ _;exact⟨(tTru b,1),rfl,Nat.le_refl _⟩
 |con v x=>intro _ _;exact⟨(tCon v x,1),rfl,Nat.le_refl _⟩
 |not h ih=>
  intro hw hn;cases hw with
  |not hw=>
   obtain⟨r,r1,r2⟩:=ih hw (by omega);obtain⟨g1,g2⟩:=ws hw r r1;obtain⟨u,u1,u2⟩:=hs (tUn 5 r.1) (.not g1 g2) (by rw[zkg];omega);rw[zkg]at u2;refine⟨(u.1,r.2+1+u.2),?_,by dsimp only;omega⟩;show (exF (simF k) _).bind _=_;rw[r1];show (simF k (tUn 5 r.1)).map _=_;rw[u1];rfl
  |un op o1 o2=>omega
 |and op o1 o2 ha hb iha ihb=>
  intro hw hn;have fin:∀{a b:Ex} {n m:Nat},(∀{w},EW a w→n≤k→∃r,exF (simF k) a=some r∧r.2≤n)→(∀{w},EW b w→m≤k→∃r,exF (simF k) b=some r∧r.2≤m)→n+m+5≤k→EW a 0→EW b 0→∃r,exF (simF k) (.bin op a b)=some r∧r.2≤n+m+5:=fun {a b n m} iha ihb hn h1 h2=>by obtain⟨r,r1,r2⟩:=iha h1 (by omega);obtain⟨q,q1,q2⟩:=ihb h2 (by omega);obtain⟨g1,g2⟩:=ws h1 r r1;obtain⟨g3,g4⟩:=ws h2 q q1;obtain⟨u,u1,u2⟩:=hs (tBin op r.1 q.1) (.tbin op o1 (by omega) g1 g3 g2 g4) (by rw[zo1 ⟨o1,o2⟩];omega);rw[zo1 ⟨o1,o2⟩]at u2;refine⟨(u.1,r.2+q.2+1+u.2),?_,by dsimp only;omega⟩;show (exF (simF k) _).bind _=_;rw[r1];show (exF (simF k) _).bind _=_;rw[q1];show (simF k (tBin op r.1 q.1)).map _=_;rw[u1];rfl
  cases hw with
  |tbin _ _ _ h1 h2=>exact fin iha ihb hn h1 h2
  |eq _ _=>omega
  |cmp _ _ _ _=>omega
  |wbin _ _ _ _ _=>omega
 |un op t=>
  intro hw hn;have:WS (tUn op t):=by
   cases hw with
   |not hw=>cases hw with|old h1 h2=>exact .not h1 h2
   |un op o1 o2 h1 hw=>cases hw with|old h2 h3=>exact .un op o1 o2 h2 (by omega)
  obtain⟨u,u1,u2⟩:=hs _ this (by omega);refine⟨(u.1,0+1+u.2),?_,by dsimp only;omega⟩;show (simF k (tUn op t)).map _=_;rw[u1];rfl
 |bin op s t=>
  intro hw hn;have:WS (tBin op s t):=by
   cases hw with
   |tbin _ o1 o2 ha hb=>cases ha with|old h1 h2=>cases hb with|old h3 h4=>exact .tbin op o1 o2 h1 h3 h2 h4
   |eq ha hb=>cases ha with|old h1 h2=>cases hb with|old h3 h4=>exact .eq h1 h3 (by omega)
   |cmp _ o1 o2 h ha hb=>cases ha with|old h1 h2=>cases hb with|old h3 h4=>exact .cmp op o1 o2 h1 h3 (by omega) (by omega)
   |wbin _ o1 o2 h hp ha hb=>cases ha with|old h1 h2=>cases hb with|old h3 h4=>exact .wbin op o1 o2 h1 h3 (by omega) (by omega) (by rw[h2];exact hp)
  obtain⟨u,u1,u2⟩:=hs _ this (by omega);refine⟨(u.1,0+0+1+u.2),?_,by dsimp only;omega⟩;show (simF k (tBin op s t)).map _=_;rw[u1];rfl
 |bink op s v x=>
  intro hw hn;have:WS (tBin op s (tCon v x)):=by
   cases hw with
   |tbin _ o1 o2 ha hb=>cases hb with|con _ h3 h4 h5=>omega
   |eq ha hb=>cases ha with|old h1 h2=>cases hb with|con _ h3 h4 h5=>exact .eq h1 (.con v x h3 h4) (by rw[zo9];omega)
   |cmp _ o1 o2 h ha hb=>cases ha with|old h1 h2=>cases hb with|con _ h3 h4 h5=>exact .cmp op o1 o2 h1 (.con v x h3 h4) (by omega) (by rw[zo9];omega)
   |wbin _ o1 o2 h hp ha hb=>cases ha with|old h1 h2=>cases hb with|con _ h3 h4 h5=>exact .wbin op o1 o2 h1 (.con v x h3 h4) (by omega) (by rw[zo9];omega) (by rw[h2];exact hp)
  obtain⟨u,u1,u2⟩:=hs _ this (by omega);refine⟨(u.1,0+1+1+u.2),?_,by dsimp only;omega⟩;show (simF k (tBin op s (tCon v x))).map _=_;rw[u1];rfl
 |ite c a b=>
  intro hw hn;have:WS (tIte c a b):=by
   cases hw with
   |ite hc ha hb=>cases hc with|old h1 h2=>cases ha with|old h3 h4=>cases hb with|old h5 h6=>exact .ite h1 h3 h5 h2 (by omega)
  obtain⟨u,u1,u2⟩:=hs _ this (by omega);refine⟨(u.1,0+0+0+1+u.2),?_,by dsimp only;omega⟩;show (simF k (tIte c a b)).map _=_;rw[u1];rfl
 |slice a i n=>
  intro hw hn;have:WS (tSl a i n):=by
   cases hw with
   |slice _ _ ha h0 h1 h2 h3=>cases ha with|old h4 h5=>exact .slice i n h4 h0 h1 (by omega)
  obtain⟨u,u1,u2⟩:=hs _ this (by omega);refine⟨(u.1,0+1+u.2),?_,by dsimp only;omega⟩;show (simF k (tSl a i n)).map _=_;rw[u1];rfl
 |ext op a v=>
  intro hw hn;have:WS (tExt op a v):=by
   cases hw with
   |ext _ _ o1 o2 ha h1 h2 h3 h4=>cases ha with|old h5 h6=>exact .ext op v o1 o2 h5 (by omega) (by omega) h3
  obtain⟨u,u1,u2⟩:=hs _ this (by omega);refine⟨(u.1,0+1+u.2),?_,by dsimp only;omega⟩;show (simF k (tExt op a v)).map _=_;rw[u1];rfl
def KE(e:Ex)(n:Nat):Prop:=∃m,KC e m∧m+2≤n
theorem KE.of{e:Ex}{m n:Nat}(h:KC e m)(hn:m+2≤n):KE e n:=⟨m,h,hn⟩
theorem zaw{t:Tr}(h:t.op=5):t.lead=1+t.a.lead:=by
 cases t with
 |z=>exact absurd h (by decide)
 |nd op w num s a b c=>exact if_pos h
theorem fix_iff{t:Tr}:fixT t=true↔(t.op=1∨t.op=2∨t.op=3):=by unfold fixT;exact decide_eq_true_iff
theorem flg_con(t:Tr)(w:Int)(x:W64):flg t (tCon w x)=0:=by unfold flg;rw[if_neg (fun q=>q.2 (fix_iff.2 (.inr (.inr rfl))))]
theorem flg_le(a b:Tr):flg a b≤1:=by unfold flg;split<;>omega
theorem flK_le(a b:Tr):flK a b≤1:=by unfold flK;split<;>omega
theorem zh3(t:Tr)(w:Int)(x:W64):flK t (tCon w x)=0:=by unfold flK;rw[if_neg (fun q=>q.2 rfl)]
theorem kEq_con(t:Tr)(w:Int)(x:W64):kEq t (tCon w x)=7+9*(wdN t*t.dep):=by unfold kEq;rw[flg_con,zgO,Nat.max_eq_left (Nat.zero_le _)]
theorem zog(t:Tr):1≤wdN t:=Nat.le_max_right _ _
theorem zhp{a W d D:Nat}(h:a≤W)(h2:d+1≤D):a*d+W≤W*D:=by have h1:a*d≤W*d:=Nat.mul_le_mul_right d h;have h3:W*(d+1)≤W*D:=Nat.mul_le_mul_left W h2;rw[Nat.mul_add,Nat.mul_one]at h3;omega
theorem zp1{W d D:Nat}(h:d≤D):W*d≤W*D:=Nat.mul_le_mul_left W h
theorem kc_is(t:Tr)(v:W64):KC (isE t v) (9+9*(wdN t*t.dep)):=by
 have:=KC.bink 9 t t.w v;rw[zlz,kEq_con]at this;have e:2+(7+9*(wdN t*t.dep))=9+9*(wdN t*t.dep):=by omega
 rw[←e];exact this
section
variable {a b c:Tr}{e:Ex}
theorem not_kap(h:notT a=some e):KE e 4:=by
 unfold notT at h;rcases ifc h with⟨q,h⟩|⟨_,h⟩
 ·cases h;exact .of (.tru _) (by omega)
 rcases ifc h with⟨q,h⟩|⟨_,h⟩
 ·cases h;exact .of (.tru _) (by omega)
 rcases ifc h with⟨q,h⟩|⟨_,h⟩
 ·cases h;exact .of (.old _) (by omega)
 ·cases h
theorem and_kap{op:Int}(h:andT op a b=some e):KE e 4:=by
 unfold andT at h;rcases ifc h with⟨q,h⟩|⟨_,h⟩
 ·cases h;exact .of (.tru _) (by omega)
 rcases ifc h with⟨q,h⟩|⟨_,h⟩
 ·cases h;exact .of (.old _) (by omega)
 rcases ifc h with⟨q,h⟩|⟨_,h⟩
 ·cases h;exact .of (.old _) (by omega)
 rcases ifc h with⟨q,h⟩|⟨_,h⟩
 ·cases h;exact .of (.tru _) (by omega)
 ·cases h
theorem xor_kap(h:xorT a b=some e):KE e (9*(a.lead+b.lead)+9):=by
 unfold xorT at h;rcases ifc h with⟨q,h⟩|⟨_,h⟩
 ·cases h;exact .of (.old _) (by omega)
 rcases ifc h with⟨q,h⟩|⟨_,h⟩
 ·cases h;exact .of (.un 5 _) (by rw[zkg];omega)
 rcases ifc h with⟨q,h⟩|⟨_,h⟩
 ·cases h;exact .of (.old _) (by omega)
 rcases ifc h with⟨q,h⟩|⟨_,h⟩
 ·cases h;exact .of (.un 5 _) (by rw[zkg];omega)
 rcases ifc h with⟨q,h⟩|⟨_,h⟩
 ·cases h;exact .of (.tru _) (by omega)
 rcases ifc h with⟨q,h⟩|⟨_,h⟩
 ·cases h;exact .of (.tru _) (by omega)
 rcases ifc h with⟨q,h⟩|⟨_,h⟩
 ·cases h;have:=zaw q;exact .of (.not (.bin 8 _ _)) (by rw[kap_xor];omega)
 rcases ifc h with⟨q,h⟩|⟨_,h⟩
 ·cases h;have:=zaw q;exact .of (.not (.bin 8 _ _)) (by rw[kap_xor];omega)
 ·cases h
theorem eqK_kap{k:W64}(ha:WS a)(h:eqK a k=some e):KE e (7+9*(wdN a*a.dep)):=by
 have hp:=zog a;have step:∀(t:Tr) (v:W64),t.w≤a.w→t.dep+1≤a.dep→KE (isE t v) (7+9*(wdN a*a.dep)):=fun t v h1 h2=>by have:=zhp (a:=wdN t) (W:=wdN a) (by unfold wdN;omega) h2;exact .of (kc_is t v) (by omega)
 unfold eqK at h;rcases ifc h with⟨q,h⟩|⟨_,h⟩
 ·cases h;obtain⟨_,h1,h2,h3⟩:=zfi ha (by omega);have:=zby (t:=a) (by omega);exact step _ _ (by omega) (by omega)
 rcases ifc h with⟨q,h⟩|⟨_,h⟩
 ·cases h;obtain⟨_,h1,h2,h3⟩:=zfi ha (by omega);have:=zby (t:=a) (by omega);exact step _ _ (by omega) (by omega)
 rcases ifc h with⟨q,h⟩|⟨_,h⟩
 ·cases h;obtain⟨_,h1,h2,h3,h4,h5,_⟩:=zaX ha (by omega);have:=zby (t:=a) (by omega);exact step _ _ (by omega) (by omega)
 rcases ifc h with⟨q,h⟩|⟨_,h⟩
 ·cases h;obtain⟨_,h1,h2,h3,h4,h5,_⟩:=zaX ha (by omega);have:=zby (t:=a) (by omega);exact step _ _ (by omega) (by omega)
 rcases ifc h with⟨q,h⟩|⟨_,h⟩
 ·cases h;obtain⟨_,h1,h2,h3,h4,h5,_⟩:=zaX ha (by omega);have:=zby (t:=a) (by omega);exact step _ _ (by omega) (by omega)
 rcases ifc h with⟨q,h⟩|⟨_,h⟩
 ·cases h;obtain⟨_,h1,h2,h3,h4,h5,_⟩:=zaX ha (by omega);have hd:=zby (t:=a) (by omega);have hf:=flg_le a.a a.b;have:=zhp (a:=wdN a.a) (W:=wdN a) (d:=max a.a.dep a.b.dep) (D:=a.dep) (by unfold wdN;omega) (by omega);refine .of (.bin 9 _ _) ?_;rw[zlz];unfold kEq;omega
 rcases ifc h with⟨q,h⟩|⟨_,h⟩
 ·rcases ifc h with⟨_,h⟩|⟨_,h⟩
  ·cases h;exact .of (.tru _) (by omega)
  ·cases h;obtain⟨_,h1,h2,h3,h4,h5⟩:=zfq ha (by omega);have:=zby (t:=a) (by omega);exact step _ _ (by omega) (by omega)
 rcases ifc h with⟨q,h⟩|⟨_,h⟩
 ·have hd:=zby (t:=a) (by omega);have h0:1≤wdN a*a.dep:=by have:=zhp (a:=0) (W:=wdN a) (d:=0) (D:=a.dep) (Nat.zero_le _) (by omega);omega
  unfold eqC at h;rcases ifc h with⟨_,h⟩|⟨_,h⟩
  ·cases h
  rcases ifc h with⟨_,h⟩|⟨_,h⟩
  ·cases h;exact .of (.tru _) (by omega)
  rcases ifc h with⟨_,h⟩|⟨_,h⟩
  ·cases h;exact .of (.old _) (by omega)
  rcases ifc h with⟨_,h⟩|⟨_,h⟩
  ·cases h;exact .of (.not (.old _)) (by omega)
  ·cases h;exact .of (.tru _) (by omega)
 rcases ifc h with⟨q,h⟩|⟨_,h⟩
 ·cases h;obtain⟨_,h1,h2,h3,h4,h5,h6⟩:=zh8 ha q;have hd:=zby (t:=a) (by omega);have e1:wdN a=wdN a.a+wdN a.b:=by unfold wdN;omega
  have p1:=zog a.a;have p2:=zog a.b;have s1:=zhp (a:=wdN a.a) (W:=wdN a.a) (d:=a.a.dep) (D:=a.dep) (Nat.le_refl _) (by omega);have s2:=zhp (a:=wdN a.b) (W:=wdN a.b) (d:=a.b.dep) (D:=a.dep) (Nat.le_refl _) (by omega);refine .of (.and 6 (by decide) (by decide) (kc_is _ _) (kc_is _ _)) ?_;rw[e1,Nat.add_mul];omega
 ·cases h
theorem eq_kap(ha:WS a)(hb:WS b)(hw:a.w=b.w)(h:eqT a b=some e):KE e (kEq a b):=by
 have hm:wdN a*a.dep≤wdN a*max a.dep b.dep:=zp1 (Nat.le_max_left _ _);unfold eqT at h;unfold kEq;rcases ifc h with⟨q,h⟩|⟨_,h⟩
 ·cases h;exact .of (.tru _) (by omega)
 rcases ifc h with⟨q,h⟩|⟨nq,h⟩
 ·cases h;exact .of (.tru _) (by omega)
 rcases ifc h with⟨q,h⟩|⟨_,h⟩
 ·cases h;have nb:¬fixT b=true:=fun z=>nq ⟨q,z⟩;have f1:flg a b=1:=by unfold flg;rw[if_pos ⟨q,nb⟩]
  have f2:flg b a=0:=by unfold flg;rw[if_neg (fun z=>nb z.1)]
  refine .of (.bin 9 _ _) ?_;rw[zlz];unfold kEq;have e1:wdN b=wdN a:=by unfold wdN;rw[hw]
  rw[f1,f2,e1,Nat.max_comm b.dep a.dep];omega
 rcases ifc h with⟨q,h⟩|⟨_,h⟩
 ·cases h;exact .of (.old _) (by omega)
 rcases ifc h with⟨q,h⟩|⟨_,h⟩
 ·cases h;exact .of (.not (.old _)) (by omega)
 rcases ifc h with⟨q,h⟩|⟨_,h⟩
 ·cases h;exact .of (.tru _) (by omega)
 rcases ifc h with⟨q,h⟩|⟨_,h⟩
 ·obtain⟨m,h1,h2⟩:=eqK_kap ha h;exact .of h1 (by omega)
 ·cases h
theorem less_kap{op:Int}(ho:10≤op∧op≤13)(ha:WS a)(hb:WS b)(hw:a.w=b.w)(h:zge op a b=some e):KE e (ziQ op a b):=by
 have e1:wdN b=wdN a:=by unfold wdN;rw[hw]
 have e2:ziQ 10 b a=18+9*(wdN a*max a.dep b.dep):=by unfold ziQ;rw[if_neg (by decide),e1,Nat.max_comm b.dep a.dep]
 have e3:ziQ 12 b a=18+9*(wdN a*max a.dep b.dep):=by unfold ziQ;rw[if_neg (by decide),e1,Nat.max_comm b.dep a.dep]
 have q1:∀a b:Tr,kEq a b≤10+9*(wdN a*max a.dep b.dep):=fun a b=>by have:=flg_le a b;unfold kEq;omega
 have q2:=q1 a b;have q3:=q1 b a;rw[e1,Nat.max_comm b.dep a.dep]at q3;have hm:wdN a*a.dep≤wdN a*max a.dep b.dep:=zp1 (Nat.le_max_left _ _);unfold zge at h;unfold ziQ;rcases ifc h with⟨q,h⟩|⟨n1,h⟩
 ·cases h;exact .of (.not (.bin 10 _ _)) (by rw[zms (by decide),e2,if_pos (.inl q)];omega)
 rcases ifc h with⟨q,h⟩|⟨n2,h⟩
 ·cases h;exact .of (.not (.bin 12 _ _)) (by rw[zms (by decide),e3,if_pos (.inr q)];omega)
 rw[if_neg (by omega)];rcases ifc h with⟨q,h⟩|⟨_,h⟩
 ·cases h;exact .of (.tru _) (by omega)
 rcases ifc h with⟨q,h⟩|⟨_,h⟩
 ·cases h;exact .of (.tru _) (by omega)
 rcases ifc h with⟨q,h⟩|⟨_,h⟩
 ·cases h
 rcases ifc h with⟨q,h⟩|⟨_,h⟩
 ·cases h;exact .of (.tru _) (by omega)
 rcases ifc h with⟨q,h⟩|⟨_,h⟩
 ·cases h;exact .of (.not (.bin 9 _ _)) (by rw[zlz];omega)
 rcases ifc h with⟨q,h⟩|⟨_,h⟩
 ·cases h;exact .of (.bink 9 _ _ _) (by rw[zlz,kEq_con];omega)
 rcases ifc h with⟨q,h⟩|⟨_,h⟩
 ·cases h;exact .of (.tru _) (by omega)
 rcases ifc h with⟨q,h⟩|⟨_,h⟩
 ·cases h;exact .of (.not (.bin 9 _ _)) (by rw[zlz];omega)
 ·cases h
theorem zp5(h:a.op=5)(b c:Tr):kIte a b c=4+kIte a.a c b:=by
 cases a with
 |z=>exact absurd h (by decide)
 |nd op w num s x y z=>exact if_pos h
theorem zki(h:a.op≠5)(b c:Tr):kIte a b c=13+4*(spT a b+spT a c):=by
 cases a with
 |z=>rfl
 |nd op w num s x y z=>exact if_neg h
theorem zo2:∀(a b c:Tr),13≤kIte a b c
 |.z,b,c=>by show 13≤13+_;omega
 |.nd op w num s x y z,b,c=>by have:=zo2 x c b;show 13≤if op=5 then 4+kIte x c b else 13+_;split<;>omega
theorem ite_kap{w:Int}(h:iteT w a b c=some e):KE e (kIte a b c):=by
 have h13:=zo2 a b c;unfold iteT at h;rcases ifc h with⟨q,h⟩|⟨_,h⟩
 ·cases h;exact .of (.old _) (by omega)
 rcases ifc h with⟨q,h⟩|⟨_,h⟩
 ·cases h;exact .of (.old _) (by omega)
 rcases ifc h with⟨q,h⟩|⟨n5,h⟩
 ·cases h;exact .of (.ite _ _ _) (by rw[zo0,zp5 q];omega)
 rcases ifc h with⟨q,h⟩|⟨_,h⟩
 ·cases h;exact .of (.and 7 (by decide) (by decide) (.old _) (.old _)) (by omega)
 rcases ifc h with⟨q,h⟩|⟨_,h⟩
 ·cases h;exact .of (.and 6 (by decide) (by decide) (.not (.old _)) (.old _)) (by omega)
 rcases ifc h with⟨q,h⟩|⟨_,h⟩
 ·cases h;exact .of (.and 7 (by decide) (by decide) (.not (.old _)) (.old _)) (by omega)
 rcases ifc h with⟨q,h⟩|⟨_,h⟩
 ·cases h;exact .of (.and 6 (by decide) (by decide) (.old _) (.old _)) (by omega)
 rcases ifc h with⟨q,h⟩|⟨_,h⟩
 ·cases h;exact .of (.and 7 (by decide) (by decide) (.old _) (.old _)) (by omega)
 rcases ifc h with⟨q,h⟩|⟨_,h⟩
 ·cases h;exact .of (.and 6 (by decide) (by decide) (.old _) (.old _)) (by omega)
 rcases ifc h with⟨q,h⟩|⟨_,h⟩
 ·cases h;have:=sp_eq (x:=a) (t:=b) q;exact .of (.ite _ _ _) (by rw[zo0,zki n5,zki n5];omega)
 rcases ifc h with⟨q,h⟩|⟨_,h⟩
 ·cases h;have:=sp_eq (x:=a) (t:=c) q;exact .of (.ite _ _ _) (by rw[zo0,zki n5,zki n5];omega)
 ·cases h
theorem kSub_le(a b:Tr):kSub a b≤21+24*(max a.dep b.dep):=by unfold kSub;split<;>omega
theorem com_kap{op w:Int}(ho:15≤op∧op≤16)(ha:WS a)(h:comT op w a=some e):KE e (kap (tUn op a)):=by
 have h8:8≤kap (tUn op a):=by
  by_cases q:op=15
  ·subst q;rw[kap_com];omega
  ·have q:op=16:=by omega
   subst q;rw[zmr];unfold kNeg;omega
 unfold comT at h;rcases ifc h with⟨q,h⟩|⟨_,h⟩
 ·cases h;exact .of (.con _ _) (by omega)
 rcases ifc h with⟨q,h⟩|⟨_,h⟩
 ·cases h;exact .of (.old _) (by omega)
 rcases ifc h with⟨q,h⟩|⟨_,h⟩
 ·cases h;have hd:=zby (t:=a) (by omega);have:=kSub_le a.b a.a;exact .of (.bin 21 _ _) (by rw[zkf,q.1,zmr];unfold kNeg;omega)
 ·cases h
end
section
variable {a b c:Tr}{e:Ex}{w:Int}(ha:WS a)(hb:WS b)
include ha hb
theorem band_kap{op:Int}(ho:17≤op∧op≤18)(h:zhy op w a b=some e):KE e (kBx a b):=by
 unfold zhy at h;unfold kBx;rcases ifc h with⟨q,h⟩|⟨_,h⟩
 ·cases h;exact .of (.old _) (by omega)
 rcases ifc h with⟨q,h⟩|⟨_,h⟩
 ·cases h;exact .of (.old _) (by omega)
 rcases ifc h with⟨q,h⟩|⟨_,h⟩
 ·cases h;exact .of (.con _ _) (by omega)
 rcases ifc h with⟨q,h⟩|⟨_,h⟩
 ·cases h;have hd:=zby (t:=a) (by have:=zal q.2;omega);refine .of (.bink op _ _ _) ?_;rw[zir (by omega)];unfold kBx;rw[zh3,zgO];omega
 ·cases h
theorem bxor_kap(h:zhw w a b=some e):KE e (kBx a b):=by
 unfold zhw at h;unfold kBx;rcases ifc h with⟨q,h⟩|⟨_,h⟩
 ·cases h;exact .of (.old _) (by omega)
 rcases ifc h with⟨q,h⟩|⟨_,h⟩
 ·cases h;exact .of (.un 15 _) (by rw[kap_com];omega)
 rcases ifc h with⟨q,h⟩|⟨_,h⟩
 ·cases h;exact .of (.con _ _) (by omega)
 rcases ifc h with⟨q,h⟩|⟨_,h⟩
 ·cases h;exact .of (.con _ _) (by omega)
 rcases ifc h with⟨q,h⟩|⟨_,h⟩
 ·cases h;have hd:=zby (t:=a) (by have:=zal q.2;omega);refine .of (.bink 19 _ _ _) ?_;rw[zir (by decide)];unfold kBx;rw[zh3,zgO];omega
 rcases ifc h with⟨q,h⟩|⟨_,h⟩
 ·cases h;exact .of (.old _) (by omega)
 rcases ifc h with⟨q,h⟩|⟨_,h⟩
 ·cases h;exact .of (.old _) (by omega)
 rcases ifc h with⟨q,h⟩|⟨_,h⟩
 ·cases h;exact .of (.old _) (by omega)
 rcases ifc h with⟨q,h⟩|⟨_,h⟩
 ·cases h;exact .of (.old _) (by omega)
 ·cases h
theorem add_kap(hk:¬a.op=3)(h:addT w a b=some e):KE e (kAdd a b):=by
 unfold addT at h;unfold kAdd;rcases ifc h with⟨q,h⟩|⟨n0,h⟩
 ·cases h;exact .of (.old _) (by omega)
 rcases ifc h with⟨q,h⟩|⟨_,h⟩
 ·cases h;have hd:=zby (t:=a) (by have:=zal q.2;omega);refine .of (.bink 20 _ _ _) ?_;rw[zgH];unfold kAdd;rw[zh3,zgO];omega
 rcases ifc h with⟨q,h⟩|⟨_,h⟩
 ·cases h;have hd:=zby (t:=b) (by omega);refine .of (.bin 21 _ _) ?_;rw[zkf];unfold kSub;rw[if_neg (fun z=>hk z.1)];omega
 rcases ifc h with⟨q,h⟩|⟨_,h⟩
 ·cases h;have hd:=zby (t:=a) (by omega);refine .of (.bin 21 _ _) ?_;rw[zkf];unfold kSub;rw[if_neg (fun z=>n0 z)];omega
 rcases ifc h with⟨q,h⟩|⟨_,h⟩
 ·cases h;exact .of (.old _) (by omega)
 rcases ifc h with⟨q,h⟩|⟨_,h⟩
 ·cases h;exact .of (.old _) (by omega)
 ·cases h
theorem sub_kap(hk:¬(a.op=3∧b.op=3))(h:subT w a b=some e):KE e (kSub a b):=by
 have h4:12≤kSub a b:=by unfold kSub;split<;>omega
 unfold subT at h;rcases ifc h with⟨q,h⟩|⟨n0,h⟩
 ·cases h;exact .of (.old _) (by omega)
 rcases ifc h with⟨q,h⟩|⟨_,h⟩
 ·cases h;exact .of (.con _ _) (by omega)
 rcases ifc h with⟨q,h⟩|⟨nb,h⟩
 ·cases h;refine .of (.bink 20 _ _ _) ?_;rw[zgH];unfold kAdd;rw[zh3,zgO];unfold kSub;rw[if_neg (fun z=>hk ⟨z.1,q⟩)];omega
 rcases ifc h with⟨q,h⟩|⟨na,h⟩
 ·cases h;refine .of (.un 16 _) ?_;rw[zmr];unfold kNeg kSub;rw[if_pos q];omega
 have e1:kSub a b=21+12*(a.dep+b.dep):=by unfold kSub;rw[if_neg na]
 rw[e1];rcases ifc h with⟨q,h⟩|⟨_,h⟩
 ·cases h;exact .of (.old _) (by omega)
 rcases ifc h with⟨q,h⟩|⟨_,h⟩
 ·cases h;exact .of (.old _) (by omega)
 rcases ifc h with⟨q,h⟩|⟨_,h⟩
 ·cases h;have hd:=zby (t:=b) (by omega);have:=flK_le a b.a;refine .of (.bin 20 _ _) ?_;rw[zgH];unfold kAdd;omega
 ·cases h
end
theorem con_lt{w:Int}{n:Nat}(h1:n<w.toNat)(h64:w≤64):¬((tCon w (BitVec.ofNat 64 n)).k.toNat≥w.toNat):=by
 rw[con_k,BitVec.toNat_and];have h2:(BitVec.ofNat 64 n).toNat≤n:=by rw[BitVec.toNat_ofNat];exact Nat.mod_le _ _
 have h3:(BitVec.ofNat 64 n).toNat&&&(msk w.toNat).toNat≤(BitVec.ofNat 64 n).toNat:=Nat.and_le_left;omega
theorem con_ltW{w:Int}{x:W64}(h1:x.toNat<w.toNat)(h64:w≤64):¬((tCon w x).k.toNat≥w.toNat):=by have:=con_lt (w:=w) (n:=x.toNat) h1 h64;rwa [BitVec.ofNat_toNat,BitVec.setWidth_eq]at this
section
variable {a b c:Tr}{e:Ex}{w:Int}
theorem zmu(op:Int){x:W64}(h:¬((tCon w x).k.toNat≥w.toNat))(s:Tr):kSh op w s (tCon w x)=16+8*s.dep+(if op=29 then 6 else 0):=by unfold kSh;rw[if_neg (c:=(tCon w x).op=3∧_) (fun q=>h q.2),Nat.add_zero]
theorem kSh_le{op:Int}(ho:op≠29)(v:Int)(s t:Tr):kSh op v s t≤22+8*s.dep:=by unfold kSh;rw[if_neg ho];split<;>omega
theorem mul_kap{op:Int}(ho:22≤op∧op≤24)(h:mulT op w a b=some e):KE e (kMul a b):=by
 unfold mulT at h;unfold kMul;rcases ifc h with⟨q,h⟩|⟨_,h⟩
 ·cases h
 rcases ifc h with⟨q,h⟩|⟨_,h⟩
 ·cases h;exact .of (.old _) (by omega)
 rcases ifc h with⟨q,h⟩|⟨_,h⟩
 ·cases h;exact .of (.con _ _) (by omega)
 rcases ifc h with⟨q,h⟩|⟨_,h⟩
 ·cases h;exact .of (.old _) (by omega)
 rcases ifc h with⟨q,h⟩|⟨_,h⟩
 ·cases h;exact .of (.un 16 _) (by rw[zmr];unfold kNeg;omega)
 rcases ifc h with⟨q,h⟩|⟨_,h⟩
 ·cases h;have:=kSh_le (op:=25) (by decide) a.w a (tCon w (BitVec.ofNat 64 (Go.Lib.ctz 64 b.k.toNat)));exact .of (.bink 25 _ _ _) (by rw[ziq (by decide)];omega)
 rcases ifc h with⟨q,h⟩|⟨_,h⟩
 ·cases h;have:=kSh_le (op:=26) (by decide) a.w a (tCon w (BitVec.ofNat 64 (Go.Lib.ctz 64 b.k.toNat)));exact .of (.bink 26 _ _ _) (by rw[ziq (by decide)];omega)
 rcases ifc h with⟨q,h⟩|⟨_,h⟩
 ·cases h;refine .of (.bink 17 _ _ _) ?_;rw[zir (by decide)];unfold kBx;rw[zh3,zgO];omega
 rcases ifc h with⟨q,h⟩|⟨_,h⟩
 ·cases h;have hd:=zby (t:=a) (by have:=zal q.2;omega);refine .of (.bink 22 _ _ _) ?_;rw[zkh (by decide)];unfold kMul;rw[zh3,zgO];omega
 ·cases h
theorem shift_kap{op:Int}(ho:25≤op∧op≤29)(ha:WS a)(wa:a.w=w)(h1:1≤w)(h:zdJ op w a b=some e):KE e (kSh op w a b):=by
 have hw64:=ha.w.2;unfold zdJ at h;have h16:16+8*a.dep≤kSh op w a b:=by unfold kSh;omega
 rcases ifc h with⟨q,h⟩|⟨_,h⟩
 ·cases h;exact .of (.old _) (by omega)
 rcases ifc h with⟨q,h⟩|⟨n3,h⟩
 ·cases h
 have hb3:b.op=3:=Decidable.not_not.1 n3;rcases ifc h with⟨q,h⟩|⟨nge,h⟩
 ·cases h;refine .of (.bink op _ _ _) ?_;rw[ziq ho,wa,zmu op (con_lt (Nat.mod_lt _ (by omega)) (by omega))];unfold kSh;rw[if_pos (show b.op=3∧_ from⟨hb3,q⟩)];omega
 have e1:kSh op w a b=16+8*a.dep+(if op=29 then 6 else 0):=by unfold kSh;rw[if_neg (c:=b.op=3∧_) (fun q=>nge q.2),Nat.add_zero]
 rcases ifc h with⟨q,h⟩|⟨n0,h⟩
 ·cases h;exact .of (.old _) (by omega)
 rw[e1];rcases ifc h with⟨q,h⟩|⟨_,h⟩
 ·rcases ifc h with⟨_,h⟩|⟨nl,h⟩
  ·cases h;exact .of (.con _ _) (by omega)
  ·cases h;have hq:=zal q.2;have hd:=zby (t:=a) (by omega);obtain⟨_,g1,g2,g3,g4,g5,_⟩:=zaX ha (by omega);refine .of (.bink op _ _ _) ?_;rw[ziq ho,g3,wa,zmu op (con_ltW (by omega) (by omega))];omega
 rcases ifc h with⟨q,h⟩|⟨_,h⟩
 ·cases h;have hq:=zal q.2;have hd:=zby (t:=a) (by omega);obtain⟨_,g1,g2,g3,g4,g5,_⟩:=zaX ha (by omega);refine .of (.bink 28 _ _ _) ?_;rw[ziq (by decide),g3,wa,zmu 28 (con_lt (Nat.mod_lt _ (by omega)) (by omega)),if_neg (by decide)];omega
 rcases ifc h with⟨q,h⟩|⟨_,h⟩
 ·cases h;refine .of (.bink 28 _ _ _) ?_;have hne:b.k.toNat≠0:=fun z=>n0 (BitVec.eq_of_toNat_eq z);have hlt:(BitVec.ofNat 64 w.toNat-b.k).toNat<w.toNat:=by rw[BitVec.toNat_sub,BitVec.toNat_ofNat];omega
  rw[ziq (by decide),wa,zmu 28 (con_ltW hlt (by omega)),if_neg (by decide),if_pos q];omega
 ·cases h
theorem cat_kap(ha:WS a)(hb:WS b)(h:catT w a b=some e):KE e (24+8*(a.dep+b.dep)):=by
 unfold catT at h;rcases ifc h with⟨q,h⟩|⟨_,h⟩
 ·cases h;exact .of (.ext 32 _ _) (by rw[zmt (by decide)];omega)
 rcases ifc h with⟨q,h⟩|⟨_,h⟩
 ·cases h;have hd:=zby (t:=b) (by omega);exact .of (.slice _ _ _) (by rw[kap_sl];omega)
 ·cases h
theorem kap_ge{op:Int}(ho:17≤op∧op≤30)(a b:Tr):12≤kap (tBin op a b):=by
 by_cases q1:op≤19
 ·rw[zir (by omega)];unfold kBx;omega
 by_cases q2:op=20
 ·subst q2;rw[zgH];unfold kAdd;omega
 by_cases q3:op=21
 ·subst q3;rw[zkf];unfold kSub;split<;>omega
 by_cases q4:op≤24
 ·rw[zkh (by omega)];unfold kMul;omega
 by_cases q5:op≤29
 ·rw[ziq (by omega)];unfold kSh;omega
 have:op=30:=by omega
 subst this;rw[kap_30];omega
theorem swap_kap{op:Int}(ho:17≤op∧op≤20∨op=22)(ha:a.op=3)(hb:¬b.op=3):KE (.bin op (.old b) (.old a)) (kap (tBin op a b)):=by
 have f1:flK a b=1:=by unfold flK;rw[if_pos ⟨ha,hb⟩]
 have f2:flK b a=0:=by unfold flK;rw[if_neg (fun z=>hb z.1)]
 refine .of (.bin op _ _) ?_;by_cases q1:op≤19
 ·rw[zir (by omega),zir (by omega)];unfold kBx;omega
 by_cases q2:op=20
 ·subst q2;rw[zgH,zgH];unfold kAdd;omega
 ·rw[zkh (by omega),zkh (by omega)];unfold kMul;omega
theorem zpq{op:Int}(ho:17≤op∧op≤30)(ha:WS a)(hb:WS b)(wa:op≠30→a.w=w)(h1:1≤w)(h:zfj op w a b=some e):KE e (kap (tBin op a b)):=by
 have h12:=kap_ge ho a b;unfold zfj at h;rcases ifc h with⟨q,h⟩|⟨nk,h⟩
 ·cases h;exact .of (.con _ _) (by omega)
 rcases ifc h with⟨q,h⟩|⟨ns,h⟩
 ·cases h;exact swap_kap (by omega) q.2 fun z=>nk ⟨q.2,z⟩
 rcases ifc h with⟨q,h⟩|⟨_,h⟩
 ·rw[zir (by omega)];exact band_kap ha hb (by omega) h
 rcases ifc h with⟨q,h⟩|⟨_,h⟩
 ·subst q;rw[zir (by decide)];exact bxor_kap ha hb h
 rcases ifc h with⟨q,h⟩|⟨_,h⟩
 ·subst q;rw[zgH];exact add_kap ha hb (fun z=>ns ⟨by decide,z⟩) h
 rcases ifc h with⟨q,h⟩|⟨_,h⟩
 ·subst q;rw[zkf];exact sub_kap ha hb nk h
 rcases ifc h with⟨q,h⟩|⟨_,h⟩
 ·rw[zkh (by omega)];exact mul_kap (by omega) h
 rcases ifc h with⟨q,h⟩|⟨_,h⟩
 ·subst q;rw[kap_30];exact cat_kap ha hb h
 rw[ziq (by omega),wa (by omega)];exact shift_kap (by omega) ha (wa (by omega)) h1 h
theorem slice_kap{num:Int}(ha:WS a)(h:zdI w num a=some e):KE e (16+8*(a.dep+0)):=by
 unfold zdI at h;have fin:∀(x:Tr) (i:Int),x.dep+1≤a.dep→KE (.slice (.old x) i w) (16+8*(a.dep+0)):=fun x i hx=>.of (.slice _ _ _) (by rw[kap_sl];omega);rcases ifc h with⟨q,h⟩|⟨_,h⟩
 ·cases h;exact .of (.con _ _) (by omega)
 rcases ifc h with⟨q,h⟩|⟨_,h⟩
 ·cases h;exact .of (.old _) (by omega)
 rcases ifc h with⟨q,h⟩|⟨_,h⟩
 ·cases h;have hd:=zby (t:=a) (by omega);exact fin _ _ (by omega)
 rcases ifc h with⟨q,h⟩|⟨_,h⟩
 ·cases h;have hd:=zby (t:=a) (by omega);exact fin _ _ (by omega)
 rcases ifc h with⟨q,h⟩|⟨_,h⟩
 ·cases h;have hd:=zby (t:=a) (by omega);exact fin _ _ (by omega)
 rcases ifc h with⟨q,h⟩|⟨_,h⟩
 ·cases h;have hd:=zby (t:=a) (by omega);exact fin _ _ (by omega)
 rcases ifc h with⟨q,h⟩|⟨_,h⟩
 ·cases h;exact .of (.con _ _) (by omega)
 ·cases h
theorem ext_kap{op:Int}(ho:32≤op∧op≤33)(ha:WS a)(h:extT op w a=some e):KE e (16+8*(a.dep+0)):=by
 unfold extT at h;rcases ifc h with⟨q,h⟩|⟨_,h⟩
 ·cases h;exact .of (.con _ _) (by omega)
 rcases ifc h with⟨q,h⟩|⟨_,h⟩
 ·cases h;exact .of (.old _) (by omega)
 rcases ifc h with⟨q,h⟩|⟨_,h⟩
 ·cases h;have hd:=zby (t:=a) (by omega);exact .of (.ext op _ _) (by rw[zmt (by omega)];omega)
 rcases ifc h with⟨q,h⟩|⟨_,h⟩
 ·cases h;have hd:=zby (t:=a) (by omega);exact .of (.ext 32 _ _) (by rw[zmt (by decide)];omega)
 ·cases h
end
theorem rule_kap{t:Tr}(h:WS t){e:Ex}(hr:zcS t=some e):KE e (kap t):=by
 cases h with
 |tru b=>rw[zhf (by rw[zpt];cases b<;>decide)]at hr;cases hr
 |con w x _ _=>rw[zhf (by rw[zd5];decide)]at hr;cases hr
 |var s w _ _ _=>rw[zhf (by show (4:Int)<5;decide)]at hr;cases hr
 |not h1 h2=>rw[zkg];exact not_kap hr
 |tbin op o1 o2 h1 h2 h3 h4=>
  by_cases h8:op=8
  ·subst h8;exact xor_kap hr
  ·rw[r_and (by omega)]at hr;rw[zo1 (by omega)];exact and_kap hr
 |eq h1 h2 h3=>exact eq_kap h1 h2 h3 hr
 |cmp op o1 o2 h1 h2 h3 h4=>rw[zpJ (by omega)]at hr;rw[zms (by omega)];exact less_kap (by omega) h1 h2 h4 hr
 |ite h1 h2 h3 h4 h5=>exact ite_kap hr
 |un op o1 o2 h1 h2=>rw[r_com (by omega)]at hr;exact com_kap (by omega) h1 hr
 |wbin op o1 o2 h1 h2 h3 h4 h5=>rw[zic (by omega),if_neg (by omega)]at hr;exact zpq (by omega) h1 h2 (fun _=>rfl) h3 hr
 |cat h1 h2 h3 h4 h5=>rw[zic (by omega),if_pos rfl]at hr;exact zpq (by decide) h1 h2 (fun q=>absurd rfl q) (by omega) hr
 |slice i n h1 h2 h3 h4=>rw[kap_sl];exact slice_kap h1 hr
 |ext op w o1 o2 h1 h2 h3 h4=>rw[r_ext (by omega)]at hr;rw[zmt (by omega)];exact ext_kap (by omega) h1 hr
theorem kap_3(t:Tr):3≤kap t:=by
 cases t with
 |z=>exact Nat.le_refl _
 |nd op w num s a b c=>
  show 3≤kN op w a b c;have:=zo2 a b c;have ig:∀{p:Prop} [Decidable p] {x y:Nat},3≤x→3≤y→3≤(if p then x else y):=fun {p} _ {x y} hx hy=>by split<;>assumption
  unfold kN kEq ziQ kNeg kBx kAdd kSub kMul kSh
  repeat' first|omega|refine ig ?_ ?_
theorem sim_tot:∀(k:Nat) (t:Tr),WS t→kap t<k→∃r,simF k t=some r∧r.2≤kap t
 |0,t,h,hk=>absurd hk (Nat.not_lt_zero _)
 |k+1,t,h,hk=>by
  unfold simF;cases hq:zcS t with
  |none=>exact⟨(t,3),rfl,kap_3 t⟩
  |some e=>
   obtain⟨m,h1,h2⟩:=rule_kap h hq;obtain⟨r,r1,r2⟩:=ex_tot (sim_tot k) h1 (zhF h hq) (by omega);dsimp only;rw[r1];exact⟨(r.1,r.2+2),rfl,by dsimp only;omega⟩
def dpE:Ex→Nat
 |.old t=>t.dep
 |.tru _=>0
 |.con _ _=>0
 |.un op a=>(if op≤5 then 0 else 1)+dpE a
 |.bin _ a b=>1+max (dpE a) (dpE b)
 |.ite c a b=>1+max (dpE c) (max (dpE a) (dpE b))
 |.slice a _ _=>1+dpE a
 |.ext _ a _=>1+dpE a
def LvE(P:Tr→Prop):Ex→Prop
 |.old t=>P t
 |.tru _=>True
 |.con _ _=>True
 |.un _ a=>LvE P a
 |.bin _ a b=>LvE P a∧LvE P b
 |.ite c a b=>LvE P c∧LvE P a∧LvE P b
 |.slice a _ _=>LvE P a
 |.ext _ a _=>LvE P a
theorem zaq(a:Ex):dpE (.un 5 a)=dpE a:=by show (if (5:Int)≤5 then 0 else 1)+dpE a=_;rw[if_pos (by decide)];omega
theorem zak(a:Ex):dpE (.un 15 a)=1+dpE a:=by show (if (15:Int)≤5 then 0 else 1)+dpE a=_;rw[if_neg (by decide)]
theorem zaj(a:Ex):dpE (.un 16 a)=1+dpE a:=by show (if (16:Int)≤5 then 0 else 1)+dpE a=_;rw[if_neg (by decide)]
theorem zan(t:Tr):dpE (.old t)=t.dep:=rfl
theorem zar(b:Bool):dpE (.tru b)=0:=rfl
theorem zao(w:Int)(x:W64):dpE (.con w x)=0:=rfl
theorem zap(op:Int)(a b:Ex):dpE (.bin op a b)=1+max (dpE a) (dpE b):=rfl
theorem zas(c a b:Ex):dpE (.ite c a b)=1+max (dpE c) (max (dpE a) (dpE b)):=rfl
theorem zah(a:Ex)(i n:Int):dpE (.slice a i n)=1+dpE a:=rfl
theorem zat(op:Int)(a:Ex)(w:Int):dpE (.ext op a w)=1+dpE a:=rfl
theorem zaA(t:Tr)(v:W64):dpE (isE t v)=1+t.dep:=by show 1+max t.dep 0=_;omega
theorem zaB(P:Tr→Prop)(t:Tr)(v:W64):LvE P (isE t v)=(P t∧True):=rfl
structure DF(t:Tr):Prop where
 d:6≤t.op→t.dep=1+max t.a.dep (max t.b.dep t.c.dep)
 n:t.op=5→t.dep=t.a.dep
theorem DF.of{t:Tr}(h:WS t):DF t:=⟨zby,dep_not h⟩
section
variable {a b c:Tr}{e:Ex}
theorem not_dep(da:DF a)(h:notT a=some e):dpE e≤a.dep:=by
 unfold notT at h;rcases ifc h with⟨q,h⟩|⟨_,h⟩
 ·cases h;(try have q2:=zal q.2);(try have ea1:=da.d (by omega));(try have ea2:=da.n (by omega));simp only[zaA,zaq,zak,zaj,zan,zar,zao,zap,zas,zah,zat];omega
 rcases ifc h with⟨q,h⟩|⟨_,h⟩
 ·cases h;(try have q2:=zal q.2);(try have ea1:=da.d (by omega));(try have ea2:=da.n (by omega));simp only[zaA,zaq,zak,zaj,zan,zar,zao,zap,zas,zah,zat];omega
 rcases ifc h with⟨q,h⟩|⟨_,h⟩
 ·cases h;(try have q2:=zal q.2);(try have ea1:=da.d (by omega));(try have ea2:=da.n (by omega));simp only[zaA,zaq,zak,zaj,zan,zar,zao,zap,zas,zah,zat];omega
 ·cases h
theorem and_dep{op:Int}(da:DF a)(db:DF b)(h:andT op a b=some e):dpE e≤max a.dep b.dep:=by
 unfold andT at h;generalize (if op=6 then (2:Int) else 1)=z at h;generalize (if op=6 then (1:Int) else 2)=o at h;rcases ifc h with⟨q,h⟩|⟨_,h⟩
 ·cases h;(try have q2:=zal q.2);(try have ea1:=da.d (by omega));(try have ea2:=da.n (by omega));(try have eb1:=db.d (by omega));(try have eb2:=db.n (by omega));simp only[zaA,zaq,zak,zaj,zan,zar,zao,zap,zas,zah,zat];omega
 rcases ifc h with⟨q,h⟩|⟨_,h⟩
 ·cases h;(try have q2:=zal q.2);(try have ea1:=da.d (by omega));(try have ea2:=da.n (by omega));(try have eb1:=db.d (by omega));(try have eb2:=db.n (by omega));simp only[zaA,zaq,zak,zaj,zan,zar,zao,zap,zas,zah,zat];omega
 rcases ifc h with⟨q,h⟩|⟨_,h⟩
 ·cases h;(try have q2:=zal q.2);(try have ea1:=da.d (by omega));(try have ea2:=da.n (by omega));(try have eb1:=db.d (by omega));(try have eb2:=db.n (by omega));simp only[zaA,zaq,zak,zaj,zan,zar,zao,zap,zas,zah,zat];omega
 rcases ifc h with⟨q,h⟩|⟨_,h⟩
 ·cases h;(try have q2:=zal q.2);(try have ea1:=da.d (by omega));(try have ea2:=da.n (by omega));(try have eb1:=db.d (by omega));(try have eb2:=db.n (by omega));simp only[zaA,zaq,zak,zaj,zan,zar,zao,zap,zas,zah,zat];omega
 ·cases h
theorem xor_dep(da:DF a)(db:DF b)(h:xorT a b=some e):dpE e≤1+max a.dep b.dep:=by
 unfold xorT at h;rcases ifc h with⟨q,h⟩|⟨_,h⟩
 ·cases h;(try have q2:=zal q.2);(try have ea1:=da.d (by omega));(try have ea2:=da.n (by omega));(try have eb1:=db.d (by omega));(try have eb2:=db.n (by omega));simp only[zaA,zaq,zak,zaj,zan,zar,zao,zap,zas,zah,zat];omega
 rcases ifc h with⟨q,h⟩|⟨_,h⟩
 ·cases h;(try have q2:=zal q.2);(try have ea1:=da.d (by omega));(try have ea2:=da.n (by omega));(try have eb1:=db.d (by omega));(try have eb2:=db.n (by omega));simp only[zaA,zaq,zak,zaj,zan,zar,zao,zap,zas,zah,zat];omega
 rcases ifc h with⟨q,h⟩|⟨_,h⟩
 ·cases h;(try have q2:=zal q.2);(try have ea1:=da.d (by omega));(try have ea2:=da.n (by omega));(try have eb1:=db.d (by omega));(try have eb2:=db.n (by omega));simp only[zaA,zaq,zak,zaj,zan,zar,zao,zap,zas,zah,zat];omega
 rcases ifc h with⟨q,h⟩|⟨_,h⟩
 ·cases h;(try have q2:=zal q.2);(try have ea1:=da.d (by omega));(try have ea2:=da.n (by omega));(try have eb1:=db.d (by omega));(try have eb2:=db.n (by omega));simp only[zaA,zaq,zak,zaj,zan,zar,zao,zap,zas,zah,zat];omega
 rcases ifc h with⟨q,h⟩|⟨_,h⟩
 ·cases h;(try have q2:=zal q.2);(try have ea1:=da.d (by omega));(try have ea2:=da.n (by omega));(try have eb1:=db.d (by omega));(try have eb2:=db.n (by omega));simp only[zaA,zaq,zak,zaj,zan,zar,zao,zap,zas,zah,zat];omega
 rcases ifc h with⟨q,h⟩|⟨_,h⟩
 ·cases h;(try have q2:=zal q.2);(try have ea1:=da.d (by omega));(try have ea2:=da.n (by omega));(try have eb1:=db.d (by omega));(try have eb2:=db.n (by omega));simp only[zaA,zaq,zak,zaj,zan,zar,zao,zap,zas,zah,zat];omega
 rcases ifc h with⟨q,h⟩|⟨_,h⟩
 ·cases h;(try have q2:=zal q.2);(try have ea1:=da.d (by omega));(try have ea2:=da.n (by omega));(try have eb1:=db.d (by omega));(try have eb2:=db.n (by omega));simp only[zaA,zaq,zak,zaj,zan,zar,zao,zap,zas,zah,zat];omega
 rcases ifc h with⟨q,h⟩|⟨_,h⟩
 ·cases h;(try have q2:=zal q.2);(try have ea1:=da.d (by omega));(try have ea2:=da.n (by omega));(try have eb1:=db.d (by omega));(try have eb2:=db.n (by omega));simp only[zaA,zaq,zak,zaj,zan,zar,zao,zap,zas,zah,zat];omega
 ·cases h
theorem eqC_dep{k:W64}(ho:a.op=14)(da:DF a)(h:eqC a k=some e):dpE e≤a.dep:=by
 unfold eqC at h;rcases ifc h with⟨q,h⟩|⟨_,h⟩
 ·cases h
 rcases ifc h with⟨q,h⟩|⟨_,h⟩
 ·cases h;(try have q2:=zal q.2);(try have ea1:=da.d (by omega));(try have ea2:=da.n (by omega));simp only[zaA,zaq,zak,zaj,zan,zar,zao,zap,zas,zah,zat];omega
 rcases ifc h with⟨q,h⟩|⟨_,h⟩
 ·cases h;(try have q2:=zal q.2);(try have ea1:=da.d (by omega));(try have ea2:=da.n (by omega));simp only[zaA,zaq,zak,zaj,zan,zar,zao,zap,zas,zah,zat];omega
 rcases ifc h with⟨q,h⟩|⟨_,h⟩
 ·cases h;(try have q2:=zal q.2);(try have ea1:=da.d (by omega));(try have ea2:=da.n (by omega));simp only[zaA,zaq,zak,zaj,zan,zar,zao,zap,zas,zah,zat];omega
 ·cases h;(try have q2:=zal q.2);(try have ea1:=da.d (by omega));(try have ea2:=da.n (by omega));simp only[zaA,zaq,zak,zaj,zan,zar,zao,zap,zas,zah,zat];omega
theorem eqK_dep{k:W64}(da:DF a)(h:eqK a k=some e):dpE e≤1+a.dep:=by
 unfold eqK at h;rcases ifc h with⟨q,h⟩|⟨_,h⟩
 ·cases h;(try have q2:=zal q.2);(try have ea1:=da.d (by omega));(try have ea2:=da.n (by omega));simp only[zaA,zaq,zak,zaj,zan,zar,zao,zap,zas,zah,zat];omega
 rcases ifc h with⟨q,h⟩|⟨_,h⟩
 ·cases h;(try have q2:=zal q.2);(try have ea1:=da.d (by omega));(try have ea2:=da.n (by omega));simp only[zaA,zaq,zak,zaj,zan,zar,zao,zap,zas,zah,zat];omega
 rcases ifc h with⟨q,h⟩|⟨_,h⟩
 ·cases h;(try have q2:=zal q.2);(try have ea1:=da.d (by omega));(try have ea2:=da.n (by omega));simp only[zaA,zaq,zak,zaj,zan,zar,zao,zap,zas,zah,zat];omega
 rcases ifc h with⟨q,h⟩|⟨_,h⟩
 ·cases h;(try have q2:=zal q.2);(try have ea1:=da.d (by omega));(try have ea2:=da.n (by omega));simp only[zaA,zaq,zak,zaj,zan,zar,zao,zap,zas,zah,zat];omega
 rcases ifc h with⟨q,h⟩|⟨_,h⟩
 ·cases h;(try have q2:=zal q.2);(try have ea1:=da.d (by omega));(try have ea2:=da.n (by omega));simp only[zaA,zaq,zak,zaj,zan,zar,zao,zap,zas,zah,zat];omega
 rcases ifc h with⟨q,h⟩|⟨_,h⟩
 ·cases h;(try have q2:=zal q.2);(try have ea1:=da.d (by omega));(try have ea2:=da.n (by omega));simp only[zaA,zaq,zak,zaj,zan,zar,zao,zap,zas,zah,zat];omega
 rcases ifc h with⟨q,h⟩|⟨_,h⟩
 ·rcases ifc h with⟨_,h⟩|⟨_,h⟩
  ·cases h;(try have q2:=zal q.2);(try have ea1:=da.d (by omega));(try have ea2:=da.n (by omega));simp only[zaA,zaq,zak,zaj,zan,zar,zao,zap,zas,zah,zat];omega
  ·cases h;(try have q2:=zal q.2);(try have ea1:=da.d (by omega));(try have ea2:=da.n (by omega));simp only[zaA,zaq,zak,zaj,zan,zar,zao,zap,zas,zah,zat];omega
 rcases ifc h with⟨q,h⟩|⟨_,h⟩
 ·have:=eqC_dep (by omega) da h;omega
 rcases ifc h with⟨q,h⟩|⟨_,h⟩
 ·cases h;(try have q2:=zal q.2);(try have ea1:=da.d (by omega));(try have ea2:=da.n (by omega));simp only[zaA,zaq,zak,zaj,zan,zar,zao,zap,zas,zah,zat];omega
 ·cases h
theorem eq_dep(da:DF a)(db:DF b)(h:eqT a b=some e):dpE e≤1+max a.dep b.dep:=by
 unfold eqT at h;rcases ifc h with⟨q,h⟩|⟨_,h⟩
 ·cases h;(try have q2:=zal q.2);(try have ea1:=da.d (by omega));(try have ea2:=da.n (by omega));(try have eb1:=db.d (by omega));(try have eb2:=db.n (by omega));simp only[zaA,zaq,zak,zaj,zan,zar,zao,zap,zas,zah,zat];omega
 rcases ifc h with⟨q,h⟩|⟨_,h⟩
 ·cases h;(try have q2:=zal q.2);(try have ea1:=da.d (by omega));(try have ea2:=da.n (by omega));(try have eb1:=db.d (by omega));(try have eb2:=db.n (by omega));simp only[zaA,zaq,zak,zaj,zan,zar,zao,zap,zas,zah,zat];omega
 rcases ifc h with⟨q,h⟩|⟨_,h⟩
 ·cases h;(try have q2:=zal q.2);(try have ea1:=da.d (by omega));(try have ea2:=da.n (by omega));(try have eb1:=db.d (by omega));(try have eb2:=db.n (by omega));simp only[zaA,zaq,zak,zaj,zan,zar,zao,zap,zas,zah,zat];omega
 rcases ifc h with⟨q,h⟩|⟨_,h⟩
 ·cases h;(try have q2:=zal q.2);(try have ea1:=da.d (by omega));(try have ea2:=da.n (by omega));(try have eb1:=db.d (by omega));(try have eb2:=db.n (by omega));simp only[zaA,zaq,zak,zaj,zan,zar,zao,zap,zas,zah,zat];omega
 rcases ifc h with⟨q,h⟩|⟨_,h⟩
 ·cases h;(try have q2:=zal q.2);(try have ea1:=da.d (by omega));(try have ea2:=da.n (by omega));(try have eb1:=db.d (by omega));(try have eb2:=db.n (by omega));simp only[zaA,zaq,zak,zaj,zan,zar,zao,zap,zas,zah,zat];omega
 rcases ifc h with⟨q,h⟩|⟨_,h⟩
 ·cases h;(try have q2:=zal q.2);(try have ea1:=da.d (by omega));(try have ea2:=da.n (by omega));(try have eb1:=db.d (by omega));(try have eb2:=db.n (by omega));simp only[zaA,zaq,zak,zaj,zan,zar,zao,zap,zas,zah,zat];omega
 rcases ifc h with⟨q,h⟩|⟨_,h⟩
 ·have:=eqK_dep da h;omega
 ·cases h
theorem less_dep{op:Int}(da:DF a)(db:DF b)(h:zge op a b=some e):dpE e≤1+max a.dep b.dep:=by
 unfold zge at h;rcases ifc h with⟨q,h⟩|⟨_,h⟩
 ·cases h;(try have q2:=zal q.2);(try have ea1:=da.d (by omega));(try have ea2:=da.n (by omega));(try have eb1:=db.d (by omega));(try have eb2:=db.n (by omega));simp only[zaA,zaq,zak,zaj,zan,zar,zao,zap,zas,zah,zat];omega
 rcases ifc h with⟨q,h⟩|⟨_,h⟩
 ·cases h;(try have q2:=zal q.2);(try have ea1:=da.d (by omega));(try have ea2:=da.n (by omega));(try have eb1:=db.d (by omega));(try have eb2:=db.n (by omega));simp only[zaA,zaq,zak,zaj,zan,zar,zao,zap,zas,zah,zat];omega
 rcases ifc h with⟨q,h⟩|⟨_,h⟩
 ·cases h;(try have q2:=zal q.2);(try have ea1:=da.d (by omega));(try have ea2:=da.n (by omega));(try have eb1:=db.d (by omega));(try have eb2:=db.n (by omega));simp only[zaA,zaq,zak,zaj,zan,zar,zao,zap,zas,zah,zat];omega
 rcases ifc h with⟨q,h⟩|⟨_,h⟩
 ·cases h;(try have q2:=zal q.2);(try have ea1:=da.d (by omega));(try have ea2:=da.n (by omega));(try have eb1:=db.d (by omega));(try have eb2:=db.n (by omega));simp only[zaA,zaq,zak,zaj,zan,zar,zao,zap,zas,zah,zat];omega
 rcases ifc h with⟨q,h⟩|⟨_,h⟩
 ·cases h
 rcases ifc h with⟨q,h⟩|⟨_,h⟩
 ·cases h;(try have q2:=zal q.2);(try have ea1:=da.d (by omega));(try have ea2:=da.n (by omega));(try have eb1:=db.d (by omega));(try have eb2:=db.n (by omega));simp only[zaA,zaq,zak,zaj,zan,zar,zao,zap,zas,zah,zat];omega
 rcases ifc h with⟨q,h⟩|⟨_,h⟩
 ·cases h;(try have q2:=zal q.2);(try have ea1:=da.d (by omega));(try have ea2:=da.n (by omega));(try have eb1:=db.d (by omega));(try have eb2:=db.n (by omega));simp only[zaA,zaq,zak,zaj,zan,zar,zao,zap,zas,zah,zat];omega
 rcases ifc h with⟨q,h⟩|⟨_,h⟩
 ·cases h;(try have q2:=zal q.2);(try have ea1:=da.d (by omega));(try have ea2:=da.n (by omega));(try have eb1:=db.d (by omega));(try have eb2:=db.n (by omega));simp only[zaA,zaq,zak,zaj,zan,zar,zao,zap,zas,zah,zat];omega
 rcases ifc h with⟨q,h⟩|⟨_,h⟩
 ·cases h;(try have q2:=zal q.2);(try have ea1:=da.d (by omega));(try have ea2:=da.n (by omega));(try have eb1:=db.d (by omega));(try have eb2:=db.n (by omega));simp only[zaA,zaq,zak,zaj,zan,zar,zao,zap,zas,zah,zat];omega
 rcases ifc h with⟨q,h⟩|⟨_,h⟩
 ·cases h;(try have q2:=zal q.2);(try have ea1:=da.d (by omega));(try have ea2:=da.n (by omega));(try have eb1:=db.d (by omega));(try have eb2:=db.n (by omega));simp only[zaA,zaq,zak,zaj,zan,zar,zao,zap,zas,zah,zat];omega
 ·cases h
theorem ite_dep{w:Int}(da:DF a)(db:DF b)(dc:DF c)(h:iteT w a b c=some e):dpE e≤1+max a.dep (max b.dep c.dep):=by
 unfold iteT at h;rcases ifc h with⟨q,h⟩|⟨_,h⟩
 ·cases h;(try have q2:=zal q.2);(try have ea1:=da.d (by omega));(try have ea2:=da.n (by omega));(try have eb1:=db.d (by omega));(try have eb2:=db.n (by omega));(try have ec1:=dc.d (by omega));(try have ec2:=dc.n (by omega));simp only[zaA,zaq,zak,zaj,zan,zar,zao,zap,zas,zah,zat];omega
 rcases ifc h with⟨q,h⟩|⟨_,h⟩
 ·cases h;(try have q2:=zal q.2);(try have ea1:=da.d (by omega));(try have ea2:=da.n (by omega));(try have eb1:=db.d (by omega));(try have eb2:=db.n (by omega));(try have ec1:=dc.d (by omega));(try have ec2:=dc.n (by omega));simp only[zaA,zaq,zak,zaj,zan,zar,zao,zap,zas,zah,zat];omega
 rcases ifc h with⟨q,h⟩|⟨_,h⟩
 ·cases h;(try have q2:=zal q.2);(try have ea1:=da.d (by omega));(try have ea2:=da.n (by omega));(try have eb1:=db.d (by omega));(try have eb2:=db.n (by omega));(try have ec1:=dc.d (by omega));(try have ec2:=dc.n (by omega));simp only[zaA,zaq,zak,zaj,zan,zar,zao,zap,zas,zah,zat];omega
 rcases ifc h with⟨q,h⟩|⟨_,h⟩
 ·cases h;(try have q2:=zal q.2);(try have ea1:=da.d (by omega));(try have ea2:=da.n (by omega));(try have eb1:=db.d (by omega));(try have eb2:=db.n (by omega));(try have ec1:=dc.d (by omega));(try have ec2:=dc.n (by omega));simp only[zaA,zaq,zak,zaj,zan,zar,zao,zap,zas,zah,zat];omega
 rcases ifc h with⟨q,h⟩|⟨_,h⟩
 ·cases h;(try have q2:=zal q.2);(try have ea1:=da.d (by omega));(try have ea2:=da.n (by omega));(try have eb1:=db.d (by omega));(try have eb2:=db.n (by omega));(try have ec1:=dc.d (by omega));(try have ec2:=dc.n (by omega));simp only[zaA,zaq,zak,zaj,zan,zar,zao,zap,zas,zah,zat];omega
 rcases ifc h with⟨q,h⟩|⟨_,h⟩
 ·cases h;(try have q2:=zal q.2);(try have ea1:=da.d (by omega));(try have ea2:=da.n (by omega));(try have eb1:=db.d (by omega));(try have eb2:=db.n (by omega));(try have ec1:=dc.d (by omega));(try have ec2:=dc.n (by omega));simp only[zaA,zaq,zak,zaj,zan,zar,zao,zap,zas,zah,zat];omega
 rcases ifc h with⟨q,h⟩|⟨_,h⟩
 ·cases h;(try have q2:=zal q.2);(try have ea1:=da.d (by omega));(try have ea2:=da.n (by omega));(try have eb1:=db.d (by omega));(try have eb2:=db.n (by omega));(try have ec1:=dc.d (by omega));(try have ec2:=dc.n (by omega));simp only[zaA,zaq,zak,zaj,zan,zar,zao,zap,zas,zah,zat];omega
 rcases ifc h with⟨q,h⟩|⟨_,h⟩
 ·cases h;(try have q2:=zal q.2);(try have ea1:=da.d (by omega));(try have ea2:=da.n (by omega));(try have eb1:=db.d (by omega));(try have eb2:=db.n (by omega));(try have ec1:=dc.d (by omega));(try have ec2:=dc.n (by omega));simp only[zaA,zaq,zak,zaj,zan,zar,zao,zap,zas,zah,zat];omega
 rcases ifc h with⟨q,h⟩|⟨_,h⟩
 ·cases h;(try have q2:=zal q.2);(try have ea1:=da.d (by omega));(try have ea2:=da.n (by omega));(try have eb1:=db.d (by omega));(try have eb2:=db.n (by omega));(try have ec1:=dc.d (by omega));(try have ec2:=dc.n (by omega));simp only[zaA,zaq,zak,zaj,zan,zar,zao,zap,zas,zah,zat];omega
 rcases ifc h with⟨q,h⟩|⟨_,h⟩
 ·cases h;(try have q2:=zal q.2);(try have ea1:=da.d (by omega));(try have ea2:=da.n (by omega));(try have eb1:=db.d (by omega));(try have eb2:=db.n (by omega));(try have ec1:=dc.d (by omega));(try have ec2:=dc.n (by omega));simp only[zaA,zaq,zak,zaj,zan,zar,zao,zap,zas,zah,zat];omega
 rcases ifc h with⟨q,h⟩|⟨_,h⟩
 ·cases h;(try have q2:=zal q.2);(try have ea1:=da.d (by omega));(try have ea2:=da.n (by omega));(try have eb1:=db.d (by omega));(try have eb2:=db.n (by omega));(try have ec1:=dc.d (by omega));(try have ec2:=dc.n (by omega));simp only[zaA,zaq,zak,zaj,zan,zar,zao,zap,zas,zah,zat];omega
 ·cases h
theorem com_dep{op:Int}{w:Int}(ho:15≤op∧op≤16)(da:DF a)(h:comT op w a=some e):dpE e≤1+a.dep:=by
 unfold comT at h;rcases ifc h with⟨q,h⟩|⟨_,h⟩
 ·cases h;(try have q2:=zal q.2);(try have ea1:=da.d (by omega));(try have ea2:=da.n (by omega));simp only[zaA,zaq,zak,zaj,zan,zar,zao,zap,zas,zah,zat];omega
 rcases ifc h with⟨q,h⟩|⟨_,h⟩
 ·cases h;(try have q2:=zal q.2);(try have ea1:=da.d (by omega));(try have ea2:=da.n (by omega));simp only[zaA,zaq,zak,zaj,zan,zar,zao,zap,zas,zah,zat];omega
 rcases ifc h with⟨q,h⟩|⟨_,h⟩
 ·cases h;(try have q2:=zal q.2);(try have ea1:=da.d (by omega));(try have ea2:=da.n (by omega));simp only[zaA,zaq,zak,zaj,zan,zar,zao,zap,zas,zah,zat];omega
 ·cases h
theorem band_dep{op:Int}{w:Int}(ho:17≤op)(da:DF a)(db:DF b)(h:zhy op w a b=some e):dpE e≤1+max a.dep b.dep:=by
 unfold zhy at h;generalize (if op=17 then 0#64 else ones w)=z at h;generalize (if op=17 then ones w else 0#64)=o at h;rcases ifc h with⟨q,h⟩|⟨_,h⟩
 ·cases h;(try have q2:=zal q.2);(try have ea1:=da.d (by omega));(try have ea2:=da.n (by omega));(try have eb1:=db.d (by omega));(try have eb2:=db.n (by omega));simp only[zaA,zaq,zak,zaj,zan,zar,zao,zap,zas,zah,zat];omega
 rcases ifc h with⟨q,h⟩|⟨_,h⟩
 ·cases h;(try have q2:=zal q.2);(try have ea1:=da.d (by omega));(try have ea2:=da.n (by omega));(try have eb1:=db.d (by omega));(try have eb2:=db.n (by omega));simp only[zaA,zaq,zak,zaj,zan,zar,zao,zap,zas,zah,zat];omega
 rcases ifc h with⟨q,h⟩|⟨_,h⟩
 ·cases h;(try have q2:=zal q.2);(try have ea1:=da.d (by omega));(try have ea2:=da.n (by omega));(try have eb1:=db.d (by omega));(try have eb2:=db.n (by omega));simp only[zaA,zaq,zak,zaj,zan,zar,zao,zap,zas,zah,zat];omega
 rcases ifc h with⟨q,h⟩|⟨_,h⟩
 ·cases h;(try have q2:=zal q.2);(try have ea1:=da.d (by omega));(try have ea2:=da.n (by omega));(try have eb1:=db.d (by omega));(try have eb2:=db.n (by omega));simp only[zaA,zaq,zak,zaj,zan,zar,zao,zap,zas,zah,zat];omega
 ·cases h
theorem bxor_dep{w:Int}(da:DF a)(db:DF b)(h:zhw w a b=some e):dpE e≤1+max a.dep b.dep:=by
 unfold zhw at h;rcases ifc h with⟨q,h⟩|⟨_,h⟩
 ·cases h;(try have q2:=zal q.2);(try have ea1:=da.d (by omega));(try have ea2:=da.n (by omega));(try have eb1:=db.d (by omega));(try have eb2:=db.n (by omega));simp only[zaA,zaq,zak,zaj,zan,zar,zao,zap,zas,zah,zat];omega
 rcases ifc h with⟨q,h⟩|⟨_,h⟩
 ·cases h;(try have q2:=zal q.2);(try have ea1:=da.d (by omega));(try have ea2:=da.n (by omega));(try have eb1:=db.d (by omega));(try have eb2:=db.n (by omega));simp only[zaA,zaq,zak,zaj,zan,zar,zao,zap,zas,zah,zat];omega
 rcases ifc h with⟨q,h⟩|⟨_,h⟩
 ·cases h;(try have q2:=zal q.2);(try have ea1:=da.d (by omega));(try have ea2:=da.n (by omega));(try have eb1:=db.d (by omega));(try have eb2:=db.n (by omega));simp only[zaA,zaq,zak,zaj,zan,zar,zao,zap,zas,zah,zat];omega
 rcases ifc h with⟨q,h⟩|⟨_,h⟩
 ·cases h;(try have q2:=zal q.2);(try have ea1:=da.d (by omega));(try have ea2:=da.n (by omega));(try have eb1:=db.d (by omega));(try have eb2:=db.n (by omega));simp only[zaA,zaq,zak,zaj,zan,zar,zao,zap,zas,zah,zat];omega
 rcases ifc h with⟨q,h⟩|⟨_,h⟩
 ·cases h;(try have q2:=zal q.2);(try have ea1:=da.d (by omega));(try have ea2:=da.n (by omega));(try have eb1:=db.d (by omega));(try have eb2:=db.n (by omega));simp only[zaA,zaq,zak,zaj,zan,zar,zao,zap,zas,zah,zat];omega
 rcases ifc h with⟨q,h⟩|⟨_,h⟩
 ·cases h;(try have q2:=zal q.2);(try have ea1:=da.d (by omega));(try have ea2:=da.n (by omega));(try have eb1:=db.d (by omega));(try have eb2:=db.n (by omega));simp only[zaA,zaq,zak,zaj,zan,zar,zao,zap,zas,zah,zat];omega
 rcases ifc h with⟨q,h⟩|⟨_,h⟩
 ·cases h;(try have q2:=zal q.2);(try have ea1:=da.d (by omega));(try have ea2:=da.n (by omega));(try have eb1:=db.d (by omega));(try have eb2:=db.n (by omega));simp only[zaA,zaq,zak,zaj,zan,zar,zao,zap,zas,zah,zat];omega
 rcases ifc h with⟨q,h⟩|⟨_,h⟩
 ·cases h;(try have q2:=zal q.2);(try have ea1:=da.d (by omega));(try have ea2:=da.n (by omega));(try have eb1:=db.d (by omega));(try have eb2:=db.n (by omega));simp only[zaA,zaq,zak,zaj,zan,zar,zao,zap,zas,zah,zat];omega
 rcases ifc h with⟨q,h⟩|⟨_,h⟩
 ·cases h;(try have q2:=zal q.2);(try have ea1:=da.d (by omega));(try have ea2:=da.n (by omega));(try have eb1:=db.d (by omega));(try have eb2:=db.n (by omega));simp only[zaA,zaq,zak,zaj,zan,zar,zao,zap,zas,zah,zat];omega
 ·cases h
theorem add_dep{w:Int}(da:DF a)(db:DF b)(h:addT w a b=some e):dpE e≤1+max a.dep b.dep:=by
 unfold addT at h;rcases ifc h with⟨q,h⟩|⟨_,h⟩
 ·cases h;(try have q2:=zal q.2);(try have ea1:=da.d (by omega));(try have ea2:=da.n (by omega));(try have eb1:=db.d (by omega));(try have eb2:=db.n (by omega));simp only[zaA,zaq,zak,zaj,zan,zar,zao,zap,zas,zah,zat];omega
 rcases ifc h with⟨q,h⟩|⟨_,h⟩
 ·cases h;(try have q2:=zal q.2);(try have ea1:=da.d (by omega));(try have ea2:=da.n (by omega));(try have eb1:=db.d (by omega));(try have eb2:=db.n (by omega));simp only[zaA,zaq,zak,zaj,zan,zar,zao,zap,zas,zah,zat];omega
 rcases ifc h with⟨q,h⟩|⟨_,h⟩
 ·cases h;(try have q2:=zal q.2);(try have ea1:=da.d (by omega));(try have ea2:=da.n (by omega));(try have eb1:=db.d (by omega));(try have eb2:=db.n (by omega));simp only[zaA,zaq,zak,zaj,zan,zar,zao,zap,zas,zah,zat];omega
 rcases ifc h with⟨q,h⟩|⟨_,h⟩
 ·cases h;(try have q2:=zal q.2);(try have ea1:=da.d (by omega));(try have ea2:=da.n (by omega));(try have eb1:=db.d (by omega));(try have eb2:=db.n (by omega));simp only[zaA,zaq,zak,zaj,zan,zar,zao,zap,zas,zah,zat];omega
 rcases ifc h with⟨q,h⟩|⟨_,h⟩
 ·cases h;(try have q2:=zal q.2);(try have ea1:=da.d (by omega));(try have ea2:=da.n (by omega));(try have eb1:=db.d (by omega));(try have eb2:=db.n (by omega));simp only[zaA,zaq,zak,zaj,zan,zar,zao,zap,zas,zah,zat];omega
 rcases ifc h with⟨q,h⟩|⟨_,h⟩
 ·cases h;(try have q2:=zal q.2);(try have ea1:=da.d (by omega));(try have ea2:=da.n (by omega));(try have eb1:=db.d (by omega));(try have eb2:=db.n (by omega));simp only[zaA,zaq,zak,zaj,zan,zar,zao,zap,zas,zah,zat];omega
 ·cases h
theorem sub_dep{w:Int}(da:DF a)(db:DF b)(h:subT w a b=some e):dpE e≤1+max a.dep b.dep:=by
 unfold subT at h;rcases ifc h with⟨q,h⟩|⟨_,h⟩
 ·cases h;(try have q2:=zal q.2);(try have ea1:=da.d (by omega));(try have ea2:=da.n (by omega));(try have eb1:=db.d (by omega));(try have eb2:=db.n (by omega));simp only[zaA,zaq,zak,zaj,zan,zar,zao,zap,zas,zah,zat];omega
 rcases ifc h with⟨q,h⟩|⟨_,h⟩
 ·cases h;(try have q2:=zal q.2);(try have ea1:=da.d (by omega));(try have ea2:=da.n (by omega));(try have eb1:=db.d (by omega));(try have eb2:=db.n (by omega));simp only[zaA,zaq,zak,zaj,zan,zar,zao,zap,zas,zah,zat];omega
 rcases ifc h with⟨q,h⟩|⟨_,h⟩
 ·cases h;(try have q2:=zal q.2);(try have ea1:=da.d (by omega));(try have ea2:=da.n (by omega));(try have eb1:=db.d (by omega));(try have eb2:=db.n (by omega));simp only[zaA,zaq,zak,zaj,zan,zar,zao,zap,zas,zah,zat];omega
 rcases ifc h with⟨q,h⟩|⟨_,h⟩
 ·cases h;(try have q2:=zal q.2);(try have ea1:=da.d (by omega));(try have ea2:=da.n (by omega));(try have eb1:=db.d (by omega));(try have eb2:=db.n (by omega));simp only[zaA,zaq,zak,zaj,zan,zar,zao,zap,zas,zah,zat];omega
 rcases ifc h with⟨q,h⟩|⟨_,h⟩
 ·cases h;(try have q2:=zal q.2);(try have ea1:=da.d (by omega));(try have ea2:=da.n (by omega));(try have eb1:=db.d (by omega));(try have eb2:=db.n (by omega));simp only[zaA,zaq,zak,zaj,zan,zar,zao,zap,zas,zah,zat];omega
 rcases ifc h with⟨q,h⟩|⟨_,h⟩
 ·cases h;(try have q2:=zal q.2);(try have ea1:=da.d (by omega));(try have ea2:=da.n (by omega));(try have eb1:=db.d (by omega));(try have eb2:=db.n (by omega));simp only[zaA,zaq,zak,zaj,zan,zar,zao,zap,zas,zah,zat];omega
 rcases ifc h with⟨q,h⟩|⟨_,h⟩
 ·cases h;(try have q2:=zal q.2);(try have ea1:=da.d (by omega));(try have ea2:=da.n (by omega));(try have eb1:=db.d (by omega));(try have eb2:=db.n (by omega));simp only[zaA,zaq,zak,zaj,zan,zar,zao,zap,zas,zah,zat];omega
 ·cases h
theorem mul_dep{op:Int}{w:Int}(da:DF a)(db:DF b)(h:mulT op w a b=some e):dpE e≤1+max a.dep b.dep:=by
 unfold mulT at h;rcases ifc h with⟨q,h⟩|⟨_,h⟩
 ·cases h
 rcases ifc h with⟨q,h⟩|⟨_,h⟩
 ·cases h;(try have q2:=zal q.2);(try have ea1:=da.d (by omega));(try have ea2:=da.n (by omega));(try have eb1:=db.d (by omega));(try have eb2:=db.n (by omega));simp only[zaA,zaq,zak,zaj,zan,zar,zao,zap,zas,zah,zat];omega
 rcases ifc h with⟨q,h⟩|⟨_,h⟩
 ·cases h;(try have q2:=zal q.2);(try have ea1:=da.d (by omega));(try have ea2:=da.n (by omega));(try have eb1:=db.d (by omega));(try have eb2:=db.n (by omega));simp only[zaA,zaq,zak,zaj,zan,zar,zao,zap,zas,zah,zat];omega
 rcases ifc h with⟨q,h⟩|⟨_,h⟩
 ·cases h;(try have q2:=zal q.2);(try have ea1:=da.d (by omega));(try have ea2:=da.n (by omega));(try have eb1:=db.d (by omega));(try have eb2:=db.n (by omega));simp only[zaA,zaq,zak,zaj,zan,zar,zao,zap,zas,zah,zat];omega
 rcases ifc h with⟨q,h⟩|⟨_,h⟩
 ·cases h;(try have q2:=zal q.2);(try have ea1:=da.d (by omega));(try have ea2:=da.n (by omega));(try have eb1:=db.d (by omega));(try have eb2:=db.n (by omega));simp only[zaA,zaq,zak,zaj,zan,zar,zao,zap,zas,zah,zat];omega
 rcases ifc h with⟨q,h⟩|⟨_,h⟩
 ·cases h;(try have q2:=zal q.2);(try have ea1:=da.d (by omega));(try have ea2:=da.n (by omega));(try have eb1:=db.d (by omega));(try have eb2:=db.n (by omega));simp only[zaA,zaq,zak,zaj,zan,zar,zao,zap,zas,zah,zat];omega
 rcases ifc h with⟨q,h⟩|⟨_,h⟩
 ·cases h;(try have q2:=zal q.2);(try have ea1:=da.d (by omega));(try have ea2:=da.n (by omega));(try have eb1:=db.d (by omega));(try have eb2:=db.n (by omega));simp only[zaA,zaq,zak,zaj,zan,zar,zao,zap,zas,zah,zat];omega
 rcases ifc h with⟨q,h⟩|⟨_,h⟩
 ·cases h;(try have q2:=zal q.2);(try have ea1:=da.d (by omega));(try have ea2:=da.n (by omega));(try have eb1:=db.d (by omega));(try have eb2:=db.n (by omega));simp only[zaA,zaq,zak,zaj,zan,zar,zao,zap,zas,zah,zat];omega
 rcases ifc h with⟨q,h⟩|⟨_,h⟩
 ·cases h;(try have q2:=zal q.2);(try have ea1:=da.d (by omega));(try have ea2:=da.n (by omega));(try have eb1:=db.d (by omega));(try have eb2:=db.n (by omega));simp only[zaA,zaq,zak,zaj,zan,zar,zao,zap,zas,zah,zat];omega
 ·cases h
theorem shift_dep{op:Int}{w:Int}(da:DF a)(db:DF b)(h:zdJ op w a b=some e):dpE e≤1+max a.dep b.dep:=by
 unfold zdJ at h;rcases ifc h with⟨q,h⟩|⟨_,h⟩
 ·cases h;(try have q2:=zal q.2);(try have ea1:=da.d (by omega));(try have ea2:=da.n (by omega));(try have eb1:=db.d (by omega));(try have eb2:=db.n (by omega));simp only[zaA,zaq,zak,zaj,zan,zar,zao,zap,zas,zah,zat];omega
 rcases ifc h with⟨q,h⟩|⟨_,h⟩
 ·cases h
 rcases ifc h with⟨q,h⟩|⟨_,h⟩
 ·cases h;(try have q2:=zal q.2);(try have ea1:=da.d (by omega));(try have ea2:=da.n (by omega));(try have eb1:=db.d (by omega));(try have eb2:=db.n (by omega));simp only[zaA,zaq,zak,zaj,zan,zar,zao,zap,zas,zah,zat];omega
 rcases ifc h with⟨q,h⟩|⟨_,h⟩
 ·cases h;(try have q2:=zal q.2);(try have ea1:=da.d (by omega));(try have ea2:=da.n (by omega));(try have eb1:=db.d (by omega));(try have eb2:=db.n (by omega));simp only[zaA,zaq,zak,zaj,zan,zar,zao,zap,zas,zah,zat];omega
 rcases ifc h with⟨q,h⟩|⟨_,h⟩
 ·rcases ifc h with⟨_,h⟩|⟨_,h⟩
  ·cases h;(try have q2:=zal q.2);(try have ea1:=da.d (by omega));(try have ea2:=da.n (by omega));(try have eb1:=db.d (by omega));(try have eb2:=db.n (by omega));simp only[zaA,zaq,zak,zaj,zan,zar,zao,zap,zas,zah,zat];omega
  ·cases h;(try have q2:=zal q.2);(try have ea1:=da.d (by omega));(try have ea2:=da.n (by omega));(try have eb1:=db.d (by omega));(try have eb2:=db.n (by omega));simp only[zaA,zaq,zak,zaj,zan,zar,zao,zap,zas,zah,zat];omega
 rcases ifc h with⟨q,h⟩|⟨_,h⟩
 ·cases h;(try have q2:=zal q.2);(try have ea1:=da.d (by omega));(try have ea2:=da.n (by omega));(try have eb1:=db.d (by omega));(try have eb2:=db.n (by omega));simp only[zaA,zaq,zak,zaj,zan,zar,zao,zap,zas,zah,zat];omega
 rcases ifc h with⟨q,h⟩|⟨_,h⟩
 ·cases h;(try have q2:=zal q.2);(try have ea1:=da.d (by omega));(try have ea2:=da.n (by omega));(try have eb1:=db.d (by omega));(try have eb2:=db.n (by omega));simp only[zaA,zaq,zak,zaj,zan,zar,zao,zap,zas,zah,zat];omega
 ·cases h
theorem cat_dep{w:Int}(da:DF a)(db:DF b)(h:catT w a b=some e):dpE e≤1+max a.dep b.dep:=by
 unfold catT at h;rcases ifc h with⟨q,h⟩|⟨_,h⟩
 ·cases h;(try have q2:=zal q.2);(try have ea1:=da.d (by omega));(try have ea2:=da.n (by omega));(try have eb1:=db.d (by omega));(try have eb2:=db.n (by omega));simp only[zaA,zaq,zak,zaj,zan,zar,zao,zap,zas,zah,zat];omega
 rcases ifc h with⟨q,h⟩|⟨_,h⟩
 ·cases h;(try have q2:=zal q.2);(try have ea1:=da.d (by omega));(try have ea2:=da.n (by omega));(try have eb1:=db.d (by omega));(try have eb2:=db.n (by omega));simp only[zaA,zaq,zak,zaj,zan,zar,zao,zap,zas,zah,zat];omega
 ·cases h
theorem slice_dep{w:Int}{num:Int}(da:DF a)(h:zdI w num a=some e):dpE e≤1+a.dep:=by
 unfold zdI at h;rcases ifc h with⟨q,h⟩|⟨_,h⟩
 ·cases h;(try have q2:=zal q.2);(try have ea1:=da.d (by omega));(try have ea2:=da.n (by omega));simp only[zaA,zaq,zak,zaj,zan,zar,zao,zap,zas,zah,zat];omega
 rcases ifc h with⟨q,h⟩|⟨_,h⟩
 ·cases h;(try have q2:=zal q.2);(try have ea1:=da.d (by omega));(try have ea2:=da.n (by omega));simp only[zaA,zaq,zak,zaj,zan,zar,zao,zap,zas,zah,zat];omega
 rcases ifc h with⟨q,h⟩|⟨_,h⟩
 ·cases h;(try have q2:=zal q.2);(try have ea1:=da.d (by omega));(try have ea2:=da.n (by omega));simp only[zaA,zaq,zak,zaj,zan,zar,zao,zap,zas,zah,zat];omega
 rcases ifc h with⟨q,h⟩|⟨_,h⟩
 ·cases h;(try have q2:=zal q.2);(try have ea1:=da.d (by omega));(try have ea2:=da.n (by omega));simp only[zaA,zaq,zak,zaj,zan,zar,zao,zap,zas,zah,zat];omega
 rcases ifc h with⟨q,h⟩|⟨_,h⟩
 ·cases h;(try have q2:=zal q.2);(try have ea1:=da.d (by omega));(try have ea2:=da.n (by omega));simp only[zaA,zaq,zak,zaj,zan,zar,zao,zap,zas,zah,zat];omega
 rcases ifc h with⟨q,h⟩|⟨_,h⟩
 ·cases h;(try have q2:=zal q.2);(try have ea1:=da.d (by omega));(try have ea2:=da.n (by omega));simp only[zaA,zaq,zak,zaj,zan,zar,zao,zap,zas,zah,zat];omega
 rcases ifc h with⟨q,h⟩|⟨_,h⟩
 ·cases h;(try have q2:=zal q.2);(try have ea1:=da.d (by omega));(try have ea2:=da.n (by omega));simp only[zaA,zaq,zak,zaj,zan,zar,zao,zap,zas,zah,zat];omega
 ·cases h
theorem ext_dep{op:Int}{w:Int}(ho:32≤op)(da:DF a)(h:extT op w a=some e):dpE e≤1+a.dep:=by
 unfold extT at h;rcases ifc h with⟨q,h⟩|⟨_,h⟩
 ·cases h;(try have q2:=zal q.2);(try have ea1:=da.d (by omega));(try have ea2:=da.n (by omega));simp only[zaA,zaq,zak,zaj,zan,zar,zao,zap,zas,zah,zat];omega
 rcases ifc h with⟨q,h⟩|⟨_,h⟩
 ·cases h;(try have q2:=zal q.2);(try have ea1:=da.d (by omega));(try have ea2:=da.n (by omega));simp only[zaA,zaq,zak,zaj,zan,zar,zao,zap,zas,zah,zat];omega
 rcases ifc h with⟨q,h⟩|⟨_,h⟩
 ·cases h;(try have q2:=zal q.2);(try have ea1:=da.d (by omega));(try have ea2:=da.n (by omega));simp only[zaA,zaq,zak,zaj,zan,zar,zao,zap,zas,zah,zat];omega
 rcases ifc h with⟨q,h⟩|⟨_,h⟩
 ·cases h;(try have q2:=zal q.2);(try have ea1:=da.d (by omega));(try have ea2:=da.n (by omega));simp only[zaA,zaq,zak,zaj,zan,zar,zao,zap,zas,zah,zat];omega
 ·cases h
end
section
variable {P:Tr→Prop}(hP:∀t,P t→P t.a∧P t.b∧P t.c){a b c:Tr}{e:Ex}
include hP
theorem not_lv(pa:P a)(h:notT a=some e):LvE P e:=by
 obtain⟨paa,pab,pac⟩:=hP _ pa;unfold notT at h;rcases ifc h with⟨q,h⟩|⟨_,h⟩
 ·cases h;simp only[zaB,LvE,pa,paa,pab,pac,and_self]
 rcases ifc h with⟨q,h⟩|⟨_,h⟩
 ·cases h;simp only[zaB,LvE,pa,paa,pab,pac,and_self]
 rcases ifc h with⟨q,h⟩|⟨_,h⟩
 ·cases h;simp only[zaB,LvE,pa,paa,pab,pac,and_self]
 ·cases h
theorem and_lv{op:Int}(pa:P a)(pb:P b)(h:andT op a b=some e):LvE P e:=by
 obtain⟨paa,pab,pac⟩:=hP _ pa;obtain⟨pba,pbb,pbc⟩:=hP _ pb;unfold andT at h;generalize (if op=6 then (2:Int) else 1)=z at h;generalize (if op=6 then (1:Int) else 2)=o at h;rcases ifc h with⟨q,h⟩|⟨_,h⟩
 ·cases h;simp only[zaB,LvE,pa,paa,pab,pac,pb,pba,pbb,pbc,and_self]
 rcases ifc h with⟨q,h⟩|⟨_,h⟩
 ·cases h;simp only[zaB,LvE,pa,paa,pab,pac,pb,pba,pbb,pbc,and_self]
 rcases ifc h with⟨q,h⟩|⟨_,h⟩
 ·cases h;simp only[zaB,LvE,pa,paa,pab,pac,pb,pba,pbb,pbc,and_self]
 rcases ifc h with⟨q,h⟩|⟨_,h⟩
 ·cases h;simp only[zaB,LvE,pa,paa,pab,pac,pb,pba,pbb,pbc,and_self]
 ·cases h
theorem xor_lv(pa:P a)(pb:P b)(h:xorT a b=some e):LvE P e:=by
 obtain⟨paa,pab,pac⟩:=hP _ pa;obtain⟨pba,pbb,pbc⟩:=hP _ pb;unfold xorT at h;rcases ifc h with⟨q,h⟩|⟨_,h⟩
 ·cases h;simp only[zaB,LvE,pa,paa,pab,pac,pb,pba,pbb,pbc,and_self]
 rcases ifc h with⟨q,h⟩|⟨_,h⟩
 ·cases h;simp only[zaB,LvE,pa,paa,pab,pac,pb,pba,pbb,pbc,and_self]
 rcases ifc h with⟨q,h⟩|⟨_,h⟩
 ·cases h;simp only[zaB,LvE,pa,paa,pab,pac,pb,pba,pbb,pbc,and_self]
 rcases ifc h with⟨q,h⟩|⟨_,h⟩
 ·cases h;simp only[zaB,LvE,pa,paa,pab,pac,pb,pba,pbb,pbc,and_self]
 rcases ifc h with⟨q,h⟩|⟨_,h⟩
 ·cases h;simp only[zaB,LvE,pa,paa,pab,pac,pb,pba,pbb,pbc,and_self]
 rcases ifc h with⟨q,h⟩|⟨_,h⟩
 ·cases h;simp only[zaB,LvE,pa,paa,pab,pac,pb,pba,pbb,pbc,and_self]
 rcases ifc h with⟨q,h⟩|⟨_,h⟩
 ·cases h;simp only[zaB,LvE,pa,paa,pab,pac,pb,pba,pbb,pbc,and_self]
 rcases ifc h with⟨q,h⟩|⟨_,h⟩
 ·cases h;simp only[zaB,LvE,pa,paa,pab,pac,pb,pba,pbb,pbc,and_self]
 ·cases h
theorem eqC_lv{k:W64}(pa:P a)(h:eqC a k=some e):LvE P e:=by
 obtain⟨paa,pab,pac⟩:=hP _ pa;unfold eqC at h;rcases ifc h with⟨q,h⟩|⟨_,h⟩
 ·cases h
 rcases ifc h with⟨q,h⟩|⟨_,h⟩
 ·cases h;simp only[zaB,LvE,pa,paa,pab,pac,and_self]
 rcases ifc h with⟨q,h⟩|⟨_,h⟩
 ·cases h;simp only[zaB,LvE,pa,paa,pab,pac,and_self]
 rcases ifc h with⟨q,h⟩|⟨_,h⟩
 ·cases h;simp only[zaB,LvE,pa,paa,pab,pac,and_self]
 ·cases h;simp only[zaB,LvE,pa,paa,pab,pac,and_self]
theorem eqK_lv{k:W64}(pa:P a)(h:eqK a k=some e):LvE P e:=by
 obtain⟨paa,pab,pac⟩:=hP _ pa;unfold eqK at h;rcases ifc h with⟨q,h⟩|⟨_,h⟩
 ·cases h;simp only[zaB,LvE,pa,paa,pab,pac,and_self]
 rcases ifc h with⟨q,h⟩|⟨_,h⟩
 ·cases h;simp only[zaB,LvE,pa,paa,pab,pac,and_self]
 rcases ifc h with⟨q,h⟩|⟨_,h⟩
 ·cases h;simp only[zaB,LvE,pa,paa,pab,pac,and_self]
 rcases ifc h with⟨q,h⟩|⟨_,h⟩
 ·cases h;simp only[zaB,LvE,pa,paa,pab,pac,and_self]
 rcases ifc h with⟨q,h⟩|⟨_,h⟩
 ·cases h;simp only[zaB,LvE,pa,paa,pab,pac,and_self]
 rcases ifc h with⟨q,h⟩|⟨_,h⟩
 ·cases h;simp only[zaB,LvE,pa,paa,pab,pac,and_self]
 rcases ifc h with⟨q,h⟩|⟨_,h⟩
 ·rcases ifc h with⟨_,h⟩|⟨_,h⟩
  ·cases h;simp only[zaB,LvE,pa,paa,pab,pac,and_self]
  ·cases h;simp only[zaB,LvE,pa,paa,pab,pac,and_self]
 rcases ifc h with⟨q,h⟩|⟨_,h⟩
 ·exact eqC_lv hP pa h
 rcases ifc h with⟨q,h⟩|⟨_,h⟩
 ·cases h;simp only[zaB,LvE,pa,paa,pab,pac,and_self]
 ·cases h
theorem eq_lv(pa:P a)(pb:P b)(h:eqT a b=some e):LvE P e:=by
 obtain⟨paa,pab,pac⟩:=hP _ pa;obtain⟨pba,pbb,pbc⟩:=hP _ pb;unfold eqT at h;rcases ifc h with⟨q,h⟩|⟨_,h⟩
 ·cases h;simp only[zaB,LvE,pa,paa,pab,pac,pb,pba,pbb,pbc,and_self]
 rcases ifc h with⟨q,h⟩|⟨_,h⟩
 ·cases h;simp only[zaB,LvE,pa,paa,pab,pac,pb,pba,pbb,pbc,and_self]
 rcases ifc h with⟨q,h⟩|⟨_,h⟩
 ·cases h;simp only[zaB,LvE,pa,paa,pab,pac,pb,pba,pbb,pbc,and_self]
 rcases ifc h with⟨q,h⟩|⟨_,h⟩
 ·cases h;simp only[zaB,LvE,pa,paa,pab,pac,pb,pba,pbb,pbc,and_self]
 rcases ifc h with⟨q,h⟩|⟨_,h⟩
 ·cases h;simp only[zaB,LvE,pa,paa,pab,pac,pb,pba,pbb,pbc,and_self]
 rcases ifc h with⟨q,h⟩|⟨_,h⟩
 ·cases h;simp only[zaB,LvE,pa,paa,pab,pac,pb,pba,pbb,pbc,and_self]
 rcases ifc h with⟨q,h⟩|⟨_,h⟩
 ·exact eqK_lv hP pa h
 ·cases h
theorem less_lv{op:Int}(pa:P a)(pb:P b)(h:zge op a b=some e):LvE P e:=by
 obtain⟨paa,pab,pac⟩:=hP _ pa;obtain⟨pba,pbb,pbc⟩:=hP _ pb;unfold zge at h;rcases ifc h with⟨q,h⟩|⟨_,h⟩
 ·cases h;simp only[zaB,LvE,pa,paa,pab,pac,pb,pba,pbb,pbc,and_self]
 rcases ifc h with⟨q,h⟩|⟨_,h⟩
 ·cases h;simp only[zaB,LvE,pa,paa,pab,pac,pb,pba,pbb,pbc,and_self]
 rcases ifc h with⟨q,h⟩|⟨_,h⟩
 ·cases h;simp only[zaB,LvE,pa,paa,pab,pac,pb,pba,pbb,pbc,and_self]
 rcases ifc h with⟨q,h⟩|⟨_,h⟩
 ·cases h;simp only[zaB,LvE,pa,paa,pab,pac,pb,pba,pbb,pbc,and_self]
 rcases ifc h with⟨q,h⟩|⟨_,h⟩
 ·cases h
 rcases ifc h with⟨q,h⟩|⟨_,h⟩
 ·cases h;simp only[zaB,LvE,pa,paa,pab,pac,pb,pba,pbb,pbc,and_self]
 rcases ifc h with⟨q,h⟩|⟨_,h⟩
 ·cases h;simp only[zaB,LvE,pa,paa,pab,pac,pb,pba,pbb,pbc,and_self]
 rcases ifc h with⟨q,h⟩|⟨_,h⟩
 ·cases h;simp only[zaB,LvE,pa,paa,pab,pac,pb,pba,pbb,pbc,and_self]
 rcases ifc h with⟨q,h⟩|⟨_,h⟩
 ·cases h;simp only[zaB,LvE,pa,paa,pab,pac,pb,pba,pbb,pbc,and_self]
 rcases ifc h with⟨q,h⟩|⟨_,h⟩
 ·cases h;simp only[zaB,LvE,pa,paa,pab,pac,pb,pba,pbb,pbc,and_self]
 ·cases h
theorem ite_lv{w:Int}(pa:P a)(pb:P b)(pc:P c)(h:iteT w a b c=some e):LvE P e:=by
 obtain⟨paa,pab,pac⟩:=hP _ pa;obtain⟨pba,pbb,pbc⟩:=hP _ pb;obtain⟨pca,pcb,pcc⟩:=hP _ pc;unfold iteT at h;rcases ifc h with⟨q,h⟩|⟨_,h⟩
 ·cases h;simp only[zaB,LvE,pa,paa,pab,pac,pb,pba,pbb,pbc,pc,pca,pcb,pcc,and_self]
 rcases ifc h with⟨q,h⟩|⟨_,h⟩
 ·cases h;simp only[zaB,LvE,pa,paa,pab,pac,pb,pba,pbb,pbc,pc,pca,pcb,pcc,and_self]
 rcases ifc h with⟨q,h⟩|⟨_,h⟩
 ·cases h;simp only[zaB,LvE,pa,paa,pab,pac,pb,pba,pbb,pbc,pc,pca,pcb,pcc,and_self]
 rcases ifc h with⟨q,h⟩|⟨_,h⟩
 ·cases h;simp only[zaB,LvE,pa,paa,pab,pac,pb,pba,pbb,pbc,pc,pca,pcb,pcc,and_self]
 rcases ifc h with⟨q,h⟩|⟨_,h⟩
 ·cases h;simp only[zaB,LvE,pa,paa,pab,pac,pb,pba,pbb,pbc,pc,pca,pcb,pcc,and_self]
 rcases ifc h with⟨q,h⟩|⟨_,h⟩
 ·cases h;simp only[zaB,LvE,pa,paa,pab,pac,pb,pba,pbb,pbc,pc,pca,pcb,pcc,and_self]
 rcases ifc h with⟨q,h⟩|⟨_,h⟩
 ·cases h;simp only[zaB,LvE,pa,paa,pab,pac,pb,pba,pbb,pbc,pc,pca,pcb,pcc,and_self]
 rcases ifc h with⟨q,h⟩|⟨_,h⟩
 ·cases h;simp only[zaB,LvE,pa,paa,pab,pac,pb,pba,pbb,pbc,pc,pca,pcb,pcc,and_self]
 rcases ifc h with⟨q,h⟩|⟨_,h⟩
 ·cases h;simp only[zaB,LvE,pa,paa,pab,pac,pb,pba,pbb,pbc,pc,pca,pcb,pcc,and_self]
 rcases ifc h with⟨q,h⟩|⟨_,h⟩
 ·cases h;simp only[zaB,LvE,pa,paa,pab,pac,pb,pba,pbb,pbc,pc,pca,pcb,pcc,and_self]
 rcases ifc h with⟨q,h⟩|⟨_,h⟩
 ·cases h;simp only[zaB,LvE,pa,paa,pab,pac,pb,pba,pbb,pbc,pc,pca,pcb,pcc,and_self]
 ·cases h
theorem com_lv{op:Int}{w:Int}(pa:P a)(h:comT op w a=some e):LvE P e:=by
 obtain⟨paa,pab,pac⟩:=hP _ pa;unfold comT at h;rcases ifc h with⟨q,h⟩|⟨_,h⟩
 ·cases h;simp only[zaB,LvE,pa,paa,pab,pac,and_self]
 rcases ifc h with⟨q,h⟩|⟨_,h⟩
 ·cases h;simp only[zaB,LvE,pa,paa,pab,pac,and_self]
 rcases ifc h with⟨q,h⟩|⟨_,h⟩
 ·cases h;simp only[zaB,LvE,pa,paa,pab,pac,and_self]
 ·cases h
theorem band_lv{op:Int}{w:Int}(pa:P a)(pb:P b)(h:zhy op w a b=some e):LvE P e:=by
 obtain⟨paa,pab,pac⟩:=hP _ pa;obtain⟨pba,pbb,pbc⟩:=hP _ pb;unfold zhy at h;generalize (if op=17 then 0#64 else ones w)=z at h;generalize (if op=17 then ones w else 0#64)=o at h;rcases ifc h with⟨q,h⟩|⟨_,h⟩
 ·cases h;simp only[zaB,LvE,pa,paa,pab,pac,pb,pba,pbb,pbc,and_self]
 rcases ifc h with⟨q,h⟩|⟨_,h⟩
 ·cases h;simp only[zaB,LvE,pa,paa,pab,pac,pb,pba,pbb,pbc,and_self]
 rcases ifc h with⟨q,h⟩|⟨_,h⟩
 ·cases h;simp only[zaB,LvE,pa,paa,pab,pac,pb,pba,pbb,pbc,and_self]
 rcases ifc h with⟨q,h⟩|⟨_,h⟩
 ·cases h;simp only[zaB,LvE,pa,paa,pab,pac,pb,pba,pbb,pbc,and_self]
 ·cases h
theorem bxor_lv{w:Int}(pa:P a)(pb:P b)(h:zhw w a b=some e):LvE P e:=by
 obtain⟨paa,pab,pac⟩:=hP _ pa;obtain⟨pba,pbb,pbc⟩:=hP _ pb;unfold zhw at h;rcases ifc h with⟨q,h⟩|⟨_,h⟩
 ·cases h;simp only[zaB,LvE,pa,paa,pab,pac,pb,pba,pbb,pbc,and_self]
 rcases ifc h with⟨q,h⟩|⟨_,h⟩
 ·cases h;simp only[zaB,LvE,pa,paa,pab,pac,pb,pba,pbb,pbc,and_self]
 rcases ifc h with⟨q,h⟩|⟨_,h⟩
 ·cases h;simp only[zaB,LvE,pa,paa,pab,pac,pb,pba,pbb,pbc,and_self]
 rcases ifc h with⟨q,h⟩|⟨_,h⟩
 ·cases h;simp only[zaB,LvE,pa,paa,pab,pac,pb,pba,pbb,pbc,and_self]
 rcases ifc h with⟨q,h⟩|⟨_,h⟩
 ·cases h;simp only[zaB,LvE,pa,paa,pab,pac,pb,pba,pbb,pbc,and_self]
 rcases ifc h with⟨q,h⟩|⟨_,h⟩
 ·cases h;simp only[zaB,LvE,pa,paa,pab,pac,pb,pba,pbb,pbc,and_self]
 rcases ifc h with⟨q,h⟩|⟨_,h⟩
 ·cases h;simp only[zaB,LvE,pa,paa,pab,pac,pb,pba,pbb,pbc,and_self]
 rcases ifc h with⟨q,h⟩|⟨_,h⟩
 ·cases h;simp only[zaB,LvE,pa,paa,pab,pac,pb,pba,pbb,pbc,and_self]
 rcases ifc h with⟨q,h⟩|⟨_,h⟩
 ·cases h;simp only[zaB,LvE,pa,paa,pab,pac,pb,pba,pbb,pbc,and_self]
 ·cases h
theorem add_lv{w:Int}(pa:P a)(pb:P b)(h:addT w a b=some e):LvE P e:=by
 obtain⟨paa,pab,pac⟩:=hP _ pa;obtain⟨pba,pbb,pbc⟩:=hP _ pb;unfold addT at h;rcases ifc h with⟨q,h⟩|⟨_,h⟩
 ·cases h;simp only[zaB,LvE,pa,paa,pab,pac,pb,pba,pbb,pbc,and_self]
 rcases ifc h with⟨q,h⟩|⟨_,h⟩
 ·cases h;simp only[zaB,LvE,pa,paa,pab,pac,pb,pba,pbb,pbc,and_self]
 rcases ifc h with⟨q,h⟩|⟨_,h⟩
 ·cases h;simp only[zaB,LvE,pa,paa,pab,pac,pb,pba,pbb,pbc,and_self]
 rcases ifc h with⟨q,h⟩|⟨_,h⟩
 ·cases h;simp only[zaB,LvE,pa,paa,pab,pac,pb,pba,pbb,pbc,and_self]
 rcases ifc h with⟨q,h⟩|⟨_,h⟩
 ·cases h;simp only[zaB,LvE,pa,paa,pab,pac,pb,pba,pbb,pbc,and_self]
 rcases ifc h with⟨q,h⟩|⟨_,h⟩
 ·cases h;simp only[zaB,LvE,pa,paa,pab,pac,pb,pba,pbb,pbc,and_self]
 ·cases h
theorem sub_lv{w:Int}(pa:P a)(pb:P b)(h:subT w a b=some e):LvE P e:=by
 obtain⟨paa,pab,pac⟩:=hP _ pa;obtain⟨pba,pbb,pbc⟩:=hP _ pb;unfold subT at h;rcases ifc h with⟨q,h⟩|⟨_,h⟩
 ·cases h;simp only[zaB,LvE,pa,paa,pab,pac,pb,pba,pbb,pbc,and_self]
 rcases ifc h with⟨q,h⟩|⟨_,h⟩
 ·cases h;simp only[zaB,LvE,pa,paa,pab,pac,pb,pba,pbb,pbc,and_self]
 rcases ifc h with⟨q,h⟩|⟨_,h⟩
 ·cases h;simp only[zaB,LvE,pa,paa,pab,pac,pb,pba,pbb,pbc,and_self]
 rcases ifc h with⟨q,h⟩|⟨_,h⟩
 ·cases h;simp only[zaB,LvE,pa,paa,pab,pac,pb,pba,pbb,pbc,and_self]
 rcases ifc h with⟨q,h⟩|⟨_,h⟩
 ·cases h;simp only[zaB,LvE,pa,paa,pab,pac,pb,pba,pbb,pbc,and_self]
 rcases ifc h with⟨q,h⟩|⟨_,h⟩
 ·cases h;simp only[zaB,LvE,pa,paa,pab,pac,pb,pba,pbb,pbc,and_self]
 rcases ifc h with⟨q,h⟩|⟨_,h⟩
 ·cases h;simp only[zaB,LvE,pa,paa,pab,pac,pb,pba,pbb,pbc,and_self]
 ·cases h
theorem mul_lv{op:Int}{w:Int}(pa:P a)(pb:P b)(h:mulT op w a b=some e):LvE P e:=by
 obtain⟨paa,pab,pac⟩:=hP _ pa;obtain⟨pba,pbb,pbc⟩:=hP _ pb;unfold mulT at h;rcases ifc h with⟨q,h⟩|⟨_,h⟩
 ·cases h
 rcases ifc h with⟨q,h⟩|⟨_,h⟩
 ·cases h;simp only[zaB,LvE,pa,paa,pab,pac,pb,pba,pbb,pbc,and_self]
 rcases ifc h with⟨q,h⟩|⟨_,h⟩
 ·cases h;simp only[zaB,LvE,pa,paa,pab,pac,pb,pba,pbb,pbc,and_self]
 rcases ifc h with⟨q,h⟩|⟨_,h⟩
 ·cases h;simp only[zaB,LvE,pa,paa,pab,pac,pb,pba,pbb,pbc,and_self]
 rcases ifc h with⟨q,h⟩|⟨_,h⟩
 ·cases h;simp only[zaB,LvE,pa,paa,pab,pac,pb,pba,pbb,pbc,and_self]
 rcases ifc h with⟨q,h⟩|⟨_,h⟩
 ·cases h;simp only[zaB,LvE,pa,paa,pab,pac,pb,pba,pbb,pbc,and_self]
 rcases ifc h with⟨q,h⟩|⟨_,h⟩
 ·cases h;simp only[zaB,LvE,pa,paa,pab,pac,pb,pba,pbb,pbc,and_self]
 rcases ifc h with⟨q,h⟩|⟨_,h⟩
 ·cases h;simp only[zaB,LvE,pa,paa,pab,pac,pb,pba,pbb,pbc,and_self]
 rcases ifc h with⟨q,h⟩|⟨_,h⟩
 ·cases h;simp only[zaB,LvE,pa,paa,pab,pac,pb,pba,pbb,pbc,and_self]
 ·cases h
theorem shift_lv{op:Int}{w:Int}(pa:P a)(pb:P b)(h:zdJ op w a b=some e):LvE P e:=by
 obtain⟨paa,pab,pac⟩:=hP _ pa;obtain⟨pba,pbb,pbc⟩:=hP _ pb;unfold zdJ at h;rcases ifc h with⟨q,h⟩|⟨_,h⟩
 ·cases h;simp only[zaB,LvE,pa,paa,pab,pac,pb,pba,pbb,pbc,and_self]
 rcases ifc h with⟨q,h⟩|⟨_,h⟩
 ·cases h
 rcases ifc h with⟨q,h⟩|⟨_,h⟩
 ·cases h;simp only[zaB,LvE,pa,paa,pab,pac,pb,pba,pbb,pbc,and_self]
 rcases ifc h with⟨q,h⟩|⟨_,h⟩
 ·cases h;simp only[zaB,LvE,pa,paa,pab,pac,pb,pba,pbb,pbc,and_self]
 rcases ifc h with⟨q,h⟩|⟨_,h⟩
 ·rcases ifc h with⟨_,h⟩|⟨_,h⟩
  ·cases h;simp only[zaB,LvE,pa,paa,pab,pac,pb,pba,pbb,pbc,and_self]
  ·cases h;simp only[zaB,LvE,pa,paa,pab,pac,pb,pba,pbb,pbc,and_self]
 rcases ifc h with⟨q,h⟩|⟨_,h⟩
 ·cases h;simp only[zaB,LvE,pa,paa,pab,pac,pb,pba,pbb,pbc,and_self]
 rcases ifc h with⟨q,h⟩|⟨_,h⟩
 ·cases h;simp only[zaB,LvE,pa,paa,pab,pac,pb,pba,pbb,pbc,and_self]
 ·cases h
theorem cat_lv{w:Int}(pa:P a)(pb:P b)(h:catT w a b=some e):LvE P e:=by
 obtain⟨paa,pab,pac⟩:=hP _ pa;obtain⟨pba,pbb,pbc⟩:=hP _ pb;unfold catT at h;rcases ifc h with⟨q,h⟩|⟨_,h⟩
 ·cases h;simp only[zaB,LvE,pa,paa,pab,pac,pb,pba,pbb,pbc,and_self]
 rcases ifc h with⟨q,h⟩|⟨_,h⟩
 ·cases h;simp only[zaB,LvE,pa,paa,pab,pac,pb,pba,pbb,pbc,and_self]
 ·cases h
theorem slice_lv{w:Int}{num:Int}(pa:P a)(h:zdI w num a=some e):LvE P e:=by
 obtain⟨paa,pab,pac⟩:=hP _ pa;unfold zdI at h;rcases ifc h with⟨q,h⟩|⟨_,h⟩
 ·cases h;simp only[zaB,LvE,pa,paa,pab,pac,and_self]
 rcases ifc h with⟨q,h⟩|⟨_,h⟩
 ·cases h;simp only[zaB,LvE,pa,paa,pab,pac,and_self]
 rcases ifc h with⟨q,h⟩|⟨_,h⟩
 ·cases h;simp only[zaB,LvE,pa,paa,pab,pac,and_self]
 rcases ifc h with⟨q,h⟩|⟨_,h⟩
 ·cases h;simp only[zaB,LvE,pa,paa,pab,pac,and_self]
 rcases ifc h with⟨q,h⟩|⟨_,h⟩
 ·cases h;simp only[zaB,LvE,pa,paa,pab,pac,and_self]
 rcases ifc h with⟨q,h⟩|⟨_,h⟩
 ·cases h;simp only[zaB,LvE,pa,paa,pab,pac,and_self]
 rcases ifc h with⟨q,h⟩|⟨_,h⟩
 ·cases h;simp only[zaB,LvE,pa,paa,pab,pac,and_self]
 ·cases h
theorem ext_lv{op:Int}{w:Int}(pa:P a)(h:extT op w a=some e):LvE P e:=by
 obtain⟨paa,pab,pac⟩:=hP _ pa;unfold extT at h;rcases ifc h with⟨q,h⟩|⟨_,h⟩
 ·cases h;simp only[zaB,LvE,pa,paa,pab,pac,and_self]
 rcases ifc h with⟨q,h⟩|⟨_,h⟩
 ·cases h;simp only[zaB,LvE,pa,paa,pab,pac,and_self]
 rcases ifc h with⟨q,h⟩|⟨_,h⟩
 ·cases h;simp only[zaB,LvE,pa,paa,pab,pac,and_self]
 rcases ifc h with⟨q,h⟩|⟨_,h⟩
 ·cases h;simp only[zaB,LvE,pa,paa,pab,pac,and_self]
 ·cases h
theorem word_lv{op w:Int}(pa:P a)(pb:P b)(h:zfj op w a b=some e):LvE P e:=by
 unfold zfj at h;rcases ifc h with⟨q,h⟩|⟨_,h⟩
 ·cases h;trivial
 rcases ifc h with⟨q,h⟩|⟨_,h⟩
 ·cases h;exact⟨pb,pa⟩
 rcases ifc h with⟨q,h⟩|⟨_,h⟩
 ·exact band_lv hP pa pb h
 rcases ifc h with⟨q,h⟩|⟨_,h⟩
 ·exact bxor_lv hP pa pb h
 rcases ifc h with⟨q,h⟩|⟨_,h⟩
 ·exact add_lv hP pa pb h
 rcases ifc h with⟨q,h⟩|⟨_,h⟩
 ·exact sub_lv hP pa pb h
 rcases ifc h with⟨q,h⟩|⟨_,h⟩
 ·exact mul_lv hP pa pb h
 rcases ifc h with⟨q,h⟩|⟨_,h⟩
 ·exact cat_lv hP pa pb h
 exact shift_lv hP pa pb h
theorem rule_lv{t:Tr}(pa:P t.a)(pb:P t.b)(pc:P t.c)(h:zcS t=some e):LvE P e:=by
 cases t with
 |z=>cases h
 |nd op w num s a b c=>
  have h:zfk op w num a b c=some e:=h;have pa:P a:=pa;have pb:P b:=pb;have pc:P c:=pc;unfold zfk at h;rcases ifc h with⟨q,h⟩|⟨_,h⟩
  ·cases h
  rcases ifc h with⟨q,h⟩|⟨_,h⟩
  ·exact not_lv hP pa h
  rcases ifc h with⟨q,h⟩|⟨_,h⟩
  ·exact and_lv hP pa pb h
  rcases ifc h with⟨q,h⟩|⟨_,h⟩
  ·exact xor_lv hP pa pb h
  rcases ifc h with⟨q,h⟩|⟨_,h⟩
  ·exact eq_lv hP pa pb h
  rcases ifc h with⟨q,h⟩|⟨_,h⟩
  ·exact less_lv hP pa pb h
  rcases ifc h with⟨q,h⟩|⟨_,h⟩
  ·exact ite_lv hP pa pb pc h
  rcases ifc h with⟨q,h⟩|⟨_,h⟩
  ·exact com_lv hP pa h
  rcases ifc h with⟨q,h⟩|⟨_,h⟩
  ·exact word_lv hP pa pb h
  rcases ifc h with⟨q,h⟩|⟨_,h⟩
  ·exact slice_lv hP pa h
  exact ext_lv hP pa h
end
theorem zpr{a b:Tr}{e:Ex}{op w:Int}(ho:17≤op)(da:DF a)(db:DF b)(h:zfj op w a b=some e):dpE e≤1+max a.dep b.dep:=by
 unfold zfj at h;rcases ifc h with⟨q,h⟩|⟨_,h⟩
 ·cases h;rw[zao];omega
 rcases ifc h with⟨q,h⟩|⟨_,h⟩
 ·cases h;rw[zap,zan,zan];omega
 rcases ifc h with⟨q,h⟩|⟨_,h⟩
 ·exact band_dep ho da db h
 rcases ifc h with⟨q,h⟩|⟨_,h⟩
 ·exact bxor_dep da db h
 rcases ifc h with⟨q,h⟩|⟨_,h⟩
 ·exact add_dep da db h
 rcases ifc h with⟨q,h⟩|⟨_,h⟩
 ·exact sub_dep da db h
 rcases ifc h with⟨q,h⟩|⟨_,h⟩
 ·exact mul_dep da db h
 rcases ifc h with⟨q,h⟩|⟨_,h⟩
 ·exact cat_dep da db h
 exact shift_dep da db h
theorem rule_dep{t:Tr}(h:WS t){e:Ex}(hr:zcS t=some e):dpE e≤t.dep:=by
 cases h with
 |tru b=>rw[zhf (by rw[zpt];cases b<;>decide)]at hr;cases hr
 |con w x _ _=>rw[zhf (by rw[zd5];decide)]at hr;cases hr
 |var s w _ _ _=>rw[zhf (by show (4:Int)<5;decide)]at hr;cases hr
 |not h1 h2=>rw[dep_un5];exact not_dep (.of h1) hr
 |tbin op o1 o2 h1 h2 h3 h4=>
  rw[zks o1];by_cases h8:op=8
  ·subst h8;exact xor_dep (.of h1) (.of h2) hr
  ·rw[r_and (by omega)]at hr;have:=and_dep (.of h1) (.of h2) hr;omega
 |eq h1 h2 h3=>rw[zks (by decide)];exact eq_dep (.of h1) (.of h2) hr
 |cmp op o1 o2 h1 h2 h3 h4=>rw[zks (by omega)];rw[zpJ (by omega)]at hr;exact less_dep (.of h1) (.of h2) hr
 |ite h1 h2 h3 h4 h5=>rw[dep_ite];exact ite_dep (.of h1) (.of h2) (.of h3) hr
 |un op o1 o2 h1 h2=>rw[dep_un (by omega)];rw[r_com (by omega)]at hr;exact com_dep (by omega) (.of h1) hr
 |wbin op o1 o2 h1 h2 h3 h4 h5=>rw[zks (by omega)];rw[zic (by omega),if_neg (by omega)]at hr;exact zpr (by omega) (.of h1) (.of h2) hr
 |cat h1 h2 h3 h4 h5=>rw[zks (by decide)];rw[zic (by omega),if_pos rfl]at hr;exact zpr (by omega) (.of h1) (.of h2) hr
 |slice i n h1 h2 h3 h4=>rw[dep_sl];exact slice_dep (.of h1) hr
 |ext op w o1 o2 h1 h2 h3 h4=>rw[dep_ext (by omega)];rw[r_ext (by omega)]at hr;exact ext_dep (by omega) (.of h1) hr
theorem zbo{α β:Type}{x:Option α}{f:α→Option β}{r:β}(h:x.bind f=some r):∃y,x=some y∧f y=some r:=by
 cases x with
 |none=>cases h
 |some y=>exact⟨y,rfl,h⟩
theorem zbK{α β:Type}{x:Option α}{f:α→β}{r:β}(h:x.map f=some r):∃y,x=some y∧f y=r:=by
 cases x with
 |none=>cases h
 |some y=>exact⟨y,rfl,Option.some.inj h⟩
theorem ex_ind{s:Tr→Option (Tr×Nat)}(hs:∀t r,WS t→s t=some r→WS r.1∧r.1.w=t.w){Q:Ex→Tr→Prop}(old:∀t,WS t→Q (.old t) t)(tru:∀b,Q (.tru b) (tTru b))(con:∀w x,1≤w→w≤64→Q (.con w x) (tCon w x))
  (un:∀op e a r,Q e a→WS (tUn op a)→s (tUn op a)=some r→Q (.un op e) r.1) (bin:∀op e f a b r,Q e a→Q f b→WS (tBin op a b)→s (tBin op a b)=some r→Q (.bin op e f) r.1)
  (ite:∀e f g c a b r,Q e c→Q f a→Q g b→WS (tIte c a b)→s (tIte c a b)=some r→Q (.ite e f g) r.1) (slice:∀e a i n r,Q e a→WS (tSl a i n)→s (tSl a i n)=some r→Q (.slice e i n) r.1)
  (ext:∀op e a w r,Q e a→WS (tExt op a w)→s (tExt op a w)=some r→Q (.ext op e w) r.1) {e:Ex} {w:Int} (h:EW e w):∀r,exF s e=some r→Q e r.1:=by
 have ws:=fun {e:Ex} {w:Int} (h:EW e w)=>zo5 hs h;induction h with
 |old h1 h2=>intro r hr;cases hr;exact old _ h1
 |tru b=>intro r hr;cases hr;exact tru b
 |con x h1 h2 h3=>intro r hr;cases hr;exact con _ x h1 h2
 |not he ih=>
  intro r hr;obtain⟨a,a1,hr⟩:=zbo hr;obtain⟨t,t1,rfl⟩:=zbK hr;obtain⟨g1,g2⟩:=ws he a a1;exact un 5 _ _ t (ih a a1) (.not g1 g2) t1
 |un op o1 o2 hw he ih=>
  intro r hr;obtain⟨a,a1,hr⟩:=zbo hr;obtain⟨t,t1,rfl⟩:=zbK hr;obtain⟨g1,g2⟩:=ws he a a1;exact un op _ _ t (ih a a1) (.un op o1 o2 g1 (by omega)) t1
 |tbin op o1 o2 he hf ih1 ih2=>
  intro r hr;obtain⟨a,a1,hr⟩:=zbo hr;obtain⟨b,b2,hr⟩:=zbo hr;obtain⟨t,t1,rfl⟩:=zbK hr;obtain⟨g1,g2⟩:=ws he a a1;obtain⟨g3,g4⟩:=ws hf b b2;exact bin op _ _ _ _ t (ih1 a a1) (ih2 b b2) (.tbin op o1 o2 g1 g3 g2 g4) t1
 |eq he hf ih1 ih2=>
  intro r hr;obtain⟨a,a1,hr⟩:=zbo hr;obtain⟨b,b2,hr⟩:=zbo hr;obtain⟨t,t1,rfl⟩:=zbK hr;obtain⟨g1,g2⟩:=ws he a a1;obtain⟨g3,g4⟩:=ws hf b b2;exact bin 9 _ _ _ _ t (ih1 a a1) (ih2 b b2) (.eq g1 g3 (by omega)) t1
 |cmp op o1 o2 hw he hf ih1 ih2=>
  intro r hr;obtain⟨a,a1,hr⟩:=zbo hr;obtain⟨b,b2,hr⟩:=zbo hr;obtain⟨t,t1,rfl⟩:=zbK hr;obtain⟨g1,g2⟩:=ws he a a1;obtain⟨g3,g4⟩:=ws hf b b2;exact bin op _ _ _ _ t (ih1 a a1) (ih2 b b2) (.cmp op o1 o2 g1 g3 (by omega) (by omega)) t1
 |ite he hf hg ih1 ih2 ih3=>
  intro r hr;obtain⟨a,a1,hr⟩:=zbo hr;obtain⟨b,b2,hr⟩:=zbo hr;obtain⟨c,c2,hr⟩:=zbo hr;obtain⟨t,t1,rfl⟩:=zbK hr;obtain⟨g1,g2⟩:=ws he a a1;obtain⟨g3,g4⟩:=ws hf b b2;obtain⟨g5,g6⟩:=ws hg c c2;exact ite _ _ _ _ _ _ t (ih1 a a1) (ih2 b b2) (ih3 c c2) (.ite g1 g3 g5 g2 (by omega)) t1
 |wbin op o1 o2 hw hp he hf ih1 ih2=>
  intro r hr;obtain⟨a,a1,hr⟩:=zbo hr;obtain⟨b,b2,hr⟩:=zbo hr;obtain⟨t,t1,rfl⟩:=zbK hr;obtain⟨g1,g2⟩:=ws he a a1;obtain⟨g3,g4⟩:=ws hf b b2;exact bin op _ _ _ _ t (ih1 a a1) (ih2 b b2) (.wbin op o1 o2 g1 g3 (by omega) (by omega) (by rw[g2];exact hp)) t1
 |slice i n he h0 h1 h2 h3 ih=>
  intro r hr;obtain⟨a,a1,hr⟩:=zbo hr;obtain⟨t,t1,rfl⟩:=zbK hr;obtain⟨g1,g2⟩:=ws he a a1;exact slice _ _ _ _ t (ih a a1) (.slice i n g1 h0 h1 (by omega)) t1
 |ext op n o1 o2 he h1 h2 h3 h4 ih=>
  intro r hr;obtain⟨a,a1,hr⟩:=zbo hr;obtain⟨t,t1,rfl⟩:=zbK hr;obtain⟨g1,g2⟩:=ws he a a1;exact ext op _ _ _ t (ih a a1) (.ext op n o1 o2 g1 (by omega) (by omega) h3) t1
theorem zeH{k:Nat}{t:Tr}{r:Tr×Nat}(h:simF (k+1) t=some r):(zcS t=none∧r=(t,3))∨∃e x,zcS t=some e∧exF (simF k) e=some x∧r=(x.1,x.2+2):=by
 unfold simF at h;cases hq:zcS t with
 |none=>rw[hq]at h;cases h;exact .inl ⟨rfl,rfl⟩
 |some e=>
  rw[hq]at h;obtain⟨x,x1,rfl⟩:=zbK h;exact .inr ⟨e,x,rfl,x1,rfl⟩
theorem un_dep(op:Int)(a:Tr):(tUn op a).dep≤(if op≤5 then 0 else 1)+a.dep:=by show (if op≤5 then 0 else 1)+max a.dep (max 0 0)≤_;omega
theorem bin_dep(op:Int)(a b:Tr):(tBin op a b).dep≤1+max a.dep b.dep:=by show (if op≤5 then 0 else 1)+max a.dep (max b.dep 0)≤_;split<;>omega
theorem sim_dep:∀(k:Nat) (t:Tr) (r:Tr×Nat),WS t→simF k t=some r→r.1.dep≤t.dep
 |0,t,r,h,hr=>by cases hr
 |k+1,t,r,h,hr=>by
  rcases zeH hr with⟨_,rfl⟩|⟨e,x,he,hx,rfl⟩
  ·exact Nat.le_refl _
  have ih:=sim_dep k;refine Nat.le_trans ?_ (rule_dep h he);exact ex_ind (zgg k) (Q:=fun e t=>t.dep≤dpE e) (fun t _=>Nat.le_refl _) (fun b=>by cases b<;>exact Nat.le_refl _) (fun w x _ _=>Nat.le_refl _)
   (fun op e a r q hw hr=>by
    have h1:=ih _ _ hw hr;have h2:=un_dep op a;show _≤(if op≤5 then 0 else 1)+dpE e
    omega)
   (fun op e f a b r q1 q2 hw hr=>by
    have h1:=ih _ _ hw hr;have h2:=bin_dep op a b;show _≤1+max (dpE e) (dpE f)
    omega)
   (fun e f g c a b r q1 q2 q3 hw hr=>by
    have h1:=ih _ _ hw hr;rw[dep_ite]at h1;show _≤1+max (dpE e) (max (dpE f) (dpE g))
    omega)
   (fun e a i n r q hw hr=>by
    have h1:=ih _ _ hw hr;rw[dep_sl]at h1;show _≤1+dpE e
    omega)
   (fun op e a w r q hw hr=>by
    have h1:=ih _ _ hw hr;have h2:(tExt op a w).dep≤1+a.dep:=by show (if op≤5 then 0 else 1)+max a.dep (max 0 0)≤_;split<;>omega
    show _≤1+dpE e
    omega) (zhF h he) x hx
structure DownP(P:Tr→Prop):Prop where
 down:∀t,P t→P t.a∧P t.b∧P t.c
 z:P .z
 tru:∀b,P (tTru b)
 con:∀w x,P (tCon w x)
 node:∀t,WS t→P t.a→P t.b→P t.c→zcS t=none→P t
theorem zpy{P:Tr→Prop}(hP:DownP P):∀(k:Nat) (t:Tr) (r:Tr×Nat),WS t→P t.a→P t.b→P t.c→simF k t=some r→P r.1
 |0,t,r,h,_,_,_,hr=>by cases hr
 |k+1,t,r,h,pa,pb,pc,hr=>by
  rcases zeH hr with⟨hn,rfl⟩|⟨e,x,he,hx,rfl⟩
  ·exact hP.node t h pa pb pc hn
  have ih:=zpy hP k;refine ex_ind (zgg k) (Q:=fun e t=>LvE P e→P t) (fun t _ q=>q) (fun b _=>hP.tru b) (fun w x _ _ _=>hP.con w x)
   (fun op e a r q hw hr l=>ih _ _ hw (q l) hP.z hP.z hr)
   (fun op e f a b r q1 q2 hw hr l=>ih _ _ hw (q1 l.1) (q2 l.2) hP.z hr)
   (fun e f g c a b r q1 q2 q3 hw hr l=>ih _ _ hw (q1 l.1) (q2 l.2.1) (q3 l.2.2) hr)
   (fun e a i n r q hw hr l=>ih _ _ hw (q l) hP.z hP.z hr)
   (fun op e a w r q hw hr l=>ih _ _ hw (q l) hP.z hP.z hr) (zhF h he) x hx (rule_lv hP.down pa pb pc he)
def Nrm:Tr→Prop
 |.z=>True
 |.nd op w num s a b c=>zcS (.nd op w num s a b c)=none∧Nrm a∧Nrm b∧Nrm c
theorem Nrm.rule{t:Tr}(h:Nrm t):zcS t=none:=by
 cases t with
 |z=>rfl
 |nd op w num s a b c=>exact h.1
theorem nrm_down:DownP Nrm:=by
 refine⟨fun t h=>?_,trivial,fun b=>?_,fun w x=>⟨zhf (by show (3:Int)<5;decide),trivial,trivial,trivial⟩,fun t _ ha hb hc hr=>?_⟩
 ·cases t with
  |z=>exact⟨trivial,trivial,trivial⟩
  |nd op w num s a b c=>exact⟨h.2.1,h.2.2.1,h.2.2.2⟩
 ·cases b<;>exact⟨zhf (by decide),trivial,trivial,trivial⟩
 ·cases t with
  |z=>trivial
  |nd op w num s a b c=>exact⟨hr,ha,hb,hc⟩
theorem zjh{k:Nat}{t:Tr}(h:zcS t=none):simF (k+1) t=some (t,3):=by unfold simF;rw[h]
theorem zlW:∀(k:Nat) (t:Tr) (r:Tr×Nat),simF k t=some r→∀j,k≤j→simF j t=some r
 |0,t,r,h,j,_=>by cases h
 |k+1,t,r,h,j,hj=>by
  obtain⟨i,rfl⟩:∃i,j=i+1:=⟨j-1,by omega⟩
  have ih:=fun t r h=>zlW k t r h i (by omega);have bm:∀(e:Ex) (x:Tr×Nat),exF (simF k) e=some x→exF (simF i) e=some x:=by
   intro e;induction e with
   |old t=>exact fun x h=>h
   |tru b=>exact fun x h=>h
   |con w y=>exact fun x h=>h
   |un op a iha=>
    intro x h;obtain⟨a,a1,h⟩:=zbo h;obtain⟨t,t1,rfl⟩:=zbK h;show (exF (simF i) _).bind _=_;rw[iha a a1];show (simF i _).map _=_;rw[ih _ _ t1];rfl
   |bin op a b iha ihb=>
    intro x h;obtain⟨a,a1,h⟩:=zbo h;obtain⟨b,b1,h⟩:=zbo h;obtain⟨t,t1,rfl⟩:=zbK h;show (exF (simF i) _).bind _=_;rw[iha a a1];show (exF (simF i) _).bind _=_;rw[ihb b b1];show (simF i _).map _=_;rw[ih _ _ t1];rfl
   |ite c a b ihc iha ihb=>
    intro x h;obtain⟨c,c1,h⟩:=zbo h;obtain⟨a,a1,h⟩:=zbo h;obtain⟨b,b1,h⟩:=zbo h;obtain⟨t,t1,rfl⟩:=zbK h;show (exF (simF i) _).bind _=_;rw[ihc c c1];show (exF (simF i) _).bind _=_;rw[iha a a1];show (exF (simF i) _).bind _=_;rw[ihb b b1];show (simF i _).map _=_;rw[ih _ _ t1];rfl
   |slice a j n iha=>
    intro x h;obtain⟨a,a1,h⟩:=zbo h;obtain⟨t,t1,rfl⟩:=zbK h;show (exF (simF i) _).bind _=_;rw[iha a a1];show (simF i _).map _=_;rw[ih _ _ t1];rfl
   |ext op a w iha=>
    intro x h;obtain⟨a,a1,h⟩:=zbo h;obtain⟨t,t1,rfl⟩:=zbK h;show (exF (simF i) _).bind _=_;rw[iha a a1];show (simF i _).map _=_;rw[ih _ _ t1];rfl
  rcases zeH h with⟨hn,rfl⟩|⟨e,x,he,hx,rfl⟩
  ·exact zjh hn
  ·unfold simF;rw[he];dsimp only;rw[bm e x hx];rfl
theorem zpw{k j:Nat}{t:Tr}{r q:Tr×Nat}(h:simF k t=some r)(h2:simF j t=some q):r=q:=by have a:=zlW k t r h (max k j) (Nat.le_max_left _ _);have b:=zlW j t q h2 (max k j) (Nat.le_max_right _ _);rw[a]at b;exact Option.some.inj b
end Go.AM.N14
namespace Go.AM.N14
open List Go Go.AM
theorem zpQ{op:Int}(h:1≤op∧op≤4):zax op=0:=by unfold zax;rw[if_pos (by omega)]
theorem zlb{op:Int}(h:op=5∨op=15∨op=16∨op=31∨op=32∨op=33):zax op=1:=by unfold zax;rw[if_neg (by omega),if_pos h]
theorem zgj{op:Int}(h:6≤op∧op≤13∨17≤op∧op≤30):zax op=2:=by unfold zax;rw[if_neg (by omega),if_neg (by omega),if_neg (by omega)]
theorem parts3:zax 14=3:=by decide
theorem name_e{n:Nd}(h:zhV n=false):n.name=⟨#[]⟩:=by
 unfold zhV at h;have e2:n.name.toList=(⟨#[]⟩:ByteArray).toList:=by simpa using h
 have e3:n.name.data.toList=[]:=by rw[←ByteArray.toList_eq,e2,ByteArray.toList_eq]
 generalize n.name=s at e3;obtain⟨⟨l⟩⟩:=s;have e3:l=[]:=e3;rw[e3]
theorem named_e{n:Nd}(h:n.name=⟨#[]⟩):zhV n=false:=by unfold zhV;rw[h];simp
theorem tCon_of{w num:Int}(h1:1≤w)(h2:w≤64)(hn:0≤num∧num<18446744073709551616)(ht:zgZ w num=num):(.nd 3 w num ⟨#[]⟩ .z .z .z:Tr)=tCon w (BitVec.ofInt 64 num):=by
 unfold tCon;have e:((BitVec.ofInt 64 num).toNat:Int)=num:=by rw[BitVec.toNat_ofInt];have:(num%((2^64:Nat):Int))=num:=Int.emod_eq_of_lt hn.1 (by have:=hn.2;omega);rw[this];omega
 have hw:((w.toNat:Nat):Int)=w:=by omega
 have:=zgY (n:=w.toNat) (by omega) (by omega) (BitVec.ofInt 64 num);rw[hw,e,ht]at this;rw[←this]
theorem trim_con{w:Int}(h1:1≤w)(h2:w≤64)(x:W64):zgZ w ((x&&&msk w.toNat).toNat:Int)=((x&&&msk w.toNat).toNat:Int):=by
 have hw:((w.toNat:Nat):Int)=w:=by omega
 have:=zgY (n:=w.toNat) (by omega) (by omega) (x&&&msk w.toNat);rw[hw]at this;rw[this,BitVec.and_assoc,BitVec.and_self]
theorem tr_w{L:List Nd}(hd:Dag L){t:Nat}(h:1≤t∧t≤L.length):(tr L t).w=(zaJ L t).w:=by rw[zcm hd h.1 (zaS h)];rfl
theorem tr_op{L:List Nd}(hd:Dag L){t:Nat}(h:1≤t∧t≤L.length):(tr L t).op=(zaJ L t).op:=by rw[zcm hd h.1 (zaS h)];rfl
theorem tr_num{L:List Nd}(hd:Dag L){t:Nat}(h:1≤t∧t≤L.length):(tr L t).num=(zaJ L t).num:=by rw[zcm hd h.1 (zaS h)];rfl
theorem tr_a{L:List Nd}(hd:Dag L){t:Nat}(h:1≤t∧t≤L.length):(tr L t).a=tr L (zaJ L t).a.toNat:=by rw[zcm hd h.1 (zaS h)];rfl
theorem tr_b{L:List Nd}(hd:Dag L){t:Nat}(h:1≤t∧t≤L.length):(tr L t).b=tr L (zaJ L t).b.toNat:=by rw[zcm hd h.1 (zaS h)];rfl
theorem tr_c{L:List Nd}(hd:Dag L){t:Nat}(h:1≤t∧t≤L.length):(tr L t).c=tr L (zaJ L t).c.toNat:=by rw[zcm hd h.1 (zaS h)];rfl
theorem zmO{L:List Nd}(hd:Dag L){x:Int}(hx:isT L x=true)(d:Int):wT L d x=(tr L x.toNat).w:=by
 obtain⟨x1,x2⟩:=zbv.1 hx;have hb:1≤x.toNat∧x.toNat≤L.length:=by omega
 have e:=wT_eq hb d;rw[show ((x.toNat:Nat):Int)=x by omega]at e;rw[e,tr_w hd hb]
theorem node_ws{L:List Nd}{K:List (ByteArray×Int)}(hd:Dag L){n:Nd}(hg:∀x,(x=n.a∨x=n.b∨x=n.c)→isT L x=true→WS (tr L x.toNat))(hr:zed L K n)(hnum:ziT n):WS (trN n (tr L n.a.toNat) (tr L n.b.toNat) (tr L n.c.toNat)):=by
 obtain⟨hop,hw,hpt,hsp,hso,hwi,hnm⟩:=hr;have wt:=fun {x:Int} hx=>zmO hd (x:=x) hx (-1);have pA:zax n.op≥1→isT L n.a=true:=fun q=>by
  cases e:isT L n.a with
  |true=>rfl
  |false=>exact absurd (by unfold zbh;simp[q,e]) hpt
 have pB:zax n.op≥2→isT L n.b=true:=fun q=>by
  cases e:isT L n.b with
  |true=>rfl
  |false=>exact absurd (by unfold zbh;simp[q,e]) hpt
 have pC:zax n.op≥3→isT L n.c=true:=fun q=>by
  cases e:isT L n.c with
  |true=>rfl
  |false=>exact absurd (by unfold zbh;simp[q,e]) hpt
 have gA:=fun q=>hg _ (.inl rfl) (pA q);have gB:=fun q=>hg _ (.inr (.inl rfl)) (pB q);have gC:=fun q=>hg _ (.inr (.inr rfl)) (pC q);have wA:=fun q=>wt (pA q);have wB:=fun q=>wt (pB q);have wC:=fun q=>wt (pC q);unfold zdq at hsp;simp only[Bool.or_eq_true,Bool.and_eq_true,decide_eq_true_eq,not_or,not_and,Decidable.not_not]at hsp;obtain⟨⟨⟨⟨sA,sB⟩,sC⟩,sN⟩,sS⟩:=hsp
 have name:n.op≠4→n.name=⟨#[]⟩:=fun h4=>name_e (by
  cases q:zhV n with
  |false=>rfl
  |true=>exact absurd (sS q) h4)
 have num0:n.op≠3→n.op≠31→n.num=0:=fun h3 h31=>Decidable.not_not.1 fun q=>h31 (sN ⟨q,h3⟩);have so:zcg n.op (wT L (-1) n.a) (wT L (-1) n.b) (wT L (-1) n.c)=true:=by simpa using hso
 have wi:zcf n (wT L (-1) n.a) (wT L (-1) n.b)=true:=by simpa using hwi
 clear hso hwi hpt;obtain⟨op,w,a,b,c,num,nm⟩:=n;dsimp only at *;have hnum:0≤num∧num<18446744073709551616:=hnum;have zA:zax op<1→tr L a.toNat=.z:=fun q=>by rw[sA q];rfl
 have zB:zax op<2→tr L b.toNat=.z:=fun q=>by rw[sB q];rfl
 have zC:zax op<3→tr L c.toNat=.z:=fun q=>by rw[sC q];rfl
 show WS (.nd op w num nm (tr L a.toNat) (tr L b.toNat) (tr L c.toNat));unfold zcf at wi;dsimp only at wi;unfold zcg at so;by_cases h4:op≤4
 ·have hp:=zpQ (op:=op) (by omega);rw[zA (by omega),zB (by omega),zC (by omega)];by_cases h2:op=1∨op=2
  ·rw[if_pos (by omega)]at wi;have hw0:w=0:=of_decide_eq_true wi;rw[num0 (by omega) (by omega),name (by omega),hw0];rcases h2 with h|h
   ·subst h;exact .tru true
   ·subst h;exact .tru false
  rw[if_neg (by omega)]at wi;by_cases h3:op=3
  ·subst h3;rw[if_pos rfl]at wi;simp only[Bool.and_eq_true,decide_eq_true_eq]at wi;rw[name (by decide),tCon_of (by omega) (by omega) hnum wi.2];exact .con _ _ (by omega) (by omega)
  have h4:op=4:=by omega
  subst h4;rw[num0 (by decide) (by decide)];refine .var _ _ (by omega) (by omega) ?_;cases q:zep nm with
  |true=>rfl
  |false=>exact absurd ⟨rfl,by unfold zbr;rw[q];rfl⟩ hnm
 rw[if_neg (by
  rcases zbJ op with q|q|q|q
  ·unfold zax at q;split at q
   ·omega
   ·split at q
    ·omega
    ·split at q<;>omega
  all_goals omega)]at so
 rw[name (by omega)];by_cases h5:op=5
 ·subst h5;have hp:=zlb (op:=5) (.inl rfl);rw[if_pos rfl,wA (by omega)]at so;rw[if_pos (by omega)]at wi;rw[zB (by omega),zC (by omega),num0 (by decide) (by decide),show w=0 from of_decide_eq_true wi];exact .not (gA (by omega)) (of_decide_eq_true so)
 rw[if_neg h5]at so;by_cases h8:op=6∨op=7∨op=8
 ·have hp:=zgj (op:=op) (by omega);rw[if_pos h8,wA (by omega),wB (by omega)]at so;simp only[Bool.and_eq_true,decide_eq_true_eq]at so;rw[if_pos (by omega)]at wi;rw[zC (by omega),num0 (by omega) (by omega),show w=0 from of_decide_eq_true wi];have:=WS.tbin op (by omega) (by omega) (gA (by omega)) (gB (by omega)) so.1 so.2;unfold tBin at this;rw[if_pos (by omega)]at this;exact this
 rw[if_neg h8]at so;by_cases h9:op=9
 ·subst h9;have hp:=zgj (op:=9) (by omega);rw[if_pos rfl,wA (by omega),wB (by omega)]at so;rw[if_pos (by omega)]at wi;rw[zC (by omega),num0 (by omega) (by omega),show w=0 from of_decide_eq_true wi];exact .eq (gA (by omega)) (gB (by omega)) (of_decide_eq_true so)
 rw[if_neg h9]at so;by_cases h14:op=14
 ·subst h14;have hp:=parts3;rw[if_pos rfl,wA (by omega),wB (by omega),wC (by omega)]at so;simp only[Bool.and_eq_true,decide_eq_true_eq]at so;rw[if_neg (by omega),if_neg (by omega),if_neg (by omega),if_pos rfl,wB (by omega)]at wi;rw[num0 (by omega) (by omega),show w=_ from of_decide_eq_true wi];exact .ite (gA (by omega)) (gB (by omega)) (gC (by omega)) so.1 so.2
 rw[if_neg h14]at so;by_cases h30:op=30
 ·subst h30;have hp:=zgj (op:=30) (by omega);rw[if_pos rfl,wA (by omega),wB (by omega)]at so;simp only[Bool.and_eq_true,decide_eq_true_eq]at so;rw[if_neg (by omega),if_neg (by omega),if_neg (by omega),if_neg (by omega),if_neg (by omega),if_pos rfl,wA (by omega),wB (by omega)]at wi;have hwe:w=_:=of_decide_eq_true wi;rw[zC (by omega),num0 (by omega) (by omega),hwe];exact .cat (gA (by omega)) (gB (by omega)) (by omega) (by omega) (by omega)
 rw[if_neg h30]at so;by_cases h13:op≤13
 ·have hp:=zgj (op:=op) (by omega);rw[if_neg (by omega),wA (by omega),wB (by omega)]at so;simp only[Bool.and_eq_true,decide_eq_true_eq]at so;rw[if_pos (by omega)]at wi;rw[zC (by omega),num0 (by omega) (by omega),show w=0 from of_decide_eq_true wi];have:=WS.cmp op (by omega) (by omega) (gA (by omega)) (gB (by omega)) (by omega) so.2;unfold tBin at this;rw[if_pos (by omega)]at this;exact this
 rw[if_neg (by omega),if_neg (by omega),if_neg (by omega),if_neg (by omega)]at wi;by_cases h29:17≤op∧op≤29
 ·have hp:=zgj (op:=op) (by omega);rw[if_neg (by omega),wA (by omega),wB (by omega)]at so;simp only[Bool.and_eq_true,decide_eq_true_eq]at so;have hwe:w=(tr L a.toNat).w∧(25≤op→zfm (tr L a.toNat).w=true):=by
   by_cases h25:25≤op∧op≤29
   ·rw[if_pos h25,wA (by omega)]at wi;simp only[Bool.and_eq_true,decide_eq_true_eq]at wi;exact⟨wi.1,fun _=>wi.2⟩
   ·rw[if_neg h25,if_neg (by omega),if_neg (by omega),if_neg (by omega),wA (by omega)]at wi;exact⟨of_decide_eq_true wi,fun _=>by omega⟩
  rw[zC (by omega),num0 (by omega) (by omega),hwe.1];have:=WS.wbin op h29.1 h29.2 (gA (by omega)) (gB (by omega)) (by omega) so.2 hwe.2;unfold tBin at this;rw[if_neg (by omega),if_neg (by omega)]at this;exact this
 rw[if_neg (by omega),if_neg h30]at wi;have hp:=zlb (op:=op) (by omega);rw[if_pos hp,wA (by omega)]at so;have ha1:(tr L a.toNat).w>0:=of_decide_eq_true so;rw[zB (by omega),zC (by omega)];by_cases h31:op=31
 ·subst h31;rw[if_pos rfl,wA (by omega)]at wi;simp only[Bool.and_eq_true,decide_eq_true_eq]at wi;exact .slice num w (gA (by omega)) hnum.1 (by omega) (by omega)
 rw[if_neg h31]at wi;rw[num0 (by omega) h31];by_cases h32:op=32∨op=33
 ·rw[if_pos h32,wA (by omega)]at wi;have hwi:w≥_:=of_decide_eq_true wi;exact .ext op w (by omega) (by omega) (gA (by omega)) (by omega) hwi (by omega)
 rw[if_neg h32,wA (by omega)]at wi;have:=WS.un op (by omega) (by omega) (gA (by omega)) (by omega);unfold tUn at this;rw[if_neg h5]at this;rw[show w=_ from of_decide_eq_true wi];exact this
theorem zh2{L:List Nd}{K:List (ByteArray×Int)}(hg:zb8 L K):∀t,1≤t→t≤L.length→WS (tr L t):=by
 intro t;induction t using Nat.strongRecOn with
 |_ t ih=>
  intro h1 h2;have hn:=zaS (L:=L) ⟨h1,h2⟩;have da:=hg.dag.a _ _ hn;have db:=hg.dag.b _ _ hn;have dc:=hg.dag.c _ _ hn;rw[zcm hg.dag h1 hn];refine node_ws hg.dag (fun x hx hT=>?_) (hg.rt _ (mem_of_getElem? hn)) (hg.num _ (mem_of_getElem? hn));obtain⟨x1,x2⟩:=zbv.1 hT;have:x≤(t-1:Nat):=by rcases hx with rfl|rfl|rfl<;>omega
  exact ih x.toNat (by omega) (by omega) (by omega)
end Go.AM.N14
namespace Go.AM.N14
open Go Go.AM
theorem zb7{L:List Nd}{K:List (ByteArray×Int)}{n:Nd}(hop:1≤n.op∧n.op≤33)(hw:0≤n.w∧n.w≤64)(pa:zax n.op≥1→isT L n.a=true)(pb:zax n.op≥2→isT L n.b=true)(pc:zax n.op≥3→isT L n.c=true)
  (za:zax n.op<1→n.a=0) (zb:zax n.op<2→n.b=0) (zc:zax n.op<3→n.c=0) (num0:n.num≠0→n.op=3∨n.op=31) (nm:n.name=⟨#[]⟩) (h4:n.op≠4)
  (so:zcg n.op (wT L (-1) n.a) (wT L (-1) n.b) (wT L (-1) n.c)=true) (wi:zcf n (wT L (-1) n.a) (wT L (-1) n.b)=true):zed L K n:=by
 refine⟨by omega,by omega,fun q=>?_,fun q=>?_,(fun q=>by rw[so]at q;cases q),(fun q=>by rw[wi]at q;cases q),fun q=>h4 q.1⟩
 ·unfold zbh at q;simp only[Bool.or_eq_true,Bool.and_eq_true,decide_eq_true_eq,Bool.not_eq_true']at q;rcases q with (⟨q1,q2⟩|⟨q1,q2⟩)|⟨q1,q2⟩
  ·rw[pa q1]at q2;cases q2
  ·rw[pb q1]at q2;cases q2
  ·rw[pc q1]at q2;cases q2
 ·unfold zdq at q;simp only[Bool.or_eq_true,Bool.and_eq_true,decide_eq_true_eq]at q;rcases q with (((⟨q1,q2⟩|⟨q1,q2⟩)|⟨q1,q2⟩)|q)|q
  ·exact q2 (za q1)
  ·exact q2 (zb q1)
  ·exact q2 (zc q1)
  ·have:=num0 q.1.1;omega
  ·rw[named_e nm]at q;cases q.1
section
variable {L:List Nd}{K:List (ByteArray×Int)}(hd:Dag L){n:Nd}(ra:0≤n.a∧n.a≤L.length)(rb:0≤n.b∧n.b≤L.length)(rc:0≤n.c∧n.c≤L.length)
include hd ra rb rc
theorem ziW(h4:n.op≠4)(h:WS (trN n (tr L n.a.toNat) (tr L n.b.toNat) (tr L n.c.toNat))):zed L K n∧ziT n:=by
 have tz:∀x:Int,0≤x→x≤L.length→tr L x.toNat=.z→x=0:=fun x h0 h1 e=>by
  by_cases hx:x=0
  ·exact hx
  ·exact absurd e (zoi hd (by omega) (by omega))
 have ti:∀x:Int,0≤x→x≤L.length→WS (tr L x.toNat)→isT L x=true∧wT L (-1) x=(tr L x.toNat).w:=fun x h0 h1 e=>by
  have hx:x≠0:=fun q=>by subst q;exact e.nz rfl
  have hT:isT L x=true:=zbv.2 ⟨by omega,by omega⟩;exact⟨hT,zmO hd hT (-1)⟩
 have za:=tz n.a ra.1 ra.2;have zb:=tz n.b rb.1 rb.2;have zc:=tz n.c rc.1 rc.2;have ia:=ti n.a ra.1 ra.2;have ib:=ti n.b rb.1 rb.2;have ic:=ti n.c rc.1 rc.2;have zw:∀{x:Int},x=0→wT L (-1) x=-1:=fun h=>by subst h;rfl
 have hw64:=h.w;generalize hT:trN n (tr L n.a.toNat) (tr L n.b.toNat) (tr L n.c.toNat)=T at h;have n0:ziT n∨n.num=0→ziT n:=fun q=>q.elim id fun q=>⟨by omega,by omega⟩
 have hwn:0≤n.w∧n.w≤64:=hw64;clear tz ti hw64;obtain⟨op,w,a,b,c,num,nm⟩:=n;unfold trN at hT;dsimp only at *;have hn0:num=0→ziT ⟨op,w,a,b,c,num,nm⟩:=fun q=>n0 (.inr q);cases h with
 |tru x=>
  cases x
  ·injection hT with e1 e2 e3 e4 e5 e6 e7;have e1:op=2:=e1;subst e1 e2 e3 e4;have hp:=zpQ (op:=2) (by decide);exact⟨zb7 (by dsimp only;omega) (by dsimp only;omega) (fun q=>by dsimp only at q;omega) (fun q=>by dsimp only at q;omega) (fun q=>by dsimp only at q;omega) (fun _=>za e5) (fun _=>zb e6) (fun _=>zc e7) (fun q=>absurd rfl q) rfl (by dsimp only;omega) rfl rfl,hn0 rfl⟩
  ·injection hT with e1 e2 e3 e4 e5 e6 e7;have e1:op=1:=e1;subst e1 e2 e3 e4;have hp:=zpQ (op:=1) (by decide);exact⟨zb7 (by dsimp only;omega) (by dsimp only;omega) (fun q=>by dsimp only at q;omega) (fun q=>by dsimp only at q;omega) (fun q=>by dsimp only at q;omega) (fun _=>za e5) (fun _=>zb e6) (fun _=>zc e7) (fun q=>absurd rfl q) rfl (by dsimp only;omega) rfl rfl,hn0 rfl⟩
 |con v x h1 h2=>
  injection hT with e1 e2 e3 e4 e5 e6 e7;subst e1 e2 e4;have hp:=zpQ (op:=3) (by decide);refine⟨zb7 (by dsimp only;omega) hwn (fun q=>by dsimp only at q;omega) (fun q=>by dsimp only at q;omega) (fun q=>by dsimp only at q;omega) (fun _=>za e5) (fun _=>zb e6) (fun _=>zc e7) (fun q=>.inl rfl) rfl (by dsimp only;omega) rfl ?_,?_⟩
  ·show (decide (w>0)&&decide (zgZ w num=num))=true;rw[e3,trim_con h1 h2];simp only[decide_true,Bool.and_true];exact decide_eq_true (by omega)
  ·show 0≤num∧num<18446744073709551616;rw[e3];have:=(x&&&msk w.toNat).isLt;omega
 |var s v _ _ _=>
  injection hT with e1;exact absurd e1 h4
 |not h1 h2=>
  injection hT with e1 e2 e3 e4 e5 e6 e7;rw[←e5]at h1 h2;subst e1 e2 e3 e4;have hp:=zlb (op:=5) (by decide);obtain⟨i1,i2⟩:=ia h1;refine⟨zb7 (by dsimp only;omega) (by dsimp only;omega) (fun _=>i1) (fun q=>by dsimp only at q;omega) (fun q=>by dsimp only at q;omega) (fun q=>by dsimp only at q;omega) (fun _=>zb e6) (fun _=>zc e7) (fun q=>absurd rfl q) rfl (by dsimp only;omega) ?_ rfl,hn0 rfl⟩;show decide (wT L (-1) a=0)=true;rw[i2,h2];rfl
 |tbin o o1 o2 h1 h2 h3 h5=>
  injection hT with e1 e2 e3 e4 e5 e6 e7;rw[←e5]at h1 h3;rw[←e6]at h2 h5;rw[if_pos (by omega)]at e2;subst e1 e2 e3 e4;have hp:=zgj (op:=op) (by omega);obtain⟨i1,i2⟩:=ia h1;obtain⟨j1,j2⟩:=ib h2;refine⟨zb7 (by dsimp only;omega) (by dsimp only;omega) (fun _=>i1) (fun _=>j1) (fun q=>by dsimp only at q;omega) (fun q=>by dsimp only at q;omega) (fun q=>by dsimp only at q;omega) (fun _=>zc e7) (fun q=>absurd rfl q) rfl h4 ?_ ?_,hn0 rfl⟩
  ·dsimp only;unfold zcg;rw[if_neg (by omega),if_neg (by omega),if_pos (by omega),i2,j2,h3,h5];rfl
  ·unfold zcf;dsimp only;rw[if_pos (by omega)];rfl
 |eq h1 h2 h3=>
  injection hT with e1 e2 e3 e4 e5 e6 e7;rw[←e5]at h1 h3;rw[←e6]at h2 h3;rw[if_pos (by decide)]at e2;subst e1 e2 e3 e4;have hp:=zgj (op:=9) (by decide);obtain⟨i1,i2⟩:=ia h1;obtain⟨j1,j2⟩:=ib h2;refine⟨zb7 (by dsimp only;omega) (by dsimp only;omega) (fun _=>i1) (fun _=>j1) (fun q=>by dsimp only at q;omega) (fun q=>by dsimp only at q;omega) (fun q=>by dsimp only at q;omega) (fun _=>zc e7) (fun q=>absurd rfl q) rfl (by dsimp only;omega) ?_ rfl,hn0 rfl⟩;show decide (wT L (-1) a=wT L (-1) b)=true;rw[i2,j2,h3];exact decide_eq_true rfl
 |cmp o o1 o2 h1 h2 h3 h5=>
  injection hT with e1 e2 e3 e4 e5 e6 e7;rw[←e5]at h1 h3 h5;rw[←e6]at h2 h5;rw[if_pos (by omega)]at e2;subst e1 e2 e3 e4;have hp:=zgj (op:=op) (by omega);obtain⟨i1,i2⟩:=ia h1;obtain⟨j1,j2⟩:=ib h2;refine⟨zb7 (by dsimp only;omega) (by dsimp only;omega) (fun _=>i1) (fun _=>j1) (fun q=>by dsimp only at q;omega) (fun q=>by dsimp only at q;omega) (fun q=>by dsimp only at q;omega) (fun _=>zc e7) (fun q=>absurd rfl q) rfl h4 ?_ ?_,hn0 rfl⟩
  ·dsimp only;unfold zcg;rw[if_neg (by omega),if_neg (by omega),if_neg (by omega),if_neg (by omega),if_neg (by omega),if_neg (by omega),if_neg (by omega),i2,j2,decide_eq_true (by omega),decide_eq_true h5];rfl
  ·unfold zcf;dsimp only;rw[if_pos (by omega)];rfl
 |ite h1 h2 h3 h5 h6=>
  injection hT with e1 e2 e3 e4 e5 e6 e7;rw[←e5]at h1 h5;rw[←e6]at h2 h6 e2;rw[←e7]at h3 h6;subst e1 e2 e3 e4;have hp:=parts3;obtain⟨i1,i2⟩:=ia h1;obtain⟨j1,j2⟩:=ib h2;obtain⟨l1,l2⟩:=ic h3;refine⟨zb7 (by dsimp only;omega) hwn (fun _=>i1) (fun _=>j1) (fun _=>l1) (fun q=>by dsimp only at q;omega) (fun q=>by dsimp only at q;omega) (fun q=>by dsimp only at q;omega) (fun q=>absurd rfl q) rfl (by dsimp only;omega) ?_ ?_,hn0 rfl⟩
  ·show (decide (wT L (-1) a=0)&&decide (wT L (-1) b=wT L (-1) c))=true;rw[i2,j2,l2,decide_eq_true h5,decide_eq_true h6];rfl
  ·show decide (_=wT L (-1) b)=true;rw[j2];exact decide_eq_true rfl
 |un o o1 o2 h1 h2=>
  injection hT with e1 e2 e3 e4 e5 e6 e7;rw[←e5]at h1 h2 e2;rw[if_neg (by omega)]at e2;subst e1 e2 e3 e4;have hp:=zlb (op:=op) (by omega);obtain⟨i1,i2⟩:=ia h1;refine⟨zb7 (by dsimp only;omega) hwn (fun _=>i1) (fun q=>by dsimp only at q;omega) (fun q=>by dsimp only at q;omega) (fun q=>by dsimp only at q;omega) (fun _=>zb e6) (fun _=>zc e7) (fun q=>absurd rfl q) rfl h4 ?_ ?_,hn0 rfl⟩
  ·dsimp only;unfold zcg;rw[if_neg (by omega),if_neg (by omega),if_neg (by omega),if_neg (by omega),if_neg (by omega),if_neg (by omega),if_pos hp,i2];exact decide_eq_true (by omega)
  ·unfold zcf;dsimp only;rw[if_neg (by omega),if_neg (by omega),if_neg (by omega),if_neg (by omega),if_neg (by omega),if_neg (by omega),if_neg (by omega),if_neg (by omega),i2];exact decide_eq_true rfl
 |wbin o o1 o2 h1 h2 h3 h5 h6=>
  injection hT with e1 e2 e3 e4 e5 e6 e7;rw[←e5]at h1 h3 h5 h6 e2;rw[←e6]at h2 h5;rw[if_neg (by omega),if_neg (by omega)]at e2;subst e1 e2 e3 e4;have hp:=zgj (op:=op) (by omega);obtain⟨i1,i2⟩:=ia h1;obtain⟨j1,j2⟩:=ib h2;refine⟨zb7 (by dsimp only;omega) hwn (fun _=>i1) (fun _=>j1) (fun q=>by dsimp only at q;omega) (fun q=>by dsimp only at q;omega) (fun q=>by dsimp only at q;omega) (fun _=>zc e7) (fun q=>absurd rfl q) rfl h4 ?_ ?_,hn0 rfl⟩
  ·dsimp only;unfold zcg;rw[if_neg (by omega),if_neg (by omega),if_neg (by omega),if_neg (by omega),if_neg (by omega),if_neg (by omega),if_neg (by omega),i2,j2,decide_eq_true (by omega),decide_eq_true h5];rfl
  ·unfold zcf;dsimp only;rw[if_neg (by omega),if_neg (by omega),if_neg (by omega),if_neg (by omega),i2];by_cases h25:25≤op∧op≤29
   ·rw[if_pos h25,decide_eq_true rfl,h6 h25.1];rfl
   ·rw[if_neg h25,if_neg (by omega),if_neg (by omega),if_neg (by omega)];exact decide_eq_true rfl
 |cat h1 h2 h3 h5 h6=>
  injection hT with e1 e2 e3 e4 e5 e6 e7;rw[←e5]at h1 h3 h6 e2;rw[←e6]at h2 h5 h6 e2;have e2:w=_+_:=e2;subst e1 e2 e3 e4;have hp:=zgj (op:=30) (by decide);obtain⟨i1,i2⟩:=ia h1;obtain⟨j1,j2⟩:=ib h2;refine⟨zb7 (by dsimp only;omega) hwn (fun _=>i1) (fun _=>j1) (fun q=>by dsimp only at q;omega) (fun q=>by dsimp only at q;omega) (fun q=>by dsimp only at q;omega) (fun _=>zc e7) (fun q=>absurd rfl q) rfl (by dsimp only;omega) ?_ ?_,hn0 rfl⟩
  ·show (decide (wT L (-1) a>0)&&decide (wT L (-1) b>0))=true;rw[i2,j2,decide_eq_true (by omega),decide_eq_true (by omega)];rfl
  ·show decide (_=wT L (-1) a+wT L (-1) b)=true;rw[i2,j2];exact decide_eq_true rfl
 |slice i v h1 h2 h3 h5=>
  injection hT with e1 e2 e3 e4 e5 e6 e7;rw[←e5]at h1 h5;subst e1 e2 e3 e4;have hp:=zlb (op:=31) (by decide);have hw:=h1.w;obtain⟨i1,i2⟩:=ia h1;refine⟨zb7 (by dsimp only;omega) hwn (fun _=>i1) (fun q=>by dsimp only at q;omega) (fun q=>by dsimp only at q;omega) (fun q=>by dsimp only at q;omega) (fun _=>zb e6) (fun _=>zc e7) (fun q=>.inr rfl) rfl (by dsimp only;omega) ?_ ?_,⟨h2,by show num<_;omega⟩⟩
  ·show decide (wT L (-1) a>0)=true;rw[i2];exact decide_eq_true (by omega)
  ·show (decide (w≥1)&&decide (w≤wT L (-1) a)&&decide (num≤wT L (-1) a-w))=true;rw[i2,decide_eq_true (by omega),decide_eq_true (by omega),decide_eq_true (by omega)];rfl
 |ext o v o1 o2 h1 h2 h3 h5=>
  injection hT with e1 e2 e3 e4 e5 e6 e7;rw[←e5]at h1 h2 h3;subst e1 e2 e3 e4;have hp:=zlb (op:=op) (by omega);obtain⟨i1,i2⟩:=ia h1;refine⟨zb7 (by dsimp only;omega) hwn (fun _=>i1) (fun q=>by dsimp only at q;omega) (fun q=>by dsimp only at q;omega) (fun q=>by dsimp only at q;omega) (fun _=>zb e6) (fun _=>zc e7) (fun q=>absurd rfl q) rfl h4 ?_ ?_,hn0 rfl⟩
  ·dsimp only;unfold zcg;rw[if_neg (by omega),if_neg (by omega),if_neg (by omega),if_neg (by omega),if_neg (by omega),if_neg (by omega),if_pos hp,i2];exact decide_eq_true (by omega)
  ·unfold zcf;dsimp only;rw[if_neg (by omega),if_neg (by omega),if_neg (by omega),if_neg (by omega),if_neg (by omega),if_neg (by omega),if_neg (by omega),if_pos (by omega),i2];exact decide_eq_true h3
end
end Go.AM.N14
namespace Go.AM
open List Go
theorem same36(n:Nd):Instr.sameBits 10000 n.val n.val=true:=by unfold Nd.val Nd.cells;simp only[Instr.sameBits,size_toArray];simp[Instr.sameBits];exact(zq7 n.name n.name).2 rfl
variable {A:Type}
def zgG(enc:A→Value)(l:List (Nd×A)):List (Value×Value):=l.map fun x=>(x.1.val,enc x.2)
def lkN(s:Nd):Nat→List (Nd×A)→Option (Nat×A)
 |_,[]=>none
 |i,(t,v)::r=>if (zdA s t)=true then some (i,v) else lkN s (i+1) r
def MapN(H:Hp)(m:Nat)(enc:A→Value)(F:Nd→Option A):Prop:=∃l,H.get m=some (.map (zgG enc l))∧∀t,F t=(lkN t 0 l).map Prod.snd
theorem findN(enc:A→Value)(s:Nd):∀(l:List (Nd×A)) (i:Nat),zfU PP Af s.val (zgG enc l) i=some ((lkN s i l).map fun q=>(q.1,enc q.2))
 |[],i=>rfl
 |(t,w)::r,i=>by
  show (match eqT PP 10000 Af s.val t.val with|some true=>some (some (i,enc w))|some false=>zfU PP Af s.val (zgG enc r) (i+1)|none=>none)=_;rw[eq36];unfold lkN;cases h:zdA s t with
  |true=>simp
  |false=>
   simp only[Bool.false_eq_true,if_false];exact findN enc s r (i+1)
theorem MapN.lookV{H:Hp}{m:Nat}{enc:A→Value}{F:Nd→Option A}(h:MapN H m enc F)(z:Value)(t:Nd):Go.AM.lookV PP Af z (.map (some m)) t.val H=some (match F t with|some v=>(enc v,true)|none=>(z,false)):=by obtain⟨l,h1,h2⟩:=h;unfold Go.AM.lookV;rw[zji,h2 t];simp only[if_true,zqO,h1,findN];cases lkN t 0 l<;>rfl
theorem MapN.look2{H:Hp}{m:Nat}{enc:A→Value}{F:Nd→Option A}(h:MapN H m enc F)(z:Value)(t:Nd){α:Type}(k:Value→Option α):zc3 PP Af z (.map (some m)) t.val true H k=k (.tuple #[match F t with|some v=>enc v|none=>z,.bool (F t).isSome]):=by unfold zc3;rw[h.lookV];cases F t<;>rfl
theorem zoX(s:Nd):∀(l:List (Nd×A)) (i j:Nat) (w:A),lkN s i l=some (j,w)→i≤j∧l[j-i]?=some (s,w)
 |[],i,j,w,h=>by cases h
 |(t,u)::r,i,j,w,h=>by
  unfold lkN at h;split at h
  ·rename_i e;cases h;have:s=t:=(zch s t).1 e;subst this;exact⟨Nat.le_refl _,by simp⟩
  ·obtain⟨h1,h2⟩:=zoX s r (i+1) j w h;refine⟨by omega,?_⟩;rw[show j-i=(j-(i+1))+1 by omega];simpa using h2
theorem lkN_app(t key:Nd)(v:A):∀(l:List (Nd×A)) (i:Nat),lkN key i l=none→(lkN t i (l++[(key,v)])).map Prod.snd=if (zdA t key)=true then some v else (lkN t i l).map Prod.snd
 |[],i,h=>by
  show (lkN t i [(key,v)]).map Prod.snd=_;unfold lkN lkN;split<;>rfl
 |(u,w)::r,i,h=>by
  unfold lkN at h;split at h
  ·cases h
  ·rename_i ne;show (lkN t i ((u,w)::(r++[(key,v)]))).map Prod.snd=_;unfold lkN;by_cases e:(zdA t u)=true
   ·rw[if_pos e,if_pos e,if_neg (fun q=>ne (by rw[←(zch t key).1 q];exact e))]
   ·rw[if_neg e,if_neg e];exact lkN_app t key v r (i+1) h
theorem lkN_set(t key:Nd)(v:A):∀(l:List (Nd×A)) (i j:Nat) (w:A),lkN key i l=some (j,w)→(lkN t i (l.set (j-i) (key,v))).map Prod.snd=if (zdA t key)=true then some v else (lkN t i l).map Prod.snd
 |[],i,j,w,h=>by cases h
 |(u,x)::r,i,j,w,h=>by
  unfold lkN at h;split at h
  ·rename_i e;cases h;have e:key=u:=(zch key u).1 e;subst e;rw[Nat.sub_self,set_cons_zero];unfold lkN;by_cases q:(zdA t key)=true
   ·rw[if_pos q,if_pos q];rfl
   ·rw[if_neg q,if_neg q,if_neg q]
  ·rename_i ne;have hle:=(zoX key r (i+1) j w h).1;rw[show j-i=(j-(i+1))+1 by omega,set_cons_succ];unfold lkN;by_cases q:(zdA t u)=true
   ·rw[if_pos q,if_pos q,if_neg (fun z=>ne (by rw[←(zch t key).1 z];exact q))]
   ·rw[if_neg q,if_neg q];exact lkN_set t key v r (i+1) j w h
theorem MapN.upd{H:Hp}{m:Nat}{enc:A→Value}{F:Nd→Option A}(h:MapN H m enc F)(key:Nd)(v:A) :
  ∃H',(∀(α:Type) (k:Hp→Option α),pUpd PP Af (.map (some m)) key.val (enc v) H k=k H')∧MapN H' m enc (fun t=>if (zdA t key)=true then some v else F t)∧(∀j,j≠m→H'.get j=H.get j)∧H'.next=H.next:=by
 obtain⟨l,h1,h2⟩:=h;cases hq:lkN key 0 l with
 |none=>
  refine⟨H.set m (some (.map (zgG enc (l++[(key,v)])))),fun α k=>?_,⟨l++[(key,v)],by rw[get_set,if_pos rfl],fun t=>?_⟩,fun j hj=>by rw[get_set,if_neg hj],rfl⟩
  ·have:updV PP Af (.map (some m)) key.val (enc v) H=some (H.set m (some (.map (zgG enc (l++[(key,v)]))))):=by unfold updV;rw[zji];simp only[if_true,h1,findN,hq,Option.map_none];rw[show zgG enc (l++[(key,v)])=zgG enc l++[(key.val,enc v)] by simp[zgG]]
   unfold pUpd;rw[this]
  ·rw[lkN_app t key v l 0 hq];dsimp only;split
   ·rfl
   ·exact h2 t
 |some q=>
  obtain⟨j,w⟩:=q;obtain⟨_,hg⟩:=zoX key l 0 j w hq;rw[Nat.sub_zero]at hg;refine⟨H.set m (some (.map (zgG enc (l.set j (key,v))))),fun α k=>?_,⟨l.set j (key,v),by rw[get_set,if_pos rfl],fun t=>?_⟩,fun j hj=>by rw[get_set,if_neg hj],rfl⟩
  ·have hk1:(zgG enc l)[j]?=some (key.val,enc w):=by unfold zgG;rw[List.getElem?_map,hg];rfl
   have hsb:Instr.sameBits 10000 key.val key.val=true:=same36 key;have:updV PP Af (.map (some m)) key.val (enc v) H=some (H.set m (some (.map (zgG enc (l.set j (key,v)))))):=by unfold updV;rw[zji];simp only[if_true,h1,findN,hq,Option.map_some,hk1,hsb];rw[show zgG enc (l.set j (key,v))=zkR (zgG enc l) j key.val (enc v) by unfold zkR zgG;rw[map_set]]
   unfold pUpd;rw[this]
  ·have:=lkN_set t key v l 0 j w hq;rw[Nat.sub_zero]at this;rw[this];dsimp only;split
   ·rfl
   ·exact h2 t
theorem MapN.new(H:Hp)(enc:A→Value):MapN (H.new (.map [])) H.next enc (fun _=>none):=⟨[],by rw[get_new,if_pos rfl];rfl,fun t=>rfl⟩
theorem MapN.keep{H H':Hp}{m:Nat}{enc:A→Value}{F:Nd→Option A}(h:MapN H m enc F)(hg:H'.get m=H.get m):MapN H' m enc F:=by obtain⟨l,h1,h2⟩:=h;exact⟨l,by rw[hg];exact h1,h2⟩
end Go.AM
namespace Go.AM.N14
open Go Go.AM
section
end
end Go.AM.N14
namespace Go.AM.N14
open List Go Go.AM
theorem zoR{s t:ByteArray}{w:Int}{K:List (ByteArray×Int)}{j:Nat}{v:Int}(h:za6 t 0 (zbm s w K)=some (j,v)):(∃j',za6 t 0 K=some (j',v))∨(t=s∧v=w):=by
 unfold zbm at h;split at h
 ·exact .inl ⟨j,h⟩
 ·exact zlp K 0 j v h
def zpk(L:List Nd)(P:List Nat)(K':List (ByteArray×Int)):Prop:=∀t∈P,(zaJ L t).op=4→zbr K' (zaJ L t)=false
theorem zpk.set{L:List Nd}{K:List (ByteArray×Int)}(hg:zb8 L K){P:List Nat}(hbd:∀t∈P,1≤t∧t≤L.length){K':List (ByteArray×Int)}(h:zpk L P K'){t:Nat}(ht:t∈P)(h4:(zaJ L t).op=4):zpk L P (zbm (zaJ L t).name (zaJ L t).w K'):=fun u hu hu4=>by
 obtain⟨n1,n2⟩:=zi9 (h u hu hu4);refine bad_of n1 fun j v hv=>?_;rcases zoR hv with⟨j',hj⟩|⟨he,hw⟩
 ·exact n2 j' v hj
 ·rw[hw];exact name_w hg (mem_of_getElem? (zaS (hbd t ht))) (mem_of_getElem? (zaS (hbd u hu))) h4 hu4 he.symm
section
end
end Go.AM.N14
namespace Go.AM.N14
open Go Go.AM
section
end
section
end
section
end
theorem zp8{L:List Nd}{K:List (ByteArray×Int)}(h:zb8 L K):∀m∈L,zpj m:=fun m hm=>by
 have hr:=h.rt m hm;have ho:=hr.op;have hw:=hr.w;refine⟨by omega,by omega,h.num m hm,fun h31=>?_,?_⟩
 ·have hwi:=hr.wi;have hle:=wT_le (fun m hm=>good_w h m hm) m.a;unfold zcf at hwi;rw[if_neg (by omega),if_neg (by omega),if_neg (by omega),if_neg (by omega),if_neg (by omega),if_neg (by omega),if_pos h31]at hwi;simp only[Bool.and_eq_false_iff,decide_eq_false_iff_not,not_or,Decidable.not_not]at hwi;omega
 ·by_cases h4:m.op=4
  ·have hb:=hr.nm;cases q:zep m.name with
   |false=>exact absurd ⟨h4,by unfold zbr;rw[q];rfl⟩ hb
   |true=>
    unfold zep at q;simp only[Bool.and_eq_true,decide_eq_true_eq]at q;have:=q.1.1.2;rw[size_list]at this;exact this
  ·have hs:=hr.sp;have hnm:zhV m=false:=by
    cases q:zhV m with
    |false=>rfl
    |true=>
     refine absurd ?_ hs;unfold zdq;rw[q,decide_eq_true h4];simp
   unfold zhV at hnm;have e2:m.name.toList=(⟨#[]⟩:ByteArray).toList:=by simpa using hnm
   rw[←ByteArray.toList_eq,e2,ByteArray.toList_eq];decide
section
end
end Go.AM.N14
namespace Go.AM.N14
open List Go Go.AM
def zow(op:Nat):Value:=
 if op=5 then .func (.func BE) #[] #[] else if op=6∨op=7 then .func (.func AO) #[] #[] else if op=8 then .func (.func BG) #[] #[] else if op=9 then .func (.func BD) #[] #[]
 else if 10≤op∧op≤13 then .func (.func A6) #[] #[] else if op=14 then .func (.func A5) #[] #[] else if op=15∨op=16 then .func (.func BB) #[] #[]
 else if 17≤op∧op≤30 then .func (.func A8) #[] #[] else if op=31 then .func (.func A7) #[] #[] else if op=32∨op=33 then .func (.func AX) #[] #[] else .nilFunc
def zm6:List Value:=(List.range 34).map zow
def mkC(p d:Nat):List Value:=.pointer (some ⟨p,0,none⟩)::(zm6++[.map (some d)])
structure Env where
 m:Nat
 p:Nat
 d:Nat
 f:Nat
 g:Nat
 B:Hp
 F0:Nat→Prop
def trP(L:List Nd)(n:Nd):Tr:=trN n (tr L n.a.toNat) (tr L n.b.toNat) (tr L n.c.toNat)
def PIn(L:List Nd)(n:Nd):Prop:=(0≤n.a∧n.a≤L.length)∧(0≤n.b∧n.b≤L.length)∧(0≤n.c∧n.c≤L.length)
theorem PIn.app{L M:List Nd}{n:Nd}(h:PIn L n):PIn (L++M) n:=by obtain⟨⟨a1,a2⟩,⟨b1,b2⟩,c1,c2⟩:=h;have:(L++M).length=L.length+M.length:=length_append;exact⟨⟨a1,by omega⟩,⟨b1,by omega⟩,c1,by omega⟩
theorem zhB{L M:List Nd}{n:Nd}(hd:Dag L)(hd2:Dag (L++M))(h:PIn L n):trP (L++M) n=trP L n:=by obtain⟨⟨a1,a2⟩,⟨b1,b2⟩,c1,c2⟩:=h;unfold trP;rw[zk4 hd hd2 (by omega),zk4 hd hd2 (by omega),zk4 hd hd2 (by omega)]
def zqn(L:List Nd)(D:Nd→Option Int):Prop:=∀n t,D n=some t→∃(v k:Nat) (r:Tr×Nat),t=(v:Int)∧1≤v∧v≤L.length∧PIn L n∧simF k (trP L n)=some r∧tr L v=r.1
theorem zqn.app{L M:List Nd}{D:Nd→Option Int}(hd:Dag L)(hd2:Dag (L++M))(h:zqn L D):zqn (L++M) D:=fun n t hn=>by obtain⟨v,k,r,h1,h2,h3,h4,h5,h6⟩:=h n t hn;exact⟨v,k,r,h1,h2,by rw[length_append];omega,h4.app,by rw[zhB hd hd2 h4];exact h5,by rw[zk4 hd hd2 h3];exact h6⟩
def encD(z:Int):Value:=.int .i64 z
structure MS(E:Env)(H:Hp)(L:List Nd)(K:List (ByteArray×Int)):Prop where
 next:E.B.next≤H.next
 old:∀j,j<E.B.next→¬E.F0 j→H.get j=E.B.get j
 obj:H.get E.m=some (.cells (mkC E.p E.d) true)
 ml:E.m<H.next
 dl:E.d<H.next
 md:E.m≠E.d
 fd:E.F0 E.d∨E.B.next≤E.d
 st:∃sl,StF H E.p 0 L K sl E.f E.g∧∀j,Foot E.p E.f E.g sl j→(E.F0 j∨E.B.next≤j)∧j≠E.m∧j≠E.d
 done:∃D,MapN H E.d encD D∧zqn L D
 good:zb8 L K
 ok:TabB E.B∧¬E.F0 Au
theorem MS.tab{E:Env}{H:Hp}{L:List Nd}{K:List (ByteArray×Int)}(S:MS E H L K):TabB H:=⟨Nat.lt_of_lt_of_le S.ok.1.lt S.next,by rw[S.old _ S.ok.1.lt S.ok.2];exact S.ok.1.ob⟩
def ndI(L:List Nd)(t:Int):Nd:=if isT L t=true then zaJ L t.toNat else ⟨0,0,0,0,0,0,⟨#[]⟩⟩
theorem zlk{L:List Nd}{t:Int}(hT:isT L t=true):zj6 L t=ndI L t:=by unfold zj6 ndI;obtain⟨h1,h2⟩:=zbv.1 hT;rw[hT,if_pos rfl,if_pos rfl,show (t-1).toNat=t.toNat-1 by omega,zaS (t:=t.toNat) ⟨by omega,by omega⟩];rfl
section
variable {E:Env}{H:Hp}{L:List Nd}{K:List (ByteArray×Int)}(S:MS E H L K)(hL:L.length≤2^40)
include S
theorem MS.l0{α:Type}(k:Value→Option α):zaH 1 false H (.pointer (some ⟨E.m,0,none⟩)) k=k (.pointer (some ⟨E.p,0,none⟩)):=Go.AM.zeh S.obj 0 _ rfl k
theorem MS.l35{α:Type}(k:Value→Option α):zaH 1 false H (.pointer (some ⟨E.m,35,none⟩)) k=k (.map (some E.d)):=Go.AM.zeh S.obj 35 _ rfl k
include hL
theorem zpd(t:Int):RR AC [.pointer (some ⟨E.p,0,none⟩),.int .i64 t] H=some (.tuple #[(ndI L t).val,.int .i64 (if isT L t=true then 0 else 70)],H):=by
 obtain⟨sl,st,_⟩:=S.st;have e10:=Go.AM.c10 st.st (by omega) t;cases hT:isT L t with
 |true=>rw[zlk hT,hT]at e10;exact e10
 |false=>
  have e:zj6 L t=ndI L t:=by unfold zj6 ndI;rw[hT];rfl
  rw[e,hT]at e10;exact e10
theorem c_n(t:Int):RR Ak [.pointer (some ⟨E.m,0,none⟩),.int .i64 t] H=some ((ndI L t).val,H):=by have hr:=zkV E0 rfl (.pointer (some ⟨E.m,0,none⟩)) (.int .i64 t) H;unfold zgp at hr;rw[zbw,zaY,Nat.zero_add,S.l0,zac (zpd S hL t),x01,spl7,zgl,spl7,zgl]at hr;exact hr
theorem c_op(t op:Int):RR Ap [.pointer (some ⟨E.m,0,none⟩),.int .i64 t,.int .i64 op] H=some (.tuple #[(ndI L t).val,.bool (decide ((ndI L t).op=op))],H):=by have hr:=zjI E0 rfl (.pointer (some ⟨E.m,0,none⟩)) (.int .i64 t) (.int .i64 op) H;unfold zfP at hr;rw[zac (c_n S hL t),spl7,zgl,zba,zaD,spl7,zgl]at hr;exact hr
theorem c_k(t:Int):RR At [.pointer (some ⟨E.m,0,none⟩),.int .i64 t] H=some (.tuple #[.int .u64 (ndI L t).num,.bool (decide ((ndI L t).op=3))],H):=by have hr:=zkW E0 rfl (.pointer (some ⟨E.m,0,none⟩)) (.int .i64 t) H;unfold zgq at hr;rw[zac (c_op S hL t 3),x01,spl7,zho]at hr;exact hr
theorem c_with(t op:Int):RR Ay [.pointer (some ⟨E.m,0,none⟩),.int .i64 t,.int .i64 op] H=some (if (ndI L t).op=op then .tuple #[.int .i64 (ndI L t).a,.int .u64 (ndI L (ndI L t).b).num,.bool (decide ((ndI L (ndI L t).b).op=3))] else .tuple #[.int .i64 0,.int .u64 0,.bool false],H):=by
 have hr:=zhQ E0 rfl (.pointer (some ⟨E.m,0,none⟩)) (.int .i64 t) (.int .i64 op) H;unfold zey at hr;rw[zac (c_op S hL t op),x01,spl7,zb0,zag]at hr;by_cases h:(ndI L t).op=op
 ·rw[decide_eq_true h,Bool.not_true,zam,zcl,zac (c_k S hL _),x01,za9]at hr;rw[if_pos h];exact hr
 ·rw[decide_eq_false h,Bool.not_false,zau]at hr;rw[if_neg h];exact hr
end
structure Nx(E:Env)(H':Hp)(L L':List Nd)(K:List (ByteArray×Int))(c:Nat):Prop where
 ms:MS E H' L' K
 pre:∃M,L'=L++M
 len:L'.length≤L.length+c
theorem Nx.refl{E:Env}{H:Hp}{L:List Nd}{K:List (ByteArray×Int)}(S:MS E H L K):Nx E H L L K 0:=⟨S,⟨[],(append_nil _).symm⟩,Nat.le_refl _⟩
theorem Nx.trans{E:Env}{H1 H2:Hp}{L L1 L2:List Nd}{K:List (ByteArray×Int)}{c d:Nat}(h1:Nx E H1 L L1 K c)(h2:Nx E H2 L1 L2 K d):Nx E H2 L L2 K (c+d):=by obtain⟨M1,e1⟩:=h1.pre;obtain⟨M2,e2⟩:=h2.pre;have a:=h1.len;have b:=h2.len;exact⟨h2.ms,⟨M1++M2,by rw[e2,e1,append_assoc]⟩,by omega⟩
theorem Nx.le{E:Env}{H':Hp}{L L':List Nd}{K:List (ByteArray×Int)}{c d:Nat}(h:Nx E H' L L' K c)(hd:c≤d):Nx E H' L L' K d:=⟨h.ms,h.pre,Nat.le_trans h.len (by omega)⟩
structure Tm(L:List Nd)(x:Int)(t:Tr):Prop where
 lo:1≤x
 hi:x≤L.length
 is:tr L x.toNat=t
theorem Tm.app{L M:List Nd}{x:Int}{t:Tr}(hd:Dag L)(hd2:Dag (L++M))(h:Tm L x t):Tm (L++M) x t:=by have:=h.lo;have:=h.hi;exact⟨h.lo,by rw[length_append];omega,by rw[zk4 hd hd2 (by omega)];exact h.is⟩
theorem Nx.tm{E:Env}{H':Hp}{L L':List Nd}{K:List (ByteArray×Int)}{c:Nat}(h:Nx E H' L L' K c)(hd:Dag L){x:Int}{t:Tr}(ht:Tm L x t):Tm L' x t:=by obtain⟨M,e⟩:=h.pre;have hd2:=h.ms.good.dag;rw[e]at hd2 ⊢;exact ht.app hd hd2
theorem Tm.isT{L:List Nd}{x:Int}{t:Tr}(h:Tm L x t):isT L x=true:=zbv.2 ⟨h.lo,h.hi⟩
theorem Tm.bd{L:List Nd}{x:Int}{t:Tr}(h:Tm L x t):1≤x.toNat∧x.toNat≤L.length:=by have:=h.lo;have:=h.hi;omega
theorem Tm.ws{L:List Nd}{K:List (ByteArray×Int)}(hg:zb8 L K){x:Int}{t:Tr}(h:Tm L x t):WS t:=by have:=zh2 hg x.toNat h.bd.1 h.bd.2;rwa [h.is]at this
theorem Tm.nd{L:List Nd}{x:Int}{t:Tr}(h:Tm L x t):ndI L x=zaJ L x.toNat:=by unfold ndI;rw[h.isT,if_pos rfl]
theorem Tm.op{L:List Nd}(hd:Dag L){x:Int}{t:Tr}(h:Tm L x t):(ndI L x).op=t.op:=by rw[h.nd,←tr_op hd h.bd,h.is]
theorem Tm.w{L:List Nd}(hd:Dag L){x:Int}{t:Tr}(h:Tm L x t):(ndI L x).w=t.w:=by rw[h.nd,←tr_w hd h.bd,h.is]
theorem Tm.num{L:List Nd}(hd:Dag L){x:Int}{t:Tr}(h:Tm L x t):(ndI L x).num=t.num:=by rw[h.nd,←tr_num hd h.bd,h.is]
theorem Tm.part{L:List Nd}(hd:Dag L){x:Int}{t:Tr}(h:Tm L x t):tr L (ndI L x).a.toNat=t.a∧tr L (ndI L x).b.toNat=t.b∧tr L (ndI L x).c.toNat=t.c∧PIn L (ndI L x):=by have hb:=h.bd;have hn:=zaS hb;have da:=hd.a _ _ hn;have db:=hd.b _ _ hn;have dc:=hd.c _ _ hn;rw[h.nd];refine⟨by rw[←tr_a hd hb,h.is],by rw[←tr_b hd hb,h.is],by rw[←tr_c hd hb,h.is],⟨by omega,by omega⟩,⟨by omega,by omega⟩,by omega,by omega⟩
theorem Tm.of{L:List Nd}{x:Int}{t:Tr}(hd:Dag L)(h0:0≤x∧x≤L.length)(h:tr L x.toNat=t)(hz:t≠.z):Tm L x t:=by
 refine⟨?_,h0.2,h⟩;by_cases hx:x=0
 ·subst hx;exact absurd h.symm hz
 ·omega
theorem Tm.a{L:List Nd}(hd:Dag L){x:Int}{t:Tr}(h:Tm L x t)(hz:t.a≠.z):Tm L (ndI L x).a t.a:=by obtain⟨h1,_,_,h2,_,_⟩:=h.part hd;exact .of hd h2 h1 hz
theorem Tm.b{L:List Nd}(hd:Dag L){x:Int}{t:Tr}(h:Tm L x t)(hz:t.b≠.z):Tm L (ndI L x).b t.b:=by obtain⟨_,h1,_,_,h2,_⟩:=h.part hd;exact .of hd h2 h1 hz
theorem Tm.c{L:List Nd}(hd:Dag L){x:Int}{t:Tr}(h:Tm L x t)(hz:t.c≠.z):Tm L (ndI L x).c t.c:=by obtain⟨_,_,h1,_,_,h2⟩:=h.part hd;exact .of hd h2 h1 hz
theorem Tm.eq_iff{L:List Nd}{K:List (ByteArray×Int)}(hg:zb8 L K){x y:Int}{s t:Tr}(hx:Tm L x s)(hy:Tm L y t):x=y↔s=t:=by
 constructor
 ·intro h;subst h;rw[←hx.is,←hy.is]
 ·intro h;have:=zk5 hg.dag hg.nod hx.bd.2 hy.bd.2 (by rw[hx.is,hy.is,h]);have:=hx.lo;have:=hy.lo;omega
theorem op_of{L:List Nd}(hd:Dag L){x:Int}{t:Tr}(h0:0≤x∧x≤L.length)(h:tr L x.toNat=t):(ndI L x).op=t.op:=by
 by_cases hz:t=.z
 ·have:x=0:=by
   by_cases hx:x=0
   ·exact hx
   ·exact absurd (h.trans hz) (zoi hd (by omega) (by omega))
  subst this hz;rfl
 ·exact(Tm.of hd h0 h hz).op hd
section
variable {E:Env}{H:Hp}{L:List Nd}{K:List (ByteArray×Int)}(S:MS E H L K)
include S
theorem zmo{fn:FuncId}{args:List Value}{n:Nd}(hD:∀sl,StF H E.p 0 L K sl E.f E.g→Does H E.p 0 sl E.f E.g fn args (mkR 0 L K n))(hr:zed L K n)(hn:ziT n)(h4:n.op≠4) :
  ∃H' L' v,RR fn (.pointer (some ⟨E.p,0,none⟩)::args) H=some (.tuple #[.int .i64 v,.int .i64 0],H')∧Nx E H' L L' K 1∧Tm L' v (trP L n)∧ndI L' v=n:=by
 obtain⟨sl,st,ft⟩:=S.st;obtain⟨H',sl',h1,h2⟩:=hD sl st;obtain⟨e0,v,v1,v2,v3,v4,⟨M,v5⟩,v6⟩:=zp2 (lim:=0) (by decide) hr;have hle:=mk_le (lim:=0) (L:=L) (K:=K) (n:=n);have hK:(mkR 0 L K n).2.2.2=K:=v6.elim id fun q=>absurd q.1 h4;have hg2:zb8 (mkR 0 L K n).2.2.1 (mkR 0 L K n).2.2.2:=zmp hn S.good;have hst:=h2.st;rw[e0,v1]at h1;rw[hK]at hg2 hst;have hfoot:∀j,Foot E.p E.f E.g sl' j→Foot E.p E.f E.g sl j∨H.next≤j:=fun j hj=>h2.foot hj;have hsame:∀j,j<H.next→¬Foot E.p E.f E.g sl j→H'.get j=H.get j:=fun j a b=>h2.same a b;have hnx:=h2.next;generalize (mkR 0 L K n).2.2.1=L' at *;have hn0:=S.next;have hml:=S.ml;have hdl:=S.dl;have hmF:¬Foot E.p E.f E.g sl E.m:=fun q=>(ft _ q).2.1 rfl;have hdF:¬Foot E.p E.f E.g sl E.d:=fun q=>(ft _ q).2.2 rfl;have hnode:zaJ L' v=n:=v4;have hb:1≤v∧v≤L'.length:=⟨v2,v3⟩
 have hd2:=hg2.dag;have hnin:PIn L n:=by
  have key:∀k x,(zax n.op≥k→isT L x=true)→(zax n.op<k→x=0)→0≤x∧x≤L.length:=fun k x h1 h2=>by
   by_cases q:zax n.op≥k
   ·have:=zbv.1 (h1 q);omega
   ·rw[h2 (by omega)];omega
  have hn':=zaS (L:=L') hb;rw[hnode]at hn';have pt:=hr.pt;have sp:=hr.sp;unfold zbh at pt;unfold zdq at sp;simp only[Bool.or_eq_true,Bool.and_eq_true,decide_eq_true_eq,Bool.not_eq_true',not_or,not_and,Bool.not_eq_false,Decidable.not_not]at pt sp;exact⟨key 1 _ pt.1.1 sp.1.1.1.1,key 2 _ pt.1.2 sp.1.1.1.2,key 3 _ pt.2 sp.1.1.2⟩
 have htr:tr L' v=trP L n:=by have hn':=zaS (L:=L') hb;rw[hnode]at hn';rw[zcm hd2 hb.1 hn'];rw[v5]at hd2 ⊢;exact zhB S.good.dag hd2 hnin
 have htm:Tm L' (v:Int) (trP L n):=⟨by omega,by omega,htr⟩
 obtain⟨D,hD1,hD2⟩:=S.done;refine⟨H',L',(v:Int),h1,⟨⟨by omega,fun j hj hf=>?_,?_,by omega,by omega,S.md,S.fd,⟨sl',hst,fun j hj=>?_⟩,⟨D,hD1.keep (hsame _ hdl hdF),?_⟩,hg2,S.ok⟩,⟨M,v5⟩,hle⟩,htm,?_⟩
 ·rw[hsame j (by omega) (fun q=>(ft j q).1.elim hf fun z=>by omega),S.old j hj hf]
 ·rw[hsame _ hml hmF];exact S.obj
 ·rcases hfoot j hj with q|q
  ·exact ft j q
  ·exact⟨.inr (by omega),by omega,by omega⟩
 ·rw[v5]at hd2 ⊢;exact hD2.app S.good.dag hd2
 ·rw[htm.nd];exact hnode
end
end Go.AM.N14
