/- Part of the proof of EvalSplitMeansUptoCardSaid: see the last file.  -/
import Derived.KernelRfl
import Derived.LaidHandle
import Derived.Test.YtcbmccpkhagckaaGreatDoorT1
import Derived.Test.YtcbmccpkhagckaaGreatDoorT2
import Derived.Test.YtcbmccpkhagckaaGreatDoorT3
import Derived.Test.YtcbmccpkhagckaaGreatDoorT4
set_option linter.unusedSimpArgs false
set_option linter.unusedVariables false
set_option linter.unusedSectionVars false
set_option maxRecDepth 100000
namespace Go.AM.N14
open List Go Go.AM
theorem part_kid{L:List Nd}(hd:Dag L){t:Nat}{n:Nd}(hn:L[t-1]?=some n):(n.a≠0→∃u∈kids L t,n.a=(u:Int))∧(n.b≠0→∃u∈kids L t,n.b=(u:Int))∧(n.c≠0→∃u∈kids L t,n.c=(u:Int)):=by
 have hk:kids L t=([n.a,n.b,n.c].take (zai n.op).toNat).map Int.toNat:=by unfold kids;rw[hn];rfl
 have mem:∀(j:Nat) (x:Int),[n.a,n.b,n.c][j]?=some x→(j:Int)<zai n.op→1≤x→∃u∈kids L t,x=(u:Int):=fun j x hj hp hx=>by refine⟨x.toNat,?_,by omega⟩;rw[hk];refine mem_map_of_mem (mem_of_getElem? (i:=j) ?_);rw[List.getElem?_take,if_pos (by omega)];exact hj
 refine⟨fun h=>?_,fun h=>?_,fun h=>?_⟩
 ·rcases hd.a _ _ hn with⟨p,q,r⟩|⟨p,q⟩
  ·exact mem 0 _ rfl (by omega) q
  ·exact absurd q h
 ·rcases hd.b _ _ hn with⟨p,q,r⟩|⟨p,q⟩
  ·exact mem 1 _ rfl (by omega) q
  ·exact absurd q h
 ·rcases hd.c _ _ hn with⟨p,q,r⟩|⟨p,q⟩
  ·exact mem 2 _ rfl (by omega) q
  ·exact absurd q h
theorem zj4{L M:List Nd}{G:ByteArray→W64}(hd:Dag L)(hd2:Dag (L++M)){t:Nat}(h1:1≤t)(h2:t≤L.length):vfn (L++M) G t=vfn L G t:=by
 induction t using Nat.strongRecOn with
 |_ t ih=>
  have hn:L[t-1]?=some (L[t-1]'(by omega)):=List.getElem?_eq_getElem (by omega);generalize L[t-1]'(by omega)=n at hn;have hn2:(L++M)[t-1]?=some n:=by rw[List.getElem?_append_left (by omega)];exact hn
  have da:=hd.a _ _ hn;have db:=hd.b _ _ hn;have dc:=hd.c _ _ hn;have one:∀x:Int,0≤x→x≤(t-1:Nat)→vfn (L++M) G x.toNat=vfn L G x.toNat:=fun x x0 x1=>by
   by_cases hx:x=0
   ·subst hx;rfl
   ·exact ih x.toNat (by omega) (by omega) (by omega)
  have wone:∀x:Int,x≤(t-1:Nat)→wT (L++M) 0 x=wT L 0 x:=fun x x1=>by
   unfold wT;by_cases hx:1≤x
   ·rw[zaT.2 ⟨hx,by rw[length_append];omega⟩,zaT.2 ⟨hx,by omega⟩,if_pos rfl,if_pos rfl,List.getElem?_append_left (by omega)]
   ·have e1:isT (L++M) x=false:=Bool.eq_false_iff.2 fun q=>hx (zaT.1 q).1;have e2:isT L x=false:=Bool.eq_false_iff.2 fun q=>hx (zaT.1 q).1;rw[e1,e2];rfl
  have e1:=zeW hd2 (valF (L++M) G) 0#64 h1 hn2;have e2:=zeW hd (valF L G) 0#64 h1 hn;have o1:=one n.a (by omega) (by omega);have o2:=one n.b (by omega) (by omega);have o3:=one n.c (by omega) (by omega);unfold vfn at o1 o2 o3 ⊢;rw[e1,e2,o1,o2,o3];unfold valF;rw[wone n.a (by omega),wone n.b (by omega)]
structure MadeM(L:List Nd)(f' f:ByteArray→W64)(s:RS)(t:Nat):Prop where
 ex:∃v:Nat,s.2.2 (t:Int)=(v:Int)∧1≤v∧v≤s.1.length∧(zat s.1 v).w=(zat L t).w∧vfn s.1 f v=vfn L f' t
theorem wT_eq{L:List Nd}{t:Nat}(h:1≤t∧t≤L.length)(d:Int):wT L d (t:Int)=(zat L t).w:=by unfold wT;rw[zaT.2 ⟨by omega,by omega⟩,if_pos rfl,show ((t:Int)-1).toNat=t-1 by omega,zcK h];rfl
theorem zfc{L:List Nd}{t:Nat}{n:Nd}(h:L[t-1]?=some n):zat L t=n:=by unfold zat;rw[h];rfl
theorem zf7{L M:List Nd}{t:Nat}(h:1≤t∧t≤L.length):zat (L++M) t=zat L t:=zfc (by rw[List.getElem?_append_left (by omega)];exact zcK h)
theorem right_map{L L':List Nd}{K K':List (ByteArray×Int)}{tm:Int→Int}{n:Nd}(hr:zgP L K n)
  (ha:n.a=0∨(isT L' (tm n.a)=true∧∀d,wT L' d (tm n.a)=wT L d n.a)) (hb:n.b=0∨(isT L' (tm n.b)=true∧∀d,wT L' d (tm n.b)=wT L d n.b)) (hc:n.c=0∨(isT L' (tm n.c)=true∧∀d,wT L' d (tm n.c)=wT L d n.c)) (hk:n.op=4→zbs K' n=false)
  (da:zai n.op≥1→n.a≠0) (db:zai n.op≥2→n.b≠0) (dc:zai n.op≥3→n.c≠0):zgP L' K' (mapN tm n):=by
 have w0:∀x:Int,(x=0∨(isT L' (tm x)=true∧∀d,wT L' d (tm x)=wT L d x))→∀d,wT L' d (mapP tm x)=wT L d x:=fun x hx d=>by
  unfold mapP;rcases hx with rfl|⟨h1,h2⟩
  ·rfl
  ·by_cases h0:x=0
   ·rw[if_pos h0,h0];rfl
   ·rw[if_neg h0,h2]
 have i0:∀x:Int,(x=0∨(isT L' (tm x)=true∧∀d,wT L' d (tm x)=wT L d x))→x≠0→isT L' (mapP tm x)=true:=fun x hx h0=>by unfold mapP;rw[if_neg h0];exact(hx.resolve_left h0).1
 have hbn:zbs K' (mapN tm n)=zbs K' n:=rfl;refine⟨hr.op,hr.w,?_,?_,?_,?_,fun q=>by have:=hk q.1;rw[hbn,this]at q;cases q.2⟩
 ·intro q;unfold zbN at q;simp only[Bool.or_eq_true,Bool.and_eq_true,decide_eq_true_eq,Bool.not_eq_true']at q;rcases q with (⟨q1,q2⟩|⟨q1,q2⟩)|⟨q1,q2⟩
  ·rw[show (mapN tm n).a=mapP tm n.a from rfl,i0 n.a ha (da q1)]at q2;cases q2
  ·rw[show (mapN tm n).b=mapP tm n.b from rfl,i0 n.b hb (db q1)]at q2;cases q2
  ·rw[show (mapN tm n).c=mapP tm n.c from rfl,i0 n.c hc (dc q1)]at q2;cases q2
 ·intro q;refine hr.sp ?_;unfold zeC at q ⊢;simp only[Bool.or_eq_true,Bool.and_eq_true,decide_eq_true_eq]at q ⊢;have z:∀x:Int,mapP tm x≠0→x≠0:=fun x hx e=>hx (by unfold mapP;rw[if_pos e]);rcases q with (((⟨q1,q2⟩|⟨q1,q2⟩)|⟨q1,q2⟩)|q)|q
  ·exact .inl (.inl (.inl (.inl ⟨q1,z _ q2⟩)))
  ·exact .inl (.inl (.inl (.inr ⟨q1,z _ q2⟩)))
  ·exact .inl (.inl (.inr ⟨q1,z _ q2⟩))
  ·exact .inl (.inr q)
  ·exact .inr q
 ·show ¬zby n.op (wT _ (-1) (mapP tm n.a)) (wT _ (-1) (mapP tm n.b)) (wT _ (-1) (mapP tm n.c))=false;rw[w0 _ ha,w0 _ hb,w0 _ hc];exact hr.so
 ·show ¬zbM (mapN tm n) (wT _ (-1) (mapP tm n.a)) (wT _ (-1) (mapP tm n.b))=false;rw[w0 _ ha,w0 _ hb];exact hr.wi
theorem mk_right{lim:Int}(hlim:lim≤0){L:List Nd}{K:List (ByteArray×Int)}{n:Nd}(hr:zgP L K n):(mkR lim L K n).2.1=0∧∃v:Nat,(mkR lim L K n).1=(v:Int)∧1≤v∧v≤(mkR lim L K n).2.2.1.length∧zat (mkR lim L K n).2.2.1 v=n∧(∃M,(mkR lim L K n).2.2.1=L++M)∧((mkR lim L K n).2.2.2=K∨n.op=4∧(mkR lim L K n).2.2.2=zbO n.name n.w K):=by
 have he:¬zd4 L K n≠0:=fun q=>q (zfY.2 hr);unfold mkR;rw[if_neg he];cases hp:zbu n 0 L with
 |some q=>
  obtain⟨_,hq⟩:=zdH n L 0 q hp;rw[Nat.sub_zero]at hq;have:=(List.getElem?_eq_some_iff.1 hq).1;exact⟨rfl,q+1,rfl,by omega,by show q+1≤L.length;omega,zfc hq,⟨[],(append_nil _).symm⟩,.inl rfl⟩
 |none=>
  dsimp only;rw[if_neg (by omega)];refine⟨rfl,L.length+1,rfl,by omega,by show _≤(L++[n]).length;simp,zfc ?_,⟨[n],rfl⟩,?_⟩
  ·show (L++[n])[L.length+1-1]?=some n;rw[Nat.add_sub_cancel,List.getElem?_append_right (Nat.le_refl _),Nat.sub_self];rfl
  ·show (if n.op=4 then zbO n.name n.w K else K)=K∨n.op=4∧(if n.op=4 then zbO n.name n.w K else K)=zbO n.name n.w K;by_cases h4:n.op=4
   ·rw[if_pos h4];exact .inr ⟨h4,rfl⟩
   ·rw[if_neg h4];exact .inl rfl
section
variable {lim:Int}(hlim:lim≤0){always:Bool}{leaf:Nd→Int}{L L0:List Nd}{K K0:List (ByteArray×Int)}(hg:zb6 L K){f f':ByteArray→W64}{P:List Nat}(hbd:∀t∈P,1≤t∧t≤L.length)(hcl:zdf L P)
 {KI:List (ByteArray×Int)→Prop}(hKs:∀K',KI K'→∀t∈P,(zat L t).op=4→leaf (zat L t)=0→zbs K' (zat L t)=false∧KI (zbO (zat L t).name (zat L t).w K'))
 (hal:always=false→∃M,L0=L++M)(hd0:Dag L0)
 (hlf:∀t∈P,(zat L t).op=4→leaf (zat L t)≠0→∃v:Nat,leaf (zat L t)=(v:Int)∧1≤v∧v≤L0.length∧(zat L0 v).w=(zat L t).w∧vfn L0 f v=f' (zat L t).name)
 (hnm:∀t∈P,(zat L t).op=4→leaf (zat L t)=0→f (zat L t).name=f' (zat L t).name)
include hlim hg hbd hcl hKs hal hd0 hlf hnm
theorem rem_mean1{i t:Nat}(ht:P[i]?=some t){s:RS}(hs:zb6 s.1 s.2.1)(hp:∃M,s.1=L0++M)(hk:KI s.2.1)(hm:∀u∈P.take i,MadeM L f' f s u) :
  (zbq lim always leaf (t:Int) (zat L t) s).1=0∧zb6 (zbq lim always leaf (t:Int) (zat L t) s).2.1 (zbq lim always leaf (t:Int) (zat L t) s).2.2.1∧(∃M,(zbq lim always leaf (t:Int) (zat L t) s).2.1=s.1++M)∧KI (zbq lim always leaf (t:Int) (zat L t) s).2.2.1 ∧
   (∀u:Int,u≠(t:Int)→(zbq lim always leaf (t:Int) (zat L t) s).2.2.2 u=s.2.2 u)∧MadeM L f' f (zbq lim always leaf (t:Int) (zat L t) s).2 t:=by
 have htm:=mem_of_getElem? ht;have hb:=hbd t htm;have hn:=zcK hb;have hcl:=hcl i t ht;have hlf:=hlf t htm;have hnm:=hnm t htm;have hKs:=fun K' h=>hKs K' h t htm;have hrt:=hg.rt _ (mem_of_getElem? hn);have hnum:=hg.num _ (mem_of_getElem? hn);have hval:vfn L f' t=_:=zeW hg.dag (valF L f') 0#64 hb.1 hn;obtain⟨ka,kb,kc⟩:=part_kid hg.dag hn;have da:=hg.dag.a _ _ hn;have db:=hg.dag.b _ _ hn;have dc:=hg.dag.c _ _ hn;obtain⟨M0,hM0⟩:=hp;have upd:∀(x y:Int),updI s.2.2 x y x=y:=fun x y=>if_pos rfl;have upd2:∀(x y u:Int),u≠x→updI s.2.2 x y u=s.2.2 u:=fun x y u h=>if_neg h;have part:∀x:Int,(x≠0→∃u∈kids L t,x=(u:Int))→x=0∨(isT s.1 (s.2.2 x)=true∧(∀d,wT s.1 d (s.2.2 x)=wT L d x)∧vfn s.1 f (s.2.2 x).toNat=vfn L f' x.toNat):=fun x hx=>by
  by_cases h0:x=0
  ·exact .inl h0
  ·obtain⟨u,hu,rfl⟩:=hx h0;have hup:=hcl u hu;obtain⟨v,v1,v2,v3,v4,v5⟩:=(hm u hup).ex;have hub:=hbd u (mem_of_mem_take hup);refine .inr ⟨by rw[v1];exact zaT.2 ⟨by omega,by omega⟩,fun d=>by rw[v1,wT_eq ⟨v2,v3⟩,wT_eq hub,v4],by rw[v1];exact v5⟩
 have pa:=part _ ka;have pb:=part _ kb;have pc:=part _ kc;have mv:∀x:Int,(x=0∨(isT s.1 (s.2.2 x)=true∧(∀d,wT s.1 d (s.2.2 x)=wT L d x)∧vfn s.1 f (s.2.2 x).toNat=vfn L f' x.toNat))→vfn s.1 f (mapP s.2.2 x).toNat=vfn L f' x.toNat:=fun x hx=>by
  unfold mapP;rcases hx with rfl|⟨_,_,h⟩
  ·rfl
  ·by_cases h0:x=0
   ·rw[if_pos h0,h0];rfl
   ·rw[if_neg h0];exact h
 have mw:∀x:Int,(x=0∨(isT s.1 (s.2.2 x)=true∧(∀d,wT s.1 d (s.2.2 x)=wT L d x)∧vfn s.1 f (s.2.2 x).toNat=vfn L f' x.toNat))→wT s.1 0 (mapP s.2.2 x)=wT L 0 x:=fun x hx=>by
  unfold mapP;rcases hx with rfl|⟨_,h,_⟩
  ·rfl
  ·by_cases h0:x=0
   ·rw[if_pos h0,h0];rfl
   ·rw[if_neg h0];exact h 0
 have pl:∀x:Int,(x=0∨(isT s.1 (s.2.2 x)=true∧(∀d,wT s.1 d (s.2.2 x)=wT L d x)∧vfn s.1 f (s.2.2 x).toNat=vfn L f' x.toNat))→0≤mapP s.2.2 x∧mapP s.2.2 x≤s.1.length:=fun x hx=>by
  unfold mapP;rcases hx with rfl|⟨h,_⟩
  ·exact⟨Int.le_refl _,by rw[if_pos rfl];omega⟩
  ·by_cases h0:x=0
   ·rw[if_pos h0];omega
   ·rw[if_neg h0];have:=zaT.1 h;omega
 generalize hN:zat L t=n at *;unfold zbq;by_cases h4:n.op=4∧leaf n≠0
 ·rw[if_pos h4];obtain⟨v,v1,v2,v3,v4,v5⟩:=hlf h4.1 h4.2;refine⟨rfl,hs,⟨[],(append_nil _).symm⟩,hk,fun u hu=>upd2 _ _ u hu,⟨v,by show updI _ _ _ _=_;rw[upd,v1],v2,by show v≤s.1.length;rw[hM0,length_append];omega,?_,?_⟩⟩
  ·show (zat s.1 v).w=_;rw[hM0,zf7 ⟨v2,v3⟩,hN];exact v4
  ·show vfn s.1 f v=_;have hds:=hs.dag;rw[hM0]at hds ⊢;rw[zj4 hd0 hds v2 v3,v5,hval];unfold valF;rw[if_pos h4.1]
 ·rw[if_neg h4];have hop4:n.op=4→leaf n=0:=fun h=>Decidable.not_not.1 fun q=>h4 ⟨h,q⟩;by_cases hmv:(always||movN s.2.2 n)=true
  ·rw[if_pos hmv];have hR:zgP s.1 s.2.1 (mapN s.2.2 n):=right_map hrt (pa.imp id fun h=>⟨h.1,h.2.1⟩) (pb.imp id fun h=>⟨h.1,h.2.1⟩) (pc.imp id fun h=>⟨h.1,h.2.1⟩) (fun h=>(hKs _ hk h (hop4 h)).1) (fun h=>by omega) (fun h=>by omega) (fun h=>by omega);obtain⟨e0,v,v1,v2,v3,v4,⟨M,v5⟩,v6⟩:=mk_right hlim hR;have hg2:zb6 (mkR lim s.1 s.2.1 (mapN s.2.2 n)).2.2.1 (mkR lim s.1 s.2.1 (mapN s.2.2 n)).2.2.2:=zhz (show zgt (mapN s.2.2 n) from hnum) hs;refine⟨e0,hg2,⟨M,v5⟩,?_,fun u hu=>upd2 _ _ u hu,⟨v,by show updI _ _ _ _=_;rw[upd,v1],v2,v3,?_,?_⟩⟩
   ·rcases v6 with v6|⟨h4',v6⟩
    ·show KI (mkR lim s.1 s.2.1 (mapN s.2.2 n)).2.2.2;rw[v6];exact hk
    ·show KI (mkR lim s.1 s.2.1 (mapN s.2.2 n)).2.2.2;rw[v6];exact(hKs _ hk h4' (hop4 h4')).2
   ·show (zat (mkR lim s.1 s.2.1 (mapN s.2.2 n)).2.2.1 v).w=_;rw[v4,hN];rfl
   ·show vfn (mkR lim s.1 s.2.1 (mapN s.2.2 n)).2.2.1 f v=_;have hnv:=zcK (L:=(mkR lim s.1 s.2.1 (mapN s.2.2 n)).2.2.1) ⟨v2,v3⟩;rw[v4]at hnv;have e1:vfn (mkR lim s.1 s.2.1 (mapN s.2.2 n)).2.2.1 f v=_:=zeW hg2.dag (valF (mkR lim s.1 s.2.1 (mapN s.2.2 n)).2.2.1 f) 0#64 v2 hnv;have hd2:=hg2.dag;rw[v5]at e1 hd2;have o:∀x:Int,0≤x→x≤s.1.length→fnA (valF (s.1++M) f) 0#64 (s.1++M) x.toNat=vfn s.1 f x.toNat:=fun x x0 x1=>by
     by_cases h0:x=0
     ·rw[h0];rfl
     ·exact zj4 hs.dag hd2 (by omega) (by omega)
    have w:∀x:Int,0≤x→x≤s.1.length→wT (s.1++M) 0 x=wT s.1 0 x:=fun x x0 x1=>by
     by_cases h0:x=0
     ·rw[h0];rfl
     ·unfold wT;rw[zaT.2 ⟨by omega,by rw[length_append];omega⟩,zaT.2 ⟨by omega,by omega⟩,if_pos rfl,if_pos rfl,List.getElem?_append_left (by omega)]
    rw[v5,e1,hval];have la:=pl _ pa;have lb:=pl _ pb;have lc:=pl _ pc;have ma:(mapN s.2.2 n).a=mapP s.2.2 n.a:=rfl;have mb:(mapN s.2.2 n).b=mapP s.2.2 n.b:=rfl;have mc:(mapN s.2.2 n).c=mapP s.2.2 n.c:=rfl;rw[ma,mb,mc,o _ la.1 la.2,o _ lb.1 lb.2,o _ lc.1 lc.2,mv _ pa,mv _ pb,mv _ pc];unfold valF;rw[ma,mb,w _ la.1 la.2,w _ lb.1 lb.2,mw _ pa,mw _ pb];by_cases hop:n.op=4
    ·rw[if_pos (show (mapN s.2.2 n).op=4 from hop),if_pos hop];exact hnm hop (hop4 hop)
    ·rw[if_neg (show ¬(mapN s.2.2 n).op=4 from hop),if_neg hop];rfl
  ·rw[if_neg hmv];have hmv:(always||movN s.2.2 n)=false:=Bool.eq_false_iff.2 hmv;rw[Bool.or_eq_false_iff]at hmv;obtain⟨ha,hmv⟩:=hmv;obtain⟨M1,hM1⟩:=hal ha;have hsL:s.1=L++(M1++M0):=by rw[hM0,hM1,append_assoc]
   unfold movN at hmv;rw[Bool.or_eq_false_iff,Bool.or_eq_false_iff]at hmv;obtain⟨m1,m2,m3⟩:=hmv;have id1:∀x:Int,movP s.2.2 x=false→mapP s.2.2 x=x:=fun x hx=>by
    unfold movP at hx;unfold mapP;by_cases h0:x=0
    ·rw[if_pos h0,h0]
    ·rw[if_neg h0];rw[decide_eq_true h0,Bool.true_and]at hx;exact Decidable.not_not.1 (of_decide_eq_false hx)
   have hns:s.1[t-1]?=some n:=by rw[hsL,List.getElem?_append_left (by omega)];exact hn
   have hlen:t≤s.1.length:=by rw[hsL,length_append];omega
   refine⟨rfl,hs,⟨[],(append_nil _).symm⟩,hk,fun u hu=>upd2 _ _ u hu,⟨t,upd _ _,hb.1,hlen,?_,?_⟩⟩
   ·show (zat s.1 t).w=_;rw[zfc hns,hN]
   ·show vfn s.1 f t=_;have e1:vfn s.1 f t=_:=zeW hs.dag (valF s.1 f) 0#64 hb.1 hns;have va:=mv _ pa;have vb:=mv _ pb;have vc:=mv _ pc;have wa:=mw _ pa;have wb:=mw _ pb;rw[id1 _ m1]at va wa;rw[id1 _ m2]at vb wb;rw[id1 _ m3]at vc;unfold vfn at va vb vc;rw[e1,hval,va,vb,vc];unfold valF;rw[wa,wb];by_cases hop:n.op=4
    ·rw[if_pos hop,if_pos hop];exact hnm hop (hop4 hop)
    ·rw[if_neg hop,if_neg hop]
theorem znT:∀(r:List Nat) (i:Nat) (s:RS),P.Nodup→P.drop i=r→zb6 s.1 s.2.1→(∃M,s.1=L0++M)→KI s.2.1→(∀u∈P.take i,MadeM L f' f s u) →
  zmC lim always leaf (zat L) r s∧zb6 (zck lim always leaf (zat L) r s).1 (zck lim always leaf (zat L) r s).2.1∧(∃M,(zck lim always leaf (zat L) r s).1=L0++M)∧∀u∈P,MadeM L f' f (zck lim always leaf (zat L) r s) u
 |[],i,s,hnd,hr,hs,hp,hk,hm=>by
  have:P.take i=P:=by have:=take_append_drop i P;rwa [hr,append_nil]at this
  rw[this]at hm;exact⟨trivial,hs,hp,hm⟩
 |t::r,i,s,hnd,hr,hs,hp,hk,hm=>by
  have ht:P[i]?=some t:=by
   have:(P.drop i)[0]?=some t:=by rw[hr];rfl
   rwa [List.getElem?_drop,Nat.add_zero]at this
  have hr2:P.drop (i+1)=r:=by rw[←drop_drop,hr];rfl
  have htk:P.take (i+1)=P.take i++[t]:=by rw[take_add_one,ht];rfl
  obtain⟨a1,a2,⟨M,a3⟩,a4,a5,a6⟩:=rem_mean1 hlim hg hbd hcl hKs hal hd0 hlf hnm ht hs hp hk hm;have hds:=a2.dag;obtain⟨M0,hM0⟩:=hp
  obtain⟨b1,b2,b3,b4⟩:=znT r (i+1) (zbq lim always leaf (t:Int) (zat L t) s).2 hnd hr2 a2 ⟨M0++M,by rw[a3,hM0,append_assoc]⟩ a4 (fun u hu=>by
   rw[htk,mem_append,mem_singleton]at hu;rcases hu with hu|rfl
   ·have hne:(u:Int)≠(t:Int):=fun e=>by
     have e:u=t:=by omega
     subst e;have:=hnd;rw[←take_append_drop i P,hr]at this;exact(nodup_append.1 this).2.2 u hu u (mem_cons_self ..) rfl
    obtain⟨v,v1,v2,v3,v4,v5⟩:=(hm u hu).ex;rw[a3]at hds;exact⟨v,by rw[a5 _ hne,v1],v2,by rw[a3,length_append];omega,by rw[a3,zf7 ⟨v2,v3⟩];exact v4,by rw[a3,zj4 hs.dag hds v2 v3];exact v5⟩
   ·exact a6)
  exact⟨⟨a1,b1⟩,b2,b3,b4⟩
end
def splN(tail:ByteArray)(v:VV):Nd:=varN (v.name++tail) v.w
structure SP(B:Hp)(F0:Nat→Prop)(p f g:Nat)(lim:Int)(Lz:List Nd)(tail:ByteArray)(V:List VV)(i:Nat)(H:Hp)(s:List Nd×List (ByteArray×Int))(a1 a2:Value)(D:List (ByteArray×Nat)):Prop where
 next:B.next≤H.next
 old:∀j,j<B.next→¬F0 j→H.get j=B.get j
 st:∃sl,StF H p lim s.1 s.2 sl f g∧(∀j,Foot p f g sl j→F0 j∨B.next≤j)∧(∀j,Id a1 j→¬Foot p f g sl j)∧(∀j,Id a2 j→¬Foot p f g sl j)
 v1:Vec H 1 a1 D.length (strs (D.map Prod.fst))
 v2:Vec H 1 a2 D.length (ints (D.map Prod.snd))
 n1:∀j,Id a1 j→B.next≤j
 n2:∀j,Id a2 j→B.next≤j
 dj:∀j,Id a1 j→¬Id a2 j
 good:zb6 s.1 s.2
 pre:∃M,s.1=Lz++M
 len:s.1.length≤Lz.length+i
 cnt:D.length=i
 nm:D.map Prod.fst=(V.take i).map VV.name
 is:∀(j:Nat) v d,V[j]?=some v→D[j]?=some d→1≤d.2∧d.2≤s.1.length∧zat s.1 d.2=splN tail v
section
variable {B:Hp}{F0:Nat→Prop}{p f g:Nat}{lim:Int}{Lz:List Nd}(hF:∀j,F0 j→j<B.next){tail:ByteArray}(htl:tail.size≤2^40){V:List VV}{x2:Value}(hx:Rdb B 1 x2 V.length (strs (V.map VV.name)))(hxF:∀j,Id x2 j→¬F0 j)
 {m:Nat}{Wd:ByteArray→Option Int}(hm:MapS B m encI Wd)(hmB:m<B.next)(hmF:¬F0 m)(hV:∀v∈V,Wd v.name=some (v.w+1)∧0≤v.w∧v.w≤64∧v.name.size≤24)(hzl:Lz.length+V.length≤2^38)
include hF htl hx hxF hm hmB hmF hV hzl
theorem spl_step{i:Nat}{v:VV}(hi:V[i]?=some v){H:Hp}{s:List Nd×List (ByteArray×Int)}{a1 a2:Value}{D:List (ByteArray×Nat)}(h:SP B F0 p f g lim Lz tail V i H s a1 a2 D) :
  (∃H' e,e≠0∧za2 RR (.pointer (some ⟨p,0,none⟩)) x2 (.string tail) (.map (some m)) (.int .i64 (V.length:Int)) [a1,a2,.int .i64 (i:Int)] H=some (.ret,[.tuple #[.slice none 0 0,.int .i64 e]],H')) ∨
  (∃H' s' a1' a2' D',za2 RR (.pointer (some ⟨p,0,none⟩)) x2 (.string tail) (.map (some m)) (.int .i64 (V.length:Int)) [a1,a2,.int .i64 (i:Int)] H=some (.next,[a1',a2',.int .i64 ((i+1:Nat):Int)],H')∧SP B F0 p f g lim Lz tail V (i+1) H' s' a1' a2' D'):=by
 have hlt:i<V.length:=(List.getElem?_eq_some_iff.1 hi).1;obtain⟨v1,v2,v3,v4⟩:=hV v (mem_of_getElem? hi);have hxH:Rdb H 1 x2 V.length (strs (V.map VV.name)):=hx.keep' (fun j hj=>h.old j (hx.lt hj) (hxF j hj)) h.next;obtain⟨y,y1,y2⟩:=Rdb.at1 hxH (i:=i) (z:=.string v.name) (zhp (by rw[List.getElem?_map,hi];rfl));have hmH:MapS H m encI Wd:=hm.keep (h.old m hmB hmF);have lk:∀{α:Type} (k:Value→Option α),za3 PP Ac (.int .i64 0) (.map (some m)) (.string v.name) false H k=k (.int .i64 (v.w+1)):=fun k=>by rw[zlT hmH,v1];rfl
 obtain⟨sl,st,ft,fa1,fa2⟩:=h.st;obtain⟨M,hM⟩:=h.pre;have hlen:=h.len;have hcnt:=h.cnt;have hR:zkX s.1:=⟨fun m hm=>zgj h.good m hm,by omega⟩
 obtain⟨H1,sl1,m1,m2⟩:=d20 st hR (v.name++tail) v.w;have w0:IntKind.i64.wrap (v.w+1-1)=v.w:=by rw[show v.w+1-1=v.w by omega];exact zaw (by omega) (by omega)
 have w1:IntKind.i64.wrap ((i:Int)+1)=((i+1:Nat):Int):=zaw (by omega) (by omega);have q:(i:Int)<(V.length:Int):=by omega
 have head:∀X,(za2 RR (.pointer (some ⟨p,0,none⟩)) x2 (.string tail) (.map (some m)) (.int .i64 (V.length:Int)) [a1,a2,.int .i64 (i:Int)] H=X)↔(zaa (.bool (decide ((mkR lim s.1 s.2 (varN (v.name++tail) v.w)).2.1≠0))) fun b69=>br b69
   (some (.ret,[(.tuple #[(.slice none 0 0),.int .i64 (mkR lim s.1 s.2 (varN (v.name++tail) v.w)).2.1])],H1))
   (zak 1 [.string ⟨#[]⟩] 1 [(0,.string v.name)] H1 fun v70 H71=>
   zaE 1 16 a1 v70 H71 fun v72 H73=>
   zak 1 [.int .i64 0] 1 [(0,.int .i64 (mkR lim s.1 s.2 (varN (v.name++tail) v.w)).1)] H73 fun v74 H75=>
   zaE 1 8 a2 v74 H75 fun v76 H77=>
   pBin PP .add Aa (.int .i64 (i:Int)) (.int .i64 1) fun v78=>
   some (.next,[v72,v76,v78],H77)))=X:=fun X=>by
  unfold za2;simp only[qg0,qg1];rw[lT q,y1,y2,lk,eF (by omega),s_cat _ _ _ (by omega),lk,zdY,w0,zag m1,x01,zbd]
 by_cases he:(mkR lim s.1 s.2 (varN (v.name++tail) v.w)).2.1=0
 ·refine .inr ?_;obtain⟨hr,hcase⟩:=zgX he;have hst1:=m2.st;have hfoot:∀j,Foot p f g sl1 j→Foot p f g sl j∨H.next≤j:=fun j hj=>m2.foot hj;have hid:∀j,Id a1 j→H1.get j=H.get j:=fun j hj=>m2.same (h.v1.lt hj) (fa1 j hj);have hid2:∀j,Id a2 j→H1.get j=H.get j:=fun j hj=>m2.same (h.v2.lt hj) (fa2 j hj);have a1v:=h.v1.keep' hid m2.next;have a2v:=h.v2.keep' hid2 m2.next;obtain⟨a1',H2,p1,p2,p3,p4,_⟩:=a1v.push (bytes:=16) (zs:=[.string ⟨#[]⟩]) (x:=.string v.name) (by decide) (by decide) rfl rfl rfl (by omega);have a2w:=a2v.keep p3 fun j hj hq=>h.dj j hq hj;obtain⟨a2',H3,q1,q2,q3,q4,_⟩:=a2w.push (bytes:=8) (zs:=[.int .i64 0]) (x:=.int .i64 (mkR lim s.1 s.2 (varN (v.name++tail) v.w)).1) (by decide) (by decide) rfl rfl rfl (by omega);have e:∃t:Nat,(mkR lim s.1 s.2 (varN (v.name++tail) v.w)).1=(t:Int)∧1≤t∧t≤(mkR lim s.1 s.2 (varN (v.name++tail) v.w)).2.2.1.length∧zat (mkR lim s.1 s.2 (varN (v.name++tail) v.w)).2.2.1 t=varN (v.name++tail) v.w∧(∃M,(mkR lim s.1 s.2 (varN (v.name++tail) v.w)).2.2.1=s.1++M)∧(mkR lim s.1 s.2 (varN (v.name++tail) v.w)).2.2.1.length≤s.1.length+1:=by
   rcases hcase with⟨q,hq,e⟩|⟨hq,_,e⟩
   ·rw[e];obtain⟨_,hq⟩:=zdH _ s.1 0 q hq;rw[Nat.sub_zero]at hq;have:=(List.getElem?_eq_some_iff.1 hq).1;exact⟨q+1,rfl,by omega,by show q+1≤s.1.length;omega,zfc hq,⟨[],(append_nil _).symm⟩,by show s.1.length≤_;omega⟩
   ·rw[e];refine⟨s.1.length+1,rfl,by omega,by show _≤(s.1++[_]).length;simp,zfc ?_,⟨_,rfl⟩,by show (s.1++[_]).length≤_;simp⟩;show (s.1++[_])[s.1.length+1-1]?=_;rw[Nat.add_sub_cancel,List.getElem?_append_right (Nat.le_refl _),Nat.sub_self];rfl
  obtain⟨t,t1,t2,t3,t4,⟨M2,t5⟩,t6⟩:=e;have hn2:=m2.next;have hnn:=h.next;have hp3:=p3.next;have hq3:=q3.next;have id1':∀j,Id a1' j→B.next≤j∧(Id a1 j∨H1.next≤j):=fun j hj=>by
   rcases p4 j hj with z|z
   ·exact⟨h.n1 j z,.inl z⟩
   ·exact⟨by omega,.inr z⟩
  have id2':∀j,Id a2' j→B.next≤j∧(Id a2 j∨H2.next≤j):=fun j hj=>by
   rcases q4 j hj with z|z
   ·exact⟨h.n2 j z,.inl z⟩
   ·exact⟨by omega,.inr z⟩
  have f1a:∀j,Foot p f g sl1 j→¬Id a1 j:=fun j hj hq=>by
   rcases hfoot j hj with z|z
   ·exact fa1 j hq z
   ·have:=h.v1.lt hq;omega
  have f1b:∀j,Foot p f g sl1 j→¬Id a2 j:=fun j hj hq=>by
   rcases hfoot j hj with z|z
   ·exact fa2 j hq z
   ·have:=h.v2.lt hq;omega
  have hst3:StF H3 p lim (mkR lim s.1 s.2 (varN (v.name++tail) v.w)).2.2.1 (mkR lim s.1 s.2 (varN (v.name++tail) v.w)).2.2.2 sl1 f g:=hst1.keep (fun j hj=>by
   have:=hst1.foot_lt hj
   rw[q3.same j (by omega) (f1b j hj),p3.same j this (f1a j hj)]) (by omega)
  refine⟨H3,((mkR lim s.1 s.2 (varN (v.name++tail) v.w)).2.2.1,(mkR lim s.1 s.2 (varN (v.name++tail) v.w)).2.2.2),a1',a2',D++[(v.name,t)],?_,?_⟩
  ·rw[head,decide_eq_false (fun z=>z he),zad,zaG,p1,q1,zaZ,w1]
  ·have hdl:(D++[(v.name,t)]).length=D.length+1:=by simp
   refine⟨by omega,fun j hj hf=>?_,⟨sl1,hst3,fun j hj=>?_,fun j hj hf=>?_,fun j hj hf=>?_⟩,?_,?_,fun j hj=>(id1' j hj).1,fun j hj=>(id2' j hj).1,fun j hj hq=>?_,zhz nz h.good,⟨M++M2,by rw[t5,hM,append_assoc]⟩,by show (mkR lim s.1 s.2 (varN (v.name++tail) v.w)).2.2.1.length≤_;omega,by rw[hdl,hcnt],?_,?_⟩
   ·have n1:¬Id a1 j:=fun z=>by have:=h.n1 j z;omega
    have n2:¬Id a2 j:=fun z=>by have:=h.n2 j z;omega
    rw[q3.same j (by omega) n2,p3.same j (by omega) n1,m2.same (by omega) (fun z=>(ft j z).elim hf fun z=>by omega),h.old j hj hf]
   ·rcases hfoot j hj with z|z
    ·exact ft j z
    ·exact .inr (by omega)
   ·rcases (id1' j hj).2 with z|z
    ·exact f1a j hf z
    ·have:=hst1.foot_lt hf;omega
   ·rcases (id2' j hj).2 with z|z
    ·exact f1b j hf z
    ·have:=hst1.foot_lt hf;omega
   ·rw[hdl,map_append,znC];exact p2.keep q3 fun j hj hq=>by
     rcases (id1' j hj).2 with z|z
     ·exact h.dj j z hq
     ·have:=h.v2.lt hq;omega
   ·rw[hdl,map_append];have:ints (D.map Prod.snd++[(v.name,t)].map Prod.snd)=ints (D.map Prod.snd)++zab (Value.int .i64 (mkR lim s.1 s.2 (varN (v.name++tail) v.w)).1):=by rw[t1];simp[ints];rfl
    rw[this];exact q2
   ·rcases (id1' j hj).2 with z|z
    ·rcases (id2' j hq).2 with z2|z2
     ·exact h.dj j z z2
     ·have:=h.v1.lt z;omega
    ·rcases (id2' j hq).2 with z2|z2
     ·have:=h.v2.lt z2;omega
     ·have:=p2.lt hj;omega
   ·rw[map_append,h.nm,take_add_one,hi,map_append];rfl
   ·intro j u d hu hd;by_cases hj:j<D.length
    ·rw[List.getElem?_append_left hj]at hd;obtain⟨b1,b2,b3⟩:=h.is j u d hu hd;refine⟨b1,by show _≤(mkR lim s.1 s.2 (varN (v.name++tail) v.w)).2.2.1.length;rw[t5,length_append];omega,?_⟩;show zat (mkR lim s.1 s.2 (varN (v.name++tail) v.w)).2.2.1 d.2=_;rw[t5,zf7 ⟨b1,b2⟩,b3]
    ·have hj2:j=i:=by have:=(List.getElem?_eq_some_iff.1 hd).1;rw[hdl]at this;omega
     subst hj2;rw[hi]at hu;cases hu;rw[List.getElem?_append_right (by omega),hcnt,Nat.sub_self]at hd;cases hd;exact⟨t2,t3,t4⟩
 ·refine .inl ⟨H1,_,he,?_⟩;rw[head,decide_eq_true he,zad,zaV]
theorem znG:∀(r:List VV) (i:Nat) (H:Hp) (s:List Nd×List (ByteArray×Int)) (a1 a2:Value) (D:List (ByteArray×Nat)),V.drop i=r→i≤V.length→SP B F0 p f g lim Lz tail V i H s a1 a2 D →
  (∃H' e,e≠0∧zaq (za2 RR (.pointer (some ⟨p,0,none⟩)) x2 (.string tail) (.map (some m)) (.int .i64 (V.length:Int))) [a1,a2,.int .i64 (i:Int)] H=some (.ret,[.tuple #[.slice none 0 0,.int .i64 e]],H')) ∨
  (∃H' s' a1' a2' D',zaq (za2 RR (.pointer (some ⟨p,0,none⟩)) x2 (.string tail) (.map (some m)) (.int .i64 (V.length:Int))) [a1,a2,.int .i64 (i:Int)] H=some (.exit 4,[a1',a2',.int .i64 (V.length:Int)],H')∧SP B F0 p f g lim Lz tail V V.length H' s' a1' a2' D')
 |[],i,H,s,a1,a2,D,hr,hi,h=>by
  have hil:i=V.length:=by have:=congrArg List.length hr;rw[length_drop,length_nil]at this;omega
  subst hil;refine .inr ⟨H,s,a1,a2,D,?_,h⟩;have:za2 RR (.pointer (some ⟨p,0,none⟩)) x2 (.string tail) (.map (some m)) (.int .i64 (V.length:Int)) [a1,a2,.int .i64 (V.length:Int)] H=some (.exit 4,[a1,a2,.int .i64 (V.length:Int)],H):=by unfold za2;simp only[qg0,qg1];rw[lF (Int.lt_irrefl _)]
  rw[zah,this];rfl
 |v::r,i,H,s,a1,a2,D,hr,hi,h=>by
  have hlt:i<V.length:=by have:=congrArg List.length hr;rw[length_drop,length_cons]at this;omega
  have hv:V[i]?=some v:=by
   have:(V.drop i)[0]?=some v:=by rw[hr];rfl
   rwa [List.getElem?_drop,Nat.add_zero]at this
  have hr2:V.drop (i+1)=r:=by rw[←drop_drop,hr];rfl
  rcases spl_step hF htl hx hxF hm hmB hmF hV hzl hv h with⟨H1,e,e1,e2⟩|⟨H1,s1,b1,b2,D1,e1,e2⟩
  ·exact .inl ⟨H1,e,e1,by rw[zah,e2];rfl⟩
  ·rcases znG r (i+1) H1 s1 b1 b2 D1 hr2 hlt e2 with⟨H2,e,g1,g2⟩|⟨H2,s2,c1,c2,D2,g1,g2⟩
   ·exact .inl ⟨H2,e,g1,by rw[zah,e1];exact g2⟩
   ·exact .inr ⟨H2,s2,c1,c2,D2,by rw[zah,e1];exact g1,g2⟩
end
theorem spl_1{x2:Value}{H:Hp}{l:List ByteArray}(hx:Rdb H 1 x2 l.length (strs l))(hl:l.length≤2^40){tail:ByteArray}(htl:tail.size≤2^40)(hs:∀s∈l,s.size≤24):∀(r:List ByteArray) (i:Nat),l.drop i=r→i≤l.length →
  zaq (zbe RR x2 (.string tail) (.int .i64 (l.length:Int))) [.int .i64 (i:Int)] H=if r.all (fun s=>zbD (s++tail))=true then some (.exit 0,[.int .i64 (l.length:Int)],H) else some (.ret,[.tuple #[.slice none 0 0,.int .i64 72]],H)
 |[],i,hr,hi=>by
  have hil:i=l.length:=by have:=congrArg List.length hr;rw[length_drop,length_nil]at this;omega
  subst hil;have:zbe RR x2 (.string tail) (.int .i64 (l.length:Int)) [.int .i64 (l.length:Int)] H=some (.exit 0,[.int .i64 (l.length:Int)],H):=by unfold zbe;simp only[qg0];rw[lF (Int.lt_irrefl _)]
  rw[zah,this];rfl
 |s::r,i,hr,hi=>by
  have hlt:i<l.length:=by have:=congrArg List.length hr;rw[length_drop,length_cons]at this;omega
  have hv:l[i]?=some s:=by
   have:(l.drop i)[0]?=some s:=by rw[hr];rfl
   rwa [List.getElem?_drop,Nat.add_zero]at this
  have hr2:l.drop (i+1)=r:=by rw[←drop_drop,hr];rfl
  obtain⟨y,y1,y2⟩:=Rdb.at1 hx (zhp hv);have h24:=hs s (mem_of_getElem? hv);have w1:IntKind.i64.wrap ((i:Int)+1)=((i+1:Nat):Int):=zaw (by omega) (by omega);have ih:=spl_1 hx hl htl hs r (i+1) hr2 hlt;rw[all_cons];cases hn:zbD (s++tail) with
  |false=>
   have:zbe RR x2 (.string tail) (.int .i64 (l.length:Int)) [.int .i64 (i:Int)] H=some (.ret,[.tuple #[.slice none 0 0,.int .i64 72]],H):=by unfold zbe;simp only[qg0];rw[lT (by omega),y1,y2,s_cat _ _ _ (by omega),zag (Go.AM.c44 _ _),hn,zbQ,zad,Bool.not_false,zaV]
   rw[zah,this,Bool.false_and,if_neg (by decide)];rfl
  |true=>
   have:zbe RR x2 (.string tail) (.int .i64 (l.length:Int)) [.int .i64 (i:Int)] H=some (.next,[.int .i64 ((i+1:Nat):Int)],H):=by unfold zbe;simp only[qg0];rw[lT (by omega),y1,y2,s_cat _ _ _ (by omega),zag (Go.AM.c44 _ _),hn,zbQ,zad,Bool.not_true,zaG,zaZ,w1]
   rw[zah,this,Bool.true_and];exact ih
theorem spl_2{B:Hp}{v5:Value}{V:List VV}(hx:Rdb B 3 v5 V.length (za4 V))(hl:V.length≤2^40)(hnd:(V.map VV.name).Nodup)(hw:∀v∈V,0≤v.w∧v.w≤64){m:Nat}:∀(r:List VV) (i:Nat) (H:Hp) (F:ByteArray→Option Int),V.drop i=r→i≤V.length→TI B H m F→(∀v∈V.take i,F v.name=some (v.w+1)) →
  ∃H' F',zaq (zbA RR v5 (.map (some m)) (.int .i64 (V.length:Int))) [.int .i64 (i:Int)] H=some (.exit 2,[.int .i64 (V.length:Int)],H')∧TI B H' m F'∧∀v∈V,F' v.name=some (v.w+1)
 |[],i,H,F,hr,hi,h,hF=>by
  have hil:i=V.length:=by have:=congrArg List.length hr;rw[length_drop,length_nil]at this;omega
  subst hil;rw[take_length]at hF;refine⟨H,F,?_,h,hF⟩;have:zbA RR v5 (.map (some m)) (.int .i64 (V.length:Int)) [.int .i64 (V.length:Int)] H=some (.exit 2,[.int .i64 (V.length:Int)],H):=by unfold zbA;simp only[qg0];rw[lF (Int.lt_irrefl _)]
  rw[zah,this];rfl
 |v::r,i,H,F,hr,hi,h,hF=>by
  have hlt:i<V.length:=by have:=congrArg List.length hr;rw[length_drop,length_cons]at this;omega
  have hv:V[i]?=some v:=by
   have:(V.drop i)[0]?=some v:=by rw[hr];rfl
   rwa [List.getElem?_drop,Nat.add_zero]at this
  have hr2:V.drop (i+1)=r:=by rw[←drop_drop,hr];rfl
  have ht:V.take (i+1)=V.take i++[v]:=by rw[take_add_one,hv];rfl
  have hxH:Rdb H 3 v5 V.length (za4 V):=hx.keep' (fun j hj=>h.old j (hx.lt hj)) h.next;obtain⟨y,_,y1,y2,_⟩:=Rdb.vv hxH hv;obtain⟨w1,w2⟩:=hw v (mem_of_getElem? hv);have e1:IntKind.i64.wrap (v.w+1)=v.w+1:=zaw (by omega) (by omega);have e2:IntKind.i64.wrap ((i:Int)+1)=((i+1:Nat):Int):=zaw (by omega) (by omega);obtain⟨H1,u1,t1,_,_⟩:=h.up v.name (v.w+1)
  obtain⟨H',F',g1,g2,g3⟩:=spl_2 hx hl hnd hw r (i+1) H1 _ hr2 hlt t1 (fun u hu=>by
   rw[ht,mem_append,mem_singleton]at hu;rcases hu with hu|rfl
   ·have hne:u.name≠v.name:=fun e=>by have:=hnd;rw[←take_append_drop i V,hr,map_append]at this;exact(nodup_append.1 this).2.2 u.name (mem_map_of_mem hu) v.name (by rw[map_cons];exact mem_cons_self ..) e
    rw[if_neg (fun z=>hne ((zdC _ _).1 z))];exact hF u hu
   ·rw[if_pos ((zdC _ _).2 rfl)])
  refine⟨H',F',?_,g2,g3⟩;have:zbA RR v5 (.map (some m)) (.int .i64 (V.length:Int)) [.int .i64 (i:Int)] H=some (.next,[.int .i64 ((i+1:Nat):Int)],H1):=by unfold zbA;simp only[qg0];rw[lT (by omega),y1,y2,splV,znv,zhK,zaZ,e1,u1,zaZ,e2]
  rw[zah,this];exact g1
structure Spl(tail:ByteArray)(L:List Nd)(V:List VV)(s:List Nd×List (ByteArray×Int))(D:List (ByteArray×Nat)):Prop where
 good:zb6 s.1 s.2
 pre:∃M,s.1=L++M
 len:s.1.length≤L.length+V.length
 nm:D.map Prod.fst=V.map VV.name
 is:∀(j:Nat) v d,V[j]?=some v→D[j]?=some d→1≤d.2∧d.2≤s.1.length∧zat s.1 d.2=splN tail v
section
variable {H0:Hp}{p f g:Nat}{lim:Int}{L:List Nd}{K:List (ByteArray×Int)}{sl:Value}(hst:StF H0 p lim L K sl f g)(hg:zb6 L K)(hL:L.length≤2^21){x x2:Value}{ns:List Nat}(hx:Rdb H0 1 x ns.length (ints ns))(hxF:∀j,Id x j→¬Foot p f g sl j)(hns:∀t∈ns,1≤t∧t≤L.length)(hnl:ns.length≤2^40)
 (hx2:Rdb H0 1 x2 (za0 L ns).length (strs ((za0 L ns).map VV.name)))(hx2F:∀j,Id x2 j→¬Foot p f g sl j){tail:ByteArray}(htl:tail.size≤2^40)
 (hok:∀s D,Spl tail L (za0 L ns) s D→zmC lim false (byL D) (zat s.1) (posts s.1 ns []) (s.1,s.2,fun _=>0)∧∀t∈posts s.1 ns [],(zat s.1 t).op=4→∀u:Nat,byZ D (zat s.1 t).name=some (u:Int)→(zat s.1 u).w=(zat s.1 t).w)
include hst hg hL hx hxF hns hnl hx2 hx2F htl hok
theorem c_split:(∃H' e,e≠0∧RR AT [.pointer (some ⟨p,0,none⟩),x,x2,.string tail] H0=some (.tuple #[.slice none 0 0,.int .i64 e],H')) ∨
  (∃H' v s D sl',RR AT [.pointer (some ⟨p,0,none⟩),x,x2,.string tail] H0=some (.tuple #[v,.int .i64 0],H')∧Spl tail L (za0 L ns) s D∧(∀u∈za0 L ns,zbD (u.name++tail)=true) ∧
   StF H' p lim (zck lim false (byL D) (zat s.1) (posts s.1 ns []) (s.1,s.2,fun _=>0)).1 (zck lim false (byL D) (zat s.1) (posts s.1 ns []) (s.1,s.2,fun _=>0)).2.1 sl' f g ∧
   Vec H' 1 v ns.length (zcc (ns.map fun (t:Nat)=>(zck lim false (byL D) (zat s.1) (posts s.1 ns []) (s.1,s.2,fun _=>0)).2.2 (t:Int)))∧(∀j,Id v j→H0.next≤j)∧Frm (Foot p f g sl) H0 H'∧∀j,Foot p f g sl' j→Foot p f g sl j∨H0.next≤j):=by
 have hr:=(zlq E0 rfl (.pointer (some ⟨p,0,none⟩)) x x2 (.string tail) H0).trans (zlZ _ _ _ _ _ _);have tr:∀{A B C:Hp},Frm (fun _=>False) A B→Frm (fun _=>False) B C→Frm (fun _=>False) A C:=fun a b=>a.trans b fun j q=>q.elim;have e0:∀x:Int,¬(x≠x):=fun x q=>q rfl;have kst:∀{H':Hp},Frm (fun _=>False) H0 H'→StF H' p lim L K sl f g:=fun k=>hst.keep (fun j hj=>k.same j (hst.foot_lt hj) fun q=>q) k.next;have hrI:∀{H:Hp} {rv:Value},Rdb H 1 rv ns.length (ints ns)→Rdb H 1 rv (ns.map fun (t:Nat)=>(t:Int)).length (zcc (ns.map fun (t:Nat)=>(t:Int))):=fun h=>by rw[length_map,←zbP];exact h
 obtain⟨H1,v1,e1,m1⟩:=c_vars hst hg.dag (by omega) (hrI hx).o (by rw[length_map];omega);rw[znx hns]at e1 m1;dsimp only at e1 m1;have hvl:=zk3 hg.dag hns;have hvn:=ze1 hg hns;obtain⟨nm1,nm2,_⟩:=(zeq _ _).1 hvn;have hvw:=znw hg hns;have h24:∀u∈za0 L ns,u.name.size≤24:=fun u hu=>by have:=nm1 u.name (mem_map_of_mem hu);unfold zbD at this;simp only[Bool.and_eq_true,decide_eq_true_eq]at this;omega
 obtain⟨H2,e2,f2⟩:=c_names (B:=H1) (x:=x2) (l:=(za0 L ns).map VV.name) (by rw[length_map];exact hx2.keep m1.frm fun _ _ q=>q) (by rw[length_map];omega) hvn;have f02:=tr m1.frm f2;have x22:Rdb H2 1 x2 (za0 L ns).length (strs ((za0 L ns).map VV.name)):=hx2.keep f02 fun _ _ q=>q;have l1:=spl_1 (l:=(za0 L ns).map VV.name) (by rw[length_map];exact x22) (by rw[length_map];omega) htl (fun s hs=>by obtain⟨u,hu,rfl⟩:=mem_map.1 hs;exact h24 u hu) _ 0 rfl (Nat.zero_le _);rw[length_map,qd0]at l1;have l1:zaq (zbe RR x2 (.string tail) (.int .i64 ((za0 L ns).length:Int))) [.int .i64 0] H2=_:=l1;rw[zji Al _ ⟨Av,by kernel_rfl⟩,zad,zaG,zag e1,x01,zbd,bF (e0 0),zag e2,zbd,bF (e0 0),x22.len,l1]at hr;by_cases hall:((za0 L ns).map VV.name).all (fun s=>zbD (s++tail))=true
 ·rw[if_pos hall,zao,za8,zaD]at hr;have hnall:∀u∈za0 L ns,zbD (u.name++tail)=true:=fun u hu=>all_eq_true.1 hall u.name (mem_map_of_mem hu);have m1v:Vec H1 3 v1 (za0 L ns).length (za4 (za0 L ns)):=m1.vec;have v12:=m1v.rd.keep f2 fun _ _ q=>q;have hh:∀(n:Int) (f:Option (Value×Hp)),zd1 (.int .i64 n) f=f:=fun n f=>rfl;have hm:∀(H:Hp) (f:Value→Hp→Option (Value×Hp)),zbr H f=f (.map (some H.next)) (H.new (.map [])):=fun H f=>rfl;have t0:TI H2 (H2.new (.map [])) H2.next (fun _=>none):=⟨Nat.le_succ _,fun j hj=>by rw[get_new,if_neg (by omega)],Nat.le_refl _,Nat.lt_succ_self _,MapS.new H2 encI⟩
  obtain⟨H3,Wd,e3,t3,hW⟩:=spl_2 v12 (by omega) nm2 hvw (za0 L ns) 0 (H2.new (.map [])) _ rfl (Nat.zero_le _) t0 (fun v h=>by cases h);have e3:zaq (zbA RR v1 (.map (some H2.next)) (.int .i64 ((za0 L ns).length:Int))) [.int .i64 0] (H2.new (.map []))=_:=e3;have f23:Frm (fun _=>False) H2 H3:=⟨t3.next,fun j hj _=>t3.old j hj⟩
  have f03:=tr f02 f23;have n2:=f02.next;have n3:=t3.next;have hFlt:∀j,Foot p f g sl j→j<H0.next:=fun j hj=>hst.foot_lt hj;have x23:=x22.keep f23 fun _ _ q=>q;have sp0:SP H3 (Foot p f g sl) p f g lim L tail (za0 L ns) 0 H3 (L,K) (.slice none 0 0) (.slice none 0 0) []:=⟨Nat.le_refl _,fun j _ _=>rfl,⟨sl,kst f03,fun j hj=>.inl hj,fun j hj=>(by cases hj),fun j hj=>(by cases hj)⟩,Vec.nil H3 1,Vec.nil H3 1,fun j hj=>(by cases hj),fun j hj=>(by cases hj),fun j hj=>(by cases hj),hg,⟨[],(append_nil _).symm⟩,Nat.le_refl _,rfl,rfl,fun j v d _ hd=>(by cases hd)⟩
  have l3:=znG (F0:=Foot p f g sl) (lim:=lim) (Lz:=L) (p:=p) (f:=f) (g:=g) (tail:=tail) (fun j hj=>by have:=hFlt j hj;omega) htl x23 hx2F (m:=H2.next) (Wd:=Wd) t3.map t3.n (fun z=>by have:=hFlt _ z;omega) (fun v hv=>⟨hW v hv,(hvw v hv).1,(hvw v hv).2,h24 v hv⟩) (by omega) (za0 L ns) 0 H3 (L,K) _ _ [] rfl (Nat.zero_le _) sp0;have hlen3:∀(k:Value→Option (Value×Hp)),pLen .sl v1 (H2.new (.map [])) k=k (.int .i64 ((za0 L ns).length:Int)):=fun k=>m1v.len _ k;rw[v12.len,hh,hm,hlen3,e3,zao,za8,zaD,x23.len]at hr;rcases l3 with⟨H4,e,g1,g2⟩|⟨H4,s,a1,a2,D,g1,g2⟩
  ·have g2:zaq (za2 RR (.pointer (some ⟨p,0,none⟩)) x2 (.string tail) (.map (some H2.next)) (.int .i64 ((za0 L ns).length:Int))) [.slice none 0 0,.slice none 0 0,.int .i64 0] H3=_:=g2;rw[g2]at hr;exact .inl ⟨H4,e,g1,hr⟩
  ·have g1:zaq (za2 RR (.pointer (some ⟨p,0,none⟩)) x2 (.string tail) (.map (some H2.next)) (.int .i64 ((za0 L ns).length:Int))) [.slice none 0 0,.slice none 0 0,.int .i64 0] H3=_:=g1;rw[g1,zao,za8,zaD]at hr;simp only[qg0,qg1]at hr;have hSpl:Spl tail L (za0 L ns) s D:=⟨g2.good,g2.pre,g2.len,by rw[g2.nm,take_length],g2.is⟩
   obtain⟨ok1,ok2⟩:=hok s D hSpl;obtain⟨sl1,st1,ft1,fa1,fa2⟩:=g2.st;obtain⟨M,hM⟩:=g2.pre;have hslen:=g2.len;have hn4:=g2.next;have hcnt:=g2.cnt;have hx4:Rdb H4 1 x ns.length (ints ns):=(hx.keep f03 fun _ _ q=>q).keep' (fun j hj=>g2.old j (by have:=hx.lt hj;omega) (hxF j hj)) hn4;have hxF1:∀j,Id x j→¬Foot p f g sl1 j:=fun j hj hf=>by
    rcases ft1 j hf with z|z
    ·exact hxF j hj z
    ·have:=hx.lt hj;omega
   have hns':∀t∈ns,1≤t∧t≤s.1.length:=fun t ht=>by have:=hns t ht;rw[hM,length_append];omega
   have hnm:nmOk [] (D.map Prod.fst)=true:=by rw[hSpl.nm];exact hvn
   have hD:∀d∈D,1≤d.2∧d.2≤s.1.length:=fun d hd=>by
    obtain⟨j,hj⟩:=List.getElem?_of_mem hd;have hjl:=(List.getElem?_eq_some_iff.1 hj).1;have hjv:j<(za0 L ns).length:=by omega
    obtain⟨b1,b2,_⟩:=hSpl.is j _ d (List.getElem?_eq_getElem hjv) hj;exact⟨b1,b2⟩
   obtain⟨H5,v,e5,r5⟩:=c_put st1 g2.good (by omega) hx4.o hxF1 hns' hnl (by rw[length_map];exact g2.v1.rd) (by rw[length_map];exact g2.v2.rd) (by omega) hnm hD ok2 ok1;rw[zag e5,x01]at hr;obtain⟨sl',s1,s2,s3⟩:=r5.st;refine .inr ⟨H5,v,s,D,sl',hr,hSpl,hnall,s1,r5.vec,fun j hj=>by have:=r5.new j hj;omega,⟨by have:=r5.frm.next;omega,fun j hj hf=>?_⟩,fun j hj=>?_⟩
   ·have n4:¬Foot p f g sl1 j:=fun z=>(ft1 j z).elim hf fun z=>by omega
    rw[r5.frm.same j (by omega) n4,g2.old j (by omega) hf,f03.same j hj fun q=>q]
   ·rcases s2 j hj with z|z
    ·exact(ft1 j z).imp id fun z=>by omega
    ·exact .inr (by omega)
 ·rw[if_neg hall]at hr;exact .inl ⟨H2,72,by decide,hr⟩
end
theorem kids_pre{L M:List Nd}{t:Nat}(h1:1≤t)(h2:t≤L.length):kids (L++M) t=kids L t:=by unfold kids;rw[List.getElem?_append_left (by omega)]
theorem post_pre{L M:List Nd}(hd:Dag L)(hd2:Dag (L++M)):∀t,1≤t→t≤L.length→∀out,post (L++M) t out=post L t out:=by
 intro t;induction t using Nat.strongRecOn with
 |_ t ih=>
  intro h1 h2 out;rw[zfB hd h1,zfB hd2 h1,kids_pre h1 h2];have:posts (L++M) (kids L t) out=posts L (kids L t) out:=by
   unfold posts;exact zdz _ _ fun c hc o=>by have:=zeT hd h1 hc;exact ih c this.2 this.1 (by omega) o
  rw[this]
theorem zlv{L M:List Nd}(hd:Dag L)(hd2:Dag (L++M)){ns:List Nat}(h:∀t∈ns,1≤t∧t≤L.length)(out:List Nat):posts (L++M) ns out=posts L ns out:=by unfold posts;exact zdz _ _ fun c hc o=>post_pre hd hd2 c (h c hc).1 (h c hc).2 o
def zch(tail:ByteArray)(v:VV):VV:={ v with name:=v.name++tail }
theorem cat_inj{a b c:ByteArray}(h:a++c=b++c):a=b:=by
 have h:(a++c).data.toList=(b++c).data.toList:=by rw[h]
 rw[zoF,zoF]at h;have h:=append_cancel_right h;obtain⟨⟨a⟩⟩:=a;obtain⟨⟨b⟩⟩:=b;have h:a=b:=h;rw[h]
theorem zoo(tail s:ByteArray):∀T':List VV,fndV (s++tail) (T'.map (zch tail))=(fndV s T').map (zch tail)
 |[]=>rfl
 |v::r=>by
  rw[map_cons];show (if (s++tail==(zch tail v).name)=true then some (zch tail v) else fndV (s++tail) (r.map (zch tail)))=Option.map _ (if (s==v.name)=true then some v else fndV s r);by_cases e:s=v.name
  ·rw[if_pos ((zdC _ _).2 (by rw[e];rfl)),if_pos ((zdC _ _).2 e)];rfl
  ·have hne:¬(s++tail==(zch tail v).name)=true:=fun z=>e (cat_inj ((zdC _ _).1 z));rw[if_neg hne,if_neg (fun z=>e ((zdC _ _).1 z))];exact zoo tail s r
theorem tell_tail(tail s:ByteArray)(T':List VV):zb5 (T'.map (zch tail)) (s++tail)=zb5 T' s:=by unfold zb5;rw[zoo];cases fndV s T'<;>rfl
theorem name_w{L:List Nd}{K:List (ByteArray×Int)}(hg:zb6 L K){n m:Nd}(hn:n∈L)(hm:m∈L)(h4:n.op=4)(h4':m.op=4)(he:n.name=m.name):n.w=m.w:=by obtain⟨j,hj⟩:=hg.kn n hn h4;obtain⟨k,hk⟩:=hg.kn m hm h4';rw[he,hk]at hj;exact(Prod.mk.inj (Option.some.inj hj)).2.symm
section
variable {L:List Nd}{K:List (ByteArray×Int)}(hg:zb6 L K){ns:List Nat}(hns:∀t∈ns,1≤t∧t≤L.length){tail:ByteArray}{s:List Nd×List (ByteArray×Int)}{D:List (ByteArray×Nat)}(hS:Spl tail L (za0 L ns) s D)
include hg hns hS
theorem spl_by{t:Nat}(ht:t∈posts s.1 ns [])(h4:(zat s.1 t).op=4):∃(u:Nat) (v:VV),v∈za0 L ns∧v.name=(zat s.1 t).name∧v.w=(zat s.1 t).w∧byZ D (zat s.1 t).name=some (u:Int)∧1≤u∧u≤s.1.length∧zat s.1 u=splN tail v:=by
 obtain⟨M,hM⟩:=hS.pre;have hd2:=hS.good.dag;rw[hM]at hd2;rw[hM,zlv hg.dag hd2 hns]at ht;obtain⟨p1,p2,p3,p4⟩:=zb8 hg hns;have hb:=p2 t ht;have hnode:zat s.1 t=zat L t:=by rw[hM];exact zf7 hb
 rw[hnode]at h4 ⊢;have hv:(⟨(zat L t).name,(zat L t).w,0⟩:VV)∈za0 L ns:=(zj5 hg hns).2 ⟨t,zat L t,ht,zcK hb,h4,rfl⟩;have hin:(zat L t).name∈D.map Prod.fst:=by rw[hS.nm];exact mem_map_of_mem (f:=VV.name) hv
 have key:∀l:List (ByteArray×Nat),(zat L t).name∈l.map Prod.fst→∃z,byZ l (zat L t).name=some z:=by
  intro l;induction l with
  |nil=>intro h;cases h
  |cons a r ih=>
   intro h;obtain⟨a1,a2⟩:=a;show ∃z,(match byZ r _ with|some x=>some x|none=>if (_==a1)=true then some (a2:Int) else none)=some z;cases hq:byZ r (zat L t).name with
   |some x=>exact⟨x,rfl⟩
   |none=>
    rcases mem_cons.1 h with h|h
    ·exact⟨a2,by dsimp only;rw[if_pos ((zdC _ _).2 h)]⟩
    ·obtain⟨z,hz⟩:=ih h;rw[hq]at hz;cases hz
 obtain⟨z,hz⟩:=key D hin;obtain⟨u,rfl,hu⟩:=zno hz;obtain⟨j,hj⟩:=List.getElem?_of_mem hu;have hjn:(D.map Prod.fst)[j]?=some (zat L t).name:=by rw[List.getElem?_map,hj];rfl
 rw[hS.nm,List.getElem?_map]at hjn;cases hq:(za0 L ns)[j]? with
 |none=>rw[hq]at hjn;cases hjn
 |some v=>
  rw[hq]at hjn;have hvn:v.name=(zat L t).name:=Option.some.inj hjn;obtain⟨b1,b2,b3⟩:=hS.is j v _ hq hj;have hvm:=mem_of_getElem? hq;obtain⟨u2,n2,c1,c2,c3,c4⟩:=(zj5 hg hns).1 hvm;have hw:v.w=(zat L t).w:=by rw[c4]at hvn ⊢;exact name_w hg (mem_of_getElem? c2) (mem_of_getElem? (zcK hb)) c3 h4 hvn
  exact⟨u,v,hvm,hvn,hw,hz,b1,b2,b3⟩
theorem znF{lim:Int}(hlim:lim≤0)(Gv:List VV):zmC lim false (byL D) (zat s.1) (posts s.1 ns []) (s.1,s.2,fun _=>0)∧(∀t∈posts s.1 ns [],(zat s.1 t).op=4→∀u:Nat,byZ D (zat s.1 t).name=some (u:Int)→(zat s.1 u).w=(zat s.1 t).w) ∧
  zb6 (zck lim false (byL D) (zat s.1) (posts s.1 ns []) (s.1,s.2,fun _=>0)).1 (zck lim false (byL D) (zat s.1) (posts s.1 ns []) (s.1,s.2,fun _=>0)).2.1∧(∃M,(zck lim false (byL D) (zat s.1) (posts s.1 ns []) (s.1,s.2,fun _=>0)).1=s.1++M) ∧
  ∀t∈ns,MadeM s.1 (zb5 Gv) (zb5 (Gv.map (zch tail))) (zck lim false (byL D) (zat s.1) (posts s.1 ns []) (s.1,s.2,fun _=>0)) t:=by
 obtain⟨M,hM⟩:=hS.pre;have hns':∀t∈ns,1≤t∧t≤s.1.length:=fun t ht=>by have:=hns t ht;rw[hM,length_append];omega
 obtain⟨p1,p2,p3,p4⟩:=zb8 hS.good hns';have lf:∀t∈posts s.1 ns [],(zat s.1 t).op=4→byL D (zat s.1 t)≠0:=fun t ht h4=>by obtain⟨u,v,_,_,_,hz,b1,_⟩:=spl_by hg hns hS ht h4;unfold byL;rw[hz];show (u:Int)≠0;omega
 obtain⟨a1,a2,a3,a4⟩:=znT hlim (always:=false) (leaf:=byL D) (L0:=s.1) (K:=s.2) (f:=zb5 (Gv.map (zch tail))) (f':=zb5 Gv) (KI:=fun _=>True) hS.good p2 p3 (fun K' _ t ht h4 h0=>absurd h0 (lf t ht h4)) (fun _=>⟨[],(append_nil _).symm⟩) hS.good.dag
  (fun t ht h4 _=>by
   obtain⟨u,v,_,hvn,hw,hz,b1,b2,b3⟩:=spl_by hg hns hS ht h4;refine⟨u,by unfold byL;rw[hz];rfl,b1,b2,by rw[b3];exact hw,?_⟩;have hn:=zcK (L:=s.1) ⟨b1,b2⟩;rw[b3]at hn;have e:vfn s.1 (zb5 (Gv.map (zch tail))) u=_:=zeW hS.good.dag (valF s.1 (zb5 (Gv.map (zch tail)))) 0#64 b1 hn;rw[e];unfold valF;rw[if_pos (show (splN tail v).op=4 from rfl)];show zb5 _ (v.name++tail)=_
   rw[tell_tail,hvn])
  (fun t ht h4 h0=>absurd h0 (lf t ht h4)) (posts s.1 ns []) 0 (s.1,s.2,fun _=>0) p1 rfl hS.good ⟨[],(append_nil _).symm⟩ trivial (fun u h=>by cases h)
 refine⟨a1,fun t ht h4 u hz=>?_,a2,a3,fun t ht=>a4 t (p4 t ht)⟩;obtain⟨u',v,_,hvn,hw,hz',b1,b2,b3⟩:=spl_by hg hns hS ht h4;rw[hz']at hz;have:u'=u:=by have:=Option.some.inj hz;omega
 subst this;rw[b3];exact hw
end
theorem nm_loop{B:Hp}{x:Value}{V:List VV}(hx:Rdb B 3 x V.length (za4 V))(hl:V.length≤2^40):∀(r:List VV) (i:Nat) (H:Hp) (acc:Value),V.drop i=r→i≤V.length→Own B H [⟨1,acc,((V.take i).map VV.name).length,strs ((V.take i).map VV.name)⟩] →
  ∃H' acc',zaq (zay RR x) [acc,.int .i64 (i:Int)] H=some (.exit 0,[acc',.int .i64 (V.length:Int)],H')∧Own B H' [⟨1,acc',(V.map VV.name).length,strs (V.map VV.name)⟩]
 |[],i,H,acc,hr,hi,h=>by
  have hil:i=V.length:=by have:=congrArg List.length hr;rw[length_drop,length_nil]at this;omega
  subst hil;rw[take_length]at h;refine⟨H,acc,?_,h⟩;have hxH:Rdb H 3 x V.length (za4 V):=hx.keep' (fun j hj=>h.old j (hx.lt hj)) h.next;have:zay RR x [acc,.int .i64 (V.length:Int)] H=some (.exit 0,[acc,.int .i64 (V.length:Int)],H):=by unfold zay;simp only[qg0,qg1];rw[hxH.len,lF (Int.lt_irrefl _)]
  rw[zah,this];rfl
 |v::r,i,H,acc,hr,hi,h=>by
  have hlt:i<V.length:=by have:=congrArg List.length hr;rw[length_drop,length_cons]at this;omega
  have hv:V[i]?=some v:=by
   have:(V.drop i)[0]?=some v:=by rw[hr];rfl
   rwa [List.getElem?_drop,Nat.add_zero]at this
  have hr2:V.drop (i+1)=r:=by rw[←drop_drop,hr];rfl
  have ht:V.take (i+1)=V.take i++[v]:=by rw[take_add_one,hv];rfl
  have hxH:Rdb H 3 x V.length (za4 V):=hx.keep' (fun j hj=>h.old j (hx.lt hj)) h.next;obtain⟨y,_,y1,_,y2⟩:=Rdb.vv hxH hv;have w1:IntKind.i64.wrap ((i:Int)+1)=((i+1:Nat):Int):=zaw (by omega) (by omega);have hml:((V.take i).map VV.name).length≤2^40:=by rw[length_map,length_take];omega
  obtain⟨acc1,H1,e1,o1⟩:=Own.push h (bytes:=16) (zs:=[.string ⟨#[]⟩]) (x:=.string v.name) (by decide) (by decide) rfl rfl rfl (by omega);have hst:strs ((V.take (i+1)).map VV.name)=strs ((V.take i).map VV.name)++zab (.string v.name):=by rw[ht,map_append,znC];rfl
  have hln:((V.take (i+1)).map VV.name).length=((V.take i).map VV.name).length+1:=by rw[ht,map_append,length_append];rfl
  rw[←hst,←hln]at o1;obtain⟨H',acc',g1,g2⟩:=nm_loop hx hl r (i+1) H1 acc1 hr2 hlt o1;refine⟨H',acc',?_,g2⟩;have:zay RR x [acc,.int .i64 (i:Int)] H=some (.next,[acc1,.int .i64 ((i+1:Nat):Int)],H1):=by unfold zay;simp only[qg0,qg1];rw[hxH.len,lT (by omega),y1,zaP,y2 _ 0 (.string v.name) rfl,e1,zaZ,w1]
  rw[zah,this];exact g1
theorem spl_name{l:List VV}{i:Nat}{v:VV}{s:ByteArray}(h:l[i]?=some v):spl (za4 l) (i*3+0) (zab (.string s))=za4 (l.take i++[{ v with name:=s }]++l.drop (i+1)):=by
 have hlt:=(List.getElem?_eq_some_iff.1 h).1;have e:l=l.take i++[v]++l.drop (i+1):=by
  have h1:l.take (i+1)=l.take i++[v]:=by rw[take_add_one,h];rfl
  rw[←h1,take_append_drop]
 have hl:(za4 (l.take i)).length=i*3:=by rw[zk4,length_take];congr 1;omega
 have hc:za4 l=za4 (l.take i)++(za4 [v]++za4 (l.drop (i+1))):=by rw[←zeI,←zeI,←append_assoc,←e]
 rw[show i*3+0=i*3 from rfl,hc,append_assoc,zeI,zeI];unfold spl;rw[List.take_left' hl];have:(za4 (l.take i)++(za4 [v]++za4 (l.drop (i+1)))).drop (i*3+(zab (Value.string s)).length)=(za4 [v]++za4 (l.drop (i+1))).drop 1:=by rw[←hl,drop_append];have:(zab (Value.string s)).length=1:=rfl;rw[this,drop_of_length_le (by omega),nil_append,show (za4 (l.take i)).length+1-(za4 (l.take i)).length=1 by omega]
 rw[this,append_assoc];rfl
theorem znR{v:Value}{Gv:List VV}(hl:Gv.length≤2^40){tail:ByteArray}(htl:tail.size≤2^40)(h24:∀u∈Gv,u.name.size≤24):∀(r:List VV) (i:Nat) (H:Hp),Gv.drop i=r→i≤Gv.length→Vec H 3 v Gv.length (za4 ((Gv.take i).map (zch tail)++r)) →
  ∃H',zaq (zax RR (.string tail) v) [.int .i64 (i:Int)] H=some (.exit 2,[.int .i64 (Gv.length:Int)],H')∧Vec H' 3 v Gv.length (za4 (Gv.map (zch tail)))∧Frm (Id v) H H'
 |[],i,H,hr,hi,h=>by
  have hil:i=Gv.length:=by have:=congrArg List.length hr;rw[length_drop,length_nil]at this;omega
  subst hil;rw[take_length,append_nil]at h;refine⟨H,?_,h,Frm.refl _ _⟩;have:zax RR (.string tail) v [.int .i64 (Gv.length:Int)] H=some (.exit 2,[.int .i64 (Gv.length:Int)],H):=by unfold zax;simp only[qg0];rw[h.len,lF (Int.lt_irrefl _)]
  rw[zah,this];rfl
 |u::r,i,H,hr,hi,h=>by
  have hlt:i<Gv.length:=by have:=congrArg List.length hr;rw[length_drop,length_cons]at this;omega
  have hv:Gv[i]?=some u:=by
   have:(Gv.drop i)[0]?=some u:=by rw[hr];rfl
   rwa [List.getElem?_drop,Nat.add_zero]at this
  have hr2:Gv.drop (i+1)=r:=by rw[←drop_drop,hr];rfl
  have ht:Gv.take (i+1)=Gv.take i++[u]:=by rw[take_add_one,hv];rfl
  have h24u:=h24 u (mem_of_getElem? hv);have hpl:((Gv.take i).map (zch tail)).length=i:=by rw[length_map,length_take];omega
  have hat:((Gv.take i).map (zch tail)++u::r)[i]?=some u:=by rw[List.getElem?_append_right (by omega),hpl,Nat.sub_self];rfl
  have hlen:((Gv.take i).map (zch tail)++u::r).length=Gv.length:=by rw[←hr,length_append,hpl,length_drop];omega
  have hR:Rdb H 3 v ((Gv.take i).map (zch tail)++u::r).length (za4 ((Gv.take i).map (zch tail)++u::r)):=by rw[hlen];exact h.rd
  obtain⟨y,y0,y1,_,y2⟩:=Rdb.vv hR hat;have hsz:=h.size;obtain⟨H1,a1,a2,a3,a4⟩:=h.set (m:=1) (o:=i*3+0) (x:=.string (u.name++tail)) y0 rfl (by omega) rfl
  rw[spl_name hat,List.take_left' hpl,show ((Gv.take i).map (zch tail)++u::r).drop (i+1)=r by
   rw[drop_append,drop_of_length_le (by omega),hpl,show i+1-i=1 by omega];rfl]at a2
  have hmap:(Gv.take (i+1)).map (zch tail)=(Gv.take i).map (zch tail)++[{ u with name:=u.name++tail }]:=by rw[ht,map_append];rfl
  rw[←hmap]at a2;obtain⟨H',g1,g2,g3⟩:=znR hl htl h24 r (i+1) H1 hr2 hlt a2;have w1:IntKind.i64.wrap ((i:Int)+1)=((i+1:Nat):Int):=zaw (by omega) (by omega);refine⟨H',?_,g2,a3.trans g3 fun j q=>.inl q⟩;have:zax RR (.string tail) v [.int .i64 (i:Int)] H=some (.next,[.int .i64 ((i+1:Nat):Int)],H1):=by unfold zax;simp only[qg0];rw[h.len,lT (by omega),y1,zaP,y2 _ 0 (.string u.name) rfl,s_cat _ _ _ (by omega),y1,zaP,a1,zaZ,w1]
  rw[zah,this];exact g1
theorem zjn{lim:Int}{always:Bool}{leaf:Nd→Int}{nd:Nat→Nd}:∀(r:List Nat) (s:RS),(zck lim always leaf nd r s).1.length≤s.1.length+r.length
 |[],s=>Nat.le_refl _
 |t::r,s=>by show (zck lim always leaf nd r (zbq lim always leaf (t:Int) (nd t) s).2).1.length≤_;have h1:=zjn r (zbq lim always leaf (t:Int) (nd t) s).2 (lim:=lim) (always:=always) (leaf:=leaf) (nd:=nd);have h2:=zhX (lim:=lim) (always:=always) (leaf:=leaf) (t:=(t:Int)) (n:=nd t) (s:=s);rw[length_cons];omega
section
variable {L:List Nd}{K:List (ByteArray×Int)}(hg:zb6 L K){ns:List Nat}(hns:∀t∈ns,1≤t∧t≤L.length){tail:ByteArray}{s:List Nd×List (ByteArray×Int)}{D:List (ByteArray×Nat)}(hS:Spl tail L (za0 L ns) s D){nums:List Int}(hn:∀z∈nums,0≤z∧z<18446744073709551616)
 {L2:List Nd}{K2:List (ByteArray×Int)}(hg2:zb6 L2 K2)(hp2:∃M,L2=s.1++M)
include hg hns hS hn hg2 hp2
theorem old_vals:zeo L2 ns (za7 nums 0 (za0 L ns))=(0,ns.map (vfn L2 (zb5 (za7 nums 0 (za0 L ns))))):=by
 obtain⟨M2,hM2⟩:=hp2;obtain⟨M,hM⟩:=hS.pre;have hL2:L2=L++(M++M2):=by rw[hM2,hM,append_assoc]
 have hd2:=hg2.dag;rw[hL2]at hd2 ⊢;obtain⟨_,p2,_⟩:=zb8 hg hns;unfold zeo;rw[zpc hg hns hn,if_neg (by decide),zlv hg.dag hd2 hns,if_neg];intro q;obtain⟨u,hu,h⟩:=any_eq_true.1 q;have hb:=p2 u hu;have hq:=zcK hb;have e:=zpd hg hns hn hu;rw[zfQ hq]at e;rw[zfQ (L:=L++(M++M2)) (n:=zat L u) (by rw[List.getElem?_append_left (by omega)];exact hq),e]at h;cases h
theorem new_told(hnall:∀u∈za0 L ns,zbD (u.name++tail)=true):zfr ((za7 nums 0 (za0 L ns)).map (zch tail))=0:=by
 have hvn:=(zeq _ _).1 (ze1 hg hns);have hnames:((za7 nums 0 (za0 L ns)).map (zch tail)).map VV.name=((za0 L ns).map VV.name).map (fun x=>x++tail):=by rw[←zfL nums (za0 L ns) 0,map_map,map_map];rfl
 have h1:nmOk [] (((za7 nums 0 (za0 L ns)).map (zch tail)).map VV.name)=true:=by
  rw[hnames,zeq];refine⟨fun x hx=>?_,?_,fun x _ h=>by cases h⟩
  ·obtain⟨y,hy,rfl⟩:=mem_map.1 hx;obtain⟨u,hu,rfl⟩:=mem_map.1 hy;exact hnall u hu
  ·have key:∀l:List ByteArray,l.Nodup→(l.map (fun x=>x++tail)).Nodup:=by
    intro l;induction l with
    |nil=>intro _;exact nodup_nil
    |cons a r ih=>
     intro h;obtain⟨h1,h2⟩:=nodup_cons.1 h;rw[map_cons,nodup_cons];refine⟨fun q=>?_,ih h2⟩;obtain⟨b,hb,e⟩:=mem_map.1 q;exact h1 (by rw[←cat_inj e];exact hb)
   exact key _ hvn.2.1
 have h2:((za7 nums 0 (za0 L ns)).map (zch tail)).all wdOk=true:=by rw[all_map];exact zkO nums (fun z hz=>(hn z hz).1) _ _ (znw hg hns)
 unfold zfr;rw[h1,if_pos rfl,h2,if_pos rfl]
theorem new_vals(hnall:∀u∈za0 L ns,zbD (u.name++tail)=true){ms:List Nat}(hms:∀t∈ms,1≤t∧t≤L2.length):zeo L2 ms ((za7 nums 0 (za0 L ns)).map (zch tail))=(0,ms.map (vfn L2 (zb5 ((za7 nums 0 (za0 L ns)).map (zch tail))))):=by
 obtain⟨M2,hM2⟩:=hp2;obtain⟨_,p2,_⟩:=zb8 hg2 hms;have ht:=new_told hg hns hS hn hg2 ⟨M2,hM2⟩ hnall;unfold zeo;rw[ht,if_neg (by decide),if_neg];intro q;obtain⟨u,hu,h⟩:=any_eq_true.1 q;have hb:=p2 u hu;have hq:=zcK hb;rw[zfQ hq,Bool.and_eq_true]at h;obtain⟨h4,h⟩:=h;have h4:(zat L2 u).op=4:=of_decide_eq_true h4;cases hf:fndV (zat L2 u).name ((za7 nums 0 (za0 L ns)).map (zch tail)) with
 |none=>rw[hf]at h;cases h
 |some w=>
  rw[hf]at h;have hne:w.w≠(zat L2 u).w:=of_decide_eq_true h;obtain⟨hwm,hwn⟩:=zgl hf;obtain⟨w0,hw0,rfl⟩:=mem_map.1 hwm;obtain⟨_,a,ha,an,aw⟩:=zeY hn _ _ w0 hw0;obtain⟨j,hj⟩:=List.getElem?_of_mem ha;have hjl:=(List.getElem?_eq_some_iff.1 hj).1;have hdl:D.length=(za0 L ns).length:=by have:=congrArg List.length hS.nm;rwa [length_map,length_map]at this
  obtain⟨b1,b2,b3⟩:=hS.is j a D[j] hj (List.getElem?_eq_getElem (by omega));have hn1:=zcK (L:=s.1) ⟨b1,b2⟩;rw[b3]at hn1;have hmem:splN tail a∈L2:=by rw[hM2];exact mem_append_left _ (mem_of_getElem? hn1)
  have hww:a.w=(zat L2 u).w:=name_w hg2 hmem (mem_of_getElem? hq) rfl h4 (by
   show a.name++tail=_;rw[an]
   exact hwn)
  exact hne (by rw[←hww];exact aw.symm)
end
theorem run8p(l:List UInt8)(hl:l.length≤2^20){x:Value}{nums:List Int}{H:Hp}(hx:Rdb H 1 x nums.length (u64I nums))(hn:∀z∈nums,0≤z∧z<18446744073709551616){tail:ByteArray}(htl:tail.size≤2^20)(hL:Laid H) :
  ∃H',RR Bz [str l,x,.string tail] H=some (.bool true,H'):=by
 have hr:=zc3 E0 rfl (str l) x (.string tail) H;rw[zc6]at hr;have tr:∀{A B C:Hp},Frm (fun _=>False) A B→Frm (fun _=>False) B C→Frm (fun _=>False) A C:=fun a b=>a.trans b fun j q=>q.elim;have e0:∀x:Int,¬(x≠x):=fun x q=>q rfl;obtain⟨H1,e1,f1⟩:=c_live hL;rw[zag e1,zbQ,zad,Bool.not_true,zaG]at hr;have hlo:=c_lload (hL.keep f1 fun j q=>q.elim) l (by omega);cases hr0:zfF 0 (zcX l) 0 [] [] [] with
 |bad ln e=>
  rw[hr0]at hlo;obtain⟨H2,e2,f2⟩:=hlo;rw[zag e2,s_t3a,s_t3b,s_t3c,zbQ,zad,Bool.not_false,zaV]at hr;exact⟨H2,hr⟩
 |good L K q=>
  rw[hr0]at hlo;obtain⟨H2,st,f,g,sl,rv,e2,f2,s2,r2,h2a,h2b,h2c⟩:=hlo;obtain⟨l1,l2⟩:=load_bd hr0;obtain⟨hg,hqb⟩:=zlV hr0;obtain⟨ns,rfl,hns⟩:∃ns:List Nat,q=ns.map (fun (t:Nat)=>(t:Int))∧∀t∈ns,1≤t∧t≤L.length:=nats q (all_eq_true.2 fun t ht=>zaT.2 (hqb t ht));rw[length_map]at l2 r2;rw[←zbP]at r2;have hrI:∀{H:Hp} {rv:Value},Rdb H 1 rv ns.length (ints ns)→Rdb H 1 rv (ns.map fun (t:Nat)=>(t:Int)).length (zcc (ns.map fun (t:Nat)=>(t:Int))):=fun h=>by rw[length_map,←zbP];exact h
  have hlenA:=zk3 hg.dag hns;have kf:∀{A B:Hp} {sl:Value},StF A st 0 L K sl f g→Frm (fun _=>False) A B→StF B st 0 L K sl f g:=fun s k=>s.keep (fun j hj=>k.same j (s.foot_lt hj) fun q=>q) k.next;obtain⟨H3,av,e3,m3⟩:=c_vars s2 hg.dag (by omega) (hrI r2.rd).o (by rw[length_map];omega);rw[znx hns]at e3 m3;dsimp only at e3 m3;obtain⟨H4,nv,e4,o4⟩:=nm_loop m3.vec.rd (by omega) (za0 L ns) 0 H3 (.slice none 0 0) rfl (Nat.zero_le _) ((Own.nil H3).addNil 1);have e4:zaq (zay RR av) [.slice none 0 0,.int .i64 0] H3=_:=e4;have m4:zen 1 H3 H4 nv _ _:=zen.of o4;have f34:=m4.frm;have f13:=tr f2 m3.frm;obtain⟨H5,vv,e5,m5⟩:=c_drawn (m3.vec.rd.keep f34 fun _ _ q=>q) (by omega) (hx.keep (tr f1 (tr f13 f34)) fun _ _ q=>q) (znw hg hns) hn;have f25:=tr (tr m3.frm f34) m5.frm;have s5:=kf s2 f25;have n2:∀j,Foot st f g sl j→j<H2.next:=fun j hj=>s2.foot_lt hj;have n3:=m3.next;have n4:=m4.next;have n5:=m5.next;have nv5:=m4.vec.keep m5.frm fun _ _ q=>q;rw[length_map]at nv5;have hvn:=ze1 hg hns;obtain⟨nm1,nm2,_⟩:=(zeq _ _).1 hvn;have h24:∀u∈za0 L ns,u.name.size≤24:=fun u hu=>by have:=nm1 u.name (mem_map_of_mem hu);unfold zbD at this;simp only[Bool.and_eq_true,decide_eq_true_eq]at this;omega
  have r5:=r2.keep f25 fun _ _ q=>q;rw[zag e2,s_t3a,s_t3b,s_t3c,zbQ,zad,Bool.not_true,zaG,zag e3,x01,zag (c_no _ _),zbd,bF (e0 _),e4,zao,za8,zaD,zag e5]at hr;simp only[qg0]at hr
  rcases c_split (lim:=0) s5 hg (by omega) r5.rd h2c hns (by omega) nv5.rd (fun j hj hf=>by have:=m4.new j hj;have:=n2 j hf;omega) (tail:=tail) (by omega) (fun s D hS=>by
    obtain⟨a1,a2,_⟩:=znF hg hns hS (lim:=0) (by decide) []
    exact⟨a1,a2⟩) with⟨H6,e,he,g1⟩|⟨H6,v,s,D,sl6,g1,hS,hnall,s6,v6,v6n,f6,ft6⟩
  ·rw[zag g1,x01,zag (c_no _ _),zbd,bT he,(Vec.nil H6 1).len,zaY]at hr;exact⟨H6,hr⟩
  ·obtain⟨a1,a2,hg2,hp2,hmd⟩:=znF hg hns hS (lim:=0) (by decide) (za7 nums 0 (za0 L ns));have hns1:∀t∈ns,1≤t∧t≤s.1.length:=fun t ht=>by obtain⟨M,hM⟩:=hS.pre;have:=hns t ht;rw[hM,length_append];omega
   have hpl:(posts s.1 ns []).length≤s.1.length:=Told.len ((⟨nodup_nil,fun x h=>by cases h⟩:Told s.1.length []).posts hS.good.dag hns1);have hlen2:=zjn (lim:=0) (always:=false) (leaf:=byL D) (nd:=zat s.1) (posts s.1 ns []) (s.1,s.2,fun _=>0);have hslen:=hS.len;have hlen2:(zck 0 false (byL D) (zat s.1) (posts s.1 ns []) (s.1,s.2,fun _=>0)).1.length≤s.1.length+(posts s.1 ns []).length:=hlen2;have ov:=old_vals hg hns hS hn hg2 hp2;have nvl:=fun ms hms=>new_vals hg hns hS hn hg2 hp2 hnall (ms:=ms) hms;generalize zck 0 false (byL D) (zat s.1) (posts s.1 ns []) (s.1,s.2,fun _=>0)=R at *;obtain⟨L2,K2,tm⟩:=R;dsimp only at *;have hok5:∀v∈za7 nums 0 (za0 L ns),v.Ok:=fun v hv=>(zeY hn _ _ v hv).1;have hn6:=f6.next;have vlt:∀j,Id vv j→H4.next≤j∧j<H5.next:=fun j hj=>⟨m5.new j hj,m5.vec.lt hj⟩
   have r6:=r5.keep f6 h2c;have vv6:=m5.vec.keep f6 fun j hj hf=>by have:=vlt j hj;have:=n2 j hf;omega
   have hns2:∀t∈ns,1≤t∧t≤L2.length:=fun t ht=>by obtain⟨M,hM⟩:=hp2;have:=hns1 t ht;rw[hM,length_append];omega
   obtain⟨H7,wa,e7,m7⟩:=zhF s6 hg2 (by omega) (hrI r6.rd).o (by rw[length_map];omega) vv6.rd (by rw[zgm];omega) hok5;rw[zjb hns2,ov]at e7 m7;have f67:Frm (fun _=>False) H6 H7:=⟨m7.next,fun j hj _=>m7.old j hj⟩
   have vv7:=vv6.keep f67 fun _ _ q=>q;have hG24:∀u∈za7 nums 0 (za0 L ns),u.name.size≤24:=fun u hu=>by obtain⟨_,a,ha,an,_⟩:=zeY hn _ _ u hu;rw[←an];exact h24 a ha
   obtain⟨H8,e8,vv8,f8⟩:=znR (tail:=tail) (by rw[zgm];omega) (by omega) hG24 (za7 nums 0 (za0 L ns)) 0 H7 rfl (Nat.zero_le _) vv7;have e8:zaq (zax RR (.string tail) vv) [.int .i64 0] H7=_:=e8;have s8:StF H8 st 0 L2 K2 sl6 f g:=by
    have s7:StF H7 st 0 L2 K2 sl6 f g:=s6.keep (fun j hj=>f67.same j (s6.foot_lt hj) fun q=>q) f67.next
    exact s7.keep (fun j hj=>f8.same j (s7.foot_lt hj) (fun hq=>by
     have:=vlt j hq;rcases ft6 j hj with z|z
     ·have:=n2 j z;omega
     ·omega)) f8.next
   obtain⟨ms,hms1,hms2,hms3⟩:∃ms:List Nat,(ns.map fun (t:Nat)=>tm (t:Int))=ms.map (fun (t:Nat)=>(t:Int))∧(∀t∈ms,1≤t∧t≤L2.length)∧ms.map (vfn L2 (zb5 ((za7 nums 0 (za0 L ns)).map (zch tail))))=ns.map (vfn L2 (zb5 (za7 nums 0 (za0 L ns)))):=by
    have key:∀l:List Nat,(∀t∈l,t∈ns)→∃ms:List Nat,(l.map fun (t:Nat)=>tm (t:Int))=ms.map (fun (t:Nat)=>(t:Int))∧(∀t∈ms,1≤t∧t≤L2.length)∧ms.map (vfn L2 (zb5 ((za7 nums 0 (za0 L ns)).map (zch tail))))=l.map (vfn L2 (zb5 (za7 nums 0 (za0 L ns)))):=by
     intro l;induction l with
     |nil=>intro _;exact⟨[],rfl,fun t h=>(by cases h),rfl⟩
     |cons t r ih=>
      intro h;obtain⟨ms,h1,h2,h3⟩:=ih fun u hu=>h u (mem_cons_of_mem _ hu);obtain⟨v,v1,v2,v3,_,v5⟩:=(hmd t (h t (mem_cons_self ..))).ex;have htb:=hns1 t (h t (mem_cons_self ..));have v1:tm (t:Int)=(v:Int):=v1;refine⟨v::ms,by rw[map_cons,map_cons,h1,v1],fun u hu=>?_,?_⟩
      ·rcases mem_cons.1 hu with rfl|hu
       ·exact⟨v2,v3⟩
       ·exact h2 u hu
      ·rw[map_cons,map_cons,h3];congr 1;have v5:vfn L2 (zb5 ((za7 nums 0 (za0 L ns)).map (zch tail))) v=_:=v5;rw[v5];obtain⟨M,hM⟩:=hp2;have hd2:=hg2.dag;rw[hM]at hd2 ⊢;exact(zj4 hS.good.dag hd2 htb.1 htb.2).symm
    exact key ns fun t h=>h
   have hmsl:ms.length=ns.length:=by have:=congrArg List.length hms1;rw[length_map,length_map]at this;exact this.symm
   rw[hms1]at v6;have v8:Vec H8 1 v ns.length (zcc (ms.map fun (t:Nat)=>(t:Int))):=(v6.keep f67 fun _ _ q=>q).keep f8 (fun j hj hq=>by have:=vlt j hq;have:=v6n j hj;omega);have hok8:∀u∈(za7 nums 0 (za0 L ns)).map (zch tail),u.Ok:=fun u hu=>by obtain⟨w,hw,rfl⟩:=mem_map.1 hu;exact hok5 w hw
   obtain⟨H9,wb,e9,m9⟩:=zhF s8 hg2 (by omega) (rs:=ms.map fun (t:Nat)=>(t:Int)) (x:=v) (by rw[length_map,hmsl];exact v8.rd.o) (by rw[length_map];omega) (Tv:=(za7 nums 0 (za0 L ns)).map (zch tail)) (y:=vv) (by rw[length_map];exact vv8.rd) (by rw[length_map,zgm];omega) hok8;rw[zjb hms2,nvl ms hms2,hms3]at e9 m9;have f89:Frm (fun _=>False) H8 H9:=⟨m9.next,fun j hj _=>m9.old j hj⟩
   have m7v:=m7.vec;have m9v:=m9.vec;dsimp only at m7v m9v e7 e9;have wa9:=(m7v.keep f8 (fun j hj hq=>by have:=vlt j hq;have:=m7.new j hj;omega)).keep f89 fun _ _ q=>q;have csw:=ziN wa9.rd m9v.rd (by rw[length_map];omega);rw[zag g1,x01,zag (c_no _ _),zbd,bF (e0 _),zag e7,x01,e8,zao,za8,zaD,zag e9,x01,zag (c_no _ _),eT rfl,zag (c_no _ _),eT rfl,zag csw]at hr;exact⟨H9,hr⟩
end Go.AM.N14
namespace Go.AM
open Go Go.ChangeShapes Go.WideShapes Go.ChangeAt Go.RowKit
end Go.AM
namespace Go.AM.N14
open List Go Go.AM Go.ChangeShapes Go.WideShapes Go.ChangeAt Go.RowKit
theorem flatU:flat PP 1 Ab=some [.int .u64]:=by kernel_rfl
theorem u64Dec(l:List Value)(h:OkL [.int .u64] l):∃o:Int,[Value.int .u64 o]=l∧(0≤o∧o<18446744073709551616):=by
 obtain⟨hl,hh⟩:=h;obtain⟨v,l,rfl,hl2⟩:=consL hl;obtain⟨_,e,n,rfl,p,q⟩:=hh 0 _ rfl;cases e;have:l=[]:=by cases l with|nil=>rfl|cons a t=>cases hl2
 subst this;have e1:IntKind.u64.min=0:=rfl;have e2:IntKind.u64.max=18446744073709551615:=rfl;exact⟨n,rfl,by omega,by omega⟩
theorem u64s_arg{HH:Type}{enc:TypeId×Value→HH}{W:World}{H:Hp}{β:Bt}(hR:Rel PP W H β)(hno:∀i o,H.get i=some o→o.own=false){b0:Nat}{v':Value}{dw:DataW HH}{ps:List MemPlace}
  (hval:Value.okWide PP W .any b0 A4 v') (hd:DataW.Trod enc PP W 0 (fun _=>true) true A4 v' dw ps) :
  ∃(v:Value) (H':Hp) (β':Bt) (os:List Int),Rel PP W H' β'∧(∀i o,H'.get i=some o→o.own=false)∧β.le β'∧VRel β' v v'∧Rdb H' 1 v os.length (u64I os)∧(∀o∈os,0≤o∧o<18446744073709551616)∧os.length≤Go.Proofs.YtcbmccpkhagckaaGreatDoor.Rows.uptoBulk dw∧Frm (fun _=>False) H H':=by
 obtain⟨v,H',β',g1,g2,g3,g4,g5⟩:=arg_flats (P:=PP) (t:=A4) (e:=Ab) (d:=1) (ks:=[.int .u64]) (by kernel_rfl) flatU (by kernel_rfl) (by decide) hR hno hval hd;rcases g5 with⟨rfl,rfl,rfl⟩|⟨L,es,sp,rfl,rfl,h1,rfl,h2⟩
 ·exact⟨_,_,β',[],g1,g2,g3,g4,.inl ⟨rfl,rfl,rfl⟩,fun o h=>(by cases h),by simp,Frm.refl _ _⟩
 ·obtain⟨os,h3,h4⟩:=decL (cells:=fun (t:Int)=>[Value.int .u64 t]) u64Dec L h1;have hfl:L.flatten=u64I os:=by
   rw[h3,←flatMap_def];clear h3 h1 g1 g2 g3 g4 h2 h4;induction os with
   |nil=>rfl
   |cons a t ih=>rw[flatMap_cons,ih];rfl
  have hll:L.length=os.length:=by rw[h3,length_map]
  refine⟨_,_,β',os,g1,g2,g3,g4,.inr ⟨H.next,L.length,[],false,?_,by omega,?_,?_,?_⟩,h4,?_,zcF _ _ _⟩
  ·rw[hll];rfl
  ·rw[get_new,if_pos rfl,hfl,append_nil]
  ·rw[u64I_len,Nat.mul_one]
  ·show H.next<H.next+1;omega
  ·have:=zoC es;simp only[Go.Proofs.YtcbmccpkhagckaaGreatDoor.Rows.uptoBulk];omega
end Go.AM.N14
namespace Go.AM
open Go Go.ChangeShapes Go.WideShapes Go.ChangeAt Go.RowKit Go.Proofs.YtcbmccpkhagckaaGreatDoor
abbrev zok:List (String×DataW Unit):=[("math/bits.deBruijn32tab",Rows.laid_math_bits_deBruijn32tab),("math/bits.deBruijn64tab",Rows.laid_math_bits_deBruijn64tab),("internal/strconv.uint64pow10",Rows.laid_internal_strconv_uint64pow10),("unicode/utf8.acceptRanges",Rows.laid_unicode_utf8_acceptRanges),("errors.errorType",Rows.laid_errors_errorType),
 ("strconv.ErrRange",Rows.laid_strconv_ErrRange),("strconv.ErrSyntax",Rows.laid_strconv_ErrSyntax),("unicode.White_Space",Rows.laid_unicode_White_Space),("strings.asciiSpace",Rows.laid_strings_asciiSpace),("unicode/utf8.first",Rows.laid_unicode_utf8_first)]
theorem laid_noH{W:World}(h:laidMetH PP zok W):laidMetH PP ziy W:=by
 have e1:zok.filter (fun x=>x.2.handleName?.isSome)=[("errors.errorType",Rows.laid_errors_errorType)]:=by kernel_rfl
 have e2:zok.filter (fun x=>x.2.handleName?.isNone)=ziy:=by kernel_rfl
 unfold laidMetH at h;rw[e1,e2]at h;exact h.1
noncomputable def zcq(os:Os):World:=
 { zlX os with heap:=(zlX os).heap.modify B4 fun
   |.cells _ t frozen=>.cells #[.iface Cg (.agg #[typeHandle PP AA])] t frozen
   |o=>o }
set_option maxRecDepth 1000000
theorem lh1(os:Os)(args:Array Value):LaidIn PP ((zcq os).forCall (fun _ _=>0) ⟨#[],args,[]⟩).memory (ziy.take 3) [BY,AQ,AD]:=
 LaidIn.of_run _ 8 (by kernel_rfl) (by kernel_rfl) (by kernel_rfl) (by kernel_rfl)
theorem lh2(os:Os)(args:Array Value):LaidIn PP ((zcq os).forCall (fun _ _=>0) ⟨#[],args,[]⟩).memory ((ziy.drop 3).take 4) [BX,Ax,Aw,BV,nS,nS+1,nS+2,nS+3]:=
 LaidIn.of_run _ 8 (by kernel_rfl) (by kernel_rfl) (by kernel_rfl) (by kernel_rfl)
theorem lh3(os:Os)(args:Array Value):LaidIn PP ((zcq os).forCall (fun _ _=>0) ⟨#[],args,[]⟩).memory ((ziy.drop 7).take 1) [AC]:=
 LaidIn.of_run _ 8 (by kernel_rfl) (by kernel_rfl) (by kernel_rfl) (by kernel_rfl)
theorem lh4(os:Os)(args:Array Value):LaidIn PP ((zcq os).forCall (fun _ _=>0) ⟨#[],args,[]⟩).memory (ziy.drop 8) [BW]:=
 LaidIn.of_run _ 8 (by kernel_rfl) (by kernel_rfl) (by kernel_rfl) (by kernel_rfl)
theorem laid_allH(os:Os)(args:Array Value):laidMetH PP zok ((zcq os).forCall (fun _ _=>0) ⟨#[],args,[]⟩).memory:=
 laidMetH_of_parts (((((lh1 os args).append (lh2 os args) (by kernel_rfl)).append (lh3 os args) (by kernel_rfl)).append (lh4 os args) (by kernel_rfl)).met) (by kernel_rfl)
end Go.AM
