/- Part of the proof of EvalCarryMeansUptoCardSaid: see the last file.  -/
import Derived.KernelRfl
import Derived.LaidHandle
import Derived.Test.YtcbmccpkhagckaaGreatDoorT1
import Derived.Test.YtcbmccpkhagckaaGreatDoorT3
import Derived.Test.YtcbmccpkhagckaaGreatDoorT4
set_option linter.unusedSimpArgs false
set_option linter.unusedVariables false
set_option linter.unusedSectionVars false
set_option maxRecDepth 100000
namespace Go.AM.N14
open List Go Go.AM
section
variable {L:List Nd}{K:List (ByteArray×Int)}(hg:zb8 L K){S:Nat→Prop}(hcl:∀t,S t→∀c∈kids L t,S c){G:ByteArray→W64}(hG:∀t n,1≤t→S t→L[t-1]?=some n→n.op=4→(G n.name).toNat≤(msk (wd n.w)).toNat)
theorem zgX(hg:zb8 L K):∀m∈L,0≤m.w∧m.w≤64:=fun m hm=>by have:¬(m.w<0∨m.w>64):=(hg.rt m hm).w;omega
theorem wT_64(hg:zb8 L K)(x:Int):0≤wT L 0 x∧wT L 0 x≤64:=by
 refine⟨wT_nn (zgX hg) x,?_⟩;unfold wT;split
 ·cases q:L[(x-1).toNat]? with
  |none=>show (0:Int)≤64;decide
  |some m=>exact(zgX hg m (mem_of_getElem? q)).2
 ·decide
include hg hcl hG
theorem vfn_le{t:Nat}(h1:1≤t)(h2:t≤L.length)(hs:S t):(vfn L G t).toNat≤(msk (wd (wT L 0 (t:Int)))).toNat:=
 fnA_ind hg.dag (valF L G) 0#64 hcl (Q:=fun t v=>v.toNat≤(msk (wd (wT L 0 (t:Int)))).toNat) (Nat.zero_le _) (fun t n h1 hs hn q1 q2 q3=>by
  have hlt:=(List.getElem?_eq_some_iff.1 hn).1;rw[wT_at ⟨h1,by omega⟩ hn 0];have hmem:=mem_of_getElem? hn;have ha:=hg.dag.a _ n hn;have hb:=hg.dag.b _ n hn;have hc:=hg.dag.c _ n hn;have ho:1≤n.op∧n.op≤33:=by have:¬(n.op<1∨n.op>33):=(hg.rt n hmem).op;omega
  unfold valF;split
  ·rename_i h4;exact hG t n h1 hs hn h4
  ·rename_i h4;rw[Int.toNat_of_nonneg (by omega)]at q1 q2 q3;exact val_le ho h4 (zgX hg n hmem) (hg.num n hmem) (x:=⟨wT L 0 n.a,0#64,0#64,fnA (valF L G) 0#64 L n.a.toNat,0#64⟩) (y:=⟨wT L 0 n.b,0#64,0#64,fnA (valF L G) 0#64 L n.b.toNat,0#64⟩) (z:=⟨wT L 0 n.c,0#64,0#64,fnA (valF L G) 0#64 L n.c.toNat,0#64⟩)
    ⟨wT_64 hg n.a,q1⟩ ⟨wT_64 hg n.b,q2⟩ ⟨wT_64 hg n.c,q3⟩ (zoI hg hmem h4)) t h1 h2 hs
theorem vok_in{t:Nat}(h1:1≤t)(hs:S t){n:Nd}(hn:L[t-1]?=some n)(h4:n.op≠4):Vok n (wT L 0 n.a).toNat (wT L 0 n.b).toNat (vfn L G n.a.toNat) (vfn L G n.b.toNat):=by
 have hmem:=mem_of_getElem? hn;have hlt:=(List.getElem?_eq_some_iff.1 hn).1;have ho:1≤n.op∧n.op≤33:=by have:¬(n.op<1∨n.op>33):=(hg.rt n hmem).op;omega
 have ha:=hg.dag.a _ n hn;have hb:=hg.dag.b _ n hn;have wa:=wT_64 hg n.a;have wb:=wT_64 hg n.b;have hkf:=(zfG hg.dag hn).2;have hkt:kids L t=zco n:=by unfold kids;rw[hn]
 have one:∀x:Int,(x=n.a∨x=n.b∨x=n.c)→0≤x→x<t→(wT L 0 x).toNat=0→(vfn L G x.toNat).toNat≤1:=fun x hx x0 x1 hw=>by
  by_cases q:x=0
  ·rw[q];exact Nat.zero_le _
  ·obtain⟨c,c1,c2⟩:=hkf x hx q;have hle:=vfn_le hg hcl hG (t:=c) (by omega) (by omega) (hcl t hs c (by rw[hkt];exact c1));have w0:=wT_nn (zgX hg) x;rw[c2,show wT L 0 x=0 by omega]at hle;rw[←c2,Int.toNat_natCast];exact hle
 exact vok_of (c:=wT L 0 n.c) ho h4 (zgX hg n hmem) (hg.num n hmem) (by omega) (by omega) (one n.a (.inl rfl) (by omega) (by omega)) (one n.b (.inr (.inl rfl)) (by omega) (by omega)) (by rw[Int.toNat_of_nonneg wa.1,Int.toNat_of_nonneg wb.1];exact zoI hg hmem h4)
end
theorem vnum{v:VV}(h:v.Ok):((BitVec.ofInt 64 v.num).toNat:Int)=v.num:=by have:=h.1;have:=h.2;rw[BitVec.toNat_ofInt];omega
theorem zl4{Tv:List VV}{s:ByteArray}{v:VV}(h:fndV s Tv=some v):zeq Tv s=BitVec.ofInt 64 v.num:=by unfold zeq;rw[h]
theorem zl5{Tv:List VV}{s:ByteArray}(h:fndV s Tv=none):zeq Tv s=0#64:=by unfold zeq;rw[h]
theorem zhx{L:List Nd}{Tv:List VV}{t:Nat}{n:Nd}(hn:L[t-1]?=some n):badV L Tv t=(decide (n.op=4)&&(match fndV n.name Tv with|some v=>decide (v.w≠n.w)|none=>false)):=by unfold badV;rw[hn]<;>rfl
theorem step_var{B:Hp}{p f g:Nat}{lim:Int}{L:List Nd}{K:List (ByteArray×Int)}{sl:Value}(hst:StF B p lim L K sl f g)(hL:(L.length:Int)≤4611686018427387904){v:Value}{out:List Nat}(hv:Rdb B 1 v out.length (ints out))(hol:out.length≤2^41)
  {m:Nat} {Tv:List VV} (hm:MapS B m VV.val (fun s=>fndV s Tv)) (hml:m<B.next) (hT:∀v∈Tv,v.Ok)
  {i t:Nat} (hi:out[i]?=some t) (ht:1≤t∧t≤L.length) {n:Nd} (hn:L[t-1]?=some n) (h4:n.op=4) {H:Hp} {m1 m2:Nat} {V W:Int→Int} (h:VS B H m1 m2 V W) (h0:V (t:Int)=0) :
  ∃H' V',VS B H' m1 m2 V' (fun x=>if x=(t:Int) then n.w else W x) ∧
   (badV L Tv t=false→zaz RR (.pointer (some ⟨p,0,none⟩)) v (.map (some m)) (.map (some m1)) (.map (some m2)) (.int .i64 (out.length:Int)) [.int .i64 (i:Int)] H=some (.next,[.int .i64 ((i+1:Nat):Int)],H')∧V' (t:Int)=((zeq Tv n.name).toNat:Int)∧∀x,x≠(t:Int)→V' x=V x) ∧
   (badV L Tv t=true→zaz RR (.pointer (some ⟨p,0,none⟩)) v (.map (some m)) (.map (some m1)) (.map (some m2)) (.int .i64 (out.length:Int)) [.int .i64 (i:Int)] H=some (.ret,[.tuple #[.slice none 0 0,.int .i64 71]],H')):=by
 have hlt:i<out.length:=(List.getElem?_eq_some_iff.1 hi).1;have hvH:Rdb H 1 v out.length (ints out):=hv.keep' (fun j hj=>h.old j (hv.lt hj)) h.next;have hvI:Rdb H 1 v (out.map fun (t:Nat)=>(t:Int)).length (zb6 (out.map fun (t:Nat)=>(t:Int))):=by rw[length_map,←zbS];exact hvH
 obtain⟨y,x1,x2⟩:=hvI.int (i:=i) (t:=(t:Int)) (by rw[List.getElem?_map,hi];rfl);have q:(i:Int)<(out.length:Int):=by omega
 have w1:IntKind.i64.wrap ((i:Int)+1)=((i+1:Nat):Int):=zaA (by omega) (by omega);have hstH:StF H p lim L K sl f g:=hst.keep (fun i hi=>h.old i (hst.foot_lt hi)) h.next;have hT':isT L (t:Int)=true:=za7.2 ⟨by omega,by omega⟩;have hnode:ze6 L (t:Int)=n:=by unfold ze6;rw[hT',if_pos rfl,show ((t:Int)-1).toNat=t-1 by omega,hn];rfl
 have e10:=Go.AM.c10 hstH.st hL (t:Int);rw[hnode,hT',if_pos rfl]at e10;obtain⟨H1,u2,h1⟩:=h.up2 (t:Int) n.w;have hm1:MapS H1 m VV.val (fun s=>fndV s Tv):=hm.keep (h1.old m hml);have d4:decide (n.op≠4)=false:=decide_eq_false (fun q=>q h4);have lk:∀{α:Type} (k:Value→Option α),zbj PP Ac (.agg #[.string ⟨#[]⟩,.int .i64 0,.int .u64 0]) (.map (some m)) (.string n.name) true H1 k=k (.tuple #[((fndV n.name Tv).getD noV).val,.bool (fndV n.name Tv).isSome]):=fun k=>by rw[noV_val,hm1.look2];cases fndV n.name Tv<;>rfl
 have head:∀X,(zaz RR (.pointer (some ⟨p,0,none⟩)) v (.map (some m)) (.map (some m1)) (.map (some m2)) (.int .i64 (out.length:Int)) [.int .i64 (i:Int)] H=X) ↔
   (zaa (.bool (fndV n.name Tv).isSome) fun b58=>br b58
    (zai 1 false ((fndV n.name Tv).getD noV).cells 1 fun v59=>
    zai 1 false n.cells 1 fun v60=>
    pBin PP .neq Aa v59 v60 fun v61=>
    zaa v61 fun b62=>br b62
    (some (.ret,[(.tuple #[(.slice none 0 0),(.int .i64 71)])],H1))
    (zai 1 false ((fndV n.name Tv).getD noV).cells 2 fun v63=>
    pUpd PP Aa (.map (some m1)) (.int .i64 (t:Int)) v63 H1 fun H64=>
    pBin PP .add Aa (.int .i64 (i:Int)) (.int .i64 1) fun v65=>
    some (.next,[v65],H64)))
    (pBin PP .add Aa (.int .i64 (i:Int)) (.int .i64 1) fun v66=>
    some (.next,[v66],H1)))=X:=fun X=>by
  unfold zaz;simp only[qg0];rw[lT q,x1,x2,zae e10,x01,spl7,zfT,u2,ze7,zbt,zac,d4,zaD,ncell6,lk,x01,splV]
 have hb:=zhx (Tv:=Tv) hn;rw[decide_eq_true h4,Bool.true_and]at hb;cases hq:fndV n.name Tv with
 |none=>
  rw[hq]at hb head;refine⟨H1,V,h1,fun _=>⟨?_,?_,fun x _=>rfl⟩,fun z=>?_⟩
  ·rw[head];rw[show (Option.isSome (none:Option VV))=false from rfl,zac,zaD,zaM,w1]
  ·rw[zl5 hq,h0];rfl
  ·rw[hb]at z;cases z
 |some w=>
  rw[hq]at hb head;have hwk:=hT w (zik hq).1;dsimp only at hb;by_cases e:w.w=n.w
  ·obtain⟨H2,u1,h2⟩:=h1.up1 (t:Int) w.num;refine⟨H2,_,h2,fun _=>⟨?_,?_,fun x hx=>?_⟩,fun z=>?_⟩
   ·rw[head];rw[show (Option.isSome (some w))=true from rfl,zac,zaP,show (some w).getD noV=w from rfl,zj2,zfT,zbt,bF (fun q=>q e),zl1,u1,zaM,w1]
   ·rw[if_pos rfl,zl4 hq,vnum hwk]
   ·rw[if_neg hx]
   ·rw[hb,decide_eq_false (fun q=>q e)]at z;cases z
  ·refine⟨H1,V,h1,fun z=>?_,fun _=>?_⟩
   ·rw[hb,decide_eq_true e]at z;cases z
   ·rw[head];rw[show (Option.isSome (some w))=true from rfl,zac,zaP,show (some w).getD noV=w from rfl,zj2,zfT,zbt,bT e]
section
variable {B:Hp}{p f g:Nat}{lim:Int}{L:List Nd}{K:List (ByteArray×Int)}{sl:Value}(hst:StF B p lim L K sl f g)(hL:(L.length:Int)≤4611686018427387904)(hd:Dag L)(hw:∀m∈L,0≤m.w∧m.w≤64)
 {v:Value}{out:List Nat}(hv:Rdb B 1 v out.length (ints out))(hol:out.length≤2^41)(hcl:zdk L out)(hnd:out.Nodup)(hbd:∀t∈out,1≤t∧t≤L.length)
 {m:Nat}{Tv:List VV}(hm:MapS B m VV.val (fun s=>fndV s Tv))(hml:m<B.next)(hT:∀v∈Tv,v.Ok)
 (hok:∀(i t:Nat) n,out[i]?=some t→(∀u∈out.take (i+1),badV L Tv u=false)→L[t-1]?=some n→n.op≠4→Vok n (wT L 0 n.a).toNat (wT L 0 n.b).toNat (vfn L (zeq Tv) n.a.toNat) (vfn L (zeq Tv) n.b.toNat)){m1 m2:Nat}
include hst hL hd hw hv hol hcl hbd hm hml hT hok hnd
theorem zj4:∀(k i:Nat) (H:Hp) (V W:Int→Int),i+k=out.length→VS B H m1 m2 V W→(∀x:Int,(∀t∈out.take i,(t:Int)≠x)→V x=0)→W 0=0→(∀t∈out.take i,V (t:Int)=((vfn L (zeq Tv) t).toNat:Int)∧W (t:Int)=wT L 0 (t:Int))→(∀u∈out.take i,badV L Tv u=false) →
  ∃H' V' W',VS B H' m1 m2 V' W' ∧
   ((out.drop i).any (badV L Tv)=false→zat (zaz RR (.pointer (some ⟨p,0,none⟩)) v (.map (some m)) (.map (some m1)) (.map (some m2)) (.int .i64 (out.length:Int))) [.int .i64 (i:Int)] H=some (.exit 0,[.int .i64 (out.length:Int)],H')∧∀t∈out,V' (t:Int)=((vfn L (zeq Tv) t).toNat:Int)) ∧
   ((out.drop i).any (badV L Tv)=true→zat (zaz RR (.pointer (some ⟨p,0,none⟩)) v (.map (some m)) (.map (some m1)) (.map (some m2)) (.int .i64 (out.length:Int))) [.int .i64 (i:Int)] H=some (.ret,[.tuple #[.slice none 0 0,.int .i64 71]],H'))
 |0,i,H,V,W,hk,h,_,_,hin,_=>by
  have:i=out.length:=by omega
  subst this;refine⟨H,V,W,h,fun _=>⟨?_,fun t ht=>(hin t (by rw[take_length];exact ht)).1⟩,fun q=>?_⟩
  ·rw[zak];have:zaz RR (.pointer (some ⟨p,0,none⟩)) v (.map (some m)) (.map (some m1)) (.map (some m2)) (.int .i64 (out.length:Int)) [.int .i64 (out.length:Int)] H=some (.exit 0,[.int .i64 (out.length:Int)],H):=by unfold zaz;simp only[qg0];rw[lF (Int.lt_irrefl _)]
   rw[this];rfl
  ·rw[drop_length]at q;cases q
 |k+1,i,H,V,W,hk,h,h0,hw0,hin,hgo=>by
  have hlt:i<out.length:=by omega
  have hi:out[i]?=some out[i]:=List.getElem?_eq_getElem hlt;have hdrop:out.drop i=out[i]::out.drop (i+1):=drop_eq_getElem_cons hlt;generalize out[i]=t at hi hdrop;have htk:out.take (i+1)=out.take i++[t]:=by rw[take_add_one,hi];rfl
  have ht:=hbd t (mem_of_getElem? hi);have hn:L[t-1]?=some (L[t-1]'(by omega)):=List.getElem?_eq_getElem (by omega);generalize L[t-1]'(by omega)=n at hn;have hnew:∀u∈out.take i,(u:Int)≠(t:Int):=fun u hu e=>by
   have e:u=t:=by omega
   subst e;have:=hnd;rw[←take_append_drop i out,hdrop]at this;exact(nodup_append.1 this).2.2 u hu u (mem_cons_self ..) rfl
  have hkf:=(zfG hd hn).2;have hkt:kids L t=zco n:=by unfold kids;rw[hn]
  have ha:=hd.a _ n hn;have hb:=hd.b _ n hn;have hc:=hd.c _ n hn;rw[hdrop,any_cons];have next:∀(H1:Hp) (V1:Int→Int),VS B H1 m1 m2 V1 (fun x=>if x=(t:Int) then n.w else W x)→V1 (t:Int)=((vfn L (zeq Tv) t).toNat:Int)→(∀x,x≠(t:Int)→V1 x=V x)→badV L Tv t=false →
    zaz RR (.pointer (some ⟨p,0,none⟩)) v (.map (some m)) (.map (some m1)) (.map (some m2)) (.int .i64 (out.length:Int)) [.int .i64 (i:Int)] H=some (.next,[.int .i64 ((i+1:Nat):Int)],H1) →
    ∃H' V' W',VS B H' m1 m2 V' W' ∧
     ((badV L Tv t||(out.drop (i+1)).any (badV L Tv))=false→zat (zaz RR (.pointer (some ⟨p,0,none⟩)) v (.map (some m)) (.map (some m1)) (.map (some m2)) (.int .i64 (out.length:Int))) [.int .i64 (i:Int)] H=some (.exit 0,[.int .i64 (out.length:Int)],H')∧∀t∈out,V' (t:Int)=((vfn L (zeq Tv) t).toNat:Int)) ∧
     ((badV L Tv t||(out.drop (i+1)).any (badV L Tv))=true→zat (zaz RR (.pointer (some ⟨p,0,none⟩)) v (.map (some m)) (.map (some m1)) (.map (some m2)) (.int .i64 (out.length:Int))) [.int .i64 (i:Int)] H=some (.ret,[.tuple #[.slice none 0 0,.int .i64 71]],H')):=fun H1 V1 h1 v1 v2 hb0 hs=>by
   obtain⟨H',V',W',g1,g2,g3⟩:=zj4 k (i+1) H1 V1 _ (by omega) h1 (fun x hx=>by
    rw[htk]at hx;rw[v2 x fun e=>hx t (mem_append_right _ (mem_singleton.2 rfl)) e.symm]
    exact h0 x fun u hu=>hx u (mem_append_left _ hu)) (by rw[if_neg (by omega)];exact hw0) (fun u hu=>by
    rw[htk]at hu;rcases mem_append.1 hu with hu|hu
    ·have hne:=hnew u hu;rw[if_neg hne,v2 _ hne];exact hin u hu
    ·rw[mem_singleton]at hu;subst hu;rw[if_pos rfl,wT_at ht hn]
     exact⟨v1,rfl⟩) (fun u hu=>by
    rw[htk]at hu;rcases mem_append.1 hu with hu|hu
    ·exact hgo u hu
    ·rw[mem_singleton]at hu;rw[hu];exact hb0)
   rw[hb0,Bool.false_or,zak,hs];exact⟨H',V',W',g1,g2,g3⟩
  by_cases h4:n.op=4
  ·obtain⟨H1,V1,h1,s1,s2⟩:=step_var hst hL hv hol hm hml hT hi ht hn h4 h (h0 _ hnew);cases hq:badV L Tv t with
   |false=>
    obtain⟨s1,s3,s4⟩:=s1 hq
    have:=next H1 V1 h1 (by
     rw[s3];unfold vfn;rw[zjp hd _ _ ht.1 hn];unfold valF
     rw[if_pos h4]) s4 hq s1
    rw[hq]at this;exact this
   |true=>
    refine⟨H1,V1,_,h1,fun z=>(by cases z),fun _=>?_⟩;rw[zak,s2 hq];rfl
  ·have hb0:badV L Tv t=false:=by rw[zhx hn,decide_eq_false h4];rfl
   have hvok:=hok i t n hi (fun u hu=>by
    rw[htk]at hu;rcases mem_append.1 hu with hu|hu
    ·exact hgo u hu
    ·rw[mem_singleton]at hu;rw[hu];exact hb0) hn h4
   have part:∀x:Int,x=n.a∨x=n.b∨x=n.c→0≤x→x<(t:Int)→V x=((vfn L (zeq Tv) x.toNat).toNat:Int)∧(if x=(t:Int) then n.w else W x)=((wT L 0 x).toNat:Int):=fun x hx h1 h2=>by
    rw[if_neg (by omega)];by_cases q:x=0
    ·subst q;rw[h0 0 (fun u hu=>by have:=hbd u (mem_of_mem_take hu);omega),hw0];refine⟨?_,by rw[wT_0];rfl⟩;rfl
    ·obtain⟨c,c1,c2⟩:=hkf x hx q;obtain⟨g1,g2⟩:=hin c (hcl i t hi c (by rw[hkt];exact c1));rw[←c2,g1,g2,Int.toNat_natCast];refine⟨rfl,?_⟩;have:=wT_nn hw (c:Int);omega
   obtain⟨pa1,pa2⟩:=part n.a (.inl rfl) (by omega) (by omega);obtain⟨pb1,pb2⟩:=part n.b (.inr (.inl rfl)) (by omega) (by omega);obtain⟨pc1,_⟩:=part n.c (.inr (.inr rfl)) (by omega) (by omega);obtain⟨H1,e1,h1⟩:=step_val hst hL hv hol hi ht hn h hvok pa2 pb2 pa1 pb1 pc1 (.map (some m))
   have:=next H1 _ h1 (by
    rw[if_pos rfl];unfold vfn;rw[zjp hd (valF L (zeq Tv)) _ ht.1 hn];show _=((valF L (zeq Tv) n _ _ _).toNat:Int)
    unfold valF
    rw[if_neg h4]) (fun x hx=>by rw[if_neg hx]) hb0 e1
   rw[hb0]at this;rw[hb0];exact this
end
end Go.AM.N14
namespace Go.AM.N14
open Go Go.AM
end Go.AM.N14
namespace Go.AM.N14
open List Go Go.AM
theorem told_le{v:VV}(h:v.Ok)(hw:wdOk v=true):(BitVec.ofInt 64 v.num).toNat≤(msk (wd v.w)).toNat:=by
 unfold wdOk at hw;simp only[Bool.and_eq_true,decide_eq_true_eq]at hw;obtain⟨⟨h1,h2⟩,h3⟩:=hw;have e:(if v.w<1 then (1:Int) else v.w)=((wd v.w:Nat):Int):=by unfold wd;split<;>omega
 have hn:=vnum h;rw[e,←hn,zoC (wd_pos v.w) (wd_le h2)]at h3;have h4:(BitVec.ofInt 64 v.num&&&msk (wd v.w)).toNat=(BitVec.ofInt 64 v.num).toNat:=by omega
 rw[←h4];exact zeg (wd_le h2) _
theorem toldE_0{Tv:List VV}(h:zhb Tv=0):nmOk [] (Tv.map VV.name)=true∧Tv.all wdOk=true:=by
 unfold zhb at h;split at h
 ·split at h
  ·exact⟨by assumption,by assumption⟩
  ·cases h
 ·cases h
theorem tell_le{L:List Nd}{Tv:List VV}(hT:∀v∈Tv,v.Ok)(h0:zhb Tv=0){t:Nat}{n:Nd}(hn:L[t-1]?=some n)(h4:n.op=4)(hb:badV L Tv t=false):(zeq Tv n.name).toNat≤(msk (wd n.w)).toNat:=by
 rw[zhx hn,decide_eq_true h4,Bool.true_and]at hb;cases hq:fndV n.name Tv with
 |none=>rw[zl5 hq];exact Nat.zero_le _
 |some w=>
  rw[hq]at hb;have hwm:=(zik hq).1;have e:w.w=n.w:=by have:=of_decide_eq_false hb;omega
  rw[zl4 hq,←e];exact told_le (hT w hwm) (all_eq_true.1 (toldE_0 h0).2 w hwm)
theorem vok_pre{L:List Nd}{K:List (ByteArray×Int)}(hg:zb8 L K){out:List Nat}(hcl:zdk L out){Tv:List VV}(hT:∀v∈Tv,v.Ok)(h0:zhb Tv=0)(hbd:∀t∈out,1≤t∧t≤L.length) :
  ∀(i t:Nat) n,out[i]?=some t→(∀u∈out.take (i+1),badV L Tv u=false)→L[t-1]?=some n→n.op≠4→Vok n (wT L 0 n.a).toNat (wT L 0 n.b).toNat (vfn L (zeq Tv) n.a.toNat) (vfn L (zeq Tv) n.b.toNat):=by
 intro i t n hi hu hn h4;have hm:t∈out.take (i+1):=by rw[take_add_one,hi];simp
 have ht:=hbd t (mem_of_getElem? hi);refine vok_in hg (S:=(· ∈ out.take (i+1))) (fun u hu c hc=>?_) (fun u m hu1 hu2 hum h4=>tell_le hT h0 hum h4 (hu u hu2)) ht.1 hm hn h4;obtain⟨j,hj⟩:=List.getElem?_of_mem hu;rw[List.getElem?_take]at hj;split at hj
 ·have:=hcl j u hj c hc;exact mem_of_mem_take (by rw[take_take,Nat.min_eq_left (by omega:j≤i+1)];exact this:c∈(out.take (i+1)).take j)
 ·cases hj
noncomputable def zcs(L:List Nd)(rs:List Int)(Tv:List VV):Int×List W64:=if rs.all (isT L)=true then zeS L (rs.map Int.toNat) Tv else (70,[])
theorem Made.nil'{B H:Hp}(h1:B.next≤H.next)(h2:∀j,j<B.next→H.get j=B.get j):Made B H (.slice none 0 0) 0 []:=⟨h1,h2,Vec.nil _ _,fun j hj=>by cases hj⟩
section
variable {H0:Hp}{p f g:Nat}{lim:Int}{L:List Nd}{K:List (ByteArray×Int)}{sl:Value}(hst:StF H0 p lim L K sl f g)(hg:zb8 L K)(hL:L.length*64≤2^46)
 {x:Value}{rs:List Int}(hx:RdO H0 1 x rs.length (zb6 rs))(hl:rs.length≤2^40){y:Value}{Tv:List VV}(hy:Rdb H0 3 y Tv.length (zbU Tv))(hyl:Tv.length≤2^40)(hT:∀v∈Tv,v.Ok)
include hst hg hL hx hl hy hyl hT
theorem zin:∃H' v',RR AD [.pointer (some ⟨p,0,none⟩),x,y] H0=some (.tuple #[v',.int .i64 (zcs L rs Tv).1],H')∧Made H0 H' v' (zcs L rs Tv).2.length (wvs (zcs L rs Tv).2):=by
 have hr:=(zll E0 rfl (.pointer (some ⟨p,0,none⟩)) x y H0).trans (zlI _ _ _ _ _);have hd:=hg.dag;obtain⟨H1,v1,e1,o1⟩:=Go.AM.c13 hst hd hL hx hl;rw[zka Al _ ⟨Az,by kernel_rfl⟩,zac,zaD,zae e1,x01,zbt,zac]at hr;unfold zcs;unfold zb2 at e1 o1 hr;cases hall:rs.all (isT L) with
 |false=>
  rw[hall,if_neg (by decide)]at o1 hr;rw[decide_eq_true (show ¬((70,([]:List Nat)):Int×List Nat).1=0 by decide),zaP]at hr;rw[if_neg (by decide)];exact⟨H1,_,hr,Made.nil' o1.next o1.old⟩
 |true=>
  rw[hall,if_pos rfl]at o1 hr;rw[if_pos rfl];obtain⟨ns,n1,hb⟩:=nats rs hall;have ens:rs.map Int.toNat=ns:=by rw[n1,zfm]
  have hlen:rs.length=ns.length:=by rw[n1,length_map]
  rw[ens]at o1 hr ⊢;rw[decide_eq_false (show ¬ ¬((0,posts L ns []):Int×List Nat).1=0 by simp),zaD]at hr;have o1:OrdOk H0 H1 v1 (posts L ns []):=o1;have hy1:Rdb H1 3 y Tv.length (zbU Tv):=hy.keep' (fun j hj=>o1.old j (hy.lt hj)) o1.next;obtain⟨v2,H2,t1,t2,t3⟩:=c_told hy1 hyl hT;rw[zae t1,x01,zbt,zac]at hr;have o2:∀j,j<H0.next→H2.get j=H0.get j:=fun j hj=>by have:=o1.next;rw[t2.same j (by omega) (fun q=>q),o1.old j hj]
  have n2:H0.next≤H2.next:=Nat.le_trans o1.next t2.next;unfold zeS;by_cases h0:zhb Tv≠0
  ·rw[decide_eq_true h0,zaP]at hr;rw[if_pos h0];exact⟨H2,_,hr,Made.nil' n2 o2⟩
  ·rw[if_neg h0];have h0:zhb Tv=0:=Decidable.not_not.1 h0;rw[decide_eq_false (fun q=>q h0),zaD]at hr;obtain⟨m,rfl,m1,m2,m3⟩:=t3 h0;have hlen2:(posts L ns []).length≤L.length:=Told.len ((⟨nodup_nil,fun x h=>by cases h⟩:Told L.length []).posts hd hb);have hndp:(posts L ns []).Nodup:=zgI hd ns [] (fun c hc=>(hb c hc).1) nodup_nil;have hmem:=zbP hd (N:=L.length) ns [] hb;have hbd:∀t∈posts L ns [],1≤t∧t≤L.length:=fun t ht=>by
    rcases hmem.2.2 t ht with q|q
    ·cases q
    ·exact q
   have hcl:zdk L (posts L ns []):=(zeE hd ns [] (fun c hc=>(hb c hc).1) (fun i t h=>by cases h)).1;generalize hout:posts L ns []=out at *;have hh:∀(n:Int) (f:Option (Value×Hp)),zgh (.int .i64 n) f=f:=fun n f=>rfl;have hm:∀(H:Hp) (f:Value→Hp→Option (Value×Hp)),zbY H f=f (.map (some H.next)) (H.new (.map [])):=fun H f=>rfl;let Hu:=H2.new (.map [])
   let Hv:=Hu.new (.map [])
   have hn1:=n2;have hvs:VS H2 Hv H2.next Hu.next (fun _=>0) (fun _=>0):=by
    refine⟨?_,fun j hj=>?_,?_,?_,?_,?_,?_,?_⟩
    ·show H2.next≤H2.next+1+1;omega
    ·show ((H2.new (.map [])).new (.map [])).get j=_;rw[get_new,if_neg (by show j≠H2.next+1;omega),get_new,if_neg (by omega)]
    ·exact Nat.le_refl _
    ·show H2.next≤H2.next+1;omega
    ·show H2.next≠H2.next+1;omega
    ·show H2.next<H2.next+1+1;omega
    ·exact(MapU.new H2).keep (by show (Hu.new (.map [])).get H2.next=Hu.get H2.next;rw[get_new,if_neg (by show H2.next≠H2.next+1;omega)])
    ·exact MapF.new Hu
   have hstB:StF H2 p lim L K sl f g:=hst.keep (fun i hi=>o2 i (hst.foot_lt hi)) n2;have hov:Vec H2 1 v1 out.length (ints out):=o1.vec.keep t2 fun j _ q=>q;obtain⟨H3,V',W',h3,l1,l2⟩:=zj4 hstB (by omega) hd (zgX hg) hov.rd (by omega) hcl hndp hbd m3 m2 hT (vok_pre hg hcl hT h0 hbd) out.length 0 Hv (fun _=>0) (fun _=>0) (by omega) hvs (fun _ _=>rfl) rfl (fun t ht=>by rw[take_zero]at ht;cases ht) (fun t ht=>by rw[take_zero]at ht;cases ht);rw[qd0]at l1 l2;rw[hov.len,hh,hm,hov.len,hh,hm,hov.len]at hr;have o3:∀j,j<H0.next→H3.get j=H0.get j:=fun j hj=>by rw[h3.old j (by omega),o2 j hj]
   have n3:H0.next≤H3.next:=Nat.le_trans n2 h3.next;cases hbad:out.any (badV L Tv) with
   |true=>
    have l2:zat (zaz RR (.pointer (some ⟨p,0,none⟩)) v1 (.map (some m)) (.map (some H2.next)) (.map (some (H2.new (.map [])).next)) (.int .i64 (out.length:Int))) [.int .i64 0] ((H2.new (.map [])).new (.map []))=_:=l2 hbad;rw[l2]at hr;rw[if_pos rfl];exact⟨H3,_,hr,Made.nil' n3 o3⟩
   |false=>
    obtain⟨l1,l3⟩:=l1 hbad;have l1:zat (zaz RR (.pointer (some ⟨p,0,none⟩)) v1 (.map (some m)) (.map (some H2.next)) (.map (some (H2.new (.map [])).next)) (.int .i64 (out.length:Int))) [.int .i64 0] ((H2.new (.map [])).new (.map []))=_:=l1;rw[if_neg (by decide)];have hx3:RdO H3 1 x ns.length (ints ns):=by have:=hx.keep' (H':=H3) (fun j hj=>o3 j (hx.lt hj)) n3;rw[zbS,←n1,←hlen];exact this
    obtain⟨v3,H4,mk1,mk2,mk3,mk4⟩:=Vec.cap H3 (sz:=1) (bytes:=8) (zs:=[.int .u64 0]) rfl rfl (n:=ns.length) (by omega);obtain⟨H5,v4,q1,h4⟩:=zoB (B:=H3) hx3 (by omega) h3.f1 h3.n1 (vf:=vfn L (zeq Tv)) (fun t ht=>l3 t (hmem.2.1 t ht)) ns.length 0 H4 v3 (by omega) ⟨mk3.next,fun j hj=>mk3.same j hj (fun q=>q),mk2,mk4⟩;have q1:zat (zbr RR x (.map (some H2.next)) (.int .i64 (ns.length:Int))) [v3,.int .i64 0] H4=_:=q1;rw[l1,zap,za6,zay,hx3.len,mk1,hx3.len,q1,zap,za6,zay]at hr;refine⟨H5,v4,hr,?_⟩;rw[length_map];exact⟨Nat.le_trans n3 h4.next,fun j hj=>by rw[h4.old j (by omega),o3 j hj],h4.vec,fun j hj=>Nat.le_trans n3 (h4.new j hj)⟩
theorem c_value{t:Int}:∃H',RR Bi [.pointer (some ⟨p,0,none⟩),.int .i64 t,y] H0=some (.tuple #[wv ((zcs L [t] Tv).2.headD 0#64),.int .i64 (zcs L [t] Tv).1],H')∧H0.next≤H'.next∧∀j,j<H0.next→H'.get j=H0.get j:=by
 have hr:=zmp E0 rfl (.pointer (some ⟨p,0,none⟩)) (.int .i64 t) y H0;unfold zhL at hr;have hb:∀(k:Value→Hp→Option (Value×Hp)),zam 1 [.int .i64 0] 1 [(0,.int .i64 t)] H0 k=k (.slice (some ⟨H0.next,0,some 1⟩) 1 1) (H0.new (.cells [.int .i64 t] true)):=fun k=>rfl;let H1:=H0.new (.cells [.int .i64 t] true)
 have h1o:∀j,j<H0.next→H1.get j=H0.get j:=fun j hj=>by show (H0.new _).get j=_;rw[get_new,if_neg (by omega)]
 have h1n:H1.next=H0.next+1:=rfl;have hst1:StF H1 p lim L K sl f g:=hst.keep (fun i hi=>h1o i (hst.foot_lt hi)) (by omega);have hx1:Rdb H1 1 (.slice (some ⟨H0.next,0,some 1⟩) 1 1) [t].length (zb6 [t]):=.inr ⟨H0.next,1,[],true,rfl,Nat.le_refl _,by show (H0.new _).get _=_;rw[get_new,if_pos rfl];rfl,rfl,by omega⟩;have hy1:Rdb H1 3 y Tv.length (zbU Tv):=hy.keep' (fun j hj=>h1o j (hy.lt hj)) (by omega);clear hx hl;obtain⟨H2,v,e1,m1⟩:=zin hst1 hg hL hx1.o (by show 1≤_;decide) hy1 hyl hT;have hn:=m1.next;have fin:H0.next≤H2.next∧∀j,j<H0.next→H2.get j=H0.get j:=⟨by omega,fun j hj=>by rw[m1.old j (by omega),h1o j hj]⟩
 rw[hb,zae e1,x01,zbt,zac]at hr;by_cases h0:(zcs L [t] Tv).1≠0
 ·rw[decide_eq_true h0,zaP]at hr;have hnil:(zcs L [t] Tv).2=[]:=by
   revert h0;unfold zcs;split
   ·unfold zeS;split
    ·exact fun _=>rfl
    ·split
     ·exact fun _=>rfl
     ·exact fun q=>absurd rfl q
   ·exact fun _=>rfl
  rw[hnil];exact⟨H2,hr,fin⟩
 ·have h0:(zcs L [t] Tv).1=0:=Decidable.not_not.1 h0;rw[decide_eq_false (fun q=>q h0),zaD]at hr;obtain⟨a,ha⟩:∃a,(zcs L [t] Tv).2=[a]:=by
   revert h0;unfold zcs;split
   ·unfold zeS;split
    ·rename_i q;exact fun z=>absurd z q
    ·split
     ·exact fun z=>by cases z
     ·exact fun _=>⟨_,rfl⟩
   ·exact fun z=>by cases z
  rw[ha]at m1 ⊢;obtain⟨z,hz,⟨rest,hgz⟩,hix⟩:=m1.vec.ix (i:=0) (show 0<1 by decide);have hix':∀(k:Value→Option (Value×Hp)),pIdx 1 v (.int .i64 0) k=k (.pointer (some ⟨z,0,none⟩)):=fun k=>hix _ .i64 k;rw[hix',zgk hgz (o:=0) (x:=wv a) rfl]at hr;rw[h0];exact⟨H2,hr,fin⟩
end
structure zfc(sz:Nat)(B H:Hp)(v:Value)(n:Nat)(cs:List Value):Prop where
 next:B.next≤H.next
 old:∀j,j<B.next→H.get j=B.get j
 vec:Vec H sz v n cs
 new:∀j,Id v j→B.next≤j
theorem zfc.of{B H:Hp}{sz:Nat}{v:Value}{n:Nat}{cs:List Value}{r:List Sl}(h:Own B H (⟨sz,v,n,cs⟩::r)):zfc sz B H v n cs:=⟨h.next,h.old,h.head,fun j hj=>h.new _ (mem_cons_self ..) j hj⟩
theorem zfc.behind{B B' H:Hp}{sz:Nat}{v:Value}{n:Nat}{cs:List Value}(h:zfc sz B' H v n cs)(h1:B.next≤B'.next)(h2:∀j,j<B.next→B'.get j=B.get j):zfc sz B H v n cs:=
 ⟨Nat.le_trans h1 h.next,fun j hj=>by rw[h.old j (by omega),h2 j hj],h.vec,fun j hj=>Nat.le_trans h1 (h.new j hj)⟩
theorem zfc.frm{B H:Hp}{sz:Nat}{v:Value}{n:Nat}{cs:List Value}(h:zfc sz B H v n cs):Frm (fun _=>False) B H:=⟨h.next,fun j hj _=>h.old j hj⟩
theorem zfc.nil{B H:Hp}{sz:Nat}(h:Frm (fun _=>False) B H):zfc sz B H (.slice none 0 0) 0 []:=⟨h.next,fun j hj=>h.same j hj fun q=>q,Vec.nil _ _,fun j hj=>by cases hj⟩
theorem isV_eq{L:List Nd}{t:Nat}{n:Nd}(hn:L[t-1]?=some n):isV L t=if n.op=4 then some ⟨n.name,n.w,0⟩ else none:=by unfold isV;rw[hn]
theorem bvv{α:Type}(s:ByteArray)(w:Int)(k:Value→Option α):zaB PP A8 [(0,.string s),(1,.int .i64 w)] k=k (VV.val ⟨s,w,0⟩):=Go.AM.bld (by kernel_rfl) k
theorem bvv3{α:Type}(s:ByteArray)(w x:Int)(k:Value→Option α):zaB PP A8 [(0,.string s),(1,.int .i64 w),(2,.int .u64 x)] k=k (VV.val ⟨s,w,x⟩):=Go.AM.bld (by kernel_rfl) k
theorem pushV{B H:Hp}{acc:Value}{l:List VV}{r:List Sl}(h:Own B H (⟨3,acc,l.length,zbU l⟩::r))(v:VV)(hb:l.length≤2^41) :
  ∃acc' H',(∀(α:Type) (k:Value→Hp→Option α),(zam 3 [.string ⟨#[]⟩,.int .i64 0,.int .u64 0] 1 [(0,v.val)] H fun t H1=>zaJ 3 32 acc t H1 k)=k acc' H')∧Own B H' (⟨3,acc',(l++[v]).length,zbU (l++[v])⟩::r):=by
 obtain⟨acc',H',e1,e2⟩:=Own.push h (bytes:=32) (zs:=[.string ⟨#[]⟩,.int .i64 0,.int .u64 0]) (x:=v.val) (by decide) (by decide) rfl rfl rfl (by omega);refine⟨acc',H',e1,?_⟩;have:zbU (l++[v])=zbU l++zab v.val:=by rw[valsC_app];rfl
 rw[this,length_append];exact e2
section
variable {B:Hp}{p f g:Nat}{lim:Int}{L:List Nd}{K:List (ByteArray×Int)}{sl:Value}(hst:StF B p lim L K sl f g)(hL:(L.length:Int)≤4611686018427387904)
 {v:Value}{out:List Nat}(hv:Rdb B 1 v out.length (ints out))(hol:out.length≤2^41)(hbd:∀t∈out,1≤t∧t≤L.length)
include hst hL hv hol hbd
theorem vars_step(S:List Value→Hp→Option Outc){i t:Nat}(hi:out[i]?=some t){n:Nd}(hn:L[t-1]?=some n){H:Hp}{acc:Value}(h:Own B H [⟨3,acc,((out.take i).filterMap (isV L)).length,zbU ((out.take i).filterMap (isV L))⟩])
  (hS:∀(acc':Value) (H':Hp),(n.op=4→∀(α:Type) (k:Value→Hp→Option α),(zam 3 [.string ⟨#[]⟩,.int .i64 0,.int .u64 0] 1 [(0,VV.val ⟨n.name,n.w,0⟩)] H fun t H1=>zaJ 3 32 acc t H1 k)=k acc' H')→(n.op≠4→acc'=acc∧H'=H)→S [acc,.int .i64 (i:Int)] H=some (.next,[acc',.int .i64 ((i+1:Nat):Int)],H')) :
  ∃acc' H',S [acc,.int .i64 (i:Int)] H=some (.next,[acc',.int .i64 ((i+1:Nat):Int)],H')∧Own B H' [⟨3,acc',((out.take (i+1)).filterMap (isV L)).length,zbU ((out.take (i+1)).filterMap (isV L))⟩]:=by
 have htk:out.take (i+1)=out.take i++[t]:=by rw[take_add_one,hi];rfl
 have hlen:((out.take i).filterMap (isV L)).length≤2^41:=Nat.le_trans (length_filterMap_le ..) (by rw[length_take];omega);rw[htk,filterMap_append,filterMap_cons,isV_eq hn];by_cases h4:n.op=4
 ·obtain⟨acc',H',e1,e2⟩:=pushV h ⟨n.name,n.w,0⟩ hlen;rw[if_pos h4];exact⟨acc',H',hS acc' H' (fun _=>e1) (fun q=>absurd h4 q),e2⟩
 ·rw[if_neg h4];refine⟨acc,H,hS acc H (fun q=>absurd q h4) (fun _=>⟨rfl,rfl⟩),?_⟩;rw[filterMap_nil,append_nil];exact h
theorem zl2(S:List Value→Hp→Option Outc)(hend:∀(H:Hp) (acc:Value),S [acc,.int .i64 (out.length:Int)] H=some (.exit 0,[acc,.int .i64 (out.length:Int)],H))
  (hS:∀(i t:Nat) (n:Nd) (H:Hp) (acc acc':Value) (H':Hp),out[i]?=some t→1≤t∧t≤L.length→L[t-1]?=some n→StF H p lim L K sl f g→Rdb H 1 v out.length (ints out)→(n.op=4→∀(α:Type) (k:Value→Hp→Option α),(zam 3 [.string ⟨#[]⟩,.int .i64 0,.int .u64 0] 1 [(0,VV.val ⟨n.name,n.w,0⟩)] H fun t H1=>zaJ 3 32 acc t H1 k)=k acc' H')→(n.op≠4→acc'=acc∧H'=H)→S [acc,.int .i64 (i:Int)] H=some (.next,[acc',.int .i64 ((i+1:Nat):Int)],H')) :
  ∀(k i:Nat) (H:Hp) (acc:Value),i+k=out.length→Own B H [⟨3,acc,((out.take i).filterMap (isV L)).length,zbU ((out.take i).filterMap (isV L))⟩] →
  ∃H' acc',zat S [acc,.int .i64 (i:Int)] H=some (.exit 0,[acc',.int .i64 (out.length:Int)],H')∧Own B H' [⟨3,acc',(out.filterMap (isV L)).length,zbU (out.filterMap (isV L))⟩]
 |0,i,H,acc,hk,h=>by
  have:i=out.length:=by omega
  subst this;rw[take_length]at h;refine⟨H,acc,?_,h⟩;rw[zak,hend];rfl
 |k+1,i,H,acc,hk,h=>by
  have hlt:i<out.length:=by omega
  have hi:out[i]?=some out[i]:=List.getElem?_eq_getElem hlt;generalize out[i]=t at hi;have ht:=hbd t (mem_of_getElem? hi);have hn:L[t-1]?=some (L[t-1]'(by omega)):=List.getElem?_eq_getElem (by omega);generalize L[t-1]'(by omega)=n at hn;obtain⟨acc1,H1,e1,h1⟩:=vars_step hst hL hv hol hbd S hi hn h fun acc' H' a b=>hS i t n H acc acc' H' hi ht hn (Own.st h hst) (hv.keep' (fun j hj=>h.old j (hv.lt hj)) h.next) a b;obtain⟨H',acc',g1,g2⟩:=zl2 S hend hS k (i+1) H1 acc1 (by omega) h1;refine⟨H',acc',?_,g2⟩;rw[zak,e1];exact g1
end
def zpP(L:List Nd)(rs:List Int):Int×List VV:=if rs.all (isT L)=true then (0,zfH L (rs.map Int.toNat)) else (70,[])
section
variable {H0:Hp}{p f g:Nat}{lim:Int}{L:List Nd}{K:List (ByteArray×Int)}{sl:Value}(hst:StF H0 p lim L K sl f g)(hd:Dag L)(hL:L.length*64≤2^46)
 {x:Value}{rs:List Int}(hx:RdO H0 1 x rs.length (zb6 rs))(hl:rs.length≤2^40)
include hst hd hL hx hl
theorem zpb(hall:rs.all (isT L)=true):∀t∈(zb2 L rs).2,1≤t∧t≤L.length:=by
 unfold zb2;rw[hall,if_pos rfl];obtain⟨ns,n1,hb⟩:=nats rs hall;have ens:rs.map Int.toNat=ns:=by rw[n1,zfm]
 rw[ens];intro t ht;rcases (zbP hd (N:=L.length) ns [] hb).2.2 t ht with q|q
 ·cases q
 ·exact q
theorem c_vars:∃H' v',RR Bj [.pointer (some ⟨p,0,none⟩),x] H0=some (.tuple #[v',.int .i64 (zpP L rs).1],H')∧zfc 3 H0 H' v' (zpP L rs).2.length (zbU (zpP L rs).2):=by
 have hr:=(znG E0 rfl (.pointer (some ⟨p,0,none⟩)) x H0).trans (zoe _ _ _ _);obtain⟨H1,v1,e1,o1⟩:=Go.AM.c13 hst hd hL hx hl;rw[zka Al _ ⟨Az,by kernel_rfl⟩,zac,zaD,zae e1,x01,zbt,zac]at hr;have hbd:=zpb hst hd hL hx hl;have hbl:=zi1 hd rs;unfold zpP;cases hall:rs.all (isT L) with
 |false=>
  have e:zb2 L rs=(70,[]):=by unfold zb2;rw[hall];rfl
  rw[e]at o1 hr;rw[decide_eq_true (show ¬((70,([]:List Nat)):Int×List Nat).1=0 by decide),zaP]at hr;rw[if_neg (by decide)];exact⟨H1,_,hr,zfc.nil ⟨o1.next,fun j hj _=>o1.old j hj⟩⟩
 |true=>
  have e:zb2 L rs=(0,posts L (rs.map Int.toNat) []):=by unfold zb2;rw[hall];rfl
  have hbd:=hbd hall;rw[e]at o1 hr hbd hbl;have o1:OrdOk H0 H1 v1 (posts L (rs.map Int.toNat) []):=o1;rw[decide_eq_false (show ¬ ¬((0,posts L (rs.map Int.toNat) []):Int×List Nat).1=0 by simp),zaD,o1.vec.len]at hr;rw[if_pos rfl];dsimp only at hbd hbl;unfold zfH;generalize posts L (rs.map Int.toNat) []=out at *;have hst1:StF H1 p lim L K sl f g:=hst.keep (fun i hi=>o1.old i (hst.foot_lt hi)) o1.next
  obtain⟨H2,v2,l1,l2⟩:=zl2 hst1 (by omega) o1.vec.rd (by omega) hbd (zcH RR (.pointer (some ⟨p,0,none⟩)) v1 (.int .i64 (out.length:Int))) (fun H acc=>by
   unfold zcH;simp only[qg0,qg1]
   rw[lF (Int.lt_irrefl _)]) (fun i t n H acc acc' H' hi ht hn hs hv a b=>by
   have hlt:i<out.length:=(List.getElem?_eq_some_iff.1 hi).1;have hvI:Rdb H 1 v1 (out.map fun (t:Nat)=>(t:Int)).length (zb6 (out.map fun (t:Nat)=>(t:Int))):=by rw[length_map,←zbS];exact hv
   obtain⟨y,x1,x2⟩:=hvI.int (i:=i) (t:=(t:Int)) (by rw[List.getElem?_map,hi];rfl);have q:(i:Int)<(out.length:Int):=by omega
   have w1:IntKind.i64.wrap ((i:Int)+1)=((i+1:Nat):Int):=zaA (by omega) (by omega);have hT':isT L (t:Int)=true:=za7.2 ⟨by omega,by omega⟩;have hnode:ze6 L (t:Int)=n:=by unfold ze6;rw[hT',if_pos rfl,show ((t:Int)-1).toNat=t-1 by omega,hn];rfl
   have e10:=Go.AM.c10 hs.st (by omega) (t:Int);rw[hnode,hT',if_pos rfl]at e10;unfold zcH;simp only[qg0,qg1];rw[lT q,x1,x2,zae e10,x01,spl7,ze7,zaO,zac];by_cases h4:n.op=4
   ·rw[decide_eq_true h4,zaP,ncell6,zfT,bvv,a h4,zaM,w1]
   ·obtain⟨rfl,rfl⟩:=b h4
    rw[decide_eq_false h4,zaD,zaM,w1]) out.length 0 H1 (.slice none 0 0) (by omega) ((Own.nil H1).addNil 3)
  have l1:zat (zcH RR (.pointer (some ⟨p,0,none⟩)) v1 (.int .i64 (out.length:Int))) [.slice none 0 0,.int .i64 0] H1=_:=l1;rw[l1,zap,za6,zay]at hr;exact⟨H2,v2,hr,(zfc.of l2).behind o1.next o1.old⟩
end
theorem c_plus{a b:Nat}(ha:a<18446744073709551616)(hb:b<18446744073709551616)(H:Hp):RR BU [.int .u64 (a:Int),.int .u64 (b:Int)] H=some (.int .u64 ((satU (a+b):Nat):Int),H):=by
 have hr:=znE E0 rfl (.int .u64 (a:Int)) (.int .u64 (b:Int)) H;unfold zja at hr;rw[satU_eq];by_cases h:a+b≤18446744073709551615
 ·have e:IntKind.u64.wrap ((a:Int)+(b:Int))=((a+b:Nat):Int):=by rw[Go.AM.zh8 (by omega) (by omega)];omega
  rw[zaM,e,lF (by omega),zaM,e]at hr;rw[if_pos h];exact hr
 ·have e:IntKind.u64.wrap ((a:Int)+(b:Int))=((a+b-18446744073709551616:Nat):Int):=by have:=Go.AM.u64mod (a:=a+b) (by omega) (by omega);rw[←this];congr 1
  rw[zaM,e,lT (by omega)]at hr;rw[if_neg h];exact hr
theorem zny(n:Nat):satU n<18446744073709551616:=by unfold satU;omega
theorem siz_bd{L:List Nd}(hd:Dag L):∀t,t≤L.length→(sizT L t).1<18446744073709551616∧(sizT L t).2≤t:=by
 intro t;induction t using Nat.strongRecOn with
 |_ t ih=>
  intro ht;by_cases h0:t=0
  ·subst h0;exact⟨by show (0:Nat)<_;decide,Nat.le_refl _⟩
  ·have hn:L[t-1]?=some (L[t-1]'(by omega)):=List.getElem?_eq_getElem (by omega);generalize L[t-1]'(by omega)=n at hn;have ha:=hd.a _ n hn;have hb:=hd.b _ n hn;have hc:=hd.c _ n hn;have a2:=ih n.a.toNat (by omega) (by omega);have b2:=ih n.b.toNat (by omega) (by omega);have c2:=ih n.c.toNat (by omega) (by omega);unfold sizT at a2 b2 c2 ⊢;rw[zjp hd sizF (0,0) (by omega) hn];refine⟨zny _,?_⟩;show max (max _ _) _+1≤t;omega
theorem ziw{B H:Hp}{m1 m2:Nat}{N D:Int→Int}(h:VS B H m1 m2 N D){t:Nat}{a b c:Int}{j:Nat}{x:Int}(hx:[a,b,c][j]?=some x)(hxt:x≠(t:Int)){n d nx dx:Nat}(hn:N (t:Int)=(n:Int))(hd:D (t:Int)=(d:Int))
  (hx0:x=0→nx=0∧dx=0) (hx1:x≠0→N x=(nx:Int)∧D x=(dx:Int)) (bn:n<18446744073709551616) (bnx:nx<18446744073709551616) :
  ∃H' N' D',zbz RR (.map (some m1)) (.map (some m2)) (.int .i64 (t:Int)) (.agg #[.int .i64 a,.int .i64 b,.int .i64 c]) [.int .i64 (j:Int)] H=some (.next,[.int .i64 ((j+1:Nat):Int)],H')∧VS B H' m1 m2 N' D'∧N' (t:Int)=((satU (n+nx):Nat):Int)∧D' (t:Int)=((max d dx:Nat):Int)∧∀y,y≠(t:Int)→N' y=N y∧D' y=D y:=by
 have hj:j<3:=(List.getElem?_eq_some_iff.1 hx).1;have q:(j:Int)<3:=by omega
 have w1:IntKind.i64.wrap ((j:Int)+1)=((j+1:Nat):Int):=zaA (by omega) (by omega);by_cases h0:x=0
 ·obtain⟨rfl,rfl⟩:=hx0 h0;refine⟨H,N,D,?_,h,?_,?_,fun y _=>⟨rfl,rfl⟩⟩
  ·unfold zbz;simp only[qg0];rw[lT q,arr3 hx,zbt,bF (fun q=>q h0),zaM,w1]
  ·rw[hn];unfold satU;omega
  ·rw[hd];omega
 ·obtain⟨e1,e2⟩:=hx1 h0;obtain⟨H1,u1,h1⟩:=h.up1 (t:Int) ((satU (n+nx):Nat):Int);obtain⟨H2,u2,h2⟩:=h1.up2 (t:Int) ((max d dx:Nat):Int);have hmx:(if ((dx:Nat):Int)>((d:Nat):Int) then ((dx:Nat):Int) else ((d:Nat):Int))=((max d dx:Nat):Int):=by split<;>omega
  refine⟨H2,_,_,?_,h2,by rw[if_pos rfl],by rw[if_pos rfl],fun y hy=>⟨by rw[if_neg hy],by rw[if_neg hy]⟩⟩;have lv:∀(x:Int) (f:Value→Option Outc),zbj PP Aa (.int .u64 0) (.map (some m1)) (.int .i64 x) false H f=f (.int .u64 (N x)):=fun x f=>h.f1.look ikV x f;have lw:∀(x:Int) (f:Value→Option Outc),zbj PP Aa (.int .i64 0) (.map (some m2)) (.int .i64 x) false H1 f=f (.int .i64 (D x)):=fun x f=>h1.f2.look ikV x f;unfold zbz;simp only[qg0];rw[lT q,arr3 hx,zbt,bT h0,lv,lv,hn,e1,zae (c_plus bn bnx H),u1,lw,lw,hd,e2,mm_i64,hmx,u2,zaM,w1]
section
variable {B:Hp}{p f g:Nat}{lim:Int}{L:List Nd}{K:List (ByteArray×Int)}{sl:Value}(hst:StF B p lim L K sl f g)(hL:(L.length:Int)≤4611686018427387904)(hd:Dag L)
 {v:Value}{out:List Nat}(hv:Rdb B 1 v out.length (ints out))(hol:out.length≤2^41)(hcl:zdk L out)(hnd:out.Nodup)(hbd:∀t∈out,1≤t∧t≤L.length){m1 m2:Nat}
include hst hL hd hv hol hcl hbd hnd
theorem size_step{i t:Nat}(hi:out[i]?=some t){H:Hp}{N D:Int→Int}(h:VS B H m1 m2 N D)(h0:D (t:Int)=0)(hin:∀u∈out.take i,N (u:Int)=(((sizT L u).1:Nat):Int)∧D (u:Int)=(((sizT L u).2:Nat):Int)) :
  ∃H' N' D',zbX RR (.pointer (some ⟨p,0,none⟩)) v (.map (some m1)) (.map (some m2)) (.int .i64 (out.length:Int)) [.int .i64 (i:Int)] H=some (.next,[.int .i64 ((i+1:Nat):Int)],H')∧VS B H' m1 m2 N' D'∧N' (t:Int)=(((sizT L t).1:Nat):Int)∧D' (t:Int)=(((sizT L t).2:Nat):Int)∧∀y,y≠(t:Int)→N' y=N y∧D' y=D y:=by
 have hlt:i<out.length:=(List.getElem?_eq_some_iff.1 hi).1;have ht:=hbd t (mem_of_getElem? hi);have hn:L[t-1]?=some (L[t-1]'(by omega)):=List.getElem?_eq_getElem (by omega);generalize L[t-1]'(by omega)=n at hn;have hvH:Rdb H 1 v out.length (ints out):=hv.keep' (fun j hj=>h.old j (hv.lt hj)) h.next;have hvI:Rdb H 1 v (out.map fun (t:Nat)=>(t:Int)).length (zb6 (out.map fun (t:Nat)=>(t:Int))):=by rw[length_map,←zbS];exact hvH
 obtain⟨y,x1,x2⟩:=hvI.int (i:=i) (t:=(t:Int)) (by rw[List.getElem?_map,hi];rfl);have q:(i:Int)<(out.length:Int):=by omega
 have w1:IntKind.i64.wrap ((i:Int)+1)=((i+1:Nat):Int):=zaA (by omega) (by omega);have hstH:StF H p lim L K sl f g:=hst.keep (fun i hi=>h.old i (hst.foot_lt hi)) h.next;have hT:isT L (t:Int)=true:=za7.2 ⟨by omega,by omega⟩;have hnode:ze6 L (t:Int)=n:=by unfold ze6;rw[hT,if_pos rfl,show ((t:Int)-1).toNat=t-1 by omega,hn];rfl
 have e10:=Go.AM.c10 hstH.st hL (t:Int);rw[hnode,hT,if_pos rfl]at e10;have hkf:=(zfG hd hn).2;have hkt:kids L t=zco n:=by unfold kids;rw[hn]
 have ha:=hd.a _ n hn;have hb:=hd.b _ n hn;have hc:=hd.c _ n hn;obtain⟨H1,u1,h1⟩:=h.up1 (t:Int) 1;have part:∀(x:Int),x=n.a∨x=n.b∨x=n.c→0≤x→x<(t:Int)→(x=0→(sizT L x.toNat).1=0∧(sizT L x.toNat).2=0)∧(x≠0→N x=(((sizT L x.toNat).1:Nat):Int)∧D x=(((sizT L x.toNat).2:Nat):Int)):=fun x hx g1 g2=>by refine⟨fun e=>by subst e;exact⟨rfl,rfl⟩,fun e=>?_⟩;obtain⟨c,c1,c2⟩:=hkf x hx e;have:=hin c (hcl i t hi c (by rw[hkt];exact c1));rw[←c2,Int.toNat_natCast];exact this
 obtain⟨pa0,pa1⟩:=part n.a (.inl rfl) (by omega) (by omega);obtain⟨pb0,pb1⟩:=part n.b (.inr (.inl rfl)) (by omega) (by omega);obtain⟨pc0,pc1⟩:=part n.c (.inr (.inr rfl)) (by omega) (by omega);have ba:=siz_bd hd n.a.toNat (by omega);have bb:=siz_bd hd n.b.toNat (by omega);have bc:=siz_bd hd n.c.toNat (by omega);obtain⟨H2,N2,D2,s2,h2,n2,d2,o2⟩:=ziw h1 (t:=t) (a:=n.a) (b:=n.b) (c:=n.c) (j:=0) (x:=n.a) rfl (by omega) (n:=1) (d:=0) (nx:=(sizT L n.a.toNat).1) (dx:=(sizT L n.a.toNat).2) (by rw[if_pos rfl];rfl) h0 pa0 (fun e=>by rw[if_neg (by omega)];exact pa1 e) (by decide) ba.1;obtain⟨H3,N3,D3,s3,h3,n3,d3,o3⟩:=ziw h2 (t:=t) (a:=n.a) (b:=n.b) (c:=n.c) (j:=1) (x:=n.b) rfl (by omega) (nx:=(sizT L n.b.toNat).1) (dx:=(sizT L n.b.toNat).2) n2 d2 pb0 (fun e=>by rw[(o2 n.b (by omega)).1,(o2 n.b (by omega)).2,if_neg (by omega)];exact pb1 e) (zny _) bb.1;obtain⟨H4,N4,D4,s4,h4,n4,d4,o4⟩:=ziw h3 (t:=t) (a:=n.a) (b:=n.b) (c:=n.c) (j:=2) (x:=n.c) rfl (by omega) (nx:=(sizT L n.c.toNat).1) (dx:=(sizT L n.c.toNat).2) n3 d3 pc0 (fun e=>by rw[(o3 n.c (by omega)).1,(o3 n.c (by omega)).2,(o2 n.c (by omega)).1,(o2 n.c (by omega)).2,if_neg (by omega)];exact pc1 e) (zny _) bc.1;have hinner:zat (zbz RR (.map (some m1)) (.map (some m2)) (.int .i64 (t:Int)) (.agg #[.int .i64 n.a,.int .i64 n.b,.int .i64 n.c])) [.int .i64 0] H1=some (.exit 2,[.int .i64 3],H4):=by
  rw[zak];have s2:zbz RR (.map (some m1)) (.map (some m2)) (.int .i64 (t:Int)) (.agg #[.int .i64 n.a,.int .i64 n.b,.int .i64 n.c]) [.int .i64 0] H1=_:=s2;rw[s2];show zat _ _ _=_;rw[zak,s3];show zat _ _ _=_;rw[zak,s4];show zat _ [.int .i64 3] _=_;rw[zak];have:zbz RR (.map (some m1)) (.map (some m2)) (.int .i64 (t:Int)) (.agg #[.int .i64 n.a,.int .i64 n.b,.int .i64 n.c]) [.int .i64 3] H4=some (.exit 2,[.int .i64 3],H4):=by unfold zbz;simp only[qg0];rw[lF (by decide)]
  rw[this];rfl
 obtain⟨H5,u5,h5⟩:=h4.up2 (t:Int) (((sizT L t).2:Nat):Int);have esz:sizT L t=sizF n (sizT L n.a.toNat) (sizT L n.b.toNat) (sizT L n.c.toNat):=zjp hd sizF (0,0) ht.1 hn;have ld:∀(f:Value→Option Outc),zbj PP Aa (.int .i64 0) (.map (some m2)) (.int .i64 (t:Int)) false H4 f=f (.int .i64 (D4 (t:Int))):=fun f=>h4.f2.look ikV _ f;have wd1:IntKind.i64.wrap (((max (max (max 0 (sizT L n.a.toNat).2) (sizT L n.b.toNat).2) (sizT L n.c.toNat).2:Nat):Int)+1)=(((sizT L t).2:Nat):Int):=by
  rw[zaA (by omega) (by omega),esz];show _=((max (max _ _) _+1:Nat):Int)
  omega
 refine⟨H5,_,_,?_,h5,?_,by rw[if_pos rfl],fun y hy=>?_⟩
 ·unfold zbX;simp only[qg0];rw[lT q,x1,x2,zae e10,x01,spl7,u1,zku,zkt,zmM,zgB,hinner,zap,za6,zay,ld,d4,zaM,wd1,u5,zaM,w1]
 ·rw[n4,esz];rfl
 ·rw[if_neg hy];refine⟨?_,?_⟩
  ·rw[(o4 y hy).1,(o3 y hy).1,(o2 y hy).1,if_neg hy]
  ·rw[(o4 y hy).2,(o3 y hy).2,(o2 y hy).2]
theorem zl8:∀(k i:Nat) (H:Hp) (N D:Int→Int),i+k=out.length→VS B H m1 m2 N D→(∀x:Int,(∀t∈out.take i,(t:Int)≠x)→D x=0)→(∀u∈out.take i,N (u:Int)=(((sizT L u).1:Nat):Int)∧D (u:Int)=(((sizT L u).2:Nat):Int)) →
  ∃H' N' D',zat (zbX RR (.pointer (some ⟨p,0,none⟩)) v (.map (some m1)) (.map (some m2)) (.int .i64 (out.length:Int))) [.int .i64 (i:Int)] H=some (.exit 0,[.int .i64 (out.length:Int)],H')∧VS B H' m1 m2 N' D'∧∀u∈out,N' (u:Int)=(((sizT L u).1:Nat):Int)∧D' (u:Int)=(((sizT L u).2:Nat):Int)
 |0,i,H,N,D,hk,h,_,hin=>by
  have:i=out.length:=by omega
  subst this;refine⟨H,N,D,?_,h,fun u hu=>hin u (by rw[take_length];exact hu)⟩;rw[zak];have:zbX RR (.pointer (some ⟨p,0,none⟩)) v (.map (some m1)) (.map (some m2)) (.int .i64 (out.length:Int)) [.int .i64 (out.length:Int)] H=some (.exit 0,[.int .i64 (out.length:Int)],H):=by unfold zbX;simp only[qg0];rw[lF (Int.lt_irrefl _)]
  rw[this];rfl
 |k+1,i,H,N,D,hk,h,h0,hin=>by
  have hlt:i<out.length:=by omega
  have hi:out[i]?=some out[i]:=List.getElem?_eq_getElem hlt;have hdrop:out.drop i=out[i]::out.drop (i+1):=drop_eq_getElem_cons hlt;generalize out[i]=t at hi hdrop;have htk:out.take (i+1)=out.take i++[t]:=by rw[take_add_one,hi];rfl
  have hnew:∀u∈out.take i,(u:Int)≠(t:Int):=fun u hu e=>by
   have e:u=t:=by omega
   subst e;have:=hnd;rw[←take_append_drop i out,hdrop]at this;exact(nodup_append.1 this).2.2 u hu u (mem_cons_self ..) rfl
  obtain⟨H1,N1,D1,e1,h1,n1,d1,o1⟩:=size_step hst hL hd hv hol hcl hnd hbd hi h (h0 _ hnew) hin
  obtain⟨H',N',D',g1,g2,g3⟩:=zl8 k (i+1) H1 N1 D1 (by omega) h1 (fun x hx=>by
   rw[htk]at hx;rw[(o1 x fun e=>hx t (mem_append_right _ (mem_singleton.2 rfl)) e.symm).2]
   exact h0 x fun u hu=>hx u (mem_append_left _ hu)) (fun u hu=>by
   rw[htk]at hu;rcases mem_append.1 hu with hu|hu
   ·rw[(o1 _ (hnew u hu)).1,(o1 _ (hnew u hu)).2];exact hin u hu
   ·rw[mem_singleton]at hu;subst hu
    exact⟨n1,d1⟩)
  refine⟨H',N',D',?_,g2,g3⟩;rw[zak,e1];exact g1
end
def sizeI(L:List Nd)(t:Int):Nat×(Nat×Nat)×Int:=if isT L t=true then ((posts L [t.toNat] []).length,sizT L t.toNat,0) else (0,(0,0),70)
def sizeV(s:Nat×(Nat×Nat)×Int):Value:=.tuple #[.int .i64 (s.1:Int),.int .u64 (s.2.1.1:Int),.int .i64 (s.2.1.2:Int),.int .i64 s.2.2]
theorem one_order{L:List Nd}{t:Int}:zb2 L [t]=if isT L t=true then (0,posts L [t.toNat] []) else (70,[]):=by unfold zb2;rw[all_cons,all_nil,Bool.and_true];rfl
section
variable {H0:Hp}{p f g:Nat}{lim:Int}{L:List Nd}{K:List (ByteArray×Int)}{sl:Value}(hst:StF H0 p lim L K sl f g)(hd:Dag L)(hL:L.length*64≤2^46)(t:Int)
include hst hd hL
theorem c_size:∃H',RR AW [.pointer (some ⟨p,0,none⟩),.int .i64 t] H0=some (sizeV (sizeI L t),H')∧Frm (fun _=>False) H0 H':=by
 have hr:=(znH E0 rfl (.pointer (some ⟨p,0,none⟩)) (.int .i64 t) H0).trans (zof _ _ _ _);have hb:∀(k:Value→Hp→Option (Value×Hp)),zam 1 [.int .i64 0] 1 [(0,.int .i64 t)] H0 k=k (.slice (some ⟨H0.next,0,some 1⟩) 1 1) (H0.new (.cells [.int .i64 t] true)):=fun k=>rfl;let H1:=H0.new (.cells [.int .i64 t] true)
 have h1o:∀j,j<H0.next→H1.get j=H0.get j:=fun j hj=>by show (H0.new _).get j=_;rw[get_new,if_neg (by omega)]
 have h1n:H1.next=H0.next+1:=rfl;have hst1:StF H1 p lim L K sl f g:=hst.keep (fun i hi=>h1o i (hst.foot_lt hi)) (by omega);have hx1:Rdb H1 1 (.slice (some ⟨H0.next,0,some 1⟩) 1 1) [t].length (zb6 [t]):=.inr ⟨H0.next,1,[],true,rfl,Nat.le_refl _,by show (H0.new _).get _=_;rw[get_new,if_pos rfl];rfl,rfl,by omega⟩;obtain⟨H2,v2,e2,o2⟩:=Go.AM.c13 hst1 hd hL hx1.o (by show 1≤_;decide);have hn2:=o2.next;have o02:∀j,j<H0.next→H2.get j=H0.get j:=fun j hj=>by rw[o2.old j (by omega),h1o j hj]
 rw[zka Al _ ⟨Az,by kernel_rfl⟩,zac,zaD,hb,zae e2,x01,zbt,zac]at hr;have hbd:=zpb hst1 hd hL hx1.o (by show 1≤_;decide);have hbl:=zi1 hd [t];unfold sizeI;rw[one_order]at o2 hr hbd hbl;rw[all_cons,all_nil,Bool.and_true]at hbd;cases hT:isT L t with
 |false=>
  rw[hT,if_neg (by decide)]at o2 hr;rw[decide_eq_true (show ¬((70,([]:List Nat)):Int×List Nat).1=0 by decide),zaP]at hr;rw[if_neg (by decide)];exact⟨H2,hr,by omega,fun j hj _=>o02 j hj⟩
 |true=>
  have hbd:=hbd hT;rw[hT,if_pos rfl]at o2 hr hbd hbl;rw[if_pos rfl];have o2:OrdOk H1 H2 v2 (posts L [t.toNat] []):=o2;dsimp only at hbd hbl;have htb:=za7.1 hT;have h1:∀c∈[t.toNat],1≤c∧c≤L.length:=fun c hc=>by rw[mem_singleton]at hc;omega
  have hndp:(posts L [t.toNat] []).Nodup:=zgI hd _ [] (fun c hc=>(h1 c hc).1) nodup_nil;have hcl:zdk L (posts L [t.toNat] []):=(zeE hd _ [] (fun c hc=>(h1 c hc).1) (fun i t h=>by cases h)).1;have hmem:=(zbP hd (N:=L.length) [t.toNat] [] h1).2.1 t.toNat (mem_singleton.2 rfl);rw[decide_eq_false (show ¬ ¬((0,posts L [t.toNat] []):Int×List Nat).1=0 by simp),zaD]at hr;generalize posts L [t.toNat] []=out at *;have hh:∀(n:Int) (f:Option (Value×Hp)),zgh (.int .i64 n) f=f:=fun n f=>rfl;have hm:∀(H:Hp) (f:Value→Hp→Option (Value×Hp)),zbY H f=f (.map (some H.next)) (H.new (.map [])):=fun H f=>rfl;let Hu:=H2.new (.map [])
  let Hv:=Hu.new (.map [])
  have hvs:VS H2 Hv H2.next Hu.next (fun _=>0) (fun _=>0):=by
   refine⟨?_,fun j hj=>?_,?_,?_,?_,?_,?_,?_⟩
   ·show H2.next≤H2.next+1+1;omega
   ·show ((H2.new (.map [])).new (.map [])).get j=_;rw[get_new,if_neg (by show j≠H2.next+1;omega),get_new,if_neg (by omega)]
   ·exact Nat.le_refl _
   ·show H2.next≤H2.next+1;omega
   ·show H2.next≠H2.next+1;omega
   ·show H2.next<H2.next+1+1;omega
   ·exact(MapU.new H2).keep (by show (Hu.new (.map [])).get H2.next=Hu.get H2.next;rw[get_new,if_neg (by show H2.next≠H2.next+1;omega)])
   ·exact MapF.new Hu
  have hst2:StF H2 p lim L K sl f g:=hst.keep (fun i hi=>o02 i (hst.foot_lt hi)) (by omega);obtain⟨H3,N',D',l1,h3,l3⟩:=zl8 hst2 (by omega) hd o2.vec.rd (by omega) hcl hndp hbd out.length 0 Hv (fun _=>0) (fun _=>0) (by omega) hvs (fun _ _=>rfl) (fun t ht=>by rw[take_zero]at ht;cases ht);have l1:zat (zbX RR (.pointer (some ⟨p,0,none⟩)) v2 (.map (some H2.next)) (.map (some (H2.new (.map [])).next)) (.int .i64 (out.length:Int))) [.int .i64 0] ((H2.new (.map [])).new (.map []))=_:=l1;have lv:∀(x:Int) (f:Value→Option (Value×Hp)),zbj PP Aa (.int .u64 0) (.map (some H2.next)) (.int .i64 x) false H3 f=f (.int .u64 (N' x)):=fun x f=>h3.f1.look ikV x f;have lw:∀(x:Int) (f:Value→Option (Value×Hp)),zbj PP Aa (.int .i64 0) (.map (some (H2.new (.map [])).next)) (.int .i64 x) false H3 f=f (.int .i64 (D' x)):=fun x f=>h3.f2.look ikV x f;rw[o2.vec.len,hh,hm,o2.vec.len,hh,hm,o2.vec.len,l1,zap,za6,zay,o2.vec.len,lv,lw]at hr;obtain⟨r1,r2⟩:=l3 t.toNat hmem;rw[Int.toNat_of_nonneg (by omega)]at r1 r2;rw[r1,r2]at hr;have:=h3.next;exact⟨H3,hr,by omega,fun j hj _=>by rw[h3.old j (by omega),o02 j hj]⟩
end
end Go.AM.N14
namespace Go.AM.N14
open Go Go.AM
section
end
section
end
section
end
end Go.AM.N14
namespace Go.AM
open Go
def liveT:List UInt8:=[49,32,118,97,114,32,120,32,56,10,50,32,118,97,114,32,121,32,56,10,51,32,97,100,100,32,49,32,50,10,52,32,101,113,32,51,32,49,10,114,111,111,116,115,32,51,32,52,10]
def nmX:ByteArray:=⟨#[120]⟩
def nmY:ByteArray:=⟨#[121]⟩
def zqe:List Nd:=[⟨4,8,0,0,0,0,nmX⟩,⟨4,8,0,0,0,0,nmY⟩,⟨20,8,1,2,0,0,⟨#[]⟩⟩,⟨9,0,3,1,0,0,⟨#[]⟩⟩]
def liveK:List (ByteArray×Int):=[(nmX,8),(nmY,8)]
theorem zmQ:zgj 0 (zdg liveT) 0 [] [] []=.good zqe liveK [3,4]:=by kernel_rfl
end Go.AM
namespace Go.AM.N14
open List Go Go.AM
theorem nodeP_num{ws:List (List UInt8)}{ts:List Int}{L:List Nd}{m:Nd}(h:zqa ws ts L=some m):zg9 m:=by
 unfold zqa at h;split at h
 ·cases h
 ·split at h
  ·cases h
  ·split at h
   ·rename_i q;cases h;exact(ziI _ _ _ _ _ _ _ q).2 ⟨Int.le_refl _,by show (0:Int)<_;decide⟩
   ·cases h
theorem partF_mem{ts:List Int}{ws:List (List UInt8)}{x:Int}(h:zlr ts ws=some x):x∈ts:=by
 unfold zlr at h;split at h
 ·cases h
 ·split at h
  ·rename_i q;cases h;rw[getD_eq_getElem?_getD,List.getElem?_eq_getElem (by omega)];exact getElem_mem _
  ·cases h
theorem zkd{ts:List Int}:∀(ws:List (List UInt8)) (q:List Int),zd9 ts ws=some q→∀x∈q,x∈ts
 |[],q,h=>by cases h;exact fun x hx=>by cases hx
 |w::r,q,h=>by
  unfold zd9 at h;split at h
  ·cases h
  ·rename_i t ht;split at h
   ·cases h
   ·rename_i l hl;cases h;intro x hx;rcases mem_cons.1 hx with e|e
    ·rw[e];exact partF_mem ht
    ·exact zkd r l hl x e
theorem mk_grow{lim:Int}{L:List Nd}{K:List (ByteArray×Int)}(n:Nd):L.length≤(mkR lim L K n).2.2.1.length:=by
 by_cases h0:(mkR lim L K n).2.1=0
 ·obtain⟨_,⟨q,_,e⟩|⟨_,_,e⟩⟩:=zi7 h0<;>rw[e]<;>simp
 ·rw[mk_no h0];exact Nat.le_refl _
theorem zkH{lim:Int}:∀(lines:List (List UInt8)) (k:Nat) (L:List Nd) (K:List (ByteArray×Int)) (ts:List Int) (L':List Nd) (K':List (ByteArray×Int)) (q:List Int),zb8 L K→(∀x∈ts,1≤x∧x≤L.length)→zgj lim lines k L K ts=.good L' K' q→zb8 L' K'∧∀x∈q,1≤x∧x≤L'.length
 |[],k,L,K,ts,L',K',q,hg,ht,h=>by cases h
 |l::rest,k,L,K,ts,L',K',q,hg,ht,h=>by
  unfold zgj at h;cases hw:zbO l with
  |nil=>rw[hw]at h;cases h
  |cons w0 r=>
   rw[hw]at h;dsimp only at h;split at h
   ·cases hp:zd9 ts r with
    |none=>rw[hp]at h;cases h
    |some q'=>
     rw[hp]at h;cases rest with
     |nil=>
      cases h;exact⟨hg,fun x hx=>ht x (zkd r _ hp x hx)⟩
     |cons a b=>cases h
   ·cases hp:zoa (w0::r) ts L with
    |none=>rw[hp]at h;cases h
    |some m=>
     rw[hp]at h;dsimp only at h;split at h
     ·cases h
     ·rename_i he;have he:(mkR lim L K m).2.1=0:=Decidable.not_not.1 he;have hm:zg9 m:=by
       unfold zoa at hp;split at hp
       ·cases hp
       ·split at hp
        ·exact nodeP_num hp
        ·cases hp
      refine zkH rest (k+1) _ _ _ L' K' q (zlC hm hg) (fun x hx=>?_) h;have hgr:=mk_grow (lim:=lim) (L:=L) (K:=K) m;rcases mem_append.1 hx with hx|hx
      ·have:=ht x hx;omega
      ·rw[mem_singleton]at hx;rw[hx];exact mk_bd he
theorem zmP{lim:Int}{l:List UInt8}{L:List Nd}{K:List (ByteArray×Int)}{q:List Int}(h:zgj lim (zdg l) 0 [] [] []=.good L K q):zb8 L K∧∀x∈q,1≤x∧x≤L.length:=
 zkH _ _ _ _ _ _ _ _ zb8.nil (fun x hx=>by cases hx) h
theorem load_bd{l:List UInt8}{L:List Nd}{K:List (ByteArray×Int)}{q:List Int}(h:zgj 0 (zdg l) 0 [] [] []=.good L K q):L.length≤l.length+1∧q.length≤l.length+1:=by have hbd:=zpj (N:=l.length) _ _ _ _ _ _ _ _ (zpl l) h;have:=zlF l;have h1:=hbd.1;rw[length_nil]at h1;exact⟨by omega,hbd.2⟩
theorem c_no(x:Value)(H:Hp):RR Am [x] H=some (x,H):=zhn E0 rfl x H
theorem Rdb.at1{H:Hp}{x:Value}{n:Nat}{cs:List Value}(hx:Rdb H 1 x n cs){i:Nat}{z:Value}(hi:cs[i]?=some z) :
  ∃y,(∀(α:Type) (kd:IntKind) (k:Value→Option α),pIdx 1 x (.int kd (i:Int)) k=k (.pointer (some ⟨y,i*1,none⟩)))∧(∀(α:Type) (k:Value→Option α),zal 1 false H (.pointer (some ⟨y,i*1,none⟩)) k=k z):=by
 have hs:=hx.size;obtain⟨y,hy,⟨rest,own,hg⟩,hix⟩:=hx.ix (i:=i) (by have:=(List.getElem?_eq_some_iff.1 hi).1;omega);exact⟨y,hix,fun α k=>zgk hg (by rw[Nat.mul_one];exact hi) k⟩
theorem wvs_get{l:List W64}{i:Nat}{a:W64}(h:l[i]?=some a):(wvs l)[i]?=some (.int .u64 (a.toNat:Int)):=by unfold wvs;rw[List.getElem?_map,h];rfl
theorem zjD{H:Hp}{x y:Value}{l:List W64}(hx:Rdb H 1 x l.length (wvs l))(hy:Rdb H 1 y l.length (wvs l))(hl:l.length≤2^60):RR AR [x,y] H=some (.bool true,H):=by
 have hr:=(zeD E0 rfl x y H).trans (zeO _ _ _ _);refine hr.trans ?_
 have hloop:=zkG (S:=zbb RR x y) (H:=H) l.length (fun i hi=>by
   have hg:(wvs l)[i]?=some (.int .u64 (l[i].toNat:Int)):=wvs_get (List.getElem?_eq_getElem hi);obtain⟨a,a1,a2⟩:=Rdb.at1 hx hg;obtain⟨b,b1,b2⟩:=Rdb.at1 hy hg;have w:IntKind.i64.wrap ((i:Int)+1)=((i+1:Nat):Int):=zaA (by omega) (by omega);have q:(i:Int)<(l.length:Int):=by omega
   unfold zbb
   simp only[hx.len,za3,qg0,q,decide_true,zac,zaP,a1,a2,b1,b2,zbt,ne_eq,not_true_eq_false,decide_false,zaD,zaM,w])
  (by unfold zbb;simp only[hx.len,za3,qg0,Int.lt_irrefl,decide_false,zac,zaD]) l.length 0 (by omega)
 rw[hx.len,hy.len,zbt,bF (by simp),show (0:Int)=((0:Nat):Int) from rfl,hloop,zap,za6,zay]
def zlE:List VV:=[⟨nmX,8,200⟩,⟨nmY,8,100⟩]
def zgU:List VV:=[⟨nmX,4,1⟩]
theorem live_vals:zcs zqe [3,4] zlE=(0,[44#64,0#64]):=by kernel_rfl
theorem live_val1:zcs zqe [3] zgU=(71,[]):=by kernel_rfl
theorem live_size:sizeI zqe 4=(4,(5,3),0):=by kernel_rfl
theorem zpk:(∀v∈zlE,v.Ok)∧∀v∈zgU,v.Ok:=by
 refine⟨fun v hv=>?_,fun v hv=>?_⟩
 ·simp only[zlE,mem_cons,not_mem_nil,or_false]at hv;rcases hv with rfl|rfl
  ·exact⟨by show (0:Int)≤200;decide,by show (200:Int)<_;decide⟩
  ·exact⟨by show (0:Int)≤100;decide,by show (100:Int)<_;decide⟩
 ·simp only[zgU,mem_cons,not_mem_nil,or_false]at hv;subst hv;exact⟨by show (0:Int)≤1;decide,by show (1:Int)<_;decide⟩
theorem zn0{H:Hp}{sz n:Nat}{cs:List Value}(h:cs.length=n*sz):Rdb (H.new (.cells cs true)) sz (.slice (some ⟨H.next,0,some sz⟩) n n) n cs:=
 .inr ⟨H.next,n,[],true,rfl,Nat.le_refl _,by rw[get_new,if_pos rfl,append_nil],h,by show H.next<H.next+1;omega⟩
theorem s_and{α:Type}(k:Value→Option α):pBin PP .add Aa (.int .i64 0) (.int .i64 0) k=k (.int .i64 0):=rfl
theorem c_live{H:Hp}(hL:Laid H):∃H',RR BP [] H=some (.bool true,H')∧Frm (fun _=>False) H H':=by
 have hr:=zgd E0 rfl H;unfold zd3 at hr;have hc:=c_load hL liveT (by decide) (lim:=0) (by decide);rw[zmQ]at hc;have hgood:=zmP zmQ;obtain⟨H1,st,f,g,sl,rv,a1,a2,a3,a4,a5,a6,a7⟩:=hc;have a1:RR AT [.string ⟨#[49,32,118,97,114,32,120,32,56,10,50,32,118,97,114,32,121,32,56,10,51,32,97,100,100,32,49,32,50,10,52,32,101,113,32,51,32,49,10,114,111,111,116,115,32,51,32,52,10]⟩,.int .i64 0] H=_:=a1;have a3:Vec H1 1 rv 2 (zb6 [3,4]):=a3;rw[znA a1]at hr;simp only[(s_t4 _ _ _ _ _).1,(s_t4 _ _ _ _ _).2.1,(s_t4 _ _ _ _ _).2.2.1,(s_t4 _ _ _ _ _).2.2.2]at hr;rw[zae (c_no _ _),zbt,bF (by decide),zka Al _ ⟨Az,by kernel_rfl⟩,zac,zaD,a3.len,zbt,bF (by decide),zap,zaN,bvv3,bvv3]at hr;have hb2:∀(H:Hp) (k:Value→Hp→Option (Value×Hp)),zam 3 [.string ⟨#[]⟩,.int .i64 0,.int .u64 0] 2 [(0,VV.val ⟨⟨#[120]⟩,8,200⟩),(1,VV.val ⟨⟨#[121]⟩,8,100⟩)] H k=k (.slice (some ⟨H.next,0,some 3⟩) 2 2) (H.new (.cells (zbU zlE) true)):=fun H k=>rfl;have hb1:∀(H:Hp) (k:Value→Hp→Option (Value×Hp)),zam 3 [.string ⟨#[]⟩,.int .i64 0,.int .u64 0] 1 [(0,VV.val ⟨⟨#[120]⟩,4,1⟩)] H k=k (.slice (some ⟨H.next,0,some 3⟩) 1 1) (H.new (.cells (zbU zgU) true)):=fun H k=>rfl;have hb0:∀(H:Hp) (k:Value→Hp→Option (Value×Hp)),zam 1 [.int .u64 0] 2 [(0,(.int .u64 44)),(1,(.int .u64 0))] H k=k (.slice (some ⟨H.next,0,some 1⟩) 2 2) (H.new (.cells (wvs [44#64,0#64]) true)):=fun H k=>rfl;rw[hb2]at hr;let H2:=H1.new (.cells (zbU zlE) true)
 have f12:Frm (fun _=>False) H1 H2:=zcW _ _ _;have kst:∀{A B:Hp},Frm (fun _=>False) A B→StF A st 0 zqe liveK sl f g→StF B st 0 zqe liveK sl f g:=fun k h=>h.keep (fun j hj=>k.same j (h.foot_lt hj) fun q=>q) k.next;have krv:∀{A B:Hp},Frm (fun _=>False) A B→Vec A 1 rv 2 (zb6 [3,4])→Vec B 1 rv 2 (zb6 [3,4]):=fun k h=>h.keep k fun _ _ q=>q;have s2:=kst f12 a2;have r2:=krv f12 a3;have n2:Rdb H2 3 (.slice (some ⟨H1.next,0,some 3⟩) 2 2) zlE.length (zbU zlE):=zn0 (H:=H1) (sz:=3) (n:=2) (cs:=zbU zlE) rfl;obtain⟨H3,v3,e3,m3⟩:=zin s2 hgood.1 (by decide) (rs:=[3,4]) r2.rd.o (by decide) n2 (by decide) zpk.1;rw[live_vals]at e3 m3;have e3:RR AD [.pointer (some ⟨st,0,none⟩),rv,.slice (some ⟨H1.next,0,some 3⟩) 2 2] (H1.new (.cells (zbU zlE) true))=_:=e3;have f23:Frm (fun _=>False) H2 H3:=⟨m3.next,fun j hj _=>m3.old j hj⟩
 have s3:=kst f23 s2;have r3:=krv f23 r2;rw[zae e3,x01]at hr;obtain⟨y,y1,y2⟩:=Rdb.at1 r3.rd (i:=1) (z:=.int .i64 4) rfl;have y1':∀(k:Value→Option (Value×Hp)),pIdx 1 rv (.int .i64 1) k=_:=fun k=>y1 _ .i64 k;rw[y1',y2]at hr;obtain⟨H4,e4,f34⟩:=c_size s3 hgood.1.dag (by decide) 4;rw[live_size]at e4;have s4:=kst f34 s3;have r4:=krv f34 r3;have e4:RR AW [.pointer (some ⟨st,0,none⟩),.int .i64 4] H3=some (.tuple #[.int .i64 4,.int .u64 5,.int .i64 3,.int .i64 0],H4):=e4;rw[zae e4]at hr;simp only[(s_t4 _ _ _ _ _).1,(s_t4 _ _ _ _ _).2.1,(s_t4 _ _ _ _ _).2.2.1,(s_t4 _ _ _ _ _).2.2.2]at hr;obtain⟨z,z1,z2⟩:=Rdb.at1 r4.rd (i:=0) (z:=.int .i64 3) rfl;have z1':∀(k:Value→Option (Value×Hp)),pIdx 1 rv (.int .i64 0) k=_:=fun k=>z1 _ .i64 k;rw[z1',z2,bvv3,hb1]at hr;let H5:=H4.new (.cells (zbU zgU) true)
 have f45:Frm (fun _=>False) H4 H5:=zcW _ _ _;have s5:=kst f45 s4;have r5:=krv f45 r4;have n5:Rdb H5 3 (.slice (some ⟨H4.next,0,some 3⟩) 1 1) zgU.length (zbU zgU):=zn0 (H:=H4) (sz:=3) (n:=1) (cs:=zbU zgU) rfl;obtain⟨H6,e6,n6,o6⟩:=c_value s5 hgood.1 (by decide) (rs:=[3,4]) r5.rd.o (by decide) n5 (by decide) zpk.2 (t:=3);rw[live_val1]at e6;have e6:RR Bi [.pointer (some ⟨st,0,none⟩),.int .i64 3,.slice (some ⟨H4.next,0,some 3⟩) 1 1] (H4.new (.cells (zbU zgU) true))=_:=e6;have f56:Frm (fun _=>False) H5 H6:=⟨n6,fun j hj _=>o6 j hj⟩
 have t:∀{A B C:Hp},Frm (fun _=>False) A B→Frm (fun _=>False) B C→Frm (fun _=>False) A C:=fun a b=>a.trans b fun j q=>q.elim;have f36:Frm (fun _=>False) H3 H6:=t (t f34 f45) f56;rw[zae e6,x01,zae (c_no _ _),zae (c_no _ _),s_and,eT rfl,hb0]at hr;let H7:=H6.new (.cells (wvs [44#64,0#64]) true)
 have f67:Frm (fun _=>False) H6 H7:=zcW _ _ _;have m7:Vec H7 1 v3 2 (wvs [44#64,0#64]):=m3.vec.keep (t f36 f67) fun _ _ q=>q;have hsame:=zjD (l:=[44#64,0#64]) m7.rd (zn0 (H:=H6) (sz:=1) (n:=2) (cs:=wvs [44#64,0#64]) rfl) (by decide);have hsame:RR AR [v3,.slice (some ⟨H6.next,0,some 1⟩) 2 2] (H6.new (.cells (wvs [44#64,0#64]) true))=_:=hsame;rw[zae hsame,zac,zaP,eT rfl,eT rfl,eT rfl,zae (c_no _ _),zaO,decide_eq_true rfl]at hr;exact⟨H7,hr,t (t (t (t a4 f12) f23) f36) f67⟩
end Go.AM.N14
namespace Go.AM.N14
open Go Go.AM
end Go.AM.N14
namespace Go.AM.N14
open List Go Go.AM
def LoA(H:Hp)(l:List UInt8):LdR→Prop
 |.bad _ _=>∃H',RR Bh [str l] H=some (.tuple #[.pointer none,.slice none 0 0,.bool false],H')∧Frm (fun _=>False) H H'
 |.good L K q=>∃H' st f g sl rv,RR Bh [str l] H=some (.tuple #[.pointer (some ⟨st,0,none⟩),rv,.bool true],H')∧Frm (fun _=>False) H H'∧StF H' st 0 L K sl f g∧Vec H' 1 rv q.length (zb6 q) ∧
   (∀j,Foot st f g sl j→H.next≤j)∧(∀j,Id rv j→H.next≤j)∧(∀j,Id rv j→¬Foot st f g sl j)
theorem s_pneq0{α:Type}{P:Program}(T:TypeId)(hT:∃t,P.underlying T=some (.pointer t))(k:Value→Option α):pBin P .neq T (.pointer none) (.pointer none) k=k (.bool false):=by
 obtain⟨t,ht⟩:=hT;have:eqT P Op.maxDepth T (.pointer none) (.pointer none)=some true:=by unfold Op.maxDepth;simp only[eqT,ht];rfl
 simp only[pBin,binV,eqOp,this];rfl
theorem s_pneq{α:Type}{P:Program}(T:TypeId)(a:Addr)(hT:∃t,P.underlying T=some (.pointer t))(k:Value→Option α):pBin P .neq T (.pointer (some a)) (.pointer none) k=k (.bool true):=by
 obtain⟨t,ht⟩:=hT;have:eqT P Op.maxDepth T (.pointer (some a)) (.pointer none)=some false:=by unfold Op.maxDepth;simp only[eqT,ht]
 simp only[pBin,binV,eqOp,this];rfl
theorem c_lload{H:Hp}(hL:Laid H)(l:List UInt8)(hl:l.length≤2^37):LoA H l (zgj 0 (zdg l) 0 [] [] []):=by
 have hr:=zgc E0 rfl (str l) H;unfold zd2 at hr;have hc:=c_load hL l hl (lim:=0) (by decide);cases hr0:zgj 0 (zdg l) 0 [] [] [] with
 |bad ln e=>
  rw[hr0]at hc;obtain⟨H1,a1,a2⟩:=hc;rw[znA a1]at hr;simp only[(s_t4 _ _ _ _ _).1,(s_t4 _ _ _ _ _).2.1,(s_t4 _ _ _ _ _).2.2.1,(s_t4 _ _ _ _ _).2.2.2]at hr;rw[zae (c_no _ _),zaO,zac]at hr;refine⟨H1,hr.trans ?_,a2⟩;by_cases h:e=0
  ·rw[decide_eq_true h,zaP,s_pneq0 Al ⟨Az,by kernel_rfl⟩]
  ·rw[decide_eq_false h,zaD]
 |good L K q=>
  rw[hr0]at hc;obtain⟨H1,st,f,g,sl,rv,a1,a2,a3,a4,a5,a6,a7⟩:=hc;rw[znA a1]at hr;simp only[(s_t4 _ _ _ _ _).1,(s_t4 _ _ _ _ _).2.1,(s_t4 _ _ _ _ _).2.2.1,(s_t4 _ _ _ _ _).2.2.2]at hr;rw[zae (c_no _ _),eT rfl,s_pneq Al _ ⟨Az,by kernel_rfl⟩]at hr;exact⟨H1,st,f,g,sl,rv,hr,a4,a2,a3,a5,a6,a7⟩
def u64I(l:List Int):List Value:=l.map fun t=>Value.int .u64 t
theorem u64I_len(l:List Int):(u64I l).length=l.length:=by simp[u64I]
theorem u64I_get{l:List Int}{i:Nat}{t:Int}(h:l[i]?=some t):(u64I l)[i]?=some (.int .u64 t):=by simp[u64I,h]
theorem zpJ{α:Type}{w x:Int}(h1:1≤w)(h2:w<64)(hx:0≤x)(hx2:x<18446744073709551616)(k:Value→Option α) :
  (zaj .u64 (.int .i64 w) fun v28=>pBin PP .shl Ab (.int .u64 1) v28 fun v29=>pBin PP .sub Ab v29 (.int .u64 1) fun v30=>pBin PP .and Ab (.int .u64 x) v30 k)=k (.int .u64 (zdR w x)):=by
 unfold zdR;rw[if_neg (by omega),if_neg (by omega),zhE];have hw:IntKind.u64.wrap w=w:=zcF (by simp[IntKind.min,IntKind.signed,IntKind.bits];omega) (by simp[IntKind.max,IntKind.signed,IntKind.bits];omega);obtain⟨p1,p2⟩:=zlp (w:=w) (by omega) (by omega);rw[s_shl _ _ _ _ _ (by rw[hw];omega),zow (by omega) (by omega),zc0,Go.AM.s_and];have hm:IntKind.u64.wrap (2^w.toNat-1)=2^w.toNat-1:=zcF (by simp[IntKind.min,IntKind.signed,IntKind.bits];omega) (by simp[IntKind.max,IntKind.signed,IntKind.bits];omega);rw[hm];congr 2;have hb:IntKind.u64.bits=64:=rfl;rw[hb];obtain⟨X,rfl⟩:=Int.eq_ofNat_of_zero_le hx;have e2:(2:Int)^w.toNat-1=((2^w.toNat-1:Nat):Int):=by have:1≤(2:Nat)^w.toNat:=Nat.one_le_two_pow;rw[Int.ofNat_sub this];simp
 rw[e2];have e3:BitVec.ofInt 64 ((X:Nat):Int)=BitVec.ofNat 64 X:=by simp
 have e4:BitVec.ofInt 64 (((2^w.toNat-1:Nat)):Int)=BitVec.ofNat 64 (2^w.toNat-1):=by simp
 rw[e3,e4,BitVec.toNat_and,BitVec.toNat_ofNat,BitVec.toNat_ofNat];have hX:X<2^64:=by have:(X:Int)<18446744073709551616:=hx2;omega
 have h3:(2:Nat)^w.toNat<2^64:=Nat.pow_lt_pow_right (by omega) (by omega);rw[Nat.mod_eq_of_lt hX,Nat.mod_eq_of_lt (by omega),Nat.and_two_pow_sub_one_eq_mod];have h4:X%2^w.toNat≤X:=Nat.mod_le _ _;have h5:((X:Nat):Int)%2^w.toNat=((X%2^w.toNat:Nat):Int):=by simp
 rw[h5];generalize X%2^w.toNat=Y at h4;have m1:IntKind.u64.min=0:=rfl;have m2:IntKind.u64.max=18446744073709551615:=rfl;rw[zcF (by rw[m1];omega) (by rw[m2];omega)]
theorem zit{α:Type}(v:VV)(z:Int)(k:List Value→Option α):zaV 1 v.cells 2 (.int .u64 z) k=k (VV.cells { v with num:=z }):=by
 have:za8 1 v.cells 2 (.int .u64 z)=some (VV.cells { v with num:=z }):=by kernel_rfl
 unfold zaV;rw[this]
def zeY(nums:List Int)(i:Nat):Int:=if nums=[] then 0 else nums.getD (i%nums.length) 0
theorem zpE{nums:List Int}(h:∀z∈nums,0≤z∧z<18446744073709551616)(i:Nat):0≤zeY nums i∧zeY nums i<18446744073709551616:=by
 unfold zeY;split
 ·exact⟨Int.le_refl _,by decide⟩
 ·rw[getD_eq_getElem?_getD];cases q:nums[i%nums.length]? with
  |none=>exact⟨Int.le_refl _,by show (0:Int)<_;decide⟩
  |some x=>exact h x (mem_of_getElem? q)
theorem s_tmod{α:Type}(a b:Nat)(hb:b≠0)(k:Value→Option α):pBin PP .rem Aa (.int .i64 (a:Int)) (.int .i64 (b:Int)) k=k (.int .i64 ((a%b:Nat):Int)):=by rw[s_rem _ _ _ _ (by omega)];rfl
theorem trim64{x:Int}:zdR 64 x=x:=by unfold zdR;rw[if_neg (by decide),if_pos (by decide)]
section
variable {B:Hp}{x y:Value}{L:List VV}{nums:List Int}(hx:Rdb B 3 x L.length (zbU L))(hl:L.length≤2^40)(hy:Rdb B 1 y nums.length (u64I nums))(hw:∀v∈L,0≤v.w∧v.w≤64)(hn:∀z∈nums,0≤z∧z<18446744073709551616)
include hx hl hy hw hn
theorem zkS:∀(r:List VV) (i:Nat) (H:Hp) (acc:Value) (out:List VV),L.drop i=r→i≤L.length→out.length=i→Own B H [⟨3,acc,out.length,zbU out⟩] →
  ∃H' acc',zat (zaU RR x y) [acc,.int .i64 (i:Int)] H=some (.exit 0,[acc',.int .i64 (L.length:Int)],H')∧Own B H' [⟨3,acc',(out++zbT nums i r).length,zbU (out++zbT nums i r)⟩]
 |[],i,H,acc,out,hr,hi,ho,h=>by
  have hil:i=L.length:=by have:=congrArg List.length hr;rw[length_drop,length_nil]at this;omega
  subst hil;have hxH:Rdb H 3 x L.length (zbU L):=hx.keep' (fun j hj=>h.old j (hx.lt hj)) h.next;refine⟨H,acc,?_,by rw[show zbT nums L.length []=[] from rfl,append_nil];exact h⟩;rw[zak];have:zaU RR x y [acc,.int .i64 (L.length:Int)] H=some (.exit 0,[acc,.int .i64 (L.length:Int)],H):=by unfold zaU;simp only[qg0,qg1];rw[hxH.len,lF (Int.lt_irrefl _)]
  rw[this];rfl
 |v::r,i,H,acc,out,hr,hi,ho,h=>by
  have hlt:i<L.length:=by have:=congrArg List.length hr;rw[length_drop,length_cons]at this;omega
  have hv:L[i]?=some v:=by
   have:(L.drop i)[0]?=some v:=by rw[hr];rfl
   rwa [List.getElem?_drop,Nat.add_zero]at this
  have hr2:L.drop (i+1)=r:=by rw[←drop_drop,hr];rfl
  have hxH:Rdb H 3 x L.length (zbU L):=hx.keep' (fun j hj=>h.old j (hx.lt hj)) h.next;have hyH:Rdb H 1 y nums.length (u64I nums):=hy.keep' (fun j hj=>h.old j (hy.lt hj)) h.next;obtain⟨a,_,a1,a2,_⟩:=Rdb.vv hxH hv;have q:(i:Int)<(L.length:Int):=by omega
  have w1:IntKind.i64.wrap ((i:Int)+1)=((i+1:Nat):Int):=zaA (by omega) (by omega);have hvw:=hw v (mem_of_getElem? hv);have hz:=zpE hn i;obtain⟨acc1,H1,p1,p2⟩:=pushV h { v with num:=cutW v.w (zeY nums i) } (by omega);obtain⟨H',acc',g1,g2⟩:=zkS r (i+1) H1 acc1 (out++[{ v with num:=cutW v.w (zeY nums i) }]) hr2 (by omega) (by rw[length_append,ho];rfl) p2;refine⟨H',acc',?_,?_⟩
  ·rw[zak]
   have hnum:∀(k:Ctl→List Value→Hp→Option Outc),(zau (
     pLen .sl y H fun v10=>
     pBin PP .gtr Aa v10 (.int .i64 0) fun v11=>
     zaa v11 fun b12=>br b12
     (pLen .sl y H fun v13=>
     pBin PP .rem Aa (.int .i64 (i:Int)) v13 fun v14=>
     pIdx 1 y v14 fun p15=>
     zal 1 false H p15 fun v16=>
     zaV 1 (VV.cells { v with num:=0 }) 2 v16 fun c17=>
     some (.next,[(.agg c17.toArray)],H))
     (some (.next,[(.agg (VV.cells { v with num:=0 }).toArray)],H))) k)=k .next [VV.val { v with num:=zeY nums i }] H:=fun k=>by
    rw[hyH.len,zci,zac];by_cases h0:nums=[]
    ·rw[decide_eq_false (by rw[h0];decide),zaD,zap];unfold zeY;rw[if_pos h0];rfl
    ·have hpos:0<nums.length:=length_pos_iff.2 h0;have hlt2:i%nums.length<nums.length:=Nat.mod_lt _ hpos;obtain⟨b,b1,b2⟩:=Rdb.at1 hyH (u64I_get (List.getElem?_eq_getElem hlt2));rw[decide_eq_true (by omega),zaP,hyH.len,s_tmod _ _ (by omega),b1,b2];have:zaV 1 (VV.cells { v with num:=0 }) 2 (.int .u64 nums[i%nums.length])=fun (k:List Value→Option Outc)=>k (VV.cells { v with num:=nums[i%nums.length] }):=funext fun k=>zit { v with num:=0 } _ k;rw[this];dsimp only;rw[zap];unfold zeY;rw[if_neg h0,getD_eq_getElem?_getD,List.getElem?_eq_getElem hlt2];rfl
   have cl:∀u:VV,zab ((([u.val]:List Value).drop 0).getD 0 undef)=u.cells:=fun u=>rfl;have sz:∀(c:Value→Option Outc),zaV 1 v.cells 2 (.int .u64 0) (fun c9=>c (.agg c9.toArray))=c (VV.val { v with num:=0 }):=fun c=>zit v 0 _;have:zaU RR x y [acc,.int .i64 (i:Int)] H=some (.next,[acc1,.int .i64 ((i+1:Nat):Int)],H1):=by
    unfold zaU;simp only[qg0,qg1];rw[hxH.len,lT q,a1,a2,splV,zit,hnum,zaN,cl,zj2,zaO,zac];by_cases h0:v.w=0
    ·have hcut:cutW v.w (zeY nums i)=zdR 1 (zeY nums i):=by unfold cutW;rw[if_pos (by omega)]
     rw[hcut]at p1;have hv1:∀z:Int,zaV 1 (VV.cells { v with num:=zeY nums i }) 2 (.int .u64 z)=fun (k:List Value→Option Outc)=>k (VV.cells { v with num:=z }):=fun z=>funext fun k=>zit { v with num:=zeY nums i } z k;rw[decide_eq_true h0,zaP,lT (by decide),zl1,zpJ (by decide) (by decide) hz.1 hz.2,hv1];dsimp only;rw[zoz,p1,zaM,w1]
    ·rw[decide_eq_false h0,zaD,za3,zac];have hcut:cutW v.w (zeY nums i)=zdR v.w (zeY nums i):=by unfold cutW;rw[if_neg (by omega)]
     rw[hcut]at p1;by_cases h64:v.w<64
     ·have hv1:∀z:Int,zaV 1 (VV.cells { v with num:=zeY nums i }) 2 (.int .u64 z)=fun (k:List Value→Option Outc)=>k (VV.cells { v with num:=z }):=fun z=>funext fun k=>zit { v with num:=zeY nums i } z k;rw[decide_eq_true h64,zaP,zl1,zpJ (by omega) h64 hz.1 hz.2,hv1];dsimp only;rw[zoz,p1,zaM,w1]
     ·have e64:v.w=64:=by omega
      rw[e64,trim64,←e64]at p1;rw[decide_eq_false h64,zaD,zoz,p1,zaM,w1]
   rw[this];exact g1
  ·have e:zbT nums i (v::r)={ v with num:=cutW v.w (zeY nums i) }::zbT nums (i+1) r:=rfl;rw[e,append_cons];exact g2
theorem c_drawn:∃H' v',RR Bg [x,y] B=some (v',H')∧zfc 3 B H' v' (zbT nums 0 L).length (zbU (zbT nums 0 L)):=by have hr:=(zfK E0 rfl x y B).trans (zfO _ _ _ _);obtain⟨H',acc',g1,g2⟩:=zkS hx hl hy hw hn L 0 B (.slice none 0 0) [] rfl (Nat.zero_le _) rfl ((Own.nil B).addNil 3);have g1:zat (zaU RR x y) [.slice none 0 0,.int .i64 0] B=_:=g1;rw[g1,zap,za6,zay]at hr;exact⟨H',acc',hr,zfc.of g2⟩
end
end Go.AM.N14
namespace Go.AM.N14
open Go Go.AM
section
end
end Go.AM.N14
namespace Go.AM.N14
open List Go Go.AM
theorem trim_bd{w x:Int}(h:0≤x∧x<18446744073709551616):0≤zdR w x∧zdR w x<18446744073709551616:=by
 unfold zdR;split
 ·exact⟨Int.le_refl _,by decide⟩
 ·split
  ·exact h
  ·have hp:(0:Int)<2^w.toNat:=Int.pow_pos (by decide);have h1:=Int.emod_nonneg x (by omega:(2:Int)^w.toNat≠0);have h2:x%2^w.toNat≤x:=by have:=Int.emod_add_mul_ediv x (2^w.toNat);have h3:0≤x/2^w.toNat:=Int.ediv_nonneg h.1 (by omega);have h4:0≤2^w.toNat*(x/2^w.toNat):=Int.mul_nonneg (by omega) h3;omega
   exact⟨h1,by omega⟩
theorem zjx{nums:List Int}(hn:∀z∈nums,0≤z∧z<18446744073709551616):∀(A:List VV) (i:Nat) (v:VV),v∈zbT nums i A→v.Ok∧∃a∈A,a.name=v.name∧a.w=v.w
 |[],i,v,h=>by cases h
 |a::r,i,v,h=>by
  have e:zbT nums i (a::r)={ a with num:=cutW a.w (zeY nums i) }::zbT nums (i+1) r:=rfl;rw[e]at h;rcases mem_cons.1 h with rfl|q
  ·exact⟨trim_bd (zpE hn i),a,mem_cons_self ..,rfl,rfl⟩
  ·obtain⟨h1,b,h2,h3⟩:=zjx hn r (i+1) v q;exact⟨h1,b,mem_cons_of_mem _ h2,h3⟩
theorem zjy(nums:List Int):∀(A:List VV) (i:Nat),(zbT nums i A).length=A.length
 |[],i=>rfl
 |a::r,i=>by have e:zbT nums i (a::r)={ a with num:=cutW a.w (zeY nums i) }::zbT nums (i+1) r:=rfl;rw[e,length_cons,length_cons,zjy nums r (i+1)]
section
variable {L:List Nd}{K:List (ByteArray×Int)}(hg:zb8 L K){ns:List Nat}(hns:∀t∈ns,1≤t∧t≤L.length)
include hg hns
theorem zcy:(posts L ns []).Nodup∧(∀t∈posts L ns [],1≤t∧t≤L.length)∧zdk L (posts L ns [])∧(∀t∈ns,t∈posts L ns []):=by have hd:=hg.dag;have hmem:=zbP hd (N:=L.length) ns [] hns;exact⟨zgI hd ns [] (fun c hc=>(hns c hc).1) nodup_nil,fun t ht=>(hmem.2.2 t ht).elim (fun q=>by cases q) fun q=>q,(zeE hd ns [] (fun c hc=>(hns c hc).1) (fun i t h=>by cases h)).1,hmem.2.1⟩
theorem vars_is{v:VV}:v∈zfH L ns↔∃u n,u∈posts L ns []∧L[u-1]?=some n∧n.op=4∧v=⟨n.name,n.w,0⟩:=by
 rw[zk1,mem_filterMap];constructor
 ·rintro⟨u,hu,h⟩
  obtain⟨n,h1,h2,h3⟩:=zii h;exact⟨u,n,hu,h1,h2,h3⟩
 ·rintro⟨u,n,hu,h1,h2,rfl⟩
  exact⟨u,hu,by rw[isV_eq h1,if_pos h2]⟩
theorem zpN:nmOk [] ((zfH L ns).map VV.name)=true:=by obtain⟨p1,p2,_⟩:=zcy hg hns;rw[zk1];exact zpO hg _ p1 p2
theorem vars_w:∀v∈zfH L ns,0≤v.w∧v.w≤64:=fun v hv=>by obtain⟨u,n,_,h1,_,rfl⟩:=(vars_is hg hns).1 hv;exact zgX hg n (mem_of_getElem? h1)
theorem zkR{nums:List Int}(hn:∀z∈nums,0≤z∧z<18446744073709551616):zhb (zbT nums 0 (zfH L ns))=0:=by unfold zhb;rw[zjw,zpN hg hns,if_pos rfl,zpD nums (fun z hz=>(hn z hz).1) _ _ (vars_w hg hns),if_pos rfl]
theorem zkT{nums:List Int}(hn:∀z∈nums,0≤z∧z<18446744073709551616){u:Nat}(hu:u∈posts L ns []):badV L (zbT nums 0 (zfH L ns)) u=false:=by
 obtain⟨_,p2,_⟩:=zcy hg hns;have ht:=p2 u hu;have hq:L[u-1]?=some (L[u-1]'(by omega)):=List.getElem?_eq_getElem (by omega);generalize L[u-1]'(by omega)=n at hq;rw[zhx hq];by_cases h4:n.op=4
 ·rw[decide_eq_true h4,Bool.true_and];cases hf:fndV n.name (zbT nums 0 (zfH L ns)) with
  |none=>rfl
  |some v=>
   obtain⟨hm,hname⟩:=zik hf;obtain⟨_,a,ha,e1,e2⟩:=zjx hn _ _ v hm;obtain⟨u',n',hu',h1,h2,rfl⟩:=(vars_is hg hns).1 ha;have:=zoA hg (mem_of_getElem? h1) (mem_of_getElem? hq) h2 h4 (by rw[←hname];exact e1);rw[this]at e2;exact decide_eq_false fun z=>z e2.symm
 ·rw[decide_eq_false h4];rfl
theorem zqj{nums:List Int}(hn:∀z∈nums,0≤z∧z<18446744073709551616):zeS L ns (zbT nums 0 (zfH L ns))=(0,ns.map (vfn L (zeq (zbT nums 0 (zfH L ns))))):=by unfold zeS;rw[zkR hg hns hn,if_neg (by decide),if_neg];intro q;obtain⟨u,hu,h⟩:=any_eq_true.1 q;rw[zkT hg hns hn hu]at h;cases h
end
end Go.AM.N14
namespace Go.AM.N14
open Go Go.AM
section
end
section
end
section
end
end Go.AM.N14
namespace Go.AM.N14
open List Go Go.AM
theorem zj3{L:List Nd}{ns:List Nat}(h:∀t∈ns,1≤t∧t≤L.length)(Tv:List VV):zcs L (ns.map fun (t:Nat)=>(t:Int)) Tv=zeS L ns Tv:=by unfold zcs;rw[if_pos,zfm];rw[all_map,all_eq_true];intro t ht;have:=h t ht;exact za7.2 ⟨by show (1:Int)≤(t:Int);omega,by show (t:Int)≤L.length;omega⟩
theorem varsI_of{L:List Nd}{ns:List Nat}(h:∀t∈ns,1≤t∧t≤L.length):zpP L (ns.map fun (t:Nat)=>(t:Int))=(0,zfH L ns):=by unfold zpP;rw[if_pos,zfm];rw[all_map,all_eq_true];intro t ht;have:=h t ht;exact za7.2 ⟨by show (1:Int)≤(t:Int);omega,by show (t:Int)≤L.length;omega⟩
theorem varsR_len{L:List Nd}(hd:Dag L){ns:List Nat}(h:∀t∈ns,1≤t∧t≤L.length):(zfH L ns).length≤L.length:=by rw[zk1];exact Nat.le_trans (length_filterMap_le ..) (Told.len ((⟨nodup_nil,fun x h=>by cases h⟩:Told L.length []).posts hd h))
section
end
section
end
end Go.AM.N14
namespace Go.AM.N14
open Go Go.AM
section
end
section
end
section
end
end Go.AM.N14
namespace Go.AM.N14
open List Go Go.AM
def mapP(tm:Int→Int)(x:Int):Int:=if x=0 then 0 else tm x
def mapN(tm:Int→Int)(n:Nd):Nd:={ n with a:=mapP tm n.a,b:=mapP tm n.b,c:=mapP tm n.c }
def movP(tm:Int→Int)(x:Int):Bool:=decide (x≠0)&&decide (tm x≠x)
def movN(tm:Int→Int)(n:Nd):Bool:=movP tm n.a||(movP tm n.b||movP tm n.c)
def updI(tm:Int→Int)(t x:Int):Int→Int:=fun y=>if y=t then x else tm y
abbrev RS:=List Nd×List (ByteArray×Int)×(Int→Int)
def zbs(lim:Int)(always:Bool)(leaf:Nd→Int)(t:Int)(n:Nd)(s:RS):Int×RS:=
 if n.op=4∧leaf n≠0 then (0,s.1,s.2.1,updI s.2.2 t (leaf n))
 else if (always||movN s.2.2 n)=true then ((mkR lim s.1 s.2.1 (mapN s.2.2 n)).2.1,(mkR lim s.1 s.2.1 (mapN s.2.2 n)).2.2.1,(mkR lim s.1 s.2.1 (mapN s.2.2 n)).2.2.2,updI s.2.2 t (mkR lim s.1 s.2.1 (mapN s.2.2 n)).1)
 else (0,s.1,s.2.1,updI s.2.2 t t)
def ze5(lim:Int)(always:Bool)(leaf:Nd→Int)(nd:Nat→Nd):List Nat→RS→RS
 |[],s=>s
 |t::r,s=>ze5 lim always leaf nd r (zbs lim always leaf (t:Int) (nd t) s).2
def remOk(lim:Int)(always:Bool)(leaf:Nd→Int)(nd:Nat→Nd):List Nat→RS→Prop
 |[],s=>True
 |t::r,s=>(zbs lim always leaf (t:Int) (nd t) s).1=0∧remOk lim always leaf nd r (zbs lim always leaf (t:Int) (nd t) s).2
theorem s_ptrs{α:Type}(a b c:Value)(k:Value→Option α):(zcx 3 false 1 (.agg #[a,b,c]) (.int .i64 0) k=k a)∧(zcx 3 false 1 (.agg #[a,b,c]) (.int .i64 1) k=k b)∧(zcx 3 false 1 (.agg #[a,b,c]) (.int .i64 2) k=k c):=⟨rfl,rfl,rfl⟩
theorem zlg {H : Hp} {q m o : Nat} {N N' : Nd} {tm : Int → Int} {x : Int} {v47 : Value} {j : Nat} {u : Bool} (hq : H.get q = some (.cells N.cells true)) (hm : MapF H m tm) (hqm : q ≠ m) (ho : o < 7) (hx : N.cells[o]? = some (.int .i64 x)) (hN : N'.cells = spl N.cells o [.int .i64 (mapP tm x)])
    (hj : j < 3) (hat : ∀ (k : Value → Option Outc), zcx 3 false 1 v47 (.int .i64 (j : Int)) k = k (.pointer (some ⟨q, o, none⟩))) :
    ∃ H', za9 RR (.map (some m)) v47 [.bool u, .int .i64 (j : Int)] H = some (.next, [.bool (u || movP tm x), .int .i64 ((j + 1 : Nat) : Int)], H') ∧ H'.get q = some (.cells N'.cells true) ∧ (∀ i, i ≠ q → H'.get i = H.get i) ∧ H'.next = H.next := by
  have w1 : IntKind.i64.wrap ((j : Int) + 1) = ((j + 1 : Nat) : Int) := zaA (by omega) (by omega)
  have q1 : (j : Int) < 3 := by omega
  have hl : ∀ {α : Type} (k : Value → Option α), zal 1 false H (.pointer (some ⟨q, o, none⟩)) k = k (.int .i64 x) := fun k => Go.AM.zbe hq o _ hx k
  by_cases h0 : x = 0
  · have hid : N'.cells = N.cells := by
      rw [hN]
      unfold mapP
      rw [if_pos h0]
      apply ext_getElem?
      intro i
      have hlen : N.cells.length = 7 := rfl
      have e : spl N.cells o [Value.int .i64 0] = N.cells.set o (.int .i64 0) := by
        unfold spl
        rw [set_eq_take_append_cons_drop, if_pos (by omega)]
        simp
      rw [e, List.getElem?_set]
      by_cases e2 : o = i
      · subst e2; rw [if_pos rfl, if_pos (by omega), hx, h0]
      · rw [if_neg e2]
    have hv : movP tm x = false := by simp [movP, h0]
    refine ⟨H, ?_, by rw [hid]; exact hq, fun _ _ => rfl, rfl⟩
    unfold za9
    simp only [qg0, qg1]
    rw [hv, lT q1, hat, zbg, hl, zbt, bF (fun z => z h0), zaM, w1, Bool.or_false]
  · have hmp : mapP tm x = tm x := by unfold mapP; rw [if_neg h0]
    rw [hmp] at hN
    have hs : ∀ (k : Hp → Option Outc), zao 1 H (.pointer (some ⟨q, o, none⟩)) (.int .i64 (tm x)) k = k (H.set q (some (.cells N'.cells true))) := fun k => by
      rw [hN]
      exact zfv hq rfl rfl (by show o < 7; exact ho) k
    have lw : ∀ (f : Value → Option Outc), zbj PP Aa (.int .i64 0) (.map (some m)) (.int .i64 x) false H f = f (.int .i64 (tm x)) := fun f => hm.look ikV x f
    refine ⟨H.set q (some (.cells N'.cells true)), ?_, by rw [get_set, if_pos rfl], fun i hi => by rw [get_set, if_neg hi], rfl⟩
    have hv : movP tm x = decide (tm x ≠ x) := by simp [movP, h0]
    unfold za9
    simp only [qg0, qg1]
    rw [hv, lT q1, hat, zbg, hl, zbt, bT h0, zac]
    cases u with
    | true => rw [zaP, zbg, hl, lw, zbg, hs, zaM, w1, Bool.true_or]
    | false => rw [zaD, zbg, hl, lw, zbg, hl, zbt, zbg, hl, lw, zbg, hs, zaM, w1, Bool.false_or]
theorem rem_parts{H:Hp}{q m:Nat}{n:Nd}{tm:Int→Int}{u:Bool}(hq:H.get q=some (.cells n.cells true))(hm:MapF H m tm)(hqm:q≠m) :
  ∃H',zat (za9 RR (.map (some m)) (.agg #[.pointer (some ⟨q,2,none⟩),.pointer (some ⟨q,3,none⟩),.pointer (some ⟨q,4,none⟩)])) [.bool u,.int .i64 0] H=some (.exit 2,[.bool (u||movN tm n),.int .i64 3],H')∧H'.get q=some (.cells (mapN tm n).cells true)∧(∀i,i≠q→H'.get i=H.get i)∧H'.next=H.next:=by
 obtain⟨H1,a1,a2,a3,a4⟩:=zlg (u:=u) (N':={ n with a:=mapP tm n.a }) (x:=n.a) (o:=2) (j:=0) hq hm hqm (by decide) rfl rfl (by decide) (fun k=>(s_ptrs _ _ _ k).1);have hm1:MapF H1 m tm:=hm.keep (a3 m (Ne.symm hqm));obtain⟨H2,b1,b2,b3,b4⟩:=zlg (u:=u||movP tm n.a) (N:={ n with a:=mapP tm n.a }) (N':={ n with a:=mapP tm n.a,b:=mapP tm n.b }) (x:=n.b) (o:=3) (j:=1) (v47:=.agg #[.pointer (some ⟨q,2,none⟩),.pointer (some ⟨q,3,none⟩),.pointer (some ⟨q,4,none⟩)]) a2 hm1 hqm (by decide) rfl rfl (by decide) (fun k=>(s_ptrs _ _ _ k).2.1);have hm2:MapF H2 m tm:=hm1.keep (b3 m (Ne.symm hqm));obtain⟨H3,c1,c2,c3,c4⟩:=zlg (u:=(u||movP tm n.a)||movP tm n.b) (N:={ n with a:=mapP tm n.a,b:=mapP tm n.b }) (N':=mapN tm n) (x:=n.c) (o:=4) (j:=2) (v47:=.agg #[.pointer (some ⟨q,2,none⟩),.pointer (some ⟨q,3,none⟩),.pointer (some ⟨q,4,none⟩)]) b2 hm2 hqm (by decide) rfl rfl (by decide) (fun k=>(s_ptrs _ _ _ k).2.2);refine⟨H3,?_,c2,fun i hi=>by rw[c3 i hi,b3 i hi,a3 i hi],by rw[c4,b4,a4]⟩;have a1:za9 RR (.map (some m)) (.agg #[.pointer (some ⟨q,2,none⟩),.pointer (some ⟨q,3,none⟩),.pointer (some ⟨q,4,none⟩)]) [.bool u,.int .i64 0] H=_:=a1;rw[zak,a1];show zat _ _ _=_;rw[zak,b1];show zat _ _ _=_;rw[zak,c1];show zat _ [_,.int .i64 3] _=_;have:∀w,za9 RR (.map (some m)) (.agg #[.pointer (some ⟨q,2,none⟩),.pointer (some ⟨q,3,none⟩),.pointer (some ⟨q,4,none⟩)]) [w,.int .i64 3] H3=some (.exit 2,[w,.int .i64 3],H3):=fun w=>by unfold za9;simp only[qg0,qg1];rw[lF (by decide)]
 rw[zak,this,Bool.or_assoc,Bool.or_assoc];rfl
theorem ziH{lim:Int}{always:Bool}{leaf:Nd→Int}{t:Int}{n:Nd}{s:RS}:(zbs lim always leaf t n s).2.1.length≤s.1.length+1:=by
 unfold zbs;split
 ·exact Nat.le_succ _
 ·split
  ·exact mk_le _
  ·exact Nat.le_succ _
structure RM(B:Hp)(F0:Nat→Prop)(p f g:Nat)(lim:Int)(Lz:List Nd)(H:Hp)(s:RS):Prop where
 next:B.next<H.next
 old:∀j,j<B.next→¬F0 j→H.get j=B.get j
 st:∃sl,StF H p lim s.1 s.2.1 sl f g∧∀j,Foot p f g sl j→F0 j∨B.next<j
 map:MapF H B.next s.2.2
 good:zb8 s.1 s.2.1
 pre:∃M,s.1=Lz++M
 len:s.1.length≤2^40
section
variable {B:Hp}{F0:Nat→Prop}{p f g:Nat}{lim:Int}{Lz:List Nd}(hF:∀j,F0 j→j<B.next){ps lf:Value}{always:Bool}{leaf:Nd→Int}{nd:Nat→Nd}{v:Value}{out:List Nat}(hv:Rdb B 1 v out.length (ints out))(hvF:∀j,Id v j→¬F0 j)(hol:out.length≤2^40)(hzl:Lz.length≤2^38)
 (hnode:∀H s,RM B F0 p f g lim Lz H s→∀t∈out,RR Av [ps,.int .i64 (t:Int)] H=some (.tuple #[(nd t).val,.int .i64 0],H))(hnum:∀t∈out,zg9 (nd t))
 (hleaf:∀H,(∀j,j<B.next→¬F0 j→H.get j=B.get j)→∀t∈out,(nd t).op=4→∀(α:Type) (k:Value→Hp→Option α),zdI orc RR lf [(nd t).val] H k=k (.tuple #[.int .i64 (leaf (nd t)),.int .i64 0]) H)
include hF hv hvF hol hzl hnode hnum hleaf
theorem rem_step{i t:Nat}(hi:out[i]?=some t){H:Hp}{s:RS}(h:RM B F0 p f g lim Lz H s)(hlen:s.1.length+1≤2^40)(he:(zbs lim always leaf (t:Int) (nd t) s).1=0) :
  ∃H',zbq RR ps (.pointer (some ⟨p,0,none⟩)) (.bool always) lf v (.map (some B.next)) (.int .i64 (out.length:Int)) [.int .i64 (i:Int)] H=some (.next,[.int .i64 ((i+1:Nat):Int)],H')∧RM B F0 p f g lim Lz H' (zbs lim always leaf (t:Int) (nd t) s).2:=by
 have hlt:i<out.length:=(List.getElem?_eq_some_iff.1 hi).1;have htm:=mem_of_getElem? hi;have hn1:=h.next;have hvH:Rdb H 1 v out.length (ints out):=hv.keep' (fun j hj=>h.old j (hv.lt hj) (hvF j hj)) (by omega);obtain⟨y,x1,x2⟩:=Rdb.at1 hvH (i:=i) (z:=.int .i64 (t:Int)) (by unfold ints;rw[List.getElem?_map,hi];rfl);have q:(i:Int)<(out.length:Int):=by omega
 have w1:IntKind.i64.wrap ((i:Int)+1)=((i+1:Nat):Int):=zaA (by omega) (by omega);have e1:=hnode H s h t htm;have hnm:=hnum t htm;have hlf:=fun H h=>hleaf H h t htm;generalize nd t=n at *;obtain⟨sl,hst,hft⟩:=h.st;have hfl:∀j,Foot p f g sl j→j≠B.next:=fun j hj=>(hft j hj).elim (fun z=>by have:=hF j z;omega) fun z=>by omega
 let H1:=H.new (.cells [.int .i64 0,.int .i64 0,.int .i64 0,.int .i64 0,.int .i64 0,.int .u64 0,.string ⟨#[]⟩] true)
 let H2:=H1.set H.next (some (.cells n.cells true))
 have hal:∀{α:Type} (k:Value→Hp→Option α),zcI [.int .i64 0,.int .i64 0,.int .i64 0,.int .i64 0,.int .i64 0,.int .u64 0,.string ⟨#[]⟩] H k=k (.pointer (some ⟨H.next,0,none⟩)) H1:=fun k=>rfl;have hg1:H1.get H.next=some (.cells [.int .i64 0,.int .i64 0,.int .i64 0,.int .i64 0,.int .i64 0,.int .u64 0,.string ⟨#[]⟩] true):=by show (H.new _).get _=_;rw[get_new,if_pos rfl]
 have hsto:∀{α:Type} (k:Hp→Option α),zao 7 H1 (.pointer (some ⟨H.next,0,none⟩)) n.val k=k H2:=fun k=>by
  have hw:za8 7 [.int .i64 0,.int .i64 0,.int .i64 0,.int .i64 0,.int .i64 0,.int .u64 0,.string ⟨#[]⟩] 0 n.val=some n.cells:=by kernel_rfl
  have:H1.wr (.pointer (some ⟨H.next,0,none⟩)) 7 n.val=some H2:=by show (match H1.get H.next with|some (.cells cs true)=>(match za8 7 cs 0 n.val with|some cs'=>some (H1.set H.next (some (.cells cs' true)))|none=>none)|_=>none)=_;rw[hg1];dsimp only;rw[hw]
  unfold zao;rw[this]
 have hg2:H2.get H.next=some (.cells n.cells true):=by show (H1.set _ _).get _=_;rw[get_set,if_pos rfl]
 have ho2:∀j,j<H.next→H2.get j=H.get j:=fun j hj=>by show (H1.set _ _).get _=_;rw[get_set,if_neg (by omega)];show (H.new _).get _=_;rw[get_new,if_neg (by omega)]
 have hn2:H2.next=H.next+1:=rfl;have hold2:∀j,j<B.next→¬F0 j→H2.get j=B.get j:=fun j hj hf=>by rw[ho2 j (by omega),h.old j hj hf]
 have hld0:∀{α:Type} (k:Value→Option α),zal 1 false H2 (.pointer (some ⟨H.next,0,none⟩)) k=k (.int .i64 n.op):=fun k=>Go.AM.zbe hg2 0 _ rfl k;have hld7:∀{α:Type} (H:Hp) (qq:Nat) (m:Nd) (hq:H.get qq=some (.cells m.cells true)) (k:Value→Option α),zal 7 true H (.pointer (some ⟨qq,0,none⟩)) k=k m.val:=fun H qq m hq k=>by simp only[zal,Hp.rdP,Hp.rd,hq,zct];rfl
 have hmap2:MapF H2 B.next s.2.2:=h.map.keep (ho2 _ h.next);have hst2:StF H2 p lim s.1 s.2.1 sl f g:=hst.keep (fun j hj=>ho2 j (hst.foot_lt hj)) (by omega);have e0:∀x:Int,¬(x≠x):=fun x q=>q rfl;unfold zbs at he ⊢
 have rest:¬(n.op=4∧leaf n≠0)→∃H',(zas 2 (.pointer (some ⟨H.next,0,none⟩)) fun p44=>
    zas 3 (.pointer (some ⟨H.next,0,none⟩)) fun p45=>
    zas 4 (.pointer (some ⟨H.next,0,none⟩)) fun p46=>
    zaB PP A7 [(0,p44),(1,p45),(2,p46)] fun v47=>
    zau (zat (za9 RR (.map (some B.next)) v47) [.bool always,(.int .i64 0)] H2) fun q70 l71 H72=>zaC q70 none
    (fun i73=>zav i73 2 (
    pUpd PP Aa (.map (some B.next)) (.int .i64 (t:Int)) (.int .i64 (t:Int)) H72 fun H74=>
    zaa (l71.getD 0 undef) fun b75=>br b75
    (zal 7 true H74 (.pointer (some ⟨H.next,0,none⟩)) fun v76=>
    zad RR Au [.pointer (some ⟨p,0,none⟩),v76] H74 fun r77 H78=>
    zaf r77 0 fun v79=>
    zaf r77 1 fun v80=>
    pBin PP .neq Ak v80 (.int .i64 0) fun v81=>
    zaa v81 fun b82=>br b82
    (zaB PP AO [(0,v80)] fun v83=>
    some (Ctl.ret,[(.tuple #[(.slice none 0 0),(.iface AO v83)])],H78))
    (pUpd PP Aa (.map (some B.next)) (.int .i64 (t:Int)) v79 H78 fun H84=>
    pBin PP .add Aa (.int .i64 (i:Int)) (.int .i64 1) fun v85=>
    some (.next,[v85],H84)))
    (pBin PP .add Aa (.int .i64 (i:Int)) (.int .i64 1) fun v86=>
    some (.next,[v86],H74))) (
    zav i73 1 (
    pBin PP .add Aa (.int .i64 (i:Int)) (.int .i64 1) fun v87=>
    some (.next,[v87],H72)) (
    some (.exit i73,[(.int .i64 (i:Int))],H72))))
    (some (.ret,[(l71.headD undef)],H72)))=some (.next,[.int .i64 ((i+1:Nat):Int)],H')∧RM B F0 p f g lim Lz H' (zbs lim always leaf (t:Int) n s).2:=fun hlf0=>by
  obtain⟨H3,a1,a2,a3,a4⟩:=rem_parts (u:=always) hg2 hmap2 (show H.next≠B.next by omega);have hmap3:MapF H3 B.next s.2.2:=hmap2.keep (a3 _ (by omega));obtain⟨H4,b1,b2,b3,b4⟩:=hmap3.upd ikV (t:Int) (t:Int);have ho4:∀j,j<H.next→j≠B.next→H4.get j=H.get j:=fun j hj hb=>by rw[b3 j hb,a3 j (by omega),ho2 j hj]
  have hn4:H4.next=H.next+1:=by rw[b4,a4];rfl
  have hst4:StF H4 p lim s.1 s.2.1 sl f g:=hst.keep (fun j hj=>ho4 j (hst.foot_lt hj) (hfl j hj)) (by omega);have hbld:∀{α:Type} (k:Value→Option α),zaB PP A7 [(0,.pointer (some ⟨H.next,0+2,none⟩)),(1,.pointer (some ⟨H.next,0+3,none⟩)),(2,.pointer (some ⟨H.next,0+4,none⟩))] k=k (.agg #[.pointer (some ⟨H.next,2,none⟩),.pointer (some ⟨H.next,3,none⟩),.pointer (some ⟨H.next,4,none⟩)]):=fun k=>Go.AM.bld (by kernel_rfl) k;rw[zaI,zaI,zaI,hbld,a1,zap,za6,zay,b1];simp only[qg0];rw[zac];unfold zbs;rw[if_neg hlf0];rw[if_neg hlf0]at he;cases hmv:(always||movN s.2.2 n) with
  |false=>
   rw[zaD,zaM,w1,if_neg (by decide)];refine⟨H4,rfl,by omega,fun j hj hf=>by rw[ho4 j (by omega) (by omega),h.old j hj hf],⟨sl,hst4,hft⟩,b2,h.good,h.pre,h.len⟩
  |true=>
   rw[hmv,if_pos rfl]at he;rw[zaP,if_pos rfl,hld7 H4 H.next (mapN s.2.2 n) (by rw[b3 _ (by omega)];exact a2)];have hR:znn s.1:=⟨fun m hm=>zgX h.good m hm,by omega⟩
   obtain⟨H5,sl5,m1,m2⟩:=d22 hst4 hR (mapN s.2.2 n) hnm;have hmB:¬Foot p f g sl B.next:=fun z=>hfl _ z rfl;have hmap5:MapF H5 B.next (updI s.2.2 (t:Int) (t:Int)):=MapF.keep b2 (m2.same (by omega) hmB);obtain⟨H6,c1,c2,c3,c4⟩:=hmap5.upd ikV (t:Int) (mkR lim s.1 s.2.1 (mapN s.2.2 n)).1;have hft5:∀j,Foot p f g sl5 j→F0 j∨B.next<j:=fun j hj=>by
    rcases m2.foot hj with z|z
    ·exact hft j z
    ·exact .inr (by omega)
   have hfl5:∀j,Foot p f g sl5 j→j≠B.next:=fun j hj=>(hft5 j hj).elim (fun z=>by have:=hF j z;omega) fun z=>by omega
   have he:(mkR lim s.1 s.2.1 (mapN s.2.2 n)).2.1=0:=he;rw[zae m1,x01,he,zbt,bF (e0 0),c1,zaM,w1];have hst5:=m2.st;refine⟨H6,rfl,by have:=m2.next;omega,fun j hj hf=>?_,⟨sl5,hst5.keep (fun j hj=>c3 j (hfl5 j hj)) (by omega),hft5⟩,?_,zlC hnm h.good,?_,Nat.le_trans (mk_le _) hlen⟩
   ·rw[c3 j (by omega),m2.same (by omega) (fun z=>(hft j z).elim hf fun z=>by omega),ho4 j (by omega) (by omega),h.old j hj hf]
   ·have:(fun y=>if y=(t:Int) then (mkR lim s.1 s.2.1 (mapN s.2.2 n)).1 else updI s.2.2 (t:Int) (t:Int) y)=updI s.2.2 (t:Int) (mkR lim s.1 s.2.1 (mapN s.2.2 n)).1:=by
     funext y;unfold updI;by_cases e:y=(t:Int)
     ·rw[if_pos e,if_pos e]
     ·rw[if_neg e,if_neg e,if_neg e]
    rw[←this];exact c2
   ·obtain⟨M,hM⟩:=h.pre;rcases (zi7 he).2 with⟨_,_,h2⟩|⟨_,_,h2⟩
    ·rw[h2];exact⟨M,hM⟩
    ·rw[h2];exact⟨M++[mapN s.2.2 n],by show s.1++_=_;rw[hM,append_assoc]⟩
 unfold zbq;simp only[qg0];rw[lT q,x1,x2,zae e1,x01,hal,hsto,zaI,hld0,zaO,zac];by_cases h4:n.op=4
 ·rw[decide_eq_true h4,zaP,hld7 H2 H.next n hg2,hlf H2 hold2 h4,x01,zbt,bF (e0 0),zbt,zac];by_cases hl:leaf n≠0
  ·obtain⟨H3,u1,u2,u3,u4⟩:=hmap2.upd ikV (t:Int) (leaf n);rw[decide_eq_true hl,zaP,u1,zap,za6,if_pos ⟨h4,hl⟩,zay,zaM,w1];refine⟨H3,rfl,by omega,fun j hj hf=>by rw[u3 j (by omega),hold2 j hj hf],⟨sl,hst2.keep (fun j hj=>u3 j (hfl j hj)) (by omega),hft⟩,u2,h.good,h.pre,h.len⟩
  ·rw[decide_eq_false hl,zaD,zap,zaN];have:=rest (fun z=>hl z.2);unfold zbs at this;exact this
 ·rw[decide_eq_false h4,zaD,zap,zaN];have:=rest (fun z=>h4 z.1);unfold zbs at this;exact this
end
section
variable {B:Hp}{F0:Nat→Prop}{p f g:Nat}{lim:Int}{Lz:List Nd}(hF:∀j,F0 j→j<B.next){ps lf:Value}{always:Bool}{leaf:Nd→Int}{nd:Nat→Nd}{v:Value}{out:List Nat}(hv:Rdb B 1 v out.length (ints out))(hvF:∀j,Id v j→¬F0 j)(hol:out.length≤2^39)(hzl:Lz.length≤2^38)
 (hnode:∀H s,RM B F0 p f g lim Lz H s→∀t∈out,RR Av [ps,.int .i64 (t:Int)] H=some (.tuple #[(nd t).val,.int .i64 0],H))(hnum:∀t∈out,zg9 (nd t))
 (hleaf:∀H,(∀j,j<B.next→¬F0 j→H.get j=B.get j)→∀t∈out,(nd t).op=4→∀(α:Type) (k:Value→Hp→Option α),zdI orc RR lf [(nd t).val] H k=k (.tuple #[.int .i64 (leaf (nd t)),.int .i64 0]) H)
include hF hv hvF hol hzl hnode hnum hleaf
theorem zoW:∀(r:List Nat) (i:Nat) (H:Hp) (s:RS),out.drop i=r→i≤out.length→RM B F0 p f g lim Lz H s→s.1.length+r.length≤2^40→remOk lim always leaf nd r s →
  ∃H',zat (zbq RR ps (.pointer (some ⟨p,0,none⟩)) (.bool always) lf v (.map (some B.next)) (.int .i64 (out.length:Int))) [.int .i64 (i:Int)] H=some (.exit 0,[.int .i64 (out.length:Int)],H')∧RM B F0 p f g lim Lz H' (ze5 lim always leaf nd r s)
 |[],i,H,s,hr,hi,h,_,_=>by
  have hil:i=out.length:=by have:=congrArg List.length hr;rw[length_drop,length_nil]at this;omega
  subst hil;refine⟨H,?_,h⟩;have:zbq RR ps (.pointer (some ⟨p,0,none⟩)) (.bool always) lf v (.map (some B.next)) (.int .i64 (out.length:Int)) [.int .i64 (out.length:Int)] H=some (.exit 0,[.int .i64 (out.length:Int)],H):=by unfold zbq;simp only[qg0];rw[lF (Int.lt_irrefl _)]
  rw[zak,this];rfl
 |t::r,i,H,s,hr,hi,h,hb,hok=>by
  have hlt:i<out.length:=by have:=congrArg List.length hr;rw[length_drop,length_cons]at this;omega
  have hti:out[i]?=some t:=by
   have:(out.drop i)[0]?=some t:=by rw[hr];rfl
   rwa [List.getElem?_drop,Nat.add_zero]at this
  have hr2:out.drop (i+1)=r:=by rw[←drop_drop,hr];rfl
  rw[length_cons]at hb;obtain⟨o1,o2⟩:=hok;obtain⟨H1,e1,h1⟩:=rem_step hF hv hvF (by omega) hzl hnode hnum hleaf hti h (by omega) o1;have hl1:=ziH (lim:=lim) (always:=always) (leaf:=leaf) (t:=(t:Int)) (n:=nd t) (s:=s);obtain⟨H',g1,g2⟩:=zoW r (i+1) H1 _ hr2 (by omega) h1 (by omega) o2;refine⟨H',?_,g2⟩;rw[zak,e1];exact g1
end
theorem zoV{B:Hp}{m:Nat}{tm:Int→Int}{x:Value}{ns:List Nat}(hx:RdO B 1 x ns.length (ints ns))(hl:ns.length≤2^40)(hm:MapF B m tm)(hml:m<B.next):∀(k i:Nat) (H:Hp) (acc:Value),i+k=ns.length→zfc 1 B H acc i (zb6 ((ns.take i).map fun (t:Nat)=>tm (t:Int))) →
  ∃H' acc',zat (zbp RR x (.map (some m)) (.int .i64 (ns.length:Int))) [acc,.int .i64 (i:Int)] H=some (.exit 4,[acc',.int .i64 (ns.length:Int)],H')∧zfc 1 B H' acc' ns.length (zb6 (ns.map fun (t:Nat)=>tm (t:Int)))
 |0,i,H,acc,hk,h=>by
  have:i=ns.length:=by omega
  subst this;rw[take_length]at h;refine⟨H,acc,?_,h⟩;have:zbp RR x (.map (some m)) (.int .i64 (ns.length:Int)) [acc,.int .i64 (ns.length:Int)] H=some (.exit 4,[acc,.int .i64 (ns.length:Int)],H):=by unfold zbp;simp only[qg0,qg1];rw[lF (Int.lt_irrefl _)]
  rw[zak,this];rfl
 |k+1,i,H,acc,hk,h=>by
  have hlt:i<ns.length:=by omega
  have hi:ns[i]?=some ns[i]:=List.getElem?_eq_getElem hlt;have htk:ns.take (i+1)=ns.take i++[ns[i]]:=by rw[take_add_one,hi];rfl
  generalize ns[i]=t at hi htk;have hxH:=hx.keep h.frm fun _ _ q=>q;obtain⟨y,x1,x2⟩:=hxH.at1 (i:=i) (z:=.int .i64 (t:Int)) (by unfold ints;rw[List.getElem?_map,hi];rfl);have hmH:MapF H m tm:=hm.keep (h.old m hml);have lw:∀(f:Value→Option Outc),zbj PP Aa (.int .i64 0) (.map (some m)) (.int .i64 (t:Int)) false H f=f (.int .i64 (tm (t:Int))):=fun f=>hmH.look ikV _ f;have q:(i:Int)<(ns.length:Int):=by omega
  have w1:IntKind.i64.wrap ((i:Int)+1)=((i+1:Nat):Int):=zaA (by omega) (by omega);obtain⟨v',H1,p1,p2,p3,p4,_⟩:=h.vec.push (bytes:=8) (zs:=[.int .i64 0]) (x:=.int .i64 (tm (t:Int))) (by decide) (by decide) rfl rfl rfl (by omega);have hn:=h.next;have hcs:zb6 ((ns.take i).map fun (t:Nat)=>tm (t:Int))++zab (.int .i64 (tm (t:Int)))=zb6 ((ns.take (i+1)).map fun (t:Nat)=>tm (t:Int)):=by rw[htk];simp[zb6];rfl
  rw[hcs]at p2
  have h1:zfc 1 B H1 v' (i+1) (zb6 ((ns.take (i+1)).map fun (t:Nat)=>tm (t:Int))):=⟨Nat.le_trans hn p3.next,fun j hj=>by rw[p3.same j (by omega) (fun z=>by have:=h.new j z;omega),h.old j hj],p2,fun j hj=>by
   rcases p4 j hj with z|z
   ·exact h.new j z
   ·omega⟩
  obtain⟨H',acc',g1,g2⟩:=zoV hx hl hm hml k (i+1) H1 v' (by omega) h1;refine⟨H',acc',?_,g2⟩;have:zbp RR x (.map (some m)) (.int .i64 (ns.length:Int)) [acc,.int .i64 (i:Int)] H=some (.next,[v',.int .i64 ((i+1:Nat):Int)],H1):=by unfold zbp;simp only[qg0,qg1];rw[lT q,x1,x2,lw,p1,zaM,w1]
  rw[zak,this];exact g1
structure RemR(H0 H':Hp)(p f g:Nat)(lim:Int)(sl:Value)(v:Value)(ns:List Nat)(s:RS):Prop where
 st:∃sl',StF H' p lim s.1 s.2.1 sl' f g∧(∀j,Foot p f g sl' j→Foot p f g sl j∨H0.next≤j)∧∀j,Id v j→¬Foot p f g sl' j
 vec:Vec H' 1 v ns.length (zb6 (ns.map fun (t:Nat)=>s.2.2 (t:Int)))
 new:∀j,Id v j→H0.next≤j
 frm:Frm (Foot p f g sl) H0 H'
 good:zb8 s.1 s.2.1
theorem c_remade{H0:Hp}{q fs gs:Nat}{lims:Int}{Ls:List Nd}{Ks:List (ByteArray×Int)}{sls:Value}(hsrc:StF H0 q lims Ls Ks sls fs gs)(hgs:zb8 Ls Ks)(hLs:Ls.length≤2^38){p f g:Nat}{lim:Int}{Lt:List Nd}{Kt:List (ByteArray×Int)}{sl:Value}(ht:StF H0 p lim Lt Kt sl f g)(hgt:zb8 Lt Kt)(hLt:Lt.length≤2^38)
  {x:Value} {ns:List Nat} (hx:RdO H0 1 x ns.length (ints ns)) (hxF:∀j,Id x j→¬Foot p f g sl j) (hns:∀t∈ns,1≤t∧t≤Ls.length) (hnl:ns.length≤2^40) {lf:Value} {always:Bool} {leaf:Nd→Int}
  (hnode:∀B,Frm (fun _=>False) H0 B→∀H s,RM B (Foot p f g sl) p f g lim Lt H s→∀t∈posts Ls ns [],RR Av [.pointer (some ⟨q,0,none⟩),.int .i64 (t:Int)] H=some (.tuple #[(zaG Ls t).val,.int .i64 0],H))
  (hleaf:∀B,Frm (fun _=>False) H0 B→∀H,(∀j,j<B.next→¬Foot p f g sl j→H.get j=B.get j)→∀t∈posts Ls ns [],(zaG Ls t).op=4→∀(α:Type) (k:Value→Hp→Option α),zdI orc RR lf [(zaG Ls t).val] H k=k (.tuple #[.int .i64 (leaf (zaG Ls t)),.int .i64 0]) H)
  (hok:remOk lim always leaf (zaG Ls) (posts Ls ns []) (Lt,Kt,fun _=>0)) :
  ∃H' v,RR Bl [.pointer (some ⟨q,0,none⟩),.pointer (some ⟨p,0,none⟩),x,.bool always,lf] H0=some (.tuple #[v,.nilIface],H')∧RemR H0 H' p f g lim sl v ns (ze5 lim always leaf (zaG Ls) (posts Ls ns []) (Lt,Kt,fun _=>0)):=by
 have hr:=(zlj E0 rfl (.pointer (some ⟨q,0,none⟩)) (.pointer (some ⟨p,0,none⟩)) x (.bool always) lf H0).trans (zlH _ _ _ _ _ _ _);have hd:=hgs.dag;obtain⟨H1,v1,e1,o1⟩:=Go.AM.c13_yes hsrc hd (by omega) hx hnl hns;obtain⟨p1,p2,p3,p4⟩:=zcy hgs hns;have hpl:(posts Ls ns []).length≤Ls.length:=Told.len ((⟨nodup_nil,fun x h=>by cases h⟩:Told Ls.length []).posts hd hns);have f1:Frm (fun _=>False) H0 H1:=⟨o1.next,fun j hj _=>o1.old j hj⟩
 have hnode1:=hnode H1 f1;have hleaf1:=hleaf H1 f1;have hFlt:∀j,Foot p f g sl j→j<H1.next:=fun j hj=>Nat.lt_of_lt_of_le (ht.foot_lt hj) f1.next;have hnum:∀t∈posts Ls ns [],zg9 (zaG Ls t):=fun t hm=>hgs.num _ (mem_of_getElem? (zbn (p2 t hm)));generalize hout:posts Ls ns []=out at *;have hh:∀(n:Int) (f:Option (Value×Hp)),zgh (.int .i64 n) f=f:=fun n f=>rfl;have hm:∀(H:Hp) (f:Value→Hp→Option (Value×Hp)),zbY H f=f (.map (some H.next)) (H.new (.map [])):=fun H f=>rfl;have ht1:StF H1 p lim Lt Kt sl f g:=ht.keep (fun j hj=>o1.old j (ht.foot_lt hj)) o1.next;have hRM:RM H1 (Foot p f g sl) p f g lim Lt (H1.new (.map [])) (Lt,Kt,fun _=>0):=by refine⟨by show H1.next<H1.next+1;omega,fun j hj _=>by rw[get_new,if_neg (by omega)],⟨sl,ht1.keep (fun j hj=>by have:=ht1.foot_lt hj;rw[get_new,if_neg (by omega)]) (by show H1.next≤H1.next+1;omega),fun j hj=>.inl hj⟩,MapF.new H1,hgt,⟨[],by rw[append_nil]⟩,by show Lt.length≤_;omega⟩
 have hvF:∀j,Id v1 j→¬Foot p f g sl j:=fun j hj z=>by have:=o1.new j hj;have:=ht.foot_lt z;omega
 obtain⟨H2,l1,r1⟩:=zoW (always:=always) hFlt o1.vec.rd hvF (by omega) hLt hnode1 hnum hleaf1 out 0 _ _ rfl (Nat.zero_le _) hRM (by show Lt.length+_≤_;omega) hok;have l1:zat (zbq RR (.pointer (some ⟨q,0,none⟩)) (.pointer (some ⟨p,0,none⟩)) (.bool always) lf v1 (.map (some H1.next)) (.int .i64 (out.length:Int))) [.int .i64 0] (H1.new (.map []))=_:=l1;have hn2:=r1.next
 have hx2:RdO H2 1 x ns.length (ints ns):=hx.keep' (fun j hj=>by
  have:=hx.lt hj
  rw[r1.old j (by have:=f1.next;omega) (hxF j hj),o1.old j (hx.lt hj)]) (by have:=f1.next;omega)
 obtain⟨v3,H3,mk1,mk2,mk3,mk4⟩:=Vec.cap H2 (sz:=1) (bytes:=8) (zs:=[.int .i64 0]) rfl rfl (n:=ns.length) (by omega);have m3:zfc 1 H2 H3 v3 0 (zb6 ((ns.take 0).map fun (t:Nat)=>(ze5 lim always leaf (zaG Ls) out (Lt,Kt,fun _=>0)).2.2 (t:Int))):=⟨mk3.next,fun j hj=>mk3.same j hj fun z=>z,mk2,mk4⟩
 obtain⟨H4,v4,l2,m4⟩:=zoV hx2 hnl r1.map hn2 ns.length 0 H3 v3 (Nat.zero_add _) m3;have l2:zat (zbp RR x (.map (some H1.next)) (.int .i64 (ns.length:Int))) [v3,.int .i64 0] H3=_:=l2;rw[zae e1,x01,zbt,bF (by decide),o1.vec.len,hh,hm,o1.vec.len,l1,zap,za6,zay,hx2.len,mk1,hx2.len,l2,zap,za6,zay]at hr;obtain⟨sl',s1,s2⟩:=r1.st;have hn01:=f1.next;refine⟨H4,v4,hr,⟨⟨sl',s1.keep (fun j hj=>m4.old j (s1.foot_lt hj)) m4.next,fun j hj=>?_,fun j hj z=>?_⟩,m4.vec,fun j hj=>?_,⟨by have:=m4.next;omega,fun j hj hf=>?_⟩,r1.good⟩⟩
 ·rcases s2 j hj with z|z
  ·exact .inl z
  ·exact .inr (by omega)
 ·have:=m4.new j hj;have:=s1.foot_lt z;omega
 ·have:=m4.new j hj;omega
 ·rw[m4.old j (by omega),r1.old j (by omega) hf,o1.old j hj]
theorem c_number(H:Hp):∃H',RR BT [.nilIface] H=some (.int .i64 0,H')∧Frm (fun _=>False) H H':=by
 have hr:=zlk E0 rfl .nilIface H;unfold zgP at hr;have e:∀(y:Value) (H:Hp),RR BQ [.nilIface,y] H=some (.bool false,H):=fun y H=>by have h2:=znI E0 rfl .nilIface y H;unfold zje at h2;have z:∀{α:Type} (k:Value→Option α),zdW PP .eql AG .nilIface k=k (.bool true):=fun k=>rfl;rw[z,zac,zaP]at h2;exact h2
 have hal:∀(k:Value→Hp→Option (Value×Hp)),zcI [.int .i64 0] H k=k (.pointer (some ⟨H.next,0,none⟩)) (H.new (.cells [.int .i64 0] true)):=fun k=>rfl;rw[hal,zae (e _ _),zac,zaD]at hr;exact⟨_,hr,zcW _ _ _⟩
end Go.AM.N14
namespace Go.AM.N14
open Go Go.AM
section
end
theorem RemR.behind{H0 H1 H H':Hp}{p f g:Nat}{lim:Int}{sl:Value}{v:Value}{ns:List Nat}{s:RS}(h:RemR H1 H p f g lim sl v ns s)(f1:Frm (fun _=>False) H0 H1)(f2:Frm (fun _=>False) H H'):RemR H0 H' p f g lim sl v ns s:=by obtain⟨sl',s1,s2,s3⟩:=h.st;have n1:=f1.next;have n2:=f2.next;refine⟨⟨sl',s1.keep (fun j hj=>f2.same j (s1.foot_lt hj) fun q=>q) f2.next,fun j hj=>(s2 j hj).imp id fun q=>by omega,s3⟩,h.vec.keep f2 fun _ _ q=>q,fun j hj=>by have:=h.new j hj;omega,⟨by have:=h.frm.next;omega,fun j hj hf=>?_⟩,h.good⟩;have:=h.frm.next;rw[f2.same j (by omega) fun q=>q,h.frm.same j (by omega) hf,f1.same j hj fun q=>q]
section
end
end Go.AM.N14
namespace Go.AM.N14
open List Go Go.AM
theorem part_kid{L:List Nd}(hd:Dag L){t:Nat}{n:Nd}(hn:L[t-1]?=some n):(n.a≠0→∃u∈kids L t,n.a=(u:Int))∧(n.b≠0→∃u∈kids L t,n.b=(u:Int))∧(n.c≠0→∃u∈kids L t,n.c=(u:Int)):=by
 have hk:kids L t=([n.a,n.b,n.c].take (zah n.op).toNat).map Int.toNat:=by unfold kids;rw[hn];rfl
 have mem:∀(j:Nat) (x:Int),[n.a,n.b,n.c][j]?=some x→(j:Int)<zah n.op→1≤x→∃u∈kids L t,x=(u:Int):=fun j x hj hp hx=>by refine⟨x.toNat,?_,by omega⟩;rw[hk];refine mem_map_of_mem (mem_of_getElem? (i:=j) ?_);rw[List.getElem?_take,if_pos (by omega)];exact hj
 refine⟨fun h=>?_,fun h=>?_,fun h=>?_⟩
 ·rcases hd.a _ _ hn with⟨p,q,r⟩|⟨p,q⟩
  ·exact mem 0 _ rfl (by omega) q
  ·exact absurd q h
 ·rcases hd.b _ _ hn with⟨p,q,r⟩|⟨p,q⟩
  ·exact mem 1 _ rfl (by omega) q
  ·exact absurd q h
 ·rcases hd.c _ _ hn with⟨p,q,r⟩|⟨p,q⟩
  ·exact mem 2 _ rfl (by omega) q
  ·exact absurd q h
theorem wT_eq{L:List Nd}{t:Nat}(h:1≤t∧t≤L.length)(d:Int):wT L d (t:Int)=(zaG L t).w:=by unfold wT;rw[za7.2 ⟨by omega,by omega⟩,if_pos rfl,show ((t:Int)-1).toNat=t-1 by omega,zbn h];rfl
theorem zpf{L:List Nd}{t:Nat}{n:Nd}(h:L[t-1]?=some n):zaG L t=n:=by unfold zaG;rw[h];rfl
theorem right_map{L L':List Nd}{K K':List (ByteArray×Int)}{tm:Int→Int}{n:Nd}(hr:zhz L K n)
  (ha:n.a=0∨(isT L' (tm n.a)=true∧∀d,wT L' d (tm n.a)=wT L d n.a)) (hb:n.b=0∨(isT L' (tm n.b)=true∧∀d,wT L' d (tm n.b)=wT L d n.b)) (hc:n.c=0∨(isT L' (tm n.c)=true∧∀d,wT L' d (tm n.c)=wT L d n.c)) (hk:n.op=4→zbl K' n=false)
  (da:zah n.op≥1→n.a≠0) (db:zah n.op≥2→n.b≠0) (dc:zah n.op≥3→n.c≠0):zhz L' K' (mapN tm n):=by
 have w0:∀x:Int,(x=0∨(isT L' (tm x)=true∧∀d,wT L' d (tm x)=wT L d x))→∀d,wT L' d (mapP tm x)=wT L d x:=fun x hx d=>by
  unfold mapP;rcases hx with rfl|⟨h1,h2⟩
  ·rfl
  ·by_cases h0:x=0
   ·rw[if_pos h0,h0];rfl
   ·rw[if_neg h0,h2]
 have i0:∀x:Int,(x=0∨(isT L' (tm x)=true∧∀d,wT L' d (tm x)=wT L d x))→x≠0→isT L' (mapP tm x)=true:=fun x hx h0=>by unfold mapP;rw[if_neg h0];exact(hx.resolve_left h0).1
 have hbn:zbl K' (mapN tm n)=zbl K' n:=rfl;refine⟨hr.op,hr.w,?_,?_,?_,?_,fun q=>by have:=hk q.1;rw[hbn,this]at q;cases q.2⟩
 ·intro q;unfold zbQ at q;simp only[Bool.or_eq_true,Bool.and_eq_true,decide_eq_true_eq,Bool.not_eq_true']at q;rcases q with (⟨q1,q2⟩|⟨q1,q2⟩)|⟨q1,q2⟩
  ·rw[show (mapN tm n).a=mapP tm n.a from rfl,i0 n.a ha (da q1)]at q2;cases q2
  ·rw[show (mapN tm n).b=mapP tm n.b from rfl,i0 n.b hb (db q1)]at q2;cases q2
  ·rw[show (mapN tm n).c=mapP tm n.c from rfl,i0 n.c hc (dc q1)]at q2;cases q2
 ·intro q;refine hr.sp ?_;unfold zex at q ⊢;simp only[Bool.or_eq_true,Bool.and_eq_true,decide_eq_true_eq]at q ⊢;have z:∀x:Int,mapP tm x≠0→x≠0:=fun x hx e=>hx (by unfold mapP;rw[if_pos e]);rcases q with (((⟨q1,q2⟩|⟨q1,q2⟩)|⟨q1,q2⟩)|q)|q
  ·exact .inl (.inl (.inl (.inl ⟨q1,z _ q2⟩)))
  ·exact .inl (.inl (.inl (.inr ⟨q1,z _ q2⟩)))
  ·exact .inl (.inl (.inr ⟨q1,z _ q2⟩))
  ·exact .inl (.inr q)
  ·exact .inr q
 ·show ¬zbC n.op (wT _ (-1) (mapP tm n.a)) (wT _ (-1) (mapP tm n.b)) (wT _ (-1) (mapP tm n.c))=false;rw[w0 _ ha,w0 _ hb,w0 _ hc];exact hr.so
 ·show ¬zbB (mapN tm n) (wT _ (-1) (mapP tm n.a)) (wT _ (-1) (mapP tm n.b))=false;rw[w0 _ ha,w0 _ hb];exact hr.wi
theorem mk_right{lim:Int}(hlim:lim≤0){L:List Nd}{K:List (ByteArray×Int)}{n:Nd}(hr:zhz L K n):(mkR lim L K n).2.1=0∧∃v:Nat,(mkR lim L K n).1=(v:Int)∧1≤v∧v≤(mkR lim L K n).2.2.1.length∧zaG (mkR lim L K n).2.2.1 v=n∧(∃M,(mkR lim L K n).2.2.1=L++M)∧((mkR lim L K n).2.2.2=K∨n.op=4∧(mkR lim L K n).2.2.2=zbx n.name n.w K):=by
 have he:¬zc9 L K n≠0:=fun q=>q (zgD.2 hr);unfold mkR;rw[if_neg he];cases hp:zbw n 0 L with
 |some q=>
  obtain⟨_,hq⟩:=zfi n L 0 q hp;rw[Nat.sub_zero]at hq;have:=(List.getElem?_eq_some_iff.1 hq).1;exact⟨rfl,q+1,rfl,by omega,by show q+1≤L.length;omega,zpf hq,⟨[],(append_nil _).symm⟩,.inl rfl⟩
 |none=>
  dsimp only;rw[if_neg (by omega)];refine⟨rfl,L.length+1,rfl,by omega,by show _≤(L++[n]).length;simp,zpf ?_,⟨[n],rfl⟩,?_⟩
  ·show (L++[n])[L.length+1-1]?=some n;rw[Nat.add_sub_cancel,List.getElem?_append_right (Nat.le_refl _),Nat.sub_self];rfl
  ·show (if n.op=4 then zbx n.name n.w K else K)=K∨n.op=4∧(if n.op=4 then zbx n.name n.w K else K)=zbx n.name n.w K;by_cases h4:n.op=4
   ·rw[if_pos h4];exact .inr ⟨h4,rfl⟩
   ·rw[if_neg h4];exact .inl rfl
section
end
end Go.AM.N14
namespace Go.AM.N14
open Go Go.AM
section
end
section
end
theorem name_w{L:List Nd}{K:List (ByteArray×Int)}(hg:zb8 L K){n m:Nd}(hn:n∈L)(hm:m∈L)(h4:n.op=4)(h4':m.op=4)(he:n.name=m.name):n.w=m.w:=by obtain⟨j,hj⟩:=hg.kn n hn h4;obtain⟨k,hk⟩:=hg.kn m hm h4';rw[he,hk]at hj;exact(Prod.mk.inj (Option.some.inj hj)).2.symm
section
end
end Go.AM.N14
namespace Go.AM.N14
open List Go Go.AM
inductive Tr
 |z
 |nd (op w num:Int) (name:ByteArray) (a b c:Tr)
deriving DecidableEq
def trN(n:Nd)(a b c:Tr):Tr:=.nd n.op n.w n.num n.name a b c
def tr(L:List Nd):Nat→Tr:=fnA trN .z L
theorem zfe{L:List Nd}(hd:Dag L){t:Nat}(ht:1≤t){n:Nd}(hn:L[t-1]?=some n):tr L t=trN n (tr L n.a.toNat) (tr L n.b.toNat) (tr L n.c.toNat):=zjp hd trN .z ht hn
theorem zoD{L M:List Nd}(hd:Dag L)(hd2:Dag (L++M)){t:Nat}(h2:t≤L.length):tr (L++M) t=tr L t:=by
 induction t using Nat.strongRecOn with
 |_ t ih=>
  by_cases h1:t=0
  ·subst h1;rfl
  have hn:L[t-1]?=some (zaG L t):=zbn ⟨by omega,h2⟩;have hn2:(L++M)[t-1]?=some (zaG L t):=by rw[List.getElem?_append_left (by omega)];exact hn
  have da:=hd.a _ _ hn;have db:=hd.b _ _ hn;have dc:=hd.c _ _ hn;rw[zfe hd (by omega) hn,zfe hd2 (by omega) hn2,ih _ (by omega) (by omega),ih _ (by omega) (by omega),ih _ (by omega) (by omega)]
theorem tr_nz{L:List Nd}(hd:Dag L){t:Nat}(h1:1≤t)(h2:t≤L.length):tr L t≠.z:=by
 rw[zfe hd h1 (zbn ⟨h1,h2⟩)];exact fun h=>by cases h
theorem zoE{L:List Nd}(hd:Dag L)(hn:∀(i j:Nat) m,L[i]?=some m→L[j]?=some m→i=j):∀{t u:Nat},t≤L.length→u≤L.length→tr L t=tr L u→t=u:=by
 intro t;induction t using Nat.strongRecOn with
 |_ t ih=>
  intro u ht hu h;by_cases t0:t=0
  ·subst t0;by_cases u0:u=0
   ·exact u0.symm
   ·exact absurd h.symm (tr_nz hd (by omega) hu)
  by_cases u0:u=0
  ·subst u0;exact absurd h (tr_nz hd (by omega) ht)
  have h1:L[t-1]?=some (zaG L t):=zbn ⟨by omega,ht⟩;have h2:L[u-1]?=some (zaG L u):=zbn ⟨by omega,hu⟩;rw[zfe hd (by omega) h1,zfe hd (by omega) h2]at h;have a1:=hd.a _ _ h1;have b1:=hd.b _ _ h1;have c1:=hd.c _ _ h1;have a2:=hd.a _ _ h2;have b2:=hd.b _ _ h2;have c2:=hd.c _ _ h2;generalize zaG L t=n at *;generalize zaG L u=m at *;obtain⟨o1,w1,x1,y1,z1,k1,s1⟩:=n;obtain⟨o2,w2,x2,y2,z2,k2,s2⟩:=m;unfold trN at h;dsimp only at *;injection h with e1 e2 e3 e4 e5 e6 e7;have ia:=ih _ (by omega) (by omega) (by omega) e5;have ib:=ih _ (by omega) (by omega) (by omega) e6;have ic:=ih _ (by omega) (by omega) (by omega) e7;have hx:x1=x2:=by omega
  have hy:y1=y2:=by omega
  have hz:z1=z2:=by omega
  subst e1 e2 e3 e4 hx hy hz;have:=hn _ _ _ h1 h2;omega
def Tr.w:Tr→Int
 |.z=>0
 |.nd _ w _ _ _ _ _=>w
theorem wT_tr{L:List Nd}(hd:Dag L){x:Int}(h0:0≤x)(h:x≤L.length):wT L 0 x=(tr L x.toNat).w:=by
 by_cases hx:x=0
 ·subst hx;rfl
 have hb:1≤x.toNat∧x.toNat≤L.length:=by omega
 have:=wT_eq hb 0;rw[show ((x.toNat:Nat):Int)=x by omega]at this;rw[this,zfe hd hb.1 (zbn hb)];rfl
noncomputable def Tr.v(G:ByteArray→W64):Tr→W64
 |.z=>0#64
 |.nd op w num name a b c=>if op=4 then G name else valW ⟨op,w,0,0,0,num,name⟩ a.w.toNat b.w.toNat (a.v G) (b.v G) (c.v G)
theorem vfn_tr{L:List Nd}(hd:Dag L)(G:ByteArray→W64){t:Nat}(h:t≤L.length):vfn L G t=(tr L t).v G:=by
 induction t using Nat.strongRecOn with
 |_ t ih=>
  by_cases h1:t=0
  ·subst h1;rfl
  have hn:L[t-1]?=some (zaG L t):=zbn ⟨by omega,h⟩;have da:=hd.a _ _ hn;have db:=hd.b _ _ hn;have dc:=hd.c _ _ hn;have e:vfn L G t=_:=zjp hd (valF L G) 0#64 (by omega) hn;have ia:=ih (zaG L t).a.toNat (by omega) (by omega);have ib:=ih (zaG L t).b.toNat (by omega) (by omega);have ic:=ih (zaG L t).c.toNat (by omega) (by omega);unfold vfn at ia ib ic;rw[e,zfe hd (by omega) hn,ia,ib,ic];unfold valF;rw[wT_tr hd (by omega) (by omega),wT_tr hd (by omega) (by omega)];rfl
section
variable {L L2:List Nd}(hd:Dag L)(hn:∀(i j:Nat) m,L[i]?=some m→L[j]?=some m→i=j)(hd2:Dag L2)(hn2:∀(i j:Nat) m,L2[i]?=some m→L2[j]?=some m→i=j)
theorem kids_tr{t u:Nat}(hd:Dag L)(hd2:Dag L2)(ht:1≤t∧t≤L.length)(hu:1≤u∧u≤L2.length)(h:tr L t=tr L2 u):(kids L t).map (tr L)=(kids L2 u).map (tr L2):=by have h1:=zbn ht;have h2:=zbn hu;rw[zfe hd ht.1 h1,zfe hd2 hu.1 h2]at h;unfold kids;rw[h1,h2];unfold trN at h;injection h with e1 e2 e3 e4 e5 e6 e7;unfold zco;dsimp only;rw[e1];rcases zcj (zaG L2 u).op with q|q|q|q<;>rw[q]<;>simp[e5,e6,e7]
include hd hn hd2 hn2
theorem mem_tr{o o2:List Nat}(ho:∀x∈o,x≤L.length)(ho2:∀x∈o2,x≤L2.length)(hm:o.map (tr L)=o2.map (tr L2)){t u:Nat}(ht:t≤L.length)(hu:u≤L2.length)(h:tr L t=tr L2 u):t∈o↔u∈o2:=by
 constructor
 ·intro q;have:tr L2 u∈o2.map (tr L2):=by rw[←hm,←h];exact mem_map_of_mem q
  obtain⟨v,hv,e⟩:=mem_map.1 this;rw[←zoE hd2 hn2 (ho2 v hv) hu e];exact hv
 ·intro q;have:tr L t∈o.map (tr L):=by rw[hm,h];exact mem_map_of_mem q
  obtain⟨v,hv,e⟩:=mem_map.1 this;rw[←zoE hd hn (ho v hv) ht e];exact hv
theorem zho{N:Nat}(ih:∀t u,t<N→1≤t→t≤L.length→1≤u→u≤L2.length→tr L t=tr L2 u→∀o o2:List Nat,(∀x∈o,1≤x∧x≤L.length)→(∀x∈o2,1≤x∧x≤L2.length)→o.map (tr L)=o2.map (tr L2)→(post L t o).map (tr L)=(post L2 u o2).map (tr L2)) :
  ∀(l l2 o o2:List Nat),(∀x∈l,x<N∧1≤x∧x≤L.length)→(∀x∈l2,1≤x∧x≤L2.length)→l.map (tr L)=l2.map (tr L2)→(∀x∈o,1≤x∧x≤L.length)→(∀x∈o2,1≤x∧x≤L2.length)→o.map (tr L)=o2.map (tr L2) →
  (posts L l o).map (tr L)=(posts L2 l2 o2).map (tr L2)∧(∀x∈posts L l o,1≤x∧x≤L.length)∧(∀x∈posts L2 l2 o2,1≤x∧x≤L2.length)
 |[],l2,o,o2,hl,hl2,hm,ho,ho2,hmo=>by
  cases l2 with
  |nil=>exact⟨hmo,ho,ho2⟩
  |cons a r=>cases hm
 |t::r,l2,o,o2,hl,hl2,hm,ho,ho2,hmo=>by
  cases l2 with
  |nil=>cases hm
  |cons u r2=>
   rw[map_cons,map_cons]at hm;injection hm with h1 h2;have ht:=hl t (mem_cons_self ..);have hu:=hl2 u (mem_cons_self ..);have e:=ih t u ht.1 ht.2.1 ht.2.2 hu.1 hu.2 h1 o o2 ho ho2 hmo;have m1:∀x∈post L t o,1≤x∧x≤L.length:=fun x hx=>by have:=(zbP hd (N:=L.length) [t] o (fun c hc=>by rw[mem_singleton]at hc;rw[hc];exact ht.2)).2.2 x hx;exact this.elim (ho x) id
   have m2:∀x∈post L2 u o2,1≤x∧x≤L2.length:=fun x hx=>by have:=(zbP hd2 (N:=L2.length) [u] o2 (fun c hc=>by rw[mem_singleton]at hc;rw[hc];exact hu)).2.2 x hx;exact this.elim (ho2 x) id
   exact zho ih r r2 (post L t o) (post L2 u o2) (fun x hx=>hl x (mem_cons_of_mem _ hx)) (fun x hx=>hl2 x (mem_cons_of_mem _ hx)) h2 m1 m2 e
theorem post_tr:∀t u,1≤t→t≤L.length→1≤u→u≤L2.length→tr L t=tr L2 u→∀o o2:List Nat,(∀x∈o,1≤x∧x≤L.length)→(∀x∈o2,1≤x∧x≤L2.length)→o.map (tr L)=o2.map (tr L2)→(post L t o).map (tr L)=(post L2 u o2).map (tr L2):=by
 intro t;induction t using Nat.strongRecOn with
 |_ t ih=>
  intro u t1 t2 u1 u2 h o o2 ho ho2 hm;have hmem:=mem_tr hd hn hd2 hn2 (fun x hx=>(ho x hx).2) (fun x hx=>(ho2 x hx).2) hm t2 u2 h;rw[zge hd t1,zge hd2 u1];by_cases hto:t∈o
  ·rw[if_pos hto,if_pos (hmem.1 hto)];exact hm
  ·rw[if_neg hto,if_neg (fun q=>hto (hmem.2 q))];have hk:=kids_tr hd hd2 ⟨t1,t2⟩ ⟨u1,u2⟩ h
   have:=(zho hd hn hd2 hn2 (N:=t) (fun t' u' a b c d e f=>ih t' a u' b c d e f) (kids L t) (kids L2 u) o o2 (fun x hx=>by
    have:=zet hd t1 hx
    exact⟨this.2,this.1,by omega⟩) (fun x hx=>by
    have:=zet hd2 u1 hx
    exact⟨this.1,by omega⟩) hk ho ho2 hm).1
   rw[map_append,map_append,this];simp[h]
theorem zoZ{l l2:List Nat}(hl:∀x∈l,1≤x∧x≤L.length)(hl2:∀x∈l2,1≤x∧x≤L2.length)(hm:l.map (tr L)=l2.map (tr L2)):(posts L l []).map (tr L)=(posts L2 l2 []).map (tr L2):=
 (zho hd hn hd2 hn2 (N:=L.length+1) (fun t u _ a b c d e=>post_tr hd hn hd2 hn2 t u a b c d e) l l2 [] [] (fun x hx=>⟨by have:=hl x hx;omega,hl x hx⟩) hl2 hm (fun x h=>by cases h) (fun x h=>by cases h) rfl).1
theorem ix_tr{O O2:List Nat}(ho:∀x∈O,x≤L.length)(ho2:∀x∈O2,x≤L2.length)(hm:O.map (tr L)=O2.map (tr L2)){t u:Nat}(ht:t≤L.length)(hu:u≤L2.length)(h:tr L t=tr L2 u):ixO O t=ixO O2 u:=by
 unfold ixO;congr 1;induction O generalizing O2 with
 |nil=>
  cases O2 with
  |nil=>rfl
  |cons a r=>cases hm
 |cons a r ih=>
  cases O2 with
  |nil=>cases hm
  |cons b r2=>
   rw[map_cons,map_cons]at hm;injection hm with h1 h2;have hi:=ih (fun x hx=>ho x (mem_cons_of_mem _ hx)) (fun x hx=>ho2 x (mem_cons_of_mem _ hx)) h2;rw[idxOf_cons,idxOf_cons,hi];have ha:=ho a (mem_cons_self ..);have hb:=ho2 b (mem_cons_self ..);by_cases e:a=t
   ·have e2:b=u:=zoE hd2 hn2 hb hu (by rw[←h1,e,h]);rw[e,e2,beq_self_eq_true,beq_self_eq_true]
   ·have e2:b≠u:=fun q=>e (zoE hd hn ha ht (by rw[h1,q,h]));rw[beq_false_of_ne e,beq_false_of_ne e2]
theorem ren_tr{l l2:List Nat}(hl:∀x∈l,1≤x∧x≤L.length)(hl2:∀x∈l2,1≤x∧x≤L2.length)(hm:l.map (tr L)=l2.map (tr L2)):renL L (posts L l [])=renL L2 (posts L2 l2 [])∧l.map (ixO (posts L l []))=l2.map (ixO (posts L2 l2 []))∧(posts L l []).map (ixO (posts L l []))=(posts L2 l2 []).map (ixO (posts L2 l2 [])):=by
 have hO:=zoZ hd hn hd2 hn2 hl hl2 hm;have b1:∀x∈posts L l [],1≤x∧x≤L.length:=fun x hx=>((zbP hd (N:=L.length) l [] hl).2.2 x hx).elim (fun q=>by cases q) id;have b2:∀x∈posts L2 l2 [],1≤x∧x≤L2.length:=fun x hx=>((zbP hd2 (N:=L2.length) l2 [] hl2).2.2 x hx).elim (fun q=>by cases q) id;generalize posts L l []=O at *;generalize posts L2 l2 []=O2 at *;have ix:=fun {t u:Nat} ht hu h=>ix_tr hd hn hd2 hn2 (fun x hx=>(b1 x hx).2) (fun x hx=>(b2 x hx).2) hO (t:=t) (u:=u) ht hu h;have key:∀{β:Type} (f g:Nat→β),(∀t u,1≤t→t≤L.length→1≤u→u≤L2.length→tr L t=tr L2 u→f t=g u)→∀(P P2:List Nat),(∀x∈P,1≤x∧x≤L.length)→(∀x∈P2,1≤x∧x≤L2.length)→P.map (tr L)=P2.map (tr L2)→P.map f=P2.map g:=by
  intro β f g hfg P;induction P with
  |nil=>
   intro P2 _ _ h;cases P2 with
   |nil=>rfl
   |cons a r=>cases h
  |cons a r ih=>
   intro P2 h1 h2 h;cases P2 with
   |nil=>cases h
   |cons b r2=>
    rw[map_cons,map_cons]at h;injection h with e1 e2;have p1:=h1 a (mem_cons_self ..);have p2:=h2 b (mem_cons_self ..);rw[map_cons,map_cons,hfg a b p1.1 p1.2 p2.1 p2.2 e1,ih r2 (fun x hx=>h1 x (mem_cons_of_mem _ hx)) (fun x hx=>h2 x (mem_cons_of_mem _ hx)) e2]
 refine⟨key (fun t=>renN O (zaG L t)) (fun t=>renN O2 (zaG L2 t)) (fun t u t1 t2 u1 u2 h=>?_) O O2 b1 b2 hO,key _ _ (fun t u t1 t2 u1 u2 h=>ix t2 u2 h) l l2 hl hl2 hm,key _ _ (fun t u t1 t2 u1 u2 h=>ix t2 u2 h) O O2 b1 b2 hO⟩;have h1:=zbn (L:=L) ⟨t1,t2⟩;have h2:=zbn (L:=L2) ⟨u1,u2⟩;have a1:=hd.a _ _ h1;have a2:=hd.b _ _ h1;have a3:=hd.c _ _ h1;have c1:=hd2.a _ _ h2;have c2:=hd2.b _ _ h2;have c3:=hd2.c _ _ h2;rw[zfe hd t1 h1,zfe hd2 u1 h2]at h;generalize zaG L t=n at *;generalize zaG L2 u=m at *;obtain⟨o1,w1,x1,y1,z1,k1,s1⟩:=n;obtain⟨o2,w2,x2,y2,z2,k2,s2⟩:=m;unfold trN at h;dsimp only at *;injection h with e1 e2 e3 e4 e5 e6 e7;subst e1 e2 e3 e4;have rp:∀x y:Int,0≤x→x≤L.length→0≤y→y≤L2.length→tr L x.toNat=tr L2 y.toNat→rpI O x=rpI O2 y:=fun x y x0 x1 y0 y1 h=>by
  unfold rpI;by_cases hx:x≤0
  ·have hx0:x=0:=by omega
   subst hx0;have hy:y≤0:=Int.not_lt.1 fun q=>tr_nz hd2 (t:=y.toNat) (by omega) (by omega) h.symm;rw[if_pos (Int.le_refl 0),if_pos hy]
  ·have hy:¬y≤0:=fun q=>by
    have hy0:y=0:=by omega
    subst hy0;exact tr_nz hd (t:=x.toNat) (by omega) (by omega) h
   rw[if_neg hx,if_neg hy,ix (by omega) (by omega) h]
 show renN O ⟨o1,w1,x1,y1,z1,k1,s1⟩=renN O2 ⟨o1,w1,x2,y2,z2,k1,s1⟩;unfold renN;dsimp only;rw[rp x1 x2 (by omega) (by omega) (by omega) (by omega) e5,rp y1 y2 (by omega) (by omega) (by omega) (by omega) e6,rp z1 z2 (by omega) (by omega) (by omega) (by omega) e7]
end
theorem dump_tr{L L2:List Nd}{K K2:List (ByteArray×Int)}(hg:zb8 L K)(hg2:zb8 L2 K2){l l2:List Nat}(hl:∀x∈l,1≤x∧x≤L.length)(hl2:∀x∈l2,1≤x∧x≤L2.length)(hm:l.map (tr L)=l2.map (tr L2)) :
  zqi zbv L (posts L l []) (l.map fun (t:Nat)=>(t:Int))=zqi zbv L2 (posts L2 l2 []) (l2.map fun (t:Nat)=>(t:Int)):=by
 obtain⟨r1,r2,r3⟩:=ren_tr hg.dag hg.nod hg2.dag hg2.nod hl hl2 hm;obtain⟨o1,m1⟩:=zmv hg.dag hl;obtain⟨o2,m2⟩:=zmv hg2.dag hl2;rw[←zoU hg o1 m1,←zoU hg2 o2 m2,r1,r2,r3]
theorem zkf{lim:Int}{always:Bool}{leaf:Nd→Int}{nd:Nat→Nd}:∀(r:List Nat) (s:RS),(ze5 lim always leaf nd r s).1.length≤s.1.length+r.length
 |[],s=>Nat.le_refl _
 |t::r,s=>by show (ze5 lim always leaf nd r (zbs lim always leaf (t:Int) (nd t) s).2).1.length≤_;have h1:=zkf r (zbs lim always leaf (t:Int) (nd t) s).2 (lim:=lim) (always:=always) (leaf:=leaf) (nd:=nd);have h2:=ziH (lim:=lim) (always:=always) (leaf:=leaf) (t:=(t:Int)) (n:=nd t) (s:=s);rw[length_cons];omega
section
end
theorem zn3{s t:ByteArray}{w:Int}{K:List (ByteArray×Int)}{j:Nat}{v:Int}(h:za0 t 0 (zbx s w K)=some (j,v)):(∃j',za0 t 0 K=some (j',v))∨(t=s∧v=w):=by
 unfold zbx at h;split at h
 ·exact .inl ⟨j,h⟩
 ·exact zkx K 0 j v h
def zlX(L:List Nd)(P:List Nat)(K':List (ByteArray×Int)):Prop:=∀t∈P,(zaG L t).op=4→zbl K' (zaG L t)=false
theorem zlX.set{L:List Nd}{K:List (ByteArray×Int)}(hg:zb8 L K){P:List Nat}(hbd:∀t∈P,1≤t∧t≤L.length){K':List (ByteArray×Int)}(h:zlX L P K'){t:Nat}(ht:t∈P)(h4:(zaG L t).op=4):zlX L P (zbx (zaG L t).name (zaG L t).w K'):=fun u hu hu4=>by
 obtain⟨n1,n2⟩:=zg7 (h u hu hu4);refine bad_of n1 fun j v hv=>?_;rcases zn3 hv with⟨j',hj⟩|⟨he,hw⟩
 ·exact n2 j' v hj
 ·rw[hw];exact name_w hg (mem_of_getElem? (zbn (hbd t ht))) (mem_of_getElem? (zbn (hbd u hu))) h4 hu4 he.symm
section
end
end Go.AM.N14
namespace Go.AM.N14
open Go Go.AM
section
end
section
end
end Go.AM.N14
namespace Go.AM.N14
open List Go Go.AM
def zot(L:List Nd)(s:RS)(t:Nat):Prop:=∃v:Nat,s.2.2 (t:Int)=(v:Int)∧1≤v∧v≤s.1.length∧tr s.1 v=tr L t
theorem zot.w{L:List Nd}{s:RS}{t v:Nat}(hd:Dag L)(hds:Dag s.1)(ht:1≤t∧t≤L.length)(hv:1≤v∧v≤s.1.length)(h:tr s.1 v=tr L t):(zaG s.1 v).w=(zaG L t).w:=by rw[zfe hd ht.1 (zbn ht),zfe hds hv.1 (zbn hv)]at h;unfold trN at h;injection h
section
variable {lim:Int}(hlim:lim≤0){leaf:Nd→Int}(hlf:∀n,leaf n=0){L:List Nd}{K:List (ByteArray×Int)}(hg:zb8 L K){P:List Nat}(hbd:∀t∈P,1≤t∧t≤L.length)(hcl:zdk L P)
include hlim hlf hg hbd hcl
theorem car_mean1{i t:Nat}(ht:P[i]?=some t){s:RS}(hs:zb8 s.1 s.2.1)(hk:zlX L P s.2.1)(hm:∀u∈P.take i,zot L s u) :
  (zbs lim true leaf (t:Int) (zaG L t) s).1=0∧zb8 (zbs lim true leaf (t:Int) (zaG L t) s).2.1 (zbs lim true leaf (t:Int) (zaG L t) s).2.2.1∧(∃M,(zbs lim true leaf (t:Int) (zaG L t) s).2.1=s.1++M)∧zlX L P (zbs lim true leaf (t:Int) (zaG L t) s).2.2.1 ∧
   (∀u:Int,u≠(t:Int)→(zbs lim true leaf (t:Int) (zaG L t) s).2.2.2 u=s.2.2 u)∧zot L (zbs lim true leaf (t:Int) (zaG L t) s).2 t:=by
 have htm:=mem_of_getElem? ht;have hb:=hbd t htm;have hn:=zbn hb;have hcl:=hcl i t ht;have hrt:=hg.rt _ (mem_of_getElem? hn);have hnum:=hg.num _ (mem_of_getElem? hn);have hset:=fun h4=>hk.set hg hbd htm h4;have hfree:=hk t htm;obtain⟨ka,kb,kc⟩:=part_kid hg.dag hn;have da:=hg.dag.a _ _ hn;have db:=hg.dag.b _ _ hn;have dc:=hg.dag.c _ _ hn;have htr:=zfe hg.dag hb.1 hn;have upd:∀(x y:Int),updI s.2.2 x y x=y:=fun x y=>if_pos rfl;have upd2:∀(x y u:Int),u≠x→updI s.2.2 x y u=s.2.2 u:=fun x y u h=>if_neg h;have part:∀x:Int,(x≠0→∃u∈kids L t,x=(u:Int))→x=0∨(isT s.1 (s.2.2 x)=true∧(∀d,wT s.1 d (s.2.2 x)=wT L d x)∧tr s.1 (s.2.2 x).toNat=tr L x.toNat):=fun x hx=>by
  by_cases h0:x=0
  ·exact .inl h0
  ·obtain⟨u,hu,rfl⟩:=hx h0;have hup:=hcl u hu;obtain⟨v,v1,v2,v3,v5⟩:=hm u hup;have hub:=hbd u (mem_of_mem_take hup);have v4:=zot.w hg.dag hs.dag hub ⟨v2,v3⟩ v5;refine .inr ⟨by rw[v1];exact za7.2 ⟨by omega,by omega⟩,fun d=>by rw[v1,wT_eq ⟨v2,v3⟩,wT_eq hub,v4],by rw[v1];exact v5⟩
 have pa:=part _ ka;have pb:=part _ kb;have pc:=part _ kc;have mt:∀x:Int,(x=0∨(isT s.1 (s.2.2 x)=true∧(∀d,wT s.1 d (s.2.2 x)=wT L d x)∧tr s.1 (s.2.2 x).toNat=tr L x.toNat))→tr s.1 (mapP s.2.2 x).toNat=tr L x.toNat∧(mapP s.2.2 x).toNat≤s.1.length:=fun x hx=>by
  unfold mapP;rcases hx with rfl|⟨h1,_,h⟩
  ·exact⟨rfl,Nat.zero_le _⟩
  ·by_cases h0:x=0
   ·rw[if_pos h0,h0];exact⟨rfl,Nat.zero_le _⟩
   ·rw[if_neg h0];have:=za7.1 h1;exact⟨h,by omega⟩
 generalize hN:zaG L t=n at *;unfold zbs;rw[if_neg (fun q=>q.2 (hlf n)),if_pos (show (true||movN s.2.2 n)=true from rfl)];have hR:zhz s.1 s.2.1 (mapN s.2.2 n):=right_map hrt (pa.imp id fun h=>⟨h.1,h.2.1⟩) (pb.imp id fun h=>⟨h.1,h.2.1⟩) (pc.imp id fun h=>⟨h.1,h.2.1⟩) hfree (fun h=>by omega) (fun h=>by omega) (fun h=>by omega);obtain⟨e0,v,v1,v2,v3,v4,⟨M,v5⟩,v6⟩:=mk_right hlim hR;have hg2:zb8 (mkR lim s.1 s.2.1 (mapN s.2.2 n)).2.2.1 (mkR lim s.1 s.2.1 (mapN s.2.2 n)).2.2.2:=zlC (show zg9 (mapN s.2.2 n) from hnum) hs;refine⟨e0,hg2,⟨M,v5⟩,?_,fun u hu=>upd2 _ _ u hu,⟨v,by show updI _ _ _ _=_;rw[upd,v1],v2,v3,?_⟩⟩
 ·rcases v6 with v6|⟨h4',v6⟩
  ·show zlX L P (mkR lim s.1 s.2.1 (mapN s.2.2 n)).2.2.2;rw[v6];exact hk
  ·show zlX L P (mkR lim s.1 s.2.1 (mapN s.2.2 n)).2.2.2;rw[v6];exact hset h4'
 ·show tr (mkR lim s.1 s.2.1 (mapN s.2.2 n)).2.2.1 v=_;have hnv:=zbn (L:=(mkR lim s.1 s.2.1 (mapN s.2.2 n)).2.2.1) ⟨v2,v3⟩;rw[v4]at hnv;have hd2:=hg2.dag;rw[zfe hd2 v2 hnv,htr];rw[v5]at hd2 ⊢;have a1:=mt _ pa;have a2:=mt _ pb;have a3:=mt _ pc;rw[show (mapN s.2.2 n).a=mapP s.2.2 n.a from rfl,show (mapN s.2.2 n).b=mapP s.2.2 n.b from rfl,show (mapN s.2.2 n).c=mapP s.2.2 n.c from rfl,zoD hs.dag hd2 a1.2,zoD hs.dag hd2 a2.2,zoD hs.dag hd2 a3.2,a1.1,a2.1,a3.1];rfl
theorem zpG:∀(r:List Nat) (i:Nat) (s:RS),P.Nodup→P.drop i=r→zb8 s.1 s.2.1→zlX L P s.2.1→(∀u∈P.take i,zot L s u) →
  remOk lim true leaf (zaG L) r s∧zb8 (ze5 lim true leaf (zaG L) r s).1 (ze5 lim true leaf (zaG L) r s).2.1∧∀u∈P,zot L (ze5 lim true leaf (zaG L) r s) u
 |[],i,s,hnd,hr,hs,hk,hm=>by
  have:P.take i=P:=by have:=take_append_drop i P;rwa [hr,append_nil]at this
  rw[this]at hm;exact⟨trivial,hs,hm⟩
 |t::r,i,s,hnd,hr,hs,hk,hm=>by
  have ht:P[i]?=some t:=by
   have:(P.drop i)[0]?=some t:=by rw[hr];rfl
   rwa [List.getElem?_drop,Nat.add_zero]at this
  have hr2:P.drop (i+1)=r:=by rw[←drop_drop,hr];rfl
  have htk:P.take (i+1)=P.take i++[t]:=by rw[take_add_one,ht];rfl
  obtain⟨a1,a2,⟨M,a3⟩,a4,a5,a6⟩:=car_mean1 hlim hlf hg hbd hcl ht hs hk hm;have hds:=a2.dag
  obtain⟨b1,b2,b4⟩:=zpG r (i+1) (zbs lim true leaf (t:Int) (zaG L t) s).2 hnd hr2 a2 a4 (fun u hu=>by
   rw[htk,mem_append,mem_singleton]at hu;rcases hu with hu|rfl
   ·have hne:(u:Int)≠(t:Int):=fun e=>by
     have e:u=t:=by omega
     subst e;have:=hnd;rw[←take_append_drop i P,hr]at this;exact(nodup_append.1 this).2.2 u hu u (mem_cons_self ..) rfl
    obtain⟨v,v1,v2,v3,v5⟩:=hm u hu;rw[a3]at hds;exact⟨v,by rw[a5 _ hne,v1],v2,by rw[a3,length_append];omega,by rw[a3,zoD hs.dag hds v3];exact v5⟩
   ·exact a6)
  exact⟨⟨a1,b1⟩,b2,b4⟩
end
end Go.AM.N14
namespace Go.AM.N14
open Go Go.AM
end Go.AM.N14
namespace Go.AM.N14
open List Go Go.AM
theorem zpr{L:List Nd}{K:List (ByteArray×Int)}(h:zb8 L K):∀m∈L,zos m:=fun m hm=>by
 have hr:=h.rt m hm;have ho:=hr.op;have hw:=hr.w;refine⟨by omega,by omega,h.num m hm,fun h31=>?_,?_⟩
 ·have hwi:=hr.wi;have hle:=wT_le (fun m hm=>zgX h m hm) m.a;unfold zbB at hwi;rw[if_neg (by omega),if_neg (by omega),if_neg (by omega),if_neg (by omega),if_neg (by omega),if_neg (by omega),if_pos h31]at hwi;simp only[Bool.and_eq_false_iff,decide_eq_false_iff_not,not_or,Decidable.not_not]at hwi;omega
 ·by_cases h4:m.op=4
  ·have hb:=hr.nm;cases q:zcB m.name with
   |false=>exact absurd ⟨h4,by unfold zbl;rw[q];rfl⟩ hb
   |true=>
    unfold zcB at q;simp only[Bool.and_eq_true,decide_eq_true_eq]at q;have:=q.1.1.2;rw[size_list]at this;exact this
  ·have hs:=hr.sp;have hnm:zi6 m=false:=by
    cases q:zi6 m with
    |false=>rfl
    |true=>
     refine absurd ?_ hs;unfold zex;rw[q,decide_eq_true h4];simp
   unfold zi6 at hnm;have e2:m.name.toList=(⟨#[]⟩:ByteArray).toList:=by simpa using hnm
   rw[←ByteArray.toList_eq,e2,ByteArray.toList_eq];decide
theorem node_call{H:Hp}{p f g:Nat}{lim:Int}{L:List Nd}{K:List (ByteArray×Int)}{sl:Value}(hst:StF H p lim L K sl f g)(hL:L.length≤2^40){t:Nat}(ht:1≤t∧t≤L.length):RR Av [.pointer (some ⟨p,0,none⟩),.int .i64 (t:Int)] H=some (.tuple #[(zaG L t).val,.int .i64 0],H):=by
 have hT:isT L (t:Int)=true:=za7.2 ⟨by omega,by omega⟩;have e10:=Go.AM.c10 hst.st (by omega) (t:Int);rw[hT,if_pos rfl]at e10;have:ze6 L (t:Int)=zaG L t:=by unfold ze6;rw[hT,if_pos rfl,show ((t:Int)-1).toNat=t-1 by omega,zbn ht];rfl
 rw[this]at e10;exact e10
theorem c_carry{H0:Hp}{q fs gs:Nat}{lims:Int}{Ls:List Nd}{Ks:List (ByteArray×Int)}{sls:Value}(hsrc:StF H0 q lims Ls Ks sls fs gs)(hgs:zb8 Ls Ks)(hLs:Ls.length≤2^38){p f g:Nat}{lim:Int}{sl:Value}(ht:StF H0 p lim [] [] sl f g)
  {x:Value} {ns:List Nat} (hx:Rdb H0 1 x ns.length (ints ns)) (hxF:∀j,Id x j→¬Foot p f g sl j) (hsF:∀j,Foot q fs gs sls j→¬Foot p f g sl j) (hns:∀t∈ns,1≤t∧t≤Ls.length) (hnl:ns.length≤2^40)
  (hok:remOk lim true (fun _=>0) (zaG Ls) (posts Ls ns []) ([],[],fun _=>0)) :
  ∃H' v,RR BR [.pointer (some ⟨q,0,none⟩),x,.pointer (some ⟨p,0,none⟩)] H0=some (.tuple #[v,.int .i64 0],H')∧RemR H0 H' p f g lim sl v ns (ze5 lim true (fun _=>0) (zaG Ls) (posts Ls ns []) ([],[],fun _=>0)):=by
 have hr:=zmq E0 rfl (.pointer (some ⟨q,0,none⟩)) x (.pointer (some ⟨p,0,none⟩)) H0;unfold zhM at hr;obtain⟨p1,p2,p3,p4⟩:=zcy hgs hns
 obtain⟨H8,v8,e8,r8⟩:=c_remade (lf:=.func (.func AS) #[] #[]) (always:=true) (leaf:=fun _=>0) hsrc hgs hLs ht zb8.nil (by decide) hx.o hxF hns hnl (fun B fB H s hRM t htm=>node_call (hsrc.keep (fun j hj=>by
   have:=hsrc.foot_lt hj;have:=fB.next
   rw[hRM.old j (by omega) (hsF j hj),fB.same j (by omega) fun z=>z]) (by have:=fB.next;have:=hRM.next;omega)) (by omega) (p2 t htm))
  (fun B fB H hold t htm h4 α k=>by
   have hcall:RR AS [(zaG Ls t).val] H=some (.tuple #[.int .i64 0,.int .i64 0],H):=zjW E0 rfl (zaG Ls t).val H;have hpc:∀(k:Value→Hp→Option α),zdI orc RR (.func (.func AS) #[] #[]) [(zaG Ls t).val] H k=zad RR AS [(zaG Ls t).val] H k:=fun k=>rfl
   rw[hpc,zae hcall]) hok
 obtain⟨H9,e9,f9⟩:=c_number H8;rw[zka Al _ ⟨Az,by kernel_rfl⟩,zac,zaD,zka Al _ ⟨Az,by kernel_rfl⟩,zac,zaD,zae e8,x01,zae e9]at hr;exact⟨H9,v8,hr,r8.behind (Frm.refl _ _) f9⟩
theorem made_tree{L:List Nd}{s:RS}{ns:List Nat}(hmd:∀t∈ns,zot L s t):∃ms:List Nat,(ns.map fun (t:Nat)=>s.2.2 (t:Int))=ms.map (fun (t:Nat)=>(t:Int))∧(∀t∈ms,1≤t∧t≤s.1.length)∧ns.map (tr L)=ms.map (tr s.1):=by
 induction ns with
 |nil=>exact⟨[],rfl,fun t h=>(by cases h),rfl⟩
 |cons t r ih=>
  obtain⟨ms,h1,h2,h3⟩:=ih fun u hu=>hmd u (mem_cons_of_mem _ hu);obtain⟨v,v1,v2,v3,v5⟩:=hmd t (mem_cons_self ..);refine⟨v::ms,by rw[map_cons,map_cons,h1,v1],fun u hu=>?_,by rw[map_cons,map_cons,h3,v5]⟩;rcases mem_cons.1 hu with rfl|hu
  ·exact⟨v2,v3⟩
  ·exact h2 u hu
section
variable {L:List Nd}{K:List (ByteArray×Int)}(hg:zb8 L K){ns:List Nat}(hns:∀t∈ns,1≤t∧t≤L.length){L2:List Nd}{K2:List (ByteArray×Int)}(hg2:zb8 L2 K2){ms:List Nat}(hms:∀t∈ms,1≤t∧t≤L2.length)(hm:ns.map (tr L)=ms.map (tr L2))
include hg hns hg2 hms hm
theorem dumpR_tr:dumpR L (ns.map fun (t:Nat)=>(t:Int))=dumpR L2 (ms.map fun (t:Nat)=>(t:Int))∧(zb2 L (ns.map fun (t:Nat)=>(t:Int))).1=0∧(zb2 L2 (ms.map fun (t:Nat)=>(t:Int))).1=0:=by
 have o:∀{L:List Nd} {ns:List Nat},(∀t∈ns,1≤t∧t≤L.length)→zb2 L (ns.map fun (t:Nat)=>(t:Int))=(0,posts L ns []):=fun {L ns} h=>by
  unfold zb2;rw[if_pos,zfm];exact all_eq_true.2 fun x hx=>by obtain⟨t,ht,rfl⟩:=mem_map.1 hx;have:=h t ht;exact za7.2 ⟨by omega,by omega⟩
 unfold dumpR;rw[o hns,o hms];exact⟨by rw[if_pos rfl,if_pos rfl];exact dump_tr hg hg2 hns hms hm,rfl,rfl⟩
theorem vals_tr(G:ByteArray→W64):ns.map (vfn L G)=ms.map (vfn L2 G):=by
 have e1:ns.map (vfn L G)=(ns.map (tr L)).map (Tr.v G):=by rw[map_map];exact map_congr_left fun t ht=>vfn_tr hg.dag G (hns t ht).2
 have e2:ms.map (vfn L2 G)=(ms.map (tr L2)).map (Tr.v G):=by rw[map_map];exact map_congr_left fun t ht=>vfn_tr hg2.dag G (hms t ht).2
 rw[e1,e2,hm]
theorem drawn_tr{nums:List Int}(hn:∀z∈nums,0≤z∧z<18446744073709551616):zeS L2 ms (zbT nums 0 (zfH L ns))=(0,ms.map (vfn L2 (zeq (zbT nums 0 (zfH L ns))))):=by
 have hO:=zoZ hg.dag hg.nod hg2.dag hg2.nod hns hms hm;obtain⟨_,p1,_⟩:=zcy hg hns;obtain⟨_,p2,_⟩:=zcy hg2 hms;unfold zeS;rw[zkR hg hns hn,if_neg (by decide),if_neg];intro q;obtain⟨u,hu,h⟩:=any_eq_true.1 q;have:tr L2 u∈(posts L ns []).map (tr L):=by rw[hO];exact mem_map_of_mem hu
 obtain⟨t,ht,e⟩:=mem_map.1 this;have hb:=zkT hg hns hn ht;have h1:=zbn (p1 t ht);have h2:=zbn (p2 u hu);rw[zfe hg.dag (p1 t ht).1 h1,zfe hg2.dag (p2 u hu).1 h2]at e;unfold trN at e;injection e with e1 e2 e3 e4 e5 e6 e7;rw[zhx h1,e1,e2,e4]at hb;rw[zhx h2,hb]at h;cases h
end
theorem run8c(l:List UInt8)(hl:l.length≤2^20){x:Value}{nums:List Int}{H:Hp}(hx:Rdb H 1 x nums.length (u64I nums))(hn:∀z∈nums,0≤z∧z<18446744073709551616)(hL:Laid H) :
  ∃H',RR Cb [str l,x] H=some (.bool true,H'):=by
 have hr:=zdp E0 rfl (str l) x H;unfold zb5 at hr;have tr:∀{A B C:Hp},Frm (fun _=>False) A B→Frm (fun _=>False) B C→Frm (fun _=>False) A C:=fun a b=>a.trans b fun j q=>q.elim;have e0:∀x:Int,¬(x≠x):=fun x q=>q rfl;obtain⟨H1,e1,f1⟩:=c_live hL;rw[zae e1,zb9,zac,Bool.not_true,zaD]at hr;have hL1:=hL.keep f1 fun j q=>q.elim;have hlo:=c_lload hL1 l (by omega);cases hr0:zgj 0 (zdg l) 0 [] [] [] with
 |bad ln e=>
  rw[hr0]at hlo;obtain⟨H2,e2,f2⟩:=hlo;rw[zae e2,s_t3a,s_t3b,s_t3c,zb9,zac,Bool.not_false,zaP]at hr;exact⟨H2,hr⟩
 |good L K q=>
  rw[hr0]at hlo;obtain⟨H2,st,f,g,sl,rv,e2,f2,s2,r2,h2a,h2b,h2c⟩:=hlo;obtain⟨l1,l2⟩:=load_bd hr0;obtain⟨hg,hqb⟩:=zmP hr0;obtain⟨ns,rfl,hns⟩:∃ns:List Nat,q=ns.map (fun (t:Nat)=>(t:Int))∧∀t∈ns,1≤t∧t≤L.length:=nats q (all_eq_true.2 fun t ht=>za7.2 (hqb t ht));rw[length_map]at l2 r2;rw[←zbS]at r2;have hrI:∀{H:Hp} {rv:Value} {ns:List Nat},Rdb H 1 rv ns.length (ints ns)→Rdb H 1 rv (ns.map fun (t:Nat)=>(t:Int)).length (zb6 (ns.map fun (t:Nat)=>(t:Int))):=fun h=>by rw[length_map,←zbS];exact h
  have hlenA:=varsR_len hg.dag hns;have kf:∀{A B:Hp} {p f g:Nat} {L:List Nd} {K:List (ByteArray×Int)} {sl:Value},StF A p 0 L K sl f g→Frm (fun _=>False) A B→StF B p 0 L K sl f g:=fun s k=>s.keep (fun j hj=>k.same j (s.foot_lt hj) fun q=>q) k.next;have hL2:=hL1.keep f2 fun j q=>q.elim;have hnew:RR AU [.int .i64 0] H2=some (.tuple #[.pointer (some ⟨H2.next+2,0,none⟩),.int .i64 0],newH 0 H2):=by rw[Go.AM.c16,if_neg (by decide)]
  have f23:Frm (fun _=>False) H2 (newH 0 H2):=⟨by rw[zi5];omega,fun j hj _=>zlz 0 H2 j hj⟩
  have t3:=newH_st 0 H2;have s3:=kf s2 f23;have r3:=r2.keep f23 fun _ _ q=>q;have hL3:=hL2.keep f23 fun j q=>q.elim;have n2:∀j,Foot st f g sl j→j<H2.next:=fun j hj=>s2.foot_lt hj;have nF:∀j,Foot (H2.next+2) H2.next (H2.next+1) (.slice none 0 0) j→H2.next≤j:=fun j hj=>by have:=zgZ hj;omega
  obtain⟨p1,p2,p3,p4⟩:=zcy hg hns;have kfree:zlX L (posts L ns []) []:=fun t ht h4=>bad_of (zg7 ((hg.rt _ (mem_of_getElem? (zbn (p2 t ht)))).free h4)).1 fun j v hv=>by cases hv
  obtain⟨cm1,cm2,cm3⟩:=zpG (lim:=0) (by decide) (leaf:=fun _=>0) (fun _=>rfl) hg p2 p3 (posts L ns []) 0 ([],[],fun _=>0) p1 rfl zb8.nil kfree (fun u h=>by cases h);generalize hH3:newH 0 H2=H3 at *;have n3:H3.next=H2.next+3:=by rw[←hH3];rfl
  obtain⟨H4,w,e4,g4⟩:=c_carry s3 hg (by omega) t3 r3.rd (fun j hj hf=>by have:=r2.lt hj;have:=nF j hf;omega) (fun j hj hf=>by have:=n2 j hj;have:=nF j hf;omega) hns (by omega) cm1;obtain⟨ms,ms1,ms2,ms3⟩:=made_tree fun t ht=>cm3 t (p4 t ht);have v4:=g4.vec;rw[ms1]at v4;obtain⟨sl4,t4,ft4,nv4⟩:=g4.st;have f34:=g4.frm;have nw4:=g4.new;have hpl:(posts L ns []).length≤L.length:=Told.len ((⟨nodup_nil,fun x h=>by cases h⟩:Told L.length []).posts hg.dag hns);have hlen2:=zkf (lim:=0) (always:=true) (leaf:=fun _=>0) (nd:=zaG L) (posts L ns []) ([],[],fun _=>0);have hlen2:(ze5 0 true (fun _=>0) (zaG L) (posts L ns []) ([],[],fun _=>0)).1.length≤0+(posts L ns []).length:=hlen2;generalize ze5 0 true (fun _=>0) (zaG L) (posts L ns []) ([],[],fun _=>0)=R at *;obtain⟨L2,K2,tm⟩:=R;dsimp only at *;have hmsl:ms.length=ns.length:=by have:=congrArg List.length ms1;rw[length_map,length_map]at this;exact this.symm
  obtain⟨dt1,dt2,dt3⟩:=dumpR_tr hg hns cm2 ms2 ms3;have r4:=r3.keep f34 fun j hj hf=>by have:=r2.lt hj;have:=nF j hf;omega
  have s4:StF H4 st 0 L K sl f g:=s3.keep (fun j hj=>f34.same j (s3.foot_lt hj) fun hf=>by have:=n2 j hj;have:=nF j hf;omega) f34.next;have hL4:=hL3.keep f34 fun j hf=>by have:=nF j hf;have:=hL2.next;omega
  obtain⟨H5,e5,n5,o5⟩:=c_dump hL4.tabs hL4.next s4 hg.dag (zpr hg) (by omega) (hrI r4.rd) (by rw[length_map];omega);have f45:Frm (fun _=>False) H4 H5:=⟨n5,fun j hj _=>o5 j hj⟩
  have hL5:=hL4.keep f45 fun j q=>q.elim;have t5:=kf t4 f45;have v5:=v4.keep f45 fun _ _ q=>q;have hv:∀{H:Hp},Vec H 1 w ns.length (zb6 (ms.map fun (t:Nat)=>(t:Int)))→Rdb H 1 w (ms.map fun (t:Nat)=>(t:Int)).length (zb6 (ms.map fun (t:Nat)=>(t:Int))):=fun h=>by rw[length_map,hmsl];exact h.rd
  obtain⟨H6,e6,n6,o6⟩:=c_dump hL5.tabs hL5.next t5 cm2.dag (zpr cm2) (by omega) (hv v5) (by rw[length_map];omega);have f56:Frm (fun _=>False) H5 H6:=⟨n6,fun j hj _=>o6 j hj⟩
  have f46:=tr f45 f56;have s6:=kf s4 f46;have r6:=r4.keep f46 fun _ _ q=>q;obtain⟨H7,av,e7,m7⟩:=c_vars s6 hg.dag (by omega) (hrI r6.rd).o (by rw[length_map];omega);rw[varsI_of hns]at e7 m7;dsimp only at e7 m7;have hx3:=hx.keep (tr f1 (tr f2 f23)) fun _ _ q=>q;have hx7:=((hx3.keep f34 fun j hj hf=>by have:=hx.lt hj;have:=f1.next;have:=f2.next;have:=nF j hf;omega).keep f46 fun _ _ q=>q).keep m7.frm fun _ _ q=>q;obtain⟨H8,vv,e8,m8⟩:=c_drawn m7.vec.rd (by omega) hx7 (vars_w hg hns) hn;have hok:∀v∈zbT nums 0 (zfH L ns),v.Ok:=fun v hv=>(zjx hn _ _ v hv).1;have f68:=tr m7.frm m8.frm;have s8:=kf s6 f68;have r8:=r6.keep f68 fun _ _ q=>q;obtain⟨H9,wa,e9,m9⟩:=zin s8 hg (by omega) (hrI r8.rd).o (by rw[length_map];omega) m8.vec.rd (by rw[zjy];omega) hok;rw[zj3 hns,zqj hg hns hn]at e9 m9;have f89:Frm (fun _=>False) H8 H9:=⟨m9.next,fun j hj _=>m9.old j hj⟩
  have t9:=kf (kf (kf t5 f56) f68) f89;have v9:=((v5.keep f56 fun _ _ q=>q).keep f68 fun _ _ q=>q).keep f89 fun _ _ q=>q;have vv9:=m8.vec.keep f89 fun _ _ q=>q;obtain⟨H10,wb,e10,m10⟩:=zin t9 cm2 (by omega) (hv v9).o (by rw[length_map];omega) vv9.rd (by rw[zjy];omega) hok;rw[zj3 ms2,drawn_tr hg hns cm2 ms2 ms3 hn,←vals_tr hg hns cm2 ms2 ms3]at e10 m10;have f910:Frm (fun _=>False) H9 H10:=⟨m10.next,fun j hj _=>m10.old j hj⟩
  have m9v:=m9.vec;have m10v:=m10.vec;dsimp only at m9v m10v e9 e10;have wa10:=m9v.keep f910 fun _ _ q=>q;have csw:=zjD wa10.rd m10v.rd (by rw[length_map];omega);have ze:IntKind.i64.wrap ((0:Int)+0)=0:=by decide
  rw[dt2]at e5;rw[dt3,←dt1]at e6;rw[zae e2,s_t3a,s_t3b,s_t3c,zb9,zac,Bool.not_true,zaD,zae hnew,x01,zae e4,x01,zae (c_no _ _),zbt,bF (e0 _),zae (c_no _ _),zbt,bF (e0 _),zap,zaN,zae e5,x01,zae e6,x01,zae e7,x01,zae e8,zae e9,x01,zae e10,x01,zae (c_no _ _),zae (c_no _ _),zaM,ze,zae (c_no _ _),zaM,ze,zae (c_no _ _),zaM,ze,zae (c_no _ _),zaM,ze,eT rfl,q_seql,zac,beq_self_eq_true,zaP,zae csw]at hr;exact⟨H10,hr⟩
end Go.AM.N14
namespace Go.AM
open Go Go.ChangeShapes Go.WideShapes Go.ChangeAt Go.RowKit
end Go.AM
namespace Go.AM.N14
open List Go Go.AM Go.ChangeShapes Go.WideShapes Go.ChangeAt Go.RowKit
theorem flatU:flat PP 1 Ab=some [.int .u64]:=by kernel_rfl
theorem u64Dec(l:List Value)(h:OkL [.int .u64] l):∃o:Int,[Value.int .u64 o]=l∧(0≤o∧o<18446744073709551616):=by
 obtain⟨hl,hh⟩:=h;obtain⟨v,l,rfl,hl2⟩:=consL hl;obtain⟨_,e,n,rfl,p,q⟩:=hh 0 _ rfl;cases e;have:l=[]:=by cases l with|nil=>rfl|cons a t=>cases hl2
 subst this;have e1:IntKind.u64.min=0:=rfl;have e2:IntKind.u64.max=18446744073709551615:=rfl;exact⟨n,rfl,by omega,by omega⟩
theorem u64s_arg{HH:Type}{enc:TypeId×Value→HH}{W:World}{H:Hp}{β:Bt}(hR:Rel PP W H β)(hno:∀i o,H.get i=some o→o.own=false){b0:Nat}{v':Value}{dw:DataW HH}{ps:List MemPlace}
  (hval:Value.okWide PP W .any b0 A9 v') (hd:DataW.Trod enc PP W 0 (fun _=>true) true A9 v' dw ps) :
  ∃(v:Value) (H':Hp) (β':Bt) (os:List Int),Rel PP W H' β'∧(∀i o,H'.get i=some o→o.own=false)∧β.le β'∧VRel β' v v'∧Rdb H' 1 v os.length (u64I os)∧(∀o∈os,0≤o∧o<18446744073709551616)∧os.length≤Go.Proofs.YtcbmccpkhagckaaGreatDoor.Rows.uptoBulk dw∧Frm (fun _=>False) H H':=by
 obtain⟨v,H',β',g1,g2,g3,g4,g5⟩:=arg_flats (P:=PP) (t:=A9) (e:=Ab) (d:=1) (ks:=[.int .u64]) (by kernel_rfl) flatU (by kernel_rfl) (by decide) hR hno hval hd;rcases g5 with⟨rfl,rfl,rfl⟩|⟨L,es,sp,rfl,rfl,h1,rfl,h2⟩
 ·exact⟨_,_,β',[],g1,g2,g3,g4,.inl ⟨rfl,rfl,rfl⟩,fun o h=>(by cases h),by simp,Frm.refl _ _⟩
 ·obtain⟨os,h3,h4⟩:=decL (cells:=fun (t:Int)=>[Value.int .u64 t]) u64Dec L h1;have hfl:L.flatten=u64I os:=by
   rw[h3,←flatMap_def];clear h3 h1 g1 g2 g3 g4 h2 h4;induction os with
   |nil=>rfl
   |cons a t ih=>rw[flatMap_cons,ih];rfl
  have hll:L.length=os.length:=by rw[h3,length_map]
  refine⟨_,_,β',os,g1,g2,g3,g4,.inr ⟨H.next,L.length,[],false,?_,by omega,?_,?_,?_⟩,h4,?_,zcW _ _ _⟩
  ·rw[hll];rfl
  ·rw[get_new,if_pos rfl,hfl,append_nil]
  ·rw[u64I_len,Nat.mul_one]
  ·show H.next<H.next+1;omega
  ·have:=zpH es;simp only[Go.Proofs.YtcbmccpkhagckaaGreatDoor.Rows.uptoBulk];omega
end Go.AM.N14
namespace Go.AM
open Go Go.ChangeShapes Go.WideShapes Go.ChangeAt Go.RowKit Go.Proofs.YtcbmccpkhagckaaGreatDoor
abbrev zpn:List (String×DataW Unit):=[("math/bits.deBruijn32tab",Rows.laid_math_bits_deBruijn32tab),("math/bits.deBruijn64tab",Rows.laid_math_bits_deBruijn64tab),("internal/strconv.uint64pow10",Rows.laid_internal_strconv_uint64pow10),("unicode/utf8.acceptRanges",Rows.laid_unicode_utf8_acceptRanges),("errors.errorType",Rows.laid_errors_errorType),
 ("strconv.ErrRange",Rows.laid_strconv_ErrRange),("strconv.ErrSyntax",Rows.laid_strconv_ErrSyntax),("unicode.White_Space",Rows.laid_unicode_White_Space),("strings.asciiSpace",Rows.laid_strings_asciiSpace),("unicode/utf8.first",Rows.laid_unicode_utf8_first)]
theorem laid_noH{W:World}(h:laidMetH PP zpn W):laidMetH PP zji W:=by
 have e1:zpn.filter (fun x=>x.2.handleName?.isSome)=[("errors.errorType",Rows.laid_errors_errorType)]:=by kernel_rfl
 have e2:zpn.filter (fun x=>x.2.handleName?.isNone)=zji:=by kernel_rfl
 unfold laidMetH at h;rw[e1,e2]at h;exact h.1
noncomputable def zcE(os:Os):World:=
 { zmR os with heap:=(zmR os).heap.modify Co fun
   |.cells _ t frozen=>.cells #[.iface Cz (.agg #[typeHandle PP AG])] t frozen
   |o=>o }
set_option maxRecDepth 1000000
theorem lh1(os:Os)(args:Array Value):LaidIn PP ((zcE os).forCall (fun _ _=>0) ⟨#[],args,[]⟩).memory (zji.take 3) [Ck,AJ,AA]:=
 LaidIn.of_run _ 8 (by kernel_rfl) (by kernel_rfl) (by kernel_rfl) (by kernel_rfl)
theorem lh2(os:Os)(args:Array Value):LaidIn PP ((zcE os).forCall (fun _ _=>0) ⟨#[],args,[]⟩).memory ((zji.drop 3).take 4) [Cj,AC,AB,Ch,nS,nS+1,nS+2,nS+3]:=
 LaidIn.of_run _ 8 (by kernel_rfl) (by kernel_rfl) (by kernel_rfl) (by kernel_rfl)
theorem lh3(os:Os)(args:Array Value):LaidIn PP ((zcE os).forCall (fun _ _=>0) ⟨#[],args,[]⟩).memory ((zji.drop 7).take 1) [AI]:=
 LaidIn.of_run _ 8 (by kernel_rfl) (by kernel_rfl) (by kernel_rfl) (by kernel_rfl)
theorem lh4(os:Os)(args:Array Value):LaidIn PP ((zcE os).forCall (fun _ _=>0) ⟨#[],args,[]⟩).memory (zji.drop 8) [Ci]:=
 LaidIn.of_run _ 8 (by kernel_rfl) (by kernel_rfl) (by kernel_rfl) (by kernel_rfl)
theorem laid_allH(os:Os)(args:Array Value):laidMetH PP zpn ((zcE os).forCall (fun _ _=>0) ⟨#[],args,[]⟩).memory:=
 laidMetH_of_parts (((((lh1 os args).append (lh2 os args) (by kernel_rfl)).append (lh3 os args) (by kernel_rfl)).append (lh4 os args) (by kernel_rfl)).met) (by kernel_rfl)
end Go.AM
