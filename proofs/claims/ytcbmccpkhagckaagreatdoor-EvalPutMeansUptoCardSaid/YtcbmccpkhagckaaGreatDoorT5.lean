/- Part of the proof of EvalPutMeansUptoCardSaid: see the last file.  -/
import Derived.KernelRfl
import Derived.LaidHandle
import Derived.Test.YtcbmccpkhagckaaGreatDoorT1
import Derived.Test.YtcbmccpkhagckaaGreatDoorT2
import Derived.Test.YtcbmccpkhagckaaGreatDoorT3
import Derived.Test.YtcbmccpkhagckaaGreatDoorT4
set_option linter.unusedSimpArgs false
set_option linter.unusedVariables false
set_option linter.unusedSectionVars false
set_option maxRecDepth 100000
namespace Go.AM.N14
open List Go Go.AM
def encI(z:Int):Value:=.int .i64 z
structure TI(B H:Hp)(m:Nat)(F:ByteArray→Option Int):Prop where
 next:B.next≤H.next
 old:∀j,j<B.next→H.get j=B.get j
 l:B.next≤m
 n:m<H.next
 map:MapS H m encI F
theorem TI.up{B H:Hp}{m:Nat}{F:ByteArray→Option Int}(h:TI B H m F)(s:ByteArray)(z:Int) :
  ∃H',(∀(α:Type) (k:Hp→Option α),pUpd PP Ac (.map (some m)) (.string s) (.int .i64 z) H k=k H')∧TI B H' m (fun t=>if (t==s)=true then some z else F t)∧(∀j,j≠m→H'.get j=H.get j)∧H'.next=H.next:=by
 obtain⟨H',e1,e2,e3,e4⟩:=h.map.upd s z;have a:=h.l;exact⟨H',e1,⟨by rw[e4];exact h.next,fun j hj=>by rw[e3 j (by omega),h.old j hj],h.l,by rw[e4];exact h.n,e2⟩,e3,e4⟩
theorem mapI_look{H:Hp}{m:Nat}{F:ByteArray→Option Int}(h:MapS H m encI F)(s:ByteArray){α:Type}(k:Value→Option α):za7 PP Ac (.int .i64 0) (.map (some m)) (.string s) false H k=k (.int .i64 ((F s).getD 0)):=by rw[h.look];cases F s<;>rfl
theorem TI.look{B H:Hp}{m:Nat}{F:ByteArray→Option Int}(h:TI B H m F)(s:ByteArray){α:Type}(k:Value→Option α):za7 PP Ac (.int .i64 0) (.map (some m)) (.string s) false H k=k (.int .i64 ((F s).getD 0)):=by rw[h.map.look];cases F s<;>rfl
section
variable {B:Hp}{x:Value}{l:List ByteArray}(hx:Rdb B 1 x l.length (strs l))(hl:l.length≤2^40)
include hx hl
theorem zoi(hnd:l.Nodup)(hok:∀s∈l,zcu s=true){m:Nat}:∀(r:List ByteArray) (i:Nat) (H:Hp),l.drop i=r→i≤l.length→TI B H m (fun t=>if ((l.take i).any fun u=>t==u)=true then some 1 else none) →
  ∃H',zau (zbB RR x (.map (some m)) (.int .i64 (l.length:Int))) [.int .i64 (i:Int)] H=some (.exit 0,[.int .i64 (l.length:Int)],H')∧Frm (fun _=>False) B H'
 |[],i,H,hr,hi,h=>by
  have hil:i=l.length:=by have:=congrArg List.length hr;rw[length_drop,length_nil]at this;omega
  subst hil;refine⟨H,?_,h.next,fun j hj _=>h.old j hj⟩;have:zbB RR x (.map (some m)) (.int .i64 (l.length:Int)) [.int .i64 (l.length:Int)] H=some (.exit 0,[.int .i64 (l.length:Int)],H):=by unfold zbB;simp only[qg0];rw[lF (Int.lt_irrefl _)]
  rw[zah,this];rfl
 |s::r,i,H,hr,hi,h=>by
  have hlt:i<l.length:=by have:=congrArg List.length hr;rw[length_drop,length_cons]at this;omega
  have hs:l[i]?=some s:=by
   have:(l.drop i)[0]?=some s:=by rw[hr];rfl
   rwa [List.getElem?_drop,Nat.add_zero]at this
  have hr2:l.drop (i+1)=r:=by rw[←drop_drop,hr];rfl
  have ht:l.take (i+1)=l.take i++[s]:=by rw[take_add_one,hs];rfl
  have hnew:((l.take i).any fun u=>s==u)=false:=Bool.eq_false_iff.2 fun q=>by obtain⟨u,hu,e⟩:=any_eq_true.1 q;rw[←(zc9 s u).1 e]at hu;have q:=hu;have:=hnd;rw[←take_append_drop i l,hr]at this;exact(nodup_append.1 this).2.2 s q s (mem_cons_self ..) rfl
  have hxH:Rdb H 1 x l.length (strs l):=hx.keep' (fun j hj=>h.old j (hx.lt hj)) h.next;obtain⟨y,y1,y2⟩:=Rdb.at1 hxH (zkh hs);have q:(i:Int)<(l.length:Int):=by omega
  have w1:IntKind.i64.wrap ((i:Int)+1)=((i+1:Nat):Int):=zaz (by omega) (by omega);obtain⟨H1,u1,t1,_,_⟩:=h.up s 1;have lk1:∀{α:Type} (k:Value→Option α),za7 PP Ac (.int .i64 0) (.map (some m)) (.string s) false H k=k (.int .i64 0):=fun k=>by rw[h.look,hnew];rfl
  have lk2:∀{α:Type} (k:Value→Option α),za7 PP Ac (.int .i64 0) (.map (some m)) (.string s) false H1 k=k (.int .i64 1):=fun k=>by rw[t1.look,if_pos ((zc9 s s).2 rfl)];rfl
  have w0:IntKind.i64.wrap ((0:Int)+1)=1:=by decide
  have hF:(fun t=>if (t==s)=true then some (1:Int) else if ((l.take i).any fun u=>t==u)=true then some 1 else none)=fun t=>if ((l.take (i+1)).any fun u=>t==u)=true then some 1 else none:=by funext t;rw[ht,any_append,any_cons,any_nil,Bool.or_false];cases t==s<;>cases (l.take i).any fun u=>t==u<;>rfl
  rw[hF]at t1;obtain⟨H',g1,g2⟩:=zoi hnd hok r (i+1) H1 hr2 (by omega) t1;refine⟨H',?_,g2⟩;have:zbB RR x (.map (some m)) (.int .i64 (l.length:Int)) [.int .i64 (i:Int)] H=some (.next,[.int .i64 ((i+1:Nat):Int)],H1):=by unfold zbB;simp only[qg0];rw[lT q,y1,y2,lk1,zaU,w0,u1,lk2,zb8,bF (by decide),zag (Go.AM.c44 _ _),hok s (mem_of_getElem? hs),zbQ,zad,Bool.not_true,zaH,zaU,w1]
  rw[zah,this];exact g1
theorem c_names(hnm:nmOk [] l=true):∃H',RR Bc [x] B=some (.int .i64 0,H')∧Frm (fun _=>False) B H':=by
 have hr:=(zlz E0 rfl x B).trans (zl9 _ _ _);obtain⟨n1,n2,_⟩:=(zf7 _ _).1 hnm;have hh:∀(n:Int) (f:Option (Value×Hp)),zeo (.int .i64 n) f=f:=fun n f=>rfl;have hm:∀(H:Hp) (f:Value→Hp→Option (Value×Hp)),zbD H f=f (.map (some H.next)) (H.new (.map [])):=fun H f=>rfl
 have t0:TI B (B.new (.map [])) B.next (fun t=>if ((l.take 0).any fun u=>t==u)=true then some 1 else none):=⟨by show B.next≤B.next+1;omega,fun j hj=>by rw[get_new,if_neg (by omega)],Nat.le_refl _,by show B.next<B.next+1;omega,by
  exact MapS.new B encI⟩
 obtain⟨H',g1,g2⟩:=zoi hx hl n2 n1 l 0 _ rfl (Nat.zero_le _) t0;have g1:zau (zbB RR x (.map (some B.next)) (.int .i64 (l.length:Int))) [.int .i64 0] (B.new (.map []))=_:=g1;rw[hx.len,hh,hm,hx.len,g1,zan,za6,zaC]at hr;exact⟨H',hr,g2⟩
end
def byZ:List (ByteArray×Nat)→ByteArray→Option Int
 |[],_=>none
 |(n,t)::r,s=>match byZ r s with
  |some x=>some x
  |none=>if (s==n)=true then some (t:Int) else none
theorem byZ_app(n:ByteArray)(t:Nat)(s:ByteArray):∀l:List (ByteArray×Nat),byZ (l++[(n,t)]) s=if (s==n)=true then some (t:Int) else byZ l s
 |[]=>by show (match byZ [] s with|some x=>some x|none=>if (s==n)=true then some (t:Int) else none)=_;rfl
 |(a,b)::r=>by
  show (match byZ (r++[(n,t)]) s with|some x=>some x|none=>if (s==a)=true then some (b:Int) else none)=_;rw[byZ_app n t s r];by_cases e:(s==n)=true
  ·rw[if_pos e,if_pos e]
  rw[if_neg e,if_neg e];rfl
theorem zez{s:ByteArray}{z:Int}:∀{l:List (ByteArray×Nat)},byZ l s=some z→∃t:Nat,z=(t:Int)∧(s,t)∈l
 |[],h=>by cases h
 |(n,t)::r,h=>by
  unfold byZ at h;cases hq:byZ r s with
  |some x=>
   rw[hq]at h;cases h;obtain⟨u,u1,u2⟩:=zez hq;exact⟨u,u1,mem_cons_of_mem _ u2⟩
  |none=>
   rw[hq]at h;dsimp only at h;split at h
   ·rename_i e;cases h;exact⟨t,rfl,by rw[(zc9 s n).1 e];exact mem_cons_self ..⟩
   ·cases h
def byL(D:List (ByteArray×Nat))(n:Nd):Int:=(byZ D n.name).getD 0
theorem RemR.behind{H0 H1 H H':Hp}{p f g:Nat}{lim:Int}{sl:Value}{v:Value}{ns:List Nat}{s:RS}(h:RemR H1 H p f g lim sl v ns s)(f1:Frm (fun _=>False) H0 H1)(f2:Frm (fun _=>False) H H'):RemR H0 H' p f g lim sl v ns s:=by obtain⟨sl',s1,s2,s3⟩:=h.st;have n1:=f1.next;have n2:=f2.next;refine⟨⟨sl',s1.keep (fun j hj=>f2.same j (s1.foot_lt hj) fun q=>q) f2.next,fun j hj=>(s2 j hj).imp id fun q=>by omega,s3⟩,h.vec.keep f2 fun _ _ q=>q,fun j hj=>by have:=h.new j hj;omega,⟨by have:=h.frm.next;omega,fun j hj hf=>?_⟩,h.good⟩;have:=h.frm.next;rw[f2.same j (by omega) fun q=>q,h.frm.same j (by omega) hf,f1.same j hj fun q=>q]
section
variable {H0:Hp}{p f g:Nat}{lim:Int}{L:List Nd}{K:List (ByteArray×Int)}{sl:Value}(hst:StF H0 p lim L K sl f g)(hg:zbZ L K)(hL:L.length≤2^38){x z y:Value}{ns:List Nat}{D:List (ByteArray×Nat)}
 (hx:RdO H0 1 x ns.length (ints ns))(hxF:∀j,Id x j→¬Foot p f g sl j)(hns:∀t∈ns,1≤t∧t≤L.length)(hnl:ns.length≤2^40)(hz:Rdb H0 1 z (D.map Prod.fst).length (strs (D.map Prod.fst)))(hy:Rdb H0 1 y (D.map Prod.snd).length (ints (D.map Prod.snd)))(hDl:D.length≤2^40)
 (hnm:nmOk [] (D.map Prod.fst)=true)(hD:∀d∈D,1≤d.2∧d.2≤L.length)(hwd:∀t∈posts L ns [],(zao L t).op=4→∀u:Nat,byZ D (zao L t).name=some (u:Int)→(zao L u).w=(zao L t).w)
include hst hg hL hx hxF hns hnl hz hy hDl hnm hD hwd
theorem put_by{B:Hp}{m b:Nat}(hzB:Rdb B 1 z (D.map Prod.fst).length (strs (D.map Prod.fst)))(hyB:Rdb B 1 y (D.map Prod.snd).length (ints (D.map Prod.snd))):∀(r:List (ByteArray×Nat)) (i:Nat) (H:Hp),D.drop i=r→i≤D.length→TI B H m (byZ (D.take i))→H.get b=some (.cells [.map (some m)] true)→b≠m →
  ∃H',zau (zbT RR z y (.int .i64 (D.length:Int)) (.pointer (some ⟨b,0,none⟩))) [.int .i64 (i:Int)] H=some (.exit 0,[.int .i64 (D.length:Int)],H')∧TI B H' m (byZ D)∧H'.get b=some (.cells [.map (some m)] true)∧(∀j,j≠m→H'.get j=H.get j)∧H'.next=H.next
 |[],i,H,hr,hi,h,hb,hbm=>by
  have hil:i=D.length:=by have:=congrArg List.length hr;rw[length_drop,length_nil]at this;omega
  subst hil;rw[take_length]at h;refine⟨H,?_,h,hb,fun _ _=>rfl,rfl⟩;have:zbT RR z y (.int .i64 (D.length:Int)) (.pointer (some ⟨b,0,none⟩)) [.int .i64 (D.length:Int)] H=some (.exit 0,[.int .i64 (D.length:Int)],H):=by unfold zbT;simp only[qg0];rw[lF (Int.lt_irrefl _)]
  rw[zah,this];rfl
 |(n,t)::r,i,H,hr,hi,h,hb,hbm=>by
  have hlt:i<D.length:=by have:=congrArg List.length hr;rw[length_drop,length_cons]at this;omega
  have hd:D[i]?=some (n,t):=by
   have:(D.drop i)[0]?=some (n,t):=by rw[hr];rfl
   rwa [List.getElem?_drop,Nat.add_zero]at this
  have hr2:D.drop (i+1)=r:=by rw[←drop_drop,hr];rfl
  have ht:D.take (i+1)=D.take i++[(n,t)]:=by rw[take_add_one,hd];rfl
  have hzH:Rdb H 1 z (D.map Prod.fst).length (strs (D.map Prod.fst)):=hzB.keep' (fun j hj=>h.old j (hzB.lt hj)) h.next;have hyH:Rdb H 1 y (D.map Prod.snd).length (ints (D.map Prod.snd)):=hyB.keep' (fun j hj=>h.old j (hyB.lt hj)) h.next;obtain⟨a,a1,a2⟩:=Rdb.at1 hzH (i:=i) (zkh (by rw[List.getElem?_map,hd];rfl));obtain⟨c,c1,c2⟩:=Rdb.at1 hyH (i:=i) (z:=.int .i64 (t:Int)) (by unfold ints;rw[List.getElem?_map,List.getElem?_map,hd];rfl);have q:(i:Int)<(D.length:Int):=by omega
  have w1:IntKind.i64.wrap ((i:Int)+1)=((i+1:Nat):Int):=zaz (by omega) (by omega);obtain⟨H1,u1,t1,o1,n1⟩:=h.up n (t:Int);have hF:(fun s=>if (s==n)=true then some (t:Int) else byZ (D.take i) s)=byZ (D.take (i+1)):=by funext s;rw[ht,byZ_app]
  rw[hF]at t1;obtain⟨H',g1,g2,g3,g4,g5⟩:=put_by hzB hyB r (i+1) H1 hr2 (by omega) t1 (by rw[o1 b hbm];exact hb) hbm;refine⟨H',?_,g2,g3,fun j hj=>by rw[g4 j hj,o1 j hj],by rw[g5,n1]⟩;have hlb:∀{α:Type} (k:Value→Option α),zak 1 false H (.pointer (some ⟨b,0,none⟩)) k=k (.map (some m)):=fun k=>Go.AM.zbi hb 0 _ rfl k;have:zbT RR z y (.int .i64 (D.length:Int)) (.pointer (some ⟨b,0,none⟩)) [.int .i64 (i:Int)] H=some (.next,[.int .i64 ((i+1:Nat):Int)],H1):=by unfold zbT;simp only[qg0];rw[lT q,a1,a2,hlb,c1,c2,u1,zaU,w1]
  rw[zah,this];exact g1
theorem put_wd{B H:Hp}{m b:Nat}{v:Value}{out:List Nat}(hout:∀t∈out,t∈posts L ns [])(hbd:∀t∈out,1≤t∧t≤L.length)(hst1:StF H p lim L K sl f g)(hv:Rdb H 1 v out.length (ints out))(hol:out.length≤2^40)(h:TI B H m (byZ D))(hb:H.get b=some (.cells [.map (some m)] true)):∀(k i:Nat),i+k=out.length →
  zau (zbS RR (.pointer (some ⟨p,0,none⟩)) v (.int .i64 (out.length:Int)) (.pointer (some ⟨b,0,none⟩))) [.int .i64 (i:Int)] H=some (.exit 2,[.int .i64 (out.length:Int)],H)
 |0,i,hk=>by
  have:i=out.length:=by omega
  subst this;have:zbS RR (.pointer (some ⟨p,0,none⟩)) v (.int .i64 (out.length:Int)) (.pointer (some ⟨b,0,none⟩)) [.int .i64 (out.length:Int)] H=some (.exit 2,[.int .i64 (out.length:Int)],H):=by unfold zbS;simp only[qg0];rw[lF (Int.lt_irrefl _)]
  rw[zah,this];rfl
 |k+1,i,hk=>by
  have hlt:i<out.length:=by omega
  have hi:out[i]?=some out[i]:=List.getElem?_eq_getElem hlt;generalize out[i]=t at hi;have htm:=mem_of_getElem? hi;have ht:=hbd t htm;obtain⟨y0,y1,y2⟩:=Rdb.at1 hv (i:=i) (z:=.int .i64 (t:Int)) (by unfold ints;rw[List.getElem?_map,hi];rfl);have q:(i:Int)<(out.length:Int):=by omega
  have w1:IntKind.i64.wrap ((i:Int)+1)=((i+1:Nat):Int):=zaz (by omega) (by omega);have node:∀u:Nat,1≤u→u≤L.length→RR Ak [.pointer (some ⟨p,0,none⟩),.int .i64 (u:Int)] H=some (.tuple #[(zao L u).val,.int .i64 0],H):=fun u h1 h2=>by
   have hT:isT L (u:Int)=true:=zaV.2 ⟨by omega,by omega⟩;have e10:=Go.AM.c10 hst1.st (by omega) (u:Int);rw[hT,if_pos rfl]at e10;have:zdc L (u:Int)=zao L u:=by unfold zdc;rw[hT,if_pos rfl,show ((u:Int)-1).toNat=u-1 by omega,zcg ⟨h1,h2⟩];rfl
   rw[this]at e10;exact e10
  have hlb:∀{α:Type} (k:Value→Option α),zak 1 false H (.pointer (some ⟨b,0,none⟩)) k=k (.map (some m)):=fun k=>Go.AM.zbi hb 0 _ rfl k;have e0:∀x:Int,¬(x≠x):=fun x q=>q rfl;have:zbS RR (.pointer (some ⟨p,0,none⟩)) v (.int .i64 (out.length:Int)) (.pointer (some ⟨b,0,none⟩)) [.int .i64 (i:Int)] H=some (.next,[.int .i64 ((i+1:Nat):Int)],H):=by
   unfold zbS;simp only[qg0];rw[lT q,y1,y2,zag (node t ht.1 ht.2),x01,spl7,zir,zba,zad];by_cases h4:(zao L t).op=4
   ·rw[decide_eq_false (fun z=>z h4),zaH,hlb,zlZ,h.look,zaZ,zad];cases hz:byZ D (zao L t).name with
    |none=>
     rw[decide_eq_true (show (none:Option Int).getD 0=0 from rfl),za0,zaU,w1]
    |some zz=>
     obtain⟨u,rfl,u2⟩:=zez hz;obtain⟨b1,b2⟩:=hD _ u2;have b1:1≤u:=b1;have b2:u≤L.length:=b2;rw[show ((some (u:Int)).getD 0)=(u:Int) from rfl,decide_eq_false (by omega),zaH,hlb,zlZ,h.look,hz,show ((some (u:Int)).getD 0)=(u:Int) from rfl,zag (node u b1 b2),x01,spl7,zf9,zf9,hwd t (hout t htm) h4 u hz,zba,bF (e0 _),zaU,w1]
   ·rw[decide_eq_true h4,za0,zaU,w1]
  rw[zah,this];exact put_wd hout hbd hst1 hv hol h hb k (i+1) (by omega)
theorem c_put(hok:zlt lim false (byL D) (zao L) (posts L ns []) (L,K,fun _=>0)) :
  ∃H' v,RR Ay [.pointer (some ⟨p,0,none⟩),x,z,y] H0=some (.tuple #[v,.int .i64 0],H')∧RemR H0 H' p f g lim sl v ns (zcr lim false (byL D) (zao L) (posts L ns []) (L,K,fun _=>0)):=by
 have hr:=(zoY E0 rfl (.pointer (some ⟨p,0,none⟩)) x z y H0).trans (zpg _ _ _ _ _ _);have tr:∀{A B C:Hp},Frm (fun _=>False) A B→Frm (fun _=>False) B C→Frm (fun _=>False) A C:=fun a b=>a.trans b fun j q=>q.elim;have e0:∀x:Int,¬(x≠x):=fun x q=>q rfl;have kst:∀{H':Hp},Frm (fun _=>False) H0 H'→StF H' p lim L K sl f g:=fun k=>hst.keep (fun j hj=>k.same j (hst.foot_lt hj) fun q=>q) k.next;obtain⟨H1,v1,e1,o1⟩:=Go.AM.zk4 hst hg.dag (by omega) hx hnl hns;have f1:Frm (fun _=>False) H0 H1:=⟨o1.next,fun j hj _=>o1.old j hj⟩
 obtain⟨H2,v2,e2,o2⟩:=Go.AM.zk4 (kst f1) hg.dag (by omega) (hy.keep f1 fun _ _ q=>q).o (by rw[length_map];exact hDl) (fun t ht=>by obtain⟨d,hd,rfl⟩:=mem_map.1 ht;exact hD d hd);have f12:Frm (fun _=>False) H1 H2:=⟨o2.next,fun j hj _=>o2.old j hj⟩
 have f2:=tr f1 f12;obtain⟨H3,e3,f23⟩:=c_names (hz.keep f2 fun _ _ q=>q) (by rw[length_map];exact hDl) hnm;have f3:=tr f2 f23;have hh:∀(n:Int) (f:Option (Value×Hp)),zeo (.int .i64 n) f=f:=fun n f=>rfl;have hm:∀(H:Hp) (f:Value→Hp→Option (Value×Hp)),zbD H f=f (.map (some H.next)) (H.new (.map [])):=fun H f=>rfl;have hal:∀(H:Hp) (k:Value→Hp→Option (Value×Hp)),zcX [.map none] H k=k (.pointer (some ⟨H.next,0,none⟩)) (H.new (.cells [.map none] true)):=fun H k=>rfl;let H4:=H3.new (.map [])
 let H5:=H4.new (.cells [.map none] true)
 let H6:=H5.set (H3.next+1) (some (.cells [.map (some H3.next)] true))
 have hg5:H5.get (H3.next+1)=some (.cells [.map none] true):=by show (H4.new _).get _=_;rw[get_new];exact if_pos rfl
 have hs6:∀(k:Hp→Option (Value×Hp)),zas 1 H5 (.pointer (some ⟨H3.next+1,0,none⟩)) (.map (some H3.next)) k=k H6:=fun k=>zey hg5 rfl rfl (by decide) k;have ho6:∀j,j<H3.next→H6.get j=H3.get j:=fun j hj=>by show (H5.set _ _).get j=_;rw[get_set,if_neg (by omega)];show (H4.new _).get j=_;rw[get_new,if_neg (by show j≠H3.next+1;omega)];show (H3.new _).get j=_;rw[get_new,if_neg (by omega)]
 have hn6:H6.next=H3.next+2:=rfl;have f36:Frm (fun _=>False) H3 H6:=⟨by omega,fun j hj _=>ho6 j hj⟩
 have hb6:H6.get (H3.next+1)=some (.cells [.map (some H3.next)] true):=by show (H5.set _ _).get _=_;rw[get_set,if_pos rfl]
 have t6:TI H3 H6 H3.next (byZ (D.take 0)):=⟨by omega,ho6,Nat.le_refl _,by omega,(MapS.new H3 encI).keep (by
  show (H5.set _ _).get H3.next=_;rw[get_set,if_neg (by omega)];show (H4.new _).get H3.next=_
  rw[get_new,if_neg (by show H3.next≠H3.next+1;omega)])⟩
 obtain⟨H7,l1,t7,b7,o7,n7⟩:=put_by hst hg hL hx hxF hns hnl hz hy hDl hnm hD hwd (hz.keep f3 fun _ _ q=>q) (hy.keep f3 fun _ _ q=>q) D 0 H6 rfl (Nat.zero_le _) t6 hb6 (by omega);have l1:zau (zbT RR z y (.int .i64 (D.length:Int)) (.pointer (some ⟨H3.next+1,0,none⟩))) [.int .i64 0] H6=_:=l1;have f37:Frm (fun _=>False) H3 H7:=⟨t7.next,fun j hj _=>t7.old j hj⟩
 have f7:=tr f3 f37;obtain⟨p1,p2,p3,p4⟩:=zbC hg hns;have hpl:(posts L ns []).length≤L.length:=Told.len ((⟨nodup_nil,fun x h=>by cases h⟩:Told L.length []).posts hg.dag hns);have hv7:Rdb H7 1 v1 (posts L ns []).length (ints (posts L ns [])):=o1.vec.rd.keep (tr (tr f12 f23) f37) fun _ _ q=>q;have l2:=put_wd hst hg hL hx hxF hns hnl hz hy hDl hnm hD hwd (fun t h=>h) p2 (kst f7) hv7 (by omega) t7 b7 (posts L ns []).length 0 (Nat.zero_add _);have l2:zau (zbS RR (.pointer (some ⟨p,0,none⟩)) v1 (.int .i64 ((posts L ns []).length:Int)) (.pointer (some ⟨H3.next+1,0,none⟩))) [.int .i64 0] H7=_:=l2;have hbn:H3.next+1<H7.next:=by omega
 have hnode:∀B,Frm (fun _=>False) H7 B→∀H s,RM B (Foot p f g sl) p f g lim L H s→∀t∈posts L ns [],RR Ak [.pointer (some ⟨p,0,none⟩),.int .i64 (t:Int)] H=some (.tuple #[(zao L t).val,.int .i64 0],H):=fun B fB H s hRM t ht=>by
  obtain⟨sl',s1,_⟩:=hRM.st;obtain⟨M,hM⟩:=hRM.pre;have htb:=p2 t ht;have hlen:=hRM.len;have hlM:L.length≤s.1.length:=by rw[hM,length_append];omega
  have hT:isT s.1 (t:Int)=true:=zaV.2 ⟨by omega,by omega⟩;have e10:=Go.AM.c10 s1.st (by omega) (t:Int);rw[hT,if_pos rfl]at e10;have:zdc s.1 (t:Int)=zao L t:=by unfold zdc;rw[hT,if_pos rfl,show ((t:Int)-1).toNat=t-1 by omega,hM,List.getElem?_append_left (by omega),zcg htb];rfl
  rw[this]at e10;exact e10
 have hleaf:∀B,Frm (fun _=>False) H7 B→∀H,(∀j,j<B.next→¬Foot p f g sl j→H.get j=B.get j)→∀t∈posts L ns [],(zao L t).op=4→∀(α:Type) (k:Value→Hp→Option α),zc6 orc RR (.func (.func AF) #[] #[.pointer (some ⟨H3.next+1,0,none⟩)]) [(zao L t).val] H k=k (.tuple #[.int .i64 (byL D (zao L t)),.int .i64 0]) H:=fun B fB H hold t ht h4 α k=>by
  have hbF:¬Foot p f g sl (H3.next+1):=fun q=>by have:=(kst f3).foot_lt q;omega
  have hmF:¬Foot p f g sl H3.next:=fun q=>by have:=(kst f3).foot_lt q;omega
  have nB:=fB.next;have gb:H.get (H3.next+1)=some (.cells [.map (some H3.next)] true):=by rw[hold _ (by omega) hbF,fB.same _ hbn fun q=>q];exact b7
  have gm:MapS H H3.next encI (byZ D):=t7.map.keep (by rw[hold _ (by have:=t7.n;omega) hmF,fB.same _ t7.n fun q=>q]);have hcall:RR AF [(zao L t).val,.pointer (some ⟨H3.next+1,0,none⟩)] H=some (.tuple #[.int .i64 (byL D (zao L t)),.int .i64 0],H):=by have h2:=zlB E0 rfl (zao L t).val (.pointer (some ⟨H3.next+1,0,none⟩)) H;unfold zg8 at h2;have hlb:∀{α:Type} (k:Value→Option α),zak 1 false H (.pointer (some ⟨H3.next+1,0,none⟩)) k=k (.map (some H3.next)):=fun k=>Go.AM.zbi gb 0 _ rfl k;rw[hlb,cellsV,zlZ,mapI_look gm]at h2;exact h2
  have hpc:∀(k:Value→Hp→Option α),zc6 orc RR (.func (.func AF) #[] #[.pointer (some ⟨H3.next+1,0,none⟩)]) [(zao L t).val] H k=zae RR AF [(zao L t).val,.pointer (some ⟨H3.next+1,0,none⟩)] H k:=fun k=>rfl;rw[hpc,zag hcall]
 obtain⟨H8,v8,e8,r8⟩:=c_remade (kst f7) hg hL (kst f7) hg hL (hx.keep f7 fun _ _ q=>q) hxF hns hnl hnode hleaf hok;obtain⟨H9,e9,f9⟩:=c_number H8;rw[zlq Ao _ ⟨AC,by kernel_rfl⟩,zad,zaH,zag e1,x01,zba,bF (e0 0),zag e2,x01,zba,bF (e0 0),zag e3,zba,bF (e0 0),hz.len,hy.len,zba,zad,length_map,length_map,decide_eq_false (e0 _),zaH,hz.len,hh,hm,hal]at hr;have l1:zau (zbT RR z y (.int .i64 (D.length:Int)) (.pointer (some ⟨(H3.new (.map [])).next,0,none⟩))) [.int .i64 0] H6=_:=l1;have l2:zau (zbS RR (.pointer (some ⟨p,0,none⟩)) v1 (.int .i64 ((posts L ns []).length:Int)) (.pointer (some ⟨(H3.new (.map [])).next,0,none⟩))) [.int .i64 0] H7=_:=l2;have e8:RR AW [.pointer (some ⟨p,0,none⟩),.pointer (some ⟨p,0,none⟩),x,.bool false,.func (.func AF) #[] #[.pointer (some ⟨(H3.new (.map [])).next,0,none⟩)]] H7=_:=e8;have hs6:∀(k:Hp→Option (Value×Hp)),zas 1 H5 (.pointer (some ⟨(H3.new (.map [])).next,0,none⟩)) (.map (some H3.next)) k=k H6:=hs6;refine⟨H9,v8,hr.trans ?_,r8.behind f7 f9⟩;rw[hs6,hz.len,length_map,l1,zan,za6,zaC,hv7.len,l2,zan,za6,zaC,zag e8,x01,zag e9]
end
theorem zn3{L:List Nd}(hd:Dag L){t:Nat}{n:Nd}(hn:L[t-1]?=some n):(n.a≠0→∃u∈kids L t,n.a=(u:Int))∧(n.b≠0→∃u∈kids L t,n.b=(u:Int))∧(n.c≠0→∃u∈kids L t,n.c=(u:Int)):=by
 have hk:kids L t=([n.a,n.b,n.c].take (zai n.op).toNat).map Int.toNat:=by unfold kids;rw[hn];rfl
 have mem:∀(j:Nat) (x:Int),[n.a,n.b,n.c][j]?=some x→(j:Int)<zai n.op→1≤x→∃u∈kids L t,x=(u:Int):=fun j x hj hp hx=>by refine⟨x.toNat,?_,by omega⟩;rw[hk];refine mem_map_of_mem (mem_of_getElem? (i:=j) ?_);rw[List.getElem?_take,if_pos (by omega)];exact hj
 refine⟨fun h=>?_,fun h=>?_,fun h=>?_⟩
 ·rcases hd.a _ _ hn with⟨p,q,r⟩|⟨p,q⟩
  ·exact mem 0 _ rfl (by omega) q
  ·exact absurd q h
 ·rcases hd.b _ _ hn with⟨p,q,r⟩|⟨p,q⟩
  ·exact mem 1 _ rfl (by omega) q
  ·exact absurd q h
 ·rcases hd.c _ _ hn with⟨p,q,r⟩|⟨p,q⟩
  ·exact mem 2 _ rfl (by omega) q
  ·exact absurd q h
theorem zkt{L:List Nd}{K:List (ByteArray×Int)}{lim:Int}(hd:Dag L){P:List Nat}(hbd:∀t∈P,1≤t∧t≤L.length)(hcl:zcH L P){leaf:Nd→Int}(hlf:∀t∈P,(zao L t).op=4→leaf (zao L t)≠0→leaf (zao L t)=(t:Int)) :
  ∀(r:List Nat) (i:Nat) (tm:Int→Int),P.drop i=r→(∀u∈P.take i,tm (u:Int)=(u:Int))→∃tm',zcr lim false leaf (zao L) r (L,K,tm)=(L,K,tm')∧(∀u∈P,tm' (u:Int)=(u:Int))∧zlt lim false leaf (zao L) r (L,K,tm)
 |[],i,tm,hr,h=>by
  refine⟨tm,rfl,fun u hu=>h u ?_,trivial⟩;have:P.take i=P:=by have:=take_append_drop i P;rwa [hr,append_nil]at this
  rw[this];exact hu
 |t::r,i,tm,hr,h=>by
  have ht:P[i]?=some t:=by
   have:(P.drop i)[0]?=some t:=by rw[hr];rfl
   rwa [List.getElem?_drop,Nat.add_zero]at this
  have hr2:P.drop (i+1)=r:=by rw[←drop_drop,hr];rfl
  have htk:P.take (i+1)=P.take i++[t]:=by rw[take_add_one,ht];rfl
  have htm:=mem_of_getElem? ht;obtain⟨b1,b2⟩:=hbd t htm;have hn:L[t-1]?=some L[t-1]:=List.getElem?_eq_getElem (by omega);generalize L[t-1]=n at hn;have hnT:zao L t=n:=by unfold zao;rw[hn];rfl
  obtain⟨ka,kb,kc⟩:=zn3 hd hn;have hk:∀x:Int,(x≠0→∃u∈kids L t,x=(u:Int))→movP tm x=false:=fun x hx=>by
   unfold movP;by_cases h0:x=0
   ·rw[decide_eq_false (fun z=>z h0)];rfl
   ·obtain⟨u,hu,rfl⟩:=hx h0;rw[decide_eq_false (p:=tm (u:Int)≠(u:Int)) (fun z=>z (h u (hcl i t ht u hu))),Bool.and_false]
  have hm:movN tm n=false:=by unfold movN;rw[hk _ ka,hk _ kb,hk _ kc];rfl
  have hs:zbb lim false leaf (t:Int) (zao L t) (L,K,tm)=(0,L,K,updI tm (t:Int) (t:Int)):=by
   unfold zbb;by_cases h4:(zao L t).op=4∧leaf (zao L t)≠0
   ·rw[if_pos h4,hlf t htm h4.1 h4.2]
   ·rw[if_neg h4,hnT,hm,Bool.or_false,if_neg (by decide)]
  obtain⟨tm',e1,e2,e3⟩:=zkt hd hbd hcl hlf r (i+1) (updI tm (t:Int) (t:Int)) hr2 (fun u hu=>by
   unfold updI;by_cases q:(u:Int)=(t:Int)
   ·rw[if_pos q,q]
   ·rw[if_neg q];rw[htk,mem_append,mem_singleton]at hu;rcases hu with hu|rfl
    ·exact h u hu
    ·exact absurd rfl q)
  refine⟨tm',?_,e2,?_⟩
  ·show zcr lim false leaf (zao L) r (zbb lim false leaf (t:Int) (zao L t) (L,K,tm)).2=_;rw[hs];exact e1
  ·show (zbb lim false leaf (t:Int) (zao L t) (L,K,tm)).1=0∧zlt lim false leaf (zao L) r (zbb lim false leaf (t:Int) (zao L t) (L,K,tm)).2;rw[hs];exact⟨rfl,e3⟩
theorem byl_nil(n:Nd):byL [] n=0:=rfl
theorem put_none{H0:Hp}{p f g:Nat}{lim:Int}{L:List Nd}{K:List (ByteArray×Int)}{sl:Value}(hst:StF H0 p lim L K sl f g)(hg:zbZ L K)(hL:L.length≤2^38){x:Value}{ns:List Nat}(hx:Rdb H0 1 x ns.length (ints ns))(hxF:∀j,Id x j→¬Foot p f g sl j)(hns:∀t∈ns,1≤t∧t≤L.length)(hnl:ns.length≤2^40) :
  ∃H' v sl',RR Ay [.pointer (some ⟨p,0,none⟩),x,.slice none 0 0,.slice none 0 0] H0=some (.tuple #[v,.int .i64 0],H')∧StF H' p lim L K sl' f g∧(∀j,Foot p f g sl' j→Foot p f g sl j∨H0.next≤j)∧(∀j,Id v j→¬Foot p f g sl' j)∧Vec H' 1 v ns.length (ints ns)∧(∀j,Id v j→H0.next≤j)∧Frm (Foot p f g sl) H0 H':=by
 obtain⟨p1,p2,p3,p4⟩:=zbC hg hns;obtain⟨tm,e1,e2,e3⟩:=zkt (K:=K) (lim:=lim) hg.dag p2 p3 (leaf:=byL []) (fun t _ _ h=>absurd (byl_nil _) h) (posts L ns []) 0 (fun _=>0) rfl (fun u h=>by cases h);obtain⟨H',v,g1,g2⟩:=c_put hst hg hL (D:=[]) hx.o hxF hns hnl (Vec.nil H0 1).rd (Vec.nil H0 1).rd (Nat.zero_le _) rfl (fun d h=>by cases h) (fun t _ _ u h=>by cases h) e3;rw[e1]at g2;obtain⟨sl',s1,s2,s3⟩:=g2.st;have hv:=g2.vec;have:(ns.map fun (t:Nat)=>tm (t:Int))=ns.map fun (t:Nat)=>(t:Int):=map_congr_left fun t ht=>e2 t (p4 t ht);dsimp only at hv;rw[this,←zbw]at hv;exact⟨H',v,sl',g1,s1,s2,s3,hv,g2.new,g2.frm⟩
theorem zhM{L M:List Nd}{G:ByteArray→W64}(hd:Dag L)(hd2:Dag (L++M)){t:Nat}(h1:1≤t)(h2:t≤L.length):vfn (L++M) G t=vfn L G t:=by
 induction t using Nat.strongRecOn with
 |_ t ih=>
  have hn:L[t-1]?=some (L[t-1]'(by omega)):=List.getElem?_eq_getElem (by omega);generalize L[t-1]'(by omega)=n at hn;have hn2:(L++M)[t-1]?=some n:=by rw[List.getElem?_append_left (by omega)];exact hn
  have da:=hd.a _ _ hn;have db:=hd.b _ _ hn;have dc:=hd.c _ _ hn;have one:∀x:Int,0≤x→x≤(t-1:Nat)→vfn (L++M) G x.toNat=vfn L G x.toNat:=fun x x0 x1=>by
   by_cases hx:x=0
   ·subst hx;rfl
   ·exact ih x.toNat (by omega) (by omega) (by omega)
  have wone:∀x:Int,x≤(t-1:Nat)→wT (L++M) 0 x=wT L 0 x:=fun x x1=>by
   unfold wT;by_cases hx:1≤x
   ·rw[zaV.2 ⟨hx,by rw[length_append];omega⟩,zaV.2 ⟨hx,by omega⟩,if_pos rfl,if_pos rfl,List.getElem?_append_left (by omega)]
   ·have e1:isT (L++M) x=false:=Bool.eq_false_iff.2 fun q=>hx (zaV.1 q).1;have e2:isT L x=false:=Bool.eq_false_iff.2 fun q=>hx (zaV.1 q).1;rw[e1,e2];rfl
  have e1:=zfn hd2 (valF (L++M) G) 0#64 h1 hn2;have e2:=zfn hd (valF L G) 0#64 h1 hn;have o1:=one n.a (by omega) (by omega);have o2:=one n.b (by omega) (by omega);have o3:=one n.c (by omega) (by omega);unfold vfn at o1 o2 o3 ⊢;rw[e1,e2,o1,o2,o3];unfold valF;rw[wone n.a (by omega),wone n.b (by omega)]
structure zpx(L:List Nd)(f' f:ByteArray→W64)(s:RS)(t:Nat):Prop where
 ex:∃v:Nat,s.2.2 (t:Int)=(v:Int)∧1≤v∧v≤s.1.length∧(zao s.1 v).w=(zao L t).w∧vfn s.1 f v=vfn L f' t
theorem wT_eq{L:List Nd}{t:Nat}(h:1≤t∧t≤L.length)(d:Int):wT L d (t:Int)=(zao L t).w:=by unfold wT;rw[zaV.2 ⟨by omega,by omega⟩,if_pos rfl,show ((t:Int)-1).toNat=t-1 by omega,zcg h];rfl
theorem zf6{L:List Nd}{t:Nat}{n:Nd}(h:L[t-1]?=some n):zao L t=n:=by unfold zao;rw[h];rfl
theorem zio{L M:List Nd}{t:Nat}(h:1≤t∧t≤L.length):zao (L++M) t=zao L t:=zf6 (by rw[List.getElem?_append_left (by omega)];exact zcg h)
theorem right_map{L L':List Nd}{K K':List (ByteArray×Int)}{tm:Int→Int}{n:Nd}(hr:zgU L K n)
  (ha:n.a=0∨(isT L' (tm n.a)=true∧∀d,wT L' d (tm n.a)=wT L d n.a)) (hb:n.b=0∨(isT L' (tm n.b)=true∧∀d,wT L' d (tm n.b)=wT L d n.b)) (hc:n.c=0∨(isT L' (tm n.c)=true∧∀d,wT L' d (tm n.c)=wT L d n.c)) (hk:n.op=4→zbn K' n=false)
  (da:zai n.op≥1→n.a≠0) (db:zai n.op≥2→n.b≠0) (dc:zai n.op≥3→n.c≠0):zgU L' K' (mapN tm n):=by
 have w0:∀x:Int,(x=0∨(isT L' (tm x)=true∧∀d,wT L' d (tm x)=wT L d x))→∀d,wT L' d (mapP tm x)=wT L d x:=fun x hx d=>by
  unfold mapP;rcases hx with rfl|⟨h1,h2⟩
  ·rfl
  ·by_cases h0:x=0
   ·rw[if_pos h0,h0];rfl
   ·rw[if_neg h0,h2]
 have i0:∀x:Int,(x=0∨(isT L' (tm x)=true∧∀d,wT L' d (tm x)=wT L d x))→x≠0→isT L' (mapP tm x)=true:=fun x hx h0=>by unfold mapP;rw[if_neg h0];exact(hx.resolve_left h0).1
 have hbn:zbn K' (mapN tm n)=zbn K' n:=rfl;refine⟨hr.op,hr.w,?_,?_,?_,?_,fun q=>by have:=hk q.1;rw[hbn,this]at q;cases q.2⟩
 ·intro q;unfold zbP at q;simp only[Bool.or_eq_true,Bool.and_eq_true,decide_eq_true_eq,Bool.not_eq_true']at q;rcases q with (⟨q1,q2⟩|⟨q1,q2⟩)|⟨q1,q2⟩
  ·rw[show (mapN tm n).a=mapP tm n.a from rfl,i0 n.a ha (da q1)]at q2;cases q2
  ·rw[show (mapN tm n).b=mapP tm n.b from rfl,i0 n.b hb (db q1)]at q2;cases q2
  ·rw[show (mapN tm n).c=mapP tm n.c from rfl,i0 n.c hc (dc q1)]at q2;cases q2
 ·intro q;refine hr.sp ?_;unfold zd3 at q ⊢;simp only[Bool.or_eq_true,Bool.and_eq_true,decide_eq_true_eq]at q ⊢;have z:∀x:Int,mapP tm x≠0→x≠0:=fun x hx e=>hx (by unfold mapP;rw[if_pos e]);rcases q with (((⟨q1,q2⟩|⟨q1,q2⟩)|⟨q1,q2⟩)|q)|q
  ·exact .inl (.inl (.inl (.inl ⟨q1,z _ q2⟩)))
  ·exact .inl (.inl (.inl (.inr ⟨q1,z _ q2⟩)))
  ·exact .inl (.inl (.inr ⟨q1,z _ q2⟩))
  ·exact .inl (.inr q)
  ·exact .inr q
 ·show ¬zbz n.op (wT _ (-1) (mapP tm n.a)) (wT _ (-1) (mapP tm n.b)) (wT _ (-1) (mapP tm n.c))=false;rw[w0 _ ha,w0 _ hb,w0 _ hc];exact hr.so
 ·show ¬zbO (mapN tm n) (wT _ (-1) (mapP tm n.a)) (wT _ (-1) (mapP tm n.b))=false;rw[w0 _ ha,w0 _ hb];exact hr.wi
theorem mk_right{lim:Int}(hlim:lim≤0){L:List Nd}{K:List (ByteArray×Int)}{n:Nd}(hr:zgU L K n):(mkR lim L K n).2.1=0∧∃v:Nat,(mkR lim L K n).1=(v:Int)∧1≤v∧v≤(mkR lim L K n).2.2.1.length∧zao (mkR lim L K n).2.2.1 v=n∧(∃M,(mkR lim L K n).2.2.1=L++M)∧((mkR lim L K n).2.2.2=K∨n.op=4∧(mkR lim L K n).2.2.2=zbt n.name n.w K):=by
 have he:¬zcB L K n≠0:=fun q=>q (zeM.2 hr);unfold mkR;rw[if_neg he];cases hp:zbf n 0 L with
 |some q=>
  obtain⟨_,hq⟩:=zdI n L 0 q hp;rw[Nat.sub_zero]at hq;have:=(List.getElem?_eq_some_iff.1 hq).1;exact⟨rfl,q+1,rfl,by omega,by show q+1≤L.length;omega,zf6 hq,⟨[],(append_nil _).symm⟩,.inl rfl⟩
 |none=>
  dsimp only;rw[if_neg (by omega)];refine⟨rfl,L.length+1,rfl,by omega,by show _≤(L++[n]).length;simp,zf6 ?_,⟨[n],rfl⟩,?_⟩
  ·show (L++[n])[L.length+1-1]?=some n;rw[Nat.add_sub_cancel,List.getElem?_append_right (Nat.le_refl _),Nat.sub_self];rfl
  ·show (if n.op=4 then zbt n.name n.w K else K)=K∨n.op=4∧(if n.op=4 then zbt n.name n.w K else K)=zbt n.name n.w K;by_cases h4:n.op=4
   ·rw[if_pos h4];exact .inr ⟨h4,rfl⟩
   ·rw[if_neg h4];exact .inl rfl
section
variable {lim:Int}(hlim:lim≤0){always:Bool}{leaf:Nd→Int}{L L0:List Nd}{K K0:List (ByteArray×Int)}(hg:zbZ L K){f f':ByteArray→W64}{P:List Nat}(hbd:∀t∈P,1≤t∧t≤L.length)(hcl:zcH L P)
 {KI:List (ByteArray×Int)→Prop}(hKs:∀K',KI K'→∀t∈P,(zao L t).op=4→leaf (zao L t)=0→zbn K' (zao L t)=false∧KI (zbt (zao L t).name (zao L t).w K'))
 (hal:always=false→∃M,L0=L++M)(hd0:Dag L0)
 (hlf:∀t∈P,(zao L t).op=4→leaf (zao L t)≠0→∃v:Nat,leaf (zao L t)=(v:Int)∧1≤v∧v≤L0.length∧(zao L0 v).w=(zao L t).w∧vfn L0 f v=f' (zao L t).name)
 (hnm:∀t∈P,(zao L t).op=4→leaf (zao L t)=0→f (zao L t).name=f' (zao L t).name)
include hlim hg hbd hcl hKs hal hd0 hlf hnm
theorem rem_mean1{i t:Nat}(ht:P[i]?=some t){s:RS}(hs:zbZ s.1 s.2.1)(hp:∃M,s.1=L0++M)(hk:KI s.2.1)(hm:∀u∈P.take i,zpx L f' f s u) :
  (zbb lim always leaf (t:Int) (zao L t) s).1=0∧zbZ (zbb lim always leaf (t:Int) (zao L t) s).2.1 (zbb lim always leaf (t:Int) (zao L t) s).2.2.1∧(∃M,(zbb lim always leaf (t:Int) (zao L t) s).2.1=s.1++M)∧KI (zbb lim always leaf (t:Int) (zao L t) s).2.2.1 ∧
   (∀u:Int,u≠(t:Int)→(zbb lim always leaf (t:Int) (zao L t) s).2.2.2 u=s.2.2 u)∧zpx L f' f (zbb lim always leaf (t:Int) (zao L t) s).2 t:=by
 have htm:=mem_of_getElem? ht;have hb:=hbd t htm;have hn:=zcg hb;have hcl:=hcl i t ht;have hlf:=hlf t htm;have hnm:=hnm t htm;have hKs:=fun K' h=>hKs K' h t htm;have hrt:=hg.rt _ (mem_of_getElem? hn);have hnum:=hg.num _ (mem_of_getElem? hn);have hval:vfn L f' t=_:=zfn hg.dag (valF L f') 0#64 hb.1 hn;obtain⟨ka,kb,kc⟩:=zn3 hg.dag hn;have da:=hg.dag.a _ _ hn;have db:=hg.dag.b _ _ hn;have dc:=hg.dag.c _ _ hn;obtain⟨M0,hM0⟩:=hp;have upd:∀(x y:Int),updI s.2.2 x y x=y:=fun x y=>if_pos rfl;have upd2:∀(x y u:Int),u≠x→updI s.2.2 x y u=s.2.2 u:=fun x y u h=>if_neg h;have part:∀x:Int,(x≠0→∃u∈kids L t,x=(u:Int))→x=0∨(isT s.1 (s.2.2 x)=true∧(∀d,wT s.1 d (s.2.2 x)=wT L d x)∧vfn s.1 f (s.2.2 x).toNat=vfn L f' x.toNat):=fun x hx=>by
  by_cases h0:x=0
  ·exact .inl h0
  ·obtain⟨u,hu,rfl⟩:=hx h0;have hup:=hcl u hu;obtain⟨v,v1,v2,v3,v4,v5⟩:=(hm u hup).ex;have hub:=hbd u (mem_of_mem_take hup);refine .inr ⟨by rw[v1];exact zaV.2 ⟨by omega,by omega⟩,fun d=>by rw[v1,wT_eq ⟨v2,v3⟩,wT_eq hub,v4],by rw[v1];exact v5⟩
 have pa:=part _ ka;have pb:=part _ kb;have pc:=part _ kc;have mv:∀x:Int,(x=0∨(isT s.1 (s.2.2 x)=true∧(∀d,wT s.1 d (s.2.2 x)=wT L d x)∧vfn s.1 f (s.2.2 x).toNat=vfn L f' x.toNat))→vfn s.1 f (mapP s.2.2 x).toNat=vfn L f' x.toNat:=fun x hx=>by
  unfold mapP;rcases hx with rfl|⟨_,_,h⟩
  ·rfl
  ·by_cases h0:x=0
   ·rw[if_pos h0,h0];rfl
   ·rw[if_neg h0];exact h
 have mw:∀x:Int,(x=0∨(isT s.1 (s.2.2 x)=true∧(∀d,wT s.1 d (s.2.2 x)=wT L d x)∧vfn s.1 f (s.2.2 x).toNat=vfn L f' x.toNat))→wT s.1 0 (mapP s.2.2 x)=wT L 0 x:=fun x hx=>by
  unfold mapP;rcases hx with rfl|⟨_,h,_⟩
  ·rfl
  ·by_cases h0:x=0
   ·rw[if_pos h0,h0];rfl
   ·rw[if_neg h0];exact h 0
 have pl:∀x:Int,(x=0∨(isT s.1 (s.2.2 x)=true∧(∀d,wT s.1 d (s.2.2 x)=wT L d x)∧vfn s.1 f (s.2.2 x).toNat=vfn L f' x.toNat))→0≤mapP s.2.2 x∧mapP s.2.2 x≤s.1.length:=fun x hx=>by
  unfold mapP;rcases hx with rfl|⟨h,_⟩
  ·exact⟨Int.le_refl _,by rw[if_pos rfl];omega⟩
  ·by_cases h0:x=0
   ·rw[if_pos h0];omega
   ·rw[if_neg h0];have:=zaV.1 h;omega
 generalize hN:zao L t=n at *;unfold zbb;by_cases h4:n.op=4∧leaf n≠0
 ·rw[if_pos h4];obtain⟨v,v1,v2,v3,v4,v5⟩:=hlf h4.1 h4.2;refine⟨rfl,hs,⟨[],(append_nil _).symm⟩,hk,fun u hu=>upd2 _ _ u hu,⟨v,by show updI _ _ _ _=_;rw[upd,v1],v2,by show v≤s.1.length;rw[hM0,length_append];omega,?_,?_⟩⟩
  ·show (zao s.1 v).w=_;rw[hM0,zio ⟨v2,v3⟩,hN];exact v4
  ·show vfn s.1 f v=_;have hds:=hs.dag;rw[hM0]at hds ⊢;rw[zhM hd0 hds v2 v3,v5,hval];unfold valF;rw[if_pos h4.1]
 ·rw[if_neg h4];have hop4:n.op=4→leaf n=0:=fun h=>Decidable.not_not.1 fun q=>h4 ⟨h,q⟩;by_cases hmv:(always||movN s.2.2 n)=true
  ·rw[if_pos hmv];have hR:zgU s.1 s.2.1 (mapN s.2.2 n):=right_map hrt (pa.imp id fun h=>⟨h.1,h.2.1⟩) (pb.imp id fun h=>⟨h.1,h.2.1⟩) (pc.imp id fun h=>⟨h.1,h.2.1⟩) (fun h=>(hKs _ hk h (hop4 h)).1) (fun h=>by omega) (fun h=>by omega) (fun h=>by omega);obtain⟨e0,v,v1,v2,v3,v4,⟨M,v5⟩,v6⟩:=mk_right hlim hR;have hg2:zbZ (mkR lim s.1 s.2.1 (mapN s.2.2 n)).2.2.1 (mkR lim s.1 s.2.1 (mapN s.2.2 n)).2.2.2:=zkO (show zgv (mapN s.2.2 n) from hnum) hs;refine⟨e0,hg2,⟨M,v5⟩,?_,fun u hu=>upd2 _ _ u hu,⟨v,by show updI _ _ _ _=_;rw[upd,v1],v2,v3,?_,?_⟩⟩
   ·rcases v6 with v6|⟨h4',v6⟩
    ·show KI (mkR lim s.1 s.2.1 (mapN s.2.2 n)).2.2.2;rw[v6];exact hk
    ·show KI (mkR lim s.1 s.2.1 (mapN s.2.2 n)).2.2.2;rw[v6];exact(hKs _ hk h4' (hop4 h4')).2
   ·show (zao (mkR lim s.1 s.2.1 (mapN s.2.2 n)).2.2.1 v).w=_;rw[v4,hN];rfl
   ·show vfn (mkR lim s.1 s.2.1 (mapN s.2.2 n)).2.2.1 f v=_;have hnv:=zcg (L:=(mkR lim s.1 s.2.1 (mapN s.2.2 n)).2.2.1) ⟨v2,v3⟩;rw[v4]at hnv;have e1:vfn (mkR lim s.1 s.2.1 (mapN s.2.2 n)).2.2.1 f v=_:=zfn hg2.dag (valF (mkR lim s.1 s.2.1 (mapN s.2.2 n)).2.2.1 f) 0#64 v2 hnv;have hd2:=hg2.dag;rw[v5]at e1 hd2;have o:∀x:Int,0≤x→x≤s.1.length→fnA (valF (s.1++M) f) 0#64 (s.1++M) x.toNat=vfn s.1 f x.toNat:=fun x x0 x1=>by
     by_cases h0:x=0
     ·rw[h0];rfl
     ·exact zhM hs.dag hd2 (by omega) (by omega)
    have w:∀x:Int,0≤x→x≤s.1.length→wT (s.1++M) 0 x=wT s.1 0 x:=fun x x0 x1=>by
     by_cases h0:x=0
     ·rw[h0];rfl
     ·unfold wT;rw[zaV.2 ⟨by omega,by rw[length_append];omega⟩,zaV.2 ⟨by omega,by omega⟩,if_pos rfl,if_pos rfl,List.getElem?_append_left (by omega)]
    rw[v5,e1,hval];have la:=pl _ pa;have lb:=pl _ pb;have lc:=pl _ pc;have ma:(mapN s.2.2 n).a=mapP s.2.2 n.a:=rfl;have mb:(mapN s.2.2 n).b=mapP s.2.2 n.b:=rfl;have mc:(mapN s.2.2 n).c=mapP s.2.2 n.c:=rfl;rw[ma,mb,mc,o _ la.1 la.2,o _ lb.1 lb.2,o _ lc.1 lc.2,mv _ pa,mv _ pb,mv _ pc];unfold valF;rw[ma,mb,w _ la.1 la.2,w _ lb.1 lb.2,mw _ pa,mw _ pb];by_cases hop:n.op=4
    ·rw[if_pos (show (mapN s.2.2 n).op=4 from hop),if_pos hop];exact hnm hop (hop4 hop)
    ·rw[if_neg (show ¬(mapN s.2.2 n).op=4 from hop),if_neg hop];rfl
  ·rw[if_neg hmv];have hmv:(always||movN s.2.2 n)=false:=Bool.eq_false_iff.2 hmv;rw[Bool.or_eq_false_iff]at hmv;obtain⟨ha,hmv⟩:=hmv;obtain⟨M1,hM1⟩:=hal ha;have hsL:s.1=L++(M1++M0):=by rw[hM0,hM1,append_assoc]
   unfold movN at hmv;rw[Bool.or_eq_false_iff,Bool.or_eq_false_iff]at hmv;obtain⟨m1,m2,m3⟩:=hmv;have id1:∀x:Int,movP s.2.2 x=false→mapP s.2.2 x=x:=fun x hx=>by
    unfold movP at hx;unfold mapP;by_cases h0:x=0
    ·rw[if_pos h0,h0]
    ·rw[if_neg h0];rw[decide_eq_true h0,Bool.true_and]at hx;exact Decidable.not_not.1 (of_decide_eq_false hx)
   have hns:s.1[t-1]?=some n:=by rw[hsL,List.getElem?_append_left (by omega)];exact hn
   have hlen:t≤s.1.length:=by rw[hsL,length_append];omega
   refine⟨rfl,hs,⟨[],(append_nil _).symm⟩,hk,fun u hu=>upd2 _ _ u hu,⟨t,upd _ _,hb.1,hlen,?_,?_⟩⟩
   ·show (zao s.1 t).w=_;rw[zf6 hns,hN]
   ·show vfn s.1 f t=_;have e1:vfn s.1 f t=_:=zfn hs.dag (valF s.1 f) 0#64 hb.1 hns;have va:=mv _ pa;have vb:=mv _ pb;have vc:=mv _ pc;have wa:=mw _ pa;have wb:=mw _ pb;rw[id1 _ m1]at va wa;rw[id1 _ m2]at vb wb;rw[id1 _ m3]at vc;unfold vfn at va vb vc;rw[e1,hval,va,vb,vc];unfold valF;rw[wa,wb];by_cases hop:n.op=4
    ·rw[if_pos hop,if_pos hop];exact hnm hop (hop4 hop)
    ·rw[if_neg hop,if_neg hop]
theorem znV:∀(r:List Nat) (i:Nat) (s:RS),P.Nodup→P.drop i=r→zbZ s.1 s.2.1→(∃M,s.1=L0++M)→KI s.2.1→(∀u∈P.take i,zpx L f' f s u) →
  zlt lim always leaf (zao L) r s∧zbZ (zcr lim always leaf (zao L) r s).1 (zcr lim always leaf (zao L) r s).2.1∧(∃M,(zcr lim always leaf (zao L) r s).1=L0++M)∧∀u∈P,zpx L f' f (zcr lim always leaf (zao L) r s) u
 |[],i,s,hnd,hr,hs,hp,hk,hm=>by
  have:P.take i=P:=by have:=take_append_drop i P;rwa [hr,append_nil]at this
  rw[this]at hm;exact⟨trivial,hs,hp,hm⟩
 |t::r,i,s,hnd,hr,hs,hp,hk,hm=>by
  have ht:P[i]?=some t:=by
   have:(P.drop i)[0]?=some t:=by rw[hr];rfl
   rwa [List.getElem?_drop,Nat.add_zero]at this
  have hr2:P.drop (i+1)=r:=by rw[←drop_drop,hr];rfl
  have htk:P.take (i+1)=P.take i++[t]:=by rw[take_add_one,ht];rfl
  obtain⟨a1,a2,⟨M,a3⟩,a4,a5,a6⟩:=rem_mean1 hlim hg hbd hcl hKs hal hd0 hlf hnm ht hs hp hk hm;have hds:=a2.dag;obtain⟨M0,hM0⟩:=hp
  obtain⟨b1,b2,b3,b4⟩:=znV r (i+1) (zbb lim always leaf (t:Int) (zao L t) s).2 hnd hr2 a2 ⟨M0++M,by rw[a3,hM0,append_assoc]⟩ a4 (fun u hu=>by
   rw[htk,mem_append,mem_singleton]at hu;rcases hu with hu|rfl
   ·have hne:(u:Int)≠(t:Int):=fun e=>by
     have e:u=t:=by omega
     subst e;have:=hnd;rw[←take_append_drop i P,hr]at this;exact(nodup_append.1 this).2.2 u hu u (mem_cons_self ..) rfl
    obtain⟨v,v1,v2,v3,v4,v5⟩:=(hm u hu).ex;rw[a3]at hds;exact⟨v,by rw[a5 _ hne,v1],v2,by rw[a3,length_append];omega,by rw[a3,zio ⟨v2,v3⟩];exact v4,by rw[a3,zhM hs.dag hds v2 v3];exact v5⟩
   ·exact a6)
  exact⟨⟨a1,b1⟩,b2,b3,b4⟩
end
end Go.AM.N14
namespace Go.AM.N14
open Go Go.AM
section
end
section
end
theorem zl3{L:List Nd}{K:List (ByteArray×Int)}(hg:zbZ L K){n m:Nd}(hn:n∈L)(hm:m∈L)(h4:n.op=4)(h4':m.op=4)(he:n.name=m.name):n.w=m.w:=by obtain⟨j,hj⟩:=hg.kn n hn h4;obtain⟨k,hk⟩:=hg.kn m hm h4';rw[he,hk]at hj;exact(Prod.mk.inj (Option.some.inj hj)).2.symm
section
end
end Go.AM.N14
namespace Go.AM.N14
open List Go Go.AM
theorem zjs{lim:Int}{always:Bool}{leaf:Nd→Int}{nd:Nat→Nd}:∀(r:List Nat) (s:RS),(zcr lim always leaf nd r s).1.length≤s.1.length+r.length
 |[],s=>Nat.le_refl _
 |t::r,s=>by show (zcr lim always leaf nd r (zbb lim always leaf (t:Int) (nd t) s).2).1.length≤_;have h1:=zjs r (zbb lim always leaf (t:Int) (nd t) s).2 (lim:=lim) (always:=always) (leaf:=leaf) (nd:=nd);have h2:=zhZ (lim:=lim) (always:=always) (leaf:=leaf) (t:=(t:Int)) (n:=nd t) (s:=s);rw[length_cons];omega
section
end
theorem znb{s t:ByteArray}{w:Int}{K:List (ByteArray×Int)}{j:Nat}{v:Int}(h:zaX t 0 (zbt s w K)=some (j,v)):(∃j',zaX t 0 K=some (j',v))∨(t=s∧v=w):=by
 unfold zbt at h;split at h
 ·exact .inl ⟨j,h⟩
 ·exact zjI K 0 j v h
def znz(L:List Nd)(P:List Nat)(K':List (ByteArray×Int)):Prop:=∀t∈P,(zao L t).op=4→zbn K' (zao L t)=false
theorem znz.start{L:List Nd}{K:List (ByteArray×Int)}(hg:zbZ L K){P:List Nat}(hbd:∀t∈P,1≤t∧t≤L.length):znz L P K:=fun t ht h4=>(hg.rt _ (mem_of_getElem? (zcg (hbd t ht)))).free h4
theorem znz.set{L:List Nd}{K:List (ByteArray×Int)}(hg:zbZ L K){P:List Nat}(hbd:∀t∈P,1≤t∧t≤L.length){K':List (ByteArray×Int)}(h:znz L P K'){t:Nat}(ht:t∈P)(h4:(zao L t).op=4):znz L P (zbt (zao L t).name (zao L t).w K'):=fun u hu hu4=>by
 obtain⟨n1,n2⟩:=zhH (h u hu hu4);refine bad_of n1 fun j v hv=>?_;rcases znb hv with⟨j',hj⟩|⟨he,hw⟩
 ·exact n2 j' v hj
 ·rw[hw];exact zl3 hg (mem_of_getElem? (zcg (hbd t ht))) (mem_of_getElem? (zcg (hbd u hu))) h4 hu4 he.symm
noncomputable def putV(L:List Nd)(Tv:List VV)(D:List (ByteArray×Nat)):List VV:=Tv.map fun v=>match byZ D v.name with
 |some z=>{ v with num:=((vfn L (zbJ Tv) z.toNat).toNat:Int) }
 |none=>v
theorem fnd_map{h:VV→VV}(hn:∀v,(h v).name=v.name)(s:ByteArray):∀Tv:List VV,fndV s (Tv.map h)=(fndV s Tv).map h
 |[]=>rfl
 |v::r=>by
  rw[map_cons];show (if (s==(h v).name)=true then some (h v) else fndV s (r.map h))=Option.map h (if (s==v.name)=true then some v else fndV s r);rw[hn];by_cases e:(s==v.name)=true
  ·rw[if_pos e,if_pos e];rfl
  ·rw[if_neg e,if_neg e];exact fnd_map hn s r
theorem zkY{s:ByteArray}{v:VV}:∀{Tv:List VV},fndV s Tv=some v→v.name=s
 |[],h=>by cases h
 |u::r,h=>by
  have h:(if (s==u.name)=true then some u else fndV s r)=some v:=h;split at h
  ·rename_i e;cases h;exact((zc9 _ _).1 e).symm
  ·exact zkY h
theorem znY(L:List Nd)(Tv:List VV)(D:List (ByteArray×Nat))(s:ByteArray):zbJ (putV L Tv D) s=match fndV s Tv with
  |some v=>(match byZ D s with|some z=>vfn L (zbJ Tv) z.toNat|none=>BitVec.ofInt 64 v.num)
  |none=>0#64:=by
 unfold putV;unfold zbJ;rw[fnd_map (fun v=>by split<;>rfl)];cases hq:fndV s Tv with
 |none=>rfl
 |some v=>
  have hvn:=zkY hq;dsimp only[Option.map_some];rw[hvn];cases byZ D s with
  |none=>rfl
  |some z=>
   show BitVec.ofInt 64 (((vfn L _ z.toNat).toNat:Nat):Int)=_;rw[BitVec.ofInt_natCast,BitVec.ofNat_toNat,BitVec.setWidth_eq]
section
variable {L:List Nd}{K:List (ByteArray×Int)}(hg:zbZ L K){ns:List Nat}(hns:∀t∈ns,1≤t∧t≤L.length){D:List (ByteArray×Nat)}(hD:∀d∈D,1≤d.2∧d.2≤L.length∧∃v∈zbe L ns,v.name=d.1∧v.w=(zao L d.2).w){Tv:List VV}(hT:∀v∈zbe L ns,∃w,fndV v.name Tv=some w)
include hg hns hD hT
theorem put_mean{lim:Int}(hlim:lim≤0):zlt lim false (byL D) (zao L) (posts L ns []) (L,K,fun _=>0)∧(∀t∈posts L ns [],(zao L t).op=4→∀u:Nat,byZ D (zao L t).name=some (u:Int)→(zao L u).w=(zao L t).w) ∧
  zbZ (zcr lim false (byL D) (zao L) (posts L ns []) (L,K,fun _=>0)).1 (zcr lim false (byL D) (zao L) (posts L ns []) (L,K,fun _=>0)).2.1∧(∃M,(zcr lim false (byL D) (zao L) (posts L ns []) (L,K,fun _=>0)).1=L++M) ∧
  ∀t∈ns,zpx L (zbJ (putV L Tv D)) (zbJ Tv) (zcr lim false (byL D) (zao L) (posts L ns []) (L,K,fun _=>0)) t:=by
 obtain⟨p1,p2,p3,p4⟩:=zbC hg hns;have hvar:∀t∈posts L ns [],(zao L t).op=4→(⟨(zao L t).name,(zao L t).w,0⟩:VV)∈zbe L ns:=fun t ht h4=>(zeI hg hns).2 ⟨t,zao L t,ht,zcg (p2 t ht),h4,rfl⟩;have hwd:∀t∈posts L ns [],(zao L t).op=4→∀u:Nat,byZ D (zao L t).name=some (u:Int)→1≤u∧u≤L.length∧(zao L u).w=(zao L t).w:=fun t ht h4 u hu=>by
  obtain⟨u',e,hm⟩:=zez hu;have e:u'=u:=by omega
  subst e;obtain⟨b1,b2,v,hv,vn,vw⟩:=hD _ hm;obtain⟨t2,n2,c1,c2,c3,c4⟩:=(zeI hg hns).1 hv;refine⟨b1,b2,?_⟩;have vw:v.w=(zao L u').w:=vw;have vn:v.name=(zao L t).name:=vn;rw[←vw];rw[c4]at vn ⊢;exact zl3 hg (mem_of_getElem? c2) (mem_of_getElem? (zcg (p2 t ht))) c3 h4 vn
 have hz:∀n:Nd,byL D n≠0→∃u:Nat,byZ D n.name=some (u:Int)∧byL D n=(u:Int):=fun n h=>by
  unfold byL at h ⊢;cases hq:byZ D n.name with
  |none=>rw[hq]at h;exact absurd rfl h
  |some z=>
   obtain⟨u,rfl,_⟩:=zez hq;exact⟨u,rfl,rfl⟩
 obtain⟨a1,a2,a3,a4⟩:=znV hlim (always:=false) (leaf:=byL D) (L0:=L) (K:=K) (f:=zbJ Tv) (f':=zbJ (putV L Tv D)) (KI:=znz L (posts L ns [])) hg p2 p3 (fun K' h t ht h4 _=>⟨h t ht h4,h.set hg p2 ht h4⟩) (fun _=>⟨[],(append_nil _).symm⟩) hg.dag
  (fun t ht h4 h0=>by
   obtain⟨u,hu,e⟩:=hz _ h0;obtain⟨b1,b2,b3⟩:=hwd t ht h4 u hu;refine⟨u,e,b1,b2,b3,?_⟩;obtain⟨w,hw⟩:=hT _ (hvar t ht h4);rw[znY,show fndV (zao L t).name Tv=some w from hw,hu]
   rfl)
  (fun t ht h4 h0=>by
   obtain⟨w,hw⟩:=hT _ (hvar t ht h4);rw[znY,show fndV (zao L t).name Tv=some w from hw];have:byZ D (zao L t).name=none:=by
    cases hq:byZ D (zao L t).name with
    |none=>rfl
    |some z=>
     obtain⟨u,rfl,hm⟩:=zez hq;have:=(hD _ hm).1;unfold byL at h0;rw[hq]at h0;have h0:(u:Int)=0:=h0;have this:1≤u:=this;omega
   rw[this]
   exact zhN hw)
  (posts L ns []) 0 (L,K,fun _=>0) p1 rfl hg ⟨[],(append_nil _).symm⟩ (znz.start hg p2) (fun u h=>by cases h)
 exact⟨a1,fun t ht h4 u hu=>(hwd t ht h4 u hu).2.2,a2,a3,fun t ht=>a4 t (p4 t ht)⟩
end
section
variable {L:List Nd}{K:List (ByteArray×Int)}(hg:zbZ L K){ns:List Nat}(hns:∀t∈ns,1≤t∧t≤L.length)
include hg hns
theorem told_vals{L2:List Nd}{K2:List (ByteArray×Int)}(hg2:zbZ L2 K2)(hp2:∃M,L2=L++M){Tv:List VV}(hTv:∀v∈Tv,∃a∈zbe L ns,a.name=v.name∧a.w=v.w)(h0:zfa Tv=0){ms:List Nat}(hms:∀t∈ms,1≤t∧t≤L2.length):zfq L2 ms Tv=(0,ms.map (vfn L2 (zbJ Tv))):=by
 obtain⟨M2,hM2⟩:=hp2;obtain⟨_,p2,_⟩:=zbC hg2 hms;unfold zfq;rw[h0,if_neg (by decide),if_neg];intro q;obtain⟨u,hu,h⟩:=any_eq_true.1 q;have hb:=p2 u hu;have hq:=zcg hb;rw[ziZ hq,Bool.and_eq_true]at h;obtain⟨h4,h⟩:=h;have h4:(zao L2 u).op=4:=of_decide_eq_true h4;cases hf:fndV (zao L2 u).name Tv with
 |none=>rw[hf]at h;cases h
 |some w=>
  rw[hf]at h;have hne:w.w≠(zao L2 u).w:=of_decide_eq_true h;obtain⟨hwm,hwn⟩:=zgn hf;obtain⟨a,ha,an,aw⟩:=hTv w hwm;obtain⟨t2,n2,c1,c2,c3,c4⟩:=(zeI hg hns).1 ha;have hmem:n2∈L2:=by rw[hM2];exact mem_append_left _ (mem_of_getElem? c2)
  have hww:n2.w=(zao L2 u).w:=zl3 hg2 hmem (mem_of_getElem? hq) c3 h4 (by
   rw[←zkY hf,←an,c4])
  rw[c4]at aw;have aw:n2.w=w.w:=aw;exact hne (by rw[←hww,aw])
theorem put_told{nums:List Int}(hn:∀z∈nums,0≤z∧z<18446744073709551616){D:List (ByteArray×Nat)}(hD:∀d∈D,d.2∈posts L ns []∧∃v∈zbe L ns,v.name=d.1∧v.w=(zao L d.2).w):zfa (putV L (zaO nums 0 (zbe L ns)) D)=0∧(∀v∈putV L (zaO nums 0 (zbe L ns)) D,v.Ok):=by
 obtain⟨p1,p2,p3,p4⟩:=zbC hg hns;have h0:=zj2 hg hns hn;have hok:∀v∈zaO nums 0 (zbe L ns),v.Ok:=fun v hv=>(zek hn _ _ v hv).1;have hnames:(putV L (zaO nums 0 (zbe L ns)) D).map VV.name=(zaO nums 0 (zbe L ns)).map VV.name:=by unfold putV;rw[map_map];refine map_congr_left fun v _=>?_;show VV.name (match byZ D v.name with|some z=>_|none=>v)=v.name;split<;>rfl
 obtain⟨t1,t2⟩:=toldE_0 h0;have hle:∀u∈posts L ns [],(vfn L (zbJ (zaO nums 0 (zbe L ns))) u).toNat≤(msk (wd (zao L u).w)).toNat:=fun u hu=>by have:=vfn_le (G:=zbJ (zaO nums 0 (zbe L ns))) hg (S:=(· ∈ posts L ns [])) (closed_S p3) (fun t m ht1 ht2 htm h4=>tell_le hok h0 htm h4 (zpj hg hns hn ht2)) (p2 u hu).1 (p2 u hu).2 hu;rwa [wT_eq (p2 u hu)]at this
 have each:∀v∈zaO nums 0 (zbe L ns),wdOk (match byZ D v.name with|some z=>{ v with num:=((vfn L (zbJ (zaO nums 0 (zbe L ns))) z.toNat).toNat:Int) }|none=>v)=true:=fun v hv=>by
  have hw0:=all_eq_true.1 t2 v hv;cases hq:byZ D v.name with
  |none=>exact hw0
  |some z=>
   obtain⟨u,rfl,hm⟩:=zez hq;obtain⟨hup,a,ha,an,aw⟩:=hD _ hm;have hup:u∈posts L ns []:=hup;have aw:a.w=(zao L u).w:=aw;have an:a.name=v.name:=an;obtain⟨_,b,hb,bn,bw⟩:=zek hn _ _ v hv;have hvw:v.w=(zao L u).w:=by
    obtain⟨t2,n2,c1,c2,c3,c4⟩:=(zeI hg hns).1 ha;obtain⟨t3,n3,d1,d2,d3,d4⟩:=(zeI hg hns).1 hb
    have e:n3.w=n2.w:=zl3 hg (mem_of_getElem? d2) (mem_of_getElem? c2) d3 c3 (by
     rw[c4]at an;rw[d4]at bn
     exact bn.trans an.symm)
    rw[←bw,d4,←aw,c4];exact e
   unfold wdOk at hw0 ⊢;dsimp only;rw[Bool.and_eq_true,Bool.and_eq_true]at hw0 ⊢;refine⟨hw0.1,decide_eq_true ?_⟩;have h1:=hle u hup;rw[←hvw]at h1;have hw:=of_decide_eq_true hw0.1.1;have hw64:=of_decide_eq_true hw0.1.2;show zdh (if v.w<1 then 1 else v.w) ((vfn L (zbJ (zaO nums 0 (zbe L ns))) ((u:Int)).toNat).toNat:Int)=_;rw[show ((u:Int)).toNat=u from rfl];generalize vfn L (zbJ (zaO nums 0 (zbe L ns))) u=x at *;have hwd:(if v.w<1 then 1 else v.w)=((wd v.w:Nat):Int):=by unfold wd;split<;>omega
   have hb:1≤wd v.w∧wd v.w≤64:=⟨wd_pos _,wd_le hw64⟩
   rw[hwd,zke hb.1 hb.2];have:x&&&msk (wd v.w)=x:=by
    have hj:=(zbu hb.2).1 h1;apply BitVec.eq_of_getLsbD_eq;intro i hi;rw[BitVec.getLsbD_and,zgS];by_cases hiw:i<wd v.w
    ·rw[decide_eq_true hi,decide_eq_true hiw,Bool.and_true,Bool.and_true]
    ·rw[hj i (by omega),Bool.false_and]
   rw[this]
 refine⟨?_,fun v hv=>?_⟩
 ·unfold zfa;rw[hnames,t1,if_pos rfl,if_pos];unfold putV;rw[all_map];exact all_eq_true.2 fun v hv=>each v hv
 ·obtain⟨w,hw,rfl⟩:=mem_map.1 hv;cases byZ D w.name with
  |none=>exact hok w hw
  |some z=>
   refine⟨Int.natCast_nonneg _,?_⟩;have:=(vfn L (zbJ (zaO nums 0 (zbe L ns))) z.toNat).isLt;show ((_:Nat):Int)<_;omega
end
def setF(u:VV)(d:ByteArray×W64):VV:=if (d.1==u.name)=true then { u with num:=(d.2.toNat:Int) } else u
theorem setF_name(u:VV)(d:ByteArray×W64):(setF u d).name=u.name:=by unfold setF;split<;>rfl
theorem spl_numA{l:List VV}{i:Nat}{v:VV}{z:Int}(h:l[i]?=some v):spl (za5 l) (i*3+2) (zab (.int .u64 z))=za5 (l.take i++[{ v with num:=z }]++l.drop (i+1)):=by
 have hlt:=(List.getElem?_eq_some_iff.1 h).1;have e:l=l.take i++[v]++l.drop (i+1):=by
  have h1:l.take (i+1)=l.take i++[v]:=by rw[take_add_one,h];rfl
  rw[←h1,take_append_drop]
 have hl:(za5 (l.take i)).length=i*3:=by rw[zle,length_take];congr 1;omega
 have hc:za5 l=(za5 (l.take i)++[Value.string v.name,Value.int .i64 v.w])++(Value.int .u64 v.num::za5 (l.drop (i+1))):=by
  have:za5 l=za5 (l.take i)++(za5 [v]++za5 (l.drop (i+1))):=by rw[←zfR,←zfR,←append_assoc,←e]
  rw[this,append_assoc];rfl
 have hl2:(za5 (l.take i)++[Value.string v.name,Value.int .i64 v.w]).length=i*3+2:=by rw[length_append,hl];rfl
 rw[hc,append_assoc (l.take i),zfR];unfold spl;rw[List.take_left' hl2];have:((za5 (l.take i)++[Value.string v.name,Value.int .i64 v.w])++(Value.int .u64 v.num::za5 (l.drop (i+1)))).drop (i*3+2+(zab (Value.int .u64 z)).length)=za5 (l.drop (i+1)):=by have e1:(zab (Value.int .u64 z)).length=1:=rfl;rw[e1,←hl2,drop_append,drop_of_length_le (by omega),nil_append,show (za5 (l.take i)++[Value.string v.name,Value.int .i64 v.w]).length+1-(za5 (l.take i)++[Value.string v.name,Value.int .i64 v.w]).length=1 by omega];rfl
 rw[this,append_assoc,append_assoc];rfl
theorem zkE{B:Hp}{nv iv vv:Value}{E:List (ByteArray×W64)}(hn:Rdb B 1 nv E.length (strs (E.map Prod.fst)))(hi:Rdb B 1 iv E.length (wvs (E.map Prod.snd)))(hnv:∀j,Id nv j→¬Id vv j)(hiv:∀j,Id iv j→¬Id vv j)(hE:E.length≤2^40){i:Nat}(hi0:i≤2^40){A C:List VV}(hA:A.length=i){w1 w2 w3 w4:Value}{l102:List Value}(hl102:l102.getD 0 undef=nv) :
  ∀(r:List (ByteArray×W64)) (j:Nat) (H:Hp) (u:VV),E.drop j=r→j≤E.length→Frm (Id vv) B H→Vec H 3 vv (A++[u]++C).length (za5 (A++[u]++C)) →
   ∃H',zau (zat RR iv vv l102 [.int .i64 (i:Int)]) [.int .i64 (j:Int)] H=some (.exit 4,[.int .i64 (E.length:Int)],H')∧Frm (Id vv) B H'∧Vec H' 3 vv (A++[r.foldl setF u]++C).length (za5 (A++[r.foldl setF u]++C))
 |[],j,H,u,hr,hj,hf,h=>by
  have hil:j=E.length:=by have:=congrArg List.length hr;rw[length_drop,length_nil]at this;omega
  subst hil;refine⟨H,?_,hf,h⟩;have hnH:=hn.keep hf hnv;have:zat RR iv vv l102 [.int .i64 (i:Int)] [.int .i64 (E.length:Int)] H=some (.exit 4,[.int .i64 (E.length:Int)],H):=by unfold zat;rw[hl102];simp only[qg0];rw[hnH.len,lF (Int.lt_irrefl _)]
  rw[zah,this];rfl
 |d::r,j,H,u,hr,hj,hf,h=>by
  have hlt:j<E.length:=by have:=congrArg List.length hr;rw[length_drop,length_cons]at this;omega
  have hd:E[j]?=some d:=by
   have:(E.drop j)[0]?=some d:=by rw[hr];rfl
   rwa [List.getElem?_drop,Nat.add_zero]at this
  have hr2:E.drop (j+1)=r:=by rw[←drop_drop,hr];rfl
  have hnH:=hn.keep hf hnv;have hiH:=hi.keep hf hiv;have hat:(A++[u]++C)[i]?=some u:=by rw[append_assoc,List.getElem?_append_right (by omega),hA,Nat.sub_self];rfl
  obtain⟨y,y1,y2⟩:=Rdb.at1 hnH (i:=j) (z:=.string d.1) (zkh (by rw[List.getElem?_map,hd];rfl));obtain⟨x,x1,x2⟩:=Rdb.at1 hiH (i:=j) (wvs_get (by rw[List.getElem?_map,hd];rfl));obtain⟨z,z0,z1,_,z2⟩:=Rdb.vv h.rd hat;have w1:IntKind.i64.wrap ((j:Int)+1)=((j+1:Nat):Int):=zaz (by omega) (by omega);by_cases e:(d.1==u.name)=true
  ·have hsz:=h.size;have hlen3:(A++[u]++C).length=i+1+C.length:=by simp[hA];omega
   obtain⟨H1,a1,a2,a3,a4⟩:=h.set (m:=1) (o:=i*3+2) (x:=.int .u64 (d.2.toNat:Int)) z0 rfl (by omega) rfl;have hs:setF u d={ u with num:=(d.2.toNat:Int) }:=by unfold setF;rw[if_pos e]
   rw[spl_numA hat,←hs]at a2;have e1:(A++[u]++C).take i=A:=by rw[append_assoc,List.take_left' hA]
   have e2:(A++[u]++C).drop (i+1)=C:=List.drop_left' (by simp[hA]);rw[e1,e2]at a2;have hln:(A++[u]++C).length=(A++[setF u d]++C).length:=by simp
   rw[hln]at a2;obtain⟨H',g1,g2,g3⟩:=zkE hn hi hnv hiv hE hi0 hA (w1:=iv) (w2:=iv) (w3:=iv) (w4:=iv) hl102 r (j+1) H1 (setF u d) hr2 hlt (hf.trans a3 fun j q=>.inl q) a2;refine⟨H',?_,g2,g3⟩;have:zat RR iv vv l102 [.int .i64 (i:Int)] [.int .i64 (j:Int)] H=some (.next,[.int .i64 ((j+1:Nat):Int)],H1):=by unfold zat;rw[hl102];simp only[qg0];rw[hnH.len,lT (by omega),y1,y2,z1,zaK,z2 _ 0 (.string u.name) rfl,q_seql,zad,show (d.1.toList==u.name.toList)=true by rw[(zc9 _ _).1 e];simp,za0,x1,x2,z1,zaK,a1,zaU,w1]
   rw[zah,this];exact g1
  ·have hs:setF u d=u:=by unfold setF;rw[if_neg e]
   obtain⟨H',g1,g2,g3⟩:=zkE hn hi hnv hiv hE hi0 hA (w1:=iv) (w2:=iv) (w3:=iv) (w4:=iv) hl102 r (j+1) H u hr2 hlt hf h;refine⟨H',?_,g2,by show Vec H' 3 vv (A++[r.foldl setF (setF u d)]++C).length _;rw[foldl_cons,hs];exact g3⟩;have hne:(d.1.toList==u.name.toList)=false:=Bool.eq_false_iff.2 fun q=>e ((zc9 _ _).2 (q_seqlE _ _ q));have:zat RR iv vv l102 [.int .i64 (i:Int)] [.int .i64 (j:Int)] H=some (.next,[.int .i64 ((j+1:Nat):Int)],H):=by unfold zat;rw[hl102];simp only[qg0];rw[hnH.len,lT (by omega),y1,y2,z1,zaK,z2 _ 0 (.string u.name) rfl,q_seql,zad,hne,zaH,zaU,w1]
   rw[zah,this];exact g1
theorem zos(val:Nat→W64):∀(D:List (ByteArray×Nat)) (u:VV),(D.map fun d=>(d.1,val d.2)).foldl setF u=match byZ D u.name with
  |some z=>{ u with num:=((val z.toNat).toNat:Int) }
  |none=>u
 |[],u=>rfl
 |(n,t)::r,u=>by
  rw[map_cons,foldl_cons,zos val r,setF_name];show _=match (match byZ r u.name with|some x=>some x|none=>if (u.name==n)=true then some (t:Int) else none) with
   |some z=>{ u with num:=((val z.toNat).toNat:Int) }
   |none=>u
  cases byZ r u.name with
  |some z=>
   dsimp only;unfold setF;split<;>rfl
  |none=>
   dsimp only;unfold setF;by_cases e:u.name=n
   ·rw[if_pos ((zc9 _ _).2 e.symm),if_pos ((zc9 _ _).2 e)];rfl
   ·rw[if_neg (fun z=>e ((zc9 _ _).1 z).symm),if_neg (fun z=>e ((zc9 _ _).1 z))]
theorem zlF{B:Hp}{nv iv vv:Value}{E:List (ByteArray×W64)}(hn:Rdb B 1 nv E.length (strs (E.map Prod.fst)))(hi:Rdb B 1 iv E.length (wvs (E.map Prod.snd)))(hnv:∀j,Id nv j→¬Id vv j)(hiv:∀j,Id iv j→¬Id vv j)(hE:E.length≤2^40){l102:List Value}(hl102:l102.getD 0 undef=nv){Tv:List VV}(hT:Tv.length≤2^40) :
  ∀(r:List VV) (i:Nat) (H:Hp),Tv.drop i=r→i≤Tv.length→Frm (Id vv) B H→Vec H 3 vv Tv.length (za5 ((Tv.take i).map (fun u=>E.foldl setF u)++r)) →
   ∃H',zau (zaA RR iv vv l102) [.int .i64 (i:Int)] H=some (.exit 2,[.int .i64 (Tv.length:Int)],H')∧Frm (Id vv) B H'∧Vec H' 3 vv Tv.length (za5 (Tv.map fun u=>E.foldl setF u))
 |[],i,H,hr,hj,hf,h=>by
  have hil:i=Tv.length:=by have:=congrArg List.length hr;rw[length_drop,length_nil]at this;omega
  subst hil;rw[take_length,append_nil]at h;refine⟨H,?_,hf,h⟩;have:zaA RR iv vv l102 [.int .i64 (Tv.length:Int)] H=some (.exit 2,[.int .i64 (Tv.length:Int)],H):=by unfold zaA;simp only[qg0];rw[h.len,lF (Int.lt_irrefl _)]
  rw[zah,this];rfl
 |u::r,i,H,hr,hj,hf,h=>by
  have hlt:i<Tv.length:=by have:=congrArg List.length hr;rw[length_drop,length_cons]at this;omega
  have hv:Tv[i]?=some u:=by
   have:(Tv.drop i)[0]?=some u:=by rw[hr];rfl
   rwa [List.getElem?_drop,Nat.add_zero]at this
  have hr2:Tv.drop (i+1)=r:=by rw[←drop_drop,hr];rfl
  have ht:Tv.take (i+1)=Tv.take i++[u]:=by rw[take_add_one,hv];rfl
  have hA:((Tv.take i).map fun u=>E.foldl setF u).length=i:=by rw[length_map,length_take];omega
  have hlen:∀u,((Tv.take i).map (fun u=>E.foldl setF u)++[u]++r).length=Tv.length:=fun u=>by rw[append_assoc,length_append,hA,length_append,length_singleton,←hr2,length_drop];omega
  have h0:Vec H 3 vv ((Tv.take i).map (fun u=>E.foldl setF u)++[u]++r).length (za5 ((Tv.take i).map (fun u=>E.foldl setF u)++[u]++r)):=by rw[hlen,append_assoc];exact h
  obtain⟨H1,e1,f1,v1⟩:=zkE hn hi hnv hiv hE (i:=i) (by omega) hA (w1:=iv) (w2:=iv) (w3:=iv) (w4:=iv) hl102 E 0 H u rfl (Nat.zero_le _) hf h0;rw[hlen]at v1;have hmap:(Tv.take (i+1)).map (fun u=>E.foldl setF u)++r=(Tv.take i).map (fun u=>E.foldl setF u)++[E.foldl setF u]++r:=by rw[ht,map_append];rfl
  rw[←hmap]at v1;obtain⟨H',g1,g2,g3⟩:=zlF hn hi hnv hiv hE hl102 hT r (i+1) H1 hr2 hlt f1 v1;have e1:zau (zat RR iv vv l102 [.int .i64 (i:Int)]) [.int .i64 0] H=_:=e1;have w1:IntKind.i64.wrap ((i:Int)+1)=((i+1:Nat):Int):=zaz (by omega) (by omega);refine⟨H',?_,g2,g3⟩;have:zaA RR iv vv l102 [.int .i64 (i:Int)] H=some (.next,[.int .i64 ((i+1:Nat):Int)],H1):=by unfold zaA;simp only[qg0];rw[h.len,lT (by omega),e1,zan,za6,zaC,zaU,w1]
  rw[zah,this];exact g1
theorem var_q{H:Hp}{p f g:Nat}{lim:Int}{L:List Nd}{K:List (ByteArray×Int)}{sl:Value}(h:StF H p lim L K sl f g)(hR:zjf L){s:ByteArray}{w:Int}(he:zcB L K (varN s w)=0){q:Nat}(hq:zbf (varN s w) 0 L=some q) :
  RR Bo [.pointer (some ⟨p,0,none⟩),.string s,.int .i64 w] H=some (.tuple #[.int .i64 ((q+1:Nat):Int),.int .i64 0],H):=by
 refine(zhl E0 rfl _ _ _ _).trans ?_;unfold zeD;simp only[b016];rw[show (Nd.val ⟨4,w,0,0,0,0,s⟩)=(varN s w).val from rfl,zag (c22q h (varN s w) nz hR.w hR.l he hq),x01]
theorem own_rot{H0 H:Hp}{a b c d:Sl}(h:Own H0 H [a,b,c,d]):Own H0 H [c,d,a,b]:=by have pm:[a,b,c,d].Perm [c,d,a,b]:=perm_append_comm (l₁:=[a,b]) (l₂:=[c,d]);exact⟨h.next,h.old,fun e he=>h.vec e (pm.mem_iff.2 he),fun e he=>h.new e (pm.mem_iff.2 he),(List.Perm.pairwise_iff (fun q j x y=>q j y x) pm).1 h.apart⟩
theorem zkc{L:List Nd}{K:List (ByteArray×Int)}(hg:zbZ L K){n:Nd}{i:Nat}(hn:L[i]?=some n)(h4:n.op=4):n=varN n.name n.w:=by
 have hr:=hg.rt _ (mem_of_getElem? hn);have da:=hg.dag.a _ _ hn;have db:=hg.dag.b _ _ hn;have dc:=hg.dag.c _ _ hn;have hp:zai n.op=0:=by rw[h4];decide
 have hs:=hr.sp;unfold zd3 at hs;simp only[Bool.or_eq_true,Bool.and_eq_true,decide_eq_true_eq]at hs;have hnum:n.num=0:=Decidable.not_not.1 fun q=>hs (.inl (.inr ⟨⟨q,by omega⟩,by omega⟩));obtain⟨o,w,a,b,c,m,s⟩:=n;dsimp only at *;have ha:a=0:=by omega
 have hb:b=0:=by omega
 have hc:c=0:=by omega
 subst h4 hnum ha hb hc;rfl
structure PK(L:List Nd)(ns:List Nat)(V:List VV)(B:Hp)(i:Nat)(H:Hp)(a0 a1 a2 a3:Value)(D S:List (ByteArray×Nat)):Prop where
 own:Own B H [⟨1,a1,S.length,strs (S.map Prod.fst)⟩,⟨1,a3,S.length,ints (S.map Prod.snd)⟩,⟨1,a0,D.length,strs (D.map Prod.fst)⟩,⟨1,a2,D.length,ints (D.map Prod.snd)⟩]
 d:∀e∈D,e.2∈ns∧∃v∈V,v.name=e.1∧v.w=(zao L e.2).w
 dn:(D.map Prod.fst).Sublist ((V.take i).map VV.name)
 dl:D.length≤i
 sl:S.length=i
 sn:S.map Prod.fst=(V.take i).map VV.name
 s:∀e∈S,1≤e.2∧e.2≤L.length∧(zao L e.2).op=4∧(zao L e.2).name=e.1
section
variable {L:List Nd}{K:List (ByteArray×Int)}(hg:zbZ L K)(hLl:L.length≤2^38){ns:List Nat}(hns:∀t∈ns,1≤t∧t≤L.length)(hnl:ns.length≤2^40){B:Hp}{p f g:Nat}{lim:Int}{sl:Value}(hst:StF B p lim L K sl f g)
 {x8 x14 x2:Value}(h8:Rdb B 1 x8 ns.length (ints ns)){V:List VV}(hV:V=zbe L ns)(hVl:V.length≤2^40)(h14:Rdb B 3 x14 V.length (za5 V)){P:List Int}(h2:Rdb B 1 x2 P.length (zbR P))(hPl:P.length≤2^40)
include hg hLl hns hnl hst h8 hV hVl h14 h2 hPl
theorem pick_step{i:Nat}{v:VV}(hi:V[i]?=some v){H:Hp}{a0 a1 a2 a3:Value}{D S:List (ByteArray×Nat)}(h:PK L ns V B i H a0 a1 a2 a3 D S) :
  ∃H' u0 u1 u2 u3 D' S',zap RR x2 (.pointer (some ⟨p,0,none⟩)) x8 x14 [a0,a1,a2,a3,.int .i64 (i:Int)] H=some (.next,[u0,u1,u2,u3,.int .i64 ((i+1:Nat):Int)],H')∧PK L ns V B (i+1) H' u0 u1 u2 u3 D' S':=by
 have hlt:i<V.length:=(List.getElem?_eq_some_iff.1 hi).1;have hvm:=mem_of_getElem? hi;obtain⟨u,n,hu,hn,h4,hv⟩:=(zeI hg hns).1 (hV▸hvm);have hvn:=zkc hg hn h4;have hname:v.name=n.name:=by rw[hv]
 have hwid:v.w=n.w:=by rw[hv]
 obtain⟨q,hq⟩:∃q,zbf n 0 L=some q:=by
  cases e:zbf n 0 L with
  |some q=>exact⟨q,rfl⟩
  |none=>exact absurd hn (zcV n L 0 e _)
 obtain⟨_,hqn⟩:=zdI n L 0 q hq;rw[Nat.sub_zero]at hqn;have hql:=(List.getElem?_eq_some_iff.1 hqn).1;have hR:zjf L:=⟨fun m hm=>zgl hg m hm,by omega⟩
 have f0:=h.own.toFrm;have hstH:StF H p lim L K sl f g:=hst.keep (fun j hj=>f0.same j (hst.foot_lt hj) fun q=>q) f0.next;have e1:RR Bo [.pointer (some ⟨p,0,none⟩),.string v.name,.int .i64 v.w] H=some (.tuple #[.int .i64 ((q+1:Nat):Int),.int .i64 0],H):=by rw[hname,hwid];exact var_q hstH hR (by rw[←hvn];exact zeM.2 (hg.rt _ (mem_of_getElem? hn))) (by rw[←hvn];exact hq)
 obtain⟨y,_,y1,_,y2⟩:=Rdb.vv (h14.keep f0 fun _ _ q=>q) hi;have ld0:∀{α:Type} (k:Value→Option α),zak 1 false H (.pointer (some ⟨y,i*3+0,none⟩)) k=k (.string v.name):=fun k=>y2 _ 0 _ rfl k;have ld1:∀{α:Type} (k:Value→Option α),zak 1 false H (.pointer (some ⟨y,i*3+1,none⟩)) k=k (.int .i64 v.w):=fun k=>y2 _ 1 _ rfl k;have w1:IntKind.i64.wrap ((i:Int)+1)=((i+1:Nat):Int):=zaz (by omega) (by omega);have e0:∀x:Int,¬(x≠x):=fun x q=>q rfl;have hSl:=h.sl;have hDl:=h.dl;obtain⟨a1',H1,p1,o1⟩:=h.own.push (bytes:=16) (zs:=[.string ⟨#[]⟩]) (x:=.string v.name) (by decide) (by decide) rfl rfl rfl (by omega);obtain⟨a3',H2,p2,o2⟩:=o1.swap.push (bytes:=8) (zs:=[.int .i64 0]) (x:=.int .i64 ((q+1:Nat):Int)) (by decide) (by decide) rfl rfl rfl (by omega);have o2:=o2.swap;have c1:strs (S.map Prod.fst)++zab (.string v.name)=strs ((S++[(v.name,q+1)]).map Prod.fst):=by rw[map_append,znH];rfl
 have c2:ints (S.map Prod.snd)++zab (.int .i64 ((q+1:Nat):Int))=ints ((S++[(v.name,q+1)]).map Prod.snd):=by simp[ints];rfl
 have c3:S.length+1=(S++[(v.name,q+1)]).length:=by simp
 rw[c1,c2,c3]at o2;have ht:V.take (i+1)=V.take i++[v]:=by rw[take_add_one,hi];rfl
 have hsn:(S++[(v.name,q+1)]).map Prod.fst=(V.take (i+1)).map VV.name:=by rw[ht,map_append,map_append,h.sn];rfl
 have hs:∀e∈S++[(v.name,q+1)],1≤e.2∧e.2≤L.length∧(zao L e.2).op=4∧(zao L e.2).name=e.1:=fun e he=>by
  rcases mem_append.1 he with he|he
  ·exact h.s e he
  ·rw[mem_singleton]at he;subst he;have:zao L (q+1)=n:=zf6 hqn;exact⟨by omega,by show q+1≤_;omega,by rw[this];exact h4,by rw[this,hname]⟩
 have keepD:PK L ns V B (i+1) H2 a0 a1' a2 a3' D (S++[(v.name,q+1)]):=⟨o2,h.d,h.dn.trans (by rw[ht,map_append];exact sublist_append_left ..),by omega,by rw[←c3];omega,hsn,hs⟩
 have f2:=o2.toFrm;have h8':=h8.keep f2 fun _ _ q=>q;have h2':=h2.keep f2 fun _ _ q=>q;obtain⟨y',_,y1',_,y2'⟩:=Rdb.vv (h14.keep f2 fun _ _ q=>q) hi;have ld0':∀{α:Type} (k:Value→Option α),zak 1 false H2 (.pointer (some ⟨y',i*3+0,none⟩)) k=k (.string v.name):=fun k=>y2' _ 0 _ rfl k;have ld1':∀{α:Type} (k:Value→Option α),zak 1 false H2 (.pointer (some ⟨y',i*3+1,none⟩)) k=k (.int .i64 v.w):=fun k=>y2' _ 1 _ rfl k;have hst2:StF H2 p lim L K sl f g:=hst.keep (fun j hj=>f2.same j (hst.foot_lt hj) fun q=>q) f2.next
 have head:∀X,(zap RR x2 (.pointer (some ⟨p,0,none⟩)) x8 x14 [a0,a1,a2,a3,.int .i64 (i:Int)] H=X)↔(zaw (
   zaa (.bool (decide ((P.length:Int)=0))) fun b52=>br b52
   (some (Ctl.exit 1,[],H2))
   (zaa (.bool (decide ((ns.length:Int)=0))) fun b55=>br b55
   (some (.exit 1,[],H2))
   (some (.next,[],H2)))) fun q56 l57 H58=>zaG q56
   (pLen .sl x2 H58 fun v60=>
   pBin PP .rem Aa (.int .i64 (i:Int)) v60 fun v61=>
   pIdx 1 x2 v61 fun p62=>
   zak 1 false H58 p62 fun v63=>
   pBin PP .lss Aa v63 (.int .i64 0) fun v64=>
   zaa v64 fun b65=>br b65
   (pBin PP .add Aa (.int .i64 (i:Int)) (.int .i64 1) fun v66=>
   some (.next,[a0,a1',a2,a3',v66],H58))
   (pLen .sl x8 H58 fun v67=>
   pBin PP .rem Aa v63 v67 fun v68=>
   pIdx 1 x8 v68 fun p69=>
   zak 1 false H58 p69 fun v70=>
   zae RR Ak [(.pointer (some ⟨p,0,none⟩)),v70] H58 fun r71 H72=>
   zac r71 0 fun v73=>
   zac r71 1 fun v74=>
   zaN 7 [.int .i64 0,.int .i64 0,.int .i64 0,.int .i64 0,.int .i64 0,.int .u64 0,.string ⟨#[]⟩] 0 v73 fun c75=>
   zae RR Aj [v74] H72 fun r76 H77=>
   pBin PP .eql Aa r76 (.int .i64 0) fun v78=>
   zaa v78 fun b79=>br b79
   (zaj 1 false c75 1 fun v80=>
   pIdx 3 x14 (.int .i64 (i:Int)) fun p81=>
   zav 1 p81 fun p82=>
   zak 1 false H77 p82 fun v83=>
   pBin PP .eql Aa v80 v83 fun v84=>
   zaa v84 fun b85=>br b85
   (pIdx 3 x14 (.int .i64 (i:Int)) fun p86=>
   zav 0 p86 fun p87=>
   zak 1 false H77 p87 fun v88=>
   zal 1 [.string ⟨#[]⟩] 1 [(0,v88)] H77 fun v89 H90=>
   zaF 1 16 a0 v89 H90 fun v91 H92=>
   zal 1 [.int .i64 0] 1 [(0,v70)] H92 fun v93 H94=>
   zaF 1 8 a2 v93 H94 fun v95 H96=>
   pBin PP .add Aa (.int .i64 (i:Int)) (.int .i64 1) fun v97=>
   some (.next,[v91,a1',v95,a3',v97],H96))
   (pBin PP .add Aa (.int .i64 (i:Int)) (.int .i64 1) fun v98=>
   some (.next,[a0,a1',a2,a3',v98],H77)))
   (pBin PP .add Aa (.int .i64 (i:Int)) (.int .i64 1) fun v99=>
   some (.next,[a0,a1',a2,a3',v99],H77))))
   (fun i59=>zax i59 1 (
   pBin PP .add Aa (.int .i64 (i:Int)) (.int .i64 1) fun v100=>
   some (.next,[a0,a1',a2,a3',v100],H58)) (
   some (.exit i59,[a0,a1',a2,a3',(.int .i64 (i:Int))],H58)))
   (some (.ret,[(l57.headD undef)],H58)))=X:=fun X=>by
  unfold zap;simp only[qg0,qg1];rw[(h14.keep f0 fun _ _ q=>q).len,lT (by omega),y1,zaK,ld0,y1,zaK,ld1,zag e1,x01,zag (c_no _ _),zba,bF (e0 _),y1,zaK,ld0,p1,p2,h2'.len,zaZ,h8'.len,zaZ]
 have skip:∀(X:Option Outc),X=some (.next,[a0,a1',a2,a3',.int .i64 ((i+1:Nat):Int)],H2)→zap RR x2 (.pointer (some ⟨p,0,none⟩)) x8 x14 [a0,a1,a2,a3,.int .i64 (i:Int)] H=X→∃H' u0 u1 u2 u3 D' S',zap RR x2 (.pointer (some ⟨p,0,none⟩)) x8 x14 [a0,a1,a2,a3,.int .i64 (i:Int)] H=some (.next,[u0,u1,u2,u3,.int .i64 ((i+1:Nat):Int)],H')∧PK L ns V B (i+1) H' u0 u1 u2 u3 D' S':=
  fun X e hX=>⟨H2,a0,a1',a2,a3',D,S++[(v.name,q+1)],by rw[hX,e],keepD⟩
 by_cases hp0:P.length=0
 ·refine skip _ ?_ ((head _).2 rfl);rw[bT (by omega),zan,za6,zaC,zaU,w1]
 by_cases hn0:ns.length=0
 ·refine skip _ ?_ ((head _).2 rfl);rw[bF (by omega),bT (by omega),zan,za6,zaC,zaU,w1]
 have r1:(i:Int).tmod (P.length:Int)=((i%P.length:Nat):Int):=by rw[Int.tmod_eq_emod_of_nonneg (by omega)];rfl
 have hil:i%P.length<P.length:=Nat.mod_lt _ (by omega);have hPi:P[i%P.length]?=some P[i%P.length]:=List.getElem?_eq_getElem hil;generalize P[i%P.length]=k at hPi;obtain⟨z,z1,z2⟩:=Rdb.at1 h2' (zgk hPi);have rem1:∀{α:Type} (kk:Value→Option α),pBin PP .rem Aa (.int .i64 (i:Int)) (.int .i64 (P.length:Int)) kk=kk (.int .i64 ((i%P.length:Nat):Int)):=fun kk=>by rw[zoU _ _ _ _ (by omega),r1]
 by_cases hk:k<0
 ·refine skip _ ?_ ((head _).2 rfl);rw[bF (by omega),bF (by omega),zan,za3,h2'.len,rem1,z1,z2,lT hk,zaU,w1]
 have r2:k.tmod (ns.length:Int)=((k.toNat%ns.length:Nat):Int):=by rw[Int.tmod_eq_emod_of_nonneg (by omega)];obtain⟨m,rfl⟩:=Int.eq_ofNat_of_zero_le (Int.not_lt.1 hk);rfl
 have hkl:k.toNat%ns.length<ns.length:=Nat.mod_lt _ (by omega);have hNi:ns[k.toNat%ns.length]?=some ns[k.toNat%ns.length]:=List.getElem?_eq_getElem hkl;generalize ns[k.toNat%ns.length]=t at hNi;have htm:=mem_of_getElem? hNi;have htb:=hns t htm;obtain⟨x,x1,x2'⟩:=Rdb.at1 h8' (i:=k.toNat%ns.length) (z:=.int .i64 (t:Int)) (by unfold ints;rw[List.getElem?_map,hNi];rfl);have rem2:∀{α:Type} (kk:Value→Option α),pBin PP .rem Aa (.int .i64 k) (.int .i64 (ns.length:Int)) kk=kk (.int .i64 ((k.toNat%ns.length:Nat):Int)):=fun kk=>by rw[zoU _ _ _ _ (by omega),r2]
 have node:RR Ak [.pointer (some ⟨p,0,none⟩),.int .i64 (t:Int)] H2=some (.tuple #[(zao L t).val,.int .i64 0],H2):=by
  have hT:isT L (t:Int)=true:=zaV.2 ⟨by omega,by omega⟩;have e10:=Go.AM.c10 hst2.st (by omega) (t:Int);rw[hT,if_pos rfl]at e10;have:zdc L (t:Int)=zao L t:=by unfold zdc;rw[hT,if_pos rfl,show ((t:Int)-1).toNat=t-1 by omega,zcg htb];rfl
  rw[this]at e10;exact e10
 by_cases hww:(zao L t).w=v.w
 ·obtain⟨a0',H3,p3,o3⟩:=(own_rot o2).push (bytes:=16) (zs:=[.string ⟨#[]⟩]) (x:=.string v.name) (by decide) (by decide) rfl rfl rfl (by omega);obtain⟨a2',H4,p4,o4⟩:=o3.swap.push (bytes:=8) (zs:=[.int .i64 0]) (x:=.int .i64 (t:Int)) (by decide) (by decide) rfl rfl rfl (by omega);have o4:=own_rot o4.swap;have c4:strs (D.map Prod.fst)++zab (.string v.name)=strs ((D++[(v.name,t)]).map Prod.fst):=by rw[map_append,znH];rfl
  have c5:ints (D.map Prod.snd)++zab (.int .i64 (t:Int))=ints ((D++[(v.name,t)]).map Prod.snd):=by simp[ints];rfl
  have c6:D.length+1=(D++[(v.name,t)]).length:=by simp
  rw[c4,c5,c6]at o4;refine⟨H4,a0',a1',a2',a3',D++[(v.name,t)],S++[(v.name,q+1)],?_,o4,fun e he=>?_,?_,by rw[←c6];omega,by rw[←c3];omega,hsn,hs⟩
  ·rw[head,bF (by omega),bF (by omega),zan,za3,h2'.len,rem1,z1,z2,lF hk,h8'.len,rem2,x1,x2',zag node,x01,spl7,zag (c_no _ _),eT rfl,zf9,y1',zaK,ld1',eT hww,y1',zaK,ld0',p3,p4,zaU,w1]
  ·rcases mem_append.1 he with he|he
   ·exact h.d e he
   ·rw[mem_singleton]at he;subst he;exact⟨htm,v,hvm,rfl,hww.symm⟩
  ·rw[ht,map_append,map_append];exact h.dn.append (List.Sublist.refl _)
 ·refine skip _ ?_ ((head _).2 rfl);rw[bF (by omega),bF (by omega),zan,za3,h2'.len,rem1,z1,z2,lF hk,h8'.len,rem2,x1,x2',zag node,x01,spl7,zag (c_no _ _),eT rfl,zf9,y1',zaK,ld1',eF hww,zaU,w1]
theorem zlG:∀(r:List VV) (i:Nat) (H:Hp) (a0 a1 a2 a3:Value) (D S:List (ByteArray×Nat)),V.drop i=r→i≤V.length→PK L ns V B i H a0 a1 a2 a3 D S →
  ∃H' u0 u1 u2 u3 D' S',zau (zap RR x2 (.pointer (some ⟨p,0,none⟩)) x8 x14) [a0,a1,a2,a3,.int .i64 (i:Int)] H=some (.exit 0,[u0,u1,u2,u3,.int .i64 (V.length:Int)],H')∧PK L ns V B V.length H' u0 u1 u2 u3 D' S'
 |[],i,H,a0,a1,a2,a3,D,S,hr,hi,h=>by
  have hil:i=V.length:=by have:=congrArg List.length hr;rw[length_drop,length_nil]at this;omega
  subst hil;refine⟨H,a0,a1,a2,a3,D,S,?_,h⟩;have:zap RR x2 (.pointer (some ⟨p,0,none⟩)) x8 x14 [a0,a1,a2,a3,.int .i64 (V.length:Int)] H=some (.exit 0,[a0,a1,a2,a3,.int .i64 (V.length:Int)],H):=by unfold zap;simp only[qg0,qg1];rw[(h14.keep h.own.toFrm fun _ _ q=>q).len,lF (Int.lt_irrefl _)]
  rw[zah,this];rfl
 |v::r,i,H,a0,a1,a2,a3,D,S,hr,hi,h=>by
  have hlt:i<V.length:=by have:=congrArg List.length hr;rw[length_drop,length_cons]at this;omega
  have hv:V[i]?=some v:=by
   have:(V.drop i)[0]?=some v:=by rw[hr];rfl
   rwa [List.getElem?_drop,Nat.add_zero]at this
  have hr2:V.drop (i+1)=r:=by rw[←drop_drop,hr];rfl
  obtain⟨H1,u0,u1,u2,u3,D1,S1,e1,h1⟩:=pick_step hg hLl hns hnl hst h8 hV hVl h14 h2 hPl hv h;obtain⟨H2,d0,d1,d2,d3,D2,S2,g1,g2⟩:=zlG r (i+1) H1 u0 u1 u2 u3 D1 S1 hr2 hlt h1;exact⟨H2,d0,d1,d2,d3,D2,S2,by rw[zah,e1];exact g1,g2⟩
end
theorem put_self{H0:Hp}{p f g:Nat}{lim:Int}{L:List Nd}{K:List (ByteArray×Int)}{sl:Value}(hst:StF H0 p lim L K sl f g)(hg:zbZ L K)(hL:L.length≤2^38){x y z:Value}{ns:List Nat}(hx:Rdb H0 1 x ns.length (ints ns))(hxF:∀j,Id x j→¬Foot p f g sl j)(hns:∀t∈ns,1≤t∧t≤L.length)(hnl:ns.length≤2^40)
  {S:List (ByteArray×Nat)} (hz:Rdb H0 1 z (S.map Prod.fst).length (strs (S.map Prod.fst))) (hy:Rdb H0 1 y (S.map Prod.snd).length (ints (S.map Prod.snd))) (hSl:S.length≤2^40) (hnm:nmOk [] (S.map Prod.fst)=true) (hS:∀e∈S,1≤e.2∧e.2≤L.length∧(zao L e.2).op=4∧(zao L e.2).name=e.1) :
  ∃H' v sl',RR Ay [.pointer (some ⟨p,0,none⟩),x,z,y] H0=some (.tuple #[v,.int .i64 0],H')∧StF H' p lim L K sl' f g∧(∀j,Foot p f g sl' j→Foot p f g sl j∨H0.next≤j)∧(∀j,Id v j→¬Foot p f g sl' j)∧Vec H' 1 v ns.length (ints ns)∧(∀j,Id v j→H0.next≤j)∧Frm (Foot p f g sl) H0 H':=by
 obtain⟨p1,p2,p3,p4⟩:=zbC hg hns;have same:∀t∈posts L ns [],(zao L t).op=4→∀u:Nat,byZ S (zao L t).name=some (u:Int)→u=t:=fun t ht h4 u hu=>by
  obtain⟨u',e,hm⟩:=zez hu;have e:u'=u:=by omega
  subst e;obtain⟨s1,s2,s3,s4⟩:=hS _ hm;have hn1:=zcg (L:=L) ⟨s1,s2⟩;have hn2:=zcg (p2 t ht);have hw:=zl3 hg (mem_of_getElem? hn1) (mem_of_getElem? hn2) s3 h4 s4;have e1:=zkc hg hn1 s3;have e2:=zkc hg hn2 h4;have e3:zao L u'=zao L t:=by rw[e1,e2,s4,hw]
  rw[e3]at hn1;have:=hg.nod _ _ _ hn1 hn2;have:=(p2 t ht).1;have s1:1≤u':=s1;omega
 obtain⟨tm,e1,e2,e3⟩:=zkt (K:=K) (lim:=lim) hg.dag p2 p3 (leaf:=byL S) (fun t ht h4 h=>by
  unfold byL at h ⊢;cases hq:byZ S (zao L t).name with
  |none=>rw[hq]at h;exact absurd rfl h
  |some z=>
   obtain⟨u,rfl,_⟩:=zez hq
   rw[same t ht h4 u hq];rfl) (posts L ns []) 0 (fun _=>0) rfl (fun u h=>by cases h)
 obtain⟨H',v,g1,g2⟩:=c_put hst hg hL (D:=S) hx.o hxF hns hnl hz hy hSl hnm (fun d h=>⟨(hS d h).1,(hS d h).2.1⟩) (fun t ht h4 u h=>by rw[same t ht h4 u h]) e3;rw[e1]at g2;obtain⟨sl',s1,s2,s3⟩:=g2.st;have hv:=g2.vec;have:(ns.map fun (t:Nat)=>tm (t:Int))=ns.map fun (t:Nat)=>(t:Int):=map_congr_left fun t ht=>e2 t (p4 t ht);dsimp only at hv;rw[this,←zbw]at hv;exact⟨H',v,sl',g1,s1,s2,s3,hv,g2.new,g2.frm⟩
theorem made_list{L L2:List Nd}{f f':ByteArray→W64}{s:RS}{ns:List Nat}(hmd:∀t∈ns,zpx L f' f s t):∃ms:List Nat,(ns.map fun (t:Nat)=>s.2.2 (t:Int))=ms.map (fun (t:Nat)=>(t:Int))∧(∀t∈ms,1≤t∧t≤s.1.length)∧ms.map (vfn s.1 f)=ns.map (vfn L f'):=by
 induction ns with
 |nil=>exact⟨[],rfl,fun t h=>(by cases h),rfl⟩
 |cons t r ih=>
  obtain⟨ms,h1,h2,h3⟩:=ih fun u hu=>hmd u (mem_cons_of_mem _ hu);obtain⟨v,v1,v2,v3,_,v5⟩:=(hmd t (mem_cons_self ..)).ex;refine⟨v::ms,by rw[map_cons,map_cons,h1,v1],fun u hu=>?_,by rw[map_cons,map_cons,h3,v5]⟩;rcases mem_cons.1 hu with rfl|hu
  ·exact⟨v2,v3⟩
  ·exact h2 u hu
theorem nm_sub{l m:List ByteArray}(h:l.Sublist m)(hm:nmOk [] m=true):nmOk [] l=true:=by obtain⟨h1,h2,_⟩:=(zf7 _ _).1 hm;exact(zf7 _ _).2 ⟨fun x hx=>h1 x (h.subset hx),h2.sublist h,fun x _ q=>by cases q⟩
theorem run8u(l:List UInt8)(hl:l.length≤2^20){x x2:Value}{nums:List Int}{H:Hp}(hx:Rdb H 1 x nums.length (u64I nums))(hn:∀z∈nums,0≤z∧z<18446744073709551616){P:List Int}(hp:Rdb H 1 x2 P.length (zbR P))(hPl:P.length≤2^40)(hL:Laid H) :
  ∃H',RR BB [str l,x,x2] H=some (.bool true,H'):=by
 have hr:=zdt E0 rfl (str l) x x2 H;rw[zdB]at hr;have tr:∀{A B C:Hp},Frm (fun _=>False) A B→Frm (fun _=>False) B C→Frm (fun _=>False) A C:=fun a b=>a.trans b fun j q=>q.elim;have e0:∀x:Int,¬(x≠x):=fun x q=>q rfl;obtain⟨H1,e1,f1⟩:=c_live hL;rw[zag e1,zbQ,zad,Bool.not_true,zaH]at hr;have hlo:=c_lload (hL.keep f1 fun j q=>q.elim) l (by omega);cases hr0:zfD 0 (zcZ l) 0 [] [] [] with
 |bad ln e=>
  rw[hr0]at hlo;obtain⟨H2,e2,f2⟩:=hlo;rw[zag e2,s_t3a,s_t3b,s_t3c,zbQ,zad,Bool.not_false,za0]at hr;exact⟨H2,hr⟩
 |good L K q=>
  rw[hr0]at hlo;obtain⟨H2,st,f,g,sl,rv,e2,f2,s2,r2,h2a,h2b,h2c⟩:=hlo;obtain⟨l1,l2⟩:=load_bd hr0;obtain⟨hg,hqb⟩:=zl6 hr0;obtain⟨ns,rfl,hns⟩:∃ns:List Nat,q=ns.map (fun (t:Nat)=>(t:Int))∧∀t∈ns,1≤t∧t≤L.length:=nats q (all_eq_true.2 fun t ht=>zaV.2 (hqb t ht));rw[length_map]at l2 r2;rw[←zbw]at r2;have hrI:∀{H:Hp} {rv:Value} {ns:List Nat},Rdb H 1 rv ns.length (ints ns)→Rdb H 1 rv (ns.map fun (t:Nat)=>(t:Int)).length (zbR (ns.map fun (t:Nat)=>(t:Int))):=fun h=>by rw[length_map,←zbw];exact h
  have hlenA:=varsR_len hg.dag hns;have kf:∀{A B:Hp} {L:List Nd} {K:List (ByteArray×Int)} {sl:Value},StF A st 0 L K sl f g→Frm (fun _=>False) A B→StF B st 0 L K sl f g:=fun s k=>s.keep (fun j hj=>k.same j (s.foot_lt hj) fun q=>q) k.next;obtain⟨H3,av,e3,m3⟩:=c_vars s2 hg.dag (by omega) (hrI r2.rd).o (by rw[length_map];omega);rw[varsI_of hns]at e3 m3;dsimp only at e3 m3;have f13:=tr f2 m3.frm;have s3:=kf s2 m3.frm;have r3:=r2.keep m3.frm fun _ _ q=>q;have vnm:=zjh hg hns;obtain⟨H4,b0,b1,b2,b3,D,S,e4,pk⟩:=zlG hg (by omega) hns (by omega) s3 r3.rd rfl (by omega) m3.vec.rd (hp.keep (tr f1 f13) fun _ _ q=>q) hPl (zbe L ns) 0 H3 (.slice none 0 0) (.slice none 0 0) (.slice none 0 0) (.slice none 0 0) [] [] rfl (Nat.zero_le _)
   ⟨((((Own.nil H3).addNil 1).addNil 1).addNil 1).addNil 1,fun e h=>(by cases h),List.Sublist.refl _,Nat.le_refl _,rfl,rfl,fun e h=>by cases h⟩
  have e4:zau (zap RR x2 (.pointer (some ⟨st,0,none⟩)) rv av) [.slice none 0 0,.slice none 0 0,.slice none 0 0,.slice none 0 0,.int .i64 0] H3=_:=e4;have f34:=pk.own.toFrm;have vb1:=pk.own.vec _ (mem_cons_self ..);have vb3:=pk.own.vec _ (mem_cons_of_mem _ (mem_cons_self ..));have vb0:=pk.own.vec _ (mem_cons_of_mem _ (mem_cons_of_mem _ (mem_cons_self ..)));have vb2:=pk.own.vec _ (mem_cons_of_mem _ (mem_cons_of_mem _ (mem_cons_of_mem _ (mem_cons_self ..))));have nb1:=pk.own.new _ (mem_cons_self ..);have nb3:=pk.own.new _ (mem_cons_of_mem _ (mem_cons_self ..));have nb0:=pk.own.new _ (mem_cons_of_mem _ (mem_cons_of_mem _ (mem_cons_self ..)));have nb2:=pk.own.new _ (mem_cons_of_mem _ (mem_cons_of_mem _ (mem_cons_of_mem _ (mem_cons_self ..))));dsimp only at vb0 vb1 vb2 vb3 nb0 nb1 nb2 nb3;have hDn:=pk.dn;have hSn:=pk.sn;rw[take_length]at hDn hSn;have hDl:=pk.dl;have hSl:=pk.sl;have hDd:∀d∈D,1≤d.2∧d.2≤L.length∧∃v∈zbe L ns,v.name=d.1∧v.w=(zao L d.2).w:=fun d hd=>by obtain⟨a1,a2⟩:=pk.d d hd;exact⟨(hns _ a1).1,(hns _ a1).2,a2⟩
  have hT:∀v∈zbe L ns,∃w,fndV v.name (zaO nums 0 (zbe L ns))=some w:=fun v hv=>zot (by rw[zfL];exact mem_map_of_mem hv);obtain⟨pm1,pm2,pm3,pm4,pm5⟩:=put_mean hg hns hDd hT (lim:=0) (by decide);obtain⟨pp1,pp2,pp3,pp4⟩:=zbC hg hns;have s4:=kf s3 f34;have r4:=r3.keep f34 fun _ _ q=>q;have n2:∀j,Foot st f g sl j→j<H2.next:=fun j hj=>s2.foot_lt hj;have n3:=m3.next;have n4:=f34.next;have hDmf:(D.map Prod.fst).length=D.length:=length_map _;have hDms:(D.map Prod.snd).length=D.length:=length_map _;have hSmf:(S.map Prod.fst).length=S.length:=length_map _;have hSms:(S.map Prod.snd).length=S.length:=length_map _;obtain⟨H5,v1,e5,g5⟩:=c_put s4 hg (by omega) r4.rd.o h2c hns (by omega) (z:=b0) (y:=b2) (by rw[hDmf];exact vb0.rd) (by rw[hDms];exact vb2.rd) (by omega) (nm_sub hDn vnm) (fun d hd=>⟨(hDd d hd).1,(hDd d hd).2.1⟩) pm2 pm1;obtain⟨sl5,s5,ft5,nv5⟩:=g5.st;have v5:=g5.vec;have nw5:=g5.new;have f45:=g5.frm;have hpl:(posts L ns []).length≤L.length:=Told.len ((⟨nodup_nil,fun x h=>by cases h⟩:Told L.length []).posts hg.dag hns);have hlen2:=zjs (lim:=0) (always:=false) (leaf:=byL D) (nd:=zao L) (posts L ns []) (L,K,fun _=>0);have hlen2:(zcr 0 false (byL D) (zao L) (posts L ns []) (L,K,fun _=>0)).1.length≤L.length+(posts L ns []).length:=hlen2;obtain⟨ms,ms1,ms2,ms3⟩:=made_list (L2:=L) pm5;rw[ms1]at v5;generalize zcr 0 false (byL D) (zao L) (posts L ns []) (L,K,fun _=>0)=R at *;obtain⟨L2,K2,tm⟩:=R;dsimp only at *;have hmsl:ms.length=ns.length:=by have:=congrArg List.length ms1;rw[length_map,length_map]at this;exact this.symm
  obtain⟨M2,hM2⟩:=pm4;have hd2:=pm3.dag;rw[hM2]at hd2;have up:∀{t:Nat},1≤t∧t≤L.length→1≤t∧t≤L2.length:=fun {t} h=>by rw[hM2,length_append];omega
  have hns2:∀t∈ns,1≤t∧t≤L2.length:=fun t ht=>up (hns t ht);have nod2:∀{t:Nat},1≤t∧t≤L.length→zao L2 t=zao L t:=fun {t} h=>by rw[hM2];exact zio h
  have n5:=f45.next;have r5:=r4.keep f45 h2c;have lrv:∀j,Id rv j→j<H2.next:=fun j hj=>r2.lt hj;have F5:∀j,Foot st f g sl5 j→j<H2.next∧Foot st f g sl j∨H4.next≤j:=fun j hj=>(ft5 j hj).imp (fun q=>⟨n2 j q,q⟩) id;have vb1_5:=vb1.keep f45 fun j hj hf=>by have:=nb1 j hj;have:=n2 j hf;omega
  have vb3_5:=vb3.keep f45 fun j hj hf=>by have:=nb3 j hj;have:=n2 j hf;omega
  obtain⟨H6,v2,sl6,e6,s6,ft6,nv6,v6,nw6,f56⟩:=put_self s5 pm3 (by omega) r5.rd (fun j hj hf=>by
   have:=lrv j hj;rcases F5 j hf with z|z
   ·exact h2c j hj z.2
   ·omega) hns2 (by omega) (S:=S) (z:=b1) (y:=b3) (by rw[hSmf];exact vb1_5.rd) (by rw[hSms];exact vb3_5.rd) (by omega) (by rw[hSn];exact vnm) (fun e he=>by
   obtain⟨a1,a2,a3,a4⟩:=pk.s e he;rw[nod2 ⟨a1,a2⟩]
   exact⟨a1,(up ⟨a1,a2⟩).2,a3,a4⟩)
  have n6:=f56.next;have F6:∀j,Foot st f g sl6 j→Foot st f g sl5 j∨H5.next≤j:=ft6
  have r6:=r5.keep f56 (fun j hj hf=>by
   have:=lrv j hj;rcases F5 j hf with z|z
   ·exact h2c j hj z.2
   ·omega)
  have rF6:∀j,Id rv j→¬Foot st f g sl6 j:=fun j hj hf=>by
   have:=lrv j hj;rcases F6 j hf with z|z
   ·rcases F5 j z with z|z
    ·exact h2c j hj z.2
    ·omega
   ·omega
  obtain⟨H7,v3,sl7,e7,s7,ft7,nv7,v7,nw7,f67⟩:=put_none s6 pm3 (by omega) r6.rd rF6 hns2 (by omega);have n7:=f67.next;have r7:=r6.keep f67 rF6;have mid:∀{A:Prop} (j:Nat),H2.next≤j→j<H4.next→(Foot st f g sl j∨Foot st f g sl5 j∨Foot st f g sl6 j)→A:=fun {A} j a b h=>by
   have F5':Foot st f g sl5 j→False:=fun z=>by rcases F5 j z with z|z<;>omega
   rcases h with h|h|h
   ·have:=n2 j h;omega
   ·exact(F5' h).elim
   ·rcases F6 j h with z|z
    ·exact(F5' z).elim
    ·omega
  have up47:∀{sz:Nat} {v:Value} {n:Nat} {cs:List Value},Vec H4 sz v n cs→(∀j,Id v j→H2.next≤j)→Vec H7 sz v n cs:=fun h hn=>((h.keep f45 fun j hj q=>mid j (hn j hj) (h.lt hj) (.inl q)).keep f56 fun j hj q=>mid j (hn j hj) (h.lt hj) (.inr (.inl q))).keep f67 fun j hj q=>mid j (hn j hj) (h.lt hj) (.inr (.inr q));have av4:=m3.vec.keep f34 fun _ _ q=>q;have av7:=up47 av4 m3.new;have vb0_7:=up47 vb0 fun j hj=>by have:=nb0 j hj;omega
  have vb2_7:=up47 vb2 fun j hj=>by have:=nb2 j hj;omega
  have l1v:∀j,Id v1 j→j<H5.next:=fun j hj=>v5.lt hj;have v1_6:=v5.keep f56 nv5;have v1F6:∀j,Id v1 j→¬Foot st f g sl6 j:=fun j hj hf=>by
   rcases F6 j hf with z|z
   ·exact nv5 j hj z
   ·have:=l1v j hj;omega
  have v1_7:=v1_6.keep f67 v1F6;have v2_7:=v6.keep f67 nv6;have q1:=zj5 (hrI v2_7.rd) (hrI r7.rd) (by rw[length_map];omega);have q2:=zj5 (hrI v7.rd) (hrI r7.rd) (by rw[length_map];omega);have hx7:Rdb H7 1 x nums.length (u64I nums):=by
   have h4:Rdb H4 1 x nums.length (u64I nums):=hx.keep (tr f1 (tr f13 f34)) fun _ _ q=>q;have xlt:∀j,Id x j→j<H1.next:=fun j hj=>by have:=hx.lt hj;have:=f1.next;omega
   have n12:=f2.next;have no:∀j,Id x j→¬Foot st f g sl j:=fun j hj hf=>by have:=xlt j hj;have:=h2a j hf;omega
   exact((h4.keep f45 no).keep f56 fun j hj hf=>by
    have:=xlt j hj;rcases F5 j hf with z|z
    ·exact no j hj z.2
    ·omega).keep f67 fun j hj hf=>by
    have:=xlt j hj;rcases F6 j hf with z|z
    ·rcases F5 j z with z|z
     ·exact no j hj z.2
     ·omega
    ·omega
  obtain⟨H8,vv,e8,m8⟩:=c_drawn av7.rd (by omega) hx7 (vars_w hg hns) hn;have f78:=m8.frm;have n8:=f78.next;have s8:=kf s7 f78;have hok:∀v∈zaO nums 0 (zbe L ns),v.Ok:=fun v hv=>(zek hn _ _ v hv).1;have hTv:∀v∈zaO nums 0 (zbe L ns),∃a∈zbe L ns,a.name=v.name∧a.w=v.w:=fun v hv=>(zek hn _ _ v hv).2;have td:=zj2 hg hns hn;have tv:=fun {Tv:List VV} a b {ms:List Nat} c=>told_vals hg hns pm3 ⟨M2,hM2⟩ (Tv:=Tv) a b (ms:=ms) c;obtain⟨H9,wa,e9,m9⟩:=zgq s8 pm3 (by omega) (rs:=ms.map fun (t:Nat)=>(t:Int)) (x:=v1) (by rw[length_map,hmsl];exact(v1_7.keep f78 fun _ _ q=>q).rd.o) (by rw[length_map];omega) m8.vec.rd (by rw[zeX];omega) hok;rw[zgw ms2,tv hTv td ms2,ms3]at e9 m9;have f89:Frm (fun _=>False) H8 H9:=⟨m9.next,fun j hj _=>m9.old j hj⟩
  have n9:=f89.next;have s9:=kf s8 f89;have vb2_9:=(vb2_7.keep f78 fun _ _ q=>q).keep f89 fun _ _ q=>q;have vb0_9:=(vb0_7.keep f78 fun _ _ q=>q).keep f89 fun _ _ q=>q;have vv9:=m8.vec.keep f89 fun _ _ q=>q;have hDs2:∀t∈D.map Prod.snd,1≤t∧t≤L2.length:=fun t ht=>by obtain⟨d,hd,rfl⟩:=mem_map.1 ht;exact up ⟨(hDd d hd).1,(hDd d hd).2.1⟩
  obtain⟨H10,wi,e10,m10⟩:=zgq s9 pm3 (by omega) (rs:=(D.map Prod.snd).map fun (t:Nat)=>(t:Int)) (x:=b2) (hrI (by rw[hDms];exact vb2_9.rd)).o (by rw[length_map];omega) vv9.rd (by rw[zeX];omega) hok;rw[zgw hDs2,tv hTv td hDs2]at e10 m10;have f910:Frm (fun _=>False) H9 H10:=⟨m10.next,fun j hj _=>m10.old j hj⟩
  have n10:=f910.next;have m9v:=m9.vec;have m10v:=m10.vec;dsimp only at m9v m10v e9 e10;have hEf:(D.map fun d=>(d.1,vfn L2 (zbJ (zaO nums 0 (zbe L ns))) d.2)).map Prod.fst=D.map Prod.fst:=by rw[map_map];rfl
  have hEs:(D.map fun d=>(d.1,vfn L2 (zbJ (zaO nums 0 (zbe L ns))) d.2)).map Prod.snd=(D.map Prod.snd).map (vfn L2 (zbJ (zaO nums 0 (zbe L ns)))):=by rw[map_map,map_map];rfl
  have vlt:∀j,Id vv j→H7.next≤j∧j<H8.next:=fun j hj=>⟨m8.new j hj,m8.vec.lt hj⟩
  have vv10:=vv9.keep f910 fun _ _ q=>q;have b0_10:=vb0_9.keep f910 fun _ _ q=>q;have b2_10:=vb2_9.keep f910 fun _ _ q=>q
  obtain⟨H11,e11,f1011,v11⟩:=zlF (B:=H10) (nv:=b0) (iv:=wi) (vv:=vv) (E:=D.map fun d=>(d.1,vfn L2 (zbJ (zaO nums 0 (zbe L ns))) d.2)) (by rw[hEf,length_map];exact b0_10.rd) (by
    rw[hEs];have:=m10v.rd;rw[length_map,length_map]at this
    rw[length_map];exact this) (fun j hj hq=>by have:=vlt j hq;have:=vb0.lt hj;omega) (fun j hj hq=>by have:=vlt j hq;have:=m10.new j hj;omega) (by rw[length_map];omega) (l102:=[b0,b1,b2,b3,.int .i64 ((zbe L ns).length:Int)]) rfl (Tv:=zaO nums 0 (zbe L ns)) (by rw[zeX];omega) (zaO nums 0 (zbe L ns)) 0 H10 rfl (Nat.zero_le _) (Frm.refl _ _) vv10
  have e11:zau (zaA RR wi vv [b0,b1,b2,b3,.int .i64 ((zbe L ns).length:Int)]) [.int .i64 0] H10=_:=e11;have hpv:((zaO nums 0 (zbe L ns)).map fun u=>(D.map fun d=>(d.1,vfn L2 (zbJ (zaO nums 0 (zbe L ns))) d.2)).foldl setF u)=putV L (zaO nums 0 (zbe L ns)) D:=by
   unfold putV;refine map_congr_left fun u _=>?_;rw[zos];cases hz:byZ D u.name with
   |none=>rfl
   |some z=>
    obtain⟨t,rfl,ht⟩:=zez hz;have hb:=hDd _ ht;dsimp only;rw[show ((t:Int)).toNat=t from rfl,hM2,zhM hg.dag hd2 hb.1 hb.2.1]
  rw[hpv]at v11;obtain⟨pt1,pt2⟩:=put_told hg hns hn (D:=D) (fun d hd=>⟨pp4 _ (pk.d d hd).1,(pk.d d hd).2⟩);have n11:=f1011.next;have s11:StF H11 st 0 L2 K2 sl7 f g:=by
   have s10:=kf s9 f910
   exact s10.keep (fun j hj=>f1011.same j (s10.foot_lt hj) (fun hq=>by
    have:=vlt j hq;have:=s7.foot_lt hj
    omega)) f1011.next
  have r11:=(((r7.keep f78 fun _ _ q=>q).keep f89 fun _ _ q=>q).keep f910 fun _ _ q=>q).keep f1011 fun j hj hq=>by have:=vlt j hq;have:=lrv j hj;omega
  have hpl2:(putV L (zaO nums 0 (zbe L ns)) D).length=(zaO nums 0 (zbe L ns)).length:=by unfold putV;rw[length_map]
  have hTv2:∀v∈putV L (zaO nums 0 (zbe L ns)) D,∃a∈zbe L ns,a.name=v.name∧a.w=v.w:=fun v hv=>by
   unfold putV at hv;obtain⟨w,hw,rfl⟩:=mem_map.1 hv;obtain⟨a,ha,an,aw⟩:=hTv w hw;refine⟨a,ha,?_,?_⟩
   ·rw[an];split<;>rfl
   ·rw[aw];split<;>rfl
  obtain⟨H12,wc,e12,m12⟩:=zgq s11 pm3 (by omega) (hrI r11.rd).o (by rw[length_map];omega) (Tv:=putV L (zaO nums 0 (zbe L ns)) D) (y:=vv) (by rw[hpl2];exact v11.rd) (by rw[hpl2,zeX];omega) pt2;rw[zgw hns2,tv hTv2 pt1 hns2]at e12 m12;have hvs:ns.map (vfn L2 (zbJ (putV L (zaO nums 0 (zbe L ns)) D)))=ns.map (vfn L (zbJ (putV L (zaO nums 0 (zbe L ns)) D))):=map_congr_left fun t ht=>by rw[hM2,zhM hg.dag hd2 (hns t ht).1 (hns t ht).2]
  rw[hvs]at e12 m12;have f1112:Frm (fun _=>False) H11 H12:=⟨m12.next,fun j hj _=>m12.old j hj⟩
  have m12v:=m12.vec;dsimp only at m12v e12;have wa12:=((m9v.keep f910 fun _ _ q=>q).keep f1011 fun j hj hq=>by have:=vlt j hq;have:=m9.new j hj;omega).keep f1112 fun _ _ q=>q;have csw:=ziR wa12.rd m12v.rd (by rw[length_map];omega);have ze:IntKind.i64.wrap ((0:Int)+0)=0:=by decide
  have wl:(((D.map Prod.snd).map (vfn L2 (zbJ (zaO nums 0 (zbe L ns))))).length:Int)=(D.length:Int):=by rw[length_map,length_map]
  rw[zag e2,s_t3a,s_t3b,s_t3c,zbQ,zad,Bool.not_true,zaH,zag e3,x01,zag (c_no _ _),zba,bF (e0 _),e4,zan,za6,zaC]at hr;simp only[qg0,qg1]at hr;rw[zag e5,x01,zag e6,x01,zag e7,x01,zag (c_no _ _),zag (c_no _ _),zaU,ze,zag (c_no _ _),zaU,ze,zba,bF (e0 _),zag q1,zbQ,zad,Bool.not_true,zaH,zag q2,zbQ,zad,Bool.not_true,zaH,v1_7.len,r7.len,zba,bF (e0 _),zan,za3,zag e8,zag e9,x01,zag e10,x01,zag (c_no _ _),zba,bF (e0 _),zag (c_no _ _),zba,bF (e0 _),m10v.len,b2_10.len,wl,zba,bF (e0 _),zan,za3,e11,zan,za6,zaC,zag e12,x01,zag (c_no _ _),eT rfl,zag csw]at hr;exact⟨H12,hr⟩
end Go.AM.N14
namespace Go.AM
open List Go Go.ChangeShapes Go.WideShapes Go.ChangeAt Go.RowKit
theorem flat3:flat PP 1 Aa=some [.int .i64]:=by kernel_rfl
theorem intDec(l:List Value)(h:OkL [.int .i64] l):∃o:Int,[Value.int .i64 o]=l∧(IntKind.i64.min≤o∧o≤IntKind.i64.max):=by
 obtain⟨hl,hh⟩:=h;obtain⟨v,l,rfl,hl2⟩:=consL hl;obtain⟨_,e,n,rfl,p,q⟩:=hh 0 _ rfl;cases e;have:l=[]:=by cases l with|nil=>rfl|cons a t=>cases hl2
 subst this;exact⟨n,rfl,p,q⟩
theorem ints_arg{HH:Type}{enc:TypeId×Value→HH}{W:World}{H:Hp}{β:Bt}(hR:Rel PP W H β)(hno:∀i o,H.get i=some o→o.own=false){b0:Nat}{v':Value}{dw:DataW HH}{ps:List MemPlace}
  (hval:Value.okWide PP W .any b0 AK v') (hd:DataW.Trod enc PP W 0 (fun _=>true) true AK v' dw ps) :
  ∃(v:Value) (H':Hp) (β':Bt) (os:List Int),Rel PP W H' β'∧(∀i o,H'.get i=some o→o.own=false)∧β.le β'∧VRel β' v v'∧Rdb H' 1 v os.length (zbR os)∧(∀o∈os,IntKind.i64.min≤o∧o≤IntKind.i64.max)∧os.length≤Go.Proofs.YtcbmccpkhagckaaGreatDoor.Rows.uptoBulk dw∧Frm (fun _=>False) H H':=by
 obtain⟨v,H',β',g1,g2,g3,g4,g5⟩:=zmt (P:=PP) (t:=AK) (e:=Aa) (d:=1) (ks:=[.int .i64]) (by kernel_rfl) flat3 (by kernel_rfl) (by decide) hR hno hval hd;rcases g5 with⟨rfl,rfl,rfl⟩|⟨L,es,sp,rfl,rfl,h1,rfl,h2⟩
 ·exact⟨_,_,β',[],g1,g2,g3,g4,.inl ⟨rfl,rfl,rfl⟩,fun o h=>(by cases h),by simp,Frm.refl _ _⟩
 ·obtain⟨os,h3,h4⟩:=decL (cells:=fun (t:Int)=>[Value.int .i64 t]) intDec L h1;have hfl:L.flatten=zbR os:=by
   rw[h3,←flatMap_def];clear h3 h1 g1 g2 g3 g4 h2 h4;induction os with
   |nil=>rfl
   |cons a t ih=>rw[flatMap_cons,ih];rfl
  have hll:L.length=os.length:=by rw[h3,length_map]
  refine⟨_,_,β',os,g1,g2,g3,g4,.inr ⟨H.next,L.length,[],false,?_,by omega,?_,?_,?_⟩,h4,?_,zcz _ _ _⟩
  ·rw[hll];rfl
  ·rw[get_new,if_pos rfl,hfl,append_nil]
  ·rw[intsI_len,Nat.mul_one]
  ·show H.next<H.next+1;omega
  ·have:=zk5 es;simp only[Go.Proofs.YtcbmccpkhagckaaGreatDoor.Rows.uptoBulk];omega
end Go.AM
namespace Go.AM.N14
open List Go Go.AM Go.ChangeShapes Go.WideShapes Go.ChangeAt Go.RowKit
theorem flatU:flat PP 1 Ab=some [.int .u64]:=by kernel_rfl
theorem u64Dec(l:List Value)(h:OkL [.int .u64] l):∃o:Int,[Value.int .u64 o]=l∧(0≤o∧o<18446744073709551616):=by
 obtain⟨hl,hh⟩:=h;obtain⟨v,l,rfl,hl2⟩:=consL hl;obtain⟨_,e,n,rfl,p,q⟩:=hh 0 _ rfl;cases e;have:l=[]:=by cases l with|nil=>rfl|cons a t=>cases hl2
 subst this;have e1:IntKind.u64.min=0:=rfl;have e2:IntKind.u64.max=18446744073709551615:=rfl;exact⟨n,rfl,by omega,by omega⟩
theorem u64s_arg{HH:Type}{enc:TypeId×Value→HH}{W:World}{H:Hp}{β:Bt}(hR:Rel PP W H β)(hno:∀i o,H.get i=some o→o.own=false){b0:Nat}{v':Value}{dw:DataW HH}{ps:List MemPlace}
  (hval:Value.okWide PP W .any b0 A4 v') (hd:DataW.Trod enc PP W 0 (fun _=>true) true A4 v' dw ps) :
  ∃(v:Value) (H':Hp) (β':Bt) (os:List Int),Rel PP W H' β'∧(∀i o,H'.get i=some o→o.own=false)∧β.le β'∧VRel β' v v'∧Rdb H' 1 v os.length (u64I os)∧(∀o∈os,0≤o∧o<18446744073709551616)∧os.length≤Go.Proofs.YtcbmccpkhagckaaGreatDoor.Rows.uptoBulk dw∧Frm (fun _=>False) H H':=by
 obtain⟨v,H',β',g1,g2,g3,g4,g5⟩:=zmt (P:=PP) (t:=A4) (e:=Ab) (d:=1) (ks:=[.int .u64]) (by kernel_rfl) flatU (by kernel_rfl) (by decide) hR hno hval hd;rcases g5 with⟨rfl,rfl,rfl⟩|⟨L,es,sp,rfl,rfl,h1,rfl,h2⟩
 ·exact⟨_,_,β',[],g1,g2,g3,g4,.inl ⟨rfl,rfl,rfl⟩,fun o h=>(by cases h),by simp,Frm.refl _ _⟩
 ·obtain⟨os,h3,h4⟩:=decL (cells:=fun (t:Int)=>[Value.int .u64 t]) u64Dec L h1;have hfl:L.flatten=u64I os:=by
   rw[h3,←flatMap_def];clear h3 h1 g1 g2 g3 g4 h2 h4;induction os with
   |nil=>rfl
   |cons a t ih=>rw[flatMap_cons,ih];rfl
  have hll:L.length=os.length:=by rw[h3,length_map]
  refine⟨_,_,β',os,g1,g2,g3,g4,.inr ⟨H.next,L.length,[],false,?_,by omega,?_,?_,?_⟩,h4,?_,zcz _ _ _⟩
  ·rw[hll];rfl
  ·rw[get_new,if_pos rfl,hfl,append_nil]
  ·rw[u64I_len,Nat.mul_one]
  ·show H.next<H.next+1;omega
  ·have:=zk5 es;simp only[Go.Proofs.YtcbmccpkhagckaaGreatDoor.Rows.uptoBulk];omega
end Go.AM.N14
namespace Go.AM
open Go Go.ChangeShapes Go.WideShapes Go.ChangeAt Go.RowKit Go.Proofs.YtcbmccpkhagckaaGreatDoor
abbrev zoo:List (String×DataW Unit):=[("math/bits.deBruijn32tab",Rows.laid_math_bits_deBruijn32tab),("math/bits.deBruijn64tab",Rows.laid_math_bits_deBruijn64tab),("internal/strconv.uint64pow10",Rows.laid_internal_strconv_uint64pow10),("unicode/utf8.acceptRanges",Rows.laid_unicode_utf8_acceptRanges),("errors.errorType",Rows.laid_errors_errorType),
 ("strconv.ErrRange",Rows.laid_strconv_ErrRange),("strconv.ErrSyntax",Rows.laid_strconv_ErrSyntax),("unicode.White_Space",Rows.laid_unicode_White_Space),("strings.asciiSpace",Rows.laid_strings_asciiSpace),("unicode/utf8.first",Rows.laid_unicode_utf8_first)]
theorem laid_noH{W:World}(h:laidMetH PP zoo W):laidMetH PP ziC W:=by
 have e1:zoo.filter (fun x=>x.2.handleName?.isSome)=[("errors.errorType",Rows.laid_errors_errorType)]:=by kernel_rfl
 have e2:zoo.filter (fun x=>x.2.handleName?.isNone)=ziC:=by kernel_rfl
 unfold laidMetH at h;rw[e1,e2]at h;exact h.1
noncomputable def zcn(os:Os):World:=
 { zl8 os with heap:=(zl8 os).heap.modify B4 fun
   |.cells _ t frozen=>.cells #[.iface Cg (.agg #[typeHandle PP AA])] t frozen
   |o=>o }
set_option maxRecDepth 1000000
theorem lh1(os:Os)(args:Array Value):LaidIn PP ((zcn os).forCall (fun _ _=>0) ⟨#[],args,[]⟩).memory (ziC.take 3) [BZ,AR,AE]:=
 LaidIn.of_run _ 8 (by kernel_rfl) (by kernel_rfl) (by kernel_rfl) (by kernel_rfl)
theorem lh2(os:Os)(args:Array Value):LaidIn PP ((zcn os).forCall (fun _ _=>0) ⟨#[],args,[]⟩).memory ((ziC.drop 3).take 4) [BY,Ax,Aw,BW,nS,nS+1,nS+2,nS+3]:=
 LaidIn.of_run _ 8 (by kernel_rfl) (by kernel_rfl) (by kernel_rfl) (by kernel_rfl)
theorem lh3(os:Os)(args:Array Value):LaidIn PP ((zcn os).forCall (fun _ _=>0) ⟨#[],args,[]⟩).memory ((ziC.drop 7).take 1) [AD]:=
 LaidIn.of_run _ 8 (by kernel_rfl) (by kernel_rfl) (by kernel_rfl) (by kernel_rfl)
theorem lh4(os:Os)(args:Array Value):LaidIn PP ((zcn os).forCall (fun _ _=>0) ⟨#[],args,[]⟩).memory (ziC.drop 8) [BX]:=
 LaidIn.of_run _ 8 (by kernel_rfl) (by kernel_rfl) (by kernel_rfl) (by kernel_rfl)
theorem laid_allH(os:Os)(args:Array Value):laidMetH PP zoo ((zcn os).forCall (fun _ _=>0) ⟨#[],args,[]⟩).memory:=
 laidMetH_of_parts (((((lh1 os args).append (lh2 os args) (by kernel_rfl)).append (lh3 os args) (by kernel_rfl)).append (lh4 os args) (by kernel_rfl)).met) (by kernel_rfl)
end Go.AM
