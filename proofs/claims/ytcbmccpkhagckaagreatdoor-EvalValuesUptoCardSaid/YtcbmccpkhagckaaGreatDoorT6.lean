/- Part of the proof of EvalValuesUptoCardSaid: see the last file.  -/
import Derived.KernelRfl
import Derived.Test.YtcbmccpkhagckaaGreatDoorT1
import Derived.Test.YtcbmccpkhagckaaGreatDoorT3
import Derived.Test.YtcbmccpkhagckaaGreatDoorT4
import Derived.Test.YtcbmccpkhagckaaGreatDoorT5
set_option linter.unusedSimpArgs false
set_option linter.unusedVariables false
set_option linter.unusedSectionVars false
set_option maxRecDepth 100000
namespace Go.AM.N14
open List Go Go.AM
section
variable {H:Hp}{p f g:Nat}{lim:Int}{L:List Nd}{K:List (ByteArray×Int)}{sl:Value}(hst:StF H p lim L K sl f g)
include hst
theorem q_is(t:Int):RR Cf [.pointer (some ⟨p,0,none⟩),.int .i64 t] H=some (.bool (isT L t),H):=by
 have hr:=ziG E0 rfl (.pointer (some ⟨p,0,none⟩)) (.int .i64 t) H;unfold zfo at hr;rw[zbt,zac]at hr;by_cases h1:t≥1
 ·rw[decide_eq_true h1,zaE,zbA,zaJ,Nat.zero_add,hst.st.l1,hst.st.all.len,zb0]at hr;by_cases h2:t≤(L.length:Int)
  ·rw[decide_eq_true h2]at hr;rw[zbx.2 ⟨h1,h2⟩];exact hr
  ·rw[decide_eq_false h2]at hr;have:isT L t=false:=Bool.eq_false_iff.2 fun q=>h2 (zbx.1 q).2;rw[this];exact hr
 ·rw[decide_eq_false h1,zau]at hr;have:isT L t=false:=Bool.eq_false_iff.2 fun q=>h1 (zbx.1 q).1;rw[this];exact hr
theorem q_all{x:Value}{rs:List Int}(hx:RdO H 1 x rs.length (zbH rs))(hl:rs.length≤2^40):RR BF [.pointer (some ⟨p,0,none⟩),x] H=some (.bool (rs.all (isT L)),H):=by
 have hr:=(zhT E0 rfl (.pointer (some ⟨p,0,none⟩)) x H).trans (zij _ _ _ _);have key:∀(r:List Int) (i:Nat),rs.drop i=r→i≤rs.length→zas (za4 RR (.pointer (some ⟨p,0,none⟩)) x) [.int .i64 (i:Int)] H=if r.all (isT L)=true then some (.exit 0,[.int .i64 (rs.length:Int)],H) else some (.ret,[.bool false],H):=by
  intro r;induction r with
  |nil=>
   intro i hr hi;have hil:i=rs.length:=by have:=congrArg List.length hr;rw[length_drop,length_nil]at this;omega
   subst hil;have:za4 RR (.pointer (some ⟨p,0,none⟩)) x [.int .i64 (rs.length:Int)] H=some (.exit 0,[.int .i64 (rs.length:Int)],H):=by unfold za4;simp only[qg0];rw[hx.len,lF (Int.lt_irrefl _)]
   rw[zai,this];rfl
  |cons t r ih=>
   intro i hr hi;have hlt:i<rs.length:=by have:=congrArg List.length hr;rw[length_drop,length_cons]at this;omega
   have ht:rs[i]?=some t:=by
    have:(rs.drop i)[0]?=some t:=by rw[hr];rfl
    rwa [List.getElem?_drop,Nat.add_zero]at this
   have hr2:rs.drop (i+1)=r:=by rw[←drop_drop,hr];rfl
   obtain⟨y,y1,y2⟩:=hx.int ht;have q:(i:Int)<(rs.length:Int):=by omega
   have w1:IntKind.i64.wrap ((i:Int)+1)=((i+1:Nat):Int):=zaq (by omega) (by omega);rw[all_cons,zai];cases hT:isT L t with
   |true=>
    have:za4 RR (.pointer (some ⟨p,0,none⟩)) x [.int .i64 (i:Int)] H=some (.next,[.int .i64 ((i+1:Nat):Int)],H):=by unfold za4;simp only[qg0];rw[hx.len,lT q,y1,y2,zaf (q_is hst t),hT,za9,zac,Bool.not_true,zau,zaN,w1]
    rw[this,Bool.true_and];exact ih (i+1) hr2 (by omega)
   |false=>
    have:za4 RR (.pointer (some ⟨p,0,none⟩)) x [.int .i64 (i:Int)] H=some (.ret,[.bool false],H):=by unfold za4;simp only[qg0];rw[hx.len,lT q,y1,y2,zaf (q_is hst t),hT,za9,zac,Bool.not_false,zaE]
    rw[this];rfl
 have h:=key rs 0 rfl (Nat.zero_le _);have h:zas (za4 RR (.pointer (some ⟨p,0,none⟩)) x) [.int .i64 0] H=_:=h;rw[h]at hr;cases hall:rs.all (isT L) with
 |true=>rw[hall,if_pos rfl,zal,za0,zaz]at hr;exact hr
 |false=>rw[hall,if_neg (by decide),zal,zbZ,zcp]at hr;exact hr
theorem zqv(hL:(L.length:Int)≤4611686018427387904){x:Value}{Tv:List VV}(hx:Rdb H 3 x Tv.length (zbT Tv))(hxl:Tv.length≤2^40){v:Value}{out:List Nat}(hv:Rdb H 1 v out.length (ints out))(hol:out.length≤2^41)(hbd:∀t∈out,1≤t∧t≤L.length):∀(r:List Nat) (i:Nat),out.drop i=r→i≤out.length →
  zas (za8 RR (.pointer (some ⟨p,0,none⟩)) x v) [.int .i64 (i:Int)] H=if r.any (badV L Tv)=true then some (.ret,[.tuple #[.slice none 0 0,.int .i64 71]],H) else some (.exit 0,[.int .i64 (out.length:Int)],H)
 |[],i,hr,hi=>by
  have hil:i=out.length:=by have:=congrArg List.length hr;rw[length_drop,length_nil]at this;omega
  subst hil;have:za8 RR (.pointer (some ⟨p,0,none⟩)) x v [.int .i64 (out.length:Int)] H=some (.exit 0,[.int .i64 (out.length:Int)],H):=by unfold za8;simp only[qg0];rw[hv.len,lF (Int.lt_irrefl _)]
  rw[zai,this];rfl
 |t::r,i,hr,hi=>by
  have hlt:i<out.length:=by have:=congrArg List.length hr;rw[length_drop,length_cons]at this;omega
  have hti:out[i]?=some t:=by
   have:(out.drop i)[0]?=some t:=by rw[hr];rfl
   rwa [List.getElem?_drop,Nat.add_zero]at this
  have hr2:out.drop (i+1)=r:=by rw[←drop_drop,hr];rfl
  have ht:=hbd t (mem_of_getElem? hti);have hn:L[t-1]?=some (L[t-1]'(by omega)):=List.getElem?_eq_getElem (by omega);generalize L[t-1]'(by omega)=n at hn;have q:(i:Int)<(out.length:Int):=by omega
  have w1:IntKind.i64.wrap ((i:Int)+1)=((i+1:Nat):Int):=zaq (by omega) (by omega);have w2:IntKind.i64.wrap ((t:Int)-1)=((t-1:Nat):Int):=by rw[zaq (by omega) (by omega)];omega
  obtain⟨y,y1,y2⟩:=Rdb.at1 hv (i:=i) (z:=.int .i64 (t:Int)) (by unfold ints;rw[List.getElem?_map,hti];rfl);obtain⟨sl',hsl,hix⟩:=hst.st.all.ix (i:=t-1) (by omega) (α:=Outc);have hb:=zmT (Tv:=Tv) hn;have hcase:za8 RR (.pointer (some ⟨p,0,none⟩)) x v [.int .i64 (i:Int)] H=if badV L Tv t=true then some (.ret,[.tuple #[.slice none 0 0,.int .i64 71]],H) else some (.next,[.int .i64 ((i+1:Nat):Int)],H):=by
   unfold za8;simp only[qg0];rw[hv.len,lT q,zbA,zaJ,Nat.zero_add,hst.st.l1,y1,y2,zbK,w2,hix,ld7 hsl hn,spl7,zg0,zaF,zac];by_cases h4:n.op=4
   ·rw[decide_eq_true h4,Bool.true_and]at hb;rw[decide_eq_true h4,zaE,ncell6,zaf (q_find hx hxl n.name),zbt,zac];cases hf:fndV n.name Tv with
    |none=>
     rw[hf]at hb;rw[zkH hf,decide_eq_false (by decide),zau,zaN,w1,hb];rfl
    |some w=>
     rw[hf]at hb;obtain⟨j,j1,j2⟩:=zkG (i:=0) hf;rw[Nat.zero_add]at j1;obtain⟨m,_,m1,_,m3⟩:=Rdb.vv hx j2;have hb:badV L Tv t=decide (w.w≠n.w):=hb;rw[j1,decide_eq_true (by omega),zaE,m1,zaJ,m3 _ 1 (.int .i64 w.w) rfl,znM,za5,zac,hb];by_cases e:w.w=n.w
     ·rw[decide_eq_false (fun q=>q e),zau,zaN,w1];rfl
     ·rw[decide_eq_true e,zaE];rfl
   ·rw[decide_eq_false h4]at hb;have hb:badV L Tv t=false:=hb;rw[decide_eq_false h4,zau,zbt,bF (by decide),zaN,w1,hb];rfl
  rw[zai,hcase,any_cons];cases hbt:badV L Tv t with
  |true=>rw[if_pos rfl,Bool.true_or,if_pos rfl];rfl
  |false=>
   simp only[Bool.false_eq_true,if_false,Bool.false_or];exact zqv hL hx hxl hv hol hbd r (i+1) hr2 (by omega)
end
section
variable {B0:Hp}{p f g:Nat}{lim:Int}{L:List Nd}{K:List (ByteArray×Int)}{sl:Value}(hst:StF B0 p lim L K sl f g)(hg:zfO L K)(hL:L.length≤2^40){x:Value}{Tv:List VV}(hx:Rdb B0 3 x Tv.length (zbT Tv))(hxl:Tv.length≤2^40)(hT:∀v∈Tv,v.Ok)
 {S:Nat→Prop}(hcl:∀t,S t→∀c∈kids L t,S c)(hok:∀t n,1≤t→S t→L[t-1]?=some n→n.op≠4→Vok n (wT L 0 n.a).toNat (wT L 0 n.b).toNat (vfn L (zbh Tv) n.a.toNat) (vfn L (zbh Tv) n.b.toNat)){hv vv:Value}
 {w:Value}{ns:List Nat}(hw:RdO B0 1 w ns.length (ints ns))(hnl:ns.length≤2^40)(hns:∀t∈ns,1≤t∧t≤L.length∧S t)
include hst hg hL hx hxl hT hcl hok hw hnl hns
theorem znC:∀(k i:Nat) (H:Hp) (acc:Value) (had:List Bool) (vals:List W64),i+k=ns.length→VO B0 H hv vv had vals [⟨1,acc,((ns.take i).map (vfn L (zbh Tv))).length,wvs ((ns.take i).map (vfn L (zbh Tv)))⟩]→VL L (zbh Tv) had vals →
  ∃H' acc',zas (za7 RR (.pointer (some ⟨p,0,none⟩)) w x hv vv) [acc,.int .i64 (i:Int)] H=some (.exit 2,[acc',.int .i64 (ns.length:Int)],H')∧Made B0 H' acc' (ns.map (vfn L (zbh Tv))).length (wvs (ns.map (vfn L (zbh Tv))))
 |0,i,H,acc,had,vals,hk,ho,hl=>by
  have:i=ns.length:=by omega
  subst this;have hwH:RdO H 1 w ns.length (ints ns):=hw.keep' (fun j hj=>ho.old j (hw.lt hj)) ho.next;rw[take_length]at ho;have o3:=ho.third;refine⟨H,acc,?_,⟨o3.next,o3.old,o3.head,fun j hj=>o3.new _ (mem_cons_self ..) j hj⟩⟩;have:za7 RR (.pointer (some ⟨p,0,none⟩)) w x hv vv [acc,.int .i64 (ns.length:Int)] H=some (.exit 2,[acc,.int .i64 (ns.length:Int)],H):=by unfold za7;simp only[qg0,qg1];rw[hwH.len,lF (Int.lt_irrefl _)]
  rw[zai,this];rfl
 |k+1,i,H,acc,had,vals,hk,ho,hl=>by
  have hlt:i<ns.length:=by omega
  have hi:ns[i]?=some ns[i]:=List.getElem?_eq_getElem hlt;have htk:ns.take (i+1)=ns.take i++[ns[i]]:=by rw[take_add_one,hi];rfl
  generalize ns[i]=t at hi htk;have ht:=hns t (mem_of_getElem? hi);have hwH:RdO H 1 w ns.length (ints ns):=hw.keep' (fun j hj=>ho.old j (hw.lt hj)) ho.next;obtain⟨y,y1,y2⟩:=hwH.at1 (i:=i) (z:=.int .i64 (t:Int)) (by unfold ints;rw[List.getElem?_map,hi];rfl);obtain⟨H1,had1,vals1,e1,o1,l1⟩:=q_value hst hg hL hx hxl hT hcl hok t ht.1 ht.2.1 ht.2.2 H had vals ho hl;obtain⟨acc1,H2,p1,p2⟩:=Own.push o1.third (bytes:=8) (zs:=[.int .u64 0]) (x:=wv (vfn L (zbh Tv) t)) (by decide) (by decide) rfl rfl rfl (by rw[length_map,length_take];omega);have q:(i:Int)<(ns.length:Int):=by omega
  have w1:IntKind.i64.wrap ((i:Int)+1)=((i+1:Nat):Int):=zaq (by omega) (by omega);have o2:VO B0 H2 hv vv had1 vals1 [⟨1,acc1,((ns.take (i+1)).map (vfn L (zbh Tv))).length,wvs ((ns.take (i+1)).map (vfn L (zbh Tv)))⟩]:=by
   have:=p2.third.third;rw[htk,map_append,length_append];have e:wvs ((ns.take i).map (vfn L (zbh Tv))++[t].map (vfn L (zbh Tv)))=wvs ((ns.take i).map (vfn L (zbh Tv)))++zab (wv (vfn L (zbh Tv) t)):=by simp[wvs];rfl
   rw[e];exact this
  obtain⟨H',acc',g1,g2⟩:=znC k (i+1) H2 acc1 had1 vals1 (by omega) o2 l1;refine⟨H',acc',?_,g2⟩;have:za7 RR (.pointer (some ⟨p,0,none⟩)) w x hv vv [acc,.int .i64 (i:Int)] H=some (.next,[acc1,.int .i64 ((i+1:Nat):Int)],H2):=by unfold za7;simp only[qg0,qg1];rw[hwH.len,lT q,y1,y2,zaf e1,p1,zaN,w1]
  rw[zai,this];exact g1
end
section
variable {H0:Hp}{p f g:Nat}{lim:Int}{L:List Nd}{K:List (ByteArray×Int)}{sl:Value}(hst:StF H0 p lim L K sl f g)(hg:zfO L K)(hL:L.length≤2^40)
 {x:Value}{rs:List Int}(hx:RdO H0 1 x rs.length (zbH rs))(hl:rs.length≤2^40){y:Value}{Tv:List VV}(hy:Rdb H0 3 y Tv.length (zbT Tv))(hyl:Tv.length≤2^40)(hT:∀v∈Tv,v.Ok)
include hst hg hL hx hl hy hyl hT
theorem zpP:∃H' v',RR Aw [.pointer (some ⟨p,0,none⟩),x,y] H0=some (.tuple #[v',.int .i64 (zbw L rs Tv).1],H')∧Made H0 H' v' (zbw L rs Tv).2.length (wvs (zbw L rs Tv).2):=by
 have hr:=(zdo E0 rfl (.pointer (some ⟨p,0,none⟩)) x y H0).trans (zdC _ _ _ _ _);have hd:=hg.dag;rw[zpH A0 _ ⟨Cr,by kernel_rfl⟩,zac,zau,zaf (q_all hst hx hl),za9,zac]at hr;unfold zbw;cases hall:rs.all (isT L) with
 |false=>
  rw[hall,Bool.not_false,zaE]at hr;rw[if_neg (by decide)];exact⟨H0,_,hr,Made.nil' (Nat.le_refl _) fun _ _=>rfl⟩
 |true=>
  rw[hall,Bool.not_true,zau]at hr;rw[if_pos rfl];obtain⟨ns,n1,hb⟩:=nats rs hall;have ens:rs.map Int.toNat=ns:=by rw[n1,ziN]
  have hlen:rs.length=ns.length:=by rw[n1,length_map]
  rw[ens];obtain⟨H1,e1,f1⟩:=q_told hy hyl hT;rw[zaf e1,za5,zac]at hr;unfold zg6;by_cases h0:zg7 Tv≠0
  ·rw[decide_eq_true h0,zaE]at hr;rw[if_pos h0];exact⟨H1,_,hr,Made.nil' f1.next fun j hj=>f1.same j hj fun q=>q⟩
  ·rw[if_neg h0];have h0:zg7 Tv=0:=Decidable.not_not.1 h0;rw[decide_eq_false (fun q=>q h0),zau]at hr;have hst1:StF H1 p lim L K sl f g:=hst.keep (fun i hi=>f1.same i (hst.foot_lt hi) fun q=>q) f1.next;have hx1:=hx.keep f1 fun _ _ q=>q;obtain⟨H2,v2,e2,o2⟩:=Go.AM.c14 hst1 hd (by omega) hx1 (by omega);have eo:zei L rs=(0,posts L ns []):=by unfold zei;rw[hall,if_pos rfl,ens]
   rw[eo]at e2 o2;have o2:zpt H1 H2 v2 (posts L ns []):=o2;obtain⟨p1,p2,p3,p4⟩:=zoG hg hb;have hpl:(posts L ns []).length≤L.length:=Told.len ((⟨nodup_nil,fun x h=>by cases h⟩:Told L.length []).posts hd hb);generalize hout:posts L ns []=out at *;have f12:Frm (fun _=>False) H1 H2:=⟨o2.next,fun j hj _=>o2.old j hj⟩
   have f02:Frm (fun _=>False) H0 H2:=f1.trans f12 fun j q=>q.elim;have hst2:StF H2 p lim L K sl f g:=hst.keep (fun i hi=>f02.same i (hst.foot_lt hi) fun q=>q) f02.next;have hy2:=hy.keep f02 fun _ _ q=>q;have hck:=zqv hst2 (by omega) hy2 hyl o2.vec.rd (by omega) p2 out 0 rfl (Nat.zero_le _);have hck:zas (za8 RR (.pointer (some ⟨p,0,none⟩)) y v2) [.int .i64 0] H2=_:=hck;rw[zaf e2,x01,hck]at hr;cases hbad:out.any (badV L Tv) with
   |true=>
    rw[hbad,if_pos rfl]at hr;rw[if_pos rfl];exact⟨H2,_,hr,Made.nil' f02.next fun j hj=>f02.same j hj fun q=>q⟩
   |false=>
    rw[hbad,if_neg (by decide),zal,za0,zaz]at hr;rw[if_neg (by decide)]
    have hgood:∀u∈out,badV L Tv u=false:=fun u hu=>Bool.eq_false_iff.2 (fun q=>by
     have:=any_eq_false.1 hbad u hu
     exact this q)
    have hS:∀t n,1≤t→t∈out→L[t-1]?=some n→n.op≠4→Vok n (wT L 0 n.a).toNat (wT L 0 n.b).toNat (vfn L (zbh Tv) n.a.toNat) (vfn L (zbh Tv) n.b.toNat):=fun t n h1 hs hn h4=>
     vok_in hg (S:=(· ∈ out)) (zqu p3) (fun u m hu1 hu2 hum h4=>tell_le hT h0 hum h4 (hgood u hu2)) h1 hs hn h4
    obtain⟨hv,H3,t1,t2⟩:=(Own.nil H2).make (sz:=1) (bytes:=1) (zs:=[.bool false]) rfl (n:=L.length+1) (by omega);have hst3:=Own.st t2 hst2;obtain⟨vv,H4,d1,d2⟩:=t2.make (sz:=1) (bytes:=8) (zs:=[.int .u64 0]) rfl (n:=L.length+1) (by omega);have wl:IntKind.i64.wrap ((L.length:Int)+1)=((L.length+1:Nat):Int):=by rw[zaq (by omega) (by omega)];omega
    have r1:repl (L.length+1) [Value.bool false]=(List.replicate (L.length+1) false).map .bool:=zgx _;have r2:repl (L.length+1) [Value.int .u64 0]=(List.replicate (L.length+1) (0#64)).map wv:=by
     have key:∀n:Nat,repl n [Value.int .u64 0]=(List.replicate n (0#64)).map wv:=fun n=>by
      induction n with
      |zero=>rfl
      |succ n ih=>rw[replicate_succ,map_cons,←ih];rfl
     exact key _
    rw[r1,r2]at d2;have d3:VO H2 H4 hv vv (List.replicate (L.length+1) false) (List.replicate (L.length+1) (0#64)) [⟨1,.slice none 0 0,(([]:List Nat).map (vfn L (zbh Tv))).length,wvs (([]:List Nat).map (vfn L (zbh Tv)))⟩]:=by unfold VO;rw[length_replicate,length_replicate];exact(d2.addNil 1).third.third.swap
    have hVL:VL L (zbh Tv) (List.replicate (L.length+1) false) (List.replicate (L.length+1) (0#64)):=⟨by simp,by simp,fun t ht=>by
     rw[List.getElem?_replicate]at ht;split at ht
     ·cases ht
     ·cases ht⟩
    have hxn:RdO H2 1 x ns.length (ints ns):=by have:=hx.keep f02 fun _ _ q=>q;rw[zcl,←n1,←hlen];exact this
    obtain⟨H5,acc,l1,l2⟩:=znC hst2 hg hL hy2 hyl hT (zqu p3) hS hxn (by omega) (fun t ht=>⟨(hb t ht).1,(hb t ht).2,p4 t ht⟩) ns.length 0 H4 (.slice none 0 0) _ _ (Nat.zero_add _) d3 hVL;have l1:zas (za7 RR (.pointer (some ⟨p,0,none⟩)) x y hv vv) [.slice none 0 0,.int .i64 0] H4=_:=l1;rw[zbA,zaJ,Nat.zero_add,hst2.st.l1,hst2.st.all.len,zaN,wl,t1,zbA,zaJ,Nat.zero_add,hst3.st.l1,hst3.st.all.len,zaN,wl,d1,l1,zal,za0,zaz]at hr;exact⟨H5,acc,hr,Nat.le_trans f02.next l2.next,fun j hj=>by rw[l2.old j (Nat.lt_of_lt_of_le hj f02.next),f02.same j hj fun q=>q],l2.vec,fun j hj=>Nat.le_trans f02.next (l2.new j hj)⟩
end
theorem zlA(x y:Value)(H:Hp):RR Ax [.pointer none,x,y] H=some (.tuple #[.slice none 0 0,.int .i64 2],H):=by refine((zhR E0 rfl (.pointer none) x y H).trans (zii _ _ _ _ _)).trans ?_;rw[zjW An und23,zac,zaE]
theorem zko(x y:Value)(H:Hp):RR Aw [.pointer none,x,y] H=some (.tuple #[.slice none 0 0,.int .i64 2],H):=by refine((zdo E0 rfl (.pointer none) x y H).trans (zdC _ _ _ _ _)).trans ?_;rw[zjW A0 und24,zac,zaE]
theorem nil_value(t:Int)(y:Value)(H:Hp):∃H',RR AC [.pointer none,.int .i64 t,y] H=some (.tuple #[.int .u64 0,.int .i64 2],H')∧Frm (fun _=>False) H H':=by have hr:=zi0 E0 rfl (.pointer none) (.int .i64 t) y H;unfold zf8 at hr;have hb:∀(k:Value→Hp→Option (Value×Hp)),zam 1 [.int .i64 0] 1 [(0,.int .i64 t)] H k=k (.slice (some ⟨H.next,0,some 1⟩) 1 1) (H.new (.cells [.int .i64 t] true)):=fun k=>rfl;rw[hb,zaf (zlA _ _ _),x01,za5,bT (by decide)]at hr;exact⟨_,hr,zcv _ _ _⟩
theorem zlh{ps pr w own x:Value}{rs:List Int}{Tv:List VV}{B:Hp}(hw:Rdb B 1 w rs.length (zbH rs))(ho:Rdb B 3 own Tv.length (zbT Tv))(hx:Rdb B 3 x Tv.length (zbT Tv))(hl:rs.length≤2^40)(z:Int→Int×List W64)(z0:∀t,((z t).1=0∧∃a,(z t).2=[a])∨((z t).1≠0∧(z t).2=[]))
  (hc:∀H,Frm (fun _=>False) B H→∀t,Rdb H 3 own Tv.length (zbT Tv)→∃H',RR AC [ps,.int .i64 t,own] H=some (.tuple #[wv ((z t).2.headD 0#64),.int .i64 (z t).1],H')∧Frm (fun _=>False) H H')
  (hq:∀H,Frm (fun _=>False) B H→∀t v,RdO H 1 v [t].length (zbH [t])→Rdb H 3 x Tv.length (zbT Tv)→∃H' v',RR Aw [pr,v,x] H=some (.tuple #[v',.int .i64 (z t).1],H')∧Made H H' v' (z t).2.length (wvs (z t).2)) :
  ∀(k i:Nat) (H:Hp),i+k=rs.length→Frm (fun _=>False) B H→∃H',zas (zaR RR x ps pr own w) [.int .i64 (i:Int)] H=some (.exit 0,[.int .i64 (rs.length:Int)],H')
 |0,i,H,hk,h=>by
  have:i=rs.length:=by omega
  subst this;have hwH:=hw.keep h fun _ _ q=>q;refine⟨H,?_⟩;have:zaR RR x ps pr own w [.int .i64 (rs.length:Int)] H=some (.exit 0,[.int .i64 (rs.length:Int)],H):=by unfold zaR;simp only[qg0];rw[hwH.len,lF (Int.lt_irrefl _)]
  rw[zai,this];rfl
 |k+1,i,H,hk,h=>by
  have hlt:i<rs.length:=by omega
  have hi:rs[i]?=some rs[i]:=List.getElem?_eq_getElem hlt;generalize rs[i]=t at hi;have hwH:=hw.keep h fun _ _ q=>q;have tr:∀{A B C:Hp},Frm (fun _=>False) A B→Frm (fun _=>False) B C→Frm (fun _=>False) A C:=fun a b=>a.trans b fun j q=>q.elim;obtain⟨H1,e1,f1⟩:=hc H h t (ho.keep h fun _ _ q=>q);have h1:=tr h f1;have hwH1:=hw.keep h1 fun _ _ q=>q;obtain⟨v1,a1,a2⟩:=Rdb.one hwH1 (zil hi);have a2:RdO H1 1 v1 [t].length (zbH [t]):=a2;obtain⟨H2,v2,e2,m2⟩:=hq H1 h1 t v1 a2 (hx.keep h1 fun _ _ q=>q);have f2:Frm (fun _=>False) H1 H2:=⟨m2.next,fun j hj _=>m2.old j hj⟩
  obtain⟨y,y1,y2⟩:=hwH.int hi;have w1:IntKind.i64.wrap ((i:Int)+1)=((i+1:Nat):Int):=zaq (by omega) (by omega);have q:(i:Int)<(rs.length:Int):=by omega
  have e0:∀x:Int,¬(x≠x):=fun x q=>q rfl;obtain⟨H',g1⟩:=zlh hw ho hx hl z z0 hc hq k (i+1) H2 (by omega) (tr h1 f2);refine⟨H',?_⟩;have:zaR RR x ps pr own w [.int .i64 (i:Int)] H=some (.next,[.int .i64 ((i+1:Nat):Int)],H2):=by
   unfold zaR;simp only[qg0];rw[hwH.len,lT q,y1,y2,zaf e1,x01,zaN,w1,a1,zaf e2,x01,zaf (c_no _ _),za5,bF (e0 _),zaF,zac];rcases z0 t with⟨z1,a,z2⟩|⟨z1,z2⟩
   ·rw[z2]at m2;obtain⟨b,b1,b2⟩:=Rdb.at1 m2.vec.rd (i:=0) (z:=.int .u64 (a.toNat:Int)) rfl;have b1':∀(k:Value→Option Outc),pIdx 1 v2 (.int .i64 0) k=_:=fun k=>b1 _ .i64 k;rw[z2,decide_eq_true z1,zaE,b1',b2];show pBin PP .neq Ab (.int .u64 (a.toNat:Int)) (.int .u64 (a.toNat:Int)) _=_;rw[za5,bF (e0 _),za5,bF (fun q=>q z1),zaN,w1]
   ·rw[z2,decide_eq_false z1,zau,za5,bT z1];show pBin PP .neq Ab (.int .u64 0) (.int .u64 0) _=_;rw[za5,bF (e0 _),zaN,w1]
  rw[zai,this];exact g1
theorem values_01(L:List Nd)(t:Int)(Tv:List VV):((zbw L [t] Tv).1=0∧∃a,(zbw L [t] Tv).2=[a])∨((zbw L [t] Tv).1≠0∧(zbw L [t] Tv).2=[]):=by
 unfold zbw;split
 ·unfold zg6;split
  ·rename_i h;exact .inr ⟨h,rfl⟩
  ·split
   ·exact .inr ⟨by show (71:Int)≠0;decide,rfl⟩
   ·exact .inl ⟨rfl,_,rfl⟩
 ·exact .inr ⟨by show (70:Int)≠0;decide,rfl⟩
theorem c_own{H:Hp}{x:Value}{Tv:List VV}(hx:Rdb H 3 x Tv.length (zbT Tv))(hb:Tv.length≤2^40) :
  ∃w H',(∀(α:Type) (k:Value→Hp→Option α),(zam 3 [.string ⟨#[]⟩,.int .i64 0,.int .u64 0] 0 [] H fun v17 H18=>zaH 3 32 v17 x H18 k)=k w H')∧MadeN 3 H H' w Tv.length (zbT Tv):=by
 obtain⟨e1,e2⟩:=Vec.empty H 3 [.string ⟨#[]⟩,.int .i64 0,.int .u64 0];have f1:Frm (fun _=>False) H (H.new (.cells [] true)):=zcv _ _ _;obtain⟨v2,H2,a1,a2,a3,a4⟩:=e2.app (bytes:=32) (hx.keep f1 fun _ _ q=>q) (valsC_one Tv) (by omega);have n1:(H.new (AObj.cells [] true)).next=H.next+1:=rfl;have id1:∀j,Id (Value.slice (some ⟨H.next,0,some 3⟩) 0 0) j→j=H.next:=fun j hj=>by cases hj;rfl
 rw[Nat.zero_add,nil_append]at a2;refine⟨v2,H2,fun α k=>by rw[e1,a1],Nat.le_trans f1.next a3.next,fun j hj=>?_,a2,fun j hj=>?_⟩
 ·rw[a3.same j (by omega) (fun q=>by have:=id1 j q;omega),f1.same j hj fun q=>q]
 ·rcases a4 j hj with q|q
  ·rw[id1 j q];exact Nat.le_refl _
  ·omega
theorem run8w(l:List UInt8)(hl:l.length≤2^37){x y:Value}{os:List Int}{Tv:List VV}{H:Hp}(hx:Rdb H 1 x os.length (zbH os))(hos:os.length≤2^38)(hy:Rdb H 3 y Tv.length (zbT Tv))(hyl:Tv.length≤2^40)(hT:∀v∈Tv,v.Ok)(hL:Laid H):∃H',RR Bu [str l,x,y] H=some (.bool true,H'):=by
 have hr:=ze2 E0 rfl (str l) x y H;rw[ze4]at hr;have tr:∀{A B C:Hp},Frm (fun _=>False) A B→Frm (fun _=>False) B C→Frm (fun _=>False) A C:=fun a b=>a.trans b fun j q=>q.elim;have e0:∀x:Int,¬(x≠x):=fun x q=>q rfl;have hsto:=c_stores hL l hl;have main:∀(H1:Hp) (ps pr rv:Value) (q:List Int) (e:Int) (vs:List W64) (z:Int→Int×List W64),RR A4 [str l,.int .i64 0] H=some (.tuple #[ps,pr,rv,.bool true],H1)→Frm (fun _=>False) H H1→Rdb H1 1 rv q.length (zbH q)→q.length≤2^38 →
   (∀(H2:Hp) (w own:Value),Frm (fun _=>False) H1 H2→Rdb H2 1 w (q++os).length (zbH (q++os))→Rdb H2 3 own Tv.length (zbT Tv)→∃H' v',RR Ax [ps,w,own] H2=some (.tuple #[v',.int .i64 e],H')∧Made H2 H' v' vs.length (wvs vs)) →
   (∀(H2:Hp) (w:Value),Frm (fun _=>False) H1 H2→Rdb H2 1 w (q++os).length (zbH (q++os))→Rdb H2 3 y Tv.length (zbT Tv)→∃H' v',RR Aw [pr,w,y] H2=some (.tuple #[v',.int .i64 e],H')∧Made H2 H' v' vs.length (wvs vs))→vs.length≤2^60 →
   (∀t,((z t).1=0∧∃a,(z t).2=[a])∨((z t).1≠0∧(z t).2=[])) →
   (∀H2,Frm (fun _=>False) H1 H2→∀t own,Rdb H2 3 own Tv.length (zbT Tv)→∃H',RR AC [ps,.int .i64 t,own] H2=some (.tuple #[wv ((z t).2.headD 0#64),.int .i64 (z t).1],H')∧Frm (fun _=>False) H2 H') →
   (∀H2,Frm (fun _=>False) H1 H2→∀t v,RdO H2 1 v [t].length (zbH [t])→Rdb H2 3 y Tv.length (zbT Tv)→∃H' v',RR Aw [pr,v,y] H2=some (.tuple #[v',.int .i64 (z t).1],H')∧Made H2 H' v' (z t).2.length (wvs (z t).2)) →
   ∃H',RR Bu [str l,x,y] H=some (.bool true,H'):=fun H1 ps pr rv q e vs z e1 f1 hv hql hc hq hvl z0 zc zq=>by
  obtain⟨H2,e2,f2⟩:=c_live (hL.keep f1 fun j q=>q.elim);have f02:=tr f1 f2;obtain⟨own,H3,e3,m3⟩:=c_own (hy.keep f02 fun _ _ q=>q) hyl;have f3:=tr f2 m3.frm;have hv3:=hv.keep f3 fun _ _ q=>q;have hx3:=hx.keep (tr f1 f3) fun _ _ q=>q;obtain⟨w,H4,e4,m4⟩:=c_roots hv3 hx3 (by omega);have f4:=tr f3 m4.frm;have ho4:=m3.vec.rd.keep m4.frm fun _ _ q=>q;obtain⟨H5,v5,e5,m5⟩:=hc H4 w own f4 m4.vec.rd ho4;have g5:Frm (fun _=>False) H4 H5:=⟨m5.next,fun j hj _=>m5.old j hj⟩
  have f5:=tr f4 g5;have hw5:=m4.vec.rd.keep g5 fun _ _ q=>q;obtain⟨H6,v6,e6,m6⟩:=hq H5 w f5 hw5 (hy.keep (tr f1 f5) fun _ _ q=>q);have g6:Frm (fun _=>False) H5 H6:=⟨m6.next,fun j hj _=>m6.old j hj⟩
  have f6:=tr f5 g6;have hsame:=zkR (m5.vec.rd.keep g6 fun _ _ q=>q) m6.vec.rd hvl;have ho6:=ho4.keep (tr g5 g6) fun _ _ q=>q;have hy6:=hy.keep (tr f1 f6) fun _ _ q=>q;have hsv:=zrh ho6 hy6 (by omega);have hw6:=hw5.keep g6 fun _ _ q=>q;obtain⟨H7,e7⟩:=zlh hw6 ho6 hy6 (by rw[length_append];omega) z z0 (fun H h t ho=>zc H (tr f6 h) t own ho) (fun H h t v hv hy=>zq H (tr f6 h) t v hv hy) _ 0 H6 (Nat.zero_add _) (Frm.refl _ _);have e7:zas (zaR RR y ps pr own w) [.int .i64 0] H6=_:=e7;rw[zaf e1]at hr;simp only[(s_t4 _ _ _ _ _).1,(s_t4 _ _ _ _ _).2.1,(s_t4 _ _ _ _ _).2.2.1,(s_t4 _ _ _ _ _).2.2.2]at hr;rw[za9,zac,Bool.not_true,zau,zaf e2,za9,zac,Bool.not_true,zau,zal,zaA,e3,e4,zaf e5,x01,zaf e6,x01,zaf (c_no _ _),za5,bF (e0 _),zaf hsame,za9,zac,Bool.not_true,zau,zaf hsv,za9,zac,Bool.not_true,zau,zal,zaA,e7,zal,za0,zaz]at hr;exact⟨H7,hr⟩
 cases hr0:zeu 0 (zbB l) 0 [] [] [] with
 |bad ln e=>
  rw[hr0]at hsto;obtain⟨H1,e1,f1⟩:=hsto;exact main H1 _ _ _ [] 2 [] (fun _=>(2,[])) e1 f1 (Vec.nil H1 1).rd (by decide) (fun H2 w own f hw ho=>⟨H2,_,zlA _ _ H2,Made.nil' (Nat.le_refl _) fun _ _=>rfl⟩) (fun H2 w f hw ho=>⟨H2,_,zko _ _ H2,Made.nil' (Nat.le_refl _) fun _ _=>rfl⟩) (by decide)
   (fun t=>.inr ⟨by show (2:Int)≠0;decide,rfl⟩) (fun H2 f t own ho=>nil_value t own H2) (fun H2 f t v hv hy=>⟨H2,_,zko _ _ H2,Made.nil' (Nat.le_refl _) fun _ _=>rfl⟩)
 |good L K q=>
  rw[hr0]at hsto;obtain⟨H1,st,f,g,sl,st',f',g',sl',rv,e1,f1,s1,s2,hv⟩:=hsto;obtain⟨l1,l2⟩:=load_bd hr0;obtain⟨hg,hqb⟩:=znQ hr0;have k1:∀{H2:Hp},Frm (fun _=>False) H1 H2→StF H2 st 0 L K sl f g:=fun k=>s1.keep (fun j hj=>k.same j (s1.foot_lt hj) fun q=>q) k.next;have k2:∀{H2:Hp},Frm (fun _=>False) H1 H2→StF H2 st' 0 L K sl' f' g':=fun k=>s2.keep (fun j hj=>k.same j (s2.foot_lt hj) fun q=>q) k.next;have hrl:(q++os).length≤2^40:=by rw[length_append];omega
  have hvl:(zbw L (q++os) Tv).2.length≤2^60:=by
   unfold zbw zg6;split
   ·split
    ·simp
    ·split
     ·simp
     ·show (List.map _ _).length≤_;rw[length_map,length_map];omega
   ·simp
  exact main H1 _ _ rv q (zbw L (q++os) Tv).1 (zbw L (q++os) Tv).2 (fun t=>zbw L [t] Tv) e1 f1 hv.rd (by omega)
   (fun H2 w own k hw ho=>zmR (k1 k) hg (by omega) hw.o hrl ho hyl hT) (fun H2 w k hw ho=>zpP (k2 k) hg (by omega) hw.o hrl ho hyl hT) hvl (fun t=>values_01 L t Tv)
   (fun H2 k t own ho=>by
    obtain⟨H',a,b,c⟩:=c_value (k1 k) hg (by omega) (rs:=[]) (x:=.slice none 0 0) (.inl ⟨rfl,rfl,rfl⟩) (by decide) ho hyl hT (t:=t)
    exact⟨H',a,b,fun j hj _=>c j hj⟩)
   (fun H2 k t v hv ho=>zpP (k2 k) hg (by omega) hv (by show 1≤_;decide) ho hyl hT)
end Go.AM.N14
namespace Go.AM
open List Go Go.ChangeShapes Go.WideShapes Go.ChangeAt Go.RowKit
theorem flat3:flat PP 1 Aa=some [.int .i64]:=by kernel_rfl
theorem intDec(l:List Value)(h:OkL [.int .i64] l):∃o:Int,[Value.int .i64 o]=l∧(IntKind.i64.min≤o∧o≤IntKind.i64.max):=by
 obtain⟨hl,hh⟩:=h;obtain⟨v,l,rfl,hl2⟩:=consL hl;obtain⟨_,e,n,rfl,p,q⟩:=hh 0 _ rfl;cases e;have:l=[]:=by cases l with|nil=>rfl|cons a t=>cases hl2
 subst this;exact⟨n,rfl,p,q⟩
theorem ints_arg{HH:Type}{enc:TypeId×Value→HH}{W:World}{H:Hp}{β:Bt}(hR:Rel PP W H β)(hno:∀i o,H.get i=some o→o.own=false){b0:Nat}{v':Value}{dw:DataW HH}{ps:List MemPlace}
  (hval:Value.okWide PP W .any b0 AQ v') (hd:DataW.Trod enc PP W 0 (fun _=>true) true AQ v' dw ps) :
  ∃(v:Value) (H':Hp) (β':Bt) (os:List Int),Rel PP W H' β'∧(∀i o,H'.get i=some o→o.own=false)∧β.le β'∧VRel β' v v'∧Rdb H' 1 v os.length (zbH os)∧(∀o∈os,IntKind.i64.min≤o∧o≤IntKind.i64.max)∧os.length≤Go.Proofs.YtcbmccpkhagckaaGreatDoor.Rows.uptoBulk dw∧Frm (fun _=>False) H H':=by
 obtain⟨v,H',β',g1,g2,g3,g4,g5⟩:=zog (P:=PP) (t:=AQ) (e:=Aa) (d:=1) (ks:=[.int .i64]) (by kernel_rfl) flat3 (by kernel_rfl) (by decide) hR hno hval hd;rcases g5 with⟨rfl,rfl,rfl⟩|⟨L,es,sp,rfl,rfl,h1,rfl,h2⟩
 ·exact⟨_,_,β',[],g1,g2,g3,g4,.inl ⟨rfl,rfl,rfl⟩,fun o h=>(by cases h),by simp,Frm.refl _ _⟩
 ·obtain⟨os,h3,h4⟩:=decL (cells:=fun (t:Int)=>[Value.int .i64 t]) intDec L h1;have hfl:L.flatten=zbH os:=by
   rw[h3,←flatMap_def];clear h3 h1 g1 g2 g3 g4 h2 h4;induction os with
   |nil=>rfl
   |cons a t ih=>rw[flatMap_cons,ih];rfl
  have hll:L.length=os.length:=by rw[h3,length_map]
  refine⟨_,_,β',os,g1,g2,g3,g4,.inr ⟨H.next,L.length,[],false,?_,by omega,?_,?_,?_⟩,h4,?_,zcv _ _ _⟩
  ·rw[hll];rfl
  ·rw[get_new,if_pos rfl,hfl,append_nil]
  ·rw[intsI_len,Nat.mul_one]
  ·show H.next<H.next+1;omega
  ·have:=zmS es;simp only[Go.Proofs.YtcbmccpkhagckaaGreatDoor.Rows.uptoBulk];omega
end Go.AM
namespace Go.AM.N14
open List Go Go.AM Go.ChangeShapes Go.WideShapes Go.ChangeAt Go.RowKit
theorem flatV:flat PP 2 Ap=some [.str,.int .i64,.int .u64]:=by kernel_rfl
theorem vvDec(l:List Value)(h:OkL [.str,.int .i64,.int .u64] l):∃o:VV,o.cells=l∧o.Ok:=by
 obtain⟨hl,hh⟩:=h;obtain⟨a,l,rfl,hl2⟩:=consL hl;obtain⟨b,l,rfl,hl3⟩:=consL hl2;obtain⟨c,l,rfl,hl4⟩:=consL hl3;have:l=[]:=by cases l with|nil=>rfl|cons a t=>cases hl4
 subst this;obtain⟨_,e,n0,rfl⟩:=hh 0 _ rfl;cases e;obtain⟨_,e,n1,rfl,p1,q1⟩:=hh 1 _ rfl;cases e;obtain⟨_,e,n2,rfl,p2,q2⟩:=hh 2 _ rfl;cases e;have e1:IntKind.u64.min=0:=rfl;have e2:IntKind.u64.max=18446744073709551615:=rfl;exact⟨⟨n0,n1,n2⟩,rfl,by show 0≤n2;omega,by show n2<18446744073709551616;omega⟩
theorem vals_arg{HH:Type}{enc:TypeId×Value→HH}{W:World}{H:Hp}{β:Bt}(hR:Rel PP W H β)(hno:∀i o,H.get i=some o→o.own=false){b0:Nat}{v':Value}{dw:DataW HH}{ps:List MemPlace}
  (hval:Value.okWide PP W .any b0 Bn v') (hd:DataW.Trod enc PP W 0 (fun _=>true) true Bn v' dw ps) :
  ∃(v:Value) (H':Hp) (β':Bt) (os:List VV),Rel PP W H' β'∧(∀i o,H'.get i=some o→o.own=false)∧β.le β'∧VRel β' v v'∧Rdb H' 3 v os.length (zbT os)∧(∀o∈os,o.Ok)∧os.length≤Go.Proofs.YtcbmccpkhagckaaGreatDoor.Rows.uptoBulk dw∧Frm (fun _=>False) H H':=by
 obtain⟨v,H',β',g1,g2,g3,g4,g5⟩:=zog (P:=PP) (t:=Bn) (e:=Ap) (d:=2) (ks:=[.str,.int .i64,.int .u64]) (by kernel_rfl) flatV (by kernel_rfl) (by decide) hR hno hval hd;rcases g5 with⟨rfl,rfl,rfl⟩|⟨L,es,sp,rfl,rfl,h1,rfl,h2⟩
 ·exact⟨_,_,β',[],g1,g2,g3,g4,.inl ⟨rfl,rfl,rfl⟩,fun o h=>(by cases h),by simp,Frm.refl _ _⟩
 ·obtain⟨os,h3,h4⟩:=decL (cells:=VV.cells) vvDec L h1;have hfl:L.flatten=zbT os:=by rw[h3,←flatMap_def];rfl
  have hll:L.length=os.length:=by rw[h3,length_map]
  refine⟨_,_,β',os,g1,g2,g3,g4,.inr ⟨H.next,L.length,[],false,?_,by omega,?_,?_,?_⟩,h4,?_,zcv _ _ _⟩
  ·rw[hll];rfl
  ·rw[get_new,if_pos rfl,hfl,append_nil]
  ·rw[zm3]
  ·show H.next<H.next+1;omega
  ·have:=zmS es;simp only[Go.Proofs.YtcbmccpkhagckaaGreatDoor.Rows.uptoBulk];omega
end Go.AM.N14
