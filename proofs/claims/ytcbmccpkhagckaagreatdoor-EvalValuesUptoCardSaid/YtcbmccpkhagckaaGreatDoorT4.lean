/- Part of the proof of EvalValuesUptoCardSaid: see the last file.  -/
import Derived.KernelRfl
import Derived.Lib.ItoaLen
import Derived.Lib.Strings
import Derived.Test.YtcbmccpkhagckaaGreatDoorCards
import Derived.Test.YtcbmccpkhagckaaGreatDoorTie
import Derived.WalkKit
import Derived.ProofKit
import Derived.OpenShut
import Derived.Deep.DeepHandedRow
import Derived.Deep.DeepWitnessRowRef
import Derived.Stop.LaidErr
import Derived.Lib.LaidTab
import Derived.Lib.LaidU8
import Derived.Lib.TrailingZeros
import Derived.Lib.LaidIn
import Derived.Test.YtcbmccpkhagckaaGreatDoorT1
import Derived.Test.YtcbmccpkhagckaaGreatDoorT2
import Derived.Test.YtcbmccpkhagckaaGreatDoorT3
set_option linter.unusedSimpArgs false
set_option linter.unusedVariables false
set_option linter.unusedSectionVars false
set_option maxRecDepth 100000
namespace Go.AM
open List Go
def zbH(l:List Int):List Value:=l.map fun (t:Int)=>Value.int .i64 t
theorem intsI_len(l:List Int):(zbH l).length=l.length:=by simp[zbH]
theorem znV(l:List Int):(zbH l).all one=true:=by simp[zbH,one]
theorem zil{l:List Int}{i:Nat}{t:Int}(h:l[i]?=some t):(zbH l)[i]?=some (.int .i64 t):=by simp[zbH,h]
theorem Rdb.int{H:Hp}{v:Value}{l:List Int}(h:Rdb H 1 v l.length (zbH l)){i:Nat}{t:Int}(ht:l[i]?=some t) :
  ∃y,(∀(α:Type) (kd:IntKind) (k:Value→Option α),pIdx 1 v (.int kd (i:Int)) k=k (.pointer (some ⟨y,i*1,none⟩)))∧(∀(α:Type) (k:Value→Option α),zak 1 false H (.pointer (some ⟨y,i*1,none⟩)) k=k (.int .i64 t)):=by
 obtain⟨y,hy,⟨rest,own,hg⟩,hix⟩:=h.ix (List.getElem?_eq_some_iff.1 ht).1;exact⟨y,hix,fun α k=>zf9 hg (by rw[Nat.mul_one];exact zil ht) k⟩
def RdO(H:Hp)(sz:Nat)(v:Value)(n:Nat)(cs:List Value):Prop:=
 (n=0∧cs=[]∧v=.slice none 0 0)∨∃y c pre rest own,v=.slice (some ⟨y,pre.length,some sz⟩) n c∧n≤c∧H.get y=some (.cells (pre++(cs++rest)) own)∧cs.length=n*sz∧y<H.next
theorem Rdb.o{H:Hp}{sz:Nat}{v:Value}{n:Nat}{cs:List Value}(h:Rdb H sz v n cs):RdO H sz v n cs:=by
 rcases h with e|⟨y,c,rest,own,rfl,h1,h2,h3,h4⟩
 ·exact .inl e
 ·exact .inr ⟨y,c,[],rest,own,rfl,h1,h2,h3,h4⟩
theorem RdO.len{H:Hp}{sz:Nat}{v:Value}{n:Nat}{cs:List Value}(h:RdO H sz v n cs){α:Type}(H':Hp)(k:Value→Option α):pLen .sl v H' k=k (.int .i64 n):=by rcases h with⟨rfl,_,rfl⟩|⟨y,c,pre,rest,own,rfl,_⟩<;>rfl
theorem RdO.lt{H:Hp}{sz:Nat}{v:Value}{n:Nat}{cs:List Value}(h:RdO H sz v n cs){j:Nat}(hj:Id v j):j<H.next:=by
 rcases h with⟨_,_,rfl⟩|⟨y,c,pre,rest,own,rfl,_,_,_,h⟩
 ·cases hj
 ·cases hj;exact h
theorem RdO.keep'{H H':Hp}{sz:Nat}{v:Value}{n:Nat}{cs:List Value}(h:RdO H sz v n cs)(hg:∀j,Id v j→H'.get j=H.get j)(hn:H.next≤H'.next):RdO H' sz v n cs:=by
 rcases h with e|⟨y,c,pre,rest,own,rfl,h1,h2,h3,h4⟩
 ·exact .inl e
 ·exact .inr ⟨y,c,pre,rest,own,rfl,h1,by rw[hg y rfl];exact h2,h3,Nat.lt_of_lt_of_le h4 hn⟩
theorem RdO.keep{M:Nat→Prop}{H H':Hp}{sz:Nat}{v:Value}{n:Nat}{cs:List Value}(h:RdO H sz v n cs)(k:Frm M H H')(hm:∀j,Id v j→¬M j):RdO H' sz v n cs:=
 h.keep' (fun j hj=>k.same j (h.lt hj) (hm j hj)) k.next
theorem RdO.at1{H:Hp}{v:Value}{n:Nat}{cs:List Value}(h:RdO H 1 v n cs){i:Nat}{z:Value}(hz:cs[i]?=some z) :
  ∃y,(∀(α:Type) (kd:IntKind) (k:Value→Option α),pIdx 1 v (.int kd (i:Int)) k=k y)∧(∀(α:Type) (k:Value→Option α),zak 1 false H y k=k z):=by
 have hlt:=(List.getElem?_eq_some_iff.1 hz).1;rcases h with⟨_,rfl,_⟩|⟨y,c,pre,rest,own,rfl,h1,h2,h3,h4⟩
 ·cases hz
 ·rw[Nat.mul_one]at h3;refine⟨.pointer (some ⟨y,pre.length+i*1,none⟩),fun α kd k=>?_,fun α k=>?_⟩
  ·unfold pIdx idxV;have:(1:Nat)=1∧(0:Int)≤(i:Int)∧(i:Int)<(n:Int):=⟨rfl,by omega,by omega⟩
   simp only[this,and_self,if_true,Int.toNat_natCast]
  ·refine zbO h2 (pre.length+i*1) z ?_ k;rw[Nat.mul_one,List.getElem?_append_right (by omega),Nat.add_sub_cancel_left,List.getElem?_append_left hlt,hz]
theorem RdO.int{H:Hp}{v:Value}{l:List Int}(h:RdO H 1 v l.length (zbH l)){i:Nat}{t:Int}(ht:l[i]?=some t) :
  ∃y,(∀(α:Type) (kd:IntKind) (k:Value→Option α),pIdx 1 v (.int kd (i:Int)) k=k y)∧(∀(α:Type) (k:Value→Option α),zak 1 false H y k=k (.int .i64 t)):=h.at1 (zil ht)
theorem Rdb.one{H:Hp}{v:Value}{n:Nat}{cs:List Value}(h:Rdb H 1 v n cs){i:Nat}{z:Value}(hz:cs[i]?=some z) :
  ∃v',(∀(α:Type) (k:Value→Option α),zcf 1 v (some (.int .i64 (i:Int))) (some (.int .i64 ((i+1:Nat):Int))) k=k v')∧RdO H 1 v' 1 [z]:=by
 have hlt:=(List.getElem?_eq_some_iff.1 hz).1;rcases h with⟨_,rfl,_⟩|⟨y,c,rest,own,rfl,h1,h2,h3,h4⟩
 ·cases hz
 ·rw[Nat.mul_one]at h3;refine⟨.slice (some ⟨y,0+i*1,some 1⟩) 1 (c-i),fun α k=>?_,.inr ⟨y,c-i,cs.take i,cs.drop (i+1)++rest,own,?_,by omega,?_,rfl,h4⟩⟩
  ·have:zgU 1 (.slice (some ⟨y,0,some 1⟩) n c) (some (.int .i64 (i:Int))) (some (.int .i64 ((i+1:Nat):Int)))=some (.slice (some ⟨y,0+i*1,some 1⟩) 1 (c-i)):=by unfold zgU;dsimp only[zdr];rw[if_pos ⟨rfl,by omega,by omega,by omega⟩,Int.toNat_natCast,show (((i+1:Nat):Int)-(i:Int)).toNat=1 by omega]
   unfold zcf;rw[this]
  ·rw[length_take,Nat.min_eq_left (by omega),Nat.zero_add,Nat.mul_one]
  ·rw[h2];have:cs=cs.take i++(z::cs.drop (i+1)):=by obtain⟨h5,h6⟩:=List.getElem?_eq_some_iff.1 hz;rw[←h6,←drop_eq_getElem_cons h5,take_append_drop]
   conv=>lhs;rw[this]
   rw[append_assoc];rfl
theorem zo3{H:Hp}{p f g:Nat}{lim:Int}{L:List Nd}{K:List (ByteArray×Int)}{sl:Value}(hst:StF H p lim L K sl f g){x:Value}{rs:List Int}(hx:RdO H 1 x rs.length (zbH rs))(hl:rs.length≤2^40) :
  ∀k i,i+k=rs.length→zas (zbc RR (.pointer (some ⟨p,0,none⟩)) x (.int .i64 (rs.length:Int))) [.int .i64 (i:Int)] H =
   if (rs.drop i).all (isT L)=true then some (.exit 0,[.int .i64 (rs.length:Int)],H) else some (.ret,[.tuple #[.slice none 0 0,.int .i64 70]],H)
 |0,i,h=>by
  have:i=rs.length:=by omega
  subst this;rw[zai];have:zbc RR (.pointer (some ⟨p,0,none⟩)) x (.int .i64 (rs.length:Int)) [.int .i64 (rs.length:Int)] H=some (.exit 0,[.int .i64 (rs.length:Int)],H):=by unfold zbc;simp only[zaV,zac,zau,qg0,Int.lt_irrefl,decide_false]
  rw[this,drop_of_length_le (Nat.le_refl _)];rfl
 |k+1,i,h=>by
  have hlt:i<rs.length:=by omega
  have hg:rs[i]?=some rs[i]:=List.getElem?_eq_getElem hlt;obtain⟨y,e1,e2⟩:=hx.int hg;have w:IntKind.i64.wrap ((i:Int)+1)=((i+1:Nat):Int):=zaq (by omega) (by omega);have q:(i:Int)<(rs.length:Int):=by omega
  rw[zai,drop_eq_getElem_cons hlt,all_cons];cases ht:isT L rs[i] with
  |true=>
   have:zbc RR (.pointer (some ⟨p,0,none⟩)) x (.int .i64 (rs.length:Int)) [.int .i64 (i:Int)] H=some (.next,[.int .i64 ((i+1:Nat):Int)],H):=by unfold zbc;simp only[zaV,zac,zaE,zau,qg0,q,decide_true,e1,e2,zaf (c19 hst.st),ht,za9,Bool.not_true,zaN,w]
   rw[this];show zas _ _ _=_;rw[zo3 hst hx hl k (i+1) (by omega),Bool.true_and]
  |false=>
   have:zbc RR (.pointer (some ⟨p,0,none⟩)) x (.int .i64 (rs.length:Int)) [.int .i64 (i:Int)] H=some (.ret,[.tuple #[.slice none 0 0,.int .i64 70]],H):=by unfold zbc;simp only[zaV,zac,zaE,zau,qg0,q,decide_true,e1,e2,zaf (c19 hst.st),ht,za9,Bool.not_false]
   rw[this];rfl
theorem RdO.old{H0 H:Hp}{lv sv bv:Value}{out:List Nat}{stk:List (Nat×Nat)}{seen:List Bool}(h:PS H0 H lv out sv stk bv seen){x:Value}{n:Nat}{cs:List Value}(hx:RdO H0 1 x n cs):RdO H 1 x n cs:=
 hx.keep' (fun j hj=>h.old j (hx.lt hj)) h.next
section
variable {H0:Hp}{p f g:Nat}{lim:Int}{L:List Nd}{K:List (ByteArray×Int)}{sl:Value}(hst:StF H0 p lim L K sl f g)(hd:Dag L)(hL:L.length*64≤2^46)(bv:Value)
 {x:Value}{ns:List Nat}(hx:RdO H0 1 x ns.length (ints ns))(hns:∀t∈ns,1≤t∧t≤L.length)(hnl:ns.length≤2^40)
include hst hd hL hx hns hnl
theorem zo2:∀(k i:Nat) (out:List Nat) (seen:List Bool) (H:Hp) (lv sv:Value),i+k=ns.length→PS H0 H lv out sv [] bv seen→Seen L.length seen out []→Told L.length out →
  ∃H' lv' sv' seen',zas (zbb RR (.pointer (some ⟨p,0,none⟩)) x bv (.int .i64 (ns.length:Int))) [lv,sv,.int .i64 (i:Int)] H=some (.exit 2,[lv',sv',.int .i64 (ns.length:Int)],H') ∧
   PS H0 H' lv' (posts L (ns.drop i) out) sv' [] bv seen'
 |0,i,out,seen,H,lv,sv,hi,hp,hs,ht=>by
  have:i=ns.length:=by omega
  subst this;refine⟨H,lv,sv,seen,?_,?_⟩
  ·rw[zai];have:zbb RR (.pointer (some ⟨p,0,none⟩)) x bv (.int .i64 (ns.length:Int)) [lv,sv,.int .i64 (ns.length:Int)] H=some (.exit 2,[lv,sv,.int .i64 (ns.length:Int)],H):=by unfold zbb;simp only[zaV,zac,zau,qg1,qg0,Int.lt_irrefl,decide_false]
   rw[this];rfl
  ·rw[drop_of_length_le (Nat.le_refl _)];exact hp
 |k+1,i,out,seen,H,lv,sv,hi,hp,hs,ht=>by
  have hlt:i<ns.length:=by omega
  have hg:ns[i]?=some ns[i]:=List.getElem?_eq_getElem hlt;have hb:=hns _ (getElem_mem hlt);have hdr:ns.drop i=ns[i]::ns.drop (i+1):=drop_eq_getElem_cons hlt;rw[hdr,zgr];generalize ns[i]=t at hg hb;have hxH:=RdO.old hp hx;obtain⟨y,e1,e2⟩:=hxH.at1 (z:=.int .i64 (t:Int)) (by unfold ints;rw[List.getElem?_map,hg];rfl);have w:IntKind.i64.wrap ((i:Int)+1)=((i+1:Nat):Int):=zaq (by omega) (by omega);have q:(i:Int)<(ns.length:Int):=by omega
  have hsc:=hs.at' t hb.2;by_cases hto:t∈out
  ·have hsc':seen[t]?=some true:=by rw[hsc];congr 1;simp[hto]
   obtain⟨z,z0,z1,z2⟩:=hp.seen_at hsc';rw[zmt hd hb.1 hto];obtain⟨H',lv',sv',seen',r1,r2⟩:=zo2 k (i+1) out seen H lv sv (by omega) hp hs ht;refine⟨H',lv',sv',seen',?_,r2⟩;rw[zai];have:zbb RR (.pointer (some ⟨p,0,none⟩)) x bv (.int .i64 (ns.length:Int)) [lv,sv,.int .i64 (i:Int)] H=some (.next,[lv,sv,.int .i64 ((i+1:Nat):Int)],H):=by unfold zbb;simp only[zaV,zac,zaE,qg1,qg0,q,decide_true,e1,e2,z1,z2,zaN,w]
   rw[this];exact r1
  ·have hsc':seen[t]?=some false:=by rw[hsc];congr 1;simp[hto]
   obtain⟨z,z0,z1,z2⟩:=hp.seen_at hsc';have hclt:t<seen.length:=by rw[hs.len];omega
   obtain⟨z',hz',z3,H2,z4,p2,_⟩:=hp.see hclt;obtain rfl:z'=z:=Option.some.inj (hz'.symm.trans z0);obtain⟨sv3,H3,z5,p3⟩:=p2.push t (zs:=[.int .i64 0,.int .i64 0]) rfl (by simp);have hs3:Seen L.length (seen.set t true) out ([]++[(t,0)]):=hs.add hb.2;obtain⟨H4,lv4,sv4,seen4,r1,r2,r3⟩:=fwd hst hd hL bv t hb.1 hb.2 (kids L t).length 0 (by omega) out [] (seen.set t true) H3 lv sv3 p3 hs3 ht (fun u hu=>by cases hu) (by simpa using hb.2) hto;rw[qd0,←zmr hd hb.1 hto]at r2 r3;have ht4:Told L.length (post L t out):=ht.posts (l:=[t]) hd fun c' hc'=>by rw[mem_singleton]at hc';subst hc';exact hb
   obtain⟨H',lv',sv',seen',s1,s2⟩:=zo2 k (i+1) (post L t out) seen4 H4 lv4 sv4 (by omega) r2 r3 ht4;refine⟨H',lv',sv',seen',?_,s2⟩;have hexit:zas (zaM RR (.pointer (some ⟨p,0,none⟩)) bv) [lv4,sv4] H4=some (.exit 4,[lv4,sv4],H4):=by
    rw[zai];have:zaM RR (.pointer (some ⟨p,0,none⟩)) bv [lv4,sv4] H4=some (.exit 4,[lv4,sv4],H4):=by unfold zaM;simp only[qg1,qg0,r2.s.len,length_nil,zbp,zac];rfl
    rw[this];rfl
   rw[hexit]at r1;rw[zai];have:zbb RR (.pointer (some ⟨p,0,none⟩)) x bv (.int .i64 (ns.length:Int)) [lv,sv,.int .i64 (i:Int)] H=some (.next,[lv4,sv4,.int .i64 ((i+1:Nat):Int)],H4):=by unfold zbb;simp only[zaV,zac,zaE,zau,qg1,qg0,q,decide_true,e1,e2,z1,z2,z3,z4,build72,z5,r1,zal,za0,zaz,zaN,w]
   rw[this];exact s1
end
theorem zgx:∀n:Nat,repl n [.bool false]=zgi (List.replicate n false)
 |0=>rfl
 |n+1=>by show [.bool false]++repl n [.bool false]=_;rw[zgx n,replicate_succ];rfl
theorem zcl(ns:List Nat):ints ns=zbH (ns.map fun (t:Nat)=>(t:Int)):=by simp[ints,zbH]
theorem nats{L:List Nd}:∀rs:List Int,rs.all (isT L)=true→∃ns:List Nat,rs=ns.map (fun (t:Nat)=>(t:Int))∧∀t∈ns,1≤t∧t≤L.length
 |[],_=>⟨[],rfl,fun t h=>by cases h⟩
 |r::rs,h=>by
  rw[all_cons,Bool.and_eq_true]at h;obtain⟨ns,h1,h2⟩:=nats rs h.2;have:=zbx.1 h.1;refine⟨r.toNat::ns,by rw[map_cons,←h1];congr 1;omega,fun t ht=>?_⟩;rcases mem_cons.1 ht with rfl|ht
  ·omega
  ·exact h2 t ht
structure zpt(H0 H:Hp)(v:Value)(out:List Nat):Prop where
 vec:Vec H 1 v out.length (ints out)
 next:H0.next≤H.next
 old:∀j,j<H0.next→H.get j=H0.get j
 new:∀j,Id v j→H0.next≤j
theorem c13_no{H0:Hp}{p f g:Nat}{lim:Int}{L:List Nd}{K:List (ByteArray×Int)}{sl:Value}(hst:StF H0 p lim L K sl f g){x:Value}{rs:List Int}(hx:RdO H0 1 x rs.length (zbH rs))(hl:rs.length≤2^40)
  (hno:rs.all (isT L)=false):RR AN [.pointer (some ⟨p,0,none⟩),x] H0=some (.tuple #[.slice none 0 0,.int .i64 70],H0):=by
 have hr:=(zeD E0 rfl (.pointer (some ⟨p,0,none⟩)) x H0).trans (zeV _ _ _ _);refine hr.trans ?_;have h1:=zo3 hst hx hl rs.length 0 (by omega);rw[qd0,hno,if_neg (by decide)]at h1;rw[hx.len,show (0:Int)=((0:Nat):Int) from rfl,h1,zal,zbZ,zcp]
theorem c13_yes{H0:Hp}{p f g:Nat}{lim:Int}{L:List Nd}{K:List (ByteArray×Int)}{sl:Value}(hst:StF H0 p lim L K sl f g)(hd:Dag L)(hL:L.length*64≤2^46){x:Value}{ns:List Nat}(hx:RdO H0 1 x ns.length (ints ns))(hl:ns.length≤2^40)
  (hns:∀t∈ns,1≤t∧t≤L.length):∃H' v,RR AN [.pointer (some ⟨p,0,none⟩),x] H0=some (.tuple #[v,.int .i64 0],H')∧zpt H0 H' v (posts L ns []):=by
 have hr:=(zeD E0 rfl (.pointer (some ⟨p,0,none⟩)) x H0).trans (zeV _ _ _ _);have hmap:(ns.map fun (t:Nat)=>(t:Int)).length=ns.length:=length_map ..;have h1:=zo3 (rs:=ns.map fun (t:Nat)=>(t:Int)) hst (x:=x) (by rw[hmap,←zcl];exact hx) (by rw[hmap];exact hl) ns.length 0 (by rw[hmap];omega);have hall:(ns.map fun (t:Nat)=>(t:Int)).all (isT L)=true:=by rw[all_map,all_eq_true];intro t ht;have:=hns t ht;exact zbx.2 ⟨by show (1:Int)≤(t:Int);omega,by show (t:Int)≤L.length;omega⟩
 rw[qd0,hall,if_pos rfl,hmap]at h1;obtain⟨bv,b1,b2,b3⟩:=Vec.make H0 (sz:=1) (bytes:=1) (zs:=[.bool false]) rfl (n:=L.length+1) (by omega);rw[zgx]at b1 b2;generalize hH1:H0.new (.cells (zgi (List.replicate (L.length+1) false)) true)=H1 at b1 b2;have n1:H1.next=H0.next+1:=by rw[←hH1];rfl
 have hsl:(List.replicate (L.length+1) false).length=L.length+1:=length_replicate ..;have ps:PS H0 H1 (.slice none 0 0) [] (.slice none 0 0) [] bv (List.replicate (L.length+1) false):=
  ⟨by omega,fun j hj=>by rw[←hH1,get_new,if_neg (by omega)],Vec.nil _ _,Vec.nil _ _,by rw[hsl];exact b2,fun j hj=>(by cases hj),fun j hj=>(by cases hj),fun j hj=>by have:=b3 j hj;omega,
   fun j a=>(by cases a),fun j a=>(by cases a),fun j a=>(by cases a)⟩
 have sn:Seen L.length (List.replicate (L.length+1) false) [] []:=⟨hsl,fun x hx=>by rw[List.getElem?_replicate,if_pos (by omega)];rfl⟩
 obtain⟨H',lv',sv',seen',g1,g2⟩:=zo2 hst hd hL bv hx hns hl ns.length 0 [] _ H1 _ _ (by omega) ps sn ⟨nodup_nil,fun x h=>by cases h⟩;rw[qd0]at g2;refine⟨H',lv',?_,⟨g2.l,g2.next,g2.old,g2.al⟩⟩;refine hr.trans ?_;have w:IntKind.i64.wrap ((L.length:Int)+1)=((L.length+1:Nat):Int):=zaq (by omega) (by omega);rw[hx.len,show (0:Int)=((0:Nat):Int) from rfl,h1,zal,za0,zaz,zbA,zaJ,Nat.zero_add,hst.st.l1,hst.st.all.len,zaN,w,b1,hx.len,g1,zal,za0,zaz];rfl
def ze7(out:List Nat)(l:List Nat):Nat:=(l.find? fun c=>decide (c∉out)).getD 0
def zcV(out:List Nat)(x:Int)(next:Int):Int:=if x>0∧x.toNat∉out then x else next
theorem scan3{L:List Nd}(h:Dag L){i:Nat}{n:Nd}(hn:L[i]?=some n)(out:List Nat):zcV out n.a (zcV out n.b (zcV out n.c 0))=((ze7 out (zce n):Nat):Int):=by
 have ha:=h.a i n hn;have hb:=h.b i n hn;have hc:=h.c i n hn;have z:∀(y:Int),zcV out 0 y=y:=fun y=>by unfold zcV;rw[if_neg (by omega)]
 have s:∀(x y:Int),1≤x→zcV out x y=if x.toNat∉out then ((x.toNat:Nat):Int) else y:=fun x y hx=>by
  unfold zcV;by_cases q:x.toNat∉out
  ·rw[if_pos ⟨by omega,q⟩,if_pos q];omega
  ·rw[if_neg (fun w=>q w.2),if_neg q]
 unfold ze7 zce;rcases zcy n.op with q|q|q|q
 ·have e1:n.a=0:=by omega
  have e2:n.b=0:=by omega
  have e3:n.c=0:=by omega
  rw[q,e1,e2,e3,z,z,z];rfl
 ·have e2:n.b=0:=by omega
  have e3:n.c=0:=by omega
  rw[q,e2,e3,z,z,s _ _ (by omega)];by_cases k:n.a.toNat∈out<;>simp[k]
 ·have e3:n.c=0:=by omega
  rw[q,e3,z,s _ _ (by omega),s _ _ (by omega)];by_cases k:n.a.toNat∈out<;>by_cases k2:n.b.toNat∈out<;>simp[k,k2]
 ·rw[q,s _ _ (by omega),s _ _ (by omega),s _ _ (by omega)];by_cases k:n.a.toNat∈out<;>by_cases k2:n.b.toNat∈out<;>by_cases k3:n.c.toNat∈out<;>simp[k,k2,k3]
abbrev PR(H0 H:Hp)(lv:Value)(out:List Nat)(sv:Value)(stk:List Nat)(bv:Value)(told:List Bool):Prop:=Own H0 H [⟨1,lv,out.length,ints out⟩,⟨1,sv,stk.length,ints stk⟩,⟨1,bv,told.length,zgi told⟩]
def zlf(N:Nat)(told:List Bool)(out:List Nat):Prop:=told.length=N+1∧∀x,x≤N→told[x]?=some (decide (x∈out))
section
variable {H0:Hp}{p f g:Nat}{lim:Int}{L:List Nd}{K:List (ByteArray×Int)}{sl:Value}(hst:StF H0 p lim L K sl f g)(hd:Dag L)(hL:L.length*64≤2^46)(bv:Value)
theorem Own.st{H:Hp}{r:List Sl}(h:Own H0 H r)(hst:StF H0 p lim L K sl f g):StF H p lim L K sl f g:=
 hst.keep (fun i hi=>h.old i (hst.foot_lt hi)) h.next
theorem PR.told_at{H:Hp}{lv sv:Value}{out stk:List Nat}{told:List Bool}(h:PR H0 H lv out sv stk bv told){i:Nat}{b:Bool}(hi:told[i]?=some b):∃y,(∀(α:Type) (kd:IntKind) (k:Value→Option α),pIdx 1 bv (.int kd (i:Int)) k=k (.pointer (some ⟨y,i*1,none⟩))) ∧
  (∀(α:Type) (k:Value→Option α),zak 1 false H (.pointer (some ⟨y,i*1,none⟩)) k=k (.bool b)):=by
 obtain⟨y,h1,h2,h3,_⟩:=h.third.set (List.getElem?_eq_some_iff.1 hi).1;exact⟨y,h2,fun α k=>h3 (i*1) _ (by rw[Nat.mul_one];unfold zgi;rw[List.getElem?_map,hi];rfl) α k⟩
theorem PR.told_set{H:Hp}{lv sv:Value}{out stk:List Nat}{told:List Bool}(h:PR H0 H lv out sv stk bv told){i:Nat}(hi:i<told.length):∃y,Id bv y∧(∀(α:Type) (kd:IntKind) (k:Value→Option α),pIdx 1 bv (.int kd (i:Int)) k=k (.pointer (some ⟨y,i*1,none⟩))) ∧
  ∃H',(∀(α:Type) (k:Hp→Option α),zay 1 H (.pointer (some ⟨y,i*1,none⟩)) (.bool true) k=k H')∧PR H0 H' lv out sv stk bv (told.set i true):=by
 obtain⟨y,h1,h2,_,_,h5⟩:=h.third.set hi;obtain⟨H',g1,g2⟩:=h5 (i*1) 1 (.bool true) rfl (by omega) rfl;refine⟨y,h1,h2,H',g1,?_⟩;have e:spl (zgi told) (i*1) (zab (.bool true))=zgi (told.set i true):=spl_set Value.bool told hi true;rw[e]at g2;have:=g2.swap;have:=(this.tail.swap)
 have hh:=g2.third.third;unfold PR;rw[length_set];exact g2.third.third
include hst hd in
theorem zjR{H:Hp}{lv sv:Value}{out stk:List Nat}{told:List Bool}(h:PR H0 H lv out sv stk bv told)(ht:zlf L.length told out){i:Nat}{n:Nd}(hn:L[i]?=some n) :
  zas (zaZ RR bv [.int .i64 n.a,.int .i64 n.b,.int .i64 n.c]) [.int .i64 0,.int .i64 2] H=some (.exit 6,[.int .i64 ((ze7 out (zce n):Nat):Int),.int .i64 (-1)],H):=by
 have hi:=(List.getElem?_eq_some_iff.1 hn).1;have step:∀(j:Nat) (x nx:Int),j<3→[n.a,n.b,n.c][j]?=some x→x≤L.length→zaZ RR bv [.int .i64 n.a,.int .i64 n.b,.int .i64 n.c] [.int .i64 nx,.int .i64 (j:Int)] H=some (.next,[.int .i64 (zcV out x nx),.int .i64 ((j:Int)-1)],H):=by
  intro j x nx hj hx hb;have w:IntKind.i64.wrap ((j:Int)-1)=(j:Int)-1:=zaq (by omega) (by omega);have q:(j:Int)≥0:=by omega
  have hix:∀(k:Nat→Option Outc),zbW 3 (.int .i64 (j:Int)) k=k j:=fun k=>by unfold zbW;dsimp only;rw[if_pos ⟨by omega,by omega⟩,Int.toNat_natCast]
  have hc:∀(k:Value→Option Outc),zae 1 false [.int .i64 n.a,.int .i64 n.b,.int .i64 n.c] (0+j*1) k=k (.int .i64 x):=fun k=>by
   refine zcc _ _ _ ?_ k;rw[Nat.zero_add,Nat.mul_one]
   match j,hj,hx with
   |0,_,hx=>cases hx;rfl
   |1,_,hx=>cases hx;rfl
   |2,_,hx=>cases hx;rfl
  unfold zaZ;simp only[qg1,qg0,zbt,q,decide_true,zac,zaE,hix,hc,zbp];by_cases hp:x>0
  ·have hxc:x=((x.toNat:Nat):Int):=by omega
   have hat:=ht.2 x.toNat (by omega);obtain⟨y,e1,e2⟩:=PR.told_at bv h hat;rw[←hxc]at e1;simp only[hp,decide_true,zaE,e1,e2,za9,zac];by_cases ho:x.toNat∈out
   ·have:zcV out x nx=nx:=by unfold zcV;rw[if_neg (fun w=>w.2 ho)]
    simp only[ho,decide_true,Bool.not_true,zau,zbK,w,this]
   ·have:zcV out x nx=x:=by unfold zcV;rw[if_pos ⟨hp,ho⟩]
    simp only[ho,decide_false,Bool.not_false,zaE,zbK,w,this]
  ·have:zcV out x nx=nx:=by unfold zcV;rw[if_neg (fun w=>hp w.1)]
   simp only[hp,decide_false,zau,zbK,w,this]
 have ha:=hd.a i n hn;have hb:=hd.b i n hn;have hc:=hd.c i n hn;have s2:=step 2 n.c 0 (by omega) rfl (by omega);have s1:=fun nx=>step 1 n.b nx (by omega) rfl (by omega);have s0:=fun nx=>step 0 n.a nx (by omega) rfl (by omega);have e:∀nx:Int,zaZ RR bv [.int .i64 n.a,.int .i64 n.b,.int .i64 n.c] [.int .i64 nx,.int .i64 (-1)] H=some (.exit 6,[.int .i64 nx,.int .i64 (-1)],H):=fun nx=>by unfold zaZ;simp only[qg1,qg0,zbt,zac];rfl
 rw[←scan3 hd hn,zai,show (2:Int)=((2:Nat):Int) from rfl,s2];show zas _ _ _=_;rw[zai,show ((2:Nat):Int)-1=((1:Nat):Int) from rfl,s1];show zas _ _ _=_;rw[zai,show ((1:Nat):Int)-1=((0:Nat):Int) from rfl,s0];show zas _ _ _=_;rw[zai,show ((0:Nat):Int)-1=-1 from rfl,e];rfl
end
theorem zpe{out l:List Nat}(h:∀c∈l,c∈out):ze7 out l=0:=by
 unfold ze7;have:l.find? (fun c=>decide (c∉out))=none:=List.find?_eq_none.2 fun c hc=>by simpa using h c hc
 rw[this];rfl
theorem zn1{out pre l:List Nat}{c:Nat}(h:∀x∈pre,x∈out)(hc:c∉out):ze7 out (pre++c::l)=c:=by
 unfold ze7;have:pre.find? (fun c=>decide (c∉out))=none:=List.find?_eq_none.2 fun c hc=>by simpa using h c hc
 rw[List.find?_append,this];simp[hc]
theorem spl3{α:Type}(a b c:Int)(k:List Value→Option α):zaD 3 [.int .i64 0,.int .i64 0,.int .i64 0] 0 (.agg #[.int .i64 a,.int .i64 b,.int .i64 c]) k=k [.int .i64 a,.int .i64 b,.int .i64 c]:=by
 have:zbE 3 [.int .i64 0,.int .i64 0,.int .i64 0] 0 (.agg #[.int .i64 a,.int .i64 b,.int .i64 c])=some [.int .i64 a,.int .i64 b,.int .i64 c]:=by kernel_rfl
 unfold zaD;rw[this]
theorem zlf.set{N:Nat}{told:List Bool}{out:List Nat}(h:zlf N told out){t:Nat}(ht:t≤N):zlf N (told.set t true) (out++[t]):=
 ⟨by rw[length_set];exact h.1,fun x hx=>by
  rw[List.getElem?_set];by_cases e:t=x
  ·subst e;rw[if_pos rfl,if_pos (by rw[h.1];omega)];simp
  ·rw[if_neg e,h.2 x hx];congr 2;have:¬x=t:=fun q=>e q.symm
   simp[this]⟩
section
variable {H0:Hp}{p f g:Nat}{lim:Int}{L:List Nd}{K:List (ByteArray×Int)}{sl:Value}(hst:StF H0 p lim L K sl f g)(hd:Dag L)(hL:L.length*64≤2^46)(bv:Value)
theorem PR.top{H:Hp}{lv sv:Value}{out below:List Nat}{t:Nat}{told:List Bool}(h:PR H0 H lv out sv (below++[t]) bv told):∃y,(∀(α:Type) (kd:IntKind) (k:Value→Option α),pIdx 1 sv (.int kd (below.length:Int)) k=k (.pointer (some ⟨y,below.length*1,none⟩))) ∧
  (∀(α:Type) (k:Value→Option α),zak 1 false H (.pointer (some ⟨y,below.length*1,none⟩)) k=k (.int .i64 (t:Int))):=by
 obtain⟨y,_,h2,h3,_⟩:=h.swap.set (i:=below.length) (by simp);refine⟨y,h2,fun α k=>h3 _ _ ?_ α k⟩;rw[Nat.mul_one,zik,List.getElem?_append_right (by rw[zmK];omega),zmK,Nat.sub_self];rfl
theorem PR.push{H:Hp}{lv sv:Value}{out stk:List Nat}{told:List Bool}(h:PR H0 H lv out sv stk bv told)(t:Nat)(hb:(stk.length+1)*8≤2^47) :
  ∃sv' H',(∀(α:Type) (k:Value→Hp→Option α),(zam 1 [.int .i64 0] 1 [(0,.int .i64 (t:Int))] H fun x H1=>zaH 1 8 sv x H1 k)=k sv' H')∧PR H0 H' lv out sv' (stk++[t]) bv told:=by
 obtain⟨sv',H',e1,e2⟩:=h.swap.push (bytes:=8) (zs:=[.int .i64 0]) (x:=.int .i64 (t:Int)) (by decide) (by decide) rfl rfl rfl hb;refine⟨sv',H',e1,?_⟩;unfold PR;rw[zik,length_append];exact e2.swap
theorem PR.tell{H:Hp}{lv sv:Value}{out stk:List Nat}{told:List Bool}(h:PR H0 H lv out sv stk bv told)(t:Nat)(hb:(out.length+1)*8≤2^47) :
  ∃lv' H',(∀(α:Type) (k:Value→Hp→Option α),(zam 1 [.int .i64 0] 1 [(0,.int .i64 (t:Int))] H fun x H1=>zaH 1 8 lv x H1 k)=k lv' H')∧PR H0 H' lv' (out++[t]) sv stk bv told:=by
 obtain⟨lv',H',e1,e2⟩:=Own.push h (bytes:=8) (zs:=[.int .i64 0]) (x:=.int .i64 (t:Int)) (by decide) (by decide) rfl rfl rfl hb;refine⟨lv',H',e1,?_⟩;unfold PR;rw[zik,length_append];exact e2
theorem PR.pop{H:Hp}{lv sv:Value}{out below:List Nat}{t:Nat}{told:List Bool}(h:PR H0 H lv out sv (below++[t]) bv told):∃sv',(∀(α:Type) (kd:IntKind) (k:Value→Option α),zcf 1 sv none (some (.int kd (below.length:Int))) k=k sv')∧PR H0 H lv out sv' below bv told:=by obtain⟨sv',e1,e2⟩:=h.swap.cut (ints_one _) (m:=below.length) (by simp);refine⟨sv',e1,?_⟩;rw[zik,Nat.mul_one,List.take_left' (zmK below)]at e2;exact e2.swap
include hst hd hL
theorem back:∀t,1≤t→t≤L.length→∀(out below:List Nat) (told:List Bool) (H:Hp) (lv sv:Value),PR H0 H lv out sv (below++[t]) bv told→zlf L.length told out→Told L.length out→below.length+t≤L.length →
  ∃H' lv' sv' told',zas (zap RR (.pointer (some ⟨p,0,none⟩)) bv) [lv,sv] H=zas (zap RR (.pointer (some ⟨p,0,none⟩)) bv) [lv',sv'] H' ∧
   PR H0 H' lv' (post L t out) sv' below bv told'∧zlf L.length told' (post L t out):=by
 intro t;induction t using Nat.strongRecOn with
 |_ t ih=>
  intro h1 hN out below told H lv sv hp ht hto hbl;obtain⟨n,hn⟩:∃n,L[t-1]?=some n:=⟨_,List.getElem?_eq_getElem (by omega)⟩
  have hk:kids L t=zce n:=by unfold kids;rw[hn]
  have hkl:∀c∈kids L t,1≤c∧c<t:=fun c hc=>zga hd h1 hc;have hlen:(below++[t]).length=below.length+1:=by simp
  have w1:IntKind.i64.wrap (((below.length+1:Nat):Int)-1)=(below.length:Int):=by rw[zaq (by omega) (by omega)];omega
  have w2:IntKind.i64.wrap ((t:Int)-1)=((t-1:Nat):Int):=by rw[zaq (by omega) (by omega)];omega
  have q1:((below.length+1:Nat):Int)>0:=by omega
  by_cases hin:t∈out
  ·-- told already
   have hst':=Own.st hp hst;obtain⟨y,e1,e2⟩:=PR.top bv hp;obtain⟨sl',hsl,hix⟩:=hst'.st.all.ix (i:=t-1) (by omega) (α:=Outc);have hls:∀{α:Type} (H':Hp) (k:Value→Option α),pLen .sl sv H' k=k (.int .i64 ((below.length+1:Nat):Int)):=fun H' k=>by rw[hp.swap.head.len,hlen]
   have hsc:=zjR hst hd bv hp ht hn;obtain⟨z,z1,z2⟩:=PR.told_at bv hp (b:=true) (by rw[ht.2 t hN];simp[hin]);obtain⟨sv1,c1,p1⟩:=PR.pop bv hp;rw[zmt hd h1 hin];refine⟨H,lv,sv1,told,?_,p1,ht⟩;rw[zai];have:zap RR (.pointer (some ⟨p,0,none⟩)) bv [lv,sv] H=some (.next,[lv,sv1],H):=by unfold zap;simp only[qg1,qg0,hls,zbp,q1,decide_true,zac,zaE,zau,zbK,w1,e1,e2,zbA,zaJ,Nat.zero_add,hst'.st.l1,w2,hix,ld7 hsl hn,spl7,zh8,zh7,zi6,zeB,spl3,hsc,zal,za0,zaz,z1,z2,za9,Bool.not_true,c1];cases decide (((ze7 out (zce n):Nat):Int)>0)<;>rfl
   rw[this];rfl
  ·rw[zmr hd h1 hin];have key:∀(l pre:List Nat),kids L t=pre++l→∀(out:List Nat) (told:List Bool) (H:Hp) (lv sv:Value),(∀c∈pre,c∈out)→t∉out→PR H0 H lv out sv (below++[t]) bv told→zlf L.length told out→Told L.length out →
     ∃H' lv' sv' told',zas (zap RR (.pointer (some ⟨p,0,none⟩)) bv) [lv,sv] H=zas (zap RR (.pointer (some ⟨p,0,none⟩)) bv) [lv',sv'] H' ∧
      PR H0 H' lv' (posts L l out++[t]) sv' below bv told'∧zlf L.length told' (posts L l out++[t]):=by
    intro l;induction l with
    |nil=>
     intro pre hpre out told H lv sv hall hin hp ht hto;rw[append_nil]at hpre;have hst':=Own.st hp hst;obtain⟨y,e1,e2⟩:=PR.top bv hp;obtain⟨sl',hsl,hix⟩:=hst'.st.all.ix (i:=t-1) (by omega) (α:=Outc);have hls:∀{α:Type} (H':Hp) (k:Value→Option α),pLen .sl sv H' k=k (.int .i64 ((below.length+1:Nat):Int)):=fun H' k=>by rw[hp.swap.head.len,hlen]
     have hsc:=zjR hst hd bv hp ht hn;have hf0:ze7 out (zce n)=0:=by rw[←hk,hpre];exact zpe hall
     rw[hf0]at hsc;obtain⟨z,z1,z2⟩:=PR.told_at bv hp (b:=false) (by rw[ht.2 t hN];simp[hin]);obtain⟨z',z0',z1',H1,z3,p1⟩:=PR.told_set bv hp (i:=t) (by rw[ht.1];omega);have hol:=hto.len;obtain⟨lv1,H2,t1,p2⟩:=PR.tell bv p1 t (by omega);obtain⟨sv1,c1,p3⟩:=PR.pop bv p2;obtain rfl:z'=z:=by have a1:=z1 Nat .i64 (fun v=>match v with | .pointer (some a)=>some a.block|_=>none);have a2:=z1' Nat .i64 (fun v=>match v with | .pointer (some a)=>some a.block|_=>none);rw[a1]at a2;simpa using a2.symm
     refine⟨H2,lv1,sv1,_,?_,p3,ht.set hN⟩;rw[zai];have q0:¬(((0:Nat):Int)>0):=by omega
     have:zap RR (.pointer (some ⟨p,0,none⟩)) bv [lv,sv] H=some (.next,[lv1,sv1],H2):=by unfold zap;simp only[qg1,qg0,hls,zbp,q1,decide_true,zac,zaE,zau,zbK,w1,e1,e2,zbA,zaJ,Nat.zero_add,hst'.st.l1,w2,hix,ld7 hsl hn,spl7,zh8,zh7,zi6,zeB,spl3,hsc,zal,za0,zaz,q0,decide_false,z1,z2,za9,Bool.not_false,z3,t1,c1]
     rw[this];rfl
    |cons c l ihl=>
     intro pre hpre out told H lv sv hall hin hp ht hto;have hcm:c∈kids L t:=by rw[hpre];simp
     obtain⟨hc1,hct⟩:=hkl c hcm;rw[zgr];by_cases hco:c∈out
     ·rw[zmt hd hc1 hco]
      exact ihl (pre++[c]) (by rw[hpre];simp) out told H lv sv (fun x hx=>by
       rcases mem_append.1 hx with hx|hx
       ·exact hall x hx
       ·rw[mem_singleton]at hx;subst hx;exact hco) hin hp ht hto
     ·have hst':=Own.st hp hst;obtain⟨y,e1,e2⟩:=PR.top bv hp;obtain⟨sl',hsl,hix⟩:=hst'.st.all.ix (i:=t-1) (by omega) (α:=Outc);have hls:∀{α:Type} (H':Hp) (k:Value→Option α),pLen .sl sv H' k=k (.int .i64 ((below.length+1:Nat):Int)):=fun H' k=>by rw[hp.swap.head.len,hlen]
      have hsc:=zjR hst hd bv hp ht hn;have hf0:ze7 out (zce n)=c:=by rw[←hk,hpre];exact zn1 hall hco
      rw[hf0]at hsc;obtain⟨z,z1,z2⟩:=PR.told_at bv hp (b:=false) (by rw[ht.2 t hN];simp[hin]);obtain⟨sv1,H1,t1,p1⟩:=PR.push bv hp c (by rw[hlen];omega);obtain⟨H2,lv2,sv2,told2,r1,r2,r3⟩:=ih c hct hc1 (by omega) out (below++[t]) told H1 lv sv1 p1 ht hto (by rw[hlen];omega);have ht2:Told L.length (post L c out):=hto.posts (l:=[c]) hd fun c' hc'=>by rw[mem_singleton]at hc';subst hc';omega
      obtain⟨m1,m2,m3⟩:=zms hd c hc1 out
      obtain⟨H3,lv3,sv3,told3,s1,s2,s3⟩:=ihl (pre++[c]) (by rw[hpre];simp) (post L c out) told2 H2 lv2 sv2 (fun x hx=>by
       rcases mem_append.1 hx with hx|hx
       ·exact m1 x (hall x hx)
       ·rw[mem_singleton]at hx;subst hx;exact m2) (fun q=>by
       rcases m3 t q with q|q
       ·exact hin q
       ·omega) r2 r3 ht2
      refine⟨H3,lv3,sv3,told3,?_,s2,s3⟩;rw[←s1,←r1,zai];have q0:((c:Nat):Int)>0:=by omega
      have:zap RR (.pointer (some ⟨p,0,none⟩)) bv [lv,sv] H=some (.next,[lv,sv1],H1):=by unfold zap;simp only[qg1,qg0,hls,zbp,q1,decide_true,zac,zaE,zau,zbK,w1,e1,e2,zbA,zaJ,Nat.zero_add,hst'.st.l1,w2,hix,ld7 hsl hn,spl7,zh8,zh7,zi6,zeB,spl3,hsc,zal,za0,zaz,q0,z1,z2,za9,Bool.not_false,t1]
      rw[this];rfl
   exact key (kids L t) [] rfl out told H lv sv (fun c hc=>by cases hc) hin hp ht hto
end
theorem zo1{H:Hp}{p f g:Nat}{lim:Int}{L:List Nd}{K:List (ByteArray×Int)}{sl:Value}(hst:StF H p lim L K sl f g){x:Value}{rs:List Int}(hx:RdO H 1 x rs.length (zbH rs))(hl:rs.length≤2^40) :
  ∀k i,i+k=rs.length→zas (zaL RR (.pointer (some ⟨p,0,none⟩)) x) [.int .i64 (i:Int)] H =
   if (rs.drop i).all (isT L)=true then some (.exit 0,[.int .i64 (rs.length:Int)],H) else some (.ret,[.tuple #[.slice none 0 0,.int .i64 70]],H)
 |0,i,h=>by
  have:i=rs.length:=by omega
  subst this;rw[zai];have:zaL RR (.pointer (some ⟨p,0,none⟩)) x [.int .i64 (rs.length:Int)] H=some (.exit 0,[.int .i64 (rs.length:Int)],H):=by unfold zaL;simp only[hx.len,zaV,zac,zau,qg0,Int.lt_irrefl,decide_false]
  rw[this,drop_of_length_le (Nat.le_refl _)];rfl
 |k+1,i,h=>by
  have hlt:i<rs.length:=by omega
  have hg:rs[i]?=some rs[i]:=List.getElem?_eq_getElem hlt;obtain⟨y,e1,e2⟩:=hx.int hg;have w:IntKind.i64.wrap ((i:Int)+1)=((i+1:Nat):Int):=zaq (by omega) (by omega);have q:(i:Int)<(rs.length:Int):=by omega
  rw[zai,drop_eq_getElem_cons hlt,all_cons];cases ht:isT L rs[i] with
  |true=>
   have:zaL RR (.pointer (some ⟨p,0,none⟩)) x [.int .i64 (i:Int)] H=some (.next,[.int .i64 ((i+1:Nat):Int)],H):=by unfold zaL;simp only[hx.len,zaV,zac,zaE,zau,qg0,q,decide_true,e1,e2,zaf (c30 hst.st),ht,za9,Bool.not_true,zaN,w]
   rw[this];show zas _ _ _=_;rw[zo1 hst hx hl k (i+1) (by omega),Bool.true_and]
  |false=>
   have:zaL RR (.pointer (some ⟨p,0,none⟩)) x [.int .i64 (i:Int)] H=some (.ret,[.tuple #[.slice none 0 0,.int .i64 70]],H):=by unfold zaL;simp only[hx.len,zaV,zac,zaE,zau,qg0,q,decide_true,e1,e2,zaf (c30 hst.st),ht,za9,Bool.not_false]
   rw[this];rfl
section
variable {H0:Hp}{p f g:Nat}{lim:Int}{L:List Nd}{K:List (ByteArray×Int)}{sl:Value}(hst:StF H0 p lim L K sl f g)(hd:Dag L)(hL:L.length*64≤2^46)(bv:Value)
 {x:Value}{ns:List Nat}(hx:RdO H0 1 x ns.length (ints ns))(hns:∀t∈ns,1≤t∧t≤L.length)(hnl:ns.length≤2^40)
include hst hd hL hx hns hnl
theorem loop14b:∀(k i:Nat) (out:List Nat) (told:List Bool) (H:Hp) (lv:Value),i+k=ns.length→Own H0 H [⟨1,lv,out.length,ints out⟩,⟨1,bv,told.length,zgi told⟩]→zlf L.length told out→Told L.length out →
  ∃H' lv' told',zas (zaY RR (.pointer (some ⟨p,0,none⟩)) x bv) [lv,.int .i64 (i:Int)] H=some (.exit 2,[lv',.int .i64 (ns.length:Int)],H') ∧
   Own H0 H' [⟨1,lv',(posts L (ns.drop i) out).length,ints (posts L (ns.drop i) out)⟩,⟨1,bv,told'.length,zgi told'⟩]
 |0,i,out,told,H,lv,hi,hp,ht,hto=>by
  have:i=ns.length:=by omega
  subst this;refine⟨H,lv,told,?_,?_⟩
  ·rw[zai];have hxH:RdO H 1 x ns.length (ints ns):=hx.keep' (fun j hj=>hp.old j (hx.lt hj)) hp.next;have:zaY RR (.pointer (some ⟨p,0,none⟩)) x bv [lv,.int .i64 (ns.length:Int)] H=some (.exit 2,[lv,.int .i64 (ns.length:Int)],H):=by unfold zaY;simp only[hxH.len,zaV,zac,zau,qg1,qg0,Int.lt_irrefl,decide_false]
   rw[this];rfl
  ·rw[drop_of_length_le (Nat.le_refl _)];exact hp
 |k+1,i,out,told,H,lv,hi,hp,ht,hto=>by
  have hlt:i<ns.length:=by omega
  have hg:ns[i]?=some ns[i]:=List.getElem?_eq_getElem hlt;have hb:=hns _ (getElem_mem hlt);have hdr:ns.drop i=ns[i]::ns.drop (i+1):=drop_eq_getElem_cons hlt;rw[hdr,zgr];generalize ns[i]=t at hg hb;have hxH:RdO H 1 x ns.length (ints ns):=hx.keep' (fun j hj=>hp.old j (hx.lt hj)) hp.next;obtain⟨y,e1,e2⟩:=hxH.at1 (z:=.int .i64 (t:Int)) (by unfold ints;rw[List.getElem?_map,hg];rfl);have w:IntKind.i64.wrap ((i:Int)+1)=((i+1:Nat):Int):=zaq (by omega) (by omega);have q:(i:Int)<(ns.length:Int):=by omega
  have hbs:∀(α:Type) (k:Value→Hp→Option α),zam 1 [.int .i64 0] 1 [(0,.int .i64 (t:Int))] H k=k (.slice (some ⟨H.next,0,some 1⟩) 1 1) (H.new (.cells [.int .i64 (t:Int)] true)):=fun α k=>rfl;have hp1:PR H0 (H.new (.cells [.int .i64 (t:Int)] true)) lv out (.slice (some ⟨H.next,0,some 1⟩) 1 1) ([]++[t]) bv told:=by refine Own.swap (Own.add (a:=⟨1,.slice (some ⟨H.next,0,some 1⟩) 1 1,1,ints [t]⟩) hp (.inr ⟨H.next,1,[],rfl,Nat.le_refl _,?_,rfl,rfl,by show H.next<H.next+1;omega,rfl⟩) (zcv _ _ _) fun j hj=>by cases hj;exact Nat.le_refl _);rw[get_new,if_pos rfl];rfl
  obtain⟨H4,lv4,sv4,told4,r1,r2,r3⟩:=back hst hd hL bv t hb.1 hb.2 out [] told _ lv _ hp1 ht hto (by simpa using hb.2);have ht4:Told L.length (post L t out):=hto.posts (l:=[t]) hd fun c' hc'=>by rw[mem_singleton]at hc';subst hc';exact hb
  have hp4:Own H0 H4 [⟨1,lv4,(post L t out).length,ints (post L t out)⟩,⟨1,bv,told4.length,zgi told4⟩]:=r2.swap.tail;obtain⟨H',lv',told',s1,s2⟩:=loop14b k (i+1) (post L t out) told4 H4 lv4 (by omega) hp4 r3 ht4;refine⟨H',lv',told',?_,s2⟩;have hexit:zas (zap RR (.pointer (some ⟨p,0,none⟩)) bv) [lv4,sv4] H4=some (.exit 4,[lv4,sv4],H4):=by
   rw[zai];have:zap RR (.pointer (some ⟨p,0,none⟩)) bv [lv4,sv4] H4=some (.exit 4,[lv4,sv4],H4):=by unfold zap;have hl:=r2.swap.head;dsimp only at hl;simp only[qg1,qg0,hl.len,length_nil,zbp,zac];rfl
   rw[this];rfl
  rw[hexit]at r1;rw[zai];have:zaY RR (.pointer (some ⟨p,0,none⟩)) x bv [lv,.int .i64 (i:Int)] H=some (.next,[lv4,.int .i64 ((i+1:Nat):Int)],H4):=by unfold zaY;simp only[hxH.len,zaV,zac,zaE,qg1,qg0,q,decide_true,e1,e2,hbs,r1,zal,za0,zaz,zaN,w]
  rw[this];exact s1
end
theorem c14_no{H0:Hp}{p f g:Nat}{lim:Int}{L:List Nd}{K:List (ByteArray×Int)}{sl:Value}(hst:StF H0 p lim L K sl f g){x:Value}{rs:List Int}(hx:RdO H0 1 x rs.length (zbH rs))(hl:rs.length≤2^40)
  (hno:rs.all (isT L)=false):RR AW [.pointer (some ⟨p,0,none⟩),x] H0=some (.tuple #[.slice none 0 0,.int .i64 70],H0):=by
 have hr:=(zcE E0 rfl (.pointer (some ⟨p,0,none⟩)) x H0).trans (zcI _ _ _ _);refine hr.trans ?_;have h1:=zo1 hst hx hl rs.length 0 (by omega);rw[qd0,hno,if_neg (by decide)]at h1;rw[show (0:Int)=((0:Nat):Int) from rfl,h1,zal,zbZ,zcp]
theorem c14_yes{H0:Hp}{p f g:Nat}{lim:Int}{L:List Nd}{K:List (ByteArray×Int)}{sl:Value}(hst:StF H0 p lim L K sl f g)(hd:Dag L)(hL:L.length*64≤2^46){x:Value}{ns:List Nat}(hx:RdO H0 1 x ns.length (ints ns))(hl:ns.length≤2^40)
  (hns:∀t∈ns,1≤t∧t≤L.length):∃H' v,RR AW [.pointer (some ⟨p,0,none⟩),x] H0=some (.tuple #[v,.int .i64 0],H')∧zpt H0 H' v (posts L ns []):=by
 have hr:=(zcE E0 rfl (.pointer (some ⟨p,0,none⟩)) x H0).trans (zcI _ _ _ _);have hmap:(ns.map fun (t:Nat)=>(t:Int)).length=ns.length:=length_map ..;have h1:=zo1 (rs:=ns.map fun (t:Nat)=>(t:Int)) hst (x:=x) (by rw[hmap,←zcl];exact hx) (by rw[hmap];exact hl) ns.length 0 (by rw[hmap];omega);have hall:(ns.map fun (t:Nat)=>(t:Int)).all (isT L)=true:=by rw[all_map,all_eq_true];intro t ht;have:=hns t ht;exact zbx.2 ⟨by show (1:Int)≤(t:Int);omega,by show (t:Int)≤L.length;omega⟩
 rw[qd0,hall,if_pos rfl,hmap]at h1;obtain⟨bv,H1,b1,b2⟩:=(Own.nil H0).make (sz:=1) (bytes:=1) (zs:=[.bool false]) rfl (n:=L.length+1) (by omega);rw[zgx]at b2;have hsl:(List.replicate (L.length+1) false).length=L.length+1:=length_replicate ..;have hp:Own H0 H1 [⟨1,.slice none 0 0,([]:List Nat).length,ints []⟩,⟨1,bv,(List.replicate (L.length+1) false).length,zgi (List.replicate (L.length+1) false)⟩]:=by rw[hsl];exact b2.addNil 1
 have sn:zlf L.length (List.replicate (L.length+1) false) []:=⟨hsl,fun x hx=>by rw[List.getElem?_replicate,if_pos (by omega)];rfl⟩
 obtain⟨H',lv',told',g1,g2⟩:=loop14b hst hd hL bv hx hns hl ns.length 0 [] _ H1 _ (by omega) hp sn ⟨nodup_nil,fun x h=>by cases h⟩;rw[qd0]at g2;refine⟨H',lv',?_,⟨g2.head,g2.next,g2.old,g2.new _ (mem_cons_self ..)⟩⟩;refine hr.trans ?_;have w:IntKind.i64.wrap ((L.length:Int)+1)=((L.length+1:Nat):Int):=zaq (by omega) (by omega);rw[show (0:Int)=((0:Nat):Int) from rfl,h1,zal,za0,zaz,zbA,zaJ,Nat.zero_add,hst.st.l1,hst.st.all.len,zaN,w,b1,g1,zal,za0,zaz];rfl
def zei(L:List Nd)(rs:List Int):Int×List Nat:=if rs.all (isT L)=true then (0,posts L (rs.map Int.toNat) []) else (70,[])
theorem ziN(ns:List Nat):(ns.map fun (t:Nat)=>(t:Int)).map Int.toNat=ns:=by
 induction ns with
 |nil=>rfl
 |cons a l ih=>rw[map_cons,map_cons,ih];rfl
theorem orderR_bd{L:List Nd}(hd:Dag L)(rs:List Int):(zei L rs).2.length≤L.length:=by
 unfold zei;split
 ·rename_i h;obtain⟨ns,h1,h2⟩:=nats rs h;have e:rs.map Int.toNat=ns:=by rw[h1,ziN]
  rw[e];exact Told.len ((⟨nodup_nil,fun x h=>by cases h⟩:Told L.length []).posts hd h2)
 ·simp
section
variable {H0:Hp}{p f g:Nat}{lim:Int}{L:List Nd}{K:List (ByteArray×Int)}{sl:Value}(hst:StF H0 p lim L K sl f g)(hd:Dag L)(hL:L.length*64≤2^46){x:Value}{rs:List Int}(hx:RdO H0 1 x rs.length (zbH rs))(hl:rs.length≤2^40)
include hst hd hL hx hl
theorem c13:∃H' v,RR AN [.pointer (some ⟨p,0,none⟩),x] H0=some (.tuple #[v,.int .i64 (zei L rs).1],H')∧zpt H0 H' v (zei L rs).2:=by
 unfold zei;cases h:rs.all (isT L) with
 |true=>
  obtain⟨ns,h1,h2⟩:=nats rs h;have e:rs.map Int.toNat=ns:=by rw[h1,ziN]
  have hlen:rs.length=ns.length:=by rw[h1,length_map]
  rw[if_pos rfl,e];exact c13_yes hst hd hL (by rw[zcl,←h1,←hlen];exact hx) (by omega) h2
 |false=>
  rw[if_neg (by decide)];exact⟨H0,_,c13_no hst hx hl h,Vec.nil _ _,Nat.le_refl _,fun _ _=>rfl,fun j hj=>by cases hj⟩
theorem c14:∃H' v,RR AW [.pointer (some ⟨p,0,none⟩),x] H0=some (.tuple #[v,.int .i64 (zei L rs).1],H')∧zpt H0 H' v (zei L rs).2:=by
 unfold zei;cases h:rs.all (isT L) with
 |true=>
  obtain⟨ns,h1,h2⟩:=nats rs h;have e:rs.map Int.toNat=ns:=by rw[h1,ziN]
  have hlen:rs.length=ns.length:=by rw[h1,length_map]
  rw[if_pos rfl,e];exact c14_yes hst hd hL (by rw[zcl,←h1,←hlen];exact hx) (by omega) h2
 |false=>
  rw[if_neg (by decide)];exact⟨H0,_,c14_no hst hx hl h,Vec.nil _ _,Nat.le_refl _,fun _ _=>rfl,fun j hj=>by cases hj⟩
end
end Go.AM
namespace Go.AM
open Go
def sp(l:List UInt8):List UInt8:=32::l
abbrev itoa:=Go.Lib.itoa
def fl(op:Int):List UInt8:=if op≤2 then [] else if op=3 then [119,110] else if op=4 then [115,119] else if op=31 then [112,110,119] else if op≥32 then [112,119] else List.replicate (zaj op).toNat 112
def act(F:Int→Int)(n:Nd):List UInt8→Nat→List UInt8
 |[],_=>[]
 |c::r,k=>if c=112 then sp (itoa (F ([n.a,n.b,n.c].getD k 0)))++act F n r (k+1) else if c=110 then sp (numT n.num.toNat)++act F n r k else if c=119 then sp (itoa n.w)++act F n r k
  else if c=115 then sp n.name.data.toList++act F n r k else act F n r k
def word(ws:List (List UInt8))(op:Int):List UInt8:=ws.getD op.toNat []
def line(ws:List (List UInt8))(F:Int→Int)(i:Nat)(n:Nd):List UInt8:=itoa ((i+1:Nat):Int)++[32]++word ws n.op++act F n (fl n.op) 0++[10]
end Go.AM
namespace Go.AM
open List Go
def mapI(A:List (Int×Int)):List (Value×Value):=A.map fun x=>(.int .i64 x.1,.int .i64 x.2)
def lkI(t:Int):Nat→List (Int×Int)→Option (Nat×Int)
 |_,[]=>none
 |i,(u,w)::r=>if t=u then some (i,w) else lkI t (i+1) r
def MapF(H:Hp)(m:Nat)(F:Int→Int):Prop:=∃A,H.get m=some (.map (mapI A))∧∀t,F t=(match lkI t 0 A with|some q=>q.2|none=>0)
structure zk4(P:Program)(kt:TypeId):Prop where
 eq:∀a b:Int,eqT P 10000 kt (.int .i64 a) (.int .i64 b)=some (a==b)
 sh:∀a:Int,zeZ P 20 kt (.int .i64 a)=true
theorem findI{P:Program}{kt:TypeId}(hk:zk4 P kt)(t:Int):∀(A:List (Int×Int)) (i:Nat),zfB P kt (.int .i64 t) (mapI A) i=some ((lkI t i A).map fun q=>(q.1,.int .i64 q.2))
 |[],i=>rfl
 |(u,w)::r,i=>by
  show (match eqT P 10000 kt (.int .i64 t) (.int .i64 u) with|some true=>some (some (i,Value.int .i64 w))|some false=>zfB P kt (.int .i64 t) (mapI r) (i+1)|none=>none)=_;rw[hk.eq];unfold lkI;by_cases h:t=u
  ·rw[if_pos h,show (t==u)=true by simpa using h];rfl
  ·rw[if_neg h,show (t==u)=false by simpa using h];exact findI hk t r (i+1)
theorem MapF.look{P:Program}{kt:TypeId}(hk:zk4 P kt){H:Hp}{m:Nat}{F:Int→Int}(h:MapF H m F)(t:Int){α:Type}(k:Value→Option α):zbM P kt (.int .i64 0) (.map (some m)) (.int .i64 t) false H k=k (.int .i64 (F t)):=by obtain⟨A,h1,h2⟩:=h;unfold zbM lookV;rw[hk.sh,h2 t];simp only[if_true,zo0,h1,findI hk];cases lkI t 0 A<;>rfl
theorem zmE(t:Int):∀(A:List (Int×Int)) (i j:Nat) (w:Int),lkI t i A=some (j,w)→i≤j∧A[j-i]?=some (t,w)
 |[],i,j,w,h=>by cases h
 |(u,v)::r,i,j,w,h=>by
  unfold lkI at h;split at h
  ·rename_i e;cases h;subst e;exact⟨Nat.le_refl _,by simp⟩
  ·obtain⟨h1,h2⟩:=zmE t r (i+1) j w h;refine⟨by omega,?_⟩;rw[show j-i=(j-(i+1))+1 by omega];simpa using h2
theorem zo6(t key v:Int):∀(A:List (Int×Int)) (i:Nat),lkI key i A=none→(lkI t i (A++[(key,v)])).map Prod.snd=if t=key then some v else (lkI t i A).map Prod.snd
 |[],i,h=>by
  show (lkI t i [(key,v)]).map Prod.snd=_;unfold lkI lkI;split<;>rfl
 |(u,w)::r,i,h=>by
  unfold lkI at h;split at h
  ·cases h
  ·rename_i ne;show (lkI t i ((u,w)::(r++[(key,v)]))).map Prod.snd=_;unfold lkI;by_cases e:t=u
   ·rw[if_pos e,if_pos e,if_neg (fun q=>ne (by rw[←q,e]))]
   ·rw[if_neg e,if_neg e];exact zo6 t key v r (i+1) h
theorem zo5(t key v:Int):∀(A:List (Int×Int)) (i j:Nat) (w:Int),lkI key i A=some (j,w)→(lkI t i (A.set (j-i) (key,v))).map Prod.snd=if t=key then some v else (lkI t i A).map Prod.snd
 |[],i,j,w,h=>by cases h
 |(u,x)::r,i,j,w,h=>by
  unfold lkI at h;split at h
  ·rename_i e;cases h;subst e;rw[Nat.sub_self,set_cons_zero];unfold lkI;by_cases q:t=key
   ·rw[if_pos q,if_pos q];rfl
   ·rw[if_neg q,if_neg q,if_neg q]
  ·rename_i ne;have hle:=(zmE key r (i+1) j w h).1;rw[show j-i=(j-(i+1))+1 by omega,set_cons_succ];unfold lkI;by_cases q:t=u
   ·rw[if_pos q,if_pos q,if_neg (fun z=>ne (by rw[←z,q]))]
   ·rw[if_neg q,if_neg q];exact zo5 t key v r (i+1) j w h
theorem mtch(o:Option (Nat×Int)):(match o with|some q=>q.2|none=>(0:Int))=(o.map Prod.snd).getD 0:=by cases o<;>rfl
theorem MapF.upd{P:Program}{kt:TypeId}(hk:zk4 P kt){H:Hp}{m:Nat}{F:Int→Int}(h:MapF H m F)(key v:Int) :
  ∃H',(∀(α:Type) (k:Hp→Option α),pUpd P kt (.map (some m)) (.int .i64 key) (.int .i64 v) H k=k H')∧MapF H' m (fun t=>if t=key then v else F t)∧(∀j,j≠m→H'.get j=H.get j)∧H'.next=H.next:=by
 obtain⟨A,h1,h2⟩:=h;cases hq:lkI key 0 A with
 |none=>
  refine⟨H.set m (some (.map (mapI (A++[(key,v)])))),fun α k=>?_,⟨A++[(key,v)],by rw[get_set,if_pos rfl],fun t=>?_⟩,fun j hj=>by rw[get_set,if_neg hj],rfl⟩
  ·have:updV P kt (.map (some m)) (.int .i64 key) (.int .i64 v) H=some (H.set m (some (.map (mapI (A++[(key,v)]))))):=by unfold updV;rw[hk.sh];simp only[if_true,h1,findI hk,hq,Option.map_none];rw[show mapI (A++[(key,v)])=mapI A++[(Value.int .i64 key,Value.int .i64 v)] by simp[mapI]]
   unfold pUpd;rw[this]
  ·rw[mtch,zo6 t key v A 0 hq];dsimp only;split
   ·rfl
   ·rw[h2 t,mtch]
 |some q=>
  obtain⟨j,w⟩:=q;obtain⟨_,hg⟩:=zmE key A 0 j w hq;rw[Nat.sub_zero]at hg;refine⟨H.set m (some (.map (mapI (A.set j (key,v))))),fun α k=>?_,⟨A.set j (key,v),by rw[get_set,if_pos rfl],fun t=>?_⟩,fun j hj=>by rw[get_set,if_neg hj],rfl⟩
  ·have hk1:(mapI A)[j]?=some (.int .i64 key,.int .i64 w):=by unfold mapI;rw[List.getElem?_map,hg];rfl
   have hsb:Instr.sameBits 10000 (.int .i64 key) (.int .i64 key)=true:=by simp[Instr.sameBits]
   have:updV P kt (.map (some m)) (.int .i64 key) (.int .i64 v) H=some (H.set m (some (.map (mapI (A.set j (key,v)))))):=by unfold updV;rw[hk.sh];simp only[if_true,h1,findI hk,hq,Option.map_some,hk1,hsb];rw[show mapI (A.set j (key,v))=zjj (mapI A) j (.int .i64 key) (.int .i64 v) by unfold zjj mapI;rw[map_set]]
   unfold pUpd;rw[this]
  ·have:=zo5 t key v A 0 j w hq;rw[Nat.sub_zero]at this;rw[mtch,this];dsimp only;split
   ·rfl
   ·rw[h2 t,mtch]
theorem MapF.new(H:Hp):MapF (H.new (.map [])) H.next (fun _=>0):=⟨[],by rw[get_new,if_pos rfl];rfl,fun t=>rfl⟩
theorem MapF.keep{H H':Hp}{m:Nat}{F:Int→Int}(h:MapF H m F)(hg:H'.get m=H.get m):MapF H' m F:=by obtain⟨A,h1,h2⟩:=h;exact⟨A,by rw[hg];exact h1,h2⟩
end Go.AM
namespace Go.AM
open Go
section
end
end Go.AM
namespace Go.AM
open List Go
def zlE:ByteArray:=⟨#[45,32,116,114,117,101,32,102,97,108,115,101,32,99,111,110,115,116,32,118,97,114,32,110,111,116,32,97,110,100,32,111,114,32,120,111,114,32,101,113,32,117,108,116,32,117,108,101,32,115,108,116,32,115,108,101,32,105,116,101,32,99,111,109,32,110,101,103,32,98,97,110,100,32,98,111,114,32,98,120,111,114,32,97,100,100,32,115,117,98,32,109,117,108,32,100,105,118,32,114,101,109,32,115,104,108,32,115,104,114,32,115,97,114,32,114,111,108,32,114,111,114,32,99,97,116,32,115,108,105,99,101,32,122,101,120,116,32,115,101,120,116]⟩
def zdF:List (List UInt8):=[[45],[116,114,117,101],[102,97,108,115,101],[99,111,110,115,116],[118,97,114],[110,111,116],[97,110,100],[111,114],[120,111,114],[101,113],[117,108,116],[117,108,101],[115,108,116],[115,108,101],[105,116,101],[99,111,109],[110,101,103],[98,97,110,100],[98,111,114],[98,120,111,114],[97,100,100],[115,117,98],[109,117,108],[100,105,118],[114,101,109],[115,104,108],[115,104,114],[115,97,114],[114,111,108],[114,111,114],[99,97,116],[115,108,105,99,101],[122,101,120,116],[115,101,120,116]]
theorem names_eq:Go.Lib.fields zlE.data.toList=zdF:=by kernel_rfl
theorem names_ok:zlE.size<4294967281∧zlE.data.toList.all (fun b=>decide (b.toNat<128))=true:=by constructor<;>decide +kernel
def zg5:List Value:=zdF.map fun l=>Value.string (ba l)
theorem c_names{H:Hp}(hT:Tabs H):RR Co [] H=some (.slice (some ⟨H.next,0,some 1⟩) 34 34,H.new (.cells zg5 true)):=by
 obtain⟨cs,e,fz,hg,ht⟩:=hT.spc;have hx:RR BP [.string zlE] H=some (.slice (some ⟨H.next,0,some 1⟩) 34 34,H.new (.cells zg5 true)):=by refine(run_ext (O:=orc) Go.Proofs.Tryz.func99 (by kernel_rfl) (by kernel_rfl) (show E0 BP=some zkK from rfl) _ H).trans ?_;show zkK [.string zlE] H=_;unfold zkK;dsimp only;rw[if_pos names_ok,hg];dsimp only;rw[ht,names_eq];rfl
 refine(znk E0 rfl _).trans ?_;have:zi9 RR H=zad RR BP [.string zlE] H fun r1 H2=>some (r1,H2):=rfl;rw[this,zaf hx]
theorem word_at{op:Int}(h:1≤op∧op≤33):zg5[op.toNat]?=some (.string (ba (word zdF op))):=by
 have hl:zdF.length=34:=rfl;have hlt:op.toNat<zdF.length:=by omega
 unfold zg5 word;rw[List.getElem?_map,getD_eq_getElem?_getD,List.getElem?_eq_getElem hlt];rfl
theorem refWord{op:Int}(h:1≤op∧op≤33)(H:Hp):RR BC [.int .i64 op] H=some (.string (ba (word zdF op)),H):=by
 refine(zhi E0 rfl _ _).trans ?_;have hm:zep RR (.int .i64 op) H=zbW 34 (.int .i64 op) fun j3=>zae 1 false ((Value.string ⟨#[]⟩)::zg5.drop 1) (0+j3*1) fun v4=>some (v4,H):=by kernel_rfl
 rw[hm];unfold zbW;dsimp only;rw[if_pos (by omega)];refine zcc _ _ _ ?_ _;rw[Nat.zero_add,Nat.mul_one];have h0:op.toNat=(op.toNat-1)+1:=by omega
 rw[h0,List.getElem?_cons_succ,List.getElem?_drop,←word_at h];congr 1;omega
section
end
def zgY(w:List UInt8):List (List UInt8)→Nat→Option Nat
 |[],_=>none
 |x::r,i=>if 0<i∧x=w then some i else zgY w r (i+1)
def opF(w:List UInt8):Option Nat:=zgY w zdF 0
theorem znE(w:List UInt8):∀(l:List (List UInt8)) (i j:Nat),zgY w l i=some j→1≤j∧j<i+l.length
 |[],i,j,h=>by cases h
 |x::r,i,j,h=>by
  unfold zgY at h;split at h
  ·rename_i hc;cases h;simp only[length_cons];omega
  ·have:=znE w r (i+1) j h;simp only[length_cons];omega
theorem opF_bd{w:List UInt8}{j:Nat}(h:opF w=some j):1≤j∧j≤33:=by have:=znE w zdF 0 j h;have hl:zdF.length=34:=rfl;omega
theorem zoP(w:List UInt8)(H:Hp)(wv:Value)(hv:Rdb H 1 wv 34 zg5)(z:Value):∀(rest:List (List UInt8)) (i:Nat),zdF.drop i=rest→i≤34 →
  zas (zaW RR (str w) (.int .i64 34) wv) [z,.int .i64 (i:Int)] H=match zgY w rest i with
   |some j=>some (.ret,[W1 (.int .i64 (j:Int))],H)
   |none=>some (.exit 0,[z,.int .i64 34],H)
 |[],i,hr,hi=>by
  have hl:zdF.length=34:=rfl;have hil:i=34:=by have:=congrArg List.length hr;rw[length_drop,hl]at this;simp at this;omega
  have this:zaW RR (str w) (.int .i64 34) wv [z,.int .i64 (i:Int)] H=some (.exit 0,[z,.int .i64 (i:Int)],H):=by
   unfold zaW;have h1:¬((i:Int)<34):=by omega
   simp only[qg0,qg1,zaV,zac,s_br,h1,decide_false,Bool.false_eq_true,if_false]
  rw[zai,this,hil];rfl
 |x::r,i,hr,hi=>by
  have hl:zdF.length=34:=rfl;have hlt:i<34:=by have:=congrArg List.length hr;rw[length_drop,hl]at this;simp at this;omega
  have hget:zdF[i]?=some x:=by have:=congrArg (fun x=>x[0]?) hr;simpa using this
  have hr2:zdF.drop (i+1)=r:=by rw[←drop_drop,hr];rfl
  obtain⟨y,hy,⟨rest',own,hg⟩,hix⟩:=hv.ix hlt
  have hld:=fun (α:Type) (k:Value→Option α)=>zbO hg (i*1) (str x) (by
   rw[Nat.mul_one,List.getElem?_append_left (by unfold zg5;rw[length_map];omega)];unfold zg5
   rw[List.getElem?_map,hget];rfl) k
  have hinc:IntKind.i64.wrap ((i:Int)+1)=((i+1:Nat):Int):=w64 (by omega) (by omega);have h1:((i:Int)<34):=by omega
  unfold zgY;by_cases h0:0<i
  ·have h0':((i:Int)>0):=by omega
   by_cases hx:x=w
   ·rw[if_pos ⟨h0,hx⟩];have hx':(x==w)=true:=by rw[beq_iff_eq];exact hx
    have this:zaW RR (str w) (.int .i64 34) wv [z,.int .i64 (i:Int)] H=some (.ret,[W1 (.int .i64 (i:Int))],H):=by unfold zaW;simp only[qg0,qg1,zaV,zac,s_br,h1,decide_true,if_true,hix,hld,zbp,h0',ze0,hx']
    rw[zai,this];rfl
   ·rw[if_neg (fun q=>hx q.2)];have hx':(x==w)=false:=by rw[beq_eq_false_iff_ne];exact hx
    have this:zaW RR (str w) (.int .i64 34) wv [z,.int .i64 (i:Int)] H=some (.next,[z,.int .i64 ((i+1:Nat):Int)],H):=by unfold zaW;simp only[qg0,qg1,zaV,zac,s_br,h1,decide_true,if_true,hix,hld,zbp,h0',ze0,hx',Bool.false_eq_true,if_false,zaN,hinc]
    rw[zai,this];exact zoP w H wv hv z r (i+1) hr2 hlt
  ·rw[if_neg (fun q=>h0 q.1)];have h0':¬((i:Int)>0):=by omega
   have this:zaW RR (str w) (.int .i64 34) wv [z,.int .i64 (i:Int)] H=some (.next,[z,.int .i64 ((i+1:Nat):Int)],H):=by unfold zaW;simp only[qg0,qg1,zaV,zac,s_br,h1,decide_true,if_true,hix,hld,zbp,h0',decide_false,Bool.false_eq_true,if_false,zaN,hinc]
   rw[zai,this];exact zoP w H wv hv z r (i+1) hr2 hlt
theorem zpo(w:List UInt8)(H:Hp)(hL:Laid H):∃H',Frm (fun _=>False) H H'∧RR BU [str w] H=match opF w with
  |some j=>some (W1 (.int .i64 (j:Int)),H')
  |none=>some (W0 (zcJ 3),H'):=by
 have hrun:=zjk E0 rfl (str w) H;rw[zjn,zaf (c_names hL.tabs)]at hrun;have hv:Rdb (H.new (.cells zg5 true)) 1 (.slice (some ⟨H.next,0,some 1⟩) 34 34) 34 zg5:=
  .inr ⟨H.next,34,[],true,rfl,Nat.le_refl _,by rw[append_nil];exact if_pos rfl,rfl,by show H.next<H.next+1;omega⟩
 have hloop:=zoP w _ _ hv (.int .i64 0) zdF 0 rfl (Nat.zero_le _);have hlen:∀{α:Type} (k:Value→Option α),pLen .sl (.slice (some ⟨H.next,0,some 1⟩) 34 34) (H.new (.cells zg5 true)) k=k (.int .i64 34):=fun k=>rfl;rw[hlen]at hrun;refine⟨H.new (.cells zg5 true),zcv _ _ _,hrun.trans ?_⟩;have hloop:zas (zaW RR (str w) (.int .i64 34) (.slice (some ⟨H.next,0,some 1⟩) 34 34)) [.int .i64 0,.int .i64 0] (H.new (.cells zg5 true))=match opF w with
   |some j=>some (.ret,[W1 (.int .i64 (j:Int))],H.new (.cells zg5 true))
   |none=>some (.exit 0,[.int .i64 0,.int .i64 34],H.new (.cells zg5 true)):=hloop
 rw[hloop];cases opF w with
 |some j=>rfl
 |none=>
  dsimp only;rw[zal,za0,zaz,zcA]
inductive Fld where
 |p|n|w|s
 deriving DecidableEq
def setP(k:Nat)(n:Nd)(t:Int):Nd:=if k=0 then { n with a:=t } else if k=1 then { n with b:=t } else { n with c:=t }
def setF(f:Fld)(w:List UInt8)(ts:List Int)(k:Nat)(n:Nd):Option Nd:=
 match f with
 |.p=>if 1≤zaQ w∧zaQ w≤ts.length then some (setP k n (ts.getD (zaQ w-1).toNat 0)) else none
 |.n=>match numP w with
  |none=>none
  |some x=>if n.op=3∨0≤zaQ w then some { n with num:=(x:Int) } else none
 |.w=>if zaQ w<0 then none else some { n with w:=zaQ w }
 |.s=>some { n with name:=ba w }
def rdF:List Fld→List (List UInt8)→List Int→Nat→Nd→Option (Nd×List (List UInt8))
 |[],ws,_,_,n=>some (n,ws)
 |_::_,[],_,_,_=>none
 |f::fs,w::ws,ts,k,n=>match setF f w ts k n with
  |none=>none
  |some m=>rdF fs ws ts (if f=.p then k+1 else k) m
theorem zcX(f:Fld)(fs:List Fld)(w:List UInt8)(ws:List (List UInt8))(ts:List Int)(k:Nat)(n:Nd):rdF (f::fs) (w::ws) ts k n=match setF f w ts k n with
  |none=>none
  |some m=>rdF fs ws ts (if f=.p then k+1 else k) m:=by
 conv=>lhs;unfold rdF
theorem rdF_app(fs gs:List Fld):∀(ws:List (List UInt8)) (ts:List Int) (k:Nat) (n:Nd),rdF (fs++gs) ws ts k n=match rdF fs ws ts k n with
  |none=>none
  |some (m,ws')=>rdF gs ws' ts (k+fs.count .p) m:=by
 induction fs with
 |nil=>intro ws ts k n;rfl
 |cons f fs ih=>
  intro ws ts k n;cases ws with
  |nil=>rfl
  |cons w ws=>
   rw[cons_append,zcX,zcX];cases setF f w ts k n with
   |none=>rfl
   |some m=>
    dsimp only;rw[ih];cases rdF fs ws ts (if f=.p then k+1 else k) m with
    |none=>rfl
    |some q=>
     dsimp only;rw[count_cons];by_cases hf:f=.p
     ·subst hf;rw[if_pos rfl,if_pos (by rfl)];have:k+1+fs.count Fld.p=k+(fs.count Fld.p+1):=by omega
      rw[this]
     ·rw[if_neg hf];have:(f==Fld.p)=false:=by rw[beq_eq_false_iff_ne];exact hf
      rw[this];simp
theorem rd_w(fs:List Fld)(ws:List (List UInt8))(ts:List Int)(k:Nat)(n:Nd):rdF (.w::fs) ws ts k n=match numF ws with
  |none=>none
  |some v=>rdF fs ws.tail ts k { n with w:=v }:=by
 cases ws with
 |nil=>rfl
 |cons w ws=>
  rw[zcX];unfold numF setF;dsimp only;by_cases h:zaQ w<0
  ·rw[if_pos h,if_pos h]
  ·rw[if_neg h,if_neg h];rfl
theorem rd_p(fs:List Fld)(ws:List (List UInt8))(ts:List Int)(k:Nat)(n:Nd):rdF (.p::fs) ws ts k n=match zj5 ts ws with
  |none=>none
  |some t=>rdF fs ws.tail ts (k+1) (setP k n t):=by
 cases ws with
 |nil=>rfl
 |cons w ws=>
  rw[zcX];unfold zj5 numF setF;dsimp only;by_cases h:zaQ w<0
  ·rw[if_pos h,if_neg (by omega)]
  ·rw[if_neg h];dsimp only;by_cases h2:1≤zaQ w∧zaQ w≤ts.length
   ·rw[if_pos h2,if_pos h2];rfl
   ·rw[if_neg h2,if_neg h2]
theorem rd_s(fs:List Fld)(ws:List (List UInt8))(ts:List Int)(k:Nat)(n:Nd):rdF (.s::fs) ws ts k n=match ws with
  |[]=>none
  |w::r=>rdF fs r ts k { n with name:=ba w }:=by
 cases ws with
 |nil=>rfl
 |cons w ws=>rfl
theorem rd_n3(fs:List Fld)(ws:List (List UInt8))(ts:List Int)(k:Nat)(n:Nd)(h:n.op=3):rdF (.n::fs) ws ts k n=match ws with
  |[]=>none
  |w::r=>match numP w with
   |none=>none
   |some x=>rdF fs r ts k { n with num:=(x:Int) }:=by
 cases ws with
 |nil=>rfl
 |cons w ws=>
  rw[zcX];unfold setF;dsimp only;cases numP w with
  |none=>rfl
  |some x=>dsimp only;rw[if_pos (.inl h)];rfl
theorem rd_n(fs:List Fld)(ws:List (List UInt8))(ts:List Int)(k:Nat)(n:Nd)(h:n.op≠3):rdF (.n::fs) ws ts k n=match numF ws with
  |none=>none
  |some v=>rdF fs ws.tail ts k { n with num:=v }:=by
 cases ws with
 |nil=>rfl
 |cons w ws=>
  rw[zcX];unfold numF setF;dsimp only;cases hn:numP w with
  |none=>
   have:zaQ w=-1:=by rw[zfb,hn]
   rw[this,if_pos (show (-1:Int)<0 by decide)]
  |some x=>
   dsimp only;by_cases h2:zaQ w<0
   ·rw[if_pos h2,if_neg (by intro q;rcases q with q|q;exact h q;omega)]
   ·rw[if_neg h2,if_pos (.inr (by omega))];have:zaQ w=(x:Int):=by
     rw[zfb,hn]at h2 ⊢;dsimp only at h2 ⊢;split
     ·rfl
     ·rename_i q;rw[if_neg q]at h2;exact absurd (by decide) h2
    rw[this];rfl
structure NS(H:Hp)(p i:Nat)(sp wv tv:Value)(ws:List (List UInt8))(n:Nd):Prop where
 rs:RdS H p sp wv tv ws
 wi:¬Id wv i
 pi:p≠i
 nd:H.get i=some (.cells n.cells true)
 il:i<H.next
def NSA(H:Hp)(p i:Nat)(sp wv tv:Value)(ws:List (List UInt8))(n:Nd)(f:FuncId)(r:Option Int):Prop:=
 match r with
 |none=>∃H',RR f [.pointer (some ⟨p,0,none⟩)] H=some (W0 (zcJ 3),H')∧Frm (· = p) H H'
 |some v=>∃H' wv',RR f [.pointer (some ⟨p,0,none⟩)] H=some (W1 (.int .i64 v),H')∧NS H' p i sp wv' tv ws.tail n∧(∀j,Id wv' j→Id wv j)∧Frm (· = p) H H'
section
variable {H:Hp}{p i:Nat}{sp wv tv:Value}{ws:List (List UInt8)}{n:Nd}
theorem NS.of(h:NS H p i sp wv tv ws n){f:FuncId}{r:Option Int}(k:RdA H p sp wv tv ws f r):NSA H p i sp wv tv ws n f r:=by
 cases r with
 |none=>exact k
 |some v=>
  obtain⟨H',wv',h1,h2,h3,h4⟩:=k;exact⟨H',wv',h1,⟨h2,fun q=>h.wi (h3 i q),h.pi,by rw[h4.same i h.il (Ne.symm h.pi)];exact h.nd,Nat.lt_of_lt_of_le h.il h4.next⟩,h3,h4⟩
theorem NS.next{w:List UInt8}(h:NS H p i sp wv tv (w::ws) n) :
  ∃H' wv',RR Aq [.pointer (some ⟨p,0,none⟩)] H=some (W1 (str w),H')∧NS H' p i sp wv' tv ws n∧(∀j,Id wv' j→Id wv j)∧Frm (· = p) H H':=by
 obtain⟨H',wv',h1,h2,h3,h4⟩:=h.rs.next;exact⟨H',wv',h1,⟨h2,fun q=>h.wi (h3 i q),h.pi,by rw[h4.same i h.il (Ne.symm h.pi)];exact h.nd,Nat.lt_of_lt_of_le h.il h4.next⟩,h3,h4⟩
theorem NS.keep{H':Hp}(h:NS H p i sp wv tv ws n)(k:Frm (fun _=>False) H H'):NS H' p i sp wv tv ws n:=
 ⟨h.rs.keep k (fun q=>q) fun _ _ q=>q,h.wi,h.pi,by rw[k.same i h.il fun q=>q];exact h.nd,Nat.lt_of_lt_of_le h.il k.next⟩
theorem NS.st(h:NS H p i sp wv tv ws n){o:Nat}{v:Value}{m:Nd}(hc:zab v=[v])(h1:one v=true)(ho:o<7)(hs:spl n.cells o [v]=m.cells) :
  ∃H',(∀(α:Type) (k:Hp→Option α),zay 1 H (.pointer (some ⟨i,o,none⟩)) v k=k H')∧NS H' p i sp wv tv ws m∧Frm (· = i) H H':=by
 have hf:Frm (· = i) H (H.set i (some (.cells m.cells true))):=zgd _ _ _ _ rfl;refine⟨H.set i (some (.cells m.cells true)),fun α k=>?_,⟨h.rs.keep hf h.pi fun j hj q=>h.wi (by rw[q]at hj;exact hj),h.wi,h.pi,by rw[get_set,if_pos rfl],h.il⟩,hf⟩;have hw:zbE 1 n.cells o v=some m.cells:=by unfold zbE;rw[hc,if_pos ⟨rfl,by show o+1≤7;omega,by simp[h1]⟩,hs]
 have:H.wr (.pointer (some ⟨i,o,none⟩)) 1 v=some (H.set i (some (.cells m.cells true))):=by show (match H.get i with|some (.cells cs true)=>(match zbE 1 cs o v with|some cs'=>some (H.set i (some (.cells cs' true)))|none=>none)|_=>none)=_;rw[h.nd];dsimp only;rw[hw]
 unfold zay;rw[this]
theorem NS.ld(h:NS H p i sp wv tv ws n)(o:Nat)(v:Value)(hv:n.cells[o]?=some v){α:Type}(k:Value→Option α):zak 1 false H (.pointer (some ⟨i,o,none⟩)) k=k v:=zbO h.nd o v hv k
end
def PhA(H:Hp)(p i:Nat)(sp wv tv:Value)(out:Option (Nd×List (List UInt8)))(c:Ctl)(ok:List Value)(X:Option Outc):Prop:=
 match out with
 |none=>∃H',X=some (.ret,[W0 (zcJ 3)],H')∧Frm (fun j=>j=p∨j=i) H H'
 |some (m,ws')=>∃H' wv',X=some (c,ok,H')∧NS H' p i sp wv' tv ws' m∧(∀j,Id wv' j→Id wv j)∧Frm (fun j=>j=p∨j=i) H H'
theorem PhA.from{H H1:Hp}{p i:Nat}{sp wv wv1 tv:Value}{out:Option (Nd×List (List UInt8))}{c:Ctl}{ok:List Value}{X:Option Outc}(h:PhA H1 p i sp wv1 tv out c ok X)(hf:Frm (fun j=>j=p∨j=i) H H1)(hi:∀j,Id wv1 j→Id wv j):PhA H p i sp wv tv out c ok X:=by
 cases out with
 |none=>obtain⟨H',h1,h2⟩:=h;exact⟨H',h1,hf.trans h2 fun j q=>.inl q⟩
 |some q=>
  obtain⟨m,ws'⟩:=q;obtain⟨H',wv',h1,h2,h3,h4⟩:=h;exact⟨H',wv',h1,h2,fun j q=>hi j (h3 j q),hf.trans h4 fun j q=>.inl q⟩
theorem fr_p{H H':Hp}{p i:Nat}(h:Frm (· = p) H H'):Frm (fun j=>j=p∨j=i) H H':=h.mono fun j q=>.inl (.inl q)
theorem fr_i{H H':Hp}{p i:Nat}(h:Frm (· = i) H H'):Frm (fun j=>j=p∨j=i) H H':=h.mono fun j q=>.inl (.inr q)
theorem fr_0{H H':Hp}{p i:Nat}(h:Frm (fun _=>False) H H'):Frm (fun j=>j=p∨j=i) H H':=h.mono fun j q=>q.elim
structure Away(p i:Nat):Prop where
 p:PP.globals.size≤p
 i:PP.globals.size≤i
theorem Away.laid{H H':Hp}{p i:Nat}(h:Away p i)(hL:Laid H)(k:Frm (fun j=>j=p∨j=i) H H'):Laid H':=hL.keep k fun j q=>by rcases q with rfl|rfl;exact h.p;exact h.i
noncomputable def ph1(x0 p10:Value)(H12:Hp):Option Outc:=
 zat 0 p10 fun p13=>
 zak 1 false H12 p13 fun v14=>
 pBin PP .eql Aa v14 (.int .i64 3) fun v15=>
 zaa v15 fun b16=>br b16
 (zbI RR Ao [x0] H12 (fun e17 H18=>
 some (.ret,[(W0 e17)],H18)) fun r19 H20=>
 zat 1 p10 fun p21=>
 zay 1 H20 p21 r19 fun H22=>
 zbI RR Aq [x0] H22 (fun e23 H24=>
 some (.ret,[(W0 e23)],H24)) fun r25 H26=>
 zad RR AR [r25] H26 fun r27 H28=>
 zah r27 0 fun v29=>
 zah r27 1 fun v30=>
 pBin PP .neq Am v30 (.int .i64 0) fun v31=>
 zaa v31 fun b32=>br b32
 (zaS PP Ae [(0,(.int .i64 3))] fun v33=>
 some (.ret,[(W0 (.iface Ae v33))],H28))
 (zat 5 p10 fun p34=>
 zay 1 H28 p34 v29 fun H35=>
 some (.next,[],H35)))
 (pBin PP .eql Aa v14 (.int .i64 4) fun v36=>
 zaa v36 fun b37=>br b37
 (zbI RR Aq [x0] H12 (fun e38 H39=>
 some (.ret,[(W0 e38)],H39)) fun r40 H41=>
 zat 6 p10 fun p42=>
 zay 1 H41 p42 r40 fun H43=>
 zbI RR Ao [x0] H43 (fun e44 H45=>
 some (.ret,[(W0 e44)],H45)) fun r46 H47=>
 zat 1 p10 fun p48=>
 zay 1 H47 p48 r46 fun H49=>
 some (.next,[],H49))
 (some (.next,[],H12)))
def preF(op:Int):List Fld:=if op=3 then [.w,.n] else if op=4 then [.s,.w] else []
theorem ph1_ok{H:Hp}{p i:Nat}{sp wv tv:Value}{ws:List (List UInt8)}{n:Nd}(h:NS H p i sp wv tv ws n)(hA:Away p i)(hL:Laid H)(ts:List Int) :
  PhA H p i sp wv tv (rdF (preF n.op) ws ts 0 n) .next [] (ph1 (.pointer (some ⟨p,0,none⟩)) (.pointer (some ⟨i,0,none⟩)) H):=by
 have hop:∀{α:Type} (k:Value→Option α),zak 1 false H (.pointer (some ⟨i,0+0,none⟩)) k=k (.int .i64 n.op):=fun k=>h.ld 0 _ rfl k;unfold preF ph1;by_cases h3:n.op=3
 ·rw[if_pos h3,rd_w];have hn:=h.of (h.rs.number hL hA.p);have hop3:∀{α:Type} (k:Value→Option α),zak 1 false H (.pointer (some ⟨i,0+0,none⟩)) k=k (.int .i64 3):=fun k=>by rw[hop,h3]
  simp only[zaJ,hop3,zaF,zac,s_br,decide_true,if_true];cases hf:numF ws with
  |none=>
   rw[hf]at hn;obtain⟨H1,a1,a2⟩:=hn;rw[zcb a1];exact⟨H1,rfl,fr_p a2⟩
  |some v=>
   rw[hf]at hn;obtain⟨H1,wv1,a1,a2,a3,a4⟩:=hn;obtain⟨H2,b1,b2,b3⟩:=a2.st (o:=0+1) (v:=.int .i64 v) (m:={ n with w:=v }) rfl rfl (by decide) rfl;have hf2:Frm (fun j=>j=p∨j=i) H H2:=(fr_p a4).trans (fr_i b3) fun j q=>.inl q;rw[zca a1,b1];dsimp only;rw[rd_n3 _ _ _ _ _ (show ({ n with w:=v }:Nd).op=3 from h3)];cases hw:ws.tail with
   |nil=>
    rw[hw]at b2;rw[zcb b2.rs.stop];exact⟨H2,rfl,hf2⟩
   |cons w r=>
    rw[hw]at b2;obtain⟨H3,wv3,c1,c2,c3,c4⟩:=b2.next;have hf3:Frm (fun j=>j=p∨j=i) H H3:=hf2.trans (fr_p c4) fun j q=>.inl q;obtain⟨H4,d1,d2⟩:=zqw w (b2.rs.sh w (mem_cons_self ..)) H3 (hA.laid hL hf3);have hf4:Frm (fun j=>j=p∨j=i) H H4:=hf3.trans (fr_0 d2) fun j q=>.inl q;rw[zca c1,zaf d1];dsimp only;cases hx:numP w with
    |none=>
     refine⟨H4,?_,hf4⟩;have e0:∀{α:Type} (k:Value→Option α),zah (numV none) 0 k=k (.int .u64 0):=fun k=>rfl;have e1:∀{α:Type} (k:Value→Option α),zah (numV none) 1 k=k (.int .i64 10):=fun k=>rfl;simp only[e0,e1,za5,zac,s_br,zcA,show ((10:Int)≠0) from by decide,decide_true,if_true,ne_eq,not_false_eq_true]
    |some x=>
     obtain⟨H5,e1,e2,e3⟩:=(c2.keep d2).st (o:=0+5) (v:=.int .u64 (x:Int)) (m:={ n with w:=v,num:=(x:Int) }) rfl rfl (by decide) rfl;refine⟨H5,wv3,?_,e2,fun j q=>a3 j (c3 j q),hf4.trans (fr_i e3) fun j q=>.inl q⟩;have z0:∀{α:Type} (k:Value→Option α),zah (numV (some x)) 0 k=k (.int .u64 (x:Int)):=fun k=>rfl;have z1:∀{α:Type} (k:Value→Option α),zah (numV (some x)) 1 k=k (.int .i64 0):=fun k=>rfl;have hz:¬((0:Int)≠0):=by decide
     simp only[z0,z1,za5,zac,s_br,hz,decide_false,Bool.false_eq_true,if_false,e1]
 ·rw[if_neg h3];by_cases h4:n.op=4
  ·rw[if_pos h4,rd_s];have hop4:∀{α:Type} (k:Value→Option α),zak 1 false H (.pointer (some ⟨i,0+0,none⟩)) k=k (.int .i64 4):=fun k=>by rw[hop,h4]
   simp only[zaJ,hop4,zaF,zac,s_br,decide_true,if_true,show ¬((4:Int)=3) from by decide,decide_false,Bool.false_eq_true,if_false];cases ws with
   |nil=>
    rw[zcb h.rs.stop];exact⟨H,rfl,Frm.refl _ _⟩
   |cons w r=>
    obtain⟨H1,wv1,a1,a2,a3,a4⟩:=h.next;obtain⟨H2,b1,b2,b3⟩:=a2.st (o:=0+6) (v:=str w) (m:={ n with name:=ba w }) rfl rfl (by decide) rfl;have hf2:Frm (fun j=>j=p∨j=i) H H2:=(fr_p a4).trans (fr_i b3) fun j q=>.inl q;rw[zca a1,b1];dsimp only;rw[rd_w];have hn:=b2.of (b2.rs.number (hA.laid hL hf2) hA.p);cases hf:numF r with
    |none=>
     rw[hf]at hn;obtain⟨H3,c1,c2⟩:=hn;rw[zcb c1];exact⟨H3,rfl,hf2.trans (fr_p c2) fun j q=>.inl q⟩
    |some v=>
     rw[hf]at hn;obtain⟨H3,wv3,c1,c2,c3,c4⟩:=hn;obtain⟨H4,d1,d2,d3⟩:=c2.st (o:=0+1) (v:=.int .i64 v) (m:={ n with name:=ba w,w:=v }) rfl rfl (by decide) rfl;refine⟨H4,wv3,?_,d2,fun j q=>a3 j (c3 j q),(hf2.trans (fr_p c4) fun j q=>.inl q).trans (fr_i d3) fun j q=>.inl q⟩;rw[zca c1,d1]
  ·rw[if_neg h4];simp only[zaJ,hop,zaF,zac,s_br,h3,h4,decide_false,Bool.false_eq_true,if_false];exact⟨H,wv,rfl,h,fun j q=>q,Frm.refl _ _⟩
noncomputable def ph3(x0 p10:Value)(H:Hp):Option Outc:=
 zat 0 p10 fun p77=>
 zak 1 false H p77 fun v78=>
 pBin PP .eql Aa v78 (.int .i64 31) fun v79=>
 zaa v79 fun b80=>br b80
 (zbI RR Ao [x0] H (fun e81 H82=>
 some (.ret,[(W0 e81)],H82)) fun r83 H84=>
 zan .u64 r83 fun v85=>
 zat 5 p10 fun p86=>
 zay 1 H84 p86 v85 fun H87=>
 zbI RR Ao [x0] H87 (fun e88 H89=>
 some (.ret,[(W0 e88)],H89)) fun r90 H91=>
 zat 1 p10 fun p92=>
 zay 1 H91 p92 r90 fun H93=>
 some (.next,[],H93))
 (zav (
 pBin PP .eql Aa v78 (.int .i64 32) fun v94=>
 zaa v94 fun b95=>br b95
 (some (.next,[(.bool true)],H))
 (pBin PP .eql Aa v78 (.int .i64 33) fun v96=>
 some (.next,[v96],H))) fun q97 l98 H99=>zaB q97
 (zaa (l98.getD 0 undef) fun b101=>br b101
 (zbI RR Ao [x0] H99 (fun e102 H103=>
 some (.ret,[(W0 e102)],H103)) fun r104 H105=>
 zat 1 p10 fun p106=>
 zay 1 H105 p106 r104 fun H107=>
 some (.next,[],H107))
 (pBin PP .eql Aa v78 (.int .i64 14) fun v108=>
 zaa v108 fun b109=>br b109
 (pNil x0 (
 zat 0 x0 fun p110=>
 zak 1 false H99 p110 fun v111=>
 zat 3 p10 fun p112=>
 zak 1 false H99 p112 fun v113=>
 zad RR Al [v111,v113] H99 fun r114 H115=>
 zat 1 p10 fun p116=>
 zay 1 H115 p116 r114 fun H117=>
 some (.next,[],H117)))
 (pBin PP .eql Aa v78 (.int .i64 30) fun v118=>
 zaa v118 fun b119=>br b119
 (pNil x0 (
 zat 0 x0 fun p120=>
 zak 1 false H99 p120 fun v121=>
 zat 2 p10 fun p122=>
 zak 1 false H99 p122 fun v123=>
 zad RR Al [v121,v123] H99 fun r124 H125=>
 pNil x0 (
 zat 0 x0 fun p126=>
 zak 1 false H125 p126 fun v127=>
 chk (Hp.rdP H99 p126 1 false=some v127) (
 zat 3 p10 fun p128=>
 zak 1 false H125 p128 fun v129=>
 chk (Hp.rdP H99 p128 1 false=some v129) (
 zad RR Al [v127,v129] H125 fun r130 H131=>
 pBin PP .add Aa r124 r130 fun v132=>
 pMM false [v132,(.int .i64 65)] fun v133=>
 zat 1 p10 fun p134=>
 zay 1 H131 p134 v133 fun H135=>
 zat 1 p10 fun p136=>
 zak 1 false H135 p136 fun v137=>
 pBin PP .gtr Aa v137 (.int .i64 64) fun v138=>
 zaa v138 fun b139=>br b139
 (zat 1 p10 fun p140=>
 zay 1 H135 p140 (.int .i64 0) fun H141=>
 some (.next,[],H141))
 (some (.next,[],H135)))))))
 (pBin PP .geq Aa v78 (.int .i64 15) fun v142=>
 zaa v142 fun b143=>br b143
 (pBin PP .leq Aa v78 (.int .i64 29) fun v144=>
 zaa v144 fun b145=>br b145
 (pNil x0 (
 zat 0 x0 fun p146=>
 zak 1 false H99 p146 fun v147=>
 zat 2 p10 fun p148=>
 zak 1 false H99 p148 fun v149=>
 zad RR Al [v147,v149] H99 fun r150 H151=>
 zat 1 p10 fun p152=>
 zay 1 H151 p152 r150 fun H153=>
 some (.next,[],H153)))
 (some (.next,[],H99)))
 (some (.next,[],H99))))))
 (fun i100=>zax i100 3 (
 some (.next,[],H99)) (
 some (.exit i100,[],H99)))
 (some (.ret,[(l98.headD undef)],H99)))
theorem setP_op(k:Nat)(n:Nd)(t:Int):(setP k n t).op=n.op:=by
 unfold setP;split
 ·rfl
 ·split<;>rfl
theorem bld3p(i:Nat):∀{α:Type} (k:Value→Option α),zaS PP Cv [(0,.pointer (some ⟨i,0+2,none⟩)),(1,.pointer (some ⟨i,0+3,none⟩)),(2,.pointer (some ⟨i,0+4,none⟩))] k=k (.agg #[.pointer (some ⟨i,2,none⟩),.pointer (some ⟨i,3,none⟩),.pointer (some ⟨i,4,none⟩)]):=fun {α} k=>by
 have:zg3 PP Cv [(0,.pointer (some ⟨i,0+2,none⟩)),(1,.pointer (some ⟨i,0+3,none⟩)),(2,.pointer (some ⟨i,0+4,none⟩))]=some (.agg #[.pointer (some ⟨i,2,none⟩),.pointer (some ⟨i,3,none⟩),.pointer (some ⟨i,4,none⟩)]):=by kernel_rfl
 unfold zaS;rw[this]
theorem zqJ(k:Nat)(hk:k<3)(n:Nd)(t:Int):spl n.cells (2+k) [.int .i64 t]=(setP k n t).cells:=by
 match k,hk with
 |0,_=>rfl
 |1,_=>rfl
 |2,_=>rfl
theorem znq(op:Int):0≤zaj op∧zaj op≤3:=by
 unfold zaj;split
 ·decide
 ·split
  ·decide
  ·split<;>decide
theorem zpT{p i:Nat}{sp tv:Value}(hA:Away p i)(ts:List Int)(P:Nat)(hP:P≤3)(htp:¬Id tv p)(hti:¬Id tv i):∀(d k:Nat) (H:Hp) (wv:Value) (ws:List (List UInt8)) (n:Nd),k+d=P→NS H p i sp wv tv ws n→Laid H→Vec H 1 tv ts.length (i64s ts) →
  PhA H p i sp wv tv (rdF (List.replicate d .p) ws ts k n) (.exit 1) [.int .i64 (P:Int)] (zas (za3 RR (.pointer (some ⟨p,0,none⟩)) (.int .i64 (P:Int)) (.pointer (some ⟨i,0,none⟩))) [.int .i64 (k:Int)] H)
 |0,k,H,wv,ws,n,hk,h,hL,ht=>by
  have:za3 RR (.pointer (some ⟨p,0,none⟩)) (.int .i64 (P:Int)) (.pointer (some ⟨i,0,none⟩)) [.int .i64 (k:Int)] H=some (.exit 1,[.int .i64 (k:Int)],H):=by
   unfold za3;have h1:¬((k:Int)<(P:Int)):=by omega
   simp only[qg0,zaV,zac,s_br,h1,decide_false,Bool.false_eq_true,if_false]
  rw[zai,this];have hkp:k=P:=by omega
  subst hkp;exact⟨H,wv,rfl,h,fun j q=>q,Frm.refl _ _⟩
 |d+1,k,H,wv,ws,n,hk,h,hL,ht=>by
  rw[replicate_succ,rd_p];have h1:((k:Int)<(P:Int)):=by omega
  have hat:∀{α:Type} (kk:Value→Option α),zeh 3 false 1 (.agg #[.pointer (some ⟨i,2,none⟩),.pointer (some ⟨i,3,none⟩),.pointer (some ⟨i,4,none⟩)]) (.int .i64 (k:Int)) kk=kk (.pointer (some ⟨i,2+k,none⟩)):=fun kk=>by
   match k,(show k<3 by omega) with
   |0,_=>rfl
   |1,_=>rfl
   |2,_=>rfl
  have hn:=h.of (h.rs.part hL hA.p ht htp);cases hf:zj5 ts ws with
  |none=>
   rw[hf]at hn;obtain⟨H1,a1,a2⟩:=hn;have:za3 RR (.pointer (some ⟨p,0,none⟩)) (.int .i64 (P:Int)) (.pointer (some ⟨i,0,none⟩)) [.int .i64 (k:Int)] H=some (.ret,[W0 (zcJ 3)],H1):=by unfold za3;simp only[qg0,zaV,zac,s_br,h1,decide_true,if_true,zaJ,bld3p,hat];rw[zcb a1]
   rw[zai,this];exact⟨H1,rfl,fr_p a2⟩
  |some t=>
   rw[hf]at hn;obtain⟨H1,wv1,a1,a2,a3,a4⟩:=hn;obtain⟨H2,b1,b2,b3⟩:=a2.st (o:=2+k) (v:=.int .i64 t) (m:=setP k n t) rfl rfl (by omega) (zqJ k (by omega) n t);have hf2:Frm (fun j=>j=p∨j=i) H H2:=(fr_p a4).trans (fr_i b3) fun j q=>.inl q;have hinc:IntKind.i64.wrap ((k:Int)+1)=((k+1:Nat):Int):=w64 (by omega) (by omega);have:za3 RR (.pointer (some ⟨p,0,none⟩)) (.int .i64 (P:Int)) (.pointer (some ⟨i,0,none⟩)) [.int .i64 (k:Int)] H=some (.next,[.int .i64 ((k+1:Nat):Int)],H2):=by unfold za3;simp only[qg0,zaV,zac,s_br,h1,decide_true,if_true,zaJ,bld3p,hat];rw[zca a1,zbA,b1,zaN,hinc]
   rw[zai,this];dsimp only;refine PhA.from (zpT hA ts P hP htp hti d (k+1) H2 wv1 ws.tail (setP k n t) (by omega) b2 (hA.laid hL hf2) (ht.keep hf2 fun j hj q=>?_)) hf2 a3;rcases q with rfl|rfl
   ·exact htp hj
   ·exact hti hj
def postF(op:Int):List Fld:=if op=31 then [.n,.w] else if op=32∨op=33 then [.w] else []
def zc5(L:List Nd)(n:Nd):Int:=
 if n.op=14 then wT L (-1) n.b else if n.op=30 then (if wT L (-1) n.a+wT L (-1) n.b>64 then 0 else wT L (-1) n.a+wT L (-1) n.b)
 else if 15≤n.op∧n.op≤29 then wT L (-1) n.a else n.w
def impl(L:List Nd)(q:Nd×List (List UInt8)):Nd×List (List UInt8):=({ q.1 with w:=zc5 L q.1 },q.2)
theorem ziY{H:Hp}{i:Nat}{cs:List Value}{own:Bool}(h:H.get i=some (.cells cs own))(o:Nat)(v:Value)(hv:cs[o]?=some v):Hp.rdP H (.pointer (some ⟨i,o,none⟩)) 1 false=some v:=by simp[Hp.rdP,Hp.rd,h,zcx,hv]
theorem ph3_ok{H:Hp}{p i:Nat}{st f g:Nat}{lim:Int}{L:List Nd}{K:List (ByteArray×Int)}{sl:Value}{wv tv:Value}{ws:List (List UInt8)}{n:Nd}
  (h:NS H p i (.pointer (some ⟨st,0,none⟩)) wv tv ws n) (hA:Away p i) (hL:Laid H) (hS:StF H st lim L K sl f g) (hR:zmW L) (ts:List Int) :
  PhA H p i (.pointer (some ⟨st,0,none⟩)) wv tv ((rdF (postF n.op) ws ts (zaj n.op).toNat n).map (impl L)) .next [] (ph3 (.pointer (some ⟨p,0,none⟩)) (.pointer (some ⟨i,0,none⟩)) H):=by
 have hop:∀{α:Type} (k:Value→Option α),zak 1 false H (.pointer (some ⟨i,0+0,none⟩)) k=k (.int .i64 n.op):=fun k=>h.ld 0 _ rfl k;have hna:∀{α:Type} (k:Value→Option α),zak 1 false H (.pointer (some ⟨i,0+2,none⟩)) k=k (.int .i64 n.a):=fun k=>h.ld 2 _ rfl k;have hnb:∀{α:Type} (k:Value→Option α),zak 1 false H (.pointer (some ⟨i,0+3,none⟩)) k=k (.int .i64 n.b):=fun k=>h.ld 3 _ rfl k;have hsp:∀{α:Type} (k:Value→Option α),zak 1 false H (.pointer (some ⟨p,0+0,none⟩)) k=k (.pointer (some ⟨st,0,none⟩)):=fun k=>zbO h.rs.rd 0 _ rfl k;have rsp:Hp.rdP H (.pointer (some ⟨p,0+0,none⟩)) 1 false=some (.pointer (some ⟨st,0,none⟩)):=ziY h.rs.rd 0 _ rfl;have rnb:Hp.rdP H (.pointer (some ⟨i,0+3,none⟩)) 1 false=some (.int .i64 n.b):=ziY h.nd 3 _ rfl;have ba:=zm1 hR.w n.a;have bb:=zm1 hR.w n.b;unfold postF ph3;by_cases h31:n.op=31
 ·rw[if_pos h31];have hop':∀{α:Type} (k:Value→Option α),zak 1 false H (.pointer (some ⟨i,0+0,none⟩)) k=k (.int .i64 31):=fun k=>by rw[hop,h31]
  simp only[zaJ,hop',zaF,zac,s_br,decide_true,if_true];rw[rd_n _ _ _ _ _ (by omega)];have hn:=h.of (h.rs.number hL hA.p);cases hf:numF ws with
  |none=>
   rw[hf]at hn;obtain⟨H1,a1,a2⟩:=hn;rw[zcb a1];exact⟨H1,rfl,fr_p a2⟩
  |some v=>
   rw[hf]at hn;obtain⟨H1,wv1,a1,a2,a3,a4⟩:=hn;have hb:=numF_bd hf;obtain⟨H2,b1,b2,b3⟩:=a2.st (o:=0+5) (v:=.int .u64 v) (m:={ n with num:=v }) rfl rfl (by decide) rfl;have hf2:Frm (fun j=>j=p∨j=i) H H2:=(fr_p a4).trans (fr_i b3) fun j q=>.inl q;have hcv:∀{α:Type} (k:Value→Option α),zan .u64 (.int .i64 v) k=k (.int .u64 v):=fun k=>by show k (.int .u64 (IntKind.u64.wrap v))=_;rw[u64 (by omega) (by omega)]
   rw[zca a1,hcv,b1];dsimp only;rw[rd_w];have hn2:=b2.of (b2.rs.number (hA.laid hL hf2) hA.p);cases hf':numF ws.tail with
   |none=>
    rw[hf']at hn2;obtain⟨H3,c1,c2⟩:=hn2;rw[zcb c1];exact⟨H3,rfl,hf2.trans (fr_p c2) fun j q=>.inl q⟩
   |some u=>
    rw[hf']at hn2;obtain⟨H3,wv3,c1,c2,c3,c4⟩:=hn2;obtain⟨H4,d1,d2,d3⟩:=c2.st (o:=0+1) (v:=.int .i64 u) (m:={ n with num:=v,w:=u }) rfl rfl (by decide) rfl;refine⟨H4,wv3,?_,?_,fun j q=>a3 j (c3 j q),(hf2.trans (fr_p c4) fun j q=>.inl q).trans (fr_i d3) fun j q=>.inl q⟩
    ·rw[zca c1,d1]
    ·have e:zc5 L { n with num:=v,w:=u }=u:=by unfold zc5;rw[if_neg (show ¬n.op=14 by omega),if_neg (show ¬n.op=30 by omega),if_neg (show ¬(15≤n.op∧n.op≤29) by omega)]
     show NS H4 p i _ wv3 tv ws.tail.tail { n with num:=v,w:=zc5 L { n with num:=v,w:=u } };rw[e];exact d2
 ·rw[if_neg h31];by_cases h32:n.op=32∨n.op=33
  ·rw[if_pos h32,rd_w];have hn:=h.of (h.rs.number hL hA.p);have hX:∀(X Y:Option Outc),(zav (pBin PP .eql Aa (.int .i64 n.op) (.int .i64 32) fun v94=>zaa v94 fun b95=>br b95 (some (.next,[(.bool true)],H)) (pBin PP .eql Aa (.int .i64 n.op) (.int .i64 33) fun v96=>some (.next,[v96],H))):(Ctl→List Value→Hp→Option Outc)→Option Outc)=fun k=>k .next [.bool true] H:=fun X Y=>by
    funext k;rcases h32 with q|q
    ·simp only[zaF,zac,s_br,q,decide_true,if_true,zal]
    ·simp only[zaF,zac,s_br,q,decide_true,if_true,zal,show ¬((33:Int)=32) from by decide,decide_false,Bool.false_eq_true,if_false]
   have hX:=congrFun (hX none none);simp only[zaJ,hop,zaF,zac,s_br,h31,decide_false,Bool.false_eq_true,if_false]at hX ⊢;rw[hX,zaA];simp only[qg0,zac,s_br,if_true];cases hf:numF ws with
   |none=>
    rw[hf]at hn;obtain⟨H1,a1,a2⟩:=hn;rw[zcb a1];exact⟨H1,rfl,fr_p a2⟩
   |some v=>
    rw[hf]at hn;obtain⟨H1,wv1,a1,a2,a3,a4⟩:=hn;obtain⟨H2,b1,b2,b3⟩:=a2.st (o:=0+1) (v:=.int .i64 v) (m:={ n with w:=v }) rfl rfl (by decide) rfl;refine⟨H2,wv1,?_,?_,a3,(fr_p a4).trans (fr_i b3) fun j q=>.inl q⟩
    ·rw[zca a1,b1]
    ·have e:zc5 L { n with w:=v }=v:=by unfold zc5;rw[if_neg (show ¬n.op=14 by omega),if_neg (show ¬n.op=30 by omega),if_neg (show ¬(15≤n.op∧n.op≤29) by omega)]
     show NS H2 p i _ wv1 tv ws.tail { n with w:=zc5 L { n with w:=v } };rw[e];exact b2
  ·rw[if_neg h32];have h32a:¬n.op=32:=fun q=>h32 (.inl q);have h32b:¬n.op=33:=fun q=>h32 (.inr q);have fin:∀(w:Int) (X:Option Outc),zc5 L n=w→(∀H',(∀(α:Type) (k:Hp→Option α),zay 1 H (.pointer (some ⟨i,0+1,none⟩)) (.int .i64 w) k=k H')→X=some (.next,[],H')) →
     PhA H p i (.pointer (some ⟨st,0,none⟩)) wv tv ((rdF [] ws ts (zaj n.op).toNat n).map (impl L)) .next [] X:=fun w X hw hX=>by
    obtain⟨H2,b1,b2,b3⟩:=h.st (o:=0+1) (v:=.int .i64 w) (m:={ n with w:=w }) rfl rfl (by decide) rfl;refine⟨H2,wv,hX H2 b1,?_,fun j q=>q,fr_i b3⟩;rw[hw];exact b2
   simp only[zaJ,hop,zaF,zac,s_br,h31,h32a,h32b,decide_false,Bool.false_eq_true,if_false,zal,zaA,qg0];by_cases h14:n.op=14
   ·refine fin (wT L (-1) n.b) _ (by unfold zc5;rw[if_pos h14]) fun H' hs=>?_;simp only[h14,decide_true,if_true,zbA,zaJ,hsp,hnb,zaf (c40 hS.st hR.len),hs]
   ·by_cases h30:n.op=30
    ·simp only[h14,h30,show ¬((30:Int)=14) from by decide,decide_true,decide_false,Bool.false_eq_true,if_true,if_false,zbA,zaJ,hsp,hna,hnb,zaf (c40 hS.st hR.len),rsp,rnb,zha];by_cases hs:wT L (-1) n.a+wT L (-1) n.b>64
     ·have hw:zc5 L n=0:=by unfold zc5;rw[if_neg h14,if_pos h30,if_pos hs]
      have hsum:IntKind.i64.wrap (wT L (-1) n.a+wT L (-1) n.b)=wT L (-1) n.a+wT L (-1) n.b:=zaq (by omega) (by omega);have hmm:∀{α:Type} (k:Value→Option α),pMM false [.int .i64 (wT L (-1) n.a+wT L (-1) n.b),.int .i64 65] k=k (.int .i64 65):=fun k=>by
       show k (.int .i64 (if (65:Int)<wT L (-1) n.a+wT L (-1) n.b then 65 else wT L (-1) n.a+wT L (-1) n.b))=_;split
       ·rfl
       ·have:wT L (-1) n.a+wT L (-1) n.b=65:=by omega
        rw[this]
      obtain⟨H2,b1,b2,b3⟩:=h.st (o:=0+1) (v:=.int .i64 65) (m:={ n with w:=65 }) rfl rfl (by decide) rfl;have hld:∀{α:Type} (k:Value→Option α),zak 1 false H2 (.pointer (some ⟨i,0+1,none⟩)) k=k (.int .i64 65):=fun k=>b2.ld 1 _ rfl k;obtain⟨H3,c1,c2,c3⟩:=b2.st (o:=0+1) (v:=.int .i64 0) (m:={ n with w:=0 }) rfl rfl (by decide) rfl;refine⟨H3,wv,?_,?_,fun j q=>q,(fr_i b3).trans (fr_i c3) fun j q=>.inl q⟩
      ·simp only[zaN,hsum,hmm,b1,hld,zbp,show ((65:Int)>64) from by decide,decide_true,if_true,c1,zac,s_br]
      ·rw[hw];exact c2
     ·refine fin (wT L (-1) n.a+wT L (-1) n.b) _ (by unfold zc5;rw[if_neg h14,if_pos h30,if_neg hs]) fun H' hst=>?_;obtain⟨H2,b1,b2,b3⟩:=h.st (o:=0+1) (v:=.int .i64 (wT L (-1) n.a+wT L (-1) n.b)) (m:={ n with w:=wT L (-1) n.a+wT L (-1) n.b }) rfl rfl (by decide) rfl;have hHH:H'=H2:=by have e1:=hst Hp some;have e2:=b1 Hp some;rw[e1]at e2;exact Option.some.inj e2
      subst hHH;have hsum:IntKind.i64.wrap (wT L (-1) n.a+wT L (-1) n.b)=wT L (-1) n.a+wT L (-1) n.b:=zaq (by omega) (by omega);have hmm:∀{α:Type} (k:Value→Option α),pMM false [.int .i64 (wT L (-1) n.a+wT L (-1) n.b),.int .i64 65] k=k (.int .i64 (wT L (-1) n.a+wT L (-1) n.b)):=fun k=>by show k (.int .i64 (if (65:Int)<wT L (-1) n.a+wT L (-1) n.b then 65 else wT L (-1) n.a+wT L (-1) n.b))=_;rw[if_neg (by omega)]
      have hld:∀{α:Type} (k:Value→Option α),zak 1 false H' (.pointer (some ⟨i,0+1,none⟩)) k=k (.int .i64 (wT L (-1) n.a+wT L (-1) n.b)):=fun k=>b2.ld 1 _ rfl k;simp only[zaN,hsum,hmm,b1,hld,zbp,hs,decide_false,Bool.false_eq_true,if_false,zac,s_br]
    ·have same:∀X:Option Outc,(¬(15≤n.op∧n.op≤29))→X=some (.next,[],H)→PhA H p i (.pointer (some ⟨st,0,none⟩)) wv tv ((rdF [] ws ts (zaj n.op).toNat n).map (impl L)) .next [] X:=fun X hq hX=>by
      refine⟨H,wv,hX,?_,fun j q=>q,Frm.refl _ _⟩;have:zc5 L n=n.w:=by unfold zc5;rw[if_neg h14,if_neg h30,if_neg hq]
      show NS H p i _ wv tv ws { n with w:=zc5 L n };rw[this];exact h
     simp only[h14,h30,decide_false,Bool.false_eq_true,if_false,zbt,zb0,zac,s_br];by_cases q1:n.op≥15
     ·by_cases q2:n.op≤29
      ·refine fin (wT L (-1) n.a) _ (by unfold zc5;rw[if_neg h14,if_neg h30,if_pos ⟨q1,q2⟩]) fun H' hs=>?_;simp only[q1,q2,decide_true,if_true,zbA,zaJ,hsp,hna,zaf (c40 hS.st hR.len),hs]
      ·refine same _ (by omega) ?_;simp only[q1,q2,decide_true,decide_false,Bool.false_eq_true,if_true,if_false]
     ·refine same _ (by omega) ?_;simp only[q1,decide_false,Bool.false_eq_true,if_false]
theorem zoT(base:Nat)(hb:0<base):∀(l:List UInt8) (v x:Nat),v≤18446744073709551615→numL base l v=some x→x≤18446744073709551615
 |[],v,x,hv,h=>by cases h;exact hv
 |b::r,v,x,hv,h=>by
  unfold numL at h;split at h
  ·cases h
  ·split at h
   ·cases h
   ·rename_i h1 h2;refine zoT base hb r _ x ?_ h;have hd:(digV b.toNat base).toNat≤15:=by have:=zpj b.toNat base;omega
    have hm:v*base≤18446744073709551615-(digV b.toNat base).toNat:=(Nat.le_div_iff_mul_le hb).1 (by omega);omega
theorem numP_lt{l:List UInt8}{x:Nat}(h:numP l=some x):x<18446744073709551616:=by
 unfold numP at h;split at h
 ·split at h
  ·cases h
  ·have:=zoT 16 (by decide) _ _ _ (by omega) h;omega
 ·split at h
  ·cases h
  ·have:=zoT 10 (by decide) _ _ _ (by omega) h;omega
def zk3(n:Nd):Prop:=0≤n.num∧n.num<18446744073709551616
theorem setF_ok{f:Fld}{w:List UInt8}{ts:List Int}{k:Nat}{n m:Nd}(h:setF f w ts k n=some m):m.op=n.op∧(zk3 n→zk3 m):=by
 unfold setF at h;split at h
 ·split at h
  ·cases h;refine⟨setP_op k n _,fun q=>?_⟩;unfold setP;split
   ·exact q
   ·split<;>exact q
  ·cases h
 ·split at h
  ·cases h
  ·rename_i x hx;split at h
   ·cases h;exact⟨rfl,fun _=>⟨Int.natCast_nonneg x,Int.ofNat_lt.2 (numP_lt hx)⟩⟩
   ·cases h
 ·split at h
  ·cases h
  ·cases h;exact⟨rfl,fun q=>q⟩
 ·cases h;exact⟨rfl,fun q=>q⟩
theorem ziZ:∀(fs:List Fld) (ws:List (List UInt8)) (ts:List Int) (k:Nat) (n m:Nd) (ws':List (List UInt8)),rdF fs ws ts k n=some (m,ws')→m.op=n.op∧(zk3 n→zk3 m)
 |[],ws,ts,k,n,m,ws',h=>by cases h;exact⟨rfl,fun q=>q⟩
 |f::fs,[],ts,k,n,m,ws',h=>by cases h
 |f::fs,w::ws,ts,k,n,m,ws',h=>by
  rw[zcX]at h;cases hs:setF f w ts k n with
  |none=>rw[hs]at h;cases h
  |some q=>
   rw[hs]at h;have h1:=setF_ok hs;have h2:=ziZ fs ws ts _ q m ws' h;exact⟨h2.1.trans h1.1,fun z=>h2.2 (h1.2 z)⟩
def zdL(op:Int):List Fld:=preF op++(List.replicate (zaj op).toNat .p++postF op)
def nd0(op:Int):Nd:=⟨op,0,0,0,0,0,⟨#[]⟩⟩
def zoU(ws:List (List UInt8))(ts:List Int)(L:List Nd):Option Nd:=match ws with
 |[]=>none
 |o::r=>match opF o with
  |none=>none
  |some op=>match rdF (zdL (op:Int)) r ts 0 (nd0 (op:Int)) with
   |some (m,[])=>some { m with w:=zc5 L m }
   |_=>none
theorem zqV(op:Int):(preF op).count .p=0:=by
 unfold preF;split
 ·rfl
 ·split<;>rfl
def NodeA(H:Hp)(p st f g:Nat)(lim:Int)(L:List Nd)(K:List (ByteArray×Int))(sl wv tv:Value)(r:Option Nd):Prop:=match r with
 |none=>∃H',RR AP [.pointer (some ⟨p,0,none⟩)] H=some (W0 (zcJ 3),H')∧Frm (fun j=>j=p∨Foot st f g sl j) H H'
 |some m=>((mkR lim L K m).2.1≠0→∃H',RR AP [.pointer (some ⟨p,0,none⟩)] H=some (W0 (zcJ (mkR lim L K m).2.1),H')∧Frm (fun j=>j=p∨Foot st f g sl j) H H') ∧
  ((mkR lim L K m).2.1=0→∃H' wv' sl',RR AP [.pointer (some ⟨p,0,none⟩)] H=some (W1 (.int .i64 (mkR lim L K m).1),H')∧RdS H' p (.pointer (some ⟨st,0,none⟩)) wv' tv []∧StF H' st lim (mkR lim L K m).2.2.1 (mkR lim L K m).2.2.2 sl' f g ∧
   Frm (fun j=>j=p∨Foot st f g sl j) H H'∧(∀j,Foot st f g sl' j→Foot st f g sl j∨H.next≤j)∧(∀j,Id wv' j→Id wv j))
theorem c_node{H:Hp}{p:Nat}{st f g:Nat}{lim:Int}{L:List Nd}{K:List (ByteArray×Int)}{sl:Value}{wv tv:Value}{ws:List (List UInt8)}{ts:List Int}
  (h:RdS H p (.pointer (some ⟨st,0,none⟩)) wv tv ws) (hp:PP.globals.size≤p) (hL:Laid H) (hS:StF H st lim L K sl f g) (hR:zmW L) (ht:Vec H 1 tv ts.length (i64s ts)) (htp:¬Id tv p)
  (hfp:¬Foot st f g sl p) (hfw:∀j,Id wv j→¬Foot st f g sl j):NodeA H p st f g lim L K sl wv tv (zoU ws ts L):=by
 have hrun:=zhP E0 rfl (.pointer (some ⟨p,0,none⟩)) H;rw[zig]at hrun;have wid:∀{H':Hp},Frm (· = p) H H'→Frm (fun j=>j=p∨Foot st f g sl j) H H':=fun k=>k.mono fun j q=>.inl (.inl q);cases ws with
 |nil=>
  rw[zcb h.stop]at hrun;exact⟨H,hrun,Frm.refl _ _⟩
 |cons o r=>
  obtain⟨H1,wv1,a1,a2,a3,a4⟩:=h.next;have hL1:Laid H1:=hL.keep a4 fun j q=>by rw[q];exact hp
  obtain⟨H2,b1,b2⟩:=zpo o H1 hL1;rw[zca a1]at hrun;have hf2:Frm (· = p) H H2:=a4.trans (b1.mono fun j q=>q.elim) fun j q=>.inl q;unfold zoU;dsimp only;cases ho:opF o with
  |none=>
   rw[ho]at b2;rw[zcb b2]at hrun;exact⟨H2,hrun,wid hf2⟩
  |some op=>
   rw[ho]at b2;have hob:=opF_bd ho;rw[zca b2,b0]at hrun;dsimp only;let i:=H2.next
   let H3:=H2.new (.cells [.int .i64 0,.int .i64 0,.int .i64 0,.int .i64 0,.int .i64 0,.int .u64 0,.string ⟨#[]⟩] true)
   let n0:Nd:=nd0 (op:Int)
   let H4:=H3.set i (some (.cells n0.cells true))
   have hpi:p≠i:=by have:=h.pl;have:=hf2.next;show p≠H2.next;omega
   have hst7:∀{α:Type} (k:Hp→Option α),zay 7 H3 (.pointer (some ⟨i,0,none⟩)) n0.val k=k H4:=fun k=>by
    have e:H3.wr (.pointer (some ⟨i,0,none⟩)) 7 n0.val=some H4:=by
     have hg:H3.get i=some (.cells [.int .i64 0,.int .i64 0,.int .i64 0,.int .i64 0,.int .i64 0,.int .u64 0,.string ⟨#[]⟩] true):=if_pos rfl;have hw:zbE 7 [.int .i64 0,.int .i64 0,.int .i64 0,.int .i64 0,.int .i64 0,.int .u64 0,.string ⟨#[]⟩] 0 n0.val=some n0.cells:=by kernel_rfl
     show (match H3.get i with|some (.cells cs true)=>(match zbE 7 cs 0 n0.val with|some cs'=>some (H3.set i (some (.cells cs' true)))|none=>none)|_=>none)=_;rw[hg];dsimp only;rw[hw]
    unfold zay;rw[e]
   have hf24:Frm (fun _=>False) H2 H4:=(zcv _ _ _).trans (zgd H3 i _ (· = i) rfl) fun j q=>.inr (by rw[q];exact Nat.le_refl _);have hf4:Frm (· = p) H H4:=hf2.trans (hf24.mono fun j q=>q.elim) fun j q=>.inl q;have hN:NS H4 p i (.pointer (some ⟨st,0,none⟩)) wv1 tv r n0:=by
    have h2:RdS H2 p (.pointer (some ⟨st,0,none⟩)) wv1 tv r:=a2.keep b1 (fun q=>q) fun _ _ q=>q;refine⟨h2.keep hf24 (fun q=>q) (fun _ _ q=>q),fun q=>?_,hpi,by show (H3.set i _).get i=_;rw[get_set,if_pos rfl],by show H2.next<H2.next+1;omega⟩;have:i<H2.next:=by
     rcases h2.wd with⟨_,e⟩|⟨y,c,pre,rest,own,e,_,_,hlt⟩
     ·rw[e]at q;cases q
     ·rw[e]at q;have e2:y=i:=Option.some.inj q;rw[e2]at hlt;exact hlt
    exact Nat.lt_irrefl _ this
   have hA:Away p i:=⟨hp,by have:=hL.next;have:=hf2.next;show _≤H2.next;omega⟩
   have hti:¬Id tv i:=fun q=>by have:=ht.lt q;have:=hf2.next;have:i=H2.next:=rfl;omega
   have hL4:Laid H4:=hL.keep hf4 fun j q=>by rw[q];exact hp
   have bkk:∀{H':Hp},Frm (fun j=>j=p∨j=i) H4 H'→Frm (· = p) H H':=fun k=>hf4.trans (k.mono fun j q=>.inl q) fun j q=>by
    rcases q with q|q
    ·exact .inl q
    ·right;rw[q];exact hf2.next
   have hpa:∀{α:Type} (k:Value→Hp→Option α),zfj [.int .i64 0,.int .i64 0,.int .i64 0,.int .i64 0,.int .i64 0,.int .u64 0,.string ⟨#[]⟩] H2 k=k (.pointer (some ⟨i,0,none⟩)) H3:=fun k=>rfl;rw[hpa,show (Nd.val ⟨(op:Int),0,0,0,0,0,⟨#[]⟩⟩)=n0.val from rfl,hst7]at hrun;have p1:=ph1_ok hN hA hL4 ts;have hfl:rdF (zdL (op:Int)) r ts 0 n0=match rdF (preF n0.op) r ts 0 n0 with
     |none=>none
     |some (m1,w1)=>match rdF (List.replicate (zaj m1.op).toNat .p) w1 ts 0 m1 with
      |none=>none
      |some (m2,w2)=>rdF (postF m2.op) w2 ts (zaj m2.op).toNat m2:=by
    unfold zdL;rw[rdF_app,show n0.op=(op:Int) from rfl];cases e1:rdF (preF (op:Int)) r ts 0 n0 with
    |none=>rfl
    |some q1=>
     obtain⟨m1,w1⟩:=q1;have o1:m1.op=(op:Int):=(ziZ _ _ _ _ _ _ _ e1).1;dsimp only;rw[rdF_app,zqV,o1,Nat.add_zero];cases e2:rdF (List.replicate (zaj (op:Int)).toNat .p) w1 ts 0 m1 with
     |none=>rfl
     |some q2=>
      obtain⟨m2,w2⟩:=q2;have o2:m2.op=(op:Int):=(ziZ _ _ _ _ _ _ _ e2).1.trans o1;dsimp only;rw[o2,Nat.zero_add,count_replicate_self]
   show NodeA H p st f g lim L K sl wv tv (match rdF (zdL (op:Int)) r ts 0 n0 with
    |some (m,[])=>some { m with w:=zc5 L m }
    |_=>none)
   rw[hfl];have no:zk3 n0:=⟨by show (0:Int)≤0;decide,by show (0:Int)<18446744073709551616;decide⟩
   cases e1:rdF (preF n0.op) r ts 0 n0 with
   |none=>
    rw[e1]at p1;obtain⟨H5,c1,c2⟩:=p1;have c1:ph1 (.pointer (some ⟨p,0,none⟩)) (.pointer (some ⟨i,0,none⟩)) H4=some (.ret,[W0 (zcJ 3)],H5):=c1;refine⟨H5,hrun.trans ?_,wid (bkk c2)⟩;show zav (ph1 (.pointer (some ⟨p,0,none⟩)) (.pointer (some ⟨i,0,none⟩)) H4) _=_;rw[c1];rfl
   |some q1=>
    obtain⟨m1,w1⟩:=q1;rw[e1]at p1;obtain⟨H5,wv5,c1,c2,c3,c4⟩:=p1;have g1:=ziZ _ _ _ _ _ _ _ e1;have hL5:Laid H5:=hA.laid hL4 c4;have ht5:Vec H5 1 tv ts.length (i64s ts):=ht.keep (bkk c4) fun j hj q=>htp (by rw[q]at hj;exact hj);have hb:=znq m1.op;obtain⟨P,hP⟩:∃P:Nat,zaj m1.op=(P:Int):=⟨(zaj m1.op).toNat,by omega⟩
    have p2:=zpT hA ts P (by omega) htp hti P 0 H5 wv5 w1 m1 (by omega) c2 hL5 ht5;have hrun2:RR AP [.pointer (some ⟨p,0,none⟩)] H=_:=hrun;have hop5:∀{α:Type} (k:Value→Option α),zak 1 false H5 (.pointer (some ⟨i,0+0,none⟩)) k=k (.int .i64 m1.op):=fun k=>c2.ld 0 _ rfl k;dsimp only;have hPn:(zaj m1.op).toNat=P:=by omega
    rw[hPn];have hrun3:=hrun.trans (show zav (ph1 (.pointer (some ⟨p,0,none⟩)) (.pointer (some ⟨i,0,none⟩)) H4) _=_ by rw[c1,zal,zaA,zaJ,hop5,zaf (c29 m1.op H5),hP]);have p2':PhA H5 p i (.pointer (some ⟨st,0,none⟩)) wv5 tv (rdF (List.replicate P .p) w1 ts 0 m1) (.exit 1) [.int .i64 (P:Int)] (zas (za3 RR (.pointer (some ⟨p,0,none⟩)) (.int .i64 (P:Int)) (.pointer (some ⟨i,0,none⟩))) [.int .i64 0] H5):=p2;cases e2:rdF (List.replicate P .p) w1 ts 0 m1 with
    |none=>
     rw[e2]at p2';obtain⟨H6,d1,d2⟩:=p2';refine⟨H6,hrun3.trans ?_,wid (bkk (c4.trans d2 fun j q=>.inl q))⟩;rw[d1];rfl
    |some q2=>
     obtain⟨m2,w2⟩:=q2;rw[e2]at p2';obtain⟨H6,wv6,d1,d2,d3,d4⟩:=p2';have g2:=ziZ _ _ _ _ _ _ _ e2;have c46:Frm (fun j=>j=p∨j=i) H4 H6:=c4.trans d4 fun j q=>.inl q;have hL6:Laid H6:=hA.laid hL4 c46;have hS6:StF H6 st lim L K sl f g:=hS.keep (fun j hj=>(bkk c46).same j (hS.foot_lt hj) fun q=>hfp (by rw[q]at hj;exact hj)) (bkk c46).next;have p3:=ph3_ok d2 hA hL6 hS6 hR ts;dsimp only;cases e3:rdF (postF m2.op) w2 ts (zaj m2.op).toNat m2 with
     |none=>
      rw[e3]at p3;obtain⟨H7,x1,x2⟩:=p3;have x1:ph3 (.pointer (some ⟨p,0,none⟩)) (.pointer (some ⟨i,0,none⟩)) H6=some (.ret,[W0 (zcJ 3)],H7):=x1;refine⟨H7,hrun3.trans ?_,wid (bkk (c46.trans x2 fun j q=>.inl q))⟩;rw[d1,zal,za0,zaz];show zav (ph3 (.pointer (some ⟨p,0,none⟩)) (.pointer (some ⟨i,0,none⟩)) H6) _=_;rw[x1];rfl
     |some q3=>
      obtain⟨m3,w3⟩:=q3;rw[e3]at p3;obtain⟨H7,wv7,x1,x2,x3,x4⟩:=p3;have g3:=ziZ _ _ _ _ _ _ _ e3;have x1:ph3 (.pointer (some ⟨p,0,none⟩)) (.pointer (some ⟨i,0,none⟩)) H6=some (.next,[],H7):=x1;have c47:Frm (fun j=>j=p∨j=i) H4 H7:=c46.trans x4 fun j q=>.inl q;let m:Nd:={ m3 with w:=zc5 L m3 }
      have x2:NS H7 p i (.pointer (some ⟨st,0,none⟩)) wv7 tv w3 m:=x2;have hwv:∀{α:Type} (k:Value→Option α),zak 1 false H7 (.pointer (some ⟨p,0+1,none⟩)) k=k wv7:=fun k=>zbO x2.rs.rd 1 _ rfl k;have hsp:∀{α:Type} (k:Value→Option α),zak 1 false H7 (.pointer (some ⟨p,0+0,none⟩)) k=k (.pointer (some ⟨st,0,none⟩)):=fun k=>zbO x2.rs.rd 0 _ rfl k;have hrun4:=hrun3.trans (show _=_ by rw[d1,zal,za0,zaz]);have hrun5:=hrun4.trans (show zav (ph3 (.pointer (some ⟨p,0,none⟩)) (.pointer (some ⟨i,0,none⟩)) H6) _=_ by rw[x1,zal,zaA,zbA,zaJ,hwv,x2.rs.wd.len]);cases w3 with
      |cons w w3=>
       refine⟨H7,hrun5.trans ?_,wid (bkk c47)⟩;have hz:(((w::w3).length:Int)>0):=by rw[length_cons];omega
       simp only[zbp,hz,decide_true,zac,s_br,if_true,zcA]
      |nil=>
       have hz:¬((([]:List (List UInt8)).length:Int)>0):=by decide
       have hld7:∀{α:Type} (k:Value→Option α),zak 7 true H7 (.pointer (some ⟨i,0,none⟩)) k=k m.val:=fun k=>by
        have e:H7.rdP (.pointer (some ⟨i,0,none⟩)) 7 true=some m.val:=by simp only[Hp.rdP,Hp.rd,x2.nd,zcx];kernel_rfl
        unfold zak;rw[e]
       have hS7:StF H7 st lim L K sl f g:=hS.keep (fun j hj=>(bkk c47).same j (hS.foot_lt hj) fun q=>hfp (by rw[q]at hj;exact hj)) (bkk c47).next;have hm:zk3 m:=g3.2 (g2.2 (g1.2 no));obtain⟨H8,sl8,y1,y2⟩:=d22 hS7 hR m hm
       have hrun6:=hrun5.trans (show _=_ by
        simp only[zbp,hz,decide_false,zac,s_br,Bool.false_eq_true,if_false,zbA,zaJ,hsp,hld7]
        rw[zaf y1,x01])
       have hfm:Frm (Foot st f g sl) H7 H8:=⟨y2.next,fun j hj hn=>y2.frame j hj (fun q=>hn (.inl q)) (fun q=>hn (.inr (.inl q))) (fun q=>hn (.inr (.inr (.inl q)))) (fun q=>hn (.inr (.inr (.inr q))))⟩
       have hff:Frm (fun j=>j=p∨Foot st f g sl j) H H8:=(wid (bkk c47)).trans (hfm.mono fun j q=>.inl q) fun j q=>.inl (.inr q);refine⟨fun hne=>⟨H8,hrun6.trans ?_,hff⟩,fun heq=>⟨H8,wv7,sl8,hrun6.trans ?_,?_,y2.st,hff,fun j q=>?_,fun j q=>a3 j (c3 j (d3 j (x3 j q)))⟩⟩
       ·have hne:¬((mkR lim L K m).2.1=0):=hne;simp only[za5,hne,ne_eq,not_false_eq_true,decide_true,zac,s_br,if_true,zcA];rfl
       ·have e0:¬((mkR lim L K m).2.1≠0):=fun q=>q heq;simp only[za5,e0,decide_false,zac,s_br,Bool.false_eq_true,if_false];rfl
       ·exact x2.rs.keep hfm hfp fun j hj=>hfw j (a3 j (c3 j (d3 j (x3 j hj))))
       ·rcases q with q|q|q|q
        ·exact .inl (.inl q)
        ·exact .inl (.inr (.inl q))
        ·exact .inl (.inr (.inr (.inl q)))
        ·rcases y2.own j q with z|z
         ·exact .inl (.inr (.inr (.inr z)))
         ·right;have:=(bkk c47).next;omega
structure Reg(B:Nat)(H:Hp)(r:Nat→Nat→Prop):Prop where
 lt:∀a j,r a j→j<H.next
 lo:∀a j,r a j→B≤j
 ap:∀a b j,r a j→r b j→a=b
def InR(S:List Nat)(r:Nat→Nat→Prop)(j:Nat):Prop:=∃a,a∈S∧r a j
theorem Reg.off{B:Nat}{H:Hp}{r:Nat→Nat→Prop}(h:Reg B H r){S:List Nat}{b j:Nat}(hj:r b j)(hb:b∉S):¬InR S r j:=fun⟨a,ha,hr⟩=>hb (h.ap a b j hr hj▸ha)
theorem Reg.upd{B:Nat}{H H':Hp}{r r':Nat→Nat→Prop}(h:Reg B H r)(a:Nat)(hn:H.next≤H'.next)(hg:B≤H.next)(same:∀b j,b≠a→r' b j→r b j)(new:∀j,r' a j→r a j∨(H.next≤j∧j<H'.next)):Reg B H' r':=by
 have key:∀b j,r' b j→r b j∨(b=a∧H.next≤j∧j<H'.next):=fun b j hj=>by
  by_cases e:b=a
  ·subst e;rcases new j hj with q|q
   ·exact .inl q
   ·exact .inr ⟨rfl,q⟩
  ·exact .inl (same b j e hj)
 refine⟨fun b j hj=>?_,fun b j hj=>?_,fun b c j hb hc=>?_⟩
 ·rcases key b j hj with q|⟨_,_,q⟩
  ·exact Nat.lt_of_lt_of_le (h.lt b j q) hn
  ·exact q
 ·rcases key b j hj with q|⟨_,q,_⟩
  ·exact h.lo b j q
  ·omega
 ·rcases key b j hb with q|⟨q,q1,_⟩<;>rcases key c j hc with z|⟨z,z1,_⟩
  ·exact h.ap b c j q z
  ·have:=h.lt b j q;omega
  ·have:=h.lt c j z;omega
  ·rw[q,z]
def LRg(p1 p3 p5 st f g p:Nat)(sl lv tv rv wv:Value):Nat→Nat→Prop
 |0=>fun j=>j=p1
 |1=>fun j=>j=p3
 |2=>fun j=>j=p5
 |3=>Foot st f g sl
 |4=>Id lv
 |5=>fun j=>j=p
 |6=>Id tv
 |7=>Id rv
 |8=>Id wv
 |_=>fun _=>False
structure LS(B:Nat)(H:Hp)(p1 p3 p5 st f g p:Nat)(lim:Int)(lv:Value)(lines:List (List UInt8))(L:List Nd)(K:List (ByteArray×Int))(sl tv:Value)(ts:List Int)(rv:Value)(rs:List Int)(wv:Value)(ws:List (List UInt8)):Prop where
 gB:PP.globals.size≤B
 bn:B≤H.next
 reg:Reg B H (LRg p1 p3 p5 st f g p sl lv tv rv wv)
 b1:H.get p1=some (.cells [.pointer (some ⟨st,0,none⟩)] true)
 b3:H.get p3=some (.cells [rv] true)
 b5:H.get p5=some (.cells [.int .i64 0] true)
 store:StF H st lim L K sl f g
 lin:Vec H 1 lv lines.length (lines.map str)
 rd:RdS H p (.pointer (some ⟨st,0,none⟩)) wv tv ws
 tv:Vec H 1 tv ts.length (i64s ts)
 rv:Vec H 1 rv rs.length (i64s rs)
 laid:Laid H
section
variable {B:Nat}{H H':Hp}{p1 p3 p5 st f g p:Nat}{lim:Int}{lv:Value}{lines:List (List UInt8)}{L:List Nd}{K:List (ByteArray×Int)}{sl tv:Value}{ts:List Int}{rv:Value}{rs:List Int}{wv:Value}{ws:List (List UInt8)}
theorem LS.off(h:LS B H p1 p3 p5 st f g p lim lv lines L K sl tv ts rv rs wv ws)(S:List Nat)(b:Nat)(hb:b∉S){j:Nat}(hj:LRg p1 p3 p5 st f g p sl lv tv rv wv b j):¬InR S (LRg p1 p3 p5 st f g p sl lv tv rv wv) j:=h.reg.off hj hb
theorem LS.lay(h:LS B H p1 p3 p5 st f g p lim lv lines L K sl tv ts rv rs wv ws){S:List Nat}(k:Frm (InR S (LRg p1 p3 p5 st f g p sl lv tv rv wv)) H H'):Laid H':=h.laid.keep k fun j ⟨a,_,q⟩=>Nat.le_trans h.gB (h.reg.lo a j q)
theorem LS.up(h:LS B H p1 p3 p5 st f g p lim lv lines L K sl tv ts rv rs wv ws){S:List Nat}(k:Frm (InR S (LRg p1 p3 p5 st f g p sl lv tv rv wv)) H H'):Frm (B ≤ ·) H H':=k.mono fun j ⟨a,_,q⟩=>.inl (h.reg.lo a j q)
theorem LS.read(h:LS B H p1 p3 p5 st f g p lim lv lines L K sl tv ts rv rs wv ws)(k:Frm (· = p) H H'){wv':Value}{ws':List (List UInt8)}(hr:RdS H' p (.pointer (some ⟨st,0,none⟩)) wv' tv ws')(hw:∀j,Id wv' j→Id wv j∨(H.next≤j∧j<H'.next)) :
  LS B H' p1 p3 p5 st f g p lim lv lines L K sl tv ts rv rs wv' ws':=by
 have k':Frm (InR [5] (LRg p1 p3 p5 st f g p sl lv tv rv wv)) H H':=k.mono fun j q=>.inl ⟨5,by simp,q⟩;have o:∀b j,b∉[5]→LRg p1 p3 p5 st f g p sl lv tv rv wv b j→H'.get j=H.get j:=fun b j hb hj=>k'.same j (h.reg.lt b j hj) (h.off [5] b hb hj)
 refine⟨h.gB,Nat.le_trans h.bn k.next,h.reg.upd 8 k.next h.bn (fun b j hb hj=>?_) fun j hj=>hw j hj,by rw[o 0 p1 (by decide) rfl];exact h.b1,by rw[o 1 p3 (by decide) rfl];exact h.b3,by rw[o 2 p5 (by decide) rfl];exact h.b5,
  h.store.keep (fun j hj=>o 3 j (by decide) hj) k.next,h.lin.keep' (fun j hj=>o 4 j (by decide) hj) k.next,hr,h.tv.keep' (fun j hj=>o 6 j (by decide) hj) k.next,h.rv.keep' (fun j hj=>o 7 j (by decide) hj) k.next,h.lay k'⟩
 match b,hb,hj with
 |0,_,hj=>exact hj
 |1,_,hj=>exact hj
 |2,_,hj=>exact hj
 |3,_,hj=>exact hj
 |4,_,hj=>exact hj
 |5,_,hj=>exact hj
 |6,_,hj=>exact hj
 |7,_,hj=>exact hj
 |8,hb,_=>exact absurd rfl hb
 |n+9,_,hj=>exact hj
theorem LS.grow(h:LS B H p1 p3 p5 st f g p lim lv lines L K sl tv ts rv rs wv ws)(k:Frm (fun j=>j=p∨Foot st f g sl j) H H'){wv':Value}{ws':List (List UInt8)}(hr:RdS H' p (.pointer (some ⟨st,0,none⟩)) wv' tv ws')(hw:∀j,Id wv' j→Id wv j)
  {L':List Nd} {K':List (ByteArray×Int)} {sl':Value} (hs:StF H' st lim L' K' sl' f g) (hf:∀j,Foot st f g sl' j→Foot st f g sl j∨H.next≤j) :
  LS B H' p1 p3 p5 st f g p lim lv lines L' K' sl' tv ts rv rs wv' ws':=by
 have k':Frm (InR [3,5] (LRg p1 p3 p5 st f g p sl lv tv rv wv)) H H':=k.mono fun j q=>.inl (by rcases q with q|q;exact⟨5,by simp,q⟩;exact⟨3,by simp,q⟩);have o:∀b j,b∉[3,5]→LRg p1 p3 p5 st f g p sl lv tv rv wv b j→H'.get j=H.get j:=fun b j hb hj=>k'.same j (h.reg.lt b j hj) (h.off [3,5] b hb hj)
 have r1:Reg B H' (LRg p1 p3 p5 st f g p sl' lv tv rv wv):=h.reg.upd 3 k.next h.bn (fun b j hb hj=>by
  match b,hb,hj with
  |0,_,hj=>exact hj
  |1,_,hj=>exact hj
  |2,_,hj=>exact hj
  |3,hb,_=>exact absurd rfl hb
  |4,_,hj=>exact hj
  |5,_,hj=>exact hj
  |6,_,hj=>exact hj
  |7,_,hj=>exact hj
  |8,_,hj=>exact hj
  |n+9,_,hj=>exact hj) fun j hj=>(hf j hj).imp id fun q=>⟨q,hs.foot_lt hj⟩
 have r2:Reg B H' (LRg p1 p3 p5 st f g p sl' lv tv rv wv'):=r1.upd 8 (Nat.le_refl _) (Nat.le_trans h.bn k.next) (fun b j hb hj=>by
  match b,hb,hj with
  |0,_,hj=>exact hj
  |1,_,hj=>exact hj
  |2,_,hj=>exact hj
  |3,_,hj=>exact hj
  |4,_,hj=>exact hj
  |5,_,hj=>exact hj
  |6,_,hj=>exact hj
  |7,_,hj=>exact hj
  |8,hb,_=>exact absurd rfl hb
  |n+9,_,hj=>exact hj) fun j hj=>.inl (hw j hj)
 exact⟨h.gB,Nat.le_trans h.bn k.next,r2,by rw[o 0 p1 (by decide) rfl];exact h.b1,by rw[o 1 p3 (by decide) rfl];exact h.b3,by rw[o 2 p5 (by decide) rfl];exact h.b5,
  hs,h.lin.keep' (fun j hj=>o 4 j (by decide) hj) k.next,hr,h.tv.keep' (fun j hj=>o 6 j (by decide) hj) k.next,h.rv.keep' (fun j hj=>o 7 j (by decide) hj) k.next,h.lay k'⟩
theorem zhM{α:Type}(z x:Int)(H:Hp)(k:Value→Hp→Option α):zam 1 [.int .i64 z] 1 [(0,.int .i64 x)] H k=k (.slice (some ⟨H.next,0,some 1⟩) 1 1) (H.new (.cells [.int .i64 x] true)):=by
 have:zbR 1 [.int .i64 z] 1 [(0,.int .i64 x)] H=some (.slice (some ⟨H.next,0,some 1⟩) 1 1,H.new (.cells [.int .i64 x] true)):=by unfold zbR;rw[if_neg (by decide)];rfl
 unfold zam;rw[this]
theorem zhD{cs:List Value}{o:Nat}{v:Value}{i:Nat}(hg:H.get i=some (.cells cs true))(hc:zab v=[v])(h1:one v=true)(ho:o<cs.length){α:Type}(k:Hp→Option α) :
  zay 1 H (.pointer (some ⟨i,o,none⟩)) v k=k (H.set i (some (.cells (spl cs o [v]) true))):=by
 have hw:zbE 1 cs o v=some (spl cs o [v]):=by unfold zbE;rw[hc,if_pos ⟨rfl,by omega,by simp[h1]⟩]
 have:H.wr (.pointer (some ⟨i,o,none⟩)) 1 v=some (H.set i (some (.cells (spl cs o [v]) true))):=by show (match H.get i with|some (.cells cs true)=>(match zbE 1 cs o v with|some cs'=>some (H.set i (some (.cells cs' true)))|none=>none)|_=>none)=_;rw[hg];dsimp only;rw[hw]
 unfold zay;rw[this]
theorem zec{sz:Nat}{v:Value}{n:Nat}{cs:List Value}(h:Vec H sz v n cs):zab v=[v]∧one v=true:=by rcases h with⟨_,_,rfl⟩|⟨y,c,rest,rfl,_⟩<;>exact⟨rfl,rfl⟩
theorem zjr{v:Value}{l:List Int}(h:Vec H 1 v l.length (i64s l))(hl:l.length≤2^40)(x z:Int) :
  ∃v' H',(∀(α:Type) (k:Value→Hp→Option α),zaH 1 8 v (.slice (some ⟨H.next,0,some 1⟩) 1 1) (H.new (.cells [.int .i64 x] true)) k=k v' H')∧Vec H' 1 v' (l++[x]).length (i64s (l++[x]))∧Frm (Id v) H H'∧(∀j,Id v' j→Id v j∨(H.next≤j∧j<H'.next)):=by
 obtain⟨v',H',h1,h2,h3,h4,_⟩:=h.push (bytes:=8) (zs:=[.int .i64 z]) (x:=.int .i64 x) (by omega) (by omega) rfl rfl rfl (by omega);refine⟨v',H',fun α k=>?_,?_,h3,fun j hj=>(h4 j hj).imp id fun q=>⟨q,h2.lt hj⟩⟩
 ·have:=h1 α k;rw[zhM]at this;exact this
 ·have e:i64s (l++[x])=i64s l++zab (.int .i64 x):=by simp[i64s,zab,Value.cells]
  rw[length_append,e];exact h2
theorem LS.root(h:LS B H p1 p3 p5 st f g p lim lv lines L K sl tv ts rv rs wv ws)(hl:rs.length≤2^40)(x z:Int) :
  ∃rv' H',(∀(α:Type) (k:Hp→Option α),(zam 1 [.int .i64 z] 1 [(0,.int .i64 x)] H fun v88 H89=>chk (Hp.rdP H89 (.pointer (some ⟨p3,0,none⟩)) 1 false=some rv) (zaH 1 8 rv v88 H89 fun v90 H91=>zay 1 H91 (.pointer (some ⟨p3,0,none⟩)) v90 k))=k H') ∧
   LS B H' p1 p3 p5 st f g p lim lv lines L K sl tv ts rv' (rs++[x]) wv ws∧Frm (InR [1,7] (LRg p1 p3 p5 st f g p sl lv tv rv wv)) H H'∧(∀j,Id rv' j→Id rv j∨H.next≤j):=by
 obtain⟨rv',H1,a1,a2,a3,a4⟩:=zjr h.rv hl x z;have hp3:p3<H.next:=h.reg.lt 1 p3 rfl;have n3:¬Id rv p3:=fun q=>by have:=h.reg.ap 1 7 p3 rfl q;omega
 have g3:H1.get p3=some (.cells [rv] true):=by rw[a3.same p3 hp3 n3];exact h.b3
 have n3':¬Id rv' p3:=fun q=>by
  rcases a4 p3 q with z|z
  ·exact n3 z
  ·omega
 have f2:Frm (· = p3) H1 (H1.set p3 (some (.cells [rv'] true))):=zgd _ _ _ _ rfl;have k':Frm (InR [1,7] (LRg p1 p3 p5 st f g p sl lv tv rv wv)) H (H1.set p3 (some (.cells [rv'] true))):=(a3.mono fun j q=>.inl ⟨7,by simp,q⟩).trans (f2.mono fun j q=>.inl q) fun j q=>.inl ⟨1,by simp,q⟩;have o:∀b j,b∉[1,7]→LRg p1 p3 p5 st f g p sl lv tv rv wv b j→(H1.set p3 (some (.cells [rv'] true))).get j=H.get j:=fun b j hb hj=>k'.same j (h.reg.lt b j hj) (h.off [1,7] b hb hj)
 have r1:Reg B (H1.set p3 (some (.cells [rv'] true))) (LRg p1 p3 p5 st f g p sl lv tv rv' wv):=h.reg.upd 7 k'.next h.bn (fun b j hb hj=>by
  match b,hb,hj with
  |0,_,hj=>exact hj
  |1,_,hj=>exact hj
  |2,_,hj=>exact hj
  |3,_,hj=>exact hj
  |4,_,hj=>exact hj
  |5,_,hj=>exact hj
  |6,_,hj=>exact hj
  |7,hb,_=>exact absurd rfl hb
  |8,_,hj=>exact hj
  |n+9,_,hj=>exact hj) a4
 refine⟨rv',H1.set p3 (some (.cells [rv'] true)),fun α k=>?_,⟨h.gB,Nat.le_trans h.bn k'.next,r1,by rw[o 0 p1 (by decide) rfl];exact h.b1,by rw[get_set,if_pos rfl],by rw[o 2 p5 (by decide) rfl];exact h.b5,
  h.store.keep (fun j hj=>o 3 j (by decide) hj) k'.next,h.lin.keep' (fun j hj=>o 4 j (by decide) hj) k'.next,h.rd.keep k' (h.off [1,7] 5 (by decide) rfl) fun j hj=>h.off [1,7] 8 (by decide) hj,
  h.tv.keep' (fun j hj=>o 6 j (by decide) hj) k'.next,a2.keep f2 fun j hj e=>n3' (by rw[e]at hj;exact hj),h.lay k'⟩,k',fun j hj=>(a4 j hj).imp id fun q=>q.1⟩
 rw[zhM];have hrd:Hp.rdP (H.new (.cells [.int .i64 x] true)) (.pointer (some ⟨p3,0,none⟩)) 1 false=some rv:=ziY (own:=true) (cs:=[rv]) (by rw[get_new,if_neg (by omega)];exact h.b3) 0 rv rfl;rw[zha hrd,a1];exact zhD g3 (zec a2).1 (zec a2).2 (by show 0<1;decide) k
theorem LS.term(h:LS B H p1 p3 p5 st f g p lim lv lines L K sl tv ts rv rs wv ws)(hl:ts.length≤2^40)(x z:Int) :
  ∃tv' H',(∀(α:Type) (k:Hp→Option α),(zam 1 [.int .i64 z] 1 [(0,.int .i64 x)] H fun v88 H89=>zaH 1 8 tv v88 H89 fun v90 H91=>zay 1 H91 (.pointer (some ⟨p,0+2,none⟩)) v90 k)=k H') ∧
   LS B H' p1 p3 p5 st f g p lim lv lines L K sl tv' (ts++[x]) rv rs wv ws∧Frm (InR [5,6] (LRg p1 p3 p5 st f g p sl lv tv rv wv)) H H'∧(∀j,Id tv' j→Id tv j∨H.next≤j):=by
 obtain⟨tv',H1,a1,a2,a3,a4⟩:=zjr h.tv hl x z;have hp:p<H.next:=h.reg.lt 5 p rfl;have n3:¬Id tv p:=fun q=>by have:=h.reg.ap 5 6 p rfl q;omega
 have g3:H1.get p=some (.cells [.pointer (some ⟨st,0,none⟩),wv,tv] true):=by rw[a3.same p hp n3];exact h.rd.rd
 have n3':¬Id tv' p:=fun q=>by
  rcases a4 p q with z|z
  ·exact n3 z
  ·omega
 let H2:=H1.set p (some (.cells [.pointer (some ⟨st,0,none⟩),wv,tv'] true))
 have f2:Frm (· = p) H1 H2:=zgd _ _ _ _ rfl;have k':Frm (InR [5,6] (LRg p1 p3 p5 st f g p sl lv tv rv wv)) H H2:=(a3.mono fun j q=>.inl ⟨6,by simp,q⟩).trans (f2.mono fun j q=>.inl q) fun j q=>.inl ⟨5,by simp,q⟩;have o:∀b j,b∉[5,6]→LRg p1 p3 p5 st f g p sl lv tv rv wv b j→H2.get j=H.get j:=fun b j hb hj=>k'.same j (h.reg.lt b j hj) (h.off [5,6] b hb hj)
 have r1:Reg B H2 (LRg p1 p3 p5 st f g p sl lv tv' rv wv):=h.reg.upd 6 k'.next h.bn (fun b j hb hj=>by
  match b,hb,hj with
  |0,_,hj=>exact hj
  |1,_,hj=>exact hj
  |2,_,hj=>exact hj
  |3,_,hj=>exact hj
  |4,_,hj=>exact hj
  |5,_,hj=>exact hj
  |6,hb,_=>exact absurd rfl hb
  |7,_,hj=>exact hj
  |8,_,hj=>exact hj
  |n+9,_,hj=>exact hj) a4
 refine⟨tv',H2,fun α k=>?_,⟨h.gB,Nat.le_trans h.bn k'.next,r1,by rw[o 0 p1 (by decide) rfl];exact h.b1,by rw[o 1 p3 (by decide) rfl];exact h.b3,by rw[o 2 p5 (by decide) rfl];exact h.b5,
  h.store.keep (fun j hj=>o 3 j (by decide) hj) k'.next,h.lin.keep' (fun j hj=>o 4 j (by decide) hj) k'.next,
  ⟨by show (H1.set p _).get p=_;rw[get_set,if_pos rfl],h.rd.wd.keep k' fun j hj=>h.off [5,6] 8 (by decide) hj,h.rd.wp,Nat.lt_of_lt_of_le hp k'.next,h.rd.sh⟩,
  a2.keep f2 fun j hj e=>n3' (by rw[e]at hj;exact hj),h.rv.keep' (fun j hj=>o 7 j (by decide) hj) k'.next,h.lay k'⟩,k',fun j hj=>(a4 j hj).imp id fun q=>q.1⟩
 rw[zhM,a1];exact zhD g3 (zec a2).1 (zec a2).2 (by show 2<3;decide) k
end
def zcD(ts:List Int):List (List UInt8)→Option (List Int)
 |[]=>some []
 |w::r=>match zj5 ts (w::r) with
  |none=>none
  |some t=>match zcD ts r with
   |none=>none
   |some l=>some (t::l)
theorem zlp{B:Nat}{p1 p3 p5 st f g p:Nat}{lim:Int}{lv:Value}{lines:List (List UInt8)}{L:List Nd}{K:List (ByteArray×Int)}{sl tv:Value}{ts:List Int}(lineV:Value):∀(ws:List (List UInt8)) (H:Hp) (rv:Value) (rs:List Int) (wv:Value),LS B H p1 p3 p5 st f g p lim lv lines L K sl tv ts rv rs wv ws→rs.length+ws.length≤2^40 →
  match zcD ts ws with
  |none=>∃H' rv',zas (zbL RR lineV (.pointer (some ⟨p3,0,none⟩)) (.pointer (some ⟨p,0,none⟩))) [] H=some (.ret,[W0 (.tuple #[zcJ 3,lineV])],H')∧(H'.get p1=H.get p1∧H'.get p3=some (.cells [rv'] true)∧H'.get p5=H.get p5)∧Frm (B ≤ ·) H H'
  |some l=>∃H' rv' wv',zas (zbL RR lineV (.pointer (some ⟨p3,0,none⟩)) (.pointer (some ⟨p,0,none⟩))) [] H=some (.exit 2,[],H')∧LS B H' p1 p3 p5 st f g p lim lv lines L K sl tv ts rv' (rs++l) wv' []∧Frm (B ≤ ·) H H'
 |[],H,rv,rs,wv,h,hl=>by
  have hw:=fun (α:Type) (k:Value→Option α)=>zbO h.rd.rd (0+1) wv rfl k;have this:zbL RR lineV (.pointer (some ⟨p3,0,none⟩)) (.pointer (some ⟨p,0,none⟩)) [] H=some (.exit 2,[],H):=by
   unfold zbL;have h1:¬(((([]:List (List UInt8)).length:Nat):Int)>0):=by decide
   simp only[zbA,zaJ,hw,h.rd.wd.len,zbp,h1,decide_false,zac,s_br,Bool.false_eq_true,if_false]
  refine⟨H,rv,wv,by rw[zai,this];rfl,by rw[append_nil];exact h,Frm.refl _ _⟩
 |w::r,H,rv,rs,wv,h,hl=>by
  have hw:=fun (α:Type) (k:Value→Option α)=>zbO h.rd.rd (0+1) wv rfl k;have h1:((((w::r).length:Nat):Int)>0):=by rw[length_cons];omega
  have hr3:=fun (α:Type) (k:Value→Option α)=>zbO h.b3 0 rv rfl k;have hn:=h.rd.part h.laid (Nat.le_trans h.gB (h.reg.lo 5 p rfl)) h.tv (fun q=>by have:=h.reg.ap 5 6 p rfl q;omega);rw[length_cons]at hl;unfold zcD;cases hp:zj5 ts (w::r) with
  |none=>
   rw[hp]at hn;obtain⟨H1,a1,a2⟩:=hn;have k':Frm (InR [5] (LRg p1 p3 p5 st f g p sl lv tv rv wv)) H H1:=a2.mono fun j q=>.inl ⟨5,by simp,q⟩;have o:∀b j,b∉[5]→LRg p1 p3 p5 st f g p sl lv tv rv wv b j→H1.get j=H.get j:=fun b j hb hj=>k'.same j (h.reg.lt b j hj) (h.off [5] b hb hj);have this:zbL RR lineV (.pointer (some ⟨p3,0,none⟩)) (.pointer (some ⟨p,0,none⟩)) [] H=some (.ret,[W0 (.tuple #[zcJ 3,lineV])],H1):=by unfold zbL;simp only[zbA,zaJ,hw,h.rd.wd.len,zbp,h1,decide_true,zac,s_br,if_true,hr3];rw[zcb a1]
   exact⟨H1,rv,by rw[zai,this];rfl,⟨o 0 p1 (by decide) rfl,by rw[o 1 p3 (by decide) rfl];exact h.b3,o 2 p5 (by decide) rfl⟩,h.up k'⟩
  |some t=>
   rw[hp]at hn;obtain⟨H1,wv1,a1,a2,a3,a4⟩:=hn;have h2:=h.read a4 a2 fun j q=>.inl (a3 j q);obtain⟨rv2,H2,b1,b2,b3,b4⟩:=h2.root (by omega) t 0;have this:zbL RR lineV (.pointer (some ⟨p3,0,none⟩)) (.pointer (some ⟨p,0,none⟩)) [] H=some (.next,[],H2):=by unfold zbL;simp only[zbA,zaJ,hw,h.rd.wd.len,zbp,h1,decide_true,zac,s_br,if_true,hr3];rw[zca a1,zha (ziY h2.b3 0 rv rfl),b1]
   have f2:Frm (B ≤ ·) H H2:=(h.up (S:=[5]) (a4.mono fun j q=>.inl ⟨5,by simp,q⟩)).trans (h2.up b3) fun j q=>.inl q;have back2:∀{H':Hp},Frm (B ≤ ·) H2 H'→Frm (B ≤ ·) H H':=fun k=>f2.trans k fun j q=>.inl q;have ih:=zlp lineV r H2 rv2 (rs++[t]) wv1 b2 (by rw[length_append];simp;omega);dsimp only;have hk1:H2.get p1=H.get p1:=by rw[b2.b1,h.b1]
   have hk5:H2.get p5=H.get p5:=by rw[b2.b5,h.b5]
   cases hq:zcD ts r with
   |none=>
    rw[hq]at ih;obtain⟨H3,rv3,c1,⟨c2,c3,c4⟩,c5⟩:=ih;refine⟨H3,rv3,?_,⟨c2.trans hk1,c3,c4.trans hk5⟩,back2 c5⟩;rw[zai,this];exact c1
   |some l=>
    rw[hq]at ih;obtain⟨H3,rv3,wv3,c1,c2,c5⟩:=ih;refine⟨H3,rv3,wv3,?_,?_,back2 c5⟩
    ·rw[zai,this];exact c1
    ·rw[append_assoc]at c2;exact c2
theorem zpw{l:List UInt8}(hl:l.length≤2^40):∀w∈zbv l,w.length≤2^40:=fun w hw=>by
 unfold zbv at hw;obtain⟨q,_,rfl⟩:=mem_map.1 hw;have h:(zbY l q).length≤l.length:=by unfold zbY;rw[length_drop,length_take];omega
 omega
section
variable {B:Nat}{H H':Hp}{p1 p3 p5 st f g p:Nat}{lim:Int}{lv:Value}{lines:List (List UInt8)}{L:List Nd}{K:List (ByteArray×Int)}{sl tv:Value}{ts:List Int}{rv:Value}{rs:List Int}{wv:Value}{ws:List (List UInt8)}
theorem LS.words(h:LS B H p1 p3 p5 st f g p lim lv lines L K sl tv ts rv rs wv ws){l:List UInt8}(hl:l.length≤2^40) :
  ∃v H1 H2,RR AK [str l,spF] H=some (v,H1)∧(∀(α:Type) (k:Hp→Option α),zay 1 H1 (.pointer (some ⟨p,0+1,none⟩)) v k=k H2)∧LS B H2 p1 p3 p5 st f g p lim lv lines L K sl tv ts rv rs v (zbv l)∧Frm (B ≤ ·) H H2:=by
 obtain⟨v,H1,a1,a2,a3,a4⟩:=c_fields l hl H;have g1:H1.get p=some (.cells [.pointer (some ⟨st,0,none⟩),wv,tv] true):=by rw[a3.same p h.rd.pl fun q=>q];exact h.rd.rd
 let H2:=H1.set p (some (.cells [.pointer (some ⟨st,0,none⟩),v,tv] true))
 have f2:Frm (· = p) H1 H2:=zgd _ _ _ _ rfl;have k':Frm (· = p) H H2:=(a3.mono fun j q=>q.elim).trans f2 fun j q=>.inl q;have hvp:¬Id v p:=fun q=>by have:=a4 p q;have:=h.rd.pl;omega
 have hr:RdS H2 p (.pointer (some ⟨st,0,none⟩)) v tv (zbv l):=⟨by show (H1.set p _).get p=_;rw[get_set,if_pos rfl],(Vec.wds a2).keep f2 fun j hj e=>hvp (by rw[e]at hj;exact hj),hvp,Nat.lt_of_lt_of_le h.rd.pl k'.next,zpw hl⟩
 have h2:=h.read k' hr fun j hj=>.inr ⟨a4 j hj,Nat.lt_of_lt_of_le (a2.lt hj) f2.next⟩;exact⟨v,H1,H2,a1,fun α k=>zhD g1 (zec a2).1 (zec a2).2 (by show 1<3;decide) k,h2,h.up (S:=[5]) (k'.mono fun j q=>.inl ⟨5,by simp,q⟩)⟩
end
def zef:List UInt8:=[114,111,111,116,115]
def zky(ws:List (List UInt8))(ts:List Int)(L:List Nd):Option Nd:=match numF ws with
 |none=>none
 |some v=>if v=((ts.length+1:Nat):Int) then zoU ws.tail ts L else none
def Gone(H:Hp)(p1 p3 p5 st:Nat):Prop:=H.get p1=some (.cells [.pointer (some ⟨st,0,none⟩)] true)∧(∃rv,H.get p3=some (.cells [rv] true))∧H.get p5=some (.cells [.int .i64 0] true)
section
variable {B:Nat}{H H':Hp}{p1 p3 p5 st f g p:Nat}{lim:Int}{lv:Value}{lines:List (List UInt8)}{L:List Nd}{K:List (ByteArray×Int)}{sl tv:Value}{ts:List Int}{rv:Value}{rs:List Int}{wv:Value}{ws:List (List UInt8)}
theorem LS.gone(h:LS B H p1 p3 p5 st f g p lim lv lines L K sl tv ts rv rs wv ws):Gone H p1 p3 p5 st:=⟨h.b1,⟨rv,h.b3⟩,h.b5⟩
theorem LS.goneF(h:LS B H p1 p3 p5 st f g p lim lv lines L K sl tv ts rv rs wv ws){S:List Nat}(k:Frm (InR S (LRg p1 p3 p5 st f g p sl lv tv rv wv)) H H')(h0:0∉S)(h1:1∉S)(h2:2∉S):Gone H' p1 p3 p5 st:=by have o:∀b j,b∉S→LRg p1 p3 p5 st f g p sl lv tv rv wv b j→H'.get j=H.get j:=fun b j hb hj=>k.same j (h.reg.lt b j hj) (h.off S b hb hj);exact⟨by rw[o 0 p1 h0 rfl];exact h.b1,⟨rv,by rw[o 1 p3 h1 rfl];exact h.b3⟩,by rw[o 2 p5 h2 rfl];exact h.b5⟩
def StepF(B:Nat)(H:Hp)(p1 p3 p5 st:Nat)(e:Int)(i:Nat)(X:Option Outc):Prop:=∃H',X=some (.ret,[W0 (.tuple #[zcJ e,.int .i64 ((i+1:Nat):Int)])],H')∧Gone H' p1 p3 p5 st∧Frm (B ≤ ·) H H'
theorem zqg(h:LS B H p1 p3 p5 st f g p lim lv lines L K sl tv ts rv rs wv ws){i:Nat}{l:List UInt8}(hi:lines[i]?=some l)(hl:l.length≤2^40)(hn:lines.length≤2^40)(x0:Value)(en:Bool)(hb:en=true∨zbv l=[]) :
  StepF B H p1 p3 p5 st 3 i (zbg RR (.int .i64 (lines.length:Int)) (.pointer (some ⟨p3,0,none⟩)) (.pointer (some ⟨p,0,none⟩)) [lv] [x0,.bool en,.int .i64 (i:Int)] H):=by
 have hlt:i<lines.length:=(List.getElem?_eq_some_iff.1 hi).1;obtain⟨y,hy,⟨rest,hg⟩,hix⟩:=h.lin.ix hlt
 have hld:=fun (α:Type) (k:Value→Option α)=>zbO hg (i*1) (str l) (by
  rw[Nat.mul_one,List.getElem?_append_left (by rw[length_map];exact hlt),List.getElem?_map,hi];rfl) k
 obtain⟨v,H1,H2,a1,a2,a3,a4⟩:=h.words hl;have hinc:IntKind.i64.wrap ((i:Int)+1)=((i+1:Nat):Int):=w64 (by omega) (by omega);have h1:((i:Int)<(lines.length:Int)):=by omega
 have hw:=fun (α:Type) (k:Value→Option α)=>zbO a3.rd.rd (0+1) v rfl k;have a1':RR AK [str l,.func (.func AD) #[] #[]] H=some (v,H1):=a1;refine⟨H2,?_,a3.gone,a4⟩;unfold zbg;simp only[qg0,qg1,zaV,zac,s_br,h1,decide_true,if_true,hix,hld,zaN,hinc,zaf a1',zbA,zaJ,a2];cases en with
 |true=>
  simp only[if_true,zcA];rfl
 |false=>
  have he:zbv l=[]:=by
   rcases hb with q|q
   ·cases q
   ·exact q
  have hz:(((zbv l).length:Int)=0):=by rw[he];rfl
  simp only[Bool.false_eq_true,if_false,hw,a3.rd.wd.len,zaF,hz,decide_true,zac,s_br,if_true,zcA];rfl
theorem line_ok(h:LS B H p1 p3 p5 st f g p lim lv lines L K sl tv ts rv rs wv ws){i:Nat}{l:List UInt8}(hi:lines[i]?=some l)(hl:l.length≤2^40)(hn:lines.length≤2^40)(hk:ts.length=i)(hR:zmW L)(x0:Value){w0:List UInt8}{r:List (List UInt8)}(hw:zbv l=w0::r)(hr:rs.length+r.length≤2^40){X:Option Outc}
  (hX:zbg RR (.int .i64 (lines.length:Int)) (.pointer (some ⟨p3,0,none⟩)) (.pointer (some ⟨p,0,none⟩)) [lv] [x0,.bool false,.int .i64 (i:Int)] H=X) :
  (w0=zef→match zcD ts r with
   |none=>StepF B H p1 p3 p5 st 3 i X
   |some q=>∃H' rv' wv',X=some (.next,[.int .i64 ((i+1:Nat):Int),.bool true,.int .i64 ((i+1:Nat):Int)],H')∧LS B H' p1 p3 p5 st f g p lim lv lines L K sl tv ts rv' (rs++q) wv' []∧Frm (B ≤ ·) H H') ∧
  (w0≠zef→match zky (w0::r) ts L with
   |none=>StepF B H p1 p3 p5 st 3 i X
   |some m=>((mkR lim L K m).2.1≠0→StepF B H p1 p3 p5 st (mkR lim L K m).2.1 i X) ∧
    ((mkR lim L K m).2.1=0→∃H' sl' tv' wv',X=some (.next,[.int .i64 ((i+1:Nat):Int),.bool false,.int .i64 ((i+1:Nat):Int)],H')∧LS B H' p1 p3 p5 st f g p lim lv lines (mkR lim L K m).2.2.1 (mkR lim L K m).2.2.2 sl' tv' (ts++[(mkR lim L K m).1]) rv rs wv' []∧Frm (B ≤ ·) H H')):=by
 have hlt:i<lines.length:=(List.getElem?_eq_some_iff.1 hi).1;obtain⟨y,hy,⟨rest,hg⟩,hix⟩:=h.lin.ix hlt
 have hld:=fun (α:Type) (k:Value→Option α)=>zbO hg (i*1) (str l) (by
  rw[Nat.mul_one,List.getElem?_append_left (by rw[length_map];exact hlt),List.getElem?_map,hi];rfl) k
 obtain⟨v,H1,H2,a1,a2,a3,a4⟩:=h.words hl;rw[hw]at a3;have hinc:IntKind.i64.wrap ((i:Int)+1)=((i+1:Nat):Int):=w64 (by omega) (by omega);have h1:((i:Int)<(lines.length:Int)):=by omega
 have hwv:=fun (α:Type) (k:Value→Option α)=>zbO a3.rd.rd (0+1) v rfl k;have a1':RR AK [str l,.func (.func AD) #[] #[]] H=some (v,H1):=a1;obtain⟨v2,hd1,_,_,_⟩:=a3.rd.wd.head;have hq:∀{α:Type} (k:Value→Option α),pBin PP .eql Ac (str w0) (.string ⟨#[114,111,111,116,115]⟩) k=k (.bool (w0==zef)):=fun k=>ze0 Ac w0 zef k;have hz:¬((((w0::r).length:Nat):Int)=0):=by rw[length_cons];omega
 unfold zbg at hX;simp only[qg0,qg1,zaV,zac,s_br,h1,decide_true,if_true,hix,hld,zaN,hinc,zaf a1',zbA,zaJ,a2,Bool.false_eq_true,if_false,hwv,a3.rd.wd.len,zaF,hz,decide_false,zal,zaA,hd1,hq]at hX;refine⟨fun hroot=>?_,fun hroot=>?_⟩
 ·have hb:(w0==zef)=true:=by rw[beq_iff_eq];exact hroot
  rw[if_pos hb]at hX;obtain⟨H3,wv3,b1,b2,b3,b4⟩:=a3.rd.next;have h3:=a3.read b4 b2 fun j q=>.inl (b3 j q);have hf3:Frm (B ≤ ·) H H3:=a4.trans (a3.up (S:=[5]) (b4.mono fun j q=>.inl ⟨5,by simp,q⟩)) fun j q=>.inl q;rw[zca b1]at hX;have hlp:=zlp (.int .i64 ((i+1:Nat):Int)) r H3 rv rs wv3 h3 hr;cases hq2:zcD ts r with
  |none=>
   rw[hq2]at hlp;obtain⟨H4,rv4,c1,⟨c2,c3,c4⟩,c5⟩:=hlp;rw[c1]at hX;exact⟨H4,hX.symm,⟨by rw[c2];exact h3.b1,⟨rv4,c3⟩,by rw[c4];exact h3.b5⟩,hf3.trans c5 fun j q=>.inl q⟩
  |some q=>
   rw[hq2]at hlp;obtain⟨H4,rv4,wv4,c1,c2,c5⟩:=hlp;rw[c1,zal,za0,zaz]at hX;exact⟨H4,rv4,wv4,hX.symm,c2,hf3.trans c5 fun j q=>.inl q⟩
 ·have hb:(w0==zef)=false:=by rw[beq_eq_false_iff_ne];exact hroot
  rw[hb,if_neg (by decide)]at hX;have hp:PP.globals.size≤p:=Nat.le_trans a3.gB (a3.reg.lo 5 p rfl);have hnum:=a3.rd.number a3.laid hp;unfold zky;cases hf:numF (w0::r) with
  |none=>
   rw[hf]at hnum;obtain⟨H3,b1,b2⟩:=hnum;rw[zcb b1]at hX;have k':Frm (InR [5] (LRg p1 p3 p5 st f g p sl lv tv rv v)) H2 H3:=b2.mono fun j q=>.inl ⟨5,by simp,q⟩;exact⟨H3,hX.symm,a3.goneF k' (by decide) (by decide) (by decide),a4.trans (a3.up k') fun j q=>.inl q⟩
  |some z=>
   rw[hf]at hnum;obtain⟨H3,wv3,b1,b2,b3,b4⟩:=hnum;have k3:Frm (InR [5] (LRg p1 p3 p5 st f g p sl lv tv rv v)) H2 H3:=b4.mono fun j q=>.inl ⟨5,by simp,q⟩;have h3:=a3.read b4 b2 fun j q=>.inl (b3 j q);have hf3:Frm (B ≤ ·) H H3:=a4.trans (a3.up k3) fun j q=>.inl q;rw[zca b1]at hX;dsimp only;by_cases hzi:z=((ts.length+1:Nat):Int)
   ·rw[if_pos hzi];have hzi':z=((i+1:Nat):Int):=by rw[hzi,hk]
    have e0:¬(((i+1:Nat):Int)≠((i+1:Nat):Int)):=fun q=>q rfl;rw[hzi']at hX;simp only[za5,e0,decide_false,zac,s_br,Bool.false_eq_true,if_false]at hX;have hnode:=c_node h3.rd hp h3.laid h3.store hR h3.tv (fun q=>by have:=h3.reg.ap 5 6 p rfl q;omega) (fun q=>by have:=h3.reg.ap 5 3 p rfl q;omega) fun j hj q=>by have:=h3.reg.ap 8 3 j hj q;omega
    cases hm:zoU (w0::r).tail ts L with
    |none=>
     rw[hm]at hnode;obtain⟨H4,c1,c2⟩:=hnode;rw[zcb c1]at hX;have k4:Frm (InR [3,5] (LRg p1 p3 p5 st f g p sl lv tv rv wv3)) H3 H4:=c2.mono fun j q=>.inl (by rcases q with q|q;exact⟨5,by simp,q⟩;exact⟨3,by simp,q⟩);exact⟨H4,hX.symm,h3.goneF k4 (by decide) (by decide) (by decide),hf3.trans (h3.up k4) fun j q=>.inl q⟩
    |some m=>
     rw[hm]at hnode;dsimp only;refine⟨fun hne=>?_,fun heq=>?_⟩
     ·obtain⟨H4,c1,c2⟩:=hnode.1 hne;rw[zcb c1]at hX;have k4:Frm (InR [3,5] (LRg p1 p3 p5 st f g p sl lv tv rv wv3)) H3 H4:=c2.mono fun j q=>.inl (by rcases q with q|q;exact⟨5,by simp,q⟩;exact⟨3,by simp,q⟩);exact⟨H4,hX.symm,h3.goneF k4 (by decide) (by decide) (by decide),hf3.trans (h3.up k4) fun j q=>.inl q⟩
     ·obtain⟨H4,wv4,sl4,c1,c2,c3,c4,c5,c6⟩:=hnode.2 heq;rw[zca c1]at hX;have k4:Frm (InR [3,5] (LRg p1 p3 p5 st f g p sl lv tv rv wv3)) H3 H4:=c4.mono fun j q=>.inl (by rcases q with q|q;exact⟨5,by simp,q⟩;exact⟨3,by simp,q⟩);have h4:=h3.grow c4 c2 c6 c3 c5;obtain⟨tv5,H5,d1,d2,d3,d4⟩:=h4.term (by omega) (mkR lim L K m).1 0;have htv:=fun (α:Type) (k:Value→Option α)=>zbO h4.rd.rd (0+2) tv rfl k;simp only[htv,d1]at hX;exact⟨H5,sl4,tv5,wv4,hX.symm,d2,(hf3.trans (h3.up k4) fun j q=>.inl q).trans (h4.up d3) fun j q=>.inl q⟩
   ·rw[if_neg hzi];have hzi':z≠((i+1:Nat):Int):=fun e=>hzi (by rw[e,hk]);simp only[za5,hzi',ne_eq,not_false_eq_true,decide_true,zac,s_br,if_true,zcA]at hX;exact⟨H3,hX.symm,a3.goneF k3 (by decide) (by decide) (by decide),hf3⟩
end
inductive LdR where
 |bad (line:Nat) (e:Int)
 |good (L:List Nd) (K:List (ByteArray×Int)) (rs:List Int)
def zeu(lim:Int):List (List UInt8)→Nat→List Nd→List (ByteArray×Int)→List Int→LdR
 |[],k,_,_,_=>.bad (k+1) 3
 |l::rest,k,L,K,ts=>match zbv l with
  |[]=>.bad (k+1) 3
  |w0::r=>if w0=zef then (match zcD ts r with
    |none=>.bad (k+1) 3
    |some q=>match rest with
     |[]=>.good L K q
     |_::_=>.bad (k+2) 3)
   else match zky (w0::r) ts L with
    |none=>.bad (k+1) 3
    |some m=>if (mkR lim L K m).2.1≠0 then .bad (k+1) (mkR lim L K m).2.1 else zeu lim rest (k+1) (mkR lim L K m).2.2.1 (mkR lim L K m).2.2.2 (ts++[(mkR lim L K m).1])
theorem mk_le{lim:Int}{L:List Nd}{K:List (ByteArray×Int)}(n:Nd):(mkR lim L K n).2.2.1.length≤L.length+1:=by
 by_cases h0:(mkR lim L K n).2.1=0
 ·obtain⟨_,⟨q,_,e⟩|⟨_,_,e⟩⟩:=zkq h0<;>rw[e]<;>simp
 ·rw[mk_no h0];simp
def zl5(B:Nat)(H:Hp)(p1 p3 p5 st f g p:Nat)(lim:Int)(lv:Value)(lines:List (List UInt8))(X:Option Outc):LdR→Prop
 |.bad ln e=>∃H',(X=some (.ret,[W0 (.tuple #[zcJ e,.int .i64 (ln:Int)])],H')∨(∃a b,X=some (.exit 0,[a,.bool false,b],H')∧e=3∧ln=lines.length+1))∧Gone H' p1 p3 p5 st∧Frm (B ≤ ·) H H'
 |.good L K q=>∃H' a b sl tv rv wv ts,X=some (.exit 0,[a,.bool true,b],H')∧LS B H' p1 p3 p5 st f g p lim lv lines L K sl tv ts rv q wv []∧Frm (B ≤ ·) H H'
theorem zl5.of{B:Nat}{H H1:Hp}{p1 p3 p5 st f g p:Nat}{lim:Int}{lv:Value}{lines:List (List UInt8)}{X:Option Outc}{r:LdR}(h:zl5 B H1 p1 p3 p5 st f g p lim lv lines X r)(k:Frm (B ≤ ·) H H1):zl5 B H p1 p3 p5 st f g p lim lv lines X r:=by
 cases r with
 |bad ln e=>obtain⟨H',h1,h2,h3⟩:=h;exact⟨H',h1,h2,k.trans h3 fun j q=>.inl q⟩
 |good L K q=>obtain⟨H',a,b,sl,tv,rv,wv,ts,h1,h2,h3⟩:=h;exact⟨H',a,b,sl,tv,rv,wv,ts,h1,h2,k.trans h3 fun j q=>.inl q⟩
theorem zlP{B:Nat}{p1 p3 p5 st f g p:Nat}{lim:Int}{lv:Value}{lines:List (List UInt8)}(hn:lines.length≤2^38)(hsh:∀l∈lines,l.length≤2^38):∀(rest:List (List UInt8)) (i:Nat) (H:Hp) (x0:Value) (L:List Nd) (K:List (ByteArray×Int)) (sl tv:Value) (ts:List Int) (rv wv:Value) (ws:List (List UInt8)),
  lines.drop i=rest→i≤lines.length→ts.length=i→L.length≤i→Inv lim L→LS B H p1 p3 p5 st f g p lim lv lines L K sl tv ts rv [] wv ws →
  zl5 B H p1 p3 p5 st f g p lim lv lines (zas (zbg RR (.int .i64 (lines.length:Int)) (.pointer (some ⟨p3,0,none⟩)) (.pointer (some ⟨p,0,none⟩)) [lv]) [x0,.bool false,.int .i64 (i:Int)] H) (zeu lim rest i L K ts)
 |[],i,H,x0,L,K,sl,tv,ts,rv,wv,ws,hr,hi,hk,hL,hI,h=>by
  have hil:i=lines.length:=by have:=congrArg List.length hr;rw[length_drop]at this;simp at this;omega
  have this:zbg RR (.int .i64 (lines.length:Int)) (.pointer (some ⟨p3,0,none⟩)) (.pointer (some ⟨p,0,none⟩)) [lv] [x0,.bool false,.int .i64 (i:Int)] H=some (.exit 0,[x0,.bool false,.int .i64 (i:Int)],H):=by
   unfold zbg;have h1:¬((i:Int)<(lines.length:Int)):=by omega
   simp only[qg0,qg1,zaV,zac,s_br,h1,decide_false,Bool.false_eq_true,if_false]
  refine⟨H,.inr ⟨x0,.int .i64 (i:Int),by rw[zai,this];rfl,rfl,by rw[hil]⟩,h.gone,Frm.refl _ _⟩
 |l::rest,i,H,x0,L,K,sl,tv,ts,rv,wv,ws,hr,hi,hk,hL,hI,h=>by
  have hlt:i<lines.length:=by have:=congrArg List.length hr;rw[length_drop]at this;simp at this;omega
  have hget:lines[i]?=some l:=by have:=congrArg (fun x=>x[0]?) hr;simpa using this
  have hr2:lines.drop (i+1)=rest:=by rw[←drop_drop,hr];rfl
  have hll:l.length≤2^38:=hsh l (mem_of_getElem? hget);have hR:zmW L:=⟨hI.w,by omega⟩
  unfold zeu;cases hw:zbv l with
  |nil=>
   obtain⟨H',h1,h2,h3⟩:=zqg h hget (by omega) (by omega) x0 false (.inr hw);exact⟨H',.inl (by rw[zai,h1];rfl),h2,h3⟩
  |cons w0 r=>
   have hwl:r.length≤l.length:=by
    have h1:(zbv l).length≤l.length+1:=by unfold zbv;rw[length_map];exact zg9 l 0 none
    rw[hw,length_cons]at h1;omega
   have hline:=line_ok h hget (by omega) (by omega) hk hR x0 hw (by show 0+r.length≤_;omega) rfl;dsimp only;by_cases h0:w0=zef
   ·rw[if_pos h0];have h1:=hline.1 h0;cases hq:zcD ts r with
    |none=>
     rw[hq]at h1;obtain⟨H',a1,a2,a3⟩:=h1;exact⟨H',.inl (by rw[zai,a1];rfl),a2,a3⟩
    |some q=>
     rw[hq]at h1;obtain⟨H',rv',wv',a1,a2,a3⟩:=h1;have hloop:zas (zbg RR (.int .i64 (lines.length:Int)) (.pointer (some ⟨p3,0,none⟩)) (.pointer (some ⟨p,0,none⟩)) [lv]) [x0,.bool false,.int .i64 (i:Int)] H=zas (zbg RR (.int .i64 (lines.length:Int)) (.pointer (some ⟨p3,0,none⟩)) (.pointer (some ⟨p,0,none⟩)) [lv]) [.int .i64 ((i+1:Nat):Int),.bool true,.int .i64 ((i+1:Nat):Int)] H':=by
      conv=>lhs;rw[zai,a1]
      rfl
     rw[hloop];cases rest with
     |nil=>
      have hil:i+1=lines.length:=by have:=congrArg List.length hr2;rw[length_drop]at this;simp at this;omega
      have this:zbg RR (.int .i64 (lines.length:Int)) (.pointer (some ⟨p3,0,none⟩)) (.pointer (some ⟨p,0,none⟩)) [lv] [.int .i64 ((i+1:Nat):Int),.bool true,.int .i64 ((i+1:Nat):Int)] H'=some (.exit 0,[.int .i64 ((i+1:Nat):Int),.bool true,.int .i64 ((i+1:Nat):Int)],H'):=by
       unfold zbg;have h1:¬(((i+1:Nat):Int)<(lines.length:Int)):=by omega
       simp only[qg0,qg1,zaV,zac,s_br,h1,decide_false,Bool.false_eq_true,if_false]
      exact⟨H',_,_,sl,tv,rv',wv',ts,by rw[zai,this];rfl,a2,a3⟩
     |cons l2 rest2=>
      have hget2:lines[i+1]?=some l2:=by have:=congrArg (fun x=>x[0]?) hr2;simpa using this
      have hll2:l2.length≤2^38:=hsh l2 (mem_of_getElem? hget2);obtain⟨H2,b1,b2,b3⟩:=zqg a2 hget2 (by omega) (by omega) (.int .i64 ((i+1:Nat):Int)) true (.inl rfl);exact⟨H2,.inl (by rw[zai,b1];rfl),b2,a3.trans b3 fun j q=>.inl q⟩
   ·rw[if_neg h0];have h1:=hline.2 h0;cases hm:zky (w0::r) ts L with
    |none=>
     rw[hm]at h1;obtain⟨H',a1,a2,a3⟩:=h1;exact⟨H',.inl (by rw[zai,a1];rfl),a2,a3⟩
    |some m=>
     rw[hm]at h1;dsimp only;by_cases he:(mkR lim L K m).2.1=0
     ·rw[if_neg (fun q=>q he)];obtain⟨H',sl',tv',wv',a1,a2,a3⟩:=h1.2 he;have hloop:zas (zbg RR (.int .i64 (lines.length:Int)) (.pointer (some ⟨p3,0,none⟩)) (.pointer (some ⟨p,0,none⟩)) [lv]) [x0,.bool false,.int .i64 (i:Int)] H=zas (zbg RR (.int .i64 (lines.length:Int)) (.pointer (some ⟨p3,0,none⟩)) (.pointer (some ⟨p,0,none⟩)) [lv]) [.int .i64 ((i+1:Nat):Int),.bool false,.int .i64 ((i+1:Nat):Int)] H':=by
       conv=>lhs;rw[zai,a1]
       rfl
      rw[hloop];have hle:=mk_le (lim:=lim) (L:=L) (K:=K) m;exact(zlP hn hsh rest (i+1) H' _ _ _ sl' tv' _ rv wv' [] hr2 hlt (by rw[length_append,hk];rfl) (by omega) (mk_inv hI) a2).of a3
     ·rw[if_pos he];obtain⟨H',a1,a2,a3⟩:=h1.1 he;exact⟨H',.inl (by rw[zai,a1];rfl),a2,a3⟩
structure T3(H:Hp)(p1 p3 p5:Nat)(a b c:Value):Prop where
 a1:H.get p1=some (.cells [a] true)
 a3:H.get p3=some (.cells [b] true)
 a5:H.get p5=some (.cells [c] true)
 n13:p1≠p3
 n15:p1≠p5
 n35:p3≠p5
def OneV(v:Value):Prop:=zab v=[v]∧one v=true
section
variable {H:Hp}{p1 p3 p5:Nat}{a b c v:Value}
theorem T3.s1(h:T3 H p1 p3 p5 a b c)(hv:OneV v):∃H',(∀(α:Type) (k:Hp→Option α),zay 1 H (.pointer (some ⟨p1,0,none⟩)) v k=k H')∧T3 H' p1 p3 p5 v b c∧Frm (· = p1) H H':=
 ⟨_,fun α k=>zhD h.a1 hv.1 hv.2 (by show 0<1;decide) k,⟨by rw[get_set,if_pos rfl];rfl,by rw[get_set,if_neg (Ne.symm h.n13)];exact h.a3,by rw[get_set,if_neg (Ne.symm h.n15)];exact h.a5,h.n13,h.n15,h.n35⟩,zgd _ _ _ _ rfl⟩
theorem T3.s3(h:T3 H p1 p3 p5 a b c)(hv:OneV v):∃H',(∀(α:Type) (k:Hp→Option α),zay 1 H (.pointer (some ⟨p3,0,none⟩)) v k=k H')∧T3 H' p1 p3 p5 a v c∧Frm (· = p3) H H':=
 ⟨_,fun α k=>zhD h.a3 hv.1 hv.2 (by show 0<1;decide) k,⟨by rw[get_set,if_neg h.n13];exact h.a1,by rw[get_set,if_pos rfl];rfl,by rw[get_set,if_neg (Ne.symm h.n35)];exact h.a5,h.n13,h.n15,h.n35⟩,zgd _ _ _ _ rfl⟩
theorem T3.s5(h:T3 H p1 p3 p5 a b c)(hv:OneV v):∃H',(∀(α:Type) (k:Hp→Option α),zay 1 H (.pointer (some ⟨p5,0,none⟩)) v k=k H')∧T3 H' p1 p3 p5 a b v∧Frm (· = p5) H H':=
 ⟨_,fun α k=>zhD h.a5 hv.1 hv.2 (by show 0<1;decide) k,⟨by rw[get_set,if_neg h.n15];exact h.a1,by rw[get_set,if_neg h.n35];exact h.a3,by rw[get_set,if_pos rfl];rfl,h.n13,h.n15,h.n35⟩,zgd _ _ _ _ rfl⟩
theorem T3.l1(h:T3 H p1 p3 p5 a b c){α:Type}(k:Value→Option α):zak 1 false H (.pointer (some ⟨p1,0,none⟩)) k=k a:=zbO h.a1 0 a rfl k
theorem T3.l3(h:T3 H p1 p3 p5 a b c){α:Type}(k:Value→Option α):zak 1 false H (.pointer (some ⟨p3,0,none⟩)) k=k b:=zbO h.a3 0 b rfl k
theorem T3.l5(h:T3 H p1 p3 p5 a b c){α:Type}(k:Value→Option α):zak 1 false H (.pointer (some ⟨p5,0,none⟩)) k=k c:=zbO h.a5 0 c rfl k
theorem end_ld{fr:Fr}{t1 t2 t3:TypeId}{lv:Value}(h:T3 H p1 p3 p5 a b c)(k:List Value→Option (Value×Hp))(h4:getS fr 4=.val (.pointer (some ⟨p1,0,none⟩)))(h5:getS fr 5=.val (.pointer (some ⟨p3,0,none⟩)))(h7:getS fr 7=.val (.pointer (some ⟨p5,0,none⟩)))
  (y1:∀k:Nat→Bool→Option (Value×Hp),tyC PP t1 k=k 1 false) (y2:∀k:Nat→Bool→Option (Value×Hp),tyC PP t2 k=k 1 false) (y3:∀k:Nat→Bool→Option (Value×Hp),tyC PP t3 k=k 1 false) :
  endL PP fr H [.cell 4 t1,.cell 5 t2,.tmp 6,.cell 7 t3] [lv] k=k [a,b,lv,c]:=by
 unfold endL;rw[y1,h4];unfold sV;dsimp only;rw[h.l1];unfold endL;rw[y2,h5];unfold sV;dsimp only;rw[h.l3];unfold endL;unfold endL;rw[y3,h7];unfold sV;dsimp only;rw[h.l5];rfl
theorem c_caught(h:T3 H p1 p3 p5 a b c)(e:Int):∃H',zc0 RR (zcJ e) (.pointer (some ⟨p1,0,none⟩)) (.pointer (some ⟨p3,0,none⟩)) (.pointer (some ⟨p5,0,none⟩)) H=some (.tuple #[],H') ∧
  T3 H' p1 p3 p5 (.pointer none) (.slice none 0 0) (.int .i64 e)∧Frm (fun j=>j=p1∨j=p3∨j=p5) H H':=by
 obtain⟨H1,a1,a2,a3⟩:=h.s1 (v:=.pointer none) ⟨rfl,rfl⟩;obtain⟨H2,b1,b2,b3⟩:=a2.s3 (v:=.slice none 0 0) ⟨rfl,rfl⟩;obtain⟨H3,c1,c2,c3⟩:=b2.s5 (v:=.int .i64 e) ⟨rfl,rfl⟩;refine⟨H3,?_,c2,((a3.mono fun j q=>.inl (.inl q)).trans (b3.mono fun j q=>.inl (.inr (.inl q))) fun j q=>.inl q).trans (c3.mono fun j q=>.inl (.inr (.inr q))) fun j q=>.inl q⟩;unfold zc0;have e1:∀{α:Type} (k:Value→Option α),zfH PP .eql CG (zcJ e) k=k (.bool false):=fun k=>rfl;have e2:∀{α:Type} (k:Value→Option α),zhp PP Ae (zcJ e) k=k (.agg #[.int .i64 e]):=fun k=>rfl;have e3:∀{α:Type} (k:List Value→Option α),zaD 1 [.int .i64 0] 0 (.agg #[.int .i64 e]) k=k [.int .i64 e]:=fun k=>rfl;have e4:∀{α:Type} (k:Value→Option α),zae 1 false [.int .i64 e] 0 k=k (.int .i64 e):=fun k=>rfl;rw[e1,zac,s_br,if_neg (by decide),e2,e3,e4,a1,b1,c1]
theorem c_calm(x1 x2 x3:Value)(H:Hp):zc0 RR .nilIface x1 x2 x3 H=some (.tuple #[],H):=rfl
end
def zbB(l:List UInt8):List (List UInt8):=if (cutB 10 l).getD (l.count 10) []=[] then (cutB 10 l).take (l.count 10) else cutB 10 l
theorem s_wrap0{α:Type}(x:Value)(k kp:Value→Option α):zf0 (W0 x) k kp=kp x:=rfl
theorem s_wrap1{α:Type}(x:Value)(k kp:Value→Option α):zf0 (W1 x) k kp=k x:=rfl
theorem zkP:∀(l:List UInt8),∀x∈cutB 10 l,x.length≤l.length
 |[],x,hx=>by
  have:x=[]:=by simpa[cutB] using hx
  rw[this];exact Nat.le_refl _
 |b::r,x,hx=>by
  unfold cutB at hx;split at hx
  ·rcases mem_cons.1 hx with q|q
   ·rw[q];exact Nat.zero_le _
   ·have:=zkP r x q;rw[length_cons];omega
  ·split at hx
   ·rename_i h t e;rcases mem_cons.1 hx with q|q
    ·have:=zkP r h (by rw[e];exact mem_cons_self ..);rw[q,length_cons,length_cons];omega
    ·have:=zkP r x (by rw[e];exact mem_cons_of_mem _ q);rw[length_cons];omega
   ·have:x=[b]:=by simpa using hx
    rw[this,length_cons];simp
theorem bldRd(st:Nat){α:Type}(k:Value→Option α):zaS PP Cx [(0,.pointer (some ⟨st,0,none⟩))] k=k (.agg #[.pointer (some ⟨st,0,none⟩),.slice none 0 0,.slice none 0 0]):=by
 have:zg3 PP Cx [(0,.pointer (some ⟨st,0,none⟩))]=some (.agg #[.pointer (some ⟨st,0,none⟩),.slice none 0 0,.slice none 0 0]):=by kernel_rfl
 unfold zaS;rw[this]
def LoadA(H:Hp)(lim:Int)(f:FuncId)(wr:Value→Value)(args:List Value):LdR→Prop
 |.bad ln e=>∃H',RR f args H=some (wr (.tuple #[.pointer none,.slice none 0 0,.int .i64 (ln:Int),.int .i64 e]),H')∧Frm (fun _=>False) H H'
 |.good L K q=>∃H' st fm gm sl rv,RR f args H=some (wr (.tuple #[.pointer (some ⟨st,0,none⟩),rv,.int .i64 0,.int .i64 0]),H')∧StF H' st lim L K sl fm gm∧Vec H' 1 rv q.length (i64s q)∧Frm (fun _=>False) H H' ∧
   (∀j,Foot st fm gm sl j→H.next≤j)∧(∀j,Id rv j→H.next≤j)∧(∀j,Id rv j→¬Foot st fm gm sl j)
theorem zl5.fin{B:Nat}{H:Hp}{p1 p3 p5 st f g p:Nat}{lim:Int}{lv:Value}{lines:List (List UInt8)}{X:Option Outc}{r:LdR}(h:zl5 B H p1 p3 p5 st f g p lim lv lines X r)(hlv:∀{α:Type} (H:Hp) (k:Value→Option α),pLen .sl lv H k=k (.int .i64 (lines.length:Int)))
  (hn:lines.length≤2^38) (n13:p1≠p3) (n15:p1≠p5) (n35:p3≠p5) (b1:B≤p1) (b3:B≤p3) (b5:B≤p5) :
  match r with
  |.bad ln e=>∃H',(zav X fun q121 l122 H123=>zaB q121 none
     (fun i124=>zax i124 0 (
     pLen .sl lv H123 fun v125=>
     pBin PP .add Aa v125 (.int .i64 1) fun v126=>
     pUn .not (l122.getD 1 undef) fun v127=>
     zaa v127 fun b128=>br b128
     (zaS PP Ae [(0,(.int .i64 3))] fun v129=>
     some ((W0 (.tuple #[(.iface Ae v129),v126])),H123))
     (zak 1 false H123 (.pointer (some ⟨p1,0,none⟩)) fun v130=>
     zak 1 false H123 (.pointer (some ⟨p3,0,none⟩)) fun v131=>
     zay 1 H123 (.pointer (some ⟨p1,0,none⟩)) v130 fun H132=>
     chk (Hp.rdP H132 (.pointer (some ⟨p3,0,none⟩)) 1 false=some v131) (
     zay 1 H132 (.pointer (some ⟨p3,0,none⟩)) v131 fun H133=>
     zay 1 H133 (.pointer (some ⟨p5,0,none⟩)) (.int .i64 0) fun H134=>
     zak 1 false H134 (.pointer (some ⟨p1,0,none⟩)) fun v135=>
     zak 1 false H134 (.pointer (some ⟨p3,0,none⟩)) fun v136=>
     zak 1 false H134 (.pointer (some ⟨p5,0,none⟩)) fun v137=>
     some ((W1 (.tuple #[v135,v136,(.int .i64 0),v137])),H134)))) (
     none))
     (some ((l122.headD undef),H123)))=some (W0 (.tuple #[zcJ e,.int .i64 (ln:Int)]),H')∧(∃a b c,T3 H' p1 p3 p5 a b c)∧Frm (B ≤ ·) H H'
  |.good L K q=>∃H' sl rv,(zav X fun q121 l122 H123=>zaB q121 none
     (fun i124=>zax i124 0 (
     pLen .sl lv H123 fun v125=>
     pBin PP .add Aa v125 (.int .i64 1) fun v126=>
     pUn .not (l122.getD 1 undef) fun v127=>
     zaa v127 fun b128=>br b128
     (zaS PP Ae [(0,(.int .i64 3))] fun v129=>
     some ((W0 (.tuple #[(.iface Ae v129),v126])),H123))
     (zak 1 false H123 (.pointer (some ⟨p1,0,none⟩)) fun v130=>
     zak 1 false H123 (.pointer (some ⟨p3,0,none⟩)) fun v131=>
     zay 1 H123 (.pointer (some ⟨p1,0,none⟩)) v130 fun H132=>
     chk (Hp.rdP H132 (.pointer (some ⟨p3,0,none⟩)) 1 false=some v131) (
     zay 1 H132 (.pointer (some ⟨p3,0,none⟩)) v131 fun H133=>
     zay 1 H133 (.pointer (some ⟨p5,0,none⟩)) (.int .i64 0) fun H134=>
     zak 1 false H134 (.pointer (some ⟨p1,0,none⟩)) fun v135=>
     zak 1 false H134 (.pointer (some ⟨p3,0,none⟩)) fun v136=>
     zak 1 false H134 (.pointer (some ⟨p5,0,none⟩)) fun v137=>
     some ((W1 (.tuple #[v135,v136,(.int .i64 0),v137])),H134)))) (
     none))
     (some ((l122.headD undef),H123)))=some (W1 (.tuple #[.pointer (some ⟨st,0,none⟩),rv,.int .i64 0,.int .i64 0]),H')∧T3 H' p1 p3 p5 (.pointer (some ⟨st,0,none⟩)) rv (.int .i64 0)∧StF H' st lim L K sl f g∧Vec H' 1 rv q.length (i64s q)∧Frm (B ≤ ·) H H' ∧
     (∀j,Foot st f g sl j→B≤j)∧(∀j,Id rv j→B≤j)∧(∀j,Id rv j→¬Foot st f g sl j):=by
 have w1:∀{H2 H3:Hp} {q:Nat},B≤q→Frm (· = q) H2 H3→Frm (B ≤ ·) H2 H3:=fun hq k=>k.mono fun j e=>.inl (by rw[e];exact hq);cases r with
 |bad ln e=>
  obtain⟨H',h1,⟨g1,⟨rv,g2⟩,g3⟩,h3⟩:=h;refine⟨H',?_,⟨_,_,_,g1,g2,g3,n13,n15,n35⟩,h3⟩;rcases h1 with rfl|⟨a,b,rfl,rfl,rfl⟩
  ·rfl
  ·rw[zal,za0,zaz,hlv];have hinc:IntKind.i64.wrap ((lines.length:Int)+1)=((lines.length+1:Nat):Int):=w64 (by omega) (by omega);rw[zaN,hinc];simp only[qg1,qg0,za9,zac,s_br,Bool.not_false,if_true,zcA]
 |good L K q=>
  obtain⟨H1,a,b,sl,tv,rv,wv,ts,rfl,h2,h3⟩:=h;have t1:T3 H1 p1 p3 p5 (.pointer (some ⟨st,0,none⟩)) rv (.int .i64 0):=⟨h2.b1,h2.b3,h2.b5,n13,n15,n35⟩
  obtain⟨H2,x1,x2,x3⟩:=t1.s1 (v:=.pointer (some ⟨st,0,none⟩)) ⟨rfl,rfl⟩;obtain⟨H3,y1,y2,y3⟩:=x2.s3 (v:=rv) (zec h2.rv);obtain⟨H4,z1,z2,z3⟩:=y2.s5 (v:=.int .i64 0) ⟨rfl,rfl⟩;have hf:Frm (fun j=>j=p1∨j=p3∨j=p5) H1 H4:=((x3.mono fun j q=>.inl (.inl q)).trans (y3.mono fun j q=>.inl (.inr (.inl q))) fun j q=>.inl q).trans (z3.mono fun j q=>.inl (.inr (.inr q))) fun j q=>.inl q;have hr:=h2.reg;refine⟨H4,sl,rv,?_,z2,h2.store.keep (fun j hj=>hf.same j (h2.store.foot_lt hj) fun e=>?_) hf.next,h2.rv.keep hf fun j hj e=>?_,h3.trans (hf.mono fun j e=>.inl (by rcases e with e|e|e<;>rw[e]<;>assumption)) fun j e=>.inl e,fun j hj=>hr.lo 3 j hj,fun j hj=>hr.lo 7 j hj,fun j hj e=>by have:=hr.ap 7 3 j hj e;omega⟩
  ·rw[zal,za0,zaz,hlv,zaN];simp only[qg1,qg0,za9,zac,s_br,Bool.not_true,Bool.false_eq_true,if_false,t1.l1,t1.l3,x1];rw[zha (ziY x2.a3 0 rv rfl),y1,z1,z2.l1,z2.l3,z2.l5]
  ·rcases e with e|e|e
   ·have:=hr.ap 3 0 j hj e;omega
   ·have:=hr.ap 3 1 j hj e;omega
   ·have:=hr.ap 3 2 j hj e;omega
  ·rcases e with e|e|e
   ·have:=hr.ap 7 0 j hj e;omega
   ·have:=hr.ap 7 1 j hj e;omega
   ·have:=hr.ap 7 2 j hj e;omega
theorem cut_last(l:List UInt8):(cutB 10 l)[l.count 10]?=some ((cutB 10 l).getD (l.count 10) []):=by have h:=zgw 10 l;rw[getD_eq_getElem?_getD,List.getElem?_eq_getElem (by omega)];rfl
theorem zqb(l:List UInt8):∀x∈zbB l,x.length≤l.length:=fun x hx=>by
 unfold zbB at hx;split at hx
 ·exact zkP l x (mem_of_mem_take hx)
 ·exact zkP l x hx
theorem zmG(l:List UInt8):(zbB l).length≤l.length+1:=by
 have h:=zgw 10 l;have h2:l.count 10≤l.length:=count_le_length;unfold zbB;split
 ·rw[length_take];omega
 ·omega
theorem LS.start{H0 H12 H13:Hp}{lim:Int}{lv:Value}{lines:List (List UInt8)}(hL:Laid H0)
  (t:T3 H12 H0.next (H0.next+1) (H0.next+2) (.pointer (some ⟨H0.next+5,0,none⟩)) (.slice none 0 0) (.int .i64 0)) (hS:StF H12 (H0.next+5) lim [] [] (.slice none 0 0) (H0.next+3) (H0.next+4)) (n12:H12.next=H0.next+6) (f12:Frm (H0.next ≤ ·) H0 H12)
  (hv:Vec H13 1 lv lines.length (lines.map str)) (f13:Frm (fun _=>False) H12 H13) (hid:∀j,Id lv j→H12.next≤j) :
  LS H0.next (H13.new (.cells [.pointer (some ⟨H0.next+5,0,none⟩),.slice none 0 0,.slice none 0 0] true)) H0.next (H0.next+1) (H0.next+2) (H0.next+5) (H0.next+3) (H0.next+4) H13.next lim lv lines [] [] (.slice none 0 0) (.slice none 0 0) [] (.slice none 0 0) [] (.slice none 0 0) []:=by
 let H14:=H13.new (.cells [.pointer (some ⟨H0.next+5,0,none⟩),.slice none 0 0,.slice none 0 0] true)
 have f14:Frm (fun _=>False) H13 H14:=zcv _ _ _;have ff:Frm (fun _=>False) H12 H14:=f13.trans f14 fun j q=>q.elim;have hn:=f13.next;have o:∀j,j<H0.next+6→H14.get j=H12.get j:=fun j hj=>ff.same j (by omega) fun q=>q;let cl:Nat→Nat:=fun j=>if j=H0.next then 0 else if j=H0.next+1 then 1 else if j=H0.next+2 then 2 else if j<H0.next+6 then 3 else if j<H13.next then 4 else 5
 have key:∀a j,LRg H0.next (H0.next+1) (H0.next+2) (H0.next+5) (H0.next+3) (H0.next+4) H13.next (.slice none 0 0) lv (.slice none 0 0) (.slice none 0 0) (.slice none 0 0) a j→cl j=a∧H0.next≤j∧j<H13.next+1:=fun a j hj=>by
  match a,hj with
  |0,hj=>obtain rfl:j=H0.next:=hj;exact⟨if_pos rfl,by omega,by omega⟩
  |1,hj=>obtain rfl:j=H0.next+1:=hj;exact⟨by show (if _ then _ else _)=_;rw[if_neg (by omega),if_pos rfl],by omega,by omega⟩
  |2,hj=>obtain rfl:j=H0.next+2:=hj;exact⟨by show (if _ then _ else _)=_;rw[if_neg (by omega),if_neg (by omega),if_pos rfl],by omega,by omega⟩
  |3,hj=>
   have hj:j=H0.next+5∨j=H0.next+3∨j=H0.next+4:=zin hj;exact⟨by show (if _ then _ else _)=_;rw[if_neg (by omega),if_neg (by omega),if_neg (by omega),if_pos (by omega)],by omega,by omega⟩
  |4,hj=>
   have h1:=hid j hj;have h2:=hv.lt hj;exact⟨by show (if _ then _ else _)=_;rw[if_neg (by omega),if_neg (by omega),if_neg (by omega),if_neg (by omega),if_pos h2],by omega,by omega⟩
  |5,hj=>obtain rfl:j=H13.next:=hj;exact⟨by show (if _ then _ else _)=_;rw[if_neg (by omega),if_neg (by omega),if_neg (by omega),if_neg (by omega),if_neg (by omega)],by omega,by omega⟩
  |6,hj=>cases hj
  |7,hj=>cases hj
  |8,hj=>cases hj
  |n+9,hj=>cases hj
 have hL14:Laid H14:=hL.keep (M:=(H0.next ≤ ·)) (f12.trans (ff.mono fun j q=>q.elim) fun j q=>.inl q) fun j q=>Nat.le_trans hL.next q
 refine⟨hL.next,by show H0.next≤H13.next+1;omega,⟨fun a j hj=>(key a j hj).2.2,fun a j hj=>(key a j hj).2.1,fun a b j ha hb=>by rw[←(key a j ha).1,(key b j hb).1]⟩,by rw[o _ (by omega)];exact t.a1,by rw[o _ (by omega)];exact t.a3,by rw[o _ (by omega)];exact t.a5,
  hS.keep (fun j hj=>o j (by have:=zin hj;omega)) ff.next,hv.keep f14 fun _ _ q=>q,⟨if_pos rfl,.inl ⟨rfl,rfl⟩,fun q=>(by cases q),by show H13.next<H13.next+1;omega,fun w hw=>(by cases hw)⟩,Vec.nil _ _,Vec.nil _ _,hL14⟩
theorem n_new(H:Hp)(o:AObj):(H.new o).next=H.next+1:=rfl
theorem zl4{α:Type}(v:Value)(H:Hp)(k:Value→Hp→Option α):zit (some (v,H)) k=k v H:=rfl
theorem c_load{H0:Hp}(hL:Laid H0)(l:List UInt8)(hl:l.length≤2^37){lim:Int}(hlim:¬lim<0):LoadA H0 lim AY W1 [str l,.int .i64 lim] (zeu lim (zbB l) 0 [] [] []):=by
 have hrun:=zox E0 rfl (str l) (.int .i64 lim) H0;rw[zo9]at hrun;let H3:=((H0.new (.cells [.pointer none] true)).new (.cells [.slice none 0 0] true)).new (.cells [.int .i64 0] true)
 have t0:T3 H3 H0.next (H0.next+1) (H0.next+2) (.pointer none) (.slice none 0 0) (.int .i64 0):=by
  refine⟨?_,?_,?_,by omega,by omega,by omega⟩
  ·show (Hp.new _ _).get _=_;rw[get_new,if_neg (by show ¬H0.next=H0.next+1+1;omega),get_new,if_neg (by show ¬H0.next=H0.next+1;omega),get_new,if_pos rfl]
  ·show (Hp.new _ _).get _=_;rw[get_new,if_neg (by show ¬H0.next+1=H0.next+1+1;omega),get_new];exact if_pos rfl
  ·show (Hp.new _ _).get _=_;rw[get_new];exact if_pos rfl
 have f03:Frm (H0.next ≤ ·) H0 H3:=((zcv _ _ (H0.next ≤ ·)).trans (zcv _ _ (H0.next ≤ ·)) fun j q=>.inl q).trans (zcv _ _ (H0.next ≤ ·)) fun j q=>.inl q;have hnew:RR BT [.int .i64 lim] H3=some (.tuple #[.pointer (some ⟨H0.next+5,0,none⟩),.int .i64 0],newH lim H3):=by rw[c16,if_neg hlim];rfl
 have hS3:StF (newH lim H3) (H0.next+5) lim [] [] (.slice none 0 0) (H0.next+3) (H0.next+4):=newH_st lim H3;have old3:∀j,j<H0.next+3→(newH lim H3).get j=H3.get j:=fun j hj=>zmB lim H3 j hj;have t1:T3 (newH lim H3) H0.next (H0.next+1) (H0.next+2) (.pointer none) (.slice none 0 0) (.int .i64 0):=⟨by rw[old3 _ (by omega)];exact t0.a1,by rw[old3 _ (by omega)];exact t0.a3,by rw[old3 _ (by omega)];exact t0.a5,t0.n13,t0.n15,t0.n35⟩
 have f3n:Frm (H0.next ≤ ·) H3 (newH lim H3):=⟨by rw[zkp];omega,fun j hj _=>zmB lim H3 j hj⟩
 have w1:∀{H2 H3:Hp} {q:Nat},H0.next≤q→Frm (· = q) H2 H3→Frm (H0.next ≤ ·) H2 H3:=fun hq k=>k.mono fun j e=>.inl (by rw[e];exact hq);obtain⟨H4,a1,a2,a3⟩:=t1.s1 (v:=.pointer (some ⟨H0.next+5,0,none⟩)) ⟨rfl,rfl⟩;obtain⟨H5,b1,b2,b3⟩:=a2.s5 (v:=.int .i64 0) ⟨rfl,rfl⟩;have hz:¬((0:Int)≠0):=by decide
 simp only[zfj,n_new]at hrun;rw[show ((H0.new (.cells [.pointer none] true)).new (.cells [.slice none 0 0] true)).new (.cells [.int .i64 0] true)=H3 from rfl,zaf hnew,x01,a1,b1,b2.l5,za5,zac,s_br,if_neg (fun q=>hz (of_decide_eq_true q))]at hrun;have n5:H5.next=H0.next+6:=by
  have e1:=a1 Nat fun H=>some H.next;have e2:=b1 Nat fun H=>some H.next;have e3:∀(o:Nat) (v:Value) (H:Hp) (cs:List Value),H.get o=some (.cells cs true)→cs.length=1→OneV v→(zay 1 H (.pointer (some ⟨o,0,none⟩)) v fun H=>some H.next)=some H.next:=fun o v H cs hg hc hv=>by rw[zhD hg hv.1 hv.2 (by omega)];rfl
  rw[e3 _ _ _ _ t1.a1 rfl ⟨rfl,rfl⟩]at e1;rw[e3 _ _ _ _ a2.a5 rfl ⟨rfl,rfl⟩]at e2;have e1:=Option.some.inj e1;have e2:=Option.some.inj e2;rw[←e2,←e1,zkp];rfl
 have f35:Frm (H0.next ≤ ·) (newH lim H3) H5:=(w1 (Nat.le_refl _) a3).trans (w1 (by omega) b3) fun j q=>.inl q;have f05:Frm (H0.next ≤ ·) H0 H5:=(f03.trans f3n fun j q=>.inl q).trans f35 fun j q=>.inl q;have hS5:StF H5 (H0.next+5) lim [] [] (.slice none 0 0) (H0.next+3) (H0.next+4):=by have k4:StF H4 (H0.next+5) lim [] [] (.slice none 0 0) (H0.next+3) (H0.next+4):=hS3.keep (fun j hj=>a3.same j (hS3.foot_lt hj) fun e=>by have:=zin hj;omega) a3.next;exact k4.keep (fun j hj=>b3.same j (k4.foot_lt hj) fun e=>by have:=zin hj;omega) b3.next
 obtain⟨v,H6,s1,s2,s3,s4⟩:=c_split l (by omega) H5;have s1':RR BQ [str l,.string ⟨#[10]⟩] H5=some (v,H6):=s1;rw[zaf s1']at hrun;have hcl:=zgw 10 l;have hcnt:l.count 10≤l.length:=count_le_length;have hlast:=cut_last l;obtain⟨y,hy,⟨rest,hg⟩,hix⟩:=s2.ix (i:=l.count 10) (by omega)
 have hld:=fun (α:Type) (k:Value→Option α)=>zbO hg (l.count 10*1) (str ((cutB 10 l).getD (l.count 10) [])) (by
  rw[Nat.mul_one,List.getElem?_append_left (by rw[length_map];omega),List.getElem?_map,hlast];rfl) k
 have hone:((cutB 10 l).map str).all one=true:=by rw[all_map];exact all_eq_true.2 fun _ _=>rfl
 obtain⟨v2,u1,u2,u3⟩:=s2.cut hone (m:=l.count 10) (by omega);have hsub:IntKind.i64.wrap (((cutB 10 l).length:Int)-1)=((l.count 10:Nat):Int):=by rw[hcl,w64 (by omega) (by omega)];omega
 have hlines:∃lv,(zav (
    pLen .sl v H6 fun v25=>
    pBin PP .sub Aa v25 (.int .i64 1) fun v26=>
    pIdx 1 v v26 fun p27=>
    zak 1 false H6 p27 fun v28=>
    pBin PP .eql Ac v28 (.string ⟨#[]⟩) fun v29=>
    zaa v29 fun b30=>br b30
    (pLen .sl v H6 fun v31=>
    pBin PP .sub Aa v31 (.int .i64 1) fun v32=>
    zcf 1 v none (some v32) fun v33=>
    some (.next,[v33],H6))
    (some (.next,[v],H6))):(Ctl→List Value→Hp→Option (Value×Hp))→Option (Value×Hp))=(fun k=>k .next [lv] H6)∧Vec H6 1 lv (zbB l).length ((zbB l).map str)∧∀j,Id lv j→H5.next≤j:=by
  have hemp:∀{α:Type} (k:Value→Option α),pBin PP .eql Ac (str ((cutB 10 l).getD (l.count 10) [])) (.string ⟨#[]⟩) k=k (.bool ((cutB 10 l).getD (l.count 10) []==[])):=fun k=>ze0 Ac _ [] k;unfold zbB;by_cases he:(cutB 10 l).getD (l.count 10) []=[]
  ·rw[if_pos he];have hb:((cutB 10 l).getD (l.count 10) []==[])=true:=by rw[he];rfl
   refine⟨v2,?_,?_,fun j hj=>s4 j (u3 j hj)⟩
   ·funext k;simp only[s2.len,zbK,hsub,hix,hld,hemp,hb,zac,s_br,if_true,u1,zal]
   ·rw[length_take,Nat.min_eq_left (by omega),map_take];rw[Nat.mul_one]at u2;exact u2
  ·rw[if_neg he];have hb:((cutB 10 l).getD (l.count 10) []==[])=false:=by rw[beq_eq_false_iff_ne];exact he
   refine⟨v,?_,s2,s4⟩;funext k;simp only[s2.len,zbK,hsub,hix,hld,hemp,hb,zac,s_br,Bool.false_eq_true,if_false,zal]
 obtain⟨lv,z1,z2,z3⟩:=hlines;have hrun2:=hrun.trans (congrFun z1 _);rw[zaA]at hrun2;have hst:=LS.start hL b2 hS5 n5 f05 z2 s3 z3;have hloop:=zlP (lines:=zbB l) (by have:=zmG l;omega) (fun x hx=>by have:=zqb l x hx;omega) (zbB l) 0 _ (.int .i64 0) [] [] _ _ [] _ _ [] rfl (Nat.zero_le _) rfl (Nat.le_refl _) (Inv.nil lim) hst;have hfin:=hloop.fin (fun H k=>z2.len H k) (by have:=zmG l;omega) b2.n13 b2.n15 b2.n35 (Nat.le_refl _) (by omega) (by omega);have f07:Frm (H0.next ≤ ·) H0 (H6.new (.cells [.pointer (some ⟨H0.next+5,0,none⟩),.slice none 0 0,.slice none 0 0] true)):=(f05.trans (s3.mono fun j q=>q.elim) fun j q=>.inl q).trans (zcv _ _ (H0.next ≤ ·)) fun j q=>.inl q;have b6:∀(k:Value→Option (Value×Hp)),zak 1 false H6 (.pointer (some ⟨H0.next,0,none⟩)) k=k (.pointer (some ⟨H0.next+5,0,none⟩)):=fun k=>by exact zbO (by rw[s3.same _ (by omega) fun q=>q];exact b2.a1) 0 _ rfl k
 simp only[qg0]at hrun2;rw[b6,bldRd]at hrun2;have hcl3:zab (.agg #[.pointer (some ⟨H0.next+5,0,none⟩),.slice none 0 0,.slice none 0 0])=[.pointer (some ⟨H0.next+5,0,none⟩),.slice none 0 0,.slice none 0 0]:=rfl;rw[hcl3,z2.len]at hrun2;cases hq:zeu lim (zbB l) 0 [] [] [] with
 |bad ln e=>
  rw[hq]at hfin;obtain⟨H7,x1,⟨a,b,c,x2⟩,x3⟩:=hfin;have hrun3:=hrun2.trans (congrArg (fun z=>zit z _) x1);obtain⟨H8,y1,y2,y3⟩:=c_caught x2 e;have hf8:Frm (H0.next ≤ ·) H0 H8:=(f07.trans x3 fun j q=>.inl q).trans (y3.mono fun j q=>.inl (by rcases q with q|q|q<;>omega)) fun j q=>.inl q;refine⟨H8,hrun3.trans ?_,hf8.mono fun j q=>.inr q⟩;rw[zl4,s_wrap0];have e1:∀{α:Type} (k:Value→List Value→Option α),pTail (.tuple #[zcJ e,.int .i64 (ln:Int)]) k=k (zcJ e) [.int .i64 (ln:Int)]:=fun k=>rfl;rw[e1,zir];have e2:∀(k:Value→Hp→Option (Value×Hp)),zit (zc0 RR (zcJ e) (.pointer (some ⟨H0.next,0,none⟩)) (.pointer (some ⟨H0.next+1,0,none⟩)) (.pointer (some ⟨H0.next+2,0,none⟩)) H7) k=k (.tuple #[]) H8:=fun k=>by rw[y1];rfl
  refine(e2 _).trans ?_;rw[end_ld y2]
  ·rfl
  ·rfl
  ·rfl
  ·rfl
  ·intro k;kernel_rfl
  ·intro k;kernel_rfl
  ·intro k;kernel_rfl
 |good L K q=>
  rw[hq]at hfin;obtain⟨H7,sl,rv,x1,x2,x3,x4,x5,x6,x7,x8⟩:=hfin;have hrun3:=hrun2.trans (congrArg (fun z=>zit z _) x1);refine⟨H7,_,_,_,sl,rv,hrun3.trans ?_,x3,x4,(f07.trans x5 fun j q=>.inl q).mono fun j q=>.inr q,x6,x7,x8⟩;rw[zl4,s_wrap1];have e1:∀(k:List Value→Option (Value×Hp)),zl6 [.cell 4 An,.cell 5 AQ,.tmp 6,.cell 7 Am] (.tuple #[.pointer (some ⟨H0.next+5,0,none⟩),rv,.int .i64 0,.int .i64 0]) k=k [.pointer (some ⟨H0.next+5,0,none⟩),rv,.int .i64 0,.int .i64 0]:=fun k=>rfl;have e2:∀(k:List Value→Option (Value×Hp)),znw [.cell 4 An,.cell 5 AQ,.tmp 6,.cell 7 Am] [.pointer (some ⟨H0.next+5,0,none⟩),rv,.int .i64 0,.int .i64 0] k=k [.int .i64 0]:=fun k=>rfl;refine(e1 _).trans ((e2 _).trans ?_);rw[zir,c_calm];show endL PP _ H7 _ [.int .i64 0] _=_;rw[end_ld x2]
  ·rfl
  ·rfl
  ·rfl
  ·rfl
  ·intro k;kernel_rfl
  ·intro k;kernel_rfl
  ·intro k;kernel_rfl
end Go.AM
namespace Go.AM
open Go
theorem ncell6{α:Type}(n:Nd)(k:Value→Option α):zae 1 false n.cells 6 k=k (.string n.name):=zcc _ 6 _ rfl k
section
end
section
end
section
end
section
end
theorem q_fields{op:Int}(h:1≤op∧op≤33)(H:Hp):RR A9 [.int .i64 op] H=some (.string (ba (fl op)),H):=by
 refine(zfT E0 rfl _ _).trans ?_;unfold zdu fl;rw[zb0,zac];by_cases h2:op≤2
 ·rw[decide_eq_true h2,zaE,if_pos h2]
 rw[decide_eq_false h2,zau,if_neg h2,zaF,zac];by_cases h3:op=3
 ·rw[decide_eq_true h3,zaE,if_pos h3]
 rw[decide_eq_false h3,zau,if_neg h3,zaF,zac];by_cases h4:op=4
 ·rw[decide_eq_true h4,zaE,if_pos h4]
 rw[decide_eq_false h4,zau,if_neg h4,zaF,zac];by_cases h31:op=31
 ·rw[decide_eq_true h31,zaE,if_pos h31]
 rw[decide_eq_false h31,zau,if_neg h31,zbt,zac];by_cases h32:op≥32
 ·rw[decide_eq_true h32,zaE,if_pos h32]
 rw[decide_eq_false h32,zau,if_neg h32,zaf (c46 _ _)];have hp:zi3 op=zaj op:=by unfold zi3;rw[if_neg (by omega)]
 rw[hp];rcases zcy op with q|q|q|q<;>rw[q]
 ·rfl
 ·rfl
 ·rfl
 ·rfl
end Go.AM
namespace Go.AM
open List Go
def fullD:Option (Nd×List (List UInt8))→Option Nd
 |some (m,[])=>some m
 |_=>none
def znG(ws:List (List UInt8))(ts:List Int):Option Nd:=match ws with
 |w0::o::r=>if zaQ w0=((ts.length+1:Nat):Int) then (match opF o with
  |none=>none
  |some op=>fullD (rdF (zdL (op:Int)) r ts 0 (nd0 (op:Int)))) else none
 |_=>none
theorem lineP_eq(ws:List (List UInt8))(ts:List Int)(L:List Nd):zky ws ts L=(znG ws ts).map fun m=>{ m with w:=zc5 L m }:=by
 unfold zky znG numF
 match ws with
 |[]=>rfl
 |[w0]=>
  dsimp only;by_cases h:zaQ w0<0
  ·rw[if_pos h];rfl
  ·rw[if_neg h];dsimp only;split<;>rfl
 |w0::o::r=>
  dsimp only;by_cases h:zaQ w0<0
  ·rw[if_pos h,if_neg (by omega)];rfl
  ·rw[if_neg h];dsimp only;by_cases h2:zaQ w0=((ts.length+1:Nat):Int)
   ·rw[if_pos h2,if_pos h2];unfold zoU;dsimp only[tail_cons];cases opF o with
    |none=>rfl
    |some op=>
     dsimp only;cases rdF (zdL (op:Int)) r ts 0 (nd0 (op:Int)) with
     |none=>rfl
     |some q=>
      obtain⟨m,w⟩:=q;cases w<;>rfl
   ·rw[if_neg h2,if_neg h2];rfl
def opL(w:List UInt8):List (List UInt8)→Nat→Nat→Nat
 |[],_,acc=>acc
 |x::r,i,acc=>opL w r (i+1) (if x=w then i else acc)
theorem zkl{w:List UInt8}:∀(l:List (List UInt8)) (i:Nat),w∉l→zgY w l i=none
 |[],_,_=>rfl
 |x::r,i,h=>by unfold zgY;rw[if_neg (fun q:0<i∧x=w=>h (q.2▸mem_cons_self ..))];exact zkl r (i+1) fun q=>h (mem_cons_of_mem _ q)
theorem opL_eq{w:List UInt8}:∀(l:List (List UInt8)) (i acc:Nat),0<i→l.Nodup→opL w l i acc=(zgY w l i).getD acc
 |[],_,_,_,_=>rfl
 |x::r,i,acc,hi,hn=>by
  unfold opL zgY;rw[nodup_cons]at hn;rw[opL_eq r (i+1) _ (by omega) hn.2];by_cases h:x=w
  ·rw[if_pos h,if_pos ⟨hi,h⟩,zkl r (i+1) (h▸hn.1)];rfl
  ·rw[if_neg h,if_neg (fun q=>h q.2)]
theorem opL_top(w:List UInt8):opL w (zdF.drop 1) 1 0=(opF w).getD 0:=by
 have h:(zdF.drop 1).Nodup:=by decide
 rw[opL_eq _ 1 0 (by decide) h];rfl
theorem zfI{α:Type}(n:Nd)(k:Value→Option α):zae 7 true n.cells 0 k=k n.val:=by
 have:zcx n.cells 0 7 true=some n.val:=by kernel_rfl
 unfold zae;rw[this]
theorem splN{α:Type}(n:Nd)(o:Nat)(ho:o<7)(v:Value)(h1:OneV v)(k:List Value→Option α):zaD 1 n.cells o v k=k (spl n.cells o [v]):=by
 have:zbE 1 n.cells o v=some (spl n.cells o [v]):=by unfold zbE;rw[h1.1,if_pos ⟨rfl,by show o+1≤7;omega,by simp[h1.2]⟩]
 unfold zaD;rw[this]
theorem zno(w:List UInt8)(H:Hp)(x0:Value)(hix:∃y,(∀(α:Type) (k:Value→Option α),pIdx 1 x0 (.int .i64 1) k=k (.pointer (some y)))∧Hp.rdP H (.pointer (some y)) 1 false=some (str w)):∀(rest:List (List UInt8)) (i acc:Nat),zdF.drop i=rest→1≤i→i≤34 →
  zas (zbk RR x0) [.int .i64 (i:Int),(nd0 (acc:Int)).val] H=some (.exit 0,[.int .i64 34,(nd0 ((opL w rest i acc:Nat):Int)).val],H)
 |[],i,acc,hr,h1,hi=>by
  have hl:zdF.length=34:=rfl;have hil:i=34:=by have:=congrArg List.length hr;rw[length_drop,hl]at this;simp at this;omega
  have this:zbk RR x0 [.int .i64 (i:Int),(nd0 (acc:Int)).val] H=some (.exit 0,[.int .i64 (i:Int),(nd0 (acc:Int)).val],H):=by
   unfold zbk;have h1:¬((i:Int)≤33):=by omega
   simp only[qg0,qg1,qd1,qd0,zb0,zac,s_br,h1,decide_false,Bool.false_eq_true,if_false];rfl
  rw[zai,this,hil];rfl
 |x::r,i,acc,hr,h1,hi=>by
  have hl:zdF.length=34:=rfl;have hlt:i<34:=by have:=congrArg List.length hr;rw[length_drop,hl]at this;simp at this;omega
  have hget:zdF[i]?=some x:=by have:=congrArg (fun x=>x[0]?) hr;simpa using this
  have hr2:zdF.drop (i+1)=r:=by rw[←drop_drop,hr];rfl
  obtain⟨y,hix1,hrd⟩:=hix;have hinc:IntKind.i64.wrap ((i:Int)+1)=((i+1:Nat):Int):=w64 (by omega) (by omega);have hle:((i:Int)≤33):=by omega
  have hw:word zdF (i:Int)=x:=by unfold word;rw[Int.toNat_natCast,getD_eq_getElem?_getD,hget];rfl
  have hwd:RR BC [.int .i64 (i:Int)] H=some (str x,H):=by have:=refWord (op:=(i:Int)) (by omega) H;rw[hw]at this;exact this
  have hld:∀{α:Type} (k:Value→Option α),zak 1 false H (.pointer (some y)) k=k (str w):=fun k=>by unfold zak;rw[hrd]
  have hc:zab (nd0 (acc:Int)).val=(nd0 (acc:Int)).cells:=rfl;have this:zbk RR x0 [.int .i64 (i:Int),(nd0 (acc:Int)).val] H=some (.next,[.int .i64 ((i+1:Nat):Int),(nd0 (((if x=w then i else acc:Nat):Nat):Int)).val],H):=by
   unfold zbk;by_cases hx:x=w
   ·have hx':(x==w)=true:=by rw[beq_iff_eq];exact hx
    rw[if_pos hx];simp only[qg0,qg1,qd1,qd0,zb0,zac,s_br,hle,decide_true,if_true,zaf hwd,hix1,hld,zha hrd,ze0,hx',hc,splN _ 0 (by decide) _ (show OneV (.int .i64 (i:Int)) from⟨rfl,rfl⟩),zaN,hinc];rfl
   ·have hx':(x==w)=false:=by rw[beq_eq_false_iff_ne];exact hx
    rw[if_neg hx];simp only[qg0,qg1,qd1,qd0,zb0,zac,s_br,hle,decide_true,if_true,zaf hwd,hix1,hld,zha hrd,ze0,hx',hc,Bool.false_eq_true,if_false,zaN,hinc];rfl
  rw[zai,this];unfold opL;exact zno w H x0 ⟨y,hix1,hrd⟩ r (i+1) _ hr2 (by omega) hlt
def fldC:Fld→UInt8
 |.p=>112
 |.n=>110
 |.w=>119
 |.s=>115
theorem fl_all:((List.range 34).all fun op=>decide (op=0)||decide (fl (op:Int)=(zdL (op:Int)).map fldC))=true:=by decide +kernel
theorem fl_eq{op:Nat}(h1:1≤op)(h2:op≤33):fl (op:Int)=(zdL (op:Int)).map fldC:=by
 have:=all_eq_true.1 fl_all op (mem_range.2 (by omega));rw[Bool.or_eq_true,decide_eq_true_eq,decide_eq_true_eq]at this;rcases this with q|q
 ·omega
 ·exact q
def z7:List Value:=[.int .i64 0,.int .i64 0,.int .i64 0,.int .i64 0,.int .i64 0,.int .u64 0,.string ⟨#[]⟩]
def z7V:Value:=.agg z7.toArray
theorem splZ{α:Type}(n:Nd)(k:List Value→Option α):zaD 7 (zab z7V) 0 n.val k=k n.cells:=spl7 n k
theorem splZ'{α:Type}(n:Nd)(k:List Value→Option α):zaD 7 z7 0 n.val k=k n.cells:=spl7 n k
theorem cellsV(n:Nd):zab n.val=n.cells:=rfl
theorem zmj{H:Hp}{x0:Value}{ws:List (List UInt8)}(h:Rdb H 1 x0 ws.length (ws.map str)){j:Nat}{w:List UInt8}(hj:ws[j]?=some w) :
  ∃y,(∀(α:Type) (k:Value→Option α),pIdx 1 x0 (.int .i64 (j:Int)) k=k (.pointer (some y)))∧Hp.rdP H (.pointer (some y)) 1 false=some (str w):=by
 have hlt:j<ws.length:=(List.getElem?_eq_some_iff.1 hj).1;obtain⟨y,hy,⟨rest,own,hg⟩,hix⟩:=h.ix hlt;refine⟨⟨y,j*1,none⟩,fun α k=>hix α .i64 k,ziY hg (j*1) (str w) ?_⟩;rw[Nat.mul_one,List.getElem?_append_left (by rw[length_map];exact hlt),List.getElem?_map,hj];rfl
theorem rd_int{H:Hp}{x1:Value}{ts:List Int}(h:Rdb H 1 x1 ts.length (i64s ts)){j:Nat}(hj:j<ts.length) :
  ∃y,(∀(α:Type) (k:Value→Option α),pIdx 1 x1 (.int .i64 (j:Int)) k=k (.pointer (some y)))∧Hp.rdP H (.pointer (some y)) 1 false=some (.int .i64 (ts.getD j 0)):=by
 obtain⟨y,hy,⟨rest,own,hg⟩,hix⟩:=h.ix hj;refine⟨⟨y,j*1,none⟩,fun α k=>hix α .i64 k,ziY hg (j*1) (.int .i64 (ts.getD j 0)) ?_⟩;rw[Nat.mul_one,List.getElem?_append_left (by simpa[i64s] using hj),i64s,List.getElem?_map,getD_eq_getElem?_getD,List.getElem?_eq_getElem hj];rfl
theorem zkz{H:Hp}{y:Addr}{v:Value}(h:Hp.rdP H (.pointer (some y)) 1 false=some v){α:Type}(k:Value→Option α):zak 1 false H (.pointer (some y)) k=k v:=by unfold zak;rw[h]
theorem setP_spl(k:Nat)(n:Nd)(t:Int):(setP k n t).cells=spl n.cells (if k=0 then 2 else if k=1 then 3 else 4) [.int .i64 t]:=by
 unfold setP;split
 ·rfl
 ·split<;>rfl
theorem rdF_len:∀(fs:List Fld) (ws:List (List UInt8)) (ts:List Int) (k:Nat) (n m:Nd),rdF fs ws ts k n=some (m,[])→fs.length=ws.length
 |[],ws,ts,k,n,m,h=>by cases h;rfl
 |f::fs,[],ts,k,n,m,h=>by cases h
 |f::fs,w::ws,ts,k,n,m,h=>by
  rw[zcX]at h;cases hs:setF f w ts k n with
  |none=>rw[hs]at h;cases h
  |some q=>
   rw[hs]at h;rw[length_cons,length_cons,rdF_len fs ws ts _ q m h]
theorem zqU{H:Hp}{x0 x1:Value}{ws:List (List UInt8)}{ts:List Int}(hw:Rdb H 1 x0 ws.length (ws.map str))(ht:Rdb H 1 x1 ts.length (i64s ts))(hsh:∀w∈ws,w.length≤2^40)(htl:ts.length≤2^40)(all:List Fld)(hal:all.length≤10)(k part:Nat)(hp:part≤k)(n:Nd){f:Fld}{w:List UInt8}(hf:all[k]?=some f)(hk:ws[k+2]?=some w) :
  match setF f w ts part n with
  |none=>∃v:Nd,zaP RR x0 x1 (str (all.map fldC)) [.int .i64 (part:Int),.int .i64 (k:Int),z7V,n.val] H=some (.ret,[.tuple #[v.val,.bool false]],H)
  |some m=>zaP RR x0 x1 (str (all.map fldC)) [.int .i64 (part:Int),.int .i64 (k:Int),z7V,n.val] H=some (.next,[.int .i64 (((if f=.p then part+1 else part:Nat):Nat):Int),.int .i64 ((k+1:Nat):Int),z7V,m.val],H):=by
 have hlt:k<all.length:=(List.getElem?_eq_some_iff.1 hf).1;have hwl:=hsh w (mem_of_getElem? hk);obtain⟨y,hix,hrd⟩:=zmj hw hk;have hlen:∀{α:Type} (kk:Value→Option α),pLen .str (str (all.map fldC)) H kk=kk (.int .i64 (all.length:Int)):=fun kk=>by rw[zcW,length_map]
 have h1:((k:Int)<(all.length:Int)):=by omega
 have hadd2:IntKind.i64.wrap ((k:Int)+2)=((k+2:Nat):Int):=w64 (by omega) (by omega);have hinc:IntKind.i64.wrap ((k:Int)+1)=((k+1:Nat):Int):=w64 (by omega) (by omega);have hpinc:IntKind.i64.wrap ((part:Int)+1)=((part+1:Nat):Int):=w64 (by omega) (by omega);have hat:∀{α:Type} (kk:Value→Option α),zbn (str (all.map fldC)) (.int .i64 (k:Int)) kk=kk (.int .u8 ((fldC f).toNat:Int)):=fun kk=>f_at (ba (all.map fldC)) .i64 k (fldC f) (by rw[ze8,List.getElem?_map,hf];rfl) kk;have hsm:=zoE w hwl H;have hnum:=zpR w hwl H;have hb:=zjN w;have hzz:(Value.agg (zab z7V).toArray)=z7V:=rfl;have hnn:∀m:Nd,Value.agg m.cells.toArray=m.val:=fun m=>rfl;unfold zaP;simp only[qg0,qg1,qd1,qd0,hlen,zaV,zac,s_br,h1,decide_true,if_true,zaN,hadd2,hix,zkz hrd,zaf hsm,hat,zaF,cellsV];unfold setF;cases f with
 |p=>
  have c1:((fldC .p).toNat:Int)=112:=rfl;simp only[c1,decide_true,if_true];by_cases hv:1≤zaQ w∧zaQ w≤ts.length
  ·rw[if_pos hv];have e1:¬(zaQ w<1):=by omega
   have e2:¬(zaQ w>(ts.length:Int)):=by omega
   have e3:IntKind.i64.wrap (zaQ w-1)=(((zaQ w-1).toNat:Nat):Int):=by rw[w64 (by omega) (by omega)];omega
   obtain⟨y2,hix2,hrd2⟩:=rd_int ht (j:=(zaQ w-1).toNat) (by omega);have ho:∀o,OneV (.int .i64 o):=fun o=>⟨rfl,rfl⟩
   have hspl:=setP_spl part n (ts.getD (zaQ w-1).toNat 0);by_cases p0:part=0
   ·have p0':((part:Int)=0):=by omega
    rw[if_pos p0]at hspl;simp only[e1,e2,decide_false,Bool.false_eq_true,if_false,ht.len,zbp,zal,zaA,p0',decide_true,if_true,zbK,e3,hix2,zkz hrd2,splN n 2 (by decide) _ (ho _),←hspl,hzz,hnn,hinc,zaN,zac,s_br];rw[p0];rfl
   ·have p0':¬((part:Int)=0):=by omega
    rw[if_neg p0]at hspl;by_cases p1:part=1
    ·have p1':((part:Int)=1):=by omega
     rw[if_pos p1]at hspl;simp only[e1,e2,decide_false,Bool.false_eq_true,if_false,ht.len,zbp,zal,zaA,p0',p1',show ¬((1:Int)=0) from by decide,decide_true,if_true,zbK,e3,hix2,zkz hrd2,splN n 3 (by decide) _ (ho _),←hspl,hzz,hnn,hinc,zaN,zac,s_br];rw[p1];rfl
    ·have p1':¬((part:Int)=1):=by omega
     rw[if_neg p1]at hspl;simp only[e1,e2,decide_false,Bool.false_eq_true,if_false,ht.len,zbp,zal,zaA,p0',p1',decide_true,if_true,zbK,e3,hix2,zkz hrd2,splN n 4 (by decide) _ (ho _),←hspl,hzz,hnn,hinc,hpinc,zaN,zac,s_br];rfl
  ·rw[if_neg hv];by_cases e1:zaQ w<1
   ·simp only[e1,decide_true,if_true,zfI,splZ,zal,zbZ];exact⟨_,rfl⟩
   ·have e2:(zaQ w>(ts.length:Int)):=by omega
    simp only[e1,e2,decide_false,decide_true,Bool.false_eq_true,if_false,if_true,ht.len,zbp,zfI,splZ,zal,zbZ,zac,s_br];exact⟨_,rfl⟩
 |n=>
  have c1:((fldC .n).toNat:Int)=110:=rfl;simp only[c1,show ¬((110:Int)=112) from by decide,decide_true,decide_false,Bool.false_eq_true,if_false,if_true,zaf hnum];cases hn:numP w with
  |none=>
   have e0:∀{α:Type} (k:Value→Option α),zah (numV none) 0 k=k (.int .u64 0):=fun k=>rfl;have e1:∀{α:Type} (k:Value→Option α),zah (numV none) 1 k=k (.int .i64 10):=fun k=>rfl;simp only[e0,e1,za5,zac,s_br,show ((10:Int)≠0) from by decide,decide_true,if_true,ne_eq,not_false_eq_true,zfI,splZ];exact⟨_,rfl⟩
  |some x=>
   have e0:∀{α:Type} (k:Value→Option α),zah (numV (some x)) 0 k=k (.int .u64 (x:Int)):=fun k=>rfl;have e1:∀{α:Type} (k:Value→Option α),zah (numV (some x)) 1 k=k (.int .i64 0):=fun k=>rfl;have hz:¬((0:Int)≠0):=by decide
   have hop:∀{α:Type} (kk:Value→Option α),zae 1 false n.cells 0 kk=kk (.int .i64 n.op):=fun kk=>zcc _ 0 _ rfl kk;have hspl:spl n.cells 5 [.int .u64 (x:Int)]=({ n with num:=(x:Int) }:Nd).cells:=rfl;dsimp only;by_cases h3:n.op=3
   ·rw[if_pos (.inl h3)];have h3':¬(n.op≠3):=fun q=>q h3;simp only[e0,e1,za5,zac,s_br,hz,h3',decide_false,Bool.false_eq_true,if_false,hop,splN n 5 (by decide) _ (show OneV (.int .u64 (x:Int)) from⟨rfl,rfl⟩),hspl,hinc,hzz,hnn];rfl
   ·by_cases hv:0≤zaQ w
    ·rw[if_pos (.inr hv)];have hv':¬(zaQ w<0):=by omega
     simp only[e0,e1,za5,zac,s_br,hz,h3,hv',ne_eq,not_false_eq_true,decide_true,decide_false,Bool.false_eq_true,if_true,if_false,hop,splN n 5 (by decide) _ (show OneV (.int .u64 (x:Int)) from⟨rfl,rfl⟩),hspl,hinc,hzz,hnn];rfl
    ·rw[if_neg (by intro q;rcases q with q|q;exact h3 q;exact hv q)];have hv':(zaQ w<0):=by omega
     simp only[e0,e1,za5,zac,s_br,hz,h3,hv',ne_eq,not_false_eq_true,decide_true,decide_false,Bool.false_eq_true,if_true,if_false,hop,zfI,splZ];exact⟨_,rfl⟩
 |w=>
  have c1:((fldC .w).toNat:Int)=119:=rfl;have hspl:spl n.cells 1 [.int .i64 (zaQ w)]=({ n with w:=zaQ w }:Nd).cells:=rfl;simp only[c1,show ¬((119:Int)=112) from by decide,show ¬((119:Int)=110) from by decide,decide_true,decide_false,Bool.false_eq_true,if_false,if_true];by_cases hv:zaQ w<0
  ·rw[if_pos hv];simp only[hv,decide_true,if_true,zfI,splZ];exact⟨_,rfl⟩
  ·rw[if_neg hv];simp only[hv,decide_false,Bool.false_eq_true,if_false,splN n 1 (by decide) _ (show OneV (.int .i64 (zaQ w)) from⟨rfl,rfl⟩),hspl,hinc,hzz,hnn];rfl
 |s=>
  have c1:((fldC .s).toNat:Int)=115:=rfl;have hspl:spl n.cells 6 [str w]=({ n with name:=ba w }:Nd).cells:=rfl;simp only[c1,show ¬((115:Int)=112) from by decide,show ¬((115:Int)=110) from by decide,show ¬((115:Int)=119) from by decide,decide_true,decide_false,Bool.false_eq_true,if_false,if_true,hix,zkz hrd,splN n 6 (by decide) _ (show OneV (str w) from⟨rfl,rfl⟩),hspl,hinc,hzz,hnn];rfl
theorem zls{H:Hp}{x0 x1:Value}{ws:List (List UInt8)}{ts:List Int}(hw:Rdb H 1 x0 ws.length (ws.map str))(ht:Rdb H 1 x1 ts.length (i64s ts))(hsh:∀w∈ws,w.length≤2^40)(htl:ts.length≤2^40)(all:List Fld)(hal:all.length≤10):∀(fs:List Fld) (rws:List (List UInt8)) (k part:Nat) (n:Nd),all.drop k=fs→ws.drop (k+2)=rws→fs.length=rws.length→part≤k→k≤all.length →
  match rdF fs rws ts part n with
  |none=>∃v:Nd,zas (zaP RR x0 x1 (str (all.map fldC))) [.int .i64 (part:Int),.int .i64 (k:Int),z7V,n.val] H=some (.ret,[.tuple #[v.val,.bool false]],H)
  |some (m,q)=>q=[]∧∃a b,zas (zaP RR x0 x1 (str (all.map fldC))) [.int .i64 (part:Int),.int .i64 (k:Int),z7V,n.val] H=some (.exit 2,[a,b,z7V,m.val],H)
 |[],rws,k,part,n,h1,h2,h3,h4,h5=>by
  have hk:k=all.length:=by have:=congrArg List.length h1;rw[length_drop]at this;simp at this;omega
  have hr:rws=[]:=length_eq_zero_iff.1 h3.symm;have this:zaP RR x0 x1 (str (all.map fldC)) [.int .i64 (part:Int),.int .i64 (k:Int),z7V,n.val] H=some (.exit 2,[.int .i64 (part:Int),.int .i64 (k:Int),z7V,n.val],H):=by
   have hlen:∀{α:Type} (kk:Value→Option α),pLen .str (str (all.map fldC)) H kk=kk (.int .i64 (all.length:Int)):=fun kk=>by rw[zcW,length_map]
   have e1:¬((k:Int)<(all.length:Int)):=by omega
   unfold zaP;simp only[qg0,qg1,qd1,qd0,hlen,zaV,zac,s_br,e1,decide_false,Bool.false_eq_true,if_false];rfl
  exact⟨hr,_,_,by rw[zai,this];rfl⟩
 |f::fs,[],k,part,n,h1,h2,h3,h4,h5=>by cases h3
 |f::fs,w::rws,k,part,n,h1,h2,h3,h4,h5=>by
  have hf:all[k]?=some f:=by have:=congrArg (fun x=>x[0]?) h1;simpa using this
  have hk:ws[k+2]?=some w:=by have:=congrArg (fun x=>x[0]?) h2;simpa using this
  have hlt:k<all.length:=(List.getElem?_eq_some_iff.1 hf).1;have h1':all.drop (k+1)=fs:=by rw[←drop_drop,h1];rfl
  have h2':ws.drop (k+1+2)=rws:=by
   have:k+1+2=(k+2)+1:=by omega
   rw[this,←drop_drop,h2];rfl
  have hs:=zqU hw ht hsh htl all hal k part h4 n hf hk;rw[zcX];cases hq:setF f w ts part n with
  |none=>
   rw[hq]at hs;obtain⟨v,hv⟩:=hs;exact⟨v,by rw[zai,hv];rfl⟩
  |some m=>
   rw[hq]at hs;have ih:=zls hw ht hsh htl all hal fs rws (k+1) (if f=.p then part+1 else part) m h1' h2' (Nat.succ.inj h3) (by split<;>omega) hlt;rw[zai,hs];exact ih
theorem bld_nd{α:Type}(k:Value→Option α):zaS PP Ah [] k=k (nd0 0).val:=by
 have:zg3 PP Ah []=some (nd0 0).val:=by kernel_rfl
 unfold zaS;rw[this]
def QNode(H:Hp)(x0 x1:Value):Option Nd→Prop
 |none=>∃m:Nd,RR AX [x0,x1] H=some (.tuple #[m.val,.bool false],H)
 |some m=>RR AX [x0,x1] H=some (.tuple #[m.val,.bool true],H)
theorem q_node{H:Hp}{x0 x1:Value}{ws:List (List UInt8)}{ts:List Int}(hw:Rdb H 1 x0 ws.length (ws.map str))(ht:Rdb H 1 x1 ts.length (i64s ts))(hsh:∀w∈ws,w.length≤2^40)(htl:ts.length≤2^40)(hwl:ws.length≤2^40) :
  QNode H x0 x1 (znG ws ts):=by
 have hrun:=zhh E0 rfl x0 x1 H;rw[zhs,bld_nd]at hrun;have s0:∀{α:Type} (n:Nd) (k:List Value→Option α),zaD 7 [.int .i64 0,.int .i64 0,.int .i64 0,.int .i64 0,.int .i64 0,.int .u64 0,.string ⟨#[]⟩] 0 n.val k=k n.cells:=fun n k=>spl7 n k;have hlen:∀{α:Type} (k:Value→Option α),pLen .sl x0 H k=k (.int .i64 (ws.length:Int)):=fun k=>hw.len H k;rw[s0]at hrun;simp only[hlen,zaV,zac,s_br]at hrun;unfold znG;by_cases h2:ws.length<2
 ·have h2':((ws.length:Int)<2):=by omega
  simp only[h2',decide_true,if_true,zfI,s0,zal,zbZ]at hrun
  match ws,h2 with
  |[],_=>exact⟨_,hrun⟩
  |[a],_=>exact⟨_,hrun⟩
  |a::b::r,h2=>simp at h2;omega
 ·have h2':¬((ws.length:Int)<2):=by omega
  match ws,h2 with
  |[],h2=>exact absurd (by decide) h2
  |[a],h2=>exact absurd (by show 1<2;decide) h2
  |w0::o::r,_=>
  dsimp only;obtain⟨y0,i0,d0⟩:=zmj hw (j:=0) (w:=w0) rfl;obtain⟨y1,i1,d1⟩:=zmj hw (j:=1) (w:=o) rfl;have i0:∀(α:Type) (k:Value→Option α),pIdx 1 x0 (.int .i64 0) k=k (.pointer (some y0)):=i0;have i1:∀(α:Type) (k:Value→Option α),pIdx 1 x0 (.int .i64 1) k=k (.pointer (some y1)):=i1;have hsm:=zoE w0 (hsh w0 (mem_cons_self ..)) H;have htadd:IntKind.i64.wrap ((ts.length:Int)+1)=((ts.length+1:Nat):Int):=w64 (by omega) (by omega);have hz0:(Value.agg #[.int .i64 0,.int .i64 0,.int .i64 0,.int .i64 0,.int .i64 0,.int .u64 0,.string ⟨#[]⟩])=z7V:=rfl;have hz1:(Value.agg [.int .i64 0,.int .i64 0,.int .i64 0,.int .i64 0,.int .i64 0,.int .u64 0,.string ⟨#[]⟩].toArray)=z7V:=rfl;simp only[h2',decide_false,Bool.false_eq_true,if_false,i0,zkz d0,zaf hsm,ht.len,zaN,htadd,za5,zac,s_br]at hrun;by_cases h3:zaQ w0=((ts.length+1:Nat):Int)
  ·rw[if_pos h3];have h3':¬(zaQ w0≠((ts.length+1:Nat):Int)):=fun q=>q h3;simp only[h3',decide_false,Bool.false_eq_true,if_false,zal,zaA]at hrun;have hloop:=zno o H x0 ⟨y1,i1,d1⟩ (zdF.drop 1) 1 0 rfl (by decide) (by decide);have hloop:zas (zbk RR x0) [.int .i64 1,.agg (nd0 0).cells.toArray] H=some (.exit 0,[.int .i64 34,(nd0 ((opL o (zdF.drop 1) 1 0:Nat):Int)).val],H):=hloop;rw[opL_top]at hloop
   replace hrun:=hrun.trans (congrArg (fun z=>zav z _) hloop)
   rw[zal,za0,zaz]at hrun;simp only[qd1,qd0,qg0]at hrun;have hop:∀{α:Type} (n:Nd) (kk:Value→Option α),zae 1 false (zab n.val) 0 kk=kk (.int .i64 n.op):=fun n kk=>zcc _ 0 _ rfl kk;have hcA:∀{α:Type} (n:Nd) (kk:Value→Option α),zae 7 true (zab n.val) 0 kk=kk n.val:=fun n kk=>zfI n kk;cases ho:opF o with
   |none=>
    rw[ho]at hrun;simp only[hop,hcA,Option.getD_none,zaF,show (nd0 ((0:Nat):Int)).op=0 from rfl,decide_true,zac,s_br,if_true,zal,zbZ]at hrun
    exact⟨_,hrun.trans (by
     rw[hz1,splZ,zfI]
     rfl)⟩
   |some op=>
    have hob:=opF_bd ho;rw[ho]at hrun;have hop0:¬((op:Int)=0):=by omega
    have hfl:=q_fields (op:=(op:Int)) (by omega) H;rw[fl_eq hob.1 hob.2]at hfl;have hfl:RR A9 [.int .i64 (op:Int)] H=some (str ((zdL (op:Int)).map fldC),H):=hfl;have hal:(zdL (op:Int)).length≤10:=by
     have h:=congrArg List.length (fl_eq hob.1 hob.2);rw[length_map]at h;rw[←h];have hall:((List.range 34).all fun op=>decide ((fl (op:Int)).length≤10))=true:=by decide +kernel
     exact of_decide_eq_true (all_eq_true.1 hall op (mem_range.2 (by omega)))
    have hsub:IntKind.i64.wrap ((((w0::o::r).length:Nat):Int)-2)=(r.length:Int):=by rw[w64 (by simp only[length_cons];omega) (by simp only[length_cons]at hwl ⊢;omega)];simp only[length_cons];omega
    simp only[hop,hcA,Option.getD_some,zaF,show (nd0 (op:Int)).op=(op:Int) from rfl,hop0,decide_false,zac,s_br,Bool.false_eq_true,if_false,hlen,zbK,hsub,zaf hfl,zcW,length_map,za5,zac,s_br]at hrun;dsimp only;by_cases hlr:(zdL (op:Int)).length=r.length
    ·have hlr':¬((r.length:Int)≠((zdL (op:Int)).length:Int)):=by omega
     simp only[hlr',decide_false,Bool.false_eq_true,if_false,zal,zaA,qd0,qg0,hz1,zaf hfl]at hrun;have hlp:=zls hw ht hsh htl (zdL (op:Int)) hal (zdL (op:Int)) r 0 0 (nd0 (op:Int)) rfl rfl hlr (Nat.le_refl _) (Nat.zero_le _);have hzc:Value.agg (zab z7V).toArray=z7V:=rfl;cases hr:rdF (zdL (op:Int)) r ts 0 (nd0 (op:Int)) with
     |none=>
      rw[hr]at hlp;obtain⟨v,hv⟩:=hlp;have hv:zas (zaP RR x0 x1 (str ((zdL (op:Int)).map fldC))) [.int .i64 0,.int .i64 0,z7V,(nd0 (op:Int)).val] H=_:=hv
      replace hrun:=hrun.trans (congrArg (fun z=>zav z _) hv)
      rw[zal,zbZ]at hrun;exact⟨_,hrun⟩
     |some q=>
      obtain⟨m,q⟩:=q;rw[hr]at hlp;obtain⟨rfl,a,b,hv⟩:=hlp;have hv:zas (zaP RR x0 x1 (str ((zdL (op:Int)).map fldC))) [.int .i64 0,.int .i64 0,z7V,(nd0 (op:Int)).val] H=_:=hv
      replace hrun:=hrun.trans (congrArg (fun z=>zav z _) hv)
      rw[zal,za0,zaz]at hrun;simp only[qd1,qd0,qg0,qg1,hcA,splZ,zfI]at hrun;exact hrun
    ·have hlr':((r.length:Int)≠((zdL (op:Int)).length:Int)):=by omega
     have hno:∀m,rdF (zdL (op:Int)) r ts 0 (nd0 (op:Int))≠some (m,[]):=fun m e=>hlr (rdF_len _ _ _ _ _ _ e);simp only[hlr',ne_eq,not_false_eq_true,decide_true,if_true,hz1,splZ,zfI,zal,zbZ,headD_cons]at hrun;have hnone:fullD (rdF (zdL (op:Int)) r ts 0 (nd0 (op:Int)))=none:=by
      cases e:rdF (zdL (op:Int)) r ts 0 (nd0 (op:Int)) with
      |none=>rfl
      |some q=>
       obtain⟨m,q⟩:=q;cases q with
       |nil=>exact absurd e (hno m)
       |cons a b=>rfl
     rw[hnone];exact⟨_,hrun⟩
  ·rw[if_neg h3];simp only[h3,ne_eq,not_false_eq_true,decide_true,if_true,zfI,s0,zal,zbZ]at hrun;exact⟨_,hrun⟩
def zns(m:Nd)(j:Nat):Int:=if j=0 then m.a else if j=1 then m.b else m.c
theorem zm9{f:Fld}{w:List UInt8}{ts:List Int}{k:Nat}{n q:Nd}(h:setF f w ts k n=some q)(hk:f=.p→k<3)(j:Nat)(hj:j<3):(f=.p→j=k→zns q j∈ts)∧((f≠.p∨j≠k)→zns q j=zns n j):=by
 unfold setF at h;cases f with
 |p=>
  dsimp only at h;split at h
  ·rename_i hv;cases h;have hk3:=hk rfl;have hmem:ts.getD (zaQ w-1).toNat 0∈ts:=by rw[getD_eq_getElem?_getD,List.getElem?_eq_getElem (by omega)];exact getElem_mem _
   refine⟨fun _ e=>?_,fun e=>?_⟩
   ·subst e;unfold setP zns
    match j,hk3 with
    |0,_=>exact hmem
    |1,_=>exact hmem
    |2,_=>exact hmem
   ·have e:j≠k:=by rcases e with e|e;exact absurd rfl e;exact e
    unfold setP zns
    match j,hj,k,hk3,e with
    |0,_,0,_,e=>exact absurd rfl e
    |0,_,1,_,_=>rfl
    |0,_,2,_,_=>rfl
    |1,_,0,_,_=>rfl
    |1,_,1,_,e=>exact absurd rfl e
    |1,_,2,_,_=>rfl
    |2,_,0,_,_=>rfl
    |2,_,1,_,_=>rfl
    |2,_,2,_,e=>exact absurd rfl e
  ·cases h
 |n=>
  dsimp only at h;split at h
  ·cases h
  ·split at h
   ·cases h;exact⟨fun e=>(by cases e),fun _=>rfl⟩
   ·cases h
 |w=>
  dsimp only at h;split at h
  ·cases h
  ·cases h;exact⟨fun e=>(by cases e),fun _=>rfl⟩
 |s=>
  dsimp only at h;cases h;exact⟨fun e=>(by cases e),fun _=>rfl⟩
theorem zml:∀(fs:List Fld) (ws:List (List UInt8)) (ts:List Int) (k:Nat) (n m:Nd) (ws':List (List UInt8)),rdF fs ws ts k n=some (m,ws')→k+fs.count .p≤3→∀j,j<3→(k≤j→j<k+fs.count .p→zns m j∈ts)∧(j<k→zns m j=zns n j)
 |[],ws,ts,k,n,m,ws',h,hc,j,hj=>by
  cases h;exact⟨fun h1 h2=>by simp at h2;omega,fun _=>rfl⟩
 |f::fs,[],ts,k,n,m,ws',h,hc,j,hj=>by cases h
 |f::fs,w::ws,ts,k,n,m,ws',h,hc,j,hj=>by
  rw[zcX]at h;rw[count_cons]at hc ⊢;cases hs:setF f w ts k n with
  |none=>rw[hs]at h;cases h
  |some q=>
   rw[hs]at h;dsimp only at h;by_cases hf:f=.p
   ·subst hf;have e1:(Fld.p==Fld.p)=true:=by decide
    rw[e1,if_pos rfl]at hc;rw[e1,if_pos rfl];rw[if_pos rfl]at h;obtain⟨s1,s2⟩:=zm9 hs (fun _=>by omega) j hj;obtain⟨i1,i2⟩:=zml fs ws ts (k+1) q m ws' h (by omega) j hj;refine⟨fun h1 h2=>?_,fun h1=>?_⟩
    ·by_cases e:j=k
     ·rw[i2 (by omega)];exact s1 rfl e
     ·exact i1 (by omega) (by omega)
    ·rw[i2 (by omega)];exact s2 (.inr (by omega))
   ·have e1:(f==Fld.p)=false:=by rw[beq_eq_false_iff_ne];exact hf
    rw[e1]at hc ⊢;rw[if_neg hf]at h;simp only[Bool.false_eq_true,if_false,Nat.add_zero]at hc ⊢;obtain⟨s1,s2⟩:=zm9 hs (fun e=>absurd e hf) j hj;obtain⟨i1,i2⟩:=zml fs ws ts k q m ws' h hc j hj;exact⟨i1,fun h1=>by rw[i2 h1];exact s2 (.inl hf)⟩
theorem setF_w{f:Fld}{w:List UInt8}{ts:List Int}{k:Nat}{n q:Nd}(h:setF f w ts k n=some q)(hf:f≠.w):q.w=n.w:=by
 unfold setF at h;cases f with
 |p=>
  dsimp only at h;split at h
  ·cases h;unfold setP;split
   ·rfl
   ·split<;>rfl
  ·cases h
 |n=>
  dsimp only at h;split at h
  ·cases h
  ·split at h
   ·cases h;rfl
   ·cases h
 |w=>exact absurd rfl hf
 |s=>dsimp only at h;cases h;rfl
theorem rdF_w:∀(fs:List Fld) (ws:List (List UInt8)) (ts:List Int) (k:Nat) (n m:Nd) (ws':List (List UInt8)),rdF fs ws ts k n=some (m,ws')→Fld.w∉fs→m.w=n.w
 |[],ws,ts,k,n,m,ws',h,hc=>by cases h;rfl
 |f::fs,[],ts,k,n,m,ws',h,hc=>by cases h
 |f::fs,w::ws,ts,k,n,m,ws',h,hc=>by
  rw[zcX]at h;cases hs:setF f w ts k n with
  |none=>rw[hs]at h;cases h
  |some q=>
   rw[hs]at h;rw[rdF_w fs ws ts _ q m ws' h fun e=>hc (mem_cons_of_mem _ e)];exact setF_w hs fun e=>hc (e▸mem_cons_self ..)
theorem nodeD_ok{ws:List (List UInt8)}{ts:List Int}{m:Nd}(h:znG ws ts=some m):1≤m.op∧m.op≤33∧zk3 m∧(zaj m.op≥1→m.a∈ts)∧(zaj m.op≥2→m.b∈ts)∧(m.op=30→m.w=0):=by
 unfold znG at h
 match ws with
 |[]=>cases h
 |[a]=>cases h
 |w0::o::r=>
  dsimp only at h;split at h
  ·cases ho:opF o with
   |none=>rw[ho]at h;cases h
   |some op=>
    rw[ho]at h;dsimp only at h;have hob:=opF_bd ho;cases hr:rdF (zdL (op:Int)) r ts 0 (nd0 (op:Int)) with
    |none=>rw[hr]at h;cases h
    |some q=>
     obtain⟨m',w'⟩:=q;rw[hr]at h;cases w' with
     |cons a b=>cases h
     |nil=>
      cases h;have h1:=ziZ _ _ _ _ _ _ _ hr;have hop:m.op=(op:Int):=h1.1;have hall:((List.range 34).all fun op=>decide ((zdL (op:Int)).count .p=(zaj (op:Int)).toNat))=true:=by decide +kernel
      have hcnt:(zdL (op:Int)).count .p=(zaj (op:Int)).toNat:=of_decide_eq_true (all_eq_true.1 hall op (mem_range.2 (by omega)));have hp:=znq (op:Int);have hpart:=zml _ _ _ _ _ _ _ hr (by rw[hcnt];omega);rw[hop];refine⟨by omega,by omega,h1.2 ⟨by show (0:Int)≤0;decide,by show (0:Int)<18446744073709551616;decide⟩,fun e=>(hpart 0 (by decide)).1 (Nat.le_refl _) (by rw[hcnt];omega),fun e=>(hpart 1 (by decide)).1 (Nat.zero_le _) (by rw[hcnt];omega),fun e=>?_⟩;have:op=30:=by omega
      subst this;have hnw:Fld.w∉zdL ((30:Nat):Int):=by decide
      exact rdF_w _ _ _ _ _ _ _ hr hnw
  ·cases h
theorem q_implied{H:Hp}{st f g:Nat}{lim:Int}{L:List Nd}{K:List (ByteArray×Int)}{sl:Value}(hS:StF H st lim L K sl f g)(hR:zmW L){m:Nd}(h1:1≤m.op∧m.op≤33)(ha:zaj m.op≥1→isT L m.a=true)(hb:zaj m.op≥2→isT L m.b=true)(hw:m.op=30→m.w=0) :
  RR Cb [.pointer (some ⟨st,0,none⟩),m.val] H=some (.int .i64 (zc5 L m),H):=by
 have hrun:=zd6 E0 rfl (.pointer (some ⟨st,0,none⟩)) m.val H;unfold zct at hrun;have o0:∀{α:Type} (kk:Value→Option α),zae 1 false (zab m.val) 0 kk=kk (.int .i64 m.op):=fun kk=>zcc _ 0 _ rfl kk;have o1:∀{α:Type} (kk:Value→Option α),zae 1 false (zab m.val) 1 kk=kk (.int .i64 m.w):=fun kk=>zcc _ 1 _ rfl kk;have o2:∀{α:Type} (kk:Value→Option α),zae 1 false (zab m.val) 2 kk=kk (.int .i64 m.a):=fun kk=>zcc _ 2 _ rfl kk;have o3:∀{α:Type} (kk:Value→Option α),zae 1 false (zab m.val) 3 kk=kk (.int .i64 m.b):=fun kk=>zcc _ 3 _ rfl kk;have ba:=zm1 hR.w m.a;have bb:=zm1 hR.w m.b;refine hrun.trans ?_;unfold zc5;simp only[o0,o1,o2,o3,zaF,zbt,zb0,zac,s_br];by_cases h14:m.op=14
 ·have hp:zaj m.op≥2:=by rw[h14];decide
  rw[if_pos h14];simp only[h14,decide_true,if_true,zaf (c54 hS.st hR.len (hb hp) (-1))]
 ·rw[if_neg h14];by_cases h30:m.op=30
  ·have hp:zaj m.op≥2:=by rw[h30];decide
   have hp1:zaj m.op≥1:=by rw[h30];decide
   rw[if_pos h30];have hsum:IntKind.i64.wrap (wT L (-1) m.a+wT L (-1) m.b)=wT L (-1) m.a+wT L (-1) m.b:=zaq (by omega) (by omega);by_cases hs:wT L (-1) m.a+wT L (-1) m.b≤64
   ·rw[if_neg (show ¬(wT L (-1) m.a+wT L (-1) m.b>64) by omega)]
    simp only[h30,show ¬((30:Int)=14) from by decide,show ¬((30:Int)=15) from by decide,show ¬((30:Int)=16) from by decide,show ((30:Int)≥17) from by decide,show ¬((30:Int)≤29) from by decide,decide_true,decide_false,Bool.false_eq_true,if_true,if_false,zal,zaA,qg0,zac,s_br,
     zaf (c54 hS.st hR.len (ha hp1) (-1)),zaf (c54 hS.st hR.len (hb hp) (-1)),zaN,hsum,zb0,hs]
   ·rw[if_pos (show (wT L (-1) m.a+wT L (-1) m.b>64) by omega)]
    simp only[h30,show ¬((30:Int)=14) from by decide,show ¬((30:Int)=15) from by decide,show ¬((30:Int)=16) from by decide,show ((30:Int)≥17) from by decide,show ¬((30:Int)≤29) from by decide,decide_true,decide_false,Bool.false_eq_true,if_true,if_false,zal,zaA,qg0,zac,s_br,
     zaf (c54 hS.st hR.len (ha hp1) (-1)),zaf (c54 hS.st hR.len (hb hp) (-1)),zaN,hsum,zb0,hs]
    rw[hw h30]
  ·rw[if_neg h30];by_cases h15:15≤m.op∧m.op≤29
   ·rw[if_pos h15];have hp1:zaj m.op≥1:=by
     unfold zaj;rw[if_neg (by omega)];split
     ·decide
     ·first|decide | (split<;>decide)
    have c:=zaf (c54 hS.st hR.len (ha hp1) (-1)) (fun r24 H25=>some (r24,H25));by_cases q1:m.op=15
    ·simp only[h14,q1,decide_true,decide_false,Bool.false_eq_true,if_true,if_false,zal,zaA,qg0,zac,s_br,show ¬((15:Int)=14) from by decide];exact c
    ·by_cases q2:m.op=16
     ·simp only[h14,q2,decide_true,decide_false,Bool.false_eq_true,if_true,if_false,zal,zaA,qg0,zac,s_br,show ¬((16:Int)=14) from by decide,show ¬((16:Int)=15) from by decide];exact c
     ·have q3:m.op≥17:=by omega
      have q4:m.op≤29:=h15.2;simp only[h14,q1,q2,q3,q4,decide_true,decide_false,Bool.false_eq_true,if_true,if_false,zal,zaA,qg0,zac,s_br];exact c
   ·rw[if_neg h15];have q1:¬m.op=15:=by omega
    have q2:¬m.op=16:=by omega
    by_cases q3:m.op≥17
    ·have q4:¬m.op≤29:=by omega
     simp only[h14,h30,q1,q2,q3,q4,decide_true,decide_false,Bool.false_eq_true,if_true,if_false,zal,zaA,qg0,zac,s_br]
    ·simp only[h14,h30,q1,q2,q3,decide_true,decide_false,Bool.false_eq_true,if_true,if_false,zal,zaA,qg0,zac,s_br]
theorem wds_word{H:Hp}{x0:Value}{ws:List (List UInt8)}(h:Wds H x0 ws){j:Nat}{w:List UInt8}(hj:ws[j]?=some w) :
  ∃y,(∀(α:Type) (k:Value→Option α),pIdx 1 x0 (.int .i64 (j:Int)) k=k (.pointer (some y)))∧Hp.rdP H (.pointer (some y)) 1 false=some (str w):=by
 have hlt:j<ws.length:=(List.getElem?_eq_some_iff.1 hj).1;rcases h with⟨rfl,_⟩|⟨y,c,pre,rest,own,rfl,h1,h2,h3⟩
 ·cases hj
 ·refine⟨⟨y,pre.length+j*1,none⟩,fun α k=>?_,ziY h2 (pre.length+j*1) (str w) ?_⟩
  ·have e:idxV 1 (.slice (some ⟨y,pre.length,some 1⟩) ws.length c) (.int .i64 (j:Int))=some (.pointer (some ⟨y,pre.length+j*1,none⟩)):=by unfold idxV;dsimp only;rw[if_pos ⟨rfl,by omega,by omega⟩];rfl
   unfold pIdx;rw[e]
  ·rw[Nat.mul_one,append_assoc,List.getElem?_append_right (by omega),Nat.add_sub_cancel_left,List.getElem?_append_left (by rw[length_map];exact hlt),List.getElem?_map,hj];rfl
theorem partF_eq(ts:List Int)(w:List UInt8)(r:List (List UInt8)):zj5 ts (w::r)=if 1≤zaQ w∧zaQ w≤ts.length then some (ts.getD (zaQ w-1).toNat 0) else none:=by
 unfold zj5 numF;dsimp only;by_cases h:zaQ w<0
 ·rw[if_pos h,if_neg (by omega)]
 ·rw[if_neg h]
theorem zi1{B:Nat}{x0 x1:Value}{ws:List (List UInt8)}{ts:List Int}(hsh:∀w∈ws,w.length≤2^40)(htl:ts.length≤2^40)(hwl:ws.length≤2^40)(h0:∀j,Id x0 j→j<B)(h1:∀j,Id x1 j→j<B):∀(rest:List (List UInt8)) (i:Nat) (acc:List Int) (av:Value) (H:Hp),ws.drop i=rest→i≤ws.length→acc.length=i→B≤H.next→Wds H x0 ws→Rdb H 1 x1 ts.length (i64s ts)→Vec H 1 av acc.length (i64s acc)→(∀j,Id av j→B≤j) →
  match zcD ts rest with
  |none=>∃H',zas (zaK RR x0 x1) [av,.int .i64 (i:Int)] H=some (.ret,[.tuple #[.slice none 0 0,.bool false]],H')∧Frm (B ≤ ·) H H'
  |some l=>∃H' av' b,zas (zaK RR x0 x1) [av,.int .i64 (i:Int)] H=some (.exit 0,[av',b],H')∧Vec H' 1 av' (acc++l).length (i64s (acc++l))∧(∀j,Id av' j→B≤j)∧Frm (B ≤ ·) H H'
 |[],i,acc,av,H,hr,hi,hk,hB,hw,ht,hv,hid=>by
  have hil:i=ws.length:=by have:=congrArg List.length hr;rw[length_drop]at this;simp at this;omega
  have this:zaK RR x0 x1 [av,.int .i64 (i:Int)] H=some (.exit 0,[av,.int .i64 (i:Int)],H):=by
   unfold zaK;have e1:¬((i:Int)<(ws.length:Int)):=by omega
   simp only[qg0,qg1,hw.len,zaV,zac,s_br,e1,decide_false,Bool.false_eq_true,if_false]
  exact⟨H,av,_,by rw[zai,this];rfl,by rw[append_nil];exact hv,hid,Frm.refl _ _⟩
 |w::r,i,acc,av,H,hr,hi,hk,hB,hw,ht,hv,hid=>by
  have hlt:i<ws.length:=by have:=congrArg List.length hr;rw[length_drop]at this;simp at this;omega
  have hget:ws[i]?=some w:=by have:=congrArg (fun x=>x[0]?) hr;simpa using this
  have hr2:ws.drop (i+1)=r:=by rw[←drop_drop,hr];rfl
  obtain⟨y,hix,hrd⟩:=wds_word hw hget;have hsm:=zoE w (hsh w (mem_of_getElem? hget)) H;have e1:((i:Int)<(ws.length:Int)):=by omega
  have hb:=zjN w;unfold zcD;rw[partF_eq];by_cases hp:1≤zaQ w∧zaQ w≤ts.length
  ·rw[if_pos hp];have p1:¬(zaQ w<1):=by omega
   have p2:¬(zaQ w>(ts.length:Int)):=by omega
   have e3:IntKind.i64.wrap (zaQ w-1)=(((zaQ w-1).toNat:Nat):Int):=by rw[w64 (by omega) (by omega)];omega
   obtain⟨y2,hix2,hrd2⟩:=rd_int ht (j:=(zaQ w-1).toNat) (by omega);obtain⟨av',H1,a1,a2,a3,a4⟩:=zjr hv (by omega) (ts.getD (zaQ w-1).toNat 0) 0;have hinc:IntKind.i64.wrap ((i:Int)+1)=((i+1:Nat):Int):=w64 (by omega) (by omega);have hb1:∀{α:Type} (k:Value→Hp→Option α),(zam 1 [.int .i64 0] 1 [(0,.int .i64 (ts.getD (zaQ w-1).toNat 0))] H fun v18 H19=>zaH 1 8 av v18 H19 k)=k av' H1:=fun k=>by rw[zhM,a1]
   have this:zaK RR x0 x1 [av,.int .i64 (i:Int)] H=some (.next,[av',.int .i64 ((i+1:Nat):Int)],H1):=by unfold zaK;simp only[qg0,qg1,hw.len,zaV,zac,s_br,e1,decide_true,if_true,hix,zkz hrd,zaf hsm,p1,decide_false,Bool.false_eq_true,if_false,ht.len,zbp,p2,zbK,e3,hix2,zkz hrd2,hb1,zaN,hinc]
   have f1:Frm (B ≤ ·) H H1:=a3.mono fun j q=>.inl (hid j q);have ih:=zi1 hsh htl hwl h0 h1 r (i+1) (acc++[ts.getD (zaQ w-1).toNat 0]) av' H1 hr2 hlt (by rw[length_append,hk];rfl) (Nat.le_trans hB f1.next)
    (hw.keep f1 fun j hj q=>by have:=h0 j hj;omega) (ht.keep f1 fun j hj q=>by have:=h1 j hj;omega) a2 fun j hj=>by
     rcases a4 j hj with q|q
     ·exact hid j q
     ·omega
   rw[zai,this];dsimp only;cases hq:zcD ts r with
   |none=>
    rw[hq]at ih;obtain⟨H',c1,c2⟩:=ih;exact⟨H',c1,f1.trans c2 fun j q=>.inl q⟩
   |some l=>
    rw[hq]at ih;obtain⟨H',v',b,c1,c2,c3,c4⟩:=ih;rw[append_assoc]at c2;exact⟨H',v',b,c1,c2,c3,f1.trans c4 fun j q=>.inl q⟩
  ·rw[if_neg hp];refine⟨H,?_,Frm.refl _ _⟩;have this:zaK RR x0 x1 [av,.int .i64 (i:Int)] H=some (.ret,[.tuple #[.slice none 0 0,.bool false]],H):=by
    unfold zaK;by_cases p1:zaQ w<1
    ·simp only[qg0,qg1,hw.len,zaV,zac,s_br,e1,decide_true,if_true,hix,zkz hrd,zaf hsm,p1]
    ·have p2:(zaQ w>(ts.length:Int)):=by omega
     simp only[qg0,qg1,hw.len,zaV,zac,s_br,e1,decide_true,if_true,hix,zkz hrd,zaf hsm,p1,decide_false,Bool.false_eq_true,if_false,ht.len,zbp,p2]
   rw[zai,this];rfl
theorem q_roots{H:Hp}{x0 x1:Value}{ws:List (List UInt8)}{ts:List Int}(hw:Wds H x0 ws)(ht:Rdb H 1 x1 ts.length (i64s ts))(hsh:∀w∈ws,w.length≤2^40)(htl:ts.length≤2^40)(hwl:ws.length≤2^40) :
  match zcD ts ws with
  |none=>∃H',RR Ba [x0,x1] H=some (.tuple #[.slice none 0 0,.bool false],H')∧Frm (fun _=>False) H H'
  |some l=>∃H' v,RR Ba [x0,x1] H=some (.tuple #[v,.bool true],H')∧Vec H' 1 v l.length (i64s l)∧(∀j,Id v j→H.next≤j)∧Frm (fun _=>False) H H':=by
 have hrun:=zgE E0 rfl x0 x1 H;rw[zgQ]at hrun;have hw0:∀j,Id x0 j→j<H.next:=fun j hj=>by
  rcases hw with⟨_,e⟩|⟨y,c,pre,rest,own,e,_,_,hlt⟩
  ·rw[e]at hj;cases hj
  ·rw[e]at hj;have e2:y=j:=Option.some.inj hj;rw[←e2];exact hlt
 have hl:=zi1 (B:=H.next) hsh htl hwl hw0 (fun j hj=>ht.lt hj) ws 0 [] (.slice none 0 0) H rfl (Nat.zero_le _) rfl (Nat.le_refl _) hw ht (Vec.nil H 1) fun j hj=>by cases hj
 cases hq:zcD ts ws with
 |none=>
  rw[hq]at hl;obtain⟨H',h1,h2⟩:=hl;have h1:zas (zaK RR x0 x1) [.slice none 0 0,.int .i64 0] H=_:=h1;rw[h1,zal,zbZ]at hrun;exact⟨H',hrun,h2.mono fun j q=>.inr q⟩
 |some l=>
  rw[hq]at hl;obtain⟨H',v,b,h1,h2,h3,h4⟩:=hl;have h1:zas (zaK RR x0 x1) [.slice none 0 0,.int .i64 0] H=_:=h1;rw[h1,zal,za0,zaz]at hrun;exact⟨H',v,hrun,h2,h3,h4.mono fun j q=>.inr q⟩
theorem spn_miss{b:UInt8}(hb:(b==32)=false)(r:List UInt8)(i:Nat)(st:Option Nat):spn (b::r) i st=spn r (i+1) (some (st.getD i)):=by
 conv=>lhs;unfold spn
 rw[hb]
theorem zqE(l:List UInt8)(hl:l.length≤2^40):∀(m i:Nat) (done:List (List UInt8)) (st:Option Nat) (z:Int) (v:Value) (H:Hp),i+m=l.length→stV st z→(∀a,st=some a→a≤i)→done.length≤i→Vec H 1 v done.length (done.map str) →
  ∃H' v' z',zas (zar RR (str l)) [v,.int .i64 z,.int .i64 (i:Int)] H=some (.exit 0,[v',.int .i64 z',.int .i64 ((l.length+1:Nat):Int)],H') ∧
   Vec H' 1 v' (done++(spn (l.drop i) i st).map (zbY l)).length ((done++(spn (l.drop i) i st).map (zbY l)).map str)∧Frm (Id v) H H'∧(∀j,Id v' j→Id v j∨H.next≤j):=by
 have e2:∀{α:Type} (H:Hp) (k:Value→Option α),pLen .str (str l) H k=k (.int .i64 (l.length:Int)):=fun H k=>by show k (.int .i64 ((ba l).size:Int))=_;rw[zco]
 have stop:∀(v:Value) (z:Int) (H:Hp),zas (zar RR (str l)) [v,.int .i64 z,.int .i64 ((l.length+1:Nat):Int)] H=some (.exit 0,[v,.int .i64 z,.int .i64 ((l.length+1:Nat):Int)],H):=fun v z H=>by
  have h1:¬(((l.length+1:Nat):Int)≤(l.length:Int)):=by omega
  have this:zar RR (str l) [v,.int .i64 z,.int .i64 ((l.length+1:Nat):Int)] H=some (.exit 0,[v,.int .i64 z,.int .i64 ((l.length+1:Nat):Int)],H):=by unfold zar;simp only[e2,qg0,qg1,zb0,zac,s_br,h1,decide_false,Bool.false_eq_true,if_false]
  rw[zai,this];rfl
 have hone:∀x:List UInt8,zab (str x)=[str x]:=fun x=>rfl;intro m;induction m with
 |zero=>
  intro i done st z v H hi hst hsti hdl hv;have hil:i=l.length:=by omega
  subst hil;rw[drop_length];have h1:((l.length:Int)≤(l.length:Int)):=by omega
  have h2:¬((l.length:Int)<(l.length:Int)):=by omega
  have hinc:IntKind.i64.wrap ((l.length:Int)+1)=((l.length+1:Nat):Int):=w64 (by omega) (by omega);cases st with
  |none=>
   have hz:¬z≥0:=by have:z<0:=hst;omega
   have this:zar RR (str l) [v,.int .i64 z,.int .i64 (l.length:Int)] H=some (.next,[v,.int .i64 (-1),.int .i64 ((l.length+1:Nat):Int)],H):=by unfold zar;simp only[e2,qg0,qg1,zb0,zaV,zac,s_br,h1,h2,decide_true,decide_false,Bool.false_eq_true,if_false,if_true,zbt,hz,zaN,hinc]
   refine⟨H,v,-1,?_,by simpa[spn] using hv,Frm.refl _ _,fun j hj=>.inl hj⟩;rw[zai,this];exact stop v (-1) H
  |some a=>
   have hza:z=(a:Int):=hst;have hz:z≥0:=by omega
   have hal:=hsti a rfl;obtain⟨v2,H2,hpu,hv2,hf2,hid2,_⟩:=hv.push (bytes:=16) (zs:=[str []]) (x:=str (zbY l (a,l.length))) (by omega) (by omega) rfl rfl rfl (by omega);have hpu':∀(α:Type) (k:Value→Hp→Option α),(zam 1 [Value.string ⟨#[]⟩] 1 [(0,str (zbY l (a,l.length)))] H fun t H1=>zaH 1 16 v t H1 k)=k v2 H2:=hpu;have this:zar RR (str l) [v,.int .i64 z,.int .i64 (l.length:Int)] H=some (.next,[v2,.int .i64 (-1),.int .i64 ((l.length+1:Nat):Int)],H2):=by unfold zar;simp only[e2,qg0,qg1,zb0,zaV,zac,s_br,h1,h2,decide_true,decide_false,Bool.false_eq_true,if_false,if_true,zbt,hz];rw[hza,zpI l hal (Nat.le_refl _),hpu',zaN,hinc]
   refine⟨H2,v2,-1,?_,?_,hf2,hid2⟩
   ·rw[zai,this];exact stop v2 (-1) H2
   ·rw[hone]at hv2;simpa[spn] using hv2
 |succ m ih=>
  intro i done st z v H hi hst hsti hdl hv;have hlt:i<l.length:=by omega
  have h1:((i:Int)≤(l.length:Int)):=by omega
  have h2:((i:Int)<(l.length:Int)):=by omega
  have hinc:IntKind.i64.wrap ((i:Int)+1)=((i+1:Nat):Int):=w64 (by omega) (by omega);have hdrop:l.drop i=l[i]::l.drop (i+1):=drop_eq_getElem_cons hlt;have hat:∀{α:Type} (k:Value→Option α),zbn (str l) (.int .i64 (i:Int)) k=k (.int .u8 (l[i].toNat:Int)):=fun k=>f_at (ba l) .i64 i l[i] (by rw[ze8];exact List.getElem?_eq_getElem hlt) k;rw[hdrop];generalize l[i]=b at hat;by_cases hb:b=32
  ·have hb':(b==32)=true:=by rw[hb];rfl
   have hbi:¬((b.toNat:Int)≠32):=by rw[hb];decide
   cases st with
   |none=>
    have hz:¬z≥0:=by have:z<0:=hst;omega
    have this:zar RR (str l) [v,.int .i64 z,.int .i64 (i:Int)] H=some (.next,[v,.int .i64 (-1),.int .i64 ((i+1:Nat):Int)],H):=by unfold zar;simp only[e2,qg0,qg1,zb0,zaV,zac,s_br,h1,h2,decide_true,decide_false,Bool.false_eq_true,if_false,if_true,hat,za5,hbi,zbt,hz,zaN,hinc]
    obtain⟨H',v',z',g1,g2⟩:=ih (i+1) done none (-1) v H (by omega) (by show (-1:Int)<0;decide) (fun a ha=>by cases ha) (by omega) hv;rw[zjt hb'];exact⟨H',v',z',by rw[zai,this];exact g1,g2⟩
   |some a=>
    have hza:z=(a:Int):=hst;have hz:z≥0:=by omega
    have hal:=hsti a rfl;obtain⟨v2,H2,hpu,hv2,hf2,hid2,_⟩:=hv.push (bytes:=16) (zs:=[str []]) (x:=str (zbY l (a,i))) (by omega) (by omega) rfl rfl rfl (by omega);have hpu':∀(α:Type) (k:Value→Hp→Option α),(zam 1 [Value.string ⟨#[]⟩] 1 [(0,str (zbY l (a,i)))] H fun t H1=>zaH 1 16 v t H1 k)=k v2 H2:=hpu;have this:zar RR (str l) [v,.int .i64 z,.int .i64 (i:Int)] H=some (.next,[v2,.int .i64 (-1),.int .i64 ((i+1:Nat):Int)],H2):=by unfold zar;simp only[e2,qg0,qg1,zb0,zaV,zac,s_br,h1,h2,decide_true,decide_false,Bool.false_eq_true,if_false,if_true,hat,za5,hbi,zbt,hz];rw[hza,zpI l hal (by omega),hpu',zaN,hinc]
    have hv3:Vec H2 1 v2 (done++[zbY l (a,i)]).length ((done++[zbY l (a,i)]).map str):=by rw[hone]at hv2;simpa using hv2
    obtain⟨H',v',z',g1,g2,g3,g4⟩:=ih (i+1) (done++[zbY l (a,i)]) none (-1) v2 H2 (by omega) (by show (-1:Int)<0;decide) (fun a ha=>by cases ha) (by simp;omega) hv3;rw[zmb hb'];refine⟨H',v',z',by rw[zai,this];exact g1,by simpa using g2,hf2.trans g3 hid2,fun j hj=>?_⟩;rcases g4 j hj with q|q
    ·exact hid2 j q
    ·exact .inr (Nat.le_trans hf2.next q)
  ·have hb':(b==32)=false:=by rw[beq_eq_false_iff_ne];exact hb
   have hbi:((b.toNat:Int)≠32):=u8ne hb;rw[spn_miss hb'];cases st with
   |none=>
    have hz:z<0:=hst;have this:zar RR (str l) [v,.int .i64 z,.int .i64 (i:Int)] H=some (.next,[v,.int .i64 (i:Int),.int .i64 ((i+1:Nat):Int)],H):=by unfold zar;simp only[e2,qg0,qg1,zb0,zaV,zac,s_br,h1,h2,decide_true,decide_false,Bool.false_eq_true,if_false,if_true,hat,za5,hbi,hz,zaN,hinc,ne_eq,not_false_eq_true]
    obtain⟨H',v',z',g1,g2⟩:=ih (i+1) done (some i) (i:Int) v H (by omega) rfl (fun a ha=>by cases ha;omega) (by omega) hv;exact⟨H',v',z',by rw[zai,this];exact g1,g2⟩
   |some a=>
    have hza:z=(a:Int):=hst;have hz:¬z<0:=by omega
    have hal:=hsti a rfl;have this:zar RR (str l) [v,.int .i64 z,.int .i64 (i:Int)] H=some (.next,[v,.int .i64 z,.int .i64 ((i+1:Nat):Int)],H):=by unfold zar;simp only[e2,qg0,qg1,zb0,zaV,zac,s_br,h1,h2,decide_true,decide_false,Bool.false_eq_true,if_false,if_true,hat,za5,hbi,hz,zaN,hinc,ne_eq,not_false_eq_true]
    obtain⟨H',v',z',g1,g2⟩:=ih (i+1) done (some a) z v H (by omega) hst (fun a ha=>by cases ha;omega) (by omega) hv;exact⟨H',v',z',by rw[zai,this];exact g1,g2⟩
theorem q_words(l:List UInt8)(hl:l.length≤2^40)(H:Hp):∃v H',RR BD [str l] H=some (v,H')∧Vec H' 1 v (zbv l).length ((zbv l).map str)∧Frm (fun _=>False) H H'∧∀j,Id v j→H.next≤j:=by
 obtain⟨H',v',z',g1,g2,g3,g4⟩:=zqE l hl l.length 0 [] none (-1) (.slice none 0 0) H (by omega) (by show (-1:Int)<0;decide) (fun a ha=>by cases ha) (Nat.le_refl _) (Vec.nil H 1);refine⟨v',H',?_,g2,g3.mono fun j hj=>(by cases hj),fun j hj=>?_⟩
 ·refine(zgC E0 rfl _ H).trans ?_;rw[zgP];have g1':zas (zar RR (str l)) [(.slice none 0 0),(.int .i64 (-1)),(.int .i64 0)] H=_:=g1;rw[g1',zal,za0,zaz];rfl
 ·rcases g4 j hj with q|q
  ·cases q
  ·exact q
theorem ziP:zbB []=[]:=by have h:cutB 10 []=[[]]:=rfl;unfold zbB;rw[h];rfl
theorem zn9:∀(a r:List UInt8),10∉a→cutB 10 (a++10::r)=a::cutB 10 r
 |[],r,_=>by
  show cutB 10 (10::r)=_;rw[zqt (by rfl)]
 |b::a,r,h=>by
  have hb:(b==10)=false:=by rw[beq_eq_false_iff_ne];exact fun e=>h (e▸mem_cons_self ..)
  rw[cons_append,zoa hb (zn9 a r fun q=>h (mem_cons_of_mem _ q))]
theorem zo7(a r:List UInt8)(h:10∉a):zbB (a++10::r)=a::zbB r:=by
 have hc:(a++10::r).count 10=r.count 10+1:=by rw[count_append,count_eq_zero.2 h,count_cons_self];omega
 unfold zbB;rw[zn9 a r h,hc,qg1,take_succ_cons];split<;>rfl
theorem zq8(a:List UInt8)(h:10∉a)(h0:a≠[]):zbB a=[a]:=by have hc:a.count 10=0:=count_eq_zero.2 h;unfold zbB;rw[zio 10 a hc,hc,qg0,if_neg h0]
theorem znS{r:List UInt8}(h:zbB r=[]):r=[]:=by
 have hl:=zgw 10 r;unfold zbB at h;split at h
 ·rename_i he;have hc:r.count 10=0:=by
   have:=congrArg List.length h;rw[length_take]at this;simp at this;rcases this with q|q
   ·exact q
   ·rw[q]at hl;simp at hl
  rw[zio 10 r hc,hc,qg0]at he;exact he
 ·rw[h]at hl;simp at hl
def DocA(B:Nat)(H:Hp)(st f g:Nat)(lim:Int)(X:Option Outc):LdR→Prop
 |.bad ln e=>∃H',(X=some (.ret,[.tuple #[.pointer none,.slice none 0 0,.int .i64 (ln:Int),.int .i64 e]],H')∨(∃a b c,X=some (.exit 0,[a,b,.int .i64 ((ln-1:Nat):Int),c],H')∧e=3∧1≤ln∧ln≤2^40))∧Frm (B ≤ ·) H H'
 |.good L K q=>∃H' sl v,X=some (.ret,[.tuple #[.pointer (some ⟨st,0,none⟩),v,.int .i64 0,.int .i64 0]],H')∧StF H' st lim L K sl f g∧Vec H' 1 v q.length (i64s q)∧(∀j,Foot st f g sl j→B≤j)∧(∀j,Id v j→B≤j)∧(∀j,Id v j→¬Foot st f g sl j)∧Frm (B ≤ ·) H H'
theorem DocA.of{B:Nat}{H H1:Hp}{st f g:Nat}{lim:Int}{X:Option Outc}{r:LdR}(h:DocA B H1 st f g lim X r)(k:Frm (B ≤ ·) H H1):DocA B H st f g lim X r:=by
 cases r with
 |bad ln e=>obtain⟨H',h1,h2⟩:=h;exact⟨H',h1,k.trans h2 fun j q=>.inl q⟩
 |good L K q=>obtain⟨H',sl,v,h1,h2,h3,h4,h5,h6,h7⟩:=h;exact⟨H',sl,v,h1,h2,h3,h4,h5,h6,k.trans h7 fun j q=>.inl q⟩
structure DS(B:Nat)(H:Hp)(st f g:Nat)(lim:Int)(L:List Nd)(K:List (ByteArray×Int))(sl tv:Value)(ts:List Int):Prop where
 bn:B≤H.next
 store:StF H st lim L K sl f g
 tvv:Vec H 1 tv ts.length (i64s ts)
 fb:∀j,Foot st f g sl j→B≤j
 tb:∀j,Id tv j→B≤j
 ap:∀j,Id tv j→¬Foot st f g sl j
 inv:Inv lim L
 ln:L.length≤ts.length
 is:∀t∈ts,isT L t=true
theorem DS.keep{B:Nat}{H H':Hp}{st f g:Nat}{lim:Int}{L:List Nd}{K:List (ByteArray×Int)}{sl tv:Value}{ts:List Int}(h:DS B H st f g lim L K sl tv ts)(k:Frm (fun _=>False) H H'):DS B H' st f g lim L K sl tv ts:=
 ⟨Nat.le_trans h.bn k.next,h.store.keep (fun j hj=>k.same j (h.store.foot_lt hj) fun q=>q) k.next,h.tvv.keep k fun _ _ q=>q,h.fb,h.tb,h.ap,h.inv,h.ln,h.is⟩
section
variable {B:Nat}{H:Hp}{st f g:Nat}{lim:Int}{L:List Nd}{K:List (ByteArray×Int)}{sl tv:Value}{ts:List Int}
theorem q_line(h:DS B H st f g lim L K sl tv ts)(l a:List UInt8)(hl:l.length≤2^37)(fr at_ e en fr':Nat)(hat:at_=ts.length)(hts:ts.length≤l.length)(hfr:fr≤en)(hen:en≤l.length)(ha:zbY l (fr,en)=a)(he:e<l.length)(hfr':fr'=e+1)
  (hend:∀(k:Ctl→List Value→Hp→Option Outc),(zav (
    zbn (str l) (.int .i64 (e:Int)) fun v12=>
    pBin PP .neq Ad v12 (.int .u8 10) fun v13=>
    zaa v13 fun b14=>br b14
    (pLen .str (str l) H fun v15=>
    pBin PP .sub Aa v15 (.int .i64 1) fun v16=>
    pBin PP .neq Aa (.int .i64 (e:Int)) v16 fun v17=>
    zaa v17 fun b18=>br b18
    (some (.exit 1,[],H))
    (some (.next,[],H)))
    (some (.next,[],H))) k)=k .next [] H)
  (hend2:∀(k:Ctl→List Value→Hp→Option Outc),(zav (
    zbn (str l) (.int .i64 (e:Int)) fun v23=>
    pBin PP .neq Ad v23 (.int .u8 10) fun v24=>
    zaa v24 fun b25=>br b25
    (pBin PP .add Aa (.int .i64 (e:Int)) (.int .i64 1) fun v26=>
    some (.next,[v26],H))
    (some (.next,[(.int .i64 (e:Int))],H))) k)=k .next [.int .i64 (en:Int)] H)
  {X:Option Outc} (hX:zaI RR (str l) (.pointer (some ⟨st,0,none⟩)) [tv,.int .i64 (fr:Int),.int .i64 (at_:Int),.int .i64 (e:Int)] H=X) :
  match zbv a with
  |[]=>DocA B H st f g lim X (.bad (at_+1) 3)
  |w0::r=>(w0=zef→match zcD ts r with
    |none=>DocA B H st f g lim X (.bad (at_+1) 3)
    |some q=>if fr'<l.length then DocA B H st f g lim X (.bad (at_+2) 3) else DocA B H st f g lim X (.good L K q)) ∧
   (w0≠zef→match zky (w0::r) ts L with
    |none=>DocA B H st f g lim X (.bad (at_+1) 3)
    |some m=>((mkR lim L K m).2.1≠0→DocA B H st f g lim X (.bad (at_+1) (mkR lim L K m).2.1)) ∧
     ((mkR lim L K m).2.1=0→∃H' sl' tv',X=some (.next,[tv',.int .i64 (fr':Int),.int .i64 ((at_+1:Nat):Int),.int .i64 (fr':Int)],H')∧DS B H' st f g lim (mkR lim L K m).2.2.1 (mkR lim L K m).2.2.2 sl' tv' (ts++[(mkR lim L K m).1])∧Frm (B ≤ ·) H H')):=by
 have hal:a.length≤l.length:=by rw[←ha];unfold zbY;rw[length_drop,length_take];omega
 obtain⟨v,H1,a1,a2,a3,a4⟩:=q_words a (by omega) H;have h1:=h.keep a3;have hsh:∀w∈zbv a,w.length≤2^40:=zpw (by omega);have hwl:(zbv a).length≤a.length+1:=by unfold zbv;rw[length_map];exact zg9 a 0 none
 have f1:Frm (B ≤ ·) H H1:=a3.mono fun j q=>q.elim;have hlt:((e:Int)<(l.length:Int)):=by omega
 have hat1:IntKind.i64.wrap ((at_:Int)+1)=((at_+1:Nat):Int):=w64 (by omega) (by omega);have he1:IntKind.i64.wrap ((e:Int)+1)=(fr':Int):=by rw[w64 (by omega) (by omega),hfr'];rfl
 have hcut:∀{α:Type} (k:Value→Option α),zbo (str l) (some (.int .i64 (fr:Int))) (some (.int .i64 (en:Int))) k=k (str a):=fun k=>by rw[zpI l hfr hen,ha]
 unfold zaI at hX;simp only[qg0,qg1,zcW,zaV,hlt,decide_true]at hX;rw[zac,s_br,if_pos rfl]at hX;simp only[zcW]at hend;rw[hend,zaA,hend2,zaA]at hX;simp only[qg0,zaN,hat1,hcut,he1]at hX;rw[zaf a1]at hX;have hR:zmW L:=⟨h.inv.w,by have:=h.ln;omega⟩
 cases hw:zbv a with
 |nil=>
  rw[hw]at a2;have hd:znG [] ts=none:=rfl;have hz:¬((([]:List (List UInt8)).length:Int)>0):=by decide
  have hn:=q_node (ws:=[]) (a2.rd) h1.tvv.rd (fun w hw=>by cases hw) (by omega) (by simp);rw[hd]at hn;obtain⟨m,hm⟩:=hn;simp only[a2.len,zbp,hz,decide_false,zac,s_br,Bool.false_eq_true,if_false,zal,zaA,qg0,zaf hm,x01,splZ',za9,Bool.not_false,if_true]at hX;have sZ:∀{α:Type} (n:Nd) (k:List Value→Option α),zaD 7 [.int .i64 0,.int .i64 0,.int .i64 0,.int .i64 0,.int .i64 0,.int .u64 0,.string ⟨#[]⟩] 0 n.val k=k n.cells:=fun n k=>spl7 n k;rw[sZ]at hX;exact⟨H1,.inl hX.symm,f1⟩
 |cons w0 r=>
  rw[hw]at a2 hsh hwl;have hz:((((w0::r).length:Nat):Int)>0):=by rw[length_cons];omega
  obtain⟨y0,i0,d0⟩:=zmj a2.rd (j:=0) (w:=w0) rfl;have i0:∀(α:Type) (k:Value→Option α),pIdx 1 v (.int .i64 0) k=k (.pointer (some y0)):=i0;have hq:∀{α:Type} (k:Value→Option α),pBin PP .eql Ac (str w0) (.string ⟨#[114,111,111,116,115]⟩) k=k (.bool (w0==zef)):=fun k=>ze0 Ac w0 zef k;simp only[a2.len,zbp,hz,decide_true,zac,s_br,if_true,i0,zkz d0,hq,zal,zaA,qg0]at hX;refine⟨fun hroot=>?_,fun hroot=>?_⟩
  ·have hb:(w0==zef)=true:=by rw[beq_iff_eq];exact hroot
   obtain⟨v2,_,hsl,hwd,hid2⟩:=(Vec.wds a2).head;rw[if_pos hb,hsl]at hX;have hrt:=q_roots hwd h1.tvv.rd (fun w hw=>hsh w (mem_cons_of_mem _ hw)) (by omega) (by rw[length_cons]at hwl;omega);cases hr:zcD ts r with
   |none=>
    rw[hr]at hrt;obtain⟨H2,b1,b2⟩:=hrt;simp only[zaf b1,x01,za9,zac,s_br,Bool.not_false,if_true]at hX;exact⟨H2,.inl hX.symm,f1.trans (b2.mono fun j q=>q.elim) fun j q=>.inl q⟩
   |some q=>
    rw[hr]at hrt;obtain⟨H2,u,b1,b2,b3,b4⟩:=hrt;simp only[zaf b1,x01,za9,zac,s_br,Bool.not_true,Bool.false_eq_true,if_false,zcW,zaV]at hX;have f2:Frm (B ≤ ·) H H2:=f1.trans (b4.mono fun j q=>q.elim) fun j q=>.inl q;dsimp only;by_cases hf:fr'<l.length
    ·rw[if_pos hf];have hf':((fr':Int)<(l.length:Int)):=by omega
     have hat2:IntKind.i64.wrap (((at_+1:Nat):Int)+1)=((at_+2:Nat):Int):=by rw[w64 (by omega) (by omega)];omega
     simp only[hf',decide_true,if_true,zaN,hat2]at hX;exact⟨H2,.inl hX.symm,f2⟩
    ·rw[if_neg hf];have hf':¬((fr':Int)<(l.length:Int)):=by omega
     simp only[hf',decide_false,Bool.false_eq_true,if_false]at hX;have h2:=h1.keep b4;exact⟨H2,sl,u,hX.symm,h2.store,b2,h2.fb,fun j hj=>Nat.le_trans h1.bn (b3 j hj),fun j hj e=>by have:=b3 j hj;have:=h1.store.foot_lt e;omega,f2⟩
  ·have hb:(w0==zef)=false:=by rw[beq_eq_false_iff_ne];exact hroot
   rw[hb,if_neg (by decide)]at hX;have hn:=q_node a2.rd h1.tvv.rd hsh (by omega) (by omega);rw[lineP_eq];have sZ:∀{α:Type} (n:Nd) (k:List Value→Option α),zaD 7 [.int .i64 0,.int .i64 0,.int .i64 0,.int .i64 0,.int .i64 0,.int .u64 0,.string ⟨#[]⟩] 0 n.val k=k n.cells:=fun n k=>spl7 n k;cases hd:znG (w0::r) ts with
   |none=>
    rw[hd]at hn;obtain⟨m,hm⟩:=hn;simp only[zaf hm,x01,sZ,za9,Bool.not_false,zac,s_br,if_true]at hX;exact⟨H1,.inl hX.symm,f1⟩
   |some m=>
    rw[hd]at hn;have hok:=nodeD_ok hd;have hn:RR AX [v,tv] H1=some (.tuple #[m.val,.bool true],H1):=hn;have himp:=q_implied h1.store hR (m:=m) ⟨hok.1,hok.2.1⟩ (fun q=>h1.is _ (hok.2.2.2.1 q)) (fun q=>h1.is _ (hok.2.2.2.2.1 q)) hok.2.2.2.2.2;have hspl:spl m.cells 1 [.int .i64 (zc5 L m)]=({ m with w:=zc5 L m }:Nd).cells:=rfl;simp only[zaf hn,x01,sZ,za9,Bool.not_true,zac,s_br,Bool.false_eq_true,if_false,zfI,zaf himp,splN m 1 (by decide) _ (show OneV (.int .i64 (zc5 L m)) from⟨rfl,rfl⟩),hspl]at hX;obtain⟨H2,sl2,b1,b2⟩:=d31 h1.store hR { m with w:=zc5 L m } hok.2.2.1;simp only[zaf b1,x01]at hX;have hfm:Frm (Foot st f g sl) H1 H2:=⟨b2.next,fun j hj hn=>b2.frame j hj (fun q=>hn (.inl q)) (fun q=>hn (.inr (.inl q))) (fun q=>hn (.inr (.inr (.inl q)))) (fun q=>hn (.inr (.inr (.inr q))))⟩
    have f2:Frm (B ≤ ·) H H2:=f1.trans (hfm.mono fun j q=>.inl (h.fb j q)) fun j q=>.inl q;rw[show (some m).map (fun m=>({ m with w:=zc5 L m }:Nd))=some { m with w:=zc5 L m } from rfl];dsimp only;generalize hmm:({ m with w:=zc5 L m }:Nd)=m' at *;refine⟨fun hne=>?_,fun heq=>?_⟩
    ·simp only[za5,hne,ne_eq,not_false_eq_true,decide_true,zac,s_br,if_true]at hX;exact⟨H2,.inl hX.symm,f2⟩
    ·have e0:¬((mkR lim L K m').2.1≠0):=fun q=>q heq;have htv2:Vec H2 1 tv ts.length (i64s ts):=h1.tvv.keep hfm h1.ap;obtain⟨tv3,H3,c1,c2,c3,c4⟩:=zjr htv2 (by omega) (mkR lim L K m').1 0;have hb1:∀{α:Type} (k:Value→Hp→Option α),(zam 1 [.int .i64 0] 1 [(0,.int .i64 (mkR lim L K m').1)] H2 fun v18 H19=>zaH 1 8 tv v18 H19 k)=k tv3 H3:=fun k=>by rw[zhM,c1]
     simp only[za5,e0,decide_false,zac,s_br,Bool.false_eq_true,if_false,hb1,zaN,he1]at hX;have hft:∀j,Foot st f g sl2 j→Foot st f g sl j∨H1.next≤j:=fun j q=>by
      rcases q with q|q|q|q
      ·exact .inl (.inl q)
      ·exact .inl (.inr (.inl q))
      ·exact .inl (.inr (.inr (.inl q)))
      ·rcases b2.own j q with z|z
       ·exact .inl (.inr (.inr (.inr z)))
       ·exact .inr z
     have hnt:∀j,Foot st f g sl2 j→¬Id tv j:=fun j q z=>by
      rcases hft j q with y|y
      ·exact h1.ap j z y
      ·have:=h1.tvv.lt z;omega
     refine⟨H3,sl2,tv3,hX.symm,⟨Nat.le_trans h1.bn (Nat.le_trans hfm.next c3.next),b2.st.keep (fun j hj=>c3.same j (b2.st.foot_lt hj) (hnt j hj)) c3.next,c2,fun j q=>?_,fun j q=>?_,fun j q z=>?_,mk_inv h.inv,?_,fun t ht=>?_⟩,f2.trans (c3.mono fun j q=>.inl (h.tb j q)) fun j q=>.inl q⟩
     ·rcases hft j q with y|y
      ·exact h.fb j y
      ·exact Nat.le_trans h1.bn y
     ·rcases c4 j q with y|y
      ·exact h.tb j y
      ·exact Nat.le_trans h1.bn (Nat.le_trans hfm.next y.1)
     ·rcases c4 j q with y|y
      ·exact hnt j z y
      ·have:=b2.st.foot_lt z;omega
     ·have:=mk_le (lim:=lim) (L:=L) (K:=K) m';have:=h.ln;rw[length_append,length_singleton];omega
     ·rcases mem_append.1 ht with y|y
      ·have hy:=h.is t y;rw[zbx]at hy ⊢;have:L.length≤(mkR lim L K m').2.2.1.length:=by obtain⟨_,⟨q,_,e⟩|⟨_,_,e⟩⟩:=zkq heq<;>rw[e]<;>simp
       omega
      ·have y:t=(mkR lim L K m').1:=by simpa using y
       have:=mk_bd heq;rw[y,zbx];exact this
end
theorem zfZ{l:List UInt8}{i:Nat}{b:UInt8}(h:l[i]?=some b){α:Type}(k:Value→Option α):zbn (str l) (.int .i64 (i:Int)) k=k (.int .u8 (b.toNat:Int)):=f_at (ba l) .i64 i b (by rw[ze8];exact h) k
theorem ne10{b:UInt8}(h:b≠10):((b.toNat:Int)≠10):=u8ne h
theorem q_skip(l:List UInt8)(hl:l.length≤2^37)(sv tv fv av:Value)(H:Hp)(e:Nat):∀(d i:Nat),i+d=e→(∀j,i≤j→j<e→∃b,l[j]?=some b∧b≠10∧j+1≠l.length) →
  zas (zaI RR (str l) sv) [tv,fv,av,.int .i64 (i:Int)] H=zas (zaI RR (str l) sv) [tv,fv,av,.int .i64 (e:Int)] H
 |0,i,hi,_=>by
  have:i=e:=by omega
  rw[this]
 |d+1,i,hi,hb=>by
  obtain⟨b,h1,h2,h3⟩:=hb i (Nat.le_refl _) (by omega);have hlt:i<l.length:=(List.getElem?_eq_some_iff.1 h1).1;have e1:((i:Int)<(l.length:Int)):=by omega
  have e2:=ne10 h2;have e3:IntKind.i64.wrap ((l.length:Int)-1)=(l.length:Int)-1:=w64 (by omega) (by omega);have e4:((i:Int)≠(l.length:Int)-1):=by omega
  have hinc:IntKind.i64.wrap ((i:Int)+1)=((i+1:Nat):Int):=w64 (by omega) (by omega);have this:zaI RR (str l) sv [tv,fv,av,.int .i64 (i:Int)] H=some (.next,[tv,fv,av,.int .i64 ((i+1:Nat):Int)],H):=by unfold zaI;simp only[qg0,qg1,zcW,zaV,e1,decide_true,zac,s_br,if_true,zfZ h1,za5,e2,ne_eq,not_false_eq_true,zbK,e3,e4,zal,za0,zaz,zaN,hinc]
  rw[zai,this];exact q_skip l hl sv tv fv av H e d (i+1) (by omega) fun j h1 h2=>hb j (by omega) h2
theorem q_lines{B st f g:Nat}{lim:Int}(l:List UInt8)(hl:l.length≤2^37):∀(n:Nat) (rest:List UInt8) (fr:Nat) (H:Hp) (L:List Nd) (K:List (ByteArray×Int)) (sl tv:Value) (ts:List Int),rest.length=n→l.drop fr=rest→fr≤l.length→ts.length≤fr→DS B H st f g lim L K sl tv ts →
  DocA B H st f g lim (zas (zaI RR (str l) (.pointer (some ⟨st,0,none⟩))) [tv,.int .i64 (fr:Int),.int .i64 (ts.length:Int),.int .i64 (fr:Int)] H) (zeu lim (zbB rest) ts.length L K ts):=by
 intro n;induction n using Nat.strongRecOn with
 |_ n ih=>
 intro rest fr H L K sl tv ts hn hr hfr hts h;have hrl:rest.length=l.length-fr:=by rw[←hr,length_drop]
 by_cases h0:rest=[]
 ·subst h0;have hf:fr=l.length:=by simp at hrl;omega
  have this:zaI RR (str l) (.pointer (some ⟨st,0,none⟩)) [tv,.int .i64 (fr:Int),.int .i64 (ts.length:Int),.int .i64 (fr:Int)] H=some (.exit 0,[tv,.int .i64 (fr:Int),.int .i64 (ts.length:Int),.int .i64 (fr:Int)],H):=by
   unfold zaI;have e1:¬((fr:Int)<(l.length:Int)):=by omega
   simp only[qg0,qg1,zcW,zaV,e1,decide_false,zac,s_br,Bool.false_eq_true,if_false]
  rw[ziP];refine⟨H,.inr ⟨tv,.int .i64 (fr:Int),.int .i64 (fr:Int),?_,rfl,by omega,by omega⟩,Frm.refl _ _⟩;rw[zai,this];rfl
 ·-- a line,its end,what is left
  have hget:∀j,l[fr+j]?=rest[j]?:=fun j=>by rw[←hr,List.getElem?_drop]
  have main:∀(a:List UInt8) (e en fr':Nat) (rest':List UInt8),fr≤e→e<l.length→fr≤en→en≤l.length→fr'=e+1→zbY l (fr,en)=a→l.drop fr'=rest'→zbB rest=a::zbB rest'→(rest'.length<n) →
    (∀j,fr≤j→j<e→∃b,l[j]?=some b∧b≠10∧j+1≠l.length) →
    (∀(H:Hp) (k:Ctl→List Value→Hp→Option Outc),(zav (
     zbn (str l) (.int .i64 (e:Int)) fun v12=>
     pBin PP .neq Ad v12 (.int .u8 10) fun v13=>
     zaa v13 fun b14=>br b14
     (pLen .str (str l) H fun v15=>
     pBin PP .sub Aa v15 (.int .i64 1) fun v16=>
     pBin PP .neq Aa (.int .i64 (e:Int)) v16 fun v17=>
     zaa v17 fun b18=>br b18
     (some (.exit 1,[],H))
     (some (.next,[],H)))
     (some (.next,[],H))) k)=k .next [] H) →
    (∀(H:Hp) (k:Ctl→List Value→Hp→Option Outc),(zav (
     zbn (str l) (.int .i64 (e:Int)) fun v23=>
     pBin PP .neq Ad v23 (.int .u8 10) fun v24=>
     zaa v24 fun b25=>br b25
     (pBin PP .add Aa (.int .i64 (e:Int)) (.int .i64 1) fun v26=>
     some (.next,[v26],H))
     (some (.next,[(.int .i64 (e:Int))],H))) k)=k .next [.int .i64 (en:Int)] H) →
    DocA B H st f g lim (zas (zaI RR (str l) (.pointer (some ⟨st,0,none⟩))) [tv,.int .i64 (fr:Int),.int .i64 (ts.length:Int),.int .i64 (fr:Int)] H) (zeu lim (zbB rest) ts.length L K ts):=by
   intro a e en fr' rest' g1 g2 g3 g4 g5 g6 g7 g8 g9 g10 g11 g12;rw[q_skip l hl _ _ _ _ H e (e-fr) fr (by omega) g10,g8];have hq:=q_line h l a hl fr ts.length e en fr' rfl (by omega) g3 g4 g6 g2 g5 (g11 H) (g12 H) rfl;have hrest:fr'<l.length↔rest'≠[]:=by
    constructor
    ·intro hlt e0;have:=congrArg List.length g7;rw[length_drop,e0]at this;simp at this;omega
    ·intro hne;rcases Nat.lt_or_ge fr' l.length with q|q
     ·exact q
     ·exact absurd (by rw[←g7];exact drop_of_length_le q) hne
   generalize hX:zaI RR (str l) (.pointer (some ⟨st,0,none⟩)) [tv,.int .i64 (fr:Int),.int .i64 (ts.length:Int),.int .i64 (e:Int)] H=X at hq;have bad:∀ln e',DocA B H st f g lim X (.bad ln e')→DocA B H st f g lim (zas (zaI RR (str l) (.pointer (some ⟨st,0,none⟩))) [tv,.int .i64 (fr:Int),.int .i64 (ts.length:Int),.int .i64 (e:Int)] H) (.bad ln e'):=fun ln e' hd=>by
    obtain⟨H',hx,hf⟩:=hd;rcases hx with hx|⟨a,b,c,hx,he,hln⟩
    ·exact⟨H',.inl (by rw[zai,hX,hx];rfl),hf⟩
    ·exact⟨H',.inr ⟨a,b,c,by rw[zai,hX,hx];rfl,he,hln⟩,hf⟩
   unfold zeu;cases hw:zbv a with
   |nil=>
    rw[hw]at hq;exact bad _ _ hq
   |cons w0 r=>
    rw[hw]at hq;dsimp only at hq ⊢;by_cases hroot:w0=zef
    ·rw[if_pos hroot];have hq:=hq.1 hroot;cases hp:zcD ts r with
     |none=>
      rw[hp]at hq;exact bad _ _ hq
     |some q=>
      rw[hp]at hq;dsimp only at hq ⊢;by_cases hr0:rest'=[]
      ·rw[if_neg (fun q=>(hrest.1 q) hr0)]at hq;rw[hr0,ziP];obtain⟨H',sl',v,hx,y1,y2,y3,y4,y5,y6⟩:=hq;exact⟨H',sl',v,by rw[zai,hX,hx];rfl,y1,y2,y3,y4,y5,y6⟩
      ·rw[if_pos (hrest.2 hr0)]at hq;cases hlp:zbB rest' with
       |nil=>exact absurd (znS hlp) hr0
       |cons x y=>exact bad _ _ hq
    ·rw[if_neg hroot];have hq:=hq.2 hroot;cases hp:zky (w0::r) ts L with
     |none=>
      rw[hp]at hq;exact bad _ _ hq
     |some m=>
      rw[hp]at hq;dsimp only at hq ⊢;by_cases he:(mkR lim L K m).2.1=0
      ·rw[if_neg (fun q=>q he)];obtain⟨H',sl',tv',hx,y1,y2⟩:=hq.2 he;have hih:=ih rest'.length g9 rest' fr' H' _ _ sl' tv' _ rfl g7 (by omega) (by rw[length_append,length_singleton];omega) y1;have e1:(ts++[(mkR lim L K m).1]).length=ts.length+1:=by rw[length_append,length_singleton]
       rw[e1]at hih;rw[zai,hX,hx];exact hih.of y2
      ·rw[if_pos he];exact bad _ _ (hq.1 he)
  by_cases hm:(10:UInt8)∈rest
  ·obtain⟨a,r,h1,h2⟩:=eq_append_cons_of_mem hm;have hlen:=congrArg List.length h1;rw[length_append,length_cons]at hlen;have hbyte:l[fr+a.length]?=some 10:=by rw[hget,h1,List.getElem?_append_right (Nat.le_refl _),Nat.sub_self];rfl
   have hz:¬(((10:UInt8).toNat:Int)≠10):=by decide
   refine main a (fr+a.length) (fr+a.length) (fr+a.length+1) r (by omega) (by omega) (by omega) (by omega) rfl ?_ ?_ (by rw[h1];exact zo7 a r h2) (by omega) (fun j hj hje=>?_) (fun H k=>?_) fun H k=>?_
   ·unfold zbY;rw[drop_take,hr,h1,Nat.add_sub_cancel_left,take_left]
   ·rw[Nat.add_assoc,←drop_drop,hr,h1,←drop_drop,drop_left];rfl
   ·have hjj:fr+(j-fr)=j:=by omega
    have hg:=hget (j-fr);rw[hjj,h1,List.getElem?_append_left (by omega),List.getElem?_eq_getElem (l:=a) (by omega)]at hg;exact⟨_,hg,fun e=>h2 (e▸getElem_mem _),by omega⟩
   ·simp only[zfZ hbyte,za5,hz,decide_false,zac,s_br,Bool.false_eq_true,if_false,zal]
   ·simp only[zfZ hbyte,za5,hz,decide_false,zac,s_br,Bool.false_eq_true,if_false,zal]
  ·have hpos:0<rest.length:=length_pos_iff.2 h0;have hbyte:∃b,l[l.length-1]?=some b∧b≠10:=by
    have hg:=hget (rest.length-1);have hjj:fr+(rest.length-1)=l.length-1:=by omega
    rw[hjj,List.getElem?_eq_getElem (l:=rest) (by omega)]at hg;exact⟨_,hg,fun e=>hm (e▸getElem_mem _)⟩
   obtain⟨b,hb1,hb2⟩:=hbyte;have e2:=ne10 hb2;have e3:IntKind.i64.wrap ((l.length:Int)-1)=(l.length:Int)-1:=w64 (by omega) (by omega);have e4:¬(((l.length-1:Nat):Int)≠(l.length:Int)-1):=by omega
   have e5:IntKind.i64.wrap (((l.length-1:Nat):Int)+1)=(l.length:Int):=by rw[w64 (by omega) (by omega)];omega
   refine main rest (l.length-1) l.length l.length [] (by omega) (by omega) hfr (Nat.le_refl _) (by omega) ?_ (drop_of_length_le (Nat.le_refl _)) (by rw[zq8 rest hm h0,ziP]) (by show 0<n;omega) (fun j hj hje=>?_) (fun H k=>?_) fun H k=>?_
   ·unfold zbY;rw[take_of_length_le (Nat.le_refl _),hr]
   ·have hjj:fr+(j-fr)=j:=by omega
    have hg:=hget (j-fr);rw[hjj,List.getElem?_eq_getElem (l:=rest) (by omega)]at hg;exact⟨_,hg,fun e=>hm (e▸getElem_mem _),by omega⟩
   ·simp only[zfZ hb1,za5,e2,ne_eq,not_false_eq_true,decide_true,zac,s_br,if_true,zcW,zbK,e3];have e4':(((l.length-1:Nat):Int)=(l.length:Int)-1):=by omega
    simp only[e4',not_true_eq_false,decide_false,Bool.false_eq_true,if_false,zal]
   ·simp only[zfZ hb1,za5,e2,ne_eq,not_false_eq_true,decide_true,zac,s_br,if_true,zaN,e5,zal]
theorem q_load{H:Hp}(l:List UInt8)(hl:l.length≤2^37){lim:Int}(hlim:¬lim<0):LoadA H lim AB (fun v=>v) [str l,.int .i64 lim] (zeu lim (zbB l) 0 [] [] []):=by
 have hrun:=zhj E0 rfl (str l) (.int .i64 lim) H;rw[zht]at hrun;have hnew:RR BA [.int .i64 lim] H=some (.tuple #[.pointer (some ⟨H.next+2,0,none⟩),.int .i64 0],newH lim H):=by rw[c17,if_neg hlim]
 have hz:¬((0:Int)≠0):=by decide
 rw[zaf hnew,x01,za5,zac,s_br,if_neg (fun q=>hz (of_decide_eq_true q))]at hrun;have f1:Frm (fun _=>False) H (newH lim H):=⟨by rw[zkp];omega,fun j hj _=>zmB lim H j hj⟩
 have hD:DS H.next (newH lim H) (H.next+2) H.next (H.next+1) lim [] [] (.slice none 0 0) (.slice none 0 0) []:=
  ⟨f1.next,newH_st lim H,Vec.nil _ _,fun j hj=>by have:=zin hj;omega,fun j hj=>(by cases hj),fun j hj=>(by cases hj),Inv.nil lim,Nat.le_refl _,fun t ht=>by cases ht⟩
 have hA:=q_lines l hl l.length l 0 _ _ _ _ _ [] rfl rfl (Nat.zero_le _) (Nat.le_refl _) hD;have f2:∀{H':Hp},Frm (H.next ≤ ·) (newH lim H) H'→Frm (fun _=>False) H H':=fun k=>f1.trans (k.mono (N:=(H.next ≤ ·)) fun j q=>.inl q) fun j q=>.inr q;cases hr:zeu lim (zbB l) 0 [] [] [] with
 |bad ln e=>
  have hA:DocA H.next (newH lim H) (H.next+2) H.next (H.next+1) lim _ (zeu lim (zbB l) 0 [] [] []):=hA;rw[hr]at hA;obtain⟨H',hx,hf⟩:=hA;refine⟨H',?_,f2 hf⟩;rcases hx with hx|⟨a,b,c,hx,he,hln⟩
  ·have hrun:=hrun.trans (congrArg (fun z=>zav z _) hx);exact hrun
  ·have hrun:=hrun.trans (congrArg (fun z=>zav z _) hx);have hadd:IntKind.i64.wrap (((ln-1:Nat):Int)+1)=(ln:Int):=by rw[w64 (by omega) (by omega)];omega
   rw[zal,za0,zaz]at hrun;simp only[qg0,qg1,zaN,hadd]at hrun;rw[he];exact hrun
 |good L K q=>
  have hA:DocA H.next (newH lim H) (H.next+2) H.next (H.next+1) lim _ (zeu lim (zbB l) 0 [] [] []):=hA;rw[hr]at hA;obtain⟨H',sl,v,hx,y1,y2,y3,y4,y5,y6⟩:=hA;have hrun:=hrun.trans (congrArg (fun z=>zav z _) hx);exact⟨H',_,_,_,sl,v,hrun,y1,y2,f2 y6,y3,y4,y5⟩
end Go.AM
namespace Go.AM
open Go
section
variable {H:Hp}{p f g:Nat}{lim:Int}{L:List Nd}{K:List (ByteArray×Int)}{sl:Value}(hs:StR H p lim L sl f g)
include hs
theorem c9:RR Cl [.pointer (some ⟨p,0,none⟩)] H=some (.int .i64 L.length,H):=by refine(zjl E0 rfl _ _).trans ?_;unfold zfK;simp only[zbA,zaJ,Nat.zero_add,hs.l1,hs.all.len]
theorem c10(hL:(L.length:Int)≤4611686018427387904)(t:Int):RR Bl [.pointer (some ⟨p,0,none⟩),.int .i64 t] H=some (.tuple #[(zgZ L t).val,.int .i64 (if isT L t=true then 0 else 70)],H):=by
 refine(ziE E0 rfl _ _ _).trans ?_;unfold zfm;rw[zaf (c19 hs),za9,zac];unfold zgZ;cases ht:isT L t with
 |false=>simp only[Bool.not_false,br,bnil,spl7,znL,Bool.false_eq_true,if_false]
 |true=>
  obtain⟨i,n,hn,hi,hx⟩:=s_idx hs.all ht hL (fun p11=>zak 7 true H p11 fun v12=>
   zaD 7 [.int .i64 0,.int .i64 0,.int .i64 0,.int .i64 0,.int .i64 0,.int .u64 0,.string ⟨#[]⟩] 0 v12 fun c13=>zae 7 true c13 0 fun v14=>some ((Value.tuple #[v14,(.int .i64 0)]),H))
  simp only[Bool.not_true,br,zbA,zaJ,Nat.zero_add,hs.l1,zbK,if_true];rw[hx,ld7 hi hn,spl7,znL,hn];rfl
end
end Go.AM
namespace Go.AM
open List Go
theorem s_t4{α:Type}(a b c d:Value)(k:Value→Option α):zah (.tuple #[a,b,c,d]) 0 k=k a∧zah (.tuple #[a,b,c,d]) 1 k=k b∧zah (.tuple #[a,b,c,d]) 2 k=k c∧zah (.tuple #[a,b,c,d]) 3 k=k d:=⟨rfl,rfl,rfl,rfl⟩
theorem Vec.stay{H H':Hp}{v:Value}{n:Nat}{cs:List Value}(h:Vec H 1 v n cs)(k:Frm (fun _=>False) H H'):Vec H' 1 v n cs:=h.keep k fun _ _ q=>q
theorem zlr{ts:List Int}:∀(ws:List (List UInt8)) (l:List Int),zcD ts ws=some l→l.length=ws.length
 |[],l,h=>by cases h;rfl
 |w::r,l,h=>by
  unfold zcD at h;split at h
  ·cases h
  ·split at h
   ·cases h
   ·rename_i q hq;cases h;rw[length_cons,length_cons,zlr r q hq]
theorem zp9{lim:Int}{N:Nat}:∀(lines:List (List UInt8)) (k:Nat) (L:List Nd) (K:List (ByteArray×Int)) (ts:List Int) (L':List Nd) (K':List (ByteArray×Int)) (q:List Int),(∀l∈lines,l.length≤N)→zeu lim lines k L K ts=.good L' K' q→L'.length≤L.length+lines.length∧q.length≤N+1
 |[],k,L,K,ts,L',K',q,hN,h=>by cases h
 |l::rest,k,L,K,ts,L',K',q,hN,h=>by
  unfold zeu at h;have hl:=hN l (mem_cons_self ..);have hwl:(zbv l).length≤l.length+1:=by unfold zbv;rw[length_map];exact zg9 l 0 none
  cases hw:zbv l with
  |nil=>rw[hw]at h;cases h
  |cons w0 r=>
   rw[hw]at h hwl;dsimp only at h;rw[length_cons]at hwl;split at h
   ·cases hp:zcD ts r with
    |none=>rw[hp]at h;cases h
    |some q'=>
     rw[hp]at h;have hql:=zlr r q' hp;cases rest with
     |nil=>
      cases h;exact⟨by omega,by omega⟩
     |cons a b=>cases h
   ·cases hp:zky (w0::r) ts L with
    |none=>rw[hp]at h;cases h
    |some m=>
     rw[hp]at h;dsimp only at h;split at h
     ·cases h
     ·have ih:=zp9 rest (k+1) _ _ _ L' K' q (fun x hx=>hN x (mem_cons_of_mem _ hx)) h;have:=mk_le (lim:=lim) (L:=L) (K:=K) m;rw[length_cons];exact⟨by omega,ih.2⟩
end Go.AM
namespace Go.AM
open Go Go.ChangeShapes Go.WideShapes Go.ChangeAt Go.RowKit Go.Proofs.YtcbmccpkhagckaaGreatDoor
theorem xt7:XtC PP orc.xt:=by
 intro f e h;have h:look none [(Bh,some zlR),(Bg,some zlZ)] f=some e:=h;unfold look at h;split at h
 ·rename_i q;cases h;have:f=Bh:=(Nat.eq_of_beq_eq_true q).symm;subst this;exact idxStr_xt Go.Proofs.Tryz.func184 (by kernel_rfl) (by kernel_rfl) (by kernel_rfl) (by kernel_rfl)
 ·unfold look at h;split at h
  ·rename_i q;cases h;have:f=Bg:=(Nat.eq_of_beq_eq_true q).symm;subst this;exact cntStr_xt Go.Proofs.Tryz.func157 (by kernel_rfl) (by kernel_rfl) (by kernel_rfl) (by kernel_rfl)
  ·cases h
theorem zg8{P:Program}{W:World}{name:String}{k:IntKind}{zs:List Int}{rest:List (String×DataW Unit)}{g:Nat}{t e:TypeId}{n:Nat}{ps:List MemPlace}
  (hg:P.globalNamed name=some g) (hty:(P.globals[g]?).map (·.type)=some t) (ht:P.underlying t=some (.array n e)) (he:P.underlying e=some (.int k)) (hce:P.cellsOf e=1) (hct:P.cellsOf t=n)
  (h:DataW.LaidVars P W ((name,Go.Lib.tabData k zs)::rest) ps):∃ty fz,W.heap[g]?=some (.cells (zs.map fun z=>Value.int k z).toArray ty fz):=by
 obtain⟨g',t',cs,fuel,p,q,hg',ht',hvar,hd,_,_⟩:=h;obtain rfl:=Option.some.inj (hg.symm.trans hg');obtain rfl:=Option.some.inj (hty.symm.trans ht');have hc:=Go.Lib.cells_of_tab ht he hce hct hd;unfold World.var? at hvar;rw[hg]at hvar;have hvar:(match W.heap[g]? with|some (Obj.cells cs _ _)=>some cs|_=>none)=some cs:=hvar;split at hvar
 ·rename_i cs' ty fz hw;cases hvar;refine⟨ty,fz,?_⟩;rw[hw,←hc]
 ·cases hvar
theorem zkE{P:Program}{W:World}{name:String}{g:Nat}{cs:Array Value}(hg:P.globalNamed name=some g)(hvar:W.var? P name=some cs):∃ty fz,W.heap[g]?=some (.cells cs ty fz):=by
 unfold World.var? at hvar;rw[hg]at hvar;have hvar:(match W.heap[g]? with|some (Obj.cells cs _ _)=>some cs|_=>none)=some cs:=hvar;split at hvar
 ·rename_i cs' ty fz hw;cases hvar;exact⟨ty,fz,hw⟩
 ·cases hvar
def bru64:List Int:=Go.Lib.deBruijn64tab.map fun (n:Nat)=>(n:Int)
theorem pow_data:(Rows.laid_internal_strconv_uint64pow10:DataW Unit)=Go.Lib.tabData .u64 zqW:=by kernel_rfl
theorem spc_data:(Rows.laid_strings_asciiSpace:DataW Unit)=Go.Lib.tabData .u8 zlm:=by kernel_rfl
theorem bru_data:(Rows.laid_math_bits_deBruijn64tab:DataW Unit)=Go.Lib.tabData .u8 bru64:=by kernel_rfl
abbrev zlc:List (String×DataW Unit):=[("math/bits.deBruijn32tab",Rows.laid_math_bits_deBruijn32tab),("math/bits.deBruijn64tab",Rows.laid_math_bits_deBruijn64tab),("internal/strconv.uint64pow10",Rows.laid_internal_strconv_uint64pow10),("unicode/utf8.acceptRanges",Rows.laid_unicode_utf8_acceptRanges),
 ("strconv.ErrRange",Rows.laid_strconv_ErrRange),("strconv.ErrSyntax",Rows.laid_strconv_ErrSyntax),("unicode.White_Space",Rows.laid_unicode_White_Space),("strings.asciiSpace",Rows.laid_strings_asciiSpace),("unicode/utf8.first",Rows.laid_unicode_utf8_first)]
theorem zqo : "*" ++ "errors.errorString" = "*errors.errorString" := by decide
theorem err_row:∀u,PP.typeName? 3 u=some "*errors.errorString" → u=AF:=fun u h=>
 typeName_ptr_named (nm := "errors.errorString") (by rw[zqo];kernel_rfl) (by kernel_rfl) (by decide) u (by rw[zqo];exact h)
theorem laid_errs{W:World}(h:laidMetH PP zlc W):(∃p ty fz,W.heap[AA]?=some (.cells #[.iface AF p] ty fz))∧(∃p ty fz,W.heap[Az]?=some (.cells #[.iface AF p] ty fz)):=by have h:laidMet PP zlc W:=h;have h4:=h.tail.tail.tail.tail;obtain⟨a,s,hv,_⟩:=laid_sentinel (g:=AA) (ti:=Bm) (tp:=AF) (te:=Cs) (ts:=Ac) h4 (by kernel_rfl) (by kernel_rfl) Go.Proofs.Tryz.underlying114 err_row (by kernel_rfl) Go.Proofs.Tryz.underlying269 rfl rfl (by kernel_rfl) (by kernel_rfl) (by kernel_rfl);obtain⟨a2,s2,hv2,_⟩:=laid_sentinel (g:=Az) (ti:=Bm) (tp:=AF) (te:=Cs) (ts:=Ac) h4.tail (by kernel_rfl) (by kernel_rfl) Go.Proofs.Tryz.underlying114 err_row (by kernel_rfl) Go.Proofs.Tryz.underlying269 rfl rfl (by kernel_rfl) (by kernel_rfl) (by kernel_rfl);obtain⟨t1,z1,e1⟩:=zkE (by kernel_rfl) hv;obtain⟨t2,z2,e2⟩:=zkE (by kernel_rfl) hv2;exact⟨⟨_,t1,z1,e1⟩,⟨_,t2,z2,e2⟩⟩
theorem laid_tabs{W:World}(h:laidMetH PP zlc W):(∃ty fz,W.heap[AH]?=some (.cells (zqW.map fun z=>Value.int .u64 z).toArray ty fz)) ∧
  (∃ty fz,W.heap[AG]?=some (.cells (zlm.map fun z=>Value.int .u8 z).toArray ty fz))∧(∃ty fz,W.heap[A2]?=some (.cells (bru64.map fun z=>Value.int .u8 z).toArray ty fz)):=by
 have h:laidMet PP zlc W:=h;obtain⟨q1,h1,_⟩:=h.tail;obtain⟨q2,h2,_⟩:=h.tail.tail;obtain⟨q7,h7,_⟩:=h.tail.tail.tail.tail.tail.tail.tail;rw[bru_data]at h1;rw[pow_data]at h2;rw[spc_data]at h7
 exact⟨zg8 (by kernel_rfl) (t:=CM) (e:=Ab) (n:=20) (by kernel_rfl) (by kernel_rfl) (by kernel_rfl) (by kernel_rfl) (by kernel_rfl) h2,
  zg8 (by kernel_rfl) (t:=CN) (e:=Ad) (n:=256) (by kernel_rfl) (by kernel_rfl) (by kernel_rfl) (by kernel_rfl) (by kernel_rfl) h7,
  zg8 (by kernel_rfl) (t:=CP) (e:=Ad) (n:=64) (by kernel_rfl) (by kernel_rfl) (by kernel_rfl) (by kernel_rfl) (by kernel_rfl) h1⟩
theorem start{W:World}(hsz:PP.globals.size≤W.heap.size)(h:laidMetH PP zlc W):∃H0,Rel PP W H0 (B00 PP)∧(∀i o,H0.get i=some o→o.own=false)∧Laid H0:=by
 obtain⟨⟨t1,z1,e1⟩,⟨t2,z2,e2⟩,t3,z3,e3⟩:=laid_tabs h;obtain⟨⟨p4,t4,z4,e4⟩,p5,t5,z5,e5⟩:=laid_errs h;let Fx:Nat→Option AObj:=fun i=>if i=AH then some (.fix (.cells (zqW.map fun z=>Value.int .u64 z).toArray t1 z1)) else if i=AG then some (.fix (.cells (zlm.map fun z=>Value.int .u8 z).toArray t2 z2))
  else if i=A2 then some (.fix (.cells (bru64.map fun z=>Value.int .u8 z).toArray t3 z3)) else if i=AA then some (.fix (.cells #[.iface AF p4] t4 z4)) else if i=Az then some (.fix (.cells #[.iface AF p5] t5 z5)) else none
 obtain⟨r1,r2⟩:=relStart (P:=PP) hsz (F:=Fx) (fun i o hi=>by
  have hi:(if i=AH then _ else if i=AG then _ else if i=A2 then _ else if i=AA then _ else if i=Az then _ else none)=some o:=hi;split at hi
  ·rename_i q;subst q;cases hi;exact .inl ⟨_,rfl,e1⟩
  ·split at hi
   ·rename_i q;subst q;cases hi;exact .inl ⟨_,rfl,e2⟩
   ·split at hi
    ·rename_i q;subst q;cases hi;exact .inl ⟨_,rfl,e3⟩
    ·split at hi
     ·rename_i q;subst q;cases hi;exact .inl ⟨_,rfl,e4⟩
     ·split at hi
      ·rename_i q;subst q;cases hi;exact .inl ⟨_,rfl,e5⟩
      ·cases hi)
 have g:∀i,i<PP.globals.size→(HS PP Fx).get i=Fx i:=fun i hi=>if_pos hi;have lt:∀i,i<11→i<PP.globals.size:=fun i hi=>by rw[zlb];omega
 refine⟨_,r1,r2,⟨Nat.le_refl _,⟨⟨_,t1,z1,(g _ (lt _ (by decide))).trans rfl,?_⟩,⟨_,t2,z2,(g _ (lt _ (by decide))).trans rfl,?_⟩,⟨_,t3,z3,(g _ (lt _ (by decide))).trans rfl,?_⟩⟩,⟨_,t5,z5,(g _ (lt _ (by decide))).trans rfl,rfl⟩,⟨_,t4,z4,(g _ (lt _ (by decide))).trans rfl,rfl⟩⟩⟩
 ·kernel_rfl
 ·kernel_rfl
 ·kernel_rfl
noncomputable def zdA(os:Os):World:=
 let N:=(World.settled PP os).heap.size
 let w0:=World.holding PP os ⟨#[.cells (Go.Lib.whiteT.map fun (z:Nat)=>Value.int .u16 (z:Int)).toArray CQ,.cells #[.slice (some ⟨N,0,none⟩) 7 7,.slice none 0 0,.int .i64 2] CR,
  .cells #[.string ⟨#[105,110,118,97,108,105,100,32,115,121,110,116,97,120]⟩] Cs,.cells #[.string ⟨#[118,97,108,117,101,32,111,117,116,32,111,102,32,114,97,110,103,101]⟩] Cs],#[],[]⟩
 let put (h:Array Obj) (g:Nat) (cs:Array Value):Array Obj:=h.modify g fun
  |.cells _ t frozen=>.cells cs t frozen
  |o=>o
 let h1:=put w0.heap AG (zlm.map fun z=>Value.int .u8 z).toArray
 let h2:=put h1 AH (zqW.map fun z=>Value.int .u64 z).toArray
 let h3:=put h2 A2 (bru64.map fun z=>Value.int .u8 z).toArray
 let h4:=put h3 CB (Go.Lib.deBruijn32tab.map fun (z:Nat)=>Value.int .u8 (z:Int)).toArray
 let h5:=put h4 Cy #[.pointer (some ⟨N+1,0,none⟩)]
 let h6:=put h5 Az #[.iface AF (.pointer (some ⟨N+2,0,none⟩))]
 let h7:=put h6 AA #[.iface AF (.pointer (some ⟨N+3,0,none⟩))]
 let h8:=put h7 Cz (Go.Lib.firstTab.map fun z=>Value.int .u8 z).toArray
 let h9:=put h8 CA (((List.range 16).flatMap fun i=>[Value.int .u8 (Go.Lib.accLo i),Value.int .u8 (Go.Lib.accHi i)]).toArray)
 { w0 with heap:=h9 }
set_option maxRecDepth 1000000
noncomputable abbrev nS:Nat:=(World.settled PP default).heap.size
theorem lp1(os:Os)(args:Array Value):LaidIn PP ((zdA os).forCall (fun _ _=>0) ⟨#[],args,[]⟩).memory (zlc.take 3) [CB,A2,AH]:=
 LaidIn.of_run _ 8 (by kernel_rfl) (by kernel_rfl) (by kernel_rfl) (by kernel_rfl)
theorem lp2(os:Os)(args:Array Value):LaidIn PP ((zdA os).forCall (fun _ _=>0) ⟨#[],args,[]⟩).memory ((zlc.drop 3).take 4) [CA,AA,Az,Cy,nS,nS+1,nS+2,nS+3]:=
 LaidIn.of_run _ 8 (by kernel_rfl) (by kernel_rfl) (by kernel_rfl) (by kernel_rfl)
theorem lp3(os:Os)(args:Array Value):LaidIn PP ((zdA os).forCall (fun _ _=>0) ⟨#[],args,[]⟩).memory ((zlc.drop 7).take 1) [AG]:=
 LaidIn.of_run _ 8 (by kernel_rfl) (by kernel_rfl) (by kernel_rfl) (by kernel_rfl)
theorem lp4(os:Os)(args:Array Value):LaidIn PP ((zdA os).forCall (fun _ _=>0) ⟨#[],args,[]⟩).memory (zlc.drop 8) [Cz]:=
 LaidIn.of_run _ 8 (by kernel_rfl) (by kernel_rfl) (by kernel_rfl) (by kernel_rfl)
theorem laid_all(os:Os)(args:Array Value):laidMet PP zlc ((zdA os).forCall (fun _ _=>0) ⟨#[],args,[]⟩).memory:=
 ((((lp1 os args).append (lp2 os args) (by kernel_rfl)).append (lp3 os args) (by kernel_rfl)).append (lp4 os args) (by kernel_rfl)).met
end Go.AM
namespace Go.AM.N14
open Go Go.AM
abbrev W64:=BitVec 64
theorem zqy{a b:W64}(h:∀j,a.getLsbD j=b.getLsbD j):a=b:=BitVec.eq_of_getLsbD_eq fun i _=>h i
theorem bit_hi(a:W64){j:Nat}(h:64≤j):a.getLsbD j=false:=BitVec.getLsbD_of_ge a j h
theorem zoX{x y i:Nat}(hx:x.testBit i=false)(hy:y.testBit i=true)(h:∀j,i<j→x.testBit j=y.testBit j):x<y:=by
 have e:x/2^(i+1)=y/2^(i+1):=Nat.eq_of_testBit_eq fun j=>by rw[Nat.testBit_div_two_pow,Nat.testBit_div_two_pow];exact h _ (by omega)
 have p:∀z:Nat,z/2^(i+1)=z/2^i/2:=fun z=>by rw[Nat.pow_succ,Nat.div_div_eq_div_mul]
 rw[p,p]at e;rw[Nat.testBit_eq_decide_div_mod_eq]at hx hy;have hx:¬x/2^i%2=1:=of_decide_eq_false hx;have hy:y/2^i%2=1:=of_decide_eq_true hy;have:x/2^i<y/2^i:=by omega
 exact Nat.lt_of_not_le fun hle=>by have:=Nat.div_le_div_right (c:=2^i) hle;omega
theorem zq6{a b:W64}{i:Nat}(h1:a.getLsbD i=false)(h2:b.getLsbD i=true)(h:∀j,i<j→a.getLsbD j=b.getLsbD j):a.toNat<b.toNat:=
 zoX (i:=i) (by rw[BitVec.testBit_toNat];exact h1) (by rw[BitVec.testBit_toNat];exact h2) fun j hj=>by rw[BitVec.testBit_toNat,BitVec.testBit_toNat];exact h j hj
theorem zri{a b:Nat}(h:a≠b):∃i,a.testBit i≠b.testBit i∧∀j,i<j→a.testBit j=b.testBit j:=by
 have hx:a ^^^ b≠0:=fun e=>h (Nat.eq_of_testBit_eq fun j=>by have q:=congrArg (fun z=>Nat.testBit z j) e;simpa using q);refine⟨(a ^^^ b).log2,?_,fun j hj=>?_⟩
 ·have:(a ^^^ b).testBit (a ^^^ b).log2=true:=Nat.testBit_log2 hx;rw[Nat.testBit_xor]at this;intro e;rw[e]at this;simp at this
 ·have hl:a ^^^ b<2^j:=Nat.lt_of_lt_of_le Nat.lt_log2_self (Nat.pow_le_pow_right (by decide) hj);have:(a ^^^ b).testBit j=false:=Nat.testBit_lt_two_pow hl;rw[Nat.testBit_xor]at this;simpa using this
theorem zrj{a b:W64}(h:a.toNat<b.toNat):∃i,i<64∧a.getLsbD i=false∧b.getLsbD i=true∧∀j,i<j→a.getLsbD j=b.getLsbD j:=by
 obtain⟨i,h1,h2⟩:=zri (a:=a.toNat) (b:=b.toNat) (by omega);rw[BitVec.testBit_toNat,BitVec.testBit_toNat]at h1;have h2:∀j,i<j→a.getLsbD j=b.getLsbD j:=fun j hj=>by have:=h2 j hj;rwa [BitVec.testBit_toNat,BitVec.testBit_toNat]at this
 have hi:i<64:=by
  rcases Nat.lt_or_ge i 64 with q|q
  ·exact q
  ·rw[bit_hi a q,bit_hi b q]at h1;exact absurd rfl h1
 cases ha:a.getLsbD i with
 |false=>
  refine⟨i,hi,ha,?_,h2⟩;cases hb:b.getLsbD i with
  |true=>rfl
  |false=>rw[ha,hb]at h1;exact absurd rfl h1
 |true=>
  cases hb:b.getLsbD i with
  |true=>rw[ha,hb]at h1;exact absurd rfl h1
  |false=>have:=zq6 hb ha fun j hj=>(h2 j hj).symm;omega
def Fit(o z x:W64):Prop:=∀j,(o.getLsbD j=true→x.getLsbD j=true)∧(z.getLsbD j=true→x.getLsbD j=false)
theorem part{o z x t:W64}(hf:Fit o z t)(hl:x.toNat<t.toNat):∃i,i<64∧x.getLsbD i=false∧t.getLsbD i=true∧z.getLsbD i=false∧(∀j,i<j→t.getLsbD j=x.getLsbD j) ∧
  (∀j,i<j→(o.getLsbD j=true→x.getLsbD j=true)∧(z.getLsbD j=true→x.getLsbD j=false)):=by
 obtain⟨i,h1,h2,h3,h4⟩:=zrj hl;refine⟨i,h1,h2,h3,?_,fun j hj=>(h4 j hj).symm,fun j hj=>?_⟩
 ·cases hz:z.getLsbD i with
  |false=>rfl
  |true=>rw[(hf i).2 hz]at h3;cases h3
 ·rw[h4 j hj];exact hf j
def msk(n:Nat):W64:=BitVec.ofNat 64 (2^n-1)
theorem ziT(n j:Nat):(msk n).getLsbD j=(decide (j<64)&&decide (j<n)):=by unfold msk;rw[BitVec.getLsbD_ofNat,Nat.testBit_two_pow_sub_one]
theorem msk_all:msk 64=BitVec.allOnes 64:=rfl
theorem zmD(n:Nat)(hn:n≤64):(msk n).toNat=2^n-1:=by unfold msk;have:2^n≤2^64:=Nat.pow_le_pow_right (by decide) hn;have:=Nat.two_pow_pos n;rw[BitVec.toNat_ofNat,Nat.mod_eq_of_lt (by omega)]
theorem zbU{y:W64}{n:Nat}(hn:n≤64):y.toNat≤(msk n).toNat↔∀j,n≤j→y.getLsbD j=false:=by
 rw[zmD n hn];have p:=Nat.two_pow_pos n;constructor
 ·intro h j hj;rw[←BitVec.testBit_toNat];exact Nat.testBit_lt_two_pow (Nat.lt_of_lt_of_le (show y.toNat<2^n by omega) (Nat.pow_le_pow_right (by decide) hj))
 ·intro h;have:y.toNat<2^n:=Nat.lt_pow_two_of_testBit _ fun i hi=>by rw[BitVec.testBit_toNat];exact h i hi
  omega
structure Fct where
 w:Int
 one:W64
 zero:W64
 least:W64
 top:W64
section
variable {α:Type}
theorem u_all:Value.int .u64 18446744073709551615=wv (msk 64):=rfl
theorem cu64(n:Nat)(h:n<18446744073709551616)(k:Value→Option α):zan .u64 (.int .i64 (n:Int)) k=k (.int .u64 (n:Int)):=by rw[q_conv,q_u64 (by omega) (by omega)]
end
def wd(w:Int):Nat:=(max w 1).toNat
theorem wd_le{w:Int}(h:w≤64):wd w≤64:=by unfold wd;omega
theorem wd_pos(w:Int):1≤wd w:=by unfold wd;omega
end Go.AM.N14
