/- Part of the proof of EvalCarryMeansUptoCardSaid: see the last file.  -/
import Derived.Test.YtcbmccpkhagckaaGreatDoorCards
import Derived.Test.YtcbmccpkhagckaaGreatDoorTie
import Derived.WalkKit
import Derived.ProofKit
import Derived.OpenShut
import Derived.Deep.DeepHandedRow
import Derived.Deep.DeepWitnessRowRef
import Derived.Stop.LaidErr
import Derived.Lib.LaidTab
import Derived.Lib.LaidU8
import Derived.Lib.TrailingZeros
import Derived.Lib.LaidIn
import Derived.KernelRfl
import Derived.Laws.MathBits
import Derived.Lib.Mul64
import Derived.Test.YtcbmccpkhagckaaGreatDoorT1
import Derived.Test.YtcbmccpkhagckaaGreatDoorT2
import Derived.Test.YtcbmccpkhagckaaGreatDoorT3
set_option linter.unusedSimpArgs false
set_option linter.unusedVariables false
set_option linter.unusedSectionVars false
set_option maxRecDepth 100000
namespace Go.AM
open List Go
noncomputable def ph3(x0 p10:Value)(H:Hp):Option Outc:=
 zas 0 p10 fun p77=>
 zal 1 false H p77 fun v78=>
 pBin PP .eql Aa v78 (.int .i64 31) fun v79=>
 zaa v79 fun b80=>br b80
 (zbh RR An [x0] H (fun e81 H82=>
 some (.ret,[(W0 e81)],H82)) fun r83 H84=>
 zaj .u64 r83 fun v85=>
 zas 5 p10 fun p86=>
 zao 1 H84 p86 v85 fun H87=>
 zbh RR An [x0] H87 (fun e88 H89=>
 some (.ret,[(W0 e88)],H89)) fun r90 H91=>
 zas 1 p10 fun p92=>
 zao 1 H91 p92 r90 fun H93=>
 some (.next,[],H93))
 (zau (
 pBin PP .eql Aa v78 (.int .i64 32) fun v94=>
 zaa v94 fun b95=>br b95
 (some (.next,[(.bool true)],H))
 (pBin PP .eql Aa v78 (.int .i64 33) fun v96=>
 some (.next,[v96],H))) fun q97 l98 H99=>zaC q97
 (zaa (l98.getD 0 undef) fun b101=>br b101
 (zbh RR An [x0] H99 (fun e102 H103=>
 some (.ret,[(W0 e102)],H103)) fun r104 H105=>
 zas 1 p10 fun p106=>
 zao 1 H105 p106 r104 fun H107=>
 some (.next,[],H107))
 (pBin PP .eql Aa v78 (.int .i64 14) fun v108=>
 zaa v108 fun b109=>br b109
 (pNil x0 (
 zas 0 x0 fun p110=>
 zal 1 false H99 p110 fun v111=>
 zas 3 p10 fun p112=>
 zal 1 false H99 p112 fun v113=>
 zad RR Aj [v111,v113] H99 fun r114 H115=>
 zas 1 p10 fun p116=>
 zao 1 H115 p116 r114 fun H117=>
 some (.next,[],H117)))
 (pBin PP .eql Aa v78 (.int .i64 30) fun v118=>
 zaa v118 fun b119=>br b119
 (pNil x0 (
 zas 0 x0 fun p120=>
 zal 1 false H99 p120 fun v121=>
 zas 2 p10 fun p122=>
 zal 1 false H99 p122 fun v123=>
 zad RR Aj [v121,v123] H99 fun r124 H125=>
 pNil x0 (
 zas 0 x0 fun p126=>
 zal 1 false H125 p126 fun v127=>
 chk (Hp.rdP H99 p126 1 false=some v127) (
 zas 3 p10 fun p128=>
 zal 1 false H125 p128 fun v129=>
 chk (Hp.rdP H99 p128 1 false=some v129) (
 zad RR Aj [v127,v129] H125 fun r130 H131=>
 pBin PP .add Aa r124 r130 fun v132=>
 pMM false [v132,(.int .i64 65)] fun v133=>
 zas 1 p10 fun p134=>
 zao 1 H131 p134 v133 fun H135=>
 zas 1 p10 fun p136=>
 zal 1 false H135 p136 fun v137=>
 pBin PP .gtr Aa v137 (.int .i64 64) fun v138=>
 zaa v138 fun b139=>br b139
 (zas 1 p10 fun p140=>
 zao 1 H135 p140 (.int .i64 0) fun H141=>
 some (.next,[],H141))
 (some (.next,[],H135)))))))
 (pBin PP .geq Aa v78 (.int .i64 15) fun v142=>
 zaa v142 fun b143=>br b143
 (pBin PP .leq Aa v78 (.int .i64 29) fun v144=>
 zaa v144 fun b145=>br b145
 (pNil x0 (
 zas 0 x0 fun p146=>
 zal 1 false H99 p146 fun v147=>
 zas 2 p10 fun p148=>
 zal 1 false H99 p148 fun v149=>
 zad RR Aj [v147,v149] H99 fun r150 H151=>
 zas 1 p10 fun p152=>
 zao 1 H151 p152 r150 fun H153=>
 some (.next,[],H153)))
 (some (.next,[],H99)))
 (some (.next,[],H99))))))
 (fun i100=>zav i100 3 (
 some (.next,[],H99)) (
 some (.exit i100,[],H99)))
 (some (.ret,[(l98.headD undef)],H99)))
theorem setP_op(k:Nat)(n:Nd)(t:Int):(setP k n t).op=n.op:=by
 unfold setP;split
 ·rfl
 ·split<;>rfl
theorem bld3p(i:Nat):∀{α:Type} (k:Value→Option α),zaB PP A7 [(0,.pointer (some ⟨i,0+2,none⟩)),(1,.pointer (some ⟨i,0+3,none⟩)),(2,.pointer (some ⟨i,0+4,none⟩))] k=k (.agg #[.pointer (some ⟨i,2,none⟩),.pointer (some ⟨i,3,none⟩),.pointer (some ⟨i,4,none⟩)]):=fun {α} k=>by
 have:zg5 PP A7 [(0,.pointer (some ⟨i,0+2,none⟩)),(1,.pointer (some ⟨i,0+3,none⟩)),(2,.pointer (some ⟨i,0+4,none⟩))]=some (.agg #[.pointer (some ⟨i,2,none⟩),.pointer (some ⟨i,3,none⟩),.pointer (some ⟨i,4,none⟩)]):=by kernel_rfl
 unfold zaB;rw[this]
theorem zpS(k:Nat)(hk:k<3)(n:Nd)(t:Int):spl n.cells (2+k) [.int .i64 t]=(setP k n t).cells:=by
 match k,hk with
 |0,_=>rfl
 |1,_=>rfl
 |2,_=>rfl
theorem partsT_le(op:Int):0≤zah op∧zah op≤3:=by
 unfold zah;split
 ·decide
 ·split
  ·decide
  ·split<;>decide
theorem zo3{p i:Nat}{sp tv:Value}(hA:Away p i)(ts:List Int)(P:Nat)(hP:P≤3)(htp:¬Id tv p)(hti:¬Id tv i):∀(d k:Nat) (H:Hp) (wv:Value) (ws:List (List UInt8)) (n:Nd),k+d=P→NS H p i sp wv tv ws n→Laid H→Vec H 1 tv ts.length (i64s ts) →
  PhA H p i sp wv tv (rdF (List.replicate d .p) ws ts k n) (.exit 1) [.int .i64 (P:Int)] (zat (zaL RR (.pointer (some ⟨p,0,none⟩)) (.int .i64 (P:Int)) (.pointer (some ⟨i,0,none⟩))) [.int .i64 (k:Int)] H)
 |0,k,H,wv,ws,n,hk,h,hL,ht=>by
  have:zaL RR (.pointer (some ⟨p,0,none⟩)) (.int .i64 (P:Int)) (.pointer (some ⟨i,0,none⟩)) [.int .i64 (k:Int)] H=some (.exit 1,[.int .i64 (k:Int)],H):=by
   unfold zaL;have h1:¬((k:Int)<(P:Int)):=by omega
   simp only[qg0,za3,zac,s_br,h1,decide_false,Bool.false_eq_true,if_false]
  rw[zak,this];have hkp:k=P:=by omega
  subst hkp;exact⟨H,wv,rfl,h,fun j q=>q,Frm.refl _ _⟩
 |d+1,k,H,wv,ws,n,hk,h,hL,ht=>by
  rw[replicate_succ,rd_p];have h1:((k:Int)<(P:Int)):=by omega
  have hat:∀{α:Type} (kk:Value→Option α),zcx 3 false 1 (.agg #[.pointer (some ⟨i,2,none⟩),.pointer (some ⟨i,3,none⟩),.pointer (some ⟨i,4,none⟩)]) (.int .i64 (k:Int)) kk=kk (.pointer (some ⟨i,2+k,none⟩)):=fun kk=>by
   match k,(show k<3 by omega) with
   |0,_=>rfl
   |1,_=>rfl
   |2,_=>rfl
  have hn:=h.of (h.rs.part hL hA.p ht htp);cases hf:zlr ts ws with
  |none=>
   rw[hf]at hn;obtain⟨H1,a1,a2⟩:=hn;have:zaL RR (.pointer (some ⟨p,0,none⟩)) (.int .i64 (P:Int)) (.pointer (some ⟨i,0,none⟩)) [.int .i64 (k:Int)] H=some (.ret,[W0 (zcr 3)],H1):=by unfold zaL;simp only[qg0,za3,zac,s_br,h1,decide_true,if_true,zaI,bld3p,hat];rw[zbM a1]
   rw[zak,this];exact⟨H1,rfl,fr_p a2⟩
  |some t=>
   rw[hf]at hn;obtain⟨H1,wv1,a1,a2,a3,a4⟩:=hn;obtain⟨H2,b1,b2,b3⟩:=a2.st (o:=2+k) (v:=.int .i64 t) (m:=setP k n t) rfl rfl (by omega) (zpS k (by omega) n t);have hf2:Frm (fun j=>j=p∨j=i) H H2:=(fr_p a4).trans (fr_i b3) fun j q=>.inl q;have hinc:IntKind.i64.wrap ((k:Int)+1)=((k+1:Nat):Int):=w64 (by omega) (by omega);have:zaL RR (.pointer (some ⟨p,0,none⟩)) (.int .i64 (P:Int)) (.pointer (some ⟨i,0,none⟩)) [.int .i64 (k:Int)] H=some (.next,[.int .i64 ((k+1:Nat):Int)],H2):=by unfold zaL;simp only[qg0,za3,zac,s_br,h1,decide_true,if_true,zaI,bld3p,hat];rw[zbL a1,zbg,b1,zaM,hinc]
   rw[zak,this];dsimp only;refine PhA.from (zo3 hA ts P hP htp hti d (k+1) H2 wv1 ws.tail (setP k n t) (by omega) b2 (hA.laid hL hf2) (ht.keep hf2 fun j hj q=>?_)) hf2 a3;rcases q with rfl|rfl
   ·exact htp hj
   ·exact hti hj
def postF(op:Int):List Fld:=if op=31 then [.n,.w] else if op=32∨op=33 then [.w] else []
def zeV(L:List Nd)(n:Nd):Int:=
 if n.op=14 then wT L (-1) n.b else if n.op=30 then (if wT L (-1) n.a+wT L (-1) n.b>64 then 0 else wT L (-1) n.a+wT L (-1) n.b)
 else if 15≤n.op∧n.op≤29 then wT L (-1) n.a else n.w
def impl(L:List Nd)(q:Nd×List (List UInt8)):Nd×List (List UInt8):=({ q.1 with w:=zeV L q.1 },q.2)
theorem zml{H:Hp}{i:Nat}{cs:List Value}{own:Bool}(h:H.get i=some (.cells cs own))(o:Nat)(v:Value)(hv:cs[o]?=some v):Hp.rdP H (.pointer (some ⟨i,o,none⟩)) 1 false=some v:=by simp[Hp.rdP,Hp.rd,h,zct,hv]
theorem ph3_ok{H:Hp}{p i:Nat}{st f g:Nat}{lim:Int}{L:List Nd}{K:List (ByteArray×Int)}{sl:Value}{wv tv:Value}{ws:List (List UInt8)}{n:Nd}
  (h:NS H p i (.pointer (some ⟨st,0,none⟩)) wv tv ws n) (hA:Away p i) (hL:Laid H) (hS:StF H st lim L K sl f g) (hR:znn L) (ts:List Int) :
  PhA H p i (.pointer (some ⟨st,0,none⟩)) wv tv ((rdF (postF n.op) ws ts (zah n.op).toNat n).map (impl L)) .next [] (ph3 (.pointer (some ⟨p,0,none⟩)) (.pointer (some ⟨i,0,none⟩)) H):=by
 have hop:∀{α:Type} (k:Value→Option α),zal 1 false H (.pointer (some ⟨i,0+0,none⟩)) k=k (.int .i64 n.op):=fun k=>h.ld 0 _ rfl k;have hna:∀{α:Type} (k:Value→Option α),zal 1 false H (.pointer (some ⟨i,0+2,none⟩)) k=k (.int .i64 n.a):=fun k=>h.ld 2 _ rfl k;have hnb:∀{α:Type} (k:Value→Option α),zal 1 false H (.pointer (some ⟨i,0+3,none⟩)) k=k (.int .i64 n.b):=fun k=>h.ld 3 _ rfl k;have hsp:∀{α:Type} (k:Value→Option α),zal 1 false H (.pointer (some ⟨p,0+0,none⟩)) k=k (.pointer (some ⟨st,0,none⟩)):=fun k=>zbe h.rs.rd 0 _ rfl k;have rsp:Hp.rdP H (.pointer (some ⟨p,0+0,none⟩)) 1 false=some (.pointer (some ⟨st,0,none⟩)):=zml h.rs.rd 0 _ rfl;have rnb:Hp.rdP H (.pointer (some ⟨i,0+3,none⟩)) 1 false=some (.int .i64 n.b):=zml h.nd 3 _ rfl;have ba:=wT_bd hR.w n.a;have bb:=wT_bd hR.w n.b;unfold postF ph3;by_cases h31:n.op=31
 ·rw[if_pos h31];have hop':∀{α:Type} (k:Value→Option α),zal 1 false H (.pointer (some ⟨i,0+0,none⟩)) k=k (.int .i64 31):=fun k=>by rw[hop,h31]
  simp only[zaI,hop',zaO,zac,s_br,decide_true,if_true];rw[rd_n _ _ _ _ _ (by omega)];have hn:=h.of (h.rs.number hL hA.p);cases hf:numF ws with
  |none=>
   rw[hf]at hn;obtain⟨H1,a1,a2⟩:=hn;rw[zbM a1];exact⟨H1,rfl,fr_p a2⟩
  |some v=>
   rw[hf]at hn;obtain⟨H1,wv1,a1,a2,a3,a4⟩:=hn;have hb:=numF_bd hf;obtain⟨H2,b1,b2,b3⟩:=a2.st (o:=0+5) (v:=.int .u64 v) (m:={ n with num:=v }) rfl rfl (by decide) rfl;have hf2:Frm (fun j=>j=p∨j=i) H H2:=(fr_p a4).trans (fr_i b3) fun j q=>.inl q;have hcv:∀{α:Type} (k:Value→Option α),zaj .u64 (.int .i64 v) k=k (.int .u64 v):=fun k=>by show k (.int .u64 (IntKind.u64.wrap v))=_;rw[u64 (by omega) (by omega)]
   rw[zbL a1,hcv,b1];dsimp only;rw[rd_w];have hn2:=b2.of (b2.rs.number (hA.laid hL hf2) hA.p);cases hf':numF ws.tail with
   |none=>
    rw[hf']at hn2;obtain⟨H3,c1,c2⟩:=hn2;rw[zbM c1];exact⟨H3,rfl,hf2.trans (fr_p c2) fun j q=>.inl q⟩
   |some u=>
    rw[hf']at hn2;obtain⟨H3,wv3,c1,c2,c3,c4⟩:=hn2;obtain⟨H4,d1,d2,d3⟩:=c2.st (o:=0+1) (v:=.int .i64 u) (m:={ n with num:=v,w:=u }) rfl rfl (by decide) rfl;refine⟨H4,wv3,?_,?_,fun j q=>a3 j (c3 j q),(hf2.trans (fr_p c4) fun j q=>.inl q).trans (fr_i d3) fun j q=>.inl q⟩
    ·rw[zbL c1,d1]
    ·have e:zeV L { n with num:=v,w:=u }=u:=by unfold zeV;rw[if_neg (show ¬n.op=14 by omega),if_neg (show ¬n.op=30 by omega),if_neg (show ¬(15≤n.op∧n.op≤29) by omega)]
     show NS H4 p i _ wv3 tv ws.tail.tail { n with num:=v,w:=zeV L { n with num:=v,w:=u } };rw[e];exact d2
 ·rw[if_neg h31];by_cases h32:n.op=32∨n.op=33
  ·rw[if_pos h32,rd_w];have hn:=h.of (h.rs.number hL hA.p);have hX:∀(X Y:Option Outc),(zau (pBin PP .eql Aa (.int .i64 n.op) (.int .i64 32) fun v94=>zaa v94 fun b95=>br b95 (some (.next,[(.bool true)],H)) (pBin PP .eql Aa (.int .i64 n.op) (.int .i64 33) fun v96=>some (.next,[v96],H))):(Ctl→List Value→Hp→Option Outc)→Option Outc)=fun k=>k .next [.bool true] H:=fun X Y=>by
    funext k;rcases h32 with q|q
    ·simp only[zaO,zac,s_br,q,decide_true,if_true,zap]
    ·simp only[zaO,zac,s_br,q,decide_true,if_true,zap,show ¬((33:Int)=32) from by decide,decide_false,Bool.false_eq_true,if_false]
   have hX:=congrFun (hX none none);simp only[zaI,hop,zaO,zac,s_br,h31,decide_false,Bool.false_eq_true,if_false]at hX ⊢;rw[hX,zaN];simp only[qg0,zac,s_br,if_true];cases hf:numF ws with
   |none=>
    rw[hf]at hn;obtain⟨H1,a1,a2⟩:=hn;rw[zbM a1];exact⟨H1,rfl,fr_p a2⟩
   |some v=>
    rw[hf]at hn;obtain⟨H1,wv1,a1,a2,a3,a4⟩:=hn;obtain⟨H2,b1,b2,b3⟩:=a2.st (o:=0+1) (v:=.int .i64 v) (m:={ n with w:=v }) rfl rfl (by decide) rfl;refine⟨H2,wv1,?_,?_,a3,(fr_p a4).trans (fr_i b3) fun j q=>.inl q⟩
    ·rw[zbL a1,b1]
    ·have e:zeV L { n with w:=v }=v:=by unfold zeV;rw[if_neg (show ¬n.op=14 by omega),if_neg (show ¬n.op=30 by omega),if_neg (show ¬(15≤n.op∧n.op≤29) by omega)]
     show NS H2 p i _ wv1 tv ws.tail { n with w:=zeV L { n with w:=v } };rw[e];exact b2
  ·rw[if_neg h32];have h32a:¬n.op=32:=fun q=>h32 (.inl q);have h32b:¬n.op=33:=fun q=>h32 (.inr q);have fin:∀(w:Int) (X:Option Outc),zeV L n=w→(∀H',(∀(α:Type) (k:Hp→Option α),zao 1 H (.pointer (some ⟨i,0+1,none⟩)) (.int .i64 w) k=k H')→X=some (.next,[],H')) →
     PhA H p i (.pointer (some ⟨st,0,none⟩)) wv tv ((rdF [] ws ts (zah n.op).toNat n).map (impl L)) .next [] X:=fun w X hw hX=>by
    obtain⟨H2,b1,b2,b3⟩:=h.st (o:=0+1) (v:=.int .i64 w) (m:={ n with w:=w }) rfl rfl (by decide) rfl;refine⟨H2,wv,hX H2 b1,?_,fun j q=>q,fr_i b3⟩;rw[hw];exact b2
   simp only[zaI,hop,zaO,zac,s_br,h31,h32a,h32b,decide_false,Bool.false_eq_true,if_false,zap,zaN,qg0];by_cases h14:n.op=14
   ·refine fin (wT L (-1) n.b) _ (by unfold zeV;rw[if_pos h14]) fun H' hs=>?_;simp only[h14,decide_true,if_true,zbg,zaI,hsp,hnb,zae (c40 hS.st hR.len),hs]
   ·by_cases h30:n.op=30
    ·simp only[h14,h30,show ¬((30:Int)=14) from by decide,decide_true,decide_false,Bool.false_eq_true,if_true,if_false,zbg,zaI,hsp,hna,hnb,zae (c40 hS.st hR.len),rsp,rnb,zf6];by_cases hs:wT L (-1) n.a+wT L (-1) n.b>64
     ·have hw:zeV L n=0:=by unfold zeV;rw[if_neg h14,if_pos h30,if_pos hs]
      have hsum:IntKind.i64.wrap (wT L (-1) n.a+wT L (-1) n.b)=wT L (-1) n.a+wT L (-1) n.b:=zaA (by omega) (by omega);have hmm:∀{α:Type} (k:Value→Option α),pMM false [.int .i64 (wT L (-1) n.a+wT L (-1) n.b),.int .i64 65] k=k (.int .i64 65):=fun k=>by
       show k (.int .i64 (if (65:Int)<wT L (-1) n.a+wT L (-1) n.b then 65 else wT L (-1) n.a+wT L (-1) n.b))=_;split
       ·rfl
       ·have:wT L (-1) n.a+wT L (-1) n.b=65:=by omega
        rw[this]
      obtain⟨H2,b1,b2,b3⟩:=h.st (o:=0+1) (v:=.int .i64 65) (m:={ n with w:=65 }) rfl rfl (by decide) rfl;have hld:∀{α:Type} (k:Value→Option α),zal 1 false H2 (.pointer (some ⟨i,0+1,none⟩)) k=k (.int .i64 65):=fun k=>b2.ld 1 _ rfl k;obtain⟨H3,c1,c2,c3⟩:=b2.st (o:=0+1) (v:=.int .i64 0) (m:={ n with w:=0 }) rfl rfl (by decide) rfl;refine⟨H3,wv,?_,?_,fun j q=>q,(fr_i b3).trans (fr_i c3) fun j q=>.inl q⟩
      ·simp only[zaM,hsum,hmm,b1,hld,zci,show ((65:Int)>64) from by decide,decide_true,if_true,c1,zac,s_br]
      ·rw[hw];exact c2
     ·refine fin (wT L (-1) n.a+wT L (-1) n.b) _ (by unfold zeV;rw[if_neg h14,if_pos h30,if_neg hs]) fun H' hst=>?_;obtain⟨H2,b1,b2,b3⟩:=h.st (o:=0+1) (v:=.int .i64 (wT L (-1) n.a+wT L (-1) n.b)) (m:={ n with w:=wT L (-1) n.a+wT L (-1) n.b }) rfl rfl (by decide) rfl;have hHH:H'=H2:=by have e1:=hst Hp some;have e2:=b1 Hp some;rw[e1]at e2;exact Option.some.inj e2
      subst hHH;have hsum:IntKind.i64.wrap (wT L (-1) n.a+wT L (-1) n.b)=wT L (-1) n.a+wT L (-1) n.b:=zaA (by omega) (by omega);have hmm:∀{α:Type} (k:Value→Option α),pMM false [.int .i64 (wT L (-1) n.a+wT L (-1) n.b),.int .i64 65] k=k (.int .i64 (wT L (-1) n.a+wT L (-1) n.b)):=fun k=>by show k (.int .i64 (if (65:Int)<wT L (-1) n.a+wT L (-1) n.b then 65 else wT L (-1) n.a+wT L (-1) n.b))=_;rw[if_neg (by omega)]
      have hld:∀{α:Type} (k:Value→Option α),zal 1 false H' (.pointer (some ⟨i,0+1,none⟩)) k=k (.int .i64 (wT L (-1) n.a+wT L (-1) n.b)):=fun k=>b2.ld 1 _ rfl k;simp only[zaM,hsum,hmm,b1,hld,zci,hs,decide_false,Bool.false_eq_true,if_false,zac,s_br]
    ·have same:∀X:Option Outc,(¬(15≤n.op∧n.op≤29))→X=some (.next,[],H)→PhA H p i (.pointer (some ⟨st,0,none⟩)) wv tv ((rdF [] ws ts (zah n.op).toNat n).map (impl L)) .next [] X:=fun X hq hX=>by
      refine⟨H,wv,hX,?_,fun j q=>q,Frm.refl _ _⟩;have:zeV L n=n.w:=by unfold zeV;rw[if_neg h14,if_neg h30,if_neg hq]
      show NS H p i _ wv tv ws { n with w:=zeV L n };rw[this];exact h
     simp only[h14,h30,decide_false,Bool.false_eq_true,if_false,zcQ,zf5,zac,s_br];by_cases q1:n.op≥15
     ·by_cases q2:n.op≤29
      ·refine fin (wT L (-1) n.a) _ (by unfold zeV;rw[if_neg h14,if_neg h30,if_pos ⟨q1,q2⟩]) fun H' hs=>?_;simp only[q1,q2,decide_true,if_true,zbg,zaI,hsp,hna,zae (c40 hS.st hR.len),hs]
      ·refine same _ (by omega) ?_;simp only[q1,q2,decide_true,decide_false,Bool.false_eq_true,if_true,if_false]
     ·refine same _ (by omega) ?_;simp only[q1,decide_false,Bool.false_eq_true,if_false]
theorem znZ(base:Nat)(hb:0<base):∀(l:List UInt8) (v x:Nat),v≤18446744073709551615→numL base l v=some x→x≤18446744073709551615
 |[],v,x,hv,h=>by cases h;exact hv
 |b::r,v,x,hv,h=>by
  unfold numL at h;split at h
  ·cases h
  ·split at h
   ·cases h
   ·rename_i h1 h2;refine znZ base hb r _ x ?_ h;have hd:(digV b.toNat base).toNat≤15:=by have:=digV_lt b.toNat base;omega
    have hm:v*base≤18446744073709551615-(digV b.toNat base).toNat:=(Nat.le_div_iff_mul_le hb).1 (by omega);omega
theorem numP_lt{l:List UInt8}{x:Nat}(h:numP l=some x):x<18446744073709551616:=by
 unfold numP at h;split at h
 ·split at h
  ·cases h
  ·have:=znZ 16 (by decide) _ _ _ (by omega) h;omega
 ·split at h
  ·cases h
  ·have:=znZ 10 (by decide) _ _ _ (by omega) h;omega
def zg9(n:Nd):Prop:=0≤n.num∧n.num<18446744073709551616
theorem setF_ok{f:Fld}{w:List UInt8}{ts:List Int}{k:Nat}{n m:Nd}(h:setF f w ts k n=some m):m.op=n.op∧(zg9 n→zg9 m):=by
 unfold setF at h;split at h
 ·split at h
  ·cases h;refine⟨setP_op k n _,fun q=>?_⟩;unfold setP;split
   ·exact q
   ·split<;>exact q
  ·cases h
 ·split at h
  ·cases h
  ·rename_i x hx;split at h
   ·cases h;exact⟨rfl,fun _=>⟨Int.natCast_nonneg x,Int.ofNat_lt.2 (numP_lt hx)⟩⟩
   ·cases h
 ·split at h
  ·cases h
  ·cases h;exact⟨rfl,fun q=>q⟩
 ·cases h;exact⟨rfl,fun q=>q⟩
theorem ziI:∀(fs:List Fld) (ws:List (List UInt8)) (ts:List Int) (k:Nat) (n m:Nd) (ws':List (List UInt8)),rdF fs ws ts k n=some (m,ws')→m.op=n.op∧(zg9 n→zg9 m)
 |[],ws,ts,k,n,m,ws',h=>by cases h;exact⟨rfl,fun q=>q⟩
 |f::fs,[],ts,k,n,m,ws',h=>by cases h
 |f::fs,w::ws,ts,k,n,m,ws',h=>by
  rw[zeT]at h;cases hs:setF f w ts k n with
  |none=>rw[hs]at h;cases h
  |some q=>
   rw[hs]at h;have h1:=setF_ok hs;have h2:=ziI fs ws ts _ q m ws' h;exact⟨h2.1.trans h1.1,fun z=>h2.2 (h1.2 z)⟩
def zhu(op:Int):List Fld:=preF op++(List.replicate (zah op).toNat .p++postF op)
def nd0(op:Int):Nd:=⟨op,0,0,0,0,0,⟨#[]⟩⟩
def zqa(ws:List (List UInt8))(ts:List Int)(L:List Nd):Option Nd:=match ws with
 |[]=>none
 |o::r=>match opF o with
  |none=>none
  |some op=>match rdF (zhu (op:Int)) r ts 0 (nd0 (op:Int)) with
   |some (m,[])=>some { m with w:=zeV L m }
   |_=>none
theorem zp2(op:Int):(preF op).count .p=0:=by
 unfold preF;split
 ·rfl
 ·split<;>rfl
def NodeA(H:Hp)(p st f g:Nat)(lim:Int)(L:List Nd)(K:List (ByteArray×Int))(sl wv tv:Value)(r:Option Nd):Prop:=match r with
 |none=>∃H',RR AN [.pointer (some ⟨p,0,none⟩)] H=some (W0 (zcr 3),H')∧Frm (fun j=>j=p∨Foot st f g sl j) H H'
 |some m=>((mkR lim L K m).2.1≠0→∃H',RR AN [.pointer (some ⟨p,0,none⟩)] H=some (W0 (zcr (mkR lim L K m).2.1),H')∧Frm (fun j=>j=p∨Foot st f g sl j) H H') ∧
  ((mkR lim L K m).2.1=0→∃H' wv' sl',RR AN [.pointer (some ⟨p,0,none⟩)] H=some (W1 (.int .i64 (mkR lim L K m).1),H')∧RdS H' p (.pointer (some ⟨st,0,none⟩)) wv' tv []∧StF H' st lim (mkR lim L K m).2.2.1 (mkR lim L K m).2.2.2 sl' f g ∧
   Frm (fun j=>j=p∨Foot st f g sl j) H H'∧(∀j,Foot st f g sl' j→Foot st f g sl j∨H.next≤j)∧(∀j,Id wv' j→Id wv j))
theorem c_node{H:Hp}{p:Nat}{st f g:Nat}{lim:Int}{L:List Nd}{K:List (ByteArray×Int)}{sl:Value}{wv tv:Value}{ws:List (List UInt8)}{ts:List Int}
  (h:RdS H p (.pointer (some ⟨st,0,none⟩)) wv tv ws) (hp:PP.globals.size≤p) (hL:Laid H) (hS:StF H st lim L K sl f g) (hR:znn L) (ht:Vec H 1 tv ts.length (i64s ts)) (htp:¬Id tv p)
  (hfp:¬Foot st f g sl p) (hfw:∀j,Id wv j→¬Foot st f g sl j):NodeA H p st f g lim L K sl wv tv (zqa ws ts L):=by
 have hrun:=zgF E0 rfl (.pointer (some ⟨p,0,none⟩)) H;rw[zgV]at hrun;have wid:∀{H':Hp},Frm (· = p) H H'→Frm (fun j=>j=p∨Foot st f g sl j) H H':=fun k=>k.mono fun j q=>.inl (.inl q);cases ws with
 |nil=>
  rw[zbM h.stop]at hrun;exact⟨H,hrun,Frm.refl _ _⟩
 |cons o r=>
  obtain⟨H1,wv1,a1,a2,a3,a4⟩:=h.next;have hL1:Laid H1:=hL.keep a4 fun j q=>by rw[q];exact hp
  obtain⟨H2,b1,b2⟩:=zoo o H1 hL1;rw[zbL a1]at hrun;have hf2:Frm (· = p) H H2:=a4.trans (b1.mono fun j q=>q.elim) fun j q=>.inl q;unfold zqa;dsimp only;cases ho:opF o with
  |none=>
   rw[ho]at b2;rw[zbM b2]at hrun;exact⟨H2,hrun,wid hf2⟩
  |some op=>
   rw[ho]at b2;have hob:=opF_bd ho;rw[zbL b2,b0]at hrun;dsimp only;let i:=H2.next
   let H3:=H2.new (.cells [.int .i64 0,.int .i64 0,.int .i64 0,.int .i64 0,.int .i64 0,.int .u64 0,.string ⟨#[]⟩] true)
   let n0:Nd:=nd0 (op:Int)
   let H4:=H3.set i (some (.cells n0.cells true))
   have hpi:p≠i:=by have:=h.pl;have:=hf2.next;show p≠H2.next;omega
   have hst7:∀{α:Type} (k:Hp→Option α),zao 7 H3 (.pointer (some ⟨i,0,none⟩)) n0.val k=k H4:=fun k=>by
    have e:H3.wr (.pointer (some ⟨i,0,none⟩)) 7 n0.val=some H4:=by
     have hg:H3.get i=some (.cells [.int .i64 0,.int .i64 0,.int .i64 0,.int .i64 0,.int .i64 0,.int .u64 0,.string ⟨#[]⟩] true):=if_pos rfl;have hw:za8 7 [.int .i64 0,.int .i64 0,.int .i64 0,.int .i64 0,.int .i64 0,.int .u64 0,.string ⟨#[]⟩] 0 n0.val=some n0.cells:=by kernel_rfl
     show (match H3.get i with|some (.cells cs true)=>(match za8 7 cs 0 n0.val with|some cs'=>some (H3.set i (some (.cells cs' true)))|none=>none)|_=>none)=_;rw[hg];dsimp only;rw[hw]
    unfold zao;rw[e]
   have hf24:Frm (fun _=>False) H2 H4:=(zcW _ _ _).trans (zfY H3 i _ (· = i) rfl) fun j q=>.inr (by rw[q];exact Nat.le_refl _);have hf4:Frm (· = p) H H4:=hf2.trans (hf24.mono fun j q=>q.elim) fun j q=>.inl q;have hN:NS H4 p i (.pointer (some ⟨st,0,none⟩)) wv1 tv r n0:=by
    have h2:RdS H2 p (.pointer (some ⟨st,0,none⟩)) wv1 tv r:=a2.keep b1 (fun q=>q) fun _ _ q=>q;refine⟨h2.keep hf24 (fun q=>q) (fun _ _ q=>q),fun q=>?_,hpi,by show (H3.set i _).get i=_;rw[get_set,if_pos rfl],by show H2.next<H2.next+1;omega⟩;have:i<H2.next:=by
     rcases h2.wd with⟨_,e⟩|⟨y,c,pre,rest,own,e,_,_,hlt⟩
     ·rw[e]at q;cases q
     ·rw[e]at q;have e2:y=i:=Option.some.inj q;rw[e2]at hlt;exact hlt
    exact Nat.lt_irrefl _ this
   have hA:Away p i:=⟨hp,by have:=hL.next;have:=hf2.next;show _≤H2.next;omega⟩
   have hti:¬Id tv i:=fun q=>by have:=ht.lt q;have:=hf2.next;have:i=H2.next:=rfl;omega
   have hL4:Laid H4:=hL.keep hf4 fun j q=>by rw[q];exact hp
   have bkk:∀{H':Hp},Frm (fun j=>j=p∨j=i) H4 H'→Frm (· = p) H H':=fun k=>hf4.trans (k.mono fun j q=>.inl q) fun j q=>by
    rcases q with q|q
    ·exact .inl q
    ·right;rw[q];exact hf2.next
   have hpa:∀{α:Type} (k:Value→Hp→Option α),zcI [.int .i64 0,.int .i64 0,.int .i64 0,.int .i64 0,.int .i64 0,.int .u64 0,.string ⟨#[]⟩] H2 k=k (.pointer (some ⟨i,0,none⟩)) H3:=fun k=>rfl;rw[hpa,show (Nd.val ⟨(op:Int),0,0,0,0,0,⟨#[]⟩⟩)=n0.val from rfl,hst7]at hrun;have p1:=ph1_ok hN hA hL4 ts;have hfl:rdF (zhu (op:Int)) r ts 0 n0=match rdF (preF n0.op) r ts 0 n0 with
     |none=>none
     |some (m1,w1)=>match rdF (List.replicate (zah m1.op).toNat .p) w1 ts 0 m1 with
      |none=>none
      |some (m2,w2)=>rdF (postF m2.op) w2 ts (zah m2.op).toNat m2:=by
    unfold zhu;rw[rdF_app,show n0.op=(op:Int) from rfl];cases e1:rdF (preF (op:Int)) r ts 0 n0 with
    |none=>rfl
    |some q1=>
     obtain⟨m1,w1⟩:=q1;have o1:m1.op=(op:Int):=(ziI _ _ _ _ _ _ _ e1).1;dsimp only;rw[rdF_app,zp2,o1,Nat.add_zero];cases e2:rdF (List.replicate (zah (op:Int)).toNat .p) w1 ts 0 m1 with
     |none=>rfl
     |some q2=>
      obtain⟨m2,w2⟩:=q2;have o2:m2.op=(op:Int):=(ziI _ _ _ _ _ _ _ e2).1.trans o1;dsimp only;rw[o2,Nat.zero_add,count_replicate_self]
   show NodeA H p st f g lim L K sl wv tv (match rdF (zhu (op:Int)) r ts 0 n0 with
    |some (m,[])=>some { m with w:=zeV L m }
    |_=>none)
   rw[hfl];have no:zg9 n0:=⟨by show (0:Int)≤0;decide,by show (0:Int)<18446744073709551616;decide⟩
   cases e1:rdF (preF n0.op) r ts 0 n0 with
   |none=>
    rw[e1]at p1;obtain⟨H5,c1,c2⟩:=p1;have c1:ph1 (.pointer (some ⟨p,0,none⟩)) (.pointer (some ⟨i,0,none⟩)) H4=some (.ret,[W0 (zcr 3)],H5):=c1;refine⟨H5,hrun.trans ?_,wid (bkk c2)⟩;show zau (ph1 (.pointer (some ⟨p,0,none⟩)) (.pointer (some ⟨i,0,none⟩)) H4) _=_;rw[c1];rfl
   |some q1=>
    obtain⟨m1,w1⟩:=q1;rw[e1]at p1;obtain⟨H5,wv5,c1,c2,c3,c4⟩:=p1;have g1:=ziI _ _ _ _ _ _ _ e1;have hL5:Laid H5:=hA.laid hL4 c4;have ht5:Vec H5 1 tv ts.length (i64s ts):=ht.keep (bkk c4) fun j hj q=>htp (by rw[q]at hj;exact hj);have hb:=partsT_le m1.op;obtain⟨P,hP⟩:∃P:Nat,zah m1.op=(P:Int):=⟨(zah m1.op).toNat,by omega⟩
    have p2:=zo3 hA ts P (by omega) htp hti P 0 H5 wv5 w1 m1 (by omega) c2 hL5 ht5;have hrun2:RR AN [.pointer (some ⟨p,0,none⟩)] H=_:=hrun;have hop5:∀{α:Type} (k:Value→Option α),zal 1 false H5 (.pointer (some ⟨i,0+0,none⟩)) k=k (.int .i64 m1.op):=fun k=>c2.ld 0 _ rfl k;dsimp only;have hPn:(zah m1.op).toNat=P:=by omega
    rw[hPn];have hrun3:=hrun.trans (show zau (ph1 (.pointer (some ⟨p,0,none⟩)) (.pointer (some ⟨i,0,none⟩)) H4) _=_ by rw[c1,zap,zaN,zaI,hop5,zae (c29 m1.op H5),hP]);have p2':PhA H5 p i (.pointer (some ⟨st,0,none⟩)) wv5 tv (rdF (List.replicate P .p) w1 ts 0 m1) (.exit 1) [.int .i64 (P:Int)] (zat (zaL RR (.pointer (some ⟨p,0,none⟩)) (.int .i64 (P:Int)) (.pointer (some ⟨i,0,none⟩))) [.int .i64 0] H5):=p2;cases e2:rdF (List.replicate P .p) w1 ts 0 m1 with
    |none=>
     rw[e2]at p2';obtain⟨H6,d1,d2⟩:=p2';refine⟨H6,hrun3.trans ?_,wid (bkk (c4.trans d2 fun j q=>.inl q))⟩;rw[d1];rfl
    |some q2=>
     obtain⟨m2,w2⟩:=q2;rw[e2]at p2';obtain⟨H6,wv6,d1,d2,d3,d4⟩:=p2';have g2:=ziI _ _ _ _ _ _ _ e2;have c46:Frm (fun j=>j=p∨j=i) H4 H6:=c4.trans d4 fun j q=>.inl q;have hL6:Laid H6:=hA.laid hL4 c46;have hS6:StF H6 st lim L K sl f g:=hS.keep (fun j hj=>(bkk c46).same j (hS.foot_lt hj) fun q=>hfp (by rw[q]at hj;exact hj)) (bkk c46).next;have p3:=ph3_ok d2 hA hL6 hS6 hR ts;dsimp only;cases e3:rdF (postF m2.op) w2 ts (zah m2.op).toNat m2 with
     |none=>
      rw[e3]at p3;obtain⟨H7,x1,x2⟩:=p3;have x1:ph3 (.pointer (some ⟨p,0,none⟩)) (.pointer (some ⟨i,0,none⟩)) H6=some (.ret,[W0 (zcr 3)],H7):=x1;refine⟨H7,hrun3.trans ?_,wid (bkk (c46.trans x2 fun j q=>.inl q))⟩;rw[d1,zap,za6,zay];show zau (ph3 (.pointer (some ⟨p,0,none⟩)) (.pointer (some ⟨i,0,none⟩)) H6) _=_;rw[x1];rfl
     |some q3=>
      obtain⟨m3,w3⟩:=q3;rw[e3]at p3;obtain⟨H7,wv7,x1,x2,x3,x4⟩:=p3;have g3:=ziI _ _ _ _ _ _ _ e3;have x1:ph3 (.pointer (some ⟨p,0,none⟩)) (.pointer (some ⟨i,0,none⟩)) H6=some (.next,[],H7):=x1;have c47:Frm (fun j=>j=p∨j=i) H4 H7:=c46.trans x4 fun j q=>.inl q;let m:Nd:={ m3 with w:=zeV L m3 }
      have x2:NS H7 p i (.pointer (some ⟨st,0,none⟩)) wv7 tv w3 m:=x2;have hwv:∀{α:Type} (k:Value→Option α),zal 1 false H7 (.pointer (some ⟨p,0+1,none⟩)) k=k wv7:=fun k=>zbe x2.rs.rd 1 _ rfl k;have hsp:∀{α:Type} (k:Value→Option α),zal 1 false H7 (.pointer (some ⟨p,0+0,none⟩)) k=k (.pointer (some ⟨st,0,none⟩)):=fun k=>zbe x2.rs.rd 0 _ rfl k;have hrun4:=hrun3.trans (show _=_ by rw[d1,zap,za6,zay]);have hrun5:=hrun4.trans (show zau (ph3 (.pointer (some ⟨p,0,none⟩)) (.pointer (some ⟨i,0,none⟩)) H6) _=_ by rw[x1,zap,zaN,zbg,zaI,hwv,x2.rs.wd.len]);cases w3 with
      |cons w w3=>
       refine⟨H7,hrun5.trans ?_,wid (bkk c47)⟩;have hz:(((w::w3).length:Int)>0):=by rw[length_cons];omega
       simp only[zci,hz,decide_true,zac,s_br,if_true,zcm]
      |nil=>
       have hz:¬((([]:List (List UInt8)).length:Int)>0):=by decide
       have hld7:∀{α:Type} (k:Value→Option α),zal 7 true H7 (.pointer (some ⟨i,0,none⟩)) k=k m.val:=fun k=>by
        have e:H7.rdP (.pointer (some ⟨i,0,none⟩)) 7 true=some m.val:=by simp only[Hp.rdP,Hp.rd,x2.nd,zct];kernel_rfl
        unfold zal;rw[e]
       have hS7:StF H7 st lim L K sl f g:=hS.keep (fun j hj=>(bkk c47).same j (hS.foot_lt hj) fun q=>hfp (by rw[q]at hj;exact hj)) (bkk c47).next;have hm:zg9 m:=g3.2 (g2.2 (g1.2 no));obtain⟨H8,sl8,y1,y2⟩:=d22 hS7 hR m hm
       have hrun6:=hrun5.trans (show _=_ by
        simp only[zci,hz,decide_false,zac,s_br,Bool.false_eq_true,if_false,zbg,zaI,hsp,hld7]
        rw[zae y1,x01])
       have hfm:Frm (Foot st f g sl) H7 H8:=⟨y2.next,fun j hj hn=>y2.frame j hj (fun q=>hn (.inl q)) (fun q=>hn (.inr (.inl q))) (fun q=>hn (.inr (.inr (.inl q)))) (fun q=>hn (.inr (.inr (.inr q))))⟩
       have hff:Frm (fun j=>j=p∨Foot st f g sl j) H H8:=(wid (bkk c47)).trans (hfm.mono fun j q=>.inl q) fun j q=>.inl (.inr q);refine⟨fun hne=>⟨H8,hrun6.trans ?_,hff⟩,fun heq=>⟨H8,wv7,sl8,hrun6.trans ?_,?_,y2.st,hff,fun j q=>?_,fun j q=>a3 j (c3 j (d3 j (x3 j q)))⟩⟩
       ·have hne:¬((mkR lim L K m).2.1=0):=hne;simp only[zbt,hne,ne_eq,not_false_eq_true,decide_true,zac,s_br,if_true,zcm];rfl
       ·have e0:¬((mkR lim L K m).2.1≠0):=fun q=>q heq;simp only[zbt,e0,decide_false,zac,s_br,Bool.false_eq_true,if_false];rfl
       ·exact x2.rs.keep hfm hfp fun j hj=>hfw j (a3 j (c3 j (d3 j (x3 j hj))))
       ·rcases q with q|q|q|q
        ·exact .inl (.inl q)
        ·exact .inl (.inr (.inl q))
        ·exact .inl (.inr (.inr (.inl q)))
        ·rcases y2.own j q with z|z
         ·exact .inl (.inr (.inr (.inr z)))
         ·right;have:=(bkk c47).next;omega
structure Reg(B:Nat)(H:Hp)(r:Nat→Nat→Prop):Prop where
 lt:∀a j,r a j→j<H.next
 lo:∀a j,r a j→B≤j
 ap:∀a b j,r a j→r b j→a=b
def InR(S:List Nat)(r:Nat→Nat→Prop)(j:Nat):Prop:=∃a,a∈S∧r a j
theorem Reg.off{B:Nat}{H:Hp}{r:Nat→Nat→Prop}(h:Reg B H r){S:List Nat}{b j:Nat}(hj:r b j)(hb:b∉S):¬InR S r j:=fun⟨a,ha,hr⟩=>hb (h.ap a b j hr hj▸ha)
theorem Reg.upd{B:Nat}{H H':Hp}{r r':Nat→Nat→Prop}(h:Reg B H r)(a:Nat)(hn:H.next≤H'.next)(hg:B≤H.next)(same:∀b j,b≠a→r' b j→r b j)(new:∀j,r' a j→r a j∨(H.next≤j∧j<H'.next)):Reg B H' r':=by
 have key:∀b j,r' b j→r b j∨(b=a∧H.next≤j∧j<H'.next):=fun b j hj=>by
  by_cases e:b=a
  ·subst e;rcases new j hj with q|q
   ·exact .inl q
   ·exact .inr ⟨rfl,q⟩
  ·exact .inl (same b j e hj)
 refine⟨fun b j hj=>?_,fun b j hj=>?_,fun b c j hb hc=>?_⟩
 ·rcases key b j hj with q|⟨_,_,q⟩
  ·exact Nat.lt_of_lt_of_le (h.lt b j q) hn
  ·exact q
 ·rcases key b j hj with q|⟨_,q,_⟩
  ·exact h.lo b j q
  ·omega
 ·rcases key b j hb with q|⟨q,q1,_⟩<;>rcases key c j hc with z|⟨z,z1,_⟩
  ·exact h.ap b c j q z
  ·have:=h.lt b j q;omega
  ·have:=h.lt c j z;omega
  ·rw[q,z]
def LRg(p1 p3 p5 st f g p:Nat)(sl lv tv rv wv:Value):Nat→Nat→Prop
 |0=>fun j=>j=p1
 |1=>fun j=>j=p3
 |2=>fun j=>j=p5
 |3=>Foot st f g sl
 |4=>Id lv
 |5=>fun j=>j=p
 |6=>Id tv
 |7=>Id rv
 |8=>Id wv
 |_=>fun _=>False
structure LS(B:Nat)(H:Hp)(p1 p3 p5 st f g p:Nat)(lim:Int)(lv:Value)(lines:List (List UInt8))(L:List Nd)(K:List (ByteArray×Int))(sl tv:Value)(ts:List Int)(rv:Value)(rs:List Int)(wv:Value)(ws:List (List UInt8)):Prop where
 gB:PP.globals.size≤B
 bn:B≤H.next
 reg:Reg B H (LRg p1 p3 p5 st f g p sl lv tv rv wv)
 b1:H.get p1=some (.cells [.pointer (some ⟨st,0,none⟩)] true)
 b3:H.get p3=some (.cells [rv] true)
 b5:H.get p5=some (.cells [.int .i64 0] true)
 store:StF H st lim L K sl f g
 lin:Vec H 1 lv lines.length (lines.map str)
 rd:RdS H p (.pointer (some ⟨st,0,none⟩)) wv tv ws
 tv:Vec H 1 tv ts.length (i64s ts)
 rv:Vec H 1 rv rs.length (i64s rs)
 laid:Laid H
section
variable {B:Nat}{H H':Hp}{p1 p3 p5 st f g p:Nat}{lim:Int}{lv:Value}{lines:List (List UInt8)}{L:List Nd}{K:List (ByteArray×Int)}{sl tv:Value}{ts:List Int}{rv:Value}{rs:List Int}{wv:Value}{ws:List (List UInt8)}
theorem LS.off(h:LS B H p1 p3 p5 st f g p lim lv lines L K sl tv ts rv rs wv ws)(S:List Nat)(b:Nat)(hb:b∉S){j:Nat}(hj:LRg p1 p3 p5 st f g p sl lv tv rv wv b j):¬InR S (LRg p1 p3 p5 st f g p sl lv tv rv wv) j:=h.reg.off hj hb
theorem LS.lay(h:LS B H p1 p3 p5 st f g p lim lv lines L K sl tv ts rv rs wv ws){S:List Nat}(k:Frm (InR S (LRg p1 p3 p5 st f g p sl lv tv rv wv)) H H'):Laid H':=h.laid.keep k fun j ⟨a,_,q⟩=>Nat.le_trans h.gB (h.reg.lo a j q)
theorem LS.up(h:LS B H p1 p3 p5 st f g p lim lv lines L K sl tv ts rv rs wv ws){S:List Nat}(k:Frm (InR S (LRg p1 p3 p5 st f g p sl lv tv rv wv)) H H'):Frm (B ≤ ·) H H':=k.mono fun j ⟨a,_,q⟩=>.inl (h.reg.lo a j q)
theorem LS.read(h:LS B H p1 p3 p5 st f g p lim lv lines L K sl tv ts rv rs wv ws)(k:Frm (· = p) H H'){wv':Value}{ws':List (List UInt8)}(hr:RdS H' p (.pointer (some ⟨st,0,none⟩)) wv' tv ws')(hw:∀j,Id wv' j→Id wv j∨(H.next≤j∧j<H'.next)) :
  LS B H' p1 p3 p5 st f g p lim lv lines L K sl tv ts rv rs wv' ws':=by
 have k':Frm (InR [5] (LRg p1 p3 p5 st f g p sl lv tv rv wv)) H H':=k.mono fun j q=>.inl ⟨5,by simp,q⟩;have o:∀b j,b∉[5]→LRg p1 p3 p5 st f g p sl lv tv rv wv b j→H'.get j=H.get j:=fun b j hb hj=>k'.same j (h.reg.lt b j hj) (h.off [5] b hb hj)
 refine⟨h.gB,Nat.le_trans h.bn k.next,h.reg.upd 8 k.next h.bn (fun b j hb hj=>?_) fun j hj=>hw j hj,by rw[o 0 p1 (by decide) rfl];exact h.b1,by rw[o 1 p3 (by decide) rfl];exact h.b3,by rw[o 2 p5 (by decide) rfl];exact h.b5,
  h.store.keep (fun j hj=>o 3 j (by decide) hj) k.next,h.lin.keep' (fun j hj=>o 4 j (by decide) hj) k.next,hr,h.tv.keep' (fun j hj=>o 6 j (by decide) hj) k.next,h.rv.keep' (fun j hj=>o 7 j (by decide) hj) k.next,h.lay k'⟩
 match b,hb,hj with
 |0,_,hj=>exact hj
 |1,_,hj=>exact hj
 |2,_,hj=>exact hj
 |3,_,hj=>exact hj
 |4,_,hj=>exact hj
 |5,_,hj=>exact hj
 |6,_,hj=>exact hj
 |7,_,hj=>exact hj
 |8,hb,_=>exact absurd rfl hb
 |n+9,_,hj=>exact hj
theorem LS.grow(h:LS B H p1 p3 p5 st f g p lim lv lines L K sl tv ts rv rs wv ws)(k:Frm (fun j=>j=p∨Foot st f g sl j) H H'){wv':Value}{ws':List (List UInt8)}(hr:RdS H' p (.pointer (some ⟨st,0,none⟩)) wv' tv ws')(hw:∀j,Id wv' j→Id wv j)
  {L':List Nd} {K':List (ByteArray×Int)} {sl':Value} (hs:StF H' st lim L' K' sl' f g) (hf:∀j,Foot st f g sl' j→Foot st f g sl j∨H.next≤j) :
  LS B H' p1 p3 p5 st f g p lim lv lines L' K' sl' tv ts rv rs wv' ws':=by
 have k':Frm (InR [3,5] (LRg p1 p3 p5 st f g p sl lv tv rv wv)) H H':=k.mono fun j q=>.inl (by rcases q with q|q;exact⟨5,by simp,q⟩;exact⟨3,by simp,q⟩);have o:∀b j,b∉[3,5]→LRg p1 p3 p5 st f g p sl lv tv rv wv b j→H'.get j=H.get j:=fun b j hb hj=>k'.same j (h.reg.lt b j hj) (h.off [3,5] b hb hj)
 have r1:Reg B H' (LRg p1 p3 p5 st f g p sl' lv tv rv wv):=h.reg.upd 3 k.next h.bn (fun b j hb hj=>by
  match b,hb,hj with
  |0,_,hj=>exact hj
  |1,_,hj=>exact hj
  |2,_,hj=>exact hj
  |3,hb,_=>exact absurd rfl hb
  |4,_,hj=>exact hj
  |5,_,hj=>exact hj
  |6,_,hj=>exact hj
  |7,_,hj=>exact hj
  |8,_,hj=>exact hj
  |n+9,_,hj=>exact hj) fun j hj=>(hf j hj).imp id fun q=>⟨q,hs.foot_lt hj⟩
 have r2:Reg B H' (LRg p1 p3 p5 st f g p sl' lv tv rv wv'):=r1.upd 8 (Nat.le_refl _) (Nat.le_trans h.bn k.next) (fun b j hb hj=>by
  match b,hb,hj with
  |0,_,hj=>exact hj
  |1,_,hj=>exact hj
  |2,_,hj=>exact hj
  |3,_,hj=>exact hj
  |4,_,hj=>exact hj
  |5,_,hj=>exact hj
  |6,_,hj=>exact hj
  |7,_,hj=>exact hj
  |8,hb,_=>exact absurd rfl hb
  |n+9,_,hj=>exact hj) fun j hj=>.inl (hw j hj)
 exact⟨h.gB,Nat.le_trans h.bn k.next,r2,by rw[o 0 p1 (by decide) rfl];exact h.b1,by rw[o 1 p3 (by decide) rfl];exact h.b3,by rw[o 2 p5 (by decide) rfl];exact h.b5,
  hs,h.lin.keep' (fun j hj=>o 4 j (by decide) hj) k.next,hr,h.tv.keep' (fun j hj=>o 6 j (by decide) hj) k.next,h.rv.keep' (fun j hj=>o 7 j (by decide) hj) k.next,h.lay k'⟩
theorem zld{α:Type}(z x:Int)(H:Hp)(k:Value→Hp→Option α):zam 1 [.int .i64 z] 1 [(0,.int .i64 x)] H k=k (.slice (some ⟨H.next,0,some 1⟩) 1 1) (H.new (.cells [.int .i64 x] true)):=by
 have:zb0 1 [.int .i64 z] 1 [(0,.int .i64 x)] H=some (.slice (some ⟨H.next,0,some 1⟩) 1 1,H.new (.cells [.int .i64 x] true)):=by unfold zb0;rw[if_neg (by decide)];rfl
 unfold zam;rw[this]
theorem zfv{cs:List Value}{o:Nat}{v:Value}{i:Nat}(hg:H.get i=some (.cells cs true))(hc:zab v=[v])(h1:one v=true)(ho:o<cs.length){α:Type}(k:Hp→Option α) :
  zao 1 H (.pointer (some ⟨i,o,none⟩)) v k=k (H.set i (some (.cells (spl cs o [v]) true))):=by
 have hw:za8 1 cs o v=some (spl cs o [v]):=by unfold za8;rw[hc,if_pos ⟨rfl,by omega,by simp[h1]⟩]
 have:H.wr (.pointer (some ⟨i,o,none⟩)) 1 v=some (H.set i (some (.cells (spl cs o [v]) true))):=by show (match H.get i with|some (.cells cs true)=>(match za8 1 cs o v with|some cs'=>some (H.set i (some (.cells cs' true)))|none=>none)|_=>none)=_;rw[hg];dsimp only;rw[hw]
 unfold zao;rw[this]
theorem zdQ{sz:Nat}{v:Value}{n:Nat}{cs:List Value}(h:Vec H sz v n cs):zab v=[v]∧one v=true:=by rcases h with⟨_,_,rfl⟩|⟨y,c,rest,rfl,_⟩<;>exact⟨rfl,rfl⟩
theorem zoy{v:Value}{l:List Int}(h:Vec H 1 v l.length (i64s l))(hl:l.length≤2^40)(x z:Int) :
  ∃v' H',(∀(α:Type) (k:Value→Hp→Option α),zaJ 1 8 v (.slice (some ⟨H.next,0,some 1⟩) 1 1) (H.new (.cells [.int .i64 x] true)) k=k v' H')∧Vec H' 1 v' (l++[x]).length (i64s (l++[x]))∧Frm (Id v) H H'∧(∀j,Id v' j→Id v j∨(H.next≤j∧j<H'.next)):=by
 obtain⟨v',H',h1,h2,h3,h4,_⟩:=h.push (bytes:=8) (zs:=[.int .i64 z]) (x:=.int .i64 x) (by omega) (by omega) rfl rfl rfl (by omega);refine⟨v',H',fun α k=>?_,?_,h3,fun j hj=>(h4 j hj).imp id fun q=>⟨q,h2.lt hj⟩⟩
 ·have:=h1 α k;rw[zld]at this;exact this
 ·have e:i64s (l++[x])=i64s l++zab (.int .i64 x):=by simp[i64s,zab,Value.cells]
  rw[length_append,e];exact h2
theorem LS.root(h:LS B H p1 p3 p5 st f g p lim lv lines L K sl tv ts rv rs wv ws)(hl:rs.length≤2^40)(x z:Int) :
  ∃rv' H',(∀(α:Type) (k:Hp→Option α),(zam 1 [.int .i64 z] 1 [(0,.int .i64 x)] H fun v88 H89=>chk (Hp.rdP H89 (.pointer (some ⟨p3,0,none⟩)) 1 false=some rv) (zaJ 1 8 rv v88 H89 fun v90 H91=>zao 1 H91 (.pointer (some ⟨p3,0,none⟩)) v90 k))=k H') ∧
   LS B H' p1 p3 p5 st f g p lim lv lines L K sl tv ts rv' (rs++[x]) wv ws∧Frm (InR [1,7] (LRg p1 p3 p5 st f g p sl lv tv rv wv)) H H'∧(∀j,Id rv' j→Id rv j∨H.next≤j):=by
 obtain⟨rv',H1,a1,a2,a3,a4⟩:=zoy h.rv hl x z;have hp3:p3<H.next:=h.reg.lt 1 p3 rfl;have n3:¬Id rv p3:=fun q=>by have:=h.reg.ap 1 7 p3 rfl q;omega
 have g3:H1.get p3=some (.cells [rv] true):=by rw[a3.same p3 hp3 n3];exact h.b3
 have n3':¬Id rv' p3:=fun q=>by
  rcases a4 p3 q with z|z
  ·exact n3 z
  ·omega
 have f2:Frm (· = p3) H1 (H1.set p3 (some (.cells [rv'] true))):=zfY _ _ _ _ rfl;have k':Frm (InR [1,7] (LRg p1 p3 p5 st f g p sl lv tv rv wv)) H (H1.set p3 (some (.cells [rv'] true))):=(a3.mono fun j q=>.inl ⟨7,by simp,q⟩).trans (f2.mono fun j q=>.inl q) fun j q=>.inl ⟨1,by simp,q⟩;have o:∀b j,b∉[1,7]→LRg p1 p3 p5 st f g p sl lv tv rv wv b j→(H1.set p3 (some (.cells [rv'] true))).get j=H.get j:=fun b j hb hj=>k'.same j (h.reg.lt b j hj) (h.off [1,7] b hb hj)
 have r1:Reg B (H1.set p3 (some (.cells [rv'] true))) (LRg p1 p3 p5 st f g p sl lv tv rv' wv):=h.reg.upd 7 k'.next h.bn (fun b j hb hj=>by
  match b,hb,hj with
  |0,_,hj=>exact hj
  |1,_,hj=>exact hj
  |2,_,hj=>exact hj
  |3,_,hj=>exact hj
  |4,_,hj=>exact hj
  |5,_,hj=>exact hj
  |6,_,hj=>exact hj
  |7,hb,_=>exact absurd rfl hb
  |8,_,hj=>exact hj
  |n+9,_,hj=>exact hj) a4
 refine⟨rv',H1.set p3 (some (.cells [rv'] true)),fun α k=>?_,⟨h.gB,Nat.le_trans h.bn k'.next,r1,by rw[o 0 p1 (by decide) rfl];exact h.b1,by rw[get_set,if_pos rfl],by rw[o 2 p5 (by decide) rfl];exact h.b5,
  h.store.keep (fun j hj=>o 3 j (by decide) hj) k'.next,h.lin.keep' (fun j hj=>o 4 j (by decide) hj) k'.next,h.rd.keep k' (h.off [1,7] 5 (by decide) rfl) fun j hj=>h.off [1,7] 8 (by decide) hj,
  h.tv.keep' (fun j hj=>o 6 j (by decide) hj) k'.next,a2.keep f2 fun j hj e=>n3' (by rw[e]at hj;exact hj),h.lay k'⟩,k',fun j hj=>(a4 j hj).imp id fun q=>q.1⟩
 rw[zld];have hrd:Hp.rdP (H.new (.cells [.int .i64 x] true)) (.pointer (some ⟨p3,0,none⟩)) 1 false=some rv:=zml (own:=true) (cs:=[rv]) (by rw[get_new,if_neg (by omega)];exact h.b3) 0 rv rfl;rw[zf6 hrd,a1];exact zfv g3 (zdQ a2).1 (zdQ a2).2 (by show 0<1;decide) k
theorem LS.term(h:LS B H p1 p3 p5 st f g p lim lv lines L K sl tv ts rv rs wv ws)(hl:ts.length≤2^40)(x z:Int) :
  ∃tv' H',(∀(α:Type) (k:Hp→Option α),(zam 1 [.int .i64 z] 1 [(0,.int .i64 x)] H fun v88 H89=>zaJ 1 8 tv v88 H89 fun v90 H91=>zao 1 H91 (.pointer (some ⟨p,0+2,none⟩)) v90 k)=k H') ∧
   LS B H' p1 p3 p5 st f g p lim lv lines L K sl tv' (ts++[x]) rv rs wv ws∧Frm (InR [5,6] (LRg p1 p3 p5 st f g p sl lv tv rv wv)) H H'∧(∀j,Id tv' j→Id tv j∨H.next≤j):=by
 obtain⟨tv',H1,a1,a2,a3,a4⟩:=zoy h.tv hl x z;have hp:p<H.next:=h.reg.lt 5 p rfl;have n3:¬Id tv p:=fun q=>by have:=h.reg.ap 5 6 p rfl q;omega
 have g3:H1.get p=some (.cells [.pointer (some ⟨st,0,none⟩),wv,tv] true):=by rw[a3.same p hp n3];exact h.rd.rd
 have n3':¬Id tv' p:=fun q=>by
  rcases a4 p q with z|z
  ·exact n3 z
  ·omega
 let H2:=H1.set p (some (.cells [.pointer (some ⟨st,0,none⟩),wv,tv'] true))
 have f2:Frm (· = p) H1 H2:=zfY _ _ _ _ rfl;have k':Frm (InR [5,6] (LRg p1 p3 p5 st f g p sl lv tv rv wv)) H H2:=(a3.mono fun j q=>.inl ⟨6,by simp,q⟩).trans (f2.mono fun j q=>.inl q) fun j q=>.inl ⟨5,by simp,q⟩;have o:∀b j,b∉[5,6]→LRg p1 p3 p5 st f g p sl lv tv rv wv b j→H2.get j=H.get j:=fun b j hb hj=>k'.same j (h.reg.lt b j hj) (h.off [5,6] b hb hj)
 have r1:Reg B H2 (LRg p1 p3 p5 st f g p sl lv tv' rv wv):=h.reg.upd 6 k'.next h.bn (fun b j hb hj=>by
  match b,hb,hj with
  |0,_,hj=>exact hj
  |1,_,hj=>exact hj
  |2,_,hj=>exact hj
  |3,_,hj=>exact hj
  |4,_,hj=>exact hj
  |5,_,hj=>exact hj
  |6,hb,_=>exact absurd rfl hb
  |7,_,hj=>exact hj
  |8,_,hj=>exact hj
  |n+9,_,hj=>exact hj) a4
 refine⟨tv',H2,fun α k=>?_,⟨h.gB,Nat.le_trans h.bn k'.next,r1,by rw[o 0 p1 (by decide) rfl];exact h.b1,by rw[o 1 p3 (by decide) rfl];exact h.b3,by rw[o 2 p5 (by decide) rfl];exact h.b5,
  h.store.keep (fun j hj=>o 3 j (by decide) hj) k'.next,h.lin.keep' (fun j hj=>o 4 j (by decide) hj) k'.next,
  ⟨by show (H1.set p _).get p=_;rw[get_set,if_pos rfl],h.rd.wd.keep k' fun j hj=>h.off [5,6] 8 (by decide) hj,h.rd.wp,Nat.lt_of_lt_of_le hp k'.next,h.rd.sh⟩,
  a2.keep f2 fun j hj e=>n3' (by rw[e]at hj;exact hj),h.rv.keep' (fun j hj=>o 7 j (by decide) hj) k'.next,h.lay k'⟩,k',fun j hj=>(a4 j hj).imp id fun q=>q.1⟩
 rw[zld,a1];exact zfv g3 (zdQ a2).1 (zdQ a2).2 (by show 2<3;decide) k
end
def zd9(ts:List Int):List (List UInt8)→Option (List Int)
 |[]=>some []
 |w::r=>match zlr ts (w::r) with
  |none=>none
  |some t=>match zd9 ts r with
   |none=>none
   |some l=>some (t::l)
theorem zkc{B:Nat}{p1 p3 p5 st f g p:Nat}{lim:Int}{lv:Value}{lines:List (List UInt8)}{L:List Nd}{K:List (ByteArray×Int)}{sl tv:Value}{ts:List Int}(lineV:Value):∀(ws:List (List UInt8)) (H:Hp) (rv:Value) (rs:List Int) (wv:Value),LS B H p1 p3 p5 st f g p lim lv lines L K sl tv ts rv rs wv ws→rs.length+ws.length≤2^40 →
  match zd9 ts ws with
  |none=>∃H' rv',zat (zbm RR lineV (.pointer (some ⟨p3,0,none⟩)) (.pointer (some ⟨p,0,none⟩))) [] H=some (.ret,[W0 (.tuple #[zcr 3,lineV])],H')∧(H'.get p1=H.get p1∧H'.get p3=some (.cells [rv'] true)∧H'.get p5=H.get p5)∧Frm (B ≤ ·) H H'
  |some l=>∃H' rv' wv',zat (zbm RR lineV (.pointer (some ⟨p3,0,none⟩)) (.pointer (some ⟨p,0,none⟩))) [] H=some (.exit 2,[],H')∧LS B H' p1 p3 p5 st f g p lim lv lines L K sl tv ts rv' (rs++l) wv' []∧Frm (B ≤ ·) H H'
 |[],H,rv,rs,wv,h,hl=>by
  have hw:=fun (α:Type) (k:Value→Option α)=>zbe h.rd.rd (0+1) wv rfl k;have this:zbm RR lineV (.pointer (some ⟨p3,0,none⟩)) (.pointer (some ⟨p,0,none⟩)) [] H=some (.exit 2,[],H):=by
   unfold zbm;have h1:¬(((([]:List (List UInt8)).length:Nat):Int)>0):=by decide
   simp only[zbg,zaI,hw,h.rd.wd.len,zci,h1,decide_false,zac,s_br,Bool.false_eq_true,if_false]
  refine⟨H,rv,wv,by rw[zak,this];rfl,by rw[append_nil];exact h,Frm.refl _ _⟩
 |w::r,H,rv,rs,wv,h,hl=>by
  have hw:=fun (α:Type) (k:Value→Option α)=>zbe h.rd.rd (0+1) wv rfl k;have h1:((((w::r).length:Nat):Int)>0):=by rw[length_cons];omega
  have hr3:=fun (α:Type) (k:Value→Option α)=>zbe h.b3 0 rv rfl k;have hn:=h.rd.part h.laid (Nat.le_trans h.gB (h.reg.lo 5 p rfl)) h.tv (fun q=>by have:=h.reg.ap 5 6 p rfl q;omega);rw[length_cons]at hl;unfold zd9;cases hp:zlr ts (w::r) with
  |none=>
   rw[hp]at hn;obtain⟨H1,a1,a2⟩:=hn;have k':Frm (InR [5] (LRg p1 p3 p5 st f g p sl lv tv rv wv)) H H1:=a2.mono fun j q=>.inl ⟨5,by simp,q⟩;have o:∀b j,b∉[5]→LRg p1 p3 p5 st f g p sl lv tv rv wv b j→H1.get j=H.get j:=fun b j hb hj=>k'.same j (h.reg.lt b j hj) (h.off [5] b hb hj);have this:zbm RR lineV (.pointer (some ⟨p3,0,none⟩)) (.pointer (some ⟨p,0,none⟩)) [] H=some (.ret,[W0 (.tuple #[zcr 3,lineV])],H1):=by unfold zbm;simp only[zbg,zaI,hw,h.rd.wd.len,zci,h1,decide_true,zac,s_br,if_true,hr3];rw[zbM a1]
   exact⟨H1,rv,by rw[zak,this];rfl,⟨o 0 p1 (by decide) rfl,by rw[o 1 p3 (by decide) rfl];exact h.b3,o 2 p5 (by decide) rfl⟩,h.up k'⟩
  |some t=>
   rw[hp]at hn;obtain⟨H1,wv1,a1,a2,a3,a4⟩:=hn;have h2:=h.read a4 a2 fun j q=>.inl (a3 j q);obtain⟨rv2,H2,b1,b2,b3,b4⟩:=h2.root (by omega) t 0;have this:zbm RR lineV (.pointer (some ⟨p3,0,none⟩)) (.pointer (some ⟨p,0,none⟩)) [] H=some (.next,[],H2):=by unfold zbm;simp only[zbg,zaI,hw,h.rd.wd.len,zci,h1,decide_true,zac,s_br,if_true,hr3];rw[zbL a1,zf6 (zml h2.b3 0 rv rfl),b1]
   have f2:Frm (B ≤ ·) H H2:=(h.up (S:=[5]) (a4.mono fun j q=>.inl ⟨5,by simp,q⟩)).trans (h2.up b3) fun j q=>.inl q;have back2:∀{H':Hp},Frm (B ≤ ·) H2 H'→Frm (B ≤ ·) H H':=fun k=>f2.trans k fun j q=>.inl q;have ih:=zkc lineV r H2 rv2 (rs++[t]) wv1 b2 (by rw[length_append];simp;omega);dsimp only;have hk1:H2.get p1=H.get p1:=by rw[b2.b1,h.b1]
   have hk5:H2.get p5=H.get p5:=by rw[b2.b5,h.b5]
   cases hq:zd9 ts r with
   |none=>
    rw[hq]at ih;obtain⟨H3,rv3,c1,⟨c2,c3,c4⟩,c5⟩:=ih;refine⟨H3,rv3,?_,⟨c2.trans hk1,c3,c4.trans hk5⟩,back2 c5⟩;rw[zak,this];exact c1
   |some l=>
    rw[hq]at ih;obtain⟨H3,rv3,wv3,c1,c2,c5⟩:=ih;refine⟨H3,rv3,wv3,?_,?_,back2 c5⟩
    ·rw[zak,this];exact c1
    ·rw[append_assoc]at c2;exact c2
theorem words_sh{l:List UInt8}(hl:l.length≤2^40):∀w∈zbO l,w.length≤2^40:=fun w hw=>by
 unfold zbO at hw;obtain⟨q,_,rfl⟩:=mem_map.1 hw;have h:(zdP l q).length≤l.length:=by unfold zdP;rw[length_drop,length_take];omega
 omega
section
variable {B:Nat}{H H':Hp}{p1 p3 p5 st f g p:Nat}{lim:Int}{lv:Value}{lines:List (List UInt8)}{L:List Nd}{K:List (ByteArray×Int)}{sl tv:Value}{ts:List Int}{rv:Value}{rs:List Int}{wv:Value}{ws:List (List UInt8)}
theorem LS.words(h:LS B H p1 p3 p5 st f g p lim lv lines L K sl tv ts rv rs wv ws){l:List UInt8}(hl:l.length≤2^40) :
  ∃v H1 H2,RR AK [str l,spF] H=some (v,H1)∧(∀(α:Type) (k:Hp→Option α),zao 1 H1 (.pointer (some ⟨p,0+1,none⟩)) v k=k H2)∧LS B H2 p1 p3 p5 st f g p lim lv lines L K sl tv ts rv rs v (zbO l)∧Frm (B ≤ ·) H H2:=by
 obtain⟨v,H1,a1,a2,a3,a4⟩:=c_fields l hl H;have g1:H1.get p=some (.cells [.pointer (some ⟨st,0,none⟩),wv,tv] true):=by rw[a3.same p h.rd.pl fun q=>q];exact h.rd.rd
 let H2:=H1.set p (some (.cells [.pointer (some ⟨st,0,none⟩),v,tv] true))
 have f2:Frm (· = p) H1 H2:=zfY _ _ _ _ rfl;have k':Frm (· = p) H H2:=(a3.mono fun j q=>q.elim).trans f2 fun j q=>.inl q;have hvp:¬Id v p:=fun q=>by have:=a4 p q;have:=h.rd.pl;omega
 have hr:RdS H2 p (.pointer (some ⟨st,0,none⟩)) v tv (zbO l):=⟨by show (H1.set p _).get p=_;rw[get_set,if_pos rfl],(Vec.wds a2).keep f2 fun j hj e=>hvp (by rw[e]at hj;exact hj),hvp,Nat.lt_of_lt_of_le h.rd.pl k'.next,words_sh hl⟩
 have h2:=h.read k' hr fun j hj=>.inr ⟨a4 j hj,Nat.lt_of_lt_of_le (a2.lt hj) f2.next⟩;exact⟨v,H1,H2,a1,fun α k=>zfv g1 (zdQ a2).1 (zdQ a2).2 (by show 1<3;decide) k,h2,h.up (S:=[5]) (k'.mono fun j q=>.inl ⟨5,by simp,q⟩)⟩
end
def zhF:List UInt8:=[114,111,111,116,115]
def zoa(ws:List (List UInt8))(ts:List Int)(L:List Nd):Option Nd:=match numF ws with
 |none=>none
 |some v=>if v=((ts.length+1:Nat):Int) then zqa ws.tail ts L else none
def Gone(H:Hp)(p1 p3 p5 st:Nat):Prop:=H.get p1=some (.cells [.pointer (some ⟨st,0,none⟩)] true)∧(∃rv,H.get p3=some (.cells [rv] true))∧H.get p5=some (.cells [.int .i64 0] true)
section
variable {B:Nat}{H H':Hp}{p1 p3 p5 st f g p:Nat}{lim:Int}{lv:Value}{lines:List (List UInt8)}{L:List Nd}{K:List (ByteArray×Int)}{sl tv:Value}{ts:List Int}{rv:Value}{rs:List Int}{wv:Value}{ws:List (List UInt8)}
theorem LS.gone(h:LS B H p1 p3 p5 st f g p lim lv lines L K sl tv ts rv rs wv ws):Gone H p1 p3 p5 st:=⟨h.b1,⟨rv,h.b3⟩,h.b5⟩
theorem LS.goneF(h:LS B H p1 p3 p5 st f g p lim lv lines L K sl tv ts rv rs wv ws){S:List Nat}(k:Frm (InR S (LRg p1 p3 p5 st f g p sl lv tv rv wv)) H H')(h0:0∉S)(h1:1∉S)(h2:2∉S):Gone H' p1 p3 p5 st:=by have o:∀b j,b∉S→LRg p1 p3 p5 st f g p sl lv tv rv wv b j→H'.get j=H.get j:=fun b j hb hj=>k.same j (h.reg.lt b j hj) (h.off S b hb hj);exact⟨by rw[o 0 p1 h0 rfl];exact h.b1,⟨rv,by rw[o 1 p3 h1 rfl];exact h.b3⟩,by rw[o 2 p5 h2 rfl];exact h.b5⟩
def StepF(B:Nat)(H:Hp)(p1 p3 p5 st:Nat)(e:Int)(i:Nat)(X:Option Outc):Prop:=∃H',X=some (.ret,[W0 (.tuple #[zcr e,.int .i64 ((i+1:Nat):Int)])],H')∧Gone H' p1 p3 p5 st∧Frm (B ≤ ·) H H'
theorem zpq(h:LS B H p1 p3 p5 st f g p lim lv lines L K sl tv ts rv rs wv ws){i:Nat}{l:List UInt8}(hi:lines[i]?=some l)(hl:l.length≤2^40)(hn:lines.length≤2^40)(x0:Value)(en:Bool)(hb:en=true∨zbO l=[]) :
  StepF B H p1 p3 p5 st 3 i (zaW RR (.int .i64 (lines.length:Int)) (.pointer (some ⟨p3,0,none⟩)) (.pointer (some ⟨p,0,none⟩)) [lv] [x0,.bool en,.int .i64 (i:Int)] H):=by
 have hlt:i<lines.length:=(List.getElem?_eq_some_iff.1 hi).1;obtain⟨y,hy,⟨rest,hg⟩,hix⟩:=h.lin.ix hlt
 have hld:=fun (α:Type) (k:Value→Option α)=>zbe hg (i*1) (str l) (by
  rw[Nat.mul_one,List.getElem?_append_left (by rw[length_map];exact hlt),List.getElem?_map,hi];rfl) k
 obtain⟨v,H1,H2,a1,a2,a3,a4⟩:=h.words hl;have hinc:IntKind.i64.wrap ((i:Int)+1)=((i+1:Nat):Int):=w64 (by omega) (by omega);have h1:((i:Int)<(lines.length:Int)):=by omega
 have hw:=fun (α:Type) (k:Value→Option α)=>zbe a3.rd.rd (0+1) v rfl k;have a1':RR AK [str l,.func (.func AF) #[] #[]] H=some (v,H1):=a1;refine⟨H2,?_,a3.gone,a4⟩;unfold zaW;simp only[qg0,qg1,za3,zac,s_br,h1,decide_true,if_true,hix,hld,zaM,hinc,zae a1',zbg,zaI,a2];cases en with
 |true=>
  simp only[if_true,zcm];rfl
 |false=>
  have he:zbO l=[]:=by
   rcases hb with q|q
   ·cases q
   ·exact q
  have hz:(((zbO l).length:Int)=0):=by rw[he];rfl
  simp only[Bool.false_eq_true,if_false,hw,a3.rd.wd.len,zaO,hz,decide_true,zac,s_br,if_true,zcm];rfl
theorem line_ok(h:LS B H p1 p3 p5 st f g p lim lv lines L K sl tv ts rv rs wv ws){i:Nat}{l:List UInt8}(hi:lines[i]?=some l)(hl:l.length≤2^40)(hn:lines.length≤2^40)(hk:ts.length=i)(hR:znn L)(x0:Value){w0:List UInt8}{r:List (List UInt8)}(hw:zbO l=w0::r)(hr:rs.length+r.length≤2^40){X:Option Outc}
  (hX:zaW RR (.int .i64 (lines.length:Int)) (.pointer (some ⟨p3,0,none⟩)) (.pointer (some ⟨p,0,none⟩)) [lv] [x0,.bool false,.int .i64 (i:Int)] H=X) :
  (w0=zhF→match zd9 ts r with
   |none=>StepF B H p1 p3 p5 st 3 i X
   |some q=>∃H' rv' wv',X=some (.next,[.int .i64 ((i+1:Nat):Int),.bool true,.int .i64 ((i+1:Nat):Int)],H')∧LS B H' p1 p3 p5 st f g p lim lv lines L K sl tv ts rv' (rs++q) wv' []∧Frm (B ≤ ·) H H') ∧
  (w0≠zhF→match zoa (w0::r) ts L with
   |none=>StepF B H p1 p3 p5 st 3 i X
   |some m=>((mkR lim L K m).2.1≠0→StepF B H p1 p3 p5 st (mkR lim L K m).2.1 i X) ∧
    ((mkR lim L K m).2.1=0→∃H' sl' tv' wv',X=some (.next,[.int .i64 ((i+1:Nat):Int),.bool false,.int .i64 ((i+1:Nat):Int)],H')∧LS B H' p1 p3 p5 st f g p lim lv lines (mkR lim L K m).2.2.1 (mkR lim L K m).2.2.2 sl' tv' (ts++[(mkR lim L K m).1]) rv rs wv' []∧Frm (B ≤ ·) H H')):=by
 have hlt:i<lines.length:=(List.getElem?_eq_some_iff.1 hi).1;obtain⟨y,hy,⟨rest,hg⟩,hix⟩:=h.lin.ix hlt
 have hld:=fun (α:Type) (k:Value→Option α)=>zbe hg (i*1) (str l) (by
  rw[Nat.mul_one,List.getElem?_append_left (by rw[length_map];exact hlt),List.getElem?_map,hi];rfl) k
 obtain⟨v,H1,H2,a1,a2,a3,a4⟩:=h.words hl;rw[hw]at a3;have hinc:IntKind.i64.wrap ((i:Int)+1)=((i+1:Nat):Int):=w64 (by omega) (by omega);have h1:((i:Int)<(lines.length:Int)):=by omega
 have hwv:=fun (α:Type) (k:Value→Option α)=>zbe a3.rd.rd (0+1) v rfl k;have a1':RR AK [str l,.func (.func AF) #[] #[]] H=some (v,H1):=a1;obtain⟨v2,hd1,_,_,_⟩:=a3.rd.wd.head;have hq:∀{α:Type} (k:Value→Option α),pBin PP .eql Ac (str w0) (.string ⟨#[114,111,111,116,115]⟩) k=k (.bool (w0==zhF)):=fun k=>zf4 Ac w0 zhF k;have hz:¬((((w0::r).length:Nat):Int)=0):=by rw[length_cons];omega
 unfold zaW at hX;simp only[qg0,qg1,za3,zac,s_br,h1,decide_true,if_true,hix,hld,zaM,hinc,zae a1',zbg,zaI,a2,Bool.false_eq_true,if_false,hwv,a3.rd.wd.len,zaO,hz,decide_false,zap,zaN,hd1,hq]at hX;refine⟨fun hroot=>?_,fun hroot=>?_⟩
 ·have hb:(w0==zhF)=true:=by rw[beq_iff_eq];exact hroot
  rw[if_pos hb]at hX;obtain⟨H3,wv3,b1,b2,b3,b4⟩:=a3.rd.next;have h3:=a3.read b4 b2 fun j q=>.inl (b3 j q);have hf3:Frm (B ≤ ·) H H3:=a4.trans (a3.up (S:=[5]) (b4.mono fun j q=>.inl ⟨5,by simp,q⟩)) fun j q=>.inl q;rw[zbL b1]at hX;have hlp:=zkc (.int .i64 ((i+1:Nat):Int)) r H3 rv rs wv3 h3 hr;cases hq2:zd9 ts r with
  |none=>
   rw[hq2]at hlp;obtain⟨H4,rv4,c1,⟨c2,c3,c4⟩,c5⟩:=hlp;rw[c1]at hX;exact⟨H4,hX.symm,⟨by rw[c2];exact h3.b1,⟨rv4,c3⟩,by rw[c4];exact h3.b5⟩,hf3.trans c5 fun j q=>.inl q⟩
  |some q=>
   rw[hq2]at hlp;obtain⟨H4,rv4,wv4,c1,c2,c5⟩:=hlp;rw[c1,zap,za6,zay]at hX;exact⟨H4,rv4,wv4,hX.symm,c2,hf3.trans c5 fun j q=>.inl q⟩
 ·have hb:(w0==zhF)=false:=by rw[beq_eq_false_iff_ne];exact hroot
  rw[hb,if_neg (by decide)]at hX;have hp:PP.globals.size≤p:=Nat.le_trans a3.gB (a3.reg.lo 5 p rfl);have hnum:=a3.rd.number a3.laid hp;unfold zoa;cases hf:numF (w0::r) with
  |none=>
   rw[hf]at hnum;obtain⟨H3,b1,b2⟩:=hnum;rw[zbM b1]at hX;have k':Frm (InR [5] (LRg p1 p3 p5 st f g p sl lv tv rv v)) H2 H3:=b2.mono fun j q=>.inl ⟨5,by simp,q⟩;exact⟨H3,hX.symm,a3.goneF k' (by decide) (by decide) (by decide),a4.trans (a3.up k') fun j q=>.inl q⟩
  |some z=>
   rw[hf]at hnum;obtain⟨H3,wv3,b1,b2,b3,b4⟩:=hnum;have k3:Frm (InR [5] (LRg p1 p3 p5 st f g p sl lv tv rv v)) H2 H3:=b4.mono fun j q=>.inl ⟨5,by simp,q⟩;have h3:=a3.read b4 b2 fun j q=>.inl (b3 j q);have hf3:Frm (B ≤ ·) H H3:=a4.trans (a3.up k3) fun j q=>.inl q;rw[zbL b1]at hX;dsimp only;by_cases hzi:z=((ts.length+1:Nat):Int)
   ·rw[if_pos hzi];have hzi':z=((i+1:Nat):Int):=by rw[hzi,hk]
    have e0:¬(((i+1:Nat):Int)≠((i+1:Nat):Int)):=fun q=>q rfl;rw[hzi']at hX;simp only[zbt,e0,decide_false,zac,s_br,Bool.false_eq_true,if_false]at hX;have hnode:=c_node h3.rd hp h3.laid h3.store hR h3.tv (fun q=>by have:=h3.reg.ap 5 6 p rfl q;omega) (fun q=>by have:=h3.reg.ap 5 3 p rfl q;omega) fun j hj q=>by have:=h3.reg.ap 8 3 j hj q;omega
    cases hm:zqa (w0::r).tail ts L with
    |none=>
     rw[hm]at hnode;obtain⟨H4,c1,c2⟩:=hnode;rw[zbM c1]at hX;have k4:Frm (InR [3,5] (LRg p1 p3 p5 st f g p sl lv tv rv wv3)) H3 H4:=c2.mono fun j q=>.inl (by rcases q with q|q;exact⟨5,by simp,q⟩;exact⟨3,by simp,q⟩);exact⟨H4,hX.symm,h3.goneF k4 (by decide) (by decide) (by decide),hf3.trans (h3.up k4) fun j q=>.inl q⟩
    |some m=>
     rw[hm]at hnode;dsimp only;refine⟨fun hne=>?_,fun heq=>?_⟩
     ·obtain⟨H4,c1,c2⟩:=hnode.1 hne;rw[zbM c1]at hX;have k4:Frm (InR [3,5] (LRg p1 p3 p5 st f g p sl lv tv rv wv3)) H3 H4:=c2.mono fun j q=>.inl (by rcases q with q|q;exact⟨5,by simp,q⟩;exact⟨3,by simp,q⟩);exact⟨H4,hX.symm,h3.goneF k4 (by decide) (by decide) (by decide),hf3.trans (h3.up k4) fun j q=>.inl q⟩
     ·obtain⟨H4,wv4,sl4,c1,c2,c3,c4,c5,c6⟩:=hnode.2 heq;rw[zbL c1]at hX;have k4:Frm (InR [3,5] (LRg p1 p3 p5 st f g p sl lv tv rv wv3)) H3 H4:=c4.mono fun j q=>.inl (by rcases q with q|q;exact⟨5,by simp,q⟩;exact⟨3,by simp,q⟩);have h4:=h3.grow c4 c2 c6 c3 c5;obtain⟨tv5,H5,d1,d2,d3,d4⟩:=h4.term (by omega) (mkR lim L K m).1 0;have htv:=fun (α:Type) (k:Value→Option α)=>zbe h4.rd.rd (0+2) tv rfl k;simp only[htv,d1]at hX;exact⟨H5,sl4,tv5,wv4,hX.symm,d2,(hf3.trans (h3.up k4) fun j q=>.inl q).trans (h4.up d3) fun j q=>.inl q⟩
   ·rw[if_neg hzi];have hzi':z≠((i+1:Nat):Int):=fun e=>hzi (by rw[e,hk]);simp only[zbt,hzi',ne_eq,not_false_eq_true,decide_true,zac,s_br,if_true,zcm]at hX;exact⟨H3,hX.symm,a3.goneF k3 (by decide) (by decide) (by decide),hf3⟩
end
inductive LdR where
 |bad (line:Nat) (e:Int)
 |good (L:List Nd) (K:List (ByteArray×Int)) (rs:List Int)
def zgj(lim:Int):List (List UInt8)→Nat→List Nd→List (ByteArray×Int)→List Int→LdR
 |[],k,_,_,_=>.bad (k+1) 3
 |l::rest,k,L,K,ts=>match zbO l with
  |[]=>.bad (k+1) 3
  |w0::r=>if w0=zhF then (match zd9 ts r with
    |none=>.bad (k+1) 3
    |some q=>match rest with
     |[]=>.good L K q
     |_::_=>.bad (k+2) 3)
   else match zoa (w0::r) ts L with
    |none=>.bad (k+1) 3
    |some m=>if (mkR lim L K m).2.1≠0 then .bad (k+1) (mkR lim L K m).2.1 else zgj lim rest (k+1) (mkR lim L K m).2.2.1 (mkR lim L K m).2.2.2 (ts++[(mkR lim L K m).1])
theorem mk_le{lim:Int}{L:List Nd}{K:List (ByteArray×Int)}(n:Nd):(mkR lim L K n).2.2.1.length≤L.length+1:=by
 by_cases h0:(mkR lim L K n).2.1=0
 ·obtain⟨_,⟨q,_,e⟩|⟨_,_,e⟩⟩:=zi7 h0<;>rw[e]<;>simp
 ·rw[mk_no h0];simp
def zk0(B:Nat)(H:Hp)(p1 p3 p5 st f g p:Nat)(lim:Int)(lv:Value)(lines:List (List UInt8))(X:Option Outc):LdR→Prop
 |.bad ln e=>∃H',(X=some (.ret,[W0 (.tuple #[zcr e,.int .i64 (ln:Int)])],H')∨(∃a b,X=some (.exit 0,[a,.bool false,b],H')∧e=3∧ln=lines.length+1))∧Gone H' p1 p3 p5 st∧Frm (B ≤ ·) H H'
 |.good L K q=>∃H' a b sl tv rv wv ts,X=some (.exit 0,[a,.bool true,b],H')∧LS B H' p1 p3 p5 st f g p lim lv lines L K sl tv ts rv q wv []∧Frm (B ≤ ·) H H'
theorem zk0.of{B:Nat}{H H1:Hp}{p1 p3 p5 st f g p:Nat}{lim:Int}{lv:Value}{lines:List (List UInt8)}{X:Option Outc}{r:LdR}(h:zk0 B H1 p1 p3 p5 st f g p lim lv lines X r)(k:Frm (B ≤ ·) H H1):zk0 B H p1 p3 p5 st f g p lim lv lines X r:=by
 cases r with
 |bad ln e=>obtain⟨H',h1,h2,h3⟩:=h;exact⟨H',h1,h2,k.trans h3 fun j q=>.inl q⟩
 |good L K q=>obtain⟨H',a,b,sl,tv,rv,wv,ts,h1,h2,h3⟩:=h;exact⟨H',a,b,sl,tv,rv,wv,ts,h1,h2,k.trans h3 fun j q=>.inl q⟩
theorem zkI{B:Nat}{p1 p3 p5 st f g p:Nat}{lim:Int}{lv:Value}{lines:List (List UInt8)}(hn:lines.length≤2^38)(hsh:∀l∈lines,l.length≤2^38):∀(rest:List (List UInt8)) (i:Nat) (H:Hp) (x0:Value) (L:List Nd) (K:List (ByteArray×Int)) (sl tv:Value) (ts:List Int) (rv wv:Value) (ws:List (List UInt8)),
  lines.drop i=rest→i≤lines.length→ts.length=i→L.length≤i→Inv lim L→LS B H p1 p3 p5 st f g p lim lv lines L K sl tv ts rv [] wv ws →
  zk0 B H p1 p3 p5 st f g p lim lv lines (zat (zaW RR (.int .i64 (lines.length:Int)) (.pointer (some ⟨p3,0,none⟩)) (.pointer (some ⟨p,0,none⟩)) [lv]) [x0,.bool false,.int .i64 (i:Int)] H) (zgj lim rest i L K ts)
 |[],i,H,x0,L,K,sl,tv,ts,rv,wv,ws,hr,hi,hk,hL,hI,h=>by
  have hil:i=lines.length:=by have:=congrArg List.length hr;rw[length_drop]at this;simp at this;omega
  have this:zaW RR (.int .i64 (lines.length:Int)) (.pointer (some ⟨p3,0,none⟩)) (.pointer (some ⟨p,0,none⟩)) [lv] [x0,.bool false,.int .i64 (i:Int)] H=some (.exit 0,[x0,.bool false,.int .i64 (i:Int)],H):=by
   unfold zaW;have h1:¬((i:Int)<(lines.length:Int)):=by omega
   simp only[qg0,qg1,za3,zac,s_br,h1,decide_false,Bool.false_eq_true,if_false]
  refine⟨H,.inr ⟨x0,.int .i64 (i:Int),by rw[zak,this];rfl,rfl,by rw[hil]⟩,h.gone,Frm.refl _ _⟩
 |l::rest,i,H,x0,L,K,sl,tv,ts,rv,wv,ws,hr,hi,hk,hL,hI,h=>by
  have hlt:i<lines.length:=by have:=congrArg List.length hr;rw[length_drop]at this;simp at this;omega
  have hget:lines[i]?=some l:=by have:=congrArg (fun x=>x[0]?) hr;simpa using this
  have hr2:lines.drop (i+1)=rest:=by rw[←drop_drop,hr];rfl
  have hll:l.length≤2^38:=hsh l (mem_of_getElem? hget);have hR:znn L:=⟨hI.w,by omega⟩
  unfold zgj;cases hw:zbO l with
  |nil=>
   obtain⟨H',h1,h2,h3⟩:=zpq h hget (by omega) (by omega) x0 false (.inr hw);exact⟨H',.inl (by rw[zak,h1];rfl),h2,h3⟩
  |cons w0 r=>
   have hwl:r.length≤l.length:=by
    have h1:(zbO l).length≤l.length+1:=by unfold zbO;rw[length_map];exact zhc l 0 none
    rw[hw,length_cons]at h1;omega
   have hline:=line_ok h hget (by omega) (by omega) hk hR x0 hw (by show 0+r.length≤_;omega) rfl;dsimp only;by_cases h0:w0=zhF
   ·rw[if_pos h0];have h1:=hline.1 h0;cases hq:zd9 ts r with
    |none=>
     rw[hq]at h1;obtain⟨H',a1,a2,a3⟩:=h1;exact⟨H',.inl (by rw[zak,a1];rfl),a2,a3⟩
    |some q=>
     rw[hq]at h1;obtain⟨H',rv',wv',a1,a2,a3⟩:=h1;have hloop:zat (zaW RR (.int .i64 (lines.length:Int)) (.pointer (some ⟨p3,0,none⟩)) (.pointer (some ⟨p,0,none⟩)) [lv]) [x0,.bool false,.int .i64 (i:Int)] H=zat (zaW RR (.int .i64 (lines.length:Int)) (.pointer (some ⟨p3,0,none⟩)) (.pointer (some ⟨p,0,none⟩)) [lv]) [.int .i64 ((i+1:Nat):Int),.bool true,.int .i64 ((i+1:Nat):Int)] H':=by
      conv=>lhs;rw[zak,a1]
      rfl
     rw[hloop];cases rest with
     |nil=>
      have hil:i+1=lines.length:=by have:=congrArg List.length hr2;rw[length_drop]at this;simp at this;omega
      have this:zaW RR (.int .i64 (lines.length:Int)) (.pointer (some ⟨p3,0,none⟩)) (.pointer (some ⟨p,0,none⟩)) [lv] [.int .i64 ((i+1:Nat):Int),.bool true,.int .i64 ((i+1:Nat):Int)] H'=some (.exit 0,[.int .i64 ((i+1:Nat):Int),.bool true,.int .i64 ((i+1:Nat):Int)],H'):=by
       unfold zaW;have h1:¬(((i+1:Nat):Int)<(lines.length:Int)):=by omega
       simp only[qg0,qg1,za3,zac,s_br,h1,decide_false,Bool.false_eq_true,if_false]
      exact⟨H',_,_,sl,tv,rv',wv',ts,by rw[zak,this];rfl,a2,a3⟩
     |cons l2 rest2=>
      have hget2:lines[i+1]?=some l2:=by have:=congrArg (fun x=>x[0]?) hr2;simpa using this
      have hll2:l2.length≤2^38:=hsh l2 (mem_of_getElem? hget2);obtain⟨H2,b1,b2,b3⟩:=zpq a2 hget2 (by omega) (by omega) (.int .i64 ((i+1:Nat):Int)) true (.inl rfl);exact⟨H2,.inl (by rw[zak,b1];rfl),b2,a3.trans b3 fun j q=>.inl q⟩
   ·rw[if_neg h0];have h1:=hline.2 h0;cases hm:zoa (w0::r) ts L with
    |none=>
     rw[hm]at h1;obtain⟨H',a1,a2,a3⟩:=h1;exact⟨H',.inl (by rw[zak,a1];rfl),a2,a3⟩
    |some m=>
     rw[hm]at h1;dsimp only;by_cases he:(mkR lim L K m).2.1=0
     ·rw[if_neg (fun q=>q he)];obtain⟨H',sl',tv',wv',a1,a2,a3⟩:=h1.2 he;have hloop:zat (zaW RR (.int .i64 (lines.length:Int)) (.pointer (some ⟨p3,0,none⟩)) (.pointer (some ⟨p,0,none⟩)) [lv]) [x0,.bool false,.int .i64 (i:Int)] H=zat (zaW RR (.int .i64 (lines.length:Int)) (.pointer (some ⟨p3,0,none⟩)) (.pointer (some ⟨p,0,none⟩)) [lv]) [.int .i64 ((i+1:Nat):Int),.bool false,.int .i64 ((i+1:Nat):Int)] H':=by
       conv=>lhs;rw[zak,a1]
       rfl
      rw[hloop];have hle:=mk_le (lim:=lim) (L:=L) (K:=K) m;exact(zkI hn hsh rest (i+1) H' _ _ _ sl' tv' _ rv wv' [] hr2 hlt (by rw[length_append,hk];rfl) (by omega) (mk_inv hI) a2).of a3
     ·rw[if_pos he];obtain⟨H',a1,a2,a3⟩:=h1.1 he;exact⟨H',.inl (by rw[zak,a1];rfl),a2,a3⟩
structure T3(H:Hp)(p1 p3 p5:Nat)(a b c:Value):Prop where
 a1:H.get p1=some (.cells [a] true)
 a3:H.get p3=some (.cells [b] true)
 a5:H.get p5=some (.cells [c] true)
 n13:p1≠p3
 n15:p1≠p5
 n35:p3≠p5
def OneV(v:Value):Prop:=zab v=[v]∧one v=true
section
variable {H:Hp}{p1 p3 p5:Nat}{a b c v:Value}
theorem T3.s1(h:T3 H p1 p3 p5 a b c)(hv:OneV v):∃H',(∀(α:Type) (k:Hp→Option α),zao 1 H (.pointer (some ⟨p1,0,none⟩)) v k=k H')∧T3 H' p1 p3 p5 v b c∧Frm (· = p1) H H':=
 ⟨_,fun α k=>zfv h.a1 hv.1 hv.2 (by show 0<1;decide) k,⟨by rw[get_set,if_pos rfl];rfl,by rw[get_set,if_neg (Ne.symm h.n13)];exact h.a3,by rw[get_set,if_neg (Ne.symm h.n15)];exact h.a5,h.n13,h.n15,h.n35⟩,zfY _ _ _ _ rfl⟩
theorem T3.s3(h:T3 H p1 p3 p5 a b c)(hv:OneV v):∃H',(∀(α:Type) (k:Hp→Option α),zao 1 H (.pointer (some ⟨p3,0,none⟩)) v k=k H')∧T3 H' p1 p3 p5 a v c∧Frm (· = p3) H H':=
 ⟨_,fun α k=>zfv h.a3 hv.1 hv.2 (by show 0<1;decide) k,⟨by rw[get_set,if_neg h.n13];exact h.a1,by rw[get_set,if_pos rfl];rfl,by rw[get_set,if_neg (Ne.symm h.n35)];exact h.a5,h.n13,h.n15,h.n35⟩,zfY _ _ _ _ rfl⟩
theorem T3.s5(h:T3 H p1 p3 p5 a b c)(hv:OneV v):∃H',(∀(α:Type) (k:Hp→Option α),zao 1 H (.pointer (some ⟨p5,0,none⟩)) v k=k H')∧T3 H' p1 p3 p5 a b v∧Frm (· = p5) H H':=
 ⟨_,fun α k=>zfv h.a5 hv.1 hv.2 (by show 0<1;decide) k,⟨by rw[get_set,if_neg h.n15];exact h.a1,by rw[get_set,if_neg h.n35];exact h.a3,by rw[get_set,if_pos rfl];rfl,h.n13,h.n15,h.n35⟩,zfY _ _ _ _ rfl⟩
theorem T3.l1(h:T3 H p1 p3 p5 a b c){α:Type}(k:Value→Option α):zal 1 false H (.pointer (some ⟨p1,0,none⟩)) k=k a:=zbe h.a1 0 a rfl k
theorem T3.l3(h:T3 H p1 p3 p5 a b c){α:Type}(k:Value→Option α):zal 1 false H (.pointer (some ⟨p3,0,none⟩)) k=k b:=zbe h.a3 0 b rfl k
theorem T3.l5(h:T3 H p1 p3 p5 a b c){α:Type}(k:Value→Option α):zal 1 false H (.pointer (some ⟨p5,0,none⟩)) k=k c:=zbe h.a5 0 c rfl k
theorem end_ld{fr:Fr}{t1 t2 t3:TypeId}{lv:Value}(h:T3 H p1 p3 p5 a b c)(k:List Value→Option (Value×Hp))(h4:getS fr 4=.val (.pointer (some ⟨p1,0,none⟩)))(h5:getS fr 5=.val (.pointer (some ⟨p3,0,none⟩)))(h7:getS fr 7=.val (.pointer (some ⟨p5,0,none⟩)))
  (y1:∀k:Nat→Bool→Option (Value×Hp),tyC PP t1 k=k 1 false) (y2:∀k:Nat→Bool→Option (Value×Hp),tyC PP t2 k=k 1 false) (y3:∀k:Nat→Bool→Option (Value×Hp),tyC PP t3 k=k 1 false) :
  endL PP fr H [.cell 4 t1,.cell 5 t2,.tmp 6,.cell 7 t3] [lv] k=k [a,b,lv,c]:=by
 unfold endL;rw[y1,h4];unfold sV;dsimp only;rw[h.l1];unfold endL;rw[y2,h5];unfold sV;dsimp only;rw[h.l3];unfold endL;unfold endL;rw[y3,h7];unfold sV;dsimp only;rw[h.l5];rfl
theorem c_caught(h:T3 H p1 p3 p5 a b c)(e:Int):∃H',zcL RR (zcr e) (.pointer (some ⟨p1,0,none⟩)) (.pointer (some ⟨p3,0,none⟩)) (.pointer (some ⟨p5,0,none⟩)) H=some (.tuple #[],H') ∧
  T3 H' p1 p3 p5 (.pointer none) (.slice none 0 0) (.int .i64 e)∧Frm (fun j=>j=p1∨j=p3∨j=p5) H H':=by
 obtain⟨H1,a1,a2,a3⟩:=h.s1 (v:=.pointer none) ⟨rfl,rfl⟩;obtain⟨H2,b1,b2,b3⟩:=a2.s3 (v:=.slice none 0 0) ⟨rfl,rfl⟩;obtain⟨H3,c1,c2,c3⟩:=b2.s5 (v:=.int .i64 e) ⟨rfl,rfl⟩;refine⟨H3,?_,c2,((a3.mono fun j q=>.inl (.inl q)).trans (b3.mono fun j q=>.inl (.inr (.inl q))) fun j q=>.inl q).trans (c3.mono fun j q=>.inl (.inr (.inr q))) fun j q=>.inl q⟩;unfold zcL;have e1:∀{α:Type} (k:Value→Option α),zdW PP .eql Cd (zcr e) k=k (.bool false):=fun k=>rfl;have e2:∀{α:Type} (k:Value→Option α),zgi PP Ae (zcr e) k=k (.agg #[.int .i64 e]):=fun k=>rfl;have e3:∀{α:Type} (k:List Value→Option α),zaV 1 [.int .i64 0] 0 (.agg #[.int .i64 e]) k=k [.int .i64 e]:=fun k=>rfl;have e4:∀{α:Type} (k:Value→Option α),zai 1 false [.int .i64 e] 0 k=k (.int .i64 e):=fun k=>rfl;rw[e1,zac,s_br,if_neg (by decide),e2,e3,e4,a1,b1,c1]
theorem c_calm(x1 x2 x3:Value)(H:Hp):zcL RR .nilIface x1 x2 x3 H=some (.tuple #[],H):=rfl
end
def zdg(l:List UInt8):List (List UInt8):=if (cutB 10 l).getD (l.count 10) []=[] then (cutB 10 l).take (l.count 10) else cutB 10 l
theorem s_wrap0{α:Type}(x:Value)(k kp:Value→Option α):zfj (W0 x) k kp=kp x:=rfl
theorem s_wrap1{α:Type}(x:Value)(k kp:Value→Option α):zfj (W1 x) k kp=k x:=rfl
theorem zjA:∀(l:List UInt8),∀x∈cutB 10 l,x.length≤l.length
 |[],x,hx=>by
  have:x=[]:=by simpa[cutB] using hx
  rw[this];exact Nat.le_refl _
 |b::r,x,hx=>by
  unfold cutB at hx;split at hx
  ·rcases mem_cons.1 hx with q|q
   ·rw[q];exact Nat.zero_le _
   ·have:=zjA r x q;rw[length_cons];omega
  ·split at hx
   ·rename_i h t e;rcases mem_cons.1 hx with q|q
    ·have:=zjA r h (by rw[e];exact mem_cons_self ..);rw[q,length_cons,length_cons];omega
    ·have:=zjA r x (by rw[e];exact mem_cons_of_mem _ q);rw[length_cons];omega
   ·have:x=[b]:=by simpa using hx
    rw[this,length_cons];simp
theorem bldRd(st:Nat){α:Type}(k:Value→Option α):zaB PP Cf [(0,.pointer (some ⟨st,0,none⟩))] k=k (.agg #[.pointer (some ⟨st,0,none⟩),.slice none 0 0,.slice none 0 0]):=by
 have:zg5 PP Cf [(0,.pointer (some ⟨st,0,none⟩))]=some (.agg #[.pointer (some ⟨st,0,none⟩),.slice none 0 0,.slice none 0 0]):=by kernel_rfl
 unfold zaB;rw[this]
def LoadA(H:Hp)(lim:Int)(f:FuncId)(wr:Value→Value)(args:List Value):LdR→Prop
 |.bad ln e=>∃H',RR f args H=some (wr (.tuple #[.pointer none,.slice none 0 0,.int .i64 (ln:Int),.int .i64 e]),H')∧Frm (fun _=>False) H H'
 |.good L K q=>∃H' st fm gm sl rv,RR f args H=some (wr (.tuple #[.pointer (some ⟨st,0,none⟩),rv,.int .i64 0,.int .i64 0]),H')∧StF H' st lim L K sl fm gm∧Vec H' 1 rv q.length (i64s q)∧Frm (fun _=>False) H H' ∧
   (∀j,Foot st fm gm sl j→H.next≤j)∧(∀j,Id rv j→H.next≤j)∧(∀j,Id rv j→¬Foot st fm gm sl j)
theorem zk0.fin{B:Nat}{H:Hp}{p1 p3 p5 st f g p:Nat}{lim:Int}{lv:Value}{lines:List (List UInt8)}{X:Option Outc}{r:LdR}(h:zk0 B H p1 p3 p5 st f g p lim lv lines X r)(hlv:∀{α:Type} (H:Hp) (k:Value→Option α),pLen .sl lv H k=k (.int .i64 (lines.length:Int)))
  (hn:lines.length≤2^38) (n13:p1≠p3) (n15:p1≠p5) (n35:p3≠p5) (b1:B≤p1) (b3:B≤p3) (b5:B≤p5) :
  match r with
  |.bad ln e=>∃H',(zau X fun q121 l122 H123=>zaC q121 none
     (fun i124=>zav i124 0 (
     pLen .sl lv H123 fun v125=>
     pBin PP .add Aa v125 (.int .i64 1) fun v126=>
     pUn .not (l122.getD 1 undef) fun v127=>
     zaa v127 fun b128=>br b128
     (zaB PP Ae [(0,(.int .i64 3))] fun v129=>
     some ((W0 (.tuple #[(.iface Ae v129),v126])),H123))
     (zal 1 false H123 (.pointer (some ⟨p1,0,none⟩)) fun v130=>
     zal 1 false H123 (.pointer (some ⟨p3,0,none⟩)) fun v131=>
     zao 1 H123 (.pointer (some ⟨p1,0,none⟩)) v130 fun H132=>
     chk (Hp.rdP H132 (.pointer (some ⟨p3,0,none⟩)) 1 false=some v131) (
     zao 1 H132 (.pointer (some ⟨p3,0,none⟩)) v131 fun H133=>
     zao 1 H133 (.pointer (some ⟨p5,0,none⟩)) (.int .i64 0) fun H134=>
     zal 1 false H134 (.pointer (some ⟨p1,0,none⟩)) fun v135=>
     zal 1 false H134 (.pointer (some ⟨p3,0,none⟩)) fun v136=>
     zal 1 false H134 (.pointer (some ⟨p5,0,none⟩)) fun v137=>
     some ((W1 (.tuple #[v135,v136,(.int .i64 0),v137])),H134)))) (
     none))
     (some ((l122.headD undef),H123)))=some (W0 (.tuple #[zcr e,.int .i64 (ln:Int)]),H')∧(∃a b c,T3 H' p1 p3 p5 a b c)∧Frm (B ≤ ·) H H'
  |.good L K q=>∃H' sl rv,(zau X fun q121 l122 H123=>zaC q121 none
     (fun i124=>zav i124 0 (
     pLen .sl lv H123 fun v125=>
     pBin PP .add Aa v125 (.int .i64 1) fun v126=>
     pUn .not (l122.getD 1 undef) fun v127=>
     zaa v127 fun b128=>br b128
     (zaB PP Ae [(0,(.int .i64 3))] fun v129=>
     some ((W0 (.tuple #[(.iface Ae v129),v126])),H123))
     (zal 1 false H123 (.pointer (some ⟨p1,0,none⟩)) fun v130=>
     zal 1 false H123 (.pointer (some ⟨p3,0,none⟩)) fun v131=>
     zao 1 H123 (.pointer (some ⟨p1,0,none⟩)) v130 fun H132=>
     chk (Hp.rdP H132 (.pointer (some ⟨p3,0,none⟩)) 1 false=some v131) (
     zao 1 H132 (.pointer (some ⟨p3,0,none⟩)) v131 fun H133=>
     zao 1 H133 (.pointer (some ⟨p5,0,none⟩)) (.int .i64 0) fun H134=>
     zal 1 false H134 (.pointer (some ⟨p1,0,none⟩)) fun v135=>
     zal 1 false H134 (.pointer (some ⟨p3,0,none⟩)) fun v136=>
     zal 1 false H134 (.pointer (some ⟨p5,0,none⟩)) fun v137=>
     some ((W1 (.tuple #[v135,v136,(.int .i64 0),v137])),H134)))) (
     none))
     (some ((l122.headD undef),H123)))=some (W1 (.tuple #[.pointer (some ⟨st,0,none⟩),rv,.int .i64 0,.int .i64 0]),H')∧T3 H' p1 p3 p5 (.pointer (some ⟨st,0,none⟩)) rv (.int .i64 0)∧StF H' st lim L K sl f g∧Vec H' 1 rv q.length (i64s q)∧Frm (B ≤ ·) H H' ∧
     (∀j,Foot st f g sl j→B≤j)∧(∀j,Id rv j→B≤j)∧(∀j,Id rv j→¬Foot st f g sl j):=by
 have w1:∀{H2 H3:Hp} {q:Nat},B≤q→Frm (· = q) H2 H3→Frm (B ≤ ·) H2 H3:=fun hq k=>k.mono fun j e=>.inl (by rw[e];exact hq);cases r with
 |bad ln e=>
  obtain⟨H',h1,⟨g1,⟨rv,g2⟩,g3⟩,h3⟩:=h;refine⟨H',?_,⟨_,_,_,g1,g2,g3,n13,n15,n35⟩,h3⟩;rcases h1 with rfl|⟨a,b,rfl,rfl,rfl⟩
  ·rfl
  ·rw[zap,za6,zay,hlv];have hinc:IntKind.i64.wrap ((lines.length:Int)+1)=((lines.length+1:Nat):Int):=w64 (by omega) (by omega);rw[zaM,hinc];simp only[qg1,qg0,zb9,zac,s_br,Bool.not_false,if_true,zcm]
 |good L K q=>
  obtain⟨H1,a,b,sl,tv,rv,wv,ts,rfl,h2,h3⟩:=h;have t1:T3 H1 p1 p3 p5 (.pointer (some ⟨st,0,none⟩)) rv (.int .i64 0):=⟨h2.b1,h2.b3,h2.b5,n13,n15,n35⟩
  obtain⟨H2,x1,x2,x3⟩:=t1.s1 (v:=.pointer (some ⟨st,0,none⟩)) ⟨rfl,rfl⟩;obtain⟨H3,y1,y2,y3⟩:=x2.s3 (v:=rv) (zdQ h2.rv);obtain⟨H4,z1,z2,z3⟩:=y2.s5 (v:=.int .i64 0) ⟨rfl,rfl⟩;have hf:Frm (fun j=>j=p1∨j=p3∨j=p5) H1 H4:=((x3.mono fun j q=>.inl (.inl q)).trans (y3.mono fun j q=>.inl (.inr (.inl q))) fun j q=>.inl q).trans (z3.mono fun j q=>.inl (.inr (.inr q))) fun j q=>.inl q;have hr:=h2.reg;refine⟨H4,sl,rv,?_,z2,h2.store.keep (fun j hj=>hf.same j (h2.store.foot_lt hj) fun e=>?_) hf.next,h2.rv.keep hf fun j hj e=>?_,h3.trans (hf.mono fun j e=>.inl (by rcases e with e|e|e<;>rw[e]<;>assumption)) fun j e=>.inl e,fun j hj=>hr.lo 3 j hj,fun j hj=>hr.lo 7 j hj,fun j hj e=>by have:=hr.ap 7 3 j hj e;omega⟩
  ·rw[zap,za6,zay,hlv,zaM];simp only[qg1,qg0,zb9,zac,s_br,Bool.not_true,Bool.false_eq_true,if_false,t1.l1,t1.l3,x1];rw[zf6 (zml x2.a3 0 rv rfl),y1,z1,z2.l1,z2.l3,z2.l5]
  ·rcases e with e|e|e
   ·have:=hr.ap 3 0 j hj e;omega
   ·have:=hr.ap 3 1 j hj e;omega
   ·have:=hr.ap 3 2 j hj e;omega
  ·rcases e with e|e|e
   ·have:=hr.ap 7 0 j hj e;omega
   ·have:=hr.ap 7 1 j hj e;omega
   ·have:=hr.ap 7 2 j hj e;omega
theorem cut_last(l:List UInt8):(cutB 10 l)[l.count 10]?=some ((cutB 10 l).getD (l.count 10) []):=by have h:=zg0 10 l;rw[getD_eq_getElem?_getD,List.getElem?_eq_getElem (by omega)];rfl
theorem zpl(l:List UInt8):∀x∈zdg l,x.length≤l.length:=fun x hx=>by
 unfold zdg at hx;split at hx
 ·exact zjA l x (mem_of_mem_take hx)
 ·exact zjA l x hx
theorem zlF(l:List UInt8):(zdg l).length≤l.length+1:=by
 have h:=zg0 10 l;have h2:l.count 10≤l.length:=count_le_length;unfold zdg;split
 ·rw[length_take];omega
 ·omega
theorem LS.start{H0 H12 H13:Hp}{lim:Int}{lv:Value}{lines:List (List UInt8)}(hL:Laid H0)
  (t:T3 H12 H0.next (H0.next+1) (H0.next+2) (.pointer (some ⟨H0.next+5,0,none⟩)) (.slice none 0 0) (.int .i64 0)) (hS:StF H12 (H0.next+5) lim [] [] (.slice none 0 0) (H0.next+3) (H0.next+4)) (n12:H12.next=H0.next+6) (f12:Frm (H0.next ≤ ·) H0 H12)
  (hv:Vec H13 1 lv lines.length (lines.map str)) (f13:Frm (fun _=>False) H12 H13) (hid:∀j,Id lv j→H12.next≤j) :
  LS H0.next (H13.new (.cells [.pointer (some ⟨H0.next+5,0,none⟩),.slice none 0 0,.slice none 0 0] true)) H0.next (H0.next+1) (H0.next+2) (H0.next+5) (H0.next+3) (H0.next+4) H13.next lim lv lines [] [] (.slice none 0 0) (.slice none 0 0) [] (.slice none 0 0) [] (.slice none 0 0) []:=by
 let H14:=H13.new (.cells [.pointer (some ⟨H0.next+5,0,none⟩),.slice none 0 0,.slice none 0 0] true)
 have f14:Frm (fun _=>False) H13 H14:=zcW _ _ _;have ff:Frm (fun _=>False) H12 H14:=f13.trans f14 fun j q=>q.elim;have hn:=f13.next;have o:∀j,j<H0.next+6→H14.get j=H12.get j:=fun j hj=>ff.same j (by omega) fun q=>q;let cl:Nat→Nat:=fun j=>if j=H0.next then 0 else if j=H0.next+1 then 1 else if j=H0.next+2 then 2 else if j<H0.next+6 then 3 else if j<H13.next then 4 else 5
 have key:∀a j,LRg H0.next (H0.next+1) (H0.next+2) (H0.next+5) (H0.next+3) (H0.next+4) H13.next (.slice none 0 0) lv (.slice none 0 0) (.slice none 0 0) (.slice none 0 0) a j→cl j=a∧H0.next≤j∧j<H13.next+1:=fun a j hj=>by
  match a,hj with
  |0,hj=>obtain rfl:j=H0.next:=hj;exact⟨if_pos rfl,by omega,by omega⟩
  |1,hj=>obtain rfl:j=H0.next+1:=hj;exact⟨by show (if _ then _ else _)=_;rw[if_neg (by omega),if_pos rfl],by omega,by omega⟩
  |2,hj=>obtain rfl:j=H0.next+2:=hj;exact⟨by show (if _ then _ else _)=_;rw[if_neg (by omega),if_neg (by omega),if_pos rfl],by omega,by omega⟩
  |3,hj=>
   have hj:j=H0.next+5∨j=H0.next+3∨j=H0.next+4:=zgZ hj;exact⟨by show (if _ then _ else _)=_;rw[if_neg (by omega),if_neg (by omega),if_neg (by omega),if_pos (by omega)],by omega,by omega⟩
  |4,hj=>
   have h1:=hid j hj;have h2:=hv.lt hj;exact⟨by show (if _ then _ else _)=_;rw[if_neg (by omega),if_neg (by omega),if_neg (by omega),if_neg (by omega),if_pos h2],by omega,by omega⟩
  |5,hj=>obtain rfl:j=H13.next:=hj;exact⟨by show (if _ then _ else _)=_;rw[if_neg (by omega),if_neg (by omega),if_neg (by omega),if_neg (by omega),if_neg (by omega)],by omega,by omega⟩
  |6,hj=>cases hj
  |7,hj=>cases hj
  |8,hj=>cases hj
  |n+9,hj=>cases hj
 have hL14:Laid H14:=hL.keep (M:=(H0.next ≤ ·)) (f12.trans (ff.mono fun j q=>q.elim) fun j q=>.inl q) fun j q=>Nat.le_trans hL.next q
 refine⟨hL.next,by show H0.next≤H13.next+1;omega,⟨fun a j hj=>(key a j hj).2.2,fun a j hj=>(key a j hj).2.1,fun a b j ha hb=>by rw[←(key a j ha).1,(key b j hb).1]⟩,by rw[o _ (by omega)];exact t.a1,by rw[o _ (by omega)];exact t.a3,by rw[o _ (by omega)];exact t.a5,
  hS.keep (fun j hj=>o j (by have:=zgZ hj;omega)) ff.next,hv.keep f14 fun _ _ q=>q,⟨if_pos rfl,.inl ⟨rfl,rfl⟩,fun q=>(by cases q),by show H13.next<H13.next+1;omega,fun w hw=>(by cases hw)⟩,Vec.nil _ _,Vec.nil _ _,hL14⟩
theorem n_new(H:Hp)(o:AObj):(H.new o).next=H.next+1:=rfl
theorem zkZ{α:Type}(v:Value)(H:Hp)(k:Value→Hp→Option α):zg6 (some (v,H)) k=k v H:=rfl
theorem c_load{H0:Hp}(hL:Laid H0)(l:List UInt8)(hl:l.length≤2^37){lim:Int}(hlim:¬lim<0):LoadA H0 lim AT W1 [str l,.int .i64 lim] (zgj lim (zdg l) 0 [] [] []):=by
 have hrun:=znC E0 rfl (str l) (.int .i64 lim) H0;rw[zoc]at hrun;let H3:=((H0.new (.cells [.pointer none] true)).new (.cells [.slice none 0 0] true)).new (.cells [.int .i64 0] true)
 have t0:T3 H3 H0.next (H0.next+1) (H0.next+2) (.pointer none) (.slice none 0 0) (.int .i64 0):=by
  refine⟨?_,?_,?_,by omega,by omega,by omega⟩
  ·show (Hp.new _ _).get _=_;rw[get_new,if_neg (by show ¬H0.next=H0.next+1+1;omega),get_new,if_neg (by show ¬H0.next=H0.next+1;omega),get_new,if_pos rfl]
  ·show (Hp.new _ _).get _=_;rw[get_new,if_neg (by show ¬H0.next+1=H0.next+1+1;omega),get_new];exact if_pos rfl
  ·show (Hp.new _ _).get _=_;rw[get_new];exact if_pos rfl
 have f03:Frm (H0.next ≤ ·) H0 H3:=((zcW _ _ (H0.next ≤ ·)).trans (zcW _ _ (H0.next ≤ ·)) fun j q=>.inl q).trans (zcW _ _ (H0.next ≤ ·)) fun j q=>.inl q;have hnew:RR AU [.int .i64 lim] H3=some (.tuple #[.pointer (some ⟨H0.next+5,0,none⟩),.int .i64 0],newH lim H3):=by rw[c16,if_neg hlim];rfl
 have hS3:StF (newH lim H3) (H0.next+5) lim [] [] (.slice none 0 0) (H0.next+3) (H0.next+4):=newH_st lim H3;have old3:∀j,j<H0.next+3→(newH lim H3).get j=H3.get j:=fun j hj=>zlz lim H3 j hj;have t1:T3 (newH lim H3) H0.next (H0.next+1) (H0.next+2) (.pointer none) (.slice none 0 0) (.int .i64 0):=⟨by rw[old3 _ (by omega)];exact t0.a1,by rw[old3 _ (by omega)];exact t0.a3,by rw[old3 _ (by omega)];exact t0.a5,t0.n13,t0.n15,t0.n35⟩
 have f3n:Frm (H0.next ≤ ·) H3 (newH lim H3):=⟨by rw[zi5];omega,fun j hj _=>zlz lim H3 j hj⟩
 have w1:∀{H2 H3:Hp} {q:Nat},H0.next≤q→Frm (· = q) H2 H3→Frm (H0.next ≤ ·) H2 H3:=fun hq k=>k.mono fun j e=>.inl (by rw[e];exact hq);obtain⟨H4,a1,a2,a3⟩:=t1.s1 (v:=.pointer (some ⟨H0.next+5,0,none⟩)) ⟨rfl,rfl⟩;obtain⟨H5,b1,b2,b3⟩:=a2.s5 (v:=.int .i64 0) ⟨rfl,rfl⟩;have hz:¬((0:Int)≠0):=by decide
 simp only[zcI,n_new]at hrun;rw[show ((H0.new (.cells [.pointer none] true)).new (.cells [.slice none 0 0] true)).new (.cells [.int .i64 0] true)=H3 from rfl,zae hnew,x01,a1,b1,b2.l5,zbt,zac,s_br,if_neg (fun q=>hz (of_decide_eq_true q))]at hrun;have n5:H5.next=H0.next+6:=by
  have e1:=a1 Nat fun H=>some H.next;have e2:=b1 Nat fun H=>some H.next;have e3:∀(o:Nat) (v:Value) (H:Hp) (cs:List Value),H.get o=some (.cells cs true)→cs.length=1→OneV v→(zao 1 H (.pointer (some ⟨o,0,none⟩)) v fun H=>some H.next)=some H.next:=fun o v H cs hg hc hv=>by rw[zfv hg hv.1 hv.2 (by omega)];rfl
  rw[e3 _ _ _ _ t1.a1 rfl ⟨rfl,rfl⟩]at e1;rw[e3 _ _ _ _ a2.a5 rfl ⟨rfl,rfl⟩]at e2;have e1:=Option.some.inj e1;have e2:=Option.some.inj e2;rw[←e2,←e1,zi5];rfl
 have f35:Frm (H0.next ≤ ·) (newH lim H3) H5:=(w1 (Nat.le_refl _) a3).trans (w1 (by omega) b3) fun j q=>.inl q;have f05:Frm (H0.next ≤ ·) H0 H5:=(f03.trans f3n fun j q=>.inl q).trans f35 fun j q=>.inl q;have hS5:StF H5 (H0.next+5) lim [] [] (.slice none 0 0) (H0.next+3) (H0.next+4):=by have k4:StF H4 (H0.next+5) lim [] [] (.slice none 0 0) (H0.next+3) (H0.next+4):=hS3.keep (fun j hj=>a3.same j (hS3.foot_lt hj) fun e=>by have:=zgZ hj;omega) a3.next;exact k4.keep (fun j hj=>b3.same j (k4.foot_lt hj) fun e=>by have:=zgZ hj;omega) b3.next
 obtain⟨v,H6,s1,s2,s3,s4⟩:=c_split l (by omega) H5;have s1':RR Bz [str l,.string ⟨#[10]⟩] H5=some (v,H6):=s1;rw[zae s1']at hrun;have hcl:=zg0 10 l;have hcnt:l.count 10≤l.length:=count_le_length;have hlast:=cut_last l;obtain⟨y,hy,⟨rest,hg⟩,hix⟩:=s2.ix (i:=l.count 10) (by omega)
 have hld:=fun (α:Type) (k:Value→Option α)=>zbe hg (l.count 10*1) (str ((cutB 10 l).getD (l.count 10) [])) (by
  rw[Nat.mul_one,List.getElem?_append_left (by rw[length_map];omega),List.getElem?_map,hlast];rfl) k
 have hone:((cutB 10 l).map str).all one=true:=by rw[all_map];exact all_eq_true.2 fun _ _=>rfl
 obtain⟨v2,u1,u2,u3⟩:=s2.cut hone (m:=l.count 10) (by omega);have hsub:IntKind.i64.wrap (((cutB 10 l).length:Int)-1)=((l.count 10:Nat):Int):=by rw[hcl,w64 (by omega) (by omega)];omega
 have hlines:∃lv,(zau (
    pLen .sl v H6 fun v25=>
    pBin PP .sub Aa v25 (.int .i64 1) fun v26=>
    pIdx 1 v v26 fun p27=>
    zal 1 false H6 p27 fun v28=>
    pBin PP .eql Ac v28 (.string ⟨#[]⟩) fun v29=>
    zaa v29 fun b30=>br b30
    (pLen .sl v H6 fun v31=>
    pBin PP .sub Aa v31 (.int .i64 1) fun v32=>
    zdw 1 v none (some v32) fun v33=>
    some (.next,[v33],H6))
    (some (.next,[v],H6))):(Ctl→List Value→Hp→Option (Value×Hp))→Option (Value×Hp))=(fun k=>k .next [lv] H6)∧Vec H6 1 lv (zdg l).length ((zdg l).map str)∧∀j,Id lv j→H5.next≤j:=by
  have hemp:∀{α:Type} (k:Value→Option α),pBin PP .eql Ac (str ((cutB 10 l).getD (l.count 10) [])) (.string ⟨#[]⟩) k=k (.bool ((cutB 10 l).getD (l.count 10) []==[])):=fun k=>zf4 Ac _ [] k;unfold zdg;by_cases he:(cutB 10 l).getD (l.count 10) []=[]
  ·rw[if_pos he];have hb:((cutB 10 l).getD (l.count 10) []==[])=true:=by rw[he];rfl
   refine⟨v2,?_,?_,fun j hj=>s4 j (u3 j hj)⟩
   ·funext k;simp only[s2.len,zc0,hsub,hix,hld,hemp,hb,zac,s_br,if_true,u1,zap]
   ·rw[length_take,Nat.min_eq_left (by omega),map_take];rw[Nat.mul_one]at u2;exact u2
  ·rw[if_neg he];have hb:((cutB 10 l).getD (l.count 10) []==[])=false:=by rw[beq_eq_false_iff_ne];exact he
   refine⟨v,?_,s2,s4⟩;funext k;simp only[s2.len,zc0,hsub,hix,hld,hemp,hb,zac,s_br,Bool.false_eq_true,if_false,zap]
 obtain⟨lv,z1,z2,z3⟩:=hlines;have hrun2:=hrun.trans (congrFun z1 _);rw[zaN]at hrun2;have hst:=LS.start hL b2 hS5 n5 f05 z2 s3 z3;have hloop:=zkI (lines:=zdg l) (by have:=zlF l;omega) (fun x hx=>by have:=zpl l x hx;omega) (zdg l) 0 _ (.int .i64 0) [] [] _ _ [] _ _ [] rfl (Nat.zero_le _) rfl (Nat.le_refl _) (Inv.nil lim) hst;have hfin:=hloop.fin (fun H k=>z2.len H k) (by have:=zlF l;omega) b2.n13 b2.n15 b2.n35 (Nat.le_refl _) (by omega) (by omega);have f07:Frm (H0.next ≤ ·) H0 (H6.new (.cells [.pointer (some ⟨H0.next+5,0,none⟩),.slice none 0 0,.slice none 0 0] true)):=(f05.trans (s3.mono fun j q=>q.elim) fun j q=>.inl q).trans (zcW _ _ (H0.next ≤ ·)) fun j q=>.inl q;have b6:∀(k:Value→Option (Value×Hp)),zal 1 false H6 (.pointer (some ⟨H0.next,0,none⟩)) k=k (.pointer (some ⟨H0.next+5,0,none⟩)):=fun k=>by exact zbe (by rw[s3.same _ (by omega) fun q=>q];exact b2.a1) 0 _ rfl k
 simp only[qg0]at hrun2;rw[b6,bldRd]at hrun2;have hcl3:zab (.agg #[.pointer (some ⟨H0.next+5,0,none⟩),.slice none 0 0,.slice none 0 0])=[.pointer (some ⟨H0.next+5,0,none⟩),.slice none 0 0,.slice none 0 0]:=rfl;rw[hcl3,z2.len]at hrun2;cases hq:zgj lim (zdg l) 0 [] [] [] with
 |bad ln e=>
  rw[hq]at hfin;obtain⟨H7,x1,⟨a,b,c,x2⟩,x3⟩:=hfin;have hrun3:=hrun2.trans (congrArg (fun z=>zg6 z _) x1);obtain⟨H8,y1,y2,y3⟩:=c_caught x2 e;have hf8:Frm (H0.next ≤ ·) H0 H8:=(f07.trans x3 fun j q=>.inl q).trans (y3.mono fun j q=>.inl (by rcases q with q|q|q<;>omega)) fun j q=>.inl q;refine⟨H8,hrun3.trans ?_,hf8.mono fun j q=>.inr q⟩;rw[zkZ,s_wrap0];have e1:∀{α:Type} (k:Value→List Value→Option α),pTail (.tuple #[zcr e,.int .i64 (ln:Int)]) k=k (zcr e) [.int .i64 (ln:Int)]:=fun k=>rfl;rw[e1,zg2];have e2:∀(k:Value→Hp→Option (Value×Hp)),zg6 (zcL RR (zcr e) (.pointer (some ⟨H0.next,0,none⟩)) (.pointer (some ⟨H0.next+1,0,none⟩)) (.pointer (some ⟨H0.next+2,0,none⟩)) H7) k=k (.tuple #[]) H8:=fun k=>by rw[y1];rfl
  refine(e2 _).trans ?_;rw[end_ld y2]
  ·rfl
  ·rfl
  ·rfl
  ·rfl
  ·intro k;kernel_rfl
  ·intro k;kernel_rfl
  ·intro k;kernel_rfl
 |good L K q=>
  rw[hq]at hfin;obtain⟨H7,sl,rv,x1,x2,x3,x4,x5,x6,x7,x8⟩:=hfin;have hrun3:=hrun2.trans (congrArg (fun z=>zg6 z _) x1);refine⟨H7,_,_,_,sl,rv,hrun3.trans ?_,x3,x4,(f07.trans x5 fun j q=>.inl q).mono fun j q=>.inr q,x6,x7,x8⟩;rw[zkZ,s_wrap1];have e1:∀(k:List Value→Option (Value×Hp)),zk2 [.cell 4 Al,.cell 5 Cn,.tmp 6,.cell 7 Ak] (.tuple #[.pointer (some ⟨H0.next+5,0,none⟩),rv,.int .i64 0,.int .i64 0]) k=k [.pointer (some ⟨H0.next+5,0,none⟩),rv,.int .i64 0,.int .i64 0]:=fun k=>rfl;have e2:∀(k:List Value→Option (Value×Hp)),zmB [.cell 4 Al,.cell 5 Cn,.tmp 6,.cell 7 Ak] [.pointer (some ⟨H0.next+5,0,none⟩),rv,.int .i64 0,.int .i64 0] k=k [.int .i64 0]:=fun k=>rfl;refine(e1 _).trans ((e2 _).trans ?_);rw[zg2,c_calm];show endL PP _ H7 _ [.int .i64 0] _=_;rw[end_ld x2]
  ·rfl
  ·rfl
  ·rfl
  ·rfl
  ·intro k;kernel_rfl
  ·intro k;kernel_rfl
  ·intro k;kernel_rfl
theorem ncell5{α:Type}(n:Nd)(k:Value→Option α):zai 1 false n.cells 5 k=k (.int .u64 n.num):=zd8 _ 5 _ rfl k
theorem ncell6{α:Type}(n:Nd)(k:Value→Option α):zai 1 false n.cells 6 k=k (.string n.name):=zd8 _ 6 _ rfl k
theorem small_all:(List.range 65).all (fun x=>decide (numT x=itoa (x:Int)))=true:=by decide +kernel
theorem small_num{x:Int}(h0:0≤x)(h1:x≤64):numT x.toNat=itoa x:=by have:=of_decide_eq_true (all_eq_true.1 small_all x.toNat (mem_range.2 (by omega)));rw[this,Int.toNat_of_nonneg h0]
theorem zdu(Φ:Int→Int)(n:Nd)(k:Nat):act Φ n [] k=[]:=rfl
theorem zqx(Φ:Int→Int)(n:Nd)(r:List UInt8)(k:Nat):act Φ n (112::r) k=sp (itoa (Φ ([n.a,n.b,n.c].getD k 0)))++act Φ n r (k+1):=rfl
theorem act_n(Φ:Int→Int)(n:Nd)(r:List UInt8)(k:Nat):act Φ n (110::r) k=sp (numT n.num.toNat)++act Φ n r k:=rfl
theorem act_w(Φ:Int→Int)(n:Nd)(r:List UInt8)(k:Nat):act Φ n (119::r) k=sp (itoa n.w)++act Φ n r k:=rfl
theorem act_s(Φ:Int→Int)(n:Nd)(r:List UInt8)(k:Nat):act Φ n (115::r) k=sp n.name.data.toList++act Φ n r k:=rfl
section
variable {B:Hp}{b m w p f g:Nat}{lim:Int}{L:List Nd}{K:List (ByteArray×Int)}{sl:Value}(hT:Tabs B)(hn:PP.globals.size≤B.next)(hst:StF B p lim L K sl f g)(hL:L.length*64≤2^46)(hN:∀m∈L,zos m)
include hT hn hst hL hN
theorem stepL{out:List Nat}{v:Value}(hv:Rdb B 1 v out.length (ints out))(hout:∀t∈out,1≤t∧t≤L.length)(hol:out.length≤2^41){i:Nat}{t:Nat}(hi:out[i]?=some t){H:Hp}{s:List UInt8}{Φ:Int→Int}(h:DP B H zcX b m w s Φ)
  (hΦ:∀t,0≤Φ t∧Φ t≤2^42) (hl:s.length+1000≤2^46) :
  ∃H',zaE RR (.pointer (some ⟨p,0,none⟩)) v (.map (some m)) (.int .i64 (out.length:Int)) (.slice (some ⟨w,0,some 1⟩) 34 34) (.pointer (some ⟨b,0,none⟩)) [.int .i64 (i:Int)] H=some (.next,[.int .i64 ((i+1:Nat):Int)],H') ∧
   DP B H' zcX b m w (s++line zbv (upF Φ t ((i+1:Nat):Int)) i (zaG L t)) (upF Φ t ((i+1:Nat):Int))∧(∀x,0≤upF Φ t ((i+1:Nat):Int) x∧upF Φ t ((i+1:Nat):Int) x≤2^42):=by
 have hlt:i<out.length:=(List.getElem?_eq_some_iff.1 hi).1;obtain⟨t1,t2⟩:=hout t (mem_of_getElem? hi);have hΨ:∀x,0≤upF Φ t ((i+1:Nat):Int) x∧upF Φ t ((i+1:Nat):Int) x≤2^42:=fun x=>by
  unfold upF;split
  ·omega
  ·exact hΦ x
 obtain⟨H1,u1,h1⟩:=h.upd (t:Int) ((i+1:Nat):Int);generalize hψ:upF Φ t ((i+1:Nat):Int)=Ψ at h1 hΨ;have hvH:Rdb H 1 v out.length (ints out):=hv.keep' (fun j hj=>h.old j (hv.lt hj)) h.next;have hvI:Rdb H 1 v (out.map fun (t:Nat)=>(t:Int)).length (zb6 (out.map fun (t:Nat)=>(t:Int))):=by rw[length_map,←zbS];exact hvH
 obtain⟨y,x1,x2⟩:=hvI.int (i:=i) (t:=(t:Int)) (by rw[List.getElem?_map,hi];rfl);have q:(i:Int)<(out.length:Int):=by omega
 have w1:IntKind.i64.wrap ((i:Int)+1)=((i+1:Nat):Int):=zaA (by omega) (by omega);have w2:IntKind.i64.wrap ((t:Int)-1)=((t-1:Nat):Int):=by rw[zaA (by omega) (by omega)];omega
 have hst1:StF H1 p lim L K sl f g:=hst.keep (fun i hi=>h1.old i (hst.foot_lt hi)) h1.next;obtain⟨n,hnn⟩:∃n,L[t-1]?=some n:=⟨_,List.getElem?_eq_getElem (by omega)⟩
 have hnd:zaG L t=n:=by unfold zaG;rw[hnn];rfl
 have hNn:=hN n (mem_of_getElem? hnn);obtain⟨ho1,ho2⟩:=hNn.op;obtain⟨sl',hsl,hix⟩:=hst1.st.all.ix (i:=t-1) (by omega) (α:=Outc);have ci:=c_itoa (h1.tabs hT hn) (n:=((i+1:Nat):Int)) (by omega) (by omega);have il:=zdK (n:=((i+1:Nat):Int)) (by omega) (by omega);have wl:=zox n.op;have cat1:∀(k:Value→Option Outc),pBin PP .add Ac (.string (ba (Go.Lib.itoa ((i+1:Nat):Int)))) (.string ⟨#[32]⟩) k=k (.string (ba (itoa ((i+1:Nat):Int)++[32]))):=fun k=>zoO _ (itoa ((i+1:Nat):Int)) [32] (by rw[length_singleton];omega) k;have cat2:∀(k:Value→Option Outc),pBin PP .add Ac (.string (ba (itoa ((i+1:Nat):Int)++[32]))) (.string (ba (word zbv n.op))) k=k (.string (ba (itoa ((i+1:Nat):Int)++[32]++word zbv n.op))):=fun k=>zoO _ _ _ (by rw[length_append,length_singleton];omega) k;have ixw:∀(k:Value→Option Outc),pIdx 1 (.slice (some ⟨w,0,some 1⟩) 34 34) (.int .i64 n.op) k=k (.pointer (some ⟨w,n.op.toNat,none⟩)):=fun k=>by
  have:(.int .i64 n.op:Value)=.int .i64 ((n.op.toNat:Nat):Int):=by rw[Int.toNat_of_nonneg (by omega)]
  rw[this,zlK (by omega),Nat.zero_add]
 have ldw:∀(k:Value→Option Outc),zal 1 false H1 (.pointer (some ⟨w,n.op.toNat,none⟩)) k=k (.string (ba (word zbv n.op))):=fun k=>zbe h1.nms _ _ (word_at hNn.op) k;have hck:Hp.rdP H1 (.pointer (some ⟨w,n.op.toNat,none⟩)) 1 false=some (.string (ba (word zbv n.op))):=by unfold Hp.rdP Hp.rd;dsimp only;rw[h1.nms];exact word_at hNn.op
 obtain⟨H2,e1,h2⟩:=h1.ws (itoa ((i+1:Nat):Int)++[32]++word zbv n.op) (by rw[length_append,length_append,length_singleton];omega);have hpn:=zgJ n.op;have hnum:=hNn.num;have hw:=hNn.w;have hnm:=hNn.name;have iw:=zdK (n:=n.w) (by omega) (by omega);have hnt:=zpd (x:=n.num.toNat) (by omega);have hl2:(s++(itoa ((i+1:Nat):Int)++[32]++word zbv n.op)).length≤s.length+46:=by rw[length_append,length_append,length_append,length_singleton];omega
 have hline:∀r:List UInt8,act Ψ n (fl n.op) 0=r→s++line zbv Ψ i n=(s++(itoa ((i+1:Nat):Int)++[32]++word zbv n.op))++r++[10]:=fun r hr=>by unfold line;rw[hr];simp only[append_assoc]
 rw[hnd];generalize (s++(itoa ((i+1:Nat):Int)++[32]++word zbv n.op))=s2 at h2 hl2 hline;have text:∀{Hx:Hp} {sx:List UInt8},DP B Hx zcX b m w sx Ψ→∃H',RR Bd [.int .u64 n.num] Hx=some (.string (ba (numT n.num.toNat)),H')∧DP B H' zcX b m w sx Ψ:=fun hx=>by obtain⟨H',a1,a2⟩:=c_text (hx.tabs hT hn) (Nat.le_trans hn hx.next) (x:=n.num.toNat) (by omega);rw[Int.toNat_of_nonneg hnum.1]at a1;exact⟨H',a1,hx.new a2⟩
 have spl:∀l:List UInt8,(sp l).length=l.length+1:=fun l=>rfl;by_cases h3:n.op=3
 ·have d3:decide (n.op=3)=true:=decide_eq_true h3;have d31:decide (n.op=31)=false:=decide_eq_false (by omega);have d32:decide (n.op=32)=false:=decide_eq_false (by omega);have d33:decide (n.op=33)=false:=decide_eq_false (by omega);obtain⟨H3,e2,g3⟩:=h2.put hT hn (x:=n.w) (by omega) (by omega) (by omega);obtain⟨H4,e3,g4⟩:=text g3;obtain⟨H5,e4,g5⟩:=g4.ws (sp (numT n.num.toNat)) (by rw[length_append,spl,spl];omega);have sp1:=sp_ba (numT n.num.toNat) (by omega) (α:=Outc);have hp0:zah n.op=0:=by rw[h3];decide
  obtain⟨H6,lp,g6⟩:=loopP hT hn (n:=n) hΨ 0 0 H5 _ (by rw[hp0];rfl) g5 (by simp only[length_append,spl];omega);rw[show ((0:Nat):Int)=0 from rfl]at lp;obtain⟨H7,e5,g7⟩:=g6.wb (by rw[replicate_zero,zdu,append_nil];simp only[length_append,spl];omega);refine⟨H7,?_,?_,hΨ⟩
  ·unfold zaE;simp only[qg0,za3,q,decide_true,zac,zaP,zaD,x1,x2,zaM,w1,u1,zbg,zaI,Nat.zero_add,hst1.st.l1,zc0,w2,hix,ld7 hsl hnn,spl7,zae ci,cat1,ze7,ixw,ldw,zf6 hck,cat2,zae e1,zaO,d3,zfT,zae e2,ncell5,zae e3,sp1,zae e4,zap,zaN,zae (c29 _ _),lp,za6,zay,d31,d32,d33,zae e5]
  ·rw[hline (sp (itoa n.w)++sp (numT n.num.toNat)) (by unfold fl;rw[if_neg (by omega),if_pos h3,act_w,act_n,zdu,append_nil])];rw[replicate_zero,zdu,append_nil,append_assoc s2]at g7;exact g7
 have d3:decide (n.op=3)=false:=decide_eq_false h3;by_cases h4:n.op=4
 ·have d4:decide (n.op=4)=true:=decide_eq_true h4;have d31:decide (n.op=31)=false:=decide_eq_false (by omega);have d32:decide (n.op=32)=false:=decide_eq_false (by omega);have d33:decide (n.op=33)=false:=decide_eq_false (by omega);obtain⟨H3,e2,g3⟩:=h2.ws (sp n.name.data.toList) (by rw[spl];omega);obtain⟨H4,e3,g4⟩:=g3.put hT hn (x:=n.w) (by omega) (by omega) (by rw[length_append,spl];omega);have sp1:∀(k:Value→Option Outc),pBin PP .add Ac (.string ⟨#[32]⟩) (.string n.name) k=k (.string (ba (sp n.name.data.toList))):=fun k=>by have:=sp_ba n.name.data.toList (by omega) k;rw[show ba n.name.data.toList=n.name from (zf0 rfl).symm]at this;exact this
  have hp0:zah n.op=0:=by rw[h4];decide
  obtain⟨H6,lp,g6⟩:=loopP hT hn (n:=n) hΨ 0 0 H4 _ (by rw[hp0];rfl) g4 (by simp only[length_append,spl];omega);rw[show ((0:Nat):Int)=0 from rfl]at lp;obtain⟨H7,e5,g7⟩:=g6.wb (by rw[replicate_zero,zdu,append_nil];simp only[length_append,spl];omega);refine⟨H7,?_,?_,hΨ⟩
  ·unfold zaE;simp only[qg0,za3,q,decide_true,zac,zaP,zaD,x1,x2,zaM,w1,u1,zbg,zaI,Nat.zero_add,hst1.st.l1,zc0,w2,hix,ld7 hsl hnn,spl7,zae ci,cat1,ze7,ixw,ldw,zf6 hck,cat2,zae e1,zaO,d3,d4,ncell6,sp1,zae e2,zfT,zae e3,zap,zaN,zae (c29 _ _),lp,za6,zay,d31,d32,d33,zae e5]
  ·rw[hline (sp n.name.data.toList++sp (itoa n.w)) (by unfold fl;rw[if_neg (by omega),if_neg (by omega),if_pos h4,act_s,act_w,zdu,append_nil])];rw[replicate_zero,zdu,append_nil,append_assoc s2]at g7;exact g7
 have d4:decide (n.op=4)=false:=decide_eq_false h4;obtain⟨H6,lp,g6⟩:=loopP hT hn (n:=n) hΨ (zah n.op).toNat 0 H2 _ (by omega) h2 (by omega);rw[show ((0:Nat):Int)=0 from rfl]at lp;have al:=zlV hNn hΨ (List.replicate (zah n.op).toNat 112) 0;rw[length_replicate]at al;by_cases h31:n.op=31
 ·have d31:decide (n.op=31)=true:=decide_eq_true h31;have hs:=hNn.ext h31;have cv:∀(k:Value→Option Outc),zaj .i64 (.int .u64 n.num) k=k (.int .i64 n.num):=fun k=>by rw[zhE,zaA (by omega) (by omega)]
  obtain⟨H7,e2,g7⟩:=g6.put hT hn (x:=n.num) (by omega) (by omega) (by rw[length_append];omega);have inu:=zdK (n:=n.num) (by omega) (by omega);obtain⟨H8,e3,g8⟩:=g7.put hT hn (x:=n.w) (by omega) (by omega) (by simp only[length_append,spl];omega);obtain⟨H9,e5,g9⟩:=g8.wb (by simp only[length_append,spl];omega);have hp1:(zah n.op).toNat=1:=by rw[h31];decide
  refine⟨H9,?_,?_,hΨ⟩
  ·unfold zaE;simp only[qg0,za3,q,decide_true,zac,zaP,zaD,x1,x2,zaM,w1,u1,zbg,zaI,Nat.zero_add,hst1.st.l1,zc0,w2,hix,ld7 hsl hnn,spl7,zae ci,cat1,ze7,ixw,ldw,zf6 hck,cat2,zae e1,zaO,d3,d4,zap,zaN,zae (c29 _ _),lp,za6,zay,d31,ncell5,cv,zae e2,zfT,zae e3,zae e5]
  ·rw[hline (sp (itoa (Ψ ([n.a,n.b,n.c].getD 0 0)))++(sp (itoa n.num)++sp (itoa n.w))) (by unfold fl;rw[if_neg (by omega),if_neg (by omega),if_neg (by omega),if_pos h31,zqx,act_n,act_w,zdu,append_nil,small_num hnum.1 hs])];rw[hp1,show List.replicate 1 (112:UInt8)=[112] from rfl,zqx,zdu,append_nil,append_assoc (s2++_),append_assoc s2]at g9;exact g9
 have d31:decide (n.op=31)=false:=decide_eq_false h31;by_cases h32:n.op=32
 ·have d32:decide (n.op=32)=true:=decide_eq_true h32;obtain⟨H8,e3,g8⟩:=g6.put hT hn (x:=n.w) (by omega) (by omega) (by simp only[length_append,spl];omega);obtain⟨H9,e5,g9⟩:=g8.wb (by simp only[length_append,spl];omega);have hp1:(zah n.op).toNat=1:=by rw[h32];decide
  refine⟨H9,?_,?_,hΨ⟩
  ·unfold zaE;simp only[qg0,za3,q,decide_true,zac,zaP,zaD,x1,x2,zaM,w1,u1,zbg,zaI,Nat.zero_add,hst1.st.l1,zc0,w2,hix,ld7 hsl hnn,spl7,zae ci,cat1,ze7,ixw,ldw,zf6 hck,cat2,zae e1,zaO,d3,d4,zap,zaN,zae (c29 _ _),lp,za6,zay,d31,d32,zfT,zae e3,zae e5]
  ·rw[hline (sp (itoa (Ψ ([n.a,n.b,n.c].getD 0 0)))++sp (itoa n.w)) (by unfold fl;rw[if_neg (by omega),if_neg (by omega),if_neg (by omega),if_neg (by omega),if_pos (by omega),zqx,act_w,zdu,append_nil])];rw[hp1,show List.replicate 1 (112:UInt8)=[112] from rfl,zqx,zdu,append_nil,append_assoc s2]at g9;exact g9
 have d32:decide (n.op=32)=false:=decide_eq_false h32;by_cases h33:n.op=33
 ·have d33:decide (n.op=33)=true:=decide_eq_true h33;obtain⟨H8,e3,g8⟩:=g6.put hT hn (x:=n.w) (by omega) (by omega) (by simp only[length_append,spl];omega);obtain⟨H9,e5,g9⟩:=g8.wb (by simp only[length_append,spl];omega);have hp1:(zah n.op).toNat=1:=by rw[h33];decide
  refine⟨H9,?_,?_,hΨ⟩
  ·unfold zaE;simp only[qg0,za3,q,decide_true,zac,zaP,zaD,x1,x2,zaM,w1,u1,zbg,zaI,Nat.zero_add,hst1.st.l1,zc0,w2,hix,ld7 hsl hnn,spl7,zae ci,cat1,ze7,ixw,ldw,zf6 hck,cat2,zae e1,zaO,d3,d4,zap,zaN,zae (c29 _ _),lp,za6,zay,d31,d32,d33,zfT,zae e3,zae e5]
  ·rw[hline (sp (itoa (Ψ ([n.a,n.b,n.c].getD 0 0)))++sp (itoa n.w)) (by unfold fl;rw[if_neg (by omega),if_neg (by omega),if_neg (by omega),if_neg (by omega),if_pos (by omega),zqx,act_w,zdu,append_nil])];rw[hp1,show List.replicate 1 (112:UInt8)=[112] from rfl,zqx,zdu,append_nil,append_assoc s2]at g9;exact g9
 have d33:decide (n.op=33)=false:=decide_eq_false h33;obtain⟨H9,e5,g9⟩:=g6.wb (by simp only[length_append];omega);refine⟨H9,?_,?_,hΨ⟩
 ·unfold zaE;simp only[qg0,za3,q,decide_true,zac,zaP,zaD,x1,x2,zaM,w1,u1,zbg,zaI,Nat.zero_add,hst1.st.l1,zc0,w2,hix,ld7 hsl hnn,spl7,zae ci,cat1,ze7,ixw,ldw,zf6 hck,cat2,zae e1,zaO,d3,d4,zap,zaN,zae (c29 _ _),lp,za6,zay,d31,d32,d33,zae e5]
 ·have hfl:fl n.op=List.replicate (zah n.op).toNat 112:=by
   unfold fl;by_cases h2:n.op≤2
   ·have:zah n.op=0:=by rcases (show n.op=1∨n.op=2 by omega) with q|q<;>rw[q]<;>decide
    rw[if_pos h2,this];rfl
   ·rw[if_neg h2,if_neg h3,if_neg h4,if_neg h31,if_neg (by omega)]
  rw[hline (act Ψ n (List.replicate (zah n.op).toNat 112) 0) (by rw[hfl])];exact g9
end
theorem line_len{Φ:Int→Int}{n:Nd}(hn:zos n)(hΦ:∀t,0≤Φ t∧Φ t≤2^42){i:Nat}(hi:i≤2^42):(line zbv Φ i n).length≤200:=by have h1:=zdK (n:=((i+1:Nat):Int)) (by omega) (by omega);have h2:=zox n.op;have h3:=zlV hn hΦ (fl n.op) 0;have h4:=fl_len n.op;unfold line;simp only[length_append,length_singleton];omega
section
variable {B:Hp}{b m w p f g:Nat}{lim:Int}{L:List Nd}{K:List (ByteArray×Int)}{sl:Value}(hT:Tabs B)(hn:PP.globals.size≤B.next)(hst:StF B p lim L K sl f g)(hL:L.length*64≤2^46)(hN:∀m∈L,zos m)
include hT hn hst hL hN
theorem loopL{out:List Nat}{v:Value}(hv:Rdb B 1 v out.length (ints out))(hout:∀t∈out,1≤t∧t≤L.length)(hol:out.length≤2^30):∀(k i:Nat) (H:Hp) (s:List UInt8) (Φ:Int→Int),i+k=out.length→DP B H zcX b m w s Φ →
  (∀t,0≤Φ t∧Φ t≤2^42)→s.length+200*k+1000≤2^46 →
  ∃H',zat (zaE RR (.pointer (some ⟨p,0,none⟩)) v (.map (some m)) (.int .i64 (out.length:Int)) (.slice (some ⟨w,0,some 1⟩) 34 34) (.pointer (some ⟨b,0,none⟩))) [.int .i64 (i:Int)] H=some (.exit 0,[.int .i64 (out.length:Int)],H') ∧
   DP B H' zcX b m w (s++zfW zbv L i (out.drop i) Φ) (zhR i (out.drop i) Φ)∧(∀t,0≤zhR i (out.drop i) Φ t∧zhR i (out.drop i) Φ t≤2^42)∧(zfW zbv L i (out.drop i) Φ).length≤200*k
 |0,i,H,s,Φ,hi,h,hΦ,hl=>by
  have:i=out.length:=by omega
  subst this;rw[drop_of_length_le (Nat.le_refl _)];refine⟨H,?_,by unfold zfW zhR;rw[append_nil];exact h,hΦ,Nat.zero_le _⟩;rw[zak];have:zaE RR (.pointer (some ⟨p,0,none⟩)) v (.map (some m)) (.int .i64 (out.length:Int)) (.slice (some ⟨w,0,some 1⟩) 34 34) (.pointer (some ⟨b,0,none⟩)) [.int .i64 (out.length:Int)] H=some (.exit 0,[.int .i64 (out.length:Int)],H):=by unfold zaE;simp only[za3,zac,zaD,qg0,Int.lt_irrefl,decide_false]
  rw[this];rfl
 |k+1,i,H,s,Φ,hi,h,hΦ,hl=>by
  have hlt:i<out.length:=by omega
  have hg:out[i]?=some out[i]:=List.getElem?_eq_getElem hlt;obtain⟨t1,t2⟩:=hout out[i] (getElem_mem hlt);have hd:out.drop i=out[i]::out.drop (i+1):=drop_eq_getElem_cons hlt;obtain⟨H1,e1,h1,hΨ⟩:=stepL hT hn hst hL hN hv hout (by omega) hg h hΦ (by omega);have hnd:zos (zaG L out[i]):=by unfold zaG;have:L[out[i]-1]?=some (L[out[i]-1]'(by omega)):=List.getElem?_eq_getElem _;rw[this];exact hN _ (getElem_mem _)
  have hll:=line_len hnd hΨ (i:=i) (by omega);obtain⟨H',e2,h2,h3,h4⟩:=loopL hv hout hol k (i+1) H1 _ _ (by omega) h1 hΨ (by rw[length_append];omega);rw[hd];refine⟨H',?_,?_,h3,?_⟩
  ·rw[zak,e1];exact e2
  ·rw[append_assoc]at h2;exact h2
  ·unfold zfW;rw[length_append];omega
omit hst hL hN in
theorem loopR{x:Value}{rs:List Int}(hx:Rdb B 1 x rs.length (zb6 rs))(hrl:rs.length≤2^30){Φ:Int→Int}(hΦ:∀t,0≤Φ t∧Φ t≤2^42):∀(k i:Nat) (H:Hp) (s:List UInt8),i+k=rs.length→DP B H zcX b m w s Φ→s.length+200*k+1000≤2^46 →
  ∃H',zat (zbc RR x (.map (some m)) (.int .i64 (rs.length:Int)) (.pointer (some ⟨b,0,none⟩))) [.int .i64 (i:Int)] H=some (.exit 6,[.int .i64 (rs.length:Int)],H')∧DP B H' zcX b m w (s++ziF Φ (rs.drop i)) Φ∧(ziF Φ (rs.drop i)).length≤200*k
 |0,i,H,s,hi,h,hl=>by
  have:i=rs.length:=by omega
  subst this;rw[drop_of_length_le (Nat.le_refl _)];refine⟨H,?_,by unfold ziF;rw[flatMap_nil,append_nil];exact h,by simp[ziF]⟩;rw[zak];have:zbc RR x (.map (some m)) (.int .i64 (rs.length:Int)) (.pointer (some ⟨b,0,none⟩)) [.int .i64 (rs.length:Int)] H=some (.exit 6,[.int .i64 (rs.length:Int)],H):=by unfold zbc;simp only[za3,zac,zaD,qg0,Int.lt_irrefl,decide_false]
  rw[this];rfl
 |k+1,i,H,s,hi,h,hl=>by
  have hlt:i<rs.length:=by omega
  have hg:rs[i]?=some rs[i]:=List.getElem?_eq_getElem hlt;have hd:rs.drop i=rs[i]::rs.drop (i+1):=drop_eq_getElem_cons hlt;have hxH:Rdb H 1 x rs.length (zb6 rs):=hx.keep' (fun j hj=>h.old j (hx.lt hj)) h.next;obtain⟨y,x1,x2⟩:=hxH.int hg;have hb:=hΦ rs[i];obtain⟨H1,e1,h1⟩:=h.put hT hn (x:=Φ rs[i]) (by omega) (by omega) (by omega);have il:=zdK (n:=Φ rs[i]) (by omega) (by omega);have spl:(sp (itoa (Φ rs[i]))).length=(itoa (Φ rs[i])).length+1:=rfl;obtain⟨H',e2,h2,h4⟩:=loopR hx hrl hΦ k (i+1) H1 _ (by omega) h1 (by rw[length_append,spl];omega);rw[hd];have w1:IntKind.i64.wrap ((i:Int)+1)=((i+1:Nat):Int):=zaA (by omega) (by omega);have q:(i:Int)<(rs.length:Int):=by omega
  refine⟨H',?_,?_,?_⟩
  ·rw[zak];have:zbc RR x (.map (some m)) (.int .i64 (rs.length:Int)) (.pointer (some ⟨b,0,none⟩)) [.int .i64 (i:Int)] H=some (.next,[.int .i64 ((i+1:Nat):Int)],H1):=by unfold zbc;simp only[za3,zac,zaP,qg0,q,decide_true,x1,x2,h.mp.look ikI,zae e1,zaM,w1]
   rw[this];exact e2
  ·rw[append_assoc]at h2;exact h2
  ·unfold ziF at h4 ⊢;rw[flatMap_cons,length_append];omega
end
def dumpR(L:List Nd)(rs:List Int):List UInt8:=if (zb2 L rs).1=0 then zqi zbv L (zb2 L rs).2 rs else []
theorem orderR_in{L:List Nd}(hd:Dag L)(rs:List Int):∀t∈(zb2 L rs).2,1≤t∧t≤L.length:=by
 unfold zb2;split
 ·rename_i h;obtain⟨ns,h1,h2⟩:=nats rs h;have e:rs.map Int.toNat=ns:=by rw[h1,zfm]
  rw[e];exact Told.bd ((⟨nodup_nil,fun x h=>by cases h⟩:Told L.length []).posts hd h2)
 ·intro t h;cases h
section
variable {H0:Hp}{p f g:Nat}{lim:Int}{L:List Nd}{K:List (ByteArray×Int)}{sl:Value}(hT:Tabs H0)(hn:PP.globals.size≤H0.next)(hst:StF H0 p lim L K sl f g)(hd:Dag L)(hN:∀m∈L,zos m)(hL:L.length≤2^30){x:Value}{rs:List Int}(hx:Rdb H0 1 x rs.length (zb6 rs))(hl:rs.length≤2^30)
include hT hn hst hd hN hL hx hl
theorem c_dump:∃H',RR A4 [.pointer (some ⟨p,0,none⟩),x] H0=some (.tuple #[.string (ba (dumpR L rs)),.int .i64 (zb2 L rs).1],H')∧H0.next≤H'.next∧∀k,k<H0.next→H'.get k=H0.get k:=by
 obtain⟨H2,v,a1,a2⟩:=c13 hst hd (by omega) hx.o (by omega);have hbd:=zi1 hd rs;have hin:=orderR_in hd rs;have hr:=(zhm E0 rfl (.pointer (some ⟨p,0,none⟩)) x H0).trans (zhs _ _ _ _);unfold dumpR;generalize (zb2 L rs).1=e at *;generalize (zb2 L rs).2=out at *;rw[zae a1,x01,zbt,zac]at hr;by_cases he:e=0
 ·subst he;rw[decide_eq_false (by simp),zaD]at hr;have f2:Frm (fun _=>False) H0 H2:=⟨a2.next,fun j hj _=>a2.old j hj⟩
  have hst2:StF H2 p lim L K sl f g:=hst.keep (fun i hi=>a2.old i (hst.foot_lt hi)) a2.next;have hT2:=hT.old hn a2.old;have hn2:PP.globals.size≤H2.next:=Nat.le_trans hn a2.next;have hx2:Rdb H2 1 x rs.length (zb6 rs):=hx.keep' (fun j hj=>a2.old j (hx.lt hj)) a2.next;let HA:Hp:=(H2.new (.cells [.pointer none,.slice none 0 0] true)).mark H2.next As
  let HB:Hp:=HA.new (.map [])
  let HC:Hp:=HB.new (.cells zcX true)
  have hgB:∀k,k<H2.next→HB.get k=H2.get k:=fun k hk=>by show (if k=H2.next+1 then _ else if k=H2.next then _ else H2.get k)=_;rw[if_neg (by omega),if_neg (by omega)]
  have hgC:∀k,k<H2.next→HC.get k=H2.get k:=fun k hk=>by show (if k=H2.next+2 then _ else HB.get k)=_;rw[if_neg (by omega),hgB k hk]
  have hTB:Tabs HB:=hT2.old hn2 hgB;have hc:HC.get H2.next=some (.cells [.pointer none,.slice none 0 0] true):=by show (if H2.next=H2.next+2 then _ else if H2.next=H2.next+1 then _ else if H2.next=H2.next then _ else _)=_;rw[if_neg (by omega),if_neg (by omega),if_pos rfl]
  have hm:HC.get (H2.next+1)=some (.map []):=by show (if H2.next+1=H2.next+2 then _ else if H2.next+1=H2.next+1 then _ else _)=_;rw[if_neg (by omega),if_pos rfl]
  have hw:HC.get (H2.next+2)=some (.cells zcX true):=by show (if H2.next+2=H2.next+2 then _ else _)=_;rw[if_pos rfl]
  have hty:HC.ty H2.next=some As:=by show (if H2.next=H2.next then _ else _)=_;rw[if_pos rfl]
  have st:DP H2 HC zcX H2.next (H2.next+1) (H2.next+2) [] (fun _=>0):=
   ⟨by show H2.next≤H2.next+1+1+1;omega,hgC,Nat.le_refl _,by omega,by omega,by omega,by omega,by omega,by show H2.next+1<H2.next+1+1+1;omega,by show H2.next+2<H2.next+1+1+1;omega,
    ⟨[],hm,fun t=>rfl⟩,hw,none,⟨hty,by show H2.next<H2.next+1+1+1;omega,_,_,hc,.inl rfl,.inl ⟨rfl,rfl,rfl⟩⟩,fun y hy=>by cases hy⟩
  have ea:∀(k:Value→Hp→Option (Value×Hp)),zlv As [.pointer none,.slice none 0 0] H2 k=k (.pointer (some ⟨H2.next,0,none⟩)) HA:=fun k=>rfl;have eb:∀(k:Value→Hp→Option (Value×Hp)),zbY HA k=k (.map (some (H2.next+1))) HB:=fun k=>rfl;have en:RR A5 [] HB=some (.slice (some ⟨H2.next+2,0,some 1⟩) 34 34,HC):=c_names hTB;obtain⟨H3,l1,d1,hΦ,len1⟩:=loopL (b:=H2.next) (m:=H2.next+1) (w:=H2.next+2) hT2 hn2 hst2 (by omega) hN a2.vec.rd hin (by omega) out.length 0 HC [] _ (by omega) st (fun t=>by constructor<;>decide) (by simp;omega);rw[qd0,nil_append]at d1;rw[qd0]at hΦ len1;obtain⟨H4,e4,d4⟩:=d1.ws [114,111,111,116,115] (by simp;omega);obtain⟨H5,l2,d5,len2⟩:=loopR hT2 hn2 hx2 hl hΦ rs.length 0 H4 _ (by omega) d4 (by rw[length_append];simp;omega);rw[qd0]at d5 len2;obtain⟨H6,e6,d6⟩:=d5.wb (by rw[length_append,length_append];simp;omega);obtain⟨j,hj,hj2⟩:=d6.bld;obtain⟨H7,e7,bf⟩:=hj.text (by rw[length_append,length_append,length_append];simp;omega);refine⟨H7,hr.trans ?_,?_,fun k hk=>?_⟩
  ·rw[ea,eb,zae en,a2.vec.len];rw[show (0:Int)=((0:Nat):Int) from rfl,l1,zap,za6,zay,zae e4,hx2.len,l2,zap,za6,zay,zae e6,zae e7,if_pos rfl];rfl
  ·have:=d6.next;have:=bf.next;have:=a2.next;omega
  ·have h2:=a2.next;have h6:=d6.next;have:=d6.lb;rw[bf.get k (by omega) (by omega) (fun q=>by have:=hj2 k q;omega),d6.old k (by omega),a2.old k hk]
 ·rw[decide_eq_true (by simpa using he),zaP]at hr;rw[if_neg he];exact⟨H2,hr,a2.next,a2.old⟩
end
end Go.AM
namespace Go.AM
open Go
section
end
end Go.AM
namespace Go.AM
open List Go
def fldC:Fld→UInt8
 |.p=>112
 |.n=>110
 |.w=>119
 |.s=>115
theorem fl_all:((List.range 34).all fun op=>decide (op=0)||decide (fl (op:Int)=(zhu (op:Int)).map fldC))=true:=by decide +kernel
theorem fl_eq{op:Nat}(h1:1≤op)(h2:op≤33):fl (op:Int)=(zhu (op:Int)).map fldC:=by
 have:=all_eq_true.1 fl_all op (mem_range.2 (by omega));rw[Bool.or_eq_true,decide_eq_true_eq,decide_eq_true_eq]at this;rcases this with q|q
 ·omega
 ·exact q
end Go.AM
namespace Go.AM
open Go
section
end
section
variable {H:Hp}{p f g:Nat}{lim:Int}{L:List Nd}{K:List (ByteArray×Int)}{sl:Value}(hs:StR H p lim L sl f g)
include hs
theorem c10(hL:(L.length:Int)≤4611686018427387904)(t:Int):RR Av [.pointer (some ⟨p,0,none⟩),.int .i64 t] H=some (.tuple #[(ze6 L t).val,.int .i64 (if isT L t=true then 0 else 70)],H):=by
 refine(zhk E0 rfl _ _ _).trans ?_;unfold zeJ;rw[zae (c19 hs),zb9,zac];unfold ze6;cases ht:isT L t with
 |false=>simp only[Bool.not_false,br,bnil,spl7,ncell7,Bool.false_eq_true,if_false]
 |true=>
  obtain⟨i,n,hn,hi,hx⟩:=s_idx hs.all ht hL (fun p11=>zal 7 true H p11 fun v12=>
   zaV 7 [.int .i64 0,.int .i64 0,.int .i64 0,.int .i64 0,.int .i64 0,.int .u64 0,.string ⟨#[]⟩] 0 v12 fun c13=>zai 7 true c13 0 fun v14=>some ((Value.tuple #[v14,(.int .i64 0)]),H))
  simp only[Bool.not_true,br,zbg,zaI,Nat.zero_add,hs.l1,zc0,if_true];rw[hx,ld7 hi hn,spl7,ncell7,hn];rfl
end
end Go.AM
namespace Go.AM
open List Go
theorem s_t4{α:Type}(a b c d:Value)(k:Value→Option α):zaf (.tuple #[a,b,c,d]) 0 k=k a∧zaf (.tuple #[a,b,c,d]) 1 k=k b∧zaf (.tuple #[a,b,c,d]) 2 k=k c∧zaf (.tuple #[a,b,c,d]) 3 k=k d:=⟨rfl,rfl,rfl,rfl⟩
theorem zke{ts:List Int}:∀(ws:List (List UInt8)) (l:List Int),zd9 ts ws=some l→l.length=ws.length
 |[],l,h=>by cases h;rfl
 |w::r,l,h=>by
  unfold zd9 at h;split at h
  ·cases h
  ·split at h
   ·cases h
   ·rename_i q hq;cases h;rw[length_cons,length_cons,zke r q hq]
theorem zpj{lim:Int}{N:Nat}:∀(lines:List (List UInt8)) (k:Nat) (L:List Nd) (K:List (ByteArray×Int)) (ts:List Int) (L':List Nd) (K':List (ByteArray×Int)) (q:List Int),(∀l∈lines,l.length≤N)→zgj lim lines k L K ts=.good L' K' q→L'.length≤L.length+lines.length∧q.length≤N+1
 |[],k,L,K,ts,L',K',q,hN,h=>by cases h
 |l::rest,k,L,K,ts,L',K',q,hN,h=>by
  unfold zgj at h;have hl:=hN l (mem_cons_self ..);have hwl:(zbO l).length≤l.length+1:=by unfold zbO;rw[length_map];exact zhc l 0 none
  cases hw:zbO l with
  |nil=>rw[hw]at h;cases h
  |cons w0 r=>
   rw[hw]at h hwl;dsimp only at h;rw[length_cons]at hwl;split at h
   ·cases hp:zd9 ts r with
    |none=>rw[hp]at h;cases h
    |some q'=>
     rw[hp]at h;have hql:=zke r q' hp;cases rest with
     |nil=>
      cases h;exact⟨by omega,by omega⟩
     |cons a b=>cases h
   ·cases hp:zoa (w0::r) ts L with
    |none=>rw[hp]at h;cases h
    |some m=>
     rw[hp]at h;dsimp only at h;split at h
     ·cases h
     ·have ih:=zpj rest (k+1) _ _ _ L' K' q (fun x hx=>hN x (mem_cons_of_mem _ hx)) h;have:=mk_le (lim:=lim) (L:=L) (K:=K) m;rw[length_cons];exact⟨by omega,ih.2⟩
end Go.AM
namespace Go.AM
open Go Go.ChangeShapes Go.WideShapes Go.ChangeAt Go.RowKit Go.Proofs.YtcbmccpkhagckaaGreatDoor
theorem xt7:XtC PP orc.xt:=by
 intro f e h;have h:look none [(AY,some zkL),(AX,some zkU)] f=some e:=h;unfold look at h;split at h
 ·rename_i q;cases h;have:f=AY:=(Nat.eq_of_beq_eq_true q).symm;subst this;exact idxStr_xt Go.Proofs.Tryz.func184 (by kernel_rfl) (by kernel_rfl) (by kernel_rfl) (by kernel_rfl)
 ·unfold look at h;split at h
  ·rename_i q;cases h;have:f=AX:=(Nat.eq_of_beq_eq_true q).symm;subst this;exact cntStr_xt Go.Proofs.Tryz.func157 (by kernel_rfl) (by kernel_rfl) (by kernel_rfl) (by kernel_rfl)
  ·cases h
theorem zf3{P:Program}{W:World}{name:String}{k:IntKind}{zs:List Int}{rest:List (String×DataW Unit)}{g:Nat}{t e:TypeId}{n:Nat}{ps:List MemPlace}
  (hg:P.globalNamed name=some g) (hty:(P.globals[g]?).map (·.type)=some t) (ht:P.underlying t=some (.array n e)) (he:P.underlying e=some (.int k)) (hce:P.cellsOf e=1) (hct:P.cellsOf t=n)
  (h:DataW.LaidVars P W ((name,Go.Lib.tabData k zs)::rest) ps):∃ty fz,W.heap[g]?=some (.cells (zs.map fun z=>Value.int k z).toArray ty fz):=by
 obtain⟨g',t',cs,fuel,p,q,hg',ht',hvar,hd,_,_⟩:=h;obtain rfl:=Option.some.inj (hg.symm.trans hg');obtain rfl:=Option.some.inj (hty.symm.trans ht');have hc:=Go.Lib.cells_of_tab ht he hce hct hd;unfold World.var? at hvar;rw[hg]at hvar;have hvar:(match W.heap[g]? with|some (Obj.cells cs _ _)=>some cs|_=>none)=some cs:=hvar;split at hvar
 ·rename_i cs' ty fz hw;cases hvar;refine⟨ty,fz,?_⟩;rw[hw,←hc]
 ·cases hvar
theorem zjo{P:Program}{W:World}{name:String}{g:Nat}{cs:Array Value}(hg:P.globalNamed name=some g)(hvar:W.var? P name=some cs):∃ty fz,W.heap[g]?=some (.cells cs ty fz):=by
 unfold World.var? at hvar;rw[hg]at hvar;have hvar:(match W.heap[g]? with|some (Obj.cells cs _ _)=>some cs|_=>none)=some cs:=hvar;split at hvar
 ·rename_i cs' ty fz hw;cases hvar;exact⟨ty,fz,hw⟩
 ·cases hvar
def bru64:List Int:=Go.Lib.deBruijn64tab.map fun (n:Nat)=>(n:Int)
theorem pow_data:(Rows.laid_internal_strconv_uint64pow10:DataW Unit)=Go.Lib.tabData .u64 zp3:=by kernel_rfl
theorem spc_data:(Rows.laid_strings_asciiSpace:DataW Unit)=Go.Lib.tabData .u8 zj8:=by kernel_rfl
theorem bru_data:(Rows.laid_math_bits_deBruijn64tab:DataW Unit)=Go.Lib.tabData .u8 bru64:=by kernel_rfl
abbrev zji:List (String×DataW Unit):=[("math/bits.deBruijn32tab",Rows.laid_math_bits_deBruijn32tab),("math/bits.deBruijn64tab",Rows.laid_math_bits_deBruijn64tab),("internal/strconv.uint64pow10",Rows.laid_internal_strconv_uint64pow10),("unicode/utf8.acceptRanges",Rows.laid_unicode_utf8_acceptRanges),
 ("strconv.ErrRange",Rows.laid_strconv_ErrRange),("strconv.ErrSyntax",Rows.laid_strconv_ErrSyntax),("unicode.White_Space",Rows.laid_unicode_White_Space),("strings.asciiSpace",Rows.laid_strings_asciiSpace),("unicode/utf8.first",Rows.laid_unicode_utf8_first)]
theorem zpz : "*" ++ "errors.errorString" = "*errors.errorString" := by decide
theorem err_row:∀u,PP.typeName? 3 u=some "*errors.errorString" → u=AH:=fun u h=>
 typeName_ptr_named (nm := "errors.errorString") (by rw[zpz];kernel_rfl) (by kernel_rfl) (by decide) u (by rw[zpz];exact h)
theorem laid_errs{W:World}(h:laidMetH PP zji W):(∃p ty fz,W.heap[AC]?=some (.cells #[.iface AH p] ty fz))∧(∃p ty fz,W.heap[AB]?=some (.cells #[.iface AH p] ty fz)):=by have h:laidMet PP zji W:=h;have h4:=h.tail.tail.tail.tail;obtain⟨a,s,hv,_⟩:=laid_sentinel (g:=AC) (ti:=AG) (tp:=AH) (te:=B7) (ts:=Ac) h4 (by kernel_rfl) (by kernel_rfl) Go.Proofs.Tryz.underlying114 err_row (by kernel_rfl) Go.Proofs.Tryz.underlying269 rfl rfl (by kernel_rfl) (by kernel_rfl) (by kernel_rfl);obtain⟨a2,s2,hv2,_⟩:=laid_sentinel (g:=AB) (ti:=AG) (tp:=AH) (te:=B7) (ts:=Ac) h4.tail (by kernel_rfl) (by kernel_rfl) Go.Proofs.Tryz.underlying114 err_row (by kernel_rfl) Go.Proofs.Tryz.underlying269 rfl rfl (by kernel_rfl) (by kernel_rfl) (by kernel_rfl);obtain⟨t1,z1,e1⟩:=zjo (by kernel_rfl) hv;obtain⟨t2,z2,e2⟩:=zjo (by kernel_rfl) hv2;exact⟨⟨_,t1,z1,e1⟩,⟨_,t2,z2,e2⟩⟩
theorem laid_tabs{W:World}(h:laidMetH PP zji W):(∃ty fz,W.heap[AA]?=some (.cells (zp3.map fun z=>Value.int .u64 z).toArray ty fz)) ∧
  (∃ty fz,W.heap[AI]?=some (.cells (zj8.map fun z=>Value.int .u8 z).toArray ty fz))∧(∃ty fz,W.heap[AJ]?=some (.cells (bru64.map fun z=>Value.int .u8 z).toArray ty fz)):=by
 have h:laidMet PP zji W:=h;obtain⟨q1,h1,_⟩:=h.tail;obtain⟨q2,h2,_⟩:=h.tail.tail;obtain⟨q7,h7,_⟩:=h.tail.tail.tail.tail.tail.tail.tail;rw[bru_data]at h1;rw[pow_data]at h2;rw[spc_data]at h7
 exact⟨zf3 (by kernel_rfl) (t:=Cv) (e:=Ab) (n:=20) (by kernel_rfl) (by kernel_rfl) (by kernel_rfl) (by kernel_rfl) (by kernel_rfl) h2,
  zf3 (by kernel_rfl) (t:=Cw) (e:=Ad) (n:=256) (by kernel_rfl) (by kernel_rfl) (by kernel_rfl) (by kernel_rfl) (by kernel_rfl) h7,
  zf3 (by kernel_rfl) (t:=Cx) (e:=Ad) (n:=64) (by kernel_rfl) (by kernel_rfl) (by kernel_rfl) (by kernel_rfl) (by kernel_rfl) h1⟩
theorem start{W:World}(hsz:PP.globals.size≤W.heap.size)(h:laidMetH PP zji W):∃H0,Rel PP W H0 (B00 PP)∧(∀i o,H0.get i=some o→o.own=false)∧Laid H0:=by
 obtain⟨⟨t1,z1,e1⟩,⟨t2,z2,e2⟩,t3,z3,e3⟩:=laid_tabs h;obtain⟨⟨p4,t4,z4,e4⟩,p5,t5,z5,e5⟩:=laid_errs h;let Fx:Nat→Option AObj:=fun i=>if i=AA then some (.fix (.cells (zp3.map fun z=>Value.int .u64 z).toArray t1 z1)) else if i=AI then some (.fix (.cells (zj8.map fun z=>Value.int .u8 z).toArray t2 z2))
  else if i=AJ then some (.fix (.cells (bru64.map fun z=>Value.int .u8 z).toArray t3 z3)) else if i=AC then some (.fix (.cells #[.iface AH p4] t4 z4)) else if i=AB then some (.fix (.cells #[.iface AH p5] t5 z5)) else none
 obtain⟨r1,r2⟩:=relStart (P:=PP) hsz (F:=Fx) (fun i o hi=>by
  have hi:(if i=AA then _ else if i=AI then _ else if i=AJ then _ else if i=AC then _ else if i=AB then _ else none)=some o:=hi;split at hi
  ·rename_i q;subst q;cases hi;exact .inl ⟨_,rfl,e1⟩
  ·split at hi
   ·rename_i q;subst q;cases hi;exact .inl ⟨_,rfl,e2⟩
   ·split at hi
    ·rename_i q;subst q;cases hi;exact .inl ⟨_,rfl,e3⟩
    ·split at hi
     ·rename_i q;subst q;cases hi;exact .inl ⟨_,rfl,e4⟩
     ·split at hi
      ·rename_i q;subst q;cases hi;exact .inl ⟨_,rfl,e5⟩
      ·cases hi)
 have g:∀i,i<PP.globals.size→(HS PP Fx).get i=Fx i:=fun i hi=>if_pos hi;have lt:∀i,i<11→i<PP.globals.size:=fun i hi=>by rw[zfM];omega
 refine⟨_,r1,r2,⟨Nat.le_refl _,⟨⟨_,t1,z1,(g _ (lt _ (by decide))).trans rfl,?_⟩,⟨_,t2,z2,(g _ (lt _ (by decide))).trans rfl,?_⟩,⟨_,t3,z3,(g _ (lt _ (by decide))).trans rfl,?_⟩⟩,⟨_,t5,z5,(g _ (lt _ (by decide))).trans rfl,rfl⟩,⟨_,t4,z4,(g _ (lt _ (by decide))).trans rfl,rfl⟩⟩⟩
 ·kernel_rfl
 ·kernel_rfl
 ·kernel_rfl
noncomputable def zmR(os:Os):World:=
 let N:=(World.settled PP os).heap.size
 let w0:=World.holding PP os ⟨#[.cells (Go.Lib.whiteT.map fun (z:Nat)=>Value.int .u16 (z:Int)).toArray CA,.cells #[.slice (some ⟨N,0,none⟩) 7 7,.slice none 0 0,.int .i64 2] CB,
  .cells #[.string ⟨#[105,110,118,97,108,105,100,32,115,121,110,116,97,120]⟩] B7,.cells #[.string ⟨#[118,97,108,117,101,32,111,117,116,32,111,102,32,114,97,110,103,101]⟩] B7],#[],[]⟩
 let put (h:Array Obj) (g:Nat) (cs:Array Value):Array Obj:=h.modify g fun
  |.cells _ t frozen=>.cells cs t frozen
  |o=>o
 let h1:=put w0.heap AI (zj8.map fun z=>Value.int .u8 z).toArray
 let h2:=put h1 AA (zp3.map fun z=>Value.int .u64 z).toArray
 let h3:=put h2 AJ (bru64.map fun z=>Value.int .u8 z).toArray
 let h4:=put h3 Ck (Go.Lib.deBruijn32tab.map fun (z:Nat)=>Value.int .u8 (z:Int)).toArray
 let h5:=put h4 Ch #[.pointer (some ⟨N+1,0,none⟩)]
 let h6:=put h5 AB #[.iface AH (.pointer (some ⟨N+2,0,none⟩))]
 let h7:=put h6 AC #[.iface AH (.pointer (some ⟨N+3,0,none⟩))]
 let h8:=put h7 Ci (Go.Lib.firstTab.map fun z=>Value.int .u8 z).toArray
 let h9:=put h8 Cj (((List.range 16).flatMap fun i=>[Value.int .u8 (Go.Lib.accLo i),Value.int .u8 (Go.Lib.accHi i)]).toArray)
 { w0 with heap:=h9 }
set_option maxRecDepth 1000000
noncomputable abbrev nS:Nat:=(World.settled PP default).heap.size
end Go.AM
namespace Go.AM.N14
open Go Go.AM
abbrev W64:=BitVec 64
theorem bit_eq{a b:W64}(h:∀j,a.getLsbD j=b.getLsbD j):a=b:=BitVec.eq_of_getLsbD_eq fun i _=>h i
theorem bit_hi(a:W64){j:Nat}(h:64≤j):a.getLsbD j=false:=BitVec.getLsbD_of_ge a j h
theorem zn1{x y i:Nat}(hx:x.testBit i=false)(hy:y.testBit i=true)(h:∀j,i<j→x.testBit j=y.testBit j):x<y:=by
 have e:x/2^(i+1)=y/2^(i+1):=Nat.eq_of_testBit_eq fun j=>by rw[Nat.testBit_div_two_pow,Nat.testBit_div_two_pow];exact h _ (by omega)
 have p:∀z:Nat,z/2^(i+1)=z/2^i/2:=fun z=>by rw[Nat.pow_succ,Nat.div_div_eq_div_mul]
 rw[p,p]at e;rw[Nat.testBit_eq_decide_div_mod_eq]at hx hy;have hx:¬x/2^i%2=1:=of_decide_eq_false hx;have hy:y/2^i%2=1:=of_decide_eq_true hy;have:x/2^i<y/2^i:=by omega
 exact Nat.lt_of_not_le fun hle=>by have:=Nat.div_le_div_right (c:=2^i) hle;omega
theorem zqd{a b:W64}{i:Nat}(h1:a.getLsbD i=false)(h2:b.getLsbD i=true)(h:∀j,i<j→a.getLsbD j=b.getLsbD j):a.toNat<b.toNat:=
 zn1 (i:=i) (by rw[BitVec.testBit_toNat];exact h1) (by rw[BitVec.testBit_toNat];exact h2) fun j hj=>by rw[BitVec.testBit_toNat,BitVec.testBit_toNat];exact h j hj
theorem zqr{a b:Nat}(h:a≠b):∃i,a.testBit i≠b.testBit i∧∀j,i<j→a.testBit j=b.testBit j:=by
 have hx:a ^^^ b≠0:=fun e=>h (Nat.eq_of_testBit_eq fun j=>by have q:=congrArg (fun z=>Nat.testBit z j) e;simpa using q);refine⟨(a ^^^ b).log2,?_,fun j hj=>?_⟩
 ·have:(a ^^^ b).testBit (a ^^^ b).log2=true:=Nat.testBit_log2 hx;rw[Nat.testBit_xor]at this;intro e;rw[e]at this;simp at this
 ·have hl:a ^^^ b<2^j:=Nat.lt_of_lt_of_le Nat.lt_log2_self (Nat.pow_le_pow_right (by decide) hj);have:(a ^^^ b).testBit j=false:=Nat.testBit_lt_two_pow hl;rw[Nat.testBit_xor]at this;simpa using this
theorem zqs{a b:W64}(h:a.toNat<b.toNat):∃i,i<64∧a.getLsbD i=false∧b.getLsbD i=true∧∀j,i<j→a.getLsbD j=b.getLsbD j:=by
 obtain⟨i,h1,h2⟩:=zqr (a:=a.toNat) (b:=b.toNat) (by omega);rw[BitVec.testBit_toNat,BitVec.testBit_toNat]at h1;have h2:∀j,i<j→a.getLsbD j=b.getLsbD j:=fun j hj=>by have:=h2 j hj;rwa [BitVec.testBit_toNat,BitVec.testBit_toNat]at this
 have hi:i<64:=by
  rcases Nat.lt_or_ge i 64 with q|q
  ·exact q
  ·rw[bit_hi a q,bit_hi b q]at h1;exact absurd rfl h1
 cases ha:a.getLsbD i with
 |false=>
  refine⟨i,hi,ha,?_,h2⟩;cases hb:b.getLsbD i with
  |true=>rfl
  |false=>rw[ha,hb]at h1;exact absurd rfl h1
 |true=>
  cases hb:b.getLsbD i with
  |true=>rw[ha,hb]at h1;exact absurd rfl h1
  |false=>have:=zqd hb ha fun j hj=>(h2 j hj).symm;omega
def Fit(o z x:W64):Prop:=∀j,(o.getLsbD j=true→x.getLsbD j=true)∧(z.getLsbD j=true→x.getLsbD j=false)
theorem part{o z x t:W64}(hf:Fit o z t)(hl:x.toNat<t.toNat):∃i,i<64∧x.getLsbD i=false∧t.getLsbD i=true∧z.getLsbD i=false∧(∀j,i<j→t.getLsbD j=x.getLsbD j) ∧
  (∀j,i<j→(o.getLsbD j=true→x.getLsbD j=true)∧(z.getLsbD j=true→x.getLsbD j=false)):=by
 obtain⟨i,h1,h2,h3,h4⟩:=zqs hl;refine⟨i,h1,h2,h3,?_,fun j hj=>(h4 j hj).symm,fun j hj=>?_⟩
 ·cases hz:z.getLsbD i with
  |false=>rfl
  |true=>rw[(hf i).2 hz]at h3;cases h3
 ·rw[h4 j hj];exact hf j
def msk(n:Nat):W64:=BitVec.ofNat 64 (2^n-1)
theorem zjK(n j:Nat):(msk n).getLsbD j=(decide (j<64)&&decide (j<n)):=by unfold msk;rw[BitVec.getLsbD_ofNat,Nat.testBit_two_pow_sub_one]
theorem msk_all:msk 64=BitVec.allOnes 64:=rfl
theorem zlB(n:Nat)(hn:n≤64):(msk n).toNat=2^n-1:=by unfold msk;have:2^n≤2^64:=Nat.pow_le_pow_right (by decide) hn;have:=Nat.two_pow_pos n;rw[BitVec.toNat_ofNat,Nat.mod_eq_of_lt (by omega)]
theorem zbu{y:W64}{n:Nat}(hn:n≤64):y.toNat≤(msk n).toNat↔∀j,n≤j→y.getLsbD j=false:=by
 rw[zlB n hn];have p:=Nat.two_pow_pos n;constructor
 ·intro h j hj;rw[←BitVec.testBit_toNat];exact Nat.testBit_lt_two_pow (Nat.lt_of_lt_of_le (show y.toNat<2^n by omega) (Nat.pow_le_pow_right (by decide) hj))
 ·intro h;have:y.toNat<2^n:=Nat.lt_pow_two_of_testBit _ fun i hi=>by rw[BitVec.testBit_toNat];exact h i hi
  omega
structure Fct where
 w:Int
 one:W64
 zero:W64
 least:W64
 top:W64
section
variable {α:Type}
theorem u_all:Value.int .u64 18446744073709551615=wv (msk 64):=rfl
theorem cu64(n:Nat)(h:n<18446744073709551616)(k:Value→Option α):zaj .u64 (.int .i64 (n:Int)) k=k (.int .u64 (n:Int)):=by rw[ziN,q_u64 (by omega) (by omega)]
end
def wd(w:Int):Nat:=(max w 1).toNat
theorem wd_le{w:Int}(h:w≤64):wd w≤64:=by unfold wd;omega
theorem wd_pos(w:Int):1≤wd w:=by unfold wd;omega
theorem msk_toNat{n:Nat}(hn:n≤64)(x:W64):(x&&&msk n).toNat=x.toNat%2^n:=by rw[BitVec.toNat_and,zlB n hn,Nat.and_two_pow_sub_one_eq_mod]
theorem zoC{n:Nat}(h0:1≤n)(hn:n≤64)(x:W64):zdR (n:Int) (x.toNat:Int)=((x&&&msk n).toNat:Int):=by
 unfold zdR;rw[if_neg (by omega),msk_toNat hn];by_cases h:n=64
 ·subst h;rw[if_pos (by decide),Nat.mod_eq_of_lt x.isLt]
 ·rw[if_neg (by omega),Int.toNat_natCast];simp
theorem zbF{n:Nat}(h0:1≤n)(hn:n≤64)(x:W64)(H:Hp):RR Af [.int .i64 (n:Int),wv x] H=some (wv (x&&&msk n),H):=by have:=c45 (n:Int) (x.toNat:Int) (by omega) (by have:=x.isLt;omega) H;rw[zoC h0 hn]at this;exact this
theorem zdq{n:Nat}(h0:1≤n)(hn:n≤64)(H:Hp):RR Aq [.int .i64 (n:Int)] H=some (.bool true,H):=by refine(zmt E0 rfl _ _).trans ?_;unfold zhP;rw[zcQ,bT (by omega),zf5,decide_eq_true (by omega)]
def sg(n:Nat)(x:W64):Int:=(x.setWidth n).toInt
theorem sg_eq{n:Nat}(x:W64):sg n x=if 2*(x.toNat%2^n)<2^n then ((x.toNat%2^n:Nat):Int) else ((x.toNat%2^n:Nat):Int)-((2^n:Nat):Int):=by unfold sg;rw[BitVec.toInt_eq_toNat_cond,BitVec.toNat_setWidth]
theorem i_conv{α:Type}(y:W64)(k:Value→Option α):zaj .i64 (wv y) k=k (.int .i64 y.toInt):=by show k (.int .i64 (IntKind.i64.wrap (y.toNat:Int)))=_;congr 2;rw[BitVec.toInt_eq_toNat_cond];have:=y.isLt;simp only[IntKind.wrap,IntKind.signed,IntKind.bits];simp;split<;>split<;>omega
theorem i_shr{α:Type}{P:Program}(T:TypeId)(a:Int)(kd:IntKind)(m:Nat)(hm:m≤64)(k:Value→Option α):pBin P .shr T (.int .i64 a) (.int kd (m:Int)) k=k (.int .i64 (a/(2:Int)^m)):=by
 have:binV P .shr T (.int .i64 a) (.int kd (m:Int))=some (.int .i64 (a/(2:Int)^m)):=by show (if (m:Int)<0 then none else some (Value.int .i64 (a.fdiv (2^(min ((m:Int).toNat) 64)))))=_;rw[if_neg (by omega),Int.toNat_natCast,Nat.min_eq_left hm,Int.fdiv_eq_ediv_of_nonneg _ (Int.le_of_lt (Int.pow_pos (by decide)))]
 unfold pBin;rw[this]
theorem sg_shift{n:Nat}(h0:1≤n)(hn:n≤64)(x:W64):(x <<< (64-n)).toInt/(2:Int)^(64-n)=sg n x:=by
 rw[sg_eq,BitVec.toInt_eq_toNat_cond,BitVec.toNat_shiftLeft,Nat.shiftLeft_eq];have e:(2:Nat)^64=2^n*2^(64-n):=by rw[←Nat.pow_add];congr 1;omega
 have e1:x.toNat*2^(64-n)%2^64=x.toNat%2^n*2^(64-n):=by rw[e,Nat.mul_mod_mul_right]
 rw[e1];have hp:0<2^(64-n):=Nat.two_pow_pos _;have ep:((2:Int)^(64-n))=((2^(64-n):Nat):Int):=by push_cast;rfl
 rw[ep];generalize x.toNat%2^n=t;generalize hm:2^(64-n)=m at *;have e2:(2*(t*m)<2^64)↔2*t<2^n:=by rw[e,show 2*(t*m)=2*t*m by rw[Nat.mul_assoc]];exact Nat.mul_lt_mul_right hp
 have hm0:(m:Int)≠0:=by omega
 by_cases h:2*t<2^n
 ·rw[if_pos h,if_pos (e2.2 h)];push_cast;rw[Int.mul_ediv_cancel _ hm0]
 ·rw[if_neg h,if_neg (fun q=>h (e2.1 q)),e];have:((t*m:Nat):Int)-((2^n*m:Nat):Int)=(((t:Nat):Int)-((2^n:Nat):Int))*(m:Int):=by rw[Int.natCast_mul,Int.natCast_mul,Int.sub_mul]
  rw[this,Int.mul_ediv_cancel _ hm0]
theorem zid{n:Nat}(h0:1≤n)(hn:n≤64)(x:W64)(H:Hp):RR AQ [.int .i64 (n:Int),wv x] H=some (.int .i64 (sg n x),H):=by
 refine(zln E0 rfl _ _ _).trans ?_;unfold zgS;have e:IntKind.i64.wrap (64-(n:Int))=((64-n:Nat):Int):=by rw[zaA (by omega) (by omega)];omega
 rw[zae (zdq h0 hn H),zb9,zac,show (!true)=false from rfl,zaD,zc0,e,cu64 _ (by omega),b_shl,i_conv,i_shr _ _ _ _ (by omega),sg_shift h0 hn]
def atM(op:Int)(n k j:Nat):Option Nat:=
 if op=25 then (if k≤j then some (j-k) else none) else if op=26 then (if j+k<n then some (j+k) else none) else if op=27 then some (min (j+k) (n-1)) else if op=28 then some ((j+n-k)%n) else some ((j+k)%n)
def bitAt(x:W64):Option Nat→Bool
 |some i=>x.getLsbD i
 |none=>false
def zh6(op:Int)(n:Nat)(x:W64)(k:Nat)(v:W64):Prop:=∀j,v.getLsbD j=(decide (j<n)&&bitAt x (atM op n k j))
theorem zh6.eq{op:Int}{n:Nat}{x:W64}{k:Nat}{v w:W64}(h1:zh6 op n x k v)(h2:zh6 op n x k w):v=w:=bit_eq fun j=>by rw[h1 j,h2 j]
theorem znY{n k:Nat}(h0:1≤n)(hn:n≤64)(x:W64):BitVec.ofInt 64 (sg n x/(2:Int)^k)=((x.setWidth n).signExtend 64).sshiftRight k:=by
 have e1:((x.setWidth n).signExtend 64).toInt=sg n x:=by rw[BitVec.toInt_signExtend_of_le hn];rfl
 have e2:(((x.setWidth n).signExtend 64).sshiftRight k).toInt=sg n x/(2:Int)^k:=by rw[BitVec.toInt_sshiftRight,e1,Int.shiftRight_eq_div_pow];norm_cast
 rw[←e2,BitVec.ofInt_toInt]
theorem sar_bits{n k:Nat}(h0:1≤n)(hn:n≤64)(hk:k<n)(x:W64):zh6 27 n x k (((x.setWidth n).signExtend 64).sshiftRight k&&&msk n):=fun j=>by
 rw[BitVec.getLsbD_and,zjK,BitVec.getLsbD_sshiftRight];have hat:atM 27 n k j=some (min (j+k) (n-1)):=by unfold atM;rw[if_neg (by decide),if_neg (by decide),if_pos rfl]
 rw[hat];show _=(decide (j<n)&&x.getLsbD (min (j+k) (n-1)))
 by_cases hj:j<n
 ·have h64:j<64:=by omega
  rw[decide_eq_true h64,decide_eq_true hj,decide_eq_false (show ¬64≤j by omega)];have hs:∀i,i<64→((x.setWidth n).signExtend 64).getLsbD i=x.getLsbD (min i (n-1)):=fun i hi=>by
   rw[BitVec.getLsbD_signExtend,BitVec.msb_eq_getLsbD_last,BitVec.getLsbD_setWidth,BitVec.getLsbD_setWidth];by_cases q:i<n
   ·rw[if_pos q,Nat.min_eq_left (by omega)];simp[hi,q]
   ·rw[if_neg q,Nat.min_eq_right (by omega)];simp[hi,show n-1<n by omega]
  have hm:((x.setWidth n).signExtend 64).msb=x.getLsbD (n-1):=by rw[BitVec.msb_eq_getLsbD_last,hs (64-1) (by decide),Nat.min_eq_right (by omega)]
  by_cases hjk:k+j<64
  ·rw[if_pos hjk,hs _ hjk,Nat.add_comm k j];simp
  ·rw[if_neg hjk,hm,Nat.min_eq_right (by omega)];simp
 ·rw[decide_eq_false hj];simp
theorem shl_bits{n k:Nat}(hn:n≤64)(hk:k<n){x:W64}:zh6 25 n x k (x <<< k&&&msk n):=fun j=>by
 rw[BitVec.getLsbD_and,zjK,BitVec.getLsbD_shiftLeft];unfold atM bitAt;rw[if_pos rfl];by_cases hj:j<n
 ·have h64:j<64:=by omega
  by_cases hk2:k≤j
  ·rw[if_pos hk2];simp[hj,h64,show ¬j<k by omega]
  ·rw[if_neg hk2];simp[show j<k by omega]
 ·rw[decide_eq_false hj];simp
theorem shr_bits{n k:Nat}(hn:n≤64)(hk:k<n){x:W64}(hx:x.toNat≤(msk n).toNat):zh6 26 n x k (x >>> k):=fun j=>by
 have hz:=(zbu hn).1 hx;rw[BitVec.getLsbD_ushiftRight];unfold atM bitAt;rw[if_neg (by decide),if_pos rfl];by_cases hj:j+k<n
 ·rw[if_pos hj,Nat.add_comm k j];simp[show j<n by omega]
 ·rw[if_neg hj,hz _ (by omega)];simp
theorem zoR{n k:Nat}(hn:n≤64)(hk:k<n){x:W64}(hx:x.toNat≤(msk n).toNat)(j:Nat):((x <<< k|||x >>> (n-k))&&&msk n).getLsbD j=(decide (j<n)&&x.getLsbD ((j+n-k)%n)):=by
 have hz:=(zbu hn).1 hx;rw[BitVec.getLsbD_and,zjK,BitVec.getLsbD_or,BitVec.getLsbD_shiftLeft,BitVec.getLsbD_ushiftRight];by_cases hj:j<n
 ·have h64:j<64:=by omega
  by_cases hk2:k≤j
  ·have:(j+n-k)%n=j-k:=by rw[show j+n-k=(j-k)+n by omega,Nat.add_mod_right,Nat.mod_eq_of_lt (by omega)]
   rw[this,hz (n-k+j) (by omega)];simp[hj,h64,show ¬j<k by omega]
  ·have:(j+n-k)%n=n-k+j:=by rw[Nat.mod_eq_of_lt (by omega)];omega
   rw[this];simp[hj,h64,show j<k by omega]
 ·rw[decide_eq_false hj];simp
theorem p_moved{op:Int}(hop:25≤op∧op≤29){n k:Nat}(h0:1≤n)(hn:n≤64)(hk:k<n){x:W64}(hx:x.toNat≤(msk n).toNat)(H:Hp):∃v:W64,zh6 op n x k v∧RR Be [.int .i64 op,.int .i64 (n:Int),wv x,.int .i64 (k:Int)] H=some (wv v,H):=by
 have hr:=zmr E0 rfl (.int .i64 op) (.int .i64 (n:Int)) (wv x) (.int .i64 (k:Int)) H;unfold zhN at hr;rw[zaO,zac]at hr;by_cases h25:op=25
 ·subst h25;rw[decide_eq_true rfl,zaP,cu64 _ (by omega),b_shl,zae (zbF h0 hn _ H)]at hr;exact⟨_,shl_bits hn hk,hr⟩
 rw[decide_eq_false h25,zaD,zaO,zac]at hr;by_cases h26:op=26
 ·subst h26;rw[decide_eq_true rfl,zaP,cu64 _ (by omega),zng]at hr;exact⟨_,shr_bits hn hk hx,hr⟩
 rw[decide_eq_false h26,zaD,zaO,zac]at hr;by_cases h27:op=27
 ·subst h27;have hc:∀(a:Int) (f:Value→Option (Value×Hp)),zaj .u64 (.int .i64 a) f=f (wv (BitVec.ofInt 64 a)):=fun a f=>by rw[zhE,zep]
  rw[decide_eq_true rfl,zaP,zae (zid h0 hn x H),cu64 _ (by omega),i_shr _ _ _ _ (by omega),hc,znY h0 hn,zae (zbF h0 hn _ H)]at hr;exact⟨_,sar_bits h0 hn hk x,hr⟩
 rw[decide_eq_false h27,zaD,zaO,zac]at hr;by_cases h29:op=29
 ·subst h29;have e1:IntKind.i64.wrap ((n:Int)-(k:Int))=((n-k:Nat):Int):=by rw[zaA (by omega) (by omega)];omega
  have e2:(((n-k:Nat):Int)).tmod (n:Int)=(((n-k)%n:Nat):Int):=rfl;have hlt:(n-k)%n<n:=Nat.mod_lt _ (by omega);have e3:IntKind.i64.wrap ((n:Int)-(((n-k)%n:Nat):Int))=((n-(n-k)%n:Nat):Int):=by rw[zaA (by omega) (by omega)];omega
  rw[decide_eq_true rfl,zaP,zc0,e1,s_rem _ _ _ _ (by omega),e2,cu64 _ (by omega),b_shl,zc0,e3,cu64 _ (by omega),zng,b_or,zae (zbF h0 hn _ H)]at hr;refine⟨_,fun j=>?_,hr⟩;rw[zoR hn hlt hx];unfold atM bitAt;rw[if_neg (by decide),if_neg (by decide),if_neg (by decide),if_neg (by decide)];dsimp only;by_cases hj:j<n
  ·have:(j+n-(n-k)%n)%n=(j+k)%n:=by
    by_cases hk0:k=0
    ·subst hk0;rw[Nat.sub_zero,Nat.mod_self,Nat.sub_zero,Nat.add_mod_right,Nat.add_zero]
    ·rw[Nat.mod_eq_of_lt (show n-k<n by omega),show j+n-(n-k)=j+k by omega]
   rw[this]
  ·rw[decide_eq_false hj];rfl
 have h28:op=28:=by omega
 subst h28;have e1:IntKind.i64.wrap ((n:Int)-(k:Int))=((n-k:Nat):Int):=by rw[zaA (by omega) (by omega)];omega
 rw[decide_eq_false h29,zaD,cu64 _ (by omega),b_shl,zc0,e1,cu64 _ (by omega),zng,b_or,zae (zbF h0 hn _ H)]at hr;refine⟨_,fun j=>?_,hr⟩;rw[zoR hn hk hx];unfold atM bitAt;rw[if_neg (by decide),if_neg (by decide),if_neg (by decide),if_pos rfl]
end Go.AM.N14
namespace Go.AM.N14
open Go Go.AM
open Classical in
noncomputable def movW(op:Int)(n:Nat)(x:W64)(k:Nat):W64:=if h:∃v,zh6 op n x k v then Classical.choose h else 0#64
theorem movW_eq{op:Int}{n:Nat}{x:W64}{k:Nat}{v:W64}(h:zh6 op n x k v):movW op n x k=v:=by
 have hx:∃v,zh6 op n x k v:=⟨v,h⟩
 unfold movW;rw[dif_pos hx];exact zh6.eq (Classical.choose_spec hx) h
theorem p_mov{op:Int}(hop:25≤op∧op≤29){n k:Nat}(h0:1≤n)(hn:n≤64)(hk:k<n){x:W64}(hx:x.toNat≤(msk n).toNat)(H:Hp):RR Be [.int .i64 op,.int .i64 (n:Int),wv x,.int .i64 (k:Int)] H=some (wv (movW op n x k),H):=by obtain⟨v,h1,h2⟩:=p_moved hop h0 hn hk hx H;rw[movW_eq h1];exact h2
theorem zeg{n:Nat}(hn:n≤64)(x:W64):(x&&&msk n).toNat≤(msk n).toNat:=(zbu hn).2 fun j hj=>by rw[BitVec.getLsbD_and,zjK];simp[show ¬j<n by omega]
theorem zkz{n:Nat}(hn:n≤64){x:W64}(h:x.toNat≤(msk n).toNat):x&&&msk n=x:=bit_eq fun j=>by
 rw[BitVec.getLsbD_and,zjK];by_cases hj:j<n
 ·simp[hj,show j<64 by omega]
 ·rw[(zbu hn).1 h j (by omega)];rfl
theorem b_quo{α:Type}{P:Program}(T:TypeId){a b:W64}(hb:b≠0#64)(k:Value→Option α):pBin P .quo T (wv a) (wv b) k=k (wv (a/b)):=by
 have hb2:(b.toNat:Int)≠0:=fun q=>hb (BitVec.eq_of_toNat_eq (by simpa using q));have:binV P .quo T (wv a) (wv b)=some (wv (a/b)):=by
  show (if (b.toNat:Int)=0 then none else some (Value.int .u64 (IntKind.u64.wrap ((a.toNat:Int).tdiv (b.toNat:Int)))))=_;rw[if_neg hb2];have e:((a.toNat:Int).tdiv (b.toNat:Int))=(((a/b).toNat:Nat):Int):=by rw[BitVec.toNat_udiv];rfl
  rw[e,zjF];rfl
 unfold pBin;rw[this]
theorem b_rem{α:Type}{P:Program}(T:TypeId){a b:W64}(hb:b≠0#64)(k:Value→Option α):pBin P .rem T (wv a) (wv b) k=k (wv (a%b)):=by
 have hb2:(b.toNat:Int)≠0:=fun q=>hb (BitVec.eq_of_toNat_eq (by simpa using q));have e:((a.toNat:Int).tmod (b.toNat:Int))=(((a%b).toNat:Nat):Int):=by rw[BitVec.toNat_umod];rfl
 show pBin P .rem T (.int .u64 (a.toNat:Int)) (.int .u64 (b.toNat:Int)) k=_;rw[s_rem _ _ _ _ hb2,e];rfl
noncomputable def binW(op:Int)(n:Nat)(x y:W64):W64:=
 let X:=x&&&msk n
 let Y:=y&&&msk n
 if op=17 then X&&&Y else if op=18 then X|||Y else if op=19 then X ^^^ Y else if op=20 then (X+Y)&&&msk n else if op=21 then (X-Y)&&&msk n else if op=22 then (X*Y)&&&msk n
 else if op=23 then (if Y=0#64 then msk n else X/Y) else if op=24 then (if Y=0#64 then X else X%Y) else movW op n X (Y.toNat%n)
theorem zlt{op:Int}(H:Hp):RR Bf [.int .i64 op] H=some (.bool (decide (25≤op∧op≤29)),H):=by
 refine(zlm E0 rfl _ _).trans ?_;unfold zgR;rw[zcQ,zac];by_cases h:op≥25
 ·rw[decide_eq_true h,zaP,zf5];congr 3;simp[show (25:Int)≤op from h]
 ·rw[decide_eq_false h,zaD];congr 3;simp[show ¬(25:Int)≤op from h]
theorem mod_bits{n:Nat}(hn:n≤64)(h0:1≤n){α:Type}(Y:W64)(k:Value→Option α):(pBin PP .rem Ab (wv Y) (.int .u64 (n:Int)) fun v=>zaj .i64 v k)=k (.int .i64 ((Y.toNat%n:Nat):Int)):=by unfold wv;rw[s_rem _ _ _ _ (by omega)];have e:((Y.toNat:Int).tmod (n:Int))=((Y.toNat%n:Nat):Int):=rfl;have hlt:Y.toNat%n<n:=Nat.mod_lt _ (by omega);rw[e,zhE,zaA (by omega) (by omega)]
theorem p_bin{op:Int}(hop:17≤op∧op≤29){n:Nat}(h0:1≤n)(hn:n≤64)(hs:25≤op→isPow (n:Int)=true)(x y:W64)(H:Hp):RR BE [.int .i64 op,.int .i64 (n:Int),wv x,wv y] H=some (.tuple #[wv (binW op n x y),.int .i64 0],H):=by
 have hr:=zp1 E0 rfl (.int .i64 op) (.int .i64 (n:Int)) (wv x) (wv y) H;unfold zkF at hr;have hX:=zeg hn x;have hY:=zeg hn y;rw[lF (by omega),zci,bF (by omega),zap,zaN,zae (zdq h0 hn H),zb9,zac,show (!true)=false from rfl,zaD,zae (zlt H),zac]at hr;unfold binW;dsimp only;by_cases h25:25≤op
 ·have hsh:decide (25≤op∧op≤29)=true:=decide_eq_true ⟨h25,hop.2⟩;have hpop:decide (pops.getD n 0=1)=true:=(zo2 n (by omega)).trans (hs h25);have hone:pops.getD n 0=1:=of_decide_eq_true hpop;have e53:=c53 (n:Int) (by omega) (by omega) H;rw[Int.toNat_natCast,hone]at e53;have hlt:(y&&&msk n).toNat%n<n:=Nat.mod_lt _ (by omega);rw[hsh,zaP,cu64 _ (by omega),zae e53,zbt,bF (by decide),zap,zaN,zae (zbF h0 hn x H),zae (zbF h0 hn y H),zae (zlt H),hsh,zac,zaP,cu64 _ (by omega),mod_bits hn h0,zae (p_mov ⟨h25,hop.2⟩ h0 hn hlt hX H)]at hr;rw[if_neg (by omega),if_neg (by omega),if_neg (by omega),if_neg (by omega),if_neg (by omega),if_neg (by omega),if_neg (by omega),if_neg (by omega)];exact hr
 have hsh:decide (25≤op∧op≤29)=false:=decide_eq_false (by omega);rw[hsh,zaD,zap,zaN,zae (zbF h0 hn x H),zae (zbF h0 hn y H),zae (zlt H),hsh,zac,zaD,zaO,zac]at hr;generalize x&&&msk n=X at *;generalize y&&&msk n=Y at *;by_cases h17:op=17
 ·rw[decide_eq_true h17,zaP,b_and,zae (zbF h0 hn _ H)]at hr;have e:(X&&&Y)&&&msk n=X&&&Y:=zkz hn ((zbu hn).2 fun j hj=>by simp only[BitVec.getLsbD_and,BitVec.getLsbD_or,BitVec.getLsbD_xor,(zbu hn).1 hX j hj,(zbu hn).1 hY j hj];rfl);rw[e]at hr;rw[if_pos h17];exact hr
 rw[decide_eq_false h17,zaD,zaO,zac]at hr;by_cases h18:op=18
 ·rw[decide_eq_true h18,zaP,b_or,zae (zbF h0 hn _ H)]at hr;have e:(X|||Y)&&&msk n=X|||Y:=zkz hn ((zbu hn).2 fun j hj=>by simp only[BitVec.getLsbD_and,BitVec.getLsbD_or,BitVec.getLsbD_xor,(zbu hn).1 hX j hj,(zbu hn).1 hY j hj];rfl);rw[e]at hr;rw[if_neg h17,if_pos h18];exact hr
 rw[decide_eq_false h18,zaD,zaO,zac]at hr;by_cases h19:op=19
 ·rw[decide_eq_true h19,zaP,b_xor,zae (zbF h0 hn _ H)]at hr;have e:(X ^^^ Y)&&&msk n=X ^^^ Y:=zkz hn ((zbu hn).2 fun j hj=>by simp only[BitVec.getLsbD_and,BitVec.getLsbD_or,BitVec.getLsbD_xor,(zbu hn).1 hX j hj,(zbu hn).1 hY j hj];rfl);rw[e]at hr;rw[if_neg h17,if_neg h18,if_pos h19];exact hr
 rw[decide_eq_false h19,zaD,zaO,zac]at hr;by_cases h20:op=20
 ·rw[decide_eq_true h20,zaP,b_add,zae (zbF h0 hn _ H)]at hr;rw[if_neg h17,if_neg h18,if_neg h19,if_pos h20];exact hr
 rw[decide_eq_false h20,zaD,zaO,zac]at hr;by_cases h21:op=21
 ·rw[decide_eq_true h21,zaP,b_sub,zae (zbF h0 hn _ H)]at hr;rw[if_neg h17,if_neg h18,if_neg h19,if_neg h20,if_pos h21];exact hr
 rw[decide_eq_false h21,zaD,zaO,zac]at hr;by_cases h22:op=22
 ·rw[decide_eq_true h22,zaP,b_mul,zae (zbF h0 hn _ H)]at hr;rw[if_neg h17,if_neg h18,if_neg h19,if_neg h20,if_neg h21,if_pos h22];exact hr
 rw[decide_eq_false h22,zaD,zaO,zac]at hr;have hz:∀(k:Value→Option (Value×Hp)),pBin PP .neq Ab (wv Y) (.int .u64 0) k=k (.bool (!decide (Y=0#64))):=fun k=>b_neq _ _ 0#64 k;by_cases h23:op=23
 ·rw[decide_eq_true h23,zaP,hz,zac]at hr;rw[if_neg h17,if_neg h18,if_neg h19,if_neg h20,if_neg h21,if_neg h22,if_pos h23];by_cases hy:Y=0#64
  ·rw[decide_eq_true hy,show (!true)=false from rfl,zaD,u_all,zae (zbF h0 hn _ H),show msk 64&&&msk n=msk n by rw[msk_all,BitVec.allOnes_and]]at hr;rw[if_pos hy];exact hr
  ·rw[decide_eq_false hy,show (!false)=true from rfl,zaP,b_quo _ hy,zae (zbF h0 hn _ H),zkz hn (by rw[BitVec.toNat_udiv];exact Nat.le_trans (Nat.div_le_self _ _) hX)]at hr;rw[if_neg hy];exact hr
 rw[decide_eq_false h23,zaD,zaO,zac]at hr;have h24:op=24:=by omega
 rw[decide_eq_true h24,zaP,hz,zac]at hr;rw[if_neg h17,if_neg h18,if_neg h19,if_neg h20,if_neg h21,if_neg h22,if_neg h23,if_pos h24];by_cases hy:Y=0#64
 ·rw[decide_eq_true hy,show (!true)=false from rfl,zaD,zae (zbF h0 hn _ H),zkz hn hX]at hr;rw[if_pos hy];exact hr
 ·rw[decide_eq_false hy,show (!false)=true from rfl,zaP,b_rem _ hy,zae (zbF h0 hn _ H),zkz hn (by rw[BitVec.toNat_umod];exact Nat.le_trans (Nat.mod_le _ _) hX)]at hr;rw[if_neg hy];exact hr
end Go.AM.N14
namespace Go.AM.N14
open Go Go.AM
def unW(op:Int)(n:Nat)(x:W64):W64:=if op=15 then ~~~x&&&msk n else (0#64-x)&&&msk n
def cmpW(op:Int)(n:Nat)(x y:W64):Bool:=
 let X:=x&&&msk n
 let Y:=y&&&msk n
 if op=9 then decide (X=Y) else if op=10 then decide (X.toNat<Y.toNat) else if op=11 then decide (X.toNat≤Y.toNat) else if op=12 then decide (sg n X<sg n Y) else decide (sg n X≤sg n Y)
def catW(n:Nat)(x:W64)(m:Nat)(y:W64):W64:=(x&&&msk n) <<< m|||(y&&&msk m)
def sliceW(n:Nat)(x:W64)(i m:Nat):W64:=(x&&&msk n) >>> i&&&msk m
def extW(op:Int)(n:Nat)(x:W64)(m:Nat):W64:=if op=32 then x&&&msk n else BitVec.ofInt 64 (sg n x)&&&msk m
theorem b_neg{α:Type}(x:W64)(k:Value→Option α):pUn .neg (wv x) k=k (wv (0#64-x)):=by show k (.int .u64 (IntKind.u64.wrap (0-(x.toNat:Int))))=_;rw[zep];congr 2;rw[BitVec.zero_sub];apply BitVec.eq_of_toNat_eq;rw[BitVec.toNat_ofInt,BitVec.toNat_neg];have:=x.isLt;omega
theorem ci_u64{α:Type}(a:Int)(f:Value→Option α):zaj .u64 (.int .i64 a) f=f (wv (BitVec.ofInt 64 a)):=by rw[zhE,zep]
theorem p_un{op:Int}(hop:op=15∨op=16){n:Nat}(h0:1≤n)(hn:n≤64)(x:W64)(H:Hp):RR BO [.int .i64 op,.int .i64 (n:Int),wv x] H=some (.tuple #[wv (unW op n x),.int .i64 0],H):=by
 have hr:=r_bits_Un E0 rfl (.int .i64 op) (.int .i64 (n:Int)) (wv x) H;unfold zmO at hr;unfold unW;rcases hop with rfl|rfl
 ·rw[zbt,bF (by decide),zae (zdq h0 hn H),zb9,zac,show (!true)=false from rfl,zaD,eT rfl,b_not,zae (zbF h0 hn _ H)]at hr;rw[if_pos rfl];exact hr
 ·have hneg:∀(f:Value→Option (Value×Hp)),pUn .neg (wv x) f=f (wv (0#64-x)):=fun f=>b_neg x f;rw[zbt,bT (by decide),zbt,bF (by decide),zae (zdq h0 hn H),zb9,zac,show (!true)=false from rfl,zaD,eF (by decide),hneg,zae (zbF h0 hn _ H)]at hr;rw[if_neg (by decide)];exact hr
theorem p_cmp{op:Int}(hop:9≤op∧op≤13){n:Nat}(h0:1≤n)(hn:n≤64)(x y:W64)(H:Hp):RR BH [.int .i64 op,.int .i64 (n:Int),wv x,wv y] H=some (.tuple #[.bool (cmpW op n x y),.int .i64 0],H):=by
 have hr:=zpZ E0 rfl (.int .i64 op) (.int .i64 (n:Int)) (wv x) (wv y) H;unfold zkD at hr;rw[lF (by omega),zci,bF (by omega),zap,zaN,zae (zdq h0 hn H),zb9,zac,show (!true)=false from rfl,zaD,zae (zbF h0 hn x H),zae (zbF h0 hn y H),zae (zid h0 hn _ H),zae (zid h0 hn _ H),zaO,zac]at hr;unfold cmpW;dsimp only;by_cases h9:op=9
 ·rw[decide_eq_true h9,zaP,b_eql]at hr;rw[if_pos h9];exact hr
 rw[decide_eq_false h9,zaD,zaO,zac]at hr;by_cases h10:op=10
 ·rw[decide_eq_true h10,zaP,b_lss]at hr;rw[if_neg h9,if_pos h10];exact hr
 rw[decide_eq_false h10,zaD,zaO,zac]at hr;by_cases h11:op=11
 ·rw[decide_eq_true h11,zaP,b_leq]at hr;rw[if_neg h9,if_neg h10,if_pos h11];exact hr
 rw[decide_eq_false h11,zaD,zaO,zac]at hr;by_cases h12:op=12
 ·rw[decide_eq_true h12,zaP,za3]at hr;rw[if_neg h9,if_neg h10,if_neg h11,if_pos h12];exact hr
 rw[decide_eq_false h12,zaD,zf5]at hr;rw[if_neg h9,if_neg h10,if_neg h11,if_neg h12];exact hr
theorem p_cat{n m:Nat}(h0:1≤n)(h1:1≤m)(hs:n+m≤64)(x y:W64)(H:Hp):RR BG [.int .i64 (n:Int),wv x,.int .i64 (m:Int),wv y] H=some (.tuple #[wv (catW n x m y),.int .i64 0],H):=by
 have hn:n≤64:=by omega
 have hm:m≤64:=by omega
 have hr:=zp0 E0 rfl (.int .i64 (n:Int)) (wv x) (.int .i64 (m:Int)) (wv y) H;unfold zkE at hr;rw[zae (zdq h0 hn H),zb9,zac,show (!true)=false from rfl,zaD,zae (zdq h1 hm H),zb9,zac,show (!true)=false from rfl,zaD,zaM,zaA (by omega) (by omega),zci,bF (by omega),zae (zbF h0 hn x H),cu64 _ (by omega),b_shl,zae (zbF h1 hm y H),b_or]at hr;exact hr
theorem p_slice{n i m:Nat}(h0:1≤n)(hn:n≤64)(h1:1≤m)(hs:i+m≤n)(x:W64)(H:Hp):RR BL [.int .i64 (n:Int),wv x,.int .i64 (i:Int),.int .i64 (m:Int)] H=some (.tuple #[wv (sliceW n x i m),.int .i64 0],H):=by
 have hm:m≤64:=by omega
 have hr:=zms E0 rfl (.int .i64 (n:Int)) (wv x) (.int .i64 (i:Int)) (.int .i64 (m:Int)) H;unfold zhO at hr;rw[zae (zdq h0 hn H),zb9,zac,show (!true)=false from rfl,zaD,lF (by omega),lF (by omega),zci,bF (by omega),zc0,zaA (by omega) (by omega),zci,bF (by omega),zap,zaN,zae (zbF h0 hn x H),cu64 _ (by omega),zng,zae (zbF h1 hm _ H)]at hr;exact hr
theorem p_ext{op:Int}(hop:op=32∨op=33){n m:Nat}(h0:1≤n)(hs:n≤m)(hm:m≤64)(x:W64)(H:Hp):RR BJ [.int .i64 op,.int .i64 (n:Int),wv x,.int .i64 (m:Int)] H=some (.tuple #[wv (extW op n x m),.int .i64 0],H):=by
 have hn:n≤64:=by omega
 have h1:1≤m:=by omega
 have hr:=zpY E0 rfl (.int .i64 op) (.int .i64 (n:Int)) (wv x) (.int .i64 (m:Int)) H;unfold zkC at hr;unfold extW;rcases hop with rfl|rfl
 ·rw[zbt,bF (by decide),zap,zaN,zae (zdq h0 hn H),zb9,zac,show (!true)=false from rfl,zaD,zae (zdq h1 hm H),zb9,zac,show (!true)=false from rfl,zaD,lF (by omega),zap,zaN,eT rfl,zae (zbF h0 hn _ H)]at hr;rw[if_pos rfl];exact hr
 ·rw[zbt,bT (by decide),zbt,bF (by decide),zap,zaN,zae (zdq h0 hn H),zb9,zac,show (!true)=false from rfl,zaD,zae (zdq h1 hm H),zb9,zac,show (!true)=false from rfl,zaD,lF (by omega),zap,zaN,eF (by decide),zae (zid h0 hn _ H),ci_u64,zae (zbF h1 hm _ H)]at hr;rw[if_neg (by decide)];exact hr
def b2w(c:Bool):W64:=if c=true then 1#64 else 0#64
noncomputable def valW(n:Nd)(wa wb:Nat)(a b c:W64):W64:=
 if n.op=1 then 1#64 else if n.op=2 then 0#64 else if n.op=3 then BitVec.ofInt 64 n.num else if n.op=5 then 1#64-a else if n.op=6 then a&&&b else if n.op=7 then a|||b else if n.op=8 then a ^^^ b else if n.op=9 then b2w (decide (a=b))
 else if n.op≤13 then b2w (cmpW n.op wa a b) else if n.op=14 then (if a=1#64 then b else c) else if n.op≤16 then unW n.op wa a else if n.op≤29 then binW n.op wa a b else if n.op=30 then catW wa a wb b
 else if n.op=31 then sliceW wa a n.num.toNat n.w.toNat else extW n.op wa a n.w.toNat
structure Vok(n:Nd)(wa wb:Nat)(a b:W64):Prop where
 op:1≤n.op∧n.op≤33∧n.op≠4
 num:0≤n.num∧n.num<18446744073709551616
 t:6≤n.op→n.op≤8→a.toNat≤1∧b.toNat≤1
 cmp:10≤n.op→n.op≤13→1≤wa∧wa≤64
 un:15≤n.op→n.op≤29→n.w=wa∧1≤wa∧wa≤64
 sh:25≤n.op→n.op≤29→isPow (wa:Int)=true
 cat:n.op=30→1≤wa∧1≤wb∧wa+wb≤64
 sl:n.op=31→1≤wa∧wa≤64∧1≤n.w∧n.num+n.w≤wa
 ext:32≤n.op→1≤wa∧(wa:Int)≤n.w∧n.w≤64
theorem p_one(c:Bool)(H:Hp):RR Bk [.bool c] H=some (wv (b2w c),H):=by refine(zpX E0 rfl _ _).trans ?_;unfold zkB;rw[zac];cases c<;>rfl
theorem num_wv{x:Int}(h:0≤x∧x<18446744073709551616):Value.int .u64 x=wv (BitVec.ofInt 64 x):=by rw[←zep,zh8 h.1 (by omega)]
theorem tr01{a:W64}(h:a.toNat≤1):a=0#64∨a=1#64:=by
 rcases (show a.toNat=0∨a.toNat=1 by omega) with q|q
 ·exact .inl (BitVec.eq_of_toNat_eq q)
 ·exact .inr (BitVec.eq_of_toNat_eq q)
theorem one_sub{α:Type}(a:W64)(k:Value→Option α):pBin PP .sub Ab (.int .u64 1) (wv a) k=k (wv (1#64-a)):=b_sub _ 1#64 a k
theorem p_node{n:Nd}{wa wb:Nat}{a b:W64}(h:Vok n wa wb a b)(c:W64)(H:Hp):RR BS [n.val,wv a,wv b,wv c,.int .i64 (wa:Int),.int .i64 (wb:Int)] H=some (wv (valW n wa wb a b c),H):=by
 have hr:=znF E0 rfl n.val (wv a) (wv b) (wv c) (.int .i64 (wa:Int)) (.int .i64 (wb:Int)) H;unfold zjb at hr;have hop:=h.op;have hnum:=h.num;unfold valW;rw[n0,zaO,zac]at hr;by_cases h1:n.op=1
 ·rw[decide_eq_true h1,zaP]at hr;rw[if_pos h1];exact hr
 rw[decide_eq_false h1,zaD,zaO,zac]at hr;by_cases h2:n.op=2
 ·rw[decide_eq_true h2,zaP]at hr;rw[if_neg h1,if_pos h2];exact hr
 rw[decide_eq_false h2,zaD,zaO,zac]at hr;by_cases h3:n.op=3
 ·rw[decide_eq_true h3,zaP,n5,num_wv hnum]at hr;rw[if_neg h1,if_neg h2,if_pos h3];exact hr
 rw[decide_eq_false h3,zaD,zaO,zac]at hr;by_cases h5:n.op=5
 ·rw[decide_eq_true h5,zaP,one_sub]at hr;rw[if_neg h1,if_neg h2,if_neg h3,if_pos h5];exact hr
 rw[decide_eq_false h5,zaD,zaO,zac]at hr;by_cases h6:n.op=6
 ·rw[decide_eq_true h6,zaP,b_and]at hr;rw[if_neg h1,if_neg h2,if_neg h3,if_neg h5,if_pos h6];exact hr
 rw[decide_eq_false h6,zaD,zaO,zac]at hr;by_cases h7:n.op=7
 ·rw[decide_eq_true h7,zaP,b_or]at hr;rw[if_neg h1,if_neg h2,if_neg h3,if_neg h5,if_neg h6,if_pos h7];exact hr
 rw[decide_eq_false h7,zaD,zaO,zac]at hr;by_cases h8:n.op=8
 ·rw[decide_eq_true h8,zaP,b_xor]at hr;rw[if_neg h1,if_neg h2,if_neg h3,if_neg h5,if_neg h6,if_neg h7,if_pos h8];exact hr
 rw[decide_eq_false h8,zaD,zaO,zac]at hr;by_cases h9:n.op=9
 ·rw[decide_eq_true h9,zaP,b_eql,zae (p_one _ H)]at hr;rw[if_neg h1,if_neg h2,if_neg h3,if_neg h5,if_neg h6,if_neg h7,if_neg h8,if_pos h9];exact hr
 rw[decide_eq_false h9,zaD,zf5,zac]at hr;by_cases h13:n.op≤13
 ·rw[decide_eq_true h13,zaP,zae (p_cmp ⟨by omega,h13⟩ (h.cmp (by omega) h13).1 (h.cmp (by omega) h13).2 a b H),x01,zae (p_one _ H)]at hr;rw[if_neg h1,if_neg h2,if_neg h3,if_neg h5,if_neg h6,if_neg h7,if_neg h8,if_neg h9,if_pos h13];exact hr
 rw[decide_eq_false h13,zaD,zaO,zac]at hr;by_cases h14:n.op=14
 ·have hz:∀(k:Value→Option (Value×Hp)),pBin PP .eql Ab (wv a) (.int .u64 1) k=k (.bool (decide (a=1#64))):=fun k=>b_eql _ a 1#64 k;rw[decide_eq_true h14,zaP,hz,zac]at hr;rw[if_neg h1,if_neg h2,if_neg h3,if_neg h5,if_neg h6,if_neg h7,if_neg h8,if_neg h9,if_neg h13,if_pos h14];by_cases q:a=1#64
  ·rw[decide_eq_true q,zaP]at hr;rw[if_pos q];exact hr
  ·rw[decide_eq_false q,zaD]at hr;rw[if_neg q];exact hr
 rw[decide_eq_false h14,zaD,zf5,zac]at hr;by_cases h16:n.op≤16
 ·obtain⟨g1,g2,g3⟩:=h.un (by omega) (by omega);rw[decide_eq_true h16,zaP,n1,g1,zae (p_un (by omega) g2 g3 a H),x01]at hr;rw[if_neg h1,if_neg h2,if_neg h3,if_neg h5,if_neg h6,if_neg h7,if_neg h8,if_neg h9,if_neg h13,if_neg h14,if_pos h16];exact hr
 rw[decide_eq_false h16,zaD,zf5,zac]at hr;by_cases h29:n.op≤29
 ·obtain⟨g1,g2,g3⟩:=h.un (by omega) h29;rw[decide_eq_true h29,zaP,n1,g1,zae (p_bin ⟨by omega,h29⟩ g2 g3 (fun q=>h.sh q h29) a b H),x01]at hr;rw[if_neg h1,if_neg h2,if_neg h3,if_neg h5,if_neg h6,if_neg h7,if_neg h8,if_neg h9,if_neg h13,if_neg h14,if_neg h16,if_pos h29];exact hr
 rw[decide_eq_false h29,zaD,zaO,zac]at hr;by_cases h30:n.op=30
 ·obtain⟨g1,g2,g3⟩:=h.cat h30;rw[decide_eq_true h30,zaP,zae (p_cat g1 g2 g3 a b H),x01]at hr;rw[if_neg h1,if_neg h2,if_neg h3,if_neg h5,if_neg h6,if_neg h7,if_neg h8,if_neg h9,if_neg h13,if_neg h14,if_neg h16,if_neg h29,if_pos h30];exact hr
 rw[decide_eq_false h30,zaD,zaO,zac]at hr;by_cases h31:n.op=31
 ·obtain⟨g1,g2,g3,g4⟩:=h.sl h31;have e1:n.num=((n.num.toNat:Nat):Int):=(Int.toNat_of_nonneg hnum.1).symm;have e2:n.w=((n.w.toNat:Nat):Int):=(Int.toNat_of_nonneg (by omega)).symm;have g5:=p_slice (n:=wa) (i:=n.num.toNat) (m:=n.w.toNat) g1 g2 (by omega) (by omega) a H;rw[←e1,←e2]at g5;rw[decide_eq_true h31,zaP,n5,zhE,zaA (by omega) (by omega),n1,zae g5,x01]at hr;rw[if_neg h1,if_neg h2,if_neg h3,if_neg h5,if_neg h6,if_neg h7,if_neg h8,if_neg h9,if_neg h13,if_neg h14,if_neg h16,if_neg h29,if_neg h30,if_pos h31];exact hr
 rw[decide_eq_false h31,zaD,n0,n1]at hr;obtain⟨g1,g2,g3⟩:=h.ext (by omega);have e2:n.w=((n.w.toNat:Nat):Int):=(Int.toNat_of_nonneg (by omega)).symm;have g5:=p_ext (op:=n.op) (n:=wa) (m:=n.w.toNat) (by omega) g1 (by omega) (by omega) a H;rw[←e2]at g5;rw[zae g5,x01]at hr;rw[if_neg h1,if_neg h2,if_neg h3,if_neg h5,if_neg h6,if_neg h7,if_neg h8,if_neg h9,if_neg h13,if_neg h14,if_neg h16,if_neg h29,if_neg h30,if_neg h31];exact hr
end Go.AM.N14
namespace Go.AM.N14
open List Go Go.AM
section
variable {A:Type}
def getA(z:A)(acc:List A)(x:Int):A:=if x≤0 then z else acc.getD (x-1).toNat z
def accA(F:Nd→A→A→A→A)(z:A):List Nd→List A→List A
 |[],acc=>acc
 |n::r,acc=>accA F z r (acc++[F n (getA z acc n.a) (getA z acc n.b) (getA z acc n.c)])
def fnA(F:Nd→A→A→A→A)(z:A)(L:List Nd)(t:Nat):A:=getA z (accA F z L []) (t:Int)
theorem zpK(F:Nd→A→A→A→A)(z:A):∀(r:List Nd) (acc:List A),∃more,accA F z r acc=acc++more∧more.length=r.length
 |[],acc=>⟨[],by rw[append_nil];rfl,rfl⟩
 |n::r,acc=>by obtain⟨more,h1,h2⟩:=zpK F z r (acc++[F n (getA z acc n.a) (getA z acc n.b) (getA z acc n.c)]);exact⟨F n (getA z acc n.a) (getA z acc n.b) (getA z acc n.c)::more,by show accA F z r _=_;rw[h1,append_assoc];rfl,by rw[length_cons,length_cons,h2]⟩
theorem getA_pre{z:A}{acc more:List A}{x:Int}(h:x≤acc.length):getA z (acc++more) x=getA z acc x:=by
 unfold getA;by_cases h0:x≤0
 ·rw[if_pos h0,if_pos h0]
 ·rw[if_neg h0,if_neg h0,getD_eq_getElem?_getD,getD_eq_getElem?_getD,List.getElem?_append_left (by omega)]
theorem accA_at(F:Nd→A→A→A→A)(z:A):∀(r:List Nd) (acc:List A) (j:Nat) (n:Nd),r[j]?=some n→∃mid more,accA F z r acc=mid++more∧mid.length=acc.length+j∧more[0]?=some (F n (getA z mid n.a) (getA z mid n.b) (getA z mid n.c))
 |[],acc,j,n,h=>by cases h
 |m::r,acc,0,n,h=>by
  cases h;obtain⟨more,h1,h2⟩:=zpK F z r (acc++[F m (getA z acc m.a) (getA z acc m.b) (getA z acc m.c)]);exact⟨acc,F m (getA z acc m.a) (getA z acc m.b) (getA z acc m.c)::more,by show accA F z r _=_;rw[h1,append_assoc];rfl,rfl,rfl⟩
 |m::r,acc,j+1,n,h=>by obtain⟨mid,more,h1,h2,h3⟩:=accA_at F z r (acc++[F m (getA z acc m.a) (getA z acc m.b) (getA z acc m.c)]) j n h;exact⟨mid,more,h1,by rw[h2,length_append,length_singleton];omega,h3⟩
theorem zjp{L:List Nd}(hd:Dag L)(F:Nd→A→A→A→A)(z:A){t:Nat}(ht:1≤t){n:Nd}(hn:L[t-1]?=some n) :
  fnA F z L t=F n (fnA F z L n.a.toNat) (fnA F z L n.b.toNat) (fnA F z L n.c.toNat):=by
 obtain⟨mid,more,h1,h2,h3⟩:=accA_at F z L [] (t-1) n hn;rw[length_nil,Nat.zero_add]at h2;have ha:=hd.a _ n hn;have hb:=hd.b _ n hn;have hc:=hd.c _ n hn;have e:fnA F z L t=F n (getA z mid n.a) (getA z mid n.b) (getA z mid n.c):=by unfold fnA;rw[h1];unfold getA;rw[if_neg (by omega),getD_eq_getElem?_getD,List.getElem?_append_right (by omega),show ((t:Int)-1).toNat-mid.length=0 by omega,h3];rfl
 have k:∀x:Int,0≤x→x≤(t-1:Nat)→fnA F z L x.toNat=getA z mid x:=fun x x0 x1=>by unfold fnA;rw[h1,Int.toNat_of_nonneg x0,getA_pre (by omega)]
 rw[e,k n.a (by omega) (by omega),k n.b (by omega) (by omega),k n.c (by omega) (by omega)]
theorem fnA_ind{L:List Nd}(hd:Dag L)(F:Nd→A→A→A→A)(z:A){S:Nat→Prop}(hcl:∀t,S t→∀c∈kids L t,S c){Q:Nat→A→Prop}(hz:Q 0 z)
  (hs:∀t n,1≤t→S t→L[t-1]?=some n→Q n.a.toNat (fnA F z L n.a.toNat)→Q n.b.toNat (fnA F z L n.b.toNat)→Q n.c.toNat (fnA F z L n.c.toNat)→Q t (F n (fnA F z L n.a.toNat) (fnA F z L n.b.toNat) (fnA F z L n.c.toNat))) :
  ∀t,1≤t→t≤L.length→S t→Q t (fnA F z L t):=by
 intro t;induction t using Nat.strongRecOn with
 |_ t ih=>
  intro h1 h2 h3;have hn:L[t-1]?=some (L[t-1]'(by omega)):=List.getElem?_eq_getElem (by omega);generalize L[t-1]'(by omega)=n at hn;rw[zjp hd F z h1 hn];have hk:=zjj hd hn;have hf:=hd.a _ n hn;have hb:=hd.b _ n hn;have hc:=hd.c _ n hn;have kk:kids L t=zco n:=by unfold kids;rw[hn]
  have one:∀(j:Nat) x,[n.a,n.b,n.c][j]?=some x→(x=0∨j<(zco n).length∧1≤x)→Q x.toNat (fnA F z L x.toNat):=fun j x hx h=>by
   rcases h with rfl|⟨h,_⟩
   ·exact hz
   ·obtain⟨q1,q2,q3⟩:=hk.2.1 j x hx h;have hm:x.toNat∈kids L t:=by rw[kk];exact mem_of_getElem? q1
    exact ih x.toNat (by omega) (by omega) (by omega) (hcl t h3 _ hm)
  have hl:=hk.1;have pn:=zcj n.op;exact hs t n h1 h3 hn (one 0 n.a rfl (by rcases hf with q|q;exact .inr ⟨by omega,by omega⟩;exact .inl q.2)) (one 1 n.b rfl (by rcases hb with q|q;exact .inr ⟨by omega,by omega⟩;exact .inl q.2)) (one 2 n.c rfl (by rcases hc with q|q;exact .inr ⟨by omega,by omega⟩;exact .inl q.2))
end
noncomputable def valF(L:List Nd)(G:ByteArray→W64)(n:Nd)(x y z:W64):W64:=if n.op=4 then G n.name else valW n (wT L 0 n.a).toNat (wT L 0 n.b).toNat x y z
noncomputable def vfn(L:List Nd)(G:ByteArray→W64):Nat→W64:=fnA (valF L G) 0#64 L
def satU(n:Nat):Nat:=min n 18446744073709551615
def sizF(n:Nd)(x y z:Nat×Nat):Nat×Nat:=(satU (satU (satU (1+x.1)+y.1)+z.1),max (max x.2 y.2) z.2+1)
def sizT(L:List Nd):Nat→Nat×Nat:=fnA sizF (0,0) L
theorem satU_eq(n:Nat):satU n=if n≤18446744073709551615 then n else 18446744073709551615:=by unfold satU;split<;>omega
end Go.AM.N14
namespace Go.AM
open List Go
variable {A:Type}
def mapS(enc:A→Value)(l:List (ByteArray×A)):List (Value×Value):=l.map fun x=>(.string x.1,enc x.2)
def lkS(s:ByteArray):Nat→List (ByteArray×A)→Option (Nat×A)
 |_,[]=>none
 |i,(t,v)::r=>if (s==t)=true then some (i,v) else lkS s (i+1) r
def MapS(H:Hp)(m:Nat)(enc:A→Value)(F:ByteArray→Option A):Prop:=∃l,H.get m=some (.map (mapS enc l))∧∀t,F t=(lkS t 0 l).map Prod.snd
theorem findS(enc:A→Value)(s:ByteArray):∀(l:List (ByteArray×A)) (i:Nat),zeX PP Ac (.string s) (mapS enc l) i=some ((lkS s i l).map fun q=>(q.1,enc q.2))
 |[],i=>rfl
 |(t,w)::r,i=>by
  show (match eqT PP 10000 Ac (.string s) (.string t) with|some true=>some (some (i,enc w))|some false=>zeX PP Ac (.string s) (mapS enc r) (i+1)|none=>none)=_;rw[eq9];unfold lkS;cases h:s==t with
  |true=>simp
  |false=>
   simp only[Bool.false_eq_true,if_false];exact findS enc s r (i+1)
theorem MapS.lookV{H:Hp}{m:Nat}{enc:A→Value}{F:ByteArray→Option A}(h:MapS H m enc F)(z:Value)(t:ByteArray):Go.AM.lookV PP Ac z (.map (some m)) (.string t) H=some (match F t with|some v=>(enc v,true)|none=>(z,false)):=by obtain⟨l,h1,h2⟩:=h;unfold Go.AM.lookV;rw[zmb,h2 t];simp only[if_true,zn4,h1,findS];cases lkS t 0 l<;>rfl
theorem MapS.look2{H:Hp}{m:Nat}{enc:A→Value}{F:ByteArray→Option A}(h:MapS H m enc F)(z:Value)(t:ByteArray){α:Type}(k:Value→Option α):zbj PP Ac z (.map (some m)) (.string t) true H k=k (.tuple #[match F t with|some v=>enc v|none=>z,.bool (F t).isSome]):=by unfold zbj;rw[h.lookV];cases F t<;>rfl
theorem zn7(s:ByteArray):∀(l:List (ByteArray×A)) (i j:Nat) (w:A),lkS s i l=some (j,w)→i≤j∧l[j-i]?=some (s,w)
 |[],i,j,w,h=>by cases h
 |(t,u)::r,i,j,w,h=>by
  unfold lkS at h;split at h
  ·rename_i e;cases h;have:s=t:=(zg8 s t).1 e;subst this;exact⟨Nat.le_refl _,by simp⟩
  ·obtain⟨h1,h2⟩:=zn7 s r (i+1) j w h;refine⟨by omega,?_⟩;rw[show j-i=(j-(i+1))+1 by omega];simpa using h2
theorem lkS_app(t key:ByteArray)(v:A):∀(l:List (ByteArray×A)) (i:Nat),lkS key i l=none→(lkS t i (l++[(key,v)])).map Prod.snd=if (t==key)=true then some v else (lkS t i l).map Prod.snd
 |[],i,h=>by
  show (lkS t i [(key,v)]).map Prod.snd=_;unfold lkS lkS;split<;>rfl
 |(u,w)::r,i,h=>by
  unfold lkS at h;split at h
  ·cases h
  ·rename_i ne;show (lkS t i ((u,w)::(r++[(key,v)]))).map Prod.snd=_;unfold lkS;by_cases e:(t==u)=true
   ·rw[if_pos e,if_pos e,if_neg (fun q=>ne (by rw[←(zg8 t key).1 q];exact e))]
   ·rw[if_neg e,if_neg e];exact lkS_app t key v r (i+1) h
theorem lkS_set(t key:ByteArray)(v:A):∀(l:List (ByteArray×A)) (i j:Nat) (w:A),lkS key i l=some (j,w)→(lkS t i (l.set (j-i) (key,v))).map Prod.snd=if (t==key)=true then some v else (lkS t i l).map Prod.snd
 |[],i,j,w,h=>by cases h
 |(u,x)::r,i,j,w,h=>by
  unfold lkS at h;split at h
  ·rename_i e;cases h;have e:key=u:=(zg8 key u).1 e;subst e;rw[Nat.sub_self,set_cons_zero];unfold lkS;by_cases q:(t==key)=true
   ·rw[if_pos q,if_pos q];rfl
   ·rw[if_neg q,if_neg q,if_neg q]
  ·rename_i ne;have hle:=(zn7 key r (i+1) j w h).1;rw[show j-i=(j-(i+1))+1 by omega,set_cons_succ];unfold lkS;by_cases q:(t==u)=true
   ·rw[if_pos q,if_pos q,if_neg (fun z=>ne (by rw[←(zg8 t key).1 z];exact q))]
   ·rw[if_neg q,if_neg q];exact lkS_set t key v r (i+1) j w h
theorem MapS.upd{H:Hp}{m:Nat}{enc:A→Value}{F:ByteArray→Option A}(h:MapS H m enc F)(key:ByteArray)(v:A) :
  ∃H',(∀(α:Type) (k:Hp→Option α),pUpd PP Ac (.map (some m)) (.string key) (enc v) H k=k H')∧MapS H' m enc (fun t=>if (t==key)=true then some v else F t)∧(∀j,j≠m→H'.get j=H.get j)∧H'.next=H.next:=by
 obtain⟨l,h1,h2⟩:=h;cases hq:lkS key 0 l with
 |none=>
  refine⟨H.set m (some (.map (mapS enc (l++[(key,v)])))),fun α k=>?_,⟨l++[(key,v)],by rw[get_set,if_pos rfl],fun t=>?_⟩,fun j hj=>by rw[get_set,if_neg hj],rfl⟩
  ·have:updV PP Ac (.map (some m)) (.string key) (enc v) H=some (H.set m (some (.map (mapS enc (l++[(key,v)]))))):=by unfold updV;rw[zmb];simp only[if_true,h1,findS,hq,Option.map_none];rw[show mapS enc (l++[(key,v)])=mapS enc l++[(Value.string key,enc v)] by simp[mapS]]
   unfold pUpd;rw[this]
  ·rw[lkS_app t key v l 0 hq];dsimp only;split
   ·rfl
   ·exact h2 t
 |some q=>
  obtain⟨j,w⟩:=q;obtain⟨_,hg⟩:=zn7 key l 0 j w hq;rw[Nat.sub_zero]at hg;refine⟨H.set m (some (.map (mapS enc (l.set j (key,v))))),fun α k=>?_,⟨l.set j (key,v),by rw[get_set,if_pos rfl],fun t=>?_⟩,fun j hj=>by rw[get_set,if_neg hj],rfl⟩
  ·have hk1:(mapS enc l)[j]?=some (.string key,enc w):=by unfold mapS;rw[List.getElem?_map,hg];rfl
   have hsb:Instr.sameBits 10000 (.string key) (.string key)=true:=by simp only[Instr.sameBits];exact(zg8 key key).2 rfl
   have:updV PP Ac (.map (some m)) (.string key) (enc v) H=some (H.set m (some (.map (mapS enc (l.set j (key,v)))))):=by unfold updV;rw[zmb];simp only[if_true,h1,findS,hq,Option.map_some,hk1,hsb];rw[show mapS enc (l.set j (key,v))=zhZ (mapS enc l) j (.string key) (enc v) by unfold zhZ mapS;rw[map_set]]
   unfold pUpd;rw[this]
  ·have:=lkS_set t key v l 0 j w hq;rw[Nat.sub_zero]at this;rw[this];dsimp only;split
   ·rfl
   ·exact h2 t
theorem MapS.new(H:Hp)(enc:A→Value):MapS (H.new (.map [])) H.next enc (fun _=>none):=⟨[],by rw[get_new,if_pos rfl];rfl,fun t=>rfl⟩
theorem MapS.keep{H H':Hp}{m:Nat}{enc:A→Value}{F:ByteArray→Option A}(h:MapS H m enc F)(hg:H'.get m=H.get m):MapS H' m enc F:=by obtain⟨l,h1,h2⟩:=h;exact⟨l,by rw[hg];exact h1,h2⟩
end Go.AM
namespace Go.AM
open Go
end Go.AM
namespace Go.AM
open List Go
def zdk(L:List Nd)(out:List Nat):Prop:=∀(i:Nat) t,out[i]?=some t→∀c∈kids L t,c∈out.take i
def Grew(L:List Nd)(l out out':List Nat):Prop:=∃new,out'=out++new∧∀(i:Nat) x,new[i]?=some x→x∈l∨∃(j:Nat) (u:Nat),i<j∧new[j]?=some u∧x∈kids L u
theorem zdk.app{L:List Nd}{out:List Nat}{t:Nat}(h:zdk L out)(hk:∀c∈kids L t,c∈out):zdk L (out++[t]):=by
 intro i x hx c hc;rw[List.getElem?_append]at hx;split at hx
 ·rename_i lt;rw[take_append_of_le_length (by omega)];exact h i x hx c hc
 ·have:i=out.length:=by have:=(List.getElem?_eq_some_iff.1 hx).1;simp at this;omega
  subst this;simp at hx;subst hx;rw[List.take_left' rfl];exact hk c hc
theorem Grew.refl(L:List Nd)(l out:List Nat):Grew L l out out:=⟨[],by simp,fun i x h=>by cases h⟩
theorem Grew.cons{L:List Nd}{c:Nat}{l out o1 o2:List Nat}(h:Grew L [c] out o1)(k:Grew L l o1 o2):Grew L (c::l) out o2:=by
 obtain⟨n1,e1,h1⟩:=h;obtain⟨n2,e2,h2⟩:=k;refine⟨n1++n2,by rw[e2,e1,append_assoc],fun i x hx=>?_⟩;rw[List.getElem?_append]at hx;split at hx
 ·rename_i lt;rcases h1 i x hx with q|⟨j,u,q1,q2,q3⟩
  ·rw[mem_singleton]at q;subst q;exact .inl (mem_cons_self ..)
  ·have:=(List.getElem?_eq_some_iff.1 q2).1;exact .inr ⟨j,u,q1,by rw[List.getElem?_append_left this];exact q2,q3⟩
 ·rename_i ge;rcases h2 _ x hx with q|⟨j,u,q1,q2,q3⟩
  ·exact .inl (mem_cons_of_mem _ q)
  ·exact .inr ⟨n1.length+j,u,by omega,by rw[List.getElem?_append_right (by omega),Nat.add_sub_cancel_left];exact q2,q3⟩
theorem post_good{L:List Nd}(h:Dag L):∀(t:Nat),1≤t→∀(out:List Nat),zdk L out→zdk L (post L t out)∧Grew L [t] out (post L t out):=by
 intro t;induction t using Nat.strongRecOn with
 |_ t ih=>
  intro ht out hc;rw[zge h ht];split
  ·exact⟨hc,Grew.refl ..⟩
  ·have key:∀(l:List Nat) (o:List Nat),(∀c∈l,c∈kids L t)→zdk L o→zdk L (posts L l o)∧Grew L l o (posts L l o):=by
    intro l;induction l with
    |nil=>exact fun o _ h=>⟨h,Grew.refl ..⟩
    |cons c l ihl=>
     intro o hl ho;have hcc:=zet h ht (hl c (mem_cons_self ..));obtain⟨a1,a2⟩:=ih c hcc.2 hcc.1 o ho;obtain⟨b1,b2⟩:=ihl _ (fun c hc=>hl c (mem_cons_of_mem _ hc)) a1;exact⟨b1,a2.cons b2⟩
   obtain⟨k1,new,e,k2⟩:=key (kids L t) out (fun c hc=>hc) hc;have hm:=(zbP h (N:=t) (kids L t) out fun c hc=>by have:=zet h ht hc;omega).2.1;refine⟨k1.app hm,new++[t],by rw[e,append_assoc],fun i x hx=>?_⟩;rw[List.getElem?_append]at hx;split at hx
   ·rename_i lt;rcases k2 i x hx with q|⟨j,u,q1,q2,q3⟩
    ·exact .inr ⟨new.length,t,lt,by rw[List.getElem?_append_right (Nat.le_refl _),Nat.sub_self];rfl,q⟩
    ·have:=(List.getElem?_eq_some_iff.1 q2).1;exact .inr ⟨j,u,q1,by rw[List.getElem?_append_left this];exact q2,q3⟩
   ·rename_i ge;have:=mem_of_getElem? hx;exact .inl this
theorem zeE{L:List Nd}(h:Dag L):∀(l o:List Nat),(∀c∈l,1≤c)→zdk L o→zdk L (posts L l o)∧Grew L l o (posts L l o)
 |[],o,_,ho=>⟨ho,Grew.refl ..⟩
 |c::l,o,hl,ho=>by obtain⟨a1,a2⟩:=post_good h c (hl c (mem_cons_self ..)) o ho;obtain⟨b1,b2⟩:=zeE h l _ (fun c hc=>hl c (mem_cons_of_mem _ hc)) a1;exact⟨b1,a2.cons b2⟩
theorem zfG{L:List Nd}(h:Dag L){i:Nat}{n:Nd}(hn:L[i]?=some n):(∀c∈zco n,(c:Int)=n.a∨(c:Int)=n.b∨(c:Int)=n.c)∧(∀x:Int,x=n.a∨x=n.b∨x=n.c→x≠0→∃c∈zco n,(c:Int)=x):=by
 have ha:=h.a i n hn;have hb:=h.b i n hn;have hc:=h.c i n hn;unfold zco;rcases zcj n.op with q|q|q|q<;>rw[q]
 ·refine⟨fun c hcm=>by simp at hcm,fun x hx h0=>by omega⟩
 ·refine⟨fun c hcm=>?_,fun x hx h0=>?_⟩
  ·simp at hcm;omega
  ·exact⟨n.a.toNat,by simp,by omega⟩
 ·refine⟨fun c hcm=>?_,fun x hx h0=>?_⟩
  ·simp at hcm;omega
  ·rcases hx with e|e|e
   ·exact⟨n.a.toNat,by simp,by omega⟩
   ·exact⟨n.b.toNat,by simp,by omega⟩
   ·omega
 ·refine⟨fun c hcm=>?_,fun x hx h0=>?_⟩
  ·simp at hcm;omega
  ·rcases hx with e|e|e
   ·exact⟨n.a.toNat,by simp,by omega⟩
   ·exact⟨n.b.toNat,by simp,by omega⟩
   ·exact⟨n.c.toNat,by simp,by omega⟩
structure zb8(L:List Nd)(K:List (ByteArray×Int)):Prop where
 dag:Dag L
 rt:∀m∈L,zhz L K m
 num:∀m∈L,zg9 m
 nod:∀(i j:Nat) m,L[i]?=some m→L[j]?=some m→i=j
 kn:∀m∈L,m.op=4→∃j,za0 m.name 0 K=some (j,m.w)
theorem zb8.nil:zb8 [] []:=⟨Dag.nil,fun m h=>(by cases h),fun m h=>(by cases h),fun i j m h=>(by cases h),fun m h=>by cases h⟩
theorem zkw{s:ByteArray}(M:List (ByteArray×Int)):∀(K:List (ByteArray×Int)) (i:Nat) (q:Nat×Int),za0 s i K=some q→za0 s i (K++M)=some q
 |[],i,q,h=>by cases h
 |(u,v)::r,i,q,h=>by
  unfold za0 at h;show za0 s i ((u,v)::(r++M))=_;unfold za0;split at h
  ·rename_i e;rw[if_pos e];exact h
  ·rename_i e;rw[if_neg e];exact zkw M r (i+1) q h
theorem zkx{s t:ByteArray}{w:Int}:∀(K:List (ByteArray×Int)) (i j:Nat) (v:Int),za0 t i (K++[(s,w)])=some (j,v)→(∃j',za0 t i K=some (j',v))∨(t=s∧v=w)
 |[],i,j,v,h=>by
  have h:za0 t i [(s,w)]=some (j,v):=h;unfold za0 at h;split at h
  ·rename_i e;cases h;exact .inr ⟨(zg8 t s).1 e,rfl⟩
  ·cases h
 |(u,x)::r,i,j,v,h=>by
  have h:za0 t i ((u,x)::(r++[(s,w)]))=some (j,v):=h;unfold za0 at h ⊢;split at h
  ·rename_i e;cases h;rw[if_pos e];exact .inl ⟨_,rfl⟩
  ·rename_i e;rw[if_neg e];exact zkx r (i+1) j v h
theorem zn2{s t:ByteArray}{w:Int}{K:List (ByteArray×Int)}{q:Nat×Int}(h:za0 t 0 K=some q):za0 t 0 (zbx s w K)=some q:=by
 unfold zbx;split
 ·exact h
 ·exact zkw _ K 0 q h
theorem zmN{s:ByteArray}{w:Int}{K:List (ByteArray×Int)}(h:∀j v,za0 s 0 K=some (j,v)→v=w):∃j,za0 s 0 (zbx s w K)=some (j,w):=by
 unfold zbx;cases hq:za0 s 0 K with
 |some q=>exact⟨q.1,by rw[←h q.1 q.2 hq];exact hq⟩
 |none=>exact⟨_,zhq s s w K 0 hq⟩
theorem zg7{K:List (ByteArray×Int)}{n:Nd}(h:zbl K n=false):zcB n.name=true∧∀j v,za0 n.name 0 K=some (j,v)→v=n.w:=by unfold zbl at h;rw[Bool.or_eq_false_iff]at h;refine⟨by simpa using h.1,fun j v hv=>?_⟩;have h2:=h.2;rw[hv]at h2;simpa using h2
theorem bad_of{K:List (ByteArray×Int)}{n:Nd}(h1:zcB n.name=true)(h2:∀j v,za0 n.name 0 K=some (j,v)→v=n.w):zbl K n=false:=by
 unfold zbl;rw[h1];cases hq:za0 n.name 0 K with
 |none=>rfl
 |some q=>have:=h2 q.1 q.2 hq;simp[this]
theorem zhz.free{L:List Nd}{K:List (ByteArray×Int)}{n:Nd}(h:zhz L K n)(h4:n.op=4):zbl K n=false:=by
 cases q:zbl K n with
 |false=>rfl
 |true=>exact absurd ⟨h4,q⟩ h.nm
theorem zlC{lim:Int}{L:List Nd}{K:List (ByteArray×Int)}{n:Nd}(hn:zg9 n)(h:zb8 L K):zb8 (mkR lim L K n).2.2.1 (mkR lim L K n).2.2.2:=by
 by_cases h0:(mkR lim L K n).2.1=0
 ·have hdag:=mk_dag (lim:=lim) (K:=K) (n:=n) h.dag;obtain⟨hr,⟨q,hq,e⟩|⟨hq,_,e⟩⟩:=zi7 h0
  ·rw[e];exact h
  ·rw[e]at hdag ⊢;have hself:n.op=4→∃j,za0 n.name 0 (zbx n.name n.w K)=some (j,n.w):=fun h4=>zmN (zg7 (hr.free h4)).2;have hpre:∀(t:ByteArray) q,za0 t 0 K=some q→za0 t 0 (if n.op=4 then zbx n.name n.w K else K)=some q:=fun t q hq=>by
    split
    ·exact zn2 hq
    ·exact hq
   refine⟨hdag,fun m hm=>?_,fun m hm=>?_,fun i j m hi hj=>?_,fun m hm h4=>?_⟩
   ·rcases mem_append.1 hm with q|q
    ·refine(h.rt m q).app fun h4=>?_;obtain⟨j,hj⟩:=h.kn m q h4;refine bad_of (zg7 ((h.rt m q).free h4)).1 fun j' v hv=>?_;rw[hpre _ _ hj]at hv;cases hv;rfl
    ·rw[mem_singleton]at q;subst q;refine hr.app fun h4=>?_;rw[if_pos h4];exact zoq (hr.free h4)
   ·rcases mem_append.1 hm with q|q
    ·exact h.num m q
    ·rw[mem_singleton]at q;rw[q];exact hn
   ·have hno:=zec n L 0 hq;rcases zjO hi with a|⟨a1,a2⟩<;>rcases zjO hj with b|⟨b1,b2⟩
    ·exact h.nod i j m a b
    ·subst b2;exact absurd a (hno i)
    ·subst a2;exact absurd b (hno j)
    ·rw[a1,b1]
   ·rcases mem_append.1 hm with q|q
    ·obtain⟨j,hj⟩:=h.kn m q h4;exact⟨j,hpre _ _ hj⟩
    ·rw[mem_singleton]at q;subst q;rw[if_pos h4];exact hself h4
 ·rw[mk_no h0];exact h
def ixO(O:List Nat)(t:Nat):Nat:=O.idxOf t+1
def rpI(O:List Nat)(x:Int):Int:=if x≤0 then 0 else (ixO O x.toNat:Int)
def renN(O:List Nat)(n:Nd):Nd:={ n with a:=rpI O n.a,b:=rpI O n.b,c:=rpI O n.c }
def renL(L:List Nd)(O:List Nat):List Nd:=O.map fun t=>renN O (zaG L t)
theorem ix_at{O:List Nat}(hn:O.Nodup){i t:Nat}(h:O[i]?=some t):ixO O t=i+1:=by unfold ixO;have hlt:=(List.getElem?_eq_some_iff.1 h).1;have he:O[i]=t:=(List.getElem?_eq_some_iff.1 h).2;rw[←he,hn.idxOf_getElem]
theorem ix_inj{O:List Nat}{t u:Nat}(ht:t∈O)(h:ixO O t=ixO O u):t=u:=by
 unfold ixO at h;have h:O.idxOf t=O.idxOf u:=by omega
 have h1:=idxOf_lt_length_of_mem ht;have e1:O[O.idxOf t]=t:=getElem_idxOf h1;have h2:O.idxOf u<O.length:=by omega
 have e2:O[O.idxOf u]=u:=getElem_idxOf h2;rw[←e1,←e2];congr 1
structure Ord(L:List Nd)(O:List Nat):Prop where
 nd:O.Nodup
 bd:∀t∈O,1≤t∧t≤L.length
 cl:zdk L O
theorem zbn{L:List Nd}{t:Nat}(h:1≤t∧t≤L.length):L[t-1]?=some (zaG L t):=by unfold zaG;rw[List.getElem?_eq_getElem (by omega)];rfl
theorem Ord.kid{L:List Nd}{O:List Nat}(h:Ord L O)(hd:Dag L){i t:Nat}(ht:O[i]?=some t){x:Int}(hx:x=(zaG L t).a∨x=(zaG L t).b∨x=(zaG L t).c):x=0∨∃c:Nat,x=(c:Int)∧1≤c∧c∈O.take i:=by
 have hb:=h.bd t (mem_of_getElem? ht);have hn:=zbn hb;by_cases h0:x=0
 ·exact .inl h0
 ·obtain⟨c,c1,c2⟩:=(zfG hd hn).2 x hx h0;have hk:c∈kids L t:=by unfold kids;rw[hn];exact c1
  exact .inr ⟨c,c2.symm,(zet hd hb.1 hk).1,h.cl i t ht c hk⟩
theorem rp_kid{L:List Nd}{O:List Nat}(h:Ord L O){i c:Nat}(hc:c∈O.take i)(h1:1≤c):rpI O (c:Int)=(ixO O c:Int)∧1≤ixO O c∧ixO O c≤i∧O[ixO O c-1]?=some c:=by
 obtain⟨j,hj⟩:=List.getElem?_of_mem hc;have hji:j<i:=by have:=(List.getElem?_eq_some_iff.1 hj).1;rw[length_take]at this;omega
 rw[List.getElem?_take,if_pos hji]at hj;have e:=ix_at h.nd hj;refine⟨?_,by omega,by omega,by rw[e];exact hj⟩;unfold rpI;rw[if_neg (by omega),Int.toNat_natCast]
theorem ren_get{L:List Nd}{O:List Nat}{i t:Nat}(h:O[i]?=some t):(renL L O)[i]?=some (renN O (zaG L t)):=by unfold renL;rw[List.getElem?_map,h];rfl
end Go.AM
namespace Go.AM.N14
open List Go Go.AM
structure VV where
 name:ByteArray
 w:Int
 num:Int
def VV.cells(x:VV):List Value:=[.string x.name,.int .i64 x.w,.int .u64 x.num]
def VV.val(x:VV):Value:=.agg x.cells.toArray
def VV.Ok(x:VV):Prop:=0≤x.num∧x.num<18446744073709551616
def fndV(s:ByteArray):List VV→Option VV
 |[]=>none
 |v::r=>if (s==v.name)=true then some v else fndV s r
def nmOk:List ByteArray→List ByteArray→Bool
 |_,[]=>true
 |seen,s::r=>if (seen.any fun t=>s==t)||!zcB s then false else nmOk (seen++[s]) r
def wdOk(v:VV):Bool:=decide (0≤v.w)&&decide (v.w≤64)&&decide (zdR (if v.w<1 then 1 else v.w) v.num=v.num)
def zhb(Tv:List VV):Int:=if nmOk [] (Tv.map VV.name)=true then (if Tv.all wdOk=true then 0 else 5) else 72
theorem zps(s:ByteArray)(v:VV):∀Tv:List VV,fndV s (Tv++[v])=match fndV s Tv with|some x=>some x|none=>if (s==v.name)=true then some v else none
 |[]=>rfl
 |x::r=>by
  show (if (s==x.name)=true then some x else fndV s (r++[v]))=_;rw[show fndV s (x::r)=if (s==x.name)=true then some x else fndV s r from rfl];by_cases h:(s==x.name)=true
  ·rw[if_pos h,if_pos h]
  ·rw[if_neg h,if_neg h,zps s v r]
theorem zpt(s:ByteArray):∀Tv:List VV,(fndV s Tv).isSome=(Tv.map VV.name).any fun t=>s==t
 |[]=>rfl
 |x::r=>by
  rw[map_cons,any_cons];unfold fndV;by_cases h:(s==x.name)=true
  ·rw[if_pos h,h];rfl
  ·rw[if_neg h,zpt s r,(Bool.eq_false_iff.2 h:(s==x.name)=false),Bool.false_or]
theorem zik{s:ByteArray}{v:VV}:∀{Tv:List VV},fndV s Tv=some v→v∈Tv∧v.name=s
 |[],h=>by cases h
 |x::r,h=>by
  unfold fndV at h;split at h
  ·rename_i q;cases h;exact⟨mem_cons_self ..,((zg8 _ _).1 q).symm⟩
  ·obtain⟨a,b⟩:=zik h;exact⟨mem_cons_of_mem _ a,b⟩
def zeq(Tv:List VV)(s:ByteArray):W64:=match fndV s Tv with|some v=>BitVec.ofInt 64 v.num|none=>0#64
def badV(L:List Nd)(Tv:List VV)(t:Nat):Bool:=match L[t-1]? with
 |some n=>decide (n.op=4)&&(match fndV n.name Tv with|some v=>decide (v.w≠n.w)|none=>false)
 |none=>false
noncomputable def zeS(L:List Nd)(ns:List Nat)(Tv:List VV):Int×List W64:=
 if zhb Tv≠0 then (zhb Tv,[]) else if (posts L ns []).any (badV L Tv)=true then (71,[]) else (0,ns.map (vfn L (zeq Tv)))
def zfH(L:List Nd)(ns:List Nat):List VV:=(posts L ns []).filterMap fun t=>match L[t-1]? with
 |some n=>if n.op=4 then some ⟨n.name,n.w,0⟩ else none
 |none=>none
theorem flat_at{A:Type}{f:A→List Value}{n:Nat}(hf:∀a,(f a).length=n):∀(l:List A) (i:Nat) (a:A),l[i]?=some a→((l.flatMap f).drop (i*n)).take n=f a
 |[],i,a,h=>by cases h
 |b::r,0,a,h=>by
  cases h;rw[Nat.zero_mul,qd0,flatMap_cons,List.take_left' (hf _)]
 |b::r,i+1,a,h=>by have h:r[i]?=some a:=h;rw[flatMap_cons,drop_append,drop_of_length_le (by rw[hf];exact Nat.le_mul_of_pos_left n (by omega)),nil_append,hf,show (i+1)*n-n=i*n by rw[Nat.succ_mul];omega];exact flat_at hf r i a h
theorem flat_len{A:Type}{f:A→List Value}{n:Nat}(hf:∀a,(f a).length=n):∀(l:List A),(l.flatMap f).length=l.length*n
 |[]=>by simp
 |b::r=>by rw[flatMap_cons,length_append,hf,flat_len hf r,length_cons,Nat.succ_mul];omega
def zbU(Tv:List VV):List Value:=Tv.flatMap VV.cells
theorem vv_len(v:VV):v.cells.length=3:=rfl
theorem valsC_len(Tv:List VV):(zbU Tv).length=Tv.length*3:=flat_len vv_len Tv
theorem valsC_app(Tv U:List VV):zbU (Tv++U)=zbU Tv++zbU U:=by simp[zbU]
theorem Rdb.vv{H:Hp}{x:Value}{Tv:List VV}(hx:Rdb H 3 x Tv.length (zbU Tv)){i:Nat}{v:VV}(hi:Tv[i]?=some v) :
  ∃y,Id x y∧(∀(α:Type) (kd:IntKind) (k:Value→Option α),pIdx 3 x (.int kd (i:Int)) k=k (.pointer (some ⟨y,i*3,none⟩)))∧(∀(α:Type) (k:Value→Option α),zal 3 true H (.pointer (some ⟨y,i*3,none⟩)) k=k v.val) ∧
   (∀(α:Type) (j:Nat) (z:Value),v.cells[j]?=some z→∀(k:Value→Option α),zal 1 false H (.pointer (some ⟨y,i*3+j,none⟩)) k=k z):=by
 have hlt:=(List.getElem?_eq_some_iff.1 hi).1;obtain⟨y,hy,⟨rest,own,hg⟩,hix⟩:=hx.ix hlt;have hf:=flat_at vv_len Tv i v hi;have hl:=valsC_len Tv;refine⟨y,hy,hix,fun α k=>?_,fun α j z hz k=>?_⟩
 ·rw[ld_agg hg (by rw[hl];omega)];have:(zbU Tv).drop (i*3)=(Tv.flatMap VV.cells).drop (i*3):=rfl;rw[this,hf];rfl
 ·have hj:j<3:=(List.getElem?_eq_some_iff.1 hz).1;refine zgk hg ?_ k;have:(((Tv.flatMap VV.cells).drop (i*3)).take 3)[j]?=some z:=by rw[hf];exact hz
  rw[List.getElem?_take_of_lt hj,List.getElem?_drop]at this;exact this
theorem splV{α:Type}(v:VV)(k:List Value→Option α):zaV 3 [.string ⟨#[]⟩,.int .i64 0,.int .u64 0] 0 v.val k=k v.cells:=by
 have:za8 3 [.string ⟨#[]⟩,.int .i64 0,.int .u64 0] 0 v.val=some v.cells:=by kernel_rfl
 unfold zaV;rw[this]
theorem vcell0{α:Type}(v:VV)(k:Value→Option α):zai 1 false v.cells 0 k=k (.string v.name):=rfl
theorem zj2{α:Type}(v:VV)(k:Value→Option α):zai 1 false v.cells 1 k=k (.int .i64 v.w):=rfl
theorem zl1{α:Type}(v:VV)(k:Value→Option α):zai 1 false v.cells 2 k=k (.int .u64 v.num):=rfl
theorem zoz{α:Type}(v:VV)(k:Value→Option α):zai 3 true v.cells 0 k=k v.val:=rfl
def noV:VV:=⟨⟨#[]⟩,0,0⟩
theorem noV_val:Value.agg #[.string ⟨#[]⟩,.int .i64 0,.int .u64 0]=noV.val:=rfl
theorem mm_i64{α:Type}(a b:Int)(k:Value→Option α):pMM true [.int .i64 a,.int .i64 b] k=k (.int .i64 (if b>a then b else a)):=rfl
theorem nmOk_cons(seen:List ByteArray)(s:ByteArray)(r:List ByteArray):nmOk seen (s::r)=if (seen.any fun t=>s==t)||!zcB s then false else nmOk (seen++[s]) r:=rfl
structure TS(B H:Hp)(m:Nat)(F:ByteArray→Option VV):Prop where
 next:B.next≤H.next
 old:∀j,j<B.next→H.get j=B.get j
 l:B.next≤m
 n:m<H.next
 map:MapS H m VV.val F
theorem TS.up{B H:Hp}{m:Nat}{F:ByteArray→Option VV}(h:TS B H m F)(v:VV) :
  ∃H',(∀(α:Type) (k:Hp→Option α),pUpd PP Ac (.map (some m)) (.string v.name) v.val H k=k H')∧TS B H' m (fun t=>if (t==v.name)=true then some v else F t):=by
 obtain⟨H',e1,e2,e3,e4⟩:=h.map.upd v.name v;have a:=h.l;exact⟨H',e1,⟨by rw[e4];exact h.next,fun j hj=>by rw[e3 j (by omega),h.old j hj],h.l,by rw[e4];exact h.n,e2⟩⟩
section
variable {B:Hp}{x:Value}{L:List VV}(hx:Rdb B 3 x L.length (zbU L))(hl:L.length≤2^40)
include hx hl
theorem zj6{m:Nat}:∀(r:List VV) (i:Nat) (H:Hp),L.drop i=r→i≤L.length→TS B H m (fun s=>fndV s (L.take i)) →
  ∃H',B.next≤H'.next∧(∀j,j<B.next→H'.get j=B.get j) ∧
   (nmOk ((L.take i).map VV.name) (r.map VV.name)=true→zat (zbW RR x (.map (some m)) (.int .i64 (L.length:Int))) [.int .i64 (i:Int)] H=some (.exit 0,[.int .i64 (L.length:Int)],H')∧TS B H' m (fun s=>fndV s L)) ∧
   (nmOk ((L.take i).map VV.name) (r.map VV.name)=false→zat (zbW RR x (.map (some m)) (.int .i64 (L.length:Int))) [.int .i64 (i:Int)] H=some (.ret,[.tuple #[.map none,.int .i64 72]],H'))
 |[],i,H,hr,hi,h=>by
  have hil:i=L.length:=by have:=congrArg List.length hr;rw[length_drop,length_nil]at this;omega
  subst hil;refine⟨H,h.next,h.old,fun _=>⟨?_,?_⟩,fun q=>by cases q⟩
  ·rw[zak];have:zbW RR x (.map (some m)) (.int .i64 (L.length:Int)) [.int .i64 (L.length:Int)] H=some (.exit 0,[.int .i64 (L.length:Int)],H):=by unfold zbW;simp only[qg0];rw[lF (Int.lt_irrefl _)]
   rw[this];rfl
  ·rw[take_length]at h;exact h
 |v::r,i,H,hr,hi,h=>by
  have hlt:i<L.length:=by have:=congrArg List.length hr;rw[length_drop,length_cons]at this;omega
  have hv:L[i]?=some v:=by
   have:(L.drop i)[0]?=some v:=by rw[hr];rfl
   rwa [List.getElem?_drop,Nat.add_zero]at this
  have hr2:L.drop (i+1)=r:=by rw[←drop_drop,hr];rfl
  have ht:L.take (i+1)=L.take i++[v]:=by rw[take_add_one,hv];rfl
  have hxH:Rdb H 3 x L.length (zbU L):=hx.keep' (fun j hj=>h.old j (hx.lt hj)) h.next;obtain⟨y,_,y1,y2,_⟩:=Rdb.vv hxH hv;have q:(i:Int)<(L.length:Int):=by omega
  have w1:IntKind.i64.wrap ((i:Int)+1)=((i+1:Nat):Int):=zaA (by omega) (by omega);have lk:∀{α:Type} (k:Value→Option α),zbj PP Ac (.agg #[.string ⟨#[]⟩,.int .i64 0,.int .u64 0]) (.map (some m)) (.string v.name) true H k=k (.tuple #[((fndV v.name (L.take i)).getD noV).val,.bool (fndV v.name (L.take i)).isSome]):=fun k=>by rw[noV_val,h.map.look2];cases fndV v.name (L.take i)<;>rfl
  have hb:=zpt v.name (L.take i);obtain⟨H1,u1,t1⟩:=h.up v;have hcase:zbW RR x (.map (some m)) (.int .i64 (L.length:Int)) [.int .i64 (i:Int)] H=if ((fndV v.name (L.take i)).isSome||!zcB v.name)=true then some (.ret,[.tuple #[.map none,.int .i64 72]],H) else some (.next,[.int .i64 ((i+1:Nat):Int)],H1):=by
   unfold zbW;simp only[qg0];rw[lT q,y1,y2,splV,vcell0,lk,x01,splV,zac];cases (fndV v.name (L.take i)).isSome with
   |true=>rfl
   |false=>
    rw[zaD,vcell0,zae (Go.AM.c44 _ _),zb9,zac];cases zcB v.name with
    |false=>rfl
    |true=>
     show br false _ _=_;rw[zaD,vcell0,zoz,u1,zaM,w1];rfl
  rw[map_cons,nmOk_cons,←hb];by_cases hc:((fndV v.name (L.take i)).isSome||!zcB v.name)=true
  ·rw[if_pos hc]at hcase ⊢;refine⟨H,h.next,h.old,fun q=>(by cases q),fun _=>?_⟩;rw[zak,hcase];rfl
  ·rw[if_neg hc]at hcase ⊢;have hF:(fun t=>if (t==v.name)=true then some v else fndV t (L.take i))=fun s=>fndV s (L.take (i+1)):=by
    funext t;rw[ht,zps];by_cases e:(t==v.name)=true
    ·rw[if_pos e,if_pos e];have:t=v.name:=(zg8 _ _).1 e;rw[this];cases hq:fndV v.name (L.take i) with
     |none=>rfl
     |some z=>rw[hq]at hc;exact absurd rfl hc
    ·rw[if_neg e,if_neg e];cases fndV t (L.take i)<;>rfl
   rw[hF]at t1;obtain⟨H',g1,g2,g3,g4⟩:=zj6 r (i+1) H1 hr2 (by omega) t1;rw[ht,map_append]at g3 g4;refine⟨H',g1,g2,fun q=>?_,fun q=>?_⟩
   ·rw[zak,hcase];exact g3 q
   ·rw[zak,hcase];exact g4 q
theorem zj5{H:Hp}(hok:∀v∈L,v.Ok)(hH:Rdb H 3 x L.length (zbU L)):∀(r:List VV) (i:Nat),L.drop i=r→i≤L.length →
   (r.all wdOk=true→zat (zbV RR x (.int .i64 (L.length:Int))) [.int .i64 (i:Int)] H=some (.exit 2,[.int .i64 (L.length:Int)],H)) ∧
   (r.all wdOk=false→zat (zbV RR x (.int .i64 (L.length:Int))) [.int .i64 (i:Int)] H=some (.ret,[.tuple #[.map none,.int .i64 5]],H))
 |[],i,hr,hi=>by
  have hil:i=L.length:=by have:=congrArg List.length hr;rw[length_drop,length_nil]at this;omega
  subst hil;refine⟨fun _=>?_,fun q=>by cases q⟩;rw[zak];have:zbV RR x (.int .i64 (L.length:Int)) [.int .i64 (L.length:Int)] H=some (.exit 2,[.int .i64 (L.length:Int)],H):=by unfold zbV;simp only[qg0];rw[lF (Int.lt_irrefl _)]
  rw[this];rfl
 |v::r,i,hr,hi=>by
  have hlt:i<L.length:=by have:=congrArg List.length hr;rw[length_drop,length_cons]at this;omega
  have hv:L[i]?=some v:=by
   have:(L.drop i)[0]?=some v:=by rw[hr];rfl
   rwa [List.getElem?_drop,Nat.add_zero]at this
  have hr2:L.drop (i+1)=r:=by rw[←drop_drop,hr];rfl
  obtain⟨y,_,y1,y2,_⟩:=Rdb.vv hH hv;have q:(i:Int)<(L.length:Int):=by omega
  have w1:IntKind.i64.wrap ((i:Int)+1)=((i+1:Nat):Int):=zaA (by omega) (by omega);obtain⟨n0,n1⟩:=hok v (mem_of_getElem? hv);have e:(if (1:Int)>v.w then (1:Int) else v.w)=if v.w<1 then 1 else v.w:=rfl;have hcase:zbV RR x (.int .i64 (L.length:Int)) [.int .i64 (i:Int)] H=if wdOk v=true then some (.next,[.int .i64 ((i+1:Nat):Int)],H) else some (.ret,[.tuple #[.map none,.int .i64 5]],H):=by
   unfold zbV wdOk;simp only[qg0];rw[lT q,y1,y2,splV,zj2,za3,zac];by_cases a:v.w<0
   ·rw[decide_eq_true a,zaP,decide_eq_false (show ¬0≤v.w by omega)];rfl
   ·rw[decide_eq_false a,zaD,zj2,zci,zac,decide_eq_true (show 0≤v.w by omega)];by_cases b:v.w>64
    ·rw[decide_eq_true b,zaP,decide_eq_false (show ¬v.w≤64 by omega)];rfl
    ·rw[decide_eq_false b,zaD,zj2,mm_i64,zl1,zae (Go.AM.c45 _ _ n0 n1 _),zl1,zbt,zac,decide_eq_true (show v.w≤64 by omega),e,zaM,w1];by_cases c:zdR (if v.w<1 then 1 else v.w) v.num=v.num
     ·rw[c,decide_eq_false (by simp),zaD,decide_eq_true rfl];rfl
     ·rw[decide_eq_true c,zaP,decide_eq_false c];rfl
  obtain⟨g1,g2⟩:=zj5 hok hH r (i+1) hr2 (by omega);rw[all_cons];cases hw:wdOk v with
  |true=>
   rw[hw,if_pos rfl]at hcase;rw[Bool.true_and,zak,hcase];exact⟨g1,g2⟩
  |false=>
   rw[hw,if_neg (by decide)]at hcase;refine⟨fun q=>(by cases q),fun _=>?_⟩;rw[zak,hcase];rfl
theorem c_told(hok:∀v∈L,v.Ok):∃v H',RR Bm [x] B=some (.tuple #[v,.int .i64 (zhb L)],H')∧Frm (fun _=>False) B H'∧(zhb L=0→∃m,v=.map (some m)∧B.next≤m∧m<H'.next∧MapS H' m VV.val (fun s=>fndV s L)):=by
 have hr:=(znD E0 rfl x B).trans (zod _ _ _);have t0:TS B (B.new (.map [])) B.next (fun s=>fndV s (L.take 0)):=⟨by show B.next≤B.next+1;omega,fun j hj=>by rw[get_new,if_neg (by omega)],Nat.le_refl _,by show B.next<B.next+1;omega,MapS.new B VV.val⟩
 obtain⟨H1,a1,a2,a3,a4⟩:=zj6 hx hl L 0 _ rfl (Nat.zero_le _) t0;rw[take_zero,map_nil]at a3 a4;have hh:∀(n:Int) (f:Option (Value×Hp)),zgh (.int .i64 n) f=f:=fun n f=>rfl;have hm:∀(H:Hp) (f:Value→Hp→Option (Value×Hp)),zbY H f=f (.map (some H.next)) (H.new (.map [])):=fun H f=>rfl;have z0:((0:Nat):Int)=0:=rfl;rw[z0]at a3 a4;rw[hx.len,hh,hm,hx.len]at hr;unfold zhb;have fr:Frm (fun _=>False) B H1:=⟨a1,fun j hj _=>a2 j hj⟩
 cases hn:nmOk [] (L.map VV.name) with
 |false=>
  rw[a4 hn]at hr;rw[if_neg (by decide)];exact⟨_,H1,hr,fr,fun q=>absurd q (by decide)⟩
 |true=>
  obtain⟨b1,b2⟩:=a3 hn;have hx1:Rdb H1 3 x L.length (zbU L):=hx.keep' (fun j hj=>a2 j (hx.lt hj)) a1;obtain⟨c1,c2⟩:=zj5 hx hl hok hx1 L 0 rfl (Nat.zero_le _);rw[z0]at c1 c2;rw[b1,zap,za6,zay,hx.len]at hr;rw[if_pos rfl];cases hw:L.all wdOk with
  |false=>
   rw[c2 hw]at hr;rw[if_neg (by decide)];exact⟨_,H1,hr,fr,fun q=>absurd q (by decide)⟩
  |true=>
   rw[c1 hw,zap,za6,zay]at hr;exact⟨_,H1,hr,fr,fun _=>⟨_,rfl,b2.l,b2.n,b2.map⟩⟩
end
end Go.AM.N14
namespace Go.AM
open List Go
def fw(F:Int→Int)(n:Nd):List Fld→Nat→List (List UInt8)
 |[],_=>[]
 |.p::r,k=>itoa (F ([n.a,n.b,n.c].getD k 0))::fw F n r (k+1)
 |.n::r,k=>numT n.num.toNat::fw F n r k
 |.w::r,k=>itoa n.w::fw F n r k
 |.s::r,k=>n.name.data.toList::fw F n r k
theorem znm(F:Int→Int)(n:Nd):∀(fs:List Fld) (k:Nat),act F n (fs.map fldC) k=(fw F n fs k).flatMap sp
 |[],k=>rfl
 |.p::r,k=>by
  rw[map_cons];show sp _++act F n (r.map fldC) (k+1)=_;rw[znm F n r (k+1)];rfl
 |.n::r,k=>by
  rw[map_cons];show sp _++act F n (r.map fldC) k=_;rw[znm F n r k];rfl
 |.w::r,k=>by
  rw[map_cons];show sp _++act F n (r.map fldC) k=_;rw[znm F n r k];rfl
 |.s::r,k=>by rw[map_cons];show sp _++act F n (r.map fldC) k=_;rw[znm F n r k];rfl
def upT(n:Nat):List Int:=(List.range n).map fun (j:Nat)=>((j+1:Nat):Int)
section
end
theorem q_seqlE(a b:ByteArray)(h:(a.toList==b.toList)=true):a=b:=by
 have h:a.toList=b.toList:=by simpa using h
 rw[Go.Lib.toList_data,Go.Lib.toList_data]at h;rw[zf0 (s:=a) rfl,zf0 (s:=b) rfl,h]
theorem zlA{M:List Nd}{K:List (ByteArray×Int)}{n:Nd}(h:zhz M K n):(zah n.op≥1→1≤n.a∧n.a≤M.length)∧(zah n.op<1→n.a=0)∧(zah n.op≥2→1≤n.b∧n.b≤M.length)∧(zah n.op<2→n.b=0)∧(zah n.op≥3→1≤n.c∧n.c≤M.length)∧(zah n.op<3→n.c=0) ∧
  (n.op≠3→n.op≠31→n.num=0)∧(n.op≠4→n.name=⟨#[]⟩):=by
 obtain⟨_,_,_,ha,hb,hc⟩:=zlq h.pt h.sp;have h2:=h.sp;unfold zex at h2;simp only[Bool.or_eq_true,Bool.and_eq_true,decide_eq_true_eq,not_or,not_and]at h2;refine⟨fun q=>za7.1 (ha q),fun q=>?_,fun q=>za7.1 (hb q),fun q=>?_,fun q=>za7.1 (hc q),fun q=>?_,fun q1 q2=>?_,fun q=>?_⟩
 ·have:=h2.1.1.1.1 q;omega
 ·have:=h2.1.1.1.2 q;omega
 ·have:=h2.1.1.2 q;omega
 ·exact Decidable.byContradiction fun e=>h2.1.2 ⟨e,q1⟩ q2
 ·have hn:zi6 n=false:=by
   cases e:zi6 n with
   |false=>rfl
   |true=>exact absurd q (h2.2 e)
  unfold zi6 at hn;have he:(n.name.toList==(⟨#[]⟩:ByteArray).toList)=true:=by simpa using hn
  have h3:=q_seqlE n.name ⟨#[]⟩ he;exact h3
theorem zj0:((List.range 34).all fun op=>decide ((zhu (op:Int)).count .p=(zah (op:Int)).toNat))=true:=by decide +kernel
theorem zqg{op:Int}(h:1≤op∧op≤33):(zhu op).count .p=(zah op).toNat:=by
 obtain⟨o,ho⟩:∃o:Nat,op=(o:Int):=⟨op.toNat,by omega⟩
 subst ho;exact of_decide_eq_true (all_eq_true.1 zj0 o (mem_range.2 (by omega)))
theorem zkJ(F:Int→Int)(i:Nat)(n:Nd)(h:1≤n.op∧n.op≤33):line zbv F i n=(itoa ((i+1:Nat):Int)++(word zbv n.op::fw F n (zhu n.op) 0).flatMap sp)++[10]:=by
 obtain⟨o,ho⟩:∃o:Nat,n.op=(o:Int):=⟨n.op.toNat,by omega⟩
 have hf:fl n.op=(zhu n.op).map fldC:=by rw[ho];exact fl_eq (by omega) (by omega)
 unfold line;rw[hf,znm,flatMap_cons];unfold sp;simp only[append_assoc,cons_append,nil_append]
section
end
end Go.AM
namespace Go.AM
open Go
section
end
section
end
end Go.AM
namespace Go.AM
open List Go
section
variable {L:List Nd}{K:List (ByteArray×Int)}(hg:zb8 L K){O:List Nat}(h:Ord L O)
include hg h
theorem ren_node{t:Nat}(ht:t∈O):(renL L O)[ixO O t-1]?=some (renN O (zaG L t)):=by obtain⟨i,hi⟩:=List.getElem?_of_mem ht;rw[ix_at h.nd hi,Nat.add_sub_cancel];exact ren_get hi
omit hg h in
theorem line_same{F F2:Int→Int}{i:Nat}{n m:Nd}(h:fw F n (zhu n.op) 0=fw F2 m (zhu n.op) 0)(ho:m.op=n.op)(hop:1≤n.op∧n.op≤33):line zbv F i n=line zbv F2 i m:=by rw[zkJ F i n hop,zkJ F2 i m (by rw[ho];exact hop),ho,h]
omit hg h in
theorem zmW{F F2:Int→Int}{n m:Nd}(hw:m.w=n.w)(hn:m.num=n.num)(hs:m.name=n.name):∀(fs:List Fld) (k:Nat),(∀j,k≤j→j<k+fs.count .p→F ([n.a,n.b,n.c].getD j 0)=F2 ([m.a,m.b,m.c].getD j 0))→fw F n fs k=fw F2 m fs k
 |[],k,h=>rfl
 |.p::r,k,h=>by
  rw[count_cons_self]at h;show itoa _::fw F n r (k+1)=itoa _::fw F2 m r (k+1);rw[h k (Nat.le_refl _) (by omega),zmW hw hn hs r (k+1) fun j h1 h2=>h j (by omega) (by omega)]
 |.n::r,k,h=>by
  have hc:(Fld.n::r).count .p=r.count .p:=count_cons_of_ne (by decide);rw[hc]at h;show numT _::fw F n r k=numT _::fw F2 m r k;rw[hn,zmW hw hn hs r k h]
 |.w::r,k,h=>by
  have hc:(Fld.w::r).count .p=r.count .p:=count_cons_of_ne (by decide);rw[hc]at h;show itoa _::fw F n r k=itoa _::fw F2 m r k;rw[hw,zmW hw hn hs r k h]
 |.s::r,k,h=>by have hc:(Fld.s::r).count .p=r.count .p:=count_cons_of_ne (by decide);rw[hc]at h;show n.name.data.toList::fw F n r k=m.name.data.toList::fw F2 m r k;rw[hs,zmW hw hn hs r k h]
theorem zmj:∀(r:List Nat) (i:Nat) (F F2:Int→Int),O.drop i=r→(∀u∈O.take i,F (u:Int)=F2 (ixO O u:Int)) →
  zfW zbv (renL L O) i (r.map (ixO O)) F2=zfW zbv L i r F∧(∀u,(u∈O.take i∨u∈r)→zhR i r F (u:Int)=zhR i (r.map (ixO O)) F2 (ixO O u:Int))
 |[],i,F,F2,hr,hF=>⟨rfl,fun u hu=>by
  rcases hu with q|q
  ·exact hF u q
  ·cases q⟩
 |t::r,i,F,F2,hr,hF=>by
  have ht:O[i]?=some t:=by have:=congrArg (fun x=>x[0]?) hr;simpa using this
  have hmem:=mem_of_getElem? ht;have hr2:O.drop (i+1)=r:=by rw[←drop_drop,hr];rfl
  have hF2:∀u,(u=t∨u∈O.take i)→upF F (t:Int) ((i+1:Nat):Int) (u:Int)=upF F2 (ixO O t:Int) ((i+1:Nat):Int) (ixO O u:Int):=fun u hu=>by
   unfold upF;by_cases e:u=t
   ·rw[e,if_pos rfl,if_pos rfl]
   ·rw[if_neg (by omega),if_neg fun q=>e (ix_inj hmem (show ixO O t=ixO O u by omega)).symm];rcases hu with q|q
    ·exact absurd q e
    ·exact hF u q
  have htk:∀u∈O.take (i+1),upF F (t:Int) ((i+1:Nat):Int) (u:Int)=upF F2 (ixO O t:Int) ((i+1:Nat):Int) (ixO O u:Int):=fun u hu=>by
   rw[take_add_one,ht]at hu;rcases mem_append.1 hu with q|q
   ·exact hF2 u (.inr q)
   ·exact hF2 u (.inl (by simpa using q))
  obtain⟨ih1,ih2⟩:=zmj r (i+1) (upF F (t:Int) ((i+1:Nat):Int)) (upF F2 (ixO O t:Int) ((i+1:Nat):Int)) hr2 htk;refine⟨?_,fun u hu=>ih2 u ?_⟩
  ·rw[map_cons];show line zbv (upF F2 (ixO O t:Int) _) i (zaG (renL L O) (ixO O t))++zfW zbv (renL L O) (i+1) (r.map (ixO O)) (upF F2 (ixO O t:Int) _)=line zbv (upF F (t:Int) _) i (zaG L t)++zfW zbv L (i+1) r (upF F (t:Int) _);rw[ih1];congr 1;have hnd:zaG (renL L O) (ixO O t)=renN O (zaG L t):=by unfold zaG;rw[ren_node hg h hmem];rfl
   rw[hnd];have hrt:=hg.rt _ (mem_of_getElem? (zbn (h.bd t hmem)));have hop:1≤(zaG L t).op∧(zaG L t).op≤33:=by have:¬((zaG L t).op<1∨(zaG L t).op>33):=hrt.op;omega
   have hparts:=zlA hrt;have hkid:=fun x hx=>h.kid hg.dag ht (x:=x) hx;have hcnt:=zqg (op:=(zaG L t).op) hop;have hpc:=zcj (zaG L t).op;refine(line_same (F:=upF F (t:Int) ((i+1:Nat):Int)) (F2:=upF F2 (ixO O t:Int) ((i+1:Nat):Int)) (n:=zaG L t) (m:=renN O (zaG L t)) ?_ rfl hop).symm;have one:∀x:Int,(x=(zaG L t).a∨x=(zaG L t).b∨x=(zaG L t).c)→1≤x→upF F (t:Int) ((i+1:Nat):Int) x=upF F2 (ixO O t:Int) ((i+1:Nat):Int) (rpI O x):=fun x hx h1=>by
    rcases hkid x hx with q|⟨c,rfl,c1,c2⟩
    ·omega
    ·rw[(rp_kid h c2 c1).1];exact hF2 c (.inr c2)
   refine zmW (n:=zaG L t) (m:=renN O (zaG L t)) rfl rfl rfl (zhu (zaG L t).op) 0 fun j _ hj=>?_;rw[hcnt]at hj
   match j,hj with
   |0,hj=>exact one _ (.inl rfl) (hparts.1 (by omega)).1
   |1,hj=>exact one _ (.inr (.inl rfl)) (hparts.2.2.1 (by omega)).1
   |2,hj=>exact one _ (.inr (.inr rfl)) (hparts.2.2.2.2.1 (by omega)).1
   |j+3,hj=>omega
  ·rw[take_add_one,ht];rcases hu with q|q
   ·exact .inl (mem_append_left _ q)
   ·rcases mem_cons.1 q with q|q
    ·exact .inl (mem_append_right _ (by simp[q]))
    ·exact .inr q
theorem zoU{ns:List Nat}(hns:∀t∈ns,t∈O):zqi zbv (renL L O) (O.map (ixO O)) ((ns.map (ixO O)).map fun (t:Nat)=>(t:Int))=zqi zbv L O (ns.map fun (t:Nat)=>(t:Int)):=by
 obtain⟨a1,a2⟩:=zmj hg h O 0 (fun _=>0) (fun _=>0) rfl (fun u hu=>by simp at hu);unfold zqi;rw[a1];congr 2;unfold ziF;induction ns with
 |nil=>rfl
 |cons t r ih=>
  rw[map_cons,map_cons,map_cons,flatMap_cons,flatMap_cons,ih fun x hx=>hns x (mem_cons_of_mem _ hx)];rw[a2 t (.inr (hns t (mem_cons_self ..)))]
end
theorem zmv{L:List Nd}(hd:Dag L){ns:List Nat}(hns:∀t∈ns,1≤t∧t≤L.length):Ord L (posts L ns [])∧(∀t∈ns,t∈posts L ns []):=by have ht:Told L.length (posts L ns []):=(⟨nodup_nil,fun x h=>by cases h⟩:Told L.length []).posts hd hns;have hc:=(zeE hd ns [] (fun c hc=>(hns c hc).1) (fun i t q=>by cases q)).1;exact⟨⟨ht.nd,ht.bd,hc⟩,(zbP hd ns [] hns).2.1⟩
end Go.AM
namespace Go.AM.N14
open List Go Go.AM
theorem zpg:∀(l seen:List ByteArray),nmOk seen l=true↔(∀s∈l,zcB s=true)∧l.Nodup∧(∀s∈l,s∉seen)
 |[],seen=>by
  unfold nmOk;simp
 |s::r,seen=>by
  have ih:=zpg r (seen++[s]);have ha:(seen.any fun t=>s==t)=true↔s∈seen:=by
   rw[any_eq_true];constructor
   ·rintro⟨t,ht,q⟩;rw[(zg8 s t).1 q];exact ht
   ·intro h;exact⟨s,h,(zg8 s s).2 rfl⟩
  unfold nmOk;by_cases h:((seen.any fun t=>s==t)||!zcB s)=true
  ·rw[if_pos h];refine⟨fun q=>(by cases q),fun⟨q1,_,q3⟩=>?_⟩;rw[Bool.or_eq_true]at h;rcases h with h|h
   ·exact absurd (ha.1 h) (q3 s (mem_cons_self ..))
   ·have:=q1 s (mem_cons_self ..);rw[this]at h;cases h
  ·rw[if_neg h,ih];rw[Bool.or_eq_true,not_or]at h;have hs:s∉seen:=fun q=>h.1 (ha.2 q);have hk:zcB s=true:=by
    cases q:zcB s with
    |true=>rfl
    |false=>exact absurd (by rw[q];rfl) h.2
   constructor
   ·rintro⟨q1,q2,q3⟩
    refine⟨fun t ht=>?_,nodup_cons.2 ⟨fun q=>q3 s q (mem_append_right _ (mem_singleton.2 rfl)),q2⟩,fun t ht=>?_⟩
    ·rcases mem_cons.1 ht with e|e
     ·rw[e];exact hk
     ·exact q1 t e
    ·rcases mem_cons.1 ht with e|e
     ·rw[e];exact hs
     ·exact fun q=>q3 t e (mem_append_left _ q)
   ·rintro⟨q1,q2,q3⟩
    obtain⟨n1,n2⟩:=nodup_cons.1 q2;refine⟨fun t ht=>q1 t (mem_cons_of_mem _ ht),n2,fun t ht q=>?_⟩;rcases mem_append.1 q with e|e
    ·exact q3 t (mem_cons_of_mem _ ht) e
    ·rw[mem_singleton]at e;rw[e]at ht;exact n1 ht
theorem zoA{L:List Nd}{K:List (ByteArray×Int)}(hg:zb8 L K){m u:Nd}(hm:m∈L)(hu:u∈L)(m4:m.op=4)(u4:u.op=4)(e:m.name=u.name):m=u:=by
 obtain⟨j,k1⟩:=hg.kn m hm m4;obtain⟨i,k2⟩:=hg.kn u hu u4;rw[e,k2]at k1;have hw:=congrArg Prod.snd (Option.some.inj k1);have one:∀x:Nd,x∈L→x.op=4→x.a=0∧x.b=0∧x.c=0∧x.num=0:=fun x hx x4=>by
  obtain⟨_,pa,_,pb,_,pc,pn,_⟩:=zlA (hg.rt x hx);have hp:zah x.op=0:=by rw[x4];rfl
  exact⟨pa (by omega),pb (by omega),pc (by omega),pn (by omega) (by omega)⟩
 obtain⟨a1,a2,a3,a4⟩:=one m hm m4;obtain⟨b1,b2,b3,b4⟩:=one u hu u4;cases m;cases u;simp only[Nd.mk.injEq];dsimp only at *;exact⟨by rw[m4,u4],by rw[hw],by rw[a1,b1],by rw[a2,b2],by rw[a3,b3],by rw[a4,b4],e⟩
def isV(L:List Nd)(t:Nat):Option VV:=match L[t-1]? with
 |some n=>if n.op=4 then some ⟨n.name,n.w,0⟩ else none
 |none=>none
theorem zii{L:List Nd}{t:Nat}{v:VV}(h:isV L t=some v):∃n,L[t-1]?=some n∧n.op=4∧v=⟨n.name,n.w,0⟩:=by
 unfold isV at h;cases hq:L[t-1]? with
 |none=>rw[hq]at h;cases h
 |some n=>
  rw[hq]at h;dsimp only at h;split at h
  ·rename_i h4;cases h;exact⟨n,rfl,h4,rfl⟩
  ·cases h
theorem zpO{L:List Nd}{K:List (ByteArray×Int)}(hg:zb8 L K):∀(O:List Nat),O.Nodup→(∀t∈O,1≤t∧t≤L.length)→nmOk [] ((O.filterMap (isV L)).map VV.name)=true:=by
 intro O hn hb;rw[zpg];refine⟨fun s hs=>?_,?_,fun s _ q=>by cases q⟩
 ·obtain⟨v,hv,rfl⟩:=mem_map.1 hs;obtain⟨t,ht,q⟩:=mem_filterMap.1 hv;obtain⟨n,h1,h4,rfl⟩:=zii q;exact(zg7 ((hg.rt n (mem_of_getElem? h1)).free h4)).1
 ·induction O with
  |nil=>exact nodup_nil
  |cons t r ih=>
   obtain⟨n1,n2⟩:=nodup_cons.1 hn;have ih:=ih n2 fun x hx=>hb x (mem_cons_of_mem _ hx);rw[filterMap_cons];cases hq:isV L t with
   |none=>exact ih
   |some v=>
    dsimp only;rw[map_cons];refine nodup_cons.2 ⟨fun q=>?_,ih⟩;obtain⟨u,hu,e⟩:=mem_map.1 q;obtain⟨x,hx,q2⟩:=mem_filterMap.1 hu;obtain⟨n,a1,a4,rfl⟩:=zii hq;obtain⟨m,b1,b4,rfl⟩:=zii q2;have hs:=zoA hg (mem_of_getElem? a1) (mem_of_getElem? b1) a4 b4 e.symm;rw[←hs]at b1;have:=hg.nod _ _ _ a1 b1;have h1:=hb t (mem_cons_self ..);have h2:=hb x (mem_cons_of_mem _ hx);have:t=x:=by omega
    rw[this]at n1;exact n1 hx
theorem zk1(L:List Nd)(ns:List Nat):zfH L ns=(posts L ns []).filterMap (isV L):=rfl
def cutW(w x:Int):Int:=zdR (if w<1 then 1 else w) x
def zbT(nums:List Int):Nat→List VV→List VV
 |_,[]=>[]
 |i,v::r=>{ v with num:=cutW v.w (if nums=[] then 0 else nums.getD (i%nums.length) 0) }::zbT nums (i+1) r
theorem zjw(nums:List Int):∀(Tv:List VV) (i:Nat),(zbT nums i Tv).map VV.name=Tv.map VV.name
 |[],i=>rfl
 |v::r,i=>by unfold zbT;rw[map_cons,map_cons,zjw nums r (i+1)]
theorem trim_trim(w x:Int)(hx:0≤x):zdR w (zdR w x)=zdR w x:=by
 unfold zdR;by_cases h1:w<1
 ·simp only[h1,if_true]
 ·by_cases h2:w≥64
  ·simp only[h1,h2,if_true,if_false]
  ·simp only[h1,h2,if_false];rw[Int.emod_emod_of_dvd _ (Int.dvd_refl _)]
theorem zpD(nums:List Int)(hnn:∀x∈nums,0≤x):∀(Tv:List VV) (i:Nat),(∀v∈Tv,0≤v.w∧v.w≤64)→(zbT nums i Tv).all wdOk=true
 |[],i,_=>rfl
 |v::r,i,h=>by
  unfold zbT;rw[all_cons,zpD nums hnn r (i+1) fun x hx=>h x (mem_cons_of_mem _ hx),Bool.and_true];have hv:=h v (mem_cons_self ..);unfold wdOk cutW;dsimp only;have hx:0≤(if nums=[] then 0 else nums.getD (i%nums.length) 0):=by
   split
   ·exact Int.le_refl _
   ·rw[getD_eq_getElem?_getD];cases q:nums[i%nums.length]? with
    |none=>exact Int.le_refl _
    |some x=>exact hnn x (mem_of_getElem? q)
  rw[trim_trim _ _ hx,decide_eq_true hv.1,decide_eq_true hv.2,decide_eq_true rfl];rfl
end Go.AM.N14
namespace Go.AM.N14
open Go Go.AM
section
end
abbrev F0:Fct:=⟨0,0#64,0#64,0#64,0#64⟩
section
end
section
end
section
end
section
end
end Go.AM.N14
namespace Go.AM.N14
open Go Go.AM Go.ChangeShapes Go.WideShapes Go.ChangeAt Go.RowKit
end Go.AM.N14
namespace Go.AM.N14
open Go Go.AM
def zcG(n:Nd)(a b c:Int):Bool:=
 if n.op≤2 then decide (n.w=0) else if n.op=3 then decide (n.w>0)&&decide (n.num≤((msk (wd n.w)).toNat:Int)) else if n.op=4 then true else if n.op=5 then decide (n.w=0)&&decide (a=0) else if n.op≤8 then decide (n.w=0)&&(decide (a=0)&&decide (b=0)) else if n.op=9 then decide (n.w=0)&&decide (a=b) else if n.op≤13 then decide (n.w=0)&&(decide (a>0)&&decide (a=b)) else if n.op=14 then decide (a=0)&&(decide (b=c)&&decide (n.w=b))
 else if n.op≤16 then decide (a>0)&&decide (n.w=a) else if n.op≤24 then decide (a>0)&&(decide (a=b)&&decide (n.w=a)) else if n.op≤29 then decide (a>0)&&(decide (a=b)&&(decide (n.w=a)&&isPow a)) else if n.op=30 then decide (a>0)&&(decide (b>0)&&decide (n.w=a+b)) else if n.op=31 then decide (a>0)&&(decide (n.w≥1)&&(decide (n.w≤a)&&decide (n.num≤a-n.w))) else decide (a>0)&&decide (n.w≥a)
def zhA(n:Nd)(a b c:Int):Bool:=if n.num≠0∧n.op≠3∧n.op≠31 then false else zcG n a b c
structure Parted(L:List Nd)(n:Nd)(a b c:Int):Prop where
 a:(zah n.op≥1∧isT L n.a=true∧wT L (-1) n.a=a)∨(zah n.op<1∧n.a=0∧a=0)
 b:(zah n.op≥2∧isT L n.b=true∧wT L (-1) n.b=b)∨(zah n.op<2∧n.b=0∧b=0)
 c:(zah n.op≥3∧isT L n.c=true∧wT L (-1) n.c=c)∨(zah n.op<3∧n.c=0∧c=0)
theorem trim_iff{n:Nd}(hw:0<n.w∧n.w≤64)(hnum:0≤n.num∧n.num<18446744073709551616):decide (zdR n.w n.num=n.num)=decide (n.num≤((msk (wd n.w)).toNat:Int)):=by
 have e1:wd n.w=n.w.toNat:=by unfold wd;omega
 rw[e1,zlB _ (by omega)];unfold zdR;rw[if_neg (by omega)];by_cases h64:n.w≥64
 ·have:n.w.toNat=64:=by omega
  rw[if_pos h64,this,decide_eq_true rfl,decide_eq_true (by omega)]
 ·rw[if_neg h64];have hp:0<2^n.w.toNat:=Nat.two_pow_pos _;have ep:((2:Int)^n.w.toNat)=((2^n.w.toNat:Nat):Int):=by push_cast;rfl
  rw[ep];generalize 2^n.w.toNat=m at *;have:(n.num%(m:Int)=n.num)↔n.num≤((m-1:Nat):Int):=by
   constructor
   ·intro h;have:=Int.emod_lt_of_pos n.num (show (0:Int)<(m:Int) by omega);omega
   ·intro h;exact Int.emod_eq_of_lt hnum.1 (by omega)
  exact decide_eq_decide.2 this
theorem checks{n:Nd}(ho:1≤n.op∧n.op≤33)(h4:n.op≠4)(hw:0≤n.w∧n.w≤64)(hnum:0≤n.num∧n.num<18446744073709551616){L:List Nd}{a b c:Int}(hp:Parted L n a b c) :
  (zbC n.op (wT L (-1) n.a) (wT L (-1) n.b) (wT L (-1) n.c)&&zbB n (wT L (-1) n.a) (wT L (-1) n.b))=zcG n a b c:=by
 have pa:=hp.a;have pb:=hp.b;have pc:=hp.c;by_cases g1:1≤n.op∧n.op≤2
 ·have hk:zah n.op=0:=by unfold zah;rw[if_pos (by omega)]
  rw[hk]at pa pb pc;unfold zbC zbB zcG;rw[if_pos (show zah n.op=0 by omega),if_pos (show n.op=1∨n.op=2∨(5≤n.op∧n.op≤13) by omega),if_pos (show n.op≤2 by omega)];rw[Bool.true_and]
 by_cases g3:n.op=3
 ·have hk:zah n.op=0:=by unfold zah;rw[if_pos (by omega)]
  rw[hk]at pa pb pc;unfold zbC zbB zcG;rw[if_pos (show zah n.op=0 by omega),if_neg (show ¬(n.op=1∨n.op=2∨(5≤n.op∧n.op≤13)) by omega),if_pos (show n.op=3 by omega),if_neg (show ¬n.op≤2 by omega),if_pos (show n.op=3 by omega)];by_cases q:n.w>0
  ·rw[trim_iff ⟨q,hw.2⟩ hnum,Bool.true_and]
  ·rw[decide_eq_false q];rfl
 by_cases g5:n.op=5
 ·have hk:zah n.op=1:=by unfold zah;rw[if_neg (by omega),if_pos (by omega)]
  rw[hk]at pa pb pc;have ea:wT L (-1) n.a=a:=by rcases pa with⟨_,_,q⟩|⟨q,_,_⟩;exact q;exact absurd q (by decide)
  unfold zbC zbB zcG;rw[ea];rw[if_neg (show ¬(zah n.op=0) by omega),if_pos (show n.op=5 by omega),if_pos (show n.op=1∨n.op=2∨(5≤n.op∧n.op≤13) by omega),if_neg (show ¬n.op≤2 by omega),if_neg (show ¬n.op=3 by omega),if_neg (show ¬n.op=4 by omega),if_pos (show n.op=5 by omega)]
  ac_rfl
 by_cases g6:6≤n.op∧n.op≤8
 ·have hk:zah n.op=2:=by unfold zah;rw[if_neg (by omega),if_neg (by omega),if_neg (by omega)]
  rw[hk]at pa pb pc;have ea:wT L (-1) n.a=a:=by rcases pa with⟨_,_,q⟩|⟨q,_,_⟩;exact q;exact absurd q (by decide)
  have eb:wT L (-1) n.b=b:=by rcases pb with⟨_,_,q⟩|⟨q,_,_⟩;exact q;exact absurd q (by decide)
  unfold zbC zbB zcG;rw[ea,eb];rw[if_neg (show ¬(zah n.op=0) by omega),if_neg (show ¬(n.op=5) by omega),if_pos (show n.op=6∨n.op=7∨n.op=8 by omega),if_pos (show n.op=1∨n.op=2∨(5≤n.op∧n.op≤13) by omega),if_neg (show ¬n.op≤2 by omega),if_neg (show ¬n.op=3 by omega),if_neg (show ¬n.op=4 by omega),if_neg (show ¬n.op=5 by omega),if_pos (show n.op≤8 by omega)]
  ac_rfl
 by_cases g9:n.op=9
 ·have hk:zah n.op=2:=by unfold zah;rw[if_neg (by omega),if_neg (by omega),if_neg (by omega)]
  rw[hk]at pa pb pc;have ea:wT L (-1) n.a=a:=by rcases pa with⟨_,_,q⟩|⟨q,_,_⟩;exact q;exact absurd q (by decide)
  have eb:wT L (-1) n.b=b:=by rcases pb with⟨_,_,q⟩|⟨q,_,_⟩;exact q;exact absurd q (by decide)
  unfold zbC zbB zcG;rw[ea,eb];rw[if_neg (show ¬(zah n.op=0) by omega),if_neg (show ¬(n.op=5) by omega),if_neg (show ¬(n.op=6∨n.op=7∨n.op=8) by omega),if_pos (show n.op=9 by omega),if_pos (show n.op=1∨n.op=2∨(5≤n.op∧n.op≤13) by omega),if_neg (show ¬n.op≤2 by omega),if_neg (show ¬n.op=3 by omega),if_neg (show ¬n.op=4 by omega),if_neg (show ¬n.op=5 by omega),if_neg (show ¬n.op≤8 by omega),if_pos (show n.op=9 by omega)]
  ac_rfl
 by_cases g10:10≤n.op∧n.op≤13
 ·have hk:zah n.op=2:=by unfold zah;rw[if_neg (by omega),if_neg (by omega),if_neg (by omega)]
  rw[hk]at pa pb pc;have ea:wT L (-1) n.a=a:=by rcases pa with⟨_,_,q⟩|⟨q,_,_⟩;exact q;exact absurd q (by decide)
  have eb:wT L (-1) n.b=b:=by rcases pb with⟨_,_,q⟩|⟨q,_,_⟩;exact q;exact absurd q (by decide)
  unfold zbC zbB zcG;rw[ea,eb];rw[if_neg (show ¬(zah n.op=0) by omega),if_neg (show ¬(n.op=5) by omega),if_neg (show ¬(n.op=6∨n.op=7∨n.op=8) by omega),if_neg (show ¬(n.op=9) by omega),if_neg (show ¬(n.op=14) by omega),if_neg (show ¬(n.op=30) by omega),if_neg (show ¬(zah n.op=1) by omega),if_pos (show n.op=1∨n.op=2∨(5≤n.op∧n.op≤13) by omega),if_neg (show ¬n.op≤2 by omega),if_neg (show ¬n.op=3 by omega),if_neg (show ¬n.op=4 by omega),if_neg (show ¬n.op=5 by omega),if_neg (show ¬n.op≤8 by omega),if_neg (show ¬n.op=9 by omega),if_pos (show n.op≤13 by omega)]
  ac_rfl
 by_cases g14:n.op=14
 ·have hk:zah n.op=3:=by unfold zah;rw[if_neg (by omega),if_neg (by omega),if_pos (by omega)]
  rw[hk]at pa pb pc;have ea:wT L (-1) n.a=a:=by rcases pa with⟨_,_,q⟩|⟨q,_,_⟩;exact q;exact absurd q (by decide)
  have eb:wT L (-1) n.b=b:=by rcases pb with⟨_,_,q⟩|⟨q,_,_⟩;exact q;exact absurd q (by decide)
  have ec:wT L (-1) n.c=c:=by rcases pc with⟨_,_,q⟩|⟨q,_,_⟩;exact q;exact absurd q (by decide)
  unfold zbC zbB zcG;rw[ea,eb,ec];rw[if_neg (show ¬(zah n.op=0) by omega),if_neg (show ¬(n.op=5) by omega),if_neg (show ¬(n.op=6∨n.op=7∨n.op=8) by omega),if_neg (show ¬(n.op=9) by omega),if_pos (show n.op=14 by omega),if_neg (show ¬(n.op=1∨n.op=2∨(5≤n.op∧n.op≤13)) by omega),if_neg (show ¬(n.op=3) by omega),if_neg (show ¬(n.op=4) by omega),if_pos (show n.op=14 by omega),if_neg (show ¬n.op≤2 by omega),if_neg (show ¬n.op=3 by omega),if_neg (show ¬n.op=4 by omega),if_neg (show ¬n.op=5 by omega),if_neg (show ¬n.op≤8 by omega),if_neg (show ¬n.op=9 by omega),if_neg (show ¬n.op≤13 by omega),if_pos (show n.op=14 by omega)]
  ac_rfl
 by_cases g15:15≤n.op∧n.op≤16
 ·have hk:zah n.op=1:=by unfold zah;rw[if_neg (by omega),if_pos (by omega)]
  rw[hk]at pa pb pc;have ea:wT L (-1) n.a=a:=by rcases pa with⟨_,_,q⟩|⟨q,_,_⟩;exact q;exact absurd q (by decide)
  unfold zbC zbB zcG;rw[ea];rw[if_neg (show ¬(zah n.op=0) by omega),if_neg (show ¬(n.op=5) by omega),if_neg (show ¬(n.op=6∨n.op=7∨n.op=8) by omega),if_neg (show ¬(n.op=9) by omega),if_neg (show ¬(n.op=14) by omega),if_neg (show ¬(n.op=30) by omega),if_pos (show zah n.op=1 by omega),if_neg (show ¬(n.op=1∨n.op=2∨(5≤n.op∧n.op≤13)) by omega),if_neg (show ¬(n.op=3) by omega),if_neg (show ¬(n.op=4) by omega),if_neg (show ¬(n.op=14) by omega),if_neg (show ¬(25≤n.op∧n.op≤29) by omega),if_neg (show ¬(n.op=30) by omega),if_neg (show ¬(n.op=31) by omega),if_neg (show ¬(n.op=32∨n.op=33) by omega),if_neg (show ¬n.op≤2 by omega),if_neg (show ¬n.op=3 by omega),if_neg (show ¬n.op=4 by omega),if_neg (show ¬n.op=5 by omega),if_neg (show ¬n.op≤8 by omega),if_neg (show ¬n.op=9 by omega),if_neg (show ¬n.op≤13 by omega),if_neg (show ¬n.op=14 by omega),if_pos (show n.op≤16 by omega)]
 by_cases g17:17≤n.op∧n.op≤24
 ·have hk:zah n.op=2:=by unfold zah;rw[if_neg (by omega),if_neg (by omega),if_neg (by omega)]
  rw[hk]at pa pb pc;have ea:wT L (-1) n.a=a:=by rcases pa with⟨_,_,q⟩|⟨q,_,_⟩;exact q;exact absurd q (by decide)
  have eb:wT L (-1) n.b=b:=by rcases pb with⟨_,_,q⟩|⟨q,_,_⟩;exact q;exact absurd q (by decide)
  unfold zbC zbB zcG;rw[ea,eb];rw[if_neg (show ¬(zah n.op=0) by omega),if_neg (show ¬(n.op=5) by omega),if_neg (show ¬(n.op=6∨n.op=7∨n.op=8) by omega),if_neg (show ¬(n.op=9) by omega),if_neg (show ¬(n.op=14) by omega),if_neg (show ¬(n.op=30) by omega),if_neg (show ¬(zah n.op=1) by omega),if_neg (show ¬(n.op=1∨n.op=2∨(5≤n.op∧n.op≤13)) by omega),if_neg (show ¬(n.op=3) by omega),if_neg (show ¬(n.op=4) by omega),if_neg (show ¬(n.op=14) by omega),if_neg (show ¬(25≤n.op∧n.op≤29) by omega),if_neg (show ¬(n.op=30) by omega),if_neg (show ¬(n.op=31) by omega),if_neg (show ¬(n.op=32∨n.op=33) by omega),if_neg (show ¬n.op≤2 by omega),if_neg (show ¬n.op=3 by omega),if_neg (show ¬n.op=4 by omega),if_neg (show ¬n.op=5 by omega),if_neg (show ¬n.op≤8 by omega),if_neg (show ¬n.op=9 by omega),if_neg (show ¬n.op≤13 by omega),if_neg (show ¬n.op=14 by omega),if_neg (show ¬n.op≤16 by omega),if_pos (show n.op≤24 by omega)]
  ac_rfl
 by_cases g25:25≤n.op∧n.op≤29
 ·have hk:zah n.op=2:=by unfold zah;rw[if_neg (by omega),if_neg (by omega),if_neg (by omega)]
  rw[hk]at pa pb pc;have ea:wT L (-1) n.a=a:=by rcases pa with⟨_,_,q⟩|⟨q,_,_⟩;exact q;exact absurd q (by decide)
  have eb:wT L (-1) n.b=b:=by rcases pb with⟨_,_,q⟩|⟨q,_,_⟩;exact q;exact absurd q (by decide)
  unfold zbC zbB zcG;rw[ea,eb];rw[if_neg (show ¬(zah n.op=0) by omega),if_neg (show ¬(n.op=5) by omega),if_neg (show ¬(n.op=6∨n.op=7∨n.op=8) by omega),if_neg (show ¬(n.op=9) by omega),if_neg (show ¬(n.op=14) by omega),if_neg (show ¬(n.op=30) by omega),if_neg (show ¬(zah n.op=1) by omega),if_neg (show ¬(n.op=1∨n.op=2∨(5≤n.op∧n.op≤13)) by omega),if_neg (show ¬(n.op=3) by omega),if_neg (show ¬(n.op=4) by omega),if_neg (show ¬(n.op=14) by omega),if_pos (show 25≤n.op∧n.op≤29 by omega),if_neg (show ¬n.op≤2 by omega),if_neg (show ¬n.op=3 by omega),if_neg (show ¬n.op=4 by omega),if_neg (show ¬n.op=5 by omega),if_neg (show ¬n.op≤8 by omega),if_neg (show ¬n.op=9 by omega),if_neg (show ¬n.op≤13 by omega),if_neg (show ¬n.op=14 by omega),if_neg (show ¬n.op≤16 by omega),if_neg (show ¬n.op≤24 by omega),if_pos (show n.op≤29 by omega)]
  ac_rfl
 by_cases g30:n.op=30
 ·have hk:zah n.op=2:=by unfold zah;rw[if_neg (by omega),if_neg (by omega),if_neg (by omega)]
  rw[hk]at pa pb pc;have ea:wT L (-1) n.a=a:=by rcases pa with⟨_,_,q⟩|⟨q,_,_⟩;exact q;exact absurd q (by decide)
  have eb:wT L (-1) n.b=b:=by rcases pb with⟨_,_,q⟩|⟨q,_,_⟩;exact q;exact absurd q (by decide)
  unfold zbC zbB zcG;rw[ea,eb];rw[if_neg (show ¬(zah n.op=0) by omega),if_neg (show ¬(n.op=5) by omega),if_neg (show ¬(n.op=6∨n.op=7∨n.op=8) by omega),if_neg (show ¬(n.op=9) by omega),if_neg (show ¬(n.op=14) by omega),if_pos (show n.op=30 by omega),if_neg (show ¬(n.op=1∨n.op=2∨(5≤n.op∧n.op≤13)) by omega),if_neg (show ¬(n.op=3) by omega),if_neg (show ¬(n.op=4) by omega),if_neg (show ¬(n.op=14) by omega),if_neg (show ¬(25≤n.op∧n.op≤29) by omega),if_pos (show n.op=30 by omega),if_neg (show ¬n.op≤2 by omega),if_neg (show ¬n.op=3 by omega),if_neg (show ¬n.op=4 by omega),if_neg (show ¬n.op=5 by omega),if_neg (show ¬n.op≤8 by omega),if_neg (show ¬n.op=9 by omega),if_neg (show ¬n.op≤13 by omega),if_neg (show ¬n.op=14 by omega),if_neg (show ¬n.op≤16 by omega),if_neg (show ¬n.op≤24 by omega),if_neg (show ¬n.op≤29 by omega),if_pos (show n.op=30 by omega)]
  ac_rfl
 by_cases g31:n.op=31
 ·have hk:zah n.op=1:=by unfold zah;rw[if_neg (by omega),if_pos (by omega)]
  rw[hk]at pa pb pc;have ea:wT L (-1) n.a=a:=by rcases pa with⟨_,_,q⟩|⟨q,_,_⟩;exact q;exact absurd q (by decide)
  unfold zbC zbB zcG;rw[ea];rw[if_neg (show ¬(zah n.op=0) by omega),if_neg (show ¬(n.op=5) by omega),if_neg (show ¬(n.op=6∨n.op=7∨n.op=8) by omega),if_neg (show ¬(n.op=9) by omega),if_neg (show ¬(n.op=14) by omega),if_neg (show ¬(n.op=30) by omega),if_pos (show zah n.op=1 by omega),if_neg (show ¬(n.op=1∨n.op=2∨(5≤n.op∧n.op≤13)) by omega),if_neg (show ¬(n.op=3) by omega),if_neg (show ¬(n.op=4) by omega),if_neg (show ¬(n.op=14) by omega),if_neg (show ¬(25≤n.op∧n.op≤29) by omega),if_neg (show ¬(n.op=30) by omega),if_pos (show n.op=31 by omega),if_neg (show ¬n.op≤2 by omega),if_neg (show ¬n.op=3 by omega),if_neg (show ¬n.op=4 by omega),if_neg (show ¬n.op=5 by omega),if_neg (show ¬n.op≤8 by omega),if_neg (show ¬n.op=9 by omega),if_neg (show ¬n.op≤13 by omega),if_neg (show ¬n.op=14 by omega),if_neg (show ¬n.op≤16 by omega),if_neg (show ¬n.op≤24 by omega),if_neg (show ¬n.op≤29 by omega),if_neg (show ¬n.op=30 by omega),if_pos (show n.op=31 by omega)]
  ac_rfl
 have hk:zah n.op=1:=by unfold zah;rw[if_neg (by omega),if_pos (by omega)]
 rw[hk]at pa pb pc;have ea:wT L (-1) n.a=a:=by rcases pa with⟨_,_,q⟩|⟨q,_,_⟩;exact q;exact absurd q (by decide)
 unfold zbC zbB zcG;rw[ea];rw[if_neg (show ¬(zah n.op=0) by omega),if_neg (show ¬(n.op=5) by omega),if_neg (show ¬(n.op=6∨n.op=7∨n.op=8) by omega),if_neg (show ¬(n.op=9) by omega),if_neg (show ¬(n.op=14) by omega),if_neg (show ¬(n.op=30) by omega),if_pos (show zah n.op=1 by omega),if_neg (show ¬(n.op=1∨n.op=2∨(5≤n.op∧n.op≤13)) by omega),if_neg (show ¬(n.op=3) by omega),if_neg (show ¬(n.op=4) by omega),if_neg (show ¬(n.op=14) by omega),if_neg (show ¬(25≤n.op∧n.op≤29) by omega),if_neg (show ¬(n.op=30) by omega),if_neg (show ¬(n.op=31) by omega),if_pos (show n.op=32∨n.op=33 by omega),if_neg (show ¬n.op≤2 by omega),if_neg (show ¬n.op=3 by omega),if_neg (show ¬n.op=4 by omega),if_neg (show ¬n.op=5 by omega),if_neg (show ¬n.op≤8 by omega),if_neg (show ¬n.op=9 by omega),if_neg (show ¬n.op≤13 by omega),if_neg (show ¬n.op=14 by omega),if_neg (show ¬n.op≤16 by omega),if_neg (show ¬n.op≤24 by omega),if_neg (show ¬n.op≤29 by omega),if_neg (show ¬n.op=30 by omega),if_neg (show ¬n.op=31 by omega)]
theorem shape_iff{n:Nd}(ho:1≤n.op∧n.op≤33)(h4:n.op≠4)(hw:0≤n.w∧n.w≤64)(hnum:0≤n.num∧n.num<18446744073709551616)(hnm:zi6 n=false){L:List Nd}{K:List (ByteArray×Int)}{a b c:Int}(hp:Parted L n a b c):zc9 L K n=0↔zhA n a b c=true:=by
 rw[zgD];have hc:=checks ho h4 hw hnum hp;have pa:=hp.a;have pb:=hp.b;have pc:=hp.c;have hsp:zex (zah n.op) n=decide (n.num≠0∧n.op≠3∧n.op≠31):=by
  unfold zex;rw[hnm,Bool.false_and,Bool.or_false];have e1:(decide (zah n.op<1)&&decide (n.a≠0))=false:=by
   rcases pa with⟨q,_,_⟩|⟨_,q,_⟩
   ·rw[decide_eq_false (by omega)];rfl
   ·rw[q];simp
  have e2:(decide (zah n.op<2)&&decide (n.b≠0))=false:=by
   rcases pb with⟨q,_,_⟩|⟨_,q,_⟩
   ·rw[decide_eq_false (by omega)];rfl
   ·rw[q];simp
  have e3:(decide (zah n.op<3)&&decide (n.c≠0))=false:=by
   rcases pc with⟨q,_,_⟩|⟨_,q,_⟩
   ·rw[decide_eq_false (by omega)];rfl
   ·rw[q];simp
  rw[e1,e2,e3];simp only[Bool.false_or];by_cases q1:n.num≠0<;>by_cases q2:n.op≠3<;>by_cases q3:n.op≠31<;>simp[q1,q2,q3]
 have hpt:zbQ L n=false:=by
  unfold zbQ;have e1:(decide (zah n.op≥1)&&!isT L n.a)=false:=by
   rcases pa with⟨_,q,_⟩|⟨q,_,_⟩
   ·rw[q];simp
   ·rw[decide_eq_false (by omega)];rfl
  have e2:(decide (zah n.op≥2)&&!isT L n.b)=false:=by
   rcases pb with⟨_,q,_⟩|⟨q,_,_⟩
   ·rw[q];simp
   ·rw[decide_eq_false (by omega)];rfl
  have e3:(decide (zah n.op≥3)&&!isT L n.c)=false:=by
   rcases pc with⟨_,q,_⟩|⟨q,_,_⟩
   ·rw[q];simp
   ·rw[decide_eq_false (by omega)];rfl
  rw[e1,e2,e3];rfl
 unfold zhA;by_cases hq:n.num≠0∧n.op≠3∧n.op≠31
 ·rw[if_pos hq];rw[decide_eq_true hq]at hsp;exact⟨fun h=>absurd hsp h.sp,fun h=>absurd h (by decide)⟩
 ·rw[if_neg hq,←hc];rw[decide_eq_false hq]at hsp;constructor
  ·intro h;have h1:=h.so;have h2:=h.wi;rw[Bool.not_eq_false]at h1 h2;rw[h1,h2];rfl
  ·intro h;rw[Bool.and_eq_true]at h;exact⟨by omega,by omega,by rw[hpt];decide,by rw[hsp];decide,by rw[h.1];decide,by rw[h.2];decide,fun q=>h4 q.1⟩
def lv(i:Nat):List Value:=[.int .i64 (if 0<i then 1 else 0),.int .i64 (if 1<i then 2 else 0),.int .i64 (if 2<i then 3 else 0)]
theorem vok_of{n:Nd}(ho:1≤n.op∧n.op≤33)(h4:n.op≠4)(hw:0≤n.w∧n.w≤64)(hnum:0≤n.num∧n.num<18446744073709551616){wa wb:Nat}{c:Int}(hwa:wa≤64)(hwb:wb≤64){a b:W64}
  (ha:wa=0→a.toNat≤1) (hb:wb=0→b.toNat≤1) (hs:zhA n (wa:Int) (wb:Int) c=true):Vok n wa wb a b:=by
 have hB:zcG n (wa:Int) (wb:Int) c=true:=by
  unfold zhA at hs;split at hs
  ·cases hs
  ·exact hs
 unfold zcG at hB;refine⟨⟨ho.1,ho.2,h4⟩,hnum,fun q1 q2=>?_,fun q1 q2=>?_,fun q1 q2=>?_,fun q1 q2=>?_,fun q1=>?_,fun q1=>?_,fun q1=>?_⟩
 ·rw[if_neg (by omega),if_neg (by omega),if_neg (by omega),if_neg (by omega),if_pos q2]at hB;simp only[Bool.and_eq_true,decide_eq_true_eq]at hB;exact⟨ha (by omega),hb (by omega)⟩
 ·rw[if_neg (by omega),if_neg (by omega),if_neg (by omega),if_neg (by omega),if_neg (by omega),if_neg (by omega),if_pos q2]at hB;simp only[Bool.and_eq_true,decide_eq_true_eq]at hB;omega
 ·rw[if_neg (by omega),if_neg (by omega),if_neg (by omega),if_neg (by omega),if_neg (by omega),if_neg (by omega),if_neg (by omega),if_neg (by omega)]at hB;by_cases g1:n.op≤16
  ·rw[if_pos g1]at hB;simp only[Bool.and_eq_true,decide_eq_true_eq]at hB;omega
  rw[if_neg g1]at hB;by_cases g2:n.op≤24
  ·rw[if_pos g2]at hB;simp only[Bool.and_eq_true,decide_eq_true_eq]at hB;omega
  rw[if_neg g2,if_pos q2]at hB;simp only[Bool.and_eq_true,decide_eq_true_eq]at hB;omega
 ·rw[if_neg (by omega),if_neg (by omega),if_neg (by omega),if_neg (by omega),if_neg (by omega),if_neg (by omega),if_neg (by omega),if_neg (by omega),if_neg (by omega),if_neg (by omega),if_pos q2]at hB;simp only[Bool.and_eq_true,decide_eq_true_eq]at hB;exact hB.2.2.2
 ·rw[if_neg (by omega),if_neg (by omega),if_neg (by omega),if_neg (by omega),if_neg (by omega),if_neg (by omega),if_neg (by omega),if_neg (by omega),if_neg (by omega),if_neg (by omega),if_neg (by omega),if_pos q1]at hB;simp only[Bool.and_eq_true,decide_eq_true_eq]at hB;omega
 ·rw[if_neg (by omega),if_neg (by omega),if_neg (by omega),if_neg (by omega),if_neg (by omega),if_neg (by omega),if_neg (by omega),if_neg (by omega),if_neg (by omega),if_neg (by omega),if_neg (by omega),if_neg (by omega),if_pos q1]at hB;simp only[Bool.and_eq_true,decide_eq_true_eq]at hB;omega
 ·rw[if_neg (by omega),if_neg (by omega),if_neg (by omega),if_neg (by omega),if_neg (by omega),if_neg (by omega),if_neg (by omega),if_neg (by omega),if_neg (by omega),if_neg (by omega),if_neg (by omega),if_neg (by omega),if_neg (by omega)]at hB;simp only[Bool.and_eq_true,decide_eq_true_eq]at hB;omega
end Go.AM.N14
namespace Go.AM
open List Go
def mapU(A:List (Int×Int)):List (Value×Value):=A.map fun x=>(.int .i64 x.1,.int .u64 x.2)
def MapU(H:Hp)(m:Nat)(F:Int→Int):Prop:=∃A,H.get m=some (.map (mapU A))∧∀t,F t=((lkI t 0 A).map Prod.snd).getD 0
theorem findU{P:Program}{kt:TypeId}(hk:zhY P kt)(t:Int):∀(A:List (Int×Int)) (i:Nat),zeX P kt (.int .i64 t) (mapU A) i=some ((lkI t i A).map fun q=>(q.1,.int .u64 q.2))
 |[],i=>rfl
 |(u,w)::r,i=>by
  show (match eqT P 10000 kt (.int .i64 t) (.int .i64 u) with|some true=>some (some (i,Value.int .u64 w))|some false=>zeX P kt (.int .i64 t) (mapU r) (i+1)|none=>none)=_;rw[hk.eq];unfold lkI;by_cases h:t=u
  ·rw[if_pos h,show (t==u)=true by simpa using h];rfl
  ·rw[if_neg h,show (t==u)=false by simpa using h];exact findU hk t r (i+1)
theorem MapU.look{P:Program}{kt:TypeId}(hk:zhY P kt){H:Hp}{m:Nat}{F:Int→Int}(h:MapU H m F)(t:Int){α:Type}(k:Value→Option α):zbj P kt (.int .u64 0) (.map (some m)) (.int .i64 t) false H k=k (.int .u64 (F t)):=by obtain⟨A,h1,h2⟩:=h;unfold zbj lookV;rw[hk.sh,h2 t];simp only[if_true,zn4,h1,findU hk];cases lkI t 0 A<;>rfl
theorem MapU.upd{P:Program}{kt:TypeId}(hk:zhY P kt){H:Hp}{m:Nat}{F:Int→Int}(h:MapU H m F)(key v:Int) :
  ∃H',(∀(α:Type) (k:Hp→Option α),pUpd P kt (.map (some m)) (.int .i64 key) (.int .u64 v) H k=k H')∧MapU H' m (fun t=>if t=key then v else F t)∧(∀j,j≠m→H'.get j=H.get j)∧H'.next=H.next:=by
 obtain⟨A,h1,h2⟩:=h;cases hq:lkI key 0 A with
 |none=>
  refine⟨H.set m (some (.map (mapU (A++[(key,v)])))),fun α k=>?_,⟨A++[(key,v)],by rw[get_set,if_pos rfl],fun t=>?_⟩,fun j hj=>by rw[get_set,if_neg hj],rfl⟩
  ·have:updV P kt (.map (some m)) (.int .i64 key) (.int .u64 v) H=some (H.set m (some (.map (mapU (A++[(key,v)]))))):=by unfold updV;rw[hk.sh];simp only[if_true,h1,findU hk,hq,Option.map_none];rw[show mapU (A++[(key,v)])=mapU A++[(Value.int .i64 key,Value.int .u64 v)] by simp[mapU]]
   unfold pUpd;rw[this]
  ·rw[zn9 t key v A 0 hq];dsimp only;split
   ·rfl
   ·rw[h2 t]
 |some q=>
  obtain⟨j,w⟩:=q;obtain⟨_,hg⟩:=zlD key A 0 j w hq;rw[Nat.sub_zero]at hg;refine⟨H.set m (some (.map (mapU (A.set j (key,v))))),fun α k=>?_,⟨A.set j (key,v),by rw[get_set,if_pos rfl],fun t=>?_⟩,fun j hj=>by rw[get_set,if_neg hj],rfl⟩
  ·have hk1:(mapU A)[j]?=some (.int .i64 key,.int .u64 w):=by unfold mapU;rw[List.getElem?_map,hg];rfl
   have hsb:Instr.sameBits 10000 (.int .i64 key) (.int .i64 key)=true:=by simp[Instr.sameBits]
   have:updV P kt (.map (some m)) (.int .i64 key) (.int .u64 v) H=some (H.set m (some (.map (mapU (A.set j (key,v)))))):=by unfold updV;rw[hk.sh];simp only[if_true,h1,findU hk,hq,Option.map_some,hk1,hsb];rw[show mapU (A.set j (key,v))=zhZ (mapU A) j (.int .i64 key) (.int .u64 v) by unfold zhZ mapU;rw[map_set]]
   unfold pUpd;rw[this]
  ·have:=zn8 t key v A 0 j w hq;rw[Nat.sub_zero]at this;rw[this];dsimp only;split
   ·rfl
   ·rw[h2 t]
theorem MapU.new(H:Hp):MapU (H.new (.map [])) H.next (fun _=>0):=⟨[],by rw[get_new,if_pos rfl];rfl,fun t=>rfl⟩
theorem MapU.keep{H H':Hp}{m:Nat}{F:Int→Int}(h:MapU H m F)(hg:H'.get m=H.get m):MapU H' m F:=by obtain⟨A,h1,h2⟩:=h;exact⟨A,by rw[hg];exact h1,h2⟩
end Go.AM
namespace Go.AM.N14
open Go Go.AM
end Go.AM.N14
namespace Go.AM.N14
open List Go Go.AM
theorem ikV:zhY PP Aa:=⟨fun a b=>by kernel_rfl,fun a=>by kernel_rfl⟩
structure VS(B H:Hp)(m1 m2:Nat)(V W:Int→Int):Prop where
 next:B.next≤H.next
 old:∀j,j<B.next→H.get j=B.get j
 l1:B.next≤m1
 l2:B.next≤m2
 ne:m1≠m2
 n1:m1<H.next
 f1:MapU H m1 V
 f2:MapF H m2 W
theorem VS.up1{B H:Hp}{m1 m2:Nat}{V W:Int→Int}(h:VS B H m1 m2 V W)(key v:Int):∃H',(∀(α:Type) (k:Hp→Option α),pUpd PP Aa (.map (some m1)) (.int .i64 key) (.int .u64 v) H k=k H')∧VS B H' m1 m2 (fun t=>if t=key then v else V t) W:=by obtain⟨H',e1,e2,e3,e4⟩:=h.f1.upd ikV key v;have a:=h.l1;exact⟨H',e1,⟨by rw[e4];exact h.next,fun j hj=>by rw[e3 j (by omega),h.old j hj],h.l1,h.l2,h.ne,by rw[e4];exact h.n1,e2,h.f2.keep (e3 m2 (Ne.symm h.ne))⟩⟩
theorem VS.up2{B H:Hp}{m1 m2:Nat}{V W:Int→Int}(h:VS B H m1 m2 V W)(key v:Int):∃H',(∀(α:Type) (k:Hp→Option α),pUpd PP Aa (.map (some m2)) (.int .i64 key) (.int .i64 v) H k=k H')∧VS B H' m1 m2 V (fun t=>if t=key then v else W t):=by obtain⟨H',e1,e2,e3,e4⟩:=h.f2.upd ikV key v;have a:=h.l2;exact⟨H',e1,⟨by rw[e4];exact h.next,fun j hj=>by rw[e3 j (by omega),h.old j hj],h.l1,h.l2,h.ne,by rw[e4];exact h.n1,h.f1.keep (e3 m1 h.ne),e2⟩⟩
theorem step_val{B:Hp}{p f g:Nat}{lim:Int}{L:List Nd}{K:List (ByteArray×Int)}{sl:Value}(hst:StF B p lim L K sl f g)(hL:(L.length:Int)≤4611686018427387904){v:Value}{out:List Nat}(hv:Rdb B 1 v out.length (ints out))(hol:out.length≤2^41)
  {i t:Nat} (hi:out[i]?=some t) (ht:1≤t∧t≤L.length) {n:Nd} (hn:L[t-1]?=some n) {H:Hp} {m1 m2:Nat} {V W:Int→Int} (h:VS B H m1 m2 V W) {wa wb:Nat} {a b c:W64} (hok:Vok n wa wb a b)
  (hwa:(if n.a=(t:Int) then n.w else W n.a)=(wa:Int)) (hwb:(if n.b=(t:Int) then n.w else W n.b)=(wb:Int)) (hva:V n.a=(a.toNat:Int)) (hvb:V n.b=(b.toNat:Int)) (hvc:V n.c=(c.toNat:Int)) (v11:Value) :
  ∃H',zaz RR (.pointer (some ⟨p,0,none⟩)) v v11 (.map (some m1)) (.map (some m2)) (.int .i64 (out.length:Int)) [.int .i64 (i:Int)] H=some (.next,[.int .i64 ((i+1:Nat):Int)],H') ∧
   VS B H' m1 m2 (fun x=>if x=(t:Int) then ((valW n wa wb a b c).toNat:Int) else V x) (fun x=>if x=(t:Int) then n.w else W x):=by
 have hlt:i<out.length:=(List.getElem?_eq_some_iff.1 hi).1;have hvH:Rdb H 1 v out.length (ints out):=hv.keep' (fun j hj=>h.old j (hv.lt hj)) h.next;have hvI:Rdb H 1 v (out.map fun (t:Nat)=>(t:Int)).length (zb6 (out.map fun (t:Nat)=>(t:Int))):=by rw[length_map,←zbS];exact hvH
 obtain⟨y,x1,x2⟩:=hvI.int (i:=i) (t:=(t:Int)) (by rw[List.getElem?_map,hi];rfl);have q:(i:Int)<(out.length:Int):=by omega
 have w1:IntKind.i64.wrap ((i:Int)+1)=((i+1:Nat):Int):=zaA (by omega) (by omega);have hstH:StF H p lim L K sl f g:=hst.keep (fun i hi=>h.old i (hst.foot_lt hi)) h.next;have hT:isT L (t:Int)=true:=za7.2 ⟨by omega,by omega⟩;have hnode:ze6 L (t:Int)=n:=by unfold ze6;rw[hT,if_pos rfl,show ((t:Int)-1).toNat=t-1 by omega,hn];rfl
 have e10:=Go.AM.c10 hstH.st hL (t:Int);rw[hnode,hT,if_pos rfl]at e10;obtain⟨H1,u2,h1⟩:=h.up2 (t:Int) n.w;have hnd:=p_node hok c H1;obtain⟨H2,u1,h2⟩:=h1.up1 (t:Int) ((valW n wa wb a b c).toNat:Int);have d4:decide (n.op≠4)=true:=decide_eq_true hok.op.2.2;have lv:∀(x:Int) (f:Value→Option Outc),zbj PP Aa (.int .u64 0) (.map (some m1)) (.int .i64 x) false H1 f=f (.int .u64 (V x)):=fun x f=>h1.f1.look ikV x f;have lw:∀(x:Int) (f:Value→Option Outc),zbj PP Aa (.int .i64 0) (.map (some m2)) (.int .i64 x) false H1 f=f (.int .i64 (if x=(t:Int) then n.w else W x)):=fun x f=>h1.f2.look ikV x f;have va:Value.int .u64 (V n.a)=wv a:=by rw[hva];rfl
 have vb:Value.int .u64 (V n.b)=wv b:=by rw[hvb];rfl
 have vc:Value.int .u64 (V n.c)=wv c:=by rw[hvc];rfl
 have u1':∀(k:Hp→Option Outc),pUpd PP Aa (.map (some m1)) (.int .i64 (t:Int)) (wv (valW n wa wb a b c)) H1 k=k H2:=fun k=>u1 _ k;refine⟨H2,?_,h2⟩;unfold zaz;simp only[qg0];rw[lT q,x1,x2,zae e10,x01,spl7,zfT,u2,ze7,zbt,zac,d4,zaP,ncell7,zku,lv,va,zkt,lv,vb,zmM,lv,vc,zku,lw,hwa,zkt,lw,hwb,zae hnd,u1',zaM,w1]
theorem wT_nn{L:List Nd}(h:∀m∈L,0≤m.w∧m.w≤64)(t:Int):0≤wT L 0 t:=by
 unfold wT;split
 ·cases q:L[(t-1).toNat]? with
  |none=>exact Int.le_refl _
  |some m=>exact(h m (mem_of_getElem? q)).1
 ·exact Int.le_refl _
theorem wT_at{L:List Nd}{t:Nat}(ht:1≤t∧t≤L.length){n:Nd}(hn:L[t-1]?=some n)(d:Int):wT L d (t:Int)=n.w:=by unfold wT;rw[za7.2 ⟨by omega,by omega⟩,if_pos rfl,show ((t:Int)-1).toNat=t-1 by omega,hn];rfl
theorem wT_0(L:List Nd):wT L 0 0=0:=rfl
section
end
end Go.AM.N14
namespace Go.AM.N14
open Go Go.AM
theorem wT_is{L:List Nd}{x:Int}(h:1≤x∧x≤L.length):wT L (-1) x=wT L 0 x:=by unfold wT;rw[za7.2 h,if_pos rfl,if_pos rfl];have:L[(x-1).toNat]?=some (L[(x-1).toNat]'(by omega)):=List.getElem?_eq_getElem (by omega);rw[this];rfl
theorem zoI{L:List Nd}{K:List (ByteArray×Int)}(hg:zb8 L K){n:Nd}(hn:n∈L)(h4:n.op≠4):zhA n (wT L 0 n.a) (wT L 0 n.b) (wT L 0 n.c)=true:=by
 have hr:=hg.rt n hn;have ho:1≤n.op∧n.op≤33:=by have:¬(n.op<1∨n.op>33):=hr.op;omega
 have hw:0≤n.w∧n.w≤64:=by have:¬(n.w<0∨n.w>64):=hr.w;omega
 obtain⟨pa,pa0,pb,pb0,pc,pc0,_,ps⟩:=zlA hr;have hnm:zi6 n=false:=by unfold zi6;rw[ps h4];show (!((⟨#[]⟩:ByteArray).toList==(⟨#[]⟩:ByteArray).toList))=false;rw[beq_self_eq_true];rfl
 have one:∀(k:Int) (x:Int),(zah n.op≥k→1≤x∧x≤L.length)→(zah n.op<k→x=0)→(zah n.op≥k∧isT L x=true∧wT L (-1) x=wT L 0 x)∨(zah n.op<k∧x=0∧wT L 0 x=0):=fun k x h1 h2=>by
  by_cases q:zah n.op≥k
  ·exact .inl ⟨q,za7.2 (h1 q),wT_is (h1 q)⟩
  ·have:=h2 (by omega);exact .inr ⟨by omega,this,by rw[this];rfl⟩
 exact(shape_iff ho h4 hw (hg.num n hn) hnm ⟨one 1 n.a pa pa0,one 2 n.b pb pb0,one 3 n.c pc pc0⟩).1 (zgD.2 hr)
end Go.AM.N14
namespace Go.AM.N14
open List Go Go.AM
def wvs(l:List W64):List Value:=l.map wv
theorem Vec.cap(H:Hp){sz bytes:Nat}{zs:List Value}(hz:zs.length=sz)(h1:zs.all one=true){n:Nat}(hb:n*bytes≤2^47) :
  ∃v H',(∀(α:Type) (k:Value→Hp→Option α),zaZ sz bytes zs (.int .i64 0) (.int .i64 (n:Int)) H k=k v H')∧Vec H' sz v 0 []∧Frm (fun _=>False) H H'∧(∀j,Id v j→H.next≤j):=by
 have ra:∀n,(repl n zs).all one=true:=fun n=>by
  induction n with
  |zero=>rfl
  |succ n ih=>show (zs++repl n zs).all one=true;rw[all_append,h1,ih];rfl
 refine⟨.slice (some ⟨H.next,0,some sz⟩) 0 n,H.new (.cells (repl n zs) true),fun α k=>?_,.inr ⟨H.next,n,repl n zs,rfl,Nat.zero_le _,?_,by simp,by rw[zfD,hz];rfl,by show H.next<H.next+1;omega,ra n⟩,zcW _ _ _,fun j hj=>by cases hj;exact Nat.le_refl _⟩
 ·have e:((2:Int)^47)=((2^47:Nat):Int):=by rfl
  have hb':(n:Int)*(bytes:Int)≤2^47:=by rw[e,←Int.natCast_mul];exact Int.ofNat_le.2 hb
  have:zcn sz bytes zs (.int .i64 0) (.int .i64 (n:Int)) H=some (.slice (some ⟨H.next,0,some sz⟩) 0 n,H.new (.cells (repl n zs) true)):=by unfold zcn;dsimp only;rw[if_pos ⟨by omega,by omega,hb'⟩];rfl
  unfold zaZ;rw[this]
 ·rw[get_new,if_pos rfl];rfl
structure Made(B H:Hp)(v:Value)(n:Nat)(cs:List Value):Prop where
 next:B.next≤H.next
 old:∀j,j<B.next→H.get j=B.get j
 vec:Vec H 1 v n cs
 new:∀j,Id v j→B.next≤j
theorem Made.push{B H:Hp}{v:Value}{n:Nat}{cs:List Value}(h:Made B H v n cs)(x:W64)(hb:(n+1)*8≤2^47) :
  ∃v' H',(∀(α:Type) (k:Value→Hp→Option α),(zam 1 [.int .u64 0] 1 [(0,wv x)] H fun t H1=>zaJ 1 8 v t H1 k)=k v' H')∧Made B H' v' (n+1) (cs++[wv x]):=by
 obtain⟨v',H',e1,e2,e3,e4,_⟩:=h.vec.push (bytes:=8) (zs:=[.int .u64 0]) (x:=wv x) (by decide) (by decide) rfl rfl rfl hb;have hn:=h.next;refine⟨v',H',e1,Nat.le_trans h.next e3.next,fun j hj=>?_,e2,fun j hj=>?_⟩
 ·rw[e3.same j (by omega) (fun q=>by have:=h.new j q;omega),h.old j hj]
 ·rcases e4 j hj with q|q
  ·exact h.new j q
  ·omega
section
variable {B:Hp}{x:Value}{ns:List Nat}(hx:RdO B 1 x ns.length (ints ns))(hl:ns.length≤2^40){vf:Nat→W64}{m1:Nat}{V:Int→Int}(hm:MapU B m1 V)(hml:m1<B.next)(hV:∀t∈ns,V (t:Int)=((vf t).toNat:Int))
include hx hl hm hml hV
theorem zoB:∀(k i:Nat) (H:Hp) (v:Value),i+k=ns.length→Made B H v i (wvs ((ns.take i).map vf)) →
  ∃H' v',zat (zbr RR x (.map (some m1)) (.int .i64 (ns.length:Int))) [v,.int .i64 (i:Int)] H=some (.exit 2,[v',.int .i64 (ns.length:Int)],H')∧Made B H' v' ns.length (wvs (ns.map vf))
 |0,i,H,v,hk,h=>by
  have:i=ns.length:=by omega
  subst this;rw[take_length]at h;refine⟨H,v,?_,h⟩;rw[zak];have:zbr RR x (.map (some m1)) (.int .i64 (ns.length:Int)) [v,.int .i64 (ns.length:Int)] H=some (.exit 2,[v,.int .i64 (ns.length:Int)],H):=by unfold zbr;simp only[qg0,qg1];rw[lF (Int.lt_irrefl _)]
  rw[this];rfl
 |k+1,i,H,v,hk,h=>by
  have hlt:i<ns.length:=by omega
  have hi:ns[i]?=some ns[i]:=List.getElem?_eq_getElem hlt;generalize ns[i]=t at hi;have hxH:RdO H 1 x ns.length (ints ns):=hx.keep' (fun j hj=>h.old j (hx.lt hj)) h.next;have hxI:RdO H 1 x (ns.map fun (t:Nat)=>(t:Int)).length (zb6 (ns.map fun (t:Nat)=>(t:Int))):=by rw[length_map,←zbS];exact hxH
  obtain⟨y,x1,x2⟩:=hxI.int (i:=i) (t:=(t:Int)) (by rw[List.getElem?_map,hi];rfl);have hmH:MapU H m1 V:=hm.keep (h.old m1 hml);have lv:∀(f:Value→Option Outc),zbj PP Aa (.int .u64 0) (.map (some m1)) (.int .i64 (t:Int)) false H f=f (wv (vf t)):=fun f=>by rw[hmH.look ikV,hV t (mem_of_getElem? hi)];rfl
  have q:(i:Int)<(ns.length:Int):=by omega
  have w1:IntKind.i64.wrap ((i:Int)+1)=((i+1:Nat):Int):=zaA (by omega) (by omega);obtain⟨v1,H1,p1,p2⟩:=h.push (vf t) (by omega);have hcs:wvs ((ns.take i).map vf)++[wv (vf t)]=wvs ((ns.take (i+1)).map vf):=by rw[take_add_one,hi];simp[wvs]
  rw[hcs]at p2;obtain⟨H',v',g1,g2⟩:=zoB k (i+1) H1 v1 (by omega) p2;refine⟨H',v',?_,g2⟩;rw[zak];have:zbr RR x (.map (some m1)) (.int .i64 (ns.length:Int)) [v,.int .i64 (i:Int)] H=some (.next,[v1,.int .i64 ((i+1:Nat):Int)],H1):=by unfold zbr;simp only[qg0,qg1];rw[lT q,x1,x2,lv,p1,zaM,w1]
  rw[this];exact g1
end
theorem zka{α:Type}{P:Program}(T:TypeId)(a:Addr)(hT:∃t,P.underlying T=some (.pointer t))(k:Value→Option α):pBin P .eql T (.pointer (some a)) (.pointer none) k=k (.bool false):=by
 obtain⟨t,ht⟩:=hT;have:eqT P Op.maxDepth T (.pointer (some a)) (.pointer none)=some false:=by unfold Op.maxDepth;simp only[eqT,ht]
 simp only[pBin,binV,eqOp,this]
section
end
end Go.AM.N14
namespace Go.AM.N14
open Go Go.AM
structure Wd(x:Fct):Prop where
 w:0≤x.w∧x.w≤64
 l:x.least.toNat≤(msk (wd x.w)).toNat
theorem and_le{n:Nat}(hn:n≤64){x y:W64}(hx:x.toNat≤(msk n).toNat):(x&&&y).toNat≤(msk n).toNat:=(zbu hn).2 fun j hj=>by rw[BitVec.getLsbD_and,(zbu hn).1 hx j hj,Bool.false_and]
theorem or_le{n:Nat}(hn:n≤64){x y:W64}(hx:x.toNat≤(msk n).toNat)(hy:y.toNat≤(msk n).toNat):(x|||y).toNat≤(msk n).toNat:=(zbu hn).2 fun j hj=>by rw[BitVec.getLsbD_or,(zbu hn).1 hx j hj,(zbu hn).1 hy j hj,Bool.false_or]
theorem zero_le(n:Nat):(0#64).toNat≤(msk n).toNat:=Nat.zero_le _
theorem cat_le{n k m:Nat}(hm:m≤64)(hk:n+k≤m){x y:W64}(hx:x.toNat≤(msk n).toNat)(hy:y.toNat≤(msk k).toNat):(x <<< k|||y).toNat≤(msk m).toNat:=(zbu hm).2 fun j hj=>by rw[BitVec.getLsbD_or,BitVec.getLsbD_shiftLeft,(zbu (by omega)).1 hx (j-k) (by omega),(zbu (by omega)).1 hy j (by omega)];simp
theorem msk_up{n m:Nat}(hm:m≤64)(h:n≤m){x:W64}(hx:x.toNat≤(msk n).toNat):x.toNat≤(msk m).toNat:=(zbu hm).2 fun j hj=>(zbu (by omega)).1 hx j (by omega)
section
end
theorem movW_is{op:Int}(hop:25≤op∧op≤29){n k:Nat}(h0:1≤n)(hn:n≤64)(hk:k<n){x:W64}(hx:x.toNat≤(msk n).toNat):zh6 op n x k (movW op n x k):=by obtain⟨v,h1,_⟩:=p_moved hop h0 hn hk hx ⟨0,fun _=>none,fun _=>none⟩;rw[movW_eq h1];exact h1
section
end
section
end
section
end
section
end
theorem sorts_of{n:Nd}{a b c:Int}(hs:zhA n a b c=true):zcG n a b c=true:=by
 unfold zhA at hs;split at hs
 ·cases hs
 ·exact hs
section
end
theorem b2w_le(c:Bool)(n:Nat)(h:1≤n)(hn:n≤64):(b2w c).toNat≤(msk n).toNat:=by
 rw[zlB _ hn];have:2^1≤2^n:=Nat.pow_le_pow_right (by decide) h;cases c
 ·exact Nat.zero_le _
 ·show 1≤_;omega
theorem bin_le{op:Int}(hop:17≤op∧op≤29){n:Nat}(h0:1≤n)(hn:n≤64)(x y:W64):(binW op n x y).toNat≤(msk n).toNat:=by
 have hX:=zeg hn x;have hY:=zeg hn y;unfold binW;dsimp only;split
 ·exact and_le hn hX
 split
 ·exact or_le hn hX hY
 split
 ·exact(zbu hn).2 fun j hj=>by rw[BitVec.getLsbD_xor,(zbu hn).1 hX j hj,(zbu hn).1 hY j hj];rfl
 split
 ·exact zeg hn _
 split
 ·exact zeg hn _
 split
 ·exact zeg hn _
 split
 ·split
  ·exact Nat.le_refl _
  ·rw[BitVec.toNat_udiv];exact Nat.le_trans (Nat.div_le_self _ _) hX
 split
 ·split
  ·exact hX
  ·rw[BitVec.toNat_umod];exact Nat.le_trans (Nat.mod_le _ _) hX
 ·have hm:=movW_is (op:=op) (by omega) h0 hn (Nat.mod_lt (y&&&msk n).toNat (show n>0 by omega)) hX;exact(zbu hn).2 fun j hj=>by rw[hm j,decide_eq_false (by omega),Bool.false_and]
theorem val_le{n:Nd}(ho:1≤n.op∧n.op≤33)(h4:n.op≠4)(hw:0≤n.w∧n.w≤64)(hnum:0≤n.num∧n.num<18446744073709551616){x y z:Fct}(hx:Wd x)(hy:Wd y)(hz:Wd z)(hs:zhA n x.w y.w z.w=true) :
  (valW n x.w.toNat y.w.toNat x.least y.least z.least).toNat≤(msk (wd n.w)).toNat:=by
 have hB:=sorts_of hs;have hn:=wd_le hw.2;have hp:=wd_pos n.w;have m1:(msk 1).toNat=1:=rfl;have one:∀c:Bool,(b2w c).toNat≤(msk (wd n.w)).toNat:=fun c=>b2w_le c _ hp hn;unfold zcG at hB;unfold valW;by_cases h1:n.op=1
 ·rw[if_pos h1];exact one true
 rw[if_neg h1];by_cases h2:n.op=2
 ·rw[if_pos h2];exact zero_le _
 rw[if_neg h2];by_cases h3:n.op=3
 ·rw[if_pos h3];rw[if_neg (by omega),if_pos h3]at hB;simp only[Bool.and_eq_true,decide_eq_true_eq]at hB;rw[BitVec.toNat_ofInt];have:=hB.2;omega
 rw[if_neg h3];by_cases h5:n.op=5
 ·rw[if_pos h5];rw[if_neg (by omega),if_neg (by omega),if_neg (by omega),if_pos h5]at hB;simp only[Bool.and_eq_true,decide_eq_true_eq]at hB;have hl:=hx.l;rw[hB.2]at hl;rcases tr01 (a:=x.least) hl with e|e<;>rw[e]
  ·exact one true
  ·exact zero_le _
 rw[if_neg h5];by_cases h8:n.op≤8
 ·rw[if_neg (by omega),if_neg (by omega),if_neg (by omega),if_neg (by omega),if_pos h8]at hB;simp only[Bool.and_eq_true,decide_eq_true_eq]at hB;have lx:=hx.l;have ly:=hy.l;rw[hB.2.1,←hB.1]at lx;rw[hB.2.2,←hB.1]at ly;by_cases h6:n.op=6
  ·rw[if_pos h6];exact and_le hn lx
  rw[if_neg h6];by_cases h7:n.op=7
  ·rw[if_pos h7];exact or_le hn lx ly
  rw[if_neg h7,if_pos (by omega)];exact(zbu hn).2 fun j hj=>by rw[BitVec.getLsbD_xor,(zbu hn).1 lx j hj,(zbu hn).1 ly j hj];rfl
 rw[if_neg (by omega),if_neg (by omega),if_neg (by omega)];rw[if_neg (by omega),if_neg (by omega),if_neg (by omega),if_neg (by omega),if_neg (by omega)]at hB;by_cases h9:n.op=9
 ·rw[if_pos h9];exact one _
 rw[if_neg h9];rw[if_neg h9]at hB;by_cases h13:n.op≤13
 ·rw[if_pos h13];exact one _
 rw[if_neg h13];rw[if_neg h13]at hB;by_cases h14:n.op=14
 ·rw[if_pos h14];rw[if_pos h14]at hB;simp only[Bool.and_eq_true,decide_eq_true_eq]at hB;split
  ·rw[hB.2.2];exact hy.l
  ·rw[hB.2.2,hB.2.1];exact hz.l
 rw[if_neg h14];rw[if_neg h14]at hB;have hxw:=hx.w;by_cases h16:n.op≤16
 ·rw[if_pos h16];rw[if_pos h16]at hB;simp only[Bool.and_eq_true,decide_eq_true_eq]at hB;have ew:x.w.toNat=wd n.w:=by unfold wd;omega
  rw[ew];unfold unW;split<;>exact zeg hn _
 rw[if_neg h16];rw[if_neg h16]at hB;by_cases h29:n.op≤29
 ·rw[if_pos h29];have ew:x.w.toNat=wd n.w∧1≤x.w.toNat:=by
   by_cases h24:n.op≤24
   ·rw[if_pos h24]at hB;simp only[Bool.and_eq_true,decide_eq_true_eq]at hB;unfold wd;omega
   ·rw[if_neg h24,if_pos h29]at hB;simp only[Bool.and_eq_true,decide_eq_true_eq]at hB;unfold wd;omega
  rw[ew.1];exact bin_le ⟨by omega,h29⟩ hp hn _ _
 rw[if_neg h29];rw[if_neg (by omega),if_neg (by omega)]at hB;by_cases h30:n.op=30
 ·rw[if_pos h30];rw[if_pos h30]at hB;simp only[Bool.and_eq_true,decide_eq_true_eq]at hB;have hyw:=hy.w;unfold catW;exact cat_le hn (n:=x.w.toNat) (k:=y.w.toNat) (by unfold wd;omega) (zeg (by omega) _) (zeg (by omega) _)
 rw[if_neg h30];rw[if_neg h30]at hB;by_cases h31:n.op=31
 ·rw[if_pos h31];rw[if_pos h31]at hB;simp only[Bool.and_eq_true,decide_eq_true_eq]at hB;have ew:n.w.toNat=wd n.w:=by unfold wd;omega
  unfold sliceW;rw[ew];exact zeg hn _
 rw[if_neg h31];rw[if_neg h31]at hB;simp only[Bool.and_eq_true,decide_eq_true_eq]at hB;have ew:n.w.toNat=wd n.w:=by unfold wd;omega
 unfold extW;split
 ·exact msk_up hn (n:=x.w.toNat) (by unfold wd;omega) (zeg (by omega) _)
 ·rw[ew];exact zeg hn _
end Go.AM.N14
