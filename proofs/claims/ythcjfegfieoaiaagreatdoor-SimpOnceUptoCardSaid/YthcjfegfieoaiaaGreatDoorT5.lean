/- Part of the proof of SimpOnceUptoCardSaid: see the last file.  -/
import Derived.KernelRfl
import Derived.Test.YthcjfegfieoaiaaGreatDoorCards
import Derived.Test.YthcjfegfieoaiaaGreatDoorTie
import Derived.WalkKit
import Derived.ProofKit
import Derived.OpenShut
import Derived.Deep.DeepHandedRow
import Derived.Deep.DeepWitnessRowRef
import Derived.Lib.LaidTab
import Derived.Lib.LaidU8
import Derived.Lib.TrailingZeros
import Derived.Test.YthcjfegfieoaiaaGreatDoorT0
import Derived.Test.YthcjfegfieoaiaaGreatDoorT3
import Derived.Test.YthcjfegfieoaiaaGreatDoorT4
set_option linter.unusedSimpArgs false
set_option linter.unusedVariables false
set_option linter.unusedSectionVars false
set_option linter.constructorNameAsVariable false
set_option maxRecDepth 100000
namespace Go.AM.N14
open List Go Go.AM
abbrev ptr(m:Nat):Value:=.pointer (some ⟨m,0,none⟩)
def Gv(E:Env)(K:List (ByteArray×Int))(L:List Nd)(x:Option (Value×Hp))(t:Tr)(c:Nat):Prop:=∃H' L' v,x=some (.int .i64 v,H')∧Nx E H' L L' K c∧Tm L' v t
def MkIH(K:List (ByteArray×Int))(k:Nat):Prop:=∀(E:Env) (H:Hp) (L:List Nd) (n:Nd) (r:Tr×Nat),MS E H L K→n∈L→simF k (trP L n)=some r→L.length+r.2≤2^40→Gv E K L (RR Bz [ptr E.m,n.val] H) r.1 r.2
def Env.re(E:Env)(H:Hp)(sl:Value):Env:={ E with B:=H,F0:=fun j=>Foot E.p E.f E.g sl j∨j=E.d }
theorem MS.re{E:Env}{H:Hp}{L:List Nd}{K:List (ByteArray×Int)}(S:MS E H L K){sl:Value}(st:StF H E.p 0 L K sl E.f E.g)(ft:∀j,Foot E.p E.f E.g sl j→(E.F0 j∨E.B.next≤j)∧j≠E.m∧j≠E.d):MS (E.re H sl) H L K:=
 ⟨Nat.le_refl _,fun _ _ _=>rfl,S.obj,S.ml,S.dl,S.md,.inl (.inr rfl),⟨sl,st,fun j hj=>⟨.inl (.inl hj),(ft j hj).2⟩⟩,S.done,S.good,S.tab,fun q=>by
  have hG:=S.ok.1.lt;rcases q with q|q
  ·exact(ft _ q).1.elim S.ok.2 fun z=>by omega
  ·have hf:=S.fd;rw[←q]at hf
   exact hf.elim S.ok.2 fun z=>by omega⟩
theorem MS.un{E:Env}{H H':Hp}{L L':List Nd}{K K':List (ByteArray×Int)}(S:MS E H L K){sl:Value}(ft:∀j,Foot E.p E.f E.g sl j→(E.F0 j∨E.B.next≤j)∧j≠E.m∧j≠E.d)(S':MS (E.re H sl) H' L' K'):MS E H' L' K':=by
 obtain⟨sl',st',ft'⟩:=S'.st;have n1:=S.next;have n2:H.next≤H'.next:=S'.next;refine⟨by omega,fun j hj hf=>?_,S'.obj,S'.ml,S'.dl,S.md,S.fd,⟨sl',st',fun j hj=>⟨?_,(ft' j hj).2⟩⟩,S'.done,S'.good,S.ok⟩
 ·have e1:H'.get j=H.get j:=S'.old j (show j<H.next by omega) (fun q=>?_)
  ·rw[e1,S.old j hj hf]
  rcases q with q|q
  ·exact(ft j q).1.elim hf fun z=>by omega
  ·subst q;exact S.fd.elim hf fun z=>by omega
 ·rcases (ft' j hj).1 with q|q
  ·rcases q with q|q
   ·exact(ft j q).1
   ·exact absurd q (ft' j hj).2.2
  ·have q:H.next≤j:=q;exact .inr (by omega)
theorem MS.roomy{E:Env}{H:Hp}{L:List Nd}{K:List (ByteArray×Int)}(S:MS E H L K)(hL:L.length≤2^40):zmL L:=⟨good_w S.good,by omega⟩
theorem Tm.mem{L:List Nd}{x:Int}{t:Tr}(h:Tm L x t):ndI L x∈L:=by rw[h.nd];exact mem_of_getElem? (zaS h.bd)
theorem Tm.trP{L:List Nd}(hd:Dag L){x:Int}{t:Tr}(h:Tm L x t):Go.AM.N14.trP L (ndI L x)=t:=by have:=zcm hd h.bd.1 (zaS h.bd);rw[h.nd];exact this.symm.trans h.is
section
variable {E:Env}{K:List (ByteArray×Int)}{H:Hp}{L:List Nd}(S:MS E H L K)
include S
theorem zo3(hL:L.length≤2^40)(b:Bool):Gv E K L (RR An [ptr E.m,.bool b] H) (tTru b) 1:=by have hR:=S.roomy hL;have ht:trP L (zmP b)=tTru b:=rfl;obtain⟨hr,hn⟩:=ziW S.good.dag (n:=zmP b) (K:=K) ⟨Int.le_refl _,Int.natCast_nonneg _⟩ ⟨Int.le_refl _,Int.natCast_nonneg _⟩ ⟨Int.le_refl _,Int.natCast_nonneg _⟩ (by cases b<;>decide) (.tru b);obtain⟨H',L',v,e,nx,tm,_⟩:=zmo S (fun sl st=>d23 st hR b) hr hn (by cases b<;>decide);have hrun:=zhb E0 rfl (ptr E.m) (.bool b) H;unfold zdW at hrun;rw[zbw,zaY,Nat.zero_add,S.l0,zac e,x01]at hrun;rw[ht]at tm;exact⟨H',L',v,hrun,nx,tm⟩
theorem g_c(hL:L.length≤2^40){w:Int}(h1:1≤w)(h64:w≤64)(x:W64):Gv E K L (RR Ai [ptr E.m,.int .i64 w,wv x] H) (tCon w x) 1:=by
 have hR:=S.roomy hL;have ht:trP L (zhv w (x.toNat:Int))=tCon w x:=by
  show (.nd 3 w (zgZ w (x.toNat:Int)) ⟨#[]⟩ .z .z .z:Tr)=_;have hw:((w.toNat:Nat):Int)=w:=by omega
  have:=zgY (n:=w.toNat) (by omega) (by omega) x;rw[hw]at this;rw[this];rfl
 have hws:WS (trP L (zhv w (x.toNat:Int))):=by rw[ht];exact .con w x h1 h64
 obtain⟨hr,hn⟩:=ziW S.good.dag (n:=zhv w (x.toNat:Int)) (K:=K) ⟨Int.le_refl _,Int.natCast_nonneg _⟩ ⟨Int.le_refl _,Int.natCast_nonneg _⟩ ⟨Int.le_refl _,Int.natCast_nonneg _⟩ (by show (3:Int)≠4;decide) hws;have hx:0≤(x.toNat:Int)∧(x.toNat:Int)<18446744073709551616:=by have:=x.isLt;omega
 obtain⟨H',L',v,e,nx,tm,_⟩:=zmo S (fun sl st=>d24 st hR w (x.toNat:Int) hx) hr hn (by show (3:Int)≠4;decide);have e:RR A0 [.pointer (some ⟨E.p,0,none⟩),.int .i64 w,wv x] H=_:=e;have hrun:=zkX E0 rfl (ptr E.m) (.int .i64 w) (wv x) H;unfold zgr at hrun;rw[zbw,zaY,Nat.zero_add,S.l0,zac e,x01]at hrun;rw[ht]at tm;exact⟨H',L',v,hrun,nx,tm⟩
theorem g_of{k:Nat}(ih:MkIH K k){t:Int}{T:Tr}(ht:Tm L t T){r:Tr×Nat}(hs:simF k T=some r)(hb:L.length+r.2≤2^40) :
  ∃H' L' v,RR AL [ptr E.m,.int .i64 t,.int .i64 0] H=some (.tuple #[.int .i64 v,.int .i64 0],H')∧Nx E H' L L' K r.2∧Tm L' v r.1:=by
 obtain⟨H',L',v,e,nx,tm⟩:=ih E H L (ndI L t) r S ht.mem (by rw[ht.trP S.good.dag];exact hs) hb;have hrun:=zjJ E0 rfl (ptr E.m) (.int .i64 t) (.int .i64 0) H;unfold zfQ at hrun;rw[zcz,bF (by decide),zbw,zaY,Nat.zero_add,S.l0,zac (zpd S (by omega) t),x01,spl7,zgl,zac e]at hrun;exact⟨H',L',v,hrun,nx,tm⟩
theorem zlF{k:Nat}(ih:MkIH K k){fn:FuncId}{args:List Value}{n:Nd}(hD:∀sl,StF H E.p 0 L K sl E.f E.g→Does H E.p 0 sl E.f E.g fn args (mkR 0 L K n))(hp:PIn L n)(h4:n.op≠4)(hw:WS (trP L n)){r:Tr×Nat}(hs:simF k (trP L n)=some r)(hb:L.length+(1+r.2)≤2^40) :
  ∃H1 H' L' t v,RR fn (.pointer (some ⟨E.p,0,none⟩)::args) H=some (.tuple #[.int .i64 t,.int .i64 0],H1)∧RR AL [ptr E.m,.int .i64 t,.int .i64 0] H1=some (.tuple #[.int .i64 v,.int .i64 0],H')∧Nx E H' L L' K (1+r.2)∧Tm L' v r.1:=by
 obtain⟨hr,hn⟩:=ziW S.good.dag (K:=K) hp.1 hp.2.1 hp.2.2 h4 hw;obtain⟨H1,L1,t,e,nx,tm,_⟩:=zmo S hD hr hn h4;have hl:=nx.len;obtain⟨H',L',v,e2,nx2,tm2⟩:=g_of nx.ms ih tm hs (by omega);exact⟨H1,H',L',t,v,e,e2,nx.trans nx2,tm2⟩
theorem g_bin{k:Nat}(ih:MkIH K k){op a b:Int}{A B:Tr}(ha:Tm L a A)(hb:Tm L b B)(hw:WS (tBin op A B))(ho:6≤op∧op≤13∨17≤op∧op≤30){r:Tr×Nat}(hs:simF k (tBin op A B)=some r)(hl:L.length+(1+r.2)≤2^40):Gv E K L (RR Ag [ptr E.m,.int .i64 op,.int .i64 a,.int .i64 b] H) r.1 (1+r.2):=by
 have hR:=S.roomy (by omega);have wa:wT L 0 a=A.w:=by rw[zmO S.good.dag ha.isT,ha.is]
 have wb:wT L 0 b=B.w:=by rw[zmO S.good.dag hb.isT,hb.is]
 have hW:=hw.w;have ht:trP L ⟨op,(tBin op A B).w,a,b,0,0,⟨#[]⟩⟩=tBin op A B:=by show (.nd op (tBin op A B).w 0 ⟨#[]⟩ (tr L a.toNat) (tr L b.toNat) .z:Tr)=_;rw[ha.is,hb.is];rfl
 have hbin:binR 0 L K op a b=mkR 0 L K ⟨op,(tBin op A B).w,a,b,0,0,⟨#[]⟩⟩:=by
  unfold binR;by_cases h13:op≤13
  ·rw[if_pos (by omega),zct h13]
  by_cases h30:op=30
  ·subst h30;rw[zmH]at hW ⊢;rw[if_neg (by omega),if_neg (by omega),if_pos rfl,wa,wb,if_neg (by omega)]
  ·rw[if_neg (by omega),if_pos (by omega),wa,zq4 (by omega) h30]
 have la:=ha.lo;have ua:=ha.hi;have lb:=hb.lo;have ub:=hb.hi;obtain⟨H1,H',L',t,v,e1,e2,nx,tm⟩:=zlF S ih (n:=⟨op,(tBin op A B).w,a,b,0,0,⟨#[]⟩⟩) (fun sl st=>by rw[←hbin];exact d21 st hR op a b) ⟨⟨by show 0≤a;omega,ua⟩,⟨by show 0≤b;omega,ub⟩,Int.le_refl _,Int.natCast_nonneg _⟩ (by show op≠4;omega) (by rw[ht];exact hw) (by rw[ht];exact hs) hl;have h1:=ziK E0 rfl (ptr E.m) (.int .i64 op) (.int .i64 a) (.int .i64 b) H;unfold zfd at h1;have h2:=zeX E0 rfl (ptr E.m) (.int .i64 op) (.int .i64 a) (.int .i64 b) H;unfold zc4 at h2;rw[zbw,zaY,Nat.zero_add,S.l0,zac e1,x01,zac e2,x01]at h2;rw[zac h2,x01]at h1;exact⟨H',L',v,h1,nx,tm⟩
theorem g_un{k:Nat}(ih:MkIH K k){op a:Int}{A:Tr}(ha:Tm L a A)(hw:WS (tUn op A))(ho:op=5∨op=15∨op=16){r:Tr×Nat}(hs:simF k (tUn op A)=some r)(hl:L.length+(1+r.2)≤2^40):Gv E K L (RR AW [ptr E.m,.int .i64 op,.int .i64 a] H) r.1 (1+r.2):=by
 have hR:=S.roomy (by omega);have wa:wT L 0 a=A.w:=by rw[zmO S.good.dag ha.isT,ha.is]
 have ht:trP L ⟨op,(tUn op A).w,a,0,0,0,⟨#[]⟩⟩=tUn op A:=by show (.nd op (tUn op A).w 0 ⟨#[]⟩ (tr L a.toNat) .z .z:Tr)=_;rw[ha.is];rfl
 have hbin:unR 0 L K op a=mkR 0 L K ⟨op,(tUn op A).w,a,0,0,0,⟨#[]⟩⟩:=by
  unfold unR;by_cases h5:op=5
  ·subst h5;rw[if_pos rfl,un_w5]
  ·rw[if_neg h5,if_pos (by omega),wa,un_w h5]
 have la:=ha.lo;have ua:=ha.hi;obtain⟨H1,H',L',t,v,e1,e2,nx,tm⟩:=zlF S ih (n:=⟨op,(tUn op A).w,a,0,0,0,⟨#[]⟩⟩) (fun sl st=>by rw[←hbin];exact d25 st hR op a) ⟨⟨by show 0≤a;omega,ua⟩,⟨Int.le_refl _,Int.natCast_nonneg _⟩,Int.le_refl _,Int.natCast_nonneg _⟩ (by show op≠4;omega) (by rw[ht];exact hw) (by rw[ht];exact hs) hl;have h1:=zjH E0 rfl (ptr E.m) (.int .i64 op) (.int .i64 a) H;unfold zfO at h1;have h2:=zjK E0 rfl (ptr E.m) (.int .i64 op) (.int .i64 a) H;unfold zfR at h2;rw[zbw,zaY,Nat.zero_add,S.l0,zac e1,x01,zac e2,x01]at h2;rw[zac h2,x01]at h1;exact⟨H',L',v,h1,nx,tm⟩
theorem g_not{k:Nat}(ih:MkIH K k){a:Int}{A:Tr}(ha:Tm L a A)(hw:WS (tUn 5 A)){r:Tr×Nat}(hs:simF k (tUn 5 A)=some r)(hl:L.length+(1+r.2)≤2^40):Gv E K L (RR Ao [ptr E.m,.int .i64 a] H) r.1 (1+r.2):=by obtain⟨H',L',v,e,nx,tm⟩:=g_un S ih ha hw (.inl rfl) hs hl;have h1:=ziH E0 rfl (ptr E.m) (.int .i64 a) H;unfold zfa at h1;rw[zac e]at h1;exact⟨H',L',v,h1,nx,tm⟩
theorem g_ite{k:Nat}(ih:MkIH K k){c a b:Int}{C A B:Tr}(hc:Tm L c C)(ha:Tm L a A)(hb:Tm L b B)(hw:WS (tIte C A B)){r:Tr×Nat}(hs:simF k (tIte C A B)=some r)(hl:L.length+(1+r.2)≤2^40):Gv E K L (RR AA [ptr E.m,.int .i64 c,.int .i64 a,.int .i64 b] H) r.1 (1+r.2):=by
 have hR:=S.roomy (by omega);have wa:wT L 0 a=A.w:=by rw[zmO S.good.dag ha.isT,ha.is]
 have ht:trP L ⟨14,wT L 0 a,c,a,b,0,⟨#[]⟩⟩=tIte C A B:=by show (.nd 14 (wT L 0 a) 0 ⟨#[]⟩ (tr L c.toNat) (tr L a.toNat) (tr L b.toNat):Tr)=_;rw[hc.is,ha.is,hb.is,wa];rfl
 have lc:=hc.lo;have uc:=hc.hi;have la:=ha.lo;have ua:=ha.hi;have lb:=hb.lo;have ub:=hb.hi;obtain⟨H1,H',L',t,v,e1,e2,nx,tm⟩:=zlF S ih (n:=⟨14,wT L 0 a,c,a,b,0,⟨#[]⟩⟩) (fun sl st=>d26 st hR c a b) ⟨⟨by show 0≤c;omega,uc⟩,⟨by show 0≤a;omega,ua⟩,by show 0≤b;omega,ub⟩ (by show (14:Int)≠4;decide) (by rw[ht];exact hw) (by rw[ht];exact hs) hl;have h1:=ziI E0 rfl (ptr E.m) (.int .i64 c) (.int .i64 a) (.int .i64 b) H;unfold zfb at h1;have h2:=ziM E0 rfl (ptr E.m) (.int .i64 c) (.int .i64 a) (.int .i64 b) H;unfold zff at h2;rw[zbw,zaY,Nat.zero_add,S.l0,zac e1,x01,zac e2,x01]at h2;rw[zac h2,x01]at h1;exact⟨H',L',v,h1,nx,tm⟩
theorem g_slice{k:Nat}(ih:MkIH K k){a i n:Int}{A:Tr}(ha:Tm L a A)(hw:WS (tSl A i n))(hi:0≤i∧i≤64){r:Tr×Nat}(hs:simF k (tSl A i n)=some r)(hl:L.length+(1+r.2)≤2^40):Gv E K L (RR AN [ptr E.m,.int .i64 a,.int .i64 i,.int .i64 n] H) r.1 (1+r.2):=by
 have hR:=S.roomy (by omega);have hu:IntKind.u64.wrap i=i:=Go.AM.zdH (by omega) (by omega);have ht:trP L ⟨31,n,a,0,0,i,⟨#[]⟩⟩=tSl A i n:=by show (.nd 31 n i ⟨#[]⟩ (tr L a.toNat) .z .z:Tr)=_;rw[ha.is];rfl
 have la:=ha.lo;have ua:=ha.hi;obtain⟨H1,H',L',t,v,e1,e2,nx,tm⟩:=zlF S ih (n:=⟨31,n,a,0,0,i,⟨#[]⟩⟩) (fun sl st=>by have:=d27 st hR a i n;rwa [hu]at this) ⟨⟨by show 0≤a;omega,ua⟩,⟨Int.le_refl _,Int.natCast_nonneg _⟩,Int.le_refl _,Int.natCast_nonneg _⟩ (by show (31:Int)≠4;decide) (by rw[ht];exact hw) (by rw[ht];exact hs) hl;have h1:=zg9 E0 rfl (ptr E.m) (.int .i64 a) (.int .i64 i) (.int .i64 n) H;unfold zdU at h1;have h2:=zhd E0 rfl (ptr E.m) (.int .i64 a) (.int .i64 i) (.int .i64 n) H;unfold zdY at h2;rw[zbw,zaY,Nat.zero_add,S.l0,zac e1,x01,zac e2,x01]at h2;rw[zac h2,x01]at h1;exact⟨H',L',v,h1,nx,tm⟩
theorem g_ext{k:Nat}(ih:MkIH K k){op a w:Int}{A:Tr}(ha:Tm L a A)(hw:WS (tExt op A w))(ho:op=32∨op=33){r:Tr×Nat}(hs:simF k (tExt op A w)=some r)(hl:L.length+(1+r.2)≤2^40):Gv E K L (RR AT [ptr E.m,.int .i64 op,.int .i64 a,.int .i64 w] H) r.1 (1+r.2):=by
 have hR:=S.roomy (by omega);have ht:trP L ⟨op,w,a,0,0,0,⟨#[]⟩⟩=tExt op A w:=by show (.nd op w 0 ⟨#[]⟩ (tr L a.toNat) .z .z:Tr)=_;rw[ha.is];rfl
 have hext:extR 0 L K op a w=mkR 0 L K ⟨op,w,a,0,0,0,⟨#[]⟩⟩:=by
  unfold extR;rcases ho with rfl|rfl
  ·rw[if_neg (by decide)]
  ·rw[if_pos (by decide),if_neg (by decide)]
 have la:=ha.lo;have ua:=ha.hi;obtain⟨H1,H',L',t,v,e1,e2,nx,tm⟩:=zlF S ih (n:=⟨op,w,a,0,0,0,⟨#[]⟩⟩) (fun sl st=>by rw[←hext];exact d28 st hR op a w) ⟨⟨by show 0≤a;omega,ua⟩,⟨Int.le_refl _,Int.natCast_nonneg _⟩,Int.le_refl _,Int.natCast_nonneg _⟩ (by show op≠4;omega) (by rw[ht];exact hw) (by rw[ht];exact hs) hl;have h1:=ziJ E0 rfl (ptr E.m) (.int .i64 op) (.int .i64 a) (.int .i64 w) H;unfold zfc at h1;have h2:=ziN E0 rfl (ptr E.m) (.int .i64 op) (.int .i64 a) (.int .i64 w) H;unfold zfg at h2;rw[zbw,zaY,Nat.zero_add,S.l0,zac e1,x01,zac e2,x01]at h2;rw[zac h2,x01]at h1;exact⟨H',L',v,h1,nx,tm⟩
end
end Go.AM.N14
namespace Go.AM.N14
open Go Go.AM
theorem zaK(x:Value)(H:Hp):RR Ac [x] H=some (.tuple #[x,.bool true],H):=zqx E0 rfl x H
theorem zbq(H:Hp):RR Ad [] H=some (.tuple #[.int .i64 0,.bool false],H):=zoz E0 rfl H
theorem zov{α:Type}(n:Nd)(k:Value→Option α):zd9 false 1 0 n.val k=k (.int .i64 n.op):=rfl
theorem zeI{α:Type}(n:Nd)(k:Value→Option α):zd9 false 1 1 n.val k=k (.int .i64 n.w):=rfl
theorem num_k{num:Int}(h:0≤num∧num<18446744073709551616):(.int .u64 num:Value)=wv (BitVec.ofInt 64 num):=by show (.int .u64 num:Value)=.int .u64 ((BitVec.ofInt 64 num).toNat:Int);congr 1;rw[BitVec.toNat_ofInt];have:(num%((2^64:Nat):Int))=num:=Int.emod_eq_of_lt h.1 (by have:=h.2;omega);rw[this];omega
section
variable {E:Env}{K:List (ByteArray×Int)}{H:Hp}{L:List Nd}(S:MS E H L K)(hL:L.length≤2^40)
include S
theorem MS.frm{H':Hp}(k:Frm (fun _=>False) H H'):MS E H' L K:=by obtain⟨sl,st,ft⟩:=S.st;obtain⟨D,d1,d2⟩:=S.done;have n1:=S.next;have n2:=k.next;have n3:=S.ml;have n4:=S.dl;exact⟨by omega,fun j hj hf=>by rw[k.same j (by omega) fun z=>z,S.old j hj hf],by rw[k.same _ S.ml fun z=>z];exact S.obj,by omega,by omega,S.md,S.fd,⟨sl,st.keep (fun j hj=>k.same j (st.foot_lt hj) fun z=>z) k.next,ft⟩,⟨D,d1.keep (k.same _ S.dl fun z=>z),d2⟩,S.good,S.ok⟩
theorem k_of{x:Int}{t:Tr}(h0:0≤x∧x≤L.length)(h:tr L x.toNat=t):(.int .u64 (ndI L x).num:Value)=wv t.k:=by
 by_cases hz:t=.z
 ·have:x=0:=by
   by_cases hx:x=0
   ·exact hx
   ·exact absurd (h.trans hz) (zoi S.good.dag (by omega) (by omega))
  subst this hz;rfl
 ·have ht:=Tm.of S.good.dag h0 h hz;have hn:=S.good.num _ ht.mem;rw[num_k hn,ht.num S.good.dag];rfl
include hL
theorem t_n{x:Int}{t:Tr}(h:Tm L x t):RR Ak [ptr E.m,.int .i64 x] H=some ((ndI L x).val,H):=c_n S hL x
theorem t_k{x:Int}{t:Tr}(h:Tm L x t):RR At [ptr E.m,.int .i64 x] H=some (.tuple #[wv t.k,.bool (decide (t.op=3))],H):=by have:=c_k S hL x;rwa [k_of S ⟨by have:=h.lo;omega,h.hi⟩ h.is,h.op S.good.dag]at this
theorem t_op{x:Int}{t:Tr}(h:Tm L x t)(op:Int):RR Ap [ptr E.m,.int .i64 x,.int .i64 op] H=some (.tuple #[(ndI L x).val,.bool (decide (t.op=op))],H):=by have:=c_op S hL x op;rwa [h.op S.good.dag]at this
theorem t_with{x:Int}{t:Tr}(h:Tm L x t)(op:Int):RR Ay [ptr E.m,.int .i64 x,.int .i64 op] H=some (if t.op=op then .tuple #[.int .i64 (ndI L x).a,wv t.b.k,.bool (decide (t.b.op=3))] else .tuple #[.int .i64 0,.int .u64 0,.bool false],H):=by have:=c_with S hL x op;obtain⟨_,p2,_,_,p5,_⟩:=h.part S.good.dag;rwa [h.op S.good.dag,k_of S p5 p2,op_of S.good.dag p5 p2]at this
theorem zqq{x:Int}{t:Tr}(h:Tm L x t):RR AK [ptr E.m,.int .i64 x] H=some (.bool (decide (t.op=1)),H):=by have hr:=zgD E0 rfl (ptr E.m) (.int .i64 x) H;unfold zdD at hr;rw[zac (c_n S hL x),zov,zaD,h.op S.good.dag]at hr;exact hr
theorem zqr{x:Int}{t:Tr}(h:Tm L x t):RR AJ [ptr E.m,.int .i64 x] H=some (.bool (decide (t.op=2)),H):=by have hr:=zf9 E0 rfl (ptr E.m) (.int .i64 x) H;unfold zc9 at hr;rw[zac (c_n S hL x),zov,zaD,h.op S.good.dag]at hr;exact hr
theorem zok{x:Int}{t:Tr}(h:Tm L x t):RR AU [ptr E.m,.int .i64 x] H=some (.bool (fixT t),H):=by
 have hr:=zha E0 rfl (ptr E.m) (.int .i64 x) H;unfold zdV at hr;rw[zac (c_n S hL x),zov,zaD,h.op S.good.dag,zag]at hr;unfold fixT;by_cases h1:t.op=1
 ·rw[decide_eq_true h1,zau]at hr;rw[decide_eq_true (.inl h1)];exact hr
 rw[decide_eq_false h1,zam,zaD,zag]at hr;by_cases h2:t.op=2
 ·rw[decide_eq_true h2,zau]at hr;rw[decide_eq_true (.inr (.inl h2))];exact hr
 rw[decide_eq_false h2,zam,zaD]at hr;rw[show decide (t.op=1∨t.op=2∨t.op=3)=decide (t.op=3) by simp[h1,h2]];exact hr
theorem zmR{x y:Int}{s t:Tr}(hx:Tm L x s)(hy:Tm L y t){op:Int}(ho:op=5∨op=15):RR AV [ptr E.m,.int .i64 op,.int .i64 x,.int .i64 y] H=some (.bool (ziR op s t),H):=by
 have hd:=S.good.dag;have key:∀{x y:Int} {s t:Tr},Tm L x s→Tm L y t→s.op=op→((ndI L x).a=y↔s.a=t):=fun {x y s t} hx hy h=>by
  have hws:=hx.ws S.good;have hz:s.a≠.z:=by
   rcases ho with rfl|rfl
   ·exact(zfp hws h).2.1.nz
   ·exact(zfi hws (by omega)).2.1.nz
  exact Tm.eq_iff S.good (hx.a hd hz) hy
 have hr:=zga E0 rfl (ptr E.m) (.int .i64 op) (.int .i64 x) (.int .i64 y) H;unfold zda at hr;rw[zac (c_n S hL x),zac (c_n S hL y),spl7,spl7,zba,zaD,zag,hx.op hd]at hr;have tail:(zaf 1 false (ndI L y).cells 0 fun v13=>pBin PP .eql Aa v13 (.int .i64 op) fun v14=>zae v14 fun b15=>br b15 (zaf 1 false (ndI L y).cells 2 fun v16=>pBin PP .eql Aa v16 (.int .i64 x) fun v17=>some (v17,H)) (some ((.bool false),H)))=some (.bool (decide (t.op=op∧t.a=s)),H):=by
  rw[zba,zaD,zag,hy.op hd];by_cases h:t.op=op
  ·have k2:=key hy hx h;rw[decide_eq_true h,zau,za9,zaD];congr 3;rw[decide_eq_decide];exact⟨fun z=>⟨h,k2.1 z⟩,fun z=>k2.2 z.2⟩
  ·rw[decide_eq_false h,zam,decide_eq_false (fun z=>h z.1)]
 unfold ziR;by_cases h:s.op=op
 ·have k1:=key hx hy h;rw[decide_eq_true h,zau,za9,zaD,zag]at hr;by_cases h2:s.a=t
  ·rw[decide_eq_true (k1.2 h2),zau]at hr;rw[decide_eq_true (show s.op=op∧s.a=t from⟨h,h2⟩),Bool.true_or];exact hr
  ·rw[decide_eq_false (fun z=>h2 (k1.1 z)),zam,tail]at hr;rw[decide_eq_false (fun z:s.op=op∧s.a=t=>h2 z.2),Bool.false_or];exact hr
 ·rw[decide_eq_false h,zam,tail]at hr;rw[decide_eq_false (fun z:s.op=op∧s.a=t=>h z.1),Bool.false_or];exact hr
end
theorem ew_bin{op:Int}{s t:Tr}{w:Int}(hw:EW (.bin op (.old s) (.old t)) w):WS (tBin op s t)∧(6≤op∧op≤13∨17≤op∧op≤30):=by
 cases hw with
 |tbin _ o1 o2 ha hb=>cases ha with|old h1 h2=>cases hb with|old h3 h4=>exact⟨.tbin op o1 o2 h1 h3 h2 h4,by omega⟩
 |eq ha hb=>cases ha with|old h1 h2=>cases hb with|old h3 h4=>exact⟨.eq h1 h3 (by omega),by omega⟩
 |cmp _ o1 o2 h ha hb=>cases ha with|old h1 h2=>cases hb with|old h3 h4=>exact⟨.cmp op o1 o2 h1 h3 (by omega) (by omega),by omega⟩
 |wbin _ o1 o2 h hp ha hb=>cases ha with|old h1 h2=>cases hb with|old h3 h4=>exact⟨.wbin op o1 o2 h1 h3 (by omega) (by omega) (by rw[h2];exact hp),by omega⟩
theorem ew_bink{op:Int}{s:Tr}{v:Int}{x:W64}{w:Int}(hw:EW (.bin op (.old s) (.con v x)) w):WS (tBin op s (tCon v x))∧(6≤op∧op≤13∨17≤op∧op≤30)∧1≤v∧v≤64:=by
 cases hw with
 |tbin _ o1 o2 ha hb=>cases hb with|con _ h3 h4 h5=>omega
 |eq ha hb=>cases ha with|old h1 h2=>cases hb with|con _ h3 h4 h5=>exact⟨.eq h1 (.con v x h3 h4) (by rw[zo9];omega),by omega,h3,h4⟩
 |cmp _ o1 o2 h ha hb=>cases ha with|old h1 h2=>cases hb with|con _ h3 h4 h5=>exact⟨.cmp op o1 o2 h1 (.con v x h3 h4) (by omega) (by rw[zo9];omega),by omega,h3,h4⟩
 |wbin _ o1 o2 h hp ha hb=>cases ha with|old h1 h2=>cases hb with|con _ h3 h4 h5=>exact⟨.wbin op o1 o2 h1 (.con v x h3 h4) (by omega) (by rw[zo9];omega) (by rw[h2];exact hp),by omega,h3,h4⟩
theorem ew_un{op:Int}{t:Tr}{w:Int}(hw:EW (.un op (.old t)) w):WS (tUn op t)∧(op=5∨op=15∨op=16):=by
 cases hw with
 |not hw=>cases hw with|old h1 h2=>exact⟨.not h1 h2,.inl rfl⟩
 |un _ o1 o2 h1 hw=>cases hw with|old h2 h3=>exact⟨.un op o1 o2 h2 (by omega),by omega⟩
section
variable {E:Env}{K:List (ByteArray×Int)}{H:Hp}{L:List Nd}(S:MS E H L K){k:Nat}(ih:MkIH K k){r:Tr×Nat}{w:Int}
include S
theorem zdP{b:Bool}(hr:exF (simF k) (.tru b)=some r)(hl:L.length+r.2≤2^40):Gv E K L (RR An [ptr E.m,.bool b] H) r.1 r.2:=by cases hr;exact zo3 S (by omega) b
theorem ze0{v:Int}{x:W64}(hE:EW (.con v x) w)(hr:exF (simF k) (.con v x)=some r)(hl:L.length+r.2≤2^40):Gv E K L (RR Ai [ptr E.m,.int .i64 v,wv x] H) r.1 r.2:=by
 cases hr;cases hE with|con _ h1 h2 h3=>exact g_c S (by omega) h1 h2 x
include ih
theorem ze1{op a b:Int}{A B:Tr}(ha:Tm L a A)(hb:Tm L b B)(hE:EW (.bin op (.old A) (.old B)) w)(hr:exF (simF k) (.bin op (.old A) (.old B))=some r)(hl:L.length+r.2≤2^40):Gv E K L (RR Ag [ptr E.m,.int .i64 op,.int .i64 a,.int .i64 b] H) r.1 r.2:=by
 obtain⟨t,t1,rfl⟩:=zbK hr;obtain⟨h1,h2⟩:=ew_bin hE;have:=g_bin S ih ha hb h1 h2 t1 (by dsimp only at hl;omega);have e:0+0+1+t.2=1+t.2:=by omega
 dsimp only;rw[e];exact this
theorem mq_un{op a:Int}{A:Tr}(ha:Tm L a A)(hE:EW (.un op (.old A)) w)(hr:exF (simF k) (.un op (.old A))=some r)(hl:L.length+r.2≤2^40):Gv E K L (RR AW [ptr E.m,.int .i64 op,.int .i64 a] H) r.1 r.2:=by
 obtain⟨t,t1,rfl⟩:=zbK hr;obtain⟨h1,h2⟩:=ew_un hE;have:=g_un S ih ha h1 h2 t1 (by dsimp only at hl;omega);have e:0+1+t.2=1+t.2:=by omega
 dsimp only;rw[e];exact this
theorem znA{a:Int}{A:Tr}(ha:Tm L a A)(hE:EW (.un 5 (.old A)) w)(hr:exF (simF k) (.un 5 (.old A))=some r)(hl:L.length+r.2≤2^40):Gv E K L (RR Ao [ptr E.m,.int .i64 a] H) r.1 r.2:=by
 obtain⟨t,t1,rfl⟩:=zbK hr;obtain⟨h1,h2⟩:=ew_un hE;have:=g_not S ih ha h1 t1 (by dsimp only at hl;omega);have e:0+1+t.2=1+t.2:=by omega
 dsimp only;rw[e];exact this
theorem mq_ite{c a b:Int}{C A B:Tr}(hc:Tm L c C)(ha:Tm L a A)(hb:Tm L b B)(hE:EW (.ite (.old C) (.old A) (.old B)) w)(hr:exF (simF k) (.ite (.old C) (.old A) (.old B))=some r)(hl:L.length+r.2≤2^40):Gv E K L (RR AA [ptr E.m,.int .i64 c,.int .i64 a,.int .i64 b] H) r.1 r.2:=by
 obtain⟨t,t1,rfl⟩:=zbK hr;have hw:WS (tIte C A B):=by
  cases hE with
  |ite hc ha hb=>cases hc with|old h1 h2=>cases ha with|old h3 h4=>cases hb with|old h5 h6=>exact .ite h1 h3 h5 h2 (by omega)
 have:=g_ite S ih hc ha hb hw t1 (by dsimp only at hl;omega);have e:0+0+0+1+t.2=1+t.2:=by omega
 dsimp only;rw[e];exact this
theorem zhq{a i n:Int}{A:Tr}(ha:Tm L a A)(hE:EW (.slice (.old A) i n) w)(hr:exF (simF k) (.slice (.old A) i n)=some r)(hl:L.length+r.2≤2^40):Gv E K L (RR AN [ptr E.m,.int .i64 a,.int .i64 i,.int .i64 n] H) r.1 r.2:=by
 obtain⟨t,t1,rfl⟩:=zbK hr;have hw:WS (tSl A i n)∧0≤i∧i≤64:=by
  cases hE with
  |slice _ _ ha h0 h1 h2 h3=>cases ha with|old h4 h5=>exact⟨.slice i n h4 h0 h1 (by omega),h0,by have:=h4.w;omega⟩
 have:=g_slice S ih ha hw.1 hw.2 t1 (by dsimp only at hl;omega);have e:0+1+t.2=1+t.2:=by omega
 dsimp only;rw[e];exact this
theorem mq_ext{op a v:Int}{A:Tr}(ha:Tm L a A)(hE:EW (.ext op (.old A) v) w)(hr:exF (simF k) (.ext op (.old A) v)=some r)(hl:L.length+r.2≤2^40):Gv E K L (RR AT [ptr E.m,.int .i64 op,.int .i64 a,.int .i64 v] H) r.1 r.2:=by
 obtain⟨t,t1,rfl⟩:=zbK hr;have hw:WS (tExt op A v)∧(op=32∨op=33):=by
  cases hE with
  |ext _ _ o1 o2 ha h1 h2 h3 h4=>cases ha with|old h5 h6=>exact⟨.ext op v o1 o2 h5 (by omega) (by omega) h3,by omega⟩
 have:=g_ext S ih ha hw.1 hw.2 t1 (by dsimp only at hl;omega);have e:0+1+t.2=1+t.2:=by omega
 dsimp only;rw[e];exact this
theorem zcH{op a v:Int}{x:W64}{A:Tr}(ha:Tm L a A)(hE:EW (.bin op (.old A) (.con v x)) w)(hr:exF (simF k) (.bin op (.old A) (.con v x))=some r)(hl:L.length+r.2≤2^40) :
  ∃H1 c,RR Ai [ptr E.m,.int .i64 v,wv x] H=some (.int .i64 c,H1)∧Gv E K L (RR Ag [ptr E.m,.int .i64 op,.int .i64 a,.int .i64 c] H1) r.1 r.2:=by
 obtain⟨t,t1,rfl⟩:=zbK hr;obtain⟨h1,h2,h3,h4⟩:=ew_bink hE;dsimp only at hl;obtain⟨H1,L1,c,e1,nx,tc⟩:=g_c S (by omega) h3 h4 x;have hl1:=nx.len;obtain⟨H2,L2,u,e2,nx2,tu⟩:=g_bin nx.ms ih (nx.tm S.good.dag ha) tc h1 h2 t1 (by omega);exact⟨H1,c,e1,H2,L2,u,e2,(nx.trans nx2).le (by omega),tu⟩
theorem zhX{op a b:Int}{A B:Tr}(ha:Tm L a A)(hb:Tm L b B)(hE:EW (.un 5 (.bin op (.old A) (.old B))) w)(hr:exF (simF k) (.un 5 (.bin op (.old A) (.old B)))=some r)(hl:L.length+r.2≤2^40) :
  ∃H1 c,RR Ag [ptr E.m,.int .i64 op,.int .i64 a,.int .i64 b] H=some (.int .i64 c,H1)∧Gv E K L (RR Ao [ptr E.m,.int .i64 c] H1) r.1 r.2:=by
 obtain⟨y,y1,hr⟩:=zbo hr;obtain⟨t,t1,rfl⟩:=zbK hr;dsimp only at hl;have hE1:EW (.bin op (.old A) (.old B)) 0:=by
  cases hE with
  |not h=>exact h
  |un _ o1 o2=>omega
 obtain⟨g1,g2⟩:=zo5 (zgg k) hE1 y y1;obtain⟨H1,L1,c,e1,nx,tc⟩:=ze1 S ih ha hb hE1 y1 (by omega);have hl1:=nx.len;obtain⟨H2,L2,u,e2,nx2,tu⟩:=g_not nx.ms ih tc (.not g1 g2) t1 (by omega);exact⟨H1,c,e1,H2,L2,u,e2,(nx.trans nx2).le (by omega),tu⟩
theorem mq_binn{op a b:Int}{A B:Tr}(ha:Tm L a A)(hb:Tm L b B)(hE:EW (.bin op (.un 5 (.old A)) (.old B)) w)(ho:6≤op∧op≤7)(hr:exF (simF k) (.bin op (.un 5 (.old A)) (.old B))=some r)(hl:L.length+r.2≤2^40) :
  ∃H1 c,RR Ao [ptr E.m,.int .i64 a] H=some (.int .i64 c,H1)∧Gv E K L (RR Ag [ptr E.m,.int .i64 op,.int .i64 c,.int .i64 b] H1) r.1 r.2:=by
 obtain⟨y,y1,hr⟩:=zbo hr;obtain⟨t,t1,rfl⟩:=zbK hr;dsimp only at hl;have hE1:EW (.un 5 (.old A)) 0∧WS B∧B.w=0:=by
  cases hE with
  |tbin _ o1 o2 h1 h2=>cases h2 with|old h3 h4=>exact⟨h1,h3,h4⟩
  |eq=>omega
  |cmp=>omega
  |wbin=>omega
 obtain⟨g1,g2⟩:=zo5 (zgg k) hE1.1 y y1;obtain⟨H1,L1,c,e1,nx,tc⟩:=znA S ih ha hE1.1 y1 (by omega);have hl1:=nx.len;obtain⟨H2,L2,u,e2,nx2,tu⟩:=g_bin nx.ms ih tc (nx.tm S.good.dag hb) (.tbin op ho.1 (by omega) g1 hE1.2.1 g2 hE1.2.2) (by omega) t1 (by omega);exact⟨H1,c,e1,H2,L2,u,e2,(nx.trans nx2).le (by omega),tu⟩
end
def Rl(E:Env)(K:List (ByteArray×Int))(k:Nat)(L:List Nd)(x:Option (Value×Hp)):Option Ex→Prop
 |none=>∃H' L',x=some (.tuple #[.int .i64 0,.bool false],H')∧Nx E H' L L' K 2
 |some e=>∀r,exF (simF k) e=some r→L.length+(2+r.2)≤2^40→∃H' L' v,x=some (.tuple #[.int .i64 v,.bool true],H')∧Nx E H' L L' K (2+r.2)∧Tm L' v r.1
theorem Rl.none{E:Env}{K:List (ByteArray×Int)}{k:Nat}{L:List Nd}{H:Hp}{x:Option (Value×Hp)}(S:MS E H L K)(h:x=some (.tuple #[.int .i64 0,.bool false],H)):Rl E K k L x none:=⟨H,L,h,(Nx.refl S).le (by omega)⟩
theorem Rl.old{E:Env}{K:List (ByteArray×Int)}{k:Nat}{L:List Nd}{H:Hp}{x:Option (Value×Hp)}(S:MS E H L K){v:Int}{t:Tr}(ht:Tm L v t)(h:x=some (.tuple #[.int .i64 v,.bool true],H)):Rl E K k L x (some (.old t)):=fun r hr hl=>by cases hr;exact⟨H,L,v,h,(Nx.refl S).le (by omega),ht⟩
theorem Rl.one{E:Env}{K:List (ByteArray×Int)}{k:Nat}{L:List Nd}{x:Option (Value×Hp)}{e:Ex}{y:Option (Value×Hp)}(h:∀r,exF (simF k) e=some r→L.length+r.2≤2^40→Gv E K L y r.1 r.2)(hx:∀v H',y=some (.int .i64 v,H')→x=some (.tuple #[.int .i64 v,.bool true],H')):Rl E K k L x (some e):=fun r hr hl=>by obtain⟨H',L',v,e1,nx,tm⟩:=h r hr (by omega);exact⟨H',L',v,hx v H' e1,nx.le (by omega),tm⟩
theorem Rl.two{E:Env}{K:List (ByteArray×Int)}{k:Nat}{L:List Nd}{x:Option (Value×Hp)}{e:Ex}{y:Option (Value×Hp)}{z:Int→Hp→Option (Value×Hp)}(h:∀r,exF (simF k) e=some r→L.length+r.2≤2^40→∃H1 c,y=some (.int .i64 c,H1)∧Gv E K L (z c H1) r.1 r.2)
  (hx:∀c H1 v H',y=some (.int .i64 c,H1)→z c H1=some (.int .i64 v,H')→x=some (.tuple #[.int .i64 v,.bool true],H')):Rl E K k L x (some e):=fun r hr hl=>by
 obtain⟨H1,c,e0,H',L',v,e1,nx,tm⟩:=h r hr (by omega);exact⟨H',L',v,hx c H1 v H' e0 e1,nx.le (by omega),tm⟩
section
variable {E:Env}{K:List (ByteArray×Int)}{H:Hp}{L:List Nd}(S:MS E H L K)(hL:L.length+2≤2^40){k:Nat}(ih:MkIH K k){n:Nd}{A B C:Tr}
include S hL ih
theorem w_not(ha:Tm L n.a A)(hE:∀e,notT A=some e→EW e 0):Rl E K k L (RR BE [ptr E.m,n.val] H) (notT A):=by
 have hr:=zjx E0 rfl (ptr E.m) n.val H;unfold zfD at hr;rw[n2,zac (t_n S (by omega) ha),spl7,zba,ha.op S.good.dag,zaD,zag]at hr;unfold notT at hE ⊢;by_cases q1:A.op=1
 ·rw[if_pos q1]at hE ⊢;rw[decide_eq_true q1,zau]at hr;refine .one (fun r h hl=>zdP S h hl) fun v H' e=>hr.trans ?_;rw[zac e,zac (zaK _ _)];rfl
 rw[if_neg q1]at hE ⊢;rw[decide_eq_false q1,zam,zaD,zag]at hr;by_cases q2:A.op=2
 ·rw[if_pos q2]at hE ⊢;rw[decide_eq_true q2,zau]at hr;refine .one (fun r h hl=>zdP S h hl) fun v H' e=>hr.trans ?_;rw[zac e,zac (zaK _ _)];rfl
 rw[if_neg q2]at hE ⊢;rw[decide_eq_false q2,zam,zaD,zag]at hr;by_cases q3:A.op=5
 ·rw[if_pos q3]at hE ⊢;rw[decide_eq_true q3,zau,za9,zac (zaK _ _)]at hr;exact .old S (ha.a S.good.dag (zfp (ha.ws S.good) q3).2.1.nz) hr
 rw[if_neg q3]at hE ⊢;rw[decide_eq_false q3,zam,zac (zbq _)]at hr;exact .none S hr
theorem w_xor(ha:Tm L n.a A)(hb:Tm L n.b B)(hE:∀e,xorT A B=some e→EW e 0):Rl E K k L (RR BG [ptr E.m,n.val] H) (xorT A B):=by
 have hr:=zjv E0 rfl (ptr E.m) n.val H;unfold zfB at hr;have hd:=S.good.dag;have heq:=Tm.eq_iff S.good ha hb;rw[n2,n3,zac (t_op S (by omega) ha 5),x01,spl7,zac (t_op S (by omega) hb 5),x01,spl7,zac (zqr S (by omega) ha),zag]at hr;unfold xorT at hE ⊢;by_cases q1:A.op=2
 ·rw[if_pos q1]at hE ⊢;rw[decide_eq_true q1,zau,zac (zaK _ _)]at hr;exact .old S hb hr
 rw[if_neg q1]at hE ⊢;rw[decide_eq_false q1,zam,zac (zqq S (by omega) ha),zag]at hr;by_cases q2:A.op=1
 ·rw[if_pos q2]at hE ⊢;rw[decide_eq_true q2,zau]at hr;refine .one (fun r h hl=>znA S ih hb (hE _ rfl) h hl) fun v H' e=>hr.trans ?_;rw[zac e,zac (zaK _ _)];rfl
 rw[if_neg q2]at hE ⊢;rw[decide_eq_false q2,zam,zac (zqr S (by omega) hb),zag]at hr;by_cases q3:B.op=2
 ·rw[if_pos q3]at hE ⊢;rw[decide_eq_true q3,zau,zac (zaK _ _)]at hr;exact .old S ha hr
 rw[if_neg q3]at hE ⊢;rw[decide_eq_false q3,zam,zac (zqq S (by omega) hb),zag]at hr;by_cases q4:B.op=1
 ·rw[if_pos q4]at hE ⊢;rw[decide_eq_true q4,zau]at hr;refine .one (fun r h hl=>znA S ih ha (hE _ rfl) h hl) fun v H' e=>hr.trans ?_;rw[zac e,zac (zaK _ _)];rfl
 rw[if_neg q4]at hE ⊢;rw[decide_eq_false q4,zam,zaD,zag]at hr;by_cases q5:A=B
 ·rw[if_pos q5]at hE ⊢;rw[decide_eq_true (heq.2 q5),zau]at hr;refine .one (fun r h hl=>zdP S h hl) fun v H' e=>hr.trans ?_;rw[zac e,zac (zaK _ _)];rfl
 rw[if_neg q5]at hE ⊢;rw[decide_eq_false (fun z=>q5 (heq.1 z)),zam,zac (zmR S (by omega) ha hb (.inl rfl)),zag]at hr;by_cases q6:ziR 5 A B=true
 ·rw[if_pos q6]at hE ⊢;rw[q6,zau]at hr;refine .one (fun r h hl=>zdP S h hl) fun v H' e=>hr.trans ?_;rw[zac e,zac (zaK _ _)];rfl
 rw[if_neg q6]at hE ⊢;rw[Bool.eq_false_iff.2 q6,zam,zag]at hr;by_cases q7:A.op=5
 ·rw[if_pos q7]at hE ⊢;rw[decide_eq_true q7,zau,za9]at hr;refine .two (fun r h hl=>zhX S ih (ha.a hd (zfp (ha.ws S.good) q7).2.1.nz) hb (hE _ rfl) h hl) fun c H1 v H' e1 e2=>hr.trans ?_;rw[zac e1,zac e2,zac (zaK _ _)];rfl
 rw[if_neg q7]at hE ⊢;rw[decide_eq_false q7,zam,zag]at hr;by_cases q8:B.op=5
 ·rw[if_pos q8]at hE ⊢;rw[decide_eq_true q8,zau,za9]at hr;refine .two (fun r h hl=>zhX S ih ha (hb.a hd (zfp (hb.ws S.good) q8).2.1.nz) (hE _ rfl) h hl) fun c H1 v H' e1 e2=>hr.trans ?_;rw[zac e1,zac e2,zac (zaK _ _)];rfl
 rw[if_neg q8]at hE ⊢;rw[decide_eq_false q8,zam,zac (zbq _)]at hr;exact .none S hr
end
theorem wn{w:Int}(h:1≤w):((w.toNat:Nat):Int)=w:=by omega
theorem zhZ{α:Type}{P:Program}(T:TypeId)(a:W64)(k:Value→Option α):pBin P .eql T (wv a) (.int .u64 0) k=k (.bool (decide (a=0#64))):=zgU (P:=P) T a 0#64 k
theorem k_eq1{α:Type}{P:Program}(T:TypeId)(a:W64)(k:Value→Option α):pBin P .eql T (wv a) (.int .u64 1) k=k (.bool (decide (a=1#64))):=zgU (P:=P) T a 1#64 k
section
variable {E:Env}{K:List (ByteArray×Int)}{H:Hp}{L:List Nd}(S:MS E H L K)(hL:L.length+2≤2^40){k:Nat}(ih:MkIH K k){n:Nd}{A B C:Tr}
include S hL ih
theorem w_and(ho:n.op=6∨n.op=7)(ha:Tm L n.a A)(hb:Tm L n.b B)(hE:∀e,andT n.op A B=some e→EW e 0):Rl E K k L (RR AO [ptr E.m,n.val] H) (andT n.op A B):=by
 have hr:=zjF E0 rfl (ptr E.m) n.val H;unfold zfL at hr;obtain⟨H1,L1,f,e1,nx1,tf⟩:=zo3 S (by omega) false;have l1:=nx1.len;obtain⟨H2,L2,t,e2,nx2,tt⟩:=zo3 nx1.ms (by omega) true;have l2:=nx2.len;have S2:=nx2.ms;have nx:=nx1.trans nx2;have hd:=S.good.dag;have tf:=nx2.tm nx1.ms.good.dag tf;have ta:=nx.tm hd ha;have tb:=nx.tm hd hb;obtain⟨z,o,hz,zz,zo⟩:∃z o:Int,(∀(kk:Ctl→List Value→Hp→Option (Value×Hp)),(zaG (zaf 1 false (zad n.val) 0 fun v5=>pBin PP .eql Aa v5 (.int .i64 7) fun v6=>zae v6 fun b7=>br b7 (some (Ctl.next,[.int .i64 t,.int .i64 f],H2)) (some (.next,[.int .i64 f,.int .i64 t],H2))) kk)=kk .next [.int .i64 z,.int .i64 o] H2)∧Tm L2 z (tTru (decide (n.op≠6)))∧Tm L2 o (tTru (decide (n.op=6))):=by
  rcases ho with h|h
  ·exact⟨f,t,fun kk=>by rw[n0,h,eF (by decide),zay],by rw[h];exact tf,by rw[h];exact tt⟩
  ·exact⟨t,f,fun kk=>by rw[n0,h,eT rfl,zay],by rw[h];exact tt,by rw[h];exact tf⟩
 have opz:∀{x:Int} {Q:Tr},Tm L2 x Q→(x=z↔Q.op=(if n.op=6 then 2 else 1)):=fun {x Q} hx=>by
  rw[Tm.eq_iff S2.good hx zz];constructor
  ·intro h;rw[h];rcases ho with h|h<;>rw[h]<;>rfl
  ·intro h;have:=zpn (hx.ws S2.good) (by rcases ho with q|q<;>rw[q]at h<;>simp at h<;>omega);rw[this.1,h];rcases ho with q|q<;>rw[q]<;>rfl
 have opo:∀{x:Int} {Q:Tr},Tm L2 x Q→(x=o↔Q.op=(if n.op=6 then 1 else 2)):=fun {x Q} hx=>by
  rw[Tm.eq_iff S2.good hx zo];constructor
  ·intro h;rw[h];rcases ho with h|h<;>rw[h]<;>rfl
  ·intro h;have:=zpn (hx.ws S2.good) (by rcases ho with q|q<;>rw[q]at h<;>simp at h<;>omega);rw[this.1,h];rcases ho with q|q<;>rw[q]<;>rfl
 have heq:=Tm.eq_iff S2.good ta tb;have fin:∀{v:Int} {Q:Tr},Tm L2 v Q→RR AO [ptr E.m,n.val] H=some (.tuple #[.int .i64 v,.bool true],H2)→Rl E K k L (RR AO [ptr E.m,n.val] H) (some (.old Q)):=fun {v Q} hv hh r hr hl=>by cases hr;exact⟨H2,L2,v,hh,nx.le (by omega),hv⟩
 have fit:∀{v:Int} {b:Bool},Tm L2 v (tTru b)→RR AO [ptr E.m,n.val] H=some (.tuple #[.int .i64 v,.bool true],H2)→Rl E K k L (RR AO [ptr E.m,n.val] H) (some (.tru b)):=fun {v b} hv hh r hr hl=>by cases hr;exact⟨H2,L2,v,hh,nx.le (by omega),hv⟩
 rw[zac e1,zac e2,hz,zaR]at hr;simp only[qg0,qg1]at hr;rw[n2,n3,zaD,zag]at hr;unfold andT;by_cases q1:n.a=z
 ·rw[if_pos (.inl ((opz ta).1 q1))];rw[decide_eq_true q1,zau,zay,zaR]at hr;simp only[qg0]at hr;rw[zag,zau,zac (zaK _ _)]at hr;exact fit zz hr
 rw[decide_eq_false q1,zam,zaD,zay,zaR]at hr;simp only[qg0]at hr;rw[zag]at hr;by_cases q2:n.b=z
 ·rw[if_pos (.inr ((opz tb).1 q2))];rw[decide_eq_true q2,zau,zac (zaK _ _)]at hr;exact fit zz hr
 rw[if_neg (fun q=>q.elim (fun q=>q1 ((opz ta).2 q)) fun q=>q2 ((opz tb).2 q))];rw[decide_eq_false q2,zam,zaD,zag]at hr;by_cases q3:n.a=o
 ·rw[if_pos ((opo ta).1 q3)];rw[decide_eq_true q3,zau,zac (zaK _ _)]at hr;exact fin tb hr
 rw[if_neg (fun q=>q3 ((opo ta).2 q))];rw[decide_eq_false q3,zam,zaD,zag]at hr;by_cases q4:n.b=o
 ·rw[if_pos (.inl ((opo tb).1 q4))];rw[decide_eq_true q4,zau,zac (zaK _ _)]at hr;exact fin ta hr
 rw[decide_eq_false q4,zam,zaD,zag]at hr;by_cases q5:n.a=n.b
 ·rw[if_pos (.inr (heq.1 q5))];rw[decide_eq_true q5,zau,zac (zaK _ _)]at hr;exact fin ta hr
 rw[if_neg (fun q=>q.elim (fun q=>q4 ((opo tb).2 q)) fun q=>q5 (heq.2 q))];rw[decide_eq_false q5,zam,zac (zmR S2 (by omega) ta tb (.inl rfl)),zag]at hr;by_cases q6:ziR 5 A B=true
 ·rw[if_pos q6];rw[q6,zau,zac (zaK _ _)]at hr;exact fit zz hr
 rw[if_neg q6];rw[Bool.eq_false_iff.2 q6,zam,zac (zbq _)]at hr;exact⟨H2,L2,hr,nx⟩
theorem w_com(ho:n.op=15∨n.op=16)(ha:Tm L n.a A)(hw:n.w=A.w)(h1:1≤A.w)(hE:∀e,comT n.op n.w A=some e→EW e n.w):Rl E K k L (RR BB [ptr E.m,n.val] H) (comT n.op n.w A):=by
 have hr:=zjD E0 rfl (ptr E.m) n.val H;unfold zfJ at hr;have hd:=S.good.dag;have hws:=ha.ws S.good;have h64:=hws.w.2;have hun:RR Br [.int .i64 n.op,.int .i64 n.w,wv A.k] H=some (.tuple #[wv (unW n.op n.w.toNat A.k),.int .i64 0],H):=by have:=p_un ho (n:=n.w.toNat) (by omega) (by omega) A.k H;rwa [wn (by omega)]at this
 rw[n2,zac (t_k S (by omega) ha),x01,zag]at hr;unfold comT at hE ⊢;by_cases q1:A.op=3
 ·rw[if_pos q1]at hE ⊢;rw[decide_eq_true q1,zau,n0,n1,zac hun,x01,n1]at hr;refine .one (fun r h hl=>ze0 S (hE _ rfl) h hl) fun v H' e=>hr.trans ?_;rw[zac e,zac (zaK _ _)];rfl
 rw[if_neg q1]at hE ⊢;rw[decide_eq_false q1,zam,n2,zac (t_n S (by omega) ha),spl7,zba,n0,ha.op hd,zaD,zag]at hr;by_cases q2:A.op=n.op
 ·rw[if_pos q2]at hE ⊢;rw[decide_eq_true q2,zau,za9,zac (zaK _ _)]at hr;exact .old S (ha.a hd (zfi hws (by omega)).2.1.nz) hr
 rw[if_neg q2]at hE ⊢;rw[decide_eq_false q2,zam,n0,zaD,zag]at hr;by_cases q3:n.op=16
 ·rw[decide_eq_true q3,zau,zba,ha.op hd,zaD,zag]at hr;by_cases q4:A.op=21
  ·rw[if_pos ⟨q3,q4⟩]at hE ⊢;rw[decide_eq_true q4,zau,zcl,za9]at hr;obtain⟨_,g1,g2,_⟩:=zaX hws (by omega);refine .one (fun r h hl=>ze1 S ih (ha.b hd g2.nz) (ha.a hd g1.nz) (hE _ rfl) h hl) fun v H' e=>hr.trans ?_;rw[zac e,zac (zaK _ _)];rfl
  ·rw[if_neg (fun z=>q4 z.2)]at hE ⊢;rw[decide_eq_false q4,zam,zac (zbq _)]at hr;exact .none S hr
 ·rw[if_neg (fun z=>q3 z.1)]at hE ⊢;rw[decide_eq_false q3,zam,zac (zbq _)]at hr;exact .none S hr
theorem w_eqC{x:Nd}{X:Tr}{w:Int}{y:Int}(hx:Tm L y X)(hn:x=ndI L y)(h14:X.op=14){c:W64}(hE:∀e,eqC X c=some e→EW e w):Rl E K k L (RR Ca [ptr E.m,x.val,wv c] H) (eqC X c):=by
 have hr:=zjC E0 rfl (ptr E.m) x.val (wv c) H;unfold zfI at hr;subst hn;have hd:=S.good.dag;obtain⟨_,g1,g2,g3,_⟩:=zjb (hx.ws S.good) h14;have tb:=hx.b hd g2.nz;have tc:=hx.c hd g3.nz;rw[n3,zac (t_k S (by omega) tb),x01,n4,zac (t_k S (by omega) tc),x01,zb0,zag]at hr;unfold eqC at hE ⊢;by_cases q1:X.b.op=3
 ·rw[decide_eq_true q1,Bool.not_true,zam,zb0,zay,zaR]at hr;simp only[qg0]at hr;rw[zag]at hr;by_cases q2:X.c.op=3
  ·rw[if_neg (fun z=>z ⟨q1,q2⟩)]at hE ⊢;rw[decide_eq_true q2,Bool.not_true,zam,zgU,zag]at hr;by_cases q3:X.b.k=c
   ·rw[decide_eq_true q3,zau,zgU,zay,zaR]at hr;simp only[qg0]at hr;rw[zag]at hr;by_cases q4:X.c.k=c
    ·rw[if_pos ⟨q3,q4⟩]at hE ⊢;rw[decide_eq_true q4,zau]at hr;refine .one (fun r h hl=>zdP S h hl) fun v H' e=>hr.trans ?_;rw[zac e,zac (zaK _ _)];rfl
    ·rw[if_neg (fun z=>q4 z.2),if_pos q3]at hE ⊢;rw[decide_eq_false q4,zam,zgU,bT q3,n2,zac (zaK _ _)]at hr;exact .old S (hx.a hd g1.nz) hr
   ·rw[if_neg (fun z=>q3 z.1),if_neg q3]at hE ⊢;rw[decide_eq_false q3,zam,zay,zaR]at hr;simp only[qg0]at hr;rw[zag,zam,zgU,bF q3,zgU,zag]at hr;by_cases q4:X.c.k=c
    ·rw[if_pos q4]at hE ⊢;rw[decide_eq_true q4,zau,n2]at hr;refine .one (fun r h hl=>znA S ih (hx.a hd g1.nz) (hE _ rfl) h hl) fun v H' e=>hr.trans ?_;rw[zac e,zac (zaK _ _)];rfl
    ·rw[if_neg q4]at hE ⊢;rw[decide_eq_false q4,zam]at hr;refine .one (fun r h hl=>zdP S h hl) fun v H' e=>hr.trans ?_;rw[zac e,zac (zaK _ _)];rfl
  ·rw[if_pos (fun z=>q2 z.2)]at hE ⊢;rw[decide_eq_false q2,Bool.not_false,zau,zac (zbq _)]at hr;exact .none S hr
 ·rw[if_pos (fun z=>q1 z.1)]at hE ⊢;rw[decide_eq_false q1,Bool.not_false,zau,zay,zaR]at hr;simp only[qg0]at hr;rw[zag,zau,zac (zbq _)]at hr;exact .none S hr
end
theorem chk_t{α:Type}{p:Prop}(h:p)(k:Option α):chk p k=k:=by unfold chk;rw[if_pos h]
theorem Rl.un{E:Env}{K:List (ByteArray×Int)}{H:Hp}{L:List Nd}(S:MS E H L K){sl:Value}(ft:∀j,Foot E.p E.f E.g sl j→(E.F0 j∨E.B.next≤j)∧j≠E.m∧j≠E.d){k:Nat}{x:Option (Value×Hp)}{o:Option Ex}(h:Rl (E.re H sl) K k L x o):Rl E K k L x o:=by
 cases o with
 |none=>
  obtain⟨H',L',e,nx⟩:=h;exact⟨H',L',e,⟨S.un ft nx.ms,nx.pre,nx.len⟩⟩
 |some e=>
  intro r hr hl;obtain⟨H',L',v,e,nx,tm⟩:=h r hr hl;exact⟨H',L',v,e,⟨S.un ft nx.ms,nx.pre,nx.len⟩,tm⟩
structure Bx(E:Env)(b:Nat):Prop where
 n:b<E.B.next
 o:¬E.F0 b
 c:E.B.get b=some (.cells [ptr E.m] true)
theorem Bx.ld{E:Env}{b:Nat}(h:Bx E b){H:Hp}{L:List Nd}{K:List (ByteArray×Int)}(S:MS E H L K){α:Type}(k:Value→Option α):zaH 1 false H (ptr b) k=k (ptr E.m):=
 Go.AM.zeh (by rw[S.old b h.n h.o];exact h.c) 0 _ rfl k
section
variable {E:Env}{K:List (ByteArray×Int)}{H:Hp}{L:List Nd}(S:MS E H L K)(hL:L.length+2≤2^40){k:Nat}(ih:MkIH K k)
include S ih
theorem w_is{b:Nat}(hb:Bx E b){t:Int}{A:Tr}(ht:Tm L t A){c:W64}{w:Int}(hE:EW (isE A c) w){r:Tr×Nat}(hr:exF (simF k) (isE A c)=some r)(hl:L.length+r.2≤2^40) :
  ∃H' L' v,RR Aw [.int .i64 t,wv c,ptr b] H=some (.tuple #[.int .i64 v,.bool true],H')∧Nx E H' L L' K r.2∧Tm L' v r.1:=by
 obtain⟨y,y1,rfl⟩:=zbK hr;obtain⟨h1,h2,h3,h4⟩:=ew_bink hE;dsimp only at hl;obtain⟨H1,L1,c',e1,nx,tc⟩:=g_c S (by omega) h3 h4 c;have hl1:=nx.len;obtain⟨H2,L2,u,e2,nx2,tu⟩:=g_bin nx.ms ih (nx.tm S.good.dag ht) tc h1 h2 y1 (by omega);have hr:=zhP E0 rfl (.int .i64 t) (wv c) (ptr b) H;unfold zex at hr;have ld:=fun {α:Type} (k:Value→Option α)=>hb.ld S k;have r0:=zjs fun α k=>hb.ld S (α:=α) k;have r1:=zjs fun α k=>hb.ld nx.ms (α:=α) k;rw[ld,ld,ld,zac (t_n S (by omega) ht),chk_t r0,chk_t r0,zeI,ht.w S.good.dag,zac e1,chk_t r1,zac e2,zac (zaK _ _),x01]at hr;exact⟨H2,L2,u,hr,(nx.trans nx2).le (by omega),tu⟩
theorem Rl.is{b:Nat}(hb:Bx E b){t:Int}{A:Tr}(ht:Tm L t A){c:W64}{w:Int}(hE:EW (isE A c) w){x:Option (Value×Hp)}(hx:x=zab RR Aw [.int .i64 t,wv c,ptr b] H fun r H'=>zaa r 0 fun a=>zaa r 1 fun b=>some (.tuple #[a,b],H')):Rl E K k L x (some (isE A c)):=fun r hr hl=>by obtain⟨H',L',v,e,nx,tm⟩:=w_is S ih hb ht hE hr (by omega);rw[zac e,x01]at hx;exact⟨H',L',v,hx,nx.le (by omega),tm⟩
omit S ih in
theorem Rl.wrap{fn:FuncId}{args:List Value}{o:Option Ex}{x:Option (Value×Hp)}(h:Rl E K k L (RR fn args H) o)(hx:x=zab RR fn args H fun r H'=>zaa r 0 fun a=>zaa r 1 fun b=>some (.tuple #[a,b],H')):Rl E K k L x o:=by
 cases o with
 |none=>
  obtain⟨H',L',e,nx⟩:=h;rw[zac e,x01]at hx;exact⟨H',L',hx,nx⟩
 |some e=>
  intro r hr hl;obtain⟨H',L',v,e,nx,tm⟩:=h r hr hl;rw[zac e,x01]at hx;exact⟨H',L',v,hx,nx,tm⟩
include hL
theorem w_eqK{y:Int}{X:Tr}(hx:Tm L y X){c:W64}(hE:∀e,eqK X c=some e→EW e 0):Rl E K k L (RR BC [ptr E.m,.int .i64 y,wv c] H) (eqK X c):=by
 have hr:=zjB E0 rfl (ptr E.m) (.int .i64 y) (wv c) H;unfold zfH at hr;obtain⟨sl,st,ft⟩:=S.st;have S2:MS E (H.new (.cells [ptr E.m] true)) L K:=S.frm (zlG _ _ _);have st2:StF (H.new (.cells [ptr E.m] true)) E.p 0 L K sl E.f E.g:=st.keep (fun j hj=>by have:=st.foot_lt hj;rw[get_new,if_neg (by omega)]) (by show H.next≤H.next+1;omega);have S1:=S2.re st2 ft
 have hb:Bx (E.re (H.new (.cells [ptr E.m] true)) sl) H.next:=⟨by show H.next<H.next+1;omega,fun q=>by
  rcases q with q|q
  ·have:=st.foot_lt q;omega
  ·have:=S.dl;have q:H.next=E.d:=q
   omega,by show (H.new _).get _=_;rw[get_new,if_pos rfl];rfl⟩
 refine Rl.un S2 ft ?_;have hal:∀(kk:Value→Hp→Option (Value×Hp)),zeY (zad (ptr E.m)) H kk=kk (ptr H.next) (H.new (.cells [ptr E.m] true)):=fun kk=>rfl;rw[hal]at hr;generalize H.new (.cells [ptr E.m] true)=G at *;have hd:=S.good.dag;have hws:=hx.ws S.good;have h64:=hws.w.2;have ld:∀{α:Type} (kk:Value→Option α),zaH 1 false G (ptr H.next) kk=kk (ptr (E.re G sl).m):=fun kk=>hb.ld S1 kk;have aw:=fun h=>zaX hws h;rw[ld,zac (t_n S1 (by omega) hx),spl7,zeZ,ld,zba,hx.op hd,zac (t_with S1 (by omega) hx X.op),if_pos rfl,zl3,zl2,zl1,zba,hx.op hd,zaD,zag]at hr;unfold eqK at hE ⊢;by_cases q1:X.op=15
 ·rw[if_pos q1]at hE ⊢;rw[decide_eq_true q1,zau,za9,b_not]at hr;exact Rl.is S1 ih hb (hx.a hd (zfi hws (by omega)).2.1.nz) (hE _ rfl) hr
 rw[if_neg q1]at hE ⊢;rw[decide_eq_false q1,zam,zba,hx.op hd,zaD,zag]at hr;by_cases q2:X.op=16
 ·rw[if_pos q2]at hE ⊢;rw[decide_eq_true q2,zau,za9,b_neg]at hr;exact Rl.is S1 ih hb (hx.a hd (zfi hws (by omega)).2.1.nz) (hE _ rfl) hr
 rw[if_neg q2]at hE ⊢;rw[decide_eq_false q2,zam,zba,hx.op hd,zaD,zag]at hr;have two:∀(o:Int) (H:Hp) (kk:Ctl→List Value→Hp→Option (Value×Hp)),(zaG (br (decide (X.op=o)) (some (Ctl.next,[.bool (decide (X.b.op=3))],H)) (some (.next,[(.bool false)],H))) kk)=kk .next [.bool (decide (X.op=o∧X.b.op=3))] H:=fun o H kk=>by
  by_cases h:X.op=o
  ·rw[decide_eq_true h,zau,zay];simp[h]
  ·rw[decide_eq_false h,zam,zay];simp[h]
 rw[two,zaR]at hr;simp only[qg0]at hr;rw[zag]at hr;by_cases q3:X.op=20∧X.b.op=3
 ·rw[if_pos q3]at hE ⊢;rw[decide_eq_true q3,zau,za9,b_sub]at hr;exact Rl.is S1 ih hb (hx.a hd (aw (by omega)).2.1.nz) (hE _ rfl) hr
 rw[if_neg q3]at hE ⊢;rw[decide_eq_false q3,zam,zba,hx.op hd,zaD,zag,two,zaR]at hr;simp only[qg0]at hr;rw[zag]at hr;by_cases q4:X.op=19∧X.b.op=3
 ·rw[if_pos q4]at hE ⊢;rw[decide_eq_true q4,zau,za9,b_xor]at hr;exact Rl.is S1 ih hb (hx.a hd (aw (by omega)).2.1.nz) (hE _ rfl) hr
 rw[if_neg q4]at hE ⊢;rw[decide_eq_false q4,zam,zba,hx.op hd,zaD,zag,two,zaR]at hr;simp only[qg0]at hr;rw[zag]at hr;by_cases q5:X.op=28∧X.b.op=3
 ·rw[if_pos q5]at hE ⊢;obtain⟨_,g1,g2,g3,g4,g5,g6⟩:=aw (by omega);have hbin:RR AH [.int .i64 29,.int .i64 X.w,wv c,wv X.b.k] G=some (.tuple #[wv (binW 29 X.w.toNat c X.b.k),.int .i64 0],G):=by have:=p_bin (op:=29) (by decide) (n:=X.w.toNat) (by omega) (by omega) (fun _=>by rw[wn (by omega)];exact g6 (by omega)) c X.b.k G;rwa [wn (by omega)]at this
  rw[decide_eq_true q5,zau,hx.w hd,zac hbin,x01,za9]at hr;exact Rl.is S1 ih hb (hx.a hd g1.nz) (hE _ rfl) hr
 rw[if_neg q5]at hE ⊢;rw[decide_eq_false q5,zam,zhZ,zag]at hr;have zero:∀(kk:Ctl→List Value→Hp→Option (Value×Hp)),(zaG (br (decide (c=0#64)) (zaf 1 false (ndI L y).cells 0 fun v80=>pBin PP .eql Aa v80 (.int .i64 21) fun v81=>zae v81 fun b82=>br b82 (some (Ctl.next,[(.bool true)],G)) (zaf 1 false (ndI L y).cells 0 fun v83=>pBin PP .eql Aa v83 (.int .i64 19) fun v84=>some (.next,[v84],G))) (some (.next,[(.bool false)],G))) kk)=kk .next [.bool (decide (c=0#64∧(X.op=21∨X.op=19)))] G:=fun kk=>by
  by_cases h:c=0#64
  ·rw[decide_eq_true h,zau,zba,hx.op hd,zaD,zag];by_cases h2:X.op=21
   ·rw[decide_eq_true h2,zau,zay];simp[h,h2]
   ·rw[decide_eq_false h2,zam,zba,hx.op hd,zaD,zay];simp[h,h2]
  ·rw[decide_eq_false h,zam,zay];simp[h]
 rw[zero,zaR]at hr;simp only[qg0]at hr;rw[zag]at hr;by_cases q6:c=0#64∧(X.op=21∨X.op=19)
 ·rw[if_pos q6]at hE ⊢;obtain⟨_,g1,g2,_⟩:=aw (by omega);rw[decide_eq_true q6,zau,ld,za9,zcl]at hr;refine .one (fun r h hl=>ze1 S1 ih (hx.a hd g1.nz) (hx.b hd g2.nz) (hE _ rfl) h hl) fun v H' e=>hr.trans ?_;rw[zac e,zac (zaK _ _)];rfl
 rw[if_neg q6]at hE ⊢;rw[decide_eq_false q6,zam,zba,hx.op hd,zaD,zag]at hr;have or2:∀(kk:Ctl→List Value→Hp→Option (Value×Hp)),(zaG (br (decide (X.op=32)) (some (Ctl.next,[.bool (decide (X.op=32))],G)) (zaf 1 false (ndI L y).cells 0 fun v102=>pBin PP .eql Aa v102 (.int .i64 33) fun v103=>some (.next,[v103],G))) kk)=kk .next [.bool (decide (X.op=32∨X.op=33))] G:=fun kk=>by
  by_cases h:X.op=32
  ·rw[decide_eq_true h,zau,zay];simp[h]
  ·rw[decide_eq_false h,zam,zba,hx.op hd,zaD,zay];simp[h]
 rw[or2,zaR]at hr;simp only[qg0]at hr;rw[zag]at hr;by_cases q7:X.op=32∨X.op=33
 ·rw[if_pos q7]at hE ⊢;obtain⟨_,g1,g2,g3,g4,g5⟩:=zfq hws (by omega);have ta:=hx.a hd g1.nz;have ht:∀G,RR Ah [.int .i64 X.a.w,wv c] G=some (wv (c&&&ones X.a.w),G):=fun G=>by have:=zbB (n:=X.a.w.toNat) (by omega) (by omega) c G;rwa [wn (by omega)]at this
  have hx2:RR A3 [.int .i64 X.op,.int .i64 X.a.w,wv (c&&&ones X.a.w),.int .i64 X.w] G=some (.tuple #[wv (extW X.op X.a.w.toNat (c&&&ones X.a.w) X.w.toNat),.int .i64 0],G):=by have:=p_ext (op:=X.op) q7 (n:=X.a.w.toNat) (m:=X.w.toNat) (by omega) (by omega) (by omega) (c&&&ones X.a.w) G;rwa [wn (by omega),wn (by omega)]at this
  rw[decide_eq_true q7,zau,ld,za9,zac (t_n S1 (by omega) ta),zeI,ta.w hd,zba,hx.op hd,zac (ht G),hx.w hd,zac hx2,x01,b_neq,zag]at hr;by_cases q8:extW X.op X.a.w.toNat (c&&&ones X.a.w) X.w.toNat=c
  ·rw[if_neg (fun z=>z q8)]at hE ⊢;rw[decide_eq_true q8,Bool.not_true,zam,za9,zac (ht G)]at hr;exact Rl.is S1 ih hb ta (hE _ rfl) hr
  ·rw[if_pos q8]at hE ⊢;rw[decide_eq_false q8,Bool.not_false,zau,ld]at hr;refine .one (fun r h hl=>zdP S1 h hl) fun v H' e=>hr.trans ?_;rw[zac e,zac (zaK _ _)];rfl
 rw[if_neg q7]at hE ⊢;rw[decide_eq_false q7,zam,zba,hx.op hd,zaD,zag]at hr;by_cases q8:X.op=14
 ·rw[if_pos q8]at hE ⊢;rw[decide_eq_true q8,zau,ld,zgl]at hr;exact Rl.wrap (w_eqC S1 hL ih hx rfl q8 hE) hr
 rw[if_neg q8]at hE ⊢;rw[decide_eq_false q8,zam,zba,hx.op hd,zaD,zag]at hr;by_cases q9:X.op=30
 ·rw[if_pos q9]at hE ⊢;obtain⟨_,g1,g2,g3,g4,g5,g6⟩:=zh8 hws q9;have ta:=hx.a hd g1.nz;have tb:=hx.b hd g2.nz;have hw:IntKind.u64.wrap X.b.w=X.b.w:=Go.AM.zdH (by omega) (by omega);have hsh:∀{α:Type} (kk:Value→Option α),pBin PP .shr Ab (wv c) (.int .u64 X.b.w) kk=kk (wv (c >>> X.b.w.toNat)):=fun kk=>by have:=zk3 (P:=PP) Ab c kk .u64 X.b.w.toNat;rwa [wn (by omega)]at this
  have hE2:=hE _ rfl;have hE3:EW (isE X.a (c >>> X.b.w.toNat)) 0∧EW (isE X.b c) 0:=by
   cases hE2 with
   |tbin _ _ _ h1 h2=>exact⟨h1,h2⟩
   |cmp _ o1 _ _ _ _=>omega
   |wbin _ o1 _ _ _ _ _=>omega
  rw[decide_eq_true q9,zau,ld,zcl,zac (t_n S1 (by omega) tb),zeI,tb.w hd,za9,zdt,hw,hsh]at hr;intro r h hl;obtain⟨y1,z1,h⟩:=zbo h;obtain⟨y2,z2,h⟩:=zbo h;obtain⟨u,u1,rfl⟩:=zbK h;dsimp only at hl;obtain⟨a1,a2⟩:=zo5 (zgg k) hE3.1 y1 z1;obtain⟨b1,b2⟩:=zo5 (zgg k) hE3.2 y2 z2;obtain⟨G1,L1,v1,e1,nx1,t1⟩:=w_is S1 ih hb ta hE3.1 z1 (by omega);have l1:=nx1.len;obtain⟨G2,L2,v2,e2,nx2,t2⟩:=w_is nx1.ms ih hb (nx1.tm hd tb) hE3.2 z2 (by omega);have l2:=nx2.len;obtain⟨G3,L3,v3,e3,nx3,t3⟩:=g_bin nx2.ms ih (nx2.tm nx1.ms.good.dag t1) t2 (.tbin 6 (by decide) (by decide) a1 b1 a2 b2) (by decide) u1 (by omega);rw[zac e1,x01,zcl,zac e2,x01,hb.ld nx2.ms,zac e3,zac (zaK _ _),x01]at hr;exact⟨G3,L3,v3,hr,((nx1.trans nx2).trans nx3).le (by omega),t3⟩
 rw[if_neg q9]at hE ⊢;rw[decide_eq_false q9,zam,zac (zbq _)]at hr;exact .none S1 hr
theorem w_eq{n:Nd}{A B:Tr}(ha:Tm L n.a A)(hb:Tm L n.b B)(hE:∀e,eqT A B=some e→EW e 0):Rl E K k L (RR BD [ptr E.m,n.val] H) (eqT A B):=by
 have hr:=zkU E0 rfl (ptr E.m) n.val H;unfold zgo at hr;have hd:=S.good.dag;have heq:=Tm.eq_iff S.good ha hb;rw[n2,n3,zaD,zag]at hr;unfold eqT at hE ⊢;by_cases q1:A=B
 ·rw[if_pos q1]at hE ⊢;rw[decide_eq_true (heq.2 q1),zau]at hr;refine .one (fun r h hl=>zdP S h hl) fun v H' e=>hr.trans ?_;rw[zac e,zac (zaK _ _),x01,zay,zcb];rfl
 rw[if_neg q1]at hE ⊢;have fx:∀(kk:Ctl→List Value→Hp→Option Outc),(zaG (zab RR AU [ptr E.m,.int .i64 n.a] H fun r11 H12=>zae r11 fun b13=>br b13 (zab RR AU [ptr E.m,.int .i64 n.b] H12 fun r14 H15=>some (Ctl.next,[r14],H15)) (some (.next,[(.bool false)],H12))) kk)=kk .next [.bool (fixT A&&fixT B)] H:=fun kk=>by
  rw[zac (zok S (by omega) ha),zag];cases fixT A with
  |true=>rw[zau,zac (zok S (by omega) hb),zay];rfl
  |false=>rw[zam,zay];rfl
 rw[decide_eq_false (fun z=>q1 (heq.1 z)),zam,fx,zaR]at hr;simp only[qg0]at hr;rw[zag]at hr;by_cases q2:fixT A=true∧fixT B=true
 ·rw[if_pos q2]at hE ⊢;rw[q2.1,q2.2,Bool.and_true,zau]at hr;refine .one (fun r h hl=>zdP S h hl) fun v H' e=>hr.trans ?_;rw[zac e,zac (zaK _ _),x01,zay,zcb];rfl
 rw[if_neg q2]at hE ⊢;have f2:(fixT A&&fixT B)=false:=Bool.eq_false_iff.2 fun z=>q2 (by simpa using z);rw[f2,zam,zac (zok S (by omega) ha),zag]at hr;by_cases q3:fixT A=true
 ·rw[if_pos q3]at hE ⊢;rw[q3,zau]at hr;refine .one (fun r h hl=>ze1 S ih hb ha (hE _ rfl) h hl) fun v H' e=>hr.trans ?_;rw[zac e,zac (zaK _ _),x01,zay,zcb];rfl
 rw[if_neg q3]at hE ⊢;rw[Bool.eq_false_iff.2 q3,zam,zac (zqq S (by omega) hb),zag]at hr;by_cases q4:B.op=1
 ·rw[if_pos q4]at hE ⊢;rw[decide_eq_true q4,zau,zac (zaK _ _),x01,zay,zcb]at hr;exact .old S ha hr
 rw[if_neg q4]at hE ⊢;rw[decide_eq_false q4,zam,zac (zqr S (by omega) hb),zag]at hr;by_cases q5:B.op=2
 ·rw[if_pos q5]at hE ⊢;rw[decide_eq_true q5,zau]at hr;refine .one (fun r h hl=>znA S ih ha (hE _ rfl) h hl) fun v H' e=>hr.trans ?_;rw[zac e,zac (zaK _ _),x01,zay,zcb];rfl
 rw[if_neg q5]at hE ⊢;rw[decide_eq_false q5,zam,zac (t_n S (by omega) ha),zeI,ha.w hd,zaD,zag]at hr;have last:∀{x:Option (Value×Hp)},x=(zab RR At [ptr E.m,.int .i64 n.b] H fun r70 H71=>zaa r70 0 fun v72=>zaa r70 1 fun v73=>zae v73 fun b74=>br b74 (zab RR BC [ptr E.m,.int .i64 n.a,v72] H71 fun r75 H76=>zaa r75 0 fun v77=>zaa r75 1 fun v78=>some ((.tuple #[v77,v78]),H76)) (zab RR Ad [] H71 fun r79 H80=>zaa r79 0 fun v81=>zaa r79 1 fun v82=>some ((.tuple #[v81,v82]),H80))) →
   (∀e,(if B.op=3 then eqK A B.k else none)=some e→EW e 0)→Rl E K k L x (if B.op=3 then eqK A B.k else none):=fun {x} hr hE=>by
  rw[zac (t_k S (by omega) hb),x01,zag]at hr;by_cases q:B.op=3
  ·rw[if_pos q]at hE ⊢;rw[decide_eq_true q,zau]at hr;exact Rl.wrap (w_eqK S hL ih ha hE) hr
  ·rw[if_neg q];rw[decide_eq_false q,zam,zac (zbq _)]at hr;exact .none S hr
 by_cases q6:A.w=0
 ·rw[decide_eq_true q6,zau,zac (zmR S (by omega) ha hb (.inl rfl)),zag]at hr;by_cases q7:ziR 5 A B=true
  ·rw[if_pos ⟨q6,q7⟩]at hE ⊢;rw[q7,zau]at hr;refine .one (fun r h hl=>zdP S h hl) fun v H' e=>hr.trans ?_;rw[zac e,zac (zaK _ _),x01,zay,zcb];rfl
  ·rw[if_neg (fun z=>q7 z.2)]at hE ⊢;rw[Bool.eq_false_iff.2 q7,zam,zay,zaR]at hr;exact last hr hE
 ·rw[if_neg (fun z=>q6 z.1)]at hE ⊢;rw[decide_eq_false q6,zam,zay,zaR]at hr;exact last hr hE
end
theorem zbn{β:Type}(p q:Prop) [Decidable p] [Decidable q](H:Hp)(kk:Ctl→List Value→Hp→Option β):zaG (br (decide p) (some (Ctl.next,[.bool (decide q)],H)) (some (.next,[(.bool false)],H))) kk=kk .next [.bool (decide (p∧q))] H:=by
 by_cases h:p
 ·rw[decide_eq_true h,zau,zay];simp[h]
 ·rw[decide_eq_false h,zam,zay];simp[h]
theorem brd_or{β:Type}(p q:Prop) [Decidable p] [Decidable q](H:Hp)(kk:Ctl→List Value→Hp→Option β):zaG (br (decide p) (some (Ctl.next,[.bool (decide p)],H)) (some (.next,[.bool (decide q)],H))) kk=kk .next [.bool (decide (p∨q))] H:=by
 by_cases h:p
 ·rw[decide_eq_true h,zau,zay];simp[h]
 ·rw[decide_eq_false h,zam,zay];simp[h]
theorem zaZ{β:Type}(v:Bool)(k:Bool→Option β)(e:Nat→Option β)(r:Option β):zaM .next (zae (([.bool v]:List Value).getD 0 undef) k) e r=k v:=rfl
theorem u0:(.int .u64 0:Value)=wv 0#64:=rfl
theorem zqi{w:Int}(h1:1≤w)(h2:w≤64)(H:Hp):RR AP [.int .i64 w] H=some (wv (ones w),H):=by have hr:=zoy E0 rfl (.int .i64 w) H;unfold zj7 at hr;have:=zbB (n:=w.toNat) (by omega) (by omega) (BitVec.allOnes 64) H;rw[wn h1,BitVec.allOnes_and]at this;have this:RR Ah [.int .i64 w,.int .u64 18446744073709551615] H=some (wv (msk w.toNat),H):=this;rw[zac this]at hr;exact hr
theorem zje{E:Env}{K:List (ByteArray×Int)}{H:Hp}{L:List Nd}(S:MS E H L K)(hL:L.length≤2^40){x:Int}{t:Tr}(h:Tm L x t)(op:Int):RR Ay [ptr E.m,.int .i64 x,.int .i64 op] H=some (.tuple #[.int .i64 (if t.op=op then (ndI L x).a else 0),wv (if t.op=op then t.b.k else 0#64),.bool (zcv op t)],H):=by
 have:=t_with S hL h op;rw[this];unfold zcv;by_cases q:t.op=op
 ·simp[q]
 ·simp[q];rfl
section
variable {E:Env}{K:List (ByteArray×Int)}{H:Hp}{L:List Nd}(S:MS E H L K)(hL:L.length+2≤2^40){k:Nat}(ih:MkIH K k){n:Nd}{A B:Tr}(ha:Tm L n.a A)(hb:Tm L n.b B)(hw:n.w=A.w)(h1:1≤A.w)
include S hL ih ha hb hw h1
theorem w_band(ho:n.op=17∨n.op=18)(hE:∀e,zhy n.op n.w A B=some e→EW e n.w):Rl E K k L (RR B8 [ptr E.m,n.val,wv B.k,.bool (decide (B.op=3))] H) (zhy n.op n.w A B):=by
 have hr:=ziG E0 rfl (ptr E.m) n.val (wv B.k) (.bool (decide (B.op=3))) H;unfold ze9 at hr;have hd:=S.good.dag;have hws:=ha.ws S.good;have h64:=hws.w.2;have heq:=Tm.eq_iff S.good ha hb;have zy:∀(kk:Ctl→List Value→Hp→Option (Value×Hp)),(zaG (zaf 1 false (zad n.val) 0 fun v4=>pBin PP .eql Aa v4 (.int .i64 18) fun v5=>zae v5 fun b6=>br b6 (some (Ctl.next,[wv (ones n.w),(.int .u64 0)],H)) (some (.next,[(.int .u64 0),wv (ones n.w)],H))) kk)=kk .next [wv (if n.op=17 then 0#64 else ones n.w),wv (if n.op=17 then ones n.w else 0#64)] H:=fun kk=>by
  rw[n0];rcases ho with h|h
  ·rw[h,eF (by decide),zay,if_pos rfl,if_pos rfl];rfl
  ·rw[h,eT rfl,zay,if_neg (by decide),if_neg (by decide)];rfl
 rw[n1,zac (zqi (by omega) (by omega) H),zy,zaR]at hr;simp only[qg0,qg1]at hr;have hbin:RR AH [.int .i64 n.op,.int .i64 n.w,wv B.k,wv A.b.k] H=some (.tuple #[wv (binW n.op n.w.toNat B.k A.b.k),.int .i64 0],H):=by have:=p_bin (op:=n.op) (by omega) (n:=n.w.toNat) (by omega) (by omega) (fun _=>by omega) B.k A.b.k H;rwa [wn (by omega)]at this
 unfold zhy at hE ⊢;generalize (if n.op=17 then 0#64 else ones n.w)=z at *;generalize (if n.op=17 then ones n.w else 0#64)=y at *;rw[n2,n3,n0,zac (zje S (by omega) ha n.op),zl3,zl2,zl1,zag,zgU,zbn,zaZ]at hr;by_cases q1:B.op=3∧B.k=z
 ·rw[if_pos q1]at hE ⊢;rw[decide_eq_true q1,zau,zac (zaK _ _)]at hr;exact .old S hb hr
 rw[if_neg q1]at hE ⊢;have or3:∀(kk:Ctl→List Value→Hp→Option (Value×Hp)),(zaG (br (decide (B.op=3)) (br (decide (B.k=y)) (some (Ctl.next,[.bool (decide (B.k=y))],H)) (some (.next,[.bool (decide (n.a=n.b))],H))) (some (.next,[.bool (decide (n.a=n.b))],H))) kk)=kk .next [.bool (decide ((B.op=3∧B.k=y)∨A=B))] H:=fun kk=>by
  have e:decide (n.a=n.b)=decide (A=B):=decide_eq_decide.2 heq;rw[e];by_cases h:B.op=3
  ·rw[decide_eq_true h,zau];by_cases h2:B.k=y
   ·rw[decide_eq_true h2,zau,zay];simp[h,h2]
   ·rw[decide_eq_false h2,zam,zay];simp[h2]
  ·rw[decide_eq_false h,zam,zay];simp[h]
 rw[decide_eq_false q1,zam,zag,zgU,zag,zaD,or3,zaZ]at hr;by_cases q2:(B.op=3∧B.k=y)∨A=B
 ·rw[if_pos q2]at hE ⊢;rw[decide_eq_true q2,zau,zac (zaK _ _)]at hr;exact .old S ha hr
 rw[if_neg q2]at hE ⊢;rw[decide_eq_false q2,zam,zac (zmR S (by omega) ha hb (.inr rfl)),zag]at hr;by_cases q3:ziR 15 A B=true
 ·rw[if_pos q3]at hE ⊢;rw[q3,zau,n1]at hr;refine .one (fun r h hl=>ze0 S (hE _ rfl) h hl) fun v H' e=>hr.trans ?_;rw[zac e,zac (zaK _ _)];rfl
 rw[if_neg q3]at hE ⊢;rw[Bool.eq_false_iff.2 q3,zam,zag,show zcv n.op A=decide (zcv n.op A=true) by simp,zbn,zaZ]at hr;by_cases q4:B.op=3∧zcv n.op A=true
 ·rw[if_pos q4]at hE ⊢;have hq:=zal q4.2;rw[decide_eq_true q4,zau,n0,n1,if_pos hq.1,if_pos hq.1,zac hbin,x01,n0,n1]at hr;refine .two (fun r h hl=>zcH S ih (ha.a hd (zaX hws (by omega)).2.1.nz) (hE _ rfl) h hl) fun c H1 v H' e1 e2=>hr.trans ?_;rw[zac e1,zac e2,zac (zaK _ _)];rfl
 rw[if_neg q4]at hE ⊢;rw[decide_eq_false q4,zam,zac (zbq _)]at hr;exact .none S hr
theorem w_bxor(hE:∀e,zhw n.w A B=some e→EW e n.w):Rl E K k L (RR B9 [ptr E.m,n.val,wv B.k,.bool (decide (B.op=3))] H) (zhw n.w A B):=by
 have hr:=ziF E0 rfl (ptr E.m) n.val (wv B.k) (.bool (decide (B.op=3))) H;unfold ze8 at hr;have hd:=S.good.dag;have hws:=ha.ws S.good;have hwb:=hb.ws S.good;have h64:=hws.w.2;have heq:=Tm.eq_iff S.good ha hb;have pa:=fun h=>zaX hws h;have pb:=fun h=>zaX hwb h;have on1:=zqi (w:=n.w) (by omega) (by omega) H;rw[n2,n3,zac (zje S (by omega) ha 19),zl3,zl2,zl1,zac (t_op S (by omega) ha 19),x01,spl7,zac (t_op S (by omega) hb 19),x01,spl7,zag,zhZ,zbn,zaZ]at hr;unfold zhw at hE ⊢;by_cases q1:B.op=3∧B.k=0#64
 ·rw[if_pos q1]at hE ⊢;rw[decide_eq_true q1,zau,zac (zaK _ _)]at hr;exact .old S ha hr
 rw[if_neg q1]at hE ⊢;rw[decide_eq_false q1,zam,zag,n1,zac on1,zgU,zbn,zaZ]at hr;by_cases q2:B.op=3∧B.k=ones n.w
 ·rw[if_pos q2]at hE ⊢;rw[decide_eq_true q2,zau]at hr;refine .one (fun r h hl=>mq_un S ih ha (hE _ rfl) h hl) fun v H' e=>hr.trans ?_;rw[zac e,zac (zaK _ _)];rfl
 rw[if_neg q2]at hE ⊢;rw[decide_eq_false q2,zam,zaD,zag]at hr;by_cases q3:A=B
 ·rw[if_pos q3]at hE ⊢;rw[decide_eq_true (heq.2 q3),zau,n1,u0]at hr;refine .one (fun r h hl=>ze0 S (hE _ rfl) h hl) fun v H' e=>hr.trans ?_;rw[zac e,zac (zaK _ _)];rfl
 rw[if_neg q3]at hE ⊢;rw[decide_eq_false (fun z=>q3 (heq.1 z)),zam,zac (zmR S (by omega) ha hb (.inr rfl)),zag]at hr;by_cases q4:ziR 15 A B=true
 ·rw[if_pos q4]at hE ⊢;rw[q4,zau,n1,n1,zac on1]at hr;refine .one (fun r h hl=>ze0 S (hE _ rfl) h hl) fun v H' e=>hr.trans ?_;rw[zac e,zac (zaK _ _)];rfl
 rw[if_neg q4]at hE ⊢;rw[Bool.eq_false_iff.2 q4,zam,zag,show zcv 19 A=decide (zcv 19 A=true) by simp,zbn,zaZ]at hr;by_cases q5:B.op=3∧zcv 19 A=true
 ·rw[if_pos q5]at hE ⊢;have hq:=zal q5.2;rw[decide_eq_true q5,zau,n1,if_pos hq.1,if_pos hq.1,b_xor]at hr;refine .two (fun r h hl=>zcH S ih (ha.a hd (pa (by omega)).2.1.nz) (hE _ rfl) h hl) fun c H1 v H' e1 e2=>hr.trans ?_;rw[zac e1,zac e2,zac (zaK _ _)];rfl
 rw[if_neg q5]at hE ⊢;rw[decide_eq_false q5,zam,zag,zcl,zaD,zbn,zaZ]at hr;have eab:A.op=19→((ndI L n.a).b=n.b↔A.b=B):=fun h=>Tm.eq_iff S.good (ha.b hd (pa (by omega)).2.2.1.nz) hb;have eaa:A.op=19→((ndI L n.a).a=n.b↔A.a=B):=fun h=>Tm.eq_iff S.good (ha.a hd (pa (by omega)).2.1.nz) hb;have ebb:B.op=19→((ndI L n.b).b=n.a↔B.b=A):=fun h=>Tm.eq_iff S.good (hb.b hd (pb (by omega)).2.2.1.nz) ha;have eba:B.op=19→((ndI L n.b).a=n.a↔B.a=A):=fun h=>Tm.eq_iff S.good (hb.a hd (pb (by omega)).2.1.nz) ha;have cg:∀{p q q':Prop},(p→(q↔q'))→((p∧q)↔(p∧q')):=fun h=>⟨fun z=>⟨z.1,(h z.1).1 z.2⟩,fun z=>⟨z.1,(h z.1).2 z.2⟩⟩
 by_cases q6:A.op=19∧A.b=B
 ·rw[if_pos q6]at hE ⊢;rw[decide_eq_true ((cg eab).2 q6),zau,za9,zac (zaK _ _)]at hr;exact .old S (ha.a hd (pa (by omega)).2.1.nz) hr
 rw[if_neg q6]at hE ⊢;rw[decide_eq_false (fun z=>q6 ((cg eab).1 z)),zam,zag,za9,zaD,zbn,zaZ]at hr;by_cases q7:A.op=19∧A.a=B
 ·rw[if_pos q7]at hE ⊢;rw[decide_eq_true ((cg eaa).2 q7),zau,zcl,zac (zaK _ _)]at hr;exact .old S (ha.b hd (pa (by omega)).2.2.1.nz) hr
 rw[if_neg q7]at hE ⊢;rw[decide_eq_false (fun z=>q7 ((cg eaa).1 z)),zam,zag,zcl,zaD,zbn,zaZ]at hr;by_cases q8:B.op=19∧B.b=A
 ·rw[if_pos q8]at hE ⊢;rw[decide_eq_true ((cg ebb).2 q8),zau,za9,zac (zaK _ _)]at hr;exact .old S (hb.a hd (pb (by omega)).2.1.nz) hr
 rw[if_neg q8]at hE ⊢;rw[decide_eq_false (fun z=>q8 ((cg ebb).1 z)),zam,zag]at hr;by_cases q9:B.op=19
 ·rw[decide_eq_true q9,zau,za9,zaD,zag]at hr;by_cases q10:B.a=A
  ·rw[if_pos ⟨q9,q10⟩]at hE ⊢;rw[decide_eq_true ((eba q9).2 q10),zau,zcl,zac (zaK _ _)]at hr;exact .old S (hb.b hd (pb (by omega)).2.2.1.nz) hr
  ·rw[if_neg (fun z=>q10 z.2)]at hE ⊢;rw[decide_eq_false (fun z=>q10 ((eba q9).1 z)),zam,zac (zbq _)]at hr;exact .none S hr
 ·rw[if_neg (fun z=>q9 z.1)]at hE ⊢;rw[decide_eq_false q9,zam,zac (zbq _)]at hr;exact .none S hr
theorem w_add(hE:∀e,addT n.w A B=some e→EW e n.w):Rl E K k L (RR B7 [ptr E.m,n.val,wv B.k,.bool (decide (B.op=3))] H) (addT n.w A B):=by
 have hr:=zjG E0 rfl (ptr E.m) n.val (wv B.k) (.bool (decide (B.op=3))) H;unfold zfM at hr;have hd:=S.good.dag;have hws:=ha.ws S.good;have hwb:=hb.ws S.good;have h64:=hws.w.2;have pa:=fun h=>zaX hws h;have pb:=fun h=>zaX hwb h;rw[n2,n3,zac (zje S (by omega) ha 20),zl3,zl2,zl1,zac (t_n S (by omega) ha),zac (t_n S (by omega) hb),spl7,spl7,zag,zhZ,zbn,zaZ]at hr;unfold addT at hE ⊢;by_cases q1:B.op=3∧B.k=0#64
 ·rw[if_pos q1]at hE ⊢;rw[decide_eq_true q1,zau,zac (zaK _ _)]at hr;exact .old S ha hr
 rw[if_neg q1]at hE ⊢;rw[decide_eq_false q1,zam,zag,show zcv 20 A=decide (zcv 20 A=true) by simp,zbn,zaZ]at hr;by_cases q2:B.op=3∧zcv 20 A=true
 ·rw[if_pos q2]at hE ⊢;have hq:=zal q2.2;rw[decide_eq_true q2,zau,n1,if_pos hq.1,if_pos hq.1,b_add]at hr;refine .two (fun r h hl=>zcH S ih (ha.a hd (pa (by omega)).2.1.nz) (hE _ rfl) h hl) fun c H1 v H' e1 e2=>hr.trans ?_;rw[zac e1,zac e2,zac (zaK _ _)];rfl
 rw[if_neg q2]at hE ⊢;rw[decide_eq_false q2,zam,zba,hb.op hd,zaD,zag]at hr;by_cases q3:B.op=16
 ·rw[if_pos q3]at hE ⊢;rw[decide_eq_true q3,zau,za9]at hr;refine .one (fun r h hl=>ze1 S ih ha (hb.a hd (zfi hwb (by omega)).2.1.nz) (hE _ rfl) h hl) fun v H' e=>hr.trans ?_;rw[zac e,zac (zaK _ _)];rfl
 rw[if_neg q3]at hE ⊢;rw[decide_eq_false q3,zam,zba,ha.op hd,zaD,zag]at hr;by_cases q4:A.op=16
 ·rw[if_pos q4]at hE ⊢;rw[decide_eq_true q4,zau,za9]at hr;refine .one (fun r h hl=>ze1 S ih hb (ha.a hd (zfi hws (by omega)).2.1.nz) (hE _ rfl) h hl) fun v H' e=>hr.trans ?_;rw[zac e,zac (zaK _ _)];rfl
 rw[if_neg q4]at hE ⊢;have eab:A.op=21→((ndI L n.a).b=n.b↔A.b=B):=fun h=>Tm.eq_iff S.good (ha.b hd (pa (by omega)).2.2.1.nz) hb;have ebb:B.op=21→((ndI L n.b).b=n.a↔B.b=A):=fun h=>Tm.eq_iff S.good (hb.b hd (pb (by omega)).2.2.1.nz) ha;have cg:∀{p q q':Prop},(p→(q↔q'))→((p∧q)↔(p∧q')):=fun h=>⟨fun z=>⟨z.1,(h z.1).1 z.2⟩,fun z=>⟨z.1,(h z.1).2 z.2⟩⟩
 rw[decide_eq_false q4,zam,zba,ha.op hd,zaD,zag,zcl,zaD,zbn,zaZ]at hr;by_cases q5:A.op=21∧A.b=B
 ·rw[if_pos q5]at hE ⊢;rw[decide_eq_true ((cg eab).2 q5),zau,za9,zac (zaK _ _)]at hr;exact .old S (ha.a hd (pa (by omega)).2.1.nz) hr
 rw[if_neg q5]at hE ⊢;rw[decide_eq_false (fun z=>q5 ((cg eab).1 z)),zam,zba,hb.op hd,zaD,zag]at hr;by_cases q6:B.op=21
 ·rw[decide_eq_true q6,zau,zcl,zaD,zag]at hr;by_cases q7:B.b=A
  ·rw[if_pos ⟨q6,q7⟩]at hE ⊢;rw[decide_eq_true ((ebb q6).2 q7),zau,za9,zac (zaK _ _)]at hr;exact .old S (hb.a hd (pb (by omega)).2.1.nz) hr
  ·rw[if_neg (fun z=>q7 z.2)]at hE ⊢;rw[decide_eq_false (fun z=>q7 ((ebb q6).1 z)),zam,zac (zbq _)]at hr;exact .none S hr
 ·rw[if_neg (fun z=>q6 z.1)]at hE ⊢;rw[decide_eq_false q6,zam,zac (zbq _)]at hr;exact .none S hr
end
end Go.AM.N14
namespace Go.AM.N14
open List Go Go.AM
theorem k_gt1{α:Type}{P:Program}(T:TypeId)(a:W64)(k:Value→Option α):pBin P .gtr T (wv a) (.int .u64 1) k=k (.bool (decide (1<a.toNat))):=b_gtr (P:=P) T a 1#64 k
theorem k_sub1{α:Type}{P:Program}(T:TypeId)(a:W64)(k:Value→Option α):pBin P .sub T (wv a) (.int .u64 1) k=k (wv (a-1#64)):=b_sub (P:=P) T a 1#64 k
theorem c_power{H:Hp}(hT:TabB H)(x:W64):RR Cb [wv x] H=some (.tuple #[wv (BitVec.ofNat 64 (Go.Lib.ctz 64 x.toNat)),.bool (powW x)],H):=by
 have hr:=zne E0 rfl (wv x) H;unfold zij at hr;have hc:((Go.Lib.ctz 64 x.toNat:Nat):Int)<18446744073709551616:=by
  have:Go.Lib.ctz 64 x.toNat≤64:=by
   by_cases hx:x.toNat=0
   ·unfold Go.Lib.ctz;rw[if_pos hx];omega
   ·obtain⟨m,_,hm⟩:=Go.Lib.ctzFrom_spec 64 x.toNat (by omega) x.isLt;unfold Go.Lib.ctz;rw[if_neg hx];omega
  omega
 have hcv:∀{α:Type} (k:Value→Option α),zav .u64 (.int .i64 ((Go.Lib.ctz 64 x.toNat:Nat):Int)) k=k (wv (BitVec.ofNat 64 (Go.Lib.ctz 64 x.toNat))):=fun k=>by rw[zdt,Go.AM.zdH (by omega) (by omega)];congr 1;show (Value.int .u64 _)=.int .u64 _;congr 1;rw[BitVec.toNat_ofNat,Nat.mod_eq_of_lt (by omega)]
 rw[zac (p_tz hT x),hcv,k_gt1,zag]at hr;unfold powW;by_cases h:1<x.toNat
 ·rw[decide_eq_true h,zau,k_sub1,b_and,zhZ]at hr;rw[decide_eq_true h,Bool.true_and];exact hr
 ·rw[decide_eq_false h,zam]at hr;rw[decide_eq_false h,Bool.false_and];exact hr
theorem pow_all:(List.range 65).all (fun i=>decide (i=0)||(decide (IntKind.i64.wrap ((BitVec.ofInt 64 (i:Int)&&&BitVec.ofInt 64 (IntKind.i64.wrap ((i:Int)-1))).toNat:Int)=0)==zfm (i:Int)))=true:=by decide +kernel
theorem c_shifts{α:Type}{w:Int}(h1:1≤w)(h2:w≤64)(k:Value→Option α):(pBin PP .sub Aa (.int .i64 w) (.int .i64 1) fun v15=>pBin PP .and Aa (.int .i64 w) v15 fun v16=>pBin PP .eql Aa v16 (.int .i64 0) k)=k (.bool (zfm w)):=by
 rw[zd8,Go.AM.s_and,zaD];have:=all_eq_true.1 pow_all w.toNat (mem_range.2 (by omega));rw[wn h1]at this;simp only[Bool.or_eq_true,decide_eq_true_eq,beq_iff_eq]at this;rcases this with h|h
 ·omega
 ·congr 2
section
variable {E:Env}{K:List (ByteArray×Int)}{H:Hp}{L:List Nd}(S:MS E H L K)(hL:L.length+2≤2^40){k:Nat}(ih:MkIH K k){n:Nd}{A B:Tr}(ha:Tm L n.a A)(hb:Tm L n.b B)
include S hL ih ha hb
theorem w_sub(hE:∀e,subT n.w A B=some e→EW e n.w):Rl E K k L (RR Bh [ptr E.m,n.val,wv A.k,.bool (decide (A.op=3)),wv B.k,.bool (decide (B.op=3))] H) (subT n.w A B):=by
 have hr:RR Bh [ptr E.m,n.val,wv A.k,.bool (decide (A.op=3)),wv B.k,.bool (decide (B.op=3))] H=_:=zjw E0 rfl (ptr E.m) n.val (wv A.k) (.bool (decide (A.op=3))) (wv B.k) (.bool (decide (B.op=3))) H;unfold zfC at hr;generalize RR Bh [ptr E.m,n.val,wv A.k,.bool (decide (A.op=3)),wv B.k,.bool (decide (B.op=3))] H=run at hr ⊢;have hd:=S.good.dag;have hws:=ha.ws S.good;have hwb:=hb.ws S.good;have heq:=Tm.eq_iff S.good ha hb;have pa:=fun h=>zaX hws h;have cg:∀{p q q':Prop},(p→(q↔q'))→((p∧q)↔(p∧q')):=fun h=>⟨fun z=>⟨z.1,(h z.1).1 z.2⟩,fun z=>⟨z.1,(h z.1).2 z.2⟩⟩
 rw[n2,n3,zac (t_n S (by omega) ha),zac (t_n S (by omega) hb),spl7,spl7,zag,zhZ,zbn,zaZ]at hr;unfold subT at hE ⊢;by_cases q1:B.op=3∧B.k=0#64
 ·rw[if_pos q1]at hE ⊢;rw[decide_eq_true q1,zau,zac (zaK _ _)]at hr;exact .old S ha hr
 rw[if_neg q1]at hE ⊢;rw[decide_eq_false q1,zam,zaD,zag]at hr;by_cases q2:A=B
 ·rw[if_pos q2]at hE ⊢;rw[decide_eq_true (heq.2 q2),zau,n1,u0]at hr;refine .one (fun r h hl=>ze0 S (hE _ rfl) h hl) fun v H' e=>hr.trans ?_;rw[zac e,zac (zaK _ _)];rfl
 rw[if_neg q2]at hE ⊢;rw[decide_eq_false (fun z=>q2 (heq.1 z)),zam,zag]at hr;by_cases q3:B.op=3
 ·rw[if_pos q3]at hE ⊢;rw[decide_eq_true q3,zau,n1,b_neg]at hr;refine .two (fun r h hl=>zcH S ih ha (hE _ rfl) h hl) fun c H1 v H' e1 e2=>hr.trans ?_;rw[zac e1,zac e2,zac (zaK _ _)];rfl
 rw[if_neg q3]at hE ⊢;rw[decide_eq_false q3,zam,zag,zhZ,zbn,zaZ]at hr;by_cases q4:A.op=3∧A.k=0#64
 ·rw[if_pos q4]at hE ⊢;rw[decide_eq_true q4,zau]at hr;refine .one (fun r h hl=>mq_un S ih hb (hE _ rfl) h hl) fun v H' e=>hr.trans ?_;rw[zac e,zac (zaK _ _)];rfl
 rw[if_neg q4]at hE ⊢;have eab:A.op=20→((ndI L n.a).b=n.b↔A.b=B):=fun h=>Tm.eq_iff S.good (ha.b hd (pa (by omega)).2.2.1.nz) hb;have eaa:A.op=20→((ndI L n.a).a=n.b↔A.a=B):=fun h=>Tm.eq_iff S.good (ha.a hd (pa (by omega)).2.1.nz) hb;rw[decide_eq_false q4,zam,zba,ha.op hd,zaD,zag,zcl,zaD,zbn,zaZ]at hr;by_cases q5:A.op=20∧A.b=B
 ·rw[if_pos q5]at hE ⊢;rw[decide_eq_true ((cg eab).2 q5),zau,za9,zac (zaK _ _)]at hr;exact .old S (ha.a hd (pa (by omega)).2.1.nz) hr
 rw[if_neg q5]at hE ⊢;rw[decide_eq_false (fun z=>q5 ((cg eab).1 z)),zam,zba,ha.op hd,zaD,zag,za9,zaD,zbn,zaZ]at hr;by_cases q6:A.op=20∧A.a=B
 ·rw[if_pos q6]at hE ⊢;rw[decide_eq_true ((cg eaa).2 q6),zau,zcl,zac (zaK _ _)]at hr;exact .old S (ha.b hd (pa (by omega)).2.2.1.nz) hr
 rw[if_neg q6]at hE ⊢;rw[decide_eq_false (fun z=>q6 ((cg eaa).1 z)),zam,zba,hb.op hd,zaD,zag]at hr;by_cases q7:B.op=16
 ·rw[if_pos q7]at hE ⊢;rw[decide_eq_true q7,zau,za9]at hr;refine .one (fun r h hl=>ze1 S ih ha (hb.a hd (zfi hwb (by omega)).2.1.nz) (hE _ rfl) h hl) fun v H' e=>hr.trans ?_;rw[zac e,zac (zaK _ _)];rfl
 rw[if_neg q7]at hE ⊢;rw[decide_eq_false q7,zam,zac (zbq _)]at hr;exact .none S hr
theorem w_mul(hw:n.w=A.w)(h1:1≤A.w)(ho:22≤n.op∧n.op≤24)(hE:∀e,mulT n.op n.w A B=some e→EW e n.w):Rl E K k L (RR Bg [ptr E.m,n.val,wv B.k,.bool (decide (B.op=3))] H) (mulT n.op n.w A B):=by
 have hr:RR Bg [ptr E.m,n.val,wv B.k,.bool (decide (B.op=3))] H=_:=zjy E0 rfl (ptr E.m) n.val (wv B.k) (.bool (decide (B.op=3))) H;unfold zfE at hr;generalize RR Bg [ptr E.m,n.val,wv B.k,.bool (decide (B.op=3))] H=run at hr ⊢;have hd:=S.good.dag;have hws:=ha.ws S.good;have h64:=hws.w.2;have on1:=zqi (w:=n.w) (by omega) (by omega) H;rw[zb0,zag]at hr;unfold mulT at hE ⊢;by_cases q0:B.op=3
 ·rw[if_neg (fun z=>z q0)]at hE ⊢;have bd:∀(b:Bool),b=decide (b=true):=fun b=>by cases b<;>rfl
  rw[decide_eq_true q0,Bool.not_true,zam,n2,n3,zac (c_power S.tab B.k),x01,n1,n1,c_shifts (by omega) (by omega),n0,zac (zje S (by omega) ha n.op),zl3,zl2,zl1,n0,zaD,zag,zhZ,zbn,zaZ]at hr;by_cases q1:n.op=22∧B.k=0#64
  ·rw[if_pos q1]at hE ⊢;rw[decide_eq_true q1,zau,zac (zaK _ _)]at hr;exact .old S hb hr
  rw[if_neg q1]at hE ⊢;rw[decide_eq_false q1,zam,n0,zaD,zag,k_eq1,zbn,zaZ]at hr;by_cases q2:n.op=24∧B.k=1#64
  ·rw[if_pos q2]at hE ⊢;rw[decide_eq_true q2,zau,n1,u0]at hr;refine .one (fun r h hl=>ze0 S (hE _ rfl) h hl) fun v H' e=>hr.trans ?_;rw[zac e,zac (zaK _ _)];rfl
  rw[if_neg q2]at hE ⊢;rw[decide_eq_false q2,zam,k_eq1,zag]at hr;by_cases q3:B.k=1#64
  ·rw[if_pos q3]at hE ⊢;rw[decide_eq_true q3,zau,zac (zaK _ _)]at hr;exact .old S ha hr
  rw[if_neg q3]at hE ⊢;rw[decide_eq_false q3,zam,n0,zaD,zag,n1,zac on1,zgU,zbn,zaZ]at hr;by_cases q4:n.op=22∧B.k=ones n.w
  ·rw[if_pos q4]at hE ⊢;rw[decide_eq_true q4,zau]at hr;refine .one (fun r h hl=>mq_un S ih ha (hE _ rfl) h hl) fun v H' e=>hr.trans ?_;rw[zac e,zac (zaK _ _)];rfl
  rw[if_neg q4]at hE ⊢;have three:∀(o:Int) (kk:Ctl→List Value→Hp→Option (Value×Hp)),(zaG (br (decide (n.op=o)) (br (powW B.k) (some (Ctl.next,[.bool (zfm n.w)],H)) (some (.next,[(.bool false)],H))) (some (.next,[(.bool false)],H))) kk)=kk .next [.bool (decide (n.op=o∧powW B.k=true∧zfm n.w=true))] H:=fun o kk=>by
   by_cases h:n.op=o
   ·rw[decide_eq_true h,zau];cases h2:powW B.k with
    |true=>rw[zau,zay];simp[h]
    |false=>rw[zam,zay];simp
   ·rw[decide_eq_false h,zam,zay];simp[h]
  rw[decide_eq_false q4,zam,n0,zaD,zag,zag,three,zaZ]at hr;by_cases q5:n.op=22∧powW B.k=true∧zfm n.w=true
  ·rw[if_pos q5]at hE ⊢;rw[decide_eq_true q5,zau,n1]at hr;refine .two (fun r h hl=>zcH S ih ha (hE _ rfl) h hl) fun c H1 v H' e1 e2=>hr.trans ?_;rw[zac e1,zac e2,zac (zaK _ _)];rfl
  rw[if_neg q5]at hE ⊢;rw[decide_eq_false q5,zam,n0,zaD,zag,zag,three,zaZ]at hr;by_cases q6:n.op=23∧powW B.k=true∧zfm n.w=true
  ·rw[if_pos q6]at hE ⊢;rw[decide_eq_true q6,zau,n1]at hr;refine .two (fun r h hl=>zcH S ih ha (hE _ rfl) h hl) fun c H1 v H' e1 e2=>hr.trans ?_;rw[zac e1,zac e2,zac (zaK _ _)];rfl
  rw[if_neg q6]at hE ⊢;rw[decide_eq_false q6,zam,n0,zaD,zag,bd (powW B.k),zbn,zaZ]at hr;by_cases q7:n.op=24∧powW B.k=true
  ·rw[if_pos q7]at hE ⊢;rw[decide_eq_true q7,zau,n1,k_sub1]at hr;refine .two (fun r h hl=>zcH S ih ha (hE _ rfl) h hl) fun c H1 v H' e1 e2=>hr.trans ?_;rw[zac e1,zac e2,zac (zaK _ _)];rfl
  rw[if_neg q7]at hE ⊢;rw[decide_eq_false q7,zam,n0,zaD,zag]at hr;by_cases q8:n.op=22
  ·rw[decide_eq_true q8,zau,zag]at hr;rw[q8]at hr;by_cases q9:zcv 22 A=true
   ·rw[if_pos ⟨q8,q9⟩]at hE ⊢;have hq:=zal q9;rw[q9,zau,n1,if_pos hq.1,if_pos hq.1,b_mul]at hr;refine .two (fun r h hl=>zcH S ih (ha.a hd (zaX hws (by omega)).2.1.nz) (hE _ rfl) h hl) fun c H1 v H' e1 e2=>hr.trans ?_;rw[zac e1,zac e2,zac (zaK _ _)];rfl
   ·rw[if_neg (fun z=>q9 z.2)]at hE ⊢;rw[Bool.eq_false_iff.2 q9,zam,zac (zbq _)]at hr;exact .none S hr
  ·rw[if_neg (fun z=>q8 z.1)]at hE ⊢;rw[decide_eq_false q8,zam,zac (zbq _)]at hr;exact .none S hr
 ·rw[if_pos q0]at hE ⊢;rw[decide_eq_false q0,Bool.not_false,zau,zac (zbq _)]at hr;exact .none S hr
theorem w_cat(hw:n.w≤64)(hE:∀e,catT n.w A B=some e→EW e n.w):Rl E K k L (RR Bf [ptr E.m,n.val,wv A.k,.bool (decide (A.op=3))] H) (catT n.w A B):=by
 have hr:RR Bf [ptr E.m,n.val,wv A.k,.bool (decide (A.op=3))] H=_:=zjE E0 rfl (ptr E.m) n.val (wv A.k) (.bool (decide (A.op=3))) H;unfold zfK at hr;generalize RR Bf [ptr E.m,n.val,wv A.k,.bool (decide (A.op=3))] H=run at hr ⊢;have hd:=S.good.dag;have hws:=ha.ws S.good;have hwb:=hb.ws S.good;rw[zag]at hr;unfold catT at hE ⊢;by_cases q1:A.op=3∧A.k=0#64
 ·rw[if_pos q1]at hE ⊢;rw[decide_eq_true q1.1,zau,zhZ,bT q1.2,n3,n1]at hr;refine .one (fun r h hl=>mq_ext S ih hb (hE _ rfl) h hl) fun v H' e=>hr.trans ?_;rw[zac e,zac (zaK _ _),x01,zay,zcb];rfl
 rw[if_neg q1]at hE ⊢;have hskip:∀(X:Hp→Option Outc) (kk:Ctl→List Value→Hp→Option (Value×Hp)),(zaG (br (decide (A.op=3)) (pBin PP .eql Ab (wv A.k) (.int .u64 0) fun v2=>zae v2 fun b3=>br b3 (X H) (some (Ctl.next,[],H))) (some (.next,[],H))) kk)=kk .next [] H:=fun X kk=>by
  by_cases h:A.op=3
  ·rw[decide_eq_true h,zau,zhZ,bF (fun z=>q1 ⟨h,z⟩),zay]
  ·rw[decide_eq_false h,zam,zay]
 rw[hskip (fun H=>zaf 1 false (zad n.val) 3 fun v4=>zaf 1 false (zad n.val) 1 fun v5=>zab RR AT [ptr E.m,(.int .i64 32),v4,v5] H fun r6 H7=>zab RR Ac [r6] H7 fun r8 H9=>zaa r8 0 fun v10=>zaa r8 1 fun v11=>some (.ret,[(.tuple #[v10,v11])],H9)),zaR,n2,zac (t_op S (by omega) ha 31),x01,spl7,n3,zac (t_op S (by omega) hb 31),x01,spl7,zag,zag]at hr;by_cases q2:A.op=31
 ·rw[decide_eq_true q2,zau]at hr;obtain⟨_,a1,a2,a3,a4⟩:=zof hws q2;by_cases q3:B.op=31
  ·obtain⟨_,b1,b2,b3,b4⟩:=zof hwb q3;have aw:=a1.w;have bw:=b1.w;have ta:=ha.a hd a1.nz;have tb:=hb.a hd b1.nz;have heq:=Tm.eq_iff S.good ta tb;have na:=ha.num hd;have nb:=hb.num hd;have u1:IntKind.u64.wrap B.w=B.w:=Go.AM.zdH (by omega) (by omega);have u2:IntKind.u64.wrap (B.num+B.w)=B.num+B.w:=Go.AM.zdH (by omega) (by omega);have u3:IntKind.i64.wrap B.num=B.num:=zaV (by omega) (by omega);rw[decide_eq_true q3,zau,za9,za9,zaD,zag]at hr;by_cases q4:A.a=B.a
   ·rw[decide_eq_true (heq.2 q4),zau,zho,zho,zeZ,na,nb,hb.w hd,zdt,u1,zbM,u2,zaD,zay,zaZ]at hr;by_cases q5:A.num=B.num+B.w
    ·rw[if_pos ⟨q2,q3,q4,q5⟩]at hE ⊢;rw[decide_eq_true q5,zau,za9,zho,nb,zdt,u3,n1]at hr;refine .one (fun r h hl=>zhq S ih tb (hE _ rfl) h hl) fun v H' e=>hr.trans ?_;rw[zac e,zac (zaK _ _)];rfl
    ·rw[if_neg (fun z=>q5 z.2.2.2)]at hE ⊢;rw[decide_eq_false q5,zam,zac (zbq _)]at hr;exact .none S hr
   ·rw[if_neg (fun z=>q4 z.2.2.1)]at hE ⊢;rw[decide_eq_false (fun z=>q4 (heq.1 z)),zam,zay,zaZ,zam,zac (zbq _)]at hr;exact .none S hr
  ·rw[if_neg (fun z=>q3 z.2.1)]at hE ⊢;rw[decide_eq_false q3,zam,zay,zaZ,zam,zac (zbq _)]at hr;exact .none S hr
 ·rw[if_neg (fun z=>q2 z.1)]at hE ⊢;rw[decide_eq_false q2,zam,zay,zaZ,zam,zac (zbq _)]at hr;exact .none S hr
theorem w_shift(hw:n.w=A.w)(h1:1≤A.w)(ho:25≤n.op∧n.op≤29)(hE:∀e,zdJ n.op n.w A B=some e→EW e n.w):Rl E K k L (RR AY [ptr E.m,n.val,wv A.k,.bool (decide (A.op=3)),wv B.k,.bool (decide (B.op=3))] H) (zdJ n.op n.w A B):=by
 have hr:RR AY [ptr E.m,n.val,wv A.k,.bool (decide (A.op=3)),wv B.k,.bool (decide (B.op=3))] H=_:=zhO E0 rfl (ptr E.m) n.val (wv A.k) (.bool (decide (A.op=3))) (wv B.k) (.bool (decide (B.op=3))) H;unfold zew at hr;generalize RR AY [ptr E.m,n.val,wv A.k,.bool (decide (A.op=3)),wv B.k,.bool (decide (B.op=3))] H=run at hr ⊢;have hd:=S.good.dag;have hws:=ha.ws S.good;have h64:=hws.w.2;have hwv:∀{α:Type} (k:Value→Option α),zav .u64 (.int .i64 n.w) k=k (wv (BitVec.ofNat 64 n.w.toNat)):=fun k=>by rw[zdt,Go.AM.zdH (by omega) (by omega)];congr 1;show (Value.int .u64 _)=.int .u64 _;congr 1;rw[BitVec.toNat_ofNat,Nat.mod_eq_of_lt (by omega)];omega
 have wnat:(BitVec.ofNat 64 n.w.toNat).toNat=n.w.toNat:=by rw[BitVec.toNat_ofNat,Nat.mod_eq_of_lt (by omega)]
 have wne:BitVec.ofNat 64 n.w.toNat≠0#64:=fun z=>by have:=congrArg BitVec.toNat z;rw[wnat]at this;have:n.w.toNat=0:=this;omega
 have rem:∀x:W64,x%BitVec.ofNat 64 n.w.toNat=BitVec.ofNat 64 (x.toNat%n.w.toNat):=fun x=>by apply BitVec.eq_of_toNat_eq;have:=Nat.mod_lt x.toNat (show 0<n.w.toNat by omega);rw[BitVec.toNat_umod,wnat,BitVec.toNat_ofNat,Nat.mod_eq_of_lt (b:=2^64) (by omega)]
 rw[n2,n1,hwv,n0,zac (zje S (by omega) ha n.op),zl3,zl2,zl1,zag,zhZ,zbn,zaZ]at hr;unfold zdJ at hE ⊢;by_cases q1:A.op=3∧A.k=0#64
 ·rw[if_pos q1]at hE ⊢;rw[decide_eq_true q1,zau,zac (zaK _ _)]at hr;exact .old S ha hr
 rw[if_neg q1]at hE ⊢;rw[decide_eq_false q1,zam,zb0,zag]at hr;by_cases q2:B.op=3
 ·rw[if_neg (fun z=>z q2)]at hE ⊢;rw[decide_eq_true q2,Bool.not_true,zam,b_geq,wnat,zag]at hr;by_cases q3:B.k.toNat≥n.w.toNat
  ·rw[if_pos q3]at hE ⊢;rw[decide_eq_true (show n.w.toNat≤B.k.toNat from q3),zau,n0,n1,b_rem _ wne,rem]at hr;refine .two (fun r h hl=>zcH S ih ha (hE _ rfl) h hl) fun c H1 v H' e1 e2=>hr.trans ?_;rw[zac e1,zac e2,zac (zaK _ _)];rfl
  rw[if_neg q3]at hE ⊢;rw[decide_eq_false (show ¬n.w.toNat≤B.k.toNat from q3),zam,zhZ,zag]at hr;by_cases q4:B.k=0#64
  ·rw[if_pos q4]at hE ⊢;rw[decide_eq_true q4,zau,zac (zaK _ _)]at hr;exact .old S ha hr
  rw[if_neg q4]at hE ⊢;have sh:∀(kk:Ctl→List Value→Hp→Option (Value×Hp)),(zaG (br (decide (n.op=25)) (some (Ctl.next,[.bool (zcv n.op A)],H)) (zaf 1 false (zad n.val) 0 fun v49=>pBin PP .eql Aa v49 (.int .i64 26) fun v50=>zae v50 fun b51=>br b51 (some (.next,[.bool (zcv n.op A)],H)) (some (.next,[(.bool false)],H)))) kk)=kk .next [.bool (decide ((n.op=25∨n.op=26)∧zcv n.op A=true))] H:=fun kk=>by
   by_cases h:n.op=25
   ·rw[decide_eq_true h,zau,zay];simp[h]
   ·rw[decide_eq_false h,zam,n0,zaD,zag];by_cases h2:n.op=26
    ·rw[decide_eq_true h2,zau,zay];simp[h2]
    ·rw[decide_eq_false h2,zam,zay];simp[h,h2]
  rw[decide_eq_false q4,zam,n0,zaD,zag,sh,zaZ]at hr;by_cases q5:(n.op=25∨n.op=26)∧zcv n.op A=true
  ·rw[if_pos q5]at hE ⊢;have hq:=zal q5.2;rw[decide_eq_true q5,zau,if_pos hq.1,if_pos hq.1,b_add,b_geq,wnat,zag]at hr;by_cases q6:(B.k+A.b.k).toNat≥n.w.toNat
   ·rw[if_pos q6]at hE ⊢;rw[decide_eq_true (show n.w.toNat≤_ from q6),zau,n1,u0]at hr;refine .one (fun r h hl=>ze0 S (hE _ rfl) h hl) fun v H' e=>hr.trans ?_;rw[zac e,zac (zaK _ _)];rfl
   ·rw[if_neg q6]at hE ⊢;rw[decide_eq_false (show ¬n.w.toNat≤_ from q6),zam,n0,n1,b_add]at hr;refine .two (fun r h hl=>zcH S ih (ha.a hd (zaX hws (by omega)).2.1.nz) (hE _ rfl) h hl) fun c H1 v H' e1 e2=>hr.trans ?_;rw[zac e1,zac e2,zac (zaK _ _)];rfl
  rw[if_neg q5]at hE ⊢;rw[decide_eq_false q5,zam,n0,zaD,zag,show zcv n.op A=decide (zcv n.op A=true) by simp,zbn,zaZ]at hr;by_cases q6:n.op=28
  ·rw[q6]at hr hE ⊢;by_cases q7:zcv 28 A=true
   ·rw[if_pos ⟨rfl,q7⟩]at hE ⊢;have hq:=zal q7;rw[decide_eq_true (show (28:Int)=28∧zcv 28 A=true from⟨rfl,q7⟩),zau,n0,q6,n1,if_pos hq.1,if_pos hq.1,b_add,b_rem _ wne,rem]at hr;refine .two (fun r h hl=>zcH S ih (ha.a hd (zaX hws (by omega)).2.1.nz) (hE _ rfl) h hl) fun c H1 v H' e1 e2=>hr.trans ?_;rw[zac e1,zac e2,zac (zaK _ _)];rfl
   ·rw[if_neg (fun z=>q7 z.2),if_neg (by decide)]at hE ⊢;rw[decide_eq_false (fun z:(28:Int)=28∧zcv 28 A=true=>q7 z.2),zam,n0,q6,eF (by decide),zac (zbq _)]at hr;exact .none S hr
  rw[if_neg (fun z=>q6 z.1)]at hE ⊢;rw[decide_eq_false (fun z=>q6 z.1),zam,n0,zaD,zag]at hr;by_cases q7:n.op=29
  ·rw[if_pos q7]at hE ⊢;rw[decide_eq_true q7,zau,n1,b_sub]at hr;refine .two (fun r h hl=>zcH S ih ha (hE _ rfl) h hl) fun c H1 v H' e1 e2=>hr.trans ?_;rw[zac e1,zac e2,zac (zaK _ _)];rfl
  ·rw[if_neg q7]at hE ⊢;rw[decide_eq_false q7,zam,zac (zbq _)]at hr;exact .none S hr
 ·rw[if_pos q2]at hE ⊢;rw[decide_eq_false q2,Bool.not_false,zau,zac (zbq _)]at hr;exact .none S hr
end
end Go.AM.N14
namespace Go.AM.N14
open Go Go.AM
section
variable {E:Env}{K:List (ByteArray×Int)}{H:Hp}{L:List Nd}(S:MS E H L K)(hL:L.length+2≤2^40){k:Nat}(ih:MkIH K k){n:Nd}{A B C:Tr}(ha:Tm L n.a A)
include S hL ih ha
theorem w_slice(h0:0≤n.num)(h1:1≤n.w)(hw:n.num+n.w≤A.w)(hE:∀e,zdI n.w n.num A=some e→EW e n.w):Rl E K k L (RR A7 [ptr E.m,n.val] H) (zdI n.w n.num A):=by
 have hr:RR A7 [ptr E.m,n.val] H=_:=zhN E0 rfl (ptr E.m) n.val H;unfold zev at hr;generalize RR A7 [ptr E.m,n.val] H=run at hr ⊢;have hd:=S.good.dag;have hws:=ha.ws S.good;have h64:=hws.w.2;have u1:IntKind.i64.wrap n.num=n.num:=zaV (by omega) (by omega);rw[n5,zdt,u1,n2,zac (t_n S (by omega) ha),spl7,zba,ha.op hd,zaD,zag]at hr;unfold zdI at hE ⊢;by_cases q1:A.op=3
 ·rw[if_pos q1]at hE ⊢;have hs:RR Bp [.int .i64 A.w,wv A.k,.int .i64 n.num,.int .i64 n.w] H=some (.tuple #[wv (sliceW A.w.toNat A.k n.num.toNat n.w.toNat),.int .i64 0],H):=by have:=p_slice (n:=A.w.toNat) (i:=n.num.toNat) (m:=n.w.toNat) (by omega) (by omega) (by omega) (by omega) A.k H;rwa [wn (by omega),wn h1,show ((n.num.toNat:Nat):Int)=n.num by omega]at this
  rw[decide_eq_true q1,zau,zeZ,ha.w hd,zho,k_of S ⟨by have:=ha.lo;omega,ha.hi⟩ ha.is,n1,zac hs,x01,n1]at hr;refine .one (fun r h hl=>ze0 S (hE _ rfl) h hl) fun v H' e=>hr.trans ?_;rw[zac e,zac (zaK _ _)];rfl
 rw[if_neg q1]at hE ⊢;rw[decide_eq_false q1,zam,n1,zeZ,ha.w hd,zaD,zag]at hr;by_cases q2:n.w=A.w
 ·rw[if_pos q2]at hE ⊢;rw[decide_eq_true q2,zau,n2,zac (zaK _ _)]at hr;exact .old S ha hr
 rw[if_neg q2]at hE ⊢;rw[decide_eq_false q2,zam,zba,ha.op hd,zaD,zag]at hr;by_cases q3:A.op=31
 ·rw[if_pos q3]at hE ⊢;obtain⟨_,a1,a2,a3,a4⟩:=zof hws q3;have a5:=a1.w;have u2:IntKind.i64.wrap A.num=A.num:=zaV (by omega) (by omega);have u3:IntKind.i64.wrap (A.num+n.num)=A.num+n.num:=zaV (by omega) (by omega);rw[decide_eq_true q3,zau,za9,zho,ha.num hd,zdt,u2,zbM,u3,n1]at hr;refine .one (fun r h hl=>zhq S ih (ha.a hd a1.nz) (hE _ rfl) h hl) fun v H' e=>hr.trans ?_;rw[zac e,zac (zaK _ _)];rfl
 rw[if_neg q3]at hE ⊢;rw[decide_eq_false q3,zam,zba,ha.op hd,zaD,zag]at hr;have u4:IntKind.i64.wrap (n.num+n.w)=n.num+n.w:=zaV (by omega) (by omega);by_cases q4:A.op=30
 ·obtain⟨_,a1,a2,a3,a4,a5,a6⟩:=zh8 hws q4;have tb:=ha.b hd a2.nz;have ta:=ha.a hd a1.nz;rw[decide_eq_true q4,zau,zcl,zac (t_n S (by omega) tb),zeI,tb.w hd,n1,zbM,u4,zl4,zag]at hr;by_cases q5:n.num+n.w≤A.b.w
  ·rw[if_pos ⟨q4,q5⟩]at hE ⊢;rw[decide_eq_true q5,zau,zcl,n1]at hr;refine .one (fun r h hl=>zhq S ih tb (hE _ rfl) h hl) fun v H' e=>hr.trans ?_;rw[zac e,zac (zaK _ _)];rfl
  rw[if_neg (fun z=>q5 z.2)]at hE ⊢;rw[decide_eq_false q5,zam,zeJ,zag]at hr;by_cases q6:n.num≥A.b.w
  ·rw[if_pos ⟨q4,q6⟩]at hE ⊢;have u5:IntKind.i64.wrap (n.num-A.b.w)=n.num-A.b.w:=zaV (by omega) (by omega);rw[decide_eq_true q6,zau,za9,zd8,u5,n1]at hr;refine .one (fun r h hl=>zhq S ih ta (hE _ rfl) h hl) fun v H' e=>hr.trans ?_;rw[zac e,zac (zaK _ _)];rfl
  rw[if_neg (fun z=>q6 z.2),if_neg (fun z=>by omega),if_neg (fun z=>by omega)]at hE ⊢;rw[decide_eq_false q6,zam,zac (zbq _)]at hr;exact .none S hr
 rw[if_neg (fun z=>q4 z.1),if_neg (fun z=>q4 z.1)]at hE ⊢;rw[decide_eq_false q4,zam,zba,ha.op hd,zaD,zag]at hr;by_cases q5:A.op=32
 ·obtain⟨_,a1,a2,a3,a4,a5⟩:=zfq hws (by omega);have ta:=ha.a hd a1.nz;rw[decide_eq_true q5,zau,za9,zac (t_n S (by omega) ta),zeI,ta.w hd,n1,zbM,u4,zl4,zag]at hr;by_cases q6:n.num+n.w≤A.a.w
  ·rw[if_pos ⟨q5,q6⟩]at hE ⊢;rw[decide_eq_true q6,zau,za9,n1]at hr;refine .one (fun r h hl=>zhq S ih ta (hE _ rfl) h hl) fun v H' e=>hr.trans ?_;rw[zac e,zac (zaK _ _)];rfl
  rw[if_neg (fun z=>q6 z.2)]at hE ⊢;rw[decide_eq_false q6,zam,zeJ,zag]at hr;by_cases q7:n.num≥A.a.w
  ·rw[if_pos ⟨q5,q7⟩]at hE ⊢;rw[decide_eq_true q7,zau,n1,u0]at hr;refine .one (fun r h hl=>ze0 S (hE _ rfl) h hl) fun v H' e=>hr.trans ?_;rw[zac e,zac (zaK _ _)];rfl
  rw[if_neg (fun z=>q7 z.2)]at hE ⊢;rw[decide_eq_false q7,zam,zac (zbq _)]at hr;exact .none S hr
 rw[if_neg (fun z=>q5 z.1),if_neg (fun z=>q5 z.1)]at hE ⊢;rw[decide_eq_false q5,zam,zac (zbq _)]at hr;exact .none S hr
theorem w_ext(ho:n.op=32∨n.op=33)(h1:1≤A.w)(hw:A.w≤n.w)(h64:n.w≤64)(hE:∀e,extT n.op n.w A=some e→EW e n.w):Rl E K k L (RR AX [ptr E.m,n.val] H) (extT n.op n.w A):=by
 have hr:RR AX [ptr E.m,n.val] H=_:=zjA E0 rfl (ptr E.m) n.val H;unfold zfG at hr;generalize RR AX [ptr E.m,n.val] H=run at hr ⊢;have hd:=S.good.dag;have hws:=ha.ws S.good;rw[n2,zac (t_n S (by omega) ha),spl7,zba,ha.op hd,zaD,zag]at hr;unfold extT at hE ⊢;by_cases q1:A.op=3
 ·rw[if_pos q1]at hE ⊢;have hs:RR A3 [.int .i64 n.op,.int .i64 A.w,wv A.k,.int .i64 n.w] H=some (.tuple #[wv (extW n.op A.w.toNat A.k n.w.toNat),.int .i64 0],H):=by have:=p_ext ho (n:=A.w.toNat) (m:=n.w.toNat) (by omega) (by omega) (by omega) A.k H;rwa [wn (by omega),wn (by omega)]at this
  rw[decide_eq_true q1,zau,n0,zeZ,ha.w hd,zho,k_of S ⟨by have:=ha.lo;omega,ha.hi⟩ ha.is,n1,zac hs,x01,n1]at hr;refine .one (fun r h hl=>ze0 S (hE _ rfl) h hl) fun v H' e=>hr.trans ?_;rw[zac e,zac (zaK _ _)];rfl
 rw[if_neg q1]at hE ⊢;rw[decide_eq_false q1,zam,n1,zeZ,ha.w hd,zaD,zag]at hr;by_cases q2:n.w=A.w
 ·rw[if_pos q2]at hE ⊢;rw[decide_eq_true q2,zau,n2,zac (zaK _ _)]at hr;exact .old S ha hr
 rw[if_neg q2]at hE ⊢;rw[decide_eq_false q2,zam,zba,ha.op hd,n0,zaD,zag]at hr;by_cases q3:A.op=n.op
 ·rw[if_pos q3]at hE ⊢;rw[decide_eq_true q3,zau,n0,za9,n1]at hr;refine .one (fun r h hl=>mq_ext S ih (ha.a hd (zfq hws (by omega)).2.1.nz) (hE _ rfl) h hl) fun v H' e=>hr.trans ?_;rw[zac e,zac (zaK _ _)];rfl
 rw[if_neg q3]at hE ⊢;rw[decide_eq_false q3,zam,n0,zaD,zag]at hr;by_cases q4:n.op=33
 ·rw[decide_eq_true q4,zau,zba,ha.op hd,zaD,zag]at hr;by_cases q5:A.op=32
  ·rw[if_pos ⟨q4,q5⟩]at hE ⊢;rw[decide_eq_true q5,zau,za9,n1]at hr;refine .one (fun r h hl=>mq_ext S ih (ha.a hd (zfq hws (by omega)).2.1.nz) (hE _ rfl) h hl) fun v H' e=>hr.trans ?_;rw[zac e,zac (zaK _ _)];rfl
  ·rw[if_neg (fun z=>q5 z.2)]at hE ⊢;rw[decide_eq_false q5,zam,zac (zbq _)]at hr;exact .none S hr
 ·rw[if_neg (fun z=>q4 z.1)]at hE ⊢;rw[decide_eq_false q4,zam,zac (zbq _)]at hr;exact .none S hr
theorem w_less(hb:Tm L n.b B)(ho:10≤n.op∧n.op≤13)(h1:1≤A.w)(hE:∀e,zge n.op A B=some e→EW e 0):Rl E K k L (RR A6 [ptr E.m,n.val] H) (zge n.op A B):=by
 have hr:RR A6 [ptr E.m,n.val] H=_:=ziE E0 rfl (ptr E.m) n.val H;unfold ze7 at hr;generalize RR A6 [ptr E.m,n.val] H=run at hr ⊢;have hd:=S.good.dag;have hws:=ha.ws S.good;have h64:=hws.w.2;have heq:=Tm.eq_iff S.good ha hb;have on1:=zqi h1 h64 H;have hcmp:RR Bn [.int .i64 n.op,.int .i64 A.w,wv A.k,wv B.k] H=some (.tuple #[.bool (cmpW n.op A.w.toNat A.k B.k),.int .i64 0],H):=by have:=p_cmp (op:=n.op) (by omega) (n:=A.w.toNat) (by omega) (by omega) A.k B.k H;rwa [wn h1]at this
 rw[n2,n3,n0,zaD,zag]at hr;unfold zge at hE ⊢;by_cases q1:n.op=11
 ·rw[if_pos q1]at hE ⊢;rw[decide_eq_true q1,zau]at hr;refine .two (fun r h hl=>zhX S ih hb ha (hE _ rfl) h hl) fun c H1 v H' e1 e2=>hr.trans ?_;rw[zac e1,zac e2,zac (zaK _ _)];rfl
 rw[if_neg q1]at hE ⊢;rw[decide_eq_false q1,zam,zaD,zag]at hr;by_cases q2:n.op=13
 ·rw[if_pos q2]at hE ⊢;rw[decide_eq_true q2,zau]at hr;refine .two (fun r h hl=>zhX S ih hb ha (hE _ rfl) h hl) fun c H1 v H' e1 e2=>hr.trans ?_;rw[zac e1,zac e2,zac (zaK _ _)];rfl
 rw[if_neg q2]at hE ⊢;rw[decide_eq_false q2,zam,zac (t_n S (by omega) ha),zeI,ha.w hd,zac (t_k S (by omega) ha),x01,zac (t_k S (by omega) hb),x01,zaD,zag]at hr;by_cases q3:A=B
 ·rw[if_pos q3]at hE ⊢;rw[decide_eq_true (heq.2 q3),zau]at hr;refine .one (fun r h hl=>zdP S h hl) fun v H' e=>hr.trans ?_;rw[zac e,zac (zaK _ _)];rfl
 rw[if_neg q3]at hE ⊢;rw[decide_eq_false (fun z=>q3 (heq.1 z)),zam,zag,zbn,zaZ]at hr;by_cases q4:A.op=3∧B.op=3
 ·rw[if_pos q4]at hE ⊢;rw[decide_eq_true q4,zau,n0,zac hcmp,x01]at hr;refine .one (fun r h hl=>zdP S h hl) fun v H' e=>hr.trans ?_;rw[zac e,zac (zaK _ _)];rfl
 rw[if_neg q4]at hE ⊢;rw[decide_eq_false q4,zam,n0,zaD,zag]at hr;by_cases q5:n.op=12
 ·rw[if_pos q5]at hE ⊢;rw[decide_eq_true q5,zau,zac (zbq _)]at hr;exact .none S hr
 rw[if_neg q5]at hE ⊢;rw[decide_eq_false q5,zam,zag,zhZ,zbn,zaZ]at hr;by_cases q6:B.op=3∧B.k=0#64
 ·rw[if_pos q6]at hE ⊢;rw[decide_eq_true q6,zau]at hr;refine .one (fun r h hl=>zdP S h hl) fun v H' e=>hr.trans ?_;rw[zac e,zac (zaK _ _)];rfl
 rw[if_neg q6]at hE ⊢;rw[decide_eq_false q6,zam,zag,zhZ,zbn,zaZ]at hr;by_cases q7:A.op=3∧A.k=0#64
 ·rw[if_pos q7]at hE ⊢;rw[decide_eq_true q7,zau]at hr;refine .two (fun r h hl=>zhX S ih hb ha (hE _ rfl) h hl) fun c H1 v H' e1 e2=>hr.trans ?_;rw[zac e1,zac e2,zac (zaK _ _)];rfl
 rw[if_neg q7]at hE ⊢;rw[decide_eq_false q7,zam,zag,k_eq1,zbn,zaZ]at hr;by_cases q8:B.op=3∧B.k=1#64
 ·rw[if_pos q8]at hE ⊢;rw[decide_eq_true q8,zau,u0]at hr;refine .two (fun r h hl=>zcH S ih ha (hE _ rfl) h hl) fun c H1 v H' e1 e2=>hr.trans ?_;rw[zac e1,zac e2,zac (zaK _ _)];rfl
 rw[if_neg q8]at hE ⊢;rw[decide_eq_false q8,zam,zag,zac on1,zgU,zbn,zaZ]at hr;by_cases q9:A.op=3∧A.k=ones A.w
 ·rw[if_pos q9]at hE ⊢;rw[decide_eq_true q9,zau]at hr;refine .one (fun r h hl=>zdP S h hl) fun v H' e=>hr.trans ?_;rw[zac e,zac (zaK _ _)];rfl
 rw[if_neg q9]at hE ⊢;rw[decide_eq_false q9,zam,zag]at hr;by_cases q10:B.op=3
 ·rw[decide_eq_true q10,zau,zac on1,zgU,zag]at hr;by_cases q11:B.k=ones A.w
  ·rw[if_pos ⟨q10,q11⟩]at hE ⊢;rw[decide_eq_true q11,zau]at hr;refine .two (fun r h hl=>zhX S ih ha hb (hE _ rfl) h hl) fun c H1 v H' e1 e2=>hr.trans ?_;rw[zac e1,zac e2,zac (zaK _ _)];rfl
  ·rw[if_neg (fun z=>q11 z.2)]at hE ⊢;rw[decide_eq_false q11,zam,zac (zbq _)]at hr;exact .none S hr
 ·rw[if_neg (fun z=>q10 z.1)]at hE ⊢;rw[decide_eq_false q10,zam,zac (zbq _)]at hr;exact .none S hr
end
theorem n7{α:Type}(n:Nd)(k:Value→Option α):zaf 7 true (zad n.val) 0 k=k n.val:=rfl
theorem brd_or3{β:Type}(p q r:Prop) [Decidable p] [Decidable q] [Decidable r](H:Hp)(kk:Ctl→List Value→Hp→Option β):zaG (br (decide p) (some (Ctl.next,[.bool (decide p)],H)) (br (decide q) (some (Ctl.next,[.bool (decide q)],H)) (some (.next,[.bool (decide r)],H)))) kk=kk .next [.bool (decide (p∨q∨r))] H:=by
 by_cases h:p
 ·rw[decide_eq_true h,zau,zay];simp[h]
 ·rw[decide_eq_false h,zam,brd_or];simp[h]
theorem brd_or5{β:Type}(p q r s t:Prop) [Decidable p] [Decidable q] [Decidable r] [Decidable s] [Decidable t](H:Hp)(kk:Ctl→List Value→Hp→Option β):zaG (br (decide p) (some (Ctl.next,[.bool (decide p)],H)) (br (decide q) (some (Ctl.next,[.bool (decide q)],H)) (br (decide r) (some (Ctl.next,[.bool (decide r)],H)) (br (decide s) (some (Ctl.next,[.bool (decide s)],H)) (some (.next,[.bool (decide t)],H)))))) kk=kk .next [.bool (decide (p∨q∨r∨s∨t))] H:=by
 by_cases h:p
 ·rw[decide_eq_true h,zau,zay];simp[h]
 by_cases h2:q
 ·rw[decide_eq_false h,zam,decide_eq_true h2,zau,zay];simp[h,h2]
 rw[decide_eq_false h,zam,decide_eq_false h2,zam,brd_or3];simp[h,h2]
theorem brd_both{β:Type}(p q:Prop) [Decidable p] [Decidable q](H:Hp)(x:Option Outc)(kk:Ctl→List Value→Hp→Option β):zaG (br (decide p) (br (decide q) x (some (.next,[],H))) (some (.next,[],H))) kk=zaG (br (decide (p∧q)) x (some (.next,[],H))) kk:=by
 by_cases h:p
 ·rw[decide_eq_true h,zau];simp[h]
 ·rw[decide_eq_false h,zam];simp only[h,false_and,decide_false];rw[zam]
section
variable {E:Env}{K:List (ByteArray×Int)}{H:Hp}{L:List Nd}(S:MS E H L K)(hL:L.length+2≤2^40){k:Nat}(ih:MkIH K k){n:Nd}{A B C:Tr}(ha:Tm L n.a A)(hb:Tm L n.b B)
include S hL ih ha hb
theorem w_ite(hc:Tm L n.c C)(hE:∀e,iteT n.w A B C=some e→EW e n.w):Rl E K k L (RR A5 [ptr E.m,n.val] H) (iteT n.w A B C):=by
 have hr:RR A5 [ptr E.m,n.val] H=_:=zjz E0 rfl (ptr E.m) n.val H;unfold zfF at hr;generalize RR A5 [ptr E.m,n.val] H=run at hr ⊢;have hd:=S.good.dag;have hwa:=ha.ws S.good;have hwb:=hb.ws S.good;have hwc:=hc.ws S.good;have ebc:=Tm.eq_iff S.good hb hc;have eba:=Tm.eq_iff S.good hb ha;have eca:=Tm.eq_iff S.good hc ha;rw[n2,n3,n4,zac (zqq S (by omega) ha),zag,zaD,zag]at hr;unfold iteT at hE ⊢;by_cases q0:A.op=1∨B=C
 ·rw[if_pos q0]at hE ⊢;refine .old S hb (hr.trans ?_);by_cases q1:A.op=1
  ·rw[decide_eq_true q1,zau,zac (zaK _ _),x01,zay,zcb];rfl
  ·rw[decide_eq_false q1,zam,decide_eq_true (ebc.2 (q0.resolve_left q1)),zau,zac (zaK _ _),x01,zay,zcb];rfl
 rw[if_neg q0]at hE ⊢;rw[decide_eq_false (fun z=>q0 (.inl z)),zam,decide_eq_false (fun z=>q0 (.inr (ebc.1 z))),zam,zay,zaR,zac (zqr S (by omega) ha),zag]at hr;by_cases q2:A.op=2
 ·rw[if_pos q2]at hE ⊢;rw[decide_eq_true q2,zau,zac (zaK _ _)]at hr;exact .old S hc hr
 rw[if_neg q2]at hE ⊢;rw[decide_eq_false q2,zam,zac (t_op S (by omega) ha 5),x01,spl7,zag]at hr;by_cases q3:A.op=5
 ·rw[if_pos q3]at hE ⊢;rw[decide_eq_true q3,zau,za9]at hr;refine .one (fun r h hl=>mq_ite S ih (ha.a hd (zfp hwa q3).2.1.nz) hc hb (hE _ rfl) h hl) fun v H' e=>hr.trans ?_;rw[zac e,zac (zaK _ _)];rfl
 rw[if_neg q3]at hE ⊢;rw[decide_eq_false q3,zam,n1,zaD,zag]at hr;have last2:∀{x:Option (Value×Hp)},x=(zab RR Ap [ptr E.m,(.int .i64 n.c),(.int .i64 14)] H fun r124 H125=>zaa r124 0 fun v126=>zaa r124 1 fun v127=>zaE 7 [.int .i64 0,.int .i64 0,.int .i64 0,.int .i64 0,.int .i64 0,.int .u64 0,.string ⟨#[]⟩] 0 v126 fun c128=>zae v127 fun b129=>br b129 (zaf 1 false c128 2 fun v130=>pBin PP .eql Aa v130 (.int .i64 n.a) fun v131=>zae v131 fun b132=>br b132 (zaf 1 false c128 4 fun v133=>zab RR AA [ptr E.m,(.int .i64 n.a),(.int .i64 n.b),v133] H125 fun r134 H135=>zab RR Ac [r134] H135 fun r136 H137=>zaa r136 0 fun v138=>zaa r136 1 fun v139=>some ((.tuple #[v138,v139]),H137)) (zab RR Ad [] H125 fun r140 H141=>zaa r140 0 fun v142=>zaa r140 1 fun v143=>some ((.tuple #[v142,v143]),H141))) (zab RR Ad [] H125 fun r144 H145=>zaa r144 0 fun v146=>zaa r144 1 fun v147=>some ((.tuple #[v146,v147]),H145))) →
   (∀e,(if C.op=14∧C.a=A then some (.ite (.old A) (.old B) (.old C.c)) else none)=some e→EW e n.w)→Rl E K k L x (if C.op=14∧C.a=A then some (.ite (.old A) (.old B) (.old C.c)) else none):=fun {x} hr hE=>by
  rw[zac (t_op S (by omega) hc 14),x01,spl7,zag]at hr;by_cases q6:C.op=14
  ·have hcc:=zjb hwc q6;have tca:=hc.a hd hcc.2.1.nz;have tcc:=hc.c hd hcc.2.2.2.1.nz;have e1:=Tm.eq_iff S.good tca ha;rw[decide_eq_true q6,zau,za9,zaD,zag]at hr;by_cases q7:C.a=A
   ·rw[if_pos ⟨q6,q7⟩]at hE ⊢;rw[decide_eq_true (e1.2 q7),zau,zny]at hr;refine .one (fun r h hl=>mq_ite S ih ha hb tcc (hE _ rfl) h hl) fun v H' e=>hr.trans ?_;rw[zac e,zac (zaK _ _)];rfl
   ·rw[if_neg (fun z=>q7 z.2)]at hE ⊢;rw[decide_eq_false (fun z=>q7 (e1.1 z)),zam,zac (zbq _)]at hr;exact .none S hr
  ·rw[if_neg (fun z=>q6 z.1)]at hE ⊢;rw[decide_eq_false q6,zam,zac (zbq _)]at hr;exact .none S hr
 have last:∀{x:Option (Value×Hp)},x=(zaG ( zab RR Ap [ptr E.m,(.int .i64 n.b),(.int .i64 14)] H fun r104 H105=>zaa r104 0 fun v106=>zaa r104 1 fun v107=>zaE 7 [.int .i64 0,.int .i64 0,.int .i64 0,.int .i64 0,.int .i64 0,.int .u64 0,.string ⟨#[]⟩] 0 v106 fun c108=>zae v107 fun b109=>br b109 (zaf 1 false c108 2 fun v110=>pBin PP .eql Aa v110 (.int .i64 n.a) fun v111=>zae v111 fun b112=>br b112 (zaf 1 false c108 3 fun v113=>zab RR AA [ptr E.m,(.int .i64 n.a),v113,(.int .i64 n.c)] H105 fun r114 H115=>zab RR Ac [r114] H115 fun r116 H117=>zaa r116 0 fun v118=>zaa r116 1 fun v119=>some (.ret,[(.tuple #[v118,v119])],H117)) (some (.next,[],H105))) (some (.next,[],H105))) fun q120 l121 H122=>zaM q120 (zab RR Ap [ptr E.m,(.int .i64 n.c),(.int .i64 14)] H122 fun r124 H125=>zaa r124 0 fun v126=>zaa r124 1 fun v127=>zaE 7 [.int .i64 0,.int .i64 0,.int .i64 0,.int .i64 0,.int .i64 0,.int .u64 0,.string ⟨#[]⟩] 0 v126 fun c128=>zae v127 fun b129=>br b129 (zaf 1 false c128 2 fun v130=>pBin PP .eql Aa v130 (.int .i64 n.a) fun v131=>zae v131 fun b132=>br b132 (zaf 1 false c128 4 fun v133=>zab RR AA [ptr E.m,(.int .i64 n.a),(.int .i64 n.b),v133] H125 fun r134 H135=>zab RR Ac [r134] H135 fun r136 H137=>zaa r136 0 fun v138=>zaa r136 1 fun v139=>some ((.tuple #[v138,v139]),H137)) (zab RR Ad [] H125 fun r140 H141=>zaa r140 0 fun v142=>zaa r140 1 fun v143=>some ((.tuple #[v142,v143]),H141))) (zab RR Ad [] H125 fun r144 H145=>zaa r144 0 fun v146=>zaa r144 1 fun v147=>some ((.tuple #[v146,v147]),H145))) (fun i123=>none) (some ((l121.headD undef),H122))) →
   (∀e,(if B.op=14∧B.a=A then some (.ite (.old A) (.old B.b) (.old C)) else if C.op=14∧C.a=A then some (.ite (.old A) (.old B) (.old C.c)) else none)=some e→EW e n.w)→Rl E K k L x (if B.op=14∧B.a=A then some (.ite (.old A) (.old B.b) (.old C)) else if C.op=14∧C.a=A then some (.ite (.old A) (.old B) (.old C.c)) else none):=fun {x} hr hE=>by
  rw[zac (t_op S (by omega) hb 14),x01,spl7,zag]at hr;by_cases q4:B.op=14
  ·have hbb:=zjb hwb q4;have tba:=hb.a hd hbb.2.1.nz;have tbb:=hb.b hd hbb.2.2.1.nz;have e1:=Tm.eq_iff S.good tba ha;rw[decide_eq_true q4,zau,za9,zaD,zag]at hr;by_cases q5:B.a=A
   ·rw[if_pos ⟨q4,q5⟩]at hE ⊢;rw[decide_eq_true (e1.2 q5),zau,zcl]at hr;refine .one (fun r h hl=>mq_ite S ih ha tbb hc (hE _ rfl) h hl) fun v H' e=>hr.trans ?_;rw[zac e,zac (zaK _ _),x01,zay,zcb];rfl
   ·rw[if_neg (fun z=>q5 z.2)]at hE ⊢;rw[decide_eq_false (fun z=>q5 (e1.1 z)),zam,zay,zaR]at hr;exact last2 hr hE
  ·rw[if_neg (fun z=>q4 z.1)]at hE ⊢;rw[decide_eq_false q4,zam,zay,zaR]at hr;exact last2 hr hE
 by_cases q4:n.w=0
 ·rw[decide_eq_true q4,zau,zac (zqq S (by omega) hb),zag]at hr;by_cases q5:B.op=1
  ·rw[if_pos ⟨q4,q5⟩]at hE ⊢;rw[decide_eq_true q5,zau]at hr;refine .one (fun r h hl=>ze1 S ih ha hc (hE _ rfl) h hl) fun v H' e=>hr.trans ?_;rw[zac e,zac (zaK _ _),x01,zay,zcb];rfl
  rw[if_neg (fun z=>q5 z.2)]at hE ⊢;rw[decide_eq_false q5,zam,zac (zqr S (by omega) hb),zag]at hr;by_cases q6:B.op=2
  ·rw[if_pos ⟨q4,q6⟩]at hE ⊢;rw[decide_eq_true q6,zau]at hr;refine .two (fun r h hl=>mq_binn S ih ha hc (hE _ rfl) (by decide) h hl) fun c H1 v H' e1 e2=>hr.trans ?_;rw[zac e1,zac e2,zac (zaK _ _),x01,zay,zcb];rfl
  rw[if_neg (fun z=>q6 z.2)]at hE ⊢;rw[decide_eq_false q6,zam,zac (zqq S (by omega) hc),zag]at hr;by_cases q7:C.op=1
  ·rw[if_pos ⟨q4,q7⟩]at hE ⊢;rw[decide_eq_true q7,zau]at hr;refine .two (fun r h hl=>mq_binn S ih ha hb (hE _ rfl) (by decide) h hl) fun c H1 v H' e1 e2=>hr.trans ?_;rw[zac e1,zac e2,zac (zaK _ _),x01,zay,zcb];rfl
  rw[if_neg (fun z=>q7 z.2)]at hE ⊢;rw[decide_eq_false q7,zam,zac (zqr S (by omega) hc),zag]at hr;by_cases q8:C.op=2
  ·rw[if_pos ⟨q4,q8⟩]at hE ⊢;rw[decide_eq_true q8,zau]at hr;refine .one (fun r h hl=>ze1 S ih ha hb (hE _ rfl) h hl) fun v H' e=>hr.trans ?_;rw[zac e,zac (zaK _ _),x01,zay,zcb];rfl
  rw[if_neg (fun z=>q8 z.2)]at hE ⊢;rw[decide_eq_false q8,zam,zaD,zag]at hr;by_cases q9:B=A
  ·rw[if_pos ⟨q4,q9⟩]at hE ⊢;rw[decide_eq_true (eba.2 q9),zau]at hr;refine .one (fun r h hl=>ze1 S ih ha hc (hE _ rfl) h hl) fun v H' e=>hr.trans ?_;rw[zac e,zac (zaK _ _),x01,zay,zcb];rfl
  rw[if_neg (fun z=>q9 z.2)]at hE ⊢;rw[decide_eq_false (fun z=>q9 (eba.1 z)),zam,zaD,zag]at hr;by_cases q10:C=A
  ·rw[if_pos ⟨q4,q10⟩]at hE ⊢;rw[decide_eq_true (eca.2 q10),zau]at hr;refine .one (fun r h hl=>ze1 S ih ha hb (hE _ rfl) h hl) fun v H' e=>hr.trans ?_;rw[zac e,zac (zaK _ _),x01,zay,zcb];rfl
  rw[if_neg (fun z=>q10 z.2)]at hE ⊢;rw[decide_eq_false (fun z=>q10 (eca.1 z)),zam,zay,zaR]at hr;exact last hr hE
 ·rw[if_neg (fun z=>q4 z.1),if_neg (fun z=>q4 z.1),if_neg (fun z=>q4 z.1),if_neg (fun z=>q4 z.1),if_neg (fun z=>q4 z.1),if_neg (fun z=>q4 z.1)]at hE ⊢;rw[decide_eq_false q4,zam,zay,zaR]at hr;exact last hr hE
theorem w_word(ho:17≤n.op∧n.op≤30)(h1:n.op≤29→A.w=n.w∧B.w=n.w∧1≤n.w∧(25≤n.op→zfm n.w=true))(h2:n.op=30→1≤A.w∧1≤B.w∧n.w=A.w+B.w∧n.w≤64)(hE:∀e,zfj n.op n.w A B=some e→EW e n.w):Rl E K k L (RR A8 [ptr E.m,n.val] H) (zfj n.op n.w A B):=by
 have hr:RR A8 [ptr E.m,n.val] H=_:=ziD E0 rfl (ptr E.m) n.val H;unfold ze6 at hr;generalize RR A8 [ptr E.m,n.val] H=run at hr ⊢;have hd:=S.good.dag;have h64:=(ha.ws S.good).w.2;rw[n2,zac (t_k S (by omega) ha),x01,n3,zac (t_k S (by omega) hb),x01,zag,zbn,zaZ]at hr;unfold zfj at hE ⊢;by_cases q1:A.op=3∧B.op=3
 ·rw[if_pos q1]at hE ⊢;rw[decide_eq_true q1,zau,n0,zaD,zag]at hr;by_cases q2:n.op=30
  ·obtain⟨g1,g2,g3,g4⟩:=h2 q2;have hcat:RR Bm [.int .i64 A.w,wv A.k,.int .i64 B.w,wv B.k] H=some (.tuple #[wv (catW A.w.toNat A.k B.w.toNat B.k),.int .i64 0],H):=by have:=p_cat (n:=A.w.toNat) (m:=B.w.toNat) (by omega) (by omega) (by omega) A.k B.k H;rwa [wn g1,wn g2]at this
   rw[if_pos q2]at hE ⊢;rw[decide_eq_true q2,zau,n2,zac (t_n S (by omega) ha),zeI,ha.w hd,n3,zac (t_n S (by omega) hb),zeI,hb.w hd,zac hcat,x01,n1]at hr;refine .one (fun r h hl=>ze0 S (hE _ rfl) h hl) fun v H' e=>hr.trans ?_;rw[zac e,zac (zaK _ _)];rfl
  ·obtain⟨g1,g2,g3,g4⟩:=h1 (by omega);have hbin:RR AH [.int .i64 n.op,.int .i64 n.w,wv A.k,wv B.k] H=some (.tuple #[wv (binW n.op n.w.toNat A.k B.k),.int .i64 0],H):=by have:=p_bin (op:=n.op) (by omega) (n:=n.w.toNat) (by omega) (by omega) (fun h=>by rw[wn g3];exact g4 h) A.k B.k H;rwa [wn g3]at this
   rw[if_neg q2]at hE ⊢;rw[decide_eq_false q2,zam,n0,n1,zac hbin,x01,n1]at hr;refine .one (fun r h hl=>ze0 S (hE _ rfl) h hl) fun v H' e=>hr.trans ?_;rw[zac e,zac (zaK _ _)];rfl
 rw[if_neg q1]at hE ⊢;rw[decide_eq_false q1,zam,n0,zaD,zag,zaD,zag,zaD,zag,zaD,zag,zaD,brd_or5,zaZ,zag,brd_both]at hr;by_cases q2:(n.op≤20∨n.op=22)∧A.op=3
 ·rw[if_pos q2]at hE ⊢;rw[decide_eq_true (by omega),zau,n0,n3,n2]at hr;refine .one (fun r h hl=>ze1 S ih hb ha (hE _ rfl) h hl) fun v H' e=>hr.trans ?_;rw[zac e,zac (zaK _ _),x01,zay,zcb];rfl
 rw[if_neg q2]at hE ⊢;rw[decide_eq_false (by omega),zam,zay,zaR,n0,zaD,zag,zaD,brd_or,zaZ]at hr;by_cases q3:n.op≤18
 ·rw[if_pos q3]at hE ⊢;obtain⟨g1,g2,g3,g4⟩:=h1 (by omega);rw[decide_eq_true (by omega),zau,n7]at hr;exact Rl.wrap (w_band S hL ih ha hb g1.symm (by omega) (by omega) hE) hr
 rw[if_neg q3]at hE ⊢;rw[decide_eq_false (by omega),zam,zaD,zag]at hr;by_cases q4:n.op=19
 ·rw[if_pos q4]at hE ⊢;obtain⟨g1,g2,g3,g4⟩:=h1 (by omega);rw[decide_eq_true q4,zau,n7]at hr;exact Rl.wrap (w_bxor S hL ih ha hb g1.symm (by omega) hE) hr
 rw[if_neg q4]at hE ⊢;rw[decide_eq_false q4,zam,zaD,zag]at hr;by_cases q5:n.op=20
 ·rw[if_pos q5]at hE ⊢;obtain⟨g1,g2,g3,g4⟩:=h1 (by omega);rw[decide_eq_true q5,zau,n7]at hr;exact Rl.wrap (w_add S hL ih ha hb g1.symm (by omega) hE) hr
 rw[if_neg q5]at hE ⊢;rw[decide_eq_false q5,zam,zaD,zag]at hr;by_cases q6:n.op=21
 ·rw[if_pos q6]at hE ⊢;rw[decide_eq_true q6,zau,n7]at hr;exact Rl.wrap (w_sub S hL ih ha hb hE) hr
 rw[if_neg q6]at hE ⊢;rw[decide_eq_false q6,zam,zaD,zag,zaD,zag,zaD,brd_or3,zaZ]at hr;by_cases q7:n.op≤24
 ·rw[if_pos q7]at hE ⊢;obtain⟨g1,g2,g3,g4⟩:=h1 (by omega);rw[decide_eq_true (by omega),zau,n7]at hr;exact Rl.wrap (w_mul S hL ih ha hb g1.symm (by omega) (by omega) hE) hr
 rw[if_neg q7]at hE ⊢;rw[decide_eq_false (by omega),zam,zaD,zag]at hr;by_cases q8:n.op=30
 ·rw[if_pos q8]at hE ⊢;rw[decide_eq_true q8,zau,n7]at hr;exact Rl.wrap (w_cat S hL ih ha hb (h2 q8).2.2.2 hE) hr
 rw[if_neg q8]at hE ⊢;obtain⟨g1,g2,g3,g4⟩:=h1 (by omega);rw[decide_eq_false q8,zam,n7]at hr;exact Rl.wrap (w_shift S hL ih ha hb g1.symm (by omega) (by omega) hE) hr
end
end Go.AM.N14
namespace Go.AM.N14
open List Go Go.AM
theorem ws_op{t:Tr}(h:WS t):1≤t.op∧t.op≤33:=by
 cases h with
 |tru b=>cases b<;>decide
 |con w x h1 h2=>rw[zd5];decide
 |var s w _ _ _=>show 1≤(4:Int)∧(4:Int)≤33;decide
 |not h1 h2=>rw[zef];decide
 |eq _ _ _=>rw[za4];decide
 |ite _ _ _ _ _=>rw[zgu];decide
 |cat _ _ _ _ _=>rw[za4];decide
 |slice _ _ _ _ _ _=>rw[zkO];decide
 |tbin op _ _ _ _ _ _=>rw[za4];omega
 |cmp op _ _ _ _ _ _=>rw[za4];omega
 |un op h1 h2 h3 h4=>rw[zef];omega
 |wbin op h1 h2 h3 h4 h5 h6 h7=>rw[za4];omega
 |ext op w _ _ _ _ _ _=>rw[zgw];omega
theorem ws_two{t:Tr}(h:WS t)(e:6≤t.op∧t.op≤13):WS t.a∧WS t.b∧t.w=0∧(10≤t.op→1≤t.a.w):=by
 cases h with
 |tru b=>cases b<;>exact absurd e (by decide)
 |con w x h1 h2=>rw[zd5]at e;omega
 |var s w _ _ _=>exact absurd e (by show ¬(6≤(4:Int)∧(4:Int)≤13);decide)
 |not h1 h2=>rw[zef]at e;omega
 |eq h1 h2 _=>exact⟨h1,h2,zct (by decide) _ _,fun q=>by rw[za4]at q;omega⟩
 |ite _ _ _ _ _=>rw[zgu]at e;omega
 |cat _ _ _ _ _=>rw[za4]at e;omega
 |slice _ _ _ _ _ _=>rw[zkO]at e;omega
 |tbin op o1 o2 h1 h2 _ _=>exact⟨h1,h2,zct (by omega) _ _,fun q=>by rw[za4]at q;omega⟩
 |cmp op o1 o2 h1 h2 h3 _=>exact⟨h1,h2,zct (by omega) _ _,fun q=>h3⟩
 |un op h1 h2 h3 h4=>rw[zef]at e;omega
 |wbin op h1 h2 h3 h4 h5 h6 h7=>rw[za4]at e;omega
 |ext op w _ _ _ _ _ _=>rw[zgw]at e;omega
theorem mem_tm{L:List Nd}(hd:Dag L){n:Nd}(hn:n∈L):∃x,Tm L x (trP L n)∧ndI L x=n:=by
 obtain⟨i,hi⟩:=List.getElem?_of_mem hn;have hl:=(List.getElem?_eq_some_iff.1 hi).1
 have ht:Tm L ((i+1:Nat):Int) (trP L n):=⟨by omega,by omega,by
  rw[Int.toNat_natCast]
  exact zcm hd (by omega) (by rw[Nat.add_sub_cancel];exact hi)⟩
 refine⟨((i+1:Nat):Int),ht,?_⟩;rw[ht.nd,Int.toNat_natCast];have:=zaS (L:=L) (t:=i+1) ⟨by omega,by omega⟩;rw[Nat.add_sub_cancel,hi]at this;exact(Option.some.inj this).symm
theorem nil_nil{α:Type}(k:Value→Option α):pBin PP .neq Cn .nilFunc .nilFunc k=k (.bool false):=rfl
theorem nil_fun{α:Type}(fn:FuncId)(k:Value→Option α):pBin PP .neq Cn (.func (.func fn) #[] #[]) .nilFunc k=k (.bool true):=rfl
theorem rulesV_at{j:Nat}(h:j<34){p d:Nat}:(mkC p d)[1+j*1]?=some (zow j):=by unfold mkC zm6;rw[show 1+j*1=j+1 by omega,List.getElem?_cons_succ,List.getElem?_append_left (by simpa using h)];simp[h]
section
variable {E:Env}{K:List (ByteArray×Int)}{H:Hp}{L:List Nd}(S:MS E H L K)
include S
theorem MS.put{k:Nat}{n:Nd}{v:Int}{r:Tr×Nat}(ht:Tm L v r.1)(hp:PIn L n)(hs:simF k (trP L n)=some r):∃H',(∀(α:Type) (kk:Hp→Option α),pUpd PP Af (.map (some E.d)) n.val (.int .i64 v) H kk=kk H')∧MS E H' L K:=by
 obtain⟨D,hD,hOk⟩:=S.done;obtain⟨H',u1,u2,u3,u4⟩:=hD.upd n v;obtain⟨sl,st,ft⟩:=S.st;have n1:=S.next;have n3:=S.ml;have n4:=S.dl;refine⟨H',u1,by omega,fun j hj hf=>?_,by rw[u3 _ S.md];exact S.obj,by omega,by omega,S.md,S.fd,⟨sl,st.keep (fun j hj=>u3 j (ft j hj).2.2) (by omega),ft⟩,⟨_,u2,fun m t hm=>?_⟩,S.good,S.ok⟩
 ·rw[u3 j (fun q=>by subst q;exact S.fd.elim hf fun z=>by omega),S.old j hj hf]
 ·by_cases q:zdA m n=true
  ·rw[if_pos q]at hm;cases hm;have:=(zch m n).1 q;subst this;exact⟨v.toNat,k,r,by have:=ht.lo;omega,ht.bd.1,ht.bd.2,hp,hs,ht.is⟩
  ·rw[if_neg q]at hm;exact hOk m t hm
variable (hL:L.length≤2^40)
include hL
theorem MS.has{n:Nd}(hn:n∈L):∃v,RR Aj [.pointer (some ⟨E.p,0,none⟩),n.val] H=some (.tuple #[.int .i64 v,.int .i64 0],H)∧Tm L v (trP L n):=by
 obtain⟨sl,st,_⟩:=S.st;obtain⟨i,hi⟩:=List.getElem?_of_mem hn;obtain⟨q,hq⟩:∃q,zbp n 0 L=some q:=by
  cases e:zbp n 0 L with
  |some q=>exact⟨q,rfl⟩
  |none=>exact absurd hi (zcT n L 0 e _)
 obtain⟨_,hqn⟩:=zfw n L 0 q hq;rw[Nat.sub_zero]at hqn;have hl:=(List.getElem?_eq_some_iff.1 hqn).1;refine⟨((q+1:Nat):Int),c22q st n (S.good.num n hn) (fun m hm=>good_w S.good m hm) (by omega) (zg5.2 (S.good.rt n hn)) hq,by omega,by omega,?_⟩;rw[Int.toNat_natCast];exact zcm S.good.dag (by omega) (by rw[Nat.add_sub_cancel];exact hqn)
end
section
variable {E:Env}{K:List (ByteArray×Int)}{H:Hp}{L:List Nd}(S:MS E H L K)(hL2:L.length+2≤2^40){k:Nat}(ih:MkIH K k)
include S hL2 ih
theorem w_rule{n:Nd}(hn:n∈L)(h5:5≤n.op):∃fn,zow n.op.toNat=.func (.func fn) #[] #[]∧(∀(kk:Value→Hp→Option Outc),zgd orc RR (.func (.func fn) #[] #[]) [ptr E.m,n.val] H kk=zab RR fn [ptr E.m,n.val] H kk)∧Rl E K k L (RR fn [ptr E.m,n.val] H) (zcS (trP L n)):=by
 have hd:=S.good.dag;obtain⟨x,htm,hnd⟩:=mem_tm hd hn;have hws:=htm.ws S.good;have ha:(trP L n).a≠.z→Tm L n.a (trP L n).a:=fun h=>by have:=htm.a hd h;rwa [hnd]at this
 have hb:(trP L n).b≠.z→Tm L n.b (trP L n).b:=fun h=>by have:=htm.b hd h;rwa [hnd]at this
 have hc:(trP L n).c≠.z→Tm L n.c (trP L n).c:=fun h=>by have:=htm.c hd h;rwa [hnd]at this
 have hE:∀e,zcS (trP L n)=some e→EW e n.w:=fun e h=>zhF hws h;have ho:1≤n.op∧n.op≤33:=ws_op hws;have hN:zcS (trP L n)=zfk n.op n.w n.num (trP L n).a (trP L n).b (trP L n).c:=rfl;have hop:(trP L n).op=n.op:=rfl;have hw:(trP L n).w=n.w:=rfl;have hnum:(trP L n).num=n.num:=rfl;rw[hN]at hE ⊢;generalize trP L n=t at *;generalize hZ:zfk n.op n.w n.num t.a t.b t.c=Z at hE ⊢;unfold zow;unfold zfk at hZ;rw[if_neg (by omega)]at hZ;by_cases q:n.op=5
 ·obtain⟨_,g1,g2,g3⟩:=zfp hws (by omega);rw[if_pos q]at hZ;rw[if_pos (by omega)];rw[←hw,g3]at hE;subst hZ;exact⟨_,rfl,fun _=>rfl,w_not S hL2 ih (ha g1.nz) hE⟩
 rw[if_neg q]at hZ;rw[if_neg (by omega)];by_cases q2:n.op≤13
 ·obtain⟨g1,g2,g3,g4⟩:=ws_two hws (by omega);rw[←hw,g3]at hE;by_cases q3:n.op≤7
  ·rw[if_pos q3]at hZ;rw[if_pos (by omega)];subst hZ;exact⟨_,rfl,fun _=>rfl,w_and S hL2 ih (by omega) (ha g1.nz) (hb g2.nz) hE⟩
  rw[if_neg q3]at hZ;rw[if_neg (by omega)];by_cases q4:n.op=8
  ·rw[if_pos q4]at hZ;rw[if_pos (by omega)];subst hZ;exact⟨_,rfl,fun _=>rfl,w_xor S hL2 ih (ha g1.nz) (hb g2.nz) hE⟩
  rw[if_neg q4]at hZ;rw[if_neg (by omega)];by_cases q5:n.op=9
  ·rw[if_pos q5]at hZ;rw[if_pos (by omega)];subst hZ;exact⟨_,rfl,fun _=>rfl,w_eq S hL2 ih (ha g1.nz) (hb g2.nz) hE⟩
  rw[if_neg q5,if_pos q2]at hZ;rw[if_neg (by omega),if_pos (by omega)];subst hZ;exact⟨_,rfl,fun _=>rfl,w_less S hL2 ih (ha g1.nz) (hb g2.nz) (by omega) (g4 (by omega)) hE⟩
 rw[if_neg (by omega),if_neg (by omega),if_neg (by omega),if_neg q2]at hZ;rw[if_neg (by omega),if_neg (by omega),if_neg (by omega),if_neg (by omega)];by_cases q3:n.op=14
 ·obtain⟨_,g1,g2,g3,g4,g5,g6⟩:=zjb hws (by omega);rw[if_pos q3]at hZ;rw[if_pos (by omega)];subst hZ;exact⟨_,rfl,fun _=>rfl,w_ite S hL2 ih (ha g1.nz) (hb g2.nz) (hc g3.nz) hE⟩
 rw[if_neg q3]at hZ;rw[if_neg (by omega)];by_cases q4:n.op≤16
 ·obtain⟨_,g1,g2,g3⟩:=zfi hws (by omega);rw[if_pos q4]at hZ;rw[if_pos (by omega)];subst hZ;exact⟨_,rfl,fun _=>rfl,w_com S hL2 ih (by omega) (ha g1.nz) (by omega) (by omega) hE⟩
 rw[if_neg q4]at hZ;rw[if_neg (by omega)];by_cases q5:n.op≤30
 ·rw[if_pos q5]at hZ;rw[if_pos (by omega)];by_cases q6:n.op=30
  ·obtain⟨_,g1,g2,g3,g4,g5,g6⟩:=zh8 hws (by omega);subst hZ;exact⟨_,rfl,fun _=>rfl,w_word S hL2 ih (ha g1.nz) (hb g2.nz) (by omega) (fun _=>by omega) (fun _=>⟨g3,g4,by omega,by omega⟩) hE⟩
  ·obtain⟨_,g1,g2,g3,g4,g5,g6⟩:=zaX hws (by omega);rw[hop,hw]at g6;subst hZ;exact⟨_,rfl,fun _=>rfl,w_word S hL2 ih (ha g1.nz) (hb g2.nz) (by omega) (fun _=>⟨by omega,by omega,by omega,g6⟩) (fun h=>absurd h q6) hE⟩
 rw[if_neg q5]at hZ;rw[if_neg (by omega)];by_cases q6:n.op=31
 ·obtain⟨_,g1,g2,g3,g4⟩:=zof hws (by omega);rw[if_pos q6]at hZ;rw[if_pos (by omega)];subst hZ;exact⟨_,rfl,fun _=>rfl,w_slice S hL2 ih (ha g1.nz) (by omega) (by omega) (by omega) hE⟩
 ·obtain⟨_,g1,g2,g3,g4,g5⟩:=zfq hws (by omega);rw[if_neg q6]at hZ;rw[if_neg (by omega),if_pos (by omega)];subst hZ;exact⟨_,rfl,fun _=>rfl,w_ext S hL2 ih (ha g1.nz) (by omega) (by omega) (by omega) (by omega) hE⟩
end
theorem PIn.mem{L:List Nd}(hd:Dag L){n:Nd}(hn:n∈L):PIn L n:=by obtain⟨x,htm,hnd⟩:=mem_tm hd hn;obtain⟨_,_,_,h⟩:=htm.part hd;rwa [hnd]at h
theorem zoT(K:List (ByteArray×Int)):∀k,MkIH K k
 |0,E,H,L,n,r,S,hn,hs,hb=>by cases hs
 |k+1,E,H,L,n,r,S,hn,hs,hb=>by
  have ih:=zoT K k;have hL2:L.length+2≤2^40:=by
   rcases zeH hs with⟨_,rfl⟩|⟨_,y,_,_,rfl⟩
   ·dsimp only at hb;omega
   ·dsimp only at hb;omega
  have hL:L.length≤2^40:=by omega
  have hd:=S.good.dag;have hpin:=PIn.mem hd hn;obtain⟨x0,htm0,hnd0⟩:=mem_tm hd hn;have hop:1≤n.op∧n.op≤33:=ws_op (htm0.ws S.good);have hrun:=zhR E0 rfl (ptr E.m) n.val H;unfold zez at hrun;obtain⟨D,hD,hOk⟩:=S.done;rw[zbw,zaY,Nat.zero_add,S.l35,n7,hD.look2,x01,zag]at hrun;cases hDn:D n with
  |some t=>
   rw[hDn]at hrun;obtain⟨v,k',r',rfl,v1,v2,_,v3,v4⟩:=hOk n t hDn;have:=zpw hs v3;subst this;exact⟨H,L,v,hrun,(Nx.refl S).le (by omega),by omega,by omega,by rw[Int.toNat_natCast];exact v4⟩
  |none=>
   rw[hDn]at hrun;dsimp only[Option.isSome_none]at hrun;rw[zam,n0,zbw,zaY,Nat.zero_add]at hrun;have hj:n.op=((n.op.toNat:Nat):Int):=by omega
   have hix:∀{α:Type} (kk:Value→Option α),zbH 34 1 (.pointer (some ⟨E.m,1,none⟩)) (.int .i64 n.op) kk=kk (.pointer (some ⟨E.m,1+n.op.toNat*1,none⟩)):=fun kk=>by rw[hj];exact zh0 (by omega) kk
   have hld:∀{α:Type} (kk:Value→Option α),zaH 1 false H (.pointer (some ⟨E.m,1+n.op.toNat*1,none⟩)) kk=kk (zow n.op.toNat):=fun kk=>Go.AM.zeh S.obj _ _ (rulesV_at (by omega)) kk;rw[hix,hld]at hrun;have last:∀{H1:Hp} {L1:List Nd} {c:Nat} {x:Option (Value×Hp)},Nx E H1 L L1 K c→L.length+c≤2^40→r.1=trP L n→c≤r.2 →
     x=(zab RR Aj [.pointer (some ⟨E.p,0,none⟩),n.val] H1 fun r29 H30=>zaa r29 0 fun v31=>zaa r29 1 fun v32=>pNil (ptr E.m) (za5 35 (ptr E.m) fun p33=>zaH 1 false H30 p33 fun v34=>zaf 7 true (zad n.val) 0 fun v35=>pUpd PP Af v34 v35 v31 H30 fun H36=>some (v31,H36))) →
     Gv E K L x r.1 r.2:=fun {H1 L1 c x} nx hc hr hcr hx=>by
    have S1:=nx.ms;have hl1:=nx.len;obtain⟨M,eM⟩:=nx.pre;have hn1:n∈L1:=by rw[eM];exact mem_append_left _ hn
    have ht1:trP L1 n=trP L n:=by have hd1:=S1.good.dag;rw[eM]at hd1 ⊢;exact zhB hd hd1 hpin
    obtain⟨v,e,tm⟩:=S1.has (by omega) hn1;rw[ht1,←hr]at tm;obtain⟨H2,u1,u2⟩:=S1.put tm (PIn.mem S1.good.dag hn1) (by rw[ht1];exact hs);rw[zac e,x01,zbw,zaY,Nat.zero_add,S1.l35,n7,u1]at hx;exact⟨H2,L1,v,hx,⟨u2,nx.pre,by omega⟩,tm⟩
   by_cases h5:5≤n.op
   ·obtain⟨fn,e1,e2,hRl⟩:=w_rule S hL2 ih hn h5;rw[e1,nil_fun,zag,zau,n7,e2]at hrun;rcases zeH hs with⟨hq,rfl⟩|⟨e,y,hq,hy,rfl⟩
    ·rw[hq]at hRl;obtain⟨H1,L1,e3,nx⟩:=hRl;rw[zac e3,x01,zag,zam,zay,zaR]at hrun;simp only[qg0]at hrun;rw[eT rfl,zbw,zaY,Nat.zero_add,nx.ms.l0,n7]at hrun;exact last nx (by dsimp only at hb;omega) rfl (show 2≤3 by decide) hrun
    ·rw[hq]at hRl;dsimp only at hb;obtain⟨H1,L1,v,e3,nx,tm⟩:=hRl y hy (by omega);have hv:=tm.lo;have S1:=nx.ms;obtain⟨M,eM⟩:=nx.pre;have hn1:n∈L1:=by rw[eM];exact mem_append_left _ hn
     have ht1:trP L1 n=trP L n:=by have hd1:=S1.good.dag;rw[eM]at hd1 ⊢;exact zhB hd hd1 hpin
     obtain⟨H2,u1,u2⟩:=S1.put (r:=(y.1,y.2+2)) tm (PIn.mem S1.good.dag hn1) (by rw[ht1];exact hs);rw[zac e3,x01,zag,zau,zay,zaR]at hrun;simp only[qg0]at hrun;rw[eF (by omega),zbw,zaY,Nat.zero_add,S1.l35,n7,u1]at hrun;have hl1:=nx.len;exact⟨H2,L1,v,hrun,⟨u2,nx.pre,by dsimp only;omega⟩,tm⟩
   ·have hrn:zow n.op.toNat=.nilFunc:=by unfold zow;rw[if_neg (by omega),if_neg (by omega),if_neg (by omega),if_neg (by omega),if_neg (by omega),if_neg (by omega),if_neg (by omega),if_neg (by omega),if_neg (by omega),if_neg (by omega)]
    rw[hrn,nil_nil,zag,zam,zay,zaR]at hrun;simp only[qg0]at hrun;rw[eT rfl,zbw,zaY,Nat.zero_add,S.l0,n7]at hrun;have hr:r=(trP L n,3):=by
     rcases zeH hs with⟨hq,rfl⟩|⟨e,y,hq,hy,rfl⟩
     ·rfl
     ·have:zcS (trP L n)=none:=by show zfk n.op _ _ _ _ _=none;unfold zfk;rw[if_pos (by omega)]
      rw[this]at hq;cases hq
    exact last (Nx.refl S) (by omega) (by rw[hr]) (by omega) hrun
theorem bind_loop{step:List Value→Hp→Option Outc}{l:List Value}{H:Hp}{kk:Ctl→List Value→Hp→Option (Value×Hp)}{r:Option (Value×Hp)}(n:Nat)(o:Outc)(h:zfl step n l H=some o)(h2:kk o.1 o.2.1 o.2.2=r):zaG (zbi step l H) kk=r:=by rw[zcd.2 ⟨n,h⟩];exact h2
theorem c_table(H:Hp):RR Cc [] H=some (.agg zm6.toArray,H):=
 (znd E0 rfl H).trans (bind_loop 35 (.exit 0,[.int .i64 34,.agg zm6.toArray],H) (by kernel_rfl) (by kernel_rfl))
theorem bldM{α:Type}(p d:Nat)(k:Value→Option α):zbe PP Cr [(0,ptr p),(1,.agg zm6.toArray),(2,.map (some d))] k=k (.agg (mkC p d).toArray):=bld (by kernel_rfl) k
def envN(H:Hp):Env:=⟨H.next+4,H.next+2,H.next+3,H.next,H.next+1,H,fun _=>False⟩
theorem c_sNew(H:Hp)(hT:TabB H):∃H',RR BA [] H=some (ptr (envN H).m,H')∧MS (envN H) H' [] []:=by
 have hr:=zqy E0 rfl H;unfold zlt at hr;have hnew:RR AZ [.int .i64 0] H=some (.tuple #[.pointer (some ⟨H.next+2,0,none⟩),.int .i64 0],newH 0 H):=by rw[Go.AM.c16,if_neg (by decide)]
 have hm:∀(H:Hp) (f:Value→Hp→Option (Value×Hp)),zcG H f=f (.map (some H.next)) (H.new (.map [])):=fun H f=>rfl;have ha:∀(cs:Array Value) (H:Hp) (kk:Value→Hp→Option (Value×Hp)),zeY (zad (.agg cs)) H kk=kk (ptr H.next) (H.new (.cells cs.toList true)):=fun cs H kk=>rfl;rw[zac hnew,x01,zac (c_table _),hm,zeo,bldM,ha]at hr;refine⟨_,hr,?_⟩;have e1:∀j,j<H.next+3→(((newH 0 H).new (.map [])).new (.cells (mkC (H.next+2) (H.next+3)) true)).get j=(newH 0 H).get j:=fun j hj=>by rw[get_new,if_neg (by show ¬j=H.next+3+1;omega),get_new,if_neg (by rw[zeo];omega)]
 have t:=newH_st 0 H;have hd:(((newH 0 H).new (.map [])).new (.cells (mkC (H.next+2) (H.next+3)) true)).get (H.next+3)=((newH 0 H).new (.map [])).get (H.next+3):=by rw[get_new,if_neg (by show ¬H.next+3=H.next+3+1;omega)]
 refine⟨by show H.next≤H.next+3+1+1;omega,fun j hj _=>?_,?_,by show H.next+4<H.next+3+1+1;omega,by show H.next+3<H.next+3+1+1;omega,by show H.next+4≠H.next+3;omega,.inr (by show H.next≤H.next+3;omega),⟨_,t.keep (fun j hj=>e1 j (by have:=t.foot_lt hj;rw[zeo]at this;omega)) (by show H.next+3≤H.next+3+1+1;omega),fun j hj=>?_⟩,⟨fun _=>none,?_,fun n t h=>by cases h⟩,zb8.nil,hT,fun q=>q⟩
 ·have hj:j<H.next:=hj;show (((newH 0 H).new (.map [])).new (.cells (mkC (H.next+2) (H.next+3)) true)).get j=H.get j;rw[e1 j (by omega),zmn 0 H j hj]
 ·show (((newH 0 H).new (.map [])).new (.cells (mkC (H.next+2) (H.next+3)) true)).get (H.next+4)=_;rw[get_new,if_pos (by show H.next+4=H.next+3+1;omega)];rfl
 ·have:=zp9 hj;have hm:(envN H).m=H.next+4:=rfl;have hd:(envN H).d=H.next+3:=rfl;have hp:(envN H).p=H.next+2:=rfl;have hf:(envN H).f=H.next:=rfl;have hg:(envN H).g=H.next+1:=rfl;have hB:(envN H).B.next=H.next:=rfl;rw[hp,hf,hg]at this;rw[hm,hd,hB];omega
 ·exact(MapN.new (newH 0 H) encD).keep hd
section
variable {E:Env}{H:Hp}{L:List Nd}{K:List (ByteArray×Int)}(S:MS E H L K)
include S
theorem ms_mkD{fn:FuncId}{args:List Value}{n:Nd}(hD:∀sl,StF H E.p 0 L K sl E.f E.g→Does H E.p 0 sl E.f E.g fn args (mkR 0 L K n))(hr:zed L K n)(hn:ziT n) :
  ∃H' L' K' v,RR fn (.pointer (some ⟨E.p,0,none⟩)::args) H=some (.tuple #[.int .i64 v,.int .i64 0],H')∧MS E H' L' K'∧(∃M,L'=L++M)∧L'.length≤L.length+1∧Tm L' v (trP L n)∧n∈L'∧trP L' n=trP L n∧(K'=K∨n.op=4∧K'=zbm n.name n.w K):=by
 obtain⟨sl,st,ft⟩:=S.st;obtain⟨H',sl',h1,h2⟩:=hD sl st;obtain⟨e0,v,v1,v2,v3,v4,⟨M,v5⟩,v6⟩:=zp2 (lim:=0) (by decide) hr;have hle:=mk_le (lim:=0) (L:=L) (K:=K) (n:=n);have hg2:zb8 (mkR 0 L K n).2.2.1 (mkR 0 L K n).2.2.2:=zmp hn S.good;have hst:=h2.st;rw[e0,v1]at h1;have hfoot:∀j,Foot E.p E.f E.g sl' j→Foot E.p E.f E.g sl j∨H.next≤j:=fun j hj=>h2.foot hj;have hsame:∀j,j<H.next→¬Foot E.p E.f E.g sl j→H'.get j=H.get j:=fun j a b=>h2.same a b;have hnx:=h2.next;generalize (mkR 0 L K n).2.2.1=L' at *;generalize (mkR 0 L K n).2.2.2=K' at *;have hn0:=S.next;have hml:=S.ml;have hdl:=S.dl;have hmF:¬Foot E.p E.f E.g sl E.m:=fun q=>(ft _ q).2.1 rfl;have hdF:¬Foot E.p E.f E.g sl E.d:=fun q=>(ft _ q).2.2 rfl;have hnode:zaJ L' v=n:=v4;have hb:1≤v∧v≤L'.length:=⟨v2,v3⟩
 have hd2:=hg2.dag;have hnin:PIn L n:=by
  have key:∀k x,(zax n.op≥k→isT L x=true)→(zax n.op<k→x=0)→0≤x∧x≤L.length:=fun k x h1 h2=>by
   by_cases q:zax n.op≥k
   ·have:=zbv.1 (h1 q);omega
   ·rw[h2 (by omega)];omega
  have hn':=zaS (L:=L') hb;rw[hnode]at hn';have pt:=hr.pt;have sp:=hr.sp;unfold zbh at pt;unfold zdq at sp;simp only[Bool.or_eq_true,Bool.and_eq_true,decide_eq_true_eq,Bool.not_eq_true',not_or,not_and,Bool.not_eq_false,Decidable.not_not]at pt sp;exact⟨key 1 _ pt.1.1 sp.1.1.1.1,key 2 _ pt.1.2 sp.1.1.1.2,key 3 _ pt.2 sp.1.1.2⟩
 have htr:tr L' v=trP L n:=by have hn':=zaS (L:=L') hb;rw[hnode]at hn';rw[zcm hd2 hb.1 hn'];rw[v5]at hd2 ⊢;exact zhB S.good.dag hd2 hnin
 have htp:trP L' n=trP L n:=by rw[v5]at hd2 ⊢;exact zhB S.good.dag hd2 hnin
 have htm:Tm L' (v:Int) (trP L n):=⟨by omega,by omega,htr⟩
 obtain⟨D,hD1,hD2⟩:=S.done;refine⟨H',L',K',(v:Int),h1,⟨by omega,fun j hj hf=>?_,?_,by omega,by omega,S.md,S.fd,⟨sl',hst,fun j hj=>?_⟩,⟨D,hD1.keep (hsame _ hdl hdF),?_⟩,hg2,S.ok⟩,⟨M,v5⟩,hle,htm,?_,htp,v6⟩
 ·rw[hsame j (by omega) (fun q=>(ft j q).1.elim hf fun z=>by omega),S.old j hj hf]
 ·rw[hsame _ hml hmF];exact S.obj
 ·rcases hfoot j hj with q|q
  ·exact ft j q
  ·exact⟨.inr (by omega),by omega,by omega⟩
 ·rw[v5]at hd2 ⊢;exact hD2.app S.good.dag hd2
 ·rw[←hnode];exact mem_of_getElem? (zaS hb)
theorem ms_mk{n:Nd}(hL:L.length≤2^40)(hr:zed L K n)(hn:ziT n) :
  ∃H' L' K' v,RR Aj [.pointer (some ⟨E.p,0,none⟩),n.val] H=some (.tuple #[.int .i64 v,.int .i64 0],H')∧MS E H' L' K'∧(∃M,L'=L++M)∧L'.length≤L.length+1∧Tm L' v (trP L n)∧n∈L'∧trP L' n=trP L n∧(K'=K∨n.op=4∧K'=zbm n.name n.w K):=
 ms_mkD S (fn:=Aj) (args:=[n.val]) (fun sl st=>d22 st (S.roomy hL) n hn) hr hn
end
theorem c_Make{E:Env}{H:Hp}{L:List Nd}{K:List (ByteArray×Int)}(S:MS E H L K){n:Nd}(hr:zed L K n)(hn:ziT n){k:Nat}{r:Tr×Nat}(hs:simF k (trP L n)=some r)(hb:L.length+(1+r.2)≤2^40) :
  ∃H' L' K' v,RR Bd [ptr E.m,n.val] H=some (.tuple #[.int .i64 v,.int .i64 0],H')∧MS E H' L' K'∧(∃M,L'=L++M)∧L'.length≤L.length+(1+r.2)∧Tm L' v r.1∧(K'=K∨n.op=4∧K'=zbm n.name n.w K):=by
 obtain⟨H1,L1,K1,v1,e1,S1,⟨M,eM⟩,hl,tm,hn1,ht,hK⟩:=ms_mk S (by omega) hr hn;obtain⟨H2,L2,v,e2,nx,tm2⟩:=zoT K1 k E H1 L1 n r S1 hn1 (by rw[ht];exact hs) (by omega);have hrun:=zhS E0 rfl (ptr E.m) n.val H;unfold zeA at hrun;rw[zbw,zaY,Nat.zero_add,S.l0,n7,zac e1,x01,zcz,bF (by decide),n7,zac e2]at hrun;obtain⟨M2,eM2⟩:=nx.pre;have:=nx.len;exact⟨H2,L2,K1,v,hrun,nx.ms,⟨M++M2,by rw[eM2,eM,append_assoc]⟩,by omega,tm2,hK⟩
inductive SmP:Tr→Tr→Prop
 |z:SmP .z .z
 |nd {op w num:Int} {s:ByteArray} {a b c a' b' c':Tr} {k:Nat} {r:Tr×Nat}:SmP a a'→SmP b b'→SmP c c'→simF k (.nd op w num s a' b' c')=some r→SmP (.nd op w num s a b c) r.1
theorem zg0{t r:Tr}(h:SmP t r):∀{r':Tr},SmP t r'→r=r':=by
 induction h with
 |z=>intro r' h2;cases h2;rfl
 |nd _ _ _ hs iha ihb ihc=>
  intro r' h2;cases h2 with
  |nd ha hb hc hs2=>
   have e1:=iha ha;have e2:=ihb hb;have e3:=ihc hc;subst e1 e2 e3;rw[zpw hs hs2]
def Same(a a':Tr):Prop:=(a=.z→a'=.z)∧(WS a→WS a'∧a'.w=a.w)
theorem ws_re{op w num:Int}{s:ByteArray}{a b c a' b' c':Tr}(h:WS (.nd op w num s a b c))(ha:Same a a')(hb:Same b b')(hc:Same c c'):WS (.nd op w num s a' b' c'):=by
 generalize ht:Tr.nd op w num s a b c=t at h;cases h with
 |tru b0=>
  unfold tTru at ht;injection ht with h1 h2 h3 h4 h5 h6 h7;subst h1 h2 h3 h4 h5 h6 h7;rw[ha.1 rfl,hb.1 rfl,hc.1 rfl];exact .tru b0
 |con w0 x p1 p2=>
  unfold tCon at ht;injection ht with h1 h2 h3 h4 h5 h6 h7;subst h1 h2 h3 h4 h5 h6 h7;rw[ha.1 rfl,hb.1 rfl,hc.1 rfl];exact .con _ x p1 p2
 |var s0 w0 p1 p2 p3=>
  injection ht with h1 h2 h3 h4 h5 h6 h7;subst h1 h2 h3 h4 h5 h6 h7;rw[ha.1 rfl,hb.1 rfl,hc.1 rfl];exact .var _ _ p1 p2 p3
 |not p1 p2=>
  unfold tUn at ht;injection ht with h1 h2 h3 h4 h5 h6 h7;subst h1 h2 h3 h4 h5 h6 h7;obtain⟨q1,q2⟩:=ha.2 p1;rw[hb.1 rfl,hc.1 rfl];exact .not q1 (by omega)
 |tbin o p1 p2 p3 p4 p5 p6=>
  unfold tBin at ht;injection ht with h1 h2 h3 h4 h5 h6 h7;subst h1 h2 h3 h4 h5 h6 h7;obtain⟨q1,q2⟩:=ha.2 p3;obtain⟨q3,q4⟩:=hb.2 p4;rw[hc.1 rfl];have:=WS.tbin op p1 p2 q1 q3 (by omega) (by omega);unfold tBin at this;rwa [if_pos (by omega)]at this ⊢
 |eq p3 p4 p5=>
  unfold tBin at ht;injection ht with h1 h2 h3 h4 h5 h6 h7;subst h1 h2 h3 h4 h5 h6 h7;obtain⟨q1,q2⟩:=ha.2 p3;obtain⟨q3,q4⟩:=hb.2 p4;rw[hc.1 rfl];exact WS.eq q1 q3 (by omega)
 |cmp o p1 p2 p3 p4 p5 p6=>
  unfold tBin at ht;injection ht with h1 h2 h3 h4 h5 h6 h7;subst h1 h2 h3 h4 h5 h6 h7;obtain⟨q1,q2⟩:=ha.2 p3;obtain⟨q3,q4⟩:=hb.2 p4;rw[hc.1 rfl];have:=WS.cmp op p1 p2 q1 q3 (by omega) (by omega);unfold tBin at this;rwa [if_pos (by omega)]at this ⊢
 |ite p1 p2 p3 p4 p5=>
  unfold tIte at ht;injection ht with h1 h2 h3 h4 h5 h6 h7;subst h1 h2 h3 h4 h5 h6 h7;obtain⟨q1,q2⟩:=ha.2 p1;obtain⟨q3,q4⟩:=hb.2 p2;obtain⟨q5,q6⟩:=hc.2 p3;have:=WS.ite q1 q3 q5 (by omega) (by omega);unfold tIte at this;rwa [q4]at this
 |un o p1 p2 p3 p4=>
  unfold tUn at ht;injection ht with h1 h2 h3 h4 h5 h6 h7;subst h1 h2 h3 h4 h5 h6 h7;obtain⟨q1,q2⟩:=ha.2 p3;rw[hb.1 rfl,hc.1 rfl];have:=WS.un op p1 p2 q1 (by omega);unfold tUn at this;rwa [q2]at this
 |wbin o p1 p2 p3 p4 p5 p6 p7=>
  unfold tBin at ht;injection ht with h1 h2 h3 h4 h5 h6 h7;subst h1 h2 h3 h4 h5 h6 h7;obtain⟨q1,q2⟩:=ha.2 p3;obtain⟨q3,q4⟩:=hb.2 p4;rw[hc.1 rfl];have:=WS.wbin op p1 p2 q1 q3 (by omega) (by omega) (fun h=>by rw[q2];exact p7 h);unfold tBin at this;rwa [q2,q4]at this
 |cat p3 p4 p5 p6 p7=>
  unfold tBin at ht;injection ht with h1 h2 h3 h4 h5 h6 h7;subst h1 h2 h3 h4 h5 h6 h7;obtain⟨q1,q2⟩:=ha.2 p3;obtain⟨q3,q4⟩:=hb.2 p4;rw[hc.1 rfl];have:=WS.cat q1 q3 (by omega) (by omega) (by omega);unfold tBin at this;rwa [q2,q4]at this
 |slice i n p1 p2 p3 p4=>
  unfold tSl at ht;injection ht with h1 h2 h3 h4 h5 h6 h7;subst h1 h2 h3 h4 h5 h6 h7;obtain⟨q1,q2⟩:=ha.2 p1;rw[hb.1 rfl,hc.1 rfl];exact WS.slice _ _ q1 p2 p3 (by omega)
 |ext o w0 p1 p2 p3 p4 p5 p6=>
  unfold tExt at ht;injection ht with h1 h2 h3 h4 h5 h6 h7;subst h1 h2 h3 h4 h5 h6 h7;obtain⟨q1,q2⟩:=ha.2 p3;rw[hb.1 rfl,hc.1 rfl];exact WS.ext _ _ p1 p2 q1 (by omega) (by omega) p6
def Zw(t:Tr):Prop:=t=.z∨WS t
theorem zhz{op w num:Int}{s:ByteArray}{a b c:Tr}(h:WS (.nd op w num s a b c)):Zw a∧Zw b∧Zw c:=by
 generalize ht:Tr.nd op w num s a b c=t at h;cases h with
 |tru b0=>
  injection ht with h1 h2 h3 h4 h5 h6 h7;exact⟨.inl h5,.inl h6,.inl h7⟩
 |con w0 x p1 p2=>
  injection ht with h1 h2 h3 h4 h5 h6 h7;exact⟨.inl h5,.inl h6,.inl h7⟩
 |var s0 w0 p1 p2 p3=>
  injection ht with h1 h2 h3 h4 h5 h6 h7;exact⟨.inl h5,.inl h6,.inl h7⟩
 |not p1 p2=>
  injection ht with h1 h2 h3 h4 h5 h6 h7;subst h5;exact⟨.inr p1,.inl h6,.inl h7⟩
 |tbin o p1 p2 p3 p4 p5 p6=>
  injection ht with h1 h2 h3 h4 h5 h6 h7;subst h5 h6;exact⟨.inr p3,.inr p4,.inl h7⟩
 |eq p3 p4 p5=>
  injection ht with h1 h2 h3 h4 h5 h6 h7;subst h5 h6;exact⟨.inr p3,.inr p4,.inl h7⟩
 |cmp o p1 p2 p3 p4 p5 p6=>
  injection ht with h1 h2 h3 h4 h5 h6 h7;subst h5 h6;exact⟨.inr p3,.inr p4,.inl h7⟩
 |ite p1 p2 p3 p4 p5=>
  injection ht with h1 h2 h3 h4 h5 h6 h7;subst h5 h6 h7;exact⟨.inr p1,.inr p2,.inr p3⟩
 |un o p1 p2 p3 p4=>
  injection ht with h1 h2 h3 h4 h5 h6 h7;subst h5;exact⟨.inr p3,.inl h6,.inl h7⟩
 |wbin o p1 p2 p3 p4 p5 p6 p7=>
  injection ht with h1 h2 h3 h4 h5 h6 h7;subst h5 h6;exact⟨.inr p3,.inr p4,.inl h7⟩
 |cat p3 p4 p5 p6 p7=>
  injection ht with h1 h2 h3 h4 h5 h6 h7;subst h5 h6;exact⟨.inr p3,.inr p4,.inl h7⟩
 |slice i n p1 p2 p3 p4=>
  injection ht with h1 h2 h3 h4 h5 h6 h7;subst h5;exact⟨.inr p1,.inl h6,.inl h7⟩
 |ext o w0 p1 p2 p3 p4 p5 p6=>
  injection ht with h1 h2 h3 h4 h5 h6 h7;subst h5;exact⟨.inr p3,.inl h6,.inl h7⟩
theorem zcO{t r:Tr}(h:SmP t r):Same t r:=by
 induction h with
 |z=>exact⟨fun _=>rfl,fun h=>by cases h⟩
 |nd _ _ _ hs iha ihb ihc=>exact⟨fun h=>(by cases h),fun h=>by
  have:=zgg _ _ _ (ws_re h iha ihb ihc) hs
  exact⟨this.1,this.2⟩⟩
theorem zom{t r:Tr}(h:SmP t r):Zw t→r.dep≤t.dep:=by
 induction h with
 |z=>intro _;exact Nat.le_refl _
 |nd ha hb hc hs iha ihb ihc=>
  intro hz;have hw:=hz.resolve_left (fun q=>by cases q);obtain⟨pa,pb,pc⟩:=zhz hw;have i1:=iha pa;have i2:=ihb pb;have i3:=ihc pc;have:=sim_dep _ _ _ (ws_re hw (zcO ha) (zcO hb) (zcO hc)) hs;refine Nat.le_trans this ?_;show _+max _ (max _ _)≤_+max _ (max _ _);omega
theorem zlV{t r:Tr}(h:SmP t r):Zw t→Nrm r:=by
 induction h with
 |z=>intro _;trivial
 |nd ha hb hc hs iha ihb ihc=>
  intro hz;have hw:=hz.resolve_left (fun q=>by cases q);obtain⟨pa,pb,pc⟩:=zhz hw;exact zpy nrm_down _ _ _ (ws_re hw (zcO ha) (zcO hb) (zcO hc)) (iha pa) (ihb pb) (ihc pc) hs
theorem zeG:∀{t:Tr},Nrm t→SmP t t
 |.z,_=>.z
 |.nd op w num s a b c,h=>SmP.nd (k:=1) (r:=(.nd op w num s a b c,3)) (zeG h.2.1) (zeG h.2.2.1) (zeG h.2.2.2) (zjh h.1)
theorem spl2{α:Type}(n:Nd)(x:Int)(k:List Value→Option α):zaE 1 n.cells 2 (.int .i64 x) k=k (Nd.cells { n with a:=x }):=by
 have:zbV 1 n.cells 2 (.int .i64 x)=some (Nd.cells { n with a:=x }):=by kernel_rfl
 unfold zaE;rw[this]
theorem spl3{α:Type}(n:Nd)(x:Int)(k:List Value→Option α):zaE 1 n.cells 3 (.int .i64 x) k=k (Nd.cells { n with b:=x }):=by
 have:zbV 1 n.cells 3 (.int .i64 x)=some (Nd.cells { n with b:=x }):=by kernel_rfl
 unfold zaE;rw[this]
theorem spl4{α:Type}(n:Nd)(x:Int)(k:List Value→Option α):zaE 1 n.cells 4 (.int .i64 x) k=k (Nd.cells { n with c:=x }):=by
 have:zbV 1 n.cells 4 (.int .i64 x)=some (Nd.cells { n with c:=x }):=by kernel_rfl
 unfold zaE;rw[this]
structure SV(B:Hp)(E:Env)(mp:Nat)(H:Hp)(L:List Nd)(K:List (ByteArray×Int))(Fm:Int→Int):Prop where
 ms:∃sl,MS (E.re H sl) H L K∧∀j,Foot E.p E.f E.g sl j→B.next≤j∧j≠mp
 m:B.next≤E.m∧E.m≠mp
 d:B.next≤E.d∧E.d≠mp
 mq:B.next≤mp∧mp<H.next
 next:B.next≤H.next
 old:∀j,j<B.next→H.get j=B.get j
 map:MapF H mp Fm
 z:Fm 0=0
def MadeS(Ls L:List Nd)(Fm:Int→Int)(u:Nat):Prop:=∃r,Tm L (Fm (u:Int)) r∧SmP (tr Ls u) r
section
variable {B:Hp}(hT:TabB B){q fs gs:Nat}{lims:Int}{Ls:List Nd}{Ks:List (ByteArray×Int)}{sls:Value}(hsrc:StF B q lims Ls Ks sls fs gs)(hgs:zb8 Ls Ks)(hLs:Ls.length≤2^40){O:List Nat}(hbd:∀t∈O,1≤t∧t≤Ls.length)(hcl:zd6 Ls O)(hol:O.length≤2^40){v:Value}(hv:Rdb B 1 v O.length (ints O)){E:Env}{mp:Nat}
include hT hsrc hgs hLs hbd hcl hol hv
theorem simp_step{i t:Nat}(ht:O[i]?=some t){H:Hp}{L:List Nd}{K:List (ByteArray×Int)}{Fm:Int→Int}(h:SV B E mp H L K Fm)(hm:∀u∈O.take i,MadeS Ls L Fm u)(hk:zpk Ls O K){c:Nat}
  (hc:∀a b d,SmP (tr Ls (zaJ Ls t).a.toNat) a→SmP (tr Ls (zaJ Ls t).b.toNat) b→SmP (tr Ls (zaJ Ls t).c.toNat) d→∃k r,simF k (trN (zaJ Ls t) a b d)=some r∧1+r.2≤c) (hl:L.length+c≤2^40) :
  ∃H' L' K' x,zbd RR (.pointer (some ⟨q,0,none⟩)) v (.map (some mp)) (.int .i64 (O.length:Int)) (ptr E.m) [.int .i64 (i:Int)] H=some (.next,[.int .i64 ((i+1:Nat):Int)],H')∧SV B E mp H' L' K' (fun y=>if y=(t:Int) then x else Fm y)∧(∃M,L'=L++M)∧L'.length≤L.length+c∧zpk Ls O K'∧(∃r,Tm L' x r∧SmP (tr Ls t) r):=by
 have hlt:i<O.length:=(List.getElem?_eq_some_iff.1 ht).1;have htm:=mem_of_getElem? ht;have hb:=hbd t htm;have hn:=zaS hb;have hkid:=hcl i t ht;obtain⟨sl,S,ft⟩:=h.ms;have hn1:=h.next;have hstH:StF H q lims Ls Ks sls fs gs:=hsrc.keep (fun j hj=>h.old j (hsrc.foot_lt hj)) hn1;have hvH:Rdb H 1 v O.length (ints O):=hv.keep' (fun j hj=>h.old j (hv.lt hj)) hn1;obtain⟨y,x1,x2⟩:=Rdb.at1 hvH (i:=i) (z:=.int .i64 (t:Int)) (by unfold ints;rw[List.getElem?_map,ht];rfl);have qq:(i:Int)<(O.length:Int):=by omega
 have w1:IntKind.i64.wrap ((i:Int)+1)=((i+1:Nat):Int):=zaV (by omega) (by omega);have hTt:isT Ls (t:Int)=true:=zbv.2 ⟨by omega,by omega⟩;have hnd:zj6 Ls (t:Int)=zaJ Ls t:=by rw[zlk hTt];unfold ndI;rw[hTt,if_pos rfl,Int.toNat_natCast]
 have e1:RR AC [.pointer (some ⟨q,0,none⟩),.int .i64 (t:Int)] H=some (.tuple #[(zaJ Ls t).val,.int .i64 0],H):=by have:=Go.AM.c10 hstH.st (by omega) (t:Int);rw[hnd,hTt]at this;exact this
 have hrt:=hgs.rt _ (mem_of_getElem? hn);have hnum:=hgs.num _ (mem_of_getElem? hn);have htr:=zcm hgs.dag hb.1 hn;obtain⟨ka,kb,kc⟩:=zmf hgs.dag hn;have da:=hgs.dag.a _ _ hn;have db:=hgs.dag.b _ _ hn;have dc:=hgs.dag.c _ _ hn;have part:∀x:Int,(x≠0→∃u∈kids Ls t,x=(u:Int))→SmP (tr Ls x.toNat) (tr L (Fm x).toNat)∧(x=0∨(isT L (Fm x)=true∧∀d,wT L d (Fm x)=wT Ls d x)):=fun x hx=>by
  by_cases h0:x=0
  ·subst h0;rw[h.z];exact⟨.z,.inl rfl⟩
  ·obtain⟨u,hu,rfl⟩:=hx h0;have hup:=hkid u hu;obtain⟨r,tm,sm⟩:=hm u hup;have hub:=hbd u (mem_of_mem_take hup);have hwu:=zh2 hgs u hub.1 hub.2;have hw:=((zcO sm).2 hwu).2;refine⟨by rw[Int.toNat_natCast,tm.is];exact sm,.inr ⟨tm.isT,fun d=>?_⟩⟩;have e:Fm (u:Int)=(((Fm (u:Int)).toNat:Nat):Int):=by have:=tm.lo;omega
   have a1:(zaJ Ls u).w=(tr Ls u).w:=(tr_w hgs.dag hub).symm;have a2:(zaJ L (Fm (u:Int)).toNat).w=r.w:=by rw[←tr_w S.good.dag tm.bd,tm.is]
   rw[e,wT_eq tm.bd,wT_eq hub,a1,a2,hw]
 obtain⟨sa,pa⟩:=part _ ka;obtain⟨sb,pb⟩:=part _ kb;obtain⟨sc,pc⟩:=part _ kc;obtain⟨k,r,hs,hrc⟩:=hc _ _ _ sa sb sc;have hmap:∀x:Int,mapP Fm x=Fm x:=fun x=>by
  unfold mapP;by_cases h0:x=0
  ·rw[if_pos h0,h0,h.z]
  ·rw[if_neg h0]
 have hfree:=hk t htm;have hset:=fun h4=>hk.set hgs hbd htm h4;generalize hN:zaJ Ls t=n at *;have hn':mapN Fm n={ n with a:=Fm n.a,b:=Fm n.b,c:=Fm n.c }:=by show { n with a:=mapP Fm n.a,b:=mapP Fm n.b,c:=mapP Fm n.c }=_;rw[hmap,hmap,hmap]
 have hR:zed L K (mapN Fm n):=right_map hrt pa pb pc hfree (fun h=>by omega) (fun h=>by omega) (fun h=>by omega);have hT1:trP L (mapN Fm n)=trN n (tr L (Fm n.a).toNat) (tr L (Fm n.b).toNat) (tr L (Fm n.c).toNat):=by rw[hn'];rfl
 obtain⟨H1,L1,K1,x,e2,S1,hM,hl1,tm1,hK⟩:=c_Make S hR (show ziT (mapN Fm n) from hnum) (by rw[hT1];exact hs) (by omega);rw[hn']at e2;have nF:∀j,Foot E.p E.f E.g sl j∨j=E.d→B.next≤j∧j≠mp:=fun j hj=>hj.elim (ft j) fun z=>by rw[z];exact h.d
 have hnx:H.next≤H1.next:=S1.next;have ho1:∀j,j<H.next→¬(Foot E.p E.f E.g sl j∨j=E.d)→H1.get j=H.get j:=fun j a b=>S1.old j a b;have hmp1:MapF H1 mp Fm:=h.map.keep (ho1 mp h.mq.2 fun z=>(nF mp z).2 rfl);obtain⟨H2,u1,u2,u3,u4⟩:=hmp1.upd ikV (t:Int) x;have hrun:zbd RR (.pointer (some ⟨q,0,none⟩)) v (.map (some mp)) (.int .i64 (O.length:Int)) (ptr E.m) [.int .i64 (i:Int)] H=some (.next,[.int .i64 ((i+1:Nat):Int)],H2):=by unfold zbd;simp only[qg0];have lw:∀(z:Int) (f:Value→Option Outc),zc3 PP Aa (.int .i64 0) (.map (some mp)) (.int .i64 z) false H f=f (.int .i64 (Fm z)):=fun z f=>h.map.look ikV _ f;have e2:RR Bd [ptr E.m,Nd.val { n with a:=Fm n.a,b:=Fm n.b,c:=Fm n.c }] H=_:=e2;rw[lT qq,x1,x2,zac e1,x01,spl7,za9,lw,zcl,lw,zny,lw,spl2,spl3,spl4,zgl,zac e2,x01,u1,zbM,w1]
 obtain⟨sl1,st1,ft1⟩:=S1.st;have ft2:∀j,Foot E.p E.f E.g sl1 j→B.next≤j∧j≠mp:=fun j hj=>by
  have a:=(ft1 j hj).1;rcases a with a|a
  ·exact nF j a
  ·have a:H.next≤j:=a;have:=h.mq;omega
 have hB2:∀j,j<B.next→H2.get j=B.get j:=fun j hj=>by have:=h.mq;rw[u3 j (by omega),ho1 j (by omega) (fun z=>by have:=nF j z;omega),h.old j hj]
 have hm0:=h.m;have hd0:=h.d;have hmp0:=h.mq;have hml:E.m<H1.next:=S1.ml;have hdl:E.d<H1.next:=S1.dl;have hobj:H1.get E.m=some (.cells (mkC E.p E.d) true):=S1.obj;obtain⟨D,hD,hOk⟩:=S1.done;have hD:MapN H1 E.d encD D:=hD;refine⟨H2,L1,K1,x,hrun,⟨⟨sl1,⟨Nat.le_refl _,fun _ _ _=>rfl,?_,?_,?_,S1.md,.inl (.inr rfl),⟨sl1,st1.keep (fun j hj=>u3 j (ft2 j hj).2) (by omega),fun j hj=>⟨.inl (.inl hj),(ft1 j hj).2⟩⟩,⟨D,?_,hOk⟩,S1.good,⟨?_,?_⟩,?_⟩,ft2⟩,h.m,h.d,⟨h.mq.1,by omega⟩,by omega,hB2,u2,?_⟩,hM,by omega,?_,⟨r.1,tm1,?_⟩⟩
 ·show H2.get E.m=_;rw[u3 _ hm0.2];exact hobj
 ·show E.m<H2.next;omega
 ·show E.d<H2.next;omega
 ·show MapN H2 E.d encD D;exact hD.keep (u3 _ hd0.2)
 ·show Au<H2.next;have:=hT.lt;omega
 ·show ∃cs e fz,H2.get Au=_∧_;rw[hB2 _ hT.lt];exact hT.ob
 ·intro z;have:=hT.lt;rcases z with z|z
  ·have:=ft2 _ z;omega
  ·omega
 ·show (if (0:Int)=(t:Int) then x else Fm 0)=0;rw[if_neg (by omega)];exact h.z
 ·rcases hK with hK|⟨h4,hK⟩
  ·rw[hK];exact hk
  ·have e:zbm (mapN Fm n).name (mapN Fm n).w K=zbm n.name n.w K:=rfl;rw[hK,e];exact hset h4
 ·rw[htr];exact SmP.nd sa sb sc hs
end
section
variable {B:Hp}(hT:TabB B){q fs gs:Nat}{lims:Int}{Ls:List Nd}{Ks:List (ByteArray×Int)}{sls:Value}(hsrc:StF B q lims Ls Ks sls fs gs)(hgs:zb8 Ls Ks)(hLs:Ls.length≤2^40){O:List Nat}(hbd:∀t∈O,1≤t∧t≤Ls.length)(hcl:zd6 Ls O)(hol:O.length≤2^40){v:Value}(hv:Rdb B 1 v O.length (ints O)){E:Env}{mp:Nat}
include hT hsrc hgs hLs hbd hcl hol hv
theorem zmW(hnd:O.Nodup){bud:Nat→Nat}(hbud:∀i t,O[i]?=some t→∀a b d,SmP (tr Ls (zaJ Ls t).a.toNat) a→SmP (tr Ls (zaJ Ls t).b.toNat) b→SmP (tr Ls (zaJ Ls t).c.toNat) d→∃k r,simF k (trN (zaJ Ls t) a b d)=some r∧bud i+(1+r.2)≤bud (i+1))(hmono:∀i j,i≤j→bud i≤bud j)(htop:bud O.length≤2^40) :
  ∀(k i:Nat) (H:Hp) (L:List Nd) (K:List (ByteArray×Int)) (Fm:Int→Int),i+k=O.length→SV B E mp H L K Fm→(∀u∈O.take i,MadeS Ls L Fm u)→zpk Ls O K→L.length≤bud i →
   ∃H' L' K' Fm',zbi (zbd RR (.pointer (some ⟨q,0,none⟩)) v (.map (some mp)) (.int .i64 (O.length:Int)) (ptr E.m)) [.int .i64 (i:Int)] H=some (.exit 0,[.int .i64 (O.length:Int)],H')∧SV B E mp H' L' K' Fm'∧(∀u∈O,MadeS Ls L' Fm' u)∧L'.length≤bud O.length
 |0,i,H,L,K,Fm,hik,h,hm,hk,hl=>by
  have:i=O.length:=by omega
  subst this;rw[take_length]at hm;refine⟨H,L,K,Fm,?_,h,hm,hl⟩;have:zbd RR (.pointer (some ⟨q,0,none⟩)) v (.map (some mp)) (.int .i64 (O.length:Int)) (ptr E.m) [.int .i64 (O.length:Int)] H=some (.exit 0,[.int .i64 (O.length:Int)],H):=by unfold zbd;simp only[qg0];rw[lF (Int.lt_irrefl _)]
  rw[zaW,this];rfl
 |k+1,i,H,L,K,Fm,hik,h,hm,hk,hl=>by
  have hlt:i<O.length:=by omega
  have hi:O[i]?=some O[i]:=List.getElem?_eq_getElem hlt;have htk:O.take (i+1)=O.take i++[O[i]]:=by rw[take_add_one,hi];rfl
  have hnew:∀u∈O.take i,u≠O[i]:=fun u hu e=>by have h2:=hnd;rw[←take_append_drop i O,drop_eq_getElem_cons hlt]at h2;exact(nodup_append.1 h2).2.2 u hu O[i] (mem_cons_self ..) e
  generalize O[i]=t at hi htk hnew;have hb1:=hmono (i+1) O.length (by omega);have hb2:=hmono i (i+1) (by omega)
  obtain⟨H1,L1,K1,x,e1,s1,⟨M,eM⟩,l1,k1,r,r1,r2⟩:=simp_step hT hsrc hgs hLs hbd hcl hol hv hi h hm hk (c:=bud (i+1)-bud i) (fun a b d p1 p2 p3=>by
   obtain⟨k,r,q1,q2⟩:=hbud i t hi a b d p1 p2 p3
   exact⟨k,r,q1,by omega⟩) (by omega)
  have hd0:Dag L:=h.ms.elim fun sl z=>z.1.good.dag;have hd1:Dag L1:=s1.ms.elim fun sl z=>z.1.good.dag
  obtain⟨H',L',K',Fm',g1,g2,g3,g4⟩:=zmW hnd hbud hmono htop k (i+1) H1 L1 K1 _ (by omega) s1 (fun u hu=>by
   rw[htk,mem_append,mem_singleton]at hu;rcases hu with hu|hu
   ·obtain⟨r',a1,a2⟩:=hm u hu;refine⟨r',?_,a2⟩;show Tm L1 (if (u:Int)=(t:Int) then x else Fm (u:Int)) r';rw[if_neg (fun e=>hnew u hu (by omega))];rw[eM]at hd1 ⊢;exact a1.app hd0 hd1
   ·subst hu
    exact⟨r,by
     show Tm L1 (if (u:Int)=(u:Int) then x else Fm (u:Int)) r
     rw[if_pos rfl];exact r1,r2⟩) k1 (by omega)
  exact⟨H',L',K',Fm',by rw[zaW,e1];exact g1,g2,g3,g4⟩
end
theorem zmV{B:Hp}{m:Nat}{tm:Int→Int}{x:Value}{ns:List Nat}(hx:RdO B 1 x ns.length (ints ns))(hl:ns.length≤2^40)(hm:MapF B m tm)(hml:m<B.next):∀(k i:Nat) (H:Hp) (acc:Value),i+k=ns.length→MadeN 1 B H acc i (zb1 ((ns.take i).map fun (t:Nat)=>tm (t:Int))) →
  ∃H' acc',zbi (zbl RR x (.map (some m)) (.int .i64 (ns.length:Int))) [acc,.int .i64 (i:Int)] H=some (.exit 2,[acc',.int .i64 (ns.length:Int)],H')∧MadeN 1 B H' acc' ns.length (zb1 (ns.map fun (t:Nat)=>tm (t:Int)))
 |0,i,H,acc,hk,h=>by
  have:i=ns.length:=by omega
  subst this;rw[take_length]at h;refine⟨H,acc,?_,h⟩;have:zbl RR x (.map (some m)) (.int .i64 (ns.length:Int)) [acc,.int .i64 (ns.length:Int)] H=some (.exit 2,[acc,.int .i64 (ns.length:Int)],H):=by unfold zbl;simp only[qg0,qg1];rw[lF (Int.lt_irrefl _)]
  rw[zaW,this];rfl
 |k+1,i,H,acc,hk,h=>by
  have hlt:i<ns.length:=by omega
  have hi:ns[i]?=some ns[i]:=List.getElem?_eq_getElem hlt;have htk:ns.take (i+1)=ns.take i++[ns[i]]:=by rw[take_add_one,hi];rfl
  generalize ns[i]=t at hi htk;have hfr:Frm (fun _=>False) B H:=⟨h.next,fun j hj _=>h.old j hj⟩
  have hxH:=hx.keep hfr fun _ _ q=>q;obtain⟨y,x1,x2⟩:=hxH.at1 (i:=i) (z:=.int .i64 (t:Int)) (by unfold ints;rw[List.getElem?_map,hi];rfl);have hmH:MapF H m tm:=hm.keep (h.old m hml);have lw:∀(f:Value→Option Outc),zc3 PP Aa (.int .i64 0) (.map (some m)) (.int .i64 (t:Int)) false H f=f (.int .i64 (tm (t:Int))):=fun f=>hmH.look ikV _ f;have q:(i:Int)<(ns.length:Int):=by omega
  have w1:IntKind.i64.wrap ((i:Int)+1)=((i+1:Nat):Int):=zaV (by omega) (by omega);obtain⟨v',H1,p1,p2,p3,p4,_⟩:=h.vec.push (bytes:=8) (zs:=[.int .i64 0]) (x:=.int .i64 (tm (t:Int))) (by decide) (by decide) rfl rfl rfl (by omega);have hn:=h.next;have hcs:zb1 ((ns.take i).map fun (t:Nat)=>tm (t:Int))++zad (.int .i64 (tm (t:Int)))=zb1 ((ns.take (i+1)).map fun (t:Nat)=>tm (t:Int)):=by rw[htk];simp[zb1];rfl
  rw[hcs]at p2
  have h1:MadeN 1 B H1 v' (i+1) (zb1 ((ns.take (i+1)).map fun (t:Nat)=>tm (t:Int))):=⟨Nat.le_trans hn p3.next,fun j hj=>by rw[p3.same j (by omega) (fun z=>by have:=h.new j z;omega),h.old j hj],p2,fun j hj=>by
   rcases p4 j hj with z|z
   ·exact h.new j z
   ·omega⟩
  obtain⟨H',acc',g1,g2⟩:=zmV hx hl hm hml k (i+1) H1 v' (by omega) h1;refine⟨H',acc',?_,g2⟩;have:zbl RR x (.map (some m)) (.int .i64 (ns.length:Int)) [acc,.int .i64 (i:Int)] H=some (.next,[v',.int .i64 ((i+1:Nat):Int)],H1):=by unfold zbl;simp only[qg0,qg1];rw[lT q,x1,x2,lw,p1,zbM,w1]
  rw[zaW,this];exact g1
structure SimR(H0 H':Hp)(E:Env)(Ls:List Nd)(ns:List Nat)(L:List Nd)(K:List (ByteArray×Int))(v:Value)(ys:List Nat):Prop where
 ms:MS E H' L K
 base:E.B=H'
 len:ys.length=ns.length
 vec:Vec H' 1 v ys.length (ints ys)
 new:∀j,Id v j→H0.next≤j∧¬E.F0 j∧j≠E.m
 foot:∀j,E.F0 j→H0.next≤j
 m:H0.next≤E.m
 frm:Frm (fun _=>False) H0 H'
 is:∀(i t:Nat),ns[i]?=some t→∃u r,ys[i]?=some u∧Tm L (u:Int) r∧SmP (tr Ls t) r
theorem zlL{H0:Hp}(hT:TabB H0){q fs gs:Nat}{lims:Int}{Ls:List Nd}{Ks:List (ByteArray×Int)}{sls:Value}(hsrc:StF H0 q lims Ls Ks sls fs gs)(hgs:zb8 Ls Ks)(hLs:Ls.length≤2^40){x:Value}{ns:List Nat}(hx:RdO H0 1 x ns.length (ints ns))(hnl:ns.length≤2^40)(hns:∀t∈ns,1≤t∧t≤Ls.length)
  {bud:Nat→Nat} (hbud:∀i t,(posts Ls ns [])[i]?=some t→∀a b d,SmP (tr Ls (zaJ Ls t).a.toNat) a→SmP (tr Ls (zaJ Ls t).b.toNat) b→SmP (tr Ls (zaJ Ls t).c.toNat) d→∃k r,simF k (trN (zaJ Ls t) a b d)=some r∧bud i+(1+r.2)≤bud (i+1)) (hmono:∀i j,i≤j→bud i≤bud j) (htop:bud (posts Ls ns []).length≤2^40) :
  ∃H' E L K v ys,RR Be [.pointer (some ⟨q,0,none⟩),x] H0=some (.tuple #[ptr E.m,v,.int .i64 0],H')∧SimR H0 H' E Ls ns L K v ys∧L.length≤bud (posts Ls ns []).length:=by
 have hr:=(zfv E0 rfl (.pointer (some ⟨q,0,none⟩)) x H0).trans (zfS _ _ _ _);obtain⟨H1,v1,e1,o1⟩:=Go.AM.zpf hsrc hgs.dag (by omega) hx hnl hns;obtain⟨p1,p2,p3,p4⟩:=zdw hgs hns;have hpl:(posts Ls ns []).length≤Ls.length:=Told.len ((⟨nodup_nil,fun x h=>by cases h⟩:Told Ls.length []).posts hgs.dag hns);have kfree:zpk Ls (posts Ls ns []) []:=fun t ht h4=>bad_of (zi9 ((hgs.rt _ (mem_of_getElem? (zaS (p2 t ht)))).free h4)).1 fun j v hv=>by cases hv
 generalize posts Ls ns []=O at *;have f1:Frm (fun _=>False) H0 H1:=⟨o1.next,fun j hj _=>o1.old j hj⟩
 have hT1:TabB H1:=⟨Nat.lt_of_lt_of_le hT.lt o1.next,by rw[o1.old _ hT.lt];exact hT.ob⟩
 have hst1:StF H1 q lims Ls Ks sls fs gs:=hsrc.keep (fun j hj=>o1.old j (hsrc.foot_lt hj)) o1.next;obtain⟨H2,e2,S2⟩:=c_sNew H1 hT1;have hm:∀(H:Hp) (f:Value→Hp→Option (Value×Hp)),zcG H f=f (.map (some H.next)) (H.new (.map [])):=fun H f=>rfl;obtain⟨sl,st,ft⟩:=S2.st;have S3:MS (envN H1) (H2.new (.map [])) [] []:=S2.frm (zlG _ _ _);have st3:StF (H2.new (.map [])) (envN H1).p 0 [] [] sl (envN H1).f (envN H1).g:=st.keep (fun j hj=>by have:=st.foot_lt hj;rw[get_new,if_neg (by omega)]) (by show H2.next≤H2.next+1;omega);have hn12:H1.next≤H2.next:=S2.next;have hB:(envN H1).B.next=H1.next:=rfl;have hmE:(envN H1).m=H1.next+4:=rfl;have hdE:(envN H1).d=H1.next+3:=rfl;have hml:=S2.ml;have hdl:=S2.dl;have hold2:∀j,j<H1.next→H2.get j=H1.get j:=fun j hj=>S2.old j hj fun z=>z;have hSV:SV H1 (envN H1) H2.next (H2.new (.map [])) [] [] (fun _=>0):=by
  refine⟨⟨sl,S3.re st3 ft,fun j hj=>⟨?_,?_⟩⟩,by omega,by omega,⟨hn12,by show H2.next<H2.next+1;omega⟩,by show H1.next≤H2.next+1;omega,fun j hj=>by rw[get_new,if_neg (by omega),hold2 j hj],MapF.new H2,rfl⟩
  ·exact(ft j hj).1.elim (fun z=>z.elim) fun z=>by omega
  ·have:=st.foot_lt hj;omega
 obtain⟨H4,L4,K4,Fm,l1,h4,m4,b4⟩:=zmW hT1 hst1 hgs hLs p2 p3 (by omega) (Vec.rd o1.vec) p1 hbud hmono htop O.length 0 _ _ _ _ (Nat.zero_add _) hSV (fun u hu=>by cases hu) kfree (Nat.zero_le _);have l1:zbi (zbd RR (.pointer (some ⟨q,0,none⟩)) v1 (.map (some H2.next)) (.int .i64 (O.length:Int)) (ptr (envN H1).m)) [.int .i64 0] (H2.new (.map []))=_:=l1;have f14:Frm (fun _=>False) H1 H4:=⟨h4.next,fun j hj _=>h4.old j hj⟩
 have f04:Frm (fun _=>False) H0 H4:=⟨Nat.le_trans o1.next h4.next,fun j hj _=>by rw[h4.old j (Nat.lt_of_lt_of_le hj o1.next),o1.old j hj]⟩
 have hx4:RdO H4 1 x ns.length (ints ns):=hx.keep f04 fun _ _ q=>q;obtain⟨H5,v5,l2,m5⟩:=zmV hx4 hnl h4.map h4.mq.2 ns.length 0 H4 (.slice none 0 0) (Nat.zero_add _) ⟨Nat.le_refl _,fun _ _=>rfl,by rw[take_zero];exact Vec.nil _ _,fun j hj=>by cases hj⟩;have l2:zbi (zbl RR x (.map (some H2.next)) (.int .i64 (ns.length:Int))) [.slice none 0 0,.int .i64 0] H4=_:=l2;have hv2:Vec (H2.new (.map [])) 1 v1 O.length (ints O):=o1.vec.keep ⟨by show H1.next≤H2.next+1;omega,fun j hj _=>by rw[get_new,if_neg (by omega),hold2 j hj]⟩ fun _ _ q=>q;rw[zac e1,x01,zcz,bF (by decide),zac e2,hm,hv2.len,l1,zay,zb3,zbf,hx4.len,l2,zay,zb3,zbf]at hr;obtain⟨sl4,S4,ft4⟩:=h4.ms;have S5:=S4.frm (H':=H5) ⟨m5.next,fun j hj _=>m5.old j hj⟩;obtain⟨sl5,st4',ft5⟩:=S4.st;have st5:StF H5 (envN H1).p 0 L4 K4 sl5 (envN H1).f (envN H1).g:=st4'.keep (fun j hj=>m5.old j (st4'.foot_lt hj)) m5.next;have hn4:=h4.next;have hF4:∀j,Foot (envN H1).p (envN H1).f (envN H1).g sl5 j→H1.next≤j:=fun j hj=>by
  rcases (ft5 j hj).1 with z|z
  ·rcases z with z|z
   ·exact(ft4 j z).1
   ·have:=h4.d;omega
  ·have z:H4.next≤j:=z;omega
 have S6:=S5.re st5 ft5;have hys:(ns.map fun (t:Nat)=>(Fm (t:Int)).toNat).length=ns.length:=length_map ..;have hnat:∀t∈ns,Fm (t:Int)=(((Fm (t:Int)).toNat:Nat):Int):=fun t ht=>by obtain⟨r,a,_⟩:=m4 t (p4 t ht);have:=a.lo;omega
 have hints:zb1 (ns.map fun (t:Nat)=>Fm (t:Int))=ints (ns.map fun (t:Nat)=>(Fm (t:Int)).toNat):=by rw[zcK,map_map];congr 1;exact map_congr_left fun t ht=>hnat t ht
 refine⟨H5,((envN H1).re H4 sl4).re H5 sl5,L4,K4,v5,ns.map fun (t:Nat)=>(Fm (t:Int)).toNat,hr,⟨S6,rfl,hys,by rw[hys,←hints];exact m5.vec,fun j hj=>?_,fun j hj=>?_,?_,⟨Nat.le_trans f04.next m5.next,fun j hj _=>by rw[m5.old j (Nat.lt_of_lt_of_le hj f04.next),f04.same j hj fun q=>q]⟩,fun i t hi=>?_⟩,b4⟩
 ·have a:=m5.new j hj;have b:(envN H1).m<H4.next:=S4.ml;have d:(envN H1).d<H4.next:=S4.dl;refine⟨by have:=f04.next;omega,fun z=>?_,?_⟩
  ·rcases z with z|z
   ·have:=st4'.foot_lt z;omega
   ·have z:j=(envN H1).d:=z;omega
  ·show j≠(envN H1).m;omega
 ·have:=o1.next;rcases hj with z|z
  ·have:=hF4 j z;omega
  ·have z:j=(envN H1).d:=z;omega
 ·show H0.next≤(envN H1).m;have:=o1.next;omega
 ·obtain⟨r,a,b⟩:=m4 t (p4 t (mem_of_getElem? hi));refine⟨(Fm (t:Int)).toNat,r,by rw[List.getElem?_map,hi];rfl,?_,b⟩;rw[←hnat t (mem_of_getElem? hi)];exact a
end Go.AM.N14
namespace Go.AM.N14
open Go Go.AM
def lfO:Ex→Tr
 |.old t=>t
 |.tru b=>tTru b
 |.con w x=>tCon w x
 |_=>.z
def zaO:Ex→Prop
 |.old _=>True
 |.tru _=>True
 |.con _ _=>True
 |_=>False
def nuN(op:Int)(a b:Tr):Nat:=if op=8 then 1+a.lead+b.lead else if op=9 then 2*max a.w.toNat 1-1 else if op=10∨op=12 then 2*max a.w.toNat 1 else if op=11∨op=13 then 1+2*max a.w.toNat 1 else if op=14 then 2 else 1
def nu:Tr→Nat
 |.z=>1
 |.nd op _ _ _ a b _=>nuN op a b
def exN:Ex→Nat
 |.old _=>0
 |.tru _=>0
 |.con _ _=>0
 |.un _ a=>exN a+1
 |.bin op a b=>exN a+exN b+nuN op (lfO a) (lfO b)
 |.ite c a b=>exN c+exN a+exN b+2
 |.slice a _ _=>exN a+1
 |.ext _ a _=>exN a+1
def okN:Ex→Prop
 |.old _=>True
 |.tru _=>True
 |.con _ _=>True
 |.un op a=>(op=5∨op=15∨op=16)∧okN a
 |.bin op a b=>((8≤op→op≤14→zaO a∧zaO b)∧op≠14)∧okN a∧okN b
 |.ite c a b=>okN c∧okN a∧okN b
 |.slice a _ _=>okN a
 |.ext op a _=>(op=32∨op=33)∧okN a
theorem zkY{op:Int}(h:op<8∨14<op)(a b:Tr):nuN op a b=1:=by unfold nuN;rw[if_neg (by omega),if_neg (by omega),if_neg (by omega),if_neg (by omega),if_neg (by omega)]
theorem nu6(a b:Tr):nuN 6 a b=1:=rfl
theorem nu7(a b:Tr):nuN 7 a b=1:=rfl
theorem nu8(a b:Tr):nuN 8 a b=1+a.lead+b.lead:=rfl
theorem nu9(a b:Tr):nuN 9 a b=2*max a.w.toNat 1-1:=rfl
theorem nu10(a b:Tr):nuN 10 a b=2*max a.w.toNat 1:=rfl
theorem nu12(a b:Tr):nuN 12 a b=2*max a.w.toNat 1:=rfl
theorem nuN_pos(op:Int)(a b:Tr):1≤nuN op a b:=by
 unfold nuN;split
 ·omega
 split
 ·omega
 split
 ·omega
 split
 ·omega
 split<;>omega
theorem zif(t:Tr):1≤nu t:=by
 cases t with
 |z=>exact Nat.le_refl _
 |nd op w num s a b c=>exact nuN_pos _ _ _
def OkB(e:Ex)(n:Nat):Prop:=okN e∧exN e≤n
theorem OkB.le{e:Ex}{n m:Nat}(h:OkB e n)(hm:n≤m):OkB e m:=⟨h.1,Nat.le_trans h.2 hm⟩
theorem nu17(a b:Tr):nuN 17 a b=1:=rfl
theorem nu18(a b:Tr):nuN 18 a b=1:=rfl
theorem nu19(a b:Tr):nuN 19 a b=1:=rfl
theorem nu20(a b:Tr):nuN 20 a b=1:=rfl
theorem nu21(a b:Tr):nuN 21 a b=1:=rfl
theorem nu22(a b:Tr):nuN 22 a b=1:=rfl
theorem nu23(a b:Tr):nuN 23 a b=1:=rfl
theorem nu24(a b:Tr):nuN 24 a b=1:=rfl
theorem nu25(a b:Tr):nuN 25 a b=1:=rfl
theorem nu26(a b:Tr):nuN 26 a b=1:=rfl
theorem nu27(a b:Tr):nuN 27 a b=1:=rfl
theorem nu28(a b:Tr):nuN 28 a b=1:=rfl
theorem nu29(a b:Tr):nuN 29 a b=1:=rfl
theorem nu30(a b:Tr):nuN 30 a b=1:=rfl
section
variable {a b c:Tr}{e:Ex}
theorem not_new(h:notT a=some e):OkB e (1):=by
 unfold notT at h;rcases ifc h with⟨q,h⟩|⟨_,h⟩
 ·cases h;(try have q9:=zaw q);exact⟨by simp[okN,zaO,isE]<;>omega,by simp only[exN,lfO,isE,nu6,nu7,nu8,nu9,nu10,nu12,nu17,nu18,nu19,nu20,nu21,nu22,nu23,nu24,nu25,nu26,nu27,nu28,nu29,nu30];omega⟩
 rcases ifc h with⟨q,h⟩|⟨_,h⟩
 ·cases h;(try have q9:=zaw q);exact⟨by simp[okN,zaO,isE]<;>omega,by simp only[exN,lfO,isE,nu6,nu7,nu8,nu9,nu10,nu12,nu17,nu18,nu19,nu20,nu21,nu22,nu23,nu24,nu25,nu26,nu27,nu28,nu29,nu30];omega⟩
 rcases ifc h with⟨q,h⟩|⟨_,h⟩
 ·cases h;(try have q9:=zaw q);exact⟨by simp[okN,zaO,isE]<;>omega,by simp only[exN,lfO,isE,nu6,nu7,nu8,nu9,nu10,nu12,nu17,nu18,nu19,nu20,nu21,nu22,nu23,nu24,nu25,nu26,nu27,nu28,nu29,nu30];omega⟩
 ·cases h
theorem and_new{op:Int}(h:andT op a b=some e):OkB e (1):=by
 unfold andT at h;generalize (if op=6 then (2:Int) else 1)=z at h;generalize (if op=6 then (1:Int) else 2)=o at h;rcases ifc h with⟨q,h⟩|⟨_,h⟩
 ·cases h;(try have q9:=zaw q);exact⟨by simp[okN,zaO,isE]<;>omega,by simp only[exN,lfO,isE,nu6,nu7,nu8,nu9,nu10,nu12,nu17,nu18,nu19,nu20,nu21,nu22,nu23,nu24,nu25,nu26,nu27,nu28,nu29,nu30];omega⟩
 rcases ifc h with⟨q,h⟩|⟨_,h⟩
 ·cases h;(try have q9:=zaw q);exact⟨by simp[okN,zaO,isE]<;>omega,by simp only[exN,lfO,isE,nu6,nu7,nu8,nu9,nu10,nu12,nu17,nu18,nu19,nu20,nu21,nu22,nu23,nu24,nu25,nu26,nu27,nu28,nu29,nu30];omega⟩
 rcases ifc h with⟨q,h⟩|⟨_,h⟩
 ·cases h;(try have q9:=zaw q);exact⟨by simp[okN,zaO,isE]<;>omega,by simp only[exN,lfO,isE,nu6,nu7,nu8,nu9,nu10,nu12,nu17,nu18,nu19,nu20,nu21,nu22,nu23,nu24,nu25,nu26,nu27,nu28,nu29,nu30];omega⟩
 rcases ifc h with⟨q,h⟩|⟨_,h⟩
 ·cases h;(try have q9:=zaw q);exact⟨by simp[okN,zaO,isE]<;>omega,by simp only[exN,lfO,isE,nu6,nu7,nu8,nu9,nu10,nu12,nu17,nu18,nu19,nu20,nu21,nu22,nu23,nu24,nu25,nu26,nu27,nu28,nu29,nu30];omega⟩
 ·cases h
theorem xor_new(h:xorT a b=some e):OkB e (1+a.lead+b.lead):=by
 unfold xorT at h;rcases ifc h with⟨q,h⟩|⟨_,h⟩
 ·cases h;(try have q9:=zaw q);exact⟨by simp[okN,zaO,isE]<;>omega,by simp only[exN,lfO,isE,nu6,nu7,nu8,nu9,nu10,nu12,nu17,nu18,nu19,nu20,nu21,nu22,nu23,nu24,nu25,nu26,nu27,nu28,nu29,nu30];omega⟩
 rcases ifc h with⟨q,h⟩|⟨_,h⟩
 ·cases h;(try have q9:=zaw q);exact⟨by simp[okN,zaO,isE]<;>omega,by simp only[exN,lfO,isE,nu6,nu7,nu8,nu9,nu10,nu12,nu17,nu18,nu19,nu20,nu21,nu22,nu23,nu24,nu25,nu26,nu27,nu28,nu29,nu30];omega⟩
 rcases ifc h with⟨q,h⟩|⟨_,h⟩
 ·cases h;(try have q9:=zaw q);exact⟨by simp[okN,zaO,isE]<;>omega,by simp only[exN,lfO,isE,nu6,nu7,nu8,nu9,nu10,nu12,nu17,nu18,nu19,nu20,nu21,nu22,nu23,nu24,nu25,nu26,nu27,nu28,nu29,nu30];omega⟩
 rcases ifc h with⟨q,h⟩|⟨_,h⟩
 ·cases h;(try have q9:=zaw q);exact⟨by simp[okN,zaO,isE]<;>omega,by simp only[exN,lfO,isE,nu6,nu7,nu8,nu9,nu10,nu12,nu17,nu18,nu19,nu20,nu21,nu22,nu23,nu24,nu25,nu26,nu27,nu28,nu29,nu30];omega⟩
 rcases ifc h with⟨q,h⟩|⟨_,h⟩
 ·cases h;(try have q9:=zaw q);exact⟨by simp[okN,zaO,isE]<;>omega,by simp only[exN,lfO,isE,nu6,nu7,nu8,nu9,nu10,nu12,nu17,nu18,nu19,nu20,nu21,nu22,nu23,nu24,nu25,nu26,nu27,nu28,nu29,nu30];omega⟩
 rcases ifc h with⟨q,h⟩|⟨_,h⟩
 ·cases h;(try have q9:=zaw q);exact⟨by simp[okN,zaO,isE]<;>omega,by simp only[exN,lfO,isE,nu6,nu7,nu8,nu9,nu10,nu12,nu17,nu18,nu19,nu20,nu21,nu22,nu23,nu24,nu25,nu26,nu27,nu28,nu29,nu30];omega⟩
 rcases ifc h with⟨q,h⟩|⟨_,h⟩
 ·cases h;(try have q9:=zaw q);exact⟨by simp[okN,zaO,isE]<;>omega,by simp only[exN,lfO,isE,nu6,nu7,nu8,nu9,nu10,nu12,nu17,nu18,nu19,nu20,nu21,nu22,nu23,nu24,nu25,nu26,nu27,nu28,nu29,nu30];omega⟩
 rcases ifc h with⟨q,h⟩|⟨_,h⟩
 ·cases h;(try have q9:=zaw q);exact⟨by simp[okN,zaO,isE]<;>omega,by simp only[exN,lfO,isE,nu6,nu7,nu8,nu9,nu10,nu12,nu17,nu18,nu19,nu20,nu21,nu22,nu23,nu24,nu25,nu26,nu27,nu28,nu29,nu30];omega⟩
 ·cases h
theorem eqC_new{k:W64}(h:eqC a k=some e):OkB e (1):=by
 unfold eqC at h;rcases ifc h with⟨q,h⟩|⟨_,h⟩
 ·cases h
 rcases ifc h with⟨q,h⟩|⟨_,h⟩
 ·cases h;(try have q9:=zaw q);exact⟨by simp[okN,zaO,isE]<;>omega,by simp only[exN,lfO,isE,nu6,nu7,nu8,nu9,nu10,nu12,nu17,nu18,nu19,nu20,nu21,nu22,nu23,nu24,nu25,nu26,nu27,nu28,nu29,nu30];omega⟩
 rcases ifc h with⟨q,h⟩|⟨_,h⟩
 ·cases h;(try have q9:=zaw q);exact⟨by simp[okN,zaO,isE]<;>omega,by simp only[exN,lfO,isE,nu6,nu7,nu8,nu9,nu10,nu12,nu17,nu18,nu19,nu20,nu21,nu22,nu23,nu24,nu25,nu26,nu27,nu28,nu29,nu30];omega⟩
 rcases ifc h with⟨q,h⟩|⟨_,h⟩
 ·cases h;(try have q9:=zaw q);exact⟨by simp[okN,zaO,isE]<;>omega,by simp only[exN,lfO,isE,nu6,nu7,nu8,nu9,nu10,nu12,nu17,nu18,nu19,nu20,nu21,nu22,nu23,nu24,nu25,nu26,nu27,nu28,nu29,nu30];omega⟩
 ·cases h;(try have q9:=zaw q);exact⟨by simp[okN,zaO,isE]<;>omega,by simp only[exN,lfO,isE,nu6,nu7,nu8,nu9,nu10,nu12,nu17,nu18,nu19,nu20,nu21,nu22,nu23,nu24,nu25,nu26,nu27,nu28,nu29,nu30];omega⟩
theorem zlA(t:Tr)(v:W64){n:Nat}(h:2*max t.w.toNat 1-1≤n):OkB (isE t v) n:=⟨by simp[okN,zaO,isE],by simp only[exN,lfO,isE,nu9];omega⟩
theorem eqK_new{k:W64}(ha:WS a)(h:eqK a k=some e):OkB e (2*max a.w.toNat 1-1):=by
 unfold eqK at h;rcases ifc h with⟨q,h⟩|⟨_,h⟩
 ·cases h;have:=zfi ha (by omega);exact zlA _ _ (by omega)
 rcases ifc h with⟨q,h⟩|⟨_,h⟩
 ·cases h;have:=zfi ha (by omega);exact zlA _ _ (by omega)
 rcases ifc h with⟨q,h⟩|⟨_,h⟩
 ·cases h;have:=zaX ha (by omega);exact zlA _ _ (by omega)
 rcases ifc h with⟨q,h⟩|⟨_,h⟩
 ·cases h;have:=zaX ha (by omega);exact zlA _ _ (by omega)
 rcases ifc h with⟨q,h⟩|⟨_,h⟩
 ·cases h;have:=zaX ha (by omega);exact zlA _ _ (by omega)
 rcases ifc h with⟨q,h⟩|⟨_,h⟩
 ·cases h;have:=zaX ha (by omega);exact⟨by simp[okN,zaO],by simp only[exN,lfO,nu9];omega⟩
 rcases ifc h with⟨q,h⟩|⟨_,h⟩
 ·rcases ifc h with⟨_,h⟩|⟨_,h⟩
  ·cases h;exact⟨trivial,Nat.zero_le _⟩
  ·cases h;have:=zfq ha (by omega);exact zlA _ _ (by omega)
 rcases ifc h with⟨q,h⟩|⟨_,h⟩
 ·exact(eqC_new h).le (by omega)
 rcases ifc h with⟨q,h⟩|⟨_,h⟩
 ·cases h;have:=zh8 ha (by omega);exact⟨by simp[okN,zaO,isE],by simp only[exN,lfO,isE,nu9,nu6];omega⟩
 ·cases h
theorem less_new{op:Int}(ho:10≤op∧op≤13)(hw:a.w=b.w)(h:zge op a b=some e):OkB e (nuN op a b):=by
 have hp:2*max a.w.toNat 1≤nuN op a b∧(op=11∨op=13→1+2*max a.w.toNat 1≤nuN op a b):=by
  unfold nuN;rw[if_neg (by omega),if_neg (by omega)];split
  ·omega
  rw[if_pos (by omega)];omega
 unfold zge at h;rcases ifc h with⟨q,h⟩|⟨_,h⟩
 ·cases h;exact⟨by simp[okN,zaO,isE],by simp only[exN,lfO,isE,nu9,nu10,nu12];omega⟩
 rcases ifc h with⟨q,h⟩|⟨_,h⟩
 ·cases h;exact⟨by simp[okN,zaO,isE],by simp only[exN,lfO,isE,nu9,nu10,nu12];omega⟩
 rcases ifc h with⟨q,h⟩|⟨_,h⟩
 ·cases h;exact⟨by simp[okN,zaO,isE],by simp only[exN,lfO,isE,nu9,nu10,nu12];omega⟩
 rcases ifc h with⟨q,h⟩|⟨_,h⟩
 ·cases h;exact⟨by simp[okN,zaO,isE],by simp only[exN,lfO,isE,nu9,nu10,nu12];omega⟩
 rcases ifc h with⟨q,h⟩|⟨_,h⟩
 ·cases h
 rcases ifc h with⟨q,h⟩|⟨_,h⟩
 ·cases h;exact⟨by simp[okN,zaO,isE],by simp only[exN,lfO,isE,nu9,nu10,nu12];omega⟩
 rcases ifc h with⟨q,h⟩|⟨_,h⟩
 ·cases h;exact⟨by simp[okN,zaO,isE],by simp only[exN,lfO,isE,nu9,nu10,nu12];omega⟩
 rcases ifc h with⟨q,h⟩|⟨_,h⟩
 ·cases h;exact⟨by simp[okN,zaO,isE],by simp only[exN,lfO,isE,nu9,nu10,nu12];omega⟩
 rcases ifc h with⟨q,h⟩|⟨_,h⟩
 ·cases h;exact⟨by simp[okN,zaO,isE],by simp only[exN,lfO,isE,nu9,nu10,nu12];omega⟩
 rcases ifc h with⟨q,h⟩|⟨_,h⟩
 ·cases h;exact⟨by simp[okN,zaO,isE],by simp only[exN,lfO,isE,nu9,nu10,nu12];omega⟩
 ·cases h
theorem eq_new(ha:WS a)(hw:a.w=b.w)(h:eqT a b=some e):OkB e (2*max a.w.toNat 1-1):=by
 unfold eqT at h;rcases ifc h with⟨q,h⟩|⟨_,h⟩
 ·cases h;(try have q9:=zaw q);exact⟨by simp[okN,zaO,isE]<;>omega,by simp only[exN,lfO,isE,nu6,nu7,nu8,nu9,nu10,nu12,nu17,nu18,nu19,nu20,nu21,nu22,nu23,nu24,nu25,nu26,nu27,nu28,nu29,nu30];omega⟩
 rcases ifc h with⟨q,h⟩|⟨_,h⟩
 ·cases h;(try have q9:=zaw q);exact⟨by simp[okN,zaO,isE]<;>omega,by simp only[exN,lfO,isE,nu6,nu7,nu8,nu9,nu10,nu12,nu17,nu18,nu19,nu20,nu21,nu22,nu23,nu24,nu25,nu26,nu27,nu28,nu29,nu30];omega⟩
 rcases ifc h with⟨q,h⟩|⟨_,h⟩
 ·cases h;(try have q9:=zaw q);exact⟨by simp[okN,zaO,isE]<;>omega,by simp only[exN,lfO,isE,nu6,nu7,nu8,nu9,nu10,nu12,nu17,nu18,nu19,nu20,nu21,nu22,nu23,nu24,nu25,nu26,nu27,nu28,nu29,nu30];omega⟩
 rcases ifc h with⟨q,h⟩|⟨_,h⟩
 ·cases h;(try have q9:=zaw q);exact⟨by simp[okN,zaO,isE]<;>omega,by simp only[exN,lfO,isE,nu6,nu7,nu8,nu9,nu10,nu12,nu17,nu18,nu19,nu20,nu21,nu22,nu23,nu24,nu25,nu26,nu27,nu28,nu29,nu30];omega⟩
 rcases ifc h with⟨q,h⟩|⟨_,h⟩
 ·cases h;(try have q9:=zaw q);exact⟨by simp[okN,zaO,isE]<;>omega,by simp only[exN,lfO,isE,nu6,nu7,nu8,nu9,nu10,nu12,nu17,nu18,nu19,nu20,nu21,nu22,nu23,nu24,nu25,nu26,nu27,nu28,nu29,nu30];omega⟩
 rcases ifc h with⟨q,h⟩|⟨_,h⟩
 ·cases h;(try have q9:=zaw q);exact⟨by simp[okN,zaO,isE]<;>omega,by simp only[exN,lfO,isE,nu6,nu7,nu8,nu9,nu10,nu12,nu17,nu18,nu19,nu20,nu21,nu22,nu23,nu24,nu25,nu26,nu27,nu28,nu29,nu30];omega⟩
 rcases ifc h with⟨q,h⟩|⟨_,h⟩
 ·exact eqK_new ha h
 ·cases h
theorem ite_new{w:Int}(h:iteT w a b c=some e):OkB e (2):=by
 unfold iteT at h;rcases ifc h with⟨q,h⟩|⟨_,h⟩
 ·cases h;(try have q9:=zaw q);exact⟨by simp[okN,zaO,isE]<;>omega,by simp only[exN,lfO,isE,nu6,nu7,nu8,nu9,nu10,nu12,nu17,nu18,nu19,nu20,nu21,nu22,nu23,nu24,nu25,nu26,nu27,nu28,nu29,nu30];omega⟩
 rcases ifc h with⟨q,h⟩|⟨_,h⟩
 ·cases h;(try have q9:=zaw q);exact⟨by simp[okN,zaO,isE]<;>omega,by simp only[exN,lfO,isE,nu6,nu7,nu8,nu9,nu10,nu12,nu17,nu18,nu19,nu20,nu21,nu22,nu23,nu24,nu25,nu26,nu27,nu28,nu29,nu30];omega⟩
 rcases ifc h with⟨q,h⟩|⟨_,h⟩
 ·cases h;(try have q9:=zaw q);exact⟨by simp[okN,zaO,isE]<;>omega,by simp only[exN,lfO,isE,nu6,nu7,nu8,nu9,nu10,nu12,nu17,nu18,nu19,nu20,nu21,nu22,nu23,nu24,nu25,nu26,nu27,nu28,nu29,nu30];omega⟩
 rcases ifc h with⟨q,h⟩|⟨_,h⟩
 ·cases h;(try have q9:=zaw q);exact⟨by simp[okN,zaO,isE]<;>omega,by simp only[exN,lfO,isE,nu6,nu7,nu8,nu9,nu10,nu12,nu17,nu18,nu19,nu20,nu21,nu22,nu23,nu24,nu25,nu26,nu27,nu28,nu29,nu30];omega⟩
 rcases ifc h with⟨q,h⟩|⟨_,h⟩
 ·cases h;(try have q9:=zaw q);exact⟨by simp[okN,zaO,isE]<;>omega,by simp only[exN,lfO,isE,nu6,nu7,nu8,nu9,nu10,nu12,nu17,nu18,nu19,nu20,nu21,nu22,nu23,nu24,nu25,nu26,nu27,nu28,nu29,nu30];omega⟩
 rcases ifc h with⟨q,h⟩|⟨_,h⟩
 ·cases h;(try have q9:=zaw q);exact⟨by simp[okN,zaO,isE]<;>omega,by simp only[exN,lfO,isE,nu6,nu7,nu8,nu9,nu10,nu12,nu17,nu18,nu19,nu20,nu21,nu22,nu23,nu24,nu25,nu26,nu27,nu28,nu29,nu30];omega⟩
 rcases ifc h with⟨q,h⟩|⟨_,h⟩
 ·cases h;(try have q9:=zaw q);exact⟨by simp[okN,zaO,isE]<;>omega,by simp only[exN,lfO,isE,nu6,nu7,nu8,nu9,nu10,nu12,nu17,nu18,nu19,nu20,nu21,nu22,nu23,nu24,nu25,nu26,nu27,nu28,nu29,nu30];omega⟩
 rcases ifc h with⟨q,h⟩|⟨_,h⟩
 ·cases h;(try have q9:=zaw q);exact⟨by simp[okN,zaO,isE]<;>omega,by simp only[exN,lfO,isE,nu6,nu7,nu8,nu9,nu10,nu12,nu17,nu18,nu19,nu20,nu21,nu22,nu23,nu24,nu25,nu26,nu27,nu28,nu29,nu30];omega⟩
 rcases ifc h with⟨q,h⟩|⟨_,h⟩
 ·cases h;(try have q9:=zaw q);exact⟨by simp[okN,zaO,isE]<;>omega,by simp only[exN,lfO,isE,nu6,nu7,nu8,nu9,nu10,nu12,nu17,nu18,nu19,nu20,nu21,nu22,nu23,nu24,nu25,nu26,nu27,nu28,nu29,nu30];omega⟩
 rcases ifc h with⟨q,h⟩|⟨_,h⟩
 ·cases h;(try have q9:=zaw q);exact⟨by simp[okN,zaO,isE]<;>omega,by simp only[exN,lfO,isE,nu6,nu7,nu8,nu9,nu10,nu12,nu17,nu18,nu19,nu20,nu21,nu22,nu23,nu24,nu25,nu26,nu27,nu28,nu29,nu30];omega⟩
 rcases ifc h with⟨q,h⟩|⟨_,h⟩
 ·cases h;(try have q9:=zaw q);exact⟨by simp[okN,zaO,isE]<;>omega,by simp only[exN,lfO,isE,nu6,nu7,nu8,nu9,nu10,nu12,nu17,nu18,nu19,nu20,nu21,nu22,nu23,nu24,nu25,nu26,nu27,nu28,nu29,nu30];omega⟩
 ·cases h
theorem com_new{op:Int}{w:Int}(ho:15≤op∧op≤16)(h:comT op w a=some e):OkB e (1):=by
 unfold comT at h;have hn:=fun a b=>zkY (op:=op) (by omega) a b;rcases ifc h with⟨q,h⟩|⟨_,h⟩
 ·cases h;(try have q9:=zaw q);exact⟨by simp[okN,zaO,isE]<;>omega,by simp only[exN,lfO,isE,nu6,nu7,nu8,nu9,nu10,nu12,nu17,nu18,nu19,nu20,nu21,nu22,nu23,nu24,nu25,nu26,nu27,nu28,nu29,nu30,hn];omega⟩
 rcases ifc h with⟨q,h⟩|⟨_,h⟩
 ·cases h;(try have q9:=zaw q);exact⟨by simp[okN,zaO,isE]<;>omega,by simp only[exN,lfO,isE,nu6,nu7,nu8,nu9,nu10,nu12,nu17,nu18,nu19,nu20,nu21,nu22,nu23,nu24,nu25,nu26,nu27,nu28,nu29,nu30,hn];omega⟩
 rcases ifc h with⟨q,h⟩|⟨_,h⟩
 ·cases h;(try have q9:=zaw q);exact⟨by simp[okN,zaO,isE]<;>omega,by simp only[exN,lfO,isE,nu6,nu7,nu8,nu9,nu10,nu12,nu17,nu18,nu19,nu20,nu21,nu22,nu23,nu24,nu25,nu26,nu27,nu28,nu29,nu30,hn];omega⟩
 ·cases h
theorem band_new{op:Int}{w:Int}(ho:17≤op)(h:zhy op w a b=some e):OkB e (1):=by
 unfold zhy at h;generalize (if op=17 then 0#64 else ones w)=z at h;generalize (if op=17 then ones w else 0#64)=o at h;have hn:=fun a b=>zkY (op:=op) (by omega) a b;rcases ifc h with⟨q,h⟩|⟨_,h⟩
 ·cases h;(try have q9:=zaw q);exact⟨by simp[okN,zaO,isE]<;>omega,by simp only[exN,lfO,isE,nu6,nu7,nu8,nu9,nu10,nu12,nu17,nu18,nu19,nu20,nu21,nu22,nu23,nu24,nu25,nu26,nu27,nu28,nu29,nu30,hn];omega⟩
 rcases ifc h with⟨q,h⟩|⟨_,h⟩
 ·cases h;(try have q9:=zaw q);exact⟨by simp[okN,zaO,isE]<;>omega,by simp only[exN,lfO,isE,nu6,nu7,nu8,nu9,nu10,nu12,nu17,nu18,nu19,nu20,nu21,nu22,nu23,nu24,nu25,nu26,nu27,nu28,nu29,nu30,hn];omega⟩
 rcases ifc h with⟨q,h⟩|⟨_,h⟩
 ·cases h;(try have q9:=zaw q);exact⟨by simp[okN,zaO,isE]<;>omega,by simp only[exN,lfO,isE,nu6,nu7,nu8,nu9,nu10,nu12,nu17,nu18,nu19,nu20,nu21,nu22,nu23,nu24,nu25,nu26,nu27,nu28,nu29,nu30,hn];omega⟩
 rcases ifc h with⟨q,h⟩|⟨_,h⟩
 ·cases h;(try have q9:=zaw q);exact⟨by simp[okN,zaO,isE]<;>omega,by simp only[exN,lfO,isE,nu6,nu7,nu8,nu9,nu10,nu12,nu17,nu18,nu19,nu20,nu21,nu22,nu23,nu24,nu25,nu26,nu27,nu28,nu29,nu30,hn];omega⟩
 ·cases h
theorem bxor_new{w:Int}(h:zhw w a b=some e):OkB e (1):=by
 unfold zhw at h;rcases ifc h with⟨q,h⟩|⟨_,h⟩
 ·cases h;(try have q9:=zaw q);exact⟨by simp[okN,zaO,isE]<;>omega,by simp only[exN,lfO,isE,nu6,nu7,nu8,nu9,nu10,nu12,nu17,nu18,nu19,nu20,nu21,nu22,nu23,nu24,nu25,nu26,nu27,nu28,nu29,nu30];omega⟩
 rcases ifc h with⟨q,h⟩|⟨_,h⟩
 ·cases h;(try have q9:=zaw q);exact⟨by simp[okN,zaO,isE]<;>omega,by simp only[exN,lfO,isE,nu6,nu7,nu8,nu9,nu10,nu12,nu17,nu18,nu19,nu20,nu21,nu22,nu23,nu24,nu25,nu26,nu27,nu28,nu29,nu30];omega⟩
 rcases ifc h with⟨q,h⟩|⟨_,h⟩
 ·cases h;(try have q9:=zaw q);exact⟨by simp[okN,zaO,isE]<;>omega,by simp only[exN,lfO,isE,nu6,nu7,nu8,nu9,nu10,nu12,nu17,nu18,nu19,nu20,nu21,nu22,nu23,nu24,nu25,nu26,nu27,nu28,nu29,nu30];omega⟩
 rcases ifc h with⟨q,h⟩|⟨_,h⟩
 ·cases h;(try have q9:=zaw q);exact⟨by simp[okN,zaO,isE]<;>omega,by simp only[exN,lfO,isE,nu6,nu7,nu8,nu9,nu10,nu12,nu17,nu18,nu19,nu20,nu21,nu22,nu23,nu24,nu25,nu26,nu27,nu28,nu29,nu30];omega⟩
 rcases ifc h with⟨q,h⟩|⟨_,h⟩
 ·cases h;(try have q9:=zaw q);exact⟨by simp[okN,zaO,isE]<;>omega,by simp only[exN,lfO,isE,nu6,nu7,nu8,nu9,nu10,nu12,nu17,nu18,nu19,nu20,nu21,nu22,nu23,nu24,nu25,nu26,nu27,nu28,nu29,nu30];omega⟩
 rcases ifc h with⟨q,h⟩|⟨_,h⟩
 ·cases h;(try have q9:=zaw q);exact⟨by simp[okN,zaO,isE]<;>omega,by simp only[exN,lfO,isE,nu6,nu7,nu8,nu9,nu10,nu12,nu17,nu18,nu19,nu20,nu21,nu22,nu23,nu24,nu25,nu26,nu27,nu28,nu29,nu30];omega⟩
 rcases ifc h with⟨q,h⟩|⟨_,h⟩
 ·cases h;(try have q9:=zaw q);exact⟨by simp[okN,zaO,isE]<;>omega,by simp only[exN,lfO,isE,nu6,nu7,nu8,nu9,nu10,nu12,nu17,nu18,nu19,nu20,nu21,nu22,nu23,nu24,nu25,nu26,nu27,nu28,nu29,nu30];omega⟩
 rcases ifc h with⟨q,h⟩|⟨_,h⟩
 ·cases h;(try have q9:=zaw q);exact⟨by simp[okN,zaO,isE]<;>omega,by simp only[exN,lfO,isE,nu6,nu7,nu8,nu9,nu10,nu12,nu17,nu18,nu19,nu20,nu21,nu22,nu23,nu24,nu25,nu26,nu27,nu28,nu29,nu30];omega⟩
 rcases ifc h with⟨q,h⟩|⟨_,h⟩
 ·cases h;(try have q9:=zaw q);exact⟨by simp[okN,zaO,isE]<;>omega,by simp only[exN,lfO,isE,nu6,nu7,nu8,nu9,nu10,nu12,nu17,nu18,nu19,nu20,nu21,nu22,nu23,nu24,nu25,nu26,nu27,nu28,nu29,nu30];omega⟩
 ·cases h
theorem add_new{w:Int}(h:addT w a b=some e):OkB e (1):=by
 unfold addT at h;rcases ifc h with⟨q,h⟩|⟨_,h⟩
 ·cases h;(try have q9:=zaw q);exact⟨by simp[okN,zaO,isE]<;>omega,by simp only[exN,lfO,isE,nu6,nu7,nu8,nu9,nu10,nu12,nu17,nu18,nu19,nu20,nu21,nu22,nu23,nu24,nu25,nu26,nu27,nu28,nu29,nu30];omega⟩
 rcases ifc h with⟨q,h⟩|⟨_,h⟩
 ·cases h;(try have q9:=zaw q);exact⟨by simp[okN,zaO,isE]<;>omega,by simp only[exN,lfO,isE,nu6,nu7,nu8,nu9,nu10,nu12,nu17,nu18,nu19,nu20,nu21,nu22,nu23,nu24,nu25,nu26,nu27,nu28,nu29,nu30];omega⟩
 rcases ifc h with⟨q,h⟩|⟨_,h⟩
 ·cases h;(try have q9:=zaw q);exact⟨by simp[okN,zaO,isE]<;>omega,by simp only[exN,lfO,isE,nu6,nu7,nu8,nu9,nu10,nu12,nu17,nu18,nu19,nu20,nu21,nu22,nu23,nu24,nu25,nu26,nu27,nu28,nu29,nu30];omega⟩
 rcases ifc h with⟨q,h⟩|⟨_,h⟩
 ·cases h;(try have q9:=zaw q);exact⟨by simp[okN,zaO,isE]<;>omega,by simp only[exN,lfO,isE,nu6,nu7,nu8,nu9,nu10,nu12,nu17,nu18,nu19,nu20,nu21,nu22,nu23,nu24,nu25,nu26,nu27,nu28,nu29,nu30];omega⟩
 rcases ifc h with⟨q,h⟩|⟨_,h⟩
 ·cases h;(try have q9:=zaw q);exact⟨by simp[okN,zaO,isE]<;>omega,by simp only[exN,lfO,isE,nu6,nu7,nu8,nu9,nu10,nu12,nu17,nu18,nu19,nu20,nu21,nu22,nu23,nu24,nu25,nu26,nu27,nu28,nu29,nu30];omega⟩
 rcases ifc h with⟨q,h⟩|⟨_,h⟩
 ·cases h;(try have q9:=zaw q);exact⟨by simp[okN,zaO,isE]<;>omega,by simp only[exN,lfO,isE,nu6,nu7,nu8,nu9,nu10,nu12,nu17,nu18,nu19,nu20,nu21,nu22,nu23,nu24,nu25,nu26,nu27,nu28,nu29,nu30];omega⟩
 ·cases h
theorem sub_new{w:Int}(h:subT w a b=some e):OkB e (1):=by
 unfold subT at h;rcases ifc h with⟨q,h⟩|⟨_,h⟩
 ·cases h;(try have q9:=zaw q);exact⟨by simp[okN,zaO,isE]<;>omega,by simp only[exN,lfO,isE,nu6,nu7,nu8,nu9,nu10,nu12,nu17,nu18,nu19,nu20,nu21,nu22,nu23,nu24,nu25,nu26,nu27,nu28,nu29,nu30];omega⟩
 rcases ifc h with⟨q,h⟩|⟨_,h⟩
 ·cases h;(try have q9:=zaw q);exact⟨by simp[okN,zaO,isE]<;>omega,by simp only[exN,lfO,isE,nu6,nu7,nu8,nu9,nu10,nu12,nu17,nu18,nu19,nu20,nu21,nu22,nu23,nu24,nu25,nu26,nu27,nu28,nu29,nu30];omega⟩
 rcases ifc h with⟨q,h⟩|⟨_,h⟩
 ·cases h;(try have q9:=zaw q);exact⟨by simp[okN,zaO,isE]<;>omega,by simp only[exN,lfO,isE,nu6,nu7,nu8,nu9,nu10,nu12,nu17,nu18,nu19,nu20,nu21,nu22,nu23,nu24,nu25,nu26,nu27,nu28,nu29,nu30];omega⟩
 rcases ifc h with⟨q,h⟩|⟨_,h⟩
 ·cases h;(try have q9:=zaw q);exact⟨by simp[okN,zaO,isE]<;>omega,by simp only[exN,lfO,isE,nu6,nu7,nu8,nu9,nu10,nu12,nu17,nu18,nu19,nu20,nu21,nu22,nu23,nu24,nu25,nu26,nu27,nu28,nu29,nu30];omega⟩
 rcases ifc h with⟨q,h⟩|⟨_,h⟩
 ·cases h;(try have q9:=zaw q);exact⟨by simp[okN,zaO,isE]<;>omega,by simp only[exN,lfO,isE,nu6,nu7,nu8,nu9,nu10,nu12,nu17,nu18,nu19,nu20,nu21,nu22,nu23,nu24,nu25,nu26,nu27,nu28,nu29,nu30];omega⟩
 rcases ifc h with⟨q,h⟩|⟨_,h⟩
 ·cases h;(try have q9:=zaw q);exact⟨by simp[okN,zaO,isE]<;>omega,by simp only[exN,lfO,isE,nu6,nu7,nu8,nu9,nu10,nu12,nu17,nu18,nu19,nu20,nu21,nu22,nu23,nu24,nu25,nu26,nu27,nu28,nu29,nu30];omega⟩
 rcases ifc h with⟨q,h⟩|⟨_,h⟩
 ·cases h;(try have q9:=zaw q);exact⟨by simp[okN,zaO,isE]<;>omega,by simp only[exN,lfO,isE,nu6,nu7,nu8,nu9,nu10,nu12,nu17,nu18,nu19,nu20,nu21,nu22,nu23,nu24,nu25,nu26,nu27,nu28,nu29,nu30];omega⟩
 ·cases h
theorem mul_new{op:Int}{w:Int}(ho:22≤op)(h:mulT op w a b=some e):OkB e (1):=by
 unfold mulT at h;have hn:=fun a b=>zkY (op:=op) (by omega) a b;rcases ifc h with⟨q,h⟩|⟨_,h⟩
 ·cases h
 rcases ifc h with⟨q,h⟩|⟨_,h⟩
 ·cases h;(try have q9:=zaw q);exact⟨by simp[okN,zaO,isE]<;>omega,by simp only[exN,lfO,isE,nu6,nu7,nu8,nu9,nu10,nu12,nu17,nu18,nu19,nu20,nu21,nu22,nu23,nu24,nu25,nu26,nu27,nu28,nu29,nu30,hn];omega⟩
 rcases ifc h with⟨q,h⟩|⟨_,h⟩
 ·cases h;(try have q9:=zaw q);exact⟨by simp[okN,zaO,isE]<;>omega,by simp only[exN,lfO,isE,nu6,nu7,nu8,nu9,nu10,nu12,nu17,nu18,nu19,nu20,nu21,nu22,nu23,nu24,nu25,nu26,nu27,nu28,nu29,nu30,hn];omega⟩
 rcases ifc h with⟨q,h⟩|⟨_,h⟩
 ·cases h;(try have q9:=zaw q);exact⟨by simp[okN,zaO,isE]<;>omega,by simp only[exN,lfO,isE,nu6,nu7,nu8,nu9,nu10,nu12,nu17,nu18,nu19,nu20,nu21,nu22,nu23,nu24,nu25,nu26,nu27,nu28,nu29,nu30,hn];omega⟩
 rcases ifc h with⟨q,h⟩|⟨_,h⟩
 ·cases h;(try have q9:=zaw q);exact⟨by simp[okN,zaO,isE]<;>omega,by simp only[exN,lfO,isE,nu6,nu7,nu8,nu9,nu10,nu12,nu17,nu18,nu19,nu20,nu21,nu22,nu23,nu24,nu25,nu26,nu27,nu28,nu29,nu30,hn];omega⟩
 rcases ifc h with⟨q,h⟩|⟨_,h⟩
 ·cases h;(try have q9:=zaw q);exact⟨by simp[okN,zaO,isE]<;>omega,by simp only[exN,lfO,isE,nu6,nu7,nu8,nu9,nu10,nu12,nu17,nu18,nu19,nu20,nu21,nu22,nu23,nu24,nu25,nu26,nu27,nu28,nu29,nu30,hn];omega⟩
 rcases ifc h with⟨q,h⟩|⟨_,h⟩
 ·cases h;(try have q9:=zaw q);exact⟨by simp[okN,zaO,isE]<;>omega,by simp only[exN,lfO,isE,nu6,nu7,nu8,nu9,nu10,nu12,nu17,nu18,nu19,nu20,nu21,nu22,nu23,nu24,nu25,nu26,nu27,nu28,nu29,nu30,hn];omega⟩
 rcases ifc h with⟨q,h⟩|⟨_,h⟩
 ·cases h;(try have q9:=zaw q);exact⟨by simp[okN,zaO,isE]<;>omega,by simp only[exN,lfO,isE,nu6,nu7,nu8,nu9,nu10,nu12,nu17,nu18,nu19,nu20,nu21,nu22,nu23,nu24,nu25,nu26,nu27,nu28,nu29,nu30,hn];omega⟩
 rcases ifc h with⟨q,h⟩|⟨_,h⟩
 ·cases h;(try have q9:=zaw q);exact⟨by simp[okN,zaO,isE]<;>omega,by simp only[exN,lfO,isE,nu6,nu7,nu8,nu9,nu10,nu12,nu17,nu18,nu19,nu20,nu21,nu22,nu23,nu24,nu25,nu26,nu27,nu28,nu29,nu30,hn];omega⟩
 ·cases h
theorem shift_new{op:Int}{w:Int}(ho:25≤op)(h:zdJ op w a b=some e):OkB e (1):=by
 unfold zdJ at h;have hn:=fun a b=>zkY (op:=op) (by omega) a b;rcases ifc h with⟨q,h⟩|⟨_,h⟩
 ·cases h;(try have q9:=zaw q);exact⟨by simp[okN,zaO,isE]<;>omega,by simp only[exN,lfO,isE,nu6,nu7,nu8,nu9,nu10,nu12,nu17,nu18,nu19,nu20,nu21,nu22,nu23,nu24,nu25,nu26,nu27,nu28,nu29,nu30,hn];omega⟩
 rcases ifc h with⟨q,h⟩|⟨_,h⟩
 ·cases h
 rcases ifc h with⟨q,h⟩|⟨_,h⟩
 ·cases h;(try have q9:=zaw q);exact⟨by simp[okN,zaO,isE]<;>omega,by simp only[exN,lfO,isE,nu6,nu7,nu8,nu9,nu10,nu12,nu17,nu18,nu19,nu20,nu21,nu22,nu23,nu24,nu25,nu26,nu27,nu28,nu29,nu30,hn];omega⟩
 rcases ifc h with⟨q,h⟩|⟨_,h⟩
 ·cases h;(try have q9:=zaw q);exact⟨by simp[okN,zaO,isE]<;>omega,by simp only[exN,lfO,isE,nu6,nu7,nu8,nu9,nu10,nu12,nu17,nu18,nu19,nu20,nu21,nu22,nu23,nu24,nu25,nu26,nu27,nu28,nu29,nu30,hn];omega⟩
 rcases ifc h with⟨q,h⟩|⟨_,h⟩
 ·rcases ifc h with⟨_,h⟩|⟨_,h⟩
  ·cases h;(try have q9:=zaw q);exact⟨by simp[okN,zaO,isE]<;>omega,by simp only[exN,lfO,isE,nu6,nu7,nu8,nu9,nu10,nu12,nu17,nu18,nu19,nu20,nu21,nu22,nu23,nu24,nu25,nu26,nu27,nu28,nu29,nu30,hn];omega⟩
  ·cases h;(try have q9:=zaw q);exact⟨by simp[okN,zaO,isE]<;>omega,by simp only[exN,lfO,isE,nu6,nu7,nu8,nu9,nu10,nu12,nu17,nu18,nu19,nu20,nu21,nu22,nu23,nu24,nu25,nu26,nu27,nu28,nu29,nu30,hn];omega⟩
 rcases ifc h with⟨q,h⟩|⟨_,h⟩
 ·cases h;(try have q9:=zaw q);exact⟨by simp[okN,zaO,isE]<;>omega,by simp only[exN,lfO,isE,nu6,nu7,nu8,nu9,nu10,nu12,nu17,nu18,nu19,nu20,nu21,nu22,nu23,nu24,nu25,nu26,nu27,nu28,nu29,nu30,hn];omega⟩
 rcases ifc h with⟨q,h⟩|⟨_,h⟩
 ·cases h;(try have q9:=zaw q);exact⟨by simp[okN,zaO,isE]<;>omega,by simp only[exN,lfO,isE,nu6,nu7,nu8,nu9,nu10,nu12,nu17,nu18,nu19,nu20,nu21,nu22,nu23,nu24,nu25,nu26,nu27,nu28,nu29,nu30,hn];omega⟩
 ·cases h
theorem cat_new{w:Int}(h:catT w a b=some e):OkB e (1):=by
 unfold catT at h;rcases ifc h with⟨q,h⟩|⟨_,h⟩
 ·cases h;(try have q9:=zaw q);exact⟨by simp[okN,zaO,isE]<;>omega,by simp only[exN,lfO,isE,nu6,nu7,nu8,nu9,nu10,nu12,nu17,nu18,nu19,nu20,nu21,nu22,nu23,nu24,nu25,nu26,nu27,nu28,nu29,nu30];omega⟩
 rcases ifc h with⟨q,h⟩|⟨_,h⟩
 ·cases h;(try have q9:=zaw q);exact⟨by simp[okN,zaO,isE]<;>omega,by simp only[exN,lfO,isE,nu6,nu7,nu8,nu9,nu10,nu12,nu17,nu18,nu19,nu20,nu21,nu22,nu23,nu24,nu25,nu26,nu27,nu28,nu29,nu30];omega⟩
 ·cases h
theorem slice_new{w:Int}{num:Int}(h:zdI w num a=some e):OkB e (1):=by
 unfold zdI at h;rcases ifc h with⟨q,h⟩|⟨_,h⟩
 ·cases h;(try have q9:=zaw q);exact⟨by simp[okN,zaO,isE]<;>omega,by simp only[exN,lfO,isE,nu6,nu7,nu8,nu9,nu10,nu12,nu17,nu18,nu19,nu20,nu21,nu22,nu23,nu24,nu25,nu26,nu27,nu28,nu29,nu30];omega⟩
 rcases ifc h with⟨q,h⟩|⟨_,h⟩
 ·cases h;(try have q9:=zaw q);exact⟨by simp[okN,zaO,isE]<;>omega,by simp only[exN,lfO,isE,nu6,nu7,nu8,nu9,nu10,nu12,nu17,nu18,nu19,nu20,nu21,nu22,nu23,nu24,nu25,nu26,nu27,nu28,nu29,nu30];omega⟩
 rcases ifc h with⟨q,h⟩|⟨_,h⟩
 ·cases h;(try have q9:=zaw q);exact⟨by simp[okN,zaO,isE]<;>omega,by simp only[exN,lfO,isE,nu6,nu7,nu8,nu9,nu10,nu12,nu17,nu18,nu19,nu20,nu21,nu22,nu23,nu24,nu25,nu26,nu27,nu28,nu29,nu30];omega⟩
 rcases ifc h with⟨q,h⟩|⟨_,h⟩
 ·cases h;(try have q9:=zaw q);exact⟨by simp[okN,zaO,isE]<;>omega,by simp only[exN,lfO,isE,nu6,nu7,nu8,nu9,nu10,nu12,nu17,nu18,nu19,nu20,nu21,nu22,nu23,nu24,nu25,nu26,nu27,nu28,nu29,nu30];omega⟩
 rcases ifc h with⟨q,h⟩|⟨_,h⟩
 ·cases h;(try have q9:=zaw q);exact⟨by simp[okN,zaO,isE]<;>omega,by simp only[exN,lfO,isE,nu6,nu7,nu8,nu9,nu10,nu12,nu17,nu18,nu19,nu20,nu21,nu22,nu23,nu24,nu25,nu26,nu27,nu28,nu29,nu30];omega⟩
 rcases ifc h with⟨q,h⟩|⟨_,h⟩
 ·cases h;(try have q9:=zaw q);exact⟨by simp[okN,zaO,isE]<;>omega,by simp only[exN,lfO,isE,nu6,nu7,nu8,nu9,nu10,nu12,nu17,nu18,nu19,nu20,nu21,nu22,nu23,nu24,nu25,nu26,nu27,nu28,nu29,nu30];omega⟩
 rcases ifc h with⟨q,h⟩|⟨_,h⟩
 ·cases h;(try have q9:=zaw q);exact⟨by simp[okN,zaO,isE]<;>omega,by simp only[exN,lfO,isE,nu6,nu7,nu8,nu9,nu10,nu12,nu17,nu18,nu19,nu20,nu21,nu22,nu23,nu24,nu25,nu26,nu27,nu28,nu29,nu30];omega⟩
 ·cases h
theorem ext_new{op:Int}{w:Int}(ho:32≤op∧op≤33)(h:extT op w a=some e):OkB e (1):=by
 unfold extT at h;have hn:=fun a b=>zkY (op:=op) (by omega) a b;rcases ifc h with⟨q,h⟩|⟨_,h⟩
 ·cases h;(try have q9:=zaw q);exact⟨by simp[okN,zaO,isE]<;>omega,by simp only[exN,lfO,isE,nu6,nu7,nu8,nu9,nu10,nu12,nu17,nu18,nu19,nu20,nu21,nu22,nu23,nu24,nu25,nu26,nu27,nu28,nu29,nu30,hn];omega⟩
 rcases ifc h with⟨q,h⟩|⟨_,h⟩
 ·cases h;(try have q9:=zaw q);exact⟨by simp[okN,zaO,isE]<;>omega,by simp only[exN,lfO,isE,nu6,nu7,nu8,nu9,nu10,nu12,nu17,nu18,nu19,nu20,nu21,nu22,nu23,nu24,nu25,nu26,nu27,nu28,nu29,nu30,hn];omega⟩
 rcases ifc h with⟨q,h⟩|⟨_,h⟩
 ·cases h;(try have q9:=zaw q);exact⟨by simp[okN,zaO,isE]<;>omega,by simp only[exN,lfO,isE,nu6,nu7,nu8,nu9,nu10,nu12,nu17,nu18,nu19,nu20,nu21,nu22,nu23,nu24,nu25,nu26,nu27,nu28,nu29,nu30,hn];omega⟩
 rcases ifc h with⟨q,h⟩|⟨_,h⟩
 ·cases h;(try have q9:=zaw q);exact⟨by simp[okN,zaO,isE]<;>omega,by simp only[exN,lfO,isE,nu6,nu7,nu8,nu9,nu10,nu12,nu17,nu18,nu19,nu20,nu21,nu22,nu23,nu24,nu25,nu26,nu27,nu28,nu29,nu30,hn];omega⟩
 ·cases h
theorem zpo{op w:Int}(ho:17≤op∧op≤30)(h:zfj op w a b=some e):OkB e 1:=by
 have hn:=fun a b=>zkY (op:=op) (by omega) a b;unfold zfj at h;rcases ifc h with⟨q,h⟩|⟨_,h⟩
 ·cases h;exact⟨trivial,by show 0≤1;omega⟩
 rcases ifc h with⟨q,h⟩|⟨_,h⟩
 ·cases h;exact⟨by simp[okN,zaO];omega,by simp only[exN,lfO,hn];omega⟩
 rcases ifc h with⟨q,h⟩|⟨_,h⟩
 ·exact band_new (by omega) h
 rcases ifc h with⟨q,h⟩|⟨_,h⟩
 ·exact bxor_new h
 rcases ifc h with⟨q,h⟩|⟨_,h⟩
 ·exact add_new h
 rcases ifc h with⟨q,h⟩|⟨_,h⟩
 ·exact sub_new h
 rcases ifc h with⟨q,h⟩|⟨_,h⟩
 ·exact mul_new (by omega) h
 rcases ifc h with⟨q,h⟩|⟨_,h⟩
 ·exact cat_new h
 exact shift_new (by omega) h
end
theorem rule_new{t:Tr}(h:WS t){e:Ex}(hr:zcS t=some e):OkB e (nu t):=by
 cases h with
 |tru b=>rw[zhf (by rw[zpt];cases b<;>decide)]at hr;cases hr
 |con w x _ _=>rw[zhf (by rw[zd5];decide)]at hr;cases hr
 |var s w _ _ _=>rw[zhf (by show (4:Int)<5;decide)]at hr;cases hr
 |not h1 h2=>exact(not_new hr).le (zif _)
 |tbin op o1 o2 h1 h2 h3 h4=>
  by_cases h8:op=8
  ·subst h8;exact xor_new hr
  ·rw[r_and (by omega)]at hr;exact(and_new hr).le (zif _)
 |eq h1 h2 h3=>exact eq_new h1 h3 hr
 |cmp op o1 o2 h1 h2 h3 h4=>rw[zpJ (by omega)]at hr;exact less_new (by omega) h4 hr
 |ite h1 h2 h3 h4 h5=>exact ite_new hr
 |un op o1 o2 h1 h2=>rw[r_com (by omega)]at hr;exact(com_new (by omega) hr).le (zif _)
 |wbin op o1 o2 h1 h2 h3 h4 h5=>rw[zic (by omega),if_neg (by omega)]at hr;exact(zpo (by omega) hr).le (zif _)
 |cat h1 h2 h3 h4 h5=>rw[zic (by omega),if_pos rfl]at hr;exact(zpo (by decide) hr).le (zif _)
 |slice i n h1 h2 h3 h4=>exact(slice_new hr).le (zif _)
 |ext op w o1 o2 h1 h2 h3 h4=>rw[r_ext (by omega)]at hr;exact(ext_new (by omega) hr).le (zif _)
end Go.AM.N14
namespace Go.AM.N14
open List Go Go.AM
def Sub(S:Tr→Prop):Tr→Prop
 |.z=>True
 |.nd op w num s a b c=>(op≤3∨S (.nd op w num s a b c))∧Sub S a∧Sub S b∧Sub S c
theorem Sub.mono{S U:Tr→Prop}(h:∀t,S t→U t):∀{t:Tr},Sub S t→Sub U t
 |.z,_=>trivial
 |.nd op w num s a b c,q=>⟨q.1.imp id (h _),Sub.mono h q.2.1,Sub.mono h q.2.2.1,Sub.mono h q.2.2.2⟩
theorem Sub.down{S:Tr→Prop}(t:Tr)(h:Sub S t):Sub S t.a∧Sub S t.b∧Sub S t.c:=by
 cases t with
 |z=>exact⟨trivial,trivial,trivial⟩
 |nd op w num s a b c=>exact h.2
theorem Sub.tru(S:Tr→Prop)(b:Bool):Sub S (tTru b):=⟨.inl (by cases b<;>decide),trivial,trivial,trivial⟩
theorem Sub.con(S:Tr→Prop)(w:Int)(x:W64):Sub S (tCon w x):=⟨.inl (by decide),trivial,trivial,trivial⟩
def Wid(S:Tr→Prop)(N:List Tr)(t:Tr):Prop:=S t∨t∈N
theorem wid_l{S:Tr→Prop}{N M:List Tr}:∀t,Wid S N t→Wid S (N++M) t:=fun t h=>h.imp id fun q=>mem_append_left _ q
theorem wid_a{S:Tr→Prop}{N M:List Tr}:∀t,Wid (Wid S N) M t→Wid S (N++M) t:=fun t h=>h.elim (fun q=>q.imp id fun q=>mem_append_left _ q) fun q=>.inr (mem_append_right _ q)
def Adds(S:Tr→Prop)(n:Nat)(t:Tr):Prop:=∃N:List Tr,N.length≤n∧Sub (Wid S N) t
theorem Adds.zero{S:Tr→Prop}{t:Tr}(h:Sub S t){n:Nat}:Adds S n t:=⟨[],Nat.zero_le _,h.mono fun _ q=>.inl q⟩
theorem sim_new:∀(k:Nat) (t:Tr) (r:Tr×Nat) (S:Tr→Prop),WS t→Sub S t.a→Sub S t.b→Sub S t.c→simF k t=some r→Adds S (nu t) r.1
 |0,t,r,S,h,_,_,_,hr=>by cases hr
 |k+1,t,r,S,h,pa,pb,pc,hr=>by
  rcases zeH hr with⟨hn,rfl⟩|⟨e,x,he,hx,rfl⟩
  ·refine⟨[t],zif t,?_⟩;cases t with
   |z=>trivial
   |nd op w num s a b c=>exact⟨.inr (.inr (mem_singleton.2 rfl)),Sub.mono (fun _ q=>.inl q) pa,Sub.mono (fun _ q=>.inl q) pb,Sub.mono (fun _ q=>.inl q) pc⟩
  have ih:=sim_new k;obtain⟨ok,hle⟩:=rule_new h he;have key:=ex_ind (zgg k) (Q:=fun e t=>(zaO e→t=lfO e)∧∀S:Tr→Prop,LvE (Sub S) e→okN e→Adds S (exN e) t)
   (fun t _=>⟨fun _=>rfl,fun S l _=>.zero l⟩)
   (fun b=>⟨fun _=>rfl,fun S _ _=>.zero (.tru S b)⟩)
   (fun w x _ _=>⟨fun _=>rfl,fun S _ _=>.zero (.con S w x)⟩)
   (fun op e a r q hw hr=>⟨fun q=>q.elim,fun S l o=>by
    obtain⟨N,n1,n2⟩:=q.2 S l o.2;obtain⟨M,m1,m2⟩:=ih _ _ (Wid S N) hw n2 trivial trivial hr;have hv:nu (tUn op a)=1:=zkY (by have:=o.1;omega) _ _
    exact⟨N++M,by rw[length_append];show _≤exN e+1;omega,m2.mono wid_a⟩⟩)
   (fun op e f a b r q1 q2 hw hr=>⟨fun q=>q.elim,fun S l o=>by
    obtain⟨N1,n1,n2⟩:=q1.2 S l.1 o.2.1;obtain⟨N2,n3,n4⟩:=q2.2 S l.2 o.2.2;obtain⟨M,m1,m2⟩:=ih _ _ (Wid S (N1++N2)) hw (n2.mono wid_l) (n4.mono fun t h=>h.imp id fun q=>mem_append_right _ q) trivial hr;have hv:nu (tBin op a b)=nuN op (lfO e) (lfO f):=by
     show nuN op a b=_;by_cases h8:8≤op∧op≤14
     ·obtain⟨l1,l2⟩:=o.1.1 h8.1 h8.2;rw[q1.1 l1,q2.1 l2]
     ·rw[zkY (by omega),zkY (by omega)]
    exact⟨N1++N2++M,by rw[length_append,length_append];show _≤exN e+exN f+nuN op (lfO e) (lfO f);omega,m2.mono wid_a⟩⟩)
   (fun e f g c a b r q1 q2 q3 hw hr=>⟨fun q=>q.elim,fun S l o=>by
    obtain⟨N1,n1,n2⟩:=q1.2 S l.1 o.1;obtain⟨N2,n3,n4⟩:=q2.2 S l.2.1 o.2.1;obtain⟨N3,n5,n6⟩:=q3.2 S l.2.2 o.2.2;obtain⟨M,m1,m2⟩:=ih _ _ (Wid S (N1++N2++N3)) hw (n2.mono fun t h=>h.imp id fun q=>mem_append_left _ (mem_append_left _ q)) (n4.mono fun t h=>h.imp id fun q=>mem_append_left _ (mem_append_right _ q)) (n6.mono fun t h=>h.imp id fun q=>mem_append_right _ q) hr;have hv:nu (tIte c a b)=2:=rfl
    exact⟨N1++N2++N3++M,by rw[length_append,length_append,length_append];show _≤exN e+exN f+exN g+2;omega,m2.mono wid_a⟩⟩)
   (fun e a i n r q hw hr=>⟨fun q=>q.elim,fun S l o=>by
    obtain⟨N,n1,n2⟩:=q.2 S l o;obtain⟨M,m1,m2⟩:=ih _ _ (Wid S N) hw n2 trivial trivial hr;have hv:nu (tSl a i n)=1:=rfl
    exact⟨N++M,by rw[length_append];show _≤exN e+1;omega,m2.mono wid_a⟩⟩)
   (fun op e a w r q hw hr=>⟨fun q=>q.elim,fun S l o=>by
    obtain⟨N,n1,n2⟩:=q.2 S l o.2;obtain⟨M,m1,m2⟩:=ih _ _ (Wid S N) hw n2 trivial trivial hr;have hv:nu (tExt op a w)=1:=zkY (by have:=o.1;omega) _ _
    exact⟨N++M,by rw[length_append];show _≤exN e+1;omega,m2.mono wid_a⟩⟩) (zhF h he) x hx
  obtain⟨N,n1,n2⟩:=key.2 S (rule_lv Sub.down pa pb pc he) ok;exact⟨N,by omega,n2⟩
theorem zht{t:Tr}(h:Nrm t):t.lead≤1:=by
 cases t with
 |z=>exact Nat.zero_le _
 |nd op w num s a b c=>
  show (if op=5 then 1+a.lead else 0)≤1;by_cases q:op=5
  ·subst q;rw[if_pos rfl];cases a with
   |z=>exact Nat.le_refl _
   |nd op2 w2 num2 s2 a2 b2 c2=>
    show 1+(if op2=5 then 1+a2.lead else 0)≤1;by_cases q2:op2=5
    ·subst q2
     exact absurd h.1 (by
      show notT (.nd 5 w2 num2 s2 a2 b2 c2)≠none;unfold notT;rw[if_neg (by show ¬(5:Int)=1;decide),if_neg (by show ¬(5:Int)=2;decide),if_pos (by rfl)]
      exact fun q=>by cases q)
    ·rw[if_neg q2];omega
  ·rw[if_neg q];omega
theorem nu_le{t:Tr}(h:WS t)(pa:Nrm t.a)(pb:Nrm t.b):nu t≤129:=by
 have la:=zht pa;have lb:=zht pb;have wa:t.a=.z∨WS t.a:=by
  cases t with
  |z=>exact .inl rfl
  |nd op w num s a b c=>exact(zhz h).1
 have hw:t.a.w.toNat≤64:=by
  rcases wa with q|q
  ·rw[q];decide
  ·have:=q.w;omega
 cases t with
 |z=>decide
 |nd op w num s a b c=>
  have la:a.lead≤1:=la;have lb:b.lead≤1:=lb;have hw:a.w.toNat≤64:=hw;show nuN op a b≤129;unfold nuN
  repeat' split
  all_goals omega
theorem kIte_le{a:Tr}(h:Nrm a)(b c:Tr):kIte a b c≤17+8*max b.dep c.dep:=by
 have hl:=zht h;have base:∀(a b c:Tr),a.op≠5→kIte a b c≤13+8*max b.dep c.dep:=fun a b c q=>by rw[zki q];have:=zpv a b;have:=zpv a c;omega
 by_cases q:a.op=5
 ·rw[zp5 q];have h2:a.a.op≠5:=fun q2=>by have e1:=zaw q;have e2:=zaw q2;omega
  have:=base a.a c b h2;omega
 ·have:=base a b c q;omega
theorem kap_le{t:Tr}(h:WS t)(pa:Nrm t.a)(pb:Nrm t.b):kap t≤576*t.dep+40:=by
 have la:=zht pa;have lb:=zht pb;have hI:=kIte_le pa t.b t.c;have wa:t.a=.z∨WS t.a:=by
  cases t with
  |z=>exact .inl rfl
  |nd op w num s a b c=>exact(zhz h).1
 have hw:t.a.w.toNat≤64:=by
  rcases wa with q|q
  ·rw[q];decide
  ·have:=q.w;omega
 cases t with
 |z=>decide
 |nd op w num s a b c=>
  have la:a.lead≤1:=la;have lb:b.lead≤1:=lb;have hw:a.w.toNat≤64:=hw;have hI:kIte a b c≤17+8*max b.dep c.dep:=hI;have hm:wdN a*max a.dep b.dep≤64*max a.dep b.dep:=Nat.mul_le_mul_right _ (by unfold wdN;omega);have f1:=flg_le a b;have f2:=flK_le a b;show kN op w a b c≤576*((if op≤5 then 0 else 1)+max a.dep (max b.dep c.dep))+40;generalize hm2:wdN a*max a.dep b.dep=m at hm;have k1:kEq a b≤10+9*m:=by unfold kEq;rw[hm2];omega
  have k2:ziQ op a b≤27+9*m:=by unfold ziQ;rw[hm2];split<;>omega
  have k3:kNeg a=8+24*a.dep:=rfl;have k4:kAdd a b≤20+12*(a.dep+b.dep):=by unfold kAdd;omega
  have k5:kSub a b≤21+24*(a.dep+b.dep):=by unfold kSub;split<;>omega
  have k6:kBx a b≤20+8*(a.dep+b.dep):=by unfold kBx;omega
  have k7:kMul a b≤34+24*(a.dep+b.dep):=by unfold kMul;omega
  have k8:kSh op w a b≤28+8*a.dep:=by
   unfold kSh;have:∀{p:Prop} [Decidable p],(if p then 6 else 0)≤6:=fun {p} _=>by split<;>omega
   have a1:=this (p:=op=29);have a2:=this (p:=b.op=3∧b.k.toNat≥w.toNat);omega
  obtain⟨Z,hZ⟩:∃Z,Z=576*((if op≤5 then 0 else 1)+max a.dep (max b.dep c.dep))+40:=⟨_,rfl⟩
  rw[←hZ];have ig:∀{p:Prop} [Decidable p] {x y:Nat},(p→x≤Z)→(¬p→y≤Z)→(if p then x else y)≤Z:=fun {p} _ {x y} hx hy=>by
   split
   ·exact hx ‹_›
   ·exact hy ‹_›
  by_cases q:op≤5
  ·rw[if_pos q]at hZ;unfold kN;refine ig (fun _=>by omega) fun _=>?_;rw[if_pos (by omega)];omega
  ·rw[if_neg q]at hZ;unfold kN;refine ig (fun _=>by omega) fun _=>ig (fun _=>by omega) fun _=>ig (fun _=>by omega) fun _=>ig (fun _=>by omega) fun _=>ig (fun _=>by omega) fun _=>ig (fun _=>by omega) fun _=>ig (fun _=>by omega) fun _=>ig (fun _=>by omega) fun _=>ig (fun _=>by omega) fun _=>ig (fun _=>by omega) fun _=>ig (fun _=>by omega) fun _=>ig (fun _=>by omega) fun _=>ig (fun _=>by omega) fun _=>ig (fun _=>by omega) fun _=>by omega
section
variable {Ls:List Nd}{Ks:List (ByteArray×Int)}(hgs:zb8 Ls Ks){O:List Nat}(hbd:∀t∈O,1≤t∧t≤Ls.length)(hcl:zd6 Ls O)
include hgs hbd hcl
theorem dep_at:∀(i t:Nat),O[i]?=some t→(tr Ls t).dep≤i+1∧∀x:Int,(x=(zaJ Ls t).a∨x=(zaJ Ls t).b∨x=(zaJ Ls t).c)→(tr Ls x.toNat).dep≤i:=by
 intro i;induction i using Nat.strongRecOn with
 |_ i ih=>
  intro t ht;have hb:=hbd t (mem_of_getElem? ht);have hn:=zaS hb;obtain⟨ka,kb,kc⟩:=zmf hgs.dag hn;have part:∀x:Int,(x≠0→∃u∈kids Ls t,x=(u:Int))→(tr Ls x.toNat).dep≤i:=fun x hx=>by
   by_cases h0:x=0
   ·subst h0;exact Nat.zero_le _
   ·obtain⟨u,hu,rfl⟩:=hx h0;obtain⟨j,hj⟩:=List.getElem?_of_mem (hcl i t ht u hu);have hlt:j<i:=by have:=(List.getElem?_eq_some_iff.1 hj).1;rw[length_take]at this;omega
    rw[List.getElem?_take_of_lt hlt]at hj;have:=(ih j hlt u hj).1;rw[Int.toNat_natCast];omega
  have p1:=part _ ka;have p2:=part _ kb;have p3:=part _ kc;refine⟨?_,fun x hx=>?_⟩
  ·rw[zcm hgs.dag hb.1 hn];show (if _ then 0 else 1)+max _ (max _ _)≤_;split<;>omega
  ·rcases hx with rfl|rfl|rfl
   ·exact p1
   ·exact p2
   ·exact p3
theorem zp0{t:Nat}(ht:t∈O){a b d:Tr}(ha:SmP (tr Ls (zaJ Ls t).a.toNat) a)(hb:SmP (tr Ls (zaJ Ls t).b.toNat) b)(hd:SmP (tr Ls (zaJ Ls t).c.toNat) d):WS (trN (zaJ Ls t) a b d)∧Nrm a∧Nrm b∧Nrm d:=by have hb0:=hbd t ht;have hn:=zaS hb0;have hw:=zh2 hgs t hb0.1 hb0.2;rw[zcm hgs.dag hb0.1 hn]at hw;obtain⟨z1,z2,z3⟩:=zhz hw;exact⟨ws_re hw (zcO ha) (zcO hb) (zcO hd),zlV ha z1,zlV hb z2,zlV hd z3⟩
def bud1(i:Nat):Nat:=288*(i*i)+329*i
omit hgs hbd hcl in
theorem zn2(i j:Nat)(h:i≤j):bud1 i≤bud1 j:=by unfold bud1;have:=Nat.mul_le_mul h h;omega
theorem bud1_step(i t:Nat)(ht:O[i]?=some t)(a b d:Tr)(ha:SmP (tr Ls (zaJ Ls t).a.toNat) a)(hb:SmP (tr Ls (zaJ Ls t).b.toNat) b)(hd:SmP (tr Ls (zaJ Ls t).c.toNat) d):∃k r,simF k (trN (zaJ Ls t) a b d)=some r∧bud1 i+(1+r.2)≤bud1 (i+1):=by
 have hm:=mem_of_getElem? ht;obtain⟨hw,na,nb,nd⟩:=zp0 hgs hbd hcl hm ha hb hd;have hb0:=hbd t hm;have hn:=zaS hb0;have hw0:=zh2 hgs t hb0.1 hb0.2;rw[zcm hgs.dag hb0.1 hn]at hw0;obtain⟨z1,z2,z3⟩:=zhz hw0;obtain⟨_,hp⟩:=dep_at hgs hbd hcl i t ht;have d1:=Nat.le_trans (zom ha z1) (hp _ (.inl rfl));have d2:=Nat.le_trans (zom hb z2) (hp _ (.inr (.inl rfl)));have d3:=Nat.le_trans (zom hd z3) (hp _ (.inr (.inr rfl)));have dT:(trN (zaJ Ls t) a b d).dep≤i+1:=by show (if _ then 0 else 1)+max _ (max _ _)≤_;split<;>omega
 have hk:=kap_le hw na nb;obtain⟨r,r1,r2⟩:=sim_tot (kap (trN (zaJ Ls t) a b d)+1) _ hw (Nat.lt_succ_self _);refine⟨_,r,r1,?_⟩;unfold bud1;have e:(i+1)*(i+1)=i*i+2*i+1:=by rw[Nat.add_mul,Nat.mul_add];omega
 rw[e];omega
theorem res_new:∀i,i≤O.length→∃N:List Tr,N.length≤129*i∧∀u∈O.take i,∀r,SmP (tr Ls u) r→Sub (fun x=>x∈N) r
 |0,_=>⟨[],Nat.le_refl _,fun u hu=>by cases hu⟩
 |i+1,hi=>by
  obtain⟨N,n1,n2⟩:=res_new i (by omega);have hlt:i<O.length:=by omega
  have ht:O[i]?=some O[i]:=List.getElem?_eq_getElem hlt;have htk:O.take (i+1)=O.take i++[O[i]]:=by rw[take_add_one,ht];rfl
  generalize O[i]=t at ht htk;have hm:=mem_of_getElem? ht;have hb0:=hbd t hm;have hn:=zaS hb0;obtain⟨ka,kb,kc⟩:=zmf hgs.dag hn;have part:∀x:Int,(x≠0→∃u∈kids Ls t,x=(u:Int))→∀r,SmP (tr Ls x.toNat) r→Sub (fun x=>x∈N) r:=fun x hx r hr=>by
   by_cases h0:x=0
   ·subst h0;cases hr;trivial
   ·obtain⟨u,hu,rfl⟩:=hx h0;exact n2 u (hcl i t ht u hu) r hr
  by_cases hex:∃r,SmP (tr Ls t) r
  ·obtain⟨r,hr⟩:=hex;have hr2:=hr;rw[zcm hgs.dag hb0.1 hn]at hr2;obtain⟨a,b,d,k,q,ha,hb,hd,hs,rfl⟩:∃a b d k q,SmP (tr Ls (zaJ Ls t).a.toNat) a∧SmP (tr Ls (zaJ Ls t).b.toNat) b∧SmP (tr Ls (zaJ Ls t).c.toNat) d∧simF k (trN (zaJ Ls t) a b d)=some q∧r=q.1:=by
    cases hr2 with
    |nd ha hb hc hs=>exact⟨_,_,_,_,_,ha,hb,hc,hs,rfl⟩
   obtain⟨hw,na,nb,nd⟩:=zp0 hgs hbd hcl hm ha hb hd;obtain⟨M,m1,m2⟩:=sim_new k _ q (fun x=>x∈N) hw (part _ ka _ ha) (part _ kb _ hb) (part _ kc _ hd) hs;have hnu:=nu_le hw na nb;refine⟨N++M,by rw[length_append];omega,fun u hu r' hr'=>?_⟩;rw[htk,mem_append,mem_singleton]at hu;rcases hu with hu|hu
   ·exact(n2 u hu r' hr').mono fun x h=>mem_append_left _ h
   ·subst hu;rw[←zg0 hr hr'];exact m2.mono fun x h=>h.elim (fun h=>mem_append_left _ h) fun h=>mem_append_right _ h
  ·refine⟨N,by omega,fun u hu r' hr'=>?_⟩;rw[htk,mem_append,mem_singleton]at hu;rcases hu with hu|hu
   ·exact n2 u hu r' hr'
   ·subst hu;exact absurd ⟨r',hr'⟩ hex
end
theorem zjN{L:List Nd}(hd:Dag L){l:List Nat}(hl:∀t∈l,1≤t){P:Nat→Prop}(h0:∀t∈l,P t)(h1:∀t,t∈posts L l []→P t→∀u∈kids L t,P u):∀t∈posts L l [],P t:=by
 obtain⟨_,new,e,h⟩:=zf5 hd l [] hl (fun i t h=>by cases h);rw[nil_append]at e;rw[e]at h1 ⊢;have key:∀(n i:Nat) x,new.length≤i+n→new[i]?=some x→P x:=by
  intro n;induction n with
  |zero=>
   intro i x hi hx;have:=(List.getElem?_eq_some_iff.1 hx).1;omega
  |succ n ih=>
   intro i x hi hx;rcases h i x hx with q|⟨j,u,j1,j2,j3⟩
   ·exact h0 x q
   ·exact h1 u (mem_of_getElem? j2) (ih j u (by omega) j2) x j3
 intro t ht;obtain⟨i,hi⟩:=List.getElem?_of_mem ht;exact key new.length i t (by omega) hi
theorem kids_len(L:List Nd)(t:Nat):(kids L t).length≤3:=by
 unfold kids;split
 ·unfold zbO;rw[length_map,length_take];simp only[length_cons,length_nil];omega
 ·exact Nat.zero_le _
theorem znM(L:List Nd):∀l:List Nat,(l.flatMap (kids L)).length≤3*l.length
 |[]=>Nat.zero_le _
 |a::l=>by rw[flatMap_cons,length_append,length_cons];have:=znM L l;have:=kids_len L a;omega
theorem reach_le{L:List Nd}{K:List (ByteArray×Int)}(hg:zb8 L K){ys:List Nat}(hys:∀t∈ys,1≤t∧t≤L.length){N:List Tr}(hN:∀t∈ys,Sub (fun x=>x∈N) (tr L t)):(posts L ys []).length≤ys.length+3*N.length:=by
 have hd:=hg.dag;obtain⟨p1,p2,p3,p4⟩:=zdw hg hys;have hall:∀t∈posts L ys [],Sub (fun x=>x∈N) (tr L t):=zjN hd (fun t ht=>(hys t ht).1) hN fun t ht hP u hu=>by
  have hb:=p2 t ht;have hn:=zaS hb;rw[zcm hd hb.1 hn]at hP;have hk:kids L t=zbO (zaJ L t):=by unfold kids;rw[hn]
  rw[hk]at hu;unfold zbO at hu;obtain⟨x,hx,rfl⟩:=mem_map.1 hu;have hx:=mem_of_mem_take hx;simp only[mem_cons,not_mem_nil,or_false]at hx;rcases hx with rfl|rfl|rfl
  ·exact hP.2.1
  ·exact hP.2.2.1
  ·exact hP.2.2.2
 let big:=(posts L ys []).filter fun t=>decide (3<(tr L t).op)
 have hbig:big.length≤N.length:=by
  have hnd:(big.map (tr L)).Nodup:=by unfold List.Nodup;rw[pairwise_map];refine List.Pairwise.imp_of_mem (fun {x y} hx hy ne e=>?_) (p1.filter _);exact ne (zk5 hd hg.nod (p2 x (mem_filter.1 hx).1).2 (p2 y (mem_filter.1 hy).1).2 e)
  have:=zj4 (big.map (tr L)) N hnd fun x hx=>by
   obtain⟨t,ht,rfl⟩:=mem_map.1 hx;obtain⟨h1,h2⟩:=mem_filter.1 ht;have h2:=of_decide_eq_true h2;have hs:=hall t h1;cases e:tr L t with
   |z=>rw[e]at h2;exact absurd h2 (by decide)
   |nd op w num s a b c=>
    rw[e]at h2 hs;exact hs.1.resolve_left (fun q=>by have h2:3<op:=h2;omega)
  rwa [length_map]at this
 have hsub:=zj4 (posts L ys []) (ys++big.flatMap (kids L)) p1 fun t ht=>by
  have:=zjN hd (fun t ht=>(hys t ht).1) (P:=fun t=>t∈ys++big.flatMap (kids L)) (fun t h=>mem_append_left _ h) (fun t ht _ u hu=>by
   refine mem_append_right _ (mem_flatMap.2 ⟨t,mem_filter.2 ⟨ht,?_⟩,hu⟩);have hb:=p2 t ht;have hn:=zaS hb;have hk:kids L t=zbO (zaJ L t):=by unfold kids;rw[hn]
   rw[hk]at hu;apply decide_eq_true;rw[tr_op hd hb];by_cases h3:3<(zaJ L t).op
   ·exact h3
   ·exfalso;have ho:=ws_op (zh2 hg t hb.1 hb.2);rw[tr_op hd hb]at ho;have:zax (zaJ L t).op=0:=by unfold zax;rw[if_pos (by omega)]
    unfold zbO at hu;rw[this]at hu
    simp at hu) t ht
  exact this
 rw[length_append]at hsub;have:=znM L big;omega
end Go.AM.N14
namespace Go.AM.N14
open Go Go.AM
section
variable {E:Env}{K:List (ByteArray×Int)}{H:Hp}{L:List Nd}(S:MS E H L K)
include S
theorem zh6:RR AI [ptr E.m] H=some (.pointer (some ⟨E.p,0,none⟩),H):=by have hr:=zhc E0 rfl (ptr E.m) H;unfold zdX at hr;have e:∀(kk:Value→Option (Value×Hp)),pBin PP .eql AF (ptr E.m) (.pointer none) kk=kk (.bool false):=fun kk=>rfl;rw[e,zag,zam,zbw,zaY,Nat.zero_add,S.l0]at hr;exact hr
theorem c_Var(hL:L.length≤2^39){s:ByteArray}{w:Int}(hr:zed L K (varN s w)) :
  ∃H' L' K' v,RR B6 [ptr E.m,.string s,.int .i64 w] H=some (.tuple #[.int .i64 v,.int .i64 0],H')∧MS E H' L' K'∧L'.length≤L.length+1∧Tm L' v (.nd 4 w 0 s .z .z .z):=by
 obtain⟨H1,L1,K1,v1,e1,S1,_,hl,tm,_,_,_⟩:=ms_mkD S (fun sl st=>d20 st (S.roomy (by omega)) s w) hr ⟨by show (0:Int)≤0;decide,by show (0:Int)<_;decide⟩;have hrun:=ziL E0 rfl (ptr E.m) (.string s) (.int .i64 w) H;unfold zfe at hrun;rw[zbw,zaY,Nat.zero_add,S.l0,zac e1,x01]at hrun;exact⟨H1,L1,K1,v1,hrun,S1,hl,tm⟩
theorem c_Const(hL:L.length≤2^39){w:Int}(h1:1≤w)(h64:w≤64)(x:W64) :
  ∃H' L' v,RR By [ptr E.m,.int .i64 w,wv x] H=some (.tuple #[.int .i64 v,.int .i64 0],H')∧Nx E H' L L' K 1∧Tm L' v (tCon w x):=by
 have hR:=S.roomy (by omega);have ht:trP L (zhv w (x.toNat:Int))=tCon w x:=by
  show (.nd 3 w (zgZ w (x.toNat:Int)) ⟨#[]⟩ .z .z .z:Tr)=_;have hw:((w.toNat:Nat):Int)=w:=by omega
  have:=zgY (n:=w.toNat) (by omega) (by omega) x;rw[hw]at this;rw[this];rfl
 have hws:WS (trP L (zhv w (x.toNat:Int))):=by rw[ht];exact .con w x h1 h64
 obtain⟨hr,hn⟩:=ziW S.good.dag (n:=zhv w (x.toNat:Int)) (K:=K) ⟨Int.le_refl _,Int.natCast_nonneg _⟩ ⟨Int.le_refl _,Int.natCast_nonneg _⟩ ⟨Int.le_refl _,Int.natCast_nonneg _⟩ (by show (3:Int)≠4;decide) hws;have hx:0≤(x.toNat:Int)∧(x.toNat:Int)<18446744073709551616:=by have:=x.isLt;omega
 obtain⟨H',L',v,e,nx,tm,_⟩:=zmo S (fun sl st=>d24 st hR w (x.toNat:Int) hx) hr hn (by show (3:Int)≠4;decide);have e:RR A0 [.pointer (some ⟨E.p,0,none⟩),.int .i64 w,wv x] H=_:=e;have hrun:=zhe E0 rfl (ptr E.m) (.int .i64 w) (wv x) H;unfold zdZ at hrun;rw[zbw,zaY,Nat.zero_add,S.l0,zac e,x01]at hrun;rw[ht]at tm;exact⟨H',L',v,hrun,nx,tm⟩
theorem c_Bin{k:Nat}{op a b:Int}{A B:Tr}(ha:Tm L a A)(hb:Tm L b B)(hw:WS (tBin op A B))(ho:6≤op∧op≤13∨17≤op∧op≤30){r:Tr×Nat}(hs:simF k (tBin op A B)=some r)(hl:L.length+(1+r.2)≤2^40) :
  ∃H' L' v,RR Bc [ptr E.m,.int .i64 op,.int .i64 a,.int .i64 b] H=some (.tuple #[.int .i64 v,.int .i64 0],H')∧Nx E H' L L' K (1+r.2)∧Tm L' v r.1:=by
 have ih:=zoT K k;have hR:=S.roomy (by omega);have wa:wT L 0 a=A.w:=by rw[zmO S.good.dag ha.isT,ha.is]
 have wb:wT L 0 b=B.w:=by rw[zmO S.good.dag hb.isT,hb.is]
 have hW:=hw.w;have ht:trP L ⟨op,(tBin op A B).w,a,b,0,0,⟨#[]⟩⟩=tBin op A B:=by show (.nd op (tBin op A B).w 0 ⟨#[]⟩ (tr L a.toNat) (tr L b.toNat) .z:Tr)=_;rw[ha.is,hb.is];rfl
 have hbin:binR 0 L K op a b=mkR 0 L K ⟨op,(tBin op A B).w,a,b,0,0,⟨#[]⟩⟩:=by
  unfold binR;by_cases h13:op≤13
  ·rw[if_pos (by omega),zct h13]
  by_cases h30:op=30
  ·subst h30;rw[zmH]at hW ⊢;rw[if_neg (by omega),if_neg (by omega),if_pos rfl,wa,wb,if_neg (by omega)]
  ·rw[if_neg (by omega),if_pos (by omega),wa,zq4 (by omega) h30]
 have la:=ha.lo;have ua:=ha.hi;have lb:=hb.lo;have ub:=hb.hi;obtain⟨H1,H',L',t,v,e1,e2,nx,tm⟩:=zlF S ih (n:=⟨op,(tBin op A B).w,a,b,0,0,⟨#[]⟩⟩) (fun sl st=>by rw[←hbin];exact d21 st hR op a b) ⟨⟨by show 0≤a;omega,ua⟩,⟨by show 0≤b;omega,ub⟩,Int.le_refl _,Int.natCast_nonneg _⟩ (by show op≠4;omega) (by rw[ht];exact hw) (by rw[ht];exact hs) hl;have h2:=zeX E0 rfl (ptr E.m) (.int .i64 op) (.int .i64 a) (.int .i64 b) H;unfold zc4 at h2;rw[zbw,zaY,Nat.zero_add,S.l0,zac e1,x01,zac e2,x01]at h2;exact⟨H',L',v,h2,nx,tm⟩
end
def tK:Tr:=.nd 4 8 0 ⟨#[107]⟩ .z .z .z
theorem tK_ws:WS tK:=.var _ _ (by decide) (by decide) (by kernel_rfl)
theorem add_is:simF 1 (tBin 20 tK (tCon 8 1#64))=some (tBin 20 tK (tCon 8 1#64),3):=zjh (by kernel_rfl)
theorem sub_is:simF 4 (tBin 21 (tBin 20 tK (tCon 8 1#64)) (tCon 8 1#64))=some (tK,10):=by kernel_rfl
theorem c_alive(H:Hp)(hT:TabB H):∃H',RR BZ [] H=some (.bool true,H')∧Frm (fun _=>False) H H':=by
 have hr:=zgb E0 rfl H;unfold zdb at hr;obtain⟨H1,e1,S1⟩:=c_sNew H hT;have p0:∀(kk:Value→Option Outc),pBin PP .eql AF (ptr (envN H).m) (.pointer none) kk=kk (.bool false):=fun kk=>rfl;have p1:∀(kk:Value→Option Outc),pBin PP .eql Bl (.pointer (some ⟨(envN H).p,0,none⟩)) (.pointer none) kk=kk (.bool false):=fun kk=>rfl;obtain⟨H2,L2,K2,v,e2,S2,l2,t2⟩:=c_Var S1 (by decide) (s:=⟨#[107]⟩) (w:=8) (zg5.1 (by kernel_rfl));have l2:L2.length≤0+1:=l2;have t2:Tm L2 v tK:=t2;obtain⟨H3,L3,c,e3,nx3,t3⟩:=c_Const S2 (by omega) (w:=8) (by decide) (by decide) 1#64;have e3:RR By [ptr (envN H).m,.int .i64 8,.int .u64 1] H2=_:=e3;have hw1:WS (tBin 20 tK (tCon 8 1#64)):=.wbin 20 (by decide) (by decide) tK_ws (.con 8 _ (by decide) (by decide)) (by decide) rfl (fun h=>absurd h (by decide));have hw2:WS (tBin 21 (tBin 20 tK (tCon 8 1#64)) (tCon 8 1#64)):=.wbin 21 (by decide) (by decide) hw1 (.con 8 _ (by decide) (by decide)) (by decide) rfl (fun h=>absurd h (by decide));have l3:=nx3.len;obtain⟨H4,L4,a,e4,nx4,t4⟩:=c_Bin nx3.ms (nx3.tm S2.good.dag t2) t3 hw1 (by decide) add_is (by dsimp only;omega);have l4:=nx4.len;dsimp only at l4 t4;obtain⟨H5,L5,d,e5,nx5,t5⟩:=c_Bin nx4.ms t4 (nx4.tm nx3.ms.good.dag t3) hw2 (by decide) sub_is (by dsimp only;omega);dsimp only at t5;have tk:=nx5.tm nx4.ms.good.dag (nx4.tm nx3.ms.good.dag (nx3.tm S2.good.dag t2));have ta:=nx5.tm nx4.ms.good.dag t4;have ne:¬a=v:=fun q=>by have:=(Tm.eq_iff nx5.ms.good ta tk).1 q;exact absurd this (by decide)
 have eq:d=v:=(Tm.eq_iff nx5.ms.good t5 tk).2 rfl;rw[zac e1,p0,zag,zam,zac (zh6 S1),p1,zag,zam,zay,zaR,zac e2,x01,zac e3,x01,zac e4,x01,zac e5,x01]at hr;rw[eT rfl,eT rfl,eT rfl,eT rfl,zcz,bT ne,zaD,decide_eq_true eq]at hr;have n5:H.next≤H5.next:=nx5.ms.next;exact⟨H5,hr,n5,fun j hj _=>nx5.ms.old j hj fun z=>z⟩
end Go.AM.N14
namespace Go.AM
open List Go
abbrev ofN(ns:List Nat):List Int:=ns.map fun (t:Nat)=>(t:Int)
abbrev ren(O ns:List Nat):List Nat:=ns.map (ixO O)
theorem all_ofN{L:List Nd}{ns:List Nat}(h:∀t∈ns,1≤t∧t≤L.length):(ofN ns).all (isT L)=true:=by rw[all_eq_true];intro x hx;obtain⟨t,ht,rfl⟩:=mem_map.1 hx;have:=h t ht;exact zbv.2 (by omega)
theorem zf7{L:List Nd}{ns:List Nat}(h:∀t∈ns,1≤t∧t≤L.length):zcn L (ofN ns)=(0,posts L ns []):=by unfold zcn;rw[if_pos (all_ofN h),zoS]
theorem zlQ{L:List Nd}{K:List (ByteArray×Int)}(hg:zb8 L K){ns:List Nat}(hns:∀t∈ns,1≤t∧t≤L.length) :
  zhu L (ofN ns)=znU zbQ L (posts L ns []) (ofN ns)∧zcn (renL L (posts L ns [])) (ofN (ren (posts L ns []) ns))=(0,(posts L ns []).map (ixO (posts L ns []))) ∧
  zhu (renL L (posts L ns [])) (ofN (ren (posts L ns []) ns))=zhu L (ofN ns):=by
 obtain⟨ho,hin⟩:=zjM hg.dag hns;generalize hO:posts L ns []=O at *;have h1:zhu L (ofN ns)=znU zbQ L O (ofN ns):=by unfold zhu;rw[zf7 hns,if_pos rfl,hO]
 have h2:zcn (renL L O) (ofN (ren O ns))=(0,O.map (ixO O)):=by
  rw[zf7 fun t ht=>by
   obtain⟨u,hu,rfl⟩:=mem_map.1 ht;rw[ren_len]
   exact⟨ix_pos O u,ix_le (hin u hu)⟩]
  have:=zm8 hg ho ns [] hin;rw[hO]at this;exact congrArg (fun x=>((0:Int),x)) this
 refine⟨h1,h2,?_⟩;rw[h1];unfold zhu;rw[h2,if_pos rfl];exact zl9 hg ho hin
end Go.AM
namespace Go.AM.N14
open List Go Go.AM
theorem loopO(lim:Int)(os:List OpA)(hf:Fine os)(x:Value)(p f g:Nat):∀(k i:Nat) (L:List Nd) (K:List (ByteArray×Int)) (H:Hp) (sl:Value),os.length=i+k→StF H p lim L K sl f g→Inv lim L→L.length≤i→ScR H x os →
  ∃H' s1,zbi (zaU RR x (.pointer (some ⟨p,0,none⟩))) [.int .i64 (i:Int)] H=some (.exit 0,[.int .i64 (os.length:Int)],H')∧One H lim L K p f g sl H' (runR lim (os.drop i) L K).1 (runR lim (os.drop i) L K).2 s1∧(runR lim (os.drop i) L K).1.length≤os.length
 |0,i,L,K,H,sl,hk,h,hI,hl,hx=>by
  have hi:i=os.length:=by omega
  subst hi;rw[drop_of_length_le (Nat.le_refl _)];refine⟨H,sl,?_,One.refl h,hl⟩;rw[zaW];have:zaU RR x (.pointer (some ⟨p,0,none⟩)) [.int .i64 (os.length:Int)] H=some (.exit 0,[.int .i64 (os.length:Int)],H):=by unfold zaU;simp only[hx.len,zbL,zag,zam,qg0,Int.lt_irrefl,decide_false]
  rw[this];rfl
 |k+1,i,L,K,H,sl,hk,h,hI,hl,hx=>by
  have hlt:i<os.length:=by omega
  have ho:os[i]?=some os[i]:=by simp[hlt]
  have hfl:=hf.len;have hR:zmL L:=⟨hI.w,by omega⟩
  have hok:=hf.ok _ (getElem_mem hlt);obtain⟨y,hyl,hy,hix⟩:=hx.at (α:=Unit) ho;obtain⟨H1,s1,e1,o1⟩:=Does.one (L:=L) (K:=K) (d12 h hR os[i] hok);have hx1:ScR H1 x os:=hx.one h o1;have hI1:=ask_inv (K:=K) os[i] hI;have hle:=ask_le (lim:=lim) (L:=L) (K:=K) os[i];have hwr:IntKind.i64.wrap ((i:Int)+1)=((i+1:Nat):Int):=zaV (by omega) (by omega);have hil:(i:Int)<(os.length:Int):=by omega
  have hdr:os.drop i=os[i]::os.drop (i+1):=drop_eq_getElem_cons hlt;obtain⟨H',s2,g1,g2,g3⟩:=loopO lim os hf x p f g k (i+1) _ _ H1 s1 (by omega) o1.st hI1 (by omega) hx1;rw[hdr];refine⟨H',s2,?_,o1.trans g2,g3⟩;rw[zaW];have:zaU RR x (.pointer (some ⟨p,0,none⟩)) [.int .i64 (i:Int)] H=some (.next,[.int .i64 ((i+1:Nat):Int)],H1):=by unfold zaU;simp only[hx.len,zbL,zag,zau,qg0,hil,decide_true,hix,ScR.ld hy ho,zac e1,zbM,hwr]
  rw[this];exact g1
theorem s_strn9{α:Type}(tt:TypeId)(a b:List UInt8)(k:Value→Option α):pBin PP .neq tt (str a) (str b) k=k (.bool (!(a==b))):=by
 have e:zol .neq (ba a) (ba b)=some (.bool (!((ba a).data.toList==(ba b).data.toList))):=by unfold zol;simp only[Go.Lib.toList_data]
 show pBin PP .neq tt (.string (ba a)) (.string (ba b)) k=_;unfold pBin binV;simp only[e,zkH]
theorem cpy9{rs:List Int}(hrs:rs.length≤2^40){y:Value}{Hx:Hp}(hyx:Rdb Hx 1 y rs.length (zb1 rs)):∃v10 H3,(∀(k:Value→Hp→Option (Value×Hp)),(zaP 1 [.int .i64 0] 0 [] Hx fun v27 H28=>zbb 1 8 v27 y H28 k)=k v10 H3)∧Vec H3 1 v10 rs.length (zb1 rs)∧Hx.next≤H3.next∧(∀k,k<Hx.next→H3.get k=Hx.get k):=by
 obtain⟨m1,m2⟩:=Vec.empty Hx 1 [.int .i64 0];have o0:Own Hx (Hx.new (.cells [] true)) [⟨1,.slice (some ⟨Hx.next,0,some 1⟩) 0 0,0,[]⟩]:=(Own.nil Hx).add (a:=⟨1,.slice (some ⟨Hx.next,0,some 1⟩) 0 0,0,[]⟩) m2 (zlG _ _ _) fun j hj=>by cases hj;exact Nat.le_refl _
 obtain⟨v10,H3,m3,m4,m5,m6⟩:=o0.head.app (bytes:=8) (hyx.keep' (fun j hj=>o0.old j (hyx.lt hj)) o0.next) (intsI_one rs) (by dsimp only;omega);dsimp only at m3 m4;rw[Nat.zero_add,nil_append]at m4;have o1:Own Hx H3 [⟨1,v10,rs.length,zb1 rs⟩]:=o0.upd (a':=⟨1,v10,rs.length,zb1 rs⟩) m4 m5 m6;exact⟨v10,H3,fun k=>by rw[m1,m3],m4,o1.next,o1.old⟩
structure zkK(H:Hp):Prop where
 next:PP.globals.size≤H.next
 tabs:Tabs H
 tab:TabB H
theorem zkK.old{H H':Hp}(h:zkK H)(n:H.next≤H'.next)(o:∀j,j<H.next→H'.get j=H.get j):zkK H':=
 ⟨Nat.le_trans h.next n,h.tabs.old h.next o,⟨Nat.lt_of_lt_of_le h.tab.lt n,by rw[o _ h.tab.lt];exact h.tab.ob⟩⟩
theorem zkK.frm{H H':Hp}(h:zkK H)(k:Frm (fun _=>False) H H'):zkK H':=h.old k.next fun j hj=>k.same j hj fun q=>q
theorem loopP{E:Env}{L0:List Nd}{ys:List Nat}{O:List Nat}(hd0:Dag L0)(hbd:∀t∈O,1≤t∧t≤L0.length)(hnr:∀t∈O,zcS (tr L0 t)=none){v:Value}(hv:Rdb E.B 1 v O.length (ints O))(hvF:∀j,Id v j→¬E.F0 j)(hb:L0.length+4*O.length≤2^40) :
  ∀(k i:Nat) (H:Hp) (L:List Nd) (K:List (ByteArray×Int)),i+k=O.length→MS E H L K→(∃M,L=L0++M)→L.length≤L0.length+4*i →
   ∃H',zbi (zaT RR (ptr E.m) v) [.int .i64 (i:Int)] H=some (.exit 2,[.int .i64 (O.length:Int)],H')
 |0,i,H,L,K,hik,S,_,_=>by
  have:i=O.length:=by omega
  subst this;have hvH:Rdb H 1 v O.length (ints O):=hv.keep' (fun j hj=>S.old j (hv.lt hj) (hvF j hj)) S.next;refine⟨H,?_⟩;have:zaT RR (ptr E.m) v [.int .i64 (O.length:Int)] H=some (.exit 2,[.int .i64 (O.length:Int)],H):=by unfold zaT;simp only[qg0];rw[hvH.len,lF (Int.lt_irrefl _)]
  rw[zaW,this];rfl
 |k+1,i,H,L,K,hik,S,⟨M,eM⟩,hl=>by
  have hlt:i<O.length:=by omega
  have ht:O[i]?=some O[i]:=List.getElem?_eq_getElem hlt;generalize O[i]=t at ht;have hm:=mem_of_getElem? ht;have hb0:=hbd t hm;have hd:=S.good.dag;have hvH:Rdb H 1 v O.length (ints O):=hv.keep' (fun j hj=>S.old j (hv.lt hj) (hvF j hj)) S.next;obtain⟨y,x1,x2⟩:=Rdb.at1 hvH (i:=i) (z:=.int .i64 (t:Int)) (by unfold ints;rw[List.getElem?_map,ht];rfl);have hbL:1≤t∧t≤L.length:=by rw[eM,length_append];omega
  have etr:tr L t=tr L0 t:=by rw[eM]at hd ⊢;exact zk4 hd0 hd hb0.2
  have htm:Tm L (t:Int) (tr L t):=⟨by omega,by omega,by rw[Int.toNat_natCast]⟩
  have hnd:ndI L (t:Int)=zaJ L t:=by rw[htm.nd,Int.toNat_natCast]
  have hmem:zaJ L t∈L:=mem_of_getElem? (zaS hbL);have e1:RR AC [.pointer (some ⟨E.p,0,none⟩),.int .i64 (t:Int)] H=some (.tuple #[(zaJ L t).val,.int .i64 0],H):=by have:=zpd S (by omega) (t:Int);rw[hnd,htm.isT]at this;exact this
  have hTn:trP L (zaJ L t)=tr L t:=by have:=htm.trP hd;rwa [hnd]at this
  obtain⟨H1,L1,K1,x,e2,S1,⟨M1,eM1⟩,l1,t1,_⟩:=c_Make S (S.good.rt _ hmem) (S.good.num _ hmem) (k:=1) (r:=(tr L t,3)) (by rw[hTn];exact zjh (by rw[etr];exact hnr t hm)) (by dsimp only;omega);dsimp only at l1 t1
  have hx:x=(t:Int):=(Tm.eq_iff S1.good t1 (by
   have hd1:=S1.good.dag;rw[eM1]at hd1 ⊢
   exact htm.app hd hd1)).2 rfl
  subst hx;have hvH1:Rdb H1 1 v O.length (ints O):=hv.keep' (fun j hj=>S1.old j (hv.lt hj) (hvF j hj)) S1.next;obtain⟨y',z1,z2⟩:=Rdb.at1 hvH1 (i:=i) (z:=.int .i64 (t:Int)) (by unfold ints;rw[List.getElem?_map,ht];rfl);have q:(i:Int)<(O.length:Int):=by omega
  have w1:IntKind.i64.wrap ((i:Int)+1)=((i+1:Nat):Int):=zaV (by omega) (by omega);obtain⟨H',g⟩:=loopP (ys:=ys) hd0 hbd hnr hv hvF hb k (i+1) H1 L1 K1 (by omega) S1 ⟨M++M1,by rw[eM1,eM,append_assoc]⟩ (by omega);refine⟨H',?_⟩;have r0:Hp.rdP H (.pointer (some ⟨y,i*1,none⟩)) 1 false=some (.int .i64 (t:Int)):=zjs fun α k=>x2 α k;have ne:¬((0:Int)≠0):=fun q=>q rfl;have ne2:¬((t:Int)≠(t:Int)):=fun q=>q rfl;have:zaT RR (ptr E.m) v [.int .i64 (i:Int)] H=some (.next,[.int .i64 ((i+1:Nat):Int)],H1):=by unfold zaT;simp only[qg0];rw[hvH.len,lT q,zac (zh6 S),x1,x2,chk_t r0,zac e1,x01,spl7,zgl,zac e2,x01,zcz,bF ne,zcz,bF ne,z1,z2,zcz,bF ne2,zbM,w1]
  rw[zaW,this];exact g
theorem kid_part{L:List Nd}{t u:Nat}(hb:1≤t∧t≤L.length)(hu:u∈kids L t):u=(zaJ L t).a.toNat∨u=(zaJ L t).b.toNat∨u=(zaJ L t).c.toNat:=by
 have hn:=zaS hb;have hk:kids L t=zbO (zaJ L t):=by unfold kids;rw[hn]
 rw[hk]at hu;unfold zbO at hu;obtain⟨x,hx,rfl⟩:=mem_map.1 hu;have hx:=mem_of_mem_take hx;simp only[mem_cons,not_mem_nil,or_false]at hx;rcases hx with rfl|rfl|rfl
 ·exact .inl rfl
 ·exact .inr (.inl rfl)
 ·exact .inr (.inr rfl)
theorem nrm_posts{L:List Nd}{K:List (ByteArray×Int)}(hg:zb8 L K){ys:List Nat}(hys:∀t∈ys,1≤t∧t≤L.length)(h:∀t∈ys,Nrm (tr L t)):∀t∈posts L ys [],Nrm (tr L t):=by
 obtain⟨p1,p2,p3,p4⟩:=zdw hg hys;refine zjN hg.dag (fun t ht=>(hys t ht).1) h fun t ht hP u hu=>?_;have hb:=p2 t ht;rw[zcm hg.dag hb.1 (zaS hb)]at hP;rcases kid_part hb hu with rfl|rfl|rfl
 ·exact hP.2.1
 ·exact hP.2.2.1
 ·exact hP.2.2.2
theorem bud2_step{L:List Nd}{K:List (ByteArray×Int)}(hg:zb8 L K){t:Nat}(hb:1≤t∧t≤L.length)(hN:Nrm (tr L t))(i:Nat)(a b d:Tr)(ha:SmP (tr L (zaJ L t).a.toNat) a)(hb':SmP (tr L (zaJ L t).b.toNat) b)(hd:SmP (tr L (zaJ L t).c.toNat) d) :
  ∃k r,simF k (trN (zaJ L t) a b d)=some r∧4*i+(1+r.2)≤4*(i+1):=by
 rw[zcm hg.dag hb.1 (zaS hb)]at hN;have e1:=zg0 ha (zeG hN.2.1);have e2:=zg0 hb' (zeG hN.2.2.1);have e3:=zg0 hd (zeG hN.2.2.2);subst e1 e2 e3;exact⟨1,_,zjh hN.1,by dsimp only;omega⟩
theorem rd_ofN{H:Hp}{v:Value}{ys:List Nat}(h:Rdb H 1 v ys.length (ints ys)):Rdb H 1 v (ofN ys).length (zb1 (ofN ys)):=by unfold ofN;rw[length_map,←zcK];exact h
theorem zoN(ys:List Nat):(ofN ys).length=ys.length:=length_map _
theorem runO(lim:Int)(os:List OpA)(hf:Fine os)(hos:os.length≤61680)(x y:Value)(rs:List Int)(H:Hp)(hT:zkK H)(hx:ScR H x os)(hy:Rdb H 1 y rs.length (zb1 rs))(hrs:rs.length≤2^20):∃H',RR BY [.int .i64 lim,x,y] H=some (.bool true,H'):=by
 have hr:=zeL E0 rfl (.int .i64 lim) x y H;rw[zeO]at hr;obtain⟨Ha,ea,fa⟩:=c_alive H hT.tab;have hTa:=hT.frm fa;have hxa:ScR Ha x os:=hx.keep (fun y cs h1 h2=>by rw[fa.same y h1 fun q=>q];exact h2) fa.next;have hya:Rdb Ha 1 y rs.length (zb1 rs):=hy.keep fa fun _ _ q=>q;rw[zac ea,s_not',zag,Bool.not_true,zam]at hr;by_cases hl:lim<0
 ·have hnew:RR AZ [.int .i64 lim] Ha=some (.tuple #[.pointer none,.int .i64 1],Ha):=by rw[Go.AM.c16,if_pos hl]
  rw[zac hnew,x01,s_pnil0 Bl und23,zag,zau,zbL,decide_eq_true hl]at hr;exact⟨_,hr⟩
 have hnew:RR AZ [.int .i64 lim] Ha=some (.tuple #[.pointer (some ⟨Ha.next+2,0,none⟩),.int .i64 0],newH lim Ha):=by rw[Go.AM.c16,if_neg hl]
 have st1:=newH_st lim Ha;have hx1:ScR (newH lim Ha) x os:=hxa.keep (fun y cs h1 h2=>by rw[zmn lim Ha y h1];exact h2) (by rw[zeo];omega);obtain⟨H2,s1,l1,o2,hll⟩:=loopO lim os hf x _ _ _ os.length 0 [] [] _ _ (by omega) st1 (Inv.nil lim) (Nat.le_refl _) hx1;rw[qd0]at o2 hll;have l1:zbi (zaU RR x (.pointer (some ⟨Ha.next+2,0,none⟩))) [.int .i64 0] (newH lim Ha)=_:=l1
 have f2:Frm (fun _=>False) Ha H2:=⟨by have:=o2.next;rw[zeo]at this;omega,fun j hj _=>by
  rw[o2.same j (by rw[zeo];omega) (fun z=>by have:=zp9 z;omega),zmn lim Ha j hj]⟩
 have hg:=zm5 (lim:=lim) os [] [] hf.ok zb8.nil;have st2:=o2.st;generalize (runR lim os [] []).1=L at hll hg st2;generalize (runR lim os [] []).2=K at hg st2;have hy2:Rdb H2 1 y rs.length (zb1 rs):=hya.keep f2 fun _ _ q=>q;obtain⟨v3,H3,m3,m4,n3,old3⟩:=cpy9 (by omega) hy2;have hT3:zkK H3:=(hTa.frm f2).old n3 old3;have st3:StF H3 (Ha.next+2) lim L K s1 Ha.next (Ha.next+1):=st2.keep (fun i hi=>old3 i (st2.foot_lt hi)) n3;have ne:¬((0:Int)≠0):=fun q=>q rfl;rw[zac hnew,x01,s_pnil Bl _ und23,zag,zam,l1,zay,zb3,zbf,m3]at hr;by_cases hall:rs.all (isT L)=true
 ·obtain⟨ns,hns,hnb⟩:=nats rs hall;have hlen:ns.length=rs.length:=by rw[hns,length_map]
  obtain⟨p1,p2,p3,p4⟩:=zdw hg hnb;have hpl:(posts L ns []).length≤L.length:=Told.len ((⟨nodup_nil,fun x h=>by cases h⟩:Told L.length []).posts hg.dag hnb);have hb1:bud1 (posts L ns []).length≤1095698323920:=Nat.le_trans (zn2 _ 61680 (by omega)) (by decide);have hx3:RdO H3 1 v3 ns.length (ints ns):=by rw[zcK,←hns,hlen];exact m4.rd.o
  obtain⟨H4,E,L4,K4,v4,ys,e4,R,b4⟩:=zlL hT3.tab st3 hg (by omega) hx3 (by omega) hnb (bud1_step hg p2 p3) zn2 (by omega);obtain⟨N,nn1,nn2⟩:=res_new hg p2 p3 (posts L ns []).length (Nat.le_refl _);rw[take_length]at nn2;have hg4:=R.ms.good;have root:∀t∈ys,(1≤t∧t≤L4.length)∧Nrm (tr L4 t)∧Sub (fun x=>x∈N) (tr L4 t):=fun t ht=>by
   obtain⟨i,hi⟩:=List.getElem?_of_mem ht;have hil:i<ns.length:=by have:=(List.getElem?_eq_some_iff.1 hi).1;have:=R.len;omega
   have hsi:ns[i]?=some ns[i]:=List.getElem?_eq_getElem hil;obtain⟨u,r,u1,u2,u3⟩:=R.is i _ hsi;rw[hi]at u1;cases u1;have hm:=mem_of_getElem? hsi;have e:=u2.is;rw[Int.toNat_natCast]at e;have:=u2.lo;have:=u2.hi;refine⟨by omega,?_,?_⟩
   ·rw[e];exact zlV u3 (.inr (zh2 hg _ (hnb _ hm).1 (hnb _ hm).2))
   ·rw[e];exact nn2 _ (p4 _ hm) _ u3
  have hys:∀t∈ys,1≤t∧t≤L4.length:=fun t ht=>(root t ht).1;have hyl:ys.length=rs.length:=by rw[R.len,hlen]
  have hX:=reach_le hg4 hys fun t ht=>(root t ht).2.2;have hX:(posts L4 ys []).length≤24918736:=by omega
  obtain⟨q1,q2,q3,q4⟩:=zdw hg4 hys;have hnr:=nrm_posts hg4 hys fun t ht=>(root t ht).2.1;have hT4:zkK H4:=hT3.frm R.frm;obtain⟨sl4,st4,ft4⟩:=R.ms.st;have hO4:zcn L4 (ofN ys)=(0,posts L4 ys []):=zf7 hys;obtain⟨H5,d5,n5,old5⟩:=c_dumpW hT4.tabs hT4.next st4 hg4.dag (zp8 hg4) (by omega) (rs:=ofN ys) (by rw[hO4];dsimp only;omega) (rd_ofN R.vec.rd) (by rw[zoN];omega);rw[hO4]at d5;have f45:Frm (fun _=>False) H4 H5:=⟨n5,fun j hj _=>old5 j hj⟩
  have S5:=R.ms.frm f45;have hT5:=hT4.frm f45;have hv5:Rdb H5 1 v4 (ofN ys).length (zb1 (ofN ys)):=(rd_ofN R.vec.rd).keep f45 fun _ _ q=>q;obtain⟨v6,H6,m5,m6,n6,old6⟩:=cpy9 (by rw[zoN];omega) hv5;have f56:Frm (fun _=>False) H5 H6:=⟨n6,fun j hj _=>old6 j hj⟩
  have S6:=S5.frm f56;have hT6:=hT5.frm f56;obtain⟨sl6,st6,ft6⟩:=S6.st;have hx6:RdO H6 1 v6 ys.length (ints ys):=by have:=m6.rd.o;unfold ofN at this;rw[length_map,←zcK]at this;exact this
  obtain⟨H7,E2,L7,K7,v7,zs,e7,R2,b7⟩:=zlL hT6.tab st6 hg4 (by omega) hx6 (by omega) hys (bud:=fun i=>4*i) (fun i t ht a b d h1 h2 h3=>bud2_step hg4 (q2 t (mem_of_getElem? ht)) (hnr t (mem_of_getElem? ht)) i a b d h1 h2 h3) (fun i j h=>Nat.mul_le_mul_left 4 h) (by omega);have hg7:=R2.ms.good;have S7:=S6.frm R2.frm;have hT7:=hT6.frm R2.frm;have hzl:zs.length=ys.length:=R2.len;have zis:∀i t,ys[i]?=some t→∃u:Nat,zs[i]?=some u∧(1≤u∧u≤L7.length)∧tr L7 u=tr L4 t:=fun i t hi=>by obtain⟨u,r,u1,u2,u3⟩:=R2.is i t hi;have e:=u2.is;rw[Int.toNat_natCast]at e;have:=u2.lo;have:=u2.hi;exact⟨u,u1,by omega,by rw[e];exact(zg0 u3 (zeG (root t (mem_of_getElem? hi)).2.1))⟩
  have hmap:ys.map (tr L4)=zs.map (tr L7):=by
   apply ext_getElem?;intro i;rw[List.getElem?_map,List.getElem?_map];by_cases hi:i<ys.length
   ·have hsi:ys[i]?=some ys[i]:=List.getElem?_eq_getElem hi;obtain⟨u,u1,_,u2⟩:=zis i _ hsi;rw[hsi,u1];show some _=some _;rw[u2]
   ·rw[List.getElem?_eq_none (by omega),List.getElem?_eq_none (by omega)];rfl
  have hzs:∀t∈zs,1≤t∧t≤L7.length:=fun t ht=>by
   obtain⟨i,hi⟩:=List.getElem?_of_mem ht;have hil:i<ys.length:=by have:=(List.getElem?_eq_some_iff.1 hi).1;omega
   obtain⟨u,u1,u2,_⟩:=zis i _ (List.getElem?_eq_getElem hil);rw[hi]at u1;cases u1;exact u2
  have hpp:=zpM hg4.dag hg4.nod hg7.dag hg7.nod hys hzs hmap;have hX7:(posts L7 zs []).length=(posts L4 ys []).length:=by have:=congrArg List.length hpp;rw[length_map,length_map]at this;exact this.symm
  have hO7:zcn L7 (ofN zs)=(0,posts L7 zs []):=zf7 hzs;obtain⟨sl7,st7,ft7⟩:=R2.ms.st;obtain⟨H8,d8,n8,old8⟩:=c_dumpW hT7.tabs hT7.next st7 hg7.dag (zp8 hg7) (by omega) (rs:=ofN zs) (by rw[hO7];dsimp only;omega) (rd_ofN R2.vec.rd) (by rw[zoN];omega);have hdd:zhu L7 (ofN zs)=zhu L4 (ofN ys):=by rw[(zlQ hg7 hzs).1,(zlQ hg4 hys).1];exact(dump_tr hg4 hg7 hys hzs hmap).symm
  rw[hO7,hdd]at d8;have f78:Frm (fun _=>False) H7 H8:=⟨n8,fun j hj _=>old8 j hj⟩
  have S8:=S7.frm f78;obtain⟨sl8,st8,ft8⟩:=S8.st;have f48:Frm (fun _=>False) H4 H8:=((f45.trans f56 fun j q=>q.elim).trans R2.frm fun j q=>q.elim).trans f78 fun j q=>q.elim;have hx8:RdO H8 1 v4 ys.length (ints ys):=(R.vec.rd.keep f48 fun _ _ q=>q).o;obtain⟨H9,v9,e9,o9⟩:=Go.AM.zpf st8 hg4.dag (by omega) hx8 (by omega) hys;have f89:Frm (fun _=>False) H8 H9:=⟨o9.next,fun j hj _=>o9.old j hj⟩
  have S9:=S8.frm f89;have st9:StF H9 E.p 0 L4 K4 sl8 E.f E.g:=st8.keep (fun j hj=>o9.old j (st8.foot_lt hj)) o9.next
  obtain⟨HH,l9⟩:=loopP (E:=E.re H9 sl8) (ys:=ys) hg4.dag q2 (fun t ht=>(hnr t ht).rule) o9.vec.rd (fun j hj z=>by
   have:=o9.new j hj;rcases z with z|z
   ·have:=st8.foot_lt z;omega
   ·have:=S8.dl;omega) (by omega) (posts L4 ys []).length 0 H9 L4 K4 (Nat.zero_add _) (S9.re st9 ft8) ⟨[],(append_nil _).symm⟩ (Nat.le_add_right _ _)
  have l9:zbi (zaT RR (ptr E.m) v9) [.int .i64 0] H9=_:=l9;have pm:∀(m:Nat) (kk:Value→Option (Value×Hp)),pBin PP .eql AF (ptr m) (.pointer none) kk=kk (.bool false):=fun m kk=>rfl;have pm':∀(m:Nat) (kk:Value→Option Outc),pBin PP .eql AF (ptr m) (.pointer none) kk=kk (.bool false):=fun m kk=>rfl;have hse:∀{α:Type} (k:Value→Option α),pBin PP .neq Ae (.string (ba (zhu L4 (ofN ys)))) (.string (ba (zhu L4 (ofN ys)))) k=k (.bool false):=fun k=>(s_strn9 Ae (zhu L4 (ofN ys)) (zhu L4 (ofN ys)) k).trans (by rw[beq_self_eq_true];rfl);rw[zac e4,zl3,zl2,zl1,zcz,bF ne,pm,zag,zam,zac (zh6 R.ms),zac d5,x01,zac (zh6 S5),m5,zac e7,zl3,zl2,zl1]at hr;rw[pm',zag,zam,zcz,bF ne,zcz,bF ne,zay,zaR,zac (zh6 R2.ms),zac d8,x01,hse,zag,zam,zcz,bF ne,zay,zaR]at hr;rw[zac (zh6 S8),zac e9,x01,zcz,bF ne,l9,zay,zb3,zbf]at hr;exact⟨_,hr⟩
 ·have hord:zcn L rs=(70,[]):=by unfold zcn;rw[if_neg hall]
  obtain⟨H4,w,e4,o4⟩:=c13 st3 hg.dag (by omega) m4.rd.o (by omega);rw[hord]at e4;have hs:=(zfv E0 rfl (.pointer (some ⟨Ha.next+2,0,none⟩)) v3 H3).trans (zfS _ _ _ _);have n70:(70:Int)≠0:=by decide
  rw[zac e4,x01,zcz,bT n70]at hs;have pm:∀(kk:Value→Option (Value×Hp)),pBin PP .eql AF (.pointer none) (.pointer none) kk=kk (.bool true):=fun kk=>rfl;have pl:∀(kk:Value→Option (Value×Hp)),pLen .sl (.slice none 0 0) H4 kk=kk (.int .i64 0):=fun kk=>rfl;rw[zac hs,zl3,zl2,zl1,zcz,bT n70,pm,zag,zau,pl,zaD,decide_eq_true rfl]at hr;exact⟨_,hr⟩
end Go.AM.N14
namespace Go.AM
open List Go Go.ChangeShapes Go.WideShapes Go.ChangeAt Go.RowKit
open Go.Proofs.YthcjfegfieoaiaaGreatDoor in
theorem zkl{HH:Type}{P:Program}{c:TypeId→Option (List Sc)}:∀(fs:List Field) (off:Nat) (ks:List Sc) (ys:List (DataW HH)),zlI P c fs off=some ks→(∀(i:Nat) (f:Field),fs[i]?=some f→∃y,ys[i]?=some y∧∀k1,c f.type=some k1→k1.length≤Rows.uptoBulk y)→ks.length≤Rows.uptoBulkAll ys
 |[],off,ks,ys,h,_=>by cases h;exact Nat.zero_le _
 |f::fs,off,ks,ys,h,hx=>by
  obtain⟨y,hy,hk⟩:=hx 0 f rfl;cases ys with
  |nil=>cases hy
  |cons y0 ys=>
   cases hy;unfold zlI at h;split at h
   ·cases h
   ·rename_i k1 h1;split at h
    ·split at h
     ·rename_i r hr;cases h;have a:=hk k1 h1;have b:=zkl fs _ r ys hr fun i f hi=>hx (i+1) f hi;rw[length_append];show _≤Rows.uptoBulk y+Rows.uptoBulkAll ys;omega
     ·cases h
    ·cases h
open Go.Proofs.YthcjfegfieoaiaaGreatDoor in
theorem znN{HH:Type}{enc:TypeId×Value→HH}{P:Program}{w:World}{base:Nat}{sp:Nat→Bool}{held:Bool}:∀(d:Nat) (t:TypeId) (ks:List Sc),flat P d t=some ks→∀(fuel:Nat) (cs:List Value) (x:DataW HH×List MemPlace),DataW.trod enc P w base sp held fuel t cs=some x→ks.length≤Rows.uptoBulk x.1∧(ks.length≠1→ks.length+1≤Rows.uptoBulk x.1)
 |0,t,ks,h,_,_,_,_=>by cases h
 |d+1,t,ks,h,fuel,cs,x,hx=>by
  unfold flat at h;split at h
  ·rename_i hu;cases h;exact⟨bulk1 _,fun q=>absurd rfl q⟩
  ·rename_i k hu;cases h;exact⟨bulk1 _,fun q=>absurd rfl q⟩
  ·rename_i hu;cases h;exact⟨bulk1 _,fun q=>absurd rfl q⟩
  ·rename_i fs hu;split at h
   ·rename_i k1 hf;split at h
    ·cases h;obtain⟨xs,n,_,rfl,hl,hxl,hall⟩:=DataW.trod_struct hu hx;have key:=zkl (HH:=HH) fs.toList 0 ks (xs.map (·.1)) hf fun i f hi=>by
      have hi2:fs[i]?=some f:=by simpa using hi
      have:=hall i f hi2;have hlt:i<fs.size:=(Array.getElem?_eq_some_iff.1 hi2).1;obtain⟨z,hz⟩:∃z,xs[i]?=some z:=⟨xs[i]'(by omega),List.getElem?_eq_getElem (by omega)⟩
      rw[hz]at this;exact⟨z.1,by rw[List.getElem?_map,hz];rfl,fun k2 hk2=>(znN d f.type k2 hk2 n _ z this).1⟩
     have e:Rows.uptoBulk (DataW.agg (xs.map (·.1)))=Rows.uptoBulkAll (xs.map (·.1))+1:=by simp only[Rows.uptoBulk]
     exact⟨by show _≤Rows.uptoBulk (DataW.agg (xs.map (·.1)));omega,fun _=>by show _≤Rows.uptoBulk (DataW.agg (xs.map (·.1)));omega⟩
    ·cases h
   ·cases h
  ·cases h
open Go.Proofs.YthcjfegfieoaiaaGreatDoor in
theorem zql{HH:Type}{n:Nat}:∀es:List (DataW HH),(∀e∈es,n≤Rows.uptoBulk e)→n*es.length≤Rows.uptoBulkAll es
 |[],_=>Nat.le_refl _
 |d::r,h=>by have a:=zql r fun e he=>h e (mem_cons_of_mem _ he);have b:=h d (mem_cons_self ..);rw[length_cons,Nat.mul_add,Nat.mul_one];show _≤Rows.uptoBulk d+Rows.uptoBulkAll r;omega
theorem zos{HH:Type}{enc:TypeId×Value→HH}{W:World}{v':Value}{es sp:List (DataW HH)}{ps:List MemPlace}(hd:DataW.Trod enc PP W 0 (fun _=>true) true AG v' (.slice es sp) ps):17*es.length≤Go.Proofs.YthcjfegfieoaiaaGreatDoor.Rows.uptoBulk (DataW.slice es sp):=by
 have ht:Program.underlying PP AG=some (.slice Cg):=by kernel_rfl
 obtain⟨fuel,hx⟩:=hd;rcases DataW.trod_slice ht hx with⟨h1,h2⟩|⟨a',len',cap',elems,rest,n,hfu,h1,h2,h3,h4,h5,h6,h7,_,_⟩
 ·cases h2
 ·cases h2;have key:=zql (n:=17) (elems.map (·.1)) fun e he=>by obtain⟨z,hz,rfl⟩:=mem_map.1 he;obtain⟨i,hi⟩:=List.getElem?_of_mem hz;have hlt:=(List.getElem?_eq_some_iff.1 hi).1;have:=h7 i (by omega);rw[hi]at this;obtain⟨cs,_,hc⟩:=Option.bind_eq_some_iff.1 this;exact(znN 3 Cg ks16 flat46 n cs z hc).2 (by decide)
  simp only[Go.Proofs.YthcjfegfieoaiaaGreatDoor.Rows.uptoBulk];omega
theorem zm1{HH:Type}{enc:TypeId×Value→HH}{W:World}{H:Hp}{β:Bt}(hR:Rel PP W H β)(hno:∀i o,H.get i=some o→o.own=false){b0:Nat}{v':Value}{dw:DataW HH}{ps:List MemPlace}
  (hval:Value.okWide PP W .any b0 AG v') (hd:DataW.Trod enc PP W 0 (fun _=>true) true AG v' dw ps) :
  ∃(v:Value) (H':Hp) (β':Bt) (os:List OpA),Rel PP W H' β'∧(∀i o,H'.get i=some o→o.own=false)∧β.le β'∧VRel β' v v'∧ScR H' v os∧(∀o∈os,o.Ok)∧17*os.length≤Go.Proofs.YthcjfegfieoaiaaGreatDoor.Rows.uptoBulk dw∧Frm (fun _=>False) H H':=by
 obtain⟨v,H',β',g1,g2,g3,g4,g5⟩:=zn7 (P:=PP) (t:=AG) (e:=Cg) (d:=3) (ks:=ks16) (by kernel_rfl) flat46 (by kernel_rfl) (by decide) hR hno hval hd;rcases g5 with⟨rfl,rfl,rfl⟩|⟨L,es,sp,rfl,rfl,h1,rfl,h2⟩
 ·exact⟨_,_,β',[],g1,g2,g3,g4,.inl ⟨rfl,rfl⟩,fun o h=>(by cases h),by simp,Frm.refl _ _⟩
 ·obtain⟨os,h3,h4⟩:=decL (cells:=OpA.cells) opDec L h1;subst h3;refine⟨_,_,β',os,g1,g2,g3,g4,.inr ⟨H.next,?_,?_,?_⟩,h4,?_,zlG _ _ _⟩
  ·rw[length_map];rfl
  ·rw[zgK,if_pos rfl,flatMap_def]
  ·show H.next<H.next+1;omega
  ·have:=zos hd;rw[h2,length_map]at this;exact this
end Go.AM
namespace Go.AM
open List Go Go.ChangeShapes Go.WideShapes Go.ChangeAt Go.RowKit
theorem flat3:flat PP 1 Aa=some [.int .i64]:=by kernel_rfl
theorem intDec(l:List Value)(h:OkL [.int .i64] l):∃o:Int,[Value.int .i64 o]=l∧(IntKind.i64.min≤o∧o≤IntKind.i64.max):=by
 obtain⟨hl,hh⟩:=h;obtain⟨v,l,rfl,hl2⟩:=zfW hl;obtain⟨_,e,n,rfl,p,q⟩:=hh 0 _ rfl;cases e;have:l=[]:=by cases l with|nil=>rfl|cons a t=>cases hl2
 subst this;exact⟨n,rfl,p,q⟩
theorem ints_arg{HH:Type}{enc:TypeId×Value→HH}{W:World}{H:Hp}{β:Bt}(hR:Rel PP W H β)(hno:∀i o,H.get i=some o→o.own=false){b0:Nat}{v':Value}{dw:DataW HH}{ps:List MemPlace}
  (hval:Value.okWide PP W .any b0 A1 v') (hd:DataW.Trod enc PP W 0 (fun _=>true) true A1 v' dw ps) :
  ∃(v:Value) (H':Hp) (β':Bt) (os:List Int),Rel PP W H' β'∧(∀i o,H'.get i=some o→o.own=false)∧β.le β'∧VRel β' v v'∧Rdb H' 1 v os.length (zb1 os)∧(∀o∈os,IntKind.i64.min≤o∧o≤IntKind.i64.max)∧os.length≤Go.Proofs.YthcjfegfieoaiaaGreatDoor.Rows.uptoBulk dw∧Frm (fun _=>False) H H':=by
 obtain⟨v,H',β',g1,g2,g3,g4,g5⟩:=zn7 (P:=PP) (t:=A1) (e:=Aa) (d:=1) (ks:=[.int .i64]) (by kernel_rfl) flat3 (by kernel_rfl) (by decide) hR hno hval hd;rcases g5 with⟨rfl,rfl,rfl⟩|⟨L,es,sp,rfl,rfl,h1,rfl,h2⟩
 ·exact⟨_,_,β',[],g1,g2,g3,g4,.inl ⟨rfl,rfl,rfl⟩,fun o h=>(by cases h),by simp,Frm.refl _ _⟩
 ·obtain⟨os,h3,h4⟩:=decL (cells:=fun (t:Int)=>[Value.int .i64 t]) intDec L h1;have hfl:L.flatten=zb1 os:=by
   rw[h3,←flatMap_def];clear h3 h1 g1 g2 g3 g4 h2 h4;induction os with
   |nil=>rfl
   |cons a t ih=>rw[flatMap_cons,ih];rfl
  have hll:L.length=os.length:=by rw[h3,length_map]
  refine⟨_,_,β',os,g1,g2,g3,g4,.inr ⟨H.next,L.length,[],false,?_,by omega,?_,?_,?_⟩,h4,?_,zlG _ _ _⟩
  ·rw[hll];rfl
  ·rw[get_new,if_pos rfl,hfl,append_nil]
  ·rw[intsI_len,Nat.mul_one]
  ·show H.next<H.next+1;omega
  ·have:=zqj es;simp only[Go.Proofs.YthcjfegfieoaiaaGreatDoor.Rows.uptoBulk];omega
end Go.AM
namespace Go.AM
open Go Go.AM.N14 Go.ChangeShapes Go.WideShapes Go.ChangeAt Go.RowKit Go.Proofs.YthcjfegfieoaiaaGreatDoor
theorem zgz{P:Program}{W:World}{name:String}{k:IntKind}{zs:List Int}{rest:List (String×DataW Unit)}{g:Nat}{t e:TypeId}{n:Nat}{ps:List MemPlace}
  (hg:P.globalNamed name=some g) (hty:(P.globals[g]?).map (·.type)=some t) (ht:P.underlying t=some (.array n e)) (he:P.underlying e=some (.int k)) (hce:P.cellsOf e=1) (hct:P.cellsOf t=n)
  (h:DataW.LaidVars P W ((name,Go.Lib.tabData k zs)::rest) ps):∃ty fz,W.heap[g]?=some (.cells (zs.map fun z=>Value.int k z).toArray ty fz):=by
 obtain⟨g',t',cs,fuel,p,q,hg',ht',hvar,hd,_,_⟩:=h;obtain rfl:=Option.some.inj (hg.symm.trans hg');obtain rfl:=Option.some.inj (hty.symm.trans ht');have hc:=Go.Lib.cells_of_tab ht he hce hct hd;unfold World.var? at hvar;rw[hg]at hvar;have hvar:(match W.heap[g]? with|some (Obj.cells cs _ _)=>some cs|_=>none)=some cs:=hvar;split at hvar
 ·rename_i cs' ty fz hw;cases hvar;refine⟨ty,fz,?_⟩;rw[hw,←hc]
 ·cases hvar
theorem zgW{P:Program}{W:World}{x:String×DataW Unit}{rest:List (String×DataW Unit)}{ps:List MemPlace}(h:DataW.LaidVars P W (x::rest) ps):∃q,DataW.LaidVars P W rest q:=by obtain⟨n,d⟩:=x;obtain⟨g',t',cs,fuel,p,q,_,_,_,_,hq,_⟩:=h;exact⟨q,hq⟩
theorem pow_data:(Rows.laid_internal_strconv_uint64pow10:DataW Unit)=Go.Lib.tabData .u64 zqD:=by kernel_rfl
theorem spc_data:(Rows.laid_strings_asciiSpace:DataW Unit)=Go.Lib.tabData .u8 zk6:=by kernel_rfl
theorem bru_data:(Rows.laid_math_bits_deBruijn64tab:DataW Unit)=Go.Lib.tabData .u8 zpg:=by kernel_rfl
abbrev laidL:List (String×DataW Unit):=[("math/bits.deBruijn32tab",Rows.laid_math_bits_deBruijn32tab),("math/bits.deBruijn64tab",Rows.laid_math_bits_deBruijn64tab),("internal/strconv.uint64pow10",Rows.laid_internal_strconv_uint64pow10),("unicode.White_Space",Rows.laid_unicode_White_Space),("strings.asciiSpace",Rows.laid_strings_asciiSpace)]
theorem laid_tabs{W:World}(h:laidMetH PP laidL W):(∃ty fz,W.heap[AS]?=some (.cells (zqD.map fun z=>Value.int .u64 z).toArray ty fz)) ∧
  (∃ty fz,W.heap[A2]?=some (.cells (zk6.map fun z=>Value.int .u8 z).toArray ty fz))∧(∃ty fz,W.heap[Au]?=some (.cells (zpg.map fun z=>Value.int .u8 z).toArray ty fz)):=by
 obtain⟨ps,h,_⟩:laidMet PP laidL W:=h;obtain⟨q1,h1⟩:=zgW h;obtain⟨q2,h2⟩:=zgW h1;obtain⟨q3,h3⟩:=zgW h2;obtain⟨q4,h4⟩:=zgW h3;rw[bru_data]at h1;rw[pow_data]at h2;rw[spc_data]at h4
 exact⟨zgz (by kernel_rfl) (t:=Cu) (e:=Ab) (n:=20) (by kernel_rfl) (by kernel_rfl) (by kernel_rfl) (by kernel_rfl) (by kernel_rfl) h2,
  zgz (by kernel_rfl) (t:=Cv) (e:=Aq) (n:=256) (by kernel_rfl) (by kernel_rfl) (by kernel_rfl) (by kernel_rfl) (by kernel_rfl) h4,
  zgz (by kernel_rfl) (t:=Cw) (e:=Aq) (n:=64) (by kernel_rfl) (by kernel_rfl) (by kernel_rfl) (by kernel_rfl) (by kernel_rfl) h1⟩
theorem start{W:World}(hsz:PP.globals.size≤W.heap.size)(h:laidMetH PP laidL W):∃H0,Rel PP W H0 (B00 PP)∧(∀i o,H0.get i=some o→o.own=false)∧zkK H0:=by
 obtain⟨⟨t1,z1,e1⟩,⟨t2,z2,e2⟩,t3,z3,e3⟩:=laid_tabs h;let Fx:Nat→Option AObj:=fun i=>if i=AS then some (.fix (.cells (zqD.map fun z=>Value.int .u64 z).toArray t1 z1)) else if i=A2 then some (.fix (.cells (zk6.map fun z=>Value.int .u8 z).toArray t2 z2))
  else if i=Au then some (.fix (.cells (zpg.map fun z=>Value.int .u8 z).toArray t3 z3)) else none
 obtain⟨r1,r2⟩:=relStart (P:=PP) hsz (F:=Fx) (fun i o hi=>by
  have hi:(if i=AS then _ else if i=A2 then _ else if i=Au then _ else none)=some o:=hi;split at hi
  ·rename_i q;subst q;cases hi;exact .inl ⟨_,rfl,e1⟩
  ·split at hi
   ·rename_i q;subst q;cases hi;exact .inl ⟨_,rfl,e2⟩
   ·split at hi
    ·rename_i q;subst q;cases hi;exact .inl ⟨_,rfl,e3⟩
    ·cases hi)
 have g:∀i,i<6→(HS PP Fx).get i=Fx i:=fun i hi=>if_pos (by rw[zkZ];exact hi);refine⟨_,r1,r2,⟨Nat.le_refl _,⟨⟨_,t1,z1,(g _ (by decide)).trans rfl,?_⟩,⟨_,t2,z2,(g _ (by decide)).trans rfl,?_⟩,⟨_,t3,z3,(g _ (by decide)).trans rfl,?_⟩⟩,⟨by show Au<PP.globals.size;rw[zkZ];decide,_,t3,z3,(g _ (by decide)).trans rfl,rfl⟩⟩⟩
 ·kernel_rfl
 ·kernel_rfl
 ·kernel_rfl
noncomputable def zkc(os:Os):World:=
 let N:=(World.settled PP os).heap.size
 let w0:=World.holding PP os ⟨#[.cells (Go.Lib.whiteT.map fun (z:Nat)=>Value.int .u16 (z:Int)).toArray Cx,.cells #[.slice (some ⟨N,0,none⟩) 7 7,.slice none 0 0,.int .i64 2] Cy],#[],[]⟩
 let put (h:Array Obj) (g:Nat) (cs:Array Value):Array Obj:=h.modify g fun
  |.cells _ t frozen=>.cells cs t frozen
  |o=>o
 let h1:=put w0.heap A2 (zk6.map fun z=>Value.int .u8 z).toArray
 let h2:=put h1 AS (zqD.map fun z=>Value.int .u64 z).toArray
 let h3:=put h2 Au (zpg.map fun z=>Value.int .u8 z).toArray
 let h4:=put h3 Ct (Go.Lib.deBruijn32tab.map fun (z:Nat)=>Value.int .u8 (z:Int)).toArray
 let h5:=put h4 Cs #[.pointer (some ⟨N+1,0,none⟩)]
 { w0 with heap:=h5 }
end Go.AM
