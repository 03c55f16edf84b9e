/- Part of the proof of EvalCarryMeansUptoCardSaid: see the last file.  -/
import Derived.KernelRfl
import Derived.Lib.DecodeN
import Derived.Laws.MathBits
import Derived.Test.YtcbmccpkhagckaaGreatDoorRows
import Derived.Lib.ItoaLen
import Derived.Lib.Strings
import Derived.Test.YtcbmccpkhagckaaGreatDoorT0
import Derived.Test.YtcbmccpkhagckaaGreatDoorT1
import Derived.Test.YtcbmccpkhagckaaGreatDoorT2
set_option linter.unusedSimpArgs false
set_option linter.unusedVariables false
set_option linter.unusedSectionVars false
set_option maxRecDepth 100000
namespace Go.AM
open Go
theorem zgB{α:Type}(a b c:Int)(k:Value→Option α):zaB PP A6 [(0,.int .i64 a),(1,.int .i64 b),(2,.int .i64 c)] k=k (.agg #[.int .i64 a,.int .i64 b,.int .i64 c]):=by
 have:zg5 PP A6 [(0,.int .i64 a),(1,.int .i64 b),(2,.int .i64 c)]=some (.agg #[.int .i64 a,.int .i64 b,.int .i64 c]):=by kernel_rfl
 unfold zaB;rw[this]
theorem s_arr0{α:Type}(a b c:Value)(k:Value→Option α):zcx 3 false 1 (.agg #[a,b,c]) (.int .i64 0) k=k a:=rfl
theorem s_arr1{α:Type}(a b c:Value)(k:Value→Option α):zcx 3 false 1 (.agg #[a,b,c]) (.int .i64 1) k=k b:=rfl
theorem s_arr2{α:Type}(a b c:Value)(k:Value→Option α):zcx 3 false 1 (.agg #[a,b,c]) (.int .i64 2) k=k c:=rfl
theorem loop3{H:Hp}{p f g:Nat}{lim:Int}{L:List Nd}{sl:Value}(hs:StR H p lim L sl f g)(n:Nd)(S:List Value→Hp→Option Outc)
  (hS:S=fun (l25:List Value) (H26:Hp)=>
 pBin PP .lss Aa (l25.getD 0 undef) (.int .i64 3) fun v27=>
 zaa v27 fun b28=>br b28
 (zcx 3 false 1 (.agg #[.int .i64 n.a,.int .i64 n.b,.int .i64 n.c]) (l25.getD 0 undef) fun v29=>
 zad RR Ax [.int .i64 n.op] H26 fun r31 H32=>
 pBin PP .lss Aa (l25.getD 0 undef) r31 fun v33=>
 zaa v33 fun b34=>br b34
 (zad RR AL [.pointer (some ⟨p,0,none⟩),v29] H32 fun r35 H36=>
 pUn .not r35 fun v37=>
 zaa v37 fun b38=>br b38
 (some (.ret,[(.tuple #[(.int .i64 0),(.int .i64 70)])],H36))
 (pBin PP .add Aa (l25.getD 0 undef) (.int .i64 1) fun v39=>
 some (.next,[v39],H36)))
 (pBin PP .add Aa (l25.getD 0 undef) (.int .i64 1) fun v40=>
 some (.next,[v40],H32)))
 (some (.exit 0,[(l25.getD 0 undef)],H26))) :
  zat S [.int .i64 0] H=if zbQ L n=true then some (.ret,[.tuple #[.int .i64 0,.int .i64 70]],H) else some (.exit 0,[.int .i64 3],H):=by
 have w1:IntKind.i64.wrap (0+1)=1:=by decide
 have w2:IntKind.i64.wrap (1+1)=2:=by decide
 have w3:IntKind.i64.wrap (2+1)=3:=by decide
 have e0:zat S [.int .i64 0] H=if (decide (zah n.op≥1)&&!isT L n.a)=true then some (.ret,[.tuple #[.int .i64 0,.int .i64 70]],H) else zat S [.int .i64 1] H:=by
  rw[zak];have:S [.int .i64 0] H=if (decide (zah n.op≥1)&&!isT L n.a)=true then some (.ret,[.tuple #[.int .i64 0,.int .i64 70]],H) else some (.next,[.int .i64 1],H):=by
   rw[hS];simp only[za3,zac,s_br,qg0,s_arr0,zae (c29 _ _),zae (c19 hs),zb9,zaM,w1,decide_eq_true_eq];by_cases q:0<zah n.op
   ·have q2:zah n.op≥1:=by omega
    cases isT L n.a<;>simp[q,q2]
   ·have q2:¬zah n.op≥1:=by omega
    simp[q,q2]
  rw[this];split<;>rfl
 have e1:zat S [.int .i64 1] H=if (decide (zah n.op≥2)&&!isT L n.b)=true then some (.ret,[.tuple #[.int .i64 0,.int .i64 70]],H) else zat S [.int .i64 2] H:=by
  rw[zak];have:S [.int .i64 1] H=if (decide (zah n.op≥2)&&!isT L n.b)=true then some (.ret,[.tuple #[.int .i64 0,.int .i64 70]],H) else some (.next,[.int .i64 2],H):=by
   rw[hS];simp only[za3,zac,s_br,qg0,s_arr1,zae (c29 _ _),zae (c19 hs),zb9,zaM,w2,decide_eq_true_eq];by_cases q:1<zah n.op
   ·have q2:zah n.op≥2:=by omega
    cases isT L n.b<;>simp[q,q2]
   ·have q2:¬zah n.op≥2:=by omega
    simp[q,q2]
  rw[this];split<;>rfl
 have e2:zat S [.int .i64 2] H=if (decide (zah n.op≥3)&&!isT L n.c)=true then some (.ret,[.tuple #[.int .i64 0,.int .i64 70]],H) else zat S [.int .i64 3] H:=by
  rw[zak];have:S [.int .i64 2] H=if (decide (zah n.op≥3)&&!isT L n.c)=true then some (.ret,[.tuple #[.int .i64 0,.int .i64 70]],H) else some (.next,[.int .i64 3],H):=by
   rw[hS];simp only[za3,zac,s_br,qg0,s_arr2,zae (c29 _ _),zae (c19 hs),zb9,zaM,w3,decide_eq_true_eq];by_cases q:2<zah n.op
   ·have q2:zah n.op≥3:=by omega
    cases isT L n.c<;>simp[q,q2]
   ·have q2:¬zah n.op≥3:=by omega
    simp[q,q2]
  rw[this];split<;>rfl
 have e3:zat S [.int .i64 3] H=some (.exit 0,[.int .i64 3],H):=by
  rw[zak];have:S [.int .i64 3] H=some (.exit 0,[.int .i64 3],H):=by rw[hS];simp[za3,zac,s_br]
  rw[this];rfl
 rw[e0,e1,e2,e3];unfold zbQ;cases decide (zah n.op≥1)&&!isT L n.a<;>cases decide (zah n.op≥2)&&!isT L n.b<;>cases decide (zah n.op≥3)&&!isT L n.c<;>rfl
theorem c22r{H:Hp}{p f g:Nat}{lim:Int}{L:List Nd}{K:List (ByteArray×Int)}{sl:Value}(h:StF H p lim L K sl f g)(n:Nd)(hnum:0≤n.num∧n.num<18446744073709551616)
  (hW:∀m∈L,0≤m.w∧m.w≤64) (hb:(L.length+1)*64≤2^47) :
  RR Au [.pointer (some ⟨p,0,none⟩),n.val] H=if zc9 L K n≠0 then some (.tuple #[.int .i64 0,.int .i64 (zc9 L K n)],H) else znB p n H:=by
 have hL:(L.length:Int)≤4611686018427387904:=by omega
 have ha:=wT_bd hW n.a;have hbd:=wT_bd hW n.b;have stay:∀e:Int,zc9 L K n=e→e≠0→RR Au [.pointer (some ⟨p,0,none⟩),n.val] H=some (.tuple #[.int .i64 0,.int .i64 e],H) →
   RR Au [.pointer (some ⟨p,0,none⟩),n.val] H=if zc9 L K n≠0 then some (.tuple #[.int .i64 0,.int .i64 (zc9 L K n)],H) else znB p n H:=fun e he h0 hr=>by
  rw[he,if_pos h0];exact hr
 have hrun:=zhl E0 rfl (.pointer (some ⟨p,0,none⟩)) n.val H;unfold zeK at hrun;simp only[n0,n1,n2,n3,n4,za3,zci,zac,s_br,zap,zez,zaN,zfg,zfQ,decide_eq_true_eq,zgB]at hrun;by_cases hop1:n.op<1
 ·rw[if_pos hop1]at hrun;exact stay 73 (by unfold zc9;rw[if_pos (.inl hop1)]) (by decide) hrun
 rw[if_neg hop1]at hrun;by_cases hop2:n.op>33
 ·rw[if_pos hop2]at hrun;exact stay 73 (by unfold zc9;rw[if_pos (.inr hop2)]) (by decide) hrun
 rw[if_neg hop2]at hrun;have hop:¬(n.op<1∨n.op>33):=by omega
 by_cases hw1:n.w<0
 ·rw[if_pos hw1]at hrun;exact stay 5 (by unfold zc9;rw[if_neg hop,if_pos (.inl hw1)]) (by decide) hrun
 rw[if_neg hw1]at hrun;by_cases hw2:n.w>64
 ·rw[if_pos hw2]at hrun;exact stay 5 (by unfold zc9;rw[if_neg hop,if_pos (.inr hw2)]) (by decide) hrun
 rw[if_neg hw2]at hrun;have hww:¬(n.w<0∨n.w>64):=by omega
 have hloop:=loop3 h.st n _ rfl;simp only[za3,zac,s_br,zb9,zaM,decide_eq_true_eq]at hloop;simp only[za3,zac,s_br,zb9,zaM,decide_eq_true_eq,hloop]at hrun;by_cases hpa:zbQ L n=true
 ·rw[if_pos hpa]at hrun;exact stay 70 (by unfold zc9;rw[if_neg hop,if_neg hww,if_pos hpa]) (by decide) hrun
 rw[if_neg hpa]at hrun;simp only[zap,za6,zay]at hrun;have pa:zah n.op≥1→isT L n.a=true:=fun q=>by
  cases e:isT L n.a with
  |true=>rfl
  |false=>exact absurd (by unfold zbQ;simp[q,e]) hpa
 have hn:n.Ok:=⟨by omega,by omega,by omega,by omega,hnum.1,hnum.2⟩
 rw[n07,zae (c41 n H),zac]at hrun;by_cases hsp:zex (zah n.op) n=true
 ·rw[if_pos hsp]at hrun;exact stay 1 (by unfold zc9;rw[if_neg hop,if_neg hww,if_neg hpa,if_pos hsp]) (by decide) hrun
 rw[if_neg hsp]at hrun;rw[n07,zae (c42 h.st hL n),zb9,zac]at hrun;cases hso:zbC n.op (wT L (-1) n.a) (wT L (-1) n.b) (wT L (-1) n.c) with
 |false=>
  rw[hso]at hrun;simp only[Bool.not_false,if_true]at hrun;exact stay 71 (by unfold zc9;rw[if_neg hop,if_neg hww,if_neg hpa,if_neg hsp,if_pos hso]) (by decide) hrun
 |true=>
 have hsort:n.op≥15→wT L (-1) n.a>0:=fun q=>by
  have q0:zah n.op≠0:=by unfold zah;(repeat' split)<;>omega
  have:=hso;unfold zbC at this;rw[if_neg q0,if_neg (by omega),if_neg (by omega),if_neg (by omega),if_neg (by omega)]at this;split at this
  ·simp at this;omega
  ·split at this
   ·simpa using this
   ·simp at this;omega
 rw[hso]at hrun;simp only[Bool.not_true,Bool.false_eq_true,if_false]at hrun;rw[n07,zae (c43 h.st hL n hn ha hbd hsort),zb9,zac]at hrun;cases hwi:zbB n (wT L (-1) n.a) (wT L (-1) n.b) with
 |false=>
  rw[hwi]at hrun;simp only[Bool.not_false,if_true]at hrun;exact stay 5 (by unfold zc9;rw[if_neg hop,if_neg hww,if_neg hpa,if_neg hsp,hso,if_neg (by decide),if_pos hwi]) (by decide) hrun
 |true=>
 rw[hwi]at hrun;simp only[Bool.not_true,Bool.false_eq_true,if_false]at hrun;have hl9:=look9 h.gm n.name;have hnm:n.op=4→zbl K n=true→RR Au [.pointer (some ⟨p,0,none⟩),n.val] H=some (.tuple #[.int .i64 0,.int .i64 72],H):=by
  intro h4 hbad;refine hrun.trans ?_;simp only[h4,zaO,decide_true,zac,s_br,if_true,zbg,zaI,Nat.zero_add,h.st.l3,n6,n1,ziD hl9];unfold zbl at hbad;cases hq:za0 n.name 0 K with
  |none=>
   rw[hq]at hbad;simp only[x01,zae (c44 n.name H),zb9,zac,s_br];cases hno:zcB n.name with
   |true=>rw[hno]at hbad;cases hbad
   |false=>simp[zap,zfg,zfQ]
  |some q=>
   rw[hq]at hbad;simp only[x01,zae (c44 n.name H),zb9,zac,s_br,zbt];cases hno:zcB n.name with
   |true=>
    rw[hno]at hbad;have hne:q.2≠n.w:=by simpa using hbad
    simp[hne,zap,zfg,zfQ]
   |false=>simp[zap,zfg,zfQ]
 by_cases hbad:n.op=4∧zbl K n=true
 ·exact stay 72 (by unfold zc9;rw[if_neg hop,if_neg hww,if_neg hpa,if_neg hsp,hso,if_neg (by decide),hwi,if_neg (by decide),if_pos hbad]) (by decide) (hnm hbad.1 hbad.2)
 have herr:zc9 L K n=0:=by unfold zc9;rw[if_neg hop,if_neg hww,if_neg hpa,if_neg hsp,hso,if_neg (by decide),hwi,if_neg (by decide),if_neg hbad]
 rw[herr,if_neg (by decide)];have hgood:n.op=4→zbl K n=false:=fun h4=>by
  cases e:zbl K n with
  |true=>exact absurd ⟨h4,e⟩ hbad
  |false=>rfl
 refine hrun.trans ?_;unfold znB;by_cases h4:n.op=4
 ·have hb:=hgood h4;unfold zbl at hb;cases hq:za0 n.name 0 K with
  |none=>
   rw[hq]at hb hl9;have hno:zcB n.name=true:=by simpa using hb
   simp only[h4,zaO,decide_true,zac,s_br,if_true,zbg,zaI,Nat.zero_add,h.st.l3,n0,n6,n1,ziD hl9,x01,zae (c44 n.name H),zb9,hno,Bool.not_true,Bool.false_eq_true,if_false,zap,zaN]
  |some q=>
   rw[hq]at hb hl9;have hno:zcB n.name=true∧q.2=n.w:=by simpa using hb
   simp only[h4,zaO,decide_true,zac,s_br,if_true,zbg,zaI,Nat.zero_add,h.st.l3,n0,n6,n1,ziD hl9,x01,zae (c44 n.name H),zb9,zbt,hno.1,hno.2,Bool.not_true,Bool.false_eq_true,if_false,zap,zaN,ne_eq,not_true_eq_false,decide_false]
 ·simp only[n0,n1,n6,zbg,zaI,Nat.zero_add,h4,zaO,decide_false,zac,s_br,Bool.false_eq_true,if_false,zap,zaN]
theorem c22{H:Hp}{p f g:Nat}{lim:Int}{L:List Nd}{K:List (ByteArray×Int)}{sl:Value}(h:StF H p lim L K sl f g)(n:Nd)(hnum:0≤n.num∧n.num<18446744073709551616)
  (hW:∀m∈L,0≤m.w∧m.w≤64) (hb:(L.length+1)*64≤2^47) :
  ∃H' sl',RR Au [.pointer (some ⟨p,0,none⟩),n.val] H=some (.tuple #[.int .i64 (mkR lim L K n).1,.int .i64 (mkR lim L K n).2.1],H')∧MkOk H p lim sl f g (mkR lim L K n) H' sl':=by
 have hr:=c22r h n hnum hW hb;unfold mkR;by_cases he:zc9 L K n≠0
 ·rw[if_pos he]at hr ⊢;exact⟨H,sl,hr,MkOk.stay h rfl⟩
 ·rw[if_neg he]at hr ⊢
  obtain⟨H',sl',h1,h2⟩:=rest_ok h n (fun h4 j u hq=>by
   have hb:zbl K n=false:=Bool.eq_false_iff.2 fun q=>he (by
    unfold zc9
    (repeat' split)<;>first|decide|skip
    rename_i z
    exact absurd ⟨h4,q⟩ z)
   unfold zbl at hb;rw[hq]at hb;simp at hb
   exact hb.2) hb
  exact⟨H',sl',hr.trans h1,h2⟩
end Go.AM
namespace Go.AM
open List Go
def dig(d:Nat):UInt8:=UInt8.ofNat (if d<10 then 48+d else 87+d)
def dgt(b x:Nat):List UInt8:=if h:x<b∨b<2 then [dig x] else dgt b (x/b)++[dig (x%b)]
termination_by x
decreasing_by exact Nat.div_lt_self (by omega) (by omega)
theorem zm4{b x:Nat}(h:x<b):dgt b x=[dig x]:=by rw[dgt,dif_pos (.inl h)]
theorem zm5{b x:Nat}(hb:2≤b)(h:b≤x):dgt b x=dgt b (x/b)++[dig (x%b)]:=by rw[dgt,dif_neg (by omega)]
theorem zlQ{b:Nat}(hb:2≤b):∀(n x:Nat),x<b^n→0<n→(dgt b x).length≤n
 |0,x,h,h0=>by omega
 |n+1,x,h,_=>by
  by_cases hx:x<b
  ·rw[zm4 hx];simp
  ·rw[zm5 hb (by omega),length_append];have hn:0<n:=by
    rcases Nat.eq_zero_or_pos n with q|q
    ·subst q;simp at h;omega
    ·exact q
   have:x/b<b^n:=Nat.div_lt_of_lt_mul (by rw[Nat.pow_succ,Nat.mul_comm]at h;exact h);have:=zlQ hb n (x/b) this hn;simp;omega
abbrev ba(l:List UInt8):ByteArray:=⟨l.toArray⟩
theorem zcw(l:List UInt8):(ba l).size=l.length:=by simp[ba,ByteArray.size]
theorem ze3(l:List UInt8):(ba l).data.toList=l:=by simp[ba]
theorem zf0{s:ByteArray}{l:List UInt8}(h:s.data.toList=l):s=ba l:=by cases s;subst h;simp[ba]
theorem app_list(a b:ByteArray):(a++b).data.toList=a.data.toList++b.data.toList:=by simp
theorem ba_app(l m:List UInt8):ba l++ba m=ba (l++m):=zf0 (by rw[app_list,ze3,ze3])
theorem size_list(s:ByteArray):s.size=s.data.toList.length:=(Array.length_toList (xs:=s.data)).symm
section
variable {α:Type}{P:Program}
theorem s_cat(T:TypeId)(a b:ByteArray)(h:a.size+b.size≤2^60)(k:Value→Option α):pBin P .add T (.string a) (.string b) k=k (.string (a++b)):=by
 have h1:¬((a.size+b.size:Nat):Int)>IntKind.i64.max:=by have:IntKind.i64.max=9223372036854775807:=rfl;omega
 have:znq .add a b=some (.string (a++b)):=if_neg h1;unfold pBin binV;dsimp only;rw[this]
theorem zoO(T:TypeId)(a b:List UInt8)(h:a.length+b.length≤2^60)(k:Value→Option α):pBin P .add T (.string (ba a)) (.string (ba b)) k=k (.string (ba (a++b))):=by rw[s_cat T _ _ (by rw[zcw,zcw];exact h),ba_app]
theorem s_cut(s:ByteArray)(k1 k2:IntKind)(i j:Nat)(h:i≤j)(hj:j≤s.size)(k:Value→Option α):za5 (.string s) (some (.int k1 (i:Int))) (some (.int k2 (j:Int))) k=k (.string (s.extract i j)):=by
 have:zgx (.string s) (some (.int k1 (i:Int))) (some (.int k2 (j:Int)))=some (.string (s.extract i j)):=by unfold zgx;dsimp only[zcU];rw[if_pos ⟨by omega,by omega,by omega⟩];simp
 unfold za5;rw[this]
theorem f_at(s:ByteArray)(kd:IntKind)(i:Nat)(b:UInt8)(h:s.data.toList[i]?=some b)(k:Value→Option α):zaY (.string s) (.int kd (i:Int)) k=k (.int .u8 (b.toNat:Int)):=q_at s i b h k
end
def numT(x:Nat):List UInt8:=if x<1000 then dgt 10 x else [48,120]++dgt 16 x
theorem zpd{x:Nat}(h:x<18446744073709551616):(numT x).length≤18:=by
 unfold numT;split
 ·have:=zlQ (b:=10) (by decide) 3 x (by omega) (by decide);omega
 ·have:=zlQ (b:=16) (by decide) 16 x (by omega) (by decide);simp;omega
theorem run_at{P:Program}{O:Orc}{ext:FuncId→Option (List Value→Hp→Option (Value×Hp))}{g:FuncId}{fn:Func}{e:List Value→Option Value}(hf:P.funcs[g]?=some fn)(hn:(fn.name == "runtime.NumGoroutine")=false)(hb:fn.body.isNone=true)(hx:O.xt g=some e){xs:List Value}{v:Value}(hv:e xs=some v)(H:Hp) :
  run P O ext g xs H=some (v,H):=by
 have hb:fn.body=none:=by
  cases q:fn.body with
  |none=>rfl
  |some c=>rw[q]at hb;cases hb
 rw[run_eq];unfold zh5;rw[hf];dsimp only;rw[hn];dsimp only;rw[hb];dsimp only;rw[hx];dsimp only;rw[hv]
abbrev nlB:ByteArray:=⟨#[10]⟩
theorem zph{α:Type}(H:Hp)(k:Value→Option α):pLen .str (.string nlB) H k=k (.int .i64 1):=rfl
theorem nl_at{α:Type}(k:Value→Option α):zaY (.string nlB) (.int .i64 0) k=k (.int .u8 10):=f_at nlB .i64 0 10 rfl k
theorem zoN{α:Type}(T:TypeId)(a b:ByteArray)(k:Value→Option α):pBin PP .eql T (.string a) (.string b) k=k (.bool (a.data.toList==b.data.toList)):=by
 have:znq .eql a b=some (.bool (a.data.toList==b.data.toList)):=by unfold znq;simp only[Go.Lib.toList_data]
 unfold pBin binV;dsimp only;rw[this]
theorem c_cntS(s:ByteArray)(H:Hp):RR Bw [.string s,.string nlB] H=some (.int .i64 (Go.Lib.countByte s.data.toList 10:Nat),H):=by
 have h:RR AX [.string s,.int .u8 10] H=some (.int .i64 (Go.Lib.countByte s.data.toList 10:Nat),H):=
  run_at (e:=zkU) Go.Proofs.Tryz.func157 (by kernel_rfl) (by kernel_rfl) (by kernel_rfl) rfl H
 refine(ziM E0 rfl _ _ H).trans ?_;unfold zfq;simp only[zph,zaO,zac,s_br,nl_at,zae h,show (1:Int)≠0 by decide,decide_false,decide_true,if_false,if_true,Bool.false_eq_true]
theorem c_ixS(s:ByteArray)(H:Hp):RR A3 [.string s,.string nlB] H=some (.int .i64 (Go.Lib.indexByte s.data.toList 10),H):=by
 have h:RR AY [.string s,.int .u8 10] H=some (.int .i64 (Go.Lib.indexByte s.data.toList 10),H):=
  run_at (e:=zkL) Go.Proofs.Tryz.func184 (by kernel_rfl) (by kernel_rfl) (by kernel_rfl) rfl H
 have h2:RR Bq [.string s,.int .u8 10] H=some (.int .i64 (Go.Lib.indexByte s.data.toList 10),H):=by refine(zcR E0 rfl _ _ H).trans ?_;unfold zbG;rw[zae h]
 have h3:RR B2 [.string s,.string nlB] H=some (.int .i64 (Go.Lib.indexByte s.data.toList 10),H):=by
  refine(zdD E0 rfl _ _ H).trans ?_;unfold zcc;cases e:(nlB.data.toList==s.data.toList) with
  |true=>
   have e1:s.data.toList=[10]:=(eq_of_beq e).symm;simp only[zph,zaO,zac,s_br,nl_at,zoN,e,zap,zaN,zfg,show (1:Int)≠0 by decide,decide_false,decide_true,if_false,if_true,Bool.false_eq_true,qg0,headD_cons];rw[e1];rfl
  |false=>simp only[zph,zaO,zac,s_br,nl_at,zoN,zap,zaN,zfg,e,zae h2,show (1:Int)≠0 by decide,decide_false,decide_true,if_false,if_true,Bool.false_eq_true,qg0,headD_cons]
 refine(ziL E0 rfl _ _ H).trans ?_;unfold zfp;rw[zae h3]
def cutB(c:UInt8):List UInt8→List (List UInt8)
 |[]=>[[]]
 |b::r=>match b==c with
  |true=>[]::cutB c r
  |false=>match cutB c r with
   |h::t=>(b::h)::t
   |[]=>[[b]]
theorem cutB_hit{c b:UInt8}(h:(b==c)=true)(r:List UInt8):cutB c (b::r)=[]::cutB c r:=by
 conv=>lhs;unfold cutB
 rw[h]
theorem cutB_miss{c b:UInt8}(h:(b==c)=false){r x:List UInt8}{t:List (List UInt8)}(e:cutB c r=x::t):cutB c (b::r)=(b::x)::t:=by
 conv=>lhs;unfold cutB
 rw[h,e]
theorem zg0(c:UInt8):∀l,(cutB c l).length=l.count c+1
 |[]=>rfl
 |b::r=>by
  have ih:=zg0 c r;unfold cutB;rw[count_cons];cases h:b==c with
  |true=>dsimp only;rw[length_cons,ih];simp
  |false=>
   dsimp only;split
   ·rename_i h1 t e;rw[e]at ih;simpa using ih
   ·rename_i e;rw[e]at ih;cases ih
theorem zm9(c:UInt8):∀l,l.count c=0→cutB c l=[l]
 |[],_=>rfl
 |b::r,h=>by
  rw[count_cons]at h;have h1:(b==c)=false:=by
   cases q:b==c with
   |false=>rfl
   |true=>rw[q]at h;simp at h
  rw[h1]at h;unfold cutB;rw[h1];dsimp only;rw[zm9 c r (by simpa using h)]
theorem zm8(c:UInt8):∀l,l.count c≠0→∃m:Nat,Go.Lib.indexByte l c=m∧m<l.length∧cutB c l=l.take m::cutB c (l.drop (m+1))∧(l.drop (m+1)).count c+1=l.count c
 |[],h=>by simp at h
 |b::r,h=>by
  rw[count_cons]at h;cases q:b==c with
  |true=>
   refine⟨0,?_,by simp,?_,?_⟩
   ·unfold Go.Lib.indexByte;rw[q];rfl
   ·rw[cutB_hit q];rfl
   ·rw[count_cons,q];simp
  |false=>
   rw[q]at h;obtain⟨m,h1,h2,h3,h4⟩:=zm8 c r (by simpa using h);refine⟨m+1,?_,by simp;omega,?_,?_⟩
   ·unfold Go.Lib.indexByte;rw[q,h1];have:((m:Int)==-1)=false:=by rw[beq_eq_false_iff_ne];omega
    simp[this]
   ·rw[cutB_miss q h3];rfl
   ·rw[count_cons,q];simpa using h4
def str(l:List UInt8):Value:=.string (ba l)
theorem ba_take(l:List UInt8)(m:Nat):(ba l).extract 0 m=ba (l.take m):=zf0 (by simp[ByteArray.data_extract])
theorem ba_drop(l:List UInt8)(m:Nat):(ba l).extract m l.length=ba (l.drop m):=zf0 (by
 simp only[ByteArray.data_extract,Array.toList_extract,extract_eq_take_drop]
 exact take_of_length_le (by simp))
theorem s_upto{α:Type}(l:List UInt8)(kd:IntKind){m:Nat}(hm:m≤l.length)(k:Value→Option α):za5 (str l) none (some (.int kd (m:Int))) k=k (str (l.take m)):=by
 have:zgx (str l) none (some (.int kd (m:Int)))=some (.string ((ba l).extract 0 m)):=by unfold zgx str;dsimp only[zcU];rw[zcw,if_pos ⟨by omega,by omega,by omega⟩];simp
 unfold za5;rw[this,ba_take];rfl
theorem s_from{α:Type}(l:List UInt8)(kd:IntKind){m:Nat}(hm:m≤l.length)(k:Value→Option α):za5 (str l) (some (.int kd (m:Int))) none k=k (str (l.drop m)):=by
 have:zgx (str l) (some (.int kd (m:Int))) none=some (.string ((ba l).extract m l.length)):=by unfold zgx str;dsimp only[zcU];rw[zcw,if_pos ⟨by omega,by omega,by omega⟩];simp
 unfold za5;rw[this,ba_drop];rfl
theorem c_ixL(l:List UInt8)(H:Hp):RR A3 [str l,.string nlB] H=some (.int .i64 (Go.Lib.indexByte l 10),H):=by have:=c_ixS (ba l) H;rw[ze3]at this;exact this
theorem w64{a:Int}(h1:-9223372036854775808≤a)(h2:a≤9223372036854775807):IntKind.i64.wrap a=a:=zcF (k:=.i64) h1 h2
theorem zk7(A:List Value)(e x:Value){i n:Nat}(hi:A.length=i)(k:Nat):spl (A++repl (k+1) [e]) (i*1) [x]=A++[x]++repl k [e]:=by subst hi;have h:repl (k+1) [e]=e::repl k [e]:=rfl;unfold spl;rw[h,Nat.mul_one];simp
theorem zj7(v:Value)(n:Nat)(hn:n≤2^41):∀(c i:Nat) (done:List (List UInt8)) (rest:List UInt8) (H:Hp),rest.count 10=c→Vec H 1 v n (done.map str++repl (c+1) [str []])→done.length=i→i+c+1=n→rest.length≤2^40 →
  ∃H' front last,zat (zba RR (.string nlB) (.int .i64 0) v (.int .i64 ((n:Int)-1))) [str rest,.int .i64 (i:Int)] H=some (.exit 0,[str last,.int .i64 ((n:Int)-1)],H') ∧
   cutB 10 rest=front++[last]∧Vec H' 1 v n ((done++front).map str++repl 1 [str []])∧Frm (Id v) H H'
 |0,i,done,rest,H,hc,hv,hd,hi,hl=>by
  refine⟨H,[],rest,?_,by rw[zm9 _ _ hc];rfl,by rw[append_nil];exact hv,Frm.refl _ _⟩;have:zba RR (.string nlB) (.int .i64 0) v (.int .i64 ((n:Int)-1)) [str rest,.int .i64 (i:Int)] H=some (.exit 0,[str rest,.int .i64 (i:Int)],H):=by
   unfold zba;have h1:¬((i:Int)<(n:Int)-1):=by omega
   simp only[qg1,qg0,za3,zac,s_br,h1,decide_false,Bool.false_eq_true,if_false]
  rw[zak,this];have e:((n:Int)-1)=(i:Int):=by omega
  rw[e];rfl
 |c+1,i,done,rest,H,hc,hv,hd,hi,hl=>by
  obtain⟨m,h1,h2,h3,h4⟩:=zm8 10 rest (by omega);obtain⟨y,hy,_,hix⟩:=hv.ix (i:=i) (by omega);have hsz:=hv.size;obtain⟨H1,hst,hv1,hf1,hnx⟩:=hv.set hy (o:=i*1) (m:=1) (x:=str (rest.take m)) rfl (by rw[hsz];omega) rfl;have hspl:=zk7 (done.map str) (str []) (str (rest.take m)) (i:=i) (n:=n) (by simpa using hd) (c+1);have hcl:zab (str (rest.take m))=[str (rest.take m)]:=rfl;rw[hcl,hspl]at hv1;have hv2:Vec H1 1 v n ((done++[rest.take m]).map str++repl (c+1) [str []]):=by simpa using hv1
  obtain⟨H',front,last,g1,g2,g3,g4⟩:=zj7 v n hn c (i+1) (done++[rest.take m]) (rest.drop (m+1)) H1 (by omega) hv2 (by simp[hd]) (by omega) (by simp;omega);refine⟨H',rest.take m::front,last,?_,by rw[h3,g2];rfl,by simpa using g3,hf1.trans g4 (fun j hj=>.inl hj)⟩;have:zba RR (.string nlB) (.int .i64 0) v (.int .i64 ((n:Int)-1)) [str rest,.int .i64 (i:Int)] H=some (.next,[str (rest.drop (m+1)),.int .i64 ((i+1:Nat):Int)],H1):=by
   unfold zba;have q1:((i:Int)<(n:Int)-1):=by omega
   have q2:¬((m:Int)<0):=by omega
   simp only[qg1,qg0,za3,zac,s_br,q1,decide_true,if_true,zae (c_ixL rest H),h1,q2,decide_false,Bool.false_eq_true,if_false,zaM];rw[Int.add_zero,w64 (by omega) (by omega),s_upto rest _ (by omega),hix,hst,zph,zaM];have e1:(m:Int)+1=((m+1:Nat):Int):=by omega
   have e2:(i:Int)+1=((i+1:Nat):Int):=by omega
   rw[e1,e2,w64 (by omega) (by omega),w64 (by omega) (by omega),s_from rest _ (by omega)]
  rw[zak,this];exact g1
theorem c_split(l:List UInt8)(hl:l.length≤2^40)(H:Hp):∃v H',RR Bz [str l,.string nlB] H=some (v,H')∧Vec H' 1 v (cutB 10 l).length ((cutB 10 l).map str)∧Frm (fun _=>False) H H'∧∀j,Id v j→H.next≤j:=by
 have hlen:=zg0 10 l;have hcnt:l.count 10≤l.length:=count_le_length;generalize hnn:(cutB 10 l).length=n at *;obtain⟨v,hmk,hv,hid⟩:=Vec.make H (sz:=1) (bytes:=16) (zs:=[str []]) rfl (n:=n) (by omega);obtain⟨H1,front,last,g1,g2,g3,g4⟩:=zj7 v n (by omega) (l.count 10) 0 [] l (H.new (.cells (repl n [str []]) true)) rfl (by show Vec _ 1 v n (repl (l.count 10+1) [str []]);rw[←hlen];exact hv) rfl (by omega) hl;rw[show ((0:Nat):Int)=0 from rfl]at g1;have hfl:front.length+1=n:=by rw[←hnn,g2];simp
 obtain⟨y,hy,_,hix⟩:=g3.ix (i:=n-1) (by omega);have hsz:=g3.size;obtain⟨H2,hst,hv2,hf2,hnx⟩:=g3.set hy (o:=(n-1)*1) (m:=1) (x:=str last) rfl (by rw[hsz];omega) rfl;have hspl:=zk7 (([]++front).map str) (str []) (str last) (i:=n-1) (n:=n) (by simp;omega) 0;have hcl:zab (str last)=[str last]:=rfl;rw[hcl,hspl]at hv2;have hv3:Vec H2 1 v n ((cutB 10 l).map str):=by rw[g2];simpa[repl] using hv2
 obtain⟨v',hcut,hv4,hid4⟩:=hv3.cut (by rw[all_map];exact all_eq_true.2 fun x _=>rfl) (m:=n) (Nat.le_refl _);have hv5:Vec H2 1 v' n ((cutB 10 l).map str):=by have e:((cutB 10 l).map str).take (n*1)=(cutB 10 l).map str:=take_of_length_le (by rw[length_map,hnn];omega);rw[e]at hv4;exact hv4
 have hgen:RR BA [str l,.string nlB,.int .i64 0,.int .i64 (-1)] H=some (v',H2):=by
  refine(zgG E0 rfl _ _ _ _ H).trans ?_;rw[zgW];have hc:RR Bw [str l,.string nlB] H=some (.int .i64 (l.count 10:Nat),H):=by have:=c_cntS (ba l) H;rw[ze3]at this;exact this
  have q1:¬((-1:Int)=0):=by decide
  have q2:(nlB.data.toList==(⟨#[]⟩:ByteArray).data.toList)=false:=by decide
  have q3:((-1:Int)<0):=by decide
  have e1:((l.count 10:Nat):Int)+1=(n:Int):=by omega
  have e2:∀{α:Type} (k:Value→Option α),pLen .str (str l) H k=k (.int .i64 (l.length:Int)):=fun k=>by show k (.int .i64 ((ba l).size:Int))=_;rw[zcw]
  have e3:∀(a b:Int) (k:Value→Option (Value×Hp)),pMM false [.int .i64 a,.int .i64 b] k=k (.int .i64 (if b<a then b else a)):=fun a b k=>rfl;have hmk':∀(α:Type) (k:Value→Hp→Option α),zaZ 1 16 [Value.string ⟨#[]⟩] (.int .i64 (n:Int)) (.int .i64 (n:Int)) H k=k v (H.new (.cells (repl n [str []]) true)):=hmk;have q4:¬(((l.length:Int)+1)<(n:Int)):=by omega
  simp only[zaO,zac,s_br,q1,zoN,q2,za3,q3,decide_true,decide_false,if_true,if_false,Bool.false_eq_true,zae hc,zaM,e1,zap,zaN];rw[w64 (by omega) (by omega)];simp only[qg0];rw[e2,zaM,w64 (by omega) (by omega),e3,if_neg q4,hmk',zc0,w64 (by omega) (by omega),g1,zap,za6,zay];simp only[qg1,qg0];have e5:(n:Int)-1=((n-1:Nat):Int):=by omega
  rw[e5,hix,hst,zaM];have e6:((n-1:Nat):Int)+1=(n:Int):=by omega
  rw[e6,w64 (by omega) (by omega),hcut]
 refine⟨v',H2,?_,hv5,?_,fun j hj=>?_⟩
 ·refine(ziK E0 rfl _ _ H).trans ?_;unfold zfo;rw[zae hgen]
 ·refine(zcW H _ (fun _=>False)).trans (g4.trans hf2 fun j hj=>.inl hj) fun j hj=>.inr ?_;rw[hid j hj];exact Nat.le_refl _
 ·rw[hid j (hid4 j hj)];exact Nat.le_refl _
theorem zm7(n b0 b1 b2 b3:Nat)(hn:0<n):(b0<128∧Go.Lib.decodeN n b0 b1 b2 b3=(b0,1))∨(128≤b0∧Go.Lib.decodeN n b0 b1 b2 b3=(65533,1)) ∨
  (128≤b0∧1<n∧128≤b1∧(Go.Lib.decodeN n b0 b1 b2 b3).2=2∧128≤(Go.Lib.decodeN n b0 b1 b2 b3).1) ∨
  (128≤b0∧2<n∧128≤b1∧128≤b2∧(Go.Lib.decodeN n b0 b1 b2 b3).2=3∧128≤(Go.Lib.decodeN n b0 b1 b2 b3).1) ∨
  (128≤b0∧3<n∧128≤b1∧128≤b2∧128≤b3∧(Go.Lib.decodeN n b0 b1 b2 b3).2=4∧128≤(Go.Lib.decodeN n b0 b1 b2 b3).1):=by
 unfold Go.Lib.decodeN
 repeat' split
 all_goals first
  |(left;exact⟨by assumption,rfl⟩)
  |(right;left;exact⟨by omega,rfl⟩)
  |(right;right;left;exact⟨by omega,by omega,by omega,rfl,by dsimp only;omega⟩)
  |(right;right;right;left;exact⟨by omega,by omega,by omega,by omega,rfl,by dsimp only;omega⟩)
  |(right;right;right;right;exact⟨by omega,by omega,by omega,by omega,by omega,rfl,by dsimp only;omega⟩)
theorem ba_get (l : List UInt8) (j : Nat) : (ba l).get! j = l.getD j 0 := by
  show (ba l).data[j]! = _
  rw [getD_eq_getElem?_getD]
  by_cases h : j < l.length
  · simp [getElem!_pos, h]
  · rw [getElem!_neg _ _ (by simpa using h), List.getElem?_eq_none (by omega)]
    rfl
theorem dec_sp(l:List UInt8)(i:Nat)(hi:i<l.length):1≤(Utf8.decode (ba l) i).2∧i+(Utf8.decode (ba l) i).2≤l.length ∧
  (((Utf8.decode (ba l) i).1=32∧(Utf8.decode (ba l) i).2=1∧l.getD i 0=32)∨((Utf8.decode (ba l) i).1≠32∧∀j,i≤j→j<i+(Utf8.decode (ba l) i).2→l.getD j 0≠32)):=by
 have no:∀j,128≤(l.getD j 0).toNat→l.getD j 0≠32:=fun j h e=>by rw[e]at h;exact absurd h (by decide)
 rw[Go.Lib.decode_at,zcw];simp only[ba_get];have hs:=zm7 (l.length-i) (l.getD i 0).toNat (l.getD (i+1) 0).toNat (l.getD (i+2) 0).toNat (l.getD (i+3) 0).toNat (by omega);generalize Go.Lib.decodeN (l.length-i) (l.getD i 0).toNat (l.getD (i+1) 0).toNat (l.getD (i+2) 0).toNat (l.getD (i+3) 0).toNat=q at hs ⊢;obtain⟨r,w⟩:=q;rcases hs with⟨h1,h2⟩|⟨h1,h2⟩|⟨h1,h2,h3,h4,h5⟩|⟨h1,h2,h3,h3',h4,h5⟩|⟨h1,h2,h3,h3',h3'',h4,h5⟩
 ·cases h2;refine⟨Nat.le_refl _,by show i+1≤_;omega,?_⟩;by_cases e:l.getD i 0=32
  ·left;rw[e];exact⟨rfl,rfl,rfl⟩
  ·right;refine⟨fun q=>e (UInt8.toNat_inj.1 q),fun j h3 h4=>?_⟩;have:j=i:=by have h4:j<i+1:=h4;omega
   rw[this];exact e
 ·cases h2;refine⟨Nat.le_refl _,by show i+1≤_;omega,.inr ⟨by decide,fun j h3 h4=>?_⟩⟩;have:j=i:=by have h4:j<i+1:=h4;omega
  rw[this];exact no i h1
 ·dsimp only at h4 h5 ⊢;subst h4;refine⟨by omega,by omega,.inr ⟨by omega,fun j h6 h7=>?_⟩⟩;have:j=i∨j=i+1:=by omega
  rcases this with rfl|rfl
  ·exact no _ h1
  ·exact no _ h3
 ·dsimp only at h4 h5 ⊢;subst h4;refine⟨by omega,by omega,.inr ⟨by omega,fun j h6 h7=>?_⟩⟩;have:j=i∨j=i+1∨j=i+2:=by omega
  rcases this with rfl|rfl|rfl
  ·exact no _ h1
  ·exact no _ h3
  ·exact no _ h3'
 ·dsimp only at h4 h5 ⊢;subst h4;refine⟨by omega,by omega,.inr ⟨by omega,fun j h6 h7=>?_⟩⟩;have:j=i∨j=i+1∨j=i+2∨j=i+3:=by omega
  rcases this with rfl|rfl|rfl|rfl
  ·exact no _ h1
  ·exact no _ h3
  ·exact no _ h3'
  ·exact no _ h3''
theorem c_space(r:Int)(H:Hp):RR AF [.int .i32 r] H=some (.bool (decide (r=32)),H):=by refine(zli E0 rfl _ H).trans ?_;unfold zgN;rw[zaO]
def spn:List UInt8→Nat→Option Nat→List (Nat×Nat)
 |[],_,none=>[]
 |[],i,some a=>[(a,i)]
 |b::r,i,st=>match b==32,st with
  |true,none=>spn r (i+1) none
  |true,some a=>(a,i)::spn r (i+1) none
  |false,st=>spn r (i+1) (some (st.getD i))
theorem zoG:∀(x r:List UInt8) (i:Nat) (st:Option Nat),(∀b∈x,b≠32)→x≠[]→spn (x++r) i st=spn r (i+x.length) (some (st.getD i))
 |[],_,_,_,_,h=>absurd rfl h
 |b::x,r,i,st,h,_=>by
  have hb:(b==32)=false:=by rw[beq_eq_false_iff_ne];exact h b (mem_cons_self ..)
  show spn (b::(x++r)) i st=_;have e:spn (b::(x++r)) i st=spn (x++r) (i+1) (some (st.getD i)):=by
   conv=>lhs;unfold spn
   rw[hb]
  rw[e];cases x with
  |nil=>rfl
  |cons c x=>
   rw[zoG (c::x) r (i+1) _ (fun b hb=>h b (mem_cons_of_mem _ hb)) (by simp)];simp only[length_cons,Option.getD_some];congr 1;omega
theorem zk6{b:UInt8}(hb:(b==32)=true)(r:List UInt8)(i:Nat):spn (b::r) i none=spn r (i+1) none:=by
 conv=>lhs;unfold spn
 rw[hb]
theorem znr{b:UInt8}(hb:(b==32)=true)(r:List UInt8)(i a:Nat):spn (b::r) i (some a)=(a,i)::spn r (i+1) none:=by
 conv=>lhs;unfold spn
 rw[hb]
def stV:Option Nat→Int→Prop
 |none,v=>v<0
 |some a,v=>v=a
def ziu(p:Nat×Nat):List Value:=[.int .i64 (p.1:Int),.int .i64 (p.2:Int)]
def zds(l:List UInt8)(i:Nat):Value:=.tuple #[.string (ba l),.int .i64 (i:Nat)]
theorem neg_xor(a:Nat)(ha:a<2^62):∃x:Int,x<0∧∀(α:Type) (k:Value→Option α),pUn .xor (.int .i64 (a:Int)) k=k (.int .i64 x):=by
 refine⟨IntKind.i64.wrap (BitVec.ofInt 64 (-1) ^^^ BitVec.ofInt 64 (a:Int)).toNat,?_,fun α k=>rfl⟩;have e1:BitVec.ofInt 64 (-1)=BitVec.allOnes 64:=by decide
 have e2:(BitVec.ofInt 64 (a:Int)).toNat=a:=by rw[BitVec.toNat_ofInt];omega
 have e3:(BitVec.ofInt 64 (-1) ^^^ BitVec.ofInt 64 (a:Int)).toNat=2^64-1-a:=by rw[e1,BitVec.allOnes_xor,BitVec.toNat_not,e2]
 rw[e3];have hc:((2^64-1-a:Nat):Int)=18446744073709551615-(a:Int):=by omega
 rw[hc];have:(IntKind.i64.wrap (18446744073709551615-(a:Int)))=-1-(a:Int):=by clear e3;simp[IntKind.wrap,IntKind.signed,IntKind.bits];omega
 rw[this];omega
theorem s_bspan{α:Type}(a b:Int)(k:Value→Option α):zaB PP Ba [(0,.int .i64 a),(1,.int .i64 b)] k=k (.agg #[.int .i64 a,.int .i64 b]):=by
 have:zg5 PP Ba [(0,.int .i64 a),(1,.int .i64 b)]=some (.agg #[.int .i64 a,.int .i64 b]):=by kernel_rfl
 unfold zaB;rw[this]
abbrev spF:Value:=.func (.func AF) #[] #[]
theorem zh9{α:Type}(r:Int)(H:Hp)(k:Value→Hp→Option α):zdI orc RR spF [.int .i32 r] H k=k (.bool (decide (r=32))) H:=by
 have h:orc.pan AF=false:=by kernel_rfl
 have e:zdI orc RR spF [.int .i32 r] H k=zad RR AF [.int .i32 r] H k:=by unfold zdI;dsimp only;rw[h];rfl
 rw[e,zae (c_space r H)]
theorem span_loop(l:List UInt8)(hl:l.length≤2^40):∀(m i:Nat) (done:List (Nat×Nat)) (st:Option Nat) (z:Int) (v:Value) (H:Hp),l.length-i=m→i≤l.length→stV st z→(∀a,st=some a→a≤i)→done.length≤i→Vec H 2 v done.length (done.flatMap ziu) →
  ∃H' done' st' z' v',zat (zaK RR spF) [v,.int .i64 z,zds l i] H=some (.exit 0,[v',.int .i64 z',zds l l.length],H') ∧
   done++spn (l.drop i) i st=done'++spn [] l.length st'∧stV st' z'∧(∀a,st'=some a→a≤l.length)∧done'.length≤l.length∧Vec H' 2 v' done'.length (done'.flatMap ziu)∧Frm (Id v) H H'∧(∀j,Id v' j→Id v j∨H.next≤j):=by
 intro m;induction m using Nat.strongRecOn with
 |_ m ih=>
 intro i done st z v H hm hi hst hsti hdl hv;have step:zaK RR spF [v,.int .i64 z,zds l i] H=br (Nat.blt i (ba l).size)
   (zdI orc RR spF [.int .i32 ((Utf8.decode (ba l) i).1:Nat)] H fun r6 H7=>zaa r6 fun b8=>br b8
    (pBin PP .geq Aa (.int .i64 z) (.int .i64 0) fun v9=>zaa v9 fun b10=>br b10
     (zaB PP Ba [(0,.int .i64 z),(1,.int .i64 (i:Nat))] fun v11=>zam 2 [.int .i64 0,.int .i64 0] 1 [(0,v11)] H7 fun v12 H13=>zaJ 2 16 v v12 H13 fun v14 H15=>pUn .xor (.int .i64 z) fun v16=>
      some (.next,[v14,v16,zds l (i+(Utf8.decode (ba l) i).2)],H15))
     (some (.next,[v,.int .i64 z,zds l (i+(Utf8.decode (ba l) i).2)],H7)))
    (pBin PP .lss Aa (.int .i64 z) (.int .i64 0) fun v17=>zaa v17 fun b18=>br b18
     (some (.next,[v,.int .i64 (i:Nat),zds l (i+(Utf8.decode (ba l) i).2)],H7))
     (some (.next,[v,.int .i64 z,zds l (i+(Utf8.decode (ba l) i).2)],H7))))
   (some (.exit 0,[v,.int .i64 z,zds l i],H)):=rfl
 rcases Nat.lt_or_ge i l.length with hlt|hge
 ·have hb:Nat.blt i (ba l).size=true:=by rw[zcw,Nat.blt_eq];exact hlt
  obtain⟨d1,d2,d3⟩:=dec_sp l i hlt;have hdrop:l.drop i=l.getD i 0::l.drop (i+1):=by rw[drop_eq_getElem_cons hlt];simp[getD_eq_getElem?_getD,hlt]
  rw[hb]at step;have hd:decide ((((32:Nat):Int))=32)=true:=by decide
  rcases d3 with⟨e1,e2,e3⟩|⟨e1,e2⟩
  ·have h32:(l.getD i 0==32)=true:=by rw[e3];rfl
   rw[e1,e2]at step;cases st with
   |none=>
    have hz:¬(z≥0):=by have:z<0:=hst;omega
    have this:zaK RR spF [v,.int .i64 z,zds l i] H=some (.next,[v,.int .i64 z,zds l (i+1)],H):=by rw[step];simp only[s_br,if_true,zh9,hd,zac,zcQ,hz,decide_false,Bool.false_eq_true,if_false]
    obtain⟨H',done',st',z',v',g1,g2,g3⟩:=ih (l.length-(i+1)) (by omega) (i+1) done none z v H rfl (by omega) hst (fun a ha=>by cases ha) (by omega) hv;refine⟨H',done',st',z',v',?_,?_,g3⟩
    ·rw[zak,this];exact g1
    ·rw[hdrop,zk6 h32];exact g2
   |some a=>
    have hza:z=(a:Int):=hst;have hai:=hsti a rfl;obtain⟨x,hx0,hx⟩:=neg_xor a (by omega);obtain⟨v2,H2,hpu,hv2,hf2,hid2,_⟩:=hv.push (bytes:=16) (zs:=[.int .i64 0,.int .i64 0]) (x:=.agg #[.int .i64 (a:Int),.int .i64 (i:Int)]) (by omega) (by omega) rfl rfl rfl (by omega);have hv3:Vec H2 2 v2 (done++[(a,i)]).length ((done++[(a,i)]).flatMap ziu):=by rw[length_append,flatMap_append];exact hv2
    have hz:z≥0:=by omega
    have this:zaK RR spF [v,.int .i64 z,zds l i] H=some (.next,[v2,.int .i64 x,zds l (i+1)],H2):=by rw[step];simp only[s_br,if_true,zh9,hd,zac,zcQ,hz,decide_true,s_bspan];rw[hza,hpu,hx]
    obtain⟨H',done',st',z',v',g1,g2,g3,g4,g5,g6,g7,g8⟩:=ih (l.length-(i+1)) (by omega) (i+1) (done++[(a,i)]) none x v2 H2 rfl (by omega) hx0 (fun a ha=>by cases ha) (by simp;omega) hv3;refine⟨H',done',st',z',v',?_,?_,g3,g4,g5,g6,hf2.trans g7 hid2,fun j hj=>?_⟩
    ·rw[zak,this];exact g1
    ·rw[hdrop,znr h32];rw[←g2];simp
    ·rcases g8 j hj with q|q
     ·exact hid2 j q
     ·exact .inr (Nat.le_trans hf2.next q)
  ·generalize hq:Utf8.decode (ba l) i=q at step d1 d2 e1 e2;obtain⟨r,w⟩:=q;dsimp only at step d1 d2 e1 e2;have hr:¬((r:Int)=32):=by omega
   have hsk:∀st,spn (l.drop i) i st=spn (l.drop (i+w)) (i+w) (some (st.getD i)):=fun st=>by
    have hsp:l.drop i=(l.drop i).take w++l.drop (i+w):=by rw[←drop_drop];exact(take_append_drop w _).symm
    have hlen:((l.drop i).take w).length=w:=by rw[length_take,length_drop];omega
    have:=zoG ((l.drop i).take w) (l.drop (i+w)) i st (fun b hb=>by
     obtain⟨j,hj,hjb⟩:=mem_iff_getElem.1 hb;rw[hlen]at hj;have h1:=e2 (i+j) (by omega) (by omega);rw[getElem_take,getElem_drop]at hjb;rw[getD_eq_getElem?_getD,List.getElem?_eq_getElem (by omega),Option.getD_some,hjb]at h1
     exact h1) (fun h=>by rw[h]at hlen;simp at hlen;omega)
    rw[←hsp,hlen]at this;exact this
   have go:∀(z2:Int) (st2:Option Nat),st2=some (st.getD i)→z2=((st.getD i:Nat):Int)→st.getD i≤i→zaK RR spF [v,.int .i64 z,zds l i] H=some (.next,[v,.int .i64 z2,zds l (i+w)],H) →
     ∃H' done' st' z' v',zat (zaK RR spF) [v,.int .i64 z,zds l i] H=some (.exit 0,[v',.int .i64 z',zds l l.length],H') ∧
      done++spn (l.drop i) i st=done'++spn [] l.length st'∧stV st' z'∧(∀a,st'=some a→a≤l.length)∧done'.length≤l.length∧Vec H' 2 v' done'.length (done'.flatMap ziu)∧Frm (Id v) H H'∧(∀j,Id v' j→Id v j∨H.next≤j):=by
    intro z2 st2 hs2 hz2 hle this;obtain⟨H',done',st',z',v',g1,g2,g3⟩:=ih (l.length-(i+w)) (by omega) (i+w) done st2 z2 v H rfl (by omega) (by rw[hs2];exact hz2) (fun a ha=>by rw[hs2]at ha;cases ha;omega) (by omega) hv;refine⟨H',done',st',z',v',?_,?_,g3⟩
    ·rw[zak,this];exact g1
    ·rw[hsk,←hs2];exact g2
   cases st with
   |none=>
    have hz:z<0:=hst;refine go (i:Nat) _ rfl rfl (Nat.le_refl _) ?_;rw[step];simp only[s_br,if_true,zh9,zac,hr,decide_false,Bool.false_eq_true,if_false,za3,hz,decide_true]
   |some a=>
    have hza:z=(a:Int):=hst;have hz:¬z<0:=by omega
    refine go z _ rfl hza (hsti a rfl) ?_;rw[step];simp only[s_br,if_true,zh9,zac,hr,decide_false,Bool.false_eq_true,if_false,za3,hz]
 ·have hie:i=l.length:=by omega
  subst hie;have hb:Nat.blt l.length (ba l).size=false:=by
   rw[zcw];cases h:Nat.blt l.length l.length with
   |false=>rfl
   |true=>rw[Nat.blt_eq]at h;exact absurd h (Nat.lt_irrefl _)
  rw[hb]at step;refine⟨H,done,st,z,v,?_,?_,hst,hsti,hdl,hv,Frm.refl _ _,fun j hj=>.inl hj⟩
  ·rw[zak,step];rfl
  ·rw[drop_length]
theorem zoH:∀(l:List UInt8) (i:Nat) (st:Option Nat),(∀a,st=some a→a≤i)→∀p∈spn l i st,p.1≤p.2∧p.2≤i+l.length
 |[],i,none,h,p,hp=>by cases hp
 |[],i,some a,h,p,hp=>by
  have hp:p∈[(a,i)]:=hp;rw[mem_singleton]at hp;subst hp;exact⟨h a rfl,by simp⟩
 |b::r,i,st,h,p,hp=>by
  cases hb:b==32 with
  |true=>
   cases st with
   |none=>
    rw[zk6 hb]at hp;have:=zoH r (i+1) none (fun a ha=>by cases ha) p hp;simp only[length_cons];omega
   |some a=>
    rw[znr hb]at hp;rcases mem_cons.1 hp with rfl|hp
    ·exact⟨h a rfl,by simp only[length_cons];omega⟩
    ·have:=zoH r (i+1) none (fun a ha=>by cases ha) p hp;simp only[length_cons];omega
  |false=>
   have e:spn (b::r) i st=spn r (i+1) (some (st.getD i)):=by
    conv=>lhs;unfold spn
    rw[hb]
   rw[e]at hp
   have:=zoH r (i+1) (some (st.getD i)) (fun a ha=>by
    cases ha;cases st with
    |none=>simp
    |some a=>have:=h a rfl;simp;omega) p hp
   simp only[length_cons];omega
def zdP(l:List UInt8)(p:Nat×Nat):List UInt8:=(l.take p.2).drop p.1
theorem s_cutL{α:Type}(l:List UInt8){a e:Nat}(h:a≤e)(he:e≤l.length)(k:Value→Option α):za5 (str l) (some (.int .i64 (a:Int))) (some (.int .i64 (e:Int))) k=k (str (zdP l (a,e))):=by
 have:=s_cut (ba l) .i64 .i64 a e h (by rw[zcw];exact he) k
 have hx:(ba l).extract a e=ba (zdP l (a,e)):=zf0 (by
  simp only[ByteArray.data_extract,Array.toList_extract,extract_eq_take_drop,zdP]
  rw[drop_take])
 rw[hx]at this;exact this
theorem span_at:∀(L:List (Nat×Nat)) (i:Nat) (p:Nat×Nat),L[i]?=some p→((L.flatMap ziu).drop (i*2)).take 2=ziu p
 |q::L,0,p,h=>by cases h;rfl
 |q::L,i+1,p,h=>by
  have e:(i+1)*2=i*2+2:=by omega
  rw[e];show List.take 2 (List.drop (i*2+2) (.int .i64 (q.1:Int) :: .int .i64 (q.2:Int)::L.flatMap ziu))=_;exact span_at L i p h
theorem zl0(l:List UInt8)(hl:l.length≤2^40)(L:List (Nat×Nat))(hL:∀p∈L,p.1≤p.2∧p.2≤l.length)(hn:L.length≤2^41)(sv v:Value)(hne:∀j,Id v j→¬Id sv j):∀(m i:Nat) (H:Hp),i+m=L.length→Vec H 2 sv L.length (L.flatMap ziu)→Vec H 1 v L.length (((L.take i).map (zdP l)).map str++repl m [str []]) →
  ∃H',zat (zaT RR (str l) v (.int .i64 (L.length:Int)) [sv]) [.int .i64 (i:Int)] H=some (.exit 2,[.int .i64 (L.length:Int)],H')∧Vec H' 1 v L.length ((L.map (zdP l)).map str)∧Frm (Id v) H H'
 |0,i,H,hi,hs,hv=>by
  have h1:¬((i:Int)<(L.length:Int)):=by omega
  have this:zaT RR (str l) v (.int .i64 (L.length:Int)) [sv] [.int .i64 (i:Int)] H=some (.exit 2,[.int .i64 (i:Int)],H):=by unfold zaT;simp only[qg0,za3,zac,s_br,h1,decide_false,Bool.false_eq_true,if_false]
  have hil:i=L.length:=by omega
  refine⟨H,?_,?_,Frm.refl _ _⟩
  ·rw[zak,this,hil];rfl
  ·rw[hil,take_length]at hv;simpa[repl] using hv
 |m+1,i,H,hi,hs,hv=>by
  have hlt:i<L.length:=by omega
  have hp:L[i]?=some L[i]:=List.getElem?_eq_getElem hlt;generalize L[i]=p at hp;obtain⟨a,e⟩:=p;have hpl:=hL (a,e) (mem_of_getElem? hp);obtain⟨y,hy,⟨rest,hg⟩,hix⟩:=hs.ix (i:=i) hlt;obtain⟨y2,hy2,_,hix2⟩:=hv.ix (i:=i) hlt;have hsz:=hv.size;have hsz2:=hs.size;obtain⟨H1,hst,hv1,hf1,hnx⟩:=hv.set hy2 (o:=i*1) (m:=1) (x:=str (zdP l (a,e))) rfl (by rw[hsz];omega) rfl;have hspl:=zk7 (((L.take i).map (zdP l)).map str) (str []) (str (zdP l (a,e))) (i:=i) (n:=L.length) (by simp;omega) m;have hcl:zab (str (zdP l (a,e)))=[str (zdP l (a,e))]:=rfl;rw[hcl,hspl]at hv1;have htk:L.take (i+1)=L.take i++[(a,e)]:=by rw[take_add_one,hp];rfl
  have hv2:Vec H1 1 v L.length (((L.take (i+1)).map (zdP l)).map str++repl m [str []]):=by rw[htk];simpa using hv1
  have hs2:Vec H1 2 sv L.length (L.flatMap ziu):=hs.keep hf1 fun j hj hj2=>hne j hj2 hj;obtain⟨H',g1,g2,g3⟩:=zl0 l hl L hL hn sv v hne m (i+1) H1 (by omega) hs2 hv2;refine⟨H',?_,g2,hf1.trans g3 fun j hj=>.inl hj⟩;have q1:((i:Int)<(L.length:Int)):=by omega
  have hld:=fun (α:Type) (k:Value→Option α)=>ld_agg hg (o:=i*2) (m:=2) (by rw[hsz2];omega) k;rw[span_at L i (a,e) hp]at hld;have e2:(i:Int)+1=((i+1:Nat):Int):=by omega
  have this:zaT RR (str l) v (.int .i64 (L.length:Int)) [sv] [.int .i64 (i:Int)] H=some (.next,[.int .i64 ((i+1:Nat):Int)],H1):=by unfold zaT;simp only[qg0,za3,zac,s_br,q1,decide_true,if_true];rw[hix,hld];show (za5 (str l) (some (.int .i64 (a:Int))) (some (.int .i64 (e:Int))) fun v48=>_)=_;rw[s_cutL l hpl.1 hpl.2,hix2,hst,zaM,e2,w64 (by omega) (by omega)]
  rw[zak,this];exact g1
theorem Vec.capS(H:Hp){sz bytes:Nat}{zs:List Value}(hz:zs.length=sz)(h1:zs.all one=true){n:Nat}(hb:n*bytes≤2^47) :
  ∃v H',(∀(α:Type) (k:Value→Hp→Option α),zaZ sz bytes zs (.int .i64 0) (.int .i64 (n:Int)) H k=k v H')∧Vec H' sz v 0 []∧Frm (fun _=>False) H H'∧(∀j,Id v j→H.next≤j):=by
 have ra:∀n,(repl n zs).all one=true:=fun n=>by
  induction n with
  |zero=>rfl
  |succ n ih=>show (zs++repl n zs).all one=true;rw[all_append,h1,ih];rfl
 refine⟨.slice (some ⟨H.next,0,some sz⟩) 0 n,H.new (.cells (repl n zs) true),fun α k=>?_,.inr ⟨H.next,n,repl n zs,rfl,Nat.zero_le _,?_,by simp,by rw[zfD,hz];rfl,by show H.next<H.next+1;omega,ra n⟩,zcW _ _ _,fun j hj=>by cases hj;exact Nat.le_refl _⟩
 ·have e:((2:Int)^47)=((2^47:Nat):Int):=by rfl
  have hb':(n:Int)*(bytes:Int)≤2^47:=by rw[e,←Int.natCast_mul];exact Int.ofNat_le.2 hb
  have:zcn sz bytes zs (.int .i64 0) (.int .i64 (n:Int)) H=some (.slice (some ⟨H.next,0,some sz⟩) 0 n,H.new (.cells (repl n zs) true)):=by unfold zcn;dsimp only;rw[if_pos ⟨by omega,by omega,hb'⟩];rfl
  unfold zaZ;rw[this]
 ·rw[get_new,if_pos rfl,nil_append]
def zbO(l:List UInt8):List (List UInt8):=(spn l 0 none).map (zdP l)
theorem zhc:∀(l:List UInt8) (i:Nat) (st:Option Nat),(spn l i st).length≤l.length+1
 |[],i,none=>by simp[spn]
 |[],i,some a=>by simp[spn]
 |b::r,i,st=>by
  cases hb:b==32 with
  |true=>
   cases st with
   |none=>rw[zk6 hb];have:=zhc r (i+1) none;simp only[length_cons];omega
   |some a=>rw[znr hb];have:=zhc r (i+1) none;simp only[length_cons];omega
  |false=>
   have e:spn (b::r) i st=spn r (i+1) (some (st.getD i)):=by
    conv=>lhs;unfold spn
    rw[hb]
   rw[e];have:=zhc r (i+1) (some (st.getD i));simp only[length_cons];omega
theorem c_fields(l:List UInt8)(hl:l.length≤2^40)(H:Hp):∃v H',RR AK [str l,spF] H=some (v,H')∧Vec H' 1 v (zbO l).length ((zbO l).map str)∧Frm (fun _=>False) H H'∧∀j,Id v j→H.next≤j:=by
 obtain⟨v1,H1,hmk,hv1,hf1,hid1⟩:=Vec.capS H (sz:=2) (bytes:=16) (zs:=[.int .i64 0,.int .i64 0]) rfl rfl (n:=32) (by omega);obtain⟨H2,done,st,z,v2,g1,g2,g3,g4,g5,g6,g7,g8⟩:=span_loop l hl (l.length-0) 0 [] none (-1) v1 H1 rfl (Nat.zero_le _) (by show (-1:Int)<0;decide) (fun a ha=>by cases ha) (Nat.le_refl _) hv1;rw[nil_append,qd0]at g2;have hid2:∀j,Id v2 j→H.next≤j:=fun j hj=>by
  rcases g8 j hj with q|q
  ·exact hid1 j q
  ·exact Nat.le_trans hf1.next q
 have hf2:Frm (fun _=>False) H H2:=hf1.trans g7 fun j hj=>.inr (hid1 j hj)
 have last:∃H3 v3,(zau (pBin PP .geq Aa (.int .i64 z) (.int .i64 0) fun v23=>zaa v23 fun b24=>br b24
   (pLen .str (str l) H2 fun v25=>zaB PP Ba [(0,.int .i64 z),(1,v25)] fun v26=>zam 2 [.int .i64 0,.int .i64 0] 1 [(0,v26)] H2 fun v27 H28=>zaJ 2 16 v2 v27 H28 fun v29 H30=>some (.next,[v29],H30))
   (some (.next,[v2],H2))):(Ctl→List Value→Hp→Option (Value×Hp))→Option (Value×Hp))=(fun k=>k .next [v3] H3) ∧
   Vec H3 2 v3 (spn l 0 none).length ((spn l 0 none).flatMap ziu)∧Frm (fun _=>False) H H3∧∀j,Id v3 j→H.next≤j:=by
  cases st with
  |none=>
   have hz:¬z≥0:=by have:z<0:=g3;omega
   have e:spn l 0 none=done:=by rw[g2];show done++[]=done;rw[append_nil]
   refine⟨H2,v2,?_,by rw[e];exact g6,hf2,hid2⟩;funext k;simp only[zcQ,zac,s_br,hz,decide_false,Bool.false_eq_true,if_false,zap]
  |some a=>
   have hza:z=(a:Int):=g3;have hz:z≥0:=by omega
   have e:spn l 0 none=done++[(a,l.length)]:=g2;obtain⟨v3,H3,hpu,hv3,hf3,hid3,_⟩:=g6.push (bytes:=16) (zs:=[.int .i64 0,.int .i64 0]) (x:=.agg #[.int .i64 (a:Int),.int .i64 (l.length:Int)]) (by omega) (by omega) rfl rfl rfl (by omega);refine⟨H3,v3,?_,by rw[e,length_append,flatMap_append];exact hv3,hf2.trans hf3 fun j hj=>.inr (hid2 j hj),fun j hj=>?_⟩
   ·funext k;have e2:∀{α:Type} (k:Value→Option α),pLen .str (str l) H2 k=k (.int .i64 (l.length:Int)):=fun k=>by show k (.int .i64 ((ba l).size:Int))=_;rw[zcw]
    simp only[zcQ,zac,s_br,hz,decide_true,if_true,e2,s_bspan];rw[hza,hpu,zap]
   ·rcases hid3 j hj with q|q
    ·exact hid2 j q
    ·exact Nat.le_trans hf2.next q
 obtain⟨H3,v3,hlast,hv3,hf3,hid3⟩:=last;have hn:=zhc l 0 none;have hok:=zoH l 0 none (fun a ha=>by cases ha);generalize hL:spn l 0 none=L at *;obtain⟨v4,hmk4,hv4,hid4⟩:=Vec.make H3 (sz:=1) (bytes:=16) (zs:=[str []]) rfl (n:=L.length) (by omega);have hs4:Vec (H3.new (.cells (repl L.length [str []]) true)) 2 v3 L.length (L.flatMap ziu):=hv3.keep (zcW _ _ (fun _=>False)) fun _ _ h=>h;obtain⟨H5,w1,w2,w3⟩:=zl0 l hl L (fun p hp=>by have:=hok p hp;omega) (by omega) v3 v4 (fun j hj hj3=>by have:=hid4 j hj;have:=hv3.lt hj3;omega) L.length 0 _ (by omega) hs4 (by simpa using hv4);have hw:zbO l=L.map (zdP l):=by unfold zbO;rw[hL]
 refine⟨v4,H5,?_,by rw[hw,length_map];exact w2,?_,fun j hj=>?_⟩
 ·refine(zfJ E0 rfl _ _ H).trans ?_;rw[zfN];have hmk':∀(α:Type) (k:Value→Hp→Option α),zaZ 2 16 [.int .i64 0,.int .i64 0] (.int .i64 0) (.int .i64 32) H k=k v1 H1:=hmk;have hmk4':∀(α:Type) (k:Value→Hp→Option α),zaZ 1 16 [Value.string ⟨#[]⟩] (.int .i64 (L.length:Int)) (.int .i64 (L.length:Int)) H3 k=k v4 (H3.new (.cells (repl L.length [str []]) true)):=hmk4;rw[hmk'];show (zau (zat (zaK RR spF) [v1,.int .i64 (-1),zds l 0] H1) _)=_;rw[g1,zap,za6,zay];refine(congrFun hlast _).trans ?_;rw[zaN];simp only[qg0];rw[hv3.len,hmk4',hv3.len];have w1':zat (zaT RR (str l) v4 (.int .i64 (L.length:Int)) [v3]) [.int .i64 0] (H3.new (.cells (repl L.length [str []]) true))=some (.exit 2,[.int .i64 (L.length:Int)],H5):=w1;rw[w1',zap,za6,zay]
 ·refine hf3.trans ((zcW _ _ (fun _=>False)).trans w3 fun j hj=>.inr (by rw[hid4 j hj];exact Nat.le_refl _)) fun j hj=>.inl hj
 ·rw[hid4 j hj];exact hf3.next
def Wds(H:Hp)(v:Value)(ws:List (List UInt8)):Prop:=
 (ws=[]∧v=.slice none 0 0)∨∃y c pre rest own,v=.slice (some ⟨y,pre.length,some 1⟩) ws.length c∧ws.length≤c∧H.get y=some (.cells (pre++ws.map str++rest) own)∧y<H.next
theorem Vec.wds{H:Hp}{v:Value}{ws:List (List UInt8)}(h:Vec H 1 v ws.length (ws.map str)):Wds H v ws:=by
 rcases h with⟨h1,h2,h3⟩|⟨y,c,rest,h1,h2,h3,h4,h5,h6,h7⟩
 ·exact .inl ⟨length_eq_zero_iff.1 h1,h3⟩
 ·exact .inr ⟨y,c,[],rest,true,h1,h2,by simpa using h3,h6⟩
theorem Wds.len{H:Hp}{v:Value}{ws:List (List UInt8)}(h:Wds H v ws){α:Type}(H':Hp)(k:Value→Option α):pLen .sl v H' k=k (.int .i64 (ws.length:Int)):=by rcases h with⟨rfl,rfl⟩|⟨y,c,pre,rest,own,rfl,_⟩<;>rfl
theorem Wds.keep{M:Nat→Prop}{H H':Hp}{v:Value}{ws:List (List UInt8)}(h:Wds H v ws)(k:Frm M H H')(hm:∀j,Id v j→¬M j):Wds H' v ws:=by
 rcases h with h|⟨y,c,pre,rest,own,rfl,h1,h2,h3⟩
 ·exact .inl h
 ·exact .inr ⟨y,c,pre,rest,own,rfl,h1,by rw[k.same y h3 (hm y rfl)];exact h2,Nat.lt_of_lt_of_le h3 k.next⟩
theorem Wds.head{H:Hp}{v:Value}{w:List UInt8}{ws:List (List UInt8)}(h:Wds H v (w::ws)):∃v',(∀(α:Type) (k:Value→Option α),(pIdx 1 v (.int .i64 0) fun p=>zal 1 false H p k)=k (str w))∧(∀(α:Type) (k:Value→Option α),zdw 1 v (some (.int .i64 1)) none k=k v')∧Wds H v' ws∧(∀j,Id v' j→Id v j):=by
 rcases h with⟨h,_⟩|⟨y,c,pre,rest,own,rfl,h1,h2,h3⟩
 ·cases h
 ·rw[length_cons]at h1;refine⟨.slice (some ⟨y,pre.length+1,some 1⟩) ws.length (c-1),fun α k=>?_,fun α k=>?_,.inr ⟨y,c-1,pre++[str w],rest,own,by simp,by omega,by simpa using h2,h3⟩,fun j hj=>hj⟩
  ·have e:idxV 1 (.slice (some ⟨y,pre.length,some 1⟩) (w::ws).length c) (.int .i64 0)=some (.pointer (some ⟨y,pre.length,none⟩)):=by unfold idxV;dsimp only;rw[if_pos ⟨rfl,by omega,by rw[length_cons];omega⟩];rfl
   unfold pIdx;rw[e];dsimp only;refine zbe h2 pre.length (str w) ?_ k;simp
  ·have e:zhB 1 (.slice (some ⟨y,pre.length,some 1⟩) (w::ws).length c) (some (.int .i64 1)) none=some (.slice (some ⟨y,pre.length+1,some 1⟩) ws.length (c-1)):=by unfold zhB;dsimp only[zcU];rw[if_pos ⟨rfl,by omega,by rw[length_cons];omega,by rw[length_cons];omega⟩];simp
   unfold zdw;rw[e]
abbrev zcr(e:Int):Value:=.iface Ae (.agg #[.int .i64 e])
theorem zcm{α:Type}(e:Int)(k:Value→Option α):zaB PP Ae [(0,.int .i64 e)] k=k (.agg #[.int .i64 e]):=by
 have:zg5 PP Ae [(0,.int .i64 e)]=some (.agg #[.int .i64 e]):=by kernel_rfl
 unfold zaB;rw[this]
theorem next_none{H:Hp}{p:Nat}{sp wv tv:Value}(hp:H.get p=some (.cells [sp,wv,tv] true))(hw:Wds H wv []):RR Ap [.pointer (some ⟨p,0,none⟩)] H=some (W0 (zcr 3),H):=by refine(zea E0 rfl _ H).trans ?_;unfold zcK;have hl:=fun (α:Type) (k:Value→Option α)=>zbe hp (0+1) wv rfl k;simp only[zbg,zaI,hl,hw.len,zaO,zac,s_br,length_nil,Int.ofNat_zero,decide_true,if_true,zcm]
theorem next_some{H:Hp}{p:Nat}{sp wv tv:Value}(hp:H.get p=some (.cells [sp,wv,tv] true)){w:List UInt8}{ws:List (List UInt8)}(hw:Wds H wv (w::ws))(hne:¬Id wv p):∃H' wv',RR Ap [.pointer (some ⟨p,0,none⟩)] H=some (W1 (str w),H')∧H'.get p=some (.cells [sp,wv',tv] true)∧Wds H' wv' ws∧(∀j,Id wv' j→Id wv j)∧Frm (· = p) H H'∧H'.next=H.next:=by
 obtain⟨wv',h1,h2,h3,h4⟩:=hw.head;have hwr:H.wr (.pointer (some ⟨p,0+1,none⟩)) 1 wv'=some (H.set p (some (.cells [sp,wv',tv] true))):=by
  have hc:zab wv'=[wv']:=by rcases h3 with⟨_,rfl⟩|⟨y,c,pre,rest,own,rfl,_⟩<;>rfl
  have ho:one wv'=true:=by rcases h3 with⟨_,rfl⟩|⟨y,c,pre,rest,own,rfl,_⟩<;>rfl
  have hw2:za8 1 [sp,wv,tv] (0+1) wv'=some [sp,wv',tv]:=by unfold za8;rw[hc,if_pos ⟨rfl,by simp,by simp[ho]⟩];rfl
  show (match H.get p with|some (.cells cs true)=>(match za8 1 cs (0+1) wv' with|some cs'=>some (H.set p (some (.cells cs' true)))|none=>none)|_=>none)=_;rw[hp];dsimp only;rw[hw2]
 have hfr:Frm (· = p) H (H.set p (some (.cells [sp,wv',tv] true))):=zfY _ _ _ _ rfl;refine⟨_,wv',?_,by rw[get_set,if_pos rfl],h3.keep hfr fun j hj e=>hne (e▸h4 j hj),h4,hfr,rfl⟩;refine(zea E0 rfl _ H).trans ?_;unfold zcK;have hl:=fun (α:Type) (k:Value→Option α)=>zbe hp (0+1) wv rfl k;have hz:¬(((w::ws).length:Int)=0):=by rw[length_cons];omega
 simp only[zbg,zaI,hl,hw.len,zaO,zac,s_br,hz,decide_false,Bool.false_eq_true,if_false];rw[h1,h2];unfold zao;rw[hwr]
end Go.AM
namespace Go.AM
open Go
def hexV(n:Nat):Int:=if 48≤n∧n≤57 then (n:Int)-48 else if 97≤n∧n≤102 then (n:Int)-87 else if 65≤n∧n≤70 then (n:Int)-55 else -1
def digV(n base:Nat):Int:=if hexV n<0∨(base:Int)≤hexV n then -1 else hexV n
theorem hexV_lt(n:Nat):-1≤hexV n∧hexV n≤15:=by
 unfold hexV;split
 ·omega
 ·split
  ·omega
  ·split<;>omega
def numL(base:Nat):List UInt8→Nat→Option Nat
 |[],v=>some v
 |b::r,v=>if digV b.toNat base<0 then none else if v>(18446744073709551615-(digV b.toNat base).toNat)/base then none else numL base r (v*base+(digV b.toNat base).toNat)
def badN:Value:=.tuple #[.int .u64 0,.int .i64 10]
theorem digV_lt(n base:Nat):digV n base=-1∨(0≤digV n base∧digV n base<base∧digV n base≤15):=by
 have:=hexV_lt n;unfold digV;split
 ·exact .inl rfl
 ·right;omega
theorem u64{a:Int}(h0:0≤a)(h1:a≤18446744073709551615):IntKind.u64.wrap a=a:=zcF (k:=.u64) h0 h1
def numP(l:List UInt8):Option Nat:=
 if l[0]?=some 48∧l[1]?=some 120 then (if l.length=2 then none else numL 16 (l.drop 2) 0) else (if l.length=0 then none else numL 10 l 0)
def numV:Option Nat→Value
 |some x=>.tuple #[.int .u64 (x:Int),.int .i64 0]
 |none=>badN
def zcq(l:List UInt8):Int:=
 match numP l with
 |some x=>if x<2147483648 then (x:Int) else -1
 |none=>-1
end Go.AM
namespace Go.AM
open List Go
def lowB(n:Nat):Nat:=if n%64<32 then n+32 else n
theorem lowB_all:((List.range 256).all fun n=>match zd4 .or .u8 (n:Int) 32 with|some (.int .u8 m)=>m==(lowB n:Int)|_=>false)=true:=by kernel_rfl
theorem s_low(n:Nat)(hn:n<256){α:Type}(T:TypeId)(k:Value→Option α):pBin PP .or T (.int .u8 (n:Int)) (.int .u8 32) k=k (.int .u8 (lowB n:Int)):=by
 have h:=all_eq_true.1 lowB_all n (mem_range.2 hn);have e:zd4 .or .u8 (n:Int) 32=some (.int .u8 (lowB n:Int)):=by
  split at h
  ·rename_i m hm;rw[hm,eq_of_beq h]
  ·cases h
 have:binV PP .or T (.int .u8 (n:Int)) (.int .u8 32)=some (.int .u8 (lowB n:Int)):=e;unfold pBin;rw[this]
theorem c_lower(n:Nat)(hn:n<256)(H:Hp):RR Ar [.int .u8 (n:Int)] H=some (.int .u8 (lowB n:Int),H):=by refine(zeC E0 rfl _ H).trans ?_;unfold zcC;rw[s_low n hn]
def pd(n:Nat):Option Nat:=if 48≤n∧n≤57 then some (n-48) else if 97≤lowB n∧lowB n≤122 then some (lowB n-97+10) else none
def pdOk(n base:Nat):Bool:=match pd n with
 |none=>digV n base==-1
 |some d=>d<36&&(if d<base then digV n base==(d:Int) else digV n base==-1)
theorem pd_all:((List.range 256).all fun n=>pdOk n 10&&pdOk n 16)=true:=by kernel_rfl
theorem pd_none{n base:Nat}(hn:n<256)(hb:base=10∨base=16)(h:pd n=none):digV n base=-1:=by
 have:=all_eq_true.1 pd_all n (mem_range.2 hn);rw[Bool.and_eq_true]at this;have:pdOk n base=true:=by rcases hb with rfl|rfl;exact this.1;exact this.2
 unfold pdOk at this;rw[h]at this;exact eq_of_beq this
theorem pd_some{n base d:Nat}(hn:n<256)(hb:base=10∨base=16)(h:pd n=some d):d<36∧(d<base→digV n base=(d:Int))∧(base≤d→digV n base=-1):=by
 have:=all_eq_true.1 pd_all n (mem_range.2 hn);rw[Bool.and_eq_true]at this;have:pdOk n base=true:=by rcases hb with rfl|rfl;exact this.1;exact this.2
 unfold pdOk at this;rw[h]at this;dsimp only at this;rw[Bool.and_eq_true,decide_eq_true_eq]at this;refine⟨this.1,fun q=>?_,fun q=>?_⟩
 ·have h2:=this.2;rw[if_pos q]at h2;exact eq_of_beq h2
 ·have h2:=this.2;rw[if_neg (by omega)]at h2;exact eq_of_beq h2
def zg3(l:List UInt8):List Value:=l.map fun b=>Value.int .u8 (b.toNat:Int)
def errP(u c:Int):Value:=.tuple #[.int .u64 u,.iface Ai (.int .i64 c)]
theorem u8w{a:Int}(h0:0≤a)(h1:a≤255):IntKind.u8.wrap a=a:=zcF (k:=.u8) h0 h1
def maxU:Value:=.int .u64 18446744073709551615
theorem u64mod{a:Nat}(h:18446744073709551616≤a)(h2:a<2*18446744073709551616):IntKind.u64.wrap (a:Int)=((a-18446744073709551616:Nat):Int):=by simp[IntKind.wrap,IntKind.signed,IntKind.bits];omega
def ParQ(v base:Nat)(d:Int)(i:Nat)(H:Hp)(r:Outc):Prop:=
 ((d<0∨v>(18446744073709551615-d.toNat)/base)→∃u c,(c=1∨c=2)∧r=(.ret,[errP u c],H)) ∧
 (¬(d<0∨v>(18446744073709551615-d.toNat)/base)→r=(.next,[.bool false,.int .u64 ((v*base+d.toNat:Nat):Int),.int .i64 ((i+1:Nat):Int)],H))
theorem ParQ.bad{v base:Nat}{d:Int}{i:Nat}{H:Hp}(h:d<0∨v>(18446744073709551615-d.toNat)/base)(u c:Int)(hc:c=1∨c=2):ParQ v base d i H (.ret,[errP u c],H):=⟨fun _=>⟨u,c,hc,rfl⟩,fun q=>absurd h q⟩
theorem par_step(l:List UInt8)(hl:l.length≤2^40)(base:Nat)(hb:base=10∨base=16)(xs vb:Value)(H:Hp)(hv:Rdb H 1 vb l.length (zg3 l))(i v:Nat)(b:UInt8)(hget:l[i]?=some b)(hv2:v≤18446744073709551615) :
  ∃r,zaF RR (.bool false) maxU vb (.int .i64 (l.length:Int)) [xs,.int .i64 (base:Int)] [.int .u64 ((18446744073709551615/base+1:Nat):Int)] [.bool false,.int .u64 (v:Int),.int .i64 (i:Int)] H=some r ∧
   ParQ v base (digV b.toNat base) i H r:=by
 have hi:i<l.length:=(List.getElem?_eq_some_iff.1 hget).1;obtain⟨y,hy,⟨rest,own,hg⟩,hix⟩:=hv.ix hi;have hix':∀(α:Type) (k:Value→Option α),pIdx 1 vb (.int .i64 (i:Int)) k=k (.pointer (some ⟨y,i,none⟩)):=fun α k=>by have:=hix α .i64 k;rwa [Nat.mul_one]at this
 have hld:∀(α:Type) (k:Value→Option α),zal 1 false H (.pointer (some ⟨y,i,none⟩)) k=k (.int .u8 (b.toNat:Int)):=fun α k=>zbe hg i _ (by
  rw[List.getElem?_append_left (by simpa[zg3] using hi)]
  simp[zg3,hget]) k
 have hn:=UInt8.toNat_lt b;generalize b.toNat=n at hn hld ⊢;have h1:((i:Int)<(l.length:Int)):=by omega
 have hlow:=c_lower n hn H;have hbase8:∀(α:Type) (k:Value→Option α),zaj .u8 (.int .i64 (base:Int)) k=k (.int .u8 (base:Int)):=fun α k=>by show k (.int .u8 (IntKind.u8.wrap (base:Int)))=_;rw[u8w (by omega) (by omega)]
 have hbase64:∀(α:Type) (k:Value→Option α),zaj .u64 (.int .i64 (base:Int)) k=k (.int .u64 (base:Int)):=fun α k=>by show k (.int .u64 (IntKind.u64.wrap (base:Int)))=_;rw[u64 (by omega) (by omega)]
 have hinc:IntKind.i64.wrap ((i:Int)+1)=((i+1:Nat):Int):=w64 (by omega) (by omega);have tailD:∀d:Nat,pd n=some d→d<36→∃r:Outc,
   (zaj .u8 (.int .i64 (base:Int)) fun v131=>
    pBin PP .geq Ad (.int .u8 (d:Int)) v131 fun v132=>
    zaa v132 fun b133=>br b133
    (some (Ctl.ret,[(.tuple #[(.int .u64 0),(.iface Ai (.int .i64 2))])],H))
    (pBin PP .geq Ab (.int .u64 (v:Int)) (.int .u64 ((18446744073709551615/base+1:Nat):Int)) fun v134=>
    zaa v134 fun b135=>br b135
    (some (Ctl.ret,[(.tuple #[maxU,(.iface Ai (.int .i64 1))])],H))
    (zaj .u64 (.int .i64 (base:Int)) fun v136=>
    pBin PP .mul Ab (.int .u64 (v:Int)) v136 fun v137=>
    zaj .u64 (.int .u8 (d:Int)) fun v138=>
    pBin PP .add Ab v137 v138 fun v139=>
    pBin PP .lss Ab v139 v137 fun v140=>
    zaa v140 fun b141=>br b141
    (some (Ctl.ret,[(.tuple #[maxU,(.iface Ai (.int .i64 1))])],H))
    (pBin PP .gtr Ab v139 maxU fun v142=>
    zaa v142 fun b143=>br b143
    (some (Ctl.ret,[(.tuple #[maxU,(.iface Ai (.int .i64 1))])],H))
    (pBin PP .add Aa (.int .i64 (i:Int)) (.int .i64 1) fun v144=>
    some (Ctl.next,[.bool false,v139,v144],H))))))=some r ∧
   ParQ v base (digV n base) i H r:=by
  intro d hd hd36;obtain⟨_,hlt,hge⟩:=pd_some hn hb hd;rw[hbase8];by_cases hdb:base≤d
  ·have hq:digV n base<0:=by rw[hge hdb];decide
   have:((d:Int)≥(base:Int)):=by omega
   simp only[zcQ,zac,s_br,this,decide_true,if_true];exact⟨_,rfl,ParQ.bad (.inl hq) 0 2 (.inr rfl)⟩
  ·have hdv:=hlt (by omega);rw[hdv];have hdb':¬((d:Int)≥(base:Int)):=by omega
   have hd0:¬((d:Int)<0):=by omega
   have hcd:∀(α:Type) (k:Value→Option α),zaj .u64 (.int .u8 (d:Int)) k=k (.int .u64 (d:Int)):=fun α k=>by show k (.int .u64 (IntKind.u64.wrap (d:Int)))=_;rw[u64 (by omega) (by omega)]
   by_cases hc:v≥18446744073709551615/base+1
   ·have hq:v>(18446744073709551615-d)/base:=by have:(18446744073709551615-d)/base≤18446744073709551615/base:=Nat.div_le_div_right (by omega);omega
    have hc':((v:Int)≥((18446744073709551615/base+1:Nat):Int)):=by omega
    simp only[zcQ,zac,s_br,hdb',hc',decide_true,decide_false,Bool.false_eq_true,if_true,if_false];exact⟨_,rfl,ParQ.bad (.inr hq) _ 1 (.inl rfl)⟩
   ·have hc':¬((v:Int)≥((18446744073709551615/base+1:Nat):Int)):=by omega
    have hb0:0<base:=by omega
    have hm:v*base≤18446744073709551615:=by
     have:v≤18446744073709551615/base:=by omega
     exact(Nat.le_div_iff_mul_le hb0).1 this
    have hmul:IntKind.u64.wrap ((v:Int)*(base:Int))=((v*base:Nat):Int):=by rw[←Int.natCast_mul];exact u64 (by omega) (by omega)
    by_cases ho:v*base+d≤18446744073709551615
    ·have hq:¬(v>(18446744073709551615-d)/base):=by have:v≤(18446744073709551615-d)/base:=(Nat.le_div_iff_mul_le hb0).2 (by omega);omega
     have hadd:IntKind.u64.wrap (((v*base:Nat):Int)+(d:Int))=((v*base+d:Nat):Int):=by rw[←Int.natCast_add];exact u64 (by omega) (by omega)
     have e1:¬(((v*base+d:Nat):Int)<((v*base:Nat):Int)):=by omega
     have e2:¬(((v*base+d:Nat):Int)>18446744073709551615):=by omega
     simp only[zcQ,zac,s_br,hdb',hc',decide_true,decide_false,Bool.false_eq_true,if_true,if_false,hbase64,zpU,hmul,hcd,zaM,hadd,za3,e1,maxU,zci,e2,hinc];exact⟨_,rfl,fun q=>absurd q (by intro q;rcases q with q|q;exact hd0 q;exact hq q),fun _=>rfl⟩
    ·have hq:(v>(18446744073709551615-d)/base):=by
      rcases Nat.lt_or_ge ((18446744073709551615-d)/base) v with q|q
      ·exact q
      ·have:=(Nat.le_div_iff_mul_le hb0).1 q;omega
     have hadd:IntKind.u64.wrap (((v*base:Nat):Int)+(d:Int))=((v*base+d-18446744073709551616:Nat):Int):=by rw[←Int.natCast_add];exact u64mod (by omega) (by omega)
     have e1:(((v*base+d-18446744073709551616:Nat):Int)<((v*base:Nat):Int)):=by omega
     simp only[zcQ,zac,s_br,hdb',hc',decide_true,decide_false,Bool.false_eq_true,if_true,if_false,hbase64,zpU,hmul,hcd,zaM,hadd,za3,e1];exact⟨_,rfl,ParQ.bad (.inr hq) _ 1 (.inl rfl)⟩
 have bad:pd n=none→ParQ v base (digV n base) i H (Ctl.ret,[Value.tuple #[(.int .u64 0),(.iface Ai (.int .i64 2))]],H):=fun hp=>
  ParQ.bad (.inl (by rw[pd_none hn hb hp];decide)) 0 2 (.inr rfl)
 have hl256:lowB n<288:=by unfold lowB;split<;>omega
 unfold zaF;simp only[qg0,qg1,za3,zac,s_br,h1,decide_true,if_true,hix',hld];have e95:(zau (pBin PP .eql Ad (.int .u8 (n:Int)) (.int .u8 95) fun v91=>zaa v91 fun b92=>br b92 (some (.next,[Value.bool false],H)) (some (.next,[(.bool false)],H))):(Ctl→List Value→Hp→Option Outc)→Option Outc)=fun k=>k .next [.bool false] H:=by funext k;rw[zaO,zac,s_br];split<;>rfl
 have e95':=fun k=>congrFun e95 k;simp only[zac,s_br]at e95';rw[e95',zaN];simp only[qg0,zac,s_br,Bool.false_eq_true,if_false,zf5];by_cases q1:(48:Int)≤(n:Int)<;>by_cases q2:(n:Int)≤57
 ·have hp:pd n=some (n-48):=by unfold pd;rw[if_pos ⟨by omega,by omega⟩]
  have hs:IntKind.u8.wrap ((n:Int)-48)=((n-48:Nat):Int):=by rw[u8w (by omega) (by omega)];omega
  have hT:=tailD _ hp (by omega);simp only[zf5,zac,s_br,q1,q2,decide_true,if_true,zc0,hs,zaM,zap,zaN,qg0,qg1]at hT ⊢;exact hT
 all_goals
  have hno:¬(48≤n∧n≤57):=by omega
  by_cases q3:(97:Int)≤(lowB n:Int)<;>by_cases q4:(lowB n:Int)≤122
  ·have hp:pd n=some (lowB n-97+10):=by unfold pd;rw[if_neg hno,if_pos ⟨by omega,by omega⟩]
   have hs:IntKind.u8.wrap ((lowB n:Int)-97)=((lowB n-97:Nat):Int):=by rw[u8w (by omega) (by omega)];omega
   have ha:IntKind.u8.wrap (((lowB n-97:Nat):Int)+10)=((lowB n-97+10:Nat):Int):=by rw[u8w (by omega) (by omega)];omega
   have hT:=tailD _ hp (by omega);simp only[zf5,zac,s_br,q1,q2,q3,q4,decide_true,decide_false,Bool.false_eq_true,if_true,if_false,zae hlow,zc0,hs,zaM,ha,zap,zaN,qg0,qg1]at hT ⊢;exact hT
  all_goals
   have hp:pd n=none:=by unfold pd;rw[if_neg hno,if_neg (by omega)]
   simp only[zf5,zac,s_br,q1,q2,q3,q4,decide_true,decide_false,Bool.false_eq_true,if_true,if_false,zae hlow,zap,zfg,headD_cons];exact⟨_,rfl,bad hp⟩
theorem zo5(l:List UInt8)(hl:l.length≤2^40)(base:Nat)(hb:base=10∨base=16)(xs vb:Value)(H:Hp)(hv:Rdb H 1 vb l.length (zg3 l)):∀(rest:List UInt8) (i v:Nat),l.drop i=rest→i≤l.length→v≤18446744073709551615 →
  ∃r,zat (zaF RR (.bool false) maxU vb (.int .i64 (l.length:Int)) [xs,.int .i64 (base:Int)] [.int .u64 ((18446744073709551615/base+1:Nat):Int)]) [.bool false,.int .u64 (v:Int),.int .i64 (i:Int)] H=some r ∧
   match numL base rest v with
   |some x=>r=(.exit 3,[.bool false,.int .u64 (x:Int),.int .i64 (l.length:Int)],H)
   |none=>∃u c,(c=1∨c=2)∧r=(.ret,[errP u c],H)
 |[],i,v,hr,hi,hv2=>by
  have hil:i=l.length:=by have:=congrArg List.length hr;rw[length_drop]at this;simp at this;omega
  have this:zaF RR (.bool false) maxU vb (.int .i64 (l.length:Int)) [xs,.int .i64 (base:Int)] [.int .u64 ((18446744073709551615/base+1:Nat):Int)] [.bool false,.int .u64 (v:Int),.int .i64 (i:Int)] H=some (.exit 3,[.bool false,.int .u64 (v:Int),.int .i64 (i:Int)],H):=by
   unfold zaF;have h1:¬((i:Int)<(l.length:Int)):=by omega
   simp only[qg0,qg1,za3,zac,s_br,h1,decide_false,Bool.false_eq_true,if_false]
  subst hil;exact⟨_,(by rw[zak,this];rfl),rfl⟩
 |b::r,i,v,hr,hi,hv2=>by
  have hlt:i<l.length:=by have:=congrArg List.length hr;rw[length_drop]at this;simp at this;omega
  have hget:l[i]?=some b:=by have:=congrArg (fun x=>x[0]?) hr;simpa using this
  have hr2:l.drop (i+1)=r:=by rw[←drop_drop,hr];rfl
  obtain⟨o,h1,h2⟩:=par_step l hl base hb xs vb H hv i v b hget hv2;unfold numL;by_cases h0:digV b.toNat base<0
  ·rw[if_pos h0];obtain⟨u,c,hc,rfl⟩:=h2.1 (.inl h0);exact⟨_,(by rw[zak,h1];rfl),u,c,hc,rfl⟩
  ·rw[if_neg h0];by_cases h3:v>(18446744073709551615-(digV b.toNat base).toNat)/base
   ·rw[if_pos h3];obtain⟨u,c,hc,rfl⟩:=h2.1 (.inr h3);exact⟨_,(by rw[zak,h1];rfl),u,c,hc,rfl⟩
   ·rw[if_neg h3];have h2:=h2.2 (by intro q;rcases q with q|q;exact h0 q;exact h3 q);subst h2;have hd:=digV_lt b.toNat base;have hm:v*base≤18446744073709551615-(digV b.toNat base).toNat:=by
     have:v≤(18446744073709551615-(digV b.toNat base).toNat)/base:=by omega
     exact(Nat.le_div_iff_mul_le (by omega)).1 this
    rw[zak,h1];exact zo5 l hl base hb xs vb H hv r (i+1) _ hr2 hlt (by omega)
theorem ziE{P:Program}{O:Orc}{ext:FuncId→Option (List Value→Hp→Option (Value×Hp))}{g:FuncId}{fn:Func}{e:List Value→Hp→Option (Value×Hp)}(hf:P.funcs[g]?=some fn)(hn:(fn.name == "runtime.NumGoroutine")=false)(hb:fn.body.isSome=true)(hx:ext g=some e)(xs:List Value)(H:Hp) :
  run P O ext g xs H=e xs H:=by
 rw[run_eq];unfold zh5;rw[hf];dsimp only;rw[hn];dsimp only;obtain⟨c,hc⟩:=Option.isSome_iff_exists.1 hb;rw[hc];dsimp only;rw[hx]
theorem x_cc(xs:List Value)(H:Hp):RR Bv xs H=extCC xs H:=ziE Go.Proofs.Tryz.func97 (by kernel_rfl) (by kernel_rfl) rfl _ _
theorem x_str(xs:List Value)(H:Hp):RR Bu xs H=zpw xs H:=ziE Go.Proofs.Tryz.func64 (by kernel_rfl) (by kernel_rfl) rfl _ _
def bv(l:List UInt8):List Value:=l.map fun b=>Value.int .u8 (b.toNat:Int)
theorem zg4(l:List UInt8):(bv l).length=l.length:=by simp[bv]
theorem bv_app(l m:List UInt8):bv (l++m)=bv l++bv m:=by simp[bv]
theorem bv_one(l:List UInt8):(bv l).all one=true:=by unfold bv;rw[all_map];exact all_eq_true.2 fun _ _=>rfl
theorem znc:∀l:List UInt8,zjE (bv l)=some l
 |[]=>rfl
 |b::l=>by have hb:b.toNat<256:=b.toNat_lt;show (if b.toNat<256 then (match zjE (bv l) with|some l=>some (UInt8.ofNat b.toNat::l)|none=>none) else none)=_;rw[if_pos hb,znc l];simp
structure Bld(H:Hp)(i:Nat)(s:List UInt8)(j:Option Nat):Prop where
 ty:H.ty i=some As
 lt:i<H.next
 ex:∃a buf,H.get i=some (.cells [a,buf] true)∧(a=.pointer none∨a=.pointer (some ⟨i,0,none⟩)) ∧
  ((j=none∧s=[]∧buf=.slice none 0 0)∨∃y,j=some y∧y≠i∧y<H.next∧s≠[]∧buf=.slice (some ⟨y,0,some 1⟩) s.length s.length∧H.get y=some (.cells (bv s) true)∧H.ty y=some Ad)
structure BF(i:Nat)(H:Hp)(j:Option Nat)(H':Hp)(j':Option Nat):Prop where
 next:H.next≤H'.next
 get:∀k,k<H.next→k≠i→j≠some k→H'.get k=H.get k
 ty:∀k,k<H.next→H'.ty k=H.ty k
 foot:∀y,j'=some y→j=some y∨H.next≤y
theorem BF.refl(i:Nat)(H:Hp)(j:Option Nat):BF i H j H j:=⟨Nat.le_refl _,fun _ _ _ _=>rfl,fun _ _=>rfl,fun _ h=>.inl h⟩
theorem zij(H:Hp)(i:Nat)(T:TypeId)(k:Nat):(H.mark i T).get k=H.get k:=rfl
theorem ty_new(H:Hp)(o:AObj):(H.new o).ty=H.ty:=rfl
theorem zoF{α:Type}{H:Hp}{i:Nat}{a b v:Value}(hg:H.get i=some (.cells [a,b] true))(hc:zab v=[v])(h1:one v=true)(k:Hp→Option α):zao 1 H (.pointer (some ⟨i,1,none⟩)) v k=k (H.set i (some (.cells [a,v] true))):=by
 have hw:za8 1 [a,b] 1 v=some [a,v]:=by unfold za8;rw[hc,if_pos ⟨rfl,by simp,by simp[h1]⟩];rfl
 unfold zao Hp.wr;dsimp only;rw[hg];dsimp only;rw[hw]
theorem app_buf{H:Hp}{i:Nat}{s:List UInt8}{j:Option Nat}{buf:Value}(hi:i<H.next)(hb:(j=none∧s=[]∧buf=.slice none 0 0)∨∃y,j=some y∧y≠i∧y<H.next∧s≠[]∧buf=.slice (some ⟨y,0,some 1⟩) s.length s.length∧H.get y=some (.cells (bv s) true)∧H.ty y=some Ad)
  {x:Value} {t:List UInt8} (hx:zbK 1 x H=some (t.length,bv t)) (hl:s.length+t.length≤2^46) :
  ∃buf' H' j',(∀(α:Type) (k:Value→Hp→Option α),zbN Ad 1 1 buf x H k=k buf' H')∧zab buf'=[buf']∧one buf'=true∧H.next≤H'.next∧(∀k,k<H.next→j≠some k→H'.get k=H.get k)∧(∀k,k<H.next→H'.ty k=H.ty k) ∧
   (∀y,j'=some y→j=some y∨H.next≤y) ∧
   ((j'=none∧s++t=[]∧buf'=.slice none 0 0)∨∃y,j'=some y∧y≠i∧y<H'.next∧s++t≠[]∧buf'=.slice (some ⟨y,0,some 1⟩) (s++t).length (s++t).length∧H'.get y=some (.cells (bv (s++t)) true)∧H'.ty y=some Ad):=by
 have hone:=bv_one t;rcases hb with⟨rfl,rfl,rfl⟩|⟨y,rfl,hyi,hyn,hs,rfl,hg,hty⟩
 ·by_cases h0:t.length=0
  ·have:t=[]:=length_eq_zero_iff.1 h0;subst this;refine⟨.slice none 0 0,H,none,fun α k=>?_,rfl,rfl,Nat.le_refl _,fun _ _ _=>rfl,fun _ _=>rfl,(fun y h=>by cases h),.inl ⟨rfl,rfl,rfl⟩⟩;have ha:zbE 1 1 (.slice none 0 0) x H=some (.slice none 0 0,H):=by unfold zbE;rw[hx];rfl
   unfold zbN;rw[ha];dsimp only;unfold zqb;have:Nat.beq H.next (H.next+1)=false:=by
    cases q:Nat.beq H.next (H.next+1) with
    |false=>rfl
    |true=>have:=Nat.eq_of_beq_eq_true q;omega
   rw[this];rfl
  ·refine⟨.slice (some ⟨H.next,0,some 1⟩) t.length t.length,(H.new (.cells (bv t) true)).mark H.next Ad,some H.next,fun α k=>?_,rfl,rfl,Nat.le_succ _,fun k hk _=>?_,fun k hk=>?_,(fun y h=>by cases h;exact .inr (Nat.le_refl _)),.inr ⟨H.next,rfl,by omega,Nat.lt_succ_self _,?_,?_,?_,?_⟩⟩
   ·have ha:zbE 1 1 (.slice none 0 0) x H=some (.slice (some ⟨H.next,0,some 1⟩) t.length t.length,H.new (.cells (bv t) true)):=by unfold zbE;rw[hx];dsimp only;rw[if_neg h0,if_pos ⟨by have:([]:List UInt8).length=0:=rfl;omega,hone⟩];rfl
    unfold zbN;rw[ha];dsimp only;unfold zqb;have:Nat.beq (H.new (.cells (bv t) true)).next (H.next+1)=true:=Nat.beq_refl _;rw[this];rfl
   ·rw[zij,get_new,if_neg (by omega)]
   ·show (if k=H.next then _ else H.ty k)=_;rw[if_neg (by omega)]
   ·intro q;rw[nil_append]at q;rw[q]at h0;exact h0 rfl
   ·rfl
   ·rw[zij,get_new,if_pos rfl,nil_append]
   ·show (if H.next=H.next then _ else _)=_;rw[if_pos rfl]
 ·have hsl:0<s.length:=length_pos_iff.2 hs;by_cases h0:t.length=0
  ·have:t=[]:=length_eq_zero_iff.1 h0;subst this;refine⟨.slice (some ⟨y,0,some 1⟩) s.length s.length,H,some y,fun α k=>?_,rfl,rfl,Nat.le_refl _,fun _ _ _=>rfl,fun _ _=>rfl,fun y h=>.inl h,.inr ⟨y,rfl,hyi,hyn,by simpa using hs,by simp,by simpa using hg,hty⟩⟩;have ha:zbE 1 1 (.slice (some ⟨y,0,some 1⟩) s.length s.length) x H=some (.slice (some ⟨y,0,some 1⟩) s.length s.length,H):=by unfold zbE;rw[hx];dsimp only;rw[if_neg (by decide),if_pos ⟨rfl,Nat.le_refl _⟩]
   unfold zbN;rw[ha];dsimp only;unfold zqb;have:Nat.beq H.next (H.next+1)=false:=by
    cases q:Nat.beq H.next (H.next+1) with
    |false=>rfl
    |true=>have:=Nat.eq_of_beq_eq_true q;omega
   rw[this];rfl
  ·refine⟨.slice (some ⟨H.next,0,some 1⟩) (s.length+t.length) (s.length+t.length),((H.set y none).new (.cells (bv s++bv t) true)).mark H.next Ad,some H.next,fun α k=>?_,rfl,rfl,Nat.le_succ _,fun k hk hj=>?_,fun k hk=>?_,(fun y h=>by cases h;exact .inr (Nat.le_refl _)),.inr ⟨H.next,rfl,by omega,Nat.lt_succ_self _,?_,?_,?_,?_⟩⟩
   ·have ha:zbE 1 1 (.slice (some ⟨y,0,some 1⟩) s.length s.length) x H=some (.slice (some ⟨H.next,0,some 1⟩) (s.length+t.length) (s.length+t.length),(H.set y none).new (.cells (bv s++bv t) true)):=by unfold zbE;rw[hx];dsimp only;rw[if_neg (by decide),if_neg (by omega),hg];dsimp only;rw[if_neg (by omega),if_pos ⟨by rw[zg4];omega,by omega,hone⟩];congr 4;rw[qd0,take_of_length_le (by rw[zg4];omega)]
    unfold zbN;rw[ha];dsimp only;unfold zqb;have e1:Nat.beq ((H.set y none).new (.cells (bv s++bv t) true)).next (H.next+1)=true:=Nat.beq_refl _;have e2:zjC Ad (.slice (some ⟨y,0,some 1⟩) s.length s.length) H=true:=by
     obtain⟨q,hq⟩:∃q,s.length=q+1:=⟨s.length-1,by omega⟩
     rw[hq];show (match H.ty y with|some T=>Nat.beq T _|none=>false)=true;rw[hty];exact Nat.beq_refl _
    rw[e1,e2];rfl
   ·rw[zij,get_new,if_neg (show ¬k=(H.set y none).next by show ¬k=H.next;omega),Hp.get_set,if_neg (fun e=>hj (by rw[e]))]
   ·show (if k=H.next then _ else H.ty k)=_;rw[if_neg (by omega)]
   ·intro q;have:=congrArg List.length q;rw[length_append]at this;simp at this;exact h0 (by rw[this.2];rfl)
   ·rw[length_append]
   ·rw[zij,get_new,if_pos (show H.next=(H.set y none).next from rfl),bv_app]
   ·show (if H.next=H.next then _ else _)=_;rw[if_pos rfl]
theorem Bld.copy{H:Hp}{i:Nat}{s:List UInt8}{j:Option Nat}(h:Bld H i s j):∃H1 buf,extCC [.pointer (some ⟨i,0,none⟩)] H=some (.tuple #[],H1)∧H1.get i=some (.cells [.pointer (some ⟨i,0,none⟩),buf] true)∧H1.next=H.next∧H1.ty=H.ty∧(∀k,k≠i→H1.get k=H.get k) ∧
  ((j=none∧s=[]∧buf=.slice none 0 0)∨∃y,j=some y∧y≠i∧y<H1.next∧s≠[]∧buf=.slice (some ⟨y,0,some 1⟩) s.length s.length∧H1.get y=some (.cells (bv s) true)∧H1.ty y=some Ad):=by
 obtain⟨a,buf,hg,ha,hb⟩:=h.ex;rcases ha with rfl|rfl
 ·refine⟨H.set i (some (.cells [.pointer (some ⟨i,0,none⟩),buf] true)),buf,?_,?_,rfl,rfl,fun k hk=>?_,?_⟩
  ·show ccB i H (H.get i)=_;rw[hg];exact if_pos h.ty
  ·rw[Hp.get_set,if_pos rfl]
  ·rw[Hp.get_set,if_neg hk]
  ·rcases hb with hb|⟨y,h1,h2,h3,h4,h5,h6,h7⟩
   ·exact .inl hb
   ·exact .inr ⟨y,h1,h2,h3,h4,h5,by rw[Hp.get_set,if_neg h2];exact h6,h7⟩
 ·refine⟨H,buf,?_,hg,rfl,rfl,fun k hk=>rfl,hb⟩;show ccB i H (H.get i)=_;rw[hg];exact if_pos ⟨rfl,h.ty⟩
theorem Bld.ws{H:Hp}{i:Nat}{s:List UInt8}{j:Option Nat}(h:Bld H i s j)(t:ByteArray)(hl:s.length+t.data.toList.length≤2^46) :
  ∃H' j',RR AE [.pointer (some ⟨i,0,none⟩),.string t] H=some (.tuple #[.int .i64 (t.size:Int),.nilIface],H')∧Bld H' i (s++t.data.toList) j'∧BF i H j H' j':=by
 obtain⟨H1,buf,e1,g1,n1,t1,f1,b1⟩:=h.copy;have hx:zbK 1 (.string t) H1=some (t.data.toList.length,bv t.data.toList):=by have:t.size=t.data.toList.length:=(Array.length_toList (xs:=t.data)).symm;show some (t.size,_)=_;rw[this];rfl
 obtain⟨buf',H2,j',e2,c2,o2,n2,f2,y2,ft2,b2⟩:=app_buf (i:=i) (by rw[n1];exact h.lt) b1 hx hl;have hlt:i<H1.next:=by rw[n1];exact h.lt
 have hji:j≠some i:=fun q=>by
  rcases b1 with⟨q1,_⟩|⟨y,q1,q2,_⟩
  ·rw[q1]at q;cases q
  ·rw[q1]at q;cases q;exact q2 rfl
 have hgi:H2.get i=some (.cells [.pointer (some ⟨i,0,none⟩),buf] true):=by rw[f2 i hlt hji];exact g1
 refine⟨H2.set i (some (.cells [.pointer (some ⟨i,0,none⟩),buf'] true)),j',?_,⟨?_,?_,?_⟩,⟨?_,fun k hk hi hj=>?_,fun k hk=>?_,fun y hy=>?_⟩⟩
 ·refine(zdn E0 rfl _ _ _).trans ?_;unfold zb3;rw[zae ((x_cc _ _).trans e1),zbg,zaI,zbe g1 _ buf rfl,e2,zbg,zaI];rw[show (0+1:Nat)=1 from rfl,zoF hgi c2 o2];rfl
 ·show H2.ty i=_;rw[y2 i hlt,t1];exact h.ty
 ·show i<H2.next;omega
 ·refine⟨_,buf',by rw[Hp.get_set,if_pos rfl],.inr rfl,?_⟩;rcases b2 with hb|⟨y,h1,h2,h3,h4,h5,h6,h7⟩
  ·exact .inl hb
  ·exact .inr ⟨y,h1,h2,h3,h4,h5,by rw[Hp.get_set,if_neg h2];exact h6,h7⟩
 ·show H.next≤H2.next;omega
 ·rw[Hp.get_set,if_neg hi,f2 k (by omega) hj,f1 k hi]
 ·show H2.ty k=_;rw[y2 k (by omega),t1]
 ·rw[←n1];exact ft2 y hy
theorem Bld.wb{H:Hp}{i:Nat}{s:List UInt8}{j:Option Nat}(h:Bld H i s j)(b:UInt8)(hl:s.length+1≤2^46) :
  ∃H' j',RR Ay [.pointer (some ⟨i,0,none⟩),.int .u8 (b.toNat:Int)] H=some (.nilIface,H')∧Bld H' i (s++[b]) j'∧BF i H j H' j':=by
 obtain⟨H1,buf,e1,g1,n1,t1,f1,b1⟩:=h.copy;have hbs:∀(α:Type) (k:Value→Hp→Option α),zam 1 [.int .u8 0] 1 [(0,.int .u8 (b.toNat:Int))] H1 k=k (.slice (some ⟨H1.next,0,some 1⟩) 1 1) (H1.new (.cells (bv [b]) true)):=fun α k=>rfl;have hlt:i<H1.next:=by rw[n1];exact h.lt
 have hji:j≠some i:=fun q=>by
  rcases b1 with⟨q1,_⟩|⟨y,q1,q2,_⟩
  ·rw[q1]at q;cases q
  ·rw[q1]at q;cases q;exact q2 rfl
 have b1':(j=none∧s=[]∧buf=.slice none 0 0)∨∃y,j=some y∧y≠i∧y<(H1.new (.cells (bv [b]) true)).next∧s≠[]∧buf=.slice (some ⟨y,0,some 1⟩) s.length s.length∧(H1.new (.cells (bv [b]) true)).get y=some (.cells (bv s) true)∧(H1.new (.cells (bv [b]) true)).ty y=some Ad:=by
  rcases b1 with hb|⟨y,h1,h2,h3,h4,h5,h6,h7⟩
  ·exact .inl hb
  ·exact .inr ⟨y,h1,h2,Nat.lt_succ_of_lt h3,h4,h5,by rw[get_new,if_neg (by omega)];exact h6,h7⟩
 have hx:zbK 1 (.slice (some ⟨H1.next,0,some 1⟩) 1 1) (H1.new (.cells (bv [b]) true))=some ([b].length,bv [b]):=by unfold zbK;dsimp only;rw[if_pos rfl,get_new,if_pos rfl];rfl
 obtain⟨buf',H2,j',e2,c2,o2,n2,f2,y2,ft2,b2⟩:=app_buf (i:=i) (Nat.lt_succ_of_lt hlt) b1' hx hl;have n2:H1.next+1≤H2.next:=n2;have hgi:H2.get i=some (.cells [.pointer (some ⟨i,0,none⟩),buf] true):=by rw[f2 i (Nat.lt_succ_of_lt hlt) hji,get_new,if_neg (by omega)];exact g1
 refine⟨H2.set i (some (.cells [.pointer (some ⟨i,0,none⟩),buf'] true)),j',?_,⟨?_,?_,?_⟩,⟨?_,fun k hk hi hj=>?_,fun k hk=>?_,fun y hy=>?_⟩⟩
 ·refine(zdV E0 rfl _ _ _).trans ?_;unfold zcl;rw[zae ((x_cc _ _).trans e1),zbg,zaI,zbe g1 _ buf rfl,hbs,e2,zbg,zaI];rw[show (0+1:Nat)=1 from rfl,zoF hgi c2 o2]
 ·show H2.ty i=_;rw[y2 i (Nat.lt_succ_of_lt hlt),ty_new,t1];exact h.ty
 ·show i<H2.next;omega
 ·refine⟨_,buf',by rw[Hp.get_set,if_pos rfl],.inr rfl,?_⟩;rcases b2 with hb|⟨y,h1,h2,h3,h4,h5,h6,h7⟩
  ·exact .inl hb
  ·exact .inr ⟨y,h1,h2,h3,h4,h5,by rw[Hp.get_set,if_neg h2];exact h6,h7⟩
 ·show H.next≤H2.next;omega
 ·rw[Hp.get_set,if_neg hi,f2 k (by show k<H1.next+1;omega) hj,get_new,if_neg (by omega),f1 k hi]
 ·show H2.ty k=_;rw[y2 k (by show k<H1.next+1;omega),ty_new,t1]
 ·rcases ft2 y hy with q|q
  ·exact .inl q
  ·have q:H1.next+1≤y:=q;exact .inr (by omega)
theorem Bld.text{H:Hp}{i:Nat}{s:List UInt8}{j:Option Nat}(h:Bld H i s j)(hl:s.length≤2^46) :
  ∃H',RR Bu [.pointer (some ⟨i,0,none⟩)] H=some (.string ⟨s.toArray⟩,H')∧BF i H j H' j:=by
 obtain⟨a,buf,hg,ha,hb⟩:=h.ex;rcases hb with⟨rfl,rfl,rfl⟩|⟨y,rfl,h2,h3,h4,rfl,h6,h7⟩
 ·refine⟨H,(x_str _ _).trans ?_,BF.refl _ _ _⟩;show strB i H (H.get i)=_;rw[hg];exact if_pos h.ty
 ·refine⟨H.set y (some (.cells (bv s) false)),(x_str _ _).trans ?_,⟨Nat.le_refl _,fun k hk hi hj=>by rw[Hp.get_set,if_neg (fun e=>hj (by rw[e]))],fun _ _=>rfl,fun _ q=>.inl q⟩⟩;show strB i H (H.get i)=_;rw[hg];show strB2 i y s.length H (H.get y)=_;rw[h6];have hsl:0<s.length:=length_pos_iff.2 h4;have hb:zjE ((bv s).take s.length)=some s:=by rw[take_of_length_le (by rw[zg4];exact Nat.le_refl _),znc]
  refine(if_pos ⟨h.ty,h7,hsl,by rw[zg4];exact Nat.le_refl _,by omega⟩).trans ?_;rw[hb]
end Go.AM
namespace Go.AM
open Go
abbrev W64:=BitVec 64
section
variable {α:Type}
theorem at8(s:ByteArray)(i:Nat)(hs:i<s.size)(k:Value→Option α):zaY (.string s) (.int .u8 (i:Int)) k=k (.int .u8 ((s[i]'hs).toNat:Int)):=by refine(q_at s i (s[i]'hs) ?_ k);rw[Array.getElem?_toList];exact Array.getElem?_eq_getElem (xs:=s.data) hs
set_option maxRecDepth 100000 in
theorem at_len8(i:Nat)(h:i<256)(k:Value→Option α):zaY (.string ⟨#[0,1,2,2,3,3,3,3,4,4,4,4,4,4,4,4,5,5,5,5,5,5,5,5,5,5,5,5,5,5,5,5,6,6,6,6,6,6,6,6,6,6,6,6,6,6,6,6,6,6,6,6,6,6,6,6,6,6,6,6,6,6,6,6,7,7,7,7,7,7,7,7,7,7,7,7,7,7,7,7,7,7,7,7,7,7,7,7,7,7,7,7,7,7,7,7,7,7,7,7,7,7,7,7,7,7,7,7,7,7,7,7,7,7,7,7,7,7,7,7,7,7,7,7,7,7,7,7,8,8,8,8,8,8,8,8,8,8,8,8,8,8,8,8,8,8,8,8,8,8,8,8,8,8,8,8,8,8,8,8,8,8,8,8,8,8,8,8,8,8,8,8,8,8,8,8,8,8,8,8,8,8,8,8,8,8,8,8,8,8,8,8,8,8,8,8,8,8,8,8,8,8,8,8,8,8,8,8,8,8,8,8,8,8,8,8,8,8,8,8,8,8,8,8,8,8,8,8,8,8,8,8,8,8,8,8,8,8,8,8,8,8,8,8,8,8,8,8,8,8,8,8,8,8,8,8]⟩) (.int .u8 (i:Int)) k=k (.int .u8 ((bitLen i:Nat):Int)):=by have hs:i<(⟨#[0,1,2,2,3,3,3,3,4,4,4,4,4,4,4,4,5,5,5,5,5,5,5,5,5,5,5,5,5,5,5,5,6,6,6,6,6,6,6,6,6,6,6,6,6,6,6,6,6,6,6,6,6,6,6,6,6,6,6,6,6,6,6,6,7,7,7,7,7,7,7,7,7,7,7,7,7,7,7,7,7,7,7,7,7,7,7,7,7,7,7,7,7,7,7,7,7,7,7,7,7,7,7,7,7,7,7,7,7,7,7,7,7,7,7,7,7,7,7,7,7,7,7,7,7,7,7,7,8,8,8,8,8,8,8,8,8,8,8,8,8,8,8,8,8,8,8,8,8,8,8,8,8,8,8,8,8,8,8,8,8,8,8,8,8,8,8,8,8,8,8,8,8,8,8,8,8,8,8,8,8,8,8,8,8,8,8,8,8,8,8,8,8,8,8,8,8,8,8,8,8,8,8,8,8,8,8,8,8,8,8,8,8,8,8,8,8,8,8,8,8,8,8,8,8,8,8,8,8,8,8,8,8,8,8,8,8,8,8,8,8,8,8,8,8,8,8,8,8,8,8,8,8,8,8,8]⟩:ByteArray).size:=h;rw[at8 _ i hs k,len8tab_get i hs]
end
theorem conv8(y:W64)(h:y.toNat<256){α:Type}(k:Value→Option α):zaj .u8 (wv y) k=k (.int .u8 (y.toNat:Int)):=by unfold wv;rw[ziN,q_u8 (by omega) (by omega)]
theorem zlb(x:W64)(n:Nat):(x >>> n).toNat=x.toNat/2^n:=by rw[BitVec.toNat_ushiftRight,Nat.shiftRight_eq_div_pow]
theorem c80(x:W64)(H:Hp):RR Bb [wv x] H=some (.int .i64 ((bitLen x.toNat:Nat):Int),H):=by
 refine(zmu E0 rfl _ H).trans ?_;unfold zhQ;have n1:Value.int .u64 4294967296=wv 4294967296#64:=rfl;have n2:Value.int .u64 65536=wv 65536#64:=rfl;have n3:Value.int .u64 256=wv 256#64:=rfl;have n4:∀n:Nat,Value.int .u64 (n:Int)=.int .u64 (n:Int):=fun _=>rfl;have s32:∀(a:W64) {α:Type} (k:Value→Option α),pBin PP .shr Ab (wv a) (.int .u64 32) k=k (wv (a >>> 32)):=fun a _ k=>zng Ab a k .u64 32;have s16:∀(a:W64) {α:Type} (k:Value→Option α),pBin PP .shr Ab (wv a) (.int .u64 16) k=k (wv (a >>> 16)):=fun a _ k=>zng Ab a k .u64 16;have s8:∀(a:W64) {α:Type} (k:Value→Option α),pBin PP .shr Ab (wv a) (.int .u64 8) k=k (wv (a >>> 8)):=fun a _ k=>zng Ab a k .u64 8;have tail:∀(y:W64) (n:Nat),n≤64→y.toNat<2^16→∀G:Option (Value×Hp),G=some (.int .i64 ((n+bitLen y.toNat:Nat):Int),H) →
  (pBin PP .geq Ab (wv y) (.int .u64 256) fun v24=>zaa v24 fun b25=>br b25
   (pBin PP .shr Ab (wv y) (.int .u64 8) fun v26=>pBin PP .add Aa (.int .i64 (n:Int)) (.int .i64 8) fun v27=>zaj .u8 v26 fun v28=>
    zaY (.string ⟨#[0,1,2,2,3,3,3,3,4,4,4,4,4,4,4,4,5,5,5,5,5,5,5,5,5,5,5,5,5,5,5,5,6,6,6,6,6,6,6,6,6,6,6,6,6,6,6,6,6,6,6,6,6,6,6,6,6,6,6,6,6,6,6,6,7,7,7,7,7,7,7,7,7,7,7,7,7,7,7,7,7,7,7,7,7,7,7,7,7,7,7,7,7,7,7,7,7,7,7,7,7,7,7,7,7,7,7,7,7,7,7,7,7,7,7,7,7,7,7,7,7,7,7,7,7,7,7,7,8,8,8,8,8,8,8,8,8,8,8,8,8,8,8,8,8,8,8,8,8,8,8,8,8,8,8,8,8,8,8,8,8,8,8,8,8,8,8,8,8,8,8,8,8,8,8,8,8,8,8,8,8,8,8,8,8,8,8,8,8,8,8,8,8,8,8,8,8,8,8,8,8,8,8,8,8,8,8,8,8,8,8,8,8,8,8,8,8,8,8,8,8,8,8,8,8,8,8,8,8,8,8,8,8,8,8,8,8,8,8,8,8,8,8,8,8,8,8,8,8,8,8,8,8,8,8,8]⟩) v28 fun v29=>zaj .i64 v29 fun v30=>pBin PP .add Aa v27 v30 fun v31=>some (v31,H))
   (zaj .u8 (wv y) fun v32=>zaY (.string ⟨#[0,1,2,2,3,3,3,3,4,4,4,4,4,4,4,4,5,5,5,5,5,5,5,5,5,5,5,5,5,5,5,5,6,6,6,6,6,6,6,6,6,6,6,6,6,6,6,6,6,6,6,6,6,6,6,6,6,6,6,6,6,6,6,6,7,7,7,7,7,7,7,7,7,7,7,7,7,7,7,7,7,7,7,7,7,7,7,7,7,7,7,7,7,7,7,7,7,7,7,7,7,7,7,7,7,7,7,7,7,7,7,7,7,7,7,7,7,7,7,7,7,7,7,7,7,7,7,7,8,8,8,8,8,8,8,8,8,8,8,8,8,8,8,8,8,8,8,8,8,8,8,8,8,8,8,8,8,8,8,8,8,8,8,8,8,8,8,8,8,8,8,8,8,8,8,8,8,8,8,8,8,8,8,8,8,8,8,8,8,8,8,8,8,8,8,8,8,8,8,8,8,8,8,8,8,8,8,8,8,8,8,8,8,8,8,8,8,8,8,8,8,8,8,8,8,8,8,8,8,8,8,8,8,8,8,8,8,8,8,8,8,8,8,8,8,8,8,8,8,8,8,8,8,8,8,8]⟩) v32 fun v33=>zaj .i64 v33 fun v34=>pBin PP .add Aa (.int .i64 (n:Int)) v34 fun v35=>some (v35,H)))=G:=by
  intro y n hn hy G hG;rw[hG,n3,b_geq,zac,s_br,show (256#64).toNat=256 from rfl];by_cases h:256≤y.toNat
  ·rw[if_pos (decide_eq_true h),s8];have e:=zlb y 8;have hlt:(y >>> 8).toNat<256:=by omega
   have hb:=bitLen_le8 _ hlt;have hne:y.toNat/2^8≠0:=by omega
   have hl:=bitLen_shift y.toNat 8 hne;rw[←e]at hl;rw[zaM,conv8 _ hlt,at_len8 _ hlt,ziN,zaM,zh2 (x:=(n:Int)+8) (by omega) (by omega),zh2 (x:=((bitLen (y >>> 8).toNat:Nat):Int)) (by omega) (by omega),zh2 (by omega) (by omega),hl];congr 3;omega
  ·rw[if_neg (by simpa using h)];have hlt:y.toNat<256:=by omega
   have hb:=bitLen_le8 _ hlt;rw[conv8 _ hlt,at_len8 _ hlt,ziN,zaM,zh2 (x:=((bitLen y.toNat:Nat):Int)) (by omega) (by omega),zh2 (by omega) (by omega)];congr 3
 have mid:∀(y:W64) (n:Nat),n≤32→y.toNat<2^32→∀G:Option (Value×Hp),G=some (.int .i64 ((n+bitLen y.toNat:Nat):Int),H)→(zaC (α:=Value×Hp) .next
 (pBin PP .geq Ab (wv y) (.int .u64 65536) fun v8=>
 zaa v8 fun b9=>br b9
 (pBin PP .shr Ab (wv y) (.int .u64 16) fun v10=>
 pBin PP .add Aa (.int .i64 (n:Int)) (.int .i64 16) fun v11=>
 pBin PP .geq Ab v10 (.int .u64 256) fun v12=>
 zaa v12 fun b13=>br b13
 (pBin PP .shr Ab v10 (.int .u64 8) fun v14=>
 pBin PP .add Aa v11 (.int .i64 8) fun v15=>
 zaj .u8 v14 fun v16=>
 zaY (.string ⟨#[0,1,2,2,3,3,3,3,4,4,4,4,4,4,4,4,5,5,5,5,5,5,5,5,5,5,5,5,5,5,5,5,6,6,6,6,6,6,6,6,6,6,6,6,6,6,6,6,6,6,6,6,6,6,6,6,6,6,6,6,6,6,6,6,7,7,7,7,7,7,7,7,7,7,7,7,7,7,7,7,7,7,7,7,7,7,7,7,7,7,7,7,7,7,7,7,7,7,7,7,7,7,7,7,7,7,7,7,7,7,7,7,7,7,7,7,7,7,7,7,7,7,7,7,7,7,7,7,8,8,8,8,8,8,8,8,8,8,8,8,8,8,8,8,8,8,8,8,8,8,8,8,8,8,8,8,8,8,8,8,8,8,8,8,8,8,8,8,8,8,8,8,8,8,8,8,8,8,8,8,8,8,8,8,8,8,8,8,8,8,8,8,8,8,8,8,8,8,8,8,8,8,8,8,8,8,8,8,8,8,8,8,8,8,8,8,8,8,8,8,8,8,8,8,8,8,8,8,8,8,8,8,8,8,8,8,8,8,8,8,8,8,8,8,8,8,8,8,8,8,8,8,8,8,8,8]⟩) v16 fun v17=>
 zaj .i64 v17 fun v18=>
 pBin PP .add Aa v15 v18 fun v19=>
 some (v19,H))
 (zaj .u8 v10 fun v20=>
 zaY (.string ⟨#[0,1,2,2,3,3,3,3,4,4,4,4,4,4,4,4,5,5,5,5,5,5,5,5,5,5,5,5,5,5,5,5,6,6,6,6,6,6,6,6,6,6,6,6,6,6,6,6,6,6,6,6,6,6,6,6,6,6,6,6,6,6,6,6,7,7,7,7,7,7,7,7,7,7,7,7,7,7,7,7,7,7,7,7,7,7,7,7,7,7,7,7,7,7,7,7,7,7,7,7,7,7,7,7,7,7,7,7,7,7,7,7,7,7,7,7,7,7,7,7,7,7,7,7,7,7,7,7,8,8,8,8,8,8,8,8,8,8,8,8,8,8,8,8,8,8,8,8,8,8,8,8,8,8,8,8,8,8,8,8,8,8,8,8,8,8,8,8,8,8,8,8,8,8,8,8,8,8,8,8,8,8,8,8,8,8,8,8,8,8,8,8,8,8,8,8,8,8,8,8,8,8,8,8,8,8,8,8,8,8,8,8,8,8,8,8,8,8,8,8,8,8,8,8,8,8,8,8,8,8,8,8,8,8,8,8,8,8,8,8,8,8,8,8,8,8,8,8,8,8,8,8,8,8,8,8]⟩) v20 fun v21=>
 zaj .i64 v21 fun v22=>
 pBin PP .add Aa v11 v22 fun v23=>
 some (v23,H)))
 (pBin PP .geq Ab (wv y) (.int .u64 256) fun v24=>
 zaa v24 fun b25=>br b25
 (pBin PP .shr Ab (wv y) (.int .u64 8) fun v26=>
 pBin PP .add Aa (.int .i64 (n:Int)) (.int .i64 8) fun v27=>
 zaj .u8 v26 fun v28=>
 zaY (.string ⟨#[0,1,2,2,3,3,3,3,4,4,4,4,4,4,4,4,5,5,5,5,5,5,5,5,5,5,5,5,5,5,5,5,6,6,6,6,6,6,6,6,6,6,6,6,6,6,6,6,6,6,6,6,6,6,6,6,6,6,6,6,6,6,6,6,7,7,7,7,7,7,7,7,7,7,7,7,7,7,7,7,7,7,7,7,7,7,7,7,7,7,7,7,7,7,7,7,7,7,7,7,7,7,7,7,7,7,7,7,7,7,7,7,7,7,7,7,7,7,7,7,7,7,7,7,7,7,7,7,8,8,8,8,8,8,8,8,8,8,8,8,8,8,8,8,8,8,8,8,8,8,8,8,8,8,8,8,8,8,8,8,8,8,8,8,8,8,8,8,8,8,8,8,8,8,8,8,8,8,8,8,8,8,8,8,8,8,8,8,8,8,8,8,8,8,8,8,8,8,8,8,8,8,8,8,8,8,8,8,8,8,8,8,8,8,8,8,8,8,8,8,8,8,8,8,8,8,8,8,8,8,8,8,8,8,8,8,8,8,8,8,8,8,8,8,8,8,8,8,8,8,8,8,8,8,8,8]⟩) v28 fun v29=>
 zaj .i64 v29 fun v30=>
 pBin PP .add Aa v27 v30 fun v31=>
 some (v31,H))
 (zaj .u8 (wv y) fun v32=>
 zaY (.string ⟨#[0,1,2,2,3,3,3,3,4,4,4,4,4,4,4,4,5,5,5,5,5,5,5,5,5,5,5,5,5,5,5,5,6,6,6,6,6,6,6,6,6,6,6,6,6,6,6,6,6,6,6,6,6,6,6,6,6,6,6,6,6,6,6,6,7,7,7,7,7,7,7,7,7,7,7,7,7,7,7,7,7,7,7,7,7,7,7,7,7,7,7,7,7,7,7,7,7,7,7,7,7,7,7,7,7,7,7,7,7,7,7,7,7,7,7,7,7,7,7,7,7,7,7,7,7,7,7,7,8,8,8,8,8,8,8,8,8,8,8,8,8,8,8,8,8,8,8,8,8,8,8,8,8,8,8,8,8,8,8,8,8,8,8,8,8,8,8,8,8,8,8,8,8,8,8,8,8,8,8,8,8,8,8,8,8,8,8,8,8,8,8,8,8,8,8,8,8,8,8,8,8,8,8,8,8,8,8,8,8,8,8,8,8,8,8,8,8,8,8,8,8,8,8,8,8,8,8,8,8,8,8,8,8,8,8,8,8,8,8,8,8,8,8,8,8,8,8,8,8,8,8,8,8,8,8,8]⟩) v32 fun v33=>
 zaj .i64 v33 fun v34=>
 pBin PP .add Aa (.int .i64 (n:Int)) v34 fun v35=>
 some (v35,H)))) (fun i7=>none) none)=G:=by
  intro y n hn hy G hG;rw[zaN,n2,b_geq,zac,s_br,show (65536#64).toNat=65536 from rfl];by_cases h:65536≤y.toNat
  ·rw[if_pos (decide_eq_true h),s16,zaM,zh2 (by omega) (by omega)];have e:=zlb y 16;have hne:y.toNat/2^16≠0:=by omega
   have hl:=bitLen_shift y.toNat 16 hne;rw[←e]at hl;have e2:((n:Int)+16)=((n+16:Nat):Int):=by omega
   rw[e2];refine tail (y >>> 16) (n+16) (by omega) (by omega) G ?_;rw[hG,hl];congr 3;omega
  ·rw[if_neg (by simpa using h)];exact tail y n (by omega) (by omega) G hG
 rw[n1,b_geq,zac,s_br,show (4294967296#64).toNat=4294967296 from rfl];by_cases h:4294967296≤x.toNat
 ·rw[if_pos (decide_eq_true h),s32];have e:=zlb x 32;have hx:=x.isLt;have hne:x.toNat/2^32≠0:=by omega
  have hl:=bitLen_shift x.toNat 32 hne;rw[←e]at hl;refine mid (x >>> 32) 32 (by omega) (by omega) _ ?_;rw[hl]
 ·rw[if_neg (by simpa using h)];refine mid x 0 (by omega) (by omega) _ ?_;rw[Nat.zero_add]
end Go.AM
namespace Go.AM
open List Go
section
variable {α:Type}{P:Program}
theorem q_u32{x:Int}(h1:0≤x)(h2:x≤4294967295):IntKind.u32.wrap x=x:=zoY (by have:IntKind.u32.min=0:=rfl;omega) (by have:IntKind.u32.max=4294967295:=rfl;omega)
theorem t_quo(T:TypeId)(a b:Nat)(hb:b≠0)(ha:a<4294967296)(k:Value→Option α):pBin P .quo T (.int .u32 (a:Int)) (.int .u32 (b:Int)) k=k (.int .u32 ((a/b:Nat):Int)):=by
 have hb':¬(b:Int)=0:=by omega
 have h1:((a:Int).tdiv (b:Int))=((a/b:Nat):Int):=rfl;have h2:a/b≤a:=Nat.div_le_self a b;have h3:IntKind.u32.wrap ((a/b:Nat):Int)=((a/b:Nat):Int):=by clear h1;generalize a/b=q at h2;exact q_u32 (by omega) (by omega)
 have:binV P .quo T (.int .u32 (a:Int)) (.int .u32 (b:Int))=some (.int .u32 ((a/b:Nat):Int)):=by show (if IntKind.u32=IntKind.u32 then zd4 .quo .u32 (a:Int) (b:Int) else none)=_;rw[if_pos rfl];unfold zd4;dsimp only;rw[if_neg hb',h1,h3]
 unfold pBin;rw[this]
theorem t_mul(T:TypeId)(a b:Nat)(h:a*b<4294967296)(k:Value→Option α):pBin P .mul T (.int .u32 (a:Int)) (.int .u32 (b:Int)) k=k (.int .u32 ((a*b:Nat):Int)):=by rw[zpU,←Int.natCast_mul,q_u32 (by omega) (by omega)]
theorem t_add(T:TypeId)(a b:Nat)(h:a+b<4294967296)(k:Value→Option α):pBin P .add T (.int .u32 (a:Int)) (.int .u32 (b:Int)) k=k (.int .u32 ((a+b:Nat):Int)):=by rw[zaM,q_u32 (by omega) (by omega)];rfl
theorem i_sub(T:TypeId)(a b:Nat)(h:b≤a)(ha:a<2^60)(k:Value→Option α):pBin P .sub T (.int .i64 (a:Int)) (.int .i64 (b:Int)) k=k (.int .i64 ((a-b:Nat):Int)):=by rw[zc0,zh2 (by omega) (by omega),Int.ofNat_sub h]
theorem zjm{n sz:Nat}{a o j:Nat}{kd:IntKind}(h:j<n)(k:Value→Option α):zcu n sz (.pointer (some ⟨a,o,none⟩)) (.int kd (j:Int)) k=k (.pointer (some ⟨a,o+j*sz,none⟩)):=by
 have:(0:Int)≤j∧(j:Int)<n:=by omega
 unfold zcu;simp[this.1,h]
theorem zis{H:Hp}{a:Nat}{l:List UInt8}(hg:H.get a=some (.cells (bv l) true)){i:Nat}(hi:i<l.length)(b:UInt8)(k:Hp→Option α) :
  zao 1 H (.pointer (some ⟨a,i,none⟩)) (.int .u8 (b.toNat:Int)) k=k (H.set a (some (.cells (bv (l.set i b)) true))):=by
 have hw:za8 1 (bv l) i (.int .u8 (b.toNat:Int))=some (bv (l.set i b)):=by unfold za8;rw[if_pos ⟨rfl,by rw[zg4];omega,rfl⟩];congr 1;have:=spl_set (fun b:UInt8=>Value.int .u8 (b.toNat:Int)) l hi b;rw[Nat.mul_one]at this;exact this
 unfold zao Hp.wr;dsimp only;rw[hg];dsimp only;rw[hw]
end
def zdS:ByteArray:=⟨#[48,48,48,49,48,50,48,51,48,52,48,53,48,54,48,55,48,56,48,57,49,48,49,49,49,50,49,51,49,52,49,53,49,54,49,55,49,56,49,57,50,48,50,49,50,50,50,51,50,52,50,53,50,54,50,55,50,56,50,57,51,48,51,49,51,50,51,51,51,52,51,53,51,54,51,55,51,56,51,57,52,48,52,49,52,50,52,51,52,52,52,53,52,54,52,55,52,56,52,57,53,48,53,49,53,50,53,51,53,52,53,53,53,54,53,55,53,56,53,57,54,48,54,49,54,50,54,51,54,52,54,53,54,54,54,55,54,56,54,57,55,48,55,49,55,50,55,51,55,52,55,53,55,54,55,55,55,56,55,57,56,48,56,49,56,50,56,51,56,52,56,53,56,54,56,55,56,56,56,57,57,48,57,49,57,50,57,51,57,52,57,53,57,54,57,55,57,56,57,57]⟩
def zf1:ByteArray:=⟨#[48,49,50,51,52,53,54,55,56,57,97,98,99,100,101,102,103,104,105,106,107,108,109,110,111,112,113,114,115,116,117,118,119,120,121,122]⟩
theorem zpQ:(List.range 100).all (fun d=>decide (zdS.data.toList[d*2]?=some (dig (d/10)))&&decide (zdS.data.toList[d*2+1]?=some (dig (d%10)))&&decide ((zdS.extract (d*2) (d*2+2)).data.toList=[dig (d/10),dig (d%10)]))=true:=by kernel_rfl
theorem zl7{d:Nat}(h:d<100):zdS.data.toList[d*2]?=some (dig (d/10))∧zdS.data.toList[d*2+1]?=some (dig (d%10))∧zdS.extract (d*2) (d*2+2)=ba [dig (d/10),dig (d%10)]:=by have:=all_eq_true.1 zpQ d (mem_range.2 h);rw[Bool.and_eq_true,Bool.and_eq_true,decide_eq_true_eq,decide_eq_true_eq,decide_eq_true_eq]at this;exact⟨this.1.1,this.1.2,zf0 this.2⟩
theorem digit_all:(List.range 36).all (fun d=>decide (zf1.data.toList[d]?=some (dig d))&&decide ((zf1.extract d (d+1)).data.toList=[dig d]))=true:=by kernel_rfl
theorem zlP{d:Nat}(h:d<36):zf1.data.toList[d]?=some (dig d)∧zf1.extract d (d+1)=ba [dig d]:=by have:=all_eq_true.1 digit_all d (mem_range.2 h);rw[Bool.and_eq_true,decide_eq_true_eq,decide_eq_true_eq]at this;exact⟨this.1,zf0 this.2⟩
theorem c_small{x:Nat}(hx:x<100)(H:Hp):RR B0 [.int .i64 (x:Int)] H=some (.string (ba (dgt 10 x)),H):=by
 refine(zeB E0 rfl _ _).trans ?_
 show (pBin PP .lss Aa (.int .i64 (x:Int)) (.int .i64 10) fun v1=>zaa v1 fun b2=>br b2
   (pBin PP .add Aa (.int .i64 (x:Int)) (.int .i64 1) fun v3=>za5 (.string zf1) (some (.int .i64 (x:Int))) (some v3) fun v4=>some (v4,H))
   (pBin PP .mul Aa (.int .i64 (x:Int)) (.int .i64 2) fun v5=>pBin PP .mul Aa (.int .i64 (x:Int)) (.int .i64 2) fun v6=>pBin PP .add Aa v6 (.int .i64 2) fun v7=>za5 (.string zdS) (some v5) (some v7) fun v8=>some (v8,H)))=_
 have d1:zf1.size=36:=rfl;have d2:zdS.size=200:=rfl;rw[za3,zac,s_br];by_cases h:x<10
 ·rw[if_pos (by simp;omega),zaM,zh2 (by omega) (by omega),show ((x:Int)+1)=((x+1:Nat):Int) from rfl,s_cut _ _ _ _ _ (by omega) (by omega),(zlP (by omega)).2,zm4 h]
 ·rw[if_neg (by simp;omega),zpU,zpU,zaM,zh2 (by omega) (by omega),zh2 (by omega) (by omega),show ((x:Int)*2)=((x*2:Nat):Int) from (Int.natCast_mul x 2).symm,show (((x*2:Nat):Int)+2)=((x*2+2:Nat):Int) from rfl,s_cut _ _ _ _ _ (by omega) (by omega),(zl7 hx).2.2,
   zm5 (by decide) (by omega),zm4 (show x/10<10 by omega)]
  rfl
structure Tabs(H:Hp):Prop where
 pow:∃cs e fz,H.get AA=some (.fix (.cells cs e fz))∧zk5 .u64 cs.toList zp3=true
 spc:∃cs e fz,H.get AI=some (.fix (.cells cs e fz))∧zk5 .u8 cs.toList zj8=true
 bru:∃cs e fz,H.get AJ=some (.fix (.cells cs e fz))∧cs.toList[15]?=some (.int .u8 4)
theorem ld_fix{α:Type}{H:Hp}{g:Nat}{cs:Array Value}{e:TypeId}{fz:Nat×Nat}(h:H.get g=some (.fix (.cells cs e fz))){off:Nat}{kd:IntKind}{z:Int}(hc:cs.toList[off]?=some (.int kd z))(k:Value→Option α) :
  zal 1 false H (.pointer (some ⟨g,off,none⟩)) k=k (.int kd z):=by
 have:H.rdP (.pointer (some ⟨g,off,none⟩)) 1 false=some (.int kd z):=by unfold Hp.rdP Hp.rd;dsimp only;rw[h];dsimp only;rw[hc]
 unfold zal;rw[this]
theorem c_itoa{H:Hp}(hT:Tabs H){n:Int}(h0:-9223372036854775808≤n)(h1:n≤9223372036854775807):RR Br [.int .i64 n] H=some (.string (ba (Go.Lib.itoa n)),H):=by
 obtain⟨cs,e,fz,hg,ht⟩:=hT.pow;have hx:RR BV [.int .i64 n,.int .i64 10] H=some (.string (ba (Go.Lib.itoa n)),H):=by refine(ziE (O:=orc) Go.Proofs.Tryz.func131 (by kernel_rfl) (by kernel_rfl) (show E0 BV=some extFmt from rfl) _ H).trans ?_;show (if _ then _ else none)=_;rw[if_pos ⟨h0,h1⟩,hg];dsimp only;rw[ht]
 refine(zjV E0 rfl _ _).trans ?_;unfold zfV;rw[zae ((zeU E0 rfl _ _).trans (by unfold zcM;rw[zae hx]))]
theorem lens:(List.range 900).all (fun d=>(decide (bitLen (100+d)*78913/262144=2)||(decide (bitLen (100+d)*78913/262144=3)))&&decide (bitLen (100+d)≤64))=true:=by kernel_rfl
theorem zop{H:Hp}(hT:Tabs H){x:Nat}(h0:100≤x)(h1:x<1000):RR BZ [.int .u64 (x:Int)] H=some (.int .i64 3,H):=by
 obtain⟨cs,e,fz,hg,ht⟩:=hT.pow;have hcs:=zk4 _ _ ht;have hw:Value.int .u64 (x:Int)=wv (BitVec.ofNat 64 x):=by unfold wv;rw[BitVec.toNat_ofNat,Nat.mod_eq_of_lt (by omega)]
 have e1:RR Bb [.int .u64 (x:Int)] H=some (.int .i64 ((bitLen x:Nat):Int),H):=by rw[hw,c80,BitVec.toNat_ofNat,Nat.mod_eq_of_lt (by omega)]
 have hl:=all_eq_true.1 lens (x-100) (mem_range.2 (by omega));rw[show 100+(x-100)=x by omega,Bool.and_eq_true,Bool.or_eq_true,decide_eq_true_eq,decide_eq_true_eq,decide_eq_true_eq]at hl;generalize hK:bitLen x=K at e1 hl;have e2:RR BY [.int .i64 (K:Int)] H=some (.int .i64 ((K*78913/262144:Nat):Int),H):=by
  refine(zdF E0 rfl _ _).trans ?_;unfold zce;have hm:((K:Int)*78913)=((K*78913:Nat):Int):=(Int.natCast_mul K 78913).symm;rw[zpU,zh2 (by omega) (by omega),hm];have hs:binV PP .shr Aa (.int .i64 ((K*78913:Nat):Int)) (.int .u64 18)=some (.int .i64 ((K*78913/262144:Nat):Int)):=by show (if (18:Int)<0 then none else some (Value.int .i64 (((K*78913:Nat):Int).fdiv (2^(min (18:Int).toNat IntKind.i64.bits)))))=_;rw[if_neg (by decide)];have:(2:Int)^(min (18:Int).toNat IntKind.i64.bits)=((262144:Nat):Int):=rfl;rw[this,Int.fdiv_eq_ediv_of_nonneg _ (by omega)];congr 2
  unfold pBin;rw[hs]
 refine(zdE E0 rfl _ _).trans ?_;unfold zcd;rw[zae e1,zae e2];have b1:∀v:Bool,RR BW [.bool v] H=some (.int .i64 (if v=true then 1 else 0),H):=fun v=>by refine(zdG E0 rfl _ _).trans ?_;cases v<;>rfl
 rcases hl.1 with h|h
 ·rw[h,zjm (by decide),ld_fix hg (kd:=.u64) (z:=100) (by rw[hcs];rfl),zcQ,zae (b1 _),if_pos (by simp;omega),zaM];rfl
 ·rw[h,zjm (by decide),ld_fix hg (kd:=.u64) (z:=1000) (by rw[hcs];rfl),zcQ,zae (b1 _),if_neg (by simp;omega),zaM];rfl
theorem zf4{α:Type}(T:TypeId)(a b:List UInt8)(k:Value→Option α):pBin PP .eql T (str a) (str b) k=k (.bool (a==b)):=by show pBin PP .eql T (.string (ba a)) (.string (ba b)) k=_;rw[zoN,ze3,ze3]
theorem zoM{α:Type}(l:List UInt8)(H:Hp)(k:Value→Option α):pLen .str (str l) H k=k (.int .i64 (l.length:Int)):=by show k (.int .i64 ((ba l).size:Int))=_;rw[zcw]
theorem zmg{α:Type}(l:List UInt8)(hl:l.length≤2^40)(H:Hp)(k:Value→Hp→Option α):zdH (str l) H k=k (.slice (some ⟨H.next,0,some 1⟩) l.length l.length) (H.new (.cells (zg3 l) true)):=by show (if (ba l).size≤2^47 then k (.slice (some ⟨H.next,0,some 1⟩) (ba l).size (ba l).size) (H.new (.cells ((ba l).data.toList.map fun b=>.int .u8 (b.toNat:Int)) true)) else none)=_;rw[zcw,ze3,if_pos (by omega)];rfl
theorem u8conv:IntKind.u64.wrap 64=64:=by decide
theorem shl64{α:Type}(T:TypeId)(k:Value→Option α):pBin PP .shl T (.int .u64 1) (.int .u64 64) k=k (.int .u64 0):=by
 have:binV PP .shl T (.int .u64 1) (.int .u64 64)=some (.int .u64 0):=by show shOp .shl .u64 1 64=_;kernel_rfl
 unfold pBin;rw[this]
def numB(base:Nat)(l:List UInt8):Option Nat:=if l=[] then none else numL base l 0
theorem c_iparse(l:List UInt8)(hl:l.length≤2^40)(base:Nat)(hb:base=10∨base=16)(H:Hp):∃r H',RR AZ [str l,.int .i64 (base:Int),.int .i64 64] H=some (r,H')∧Frm (fun _=>False) H H' ∧
  match numB base l with
  |some x=>r=.tuple #[.int .u64 (x:Int),.nilIface]
  |none=>∃u c,(c=1∨c=2)∧r=errP u c:=by
 by_cases h0:l=[]
 ·refine⟨errP 0 2,H,?_,Frm.refl _ _,?_⟩
  ·refine(zcb E0 rfl _ _ _ H).trans ?_;rw[zcg];have he:∀{α:Type} (k:Value→Option α),pBin PP .eql Ac (str l) (.string ⟨#[]⟩) k=k (.bool (l==[])):=fun k=>zf4 Ac l [] k;rw[he,h0,zac,s_br,if_pos (by rfl)];rfl
  ·unfold numB;rw[if_pos h0];exact⟨0,2,.inr rfl,rfl⟩
 ·let H1:=H.new (.cells (zg3 l) true)
  have hv:Rdb H1 1 (.slice (some ⟨H.next,0,some 1⟩) l.length l.length) l.length (zg3 l):=
   .inr ⟨H.next,l.length,[],true,rfl,Nat.le_refl _,by rw[append_nil];exact if_pos rfl,by simp[zg3],by show H.next<H.next+1;omega⟩
  have hf:Frm (fun _=>False) H H1:=zcW _ _ _;obtain⟨o,h1,h2⟩:=zo5 l hl base hb (str l) _ H1 hv l 0 0 rfl (Nat.zero_le _) (by omega);have hrun:RR AZ [str l,.int .i64 (base:Int),.int .i64 64] H=zau (some o) fun q146 l147 H148=>zaC q146 none
    (fun i149=>zav i149 3 (
    zaa (l147.getD 0 undef) fun b150=>br b150
    (zad RR Cm [str l] H148 fun r151 H152=>
    pUn .not r151 fun v153=>
    zaa v153 fun b154=>br b154
    (some ((.tuple #[(.int .u64 0),(.iface Ai (.int .i64 2))]),H152))
    (some ((.tuple #[(l147.getD 1 undef),.nilIface]),H152)))
    (some ((.tuple #[(l147.getD 1 undef),.nilIface]),H148))) (
    none))
    (some ((l147.headD undef),H148)):=by
   refine(zcb E0 rfl _ _ _ H).trans ?_;rw[zcg];have he:∀{α:Type} (k:Value→Option α),pBin PP .eql Ac (str l) (.string ⟨#[]⟩) k=k (.bool (l==[])):=fun k=>zf4 Ac l [] k;have hne:(l==[])=false:=by rw[beq_eq_false_iff_ne];exact h0
   have b0:¬((base:Int)=0):=by omega
   have b1:(2:Int)≤(base:Int):=by omega
   have b2:(base:Int)≤36:=by omega
   have c0:¬((64:Int)=0):=by decide
   have c1:¬((64:Int)<0):=by decide
   have c2:¬((64:Int)>64):=by decide
   have hcv:∀{α:Type} (k:Value→Option α),zaj .u64 (.int .i64 64) k=k (.int .u64 64):=fun k=>by show k (.int .u64 (IntKind.u64.wrap 64))=_;rw[u8conv]
   have hsub:∀{α:Type} (k:Value→Option α),pBin PP .sub Ab (.int .u64 0) (.int .u64 1) k=k maxU:=fun k=>by rw[zc0];rfl
   have hlen:∀{α:Type} (k:Value→Option α),pLen .sl (.slice (some ⟨H.next,0,some 1⟩) l.length l.length) (H.new (.cells (zg3 l) true)) k=k (.int .i64 (l.length:Int)):=fun k=>rfl;simp only[he,hne,zac,s_br,Bool.false_eq_true,if_false,zaO,b0,b1,b2,decide_false,decide_true,if_true,zf5,zap,zaN,qg0,qg1,c0,c1,c2,za3,zci];rcases hb with rfl|rfl
   ·have d0:((10:Nat):Int)=10:=rfl;simp only[d0,decide_true,if_true,zap,zaN,hcv,shl64,hsub,zmg l hl,hlen];exact congrArg (fun z=>zau z _) h1
   ·have d0:¬((16:Int)=10):=by decide
    have d1:((16:Nat):Int)=16:=rfl;simp only[d0,d1,decide_true,decide_false,Bool.false_eq_true,if_false,if_true,zap,zaN,hcv,shl64,hsub,zmg l hl,hlen];exact congrArg (fun z=>zau z _) h1
  unfold numB;rw[if_neg h0];cases hn:numL base l 0 with
  |some x=>
   rw[hn]at h2;subst h2;exact⟨_,H1,hrun,hf,rfl⟩
  |none=>
   rw[hn]at h2;obtain⟨u,c,hc,rfl⟩:=h2;exact⟨_,H1,hrun,hf,u,c,hc,rfl⟩
structure Laid(H:Hp):Prop where
 next:PP.globals.size≤H.next
 tabs:Tabs H
 syn:∃cs ty fz,H.get AB=some (.fix (.cells cs ty fz))∧isErr cs.toList=true
 rng:∃cs ty fz,H.get AC=some (.fix (.cells cs ty fz))∧isErr cs.toList=true
theorem Laid.keep{H H':Hp}{M:Nat→Prop}(h:Laid H)(k:Frm M H H')(hm:∀j,M j→PP.globals.size≤j):Laid H':=by
 have e:∀g,g<PP.globals.size→H'.get g=H.get g:=fun g hg=>k.same g (by have:=h.next;omega) fun q=>by have:=hm g q;omega
 exact⟨Nat.le_trans h.next k.next,⟨by rw[e _ (by rw[zfM];decide)];exact h.tabs.pow,by rw[e _ (by rw[zfM];decide)];exact h.tabs.spc,by rw[e _ (by rw[zfM];decide)];exact h.tabs.bru⟩,
  by rw[e _ (by rw[zfM];decide)];exact h.syn,by rw[e _ (by rw[zfM];decide)];exact h.rng⟩
theorem c_toerr(fn:ByteArray)(l:List UInt8)(hl:l.length≤2^40)(b:Int)(c:Int)(hc:c=1∨c=2)(H:Hp)(hL:Laid H) :
  ∃t v,RR A2 [.string fn,str l,.int .i64 b,.int .i64 64,.iface Ai (.int .i64 c)] H=some (.iface t v,H.skip):=by
 refine⟨B9,.pointer (some ⟨H.next,0,none⟩),?_⟩;have hE:E0 A2=some zm1:=rfl;have:RR A2 [.string fn,str l,.int .i64 b,.int .i64 64,.iface Ai (.int .i64 c)] H=zm1 [.string fn,str l,.int .i64 b,.int .i64 64,.iface Ai (.int .i64 c)] H:=ziE Go.Proofs.Tryz.func161 (by kernel_rfl) (by kernel_rfl) hE _ _;rw[this];have hg:∃cs ty fz,H.get (if c=2 then AB else AC)=some (.fix (.cells cs ty fz))∧isErr cs.toList=true:=by
  rcases hc with rfl|rfl
  ·exact hL.rng
  ·exact hL.syn
 obtain⟨cs,ty,fz,h1,h2⟩:=hg;show (if Ai=Ai∧(ba l).size≤281474976710656∧(c=1∨c=2) then _ else _)=_;rw[if_pos ⟨rfl,by rw[zcw];omega,hc⟩,h1];dsimp only;rw[h2]
theorem skip_fr(H:Hp):Frm (fun _=>False) H H.skip:=⟨by show H.next≤H.next+1;omega,fun _ _ _=>rfl⟩
theorem c_parse(l:List UInt8)(hl:l.length≤2^40)(base:Nat)(hb:base=10∨base=16)(H:Hp)(hL:Laid H):∃r H',RR Bs [str l,.int .i64 (base:Int),.int .i64 64] H=some (r,H')∧Frm (fun _=>False) H H' ∧
  match numB base l with
  |some x=>r=.tuple #[.int .u64 (x:Int),.nilIface]
  |none=>∃u t v,r=.tuple #[.int .u64 u,.iface t v]:=by
 obtain⟨r,H',h1,h2,h3⟩:=c_iparse l hl base hb H;have hrun:=zgb E0 rfl (str l) (.int .i64 (base:Int)) (.int .i64 64) H;unfold zd1 at hrun;rw[zae h1]at hrun;cases hn:numB base l with
 |some x=>
  rw[hn]at h3;subst h3;refine⟨_,H',hrun.trans ?_,h2,rfl⟩;rw[x01];rfl
 |none=>
  rw[hn]at h3;obtain⟨u,c,hc,rfl⟩:=h3;obtain⟨t,v,h4⟩:=c_toerr ⟨#[80,97,114,115,101,85,105,110,116]⟩ l hl (base:Int) c hc H' (hL.keep h2 fun j q=>q.elim);refine⟨.tuple #[.int .u64 u,.iface t v],H'.skip,hrun.trans ?_,h2.trans (skip_fr H') fun j q=>q.elim,u,t,v,rfl⟩;unfold errP;rw[x01];have e:∀{α:Type} (k:Value→Option α),zdW PP .neq AG (.iface Ai (.int .i64 c)) k=k (.bool true):=fun k=>rfl;rw[e,zac,s_br,if_pos rfl,zae h4]
theorem c_cutp(l:List UInt8)(H:Hp):RR B3 [str l,.string ⟨#[48,120]⟩] H=some (if l.take 2=[48,120] then .tuple #[str (l.drop 2),.bool true] else .tuple #[str l,.bool false],H):=by
 have hp:RR B1 [str l,str [48,120]] H=some (.bool (decide (l.take 2=[48,120])),H):=by
  refine(zcS E0 rfl _ _ H).trans ?_;unfold zbH;simp only[zoM,zcQ,zac,s_br];by_cases h:l.length≥2
  ·have h':((l.length:Int)≥(([48,120]:List UInt8).length:Int)):=by show (l.length:Int)≥2;omega
   rw[if_pos (decide_eq_true h'),s_upto l .i64 (m:=([48,120]:List UInt8).length) h,zf4];have e:(l.take ([48,120]:List UInt8).length==[48,120])=decide (l.take 2=[48,120]):=by rw[Bool.eq_iff_iff];simp
   rw[e]
  ·have h':¬((l.length:Int)≥(([48,120]:List UInt8).length:Int)):=by show ¬(l.length:Int)≥2;omega
   rw[if_neg (fun q=>h' (of_decide_eq_true q))];have:¬(l.take 2=[48,120]):=fun e=>by have:=congrArg List.length e;rw[length_take]at this;simp at this;omega
   rw[decide_eq_false this]
 have hc:RR Bp [str l,str [48,120]] H=some (if l.take 2=[48,120] then .tuple #[str (l.drop 2),.bool true] else .tuple #[str l,.bool false],H):=by
  refine(zcT E0 rfl _ _ H).trans ?_;unfold zbI;rw[zae hp,zb9,zac,s_br];by_cases h:l.take 2=[48,120]
  ·rw[decide_eq_true h,if_neg (by decide),if_pos h,zoM];have hl2:2≤l.length:=by have:=congrArg List.length h;rw[length_take]at this;simp at this;omega
   have:=s_from l .i64 (m:=2) hl2 (fun v6=>some ((Value.tuple #[v6,.bool true]),H));exact this
  ·rw[decide_eq_false h,if_pos (by decide),if_neg h]
 refine(zga E0 rfl _ _ H).trans ?_;unfold zd0;have hc':RR Bp [str l,.string ⟨#[48,120]⟩] H=_:=hc;rw[zae hc'];by_cases h:l.take 2=[48,120]
 ·rw[if_pos h,x01]
 ·rw[if_neg h,x01]
theorem zok(l:List UInt8)(i:Nat)(hi:i<l.length){c:Nat}(hc:c<128)(h:((Utf8.decode (ba l) i).1:Int)=(c:Int)):(l.getD i 0).toNat=c:=by
 rw[Go.Lib.decode_at,zcw]at h;simp only[ba_get]at h;have hs:=zm7 (l.length-i) (l.getD i 0).toNat (l.getD (i+1) 0).toNat (l.getD (i+2) 0).toNat (l.getD (i+3) 0).toNat (by omega);generalize Go.Lib.decodeN (l.length-i) (l.getD i 0).toNat (l.getD (i+1) 0).toNat (l.getD (i+2) 0).toNat (l.getD (i+3) 0).toNat=q at hs h;obtain⟨r,w⟩:=q;rcases hs with⟨h1,h2⟩|⟨h1,h2⟩|⟨h1,h2,h3,h4,h5⟩|⟨h1,h2,h3,h3',h4,h5⟩|⟨h1,h2,h3,h3',h3'',h4,h5⟩
 ·cases h2;dsimp only at h;omega
 ·cases h2;dsimp only at h;omega
 all_goals (dsimp only at h h5;omega)
theorem zpe(base:Nat):∀(l:List UInt8) (v:Nat),(∃b∈l,digV b.toNat base<0)→numL base l v=none
 |[],v,⟨b,hb,_⟩=>by cases hb
 |a::r,v,⟨b,hb,hd⟩=>by
  unfold numL;by_cases h0:digV a.toNat base<0
  ·rw[if_pos h0]
  ·rw[if_neg h0];split
   ·rfl
   ·rcases mem_cons.1 hb with q|q
    ·subst q;exact absurd hd h0
    ·exact zpe base r _ ⟨b,q,hd⟩
theorem sign_bad{b:UInt8}{base:Nat}(hb:base=10∨base=16)(h:b.toNat=95∨b.toNat=43∨b.toNat=45):digV b.toNat base<0:=by rcases hb with rfl|rfl<;>rcases h with h|h|h<;>rw[h]<;>decide
theorem sign_loop(l:List UInt8)(hl:l.length≤2^40)(H:Hp):∀(m i:Nat),l.length-i=m→i≤l.length →
  zat (zbf RR) [zds l i] H=some (.exit 0,[zds l l.length],H)∨(zat (zbf RR) [zds l i] H=some (.ret,[badN],H)∧∃b∈l,b.toNat=95∨b.toNat=43∨b.toNat=45):=by
 intro m;induction m using Nat.strongRecOn with
 |_ m ih=>
 intro i hm hi;by_cases he:i=l.length
 ·left;subst he;have hb:Nat.blt l.length (ba l).size=false:=by rw[zcw];exact Bool.eq_false_iff.2 fun q=>by rw[Nat.blt_eq]at q;exact Nat.lt_irrefl _ q
  have:zbf RR [zds l l.length] H=some (.exit 0,[zds l l.length],H):=by show br (Nat.blt l.length (ba l).size) _ _=_;rw[hb];rfl
  rw[zak,this];rfl
 ·have hlt:i<l.length:=by omega
  have hb:Nat.blt i (ba l).size=true:=by rw[zcw];rw[Nat.blt_eq];exact hlt
  obtain⟨d1,d2,_⟩:=dec_sp l i hlt;have hmem:l.getD i 0∈l:=by rw[getD_eq_getElem?_getD,List.getElem?_eq_getElem hlt];exact getElem_mem hlt
  have hstep:zbf RR [zds l i] H =
    (if ((Utf8.decode (ba l) i).1:Int)=95 then some (.ret,[badN],H) else if ((Utf8.decode (ba l) i).1:Int)=43 then some (.ret,[badN],H) else if ((Utf8.decode (ba l) i).1:Int)=45 then some (.ret,[badN],H) else some (.next,[zds l (i+(Utf8.decode (ba l) i).2)],H)):=by
   show br (Nat.blt i (ba l).size) (pBin PP .eql Ag (.int .i32 (Utf8.decode (ba l) i).1) (.int .i32 95) fun v13=>zaa v13 fun b14=>br b14 (some (Ctl.ret,[(.tuple #[(.int .u64 0),(.int .i64 10)])],H))
    (pBin PP .eql Ag (.int .i32 (Utf8.decode (ba l) i).1) (.int .i32 43) fun v15=>zaa v15 fun b16=>br b16 (some (Ctl.ret,[(.tuple #[(.int .u64 0),(.int .i64 10)])],H))
    (pBin PP .eql Ag (.int .i32 (Utf8.decode (ba l) i).1) (.int .i32 45) fun v17=>zaa v17 fun b18=>br b18 (some (Ctl.ret,[(.tuple #[(.int .u64 0),(.int .i64 10)])],H))
    (some (Ctl.next,[zds l (i+(Utf8.decode (ba l) i).2)],H))))) _=_
   rw[hb];simp only[zaO,zac,s_br,decide_eq_true_eq,if_true];rfl
  rw[zak,hstep];by_cases h1:((Utf8.decode (ba l) i).1:Int)=95
  ·right;rw[if_pos h1];exact⟨rfl,_,hmem,.inl (zok l i hlt (c:=95) (by decide) h1)⟩
  ·rw[if_neg h1];by_cases h2:((Utf8.decode (ba l) i).1:Int)=43
   ·right;rw[if_pos h2];exact⟨rfl,_,hmem,.inr (.inl (zok l i hlt (c:=43) (by decide) h2))⟩
   ·rw[if_neg h2];by_cases h3:((Utf8.decode (ba l) i).1:Int)=45
    ·right;rw[if_pos h3];exact⟨rfl,_,hmem,.inr (.inr (zok l i hlt (c:=45) (by decide) h3))⟩
    ·rw[if_neg h3];exact ih (l.length-(i+(Utf8.decode (ba l) i).2)) (by omega) (i+(Utf8.decode (ba l) i).2) rfl d2
theorem numP_eq(l:List UInt8):numP l=if l.take 2=[48,120] then numB 16 (l.drop 2) else numB 10 l:=by
 unfold numP numB
 match l with
 |[]=>rfl
 |[a]=>simp
 |a::b::r=>
  simp only[List.getElem?_cons_zero,List.getElem?_cons_succ,take_succ_cons,take_zero,qd1,qd0,length_cons,Option.some.injEq,List.cons.injEq,and_true];by_cases h:a=48∧b=120
  ·rw[if_pos h,if_pos h];by_cases hr:r=[]
   ·subst hr;rfl
   ·rw[if_neg hr,if_neg (fun e=>hr (length_eq_zero_iff.1 (by omega)))]
  ·rw[if_neg h,if_neg h,if_neg (by omega),if_neg (by simp)]
theorem c_number(l:List UInt8)(hl:l.length≤2^40)(H:Hp)(hL:Laid H):∃H',RR AP [str l] H=some (numV (numP l),H')∧Frm (fun _=>False) H H':=by
 have hrun:=(zlo E0 rfl (str l) H)
 rw[zlJ,zae (c_cutp l H)]at hrun
 have tail:∀(d:List UInt8) (base:Nat),(base=10∨base=16)→d.length≤2^40→∃H',(zjX (str d) fun s10=>
   zau (zat (zbf RR) [(.tuple #[.string s10,.int .i64 (0:Nat)])] H) fun q19 l20 H21=>zaC q19 none
   (fun i22=>zav i22 0 (
   zad RR Bs [str d,(.int .i64 (base:Int)),(.int .i64 64)] H21 fun r23 H24=>
   zaf r23 0 fun v25=>
   zaf r23 1 fun v26=>
   zdW PP .neq AG v26 fun v27=>
   zaa v27 fun b28=>br b28
   (some ((.tuple #[(.int .u64 0),(.int .i64 10)]),H24))
   (some ((.tuple #[v25,(.int .i64 0)]),H24))) (
   none))
   (some ((l20.headD undef),H21)))=some (numV (numB base d),H')∧Frm (fun _=>False) H H':=by
  intro d base hb hd;have e:∀(k:ByteArray→Option (Value×Hp)),zjX (str d) k=k (ba d):=fun k=>rfl;rw[e];rcases sign_loop d hd H d.length 0 rfl (Nat.zero_le _) with h|⟨h,b,hm,hs⟩
  ·have h:zat (zbf RR) [(.tuple #[.string (ba d),.int .i64 (0:Nat)])] H=_:=h;obtain⟨r,H',h1,h2,h3⟩:=c_parse d hd base hb H hL;refine⟨H',?_,h2⟩;rw[h,zap,za6,zay,zae h1];cases hn:numB base d with
   |some x=>
    rw[hn]at h3;subst h3;rfl
   |none=>
    rw[hn]at h3;obtain⟨u,t,v,rfl⟩:=h3;rfl
  ·have h:zat (zbf RR) [(.tuple #[.string (ba d),.int .i64 (0:Nat)])] H=_:=h;refine⟨H,?_,Frm.refl _ _⟩;rw[h,zap,zfg];have:numB base d=none:=by unfold numB;rw[if_neg (fun e=>by subst e;cases hm)];exact zpe base d 0 ⟨b,hm,sign_bad hb hs⟩
   rw[this];rfl
 rw[numP_eq];by_cases h:l.take 2=[48,120]
 ·obtain⟨H',h1,h2⟩:=tail (l.drop 2) 16 (.inr rfl) (by rw[length_drop];omega);refine⟨H',hrun.trans ?_,h2⟩;rw[if_pos h,if_pos h,x01];exact h1
 ·obtain⟨H',h1,h2⟩:=tail l 10 (.inl rfl) hl;refine⟨H',hrun.trans ?_,h2⟩;rw[if_neg h,if_neg h,x01];exact h1
theorem zbL{h:zag}{g:FuncId}{args:List Value}{H:Hp}{v:Value}{H':Hp}(e:h g args H=some (W1 v,H')){α:Type}(kp k:Value→Hp→Option α):zbh h g args H kp k=k v H':=by unfold zbh;rw[e];rfl
theorem zbM{h:zag}{g:FuncId}{args:List Value}{H:Hp}{v:Value}{H':Hp}(e:h g args H=some (W0 v,H')){α:Type}(kp k:Value→Hp→Option α):zbh h g args H kp k=kp v H':=by unfold zbh;rw[e];rfl
theorem znA{h:zag}{g:FuncId}{args:List Value}{H:Hp}{v:Value}{H':Hp}(e:h g args H=some (W1 v,H')){α:Type}(k:Value→Hp→Option α):zeH h g args H k=k v H':=by unfold zeH;rw[e];rfl
structure RdS(H:Hp)(p:Nat)(sp wv tv:Value)(ws:List (List UInt8)):Prop where
 rd:H.get p=some (.cells [sp,wv,tv] true)
 wd:Wds H wv ws
 wp:¬Id wv p
 pl:p<H.next
 sh:∀w∈ws,w.length≤2^40
theorem RdS.keep{H H':Hp}{p:Nat}{sp wv tv:Value}{ws:List (List UInt8)}{M:Nat→Prop}(h:RdS H p sp wv tv ws)(k:Frm M H H')(hp:¬M p)(hw:∀j,Id wv j→¬M j):RdS H' p sp wv tv ws:=
 ⟨by rw[k.same p h.pl hp];exact h.rd,h.wd.keep k hw,h.wp,Nat.lt_of_lt_of_le h.pl k.next,h.sh⟩
theorem RdS.next{H:Hp}{p:Nat}{sp wv tv:Value}{w:List UInt8}{ws:List (List UInt8)}(h:RdS H p sp wv tv (w::ws)) :
  ∃H' wv',RR Ap [.pointer (some ⟨p,0,none⟩)] H=some (W1 (str w),H')∧RdS H' p sp wv' tv ws∧(∀j,Id wv' j→Id wv j)∧Frm (· = p) H H':=by
 obtain⟨H',wv',h1,h2,h3,h4,h5,h6⟩:=next_some h.rd h.wd h.wp;exact⟨H',wv',h1,⟨h2,h3,fun q=>h.wp (h4 p q),by rw[h6];exact h.pl,fun x hx=>h.sh x (mem_cons_of_mem _ hx)⟩,h4,h5⟩
theorem RdS.stop{H:Hp}{p:Nat}{sp wv tv:Value}(h:RdS H p sp wv tv []):RR Ap [.pointer (some ⟨p,0,none⟩)] H=some (W0 (zcr 3),H):=next_none h.rd h.wd
def numF(ws:List (List UInt8)):Option Int:=match ws with
 |[]=>none
 |w::_=>if zcq w<0 then none else some (zcq w)
def RdA(H:Hp)(p:Nat)(sp wv tv:Value)(ws:List (List UInt8))(f:FuncId)(r:Option Int):Prop:=
 match r with
 |none=>∃H',RR f [.pointer (some ⟨p,0,none⟩)] H=some (W0 (zcr 3),H')∧Frm (· = p) H H'
 |some v=>∃H' wv',RR f [.pointer (some ⟨p,0,none⟩)] H=some (W1 (.int .i64 v),H')∧RdS H' p sp wv' tv ws.tail∧(∀j,Id wv' j→Id wv j)∧Frm (· = p) H H'
theorem zey(w:List UInt8):zcq w=match numP w with|some x=>if x<2147483648 then (x:Int) else -1|none=>-1:=rfl
theorem RdS.number{H:Hp}{p:Nat}{sp wv tv:Value}{ws:List (List UInt8)}(h:RdS H p sp wv tv ws)(hL:Laid H)(hp:PP.globals.size≤p):RdA H p sp wv tv ws An (numF ws):=by
 have hrun:=zfI E0 rfl (.pointer (some ⟨p,0,none⟩)) H;unfold zdx at hrun;cases ws with
 |nil=>
  rw[zbM h.stop]at hrun;exact⟨H,hrun,Frm.refl _ _⟩
 |cons w ws=>
  obtain⟨H1,wv',h1,h2,h3,h4⟩:=h.next;have hL1:Laid H1:=hL.keep h4 fun j q=>by rw[q];exact hp
  obtain⟨H2,g1,g2⟩:=c_number w (h.sh w (mem_cons_self ..)) H1 hL1;have h5:RdS H2 p sp wv' tv ws:=h2.keep g2 (fun q=>q) fun _ _ q=>q;have hf:Frm (· = p) H H2:=h4.trans (g2.mono fun j q=>q.elim) fun j q=>.inl q;rw[zbL h1,zae g1]at hrun;unfold numF;dsimp only;cases hn:numP w with
  |none=>
   rw[hn]at hrun;have hs:zcq w=-1:=by rw[zey,hn]
   rw[hs,if_pos (by decide)];refine⟨H2,hrun.trans ?_,hf⟩;have e0:∀{α:Type} (k:Value→Option α),zaf (numV none) 0 k=k (.int .u64 0):=fun k=>rfl;have e1:∀{α:Type} (k:Value→Option α),zaf (numV none) 1 k=k (.int .i64 10):=fun k=>rfl;simp only[e0,e1,zbt,zac,s_br,zcm,show ((10:Int)≠0) from by decide,decide_true,if_true,ne_eq,not_false_eq_true]
  |some x=>
   rw[hn]at hrun;have e0:∀{α:Type} (k:Value→Option α),zaf (numV (some x)) 0 k=k (.int .u64 (x:Int)):=fun k=>rfl;have e1:∀{α:Type} (k:Value→Option α),zaf (numV (some x)) 1 k=k (.int .i64 0):=fun k=>rfl;have hz:¬((0:Int)≠0):=by decide
   by_cases hx:x<2147483648
   ·have hs:zcq w=(x:Int):=by rw[zey,hn];exact if_pos hx
    rw[hs,if_neg (by omega)];have hx':¬((x:Int)≥2147483648):=by omega
    have hc:∀{α:Type} (k:Value→Option α),zaj .i64 (.int .u64 (x:Int)) k=k (.int .i64 (x:Int)):=fun k=>by show k (.int .i64 (IntKind.i64.wrap (x:Int)))=_;rw[w64 (by omega) (by omega)]
    refine⟨H2,wv',hrun.trans ?_,h5,h3,hf⟩;simp only[e0,e1,zbt,zac,s_br,hz,decide_false,Bool.false_eq_true,if_false,zcQ,hx',hc]
   ·have hs:zcq w=-1:=by rw[zey,hn];exact if_neg hx
    rw[hs,if_pos (by decide)];have hx':((x:Int)≥2147483648):=by omega
    refine⟨H2,hrun.trans ?_,hf⟩;simp only[e0,e1,zbt,zac,s_br,hz,decide_false,decide_true,Bool.false_eq_true,if_false,if_true,zcQ,hx',zcm]
theorem smallV_bd(w:List UInt8):zcq w=-1∨(0≤zcq w∧zcq w<2147483648):=by
 rw[zey];cases numP w with
 |none=>exact .inl rfl
 |some x=>
  dsimp only;split
  ·right;omega
  ·exact .inl rfl
theorem numF_bd{ws:List (List UInt8)}{v:Int}(h:numF ws=some v):0≤v∧v<2147483648:=by
 cases ws with
 |nil=>cases h
 |cons w ws=>
  unfold numF at h;dsimp only at h;split at h
  ·cases h
  ·cases h;have:=smallV_bd w;omega
def zlr(ts:List Int)(ws:List (List UInt8)):Option Int:=match numF ws with
 |none=>none
 |some v=>if 1≤v∧v≤ts.length then some (ts.getD (v-1).toNat 0) else none
def i64s(l:List Int):List Value:=l.map fun z=>Value.int .i64 z
theorem RdS.part{H:Hp}{p:Nat}{sp wv tv:Value}{ws:List (List UInt8)}{ts:List Int}(h:RdS H p sp wv tv ws)(hL:Laid H)(hp:PP.globals.size≤p)(ht:Vec H 1 tv ts.length (i64s ts))(htp:¬Id tv p):RdA H p sp wv tv ws BD (zlr ts ws):=by
 have hrun:=zgE E0 rfl (.pointer (some ⟨p,0,none⟩)) H;unfold zeh at hrun;have hn:=h.number hL hp;unfold zlr;cases hf:numF ws with
 |none=>
  rw[hf]at hn;obtain⟨H',h1,h2⟩:=hn;rw[zbM h1]at hrun;exact⟨H',hrun,h2⟩
 |some v=>
  rw[hf]at hn;obtain⟨H',wv',h1,h2,h3,h4⟩:=hn;have hb:=numF_bd hf;rw[zbL h1]at hrun;have ht':Vec H' 1 tv ts.length (i64s ts):=ht.keep h4 fun j hj q=>htp (by rw[q]at hj;exact hj);have hl:=fun (α:Type) (k:Value→Option α)=>zbe h2.rd (0+2) tv rfl k;dsimp only;by_cases hv:1≤v∧v≤ts.length
  ·rw[if_pos hv];have e1:¬(v<1):=by omega
   have e2:¬(v>(ts.length:Int)):=by omega
   have e3:IntKind.i64.wrap (v-1)=(((v-1).toNat:Nat):Int):=by rw[w64 (by omega) (by omega)];omega
   have hi:(v-1).toNat<ts.length:=by omega
   obtain⟨y,hy,⟨rest,hg⟩,hix⟩:=ht'.ix hi;refine⟨H',wv',hrun.trans ?_,h2,h3,h4⟩
   have hld:=fun (α:Type) (k:Value→Option α)=>zbe hg ((v-1).toNat*1) (.int .i64 (ts.getD (v-1).toNat 0)) (by
    rw[Nat.mul_one,List.getElem?_append_left (by simpa[i64s] using hi)]
    rw[i64s,List.getElem?_map,getD_eq_getElem?_getD,List.getElem?_eq_getElem hi];rfl) k
   simp only[za3,zac,s_br,e1,decide_false,Bool.false_eq_true,if_false,zbg,zaI,hl,ht'.len,zci,e2,zc0,e3,hix,hld]
  ·rw[if_neg hv];refine⟨H',hrun.trans ?_,h4⟩;by_cases e1:v<1
   ·simp only[za3,zac,s_br,e1,decide_true,if_true,zcm]
   ·have e2:(v>(ts.length:Int)):=by omega
    simp only[za3,zac,s_br,e1,decide_false,decide_true,Bool.false_eq_true,if_false,if_true,zbg,zaI,hl,ht'.len,zci,e2,zcm]
section
variable {α:Type}
theorem sl_arr{H:Hp}{a n sz i j:Nat}{cs:List Value}(hg:H.get a=some (.cells cs true))(hn:n*sz≤cs.length)(hi:i≤j)(hj:j≤n){lo hi':Option Value}(hlo:zcU 0 lo=some (i:Int))(hhi:zcU n hi'=some (j:Int))(k:Value→Option α) :
  zck n sz (.pointer (some ⟨a,0,none⟩)) lo hi' H k=k (.slice (some ⟨a,i*sz,some sz⟩) (j-i) (n-i)):=by
 have:ziv n sz (.pointer (some ⟨a,0,none⟩)) lo hi' H=some (.slice (some ⟨a,i*sz,some sz⟩) (j-i) (n-i)):=by
  unfold ziv;dsimp only;rw[hg];dsimp only;rw[hlo,hhi];dsimp only;rw[if_pos ⟨by omega,by omega,by omega,by omega⟩];have e1:((j:Int)-(i:Int)).toNat=j-i:=by omega
  rw[e1,Int.toNat_natCast,Nat.zero_add]
 unfold zck;rw[this]
theorem zkW:∀l:List UInt8,zgu (bv l)=some l
 |[]=>rfl
 |b::l=>by show (match zgu (bv l) with|some l=>some (UInt8.ofNat ((b.toNat:Int)).toNat::l)|none=>none)=_;rw[zkW l];simp
theorem to_str{H:Hp}{a i n c:Nat}{l:List UInt8}{own:Bool}(hg:H.get a=some (.cells (bv l) own))(hn:i+n≤l.length)(k:Value→Option α) :
  zed (.slice (some ⟨a,i,some 1⟩) n c) H k=k (.string (ba ((l.drop i).take n))):=by
 have hs:zbK 1 (.slice (some ⟨a,i,some 1⟩) n c) H=some (n,bv ((l.drop i).take n)):=by unfold zbK;dsimp only;rw[if_pos rfl,hg];dsimp only;rw[if_pos (by rw[zg4];omega),Nat.mul_one];congr 2;unfold bv;rw[map_take,map_drop]
 have:zl3 (.slice (some ⟨a,i,some 1⟩) n c) H=some (.string (ba ((l.drop i).take n))):=by unfold zl3;dsimp only;rw[hs];dsimp only;rw[zkW]
 unfold zed;rw[this]
theorem zlK{a o n c i:Nat}(h:i<n)(k:Value→Option α):pIdx 1 (.slice (some ⟨a,o,some 1⟩) n c) (.int .i64 (i:Int)) k=k (.pointer (some ⟨a,o+i,none⟩)):=by
 have:idxV 1 (.slice (some ⟨a,o,some 1⟩) n c) (.int .i64 (i:Int))=some (.pointer (some ⟨a,o+i,none⟩)):=by unfold idxV;dsimp only;rw[if_pos ⟨rfl,by omega,by omega⟩,Int.toNat_natCast,Nat.mul_one]
 unfold pIdx;rw[this]
end
theorem dig_dec{d:Nat}(h:d<10):(dig d).toNat=48+d:=by unfold dig;rw[if_pos h];simp[UInt8.toNat_ofNat];omega
theorem c_base10{H:Hp}{a:Nat}{l:List UInt8}(hg:H.get a=some (.cells (bv l) true))(hl:l.length=24){x:Nat}(h0:100≤x)(h1:x<1000) :
  ∃r H',RR A0 [.slice (some ⟨a,0,some 1⟩) 3 24,.int .u64 (x:Int)] H=some (r,H')∧H'.get a=some (.cells (bv (((l.set 2 (dig (x%100%10))).set 1 (dig (x%100/10))).set 0 (dig (x/100)))) true)∧H'.next=H.next∧H'.ty=H.ty∧∀k,k≠a→H'.get k=H.get k:=by
 have hd:x%100<100:=Nat.mod_lt _ (by decide);obtain⟨p1,p2,_⟩:=zl7 hd;have hr:=(zc5 E0 rfl (.slice (some ⟨a,0,some 1⟩) 3 24) (.int .u64 (x:Int)) H).trans (zc7 _ _ _ _);have hloop:zat (zaX RR (.slice (some ⟨a,0,some 1⟩) 3 24)) [.int .u64 (x:Int),.int .i64 3] H=some (.exit 0,[.int .u64 (x:Int),.int .i64 3],H):=by
  rw[zak];have:zaX RR (.slice (some ⟨a,0,some 1⟩) 3 24) [.int .u64 (x:Int),.int .i64 3] H=some (.exit 0,[.int .u64 (x:Int),.int .i64 3],H):=by unfold zaX;simp only[qg0,qg1];rw[zcQ,zac,s_br,if_neg (by decide)]
  rw[this];rfl
 have hlen:pLen (α:=Value×Hp) .sl (.slice (some ⟨a,0,some 1⟩) 3 24) H=fun k=>k (.int .i64 3):=rfl;rw[hlen]at hr;dsimp only at hr;rw[hloop,zap,za6,zay]at hr;simp only[qg0,qg1]at hr;have n2:∀(T:TypeId) {α:Type} (k:Value→Option α),pBin PP .sub T (.int .i64 3) (.int .i64 1) k=k (.int .i64 ((2:Nat):Int)):=fun T _ k=>rfl;have n1:∀(T:TypeId) {α:Type} (k:Value→Option α),pBin PP .sub T (.int .i64 3) (.int .i64 2) k=k (.int .i64 ((1:Nat):Int)):=fun T _ k=>rfl;rw[ziN,q_u32 (by omega) (by omega),zcQ,zac,s_br,if_neg (by decide),zap,zaN]at hr;simp only[qg0,qg1]at hr
 rw[zcQ,zac,s_br,if_pos (by decide),show (Value.int .u32 100)=.int .u32 ((100:Nat):Int) from rfl,q_rem _ _ _ _ (by decide),show (Value.int .u32 2)=.int .u32 ((2:Nat):Int) from rfl,t_mul _ _ _ (by omega),t_quo _ _ _ (by decide) (by omega),n2,n1,
  show (Value.int .u32 1)=.int .u32 ((1:Nat):Int) from rfl,t_add _ _ _ (by omega)]at hr
 have q1:=f_at zdS .u32 _ _ p2 (α:=Value×Hp);have q2:=f_at zdS .u32 _ _ p1 (α:=Value×Hp);unfold zdS at q1 q2;rw[q1,q2,zlK (by decide),Nat.zero_add,zis hg (by omega),zlK (by decide),Nat.zero_add]at hr;have hg2:(H.set a (some (.cells (bv (l.set 2 (dig (x%100%10)))) true))).get a=some (.cells (bv (l.set 2 (dig (x%100%10)))) true):=by rw[Hp.get_set,if_pos rfl]
 rw[zis hg2 (by simp;omega)]at hr;have hg3:((H.set a (some (.cells (bv (l.set 2 (dig (x%100%10)))) true))).set a (some (.cells (bv ((l.set 2 (dig (x%100%10))).set 1 (dig (x%100/10)))) true))).get a=some (.cells (bv ((l.set 2 (dig (x%100%10))).set 1 (dig (x%100/10)))) true):=by rw[Hp.get_set,if_pos rfl]
 have hq:x/100<10:=by omega
 rw[n1,zci,zac,s_br,if_pos (by decide),show (Value.int .u32 48)=.int .u32 ((48:Nat):Int) from rfl,t_add _ _ _ (by omega),ziN,q_u8 (by omega) (by omega),←dig_dec hq,
  show (Value.int .i64 0)=.int .i64 ((0:Nat):Int) from rfl,zlK (by decide),Nat.zero_add,zis hg3 (by simp;omega)]at hr
 refine⟨_,_,hr,?_,rfl,rfl,fun k hk=>?_⟩
 ·rw[Hp.get_set,if_pos rfl]
 ·rw[Hp.get_set,if_neg hk,Hp.get_set,if_neg hk,Hp.get_set,if_neg hk]
structure New(H H':Hp):Prop where
 next:H.next≤H'.next
 get:∀k,k<H.next→H'.get k=H.get k
 ty:∀k,k<H.next→H'.ty k=H.ty k
theorem New.refl(H:Hp):New H H:=⟨Nat.le_refl _,fun _ _=>rfl,fun _ _=>rfl⟩
theorem new_new(H:Hp)(o:AObj):New H (H.new o):=⟨Nat.le_succ _,fun k hk=>by rw[get_new,if_neg (by omega)],fun _ _=>rfl⟩
theorem Tabs.new{H H':Hp}(h:Tabs H)(k:New H H')(hn:PP.globals.size≤H.next):Tabs H':=by have e:∀g,g<PP.globals.size→H'.get g=H.get g:=fun g hg=>k.get g (by omega);exact⟨by rw[e _ (by rw[zfM];decide)];exact h.pow,by rw[e _ (by rw[zfM];decide)];exact h.spc,by rw[e _ (by rw[zfM];decide)];exact h.bru⟩
theorem c_fmt10{H:Hp}(hT:Tabs H)(hn:PP.globals.size≤H.next){x:Nat}(h1:x<1000):∃H',RR A1 [.int .u64 (x:Int),.int .i64 10] H=some (.string (ba (dgt 10 x)),H')∧New H H':=by
 have key:∃H',RR Bn [.int .u64 (x:Int),.int .i64 10] H=some (.string (ba (dgt 10 x)),H')∧New H H':=by
  have hr:=zb1 E0 rfl (.int .u64 (x:Int)) (.int .i64 10) H;unfold zbk at hr;rw[zaO,zac,s_br,if_pos (by decide),za3,zac,s_br]at hr;by_cases h:x<100
  ·rw[if_pos (by simp;omega),ziN,zh2 (by omega) (by omega),zae (c_small h H)]at hr;exact⟨H,hr,New.refl _⟩
  ·rw[if_neg (by simp;omega)]at hr;have ha:∀{α:Type} (k:Value→Hp→Option α),zcI [.int .u8 0,.int .u8 0,.int .u8 0,.int .u8 0,.int .u8 0,.int .u8 0,.int .u8 0,.int .u8 0,.int .u8 0,.int .u8 0,.int .u8 0,.int .u8 0,.int .u8 0,.int .u8 0,.int .u8 0,.int .u8 0,.int .u8 0,.int .u8 0,.int .u8 0,.int .u8 0,.int .u8 0,.int .u8 0,.int .u8 0,.int .u8 0] H k=k (.pointer (some ⟨H.next,0,none⟩)) (H.new (.cells (bv (List.replicate 24 0)) true)):=fun k=>rfl;have hg:(H.new (.cells (bv (List.replicate 24 0)) true)).get H.next=some (.cells (bv (List.replicate 24 0)) true):=by rw[get_new,if_pos rfl]
   have hT1:=hT.new (new_new H (.cells (bv (List.replicate 24 0)) true)) hn;obtain⟨r,H2,e2,g2,n2,y2,f2⟩:=c_base10 hg (by simp) (show 100≤x by omega) h1;rw[ha,zae (zop hT1 (by omega) h1),sl_arr hg (i:=0) (j:=3) (by rw[zg4];simp) (by decide) (by decide) rfl rfl]at hr;have e2':RR A0 [.slice (some ⟨H.next,0*1,some 1⟩) (3-0) (24-0),.int .u64 (x:Int)] (H.new (.cells (bv (List.replicate 24 0)) true))=some (r,H2):=e2;rw[zae e2',sl_arr g2 (i:=0) (j:=3) (by rw[zg4];simp) (by decide) (by decide) rfl rfl,to_str g2 (by simp)]at hr;refine⟨H2,hr.trans ?_,⟨by rw[n2];exact Nat.le_succ _,fun k hk=>by rw[f2 k (by omega),get_new,if_neg (by omega)],fun k hk=>by rw[y2];rfl⟩⟩;have e3:dgt 10 x=[dig (x/100),dig (x%100/10),dig (x%100%10)]:=by rw[zm5 (by decide) (by omega),zm5 (by decide) (show 10≤x/10 by omega),zm4 (show x/10/10<10 by omega)];rw[show x/10/10=x/100 by omega,show x/10%10=x%100/10 by omega,show x%100%10=x%10 by omega];rfl
   rw[e3];rfl
 obtain⟨H',e,f⟩:=key;exact⟨H',(zdv E0 rfl _ _ _).trans (by unfold zcv;rw[zae e]),f⟩
theorem zov{u:Nat}(h:u<18446744073709551616):Value.int .u64 (u:Int)=wv (BitVec.ofNat 64 u):=by unfold wv;rw[BitVec.toNat_ofNat,Nat.mod_eq_of_lt h]
theorem and15{α:Type}(T:TypeId){u:Nat}(h:u<18446744073709551616)(k:Value→Option α):pBin PP .and T (.int .u64 (u:Int)) (.int .u64 15) k=k (.int .u64 ((u%16:Nat):Int)):=by
 have e:(BitVec.ofNat 64 u&&&15#64)=BitVec.ofNat 64 (u%16):=BitVec.eq_of_toNat_eq (by
  rw[BitVec.toNat_and];simp only[BitVec.toNat_ofNat];rw[Nat.mod_eq_of_lt h,Nat.mod_eq_of_lt (show u%16<2^64 by omega),show 15%2^64=15 from rfl]
  exact Nat.and_two_pow_sub_one_eq_mod u 4)
 rw[zov h,show (Value.int .u64 15)=wv 15#64 from rfl,b_and,e,←zov (by omega)]
theorem shr4{α:Type}(T:TypeId){u:Nat}(h:u<18446744073709551616)(k:Value→Option α):pBin PP .shr T (.int .u64 (u:Int)) (.int .u64 4) k=k (.int .u64 ((u/16:Nat):Int)):=by
 have e:(BitVec.ofNat 64 u) >>> 4=BitVec.ofNat 64 (u/16):=BitVec.eq_of_toNat_eq (by
  rw[zlb,BitVec.toNat_ofNat,BitVec.toNat_ofNat,Nat.mod_eq_of_lt h,Nat.mod_eq_of_lt (show u/16<2^64 by omega)])
 rw[zov h,show (Value.int .u64 4)=.int .u64 ((4:Nat):Int) from rfl,zng,e,←zov (by omega)]
theorem zoL{l:List UInt8}{i:Nat}(hi:i<l.length)(d:UInt8):(l.set i d).drop i=d::l.drop (i+1):=by
 apply ext_getElem?;intro j;rw[List.getElem?_drop,List.getElem?_set];cases j with
 |zero=>simp[hi]
 |succ j=>rw[if_neg (by omega),List.getElem?_cons_succ,List.getElem?_drop];congr 1;omega
theorem fb_loop{A:Nat}{g:List UInt8}:∀(n u i:Nat) (l:List UInt8) (H:Hp),u<16^n→0<n→u<18446744073709551616→n≤i→i≤65→l.length=65→H.get A=some (.cells (bv l) true)→dgt 16 u++l.drop i=g →
  ∃u' i' l' H',zat (zaw RR (.int .u64 4) (.int .u64 16) (.int .u64 15) (.pointer (some ⟨A,0,none⟩))) [.int .u64 (u:Int),.int .i64 (i:Int)] H=some (.exit 0,[.int .u64 (u':Nat),.int .i64 ((i':Nat):Int)],H') ∧
   u'<16∧1≤i'∧i'≤65∧l'.length=65∧H'.get A=some (.cells (bv l') true)∧[dig u']++l'.drop i'=g∧H'.next=H.next∧H'.ty=H.ty∧∀k,k≠A→H'.get k=H.get k
 |0,u,i,l,H,h,h0,_,_,_,_,_,_=>by omega
 |n+1,u,i,l,H,h,_,hu,hni,hi,hl,hg,hd=>by
  rw[zak];by_cases hb:u<16
  ·have:zaw RR (.int .u64 4) (.int .u64 16) (.int .u64 15) (.pointer (some ⟨A,0,none⟩)) [.int .u64 (u:Int),.int .i64 (i:Int)] H=some (.exit 0,[.int .u64 (u:Int),.int .i64 (i:Int)],H):=by unfold zaw;simp only[qg0,qg1];rw[zcQ,zac,s_br,if_neg (by simp;omega)]
   rw[this];rw[zm4 hb]at hd;exact⟨u,i,l,H,rfl,hb,by omega,hi,hl,hg,hd,rfl,rfl,fun _ _=>rfl⟩
  ·have hm:u%16<36:=by omega
   have q1:=f_at zf1 .u64 _ _ (zlP hm).1 (α:=Outc);unfold zf1 at q1;have:zaw RR (.int .u64 4) (.int .u64 16) (.int .u64 15) (.pointer (some ⟨A,0,none⟩)) [.int .u64 (u:Int),.int .i64 (i:Int)] H=some (.next,[.int .u64 ((u/16:Nat):Int),.int .i64 ((i-1:Nat):Int)],H.set A (some (.cells (bv (l.set (i-1) (dig (u%16)))) true))):=by unfold zaw;simp only[qg0,qg1];rw[zcQ,zac,s_br,if_pos (by simp;omega),show (Value.int .i64 1)=.int .i64 ((1:Nat):Int) from rfl,i_sub _ _ _ (by omega) (by omega),and15 _ hu,q1,zjm (by omega),Nat.zero_add,Nat.mul_one,zis hg (by omega),shr4 _ hu]
   rw[this];have hn:0<n:=by
    rcases Nat.eq_zero_or_pos n with q|q
    ·subst q;simp at h;omega
    ·exact q
   have hlt:u/16<16^n:=Nat.div_lt_of_lt_mul (by rw[Nat.pow_succ,Nat.mul_comm]at h;exact h);obtain⟨u',i',l',H',e,f1,f2,f3,f4,f5,f6,f7,f8,f9⟩:=fb_loop (g:=g) n (u/16) (i-1) (l.set (i-1) (dig (u%16))) (H.set A (some (.cells (bv (l.set (i-1) (dig (u%16)))) true))) hlt hn (by omega) (by omega) (by omega) (by simp[hl]) (by rw[Hp.get_set,if_pos rfl])
    (by rw[zoL (by omega),show i-1+1=i by omega,←hd,zm5 (by decide) (show 16≤u by omega),append_assoc];rfl)
   exact⟨u',i',l',H',e,f1,f2,f3,f4,f5,f6,f7,f8,fun k hk=>by rw[f9 k hk,Hp.get_set,if_neg hk]⟩
theorem c_tz{H:Hp}(hT:Tabs H):RR BM [.int .u64 16] H=some (.int .i64 4,H):=by
 obtain⟨cs,e,fz,hg,hc⟩:=hT.bru;have h64:RR BN [.int .u64 16] H=some (.int .i64 4,H):=by
  refine(zfa E0 rfl _ _).trans ?_;have hx:zcV RR (.int .u64 16) H=(zcu 64 1 (.pointer (some ⟨AJ,0,none⟩)) (.int .u64 15) fun p7=>zal 1 false H p7 fun v8=>zaj .i64 v8 fun v9=>some (v9,H)):=by kernel_rfl
  rw[hx,show (Value.int .u64 15)=.int .u64 ((15:Nat):Int) from rfl,zjm (by decide),ld_fix hg hc];rfl
 refine(zfL E0 rfl _ _).trans ?_;unfold zdA;rw[zae h64]
theorem c_bits16{H:Hp}(hT:Tabs H)(hn:PP.globals.size≤H.next){x:Nat}(hx:x<18446744073709551616):∃H',RR Bo [.slice none 0 0,.int .u64 (x:Int),.int .i64 16,.bool false,.bool false] H=some (.tuple #[.slice none 0 0,.string (ba (dgt 16 x))],H')∧New H H':=by
 have hr:=(zdo E0 rfl (.slice none 0 0) (.int .u64 (x:Int)) (.int .i64 16) (.bool false) (.bool false) H).trans (zdr _ _ _ _ _ _ _);rw[za3,zac,s_br,if_neg (by decide),zaO,zac,s_br,if_neg (by decide),zci,zac,s_br,if_neg (by decide),zap,zaN]at hr;have ha:∀{α:Type} (k:Value→Hp→Option α),zcI [.int .u8 0,.int .u8 0,.int .u8 0,.int .u8 0,.int .u8 0,.int .u8 0,.int .u8 0,.int .u8 0,.int .u8 0,.int .u8 0,.int .u8 0,.int .u8 0,.int .u8 0,.int .u8 0,.int .u8 0,.int .u8 0,.int .u8 0,.int .u8 0,.int .u8 0,.int .u8 0,.int .u8 0,.int .u8 0,.int .u8 0,.int .u8 0,.int .u8 0,.int .u8 0,.int .u8 0,.int .u8 0,.int .u8 0,.int .u8 0,.int .u8 0,.int .u8 0,.int .u8 0,.int .u8 0,.int .u8 0,.int .u8 0,.int .u8 0,.int .u8 0,.int .u8 0,.int .u8 0,.int .u8 0,.int .u8 0,.int .u8 0,.int .u8 0,.int .u8 0,.int .u8 0,.int .u8 0,.int .u8 0,.int .u8 0,.int .u8 0,.int .u8 0,.int .u8 0,.int .u8 0,.int .u8 0,.int .u8 0,.int .u8 0,.int .u8 0,.int .u8 0,.int .u8 0,.int .u8 0,.int .u8 0,.int .u8 0,.int .u8 0,.int .u8 0,.int .u8 0] H k=k (.pointer (some ⟨H.next,0,none⟩)) (H.new (.cells (bv (List.replicate 65 0)) true)):=fun k=>rfl;have hg:(H.new (.cells (bv (List.replicate 65 0)) true)).get H.next=some (.cells (bv (List.replicate 65 0)) true):=by rw[get_new,if_pos rfl]
 have hT1:=hT.new (new_new H (.cells (bv (List.replicate 65 0)) true)) hn;have hp2:RR BX [.int .i64 16] (H.new (.cells (bv (List.replicate 65 0)) true))=some (.bool true,H.new (.cells (bv (List.replicate 65 0)) true)):=(zc4 E0 rfl _ _).trans (by kernel_rfl);have hc:∀{α:Type} (k:Value→Option α),zaj .u64 (.int .i64 16) k=k (.int .u64 16):=fun k=>rfl;have hc4:∀{α:Type} (k:Value→Option α),zaj .u64 (.int .i64 4) k=k (.int .u64 4):=fun k=>rfl;have hm:∀{α:Type} (k:Value→Option α),pBin PP .sub Cg (.int .u64 16) (.int .u64 1) k=k (.int .u64 15):=fun k=>rfl;obtain⟨u',i',l',H2,e2,f1,f2,f3,f4,f5,f6,f7,f8,f9⟩:=fb_loop (g:=dgt 16 x) 64 x 65 (List.replicate 65 0) _ (by omega) (by decide) hx (by decide) (by decide) (by simp) hg (by simp);have e2:zat (zaw RR (.int .u64 4) (.int .u64 16) (.int .u64 15) (.pointer (some ⟨H.next,0,none⟩))) [.int .u64 (x:Int),.int .i64 65] (H.new (.cells (bv (List.replicate 65 0)) true))=_:=e2;have q1:=f_at zf1 .u64 _ _ (zlP (show u'<36 by omega)).1 (α:=Value×Hp);unfold zf1 at q1;rw[ha,zac,q_brf,zap,zaN,zae hp2,zac,q_brt,hc,zae (c_tz hT1),hc4,hc,hc,hm]at hr;simp only[qg0]at hr;rw[e2,zap,za6,zay]at hr;simp only[qg0,qg1]at hr;have hg3:(H2.set H.next (some (.cells (bv (l'.set (i'-1) (dig u'))) true))).get H.next=some (.cells (bv (l'.set (i'-1) (dig u'))) true):=by rw[Hp.get_set,if_pos rfl]
 rw[show (Value.int .i64 1)=.int .i64 ((1:Nat):Int) from rfl,i_sub _ _ _ (by omega) (by omega),q1,zjm (by omega),Nat.zero_add,Nat.mul_one,zis f5 (by omega),zac,q_brf,zac,q_brf,
  sl_arr hg3 (i:=i'-1) (j:=65) (by rw[zg4];simp;omega) (by omega) (by decide) rfl rfl,Nat.mul_one,to_str hg3 (by simp;omega)]at hr
 refine⟨H2.set H.next (some (.cells (bv (l'.set (i'-1) (dig u'))) true)),hr.trans ?_,⟨by show H.next≤H2.next;rw[f7];exact Nat.le_succ _,fun k hk=>by rw[Hp.get_set,if_neg (by omega),f9 k (by omega),get_new,if_neg (by omega)],fun k hk=>by show H2.ty k=_;rw[f8];rfl⟩⟩;rw[zoL (by omega),show i'-1+1=i' by omega,take_of_length_le (by simp;omega),←f6];rfl
theorem c_fmt16{H:Hp}(hT:Tabs H)(hn:PP.globals.size≤H.next){x:Nat}(hx:x<18446744073709551616):∃H',RR A1 [.int .u64 (x:Int),.int .i64 16] H=some (.string (ba (dgt 16 x)),H')∧New H H':=by
 obtain⟨H',e,f⟩:=c_bits16 hT hn hx;have key:RR Bn [.int .u64 (x:Int),.int .i64 16] H=some (.string (ba (dgt 16 x)),H'):=by refine(zb1 E0 rfl _ _ _).trans ?_;unfold zbk;rw[zaO,zac,s_br,if_neg (by decide),zae e,q_ext0,q_ext1]
 exact⟨H',(zdv E0 rfl _ _ _).trans (by unfold zcv;rw[zae key]),f⟩
theorem c_text{H:Hp}(hT:Tabs H)(hn:PP.globals.size≤H.next){x:Nat}(hx:x<18446744073709551616):∃H',RR Bd [.int .u64 (x:Int)] H=some (.string (ba (numT x)),H')∧New H H':=by
 have hr:=znK E0 rfl (.int .u64 (x:Int)) H;unfold zjg at hr;rw[za3,zac,s_br]at hr;unfold numT;by_cases h:x<1000
 ·obtain⟨H',e,f⟩:=c_fmt10 hT hn h;rw[if_pos (by simp;omega),zae e]at hr;rw[if_pos h];exact⟨H',hr,f⟩
 ·obtain⟨H',e,f⟩:=c_fmt16 hT hn hx;rw[if_neg (by simp;omega),zae e]at hr;rw[if_neg h];have hl:=zlQ (b:=16) (by decide) 16 x (by omega) (by decide);have hcat:pBin (α:=Value×Hp) PP .add Ac (.string ⟨#[48,120]⟩) (.string (ba (dgt 16 x)))=fun k=>k (.string (ba ([48,120]++dgt 16 x))):=funext fun k=>zoO _ [48,120] _ (by simp;omega) k;rw[hcat]at hr;exact⟨H',hr,f⟩
end Go.AM
namespace Go.AM
open Go
theorem bld{α:Type}{P:Program}{t:TypeId}{l:List (Nat×Value)}{v:Value}(h:zg5 P t l=some v)(k:Value→Option α):zaB P t l k=k v:=by unfold zaB;rw[h]
section
variable {α:Type}(k:Value→Option α)
theorem b0(o:Int):zaB PP Ao [(0,.int .i64 o)] k=k (Nd.val ⟨o,0,0,0,0,0,⟨#[]⟩⟩):=bld (by kernel_rfl) k
end
abbrev Res:=Int×Int×List Nd×List (ByteArray×Int)
def Does(H:Hp)(p:Nat)(lim:Int)(sl:Value)(f g:Nat)(fn:FuncId)(args:List Value)(r:Res):Prop:=
 ∃H' sl',RR fn (.pointer (some ⟨p,0,none⟩)::args) H=some (.tuple #[.int .i64 r.1,.int .i64 r.2.1],H')∧MkOk H p lim sl f g r H' sl'
structure znn(L:List Nd):Prop where
 w:∀m∈L,0≤m.w∧m.w≤64
 l:(L.length+1)*64≤2^47
theorem znn.len{L:List Nd}(h:znn L):(L.length:Int)≤4611686018427387904:=by have:=h.l;omega
section
variable {H:Hp}{p f g:Nat}{lim:Int}{L:List Nd}{K:List (ByteArray×Int)}{sl:Value}(h:StF H p lim L K sl f g)(hR:znn L)
include h hR
theorem d22(n:Nd)(hn:0≤n.num∧n.num<18446744073709551616):Does H p lim sl f g Au [n.val] (mkR lim L K n):=c22 h n hn hR.w hR.l
end
theorem spl7{α:Type}(n:Nd)(k:List Value→Option α):zaV 7 [.int .i64 0,.int .i64 0,.int .i64 0,.int .i64 0,.int .i64 0,.int .u64 0,.string ⟨#[]⟩] 0 n.val k=k n.cells:=by
 have:za8 7 [.int .i64 0,.int .i64 0,.int .i64 0,.int .i64 0,.int .i64 0,.int .u64 0,.string ⟨#[]⟩] 0 n.val=some n.cells:=by kernel_rfl
 unfold zaV;rw[this]
theorem zfT{α:Type}(n:Nd)(k:Value→Option α):zai 1 false n.cells 1 k=k (.int .i64 n.w):=zd8 _ 1 _ rfl k
section
end
section
end
section
end
theorem new61{α:Type}(lim:Int)(v w:Nat)(k:Value→Option α):zaB PP Az [(0,.int .i64 lim),(2,.map (some v)),(3,.map (some w))] k=k (.agg #[.int .i64 lim,.slice none 0 0,.map (some v),.map (some w)]):=bld (by kernel_rfl) k
def newH(lim:Int)(H:Hp):Hp:=((H.new (.map [])).new (.map [])).new (.cells [.int .i64 lim,.slice none 0 0,.map (some H.next),.map (some (H.next+1))] true)
theorem newH_st(lim:Int)(H:Hp):StF (newH lim H) (H.next+2) lim [] [] (.slice none 0 0) H.next (H.next+1):=by
 refine⟨⟨?_,.inl ⟨rfl,rfl⟩⟩,?_,?_,by omega,by omega,by omega,?_,?_,?_,fun i hi=>by cases hi⟩
 ·exact if_pos rfl
 ·unfold newH;rw[zgY,if_neg (by show ¬H.next=H.next+1+1;omega),zgY,if_neg (by show ¬H.next=H.next+1;omega),zgY,if_pos rfl];rfl
 ·unfold newH;rw[zgY,if_neg (by show ¬H.next+1=H.next+1+1;omega),zgY];exact if_pos rfl
 ·show H.next+2<H.next+1+1+1;omega
 ·show H.next<H.next+1+1+1;omega
 ·show H.next+1<H.next+1+1+1;omega
theorem zlz(lim:Int)(H:Hp)(j:Nat)(hj:j<H.next):(newH lim H).get j=H.get j:=by unfold newH;rw[zgY,if_neg (by show ¬j=H.next+1+1;omega),zgY,if_neg (by show ¬j=H.next+1;omega),zgY,if_neg (by omega)]
theorem zi5(lim:Int)(H:Hp):(newH lim H).next=H.next+3:=rfl
theorem c16(lim:Int)(H:Hp):RR AU [.int .i64 lim] H=if lim<0 then some (.tuple #[.pointer none,.int .i64 1],H) else some (.tuple #[.pointer (some ⟨H.next+2,0,none⟩),.int .i64 0],newH lim H):=by refine(zpW E0 rfl _ _).trans ?_;unfold zkA;simp only[za3,zac,s_br,decide_eq_true_eq,zbY,zcI,new61];rfl
def Foot(p f g:Nat)(sl:Value)(i:Nat):Prop:=i=p∨i=f∨i=g∨slId sl=some i
theorem StF.foot_lt{H:Hp}{p f g:Nat}{lim:Int}{L:List Nd}{K:List (ByteArray×Int)}{sl:Value}(h:StF H p lim L K sl f g){i:Nat}(hi:Foot p f g sl i):i<H.next:=by
 rcases hi with rfl|rfl|rfl|hi
 ·exact h.lp
 ·exact h.lf
 ·exact h.lg
 ·exact(h.sa i hi).2.2.2
theorem StF.keep{H H':Hp}{p f g:Nat}{lim:Int}{L:List Nd}{K:List (ByteArray×Int)}{sl:Value}(h:StF H p lim L K sl f g)(hg:∀i,Foot p f g sl i→H'.get i=H.get i)(hn:H.next≤H'.next):StF H' p lim L K sl f g:=by
 refine⟨⟨?_,?_⟩,?_,?_,h.pf,h.pg,h.fg,Nat.lt_of_lt_of_le h.lp hn,Nat.lt_of_lt_of_le h.lf hn,Nat.lt_of_lt_of_le h.lg hn,fun i hi=>?_⟩
 ·rw[hg p (.inl rfl)];exact h.st.obj
 ·rcases h.st.all with e|⟨j,e,hj⟩
  ·exact .inl e
  ·exact .inr ⟨j,e,by rw[hg j (.inr (.inr (.inr (by rw[e];rfl))))];exact hj⟩
 ·rw[hg f (.inr (.inl rfl))];exact h.fm
 ·rw[hg g (.inr (.inr (.inl rfl)))];exact h.gm
 ·obtain⟨a,b,c,d⟩:=h.sa i hi;exact⟨a,b,c,Nat.lt_of_lt_of_le d hn⟩
theorem MkOk.foot{H H':Hp}{p f g:Nat}{lim:Int}{sl sl':Value}{r:Res}(h:MkOk H p lim sl f g r H' sl'){i:Nat}(hi:Foot p f g sl' i):Foot p f g sl i∨H.next≤i:=by
 rcases hi with e|e|e|e
 ·exact .inl (.inl e)
 ·exact .inl (.inr (.inl e))
 ·exact .inl (.inr (.inr (.inl e)))
 ·exact(h.own i e).imp (fun q=>.inr (.inr (.inr q))) id
theorem MkOk.same{H H':Hp}{p f g:Nat}{lim:Int}{sl sl':Value}{r:Res}(h:MkOk H p lim sl f g r H' sl'){i:Nat}(hl:i<H.next)(hi:¬Foot p f g sl i):H'.get i=H.get i:=
 h.frame i hl (fun e=>hi (.inl e)) (fun e=>hi (.inr (.inl e))) (fun e=>hi (.inr (.inr (.inl e)))) (fun e=>hi (.inr (.inr (.inr e))))
end Go.AM
namespace Go.AM
open List Go
structure Inv(lim:Int)(L:List Nd):Prop where
 w:∀m∈L,0≤m.w∧m.w≤64
 parts:∀(i:Nat) m,L[i]?=some m→m.a≤i∧m.b≤i∧m.c≤i
 nod:∀(i j:Nat) m,L[i]?=some m→L[j]?=some m→i=j
 lim:lim>0→(L.length:Int)≤lim
theorem Inv.nil(lim:Int):Inv lim []:=⟨fun m h=>(by cases h),fun i m h=>(by cases h),fun i j m h=>(by cases h),fun h=>by simp;omega⟩
theorem zi4(n m:Nd):zkq n m=true↔n=m:=by cases n;cases m;unfold zkq;simp[zg8]
theorem zfi(n:Nd):∀(L:List Nd) (i q:Nat),zbw n i L=some q→i≤q∧L[q-i]?=some n
 |[],i,q,h=>by cases h
 |m::r,i,q,h=>by
  unfold zbw at h;split at h
  ·rename_i e;cases h;have:=(zi4 n m).1 e;subst this;exact⟨Nat.le_refl _,by simp⟩
  ·obtain⟨h1,h2⟩:=zfi n r (i+1) q h;refine⟨by omega,?_⟩;rw[show q-i=(q-(i+1))+1 by omega];simpa using h2
theorem zec(n:Nd):∀(L:List Nd) (i:Nat),zbw n i L=none→∀(j:Nat),L[j]?≠some n
 |[],i,h,j,e=>by cases e
 |m::r,i,h,j,e=>by
  unfold zbw at h;split at h
  ·cases h
  ·rename_i ne;cases j with
   |zero=>simp at e;subst e;exact ne ((zi4 _ _).2 rfl)
   |succ j=>exact zec n r (i+1) h j (by simpa using e)
theorem zlL{L:List Nd}{m:Nd}{t:Int}(h:isT L t=true):isT (L++[m]) t=true:=by obtain⟨h1,h2⟩:=za7.1 h;exact za7.2 ⟨h1,by simp;omega⟩
theorem wT_app{L:List Nd}{m:Nd}{d t:Int}(h:isT L t=true∨t≤0):wT (L++[m]) d t=wT L d t:=by
 rcases h with h|h
 ·obtain⟨h1,h2⟩:=za7.1 h;unfold wT;rw[if_pos h,if_pos (zlL h),List.getElem?_append_left (by omega)]
 ·have e1:∀M:List Nd,isT M t=false:=fun M=>by
   cases e:isT M t with
   |false=>rfl
   |true=>have:=(za7.1 e).1;omega
  unfold wT;rw[if_neg (by rw[e1];decide),if_neg (by rw[e1];decide)]
theorem zcj(op:Int):zah op=0∨zah op=1∨zah op=2∨zah op=3:=by
 unfold zah;split
 ·exact .inl rfl
 ·split
  ·exact .inr (.inl rfl)
  ·split
   ·exact .inr (.inr (.inr rfl))
   ·exact .inr (.inr (.inl rfl))
theorem zlq{L:List Nd}{n:Nd}(h1:¬zbQ L n=true)(h2:¬zex (zah n.op) n=true) :
  (isT L n.a=true∨n.a=0)∧(isT L n.b=true∨n.b=0)∧(isT L n.c=true∨n.c=0)∧(zah n.op≥1→isT L n.a=true)∧(zah n.op≥2→isT L n.b=true)∧(zah n.op≥3→isT L n.c=true):=by
 unfold zbQ at h1;unfold zex at h2;simp only[Bool.or_eq_true,Bool.and_eq_true,decide_eq_true_eq,Bool.not_eq_true',not_or,not_and,Bool.not_eq_false]at h1 h2;have ha:zah n.op≥1→isT L n.a=true:=h1.1.1;have hb:zah n.op≥2→isT L n.b=true:=h1.1.2;have hc:zah n.op≥3→isT L n.c=true:=h1.2;refine⟨?_,?_,?_,ha,hb,hc⟩
 ·rcases Int.lt_or_le (zah n.op) 1 with q|q
  ·right;have:=h2.1.1.1.1 q;omega
  ·exact .inl (ha q)
 ·rcases Int.lt_or_le (zah n.op) 2 with q|q
  ·right;have:=h2.1.1.1.2 q;omega
  ·exact .inl (hb q)
 ·rcases Int.lt_or_le (zah n.op) 3 with q|q
  ·right;have:=h2.1.1.2 q;omega
  ·exact .inl (hc q)
theorem zhq(s t:ByteArray)(w:Int):∀(K:List (ByteArray×Int)) (i:Nat),za0 s i K=none→za0 s i (K++[(s,w)])=some (i+K.length,w)
 |[],i,h=>by
  show za0 s i [(s,w)]=_;unfold za0;rw[if_pos ((zg8 s s).2 rfl)];rfl
 |(u,v)::r,i,h=>by
  unfold za0 at h;split at h
  ·cases h
  ·rename_i ne;show za0 s i ((u,v)::(r++[(s,w)]))=_;unfold za0;rw[if_neg ne,zhq s t w r (i+1) h,length_cons];congr 2;omega
theorem zoq{K:List (ByteArray×Int)}{n:Nd}(h:zbl K n=false):zbl (zbx n.name n.w K) n=false:=by
 unfold zbx;cases hq:za0 n.name 0 K with
 |some q=>exact h
 |none=>
  unfold zbl at h ⊢;rw[hq]at h;rw[zhq n.name n.name n.w K 0 hq];simpa using h
structure zhz(L:List Nd)(K:List (ByteArray×Int))(n:Nd):Prop where
 op:¬(n.op<1∨n.op>33)
 w:¬(n.w<0∨n.w>64)
 pt:¬zbQ L n=true
 sp:¬zex (zah n.op) n=true
 so:¬zbC n.op (wT L (-1) n.a) (wT L (-1) n.b) (wT L (-1) n.c)=false
 wi:¬zbB n (wT L (-1) n.a) (wT L (-1) n.b)=false
 nm:¬(n.op=4∧zbl K n=true)
theorem zgD{L:List Nd}{K:List (ByteArray×Int)}{n:Nd}:zc9 L K n=0↔zhz L K n:=by
 constructor
 ·intro h;unfold zc9 at h;split at h
  ·cases h
  ·split at h
   ·cases h
   ·split at h
    ·cases h
    ·split at h
     ·cases h
     ·split at h
      ·cases h
      ·split at h
       ·cases h
       ·split at h
        ·cases h
        ·constructor<;>assumption
 ·rintro⟨h1,h2,h3,h4,h5,h6,h7⟩
  unfold zc9;rw[if_neg h1,if_neg h2,if_neg h3,if_neg h4,if_neg h5,if_neg h6,if_neg h7]
theorem zhz.app{L:List Nd}{K K':List (ByteArray×Int)}{n m:Nd}(h:zhz L K n)(hk:n.op=4→zbl K' n=false):zhz (L++[m]) K' n:=by
 obtain⟨ga,gb,gc,ha,hb,hc⟩:=zlq h.pt h.sp;have ea:=wT_app (m:=m) (d:=-1) (ga.imp id (fun e=>by omega):isT L n.a=true∨n.a≤0);have eb:=wT_app (m:=m) (d:=-1) (gb.imp id (fun e=>by omega):isT L n.b=true∨n.b≤0);have ec:=wT_app (m:=m) (d:=-1) (gc.imp id (fun e=>by omega):isT L n.c=true∨n.c≤0);refine⟨h.op,h.w,?_,h.sp,?_,?_,fun q=>?_⟩
 ·intro q;unfold zbQ at q;simp only[Bool.or_eq_true,Bool.and_eq_true,decide_eq_true_eq,Bool.not_eq_true']at q;rcases q with (⟨q1,q2⟩|⟨q1,q2⟩)|⟨q1,q2⟩
  ·rw[zlL (ha q1)]at q2;cases q2
  ·rw[zlL (hb q1)]at q2;cases q2
  ·rw[zlL (hc q1)]at q2;cases q2
 ·rw[ea,eb,ec];exact h.so
 ·rw[ea,eb];exact h.wi
 ·rw[hk q.1]at q;cases q.2
theorem mk_no{lim:Int}{L:List Nd}{K:List (ByteArray×Int)}{n:Nd}(h:(mkR lim L K n).2.1≠0):mkR lim L K n=(0,(mkR lim L K n).2.1,L,K):=by
 unfold mkR at h ⊢;by_cases he:zc9 L K n≠0
 ·rw[if_pos he]
 ·rw[if_neg he]at h ⊢;cases hq:zbw n 0 L with
  |some q=>rw[hq]at h;exact absurd rfl h
  |none=>
   rw[hq]at h;dsimp only at h ⊢;split at h
   ·rename_i g;rw[if_pos g]
   ·exact absurd rfl h
theorem zi7{lim:Int}{L:List Nd}{K:List (ByteArray×Int)}{n:Nd}(h:(mkR lim L K n).2.1=0):zhz L K n ∧
  ((∃q,zbw n 0 L=some q∧mkR lim L K n=(((q+1:Nat):Int),0,L,K)) ∨
   (zbw n 0 L=none∧¬(lim>0∧(L.length:Int)≥lim)∧mkR lim L K n=(((L.length+1:Nat):Int),0,L++[n],if n.op=4 then zbx n.name n.w K else K))):=by
 unfold mkR at h ⊢;by_cases he:zc9 L K n≠0
 ·rw[if_pos he]at h;exact absurd h he
 ·rw[if_neg he]at h ⊢;refine⟨zgD.1 (by omega),?_⟩;cases hq:zbw n 0 L with
  |some q=>exact .inl ⟨q,rfl,rfl⟩
  |none=>
   rw[hq]at h;dsimp only at h ⊢;split at h
   ·cases h
   ·rename_i g;rw[if_neg g];exact .inr ⟨rfl,g,rfl⟩
theorem mk_bd{lim:Int}{L:List Nd}{K:List (ByteArray×Int)}{n:Nd}(h:(mkR lim L K n).2.1=0):1≤(mkR lim L K n).1∧(mkR lim L K n).1≤((mkR lim L K n).2.2.1.length:Int):=by
 obtain⟨hr,⟨q,hq,e⟩|⟨hq,_,e⟩⟩:=zi7 h
 ·rw[e];have:=(List.getElem?_eq_some_iff.1 (zfi n L 0 q hq).2).1;exact⟨by show (1:Int)≤((q+1:Nat):Int);omega,by show ((q+1:Nat):Int)≤(L.length:Int);omega⟩
 ·rw[e];exact⟨by show (1:Int)≤((L.length+1:Nat):Int);omega,by simp⟩
theorem mk_inv{lim:Int}{L:List Nd}{K:List (ByteArray×Int)}{n:Nd}(h:Inv lim L):Inv lim (mkR lim L K n).2.2.1:=by
 by_cases h0:(mkR lim L K n).2.1=0
 ·obtain⟨hr,⟨q,hq,e⟩|⟨hq,hl,e⟩⟩:=zi7 h0
  ·rw[e];exact h
  ·rw[e];obtain⟨ga,gb,gc,_,_,_⟩:=zlq hr.pt hr.sp;have bd:∀x:Int,isT L x=true∨x=0→x≤(L.length:Int):=fun x hx=>by
    rcases hx with hx|hx
    ·exact(za7.1 hx).2
    ·omega
   refine⟨fun m hm=>?_,fun i m hm=>?_,fun i j m hi hj=>?_,fun hp=>?_⟩
   ·rcases mem_append.1 hm with hm|hm
    ·exact h.w m hm
    ·rw[mem_singleton]at hm;subst hm;have:=hr.w;omega
   ·rw[List.getElem?_append]at hm;split at hm
    ·exact h.parts i m hm
    ·rename_i ge;have:i=L.length:=by have:=(List.getElem?_eq_some_iff.1 hm).1;simp at this;omega
     subst this;simp at hm;subst hm;exact⟨bd _ ga,bd _ gb,bd _ gc⟩
   ·have key:∀i:Nat,(L++[n])[i]?=some m→(i<L.length∧L[i]?=some m)∨(i=L.length∧m=n):=fun i hi=>by
     rw[List.getElem?_append]at hi;split at hi
     ·rename_i lt;exact .inl ⟨lt,hi⟩
     ·rename_i ge;have:i=L.length:=by have:=(List.getElem?_eq_some_iff.1 hi).1;simp at this;omega
      subst this;simp at hi;exact .inr ⟨rfl,hi.symm⟩
    rcases key i hi with⟨a1,a2⟩|⟨a1,a2⟩<;>rcases key j hj with⟨b1,b2⟩|⟨b1,b2⟩
    ·exact h.nod i j m a2 b2
    ·rw[b2]at a2;exact absurd a2 (zec n L 0 hq i)
    ·rw[a2]at b2;exact absurd b2 (zec n L 0 hq j)
    ·omega
   ·have:¬(L.length:Int)≥lim:=fun q=>hl ⟨hp,q⟩;simp;omega
 ·rw[mk_no h0];exact h
end Go.AM
namespace Go.AM
open Go
section
end
end Go.AM
namespace Go.AM
open List Go
def zco(n:Nd):List Nat:=([n.a,n.b,n.c].take (zah n.op).toNat).map Int.toNat
def kids(L:List Nd)(t:Nat):List Nat:=match L[t-1]? with
 |some n=>zco n
 |none=>[]
structure Dag(L:List Nd):Prop where
 a:∀(i:Nat) m,L[i]?=some m→(zah m.op≥1∧1≤m.a∧m.a≤i)∨(zah m.op<1∧m.a=0)
 b:∀(i:Nat) m,L[i]?=some m→(zah m.op≥2∧1≤m.b∧m.b≤i)∨(zah m.op<2∧m.b=0)
 c:∀(i:Nat) m,L[i]?=some m→(zah m.op≥3∧1≤m.c∧m.c≤i)∨(zah m.op<3∧m.c=0)
theorem Dag.nil:Dag []:=⟨fun i m h=>(by cases h),fun i m h=>(by cases h),fun i m h=>(by cases h)⟩
theorem zjO{L:List Nd}{n m:Nd}{i:Nat}(h:(L++[n])[i]?=some m):L[i]?=some m∨(i=L.length∧m=n):=by
 rw[List.getElem?_append]at h;split at h
 ·exact .inl h
 ·have:i=L.length:=by have:=(List.getElem?_eq_some_iff.1 h).1;simp at this;omega
  subst this;simp at h;exact .inr ⟨rfl,h.symm⟩
theorem mk_dag{lim:Int}{L:List Nd}{K:List (ByteArray×Int)}{n:Nd}(h:Dag L):Dag (mkR lim L K n).2.2.1:=by
 by_cases h0:(mkR lim L K n).2.1=0
 ·obtain⟨hr,⟨q,hq,e⟩|⟨hq,hl,e⟩⟩:=zi7 h0
  ·rw[e];exact h
  ·rw[e];have h1:=hr.pt;have h2:=hr.sp;unfold zbQ at h1;unfold zex at h2;simp only[Bool.or_eq_true,Bool.and_eq_true,decide_eq_true_eq,Bool.not_eq_true',not_or,not_and,Bool.not_eq_false]at h1 h2;refine⟨fun i m hm=>?_,fun i m hm=>?_,fun i m hm=>?_⟩
   ·rcases zjO hm with hm|⟨rfl,rfl⟩
    ·exact h.a i m hm
    ·rcases Int.lt_or_le (zah m.op) 1 with q|q
     ·have:=h2.1.1.1.1 q;omega
     ·have:=za7.1 (h1.1.1 q);omega
   ·rcases zjO hm with hm|⟨rfl,rfl⟩
    ·exact h.b i m hm
    ·rcases Int.lt_or_le (zah m.op) 2 with q|q
     ·have:=h2.1.1.1.2 q;omega
     ·have:=za7.1 (h1.1.2 q);omega
   ·rcases zjO hm with hm|⟨rfl,rfl⟩
    ·exact h.c i m hm
    ·rcases Int.lt_or_le (zah m.op) 3 with q|q
     ·have:=h2.1.1.2 q;omega
     ·have:=za7.1 (h1.2 q);omega
 ·rw[mk_no h0];exact h
theorem zjj{L:List Nd}(h:Dag L){i:Nat}{n:Nd}(hn:L[i]?=some n):(zco n).length=(zah n.op).toNat ∧
  (∀(j:Nat) x,[n.a,n.b,n.c][j]?=some x→j<(zco n).length→(zco n)[j]?=some x.toNat∧1≤x∧x≤i)∧(∀c∈zco n,1≤c∧c≤i):=by
 have ha:=h.a i n hn;have hb:=h.b i n hn;have hc:=h.c i n hn;have key:(zco n).length=(zah n.op).toNat∧(∀(j:Nat) x,[n.a,n.b,n.c][j]?=some x→j<(zco n).length→(zco n)[j]?=some x.toNat∧1≤x∧x≤i):=by
  rcases zcj n.op with q|q|q|q
  ·refine⟨by simp[zco,q],fun j x hx hj=>?_⟩;simp[zco,q]at hj
  ·refine⟨by simp[zco,q],fun j x hx hj=>?_⟩;simp[zco,q]at hj;subst hj;simp at hx;subst hx;exact⟨by simp[zco,q],by omega,by omega⟩
  ·refine⟨by simp[zco,q],fun j x hx hj=>?_⟩;simp[zco,q]at hj
   match j,hj with
   |0,_=>simp at hx;subst hx;exact⟨by simp[zco,q],by omega,by omega⟩
   |1,_=>simp at hx;subst hx;exact⟨by simp[zco,q],by omega,by omega⟩
  ·refine⟨by simp[zco,q],fun j x hx hj=>?_⟩;simp[zco,q]at hj
   match j,hj with
   |0,_=>simp at hx;subst hx;exact⟨by simp[zco,q],by omega,by omega⟩
   |1,_=>simp at hx;subst hx;exact⟨by simp[zco,q],by omega,by omega⟩
   |2,_=>simp at hx;subst hx;exact⟨by simp[zco,q],by omega,by omega⟩
 refine⟨key.1,key.2,fun c hcm=>?_⟩;obtain⟨j,hj⟩:=List.getElem?_of_mem hcm;have hlt:=(List.getElem?_eq_some_iff.1 hj).1;have hle:j<3:=by have h1:=key.1;rcases zcj n.op with q|q|q|q<;>rw[q]at h1<;>simp at h1<;>omega
 obtain⟨x,hx⟩:∃x,[n.a,n.b,n.c][j]?=some x:=⟨_,List.getElem?_eq_getElem (by simpa using hle)⟩
 obtain⟨h1,h2,h3⟩:=key.2 j x hx hlt;rw[hj]at h1;cases h1;omega
theorem zet{L:List Nd}(h:Dag L){t c:Nat}(ht:1≤t)(hc:c∈kids L t):1≤c∧c<t:=by
 unfold kids at hc;cases hq:L[t-1]? with
 |none=>rw[hq]at hc;cases hc
 |some n=>
  rw[hq]at hc;have:=(zjj h hq).2.2 c hc;omega
def visit(L:List Nd):Nat→Nat→List Nat→List Nat
 |0,_,out=>out
 |k+1,t,out=>if t∈out then out else (kids L t).foldl (fun o c=>visit L k c o) out++[t]
theorem zgn{α β:Type}{f g:α→β→α}:∀(l:List β) (a:α),(∀b∈l,∀a,f a b=g a b)→l.foldl f a=l.foldl g a
 |[],a,h=>rfl
 |b::l,a,h=>by rw[foldl_cons,foldl_cons,h b (mem_cons_self ..)];exact zgn l _ fun b hb=>h b (mem_cons_of_mem _ hb)
theorem zpM{L:List Nd}(h:Dag L):∀(t:Nat),1≤t→∀(k m:Nat) (out:List Nat),t≤k→t≤m→visit L k t out=visit L m t out:=by
 intro t;induction t using Nat.strongRecOn with
 |_ t ih=>
  intro ht k m out hk hm;cases k with
  |zero=>omega
  |succ k=>
   cases m with
   |zero=>omega
   |succ m=>
    unfold visit;split
    ·rfl
    ·congr 1;exact zgn _ _ fun c hc o=>by have:=zet h ht hc;exact ih c this.2 this.1 k m o (by omega) (by omega)
def post(L:List Nd)(t:Nat)(out:List Nat):List Nat:=visit L t t out
def posts(L:List Nd)(l:List Nat)(out:List Nat):List Nat:=l.foldl (fun o c=>post L c o) out
theorem zge{L:List Nd}(h:Dag L){t:Nat}(ht:1≤t)(out:List Nat):post L t out=if t∈out then out else posts L (kids L t) out++[t]:=by
 unfold post posts;cases t with
 |zero=>omega
 |succ t=>
  show (if t+1∈out then out else _)=_;split
  ·rfl
  ·congr 1;exact zgn _ _ fun c hc o=>by have:=zet h (t:=t+1) ht hc;exact zpM h c this.1 _ _ o (by omega) (Nat.le_refl _)
theorem post_in{L:List Nd}(h:Dag L){t:Nat}(ht:1≤t){out:List Nat}(hm:t∈out):post L t out=out:=by rw[zge h ht,if_pos hm]
theorem zo0{L:List Nd}(h:Dag L){t:Nat}(ht:1≤t){out:List Nat}(hm:t∉out):post L t out=posts L (kids L t) out++[t]:=by rw[zge h ht,if_neg hm]
theorem zo1{L:List Nd}(h:Dag L):∀(t:Nat),1≤t→∀(out:List Nat),(∀x∈out,x∈post L t out)∧t∈post L t out∧(∀x∈post L t out,x∈out∨(1≤x∧x≤t)):=by
 intro t;induction t using Nat.strongRecOn with
 |_ t ih=>
  intro ht out;rw[zge h ht];split
  ·rename_i hm;exact⟨fun x hx=>hx,hm,fun x hx=>.inl hx⟩
  ·have key:∀(l:List Nat) (o:List Nat),(∀c∈l,c∈kids L t)→(∀x∈o,x∈posts L l o)∧(∀x∈posts L l o,x∈o∨(1≤x∧x<t)):=by
    intro l;induction l with
    |nil=>exact fun o _=>⟨fun x hx=>hx,fun x hx=>.inl hx⟩
    |cons c l ihl=>
     intro o hl;have hc:=zet h ht (hl c (mem_cons_self ..));obtain⟨g1,g2,g3⟩:=ih c hc.2 hc.1 o;obtain⟨k1,k2⟩:=ihl (post L c o) fun c hc=>hl c (mem_cons_of_mem _ hc);refine⟨fun x hx=>k1 x (g1 x hx),fun x hx=>?_⟩;rcases k2 x hx with q|q
     ·rcases g3 x q with q|q
      ·exact .inl q
      ·exact .inr ⟨q.1,by omega⟩
     ·exact .inr q
   obtain⟨k1,k2⟩:=key (kids L t) out fun c hc=>hc;refine⟨fun x hx=>mem_append_left _ (k1 x hx),by simp,fun x hx=>?_⟩;rcases mem_append.1 hx with q|q
   ·rcases k2 x q with q|q
    ·exact .inl q
    ·exact .inr ⟨q.1,by omega⟩
   ·rw[mem_singleton]at q;subst q;exact .inr ⟨ht,Nat.le_refl _⟩
theorem zkg(L:List Nd)(c:Nat)(l:List Nat)(out:List Nat):posts L (c::l) out=posts L l (post L c out):=rfl
theorem zbP{L:List Nd}(h:Dag L){N:Nat}:∀(l:List Nat) (o:List Nat),(∀c∈l,1≤c∧c≤N)→(∀x∈o,x∈posts L l o)∧(∀x∈l,x∈posts L l o)∧(∀x∈posts L l o,x∈o∨(1≤x∧x≤N))
 |[],o,hl=>⟨fun x hx=>hx,fun x hx=>(by cases hx),fun x hx=>.inl hx⟩
 |c::l,o,hl=>by
  have hc:=hl c (mem_cons_self ..);obtain⟨g1,g2,g3⟩:=zo1 h c hc.1 o;obtain⟨k1,k2,k3⟩:=zbP h l (post L c o) fun c hc=>hl c (mem_cons_of_mem _ hc);refine⟨fun x hx=>k1 x (g1 x hx),fun x hx=>?_,fun x hx=>?_⟩
  ·rcases mem_cons.1 hx with rfl|hx
   ·exact k1 _ g2
   ·exact k2 x hx
  ·rcases k3 x hx with q|q
   ·rcases g3 x q with q|q
    ·exact .inl q
    ·exact .inr ⟨q.1,by omega⟩
   ·exact .inr q
end Go.AM
namespace Go.AM
open Go
theorem s_t3a{α:Type}(x y z:Value)(k:Value→Option α):zaf (.tuple #[x,y,z]) 0 k=k x:=rfl
theorem s_t3b{α:Type}(x y z:Value)(k:Value→Option α):zaf (.tuple #[x,y,z]) 1 k=k y:=rfl
theorem s_t3c{α:Type}(x y z:Value)(k:Value→Option α):zaf (.tuple #[x,y,z]) 2 k=k z:=rfl
theorem zaD{α:Type}(x y:Option α):br false x y=y:=rfl
theorem zaP{α:Type}(x y:Option α):br true x y=x:=rfl
end Go.AM
namespace Go.AM
open List Go Go.ChangeShapes Go.WideShapes Go.ChangeAt Go.RowKit
theorem consL{α:Type}{l:List α}{n:Nat}(h:l.length=n+1):∃a t,l=a::t∧t.length=n:=by
 cases l with
 |nil=>cases h
 |cons a t=>exact⟨a,t,rfl,by simpa using h⟩
theorem decL{X:Type}{ks:List Sc}{cells:X→List Value}{Q:X→Prop}(dec:∀l,OkL ks l→∃o:X,cells o=l∧Q o):∀Ls:List (List Value),(∀l∈Ls,OkL ks l)→∃os:List X,Ls=os.map cells∧∀o∈os,Q o
 |[],_=>⟨[],rfl,fun o h=>by cases h⟩
 |l::Ls,h=>by
  obtain⟨o,h1,h2⟩:=dec l (h l (mem_cons_self ..));obtain⟨os,h3,h4⟩:=decL dec Ls fun l hl=>h l (mem_cons_of_mem _ hl);refine⟨o::os,by rw[h3,map_cons,h1],fun x hx=>?_⟩;rcases mem_cons.1 hx with rfl|hx
  ·exact h2
  ·exact h4 x hx
open Go.Proofs.YtcbmccpkhagckaaGreatDoor in
theorem bulk1{HH:Type}(d:DataW HH):1≤Rows.uptoBulk d:=by cases d<;>first | (rename_i l;cases l<;>simp[Rows.uptoBulk])|simp[Rows.uptoBulk]
open Go.Proofs.YtcbmccpkhagckaaGreatDoor in
theorem zpH{HH:Type}:∀es:List (DataW HH),es.length≤Rows.uptoBulkAll es
 |[]=>Nat.zero_le _
 |d::r=>by have:=zpH r;have:=bulk1 d;simp only[Rows.uptoBulkAll,length_cons];omega
end Go.AM
namespace Go.AM
open List Go
theorem zkG{S:List Value→Hp→Option Outc}{H:Hp}(n:Nat)(hs:∀i,i<n→S [.int .i64 (i:Int)] H=some (.next,[.int .i64 ((i+1:Nat):Int)],H))
  (he:S [.int .i64 (n:Int)] H=some (.exit 0,[.int .i64 (n:Int)],H)):∀k i,i+k=n→zat S [.int .i64 (i:Int)] H=some (.exit 0,[.int .i64 (n:Int)],H)
 |0,i,h=>by
  have:i=n:=by omega
  subst this;rw[zak,he];rfl
 |k+1,i,h=>by rw[zak,hs i (by omega)];exact zkG n hs he k (i+1) (by omega)
def noNd:Nd:=⟨0,0,0,0,0,0,⟨#[]⟩⟩
def ze6(L:List Nd)(t:Int):Nd:=if isT L t=true then (L[(t-1).toNat]?).getD noNd else noNd
theorem bnil{α:Type}(k:Value→Option α):zaB PP Ao [] k=k noNd.val:=bld (by kernel_rfl) k
theorem ncell7{α:Type}(n:Nd)(k:Value→Option α):zai 7 true n.cells 0 k=k n.val:=rfl
theorem nodes_at(L:List Nd):∀i n,L[i]?=some n→((L.flatMap Nd.cells).drop (i*7)).take 7=n.cells:=by
 induction L with
 |nil=>intro i o h;cases h
 |cons a L ih=>
  intro i o h;have h7:∀n:Nd,n.cells.length=7:=fun n=>rfl;rw[flatMap_cons];cases i with
  |zero=>cases h;rw[Nat.zero_mul,qd0,take_append_of_le_length (by rw[h7];omega),take_of_length_le (by rw[h7];omega)]
  |succ i=>
   rw[drop_append,drop_of_length_le (by rw[h7];omega),h7,nil_append,show (i+1)*7-7=i*7 by omega];exact ih i o h
theorem ld7{α:Type}{H:Hp}{L:List Nd}{y:Nat}{b:Bool}(h:H.get y=some (.cells (L.flatMap Nd.cells) b)){i:Nat}{n:Nd}(ho:L[i]?=some n)(k:Value→Option α) :
  zal 7 true H (.pointer (some ⟨y,i*7,none⟩)) k=k n.val:=by
 have hlt:i<L.length:=(List.getElem?_eq_some_iff.1 ho).1;have h1:i*7+7≤(L.flatMap Nd.cells).length:=by rw[flat_len];omega
 simp only[zal,Hp.rdP,Hp.rd,h,zct,h1,if_true,nodes_at L i n ho];rfl
theorem SlR.ix{H:Hp}{L:List Nd}{sl:Value}(h:SlR H sl L){i:Nat}(hi:i<L.length){α:Type} :
  ∃y,H.get y=some (.cells (L.flatMap Nd.cells) true)∧∀(k:Value→Option α),pIdx 7 sl (.int .i64 (i:Int)) k=k (.pointer (some ⟨y,i*7,none⟩)):=by
 rcases h with⟨rfl,_⟩|⟨y,rfl,hy⟩
 ·cases hi
 ·refine⟨y,hy,fun k=>?_⟩;unfold pIdx idxV;have:(7:Nat)=7∧(0:Int)≤(i:Int)∧(i:Int)<(L.length:Int):=⟨rfl,by omega,by omega⟩
  simp only[this,and_self,if_true,Nat.zero_add,Int.toNat_natCast]
end Go.AM
namespace Go.AM
open Go
theorem zgZ{a b c i:Nat}(z:Foot a b c (.slice none 0 0) i):i=a∨i=b∨i=c:=by
 rcases z with z|z|z|z
 ·exact .inl z
 ·exact .inr (.inl z)
 ·exact .inr (.inr z)
 ·cases z
theorem zku{α:Type}(n:Nd)(k:Value→Option α):zai 1 false n.cells 2 k=k (.int .i64 n.a):=zd8 _ 2 _ rfl k
theorem zkt{α:Type}(n:Nd)(k:Value→Option α):zai 1 false n.cells 3 k=k (.int .i64 n.b):=zd8 _ 3 _ rfl k
theorem zmM{α:Type}(n:Nd)(k:Value→Option α):zai 1 false n.cells 4 k=k (.int .i64 n.c):=zd8 _ 4 _ rfl k
end Go.AM
namespace Go.AM
open List Go
def ints(l:List Nat):List Value:=l.map fun (t:Nat)=>Value.int .i64 (t:Int)
def zlT(l:List Bool):List Value:=l.map .bool
def plc(x:Nat×Nat):List Value:=[.int .i64 (x.1:Int),.int .i64 (x.2:Int)]
def zcz(l:List (Nat×Nat)):List Value:=l.flatMap plc
theorem ints_app(l m:List Nat):ints (l++m)=ints l++ints m:=by simp[ints]
theorem zeF:∀l:List (Nat×Nat),(zcz l).length=l.length*2
 |[]=>rfl
 |x::l=>by show (plc x++zcz l).length=_;rw[length_append,zeF l,length_cons];show 2+_=_;omega
theorem zeG(l m:List (Nat×Nat)):zcz (l++m)=zcz l++zcz m:=by simp[zcz]
theorem zkh:∀l:List (Nat×Nat),(zcz l).all one=true
 |[]=>rfl
 |x::l=>by show (plc x++zcz l).all one=true;rw[all_append,zkh l];rfl
theorem znN(l:List (Nat×Nat))(x:Nat×Nat):(zcz (l++[x]))[l.length*2]?=some (.int .i64 (x.1:Int))∧(zcz (l++[x]))[l.length*2+1]?=some (.int .i64 (x.2:Int)):=by
 rw[zeG];have h:=zeF l;constructor
 ·rw[List.getElem?_append_right (by omega),h,Nat.sub_self];rfl
 ·rw[List.getElem?_append_right (by omega),h,Nat.add_sub_cancel_left];rfl
structure PS(H0 H:Hp)(lv:Value)(out:List Nat)(sv:Value)(stk:List (Nat×Nat))(bv:Value)(seen:List Bool):Prop where
 next:H0.next≤H.next
 old:∀j,j<H0.next→H.get j=H0.get j
 l:Vec H 1 lv out.length (ints out)
 s:Vec H 2 sv stk.length (zcz stk)
 b:Vec H 1 bv seen.length (zlT seen)
 al:∀j,Id lv j→H0.next≤j
 as':∀j,Id sv j→H0.next≤j
 ab:∀j,Id bv j→H0.next≤j
 ls:∀j,Id lv j→¬Id sv j
 lb:∀j,Id lv j→¬Id bv j
 sb:∀j,Id sv j→¬Id bv j
section
variable {H0 H:Hp}{lv sv bv:Value}{out:List Nat}{stk:List (Nat×Nat)}{seen:List Bool}(h:PS H0 H lv out sv stk bv seen)
include h
theorem PS.at0{p f g:Nat}{lim:Int}{L:List Nd}{K:List (ByteArray×Int)}{sl:Value}(hst:StF H0 p lim L K sl f g):StF H p lim L K sl f g:=
 hst.keep (fun i hi=>h.old i (hst.foot_lt hi)) h.next
theorem PS.see{i:Nat}(hi:i<seen.length):∃y,Id bv y∧(∀(α:Type) (kd:IntKind) (k:Value→Option α),pIdx 1 bv (.int kd (i:Int)) k=k (.pointer (some ⟨y,i*1,none⟩))) ∧
  ∃H',(∀(α:Type) (k:Hp→Option α),zao 1 H (.pointer (some ⟨y,i*1,none⟩)) (.bool true) k=k H')∧PS H0 H' lv out sv stk bv (seen.set i true)∧H'.next=H.next:=by
 obtain⟨y,hy,_,hix⟩:=h.b.ix hi;have hl:(zlT seen).length=seen.length:=by simp[zlT]
 obtain⟨H',h1,h2,h3,h4⟩:=h.b.set hy (m:=1) (o:=i*1) (x:=.bool true) rfl (by rw[hl];omega) rfl;refine⟨y,hy,hix,H',h1,⟨?_,fun j hj=>?_,h.l.keep h3 h.lb,h.s.keep h3 h.sb,?_,h.al,h.as',h.ab,h.ls,h.lb,h.sb⟩,h4⟩
 ·rw[h4];exact h.next
 ·rw[h3.same j (Nat.lt_of_lt_of_le hj h.next) (fun q=>by have:=h.ab j q;omega),h.old j hj]
 ·have e:spl (zlT seen) (i*1) (zab (.bool true))=zlT (seen.set i true):=by unfold spl zlT;show (seen.map Value.bool).take (i*1)++[Value.bool true]++(seen.map Value.bool).drop (i*1+1)=_;rw[Nat.mul_one,map_set,set_eq_take_append_cons_drop,if_pos (by simpa using hi)];simp
  rw[e]at h2;rw[length_set];exact h2
theorem PS.seen_at{i:Nat}{b:Bool}(hi:seen[i]?=some b):∃y,Id bv y∧(∀(α:Type) (kd:IntKind) (k:Value→Option α),pIdx 1 bv (.int kd (i:Int)) k=k (.pointer (some ⟨y,i*1,none⟩))) ∧
  (∀(α:Type) (k:Value→Option α),zal 1 false H (.pointer (some ⟨y,i*1,none⟩)) k=k (.bool b)):=by
 have hlt:=(List.getElem?_eq_some_iff.1 hi).1;obtain⟨y,hy,⟨rest,hg⟩,hix⟩:=h.b.ix hlt;exact⟨y,hy,hix,fun α k=>zgk hg (by rw[Nat.mul_one];unfold zlT;rw[List.getElem?_map,hi];rfl) k⟩
theorem PS.push(t:Nat){zs:List Value}(hz:zs.length=2)(hb:(stk.length+1)*16≤2^47) :
  ∃sv' H',(∀(α:Type) (k:Value→Hp→Option α),(zam 2 zs 1 [(0,.agg #[.int .i64 (t:Int),.int .i64 0])] H fun x H1=>zaJ 2 16 sv x H1 k)=k sv' H')∧PS H0 H' lv out sv' (stk++[(t,0)]) bv seen:=by
 obtain⟨sv',H',h1,h2,h3,h4,h5⟩:=h.s.push (bytes:=16) (zs:=zs) (x:=.agg #[.int .i64 (t:Int),.int .i64 0]) (by decide) (by decide) hz rfl rfl hb;have hn:=h.next;refine⟨sv',H',h1,⟨Nat.le_trans h.next h3.next,fun j hj=>?_,h.l.keep h3 h.ls,?_,h.b.keep h3 (fun j a b=>h.sb j b a),h.al,fun j hj=>?_,h.ab,fun j a b=>?_,h.lb,fun j a b=>?_⟩⟩
 ·rw[h3.same j (Nat.lt_of_lt_of_le hj h.next) (fun q=>by have:=h.as' j q;omega),h.old j hj]
 ·have:zcz (stk++[(t,0)])=zcz stk++zab (.agg #[.int .i64 (t:Int),.int .i64 0]):=by rw[zeG];rfl
  rw[this,length_append];exact h2
 ·rcases h4 j hj with q|q
  ·exact h.as' j q
  ·omega
 ·rcases h4 j b with q|q
  ·exact h.ls j a q
  ·have:=h.l.lt a;omega
 ·rcases h4 j a with q|q
  ·exact h.sb j q b
  ·have:=h.b.lt b;omega
theorem PS.pop{below:List (Nat×Nat)}{x:Nat×Nat}(hs:stk=below++[x]):∃sv',(∀(α:Type) (kd:IntKind) (k:Value→Option α),zdw 2 sv none (some (.int kd (below.length:Int))) k=k sv')∧PS H0 H lv out sv' below bv seen:=by subst hs;obtain⟨sv',h1,h2,h3⟩:=h.s.cut (zkh _) (m:=below.length) (by simp);refine⟨sv',h1,⟨h.next,h.old,h.l,?_,h.b,h.al,fun j a=>h.as' j (h3 j a),h.ab,fun j a b=>h.ls j a (h3 j b),h.lb,fun j a b=>h.sb j (h3 j a) b⟩⟩;rw[zeG,List.take_left' (zeF below)]at h2;exact h2
theorem PS.tell(t:Nat)(hb:(out.length+1)*8≤2^47) :
  ∃lv' H',(∀(α:Type) (k:Value→Hp→Option α),(zam 1 [.int .i64 0] 1 [(0,.int .i64 (t:Int))] H fun x H1=>zaJ 1 8 lv x H1 k)=k lv' H')∧PS H0 H' lv' (out++[t]) sv stk bv seen:=by
 obtain⟨lv',H',h1,h2,h3,h4,h5⟩:=h.l.push (bytes:=8) (zs:=[.int .i64 0]) (x:=.int .i64 (t:Int)) (by decide) (by decide) rfl rfl rfl hb;have hn:=h.next;refine⟨lv',H',h1,⟨Nat.le_trans h.next h3.next,fun j hj=>?_,?_,h.s.keep h3 (fun j a b=>h.ls j b a),h.b.keep h3 (fun j a b=>h.lb j b a),fun j hj=>?_,h.as',h.ab,fun j a b=>?_,fun j a b=>?_,h.sb⟩⟩
 ·rw[h3.same j (Nat.lt_of_lt_of_le hj h.next) (fun q=>by have:=h.al j q;omega),h.old j hj]
 ·rw[ints_app,length_append];exact h2
 ·rcases h4 j hj with q|q
  ·exact h.al j q
  ·omega
 ·rcases h4 j a with q|q
  ·exact h.ls j q b
  ·have:=h.s.lt b;omega
 ·rcases h4 j a with q|q
  ·exact h.lb j q b
  ·have:=h.b.lt b;omega
theorem PS.step{below:List (Nat×Nat)}{t j:Nat}(hs:stk=below++[(t,j)]):∃y,(∀(α:Type) (kd:IntKind) (k:Value→Option α),pIdx 2 sv (.int kd (below.length:Int)) k=k (.pointer (some ⟨y,below.length*2,none⟩))) ∧
  (∀(α:Type) (k:Value→Option α),zal 1 false H (.pointer (some ⟨y,below.length*2,none⟩)) k=k (.int .i64 (t:Int))) ∧
  (∀(α:Type) (k:Value→Option α),zal 1 false H (.pointer (some ⟨y,below.length*2+1,none⟩)) k=k (.int .i64 (j:Int))) ∧
  Hp.rdP H (.pointer (some ⟨y,below.length*2+1,none⟩)) 1 false=some (.int .i64 (j:Int)) ∧
  ∃H',(∀(α:Type) (k:Hp→Option α),zao 1 H (.pointer (some ⟨y,below.length*2+1,none⟩)) (.int .i64 ((j+1:Nat):Int)) k=k H')∧PS H0 H' lv out sv (below++[(t,j+1)]) bv seen:=by
 subst hs;have hlt:below.length<(below++[(t,j)]).length:=by simp
 obtain⟨y,hy,⟨rest,hg⟩,hix⟩:=h.s.ix hlt;obtain⟨p1,p2⟩:=znN below (t,j);have hl:(zcz (below++[(t,j)])).length=below.length*2+2:=by rw[zeF,length_append];simp;omega
 obtain⟨H',h1,h2,h3,h4⟩:=h.s.set hy (m:=1) (o:=below.length*2+1) (x:=.int .i64 ((j+1:Nat):Int)) rfl (by rw[hl];omega) rfl;refine⟨y,hix,fun α k=>zgk hg p1 k,fun α k=>zgk hg p2 k,?_,H',h1,⟨by rw[h4];exact h.next,fun i hi=>?_,h.l.keep h3 h.ls,?_,h.b.keep h3 (fun i a b=>h.sb i b a),h.al,h.as',h.ab,h.ls,h.lb,h.sb⟩⟩
 ·have:(zcz (below++[(t,j)])++rest)[below.length*2+1]?=some (.int .i64 (j:Int)):=by rw[List.getElem?_append_left (by omega)];exact p2
  simp only[Hp.rdP,Hp.rd,hg,zct,this]
 ·rw[h3.same i (Nat.lt_of_lt_of_le hi h.next) (fun q=>by have:=h.as' i q;omega),h.old i hi]
 ·have e:spl (zcz (below++[(t,j)])) (below.length*2+1) (zab (.int .i64 ((j+1:Nat):Int)))=zcz (below++[(t,j+1)]):=by
   rw[zeG,zeG];unfold spl;have hb:=zeF below;show (zcz below++[Value.int .i64 (t:Int),Value.int .i64 (j:Int)]).take (below.length*2+1)++[Value.int .i64 ((j+1:Nat):Int)]++(zcz below++[Value.int .i64 (t:Int),Value.int .i64 (j:Int)]).drop (below.length*2+1+1)=zcz below++[Value.int .i64 (t:Int),Value.int .i64 ((j+1:Nat):Int)]
   rw[take_append,hb,drop_append,hb,take_of_length_le (by omega),drop_of_length_le (by omega),Nat.add_sub_cancel_left,show below.length*2+1+1-below.length*2=2 by omega];simp
  rw[e]at h2;rw[length_append]at h2 ⊢;exact h2
end
theorem zi3:∀(n:Nat) (l:List Nat),l.Nodup→(∀x∈l,1≤x∧x≤n)→l.length≤n
 |0,l,_,h=>by
  cases l with
  |nil=>simp
  |cons a l=>have:=h a (mem_cons_self ..);omega
 |n+1,l,hn,h=>by
  by_cases hm:n+1∈l
  ·have h1:=zi3 n (l.erase (n+1)) (hn.erase _) fun x hx=>by have:=(List.Nodup.mem_erase_iff hn).1 hx;have:=h x this.2;omega
   rw[length_erase_of_mem hm]at h1;omega
  ·have:=zi3 n l hn fun x hx=>by have:=h x hx;have:x≠n+1:=fun e=>hm (e▸hx);omega
   omega
theorem znM{L:List Nd}(h:Dag L):∀(t:Nat),1≤t→∀(out:List Nat),out.Nodup→(post L t out).Nodup:=by
 intro t;induction t using Nat.strongRecOn with
 |_ t ih=>
  intro ht out hn;rw[zge h ht];split
  ·exact hn
  ·rename_i hm;have key:∀(l:List Nat) (o:List Nat),(∀c∈l,c∈kids L t)→o.Nodup→(posts L l o).Nodup:=by
    intro l;induction l with
    |nil=>exact fun o _ h=>h
    |cons c l ihl=>
     intro o hl ho;have hc:=zet h ht (hl c (mem_cons_self ..));exact ihl _ (fun c hc=>hl c (mem_cons_of_mem _ hc)) (ih c hc.2 hc.1 o ho)
   refine nodup_append.2 ⟨key _ _ (fun c hc=>hc) hn,by simp,fun x hx y hy=>?_⟩;rw[mem_singleton]at hy;subst hy;intro e;subst e;rcases (zbP h (N:=x-1) (kids L x) out fun c hc=>by have:=zet h ht hc;omega).2.2 x hx with q|q
   ·exact hm q
   ·omega
theorem zgI{L:List Nd}(h:Dag L):∀(l:List Nat) (o:List Nat),(∀c∈l,1≤c)→o.Nodup→(posts L l o).Nodup
 |[],o,_,ho=>ho
 |c::l,o,hl,ho=>zgI h l _ (fun c hc=>hl c (mem_cons_of_mem _ hc)) (znM h c (hl c (mem_cons_self ..)) o ho)
structure Seen(N:Nat)(seen:List Bool)(out:List Nat)(stk:List (Nat×Nat)):Prop where
 len:seen.length=N+1
 at':∀x,x≤N→seen[x]?=some (decide (x∈out∨x∈stk.map Prod.fst))
structure Told(N:Nat)(out:List Nat):Prop where
 nd:out.Nodup
 bd:∀x∈out,1≤x∧x≤N
theorem Told.len{N:Nat}{out:List Nat}(h:Told N out):out.length≤N:=zi3 N out h.nd h.bd
theorem Told.posts{L:List Nd}{N:Nat}{out l:List Nat}(h:Told N out)(hd:Dag L)(hl:∀c∈l,1≤c∧c≤N):Told N (posts L l out):=
 ⟨zgI hd l out (fun c hc=>(hl c hc).1) h.nd,fun x hx=>by
  rcases (zbP hd l out hl).2.2 x hx with q|q
  ·exact h.bd x q
  ·exact q⟩
theorem arr3{α:Type}{a b c:Int}{j:Nat}{x:Int}(h:[a,b,c][j]?=some x)(k:Value→Option α):zcx 3 false 1 (.agg #[.int .i64 a,.int .i64 b,.int .i64 c]) (.int .i64 (j:Int)) k=k (.int .i64 x):=by
 match j,h with
 |0,h=>cases h;rfl
 |1,h=>cases h;rfl
 |2,h=>cases h;rfl
 |n+3,h=>simp at h
theorem build72{α:Type}(t:Int)(k:Value→Option α):zaB PP Ce [(0,.int .i64 t),(1,.int .i64 0)] k=k (.agg #[.int .i64 t,.int .i64 0]):=bld (by kernel_rfl) k
theorem ze7{α:Type}(n:Nd)(k:Value→Option α):zai 1 false n.cells 0 k=k (.int .i64 n.op):=zd8 _ 0 _ rfl k
theorem zgJ(op:Int):(0:Int)≤zah op∧zah op≤3:=by rcases zcj op with q|q|q|q<;>rw[q]<;>decide
theorem Seen.told{N:Nat}{seen:List Bool}{out:List Nat}{below:List (Nat×Nat)}{t j:Nat}(h:Seen N seen out (below++[(t,j)])):Seen N seen (out++[t]) below:=
 ⟨h.len,fun x hx=>by
  rw[h.at' x hx];congr 2;simp only[map_append,map_cons,map_nil,mem_append,mem_singleton,eq_iff_iff];constructor
  ·rintro (q|q|q)
   ·exact .inl (.inl q)
   ·exact .inr q
   ·exact .inl (.inr q)
  ·rintro ((q|q)|q)
   ·exact .inl q
   ·exact .inr (.inr q)
   ·exact .inr (.inl q)⟩
theorem Seen.next{N:Nat}{seen:List Bool}{out:List Nat}{below:List (Nat×Nat)}{t j i:Nat}(h:Seen N seen out (below++[(t,j)])):Seen N seen out (below++[(t,i)]):=
 ⟨h.len,fun x hx=>by rw[h.at' x hx];congr 2;simp⟩
theorem Seen.add{N:Nat}{seen:List Bool}{out:List Nat}{stk:List (Nat×Nat)}{c i:Nat}(h:Seen N seen out stk)(hc:c≤N):Seen N (seen.set c true) out (stk++[(c,i)]):=
 ⟨by rw[length_set];exact h.len,fun x hx=>by
  rw[List.getElem?_set];by_cases e:c=x
  ·subst e;rw[if_pos rfl,if_pos (by rw[h.len];omega)];simp
  ·rw[if_neg e,h.at' x hx];congr 2;have:¬x=c:=fun q=>e q.symm
   simp[this]⟩
section
variable {H0:Hp}{p f g:Nat}{lim:Int}{L:List Nd}{K:List (ByteArray×Int)}{sl:Value}(hst:StF H0 p lim L K sl f g)(hd:Dag L)(hL:L.length*64≤2^46)(bv:Value)
include hst hd hL
theorem fwd:∀t,1≤t→t≤L.length→∀(m j:Nat),j+m=(kids L t).length→∀(out:List Nat) (below:List (Nat×Nat)) (seen:List Bool) (H:Hp) (lv sv:Value),
  PS H0 H lv out sv (below++[(t,j)]) bv seen→Seen L.length seen out (below++[(t,j)])→Told L.length out→(∀x∈below,t<x.1)→below.length+t≤L.length→t∉out →
  ∃H' lv' sv' seen',zat (zax RR (.pointer (some ⟨p,0,none⟩)) bv) [lv,sv] H=zat (zax RR (.pointer (some ⟨p,0,none⟩)) bv) [lv',sv'] H' ∧
   PS H0 H' lv' (posts L ((kids L t).drop j) out++[t]) sv' below bv seen'∧Seen L.length seen' (posts L ((kids L t).drop j) out++[t]) below:=by
 intro t;induction t using Nat.strongRecOn with
 |_ t ih=>
  intro h1 hN m;obtain⟨n,hn⟩:∃n,L[t-1]?=some n:=⟨_,List.getElem?_eq_getElem (by omega)⟩
  have hk:kids L t=zco n:=by unfold kids;rw[hn]
  obtain⟨kl,kg,kb⟩:=zjj hd hn;have hpn:=zgJ n.op;induction m with
  |zero=>
   intro j hj out below seen H lv sv hp hs ht hb hbl hto;have hst':=hp.at0 hst;obtain⟨y,e1,e2,e3,e4,_⟩:=hp.step rfl;obtain⟨sl',hsl,hix⟩:=hst'.st.all.ix (i:=t-1) (by omega) (α:=Outc);have hol:=ht.len;obtain⟨lv1,H1,t1,p1⟩:=hp.tell t (by omega);obtain⟨sv1,c1,p2⟩:=p1.pop rfl;have hlen:(below++[(t,j)]).length=below.length+1:=by simp
   have w1:IntKind.i64.wrap (((below.length+1:Nat):Int)-1)=(below.length:Int):=by rw[zaA (by omega) (by omega)];omega
   have w2:IntKind.i64.wrap ((t:Int)-1)=((t-1:Nat):Int):=by rw[zaA (by omega) (by omega)];omega
   have q1:((below.length+1:Nat):Int)>0:=by omega
   have hjp:(j:Int)=zah n.op:=by rw[hk,kl]at hj;omega
   have e4':=e4;rw[hjp]at e4';have hls:∀{α:Type} (H':Hp) (k:Value→Option α),pLen .sl sv H' k=k (.int .i64 ((below.length+1:Nat):Int)):=fun H' k=>by rw[hp.s.len,hlen]
   have hdrop:(kids L t).drop j=[]:=drop_of_length_le (by omega);rw[hdrop];refine⟨H1,lv1,sv1,seen,?_,p2,hs.told⟩;rw[zak];have:zax RR (.pointer (some ⟨p,0,none⟩)) bv [lv,sv] H=some (.next,[lv1,sv1],H1):=by unfold zax;simp only[qg1,qg0,hls,zci,q1,decide_true,zac,zaP,zc0,w1,e1,zbg,zaI,Nat.zero_add,Nat.add_zero,hst'.st.l1,e2,e3,w2,hix,ld7 hsl hn,spl7,ze7,zae (c29 _ _),zf6 e4',zaO,hjp,t1,c1]
   rw[this];rfl
  |succ m ihm=>
   intro j hj out below seen H lv sv hp hs ht hb hbl hto;have hst':=hp.at0 hst;obtain⟨y,e1,e2,e3,e4,H1,e5,p1⟩:=hp.step rfl;obtain⟨sl',hsl,hix⟩:=hst'.st.all.ix (i:=t-1) (by omega) (α:=Outc);have hlen:(below++[(t,j)]).length=below.length+1:=by simp
   have w1:IntKind.i64.wrap (((below.length+1:Nat):Int)-1)=(below.length:Int):=by rw[zaA (by omega) (by omega)];omega
   have w2:IntKind.i64.wrap ((t:Int)-1)=((t-1:Nat):Int):=by rw[zaA (by omega) (by omega)];omega
   have w3:IntKind.i64.wrap ((j:Int)+1)=((j+1:Nat):Int):=by
    have:j<3:=by rw[hk,kl]at hj;omega
    exact zaA (by omega) (by omega)
   have q1:((below.length+1:Nat):Int)>0:=by omega
   have hjp:¬(j:Int)=zah n.op:=by rw[hk,kl]at hj;omega
   have hj3:j<3:=by rw[hk,kl]at hj;omega
   obtain⟨x,hx⟩:∃x,[n.a,n.b,n.c][j]?=some x:=⟨_,List.getElem?_eq_getElem (by simpa using hj3)⟩
   obtain⟨g1,g2,g3⟩:=kg j x hx (by rw[hk]at hj;omega);have hls:∀{α:Type} (H':Hp) (k:Value→Option α),pLen .sl sv H' k=k (.int .i64 ((below.length+1:Nat):Int)):=fun H' k=>by rw[hp.s.len,hlen]
   have hxc:x=((x.toNat:Nat):Int):=by omega
   generalize x.toNat=c at g1 hxc;subst hxc;have hcN:c≤L.length:=by omega
   have hct:c<t:=by omega
   have hc1:1≤c:=by omega
   have hdrop:(kids L t).drop j=c::(kids L t).drop (j+1):=by rw[hk];have hlt:j<(zco n).length:=(List.getElem?_eq_some_iff.1 g1).1;rw[drop_eq_getElem_cons hlt];have:(zco n)[j]=c:=(List.getElem?_eq_some_iff.1 g1).2;rw[this]
   rw[hdrop,zkg];have hsc:=hs.at' c hcN;have hs1:Seen L.length seen out (below++[(t,j+1)]):=hs.next;by_cases hco:c∈out
   ·-- told
    have hsc':seen[c]?=some true:=by rw[hsc];congr 1;simp[hco]
    obtain⟨z,z0,z1,z2⟩:=p1.seen_at hsc';obtain⟨H',lv',sv',seen',r1,r2,r3⟩:=ihm (j+1) (by omega) out below seen H1 lv sv p1 hs1 ht hb hbl hto;rw[post_in hd hc1 hco];refine⟨H',lv',sv',seen',?_,r2,r3⟩;rw[←r1,zak];have:zax RR (.pointer (some ⟨p,0,none⟩)) bv [lv,sv] H=some (.next,[lv,sv],H1):=by unfold zax;simp only[qg1,qg0,hls,zci,q1,decide_true,zac,zaP,zaD,zc0,w1,e1,zbg,zaI,Nat.zero_add,Nat.add_zero,hst'.st.l1,e2,e3,w2,hix,ld7 hsl hn,spl7,ze7,zku,zkt,zmM,zae (c29 _ _),zf6 e4,zaO,hjp,decide_false,zgB,arr3 hx,zaM,w3,e5,z1,z2,zb9,Bool.not_true]
    rw[this];rfl
   ·have hcs:c∉(below++[(t,j)]).map Prod.fst:=fun q=>by
     simp only[map_append,map_cons,map_nil,mem_append,mem_singleton,mem_map]at q;rcases q with⟨u,hu,e⟩|e
     ·have:=hb u hu;omega
     ·omega
    have hsc':seen[c]?=some false:=by rw[hsc];congr 1;simpa[hco] using hcs
    obtain⟨z,z0,z1,z2⟩:=p1.seen_at hsc';have hclt:c<seen.length:=by rw[hs.len];omega
    obtain⟨z',hz',z3,H2,z4,p2,_⟩:=p1.see hclt;obtain rfl:z'=z:=Option.some.inj (hz'.symm.trans z0);have hlen1:(below++[(t,j+1)]).length=below.length+1:=by simp
    obtain⟨sv3,H3,z5,p3⟩:=p2.push c (zs:=[.int .i64 0,.int .i64 0]) rfl (by rw[hlen1];omega);have hs3:Seen L.length (seen.set c true) out ((below++[(t,j+1)])++[(c,0)]):=hs1.add hcN;have hkc:0+(kids L c).length=(kids L c).length:=by omega
    obtain⟨H4,lv4,sv4,seen4,r1,r2,r3⟩:=ih c hct hc1 hcN (kids L c).length 0 hkc out (below++[(t,j+1)]) (seen.set c true) H3 lv sv3 p3 hs3 ht
     (fun u hu=>by
      rcases mem_append.1 hu with hu|hu
      ·have:=hb u hu;omega
      ·rw[mem_singleton]at hu;subst hu;exact hct) (by rw[hlen1];omega) hco
    rw[qd0,←zo0 hd hc1 hco]at r2 r3;have ht4:Told L.length (post L c out):=ht.posts (l:=[c]) hd fun c' hc'=>by rw[mem_singleton]at hc';subst hc';exact⟨hc1,hcN⟩
    have hto4:t∉post L c out:=fun q=>by
     rcases (zo1 hd c hc1 out).2.2 t q with q|q
     ·exact hto q
     ·omega
    obtain⟨H5,lv5,sv5,seen5,s1,s2,s3⟩:=ihm (j+1) (by omega) (post L c out) below seen4 H4 lv4 sv4 r2 r3 ht4 hb hbl hto4;refine⟨H5,lv5,sv5,seen5,?_,s2,s3⟩;rw[←s1,←r1,zak];have:zax RR (.pointer (some ⟨p,0,none⟩)) bv [lv,sv] H=some (.next,[lv,sv3],H3):=by unfold zax;simp only[qg1,qg0,hls,zci,q1,decide_true,zac,zaP,zaD,zc0,w1,e1,zbg,zaI,Nat.zero_add,Nat.add_zero,hst'.st.l1,e2,e3,w2,hix,ld7 hsl hn,spl7,ze7,zku,zkt,zmM,zae (c29 _ _),zf6 e4,zaO,hjp,decide_false,zgB,arr3 hx,zaM,w3,e5,z1,z2,zb9,Bool.not_false,z3,z4,build72,z5]
    rw[this];rfl
end
def zb6(l:List Int):List Value:=l.map fun (t:Int)=>Value.int .i64 t
theorem zmT{l:List Int}{i:Nat}{t:Int}(h:l[i]?=some t):(zb6 l)[i]?=some (.int .i64 t):=by simp[zb6,h]
theorem Rdb.int{H:Hp}{v:Value}{l:List Int}(h:Rdb H 1 v l.length (zb6 l)){i:Nat}{t:Int}(ht:l[i]?=some t) :
  ∃y,(∀(α:Type) (kd:IntKind) (k:Value→Option α),pIdx 1 v (.int kd (i:Int)) k=k (.pointer (some ⟨y,i*1,none⟩)))∧(∀(α:Type) (k:Value→Option α),zal 1 false H (.pointer (some ⟨y,i*1,none⟩)) k=k (.int .i64 t)):=by
 obtain⟨y,hy,⟨rest,own,hg⟩,hix⟩:=h.ix (List.getElem?_eq_some_iff.1 ht).1;exact⟨y,hix,fun α k=>zgk hg (by rw[Nat.mul_one];exact zmT ht) k⟩
def RdO(H:Hp)(sz:Nat)(v:Value)(n:Nat)(cs:List Value):Prop:=
 (n=0∧cs=[]∧v=.slice none 0 0)∨∃y c pre rest own,v=.slice (some ⟨y,pre.length,some sz⟩) n c∧n≤c∧H.get y=some (.cells (pre++(cs++rest)) own)∧cs.length=n*sz∧y<H.next
theorem Rdb.o{H:Hp}{sz:Nat}{v:Value}{n:Nat}{cs:List Value}(h:Rdb H sz v n cs):RdO H sz v n cs:=by
 rcases h with e|⟨y,c,rest,own,rfl,h1,h2,h3,h4⟩
 ·exact .inl e
 ·exact .inr ⟨y,c,[],rest,own,rfl,h1,h2,h3,h4⟩
theorem RdO.len{H:Hp}{sz:Nat}{v:Value}{n:Nat}{cs:List Value}(h:RdO H sz v n cs){α:Type}(H':Hp)(k:Value→Option α):pLen .sl v H' k=k (.int .i64 n):=by rcases h with⟨rfl,_,rfl⟩|⟨y,c,pre,rest,own,rfl,_⟩<;>rfl
theorem RdO.lt{H:Hp}{sz:Nat}{v:Value}{n:Nat}{cs:List Value}(h:RdO H sz v n cs){j:Nat}(hj:Id v j):j<H.next:=by
 rcases h with⟨_,_,rfl⟩|⟨y,c,pre,rest,own,rfl,_,_,_,h⟩
 ·cases hj
 ·cases hj;exact h
theorem RdO.keep'{H H':Hp}{sz:Nat}{v:Value}{n:Nat}{cs:List Value}(h:RdO H sz v n cs)(hg:∀j,Id v j→H'.get j=H.get j)(hn:H.next≤H'.next):RdO H' sz v n cs:=by
 rcases h with e|⟨y,c,pre,rest,own,rfl,h1,h2,h3,h4⟩
 ·exact .inl e
 ·exact .inr ⟨y,c,pre,rest,own,rfl,h1,by rw[hg y rfl];exact h2,h3,Nat.lt_of_lt_of_le h4 hn⟩
theorem RdO.keep{M:Nat→Prop}{H H':Hp}{sz:Nat}{v:Value}{n:Nat}{cs:List Value}(h:RdO H sz v n cs)(k:Frm M H H')(hm:∀j,Id v j→¬M j):RdO H' sz v n cs:=
 h.keep' (fun j hj=>k.same j (h.lt hj) (hm j hj)) k.next
theorem RdO.at1{H:Hp}{v:Value}{n:Nat}{cs:List Value}(h:RdO H 1 v n cs){i:Nat}{z:Value}(hz:cs[i]?=some z) :
  ∃y,(∀(α:Type) (kd:IntKind) (k:Value→Option α),pIdx 1 v (.int kd (i:Int)) k=k y)∧(∀(α:Type) (k:Value→Option α),zal 1 false H y k=k z):=by
 have hlt:=(List.getElem?_eq_some_iff.1 hz).1;rcases h with⟨_,rfl,_⟩|⟨y,c,pre,rest,own,rfl,h1,h2,h3,h4⟩
 ·cases hz
 ·rw[Nat.mul_one]at h3;refine⟨.pointer (some ⟨y,pre.length+i*1,none⟩),fun α kd k=>?_,fun α k=>?_⟩
  ·unfold pIdx idxV;have:(1:Nat)=1∧(0:Int)≤(i:Int)∧(i:Int)<(n:Int):=⟨rfl,by omega,by omega⟩
   simp only[this,and_self,if_true,Int.toNat_natCast]
  ·refine zbe h2 (pre.length+i*1) z ?_ k;rw[Nat.mul_one,List.getElem?_append_right (by omega),Nat.add_sub_cancel_left,List.getElem?_append_left hlt,hz]
theorem RdO.int{H:Hp}{v:Value}{l:List Int}(h:RdO H 1 v l.length (zb6 l)){i:Nat}{t:Int}(ht:l[i]?=some t) :
  ∃y,(∀(α:Type) (kd:IntKind) (k:Value→Option α),pIdx 1 v (.int kd (i:Int)) k=k y)∧(∀(α:Type) (k:Value→Option α),zal 1 false H y k=k (.int .i64 t)):=h.at1 (zmT ht)
theorem zn6{H:Hp}{p f g:Nat}{lim:Int}{L:List Nd}{K:List (ByteArray×Int)}{sl:Value}(hst:StF H p lim L K sl f g){x:Value}{rs:List Int}(hx:RdO H 1 x rs.length (zb6 rs))(hl:rs.length≤2^40) :
  ∀k i,i+k=rs.length→zat (zaS RR (.pointer (some ⟨p,0,none⟩)) x (.int .i64 (rs.length:Int))) [.int .i64 (i:Int)] H =
   if (rs.drop i).all (isT L)=true then some (.exit 0,[.int .i64 (rs.length:Int)],H) else some (.ret,[.tuple #[.slice none 0 0,.int .i64 70]],H)
 |0,i,h=>by
  have:i=rs.length:=by omega
  subst this;rw[zak];have:zaS RR (.pointer (some ⟨p,0,none⟩)) x (.int .i64 (rs.length:Int)) [.int .i64 (rs.length:Int)] H=some (.exit 0,[.int .i64 (rs.length:Int)],H):=by unfold zaS;simp only[za3,zac,zaD,qg0,Int.lt_irrefl,decide_false]
  rw[this,drop_of_length_le (Nat.le_refl _)];rfl
 |k+1,i,h=>by
  have hlt:i<rs.length:=by omega
  have hg:rs[i]?=some rs[i]:=List.getElem?_eq_getElem hlt;obtain⟨y,e1,e2⟩:=hx.int hg;have w:IntKind.i64.wrap ((i:Int)+1)=((i+1:Nat):Int):=zaA (by omega) (by omega);have q:(i:Int)<(rs.length:Int):=by omega
  rw[zak,drop_eq_getElem_cons hlt,all_cons];cases ht:isT L rs[i] with
  |true=>
   have:zaS RR (.pointer (some ⟨p,0,none⟩)) x (.int .i64 (rs.length:Int)) [.int .i64 (i:Int)] H=some (.next,[.int .i64 ((i+1:Nat):Int)],H):=by unfold zaS;simp only[za3,zac,zaP,zaD,qg0,q,decide_true,e1,e2,zae (c19 hst.st),ht,zb9,Bool.not_true,zaM,w]
   rw[this];show zat _ _ _=_;rw[zn6 hst hx hl k (i+1) (by omega),Bool.true_and]
  |false=>
   have:zaS RR (.pointer (some ⟨p,0,none⟩)) x (.int .i64 (rs.length:Int)) [.int .i64 (i:Int)] H=some (.ret,[.tuple #[.slice none 0 0,.int .i64 70]],H):=by unfold zaS;simp only[za3,zac,zaP,zaD,qg0,q,decide_true,e1,e2,zae (c19 hst.st),ht,zb9,Bool.not_false]
   rw[this];rfl
theorem RdO.old{H0 H:Hp}{lv sv bv:Value}{out:List Nat}{stk:List (Nat×Nat)}{seen:List Bool}(h:PS H0 H lv out sv stk bv seen){x:Value}{n:Nat}{cs:List Value}(hx:RdO H0 1 x n cs):RdO H 1 x n cs:=
 hx.keep' (fun j hj=>h.old j (hx.lt hj)) h.next
section
variable {H0:Hp}{p f g:Nat}{lim:Int}{L:List Nd}{K:List (ByteArray×Int)}{sl:Value}(hst:StF H0 p lim L K sl f g)(hd:Dag L)(hL:L.length*64≤2^46)(bv:Value)
 {x:Value}{ns:List Nat}(hx:RdO H0 1 x ns.length (ints ns))(hns:∀t∈ns,1≤t∧t≤L.length)(hnl:ns.length≤2^40)
include hst hd hL hx hns hnl
theorem zn5:∀(k i:Nat) (out:List Nat) (seen:List Bool) (H:Hp) (lv sv:Value),i+k=ns.length→PS H0 H lv out sv [] bv seen→Seen L.length seen out []→Told L.length out →
  ∃H' lv' sv' seen',zat (zaR RR (.pointer (some ⟨p,0,none⟩)) x bv (.int .i64 (ns.length:Int))) [lv,sv,.int .i64 (i:Int)] H=some (.exit 2,[lv',sv',.int .i64 (ns.length:Int)],H') ∧
   PS H0 H' lv' (posts L (ns.drop i) out) sv' [] bv seen'
 |0,i,out,seen,H,lv,sv,hi,hp,hs,ht=>by
  have:i=ns.length:=by omega
  subst this;refine⟨H,lv,sv,seen,?_,?_⟩
  ·rw[zak];have:zaR RR (.pointer (some ⟨p,0,none⟩)) x bv (.int .i64 (ns.length:Int)) [lv,sv,.int .i64 (ns.length:Int)] H=some (.exit 2,[lv,sv,.int .i64 (ns.length:Int)],H):=by unfold zaR;simp only[za3,zac,zaD,qg1,qg0,Int.lt_irrefl,decide_false]
   rw[this];rfl
  ·rw[drop_of_length_le (Nat.le_refl _)];exact hp
 |k+1,i,out,seen,H,lv,sv,hi,hp,hs,ht=>by
  have hlt:i<ns.length:=by omega
  have hg:ns[i]?=some ns[i]:=List.getElem?_eq_getElem hlt;have hb:=hns _ (getElem_mem hlt);have hdr:ns.drop i=ns[i]::ns.drop (i+1):=drop_eq_getElem_cons hlt;rw[hdr,zkg];generalize ns[i]=t at hg hb;have hxH:=RdO.old hp hx;obtain⟨y,e1,e2⟩:=hxH.at1 (z:=.int .i64 (t:Int)) (by unfold ints;rw[List.getElem?_map,hg];rfl);have w:IntKind.i64.wrap ((i:Int)+1)=((i+1:Nat):Int):=zaA (by omega) (by omega);have q:(i:Int)<(ns.length:Int):=by omega
  have hsc:=hs.at' t hb.2;by_cases hto:t∈out
  ·have hsc':seen[t]?=some true:=by rw[hsc];congr 1;simp[hto]
   obtain⟨z,z0,z1,z2⟩:=hp.seen_at hsc';rw[post_in hd hb.1 hto];obtain⟨H',lv',sv',seen',r1,r2⟩:=zn5 k (i+1) out seen H lv sv (by omega) hp hs ht;refine⟨H',lv',sv',seen',?_,r2⟩;rw[zak];have:zaR RR (.pointer (some ⟨p,0,none⟩)) x bv (.int .i64 (ns.length:Int)) [lv,sv,.int .i64 (i:Int)] H=some (.next,[lv,sv,.int .i64 ((i+1:Nat):Int)],H):=by unfold zaR;simp only[za3,zac,zaP,qg1,qg0,q,decide_true,e1,e2,z1,z2,zaM,w]
   rw[this];exact r1
  ·have hsc':seen[t]?=some false:=by rw[hsc];congr 1;simp[hto]
   obtain⟨z,z0,z1,z2⟩:=hp.seen_at hsc';have hclt:t<seen.length:=by rw[hs.len];omega
   obtain⟨z',hz',z3,H2,z4,p2,_⟩:=hp.see hclt;obtain rfl:z'=z:=Option.some.inj (hz'.symm.trans z0);obtain⟨sv3,H3,z5,p3⟩:=p2.push t (zs:=[.int .i64 0,.int .i64 0]) rfl (by simp);have hs3:Seen L.length (seen.set t true) out ([]++[(t,0)]):=hs.add hb.2;obtain⟨H4,lv4,sv4,seen4,r1,r2,r3⟩:=fwd hst hd hL bv t hb.1 hb.2 (kids L t).length 0 (by omega) out [] (seen.set t true) H3 lv sv3 p3 hs3 ht (fun u hu=>by cases hu) (by simpa using hb.2) hto;rw[qd0,←zo0 hd hb.1 hto]at r2 r3;have ht4:Told L.length (post L t out):=ht.posts (l:=[t]) hd fun c' hc'=>by rw[mem_singleton]at hc';subst hc';exact hb
   obtain⟨H',lv',sv',seen',s1,s2⟩:=zn5 k (i+1) (post L t out) seen4 H4 lv4 sv4 (by omega) r2 r3 ht4;refine⟨H',lv',sv',seen',?_,s2⟩;have hexit:zat (zax RR (.pointer (some ⟨p,0,none⟩)) bv) [lv4,sv4] H4=some (.exit 4,[lv4,sv4],H4):=by
    rw[zak];have:zax RR (.pointer (some ⟨p,0,none⟩)) bv [lv4,sv4] H4=some (.exit 4,[lv4,sv4],H4):=by unfold zax;simp only[qg1,qg0,r2.s.len,length_nil,zci,zac];rfl
    rw[this];rfl
   rw[hexit]at r1;rw[zak];have:zaR RR (.pointer (some ⟨p,0,none⟩)) x bv (.int .i64 (ns.length:Int)) [lv,sv,.int .i64 (i:Int)] H=some (.next,[lv4,sv4,.int .i64 ((i+1:Nat):Int)],H4):=by unfold zaR;simp only[za3,zac,zaP,zaD,qg1,qg0,q,decide_true,e1,e2,z1,z2,z3,z4,build72,z5,r1,zap,za6,zay,zaM,w]
   rw[this];exact s1
end
theorem zkY:∀n:Nat,repl n [.bool false]=zlT (List.replicate n false)
 |0=>rfl
 |n+1=>by show [.bool false]++repl n [.bool false]=_;rw[zkY n,replicate_succ];rfl
theorem zbS(ns:List Nat):ints ns=zb6 (ns.map fun (t:Nat)=>(t:Int)):=by simp[ints,zb6]
theorem nats{L:List Nd}:∀rs:List Int,rs.all (isT L)=true→∃ns:List Nat,rs=ns.map (fun (t:Nat)=>(t:Int))∧∀t∈ns,1≤t∧t≤L.length
 |[],_=>⟨[],rfl,fun t h=>by cases h⟩
 |r::rs,h=>by
  rw[all_cons,Bool.and_eq_true]at h;obtain⟨ns,h1,h2⟩:=nats rs h.2;have:=za7.1 h.1;refine⟨r.toNat::ns,by rw[map_cons,←h1];congr 1;omega,fun t ht=>?_⟩;rcases mem_cons.1 ht with rfl|ht
  ·omega
  ·exact h2 t ht
structure OrdOk(H0 H:Hp)(v:Value)(out:List Nat):Prop where
 vec:Vec H 1 v out.length (ints out)
 next:H0.next≤H.next
 old:∀j,j<H0.next→H.get j=H0.get j
 new:∀j,Id v j→H0.next≤j
theorem c13_no{H0:Hp}{p f g:Nat}{lim:Int}{L:List Nd}{K:List (ByteArray×Int)}{sl:Value}(hst:StF H0 p lim L K sl f g){x:Value}{rs:List Int}(hx:RdO H0 1 x rs.length (zb6 rs))(hl:rs.length≤2^40)
  (hno:rs.all (isT L)=false):RR Aw [.pointer (some ⟨p,0,none⟩),x] H0=some (.tuple #[.slice none 0 0,.int .i64 70],H0):=by
 have hr:=(zeb E0 rfl (.pointer (some ⟨p,0,none⟩)) x H0).trans (zem _ _ _ _);refine hr.trans ?_;have h1:=zn6 hst hx hl rs.length 0 (by omega);rw[qd0,hno,if_neg (by decide)]at h1;rw[hx.len,show (0:Int)=((0:Nat):Int) from rfl,h1,zap,zfg,zfQ]
theorem c13_yes{H0:Hp}{p f g:Nat}{lim:Int}{L:List Nd}{K:List (ByteArray×Int)}{sl:Value}(hst:StF H0 p lim L K sl f g)(hd:Dag L)(hL:L.length*64≤2^46){x:Value}{ns:List Nat}(hx:RdO H0 1 x ns.length (ints ns))(hl:ns.length≤2^40)
  (hns:∀t∈ns,1≤t∧t≤L.length):∃H' v,RR Aw [.pointer (some ⟨p,0,none⟩),x] H0=some (.tuple #[v,.int .i64 0],H')∧OrdOk H0 H' v (posts L ns []):=by
 have hr:=(zeb E0 rfl (.pointer (some ⟨p,0,none⟩)) x H0).trans (zem _ _ _ _);have hmap:(ns.map fun (t:Nat)=>(t:Int)).length=ns.length:=length_map ..;have h1:=zn6 (rs:=ns.map fun (t:Nat)=>(t:Int)) hst (x:=x) (by rw[hmap,←zbS];exact hx) (by rw[hmap];exact hl) ns.length 0 (by rw[hmap];omega);have hall:(ns.map fun (t:Nat)=>(t:Int)).all (isT L)=true:=by rw[all_map,all_eq_true];intro t ht;have:=hns t ht;exact za7.2 ⟨by show (1:Int)≤(t:Int);omega,by show (t:Int)≤L.length;omega⟩
 rw[qd0,hall,if_pos rfl,hmap]at h1;obtain⟨bv,b1,b2,b3⟩:=Vec.make H0 (sz:=1) (bytes:=1) (zs:=[.bool false]) rfl (n:=L.length+1) (by omega);rw[zkY]at b1 b2;generalize hH1:H0.new (.cells (zlT (List.replicate (L.length+1) false)) true)=H1 at b1 b2;have n1:H1.next=H0.next+1:=by rw[←hH1];rfl
 have hsl:(List.replicate (L.length+1) false).length=L.length+1:=length_replicate ..;have ps:PS H0 H1 (.slice none 0 0) [] (.slice none 0 0) [] bv (List.replicate (L.length+1) false):=
  ⟨by omega,fun j hj=>by rw[←hH1,get_new,if_neg (by omega)],Vec.nil _ _,Vec.nil _ _,by rw[hsl];exact b2,fun j hj=>(by cases hj),fun j hj=>(by cases hj),fun j hj=>by have:=b3 j hj;omega,
   fun j a=>(by cases a),fun j a=>(by cases a),fun j a=>(by cases a)⟩
 have sn:Seen L.length (List.replicate (L.length+1) false) [] []:=⟨hsl,fun x hx=>by rw[List.getElem?_replicate,if_pos (by omega)];rfl⟩
 obtain⟨H',lv',sv',seen',g1,g2⟩:=zn5 hst hd hL bv hx hns hl ns.length 0 [] _ H1 _ _ (by omega) ps sn ⟨nodup_nil,fun x h=>by cases h⟩;rw[qd0]at g2;refine⟨H',lv',?_,⟨g2.l,g2.next,g2.old,g2.al⟩⟩;refine hr.trans ?_;have w:IntKind.i64.wrap ((L.length:Int)+1)=((L.length+1:Nat):Int):=zaA (by omega) (by omega);rw[hx.len,show (0:Int)=((0:Nat):Int) from rfl,h1,zap,za6,zay,zbg,zaI,Nat.zero_add,hst.st.l1,hst.st.all.len,zaM,w,b1,hx.len,g1,zap,za6,zay];rfl
end Go.AM
namespace Go.AM
open Go
section
variable {H0:Hp}{p f g:Nat}{lim:Int}{L:List Nd}{K:List (ByteArray×Int)}{sl:Value}(hst:StF H0 p lim L K sl f g)(hd:Dag L)(hL:L.length*64≤2^46)(bv:Value)
theorem Own.st{H:Hp}{r:List Sl}(h:Own H0 H r)(hst:StF H0 p lim L K sl f g):StF H p lim L K sl f g:=
 hst.keep (fun i hi=>h.old i (hst.foot_lt hi)) h.next
end
section
end
section
end
end Go.AM
namespace Go.AM
open List Go
def zb2(L:List Nd)(rs:List Int):Int×List Nat:=if rs.all (isT L)=true then (0,posts L (rs.map Int.toNat) []) else (70,[])
theorem zfm(ns:List Nat):(ns.map fun (t:Nat)=>(t:Int)).map Int.toNat=ns:=by
 induction ns with
 |nil=>rfl
 |cons a l ih=>rw[map_cons,map_cons,ih];rfl
theorem zi1{L:List Nd}(hd:Dag L)(rs:List Int):(zb2 L rs).2.length≤L.length:=by
 unfold zb2;split
 ·rename_i h;obtain⟨ns,h1,h2⟩:=nats rs h;have e:rs.map Int.toNat=ns:=by rw[h1,zfm]
  rw[e];exact Told.len ((⟨nodup_nil,fun x h=>by cases h⟩:Told L.length []).posts hd h2)
 ·simp
section
variable {H0:Hp}{p f g:Nat}{lim:Int}{L:List Nd}{K:List (ByteArray×Int)}{sl:Value}(hst:StF H0 p lim L K sl f g)(hd:Dag L)(hL:L.length*64≤2^46){x:Value}{rs:List Int}(hx:RdO H0 1 x rs.length (zb6 rs))(hl:rs.length≤2^40)
include hst hd hL hx hl
theorem c13:∃H' v,RR Aw [.pointer (some ⟨p,0,none⟩),x] H0=some (.tuple #[v,.int .i64 (zb2 L rs).1],H')∧OrdOk H0 H' v (zb2 L rs).2:=by
 unfold zb2;cases h:rs.all (isT L) with
 |true=>
  obtain⟨ns,h1,h2⟩:=nats rs h;have e:rs.map Int.toNat=ns:=by rw[h1,zfm]
  have hlen:rs.length=ns.length:=by rw[h1,length_map]
  rw[if_pos rfl,e];exact c13_yes hst hd hL (by rw[zbS,←h1,←hlen];exact hx) (by omega) h2
 |false=>
  rw[if_neg (by decide)];exact⟨H0,_,c13_no hst hx hl h,Vec.nil _ _,Nat.le_refl _,fun _ _=>rfl,fun j hj=>by cases hj⟩
end
structure zos(m:Nd):Prop where
 op:1≤m.op∧m.op≤33
 w:0≤m.w∧m.w≤64
 num:0≤m.num∧m.num<18446744073709551616
 ext:m.op=31→m.num≤64
 name:m.name.data.toList.length≤24
theorem wT_le{L:List Nd}(h:∀m∈L,0≤m.w∧m.w≤64)(t:Int):wT L (-1) t≤64:=by
 unfold wT;split
 ·cases q:L[(t-1).toNat]? with
  |none=>show (-1:Int)≤64;decide
  |some m=>exact(h m (mem_of_getElem? q)).2
 ·decide
def sp(l:List UInt8):List UInt8:=32::l
abbrev itoa:=Go.Lib.itoa
theorem sp_ba(l:List UInt8)(hl:l.length≤100){α:Type}(k:Value→Option α):pBin PP .add Ac (.string ⟨#[32]⟩) (.string (ba l)) k=k (.string (ba (sp l))):=zoO _ [32] l (by simp;omega) k
theorem zdK{n:Int}(h0:-9223372036854775808≤n)(h1:n≤9223372036854775807):(itoa n).length≤21:=Go.Lib.itoa_length_le n h0 h1
def fl(op:Int):List UInt8:=if op≤2 then [] else if op=3 then [119,110] else if op=4 then [115,119] else if op=31 then [112,110,119] else if op≥32 then [112,119] else List.replicate (zah op).toNat 112
def act(F:Int→Int)(n:Nd):List UInt8→Nat→List UInt8
 |[],_=>[]
 |c::r,k=>if c=112 then sp (itoa (F ([n.a,n.b,n.c].getD k 0)))++act F n r (k+1) else if c=110 then sp (numT n.num.toNat)++act F n r k else if c=119 then sp (itoa n.w)++act F n r k
  else if c=115 then sp n.name.data.toList++act F n r k else act F n r k
def word(ws:List (List UInt8))(op:Int):List UInt8:=ws.getD op.toNat []
def line(ws:List (List UInt8))(F:Int→Int)(i:Nat)(n:Nd):List UInt8:=itoa ((i+1:Nat):Int)++[32]++word ws n.op++act F n (fl n.op) 0++[10]
def upF(F:Int→Int)(t v:Int):Int→Int:=fun x=>if x=t then v else F x
def zaG(L:List Nd)(t:Nat):Nd:=(L[t-1]?).getD noNd'
 where noNd':Nd:=⟨0,0,0,0,0,0,⟨#[]⟩⟩
def zhR:Nat→List Nat→(Int→Int)→(Int→Int)
 |_,[],F=>F
 |i,t::r,F=>zhR (i+1) r (upF F t ((i+1:Nat):Int))
def zfW(ws:List (List UInt8))(L:List Nd):Nat→List Nat→(Int→Int)→List UInt8
 |_,[],_=>[]
 |i,t::r,F=>line ws (upF F t ((i+1:Nat):Int)) i (zaG L t)++zfW ws L (i+1) r (upF F t ((i+1:Nat):Int))
def ziF(F:Int→Int)(rs:List Int):List UInt8:=rs.flatMap fun r=>sp (itoa (F r))
def zqi(ws:List (List UInt8))(L:List Nd)(out:List Nat)(rs:List Int):List UInt8:=
 zfW ws L 0 out (fun _=>0)++[114,111,111,116,115]++ziF (zhR 0 out fun _=>0) rs++[10]
def mapI(A:List (Int×Int)):List (Value×Value):=A.map fun x=>(.int .i64 x.1,.int .i64 x.2)
def lkI(t:Int):Nat→List (Int×Int)→Option (Nat×Int)
 |_,[]=>none
 |i,(u,w)::r=>if t=u then some (i,w) else lkI t (i+1) r
def MapF(H:Hp)(m:Nat)(F:Int→Int):Prop:=∃A,H.get m=some (.map (mapI A))∧∀t,F t=(match lkI t 0 A with|some q=>q.2|none=>0)
structure zhY(P:Program)(kt:TypeId):Prop where
 eq:∀a b:Int,eqT P 10000 kt (.int .i64 a) (.int .i64 b)=some (a==b)
 sh:∀a:Int,zer P 20 kt (.int .i64 a)=true
theorem findI{P:Program}{kt:TypeId}(hk:zhY P kt)(t:Int):∀(A:List (Int×Int)) (i:Nat),zeX P kt (.int .i64 t) (mapI A) i=some ((lkI t i A).map fun q=>(q.1,.int .i64 q.2))
 |[],i=>rfl
 |(u,w)::r,i=>by
  show (match eqT P 10000 kt (.int .i64 t) (.int .i64 u) with|some true=>some (some (i,Value.int .i64 w))|some false=>zeX P kt (.int .i64 t) (mapI r) (i+1)|none=>none)=_;rw[hk.eq];unfold lkI;by_cases h:t=u
  ·rw[if_pos h,show (t==u)=true by simpa using h];rfl
  ·rw[if_neg h,show (t==u)=false by simpa using h];exact findI hk t r (i+1)
theorem MapF.look{P:Program}{kt:TypeId}(hk:zhY P kt){H:Hp}{m:Nat}{F:Int→Int}(h:MapF H m F)(t:Int){α:Type}(k:Value→Option α):zbj P kt (.int .i64 0) (.map (some m)) (.int .i64 t) false H k=k (.int .i64 (F t)):=by obtain⟨A,h1,h2⟩:=h;unfold zbj lookV;rw[hk.sh,h2 t];simp only[if_true,zn4,h1,findI hk];cases lkI t 0 A<;>rfl
theorem zlD(t:Int):∀(A:List (Int×Int)) (i j:Nat) (w:Int),lkI t i A=some (j,w)→i≤j∧A[j-i]?=some (t,w)
 |[],i,j,w,h=>by cases h
 |(u,v)::r,i,j,w,h=>by
  unfold lkI at h;split at h
  ·rename_i e;cases h;subst e;exact⟨Nat.le_refl _,by simp⟩
  ·obtain⟨h1,h2⟩:=zlD t r (i+1) j w h;refine⟨by omega,?_⟩;rw[show j-i=(j-(i+1))+1 by omega];simpa using h2
theorem zn9(t key v:Int):∀(A:List (Int×Int)) (i:Nat),lkI key i A=none→(lkI t i (A++[(key,v)])).map Prod.snd=if t=key then some v else (lkI t i A).map Prod.snd
 |[],i,h=>by
  show (lkI t i [(key,v)]).map Prod.snd=_;unfold lkI lkI;split<;>rfl
 |(u,w)::r,i,h=>by
  unfold lkI at h;split at h
  ·cases h
  ·rename_i ne;show (lkI t i ((u,w)::(r++[(key,v)]))).map Prod.snd=_;unfold lkI;by_cases e:t=u
   ·rw[if_pos e,if_pos e,if_neg (fun q=>ne (by rw[←q,e]))]
   ·rw[if_neg e,if_neg e];exact zn9 t key v r (i+1) h
theorem zn8(t key v:Int):∀(A:List (Int×Int)) (i j:Nat) (w:Int),lkI key i A=some (j,w)→(lkI t i (A.set (j-i) (key,v))).map Prod.snd=if t=key then some v else (lkI t i A).map Prod.snd
 |[],i,j,w,h=>by cases h
 |(u,x)::r,i,j,w,h=>by
  unfold lkI at h;split at h
  ·rename_i e;cases h;subst e;rw[Nat.sub_self,set_cons_zero];unfold lkI;by_cases q:t=key
   ·rw[if_pos q,if_pos q];rfl
   ·rw[if_neg q,if_neg q,if_neg q]
  ·rename_i ne;have hle:=(zlD key r (i+1) j w h).1;rw[show j-i=(j-(i+1))+1 by omega,set_cons_succ];unfold lkI;by_cases q:t=u
   ·rw[if_pos q,if_pos q,if_neg (fun z=>ne (by rw[←z,q]))]
   ·rw[if_neg q,if_neg q];exact zn8 t key v r (i+1) j w h
theorem mtch(o:Option (Nat×Int)):(match o with|some q=>q.2|none=>(0:Int))=(o.map Prod.snd).getD 0:=by cases o<;>rfl
theorem MapF.upd{P:Program}{kt:TypeId}(hk:zhY P kt){H:Hp}{m:Nat}{F:Int→Int}(h:MapF H m F)(key v:Int) :
  ∃H',(∀(α:Type) (k:Hp→Option α),pUpd P kt (.map (some m)) (.int .i64 key) (.int .i64 v) H k=k H')∧MapF H' m (fun t=>if t=key then v else F t)∧(∀j,j≠m→H'.get j=H.get j)∧H'.next=H.next:=by
 obtain⟨A,h1,h2⟩:=h;cases hq:lkI key 0 A with
 |none=>
  refine⟨H.set m (some (.map (mapI (A++[(key,v)])))),fun α k=>?_,⟨A++[(key,v)],by rw[get_set,if_pos rfl],fun t=>?_⟩,fun j hj=>by rw[get_set,if_neg hj],rfl⟩
  ·have:updV P kt (.map (some m)) (.int .i64 key) (.int .i64 v) H=some (H.set m (some (.map (mapI (A++[(key,v)]))))):=by unfold updV;rw[hk.sh];simp only[if_true,h1,findI hk,hq,Option.map_none];rw[show mapI (A++[(key,v)])=mapI A++[(Value.int .i64 key,Value.int .i64 v)] by simp[mapI]]
   unfold pUpd;rw[this]
  ·rw[mtch,zn9 t key v A 0 hq];dsimp only;split
   ·rfl
   ·rw[h2 t,mtch]
 |some q=>
  obtain⟨j,w⟩:=q;obtain⟨_,hg⟩:=zlD key A 0 j w hq;rw[Nat.sub_zero]at hg;refine⟨H.set m (some (.map (mapI (A.set j (key,v))))),fun α k=>?_,⟨A.set j (key,v),by rw[get_set,if_pos rfl],fun t=>?_⟩,fun j hj=>by rw[get_set,if_neg hj],rfl⟩
  ·have hk1:(mapI A)[j]?=some (.int .i64 key,.int .i64 w):=by unfold mapI;rw[List.getElem?_map,hg];rfl
   have hsb:Instr.sameBits 10000 (.int .i64 key) (.int .i64 key)=true:=by simp[Instr.sameBits]
   have:updV P kt (.map (some m)) (.int .i64 key) (.int .i64 v) H=some (H.set m (some (.map (mapI (A.set j (key,v)))))):=by unfold updV;rw[hk.sh];simp only[if_true,h1,findI hk,hq,Option.map_some,hk1,hsb];rw[show mapI (A.set j (key,v))=zhZ (mapI A) j (.int .i64 key) (.int .i64 v) by unfold zhZ mapI;rw[map_set]]
   unfold pUpd;rw[this]
  ·have:=zn8 t key v A 0 j w hq;rw[Nat.sub_zero]at this;rw[mtch,this];dsimp only;split
   ·rfl
   ·rw[h2 t,mtch]
theorem MapF.new(H:Hp):MapF (H.new (.map [])) H.next (fun _=>0):=⟨[],by rw[get_new,if_pos rfl];rfl,fun t=>rfl⟩
theorem MapF.keep{H H':Hp}{m:Nat}{F:Int→Int}(h:MapF H m F)(hg:H'.get m=H.get m):MapF H' m F:=by obtain⟨A,h1,h2⟩:=h;exact⟨A,by rw[hg];exact h1,h2⟩
theorem ikI:zhY PP Aa:=⟨fun a b=>by kernel_rfl,fun a=>by kernel_rfl⟩
theorem upd_ty{P:Program}{kt:TypeId}{m key v:Value}{H H':Hp}(h:pUpd P kt m key v H some=some H'):H'.ty=H.ty:=by
 unfold pUpd at h;cases q:updV P kt m key v H with
 |none=>rw[q]at h;cases h
 |some H1=>
  rw[q]at h;cases h;unfold updV at q
  repeat' (first | (cases q;done) | (cases q;rfl)|split at q)
theorem Bld.keep{H H':Hp}{i:Nat}{s:List UInt8}{j:Option Nat}(h:Bld H i s j)(hi:H'.get i=H.get i)(hj:∀y,j=some y→H'.get y=H.get y)(hn:H.next≤H'.next)(ht:∀k,k<H.next→H'.ty k=H.ty k):Bld H' i s j:=by
 refine⟨by rw[ht i h.lt];exact h.ty,Nat.lt_of_lt_of_le h.lt hn,?_⟩;obtain⟨a,buf,h1,h2,h3⟩:=h.ex;refine⟨a,buf,by rw[hi];exact h1,h2,?_⟩;rcases h3 with h3|⟨y,g1,g2,g3,g4,g5,g6,g7⟩
 ·exact .inl h3
 ·exact .inr ⟨y,g1,g2,Nat.lt_of_lt_of_le g3 hn,g4,g5,by rw[hj y g1];exact g6,by rw[ht y g3];exact g7⟩
theorem Bld.jn{H:Hp}{i:Nat}{s:List UInt8}{j:Option Nat}(h:Bld H i s j){y:Nat}(hy:j=some y):y<H.next∧y≠i:=by
 obtain⟨a,buf,h1,h2,h3⟩:=h.ex;rcases h3 with⟨h3,_⟩|⟨z,g1,g2,g3,_⟩
 ·rw[h3]at hy;cases hy
 ·rw[g1]at hy;cases hy;exact⟨g3,g2⟩
theorem Tabs.old{B H:Hp}(h:Tabs B)(hn:PP.globals.size≤B.next)(ho:∀k,k<B.next→H.get k=B.get k):Tabs H:=by have e:∀g,g<PP.globals.size→H.get g=B.get g:=fun g hg=>ho g (by omega);exact⟨by rw[e _ (by rw[zfM];decide)];exact h.pow,by rw[e _ (by rw[zfM];decide)];exact h.spc,by rw[e _ (by rw[zfM];decide)];exact h.bru⟩
structure DP(B H:Hp)(wl:List Value)(b m w:Nat)(s:List UInt8)(Φ:Int→Int):Prop where
 next:B.next≤H.next
 old:∀k,k<B.next→H.get k=B.get k
 lb:B.next≤b
 lm:B.next≤m
 lw:B.next≤w
 bm:b≠m
 bw:b≠w
 mw:m≠w
 hm:m<H.next
 hw:w<H.next
 mp:MapF H m Φ
 nms:H.get w=some (.cells wl true)
 bld:∃j,Bld H b s j∧∀y,j=some y→B.next≤y∧y≠m∧y≠w
section
variable {B H:Hp}{wl:List Value}{b m w:Nat}{s:List UInt8}{Φ:Int→Int}
theorem DP.upd(h:DP B H wl b m w s Φ)(key v:Int):∃H',(∀(α:Type) (k:Hp→Option α),pUpd PP Aa (.map (some m)) (.int .i64 key) (.int .i64 v) H k=k H')∧DP B H' wl b m w s (upF Φ key v):=by obtain⟨H',e1,e2,e3,e4⟩:=h.mp.upd ikI key v;have ht:=upd_ty (e1 Hp some);obtain⟨j,hj,hj2⟩:=h.bld;have lm:=h.lm;have bm:=h.bm;refine⟨H',e1,⟨by rw[e4];exact h.next,fun k hk=>by rw[e3 k (by omega)];exact h.old k hk,h.lb,h.lm,h.lw,h.bm,h.bw,h.mw,by rw[e4];exact h.hm,by rw[e4];exact h.hw,e2,by rw[e3 w (Ne.symm h.mw)];exact h.nms,j,hj.keep (e3 b bm) (fun y hy=>e3 y (hj2 y hy).2.1) (by rw[e4];exact Nat.le_refl _) (fun k _=>by rw[ht]),hj2⟩⟩
theorem DP.new{H':Hp}(h:DP B H wl b m w s Φ)(k:New H H'):DP B H' wl b m w s Φ:=by obtain⟨j,hj,hj2⟩:=h.bld;have n1:=k.next;have n2:=h.next;exact⟨by omega,fun q hq=>by rw[k.get q (by omega)];exact h.old q hq,h.lb,h.lm,h.lw,h.bm,h.bw,h.mw,Nat.lt_of_lt_of_le h.hm n1,Nat.lt_of_lt_of_le h.hw n1,h.mp.keep (k.get m h.hm),by rw[k.get w h.hw];exact h.nms,j,hj.keep (k.get b hj.lt) (fun y hy=>k.get y (hj.jn hy).1) n1 k.ty,hj2⟩
theorem DP.bf{H':Hp}{j j':Option Nat}{s':List UInt8}(h:DP B H wl b m w s Φ)(hb:Bld H b s j)(hj2:∀y,j=some y→B.next≤y∧y≠m∧y≠w)(hb':Bld H' b s' j')(k:BF b H j H' j'):DP B H' wl b m w s' Φ:=by
 have n1:=k.next;have n2:=h.next;have lb:=h.lb;have hm:=h.hm;have hw:=h.hw;have bm:=h.bm;have bw:=h.bw;have nj:∀q,q<H.next→q<B.next∨q=m∨q=w→j≠some q:=fun q hq hx e=>by have:=hj2 q e;omega
 exact⟨by omega,fun q hq=>by rw[k.get q (by omega) (by omega) (nj q (by omega) (.inl hq))];exact h.old q hq,h.lb,h.lm,h.lw,h.bm,h.bw,h.mw,by omega,by omega,h.mp.keep (k.get m hm (by omega) (nj m hm (.inr (.inl rfl)))),by rw[k.get w hw (by omega) (nj w hw (.inr (.inr rfl)))];exact h.nms,j',hb',fun y hy=>by
  rcases k.foot y hy with e|e
  ·exact hj2 y e
  ·omega⟩
theorem DP.ws(h:DP B H wl b m w s Φ)(t:List UInt8)(hl:s.length+t.length≤2^46) :
  ∃H',RR AE [.pointer (some ⟨b,0,none⟩),.string (ba t)] H=some (.tuple #[.int .i64 ((ba t).size:Int),.nilIface],H')∧DP B H' wl b m w (s++t) Φ:=by
 obtain⟨j,hj,hj2⟩:=h.bld;obtain⟨H',j',e1,e2,e3⟩:=hj.ws (ba t) (by rw[ze3];exact hl);rw[ze3]at e2;exact⟨H',e1,h.bf hj hj2 e2 e3⟩
theorem DP.wb(h:DP B H wl b m w s Φ)(hl:s.length+1≤2^46) :
  ∃H',RR Ay [.pointer (some ⟨b,0,none⟩),.int .u8 10] H=some (.nilIface,H')∧DP B H' wl b m w (s++[10]) Φ:=by
 obtain⟨j,hj,hj2⟩:=h.bld;obtain⟨H',j',e1,e2,e3⟩:=hj.wb 10 hl;exact⟨H',e1,h.bf hj hj2 e2 e3⟩
theorem DP.tabs(h:DP B H wl b m w s Φ)(hT:Tabs B)(hn:PP.globals.size≤B.next):Tabs H:=hT.old hn h.old
theorem DP.put(h:DP B H wl b m w s Φ)(hT:Tabs B)(hn:PP.globals.size≤B.next){x:Int}(h0:-9223372036854775808≤x)(h1:x≤9223372036854775807)(hl:s.length+100≤2^46) :
  ∃H',RR At [.int .i64 x,.pointer (some ⟨b,0,none⟩)] H=some (.tuple #[],H')∧DP B H' wl b m w (s++sp (itoa x)) Φ:=by
 have il:=zdK h0 h1;obtain⟨H',e1,e2⟩:=h.ws (sp (itoa x)) (by unfold sp;rw[length_cons];omega);refine⟨H',(zf9 E0 rfl _ _ _).trans ?_,e2⟩;unfold zdZ;rw[zae (c_itoa (h.tabs hT hn) h0 h1),sp_ba (itoa x) (by omega),zae e1]
end
def zkv:ByteArray:=⟨#[45,32,116,114,117,101,32,102,97,108,115,101,32,99,111,110,115,116,32,118,97,114,32,110,111,116,32,97,110,100,32,111,114,32,120,111,114,32,101,113,32,117,108,116,32,117,108,101,32,115,108,116,32,115,108,101,32,105,116,101,32,99,111,109,32,110,101,103,32,98,97,110,100,32,98,111,114,32,98,120,111,114,32,97,100,100,32,115,117,98,32,109,117,108,32,100,105,118,32,114,101,109,32,115,104,108,32,115,104,114,32,115,97,114,32,114,111,108,32,114,111,114,32,99,97,116,32,115,108,105,99,101,32,122,101,120,116,32,115,101,120,116]⟩
def zbv:List (List UInt8):=[[45],[116,114,117,101],[102,97,108,115,101],[99,111,110,115,116],[118,97,114],[110,111,116],[97,110,100],[111,114],[120,111,114],[101,113],[117,108,116],[117,108,101],[115,108,116],[115,108,101],[105,116,101],[99,111,109],[110,101,103],[98,97,110,100],[98,111,114],[98,120,111,114],[97,100,100],[115,117,98],[109,117,108],[100,105,118],[114,101,109],[115,104,108],[115,104,114],[115,97,114],[114,111,108],[114,111,114],[99,97,116],[115,108,105,99,101],[122,101,120,116],[115,101,120,116]]
theorem names_eq:Go.Lib.fields zkv.data.toList=zbv:=by kernel_rfl
theorem names_ok:zkv.size<4294967281∧zkv.data.toList.all (fun b=>decide (b.toNat<128))=true:=by constructor<;>decide +kernel
def zcX:List Value:=zbv.map fun l=>Value.string (ba l)
theorem c_names{H:Hp}(hT:Tabs H):RR A5 [] H=some (.slice (some ⟨H.next,0,some 1⟩) 34 34,H.new (.cells zcX true)):=by
 obtain⟨cs,e,fz,hg,ht⟩:=hT.spc;have hx:RR By [.string zkv] H=some (.slice (some ⟨H.next,0,some 1⟩) 34 34,H.new (.cells zcX true)):=by refine(ziE (O:=orc) Go.Proofs.Tryz.func99 (by kernel_rfl) (by kernel_rfl) (show E0 By=some zjs from rfl) _ H).trans ?_;show zjs [.string zkv] H=_;unfold zjs;dsimp only;rw[if_pos names_ok,hg];dsimp only;rw[ht,names_eq];rfl
 refine(zmo E0 rfl _).trans ?_;have:zhK RR H=zad RR By [.string zkv] H fun r1 H2=>some (r1,H2):=rfl;rw[this,zae hx]
theorem zox(op:Int):(word zbv op).length≤24:=by
 unfold word;have h:zbv.all (fun l=>decide (l.length≤24))=true:=by decide
 rw[getD_eq_getElem?_getD];cases q:zbv[op.toNat]? with
 |none=>simp
 |some l=>exact of_decide_eq_true (all_eq_true.1 h l (mem_of_getElem? q))
theorem word_at{op:Int}(h:1≤op∧op≤33):zcX[op.toNat]?=some (.string (ba (word zbv op))):=by
 have hl:zbv.length=34:=rfl;have hlt:op.toNat<zbv.length:=by omega
 unfold zcX word;rw[List.getElem?_map,getD_eq_getElem?_getD,List.getElem?_eq_getElem hlt];rfl
theorem zlV{Φ:Int→Int}{n:Nd}(hn:zos n)(hΦ:∀t,0≤Φ t∧Φ t≤2^42):∀(cs:List UInt8) (k:Nat),(act Φ n cs k).length≤30*cs.length
 |[],k=>Nat.zero_le _
 |c::r,k=>by
  have h1:=zlV hn hΦ r k;have h2:=zlV hn hΦ r (k+1);have a1:=hΦ ([n.a,n.b,n.c].getD k 0);have a2:=zdK (n:=Φ ([n.a,n.b,n.c].getD k 0)) (by omega) (by omega);have a3:=zpd (x:=n.num.toNat) (by have:=hn.num;omega);have a4:=zdK (n:=n.w) (by have:=hn.w;omega) (by have:=hn.w;omega);have a5:=hn.name;unfold act sp;rw[length_cons];split
  ·simp only[cons_append,length_cons,length_append];omega
  ·split
   ·simp only[cons_append,length_cons,length_append];omega
   ·split
    ·simp only[cons_append,length_cons,length_append];omega
    ·split
     ·simp only[cons_append,length_cons,length_append];omega
     ·omega
theorem fl_len(op:Int):(fl op).length≤3:=by
 have:=zgJ op;unfold fl
 repeat' split
 all_goals first|decide | (rw[length_replicate];omega)
section
variable {B:Hp}{b m w:Nat}(hT:Tabs B)(hn:PP.globals.size≤B.next)
include hT hn
theorem loopP{n:Nd}{Φ:Int→Int}(hΦ:∀t,0≤Φ t∧Φ t≤2^42):∀(k i:Nat) (H:Hp) (s:List UInt8),((i+k:Nat):Int)=zah n.op→DP B H zcX b m w s Φ→s.length+100*(k+1)≤2^46 →
  ∃H',zat (zbd RR (.map (some m)) (.int .i64 (zah n.op)) (.pointer (some ⟨b,0,none⟩)) n.cells) [.int .i64 (i:Int)] H=some (.exit 3,[.int .i64 (zah n.op)],H')∧DP B H' zcX b m w (s++act Φ n (List.replicate k 112) i) Φ
 |0,i,H,s,hi,h,hl=>by
  refine⟨H,?_,by rw[replicate_zero];unfold act;rw[append_nil];exact h⟩;rw[Nat.add_zero]at hi;rw[zak,hi];have:zbd RR (.map (some m)) (.int .i64 (zah n.op)) (.pointer (some ⟨b,0,none⟩)) n.cells [.int .i64 (zah n.op)] H=some (.exit 3,[.int .i64 (zah n.op)],H):=by unfold zbd;simp only[za3,zac,zaD,qg0,Int.lt_irrefl,decide_false]
  rw[this];rfl
 |k+1,i,H,s,hi,h,hl=>by
  have hp:=zgJ n.op;have hi3:i<3:=by omega
  have hx:[n.a,n.b,n.c][i]?=some ([n.a,n.b,n.c].getD i 0):=by rw[getD_eq_getElem?_getD,List.getElem?_eq_getElem (by simpa using hi3)];rfl
  generalize hq:[n.a,n.b,n.c].getD i 0=x at hx;have hb:=hΦ x;obtain⟨H1,e1,h1⟩:=h.put hT hn (x:=Φ x) (by omega) (by omega) (by omega);have hil:=zdK (n:=Φ x) (by omega) (by omega);obtain⟨H',e2,h2⟩:=loopP (n:=n) hΦ k (i+1) H1 (s++sp (itoa (Φ x))) (by omega) h1 (by unfold sp;rw[length_append,length_cons];omega);refine⟨H',?_,?_⟩
  ·rw[zak];have w1:IntKind.i64.wrap ((i:Int)+1)=((i+1:Nat):Int):=zaA (by omega) (by omega);have q:(i:Int)<zah n.op:=by omega
   have:zbd RR (.map (some m)) (.int .i64 (zah n.op)) (.pointer (some ⟨b,0,none⟩)) n.cells [.int .i64 (i:Int)] H=some (.next,[.int .i64 ((i+1:Nat):Int)],H1):=by unfold zbd;simp only[za3,zac,zaP,qg0,q,decide_true,zku,zkt,zmM,zgB,arr3 hx,h.mp.look ikI,zae e1,zaM,w1]
   rw[this];exact e2
  ·have ea:act Φ n (List.replicate (k+1) 112) i=sp (itoa (Φ x))++act Φ n (List.replicate k 112) (i+1):=by rw[replicate_succ];show (if (112:UInt8)=112 then _ else _)=_;rw[if_pos rfl,hq]
   rw[ea,←append_assoc];exact h2
end
def zko(w:List UInt8):List (List UInt8)→Nat→Option Nat
 |[],_=>none
 |x::r,i=>if 0<i∧x=w then some i else zko w r (i+1)
def opF(w:List UInt8):Option Nat:=zko w zbv 0
theorem zmH(w:List UInt8):∀(l:List (List UInt8)) (i j:Nat),zko w l i=some j→1≤j∧j<i+l.length
 |[],i,j,h=>by cases h
 |x::r,i,j,h=>by
  unfold zko at h;split at h
  ·rename_i hc;cases h;simp only[length_cons];omega
  ·have:=zmH w r (i+1) j h;simp only[length_cons];omega
theorem opF_bd{w:List UInt8}{j:Nat}(h:opF w=some j):1≤j∧j≤33:=by have:=zmH w zbv 0 j h;have hl:zbv.length=34:=rfl;omega
theorem znV(w:List UInt8)(H:Hp)(wv:Value)(hv:Rdb H 1 wv 34 zcX)(z:Value):∀(rest:List (List UInt8)) (i:Nat),zbv.drop i=rest→i≤34 →
  zat (zaH RR (str w) (.int .i64 34) wv) [z,.int .i64 (i:Int)] H=match zko w rest i with
   |some j=>some (.ret,[W1 (.int .i64 (j:Int))],H)
   |none=>some (.exit 0,[z,.int .i64 34],H)
 |[],i,hr,hi=>by
  have hl:zbv.length=34:=rfl;have hil:i=34:=by have:=congrArg List.length hr;rw[length_drop,hl]at this;simp at this;omega
  have this:zaH RR (str w) (.int .i64 34) wv [z,.int .i64 (i:Int)] H=some (.exit 0,[z,.int .i64 (i:Int)],H):=by
   unfold zaH;have h1:¬((i:Int)<34):=by omega
   simp only[qg0,qg1,za3,zac,s_br,h1,decide_false,Bool.false_eq_true,if_false]
  rw[zak,this,hil];rfl
 |x::r,i,hr,hi=>by
  have hl:zbv.length=34:=rfl;have hlt:i<34:=by have:=congrArg List.length hr;rw[length_drop,hl]at this;simp at this;omega
  have hget:zbv[i]?=some x:=by have:=congrArg (fun x=>x[0]?) hr;simpa using this
  have hr2:zbv.drop (i+1)=r:=by rw[←drop_drop,hr];rfl
  obtain⟨y,hy,⟨rest',own,hg⟩,hix⟩:=hv.ix hlt
  have hld:=fun (α:Type) (k:Value→Option α)=>zbe hg (i*1) (str x) (by
   rw[Nat.mul_one,List.getElem?_append_left (by unfold zcX;rw[length_map];omega)];unfold zcX
   rw[List.getElem?_map,hget];rfl) k
  have hinc:IntKind.i64.wrap ((i:Int)+1)=((i+1:Nat):Int):=w64 (by omega) (by omega);have h1:((i:Int)<34):=by omega
  unfold zko;by_cases h0:0<i
  ·have h0':((i:Int)>0):=by omega
   by_cases hx:x=w
   ·rw[if_pos ⟨h0,hx⟩];have hx':(x==w)=true:=by rw[beq_iff_eq];exact hx
    have this:zaH RR (str w) (.int .i64 34) wv [z,.int .i64 (i:Int)] H=some (.ret,[W1 (.int .i64 (i:Int))],H):=by unfold zaH;simp only[qg0,qg1,za3,zac,s_br,h1,decide_true,if_true,hix,hld,zci,h0',zf4,hx']
    rw[zak,this];rfl
   ·rw[if_neg (fun q=>hx q.2)];have hx':(x==w)=false:=by rw[beq_eq_false_iff_ne];exact hx
    have this:zaH RR (str w) (.int .i64 34) wv [z,.int .i64 (i:Int)] H=some (.next,[z,.int .i64 ((i+1:Nat):Int)],H):=by unfold zaH;simp only[qg0,qg1,za3,zac,s_br,h1,decide_true,if_true,hix,hld,zci,h0',zf4,hx',Bool.false_eq_true,if_false,zaM,hinc]
    rw[zak,this];exact znV w H wv hv z r (i+1) hr2 hlt
  ·rw[if_neg (fun q=>h0 q.1)];have h0':¬((i:Int)>0):=by omega
   have this:zaH RR (str w) (.int .i64 34) wv [z,.int .i64 (i:Int)] H=some (.next,[z,.int .i64 ((i+1:Nat):Int)],H):=by unfold zaH;simp only[qg0,qg1,za3,zac,s_br,h1,decide_true,if_true,hix,hld,zci,h0',decide_false,Bool.false_eq_true,if_false,zaM,hinc]
   rw[zak,this];exact znV w H wv hv z r (i+1) hr2 hlt
theorem zoo(w:List UInt8)(H:Hp)(hL:Laid H):∃H',Frm (fun _=>False) H H'∧RR BC [str w] H=match opF w with
  |some j=>some (W1 (.int .i64 (j:Int)),H')
  |none=>some (W0 (zcr 3),H'):=by
 have hrun:=zh0 E0 rfl (str w) H;rw[zh3,zae (c_names hL.tabs)]at hrun;have hv:Rdb (H.new (.cells zcX true)) 1 (.slice (some ⟨H.next,0,some 1⟩) 34 34) 34 zcX:=
  .inr ⟨H.next,34,[],true,rfl,Nat.le_refl _,by rw[append_nil];exact if_pos rfl,rfl,by show H.next<H.next+1;omega⟩
 have hloop:=znV w _ _ hv (.int .i64 0) zbv 0 rfl (Nat.zero_le _);have hlen:∀{α:Type} (k:Value→Option α),pLen .sl (.slice (some ⟨H.next,0,some 1⟩) 34 34) (H.new (.cells zcX true)) k=k (.int .i64 34):=fun k=>rfl;rw[hlen]at hrun;refine⟨H.new (.cells zcX true),zcW _ _ _,hrun.trans ?_⟩;have hloop:zat (zaH RR (str w) (.int .i64 34) (.slice (some ⟨H.next,0,some 1⟩) 34 34)) [.int .i64 0,.int .i64 0] (H.new (.cells zcX true))=match opF w with
   |some j=>some (.ret,[W1 (.int .i64 (j:Int))],H.new (.cells zcX true))
   |none=>some (.exit 0,[.int .i64 0,.int .i64 34],H.new (.cells zcX true)):=hloop
 rw[hloop];cases opF w with
 |some j=>rfl
 |none=>
  dsimp only;rw[zap,za6,zay,zcm]
inductive Fld where
 |p|n|w|s
 deriving DecidableEq
def setP(k:Nat)(n:Nd)(t:Int):Nd:=if k=0 then { n with a:=t } else if k=1 then { n with b:=t } else { n with c:=t }
def setF(f:Fld)(w:List UInt8)(ts:List Int)(k:Nat)(n:Nd):Option Nd:=
 match f with
 |.p=>if 1≤zcq w∧zcq w≤ts.length then some (setP k n (ts.getD (zcq w-1).toNat 0)) else none
 |.n=>match numP w with
  |none=>none
  |some x=>if n.op=3∨0≤zcq w then some { n with num:=(x:Int) } else none
 |.w=>if zcq w<0 then none else some { n with w:=zcq w }
 |.s=>some { n with name:=ba w }
def rdF:List Fld→List (List UInt8)→List Int→Nat→Nd→Option (Nd×List (List UInt8))
 |[],ws,_,_,n=>some (n,ws)
 |_::_,[],_,_,_=>none
 |f::fs,w::ws,ts,k,n=>match setF f w ts k n with
  |none=>none
  |some m=>rdF fs ws ts (if f=.p then k+1 else k) m
theorem zeT(f:Fld)(fs:List Fld)(w:List UInt8)(ws:List (List UInt8))(ts:List Int)(k:Nat)(n:Nd):rdF (f::fs) (w::ws) ts k n=match setF f w ts k n with
  |none=>none
  |some m=>rdF fs ws ts (if f=.p then k+1 else k) m:=by
 conv=>lhs;unfold rdF
theorem rdF_app(fs gs:List Fld):∀(ws:List (List UInt8)) (ts:List Int) (k:Nat) (n:Nd),rdF (fs++gs) ws ts k n=match rdF fs ws ts k n with
  |none=>none
  |some (m,ws')=>rdF gs ws' ts (k+fs.count .p) m:=by
 induction fs with
 |nil=>intro ws ts k n;rfl
 |cons f fs ih=>
  intro ws ts k n;cases ws with
  |nil=>rfl
  |cons w ws=>
   rw[cons_append,zeT,zeT];cases setF f w ts k n with
   |none=>rfl
   |some m=>
    dsimp only;rw[ih];cases rdF fs ws ts (if f=.p then k+1 else k) m with
    |none=>rfl
    |some q=>
     dsimp only;rw[count_cons];by_cases hf:f=.p
     ·subst hf;rw[if_pos rfl,if_pos (by rfl)];have:k+1+fs.count Fld.p=k+(fs.count Fld.p+1):=by omega
      rw[this]
     ·rw[if_neg hf];have:(f==Fld.p)=false:=by rw[beq_eq_false_iff_ne];exact hf
      rw[this];simp
theorem rd_w(fs:List Fld)(ws:List (List UInt8))(ts:List Int)(k:Nat)(n:Nd):rdF (.w::fs) ws ts k n=match numF ws with
  |none=>none
  |some v=>rdF fs ws.tail ts k { n with w:=v }:=by
 cases ws with
 |nil=>rfl
 |cons w ws=>
  rw[zeT];unfold numF setF;dsimp only;by_cases h:zcq w<0
  ·rw[if_pos h,if_pos h]
  ·rw[if_neg h,if_neg h];rfl
theorem rd_p(fs:List Fld)(ws:List (List UInt8))(ts:List Int)(k:Nat)(n:Nd):rdF (.p::fs) ws ts k n=match zlr ts ws with
  |none=>none
  |some t=>rdF fs ws.tail ts (k+1) (setP k n t):=by
 cases ws with
 |nil=>rfl
 |cons w ws=>
  rw[zeT];unfold zlr numF setF;dsimp only;by_cases h:zcq w<0
  ·rw[if_pos h,if_neg (by omega)]
  ·rw[if_neg h];dsimp only;by_cases h2:1≤zcq w∧zcq w≤ts.length
   ·rw[if_pos h2,if_pos h2];rfl
   ·rw[if_neg h2,if_neg h2]
theorem rd_s(fs:List Fld)(ws:List (List UInt8))(ts:List Int)(k:Nat)(n:Nd):rdF (.s::fs) ws ts k n=match ws with
  |[]=>none
  |w::r=>rdF fs r ts k { n with name:=ba w }:=by
 cases ws with
 |nil=>rfl
 |cons w ws=>rfl
theorem rd_n3(fs:List Fld)(ws:List (List UInt8))(ts:List Int)(k:Nat)(n:Nd)(h:n.op=3):rdF (.n::fs) ws ts k n=match ws with
  |[]=>none
  |w::r=>match numP w with
   |none=>none
   |some x=>rdF fs r ts k { n with num:=(x:Int) }:=by
 cases ws with
 |nil=>rfl
 |cons w ws=>
  rw[zeT];unfold setF;dsimp only;cases numP w with
  |none=>rfl
  |some x=>dsimp only;rw[if_pos (.inl h)];rfl
theorem rd_n(fs:List Fld)(ws:List (List UInt8))(ts:List Int)(k:Nat)(n:Nd)(h:n.op≠3):rdF (.n::fs) ws ts k n=match numF ws with
  |none=>none
  |some v=>rdF fs ws.tail ts k { n with num:=v }:=by
 cases ws with
 |nil=>rfl
 |cons w ws=>
  rw[zeT];unfold numF setF;dsimp only;cases hn:numP w with
  |none=>
   have:zcq w=-1:=by rw[zey,hn]
   rw[this,if_pos (show (-1:Int)<0 by decide)]
  |some x=>
   dsimp only;by_cases h2:zcq w<0
   ·rw[if_pos h2,if_neg (by intro q;rcases q with q|q;exact h q;omega)]
   ·rw[if_neg h2,if_pos (.inr (by omega))];have:zcq w=(x:Int):=by
     rw[zey,hn]at h2 ⊢;dsimp only at h2 ⊢;split
     ·rfl
     ·rename_i q;rw[if_neg q]at h2;exact absurd (by decide) h2
    rw[this];rfl
structure NS(H:Hp)(p i:Nat)(sp wv tv:Value)(ws:List (List UInt8))(n:Nd):Prop where
 rs:RdS H p sp wv tv ws
 wi:¬Id wv i
 pi:p≠i
 nd:H.get i=some (.cells n.cells true)
 il:i<H.next
def NSA(H:Hp)(p i:Nat)(sp wv tv:Value)(ws:List (List UInt8))(n:Nd)(f:FuncId)(r:Option Int):Prop:=
 match r with
 |none=>∃H',RR f [.pointer (some ⟨p,0,none⟩)] H=some (W0 (zcr 3),H')∧Frm (· = p) H H'
 |some v=>∃H' wv',RR f [.pointer (some ⟨p,0,none⟩)] H=some (W1 (.int .i64 v),H')∧NS H' p i sp wv' tv ws.tail n∧(∀j,Id wv' j→Id wv j)∧Frm (· = p) H H'
section
variable {H:Hp}{p i:Nat}{sp wv tv:Value}{ws:List (List UInt8)}{n:Nd}
theorem NS.of(h:NS H p i sp wv tv ws n){f:FuncId}{r:Option Int}(k:RdA H p sp wv tv ws f r):NSA H p i sp wv tv ws n f r:=by
 cases r with
 |none=>exact k
 |some v=>
  obtain⟨H',wv',h1,h2,h3,h4⟩:=k;exact⟨H',wv',h1,⟨h2,fun q=>h.wi (h3 i q),h.pi,by rw[h4.same i h.il (Ne.symm h.pi)];exact h.nd,Nat.lt_of_lt_of_le h.il h4.next⟩,h3,h4⟩
theorem NS.next{w:List UInt8}(h:NS H p i sp wv tv (w::ws) n) :
  ∃H' wv',RR Ap [.pointer (some ⟨p,0,none⟩)] H=some (W1 (str w),H')∧NS H' p i sp wv' tv ws n∧(∀j,Id wv' j→Id wv j)∧Frm (· = p) H H':=by
 obtain⟨H',wv',h1,h2,h3,h4⟩:=h.rs.next;exact⟨H',wv',h1,⟨h2,fun q=>h.wi (h3 i q),h.pi,by rw[h4.same i h.il (Ne.symm h.pi)];exact h.nd,Nat.lt_of_lt_of_le h.il h4.next⟩,h3,h4⟩
theorem NS.keep{H':Hp}(h:NS H p i sp wv tv ws n)(k:Frm (fun _=>False) H H'):NS H' p i sp wv tv ws n:=
 ⟨h.rs.keep k (fun q=>q) fun _ _ q=>q,h.wi,h.pi,by rw[k.same i h.il fun q=>q];exact h.nd,Nat.lt_of_lt_of_le h.il k.next⟩
theorem NS.st(h:NS H p i sp wv tv ws n){o:Nat}{v:Value}{m:Nd}(hc:zab v=[v])(h1:one v=true)(ho:o<7)(hs:spl n.cells o [v]=m.cells) :
  ∃H',(∀(α:Type) (k:Hp→Option α),zao 1 H (.pointer (some ⟨i,o,none⟩)) v k=k H')∧NS H' p i sp wv tv ws m∧Frm (· = i) H H':=by
 have hf:Frm (· = i) H (H.set i (some (.cells m.cells true))):=zfY _ _ _ _ rfl;refine⟨H.set i (some (.cells m.cells true)),fun α k=>?_,⟨h.rs.keep hf h.pi fun j hj q=>h.wi (by rw[q]at hj;exact hj),h.wi,h.pi,by rw[get_set,if_pos rfl],h.il⟩,hf⟩;have hw:za8 1 n.cells o v=some m.cells:=by unfold za8;rw[hc,if_pos ⟨rfl,by show o+1≤7;omega,by simp[h1]⟩,hs]
 have:H.wr (.pointer (some ⟨i,o,none⟩)) 1 v=some (H.set i (some (.cells m.cells true))):=by show (match H.get i with|some (.cells cs true)=>(match za8 1 cs o v with|some cs'=>some (H.set i (some (.cells cs' true)))|none=>none)|_=>none)=_;rw[h.nd];dsimp only;rw[hw]
 unfold zao;rw[this]
theorem NS.ld(h:NS H p i sp wv tv ws n)(o:Nat)(v:Value)(hv:n.cells[o]?=some v){α:Type}(k:Value→Option α):zal 1 false H (.pointer (some ⟨i,o,none⟩)) k=k v:=zbe h.nd o v hv k
end
def PhA(H:Hp)(p i:Nat)(sp wv tv:Value)(out:Option (Nd×List (List UInt8)))(c:Ctl)(ok:List Value)(X:Option Outc):Prop:=
 match out with
 |none=>∃H',X=some (.ret,[W0 (zcr 3)],H')∧Frm (fun j=>j=p∨j=i) H H'
 |some (m,ws')=>∃H' wv',X=some (c,ok,H')∧NS H' p i sp wv' tv ws' m∧(∀j,Id wv' j→Id wv j)∧Frm (fun j=>j=p∨j=i) H H'
theorem PhA.from{H H1:Hp}{p i:Nat}{sp wv wv1 tv:Value}{out:Option (Nd×List (List UInt8))}{c:Ctl}{ok:List Value}{X:Option Outc}(h:PhA H1 p i sp wv1 tv out c ok X)(hf:Frm (fun j=>j=p∨j=i) H H1)(hi:∀j,Id wv1 j→Id wv j):PhA H p i sp wv tv out c ok X:=by
 cases out with
 |none=>obtain⟨H',h1,h2⟩:=h;exact⟨H',h1,hf.trans h2 fun j q=>.inl q⟩
 |some q=>
  obtain⟨m,ws'⟩:=q;obtain⟨H',wv',h1,h2,h3,h4⟩:=h;exact⟨H',wv',h1,h2,fun j q=>hi j (h3 j q),hf.trans h4 fun j q=>.inl q⟩
theorem fr_p{H H':Hp}{p i:Nat}(h:Frm (· = p) H H'):Frm (fun j=>j=p∨j=i) H H':=h.mono fun j q=>.inl (.inl q)
theorem fr_i{H H':Hp}{p i:Nat}(h:Frm (· = i) H H'):Frm (fun j=>j=p∨j=i) H H':=h.mono fun j q=>.inl (.inr q)
theorem fr_0{H H':Hp}{p i:Nat}(h:Frm (fun _=>False) H H'):Frm (fun j=>j=p∨j=i) H H':=h.mono fun j q=>q.elim
structure Away(p i:Nat):Prop where
 p:PP.globals.size≤p
 i:PP.globals.size≤i
theorem Away.laid{H H':Hp}{p i:Nat}(h:Away p i)(hL:Laid H)(k:Frm (fun j=>j=p∨j=i) H H'):Laid H':=hL.keep k fun j q=>by rcases q with rfl|rfl;exact h.p;exact h.i
noncomputable def ph1(x0 p10:Value)(H12:Hp):Option Outc:=
 zas 0 p10 fun p13=>
 zal 1 false H12 p13 fun v14=>
 pBin PP .eql Aa v14 (.int .i64 3) fun v15=>
 zaa v15 fun b16=>br b16
 (zbh RR An [x0] H12 (fun e17 H18=>
 some (.ret,[(W0 e17)],H18)) fun r19 H20=>
 zas 1 p10 fun p21=>
 zao 1 H20 p21 r19 fun H22=>
 zbh RR Ap [x0] H22 (fun e23 H24=>
 some (.ret,[(W0 e23)],H24)) fun r25 H26=>
 zad RR AP [r25] H26 fun r27 H28=>
 zaf r27 0 fun v29=>
 zaf r27 1 fun v30=>
 pBin PP .neq Ak v30 (.int .i64 0) fun v31=>
 zaa v31 fun b32=>br b32
 (zaB PP Ae [(0,(.int .i64 3))] fun v33=>
 some (.ret,[(W0 (.iface Ae v33))],H28))
 (zas 5 p10 fun p34=>
 zao 1 H28 p34 v29 fun H35=>
 some (.next,[],H35)))
 (pBin PP .eql Aa v14 (.int .i64 4) fun v36=>
 zaa v36 fun b37=>br b37
 (zbh RR Ap [x0] H12 (fun e38 H39=>
 some (.ret,[(W0 e38)],H39)) fun r40 H41=>
 zas 6 p10 fun p42=>
 zao 1 H41 p42 r40 fun H43=>
 zbh RR An [x0] H43 (fun e44 H45=>
 some (.ret,[(W0 e44)],H45)) fun r46 H47=>
 zas 1 p10 fun p48=>
 zao 1 H47 p48 r46 fun H49=>
 some (.next,[],H49))
 (some (.next,[],H12)))
def preF(op:Int):List Fld:=if op=3 then [.w,.n] else if op=4 then [.s,.w] else []
theorem ph1_ok{H:Hp}{p i:Nat}{sp wv tv:Value}{ws:List (List UInt8)}{n:Nd}(h:NS H p i sp wv tv ws n)(hA:Away p i)(hL:Laid H)(ts:List Int) :
  PhA H p i sp wv tv (rdF (preF n.op) ws ts 0 n) .next [] (ph1 (.pointer (some ⟨p,0,none⟩)) (.pointer (some ⟨i,0,none⟩)) H):=by
 have hop:∀{α:Type} (k:Value→Option α),zal 1 false H (.pointer (some ⟨i,0+0,none⟩)) k=k (.int .i64 n.op):=fun k=>h.ld 0 _ rfl k;unfold preF ph1;by_cases h3:n.op=3
 ·rw[if_pos h3,rd_w];have hn:=h.of (h.rs.number hL hA.p);have hop3:∀{α:Type} (k:Value→Option α),zal 1 false H (.pointer (some ⟨i,0+0,none⟩)) k=k (.int .i64 3):=fun k=>by rw[hop,h3]
  simp only[zaI,hop3,zaO,zac,s_br,decide_true,if_true];cases hf:numF ws with
  |none=>
   rw[hf]at hn;obtain⟨H1,a1,a2⟩:=hn;rw[zbM a1];exact⟨H1,rfl,fr_p a2⟩
  |some v=>
   rw[hf]at hn;obtain⟨H1,wv1,a1,a2,a3,a4⟩:=hn;obtain⟨H2,b1,b2,b3⟩:=a2.st (o:=0+1) (v:=.int .i64 v) (m:={ n with w:=v }) rfl rfl (by decide) rfl;have hf2:Frm (fun j=>j=p∨j=i) H H2:=(fr_p a4).trans (fr_i b3) fun j q=>.inl q;rw[zbL a1,b1];dsimp only;rw[rd_n3 _ _ _ _ _ (show ({ n with w:=v }:Nd).op=3 from h3)];cases hw:ws.tail with
   |nil=>
    rw[hw]at b2;rw[zbM b2.rs.stop];exact⟨H2,rfl,hf2⟩
   |cons w r=>
    rw[hw]at b2;obtain⟨H3,wv3,c1,c2,c3,c4⟩:=b2.next;have hf3:Frm (fun j=>j=p∨j=i) H H3:=hf2.trans (fr_p c4) fun j q=>.inl q;obtain⟨H4,d1,d2⟩:=c_number w (b2.rs.sh w (mem_cons_self ..)) H3 (hA.laid hL hf3);have hf4:Frm (fun j=>j=p∨j=i) H H4:=hf3.trans (fr_0 d2) fun j q=>.inl q;rw[zbL c1,zae d1];dsimp only;cases hx:numP w with
    |none=>
     refine⟨H4,?_,hf4⟩;have e0:∀{α:Type} (k:Value→Option α),zaf (numV none) 0 k=k (.int .u64 0):=fun k=>rfl;have e1:∀{α:Type} (k:Value→Option α),zaf (numV none) 1 k=k (.int .i64 10):=fun k=>rfl;simp only[e0,e1,zbt,zac,s_br,zcm,show ((10:Int)≠0) from by decide,decide_true,if_true,ne_eq,not_false_eq_true]
    |some x=>
     obtain⟨H5,e1,e2,e3⟩:=(c2.keep d2).st (o:=0+5) (v:=.int .u64 (x:Int)) (m:={ n with w:=v,num:=(x:Int) }) rfl rfl (by decide) rfl;refine⟨H5,wv3,?_,e2,fun j q=>a3 j (c3 j q),hf4.trans (fr_i e3) fun j q=>.inl q⟩;have z0:∀{α:Type} (k:Value→Option α),zaf (numV (some x)) 0 k=k (.int .u64 (x:Int)):=fun k=>rfl;have z1:∀{α:Type} (k:Value→Option α),zaf (numV (some x)) 1 k=k (.int .i64 0):=fun k=>rfl;have hz:¬((0:Int)≠0):=by decide
     simp only[z0,z1,zbt,zac,s_br,hz,decide_false,Bool.false_eq_true,if_false,e1]
 ·rw[if_neg h3];by_cases h4:n.op=4
  ·rw[if_pos h4,rd_s];have hop4:∀{α:Type} (k:Value→Option α),zal 1 false H (.pointer (some ⟨i,0+0,none⟩)) k=k (.int .i64 4):=fun k=>by rw[hop,h4]
   simp only[zaI,hop4,zaO,zac,s_br,decide_true,if_true,show ¬((4:Int)=3) from by decide,decide_false,Bool.false_eq_true,if_false];cases ws with
   |nil=>
    rw[zbM h.rs.stop];exact⟨H,rfl,Frm.refl _ _⟩
   |cons w r=>
    obtain⟨H1,wv1,a1,a2,a3,a4⟩:=h.next;obtain⟨H2,b1,b2,b3⟩:=a2.st (o:=0+6) (v:=str w) (m:={ n with name:=ba w }) rfl rfl (by decide) rfl;have hf2:Frm (fun j=>j=p∨j=i) H H2:=(fr_p a4).trans (fr_i b3) fun j q=>.inl q;rw[zbL a1,b1];dsimp only;rw[rd_w];have hn:=b2.of (b2.rs.number (hA.laid hL hf2) hA.p);cases hf:numF r with
    |none=>
     rw[hf]at hn;obtain⟨H3,c1,c2⟩:=hn;rw[zbM c1];exact⟨H3,rfl,hf2.trans (fr_p c2) fun j q=>.inl q⟩
    |some v=>
     rw[hf]at hn;obtain⟨H3,wv3,c1,c2,c3,c4⟩:=hn;obtain⟨H4,d1,d2,d3⟩:=c2.st (o:=0+1) (v:=.int .i64 v) (m:={ n with name:=ba w,w:=v }) rfl rfl (by decide) rfl;refine⟨H4,wv3,?_,d2,fun j q=>a3 j (c3 j q),(hf2.trans (fr_p c4) fun j q=>.inl q).trans (fr_i d3) fun j q=>.inl q⟩;rw[zbL c1,d1]
  ·rw[if_neg h4];simp only[zaI,hop,zaO,zac,s_br,h3,h4,decide_false,Bool.false_eq_true,if_false];exact⟨H,wv,rfl,h,fun j q=>q,Frm.refl _ _⟩
end Go.AM
