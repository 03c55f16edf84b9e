/- Part of the proof of SimpOnceUptoCardSaid: see the last file.  -/
import Derived.Laws.RangeString
import Derived.Laws.RangeAny
import Derived.KernelRfl
import Derived.Lib.DecodeN
import Derived.Laws.MathBits
import Derived.Test.YthcjfegfieoaiaaGreatDoorRows
import Derived.Lib.ItoaLen
import Derived.Lib.Strings
import Derived.Test.YthcjfegfieoaiaaGreatDoorT0
import Derived.Test.YthcjfegfieoaiaaGreatDoorT2
set_option linter.unusedSimpArgs false
set_option linter.unusedVariables false
set_option linter.unusedSectionVars false
set_option linter.constructorNameAsVariable false
set_option maxRecDepth 100000
namespace Go.AM
open Go
def zcf(n:Nd)(a b:Int):Bool:=
 if n.op=1∨n.op=2∨(5≤n.op∧n.op≤13) then decide (n.w=0)
 else if n.op=3 then decide (n.w>0)&&decide (zgZ n.w n.num=n.num)
 else if n.op=4 then true
 else if n.op=14 then decide (n.w=b)
 else if 25≤n.op∧n.op≤29 then decide (n.w=a)&&zfm a
 else if n.op=30 then decide (n.w=a+b)
 else if n.op=31 then decide (n.w≥1)&&decide (n.w≤a)&&decide (n.num≤a-n.w)
 else if n.op=32∨n.op=33 then decide (n.w≥a)
 else decide (n.w=a)
structure Nd.Ok(n:Nd):Prop where
 w0:0≤n.w
 w1:n.w≤64
 o1:1≤n.op
 o2:n.op≤33
 n0:0≤n.num
 n1:n.num<18446744073709551616
theorem zaV{x:Int}(h1:-9223372036854775808≤x)(h2:x≤9223372036854775807):IntKind.i64.wrap x=x:=zfr (by have:IntKind.i64.min=-9223372036854775808:=rfl;omega) (by have:IntKind.i64.max=9223372036854775807:=rfl;omega)
theorem zdH{x:Int}(h1:0≤x)(h2:x≤18446744073709551615):IntKind.u64.wrap x=x:=zfr (by have:IntKind.u64.min=0:=rfl;omega) (by have:IntKind.u64.max=18446744073709551615:=rfl;omega)
section
variable {H:Hp}{p f g:Nat}{lim:Int}{L:List Nd}{sl:Value}
theorem c43(hs:StR H p lim L sl f g)(hL:(L.length:Int)≤4611686018427387904)(n:Nd)(hn:n.Ok)
  (ha:-1≤wT L (-1) n.a∧wT L (-1) n.a≤64) (hb:-1≤wT L (-1) n.b∧wT L (-1) n.b≤64) (hsort:n.op≥15→wT L (-1) n.a>0) :
  RR Ce [.pointer (some ⟨p,0,none⟩),n.val] H=some (.bool (zcf n (wT L (-1) n.a) (wT L (-1) n.b)),H):=by
 refine(zhJ E0 rfl _ _ _).trans ?_;unfold zer;have ht:=c45 n.w n.num hn.n0 hn.n1 H;simp only[n0,n1,n2,n3,n5,zac (c40 hs hL),zaD,zei,zeJ,zl4,zag,s_br,zay,zdl,zaR,zb3,zcb,zbf,zeW,qg0,decide_eq_true_eq,if_true,zdt,zd8,zbM,zac ht];unfold zcf;generalize wT L (-1) n.a=a at *;generalize wT L (-1) n.b=b at *;have o1:=hn.o1;have o2:=hn.o2;by_cases h1:n.op=1
 ·simp[h1]
 by_cases h2:n.op=2
 ·simp[h2]
 by_cases h5:5≤n.op∧n.op≤13
 ·have q:n.op≥5:=h5.1;simp only[h1,h2,h5,q,if_true,if_false,and_self,or_true,decide_true]
 have hc:¬(n.op=1∨n.op=2∨5≤n.op∧n.op≤13):=by omega
 simp only[hc,h1,h2,if_false];by_cases h3:n.op=3
 ·have q:¬n.op≥5:=by omega
  have q2:¬(3:Int)≥5:=by decide
  simp only[h3,q2,if_true,if_false,Bool.false_eq_true];by_cases q:n.w>0<;>simp[q]
 by_cases h4:n.op=4
 ·have q2:¬(4:Int)≥5:=by decide
  have q3:¬(4:Int)=3:=by decide
  simp only[h4,q2,q3,if_true,if_false,Bool.false_eq_true];simp
 have g5:n.op≥5:=by omega
 have g13:¬n.op≤13:=by omega
 simp only[g5,g13,h3,h4,if_true,if_false,decide_false,Bool.false_eq_true];by_cases h14:n.op=14
 ·simp only[h14,if_true];simp
 simp only[h14,if_false];have hap:=hsort (by omega);by_cases h25:25≤n.op∧n.op≤29
 ·have q:n.op≥25:=h25.1;have e:RR A9 [.int .u64 (IntKind.u64.wrap a)] H=some (.int .i64 (pops.getD a.toNat 0),H):=by rw[zdH (by omega) (by omega)];exact c53 a (by omega) (by omega) H
  have e2:=zpP a.toNat (by omega);have e3:((a.toNat:Nat):Int)=a:=Int.toNat_of_nonneg (by omega);rw[e3]at e2;simp only[q,h25.2,if_true,decide_true,zac e,zaD,e2,and_self];by_cases q:n.w=a<;>simp[q,h25.1]
 simp only[h25,if_false];have hA:(if n.op≥25 then some (Ctl.next,[Value.bool (decide (n.op≤29))],H) else some (Ctl.next,[Value.bool false],H))=some (Ctl.next,[Value.bool false],H):=by
  by_cases q:n.op≥25
  ·have:¬n.op≤29:=by omega
   simp[q,this]
  ·simp[q]
 have w1:IntKind.i64.wrap (a+b)=a+b:=zaV (by omega) (by omega);have w0:=hn.w0;have w64:=hn.w1;have w2:IntKind.i64.wrap (a-n.w)=a-n.w:=zaV (by omega) (by omega);by_cases q25:n.op≥25
 ·have q29:¬n.op≤29:=by omega
  simp only[q25,q29,if_true,if_false,decide_false,Bool.false_eq_true,w1,w2];by_cases h30:n.op=30
  ·simp only[h30,if_true]
   try simp
  simp only[h30,if_false];by_cases h31:n.op=31
  ·simp only[h31,if_true];by_cases k1:n.w≥1
   ·by_cases k2:n.w≤a
    ·have k3:IntKind.u64.wrap (a-n.w)=a-n.w:=zdH (by omega) (by omega);simp[k1,k2,k3]
    ·simp[k1,k2]
   ·simp[k1]
  simp only[h31,if_false];by_cases h32:n.op=32
  ·simp[h32]
  by_cases h33:n.op=33
  ·simp[h33]
  omega
 ·have h30:¬n.op=30:=by omega
  have h31:¬n.op=31:=by omega
  have h32:¬n.op=32:=by omega
  have h33:¬n.op=33:=by omega
  simp only[q25,h30,h31,h32,h33,if_false,or_self,Bool.false_eq_true];simp
end
section
end
def zgt(x:Int):Bool:=(decide (x≥97)&&decide (x≤122))||(decide (x≥65)&&decide (x≤90))||decide (x=95)
def zqW(x:Int):Bool:=!(decide (x<48))&&!(decide (x>57))
def zlj(b:UInt8):Bool:=zgt (b.toNat:Int)||zqW (b.toNat:Int)
def zep(s:ByteArray):Bool:=decide (s.size≥1)&&decide (s.size≤24)&&(s.data.toList.head?.any fun b=>zgt (b.toNat:Int))&&(s.data.toList.drop 1).all zlj
theorem s_slen{α:Type}(s:ByteArray)(H:Hp)(k:Value→Option α):pLen .str (.string s) H k=k (.int .i64 s.size):=rfl
end Go.AM
namespace Go.AM
open List Go
theorem zoZ{x:Int}(h:128≤x):zgt x=false:=by
 unfold zgt;have h1:¬x≤122:=by omega
 have h2:¬x≤90:=by omega
 have h3:¬x=95:=by omega
 simp[h1,h2,h3]
theorem zqV{x:Int}(h:128≤x):zqW x=false:=by
 unfold zqW;have h1:x>57:=by omega
 simp[h1]
theorem c44(s:ByteArray)(H:Hp):RR BU [.string s] H=some (.bool (zep s),H):=by
 refine(zoC E0 rfl _ _).trans ?_;unfold zka
 generalize hS:(fun (l12:List Value) (H13:Hp)=>
 br (Nat.blt (zbt ((l12.drop 0).getD 0 undef)) (zbz ((l12.drop 0).getD 0 undef)).size)
 (zaG (
 pBin PP .geq Am (.int .i32 (Utf8.decode (zbz ((l12.drop 0).getD 0 undef)) (zbt ((l12.drop 0).getD 0 undef))).1) (.int .i32 97) fun v14=>
 zae v14 fun b15=>br b15
 (pBin PP .leq Am (.int .i32 (Utf8.decode (zbz ((l12.drop 0).getD 0 undef)) (zbt ((l12.drop 0).getD 0 undef))).1) (.int .i32 122) fun v16=>
 zae v16 fun b17=>br b17
 (some (Ctl.next,[(.bool true)],H13))
 (pBin PP .geq Am (.int .i32 (Utf8.decode (zbz ((l12.drop 0).getD 0 undef)) (zbt ((l12.drop 0).getD 0 undef))).1) (.int .i32 65) fun v18=>
 zae v18 fun b19=>br b19
 (pBin PP .leq Am (.int .i32 (Utf8.decode (zbz ((l12.drop 0).getD 0 undef)) (zbt ((l12.drop 0).getD 0 undef))).1) (.int .i32 90) fun v20=>
 zae v20 fun b21=>br b21
 (some (Ctl.next,[(.bool true)],H13))
 (pBin PP .eql Am (.int .i32 (Utf8.decode (zbz ((l12.drop 0).getD 0 undef)) (zbt ((l12.drop 0).getD 0 undef))).1) (.int .i32 95) fun v22=>
 some (Ctl.next,[v22],H13)))
 (pBin PP .eql Am (.int .i32 (Utf8.decode (zbz ((l12.drop 0).getD 0 undef)) (zbt ((l12.drop 0).getD 0 undef))).1) (.int .i32 95) fun v23=>
 some (Ctl.next,[v23],H13))))
 (pBin PP .geq Am (.int .i32 (Utf8.decode (zbz ((l12.drop 0).getD 0 undef)) (zbt ((l12.drop 0).getD 0 undef))).1) (.int .i32 65) fun v24=>
 zae v24 fun b25=>br b25
 (pBin PP .leq Am (.int .i32 (Utf8.decode (zbz ((l12.drop 0).getD 0 undef)) (zbt ((l12.drop 0).getD 0 undef))).1) (.int .i32 90) fun v26=>
 zae v26 fun b27=>br b27
 (some (Ctl.next,[(.bool true)],H13))
 (pBin PP .eql Am (.int .i32 (Utf8.decode (zbz ((l12.drop 0).getD 0 undef)) (zbt ((l12.drop 0).getD 0 undef))).1) (.int .i32 95) fun v28=>
 some (Ctl.next,[v28],H13)))
 (pBin PP .eql Am (.int .i32 (Utf8.decode (zbz ((l12.drop 0).getD 0 undef)) (zbt ((l12.drop 0).getD 0 undef))).1) (.int .i32 95) fun v29=>
 some (Ctl.next,[v29],H13)))) fun q30 l31 H32=>zaM q30
 (pUn .not (l31.getD 0 undef) fun v34=>
 zae v34 fun b35=>br b35
 (pBin PP .eql Aa (.int .i64 ((zbt ((l12.drop 0).getD 0 undef)):Nat)) (.int .i64 0) fun v36=>
 zae v36 fun b37=>br b37
 (some (Ctl.ret,[(.bool false)],H32))
 (pBin PP .lss Am (.int .i32 (Utf8.decode (zbz ((l12.drop 0).getD 0 undef)) (zbt ((l12.drop 0).getD 0 undef))).1) (.int .i32 48) fun v38=>
 zae v38 fun b39=>br b39
 (some (Ctl.ret,[(.bool false)],H32))
 (pBin PP .gtr Am (.int .i32 (Utf8.decode (zbz ((l12.drop 0).getD 0 undef)) (zbt ((l12.drop 0).getD 0 undef))).1) (.int .i32 57) fun v40=>
 zae v40 fun b41=>br b41
 (some (Ctl.ret,[(.bool false)],H32))
 (some (Ctl.next,[(.tuple #[.string (zbz ((l12.drop 0).getD 0 undef)),.int .i64 (((zbt ((l12.drop 0).getD 0 undef))+(Utf8.decode (zbz ((l12.drop 0).getD 0 undef)) (zbt ((l12.drop 0).getD 0 undef))).2):Nat)])],H32)))))
 (some (Ctl.next,[(.tuple #[.string (zbz ((l12.drop 0).getD 0 undef)),.int .i64 (((zbt ((l12.drop 0).getD 0 undef))+(Utf8.decode (zbz ((l12.drop 0).getD 0 undef)) (zbt ((l12.drop 0).getD 0 undef))).2):Nat)])],H32)))
 (fun i33=>zaI i33 1 (
 some (Ctl.next,[(.tuple #[.string (zbz ((l12.drop 0).getD 0 undef)),.int .i64 (((zbt ((l12.drop 0).getD 0 undef))+(Utf8.decode (zbz ((l12.drop 0).getD 0 undef)) (zbt ((l12.drop 0).getD 0 undef))).2):Nat)])],H32)) (
 some (Ctl.exit i33,[(.tuple #[.string (zbz ((l12.drop 0).getD 0 undef)),.int .i64 (((zbt ((l12.drop 0).getD 0 undef))+(Utf8.decode (zbz ((l12.drop 0).getD 0 undef)) (zbt ((l12.drop 0).getD 0 undef))).2):Nat)])],H32)))
 (some (Ctl.ret,[(l31.headD undef)],H32)))
 (some (Ctl.exit 0,[(.tuple #[.string (zbz ((l12.drop 0).getD 0 undef)),.int .i64 ((zbt ((l12.drop 0).getD 0 undef)):Nat)])],H13)))=S
 have hlen:s.data.toList.length=s.size:=by simp
 have hstep:∀(i:Nat) (b:UInt8),s.data.toList[i]?=some b→S [.tuple #[.string s,.int .i64 (i:Nat)]] H =
   if (zgt (b.toNat:Int)||(decide (i≠0)&&zqW (b.toNat:Int)))=true then some (.next,[.tuple #[.string s,.int .i64 ((i+1:Nat))]],H) else some (.ret,[.bool false],H):=by
  intro i b hb;have hl:i<s.data.toList.length:=(List.getElem?_eq_some_iff.1 hb).1;have hi:i<s.size:=by omega
  have hsb:s[i]'hi=b:=by have:s[i]=s.data[i]'(by simpa using hl):=rfl;rw[this];rw[List.getElem?_eq_getElem hl]at hb;simpa using hb
  have e1:zbz (.tuple #[.string s,.int .i64 (i:Nat)])=s:=rfl;have e2:zbt (.tuple #[.string s,.int .i64 (i:Nat)])=i:=by simp[zbt]
  have e3:Nat.blt i s.size=true:=Nat.ble_eq_true_of_le hi;have e4:((i:Nat):Int)=0↔i=0:=by omega
  rw[←hS];simp only[qd0,qg0,e1,e2,e3];simp only[zeJ,zl4,zaD,zbL,zei,zag,s_br,zay,zdl,zaR,zb0,qg0,if_true,decide_eq_true_eq,e4];by_cases hasc:b.toNat<128
  ·have hd:=decode_ascii s i hi (by rw[hsb];exact hasc);rw[hsb]at hd;simp only[hd];unfold zgt zqW;generalize ((b.toNat:Nat):Int)=x;by_cases a1:x≥97<;>by_cases a2:x≤122<;>by_cases a3:x≥65<;>by_cases a4:x≤90<;>by_cases a5:x=95<;>by_cases a6:i=0<;>simp[a1,a2,a3,a4,a5,a6] <;>
    (by_cases a7:x<48<;>by_cases a8:x>57<;>simp[a7,a8])
  ·have hd:=decode_high s i hi (by rw[hsb];omega);generalize Utf8.decode s i=q at hd ⊢;obtain⟨r,wd⟩:=q;have k1:¬((r:Nat):Int)≤122:=by have:=hd.1;dsimp only at this;omega
   have k2:¬((r:Nat):Int)≤90:=by omega
   have k3:¬((r:Nat):Int)=95:=by omega
   have k4:¬((r:Nat):Int)<48:=by omega
   have k5:((r:Nat):Int)>57:=by omega
   rw[zoZ (by omega),zqV (by omega)];simp[k1,k2,k3,k4,k5]
 have hend:S [.tuple #[.string s,.int .i64 (s.size:Nat)]] H=some (.exit 0,[.tuple #[.string s,.int .i64 (s.size:Nat)]],H):=by
  have e1:zbz (.tuple #[.string s,.int .i64 (s.size:Nat)])=s:=rfl;have e2:zbt (.tuple #[.string s,.int .i64 (s.size:Nat)])=s.size:=by simp[zbt]
  have e3:Nat.blt s.size s.size=false:=by
   cases hq:Nat.blt s.size s.size with
   |false=>rfl
   |true=>have:=Nat.le_of_ble_eq_true hq;omega
  rw[←hS];simp only[qd0,qg0,e1,e2,e3];rfl
 have hloop:∀(r:List UInt8) (i:Nat),s.data.toList.drop i=r→i≤s.size→1≤i→zbi S [.tuple #[.string s,.int .i64 (i:Nat)]] H=if r.all zlj=true then some (.exit 0,[.tuple #[.string s,.int .i64 (s.size:Nat)]],H) else some (.ret,[.bool false],H):=by
  intro r;induction r with
  |nil=>
   intro i hd hi h1;have:s.data.toList.length≤i:=by simpa using hd
   have:i=s.size:=by omega
   subst this;rw[zaW,hend];simp[zk0]
  |cons b r ih=>
   intro i hd hi h1;have hb:s.data.toList[i]?=some b:=by
    have:(s.data.toList.drop i)[0]?=some b:=by rw[hd];rfl
    rw[List.getElem?_drop]at this;simpa using this
   have hl:i<s.data.toList.length:=(List.getElem?_eq_some_iff.1 hb).1;have hd':s.data.toList.drop (i+1)=r:=by rw[←drop_drop,hd];rfl
   have hne:decide (i≠0)=true:=decide_eq_true (by omega);have hok:(zgt (b.toNat:Int)||(decide (i≠0)&&zqW (b.toNat:Int)))=zlj b:=by rw[hne];rfl
   rw[zaW,hstep i b hb,hok];cases hk:zlj b with
   |true=>
    simp only[if_true,Option.bind_some,zk0];rw[ih (i+1) hd' (by omega) (by omega)];simp[hk]
   |false=>simp[hk,zk0]
 simp only[s_slen,zbL,zei,zag,s_br,decide_eq_true_eq];unfold zep;by_cases h1:(s.size:Int)<1
 ·have:¬s.size≥1:=by omega
  simp[h1,this,zay,zcb]
 by_cases h2:(s.size:Int)>24
 ·have:¬s.size≤24:=by omega
  simp[h1,h2,this,zay,zcb]
 have g1:s.size≥1:=by omega
 have g2:s.size≤24:=by omega
 obtain⟨c,r,hcr⟩:∃c r,s.data.toList=c::r:=by
  cases hq:s.data.toList with
  |nil=>rw[hq]at hlen;simp at hlen;omega
  |cons c r=>exact⟨c,r,rfl⟩
 simp only[h1,h2,if_false,zay,zaR];have h0:s.data.toList[0]?=some c:=by rw[hcr];rfl
 have hd1:s.data.toList.drop 1=r:=by rw[hcr];rfl
 have hlp:=hloop r 1 hd1 g1 (Nat.le_refl _);have hst:=hstep 0 c h0;have hfirst:zbi S [.tuple #[.string s,.int .i64 ((0:Nat):Int)]] H=if zgt (c.toNat:Int)=true then (if r.all zlj=true then some (.exit 0,[.tuple #[.string s,.int .i64 (s.size:Nat)]],H) else some (.ret,[.bool false],H)) else some (.ret,[.bool false],H):=by
  rw[zaW,hst];cases hc:zgt (c.toNat:Int) with
  |false=>simp[zk0]
  |true=>
   simp only[Bool.true_or,if_true,Option.bind_some,zk0];exact hlp
 show (zaG (zbi S [.tuple #[.string s,.int .i64 ((0:Nat):Int)]] H) _)=_;rw[hfirst,hd1,hcr];cases hc:zgt (c.toNat:Int) with
 |false=>simp[g1,g2,hc,zay,zcb]
 |true=>
  cases r.all zlj with
  |true=>simp[g1,g2,hc,zay,zb3,zbf]
  |false=>simp[g1,g2,hc,zay,zcb]
end Go.AM
namespace Go.AM
open Go
def zoj(b:Bool)(k:Option Bool):Option Bool:=match some b with|some true=>k|r=>r
theorem eq36c(n m:Nd):eqT PP 10000 Af n.val m.val =
  zoj (n.op==m.op) (zoj (n.w==m.w) (zoj (n.a==m.a) (zoj (n.b==m.b) (zoj (n.c==m.c) (zoj (n.num==m.num) (zoj (n.name==m.name) (some true))))))):=by
 kernel_rfl
def zdA(n m:Nd):Bool:=n.op==m.op&&(n.w==m.w&&(n.a==m.a&&(n.b==m.b&&(n.c==m.c&&(n.num==m.num&&n.name==m.name)))))
theorem eq36(n m:Nd):eqT PP 10000 Af n.val m.val=some (zdA n m):=by rw[eq36c];unfold zdA;cases n.op==m.op<;>cases n.w==m.w<;>cases n.a==m.a<;>cases n.b==m.b<;>cases n.c==m.c<;>cases n.num==m.num<;>cases n.name==m.name<;>rfl
theorem eq9(s t:ByteArray):eqT PP 10000 Ae (.string s) (.string t)=some (s==t):=by kernel_rfl
theorem zji(n:Nd):zd7 PP 20 Af n.val=true:=by kernel_rfl
theorem shape9(s:ByteArray):zd7 PP 20 Ae (.string s)=true:=by kernel_rfl
def zd4:Nat→List Nd→List (Value×Value)
 |_,[]=>[]
 |i,n::r=>(n.val,.int .i64 ((i+1:Nat):Int))::zd4 (i+1) r
def zbp(n:Nd):Nat→List Nd→Option Nat
 |_,[]=>none
 |i,m::r=>if zdA n m=true then some i else zbp n (i+1) r
theorem find36(n:Nd):∀(L:List Nd) (i j:Nat),zfU PP Af n.val (zd4 i L) j=some ((zbp n i L).map fun q=>(q-i+j,.int .i64 ((q+1:Nat):Int)))
 |[],i,j=>rfl
 |m::r,i,j=>by
  unfold zd4 zfU zbp;rw[eq36];cases h:zdA n m with
  |true=>simp
  |false=>
   simp only[Bool.false_eq_true,if_false];rw[find36 n r (i+1) (j+1)];cases hp:zbp n (i+1) r with
   |none=>rfl
   |some q=>
    have:i+1≤q:=by
     have aux:∀(L:List Nd) (i q:Nat),zbp n i L=some q→i≤q:=by
      intro L;induction L with
      |nil=>intro i q h;cases h
      |cons m L ih=>
       intro i q h;unfold zbp at h;split at h
       ·cases h;exact Nat.le_refl _
       ·have:=ih (i+1) q h;omega
     exact aux r (i+1) q hp
    simp;omega
theorem look36{H:Hp}{f:Nat}{L:List Nd}(h:H.get f=some (.map (zd4 0 L)))(n:Nd):lookV PP Af (.int .i64 0) (.map (some f)) n.val H =
  some (match zbp n 0 L with|some q=>(.int .i64 ((q+1:Nat):Int),true)|none=>(.int .i64 0,false)):=by
 unfold lookV;rw[zji];simp only[if_true,zqO,h,find36];cases zbp n 0 L<;>rfl
end Go.AM
namespace Go.AM
open List Go
theorem zq7(s t:ByteArray):(s==t)=true↔s=t:=by obtain⟨a⟩:=s;obtain⟨b⟩:=t;show (a==b)=true↔_;simp
theorem zlH(n:Nd):∀(L:List Nd) (i:Nat),zd4 i (L++[n])=zd4 i L++[(n.val,.int .i64 ((i+L.length+1:Nat):Int))]
 |[],i=>rfl
 |m::r,i=>by show (m.val,_)::zd4 (i+1) (r++[n])=_;rw[zlH n r (i+1)];simp only[zd4,cons_append,length_cons];rw[show i+1+r.length+1=i+(r.length+1)+1 by omega]
theorem upd36{H:Hp}{f:Nat}{L:List Nd}(h:H.get f=some (.map (zd4 0 L)))(n:Nd)(hn:zbp n 0 L=none) :
  updV PP Af (.map (some f)) n.val (.int .i64 ((L.length+1:Nat):Int)) H=some (H.set f (some (.map (zd4 0 (L++[n]))))):=by
 unfold updV;rw[zji];simp only[if_true,h,find36,hn,Option.map_none];rw[zlH,Nat.zero_add]
def zdO(K:List (ByteArray×Int)):List (Value×Value):=K.map fun x=>(.string x.1,.int .i64 x.2)
def za6(s:ByteArray):Nat→List (ByteArray×Int)→Option (Nat×Int)
 |_,[]=>none
 |i,(t,w)::r=>if (s==t)=true then some (i,w) else za6 s (i+1) r
theorem find9(s:ByteArray):∀(K:List (ByteArray×Int)) (i:Nat),zfU PP Ae (.string s) (zdO K) i=some ((za6 s i K).map fun q=>(q.1,.int .i64 q.2))
 |[],i=>rfl
 |(t,w)::r,i=>by
  show (match eqT PP 10000 Ae (.string s) (.string t) with|some true=>some (some (i,Value.int .i64 w))|some false=>zfU PP Ae (.string s) (zdO r) (i+1)|none=>none)=_;rw[eq9];unfold za6;cases h:s==t with
  |true=>simp
  |false=>
   simp only[Bool.false_eq_true,if_false];exact find9 s r (i+1)
theorem look9{H:Hp}{g:Nat}{K:List (ByteArray×Int)}(h:H.get g=some (.map (zdO K)))(s:ByteArray):lookV PP Ae (.int .i64 0) (.map (some g)) (.string s) H =
  some (match za6 s 0 K with|some q=>(.int .i64 q.2,true)|none=>(.int .i64 0,false)):=by
 unfold lookV;rw[shape9];simp only[if_true,zqO,h,find9];cases za6 s 0 K<;>rfl
theorem zlq(s:ByteArray):∀(K:List (ByteArray×Int)) (i j:Nat) (w:Int),za6 s i K=some (j,w)→i≤j∧K[j-i]?=some (s,w)
 |[],i,j,w,h=>by cases h
 |(t,u)::r,i,j,w,h=>by
  unfold za6 at h;split at h
  ·rename_i e;cases h;have:s=t:=(zq7 s t).1 e;subst this;exact⟨Nat.le_refl _,by simp⟩
  ·obtain⟨h1,h2⟩:=zlq s r (i+1) j w h;refine⟨by omega,?_⟩;rw[show j-i=(j-(i+1))+1 by omega];simpa using h2
def zbm(s:ByteArray)(w:Int)(K:List (ByteArray×Int)):List (ByteArray×Int):=match za6 s 0 K with|some _=>K|none=>K++[(s,w)]
theorem upd9{H:Hp}{g:Nat}{K:List (ByteArray×Int)}(h:H.get g=some (.map (zdO K)))(s:ByteArray)(w:Int)(hw:∀j u,za6 s 0 K=some (j,u)→u=w) :
  updV PP Ae (.map (some g)) (.string s) (.int .i64 w) H=some (H.set g (some (.map (zdO (zbm s w K))))):=by
 unfold updV zbm;rw[shape9];simp only[if_true,h,find9];cases hq:za6 s 0 K with
 |none=>simp[zdO]
 |some q=>
  obtain⟨j,u⟩:=q;have hu:=hw j u hq;subst hu;obtain⟨_,h2⟩:=zlq s K 0 j u hq;rw[Nat.sub_zero]at h2;have hk:(zdO K)[j]?=some (.string s,.int .i64 u):=by unfold zdO;rw[List.getElem?_map,h2];rfl
  have hset:zkR (zdO K) j (.string s) (.int .i64 u)=zdO K:=by
   unfold zkR;apply ext_getElem?;intro i;rw[List.getElem?_set];split
   ·rename_i e;subst e;rw[if_pos (List.getElem?_eq_some_iff.1 hk).1,hk]
   ·rfl
  have hsb:Instr.sameBits 10000 (.string s) (.string s)=true:=by simp only[Instr.sameBits];exact(zq7 s s).2 rfl
  simp only[Option.map_some,hk,hsb,if_true,hset]
def slId:Value→Option Nat
 |.slice (some a) _ _=>some a.block
 |_=>none
theorem zgK(H:Hp)(o:AObj)(i:Nat):(H.new o).get i=if i=H.next then some o else H.get i:=rfl
theorem zo4(H:Hp)(j:Nat)(o:Option AObj)(i:Nat):(H.set j o).get i=if i=j then o else H.get i:=rfl
theorem znI(H:Hp)(j:Nat)(o:Option AObj):(H.set j o).next=H.next:=rfl
theorem zkt(n:Nd):n.cells.all one=true:=rfl
theorem zpi{H:Hp}{sl:Value}{L:List Nd}(hsl:SlR H sl L){y:Nat}{own:Bool}{n:Nd}(hy:H.get y=some (.cells n.cells own))(hlt:∀i,slId sl=some i→i<H.next)(hb:(L.length+1)*64≤2^47) :
  ∃sl' H',zbc 7 64 sl (.slice (some ⟨y,0,some 7⟩) 1 1) H=some (sl',H')∧SlR H' sl' (L++[n])∧slId sl'=some H.next∧H'.next=H.next+1 ∧
   ∀j,j<H.next→slId sl≠some j→H'.get j=H.get j:=by
 have hsrc:zbA 7 (.slice (some ⟨y,0,some 7⟩) 1 1) H=some (1,n.cells):=by simp[zbA,hy,Nd.cells]
 rcases hsl with⟨rfl,rfl⟩|⟨i,rfl,hi⟩
 ·refine⟨.slice (some ⟨H.next,0,some 7⟩) 1 1,H.new (.cells n.cells true),?_,.inr ⟨H.next,rfl,?_⟩,rfl,rfl,fun j hj _=>?_⟩
  ·unfold zbc;rw[hsrc];simp[zkt]
  ·rw[zgK,if_pos rfl];simp
  ·rw[zgK,if_neg (by omega)]
 ·refine⟨.slice (some ⟨H.next,0,some 7⟩) (L.length+1) (L.length+1),(H.set i none).new (.cells (L.flatMap Nd.cells++n.cells) true),?_,.inr ⟨H.next,by simp,?_⟩,rfl,rfl,fun j hj hne=>?_⟩
  ·unfold zbc;rw[hsrc];have h1:¬L.length+1≤L.length:=by omega
   have h2:(L.flatMap Nd.cells).take (L.length*7)=L.flatMap Nd.cells:=take_of_length_le (by rw[zmz];omega);have h3:0+L.length*7≤(L.flatMap Nd.cells).length:=by rw[zmz];omega
   simp only[ne_eq,not_true_eq_false,if_false,hi,h1,Nat.one_ne_zero,false_and,h3,hb,zkt,and_self,if_true,qd0,h2]
  ·rw[zgK,if_pos (znI _ _ _).symm];simp[flatMap_append]
  ·have:j≠i:=fun e=>hne (by rw[e];rfl);rw[zgK,znI,if_neg (by omega),zo4,if_neg this]
end Go.AM
namespace Go.AM
open Go
noncomputable def tailM(p:Nat)(n:Nd)(H:Hp):Option (Value×Hp):=
 (pNil (.pointer (some ⟨p,0,none⟩)) (
 za5 1 (.pointer (some ⟨p,0,none⟩)) fun p124=>
 zaH 1 false H p124 fun v125=>
 zaf 7 true (zad n.val) 0 fun v126=>
 zaP 7 [.int .i64 0,.int .i64 0,.int .i64 0,.int .i64 0,.int .i64 0,.int .u64 0,.string ⟨#[]⟩] 1 [(0,v126)] H fun v127 H128=>
 chk (Hp.rdP H128 p124 1 false=some v125) (
 zbb 7 64 v125 v127 H128 fun v129 H130=>
 pNil (.pointer (some ⟨p,0,none⟩)) (
 za5 1 (.pointer (some ⟨p,0,none⟩)) fun p131=>
 za8 1 H130 p131 v129 fun H132=>
 pNil (.pointer (some ⟨p,0,none⟩)) (
 za5 2 (.pointer (some ⟨p,0,none⟩)) fun p133=>
 zaH 1 false H132 p133 fun v134=>
 zaf 7 true (zad n.val) 0 fun v135=>
 pNil (.pointer (some ⟨p,0,none⟩)) (
 za5 1 (.pointer (some ⟨p,0,none⟩)) fun p136=>
 zaH 1 false H132 p136 fun v137=>
 pLen .sl v137 H132 fun v138=>
 pUpd PP Af v134 v135 v138 H132 fun H139=>
 zaf 1 false (zad n.val) 0 fun v140=>
 pBin PP .eql Aa v140 (.int .i64 4) fun v141=>
 zae v141 fun b142=>br b142
 (pNil (.pointer (some ⟨p,0,none⟩)) (
 za5 3 (.pointer (some ⟨p,0,none⟩)) fun p143=>
 zaH 1 false H139 p143 fun v144=>
 zaf 1 false (zad n.val) 6 fun v145=>
 zaf 1 false (zad n.val) 1 fun v146=>
 pUpd PP Ae v144 v145 v146 H139 fun H147=>
 pNil (.pointer (some ⟨p,0,none⟩)) (
 za5 1 (.pointer (some ⟨p,0,none⟩)) fun p148=>
 zaH 1 false H147 p148 fun v149=>
 pLen .sl v149 H147 fun v150=>
 some ((.tuple #[v150,(.int .i64 0)]),H147))))
 (pNil (.pointer (some ⟨p,0,none⟩)) (
 za5 1 (.pointer (some ⟨p,0,none⟩)) fun p151=>
 zaH 1 false H139 p151 fun v152=>
 pLen .sl v152 H139 fun v153=>
 some ((.tuple #[v153,(.int .i64 0)]),H139)))))))))
theorem zlO(n:Nd)(H:Hp){α:Type}(k:Value→Hp→Option α) :
  zaP 7 [.int .i64 0,.int .i64 0,.int .i64 0,.int .i64 0,.int .i64 0,.int .u64 0,.string ⟨#[]⟩] 1 [(0,n.val)] H k=k (.slice (some ⟨H.next,0,some 7⟩) 1 1) (H.new (.cells n.cells true)):=by
 have:zbP 7 [.int .i64 0,.int .i64 0,.int .i64 0,.int .i64 0,.int .i64 0,.int .u64 0,.string ⟨#[]⟩] 1 [(0,n.val)] H=some (.slice (some ⟨H.next,0,some 7⟩) 1 1,H.new (.cells n.cells true)):=by have h1:zad n.val=n.cells:=rfl;have h2:n.cells.length=7:=rfl;simp[zbP,repl,zkm,h1,h2,zkt,spl]
 unfold zaP;rw[this]
theorem zjp{α:Type}{q:Prop}(h:q)(k:Option α):chk q k=k:=by unfold chk;exact if_pos h
structure StF(H:Hp)(p:Nat)(lim:Int)(L:List Nd)(K:List (ByteArray×Int))(sl:Value)(f g:Nat):Prop where
 st:StR H p lim L sl f g
 fm:H.get f=some (.map (zd4 0 L))
 gm:H.get g=some (.map (zdO K))
 pf:p≠f
 pg:p≠g
 fg:f≠g
 lp:p<H.next
 lf:f<H.next
 lg:g<H.next
 sa:∀i,slId sl=some i→i≠p∧i≠f∧i≠g∧i<H.next
theorem store1{α:Type}{H:Hp}{p f g:Nat}{lim:Int}{sl:Value}(hs:H.get p=some (.cells [.int .i64 lim,sl,.map (some f),.map (some g)] true))(v:Value)(hv:zad v=[v])(h1:one v=true)(k:Hp→Option α) :
  za8 1 H (.pointer (some ⟨p,1,none⟩)) v k=k (H.set p (some (.cells [.int .i64 lim,v,.map (some f),.map (some g)] true))):=by
 have:H.wr (.pointer (some ⟨p,1,none⟩)) 1 v=some (H.set p (some (.cells [.int .i64 lim,v,.map (some f),.map (some g)] true))):=by simp[Hp.wr,hs,zbV,hv,h1,spl]
 unfold za8;rw[this]
theorem zpC{α:Type}{n m:Nat}{s x:Value}{H:Hp}{v:Value}{H':Hp}(h:zbc n m s x H=some (v,H'))(k:Value→Hp→Option α):zbb n m s x H k=k v H':=by unfold zbb;rw[h]
theorem s_upd{α:Type}{P:Program}{kt:TypeId}{m key v:Value}{H H':Hp}(h:updV P kt m key v H=some H')(k:Hp→Option α):pUpd P kt m key v H k=k H':=by unfold pUpd;rw[h]
theorem tail_ok{H:Hp}{p f g:Nat}{lim:Int}{L:List Nd}{K:List (ByteArray×Int)}{sl:Value}(h:StF H p lim L K sl f g)(n:Nd)(hn:zbp n 0 L=none)(hw:n.op=4→∀j u,za6 n.name 0 K=some (j,u)→u=n.w)(hb:(L.length+1)*64≤2^47) :
  ∃H' sl',tailM p n H=some (.tuple #[.int .i64 ((L.length+1:Nat):Int),.int .i64 0],H')∧StF H' p lim (L++[n]) (if n.op=4 then zbm n.name n.w K else K) sl' f g∧H.next≤H'.next ∧
   (∀j,j<H.next→j≠p→j≠f→j≠g→slId sl≠some j→H'.get j=H.get j)∧(∀i,slId sl'=some i→H.next≤i):=by
 have hlp:=h.lp;have hlf:=h.lf;have hlg:=h.lg;have hH1:∀j,j<H.next→(H.new (.cells n.cells true)).get j=H.get j:=fun j hj=>by rw[zgK,if_neg (by omega)]
 have hsl1:SlR (H.new (.cells n.cells true)) sl L:=by
  rcases h.st.all with⟨e1,e2⟩|⟨i,e1,e2⟩
  ·exact .inl ⟨e1,e2⟩
  ·have:=(h.sa i (by rw[e1];rfl)).2.2.2;exact .inr ⟨i,e1,by rw[hH1 i this];exact e2⟩
 obtain⟨sl',H2,ha,hsl2,hid,hnx,hfr⟩:=zpi hsl1 (y:=H.next) (own:=true) (n:=n) (by rw[zgK,if_pos rfl]) (fun i hi=>by have:=(h.sa i hi).2.2.2;show i<H.next+1;omega) hb;have hnx1:(H.new (.cells n.cells true)).next=H.next+1:=rfl;rw[hnx1]at hid hnx hfr;have hg2:∀j,j<H.next→slId sl≠some j→H2.get j=H.get j:=fun j hj hne=>by rw[hfr j (by omega) hne,hH1 j hj]
 have sp:slId sl≠some p:=fun e=>(h.sa p e).1 rfl;have sf:slId sl≠some f:=fun e=>(h.sa f e).2.1 rfl;have sg:slId sl≠some g:=fun e=>(h.sa g e).2.2.1 rfl;have hsl':∃c,sl'=.slice (some ⟨H.next+1,0,some 7⟩) (L++[n]).length c:=by
  rcases hsl2 with⟨e1,_⟩|⟨i,e1,_⟩
  ·simp at e1
  ·rw[e1]at hid;have:i=H.next+1:=by simpa[slId] using hid
   subst this;exact⟨_,e1⟩
 obtain⟨c,hslc⟩:=hsl';have hobj2:H2.get p=some (.cells [.int .i64 lim,sl,.map (some f),.map (some g)] true):=by rw[hg2 p hlp sp];exact h.st.obj
 have hcl:zad sl'=[sl']:=by rw[hslc];rfl
 have hone:one sl'=true:=by rw[hslc];rfl
 generalize hH3:H2.set p (some (.cells [.int .i64 lim,sl',.map (some f),.map (some g)] true))=H3;have g3:∀j,j≠p→H3.get j=H2.get j:=fun j hj=>by rw[←hH3,zo4,if_neg hj]
 have obj3:H3.get p=some (.cells [.int .i64 lim,sl',.map (some f),.map (some g)] true):=by rw[←hH3,zo4,if_pos rfl]
 have n3:H3.next=H.next+2:=by rw[←hH3,znI,hnx]
 have hsl3:SlR H3 sl' (L++[n]):=by
  rcases hsl2 with⟨e1,_⟩|⟨i,e1,e2⟩
  ·simp at e1
  ·have:i=H.next+1:=by rw[e1]at hid;simpa[slId] using hid
   exact .inr ⟨i,e1,by rw[g3 i (by omega)];exact e2⟩
 have hf3:H3.get f=some (.map (zd4 0 L)):=by rw[g3 f (Ne.symm h.pf),hg2 f hlf sf];exact h.fm
 have hg3:H3.get g=some (.map (zdO K)):=by rw[g3 g (Ne.symm h.pg),hg2 g hlg sg];exact h.gm
 have st3:StR H3 p lim (L++[n]) sl' f g:=⟨obj3,hsl3⟩
 have hu:=upd36 hf3 n hn;generalize hH4:H3.set f (some (.map (zd4 0 (L++[n]))))=H4 at hu;have g4:∀j,j≠f→H4.get j=H3.get j:=fun j hj=>by rw[←hH4,zo4,if_neg hj]
 have n4:H4.next=H.next+2:=by rw[←hH4,znI,n3]
 have obj4:H4.get p=some (.cells [.int .i64 lim,sl',.map (some f),.map (some g)] true):=by rw[g4 p h.pf];exact obj3
 have hf4:H4.get f=some (.map (zd4 0 (L++[n]))):=by rw[←hH4,zo4,if_pos rfl]
 have hg4:H4.get g=some (.map (zdO K)):=by rw[g4 g (Ne.symm h.fg)];exact hg3
 have hslk:∀{Hx:Hp},(∀j,j≠p→j≠f→j≠g→Hx.get j=H3.get j)→SlR Hx sl' (L++[n]):=fun hx=>by
  rcases hsl3 with⟨e1,_⟩|⟨i,e1,e2⟩
  ·simp at e1
  ·have:i=H.next+1:=by rw[e1]at hid;simpa[slId] using hid
   exact .inr ⟨i,e1,by rw[hx i (by omega) (by omega) (by omega)];exact e2⟩
 have st4:StR H4 p lim (L++[n]) sl' f g:=⟨obj4,hslk fun j _ hf _=>g4 j hf⟩
 have hlen:((L++[n]).length:Int)=((L.length+1:Nat):Int):=by simp
 have hapart:∀i,slId sl'=some i→i≠p∧i≠f∧i≠g∧i<H.next+2:=fun i hi=>by rw[hid]at hi;cases hi;exact⟨by omega,by omega,by omega,by omega⟩
 have hframe4:∀j,j<H.next→j≠p→j≠f→j≠g→slId sl≠some j→H4.get j=H.get j:=fun j a b c d e=>by rw[g4 j c,g3 j b,hg2 j a e]
 have hge:∀i,slId sl'=some i→H.next≤i:=fun i hi=>by rw[hid]at hi;cases hi;omega
 have hchk:Hp.rdP (H.new (.cells n.cells true)) (.pointer (some ⟨p,1,none⟩)) 1 false=some sl:=by simp[Hp.rdP,Hp.rd,hH1 p hlp,h.st.obj,zcD]
 by_cases hop:n.op=4
 ·have hu9:=upd9 hg4 n.name n.w (hw hop);generalize hH5:H4.set g (some (.map (zdO (zbm n.name n.w K))))=H5 at hu9;have g5:∀j,j≠g→H5.get j=H4.get j:=fun j hj=>by rw[←hH5,zo4,if_neg hj]
  have n5:H5.next=H.next+2:=by rw[←hH5,znI,n4]
  have obj5:H5.get p=some (.cells [.int .i64 lim,sl',.map (some f),.map (some g)] true):=by rw[g5 p h.pg];exact obj4
  have st5:StR H5 p lim (L++[n]) sl' f g:=⟨obj5,hslk fun j _ hf hg=>by rw[g5 j hg,g4 j hf]⟩
  refine⟨H5,sl',?_,⟨st5,?_,?_,h.pf,h.pg,h.fg,by omega,by omega,by omega,by rw[n5];exact hapart⟩,by omega,fun j a b c d e=>?_,hge⟩
  ·unfold tailM;simp only[zbw,zaY,Nat.zero_add,h.st.l1,n07,zlO];rw[zjp hchk,zpC ha,store1 hobj2 sl' hcl hone,hH3];simp only[st3.l1,st3.l2,hsl3.len,hlen];rw[s_upd hu];simp only[n0,n1,n6,zaD,hop,decide_true,zag,s_br,if_true,st4.l3];rw[s_upd hu9];simp only[st5.l1,st5.all.len,hlen]
  ·rw[g5 f h.fg];exact hf4
  ·rw[if_pos hop,←hH5,zo4,if_pos rfl]
  ·rw[g5 j d];exact hframe4 j a b c d e
 ·refine⟨H4,sl',?_,⟨st4,hf4,?_,h.pf,h.pg,h.fg,by omega,by omega,by omega,by rw[n4];exact hapart⟩,by omega,hframe4,hge⟩
  ·unfold tailM;simp only[zbw,zaY,Nat.zero_add,h.st.l1,n07,zlO];rw[zjp hchk,zpC ha,store1 hobj2 sl' hcl hone,hH3];simp only[st3.l1,st3.l2,hsl3.len,hlen];rw[s_upd hu];simp only[n0,zaD,hop,decide_false,zag,s_br,Bool.false_eq_true,if_false,st4.l1,st4.all.len,hlen]
  ·rw[if_neg hop];exact hg4
end Go.AM
namespace Go.AM
open List Go
def zbh(L:List Nd)(n:Nd):Bool:=(decide (zax n.op≥1)&&!isT L n.a)||(decide (zax n.op≥2)&&!isT L n.b)||(decide (zax n.op≥3)&&!isT L n.c)
def zbr(K:List (ByteArray×Int))(n:Nd):Bool:=!zep n.name||(match za6 n.name 0 K with|some q=>decide (q.2≠n.w)|none=>false)
def zcs(L:List Nd)(K:List (ByteArray×Int))(n:Nd):Int:=
 if n.op<1∨n.op>33 then 73 else if n.w<0∨n.w>64 then 5 else if zbh L n=true then 70 else if zdq (zax n.op) n=true then 1
 else if zcg n.op (wT L (-1) n.a) (wT L (-1) n.b) (wT L (-1) n.c)=false then 71 else if zcf n (wT L (-1) n.a) (wT L (-1) n.b)=false then 5
 else if n.op=4∧zbr K n=true then 72 else 0
def mkR(lim:Int)(L:List Nd)(K:List (ByteArray×Int))(n:Nd):Int×Int×List Nd×List (ByteArray×Int):=
 if zcs L K n≠0 then (0,zcs L K n,L,K) else match zbp n 0 L with
  |some q=>(((q+1:Nat):Int),0,L,K)
  |none=>if lim>0∧(L.length:Int)≥lim then (0,4,L,K) else (((L.length+1:Nat):Int),0,L++[n],if n.op=4 then zbm n.name n.w K else K)
theorem wT_bd{L:List Nd}(h:∀m∈L,0≤m.w∧m.w≤64)(t:Int):-1≤wT L (-1) t∧wT L (-1) t≤64:=by
 unfold wT;split
 ·cases hq:L[(t-1).toNat]? with
  |none=>simp
  |some m=>
   have:=h m (mem_of_getElem? hq);simp;omega
 ·omega
end Go.AM
namespace Go.AM
open Go
theorem zib{α:Type}{P:Program}{kt:TypeId}{z m key v:Value}{b:Bool}{H:Hp}(h:lookV P kt z m key H=some (v,b))(k:Value→Option α):zc3 P kt z m key true H k=k (.tuple #[v,.bool b]):=by unfold zc3;rw[h]
theorem s_ext0{α:Type}(x y:Value)(k:Value→Option α):zaa (.tuple #[x,y]) 0 k=k x:=rfl
theorem s_ext1{α:Type}(x y:Value)(k:Value→Option α):zaa (.tuple #[x,y]) 1 k=k y:=rfl
noncomputable def zl8(p:Nat)(n:Nd)(H:Hp):Option (Value×Hp):=
 pNil (.pointer (some ⟨p,0,none⟩)) (
 za5 2 (.pointer (some ⟨p,0,none⟩)) fun p102=>
 zaH 1 false H p102 fun v103=>
 zaf 7 true (zad n.val) 0 fun v104=>
 zc3 PP Af (.int .i64 0) v103 v104 true H fun v105=>
 zaa v105 0 fun v106=>
 zaa v105 1 fun v107=>
 zae v107 fun b108=>br b108
 (some ((.tuple #[v106,(.int .i64 0)]),H))
 (zaG (
 pNil (.pointer (some ⟨p,0,none⟩)) (
 za5 0 (.pointer (some ⟨p,0,none⟩)) fun p109=>
 zaH 1 false H p109 fun v110=>
 pBin PP .gtr Aa v110 (.int .i64 0) fun v111=>
 zae v111 fun b112=>br b112
 (pNil (.pointer (some ⟨p,0,none⟩)) (
 za5 1 (.pointer (some ⟨p,0,none⟩)) fun p113=>
 zaH 1 false H p113 fun v114=>
 pLen .sl v114 H fun v115=>
 pNil (.pointer (some ⟨p,0,none⟩)) (
 za5 0 (.pointer (some ⟨p,0,none⟩)) fun p116=>
 zaH 1 false H p116 fun v117=>
 pBin PP .geq Aa v115 v117 fun v118=>
 zae v118 fun b119=>br b119
 (some (.ret,[(.tuple #[(.int .i64 0),(.int .i64 4)])],H))
 (some (.next,[],H)))))
 (some (.next,[],H)))) fun q120 l121 H122=>zaM q120
 (pNil (.pointer (some ⟨p,0,none⟩)) (
 za5 1 (.pointer (some ⟨p,0,none⟩)) fun p124=>
 zaH 1 false H122 p124 fun v125=>
 zaf 7 true (zad n.val) 0 fun v126=>
 zaP 7 [.int .i64 0,.int .i64 0,.int .i64 0,.int .i64 0,.int .i64 0,.int .u64 0,.string ⟨#[]⟩] 1 [(0,v126)] H122 fun v127 H128=>
 chk (Hp.rdP H128 p124 1 false=some v125) (
 zbb 7 64 v125 v127 H128 fun v129 H130=>
 pNil (.pointer (some ⟨p,0,none⟩)) (
 za5 1 (.pointer (some ⟨p,0,none⟩)) fun p131=>
 za8 1 H130 p131 v129 fun H132=>
 pNil (.pointer (some ⟨p,0,none⟩)) (
 za5 2 (.pointer (some ⟨p,0,none⟩)) fun p133=>
 zaH 1 false H132 p133 fun v134=>
 zaf 7 true (zad n.val) 0 fun v135=>
 pNil (.pointer (some ⟨p,0,none⟩)) (
 za5 1 (.pointer (some ⟨p,0,none⟩)) fun p136=>
 zaH 1 false H132 p136 fun v137=>
 pLen .sl v137 H132 fun v138=>
 pUpd PP Af v134 v135 v138 H132 fun H139=>
 zaf 1 false (zad n.val) 0 fun v140=>
 pBin PP .eql Aa v140 (.int .i64 4) fun v141=>
 zae v141 fun b142=>br b142
 (pNil (.pointer (some ⟨p,0,none⟩)) (
 za5 3 (.pointer (some ⟨p,0,none⟩)) fun p143=>
 zaH 1 false H139 p143 fun v144=>
 zaf 1 false (zad n.val) 6 fun v145=>
 zaf 1 false (zad n.val) 1 fun v146=>
 pUpd PP Ae v144 v145 v146 H139 fun H147=>
 pNil (.pointer (some ⟨p,0,none⟩)) (
 za5 1 (.pointer (some ⟨p,0,none⟩)) fun p148=>
 zaH 1 false H147 p148 fun v149=>
 pLen .sl v149 H147 fun v150=>
 some ((.tuple #[v150,(.int .i64 0)]),H147))))
 (pNil (.pointer (some ⟨p,0,none⟩)) (
 za5 1 (.pointer (some ⟨p,0,none⟩)) fun p151=>
 zaH 1 false H139 p151 fun v152=>
 pLen .sl v152 H139 fun v153=>
 some ((.tuple #[v153,(.int .i64 0)]),H139)))))))))
 (fun i123=>none)
 (some ((l121.headD undef),H122))))
def okR(lim:Int)(L:List Nd)(K:List (ByteArray×Int))(n:Nd):Int×Int×List Nd×List (ByteArray×Int):=
 match zbp n 0 L with
  |some q=>(((q+1:Nat):Int),0,L,K)
  |none=>if lim>0∧(L.length:Int)≥lim then (0,4,L,K) else (((L.length+1:Nat):Int),0,L++[n],if n.op=4 then zbm n.name n.w K else K)
structure MkOk(H:Hp)(p:Nat)(lim:Int)(sl:Value)(f g:Nat)(r:Int×Int×List Nd×List (ByteArray×Int))(H':Hp)(sl':Value):Prop where
 st:StF H' p lim r.2.2.1 r.2.2.2 sl' f g
 next:H.next≤H'.next
 frame:∀j,j<H.next→j≠p→j≠f→j≠g→slId sl≠some j→H'.get j=H.get j
 own:∀i,slId sl'=some i→slId sl=some i∨H.next≤i
theorem MkOk.stay{H:Hp}{p f g:Nat}{lim:Int}{L:List Nd}{K:List (ByteArray×Int)}{sl:Value}(h:StF H p lim L K sl f g){r:Int×Int×List Nd×List (ByteArray×Int)}(hr:r.2.2=(L,K)):MkOk H p lim sl f g r H sl:=
 ⟨by rw[hr];exact h,Nat.le_refl _,fun _ _ _ _ _ _=>rfl,fun i hi=>.inl hi⟩
theorem rest_ok{H:Hp}{p f g:Nat}{lim:Int}{L:List Nd}{K:List (ByteArray×Int)}{sl:Value}(h:StF H p lim L K sl f g)(n:Nd)(hw:n.op=4→∀j u,za6 n.name 0 K=some (j,u)→u=n.w)(hb:(L.length+1)*64≤2^47) :
  ∃H' sl',zl8 p n H=some (.tuple #[.int .i64 (okR lim L K n).1,.int .i64 (okR lim L K n).2.1],H')∧MkOk H p lim sl f g (okR lim L K n) H' sl':=by
 have hl36:=look36 h.fm n;unfold okR;cases hq:zbp n 0 L with
 |some q=>
  rw[hq]at hl36;refine⟨H,sl,?_,MkOk.stay h rfl⟩;unfold zl8;simp only[zbw,zaY,Nat.zero_add,h.st.l2,n07,zib hl36,x01,zag,s_br,if_true]
 |none=>
  rw[hq]at hl36;by_cases hlim:lim>0∧(L.length:Int)≥lim
  ·refine⟨H,sl,?_,MkOk.stay h (by simp only[if_pos hlim])⟩;unfold zl8;simp only[zbw,zaY,Nat.zero_add,Nat.add_zero,h.st.l0,h.st.l1,h.st.l2,h.st.all.len,n07,zib hl36,x01,zag,s_br,zei,zeJ,hlim.1,hlim.2,decide_true,Bool.false_eq_true,if_false,if_true,zay,zcb,zeW,if_pos hlim,and_self]
  ·obtain⟨H',sl',h1,h2,h3,h4,h5⟩:=tail_ok h n hq hw hb;rw[if_neg hlim];refine⟨H',sl',?_,⟨h2,h3,h4,fun i hi=>.inr (h5 i hi)⟩⟩;rw[←h1];unfold zl8;by_cases l1:lim>0
   ·have l2:¬((L.length:Int)≥lim):=fun q=>hlim ⟨l1,q⟩;simp only[zbw,zaY,Nat.zero_add,Nat.add_zero,h.st.l0,h.st.l1,h.st.l2,h.st.all.len,n07,zib hl36,x01,zag,s_br,zei,zeJ,l1,l2,decide_true,decide_false,Bool.false_eq_true,if_false,if_true,zay,zaR,zeW];unfold tailM;simp only[zbw,zaY,Nat.zero_add,Nat.add_zero,h.st.l0,h.st.l1,h.st.l2,h.st.all.len,n07,s_br]
   ·simp only[zbw,zaY,Nat.zero_add,Nat.add_zero,h.st.l0,h.st.l1,h.st.l2,h.st.all.len,n07,zib hl36,x01,zag,s_br,zei,zeJ,l1,decide_true,decide_false,Bool.false_eq_true,if_false,if_true,zay,zaR,zeW];unfold tailM;simp only[zbw,zaY,Nat.zero_add,Nat.add_zero,h.st.l0,h.st.l1,h.st.l2,h.st.all.len,n07,s_br]
theorem ziV{α:Type}(a b c:Int)(k:Value→Option α):zbe PP BT [(0,.int .i64 a),(1,.int .i64 b),(2,.int .i64 c)] k=k (.agg #[.int .i64 a,.int .i64 b,.int .i64 c]):=by
 have:zn1 PP BT [(0,.int .i64 a),(1,.int .i64 b),(2,.int .i64 c)]=some (.agg #[.int .i64 a,.int .i64 b,.int .i64 c]):=by kernel_rfl
 unfold zbe;rw[this]
theorem s_arr0{α:Type}(a b c:Value)(k:Value→Option α):zen 3 false 1 (.agg #[a,b,c]) (.int .i64 0) k=k a:=rfl
theorem s_arr1{α:Type}(a b c:Value)(k:Value→Option α):zen 3 false 1 (.agg #[a,b,c]) (.int .i64 1) k=k b:=rfl
theorem s_arr2{α:Type}(a b c:Value)(k:Value→Option α):zen 3 false 1 (.agg #[a,b,c]) (.int .i64 2) k=k c:=rfl
theorem loop3{H:Hp}{p f g:Nat}{lim:Int}{L:List Nd}{sl:Value}(hs:StR H p lim L sl f g)(n:Nd)(S:List Value→Hp→Option Outc)
  (hS:S=fun (l25:List Value) (H26:Hp)=>
 pBin PP .lss Aa (l25.getD 0 undef) (.int .i64 3) fun v27=>
 zae v27 fun b28=>br b28
 (zen 3 false 1 (.agg #[.int .i64 n.a,.int .i64 n.b,.int .i64 n.c]) (l25.getD 0 undef) fun v29=>
 zab RR AE [.int .i64 n.op] H26 fun r31 H32=>
 pBin PP .lss Aa (l25.getD 0 undef) r31 fun v33=>
 zae v33 fun b34=>br b34
 (zab RR AD [.pointer (some ⟨p,0,none⟩),v29] H32 fun r35 H36=>
 pUn .not r35 fun v37=>
 zae v37 fun b38=>br b38
 (some (.ret,[(.tuple #[(.int .i64 0),(.int .i64 70)])],H36))
 (pBin PP .add Aa (l25.getD 0 undef) (.int .i64 1) fun v39=>
 some (.next,[v39],H36)))
 (pBin PP .add Aa (l25.getD 0 undef) (.int .i64 1) fun v40=>
 some (.next,[v40],H32)))
 (some (.exit 0,[(l25.getD 0 undef)],H26))) :
  zbi S [.int .i64 0] H=if zbh L n=true then some (.ret,[.tuple #[.int .i64 0,.int .i64 70]],H) else some (.exit 0,[.int .i64 3],H):=by
 have w1:IntKind.i64.wrap (0+1)=1:=by decide
 have w2:IntKind.i64.wrap (1+1)=2:=by decide
 have w3:IntKind.i64.wrap (2+1)=3:=by decide
 have e0:zbi S [.int .i64 0] H=if (decide (zax n.op≥1)&&!isT L n.a)=true then some (.ret,[.tuple #[.int .i64 0,.int .i64 70]],H) else zbi S [.int .i64 1] H:=by
  rw[zaW];have:S [.int .i64 0] H=if (decide (zax n.op≥1)&&!isT L n.a)=true then some (.ret,[.tuple #[.int .i64 0,.int .i64 70]],H) else some (.next,[.int .i64 1],H):=by
   rw[hS];simp only[zbL,zag,s_br,qg0,s_arr0,zac (c29 _ _),zac (c19 hs),zb0,zbM,w1,decide_eq_true_eq];by_cases q:0<zax n.op
   ·have q2:zax n.op≥1:=by omega
    cases isT L n.a<;>simp[q,q2]
   ·have q2:¬zax n.op≥1:=by omega
    simp[q,q2]
  rw[this];split<;>rfl
 have e1:zbi S [.int .i64 1] H=if (decide (zax n.op≥2)&&!isT L n.b)=true then some (.ret,[.tuple #[.int .i64 0,.int .i64 70]],H) else zbi S [.int .i64 2] H:=by
  rw[zaW];have:S [.int .i64 1] H=if (decide (zax n.op≥2)&&!isT L n.b)=true then some (.ret,[.tuple #[.int .i64 0,.int .i64 70]],H) else some (.next,[.int .i64 2],H):=by
   rw[hS];simp only[zbL,zag,s_br,qg0,s_arr1,zac (c29 _ _),zac (c19 hs),zb0,zbM,w2,decide_eq_true_eq];by_cases q:1<zax n.op
   ·have q2:zax n.op≥2:=by omega
    cases isT L n.b<;>simp[q,q2]
   ·have q2:¬zax n.op≥2:=by omega
    simp[q,q2]
  rw[this];split<;>rfl
 have e2:zbi S [.int .i64 2] H=if (decide (zax n.op≥3)&&!isT L n.c)=true then some (.ret,[.tuple #[.int .i64 0,.int .i64 70]],H) else zbi S [.int .i64 3] H:=by
  rw[zaW];have:S [.int .i64 2] H=if (decide (zax n.op≥3)&&!isT L n.c)=true then some (.ret,[.tuple #[.int .i64 0,.int .i64 70]],H) else some (.next,[.int .i64 3],H):=by
   rw[hS];simp only[zbL,zag,s_br,qg0,s_arr2,zac (c29 _ _),zac (c19 hs),zb0,zbM,w3,decide_eq_true_eq];by_cases q:2<zax n.op
   ·have q2:zax n.op≥3:=by omega
    cases isT L n.c<;>simp[q,q2]
   ·have q2:¬zax n.op≥3:=by omega
    simp[q,q2]
  rw[this];split<;>rfl
 have e3:zbi S [.int .i64 3] H=some (.exit 0,[.int .i64 3],H):=by
  rw[zaW];have:S [.int .i64 3] H=some (.exit 0,[.int .i64 3],H):=by rw[hS];simp[zbL,zag,s_br]
  rw[this];rfl
 rw[e0,e1,e2,e3];unfold zbh;cases decide (zax n.op≥1)&&!isT L n.a<;>cases decide (zax n.op≥2)&&!isT L n.b<;>cases decide (zax n.op≥3)&&!isT L n.c<;>rfl
theorem c22r{H:Hp}{p f g:Nat}{lim:Int}{L:List Nd}{K:List (ByteArray×Int)}{sl:Value}(h:StF H p lim L K sl f g)(n:Nd)(hnum:0≤n.num∧n.num<18446744073709551616)
  (hW:∀m∈L,0≤m.w∧m.w≤64) (hb:(L.length+1)*64≤2^47) :
  RR Aj [.pointer (some ⟨p,0,none⟩),n.val] H=if zcs L K n≠0 then some (.tuple #[.int .i64 0,.int .i64 (zcs L K n)],H) else zl8 p n H:=by
 have hL:(L.length:Int)≤4611686018427387904:=by omega
 have ha:=wT_bd hW n.a;have hbd:=wT_bd hW n.b;have stay:∀e:Int,zcs L K n=e→e≠0→RR Aj [.pointer (some ⟨p,0,none⟩),n.val] H=some (.tuple #[.int .i64 0,.int .i64 e],H) →
   RR Aj [.pointer (some ⟨p,0,none⟩),n.val] H=if zcs L K n≠0 then some (.tuple #[.int .i64 0,.int .i64 (zcs L K n)],H) else zl8 p n H:=fun e he h0 hr=>by
  rw[he,if_pos h0];exact hr
 have hrun:=zhL E0 rfl (.pointer (some ⟨p,0,none⟩)) n.val H;unfold zet at hrun;simp only[n0,n1,n2,n3,n4,zbL,zei,zag,s_br,zay,zdl,zaR,zcb,zeW,decide_eq_true_eq,ziV]at hrun;by_cases hop1:n.op<1
 ·rw[if_pos hop1]at hrun;exact stay 73 (by unfold zcs;rw[if_pos (.inl hop1)]) (by decide) hrun
 rw[if_neg hop1]at hrun;by_cases hop2:n.op>33
 ·rw[if_pos hop2]at hrun;exact stay 73 (by unfold zcs;rw[if_pos (.inr hop2)]) (by decide) hrun
 rw[if_neg hop2]at hrun;have hop:¬(n.op<1∨n.op>33):=by omega
 by_cases hw1:n.w<0
 ·rw[if_pos hw1]at hrun;exact stay 5 (by unfold zcs;rw[if_neg hop,if_pos (.inl hw1)]) (by decide) hrun
 rw[if_neg hw1]at hrun;by_cases hw2:n.w>64
 ·rw[if_pos hw2]at hrun;exact stay 5 (by unfold zcs;rw[if_neg hop,if_pos (.inr hw2)]) (by decide) hrun
 rw[if_neg hw2]at hrun;have hww:¬(n.w<0∨n.w>64):=by omega
 have hloop:=loop3 h.st n _ rfl;simp only[zbL,zag,s_br,zb0,zbM,decide_eq_true_eq]at hloop;simp only[zbL,zag,s_br,zb0,zbM,decide_eq_true_eq,hloop]at hrun;by_cases hpa:zbh L n=true
 ·rw[if_pos hpa]at hrun;exact stay 70 (by unfold zcs;rw[if_neg hop,if_neg hww,if_pos hpa]) (by decide) hrun
 rw[if_neg hpa]at hrun;simp only[zay,zb3,zbf]at hrun;have pa:zax n.op≥1→isT L n.a=true:=fun q=>by
  cases e:isT L n.a with
  |true=>rfl
  |false=>exact absurd (by unfold zbh;simp[q,e]) hpa
 have hn:n.Ok:=⟨by omega,by omega,by omega,by omega,hnum.1,hnum.2⟩
 rw[n07,zac (c41 n H),zag]at hrun;by_cases hsp:zdq (zax n.op) n=true
 ·rw[if_pos hsp]at hrun;exact stay 1 (by unfold zcs;rw[if_neg hop,if_neg hww,if_neg hpa,if_pos hsp]) (by decide) hrun
 rw[if_neg hsp]at hrun;rw[n07,zac (c42 h.st hL n),zb0,zag]at hrun;cases hso:zcg n.op (wT L (-1) n.a) (wT L (-1) n.b) (wT L (-1) n.c) with
 |false=>
  rw[hso]at hrun;simp only[Bool.not_false,if_true]at hrun;exact stay 71 (by unfold zcs;rw[if_neg hop,if_neg hww,if_neg hpa,if_neg hsp,if_pos hso]) (by decide) hrun
 |true=>
 have hsort:n.op≥15→wT L (-1) n.a>0:=fun q=>by
  have q0:zax n.op≠0:=by unfold zax;(repeat' split)<;>omega
  have:=hso;unfold zcg at this;rw[if_neg q0,if_neg (by omega),if_neg (by omega),if_neg (by omega),if_neg (by omega)]at this;split at this
  ·simp at this;omega
  ·split at this
   ·simpa using this
   ·simp at this;omega
 rw[hso]at hrun;simp only[Bool.not_true,Bool.false_eq_true,if_false]at hrun;rw[n07,zac (c43 h.st hL n hn ha hbd hsort),zb0,zag]at hrun;cases hwi:zcf n (wT L (-1) n.a) (wT L (-1) n.b) with
 |false=>
  rw[hwi]at hrun;simp only[Bool.not_false,if_true]at hrun;exact stay 5 (by unfold zcs;rw[if_neg hop,if_neg hww,if_neg hpa,if_neg hsp,hso,if_neg (by decide),if_pos hwi]) (by decide) hrun
 |true=>
 rw[hwi]at hrun;simp only[Bool.not_true,Bool.false_eq_true,if_false]at hrun;have hl9:=look9 h.gm n.name;have hnm:n.op=4→zbr K n=true→RR Aj [.pointer (some ⟨p,0,none⟩),n.val] H=some (.tuple #[.int .i64 0,.int .i64 72],H):=by
  intro h4 hbad;refine hrun.trans ?_;simp only[h4,zaD,decide_true,zag,s_br,if_true,zbw,zaY,Nat.zero_add,h.st.l3,n6,n1,zib hl9];unfold zbr at hbad;cases hq:za6 n.name 0 K with
  |none=>
   rw[hq]at hbad;simp only[x01,zac (c44 n.name H),zb0,zag,s_br];cases hno:zep n.name with
   |true=>rw[hno]at hbad;cases hbad
   |false=>simp[zay,zcb,zeW]
  |some q=>
   rw[hq]at hbad;simp only[x01,zac (c44 n.name H),zb0,zag,s_br,zcz];cases hno:zep n.name with
   |true=>
    rw[hno]at hbad;have hne:q.2≠n.w:=by simpa using hbad
    simp[hne,zay,zcb,zeW]
   |false=>simp[zay,zcb,zeW]
 by_cases hbad:n.op=4∧zbr K n=true
 ·exact stay 72 (by unfold zcs;rw[if_neg hop,if_neg hww,if_neg hpa,if_neg hsp,hso,if_neg (by decide),hwi,if_neg (by decide),if_pos hbad]) (by decide) (hnm hbad.1 hbad.2)
 have herr:zcs L K n=0:=by unfold zcs;rw[if_neg hop,if_neg hww,if_neg hpa,if_neg hsp,hso,if_neg (by decide),hwi,if_neg (by decide),if_neg hbad]
 rw[herr,if_neg (by decide)];have hgood:n.op=4→zbr K n=false:=fun h4=>by
  cases e:zbr K n with
  |true=>exact absurd ⟨h4,e⟩ hbad
  |false=>rfl
 refine hrun.trans ?_;unfold zl8;by_cases h4:n.op=4
 ·have hb:=hgood h4;unfold zbr at hb;cases hq:za6 n.name 0 K with
  |none=>
   rw[hq]at hb hl9;have hno:zep n.name=true:=by simpa using hb
   simp only[h4,zaD,decide_true,zag,s_br,if_true,zbw,zaY,Nat.zero_add,h.st.l3,n0,n6,n1,zib hl9,x01,zac (c44 n.name H),zb0,hno,Bool.not_true,Bool.false_eq_true,if_false,zay,zaR]
  |some q=>
   rw[hq]at hb hl9;have hno:zep n.name=true∧q.2=n.w:=by simpa using hb
   simp only[h4,zaD,decide_true,zag,s_br,if_true,zbw,zaY,Nat.zero_add,h.st.l3,n0,n6,n1,zib hl9,x01,zac (c44 n.name H),zb0,zcz,hno.1,hno.2,Bool.not_true,Bool.false_eq_true,if_false,zay,zaR,ne_eq,not_true_eq_false,decide_false]
 ·simp only[n0,n1,n6,zbw,zaY,Nat.zero_add,h4,zaD,decide_false,zag,s_br,Bool.false_eq_true,if_false,zay,zaR]
theorem c22{H:Hp}{p f g:Nat}{lim:Int}{L:List Nd}{K:List (ByteArray×Int)}{sl:Value}(h:StF H p lim L K sl f g)(n:Nd)(hnum:0≤n.num∧n.num<18446744073709551616)
  (hW:∀m∈L,0≤m.w∧m.w≤64) (hb:(L.length+1)*64≤2^47) :
  ∃H' sl',RR Aj [.pointer (some ⟨p,0,none⟩),n.val] H=some (.tuple #[.int .i64 (mkR lim L K n).1,.int .i64 (mkR lim L K n).2.1],H')∧MkOk H p lim sl f g (mkR lim L K n) H' sl':=by
 have hr:=c22r h n hnum hW hb;unfold mkR;by_cases he:zcs L K n≠0
 ·rw[if_pos he]at hr ⊢;exact⟨H,sl,hr,MkOk.stay h rfl⟩
 ·rw[if_neg he]at hr ⊢
  obtain⟨H',sl',h1,h2⟩:=rest_ok h n (fun h4 j u hq=>by
   have hb:zbr K n=false:=Bool.eq_false_iff.2 fun q=>he (by
    unfold zcs
    (repeat' split)<;>first|decide|skip
    rename_i z
    exact absurd ⟨h4,q⟩ z)
   unfold zbr at hb;rw[hq]at hb;simp at hb
   exact hb.2) hb
  exact⟨H',sl',hr.trans h1,h2⟩
theorem rest_q{H:Hp}{p f g:Nat}{lim:Int}{L:List Nd}{K:List (ByteArray×Int)}{sl:Value}(h:StF H p lim L K sl f g)(n:Nd){q:Nat}(hq:zbp n 0 L=some q):zl8 p n H=some (.tuple #[.int .i64 ((q+1:Nat):Int),.int .i64 0],H):=by have hl36:=look36 h.fm n;rw[hq]at hl36;unfold zl8;simp only[zbw,zaY,Nat.zero_add,h.st.l2,n07,zib hl36,x01,zag,s_br,if_true]
theorem c22q{H:Hp}{p f g:Nat}{lim:Int}{L:List Nd}{K:List (ByteArray×Int)}{sl:Value}(h:StF H p lim L K sl f g)(n:Nd)(hnum:0≤n.num∧n.num<18446744073709551616)
  (hW:∀m∈L,0≤m.w∧m.w≤64) (hb:(L.length+1)*64≤2^47) (he:zcs L K n=0) {q:Nat} (hq:zbp n 0 L=some q):RR Aj [.pointer (some ⟨p,0,none⟩),n.val] H=some (.tuple #[.int .i64 ((q+1:Nat):Int),.int .i64 0],H):=by
 have hr:=c22r h n hnum hW hb;rw[he,if_neg (by decide)]at hr;exact hr.trans (rest_q h n hq)
end Go.AM
namespace Go.AM
open List Go
theorem bld{α:Type}{P:Program}{t:TypeId}{l:List (Nat×Value)}{v:Value}(h:zn1 P t l=some v)(k:Value→Option α):zbe P t l k=k v:=by unfold zbe;rw[h]
section
variable {α:Type}(k:Value→Option α)
theorem b0(o:Int):zbe PP Af [(0,.int .i64 o)] k=k (Nd.val ⟨o,0,0,0,0,0,⟨#[]⟩⟩):=bld (by kernel_rfl) k
theorem b015(o:Int)(w:Int)(x:Int):zbe PP Af [(0,.int .i64 o),(1,.int .i64 w),(5,.int .u64 x)] k=k (Nd.val ⟨o,w,0,0,0,x,⟨#[]⟩⟩):=bld (by kernel_rfl) k
theorem b016(o:Int)(w:Int)(s:ByteArray):zbe PP Af [(0,.int .i64 o),(1,.int .i64 w),(6,.string s)] k=k (Nd.val ⟨o,w,0,0,0,0,s⟩):=bld (by kernel_rfl) k
theorem b02(o:Int)(a:Int):zbe PP Af [(0,.int .i64 o),(2,.int .i64 a)] k=k (Nd.val ⟨o,0,a,0,0,0,⟨#[]⟩⟩):=bld (by kernel_rfl) k
theorem b012(o:Int)(w:Int)(a:Int):zbe PP Af [(0,.int .i64 o),(1,.int .i64 w),(2,.int .i64 a)] k=k (Nd.val ⟨o,w,a,0,0,0,⟨#[]⟩⟩):=bld (by kernel_rfl) k
theorem b023(o:Int)(a:Int)(b:Int):zbe PP Af [(0,.int .i64 o),(2,.int .i64 a),(3,.int .i64 b)] k=k (Nd.val ⟨o,0,a,b,0,0,⟨#[]⟩⟩):=bld (by kernel_rfl) k
theorem b01234(o:Int)(w:Int)(a:Int)(b:Int)(c:Int):zbe PP Af [(0,.int .i64 o),(1,.int .i64 w),(2,.int .i64 a),(3,.int .i64 b),(4,.int .i64 c)] k=k (Nd.val ⟨o,w,a,b,c,0,⟨#[]⟩⟩):=bld (by kernel_rfl) k
theorem b0125(o:Int)(w:Int)(a:Int)(x:Int):zbe PP Af [(0,.int .i64 o),(1,.int .i64 w),(2,.int .i64 a),(5,.int .u64 x)] k=k (Nd.val ⟨o,w,a,0,0,x,⟨#[]⟩⟩):=bld (by kernel_rfl) k
end
abbrev Res:=Int×Int×List Nd×List (ByteArray×Int)
def Does(H:Hp)(p:Nat)(lim:Int)(sl:Value)(f g:Nat)(fn:FuncId)(args:List Value)(r:Res):Prop:=
 ∃H' sl',RR fn (.pointer (some ⟨p,0,none⟩)::args) H=some (.tuple #[.int .i64 r.1,.int .i64 r.2.1],H')∧MkOk H p lim sl f g r H' sl'
theorem Does.wrap{H:Hp}{p:Nat}{lim:Int}{sl:Value}{f g:Nat}{fn fm:FuncId}{xs bs:List Value}{r:Res}(h:Does H p lim sl f g fn xs r)
  (e:RR fm (.pointer (some ⟨p,0,none⟩)::bs) H=zab RR fn (.pointer (some ⟨p,0,none⟩)::xs) H fun r H'=>zaa r 0 fun a=>zaa r 1 fun b=>some (.tuple #[a,b],H')):Does H p lim sl f g fm bs r:=by
 obtain⟨H',sl',h1,h2⟩:=h;refine⟨H',sl',?_,h2⟩;rw[e,zac h1];rfl
theorem Does.no{H:Hp}{p:Nat}{lim:Int}{L:List Nd}{K:List (ByteArray×Int)}{sl:Value}{f g:Nat}(h:StF H p lim L K sl f g){fn:FuncId}{xs:List Value}{e:Int}
  (hr:RR fn (.pointer (some ⟨p,0,none⟩)::xs) H=some (.tuple #[.int .i64 0,.int .i64 e],H)):Does H p lim sl f g fn xs (0,e,L,K):=⟨H,sl,hr,MkOk.stay h rfl⟩
structure zmL(L:List Nd):Prop where
 w:∀m∈L,0≤m.w∧m.w≤64
 l:(L.length+1)*64≤2^47
theorem zmL.len{L:List Nd}(h:zmL L):(L.length:Int)≤4611686018427387904:=by have:=h.l;omega
theorem s_max{α:Type}(kd:IntKind)(a b:Int)(k:Value→Option α):pMM true [.int kd a,.int kd b] k=k (.int kd (if b>a then b else a)):=rfl
theorem zps{L:List Nd}(h:zmL L)(t:Int):(if (0:Int)>wT L (-1) t then 0 else wT L (-1) t)=wT L 0 t:=by
 unfold wT;split
 ·rename_i ht;obtain⟨h1,h2⟩:=zbv.1 ht;have hlt:(t-1).toNat<L.length:=by omega
  have hq:L[(t-1).toNat]?=some L[(t-1).toNat]:=by simp[hlt]
  rw[hq];have:=h.w _ (mem_of_getElem? hq);simp only[Option.map_some,Option.getD_some];rw[if_neg (by omega)]
 ·rfl
theorem wT0_bd{L:List Nd}(h:zmL L)(t:Int):0≤wT L 0 t∧wT L 0 t≤64:=by rw[←zps h];have:=wT_bd h.w t;split<;>omega
section
variable {H:Hp}{p f g:Nat}{lim:Int}{L:List Nd}{K:List (ByteArray×Int)}{sl:Value}(h:StF H p lim L K sl f g)(hR:zmL L)
include h hR
theorem d22(n:Nd)(hn:0≤n.num∧n.num<18446744073709551616):Does H p lim sl f g Aj [n.val] (mkR lim L K n):=c22 h n hn hR.w hR.l
def zmP(b:Bool):Nd:=⟨if b then 1 else 2,0,0,0,0,0,⟨#[]⟩⟩
omit h hR in
theorem nz:(0:Int)≤0∧(0:Int)<18446744073709551616:=by decide
theorem d23(b:Bool):Does H p lim sl f g BP [.bool b] (mkR lim L K (zmP b)):=
 (d22 h hR (zmP b) nz).wrap (by refine(zg6 E0 rfl _ _ _).trans ?_;unfold zdQ;simp only[zag,b0];cases b<;>rfl)
def zhv(w x:Int):Nd:=⟨3,w,0,0,0,zgZ w x,⟨#[]⟩⟩
omit h hR in
theorem trim_bd(w x:Int)(hx:0≤x∧x<18446744073709551616):0≤zgZ w x∧zgZ w x<18446744073709551616:=by
 unfold zgZ;split
 ·omega
 ·split
  ·omega
  ·have h2:(0:Int)<2^w.toNat:=Int.pow_pos (by decide);have:=Int.emod_nonneg x (show (2:Int)^w.toNat≠0 by omega);have h3:x%2^w.toNat≤x:=by
    obtain⟨n,rfl⟩:=Int.eq_ofNat_of_zero_le hx.1;have e:((n:Int)%2^w.toNat)=((n%2^w.toNat:Nat):Int):=by simp
    rw[e];exact Int.ofNat_le.2 (Nat.mod_le _ _)
   omega
theorem d24(w x:Int)(hx:0≤x∧x<18446744073709551616):Does H p lim sl f g A0 [.int .i64 w,.int .u64 x] (mkR lim L K (zhv w x)):=
 (d22 h hR (zhv w x) (trim_bd w x hx)).wrap (by refine(zg8 E0 rfl _ _ _ _).trans ?_;unfold zdT;simp only[zac (c45 w x hx.1 hx.2 H),b015];rfl)
def varN(s:ByteArray)(w:Int):Nd:=⟨4,w,0,0,0,0,s⟩
theorem d20(s:ByteArray)(w:Int):Does H p lim sl f g BR [.string s,.int .i64 w] (mkR lim L K (varN s w)):=
 (d22 h hR (varN s w) nz).wrap (by refine(ziz E0 rfl _ _ _ _).trans ?_;unfold ze2;simp only[b016];rfl)
def unR(lim:Int)(L:List Nd)(K:List (ByteArray×Int))(op a:Int):Res:=
 if op=5 then mkR lim L K ⟨op,0,a,0,0,0,⟨#[]⟩⟩ else if op=15∨op=16 then mkR lim L K ⟨op,wT L 0 a,a,0,0,0,⟨#[]⟩⟩ else (0,73,L,K)
theorem d25(op a:Int):Does H p lim sl f g BQ [.int .i64 op,.int .i64 a] (unR lim L K op a):=by
 have hrun:=zju E0 rfl (.pointer (some ⟨p,0,none⟩)) (.int .i64 op) (.int .i64 a) H;unfold zfA at hrun;simp only[zaD,zag,s_br,decide_eq_true_eq,zac (c40 h.st hR.len),s_max,zps hR,b02,b012]at hrun;unfold unR;by_cases h5:op=5
 ·rw[if_pos h5]at hrun ⊢;exact Does.wrap (d22 h hR _ (by exact nz)) hrun
 rw[if_neg h5]at hrun ⊢;by_cases h15:op=15
 ·rw[if_pos h15,if_pos h15]at hrun;rw[if_pos (.inl h15)];exact Does.wrap (d22 h hR _ (by exact nz)) hrun
 rw[if_neg h15]at hrun;by_cases h16:op=16
 ·rw[if_pos h16]at hrun;rw[if_pos (.inr h16)];exact Does.wrap (d22 h hR _ (by exact nz)) hrun
 rw[if_neg h16]at hrun;rw[if_neg (by omega)];exact Does.no h hrun
theorem d26(c a b:Int):Does H p lim sl f g BN [.int .i64 c,.int .i64 a,.int .i64 b] (mkR lim L K ⟨14,wT L 0 a,c,a,b,0,⟨#[]⟩⟩):=
 (d22 h hR ⟨14,wT L 0 a,c,a,b,0,⟨#[]⟩⟩ nz).wrap (by refine(ziA E0 rfl _ _ _ _ _).trans ?_;unfold ze3;simp only[zac (c40 h.st hR.len),s_max,zps hR,b01234])
omit h hR in
theorem u64_bd(x:Int):0≤IntKind.u64.wrap x∧IntKind.u64.wrap x<18446744073709551616:=by simp[IntKind.wrap,IntKind.signed,IntKind.bits];omega
theorem d27(a from' n:Int):Does H p lim sl f g BO [.int .i64 a,.int .i64 from',.int .i64 n] (mkR lim L K ⟨31,n,a,0,0,IntKind.u64.wrap from',⟨#[]⟩⟩):=
 (d22 h hR ⟨31,n,a,0,0,IntKind.u64.wrap from',⟨#[]⟩⟩ (u64_bd _)).wrap (by refine(zg7 E0 rfl _ _ _ _ _).trans ?_;unfold zdR;simp only[zdt,b0125])
def extR(lim:Int)(L:List Nd)(K:List (ByteArray×Int))(op a w:Int):Res:=
 if op≠32 then if op≠33 then (0,73,L,K) else mkR lim L K ⟨op,w,a,0,0,0,⟨#[]⟩⟩ else mkR lim L K ⟨op,w,a,0,0,0,⟨#[]⟩⟩
theorem d28(op a w:Int):Does H p lim sl f g BM [.int .i64 op,.int .i64 a,.int .i64 w] (extR lim L K op a w):=by
 have hrun:=ziB E0 rfl (.pointer (some ⟨p,0,none⟩)) (.int .i64 op) (.int .i64 a) (.int .i64 w) H;unfold ze4 at hrun;simp only[zcz,zag,s_br,decide_eq_true_eq,b012]at hrun;unfold extR;by_cases h5:op≠32
 ·rw[if_pos h5]at hrun ⊢;by_cases h6:op≠33
  ·rw[if_pos h6]at hrun ⊢;exact Does.no h hrun
  ·rw[if_neg h6]at hrun ⊢;exact Does.wrap (d22 h hR _ (by exact nz)) hrun
 ·rw[if_neg h5]at hrun ⊢;exact Does.wrap (d22 h hR _ (by exact nz)) hrun
end
end Go.AM
namespace Go.AM
open Go
theorem spl7{α:Type}(n:Nd)(k:List Value→Option α):zaE 7 [.int .i64 0,.int .i64 0,.int .i64 0,.int .i64 0,.int .i64 0,.int .u64 0,.string ⟨#[]⟩] 0 n.val k=k n.cells:=by
 have:zbV 7 [.int .i64 0,.int .i64 0,.int .i64 0,.int .i64 0,.int .i64 0,.int .u64 0,.string ⟨#[]⟩] 0 n.val=some n.cells:=by kernel_rfl
 unfold zaE;rw[this]
theorem spl1{α:Type}(n:Nd)(w:Int)(k:List Value→Option α):zaE 1 n.cells 1 (.int .i64 w) k=k (Nd.cells { n with w:=w }):=by
 have:zbV 1 n.cells 1 (.int .i64 w)=some (Nd.cells { n with w:=w }):=by kernel_rfl
 unfold zaE;rw[this]
theorem zeZ{α:Type}(n:Nd)(k:Value→Option α):zaf 1 false n.cells 1 k=k (.int .i64 n.w):=zb4 _ 1 _ rfl k
theorem nagg(n:Nd):Value.agg n.cells.toArray=n.val:=rfl
theorem s_drop0{α:Type}(l:List α):l.drop 0=l:=rfl
def binR(lim:Int)(L:List Nd)(K:List (ByteArray×Int))(op a b:Int):Res:=
 if op≥6∧op≤13 then mkR lim L K ⟨op,0,a,b,0,0,⟨#[]⟩⟩ else if op≥17∧op≤29 then mkR lim L K ⟨op,wT L 0 a,a,b,0,0,⟨#[]⟩⟩
 else if op=30 then mkR lim L K ⟨op,if wT L 0 a+wT L 0 b>64 then 0 else wT L 0 a+wT L 0 b,a,b,0,0,⟨#[]⟩⟩ else (0,73,L,K)
theorem mk_past{lim:Int}{L:List Nd}{K:List (ByteArray×Int)}(w a b:Int)(hw:0≤w∧w≤64)(hab:¬(isT L a=true∧isT L b=true)):mkR lim L K ⟨30,w,a,b,0,0,⟨#[]⟩⟩=(0,70,L,K):=by
 have h1:zcs L K ⟨30,w,a,b,0,0,⟨#[]⟩⟩=70:=by
  unfold zcs;rw[if_neg (by show ¬((30:Int)<1∨(30:Int)>33);decide),if_neg (by show ¬(w<0∨w>64);omega),if_pos];unfold zbh;have:zax 30=2:=by decide
  simp only[this];cases e1:isT L a<;>cases e2:isT L b<;>simp_all
 unfold mkR;rw[h1];rfl
section
variable {H:Hp}{p f g:Nat}{lim:Int}{L:List Nd}{K:List (ByteArray×Int)}{sl:Value}(h:StF H p lim L K sl f g)(hR:zmL L)
include h hR
theorem d21(op a b:Int):Does H p lim sl f g Bj [.int .i64 op,.int .i64 a,.int .i64 b] (binR lim L K op a b):=by
 have hrun:=ziC E0 rfl (.pointer (some ⟨p,0,none⟩)) (.int .i64 op) (.int .i64 a) (.int .i64 b) H;unfold ze5 at hrun;have ba:=wT0_bd hR a;have bb:=wT0_bd hR b;simp only[zaD,zcz,zei,zeJ,zl4,zbM,zag,s_br,zb0,zay,zdl,zaR,zb3,zcb,zbf,zeW,s_drop0,qg0,decide_eq_true_eq,zac (c40 h.st hR.len),zac (c19 h.st),s_max,zps hR,b023,spl7,spl1,zeZ,nagg,n07,zaV (show -9223372036854775808≤wT L 0 a+wT L 0 b by omega) (show wT L 0 a+wT L 0 b≤9223372036854775807 by omega)]at hrun;unfold binR;have hrun2:RR Bj [.pointer (some ⟨p,0,none⟩),.int .i64 op,.int .i64 a,.int .i64 b] H=if op≥6∧op≤13 then
   zab RR Aj [.pointer (some ⟨p,0,none⟩),Nd.val ⟨op,0,a,b,0,0,⟨#[]⟩⟩] H fun r H'=>zaa r 0 fun a=>zaa r 1 fun b=>some (.tuple #[a,b],H')
   else if op≥17∧op≤29 then
   zab RR Aj [.pointer (some ⟨p,0,none⟩),Nd.val ⟨op,wT L 0 a,a,b,0,0,⟨#[]⟩⟩] H fun r H'=>zaa r 0 fun a=>zaa r 1 fun b=>some (.tuple #[a,b],H')
   else if op=30 then zab RR Aj [.pointer (some ⟨p,0,none⟩),Nd.val ⟨op,if wT L 0 a+wT L 0 b>64∨isT L a=false∨isT L b=false then 0 else wT L 0 a+wT L 0 b,a,b,0,0,⟨#[]⟩⟩] H fun r H'=>zaa r 0 fun a=>zaa r 1 fun b=>some (.tuple #[a,b],H')
   else some (.tuple #[.int .i64 0,.int .i64 73],H):=by
  refine hrun.trans ?_;by_cases q1:op≥6<;>by_cases q2:op≤13<;>by_cases q3:op≥17<;>by_cases q4:op≤29<;>by_cases q5:op=30<;>by_cases q6:wT L 0 a+wT L 0 b>64 <;>
   cases isT L a<;>cases isT L b <;>
   simp only[q1,q2,q3,q4,q5,q6,if_true,if_false,and_self,and_true,and_false,true_and,false_and,or_true,true_or,or_false,false_or,decide_true,decide_false,Bool.false_eq_true,Bool.true_eq_false,Bool.not_true,Bool.not_false,or_self,zay,zaR,zcb,zeW,s_drop0,qg0,n07]<;>first|rfl|omega
 by_cases h1:op≥6∧op≤13
 ·rw[if_pos h1]at hrun2 ⊢;exact Does.wrap (d22 h hR _ (by exact nz)) hrun2
 rw[if_neg h1]at hrun2 ⊢;by_cases h2:op≥17∧op≤29
 ·rw[if_pos h2]at hrun2 ⊢;exact Does.wrap (d22 h hR _ (by exact nz)) hrun2
 rw[if_neg h2]at hrun2 ⊢;by_cases h3:op=30
 ·rw[if_pos h3]at hrun2 ⊢;have key:mkR lim L K ⟨op,if wT L 0 a+wT L 0 b>64 then 0 else wT L 0 a+wT L 0 b,a,b,0,0,⟨#[]⟩⟩=mkR lim L K ⟨op,if wT L 0 a+wT L 0 b>64∨isT L a=false∨isT L b=false then 0 else wT L 0 a+wT L 0 b,a,b,0,0,⟨#[]⟩⟩:=by
   subst h3;by_cases q:isT L a=true∧isT L b=true
   ·have:(wT L 0 a+wT L 0 b>64∨isT L a=false∨isT L b=false)↔wT L 0 a+wT L 0 b>64:=by simp[q.1,q.2]
    simp only[this]
   ·rw[mk_past _ a b (by split<;>omega) q,mk_past _ a b (by split<;>omega) q]
  rw[key];exact Does.wrap (d22 h hR _ (by exact nz)) hrun2
 rw[if_neg h3]at hrun2 ⊢;exact Does.no h hrun2
end
structure OpA where
 kind:Int
 o:Int
 a:Int
 b:Int
 c:Int
 w:Int
 t:Bool
 x:Int
 name:ByteArray
 n:Nd
def OpA.cells(o:OpA):List Value:=[.int .i64 o.kind,.int .i64 o.o,.int .i64 o.a,.int .i64 o.b,.int .i64 o.c,.int .i64 o.w,.bool o.t,.int .u64 o.x,.string o.name]++o.n.cells
def OpA.val(o:OpA):Value:=.agg o.cells.toArray
structure OpA.Ok(o:OpA):Prop where
 x:0≤o.x∧o.x<18446744073709551616
 n:0≤o.n.num∧o.n.num<18446744073709551616
section
variable {α:Type}(o:OpA)(k:Value→Option α)
theorem o0:zaf 1 false (zad o.val) 0 k=k (.int .i64 o.kind):=zb4 _ 0 _ rfl k
theorem o1:zaf 1 false (zad o.val) 1 k=k (.int .i64 o.o):=zb4 _ 1 _ rfl k
theorem o2:zaf 1 false (zad o.val) 2 k=k (.int .i64 o.a):=zb4 _ 2 _ rfl k
theorem o3:zaf 1 false (zad o.val) 3 k=k (.int .i64 o.b):=zb4 _ 3 _ rfl k
theorem o4:zaf 1 false (zad o.val) 4 k=k (.int .i64 o.c):=zb4 _ 4 _ rfl k
theorem o5:zaf 1 false (zad o.val) 5 k=k (.int .i64 o.w):=zb4 _ 5 _ rfl k
theorem o6:zaf 1 false (zad o.val) 6 k=k (.bool o.t):=zb4 _ 6 _ rfl k
theorem o7:zaf 1 false (zad o.val) 7 k=k (.int .u64 o.x):=zb4 _ 7 _ rfl k
theorem o8:zaf 1 false (zad o.val) 8 k=k (.string o.name):=zb4 _ 8 _ rfl k
end
def askR(lim:Int)(L:List Nd)(K:List (ByteArray×Int))(o:OpA):Res:=
 if o.kind=1 then mkR lim L K o.n else if o.kind=2 then mkR lim L K (zmP o.t) else if o.kind=3 then mkR lim L K (zhv o.w o.x)
 else if o.kind=4 then mkR lim L K (varN o.name o.w) else if o.kind=5 then unR lim L K o.o o.a else if o.kind=6 then binR lim L K o.o o.a o.b
 else if o.kind=7 then mkR lim L K ⟨14,wT L 0 o.b,o.a,o.b,o.c,0,⟨#[]⟩⟩ else if o.kind=8 then mkR lim L K ⟨31,o.c,o.a,0,0,IntKind.u64.wrap o.b,⟨#[]⟩⟩
 else if o.kind=9 then extR lim L K o.o o.a o.w else (0,0,L,K)
section
variable {H:Hp}{p f g:Nat}{lim:Int}{L:List Nd}{K:List (ByteArray×Int)}{sl:Value}(h:StF H p lim L K sl f g)(hR:zmL L)
include h hR
theorem d12(o:OpA)(ho:o.Ok):Does H p lim sl f g BX [o.val] (askR lim L K o):=by
 have hrun:=zhg E0 rfl (.pointer (some ⟨p,0,none⟩)) o.val H;unfold zd0 at hrun;simp only[zaD,zag,s_br,decide_eq_true_eq,o0,o1,o2,o3,o4,o5,o6,o7,o8]at hrun;unfold askR;by_cases k1:o.kind=1
 ·rw[if_pos k1]at hrun ⊢;exact Does.wrap (d22 h hR _ ho.n) hrun
 rw[if_neg k1]at hrun ⊢;by_cases k2:o.kind=2
 ·rw[if_pos k2]at hrun ⊢;exact Does.wrap (d23 h hR _) hrun
 rw[if_neg k2]at hrun ⊢;by_cases k3:o.kind=3
 ·rw[if_pos k3]at hrun ⊢;exact Does.wrap (d24 h hR _ _ ho.x) hrun
 rw[if_neg k3]at hrun ⊢;by_cases k4:o.kind=4
 ·rw[if_pos k4]at hrun ⊢;exact Does.wrap (d20 h hR _ _) hrun
 rw[if_neg k4]at hrun ⊢;by_cases k5:o.kind=5
 ·rw[if_pos k5]at hrun ⊢;exact Does.wrap (d25 h hR _ _) hrun
 rw[if_neg k5]at hrun ⊢;by_cases k6:o.kind=6
 ·rw[if_pos k6]at hrun ⊢;exact Does.wrap (d21 h hR _ _ _) hrun
 rw[if_neg k6]at hrun ⊢;by_cases k7:o.kind=7
 ·rw[if_pos k7]at hrun ⊢;exact Does.wrap (d26 h hR _ _ _) hrun
 rw[if_neg k7]at hrun ⊢;by_cases k8:o.kind=8
 ·rw[if_pos k8]at hrun ⊢;exact Does.wrap (d27 h hR _ _ _) hrun
 rw[if_neg k8]at hrun ⊢;by_cases k9:o.kind=9
 ·rw[if_pos k9]at hrun ⊢;exact Does.wrap (d28 h hR _ _ _) hrun
 rw[if_neg k9]at hrun ⊢;exact Does.no h hrun
end
theorem new61{α:Type}(lim:Int)(v w:Nat)(k:Value→Option α):zbe PP Co [(0,.int .i64 lim),(2,.map (some v)),(3,.map (some w))] k=k (.agg #[.int .i64 lim,.slice none 0 0,.map (some v),.map (some w)]):=bld (by kernel_rfl) k
def newH(lim:Int)(H:Hp):Hp:=((H.new (.map [])).new (.map [])).new (.cells [.int .i64 lim,.slice none 0 0,.map (some H.next),.map (some (H.next+1))] true)
theorem newH_st(lim:Int)(H:Hp):StF (newH lim H) (H.next+2) lim [] [] (.slice none 0 0) H.next (H.next+1):=by
 refine⟨⟨?_,.inl ⟨rfl,rfl⟩⟩,?_,?_,by omega,by omega,by omega,?_,?_,?_,fun i hi=>by cases hi⟩
 ·exact if_pos rfl
 ·unfold newH;rw[zgK,if_neg (by show ¬H.next=H.next+1+1;omega),zgK,if_neg (by show ¬H.next=H.next+1;omega),zgK,if_pos rfl];rfl
 ·unfold newH;rw[zgK,if_neg (by show ¬H.next+1=H.next+1+1;omega),zgK];exact if_pos rfl
 ·show H.next+2<H.next+1+1+1;omega
 ·show H.next<H.next+1+1+1;omega
 ·show H.next+1<H.next+1+1+1;omega
theorem zmn(lim:Int)(H:Hp)(j:Nat)(hj:j<H.next):(newH lim H).get j=H.get j:=by unfold newH;rw[zgK,if_neg (by show ¬j=H.next+1+1;omega),zgK,if_neg (by show ¬j=H.next+1;omega),zgK,if_neg (by omega)]
theorem zeo(lim:Int)(H:Hp):(newH lim H).next=H.next+3:=rfl
theorem c16(lim:Int)(H:Hp):RR AZ [.int .i64 lim] H=if lim<0 then some (.tuple #[.pointer none,.int .i64 1],H) else some (.tuple #[.pointer (some ⟨H.next+2,0,none⟩),.int .i64 0],newH lim H):=by refine(zqw E0 rfl _ _).trans ?_;unfold zls;simp only[zbL,zag,s_br,decide_eq_true_eq,zcG,zeY,new61];rfl
end Go.AM
namespace Go.AM
open List Go
def Foot(p f g:Nat)(sl:Value)(i:Nat):Prop:=i=p∨i=f∨i=g∨slId sl=some i
theorem StF.foot_lt{H:Hp}{p f g:Nat}{lim:Int}{L:List Nd}{K:List (ByteArray×Int)}{sl:Value}(h:StF H p lim L K sl f g){i:Nat}(hi:Foot p f g sl i):i<H.next:=by
 rcases hi with rfl|rfl|rfl|hi
 ·exact h.lp
 ·exact h.lf
 ·exact h.lg
 ·exact(h.sa i hi).2.2.2
theorem StF.own{H:Hp}{p f g:Nat}{lim:Int}{L:List Nd}{K:List (ByteArray×Int)}{sl:Value}(h:StF H p lim L K sl f g){i:Nat}(hi:Foot p f g sl i):∃o,H.get i=some o∧o.own=true:=by
 rcases hi with rfl|rfl|rfl|hi
 ·exact⟨_,h.st.obj,rfl⟩
 ·exact⟨_,h.fm,rfl⟩
 ·exact⟨_,h.gm,rfl⟩
 ·rcases h.st.all with⟨_,e⟩|⟨j,e,hj⟩
  ·rw[e]at hi;cases hi
  ·rw[e]at hi;cases hi;exact⟨_,hj,rfl⟩
theorem StF.keep{H H':Hp}{p f g:Nat}{lim:Int}{L:List Nd}{K:List (ByteArray×Int)}{sl:Value}(h:StF H p lim L K sl f g)(hg:∀i,Foot p f g sl i→H'.get i=H.get i)(hn:H.next≤H'.next):StF H' p lim L K sl f g:=by
 refine⟨⟨?_,?_⟩,?_,?_,h.pf,h.pg,h.fg,Nat.lt_of_lt_of_le h.lp hn,Nat.lt_of_lt_of_le h.lf hn,Nat.lt_of_lt_of_le h.lg hn,fun i hi=>?_⟩
 ·rw[hg p (.inl rfl)];exact h.st.obj
 ·rcases h.st.all with e|⟨j,e,hj⟩
  ·exact .inl e
  ·exact .inr ⟨j,e,by rw[hg j (.inr (.inr (.inr (by rw[e];rfl))))];exact hj⟩
 ·rw[hg f (.inr (.inl rfl))];exact h.fm
 ·rw[hg g (.inr (.inr (.inl rfl)))];exact h.gm
 ·obtain⟨a,b,c,d⟩:=h.sa i hi;exact⟨a,b,c,Nat.lt_of_lt_of_le d hn⟩
theorem MkOk.foot{H H':Hp}{p f g:Nat}{lim:Int}{sl sl':Value}{r:Res}(h:MkOk H p lim sl f g r H' sl'){i:Nat}(hi:Foot p f g sl' i):Foot p f g sl i∨H.next≤i:=by
 rcases hi with e|e|e|e
 ·exact .inl (.inl e)
 ·exact .inl (.inr (.inl e))
 ·exact .inl (.inr (.inr (.inl e)))
 ·exact(h.own i e).imp (fun q=>.inr (.inr (.inr q))) id
theorem MkOk.same{H H':Hp}{p f g:Nat}{lim:Int}{sl sl':Value}{r:Res}(h:MkOk H p lim sl f g r H' sl'){i:Nat}(hl:i<H.next)(hi:¬Foot p f g sl i):H'.get i=H.get i:=
 h.frame i hl (fun e=>hi (.inl e)) (fun e=>hi (.inr (.inl e))) (fun e=>hi (.inr (.inr (.inl e)))) (fun e=>hi (.inr (.inr (.inr e))))
theorem q_ite{Q:Res→Prop}{c:Prop} [Decidable c]{x y:Res}(h1:Q x)(h2:Q y):Q (if c then x else y):=by split<;>assumption
theorem ask_ind{Q:Res→Prop}{lim:Int}{L:List Nd}{K:List (ByteArray×Int)}(hm:∀n,Q (mkR lim L K n))(hn:∀e,Q (0,e,L,K))(o:OpA):Q (askR lim L K o):=by
 unfold askR unR binR extR
 repeat' first|exact hm _|exact hn _|refine q_ite (Q:=Q) ?_ ?_
def runR(lim:Int):List OpA→List Nd→List (ByteArray×Int)→List Nd×List (ByteArray×Int)
 |[],L,K=>(L,K)
 |o::r,L,K=>runR lim r (askR lim L K o).2.2.1 (askR lim L K o).2.2.2
def ScR(H:Hp)(x:Value)(os:List OpA):Prop:=
 (os=[]∧x=.slice none 0 0)∨∃y,x=.slice (some ⟨y,0,some 16⟩) os.length os.length∧H.get y=some (.cells (os.flatMap OpA.cells) false)∧y<H.next
theorem zj3(o:OpA):o.cells.length=16:=rfl
theorem flat_at(os:List OpA):∀i o,os[i]?=some o→((os.flatMap OpA.cells).drop (i*16)).take 16=o.cells:=by
 induction os with
 |nil=>intro i o h;cases h
 |cons a os ih=>
  intro i o h;rw[flatMap_cons];cases i with
  |zero=>cases h;rw[Nat.zero_mul,qd0,take_append_of_le_length (by rw[zj3];omega),take_of_length_le (by rw[zj3];omega)]
  |succ i=>
   rw[drop_append,drop_of_length_le (by rw[zj3];omega),zj3,nil_append,show (i+1)*16-16=i*16 by omega];exact ih i o h
theorem zns(os:List OpA):(os.flatMap OpA.cells).length=os.length*16:=by
 induction os with
 |nil=>rfl
 |cons a os ih=>rw[flatMap_cons,length_append,ih,zj3,length_cons];omega
theorem ScR.at{α:Type}{H:Hp}{x:Value}{os:List OpA}(h:ScR H x os){i:Nat}{o:OpA}(ho:os[i]?=some o) :
  ∃y,y<H.next∧H.get y=some (.cells (os.flatMap OpA.cells) false)∧∀(β:Type) (k:Value→Option β),pIdx 16 x (.int .i64 (i:Int)) k=k (.pointer (some ⟨y,i*16,none⟩)):=by
 have hlt:i<os.length:=(List.getElem?_eq_some_iff.1 ho).1;rcases h with⟨rfl,_⟩|⟨y,rfl,hy⟩
 ·cases ho
 ·refine⟨y,hy.2,hy.1,fun β k=>?_⟩;unfold pIdx idxV;have:(16:Nat)=16∧(0:Int)≤(i:Int)∧(i:Int)<(os.length:Int):=⟨rfl,by omega,by omega⟩
  simp only[this,and_self,if_true,Nat.zero_add,Int.toNat_natCast]
theorem ScR.ld{α:Type}{H:Hp}{os:List OpA}{y:Nat}(h:H.get y=some (.cells (os.flatMap OpA.cells) false)){i:Nat}{o:OpA}(ho:os[i]?=some o)(k:Value→Option α) :
  zaH 16 true H (.pointer (some ⟨y,i*16,none⟩)) k=k o.val:=by
 have hlt:i<os.length:=(List.getElem?_eq_some_iff.1 ho).1;have h1:i*16+16≤(os.flatMap OpA.cells).length:=by rw[zns];omega
 simp only[zaH,Hp.rdP,Hp.rd,h,zcD,h1,if_true,flat_at os i o ho];rfl
theorem ScR.len{α:Type}{H:Hp}{x:Value}{os:List OpA}(h:ScR H x os)(H':Hp)(k:Value→Option α):pLen .sl x H' k=k (.int .i64 os.length):=by rcases h with⟨rfl,rfl⟩|⟨y,rfl,hy⟩<;>rfl
theorem ScR.keep{H H':Hp}{x:Value}{os:List OpA}(h:ScR H x os)(hg:∀y cs,y<H.next→H.get y=some (.cells cs false)→H'.get y=some (.cells cs false))(hn:H.next≤H'.next):ScR H' x os:=by
 rcases h with e|⟨y,e,hy⟩
 ·exact .inl e
 ·exact .inr ⟨y,e,hg _ _ hy.2 hy.1,Nat.lt_of_lt_of_le hy.2 hn⟩
end Go.AM
namespace Go.AM
open Go
theorem s_pnil{α:Type}{P:Program}(T:TypeId)(a:Addr)(hT:∃t,P.underlying T=some (.pointer t))(k:Value→Option α):pBin P .eql T (.pointer (some a)) (.pointer none) k=k (.bool false):=by
 obtain⟨t,ht⟩:=hT;have:eqT P Op.maxDepth T (.pointer (some a)) (.pointer none)=some false:=by unfold Op.maxDepth;simp only[eqT,ht]
 simp only[pBin,binV,eqOp,this]
theorem s_pnil0{α:Type}{P:Program}(T:TypeId)(hT:∃t,P.underlying T=some (.pointer t))(k:Value→Option α):pBin P .eql T (.pointer none) (.pointer none) k=k (.bool true):=by
 obtain⟨t,ht⟩:=hT;have:eqT P Op.maxDepth T (.pointer none) (.pointer none)=some true:=by unfold Op.maxDepth;simp only[eqT,ht];rfl
 simp only[pBin,binV,eqOp,this]
theorem zl3{α:Type}(x y z:Value)(k:Value→Option α):zaa (.tuple #[x,y,z]) 0 k=k x:=rfl
theorem zl2{α:Type}(x y z:Value)(k:Value→Option α):zaa (.tuple #[x,y,z]) 1 k=k y:=rfl
theorem zl1{α:Type}(x y z:Value)(k:Value→Option α):zaa (.tuple #[x,y,z]) 2 k=k z:=rfl
theorem und23:∃t,Program.underlying PP Bl=some (.pointer t):=⟨Co,by kernel_rfl⟩
theorem zam{α:Type}(x y:Option α):br false x y=y:=rfl
theorem zau{α:Type}(x y:Option α):br true x y=x:=rfl
structure Fine(os:List OpA):Prop where
 ok:∀o∈os,o.Ok
 len:(os.length+1)*64≤2^47
end Go.AM
namespace Go.AM.N14
open Go Go.AM
theorem msk_toNat{n:Nat}(hn:n≤64)(x:W64):(x&&&msk n).toNat=x.toNat%2^n:=by rw[BitVec.toNat_and,msk_nat n hn,Nat.and_two_pow_sub_one_eq_mod]
theorem zgY{n:Nat}(h0:1≤n)(hn:n≤64)(x:W64):zgZ (n:Int) (x.toNat:Int)=((x&&&msk n).toNat:Int):=by
 unfold zgZ;rw[if_neg (by omega),msk_toNat hn];by_cases h:n=64
 ·subst h;rw[if_pos (by decide),Nat.mod_eq_of_lt x.isLt]
 ·rw[if_neg (by omega),Int.toNat_natCast];simp
theorem zbB{n:Nat}(h0:1≤n)(hn:n≤64)(x:W64)(H:Hp):RR Ah [.int .i64 (n:Int),wv x] H=some (wv (x&&&msk n),H):=by have:=c45 (n:Int) (x.toNat:Int) (by omega) (by have:=x.isLt;omega) H;rw[zgY h0 hn]at this;exact this
theorem zc2{n:Nat}(h0:1≤n)(hn:n≤64)(H:Hp):RR Av [.int .i64 (n:Int)] H=some (.bool true,H):=by refine(znh E0 rfl _ _).trans ?_;unfold zim;rw[zeJ,bT (by omega),zl4,decide_eq_true (by omega)]
def sg(n:Nat)(x:W64):Int:=(x.setWidth n).toInt
theorem sg_eq{n:Nat}(x:W64):sg n x=if 2*(x.toNat%2^n)<2^n then ((x.toNat%2^n:Nat):Int) else ((x.toNat%2^n:Nat):Int)-((2^n:Nat):Int):=by unfold sg;rw[BitVec.toInt_eq_toNat_cond,BitVec.toNat_setWidth]
theorem i_conv{α:Type}(y:W64)(k:Value→Option α):zav .i64 (wv y) k=k (.int .i64 y.toInt):=by show k (.int .i64 (IntKind.i64.wrap (y.toNat:Int)))=_;congr 2;rw[BitVec.toInt_eq_toNat_cond];have:=y.isLt;simp only[IntKind.wrap,IntKind.signed,IntKind.bits];simp;split<;>split<;>omega
theorem i_shr{α:Type}{P:Program}(T:TypeId)(a:Int)(kd:IntKind)(m:Nat)(hm:m≤64)(k:Value→Option α):pBin P .shr T (.int .i64 a) (.int kd (m:Int)) k=k (.int .i64 (a/(2:Int)^m)):=by
 have:binV P .shr T (.int .i64 a) (.int kd (m:Int))=some (.int .i64 (a/(2:Int)^m)):=by show (if (m:Int)<0 then none else some (Value.int .i64 (a.fdiv (2^(min ((m:Int).toNat) 64)))))=_;rw[if_neg (by omega),Int.toNat_natCast,Nat.min_eq_left hm,Int.fdiv_eq_ediv_of_nonneg _ (Int.le_of_lt (Int.pow_pos (by decide)))]
 unfold pBin;rw[this]
theorem sg_shift{n:Nat}(h0:1≤n)(hn:n≤64)(x:W64):(x <<< (64-n)).toInt/(2:Int)^(64-n)=sg n x:=by
 rw[sg_eq,BitVec.toInt_eq_toNat_cond,BitVec.toNat_shiftLeft,Nat.shiftLeft_eq];have e:(2:Nat)^64=2^n*2^(64-n):=by rw[←Nat.pow_add];congr 1;omega
 have e1:x.toNat*2^(64-n)%2^64=x.toNat%2^n*2^(64-n):=by rw[e,Nat.mul_mod_mul_right]
 rw[e1];have hp:0<2^(64-n):=Nat.two_pow_pos _;have ep:((2:Int)^(64-n))=((2^(64-n):Nat):Int):=by push_cast;rfl
 rw[ep];generalize x.toNat%2^n=t;generalize hm:2^(64-n)=m at *;have e2:(2*(t*m)<2^64)↔2*t<2^n:=by rw[e,show 2*(t*m)=2*t*m by rw[Nat.mul_assoc]];exact Nat.mul_lt_mul_right hp
 have hm0:(m:Int)≠0:=by omega
 by_cases h:2*t<2^n
 ·rw[if_pos h,if_pos (e2.2 h)];push_cast;rw[Int.mul_ediv_cancel _ hm0]
 ·rw[if_neg h,if_neg (fun q=>h (e2.1 q)),e];have:((t*m:Nat):Int)-((2^n*m:Nat):Int)=(((t:Nat):Int)-((2^n:Nat):Int))*(m:Int):=by rw[Int.natCast_mul,Int.natCast_mul,Int.sub_mul]
  rw[this,Int.mul_ediv_cancel _ hm0]
theorem zi1{n:Nat}(h0:1≤n)(hn:n≤64)(x:W64)(H:Hp):RR A4 [.int .i64 (n:Int),wv x] H=some (.int .i64 (sg n x),H):=by
 refine(zmc E0 rfl _ _ _).trans ?_;unfold zhs;have e:IntKind.i64.wrap (64-(n:Int))=((64-n:Nat):Int):=by rw[zaV (by omega) (by omega)];omega
 rw[zac (zc2 h0 hn H),zb0,zag,show (!true)=false from rfl,zam,zd8,e,cu64 _ (by omega),b_shl,i_conv,i_shr _ _ _ _ (by omega),sg_shift h0 hn]
def atM(op:Int)(n k j:Nat):Option Nat:=
 if op=25 then (if k≤j then some (j-k) else none) else if op=26 then (if j+k<n then some (j+k) else none) else if op=27 then some (min (j+k) (n-1)) else if op=28 then some ((j+n-k)%n) else some ((j+k)%n)
def bitAt(x:W64):Option Nat→Bool
 |some i=>x.getLsbD i
 |none=>false
def zkL(op:Int)(n:Nat)(x:W64)(k:Nat)(v:W64):Prop:=∀j,v.getLsbD j=(decide (j<n)&&bitAt x (atM op n k j))
theorem zkL.eq{op:Int}{n:Nat}{x:W64}{k:Nat}{v w:W64}(h1:zkL op n x k v)(h2:zkL op n x k w):v=w:=bit_eq fun j=>by rw[h1 j,h2 j]
theorem zoO{n k:Nat}(h0:1≤n)(hn:n≤64)(x:W64):BitVec.ofInt 64 (sg n x/(2:Int)^k)=((x.setWidth n).signExtend 64).sshiftRight k:=by
 have e1:((x.setWidth n).signExtend 64).toInt=sg n x:=by rw[BitVec.toInt_signExtend_of_le hn];rfl
 have e2:(((x.setWidth n).signExtend 64).sshiftRight k).toInt=sg n x/(2:Int)^k:=by rw[BitVec.toInt_sshiftRight,e1,Int.shiftRight_eq_div_pow];norm_cast
 rw[←e2,BitVec.ofInt_toInt]
theorem sar_bits{n k:Nat}(h0:1≤n)(hn:n≤64)(hk:k<n)(x:W64):zkL 27 n x k (((x.setWidth n).signExtend 64).sshiftRight k&&&msk n):=fun j=>by
 rw[BitVec.getLsbD_and,zkD,BitVec.getLsbD_sshiftRight];have hat:atM 27 n k j=some (min (j+k) (n-1)):=by unfold atM;rw[if_neg (by decide),if_neg (by decide),if_pos rfl]
 rw[hat];show _=(decide (j<n)&&x.getLsbD (min (j+k) (n-1)))
 by_cases hj:j<n
 ·have h64:j<64:=by omega
  rw[decide_eq_true h64,decide_eq_true hj,decide_eq_false (show ¬64≤j by omega)];have hs:∀i,i<64→((x.setWidth n).signExtend 64).getLsbD i=x.getLsbD (min i (n-1)):=fun i hi=>by
   rw[BitVec.getLsbD_signExtend,BitVec.msb_eq_getLsbD_last,BitVec.getLsbD_setWidth,BitVec.getLsbD_setWidth];by_cases q:i<n
   ·rw[if_pos q,Nat.min_eq_left (by omega)];simp[hi,q]
   ·rw[if_neg q,Nat.min_eq_right (by omega)];simp[hi,show n-1<n by omega]
  have hm:((x.setWidth n).signExtend 64).msb=x.getLsbD (n-1):=by rw[BitVec.msb_eq_getLsbD_last,hs (64-1) (by decide),Nat.min_eq_right (by omega)]
  by_cases hjk:k+j<64
  ·rw[if_pos hjk,hs _ hjk,Nat.add_comm k j];simp
  ·rw[if_neg hjk,hm,Nat.min_eq_right (by omega)];simp
 ·rw[decide_eq_false hj];simp
theorem shl_bits{n k:Nat}(hn:n≤64)(hk:k<n){x:W64}:zkL 25 n x k (x <<< k&&&msk n):=fun j=>by
 rw[BitVec.getLsbD_and,zkD,BitVec.getLsbD_shiftLeft];unfold atM bitAt;rw[if_pos rfl];by_cases hj:j<n
 ·have h64:j<64:=by omega
  by_cases hk2:k≤j
  ·rw[if_pos hk2];simp[hj,h64,show ¬j<k by omega]
  ·rw[if_neg hk2];simp[show j<k by omega]
 ·rw[decide_eq_false hj];simp
theorem shr_bits{n k:Nat}(hn:n≤64)(hk:k<n){x:W64}(hx:x.toNat≤(msk n).toNat):zkL 26 n x k (x >>> k):=fun j=>by
 have hz:=(zeC hn).1 hx;rw[BitVec.getLsbD_ushiftRight];unfold atM bitAt;rw[if_neg (by decide),if_pos rfl];by_cases hj:j+k<n
 ·rw[if_pos hj,Nat.add_comm k j];simp[show j<n by omega]
 ·rw[if_neg hj,hz _ (by omega)];simp
theorem zpE{n k:Nat}(hn:n≤64)(hk:k<n){x:W64}(hx:x.toNat≤(msk n).toNat)(j:Nat):((x <<< k|||x >>> (n-k))&&&msk n).getLsbD j=(decide (j<n)&&x.getLsbD ((j+n-k)%n)):=by
 have hz:=(zeC hn).1 hx;rw[BitVec.getLsbD_and,zkD,BitVec.getLsbD_or,BitVec.getLsbD_shiftLeft,BitVec.getLsbD_ushiftRight];by_cases hj:j<n
 ·have h64:j<64:=by omega
  by_cases hk2:k≤j
  ·have:(j+n-k)%n=j-k:=by rw[show j+n-k=(j-k)+n by omega,Nat.add_mod_right,Nat.mod_eq_of_lt (by omega)]
   rw[this,hz (n-k+j) (by omega)];simp[hj,h64,show ¬j<k by omega]
  ·have:(j+n-k)%n=n-k+j:=by rw[Nat.mod_eq_of_lt (by omega)];omega
   rw[this];simp[hj,h64,show j<k by omega]
 ·rw[decide_eq_false hj];simp
theorem p_moved{op:Int}(hop:25≤op∧op≤29){n k:Nat}(h0:1≤n)(hn:n≤64)(hk:k<n){x:W64}(hx:x.toNat≤(msk n).toNat)(H:Hp):∃v:W64,zkL op n x k v∧RR Bs [.int .i64 op,.int .i64 (n:Int),wv x,.int .i64 (k:Int)] H=some (wv v,H):=by
 have hr:=znf E0 rfl (.int .i64 op) (.int .i64 (n:Int)) (wv x) (.int .i64 (k:Int)) H;unfold zik at hr;rw[zaD,zag]at hr;by_cases h25:op=25
 ·subst h25;rw[decide_eq_true rfl,zau,cu64 _ (by omega),b_shl,zac (zbB h0 hn _ H)]at hr;exact⟨_,shl_bits hn hk,hr⟩
 rw[decide_eq_false h25,zam,zaD,zag]at hr;by_cases h26:op=26
 ·subst h26;rw[decide_eq_true rfl,zau,cu64 _ (by omega),zk3]at hr;exact⟨_,shr_bits hn hk hx,hr⟩
 rw[decide_eq_false h26,zam,zaD,zag]at hr;by_cases h27:op=27
 ·subst h27;have hc:∀(a:Int) (f:Value→Option (Value×Hp)),zav .u64 (.int .i64 a) f=f (wv (BitVec.ofInt 64 a)):=fun a f=>by rw[zdt,zeT]
  rw[decide_eq_true rfl,zau,zac (zi1 h0 hn x H),cu64 _ (by omega),i_shr _ _ _ _ (by omega),hc,zoO h0 hn,zac (zbB h0 hn _ H)]at hr;exact⟨_,sar_bits h0 hn hk x,hr⟩
 rw[decide_eq_false h27,zam,zaD,zag]at hr;by_cases h29:op=29
 ·subst h29;have e1:IntKind.i64.wrap ((n:Int)-(k:Int))=((n-k:Nat):Int):=by rw[zaV (by omega) (by omega)];omega
  have e2:(((n-k:Nat):Int)).tmod (n:Int)=(((n-k)%n:Nat):Int):=rfl;have hlt:(n-k)%n<n:=Nat.mod_lt _ (by omega);have e3:IntKind.i64.wrap ((n:Int)-(((n-k)%n:Nat):Int))=((n-(n-k)%n:Nat):Int):=by rw[zaV (by omega) (by omega)];omega
  rw[decide_eq_true rfl,zau,zd8,e1,s_rem _ _ _ _ (by omega),e2,cu64 _ (by omega),b_shl,zd8,e3,cu64 _ (by omega),zk3,b_or,zac (zbB h0 hn _ H)]at hr;refine⟨_,fun j=>?_,hr⟩;rw[zpE hn hlt hx];unfold atM bitAt;rw[if_neg (by decide),if_neg (by decide),if_neg (by decide),if_neg (by decide)];dsimp only;by_cases hj:j<n
  ·have:(j+n-(n-k)%n)%n=(j+k)%n:=by
    by_cases hk0:k=0
    ·subst hk0;rw[Nat.sub_zero,Nat.mod_self,Nat.sub_zero,Nat.add_mod_right,Nat.add_zero]
    ·rw[Nat.mod_eq_of_lt (show n-k<n by omega),show j+n-(n-k)=j+k by omega]
   rw[this]
  ·rw[decide_eq_false hj];rfl
 have h28:op=28:=by omega
 subst h28;have e1:IntKind.i64.wrap ((n:Int)-(k:Int))=((n-k:Nat):Int):=by rw[zaV (by omega) (by omega)];omega
 rw[decide_eq_false h29,zam,cu64 _ (by omega),b_shl,zd8,e1,cu64 _ (by omega),zk3,b_or,zac (zbB h0 hn _ H)]at hr;refine⟨_,fun j=>?_,hr⟩;rw[zpE hn hk hx];unfold atM bitAt;rw[if_neg (by decide),if_neg (by decide),if_neg (by decide),if_pos rfl]
end Go.AM.N14
namespace Go.AM.N14
open Go Go.AM
open Classical in
noncomputable def movW(op:Int)(n:Nat)(x:W64)(k:Nat):W64:=if h:∃v,zkL op n x k v then Classical.choose h else 0#64
theorem movW_eq{op:Int}{n:Nat}{x:W64}{k:Nat}{v:W64}(h:zkL op n x k v):movW op n x k=v:=by
 have hx:∃v,zkL op n x k v:=⟨v,h⟩
 unfold movW;rw[dif_pos hx];exact zkL.eq (Classical.choose_spec hx) h
theorem p_mov{op:Int}(hop:25≤op∧op≤29){n k:Nat}(h0:1≤n)(hn:n≤64)(hk:k<n){x:W64}(hx:x.toNat≤(msk n).toNat)(H:Hp):RR Bs [.int .i64 op,.int .i64 (n:Int),wv x,.int .i64 (k:Int)] H=some (wv (movW op n x k),H):=by obtain⟨v,h1,h2⟩:=p_moved hop h0 hn hk hx H;rw[movW_eq h1];exact h2
theorem msk_le{n:Nat}(hn:n≤64)(x:W64):(x&&&msk n).toNat≤(msk n).toNat:=(zeC hn).2 fun j hj=>by rw[BitVec.getLsbD_and,zkD];simp[show ¬j<n by omega]
theorem zlr{n:Nat}(hn:n≤64){x:W64}(h:x.toNat≤(msk n).toNat):x&&&msk n=x:=bit_eq fun j=>by
 rw[BitVec.getLsbD_and,zkD];by_cases hj:j<n
 ·simp[hj,show j<64 by omega]
 ·rw[(zeC hn).1 h j (by omega)];rfl
theorem b_quo{α:Type}{P:Program}(T:TypeId){a b:W64}(hb:b≠0#64)(k:Value→Option α):pBin P .quo T (wv a) (wv b) k=k (wv (a/b)):=by
 have hb2:(b.toNat:Int)≠0:=fun q=>hb (BitVec.eq_of_toNat_eq (by simpa using q));have:binV P .quo T (wv a) (wv b)=some (wv (a/b)):=by
  show (if (b.toNat:Int)=0 then none else some (Value.int .u64 (IntKind.u64.wrap ((a.toNat:Int).tdiv (b.toNat:Int)))))=_;rw[if_neg hb2];have e:((a.toNat:Int).tdiv (b.toNat:Int))=(((a/b).toNat:Nat):Int):=by rw[BitVec.toNat_udiv];rfl
  rw[e,zky];rfl
 unfold pBin;rw[this]
theorem b_rem{α:Type}{P:Program}(T:TypeId){a b:W64}(hb:b≠0#64)(k:Value→Option α):pBin P .rem T (wv a) (wv b) k=k (wv (a%b)):=by
 have hb2:(b.toNat:Int)≠0:=fun q=>hb (BitVec.eq_of_toNat_eq (by simpa using q));have e:((a.toNat:Int).tmod (b.toNat:Int))=(((a%b).toNat:Nat):Int):=by rw[BitVec.toNat_umod];rfl
 show pBin P .rem T (.int .u64 (a.toNat:Int)) (.int .u64 (b.toNat:Int)) k=_;rw[s_rem _ _ _ _ hb2,e];rfl
noncomputable def binW(op:Int)(n:Nat)(x y:W64):W64:=
 let X:=x&&&msk n
 let Y:=y&&&msk n
 if op=17 then X&&&Y else if op=18 then X|||Y else if op=19 then X ^^^ Y else if op=20 then (X+Y)&&&msk n else if op=21 then (X-Y)&&&msk n else if op=22 then (X*Y)&&&msk n
 else if op=23 then (if Y=0#64 then msk n else X/Y) else if op=24 then (if Y=0#64 then X else X%Y) else movW op n X (Y.toNat%n)
theorem zmh{op:Int}(H:Hp):RR Bu [.int .i64 op] H=some (.bool (decide (25≤op∧op≤29)),H):=by
 refine(zmb E0 rfl _ _).trans ?_;unfold zhr;rw[zeJ,zag];by_cases h:op≥25
 ·rw[decide_eq_true h,zau,zl4];congr 3;simp[show (25:Int)≤op from h]
 ·rw[decide_eq_false h,zam];congr 3;simp[show ¬(25:Int)≤op from h]
theorem mod_bits{n:Nat}(hn:n≤64)(h0:1≤n){α:Type}(Y:W64)(k:Value→Option α):(pBin PP .rem Ab (wv Y) (.int .u64 (n:Int)) fun v=>zav .i64 v k)=k (.int .i64 ((Y.toNat%n:Nat):Int)):=by unfold wv;rw[s_rem _ _ _ _ (by omega)];have e:((Y.toNat:Int).tmod (n:Int))=((Y.toNat%n:Nat):Int):=rfl;have hlt:Y.toNat%n<n:=Nat.mod_lt _ (by omega);rw[e,zdt,zaV (by omega) (by omega)]
theorem p_bin{op:Int}(hop:17≤op∧op≤29){n:Nat}(h0:1≤n)(hn:n≤64)(hs:25≤op→zfm (n:Int)=true)(x y:W64)(H:Hp):RR AH [.int .i64 op,.int .i64 (n:Int),wv x,wv y] H=some (.tuple #[wv (binW op n x y),.int .i64 0],H):=by
 have hr:=zqC E0 rfl (.int .i64 op) (.int .i64 (n:Int)) (wv x) (wv y) H;unfold zlx at hr;have hX:=msk_le hn x;have hY:=msk_le hn y;rw[lF (by omega),zei,bF (by omega),zay,zaR,zac (zc2 h0 hn H),zb0,zag,show (!true)=false from rfl,zam,zac (zmh H),zag]at hr;unfold binW;dsimp only;by_cases h25:25≤op
 ·have hsh:decide (25≤op∧op≤29)=true:=decide_eq_true ⟨h25,hop.2⟩;have hpop:decide (pops.getD n 0=1)=true:=(zpP n (by omega)).trans (hs h25);have hone:pops.getD n 0=1:=of_decide_eq_true hpop;have e53:=c53 (n:Int) (by omega) (by omega) H;rw[Int.toNat_natCast,hone]at e53;have hlt:(y&&&msk n).toNat%n<n:=Nat.mod_lt _ (by omega);rw[hsh,zau,cu64 _ (by omega),zac e53,zcz,bF (by decide),zay,zaR,zac (zbB h0 hn x H),zac (zbB h0 hn y H),zac (zmh H),hsh,zag,zau,cu64 _ (by omega),mod_bits hn h0,zac (p_mov ⟨h25,hop.2⟩ h0 hn hlt hX H)]at hr;rw[if_neg (by omega),if_neg (by omega),if_neg (by omega),if_neg (by omega),if_neg (by omega),if_neg (by omega),if_neg (by omega),if_neg (by omega)];exact hr
 have hsh:decide (25≤op∧op≤29)=false:=decide_eq_false (by omega);rw[hsh,zam,zay,zaR,zac (zbB h0 hn x H),zac (zbB h0 hn y H),zac (zmh H),hsh,zag,zam,zaD,zag]at hr;generalize x&&&msk n=X at *;generalize y&&&msk n=Y at *;by_cases h17:op=17
 ·rw[decide_eq_true h17,zau,b_and,zac (zbB h0 hn _ H)]at hr;have e:(X&&&Y)&&&msk n=X&&&Y:=zlr hn ((zeC hn).2 fun j hj=>by simp only[BitVec.getLsbD_and,BitVec.getLsbD_or,BitVec.getLsbD_xor,(zeC hn).1 hX j hj,(zeC hn).1 hY j hj];rfl);rw[e]at hr;rw[if_pos h17];exact hr
 rw[decide_eq_false h17,zam,zaD,zag]at hr;by_cases h18:op=18
 ·rw[decide_eq_true h18,zau,b_or,zac (zbB h0 hn _ H)]at hr;have e:(X|||Y)&&&msk n=X|||Y:=zlr hn ((zeC hn).2 fun j hj=>by simp only[BitVec.getLsbD_and,BitVec.getLsbD_or,BitVec.getLsbD_xor,(zeC hn).1 hX j hj,(zeC hn).1 hY j hj];rfl);rw[e]at hr;rw[if_neg h17,if_pos h18];exact hr
 rw[decide_eq_false h18,zam,zaD,zag]at hr;by_cases h19:op=19
 ·rw[decide_eq_true h19,zau,b_xor,zac (zbB h0 hn _ H)]at hr;have e:(X ^^^ Y)&&&msk n=X ^^^ Y:=zlr hn ((zeC hn).2 fun j hj=>by simp only[BitVec.getLsbD_and,BitVec.getLsbD_or,BitVec.getLsbD_xor,(zeC hn).1 hX j hj,(zeC hn).1 hY j hj];rfl);rw[e]at hr;rw[if_neg h17,if_neg h18,if_pos h19];exact hr
 rw[decide_eq_false h19,zam,zaD,zag]at hr;by_cases h20:op=20
 ·rw[decide_eq_true h20,zau,b_add,zac (zbB h0 hn _ H)]at hr;rw[if_neg h17,if_neg h18,if_neg h19,if_pos h20];exact hr
 rw[decide_eq_false h20,zam,zaD,zag]at hr;by_cases h21:op=21
 ·rw[decide_eq_true h21,zau,b_sub,zac (zbB h0 hn _ H)]at hr;rw[if_neg h17,if_neg h18,if_neg h19,if_neg h20,if_pos h21];exact hr
 rw[decide_eq_false h21,zam,zaD,zag]at hr;by_cases h22:op=22
 ·rw[decide_eq_true h22,zau,b_mul,zac (zbB h0 hn _ H)]at hr;rw[if_neg h17,if_neg h18,if_neg h19,if_neg h20,if_neg h21,if_pos h22];exact hr
 rw[decide_eq_false h22,zam,zaD,zag]at hr;have hz:∀(k:Value→Option (Value×Hp)),pBin PP .neq Ab (wv Y) (.int .u64 0) k=k (.bool (!decide (Y=0#64))):=fun k=>b_neq _ _ 0#64 k;by_cases h23:op=23
 ·rw[decide_eq_true h23,zau,hz,zag]at hr;rw[if_neg h17,if_neg h18,if_neg h19,if_neg h20,if_neg h21,if_neg h22,if_pos h23];by_cases hy:Y=0#64
  ·rw[decide_eq_true hy,show (!true)=false from rfl,zam,u_all,zac (zbB h0 hn _ H),show msk 64&&&msk n=msk n by rw[msk_all,BitVec.allOnes_and]]at hr;rw[if_pos hy];exact hr
  ·rw[decide_eq_false hy,show (!false)=true from rfl,zau,b_quo _ hy,zac (zbB h0 hn _ H),zlr hn (by rw[BitVec.toNat_udiv];exact Nat.le_trans (Nat.div_le_self _ _) hX)]at hr;rw[if_neg hy];exact hr
 rw[decide_eq_false h23,zam,zaD,zag]at hr;have h24:op=24:=by omega
 rw[decide_eq_true h24,zau,hz,zag]at hr;rw[if_neg h17,if_neg h18,if_neg h19,if_neg h20,if_neg h21,if_neg h22,if_neg h23,if_pos h24];by_cases hy:Y=0#64
 ·rw[decide_eq_true hy,show (!true)=false from rfl,zam,zac (zbB h0 hn _ H),zlr hn hX]at hr;rw[if_pos hy];exact hr
 ·rw[decide_eq_false hy,show (!false)=true from rfl,zau,b_rem _ hy,zac (zbB h0 hn _ H),zlr hn (by rw[BitVec.toNat_umod];exact Nat.le_trans (Nat.mod_le _ _) hX)]at hr;rw[if_neg hy];exact hr
end Go.AM.N14
namespace Go.AM.N14
open Go Go.AM
def unW(op:Int)(n:Nat)(x:W64):W64:=if op=15 then ~~~x&&&msk n else (0#64-x)&&&msk n
def cmpW(op:Int)(n:Nat)(x y:W64):Bool:=
 let X:=x&&&msk n
 let Y:=y&&&msk n
 if op=9 then decide (X=Y) else if op=10 then decide (X.toNat<Y.toNat) else if op=11 then decide (X.toNat≤Y.toNat) else if op=12 then decide (sg n X<sg n Y) else decide (sg n X≤sg n Y)
def catW(n:Nat)(x:W64)(m:Nat)(y:W64):W64:=(x&&&msk n) <<< m|||(y&&&msk m)
def sliceW(n:Nat)(x:W64)(i m:Nat):W64:=(x&&&msk n) >>> i&&&msk m
def extW(op:Int)(n:Nat)(x:W64)(m:Nat):W64:=if op=32 then x&&&msk n else BitVec.ofInt 64 (sg n x)&&&msk m
theorem b_neg{α:Type}(x:W64)(k:Value→Option α):pUn .neg (wv x) k=k (wv (0#64-x)):=by show k (.int .u64 (IntKind.u64.wrap (0-(x.toNat:Int))))=_;rw[zeT];congr 2;rw[BitVec.zero_sub];apply BitVec.eq_of_toNat_eq;rw[BitVec.toNat_ofInt,BitVec.toNat_neg];have:=x.isLt;omega
theorem ci_u64{α:Type}(a:Int)(f:Value→Option α):zav .u64 (.int .i64 a) f=f (wv (BitVec.ofInt 64 a)):=by rw[zdt,zeT]
theorem p_un{op:Int}(hop:op=15∨op=16){n:Nat}(h0:1≤n)(hn:n≤64)(x:W64)(H:Hp):RR Br [.int .i64 op,.int .i64 (n:Int),wv x] H=some (.tuple #[wv (unW op n x),.int .i64 0],H):=by
 have hr:=r_bits_Un E0 rfl (.int .i64 op) (.int .i64 (n:Int)) (wv x) H;unfold znD at hr;unfold unW;rcases hop with rfl|rfl
 ·rw[zcz,bF (by decide),zac (zc2 h0 hn H),zb0,zag,show (!true)=false from rfl,zam,eT rfl,b_not,zac (zbB h0 hn _ H)]at hr;rw[if_pos rfl];exact hr
 ·have hneg:∀(f:Value→Option (Value×Hp)),pUn .neg (wv x) f=f (wv (0#64-x)):=fun f=>b_neg x f;rw[zcz,bT (by decide),zcz,bF (by decide),zac (zc2 h0 hn H),zb0,zag,show (!true)=false from rfl,zam,eF (by decide),hneg,zac (zbB h0 hn _ H)]at hr;rw[if_neg (by decide)];exact hr
theorem p_cmp{op:Int}(hop:9≤op∧op≤13){n:Nat}(h0:1≤n)(hn:n≤64)(x y:W64)(H:Hp):RR Bn [.int .i64 op,.int .i64 (n:Int),wv x,wv y] H=some (.tuple #[.bool (cmpW op n x y),.int .i64 0],H):=by
 have hr:=zqA E0 rfl (.int .i64 op) (.int .i64 (n:Int)) (wv x) (wv y) H;unfold zlv at hr;rw[lF (by omega),zei,bF (by omega),zay,zaR,zac (zc2 h0 hn H),zb0,zag,show (!true)=false from rfl,zam,zac (zbB h0 hn x H),zac (zbB h0 hn y H),zac (zi1 h0 hn _ H),zac (zi1 h0 hn _ H),zaD,zag]at hr;unfold cmpW;dsimp only;by_cases h9:op=9
 ·rw[decide_eq_true h9,zau,zgU]at hr;rw[if_pos h9];exact hr
 rw[decide_eq_false h9,zam,zaD,zag]at hr;by_cases h10:op=10
 ·rw[decide_eq_true h10,zau,b_lss]at hr;rw[if_neg h9,if_pos h10];exact hr
 rw[decide_eq_false h10,zam,zaD,zag]at hr;by_cases h11:op=11
 ·rw[decide_eq_true h11,zau,b_leq]at hr;rw[if_neg h9,if_neg h10,if_pos h11];exact hr
 rw[decide_eq_false h11,zam,zaD,zag]at hr;by_cases h12:op=12
 ·rw[decide_eq_true h12,zau,zbL]at hr;rw[if_neg h9,if_neg h10,if_neg h11,if_pos h12];exact hr
 rw[decide_eq_false h12,zam,zl4]at hr;rw[if_neg h9,if_neg h10,if_neg h11,if_neg h12];exact hr
theorem p_cat{n m:Nat}(h0:1≤n)(h1:1≤m)(hs:n+m≤64)(x y:W64)(H:Hp):RR Bm [.int .i64 (n:Int),wv x,.int .i64 (m:Int),wv y] H=some (.tuple #[wv (catW n x m y),.int .i64 0],H):=by
 have hn:n≤64:=by omega
 have hm:m≤64:=by omega
 have hr:=zqB E0 rfl (.int .i64 (n:Int)) (wv x) (.int .i64 (m:Int)) (wv y) H;unfold zlw at hr;rw[zac (zc2 h0 hn H),zb0,zag,show (!true)=false from rfl,zam,zac (zc2 h1 hm H),zb0,zag,show (!true)=false from rfl,zam,zbM,zaV (by omega) (by omega),zei,bF (by omega),zac (zbB h0 hn x H),cu64 _ (by omega),b_shl,zac (zbB h1 hm y H),b_or]at hr;exact hr
theorem p_slice{n i m:Nat}(h0:1≤n)(hn:n≤64)(h1:1≤m)(hs:i+m≤n)(x:W64)(H:Hp):RR Bp [.int .i64 (n:Int),wv x,.int .i64 (i:Int),.int .i64 (m:Int)] H=some (.tuple #[wv (sliceW n x i m),.int .i64 0],H):=by
 have hm:m≤64:=by omega
 have hr:=zng E0 rfl (.int .i64 (n:Int)) (wv x) (.int .i64 (i:Int)) (.int .i64 (m:Int)) H;unfold zil at hr;rw[zac (zc2 h0 hn H),zb0,zag,show (!true)=false from rfl,zam,lF (by omega),lF (by omega),zei,bF (by omega),zd8,zaV (by omega) (by omega),zei,bF (by omega),zay,zaR,zac (zbB h0 hn x H),cu64 _ (by omega),zk3,zac (zbB h1 hm _ H)]at hr;exact hr
theorem p_ext{op:Int}(hop:op=32∨op=33){n m:Nat}(h0:1≤n)(hs:n≤m)(hm:m≤64)(x:W64)(H:Hp):RR A3 [.int .i64 op,.int .i64 (n:Int),wv x,.int .i64 (m:Int)] H=some (.tuple #[wv (extW op n x m),.int .i64 0],H):=by
 have hn:n≤64:=by omega
 have h1:1≤m:=by omega
 have hr:=zqz E0 rfl (.int .i64 op) (.int .i64 (n:Int)) (wv x) (.int .i64 (m:Int)) H;unfold zlu at hr;unfold extW;rcases hop with rfl|rfl
 ·rw[zcz,bF (by decide),zay,zaR,zac (zc2 h0 hn H),zb0,zag,show (!true)=false from rfl,zam,zac (zc2 h1 hm H),zb0,zag,show (!true)=false from rfl,zam,lF (by omega),zay,zaR,eT rfl,zac (zbB h0 hn _ H)]at hr;rw[if_pos rfl];exact hr
 ·rw[zcz,bT (by decide),zcz,bF (by decide),zay,zaR,zac (zc2 h0 hn H),zb0,zag,show (!true)=false from rfl,zam,zac (zc2 h1 hm H),zb0,zag,show (!true)=false from rfl,zam,lF (by omega),zay,zaR,eF (by decide),zac (zi1 h0 hn _ H),ci_u64,zac (zbB h1 hm _ H)]at hr;rw[if_neg (by decide)];exact hr
end Go.AM.N14
namespace Go.AM
open List Go
structure Inv(lim:Int)(L:List Nd):Prop where
 w:∀m∈L,0≤m.w∧m.w≤64
 parts:∀(i:Nat) m,L[i]?=some m→m.a≤i∧m.b≤i∧m.c≤i
 nod:∀(i j:Nat) m,L[i]?=some m→L[j]?=some m→i=j
 lim:lim>0→(L.length:Int)≤lim
theorem Inv.nil(lim:Int):Inv lim []:=⟨fun m h=>(by cases h),fun i m h=>(by cases h),fun i j m h=>(by cases h),fun h=>by simp;omega⟩
theorem zch(n m:Nd):zdA n m=true↔n=m:=by cases n;cases m;unfold zdA;simp[zq7]
theorem zfw(n:Nd):∀(L:List Nd) (i q:Nat),zbp n i L=some q→i≤q∧L[q-i]?=some n
 |[],i,q,h=>by cases h
 |m::r,i,q,h=>by
  unfold zbp at h;split at h
  ·rename_i e;cases h;have:=(zch n m).1 e;subst this;exact⟨Nat.le_refl _,by simp⟩
  ·obtain⟨h1,h2⟩:=zfw n r (i+1) q h;refine⟨by omega,?_⟩;rw[show q-i=(q-(i+1))+1 by omega];simpa using h2
theorem zcT(n:Nd):∀(L:List Nd) (i:Nat),zbp n i L=none→∀(j:Nat),L[j]?≠some n
 |[],i,h,j,e=>by cases e
 |m::r,i,h,j,e=>by
  unfold zbp at h;split at h
  ·cases h
  ·rename_i ne;cases j with
   |zero=>simp at e;subst e;exact ne ((zch _ _).2 rfl)
   |succ j=>exact zcT n r (i+1) h j (by simpa using e)
theorem zmw{L:List Nd}{m:Nd}{t:Int}(h:isT L t=true):isT (L++[m]) t=true:=by obtain⟨h1,h2⟩:=zbv.1 h;exact zbv.2 ⟨h1,by simp;omega⟩
theorem wT_app{L:List Nd}{m:Nd}{d t:Int}(h:isT L t=true∨t≤0):wT (L++[m]) d t=wT L d t:=by
 rcases h with h|h
 ·obtain⟨h1,h2⟩:=zbv.1 h;unfold wT;rw[if_pos h,if_pos (zmw h),List.getElem?_append_left (by omega)]
 ·have e1:∀M:List Nd,isT M t=false:=fun M=>by
   cases e:isT M t with
   |false=>rfl
   |true=>have:=(zbv.1 e).1;omega
  unfold wT;rw[if_neg (by rw[e1];decide),if_neg (by rw[e1];decide)]
theorem zbJ(op:Int):zax op=0∨zax op=1∨zax op=2∨zax op=3:=by
 unfold zax;split
 ·exact .inl rfl
 ·split
  ·exact .inr (.inl rfl)
  ·split
   ·exact .inr (.inr (.inr rfl))
   ·exact .inr (.inr (.inl rfl))
theorem zme{L:List Nd}{n:Nd}(h1:¬zbh L n=true)(h2:¬zdq (zax n.op) n=true) :
  (isT L n.a=true∨n.a=0)∧(isT L n.b=true∨n.b=0)∧(isT L n.c=true∨n.c=0)∧(zax n.op≥1→isT L n.a=true)∧(zax n.op≥2→isT L n.b=true)∧(zax n.op≥3→isT L n.c=true):=by
 unfold zbh at h1;unfold zdq at h2;simp only[Bool.or_eq_true,Bool.and_eq_true,decide_eq_true_eq,Bool.not_eq_true',not_or,not_and,Bool.not_eq_false]at h1 h2;have ha:zax n.op≥1→isT L n.a=true:=h1.1.1;have hb:zax n.op≥2→isT L n.b=true:=h1.1.2;have hc:zax n.op≥3→isT L n.c=true:=h1.2;refine⟨?_,?_,?_,ha,hb,hc⟩
 ·rcases Int.lt_or_le (zax n.op) 1 with q|q
  ·right;have:=h2.1.1.1.1 q;omega
  ·exact .inl (ha q)
 ·rcases Int.lt_or_le (zax n.op) 2 with q|q
  ·right;have:=h2.1.1.1.2 q;omega
  ·exact .inl (hb q)
 ·rcases Int.lt_or_le (zax n.op) 3 with q|q
  ·right;have:=h2.1.1.2 q;omega
  ·exact .inl (hc q)
theorem zhW(s t:ByteArray)(w:Int):∀(K:List (ByteArray×Int)) (i:Nat),za6 s i K=none→za6 s i (K++[(s,w)])=some (i+K.length,w)
 |[],i,h=>by
  show za6 s i [(s,w)]=_;unfold za6;rw[if_pos ((zq7 s s).2 rfl)];rfl
 |(u,v)::r,i,h=>by
  unfold za6 at h;split at h
  ·cases h
  ·rename_i ne;show za6 s i ((u,v)::(r++[(s,w)]))=_;unfold za6;rw[if_neg ne,zhW s t w r (i+1) h,length_cons];congr 2;omega
theorem zph{K:List (ByteArray×Int)}{n:Nd}(h:zbr K n=false):zbr (zbm n.name n.w K) n=false:=by
 unfold zbm;cases hq:za6 n.name 0 K with
 |some q=>exact h
 |none=>
  unfold zbr at h ⊢;rw[hq]at h;rw[zhW n.name n.name n.w K 0 hq];simpa using h
structure zed(L:List Nd)(K:List (ByteArray×Int))(n:Nd):Prop where
 op:¬(n.op<1∨n.op>33)
 w:¬(n.w<0∨n.w>64)
 pt:¬zbh L n=true
 sp:¬zdq (zax n.op) n=true
 so:¬zcg n.op (wT L (-1) n.a) (wT L (-1) n.b) (wT L (-1) n.c)=false
 wi:¬zcf n (wT L (-1) n.a) (wT L (-1) n.b)=false
 nm:¬(n.op=4∧zbr K n=true)
theorem zg5{L:List Nd}{K:List (ByteArray×Int)}{n:Nd}:zcs L K n=0↔zed L K n:=by
 constructor
 ·intro h;unfold zcs at h;split at h
  ·cases h
  ·split at h
   ·cases h
   ·split at h
    ·cases h
    ·split at h
     ·cases h
     ·split at h
      ·cases h
      ·split at h
       ·cases h
       ·split at h
        ·cases h
        ·constructor<;>assumption
 ·rintro⟨h1,h2,h3,h4,h5,h6,h7⟩
  unfold zcs;rw[if_neg h1,if_neg h2,if_neg h3,if_neg h4,if_neg h5,if_neg h6,if_neg h7]
theorem zed.app{L:List Nd}{K K':List (ByteArray×Int)}{n m:Nd}(h:zed L K n)(hk:n.op=4→zbr K' n=false):zed (L++[m]) K' n:=by
 obtain⟨ga,gb,gc,ha,hb,hc⟩:=zme h.pt h.sp;have ea:=wT_app (m:=m) (d:=-1) (ga.imp id (fun e=>by omega):isT L n.a=true∨n.a≤0);have eb:=wT_app (m:=m) (d:=-1) (gb.imp id (fun e=>by omega):isT L n.b=true∨n.b≤0);have ec:=wT_app (m:=m) (d:=-1) (gc.imp id (fun e=>by omega):isT L n.c=true∨n.c≤0);refine⟨h.op,h.w,?_,h.sp,?_,?_,fun q=>?_⟩
 ·intro q;unfold zbh at q;simp only[Bool.or_eq_true,Bool.and_eq_true,decide_eq_true_eq,Bool.not_eq_true']at q;rcases q with (⟨q1,q2⟩|⟨q1,q2⟩)|⟨q1,q2⟩
  ·rw[zmw (ha q1)]at q2;cases q2
  ·rw[zmw (hb q1)]at q2;cases q2
  ·rw[zmw (hc q1)]at q2;cases q2
 ·rw[ea,eb,ec];exact h.so
 ·rw[ea,eb];exact h.wi
 ·rw[hk q.1]at q;cases q.2
theorem mk_no{lim:Int}{L:List Nd}{K:List (ByteArray×Int)}{n:Nd}(h:(mkR lim L K n).2.1≠0):mkR lim L K n=(0,(mkR lim L K n).2.1,L,K):=by
 unfold mkR at h ⊢;by_cases he:zcs L K n≠0
 ·rw[if_pos he]
 ·rw[if_neg he]at h ⊢;cases hq:zbp n 0 L with
  |some q=>rw[hq]at h;exact absurd rfl h
  |none=>
   rw[hq]at h;dsimp only at h ⊢;split at h
   ·rename_i g;rw[if_pos g]
   ·exact absurd rfl h
theorem znB{lim:Int}{L:List Nd}{K:List (ByteArray×Int)}{n:Nd}(h:(mkR lim L K n).2.1=0):zed L K n ∧
  ((∃q,zbp n 0 L=some q∧mkR lim L K n=(((q+1:Nat):Int),0,L,K)) ∨
   (zbp n 0 L=none∧¬(lim>0∧(L.length:Int)≥lim)∧mkR lim L K n=(((L.length+1:Nat):Int),0,L++[n],if n.op=4 then zbm n.name n.w K else K))):=by
 unfold mkR at h ⊢;by_cases he:zcs L K n≠0
 ·rw[if_pos he]at h;exact absurd h he
 ·rw[if_neg he]at h ⊢;refine⟨zg5.1 (by omega),?_⟩;cases hq:zbp n 0 L with
  |some q=>exact .inl ⟨q,rfl,rfl⟩
  |none=>
   rw[hq]at h;dsimp only at h ⊢;split at h
   ·cases h
   ·rename_i g;rw[if_neg g];exact .inr ⟨rfl,g,rfl⟩
theorem mk_inv{lim:Int}{L:List Nd}{K:List (ByteArray×Int)}{n:Nd}(h:Inv lim L):Inv lim (mkR lim L K n).2.2.1:=by
 by_cases h0:(mkR lim L K n).2.1=0
 ·obtain⟨hr,⟨q,hq,e⟩|⟨hq,hl,e⟩⟩:=znB h0
  ·rw[e];exact h
  ·rw[e];obtain⟨ga,gb,gc,_,_,_⟩:=zme hr.pt hr.sp;have bd:∀x:Int,isT L x=true∨x=0→x≤(L.length:Int):=fun x hx=>by
    rcases hx with hx|hx
    ·exact(zbv.1 hx).2
    ·omega
   refine⟨fun m hm=>?_,fun i m hm=>?_,fun i j m hi hj=>?_,fun hp=>?_⟩
   ·rcases mem_append.1 hm with hm|hm
    ·exact h.w m hm
    ·rw[mem_singleton]at hm;subst hm;have:=hr.w;omega
   ·rw[List.getElem?_append]at hm;split at hm
    ·exact h.parts i m hm
    ·rename_i ge;have:i=L.length:=by have:=(List.getElem?_eq_some_iff.1 hm).1;simp at this;omega
     subst this;simp at hm;subst hm;exact⟨bd _ ga,bd _ gb,bd _ gc⟩
   ·have key:∀i:Nat,(L++[n])[i]?=some m→(i<L.length∧L[i]?=some m)∨(i=L.length∧m=n):=fun i hi=>by
     rw[List.getElem?_append]at hi;split at hi
     ·rename_i lt;exact .inl ⟨lt,hi⟩
     ·rename_i ge;have:i=L.length:=by have:=(List.getElem?_eq_some_iff.1 hi).1;simp at this;omega
      subst this;simp at hi;exact .inr ⟨rfl,hi.symm⟩
    rcases key i hi with⟨a1,a2⟩|⟨a1,a2⟩<;>rcases key j hj with⟨b1,b2⟩|⟨b1,b2⟩
    ·exact h.nod i j m a2 b2
    ·rw[b2]at a2;exact absurd a2 (zcT n L 0 hq i)
    ·rw[a2]at b2;exact absurd b2 (zcT n L 0 hq j)
    ·omega
   ·have:¬(L.length:Int)≥lim:=fun q=>hl ⟨hp,q⟩;simp;omega
 ·rw[mk_no h0];exact h
end Go.AM
namespace Go.AM
open Go
section
variable {lim:Int}{L:List Nd}{K:List (ByteArray×Int)}
theorem ask_inv(o:OpA)(h:Inv lim L):Inv lim (askR lim L K o).2.2.1:=
 ask_ind (Q:=fun r=>Inv lim r.2.2.1) (fun n=>mk_inv h) (fun e=>h) o
theorem ask_le(o:OpA):(askR lim L K o).2.2.1.length≤L.length+1:=
 ask_ind (Q:=fun r=>r.2.2.1.length≤L.length+1) (fun n=>by
  by_cases h0:(mkR lim L K n).2.1=0
  ·obtain⟨_,⟨q,_,e⟩|⟨_,_,e⟩⟩:=znB h0<;>rw[e]<;>simp
  ·rw[mk_no h0];simp) (fun e=>by simp) o
end
end Go.AM
namespace Go.AM
open List Go
def zbO(n:Nd):List Nat:=([n.a,n.b,n.c].take (zax n.op).toNat).map Int.toNat
def kids(L:List Nd)(t:Nat):List Nat:=match L[t-1]? with
 |some n=>zbO n
 |none=>[]
structure Dag(L:List Nd):Prop where
 a:∀(i:Nat) m,L[i]?=some m→(zax m.op≥1∧1≤m.a∧m.a≤i)∨(zax m.op<1∧m.a=0)
 b:∀(i:Nat) m,L[i]?=some m→(zax m.op≥2∧1≤m.b∧m.b≤i)∨(zax m.op<2∧m.b=0)
 c:∀(i:Nat) m,L[i]?=some m→(zax m.op≥3∧1≤m.c∧m.c≤i)∨(zax m.op<3∧m.c=0)
theorem Dag.nil:Dag []:=⟨fun i m h=>(by cases h),fun i m h=>(by cases h),fun i m h=>(by cases h)⟩
theorem zkI{L:List Nd}{n m:Nd}{i:Nat}(h:(L++[n])[i]?=some m):L[i]?=some m∨(i=L.length∧m=n):=by
 rw[List.getElem?_append]at h;split at h
 ·exact .inl h
 ·have:i=L.length:=by have:=(List.getElem?_eq_some_iff.1 h).1;simp at this;omega
  subst this;simp at h;exact .inr ⟨rfl,h.symm⟩
theorem mk_dag{lim:Int}{L:List Nd}{K:List (ByteArray×Int)}{n:Nd}(h:Dag L):Dag (mkR lim L K n).2.2.1:=by
 by_cases h0:(mkR lim L K n).2.1=0
 ·obtain⟨hr,⟨q,hq,e⟩|⟨hq,hl,e⟩⟩:=znB h0
  ·rw[e];exact h
  ·rw[e];have h1:=hr.pt;have h2:=hr.sp;unfold zbh at h1;unfold zdq at h2;simp only[Bool.or_eq_true,Bool.and_eq_true,decide_eq_true_eq,Bool.not_eq_true',not_or,not_and,Bool.not_eq_false]at h1 h2;refine⟨fun i m hm=>?_,fun i m hm=>?_,fun i m hm=>?_⟩
   ·rcases zkI hm with hm|⟨rfl,rfl⟩
    ·exact h.a i m hm
    ·rcases Int.lt_or_le (zax m.op) 1 with q|q
     ·have:=h2.1.1.1.1 q;omega
     ·have:=zbv.1 (h1.1.1 q);omega
   ·rcases zkI hm with hm|⟨rfl,rfl⟩
    ·exact h.b i m hm
    ·rcases Int.lt_or_le (zax m.op) 2 with q|q
     ·have:=h2.1.1.1.2 q;omega
     ·have:=zbv.1 (h1.1.2 q);omega
   ·rcases zkI hm with hm|⟨rfl,rfl⟩
    ·exact h.c i m hm
    ·rcases Int.lt_or_le (zax m.op) 3 with q|q
     ·have:=h2.1.1.2 q;omega
     ·have:=zbv.1 (h1.2 q);omega
 ·rw[mk_no h0];exact h
theorem znE{L:List Nd}(h:Dag L){i:Nat}{n:Nd}(hn:L[i]?=some n):(zbO n).length=(zax n.op).toNat ∧
  (∀(j:Nat) x,[n.a,n.b,n.c][j]?=some x→j<(zbO n).length→(zbO n)[j]?=some x.toNat∧1≤x∧x≤i)∧(∀c∈zbO n,1≤c∧c≤i):=by
 have ha:=h.a i n hn;have hb:=h.b i n hn;have hc:=h.c i n hn;have key:(zbO n).length=(zax n.op).toNat∧(∀(j:Nat) x,[n.a,n.b,n.c][j]?=some x→j<(zbO n).length→(zbO n)[j]?=some x.toNat∧1≤x∧x≤i):=by
  rcases zbJ n.op with q|q|q|q
  ·refine⟨by simp[zbO,q],fun j x hx hj=>?_⟩;simp[zbO,q]at hj
  ·refine⟨by simp[zbO,q],fun j x hx hj=>?_⟩;simp[zbO,q]at hj;subst hj;simp at hx;subst hx;exact⟨by simp[zbO,q],by omega,by omega⟩
  ·refine⟨by simp[zbO,q],fun j x hx hj=>?_⟩;simp[zbO,q]at hj
   match j,hj with
   |0,_=>simp at hx;subst hx;exact⟨by simp[zbO,q],by omega,by omega⟩
   |1,_=>simp at hx;subst hx;exact⟨by simp[zbO,q],by omega,by omega⟩
  ·refine⟨by simp[zbO,q],fun j x hx hj=>?_⟩;simp[zbO,q]at hj
   match j,hj with
   |0,_=>simp at hx;subst hx;exact⟨by simp[zbO,q],by omega,by omega⟩
   |1,_=>simp at hx;subst hx;exact⟨by simp[zbO,q],by omega,by omega⟩
   |2,_=>simp at hx;subst hx;exact⟨by simp[zbO,q],by omega,by omega⟩
 refine⟨key.1,key.2,fun c hcm=>?_⟩;obtain⟨j,hj⟩:=List.getElem?_of_mem hcm;have hlt:=(List.getElem?_eq_some_iff.1 hj).1;have hle:j<3:=by have h1:=key.1;rcases zbJ n.op with q|q|q|q<;>rw[q]at h1<;>simp at h1<;>omega
 obtain⟨x,hx⟩:∃x,[n.a,n.b,n.c][j]?=some x:=⟨_,List.getElem?_eq_getElem (by simpa using hle)⟩
 obtain⟨h1,h2,h3⟩:=key.2 j x hx hlt;rw[hj]at h1;cases h1;omega
theorem zdE{L:List Nd}(h:Dag L){t c:Nat}(ht:1≤t)(hc:c∈kids L t):1≤c∧c<t:=by
 unfold kids at hc;cases hq:L[t-1]? with
 |none=>rw[hq]at hc;cases hc
 |some n=>
  rw[hq]at hc;have:=(znE h hq).2.2 c hc;omega
def visit(L:List Nd):Nat→Nat→List Nat→List Nat
 |0,_,out=>out
 |k+1,t,out=>if t∈out then out else (kids L t).foldl (fun o c=>visit L k c o) out++[t]
theorem zgL{α β:Type}{f g:α→β→α}:∀(l:List β) (a:α),(∀b∈l,∀a,f a b=g a b)→l.foldl f a=l.foldl g a
 |[],a,h=>rfl
 |b::l,a,h=>by rw[foldl_cons,foldl_cons,h b (mem_cons_self ..)];exact zgL l _ fun b hb=>h b (mem_cons_of_mem _ hb)
theorem zqp{L:List Nd}(h:Dag L):∀(t:Nat),1≤t→∀(k m:Nat) (out:List Nat),t≤k→t≤m→visit L k t out=visit L m t out:=by
 intro t;induction t using Nat.strongRecOn with
 |_ t ih=>
  intro ht k m out hk hm;cases k with
  |zero=>omega
  |succ k=>
   cases m with
   |zero=>omega
   |succ m=>
    unfold visit;split
    ·rfl
    ·congr 1;exact zgL _ _ fun c hc o=>by have:=zdE h ht hc;exact ih c this.2 this.1 k m o (by omega) (by omega)
def post(L:List Nd)(t:Nat)(out:List Nat):List Nat:=visit L t t out
def posts(L:List Nd)(l:List Nat)(out:List Nat):List Nat:=l.foldl (fun o c=>post L c o) out
theorem zeM{L:List Nd}(h:Dag L){t:Nat}(ht:1≤t)(out:List Nat):post L t out=if t∈out then out else posts L (kids L t) out++[t]:=by
 unfold post posts;cases t with
 |zero=>omega
 |succ t=>
  show (if t+1∈out then out else _)=_;split
  ·rfl
  ·congr 1;exact zgL _ _ fun c hc o=>by have:=zdE h (t:=t+1) ht hc;exact zqp h c this.1 _ _ o (by omega) (Nat.le_refl _)
theorem post_in{L:List Nd}(h:Dag L){t:Nat}(ht:1≤t){out:List Nat}(hm:t∈out):post L t out=out:=by rw[zeM h ht,if_pos hm]
theorem zpN{L:List Nd}(h:Dag L){t:Nat}(ht:1≤t){out:List Nat}(hm:t∉out):post L t out=posts L (kids L t) out++[t]:=by rw[zeM h ht,if_neg hm]
theorem zpO{L:List Nd}(h:Dag L):∀(t:Nat),1≤t→∀(out:List Nat),(∀x∈out,x∈post L t out)∧t∈post L t out∧(∀x∈post L t out,x∈out∨(1≤x∧x≤t)):=by
 intro t;induction t using Nat.strongRecOn with
 |_ t ih=>
  intro ht out;rw[zeM h ht];split
  ·rename_i hm;exact⟨fun x hx=>hx,hm,fun x hx=>.inl hx⟩
  ·have key:∀(l:List Nat) (o:List Nat),(∀c∈l,c∈kids L t)→(∀x∈o,x∈posts L l o)∧(∀x∈posts L l o,x∈o∨(1≤x∧x<t)):=by
    intro l;induction l with
    |nil=>exact fun o _=>⟨fun x hx=>hx,fun x hx=>.inl hx⟩
    |cons c l ihl=>
     intro o hl;have hc:=zdE h ht (hl c (mem_cons_self ..));obtain⟨g1,g2,g3⟩:=ih c hc.2 hc.1 o;obtain⟨k1,k2⟩:=ihl (post L c o) fun c hc=>hl c (mem_cons_of_mem _ hc);refine⟨fun x hx=>k1 x (g1 x hx),fun x hx=>?_⟩;rcases k2 x hx with q|q
     ·rcases g3 x q with q|q
      ·exact .inl q
      ·exact .inr ⟨q.1,by omega⟩
     ·exact .inr q
   obtain⟨k1,k2⟩:=key (kids L t) out fun c hc=>hc;refine⟨fun x hx=>mem_append_left _ (k1 x hx),by simp,fun x hx=>?_⟩;rcases mem_append.1 hx with q|q
   ·rcases k2 x q with q|q
    ·exact .inl q
    ·exact .inr ⟨q.1,by omega⟩
   ·rw[mem_singleton]at q;subst q;exact .inr ⟨ht,Nat.le_refl _⟩
theorem zdn(L:List Nd)(c:Nat)(l:List Nat)(out:List Nat):posts L (c::l) out=posts L l (post L c out):=rfl
theorem zcc{L:List Nd}(h:Dag L){N:Nat}:∀(l:List Nat) (o:List Nat),(∀c∈l,1≤c∧c≤N)→(∀x∈o,x∈posts L l o)∧(∀x∈l,x∈posts L l o)∧(∀x∈posts L l o,x∈o∨(1≤x∧x≤N))
 |[],o,hl=>⟨fun x hx=>hx,fun x hx=>(by cases hx),fun x hx=>.inl hx⟩
 |c::l,o,hl=>by
  have hc:=hl c (mem_cons_self ..);obtain⟨g1,g2,g3⟩:=zpO h c hc.1 o;obtain⟨k1,k2,k3⟩:=zcc h l (post L c o) fun c hc=>hl c (mem_cons_of_mem _ hc);refine⟨fun x hx=>k1 x (g1 x hx),fun x hx=>?_,fun x hx=>?_⟩
  ·rcases mem_cons.1 hx with rfl|hx
   ·exact k1 _ g2
   ·exact k2 x hx
  ·rcases k3 x hx with q|q
   ·rcases g3 x q with q|q
    ·exact .inl q
    ·exact .inr ⟨q.1,by omega⟩
   ·exact .inr q
end Go.AM
namespace Go.AM.N14
open List Go Go.AM
section
variable {A:Type}
def getA(z:A)(acc:List A)(x:Int):A:=if x≤0 then z else acc.getD (x-1).toNat z
def accA(F:Nd→A→A→A→A)(z:A):List Nd→List A→List A
 |[],acc=>acc
 |n::r,acc=>accA F z r (acc++[F n (getA z acc n.a) (getA z acc n.b) (getA z acc n.c)])
def fnA(F:Nd→A→A→A→A)(z:A)(L:List Nd)(t:Nat):A:=getA z (accA F z L []) (t:Int)
theorem zqm(F:Nd→A→A→A→A)(z:A):∀(r:List Nd) (acc:List A),∃more,accA F z r acc=acc++more∧more.length=r.length
 |[],acc=>⟨[],by rw[append_nil];rfl,rfl⟩
 |n::r,acc=>by obtain⟨more,h1,h2⟩:=zqm F z r (acc++[F n (getA z acc n.a) (getA z acc n.b) (getA z acc n.c)]);exact⟨F n (getA z acc n.a) (getA z acc n.b) (getA z acc n.c)::more,by show accA F z r _=_;rw[h1,append_assoc];rfl,by rw[length_cons,length_cons,h2]⟩
theorem getA_pre{z:A}{acc more:List A}{x:Int}(h:x≤acc.length):getA z (acc++more) x=getA z acc x:=by
 unfold getA;by_cases h0:x≤0
 ·rw[if_pos h0,if_pos h0]
 ·rw[if_neg h0,if_neg h0,getD_eq_getElem?_getD,getD_eq_getElem?_getD,List.getElem?_append_left (by omega)]
theorem accA_at(F:Nd→A→A→A→A)(z:A):∀(r:List Nd) (acc:List A) (j:Nat) (n:Nd),r[j]?=some n→∃mid more,accA F z r acc=mid++more∧mid.length=acc.length+j∧more[0]?=some (F n (getA z mid n.a) (getA z mid n.b) (getA z mid n.c))
 |[],acc,j,n,h=>by cases h
 |m::r,acc,0,n,h=>by
  cases h;obtain⟨more,h1,h2⟩:=zqm F z r (acc++[F m (getA z acc m.a) (getA z acc m.b) (getA z acc m.c)]);exact⟨acc,F m (getA z acc m.a) (getA z acc m.b) (getA z acc m.c)::more,by show accA F z r _=_;rw[h1,append_assoc];rfl,rfl,rfl⟩
 |m::r,acc,j+1,n,h=>by obtain⟨mid,more,h1,h2,h3⟩:=accA_at F z r (acc++[F m (getA z acc m.a) (getA z acc m.b) (getA z acc m.c)]) j n h;exact⟨mid,more,h1,by rw[h2,length_append,length_singleton];omega,h3⟩
theorem fnA_eq{L:List Nd}(hd:Dag L)(F:Nd→A→A→A→A)(z:A){t:Nat}(ht:1≤t){n:Nd}(hn:L[t-1]?=some n) :
  fnA F z L t=F n (fnA F z L n.a.toNat) (fnA F z L n.b.toNat) (fnA F z L n.c.toNat):=by
 obtain⟨mid,more,h1,h2,h3⟩:=accA_at F z L [] (t-1) n hn;rw[length_nil,Nat.zero_add]at h2;have ha:=hd.a _ n hn;have hb:=hd.b _ n hn;have hc:=hd.c _ n hn;have e:fnA F z L t=F n (getA z mid n.a) (getA z mid n.b) (getA z mid n.c):=by unfold fnA;rw[h1];unfold getA;rw[if_neg (by omega),getD_eq_getElem?_getD,List.getElem?_append_right (by omega),show ((t:Int)-1).toNat-mid.length=0 by omega,h3];rfl
 have k:∀x:Int,0≤x→x≤(t-1:Nat)→fnA F z L x.toNat=getA z mid x:=fun x x0 x1=>by unfold fnA;rw[h1,Int.toNat_of_nonneg x0,getA_pre (by omega)]
 rw[e,k n.a (by omega) (by omega),k n.b (by omega) (by omega),k n.c (by omega) (by omega)]
end
end Go.AM.N14
namespace Go.AM
open Go
end Go.AM
namespace Go.AM
open List Go
def dig(d:Nat):UInt8:=UInt8.ofNat (if d<10 then 48+d else 87+d)
def dgt(b x:Nat):List UInt8:=if h:x<b∨b<2 then [dig x] else dgt b (x/b)++[dig (x%b)]
termination_by x
decreasing_by exact Nat.div_lt_self (by omega) (by omega)
theorem znV{b x:Nat}(h:x<b):dgt b x=[dig x]:=by rw[dgt,dif_pos (.inl h)]
theorem znW{b x:Nat}(hb:2≤b)(h:b≤x):dgt b x=dgt b (x/b)++[dig (x%b)]:=by rw[dgt,dif_neg (by omega)]
theorem zmD{b:Nat}(hb:2≤b):∀(n x:Nat),x<b^n→0<n→(dgt b x).length≤n
 |0,x,h,h0=>by omega
 |n+1,x,h,_=>by
  by_cases hx:x<b
  ·rw[znV hx];simp
  ·rw[znW hb (by omega),length_append];have hn:0<n:=by
    rcases Nat.eq_zero_or_pos n with q|q
    ·subst q;simp at h;omega
    ·exact q
   have:x/b<b^n:=Nat.div_lt_of_lt_mul (by rw[Nat.pow_succ,Nat.mul_comm]at h;exact h);have:=zmD hb n (x/b) this hn;simp;omega
abbrev ba(l:List UInt8):ByteArray:=⟨l.toArray⟩
theorem ba_size(l:List UInt8):(ba l).size=l.length:=by simp[ba,ByteArray.size]
theorem zkH(l:List UInt8):(ba l).data.toList=l:=by simp[ba]
theorem zlJ{s:ByteArray}{l:List UInt8}(h:s.data.toList=l):s=ba l:=by cases s;subst h;simp[ba]
theorem app_list(a b:ByteArray):(a++b).data.toList=a.data.toList++b.data.toList:=by simp
theorem ba_app(l m:List UInt8):ba l++ba m=ba (l++m):=zlJ (by rw[app_list,zkH,zkH])
theorem size_list(s:ByteArray):s.size=s.data.toList.length:=(Array.length_toList (xs:=s.data)).symm
section
variable {α:Type}{P:Program}
theorem s_cat(T:TypeId)(a b:ByteArray)(h:a.size+b.size≤2^60)(k:Value→Option α):pBin P .add T (.string a) (.string b) k=k (.string (a++b)):=by
 have h1:¬((a.size+b.size:Nat):Int)>IntKind.i64.max:=by have:IntKind.i64.max=9223372036854775807:=rfl;omega
 have:zol .add a b=some (.string (a++b)):=if_neg h1;unfold pBin binV;dsimp only;rw[this]
theorem zpB(T:TypeId)(a b:List UInt8)(h:a.length+b.length≤2^60)(k:Value→Option α):pBin P .add T (.string (ba a)) (.string (ba b)) k=k (.string (ba (a++b))):=by rw[s_cat T _ _ (by rw[ba_size,ba_size];exact h),ba_app]
theorem s_cut(s:ByteArray)(k1 k2:IntKind)(i j:Nat)(h:i≤j)(hj:j≤s.size)(k:Value→Option α):zdx (.string s) (some (.int k1 (i:Int))) (some (.int k2 (j:Int))) k=k (.string (s.extract i j)):=by
 have:zmU (.string s) (some (.int k1 (i:Int))) (some (.int k2 (j:Int)))=some (.string (s.extract i j)):=by unfold zmU;dsimp only[zdz];rw[if_pos ⟨by omega,by omega,by omega⟩];simp
 unfold zdx;rw[this]
theorem f_at(s:ByteArray)(kd:IntKind)(i:Nat)(b:UInt8)(h:s.data.toList[i]?=some b)(k:Value→Option α):zbg (.string s) (.int kd (i:Int)) k=k (.int .u8 (b.toNat:Int)):=q_at s i b h k
end
def numT(x:Nat):List UInt8:=if x<1000 then dgt 10 x else [48,120]++dgt 16 x
theorem zpY{x:Nat}(h:x<18446744073709551616):(numT x).length≤18:=by
 unfold numT;split
 ·have:=zmD (b:=10) (by decide) 3 x (by omega) (by decide);omega
 ·have:=zmD (b:=16) (by decide) 16 x (by omega) (by decide);simp;omega
end Go.AM
namespace Go.AM
open Go
def str(l:List UInt8):Value:=.string (ba l)
end Go.AM
namespace Go.AM
open List Go
theorem zl6{P:Program}{O:Orc}{ext:FuncId→Option (List Value→Hp→Option (Value×Hp))}{g:FuncId}{fn:Func}{e:List Value→Hp→Option (Value×Hp)}(hf:P.funcs[g]?=some fn)(hn:(fn.name == "runtime.NumGoroutine")=false)(hb:fn.body.isSome=true)(hx:ext g=some e)(xs:List Value)(H:Hp) :
  run P O ext g xs H=e xs H:=by
 rw[run_eq];unfold zkw;rw[hf];dsimp only;rw[hn];dsimp only;obtain⟨c,hc⟩:=Option.isSome_iff_exists.1 hb;rw[hc];dsimp only;rw[hx]
theorem x_cc(xs:List Value)(H:Hp):RR BK xs H=extCC xs H:=zl6 Go.Proofs.Tryz.func158 (by kernel_rfl) (by kernel_rfl) rfl _ _
theorem x_str(xs:List Value)(H:Hp):RR BJ xs H=zqb xs H:=zl6 Go.Proofs.Tryz.func95 (by kernel_rfl) (by kernel_rfl) rfl _ _
def bv(l:List UInt8):List Value:=l.map fun b=>Value.int .u8 (b.toNat:Int)
theorem zhx(l:List UInt8):(bv l).length=l.length:=by simp[bv]
theorem bv_app(l m:List UInt8):bv (l++m)=bv l++bv m:=by simp[bv]
theorem bv_one(l:List UInt8):(bv l).all one=true:=by unfold bv;rw[all_map];exact all_eq_true.2 fun _ _=>rfl
theorem zn0:∀l:List UInt8,zkx (bv l)=some l
 |[]=>rfl
 |b::l=>by have hb:b.toNat<256:=b.toNat_lt;show (if b.toNat<256 then (match zkx (bv l) with|some l=>some (UInt8.ofNat b.toNat::l)|none=>none) else none)=_;rw[if_pos hb,zn0 l];simp
structure Bld(H:Hp)(i:Nat)(s:List UInt8)(j:Option Nat):Prop where
 ty:H.ty i=some Ax
 lt:i<H.next
 ex:∃a buf,H.get i=some (.cells [a,buf] true)∧(a=.pointer none∨a=.pointer (some ⟨i,0,none⟩)) ∧
  ((j=none∧s=[]∧buf=.slice none 0 0)∨∃y,j=some y∧y≠i∧y<H.next∧s≠[]∧buf=.slice (some ⟨y,0,some 1⟩) s.length s.length∧H.get y=some (.cells (bv s) true)∧H.ty y=some Aq)
structure BF(i:Nat)(H:Hp)(j:Option Nat)(H':Hp)(j':Option Nat):Prop where
 next:H.next≤H'.next
 get:∀k,k<H.next→k≠i→j≠some k→H'.get k=H.get k
 ty:∀k,k<H.next→H'.ty k=H.ty k
 foot:∀y,j'=some y→j=some y∨H.next≤y
theorem BF.refl(i:Nat)(H:Hp)(j:Option Nat):BF i H j H j:=⟨Nat.le_refl _,fun _ _ _ _=>rfl,fun _ _=>rfl,fun _ h=>.inl h⟩
theorem zi6(H:Hp)(i:Nat)(T:TypeId)(k:Nat):(H.mark i T).get k=H.get k:=rfl
theorem ty_new(H:Hp)(o:AObj):(H.new o).ty=H.ty:=rfl
theorem zpu{α:Type}{H:Hp}{i:Nat}{a b v:Value}(hg:H.get i=some (.cells [a,b] true))(hc:zad v=[v])(h1:one v=true)(k:Hp→Option α):za8 1 H (.pointer (some ⟨i,1,none⟩)) v k=k (H.set i (some (.cells [a,v] true))):=by
 have hw:zbV 1 [a,b] 1 v=some [a,v]:=by unfold zbV;rw[hc,if_pos ⟨rfl,by simp,by simp[h1]⟩];rfl
 unfold za8 Hp.wr;dsimp only;rw[hg];dsimp only;rw[hw]
theorem app_buf{H:Hp}{i:Nat}{s:List UInt8}{j:Option Nat}{buf:Value}(hi:i<H.next)(hb:(j=none∧s=[]∧buf=.slice none 0 0)∨∃y,j=some y∧y≠i∧y<H.next∧s≠[]∧buf=.slice (some ⟨y,0,some 1⟩) s.length s.length∧H.get y=some (.cells (bv s) true)∧H.ty y=some Aq)
  {x:Value} {t:List UInt8} (hx:zbA 1 x H=some (t.length,bv t)) (hl:s.length+t.length≤2^46) :
  ∃buf' H' j',(∀(α:Type) (k:Value→Hp→Option α),zbG Aq 1 1 buf x H k=k buf' H')∧zad buf'=[buf']∧one buf'=true∧H.next≤H'.next∧(∀k,k<H.next→j≠some k→H'.get k=H.get k)∧(∀k,k<H.next→H'.ty k=H.ty k) ∧
   (∀y,j'=some y→j=some y∨H.next≤y) ∧
   ((j'=none∧s++t=[]∧buf'=.slice none 0 0)∨∃y,j'=some y∧y≠i∧y<H'.next∧s++t≠[]∧buf'=.slice (some ⟨y,0,some 1⟩) (s++t).length (s++t).length∧H'.get y=some (.cells (bv (s++t)) true)∧H'.ty y=some Aq):=by
 have hone:=bv_one t;rcases hb with⟨rfl,rfl,rfl⟩|⟨y,rfl,hyi,hyn,hs,rfl,hg,hty⟩
 ·by_cases h0:t.length=0
  ·have:t=[]:=length_eq_zero_iff.1 h0;subst this;refine⟨.slice none 0 0,H,none,fun α k=>?_,rfl,rfl,Nat.le_refl _,fun _ _ _=>rfl,fun _ _=>rfl,(fun y h=>by cases h),.inl ⟨rfl,rfl,rfl⟩⟩;have ha:zbc 1 1 (.slice none 0 0) x H=some (.slice none 0 0,H):=by unfold zbc;rw[hx];rfl
   unfold zbG;rw[ha];dsimp only;unfold zqM;have:Nat.beq H.next (H.next+1)=false:=by
    cases q:Nat.beq H.next (H.next+1) with
    |false=>rfl
    |true=>have:=Nat.eq_of_beq_eq_true q;omega
   rw[this];rfl
  ·refine⟨.slice (some ⟨H.next,0,some 1⟩) t.length t.length,(H.new (.cells (bv t) true)).mark H.next Aq,some H.next,fun α k=>?_,rfl,rfl,Nat.le_succ _,fun k hk _=>?_,fun k hk=>?_,(fun y h=>by cases h;exact .inr (Nat.le_refl _)),.inr ⟨H.next,rfl,by omega,Nat.lt_succ_self _,?_,?_,?_,?_⟩⟩
   ·have ha:zbc 1 1 (.slice none 0 0) x H=some (.slice (some ⟨H.next,0,some 1⟩) t.length t.length,H.new (.cells (bv t) true)):=by unfold zbc;rw[hx];dsimp only;rw[if_neg h0,if_pos ⟨by have:([]:List UInt8).length=0:=rfl;omega,hone⟩];rfl
    unfold zbG;rw[ha];dsimp only;unfold zqM;have:Nat.beq (H.new (.cells (bv t) true)).next (H.next+1)=true:=Nat.beq_refl _;rw[this];rfl
   ·rw[zi6,get_new,if_neg (by omega)]
   ·show (if k=H.next then _ else H.ty k)=_;rw[if_neg (by omega)]
   ·intro q;rw[nil_append]at q;rw[q]at h0;exact h0 rfl
   ·rfl
   ·rw[zi6,get_new,if_pos rfl,nil_append]
   ·show (if H.next=H.next then _ else _)=_;rw[if_pos rfl]
 ·have hsl:0<s.length:=length_pos_iff.2 hs;by_cases h0:t.length=0
  ·have:t=[]:=length_eq_zero_iff.1 h0;subst this;refine⟨.slice (some ⟨y,0,some 1⟩) s.length s.length,H,some y,fun α k=>?_,rfl,rfl,Nat.le_refl _,fun _ _ _=>rfl,fun _ _=>rfl,fun y h=>.inl h,.inr ⟨y,rfl,hyi,hyn,by simpa using hs,by simp,by simpa using hg,hty⟩⟩;have ha:zbc 1 1 (.slice (some ⟨y,0,some 1⟩) s.length s.length) x H=some (.slice (some ⟨y,0,some 1⟩) s.length s.length,H):=by unfold zbc;rw[hx];dsimp only;rw[if_neg (by decide),if_pos ⟨rfl,Nat.le_refl _⟩]
   unfold zbG;rw[ha];dsimp only;unfold zqM;have:Nat.beq H.next (H.next+1)=false:=by
    cases q:Nat.beq H.next (H.next+1) with
    |false=>rfl
    |true=>have:=Nat.eq_of_beq_eq_true q;omega
   rw[this];rfl
  ·refine⟨.slice (some ⟨H.next,0,some 1⟩) (s.length+t.length) (s.length+t.length),((H.set y none).new (.cells (bv s++bv t) true)).mark H.next Aq,some H.next,fun α k=>?_,rfl,rfl,Nat.le_succ _,fun k hk hj=>?_,fun k hk=>?_,(fun y h=>by cases h;exact .inr (Nat.le_refl _)),.inr ⟨H.next,rfl,by omega,Nat.lt_succ_self _,?_,?_,?_,?_⟩⟩
   ·have ha:zbc 1 1 (.slice (some ⟨y,0,some 1⟩) s.length s.length) x H=some (.slice (some ⟨H.next,0,some 1⟩) (s.length+t.length) (s.length+t.length),(H.set y none).new (.cells (bv s++bv t) true)):=by unfold zbc;rw[hx];dsimp only;rw[if_neg (by decide),if_neg (by omega),hg];dsimp only;rw[if_neg (by omega),if_pos ⟨by rw[zhx];omega,by omega,hone⟩];congr 4;rw[qd0,take_of_length_le (by rw[zhx];omega)]
    unfold zbG;rw[ha];dsimp only;unfold zqM;have e1:Nat.beq ((H.set y none).new (.cells (bv s++bv t) true)).next (H.next+1)=true:=Nat.beq_refl _;have e2:zku Aq (.slice (some ⟨y,0,some 1⟩) s.length s.length) H=true:=by
     obtain⟨q,hq⟩:∃q,s.length=q+1:=⟨s.length-1,by omega⟩
     rw[hq];show (match H.ty y with|some T=>Nat.beq T _|none=>false)=true;rw[hty];exact Nat.beq_refl _
    rw[e1,e2];rfl
   ·rw[zi6,get_new,if_neg (show ¬k=(H.set y none).next by show ¬k=H.next;omega),Hp.get_set,if_neg (fun e=>hj (by rw[e]))]
   ·show (if k=H.next then _ else H.ty k)=_;rw[if_neg (by omega)]
   ·intro q;have:=congrArg List.length q;rw[length_append]at this;simp at this;exact h0 (by rw[this.2];rfl)
   ·rw[length_append]
   ·rw[zi6,get_new,if_pos (show H.next=(H.set y none).next from rfl),bv_app]
   ·show (if H.next=H.next then _ else _)=_;rw[if_pos rfl]
theorem Bld.copy{H:Hp}{i:Nat}{s:List UInt8}{j:Option Nat}(h:Bld H i s j):∃H1 buf,extCC [.pointer (some ⟨i,0,none⟩)] H=some (.tuple #[],H1)∧H1.get i=some (.cells [.pointer (some ⟨i,0,none⟩),buf] true)∧H1.next=H.next∧H1.ty=H.ty∧(∀k,k≠i→H1.get k=H.get k) ∧
  ((j=none∧s=[]∧buf=.slice none 0 0)∨∃y,j=some y∧y≠i∧y<H1.next∧s≠[]∧buf=.slice (some ⟨y,0,some 1⟩) s.length s.length∧H1.get y=some (.cells (bv s) true)∧H1.ty y=some Aq):=by
 obtain⟨a,buf,hg,ha,hb⟩:=h.ex;rcases ha with rfl|rfl
 ·refine⟨H.set i (some (.cells [.pointer (some ⟨i,0,none⟩),buf] true)),buf,?_,?_,rfl,rfl,fun k hk=>?_,?_⟩
  ·show ccB i H (H.get i)=_;rw[hg];exact if_pos h.ty
  ·rw[Hp.get_set,if_pos rfl]
  ·rw[Hp.get_set,if_neg hk]
  ·rcases hb with hb|⟨y,h1,h2,h3,h4,h5,h6,h7⟩
   ·exact .inl hb
   ·exact .inr ⟨y,h1,h2,h3,h4,h5,by rw[Hp.get_set,if_neg h2];exact h6,h7⟩
 ·refine⟨H,buf,?_,hg,rfl,rfl,fun k hk=>rfl,hb⟩;show ccB i H (H.get i)=_;rw[hg];exact if_pos ⟨rfl,h.ty⟩
theorem Bld.ws{H:Hp}{i:Nat}{s:List UInt8}{j:Option Nat}(h:Bld H i s j)(t:ByteArray)(hl:s.length+t.data.toList.length≤2^46) :
  ∃H' j',RR AQ [.pointer (some ⟨i,0,none⟩),.string t] H=some (.tuple #[.int .i64 (t.size:Int),.nilIface],H')∧Bld H' i (s++t.data.toList) j'∧BF i H j H' j':=by
 obtain⟨H1,buf,e1,g1,n1,t1,f1,b1⟩:=h.copy;have hx:zbA 1 (.string t) H1=some (t.data.toList.length,bv t.data.toList):=by have:t.size=t.data.toList.length:=(Array.length_toList (xs:=t.data)).symm;show some (t.size,_)=_;rw[this];rfl
 obtain⟨buf',H2,j',e2,c2,o2,n2,f2,y2,ft2,b2⟩:=app_buf (i:=i) (by rw[n1];exact h.lt) b1 hx hl;have hlt:i<H1.next:=by rw[n1];exact h.lt
 have hji:j≠some i:=fun q=>by
  rcases b1 with⟨q1,_⟩|⟨y,q1,q2,_⟩
  ·rw[q1]at q;cases q
  ·rw[q1]at q;cases q;exact q2 rfl
 have hgi:H2.get i=some (.cells [.pointer (some ⟨i,0,none⟩),buf] true):=by rw[f2 i hlt hji];exact g1
 refine⟨H2.set i (some (.cells [.pointer (some ⟨i,0,none⟩),buf'] true)),j',?_,⟨?_,?_,?_⟩,⟨?_,fun k hk hi hj=>?_,fun k hk=>?_,fun y hy=>?_⟩⟩
 ·refine(zc0 E0 rfl _ _ _).trans ?_;unfold zbS;rw[zac ((x_cc _ _).trans e1),zbw,zaY,zeh g1 _ buf rfl,e2,zbw,zaY];rw[show (0+1:Nat)=1 from rfl,zpu hgi c2 o2];rfl
 ·show H2.ty i=_;rw[y2 i hlt,t1];exact h.ty
 ·show i<H2.next;omega
 ·refine⟨_,buf',by rw[Hp.get_set,if_pos rfl],.inr rfl,?_⟩;rcases b2 with hb|⟨y,h1,h2,h3,h4,h5,h6,h7⟩
  ·exact .inl hb
  ·exact .inr ⟨y,h1,h2,h3,h4,h5,by rw[Hp.get_set,if_neg h2];exact h6,h7⟩
 ·show H.next≤H2.next;omega
 ·rw[Hp.get_set,if_neg hi,f2 k (by omega) hj,f1 k hi]
 ·show H2.ty k=_;rw[y2 k (by omega),t1]
 ·rw[←n1];exact ft2 y hy
theorem Bld.wb{H:Hp}{i:Nat}{s:List UInt8}{j:Option Nat}(h:Bld H i s j)(b:UInt8)(hl:s.length+1≤2^46) :
  ∃H' j',RR AB [.pointer (some ⟨i,0,none⟩),.int .u8 (b.toNat:Int)] H=some (.nilIface,H')∧Bld H' i (s++[b]) j'∧BF i H j H' j':=by
 obtain⟨H1,buf,e1,g1,n1,t1,f1,b1⟩:=h.copy;have hbs:∀(α:Type) (k:Value→Hp→Option α),zaP 1 [.int .u8 0] 1 [(0,.int .u8 (b.toNat:Int))] H1 k=k (.slice (some ⟨H1.next,0,some 1⟩) 1 1) (H1.new (.cells (bv [b]) true)):=fun α k=>rfl;have hlt:i<H1.next:=by rw[n1];exact h.lt
 have hji:j≠some i:=fun q=>by
  rcases b1 with⟨q1,_⟩|⟨y,q1,q2,_⟩
  ·rw[q1]at q;cases q
  ·rw[q1]at q;cases q;exact q2 rfl
 have b1':(j=none∧s=[]∧buf=.slice none 0 0)∨∃y,j=some y∧y≠i∧y<(H1.new (.cells (bv [b]) true)).next∧s≠[]∧buf=.slice (some ⟨y,0,some 1⟩) s.length s.length∧(H1.new (.cells (bv [b]) true)).get y=some (.cells (bv s) true)∧(H1.new (.cells (bv [b]) true)).ty y=some Aq:=by
  rcases b1 with hb|⟨y,h1,h2,h3,h4,h5,h6,h7⟩
  ·exact .inl hb
  ·exact .inr ⟨y,h1,h2,Nat.lt_succ_of_lt h3,h4,h5,by rw[get_new,if_neg (by omega)];exact h6,h7⟩
 have hx:zbA 1 (.slice (some ⟨H1.next,0,some 1⟩) 1 1) (H1.new (.cells (bv [b]) true))=some ([b].length,bv [b]):=by unfold zbA;dsimp only;rw[if_pos rfl,get_new,if_pos rfl];rfl
 obtain⟨buf',H2,j',e2,c2,o2,n2,f2,y2,ft2,b2⟩:=app_buf (i:=i) (Nat.lt_succ_of_lt hlt) b1' hx hl;have n2:H1.next+1≤H2.next:=n2;have hgi:H2.get i=some (.cells [.pointer (some ⟨i,0,none⟩),buf] true):=by rw[f2 i (Nat.lt_succ_of_lt hlt) hji,get_new,if_neg (by omega)];exact g1
 refine⟨H2.set i (some (.cells [.pointer (some ⟨i,0,none⟩),buf'] true)),j',?_,⟨?_,?_,?_⟩,⟨?_,fun k hk hi hj=>?_,fun k hk=>?_,fun y hy=>?_⟩⟩
 ·refine(zdv E0 rfl _ _ _).trans ?_;unfold zb6;rw[zac ((x_cc _ _).trans e1),zbw,zaY,zeh g1 _ buf rfl,hbs,e2,zbw,zaY];rw[show (0+1:Nat)=1 from rfl,zpu hgi c2 o2]
 ·show H2.ty i=_;rw[y2 i (Nat.lt_succ_of_lt hlt),ty_new,t1];exact h.ty
 ·show i<H2.next;omega
 ·refine⟨_,buf',by rw[Hp.get_set,if_pos rfl],.inr rfl,?_⟩;rcases b2 with hb|⟨y,h1,h2,h3,h4,h5,h6,h7⟩
  ·exact .inl hb
  ·exact .inr ⟨y,h1,h2,h3,h4,h5,by rw[Hp.get_set,if_neg h2];exact h6,h7⟩
 ·show H.next≤H2.next;omega
 ·rw[Hp.get_set,if_neg hi,f2 k (by show k<H1.next+1;omega) hj,get_new,if_neg (by omega),f1 k hi]
 ·show H2.ty k=_;rw[y2 k (by show k<H1.next+1;omega),ty_new,t1]
 ·rcases ft2 y hy with q|q
  ·exact .inl q
  ·have q:H1.next+1≤y:=q;exact .inr (by omega)
theorem Bld.text{H:Hp}{i:Nat}{s:List UInt8}{j:Option Nat}(h:Bld H i s j)(hl:s.length≤2^46) :
  ∃H',RR BJ [.pointer (some ⟨i,0,none⟩)] H=some (.string ⟨s.toArray⟩,H')∧BF i H j H' j:=by
 obtain⟨a,buf,hg,ha,hb⟩:=h.ex;rcases hb with⟨rfl,rfl,rfl⟩|⟨y,rfl,h2,h3,h4,rfl,h6,h7⟩
 ·refine⟨H,(x_str _ _).trans ?_,BF.refl _ _ _⟩;show strB i H (H.get i)=_;rw[hg];exact if_pos h.ty
 ·refine⟨H.set y (some (.cells (bv s) false)),(x_str _ _).trans ?_,⟨Nat.le_refl _,fun k hk hi hj=>by rw[Hp.get_set,if_neg (fun e=>hj (by rw[e]))],fun _ _=>rfl,fun _ q=>.inl q⟩⟩;show strB i H (H.get i)=_;rw[hg];show strB2 i y s.length H (H.get y)=_;rw[h6];have hsl:0<s.length:=length_pos_iff.2 h4;have hb:zkx ((bv s).take s.length)=some s:=by rw[take_of_length_le (by rw[zhx];exact Nat.le_refl _),zn0]
  refine(if_pos ⟨h.ty,h7,hsl,by rw[zhx];exact Nat.le_refl _,by omega⟩).trans ?_;rw[hb]
end Go.AM
namespace Go.AM
open Go
abbrev W64:=BitVec 64
section
variable {α:Type}
theorem at8(s:ByteArray)(i:Nat)(hs:i<s.size)(k:Value→Option α):zbg (.string s) (.int .u8 (i:Int)) k=k (.int .u8 ((s[i]'hs).toNat:Int)):=by refine(q_at s i (s[i]'hs) ?_ k);rw[Array.getElem?_toList];exact Array.getElem?_eq_getElem (xs:=s.data) hs
set_option maxRecDepth 100000 in
theorem at_len8(i:Nat)(h:i<256)(k:Value→Option α):zbg (.string ⟨#[0,1,2,2,3,3,3,3,4,4,4,4,4,4,4,4,5,5,5,5,5,5,5,5,5,5,5,5,5,5,5,5,6,6,6,6,6,6,6,6,6,6,6,6,6,6,6,6,6,6,6,6,6,6,6,6,6,6,6,6,6,6,6,6,7,7,7,7,7,7,7,7,7,7,7,7,7,7,7,7,7,7,7,7,7,7,7,7,7,7,7,7,7,7,7,7,7,7,7,7,7,7,7,7,7,7,7,7,7,7,7,7,7,7,7,7,7,7,7,7,7,7,7,7,7,7,7,7,8,8,8,8,8,8,8,8,8,8,8,8,8,8,8,8,8,8,8,8,8,8,8,8,8,8,8,8,8,8,8,8,8,8,8,8,8,8,8,8,8,8,8,8,8,8,8,8,8,8,8,8,8,8,8,8,8,8,8,8,8,8,8,8,8,8,8,8,8,8,8,8,8,8,8,8,8,8,8,8,8,8,8,8,8,8,8,8,8,8,8,8,8,8,8,8,8,8,8,8,8,8,8,8,8,8,8,8,8,8,8,8,8,8,8,8,8,8,8,8,8,8,8,8,8,8,8,8]⟩) (.int .u8 (i:Int)) k=k (.int .u8 ((bitLen i:Nat):Int)):=by have hs:i<(⟨#[0,1,2,2,3,3,3,3,4,4,4,4,4,4,4,4,5,5,5,5,5,5,5,5,5,5,5,5,5,5,5,5,6,6,6,6,6,6,6,6,6,6,6,6,6,6,6,6,6,6,6,6,6,6,6,6,6,6,6,6,6,6,6,6,7,7,7,7,7,7,7,7,7,7,7,7,7,7,7,7,7,7,7,7,7,7,7,7,7,7,7,7,7,7,7,7,7,7,7,7,7,7,7,7,7,7,7,7,7,7,7,7,7,7,7,7,7,7,7,7,7,7,7,7,7,7,7,7,8,8,8,8,8,8,8,8,8,8,8,8,8,8,8,8,8,8,8,8,8,8,8,8,8,8,8,8,8,8,8,8,8,8,8,8,8,8,8,8,8,8,8,8,8,8,8,8,8,8,8,8,8,8,8,8,8,8,8,8,8,8,8,8,8,8,8,8,8,8,8,8,8,8,8,8,8,8,8,8,8,8,8,8,8,8,8,8,8,8,8,8,8,8,8,8,8,8,8,8,8,8,8,8,8,8,8,8,8,8,8,8,8,8,8,8,8,8,8,8,8,8,8,8,8,8,8,8]⟩:ByteArray).size:=h;rw[at8 _ i hs k,len8tab_get i hs]
end
theorem conv8(y:W64)(h:y.toNat<256){α:Type}(k:Value→Option α):zav .u8 (wv y) k=k (.int .u8 (y.toNat:Int)):=by unfold wv;rw[zjL,q_u8 (by omega) (by omega)]
theorem shr_nat(x:W64)(n:Nat):(x >>> n).toNat=x.toNat/2^n:=by rw[BitVec.toNat_ushiftRight,Nat.shiftRight_eq_div_pow]
theorem c80(x:W64)(H:Hp):RR Bo [wv x] H=some (.int .i64 ((bitLen x.toNat:Nat):Int),H):=by
 refine(zni E0 rfl _ H).trans ?_;unfold zin;have n1:Value.int .u64 4294967296=wv 4294967296#64:=rfl;have n2:Value.int .u64 65536=wv 65536#64:=rfl;have n3:Value.int .u64 256=wv 256#64:=rfl;have n4:∀n:Nat,Value.int .u64 (n:Int)=.int .u64 (n:Int):=fun _=>rfl;have s32:∀(a:W64) {α:Type} (k:Value→Option α),pBin PP .shr Ab (wv a) (.int .u64 32) k=k (wv (a >>> 32)):=fun a _ k=>zk3 Ab a k .u64 32;have s16:∀(a:W64) {α:Type} (k:Value→Option α),pBin PP .shr Ab (wv a) (.int .u64 16) k=k (wv (a >>> 16)):=fun a _ k=>zk3 Ab a k .u64 16;have s8:∀(a:W64) {α:Type} (k:Value→Option α),pBin PP .shr Ab (wv a) (.int .u64 8) k=k (wv (a >>> 8)):=fun a _ k=>zk3 Ab a k .u64 8;have tail:∀(y:W64) (n:Nat),n≤64→y.toNat<2^16→∀G:Option (Value×Hp),G=some (.int .i64 ((n+bitLen y.toNat:Nat):Int),H) →
  (pBin PP .geq Ab (wv y) (.int .u64 256) fun v24=>zae v24 fun b25=>br b25
   (pBin PP .shr Ab (wv y) (.int .u64 8) fun v26=>pBin PP .add Aa (.int .i64 (n:Int)) (.int .i64 8) fun v27=>zav .u8 v26 fun v28=>
    zbg (.string ⟨#[0,1,2,2,3,3,3,3,4,4,4,4,4,4,4,4,5,5,5,5,5,5,5,5,5,5,5,5,5,5,5,5,6,6,6,6,6,6,6,6,6,6,6,6,6,6,6,6,6,6,6,6,6,6,6,6,6,6,6,6,6,6,6,6,7,7,7,7,7,7,7,7,7,7,7,7,7,7,7,7,7,7,7,7,7,7,7,7,7,7,7,7,7,7,7,7,7,7,7,7,7,7,7,7,7,7,7,7,7,7,7,7,7,7,7,7,7,7,7,7,7,7,7,7,7,7,7,7,8,8,8,8,8,8,8,8,8,8,8,8,8,8,8,8,8,8,8,8,8,8,8,8,8,8,8,8,8,8,8,8,8,8,8,8,8,8,8,8,8,8,8,8,8,8,8,8,8,8,8,8,8,8,8,8,8,8,8,8,8,8,8,8,8,8,8,8,8,8,8,8,8,8,8,8,8,8,8,8,8,8,8,8,8,8,8,8,8,8,8,8,8,8,8,8,8,8,8,8,8,8,8,8,8,8,8,8,8,8,8,8,8,8,8,8,8,8,8,8,8,8,8,8,8,8,8,8]⟩) v28 fun v29=>zav .i64 v29 fun v30=>pBin PP .add Aa v27 v30 fun v31=>some (v31,H))
   (zav .u8 (wv y) fun v32=>zbg (.string ⟨#[0,1,2,2,3,3,3,3,4,4,4,4,4,4,4,4,5,5,5,5,5,5,5,5,5,5,5,5,5,5,5,5,6,6,6,6,6,6,6,6,6,6,6,6,6,6,6,6,6,6,6,6,6,6,6,6,6,6,6,6,6,6,6,6,7,7,7,7,7,7,7,7,7,7,7,7,7,7,7,7,7,7,7,7,7,7,7,7,7,7,7,7,7,7,7,7,7,7,7,7,7,7,7,7,7,7,7,7,7,7,7,7,7,7,7,7,7,7,7,7,7,7,7,7,7,7,7,7,8,8,8,8,8,8,8,8,8,8,8,8,8,8,8,8,8,8,8,8,8,8,8,8,8,8,8,8,8,8,8,8,8,8,8,8,8,8,8,8,8,8,8,8,8,8,8,8,8,8,8,8,8,8,8,8,8,8,8,8,8,8,8,8,8,8,8,8,8,8,8,8,8,8,8,8,8,8,8,8,8,8,8,8,8,8,8,8,8,8,8,8,8,8,8,8,8,8,8,8,8,8,8,8,8,8,8,8,8,8,8,8,8,8,8,8,8,8,8,8,8,8,8,8,8,8,8,8]⟩) v32 fun v33=>zav .i64 v33 fun v34=>pBin PP .add Aa (.int .i64 (n:Int)) v34 fun v35=>some (v35,H)))=G:=by
  intro y n hn hy G hG;rw[hG,n3,b_geq,zag,s_br,show (256#64).toNat=256 from rfl];by_cases h:256≤y.toNat
  ·rw[if_pos (decide_eq_true h),s8];have e:=shr_nat y 8;have hlt:(y >>> 8).toNat<256:=by omega
   have hb:=bitLen_le8 _ hlt;have hne:y.toNat/2^8≠0:=by omega
   have hl:=bitLen_shift y.toNat 8 hne;rw[←e]at hl;rw[zbM,conv8 _ hlt,at_len8 _ hlt,zjL,zbM,ziP (x:=(n:Int)+8) (by omega) (by omega),ziP (x:=((bitLen (y >>> 8).toNat:Nat):Int)) (by omega) (by omega),ziP (by omega) (by omega),hl];congr 3;omega
  ·rw[if_neg (by simpa using h)];have hlt:y.toNat<256:=by omega
   have hb:=bitLen_le8 _ hlt;rw[conv8 _ hlt,at_len8 _ hlt,zjL,zbM,ziP (x:=((bitLen y.toNat:Nat):Int)) (by omega) (by omega),ziP (by omega) (by omega)];congr 3
 have mid:∀(y:W64) (n:Nat),n≤32→y.toNat<2^32→∀G:Option (Value×Hp),G=some (.int .i64 ((n+bitLen y.toNat:Nat):Int),H)→(zaM (α:=Value×Hp) .next
 (pBin PP .geq Ab (wv y) (.int .u64 65536) fun v8=>
 zae v8 fun b9=>br b9
 (pBin PP .shr Ab (wv y) (.int .u64 16) fun v10=>
 pBin PP .add Aa (.int .i64 (n:Int)) (.int .i64 16) fun v11=>
 pBin PP .geq Ab v10 (.int .u64 256) fun v12=>
 zae v12 fun b13=>br b13
 (pBin PP .shr Ab v10 (.int .u64 8) fun v14=>
 pBin PP .add Aa v11 (.int .i64 8) fun v15=>
 zav .u8 v14 fun v16=>
 zbg (.string ⟨#[0,1,2,2,3,3,3,3,4,4,4,4,4,4,4,4,5,5,5,5,5,5,5,5,5,5,5,5,5,5,5,5,6,6,6,6,6,6,6,6,6,6,6,6,6,6,6,6,6,6,6,6,6,6,6,6,6,6,6,6,6,6,6,6,7,7,7,7,7,7,7,7,7,7,7,7,7,7,7,7,7,7,7,7,7,7,7,7,7,7,7,7,7,7,7,7,7,7,7,7,7,7,7,7,7,7,7,7,7,7,7,7,7,7,7,7,7,7,7,7,7,7,7,7,7,7,7,7,8,8,8,8,8,8,8,8,8,8,8,8,8,8,8,8,8,8,8,8,8,8,8,8,8,8,8,8,8,8,8,8,8,8,8,8,8,8,8,8,8,8,8,8,8,8,8,8,8,8,8,8,8,8,8,8,8,8,8,8,8,8,8,8,8,8,8,8,8,8,8,8,8,8,8,8,8,8,8,8,8,8,8,8,8,8,8,8,8,8,8,8,8,8,8,8,8,8,8,8,8,8,8,8,8,8,8,8,8,8,8,8,8,8,8,8,8,8,8,8,8,8,8,8,8,8,8,8]⟩) v16 fun v17=>
 zav .i64 v17 fun v18=>
 pBin PP .add Aa v15 v18 fun v19=>
 some (v19,H))
 (zav .u8 v10 fun v20=>
 zbg (.string ⟨#[0,1,2,2,3,3,3,3,4,4,4,4,4,4,4,4,5,5,5,5,5,5,5,5,5,5,5,5,5,5,5,5,6,6,6,6,6,6,6,6,6,6,6,6,6,6,6,6,6,6,6,6,6,6,6,6,6,6,6,6,6,6,6,6,7,7,7,7,7,7,7,7,7,7,7,7,7,7,7,7,7,7,7,7,7,7,7,7,7,7,7,7,7,7,7,7,7,7,7,7,7,7,7,7,7,7,7,7,7,7,7,7,7,7,7,7,7,7,7,7,7,7,7,7,7,7,7,7,8,8,8,8,8,8,8,8,8,8,8,8,8,8,8,8,8,8,8,8,8,8,8,8,8,8,8,8,8,8,8,8,8,8,8,8,8,8,8,8,8,8,8,8,8,8,8,8,8,8,8,8,8,8,8,8,8,8,8,8,8,8,8,8,8,8,8,8,8,8,8,8,8,8,8,8,8,8,8,8,8,8,8,8,8,8,8,8,8,8,8,8,8,8,8,8,8,8,8,8,8,8,8,8,8,8,8,8,8,8,8,8,8,8,8,8,8,8,8,8,8,8,8,8,8,8,8,8]⟩) v20 fun v21=>
 zav .i64 v21 fun v22=>
 pBin PP .add Aa v11 v22 fun v23=>
 some (v23,H)))
 (pBin PP .geq Ab (wv y) (.int .u64 256) fun v24=>
 zae v24 fun b25=>br b25
 (pBin PP .shr Ab (wv y) (.int .u64 8) fun v26=>
 pBin PP .add Aa (.int .i64 (n:Int)) (.int .i64 8) fun v27=>
 zav .u8 v26 fun v28=>
 zbg (.string ⟨#[0,1,2,2,3,3,3,3,4,4,4,4,4,4,4,4,5,5,5,5,5,5,5,5,5,5,5,5,5,5,5,5,6,6,6,6,6,6,6,6,6,6,6,6,6,6,6,6,6,6,6,6,6,6,6,6,6,6,6,6,6,6,6,6,7,7,7,7,7,7,7,7,7,7,7,7,7,7,7,7,7,7,7,7,7,7,7,7,7,7,7,7,7,7,7,7,7,7,7,7,7,7,7,7,7,7,7,7,7,7,7,7,7,7,7,7,7,7,7,7,7,7,7,7,7,7,7,7,8,8,8,8,8,8,8,8,8,8,8,8,8,8,8,8,8,8,8,8,8,8,8,8,8,8,8,8,8,8,8,8,8,8,8,8,8,8,8,8,8,8,8,8,8,8,8,8,8,8,8,8,8,8,8,8,8,8,8,8,8,8,8,8,8,8,8,8,8,8,8,8,8,8,8,8,8,8,8,8,8,8,8,8,8,8,8,8,8,8,8,8,8,8,8,8,8,8,8,8,8,8,8,8,8,8,8,8,8,8,8,8,8,8,8,8,8,8,8,8,8,8,8,8,8,8,8,8]⟩) v28 fun v29=>
 zav .i64 v29 fun v30=>
 pBin PP .add Aa v27 v30 fun v31=>
 some (v31,H))
 (zav .u8 (wv y) fun v32=>
 zbg (.string ⟨#[0,1,2,2,3,3,3,3,4,4,4,4,4,4,4,4,5,5,5,5,5,5,5,5,5,5,5,5,5,5,5,5,6,6,6,6,6,6,6,6,6,6,6,6,6,6,6,6,6,6,6,6,6,6,6,6,6,6,6,6,6,6,6,6,7,7,7,7,7,7,7,7,7,7,7,7,7,7,7,7,7,7,7,7,7,7,7,7,7,7,7,7,7,7,7,7,7,7,7,7,7,7,7,7,7,7,7,7,7,7,7,7,7,7,7,7,7,7,7,7,7,7,7,7,7,7,7,7,8,8,8,8,8,8,8,8,8,8,8,8,8,8,8,8,8,8,8,8,8,8,8,8,8,8,8,8,8,8,8,8,8,8,8,8,8,8,8,8,8,8,8,8,8,8,8,8,8,8,8,8,8,8,8,8,8,8,8,8,8,8,8,8,8,8,8,8,8,8,8,8,8,8,8,8,8,8,8,8,8,8,8,8,8,8,8,8,8,8,8,8,8,8,8,8,8,8,8,8,8,8,8,8,8,8,8,8,8,8,8,8,8,8,8,8,8,8,8,8,8,8,8,8,8,8,8,8]⟩) v32 fun v33=>
 zav .i64 v33 fun v34=>
 pBin PP .add Aa (.int .i64 (n:Int)) v34 fun v35=>
 some (v35,H)))) (fun i7=>none) none)=G:=by
  intro y n hn hy G hG;rw[zaR,n2,b_geq,zag,s_br,show (65536#64).toNat=65536 from rfl];by_cases h:65536≤y.toNat
  ·rw[if_pos (decide_eq_true h),s16,zbM,ziP (by omega) (by omega)];have e:=shr_nat y 16;have hne:y.toNat/2^16≠0:=by omega
   have hl:=bitLen_shift y.toNat 16 hne;rw[←e]at hl;have e2:((n:Int)+16)=((n+16:Nat):Int):=by omega
   rw[e2];refine tail (y >>> 16) (n+16) (by omega) (by omega) G ?_;rw[hG,hl];congr 3;omega
  ·rw[if_neg (by simpa using h)];exact tail y n (by omega) (by omega) G hG
 rw[n1,b_geq,zag,s_br,show (4294967296#64).toNat=4294967296 from rfl];by_cases h:4294967296≤x.toNat
 ·rw[if_pos (decide_eq_true h),s32];have e:=shr_nat x 32;have hx:=x.isLt;have hne:x.toNat/2^32≠0:=by omega
  have hl:=bitLen_shift x.toNat 32 hne;rw[←e]at hl;refine mid (x >>> 32) 32 (by omega) (by omega) _ ?_;rw[hl]
 ·rw[if_neg (by simpa using h)];refine mid x 0 (by omega) (by omega) _ ?_;rw[Nat.zero_add]
end Go.AM
namespace Go.AM
open List Go
section
variable {α:Type}{P:Program}
theorem q_u32{x:Int}(h1:0≤x)(h2:x≤4294967295):IntKind.u32.wrap x=x:=zpK (by have:IntKind.u32.min=0:=rfl;omega) (by have:IntKind.u32.max=4294967295:=rfl;omega)
theorem t_quo(T:TypeId)(a b:Nat)(hb:b≠0)(ha:a<4294967296)(k:Value→Option α):pBin P .quo T (.int .u32 (a:Int)) (.int .u32 (b:Int)) k=k (.int .u32 ((a/b:Nat):Int)):=by
 have hb':¬(b:Int)=0:=by omega
 have h1:((a:Int).tdiv (b:Int))=((a/b:Nat):Int):=rfl;have h2:a/b≤a:=Nat.div_le_self a b;have h3:IntKind.u32.wrap ((a/b:Nat):Int)=((a/b:Nat):Int):=by clear h1;generalize a/b=q at h2;exact q_u32 (by omega) (by omega)
 have:binV P .quo T (.int .u32 (a:Int)) (.int .u32 (b:Int))=some (.int .u32 ((a/b:Nat):Int)):=by show (if IntKind.u32=IntKind.u32 then zeb .quo .u32 (a:Int) (b:Int) else none)=_;rw[if_pos rfl];unfold zeb;dsimp only;rw[if_neg hb',h1,h3]
 unfold pBin;rw[this]
theorem t_mul(T:TypeId)(a b:Nat)(h:a*b<4294967296)(k:Value→Option α):pBin P .mul T (.int .u32 (a:Int)) (.int .u32 (b:Int)) k=k (.int .u32 ((a*b:Nat):Int)):=by rw[s_mul,←Int.natCast_mul,q_u32 (by omega) (by omega)]
theorem t_add(T:TypeId)(a b:Nat)(h:a+b<4294967296)(k:Value→Option α):pBin P .add T (.int .u32 (a:Int)) (.int .u32 (b:Int)) k=k (.int .u32 ((a+b:Nat):Int)):=by rw[zbM,q_u32 (by omega) (by omega)];rfl
theorem i_sub(T:TypeId)(a b:Nat)(h:b≤a)(ha:a<2^60)(k:Value→Option α):pBin P .sub T (.int .i64 (a:Int)) (.int .i64 (b:Int)) k=k (.int .i64 ((a-b:Nat):Int)):=by rw[zd8,ziP (by omega) (by omega),Int.ofNat_sub h]
theorem zh0{n sz:Nat}{a o j:Nat}{kd:IntKind}(h:j<n)(k:Value→Option α):zbH n sz (.pointer (some ⟨a,o,none⟩)) (.int kd (j:Int)) k=k (.pointer (some ⟨a,o+j*sz,none⟩)):=by
 have:(0:Int)≤j∧(j:Int)<n:=by omega
 unfold zbH;simp[this.1,h]
theorem zjf{H:Hp}{a:Nat}{l:List UInt8}(hg:H.get a=some (.cells (bv l) true)){i:Nat}(hi:i<l.length)(b:UInt8)(k:Hp→Option α) :
  za8 1 H (.pointer (some ⟨a,i,none⟩)) (.int .u8 (b.toNat:Int)) k=k (H.set a (some (.cells (bv (l.set i b)) true))):=by
 have hw:zbV 1 (bv l) i (.int .u8 (b.toNat:Int))=some (bv (l.set i b)):=by unfold zbV;rw[if_pos ⟨rfl,by rw[zhx];omega,rfl⟩];congr 1;have:=spl_set (fun b:UInt8=>Value.int .u8 (b.toNat:Int)) l hi b;rw[Nat.mul_one]at this;exact this
 unfold za8 Hp.wr;dsimp only;rw[hg];dsimp only;rw[hw]
end
def zdr:ByteArray:=⟨#[48,48,48,49,48,50,48,51,48,52,48,53,48,54,48,55,48,56,48,57,49,48,49,49,49,50,49,51,49,52,49,53,49,54,49,55,49,56,49,57,50,48,50,49,50,50,50,51,50,52,50,53,50,54,50,55,50,56,50,57,51,48,51,49,51,50,51,51,51,52,51,53,51,54,51,55,51,56,51,57,52,48,52,49,52,50,52,51,52,52,52,53,52,54,52,55,52,56,52,57,53,48,53,49,53,50,53,51,53,52,53,53,53,54,53,55,53,56,53,57,54,48,54,49,54,50,54,51,54,52,54,53,54,54,54,55,54,56,54,57,55,48,55,49,55,50,55,51,55,52,55,53,55,54,55,55,55,56,55,57,56,48,56,49,56,50,56,51,56,52,56,53,56,54,56,55,56,56,56,57,57,48,57,49,57,50,57,51,57,52,57,53,57,54,57,55,57,56,57,57]⟩
def zgx:ByteArray:=⟨#[48,49,50,51,52,53,54,55,56,57,97,98,99,100,101,102,103,104,105,106,107,108,109,110,111,112,113,114,115,116,117,118,119,120,121,122]⟩
theorem zqs:(List.range 100).all (fun d=>decide (zdr.data.toList[d*2]?=some (dig (d/10)))&&decide (zdr.data.toList[d*2+1]?=some (dig (d%10)))&&decide ((zdr.extract (d*2) (d*2+2)).data.toList=[dig (d/10),dig (d%10)]))=true:=by kernel_rfl
theorem zmT{d:Nat}(h:d<100):zdr.data.toList[d*2]?=some (dig (d/10))∧zdr.data.toList[d*2+1]?=some (dig (d%10))∧zdr.extract (d*2) (d*2+2)=ba [dig (d/10),dig (d%10)]:=by have:=all_eq_true.1 zqs d (mem_range.2 h);rw[Bool.and_eq_true,Bool.and_eq_true,decide_eq_true_eq,decide_eq_true_eq,decide_eq_true_eq]at this;exact⟨this.1.1,this.1.2,zlJ this.2⟩
theorem digit_all:(List.range 36).all (fun d=>decide (zgx.data.toList[d]?=some (dig d))&&decide ((zgx.extract d (d+1)).data.toList=[dig d]))=true:=by kernel_rfl
theorem zmC{d:Nat}(h:d<36):zgx.data.toList[d]?=some (dig d)∧zgx.extract d (d+1)=ba [dig d]:=by have:=all_eq_true.1 digit_all d (mem_range.2 h);rw[Bool.and_eq_true,decide_eq_true_eq,decide_eq_true_eq]at this;exact⟨this.1,zlJ this.2⟩
theorem c_small{x:Nat}(hx:x<100)(H:Hp):RR B5 [.int .i64 (x:Int)] H=some (.string (ba (dgt 10 x)),H):=by
 refine(zek E0 rfl _ _).trans ?_
 show (pBin PP .lss Aa (.int .i64 (x:Int)) (.int .i64 10) fun v1=>zae v1 fun b2=>br b2
   (pBin PP .add Aa (.int .i64 (x:Int)) (.int .i64 1) fun v3=>zdx (.string zgx) (some (.int .i64 (x:Int))) (some v3) fun v4=>some (v4,H))
   (pBin PP .mul Aa (.int .i64 (x:Int)) (.int .i64 2) fun v5=>pBin PP .mul Aa (.int .i64 (x:Int)) (.int .i64 2) fun v6=>pBin PP .add Aa v6 (.int .i64 2) fun v7=>zdx (.string zdr) (some v5) (some v7) fun v8=>some (v8,H)))=_
 have d1:zgx.size=36:=rfl;have d2:zdr.size=200:=rfl;rw[zbL,zag,s_br];by_cases h:x<10
 ·rw[if_pos (by simp;omega),zbM,ziP (by omega) (by omega),show ((x:Int)+1)=((x+1:Nat):Int) from rfl,s_cut _ _ _ _ _ (by omega) (by omega),(zmC (by omega)).2,znV h]
 ·rw[if_neg (by simp;omega),s_mul,s_mul,zbM,ziP (by omega) (by omega),ziP (by omega) (by omega),show ((x:Int)*2)=((x*2:Nat):Int) from (Int.natCast_mul x 2).symm,show (((x*2:Nat):Int)+2)=((x*2+2:Nat):Int) from rfl,s_cut _ _ _ _ _ (by omega) (by omega),(zmT hx).2.2,
   znW (by decide) (by omega),znV (show x/10<10 by omega)]
  rfl
structure Tabs(H:Hp):Prop where
 pow:∃cs e fz,H.get AS=some (.fix (.cells cs e fz))∧zlU .u64 cs.toList zqD=true
 spc:∃cs e fz,H.get A2=some (.fix (.cells cs e fz))∧zlU .u8 cs.toList zk6=true
 bru:∃cs e fz,H.get Au=some (.fix (.cells cs e fz))∧cs.toList[15]?=some (.int .u8 4)
theorem ld_fix{α:Type}{H:Hp}{g:Nat}{cs:Array Value}{e:TypeId}{fz:Nat×Nat}(h:H.get g=some (.fix (.cells cs e fz))){off:Nat}{kd:IntKind}{z:Int}(hc:cs.toList[off]?=some (.int kd z))(k:Value→Option α) :
  zaH 1 false H (.pointer (some ⟨g,off,none⟩)) k=k (.int kd z):=by
 have:H.rdP (.pointer (some ⟨g,off,none⟩)) 1 false=some (.int kd z):=by unfold Hp.rdP Hp.rd;dsimp only;rw[h];dsimp only;rw[hc]
 unfold zaH;rw[this]
theorem c_itoa{H:Hp}(hT:Tabs H){n:Int}(h0:-9223372036854775808≤n)(h1:n≤9223372036854775807):RR BH [.int .i64 n] H=some (.string (ba (Go.Lib.itoa n)),H):=by
 obtain⟨cs,e,fz,hg,ht⟩:=hT.pow;have hx:RR B0 [.int .i64 n,.int .i64 10] H=some (.string (ba (Go.Lib.itoa n)),H):=by refine(zl6 (O:=orc) Go.Proofs.Tryz.func230 (by kernel_rfl) (by kernel_rfl) (show E0 B0=some extFmt from rfl) _ H).trans ?_;show (if _ then _ else none)=_;rw[if_pos ⟨h0,h1⟩,hg];dsimp only;rw[ht]
 refine(zkT E0 rfl _ _).trans ?_;unfold zgn;rw[zac ((zeK E0 rfl _ _).trans (by unfold zcp;rw[zac hx]))]
theorem lens:(List.range 900).all (fun d=>(decide (bitLen (100+d)*78913/262144=2)||(decide (bitLen (100+d)*78913/262144=3)))&&decide (bitLen (100+d)≤64))=true:=by kernel_rfl
theorem zpe{H:Hp}(hT:Tabs H){x:Nat}(h0:100≤x)(h1:x<1000):RR B4 [.int .u64 (x:Int)] H=some (.int .i64 3,H):=by
 obtain⟨cs,e,fz,hg,ht⟩:=hT.pow;have hcs:=zlT _ _ ht;have hw:Value.int .u64 (x:Int)=wv (BitVec.ofNat 64 x):=by unfold wv;rw[BitVec.toNat_ofNat,Nat.mod_eq_of_lt (by omega)]
 have e1:RR Bo [.int .u64 (x:Int)] H=some (.int .i64 ((bitLen x:Nat):Int),H):=by rw[hw,c80,BitVec.toNat_ofNat,Nat.mod_eq_of_lt (by omega)]
 have hl:=all_eq_true.1 lens (x-100) (mem_range.2 (by omega));rw[show 100+(x-100)=x by omega,Bool.and_eq_true,Bool.or_eq_true,decide_eq_true_eq,decide_eq_true_eq,decide_eq_true_eq]at hl;generalize hK:bitLen x=K at e1 hl;have e2:RR B3 [.int .i64 (K:Int)] H=some (.int .i64 ((K*78913/262144:Nat):Int),H):=by
  refine(zdg E0 rfl _ _).trans ?_;unfold zbZ;have hm:((K:Int)*78913)=((K*78913:Nat):Int):=(Int.natCast_mul K 78913).symm;rw[s_mul,ziP (by omega) (by omega),hm];have hs:binV PP .shr Aa (.int .i64 ((K*78913:Nat):Int)) (.int .u64 18)=some (.int .i64 ((K*78913/262144:Nat):Int)):=by show (if (18:Int)<0 then none else some (Value.int .i64 (((K*78913:Nat):Int).fdiv (2^(min (18:Int).toNat IntKind.i64.bits)))))=_;rw[if_neg (by decide)];have:(2:Int)^(min (18:Int).toNat IntKind.i64.bits)=((262144:Nat):Int):=rfl;rw[this,Int.fdiv_eq_ediv_of_nonneg _ (by omega)];congr 2
  unfold pBin;rw[hs]
 refine(zdf E0 rfl _ _).trans ?_;unfold zbY;rw[zac e1,zac e2];have b1:∀v:Bool,RR B1 [.bool v] H=some (.int .i64 (if v=true then 1 else 0),H):=fun v=>by refine(zdh E0 rfl _ _).trans ?_;cases v<;>rfl
 rcases hl.1 with h|h
 ·rw[h,zh0 (by decide),ld_fix hg (kd:=.u64) (z:=100) (by rw[hcs];rfl),zeJ,zac (b1 _),if_pos (by simp;omega),zbM];rfl
 ·rw[h,zh0 (by decide),ld_fix hg (kd:=.u64) (z:=1000) (by rw[hcs];rfl),zeJ,zac (b1 _),if_neg (by simp;omega),zbM];rfl
end Go.AM
namespace Go.AM
open Go
end Go.AM
namespace Go.AM
open List Go
section
variable {α:Type}
theorem sl_arr{H:Hp}{a n sz i j:Nat}{cs:List Value}(hg:H.get a=some (.cells cs true))(hn:n*sz≤cs.length)(hi:i≤j)(hj:j≤n){lo hi':Option Value}(hlo:zdz 0 lo=some (i:Int))(hhi:zdz n hi'=some (j:Int))(k:Value→Option α) :
  zb5 n sz (.pointer (some ⟨a,0,none⟩)) lo hi' H k=k (.slice (some ⟨a,i*sz,some sz⟩) (j-i) (n-i)):=by
 have:zjg n sz (.pointer (some ⟨a,0,none⟩)) lo hi' H=some (.slice (some ⟨a,i*sz,some sz⟩) (j-i) (n-i)):=by
  unfold zjg;dsimp only;rw[hg];dsimp only;rw[hlo,hhi];dsimp only;rw[if_pos ⟨by omega,by omega,by omega,by omega⟩];have e1:((j:Int)-(i:Int)).toNat=j-i:=by omega
  rw[e1,Int.toNat_natCast,Nat.zero_add]
 unfold zb5;rw[this]
theorem zlN:∀l:List UInt8,zgT (bv l)=some l
 |[]=>rfl
 |b::l=>by show (match zgT (bv l) with|some l=>some (UInt8.ofNat ((b.toNat:Int)).toNat::l)|none=>none)=_;rw[zlN l];simp
theorem to_str{H:Hp}{a i n c:Nat}{l:List UInt8}{own:Bool}(hg:H.get a=some (.cells (bv l) own))(hn:i+n≤l.length)(k:Value→Option α) :
  zdM (.slice (some ⟨a,i,some 1⟩) n c) H k=k (.string (ba ((l.drop i).take n))):=by
 have hs:zbA 1 (.slice (some ⟨a,i,some 1⟩) n c) H=some (n,bv ((l.drop i).take n)):=by unfold zbA;dsimp only;rw[if_pos rfl,hg];dsimp only;rw[if_pos (by rw[zhx];omega),Nat.mul_one];congr 2;unfold bv;rw[map_take,map_drop]
 have:zmQ (.slice (some ⟨a,i,some 1⟩) n c) H=some (.string (ba ((l.drop i).take n))):=by unfold zmQ;dsimp only;rw[hs];dsimp only;rw[zlN]
 unfold zdM;rw[this]
theorem zmv{a o n c i:Nat}(h:i<n)(k:Value→Option α):pIdx 1 (.slice (some ⟨a,o,some 1⟩) n c) (.int .i64 (i:Int)) k=k (.pointer (some ⟨a,o+i,none⟩)):=by
 have:idxV 1 (.slice (some ⟨a,o,some 1⟩) n c) (.int .i64 (i:Int))=some (.pointer (some ⟨a,o+i,none⟩)):=by unfold idxV;dsimp only;rw[if_pos ⟨rfl,by omega,by omega⟩,Int.toNat_natCast,Nat.mul_one]
 unfold pIdx;rw[this]
end
theorem dig_dec{d:Nat}(h:d<10):(dig d).toNat=48+d:=by unfold dig;rw[if_pos h];simp[UInt8.toNat_ofNat];omega
theorem c_base10{H:Hp}{a:Nat}{l:List UInt8}(hg:H.get a=some (.cells (bv l) true))(hl:l.length=24){x:Nat}(h0:100≤x)(h1:x<1000) :
  ∃r H',RR Bb [.slice (some ⟨a,0,some 1⟩) 3 24,.int .u64 (x:Int)] H=some (r,H')∧H'.get a=some (.cells (bv (((l.set 2 (dig (x%100%10))).set 1 (dig (x%100/10))).set 0 (dig (x/100)))) true)∧H'.next=H.next∧H'.ty=H.ty∧∀k,k≠a→H'.get k=H.get k:=by
 have hd:x%100<100:=Nat.mod_lt _ (by decide);obtain⟨p1,p2,_⟩:=zmT hd;have hr:=(zcF E0 rfl (.slice (some ⟨a,0,some 1⟩) 3 24) (.int .u64 (x:Int)) H).trans (zcJ _ _ _ _);have hloop:zbi (za3 RR (.slice (some ⟨a,0,some 1⟩) 3 24)) [.int .u64 (x:Int),.int .i64 3] H=some (.exit 0,[.int .u64 (x:Int),.int .i64 3],H):=by
  rw[zaW];have:za3 RR (.slice (some ⟨a,0,some 1⟩) 3 24) [.int .u64 (x:Int),.int .i64 3] H=some (.exit 0,[.int .u64 (x:Int),.int .i64 3],H):=by unfold za3;simp only[qg0,qg1];rw[zeJ,zag,s_br,if_neg (by decide)]
  rw[this];rfl
 have hlen:pLen (α:=Value×Hp) .sl (.slice (some ⟨a,0,some 1⟩) 3 24) H=fun k=>k (.int .i64 3):=rfl;rw[hlen]at hr;dsimp only at hr;rw[hloop,zay,zb3,zbf]at hr;simp only[qg0,qg1]at hr;have n2:∀(T:TypeId) {α:Type} (k:Value→Option α),pBin PP .sub T (.int .i64 3) (.int .i64 1) k=k (.int .i64 ((2:Nat):Int)):=fun T _ k=>rfl;have n1:∀(T:TypeId) {α:Type} (k:Value→Option α),pBin PP .sub T (.int .i64 3) (.int .i64 2) k=k (.int .i64 ((1:Nat):Int)):=fun T _ k=>rfl;rw[zjL,q_u32 (by omega) (by omega),zeJ,zag,s_br,if_neg (by decide),zay,zaR]at hr;simp only[qg0,qg1]at hr
 rw[zeJ,zag,s_br,if_pos (by decide),show (Value.int .u32 100)=.int .u32 ((100:Nat):Int) from rfl,q_rem _ _ _ _ (by decide),show (Value.int .u32 2)=.int .u32 ((2:Nat):Int) from rfl,t_mul _ _ _ (by omega),t_quo _ _ _ (by decide) (by omega),n2,n1,
  show (Value.int .u32 1)=.int .u32 ((1:Nat):Int) from rfl,t_add _ _ _ (by omega)]at hr
 have q1:=f_at zdr .u32 _ _ p2 (α:=Value×Hp);have q2:=f_at zdr .u32 _ _ p1 (α:=Value×Hp);unfold zdr at q1 q2;rw[q1,q2,zmv (by decide),Nat.zero_add,zjf hg (by omega),zmv (by decide),Nat.zero_add]at hr;have hg2:(H.set a (some (.cells (bv (l.set 2 (dig (x%100%10)))) true))).get a=some (.cells (bv (l.set 2 (dig (x%100%10)))) true):=by rw[Hp.get_set,if_pos rfl]
 rw[zjf hg2 (by simp;omega)]at hr;have hg3:((H.set a (some (.cells (bv (l.set 2 (dig (x%100%10)))) true))).set a (some (.cells (bv ((l.set 2 (dig (x%100%10))).set 1 (dig (x%100/10)))) true))).get a=some (.cells (bv ((l.set 2 (dig (x%100%10))).set 1 (dig (x%100/10)))) true):=by rw[Hp.get_set,if_pos rfl]
 have hq:x/100<10:=by omega
 rw[n1,zei,zag,s_br,if_pos (by decide),show (Value.int .u32 48)=.int .u32 ((48:Nat):Int) from rfl,t_add _ _ _ (by omega),zjL,q_u8 (by omega) (by omega),←dig_dec hq,
  show (Value.int .i64 0)=.int .i64 ((0:Nat):Int) from rfl,zmv (by decide),Nat.zero_add,zjf hg3 (by simp;omega)]at hr
 refine⟨_,_,hr,?_,rfl,rfl,fun k hk=>?_⟩
 ·rw[Hp.get_set,if_pos rfl]
 ·rw[Hp.get_set,if_neg hk,Hp.get_set,if_neg hk,Hp.get_set,if_neg hk]
structure New(H H':Hp):Prop where
 next:H.next≤H'.next
 get:∀k,k<H.next→H'.get k=H.get k
 ty:∀k,k<H.next→H'.ty k=H.ty k
theorem New.refl(H:Hp):New H H:=⟨Nat.le_refl _,fun _ _=>rfl,fun _ _=>rfl⟩
theorem new_new(H:Hp)(o:AObj):New H (H.new o):=⟨Nat.le_succ _,fun k hk=>by rw[get_new,if_neg (by omega)],fun _ _=>rfl⟩
theorem Tabs.new{H H':Hp}(h:Tabs H)(k:New H H')(hn:PP.globals.size≤H.next):Tabs H':=by have e:∀g,g<PP.globals.size→H'.get g=H.get g:=fun g hg=>k.get g (by omega);exact⟨by rw[e _ (by rw[zkZ];decide)];exact h.pow,by rw[e _ (by rw[zkZ];decide)];exact h.spc,by rw[e _ (by rw[zkZ];decide)];exact h.bru⟩
theorem c_fmt10{H:Hp}(hT:Tabs H)(hn:PP.globals.size≤H.next){x:Nat}(h1:x<1000):∃H',RR Bi [.int .u64 (x:Int),.int .i64 10] H=some (.string (ba (dgt 10 x)),H')∧New H H':=by
 have key:∃H',RR Bv [.int .u64 (x:Int),.int .i64 10] H=some (.string (ba (dgt 10 x)),H')∧New H H':=by
  have hr:=zbR E0 rfl (.int .u64 (x:Int)) (.int .i64 10) H;unfold zbu at hr;rw[zaD,zag,s_br,if_pos (by decide),zbL,zag,s_br]at hr;by_cases h:x<100
  ·rw[if_pos (by simp;omega),zjL,ziP (by omega) (by omega),zac (c_small h H)]at hr;exact⟨H,hr,New.refl _⟩
  ·rw[if_neg (by simp;omega)]at hr;have ha:∀{α:Type} (k:Value→Hp→Option α),zeY [.int .u8 0,.int .u8 0,.int .u8 0,.int .u8 0,.int .u8 0,.int .u8 0,.int .u8 0,.int .u8 0,.int .u8 0,.int .u8 0,.int .u8 0,.int .u8 0,.int .u8 0,.int .u8 0,.int .u8 0,.int .u8 0,.int .u8 0,.int .u8 0,.int .u8 0,.int .u8 0,.int .u8 0,.int .u8 0,.int .u8 0,.int .u8 0] H k=k (.pointer (some ⟨H.next,0,none⟩)) (H.new (.cells (bv (List.replicate 24 0)) true)):=fun k=>rfl;have hg:(H.new (.cells (bv (List.replicate 24 0)) true)).get H.next=some (.cells (bv (List.replicate 24 0)) true):=by rw[get_new,if_pos rfl]
   have hT1:=hT.new (new_new H (.cells (bv (List.replicate 24 0)) true)) hn;obtain⟨r,H2,e2,g2,n2,y2,f2⟩:=c_base10 hg (by simp) (show 100≤x by omega) h1;rw[ha,zac (zpe hT1 (by omega) h1),sl_arr hg (i:=0) (j:=3) (by rw[zhx];simp) (by decide) (by decide) rfl rfl]at hr;have e2':RR Bb [.slice (some ⟨H.next,0*1,some 1⟩) (3-0) (24-0),.int .u64 (x:Int)] (H.new (.cells (bv (List.replicate 24 0)) true))=some (r,H2):=e2;rw[zac e2',sl_arr g2 (i:=0) (j:=3) (by rw[zhx];simp) (by decide) (by decide) rfl rfl,to_str g2 (by simp)]at hr;refine⟨H2,hr.trans ?_,⟨by rw[n2];exact Nat.le_succ _,fun k hk=>by rw[f2 k (by omega),get_new,if_neg (by omega)],fun k hk=>by rw[y2];rfl⟩⟩;have e3:dgt 10 x=[dig (x/100),dig (x%100/10),dig (x%100%10)]:=by rw[znW (by decide) (by omega),znW (by decide) (show 10≤x/10 by omega),znV (show x/10/10<10 by omega)];rw[show x/10/10=x/100 by omega,show x/10%10=x%100/10 by omega,show x%100%10=x%10 by omega];rfl
   rw[e3];rfl
 obtain⟨H',e,f⟩:=key;exact⟨H',(zc8 E0 rfl _ _ _).trans (by unfold zca;rw[zac e]),f⟩
theorem zpm{u:Nat}(h:u<18446744073709551616):Value.int .u64 (u:Int)=wv (BitVec.ofNat 64 u):=by unfold wv;rw[BitVec.toNat_ofNat,Nat.mod_eq_of_lt h]
theorem and15{α:Type}(T:TypeId){u:Nat}(h:u<18446744073709551616)(k:Value→Option α):pBin PP .and T (.int .u64 (u:Int)) (.int .u64 15) k=k (.int .u64 ((u%16:Nat):Int)):=by
 have e:(BitVec.ofNat 64 u&&&15#64)=BitVec.ofNat 64 (u%16):=BitVec.eq_of_toNat_eq (by
  rw[BitVec.toNat_and];simp only[BitVec.toNat_ofNat];rw[Nat.mod_eq_of_lt h,Nat.mod_eq_of_lt (show u%16<2^64 by omega),show 15%2^64=15 from rfl]
  exact Nat.and_two_pow_sub_one_eq_mod u 4)
 rw[zpm h,show (Value.int .u64 15)=wv 15#64 from rfl,b_and,e,←zpm (by omega)]
theorem shr4{α:Type}(T:TypeId){u:Nat}(h:u<18446744073709551616)(k:Value→Option α):pBin PP .shr T (.int .u64 (u:Int)) (.int .u64 4) k=k (.int .u64 ((u/16:Nat):Int)):=by
 have e:(BitVec.ofNat 64 u) >>> 4=BitVec.ofNat 64 (u/16):=BitVec.eq_of_toNat_eq (by
  rw[shr_nat,BitVec.toNat_ofNat,BitVec.toNat_ofNat,Nat.mod_eq_of_lt h,Nat.mod_eq_of_lt (show u/16<2^64 by omega)])
 rw[zpm h,show (Value.int .u64 4)=.int .u64 ((4:Nat):Int) from rfl,zk3,e,←zpm (by omega)]
theorem zpA{l:List UInt8}{i:Nat}(hi:i<l.length)(d:UInt8):(l.set i d).drop i=d::l.drop (i+1):=by
 apply ext_getElem?;intro j;rw[List.getElem?_drop,List.getElem?_set];cases j with
 |zero=>simp[hi]
 |succ j=>rw[if_neg (by omega),List.getElem?_cons_succ,List.getElem?_drop];congr 1;omega
theorem fb_loop{A:Nat}{g:List UInt8}:∀(n u i:Nat) (l:List UInt8) (H:Hp),u<16^n→0<n→u<18446744073709551616→n≤i→i≤65→l.length=65→H.get A=some (.cells (bv l) true)→dgt 16 u++l.drop i=g →
  ∃u' i' l' H',zbi (zaL RR (.int .u64 4) (.int .u64 16) (.int .u64 15) (.pointer (some ⟨A,0,none⟩))) [.int .u64 (u:Int),.int .i64 (i:Int)] H=some (.exit 0,[.int .u64 (u':Nat),.int .i64 ((i':Nat):Int)],H') ∧
   u'<16∧1≤i'∧i'≤65∧l'.length=65∧H'.get A=some (.cells (bv l') true)∧[dig u']++l'.drop i'=g∧H'.next=H.next∧H'.ty=H.ty∧∀k,k≠A→H'.get k=H.get k
 |0,u,i,l,H,h,h0,_,_,_,_,_,_=>by omega
 |n+1,u,i,l,H,h,_,hu,hni,hi,hl,hg,hd=>by
  rw[zaW];by_cases hb:u<16
  ·have:zaL RR (.int .u64 4) (.int .u64 16) (.int .u64 15) (.pointer (some ⟨A,0,none⟩)) [.int .u64 (u:Int),.int .i64 (i:Int)] H=some (.exit 0,[.int .u64 (u:Int),.int .i64 (i:Int)],H):=by unfold zaL;simp only[qg0,qg1];rw[zeJ,zag,s_br,if_neg (by simp;omega)]
   rw[this];rw[znV hb]at hd;exact⟨u,i,l,H,rfl,hb,by omega,hi,hl,hg,hd,rfl,rfl,fun _ _=>rfl⟩
  ·have hm:u%16<36:=by omega
   have q1:=f_at zgx .u64 _ _ (zmC hm).1 (α:=Outc);unfold zgx at q1;have:zaL RR (.int .u64 4) (.int .u64 16) (.int .u64 15) (.pointer (some ⟨A,0,none⟩)) [.int .u64 (u:Int),.int .i64 (i:Int)] H=some (.next,[.int .u64 ((u/16:Nat):Int),.int .i64 ((i-1:Nat):Int)],H.set A (some (.cells (bv (l.set (i-1) (dig (u%16)))) true))):=by unfold zaL;simp only[qg0,qg1];rw[zeJ,zag,s_br,if_pos (by simp;omega),show (Value.int .i64 1)=.int .i64 ((1:Nat):Int) from rfl,i_sub _ _ _ (by omega) (by omega),and15 _ hu,q1,zh0 (by omega),Nat.zero_add,Nat.mul_one,zjf hg (by omega),shr4 _ hu]
   rw[this];have hn:0<n:=by
    rcases Nat.eq_zero_or_pos n with q|q
    ·subst q;simp at h;omega
    ·exact q
   have hlt:u/16<16^n:=Nat.div_lt_of_lt_mul (by rw[Nat.pow_succ,Nat.mul_comm]at h;exact h);obtain⟨u',i',l',H',e,f1,f2,f3,f4,f5,f6,f7,f8,f9⟩:=fb_loop (g:=g) n (u/16) (i-1) (l.set (i-1) (dig (u%16))) (H.set A (some (.cells (bv (l.set (i-1) (dig (u%16)))) true))) hlt hn (by omega) (by omega) (by omega) (by simp[hl]) (by rw[Hp.get_set,if_pos rfl])
    (by rw[zpA (by omega),show i-1+1=i by omega,←hd,znW (by decide) (show 16≤u by omega),append_assoc];rfl)
   exact⟨u',i',l',H',e,f1,f2,f3,f4,f5,f6,f7,f8,fun k hk=>by rw[f9 k hk,Hp.get_set,if_neg hk]⟩
theorem c_tz{H:Hp}(hT:Tabs H):RR BW [.int .u64 16] H=some (.int .i64 4,H):=by
 obtain⟨cs,e,fz,hg,hc⟩:=hT.bru;have h64:RR Ba [.int .u64 16] H=some (.int .i64 4,H):=by
  refine(zcw E0 rfl _ _).trans ?_;have hx:zbW RR (.int .u64 16) H=(zbH 64 1 (.pointer (some ⟨Au,0,none⟩)) (.int .u64 15) fun p7=>zaH 1 false H p7 fun v8=>zav .i64 v8 fun v9=>some (v9,H)):=by kernel_rfl
  rw[hx,show (Value.int .u64 15)=.int .u64 ((15:Nat):Int) from rfl,zh0 (by decide),ld_fix hg hc];rfl
 refine(zgc E0 rfl _ _).trans ?_;unfold zdc;rw[zac h64]
theorem c_bits16{H:Hp}(hT:Tabs H)(hn:PP.globals.size≤H.next){x:Nat}(hx:x<18446744073709551616):∃H',RR Bw [.slice none 0 0,.int .u64 (x:Int),.int .i64 16,.bool false,.bool false] H=some (.tuple #[.slice none 0 0,.string (ba (dgt 16 x))],H')∧New H H':=by
 have hr:=(zc1 E0 rfl (.slice none 0 0) (.int .u64 (x:Int)) (.int .i64 16) (.bool false) (.bool false) H).trans (zc5 _ _ _ _ _ _ _);rw[zbL,zag,s_br,if_neg (by decide),zaD,zag,s_br,if_neg (by decide),zei,zag,s_br,if_neg (by decide),zay,zaR]at hr;have ha:∀{α:Type} (k:Value→Hp→Option α),zeY [.int .u8 0,.int .u8 0,.int .u8 0,.int .u8 0,.int .u8 0,.int .u8 0,.int .u8 0,.int .u8 0,.int .u8 0,.int .u8 0,.int .u8 0,.int .u8 0,.int .u8 0,.int .u8 0,.int .u8 0,.int .u8 0,.int .u8 0,.int .u8 0,.int .u8 0,.int .u8 0,.int .u8 0,.int .u8 0,.int .u8 0,.int .u8 0,.int .u8 0,.int .u8 0,.int .u8 0,.int .u8 0,.int .u8 0,.int .u8 0,.int .u8 0,.int .u8 0,.int .u8 0,.int .u8 0,.int .u8 0,.int .u8 0,.int .u8 0,.int .u8 0,.int .u8 0,.int .u8 0,.int .u8 0,.int .u8 0,.int .u8 0,.int .u8 0,.int .u8 0,.int .u8 0,.int .u8 0,.int .u8 0,.int .u8 0,.int .u8 0,.int .u8 0,.int .u8 0,.int .u8 0,.int .u8 0,.int .u8 0,.int .u8 0,.int .u8 0,.int .u8 0,.int .u8 0,.int .u8 0,.int .u8 0,.int .u8 0,.int .u8 0,.int .u8 0,.int .u8 0] H k=k (.pointer (some ⟨H.next,0,none⟩)) (H.new (.cells (bv (List.replicate 65 0)) true)):=fun k=>rfl;have hg:(H.new (.cells (bv (List.replicate 65 0)) true)).get H.next=some (.cells (bv (List.replicate 65 0)) true):=by rw[get_new,if_pos rfl]
 have hT1:=hT.new (new_new H (.cells (bv (List.replicate 65 0)) true)) hn;have hp2:RR B2 [.int .i64 16] (H.new (.cells (bv (List.replicate 65 0)) true))=some (.bool true,H.new (.cells (bv (List.replicate 65 0)) true)):=(zcE E0 rfl _ _).trans (by kernel_rfl);have hc:∀{α:Type} (k:Value→Option α),zav .u64 (.int .i64 16) k=k (.int .u64 16):=fun k=>rfl;have hc4:∀{α:Type} (k:Value→Option α),zav .u64 (.int .i64 4) k=k (.int .u64 4):=fun k=>rfl;have hm:∀{α:Type} (k:Value→Option α),pBin PP .sub Cq (.int .u64 16) (.int .u64 1) k=k (.int .u64 15):=fun k=>rfl;obtain⟨u',i',l',H2,e2,f1,f2,f3,f4,f5,f6,f7,f8,f9⟩:=fb_loop (g:=dgt 16 x) 64 x 65 (List.replicate 65 0) _ (by omega) (by decide) hx (by decide) (by decide) (by simp) hg (by simp);have e2:zbi (zaL RR (.int .u64 4) (.int .u64 16) (.int .u64 15) (.pointer (some ⟨H.next,0,none⟩))) [.int .u64 (x:Int),.int .i64 65] (H.new (.cells (bv (List.replicate 65 0)) true))=_:=e2;have q1:=f_at zgx .u64 _ _ (zmC (show u'<36 by omega)).1 (α:=Value×Hp);unfold zgx at q1;rw[ha,zag,q_brf,zay,zaR,zac hp2,zag,q_brt,hc,zac (c_tz hT1),hc4,hc,hc,hm]at hr;simp only[qg0]at hr;rw[e2,zay,zb3,zbf]at hr;simp only[qg0,qg1]at hr;have hg3:(H2.set H.next (some (.cells (bv (l'.set (i'-1) (dig u'))) true))).get H.next=some (.cells (bv (l'.set (i'-1) (dig u'))) true):=by rw[Hp.get_set,if_pos rfl]
 rw[show (Value.int .i64 1)=.int .i64 ((1:Nat):Int) from rfl,i_sub _ _ _ (by omega) (by omega),q1,zh0 (by omega),Nat.zero_add,Nat.mul_one,zjf f5 (by omega),zag,q_brf,zag,q_brf,
  sl_arr hg3 (i:=i'-1) (j:=65) (by rw[zhx];simp;omega) (by omega) (by decide) rfl rfl,Nat.mul_one,to_str hg3 (by simp;omega)]at hr
 refine⟨H2.set H.next (some (.cells (bv (l'.set (i'-1) (dig u'))) true)),hr.trans ?_,⟨by show H.next≤H2.next;rw[f7];exact Nat.le_succ _,fun k hk=>by rw[Hp.get_set,if_neg (by omega),f9 k (by omega),get_new,if_neg (by omega)],fun k hk=>by show H2.ty k=_;rw[f8];rfl⟩⟩;rw[zpA (by omega),show i'-1+1=i' by omega,take_of_length_le (by simp;omega),←f6];rfl
theorem c_fmt16{H:Hp}(hT:Tabs H)(hn:PP.globals.size≤H.next){x:Nat}(hx:x<18446744073709551616):∃H',RR Bi [.int .u64 (x:Int),.int .i64 16] H=some (.string (ba (dgt 16 x)),H')∧New H H':=by
 obtain⟨H',e,f⟩:=c_bits16 hT hn hx;have key:RR Bv [.int .u64 (x:Int),.int .i64 16] H=some (.string (ba (dgt 16 x)),H'):=by refine(zbR E0 rfl _ _ _).trans ?_;unfold zbu;rw[zaD,zag,s_br,if_neg (by decide),zac e,q_ext0,q_ext1]
 exact⟨H',(zc8 E0 rfl _ _ _).trans (by unfold zca;rw[zac key]),f⟩
theorem c_text{H:Hp}(hT:Tabs H)(hn:PP.globals.size≤H.next){x:Nat}(hx:x<18446744073709551616):∃H',RR Bq [.int .u64 (x:Int)] H=some (.string (ba (numT x)),H')∧New H H':=by
 have hr:=zoB E0 rfl (.int .u64 (x:Int)) H;unfold zj9 at hr;rw[zbL,zag,s_br]at hr;unfold numT;by_cases h:x<1000
 ·obtain⟨H',e,f⟩:=c_fmt10 hT hn h;rw[if_pos (by simp;omega),zac e]at hr;rw[if_pos h];exact⟨H',hr,f⟩
 ·obtain⟨H',e,f⟩:=c_fmt16 hT hn hx;rw[if_neg (by simp;omega),zac e]at hr;rw[if_neg h];have hl:=zmD (b:=16) (by decide) 16 x (by omega) (by decide);have hcat:pBin (α:=Value×Hp) PP .add Ae (.string ⟨#[48,120]⟩) (.string (ba (dgt 16 x)))=fun k=>k (.string (ba ([48,120]++dgt 16 x))):=funext fun k=>zpB _ [48,120] _ (by simp;omega) k;rw[hcat]at hr;exact⟨H',hr,f⟩
end Go.AM
namespace Go.AM
open List Go Go.ChangeShapes Go.WideShapes Go.ChangeAt Go.RowKit
theorem zfW{α:Type}{l:List α}{n:Nat}(h:l.length=n+1):∃a t,l=a::t∧t.length=n:=by
 cases l with
 |nil=>cases h
 |cons a t=>exact⟨a,t,rfl,by simpa using h⟩
def ks16:List Sc:=[.int .i64,.int .i64,.int .i64,.int .i64,.int .i64,.int .i64,.bool,.int .u64,.str,.int .i64,.int .i64,.int .i64,.int .i64,.int .i64,.int .u64,.str]
theorem opDec(l:List Value)(h:OkL ks16 l):∃o:OpA,o.cells=l∧o.Ok:=by
 obtain⟨hl0,hh⟩:=h;obtain⟨v0,l0,rfl,hl1⟩:=zfW hl0;obtain⟨v1,l1,rfl,hl2⟩:=zfW hl1;obtain⟨v2,l2,rfl,hl3⟩:=zfW hl2;obtain⟨v3,l3,rfl,hl4⟩:=zfW hl3;obtain⟨v4,l4,rfl,hl5⟩:=zfW hl4;obtain⟨v5,l5,rfl,hl6⟩:=zfW hl5;obtain⟨v6,l6,rfl,hl7⟩:=zfW hl6;obtain⟨v7,l7,rfl,hl8⟩:=zfW hl7;obtain⟨v8,l8,rfl,hl9⟩:=zfW hl8;obtain⟨v9,l9,rfl,hl10⟩:=zfW hl9;obtain⟨v10,l10,rfl,hl11⟩:=zfW hl10;obtain⟨v11,l11,rfl,hl12⟩:=zfW hl11;obtain⟨v12,l12,rfl,hl13⟩:=zfW hl12;obtain⟨v13,l13,rfl,hl14⟩:=zfW hl13;obtain⟨v14,l14,rfl,hl15⟩:=zfW hl14;obtain⟨v15,l15,rfl,hl16⟩:=zfW hl15;have:l15=[]:=by cases l15 with|nil=>rfl|cons a t=>cases hl16
 subst this;obtain⟨_,e,n0,rfl,p0,q0⟩:=hh 0 _ rfl;cases e;obtain⟨_,e,n1,rfl,p1,q1⟩:=hh 1 _ rfl;cases e;obtain⟨_,e,n2,rfl,p2,q2⟩:=hh 2 _ rfl;cases e;obtain⟨_,e,n3,rfl,p3,q3⟩:=hh 3 _ rfl;cases e;obtain⟨_,e,n4,rfl,p4,q4⟩:=hh 4 _ rfl;cases e;obtain⟨_,e,n5,rfl,p5,q5⟩:=hh 5 _ rfl;cases e;obtain⟨_,e,n6,rfl⟩:=hh 6 _ rfl;cases e;obtain⟨_,e,n7,rfl,p7,q7⟩:=hh 7 _ rfl;cases e;obtain⟨_,e,n8,rfl⟩:=hh 8 _ rfl;cases e;obtain⟨_,e,n9,rfl,p9,q9⟩:=hh 9 _ rfl;cases e;obtain⟨_,e,n10,rfl,p10,q10⟩:=hh 10 _ rfl;cases e;obtain⟨_,e,n11,rfl,p11,q11⟩:=hh 11 _ rfl;cases e;obtain⟨_,e,n12,rfl,p12,q12⟩:=hh 12 _ rfl;cases e;obtain⟨_,e,n13,rfl,p13,q13⟩:=hh 13 _ rfl;cases e;obtain⟨_,e,n14,rfl,p14,q14⟩:=hh 14 _ rfl;cases e;obtain⟨_,e,n15,rfl⟩:=hh 15 _ rfl;cases e;have e1:IntKind.u64.min=0:=rfl;have e2:IntKind.u64.max=18446744073709551615:=rfl;exact⟨⟨n0,n1,n2,n3,n4,n5,n6,n7,n8,⟨n9,n10,n11,n12,n13,n14,n15⟩⟩,rfl,⟨⟨by show 0≤n7;omega,by show n7<18446744073709551616;omega⟩,⟨by show 0≤n14;omega,by show n14<18446744073709551616;omega⟩⟩⟩
theorem decL{X:Type}{ks:List Sc}{cells:X→List Value}{Q:X→Prop}(dec:∀l,OkL ks l→∃o:X,cells o=l∧Q o):∀Ls:List (List Value),(∀l∈Ls,OkL ks l)→∃os:List X,Ls=os.map cells∧∀o∈os,Q o
 |[],_=>⟨[],rfl,fun o h=>by cases h⟩
 |l::Ls,h=>by
  obtain⟨o,h1,h2⟩:=dec l (h l (mem_cons_self ..));obtain⟨os,h3,h4⟩:=decL dec Ls fun l hl=>h l (mem_cons_of_mem _ hl);refine⟨o::os,by rw[h3,map_cons,h1],fun x hx=>?_⟩;rcases mem_cons.1 hx with rfl|hx
  ·exact h2
  ·exact h4 x hx
open Go.Proofs.YthcjfegfieoaiaaGreatDoor in
theorem bulk1{HH:Type}(d:DataW HH):1≤Rows.uptoBulk d:=by cases d<;>first | (rename_i l;cases l<;>simp[Rows.uptoBulk])|simp[Rows.uptoBulk]
open Go.Proofs.YthcjfegfieoaiaaGreatDoor in
theorem zqj{HH:Type}:∀es:List (DataW HH),es.length≤Rows.uptoBulkAll es
 |[]=>Nat.zero_le _
 |d::r=>by have:=zqj r;have:=bulk1 d;simp only[Rows.uptoBulkAll,length_cons];omega
theorem flat46:flat PP 3 Cg=some ks16:=by kernel_rfl
end Go.AM
namespace Go.AM
open List Go
def noNd:Nd:=⟨0,0,0,0,0,0,⟨#[]⟩⟩
def zj6(L:List Nd)(t:Int):Nd:=if isT L t=true then (L[(t-1).toNat]?).getD noNd else noNd
theorem bnil{α:Type}(k:Value→Option α):zbe PP Af [] k=k noNd.val:=bld (by kernel_rfl) k
theorem zgl{α:Type}(n:Nd)(k:Value→Option α):zaf 7 true n.cells 0 k=k n.val:=rfl
theorem nodes_at(L:List Nd):∀i n,L[i]?=some n→((L.flatMap Nd.cells).drop (i*7)).take 7=n.cells:=by
 induction L with
 |nil=>intro i o h;cases h
 |cons a L ih=>
  intro i o h;have h7:∀n:Nd,n.cells.length=7:=fun n=>rfl;rw[flatMap_cons];cases i with
  |zero=>cases h;rw[Nat.zero_mul,qd0,take_append_of_le_length (by rw[h7];omega),take_of_length_le (by rw[h7];omega)]
  |succ i=>
   rw[drop_append,drop_of_length_le (by rw[h7];omega),h7,nil_append,show (i+1)*7-7=i*7 by omega];exact ih i o h
theorem ld7{α:Type}{H:Hp}{L:List Nd}{y:Nat}{b:Bool}(h:H.get y=some (.cells (L.flatMap Nd.cells) b)){i:Nat}{n:Nd}(ho:L[i]?=some n)(k:Value→Option α) :
  zaH 7 true H (.pointer (some ⟨y,i*7,none⟩)) k=k n.val:=by
 have hlt:i<L.length:=(List.getElem?_eq_some_iff.1 ho).1;have h1:i*7+7≤(L.flatMap Nd.cells).length:=by rw[zmz];omega
 simp only[zaH,Hp.rdP,Hp.rd,h,zcD,h1,if_true,nodes_at L i n ho];rfl
theorem SlR.ix{H:Hp}{L:List Nd}{sl:Value}(h:SlR H sl L){i:Nat}(hi:i<L.length){α:Type} :
  ∃y,H.get y=some (.cells (L.flatMap Nd.cells) true)∧∀(k:Value→Option α),pIdx 7 sl (.int .i64 (i:Int)) k=k (.pointer (some ⟨y,i*7,none⟩)):=by
 rcases h with⟨rfl,_⟩|⟨y,rfl,hy⟩
 ·cases hi
 ·refine⟨y,hy,fun k=>?_⟩;unfold pIdx idxV;have:(7:Nat)=7∧(0:Int)≤(i:Int)∧(i:Int)<(L.length:Int):=⟨rfl,by omega,by omega⟩
  simp only[this,and_self,if_true,Nat.zero_add,Int.toNat_natCast]
end Go.AM
namespace Go.AM
open Go
structure One(H:Hp)(lim:Int)(L:List Nd)(K:List (ByteArray×Int))(p f g:Nat)(sl:Value)(H':Hp)(L':List Nd)(K':List (ByteArray×Int))(sl':Value):Prop where
 st:StF H' p lim L' K' sl' f g
 next:H.next≤H'.next
 same:∀j,j<H.next→¬Foot p f g sl j→H'.get j=H.get j
 foot:∀j,Foot p f g sl' j→Foot p f g sl j∨H.next≤j
theorem One.refl{H:Hp}{lim:Int}{L:List Nd}{K:List (ByteArray×Int)}{p f g:Nat}{sl:Value}(h:StF H p lim L K sl f g):One H lim L K p f g sl H L K sl:=⟨h,Nat.le_refl _,fun _ _ _=>rfl,fun _ a=>.inl a⟩
theorem One.trans{H:Hp}{lim:Int}{L:List Nd}{K:List (ByteArray×Int)}{p f g:Nat}{sl:Value}{H1:Hp}{L1:List Nd}{K1:List (ByteArray×Int)}{s1:Value}{H2:Hp}{L2:List Nd}{K2:List (ByteArray×Int)}{s2:Value}
  (h:One H lim L K p f g sl H1 L1 K1 s1) (k:One H1 lim L1 K1 p f g s1 H2 L2 K2 s2):One H lim L K p f g sl H2 L2 K2 s2:=by
 refine⟨k.st,Nat.le_trans h.next k.next,fun j hj a=>?_,fun j a=>?_⟩
 ·rw[k.same j (Nat.lt_of_lt_of_le hj h.next) (fun b=>by rcases h.foot j b with c|c;exact a c;omega),h.same j hj a]
 ·rcases k.foot j a with b|b
  ·exact h.foot j b
  ·exact .inr (Nat.le_trans h.next b)
theorem Does.one{H:Hp}{lim:Int}{L:List Nd}{K:List (ByteArray×Int)}{p f g:Nat}{sl:Value}{fn:FuncId}{xs:List Value}{r:Res}(h:Does H p lim sl f g fn xs r) :
  ∃H' sl',RR fn (.pointer (some ⟨p,0,none⟩)::xs) H=some (.tuple #[.int .i64 r.1,.int .i64 r.2.1],H')∧One H lim L K p f g sl H' r.2.2.1 r.2.2.2 sl':=by
 obtain⟨H',sl',h1,h2⟩:=h;exact⟨H',sl',h1,h2.st,h2.next,fun j a b=>h2.same a b,fun j a=>h2.foot a⟩
theorem ScR.one{H:Hp}{lim:Int}{L:List Nd}{K:List (ByteArray×Int)}{p f g:Nat}{sl:Value}{H1:Hp}{L1:List Nd}{K1:List (ByteArray×Int)}{s1:Value}{x:Value}{os:List OpA}(hx:ScR H x os)
  (hst:StF H p lim L K sl f g) (h:One H lim L K p f g sl H1 L1 K1 s1):ScR H1 x os:=
 hx.keep (fun y cs h1 h2=>by rw[h.same y h1 (fun a=>by obtain⟨o,g1,g2⟩:=hst.own a;rw[h2]at g1;cases g1;cases g2)];exact h2) h.next
theorem zp9{a b c i:Nat}(z:Foot a b c (.slice none 0 0) i):i=a∨i=b∨i=c:=by
 rcases z with z|z|z|z
 ·exact .inl z
 ·exact .inr (.inl z)
 ·exact .inr (.inr z)
 ·cases z
theorem za9{α:Type}(n:Nd)(k:Value→Option α):zaf 1 false n.cells 2 k=k (.int .i64 n.a):=zb4 _ 2 _ rfl k
theorem zcl{α:Type}(n:Nd)(k:Value→Option α):zaf 1 false n.cells 3 k=k (.int .i64 n.b):=zb4 _ 3 _ rfl k
theorem zny{α:Type}(n:Nd)(k:Value→Option α):zaf 1 false n.cells 4 k=k (.int .i64 n.c):=zb4 _ 4 _ rfl k
end Go.AM
namespace Go.AM
open List Go
def ints(l:List Nat):List Value:=l.map fun (t:Nat)=>Value.int .i64 (t:Int)
def zmG(l:List Bool):List Value:=l.map .bool
def plc(x:Nat×Nat):List Value:=[.int .i64 (x.1:Int),.int .i64 (x.2:Int)]
def zci(l:List (Nat×Nat)):List Value:=l.flatMap plc
theorem ints_app(l m:List Nat):ints (l++m)=ints l++ints m:=by simp[ints]
theorem zel:∀l:List (Nat×Nat),(zci l).length=l.length*2
 |[]=>rfl
 |x::l=>by show (plc x++zci l).length=_;rw[length_append,zel l,length_cons];show 2+_=_;omega
theorem zem(l m:List (Nat×Nat)):zci (l++m)=zci l++zci m:=by simp[zci]
theorem zla:∀l:List (Nat×Nat),(zci l).all one=true
 |[]=>rfl
 |x::l=>by show (plc x++zci l).all one=true;rw[all_append,zla l];rfl
theorem zoE(l:List (Nat×Nat))(x:Nat×Nat):(zci (l++[x]))[l.length*2]?=some (.int .i64 (x.1:Int))∧(zci (l++[x]))[l.length*2+1]?=some (.int .i64 (x.2:Int)):=by
 rw[zem];have h:=zel l;constructor
 ·rw[List.getElem?_append_right (by omega),h,Nat.sub_self];rfl
 ·rw[List.getElem?_append_right (by omega),h,Nat.add_sub_cancel_left];rfl
structure PS(H0 H:Hp)(lv:Value)(out:List Nat)(sv:Value)(stk:List (Nat×Nat))(bv:Value)(seen:List Bool):Prop where
 next:H0.next≤H.next
 old:∀j,j<H0.next→H.get j=H0.get j
 l:Vec H 1 lv out.length (ints out)
 s:Vec H 2 sv stk.length (zci stk)
 b:Vec H 1 bv seen.length (zmG seen)
 al:∀j,Id lv j→H0.next≤j
 as':∀j,Id sv j→H0.next≤j
 ab:∀j,Id bv j→H0.next≤j
 ls:∀j,Id lv j→¬Id sv j
 lb:∀j,Id lv j→¬Id bv j
 sb:∀j,Id sv j→¬Id bv j
section
variable {H0 H:Hp}{lv sv bv:Value}{out:List Nat}{stk:List (Nat×Nat)}{seen:List Bool}(h:PS H0 H lv out sv stk bv seen)
include h
theorem PS.at0{p f g:Nat}{lim:Int}{L:List Nd}{K:List (ByteArray×Int)}{sl:Value}(hst:StF H0 p lim L K sl f g):StF H p lim L K sl f g:=
 hst.keep (fun i hi=>h.old i (hst.foot_lt hi)) h.next
theorem PS.see{i:Nat}(hi:i<seen.length):∃y,Id bv y∧(∀(α:Type) (kd:IntKind) (k:Value→Option α),pIdx 1 bv (.int kd (i:Int)) k=k (.pointer (some ⟨y,i*1,none⟩))) ∧
  ∃H',(∀(α:Type) (k:Hp→Option α),za8 1 H (.pointer (some ⟨y,i*1,none⟩)) (.bool true) k=k H')∧PS H0 H' lv out sv stk bv (seen.set i true)∧H'.next=H.next:=by
 obtain⟨y,hy,_,hix⟩:=h.b.ix hi;have hl:(zmG seen).length=seen.length:=by simp[zmG]
 obtain⟨H',h1,h2,h3,h4⟩:=h.b.set hy (m:=1) (o:=i*1) (x:=.bool true) rfl (by rw[hl];omega) rfl;refine⟨y,hy,hix,H',h1,⟨?_,fun j hj=>?_,h.l.keep h3 h.lb,h.s.keep h3 h.sb,?_,h.al,h.as',h.ab,h.ls,h.lb,h.sb⟩,h4⟩
 ·rw[h4];exact h.next
 ·rw[h3.same j (Nat.lt_of_lt_of_le hj h.next) (fun q=>by have:=h.ab j q;omega),h.old j hj]
 ·have e:spl (zmG seen) (i*1) (zad (.bool true))=zmG (seen.set i true):=by unfold spl zmG;show (seen.map Value.bool).take (i*1)++[Value.bool true]++(seen.map Value.bool).drop (i*1+1)=_;rw[Nat.mul_one,map_set,set_eq_take_append_cons_drop,if_pos (by simpa using hi)];simp
  rw[e]at h2;rw[length_set];exact h2
theorem PS.seen_at{i:Nat}{b:Bool}(hi:seen[i]?=some b):∃y,Id bv y∧(∀(α:Type) (kd:IntKind) (k:Value→Option α),pIdx 1 bv (.int kd (i:Int)) k=k (.pointer (some ⟨y,i*1,none⟩))) ∧
  (∀(α:Type) (k:Value→Option α),zaH 1 false H (.pointer (some ⟨y,i*1,none⟩)) k=k (.bool b)):=by
 have hlt:=(List.getElem?_eq_some_iff.1 hi).1;obtain⟨y,hy,⟨rest,hg⟩,hix⟩:=h.b.ix hlt;exact⟨y,hy,hix,fun α k=>zkb hg (by rw[Nat.mul_one];unfold zmG;rw[List.getElem?_map,hi];rfl) k⟩
theorem PS.push(t:Nat){zs:List Value}(hz:zs.length=2)(hb:(stk.length+1)*16≤2^47) :
  ∃sv' H',(∀(α:Type) (k:Value→Hp→Option α),(zaP 2 zs 1 [(0,.agg #[.int .i64 (t:Int),.int .i64 0])] H fun x H1=>zbb 2 16 sv x H1 k)=k sv' H')∧PS H0 H' lv out sv' (stk++[(t,0)]) bv seen:=by
 obtain⟨sv',H',h1,h2,h3,h4,h5⟩:=h.s.push (bytes:=16) (zs:=zs) (x:=.agg #[.int .i64 (t:Int),.int .i64 0]) (by decide) (by decide) hz rfl rfl hb;have hn:=h.next;refine⟨sv',H',h1,⟨Nat.le_trans h.next h3.next,fun j hj=>?_,h.l.keep h3 h.ls,?_,h.b.keep h3 (fun j a b=>h.sb j b a),h.al,fun j hj=>?_,h.ab,fun j a b=>?_,h.lb,fun j a b=>?_⟩⟩
 ·rw[h3.same j (Nat.lt_of_lt_of_le hj h.next) (fun q=>by have:=h.as' j q;omega),h.old j hj]
 ·have:zci (stk++[(t,0)])=zci stk++zad (.agg #[.int .i64 (t:Int),.int .i64 0]):=by rw[zem];rfl
  rw[this,length_append];exact h2
 ·rcases h4 j hj with q|q
  ·exact h.as' j q
  ·omega
 ·rcases h4 j b with q|q
  ·exact h.ls j a q
  ·have:=h.l.lt a;omega
 ·rcases h4 j a with q|q
  ·exact h.sb j q b
  ·have:=h.b.lt b;omega
theorem PS.pop{below:List (Nat×Nat)}{x:Nat×Nat}(hs:stk=below++[x]):∃sv',(∀(α:Type) (kd:IntKind) (k:Value→Option α),zgk 2 sv none (some (.int kd (below.length:Int))) k=k sv')∧PS H0 H lv out sv' below bv seen:=by subst hs;obtain⟨sv',h1,h2,h3⟩:=h.s.cut (zla _) (m:=below.length) (by simp);refine⟨sv',h1,⟨h.next,h.old,h.l,?_,h.b,h.al,fun j a=>h.as' j (h3 j a),h.ab,fun j a b=>h.ls j a (h3 j b),h.lb,fun j a b=>h.sb j (h3 j a) b⟩⟩;rw[zem,List.take_left' (zel below)]at h2;exact h2
theorem PS.tell(t:Nat)(hb:(out.length+1)*8≤2^47) :
  ∃lv' H',(∀(α:Type) (k:Value→Hp→Option α),(zaP 1 [.int .i64 0] 1 [(0,.int .i64 (t:Int))] H fun x H1=>zbb 1 8 lv x H1 k)=k lv' H')∧PS H0 H' lv' (out++[t]) sv stk bv seen:=by
 obtain⟨lv',H',h1,h2,h3,h4,h5⟩:=h.l.push (bytes:=8) (zs:=[.int .i64 0]) (x:=.int .i64 (t:Int)) (by decide) (by decide) rfl rfl rfl hb;have hn:=h.next;refine⟨lv',H',h1,⟨Nat.le_trans h.next h3.next,fun j hj=>?_,?_,h.s.keep h3 (fun j a b=>h.ls j b a),h.b.keep h3 (fun j a b=>h.lb j b a),fun j hj=>?_,h.as',h.ab,fun j a b=>?_,fun j a b=>?_,h.sb⟩⟩
 ·rw[h3.same j (Nat.lt_of_lt_of_le hj h.next) (fun q=>by have:=h.al j q;omega),h.old j hj]
 ·rw[ints_app,length_append];exact h2
 ·rcases h4 j hj with q|q
  ·exact h.al j q
  ·omega
 ·rcases h4 j a with q|q
  ·exact h.ls j q b
  ·have:=h.s.lt b;omega
 ·rcases h4 j a with q|q
  ·exact h.lb j q b
  ·have:=h.b.lt b;omega
theorem PS.step{below:List (Nat×Nat)}{t j:Nat}(hs:stk=below++[(t,j)]):∃y,(∀(α:Type) (kd:IntKind) (k:Value→Option α),pIdx 2 sv (.int kd (below.length:Int)) k=k (.pointer (some ⟨y,below.length*2,none⟩))) ∧
  (∀(α:Type) (k:Value→Option α),zaH 1 false H (.pointer (some ⟨y,below.length*2,none⟩)) k=k (.int .i64 (t:Int))) ∧
  (∀(α:Type) (k:Value→Option α),zaH 1 false H (.pointer (some ⟨y,below.length*2+1,none⟩)) k=k (.int .i64 (j:Int))) ∧
  Hp.rdP H (.pointer (some ⟨y,below.length*2+1,none⟩)) 1 false=some (.int .i64 (j:Int)) ∧
  ∃H',(∀(α:Type) (k:Hp→Option α),za8 1 H (.pointer (some ⟨y,below.length*2+1,none⟩)) (.int .i64 ((j+1:Nat):Int)) k=k H')∧PS H0 H' lv out sv (below++[(t,j+1)]) bv seen:=by
 subst hs;have hlt:below.length<(below++[(t,j)]).length:=by simp
 obtain⟨y,hy,⟨rest,hg⟩,hix⟩:=h.s.ix hlt;obtain⟨p1,p2⟩:=zoE below (t,j);have hl:(zci (below++[(t,j)])).length=below.length*2+2:=by rw[zel,length_append];simp;omega
 obtain⟨H',h1,h2,h3,h4⟩:=h.s.set hy (m:=1) (o:=below.length*2+1) (x:=.int .i64 ((j+1:Nat):Int)) rfl (by rw[hl];omega) rfl;refine⟨y,hix,fun α k=>zkb hg p1 k,fun α k=>zkb hg p2 k,?_,H',h1,⟨by rw[h4];exact h.next,fun i hi=>?_,h.l.keep h3 h.ls,?_,h.b.keep h3 (fun i a b=>h.sb i b a),h.al,h.as',h.ab,h.ls,h.lb,h.sb⟩⟩
 ·have:(zci (below++[(t,j)])++rest)[below.length*2+1]?=some (.int .i64 (j:Int)):=by rw[List.getElem?_append_left (by omega)];exact p2
  simp only[Hp.rdP,Hp.rd,hg,zcD,this]
 ·rw[h3.same i (Nat.lt_of_lt_of_le hi h.next) (fun q=>by have:=h.as' i q;omega),h.old i hi]
 ·have e:spl (zci (below++[(t,j)])) (below.length*2+1) (zad (.int .i64 ((j+1:Nat):Int)))=zci (below++[(t,j+1)]):=by
   rw[zem,zem];unfold spl;have hb:=zel below;show (zci below++[Value.int .i64 (t:Int),Value.int .i64 (j:Int)]).take (below.length*2+1)++[Value.int .i64 ((j+1:Nat):Int)]++(zci below++[Value.int .i64 (t:Int),Value.int .i64 (j:Int)]).drop (below.length*2+1+1)=zci below++[Value.int .i64 (t:Int),Value.int .i64 ((j+1:Nat):Int)]
   rw[take_append,hb,drop_append,hb,take_of_length_le (by omega),drop_of_length_le (by omega),Nat.add_sub_cancel_left,show below.length*2+1+1-below.length*2=2 by omega];simp
  rw[e]at h2;rw[length_append]at h2 ⊢;exact h2
end
theorem zj5:∀(n:Nat) (l:List Nat),l.Nodup→(∀x∈l,1≤x∧x≤n)→l.length≤n
 |0,l,_,h=>by
  cases l with
  |nil=>simp
  |cons a l=>have:=h a (mem_cons_self ..);omega
 |n+1,l,hn,h=>by
  by_cases hm:n+1∈l
  ·have h1:=zj5 n (l.erase (n+1)) (hn.erase _) fun x hx=>by have:=(List.Nodup.mem_erase_iff hn).1 hx;have:=h x this.2;omega
   rw[length_erase_of_mem hm]at h1;omega
  ·have:=zj5 n l hn fun x hx=>by have:=h x hx;have:x≠n+1:=fun e=>hm (e▸hx);omega
   omega
theorem zoD{L:List Nd}(h:Dag L):∀(t:Nat),1≤t→∀(out:List Nat),out.Nodup→(post L t out).Nodup:=by
 intro t;induction t using Nat.strongRecOn with
 |_ t ih=>
  intro ht out hn;rw[zeM h ht];split
  ·exact hn
  ·rename_i hm;have key:∀(l:List Nat) (o:List Nat),(∀c∈l,c∈kids L t)→o.Nodup→(posts L l o).Nodup:=by
    intro l;induction l with
    |nil=>exact fun o _ h=>h
    |cons c l ihl=>
     intro o hl ho;have hc:=zdE h ht (hl c (mem_cons_self ..));exact ihl _ (fun c hc=>hl c (mem_cons_of_mem _ hc)) (ih c hc.2 hc.1 o ho)
   refine nodup_append.2 ⟨key _ _ (fun c hc=>hc) hn,by simp,fun x hx y hy=>?_⟩;rw[mem_singleton]at hy;subst hy;intro e;subst e;rcases (zcc h (N:=x-1) (kids L x) out fun c hc=>by have:=zdE h ht hc;omega).2.2 x hx with q|q
   ·exact hm q
   ·omega
theorem zmd{L:List Nd}(h:Dag L):∀(l:List Nat) (o:List Nat),(∀c∈l,1≤c)→o.Nodup→(posts L l o).Nodup
 |[],o,_,ho=>ho
 |c::l,o,hl,ho=>zmd h l _ (fun c hc=>hl c (mem_cons_of_mem _ hc)) (zoD h c (hl c (mem_cons_self ..)) o ho)
structure Seen(N:Nat)(seen:List Bool)(out:List Nat)(stk:List (Nat×Nat)):Prop where
 len:seen.length=N+1
 at':∀x,x≤N→seen[x]?=some (decide (x∈out∨x∈stk.map Prod.fst))
structure Told(N:Nat)(out:List Nat):Prop where
 nd:out.Nodup
 bd:∀x∈out,1≤x∧x≤N
theorem Told.len{N:Nat}{out:List Nat}(h:Told N out):out.length≤N:=zj5 N out h.nd h.bd
theorem Told.posts{L:List Nd}{N:Nat}{out l:List Nat}(h:Told N out)(hd:Dag L)(hl:∀c∈l,1≤c∧c≤N):Told N (posts L l out):=
 ⟨zmd hd l out (fun c hc=>(hl c hc).1) h.nd,fun x hx=>by
  rcases (zcc hd l out hl).2.2 x hx with q|q
  ·exact h.bd x q
  ·exact q⟩
theorem arr3{α:Type}{a b c:Int}{j:Nat}{x:Int}(h:[a,b,c][j]?=some x)(k:Value→Option α):zen 3 false 1 (.agg #[.int .i64 a,.int .i64 b,.int .i64 c]) (.int .i64 (j:Int)) k=k (.int .i64 x):=by
 match j,h with
 |0,h=>cases h;rfl
 |1,h=>cases h;rfl
 |2,h=>cases h;rfl
 |n+3,h=>simp at h
theorem build72{α:Type}(t:Int)(k:Value→Option α):zbe PP Cp [(0,.int .i64 t),(1,.int .i64 0)] k=k (.agg #[.int .i64 t,.int .i64 0]):=bld (by kernel_rfl) k
theorem zba{α:Type}(n:Nd)(k:Value→Option α):zaf 1 false n.cells 0 k=k (.int .i64 n.op):=zb4 _ 0 _ rfl k
theorem zhi(op:Int):(0:Int)≤zax op∧zax op≤3:=by rcases zbJ op with q|q|q|q<;>rw[q]<;>decide
theorem Seen.told{N:Nat}{seen:List Bool}{out:List Nat}{below:List (Nat×Nat)}{t j:Nat}(h:Seen N seen out (below++[(t,j)])):Seen N seen (out++[t]) below:=
 ⟨h.len,fun x hx=>by
  rw[h.at' x hx];congr 2;simp only[map_append,map_cons,map_nil,mem_append,mem_singleton,eq_iff_iff];constructor
  ·rintro (q|q|q)
   ·exact .inl (.inl q)
   ·exact .inr q
   ·exact .inl (.inr q)
  ·rintro ((q|q)|q)
   ·exact .inl q
   ·exact .inr (.inr q)
   ·exact .inr (.inl q)⟩
theorem Seen.next{N:Nat}{seen:List Bool}{out:List Nat}{below:List (Nat×Nat)}{t j i:Nat}(h:Seen N seen out (below++[(t,j)])):Seen N seen out (below++[(t,i)]):=
 ⟨h.len,fun x hx=>by rw[h.at' x hx];congr 2;simp⟩
theorem Seen.add{N:Nat}{seen:List Bool}{out:List Nat}{stk:List (Nat×Nat)}{c i:Nat}(h:Seen N seen out stk)(hc:c≤N):Seen N (seen.set c true) out (stk++[(c,i)]):=
 ⟨by rw[length_set];exact h.len,fun x hx=>by
  rw[List.getElem?_set];by_cases e:c=x
  ·subst e;rw[if_pos rfl,if_pos (by rw[h.len];omega)];simp
  ·rw[if_neg e,h.at' x hx];congr 2;have:¬x=c:=fun q=>e q.symm
   simp[this]⟩
section
variable {H0:Hp}{p f g:Nat}{lim:Int}{L:List Nd}{K:List (ByteArray×Int)}{sl:Value}(hst:StF H0 p lim L K sl f g)(hd:Dag L)(hL:L.length*64≤2^46)(bv:Value)
include hst hd hL
theorem fwd:∀t,1≤t→t≤L.length→∀(m j:Nat),j+m=(kids L t).length→∀(out:List Nat) (below:List (Nat×Nat)) (seen:List Bool) (H:Hp) (lv sv:Value),
  PS H0 H lv out sv (below++[(t,j)]) bv seen→Seen L.length seen out (below++[(t,j)])→Told L.length out→(∀x∈below,t<x.1)→below.length+t≤L.length→t∉out →
  ∃H' lv' sv' seen',zbi (zaN RR (.pointer (some ⟨p,0,none⟩)) bv) [lv,sv] H=zbi (zaN RR (.pointer (some ⟨p,0,none⟩)) bv) [lv',sv'] H' ∧
   PS H0 H' lv' (posts L ((kids L t).drop j) out++[t]) sv' below bv seen'∧Seen L.length seen' (posts L ((kids L t).drop j) out++[t]) below:=by
 intro t;induction t using Nat.strongRecOn with
 |_ t ih=>
  intro h1 hN m;obtain⟨n,hn⟩:∃n,L[t-1]?=some n:=⟨_,List.getElem?_eq_getElem (by omega)⟩
  have hk:kids L t=zbO n:=by unfold kids;rw[hn]
  obtain⟨kl,kg,kb⟩:=znE hd hn;have hpn:=zhi n.op;induction m with
  |zero=>
   intro j hj out below seen H lv sv hp hs ht hb hbl hto;have hst':=hp.at0 hst;obtain⟨y,e1,e2,e3,e4,_⟩:=hp.step rfl;obtain⟨sl',hsl,hix⟩:=hst'.st.all.ix (i:=t-1) (by omega) (α:=Outc);have hol:=ht.len;obtain⟨lv1,H1,t1,p1⟩:=hp.tell t (by omega);obtain⟨sv1,c1,p2⟩:=p1.pop rfl;have hlen:(below++[(t,j)]).length=below.length+1:=by simp
   have w1:IntKind.i64.wrap (((below.length+1:Nat):Int)-1)=(below.length:Int):=by rw[zaV (by omega) (by omega)];omega
   have w2:IntKind.i64.wrap ((t:Int)-1)=((t-1:Nat):Int):=by rw[zaV (by omega) (by omega)];omega
   have q1:((below.length+1:Nat):Int)>0:=by omega
   have hjp:(j:Int)=zax n.op:=by rw[hk,kl]at hj;omega
   have e4':=e4;rw[hjp]at e4';have hls:∀{α:Type} (H':Hp) (k:Value→Option α),pLen .sl sv H' k=k (.int .i64 ((below.length+1:Nat):Int)):=fun H' k=>by rw[hp.s.len,hlen]
   have hdrop:(kids L t).drop j=[]:=drop_of_length_le (by omega);rw[hdrop];refine⟨H1,lv1,sv1,seen,?_,p2,hs.told⟩;rw[zaW];have:zaN RR (.pointer (some ⟨p,0,none⟩)) bv [lv,sv] H=some (.next,[lv1,sv1],H1):=by unfold zaN;simp only[qg1,qg0,hls,zei,q1,decide_true,zag,zau,zd8,w1,e1,zbw,zaY,Nat.zero_add,Nat.add_zero,hst'.st.l1,e2,e3,w2,hix,ld7 hsl hn,spl7,zba,zac (c29 _ _),zjp e4',zaD,hjp,t1,c1]
   rw[this];rfl
  |succ m ihm=>
   intro j hj out below seen H lv sv hp hs ht hb hbl hto;have hst':=hp.at0 hst;obtain⟨y,e1,e2,e3,e4,H1,e5,p1⟩:=hp.step rfl;obtain⟨sl',hsl,hix⟩:=hst'.st.all.ix (i:=t-1) (by omega) (α:=Outc);have hlen:(below++[(t,j)]).length=below.length+1:=by simp
   have w1:IntKind.i64.wrap (((below.length+1:Nat):Int)-1)=(below.length:Int):=by rw[zaV (by omega) (by omega)];omega
   have w2:IntKind.i64.wrap ((t:Int)-1)=((t-1:Nat):Int):=by rw[zaV (by omega) (by omega)];omega
   have w3:IntKind.i64.wrap ((j:Int)+1)=((j+1:Nat):Int):=by
    have:j<3:=by rw[hk,kl]at hj;omega
    exact zaV (by omega) (by omega)
   have q1:((below.length+1:Nat):Int)>0:=by omega
   have hjp:¬(j:Int)=zax n.op:=by rw[hk,kl]at hj;omega
   have hj3:j<3:=by rw[hk,kl]at hj;omega
   obtain⟨x,hx⟩:∃x,[n.a,n.b,n.c][j]?=some x:=⟨_,List.getElem?_eq_getElem (by simpa using hj3)⟩
   obtain⟨g1,g2,g3⟩:=kg j x hx (by rw[hk]at hj;omega);have hls:∀{α:Type} (H':Hp) (k:Value→Option α),pLen .sl sv H' k=k (.int .i64 ((below.length+1:Nat):Int)):=fun H' k=>by rw[hp.s.len,hlen]
   have hxc:x=((x.toNat:Nat):Int):=by omega
   generalize x.toNat=c at g1 hxc;subst hxc;have hcN:c≤L.length:=by omega
   have hct:c<t:=by omega
   have hc1:1≤c:=by omega
   have hdrop:(kids L t).drop j=c::(kids L t).drop (j+1):=by rw[hk];have hlt:j<(zbO n).length:=(List.getElem?_eq_some_iff.1 g1).1;rw[drop_eq_getElem_cons hlt];have:(zbO n)[j]=c:=(List.getElem?_eq_some_iff.1 g1).2;rw[this]
   rw[hdrop,zdn];have hsc:=hs.at' c hcN;have hs1:Seen L.length seen out (below++[(t,j+1)]):=hs.next;by_cases hco:c∈out
   ·-- told
    have hsc':seen[c]?=some true:=by rw[hsc];congr 1;simp[hco]
    obtain⟨z,z0,z1,z2⟩:=p1.seen_at hsc';obtain⟨H',lv',sv',seen',r1,r2,r3⟩:=ihm (j+1) (by omega) out below seen H1 lv sv p1 hs1 ht hb hbl hto;rw[post_in hd hc1 hco];refine⟨H',lv',sv',seen',?_,r2,r3⟩;rw[←r1,zaW];have:zaN RR (.pointer (some ⟨p,0,none⟩)) bv [lv,sv] H=some (.next,[lv,sv],H1):=by unfold zaN;simp only[qg1,qg0,hls,zei,q1,decide_true,zag,zau,zam,zd8,w1,e1,zbw,zaY,Nat.zero_add,Nat.add_zero,hst'.st.l1,e2,e3,w2,hix,ld7 hsl hn,spl7,zba,za9,zcl,zny,zac (c29 _ _),zjp e4,zaD,hjp,decide_false,ziV,arr3 hx,zbM,w3,e5,z1,z2,zb0,Bool.not_true]
    rw[this];rfl
   ·have hcs:c∉(below++[(t,j)]).map Prod.fst:=fun q=>by
     simp only[map_append,map_cons,map_nil,mem_append,mem_singleton,mem_map]at q;rcases q with⟨u,hu,e⟩|e
     ·have:=hb u hu;omega
     ·omega
    have hsc':seen[c]?=some false:=by rw[hsc];congr 1;simpa[hco] using hcs
    obtain⟨z,z0,z1,z2⟩:=p1.seen_at hsc';have hclt:c<seen.length:=by rw[hs.len];omega
    obtain⟨z',hz',z3,H2,z4,p2,_⟩:=p1.see hclt;obtain rfl:z'=z:=Option.some.inj (hz'.symm.trans z0);have hlen1:(below++[(t,j+1)]).length=below.length+1:=by simp
    obtain⟨sv3,H3,z5,p3⟩:=p2.push c (zs:=[.int .i64 0,.int .i64 0]) rfl (by rw[hlen1];omega);have hs3:Seen L.length (seen.set c true) out ((below++[(t,j+1)])++[(c,0)]):=hs1.add hcN;have hkc:0+(kids L c).length=(kids L c).length:=by omega
    obtain⟨H4,lv4,sv4,seen4,r1,r2,r3⟩:=ih c hct hc1 hcN (kids L c).length 0 hkc out (below++[(t,j+1)]) (seen.set c true) H3 lv sv3 p3 hs3 ht
     (fun u hu=>by
      rcases mem_append.1 hu with hu|hu
      ·have:=hb u hu;omega
      ·rw[mem_singleton]at hu;subst hu;exact hct) (by rw[hlen1];omega) hco
    rw[qd0,←zpN hd hc1 hco]at r2 r3;have ht4:Told L.length (post L c out):=ht.posts (l:=[c]) hd fun c' hc'=>by rw[mem_singleton]at hc';subst hc';exact⟨hc1,hcN⟩
    have hto4:t∉post L c out:=fun q=>by
     rcases (zpO hd c hc1 out).2.2 t q with q|q
     ·exact hto q
     ·omega
    obtain⟨H5,lv5,sv5,seen5,s1,s2,s3⟩:=ihm (j+1) (by omega) (post L c out) below seen4 H4 lv4 sv4 r2 r3 ht4 hb hbl hto4;refine⟨H5,lv5,sv5,seen5,?_,s2,s3⟩;rw[←s1,←r1,zaW];have:zaN RR (.pointer (some ⟨p,0,none⟩)) bv [lv,sv] H=some (.next,[lv,sv3],H3):=by unfold zaN;simp only[qg1,qg0,hls,zei,q1,decide_true,zag,zau,zam,zd8,w1,e1,zbw,zaY,Nat.zero_add,Nat.add_zero,hst'.st.l1,e2,e3,w2,hix,ld7 hsl hn,spl7,zba,za9,zcl,zny,zac (c29 _ _),zjp e4,zaD,hjp,decide_false,ziV,arr3 hx,zbM,w3,e5,z1,z2,zb0,Bool.not_false,z3,z4,build72,z5]
    rw[this];rfl
end
def zb1(l:List Int):List Value:=l.map fun (t:Int)=>Value.int .i64 t
theorem intsI_len(l:List Int):(zb1 l).length=l.length:=by simp[zb1]
theorem intsI_one(l:List Int):(zb1 l).all one=true:=by simp[zb1,one]
theorem znG{l:List Int}{i:Nat}{t:Int}(h:l[i]?=some t):(zb1 l)[i]?=some (.int .i64 t):=by simp[zb1,h]
theorem Rdb.int{H:Hp}{v:Value}{l:List Int}(h:Rdb H 1 v l.length (zb1 l)){i:Nat}{t:Int}(ht:l[i]?=some t) :
  ∃y,(∀(α:Type) (kd:IntKind) (k:Value→Option α),pIdx 1 v (.int kd (i:Int)) k=k (.pointer (some ⟨y,i*1,none⟩)))∧(∀(α:Type) (k:Value→Option α),zaH 1 false H (.pointer (some ⟨y,i*1,none⟩)) k=k (.int .i64 t)):=by
 obtain⟨y,hy,⟨rest,own,hg⟩,hix⟩:=h.ix (List.getElem?_eq_some_iff.1 ht).1;exact⟨y,hix,fun α k=>zkb hg (by rw[Nat.mul_one];exact znG ht) k⟩
def RdO(H:Hp)(sz:Nat)(v:Value)(n:Nat)(cs:List Value):Prop:=
 (n=0∧cs=[]∧v=.slice none 0 0)∨∃y c pre rest own,v=.slice (some ⟨y,pre.length,some sz⟩) n c∧n≤c∧H.get y=some (.cells (pre++(cs++rest)) own)∧cs.length=n*sz∧y<H.next
theorem Rdb.o{H:Hp}{sz:Nat}{v:Value}{n:Nat}{cs:List Value}(h:Rdb H sz v n cs):RdO H sz v n cs:=by
 rcases h with e|⟨y,c,rest,own,rfl,h1,h2,h3,h4⟩
 ·exact .inl e
 ·exact .inr ⟨y,c,[],rest,own,rfl,h1,h2,h3,h4⟩
theorem RdO.len{H:Hp}{sz:Nat}{v:Value}{n:Nat}{cs:List Value}(h:RdO H sz v n cs){α:Type}(H':Hp)(k:Value→Option α):pLen .sl v H' k=k (.int .i64 n):=by rcases h with⟨rfl,_,rfl⟩|⟨y,c,pre,rest,own,rfl,_⟩<;>rfl
theorem RdO.lt{H:Hp}{sz:Nat}{v:Value}{n:Nat}{cs:List Value}(h:RdO H sz v n cs){j:Nat}(hj:Id v j):j<H.next:=by
 rcases h with⟨_,_,rfl⟩|⟨y,c,pre,rest,own,rfl,_,_,_,h⟩
 ·cases hj
 ·cases hj;exact h
theorem RdO.keep'{H H':Hp}{sz:Nat}{v:Value}{n:Nat}{cs:List Value}(h:RdO H sz v n cs)(hg:∀j,Id v j→H'.get j=H.get j)(hn:H.next≤H'.next):RdO H' sz v n cs:=by
 rcases h with e|⟨y,c,pre,rest,own,rfl,h1,h2,h3,h4⟩
 ·exact .inl e
 ·exact .inr ⟨y,c,pre,rest,own,rfl,h1,by rw[hg y rfl];exact h2,h3,Nat.lt_of_lt_of_le h4 hn⟩
theorem RdO.keep{M:Nat→Prop}{H H':Hp}{sz:Nat}{v:Value}{n:Nat}{cs:List Value}(h:RdO H sz v n cs)(k:Frm M H H')(hm:∀j,Id v j→¬M j):RdO H' sz v n cs:=
 h.keep' (fun j hj=>k.same j (h.lt hj) (hm j hj)) k.next
theorem RdO.at1{H:Hp}{v:Value}{n:Nat}{cs:List Value}(h:RdO H 1 v n cs){i:Nat}{z:Value}(hz:cs[i]?=some z) :
  ∃y,(∀(α:Type) (kd:IntKind) (k:Value→Option α),pIdx 1 v (.int kd (i:Int)) k=k y)∧(∀(α:Type) (k:Value→Option α),zaH 1 false H y k=k z):=by
 have hlt:=(List.getElem?_eq_some_iff.1 hz).1;rcases h with⟨_,rfl,_⟩|⟨y,c,pre,rest,own,rfl,h1,h2,h3,h4⟩
 ·cases hz
 ·rw[Nat.mul_one]at h3;refine⟨.pointer (some ⟨y,pre.length+i*1,none⟩),fun α kd k=>?_,fun α k=>?_⟩
  ·unfold pIdx idxV;have:(1:Nat)=1∧(0:Int)≤(i:Int)∧(i:Int)<(n:Int):=⟨rfl,by omega,by omega⟩
   simp only[this,and_self,if_true,Int.toNat_natCast]
  ·refine zeh h2 (pre.length+i*1) z ?_ k;rw[Nat.mul_one,List.getElem?_append_right (by omega),Nat.add_sub_cancel_left,List.getElem?_append_left hlt,hz]
theorem RdO.int{H:Hp}{v:Value}{l:List Int}(h:RdO H 1 v l.length (zb1 l)){i:Nat}{t:Int}(ht:l[i]?=some t) :
  ∃y,(∀(α:Type) (kd:IntKind) (k:Value→Option α),pIdx 1 v (.int kd (i:Int)) k=k y)∧(∀(α:Type) (k:Value→Option α),zaH 1 false H y k=k (.int .i64 t)):=h.at1 (znG ht)
theorem zoW{H:Hp}{p f g:Nat}{lim:Int}{L:List Nd}{K:List (ByteArray×Int)}{sl:Value}(hst:StF H p lim L K sl f g){x:Value}{rs:List Int}(hx:RdO H 1 x rs.length (zb1 rs))(hl:rs.length≤2^40) :
  ∀k i,i+k=rs.length→zbi (za2 RR (.pointer (some ⟨p,0,none⟩)) x (.int .i64 (rs.length:Int))) [.int .i64 (i:Int)] H =
   if (rs.drop i).all (isT L)=true then some (.exit 0,[.int .i64 (rs.length:Int)],H) else some (.ret,[.tuple #[.slice none 0 0,.int .i64 70]],H)
 |0,i,h=>by
  have:i=rs.length:=by omega
  subst this;rw[zaW];have:za2 RR (.pointer (some ⟨p,0,none⟩)) x (.int .i64 (rs.length:Int)) [.int .i64 (rs.length:Int)] H=some (.exit 0,[.int .i64 (rs.length:Int)],H):=by unfold za2;simp only[zbL,zag,zam,qg0,Int.lt_irrefl,decide_false]
  rw[this,drop_of_length_le (Nat.le_refl _)];rfl
 |k+1,i,h=>by
  have hlt:i<rs.length:=by omega
  have hg:rs[i]?=some rs[i]:=List.getElem?_eq_getElem hlt;obtain⟨y,e1,e2⟩:=hx.int hg;have w:IntKind.i64.wrap ((i:Int)+1)=((i+1:Nat):Int):=zaV (by omega) (by omega);have q:(i:Int)<(rs.length:Int):=by omega
  rw[zaW,drop_eq_getElem_cons hlt,all_cons];cases ht:isT L rs[i] with
  |true=>
   have:za2 RR (.pointer (some ⟨p,0,none⟩)) x (.int .i64 (rs.length:Int)) [.int .i64 (i:Int)] H=some (.next,[.int .i64 ((i+1:Nat):Int)],H):=by unfold za2;simp only[zbL,zag,zau,zam,qg0,q,decide_true,e1,e2,zac (c19 hst.st),ht,zb0,Bool.not_true,zbM,w]
   rw[this];show zbi _ _ _=_;rw[zoW hst hx hl k (i+1) (by omega),Bool.true_and]
  |false=>
   have:za2 RR (.pointer (some ⟨p,0,none⟩)) x (.int .i64 (rs.length:Int)) [.int .i64 (i:Int)] H=some (.ret,[.tuple #[.slice none 0 0,.int .i64 70]],H):=by unfold za2;simp only[zbL,zag,zau,zam,qg0,q,decide_true,e1,e2,zac (c19 hst.st),ht,zb0,Bool.not_false]
   rw[this];rfl
theorem RdO.old{H0 H:Hp}{lv sv bv:Value}{out:List Nat}{stk:List (Nat×Nat)}{seen:List Bool}(h:PS H0 H lv out sv stk bv seen){x:Value}{n:Nat}{cs:List Value}(hx:RdO H0 1 x n cs):RdO H 1 x n cs:=
 hx.keep' (fun j hj=>h.old j (hx.lt hj)) h.next
section
variable {H0:Hp}{p f g:Nat}{lim:Int}{L:List Nd}{K:List (ByteArray×Int)}{sl:Value}(hst:StF H0 p lim L K sl f g)(hd:Dag L)(hL:L.length*64≤2^46)(bv:Value)
 {x:Value}{ns:List Nat}(hx:RdO H0 1 x ns.length (ints ns))(hns:∀t∈ns,1≤t∧t≤L.length)(hnl:ns.length≤2^40)
include hst hd hL hx hns hnl
theorem zoV:∀(k i:Nat) (out:List Nat) (seen:List Bool) (H:Hp) (lv sv:Value),i+k=ns.length→PS H0 H lv out sv [] bv seen→Seen L.length seen out []→Told L.length out →
  ∃H' lv' sv' seen',zbi (za1 RR (.pointer (some ⟨p,0,none⟩)) x bv (.int .i64 (ns.length:Int))) [lv,sv,.int .i64 (i:Int)] H=some (.exit 2,[lv',sv',.int .i64 (ns.length:Int)],H') ∧
   PS H0 H' lv' (posts L (ns.drop i) out) sv' [] bv seen'
 |0,i,out,seen,H,lv,sv,hi,hp,hs,ht=>by
  have:i=ns.length:=by omega
  subst this;refine⟨H,lv,sv,seen,?_,?_⟩
  ·rw[zaW];have:za1 RR (.pointer (some ⟨p,0,none⟩)) x bv (.int .i64 (ns.length:Int)) [lv,sv,.int .i64 (ns.length:Int)] H=some (.exit 2,[lv,sv,.int .i64 (ns.length:Int)],H):=by unfold za1;simp only[zbL,zag,zam,qg1,qg0,Int.lt_irrefl,decide_false]
   rw[this];rfl
  ·rw[drop_of_length_le (Nat.le_refl _)];exact hp
 |k+1,i,out,seen,H,lv,sv,hi,hp,hs,ht=>by
  have hlt:i<ns.length:=by omega
  have hg:ns[i]?=some ns[i]:=List.getElem?_eq_getElem hlt;have hb:=hns _ (getElem_mem hlt);have hdr:ns.drop i=ns[i]::ns.drop (i+1):=drop_eq_getElem_cons hlt;rw[hdr,zdn];generalize ns[i]=t at hg hb;have hxH:=RdO.old hp hx;obtain⟨y,e1,e2⟩:=hxH.at1 (z:=.int .i64 (t:Int)) (by unfold ints;rw[List.getElem?_map,hg];rfl);have w:IntKind.i64.wrap ((i:Int)+1)=((i+1:Nat):Int):=zaV (by omega) (by omega);have q:(i:Int)<(ns.length:Int):=by omega
  have hsc:=hs.at' t hb.2;by_cases hto:t∈out
  ·have hsc':seen[t]?=some true:=by rw[hsc];congr 1;simp[hto]
   obtain⟨z,z0,z1,z2⟩:=hp.seen_at hsc';rw[post_in hd hb.1 hto];obtain⟨H',lv',sv',seen',r1,r2⟩:=zoV k (i+1) out seen H lv sv (by omega) hp hs ht;refine⟨H',lv',sv',seen',?_,r2⟩;rw[zaW];have:za1 RR (.pointer (some ⟨p,0,none⟩)) x bv (.int .i64 (ns.length:Int)) [lv,sv,.int .i64 (i:Int)] H=some (.next,[lv,sv,.int .i64 ((i+1:Nat):Int)],H):=by unfold za1;simp only[zbL,zag,zau,qg1,qg0,q,decide_true,e1,e2,z1,z2,zbM,w]
   rw[this];exact r1
  ·have hsc':seen[t]?=some false:=by rw[hsc];congr 1;simp[hto]
   obtain⟨z,z0,z1,z2⟩:=hp.seen_at hsc';have hclt:t<seen.length:=by rw[hs.len];omega
   obtain⟨z',hz',z3,H2,z4,p2,_⟩:=hp.see hclt;obtain rfl:z'=z:=Option.some.inj (hz'.symm.trans z0);obtain⟨sv3,H3,z5,p3⟩:=p2.push t (zs:=[.int .i64 0,.int .i64 0]) rfl (by simp);have hs3:Seen L.length (seen.set t true) out ([]++[(t,0)]):=hs.add hb.2;obtain⟨H4,lv4,sv4,seen4,r1,r2,r3⟩:=fwd hst hd hL bv t hb.1 hb.2 (kids L t).length 0 (by omega) out [] (seen.set t true) H3 lv sv3 p3 hs3 ht (fun u hu=>by cases hu) (by simpa using hb.2) hto;rw[qd0,←zpN hd hb.1 hto]at r2 r3;have ht4:Told L.length (post L t out):=ht.posts (l:=[t]) hd fun c' hc'=>by rw[mem_singleton]at hc';subst hc';exact hb
   obtain⟨H',lv',sv',seen',s1,s2⟩:=zoV k (i+1) (post L t out) seen4 H4 lv4 sv4 (by omega) r2 r3 ht4;refine⟨H',lv',sv',seen',?_,s2⟩;have hexit:zbi (zaN RR (.pointer (some ⟨p,0,none⟩)) bv) [lv4,sv4] H4=some (.exit 4,[lv4,sv4],H4):=by
    rw[zaW];have:zaN RR (.pointer (some ⟨p,0,none⟩)) bv [lv4,sv4] H4=some (.exit 4,[lv4,sv4],H4):=by unfold zaN;simp only[qg1,qg0,r2.s.len,length_nil,zei,zag];rfl
    rw[this];rfl
   rw[hexit]at r1;rw[zaW];have:za1 RR (.pointer (some ⟨p,0,none⟩)) x bv (.int .i64 (ns.length:Int)) [lv,sv,.int .i64 (i:Int)] H=some (.next,[lv4,sv4,.int .i64 ((i+1:Nat):Int)],H4):=by unfold za1;simp only[zbL,zag,zau,zam,qg1,qg0,q,decide_true,e1,e2,z1,z2,z3,z4,build72,z5,r1,zay,zb3,zbf,zbM,w]
   rw[this];exact s1
end
theorem zlP:∀n:Nat,repl n [.bool false]=zmG (List.replicate n false)
 |0=>rfl
 |n+1=>by show [.bool false]++repl n [.bool false]=_;rw[zlP n,replicate_succ];rfl
theorem zcK(ns:List Nat):ints ns=zb1 (ns.map fun (t:Nat)=>(t:Int)):=by simp[ints,zb1]
theorem nats{L:List Nd}:∀rs:List Int,rs.all (isT L)=true→∃ns:List Nat,rs=ns.map (fun (t:Nat)=>(t:Int))∧∀t∈ns,1≤t∧t≤L.length
 |[],_=>⟨[],rfl,fun t h=>by cases h⟩
 |r::rs,h=>by
  rw[all_cons,Bool.and_eq_true]at h;obtain⟨ns,h1,h2⟩:=nats rs h.2;have:=zbv.1 h.1;refine⟨r.toNat::ns,by rw[map_cons,←h1];congr 1;omega,fun t ht=>?_⟩;rcases mem_cons.1 ht with rfl|ht
  ·omega
  ·exact h2 t ht
structure OrdOk(H0 H:Hp)(v:Value)(out:List Nat):Prop where
 vec:Vec H 1 v out.length (ints out)
 next:H0.next≤H.next
 old:∀j,j<H0.next→H.get j=H0.get j
 new:∀j,Id v j→H0.next≤j
theorem c13_no{H0:Hp}{p f g:Nat}{lim:Int}{L:List Nd}{K:List (ByteArray×Int)}{sl:Value}(hst:StF H0 p lim L K sl f g){x:Value}{rs:List Int}(hx:RdO H0 1 x rs.length (zb1 rs))(hl:rs.length≤2^40)
  (hno:rs.all (isT L)=false):RR AR [.pointer (some ⟨p,0,none⟩),x] H0=some (.tuple #[.slice none 0 0,.int .i64 70],H0):=by
 have hr:=(zdL E0 rfl (.pointer (some ⟨p,0,none⟩)) x H0).trans (zd2 _ _ _ _);refine hr.trans ?_;have h1:=zoW hst hx hl rs.length 0 (by omega);rw[qd0,hno,if_neg (by decide)]at h1;rw[hx.len,show (0:Int)=((0:Nat):Int) from rfl,h1,zay,zcb,zeW]
theorem zpf{H0:Hp}{p f g:Nat}{lim:Int}{L:List Nd}{K:List (ByteArray×Int)}{sl:Value}(hst:StF H0 p lim L K sl f g)(hd:Dag L)(hL:L.length*64≤2^46){x:Value}{ns:List Nat}(hx:RdO H0 1 x ns.length (ints ns))(hl:ns.length≤2^40)
  (hns:∀t∈ns,1≤t∧t≤L.length):∃H' v,RR AR [.pointer (some ⟨p,0,none⟩),x] H0=some (.tuple #[v,.int .i64 0],H')∧OrdOk H0 H' v (posts L ns []):=by
 have hr:=(zdL E0 rfl (.pointer (some ⟨p,0,none⟩)) x H0).trans (zd2 _ _ _ _);have hmap:(ns.map fun (t:Nat)=>(t:Int)).length=ns.length:=length_map ..;have h1:=zoW (rs:=ns.map fun (t:Nat)=>(t:Int)) hst (x:=x) (by rw[hmap,←zcK];exact hx) (by rw[hmap];exact hl) ns.length 0 (by rw[hmap];omega);have hall:(ns.map fun (t:Nat)=>(t:Int)).all (isT L)=true:=by rw[all_map,all_eq_true];intro t ht;have:=hns t ht;exact zbv.2 ⟨by show (1:Int)≤(t:Int);omega,by show (t:Int)≤L.length;omega⟩
 rw[qd0,hall,if_pos rfl,hmap]at h1;obtain⟨bv,b1,b2,b3⟩:=Vec.make H0 (sz:=1) (bytes:=1) (zs:=[.bool false]) rfl (n:=L.length+1) (by omega);rw[zlP]at b1 b2;generalize hH1:H0.new (.cells (zmG (List.replicate (L.length+1) false)) true)=H1 at b1 b2;have n1:H1.next=H0.next+1:=by rw[←hH1];rfl
 have hsl:(List.replicate (L.length+1) false).length=L.length+1:=length_replicate ..;have ps:PS H0 H1 (.slice none 0 0) [] (.slice none 0 0) [] bv (List.replicate (L.length+1) false):=
  ⟨by omega,fun j hj=>by rw[←hH1,get_new,if_neg (by omega)],Vec.nil _ _,Vec.nil _ _,by rw[hsl];exact b2,fun j hj=>(by cases hj),fun j hj=>(by cases hj),fun j hj=>by have:=b3 j hj;omega,
   fun j a=>(by cases a),fun j a=>(by cases a),fun j a=>(by cases a)⟩
 have sn:Seen L.length (List.replicate (L.length+1) false) [] []:=⟨hsl,fun x hx=>by rw[List.getElem?_replicate,if_pos (by omega)];rfl⟩
 obtain⟨H',lv',sv',seen',g1,g2⟩:=zoV hst hd hL bv hx hns hl ns.length 0 [] _ H1 _ _ (by omega) ps sn ⟨nodup_nil,fun x h=>by cases h⟩;rw[qd0]at g2;refine⟨H',lv',?_,⟨g2.l,g2.next,g2.old,g2.al⟩⟩;refine hr.trans ?_;have w:IntKind.i64.wrap ((L.length:Int)+1)=((L.length+1:Nat):Int):=zaV (by omega) (by omega);rw[hx.len,show (0:Int)=((0:Nat):Int) from rfl,h1,zay,zb3,zbf,zbw,zaY,Nat.zero_add,hst.st.l1,hst.st.all.len,zbM,w,b1,hx.len,g1,zay,zb3,zbf];rfl
end Go.AM
namespace Go.AM
open Go
section
end
section
end
section
end
end Go.AM
namespace Go.AM
open List Go
def zcn(L:List Nd)(rs:List Int):Int×List Nat:=if rs.all (isT L)=true then (0,posts L (rs.map Int.toNat) []) else (70,[])
theorem zoS(ns:List Nat):(ns.map fun (t:Nat)=>(t:Int)).map Int.toNat=ns:=by
 induction ns with
 |nil=>rfl
 |cons a l ih=>rw[map_cons,map_cons,ih];rfl
section
variable {H0:Hp}{p f g:Nat}{lim:Int}{L:List Nd}{K:List (ByteArray×Int)}{sl:Value}(hst:StF H0 p lim L K sl f g)(hd:Dag L)(hL:L.length*64≤2^46){x:Value}{rs:List Int}(hx:RdO H0 1 x rs.length (zb1 rs))(hl:rs.length≤2^40)
include hst hd hL hx hl
theorem c13:∃H' v,RR AR [.pointer (some ⟨p,0,none⟩),x] H0=some (.tuple #[v,.int .i64 (zcn L rs).1],H')∧OrdOk H0 H' v (zcn L rs).2:=by
 unfold zcn;cases h:rs.all (isT L) with
 |true=>
  obtain⟨ns,h1,h2⟩:=nats rs h;have e:rs.map Int.toNat=ns:=by rw[h1,zoS]
  have hlen:rs.length=ns.length:=by rw[h1,length_map]
  rw[if_pos rfl,e];exact zpf hst hd hL (by rw[zcK,←h1,←hlen];exact hx) (by omega) h2
 |false=>
  rw[if_neg (by decide)];exact⟨H0,_,c13_no hst hx hl h,Vec.nil _ _,Nat.le_refl _,fun _ _=>rfl,fun j hj=>by cases hj⟩
end
structure zpj(m:Nd):Prop where
 op:1≤m.op∧m.op≤33
 w:0≤m.w∧m.w≤64
 num:0≤m.num∧m.num<18446744073709551616
 ext:m.op=31→m.num≤64
 name:m.name.data.toList.length≤24
theorem wT_le{L:List Nd}(h:∀m∈L,0≤m.w∧m.w≤64)(t:Int):wT L (-1) t≤64:=by
 unfold wT;split
 ·cases q:L[(t-1).toNat]? with
  |none=>show (-1:Int)≤64;decide
  |some m=>exact(h m (mem_of_getElem? q)).2
 ·decide
theorem ask_indN{Q:Res→Prop}{lim:Int}{L:List Nd}{K:List (ByteArray×Int)}(hm:∀n:Nd,0≤n.num∧n.num<18446744073709551616→Q (mkR lim L K n))(hn:∀e,Q (0,e,L,K)){o:OpA}(ho:o.Ok):Q (askR lim L K o):=by
 have hz:(0:Int)≤0∧(0:Int)<18446744073709551616:=by decide
 unfold askR unR binR extR
 repeat' first|exact hm _ hz|exact hm _ ho.n|exact hm _ (trim_bd o.w o.x ho.x)|exact hm _ (by exact⟨Int.emod_nonneg _ (by decide),Int.emod_lt_of_pos _ (by decide)⟩)|exact hn _|refine q_ite (Q:=Q) ?_ ?_
def sp(l:List UInt8):List UInt8:=32::l
abbrev itoa:=Go.Lib.itoa
theorem sp_ba(l:List UInt8)(hl:l.length≤100){α:Type}(k:Value→Option α):pBin PP .add Ae (.string ⟨#[32]⟩) (.string (ba l)) k=k (.string (ba (sp l))):=zpB _ [32] l (by simp;omega) k
theorem zdj{n:Int}(h0:-9223372036854775808≤n)(h1:n≤9223372036854775807):(itoa n).length≤21:=Go.Lib.itoa_length_le n h0 h1
def fl(op:Int):List UInt8:=if op≤2 then [] else if op=3 then [119,110] else if op=4 then [115,119] else if op=31 then [112,110,119] else if op≥32 then [112,119] else List.replicate (zax op).toNat 112
def act(F:Int→Int)(n:Nd):List UInt8→Nat→List UInt8
 |[],_=>[]
 |c::r,k=>if c=112 then sp (itoa (F ([n.a,n.b,n.c].getD k 0)))++act F n r (k+1) else if c=110 then sp (numT n.num.toNat)++act F n r k else if c=119 then sp (itoa n.w)++act F n r k
  else if c=115 then sp n.name.data.toList++act F n r k else act F n r k
def word(ws:List (List UInt8))(op:Int):List UInt8:=ws.getD op.toNat []
def line(ws:List (List UInt8))(F:Int→Int)(i:Nat)(n:Nd):List UInt8:=itoa ((i+1:Nat):Int)++[32]++word ws n.op++act F n (fl n.op) 0++[10]
def upF(F:Int→Int)(t v:Int):Int→Int:=fun x=>if x=t then v else F x
def zaJ(L:List Nd)(t:Nat):Nd:=(L[t-1]?).getD noNd'
 where noNd':Nd:=⟨0,0,0,0,0,0,⟨#[]⟩⟩
def zio:Nat→List Nat→(Int→Int)→(Int→Int)
 |_,[],F=>F
 |i,t::r,F=>zio (i+1) r (upF F t ((i+1:Nat):Int))
def zgs(ws:List (List UInt8))(L:List Nd):Nat→List Nat→(Int→Int)→List UInt8
 |_,[],_=>[]
 |i,t::r,F=>line ws (upF F t ((i+1:Nat):Int)) i (zaJ L t)++zgs ws L (i+1) r (upF F t ((i+1:Nat):Int))
def zjq(F:Int→Int)(rs:List Int):List UInt8:=rs.flatMap fun r=>sp (itoa (F r))
def znU(ws:List (List UInt8))(L:List Nd)(out:List Nat)(rs:List Int):List UInt8:=
 zgs ws L 0 out (fun _=>0)++[114,111,111,116,115]++zjq (zio 0 out fun _=>0) rs++[10]
def mapI(A:List (Int×Int)):List (Value×Value):=A.map fun x=>(.int .i64 x.1,.int .i64 x.2)
def lkI(t:Int):Nat→List (Int×Int)→Option (Nat×Int)
 |_,[]=>none
 |i,(u,w)::r=>if t=u then some (i,w) else lkI t (i+1) r
def MapF(H:Hp)(m:Nat)(F:Int→Int):Prop:=∃A,H.get m=some (.map (mapI A))∧∀t,F t=(match lkI t 0 A with|some q=>q.2|none=>0)
structure zod(P:Program)(kt:TypeId):Prop where
 eq:∀a b:Int,eqT P 10000 kt (.int .i64 a) (.int .i64 b)=some (a==b)
 sh:∀a:Int,zd7 P 20 kt (.int .i64 a)=true
theorem findI{P:Program}{kt:TypeId}(hk:zod P kt)(t:Int):∀(A:List (Int×Int)) (i:Nat),zfU P kt (.int .i64 t) (mapI A) i=some ((lkI t i A).map fun q=>(q.1,.int .i64 q.2))
 |[],i=>rfl
 |(u,w)::r,i=>by
  show (match eqT P 10000 kt (.int .i64 t) (.int .i64 u) with|some true=>some (some (i,Value.int .i64 w))|some false=>zfU P kt (.int .i64 t) (mapI r) (i+1)|none=>none)=_;rw[hk.eq];unfold lkI;by_cases h:t=u
  ·rw[if_pos h,show (t==u)=true by simpa using h];rfl
  ·rw[if_neg h,show (t==u)=false by simpa using h];exact findI hk t r (i+1)
theorem MapF.look{P:Program}{kt:TypeId}(hk:zod P kt){H:Hp}{m:Nat}{F:Int→Int}(h:MapF H m F)(t:Int){α:Type}(k:Value→Option α):zc3 P kt (.int .i64 0) (.map (some m)) (.int .i64 t) false H k=k (.int .i64 (F t)):=by obtain⟨A,h1,h2⟩:=h;unfold zc3 lookV;rw[hk.sh,h2 t];simp only[if_true,zqO,h1,findI hk];cases lkI t 0 A<;>rfl
theorem zoY(t:Int):∀(A:List (Int×Int)) (i j:Nat) (w:Int),lkI t i A=some (j,w)→i≤j∧A[j-i]?=some (t,w)
 |[],i,j,w,h=>by cases h
 |(u,v)::r,i,j,w,h=>by
  unfold lkI at h;split at h
  ·rename_i e;cases h;subst e;exact⟨Nat.le_refl _,by simp⟩
  ·obtain⟨h1,h2⟩:=zoY t r (i+1) j w h;refine⟨by omega,?_⟩;rw[show j-i=(j-(i+1))+1 by omega];simpa using h2
theorem lkI_app(t key v:Int):∀(A:List (Int×Int)) (i:Nat),lkI key i A=none→(lkI t i (A++[(key,v)])).map Prod.snd=if t=key then some v else (lkI t i A).map Prod.snd
 |[],i,h=>by
  show (lkI t i [(key,v)]).map Prod.snd=_;unfold lkI lkI;split<;>rfl
 |(u,w)::r,i,h=>by
  unfold lkI at h;split at h
  ·cases h
  ·rename_i ne;show (lkI t i ((u,w)::(r++[(key,v)]))).map Prod.snd=_;unfold lkI;by_cases e:t=u
   ·rw[if_pos e,if_pos e,if_neg (fun q=>ne (by rw[←q,e]))]
   ·rw[if_neg e,if_neg e];exact lkI_app t key v r (i+1) h
theorem lkI_set(t key v:Int):∀(A:List (Int×Int)) (i j:Nat) (w:Int),lkI key i A=some (j,w)→(lkI t i (A.set (j-i) (key,v))).map Prod.snd=if t=key then some v else (lkI t i A).map Prod.snd
 |[],i,j,w,h=>by cases h
 |(u,x)::r,i,j,w,h=>by
  unfold lkI at h;split at h
  ·rename_i e;cases h;subst e;rw[Nat.sub_self,set_cons_zero];unfold lkI;by_cases q:t=key
   ·rw[if_pos q,if_pos q];rfl
   ·rw[if_neg q,if_neg q,if_neg q]
  ·rename_i ne;have hle:=(zoY key r (i+1) j w h).1;rw[show j-i=(j-(i+1))+1 by omega,set_cons_succ];unfold lkI;by_cases q:t=u
   ·rw[if_pos q,if_pos q,if_neg (fun z=>ne (by rw[←z,q]))]
   ·rw[if_neg q,if_neg q];exact lkI_set t key v r (i+1) j w h
theorem mtch(o:Option (Nat×Int)):(match o with|some q=>q.2|none=>(0:Int))=(o.map Prod.snd).getD 0:=by cases o<;>rfl
theorem MapF.upd{P:Program}{kt:TypeId}(hk:zod P kt){H:Hp}{m:Nat}{F:Int→Int}(h:MapF H m F)(key v:Int) :
  ∃H',(∀(α:Type) (k:Hp→Option α),pUpd P kt (.map (some m)) (.int .i64 key) (.int .i64 v) H k=k H')∧MapF H' m (fun t=>if t=key then v else F t)∧(∀j,j≠m→H'.get j=H.get j)∧H'.next=H.next:=by
 obtain⟨A,h1,h2⟩:=h;cases hq:lkI key 0 A with
 |none=>
  refine⟨H.set m (some (.map (mapI (A++[(key,v)])))),fun α k=>?_,⟨A++[(key,v)],by rw[get_set,if_pos rfl],fun t=>?_⟩,fun j hj=>by rw[get_set,if_neg hj],rfl⟩
  ·have:updV P kt (.map (some m)) (.int .i64 key) (.int .i64 v) H=some (H.set m (some (.map (mapI (A++[(key,v)]))))):=by unfold updV;rw[hk.sh];simp only[if_true,h1,findI hk,hq,Option.map_none];rw[show mapI (A++[(key,v)])=mapI A++[(Value.int .i64 key,Value.int .i64 v)] by simp[mapI]]
   unfold pUpd;rw[this]
  ·rw[mtch,lkI_app t key v A 0 hq];dsimp only;split
   ·rfl
   ·rw[h2 t,mtch]
 |some q=>
  obtain⟨j,w⟩:=q;obtain⟨_,hg⟩:=zoY key A 0 j w hq;rw[Nat.sub_zero]at hg;refine⟨H.set m (some (.map (mapI (A.set j (key,v))))),fun α k=>?_,⟨A.set j (key,v),by rw[get_set,if_pos rfl],fun t=>?_⟩,fun j hj=>by rw[get_set,if_neg hj],rfl⟩
  ·have hk1:(mapI A)[j]?=some (.int .i64 key,.int .i64 w):=by unfold mapI;rw[List.getElem?_map,hg];rfl
   have hsb:Instr.sameBits 10000 (.int .i64 key) (.int .i64 key)=true:=by simp[Instr.sameBits]
   have:updV P kt (.map (some m)) (.int .i64 key) (.int .i64 v) H=some (H.set m (some (.map (mapI (A.set j (key,v)))))):=by unfold updV;rw[hk.sh];simp only[if_true,h1,findI hk,hq,Option.map_some,hk1,hsb];rw[show mapI (A.set j (key,v))=zkR (mapI A) j (.int .i64 key) (.int .i64 v) by unfold zkR mapI;rw[map_set]]
   unfold pUpd;rw[this]
  ·have:=lkI_set t key v A 0 j w hq;rw[Nat.sub_zero]at this;rw[mtch,this];dsimp only;split
   ·rfl
   ·rw[h2 t,mtch]
theorem MapF.new(H:Hp):MapF (H.new (.map [])) H.next (fun _=>0):=⟨[],by rw[get_new,if_pos rfl];rfl,fun t=>rfl⟩
theorem MapF.keep{H H':Hp}{m:Nat}{F:Int→Int}(h:MapF H m F)(hg:H'.get m=H.get m):MapF H' m F:=by obtain⟨A,h1,h2⟩:=h;exact⟨A,by rw[hg];exact h1,h2⟩
theorem ikI:zod PP Aa:=⟨fun a b=>by kernel_rfl,fun a=>by kernel_rfl⟩
theorem upd_ty{P:Program}{kt:TypeId}{m key v:Value}{H H':Hp}(h:pUpd P kt m key v H some=some H'):H'.ty=H.ty:=by
 unfold pUpd at h;cases q:updV P kt m key v H with
 |none=>rw[q]at h;cases h
 |some H1=>
  rw[q]at h;cases h;unfold updV at q
  repeat' (first | (cases q;done) | (cases q;rfl)|split at q)
theorem Bld.keep{H H':Hp}{i:Nat}{s:List UInt8}{j:Option Nat}(h:Bld H i s j)(hi:H'.get i=H.get i)(hj:∀y,j=some y→H'.get y=H.get y)(hn:H.next≤H'.next)(ht:∀k,k<H.next→H'.ty k=H.ty k):Bld H' i s j:=by
 refine⟨by rw[ht i h.lt];exact h.ty,Nat.lt_of_lt_of_le h.lt hn,?_⟩;obtain⟨a,buf,h1,h2,h3⟩:=h.ex;refine⟨a,buf,by rw[hi];exact h1,h2,?_⟩;rcases h3 with h3|⟨y,g1,g2,g3,g4,g5,g6,g7⟩
 ·exact .inl h3
 ·exact .inr ⟨y,g1,g2,Nat.lt_of_lt_of_le g3 hn,g4,g5,by rw[hj y g1];exact g6,by rw[ht y g3];exact g7⟩
theorem Bld.jn{H:Hp}{i:Nat}{s:List UInt8}{j:Option Nat}(h:Bld H i s j){y:Nat}(hy:j=some y):y<H.next∧y≠i:=by
 obtain⟨a,buf,h1,h2,h3⟩:=h.ex;rcases h3 with⟨h3,_⟩|⟨z,g1,g2,g3,_⟩
 ·rw[h3]at hy;cases hy
 ·rw[g1]at hy;cases hy;exact⟨g3,g2⟩
theorem Tabs.old{B H:Hp}(h:Tabs B)(hn:PP.globals.size≤B.next)(ho:∀k,k<B.next→H.get k=B.get k):Tabs H:=by have e:∀g,g<PP.globals.size→H.get g=B.get g:=fun g hg=>ho g (by omega);exact⟨by rw[e _ (by rw[zkZ];decide)];exact h.pow,by rw[e _ (by rw[zkZ];decide)];exact h.spc,by rw[e _ (by rw[zkZ];decide)];exact h.bru⟩
structure DP(B H:Hp)(wl:List Value)(b m w:Nat)(s:List UInt8)(Φ:Int→Int):Prop where
 next:B.next≤H.next
 old:∀k,k<B.next→H.get k=B.get k
 lb:B.next≤b
 lm:B.next≤m
 lw:B.next≤w
 bm:b≠m
 bw:b≠w
 mw:m≠w
 hm:m<H.next
 hw:w<H.next
 mp:MapF H m Φ
 nms:H.get w=some (.cells wl true)
 bld:∃j,Bld H b s j∧∀y,j=some y→B.next≤y∧y≠m∧y≠w
section
variable {B H:Hp}{wl:List Value}{b m w:Nat}{s:List UInt8}{Φ:Int→Int}
theorem DP.upd(h:DP B H wl b m w s Φ)(key v:Int):∃H',(∀(α:Type) (k:Hp→Option α),pUpd PP Aa (.map (some m)) (.int .i64 key) (.int .i64 v) H k=k H')∧DP B H' wl b m w s (upF Φ key v):=by obtain⟨H',e1,e2,e3,e4⟩:=h.mp.upd ikI key v;have ht:=upd_ty (e1 Hp some);obtain⟨j,hj,hj2⟩:=h.bld;have lm:=h.lm;have bm:=h.bm;refine⟨H',e1,⟨by rw[e4];exact h.next,fun k hk=>by rw[e3 k (by omega)];exact h.old k hk,h.lb,h.lm,h.lw,h.bm,h.bw,h.mw,by rw[e4];exact h.hm,by rw[e4];exact h.hw,e2,by rw[e3 w (Ne.symm h.mw)];exact h.nms,j,hj.keep (e3 b bm) (fun y hy=>e3 y (hj2 y hy).2.1) (by rw[e4];exact Nat.le_refl _) (fun k _=>by rw[ht]),hj2⟩⟩
theorem DP.new{H':Hp}(h:DP B H wl b m w s Φ)(k:New H H'):DP B H' wl b m w s Φ:=by obtain⟨j,hj,hj2⟩:=h.bld;have n1:=k.next;have n2:=h.next;exact⟨by omega,fun q hq=>by rw[k.get q (by omega)];exact h.old q hq,h.lb,h.lm,h.lw,h.bm,h.bw,h.mw,Nat.lt_of_lt_of_le h.hm n1,Nat.lt_of_lt_of_le h.hw n1,h.mp.keep (k.get m h.hm),by rw[k.get w h.hw];exact h.nms,j,hj.keep (k.get b hj.lt) (fun y hy=>k.get y (hj.jn hy).1) n1 k.ty,hj2⟩
theorem DP.bf{H':Hp}{j j':Option Nat}{s':List UInt8}(h:DP B H wl b m w s Φ)(hb:Bld H b s j)(hj2:∀y,j=some y→B.next≤y∧y≠m∧y≠w)(hb':Bld H' b s' j')(k:BF b H j H' j'):DP B H' wl b m w s' Φ:=by
 have n1:=k.next;have n2:=h.next;have lb:=h.lb;have hm:=h.hm;have hw:=h.hw;have bm:=h.bm;have bw:=h.bw;have nj:∀q,q<H.next→q<B.next∨q=m∨q=w→j≠some q:=fun q hq hx e=>by have:=hj2 q e;omega
 exact⟨by omega,fun q hq=>by rw[k.get q (by omega) (by omega) (nj q (by omega) (.inl hq))];exact h.old q hq,h.lb,h.lm,h.lw,h.bm,h.bw,h.mw,by omega,by omega,h.mp.keep (k.get m hm (by omega) (nj m hm (.inr (.inl rfl)))),by rw[k.get w hw (by omega) (nj w hw (.inr (.inr rfl)))];exact h.nms,j',hb',fun y hy=>by
  rcases k.foot y hy with e|e
  ·exact hj2 y e
  ·omega⟩
theorem DP.ws(h:DP B H wl b m w s Φ)(t:List UInt8)(hl:s.length+t.length≤2^46) :
  ∃H',RR AQ [.pointer (some ⟨b,0,none⟩),.string (ba t)] H=some (.tuple #[.int .i64 ((ba t).size:Int),.nilIface],H')∧DP B H' wl b m w (s++t) Φ:=by
 obtain⟨j,hj,hj2⟩:=h.bld;obtain⟨H',j',e1,e2,e3⟩:=hj.ws (ba t) (by rw[zkH];exact hl);rw[zkH]at e2;exact⟨H',e1,h.bf hj hj2 e2 e3⟩
theorem DP.wb(h:DP B H wl b m w s Φ)(hl:s.length+1≤2^46) :
  ∃H',RR AB [.pointer (some ⟨b,0,none⟩),.int .u8 10] H=some (.nilIface,H')∧DP B H' wl b m w (s++[10]) Φ:=by
 obtain⟨j,hj,hj2⟩:=h.bld;obtain⟨H',j',e1,e2,e3⟩:=hj.wb 10 hl;exact⟨H',e1,h.bf hj hj2 e2 e3⟩
theorem DP.tabs(h:DP B H wl b m w s Φ)(hT:Tabs B)(hn:PP.globals.size≤B.next):Tabs H:=hT.old hn h.old
theorem DP.put(h:DP B H wl b m w s Φ)(hT:Tabs B)(hn:PP.globals.size≤B.next){x:Int}(h0:-9223372036854775808≤x)(h1:x≤9223372036854775807)(hl:s.length+100≤2^46) :
  ∃H',RR Az [.int .i64 x,.pointer (some ⟨b,0,none⟩)] H=some (.tuple #[],H')∧DP B H' wl b m w (s++sp (itoa x)) Φ:=by
 have il:=zdj h0 h1;obtain⟨H',e1,e2⟩:=h.ws (sp (itoa x)) (by unfold sp;rw[length_cons];omega);refine⟨H',(zgC E0 rfl _ _ _).trans ?_,e2⟩;unfold zdC;rw[zac (c_itoa (h.tabs hT hn) h0 h1),sp_ba (itoa x) (by omega),zac e1]
end
def zln:ByteArray:=⟨#[45,32,116,114,117,101,32,102,97,108,115,101,32,99,111,110,115,116,32,118,97,114,32,110,111,116,32,97,110,100,32,111,114,32,120,111,114,32,101,113,32,117,108,116,32,117,108,101,32,115,108,116,32,115,108,101,32,105,116,101,32,99,111,109,32,110,101,103,32,98,97,110,100,32,98,111,114,32,98,120,111,114,32,97,100,100,32,115,117,98,32,109,117,108,32,100,105,118,32,114,101,109,32,115,104,108,32,115,104,114,32,115,97,114,32,114,111,108,32,114,111,114,32,99,97,116,32,115,108,105,99,101,32,122,101,120,116,32,115,101,120,116]⟩
def zbQ:List (List UInt8):=[[45],[116,114,117,101],[102,97,108,115,101],[99,111,110,115,116],[118,97,114],[110,111,116],[97,110,100],[111,114],[120,111,114],[101,113],[117,108,116],[117,108,101],[115,108,116],[115,108,101],[105,116,101],[99,111,109],[110,101,103],[98,97,110,100],[98,111,114],[98,120,111,114],[97,100,100],[115,117,98],[109,117,108],[100,105,118],[114,101,109],[115,104,108],[115,104,114],[115,97,114],[114,111,108],[114,111,114],[99,97,116],[115,108,105,99,101],[122,101,120,116],[115,101,120,116]]
theorem names_eq:Go.Lib.fields zln.data.toList=zbQ:=by kernel_rfl
theorem names_ok:zln.size<4294967281∧zln.data.toList.all (fun b=>decide (b.toNat<128))=true:=by constructor<;>decide +kernel
def zfs:List Value:=zbQ.map fun l=>Value.string (ba l)
theorem c_names{H:Hp}(hT:Tabs H):RR BS [] H=some (.slice (some ⟨H.next,0,some 1⟩) 34 34,H.new (.cells zfs true)):=by
 obtain⟨cs,e,fz,hg,ht⟩:=hT.spc;have hx:RR BL [.string zln] H=some (.slice (some ⟨H.next,0,some 1⟩) 34 34,H.new (.cells zfs true)):=by refine(zl6 (O:=orc) Go.Proofs.Tryz.func160 (by kernel_rfl) (by kernel_rfl) (show E0 BL=some zkn from rfl) _ H).trans ?_;show zkn [.string zln] H=_;unfold zkn;dsimp only;rw[if_pos names_ok,hg];dsimp only;rw[ht,names_eq];rfl
 refine(znc E0 rfl _).trans ?_;have:zii RR H=zab RR BL [.string zln] H fun r1 H2=>some (r1,H2):=rfl;rw[this,zac hx]
theorem zpp(op:Int):(word zbQ op).length≤24:=by
 unfold word;have h:zbQ.all (fun l=>decide (l.length≤24))=true:=by decide
 rw[getD_eq_getElem?_getD];cases q:zbQ[op.toNat]? with
 |none=>simp
 |some l=>exact of_decide_eq_true (all_eq_true.1 h l (mem_of_getElem? q))
theorem word_at{op:Int}(h:1≤op∧op≤33):zfs[op.toNat]?=some (.string (ba (word zbQ op))):=by
 have hl:zbQ.length=34:=rfl;have hlt:op.toNat<zbQ.length:=by omega
 unfold zfs word;rw[List.getElem?_map,getD_eq_getElem?_getD,List.getElem?_eq_getElem hlt];rfl
theorem zmJ{Φ:Int→Int}{n:Nd}(hn:zpj n)(hΦ:∀t,0≤Φ t∧Φ t≤2^42):∀(cs:List UInt8) (k:Nat),(act Φ n cs k).length≤30*cs.length
 |[],k=>Nat.zero_le _
 |c::r,k=>by
  have h1:=zmJ hn hΦ r k;have h2:=zmJ hn hΦ r (k+1);have a1:=hΦ ([n.a,n.b,n.c].getD k 0);have a2:=zdj (n:=Φ ([n.a,n.b,n.c].getD k 0)) (by omega) (by omega);have a3:=zpY (x:=n.num.toNat) (by have:=hn.num;omega);have a4:=zdj (n:=n.w) (by have:=hn.w;omega) (by have:=hn.w;omega);have a5:=hn.name;unfold act sp;rw[length_cons];split
  ·simp only[cons_append,length_cons,length_append];omega
  ·split
   ·simp only[cons_append,length_cons,length_append];omega
   ·split
    ·simp only[cons_append,length_cons,length_append];omega
    ·split
     ·simp only[cons_append,length_cons,length_append];omega
     ·omega
theorem fl_len(op:Int):(fl op).length≤3:=by
 have:=zhi op;unfold fl
 repeat' split
 all_goals first|decide | (rw[length_replicate];omega)
section
variable {B:Hp}{b m w:Nat}(hT:Tabs B)(hn:PP.globals.size≤B.next)
include hT hn
theorem loopP{n:Nd}{Φ:Int→Int}(hΦ:∀t,0≤Φ t∧Φ t≤2^42):∀(k i:Nat) (H:Hp) (s:List UInt8),((i+k:Nat):Int)=zax n.op→DP B H zfs b m w s Φ→s.length+100*(k+1)≤2^46 →
  ∃H',zbi (zbk RR (.map (some m)) (.int .i64 (zax n.op)) (.pointer (some ⟨b,0,none⟩)) n.cells) [.int .i64 (i:Int)] H=some (.exit 3,[.int .i64 (zax n.op)],H')∧DP B H' zfs b m w (s++act Φ n (List.replicate k 112) i) Φ
 |0,i,H,s,hi,h,hl=>by
  refine⟨H,?_,by rw[replicate_zero];unfold act;rw[append_nil];exact h⟩;rw[Nat.add_zero]at hi;rw[zaW,hi];have:zbk RR (.map (some m)) (.int .i64 (zax n.op)) (.pointer (some ⟨b,0,none⟩)) n.cells [.int .i64 (zax n.op)] H=some (.exit 3,[.int .i64 (zax n.op)],H):=by unfold zbk;simp only[zbL,zag,zam,qg0,Int.lt_irrefl,decide_false]
  rw[this];rfl
 |k+1,i,H,s,hi,h,hl=>by
  have hp:=zhi n.op;have hi3:i<3:=by omega
  have hx:[n.a,n.b,n.c][i]?=some ([n.a,n.b,n.c].getD i 0):=by rw[getD_eq_getElem?_getD,List.getElem?_eq_getElem (by simpa using hi3)];rfl
  generalize hq:[n.a,n.b,n.c].getD i 0=x at hx;have hb:=hΦ x;obtain⟨H1,e1,h1⟩:=h.put hT hn (x:=Φ x) (by omega) (by omega) (by omega);have hil:=zdj (n:=Φ x) (by omega) (by omega);obtain⟨H',e2,h2⟩:=loopP (n:=n) hΦ k (i+1) H1 (s++sp (itoa (Φ x))) (by omega) h1 (by unfold sp;rw[length_append,length_cons];omega);refine⟨H',?_,?_⟩
  ·rw[zaW];have w1:IntKind.i64.wrap ((i:Int)+1)=((i+1:Nat):Int):=zaV (by omega) (by omega);have q:(i:Int)<zax n.op:=by omega
   have:zbk RR (.map (some m)) (.int .i64 (zax n.op)) (.pointer (some ⟨b,0,none⟩)) n.cells [.int .i64 (i:Int)] H=some (.next,[.int .i64 ((i+1:Nat):Int)],H1):=by unfold zbk;simp only[zbL,zag,zau,qg0,q,decide_true,za9,zcl,zny,ziV,arr3 hx,h.mp.look ikI,zac e1,zbM,w1]
   rw[this];exact e2
  ·have ea:act Φ n (List.replicate (k+1) 112) i=sp (itoa (Φ x))++act Φ n (List.replicate k 112) (i+1):=by rw[replicate_succ];show (if (112:UInt8)=112 then _ else _)=_;rw[if_pos rfl,hq]
   rw[ea,←append_assoc];exact h2
end
end Go.AM
namespace Go.AM
open Go
inductive Fld where
 |p|n|w|s
 deriving DecidableEq
section
end
def preF(op:Int):List Fld:=if op=3 then [.w,.n] else if op=4 then [.s,.w] else []
def postF(op:Int):List Fld:=if op=31 then [.n,.w] else if op=32∨op=33 then [.w] else []
def ziT(n:Nd):Prop:=0≤n.num∧n.num<18446744073709551616
def zmy(op:Int):List Fld:=preF op++(List.replicate (zax op).toNat .p++postF op)
section
end
section
end
section
end
theorem mk_le{lim:Int}{L:List Nd}{K:List (ByteArray×Int)}(n:Nd):(mkR lim L K n).2.2.1.length≤L.length+1:=by
 by_cases h0:(mkR lim L K n).2.1=0
 ·obtain⟨_,⟨q,_,e⟩|⟨_,_,e⟩⟩:=znB h0<;>rw[e]<;>simp
 ·rw[mk_no h0];simp
section
end
end Go.AM
namespace Go.AM
open List Go
theorem zho{α:Type}(n:Nd)(k:Value→Option α):zaf 1 false n.cells 5 k=k (.int .u64 n.num):=zb4 _ 5 _ rfl k
theorem ncell6{α:Type}(n:Nd)(k:Value→Option α):zaf 1 false n.cells 6 k=k (.string n.name):=zb4 _ 6 _ rfl k
theorem small_all:(List.range 65).all (fun x=>decide (numT x=itoa (x:Int)))=true:=by decide +kernel
theorem small_num{x:Int}(h0:0≤x)(h1:x≤64):numT x.toNat=itoa x:=by have:=of_decide_eq_true (all_eq_true.1 small_all x.toNat (mem_range.2 (by omega)));rw[this,Int.toNat_of_nonneg h0]
theorem zc7(Φ:Int→Int)(n:Nd)(k:Nat):act Φ n [] k=[]:=rfl
theorem zra(Φ:Int→Int)(n:Nd)(r:List UInt8)(k:Nat):act Φ n (112::r) k=sp (itoa (Φ ([n.a,n.b,n.c].getD k 0)))++act Φ n r (k+1):=rfl
theorem act_n(Φ:Int→Int)(n:Nd)(r:List UInt8)(k:Nat):act Φ n (110::r) k=sp (numT n.num.toNat)++act Φ n r k:=rfl
theorem act_w(Φ:Int→Int)(n:Nd)(r:List UInt8)(k:Nat):act Φ n (119::r) k=sp (itoa n.w)++act Φ n r k:=rfl
theorem act_s(Φ:Int→Int)(n:Nd)(r:List UInt8)(k:Nat):act Φ n (115::r) k=sp n.name.data.toList++act Φ n r k:=rfl
section
variable {B:Hp}{b m w p f g:Nat}{lim:Int}{L:List Nd}{K:List (ByteArray×Int)}{sl:Value}(hT:Tabs B)(hn:PP.globals.size≤B.next)(hst:StF B p lim L K sl f g)(hL:L.length*64≤2^46)(hN:∀m∈L,zpj m)
include hT hn hst hL hN
theorem stepL{out:List Nat}{v:Value}(hv:Rdb B 1 v out.length (ints out))(hout:∀t∈out,1≤t∧t≤L.length)(hol:out.length≤2^41){i:Nat}{t:Nat}(hi:out[i]?=some t){H:Hp}{s:List UInt8}{Φ:Int→Int}(h:DP B H zfs b m w s Φ)
  (hΦ:∀t,0≤Φ t∧Φ t≤2^42) (hl:s.length+1000≤2^46) :
  ∃H',zaQ RR (.pointer (some ⟨p,0,none⟩)) v (.map (some m)) (.int .i64 (out.length:Int)) (.slice (some ⟨w,0,some 1⟩) 34 34) (.pointer (some ⟨b,0,none⟩)) [.int .i64 (i:Int)] H=some (.next,[.int .i64 ((i+1:Nat):Int)],H') ∧
   DP B H' zfs b m w (s++line zbQ (upF Φ t ((i+1:Nat):Int)) i (zaJ L t)) (upF Φ t ((i+1:Nat):Int))∧(∀x,0≤upF Φ t ((i+1:Nat):Int) x∧upF Φ t ((i+1:Nat):Int) x≤2^42):=by
 have hlt:i<out.length:=(List.getElem?_eq_some_iff.1 hi).1;obtain⟨t1,t2⟩:=hout t (mem_of_getElem? hi);have hΨ:∀x,0≤upF Φ t ((i+1:Nat):Int) x∧upF Φ t ((i+1:Nat):Int) x≤2^42:=fun x=>by
  unfold upF;split
  ·omega
  ·exact hΦ x
 obtain⟨H1,u1,h1⟩:=h.upd (t:Int) ((i+1:Nat):Int);generalize hψ:upF Φ t ((i+1:Nat):Int)=Ψ at h1 hΨ;have hvH:Rdb H 1 v out.length (ints out):=hv.keep' (fun j hj=>h.old j (hv.lt hj)) h.next;have hvI:Rdb H 1 v (out.map fun (t:Nat)=>(t:Int)).length (zb1 (out.map fun (t:Nat)=>(t:Int))):=by rw[length_map,←zcK];exact hvH
 obtain⟨y,x1,x2⟩:=hvI.int (i:=i) (t:=(t:Int)) (by rw[List.getElem?_map,hi];rfl);have q:(i:Int)<(out.length:Int):=by omega
 have w1:IntKind.i64.wrap ((i:Int)+1)=((i+1:Nat):Int):=zaV (by omega) (by omega);have w2:IntKind.i64.wrap ((t:Int)-1)=((t-1:Nat):Int):=by rw[zaV (by omega) (by omega)];omega
 have hst1:StF H1 p lim L K sl f g:=hst.keep (fun i hi=>h1.old i (hst.foot_lt hi)) h1.next;obtain⟨n,hnn⟩:∃n,L[t-1]?=some n:=⟨_,List.getElem?_eq_getElem (by omega)⟩
 have hnd:zaJ L t=n:=by unfold zaJ;rw[hnn];rfl
 have hNn:=hN n (mem_of_getElem? hnn);obtain⟨ho1,ho2⟩:=hNn.op;obtain⟨sl',hsl,hix⟩:=hst1.st.all.ix (i:=t-1) (by omega) (α:=Outc);have ci:=c_itoa (h1.tabs hT hn) (n:=((i+1:Nat):Int)) (by omega) (by omega);have il:=zdj (n:=((i+1:Nat):Int)) (by omega) (by omega);have wl:=zpp n.op;have cat1:∀(k:Value→Option Outc),pBin PP .add Ae (.string (ba (Go.Lib.itoa ((i+1:Nat):Int)))) (.string ⟨#[32]⟩) k=k (.string (ba (itoa ((i+1:Nat):Int)++[32]))):=fun k=>zpB _ (itoa ((i+1:Nat):Int)) [32] (by rw[length_singleton];omega) k;have cat2:∀(k:Value→Option Outc),pBin PP .add Ae (.string (ba (itoa ((i+1:Nat):Int)++[32]))) (.string (ba (word zbQ n.op))) k=k (.string (ba (itoa ((i+1:Nat):Int)++[32]++word zbQ n.op))):=fun k=>zpB _ _ _ (by rw[length_append,length_singleton];omega) k;have ixw:∀(k:Value→Option Outc),pIdx 1 (.slice (some ⟨w,0,some 1⟩) 34 34) (.int .i64 n.op) k=k (.pointer (some ⟨w,n.op.toNat,none⟩)):=fun k=>by
  have:(.int .i64 n.op:Value)=.int .i64 ((n.op.toNat:Nat):Int):=by rw[Int.toNat_of_nonneg (by omega)]
  rw[this,zmv (by omega),Nat.zero_add]
 have ldw:∀(k:Value→Option Outc),zaH 1 false H1 (.pointer (some ⟨w,n.op.toNat,none⟩)) k=k (.string (ba (word zbQ n.op))):=fun k=>zeh h1.nms _ _ (word_at hNn.op) k;have hck:Hp.rdP H1 (.pointer (some ⟨w,n.op.toNat,none⟩)) 1 false=some (.string (ba (word zbQ n.op))):=by unfold Hp.rdP Hp.rd;dsimp only;rw[h1.nms];exact word_at hNn.op
 obtain⟨H2,e1,h2⟩:=h1.ws (itoa ((i+1:Nat):Int)++[32]++word zbQ n.op) (by rw[length_append,length_append,length_singleton];omega);have hpn:=zhi n.op;have hnum:=hNn.num;have hw:=hNn.w;have hnm:=hNn.name;have iw:=zdj (n:=n.w) (by omega) (by omega);have hnt:=zpY (x:=n.num.toNat) (by omega);have hl2:(s++(itoa ((i+1:Nat):Int)++[32]++word zbQ n.op)).length≤s.length+46:=by rw[length_append,length_append,length_append,length_singleton];omega
 have hline:∀r:List UInt8,act Ψ n (fl n.op) 0=r→s++line zbQ Ψ i n=(s++(itoa ((i+1:Nat):Int)++[32]++word zbQ n.op))++r++[10]:=fun r hr=>by unfold line;rw[hr];simp only[append_assoc]
 rw[hnd];generalize (s++(itoa ((i+1:Nat):Int)++[32]++word zbQ n.op))=s2 at h2 hl2 hline;have text:∀{Hx:Hp} {sx:List UInt8},DP B Hx zfs b m w sx Ψ→∃H',RR Bq [.int .u64 n.num] Hx=some (.string (ba (numT n.num.toNat)),H')∧DP B H' zfs b m w sx Ψ:=fun hx=>by obtain⟨H',a1,a2⟩:=c_text (hx.tabs hT hn) (Nat.le_trans hn hx.next) (x:=n.num.toNat) (by omega);rw[Int.toNat_of_nonneg hnum.1]at a1;exact⟨H',a1,hx.new a2⟩
 have spl:∀l:List UInt8,(sp l).length=l.length+1:=fun l=>rfl;by_cases h3:n.op=3
 ·have d3:decide (n.op=3)=true:=decide_eq_true h3;have d31:decide (n.op=31)=false:=decide_eq_false (by omega);have d32:decide (n.op=32)=false:=decide_eq_false (by omega);have d33:decide (n.op=33)=false:=decide_eq_false (by omega);obtain⟨H3,e2,g3⟩:=h2.put hT hn (x:=n.w) (by omega) (by omega) (by omega);obtain⟨H4,e3,g4⟩:=text g3;obtain⟨H5,e4,g5⟩:=g4.ws (sp (numT n.num.toNat)) (by rw[length_append,spl,spl];omega);have sp1:=sp_ba (numT n.num.toNat) (by omega) (α:=Outc);have hp0:zax n.op=0:=by rw[h3];decide
  obtain⟨H6,lp,g6⟩:=loopP hT hn (n:=n) hΨ 0 0 H5 _ (by rw[hp0];rfl) g5 (by simp only[length_append,spl];omega);rw[show ((0:Nat):Int)=0 from rfl]at lp;obtain⟨H7,e5,g7⟩:=g6.wb (by rw[replicate_zero,zc7,append_nil];simp only[length_append,spl];omega);refine⟨H7,?_,?_,hΨ⟩
  ·unfold zaQ;simp only[qg0,zbL,q,decide_true,zag,zau,zam,x1,x2,zbM,w1,u1,zbw,zaY,Nat.zero_add,hst1.st.l1,zd8,w2,hix,ld7 hsl hnn,spl7,zac ci,cat1,zba,ixw,ldw,zjp hck,cat2,zac e1,zaD,d3,zeZ,zac e2,zho,zac e3,sp1,zac e4,zay,zaR,zac (c29 _ _),lp,zb3,zbf,d31,d32,d33,zac e5]
  ·rw[hline (sp (itoa n.w)++sp (numT n.num.toNat)) (by unfold fl;rw[if_neg (by omega),if_pos h3,act_w,act_n,zc7,append_nil])];rw[replicate_zero,zc7,append_nil,append_assoc s2]at g7;exact g7
 have d3:decide (n.op=3)=false:=decide_eq_false h3;by_cases h4:n.op=4
 ·have d4:decide (n.op=4)=true:=decide_eq_true h4;have d31:decide (n.op=31)=false:=decide_eq_false (by omega);have d32:decide (n.op=32)=false:=decide_eq_false (by omega);have d33:decide (n.op=33)=false:=decide_eq_false (by omega);obtain⟨H3,e2,g3⟩:=h2.ws (sp n.name.data.toList) (by rw[spl];omega);obtain⟨H4,e3,g4⟩:=g3.put hT hn (x:=n.w) (by omega) (by omega) (by rw[length_append,spl];omega);have sp1:∀(k:Value→Option Outc),pBin PP .add Ae (.string ⟨#[32]⟩) (.string n.name) k=k (.string (ba (sp n.name.data.toList))):=fun k=>by have:=sp_ba n.name.data.toList (by omega) k;rw[show ba n.name.data.toList=n.name from (zlJ rfl).symm]at this;exact this
  have hp0:zax n.op=0:=by rw[h4];decide
  obtain⟨H6,lp,g6⟩:=loopP hT hn (n:=n) hΨ 0 0 H4 _ (by rw[hp0];rfl) g4 (by simp only[length_append,spl];omega);rw[show ((0:Nat):Int)=0 from rfl]at lp;obtain⟨H7,e5,g7⟩:=g6.wb (by rw[replicate_zero,zc7,append_nil];simp only[length_append,spl];omega);refine⟨H7,?_,?_,hΨ⟩
  ·unfold zaQ;simp only[qg0,zbL,q,decide_true,zag,zau,zam,x1,x2,zbM,w1,u1,zbw,zaY,Nat.zero_add,hst1.st.l1,zd8,w2,hix,ld7 hsl hnn,spl7,zac ci,cat1,zba,ixw,ldw,zjp hck,cat2,zac e1,zaD,d3,d4,ncell6,sp1,zac e2,zeZ,zac e3,zay,zaR,zac (c29 _ _),lp,zb3,zbf,d31,d32,d33,zac e5]
  ·rw[hline (sp n.name.data.toList++sp (itoa n.w)) (by unfold fl;rw[if_neg (by omega),if_neg (by omega),if_pos h4,act_s,act_w,zc7,append_nil])];rw[replicate_zero,zc7,append_nil,append_assoc s2]at g7;exact g7
 have d4:decide (n.op=4)=false:=decide_eq_false h4;obtain⟨H6,lp,g6⟩:=loopP hT hn (n:=n) hΨ (zax n.op).toNat 0 H2 _ (by omega) h2 (by omega);rw[show ((0:Nat):Int)=0 from rfl]at lp;have al:=zmJ hNn hΨ (List.replicate (zax n.op).toNat 112) 0;rw[length_replicate]at al;by_cases h31:n.op=31
 ·have d31:decide (n.op=31)=true:=decide_eq_true h31;have hs:=hNn.ext h31;have cv:∀(k:Value→Option Outc),zav .i64 (.int .u64 n.num) k=k (.int .i64 n.num):=fun k=>by rw[zdt,zaV (by omega) (by omega)]
  obtain⟨H7,e2,g7⟩:=g6.put hT hn (x:=n.num) (by omega) (by omega) (by rw[length_append];omega);have inu:=zdj (n:=n.num) (by omega) (by omega);obtain⟨H8,e3,g8⟩:=g7.put hT hn (x:=n.w) (by omega) (by omega) (by simp only[length_append,spl];omega);obtain⟨H9,e5,g9⟩:=g8.wb (by simp only[length_append,spl];omega);have hp1:(zax n.op).toNat=1:=by rw[h31];decide
  refine⟨H9,?_,?_,hΨ⟩
  ·unfold zaQ;simp only[qg0,zbL,q,decide_true,zag,zau,zam,x1,x2,zbM,w1,u1,zbw,zaY,Nat.zero_add,hst1.st.l1,zd8,w2,hix,ld7 hsl hnn,spl7,zac ci,cat1,zba,ixw,ldw,zjp hck,cat2,zac e1,zaD,d3,d4,zay,zaR,zac (c29 _ _),lp,zb3,zbf,d31,zho,cv,zac e2,zeZ,zac e3,zac e5]
  ·rw[hline (sp (itoa (Ψ ([n.a,n.b,n.c].getD 0 0)))++(sp (itoa n.num)++sp (itoa n.w))) (by unfold fl;rw[if_neg (by omega),if_neg (by omega),if_neg (by omega),if_pos h31,zra,act_n,act_w,zc7,append_nil,small_num hnum.1 hs])];rw[hp1,show List.replicate 1 (112:UInt8)=[112] from rfl,zra,zc7,append_nil,append_assoc (s2++_),append_assoc s2]at g9;exact g9
 have d31:decide (n.op=31)=false:=decide_eq_false h31;by_cases h32:n.op=32
 ·have d32:decide (n.op=32)=true:=decide_eq_true h32;obtain⟨H8,e3,g8⟩:=g6.put hT hn (x:=n.w) (by omega) (by omega) (by simp only[length_append,spl];omega);obtain⟨H9,e5,g9⟩:=g8.wb (by simp only[length_append,spl];omega);have hp1:(zax n.op).toNat=1:=by rw[h32];decide
  refine⟨H9,?_,?_,hΨ⟩
  ·unfold zaQ;simp only[qg0,zbL,q,decide_true,zag,zau,zam,x1,x2,zbM,w1,u1,zbw,zaY,Nat.zero_add,hst1.st.l1,zd8,w2,hix,ld7 hsl hnn,spl7,zac ci,cat1,zba,ixw,ldw,zjp hck,cat2,zac e1,zaD,d3,d4,zay,zaR,zac (c29 _ _),lp,zb3,zbf,d31,d32,zeZ,zac e3,zac e5]
  ·rw[hline (sp (itoa (Ψ ([n.a,n.b,n.c].getD 0 0)))++sp (itoa n.w)) (by unfold fl;rw[if_neg (by omega),if_neg (by omega),if_neg (by omega),if_neg (by omega),if_pos (by omega),zra,act_w,zc7,append_nil])];rw[hp1,show List.replicate 1 (112:UInt8)=[112] from rfl,zra,zc7,append_nil,append_assoc s2]at g9;exact g9
 have d32:decide (n.op=32)=false:=decide_eq_false h32;by_cases h33:n.op=33
 ·have d33:decide (n.op=33)=true:=decide_eq_true h33;obtain⟨H8,e3,g8⟩:=g6.put hT hn (x:=n.w) (by omega) (by omega) (by simp only[length_append,spl];omega);obtain⟨H9,e5,g9⟩:=g8.wb (by simp only[length_append,spl];omega);have hp1:(zax n.op).toNat=1:=by rw[h33];decide
  refine⟨H9,?_,?_,hΨ⟩
  ·unfold zaQ;simp only[qg0,zbL,q,decide_true,zag,zau,zam,x1,x2,zbM,w1,u1,zbw,zaY,Nat.zero_add,hst1.st.l1,zd8,w2,hix,ld7 hsl hnn,spl7,zac ci,cat1,zba,ixw,ldw,zjp hck,cat2,zac e1,zaD,d3,d4,zay,zaR,zac (c29 _ _),lp,zb3,zbf,d31,d32,d33,zeZ,zac e3,zac e5]
  ·rw[hline (sp (itoa (Ψ ([n.a,n.b,n.c].getD 0 0)))++sp (itoa n.w)) (by unfold fl;rw[if_neg (by omega),if_neg (by omega),if_neg (by omega),if_neg (by omega),if_pos (by omega),zra,act_w,zc7,append_nil])];rw[hp1,show List.replicate 1 (112:UInt8)=[112] from rfl,zra,zc7,append_nil,append_assoc s2]at g9;exact g9
 have d33:decide (n.op=33)=false:=decide_eq_false h33;obtain⟨H9,e5,g9⟩:=g6.wb (by simp only[length_append];omega);refine⟨H9,?_,?_,hΨ⟩
 ·unfold zaQ;simp only[qg0,zbL,q,decide_true,zag,zau,zam,x1,x2,zbM,w1,u1,zbw,zaY,Nat.zero_add,hst1.st.l1,zd8,w2,hix,ld7 hsl hnn,spl7,zac ci,cat1,zba,ixw,ldw,zjp hck,cat2,zac e1,zaD,d3,d4,zay,zaR,zac (c29 _ _),lp,zb3,zbf,d31,d32,d33,zac e5]
 ·have hfl:fl n.op=List.replicate (zax n.op).toNat 112:=by
   unfold fl;by_cases h2:n.op≤2
   ·have:zax n.op=0:=by rcases (show n.op=1∨n.op=2 by omega) with q|q<;>rw[q]<;>decide
    rw[if_pos h2,this];rfl
   ·rw[if_neg h2,if_neg h3,if_neg h4,if_neg h31,if_neg (by omega)]
  rw[hline (act Ψ n (List.replicate (zax n.op).toNat 112) 0) (by rw[hfl])];exact g9
end
end Go.AM
