/- Part of the proof of EvalValuesUptoCardSaid: see the last file.  -/
import Derived.Laws.MathBits
import Derived.Lib.TrailingZeros
import Derived.Lib.Mul64
import Derived.KernelRfl
import Derived.Test.YtcbmccpkhagckaaGreatDoorT1
import Derived.Test.YtcbmccpkhagckaaGreatDoorT3
import Derived.Test.YtcbmccpkhagckaaGreatDoorT4
set_option linter.unusedSimpArgs false
set_option linter.unusedVariables false
set_option linter.unusedSectionVars false
set_option maxRecDepth 100000
namespace Go.AM.N14
open Go Go.AM
theorem zh9{n:Nat}(hn:n≤64)(x:W64):(x&&&msk n).toNat=x.toNat%2^n:=by rw[BitVec.toNat_and,zmD n hn,Nat.and_two_pow_sub_one_eq_mod]
theorem zl7{n:Nat}(h0:1≤n)(hn:n≤64)(x:W64):ziw (n:Int) (x.toNat:Int)=((x&&&msk n).toNat:Int):=by
 unfold ziw;rw[if_neg (by omega),zh9 hn];by_cases h:n=64
 ·subst h;rw[if_pos (by decide),Nat.mod_eq_of_lt x.isLt]
 ·rw[if_neg (by omega),Int.toNat_natCast];simp
theorem zb5{n:Nat}(h0:1≤n)(hn:n≤64)(x:W64)(H:Hp):RR Af [.int .i64 (n:Int),wv x] H=some (wv (x&&&msk n),H):=by have:=c45 (n:Int) (x.toNat:Int) (by omega) (by have:=x.isLt;omega) H;rw[zl7 h0 hn]at this;exact this
theorem zdp{n:Nat}(h0:1≤n)(hn:n≤64)(x:W64)(H:Hp):RR Ak [.int .i64 (n:Int),wv x] H=some (wv (x&&&msk n),H):=by have:=c51 (n:Int) (x.toNat:Int) (by omega) H;rw[zl7 h0 hn]at this;exact this
theorem zdJ{n:Nat}(h0:1≤n)(hn:n≤64)(H:Hp):RR Ar [.int .i64 (n:Int)] H=some (.bool true,H):=by refine(znn E0 rfl _ _).trans ?_;unfold zjc;rw[zbt,bT (by omega),zb0,decide_eq_true (by omega)]
theorem zdI{n:Nat}(h0:1≤n)(hn:n≤64)(H:Hp):RR As [.int .i64 (n:Int)] H=some (.bool true,H):=by refine(zgK E0 rfl _ _).trans ?_;unfold zd0;rw[zbt,bT (by omega),zb0,decide_eq_true (by omega)]
def sg(n:Nat)(x:W64):Int:=(x.setWidth n).toInt
theorem sg_eq{n:Nat}(x:W64):sg n x=if 2*(x.toNat%2^n)<2^n then ((x.toNat%2^n:Nat):Int) else ((x.toNat%2^n:Nat):Int)-((2^n:Nat):Int):=by unfold sg;rw[BitVec.toInt_eq_toNat_cond,BitVec.toNat_setWidth]
theorem zqf{α:Type}(y:W64)(k:Value→Option α):zan .i64 (wv y) k=k (.int .i64 y.toInt):=by show k (.int .i64 (IntKind.i64.wrap (y.toNat:Int)))=_;congr 2;rw[BitVec.toInt_eq_toNat_cond];have:=y.isLt;simp only[IntKind.wrap,IntKind.signed,IntKind.bits];simp;split<;>split<;>omega
theorem i_shr{α:Type}{P:Program}(T:TypeId)(a:Int)(kd:IntKind)(m:Nat)(hm:m≤64)(k:Value→Option α):pBin P .shr T (.int .i64 a) (.int kd (m:Int)) k=k (.int .i64 (a/(2:Int)^m)):=by
 have:binV P .shr T (.int .i64 a) (.int kd (m:Int))=some (.int .i64 (a/(2:Int)^m)):=by show (if (m:Int)<0 then none else some (Value.int .i64 (a.fdiv (2^(min ((m:Int).toNat) 64)))))=_;rw[if_neg (by omega),Int.toNat_natCast,Nat.min_eq_left hm,Int.fdiv_eq_ediv_of_nonneg _ (Int.le_of_lt (Int.pow_pos (by decide)))]
 unfold pBin;rw[this]
theorem sg_shift{n:Nat}(h0:1≤n)(hn:n≤64)(x:W64):(x <<< (64-n)).toInt/(2:Int)^(64-n)=sg n x:=by
 rw[sg_eq,BitVec.toInt_eq_toNat_cond,BitVec.toNat_shiftLeft,Nat.shiftLeft_eq];have e:(2:Nat)^64=2^n*2^(64-n):=by rw[←Nat.pow_add];congr 1;omega
 have e1:x.toNat*2^(64-n)%2^64=x.toNat%2^n*2^(64-n):=by rw[e,Nat.mul_mod_mul_right]
 rw[e1];have hp:0<2^(64-n):=Nat.two_pow_pos _;have ep:((2:Int)^(64-n))=((2^(64-n):Nat):Int):=by push_cast;rfl
 rw[ep];generalize x.toNat%2^n=t;generalize hm:2^(64-n)=m at *;have e2:(2*(t*m)<2^64)↔2*t<2^n:=by rw[e,show 2*(t*m)=2*t*m by rw[Nat.mul_assoc]];exact Nat.mul_lt_mul_right hp
 have hm0:(m:Int)≠0:=by omega
 by_cases h:2*t<2^n
 ·rw[if_pos h,if_pos (e2.2 h)];push_cast;rw[Int.mul_ediv_cancel _ hm0]
 ·rw[if_neg h,if_neg (fun q=>h (e2.1 q)),e];have:((t*m:Nat):Int)-((2^n*m:Nat):Int)=(((t:Nat):Int)-((2^n:Nat):Int))*(m:Int):=by rw[Int.natCast_mul,Int.natCast_mul,Int.sub_mul]
  rw[this,Int.mul_ediv_cancel _ hm0]
theorem zjy{n:Nat}(h0:1≤n)(hn:n≤64)(x:W64)(H:Hp):RR AS [.int .i64 (n:Int),wv x] H=some (.int .i64 (sg n x),H):=by
 refine(zmo E0 rfl _ _ _).trans ?_;unfold zid;have e:IntKind.i64.wrap (64-(n:Int))=((64-n:Nat):Int):=by rw[zaq (by omega) (by omega)];omega
 rw[zaf (zdJ h0 hn H),za9,zac,show (!true)=false from rfl,zau,zbK,e,cu64 _ (by omega),zrn,zqf,i_shr _ _ _ _ (by omega),sg_shift h0 hn]
theorem q_bit{x:W64}{i:Nat}(hi:i<2^60)(H:Hp):RR AV [wv x,.int .i64 (i:Int)] H=some (.int .u64 (if x.getLsbD i then 1 else 0),H):=by
 refine(zhV E0 rfl _ _ _).trans ?_;unfold zeO;rw[cu64 _ (by omega),zrm];have:∀(k:Value→Option (Value×Hp)),pBin PP .rem Ab (wv (x >>> i)) (.int .u64 2) k=k (.int .u64 (if x.getLsbD i then 1 else 0)):=fun k=>by
  unfold wv;rw[zov _ _ _ _ (by decide)];congr 2;rw[Int.tmod_eq_emod_of_nonneg (by omega),BitVec.toNat_ushiftRight];have hb:x.getLsbD i=x.toNat.testBit i:=rfl;rw[hb,Nat.testBit_eq_decide_div_mod_eq,Nat.shiftRight_eq_div_pow];have h2:x.toNat/2^i%2<2:=Nat.mod_lt _ (by decide);by_cases q:x.toNat/2^i%2=1
  ·rw[decide_eq_true q,if_pos rfl];omega
  ·rw[decide_eq_false q,if_neg (by decide)];omega
 rw[this]
theorem sg_bit{n:Nat}(h0:1≤n)(hn:n≤64)(x:W64):sg n x=if (x&&&msk n).getLsbD (n-1)=true then ((x&&&msk n).toNat:Int)-((2^n:Nat):Int) else ((x&&&msk n).toNat:Int):=by
 rw[sg_eq,zh9 hn];have hb:(x&&&msk n).getLsbD (n-1)=(x&&&msk n).toNat.testBit (n-1):=rfl;rw[hb,zh9 hn,Nat.testBit_eq_decide_div_mod_eq];have ht:x.toNat%2^n<2^n:=Nat.mod_lt _ (Nat.two_pow_pos _);generalize x.toNat%2^n=t at *;have e:2^n=2*2^(n-1):=by rw[←Nat.pow_succ'];congr 1;omega
 have hp:0<2^(n-1):=Nat.two_pow_pos _;have hd:t/2^(n-1)<2:=Nat.div_lt_of_lt_mul (by omega);by_cases h:2*t<2^n
 ·have:t/2^(n-1)=0:=Nat.div_eq_of_lt (by omega);rw[if_pos h,this,if_neg (by decide)]
 ·have:t/2^(n-1)=1:=by have:1≤t/2^(n-1):=(Nat.le_div_iff_mul_le hp).2 (by omega);omega
  rw[if_neg h,this,if_pos (by decide)]
theorem zh1{n:Nat}(h0:1≤n)(hn:n≤64)(x:W64)(H:Hp):RR AI [.int .i64 (n:Int),wv x] H=some (.int .i64 (sg n x),H):=by
 refine(zfU E0 rfl _ _ _).trans ?_;unfold zdv;have e:IntKind.i64.wrap ((n:Int)-1)=((n-1:Nat):Int):=by rw[zaq (by omega) (by omega)];omega
 rw[zaf (zdI h0 hn H),za9,zac,show (!true)=false from rfl,zau,zaf (zdp h0 hn x H),zbK,e,zaf (q_bit (by omega) H),zaF,zac,sg_bit h0 hn];have hlt:(x&&&msk n).toNat<2^n:=by rw[zh9 hn];exact Nat.mod_lt _ (Nat.two_pow_pos _)
 by_cases hb:(x&&&msk n).getLsbD (n-1)=true
 ·rw[if_pos hb,if_pos hb,decide_eq_true rfl,zaE,zaV,zac];by_cases h64:n=64
  ·subst h64;rw[decide_eq_false (by decide),zau,zqf,BitVec.toInt_eq_toNat_cond];have hb2:(x&&&msk 64).toNat.testBit 63=true:=hb;rw[Nat.testBit_eq_decide_div_mod_eq,decide_eq_true_eq]at hb2;rw[if_neg (by omega)]
  ·have hlt64:(n:Int)<64:=by omega
   rw[decide_eq_true hlt64,zaE,zqf,cu64 _ (by omega)];have hp:2^n≤2^63:=Nat.pow_le_pow_right (by decide) (by omega);have es:∀(k:Value→Option (Value×Hp)),pBin PP .shl AE (.int .i64 1) (.int .u64 (n:Int)) k=k (.int .i64 (IntKind.i64.wrap ((2^n:Nat):Int))):=fun k=>by rw[s_shl _ _ _ _ _ (by omega),Int.toNat_natCast,Nat.min_eq_left (by show n≤64;omega),Int.one_mul];congr 3
   rw[es,zbK];congr 3;have ei:(x&&&msk n).toInt=((x&&&msk n).toNat:Int):=by rw[BitVec.toInt_eq_toNat_cond,if_pos (by omega)]
   rw[ei];have:∀a b:Int,IntKind.i64.wrap (a-IntKind.i64.wrap b)=IntKind.i64.wrap (a-b):=fun a b=>by simp only[IntKind.wrap,IntKind.signed,IntKind.bits];simp;split<;>split<;>split<;>omega
   rw[this,zaq (by omega) (by omega)]
 ·rw[if_neg hb,if_neg hb,decide_eq_false (by decide),zau,zqf,BitVec.toInt_eq_toNat_cond];have hb2:¬(x&&&msk n).toNat.testBit (n-1)=true:=hb;rw[Nat.testBit_eq_decide_div_mod_eq,decide_eq_true_eq]at hb2;have e2:2^n=2*2^(n-1):=by rw[←Nat.pow_succ'];congr 1;omega
  have hp:0<2^(n-1):=Nat.two_pow_pos _;have hp63:2^(n-1)≤2^63:=Nat.pow_le_pow_right (by decide) (by omega);have hd:(x&&&msk n).toNat/2^(n-1)<2:=Nat.div_lt_of_lt_mul (by omega);have hz:(x&&&msk n).toNat/2^(n-1)=0:=by generalize (x&&&msk n).toNat/2^(n-1)=qq at hd hb2;omega
  have:(x&&&msk n).toNat<2^(n-1):=by
   rcases Nat.lt_or_ge (x&&&msk n).toNat (2^(n-1)) with q|q
   ·exact q
   ·have:=Nat.div_pos q hp;omega
  rw[if_pos (by omega)]
def atM(op:Int)(n k j:Nat):Option Nat:=
 if op=25 then (if k≤j then some (j-k) else none) else if op=26 then (if j+k<n then some (j+k) else none) else if op=27 then some (min (j+k) (n-1)) else if op=28 then some ((j+n-k)%n) else some ((j+k)%n)
def zle(x:W64):Option Nat→Bool
 |some i=>x.getLsbD i
 |none=>false
def ziu(op:Int)(n:Nat)(x:W64)(k:Nat)(v:W64):Prop:=∀j,v.getLsbD j=(decide (j<n)&&zle x (atM op n k j))
theorem ziu.eq{op:Int}{n:Nat}{x:W64}{k:Nat}{v w:W64}(h1:ziu op n x k v)(h2:ziu op n x k w):v=w:=zqy fun j=>by rw[h1 j,h2 j]
theorem bit_wv(c:Bool):Value.int .u64 (if c=true then 1 else 0)=wv (if c=true then 1#64 else 0#64):=by cases c<;>rfl
theorem dbl_bit(v:W64)(c:Bool)(j:Nat):(2#64*v+(if c=true then 1#64 else 0#64)).getLsbD j=(decide (j<64)&&(if j=0 then c else v.getLsbD (j-1))):=by
 have e:2#64*v=v <<< 1:=BitVec.eq_of_toNat_eq (by rw[BitVec.toNat_mul,BitVec.toNat_shiftLeft,Nat.shiftLeft_eq,Nat.mul_comm];rfl);have e2:v <<< 1+(if c=true then 1#64 else 0#64)=v <<< 1|||(if c=true then 1#64 else 0#64):=by
  apply BitVec.add_eq_or_of_and_eq_zero;refine zqy fun i=>?_;rw[BitVec.getLsbD_and,BitVec.getLsbD_shiftLeft];cases c with
  |false=>simp
  |true=>
   simp only[if_true];by_cases hi:i=0
   ·subst hi;simp
   ·have:(1#64).getLsbD i=false:=by rw[BitVec.getLsbD_one];simp[hi]
    rw[this];simp
 rw[e,e2,BitVec.getLsbD_or,BitVec.getLsbD_shiftLeft];by_cases h64:j<64
 ·by_cases hj:j=0
  ·subst hj;cases c<;>simp
  ·have h1:(if c=true then 1#64 else 0#64).getLsbD j=false:=by
    cases c with
    |false=>simp
    |true=>simp only[if_true];rw[BitVec.getLsbD_one];simp[hj]
   rw[h1];have:¬j<1:=by omega
   simp[h64,this,hj]
 ·have h1:(if c=true then 1#64 else 0#64).getLsbD j=false:=BitVec.getLsbD_of_ge _ _ (by omega);rw[h1];simp[h64]
theorem q_step{op:Int}(hop:25≤op∧op≤29){n k i:Nat}(hn:n≤64)(hk:k<n)(hi:i<n)(x v:W64)(H:Hp) :
  zbq RR (.int .i64 op) (.int .i64 (n:Int)) (wv x) (.int .i64 (k:Int)) [wv v,.int .i64 (i:Int)] H=some (.next,[wv (2#64*v+(if zle x (atM op n k i)=true then 1#64 else 0#64)),.int .i64 ((i:Int)-1)],H):=by
 have g0:decide ((i:Int)≥0)=true:=decide_eq_true (by omega);have w1:IntKind.i64.wrap ((i:Int)-1)=(i:Int)-1:=zaq (by omega) (by omega);have two:Value.int .u64 2=wv 2#64:=rfl
 have some_case:∀t:Nat,atM op n k i=some t→t<2^60→(pBin PP .mul Ab (.int .u64 2) (wv v) fun v32=>
   pBin PP .geq Aa (.int .i64 (t:Int)) (.int .i64 0) fun v33=>
   zaa v33 fun b34=>br b34
   (zad RR AV [wv x,.int .i64 (t:Int)] H fun r35 H36=>
   pBin PP .add Ab v32 r35 fun v37=>
   pBin PP .sub Aa (.int .i64 (i:Int)) (.int .i64 1) fun v38=>
   some (Ctl.next,[v37,v38],H36))
   (pBin PP .sub Aa (.int .i64 (i:Int)) (.int .i64 1) fun v39=>
   some (Ctl.next,[v32,v39],H)))=some (.next,[wv (2#64*v+(if zle x (atM op n k i)=true then 1#64 else 0#64)),.int .i64 ((i:Int)-1)],H):=fun t ht hlt=>by
  rw[two,zro,zbt,bT (by omega),zaf (q_bit hlt H),bit_wv,b_add,zbK,w1,ht];rfl
 have none_case:∀z:Int,atM op n k i=none→z<0→(pBin PP .mul Ab (.int .u64 2) (wv v) fun v32=>
   pBin PP .geq Aa (.int .i64 z) (.int .i64 0) fun v33=>
   zaa v33 fun b34=>br b34
   (zad RR AV [wv x,.int .i64 z] H fun r35 H36=>
   pBin PP .add Ab v32 r35 fun v37=>
   pBin PP .sub Aa (.int .i64 (i:Int)) (.int .i64 1) fun v38=>
   some (Ctl.next,[v37,v38],H36))
   (pBin PP .sub Aa (.int .i64 (i:Int)) (.int .i64 1) fun v39=>
   some (Ctl.next,[v32,v39],H)))=some (.next,[wv (2#64*v+(if zle x (atM op n k i)=true then 1#64 else 0#64)),.int .i64 ((i:Int)-1)],H):=fun z ht hlt=>by
  rw[two,zro,zbt,bF (by omega),zbK,w1,ht];show some (Ctl.next,[wv (2#64*v),_],H)=some (Ctl.next,[wv (2#64*v+0#64),_],H);rw[BitVec.add_zero]
 unfold zbq;simp only[qg0,qg1];rw[zbt,zac,g0,zaE,zaF,zac];by_cases h25:op=25
 ·subst h25;rw[decide_eq_true rfl,zaE,zbK,zaq (by omega) (by omega),zal,zaA];simp only[qg0];by_cases hki:k≤i
  ·rw[show (i:Int)-(k:Int)=((i-k:Nat):Int) by omega];exact some_case (i-k) (by unfold atM;rw[if_pos rfl,if_pos hki]) (by omega)
  ·exact none_case _ (by unfold atM;rw[if_pos rfl,if_neg hki]) (by omega)
 rw[decide_eq_false h25,zau,zaF,zac];by_cases h26:op=26
 ·subst h26;rw[decide_eq_true rfl,zaE,zaN,zaq (by omega) (by omega),zbt,zac];by_cases hki:i+k<n
  ·rw[decide_eq_false (by omega),zau,zal,zaA];simp only[qg0];rw[show (i:Int)+(k:Int)=((i+k:Nat):Int) by omega];exact some_case (i+k) (by unfold atM;rw[if_neg (by decide),if_pos rfl,if_pos hki]) (by omega)
  ·rw[decide_eq_true (by omega),zaE,zal,zaA];simp only[qg0];exact none_case _ (by unfold atM;rw[if_neg (by decide),if_pos rfl,if_neg hki]) (by omega)
 rw[decide_eq_false h26,zau,zaF,zac];by_cases h27:op=27
 ·subst h27;rw[decide_eq_true rfl,zaE,zaN,zaq (by omega) (by omega),zbK,zaq (by omega) (by omega)];have hm:∀(f:Value→Option Outc),pMM false [.int .i64 ((i:Int)+(k:Int)),.int .i64 ((n:Int)-1)] f=f (.int .i64 ((min (i+k) (n-1):Nat):Int)):=fun f=>by show f (.int .i64 (if (n:Int)-1<(i:Int)+(k:Int) then (n:Int)-1 else (i:Int)+(k:Int)))=_;congr 2;split<;>omega
  rw[hm,zal,zaA];simp only[qg0];exact some_case _ (by unfold atM;rw[if_neg (by decide),if_neg (by decide),if_pos rfl]) (by omega)
 rw[decide_eq_false h27,zau,zaF,zac];by_cases h28:op=28
 ·subst h28;rw[decide_eq_true rfl,zaE,zbK,zaq (by omega) (by omega),zaN,zaq (by omega) (by omega),zov _ _ _ _ (by omega),zal,zaA];simp only[qg0];have e:((i:Int)-(k:Int)+(n:Int)).tmod (n:Int)=(((i+n-k)%n:Nat):Int):=by rw[show (i:Int)-(k:Int)+(n:Int)=((i+n-k:Nat):Int) by omega];rfl
  rw[e];have hlt:(i+n-k)%n<n:=Nat.mod_lt _ (by omega);exact some_case _ (by unfold atM;rw[if_neg (by decide),if_neg (by decide),if_neg (by decide),if_pos rfl]) (by omega)
 rw[decide_eq_false h28,zau,eT (by omega),zaN,zaq (by omega) (by omega),zov _ _ _ _ (by omega),zal,zaA];simp only[qg0];have e:((i:Int)+(k:Int)).tmod (n:Int)=(((i+k)%n:Nat):Int):=by rw[show (i:Int)+(k:Int)=((i+k:Nat):Int) by omega];rfl
 rw[e];have hlt:(i+k)%n<n:=Nat.mod_lt _ (by omega);exact some_case _ (by unfold atM;rw[if_neg h25,if_neg h26,if_neg h27,if_neg h28]) (by omega)
theorem q_loop{op:Int}(hop:25≤op∧op≤29){n k:Nat}(hn:n≤64)(hk:k<n)(x:W64)(H:Hp):∀(m:Nat) (v:W64),m≤n→(∀j,v.getLsbD j=(decide (j+m<n)&&zle x (atM op n k (j+m)))) →
  ∃v':W64,ziu op n x k v'∧zas (zbq RR (.int .i64 op) (.int .i64 (n:Int)) (wv x) (.int .i64 (k:Int))) [wv v,.int .i64 ((m:Int)-1)] H=some (.exit 0,[wv v',.int .i64 (-1)],H)
 |0,v,hm,hv=>by
  refine⟨v,fun j=>by rw[hv j];rfl,?_⟩;rw[zai];have:zbq RR (.int .i64 op) (.int .i64 (n:Int)) (wv x) (.int .i64 (k:Int)) [wv v,.int .i64 (((0:Nat):Int)-1)] H=some (.exit 0,[wv v,.int .i64 (-1)],H):=by unfold zbq;simp only[qg0,qg1];rw[zbt,bF (by decide)];rfl
  rw[this];rfl
 |m+1,v,hm,hv=>by
  obtain⟨v',h1,h2⟩:=q_loop hop hn hk x H m (2#64*v+(if zle x (atM op n k m)=true then 1#64 else 0#64)) (by omega) (fun j=>by
   rw[dbl_bit];by_cases hj:j=0
   ·subst hj;rw[if_pos rfl,Nat.zero_add,decide_eq_true (by decide:0<64),decide_eq_true (show m<n by omega)]
   ·rw[if_neg hj,hv (j-1),show j-1+(m+1)=j+m by omega];by_cases h64:j<64
    ·rw[decide_eq_true h64,Bool.true_and]
    ·rw[decide_eq_false h64,decide_eq_false (show ¬j+m<n by omega)];rfl)
  refine⟨v',h1,?_⟩;rw[zai];have e:((m+1:Nat):Int)-1=((m:Nat):Int):=by omega
  rw[e,q_step hop hn hk (show m<n by omega) x v H];exact h2
theorem q_moved{op:Int}(hop:25≤op∧op≤29){n k:Nat}(hn:n≤64)(hk:k<n)(x:W64)(H:Hp):∃v:W64,ziu op n x k v∧RR A8 [.int .i64 op,.int .i64 (n:Int),wv x,.int .i64 (k:Int)] H=some (wv v,H):=by have hr:=(zgH E0 rfl (.int .i64 op) (.int .i64 (n:Int)) (wv x) (.int .i64 (k:Int)) H).trans (zgR _ _ _ _ _ _);obtain⟨v,h1,h2⟩:=q_loop hop hn hk x H n 0#64 (Nat.le_refl _) (fun j=>by rw[decide_eq_false (by omega)];simp);refine⟨v,h1,hr.trans ?_⟩;rw[zbK,zaq (by omega) (by omega),show Value.int .u64 0=wv 0#64 from rfl,h2,zal,za0,zaz];rfl
theorem zoS{n k:Nat}(h0:1≤n)(hn:n≤64)(x:W64):BitVec.ofInt 64 (sg n x/(2:Int)^k)=((x.setWidth n).signExtend 64).sshiftRight k:=by
 have e1:((x.setWidth n).signExtend 64).toInt=sg n x:=by rw[BitVec.toInt_signExtend_of_le hn];rfl
 have e2:(((x.setWidth n).signExtend 64).sshiftRight k).toInt=sg n x/(2:Int)^k:=by rw[BitVec.toInt_sshiftRight,e1,Int.shiftRight_eq_div_pow];norm_cast
 rw[←e2,BitVec.ofInt_toInt]
theorem sar_bits{n k:Nat}(h0:1≤n)(hn:n≤64)(hk:k<n)(x:W64):ziu 27 n x k (((x.setWidth n).signExtend 64).sshiftRight k&&&msk n):=fun j=>by
 rw[BitVec.getLsbD_and,ziT,BitVec.getLsbD_sshiftRight];have hat:atM 27 n k j=some (min (j+k) (n-1)):=by unfold atM;rw[if_neg (by decide),if_neg (by decide),if_pos rfl]
 rw[hat];show _=(decide (j<n)&&x.getLsbD (min (j+k) (n-1)))
 by_cases hj:j<n
 ·have h64:j<64:=by omega
  rw[decide_eq_true h64,decide_eq_true hj,decide_eq_false (show ¬64≤j by omega)];have hs:∀i,i<64→((x.setWidth n).signExtend 64).getLsbD i=x.getLsbD (min i (n-1)):=fun i hi=>by
   rw[BitVec.getLsbD_signExtend,BitVec.msb_eq_getLsbD_last,BitVec.getLsbD_setWidth,BitVec.getLsbD_setWidth];by_cases q:i<n
   ·rw[if_pos q,Nat.min_eq_left (by omega)];simp[hi,q]
   ·rw[if_neg q,Nat.min_eq_right (by omega)];simp[hi,show n-1<n by omega]
  have hm:((x.setWidth n).signExtend 64).msb=x.getLsbD (n-1):=by rw[BitVec.msb_eq_getLsbD_last,hs (64-1) (by decide),Nat.min_eq_right (by omega)]
  by_cases hjk:k+j<64
  ·rw[if_pos hjk,hs _ hjk,Nat.add_comm k j];simp
  ·rw[if_neg hjk,hm,Nat.min_eq_right (by omega)];simp
 ·rw[decide_eq_false hj];simp
theorem shl_bits{n k:Nat}(hn:n≤64)(hk:k<n){x:W64}:ziu 25 n x k (x <<< k&&&msk n):=fun j=>by
 rw[BitVec.getLsbD_and,ziT,BitVec.getLsbD_shiftLeft];unfold atM zle;rw[if_pos rfl];by_cases hj:j<n
 ·have h64:j<64:=by omega
  by_cases hk2:k≤j
  ·rw[if_pos hk2];simp[hj,h64,show ¬j<k by omega]
  ·rw[if_neg hk2];simp[show j<k by omega]
 ·rw[decide_eq_false hj];simp
theorem shr_bits{n k:Nat}(hn:n≤64)(hk:k<n){x:W64}(hx:x.toNat≤(msk n).toNat):ziu 26 n x k (x >>> k):=fun j=>by
 have hz:=(zbU hn).1 hx;rw[BitVec.getLsbD_ushiftRight];unfold atM zle;rw[if_neg (by decide),if_pos rfl];by_cases hj:j+k<n
 ·rw[if_pos hj,Nat.add_comm k j];simp[show j<n by omega]
 ·rw[if_neg hj,hz _ (by omega)];simp
theorem zpL{n k:Nat}(hn:n≤64)(hk:k<n){x:W64}(hx:x.toNat≤(msk n).toNat)(j:Nat):((x <<< k|||x >>> (n-k))&&&msk n).getLsbD j=(decide (j<n)&&x.getLsbD ((j+n-k)%n)):=by
 have hz:=(zbU hn).1 hx;rw[BitVec.getLsbD_and,ziT,BitVec.getLsbD_or,BitVec.getLsbD_shiftLeft,BitVec.getLsbD_ushiftRight];by_cases hj:j<n
 ·have h64:j<64:=by omega
  by_cases hk2:k≤j
  ·have:(j+n-k)%n=j-k:=by rw[show j+n-k=(j-k)+n by omega,Nat.add_mod_right,Nat.mod_eq_of_lt (by omega)]
   rw[this,hz (n-k+j) (by omega)];simp[hj,h64,show ¬j<k by omega]
  ·have:(j+n-k)%n=n-k+j:=by rw[Nat.mod_eq_of_lt (by omega)];omega
   rw[this];simp[hj,h64,show j<k by omega]
 ·rw[decide_eq_false hj];simp
theorem p_moved{op:Int}(hop:25≤op∧op≤29){n k:Nat}(h0:1≤n)(hn:n≤64)(hk:k<n){x:W64}(hx:x.toNat≤(msk n).toNat)(H:Hp):∃v:W64,ziu op n x k v∧RR Br [.int .i64 op,.int .i64 (n:Int),wv x,.int .i64 (k:Int)] H=some (wv v,H):=by
 have hr:=znl E0 rfl (.int .i64 op) (.int .i64 (n:Int)) (wv x) (.int .i64 (k:Int)) H;unfold zja at hr;rw[zaF,zac]at hr;by_cases h25:op=25
 ·subst h25;rw[decide_eq_true rfl,zaE,cu64 _ (by omega),zrn,zaf (zb5 h0 hn _ H)]at hr;exact⟨_,shl_bits hn hk,hr⟩
 rw[decide_eq_false h25,zau,zaF,zac]at hr;by_cases h26:op=26
 ·subst h26;rw[decide_eq_true rfl,zaE,cu64 _ (by omega),zrm]at hr;exact⟨_,shr_bits hn hk hx,hr⟩
 rw[decide_eq_false h26,zau,zaF,zac]at hr;by_cases h27:op=27
 ·subst h27;have hc:∀(a:Int) (f:Value→Option (Value×Hp)),zan .u64 (.int .i64 a) f=f (wv (BitVec.ofInt 64 a)):=fun a f=>by rw[zhL,zeY]
  rw[decide_eq_true rfl,zaE,zaf (zjy h0 hn x H),cu64 _ (by omega),i_shr _ _ _ _ (by omega),hc,zoS h0 hn,zaf (zb5 h0 hn _ H)]at hr;exact⟨_,sar_bits h0 hn hk x,hr⟩
 rw[decide_eq_false h27,zau,zaF,zac]at hr;by_cases h29:op=29
 ·subst h29;have e1:IntKind.i64.wrap ((n:Int)-(k:Int))=((n-k:Nat):Int):=by rw[zaq (by omega) (by omega)];omega
  have e2:(((n-k:Nat):Int)).tmod (n:Int)=(((n-k)%n:Nat):Int):=rfl;have hlt:(n-k)%n<n:=Nat.mod_lt _ (by omega);have e3:IntKind.i64.wrap ((n:Int)-(((n-k)%n:Nat):Int))=((n-(n-k)%n:Nat):Int):=by rw[zaq (by omega) (by omega)];omega
  rw[decide_eq_true rfl,zaE,zbK,e1,zov _ _ _ _ (by omega),e2,cu64 _ (by omega),zrn,zbK,e3,cu64 _ (by omega),zrm,b_or,zaf (zb5 h0 hn _ H)]at hr;refine⟨_,fun j=>?_,hr⟩;rw[zpL hn hlt hx];unfold atM zle;rw[if_neg (by decide),if_neg (by decide),if_neg (by decide),if_neg (by decide)];dsimp only;by_cases hj:j<n
  ·have:(j+n-(n-k)%n)%n=(j+k)%n:=by
    by_cases hk0:k=0
    ·subst hk0;rw[Nat.sub_zero,Nat.mod_self,Nat.sub_zero,Nat.add_mod_right,Nat.add_zero]
    ·rw[Nat.mod_eq_of_lt (show n-k<n by omega),show j+n-(n-k)=j+k by omega]
   rw[this]
  ·rw[decide_eq_false hj];rfl
 have h28:op=28:=by omega
 subst h28;have e1:IntKind.i64.wrap ((n:Int)-(k:Int))=((n-k:Nat):Int):=by rw[zaq (by omega) (by omega)];omega
 rw[decide_eq_false h29,zau,cu64 _ (by omega),zrn,zbK,e1,cu64 _ (by omega),zrm,b_or,zaf (zb5 h0 hn _ H)]at hr;refine⟨_,fun j=>?_,hr⟩;rw[zpL hn hk hx];unfold atM zle;rw[if_neg (by decide),if_neg (by decide),if_neg (by decide),if_pos rfl]
end Go.AM.N14
namespace Go.AM.N14
open Go Go.AM
open Classical in
noncomputable def movW(op:Int)(n:Nat)(x:W64)(k:Nat):W64:=if h:∃v,ziu op n x k v then Classical.choose h else 0#64
theorem zoZ{op:Int}{n:Nat}{x:W64}{k:Nat}{v:W64}(h:ziu op n x k v):movW op n x k=v:=by
 have hx:∃v,ziu op n x k v:=⟨v,h⟩
 unfold movW;rw[dif_pos hx];exact ziu.eq (Classical.choose_spec hx) h
theorem p_mov{op:Int}(hop:25≤op∧op≤29){n k:Nat}(h0:1≤n)(hn:n≤64)(hk:k<n){x:W64}(hx:x.toNat≤(msk n).toNat)(H:Hp):RR Br [.int .i64 op,.int .i64 (n:Int),wv x,.int .i64 (k:Int)] H=some (wv (movW op n x k),H):=by obtain⟨v,h1,h2⟩:=p_moved hop h0 hn hk hx H;rw[zoZ h1];exact h2
theorem q_mov{op:Int}(hop:25≤op∧op≤29){n k:Nat}(hn:n≤64)(hk:k<n)(x:W64)(H:Hp):RR A8 [.int .i64 op,.int .i64 (n:Int),wv x,.int .i64 (k:Int)] H=some (wv (movW op n x k),H):=by obtain⟨v,h1,h2⟩:=q_moved hop hn hk x H;rw[zoZ h1];exact h2
theorem zdN{n:Nat}(hn:n≤64)(x:W64):(x&&&msk n).toNat≤(msk n).toNat:=(zbU hn).2 fun j hj=>by rw[BitVec.getLsbD_and,ziT];simp[show ¬j<n by omega]
theorem zlH{n:Nat}(hn:n≤64){x:W64}(h:x.toNat≤(msk n).toNat):x&&&msk n=x:=zqy fun j=>by
 rw[BitVec.getLsbD_and,ziT];by_cases hj:j<n
 ·simp[hj,show j<64 by omega]
 ·rw[(zbU hn).1 h j (by omega)];rfl
theorem b_quo{α:Type}{P:Program}(T:TypeId){a b:W64}(hb:b≠0#64)(k:Value→Option α):pBin P .quo T (wv a) (wv b) k=k (wv (a/b)):=by
 have hb2:(b.toNat:Int)≠0:=fun q=>hb (BitVec.eq_of_toNat_eq (by simpa using q));have:binV P .quo T (wv a) (wv b)=some (wv (a/b)):=by
  show (if (b.toNat:Int)=0 then none else some (Value.int .u64 (IntKind.u64.wrap ((a.toNat:Int).tdiv (b.toNat:Int)))))=_;rw[if_neg hb2];have e:((a.toNat:Int).tdiv (b.toNat:Int))=(((a/b).toNat:Nat):Int):=by rw[BitVec.toNat_udiv];rfl
  rw[e,zkT];rfl
 unfold pBin;rw[this]
theorem b_rem{α:Type}{P:Program}(T:TypeId){a b:W64}(hb:b≠0#64)(k:Value→Option α):pBin P .rem T (wv a) (wv b) k=k (wv (a%b)):=by
 have hb2:(b.toNat:Int)≠0:=fun q=>hb (BitVec.eq_of_toNat_eq (by simpa using q));have e:((a.toNat:Int).tmod (b.toNat:Int))=(((a%b).toNat:Nat):Int):=by rw[BitVec.toNat_umod];rfl
 show pBin P .rem T (.int .u64 (a.toNat:Int)) (.int .u64 (b.toNat:Int)) k=_;rw[zov _ _ _ _ hb2,e];rfl
noncomputable def binW(op:Int)(n:Nat)(x y:W64):W64:=
 let X:=x&&&msk n
 let Y:=y&&&msk n
 if op=17 then X&&&Y else if op=18 then X|||Y else if op=19 then X ^^^ Y else if op=20 then (X+Y)&&&msk n else if op=21 then (X-Y)&&&msk n else if op=22 then (X*Y)&&&msk n
 else if op=23 then (if Y=0#64 then msk n else X/Y) else if op=24 then (if Y=0#64 then X else X%Y) else movW op n X (Y.toNat%n)
theorem zmw{op:Int}(H:Hp):RR Bs [.int .i64 op] H=some (.bool (decide (25≤op∧op≤29)),H):=by
 refine(zmn E0 rfl _ _).trans ?_;unfold zic;rw[zbt,zac];by_cases h:op≥25
 ·rw[decide_eq_true h,zaE,zb0];congr 3;simp[show (25:Int)≤op from h]
 ·rw[decide_eq_false h,zau];congr 3;simp[show ¬(25:Int)≤op from h]
theorem zp7{n:Nat}(hn:n≤64)(h0:1≤n){α:Type}(Y:W64)(k:Value→Option α):(pBin PP .rem Ab (wv Y) (.int .u64 (n:Int)) fun v=>zan .i64 v k)=k (.int .i64 ((Y.toNat%n:Nat):Int)):=by unfold wv;rw[zov _ _ _ _ (by omega)];have e:((Y.toNat:Int).tmod (n:Int))=((Y.toNat%n:Nat):Int):=rfl;have hlt:Y.toNat%n<n:=Nat.mod_lt _ (by omega);rw[e,zhL,zaq (by omega) (by omega)]
theorem p_bin{op:Int}(hop:17≤op∧op≤29){n:Nat}(h0:1≤n)(hn:n≤64)(hs:25≤op→znU (n:Int)=true)(x y:W64)(H:Hp):RR BW [.int .i64 op,.int .i64 (n:Int),wv x,wv y] H=some (.tuple #[wv (binW op n x y),.int .i64 0],H):=by
 have hr:=zqT E0 rfl (.int .i64 op) (.int .i64 (n:Int)) (wv x) (wv y) H;unfold zlN at hr;have hX:=zdN hn x;have hY:=zdN hn y;rw[lF (by omega),zbp,bF (by omega),zal,zaA,zaf (zdJ h0 hn H),za9,zac,show (!true)=false from rfl,zau,zaf (zmw H),zac]at hr;unfold binW;dsimp only;by_cases h25:25≤op
 ·have hsh:decide (25≤op∧op≤29)=true:=decide_eq_true ⟨h25,hop.2⟩;have hpop:decide (pops.getD n 0=1)=true:=(zpS n (by omega)).trans (hs h25);have hone:pops.getD n 0=1:=of_decide_eq_true hpop;have e53:=c53 (n:Int) (by omega) (by omega) H;rw[Int.toNat_natCast,hone]at e53;have hlt:(y&&&msk n).toNat%n<n:=Nat.mod_lt _ (by omega);rw[hsh,zaE,cu64 _ (by omega),zaf e53,za5,bF (by decide),zal,zaA,zaf (zb5 h0 hn x H),zaf (zb5 h0 hn y H),zaf (zmw H),hsh,zac,zaE,cu64 _ (by omega),zp7 hn h0,zaf (p_mov ⟨h25,hop.2⟩ h0 hn hlt hX H)]at hr;rw[if_neg (by omega),if_neg (by omega),if_neg (by omega),if_neg (by omega),if_neg (by omega),if_neg (by omega),if_neg (by omega),if_neg (by omega)];exact hr
 have hsh:decide (25≤op∧op≤29)=false:=decide_eq_false (by omega);rw[hsh,zau,zal,zaA,zaf (zb5 h0 hn x H),zaf (zb5 h0 hn y H),zaf (zmw H),hsh,zac,zau,zaF,zac]at hr;generalize x&&&msk n=X at *;generalize y&&&msk n=Y at *;by_cases h17:op=17
 ·rw[decide_eq_true h17,zaE,b_and,zaf (zb5 h0 hn _ H)]at hr;have e:(X&&&Y)&&&msk n=X&&&Y:=zlH hn ((zbU hn).2 fun j hj=>by simp only[BitVec.getLsbD_and,BitVec.getLsbD_or,BitVec.getLsbD_xor,(zbU hn).1 hX j hj,(zbU hn).1 hY j hj];rfl);rw[e]at hr;rw[if_pos h17];exact hr
 rw[decide_eq_false h17,zau,zaF,zac]at hr;by_cases h18:op=18
 ·rw[decide_eq_true h18,zaE,b_or,zaf (zb5 h0 hn _ H)]at hr;have e:(X|||Y)&&&msk n=X|||Y:=zlH hn ((zbU hn).2 fun j hj=>by simp only[BitVec.getLsbD_and,BitVec.getLsbD_or,BitVec.getLsbD_xor,(zbU hn).1 hX j hj,(zbU hn).1 hY j hj];rfl);rw[e]at hr;rw[if_neg h17,if_pos h18];exact hr
 rw[decide_eq_false h18,zau,zaF,zac]at hr;by_cases h19:op=19
 ·rw[decide_eq_true h19,zaE,b_xor,zaf (zb5 h0 hn _ H)]at hr;have e:(X ^^^ Y)&&&msk n=X ^^^ Y:=zlH hn ((zbU hn).2 fun j hj=>by simp only[BitVec.getLsbD_and,BitVec.getLsbD_or,BitVec.getLsbD_xor,(zbU hn).1 hX j hj,(zbU hn).1 hY j hj];rfl);rw[e]at hr;rw[if_neg h17,if_neg h18,if_pos h19];exact hr
 rw[decide_eq_false h19,zau,zaF,zac]at hr;by_cases h20:op=20
 ·rw[decide_eq_true h20,zaE,b_add,zaf (zb5 h0 hn _ H)]at hr;rw[if_neg h17,if_neg h18,if_neg h19,if_pos h20];exact hr
 rw[decide_eq_false h20,zau,zaF,zac]at hr;by_cases h21:op=21
 ·rw[decide_eq_true h21,zaE,b_sub,zaf (zb5 h0 hn _ H)]at hr;rw[if_neg h17,if_neg h18,if_neg h19,if_neg h20,if_pos h21];exact hr
 rw[decide_eq_false h21,zau,zaF,zac]at hr;by_cases h22:op=22
 ·rw[decide_eq_true h22,zaE,zro,zaf (zb5 h0 hn _ H)]at hr;rw[if_neg h17,if_neg h18,if_neg h19,if_neg h20,if_neg h21,if_pos h22];exact hr
 rw[decide_eq_false h22,zau,zaF,zac]at hr;have hz:∀(k:Value→Option (Value×Hp)),pBin PP .neq Ab (wv Y) (.int .u64 0) k=k (.bool (!decide (Y=0#64))):=fun k=>b_neq _ _ 0#64 k;by_cases h23:op=23
 ·rw[decide_eq_true h23,zaE,hz,zac]at hr;rw[if_neg h17,if_neg h18,if_neg h19,if_neg h20,if_neg h21,if_neg h22,if_pos h23];by_cases hy:Y=0#64
  ·rw[decide_eq_true hy,show (!true)=false from rfl,zau,u_all,zaf (zb5 h0 hn _ H),show msk 64&&&msk n=msk n by rw[msk_all,BitVec.allOnes_and]]at hr;rw[if_pos hy];exact hr
  ·rw[decide_eq_false hy,show (!false)=true from rfl,zaE,b_quo _ hy,zaf (zb5 h0 hn _ H),zlH hn (by rw[BitVec.toNat_udiv];exact Nat.le_trans (Nat.div_le_self _ _) hX)]at hr;rw[if_neg hy];exact hr
 rw[decide_eq_false h23,zau,zaF,zac]at hr;have h24:op=24:=by omega
 rw[decide_eq_true h24,zaE,hz,zac]at hr;rw[if_neg h17,if_neg h18,if_neg h19,if_neg h20,if_neg h21,if_neg h22,if_neg h23,if_pos h24];by_cases hy:Y=0#64
 ·rw[decide_eq_true hy,show (!true)=false from rfl,zau,zaf (zb5 h0 hn _ H),zlH hn hX]at hr;rw[if_pos hy];exact hr
 ·rw[decide_eq_false hy,show (!false)=true from rfl,zaE,b_rem _ hy,zaf (zb5 h0 hn _ H),zlH hn (by rw[BitVec.toNat_umod];exact Nat.le_trans (Nat.mod_le _ _) hX)]at hr;rw[if_neg hy];exact hr
theorem q_bin{op:Int}(hop:17≤op∧op≤29){n:Nat}(h0:1≤n)(hn:n≤64)(hs:25≤op→znU (n:Int)=true)(x y:W64)(H:Hp):RR B5 [.int .i64 op,.int .i64 (n:Int),wv x,wv y] H=some (.tuple #[wv (binW op n x y),.int .i64 0],H):=by
 have hr:=zhZ E0 rfl (.int .i64 op) (.int .i64 (n:Int)) (wv x) (wv y) H;unfold zeS at hr;have hX:=zdN hn x;have hY:=zdN hn y;rw[lF (by omega),zbp,bF (by omega),zal,zaA,zaf (zdI h0 hn H),za9,zac,show (!true)=false from rfl,zau,zbt,zac]at hr;have hpre:∀{β:Type} (f:Ctl→List Value→Hp→Option β),zav (br (decide (op≥25)) (zad RR A7 [.int .i64 (n:Int)] H fun r15 H16=>pUn .not r15 fun v17=>zaa v17 fun b18=>br b18 (some (.ret,[(.tuple #[(.int .u64 0),(.int .i64 5)])],H16)) (some (.next,[],H16))) (some (.next,[],H))) f=f .next [] H:=fun f=>by
  by_cases h25:op≥25
  ·rw[decide_eq_true h25,zaE,zaf (c55 _ H),hs h25,za9,zac,show (!true)=false from rfl,zau,zal]
  ·rw[decide_eq_false h25,zau,zal]
 rw[hpre,zaA,zaf (zdp h0 hn x H),zaf (zdp h0 hn y H),zaF,zac]at hr;unfold binW;dsimp only;generalize x&&&msk n=X at *;generalize y&&&msk n=Y at *;by_cases h17:op=17
 ·rw[decide_eq_true h17,zaE,b_and]at hr;rw[if_pos h17];exact hr
 rw[decide_eq_false h17,zau,zaF,zac]at hr;by_cases h18:op=18
 ·rw[decide_eq_true h18,zaE,b_or]at hr;rw[if_neg h17,if_pos h18];exact hr
 rw[decide_eq_false h18,zau,zaF,zac]at hr;by_cases h19:op=19
 ·rw[decide_eq_true h19,zaE,b_xor]at hr;rw[if_neg h17,if_neg h18,if_pos h19];exact hr
 rw[decide_eq_false h19,zau,zaF,zac]at hr;by_cases h20:op=20
 ·rw[decide_eq_true h20,zaE,b_add,zaf (zdp h0 hn _ H)]at hr;rw[if_neg h17,if_neg h18,if_neg h19,if_pos h20];exact hr
 rw[decide_eq_false h20,zau,zaF,zac]at hr;by_cases h21:op=21
 ·rw[decide_eq_true h21,zaE,b_sub,zaf (zdp h0 hn _ H)]at hr;rw[if_neg h17,if_neg h18,if_neg h19,if_neg h20,if_pos h21];exact hr
 rw[decide_eq_false h21,zau,zaF,zac]at hr;by_cases h22:op=22
 ·rw[decide_eq_true h22,zaE,zro,zaf (zdp h0 hn _ H)]at hr;rw[if_neg h17,if_neg h18,if_neg h19,if_neg h20,if_neg h21,if_pos h22];exact hr
 rw[decide_eq_false h22,zau,zaF,zac]at hr;have hz:∀(k:Value→Option (Value×Hp)),pBin PP .eql Ab (wv Y) (.int .u64 0) k=k (.bool (decide (Y=0#64))):=fun k=>zpq _ _ 0#64 k;by_cases h23:op=23
 ·rw[decide_eq_true h23,zaE,hz,zac]at hr;rw[if_neg h17,if_neg h18,if_neg h19,if_neg h20,if_neg h21,if_neg h22,if_pos h23];by_cases hy:Y=0#64
  ·rw[decide_eq_true hy,zaE,u_all,zaf (zdp h0 hn _ H),show msk 64&&&msk n=msk n by rw[msk_all,BitVec.allOnes_and]]at hr;rw[if_pos hy];exact hr
  ·rw[decide_eq_false hy,zau,b_quo _ hy]at hr;rw[if_neg hy];exact hr
 rw[decide_eq_false h23,zau,zaF,zac]at hr;by_cases h24:op=24
 ·rw[decide_eq_true h24,zaE,hz,zac]at hr;rw[if_neg h17,if_neg h18,if_neg h19,if_neg h20,if_neg h21,if_neg h22,if_neg h23,if_pos h24];by_cases hy:Y=0#64
  ·rw[decide_eq_true hy,zaE]at hr;rw[if_pos hy];exact hr
  ·rw[decide_eq_false hy,zau,b_rem _ hy]at hr;rw[if_neg hy];exact hr
 have hlt:Y.toNat%n<n:=Nat.mod_lt _ (by omega);rw[decide_eq_false h24,zau,cu64 _ (by omega),zp7 hn h0,zaf (q_mov ⟨by omega,hop.2⟩ hn hlt X H)]at hr;rw[if_neg h17,if_neg h18,if_neg h19,if_neg h20,if_neg h21,if_neg h22,if_neg h23,if_neg h24];exact hr
end Go.AM.N14
namespace Go.AM.N14
open Go Go.AM
def unW(op:Int)(n:Nat)(x:W64):W64:=if op=15 then ~~~x&&&msk n else (0#64-x)&&&msk n
def cmpW(op:Int)(n:Nat)(x y:W64):Bool:=
 let X:=x&&&msk n
 let Y:=y&&&msk n
 if op=9 then decide (X=Y) else if op=10 then decide (X.toNat<Y.toNat) else if op=11 then decide (X.toNat≤Y.toNat) else if op=12 then decide (sg n X<sg n Y) else decide (sg n X≤sg n Y)
def catW(n:Nat)(x:W64)(m:Nat)(y:W64):W64:=(x&&&msk n) <<< m|||(y&&&msk m)
def zpC(n:Nat)(x:W64)(i m:Nat):W64:=(x&&&msk n) >>> i&&&msk m
def extW(op:Int)(n:Nat)(x:W64)(m:Nat):W64:=if op=32 then x&&&msk n else BitVec.ofInt 64 (sg n x)&&&msk m
theorem b_neg{α:Type}(x:W64)(k:Value→Option α):pUn .neg (wv x) k=k (wv (0#64-x)):=by show k (.int .u64 (IntKind.u64.wrap (0-(x.toNat:Int))))=_;rw[zeY];congr 2;rw[BitVec.zero_sub];apply BitVec.eq_of_toNat_eq;rw[BitVec.toNat_ofInt,BitVec.toNat_neg];have:=x.isLt;omega
theorem ci_u64{α:Type}(a:Int)(f:Value→Option α):zan .u64 (.int .i64 a) f=f (wv (BitVec.ofInt 64 a)):=by rw[zhL,zeY]
theorem p_un{op:Int}(hop:op=15∨op=16){n:Nat}(h0:1≤n)(hn:n≤64)(x:W64)(H:Hp):RR B3 [.int .i64 op,.int .i64 (n:Int),wv x] H=some (.tuple #[wv (unW op n x),.int .i64 0],H):=by
 have hr:=r_bits_Un E0 rfl (.int .i64 op) (.int .i64 (n:Int)) (wv x) H;unfold znP at hr;unfold unW;rcases hop with rfl|rfl
 ·rw[za5,bF (by decide),zaf (zdJ h0 hn H),za9,zac,show (!true)=false from rfl,zau,eT rfl,b_not,zaf (zb5 h0 hn _ H)]at hr;rw[if_pos rfl];exact hr
 ·have hneg:∀(f:Value→Option (Value×Hp)),pUn .neg (wv x) f=f (wv (0#64-x)):=fun f=>b_neg x f;rw[za5,bT (by decide),za5,bF (by decide),zaf (zdJ h0 hn H),za9,zac,show (!true)=false from rfl,zau,eF (by decide),hneg,zaf (zb5 h0 hn _ H)]at hr;rw[if_neg (by decide)];exact hr
theorem p_cmp{op:Int}(hop:9≤op∧op≤13){n:Nat}(h0:1≤n)(hn:n≤64)(x y:W64)(H:Hp):RR BY [.int .i64 op,.int .i64 (n:Int),wv x,wv y] H=some (.tuple #[.bool (cmpW op n x y),.int .i64 0],H):=by
 have hr:=zqR E0 rfl (.int .i64 op) (.int .i64 (n:Int)) (wv x) (wv y) H;unfold zlL at hr;rw[lF (by omega),zbp,bF (by omega),zal,zaA,zaf (zdJ h0 hn H),za9,zac,show (!true)=false from rfl,zau,zaf (zb5 h0 hn x H),zaf (zb5 h0 hn y H),zaf (zjy h0 hn _ H),zaf (zjy h0 hn _ H),zaF,zac]at hr;unfold cmpW;dsimp only;by_cases h9:op=9
 ·rw[decide_eq_true h9,zaE,zpq]at hr;rw[if_pos h9];exact hr
 rw[decide_eq_false h9,zau,zaF,zac]at hr;by_cases h10:op=10
 ·rw[decide_eq_true h10,zaE,b_lss]at hr;rw[if_neg h9,if_pos h10];exact hr
 rw[decide_eq_false h10,zau,zaF,zac]at hr;by_cases h11:op=11
 ·rw[decide_eq_true h11,zaE,b_leq]at hr;rw[if_neg h9,if_neg h10,if_pos h11];exact hr
 rw[decide_eq_false h11,zau,zaF,zac]at hr;by_cases h12:op=12
 ·rw[decide_eq_true h12,zaE,zaV]at hr;rw[if_neg h9,if_neg h10,if_neg h11,if_pos h12];exact hr
 rw[decide_eq_false h12,zau,zb0]at hr;rw[if_neg h9,if_neg h10,if_neg h11,if_neg h12];exact hr
theorem p_cat{n m:Nat}(h0:1≤n)(h1:1≤m)(hs:n+m≤64)(x y:W64)(H:Hp):RR BX [.int .i64 (n:Int),wv x,.int .i64 (m:Int),wv y] H=some (.tuple #[wv (catW n x m y),.int .i64 0],H):=by
 have hn:n≤64:=by omega
 have hm:m≤64:=by omega
 have hr:=zqS E0 rfl (.int .i64 (n:Int)) (wv x) (.int .i64 (m:Int)) (wv y) H;unfold zlM at hr;rw[zaf (zdJ h0 hn H),za9,zac,show (!true)=false from rfl,zau,zaf (zdJ h1 hm H),za9,zac,show (!true)=false from rfl,zau,zaN,zaq (by omega) (by omega),zbp,bF (by omega),zaf (zb5 h0 hn x H),cu64 _ (by omega),zrn,zaf (zb5 h1 hm y H),b_or]at hr;exact hr
theorem p_slice{n i m:Nat}(h0:1≤n)(hn:n≤64)(h1:1≤m)(hs:i+m≤n)(x:W64)(H:Hp):RR B2 [.int .i64 (n:Int),wv x,.int .i64 (i:Int),.int .i64 (m:Int)] H=some (.tuple #[wv (zpC n x i m),.int .i64 0],H):=by
 have hm:m≤64:=by omega
 have hr:=znm E0 rfl (.int .i64 (n:Int)) (wv x) (.int .i64 (i:Int)) (.int .i64 (m:Int)) H;unfold zjb at hr;rw[zaf (zdJ h0 hn H),za9,zac,show (!true)=false from rfl,zau,lF (by omega),lF (by omega),zbp,bF (by omega),zbK,zaq (by omega) (by omega),zbp,bF (by omega),zal,zaA,zaf (zb5 h0 hn x H),cu64 _ (by omega),zrm,zaf (zb5 h1 hm _ H)]at hr;exact hr
theorem p_ext{op:Int}(hop:op=32∨op=33){n m:Nat}(h0:1≤n)(hs:n≤m)(hm:m≤64)(x:W64)(H:Hp):RR BZ [.int .i64 op,.int .i64 (n:Int),wv x,.int .i64 (m:Int)] H=some (.tuple #[wv (extW op n x m),.int .i64 0],H):=by
 have hn:n≤64:=by omega
 have h1:1≤m:=by omega
 have hr:=zqQ E0 rfl (.int .i64 op) (.int .i64 (n:Int)) (wv x) (.int .i64 (m:Int)) H;unfold zlK at hr;unfold extW;rcases hop with rfl|rfl
 ·rw[za5,bF (by decide),zal,zaA,zaf (zdJ h0 hn H),za9,zac,show (!true)=false from rfl,zau,zaf (zdJ h1 hm H),za9,zac,show (!true)=false from rfl,zau,lF (by omega),zal,zaA,eT rfl,zaf (zb5 h0 hn _ H)]at hr;rw[if_pos rfl];exact hr
 ·rw[za5,bT (by decide),za5,bF (by decide),zal,zaA,zaf (zdJ h0 hn H),za9,zac,show (!true)=false from rfl,zau,zaf (zdJ h1 hm H),za9,zac,show (!true)=false from rfl,zau,lF (by omega),zal,zaA,eF (by decide),zaf (zjy h0 hn _ H),ci_u64,zaf (zb5 h1 hm _ H)]at hr;rw[if_neg (by decide)];exact hr
theorem cat_or{m:Nat}(hm:m≤64){X y:W64}:X <<< m+(y&&&msk m)=X <<< m|||(y&&&msk m):=by apply BitVec.add_eq_or_of_and_eq_zero;refine zqy fun j=>?_;rw[BitVec.getLsbD_and,BitVec.getLsbD_shiftLeft,BitVec.getLsbD_and,ziT];by_cases h:j<m<;>simp[h]
theorem q_un{op:Int}(hop:op=15∨op=16){n:Nat}(h0:1≤n)(hn:n≤64)(x:W64)(H:Hp):RR B9 [.int .i64 op,.int .i64 (n:Int),wv x] H=some (.tuple #[wv (unW op n x),.int .i64 0],H):=by
 have hr:=ziH E0 rfl (.int .i64 op) (.int .i64 (n:Int)) (wv x) H;unfold zfp at hr;unfold unW;rcases hop with rfl|rfl
 ·rw[za5,bF (by decide),zaf (zdI h0 hn H),za9,zac,show (!true)=false from rfl,zau,eT rfl,b_not,zaf (zdp h0 hn _ H)]at hr;rw[if_pos rfl];exact hr
 ·have hneg:∀(f:Value→Option (Value×Hp)),pBin PP .sub Ab (.int .u64 0) (wv x) f=f (wv (0#64-x)):=fun f=>b_sub _ 0#64 x f;rw[za5,bT (by decide),za5,bF (by decide),zaf (zdI h0 hn H),za9,zac,show (!true)=false from rfl,zau,eF (by decide),hneg,zaf (zdp h0 hn _ H)]at hr;rw[if_neg (by decide)];exact hr
theorem q_cmp{op:Int}(hop:9≤op∧op≤13){n:Nat}(h0:1≤n)(hn:n≤64)(x y:W64)(H:Hp):RR B7 [.int .i64 op,.int .i64 (n:Int),wv x,wv y] H=some (.tuple #[.bool (cmpW op n x y),.int .i64 0],H):=by
 have hr:=zhX E0 rfl (.int .i64 op) (.int .i64 (n:Int)) (wv x) (wv y) H;unfold zeQ at hr;rw[lF (by omega),zbp,bF (by omega),zal,zaA,zaf (zdI h0 hn H),za9,zac,show (!true)=false from rfl,zau,zaf (zdp h0 hn x H),zaf (zdp h0 hn y H),zaF,zac]at hr;unfold cmpW;dsimp only;by_cases h9:op=9
 ·rw[decide_eq_true h9,zaE,zpq]at hr;rw[if_pos h9];exact hr
 rw[decide_eq_false h9,zau,zaF,zac]at hr;by_cases h10:op=10
 ·rw[decide_eq_true h10,zaE,b_lss]at hr;rw[if_neg h9,if_pos h10];exact hr
 rw[decide_eq_false h10,zau,zaF,zac]at hr;by_cases h11:op=11
 ·rw[decide_eq_true h11,zaE,b_leq]at hr;rw[if_neg h9,if_neg h10,if_pos h11];exact hr
 rw[decide_eq_false h11,zau,zaF,zac]at hr;by_cases h12:op=12
 ·rw[decide_eq_true h12,zaE,zaf (zh1 h0 hn _ H),zaf (zh1 h0 hn _ H),zaV]at hr;rw[if_neg h9,if_neg h10,if_neg h11,if_pos h12];exact hr
 rw[decide_eq_false h12,zau,zaf (zh1 h0 hn _ H),zaf (zh1 h0 hn _ H),zb0]at hr;rw[if_neg h9,if_neg h10,if_neg h11,if_neg h12];exact hr
theorem q_cat{n m:Nat}(h0:1≤n)(h1:1≤m)(hs:n+m≤64)(x y:W64)(H:Hp):RR B6 [.int .i64 (n:Int),wv x,.int .i64 (m:Int),wv y] H=some (.tuple #[wv (catW n x m y),.int .i64 0],H):=by
 have hn:n≤64:=by omega
 have hm:m≤64:=by omega
 have hr:=zhY E0 rfl (.int .i64 (n:Int)) (wv x) (.int .i64 (m:Int)) (wv y) H;unfold zeR at hr;rw[zaf (zdI h0 hn H),za9,zac,show (!true)=false from rfl,zau,zaf (zdI h1 hm H),za9,zac,show (!true)=false from rfl,zau,zaN,zaq (by omega) (by omega),zbp,bF (by omega),zaf (zdp h0 hn x H),cu64 _ (by omega),zrn,zaf (zdp h1 hm y H),b_add]at hr;rw[cat_or hm]at hr;exact hr
theorem q_slice{n i m:Nat}(h0:1≤n)(hn:n≤64)(h1:1≤m)(hs:i+m≤n)(x:W64)(H:Hp):RR B8 [.int .i64 (n:Int),wv x,.int .i64 (i:Int),.int .i64 (m:Int)] H=some (.tuple #[wv (zpC n x i m),.int .i64 0],H):=by
 have hm:m≤64:=by omega
 have hr:=zgJ E0 rfl (.int .i64 (n:Int)) (wv x) (.int .i64 (i:Int)) (.int .i64 (m:Int)) H;unfold zdZ at hr;rw[zaf (zdI h0 hn H),za9,zac,show (!true)=false from rfl,zau,lF (by omega),zbp,bF (by omega),lF (by omega),zbK,zaq (by omega) (by omega),zbp,bF (by omega),zal,zaA,zaf (zdp h0 hn x H),cu64 _ (by omega),zrm,zaf (zdp h1 hm _ H)]at hr;exact hr
theorem q_ext{op:Int}(hop:op=32∨op=33){n m:Nat}(h0:1≤n)(hs:n≤m)(hm:m≤64)(x:W64)(H:Hp):RR Bz [.int .i64 op,.int .i64 (n:Int),wv x,.int .i64 (m:Int)] H=some (.tuple #[wv (extW op n x m),.int .i64 0],H):=by
 have hn:n≤64:=by omega
 have h1:1≤m:=by omega
 have hr:=zhW E0 rfl (.int .i64 op) (.int .i64 (n:Int)) (wv x) (.int .i64 (m:Int)) H;unfold zeP at hr;unfold extW;rcases hop with rfl|rfl
 ·rw[za5,bF (by decide),zal,zaA,zaf (zdI h0 hn H),za9,zac,show (!true)=false from rfl,zau,zaf (zdI h1 hm H),za9,zac,show (!true)=false from rfl,zau,lF (by omega),zal,zaA,eT rfl,zaf (zdp h0 hn _ H)]at hr;rw[if_pos rfl];exact hr
 ·rw[za5,bT (by decide),za5,bF (by decide),zal,zaA,zaf (zdI h0 hn H),za9,zac,show (!true)=false from rfl,zau,zaf (zdI h1 hm H),za9,zac,show (!true)=false from rfl,zau,lF (by omega),zal,zaA,eF (by decide),zaf (zh1 h0 hn _ H),ci_u64,zaf (zdp h1 hm _ H)]at hr;rw[if_neg (by decide)];exact hr
def b2w(c:Bool):W64:=if c=true then 1#64 else 0#64
noncomputable def valW(n:Nd)(wa wb:Nat)(a b c:W64):W64:=
 if n.op=1 then 1#64 else if n.op=2 then 0#64 else if n.op=3 then BitVec.ofInt 64 n.num else if n.op=5 then 1#64-a else if n.op=6 then a&&&b else if n.op=7 then a|||b else if n.op=8 then a ^^^ b else if n.op=9 then b2w (decide (a=b))
 else if n.op≤13 then b2w (cmpW n.op wa a b) else if n.op=14 then (if a=1#64 then b else c) else if n.op≤16 then unW n.op wa a else if n.op≤29 then binW n.op wa a b else if n.op=30 then catW wa a wb b
 else if n.op=31 then zpC wa a n.num.toNat n.w.toNat else extW n.op wa a n.w.toNat
structure Vok(n:Nd)(wa wb:Nat)(a b:W64):Prop where
 op:1≤n.op∧n.op≤33∧n.op≠4
 num:0≤n.num∧n.num<18446744073709551616
 t:6≤n.op→n.op≤8→a.toNat≤1∧b.toNat≤1
 cmp:10≤n.op→n.op≤13→1≤wa∧wa≤64
 un:15≤n.op→n.op≤29→n.w=wa∧1≤wa∧wa≤64
 sh:25≤n.op→n.op≤29→znU (wa:Int)=true
 cat:n.op=30→1≤wa∧1≤wb∧wa+wb≤64
 sl:n.op=31→1≤wa∧wa≤64∧1≤n.w∧n.num+n.w≤wa
 ext:32≤n.op→1≤wa∧(wa:Int)≤n.w∧n.w≤64
theorem p_one(c:Bool)(H:Hp):RR BJ [.bool c] H=some (wv (b2w c),H):=by refine(zqP E0 rfl _ _).trans ?_;unfold zlJ;rw[zac];cases c<;>rfl
theorem q_one(c:Bool)(H:Hp):RR Bc [.bool c] H=some (wv (b2w c),H):=by refine(zhS E0 rfl _ _).trans ?_;unfold zeL;rw[zac];cases c<;>rfl
theorem num_wv{x:Int}(h:0≤x∧x<18446744073709551616):Value.int .u64 x=wv (BitVec.ofInt 64 x):=by rw[←zeY,zjs h.1 (by omega)]
theorem tr01{a:W64}(h:a.toNat≤1):a=0#64∨a=1#64:=by
 rcases (show a.toNat=0∨a.toNat=1 by omega) with q|q
 ·exact .inl (BitVec.eq_of_toNat_eq q)
 ·exact .inr (BitVec.eq_of_toNat_eq q)
theorem one_sub{α:Type}(a:W64)(k:Value→Option α):pBin PP .sub Ab (.int .u64 1) (wv a) k=k (wv (1#64-a)):=b_sub _ 1#64 a k
theorem p_node{n:Nd}{wa wb:Nat}{a b:W64}(h:Vok n wa wb a b)(c:W64)(H:Hp):RR Cg [n.val,wv a,wv b,wv c,.int .i64 (wa:Int),.int .i64 (wb:Int)] H=some (wv (valW n wa wb a b c),H):=by
 have hr:=zoA E0 rfl n.val (wv a) (wv b) (wv c) (.int .i64 (wa:Int)) (.int .i64 (wb:Int)) H;unfold zku at hr;have hop:=h.op;have hnum:=h.num;unfold valW;rw[n0,zaF,zac]at hr;by_cases h1:n.op=1
 ·rw[decide_eq_true h1,zaE]at hr;rw[if_pos h1];exact hr
 rw[decide_eq_false h1,zau,zaF,zac]at hr;by_cases h2:n.op=2
 ·rw[decide_eq_true h2,zaE]at hr;rw[if_neg h1,if_pos h2];exact hr
 rw[decide_eq_false h2,zau,zaF,zac]at hr;by_cases h3:n.op=3
 ·rw[decide_eq_true h3,zaE,n5,num_wv hnum]at hr;rw[if_neg h1,if_neg h2,if_pos h3];exact hr
 rw[decide_eq_false h3,zau,zaF,zac]at hr;by_cases h5:n.op=5
 ·rw[decide_eq_true h5,zaE,one_sub]at hr;rw[if_neg h1,if_neg h2,if_neg h3,if_pos h5];exact hr
 rw[decide_eq_false h5,zau,zaF,zac]at hr;by_cases h6:n.op=6
 ·rw[decide_eq_true h6,zaE,b_and]at hr;rw[if_neg h1,if_neg h2,if_neg h3,if_neg h5,if_pos h6];exact hr
 rw[decide_eq_false h6,zau,zaF,zac]at hr;by_cases h7:n.op=7
 ·rw[decide_eq_true h7,zaE,b_or]at hr;rw[if_neg h1,if_neg h2,if_neg h3,if_neg h5,if_neg h6,if_pos h7];exact hr
 rw[decide_eq_false h7,zau,zaF,zac]at hr;by_cases h8:n.op=8
 ·rw[decide_eq_true h8,zaE,b_xor]at hr;rw[if_neg h1,if_neg h2,if_neg h3,if_neg h5,if_neg h6,if_neg h7,if_pos h8];exact hr
 rw[decide_eq_false h8,zau,zaF,zac]at hr;by_cases h9:n.op=9
 ·rw[decide_eq_true h9,zaE,zpq,zaf (p_one _ H)]at hr;rw[if_neg h1,if_neg h2,if_neg h3,if_neg h5,if_neg h6,if_neg h7,if_neg h8,if_pos h9];exact hr
 rw[decide_eq_false h9,zau,zb0,zac]at hr;by_cases h13:n.op≤13
 ·rw[decide_eq_true h13,zaE,zaf (p_cmp ⟨by omega,h13⟩ (h.cmp (by omega) h13).1 (h.cmp (by omega) h13).2 a b H),x01,zaf (p_one _ H)]at hr;rw[if_neg h1,if_neg h2,if_neg h3,if_neg h5,if_neg h6,if_neg h7,if_neg h8,if_neg h9,if_pos h13];exact hr
 rw[decide_eq_false h13,zau,zaF,zac]at hr;by_cases h14:n.op=14
 ·have hz:∀(k:Value→Option (Value×Hp)),pBin PP .eql Ab (wv a) (.int .u64 1) k=k (.bool (decide (a=1#64))):=fun k=>zpq _ a 1#64 k;rw[decide_eq_true h14,zaE,hz,zac]at hr;rw[if_neg h1,if_neg h2,if_neg h3,if_neg h5,if_neg h6,if_neg h7,if_neg h8,if_neg h9,if_neg h13,if_pos h14];by_cases q:a=1#64
  ·rw[decide_eq_true q,zaE]at hr;rw[if_pos q];exact hr
  ·rw[decide_eq_false q,zau]at hr;rw[if_neg q];exact hr
 rw[decide_eq_false h14,zau,zb0,zac]at hr;by_cases h16:n.op≤16
 ·obtain⟨g1,g2,g3⟩:=h.un (by omega) (by omega);rw[decide_eq_true h16,zaE,n1,g1,zaf (p_un (by omega) g2 g3 a H),x01]at hr;rw[if_neg h1,if_neg h2,if_neg h3,if_neg h5,if_neg h6,if_neg h7,if_neg h8,if_neg h9,if_neg h13,if_neg h14,if_pos h16];exact hr
 rw[decide_eq_false h16,zau,zb0,zac]at hr;by_cases h29:n.op≤29
 ·obtain⟨g1,g2,g3⟩:=h.un (by omega) h29;rw[decide_eq_true h29,zaE,n1,g1,zaf (p_bin ⟨by omega,h29⟩ g2 g3 (fun q=>h.sh q h29) a b H),x01]at hr;rw[if_neg h1,if_neg h2,if_neg h3,if_neg h5,if_neg h6,if_neg h7,if_neg h8,if_neg h9,if_neg h13,if_neg h14,if_neg h16,if_pos h29];exact hr
 rw[decide_eq_false h29,zau,zaF,zac]at hr;by_cases h30:n.op=30
 ·obtain⟨g1,g2,g3⟩:=h.cat h30;rw[decide_eq_true h30,zaE,zaf (p_cat g1 g2 g3 a b H),x01]at hr;rw[if_neg h1,if_neg h2,if_neg h3,if_neg h5,if_neg h6,if_neg h7,if_neg h8,if_neg h9,if_neg h13,if_neg h14,if_neg h16,if_neg h29,if_pos h30];exact hr
 rw[decide_eq_false h30,zau,zaF,zac]at hr;by_cases h31:n.op=31
 ·obtain⟨g1,g2,g3,g4⟩:=h.sl h31;have e1:n.num=((n.num.toNat:Nat):Int):=(Int.toNat_of_nonneg hnum.1).symm;have e2:n.w=((n.w.toNat:Nat):Int):=(Int.toNat_of_nonneg (by omega)).symm;have g5:=p_slice (n:=wa) (i:=n.num.toNat) (m:=n.w.toNat) g1 g2 (by omega) (by omega) a H;rw[←e1,←e2]at g5;rw[decide_eq_true h31,zaE,n5,zhL,zaq (by omega) (by omega),n1,zaf g5,x01]at hr;rw[if_neg h1,if_neg h2,if_neg h3,if_neg h5,if_neg h6,if_neg h7,if_neg h8,if_neg h9,if_neg h13,if_neg h14,if_neg h16,if_neg h29,if_neg h30,if_pos h31];exact hr
 rw[decide_eq_false h31,zau,n0,n1]at hr;obtain⟨g1,g2,g3⟩:=h.ext (by omega);have e2:n.w=((n.w.toNat:Nat):Int):=(Int.toNat_of_nonneg (by omega)).symm;have g5:=p_ext (op:=n.op) (n:=wa) (m:=n.w.toNat) (by omega) g1 (by omega) (by omega) a H;rw[←e2]at g5;rw[zaf g5,x01]at hr;rw[if_neg h1,if_neg h2,if_neg h3,if_neg h5,if_neg h6,if_neg h7,if_neg h8,if_neg h9,if_neg h13,if_neg h14,if_neg h16,if_neg h29,if_neg h30,if_neg h31];exact hr
theorem q_of{n:Nd}{wa wb:Nat}{a b:W64}(h:Vok n wa wb a b)(c:W64)(H:Hp):RR BE [n.val,wv a,wv b,wv c,.int .i64 (wa:Int),.int .i64 (wb:Int)] H=some (wv (valW n wa wb a b c),H):=by
 have hr:=zfe E0 rfl n.val (wv a) (wv b) (wv c) (.int .i64 (wa:Int)) (.int .i64 (wb:Int)) H;unfold zdh at hr;have hop:=h.op;have hnum:=h.num;unfold valW;rw[n0,zaF,zac]at hr;by_cases h1:n.op=1
 ·rw[decide_eq_true h1,zaE]at hr;rw[if_pos h1];exact hr
 rw[decide_eq_false h1,zau,n0,zaF,zac]at hr;by_cases h3:n.op=3
 ·rw[decide_eq_true h3,zaE,n5,num_wv hnum]at hr;rw[if_neg h1,if_neg (by omega),if_pos h3];exact hr
 rw[decide_eq_false h3,zau,n0,zaF,zac]at hr;by_cases h5:n.op=5
 ·rw[decide_eq_true h5,zaE,one_sub]at hr;rw[if_neg h1,if_neg (by omega),if_neg h3,if_pos h5];exact hr
 rw[decide_eq_false h5,zau,n0,zaF,zac]at hr;by_cases h6:n.op=6
 ·obtain⟨t1,t2⟩:=h.t (by omega) (by omega);rw[decide_eq_true h6,zaE,zro]at hr;rw[if_neg h1,if_neg (by omega),if_neg h3,if_neg h5,if_pos h6];rcases tr01 t1 with rfl|rfl<;>rcases tr01 t2 with rfl|rfl<;>exact hr
 rw[decide_eq_false h6,zau,n0,zaF,zac]at hr;by_cases h7:n.op=7
 ·obtain⟨t1,t2⟩:=h.t (by omega) (by omega);rw[decide_eq_true h7,zaE,b_add,zro,b_sub]at hr;rw[if_neg h1,if_neg (by omega),if_neg h3,if_neg h5,if_neg h6,if_pos h7];rcases tr01 t1 with rfl|rfl<;>rcases tr01 t2 with rfl|rfl<;>exact hr
 rw[decide_eq_false h7,zau,n0,zaF,zac]at hr;by_cases h8:n.op=8
 ·obtain⟨t1,t2⟩:=h.t (by omega) (by omega);rw[decide_eq_true h8,zaE,b_neq,zaf (q_one _ H)]at hr;rw[if_neg h1,if_neg (by omega),if_neg h3,if_neg h5,if_neg h6,if_neg h7,if_pos h8];rcases tr01 t1 with rfl|rfl<;>rcases tr01 t2 with rfl|rfl<;>exact hr
 rw[decide_eq_false h8,zau,n0,zaF,zac]at hr;by_cases h9:n.op=9
 ·rw[decide_eq_true h9,zaE,zpq,zaf (q_one _ H)]at hr;rw[if_neg h1,if_neg (by omega),if_neg h3,if_neg h5,if_neg h6,if_neg h7,if_neg h8,if_pos h9];exact hr
 rw[decide_eq_false h9,zau,n0,zbt,zac]at hr;by_cases h2:n.op=2
 ·have f10:decide (n.op≥10)=false:=decide_eq_false (by omega);have f14:decide (n.op=14)=false:=decide_eq_false (by omega);have f15:decide (n.op=15)=false:=decide_eq_false (by omega);have f16:decide (n.op=16)=false:=decide_eq_false (by omega);have f17:decide (n.op≥17)=false:=decide_eq_false (by omega);have f30:decide (n.op=30)=false:=decide_eq_false (by omega);have f31:decide (n.op=31)=false:=decide_eq_false (by omega);have f32:decide (n.op=32)=false:=decide_eq_false (by omega);have f33:decide (n.op=33)=false:=decide_eq_false (by omega);simp only[f10,zau,zal,zaA,qg0,zac,n0,zaF,zbt,f14,f15,f16,f17,f30,f31,f32,f33]at hr;rw[if_neg h1,if_pos h2];exact hr
 have ht:∀{p:Prop} [Decidable p],p→decide p=true:=fun h=>decide_eq_true h;have g10:decide (n.op≥10)=true:=ht (by omega);rw[g10,zaE,n0,zb0,zal,zaA]at hr;simp only[qg0]at hr;rw[zac]at hr;by_cases h13:n.op≤13
 ·rw[decide_eq_true h13,zaE,n0,zaf (q_cmp ⟨by omega,h13⟩ (h.cmp (by omega) h13).1 (h.cmp (by omega) h13).2 a b H),x01,zaf (q_one _ H)]at hr;rw[if_neg h1,if_neg h2,if_neg h3,if_neg h5,if_neg h6,if_neg h7,if_neg h8,if_neg h9,if_pos h13];exact hr
 rw[decide_eq_false h13,zau,n0,zaF,zac]at hr;by_cases h14:n.op=14
 ·have hz:∀(k:Value→Option (Value×Hp)),pBin PP .eql Ab (wv a) (.int .u64 1) k=k (.bool (decide (a=1#64))):=fun k=>zpq _ a 1#64 k;rw[decide_eq_true h14,zaE,hz,zac]at hr;rw[if_neg h1,if_neg h2,if_neg h3,if_neg h5,if_neg h6,if_neg h7,if_neg h8,if_neg h9,if_neg h13,if_pos h14];by_cases q:a=1#64
  ·rw[decide_eq_true q,zaE]at hr;rw[if_pos q];exact hr
  ·rw[decide_eq_false q,zau]at hr;rw[if_neg q];exact hr
 rw[decide_eq_false h14,zau]at hr;by_cases h16:n.op≤16
 ·obtain⟨g1,g2,g3⟩:=h.un (by omega) (by omega);rw[n0,zaF,zac]at hr;by_cases q:n.op=15
  ·rw[decide_eq_true q,zaE,zal,zaA]at hr;simp only[qg0]at hr;rw[zac,zaE,n0,zaf (q_un (by omega) g2 g3 a H),x01]at hr;rw[if_neg h1,if_neg h2,if_neg h3,if_neg h5,if_neg h6,if_neg h7,if_neg h8,if_neg h9,if_neg h13,if_neg h14,if_pos h16];exact hr
  ·rw[decide_eq_false q,zau,n0,zaF,decide_eq_true (show n.op=16 by omega),zal,zaA]at hr;simp only[qg0]at hr;rw[zac,zaE,n0,zaf (q_un (by omega) g2 g3 a H),x01]at hr;rw[if_neg h1,if_neg h2,if_neg h3,if_neg h5,if_neg h6,if_neg h7,if_neg h8,if_neg h9,if_neg h13,if_neg h14,if_pos h16];exact hr
 rw[n0,eF (by omega),n0,zaF,decide_eq_false (show ¬n.op=16 by omega),zal,zaA]at hr;simp only[qg0]at hr;rw[zac,zau,n0,zbt,bT (by omega),n0,zb0,zal,zaA]at hr;simp only[qg0]at hr;rw[zac]at hr;by_cases h29:n.op≤29
 ·obtain⟨g1,g2,g3⟩:=h.un (by omega) h29;rw[decide_eq_true h29,zaE,n0,zaf (q_bin ⟨by omega,h29⟩ g2 g3 (fun q=>h.sh q h29) a b H),x01]at hr;rw[if_neg h1,if_neg h2,if_neg h3,if_neg h5,if_neg h6,if_neg h7,if_neg h8,if_neg h9,if_neg h13,if_neg h14,if_neg h16,if_pos h29];exact hr
 rw[decide_eq_false h29,zau,n0,zaF,zac]at hr;by_cases h30:n.op=30
 ·obtain⟨g1,g2,g3⟩:=h.cat h30;rw[decide_eq_true h30,zaE,zaf (q_cat g1 g2 g3 a b H),x01]at hr;rw[if_neg h1,if_neg h2,if_neg h3,if_neg h5,if_neg h6,if_neg h7,if_neg h8,if_neg h9,if_neg h13,if_neg h14,if_neg h16,if_neg h29,if_pos h30];exact hr
 rw[decide_eq_false h30,zau,n0,zaF,zac]at hr;by_cases h31:n.op=31
 ·obtain⟨g1,g2,g3,g4⟩:=h.sl h31;have e1:n.num=((n.num.toNat:Nat):Int):=(Int.toNat_of_nonneg hnum.1).symm;have e2:n.w=((n.w.toNat:Nat):Int):=(Int.toNat_of_nonneg (by omega)).symm;have g5:=q_slice (n:=wa) (i:=n.num.toNat) (m:=n.w.toNat) g1 g2 (by omega) (by omega) a H;rw[←e1,←e2]at g5;rw[decide_eq_true h31,zaE,n5,zhL,zaq (by omega) (by omega),n1,zaf g5,x01]at hr;rw[if_neg h1,if_neg h2,if_neg h3,if_neg h5,if_neg h6,if_neg h7,if_neg h8,if_neg h9,if_neg h13,if_neg h14,if_neg h16,if_neg h29,if_neg h30,if_pos h31];exact hr
 rw[decide_eq_false h31,zau,n0,zaF,zac]at hr;obtain⟨g1,g2,g3⟩:=h.ext (by omega);have e2:n.w=((n.w.toNat:Nat):Int):=(Int.toNat_of_nonneg (by omega)).symm;have g5:=q_ext (op:=n.op) (n:=wa) (m:=n.w.toNat) (by omega) g1 (by omega) (by omega) a H;rw[←e2]at g5;rw[if_neg h1,if_neg h2,if_neg h3,if_neg h5,if_neg h6,if_neg h7,if_neg h8,if_neg h9,if_neg h13,if_neg h14,if_neg h16,if_neg h29,if_neg h30,if_neg h31];by_cases h32:n.op=32
 ·rw[decide_eq_true h32,zaE,n0,n1,zaf g5,x01]at hr;exact hr
 ·rw[decide_eq_false h32,zau,n0,eT (by omega),n0,n1,zaf g5,x01]at hr;exact hr
end Go.AM.N14
namespace Go.AM.N14
open List Go Go.AM
section
variable {A:Type}
def getA(z:A)(acc:List A)(x:Int):A:=if x≤0 then z else acc.getD (x-1).toNat z
def accA(F:Nd→A→A→A→A)(z:A):List Nd→List A→List A
 |[],acc=>acc
 |n::r,acc=>accA F z r (acc++[F n (getA z acc n.a) (getA z acc n.b) (getA z acc n.c)])
def fnA(F:Nd→A→A→A→A)(z:A)(L:List Nd)(t:Nat):A:=getA z (accA F z L []) (t:Int)
theorem zqC(F:Nd→A→A→A→A)(z:A):∀(r:List Nd) (acc:List A),∃more,accA F z r acc=acc++more∧more.length=r.length
 |[],acc=>⟨[],by rw[append_nil];rfl,rfl⟩
 |n::r,acc=>by obtain⟨more,h1,h2⟩:=zqC F z r (acc++[F n (getA z acc n.a) (getA z acc n.b) (getA z acc n.c)]);exact⟨F n (getA z acc n.a) (getA z acc n.b) (getA z acc n.c)::more,by show accA F z r _=_;rw[h1,append_assoc];rfl,by rw[length_cons,length_cons,h2]⟩
theorem getA_pre{z:A}{acc more:List A}{x:Int}(h:x≤acc.length):getA z (acc++more) x=getA z acc x:=by
 unfold getA;by_cases h0:x≤0
 ·rw[if_pos h0,if_pos h0]
 ·rw[if_neg h0,if_neg h0,getD_eq_getElem?_getD,getD_eq_getElem?_getD,List.getElem?_append_left (by omega)]
theorem accA_at(F:Nd→A→A→A→A)(z:A):∀(r:List Nd) (acc:List A) (j:Nat) (n:Nd),r[j]?=some n→∃mid more,accA F z r acc=mid++more∧mid.length=acc.length+j∧more[0]?=some (F n (getA z mid n.a) (getA z mid n.b) (getA z mid n.c))
 |[],acc,j,n,h=>by cases h
 |m::r,acc,0,n,h=>by
  cases h;obtain⟨more,h1,h2⟩:=zqC F z r (acc++[F m (getA z acc m.a) (getA z acc m.b) (getA z acc m.c)]);exact⟨acc,F m (getA z acc m.a) (getA z acc m.b) (getA z acc m.c)::more,by show accA F z r _=_;rw[h1,append_assoc];rfl,rfl,rfl⟩
 |m::r,acc,j+1,n,h=>by obtain⟨mid,more,h1,h2,h3⟩:=accA_at F z r (acc++[F m (getA z acc m.a) (getA z acc m.b) (getA z acc m.c)]) j n h;exact⟨mid,more,h1,by rw[h2,length_append,length_singleton];omega,h3⟩
theorem zlW{L:List Nd}(hd:Dag L)(F:Nd→A→A→A→A)(z:A){t:Nat}(ht:1≤t){n:Nd}(hn:L[t-1]?=some n) :
  fnA F z L t=F n (fnA F z L n.a.toNat) (fnA F z L n.b.toNat) (fnA F z L n.c.toNat):=by
 obtain⟨mid,more,h1,h2,h3⟩:=accA_at F z L [] (t-1) n hn;rw[length_nil,Nat.zero_add]at h2;have ha:=hd.a _ n hn;have hb:=hd.b _ n hn;have hc:=hd.c _ n hn;have e:fnA F z L t=F n (getA z mid n.a) (getA z mid n.b) (getA z mid n.c):=by unfold fnA;rw[h1];unfold getA;rw[if_neg (by omega),getD_eq_getElem?_getD,List.getElem?_append_right (by omega),show ((t:Int)-1).toNat-mid.length=0 by omega,h3];rfl
 have k:∀x:Int,0≤x→x≤(t-1:Nat)→fnA F z L x.toNat=getA z mid x:=fun x x0 x1=>by unfold fnA;rw[h1,Int.toNat_of_nonneg x0,getA_pre (by omega)]
 rw[e,k n.a (by omega) (by omega),k n.b (by omega) (by omega),k n.c (by omega) (by omega)]
theorem fnA_ind{L:List Nd}(hd:Dag L)(F:Nd→A→A→A→A)(z:A){S:Nat→Prop}(hcl:∀t,S t→∀c∈kids L t,S c){Q:Nat→A→Prop}(hz:Q 0 z)
  (hs:∀t n,1≤t→S t→L[t-1]?=some n→Q n.a.toNat (fnA F z L n.a.toNat)→Q n.b.toNat (fnA F z L n.b.toNat)→Q n.c.toNat (fnA F z L n.c.toNat)→Q t (F n (fnA F z L n.a.toNat) (fnA F z L n.b.toNat) (fnA F z L n.c.toNat))) :
  ∀t,1≤t→t≤L.length→S t→Q t (fnA F z L t):=by
 intro t;induction t using Nat.strongRecOn with
 |_ t ih=>
  intro h1 h2 h3;have hn:L[t-1]?=some (L[t-1]'(by omega)):=List.getElem?_eq_getElem (by omega);generalize L[t-1]'(by omega)=n at hn;rw[zlW hd F z h1 hn];have hk:=zkA hd hn;have hf:=hd.a _ n hn;have hb:=hd.b _ n hn;have hc:=hd.c _ n hn;have kk:kids L t=zce n:=by unfold kids;rw[hn]
  have one:∀(j:Nat) x,[n.a,n.b,n.c][j]?=some x→(x=0∨j<(zce n).length∧1≤x)→Q x.toNat (fnA F z L x.toNat):=fun j x hx h=>by
   rcases h with rfl|⟨h,_⟩
   ·exact hz
   ·obtain⟨q1,q2,q3⟩:=hk.2.1 j x hx h;have hm:x.toNat∈kids L t:=by rw[kk];exact mem_of_getElem? q1
    exact ih x.toNat (by omega) (by omega) (by omega) (hcl t h3 _ hm)
  have hl:=hk.1;have pn:=zcy n.op;exact hs t n h1 h3 hn (one 0 n.a rfl (by rcases hf with q|q;exact .inr ⟨by omega,by omega⟩;exact .inl q.2)) (one 1 n.b rfl (by rcases hb with q|q;exact .inr ⟨by omega,by omega⟩;exact .inl q.2)) (one 2 n.c rfl (by rcases hc with q|q;exact .inr ⟨by omega,by omega⟩;exact .inl q.2))
end
noncomputable def valF(L:List Nd)(G:ByteArray→W64)(n:Nd)(x y z:W64):W64:=if n.op=4 then G n.name else valW n (wT L 0 n.a).toNat (wT L 0 n.b).toNat x y z
noncomputable def vfn(L:List Nd)(G:ByteArray→W64):Nat→W64:=fnA (valF L G) 0#64 L
def satU(n:Nat):Nat:=min n 18446744073709551615
def sizF(n:Nd)(x y z:Nat×Nat):Nat×Nat:=(satU (satU (satU (1+x.1)+y.1)+z.1),max (max x.2 y.2) z.2+1)
def sizT(L:List Nd):Nat→Nat×Nat:=fnA sizF (0,0) L
theorem satU_eq(n:Nat):satU n=if n≤18446744073709551615 then n else 18446744073709551615:=by unfold satU;split<;>omega
end Go.AM.N14
namespace Go.AM
open List Go
variable {A:Type}
def mapS(enc:A→Value)(l:List (ByteArray×A)):List (Value×Value):=l.map fun x=>(.string x.1,enc x.2)
def lkS(s:ByteArray):Nat→List (ByteArray×A)→Option (Nat×A)
 |_,[]=>none
 |i,(t,v)::r=>if (s==t)=true then some (i,v) else lkS s (i+1) r
def MapS(H:Hp)(m:Nat)(enc:A→Value)(F:ByteArray→Option A):Prop:=∃l,H.get m=some (.map (mapS enc l))∧∀t,F t=(lkS t 0 l).map Prod.snd
theorem findS(enc:A→Value)(s:ByteArray):∀(l:List (ByteArray×A)) (i:Nat),zfB PP Ac (.string s) (mapS enc l) i=some ((lkS s i l).map fun q=>(q.1,enc q.2))
 |[],i=>rfl
 |(t,w)::r,i=>by
  show (match eqT PP 10000 Ac (.string s) (.string t) with|some true=>some (some (i,enc w))|some false=>zfB PP Ac (.string s) (mapS enc r) (i+1)|none=>none)=_;rw[eq9];unfold lkS;cases h:s==t with
  |true=>simp
  |false=>
   simp only[Bool.false_eq_true,if_false];exact findS enc s r (i+1)
theorem MapS.lookV{H:Hp}{m:Nat}{enc:A→Value}{F:ByteArray→Option A}(h:MapS H m enc F)(z:Value)(t:ByteArray):Go.AM.lookV PP Ac z (.map (some m)) (.string t) H=some (match F t with|some v=>(enc v,true)|none=>(z,false)):=by obtain⟨l,h1,h2⟩:=h;unfold Go.AM.lookV;rw[zm8,h2 t];simp only[if_true,zo0,h1,findS];cases lkS t 0 l<;>rfl
theorem MapS.look2{H:Hp}{m:Nat}{enc:A→Value}{F:ByteArray→Option A}(h:MapS H m enc F)(z:Value)(t:ByteArray){α:Type}(k:Value→Option α):zbM PP Ac z (.map (some m)) (.string t) true H k=k (.tuple #[match F t with|some v=>enc v|none=>z,.bool (F t).isSome]):=by unfold zbM;rw[h.lookV];cases F t<;>rfl
theorem zo4(s:ByteArray):∀(l:List (ByteArray×A)) (i j:Nat) (w:A),lkS s i l=some (j,w)→i≤j∧l[j-i]?=some (s,w)
 |[],i,j,w,h=>by cases h
 |(t,u)::r,i,j,w,h=>by
  unfold lkS at h;split at h
  ·rename_i e;cases h;have:s=t:=(zhE s t).1 e;subst this;exact⟨Nat.le_refl _,by simp⟩
  ·obtain⟨h1,h2⟩:=zo4 s r (i+1) j w h;refine⟨by omega,?_⟩;rw[show j-i=(j-(i+1))+1 by omega];simpa using h2
theorem lkS_app(t key:ByteArray)(v:A):∀(l:List (ByteArray×A)) (i:Nat),lkS key i l=none→(lkS t i (l++[(key,v)])).map Prod.snd=if (t==key)=true then some v else (lkS t i l).map Prod.snd
 |[],i,h=>by
  show (lkS t i [(key,v)]).map Prod.snd=_;unfold lkS lkS;split<;>rfl
 |(u,w)::r,i,h=>by
  unfold lkS at h;split at h
  ·cases h
  ·rename_i ne;show (lkS t i ((u,w)::(r++[(key,v)]))).map Prod.snd=_;unfold lkS;by_cases e:(t==u)=true
   ·rw[if_pos e,if_pos e,if_neg (fun q=>ne (by rw[←(zhE t key).1 q];exact e))]
   ·rw[if_neg e,if_neg e];exact lkS_app t key v r (i+1) h
theorem lkS_set(t key:ByteArray)(v:A):∀(l:List (ByteArray×A)) (i j:Nat) (w:A),lkS key i l=some (j,w)→(lkS t i (l.set (j-i) (key,v))).map Prod.snd=if (t==key)=true then some v else (lkS t i l).map Prod.snd
 |[],i,j,w,h=>by cases h
 |(u,x)::r,i,j,w,h=>by
  unfold lkS at h;split at h
  ·rename_i e;cases h;have e:key=u:=(zhE key u).1 e;subst e;rw[Nat.sub_self,set_cons_zero];unfold lkS;by_cases q:(t==key)=true
   ·rw[if_pos q,if_pos q];rfl
   ·rw[if_neg q,if_neg q,if_neg q]
  ·rename_i ne;have hle:=(zo4 key r (i+1) j w h).1;rw[show j-i=(j-(i+1))+1 by omega,set_cons_succ];unfold lkS;by_cases q:(t==u)=true
   ·rw[if_pos q,if_pos q,if_neg (fun z=>ne (by rw[←(zhE t key).1 z];exact q))]
   ·rw[if_neg q,if_neg q];exact lkS_set t key v r (i+1) j w h
theorem MapS.upd{H:Hp}{m:Nat}{enc:A→Value}{F:ByteArray→Option A}(h:MapS H m enc F)(key:ByteArray)(v:A) :
  ∃H',(∀(α:Type) (k:Hp→Option α),pUpd PP Ac (.map (some m)) (.string key) (enc v) H k=k H')∧MapS H' m enc (fun t=>if (t==key)=true then some v else F t)∧(∀j,j≠m→H'.get j=H.get j)∧H'.next=H.next:=by
 obtain⟨l,h1,h2⟩:=h;cases hq:lkS key 0 l with
 |none=>
  refine⟨H.set m (some (.map (mapS enc (l++[(key,v)])))),fun α k=>?_,⟨l++[(key,v)],by rw[get_set,if_pos rfl],fun t=>?_⟩,fun j hj=>by rw[get_set,if_neg hj],rfl⟩
  ·have:updV PP Ac (.map (some m)) (.string key) (enc v) H=some (H.set m (some (.map (mapS enc (l++[(key,v)]))))):=by unfold updV;rw[zm8];simp only[if_true,h1,findS,hq,Option.map_none];rw[show mapS enc (l++[(key,v)])=mapS enc l++[(Value.string key,enc v)] by simp[mapS]]
   unfold pUpd;rw[this]
  ·rw[lkS_app t key v l 0 hq];dsimp only;split
   ·rfl
   ·exact h2 t
 |some q=>
  obtain⟨j,w⟩:=q;obtain⟨_,hg⟩:=zo4 key l 0 j w hq;rw[Nat.sub_zero]at hg;refine⟨H.set m (some (.map (mapS enc (l.set j (key,v))))),fun α k=>?_,⟨l.set j (key,v),by rw[get_set,if_pos rfl],fun t=>?_⟩,fun j hj=>by rw[get_set,if_neg hj],rfl⟩
  ·have hk1:(mapS enc l)[j]?=some (.string key,enc w):=by unfold mapS;rw[List.getElem?_map,hg];rfl
   have hsb:Instr.sameBits 10000 (.string key) (.string key)=true:=by simp only[Instr.sameBits];exact(zhE key key).2 rfl
   have:updV PP Ac (.map (some m)) (.string key) (enc v) H=some (H.set m (some (.map (mapS enc (l.set j (key,v)))))):=by unfold updV;rw[zm8];simp only[if_true,h1,findS,hq,Option.map_some,hk1,hsb];rw[show mapS enc (l.set j (key,v))=zjj (mapS enc l) j (.string key) (enc v) by unfold zjj mapS;rw[map_set]]
   unfold pUpd;rw[this]
  ·have:=lkS_set t key v l 0 j w hq;rw[Nat.sub_zero]at this;rw[this];dsimp only;split
   ·rfl
   ·exact h2 t
theorem MapS.new(H:Hp)(enc:A→Value):MapS (H.new (.map [])) H.next enc (fun _=>none):=⟨[],by rw[get_new,if_pos rfl];rfl,fun t=>rfl⟩
theorem MapS.keep{H H':Hp}{m:Nat}{enc:A→Value}{F:ByteArray→Option A}(h:MapS H m enc F)(hg:H'.get m=H.get m):MapS H' m enc F:=by obtain⟨l,h1,h2⟩:=h;exact⟨l,by rw[hg];exact h1,h2⟩
end Go.AM
namespace Go.AM
open Go
end Go.AM
namespace Go.AM
open List Go
def zd3(L:List Nd)(out:List Nat):Prop:=∀(i:Nat) t,out[i]?=some t→∀c∈kids L t,c∈out.take i
def Grew(L:List Nd)(l out out':List Nat):Prop:=∃new,out'=out++new∧∀(i:Nat) x,new[i]?=some x→x∈l∨∃(j:Nat) (u:Nat),i<j∧new[j]?=some u∧x∈kids L u
theorem zd3.app{L:List Nd}{out:List Nat}{t:Nat}(h:zd3 L out)(hk:∀c∈kids L t,c∈out):zd3 L (out++[t]):=by
 intro i x hx c hc;rw[List.getElem?_append]at hx;split at hx
 ·rename_i lt;rw[take_append_of_le_length (by omega)];exact h i x hx c hc
 ·have:i=out.length:=by have:=(List.getElem?_eq_some_iff.1 hx).1;simp at this;omega
  subst this;simp at hx;subst hx;rw[List.take_left' rfl];exact hk c hc
theorem Grew.refl(L:List Nd)(l out:List Nat):Grew L l out out:=⟨[],by simp,fun i x h=>by cases h⟩
theorem Grew.cons{L:List Nd}{c:Nat}{l out o1 o2:List Nat}(h:Grew L [c] out o1)(k:Grew L l o1 o2):Grew L (c::l) out o2:=by
 obtain⟨n1,e1,h1⟩:=h;obtain⟨n2,e2,h2⟩:=k;refine⟨n1++n2,by rw[e2,e1,append_assoc],fun i x hx=>?_⟩;rw[List.getElem?_append]at hx;split at hx
 ·rename_i lt;rcases h1 i x hx with q|⟨j,u,q1,q2,q3⟩
  ·rw[mem_singleton]at q;subst q;exact .inl (mem_cons_self ..)
  ·have:=(List.getElem?_eq_some_iff.1 q2).1;exact .inr ⟨j,u,q1,by rw[List.getElem?_append_left this];exact q2,q3⟩
 ·rename_i ge;rcases h2 _ x hx with q|⟨j,u,q1,q2,q3⟩
  ·exact .inl (mem_cons_of_mem _ q)
  ·exact .inr ⟨n1.length+j,u,by omega,by rw[List.getElem?_append_right (by omega),Nat.add_sub_cancel_left];exact q2,q3⟩
theorem post_good{L:List Nd}(h:Dag L):∀(t:Nat),1≤t→∀(out:List Nat),zd3 L out→zd3 L (post L t out)∧Grew L [t] out (post L t out):=by
 intro t;induction t using Nat.strongRecOn with
 |_ t ih=>
  intro ht out hc;rw[zj3 h ht];split
  ·exact⟨hc,Grew.refl ..⟩
  ·have key:∀(l:List Nat) (o:List Nat),(∀c∈l,c∈kids L t)→zd3 L o→zd3 L (posts L l o)∧Grew L l o (posts L l o):=by
    intro l;induction l with
    |nil=>exact fun o _ h=>⟨h,Grew.refl ..⟩
    |cons c l ihl=>
     intro o hl ho;have hcc:=zga h ht (hl c (mem_cons_self ..));obtain⟨a1,a2⟩:=ih c hcc.2 hcc.1 o ho;obtain⟨b1,b2⟩:=ihl _ (fun c hc=>hl c (mem_cons_of_mem _ hc)) a1;exact⟨b1,a2.cons b2⟩
   obtain⟨k1,new,e,k2⟩:=key (kids L t) out (fun c hc=>hc) hc;have hm:=(zdq h (N:=t) (kids L t) out fun c hc=>by have:=zga h ht hc;omega).2.1;refine⟨k1.app hm,new++[t],by rw[e,append_assoc],fun i x hx=>?_⟩;rw[List.getElem?_append]at hx;split at hx
   ·rename_i lt;rcases k2 i x hx with q|⟨j,u,q1,q2,q3⟩
    ·exact .inr ⟨new.length,t,lt,by rw[List.getElem?_append_right (Nat.le_refl _),Nat.sub_self];rfl,q⟩
    ·have:=(List.getElem?_eq_some_iff.1 q2).1;exact .inr ⟨j,u,q1,by rw[List.getElem?_append_left this];exact q2,q3⟩
   ·rename_i ge;have:=mem_of_getElem? hx;exact .inl this
theorem zgq{L:List Nd}(h:Dag L):∀(l o:List Nat),(∀c∈l,1≤c)→zd3 L o→zd3 L (posts L l o)∧Grew L l o (posts L l o)
 |[],o,_,ho=>⟨ho,Grew.refl ..⟩
 |c::l,o,hl,ho=>by obtain⟨a1,a2⟩:=post_good h c (hl c (mem_cons_self ..)) o ho;obtain⟨b1,b2⟩:=zgq h l _ (fun c hc=>hl c (mem_cons_of_mem _ hc)) a1;exact⟨b1,a2.cons b2⟩
theorem zgv{L:List Nd}(h:Dag L){i:Nat}{n:Nd}(hn:L[i]?=some n):(∀c∈zce n,(c:Int)=n.a∨(c:Int)=n.b∨(c:Int)=n.c)∧(∀x:Int,x=n.a∨x=n.b∨x=n.c→x≠0→∃c∈zce n,(c:Int)=x):=by
 have ha:=h.a i n hn;have hb:=h.b i n hn;have hc:=h.c i n hn;unfold zce;rcases zcy n.op with q|q|q|q<;>rw[q]
 ·refine⟨fun c hcm=>by simp at hcm,fun x hx h0=>by omega⟩
 ·refine⟨fun c hcm=>?_,fun x hx h0=>?_⟩
  ·simp at hcm;omega
  ·exact⟨n.a.toNat,by simp,by omega⟩
 ·refine⟨fun c hcm=>?_,fun x hx h0=>?_⟩
  ·simp at hcm;omega
  ·rcases hx with e|e|e
   ·exact⟨n.a.toNat,by simp,by omega⟩
   ·exact⟨n.b.toNat,by simp,by omega⟩
   ·omega
 ·refine⟨fun c hcm=>?_,fun x hx h0=>?_⟩
  ·simp at hcm;omega
  ·rcases hx with e|e|e
   ·exact⟨n.a.toNat,by simp,by omega⟩
   ·exact⟨n.b.toNat,by simp,by omega⟩
   ·exact⟨n.c.toNat,by simp,by omega⟩
structure zfO(L:List Nd)(K:List (ByteArray×Int)):Prop where
 dag:Dag L
 rt:∀m∈L,zmX L K m
 num:∀m∈L,zk3 m
 nod:∀(i j:Nat) m,L[i]?=some m→L[j]?=some m→i=j
 kn:∀m∈L,m.op=4→∃j,zbs m.name 0 K=some (j,m.w)
theorem zfO.nil:zfO [] []:=⟨Dag.nil,fun m h=>(by cases h),fun m h=>(by cases h),fun i j m h=>(by cases h),fun m h=>by cases h⟩
theorem zlF{s:ByteArray}(M:List (ByteArray×Int)):∀(K:List (ByteArray×Int)) (i:Nat) (q:Nat×Int),zbs s i K=some q→zbs s i (K++M)=some q
 |[],i,q,h=>by cases h
 |(u,v)::r,i,q,h=>by
  unfold zbs at h;show zbs s i ((u,v)::(r++M))=_;unfold zbs;split at h
  ·rename_i e;rw[if_pos e];exact h
  ·rename_i e;rw[if_neg e];exact zlF M r (i+1) q h
theorem zoY{s t:ByteArray}{w:Int}{K:List (ByteArray×Int)}{q:Nat×Int}(h:zbs t 0 K=some q):zbs t 0 (zcN s w K)=some q:=by
 unfold zcN;split
 ·exact h
 ·exact zlF _ K 0 q h
theorem znO{s:ByteArray}{w:Int}{K:List (ByteArray×Int)}(h:∀j v,zbs s 0 K=some (j,v)→v=w):∃j,zbs s 0 (zcN s w K)=some (j,w):=by
 unfold zcN;cases hq:zbs s 0 K with
 |some q=>exact⟨q.1,by rw[←h q.1 q.2 hq];exact hq⟩
 |none=>exact⟨_,ziM s s w K 0 hq⟩
theorem zqA{K:List (ByteArray×Int)}{n:Nd}(h:zbG K n=false):zcz n.name=true∧∀j v,zbs n.name 0 K=some (j,v)→v=n.w:=by unfold zbG at h;rw[Bool.or_eq_false_iff]at h;refine⟨by simpa using h.1,fun j v hv=>?_⟩;have h2:=h.2;rw[hv]at h2;simpa using h2
theorem bad_of{K:List (ByteArray×Int)}{n:Nd}(h1:zcz n.name=true)(h2:∀j v,zbs n.name 0 K=some (j,v)→v=n.w):zbG K n=false:=by
 unfold zbG;rw[h1];cases hq:zbs n.name 0 K with
 |none=>rfl
 |some q=>have:=h2 q.1 q.2 hq;simp[this]
theorem zmX.free{L:List Nd}{K:List (ByteArray×Int)}{n:Nd}(h:zmX L K n)(h4:n.op=4):zbG K n=false:=by
 cases q:zbG K n with
 |false=>rfl
 |true=>exact absurd ⟨h4,q⟩ h.nm
theorem mk_goodS{lim:Int}{L:List Nd}{K:List (ByteArray×Int)}{n:Nd}(hn:zk3 n)(h:zfO L K):zfO (mkR lim L K n).2.2.1 (mkR lim L K n).2.2.2:=by
 by_cases h0:(mkR lim L K n).2.1=0
 ·have hdag:=mk_dag (lim:=lim) (K:=K) (n:=n) h.dag;obtain⟨hr,⟨q,hq,e⟩|⟨hq,_,e⟩⟩:=zkq h0
  ·rw[e];exact h
  ·rw[e]at hdag ⊢;have hself:n.op=4→∃j,zbs n.name 0 (zcN n.name n.w K)=some (j,n.w):=fun h4=>znO (zqA (hr.free h4)).2;have hpre:∀(t:ByteArray) q,zbs t 0 K=some q→zbs t 0 (if n.op=4 then zcN n.name n.w K else K)=some q:=fun t q hq=>by
    split
    ·exact zoY hq
    ·exact hq
   refine⟨hdag,fun m hm=>?_,fun m hm=>?_,fun i j m hi hj=>?_,fun m hm h4=>?_⟩
   ·rcases mem_append.1 hm with q|q
    ·refine(h.rt m q).app fun h4=>?_;obtain⟨j,hj⟩:=h.kn m q h4;refine bad_of (zqA ((h.rt m q).free h4)).1 fun j' v hv=>?_;rw[hpre _ _ hj]at hv;cases hv;rfl
    ·rw[mem_singleton]at q;subst q;refine hr.app fun h4=>?_;rw[if_pos h4];exact zpp (hr.free h4)
   ·rcases mem_append.1 hm with q|q
    ·exact h.num m q
    ·rw[mem_singleton]at q;rw[q];exact hn
   ·have hno:=zeE n L 0 hq;rcases zk1 hi with a|⟨a1,a2⟩<;>rcases zk1 hj with b|⟨b1,b2⟩
    ·exact h.nod i j m a b
    ·subst b2;exact absurd a (hno i)
    ·subst a2;exact absurd b (hno j)
    ·rw[a1,b1]
   ·rcases mem_append.1 hm with q|q
    ·obtain⟨j,hj⟩:=h.kn m q h4;exact⟨j,hpre _ _ hj⟩
    ·rw[mem_singleton]at q;subst q;rw[if_pos h4];exact hself h4
 ·rw[mk_no h0];exact h
end Go.AM
namespace Go.AM.N14
open List Go Go.AM
structure VV where
 name:ByteArray
 w:Int
 num:Int
def VV.cells(x:VV):List Value:=[.string x.name,.int .i64 x.w,.int .u64 x.num]
def VV.val(x:VV):Value:=.agg x.cells.toArray
def VV.Ok(x:VV):Prop:=0≤x.num∧x.num<18446744073709551616
def fndV(s:ByteArray):List VV→Option VV
 |[]=>none
 |v::r=>if (s==v.name)=true then some v else fndV s r
def nmOk:List ByteArray→List ByteArray→Bool
 |_,[]=>true
 |seen,s::r=>if (seen.any fun t=>s==t)||!zcz s then false else nmOk (seen++[s]) r
def wdOk(v:VV):Bool:=decide (0≤v.w)&&decide (v.w≤64)&&decide (ziw (if v.w<1 then 1 else v.w) v.num=v.num)
def zg7(Tv:List VV):Int:=if nmOk [] (Tv.map VV.name)=true then (if Tv.all wdOk=true then 0 else 5) else 72
theorem zqh(s:ByteArray)(v:VV):∀Tv:List VV,fndV s (Tv++[v])=match fndV s Tv with|some x=>some x|none=>if (s==v.name)=true then some v else none
 |[]=>rfl
 |x::r=>by
  show (if (s==x.name)=true then some x else fndV s (r++[v]))=_;rw[show fndV s (x::r)=if (s==x.name)=true then some x else fndV s r from rfl];by_cases h:(s==x.name)=true
  ·rw[if_pos h,if_pos h]
  ·rw[if_neg h,if_neg h,zqh s v r]
theorem zqi(s:ByteArray):∀Tv:List VV,(fndV s Tv).isSome=(Tv.map VV.name).any fun t=>s==t
 |[]=>rfl
 |x::r=>by
  rw[map_cons,any_cons];unfold fndV;by_cases h:(s==x.name)=true
  ·rw[if_pos h,h];rfl
  ·rw[if_neg h,zqi s r,(Bool.eq_false_iff.2 h:(s==x.name)=false),Bool.false_or]
theorem zjE{s:ByteArray}{v:VV}:∀{Tv:List VV},fndV s Tv=some v→v∈Tv∧v.name=s
 |[],h=>by cases h
 |x::r,h=>by
  unfold fndV at h;split at h
  ·rename_i q;cases h;exact⟨mem_cons_self ..,((zhE _ _).1 q).symm⟩
  ·obtain⟨a,b⟩:=zjE h;exact⟨mem_cons_of_mem _ a,b⟩
def zbh(Tv:List VV)(s:ByteArray):W64:=match fndV s Tv with|some v=>BitVec.ofInt 64 v.num|none=>0#64
def badV(L:List Nd)(Tv:List VV)(t:Nat):Bool:=match L[t-1]? with
 |some n=>decide (n.op=4)&&(match fndV n.name Tv with|some v=>decide (v.w≠n.w)|none=>false)
 |none=>false
noncomputable def zg6(L:List Nd)(ns:List Nat)(Tv:List VV):Int×List W64:=
 if zg7 Tv≠0 then (zg7 Tv,[]) else if (posts L ns []).any (badV L Tv)=true then (71,[]) else (0,ns.map (vfn L (zbh Tv)))
theorem flat_at{A:Type}{f:A→List Value}{n:Nat}(hf:∀a,(f a).length=n):∀(l:List A) (i:Nat) (a:A),l[i]?=some a→((l.flatMap f).drop (i*n)).take n=f a
 |[],i,a,h=>by cases h
 |b::r,0,a,h=>by
  cases h;rw[Nat.zero_mul,qd0,flatMap_cons,List.take_left' (hf _)]
 |b::r,i+1,a,h=>by have h:r[i]?=some a:=h;rw[flatMap_cons,drop_append,drop_of_length_le (by rw[hf];exact Nat.le_mul_of_pos_left n (by omega)),nil_append,hf,show (i+1)*n-n=i*n by rw[Nat.succ_mul];omega];exact flat_at hf r i a h
theorem flat_len{A:Type}{f:A→List Value}{n:Nat}(hf:∀a,(f a).length=n):∀(l:List A),(l.flatMap f).length=l.length*n
 |[]=>by simp
 |b::r=>by rw[flatMap_cons,length_append,hf,flat_len hf r,length_cons,Nat.succ_mul];omega
theorem zqj{A:Type}{f:A→List Value}(hf:∀a,(f a).all one=true):∀(l:List A),(l.flatMap f).all one=true
 |[]=>rfl
 |b::r=>by rw[flatMap_cons,all_append,hf,zqj hf r];rfl
def zbT(Tv:List VV):List Value:=Tv.flatMap VV.cells
theorem vv_len(v:VV):v.cells.length=3:=rfl
theorem zm3(Tv:List VV):(zbT Tv).length=Tv.length*3:=flat_len vv_len Tv
theorem valsC_one(Tv:List VV):(zbT Tv).all one=true:=zqj (fun _=>rfl) Tv
theorem Rdb.vv{H:Hp}{x:Value}{Tv:List VV}(hx:Rdb H 3 x Tv.length (zbT Tv)){i:Nat}{v:VV}(hi:Tv[i]?=some v) :
  ∃y,Id x y∧(∀(α:Type) (kd:IntKind) (k:Value→Option α),pIdx 3 x (.int kd (i:Int)) k=k (.pointer (some ⟨y,i*3,none⟩)))∧(∀(α:Type) (k:Value→Option α),zak 3 true H (.pointer (some ⟨y,i*3,none⟩)) k=k v.val) ∧
   (∀(α:Type) (j:Nat) (z:Value),v.cells[j]?=some z→∀(k:Value→Option α),zak 1 false H (.pointer (some ⟨y,i*3+j,none⟩)) k=k z):=by
 have hlt:=(List.getElem?_eq_some_iff.1 hi).1;obtain⟨y,hy,⟨rest,own,hg⟩,hix⟩:=hx.ix hlt;have hf:=flat_at vv_len Tv i v hi;have hl:=zm3 Tv;refine⟨y,hy,hix,fun α k=>?_,fun α j z hz k=>?_⟩
 ·rw[ld_agg hg (by rw[hl];omega)];have:(zbT Tv).drop (i*3)=(Tv.flatMap VV.cells).drop (i*3):=rfl;rw[this,hf];rfl
 ·have hj:j<3:=(List.getElem?_eq_some_iff.1 hz).1;refine zf9 hg ?_ k;have:(((Tv.flatMap VV.cells).drop (i*3)).take 3)[j]?=some z:=by rw[hf];exact hz
  rw[List.getElem?_take_of_lt hj,List.getElem?_drop]at this;exact this
theorem splV{α:Type}(v:VV)(k:List Value→Option α):zaD 3 [.string ⟨#[]⟩,.int .i64 0,.int .u64 0] 0 v.val k=k v.cells:=by
 have:zbE 3 [.string ⟨#[]⟩,.int .i64 0,.int .u64 0] 0 v.val=some v.cells:=by kernel_rfl
 unfold zaD;rw[this]
theorem vcell0{α:Type}(v:VV)(k:Value→Option α):zae 1 false v.cells 0 k=k (.string v.name):=rfl
theorem zm2{α:Type}(v:VV)(k:Value→Option α):zae 1 false v.cells 1 k=k (.int .i64 v.w):=rfl
theorem vcell2{α:Type}(v:VV)(k:Value→Option α):zae 1 false v.cells 2 k=k (.int .u64 v.num):=rfl
theorem vcell3{α:Type}(v:VV)(k:Value→Option α):zae 3 true v.cells 0 k=k v.val:=rfl
def noV:VV:=⟨⟨#[]⟩,0,0⟩
theorem noV_val:Value.agg #[.string ⟨#[]⟩,.int .i64 0,.int .u64 0]=noV.val:=rfl
theorem mm_i64{α:Type}(a b:Int)(k:Value→Option α):pMM true [.int .i64 a,.int .i64 b] k=k (.int .i64 (if b>a then b else a)):=rfl
theorem znH(seen:List ByteArray)(s:ByteArray)(r:List ByteArray):nmOk seen (s::r)=if (seen.any fun t=>s==t)||!zcz s then false else nmOk (seen++[s]) r:=rfl
structure TS(B H:Hp)(m:Nat)(F:ByteArray→Option VV):Prop where
 next:B.next≤H.next
 old:∀j,j<B.next→H.get j=B.get j
 l:B.next≤m
 n:m<H.next
 map:MapS H m VV.val F
theorem TS.up{B H:Hp}{m:Nat}{F:ByteArray→Option VV}(h:TS B H m F)(v:VV) :
  ∃H',(∀(α:Type) (k:Hp→Option α),pUpd PP Ac (.map (some m)) (.string v.name) v.val H k=k H')∧TS B H' m (fun t=>if (t==v.name)=true then some v else F t):=by
 obtain⟨H',e1,e2,e3,e4⟩:=h.map.upd v.name v;have a:=h.l;exact⟨H',e1,⟨by rw[e4];exact h.next,fun j hj=>by rw[e3 j (by omega),h.old j hj],h.l,by rw[e4];exact h.n,e2⟩⟩
section
variable {B:Hp}{x:Value}{L:List VV}(hx:Rdb B 3 x L.length (zbT L))(hl:L.length≤2^40)
include hx hl
theorem zlk{m:Nat}:∀(r:List VV) (i:Nat) (H:Hp),L.drop i=r→i≤L.length→TS B H m (fun s=>fndV s (L.take i)) →
  ∃H',B.next≤H'.next∧(∀j,j<B.next→H'.get j=B.get j) ∧
   (nmOk ((L.take i).map VV.name) (r.map VV.name)=true→zas (zch RR x (.map (some m)) (.int .i64 (L.length:Int))) [.int .i64 (i:Int)] H=some (.exit 0,[.int .i64 (L.length:Int)],H')∧TS B H' m (fun s=>fndV s L)) ∧
   (nmOk ((L.take i).map VV.name) (r.map VV.name)=false→zas (zch RR x (.map (some m)) (.int .i64 (L.length:Int))) [.int .i64 (i:Int)] H=some (.ret,[.tuple #[.map none,.int .i64 72]],H'))
 |[],i,H,hr,hi,h=>by
  have hil:i=L.length:=by have:=congrArg List.length hr;rw[length_drop,length_nil]at this;omega
  subst hil;refine⟨H,h.next,h.old,fun _=>⟨?_,?_⟩,fun q=>by cases q⟩
  ·rw[zai];have:zch RR x (.map (some m)) (.int .i64 (L.length:Int)) [.int .i64 (L.length:Int)] H=some (.exit 0,[.int .i64 (L.length:Int)],H):=by unfold zch;simp only[qg0];rw[lF (Int.lt_irrefl _)]
   rw[this];rfl
  ·rw[take_length]at h;exact h
 |v::r,i,H,hr,hi,h=>by
  have hlt:i<L.length:=by have:=congrArg List.length hr;rw[length_drop,length_cons]at this;omega
  have hv:L[i]?=some v:=by
   have:(L.drop i)[0]?=some v:=by rw[hr];rfl
   rwa [List.getElem?_drop,Nat.add_zero]at this
  have hr2:L.drop (i+1)=r:=by rw[←drop_drop,hr];rfl
  have ht:L.take (i+1)=L.take i++[v]:=by rw[take_add_one,hv];rfl
  have hxH:Rdb H 3 x L.length (zbT L):=hx.keep' (fun j hj=>h.old j (hx.lt hj)) h.next;obtain⟨y,_,y1,y2,_⟩:=Rdb.vv hxH hv;have q:(i:Int)<(L.length:Int):=by omega
  have w1:IntKind.i64.wrap ((i:Int)+1)=((i+1:Nat):Int):=zaq (by omega) (by omega);have lk:∀{α:Type} (k:Value→Option α),zbM PP Ac (.agg #[.string ⟨#[]⟩,.int .i64 0,.int .u64 0]) (.map (some m)) (.string v.name) true H k=k (.tuple #[((fndV v.name (L.take i)).getD noV).val,.bool (fndV v.name (L.take i)).isSome]):=fun k=>by rw[noV_val,h.map.look2];cases fndV v.name (L.take i)<;>rfl
  have hb:=zqi v.name (L.take i);obtain⟨H1,u1,t1⟩:=h.up v;have hcase:zch RR x (.map (some m)) (.int .i64 (L.length:Int)) [.int .i64 (i:Int)] H=if ((fndV v.name (L.take i)).isSome||!zcz v.name)=true then some (.ret,[.tuple #[.map none,.int .i64 72]],H) else some (.next,[.int .i64 ((i+1:Nat):Int)],H1):=by
   unfold zch;simp only[qg0];rw[lT q,y1,y2,splV,vcell0,lk,x01,splV,zac];cases (fndV v.name (L.take i)).isSome with
   |true=>rfl
   |false=>
    rw[zau,vcell0,zaf (Go.AM.c44 _ _),za9,zac];cases zcz v.name with
    |false=>rfl
    |true=>
     show br false _ _=_;rw[zau,vcell0,vcell3,u1,zaN,w1];rfl
  rw[map_cons,znH,←hb];by_cases hc:((fndV v.name (L.take i)).isSome||!zcz v.name)=true
  ·rw[if_pos hc]at hcase ⊢;refine⟨H,h.next,h.old,fun q=>(by cases q),fun _=>?_⟩;rw[zai,hcase];rfl
  ·rw[if_neg hc]at hcase ⊢;have hF:(fun t=>if (t==v.name)=true then some v else fndV t (L.take i))=fun s=>fndV s (L.take (i+1)):=by
    funext t;rw[ht,zqh];by_cases e:(t==v.name)=true
    ·rw[if_pos e,if_pos e];have:t=v.name:=(zhE _ _).1 e;rw[this];cases hq:fndV v.name (L.take i) with
     |none=>rfl
     |some z=>rw[hq]at hc;exact absurd rfl hc
    ·rw[if_neg e,if_neg e];cases fndV t (L.take i)<;>rfl
   rw[hF]at t1;obtain⟨H',g1,g2,g3,g4⟩:=zlk r (i+1) H1 hr2 (by omega) t1;rw[ht,map_append]at g3 g4;refine⟨H',g1,g2,fun q=>?_,fun q=>?_⟩
   ·rw[zai,hcase];exact g3 q
   ·rw[zai,hcase];exact g4 q
theorem zlj{H:Hp}(hok:∀v∈L,v.Ok)(hH:Rdb H 3 x L.length (zbT L)):∀(r:List VV) (i:Nat),L.drop i=r→i≤L.length →
   (r.all wdOk=true→zas (zcg RR x (.int .i64 (L.length:Int))) [.int .i64 (i:Int)] H=some (.exit 2,[.int .i64 (L.length:Int)],H)) ∧
   (r.all wdOk=false→zas (zcg RR x (.int .i64 (L.length:Int))) [.int .i64 (i:Int)] H=some (.ret,[.tuple #[.map none,.int .i64 5]],H))
 |[],i,hr,hi=>by
  have hil:i=L.length:=by have:=congrArg List.length hr;rw[length_drop,length_nil]at this;omega
  subst hil;refine⟨fun _=>?_,fun q=>by cases q⟩;rw[zai];have:zcg RR x (.int .i64 (L.length:Int)) [.int .i64 (L.length:Int)] H=some (.exit 2,[.int .i64 (L.length:Int)],H):=by unfold zcg;simp only[qg0];rw[lF (Int.lt_irrefl _)]
  rw[this];rfl
 |v::r,i,hr,hi=>by
  have hlt:i<L.length:=by have:=congrArg List.length hr;rw[length_drop,length_cons]at this;omega
  have hv:L[i]?=some v:=by
   have:(L.drop i)[0]?=some v:=by rw[hr];rfl
   rwa [List.getElem?_drop,Nat.add_zero]at this
  have hr2:L.drop (i+1)=r:=by rw[←drop_drop,hr];rfl
  obtain⟨y,_,y1,y2,_⟩:=Rdb.vv hH hv;have q:(i:Int)<(L.length:Int):=by omega
  have w1:IntKind.i64.wrap ((i:Int)+1)=((i+1:Nat):Int):=zaq (by omega) (by omega);obtain⟨n0,n1⟩:=hok v (mem_of_getElem? hv);have e:(if (1:Int)>v.w then (1:Int) else v.w)=if v.w<1 then 1 else v.w:=rfl;have hcase:zcg RR x (.int .i64 (L.length:Int)) [.int .i64 (i:Int)] H=if wdOk v=true then some (.next,[.int .i64 ((i+1:Nat):Int)],H) else some (.ret,[.tuple #[.map none,.int .i64 5]],H):=by
   unfold zcg wdOk;simp only[qg0];rw[lT q,y1,y2,splV,zm2,zaV,zac];by_cases a:v.w<0
   ·rw[decide_eq_true a,zaE,decide_eq_false (show ¬0≤v.w by omega)];rfl
   ·rw[decide_eq_false a,zau,zm2,zbp,zac,decide_eq_true (show 0≤v.w by omega)];by_cases b:v.w>64
    ·rw[decide_eq_true b,zaE,decide_eq_false (show ¬v.w≤64 by omega)];rfl
    ·rw[decide_eq_false b,zau,zm2,mm_i64,vcell2,zaf (Go.AM.c45 _ _ n0 n1 _),vcell2,za5,zac,decide_eq_true (show v.w≤64 by omega),e,zaN,w1];by_cases c:ziw (if v.w<1 then 1 else v.w) v.num=v.num
     ·rw[c,decide_eq_false (by simp),zau,decide_eq_true rfl];rfl
     ·rw[decide_eq_true c,zaE,decide_eq_false c];rfl
  obtain⟨g1,g2⟩:=zlj hok hH r (i+1) hr2 (by omega);rw[all_cons];cases hw:wdOk v with
  |true=>
   rw[hw,if_pos rfl]at hcase;rw[Bool.true_and,zai,hcase];exact⟨g1,g2⟩
  |false=>
   rw[hw,if_neg (by decide)]at hcase;refine⟨fun q=>(by cases q),fun _=>?_⟩;rw[zai,hcase];rfl
theorem c_told(hok:∀v∈L,v.Ok):∃v H',RR BK [x] B=some (.tuple #[v,.int .i64 (zg7 L)],H')∧Frm (fun _=>False) B H'∧(zg7 L=0→∃m,v=.map (some m)∧B.next≤m∧m<H'.next∧MapS H' m VV.val (fun s=>fndV s L)):=by
 have hr:=(zoy E0 rfl x B).trans (zpa _ _ _);have t0:TS B (B.new (.map [])) B.next (fun s=>fndV s (L.take 0)):=⟨by show B.next≤B.next+1;omega,fun j hj=>by rw[get_new,if_neg (by omega)],Nat.le_refl _,by show B.next<B.next+1;omega,MapS.new B VV.val⟩
 obtain⟨H1,a1,a2,a3,a4⟩:=zlk hx hl L 0 _ rfl (Nat.zero_le _) t0;rw[take_zero,map_nil]at a3 a4;have hh:∀(n:Int) (f:Option (Value×Hp)),ziK (.int .i64 n) f=f:=fun n f=>rfl;have hm:∀(H:Hp) (f:Value→Hp→Option (Value×Hp)),zcm H f=f (.map (some H.next)) (H.new (.map [])):=fun H f=>rfl;have z0:((0:Nat):Int)=0:=rfl;rw[z0]at a3 a4;rw[hx.len,hh,hm,hx.len]at hr;unfold zg7;have fr:Frm (fun _=>False) B H1:=⟨a1,fun j hj _=>a2 j hj⟩
 cases hn:nmOk [] (L.map VV.name) with
 |false=>
  rw[a4 hn]at hr;rw[if_neg (by decide)];exact⟨_,H1,hr,fr,fun q=>absurd q (by decide)⟩
 |true=>
  obtain⟨b1,b2⟩:=a3 hn;have hx1:Rdb H1 3 x L.length (zbT L):=hx.keep' (fun j hj=>a2 j (hx.lt hj)) a1;obtain⟨c1,c2⟩:=zlj hx hl hok hx1 L 0 rfl (Nat.zero_le _);rw[z0]at c1 c2;rw[b1,zal,za0,zaz,hx.len]at hr;rw[if_pos rfl];cases hw:L.all wdOk with
  |false=>
   rw[c2 hw]at hr;rw[if_neg (by decide)];exact⟨_,H1,hr,fr,fun q=>absurd q (by decide)⟩
  |true=>
   rw[c1 hw,zal,za0,zaz]at hr;exact⟨_,H1,hr,fr,fun _=>⟨_,rfl,b2.l,b2.n,b2.map⟩⟩
end
end Go.AM.N14
namespace Go.AM
open Go
def fw(F:Int→Int)(n:Nd):List Fld→Nat→List (List UInt8)
 |[],_=>[]
 |.p::r,k=>itoa (F ([n.a,n.b,n.c].getD k 0))::fw F n r (k+1)
 |.n::r,k=>numT n.num.toNat::fw F n r k
 |.w::r,k=>itoa n.w::fw F n r k
 |.s::r,k=>n.name.data.toList::fw F n r k
def upT(n:Nat):List Int:=(List.range n).map fun (j:Nat)=>((j+1:Nat):Int)
section
end
theorem q_seqlE(a b:ByteArray)(h:(a.toList==b.toList)=true):a=b:=by
 have h:a.toList=b.toList:=by simpa using h
 rw[Go.Lib.toList_data,Go.Lib.toList_data]at h;rw[zlX (s:=a) rfl,zlX (s:=b) rfl,h]
theorem nd_parts{M:List Nd}{K:List (ByteArray×Int)}{n:Nd}(h:zmX M K n):(zaj n.op≥1→1≤n.a∧n.a≤M.length)∧(zaj n.op<1→n.a=0)∧(zaj n.op≥2→1≤n.b∧n.b≤M.length)∧(zaj n.op<2→n.b=0)∧(zaj n.op≥3→1≤n.c∧n.c≤M.length)∧(zaj n.op<3→n.c=0) ∧
  (n.op≠3→n.op≠31→n.num=0)∧(n.op≠4→n.name=⟨#[]⟩):=by
 obtain⟨_,_,_,ha,hb,hc⟩:=zmu h.pt h.sp;have h2:=h.sp;unfold zez at h2;simp only[Bool.or_eq_true,Bool.and_eq_true,decide_eq_true_eq,not_or,not_and]at h2;refine⟨fun q=>zbx.1 (ha q),fun q=>?_,fun q=>zbx.1 (hb q),fun q=>?_,fun q=>zbx.1 (hc q),fun q=>?_,fun q1 q2=>?_,fun q=>?_⟩
 ·have:=h2.1.1.1.1 q;omega
 ·have:=h2.1.1.1.2 q;omega
 ·have:=h2.1.1.2 q;omega
 ·exact Decidable.byContradiction fun e=>h2.1.2 ⟨e,q1⟩ q2
 ·have hn:zmC n=false:=by
   cases e:zmC n with
   |false=>rfl
   |true=>exact absurd q (h2.2 e)
  unfold zmC at hn;have he:(n.name.toList==(⟨#[]⟩:ByteArray).toList)=true:=by simpa using hn
  have h3:=q_seqlE n.name ⟨#[]⟩ he;exact h3
section
end
section
end
section
end
section
end
end Go.AM
namespace Go.AM.N14
open Go Go.AM
section
end
section
end
section
end
section
end
section
end
end Go.AM.N14
namespace Go.AM.N14
open Go Go.AM Go.ChangeShapes Go.WideShapes Go.ChangeAt Go.RowKit
end Go.AM.N14
namespace Go.AM.N14
open Go Go.AM
def zcU(n:Nd)(a b c:Int):Bool:=
 if n.op≤2 then decide (n.w=0) else if n.op=3 then decide (n.w>0)&&decide (n.num≤((msk (wd n.w)).toNat:Int)) else if n.op=4 then true else if n.op=5 then decide (n.w=0)&&decide (a=0) else if n.op≤8 then decide (n.w=0)&&(decide (a=0)&&decide (b=0)) else if n.op=9 then decide (n.w=0)&&decide (a=b) else if n.op≤13 then decide (n.w=0)&&(decide (a>0)&&decide (a=b)) else if n.op=14 then decide (a=0)&&(decide (b=c)&&decide (n.w=b))
 else if n.op≤16 then decide (a>0)&&decide (n.w=a) else if n.op≤24 then decide (a>0)&&(decide (a=b)&&decide (n.w=a)) else if n.op≤29 then decide (a>0)&&(decide (a=b)&&(decide (n.w=a)&&znU a)) else if n.op=30 then decide (a>0)&&(decide (b>0)&&decide (n.w=a+b)) else if n.op=31 then decide (a>0)&&(decide (n.w≥1)&&(decide (n.w≤a)&&decide (n.num≤a-n.w))) else decide (a>0)&&decide (n.w≥a)
def ziV(n:Nd)(a b c:Int):Bool:=if n.num≠0∧n.op≠3∧n.op≠31 then false else zcU n a b c
structure Parted(L:List Nd)(n:Nd)(a b c:Int):Prop where
 a:(zaj n.op≥1∧isT L n.a=true∧wT L (-1) n.a=a)∨(zaj n.op<1∧n.a=0∧a=0)
 b:(zaj n.op≥2∧isT L n.b=true∧wT L (-1) n.b=b)∨(zaj n.op<2∧n.b=0∧b=0)
 c:(zaj n.op≥3∧isT L n.c=true∧wT L (-1) n.c=c)∨(zaj n.op<3∧n.c=0∧c=0)
theorem trim_iff{n:Nd}(hw:0<n.w∧n.w≤64)(hnum:0≤n.num∧n.num<18446744073709551616):decide (ziw n.w n.num=n.num)=decide (n.num≤((msk (wd n.w)).toNat:Int)):=by
 have e1:wd n.w=n.w.toNat:=by unfold wd;omega
 rw[e1,zmD _ (by omega)];unfold ziw;rw[if_neg (by omega)];by_cases h64:n.w≥64
 ·have:n.w.toNat=64:=by omega
  rw[if_pos h64,this,decide_eq_true rfl,decide_eq_true (by omega)]
 ·rw[if_neg h64];have hp:0<2^n.w.toNat:=Nat.two_pow_pos _;have ep:((2:Int)^n.w.toNat)=((2^n.w.toNat:Nat):Int):=by push_cast;rfl
  rw[ep];generalize 2^n.w.toNat=m at *;have:(n.num%(m:Int)=n.num)↔n.num≤((m-1:Nat):Int):=by
   constructor
   ·intro h;have:=Int.emod_lt_of_pos n.num (show (0:Int)<(m:Int) by omega);omega
   ·intro h;exact Int.emod_eq_of_lt hnum.1 (by omega)
  exact decide_eq_decide.2 this
theorem checks{n:Nd}(ho:1≤n.op∧n.op≤33)(h4:n.op≠4)(hw:0≤n.w∧n.w≤64)(hnum:0≤n.num∧n.num<18446744073709551616){L:List Nd}{a b c:Int}(hp:Parted L n a b c) :
  (zbP n.op (wT L (-1) n.a) (wT L (-1) n.b) (wT L (-1) n.c)&&zbV n (wT L (-1) n.a) (wT L (-1) n.b))=zcU n a b c:=by
 have pa:=hp.a;have pb:=hp.b;have pc:=hp.c;by_cases g1:1≤n.op∧n.op≤2
 ·have hk:zaj n.op=0:=by unfold zaj;rw[if_pos (by omega)]
  rw[hk]at pa pb pc;unfold zbP zbV zcU;rw[if_pos (show zaj n.op=0 by omega),if_pos (show n.op=1∨n.op=2∨(5≤n.op∧n.op≤13) by omega),if_pos (show n.op≤2 by omega)];rw[Bool.true_and]
 by_cases g3:n.op=3
 ·have hk:zaj n.op=0:=by unfold zaj;rw[if_pos (by omega)]
  rw[hk]at pa pb pc;unfold zbP zbV zcU;rw[if_pos (show zaj n.op=0 by omega),if_neg (show ¬(n.op=1∨n.op=2∨(5≤n.op∧n.op≤13)) by omega),if_pos (show n.op=3 by omega),if_neg (show ¬n.op≤2 by omega),if_pos (show n.op=3 by omega)];by_cases q:n.w>0
  ·rw[trim_iff ⟨q,hw.2⟩ hnum,Bool.true_and]
  ·rw[decide_eq_false q];rfl
 by_cases g5:n.op=5
 ·have hk:zaj n.op=1:=by unfold zaj;rw[if_neg (by omega),if_pos (by omega)]
  rw[hk]at pa pb pc;have ea:wT L (-1) n.a=a:=by rcases pa with⟨_,_,q⟩|⟨q,_,_⟩;exact q;exact absurd q (by decide)
  unfold zbP zbV zcU;rw[ea];rw[if_neg (show ¬(zaj n.op=0) by omega),if_pos (show n.op=5 by omega),if_pos (show n.op=1∨n.op=2∨(5≤n.op∧n.op≤13) by omega),if_neg (show ¬n.op≤2 by omega),if_neg (show ¬n.op=3 by omega),if_neg (show ¬n.op=4 by omega),if_pos (show n.op=5 by omega)]
  ac_rfl
 by_cases g6:6≤n.op∧n.op≤8
 ·have hk:zaj n.op=2:=by unfold zaj;rw[if_neg (by omega),if_neg (by omega),if_neg (by omega)]
  rw[hk]at pa pb pc;have ea:wT L (-1) n.a=a:=by rcases pa with⟨_,_,q⟩|⟨q,_,_⟩;exact q;exact absurd q (by decide)
  have eb:wT L (-1) n.b=b:=by rcases pb with⟨_,_,q⟩|⟨q,_,_⟩;exact q;exact absurd q (by decide)
  unfold zbP zbV zcU;rw[ea,eb];rw[if_neg (show ¬(zaj n.op=0) by omega),if_neg (show ¬(n.op=5) by omega),if_pos (show n.op=6∨n.op=7∨n.op=8 by omega),if_pos (show n.op=1∨n.op=2∨(5≤n.op∧n.op≤13) by omega),if_neg (show ¬n.op≤2 by omega),if_neg (show ¬n.op=3 by omega),if_neg (show ¬n.op=4 by omega),if_neg (show ¬n.op=5 by omega),if_pos (show n.op≤8 by omega)]
  ac_rfl
 by_cases g9:n.op=9
 ·have hk:zaj n.op=2:=by unfold zaj;rw[if_neg (by omega),if_neg (by omega),if_neg (by omega)]
  rw[hk]at pa pb pc;have ea:wT L (-1) n.a=a:=by rcases pa with⟨_,_,q⟩|⟨q,_,_⟩;exact q;exact absurd q (by decide)
  have eb:wT L (-1) n.b=b:=by rcases pb with⟨_,_,q⟩|⟨q,_,_⟩;exact q;exact absurd q (by decide)
  unfold zbP zbV zcU;rw[ea,eb];rw[if_neg (show ¬(zaj n.op=0) by omega),if_neg (show ¬(n.op=5) by omega),if_neg (show ¬(n.op=6∨n.op=7∨n.op=8) by omega),if_pos (show n.op=9 by omega),if_pos (show n.op=1∨n.op=2∨(5≤n.op∧n.op≤13) by omega),if_neg (show ¬n.op≤2 by omega),if_neg (show ¬n.op=3 by omega),if_neg (show ¬n.op=4 by omega),if_neg (show ¬n.op=5 by omega),if_neg (show ¬n.op≤8 by omega),if_pos (show n.op=9 by omega)]
  ac_rfl
 by_cases g10:10≤n.op∧n.op≤13
 ·have hk:zaj n.op=2:=by unfold zaj;rw[if_neg (by omega),if_neg (by omega),if_neg (by omega)]
  rw[hk]at pa pb pc;have ea:wT L (-1) n.a=a:=by rcases pa with⟨_,_,q⟩|⟨q,_,_⟩;exact q;exact absurd q (by decide)
  have eb:wT L (-1) n.b=b:=by rcases pb with⟨_,_,q⟩|⟨q,_,_⟩;exact q;exact absurd q (by decide)
  unfold zbP zbV zcU;rw[ea,eb];rw[if_neg (show ¬(zaj n.op=0) by omega),if_neg (show ¬(n.op=5) by omega),if_neg (show ¬(n.op=6∨n.op=7∨n.op=8) by omega),if_neg (show ¬(n.op=9) by omega),if_neg (show ¬(n.op=14) by omega),if_neg (show ¬(n.op=30) by omega),if_neg (show ¬(zaj n.op=1) by omega),if_pos (show n.op=1∨n.op=2∨(5≤n.op∧n.op≤13) by omega),if_neg (show ¬n.op≤2 by omega),if_neg (show ¬n.op=3 by omega),if_neg (show ¬n.op=4 by omega),if_neg (show ¬n.op=5 by omega),if_neg (show ¬n.op≤8 by omega),if_neg (show ¬n.op=9 by omega),if_pos (show n.op≤13 by omega)]
  ac_rfl
 by_cases g14:n.op=14
 ·have hk:zaj n.op=3:=by unfold zaj;rw[if_neg (by omega),if_neg (by omega),if_pos (by omega)]
  rw[hk]at pa pb pc;have ea:wT L (-1) n.a=a:=by rcases pa with⟨_,_,q⟩|⟨q,_,_⟩;exact q;exact absurd q (by decide)
  have eb:wT L (-1) n.b=b:=by rcases pb with⟨_,_,q⟩|⟨q,_,_⟩;exact q;exact absurd q (by decide)
  have ec:wT L (-1) n.c=c:=by rcases pc with⟨_,_,q⟩|⟨q,_,_⟩;exact q;exact absurd q (by decide)
  unfold zbP zbV zcU;rw[ea,eb,ec];rw[if_neg (show ¬(zaj n.op=0) by omega),if_neg (show ¬(n.op=5) by omega),if_neg (show ¬(n.op=6∨n.op=7∨n.op=8) by omega),if_neg (show ¬(n.op=9) by omega),if_pos (show n.op=14 by omega),if_neg (show ¬(n.op=1∨n.op=2∨(5≤n.op∧n.op≤13)) by omega),if_neg (show ¬(n.op=3) by omega),if_neg (show ¬(n.op=4) by omega),if_pos (show n.op=14 by omega),if_neg (show ¬n.op≤2 by omega),if_neg (show ¬n.op=3 by omega),if_neg (show ¬n.op=4 by omega),if_neg (show ¬n.op=5 by omega),if_neg (show ¬n.op≤8 by omega),if_neg (show ¬n.op=9 by omega),if_neg (show ¬n.op≤13 by omega),if_pos (show n.op=14 by omega)]
  ac_rfl
 by_cases g15:15≤n.op∧n.op≤16
 ·have hk:zaj n.op=1:=by unfold zaj;rw[if_neg (by omega),if_pos (by omega)]
  rw[hk]at pa pb pc;have ea:wT L (-1) n.a=a:=by rcases pa with⟨_,_,q⟩|⟨q,_,_⟩;exact q;exact absurd q (by decide)
  unfold zbP zbV zcU;rw[ea];rw[if_neg (show ¬(zaj n.op=0) by omega),if_neg (show ¬(n.op=5) by omega),if_neg (show ¬(n.op=6∨n.op=7∨n.op=8) by omega),if_neg (show ¬(n.op=9) by omega),if_neg (show ¬(n.op=14) by omega),if_neg (show ¬(n.op=30) by omega),if_pos (show zaj n.op=1 by omega),if_neg (show ¬(n.op=1∨n.op=2∨(5≤n.op∧n.op≤13)) by omega),if_neg (show ¬(n.op=3) by omega),if_neg (show ¬(n.op=4) by omega),if_neg (show ¬(n.op=14) by omega),if_neg (show ¬(25≤n.op∧n.op≤29) by omega),if_neg (show ¬(n.op=30) by omega),if_neg (show ¬(n.op=31) by omega),if_neg (show ¬(n.op=32∨n.op=33) by omega),if_neg (show ¬n.op≤2 by omega),if_neg (show ¬n.op=3 by omega),if_neg (show ¬n.op=4 by omega),if_neg (show ¬n.op=5 by omega),if_neg (show ¬n.op≤8 by omega),if_neg (show ¬n.op=9 by omega),if_neg (show ¬n.op≤13 by omega),if_neg (show ¬n.op=14 by omega),if_pos (show n.op≤16 by omega)]
 by_cases g17:17≤n.op∧n.op≤24
 ·have hk:zaj n.op=2:=by unfold zaj;rw[if_neg (by omega),if_neg (by omega),if_neg (by omega)]
  rw[hk]at pa pb pc;have ea:wT L (-1) n.a=a:=by rcases pa with⟨_,_,q⟩|⟨q,_,_⟩;exact q;exact absurd q (by decide)
  have eb:wT L (-1) n.b=b:=by rcases pb with⟨_,_,q⟩|⟨q,_,_⟩;exact q;exact absurd q (by decide)
  unfold zbP zbV zcU;rw[ea,eb];rw[if_neg (show ¬(zaj n.op=0) by omega),if_neg (show ¬(n.op=5) by omega),if_neg (show ¬(n.op=6∨n.op=7∨n.op=8) by omega),if_neg (show ¬(n.op=9) by omega),if_neg (show ¬(n.op=14) by omega),if_neg (show ¬(n.op=30) by omega),if_neg (show ¬(zaj n.op=1) by omega),if_neg (show ¬(n.op=1∨n.op=2∨(5≤n.op∧n.op≤13)) by omega),if_neg (show ¬(n.op=3) by omega),if_neg (show ¬(n.op=4) by omega),if_neg (show ¬(n.op=14) by omega),if_neg (show ¬(25≤n.op∧n.op≤29) by omega),if_neg (show ¬(n.op=30) by omega),if_neg (show ¬(n.op=31) by omega),if_neg (show ¬(n.op=32∨n.op=33) by omega),if_neg (show ¬n.op≤2 by omega),if_neg (show ¬n.op=3 by omega),if_neg (show ¬n.op=4 by omega),if_neg (show ¬n.op=5 by omega),if_neg (show ¬n.op≤8 by omega),if_neg (show ¬n.op=9 by omega),if_neg (show ¬n.op≤13 by omega),if_neg (show ¬n.op=14 by omega),if_neg (show ¬n.op≤16 by omega),if_pos (show n.op≤24 by omega)]
  ac_rfl
 by_cases g25:25≤n.op∧n.op≤29
 ·have hk:zaj n.op=2:=by unfold zaj;rw[if_neg (by omega),if_neg (by omega),if_neg (by omega)]
  rw[hk]at pa pb pc;have ea:wT L (-1) n.a=a:=by rcases pa with⟨_,_,q⟩|⟨q,_,_⟩;exact q;exact absurd q (by decide)
  have eb:wT L (-1) n.b=b:=by rcases pb with⟨_,_,q⟩|⟨q,_,_⟩;exact q;exact absurd q (by decide)
  unfold zbP zbV zcU;rw[ea,eb];rw[if_neg (show ¬(zaj n.op=0) by omega),if_neg (show ¬(n.op=5) by omega),if_neg (show ¬(n.op=6∨n.op=7∨n.op=8) by omega),if_neg (show ¬(n.op=9) by omega),if_neg (show ¬(n.op=14) by omega),if_neg (show ¬(n.op=30) by omega),if_neg (show ¬(zaj n.op=1) by omega),if_neg (show ¬(n.op=1∨n.op=2∨(5≤n.op∧n.op≤13)) by omega),if_neg (show ¬(n.op=3) by omega),if_neg (show ¬(n.op=4) by omega),if_neg (show ¬(n.op=14) by omega),if_pos (show 25≤n.op∧n.op≤29 by omega),if_neg (show ¬n.op≤2 by omega),if_neg (show ¬n.op=3 by omega),if_neg (show ¬n.op=4 by omega),if_neg (show ¬n.op=5 by omega),if_neg (show ¬n.op≤8 by omega),if_neg (show ¬n.op=9 by omega),if_neg (show ¬n.op≤13 by omega),if_neg (show ¬n.op=14 by omega),if_neg (show ¬n.op≤16 by omega),if_neg (show ¬n.op≤24 by omega),if_pos (show n.op≤29 by omega)]
  ac_rfl
 by_cases g30:n.op=30
 ·have hk:zaj n.op=2:=by unfold zaj;rw[if_neg (by omega),if_neg (by omega),if_neg (by omega)]
  rw[hk]at pa pb pc;have ea:wT L (-1) n.a=a:=by rcases pa with⟨_,_,q⟩|⟨q,_,_⟩;exact q;exact absurd q (by decide)
  have eb:wT L (-1) n.b=b:=by rcases pb with⟨_,_,q⟩|⟨q,_,_⟩;exact q;exact absurd q (by decide)
  unfold zbP zbV zcU;rw[ea,eb];rw[if_neg (show ¬(zaj n.op=0) by omega),if_neg (show ¬(n.op=5) by omega),if_neg (show ¬(n.op=6∨n.op=7∨n.op=8) by omega),if_neg (show ¬(n.op=9) by omega),if_neg (show ¬(n.op=14) by omega),if_pos (show n.op=30 by omega),if_neg (show ¬(n.op=1∨n.op=2∨(5≤n.op∧n.op≤13)) by omega),if_neg (show ¬(n.op=3) by omega),if_neg (show ¬(n.op=4) by omega),if_neg (show ¬(n.op=14) by omega),if_neg (show ¬(25≤n.op∧n.op≤29) by omega),if_pos (show n.op=30 by omega),if_neg (show ¬n.op≤2 by omega),if_neg (show ¬n.op=3 by omega),if_neg (show ¬n.op=4 by omega),if_neg (show ¬n.op=5 by omega),if_neg (show ¬n.op≤8 by omega),if_neg (show ¬n.op=9 by omega),if_neg (show ¬n.op≤13 by omega),if_neg (show ¬n.op=14 by omega),if_neg (show ¬n.op≤16 by omega),if_neg (show ¬n.op≤24 by omega),if_neg (show ¬n.op≤29 by omega),if_pos (show n.op=30 by omega)]
  ac_rfl
 by_cases g31:n.op=31
 ·have hk:zaj n.op=1:=by unfold zaj;rw[if_neg (by omega),if_pos (by omega)]
  rw[hk]at pa pb pc;have ea:wT L (-1) n.a=a:=by rcases pa with⟨_,_,q⟩|⟨q,_,_⟩;exact q;exact absurd q (by decide)
  unfold zbP zbV zcU;rw[ea];rw[if_neg (show ¬(zaj n.op=0) by omega),if_neg (show ¬(n.op=5) by omega),if_neg (show ¬(n.op=6∨n.op=7∨n.op=8) by omega),if_neg (show ¬(n.op=9) by omega),if_neg (show ¬(n.op=14) by omega),if_neg (show ¬(n.op=30) by omega),if_pos (show zaj n.op=1 by omega),if_neg (show ¬(n.op=1∨n.op=2∨(5≤n.op∧n.op≤13)) by omega),if_neg (show ¬(n.op=3) by omega),if_neg (show ¬(n.op=4) by omega),if_neg (show ¬(n.op=14) by omega),if_neg (show ¬(25≤n.op∧n.op≤29) by omega),if_neg (show ¬(n.op=30) by omega),if_pos (show n.op=31 by omega),if_neg (show ¬n.op≤2 by omega),if_neg (show ¬n.op=3 by omega),if_neg (show ¬n.op=4 by omega),if_neg (show ¬n.op=5 by omega),if_neg (show ¬n.op≤8 by omega),if_neg (show ¬n.op=9 by omega),if_neg (show ¬n.op≤13 by omega),if_neg (show ¬n.op=14 by omega),if_neg (show ¬n.op≤16 by omega),if_neg (show ¬n.op≤24 by omega),if_neg (show ¬n.op≤29 by omega),if_neg (show ¬n.op=30 by omega),if_pos (show n.op=31 by omega)]
  ac_rfl
 have hk:zaj n.op=1:=by unfold zaj;rw[if_neg (by omega),if_pos (by omega)]
 rw[hk]at pa pb pc;have ea:wT L (-1) n.a=a:=by rcases pa with⟨_,_,q⟩|⟨q,_,_⟩;exact q;exact absurd q (by decide)
 unfold zbP zbV zcU;rw[ea];rw[if_neg (show ¬(zaj n.op=0) by omega),if_neg (show ¬(n.op=5) by omega),if_neg (show ¬(n.op=6∨n.op=7∨n.op=8) by omega),if_neg (show ¬(n.op=9) by omega),if_neg (show ¬(n.op=14) by omega),if_neg (show ¬(n.op=30) by omega),if_pos (show zaj n.op=1 by omega),if_neg (show ¬(n.op=1∨n.op=2∨(5≤n.op∧n.op≤13)) by omega),if_neg (show ¬(n.op=3) by omega),if_neg (show ¬(n.op=4) by omega),if_neg (show ¬(n.op=14) by omega),if_neg (show ¬(25≤n.op∧n.op≤29) by omega),if_neg (show ¬(n.op=30) by omega),if_neg (show ¬(n.op=31) by omega),if_pos (show n.op=32∨n.op=33 by omega),if_neg (show ¬n.op≤2 by omega),if_neg (show ¬n.op=3 by omega),if_neg (show ¬n.op=4 by omega),if_neg (show ¬n.op=5 by omega),if_neg (show ¬n.op≤8 by omega),if_neg (show ¬n.op=9 by omega),if_neg (show ¬n.op≤13 by omega),if_neg (show ¬n.op=14 by omega),if_neg (show ¬n.op≤16 by omega),if_neg (show ¬n.op≤24 by omega),if_neg (show ¬n.op≤29 by omega),if_neg (show ¬n.op=30 by omega),if_neg (show ¬n.op=31 by omega)]
theorem shape_iff{n:Nd}(ho:1≤n.op∧n.op≤33)(h4:n.op≠4)(hw:0≤n.w∧n.w≤64)(hnum:0≤n.num∧n.num<18446744073709551616)(hnm:zmC n=false){L:List Nd}{K:List (ByteArray×Int)}{a b c:Int}(hp:Parted L n a b c):zcP L K n=0↔ziV n a b c=true:=by
 rw[zjY];have hc:=checks ho h4 hw hnum hp;have pa:=hp.a;have pb:=hp.b;have pc:=hp.c;have hsp:zez (zaj n.op) n=decide (n.num≠0∧n.op≠3∧n.op≠31):=by
  unfold zez;rw[hnm,Bool.false_and,Bool.or_false];have e1:(decide (zaj n.op<1)&&decide (n.a≠0))=false:=by
   rcases pa with⟨q,_,_⟩|⟨_,q,_⟩
   ·rw[decide_eq_false (by omega)];rfl
   ·rw[q];simp
  have e2:(decide (zaj n.op<2)&&decide (n.b≠0))=false:=by
   rcases pb with⟨q,_,_⟩|⟨_,q,_⟩
   ·rw[decide_eq_false (by omega)];rfl
   ·rw[q];simp
  have e3:(decide (zaj n.op<3)&&decide (n.c≠0))=false:=by
   rcases pc with⟨q,_,_⟩|⟨_,q,_⟩
   ·rw[decide_eq_false (by omega)];rfl
   ·rw[q];simp
  rw[e1,e2,e3];simp only[Bool.false_or];by_cases q1:n.num≠0<;>by_cases q2:n.op≠3<;>by_cases q3:n.op≠31<;>simp[q1,q2,q3]
 have hpt:zbz L n=false:=by
  unfold zbz;have e1:(decide (zaj n.op≥1)&&!isT L n.a)=false:=by
   rcases pa with⟨_,q,_⟩|⟨q,_,_⟩
   ·rw[q];simp
   ·rw[decide_eq_false (by omega)];rfl
  have e2:(decide (zaj n.op≥2)&&!isT L n.b)=false:=by
   rcases pb with⟨_,q,_⟩|⟨q,_,_⟩
   ·rw[q];simp
   ·rw[decide_eq_false (by omega)];rfl
  have e3:(decide (zaj n.op≥3)&&!isT L n.c)=false:=by
   rcases pc with⟨_,q,_⟩|⟨q,_,_⟩
   ·rw[q];simp
   ·rw[decide_eq_false (by omega)];rfl
  rw[e1,e2,e3];rfl
 unfold ziV;by_cases hq:n.num≠0∧n.op≠3∧n.op≠31
 ·rw[if_pos hq];rw[decide_eq_true hq]at hsp;exact⟨fun h=>absurd hsp h.sp,fun h=>absurd h (by decide)⟩
 ·rw[if_neg hq,←hc];rw[decide_eq_false hq]at hsp;constructor
  ·intro h;have h1:=h.so;have h2:=h.wi;rw[Bool.not_eq_false]at h1 h2;rw[h1,h2];rfl
  ·intro h;rw[Bool.and_eq_true]at h;exact⟨by omega,by omega,by rw[hpt];decide,by rw[hsp];decide,by rw[h.1];decide,by rw[h.2];decide,fun q=>h4 q.1⟩
def lv(i:Nat):List Value:=[.int .i64 (if 0<i then 1 else 0),.int .i64 (if 1<i then 2 else 0),.int .i64 (if 2<i then 3 else 0)]
theorem vok_of{n:Nd}(ho:1≤n.op∧n.op≤33)(h4:n.op≠4)(hw:0≤n.w∧n.w≤64)(hnum:0≤n.num∧n.num<18446744073709551616){wa wb:Nat}{c:Int}(hwa:wa≤64)(hwb:wb≤64){a b:W64}
  (ha:wa=0→a.toNat≤1) (hb:wb=0→b.toNat≤1) (hs:ziV n (wa:Int) (wb:Int) c=true):Vok n wa wb a b:=by
 have hB:zcU n (wa:Int) (wb:Int) c=true:=by
  unfold ziV at hs;split at hs
  ·cases hs
  ·exact hs
 unfold zcU at hB;refine⟨⟨ho.1,ho.2,h4⟩,hnum,fun q1 q2=>?_,fun q1 q2=>?_,fun q1 q2=>?_,fun q1 q2=>?_,fun q1=>?_,fun q1=>?_,fun q1=>?_⟩
 ·rw[if_neg (by omega),if_neg (by omega),if_neg (by omega),if_neg (by omega),if_pos q2]at hB;simp only[Bool.and_eq_true,decide_eq_true_eq]at hB;exact⟨ha (by omega),hb (by omega)⟩
 ·rw[if_neg (by omega),if_neg (by omega),if_neg (by omega),if_neg (by omega),if_neg (by omega),if_neg (by omega),if_pos q2]at hB;simp only[Bool.and_eq_true,decide_eq_true_eq]at hB;omega
 ·rw[if_neg (by omega),if_neg (by omega),if_neg (by omega),if_neg (by omega),if_neg (by omega),if_neg (by omega),if_neg (by omega),if_neg (by omega)]at hB;by_cases g1:n.op≤16
  ·rw[if_pos g1]at hB;simp only[Bool.and_eq_true,decide_eq_true_eq]at hB;omega
  rw[if_neg g1]at hB;by_cases g2:n.op≤24
  ·rw[if_pos g2]at hB;simp only[Bool.and_eq_true,decide_eq_true_eq]at hB;omega
  rw[if_neg g2,if_pos q2]at hB;simp only[Bool.and_eq_true,decide_eq_true_eq]at hB;omega
 ·rw[if_neg (by omega),if_neg (by omega),if_neg (by omega),if_neg (by omega),if_neg (by omega),if_neg (by omega),if_neg (by omega),if_neg (by omega),if_neg (by omega),if_neg (by omega),if_pos q2]at hB;simp only[Bool.and_eq_true,decide_eq_true_eq]at hB;exact hB.2.2.2
 ·rw[if_neg (by omega),if_neg (by omega),if_neg (by omega),if_neg (by omega),if_neg (by omega),if_neg (by omega),if_neg (by omega),if_neg (by omega),if_neg (by omega),if_neg (by omega),if_neg (by omega),if_pos q1]at hB;simp only[Bool.and_eq_true,decide_eq_true_eq]at hB;omega
 ·rw[if_neg (by omega),if_neg (by omega),if_neg (by omega),if_neg (by omega),if_neg (by omega),if_neg (by omega),if_neg (by omega),if_neg (by omega),if_neg (by omega),if_neg (by omega),if_neg (by omega),if_neg (by omega),if_pos q1]at hB;simp only[Bool.and_eq_true,decide_eq_true_eq]at hB;omega
 ·rw[if_neg (by omega),if_neg (by omega),if_neg (by omega),if_neg (by omega),if_neg (by omega),if_neg (by omega),if_neg (by omega),if_neg (by omega),if_neg (by omega),if_neg (by omega),if_neg (by omega),if_neg (by omega),if_neg (by omega)]at hB;simp only[Bool.and_eq_true,decide_eq_true_eq]at hB;omega
end Go.AM.N14
namespace Go.AM
open List Go
def mapU(A:List (Int×Int)):List (Value×Value):=A.map fun x=>(.int .i64 x.1,.int .u64 x.2)
def MapU(H:Hp)(m:Nat)(F:Int→Int):Prop:=∃A,H.get m=some (.map (mapU A))∧∀t,F t=((lkI t 0 A).map Prod.snd).getD 0
theorem findU{P:Program}{kt:TypeId}(hk:zk4 P kt)(t:Int):∀(A:List (Int×Int)) (i:Nat),zfB P kt (.int .i64 t) (mapU A) i=some ((lkI t i A).map fun q=>(q.1,.int .u64 q.2))
 |[],i=>rfl
 |(u,w)::r,i=>by
  show (match eqT P 10000 kt (.int .i64 t) (.int .i64 u) with|some true=>some (some (i,Value.int .u64 w))|some false=>zfB P kt (.int .i64 t) (mapU r) (i+1)|none=>none)=_;rw[hk.eq];unfold lkI;by_cases h:t=u
  ·rw[if_pos h,show (t==u)=true by simpa using h];rfl
  ·rw[if_neg h,show (t==u)=false by simpa using h];exact findU hk t r (i+1)
theorem MapU.look{P:Program}{kt:TypeId}(hk:zk4 P kt){H:Hp}{m:Nat}{F:Int→Int}(h:MapU H m F)(t:Int){α:Type}(k:Value→Option α):zbM P kt (.int .u64 0) (.map (some m)) (.int .i64 t) false H k=k (.int .u64 (F t)):=by obtain⟨A,h1,h2⟩:=h;unfold zbM lookV;rw[hk.sh,h2 t];simp only[if_true,zo0,h1,findU hk];cases lkI t 0 A<;>rfl
theorem MapU.upd{P:Program}{kt:TypeId}(hk:zk4 P kt){H:Hp}{m:Nat}{F:Int→Int}(h:MapU H m F)(key v:Int) :
  ∃H',(∀(α:Type) (k:Hp→Option α),pUpd P kt (.map (some m)) (.int .i64 key) (.int .u64 v) H k=k H')∧MapU H' m (fun t=>if t=key then v else F t)∧(∀j,j≠m→H'.get j=H.get j)∧H'.next=H.next:=by
 obtain⟨A,h1,h2⟩:=h;cases hq:lkI key 0 A with
 |none=>
  refine⟨H.set m (some (.map (mapU (A++[(key,v)])))),fun α k=>?_,⟨A++[(key,v)],by rw[get_set,if_pos rfl],fun t=>?_⟩,fun j hj=>by rw[get_set,if_neg hj],rfl⟩
  ·have:updV P kt (.map (some m)) (.int .i64 key) (.int .u64 v) H=some (H.set m (some (.map (mapU (A++[(key,v)]))))):=by unfold updV;rw[hk.sh];simp only[if_true,h1,findU hk,hq,Option.map_none];rw[show mapU (A++[(key,v)])=mapU A++[(Value.int .i64 key,Value.int .u64 v)] by simp[mapU]]
   unfold pUpd;rw[this]
  ·rw[zo6 t key v A 0 hq];dsimp only;split
   ·rfl
   ·rw[h2 t]
 |some q=>
  obtain⟨j,w⟩:=q;obtain⟨_,hg⟩:=zmE key A 0 j w hq;rw[Nat.sub_zero]at hg;refine⟨H.set m (some (.map (mapU (A.set j (key,v))))),fun α k=>?_,⟨A.set j (key,v),by rw[get_set,if_pos rfl],fun t=>?_⟩,fun j hj=>by rw[get_set,if_neg hj],rfl⟩
  ·have hk1:(mapU A)[j]?=some (.int .i64 key,.int .u64 w):=by unfold mapU;rw[List.getElem?_map,hg];rfl
   have hsb:Instr.sameBits 10000 (.int .i64 key) (.int .i64 key)=true:=by simp[Instr.sameBits]
   have:updV P kt (.map (some m)) (.int .i64 key) (.int .u64 v) H=some (H.set m (some (.map (mapU (A.set j (key,v)))))):=by unfold updV;rw[hk.sh];simp only[if_true,h1,findU hk,hq,Option.map_some,hk1,hsb];rw[show mapU (A.set j (key,v))=zjj (mapU A) j (.int .i64 key) (.int .u64 v) by unfold zjj mapU;rw[map_set]]
   unfold pUpd;rw[this]
  ·have:=zo5 t key v A 0 j w hq;rw[Nat.sub_zero]at this;rw[this];dsimp only;split
   ·rfl
   ·rw[h2 t]
theorem MapU.new(H:Hp):MapU (H.new (.map [])) H.next (fun _=>0):=⟨[],by rw[get_new,if_pos rfl];rfl,fun t=>rfl⟩
theorem MapU.keep{H H':Hp}{m:Nat}{F:Int→Int}(h:MapU H m F)(hg:H'.get m=H.get m):MapU H' m F:=by obtain⟨A,h1,h2⟩:=h;exact⟨A,by rw[hg];exact h1,h2⟩
end Go.AM
namespace Go.AM.N14
open Go Go.AM
end Go.AM.N14
namespace Go.AM.N14
open List Go Go.AM
theorem ikV:zk4 PP Aa:=⟨fun a b=>by kernel_rfl,fun a=>by kernel_rfl⟩
structure VS(B H:Hp)(m1 m2:Nat)(V W:Int→Int):Prop where
 next:B.next≤H.next
 old:∀j,j<B.next→H.get j=B.get j
 l1:B.next≤m1
 l2:B.next≤m2
 ne:m1≠m2
 n1:m1<H.next
 f1:MapU H m1 V
 f2:MapF H m2 W
theorem VS.up1{B H:Hp}{m1 m2:Nat}{V W:Int→Int}(h:VS B H m1 m2 V W)(key v:Int):∃H',(∀(α:Type) (k:Hp→Option α),pUpd PP Aa (.map (some m1)) (.int .i64 key) (.int .u64 v) H k=k H')∧VS B H' m1 m2 (fun t=>if t=key then v else V t) W:=by obtain⟨H',e1,e2,e3,e4⟩:=h.f1.upd ikV key v;have a:=h.l1;exact⟨H',e1,⟨by rw[e4];exact h.next,fun j hj=>by rw[e3 j (by omega),h.old j hj],h.l1,h.l2,h.ne,by rw[e4];exact h.n1,e2,h.f2.keep (e3 m2 (Ne.symm h.ne))⟩⟩
theorem VS.up2{B H:Hp}{m1 m2:Nat}{V W:Int→Int}(h:VS B H m1 m2 V W)(key v:Int):∃H',(∀(α:Type) (k:Hp→Option α),pUpd PP Aa (.map (some m2)) (.int .i64 key) (.int .i64 v) H k=k H')∧VS B H' m1 m2 V (fun t=>if t=key then v else W t):=by obtain⟨H',e1,e2,e3,e4⟩:=h.f2.upd ikV key v;have a:=h.l2;exact⟨H',e1,⟨by rw[e4];exact h.next,fun j hj=>by rw[e3 j (by omega),h.old j hj],h.l1,h.l2,h.ne,by rw[e4];exact h.n1,h.f1.keep (e3 m1 h.ne),e2⟩⟩
theorem step_val{B:Hp}{p f g:Nat}{lim:Int}{L:List Nd}{K:List (ByteArray×Int)}{sl:Value}(hst:StF B p lim L K sl f g)(hL:(L.length:Int)≤4611686018427387904){v:Value}{out:List Nat}(hv:Rdb B 1 v out.length (ints out))(hol:out.length≤2^41)
  {i t:Nat} (hi:out[i]?=some t) (ht:1≤t∧t≤L.length) {n:Nd} (hn:L[t-1]?=some n) {H:Hp} {m1 m2:Nat} {V W:Int→Int} (h:VS B H m1 m2 V W) {wa wb:Nat} {a b c:W64} (hok:Vok n wa wb a b)
  (hwa:(if n.a=(t:Int) then n.w else W n.a)=(wa:Int)) (hwb:(if n.b=(t:Int) then n.w else W n.b)=(wb:Int)) (hva:V n.a=(a.toNat:Int)) (hvb:V n.b=(b.toNat:Int)) (hvc:V n.c=(c.toNat:Int)) (v11:Value) :
  ∃H',zaO RR (.pointer (some ⟨p,0,none⟩)) v v11 (.map (some m1)) (.map (some m2)) (.int .i64 (out.length:Int)) [.int .i64 (i:Int)] H=some (.next,[.int .i64 ((i+1:Nat):Int)],H') ∧
   VS B H' m1 m2 (fun x=>if x=(t:Int) then ((valW n wa wb a b c).toNat:Int) else V x) (fun x=>if x=(t:Int) then n.w else W x):=by
 have hlt:i<out.length:=(List.getElem?_eq_some_iff.1 hi).1;have hvH:Rdb H 1 v out.length (ints out):=hv.keep' (fun j hj=>h.old j (hv.lt hj)) h.next;have hvI:Rdb H 1 v (out.map fun (t:Nat)=>(t:Int)).length (zbH (out.map fun (t:Nat)=>(t:Int))):=by rw[length_map,←zcl];exact hvH
 obtain⟨y,x1,x2⟩:=hvI.int (i:=i) (t:=(t:Int)) (by rw[List.getElem?_map,hi];rfl);have q:(i:Int)<(out.length:Int):=by omega
 have w1:IntKind.i64.wrap ((i:Int)+1)=((i+1:Nat):Int):=zaq (by omega) (by omega);have hstH:StF H p lim L K sl f g:=hst.keep (fun i hi=>h.old i (hst.foot_lt hi)) h.next;have hT:isT L (t:Int)=true:=zbx.2 ⟨by omega,by omega⟩;have hnode:zgZ L (t:Int)=n:=by unfold zgZ;rw[hT,if_pos rfl,show ((t:Int)-1).toNat=t-1 by omega,hn];rfl
 have e10:=Go.AM.c10 hstH.st hL (t:Int);rw[hnode,hT,if_pos rfl]at e10;obtain⟨H1,u2,h1⟩:=h.up2 (t:Int) n.w;have hnd:=p_node hok c H1;obtain⟨H2,u1,h2⟩:=h1.up1 (t:Int) ((valW n wa wb a b c).toNat:Int);have d4:decide (n.op≠4)=true:=decide_eq_true hok.op.2.2;have lv:∀(x:Int) (f:Value→Option Outc),zbM PP Aa (.int .u64 0) (.map (some m1)) (.int .i64 x) false H1 f=f (.int .u64 (V x)):=fun x f=>h1.f1.look ikV x f;have lw:∀(x:Int) (f:Value→Option Outc),zbM PP Aa (.int .i64 0) (.map (some m2)) (.int .i64 x) false H1 f=f (.int .i64 (if x=(t:Int) then n.w else W x)):=fun x f=>h1.f2.look ikV x f;have va:Value.int .u64 (V n.a)=wv a:=by rw[hva];rfl
 have vb:Value.int .u64 (V n.b)=wv b:=by rw[hvb];rfl
 have vc:Value.int .u64 (V n.c)=wv c:=by rw[hvc];rfl
 have u1':∀(k:Hp→Option Outc),pUpd PP Aa (.map (some m1)) (.int .i64 (t:Int)) (wv (valW n wa wb a b c)) H1 k=k H2:=fun k=>u1 _ k;refine⟨H2,?_,h2⟩;unfold zaO;simp only[qg0];rw[lT q,x1,x2,zaf e10,x01,spl7,znM,u2,zg0,za5,zac,d4,zaE,znL,zh8,lv,va,zh7,lv,vb,zi6,lv,vc,zh8,lw,hwa,zh7,lw,hwb,zaf hnd,u1',zaN,w1]
theorem wT_nn{L:List Nd}(h:∀m∈L,0≤m.w∧m.w≤64)(t:Int):0≤wT L 0 t:=by
 unfold wT;split
 ·cases q:L[(t-1).toNat]? with
  |none=>exact Int.le_refl _
  |some m=>exact(h m (mem_of_getElem? q)).1
 ·exact Int.le_refl _
theorem wT_at{L:List Nd}{t:Nat}(ht:1≤t∧t≤L.length){n:Nd}(hn:L[t-1]?=some n)(d:Int):wT L d (t:Int)=n.w:=by unfold wT;rw[zbx.2 ⟨by omega,by omega⟩,if_pos rfl,show ((t:Int)-1).toNat=t-1 by omega,hn];rfl
theorem wT_0(L:List Nd):wT L 0 0=0:=rfl
section
end
end Go.AM.N14
namespace Go.AM.N14
open Go Go.AM
theorem wT_is{L:List Nd}{x:Int}(h:1≤x∧x≤L.length):wT L (-1) x=wT L 0 x:=by unfold wT;rw[zbx.2 h,if_pos rfl,if_pos rfl];have:L[(x-1).toNat]?=some (L[(x-1).toNat]'(by omega)):=List.getElem?_eq_getElem (by omega);rw[this];rfl
theorem zpB{L:List Nd}{K:List (ByteArray×Int)}(hg:zfO L K){n:Nd}(hn:n∈L)(h4:n.op≠4):ziV n (wT L 0 n.a) (wT L 0 n.b) (wT L 0 n.c)=true:=by
 have hr:=hg.rt n hn;have ho:1≤n.op∧n.op≤33:=by have:¬(n.op<1∨n.op>33):=hr.op;omega
 have hw:0≤n.w∧n.w≤64:=by have:¬(n.w<0∨n.w>64):=hr.w;omega
 obtain⟨pa,pa0,pb,pb0,pc,pc0,_,ps⟩:=nd_parts hr;have hnm:zmC n=false:=by unfold zmC;rw[ps h4];show (!((⟨#[]⟩:ByteArray).toList==(⟨#[]⟩:ByteArray).toList))=false;rw[beq_self_eq_true];rfl
 have one:∀(k:Int) (x:Int),(zaj n.op≥k→1≤x∧x≤L.length)→(zaj n.op<k→x=0)→(zaj n.op≥k∧isT L x=true∧wT L (-1) x=wT L 0 x)∨(zaj n.op<k∧x=0∧wT L 0 x=0):=fun k x h1 h2=>by
  by_cases q:zaj n.op≥k
  ·exact .inl ⟨q,zbx.2 (h1 q),wT_is (h1 q)⟩
  ·have:=h2 (by omega);exact .inr ⟨by omega,this,by rw[this];rfl⟩
 exact(shape_iff ho h4 hw (hg.num n hn) hnm ⟨one 1 n.a pa pa0,one 2 n.b pb pb0,one 3 n.c pc pc0⟩).1 (zjY.2 hr)
end Go.AM.N14
namespace Go.AM.N14
open List Go Go.AM
def wvs(l:List W64):List Value:=l.map wv
theorem Vec.cap(H:Hp){sz bytes:Nat}{zs:List Value}(hz:zs.length=sz)(h1:zs.all one=true){n:Nat}(hb:n*bytes≤2^47) :
  ∃v H',(∀(α:Type) (k:Value→Hp→Option α),za6 sz bytes zs (.int .i64 0) (.int .i64 (n:Int)) H k=k v H')∧Vec H' sz v 0 []∧Frm (fun _=>False) H H'∧(∀j,Id v j→H.next≤j):=by
 have ra:∀n,(repl n zs).all one=true:=fun n=>by
  induction n with
  |zero=>rfl
  |succ n ih=>show (zs++repl n zs).all one=true;rw[all_append,h1,ih];rfl
 refine⟨.slice (some ⟨H.next,0,some sz⟩) 0 n,H.new (.cells (repl n zs) true),fun α k=>?_,.inr ⟨H.next,n,repl n zs,rfl,Nat.zero_le _,?_,by simp,by rw[zgp,hz];rfl,by show H.next<H.next+1;omega,ra n⟩,zcv _ _ _,fun j hj=>by cases hj;exact Nat.le_refl _⟩
 ·have e:((2:Int)^47)=((2^47:Nat):Int):=by rfl
  have hb':(n:Int)*(bytes:Int)≤2^47:=by rw[e,←Int.natCast_mul];exact Int.ofNat_le.2 hb
  have:zcB sz bytes zs (.int .i64 0) (.int .i64 (n:Int)) H=some (.slice (some ⟨H.next,0,some sz⟩) 0 n,H.new (.cells (repl n zs) true)):=by unfold zcB;dsimp only;rw[if_pos ⟨by omega,by omega,hb'⟩];rfl
  unfold za6;rw[this]
 ·rw[get_new,if_pos rfl];rfl
structure Made(B H:Hp)(v:Value)(n:Nat)(cs:List Value):Prop where
 next:B.next≤H.next
 old:∀j,j<B.next→H.get j=B.get j
 vec:Vec H 1 v n cs
 new:∀j,Id v j→B.next≤j
theorem Made.push{B H:Hp}{v:Value}{n:Nat}{cs:List Value}(h:Made B H v n cs)(x:W64)(hb:(n+1)*8≤2^47) :
  ∃v' H',(∀(α:Type) (k:Value→Hp→Option α),(zam 1 [.int .u64 0] 1 [(0,wv x)] H fun t H1=>zaH 1 8 v t H1 k)=k v' H')∧Made B H' v' (n+1) (cs++[wv x]):=by
 obtain⟨v',H',e1,e2,e3,e4,_⟩:=h.vec.push (bytes:=8) (zs:=[.int .u64 0]) (x:=wv x) (by decide) (by decide) rfl rfl rfl hb;have hn:=h.next;refine⟨v',H',e1,Nat.le_trans h.next e3.next,fun j hj=>?_,e2,fun j hj=>?_⟩
 ·rw[e3.same j (by omega) (fun q=>by have:=h.new j q;omega),h.old j hj]
 ·rcases e4 j hj with q|q
  ·exact h.new j q
  ·omega
section
variable {B:Hp}{x:Value}{ns:List Nat}(hx:RdO B 1 x ns.length (ints ns))(hl:ns.length≤2^40){vf:Nat→W64}{m1:Nat}{V:Int→Int}(hm:MapU B m1 V)(hml:m1<B.next)(hV:∀t∈ns,V (t:Int)=((vf t).toNat:Int))
include hx hl hm hml hV
theorem zpx:∀(k i:Nat) (H:Hp) (v:Value),i+k=ns.length→Made B H v i (wvs ((ns.take i).map vf)) →
  ∃H' v',zas (zbQ RR x (.map (some m1)) (.int .i64 (ns.length:Int))) [v,.int .i64 (i:Int)] H=some (.exit 2,[v',.int .i64 (ns.length:Int)],H')∧Made B H' v' ns.length (wvs (ns.map vf))
 |0,i,H,v,hk,h=>by
  have:i=ns.length:=by omega
  subst this;rw[take_length]at h;refine⟨H,v,?_,h⟩;rw[zai];have:zbQ RR x (.map (some m1)) (.int .i64 (ns.length:Int)) [v,.int .i64 (ns.length:Int)] H=some (.exit 2,[v,.int .i64 (ns.length:Int)],H):=by unfold zbQ;simp only[qg0,qg1];rw[lF (Int.lt_irrefl _)]
  rw[this];rfl
 |k+1,i,H,v,hk,h=>by
  have hlt:i<ns.length:=by omega
  have hi:ns[i]?=some ns[i]:=List.getElem?_eq_getElem hlt;generalize ns[i]=t at hi;have hxH:RdO H 1 x ns.length (ints ns):=hx.keep' (fun j hj=>h.old j (hx.lt hj)) h.next;have hxI:RdO H 1 x (ns.map fun (t:Nat)=>(t:Int)).length (zbH (ns.map fun (t:Nat)=>(t:Int))):=by rw[length_map,←zcl];exact hxH
  obtain⟨y,x1,x2⟩:=hxI.int (i:=i) (t:=(t:Int)) (by rw[List.getElem?_map,hi];rfl);have hmH:MapU H m1 V:=hm.keep (h.old m1 hml);have lv:∀(f:Value→Option Outc),zbM PP Aa (.int .u64 0) (.map (some m1)) (.int .i64 (t:Int)) false H f=f (wv (vf t)):=fun f=>by rw[hmH.look ikV,hV t (mem_of_getElem? hi)];rfl
  have q:(i:Int)<(ns.length:Int):=by omega
  have w1:IntKind.i64.wrap ((i:Int)+1)=((i+1:Nat):Int):=zaq (by omega) (by omega);obtain⟨v1,H1,p1,p2⟩:=h.push (vf t) (by omega);have hcs:wvs ((ns.take i).map vf)++[wv (vf t)]=wvs ((ns.take (i+1)).map vf):=by rw[take_add_one,hi];simp[wvs]
  rw[hcs]at p2;obtain⟨H',v',g1,g2⟩:=zpx k (i+1) H1 v1 (by omega) p2;refine⟨H',v',?_,g2⟩;rw[zai];have:zbQ RR x (.map (some m1)) (.int .i64 (ns.length:Int)) [v,.int .i64 (i:Int)] H=some (.next,[v1,.int .i64 ((i+1:Nat):Int)],H1):=by unfold zbQ;simp only[qg0,qg1];rw[lT q,x1,x2,lv,p1,zaN,w1]
  rw[this];exact g1
end
theorem zpH{α:Type}{P:Program}(T:TypeId)(a:Addr)(hT:∃t,P.underlying T=some (.pointer t))(k:Value→Option α):pBin P .eql T (.pointer (some a)) (.pointer none) k=k (.bool false):=by
 obtain⟨t,ht⟩:=hT;have:eqT P Op.maxDepth T (.pointer (some a)) (.pointer none)=some false:=by unfold Op.maxDepth;simp only[eqT,ht]
 simp only[pBin,binV,eqOp,this]
section
end
end Go.AM.N14
namespace Go.AM.N14
open Go Go.AM
structure Wd(x:Fct):Prop where
 w:0≤x.w∧x.w≤64
 l:x.least.toNat≤(msk (wd x.w)).toNat
theorem and_le{n:Nat}(hn:n≤64){x y:W64}(hx:x.toNat≤(msk n).toNat):(x&&&y).toNat≤(msk n).toNat:=(zbU hn).2 fun j hj=>by rw[BitVec.getLsbD_and,(zbU hn).1 hx j hj,Bool.false_and]
theorem or_le{n:Nat}(hn:n≤64){x y:W64}(hx:x.toNat≤(msk n).toNat)(hy:y.toNat≤(msk n).toNat):(x|||y).toNat≤(msk n).toNat:=(zbU hn).2 fun j hj=>by rw[BitVec.getLsbD_or,(zbU hn).1 hx j hj,(zbU hn).1 hy j hj,Bool.false_or]
theorem zero_le(n:Nat):(0#64).toNat≤(msk n).toNat:=Nat.zero_le _
theorem cat_le{n k m:Nat}(hm:m≤64)(hk:n+k≤m){x y:W64}(hx:x.toNat≤(msk n).toNat)(hy:y.toNat≤(msk k).toNat):(x <<< k|||y).toNat≤(msk m).toNat:=(zbU hm).2 fun j hj=>by rw[BitVec.getLsbD_or,BitVec.getLsbD_shiftLeft,(zbU (by omega)).1 hx (j-k) (by omega),(zbU (by omega)).1 hy j (by omega)];simp
theorem msk_up{n m:Nat}(hm:m≤64)(h:n≤m){x:W64}(hx:x.toNat≤(msk n).toNat):x.toNat≤(msk m).toNat:=(zbU hm).2 fun j hj=>(zbU (by omega)).1 hx j (by omega)
section
end
theorem movW_is{op:Int}(hop:25≤op∧op≤29){n k:Nat}(h0:1≤n)(hn:n≤64)(hk:k<n){x:W64}(hx:x.toNat≤(msk n).toNat):ziu op n x k (movW op n x k):=by obtain⟨v,h1,_⟩:=p_moved hop h0 hn hk hx ⟨0,fun _=>none,fun _=>none⟩;rw[zoZ h1];exact h1
section
end
section
end
section
end
section
end
theorem sorts_of{n:Nd}{a b c:Int}(hs:ziV n a b c=true):zcU n a b c=true:=by
 unfold ziV at hs;split at hs
 ·cases hs
 ·exact hs
section
end
theorem b2w_le(c:Bool)(n:Nat)(h:1≤n)(hn:n≤64):(b2w c).toNat≤(msk n).toNat:=by
 rw[zmD _ hn];have:2^1≤2^n:=Nat.pow_le_pow_right (by decide) h;cases c
 ·exact Nat.zero_le _
 ·show 1≤_;omega
theorem bin_le{op:Int}(hop:17≤op∧op≤29){n:Nat}(h0:1≤n)(hn:n≤64)(x y:W64):(binW op n x y).toNat≤(msk n).toNat:=by
 have hX:=zdN hn x;have hY:=zdN hn y;unfold binW;dsimp only;split
 ·exact and_le hn hX
 split
 ·exact or_le hn hX hY
 split
 ·exact(zbU hn).2 fun j hj=>by rw[BitVec.getLsbD_xor,(zbU hn).1 hX j hj,(zbU hn).1 hY j hj];rfl
 split
 ·exact zdN hn _
 split
 ·exact zdN hn _
 split
 ·exact zdN hn _
 split
 ·split
  ·exact Nat.le_refl _
  ·rw[BitVec.toNat_udiv];exact Nat.le_trans (Nat.div_le_self _ _) hX
 split
 ·split
  ·exact hX
  ·rw[BitVec.toNat_umod];exact Nat.le_trans (Nat.mod_le _ _) hX
 ·have hm:=movW_is (op:=op) (by omega) h0 hn (Nat.mod_lt (y&&&msk n).toNat (show n>0 by omega)) hX;exact(zbU hn).2 fun j hj=>by rw[hm j,decide_eq_false (by omega),Bool.false_and]
theorem val_le{n:Nd}(ho:1≤n.op∧n.op≤33)(h4:n.op≠4)(hw:0≤n.w∧n.w≤64)(hnum:0≤n.num∧n.num<18446744073709551616){x y z:Fct}(hx:Wd x)(hy:Wd y)(hz:Wd z)(hs:ziV n x.w y.w z.w=true) :
  (valW n x.w.toNat y.w.toNat x.least y.least z.least).toNat≤(msk (wd n.w)).toNat:=by
 have hB:=sorts_of hs;have hn:=wd_le hw.2;have hp:=wd_pos n.w;have m1:(msk 1).toNat=1:=rfl;have one:∀c:Bool,(b2w c).toNat≤(msk (wd n.w)).toNat:=fun c=>b2w_le c _ hp hn;unfold zcU at hB;unfold valW;by_cases h1:n.op=1
 ·rw[if_pos h1];exact one true
 rw[if_neg h1];by_cases h2:n.op=2
 ·rw[if_pos h2];exact zero_le _
 rw[if_neg h2];by_cases h3:n.op=3
 ·rw[if_pos h3];rw[if_neg (by omega),if_pos h3]at hB;simp only[Bool.and_eq_true,decide_eq_true_eq]at hB;rw[BitVec.toNat_ofInt];have:=hB.2;omega
 rw[if_neg h3];by_cases h5:n.op=5
 ·rw[if_pos h5];rw[if_neg (by omega),if_neg (by omega),if_neg (by omega),if_pos h5]at hB;simp only[Bool.and_eq_true,decide_eq_true_eq]at hB;have hl:=hx.l;rw[hB.2]at hl;rcases tr01 (a:=x.least) hl with e|e<;>rw[e]
  ·exact one true
  ·exact zero_le _
 rw[if_neg h5];by_cases h8:n.op≤8
 ·rw[if_neg (by omega),if_neg (by omega),if_neg (by omega),if_neg (by omega),if_pos h8]at hB;simp only[Bool.and_eq_true,decide_eq_true_eq]at hB;have lx:=hx.l;have ly:=hy.l;rw[hB.2.1,←hB.1]at lx;rw[hB.2.2,←hB.1]at ly;by_cases h6:n.op=6
  ·rw[if_pos h6];exact and_le hn lx
  rw[if_neg h6];by_cases h7:n.op=7
  ·rw[if_pos h7];exact or_le hn lx ly
  rw[if_neg h7,if_pos (by omega)];exact(zbU hn).2 fun j hj=>by rw[BitVec.getLsbD_xor,(zbU hn).1 lx j hj,(zbU hn).1 ly j hj];rfl
 rw[if_neg (by omega),if_neg (by omega),if_neg (by omega)];rw[if_neg (by omega),if_neg (by omega),if_neg (by omega),if_neg (by omega),if_neg (by omega)]at hB;by_cases h9:n.op=9
 ·rw[if_pos h9];exact one _
 rw[if_neg h9];rw[if_neg h9]at hB;by_cases h13:n.op≤13
 ·rw[if_pos h13];exact one _
 rw[if_neg h13];rw[if_neg h13]at hB;by_cases h14:n.op=14
 ·rw[if_pos h14];rw[if_pos h14]at hB;simp only[Bool.and_eq_true,decide_eq_true_eq]at hB;split
  ·rw[hB.2.2];exact hy.l
  ·rw[hB.2.2,hB.2.1];exact hz.l
 rw[if_neg h14];rw[if_neg h14]at hB;have hxw:=hx.w;by_cases h16:n.op≤16
 ·rw[if_pos h16];rw[if_pos h16]at hB;simp only[Bool.and_eq_true,decide_eq_true_eq]at hB;have ew:x.w.toNat=wd n.w:=by unfold wd;omega
  rw[ew];unfold unW;split<;>exact zdN hn _
 rw[if_neg h16];rw[if_neg h16]at hB;by_cases h29:n.op≤29
 ·rw[if_pos h29];have ew:x.w.toNat=wd n.w∧1≤x.w.toNat:=by
   by_cases h24:n.op≤24
   ·rw[if_pos h24]at hB;simp only[Bool.and_eq_true,decide_eq_true_eq]at hB;unfold wd;omega
   ·rw[if_neg h24,if_pos h29]at hB;simp only[Bool.and_eq_true,decide_eq_true_eq]at hB;unfold wd;omega
  rw[ew.1];exact bin_le ⟨by omega,h29⟩ hp hn _ _
 rw[if_neg h29];rw[if_neg (by omega),if_neg (by omega)]at hB;by_cases h30:n.op=30
 ·rw[if_pos h30];rw[if_pos h30]at hB;simp only[Bool.and_eq_true,decide_eq_true_eq]at hB;have hyw:=hy.w;unfold catW;exact cat_le hn (n:=x.w.toNat) (k:=y.w.toNat) (by unfold wd;omega) (zdN (by omega) _) (zdN (by omega) _)
 rw[if_neg h30];rw[if_neg h30]at hB;by_cases h31:n.op=31
 ·rw[if_pos h31];rw[if_pos h31]at hB;simp only[Bool.and_eq_true,decide_eq_true_eq]at hB;have ew:n.w.toNat=wd n.w:=by unfold wd;omega
  unfold zpC;rw[ew];exact zdN hn _
 rw[if_neg h31];rw[if_neg h31]at hB;simp only[Bool.and_eq_true,decide_eq_true_eq]at hB;have ew:n.w.toNat=wd n.w:=by unfold wd;omega
 unfold extW;split
 ·exact msk_up hn (n:=x.w.toNat) (by unfold wd;omega) (zdN (by omega) _)
 ·rw[ew];exact zdN hn _
end Go.AM.N14
namespace Go.AM.N14
open List Go Go.AM
section
variable {L:List Nd}{K:List (ByteArray×Int)}(hg:zfO L K){S:Nat→Prop}(hcl:∀t,S t→∀c∈kids L t,S c){G:ByteArray→W64}(hG:∀t n,1≤t→S t→L[t-1]?=some n→n.op=4→(G n.name).toNat≤(msk (wd n.w)).toNat)
theorem zkF(hg:zfO L K):∀m∈L,0≤m.w∧m.w≤64:=fun m hm=>by have:¬(m.w<0∨m.w>64):=(hg.rt m hm).w;omega
theorem wT_64(hg:zfO L K)(x:Int):0≤wT L 0 x∧wT L 0 x≤64:=by
 refine⟨wT_nn (zkF hg) x,?_⟩;unfold wT;split
 ·cases q:L[(x-1).toNat]? with
  |none=>show (0:Int)≤64;decide
  |some m=>exact(zkF hg m (mem_of_getElem? q)).2
 ·decide
include hg hcl hG
theorem vfn_le{t:Nat}(h1:1≤t)(h2:t≤L.length)(hs:S t):(vfn L G t).toNat≤(msk (wd (wT L 0 (t:Int)))).toNat:=
 fnA_ind hg.dag (valF L G) 0#64 hcl (Q:=fun t v=>v.toNat≤(msk (wd (wT L 0 (t:Int)))).toNat) (Nat.zero_le _) (fun t n h1 hs hn q1 q2 q3=>by
  have hlt:=(List.getElem?_eq_some_iff.1 hn).1;rw[wT_at ⟨h1,by omega⟩ hn 0];have hmem:=mem_of_getElem? hn;have ha:=hg.dag.a _ n hn;have hb:=hg.dag.b _ n hn;have hc:=hg.dag.c _ n hn;have ho:1≤n.op∧n.op≤33:=by have:¬(n.op<1∨n.op>33):=(hg.rt n hmem).op;omega
  unfold valF;split
  ·rename_i h4;exact hG t n h1 hs hn h4
  ·rename_i h4;rw[Int.toNat_of_nonneg (by omega)]at q1 q2 q3;exact val_le ho h4 (zkF hg n hmem) (hg.num n hmem) (x:=⟨wT L 0 n.a,0#64,0#64,fnA (valF L G) 0#64 L n.a.toNat,0#64⟩) (y:=⟨wT L 0 n.b,0#64,0#64,fnA (valF L G) 0#64 L n.b.toNat,0#64⟩) (z:=⟨wT L 0 n.c,0#64,0#64,fnA (valF L G) 0#64 L n.c.toNat,0#64⟩)
    ⟨wT_64 hg n.a,q1⟩ ⟨wT_64 hg n.b,q2⟩ ⟨wT_64 hg n.c,q3⟩ (zpB hg hmem h4)) t h1 h2 hs
theorem vok_in{t:Nat}(h1:1≤t)(hs:S t){n:Nd}(hn:L[t-1]?=some n)(h4:n.op≠4):Vok n (wT L 0 n.a).toNat (wT L 0 n.b).toNat (vfn L G n.a.toNat) (vfn L G n.b.toNat):=by
 have hmem:=mem_of_getElem? hn;have hlt:=(List.getElem?_eq_some_iff.1 hn).1;have ho:1≤n.op∧n.op≤33:=by have:¬(n.op<1∨n.op>33):=(hg.rt n hmem).op;omega
 have ha:=hg.dag.a _ n hn;have hb:=hg.dag.b _ n hn;have wa:=wT_64 hg n.a;have wb:=wT_64 hg n.b;have hkf:=(zgv hg.dag hn).2;have hkt:kids L t=zce n:=by unfold kids;rw[hn]
 have one:∀x:Int,(x=n.a∨x=n.b∨x=n.c)→0≤x→x<t→(wT L 0 x).toNat=0→(vfn L G x.toNat).toNat≤1:=fun x hx x0 x1 hw=>by
  by_cases q:x=0
  ·rw[q];exact Nat.zero_le _
  ·obtain⟨c,c1,c2⟩:=hkf x hx q;have hle:=vfn_le hg hcl hG (t:=c) (by omega) (by omega) (hcl t hs c (by rw[hkt];exact c1));have w0:=wT_nn (zkF hg) x;rw[c2,show wT L 0 x=0 by omega]at hle;rw[←c2,Int.toNat_natCast];exact hle
 exact vok_of (c:=wT L 0 n.c) ho h4 (zkF hg n hmem) (hg.num n hmem) (by omega) (by omega) (one n.a (.inl rfl) (by omega) (by omega)) (one n.b (.inr (.inl rfl)) (by omega) (by omega)) (by rw[Int.toNat_of_nonneg wa.1,Int.toNat_of_nonneg wb.1];exact zpB hg hmem h4)
end
theorem vnum{v:VV}(h:v.Ok):((BitVec.ofInt 64 v.num).toNat:Int)=v.num:=by have:=h.1;have:=h.2;rw[BitVec.toNat_ofInt];omega
theorem zjK{Tv:List VV}{s:ByteArray}{v:VV}(h:fndV s Tv=some v):zbh Tv s=BitVec.ofInt 64 v.num:=by unfold zbh;rw[h]
theorem zjL{Tv:List VV}{s:ByteArray}(h:fndV s Tv=none):zbh Tv s=0#64:=by unfold zbh;rw[h]
theorem zmT{L:List Nd}{Tv:List VV}{t:Nat}{n:Nd}(hn:L[t-1]?=some n):badV L Tv t=(decide (n.op=4)&&(match fndV n.name Tv with|some v=>decide (v.w≠n.w)|none=>false)):=by unfold badV;rw[hn]<;>rfl
theorem step_var{B:Hp}{p f g:Nat}{lim:Int}{L:List Nd}{K:List (ByteArray×Int)}{sl:Value}(hst:StF B p lim L K sl f g)(hL:(L.length:Int)≤4611686018427387904){v:Value}{out:List Nat}(hv:Rdb B 1 v out.length (ints out))(hol:out.length≤2^41)
  {m:Nat} {Tv:List VV} (hm:MapS B m VV.val (fun s=>fndV s Tv)) (hml:m<B.next) (hT:∀v∈Tv,v.Ok)
  {i t:Nat} (hi:out[i]?=some t) (ht:1≤t∧t≤L.length) {n:Nd} (hn:L[t-1]?=some n) (h4:n.op=4) {H:Hp} {m1 m2:Nat} {V W:Int→Int} (h:VS B H m1 m2 V W) (h0:V (t:Int)=0) :
  ∃H' V',VS B H' m1 m2 V' (fun x=>if x=(t:Int) then n.w else W x) ∧
   (badV L Tv t=false→zaO RR (.pointer (some ⟨p,0,none⟩)) v (.map (some m)) (.map (some m1)) (.map (some m2)) (.int .i64 (out.length:Int)) [.int .i64 (i:Int)] H=some (.next,[.int .i64 ((i+1:Nat):Int)],H')∧V' (t:Int)=((zbh Tv n.name).toNat:Int)∧∀x,x≠(t:Int)→V' x=V x) ∧
   (badV L Tv t=true→zaO RR (.pointer (some ⟨p,0,none⟩)) v (.map (some m)) (.map (some m1)) (.map (some m2)) (.int .i64 (out.length:Int)) [.int .i64 (i:Int)] H=some (.ret,[.tuple #[.slice none 0 0,.int .i64 71]],H')):=by
 have hlt:i<out.length:=(List.getElem?_eq_some_iff.1 hi).1;have hvH:Rdb H 1 v out.length (ints out):=hv.keep' (fun j hj=>h.old j (hv.lt hj)) h.next;have hvI:Rdb H 1 v (out.map fun (t:Nat)=>(t:Int)).length (zbH (out.map fun (t:Nat)=>(t:Int))):=by rw[length_map,←zcl];exact hvH
 obtain⟨y,x1,x2⟩:=hvI.int (i:=i) (t:=(t:Int)) (by rw[List.getElem?_map,hi];rfl);have q:(i:Int)<(out.length:Int):=by omega
 have w1:IntKind.i64.wrap ((i:Int)+1)=((i+1:Nat):Int):=zaq (by omega) (by omega);have hstH:StF H p lim L K sl f g:=hst.keep (fun i hi=>h.old i (hst.foot_lt hi)) h.next;have hT':isT L (t:Int)=true:=zbx.2 ⟨by omega,by omega⟩;have hnode:zgZ L (t:Int)=n:=by unfold zgZ;rw[hT',if_pos rfl,show ((t:Int)-1).toNat=t-1 by omega,hn];rfl
 have e10:=Go.AM.c10 hstH.st hL (t:Int);rw[hnode,hT',if_pos rfl]at e10;obtain⟨H1,u2,h1⟩:=h.up2 (t:Int) n.w;have hm1:MapS H1 m VV.val (fun s=>fndV s Tv):=hm.keep (h1.old m hml);have d4:decide (n.op≠4)=false:=decide_eq_false (fun q=>q h4);have lk:∀{α:Type} (k:Value→Option α),zbM PP Ac (.agg #[.string ⟨#[]⟩,.int .i64 0,.int .u64 0]) (.map (some m)) (.string n.name) true H1 k=k (.tuple #[((fndV n.name Tv).getD noV).val,.bool (fndV n.name Tv).isSome]):=fun k=>by rw[noV_val,hm1.look2];cases fndV n.name Tv<;>rfl
 have head:∀X,(zaO RR (.pointer (some ⟨p,0,none⟩)) v (.map (some m)) (.map (some m1)) (.map (some m2)) (.int .i64 (out.length:Int)) [.int .i64 (i:Int)] H=X) ↔
   (zaa (.bool (fndV n.name Tv).isSome) fun b58=>br b58
    (zae 1 false ((fndV n.name Tv).getD noV).cells 1 fun v59=>
    zae 1 false n.cells 1 fun v60=>
    pBin PP .neq Aa v59 v60 fun v61=>
    zaa v61 fun b62=>br b62
    (some (.ret,[(.tuple #[(.slice none 0 0),(.int .i64 71)])],H1))
    (zae 1 false ((fndV n.name Tv).getD noV).cells 2 fun v63=>
    pUpd PP Aa (.map (some m1)) (.int .i64 (t:Int)) v63 H1 fun H64=>
    pBin PP .add Aa (.int .i64 (i:Int)) (.int .i64 1) fun v65=>
    some (.next,[v65],H64)))
    (pBin PP .add Aa (.int .i64 (i:Int)) (.int .i64 1) fun v66=>
    some (.next,[v66],H1)))=X:=fun X=>by
  unfold zaO;simp only[qg0];rw[lT q,x1,x2,zaf e10,x01,spl7,znM,u2,zg0,za5,zac,d4,zau,ncell6,lk,x01,splV]
 have hb:=zmT (Tv:=Tv) hn;rw[decide_eq_true h4,Bool.true_and]at hb;cases hq:fndV n.name Tv with
 |none=>
  rw[hq]at hb head;refine⟨H1,V,h1,fun _=>⟨?_,?_,fun x _=>rfl⟩,fun z=>?_⟩
  ·rw[head];rw[show (Option.isSome (none:Option VV))=false from rfl,zac,zau,zaN,w1]
  ·rw[zjL hq,h0];rfl
  ·rw[hb]at z;cases z
 |some w=>
  rw[hq]at hb head;have hwk:=hT w (zjE hq).1;dsimp only at hb;by_cases e:w.w=n.w
  ·obtain⟨H2,u1,h2⟩:=h1.up1 (t:Int) w.num;refine⟨H2,_,h2,fun _=>⟨?_,?_,fun x hx=>?_⟩,fun z=>?_⟩
   ·rw[head];rw[show (Option.isSome (some w))=true from rfl,zac,zaE,show (some w).getD noV=w from rfl,zm2,znM,za5,bF (fun q=>q e),vcell2,u1,zaN,w1]
   ·rw[if_pos rfl,zjK hq,vnum hwk]
   ·rw[if_neg hx]
   ·rw[hb,decide_eq_false (fun q=>q e)]at z;cases z
  ·refine⟨H1,V,h1,fun z=>?_,fun _=>?_⟩
   ·rw[hb,decide_eq_true e]at z;cases z
   ·rw[head];rw[show (Option.isSome (some w))=true from rfl,zac,zaE,show (some w).getD noV=w from rfl,zm2,znM,za5,bT e]
section
variable {B:Hp}{p f g:Nat}{lim:Int}{L:List Nd}{K:List (ByteArray×Int)}{sl:Value}(hst:StF B p lim L K sl f g)(hL:(L.length:Int)≤4611686018427387904)(hd:Dag L)(hw:∀m∈L,0≤m.w∧m.w≤64)
 {v:Value}{out:List Nat}(hv:Rdb B 1 v out.length (ints out))(hol:out.length≤2^41)(hcl:zd3 L out)(hnd:out.Nodup)(hbd:∀t∈out,1≤t∧t≤L.length)
 {m:Nat}{Tv:List VV}(hm:MapS B m VV.val (fun s=>fndV s Tv))(hml:m<B.next)(hT:∀v∈Tv,v.Ok)
 (hok:∀(i t:Nat) n,out[i]?=some t→(∀u∈out.take (i+1),badV L Tv u=false)→L[t-1]?=some n→n.op≠4→Vok n (wT L 0 n.a).toNat (wT L 0 n.b).toNat (vfn L (zbh Tv) n.a.toNat) (vfn L (zbh Tv) n.b.toNat)){m1 m2:Nat}
include hst hL hd hw hv hol hcl hbd hm hml hT hok hnd
theorem zlg:∀(k i:Nat) (H:Hp) (V W:Int→Int),i+k=out.length→VS B H m1 m2 V W→(∀x:Int,(∀t∈out.take i,(t:Int)≠x)→V x=0)→W 0=0→(∀t∈out.take i,V (t:Int)=((vfn L (zbh Tv) t).toNat:Int)∧W (t:Int)=wT L 0 (t:Int))→(∀u∈out.take i,badV L Tv u=false) →
  ∃H' V' W',VS B H' m1 m2 V' W' ∧
   ((out.drop i).any (badV L Tv)=false→zas (zaO RR (.pointer (some ⟨p,0,none⟩)) v (.map (some m)) (.map (some m1)) (.map (some m2)) (.int .i64 (out.length:Int))) [.int .i64 (i:Int)] H=some (.exit 0,[.int .i64 (out.length:Int)],H')∧∀t∈out,V' (t:Int)=((vfn L (zbh Tv) t).toNat:Int)) ∧
   ((out.drop i).any (badV L Tv)=true→zas (zaO RR (.pointer (some ⟨p,0,none⟩)) v (.map (some m)) (.map (some m1)) (.map (some m2)) (.int .i64 (out.length:Int))) [.int .i64 (i:Int)] H=some (.ret,[.tuple #[.slice none 0 0,.int .i64 71]],H'))
 |0,i,H,V,W,hk,h,_,_,hin,_=>by
  have:i=out.length:=by omega
  subst this;refine⟨H,V,W,h,fun _=>⟨?_,fun t ht=>(hin t (by rw[take_length];exact ht)).1⟩,fun q=>?_⟩
  ·rw[zai];have:zaO RR (.pointer (some ⟨p,0,none⟩)) v (.map (some m)) (.map (some m1)) (.map (some m2)) (.int .i64 (out.length:Int)) [.int .i64 (out.length:Int)] H=some (.exit 0,[.int .i64 (out.length:Int)],H):=by unfold zaO;simp only[qg0];rw[lF (Int.lt_irrefl _)]
   rw[this];rfl
  ·rw[drop_length]at q;cases q
 |k+1,i,H,V,W,hk,h,h0,hw0,hin,hgo=>by
  have hlt:i<out.length:=by omega
  have hi:out[i]?=some out[i]:=List.getElem?_eq_getElem hlt;have hdrop:out.drop i=out[i]::out.drop (i+1):=drop_eq_getElem_cons hlt;generalize out[i]=t at hi hdrop;have htk:out.take (i+1)=out.take i++[t]:=by rw[take_add_one,hi];rfl
  have ht:=hbd t (mem_of_getElem? hi);have hn:L[t-1]?=some (L[t-1]'(by omega)):=List.getElem?_eq_getElem (by omega);generalize L[t-1]'(by omega)=n at hn;have hnew:∀u∈out.take i,(u:Int)≠(t:Int):=fun u hu e=>by
   have e:u=t:=by omega
   subst e;have:=hnd;rw[←take_append_drop i out,hdrop]at this;exact(nodup_append.1 this).2.2 u hu u (mem_cons_self ..) rfl
  have hkf:=(zgv hd hn).2;have hkt:kids L t=zce n:=by unfold kids;rw[hn]
  have ha:=hd.a _ n hn;have hb:=hd.b _ n hn;have hc:=hd.c _ n hn;rw[hdrop,any_cons];have next:∀(H1:Hp) (V1:Int→Int),VS B H1 m1 m2 V1 (fun x=>if x=(t:Int) then n.w else W x)→V1 (t:Int)=((vfn L (zbh Tv) t).toNat:Int)→(∀x,x≠(t:Int)→V1 x=V x)→badV L Tv t=false →
    zaO RR (.pointer (some ⟨p,0,none⟩)) v (.map (some m)) (.map (some m1)) (.map (some m2)) (.int .i64 (out.length:Int)) [.int .i64 (i:Int)] H=some (.next,[.int .i64 ((i+1:Nat):Int)],H1) →
    ∃H' V' W',VS B H' m1 m2 V' W' ∧
     ((badV L Tv t||(out.drop (i+1)).any (badV L Tv))=false→zas (zaO RR (.pointer (some ⟨p,0,none⟩)) v (.map (some m)) (.map (some m1)) (.map (some m2)) (.int .i64 (out.length:Int))) [.int .i64 (i:Int)] H=some (.exit 0,[.int .i64 (out.length:Int)],H')∧∀t∈out,V' (t:Int)=((vfn L (zbh Tv) t).toNat:Int)) ∧
     ((badV L Tv t||(out.drop (i+1)).any (badV L Tv))=true→zas (zaO RR (.pointer (some ⟨p,0,none⟩)) v (.map (some m)) (.map (some m1)) (.map (some m2)) (.int .i64 (out.length:Int))) [.int .i64 (i:Int)] H=some (.ret,[.tuple #[.slice none 0 0,.int .i64 71]],H')):=fun H1 V1 h1 v1 v2 hb0 hs=>by
   obtain⟨H',V',W',g1,g2,g3⟩:=zlg k (i+1) H1 V1 _ (by omega) h1 (fun x hx=>by
    rw[htk]at hx;rw[v2 x fun e=>hx t (mem_append_right _ (mem_singleton.2 rfl)) e.symm]
    exact h0 x fun u hu=>hx u (mem_append_left _ hu)) (by rw[if_neg (by omega)];exact hw0) (fun u hu=>by
    rw[htk]at hu;rcases mem_append.1 hu with hu|hu
    ·have hne:=hnew u hu;rw[if_neg hne,v2 _ hne];exact hin u hu
    ·rw[mem_singleton]at hu;subst hu;rw[if_pos rfl,wT_at ht hn]
     exact⟨v1,rfl⟩) (fun u hu=>by
    rw[htk]at hu;rcases mem_append.1 hu with hu|hu
    ·exact hgo u hu
    ·rw[mem_singleton]at hu;rw[hu];exact hb0)
   rw[hb0,Bool.false_or,zai,hs];exact⟨H',V',W',g1,g2,g3⟩
  by_cases h4:n.op=4
  ·obtain⟨H1,V1,h1,s1,s2⟩:=step_var hst hL hv hol hm hml hT hi ht hn h4 h (h0 _ hnew);cases hq:badV L Tv t with
   |false=>
    obtain⟨s1,s3,s4⟩:=s1 hq
    have:=next H1 V1 h1 (by
     rw[s3];unfold vfn;rw[zlW hd _ _ ht.1 hn];unfold valF
     rw[if_pos h4]) s4 hq s1
    rw[hq]at this;exact this
   |true=>
    refine⟨H1,V1,_,h1,fun z=>(by cases z),fun _=>?_⟩;rw[zai,s2 hq];rfl
  ·have hb0:badV L Tv t=false:=by rw[zmT hn,decide_eq_false h4];rfl
   have hvok:=hok i t n hi (fun u hu=>by
    rw[htk]at hu;rcases mem_append.1 hu with hu|hu
    ·exact hgo u hu
    ·rw[mem_singleton]at hu;rw[hu];exact hb0) hn h4
   have part:∀x:Int,x=n.a∨x=n.b∨x=n.c→0≤x→x<(t:Int)→V x=((vfn L (zbh Tv) x.toNat).toNat:Int)∧(if x=(t:Int) then n.w else W x)=((wT L 0 x).toNat:Int):=fun x hx h1 h2=>by
    rw[if_neg (by omega)];by_cases q:x=0
    ·subst q;rw[h0 0 (fun u hu=>by have:=hbd u (mem_of_mem_take hu);omega),hw0];refine⟨?_,by rw[wT_0];rfl⟩;rfl
    ·obtain⟨c,c1,c2⟩:=hkf x hx q;obtain⟨g1,g2⟩:=hin c (hcl i t hi c (by rw[hkt];exact c1));rw[←c2,g1,g2,Int.toNat_natCast];refine⟨rfl,?_⟩;have:=wT_nn hw (c:Int);omega
   obtain⟨pa1,pa2⟩:=part n.a (.inl rfl) (by omega) (by omega);obtain⟨pb1,pb2⟩:=part n.b (.inr (.inl rfl)) (by omega) (by omega);obtain⟨pc1,_⟩:=part n.c (.inr (.inr rfl)) (by omega) (by omega);obtain⟨H1,e1,h1⟩:=step_val hst hL hv hol hi ht hn h hvok pa2 pb2 pa1 pb1 pc1 (.map (some m))
   have:=next H1 _ h1 (by
    rw[if_pos rfl];unfold vfn;rw[zlW hd (valF L (zbh Tv)) _ ht.1 hn];show _=((valF L (zbh Tv) n _ _ _).toNat:Int)
    unfold valF
    rw[if_neg h4]) (fun x hx=>by rw[if_neg hx]) hb0 e1
   rw[hb0]at this;rw[hb0];exact this
end
end Go.AM.N14
namespace Go.AM.N14
open Go Go.AM
end Go.AM.N14
namespace Go.AM.N14
open List Go Go.AM
theorem told_le{v:VV}(h:v.Ok)(hw:wdOk v=true):(BitVec.ofInt 64 v.num).toNat≤(msk (wd v.w)).toNat:=by
 unfold wdOk at hw;simp only[Bool.and_eq_true,decide_eq_true_eq]at hw;obtain⟨⟨h1,h2⟩,h3⟩:=hw;have e:(if v.w<1 then (1:Int) else v.w)=((wd v.w:Nat):Int):=by unfold wd;split<;>omega
 have hn:=vnum h;rw[e,←hn,zl7 (wd_pos v.w) (wd_le h2)]at h3;have h4:(BitVec.ofInt 64 v.num&&&msk (wd v.w)).toNat=(BitVec.ofInt 64 v.num).toNat:=by omega
 rw[←h4];exact zdN (wd_le h2) _
theorem toldE_0{Tv:List VV}(h:zg7 Tv=0):nmOk [] (Tv.map VV.name)=true∧Tv.all wdOk=true:=by
 unfold zg7 at h;split at h
 ·split at h
  ·exact⟨by assumption,by assumption⟩
  ·cases h
 ·cases h
theorem tell_le{L:List Nd}{Tv:List VV}(hT:∀v∈Tv,v.Ok)(h0:zg7 Tv=0){t:Nat}{n:Nd}(hn:L[t-1]?=some n)(h4:n.op=4)(hb:badV L Tv t=false):(zbh Tv n.name).toNat≤(msk (wd n.w)).toNat:=by
 rw[zmT hn,decide_eq_true h4,Bool.true_and]at hb;cases hq:fndV n.name Tv with
 |none=>rw[zjL hq];exact Nat.zero_le _
 |some w=>
  rw[hq]at hb;have hwm:=(zjE hq).1;have e:w.w=n.w:=by have:=of_decide_eq_false hb;omega
  rw[zjK hq,←e];exact told_le (hT w hwm) (all_eq_true.1 (toldE_0 h0).2 w hwm)
theorem vok_pre{L:List Nd}{K:List (ByteArray×Int)}(hg:zfO L K){out:List Nat}(hcl:zd3 L out){Tv:List VV}(hT:∀v∈Tv,v.Ok)(h0:zg7 Tv=0)(hbd:∀t∈out,1≤t∧t≤L.length) :
  ∀(i t:Nat) n,out[i]?=some t→(∀u∈out.take (i+1),badV L Tv u=false)→L[t-1]?=some n→n.op≠4→Vok n (wT L 0 n.a).toNat (wT L 0 n.b).toNat (vfn L (zbh Tv) n.a.toNat) (vfn L (zbh Tv) n.b.toNat):=by
 intro i t n hi hu hn h4;have hm:t∈out.take (i+1):=by rw[take_add_one,hi];simp
 have ht:=hbd t (mem_of_getElem? hi);refine vok_in hg (S:=(· ∈ out.take (i+1))) (fun u hu c hc=>?_) (fun u m hu1 hu2 hum h4=>tell_le hT h0 hum h4 (hu u hu2)) ht.1 hm hn h4;obtain⟨j,hj⟩:=List.getElem?_of_mem hu;rw[List.getElem?_take]at hj;split at hj
 ·have:=hcl j u hj c hc;exact mem_of_mem_take (by rw[take_take,Nat.min_eq_left (by omega:j≤i+1)];exact this:c∈(out.take (i+1)).take j)
 ·cases hj
noncomputable def zbw(L:List Nd)(rs:List Int)(Tv:List VV):Int×List W64:=if rs.all (isT L)=true then zg6 L (rs.map Int.toNat) Tv else (70,[])
theorem Made.nil'{B H:Hp}(h1:B.next≤H.next)(h2:∀j,j<B.next→H.get j=B.get j):Made B H (.slice none 0 0) 0 []:=⟨h1,h2,Vec.nil _ _,fun j hj=>by cases hj⟩
section
variable {H0:Hp}{p f g:Nat}{lim:Int}{L:List Nd}{K:List (ByteArray×Int)}{sl:Value}(hst:StF H0 p lim L K sl f g)(hg:zfO L K)(hL:L.length*64≤2^46)
 {x:Value}{rs:List Int}(hx:RdO H0 1 x rs.length (zbH rs))(hl:rs.length≤2^40){y:Value}{Tv:List VV}(hy:Rdb H0 3 y Tv.length (zbT Tv))(hyl:Tv.length≤2^40)(hT:∀v∈Tv,v.Ok)
include hst hg hL hx hl hy hyl hT
theorem zmR:∃H' v',RR Ax [.pointer (some ⟨p,0,none⟩),x,y] H0=some (.tuple #[v',.int .i64 (zbw L rs Tv).1],H')∧Made H0 H' v' (zbw L rs Tv).2.length (wvs (zbw L rs Tv).2):=by
 have hr:=(zhR E0 rfl (.pointer (some ⟨p,0,none⟩)) x y H0).trans (zii _ _ _ _ _);have hd:=hg.dag;obtain⟨H1,v1,e1,o1⟩:=Go.AM.c13 hst hd hL hx hl;rw[zpH An _ ⟨Bp,by kernel_rfl⟩,zac,zau,zaf e1,x01,za5,zac]at hr;unfold zbw;unfold zei at e1 o1 hr;cases hall:rs.all (isT L) with
 |false=>
  rw[hall,if_neg (by decide)]at o1 hr;rw[decide_eq_true (show ¬((70,([]:List Nat)):Int×List Nat).1=0 by decide),zaE]at hr;rw[if_neg (by decide)];exact⟨H1,_,hr,Made.nil' o1.next o1.old⟩
 |true=>
  rw[hall,if_pos rfl]at o1 hr;rw[if_pos rfl];obtain⟨ns,n1,hb⟩:=nats rs hall;have ens:rs.map Int.toNat=ns:=by rw[n1,ziN]
  have hlen:rs.length=ns.length:=by rw[n1,length_map]
  rw[ens]at o1 hr ⊢;rw[decide_eq_false (show ¬ ¬((0,posts L ns []):Int×List Nat).1=0 by simp),zau]at hr;have o1:zpt H0 H1 v1 (posts L ns []):=o1;have hy1:Rdb H1 3 y Tv.length (zbT Tv):=hy.keep' (fun j hj=>o1.old j (hy.lt hj)) o1.next;obtain⟨v2,H2,t1,t2,t3⟩:=c_told hy1 hyl hT;rw[zaf t1,x01,za5,zac]at hr;have o2:∀j,j<H0.next→H2.get j=H0.get j:=fun j hj=>by have:=o1.next;rw[t2.same j (by omega) (fun q=>q),o1.old j hj]
  have n2:H0.next≤H2.next:=Nat.le_trans o1.next t2.next;unfold zg6;by_cases h0:zg7 Tv≠0
  ·rw[decide_eq_true h0,zaE]at hr;rw[if_pos h0];exact⟨H2,_,hr,Made.nil' n2 o2⟩
  ·rw[if_neg h0];have h0:zg7 Tv=0:=Decidable.not_not.1 h0;rw[decide_eq_false (fun q=>q h0),zau]at hr;obtain⟨m,rfl,m1,m2,m3⟩:=t3 h0;have hlen2:(posts L ns []).length≤L.length:=Told.len ((⟨nodup_nil,fun x h=>by cases h⟩:Told L.length []).posts hd hb);have hndp:(posts L ns []).Nodup:=zh2 hd ns [] (fun c hc=>(hb c hc).1) nodup_nil;have hmem:=zdq hd (N:=L.length) ns [] hb;have hbd:∀t∈posts L ns [],1≤t∧t≤L.length:=fun t ht=>by
    rcases hmem.2.2 t ht with q|q
    ·cases q
    ·exact q
   have hcl:zd3 L (posts L ns []):=(zgq hd ns [] (fun c hc=>(hb c hc).1) (fun i t h=>by cases h)).1;generalize hout:posts L ns []=out at *;have hh:∀(n:Int) (f:Option (Value×Hp)),ziK (.int .i64 n) f=f:=fun n f=>rfl;have hm:∀(H:Hp) (f:Value→Hp→Option (Value×Hp)),zcm H f=f (.map (some H.next)) (H.new (.map [])):=fun H f=>rfl;let Hu:=H2.new (.map [])
   let Hv:=Hu.new (.map [])
   have hn1:=n2;have hvs:VS H2 Hv H2.next Hu.next (fun _=>0) (fun _=>0):=by
    refine⟨?_,fun j hj=>?_,?_,?_,?_,?_,?_,?_⟩
    ·show H2.next≤H2.next+1+1;omega
    ·show ((H2.new (.map [])).new (.map [])).get j=_;rw[get_new,if_neg (by show j≠H2.next+1;omega),get_new,if_neg (by omega)]
    ·exact Nat.le_refl _
    ·show H2.next≤H2.next+1;omega
    ·show H2.next≠H2.next+1;omega
    ·show H2.next<H2.next+1+1;omega
    ·exact(MapU.new H2).keep (by show (Hu.new (.map [])).get H2.next=Hu.get H2.next;rw[get_new,if_neg (by show H2.next≠H2.next+1;omega)])
    ·exact MapF.new Hu
   have hstB:StF H2 p lim L K sl f g:=hst.keep (fun i hi=>o2 i (hst.foot_lt hi)) n2;have hov:Vec H2 1 v1 out.length (ints out):=o1.vec.keep t2 fun j _ q=>q;obtain⟨H3,V',W',h3,l1,l2⟩:=zlg hstB (by omega) hd (zkF hg) hov.rd (by omega) hcl hndp hbd m3 m2 hT (vok_pre hg hcl hT h0 hbd) out.length 0 Hv (fun _=>0) (fun _=>0) (by omega) hvs (fun _ _=>rfl) rfl (fun t ht=>by rw[take_zero]at ht;cases ht) (fun t ht=>by rw[take_zero]at ht;cases ht);rw[qd0]at l1 l2;rw[hov.len,hh,hm,hov.len,hh,hm,hov.len]at hr;have o3:∀j,j<H0.next→H3.get j=H0.get j:=fun j hj=>by rw[h3.old j (by omega),o2 j hj]
   have n3:H0.next≤H3.next:=Nat.le_trans n2 h3.next;cases hbad:out.any (badV L Tv) with
   |true=>
    have l2:zas (zaO RR (.pointer (some ⟨p,0,none⟩)) v1 (.map (some m)) (.map (some H2.next)) (.map (some (H2.new (.map [])).next)) (.int .i64 (out.length:Int))) [.int .i64 0] ((H2.new (.map [])).new (.map []))=_:=l2 hbad;rw[l2]at hr;rw[if_pos rfl];exact⟨H3,_,hr,Made.nil' n3 o3⟩
   |false=>
    obtain⟨l1,l3⟩:=l1 hbad;have l1:zas (zaO RR (.pointer (some ⟨p,0,none⟩)) v1 (.map (some m)) (.map (some H2.next)) (.map (some (H2.new (.map [])).next)) (.int .i64 (out.length:Int))) [.int .i64 0] ((H2.new (.map [])).new (.map []))=_:=l1;rw[if_neg (by decide)];have hx3:RdO H3 1 x ns.length (ints ns):=by have:=hx.keep' (H':=H3) (fun j hj=>o3 j (hx.lt hj)) n3;rw[zcl,←n1,←hlen];exact this
    obtain⟨v3,H4,mk1,mk2,mk3,mk4⟩:=Vec.cap H3 (sz:=1) (bytes:=8) (zs:=[.int .u64 0]) rfl rfl (n:=ns.length) (by omega);obtain⟨H5,v4,q1,h4⟩:=zpx (B:=H3) hx3 (by omega) h3.f1 h3.n1 (vf:=vfn L (zbh Tv)) (fun t ht=>l3 t (hmem.2.1 t ht)) ns.length 0 H4 v3 (by omega) ⟨mk3.next,fun j hj=>mk3.same j hj (fun q=>q),mk2,mk4⟩;have q1:zas (zbQ RR x (.map (some H2.next)) (.int .i64 (ns.length:Int))) [v3,.int .i64 0] H4=_:=q1;rw[l1,zal,za0,zaz,hx3.len,mk1,hx3.len,q1,zal,za0,zaz]at hr;refine⟨H5,v4,hr,?_⟩;rw[length_map];exact⟨Nat.le_trans n3 h4.next,fun j hj=>by rw[h4.old j (by omega),o3 j hj],h4.vec,fun j hj=>Nat.le_trans n3 (h4.new j hj)⟩
theorem c_value{t:Int}:∃H',RR AC [.pointer (some ⟨p,0,none⟩),.int .i64 t,y] H0=some (.tuple #[wv ((zbw L [t] Tv).2.headD 0#64),.int .i64 (zbw L [t] Tv).1],H')∧H0.next≤H'.next∧∀j,j<H0.next→H'.get j=H0.get j:=by
 have hr:=zi0 E0 rfl (.pointer (some ⟨p,0,none⟩)) (.int .i64 t) y H0;unfold zf8 at hr;have hb:∀(k:Value→Hp→Option (Value×Hp)),zam 1 [.int .i64 0] 1 [(0,.int .i64 t)] H0 k=k (.slice (some ⟨H0.next,0,some 1⟩) 1 1) (H0.new (.cells [.int .i64 t] true)):=fun k=>rfl;let H1:=H0.new (.cells [.int .i64 t] true)
 have h1o:∀j,j<H0.next→H1.get j=H0.get j:=fun j hj=>by show (H0.new _).get j=_;rw[get_new,if_neg (by omega)]
 have h1n:H1.next=H0.next+1:=rfl;have hst1:StF H1 p lim L K sl f g:=hst.keep (fun i hi=>h1o i (hst.foot_lt hi)) (by omega);have hx1:Rdb H1 1 (.slice (some ⟨H0.next,0,some 1⟩) 1 1) [t].length (zbH [t]):=.inr ⟨H0.next,1,[],true,rfl,Nat.le_refl _,by show (H0.new _).get _=_;rw[get_new,if_pos rfl];rfl,rfl,by omega⟩;have hy1:Rdb H1 3 y Tv.length (zbT Tv):=hy.keep' (fun j hj=>h1o j (hy.lt hj)) (by omega);clear hx hl;obtain⟨H2,v,e1,m1⟩:=zmR hst1 hg hL hx1.o (by show 1≤_;decide) hy1 hyl hT;have hn:=m1.next;have fin:H0.next≤H2.next∧∀j,j<H0.next→H2.get j=H0.get j:=⟨by omega,fun j hj=>by rw[m1.old j (by omega),h1o j hj]⟩
 rw[hb,zaf e1,x01,za5,zac]at hr;by_cases h0:(zbw L [t] Tv).1≠0
 ·rw[decide_eq_true h0,zaE]at hr;have hnil:(zbw L [t] Tv).2=[]:=by
   revert h0;unfold zbw;split
   ·unfold zg6;split
    ·exact fun _=>rfl
    ·split
     ·exact fun _=>rfl
     ·exact fun q=>absurd rfl q
   ·exact fun _=>rfl
  rw[hnil];exact⟨H2,hr,fin⟩
 ·have h0:(zbw L [t] Tv).1=0:=Decidable.not_not.1 h0;rw[decide_eq_false (fun q=>q h0),zau]at hr;obtain⟨a,ha⟩:∃a,(zbw L [t] Tv).2=[a]:=by
   revert h0;unfold zbw;split
   ·unfold zg6;split
    ·rename_i q;exact fun z=>absurd z q
    ·split
     ·exact fun z=>by cases z
     ·exact fun _=>⟨_,rfl⟩
   ·exact fun z=>by cases z
  rw[ha]at m1 ⊢;obtain⟨z,hz,⟨rest,hgz⟩,hix⟩:=m1.vec.ix (i:=0) (show 0<1 by decide);have hix':∀(k:Value→Option (Value×Hp)),pIdx 1 v (.int .i64 0) k=k (.pointer (some ⟨z,0,none⟩)):=fun k=>hix _ .i64 k;rw[hix',zf9 hgz (o:=0) (x:=wv a) rfl]at hr;rw[h0];exact⟨H2,hr,fin⟩
end
end Go.AM.N14
namespace Go.AM.N14
open Go Go.AM
structure MadeN(sz:Nat)(B H:Hp)(v:Value)(n:Nat)(cs:List Value):Prop where
 next:B.next≤H.next
 old:∀j,j<B.next→H.get j=B.get j
 vec:Vec H sz v n cs
 new:∀j,Id v j→B.next≤j
theorem MadeN.frm{B H:Hp}{sz:Nat}{v:Value}{n:Nat}{cs:List Value}(h:MadeN sz B H v n cs):Frm (fun _=>False) B H:=⟨h.next,fun j hj _=>h.old j hj⟩
theorem bvv3{α:Type}(s:ByteArray)(w x:Int)(k:Value→Option α):zaS PP Ap [(0,.string s),(1,.int .i64 w),(2,.int .u64 x)] k=k (VV.val ⟨s,w,x⟩):=Go.AM.bld (by kernel_rfl) k
section
end
section
variable {H0:Hp}{p f g:Nat}{lim:Int}{L:List Nd}{K:List (ByteArray×Int)}{sl:Value}(hst:StF H0 p lim L K sl f g)(hd:Dag L)(hL:L.length*64≤2^46)
 {x:Value}{rs:List Int}(hx:RdO H0 1 x rs.length (zbH rs))(hl:rs.length≤2^40)
include hst hd hL hx hl
theorem order_bd(hall:rs.all (isT L)=true):∀t∈(zei L rs).2,1≤t∧t≤L.length:=by
 unfold zei;rw[hall,if_pos rfl];obtain⟨ns,n1,hb⟩:=nats rs hall;have ens:rs.map Int.toNat=ns:=by rw[n1,ziN]
 rw[ens];intro t ht;rcases (zdq hd (N:=L.length) ns [] hb).2.2 t ht with q|q
 ·cases q
 ·exact q
end
end Go.AM.N14
namespace Go.AM.N14
open List Go Go.AM
theorem c_plus{a b:Nat}(ha:a<18446744073709551616)(hb:b<18446744073709551616)(H:Hp):RR Ch [.int .u64 (a:Int),.int .u64 (b:Int)] H=some (.int .u64 ((satU (a+b):Nat):Int),H):=by
 have hr:=zoz E0 rfl (.int .u64 (a:Int)) (.int .u64 (b:Int)) H;unfold zkt at hr;rw[satU_eq];by_cases h:a+b≤18446744073709551615
 ·have e:IntKind.u64.wrap ((a:Int)+(b:Int))=((a+b:Nat):Int):=by rw[Go.AM.zjs (by omega) (by omega)];omega
  rw[zaN,e,lF (by omega),zaN,e]at hr;rw[if_pos h];exact hr
 ·have e:IntKind.u64.wrap ((a:Int)+(b:Int))=((a+b-18446744073709551616:Nat):Int):=by have:=Go.AM.u64mod (a:=a+b) (by omega) (by omega);rw[←this];congr 1
  rw[zaN,e,lT (by omega)]at hr;rw[if_neg h];exact hr
theorem zot(n:Nat):satU n<18446744073709551616:=by unfold satU;omega
theorem siz_bd{L:List Nd}(hd:Dag L):∀t,t≤L.length→(sizT L t).1<18446744073709551616∧(sizT L t).2≤t:=by
 intro t;induction t using Nat.strongRecOn with
 |_ t ih=>
  intro ht;by_cases h0:t=0
  ·subst h0;exact⟨by show (0:Nat)<_;decide,Nat.le_refl _⟩
  ·have hn:L[t-1]?=some (L[t-1]'(by omega)):=List.getElem?_eq_getElem (by omega);generalize L[t-1]'(by omega)=n at hn;have ha:=hd.a _ n hn;have hb:=hd.b _ n hn;have hc:=hd.c _ n hn;have a2:=ih n.a.toNat (by omega) (by omega);have b2:=ih n.b.toNat (by omega) (by omega);have c2:=ih n.c.toNat (by omega) (by omega);unfold sizT at a2 b2 c2 ⊢;rw[zlW hd sizF (0,0) (by omega) hn];refine⟨zot _,?_⟩;show max (max _ _) _+1≤t;omega
theorem zjO{B H:Hp}{m1 m2:Nat}{N D:Int→Int}(h:VS B H m1 m2 N D){t:Nat}{a b c:Int}{j:Nat}{x:Int}(hx:[a,b,c][j]?=some x)(hxt:x≠(t:Int)){n d nx dx:Nat}(hn:N (t:Int)=(n:Int))(hd:D (t:Int)=(d:Int))
  (hx0:x=0→nx=0∧dx=0) (hx1:x≠0→N x=(nx:Int)∧D x=(dx:Int)) (bn:n<18446744073709551616) (bnx:nx<18446744073709551616) :
  ∃H' N' D',zb1 RR (.map (some m1)) (.map (some m2)) (.int .i64 (t:Int)) (.agg #[.int .i64 a,.int .i64 b,.int .i64 c]) [.int .i64 (j:Int)] H=some (.next,[.int .i64 ((j+1:Nat):Int)],H')∧VS B H' m1 m2 N' D'∧N' (t:Int)=((satU (n+nx):Nat):Int)∧D' (t:Int)=((max d dx:Nat):Int)∧∀y,y≠(t:Int)→N' y=N y∧D' y=D y:=by
 have hj:j<3:=(List.getElem?_eq_some_iff.1 hx).1;have q:(j:Int)<3:=by omega
 have w1:IntKind.i64.wrap ((j:Int)+1)=((j+1:Nat):Int):=zaq (by omega) (by omega);by_cases h0:x=0
 ·obtain⟨rfl,rfl⟩:=hx0 h0;refine⟨H,N,D,?_,h,?_,?_,fun y _=>⟨rfl,rfl⟩⟩
  ·unfold zb1;simp only[qg0];rw[lT q,arr3 hx,za5,bF (fun q=>q h0),zaN,w1]
  ·rw[hn];unfold satU;omega
  ·rw[hd];omega
 ·obtain⟨e1,e2⟩:=hx1 h0;obtain⟨H1,u1,h1⟩:=h.up1 (t:Int) ((satU (n+nx):Nat):Int);obtain⟨H2,u2,h2⟩:=h1.up2 (t:Int) ((max d dx:Nat):Int);have hmx:(if ((dx:Nat):Int)>((d:Nat):Int) then ((dx:Nat):Int) else ((d:Nat):Int))=((max d dx:Nat):Int):=by split<;>omega
  refine⟨H2,_,_,?_,h2,by rw[if_pos rfl],by rw[if_pos rfl],fun y hy=>⟨by rw[if_neg hy],by rw[if_neg hy]⟩⟩;have lv:∀(x:Int) (f:Value→Option Outc),zbM PP Aa (.int .u64 0) (.map (some m1)) (.int .i64 x) false H f=f (.int .u64 (N x)):=fun x f=>h.f1.look ikV x f;have lw:∀(x:Int) (f:Value→Option Outc),zbM PP Aa (.int .i64 0) (.map (some m2)) (.int .i64 x) false H1 f=f (.int .i64 (D x)):=fun x f=>h1.f2.look ikV x f;unfold zb1;simp only[qg0];rw[lT q,arr3 hx,za5,bT h0,lv,lv,hn,e1,zaf (c_plus bn bnx H),u1,lw,lw,hd,e2,mm_i64,hmx,u2,zaN,w1]
section
variable {B:Hp}{p f g:Nat}{lim:Int}{L:List Nd}{K:List (ByteArray×Int)}{sl:Value}(hst:StF B p lim L K sl f g)(hL:(L.length:Int)≤4611686018427387904)(hd:Dag L)
 {v:Value}{out:List Nat}(hv:Rdb B 1 v out.length (ints out))(hol:out.length≤2^41)(hcl:zd3 L out)(hnd:out.Nodup)(hbd:∀t∈out,1≤t∧t≤L.length){m1 m2:Nat}
include hst hL hd hv hol hcl hbd hnd
theorem size_step{i t:Nat}(hi:out[i]?=some t){H:Hp}{N D:Int→Int}(h:VS B H m1 m2 N D)(h0:D (t:Int)=0)(hin:∀u∈out.take i,N (u:Int)=(((sizT L u).1:Nat):Int)∧D (u:Int)=(((sizT L u).2:Nat):Int)) :
  ∃H' N' D',zci RR (.pointer (some ⟨p,0,none⟩)) v (.map (some m1)) (.map (some m2)) (.int .i64 (out.length:Int)) [.int .i64 (i:Int)] H=some (.next,[.int .i64 ((i+1:Nat):Int)],H')∧VS B H' m1 m2 N' D'∧N' (t:Int)=(((sizT L t).1:Nat):Int)∧D' (t:Int)=(((sizT L t).2:Nat):Int)∧∀y,y≠(t:Int)→N' y=N y∧D' y=D y:=by
 have hlt:i<out.length:=(List.getElem?_eq_some_iff.1 hi).1;have ht:=hbd t (mem_of_getElem? hi);have hn:L[t-1]?=some (L[t-1]'(by omega)):=List.getElem?_eq_getElem (by omega);generalize L[t-1]'(by omega)=n at hn;have hvH:Rdb H 1 v out.length (ints out):=hv.keep' (fun j hj=>h.old j (hv.lt hj)) h.next;have hvI:Rdb H 1 v (out.map fun (t:Nat)=>(t:Int)).length (zbH (out.map fun (t:Nat)=>(t:Int))):=by rw[length_map,←zcl];exact hvH
 obtain⟨y,x1,x2⟩:=hvI.int (i:=i) (t:=(t:Int)) (by rw[List.getElem?_map,hi];rfl);have q:(i:Int)<(out.length:Int):=by omega
 have w1:IntKind.i64.wrap ((i:Int)+1)=((i+1:Nat):Int):=zaq (by omega) (by omega);have hstH:StF H p lim L K sl f g:=hst.keep (fun i hi=>h.old i (hst.foot_lt hi)) h.next;have hT:isT L (t:Int)=true:=zbx.2 ⟨by omega,by omega⟩;have hnode:zgZ L (t:Int)=n:=by unfold zgZ;rw[hT,if_pos rfl,show ((t:Int)-1).toNat=t-1 by omega,hn];rfl
 have e10:=Go.AM.c10 hstH.st hL (t:Int);rw[hnode,hT,if_pos rfl]at e10;have hkf:=(zgv hd hn).2;have hkt:kids L t=zce n:=by unfold kids;rw[hn]
 have ha:=hd.a _ n hn;have hb:=hd.b _ n hn;have hc:=hd.c _ n hn;obtain⟨H1,u1,h1⟩:=h.up1 (t:Int) 1;have part:∀(x:Int),x=n.a∨x=n.b∨x=n.c→0≤x→x<(t:Int)→(x=0→(sizT L x.toNat).1=0∧(sizT L x.toNat).2=0)∧(x≠0→N x=(((sizT L x.toNat).1:Nat):Int)∧D x=(((sizT L x.toNat).2:Nat):Int)):=fun x hx g1 g2=>by refine⟨fun e=>by subst e;exact⟨rfl,rfl⟩,fun e=>?_⟩;obtain⟨c,c1,c2⟩:=hkf x hx e;have:=hin c (hcl i t hi c (by rw[hkt];exact c1));rw[←c2,Int.toNat_natCast];exact this
 obtain⟨pa0,pa1⟩:=part n.a (.inl rfl) (by omega) (by omega);obtain⟨pb0,pb1⟩:=part n.b (.inr (.inl rfl)) (by omega) (by omega);obtain⟨pc0,pc1⟩:=part n.c (.inr (.inr rfl)) (by omega) (by omega);have ba:=siz_bd hd n.a.toNat (by omega);have bb:=siz_bd hd n.b.toNat (by omega);have bc:=siz_bd hd n.c.toNat (by omega);obtain⟨H2,N2,D2,s2,h2,n2,d2,o2⟩:=zjO h1 (t:=t) (a:=n.a) (b:=n.b) (c:=n.c) (j:=0) (x:=n.a) rfl (by omega) (n:=1) (d:=0) (nx:=(sizT L n.a.toNat).1) (dx:=(sizT L n.a.toNat).2) (by rw[if_pos rfl];rfl) h0 pa0 (fun e=>by rw[if_neg (by omega)];exact pa1 e) (by decide) ba.1;obtain⟨H3,N3,D3,s3,h3,n3,d3,o3⟩:=zjO h2 (t:=t) (a:=n.a) (b:=n.b) (c:=n.c) (j:=1) (x:=n.b) rfl (by omega) (nx:=(sizT L n.b.toNat).1) (dx:=(sizT L n.b.toNat).2) n2 d2 pb0 (fun e=>by rw[(o2 n.b (by omega)).1,(o2 n.b (by omega)).2,if_neg (by omega)];exact pb1 e) (zot _) bb.1;obtain⟨H4,N4,D4,s4,h4,n4,d4,o4⟩:=zjO h3 (t:=t) (a:=n.a) (b:=n.b) (c:=n.c) (j:=2) (x:=n.c) rfl (by omega) (nx:=(sizT L n.c.toNat).1) (dx:=(sizT L n.c.toNat).2) n3 d3 pc0 (fun e=>by rw[(o3 n.c (by omega)).1,(o3 n.c (by omega)).2,(o2 n.c (by omega)).1,(o2 n.c (by omega)).2,if_neg (by omega)];exact pc1 e) (zot _) bc.1;have hinner:zas (zb1 RR (.map (some m1)) (.map (some m2)) (.int .i64 (t:Int)) (.agg #[.int .i64 n.a,.int .i64 n.b,.int .i64 n.c])) [.int .i64 0] H1=some (.exit 2,[.int .i64 3],H4):=by
  rw[zai];have s2:zb1 RR (.map (some m1)) (.map (some m2)) (.int .i64 (t:Int)) (.agg #[.int .i64 n.a,.int .i64 n.b,.int .i64 n.c]) [.int .i64 0] H1=_:=s2;rw[s2];show zas _ _ _=_;rw[zai,s3];show zas _ _ _=_;rw[zai,s4];show zas _ [.int .i64 3] _=_;rw[zai];have:zb1 RR (.map (some m1)) (.map (some m2)) (.int .i64 (t:Int)) (.agg #[.int .i64 n.a,.int .i64 n.b,.int .i64 n.c]) [.int .i64 3] H4=some (.exit 2,[.int .i64 3],H4):=by unfold zb1;simp only[qg0];rw[lF (by decide)]
  rw[this];rfl
 obtain⟨H5,u5,h5⟩:=h4.up2 (t:Int) (((sizT L t).2:Nat):Int);have esz:sizT L t=sizF n (sizT L n.a.toNat) (sizT L n.b.toNat) (sizT L n.c.toNat):=zlW hd sizF (0,0) ht.1 hn;have ld:∀(f:Value→Option Outc),zbM PP Aa (.int .i64 0) (.map (some m2)) (.int .i64 (t:Int)) false H4 f=f (.int .i64 (D4 (t:Int))):=fun f=>h4.f2.look ikV _ f;have wd1:IntKind.i64.wrap (((max (max (max 0 (sizT L n.a.toNat).2) (sizT L n.b.toNat).2) (sizT L n.c.toNat).2:Nat):Int)+1)=(((sizT L t).2:Nat):Int):=by
  rw[zaq (by omega) (by omega),esz];show _=((max (max _ _) _+1:Nat):Int)
  omega
 refine⟨H5,_,_,?_,h5,?_,by rw[if_pos rfl],fun y hy=>?_⟩
 ·unfold zci;simp only[qg0];rw[lT q,x1,x2,zaf e10,x01,spl7,u1,zh8,zh7,zi6,zeB,hinner,zal,za0,zaz,ld,d4,zaN,wd1,u5,zaN,w1]
 ·rw[n4,esz];rfl
 ·rw[if_neg hy];refine⟨?_,?_⟩
  ·rw[(o4 y hy).1,(o3 y hy).1,(o2 y hy).1,if_neg hy]
  ·rw[(o4 y hy).2,(o3 y hy).2,(o2 y hy).2]
theorem zm5:∀(k i:Nat) (H:Hp) (N D:Int→Int),i+k=out.length→VS B H m1 m2 N D→(∀x:Int,(∀t∈out.take i,(t:Int)≠x)→D x=0)→(∀u∈out.take i,N (u:Int)=(((sizT L u).1:Nat):Int)∧D (u:Int)=(((sizT L u).2:Nat):Int)) →
  ∃H' N' D',zas (zci RR (.pointer (some ⟨p,0,none⟩)) v (.map (some m1)) (.map (some m2)) (.int .i64 (out.length:Int))) [.int .i64 (i:Int)] H=some (.exit 0,[.int .i64 (out.length:Int)],H')∧VS B H' m1 m2 N' D'∧∀u∈out,N' (u:Int)=(((sizT L u).1:Nat):Int)∧D' (u:Int)=(((sizT L u).2:Nat):Int)
 |0,i,H,N,D,hk,h,_,hin=>by
  have:i=out.length:=by omega
  subst this;refine⟨H,N,D,?_,h,fun u hu=>hin u (by rw[take_length];exact hu)⟩;rw[zai];have:zci RR (.pointer (some ⟨p,0,none⟩)) v (.map (some m1)) (.map (some m2)) (.int .i64 (out.length:Int)) [.int .i64 (out.length:Int)] H=some (.exit 0,[.int .i64 (out.length:Int)],H):=by unfold zci;simp only[qg0];rw[lF (Int.lt_irrefl _)]
  rw[this];rfl
 |k+1,i,H,N,D,hk,h,h0,hin=>by
  have hlt:i<out.length:=by omega
  have hi:out[i]?=some out[i]:=List.getElem?_eq_getElem hlt;have hdrop:out.drop i=out[i]::out.drop (i+1):=drop_eq_getElem_cons hlt;generalize out[i]=t at hi hdrop;have htk:out.take (i+1)=out.take i++[t]:=by rw[take_add_one,hi];rfl
  have hnew:∀u∈out.take i,(u:Int)≠(t:Int):=fun u hu e=>by
   have e:u=t:=by omega
   subst e;have:=hnd;rw[←take_append_drop i out,hdrop]at this;exact(nodup_append.1 this).2.2 u hu u (mem_cons_self ..) rfl
  obtain⟨H1,N1,D1,e1,h1,n1,d1,o1⟩:=size_step hst hL hd hv hol hcl hnd hbd hi h (h0 _ hnew) hin
  obtain⟨H',N',D',g1,g2,g3⟩:=zm5 k (i+1) H1 N1 D1 (by omega) h1 (fun x hx=>by
   rw[htk]at hx;rw[(o1 x fun e=>hx t (mem_append_right _ (mem_singleton.2 rfl)) e.symm).2]
   exact h0 x fun u hu=>hx u (mem_append_left _ hu)) (fun u hu=>by
   rw[htk]at hu;rcases mem_append.1 hu with hu|hu
   ·rw[(o1 _ (hnew u hu)).1,(o1 _ (hnew u hu)).2];exact hin u hu
   ·rw[mem_singleton]at hu;subst hu
    exact⟨n1,d1⟩)
  refine⟨H',N',D',?_,g2,g3⟩;rw[zai,e1];exact g1
end
def sizeI(L:List Nd)(t:Int):Nat×(Nat×Nat)×Int:=if isT L t=true then ((posts L [t.toNat] []).length,sizT L t.toNat,0) else (0,(0,0),70)
def sizeV(s:Nat×(Nat×Nat)×Int):Value:=.tuple #[.int .i64 (s.1:Int),.int .u64 (s.2.1.1:Int),.int .i64 (s.2.1.2:Int),.int .i64 s.2.2]
theorem one_order{L:List Nd}{t:Int}:zei L [t]=if isT L t=true then (0,posts L [t.toNat] []) else (70,[]):=by unfold zei;rw[all_cons,all_nil,Bool.and_true];rfl
section
variable {H0:Hp}{p f g:Nat}{lim:Int}{L:List Nd}{K:List (ByteArray×Int)}{sl:Value}(hst:StF H0 p lim L K sl f g)(hd:Dag L)(hL:L.length*64≤2^46)(t:Int)
include hst hd hL
theorem c_size:∃H',RR Bf [.pointer (some ⟨p,0,none⟩),.int .i64 t] H0=some (sizeV (sizeI L t),H')∧Frm (fun _=>False) H0 H':=by
 have hr:=(zoB E0 rfl (.pointer (some ⟨p,0,none⟩)) (.int .i64 t) H0).trans (zpb _ _ _ _);have hb:∀(k:Value→Hp→Option (Value×Hp)),zam 1 [.int .i64 0] 1 [(0,.int .i64 t)] H0 k=k (.slice (some ⟨H0.next,0,some 1⟩) 1 1) (H0.new (.cells [.int .i64 t] true)):=fun k=>rfl;let H1:=H0.new (.cells [.int .i64 t] true)
 have h1o:∀j,j<H0.next→H1.get j=H0.get j:=fun j hj=>by show (H0.new _).get j=_;rw[get_new,if_neg (by omega)]
 have h1n:H1.next=H0.next+1:=rfl;have hst1:StF H1 p lim L K sl f g:=hst.keep (fun i hi=>h1o i (hst.foot_lt hi)) (by omega);have hx1:Rdb H1 1 (.slice (some ⟨H0.next,0,some 1⟩) 1 1) [t].length (zbH [t]):=.inr ⟨H0.next,1,[],true,rfl,Nat.le_refl _,by show (H0.new _).get _=_;rw[get_new,if_pos rfl];rfl,rfl,by omega⟩;obtain⟨H2,v2,e2,o2⟩:=Go.AM.c13 hst1 hd hL hx1.o (by show 1≤_;decide);have hn2:=o2.next;have o02:∀j,j<H0.next→H2.get j=H0.get j:=fun j hj=>by rw[o2.old j (by omega),h1o j hj]
 rw[zpH An _ ⟨Bp,by kernel_rfl⟩,zac,zau,hb,zaf e2,x01,za5,zac]at hr;have hbd:=order_bd hst1 hd hL hx1.o (by show 1≤_;decide);have hbl:=orderR_bd hd [t];unfold sizeI;rw[one_order]at o2 hr hbd hbl;rw[all_cons,all_nil,Bool.and_true]at hbd;cases hT:isT L t with
 |false=>
  rw[hT,if_neg (by decide)]at o2 hr;rw[decide_eq_true (show ¬((70,([]:List Nat)):Int×List Nat).1=0 by decide),zaE]at hr;rw[if_neg (by decide)];exact⟨H2,hr,by omega,fun j hj _=>o02 j hj⟩
 |true=>
  have hbd:=hbd hT;rw[hT,if_pos rfl]at o2 hr hbd hbl;rw[if_pos rfl];have o2:zpt H1 H2 v2 (posts L [t.toNat] []):=o2;dsimp only at hbd hbl;have htb:=zbx.1 hT;have h1:∀c∈[t.toNat],1≤c∧c≤L.length:=fun c hc=>by rw[mem_singleton]at hc;omega
  have hndp:(posts L [t.toNat] []).Nodup:=zh2 hd _ [] (fun c hc=>(h1 c hc).1) nodup_nil;have hcl:zd3 L (posts L [t.toNat] []):=(zgq hd _ [] (fun c hc=>(h1 c hc).1) (fun i t h=>by cases h)).1;have hmem:=(zdq hd (N:=L.length) [t.toNat] [] h1).2.1 t.toNat (mem_singleton.2 rfl);rw[decide_eq_false (show ¬ ¬((0,posts L [t.toNat] []):Int×List Nat).1=0 by simp),zau]at hr;generalize posts L [t.toNat] []=out at *;have hh:∀(n:Int) (f:Option (Value×Hp)),ziK (.int .i64 n) f=f:=fun n f=>rfl;have hm:∀(H:Hp) (f:Value→Hp→Option (Value×Hp)),zcm H f=f (.map (some H.next)) (H.new (.map [])):=fun H f=>rfl;let Hu:=H2.new (.map [])
  let Hv:=Hu.new (.map [])
  have hvs:VS H2 Hv H2.next Hu.next (fun _=>0) (fun _=>0):=by
   refine⟨?_,fun j hj=>?_,?_,?_,?_,?_,?_,?_⟩
   ·show H2.next≤H2.next+1+1;omega
   ·show ((H2.new (.map [])).new (.map [])).get j=_;rw[get_new,if_neg (by show j≠H2.next+1;omega),get_new,if_neg (by omega)]
   ·exact Nat.le_refl _
   ·show H2.next≤H2.next+1;omega
   ·show H2.next≠H2.next+1;omega
   ·show H2.next<H2.next+1+1;omega
   ·exact(MapU.new H2).keep (by show (Hu.new (.map [])).get H2.next=Hu.get H2.next;rw[get_new,if_neg (by show H2.next≠H2.next+1;omega)])
   ·exact MapF.new Hu
  have hst2:StF H2 p lim L K sl f g:=hst.keep (fun i hi=>o02 i (hst.foot_lt hi)) (by omega);obtain⟨H3,N',D',l1,h3,l3⟩:=zm5 hst2 (by omega) hd o2.vec.rd (by omega) hcl hndp hbd out.length 0 Hv (fun _=>0) (fun _=>0) (by omega) hvs (fun _ _=>rfl) (fun t ht=>by rw[take_zero]at ht;cases ht);have l1:zas (zci RR (.pointer (some ⟨p,0,none⟩)) v2 (.map (some H2.next)) (.map (some (H2.new (.map [])).next)) (.int .i64 (out.length:Int))) [.int .i64 0] ((H2.new (.map [])).new (.map []))=_:=l1;have lv:∀(x:Int) (f:Value→Option (Value×Hp)),zbM PP Aa (.int .u64 0) (.map (some H2.next)) (.int .i64 x) false H3 f=f (.int .u64 (N' x)):=fun x f=>h3.f1.look ikV x f;have lw:∀(x:Int) (f:Value→Option (Value×Hp)),zbM PP Aa (.int .i64 0) (.map (some (H2.new (.map [])).next)) (.int .i64 x) false H3 f=f (.int .i64 (D' x)):=fun x f=>h3.f2.look ikV x f;rw[o2.vec.len,hh,hm,o2.vec.len,hh,hm,o2.vec.len,l1,zal,za0,zaz,o2.vec.len,lv,lw]at hr;obtain⟨r1,r2⟩:=l3 t.toNat hmem;rw[Int.toNat_of_nonneg (by omega)]at r1 r2;rw[r1,r2]at hr;have:=h3.next;exact⟨H3,hr,by omega,fun j hj _=>by rw[h3.old j (by omega),o02 j hj]⟩
end
section
variable {A:Type}{mk:A→Value}{H0 H:Hp}{v:Value}{l:List A}{r:List Sl}
theorem znB(h:Own H0 H (⟨1,v,l.length,l.map mk⟩::r)){i:Nat}{a:A}(hi:l[i]?=some a):∃y,(∀(α:Type) (kd:IntKind) (k:Value→Option α),pIdx 1 v (.int kd (i:Int)) k=k (.pointer (some ⟨y,i*1,none⟩)))∧(∀(α:Type) (k:Value→Option α),zak 1 false H (.pointer (some ⟨y,i*1,none⟩)) k=k (mk a)):=by obtain⟨y,h1,h2,h3,_⟩:=h.set (List.getElem?_eq_some_iff.1 hi).1;exact⟨y,h2,fun α k=>h3 (i*1) _ (by rw[Nat.mul_one,List.getElem?_map,hi];rfl) α k⟩
theorem own_wr(h:Own H0 H (⟨1,v,l.length,l.map mk⟩::r))(hm:∀a,zab (mk a)=[mk a]∧one (mk a)=true){i:Nat}(hi:i<l.length)(x:A):∃y,(∀(α:Type) (kd:IntKind) (k:Value→Option α),pIdx 1 v (.int kd (i:Int)) k=k (.pointer (some ⟨y,i*1,none⟩))) ∧
  ∃H',(∀(α:Type) (k:Hp→Option α),zay 1 H (.pointer (some ⟨y,i*1,none⟩)) (mk x) k=k H')∧Own H0 H' (⟨1,v,(l.set i x).length,(l.set i x).map mk⟩::r):=by
 obtain⟨y,h1,h2,_,_,h5⟩:=h.set hi;obtain⟨H',g1,g2⟩:=h5 (i*1) 1 (mk x) (by rw[(hm x).1];rfl) (by omega) (by rw[(hm x).1];show (one (mk x)&&true)=true;rw[(hm x).2];rfl);refine⟨y,h2,H',g1,?_⟩;have e:spl (l.map mk) (i*1) (zab (mk x))=(l.set i x).map mk:=by rw[(hm x).1];exact spl_set mk l hi x
 rw[e]at g2;rw[length_set];exact g2
end
theorem zq9{α:Type}{j:Nat}(h:j<3)(k:Nat→Option α):zbW 3 (.int .i64 (j:Int)) k=k j:=by unfold zbW;dsimp only;rw[if_pos ⟨by omega,by omega⟩,Int.toNat_natCast]
section
end
section
end
end Go.AM.N14
namespace Go.AM
open Go
def liveT:List UInt8:=[49,32,118,97,114,32,120,32,56,10,50,32,118,97,114,32,121,32,56,10,51,32,97,100,100,32,49,32,50,10,52,32,101,113,32,51,32,49,10,114,111,111,116,115,32,51,32,52,10]
def nmX:ByteArray:=⟨#[120]⟩
def nmY:ByteArray:=⟨#[121]⟩
def zq7:List Nd:=[⟨4,8,0,0,0,0,nmX⟩,⟨4,8,0,0,0,0,nmY⟩,⟨20,8,1,2,0,0,⟨#[]⟩⟩,⟨9,0,3,1,0,0,⟨#[]⟩⟩]
def liveK:List (ByteArray×Int):=[(nmX,8),(nmY,8)]
theorem znR:zeu 0 (zbB liveT) 0 [] [] []=.good zq7 liveK [3,4]:=by kernel_rfl
end Go.AM
namespace Go.AM.N14
open List Go Go.AM
theorem nodeP_num{ws:List (List UInt8)}{ts:List Int}{L:List Nd}{m:Nd}(h:zoU ws ts L=some m):zk3 m:=by
 unfold zoU at h;split at h
 ·cases h
 ·split at h
  ·cases h
  ·split at h
   ·rename_i q;cases h;exact(ziZ _ _ _ _ _ _ _ q).2 ⟨Int.le_refl _,by show (0:Int)<_;decide⟩
   ·cases h
theorem partF_mem{ts:List Int}{ws:List (List UInt8)}{x:Int}(h:zj5 ts ws=some x):x∈ts:=by
 unfold zj5 at h;split at h
 ·cases h
 ·split at h
  ·rename_i q;cases h;rw[getD_eq_getElem?_getD,List.getElem?_eq_getElem (by omega)];exact getElem_mem _
  ·cases h
theorem zlq{ts:List Int}:∀(ws:List (List UInt8)) (q:List Int),zcD ts ws=some q→∀x∈q,x∈ts
 |[],q,h=>by cases h;exact fun x hx=>by cases hx
 |w::r,q,h=>by
  unfold zcD at h;split at h
  ·cases h
  ·rename_i t ht;split at h
   ·cases h
   ·rename_i l hl;cases h;intro x hx;rcases mem_cons.1 hx with e|e
    ·rw[e];exact partF_mem ht
    ·exact zlq r l hl x e
theorem mk_grow{lim:Int}{L:List Nd}{K:List (ByteArray×Int)}(n:Nd):L.length≤(mkR lim L K n).2.2.1.length:=by
 by_cases h0:(mkR lim L K n).2.1=0
 ·obtain⟨_,⟨q,_,e⟩|⟨_,_,e⟩⟩:=zkq h0<;>rw[e]<;>simp
 ·rw[mk_no h0];exact Nat.le_refl _
theorem zlO{lim:Int}:∀(lines:List (List UInt8)) (k:Nat) (L:List Nd) (K:List (ByteArray×Int)) (ts:List Int) (L':List Nd) (K':List (ByteArray×Int)) (q:List Int),zfO L K→(∀x∈ts,1≤x∧x≤L.length)→zeu lim lines k L K ts=.good L' K' q→zfO L' K'∧∀x∈q,1≤x∧x≤L'.length
 |[],k,L,K,ts,L',K',q,hg,ht,h=>by cases h
 |l::rest,k,L,K,ts,L',K',q,hg,ht,h=>by
  unfold zeu at h;cases hw:zbv l with
  |nil=>rw[hw]at h;cases h
  |cons w0 r=>
   rw[hw]at h;dsimp only at h;split at h
   ·cases hp:zcD ts r with
    |none=>rw[hp]at h;cases h
    |some q'=>
     rw[hp]at h;cases rest with
     |nil=>
      cases h;exact⟨hg,fun x hx=>ht x (zlq r _ hp x hx)⟩
     |cons a b=>cases h
   ·cases hp:zky (w0::r) ts L with
    |none=>rw[hp]at h;cases h
    |some m=>
     rw[hp]at h;dsimp only at h;split at h
     ·cases h
     ·rename_i he;have he:(mkR lim L K m).2.1=0:=Decidable.not_not.1 he;have hm:zk3 m:=by
       unfold zky at hp;split at hp
       ·cases hp
       ·split at hp
        ·exact nodeP_num hp
        ·cases hp
      refine zlO rest (k+1) _ _ _ L' K' q (mk_goodS hm hg) (fun x hx=>?_) h;have hgr:=mk_grow (lim:=lim) (L:=L) (K:=K) m;rcases mem_append.1 hx with hx|hx
      ·have:=ht x hx;omega
      ·rw[mem_singleton]at hx;rw[hx];exact mk_bd he
theorem znQ{lim:Int}{l:List UInt8}{L:List Nd}{K:List (ByteArray×Int)}{q:List Int}(h:zeu lim (zbB l) 0 [] [] []=.good L K q):zfO L K∧∀x∈q,1≤x∧x≤L.length:=
 zlO _ _ _ _ _ _ _ _ zfO.nil (fun x hx=>by cases hx) h
theorem load_bd{l:List UInt8}{L:List Nd}{K:List (ByteArray×Int)}{q:List Int}(h:zeu 0 (zbB l) 0 [] [] []=.good L K q):L.length≤l.length+1∧q.length≤l.length+1:=by have hbd:=zp9 (N:=l.length) _ _ _ _ _ _ _ _ (zqb l) h;have:=zmG l;have h1:=hbd.1;rw[length_nil]at h1;exact⟨by omega,hbd.2⟩
theorem c_no(x:Value)(H:Hp):RR Av [x] H=some (x,H):=ziI E0 rfl x H
theorem Rdb.at1{H:Hp}{x:Value}{n:Nat}{cs:List Value}(hx:Rdb H 1 x n cs){i:Nat}{z:Value}(hi:cs[i]?=some z) :
  ∃y,(∀(α:Type) (kd:IntKind) (k:Value→Option α),pIdx 1 x (.int kd (i:Int)) k=k (.pointer (some ⟨y,i*1,none⟩)))∧(∀(α:Type) (k:Value→Option α),zak 1 false H (.pointer (some ⟨y,i*1,none⟩)) k=k z):=by
 have hs:=hx.size;obtain⟨y,hy,⟨rest,own,hg⟩,hix⟩:=hx.ix (i:=i) (by have:=(List.getElem?_eq_some_iff.1 hi).1;omega);exact⟨y,hix,fun α k=>zf9 hg (by rw[Nat.mul_one];exact hi) k⟩
theorem zl1{H:Hp}{x y:Value}{l:List Int}(hx:Rdb H 1 x l.length (zbH l))(hy:Rdb H 1 y l.length (zbH l))(hl:l.length≤2^60):RR Bw [x,y] H=some (.bool true,H):=by
 have hr:=(zfw E0 rfl x y H).trans (zfz _ _ _ _);refine hr.trans ?_
 have hloop:=zgu (S:=zbD RR x y) (H:=H) l.length (fun i hi=>by
   have hg:(zbH l)[i]?=some (.int .i64 l[i]):=zil (List.getElem?_eq_getElem hi);obtain⟨a,a1,a2⟩:=Rdb.at1 hx hg;obtain⟨b,b1,b2⟩:=Rdb.at1 hy hg;have w:IntKind.i64.wrap ((i:Int)+1)=((i+1:Nat):Int):=zaq (by omega) (by omega);have q:(i:Int)<(l.length:Int):=by omega
   unfold zbD
   simp only[hx.len,zaV,qg0,q,decide_true,zac,zaE,a1,a2,b1,b2,za5,ne_eq,not_true_eq_false,decide_false,zau,zaN,w])
  (by unfold zbD;simp only[hx.len,zaV,qg0,Int.lt_irrefl,decide_false,zac,zau]) l.length 0 (by omega)
 rw[hx.len,hy.len,za5,bF (by simp),show (0:Int)=((0:Nat):Int) from rfl,hloop,zal,za0,zaz]
theorem wvs_get{l:List W64}{i:Nat}{a:W64}(h:l[i]?=some a):(wvs l)[i]?=some (.int .u64 (a.toNat:Int)):=by unfold wvs;rw[List.getElem?_map,h];rfl
theorem zkR{H:Hp}{x y:Value}{l:List W64}(hx:Rdb H 1 x l.length (wvs l))(hy:Rdb H 1 y l.length (wvs l))(hl:l.length≤2^60):RR AT [x,y] H=some (.bool true,H):=by
 have hr:=(zff E0 rfl x y H).trans (zfr _ _ _ _);refine hr.trans ?_
 have hloop:=zgu (S:=zby RR x y) (H:=H) l.length (fun i hi=>by
   have hg:(wvs l)[i]?=some (.int .u64 (l[i].toNat:Int)):=wvs_get (List.getElem?_eq_getElem hi);obtain⟨a,a1,a2⟩:=Rdb.at1 hx hg;obtain⟨b,b1,b2⟩:=Rdb.at1 hy hg;have w:IntKind.i64.wrap ((i:Int)+1)=((i+1:Nat):Int):=zaq (by omega) (by omega);have q:(i:Int)<(l.length:Int):=by omega
   unfold zby
   simp only[hx.len,zaV,qg0,q,decide_true,zac,zaE,a1,a2,b1,b2,za5,ne_eq,not_true_eq_false,decide_false,zau,zaN,w])
  (by unfold zby;simp only[hx.len,zaV,qg0,Int.lt_irrefl,decide_false,zac,zau]) l.length 0 (by omega)
 rw[hx.len,hy.len,za5,bF (by simp),show (0:Int)=((0:Nat):Int) from rfl,hloop,zal,za0,zaz]
theorem eqVd(n m:VV):eqT PP Op.maxDepth Ap n.val m.val=zfR (n.name==m.name) (zfR (n.w==m.w) (zfR (n.num==m.num) (some true))):=by kernel_rfl
theorem s_neqV{α:Type}(n:VV)(k:Value→Option α):pBin PP .neq Ap n.val n.val k=k (.bool false):=by
 have hg:PP.eqGuardType PP.depth Ap=false:=by kernel_rfl
 have h1:eqOp PP Ap n.val n.val=some true:=by show (match PP.eqGuardType PP.depth Ap with|true=>none|false=>eqT PP Op.maxDepth Ap n.val n.val)=_;rw[hg,eqVd,(zhE n.name n.name).2 rfl,beq_self_eq_true n.w,beq_self_eq_true n.num];rfl
 have:binV PP .neq Ap n.val n.val=some (.bool false):=by show (match eqOp PP Ap n.val n.val with|some b=>some (Value.bool !b)|none=>none)=_;rw[h1];rfl
 unfold pBin;rw[this]
theorem zrh{H:Hp}{x y:Value}{l:List VV}(hx:Rdb H 3 x l.length (zbT l))(hy:Rdb H 3 y l.length (zbT l))(hl:l.length≤2^60):RR By [x,y] H=some (.bool true,H):=by
 have hr:=(zfv E0 rfl x y H).trans (zfy _ _ _ _);refine hr.trans ?_
 have hloop:=zgu (S:=zbC RR x y) (H:=H) l.length (fun i hi=>by
   have hg:l[i]?=some l[i]:=List.getElem?_eq_getElem hi;obtain⟨a,_,a1,a2,_⟩:=Rdb.vv hx hg;obtain⟨b,_,b1,b2,_⟩:=Rdb.vv hy hg;have w:IntKind.i64.wrap ((i:Int)+1)=((i+1:Nat):Int):=zaq (by omega) (by omega);have q:(i:Int)<(l.length:Int):=by omega
   unfold zbC
   simp only[hx.len,zaV,qg0,q,decide_true,zac,zaE,a1,a2,b1,b2,s_neqV,zau,zaN,w])
  (by unfold zbC;simp only[hx.len,zaV,qg0,Int.lt_irrefl,decide_false,zac,zau]) l.length 0 (by omega)
 rw[hx.len,hy.len,za5,bF (by simp),show (0:Int)=((0:Nat):Int) from rfl,hloop,zal,za0,zaz]
def zmF:List VV:=[⟨nmX,8,200⟩,⟨nmY,8,100⟩]
def zif:List VV:=[⟨nmX,4,1⟩]
theorem live_vals:zbw zq7 [3,4] zmF=(0,[44#64,0#64]):=by kernel_rfl
theorem live_val1:zbw zq7 [3] zif=(71,[]):=by kernel_rfl
theorem live_size:sizeI zq7 4=(4,(5,3),0):=by kernel_rfl
theorem zqa:(∀v∈zmF,v.Ok)∧∀v∈zif,v.Ok:=by
 refine⟨fun v hv=>?_,fun v hv=>?_⟩
 ·simp only[zmF,mem_cons,not_mem_nil,or_false]at hv;rcases hv with rfl|rfl
  ·exact⟨by show (0:Int)≤200;decide,by show (200:Int)<_;decide⟩
  ·exact⟨by show (0:Int)≤100;decide,by show (100:Int)<_;decide⟩
 ·simp only[zif,mem_cons,not_mem_nil,or_false]at hv;subst hv;exact⟨by show (0:Int)≤1;decide,by show (1:Int)<_;decide⟩
theorem zoW{H:Hp}{sz n:Nat}{cs:List Value}(h:cs.length=n*sz):Rdb (H.new (.cells cs true)) sz (.slice (some ⟨H.next,0,some sz⟩) n n) n cs:=
 .inr ⟨H.next,n,[],true,rfl,Nat.le_refl _,by rw[get_new,if_pos rfl,append_nil],h,by show H.next<H.next+1;omega⟩
theorem s_and{α:Type}(k:Value→Option α):pBin PP .add Aa (.int .i64 0) (.int .i64 0) k=k (.int .i64 0):=rfl
theorem c_live{H:Hp}(hL:Laid H):∃H',RR B4 [] H=some (.bool true,H')∧Frm (fun _=>False) H H':=by
 have hr:=zhm E0 rfl H;unfold zet at hr;have hc:=c_load hL liveT (by decide) (lim:=0) (by decide);rw[znR]at hc;have hgood:=znQ znR;obtain⟨H1,st,f,g,sl,rv,a1,a2,a3,a4,a5,a6,a7⟩:=hc;have a1:RR AY [.string ⟨#[49,32,118,97,114,32,120,32,56,10,50,32,118,97,114,32,121,32,56,10,51,32,97,100,100,32,49,32,50,10,52,32,101,113,32,51,32,49,10,114,111,111,116,115,32,51,32,52,10]⟩,.int .i64 0] H=_:=a1;have a3:Vec H1 1 rv 2 (zbH [3,4]):=a3;rw[zow a1]at hr;simp only[(s_t4 _ _ _ _ _).1,(s_t4 _ _ _ _ _).2.1,(s_t4 _ _ _ _ _).2.2.1,(s_t4 _ _ _ _ _).2.2.2]at hr;rw[zaf (c_no _ _),za5,bF (by decide),zpH An _ ⟨Bp,by kernel_rfl⟩,zac,zau,a3.len,za5,bF (by decide),zal,zaA,bvv3,bvv3]at hr;have hb2:∀(H:Hp) (k:Value→Hp→Option (Value×Hp)),zam 3 [.string ⟨#[]⟩,.int .i64 0,.int .u64 0] 2 [(0,VV.val ⟨⟨#[120]⟩,8,200⟩),(1,VV.val ⟨⟨#[121]⟩,8,100⟩)] H k=k (.slice (some ⟨H.next,0,some 3⟩) 2 2) (H.new (.cells (zbT zmF) true)):=fun H k=>rfl;have hb1:∀(H:Hp) (k:Value→Hp→Option (Value×Hp)),zam 3 [.string ⟨#[]⟩,.int .i64 0,.int .u64 0] 1 [(0,VV.val ⟨⟨#[120]⟩,4,1⟩)] H k=k (.slice (some ⟨H.next,0,some 3⟩) 1 1) (H.new (.cells (zbT zif) true)):=fun H k=>rfl;have hb0:∀(H:Hp) (k:Value→Hp→Option (Value×Hp)),zam 1 [.int .u64 0] 2 [(0,(.int .u64 44)),(1,(.int .u64 0))] H k=k (.slice (some ⟨H.next,0,some 1⟩) 2 2) (H.new (.cells (wvs [44#64,0#64]) true)):=fun H k=>rfl;rw[hb2]at hr;let H2:=H1.new (.cells (zbT zmF) true)
 have f12:Frm (fun _=>False) H1 H2:=zcv _ _ _;have kst:∀{A B:Hp},Frm (fun _=>False) A B→StF A st 0 zq7 liveK sl f g→StF B st 0 zq7 liveK sl f g:=fun k h=>h.keep (fun j hj=>k.same j (h.foot_lt hj) fun q=>q) k.next;have krv:∀{A B:Hp},Frm (fun _=>False) A B→Vec A 1 rv 2 (zbH [3,4])→Vec B 1 rv 2 (zbH [3,4]):=fun k h=>h.keep k fun _ _ q=>q;have s2:=kst f12 a2;have r2:=krv f12 a3;have n2:Rdb H2 3 (.slice (some ⟨H1.next,0,some 3⟩) 2 2) zmF.length (zbT zmF):=zoW (H:=H1) (sz:=3) (n:=2) (cs:=zbT zmF) rfl;obtain⟨H3,v3,e3,m3⟩:=zmR s2 hgood.1 (by decide) (rs:=[3,4]) r2.rd.o (by decide) n2 (by decide) zqa.1;rw[live_vals]at e3 m3;have e3:RR Ax [.pointer (some ⟨st,0,none⟩),rv,.slice (some ⟨H1.next,0,some 3⟩) 2 2] (H1.new (.cells (zbT zmF) true))=_:=e3;have f23:Frm (fun _=>False) H2 H3:=⟨m3.next,fun j hj _=>m3.old j hj⟩
 have s3:=kst f23 s2;have r3:=krv f23 r2;rw[zaf e3,x01]at hr;obtain⟨y,y1,y2⟩:=Rdb.at1 r3.rd (i:=1) (z:=.int .i64 4) rfl;have y1':∀(k:Value→Option (Value×Hp)),pIdx 1 rv (.int .i64 1) k=_:=fun k=>y1 _ .i64 k;rw[y1',y2]at hr;obtain⟨H4,e4,f34⟩:=c_size s3 hgood.1.dag (by decide) 4;rw[live_size]at e4;have s4:=kst f34 s3;have r4:=krv f34 r3;have e4:RR Bf [.pointer (some ⟨st,0,none⟩),.int .i64 4] H3=some (.tuple #[.int .i64 4,.int .u64 5,.int .i64 3,.int .i64 0],H4):=e4;rw[zaf e4]at hr;simp only[(s_t4 _ _ _ _ _).1,(s_t4 _ _ _ _ _).2.1,(s_t4 _ _ _ _ _).2.2.1,(s_t4 _ _ _ _ _).2.2.2]at hr;obtain⟨z,z1,z2⟩:=Rdb.at1 r4.rd (i:=0) (z:=.int .i64 3) rfl;have z1':∀(k:Value→Option (Value×Hp)),pIdx 1 rv (.int .i64 0) k=_:=fun k=>z1 _ .i64 k;rw[z1',z2,bvv3,hb1]at hr;let H5:=H4.new (.cells (zbT zif) true)
 have f45:Frm (fun _=>False) H4 H5:=zcv _ _ _;have s5:=kst f45 s4;have r5:=krv f45 r4;have n5:Rdb H5 3 (.slice (some ⟨H4.next,0,some 3⟩) 1 1) zif.length (zbT zif):=zoW (H:=H4) (sz:=3) (n:=1) (cs:=zbT zif) rfl;obtain⟨H6,e6,n6,o6⟩:=c_value s5 hgood.1 (by decide) (rs:=[3,4]) r5.rd.o (by decide) n5 (by decide) zqa.2 (t:=3);rw[live_val1]at e6;have e6:RR AC [.pointer (some ⟨st,0,none⟩),.int .i64 3,.slice (some ⟨H4.next,0,some 3⟩) 1 1] (H4.new (.cells (zbT zif) true))=_:=e6;have f56:Frm (fun _=>False) H5 H6:=⟨n6,fun j hj _=>o6 j hj⟩
 have t:∀{A B C:Hp},Frm (fun _=>False) A B→Frm (fun _=>False) B C→Frm (fun _=>False) A C:=fun a b=>a.trans b fun j q=>q.elim;have f36:Frm (fun _=>False) H3 H6:=t (t f34 f45) f56;rw[zaf e6,x01,zaf (c_no _ _),zaf (c_no _ _),s_and,eT rfl,hb0]at hr;let H7:=H6.new (.cells (wvs [44#64,0#64]) true)
 have f67:Frm (fun _=>False) H6 H7:=zcv _ _ _;have m7:Vec H7 1 v3 2 (wvs [44#64,0#64]):=m3.vec.keep (t f36 f67) fun _ _ q=>q;have hsame:=zkR (l:=[44#64,0#64]) m7.rd (zoW (H:=H6) (sz:=1) (n:=2) (cs:=wvs [44#64,0#64]) rfl) (by decide);have hsame:RR AT [v3,.slice (some ⟨H6.next,0,some 1⟩) 2 2] (H6.new (.cells (wvs [44#64,0#64]) true))=_:=hsame;rw[zaf hsame,zac,zaE,eT rfl,eT rfl,eT rfl,zaf (c_no _ _),zaF,decide_eq_true rfl]at hr;exact⟨H7,hr,t (t (t (t a4 f12) f23) f36) f67⟩
end Go.AM.N14
namespace Go.AM.N14
open Go Go.AM
end Go.AM.N14
namespace Go.AM.N14
open List Go Go.AM
theorem c_equal{H:Hp}{p f g p' f' g':Nat}{lim lim':Int}{L:List Nd}{K K':List (ByteArray×Int)}{sl sl':Value}(hs:StF H p lim L K sl f g)(hq:StF H p' lim' L K' sl' f' g')(hL:(L.length:Int)≤4611686018427387904) :
  RR Bv [.pointer (some ⟨p,0,none⟩),.pointer (some ⟨p',0,none⟩)] H=some (.bool true,H):=by
 have hr:=(zgL E0 rfl (.pointer (some ⟨p,0,none⟩)) (.pointer (some ⟨p',0,none⟩)) H).trans (zgS _ _ _ _);have A:=hs.st;have B:=hq.st;have hloop:∀(k i:Nat),i+k=L.length→zas (zbf RR (.pointer (some ⟨p,0,none⟩)) (.pointer (some ⟨p',0,none⟩))) [.int .i64 ((i+1:Nat):Int)] H=some (.exit 0,[.int .i64 ((L.length+1:Nat):Int)],H):=by
  intro k;induction k with
  |zero=>
   intro i hi;have:i=L.length:=by omega
   subst this;have:zbf RR (.pointer (some ⟨p,0,none⟩)) (.pointer (some ⟨p',0,none⟩)) [.int .i64 ((L.length+1:Nat):Int)] H=some (.exit 0,[.int .i64 ((L.length+1:Nat):Int)],H):=by unfold zbf;simp only[qg0];rw[zbA,zaJ,Nat.zero_add,B.l1,B.all.len,zb0,bF (by omega)]
   rw[zai,this];rfl
  |succ k ih=>
   intro i hi;have hlt:i<L.length:=by omega
   have hn:=zq4 hlt;obtain⟨y,hy,hix⟩:=B.all.ix hlt (α:=Outc);have w1:IntKind.i64.wrap (((i+1:Nat):Int)+1)=((i+1+1:Nat):Int):=zaq (by omega) (by omega);have w2:IntKind.i64.wrap (((i+1:Nat):Int)-1)=(i:Int):=by rw[zaq (by omega) (by omega)];omega
   have q:((i+1:Nat):Int)≤(L.length:Int):=by omega
   have e10:=Go.AM.c10 A hL ((i+1:Nat):Int);rw[hn.2,if_pos rfl]at e10;have:zbf RR (.pointer (some ⟨p,0,none⟩)) (.pointer (some ⟨p',0,none⟩)) [.int .i64 ((i+1:Nat):Int)] H=some (.next,[.int .i64 ((i+1+1:Nat):Int)],H):=by unfold zbf;simp only[qg0];rw[zbA,zaJ,Nat.zero_add,B.l1,B.all.len,zb0,bT q,zaf e10,x01,spl7,zaf (c_no _ _),za5,bF (by simp),znL,zbA,zaJ,Nat.zero_add,B.l1,zbK,w2,hix,ld7 hy (show L[i]?=some L[i] by simp[hlt]),hn.1,s_neq36,zoV,Bool.not_true,zac,zau,zaN,w1]
   rw[zai,this];exact ih (i+1) (by omega)
 have hl:=hloop L.length 0 (by omega);have hl:zas (zbf RR (.pointer (some ⟨p,0,none⟩)) (.pointer (some ⟨p',0,none⟩))) [.int .i64 1] H=_:=hl;rw[zaf (Go.AM.c9 A),zbA,zaJ,Nat.zero_add,B.l1,zha B.rd1,B.all.len,s_chkL B.all,za5,bF (by simp),hl,zal,za0,zaz]at hr;exact hr
def StoA(H:Hp)(l:List UInt8):LdR→Prop
 |.bad _ _=>∃H',RR A4 [str l,.int .i64 0] H=some (.tuple #[.pointer none,.pointer none,.slice none 0 0,.bool true],H')∧Frm (fun _=>False) H H'
 |.good L K q=>∃H' st f g sl st' f' g' sl' rv,RR A4 [str l,.int .i64 0] H=some (.tuple #[.pointer (some ⟨st,0,none⟩),.pointer (some ⟨st',0,none⟩),rv,.bool true],H')∧Frm (fun _=>False) H H' ∧
   StF H' st 0 L K sl f g∧StF H' st' 0 L K sl' f' g'∧Vec H' 1 rv q.length (zbH q)
theorem c_stores{H:Hp}(hL:Laid H)(l:List UInt8)(hl:l.length≤2^37):StoA H l (zeu 0 (zbB l) 0 [] [] []):=by
 have hr:=zfY E0 rfl (str l) (.int .i64 0) H;unfold zdz at hr;have hc:=c_load hL l hl (lim:=0) (by decide);have hq:∀H1,LoadA H1 0 AB (fun v=>v) [str l,.int .i64 0] (zeu 0 (zbB l) 0 [] [] []):=fun H1=>q_load l hl (by decide);have t:∀{A B C:Hp},Frm (fun _=>False) A B→Frm (fun _=>False) B C→Frm (fun _=>False) A C:=fun a b=>a.trans b fun j q=>q.elim;have e0:∀x:Int,¬(x≠x):=fun x q=>q rfl;cases hr0:zeu 0 (zbB l) 0 [] [] [] with
 |bad ln e=>
  rw[hr0]at hc;have hq1:∀H1,LoadA H1 0 AB (fun v=>v) [str l,.int .i64 0] (.bad ln e):=fun H1=>by have:=hq H1;rw[hr0]at this;exact this
  obtain⟨H1,a1,a2⟩:=hc;obtain⟨H2,b1,b2⟩:=hq1 H1;have b1:RR AB [str l,.int .i64 0] H1=some (.tuple #[.pointer none,.slice none 0 0,.int .i64 (ln:Int),.int .i64 e],H2):=b1;have hi:=zl1 (H:=H2) (x:=.slice none 0 0) (y:=.slice none 0 0) (l:=[]) (Vec.nil H2 1).rd (Vec.nil H2 1).rd (by simp);rw[zow a1]at hr;simp only[(s_t4 _ _ _ _ _).1,(s_t4 _ _ _ _ _).2.1,(s_t4 _ _ _ _ _).2.2.1,(s_t4 _ _ _ _ _).2.2.2]at hr;rw[zaf b1]at hr;simp only[(s_t4 _ _ _ _ _).1,(s_t4 _ _ _ _ _).2.1,(s_t4 _ _ _ _ _).2.2.1,(s_t4 _ _ _ _ _).2.2.2]at hr;rw[za5,bF (e0 e),zaf hi,za9,zac,Bool.not_true,zau,zjW An und23,zjW A0 und24,s_bneq Cq _ _ und4,zac,beq_self_eq_true,Bool.not_true,zau,zal,zaA,zjW An und23,zac,zaE]at hr;exact⟨H2,hr,t a2 b2⟩
 |good L K q=>
  rw[hr0]at hc;obtain⟨H1,st,f,g,sl,rv,a1,a2,a3,a4,a5,a6,a7⟩:=hc;have hq1:=hq H1;rw[hr0]at hq1;obtain⟨H2,st',f',g',sl',rv',b1,b2,b3,b4,b5,b6,b7⟩:=hq1;have b1:RR AB [str l,.int .i64 0] H1=some (.tuple #[.pointer (some ⟨st',0,none⟩),rv',.int .i64 0,.int .i64 0],H2):=b1;obtain⟨l1,l2⟩:=load_bd hr0;have A:=a2.keep (fun j hj=>b4.same j (a2.foot_lt hj) fun q=>q) b4.next;have a3:Vec H1 1 rv q.length (zbH q):=a3;have b3:Vec H2 1 rv' q.length (zbH q):=b3;have hi:=zl1 (a3.stay b4).rd b3.rd (by omega);have he:=c_equal A b2 (by omega);rw[zow a1]at hr;simp only[(s_t4 _ _ _ _ _).1,(s_t4 _ _ _ _ _).2.1,(s_t4 _ _ _ _ _).2.2.1,(s_t4 _ _ _ _ _).2.2.2]at hr;rw[zaf b1]at hr;simp only[(s_t4 _ _ _ _ _).1,(s_t4 _ _ _ _ _).2.1,(s_t4 _ _ _ _ _).2.2.1,(s_t4 _ _ _ _ _).2.2.2]at hr;rw[za5,bF (e0 0),zaf hi,za9,zac,Bool.not_true,zau,s_pnil An _ und23,s_pnil A0 _ und24,s_bneq Cq _ _ und4,zac,beq_self_eq_true,Bool.not_true,zau,zal,zaA,s_pnil An _ und23,zac,zau,zaf he]at hr;exact⟨H2,st,f,g,sl,st',f',g',sl',rv,hr,t a4 b4,A,b2,a3.stay b4⟩
theorem c_roots{H:Hp}{rv x:Value}{q os:List Int}(hv:Rdb H 1 rv q.length (zbH q))(hx:Rdb H 1 x os.length (zbH os))(hb:(q.length+os.length)*8≤2^47) :
  ∃w H',(∀(α:Type) (k:Value→Hp→Option α),(zam 1 [.int .i64 0] 0 [] H fun v17 H18=>zaH 1 8 v17 rv H18 fun v19 H20=>zaH 1 8 v19 x H20 k)=k w H')∧MadeN 1 H H' w (q++os).length (zbH (q++os)):=by
 obtain⟨e1,e2⟩:=Vec.empty H 1 [.int .i64 0];let H1:=H.new (.cells [] true)
 have f1:Frm (fun _=>False) H H1:=zcv _ _ _;obtain⟨v2,H2,a1,a2,a3,a4⟩:=e2.app (bytes:=8) (hv.keep f1 fun _ _ q=>q) (znV q) (by omega);have n1:(H.new (AObj.cells [] true)).next=H.next+1:=rfl;have id1:∀j,Id (Value.slice (some ⟨H.next,0,some 1⟩) 0 0) j→j=H.next:=fun j hj=>by cases hj;rfl
 have hx2:Rdb H2 1 x os.length (zbH os):=hx.keep' (fun j hj=>by
  have:=hx.lt hj
  rw[a3.same j (by omega) (fun q=>by have:=id1 j q;omega),f1.same j (by omega) fun q=>q]) (Nat.le_trans f1.next a3.next)
 obtain⟨v3,H3,b1,b2,b3,b4⟩:=a2.app (bytes:=8) hx2 (znV os) (by omega);have id2:∀j,Id v2 j→H.next≤j:=fun j hj=>by
  rcases a4 j hj with q|q
  ·rw[id1 j q];exact Nat.le_refl _
  ·omega
 have n2:=a3.next;have hcs:[]++zbH q++zbH os=zbH (q++os):=by simp[zbH]
 rw[hcs]at b2;have hlen:0+q.length+os.length=(q++os).length:=by rw[length_append,Nat.zero_add]
 rw[hlen]at b2;refine⟨v3,H3,fun α k=>by rw[e1,a1,b1],Nat.le_trans (Nat.le_trans f1.next a3.next) b3.next,fun j hj=>?_,b2,fun j hj=>?_⟩
 ·rw[b3.same j (by omega) (fun q=>by have:=id2 j q;omega),a3.same j (by omega) (fun q=>by have:=id1 j q;omega),f1.same j hj fun q=>q]
 ·rcases b4 j hj with q|q
  ·exact id2 j q
  ·omega
end Go.AM.N14
namespace Go.AM.N14
open Go Go.AM
section
end
section
end
end Go.AM.N14
namespace Go.AM.N14
open List Go Go.AM
theorem zqu{L:List Nd}{out:List Nat}(hcl:zd3 L out):∀u,u∈out→∀c∈kids L u,c∈out:=fun u hu c hc=>by obtain⟨j,hj⟩:=List.getElem?_of_mem hu;exact mem_of_mem_take (hcl j u hj c hc)
section
variable {L:List Nd}{K:List (ByteArray×Int)}(hg:zfO L K){ns:List Nat}(hns:∀t∈ns,1≤t∧t≤L.length)
include hg hns
theorem zoG:(posts L ns []).Nodup∧(∀t∈posts L ns [],1≤t∧t≤L.length)∧zd3 L (posts L ns [])∧(∀t∈ns,t∈posts L ns []):=by have hd:=hg.dag;have hmem:=zdq hd (N:=L.length) ns [] hns;exact⟨zh2 hd ns [] (fun c hc=>(hns c hc).1) nodup_nil,fun t ht=>(hmem.2.2 t ht).elim (fun q=>by cases q) fun q=>q,(zgq hd ns [] (fun c hc=>(hns c hc).1) (fun i t h=>by cases h)).1,hmem.2.1⟩
end
def strs(l:List ByteArray):List Value:=l.map .string
theorem zma{l:List ByteArray}{i:Nat}{s:ByteArray}(h:l[i]?=some s):(strs l)[i]?=some (.string s):=by unfold strs;rw[List.getElem?_map,h];rfl
theorem strs_app(l m:List ByteArray):strs (l++m)=strs l++strs m:=by simp[strs]
theorem beqS(a b:ByteArray):(a.toList==b.toList)=(b==a):=by
 rw[Bool.eq_iff_iff];constructor
 ·intro h;exact(zhE b a).2 (q_seqlE _ _ h).symm
 ·intro h;rw[(zhE b a).1 h];exact beq_self_eq_true _
section
variable {H:Hp}{x:Value}{l:List ByteArray}(hx:Rdb H 1 x l.length (strs l))(hl:l.length≤2^41)
include hx hl
theorem zp6{i:Nat}{s:ByteArray}(hi:l[i]?=some s):∀(r:List ByteArray) (k:Nat),(l.take i).drop k=r→k≤i →
  zas (zaT RR x [.int .i64 (i:Int)]) [.int .i64 (k:Int)] H=if (r.any fun t=>s==t)=true then some (.ret,[.bool false],H) else some (.exit 2,[.int .i64 (i:Int)],H)
 |[],k,hr,hk=>by
  have hil:=(List.getElem?_eq_some_iff.1 hi).1;have hki:k=i:=by have:=congrArg List.length hr;rw[length_drop,length_take,length_nil]at this;omega
  subst hki;rw[any_nil,if_neg (by decide),zai];have:zaT RR x [.int .i64 (k:Int)] [.int .i64 (k:Int)] H=some (.exit 2,[.int .i64 (k:Int)],H):=by unfold zaT;simp only[qg0];rw[lF (Int.lt_irrefl _)]
  rw[this];rfl
 |t::r,k,hr,hk=>by
  have hil:=(List.getElem?_eq_some_iff.1 hi).1;have hlt:k<i:=by have:=congrArg List.length hr;rw[length_drop,length_take,length_cons]at this;omega
  have hkt:l[k]?=some t:=by
   have:((l.take i).drop k)[0]?=some t:=by rw[hr];rfl
   rwa [List.getElem?_drop,Nat.add_zero,List.getElem?_take_of_lt hlt]at this
  have hr2:(l.take i).drop (k+1)=r:=by rw[←drop_drop,hr];rfl
  obtain⟨a,a1,a2⟩:=Rdb.at1 hx (zma hkt);obtain⟨b,b1,b2⟩:=Rdb.at1 hx (zma hi);have q:(k:Int)<(i:Int):=by omega
  have w1:IntKind.i64.wrap ((k:Int)+1)=((k+1:Nat):Int):=zaq (by omega) (by omega);rw[zai,any_cons];cases he:s==t with
  |true=>
   have:zaT RR x [.int .i64 (i:Int)] [.int .i64 (k:Int)] H=some (.ret,[.bool false],H):=by unfold zaT;simp only[qg0];rw[lT q,a1,a2,b1,b2,zpQ,beqS,he,zac,zaE]
   rw[this,Bool.true_or,if_pos rfl];rfl
  |false=>
   have:zaT RR x [.int .i64 (i:Int)] [.int .i64 (k:Int)] H=some (.next,[.int .i64 ((k+1:Nat):Int)],H):=by unfold zaT;simp only[qg0];rw[lT q,a1,a2,b1,b2,zpQ,beqS,he,zac,zau,zaN,w1]
   rw[this,Bool.false_or];exact zp6 hi r (k+1) hr2 (by omega)
theorem znN:∀(r:List ByteArray) (i:Nat),l.drop i=r→i≤l.length →
  zas (zbe RR x) [.int .i64 (i:Int)] H=if nmOk (l.take i) r=true then some (.exit 0,[.int .i64 (l.length:Int)],H) else some (.ret,[.bool false],H)
 |[],i,hr,hi=>by
  have hil:i=l.length:=by have:=congrArg List.length hr;rw[length_drop,length_nil]at this;omega
  subst hil;have:zbe RR x [.int .i64 (l.length:Int)] H=some (.exit 0,[.int .i64 (l.length:Int)],H):=by unfold zbe;simp only[qg0];rw[hx.len,lF (Int.lt_irrefl _)]
  rw[zai,this];rfl
 |s::r,i,hr,hi=>by
  have hlt:i<l.length:=by have:=congrArg List.length hr;rw[length_drop,length_cons]at this;omega
  have hs:l[i]?=some s:=by
   have:(l.drop i)[0]?=some s:=by rw[hr];rfl
   rwa [List.getElem?_drop,Nat.add_zero]at this
  have hr2:l.drop (i+1)=r:=by rw[←drop_drop,hr];rfl
  have ht:l.take (i+1)=l.take i++[s]:=by rw[take_add_one,hs];rfl
  obtain⟨a,a1,a2⟩:=Rdb.at1 hx (zma hs);have q:(i:Int)<(l.length:Int):=by omega
  have w1:IntKind.i64.wrap ((i:Int)+1)=((i+1:Nat):Int):=zaq (by omega) (by omega);have hin:=zp6 hx hl hs (l.take i) 0 rfl (Nat.zero_le _);have hin:zas (zaT RR x [.int .i64 (i:Int)]) [.int .i64 0] H=_:=hin;rw[zai,znH];have hcase:zbe RR x [.int .i64 (i:Int)] H=if (((l.take i).any fun t=>s==t)||!zcz s)=true then some (.ret,[.bool false],H) else some (.next,[.int .i64 ((i+1:Nat):Int)],H):=by
   unfold zbe;simp only[qg0];rw[hx.len,lT q,a1,a2,zaf (Go.AM.c50 _ _),za9,zac];cases hk:zcz s with
   |false=>rw[Bool.not_false,zaE,Bool.or_true,if_pos rfl]
   |true=>
    rw[Bool.not_true,zau,Bool.or_false,hin];cases (l.take i).any fun t=>s==t with
    |true=>rw[if_pos rfl,if_pos rfl,zal,zbZ,zcp]
    |false=>rw[if_neg (by decide),if_neg (by decide),zal,za0,zaz,zaN,w1]
  rw[hcase];cases hc:((l.take i).any fun t=>s==t)||!zcz s with
  |true=>rw[if_pos rfl,if_pos rfl,if_neg (by decide)];rfl
  |false=>
   simp only[Bool.false_eq_true,if_false];rw[←ht];exact znN r (i+1) hr2 (by omega)
theorem q_named:RR BG [x] H=some (.bool (nmOk [] l),H):=by
 have hr:=(zgB E0 rfl x H).trans (zgO _ _ _);have h:=znN hx hl l 0 rfl (Nat.zero_le _);rw[take_zero]at h;have h:zas (zbe RR x) [.int .i64 0] H=_:=h;rw[h]at hr;cases hn:nmOk [] l with
 |true=>rw[hn,if_pos rfl,zal,za0,zaz]at hr;exact hr
 |false=>rw[hn,if_neg (by decide),zal,zbZ,zcp]at hr;exact hr
end
theorem rdP_pLoad{H:Hp}{p v:Value}(h:∀(α:Type) (k:Value→Option α),zak 1 false H p k=k v):Hp.rdP H p 1 false=some v:=by
 have:=h Value some;unfold zak at this;cases hq:Hp.rdP H p 1 false with
 |none=>rw[hq]at this;cases this
 |some w=>rw[hq]at this;exact this
section
variable {B:Hp}{x:Value}{L:List VV}(hx:Rdb B 3 x L.length (zbT L))(hl:L.length≤2^40)
include hx hl
theorem zlD:∀(r:List VV) (i:Nat) (H:Hp) (acc:Value),L.drop i=r→i≤L.length→Own B H [⟨1,acc,((L.take i).map VV.name).length,strs ((L.take i).map VV.name)⟩] →
  ∃H' acc',zas (zbj RR x) [acc,.int .i64 (i:Int)] H=some (.exit 0,[acc',.int .i64 (L.length:Int)],H')∧Own B H' [⟨1,acc',(L.map VV.name).length,strs (L.map VV.name)⟩]
 |[],i,H,acc,hr,hi,h=>by
  have hil:i=L.length:=by have:=congrArg List.length hr;rw[length_drop,length_nil]at this;omega
  subst hil;have hxH:Rdb H 3 x L.length (zbT L):=hx.keep' (fun j hj=>h.old j (hx.lt hj)) h.next;rw[take_length]at h;refine⟨H,acc,?_,h⟩;have:zbj RR x [acc,.int .i64 (L.length:Int)] H=some (.exit 0,[acc,.int .i64 (L.length:Int)],H):=by unfold zbj;simp only[qg0,qg1];rw[hxH.len,lF (Int.lt_irrefl _)]
  rw[zai,this];rfl
 |v::r,i,H,acc,hr,hi,h=>by
  have hlt:i<L.length:=by have:=congrArg List.length hr;rw[length_drop,length_cons]at this;omega
  have hv:L[i]?=some v:=by
   have:(L.drop i)[0]?=some v:=by rw[hr];rfl
   rwa [List.getElem?_drop,Nat.add_zero]at this
  have hr2:L.drop (i+1)=r:=by rw[←drop_drop,hr];rfl
  have ht:L.take (i+1)=L.take i++[v]:=by rw[take_add_one,hv];rfl
  have hxH:Rdb H 3 x L.length (zbT L):=hx.keep' (fun j hj=>h.old j (hx.lt hj)) h.next;obtain⟨a,_,a1,_,a3⟩:=Rdb.vv hxH hv;have q:(i:Int)<(L.length:Int):=by omega
  have w1:IntKind.i64.wrap ((i:Int)+1)=((i+1:Nat):Int):=zaq (by omega) (by omega);obtain⟨acc1,H1,p1,p2⟩:=Own.push h (bytes:=16) (zs:=[.string ⟨#[]⟩]) (x:=.string v.name) (by decide) (by decide) rfl rfl rfl (by rw[length_map,length_take];omega);have h1:Own B H1 [⟨1,acc1,((L.take (i+1)).map VV.name).length,strs ((L.take (i+1)).map VV.name)⟩]:=by rw[ht,map_append,strs_app,length_append];exact p2
  obtain⟨H',acc',g1,g2⟩:=zlD r (i+1) H1 acc1 hr2 (by omega) h1;refine⟨H',acc',?_,g2⟩;have:zbj RR x [acc,.int .i64 (i:Int)] H=some (.next,[acc1,.int .i64 ((i+1:Nat):Int)],H1):=by unfold zbj;simp only[qg0,qg1];rw[hxH.len,lT q,a1,zaJ,a3 _ 0 (.string v.name) rfl,p1,zaN,w1]
  rw[zai,this];exact g1
theorem zli{H:Hp}(hok:∀v∈L,v.Ok)(hH:Rdb H 3 x L.length (zbT L)):∀(r:List VV) (i:Nat),L.drop i=r→i≤L.length →
  zas (zbi RR x) [.int .i64 (i:Int)] H=if r.all wdOk=true then some (.exit 2,[.int .i64 (L.length:Int)],H) else some (.ret,[.int .i64 5],H)
 |[],i,hr,hi=>by
  have hil:i=L.length:=by have:=congrArg List.length hr;rw[length_drop,length_nil]at this;omega
  subst hil;have:zbi RR x [.int .i64 (L.length:Int)] H=some (.exit 2,[.int .i64 (L.length:Int)],H):=by unfold zbi;simp only[qg0];rw[hH.len,lF (Int.lt_irrefl _)]
  rw[zai,this];rfl
 |v::r,i,hr,hi=>by
  have hlt:i<L.length:=by have:=congrArg List.length hr;rw[length_drop,length_cons]at this;omega
  have hv:L[i]?=some v:=by
   have:(L.drop i)[0]?=some v:=by rw[hr];rfl
   rwa [List.getElem?_drop,Nat.add_zero]at this
  have hr2:L.drop (i+1)=r:=by rw[←drop_drop,hr];rfl
  obtain⟨y,_,y1,_,y3⟩:=Rdb.vv hH hv;have q:(i:Int)<(L.length:Int):=by omega
  have w1:IntKind.i64.wrap ((i:Int)+1)=((i+1:Nat):Int):=zaq (by omega) (by omega);obtain⟨n0,n1⟩:=hok v (mem_of_getElem? hv);have z1:∀(α:Type) (k:Value→Option α),zak 1 false H (.pointer (some ⟨y,i*3+1,none⟩)) k=k (.int .i64 v.w):=fun α k=>y3 α 1 (.int .i64 v.w) rfl k;have z2:∀(α:Type) (k:Value→Option α),zak 1 false H (.pointer (some ⟨y,i*3+2,none⟩)) k=k (.int .u64 v.num):=fun α k=>y3 α 2 (.int .u64 v.num) rfl k;have zr:=rdP_pLoad z2;have hcase:zbi RR x [.int .i64 (i:Int)] H=if wdOk v=true then some (.next,[.int .i64 ((i+1:Nat):Int)],H) else some (.ret,[.int .i64 5],H):=by
   unfold zbi wdOk;simp only[qg0];rw[hH.len,lT q,y1,zaJ,z1,zaV,zac];by_cases a:v.w<0
   ·rw[decide_eq_true a,zaE,decide_eq_false (show ¬0≤v.w by omega)];rfl
   ·rw[decide_eq_false a,zau,zbp,zac,decide_eq_true (show 0≤v.w by omega)];by_cases b:v.w>64
    ·rw[decide_eq_true b,zaE,decide_eq_false (show ¬v.w≤64 by omega)];rfl
    ·rw[decide_eq_false b,zau,zaF,zac,decide_eq_true (show v.w≤64 by omega)];by_cases e:v.w=0
     ·rw[decide_eq_true e,zaE,y1,zaJ,z2,zaf (Go.AM.c51 _ _ n0 _),y1,zaJ,z2,Go.AM.zha zr,za5,zac,zaN,w1,if_pos (show v.w<1 by omega)];by_cases c:ziw 1 v.num=v.num
      ·rw[c,decide_eq_false (by simp),zau,decide_eq_true rfl];rfl
      ·rw[decide_eq_true c,zaE,decide_eq_false c];rfl
     ·rw[decide_eq_false e,zau,y1,zaJ,z2,zaf (Go.AM.c51 _ _ n0 _),y1,zaJ,z2,Go.AM.zha zr,za5,zac,zaN,w1,if_neg (show ¬v.w<1 by omega)];by_cases c:ziw v.w v.num=v.num
      ·rw[c,decide_eq_false (by simp),zau,decide_eq_true rfl];rfl
      ·rw[decide_eq_true c,zaE,decide_eq_false c];rfl
  rw[all_cons,zai,hcase];cases hw:wdOk v with
  |true=>
   rw[if_pos rfl,Bool.true_and];exact zli hok hH r (i+1) hr2 (by omega)
  |false=>rw[if_neg (by decide),Bool.false_and,if_neg (by decide)];rfl
theorem q_told(hok:∀v∈L,v.Ok):∃H',RR BH [x] B=some (.int .i64 (zg7 L),H')∧Frm (fun _=>False) B H':=by
 have hr:=(zhf E0 rfl x B).trans (zhq _ _ _);obtain⟨H1,acc,e1,o1⟩:=zlD hx hl L 0 B (.slice none 0 0) rfl (Nat.zero_le _) ((Own.nil B).addNil 1);have e1:zas (zbj RR x) [.slice none 0 0,.int .i64 0] B=_:=e1;have hn:=q_named o1.head.rd (by rw[length_map];omega);have hx1:Rdb H1 3 x L.length (zbT L):=hx.keep o1.toFrm fun _ _ q=>q;have h2:=zli hx hl hok hx1 L 0 rfl (Nat.zero_le _);have h2:zas (zbi RR x) [.int .i64 0] H1=_:=h2;rw[e1,zal,za0,zaz]at hr;simp only[qg0]at hr;rw[zaf hn,za9,zac]at hr;refine⟨H1,hr.trans ?_,o1.toFrm⟩;unfold zg7;cases hk:nmOk [] (L.map VV.name) with
 |false=>rw[Bool.not_false,zaE,if_neg (by decide)]
 |true=>
  rw[Bool.not_true,zau,if_pos rfl,h2];cases L.all wdOk with
  |true=>rw[if_pos rfl,if_pos rfl,zal,za0,zaz]
  |false=>rw[if_neg (by decide),if_neg (by decide),zal,zbZ,zcp]
def fndI(s:ByteArray):Nat→List VV→Int
 |_,[]=>-1
 |i,v::r=>if (s==v.name)=true then (i:Int) else fndI s (i+1) r
theorem q_find(s:ByteArray):RR Bd [x,.string s] B=some (.int .i64 (fndI s 0 L),B):=by
 have hr:=(zhg E0 rfl x (.string s) B).trans (zhr _ _ _ _);have key:∀(r:List VV) (i:Nat),L.drop i=r→i≤L.length→zas (zaX RR x (.string s)) [.int .i64 (i:Int)] B=if fndI s i r=-1 then some (.exit 0,[.int .i64 (L.length:Int)],B) else some (.ret,[.int .i64 (fndI s i r)],B):=by
  intro r;induction r with
  |nil=>
   intro i hr hi;have hil:i=L.length:=by have:=congrArg List.length hr;rw[length_drop,length_nil]at this;omega
   subst hil;have:zaX RR x (.string s) [.int .i64 (L.length:Int)] B=some (.exit 0,[.int .i64 (L.length:Int)],B):=by unfold zaX;simp only[qg0];rw[hx.len,lF (Int.lt_irrefl _)]
   rw[zai,this];rfl
  |cons v r ih=>
   intro i hr hi;have hlt:i<L.length:=by have:=congrArg List.length hr;rw[length_drop,length_cons]at this;omega
   have hv:L[i]?=some v:=by
    have:(L.drop i)[0]?=some v:=by rw[hr];rfl
    rwa [List.getElem?_drop,Nat.add_zero]at this
   have hr2:L.drop (i+1)=r:=by rw[←drop_drop,hr];rfl
   obtain⟨y,_,y1,_,y3⟩:=Rdb.vv hx hv;have q:(i:Int)<(L.length:Int):=by omega
   have w1:IntKind.i64.wrap ((i:Int)+1)=((i+1:Nat):Int):=zaq (by omega) (by omega);unfold fndI;cases he:s==v.name with
   |true=>
    have:zaX RR x (.string s) [.int .i64 (i:Int)] B=some (.ret,[.int .i64 (i:Int)],B):=by unfold zaX;simp only[qg0];rw[hx.len,lT q,y1,zaJ,y3 _ 0 (.string v.name) rfl,zpQ,beqS,he,zac,zaE]
    rw[if_pos rfl,if_neg (by omega),zai,this];rfl
   |false=>
    have:zaX RR x (.string s) [.int .i64 (i:Int)] B=some (.next,[.int .i64 ((i+1:Nat):Int)],B):=by unfold zaX;simp only[qg0];rw[hx.len,lT q,y1,zaJ,y3 _ 0 (.string v.name) rfl,zpQ,beqS,he,zac,zau,zaN,w1]
    simp only[Bool.false_eq_true,if_false];rw[zai,this];exact ih (i+1) hr2 (by omega)
 have h:=key L 0 rfl (Nat.zero_le _);have h:zas (zaX RR x (.string s)) [.int .i64 0] B=_:=h;rw[h]at hr;by_cases hf:fndI s 0 L=-1
 ·rw[if_pos hf,zal,za0,zaz]at hr;rw[hf];exact hr
 ·rw[if_neg hf,zal,zbZ,zcp]at hr;exact hr
end
theorem zkH{s:ByteArray}:∀{l:List VV} {i:Nat},fndV s l=none→fndI s i l=-1
 |[],i,_=>rfl
 |v::r,i,h=>by
  unfold fndV at h;unfold fndI;split at h
  ·cases h
  ·rename_i q;rw[if_neg q];exact zkH h
theorem zkG{s:ByteArray}{v:VV}:∀{l:List VV} {i:Nat},fndV s l=some v→∃j:Nat,fndI s i l=((i+j:Nat):Int)∧l[j]?=some v
 |[],i,h=>by cases h
 |w::r,i,h=>by
  unfold fndV at h;unfold fndI;split at h
  ·rename_i q;cases h;rw[if_pos q];exact⟨0,by simp,rfl⟩
  ·rename_i q;rw[if_neg q];obtain⟨j,h1,h2⟩:=zkG (i:=i+1) h;exact⟨j+1,by rw[h1];congr 1;omega,h2⟩
theorem q_of4{n:Nd}(h4:n.op=4)(a b c:Value)(wa wb:Value)(H:Hp):RR BE [n.val,a,b,c,wa,wb] H=some (.int .u64 0,H):=by
 have hr:=zfe E0 rfl n.val a b c wa wb H;unfold zdh at hr;have e:∀(z:Int) {α:Type} (k:Value→Option α),(zae 1 false (zab n.val) 0 fun v=>pBin PP .eql Aa v (.int .i64 z) k)=k (.bool (decide (n.op=z))):=fun z α k=>by show zae 1 false n.cells 0 _=_;rw[zg0,zaF]
 have g:∀(z:Int) {α:Type} (k:Value→Option α),(zae 1 false (zab n.val) 0 fun v=>pBin PP .geq Aa v (.int .i64 z) k)=k (.bool (decide (n.op≥z))):=fun z α k=>by show zae 1 false n.cells 0 _=_;rw[zg0,zbt]
 simp only[e,g,h4,zac,zal,zaA,qg0]at hr;exact hr
structure VL(L:List Nd)(G:ByteArray→W64)(had:List Bool)(vals:List W64):Prop where
 h1:had.length=L.length+1
 h2:vals.length=L.length+1
 ok:∀t:Nat,had[t]?=some true→vals[t]?=some (vfn L G t)
abbrev VO(B H:Hp)(hv vv:Value)(had:List Bool)(vals:List W64)(r:List Sl):Prop:=Own B H (⟨1,hv,had.length,had.map .bool⟩::⟨1,vv,vals.length,vals.map wv⟩::r)
theorem bool_one(a:Bool):zab (.bool a)=[.bool a]∧one (.bool a)=true:=⟨rfl,rfl⟩
theorem wv_one(a:W64):zab (wv a)=[wv a]∧one (wv a)=true:=⟨rfl,rfl⟩
theorem VL.set{L:List Nd}{G:ByteArray→W64}{had:List Bool}{vals:List W64}(h:VL L G had vals)(t:Nat)(ht:t≤L.length):VL L G (had.set t true) (vals.set t (vfn L G t)):=by
 refine⟨by rw[length_set];exact h.h1,by rw[length_set];exact h.h2,fun u hu=>?_⟩;rw[List.getElem?_set]at hu ⊢;by_cases e:t=u
 ·subst e;rw[if_pos rfl,if_pos (by rw[h.h2];omega)]
 ·rw[if_neg e]at hu ⊢;exact h.ok u hu
theorem ld_w{H:Hp}{L:List Nd}{y:Nat}{b:Bool}(h:H.get y=some (.cells (L.flatMap Nd.cells) b)){i:Nat}{n:Nd}(ho:L[i]?=some n){α:Type}(k:Value→Option α):zak 1 false H (.pointer (some ⟨y,i*7+1,none⟩)) k=k (.int .i64 n.w):=by
 refine zbO h (i*7+1) (.int .i64 n.w) ?_ k;have:(((L.flatMap Nd.cells).drop (i*7)).take 7)[1]?=some (.int .i64 n.w):=by rw[zp4 L i n ho];rfl
 rw[List.getElem?_take_of_lt (by decide),List.getElem?_drop]at this;exact this
theorem zqH{α:Type}(p q r z:Value)(h1:(zab z)=[z])(h2:one z=true)(k:List Value→Option α):(zaD 1 [p,q,r] 0 z k=k [z,q,r])∧(zaD 1 [p,q,r] 1 z k=k [p,z,r])∧(zaD 1 [p,q,r] 2 z k=k [p,q,z]):=by
 have e:∀o,o<3→zaD 1 [p,q,r] o z k=k (spl [p,q,r] o [z]):=fun o ho=>by unfold zaD zbE;rw[h1,if_pos ⟨rfl,by show o+1≤3;omega,by show (one z&&true)=true;rw[h2];rfl⟩]
 exact⟨e 0 (by decide),e 1 (by decide),e 2 (by decide)⟩
section
variable {B0:Hp}{p f g:Nat}{lim:Int}{L:List Nd}{K:List (ByteArray×Int)}{sl:Value}(hst:StF B0 p lim L K sl f g)(hg:zfO L K)(hL:L.length≤2^40){x:Value}{Tv:List VV}(hx:Rdb B0 3 x Tv.length (zbT Tv))(hxl:Tv.length≤2^40)(hT:∀v∈Tv,v.Ok)
 {S:Nat→Prop}(hcl:∀t,S t→∀c∈kids L t,S c)(hok:∀t n,1≤t→S t→L[t-1]?=some n→n.op≠4→Vok n (wT L 0 n.a).toNat (wT L 0 n.b).toNat (vfn L (zbh Tv) n.a.toNat) (vfn L (zbh Tv) n.b.toNat)){hv vv:Value}{r:List Sl}
include hst hg hL hx hxl hT hcl hok
theorem q_value:∀t,1≤t→t≤L.length→S t→∀(H:Hp) (had:List Bool) (vals:List W64),VO B0 H hv vv had vals r→VL L (zbh Tv) had vals →
  ∃H' had' vals',RR Be [.pointer (some ⟨p,0,none⟩),.int .i64 (t:Int),x,hv,vv] H=some (wv (vfn L (zbh Tv) t),H')∧VO B0 H' hv vv had' vals' r∧VL L (zbh Tv) had' vals':=by
 intro t;induction t using Nat.strongRecOn with
 |_ t ih=>
  intro h1 h2 hs H had vals ho hl;have hr:=(zgA E0 rfl (.pointer (some ⟨p,0,none⟩)) (.int .i64 (t:Int)) x hv vv H).trans (zgN _ _ _ _ _ _ _);have hlt:t<had.length:=by rw[hl.h1];omega
  have hh:had[t]?=some had[t]:=List.getElem?_eq_getElem hlt;generalize had[t]=b at hh;obtain⟨y,y1,y2⟩:=znB ho hh;rw[y1,y2,zac]at hr;cases b with
  |true=>
   obtain⟨z,z1,z2⟩:=znB ho.swap (hl.ok t hh);rw[zaE,z1,z2]at hr;exact⟨H,had,vals,hr,ho,hl⟩
  |false=>
   have hn:L[t-1]?=some (L[t-1]'(by omega)):=List.getElem?_eq_getElem (by omega);generalize L[t-1]'(by omega)=n at hn;have w2:IntKind.i64.wrap ((t:Int)-1)=((t-1:Nat):Int):=by rw[zaq (by omega) (by omega)];omega
   have hd:=hg.dag;have ha:=hd.a _ n hn;have hb:=hd.b _ n hn;have hc:=hd.c _ n hn;have hkf:=(zgv hd hn).2;have hkt:kids L t=zce n:=by unfold kids;rw[hn]
   have hstH:=Own.st ho hst;obtain⟨sl',hsl,hix⟩:=hstH.st.all.ix (i:=t-1) (by omega) (α:=Value×Hp);have part:∀(j:Nat) (z:Int) (X0 X1 X2 W0 W1 W2:Value) (H:Hp) (had:List Bool) (vals:List W64),[n.a,n.b,n.c][j]?=some z→VO B0 H hv vv had vals r→VL L (zbh Tv) had vals→([X0,X1,X2])[j]?=some (.int .u64 0)→([W0,W1,W2])[j]?=some (.int .i64 0) →
     ∃H' had' vals',za2 RR (.pointer (some ⟨p,0,none⟩)) x hv vv [.int .i64 n.a,.int .i64 n.b,.int .i64 n.c] [.int .i64 (j:Int),.agg #[X0,X1,X2],.agg #[W0,W1,W2]] H=some (.next,[.int .i64 ((j+1:Nat):Int),.agg (([X0,X1,X2].set j (wv (vfn L (zbh Tv) z.toNat))).toArray),.agg (([W0,W1,W2].set j (.int .i64 ((wT L 0 z).toNat:Int))).toArray)],H')∧VO B0 H' hv vv had' vals' r∧VL L (zbh Tv) had' vals':=fun j z X0 X1 X2 W0 W1 W2 H had vals hz ho hl hX hW=>by
    have hj:j<3:=(List.getElem?_eq_some_iff.1 hz).1;have q:(j:Int)<3:=by omega
    have w1:IntKind.i64.wrap ((j:Int)+1)=((j+1:Nat):Int):=zaq (by omega) (by omega)
    have hcl3:∀{α:Type} (k:Value→Option α),zae 1 false [.int .i64 n.a,.int .i64 n.b,.int .i64 n.c] (0+j*1) k=k (.int .i64 z):=fun k=>zcc _ _ _ (by
     rw[Nat.zero_add,Nat.mul_one];have:([n.a,n.b,n.c].map fun z=>Value.int .i64 z)[j]?=some (.int .i64 z):=by rw[List.getElem?_map,hz];rfl
     exact this) k
    have hzb:z=0∨(1≤z∧z<(t:Int)):=by have hm:=mem_of_getElem? hz;simp only[mem_cons,not_mem_nil,or_false]at hm;rcases hm with rfl|rfl|rfl<;>omega
    by_cases h0:z=0
    ·subst h0;have eX:[X0,X1,X2].set j (wv (vfn L (zbh Tv) (0:Int).toNat))=[X0,X1,X2]:=by
      have:wv (vfn L (zbh Tv) (0:Int).toNat)=.int .u64 0:=rfl;rw[this];apply ext_getElem?;intro i;rw[List.getElem?_set];by_cases e:j=i
      ·subst e;rw[if_pos rfl,if_pos (by exact hj),hX]
      ·rw[if_neg e]
     have eW:[W0,W1,W2].set j (.int .i64 ((wT L 0 0).toNat:Int))=[W0,W1,W2]:=by
      have:Value.int .i64 ((wT L 0 0).toNat:Int)=.int .i64 0:=rfl;rw[this];apply ext_getElem?;intro i;rw[List.getElem?_set];by_cases e:j=i
      ·subst e;rw[if_pos rfl,if_pos (by exact hj),hW]
      ·rw[if_neg e]
     rw[eX,eW];refine⟨H,had,vals,?_,ho,hl⟩;unfold za2;simp only[qg0,qg1,qd1,qd0];rw[lT q,zq9 hj,hcl3,zbp,bF (by decide),zaN,w1];rfl
    ·have hzz:1≤z∧z<(t:Int):=by omega
     obtain⟨c,c1,c2⟩:=hkf z (by
      have hm:=mem_of_getElem? hz;simp only[mem_cons,not_mem_nil,or_false]at hm
      exact hm) h0
     have hcS:S c:=hcl t hs c (by rw[hkt];exact c1);obtain⟨H',had',vals',e1,o1,l1⟩:=ih c (by omega) (by omega) (by omega) hcS H had vals ho hl;rw[c2]at e1;have hn':L[c-1]?=some (L[c-1]'(by omega)):=List.getElem?_eq_getElem (by omega);generalize L[c-1]'(by omega)=m at hn';have hwc:wT L 0 z=m.w:=by rw[←c2];exact wT_at ⟨by omega,by omega⟩ hn' 0
     have hwn:=(zkF hg m (mem_of_getElem? hn')).1;have w3:IntKind.i64.wrap (z-1)=((c-1:Nat):Int):=by rw[zaq (by omega) (by omega)];omega
     have hs1:=Own.st o1 hst;obtain⟨sl2,hsl2,hix2⟩:=hs1.st.all.ix (i:=c-1) (by omega) (α:=Outc);have hzc:z.toNat=c:=by omega
     refine⟨H',had',vals',?_,o1,l1⟩;unfold za2;simp only[qg0,qg1,qd1,qd0];rw[lT q,zq9 hj,hcl3,zbp,bT (by omega),zq9 hj,hcl3,zaf e1,zq9 hj,hzc,hwc,Int.toNat_of_nonneg hwn];have cX:zab (Value.agg #[X0,X1,X2])=[X0,X1,X2]:=rfl;have cW:zab (Value.agg #[W0,W1,W2])=[W0,W1,W2]:=rfl
     have tail:∀c30:List Value,(pNil (.pointer (some ⟨p,0,none⟩)) (
       zat 1 (.pointer (some ⟨p,0,none⟩)) fun p31=>
       zak 1 false H' p31 fun v32=>
       zbW 3 (.int .i64 (j:Int)) fun j33=>
       zae 1 false [.int .i64 n.a,.int .i64 n.b,.int .i64 n.c] (0+j33*1) fun v34=>
       pBin PP .sub Aa v34 (.int .i64 1) fun v35=>
       pIdx 7 v32 v35 fun p36=>
       zat 1 p36 fun p37=>
       zak 1 false H' p37 fun v38=>
       zbW 3 (.int .i64 (j:Int)) fun j39=>
       zaD 1 (zab (Value.agg #[W0,W1,W2])) (0+j39*1) v38 fun c40=>
       pBin PP .add Aa (.int .i64 (j:Int)) (.int .i64 1) fun v41=>
       some (Ctl.next,[v41,(.agg c30.toArray),(.agg c40.toArray)],H')))=some (.next,[.int .i64 ((j+1:Nat):Int),.agg c30.toArray,.agg (([W0,W1,W2].set j (.int .i64 m.w)).toArray)],H'):=fun c30=>by
      rw[zbA,zaJ,Nat.zero_add,hs1.st.l1,zq9 hj,hcl3,zbK,w3,hix2,zaJ,ld_w hsl2 hn',zq9 hj,cW,Nat.zero_add,Nat.mul_one]
      match j,hj with
      |0,_=>rw[(zqH _ _ _ _ rfl rfl _).1,zaN,w1];rfl
      |1,_=>rw[(zqH _ _ _ _ rfl rfl _).2.1,zaN,w1];rfl
      |2,_=>rw[(zqH _ _ _ _ rfl rfl _).2.2,zaN,w1];rfl
     rw[cX,Nat.zero_add,Nat.mul_one]
     match j,hj,tail with
     |0,_,tail=>rw[(zqH _ _ _ _ rfl rfl _).1];exact tail _
     |1,_,tail=>rw[(zqH _ _ _ _ rfl rfl _).2.1];exact tail _
     |2,_,tail=>rw[(zqH _ _ _ _ rfl rfl _).2.2];exact tail _
   obtain⟨H1,hd1,vl1,s1,o1,l1⟩:=part 0 n.a (.int .u64 0) (.int .u64 0) (.int .u64 0) (.int .i64 0) (.int .i64 0) (.int .i64 0) H had vals rfl ho hl rfl rfl;obtain⟨H2,hd2,vl2,s2,o2,l2⟩:=part 1 n.b (wv (vfn L (zbh Tv) n.a.toNat)) (.int .u64 0) (.int .u64 0) (.int .i64 ((wT L 0 n.a).toNat:Int)) (.int .i64 0) (.int .i64 0) H1 hd1 vl1 rfl o1 l1 rfl rfl;obtain⟨H3,hd3,vl3,s3,o3,l3⟩:=part 2 n.c (wv (vfn L (zbh Tv) n.a.toNat)) (wv (vfn L (zbh Tv) n.b.toNat)) (.int .u64 0) (.int .i64 ((wT L 0 n.a).toNat:Int)) (.int .i64 ((wT L 0 n.b).toNat:Int)) (.int .i64 0) H2 hd2 vl2 rfl o2 l2 rfl rfl;have hloop:zas (za2 RR (.pointer (some ⟨p,0,none⟩)) x hv vv [.int .i64 n.a,.int .i64 n.b,.int .i64 n.c]) [.int .i64 0,.agg [.int .u64 0,.int .u64 0,.int .u64 0].toArray,.agg [.int .i64 0,.int .i64 0,.int .i64 0].toArray] H =
     some (.exit 0,[.int .i64 3,.agg #[wv (vfn L (zbh Tv) n.a.toNat),wv (vfn L (zbh Tv) n.b.toNat),wv (vfn L (zbh Tv) n.c.toNat)],.agg #[.int .i64 ((wT L 0 n.a).toNat:Int),.int .i64 ((wT L 0 n.b).toNat:Int),.int .i64 ((wT L 0 n.c).toNat:Int)]],H3):=by
    rw[zai];have s1:za2 RR (.pointer (some ⟨p,0,none⟩)) x hv vv [.int .i64 n.a,.int .i64 n.b,.int .i64 n.c] [.int .i64 0,.agg [.int .u64 0,.int .u64 0,.int .u64 0].toArray,.agg [.int .i64 0,.int .i64 0,.int .i64 0].toArray] H=_:=s1;rw[s1];show zas _ [.int .i64 ((1:Nat):Int),.agg #[wv (vfn L (zbh Tv) n.a.toNat),.int .u64 0,.int .u64 0],.agg #[.int .i64 ((wT L 0 n.a).toNat:Int),.int .i64 0,.int .i64 0]] _=_;rw[zai,s2];show zas _ [.int .i64 ((2:Nat):Int),.agg #[wv (vfn L (zbh Tv) n.a.toNat),wv (vfn L (zbh Tv) n.b.toNat),.int .u64 0],.agg #[.int .i64 ((wT L 0 n.a).toNat:Int),.int .i64 ((wT L 0 n.b).toNat:Int),.int .i64 0]] _=_;rw[zai,s3];show zas _ [.int .i64 3,.agg #[wv (vfn L (zbh Tv) n.a.toNat),wv (vfn L (zbh Tv) n.b.toNat),wv (vfn L (zbh Tv) n.c.toNat)],.agg #[.int .i64 ((wT L 0 n.a).toNat:Int),.int .i64 ((wT L 0 n.b).toNat:Int),.int .i64 ((wT L 0 n.c).toNat:Int)]] _=_;rw[zai];have:∀X W:Array Value,za2 RR (.pointer (some ⟨p,0,none⟩)) x hv vv [.int .i64 n.a,.int .i64 n.b,.int .i64 n.c] [.int .i64 3,.agg X,.agg W] H3=some (.exit 0,[.int .i64 3,.agg X.toList.toArray,.agg W.toList.toArray],H3):=fun X W=>by unfold za2;simp only[qg0,qg1,qd1,qd0];rw[lF (by decide)];rfl
    rw[this];rfl
   obtain⟨a,a1,H4,u4,o4⟩:=own_wr o3 bool_one (i:=t) (by rw[l3.h1];omega) true;have u4':∀(k:Hp→Option (Value×Hp)),zay 1 H3 (.pointer (some ⟨a,t*1,none⟩)) (.bool true) k=k H4:=fun k=>u4 _ k;have hkv:∀(w:W64),∃z,(∀(α:Type) (kd:IntKind) (k:Value→Option α),pIdx 1 vv (.int kd (t:Int)) k=k (.pointer (some ⟨z,t*1,none⟩)))∧∃H',(∀(α:Type) (k:Hp→Option α),zay 1 H4 (.pointer (some ⟨z,t*1,none⟩)) (wv w) k=k H')∧Own B0 H' (⟨1,vv,(vl3.set t w).length,(vl3.set t w).map wv⟩::⟨1,hv,(hd3.set t true).length,(hd3.set t true).map .bool⟩::r):=fun w=>own_wr o4.swap wv_one (i:=t) (by rw[l3.h2];omega) w;have splA:∀{α:Type} (a b c:Int) (k:List Value→Option α),zaD 3 [.int .i64 0,.int .i64 0,.int .i64 0] 0 (.agg #[.int .i64 a,.int .i64 b,.int .i64 c]) k=k [.int .i64 a,.int .i64 b,.int .i64 c]:=fun a b c k=>spl3 a b c k;have ec:∀(X:Array Value) {α:Type} (o:Nat) (k:Value→Option α),zae 1 false (zab (.agg X)) o k=zae 1 false X.toList o k:=fun X α o k=>rfl;have evf:=zlW hd (valF L (zbh Tv)) 0#64 h1 hn;have evf:vfn L (zbh Tv) t=valF L (zbh Tv) n (vfn L (zbh Tv) n.a.toNat) (vfn L (zbh Tv) n.b.toNat) (vfn L (zbh Tv) n.c.toNat):=evf;unfold valF at evf;have hvl3:t<vl3.length:=by rw[l3.h2];omega
   rw[zau,zbA,zaJ,Nat.zero_add,hstH.st.l1,zbK,w2,hix,ld7 hsl hn,spl7,zh8,zh7,zi6,zeB,splA,hloop,zal,za0,zaz,a1,u4',znL]at hr;simp only[qd1,qd0,qg0,qg1,ec]at hr;rw[zcc _ 0 _ rfl,zcc _ 1 _ rfl,zcc _ 2 _ rfl,zcc _ 0 _ rfl,zcc _ 1 _ rfl]at hr;by_cases h4:n.op=4
   ·rw[if_pos h4]at evf;rw[zaf (q_of4 h4 _ _ _ _ _ _)]at hr;obtain⟨z,z1,H5,u5,o5⟩:=hkv 0#64;have u5':∀(k:Hp→Option (Value×Hp)),zay 1 H4 (.pointer (some ⟨z,t*1,none⟩)) (.int .u64 0) k=k H5:=fun k=>u5 _ k;have hx5:Rdb H5 3 x Tv.length (zbT Tv):=hx.keep' (fun j hj=>o5.old j (hx.lt hj)) o5.next;rw[z1,u5',zg0,eT h4,ncell6,zaf (q_find hx5 hxl n.name),zbt,zac]at hr;cases hf:fndV n.name Tv with
    |none=>
     rw[zkH hf,decide_eq_false (by decide),zau,z1]at hr;have e0:vfn L (zbh Tv) t=0#64:=by rw[evf,zjL hf]
     obtain⟨z',z1',z2'⟩:=znB o5 (i:=t) (a:=0#64) (by rw[List.getElem?_set,if_pos rfl,if_pos hvl3]);have zz:(Value.pointer (some ⟨z',t*1,none⟩))=.pointer (some ⟨z,t*1,none⟩):=by have p1:=z1 Value .i64 some;have p2:=z1' Value .i64 some;rw[p1]at p2;exact(Option.some.inj p2).symm
     rw[←zz,z2']at hr;refine⟨H5,hd3.set t true,vl3.set t 0#64,by rw[e0];exact hr,o5.swap,?_⟩;have:=l3.set t h2;rw[e0]at this;exact this
    |some w=>
     obtain⟨j,j1,j2⟩:=zkG (i:=0) hf;rw[Nat.zero_add]at j1;have hwk:=hT w (zjE hf).1;obtain⟨m,_,m1,_,m3⟩:=Rdb.vv hx5 j2;have e0:vfn L (zbh Tv) t=BitVec.ofInt 64 w.num:=by rw[evf,zjK hf]
     have ev:Value.int .u64 w.num=wv (BitVec.ofInt 64 w.num):=num_wv hwk;obtain⟨z',z1',H6,u6,o6⟩:=own_wr o5 wv_one (i:=t) (by rw[length_set];exact hvl3) (BitVec.ofInt 64 w.num);have zz:(Value.pointer (some ⟨z',t*1,none⟩))=.pointer (some ⟨z,t*1,none⟩):=by have p1:=z1 Value .i64 some;have p2:=z1' Value .i64 some;rw[p1]at p2;exact(Option.some.inj p2).symm
     have u6':∀(k:Hp→Option (Value×Hp)),zay 1 H5 (.pointer (some ⟨z,t*1,none⟩)) (wv (BitVec.ofInt 64 w.num)) k=k H6:=fun k=>by rw[←zz];exact u6 _ k
     rw[set_set]at o6;obtain⟨z3,z31,z32⟩:=znB o6 (i:=t) (a:=BitVec.ofInt 64 w.num) (by rw[List.getElem?_set,if_pos rfl,if_pos hvl3]);have zz3:(Value.pointer (some ⟨z3,t*1,none⟩))=.pointer (some ⟨z,t*1,none⟩):=by have p1:=z1 Value .i64 some;have p2:=z31 Value .i64 some;rw[p1]at p2;exact(Option.some.inj p2).symm
     rw[j1,decide_eq_true (by omega),zaE,m1,zaJ,m3 _ 2 (.int .u64 w.num) rfl,z1,ev,u6',z1,←zz3,z32]at hr;refine⟨H6,hd3.set t true,vl3.set t (BitVec.ofInt 64 w.num),by rw[e0];exact hr,o6.swap,?_⟩;have:=l3.set t h2;rw[e0]at this;exact this
   ·rw[if_neg h4]at evf;rw[zaf (q_of (hok t n h1 hs hn h4) _ _)]at hr;obtain⟨z,z1,H5,u5,o5⟩:=hkv (vfn L (zbh Tv) t);rw[←evf]at hr;have u5':∀(k:Hp→Option (Value×Hp)),zay 1 H4 (.pointer (some ⟨z,t*1,none⟩)) (wv (vfn L (zbh Tv) t)) k=k H5:=fun k=>u5 _ k;obtain⟨z',z1',z2'⟩:=znB o5 (i:=t) (a:=vfn L (zbh Tv) t) (by rw[List.getElem?_set,if_pos rfl,if_pos hvl3]);have zz:(Value.pointer (some ⟨z',t*1,none⟩))=.pointer (some ⟨z,t*1,none⟩):=by have p1:=z1 Value .i64 some;have p2:=z1' Value .i64 some;rw[p1]at p2;exact(Option.some.inj p2).symm
    rw[z1,u5',zg0,eF h4,z1,←zz,z2']at hr;exact⟨H5,hd3.set t true,vl3.set t (vfn L (zbh Tv) t),hr,o5.swap,l3.set t h2⟩
end
end Go.AM.N14
namespace Go.AM.N14
open Go Go.AM
section
end
section
end
end Go.AM.N14
