/- Part of the proof of EvalPutMeansUptoCardSaid: see the last file.  -/
import Derived.Test.YtcbmccpkhagckaaGreatDoorCards
import Derived.Test.YtcbmccpkhagckaaGreatDoorTie
import Derived.WalkKit
import Derived.ProofKit
import Derived.OpenShut
import Derived.Deep.DeepHandedRow
import Derived.Deep.DeepWitnessRowRef
import Derived.Stop.LaidErr
import Derived.Lib.LaidTab
import Derived.Lib.LaidU8
import Derived.Lib.TrailingZeros
import Derived.Lib.LaidIn
import Derived.KernelRfl
import Derived.Laws.MathBits
import Derived.Lib.Mul64
import Derived.Test.YtcbmccpkhagckaaGreatDoorT1
import Derived.Test.YtcbmccpkhagckaaGreatDoorT2
import Derived.Test.YtcbmccpkhagckaaGreatDoorT3
set_option linter.unusedSimpArgs false
set_option linter.unusedVariables false
set_option linter.unusedSectionVars false
set_option maxRecDepth 100000
namespace Go.AM
open Go Go.ChangeShapes Go.WideShapes Go.ChangeAt Go.RowKit Go.Proofs.YtcbmccpkhagckaaGreatDoor
theorem xt7:XtC PP orc.xt:=by
 intro f e h;have h:look none [(AY,some zjV),(AX,some zj4)] f=some e:=h;unfold look at h;split at h
 ·rename_i q;cases h;have:f=AY:=(Nat.eq_of_beq_eq_true q).symm;subst this;exact idxStr_xt Go.Proofs.Tryz.func184 (by kernel_rfl) (by kernel_rfl) (by kernel_rfl) (by kernel_rfl)
 ·unfold look at h;split at h
  ·rename_i q;cases h;have:f=AX:=(Nat.eq_of_beq_eq_true q).symm;subst this;exact cntStr_xt Go.Proofs.Tryz.func157 (by kernel_rfl) (by kernel_rfl) (by kernel_rfl) (by kernel_rfl)
  ·cases h
theorem zfr{P:Program}{W:World}{name:String}{k:IntKind}{zs:List Int}{rest:List (String×DataW Unit)}{g:Nat}{t e:TypeId}{n:Nat}{ps:List MemPlace}
  (hg:P.globalNamed name=some g) (hty:(P.globals[g]?).map (·.type)=some t) (ht:P.underlying t=some (.array n e)) (he:P.underlying e=some (.int k)) (hce:P.cellsOf e=1) (hct:P.cellsOf t=n)
  (h:DataW.LaidVars P W ((name,Go.Lib.tabData k zs)::rest) ps):∃ty fz,W.heap[g]?=some (.cells (zs.map fun z=>Value.int k z).toArray ty fz):=by
 obtain⟨g',t',cs,fuel,p,q,hg',ht',hvar,hd,_,_⟩:=h;obtain rfl:=Option.some.inj (hg.symm.trans hg');obtain rfl:=Option.some.inj (hty.symm.trans ht');have hc:=Go.Lib.cells_of_tab ht he hce hct hd;unfold World.var? at hvar;rw[hg]at hvar;have hvar:(match W.heap[g]? with|some (Obj.cells cs _ _)=>some cs|_=>none)=some cs:=hvar;split at hvar
 ·rename_i cs' ty fz hw;cases hvar;refine⟨ty,fz,?_⟩;rw[hw,←hc]
 ·cases hvar
theorem ziH{P:Program}{W:World}{name:String}{g:Nat}{cs:Array Value}(hg:P.globalNamed name=some g)(hvar:W.var? P name=some cs):∃ty fz,W.heap[g]?=some (.cells cs ty fz):=by
 unfold World.var? at hvar;rw[hg]at hvar;have hvar:(match W.heap[g]? with|some (Obj.cells cs _ _)=>some cs|_=>none)=some cs:=hvar;split at hvar
 ·rename_i cs' ty fz hw;cases hvar;exact⟨ty,fz,hw⟩
 ·cases hvar
def bru64:List Int:=Go.Lib.deBruijn64tab.map fun (n:Nat)=>(n:Int)
theorem pow_data:(Rows.laid_internal_strconv_uint64pow10:DataW Unit)=Go.Lib.tabData .u64 zo4:=by kernel_rfl
theorem spc_data:(Rows.laid_strings_asciiSpace:DataW Unit)=Go.Lib.tabData .u8 zjm:=by kernel_rfl
theorem bru_data:(Rows.laid_math_bits_deBruijn64tab:DataW Unit)=Go.Lib.tabData .u8 bru64:=by kernel_rfl
abbrev ziC:List (String×DataW Unit):=[("math/bits.deBruijn32tab",Rows.laid_math_bits_deBruijn32tab),("math/bits.deBruijn64tab",Rows.laid_math_bits_deBruijn64tab),("internal/strconv.uint64pow10",Rows.laid_internal_strconv_uint64pow10),("unicode/utf8.acceptRanges",Rows.laid_unicode_utf8_acceptRanges),
 ("strconv.ErrRange",Rows.laid_strconv_ErrRange),("strconv.ErrSyntax",Rows.laid_strconv_ErrSyntax),("unicode.White_Space",Rows.laid_unicode_White_Space),("strings.asciiSpace",Rows.laid_strings_asciiSpace),("unicode/utf8.first",Rows.laid_unicode_utf8_first)]
theorem zoA : "*" ++ "errors.errorString" = "*errors.errorString" := by decide
theorem err_row:∀u,PP.typeName? 3 u=some "*errors.errorString" → u=AB:=fun u h=>
 typeName_ptr_named (nm := "errors.errorString") (by rw[zoA];kernel_rfl) (by kernel_rfl) (by decide) u (by rw[zoA];exact h)
theorem laid_errs{W:World}(h:laidMetH PP ziC W):(∃p ty fz,W.heap[Ax]?=some (.cells #[.iface AB p] ty fz))∧(∃p ty fz,W.heap[Aw]?=some (.cells #[.iface AB p] ty fz)):=by have h:laidMet PP ziC W:=h;have h4:=h.tail.tail.tail.tail;obtain⟨a,s,hv,_⟩:=laid_sentinel (g:=Ax) (ti:=AA) (tp:=AB) (te:=BP) (ts:=Ac) h4 (by kernel_rfl) (by kernel_rfl) Go.Proofs.Tryz.underlying114 err_row (by kernel_rfl) Go.Proofs.Tryz.underlying269 rfl rfl (by kernel_rfl) (by kernel_rfl) (by kernel_rfl);obtain⟨a2,s2,hv2,_⟩:=laid_sentinel (g:=Aw) (ti:=AA) (tp:=AB) (te:=BP) (ts:=Ac) h4.tail (by kernel_rfl) (by kernel_rfl) Go.Proofs.Tryz.underlying114 err_row (by kernel_rfl) Go.Proofs.Tryz.underlying269 rfl rfl (by kernel_rfl) (by kernel_rfl) (by kernel_rfl);obtain⟨t1,z1,e1⟩:=ziH (by kernel_rfl) hv;obtain⟨t2,z2,e2⟩:=ziH (by kernel_rfl) hv2;exact⟨⟨_,t1,z1,e1⟩,⟨_,t2,z2,e2⟩⟩
theorem laid_tabs{W:World}(h:laidMetH PP ziC W):(∃ty fz,W.heap[AE]?=some (.cells (zo4.map fun z=>Value.int .u64 z).toArray ty fz)) ∧
  (∃ty fz,W.heap[AD]?=some (.cells (zjm.map fun z=>Value.int .u8 z).toArray ty fz))∧(∃ty fz,W.heap[AR]?=some (.cells (bru64.map fun z=>Value.int .u8 z).toArray ty fz)):=by
 have h:laidMet PP ziC W:=h;obtain⟨q1,h1,_⟩:=h.tail;obtain⟨q2,h2,_⟩:=h.tail.tail;obtain⟨q7,h7,_⟩:=h.tail.tail.tail.tail.tail.tail.tail;rw[bru_data]at h1;rw[pow_data]at h2;rw[spc_data]at h7
 exact⟨zfr (by kernel_rfl) (t:=Cc) (e:=Ab) (n:=20) (by kernel_rfl) (by kernel_rfl) (by kernel_rfl) (by kernel_rfl) (by kernel_rfl) h2,
  zfr (by kernel_rfl) (t:=Cd) (e:=Ah) (n:=256) (by kernel_rfl) (by kernel_rfl) (by kernel_rfl) (by kernel_rfl) (by kernel_rfl) h7,
  zfr (by kernel_rfl) (t:=Ce) (e:=Ah) (n:=64) (by kernel_rfl) (by kernel_rfl) (by kernel_rfl) (by kernel_rfl) (by kernel_rfl) h1⟩
theorem start{W:World}(hsz:PP.globals.size≤W.heap.size)(h:laidMetH PP ziC W):∃H0,Rel PP W H0 (B00 PP)∧(∀i o,H0.get i=some o→o.own=false)∧Laid H0:=by
 obtain⟨⟨t1,z1,e1⟩,⟨t2,z2,e2⟩,t3,z3,e3⟩:=laid_tabs h;obtain⟨⟨p4,t4,z4,e4⟩,p5,t5,z5,e5⟩:=laid_errs h;let Fx:Nat→Option AObj:=fun i=>if i=AE then some (.fix (.cells (zo4.map fun z=>Value.int .u64 z).toArray t1 z1)) else if i=AD then some (.fix (.cells (zjm.map fun z=>Value.int .u8 z).toArray t2 z2))
  else if i=AR then some (.fix (.cells (bru64.map fun z=>Value.int .u8 z).toArray t3 z3)) else if i=Ax then some (.fix (.cells #[.iface AB p4] t4 z4)) else if i=Aw then some (.fix (.cells #[.iface AB p5] t5 z5)) else none
 obtain⟨r1,r2⟩:=relStart (P:=PP) hsz (F:=Fx) (fun i o hi=>by
  have hi:(if i=AE then _ else if i=AD then _ else if i=AR then _ else if i=Ax then _ else if i=Aw then _ else none)=some o:=hi;split at hi
  ·rename_i q;subst q;cases hi;exact .inl ⟨_,rfl,e1⟩
  ·split at hi
   ·rename_i q;subst q;cases hi;exact .inl ⟨_,rfl,e2⟩
   ·split at hi
    ·rename_i q;subst q;cases hi;exact .inl ⟨_,rfl,e3⟩
    ·split at hi
     ·rename_i q;subst q;cases hi;exact .inl ⟨_,rfl,e4⟩
     ·split at hi
      ·rename_i q;subst q;cases hi;exact .inl ⟨_,rfl,e5⟩
      ·cases hi)
 have g:∀i,i<PP.globals.size→(HS PP Fx).get i=Fx i:=fun i hi=>if_pos hi;have lt:∀i,i<11→i<PP.globals.size:=fun i hi=>by rw[zjc];omega
 refine⟨_,r1,r2,⟨Nat.le_refl _,⟨⟨_,t1,z1,(g _ (lt _ (by decide))).trans rfl,?_⟩,⟨_,t2,z2,(g _ (lt _ (by decide))).trans rfl,?_⟩,⟨_,t3,z3,(g _ (lt _ (by decide))).trans rfl,?_⟩⟩,⟨_,t5,z5,(g _ (lt _ (by decide))).trans rfl,rfl⟩,⟨_,t4,z4,(g _ (lt _ (by decide))).trans rfl,rfl⟩⟩⟩
 ·kernel_rfl
 ·kernel_rfl
 ·kernel_rfl
noncomputable def zl8(os:Os):World:=
 let N:=(World.settled PP os).heap.size
 let w0:=World.holding PP os ⟨#[.cells (Go.Lib.whiteT.map fun (z:Nat)=>Value.int .u16 (z:Int)).toArray Ch,.cells #[.slice (some ⟨N,0,none⟩) 7 7,.slice none 0 0,.int .i64 2] Ci,
  .cells #[.string ⟨#[105,110,118,97,108,105,100,32,115,121,110,116,97,120]⟩] BP,.cells #[.string ⟨#[118,97,108,117,101,32,111,117,116,32,111,102,32,114,97,110,103,101]⟩] BP],#[],[]⟩
 let put (h:Array Obj) (g:Nat) (cs:Array Value):Array Obj:=h.modify g fun
  |.cells _ t frozen=>.cells cs t frozen
  |o=>o
 let h1:=put w0.heap AD (zjm.map fun z=>Value.int .u8 z).toArray
 let h2:=put h1 AE (zo4.map fun z=>Value.int .u64 z).toArray
 let h3:=put h2 AR (bru64.map fun z=>Value.int .u8 z).toArray
 let h4:=put h3 BZ (Go.Lib.deBruijn32tab.map fun (z:Nat)=>Value.int .u8 (z:Int)).toArray
 let h5:=put h4 BW #[.pointer (some ⟨N+1,0,none⟩)]
 let h6:=put h5 Aw #[.iface AB (.pointer (some ⟨N+2,0,none⟩))]
 let h7:=put h6 Ax #[.iface AB (.pointer (some ⟨N+3,0,none⟩))]
 let h8:=put h7 BX (Go.Lib.firstTab.map fun z=>Value.int .u8 z).toArray
 let h9:=put h8 BY (((List.range 16).flatMap fun i=>[Value.int .u8 (Go.Lib.accLo i),Value.int .u8 (Go.Lib.accHi i)]).toArray)
 { w0 with heap:=h9 }
set_option maxRecDepth 1000000
noncomputable abbrev nS:Nat:=(World.settled PP default).heap.size
end Go.AM
namespace Go.AM.N14
open Go Go.AM
abbrev W64:=BitVec 64
theorem bit_eq{a b:W64}(h:∀j,a.getLsbD j=b.getLsbD j):a=b:=BitVec.eq_of_getLsbD_eq fun i _=>h i
theorem bit_hi(a:W64){j:Nat}(h:64≤j):a.getLsbD j=false:=BitVec.getLsbD_of_ge a j h
theorem zm9{x y i:Nat}(hx:x.testBit i=false)(hy:y.testBit i=true)(h:∀j,i<j→x.testBit j=y.testBit j):x<y:=by
 have e:x/2^(i+1)=y/2^(i+1):=Nat.eq_of_testBit_eq fun j=>by rw[Nat.testBit_div_two_pow,Nat.testBit_div_two_pow];exact h _ (by omega)
 have p:∀z:Nat,z/2^(i+1)=z/2^i/2:=fun z=>by rw[Nat.pow_succ,Nat.div_div_eq_div_mul]
 rw[p,p]at e;rw[Nat.testBit_eq_decide_div_mod_eq]at hx hy;have hx:¬x/2^i%2=1:=of_decide_eq_false hx;have hy:y/2^i%2=1:=of_decide_eq_true hy;have:x/2^i<y/2^i:=by omega
 exact Nat.lt_of_not_le fun hle=>by have:=Nat.div_le_div_right (c:=2^i) hle;omega
theorem zpd{a b:W64}{i:Nat}(h1:a.getLsbD i=false)(h2:b.getLsbD i=true)(h:∀j,i<j→a.getLsbD j=b.getLsbD j):a.toNat<b.toNat:=
 zm9 (i:=i) (by rw[BitVec.testBit_toNat];exact h1) (by rw[BitVec.testBit_toNat];exact h2) fun j hj=>by rw[BitVec.testBit_toNat,BitVec.testBit_toNat];exact h j hj
theorem zpr{a b:Nat}(h:a≠b):∃i,a.testBit i≠b.testBit i∧∀j,i<j→a.testBit j=b.testBit j:=by
 have hx:a ^^^ b≠0:=fun e=>h (Nat.eq_of_testBit_eq fun j=>by have q:=congrArg (fun z=>Nat.testBit z j) e;simpa using q);refine⟨(a ^^^ b).log2,?_,fun j hj=>?_⟩
 ·have:(a ^^^ b).testBit (a ^^^ b).log2=true:=Nat.testBit_log2 hx;rw[Nat.testBit_xor]at this;intro e;rw[e]at this;simp at this
 ·have hl:a ^^^ b<2^j:=Nat.lt_of_lt_of_le Nat.lt_log2_self (Nat.pow_le_pow_right (by decide) hj);have:(a ^^^ b).testBit j=false:=Nat.testBit_lt_two_pow hl;rw[Nat.testBit_xor]at this;simpa using this
theorem zps{a b:W64}(h:a.toNat<b.toNat):∃i,i<64∧a.getLsbD i=false∧b.getLsbD i=true∧∀j,i<j→a.getLsbD j=b.getLsbD j:=by
 obtain⟨i,h1,h2⟩:=zpr (a:=a.toNat) (b:=b.toNat) (by omega);rw[BitVec.testBit_toNat,BitVec.testBit_toNat]at h1;have h2:∀j,i<j→a.getLsbD j=b.getLsbD j:=fun j hj=>by have:=h2 j hj;rwa [BitVec.testBit_toNat,BitVec.testBit_toNat]at this
 have hi:i<64:=by
  rcases Nat.lt_or_ge i 64 with q|q
  ·exact q
  ·rw[bit_hi a q,bit_hi b q]at h1;exact absurd rfl h1
 cases ha:a.getLsbD i with
 |false=>
  refine⟨i,hi,ha,?_,h2⟩;cases hb:b.getLsbD i with
  |true=>rfl
  |false=>rw[ha,hb]at h1;exact absurd rfl h1
 |true=>
  cases hb:b.getLsbD i with
  |true=>rw[ha,hb]at h1;exact absurd rfl h1
  |false=>have:=zpd hb ha fun j hj=>(h2 j hj).symm;omega
def Fit(o z x:W64):Prop:=∀j,(o.getLsbD j=true→x.getLsbD j=true)∧(z.getLsbD j=true→x.getLsbD j=false)
theorem part{o z x t:W64}(hf:Fit o z t)(hl:x.toNat<t.toNat):∃i,i<64∧x.getLsbD i=false∧t.getLsbD i=true∧z.getLsbD i=false∧(∀j,i<j→t.getLsbD j=x.getLsbD j) ∧
  (∀j,i<j→(o.getLsbD j=true→x.getLsbD j=true)∧(z.getLsbD j=true→x.getLsbD j=false)):=by
 obtain⟨i,h1,h2,h3,h4⟩:=zps hl;refine⟨i,h1,h2,h3,?_,fun j hj=>(h4 j hj).symm,fun j hj=>?_⟩
 ·cases hz:z.getLsbD i with
  |false=>rfl
  |true=>rw[(hf i).2 hz]at h3;cases h3
 ·rw[h4 j hj];exact hf j
def msk(n:Nat):W64:=BitVec.ofNat 64 (2^n-1)
theorem zgS(n j:Nat):(msk n).getLsbD j=(decide (j<64)&&decide (j<n)):=by unfold msk;rw[BitVec.getLsbD_ofNat,Nat.testBit_two_pow_sub_one]
theorem msk_all:msk 64=BitVec.allOnes 64:=rfl
theorem zkN(n:Nat)(hn:n≤64):(msk n).toNat=2^n-1:=by unfold msk;have:2^n≤2^64:=Nat.pow_le_pow_right (by decide) hn;have:=Nat.two_pow_pos n;rw[BitVec.toNat_ofNat,Nat.mod_eq_of_lt (by omega)]
theorem zbu{y:W64}{n:Nat}(hn:n≤64):y.toNat≤(msk n).toNat↔∀j,n≤j→y.getLsbD j=false:=by
 rw[zkN n hn];have p:=Nat.two_pow_pos n;constructor
 ·intro h j hj;rw[←BitVec.testBit_toNat];exact Nat.testBit_lt_two_pow (Nat.lt_of_lt_of_le (show y.toNat<2^n by omega) (Nat.pow_le_pow_right (by decide) hj))
 ·intro h;have:y.toNat<2^n:=Nat.lt_pow_two_of_testBit _ fun i hi=>by rw[BitVec.testBit_toNat];exact h i hi
  omega
structure Fct where
 w:Int
 one:W64
 zero:W64
 least:W64
 top:W64
section
variable {α:Type}
theorem u_all:Value.int .u64 18446744073709551615=wv (msk 64):=rfl
theorem cu64(n:Nat)(h:n<18446744073709551616)(k:Value→Option α):zaq .u64 (.int .i64 (n:Int)) k=k (.int .u64 (n:Int)):=by rw[q_conv,q_u64 (by omega) (by omega)]
end
def wd(w:Int):Nat:=(max w 1).toNat
theorem wd_le{w:Int}(h:w≤64):wd w≤64:=by unfold wd;omega
theorem wd_pos(w:Int):1≤wd w:=by unfold wd;omega
theorem msk_toNat{n:Nat}(hn:n≤64)(x:W64):(x&&&msk n).toNat=x.toNat%2^n:=by rw[BitVec.toNat_and,zkN n hn,Nat.and_two_pow_sub_one_eq_mod]
theorem zke{n:Nat}(h0:1≤n)(hn:n≤64)(x:W64):zdh (n:Int) (x.toNat:Int)=((x&&&msk n).toNat:Int):=by
 unfold zdh;rw[if_neg (by omega),msk_toNat hn];by_cases h:n=64
 ·subst h;rw[if_pos (by decide),Nat.mod_eq_of_lt x.isLt]
 ·rw[if_neg (by omega),Int.toNat_natCast];simp
theorem zbF{n:Nat}(h0:1≤n)(hn:n≤64)(x:W64)(H:Hp):RR Ae [.int .i64 (n:Int),wv x] H=some (wv (x&&&msk n),H):=by have:=c45 (n:Int) (x.toNat:Int) (by omega) (by have:=x.isLt;omega) H;rw[zke h0 hn]at this;exact this
theorem zc5{n:Nat}(h0:1≤n)(hn:n≤64)(H:Hp):RR Aq [.int .i64 (n:Int)] H=some (.bool true,H):=by refine(zlE E0 rfl _ _).trans ?_;unfold zhb;rw[zdX,bT (by omega),zft,decide_eq_true (by omega)]
def sg(n:Nat)(x:W64):Int:=(x.setWidth n).toInt
theorem sg_eq{n:Nat}(x:W64):sg n x=if 2*(x.toNat%2^n)<2^n then ((x.toNat%2^n:Nat):Int) else ((x.toNat%2^n:Nat):Int)-((2^n:Nat):Int):=by unfold sg;rw[BitVec.toInt_eq_toNat_cond,BitVec.toNat_setWidth]
theorem i_conv{α:Type}(y:W64)(k:Value→Option α):zaq .i64 (wv y) k=k (.int .i64 y.toInt):=by show k (.int .i64 (IntKind.i64.wrap (y.toNat:Int)))=_;congr 2;rw[BitVec.toInt_eq_toNat_cond];have:=y.isLt;simp only[IntKind.wrap,IntKind.signed,IntKind.bits];simp;split<;>split<;>omega
theorem i_shr{α:Type}{P:Program}(T:TypeId)(a:Int)(kd:IntKind)(m:Nat)(hm:m≤64)(k:Value→Option α):pBin P .shr T (.int .i64 a) (.int kd (m:Int)) k=k (.int .i64 (a/(2:Int)^m)):=by
 have:binV P .shr T (.int .i64 a) (.int kd (m:Int))=some (.int .i64 (a/(2:Int)^m)):=by show (if (m:Int)<0 then none else some (Value.int .i64 (a.fdiv (2^(min ((m:Int).toNat) 64)))))=_;rw[if_neg (by omega),Int.toNat_natCast,Nat.min_eq_left hm,Int.fdiv_eq_ediv_of_nonneg _ (Int.le_of_lt (Int.pow_pos (by decide)))]
 unfold pBin;rw[this]
theorem sg_shift{n:Nat}(h0:1≤n)(hn:n≤64)(x:W64):(x <<< (64-n)).toInt/(2:Int)^(64-n)=sg n x:=by
 rw[sg_eq,BitVec.toInt_eq_toNat_cond,BitVec.toNat_shiftLeft,Nat.shiftLeft_eq];have e:(2:Nat)^64=2^n*2^(64-n):=by rw[←Nat.pow_add];congr 1;omega
 have e1:x.toNat*2^(64-n)%2^64=x.toNat%2^n*2^(64-n):=by rw[e,Nat.mul_mod_mul_right]
 rw[e1];have hp:0<2^(64-n):=Nat.two_pow_pos _;have ep:((2:Int)^(64-n))=((2^(64-n):Nat):Int):=by push_cast;rfl
 rw[ep];generalize x.toNat%2^n=t;generalize hm:2^(64-n)=m at *;have e2:(2*(t*m)<2^64)↔2*t<2^n:=by rw[e,show 2*(t*m)=2*t*m by rw[Nat.mul_assoc]];exact Nat.mul_lt_mul_right hp
 have hm0:(m:Int)≠0:=by omega
 by_cases h:2*t<2^n
 ·rw[if_pos h,if_pos (e2.2 h)];push_cast;rw[Int.mul_ediv_cancel _ hm0]
 ·rw[if_neg h,if_neg (fun q=>h (e2.1 q)),e];have:((t*m:Nat):Int)-((2^n*m:Nat):Int)=(((t:Nat):Int)-((2^n:Nat):Int))*(m:Int):=by rw[Int.natCast_mul,Int.natCast_mul,Int.sub_mul]
  rw[this,Int.mul_ediv_cancel _ hm0]
theorem zhy{n:Nat}(h0:1≤n)(hn:n≤64)(x:W64)(H:Hp):RR AN [.int .i64 (n:Int),wv x] H=some (.int .i64 (sg n x),H):=by
 refine(zkB E0 rfl _ _ _).trans ?_;unfold zgf;have e:IntKind.i64.wrap (64-(n:Int))=((64-n:Nat):Int):=by rw[zaz (by omega) (by omega)];omega
 rw[zag (zc5 h0 hn H),zbQ,zad,show (!true)=false from rfl,zaH,zd5,e,cu64 _ (by omega),b_shl,i_conv,i_shr _ _ _ _ (by omega),sg_shift h0 hn]
def atM(op:Int)(n k j:Nat):Option Nat:=
 if op=25 then (if k≤j then some (j-k) else none) else if op=26 then (if j+k<n then some (j+k) else none) else if op=27 then some (min (j+k) (n-1)) else if op=28 then some ((j+n-k)%n) else some ((j+k)%n)
def bitAt(x:W64):Option Nat→Bool
 |some i=>x.getLsbD i
 |none=>false
def zhq(op:Int)(n:Nat)(x:W64)(k:Nat)(v:W64):Prop:=∀j,v.getLsbD j=(decide (j<n)&&bitAt x (atM op n k j))
theorem zhq.eq{op:Int}{n:Nat}{x:W64}{k:Nat}{v w:W64}(h1:zhq op n x k v)(h2:zhq op n x k w):v=w:=bit_eq fun j=>by rw[h1 j,h2 j]
theorem zm6{n k:Nat}(h0:1≤n)(hn:n≤64)(x:W64):BitVec.ofInt 64 (sg n x/(2:Int)^k)=((x.setWidth n).signExtend 64).sshiftRight k:=by
 have e1:((x.setWidth n).signExtend 64).toInt=sg n x:=by rw[BitVec.toInt_signExtend_of_le hn];rfl
 have e2:(((x.setWidth n).signExtend 64).sshiftRight k).toInt=sg n x/(2:Int)^k:=by rw[BitVec.toInt_sshiftRight,e1,Int.shiftRight_eq_div_pow];norm_cast
 rw[←e2,BitVec.ofInt_toInt]
theorem sar_bits{n k:Nat}(h0:1≤n)(hn:n≤64)(hk:k<n)(x:W64):zhq 27 n x k (((x.setWidth n).signExtend 64).sshiftRight k&&&msk n):=fun j=>by
 rw[BitVec.getLsbD_and,zgS,BitVec.getLsbD_sshiftRight];have hat:atM 27 n k j=some (min (j+k) (n-1)):=by unfold atM;rw[if_neg (by decide),if_neg (by decide),if_pos rfl]
 rw[hat];show _=(decide (j<n)&&x.getLsbD (min (j+k) (n-1)))
 by_cases hj:j<n
 ·have h64:j<64:=by omega
  rw[decide_eq_true h64,decide_eq_true hj,decide_eq_false (show ¬64≤j by omega)];have hs:∀i,i<64→((x.setWidth n).signExtend 64).getLsbD i=x.getLsbD (min i (n-1)):=fun i hi=>by
   rw[BitVec.getLsbD_signExtend,BitVec.msb_eq_getLsbD_last,BitVec.getLsbD_setWidth,BitVec.getLsbD_setWidth];by_cases q:i<n
   ·rw[if_pos q,Nat.min_eq_left (by omega)];simp[hi,q]
   ·rw[if_neg q,Nat.min_eq_right (by omega)];simp[hi,show n-1<n by omega]
  have hm:((x.setWidth n).signExtend 64).msb=x.getLsbD (n-1):=by rw[BitVec.msb_eq_getLsbD_last,hs (64-1) (by decide),Nat.min_eq_right (by omega)]
  by_cases hjk:k+j<64
  ·rw[if_pos hjk,hs _ hjk,Nat.add_comm k j];simp
  ·rw[if_neg hjk,hm,Nat.min_eq_right (by omega)];simp
 ·rw[decide_eq_false hj];simp
theorem shl_bits{n k:Nat}(hn:n≤64)(hk:k<n){x:W64}:zhq 25 n x k (x <<< k&&&msk n):=fun j=>by
 rw[BitVec.getLsbD_and,zgS,BitVec.getLsbD_shiftLeft];unfold atM bitAt;rw[if_pos rfl];by_cases hj:j<n
 ·have h64:j<64:=by omega
  by_cases hk2:k≤j
  ·rw[if_pos hk2];simp[hj,h64,show ¬j<k by omega]
  ·rw[if_neg hk2];simp[show j<k by omega]
 ·rw[decide_eq_false hj];simp
theorem shr_bits{n k:Nat}(hn:n≤64)(hk:k<n){x:W64}(hx:x.toNat≤(msk n).toNat):zhq 26 n x k (x >>> k):=fun j=>by
 have hz:=(zbu hn).1 hx;rw[BitVec.getLsbD_ushiftRight];unfold atM bitAt;rw[if_neg (by decide),if_pos rfl];by_cases hj:j+k<n
 ·rw[if_pos hj,Nat.add_comm k j];simp[show j<n by omega]
 ·rw[if_neg hj,hz _ (by omega)];simp
theorem znR{n k:Nat}(hn:n≤64)(hk:k<n){x:W64}(hx:x.toNat≤(msk n).toNat)(j:Nat):((x <<< k|||x >>> (n-k))&&&msk n).getLsbD j=(decide (j<n)&&x.getLsbD ((j+n-k)%n)):=by
 have hz:=(zbu hn).1 hx;rw[BitVec.getLsbD_and,zgS,BitVec.getLsbD_or,BitVec.getLsbD_shiftLeft,BitVec.getLsbD_ushiftRight];by_cases hj:j<n
 ·have h64:j<64:=by omega
  by_cases hk2:k≤j
  ·have:(j+n-k)%n=j-k:=by rw[show j+n-k=(j-k)+n by omega,Nat.add_mod_right,Nat.mod_eq_of_lt (by omega)]
   rw[this,hz (n-k+j) (by omega)];simp[hj,h64,show ¬j<k by omega]
  ·have:(j+n-k)%n=n-k+j:=by rw[Nat.mod_eq_of_lt (by omega)];omega
   rw[this];simp[hj,h64,show j<k by omega]
 ·rw[decide_eq_false hj];simp
theorem p_moved{op:Int}(hop:25≤op∧op≤29){n k:Nat}(h0:1≤n)(hn:n≤64)(hk:k<n){x:W64}(hx:x.toNat≤(msk n).toNat)(H:Hp):∃v:W64,zhq op n x k v∧RR A6 [.int .i64 op,.int .i64 (n:Int),wv x,.int .i64 (k:Int)] H=some (wv v,H):=by
 have hr:=zlC E0 rfl (.int .i64 op) (.int .i64 (n:Int)) (wv x) (.int .i64 (k:Int)) H;unfold zg9 at hr;rw[zaZ,zad]at hr;by_cases h25:op=25
 ·subst h25;rw[decide_eq_true rfl,za0,cu64 _ (by omega),b_shl,zag (zbF h0 hn _ H)]at hr;exact⟨_,shl_bits hn hk,hr⟩
 rw[decide_eq_false h25,zaH,zaZ,zad]at hr;by_cases h26:op=26
 ·subst h26;rw[decide_eq_true rfl,za0,cu64 _ (by omega),b_shr]at hr;exact⟨_,shr_bits hn hk hx,hr⟩
 rw[decide_eq_false h26,zaH,zaZ,zad]at hr;by_cases h27:op=27
 ·subst h27;have hc:∀(a:Int) (f:Value→Option (Value×Hp)),zaq .u64 (.int .i64 a) f=f (wv (BitVec.ofInt 64 a)):=fun a f=>by rw[zhX,zdV]
  rw[decide_eq_true rfl,za0,zag (zhy h0 hn x H),cu64 _ (by omega),i_shr _ _ _ _ (by omega),hc,zm6 h0 hn,zag (zbF h0 hn _ H)]at hr;exact⟨_,sar_bits h0 hn hk x,hr⟩
 rw[decide_eq_false h27,zaH,zaZ,zad]at hr;by_cases h29:op=29
 ·subst h29;have e1:IntKind.i64.wrap ((n:Int)-(k:Int))=((n-k:Nat):Int):=by rw[zaz (by omega) (by omega)];omega
  have e2:(((n-k:Nat):Int)).tmod (n:Int)=(((n-k)%n:Nat):Int):=rfl;have hlt:(n-k)%n<n:=Nat.mod_lt _ (by omega);have e3:IntKind.i64.wrap ((n:Int)-(((n-k)%n:Nat):Int))=((n-(n-k)%n:Nat):Int):=by rw[zaz (by omega) (by omega)];omega
  rw[decide_eq_true rfl,za0,zd5,e1,zoU _ _ _ _ (by omega),e2,cu64 _ (by omega),b_shl,zd5,e3,cu64 _ (by omega),b_shr,b_or,zag (zbF h0 hn _ H)]at hr;refine⟨_,fun j=>?_,hr⟩;rw[znR hn hlt hx];unfold atM bitAt;rw[if_neg (by decide),if_neg (by decide),if_neg (by decide),if_neg (by decide)];dsimp only;by_cases hj:j<n
  ·have:(j+n-(n-k)%n)%n=(j+k)%n:=by
    by_cases hk0:k=0
    ·subst hk0;rw[Nat.sub_zero,Nat.mod_self,Nat.sub_zero,Nat.add_mod_right,Nat.add_zero]
    ·rw[Nat.mod_eq_of_lt (show n-k<n by omega),show j+n-(n-k)=j+k by omega]
   rw[this]
  ·rw[decide_eq_false hj];rfl
 have h28:op=28:=by omega
 subst h28;have e1:IntKind.i64.wrap ((n:Int)-(k:Int))=((n-k:Nat):Int):=by rw[zaz (by omega) (by omega)];omega
 rw[decide_eq_false h29,zaH,cu64 _ (by omega),b_shl,zd5,e1,cu64 _ (by omega),b_shr,b_or,zag (zbF h0 hn _ H)]at hr;refine⟨_,fun j=>?_,hr⟩;rw[znR hn hk hx];unfold atM bitAt;rw[if_neg (by decide),if_neg (by decide),if_neg (by decide),if_pos rfl]
end Go.AM.N14
namespace Go.AM.N14
open Go Go.AM
open Classical in
noncomputable def movW(op:Int)(n:Nat)(x:W64)(k:Nat):W64:=if h:∃v,zhq op n x k v then Classical.choose h else 0#64
theorem movW_eq{op:Int}{n:Nat}{x:W64}{k:Nat}{v:W64}(h:zhq op n x k v):movW op n x k=v:=by
 have hx:∃v,zhq op n x k v:=⟨v,h⟩
 unfold movW;rw[dif_pos hx];exact zhq.eq (Classical.choose_spec hx) h
theorem p_mov{op:Int}(hop:25≤op∧op≤29){n k:Nat}(h0:1≤n)(hn:n≤64)(hk:k<n){x:W64}(hx:x.toNat≤(msk n).toNat)(H:Hp):RR A6 [.int .i64 op,.int .i64 (n:Int),wv x,.int .i64 (k:Int)] H=some (wv (movW op n x k),H):=by obtain⟨v,h1,h2⟩:=p_moved hop h0 hn hk hx H;rw[movW_eq h1];exact h2
theorem zdM{n:Nat}(hn:n≤64)(x:W64):(x&&&msk n).toNat≤(msk n).toNat:=(zbu hn).2 fun j hj=>by rw[BitVec.getLsbD_and,zgS];simp[show ¬j<n by omega]
theorem zjK{n:Nat}(hn:n≤64){x:W64}(h:x.toNat≤(msk n).toNat):x&&&msk n=x:=bit_eq fun j=>by
 rw[BitVec.getLsbD_and,zgS];by_cases hj:j<n
 ·simp[hj,show j<64 by omega]
 ·rw[(zbu hn).1 h j (by omega)];rfl
theorem b_quo{α:Type}{P:Program}(T:TypeId){a b:W64}(hb:b≠0#64)(k:Value→Option α):pBin P .quo T (wv a) (wv b) k=k (wv (a/b)):=by
 have hb2:(b.toNat:Int)≠0:=fun q=>hb (BitVec.eq_of_toNat_eq (by simpa using q));have:binV P .quo T (wv a) (wv b)=some (wv (a/b)):=by
  show (if (b.toNat:Int)=0 then none else some (Value.int .u64 (IntKind.u64.wrap ((a.toNat:Int).tdiv (b.toNat:Int)))))=_;rw[if_neg hb2];have e:((a.toNat:Int).tdiv (b.toNat:Int))=(((a/b).toNat:Nat):Int):=by rw[BitVec.toNat_udiv];rfl
  rw[e,ziT];rfl
 unfold pBin;rw[this]
theorem b_rem{α:Type}{P:Program}(T:TypeId){a b:W64}(hb:b≠0#64)(k:Value→Option α):pBin P .rem T (wv a) (wv b) k=k (wv (a%b)):=by
 have hb2:(b.toNat:Int)≠0:=fun q=>hb (BitVec.eq_of_toNat_eq (by simpa using q));have e:((a.toNat:Int).tmod (b.toNat:Int))=(((a%b).toNat:Nat):Int):=by rw[BitVec.toNat_umod];rfl
 show pBin P .rem T (.int .u64 (a.toNat:Int)) (.int .u64 (b.toNat:Int)) k=_;rw[zoU _ _ _ _ hb2,e];rfl
noncomputable def binW(op:Int)(n:Nat)(x y:W64):W64:=
 let X:=x&&&msk n
 let Y:=y&&&msk n
 if op=17 then X&&&Y else if op=18 then X|||Y else if op=19 then X ^^^ Y else if op=20 then (X+Y)&&&msk n else if op=21 then (X-Y)&&&msk n else if op=22 then (X*Y)&&&msk n
 else if op=23 then (if Y=0#64 then msk n else X/Y) else if op=24 then (if Y=0#64 then X else X%Y) else movW op n X (Y.toNat%n)
theorem zkI{op:Int}(H:Hp):RR A7 [.int .i64 op] H=some (.bool (decide (25≤op∧op≤29)),H):=by
 refine(zkA E0 rfl _ _).trans ?_;unfold zge;rw[zdX,zad];by_cases h:op≥25
 ·rw[decide_eq_true h,za0,zft];congr 3;simp[show (25:Int)≤op from h]
 ·rw[decide_eq_false h,zaH];congr 3;simp[show ¬(25:Int)≤op from h]
theorem mod_bits{n:Nat}(hn:n≤64)(h0:1≤n){α:Type}(Y:W64)(k:Value→Option α):(pBin PP .rem Ab (wv Y) (.int .u64 (n:Int)) fun v=>zaq .i64 v k)=k (.int .i64 ((Y.toNat%n:Nat):Int)):=by unfold wv;rw[zoU _ _ _ _ (by omega)];have e:((Y.toNat:Int).tmod (n:Int))=((Y.toNat%n:Nat):Int):=rfl;have hlt:Y.toNat%n<n:=Nat.mod_lt _ (by omega);rw[e,zhX,zaz (by omega) (by omega)]
theorem p_bin{op:Int}(hop:17≤op∧op≤29){n:Nat}(h0:1≤n)(hn:n≤64)(hs:25≤op→isPow (n:Int)=true)(x y:W64)(H:Hp):RR Bs [.int .i64 op,.int .i64 (n:Int),wv x,wv y] H=some (.tuple #[wv (binW op n x y),.int .i64 0],H):=by
 have hr:=zo2 E0 rfl (.int .i64 op) (.int .i64 (n:Int)) (wv x) (wv y) H;unfold zjR at hr;have hX:=zdM hn x;have hY:=zdM hn y;rw[lF (by omega),zb8,bF (by omega),zan,za3,zag (zc5 h0 hn H),zbQ,zad,show (!true)=false from rfl,zaH,zag (zkI H),zad]at hr;unfold binW;dsimp only;by_cases h25:25≤op
 ·have hsh:decide (25≤op∧op≤29)=true:=decide_eq_true ⟨h25,hop.2⟩;have hpop:decide (pops.getD n 0=1)=true:=(zn1 n (by omega)).trans (hs h25);have hone:pops.getD n 0=1:=of_decide_eq_true hpop;have e53:=c53 (n:Int) (by omega) (by omega) H;rw[Int.toNat_natCast,hone]at e53;have hlt:(y&&&msk n).toNat%n<n:=Nat.mod_lt _ (by omega);rw[hsh,za0,cu64 _ (by omega),zag e53,zba,bF (by decide),zan,za3,zag (zbF h0 hn x H),zag (zbF h0 hn y H),zag (zkI H),hsh,zad,za0,cu64 _ (by omega),mod_bits hn h0,zag (p_mov ⟨h25,hop.2⟩ h0 hn hlt hX H)]at hr;rw[if_neg (by omega),if_neg (by omega),if_neg (by omega),if_neg (by omega),if_neg (by omega),if_neg (by omega),if_neg (by omega),if_neg (by omega)];exact hr
 have hsh:decide (25≤op∧op≤29)=false:=decide_eq_false (by omega);rw[hsh,zaH,zan,za3,zag (zbF h0 hn x H),zag (zbF h0 hn y H),zag (zkI H),hsh,zad,zaH,zaZ,zad]at hr;generalize x&&&msk n=X at *;generalize y&&&msk n=Y at *;by_cases h17:op=17
 ·rw[decide_eq_true h17,za0,b_and,zag (zbF h0 hn _ H)]at hr;have e:(X&&&Y)&&&msk n=X&&&Y:=zjK hn ((zbu hn).2 fun j hj=>by simp only[BitVec.getLsbD_and,BitVec.getLsbD_or,BitVec.getLsbD_xor,(zbu hn).1 hX j hj,(zbu hn).1 hY j hj];rfl);rw[e]at hr;rw[if_pos h17];exact hr
 rw[decide_eq_false h17,zaH,zaZ,zad]at hr;by_cases h18:op=18
 ·rw[decide_eq_true h18,za0,b_or,zag (zbF h0 hn _ H)]at hr;have e:(X|||Y)&&&msk n=X|||Y:=zjK hn ((zbu hn).2 fun j hj=>by simp only[BitVec.getLsbD_and,BitVec.getLsbD_or,BitVec.getLsbD_xor,(zbu hn).1 hX j hj,(zbu hn).1 hY j hj];rfl);rw[e]at hr;rw[if_neg h17,if_pos h18];exact hr
 rw[decide_eq_false h18,zaH,zaZ,zad]at hr;by_cases h19:op=19
 ·rw[decide_eq_true h19,za0,b_xor,zag (zbF h0 hn _ H)]at hr;have e:(X ^^^ Y)&&&msk n=X ^^^ Y:=zjK hn ((zbu hn).2 fun j hj=>by simp only[BitVec.getLsbD_and,BitVec.getLsbD_or,BitVec.getLsbD_xor,(zbu hn).1 hX j hj,(zbu hn).1 hY j hj];rfl);rw[e]at hr;rw[if_neg h17,if_neg h18,if_pos h19];exact hr
 rw[decide_eq_false h19,zaH,zaZ,zad]at hr;by_cases h20:op=20
 ·rw[decide_eq_true h20,za0,b_add,zag (zbF h0 hn _ H)]at hr;rw[if_neg h17,if_neg h18,if_neg h19,if_pos h20];exact hr
 rw[decide_eq_false h20,zaH,zaZ,zad]at hr;by_cases h21:op=21
 ·rw[decide_eq_true h21,za0,b_sub,zag (zbF h0 hn _ H)]at hr;rw[if_neg h17,if_neg h18,if_neg h19,if_neg h20,if_pos h21];exact hr
 rw[decide_eq_false h21,zaH,zaZ,zad]at hr;by_cases h22:op=22
 ·rw[decide_eq_true h22,za0,b_mul,zag (zbF h0 hn _ H)]at hr;rw[if_neg h17,if_neg h18,if_neg h19,if_neg h20,if_neg h21,if_pos h22];exact hr
 rw[decide_eq_false h22,zaH,zaZ,zad]at hr;have hz:∀(k:Value→Option (Value×Hp)),pBin PP .neq Ab (wv Y) (.int .u64 0) k=k (.bool (!decide (Y=0#64))):=fun k=>b_neq _ _ 0#64 k;by_cases h23:op=23
 ·rw[decide_eq_true h23,za0,hz,zad]at hr;rw[if_neg h17,if_neg h18,if_neg h19,if_neg h20,if_neg h21,if_neg h22,if_pos h23];by_cases hy:Y=0#64
  ·rw[decide_eq_true hy,show (!true)=false from rfl,zaH,u_all,zag (zbF h0 hn _ H),show msk 64&&&msk n=msk n by rw[msk_all,BitVec.allOnes_and]]at hr;rw[if_pos hy];exact hr
  ·rw[decide_eq_false hy,show (!false)=true from rfl,za0,b_quo _ hy,zag (zbF h0 hn _ H),zjK hn (by rw[BitVec.toNat_udiv];exact Nat.le_trans (Nat.div_le_self _ _) hX)]at hr;rw[if_neg hy];exact hr
 rw[decide_eq_false h23,zaH,zaZ,zad]at hr;have h24:op=24:=by omega
 rw[decide_eq_true h24,za0,hz,zad]at hr;rw[if_neg h17,if_neg h18,if_neg h19,if_neg h20,if_neg h21,if_neg h22,if_neg h23,if_pos h24];by_cases hy:Y=0#64
 ·rw[decide_eq_true hy,show (!true)=false from rfl,zaH,zag (zbF h0 hn _ H),zjK hn hX]at hr;rw[if_pos hy];exact hr
 ·rw[decide_eq_false hy,show (!false)=true from rfl,za0,b_rem _ hy,zag (zbF h0 hn _ H),zjK hn (by rw[BitVec.toNat_umod];exact Nat.le_trans (Nat.mod_le _ _) hX)]at hr;rw[if_neg hy];exact hr
end Go.AM.N14
namespace Go.AM.N14
open Go Go.AM
def unW(op:Int)(n:Nat)(x:W64):W64:=if op=15 then ~~~x&&&msk n else (0#64-x)&&&msk n
def cmpW(op:Int)(n:Nat)(x y:W64):Bool:=
 let X:=x&&&msk n
 let Y:=y&&&msk n
 if op=9 then decide (X=Y) else if op=10 then decide (X.toNat<Y.toNat) else if op=11 then decide (X.toNat≤Y.toNat) else if op=12 then decide (sg n X<sg n Y) else decide (sg n X≤sg n Y)
def catW(n:Nat)(x:W64)(m:Nat)(y:W64):W64:=(x&&&msk n) <<< m|||(y&&&msk m)
def sliceW(n:Nat)(x:W64)(i m:Nat):W64:=(x&&&msk n) >>> i&&&msk m
def extW(op:Int)(n:Nat)(x:W64)(m:Nat):W64:=if op=32 then x&&&msk n else BitVec.ofInt 64 (sg n x)&&&msk m
theorem b_neg{α:Type}(x:W64)(k:Value→Option α):pUn .neg (wv x) k=k (wv (0#64-x)):=by show k (.int .u64 (IntKind.u64.wrap (0-(x.toNat:Int))))=_;rw[zdV];congr 2;rw[BitVec.zero_sub];apply BitVec.eq_of_toNat_eq;rw[BitVec.toNat_ofInt,BitVec.toNat_neg];have:=x.isLt;omega
theorem ci_u64{α:Type}(a:Int)(f:Value→Option α):zaq .u64 (.int .i64 a) f=f (wv (BitVec.ofInt 64 a)):=by rw[zhX,zdV]
theorem p_un{op:Int}(hop:op=15∨op=16){n:Nat}(h0:1≤n)(hn:n≤64)(x:W64)(H:Hp):RR BA [.int .i64 op,.int .i64 (n:Int),wv x] H=some (.tuple #[wv (unW op n x),.int .i64 0],H):=by
 have hr:=r_bits_Un E0 rfl (.int .i64 op) (.int .i64 (n:Int)) (wv x) H;unfold zl5 at hr;unfold unW;rcases hop with rfl|rfl
 ·rw[zba,bF (by decide),zag (zc5 h0 hn H),zbQ,zad,show (!true)=false from rfl,zaH,eT rfl,b_not,zag (zbF h0 hn _ H)]at hr;rw[if_pos rfl];exact hr
 ·have hneg:∀(f:Value→Option (Value×Hp)),pUn .neg (wv x) f=f (wv (0#64-x)):=fun f=>b_neg x f;rw[zba,bT (by decide),zba,bF (by decide),zag (zc5 h0 hn H),zbQ,zad,show (!true)=false from rfl,zaH,eF (by decide),hneg,zag (zbF h0 hn _ H)]at hr;rw[if_neg (by decide)];exact hr
theorem p_cmp{op:Int}(hop:9≤op∧op≤13){n:Nat}(h0:1≤n)(hn:n≤64)(x y:W64)(H:Hp):RR Bv [.int .i64 op,.int .i64 (n:Int),wv x,wv y] H=some (.tuple #[.bool (cmpW op n x y),.int .i64 0],H):=by
 have hr:=zo0 E0 rfl (.int .i64 op) (.int .i64 (n:Int)) (wv x) (wv y) H;unfold zjP at hr;rw[lF (by omega),zb8,bF (by omega),zan,za3,zag (zc5 h0 hn H),zbQ,zad,show (!true)=false from rfl,zaH,zag (zbF h0 hn x H),zag (zbF h0 hn y H),zag (zhy h0 hn _ H),zag (zhy h0 hn _ H),zaZ,zad]at hr;unfold cmpW;dsimp only;by_cases h9:op=9
 ·rw[decide_eq_true h9,za0,b_eql]at hr;rw[if_pos h9];exact hr
 rw[decide_eq_false h9,zaH,zaZ,zad]at hr;by_cases h10:op=10
 ·rw[decide_eq_true h10,za0,b_lss]at hr;rw[if_neg h9,if_pos h10];exact hr
 rw[decide_eq_false h10,zaH,zaZ,zad]at hr;by_cases h11:op=11
 ·rw[decide_eq_true h11,za0,b_leq]at hr;rw[if_neg h9,if_neg h10,if_pos h11];exact hr
 rw[decide_eq_false h11,zaH,zaZ,zad]at hr;by_cases h12:op=12
 ·rw[decide_eq_true h12,za0,zbh]at hr;rw[if_neg h9,if_neg h10,if_neg h11,if_pos h12];exact hr
 rw[decide_eq_false h12,zaH,zft]at hr;rw[if_neg h9,if_neg h10,if_neg h11,if_neg h12];exact hr
theorem p_cat{n m:Nat}(h0:1≤n)(h1:1≤m)(hs:n+m≤64)(x y:W64)(H:Hp):RR Bu [.int .i64 (n:Int),wv x,.int .i64 (m:Int),wv y] H=some (.tuple #[wv (catW n x m y),.int .i64 0],H):=by
 have hn:n≤64:=by omega
 have hm:m≤64:=by omega
 have hr:=zo1 E0 rfl (.int .i64 (n:Int)) (wv x) (.int .i64 (m:Int)) (wv y) H;unfold zjQ at hr;rw[zag (zc5 h0 hn H),zbQ,zad,show (!true)=false from rfl,zaH,zag (zc5 h1 hm H),zbQ,zad,show (!true)=false from rfl,zaH,zaU,zaz (by omega) (by omega),zb8,bF (by omega),zag (zbF h0 hn x H),cu64 _ (by omega),b_shl,zag (zbF h1 hm y H),b_or]at hr;exact hr
theorem p_slice{n i m:Nat}(h0:1≤n)(hn:n≤64)(h1:1≤m)(hs:i+m≤n)(x:W64)(H:Hp):RR Bz [.int .i64 (n:Int),wv x,.int .i64 (i:Int),.int .i64 (m:Int)] H=some (.tuple #[wv (sliceW n x i m),.int .i64 0],H):=by
 have hm:m≤64:=by omega
 have hr:=zlD E0 rfl (.int .i64 (n:Int)) (wv x) (.int .i64 (i:Int)) (.int .i64 (m:Int)) H;unfold zha at hr;rw[zag (zc5 h0 hn H),zbQ,zad,show (!true)=false from rfl,zaH,lF (by omega),lF (by omega),zb8,bF (by omega),zd5,zaz (by omega) (by omega),zb8,bF (by omega),zan,za3,zag (zbF h0 hn x H),cu64 _ (by omega),b_shr,zag (zbF h1 hm _ H)]at hr;exact hr
theorem p_ext{op:Int}(hop:op=32∨op=33){n m:Nat}(h0:1≤n)(hs:n≤m)(hm:m≤64)(x:W64)(H:Hp):RR Bw [.int .i64 op,.int .i64 (n:Int),wv x,.int .i64 (m:Int)] H=some (.tuple #[wv (extW op n x m),.int .i64 0],H):=by
 have hn:n≤64:=by omega
 have h1:1≤m:=by omega
 have hr:=zoZ E0 rfl (.int .i64 op) (.int .i64 (n:Int)) (wv x) (.int .i64 (m:Int)) H;unfold zjO at hr;unfold extW;rcases hop with rfl|rfl
 ·rw[zba,bF (by decide),zan,za3,zag (zc5 h0 hn H),zbQ,zad,show (!true)=false from rfl,zaH,zag (zc5 h1 hm H),zbQ,zad,show (!true)=false from rfl,zaH,lF (by omega),zan,za3,eT rfl,zag (zbF h0 hn _ H)]at hr;rw[if_pos rfl];exact hr
 ·rw[zba,bT (by decide),zba,bF (by decide),zan,za3,zag (zc5 h0 hn H),zbQ,zad,show (!true)=false from rfl,zaH,zag (zc5 h1 hm H),zbQ,zad,show (!true)=false from rfl,zaH,lF (by omega),zan,za3,eF (by decide),zag (zhy h0 hn _ H),ci_u64,zag (zbF h1 hm _ H)]at hr;rw[if_neg (by decide)];exact hr
def b2w(c:Bool):W64:=if c=true then 1#64 else 0#64
noncomputable def valW(n:Nd)(wa wb:Nat)(a b c:W64):W64:=
 if n.op=1 then 1#64 else if n.op=2 then 0#64 else if n.op=3 then BitVec.ofInt 64 n.num else if n.op=5 then 1#64-a else if n.op=6 then a&&&b else if n.op=7 then a|||b else if n.op=8 then a ^^^ b else if n.op=9 then b2w (decide (a=b))
 else if n.op≤13 then b2w (cmpW n.op wa a b) else if n.op=14 then (if a=1#64 then b else c) else if n.op≤16 then unW n.op wa a else if n.op≤29 then binW n.op wa a b else if n.op=30 then catW wa a wb b
 else if n.op=31 then sliceW wa a n.num.toNat n.w.toNat else extW n.op wa a n.w.toNat
structure Vok(n:Nd)(wa wb:Nat)(a b:W64):Prop where
 op:1≤n.op∧n.op≤33∧n.op≠4
 num:0≤n.num∧n.num<18446744073709551616
 t:6≤n.op→n.op≤8→a.toNat≤1∧b.toNat≤1
 cmp:10≤n.op→n.op≤13→1≤wa∧wa≤64
 un:15≤n.op→n.op≤29→n.w=wa∧1≤wa∧wa≤64
 sh:25≤n.op→n.op≤29→isPow (wa:Int)=true
 cat:n.op=30→1≤wa∧1≤wb∧wa+wb≤64
 sl:n.op=31→1≤wa∧wa≤64∧1≤n.w∧n.num+n.w≤wa
 ext:32≤n.op→1≤wa∧(wa:Int)≤n.w∧n.w≤64
theorem p_one(c:Bool)(H:Hp):RR Bd [.bool c] H=some (wv (b2w c),H):=by refine(zoX E0 rfl _ _).trans ?_;unfold zjM;rw[zad];cases c<;>rfl
theorem num_wv{x:Int}(h:0≤x∧x<18446744073709551616):Value.int .u64 x=wv (BitVec.ofInt 64 x):=by rw[←zdV,zhs h.1 (by omega)]
theorem tr01{a:W64}(h:a.toNat≤1):a=0#64∨a=1#64:=by
 rcases (show a.toNat=0∨a.toNat=1 by omega) with q|q
 ·exact .inl (BitVec.eq_of_toNat_eq q)
 ·exact .inr (BitVec.eq_of_toNat_eq q)
theorem one_sub{α:Type}(a:W64)(k:Value→Option α):pBin PP .sub Ab (.int .u64 1) (wv a) k=k (wv (1#64-a)):=b_sub _ 1#64 a k
theorem p_node{n:Nd}{wa wb:Nat}{a b:W64}(h:Vok n wa wb a b)(c:W64)(H:Hp):RR BE [n.val,wv a,wv b,wv c,.int .i64 (wa:Int),.int .i64 (wb:Int)] H=some (wv (valW n wa wb a b c),H):=by
 have hr:=zmO E0 rfl n.val (wv a) (wv b) (wv c) (.int .i64 (wa:Int)) (.int .i64 (wb:Int)) H;unfold ziw at hr;have hop:=h.op;have hnum:=h.num;unfold valW;rw[n0,zaZ,zad]at hr;by_cases h1:n.op=1
 ·rw[decide_eq_true h1,za0]at hr;rw[if_pos h1];exact hr
 rw[decide_eq_false h1,zaH,zaZ,zad]at hr;by_cases h2:n.op=2
 ·rw[decide_eq_true h2,za0]at hr;rw[if_neg h1,if_pos h2];exact hr
 rw[decide_eq_false h2,zaH,zaZ,zad]at hr;by_cases h3:n.op=3
 ·rw[decide_eq_true h3,za0,n5,num_wv hnum]at hr;rw[if_neg h1,if_neg h2,if_pos h3];exact hr
 rw[decide_eq_false h3,zaH,zaZ,zad]at hr;by_cases h5:n.op=5
 ·rw[decide_eq_true h5,za0,one_sub]at hr;rw[if_neg h1,if_neg h2,if_neg h3,if_pos h5];exact hr
 rw[decide_eq_false h5,zaH,zaZ,zad]at hr;by_cases h6:n.op=6
 ·rw[decide_eq_true h6,za0,b_and]at hr;rw[if_neg h1,if_neg h2,if_neg h3,if_neg h5,if_pos h6];exact hr
 rw[decide_eq_false h6,zaH,zaZ,zad]at hr;by_cases h7:n.op=7
 ·rw[decide_eq_true h7,za0,b_or]at hr;rw[if_neg h1,if_neg h2,if_neg h3,if_neg h5,if_neg h6,if_pos h7];exact hr
 rw[decide_eq_false h7,zaH,zaZ,zad]at hr;by_cases h8:n.op=8
 ·rw[decide_eq_true h8,za0,b_xor]at hr;rw[if_neg h1,if_neg h2,if_neg h3,if_neg h5,if_neg h6,if_neg h7,if_pos h8];exact hr
 rw[decide_eq_false h8,zaH,zaZ,zad]at hr;by_cases h9:n.op=9
 ·rw[decide_eq_true h9,za0,b_eql,zag (p_one _ H)]at hr;rw[if_neg h1,if_neg h2,if_neg h3,if_neg h5,if_neg h6,if_neg h7,if_neg h8,if_pos h9];exact hr
 rw[decide_eq_false h9,zaH,zft,zad]at hr;by_cases h13:n.op≤13
 ·rw[decide_eq_true h13,za0,zag (p_cmp ⟨by omega,h13⟩ (h.cmp (by omega) h13).1 (h.cmp (by omega) h13).2 a b H),x01,zag (p_one _ H)]at hr;rw[if_neg h1,if_neg h2,if_neg h3,if_neg h5,if_neg h6,if_neg h7,if_neg h8,if_neg h9,if_pos h13];exact hr
 rw[decide_eq_false h13,zaH,zaZ,zad]at hr;by_cases h14:n.op=14
 ·have hz:∀(k:Value→Option (Value×Hp)),pBin PP .eql Ab (wv a) (.int .u64 1) k=k (.bool (decide (a=1#64))):=fun k=>b_eql _ a 1#64 k;rw[decide_eq_true h14,za0,hz,zad]at hr;rw[if_neg h1,if_neg h2,if_neg h3,if_neg h5,if_neg h6,if_neg h7,if_neg h8,if_neg h9,if_neg h13,if_pos h14];by_cases q:a=1#64
  ·rw[decide_eq_true q,za0]at hr;rw[if_pos q];exact hr
  ·rw[decide_eq_false q,zaH]at hr;rw[if_neg q];exact hr
 rw[decide_eq_false h14,zaH,zft,zad]at hr;by_cases h16:n.op≤16
 ·obtain⟨g1,g2,g3⟩:=h.un (by omega) (by omega);rw[decide_eq_true h16,za0,n1,g1,zag (p_un (by omega) g2 g3 a H),x01]at hr;rw[if_neg h1,if_neg h2,if_neg h3,if_neg h5,if_neg h6,if_neg h7,if_neg h8,if_neg h9,if_neg h13,if_neg h14,if_pos h16];exact hr
 rw[decide_eq_false h16,zaH,zft,zad]at hr;by_cases h29:n.op≤29
 ·obtain⟨g1,g2,g3⟩:=h.un (by omega) h29;rw[decide_eq_true h29,za0,n1,g1,zag (p_bin ⟨by omega,h29⟩ g2 g3 (fun q=>h.sh q h29) a b H),x01]at hr;rw[if_neg h1,if_neg h2,if_neg h3,if_neg h5,if_neg h6,if_neg h7,if_neg h8,if_neg h9,if_neg h13,if_neg h14,if_neg h16,if_pos h29];exact hr
 rw[decide_eq_false h29,zaH,zaZ,zad]at hr;by_cases h30:n.op=30
 ·obtain⟨g1,g2,g3⟩:=h.cat h30;rw[decide_eq_true h30,za0,zag (p_cat g1 g2 g3 a b H),x01]at hr;rw[if_neg h1,if_neg h2,if_neg h3,if_neg h5,if_neg h6,if_neg h7,if_neg h8,if_neg h9,if_neg h13,if_neg h14,if_neg h16,if_neg h29,if_pos h30];exact hr
 rw[decide_eq_false h30,zaH,zaZ,zad]at hr;by_cases h31:n.op=31
 ·obtain⟨g1,g2,g3,g4⟩:=h.sl h31;have e1:n.num=((n.num.toNat:Nat):Int):=(Int.toNat_of_nonneg hnum.1).symm;have e2:n.w=((n.w.toNat:Nat):Int):=(Int.toNat_of_nonneg (by omega)).symm;have g5:=p_slice (n:=wa) (i:=n.num.toNat) (m:=n.w.toNat) g1 g2 (by omega) (by omega) a H;rw[←e1,←e2]at g5;rw[decide_eq_true h31,za0,n5,zhX,zaz (by omega) (by omega),n1,zag g5,x01]at hr;rw[if_neg h1,if_neg h2,if_neg h3,if_neg h5,if_neg h6,if_neg h7,if_neg h8,if_neg h9,if_neg h13,if_neg h14,if_neg h16,if_neg h29,if_neg h30,if_pos h31];exact hr
 rw[decide_eq_false h31,zaH,n0,n1]at hr;obtain⟨g1,g2,g3⟩:=h.ext (by omega);have e2:n.w=((n.w.toNat:Nat):Int):=(Int.toNat_of_nonneg (by omega)).symm;have g5:=p_ext (op:=n.op) (n:=wa) (m:=n.w.toNat) (by omega) g1 (by omega) (by omega) a H;rw[←e2]at g5;rw[zag g5,x01]at hr;rw[if_neg h1,if_neg h2,if_neg h3,if_neg h5,if_neg h6,if_neg h7,if_neg h8,if_neg h9,if_neg h13,if_neg h14,if_neg h16,if_neg h29,if_neg h30,if_neg h31];exact hr
end Go.AM.N14
namespace Go.AM.N14
open List Go Go.AM
section
variable {A:Type}
def getA(z:A)(acc:List A)(x:Int):A:=if x≤0 then z else acc.getD (x-1).toNat z
def accA(F:Nd→A→A→A→A)(z:A):List Nd→List A→List A
 |[],acc=>acc
 |n::r,acc=>accA F z r (acc++[F n (getA z acc n.a) (getA z acc n.b) (getA z acc n.c)])
def fnA(F:Nd→A→A→A→A)(z:A)(L:List Nd)(t:Nat):A:=getA z (accA F z L []) (t:Int)
theorem zoL(F:Nd→A→A→A→A)(z:A):∀(r:List Nd) (acc:List A),∃more,accA F z r acc=acc++more∧more.length=r.length
 |[],acc=>⟨[],by rw[append_nil];rfl,rfl⟩
 |n::r,acc=>by obtain⟨more,h1,h2⟩:=zoL F z r (acc++[F n (getA z acc n.a) (getA z acc n.b) (getA z acc n.c)]);exact⟨F n (getA z acc n.a) (getA z acc n.b) (getA z acc n.c)::more,by show accA F z r _=_;rw[h1,append_assoc];rfl,by rw[length_cons,length_cons,h2]⟩
theorem getA_pre{z:A}{acc more:List A}{x:Int}(h:x≤acc.length):getA z (acc++more) x=getA z acc x:=by
 unfold getA;by_cases h0:x≤0
 ·rw[if_pos h0,if_pos h0]
 ·rw[if_neg h0,if_neg h0,getD_eq_getElem?_getD,getD_eq_getElem?_getD,List.getElem?_append_left (by omega)]
theorem accA_at(F:Nd→A→A→A→A)(z:A):∀(r:List Nd) (acc:List A) (j:Nat) (n:Nd),r[j]?=some n→∃mid more,accA F z r acc=mid++more∧mid.length=acc.length+j∧more[0]?=some (F n (getA z mid n.a) (getA z mid n.b) (getA z mid n.c))
 |[],acc,j,n,h=>by cases h
 |m::r,acc,0,n,h=>by
  cases h;obtain⟨more,h1,h2⟩:=zoL F z r (acc++[F m (getA z acc m.a) (getA z acc m.b) (getA z acc m.c)]);exact⟨acc,F m (getA z acc m.a) (getA z acc m.b) (getA z acc m.c)::more,by show accA F z r _=_;rw[h1,append_assoc];rfl,rfl,rfl⟩
 |m::r,acc,j+1,n,h=>by obtain⟨mid,more,h1,h2,h3⟩:=accA_at F z r (acc++[F m (getA z acc m.a) (getA z acc m.b) (getA z acc m.c)]) j n h;exact⟨mid,more,h1,by rw[h2,length_append,length_singleton];omega,h3⟩
theorem zfn{L:List Nd}(hd:Dag L)(F:Nd→A→A→A→A)(z:A){t:Nat}(ht:1≤t){n:Nd}(hn:L[t-1]?=some n) :
  fnA F z L t=F n (fnA F z L n.a.toNat) (fnA F z L n.b.toNat) (fnA F z L n.c.toNat):=by
 obtain⟨mid,more,h1,h2,h3⟩:=accA_at F z L [] (t-1) n hn;rw[length_nil,Nat.zero_add]at h2;have ha:=hd.a _ n hn;have hb:=hd.b _ n hn;have hc:=hd.c _ n hn;have e:fnA F z L t=F n (getA z mid n.a) (getA z mid n.b) (getA z mid n.c):=by unfold fnA;rw[h1];unfold getA;rw[if_neg (by omega),getD_eq_getElem?_getD,List.getElem?_append_right (by omega),show ((t:Int)-1).toNat-mid.length=0 by omega,h3];rfl
 have k:∀x:Int,0≤x→x≤(t-1:Nat)→fnA F z L x.toNat=getA z mid x:=fun x x0 x1=>by unfold fnA;rw[h1,Int.toNat_of_nonneg x0,getA_pre (by omega)]
 rw[e,k n.a (by omega) (by omega),k n.b (by omega) (by omega),k n.c (by omega) (by omega)]
theorem fnA_ind{L:List Nd}(hd:Dag L)(F:Nd→A→A→A→A)(z:A){S:Nat→Prop}(hcl:∀t,S t→∀c∈kids L t,S c){Q:Nat→A→Prop}(hz:Q 0 z)
  (hs:∀t n,1≤t→S t→L[t-1]?=some n→Q n.a.toNat (fnA F z L n.a.toNat)→Q n.b.toNat (fnA F z L n.b.toNat)→Q n.c.toNat (fnA F z L n.c.toNat)→Q t (F n (fnA F z L n.a.toNat) (fnA F z L n.b.toNat) (fnA F z L n.c.toNat))) :
  ∀t,1≤t→t≤L.length→S t→Q t (fnA F z L t):=by
 intro t;induction t using Nat.strongRecOn with
 |_ t ih=>
  intro h1 h2 h3;have hn:L[t-1]?=some (L[t-1]'(by omega)):=List.getElem?_eq_getElem (by omega);generalize L[t-1]'(by omega)=n at hn;rw[zfn hd F z h1 hn];have hk:=ziD hd hn;have hf:=hd.a _ n hn;have hb:=hd.b _ n hn;have hc:=hd.c _ n hn;have kk:kids L t=zch n:=by unfold kids;rw[hn]
  have one:∀(j:Nat) x,[n.a,n.b,n.c][j]?=some x→(x=0∨j<(zch n).length∧1≤x)→Q x.toNat (fnA F z L x.toNat):=fun j x hx h=>by
   rcases h with rfl|⟨h,_⟩
   ·exact hz
   ·obtain⟨q1,q2,q3⟩:=hk.2.1 j x hx h;have hm:x.toNat∈kids L t:=by rw[kk];exact mem_of_getElem? q1
    exact ih x.toNat (by omega) (by omega) (by omega) (hcl t h3 _ hm)
  have hl:=hk.1;have pn:=zcW n.op;exact hs t n h1 h3 hn (one 0 n.a rfl (by rcases hf with q|q;exact .inr ⟨by omega,by omega⟩;exact .inl q.2)) (one 1 n.b rfl (by rcases hb with q|q;exact .inr ⟨by omega,by omega⟩;exact .inl q.2)) (one 2 n.c rfl (by rcases hc with q|q;exact .inr ⟨by omega,by omega⟩;exact .inl q.2))
end
noncomputable def valF(L:List Nd)(G:ByteArray→W64)(n:Nd)(x y z:W64):W64:=if n.op=4 then G n.name else valW n (wT L 0 n.a).toNat (wT L 0 n.b).toNat x y z
noncomputable def vfn(L:List Nd)(G:ByteArray→W64):Nat→W64:=fnA (valF L G) 0#64 L
def satU(n:Nat):Nat:=min n 18446744073709551615
def sizF(n:Nd)(x y z:Nat×Nat):Nat×Nat:=(satU (satU (satU (1+x.1)+y.1)+z.1),max (max x.2 y.2) z.2+1)
def sizT(L:List Nd):Nat→Nat×Nat:=fnA sizF (0,0) L
theorem satU_eq(n:Nat):satU n=if n≤18446744073709551615 then n else 18446744073709551615:=by unfold satU;split<;>omega
end Go.AM.N14
namespace Go.AM
open List Go
variable {A:Type}
def mapS(enc:A→Value)(l:List (ByteArray×A)):List (Value×Value):=l.map fun x=>(.string x.1,enc x.2)
def lkS(s:ByteArray):Nat→List (ByteArray×A)→Option (Nat×A)
 |_,[]=>none
 |i,(t,v)::r=>if (s==t)=true then some (i,v) else lkS s (i+1) r
def MapS(H:Hp)(m:Nat)(enc:A→Value)(F:ByteArray→Option A):Prop:=∃l,H.get m=some (.map (mapS enc l))∧∀t,F t=(lkS t 0 l).map Prod.snd
theorem findS(enc:A→Value)(s:ByteArray):∀(l:List (ByteArray×A)) (i:Nat),zet PP Ac (.string s) (mapS enc l) i=some ((lkS s i l).map fun q=>(q.1,enc q.2))
 |[],i=>rfl
 |(t,w)::r,i=>by
  show (match eqT PP 10000 Ac (.string s) (.string t) with|some true=>some (some (i,enc w))|some false=>zet PP Ac (.string s) (mapS enc r) (i+1)|none=>none)=_;rw[eq9];unfold lkS;cases h:s==t with
  |true=>simp
  |false=>
   simp only[Bool.false_eq_true,if_false];exact findS enc s r (i+1)
theorem MapS.lookV{H:Hp}{m:Nat}{enc:A→Value}{F:ByteArray→Option A}(h:MapS H m enc F)(z:Value)(t:ByteArray):Go.AM.lookV PP Ac z (.map (some m)) (.string t) H=some (match F t with|some v=>(enc v,true)|none=>(z,false)):=by obtain⟨l,h1,h2⟩:=h;unfold Go.AM.lookV;rw[zlk,h2 t];simp only[if_true,znc,h1,findS];cases lkS t 0 l<;>rfl
theorem MapS.look{H:Hp}{m:Nat}{enc:A→Value}{F:ByteArray→Option A}(h:MapS H m enc F)(z:Value)(t:ByteArray){α:Type}(k:Value→Option α):za7 PP Ac z (.map (some m)) (.string t) false H k=k (match F t with|some v=>enc v|none=>z):=by unfold za7;rw[h.lookV];cases F t<;>rfl
theorem MapS.look2{H:Hp}{m:Nat}{enc:A→Value}{F:ByteArray→Option A}(h:MapS H m enc F)(z:Value)(t:ByteArray){α:Type}(k:Value→Option α):za7 PP Ac z (.map (some m)) (.string t) true H k=k (.tuple #[match F t with|some v=>enc v|none=>z,.bool (F t).isSome]):=by unfold za7;rw[h.lookV];cases F t<;>rfl
theorem znf(s:ByteArray):∀(l:List (ByteArray×A)) (i j:Nat) (w:A),lkS s i l=some (j,w)→i≤j∧l[j-i]?=some (s,w)
 |[],i,j,w,h=>by cases h
 |(t,u)::r,i,j,w,h=>by
  unfold lkS at h;split at h
  ·rename_i e;cases h;have:s=t:=(zc9 s t).1 e;subst this;exact⟨Nat.le_refl _,by simp⟩
  ·obtain⟨h1,h2⟩:=znf s r (i+1) j w h;refine⟨by omega,?_⟩;rw[show j-i=(j-(i+1))+1 by omega];simpa using h2
theorem lkS_app(t key:ByteArray)(v:A):∀(l:List (ByteArray×A)) (i:Nat),lkS key i l=none→(lkS t i (l++[(key,v)])).map Prod.snd=if (t==key)=true then some v else (lkS t i l).map Prod.snd
 |[],i,h=>by
  show (lkS t i [(key,v)]).map Prod.snd=_;unfold lkS lkS;split<;>rfl
 |(u,w)::r,i,h=>by
  unfold lkS at h;split at h
  ·cases h
  ·rename_i ne;show (lkS t i ((u,w)::(r++[(key,v)]))).map Prod.snd=_;unfold lkS;by_cases e:(t==u)=true
   ·rw[if_pos e,if_pos e,if_neg (fun q=>ne (by rw[←(zc9 t key).1 q];exact e))]
   ·rw[if_neg e,if_neg e];exact lkS_app t key v r (i+1) h
theorem lkS_set(t key:ByteArray)(v:A):∀(l:List (ByteArray×A)) (i j:Nat) (w:A),lkS key i l=some (j,w)→(lkS t i (l.set (j-i) (key,v))).map Prod.snd=if (t==key)=true then some v else (lkS t i l).map Prod.snd
 |[],i,j,w,h=>by cases h
 |(u,x)::r,i,j,w,h=>by
  unfold lkS at h;split at h
  ·rename_i e;cases h;have e:key=u:=(zc9 key u).1 e;subst e;rw[Nat.sub_self,set_cons_zero];unfold lkS;by_cases q:(t==key)=true
   ·rw[if_pos q,if_pos q];rfl
   ·rw[if_neg q,if_neg q,if_neg q]
  ·rename_i ne;have hle:=(znf key r (i+1) j w h).1;rw[show j-i=(j-(i+1))+1 by omega,set_cons_succ];unfold lkS;by_cases q:(t==u)=true
   ·rw[if_pos q,if_pos q,if_neg (fun z=>ne (by rw[←(zc9 t key).1 z];exact q))]
   ·rw[if_neg q,if_neg q];exact lkS_set t key v r (i+1) j w h
theorem MapS.upd{H:Hp}{m:Nat}{enc:A→Value}{F:ByteArray→Option A}(h:MapS H m enc F)(key:ByteArray)(v:A) :
  ∃H',(∀(α:Type) (k:Hp→Option α),pUpd PP Ac (.map (some m)) (.string key) (enc v) H k=k H')∧MapS H' m enc (fun t=>if (t==key)=true then some v else F t)∧(∀j,j≠m→H'.get j=H.get j)∧H'.next=H.next:=by
 obtain⟨l,h1,h2⟩:=h;cases hq:lkS key 0 l with
 |none=>
  refine⟨H.set m (some (.map (mapS enc (l++[(key,v)])))),fun α k=>?_,⟨l++[(key,v)],by rw[get_set,if_pos rfl],fun t=>?_⟩,fun j hj=>by rw[get_set,if_neg hj],rfl⟩
  ·have:updV PP Ac (.map (some m)) (.string key) (enc v) H=some (H.set m (some (.map (mapS enc (l++[(key,v)]))))):=by unfold updV;rw[zlk];simp only[if_true,h1,findS,hq,Option.map_none];rw[show mapS enc (l++[(key,v)])=mapS enc l++[(Value.string key,enc v)] by simp[mapS]]
   unfold pUpd;rw[this]
  ·rw[lkS_app t key v l 0 hq];dsimp only;split
   ·rfl
   ·exact h2 t
 |some q=>
  obtain⟨j,w⟩:=q;obtain⟨_,hg⟩:=znf key l 0 j w hq;rw[Nat.sub_zero]at hg;refine⟨H.set m (some (.map (mapS enc (l.set j (key,v))))),fun α k=>?_,⟨l.set j (key,v),by rw[get_set,if_pos rfl],fun t=>?_⟩,fun j hj=>by rw[get_set,if_neg hj],rfl⟩
  ·have hk1:(mapS enc l)[j]?=some (.string key,enc w):=by unfold mapS;rw[List.getElem?_map,hg];rfl
   have hsb:Instr.sameBits 10000 (.string key) (.string key)=true:=by simp only[Instr.sameBits];exact(zc9 key key).2 rfl
   have:updV PP Ac (.map (some m)) (.string key) (enc v) H=some (H.set m (some (.map (mapS enc (l.set j (key,v)))))):=by unfold updV;rw[zlk];simp only[if_true,h1,findS,hq,Option.map_some,hk1,hsb];rw[show mapS enc (l.set j (key,v))=zhj (mapS enc l) j (.string key) (enc v) by unfold zhj mapS;rw[map_set]]
   unfold pUpd;rw[this]
  ·have:=lkS_set t key v l 0 j w hq;rw[Nat.sub_zero]at this;rw[this];dsimp only;split
   ·rfl
   ·exact h2 t
theorem MapS.new(H:Hp)(enc:A→Value):MapS (H.new (.map [])) H.next enc (fun _=>none):=⟨[],by rw[get_new,if_pos rfl];rfl,fun t=>rfl⟩
theorem MapS.keep{H H':Hp}{m:Nat}{enc:A→Value}{F:ByteArray→Option A}(h:MapS H m enc F)(hg:H'.get m=H.get m):MapS H' m enc F:=by obtain⟨l,h1,h2⟩:=h;exact⟨l,by rw[hg];exact h1,h2⟩
end Go.AM
namespace Go.AM
open Go
end Go.AM
namespace Go.AM
open List Go
def zcH(L:List Nd)(out:List Nat):Prop:=∀(i:Nat) t,out[i]?=some t→∀c∈kids L t,c∈out.take i
def Grew(L:List Nd)(l out out':List Nat):Prop:=∃new,out'=out++new∧∀(i:Nat) x,new[i]?=some x→x∈l∨∃(j:Nat) (u:Nat),i<j∧new[j]?=some u∧x∈kids L u
theorem zcH.app{L:List Nd}{out:List Nat}{t:Nat}(h:zcH L out)(hk:∀c∈kids L t,c∈out):zcH L (out++[t]):=by
 intro i x hx c hc;rw[List.getElem?_append]at hx;split at hx
 ·rename_i lt;rw[take_append_of_le_length (by omega)];exact h i x hx c hc
 ·have:i=out.length:=by have:=(List.getElem?_eq_some_iff.1 hx).1;simp at this;omega
  subst this;simp at hx;subst hx;rw[List.take_left' rfl];exact hk c hc
theorem Grew.refl(L:List Nd)(l out:List Nat):Grew L l out out:=⟨[],by simp,fun i x h=>by cases h⟩
theorem Grew.cons{L:List Nd}{c:Nat}{l out o1 o2:List Nat}(h:Grew L [c] out o1)(k:Grew L l o1 o2):Grew L (c::l) out o2:=by
 obtain⟨n1,e1,h1⟩:=h;obtain⟨n2,e2,h2⟩:=k;refine⟨n1++n2,by rw[e2,e1,append_assoc],fun i x hx=>?_⟩;rw[List.getElem?_append]at hx;split at hx
 ·rename_i lt;rcases h1 i x hx with q|⟨j,u,q1,q2,q3⟩
  ·rw[mem_singleton]at q;subst q;exact .inl (mem_cons_self ..)
  ·have:=(List.getElem?_eq_some_iff.1 q2).1;exact .inr ⟨j,u,q1,by rw[List.getElem?_append_left this];exact q2,q3⟩
 ·rename_i ge;rcases h2 _ x hx with q|⟨j,u,q1,q2,q3⟩
  ·exact .inl (mem_cons_of_mem _ q)
  ·exact .inr ⟨n1.length+j,u,by omega,by rw[List.getElem?_append_right (by omega),Nat.add_sub_cancel_left];exact q2,q3⟩
theorem post_good{L:List Nd}(h:Dag L):∀(t:Nat),1≤t→∀(out:List Nat),zcH L out→zcH L (post L t out)∧Grew L [t] out (post L t out):=by
 intro t;induction t using Nat.strongRecOn with
 |_ t ih=>
  intro ht out hc;rw[zh5 h ht];split
  ·exact⟨hc,Grew.refl ..⟩
  ·have key:∀(l:List Nat) (o:List Nat),(∀c∈l,c∈kids L t)→zcH L o→zcH L (posts L l o)∧Grew L l o (posts L l o):=by
    intro l;induction l with
    |nil=>exact fun o _ h=>⟨h,Grew.refl ..⟩
    |cons c l ihl=>
     intro o hl ho;have hcc:=zfF h ht (hl c (mem_cons_self ..));obtain⟨a1,a2⟩:=ih c hcc.2 hcc.1 o ho;obtain⟨b1,b2⟩:=ihl _ (fun c hc=>hl c (mem_cons_of_mem _ hc)) a1;exact⟨b1,a2.cons b2⟩
   obtain⟨k1,new,e,k2⟩:=key (kids L t) out (fun c hc=>hc) hc;have hm:=(zcU h (N:=t) (kids L t) out fun c hc=>by have:=zfF h ht hc;omega).2.1;refine⟨k1.app hm,new++[t],by rw[e,append_assoc],fun i x hx=>?_⟩;rw[List.getElem?_append]at hx;split at hx
   ·rename_i lt;rcases k2 i x hx with q|⟨j,u,q1,q2,q3⟩
    ·exact .inr ⟨new.length,t,lt,by rw[List.getElem?_append_right (Nat.le_refl _),Nat.sub_self];rfl,q⟩
    ·have:=(List.getElem?_eq_some_iff.1 q2).1;exact .inr ⟨j,u,q1,by rw[List.getElem?_append_left this];exact q2,q3⟩
   ·rename_i ge;have:=mem_of_getElem? hx;exact .inl this
theorem ze7{L:List Nd}(h:Dag L):∀(l o:List Nat),(∀c∈l,1≤c)→zcH L o→zcH L (posts L l o)∧Grew L l o (posts L l o)
 |[],o,_,ho=>⟨ho,Grew.refl ..⟩
 |c::l,o,hl,ho=>by obtain⟨a1,a2⟩:=post_good h c (hl c (mem_cons_self ..)) o ho;obtain⟨b1,b2⟩:=ze7 h l _ (fun c hc=>hl c (mem_cons_of_mem _ hc)) a1;exact⟨b1,a2.cons b2⟩
theorem zgO{L:List Nd}(h:Dag L){i:Nat}{n:Nd}(hn:L[i]?=some n):(∀c∈zch n,(c:Int)=n.a∨(c:Int)=n.b∨(c:Int)=n.c)∧(∀x:Int,x=n.a∨x=n.b∨x=n.c→x≠0→∃c∈zch n,(c:Int)=x):=by
 have ha:=h.a i n hn;have hb:=h.b i n hn;have hc:=h.c i n hn;unfold zch;rcases zcW n.op with q|q|q|q<;>rw[q]
 ·refine⟨fun c hcm=>by simp at hcm,fun x hx h0=>by omega⟩
 ·refine⟨fun c hcm=>?_,fun x hx h0=>?_⟩
  ·simp at hcm;omega
  ·exact⟨n.a.toNat,by simp,by omega⟩
 ·refine⟨fun c hcm=>?_,fun x hx h0=>?_⟩
  ·simp at hcm;omega
  ·rcases hx with e|e|e
   ·exact⟨n.a.toNat,by simp,by omega⟩
   ·exact⟨n.b.toNat,by simp,by omega⟩
   ·omega
 ·refine⟨fun c hcm=>?_,fun x hx h0=>?_⟩
  ·simp at hcm;omega
  ·rcases hx with e|e|e
   ·exact⟨n.a.toNat,by simp,by omega⟩
   ·exact⟨n.b.toNat,by simp,by omega⟩
   ·exact⟨n.c.toNat,by simp,by omega⟩
structure zbZ(L:List Nd)(K:List (ByteArray×Int)):Prop where
 dag:Dag L
 rt:∀m∈L,zgU L K m
 num:∀m∈L,zgv m
 nod:∀(i j:Nat) m,L[i]?=some m→L[j]?=some m→i=j
 kn:∀m∈L,m.op=4→∃j,zaX m.name 0 K=some (j,m.w)
theorem zbZ.nil:zbZ [] []:=⟨Dag.nil,fun m h=>(by cases h),fun m h=>(by cases h),fun i j m h=>(by cases h),fun m h=>by cases h⟩
theorem zjH{s:ByteArray}(M:List (ByteArray×Int)):∀(K:List (ByteArray×Int)) (i:Nat) (q:Nat×Int),zaX s i K=some q→zaX s i (K++M)=some q
 |[],i,q,h=>by cases h
 |(u,v)::r,i,q,h=>by
  unfold zaX at h;show zaX s i ((u,v)::(r++M))=_;unfold zaX;split at h
  ·rename_i e;rw[if_pos e];exact h
  ·rename_i e;rw[if_neg e];exact zjH M r (i+1) q h
theorem zjI{s t:ByteArray}{w:Int}:∀(K:List (ByteArray×Int)) (i j:Nat) (v:Int),zaX t i (K++[(s,w)])=some (j,v)→(∃j',zaX t i K=some (j',v))∨(t=s∧v=w)
 |[],i,j,v,h=>by
  have h:zaX t i [(s,w)]=some (j,v):=h;unfold zaX at h;split at h
  ·rename_i e;cases h;exact .inr ⟨(zc9 t s).1 e,rfl⟩
  ·cases h
 |(u,x)::r,i,j,v,h=>by
  have h:zaX t i ((u,x)::(r++[(s,w)]))=some (j,v):=h;unfold zaX at h ⊢;split at h
  ·rename_i e;cases h;rw[if_pos e];exact .inl ⟨_,rfl⟩
  ·rename_i e;rw[if_neg e];exact zjI r (i+1) j v h
theorem zna{s t:ByteArray}{w:Int}{K:List (ByteArray×Int)}{q:Nat×Int}(h:zaX t 0 K=some q):zaX t 0 (zbt s w K)=some q:=by
 unfold zbt;split
 ·exact h
 ·exact zjH _ K 0 q h
theorem zl4{s:ByteArray}{w:Int}{K:List (ByteArray×Int)}(h:∀j v,zaX s 0 K=some (j,v)→v=w):∃j,zaX s 0 (zbt s w K)=some (j,w):=by
 unfold zbt;cases hq:zaX s 0 K with
 |some q=>exact⟨q.1,by rw[←h q.1 q.2 hq];exact hq⟩
 |none=>exact⟨_,zgK s s w K 0 hq⟩
theorem zhH{K:List (ByteArray×Int)}{n:Nd}(h:zbn K n=false):zcu n.name=true∧∀j v,zaX n.name 0 K=some (j,v)→v=n.w:=by unfold zbn at h;rw[Bool.or_eq_false_iff]at h;refine⟨by simpa using h.1,fun j v hv=>?_⟩;have h2:=h.2;rw[hv]at h2;simpa using h2
theorem bad_of{K:List (ByteArray×Int)}{n:Nd}(h1:zcu n.name=true)(h2:∀j v,zaX n.name 0 K=some (j,v)→v=n.w):zbn K n=false:=by
 unfold zbn;rw[h1];cases hq:zaX n.name 0 K with
 |none=>rfl
 |some q=>have:=h2 q.1 q.2 hq;simp[this]
theorem zgU.free{L:List Nd}{K:List (ByteArray×Int)}{n:Nd}(h:zgU L K n)(h4:n.op=4):zbn K n=false:=by
 cases q:zbn K n with
 |false=>rfl
 |true=>exact absurd ⟨h4,q⟩ h.nm
theorem zkO{lim:Int}{L:List Nd}{K:List (ByteArray×Int)}{n:Nd}(hn:zgv n)(h:zbZ L K):zbZ (mkR lim L K n).2.2.1 (mkR lim L K n).2.2.2:=by
 by_cases h0:(mkR lim L K n).2.1=0
 ·have hdag:=mk_dag (lim:=lim) (K:=K) (n:=n) h.dag;obtain⟨hr,⟨q,hq,e⟩|⟨hq,_,e⟩⟩:=zis h0
  ·rw[e];exact h
  ·rw[e]at hdag ⊢;have hself:n.op=4→∃j,zaX n.name 0 (zbt n.name n.w K)=some (j,n.w):=fun h4=>zl4 (zhH (hr.free h4)).2;have hpre:∀(t:ByteArray) q,zaX t 0 K=some q→zaX t 0 (if n.op=4 then zbt n.name n.w K else K)=some q:=fun t q hq=>by
    split
    ·exact zna hq
    ·exact hq
   refine⟨hdag,fun m hm=>?_,fun m hm=>?_,fun i j m hi hj=>?_,fun m hm h4=>?_⟩
   ·rcases mem_append.1 hm with q|q
    ·refine(h.rt m q).app fun h4=>?_;obtain⟨j,hj⟩:=h.kn m q h4;refine bad_of (zhH ((h.rt m q).free h4)).1 fun j' v hv=>?_;rw[hpre _ _ hj]at hv;cases hv;rfl
    ·rw[mem_singleton]at q;subst q;refine hr.app fun h4=>?_;rw[if_pos h4];exact znx (hr.free h4)
   ·rcases mem_append.1 hm with q|q
    ·exact h.num m q
    ·rw[mem_singleton]at q;rw[q];exact hn
   ·have hno:=zcV n L 0 hq;rcases zi3 hi with a|⟨a1,a2⟩<;>rcases zi3 hj with b|⟨b1,b2⟩
    ·exact h.nod i j m a b
    ·subst b2;exact absurd a (hno i)
    ·subst a2;exact absurd b (hno j)
    ·rw[a1,b1]
   ·rcases mem_append.1 hm with q|q
    ·obtain⟨j,hj⟩:=h.kn m q h4;exact⟨j,hpre _ _ hj⟩
    ·rw[mem_singleton]at q;subst q;rw[if_pos h4];exact hself h4
 ·rw[mk_no h0];exact h
theorem zcg{L:List Nd}{t:Nat}(h:1≤t∧t≤L.length):L[t-1]?=some (zao L t):=by unfold zao;rw[List.getElem?_eq_getElem (by omega)];rfl
end Go.AM
namespace Go.AM.N14
open List Go Go.AM
structure VV where
 name:ByteArray
 w:Int
 num:Int
def VV.cells(x:VV):List Value:=[.string x.name,.int .i64 x.w,.int .u64 x.num]
def VV.val(x:VV):Value:=.agg x.cells.toArray
def VV.Ok(x:VV):Prop:=0≤x.num∧x.num<18446744073709551616
def fndV(s:ByteArray):List VV→Option VV
 |[]=>none
 |v::r=>if (s==v.name)=true then some v else fndV s r
def nmOk:List ByteArray→List ByteArray→Bool
 |_,[]=>true
 |seen,s::r=>if (seen.any fun t=>s==t)||!zcu s then false else nmOk (seen++[s]) r
def wdOk(v:VV):Bool:=decide (0≤v.w)&&decide (v.w≤64)&&decide (zdh (if v.w<1 then 1 else v.w) v.num=v.num)
def zfa(Tv:List VV):Int:=if nmOk [] (Tv.map VV.name)=true then (if Tv.all wdOk=true then 0 else 5) else 72
theorem zou(s:ByteArray)(v:VV):∀Tv:List VV,fndV s (Tv++[v])=match fndV s Tv with|some x=>some x|none=>if (s==v.name)=true then some v else none
 |[]=>rfl
 |x::r=>by
  show (if (s==x.name)=true then some x else fndV s (r++[v]))=_;rw[show fndV s (x::r)=if (s==x.name)=true then some x else fndV s r from rfl];by_cases h:(s==x.name)=true
  ·rw[if_pos h,if_pos h]
  ·rw[if_neg h,if_neg h,zou s v r]
theorem zov(s:ByteArray):∀Tv:List VV,(fndV s Tv).isSome=(Tv.map VV.name).any fun t=>s==t
 |[]=>rfl
 |x::r=>by
  rw[map_cons,any_cons];unfold fndV;by_cases h:(s==x.name)=true
  ·rw[if_pos h,h];rfl
  ·rw[if_neg h,zov s r,(Bool.eq_false_iff.2 h:(s==x.name)=false),Bool.false_or]
theorem zgn{s:ByteArray}{v:VV}:∀{Tv:List VV},fndV s Tv=some v→v∈Tv∧v.name=s
 |[],h=>by cases h
 |x::r,h=>by
  unfold fndV at h;split at h
  ·rename_i q;cases h;exact⟨mem_cons_self ..,((zc9 _ _).1 q).symm⟩
  ·obtain⟨a,b⟩:=zgn h;exact⟨mem_cons_of_mem _ a,b⟩
def zbJ(Tv:List VV)(s:ByteArray):W64:=match fndV s Tv with|some v=>BitVec.ofInt 64 v.num|none=>0#64
def badV(L:List Nd)(Tv:List VV)(t:Nat):Bool:=match L[t-1]? with
 |some n=>decide (n.op=4)&&(match fndV n.name Tv with|some v=>decide (v.w≠n.w)|none=>false)
 |none=>false
noncomputable def zfq(L:List Nd)(ns:List Nat)(Tv:List VV):Int×List W64:=
 if zfa Tv≠0 then (zfa Tv,[]) else if (posts L ns []).any (badV L Tv)=true then (71,[]) else (0,ns.map (vfn L (zbJ Tv)))
def zbe(L:List Nd)(ns:List Nat):List VV:=(posts L ns []).filterMap fun t=>match L[t-1]? with
 |some n=>if n.op=4 then some ⟨n.name,n.w,0⟩ else none
 |none=>none
theorem flat_at{A:Type}{f:A→List Value}{n:Nat}(hf:∀a,(f a).length=n):∀(l:List A) (i:Nat) (a:A),l[i]?=some a→((l.flatMap f).drop (i*n)).take n=f a
 |[],i,a,h=>by cases h
 |b::r,0,a,h=>by
  cases h;rw[Nat.zero_mul,qd0,flatMap_cons,List.take_left' (hf _)]
 |b::r,i+1,a,h=>by have h:r[i]?=some a:=h;rw[flatMap_cons,drop_append,drop_of_length_le (by rw[hf];exact Nat.le_mul_of_pos_left n (by omega)),nil_append,hf,show (i+1)*n-n=i*n by rw[Nat.succ_mul];omega];exact flat_at hf r i a h
theorem flat_len{A:Type}{f:A→List Value}{n:Nat}(hf:∀a,(f a).length=n):∀(l:List A),(l.flatMap f).length=l.length*n
 |[]=>by simp
 |b::r=>by rw[flatMap_cons,length_append,hf,flat_len hf r,length_cons,Nat.succ_mul];omega
def za5(Tv:List VV):List Value:=Tv.flatMap VV.cells
theorem vv_len(v:VV):v.cells.length=3:=rfl
theorem zle(Tv:List VV):(za5 Tv).length=Tv.length*3:=flat_len vv_len Tv
theorem zfR(Tv U:List VV):za5 (Tv++U)=za5 Tv++za5 U:=by simp[za5]
theorem Rdb.vv{H:Hp}{x:Value}{Tv:List VV}(hx:Rdb H 3 x Tv.length (za5 Tv)){i:Nat}{v:VV}(hi:Tv[i]?=some v) :
  ∃y,Id x y∧(∀(α:Type) (kd:IntKind) (k:Value→Option α),pIdx 3 x (.int kd (i:Int)) k=k (.pointer (some ⟨y,i*3,none⟩)))∧(∀(α:Type) (k:Value→Option α),zak 3 true H (.pointer (some ⟨y,i*3,none⟩)) k=k v.val) ∧
   (∀(α:Type) (j:Nat) (z:Value),v.cells[j]?=some z→∀(k:Value→Option α),zak 1 false H (.pointer (some ⟨y,i*3+j,none⟩)) k=k z):=by
 have hlt:=(List.getElem?_eq_some_iff.1 hi).1;obtain⟨y,hy,⟨rest,own,hg⟩,hix⟩:=hx.ix hlt;have hf:=flat_at vv_len Tv i v hi;have hl:=zle Tv;refine⟨y,hy,hix,fun α k=>?_,fun α j z hz k=>?_⟩
 ·rw[ld_agg hg (by rw[hl];omega)];have:(za5 Tv).drop (i*3)=(Tv.flatMap VV.cells).drop (i*3):=rfl;rw[this,hf];rfl
 ·have hj:j<3:=(List.getElem?_eq_some_iff.1 hz).1;refine zfE hg ?_ k;have:(((Tv.flatMap VV.cells).drop (i*3)).take 3)[j]?=some z:=by rw[hf];exact hz
  rw[List.getElem?_take_of_lt hj,List.getElem?_drop]at this;exact this
theorem splV{α:Type}(v:VV)(k:List Value→Option α):zaN 3 [.string ⟨#[]⟩,.int .i64 0,.int .u64 0] 0 v.val k=k v.cells:=by
 have:zbm 3 [.string ⟨#[]⟩,.int .i64 0,.int .u64 0] 0 v.val=some v.cells:=by kernel_rfl
 unfold zaN;rw[this]
theorem vcell0{α:Type}(v:VV)(k:Value→Option α):zaj 1 false v.cells 0 k=k (.string v.name):=rfl
theorem zjg{α:Type}(v:VV)(k:Value→Option α):zaj 1 false v.cells 1 k=k (.int .i64 v.w):=rfl
theorem zlc{α:Type}(v:VV)(k:Value→Option α):zaj 1 false v.cells 2 k=k (.int .u64 v.num):=rfl
theorem znD{α:Type}(v:VV)(k:Value→Option α):zaj 3 true v.cells 0 k=k v.val:=rfl
def noV:VV:=⟨⟨#[]⟩,0,0⟩
theorem noV_val:Value.agg #[.string ⟨#[]⟩,.int .i64 0,.int .u64 0]=noV.val:=rfl
theorem mm_i64{α:Type}(a b:Int)(k:Value→Option α):pMM true [.int .i64 a,.int .i64 b] k=k (.int .i64 (if b>a then b else a)):=rfl
theorem nmOk_cons(seen:List ByteArray)(s:ByteArray)(r:List ByteArray):nmOk seen (s::r)=if (seen.any fun t=>s==t)||!zcu s then false else nmOk (seen++[s]) r:=rfl
structure TS(B H:Hp)(m:Nat)(F:ByteArray→Option VV):Prop where
 next:B.next≤H.next
 old:∀j,j<B.next→H.get j=B.get j
 l:B.next≤m
 n:m<H.next
 map:MapS H m VV.val F
theorem TS.up{B H:Hp}{m:Nat}{F:ByteArray→Option VV}(h:TS B H m F)(v:VV) :
  ∃H',(∀(α:Type) (k:Hp→Option α),pUpd PP Ac (.map (some m)) (.string v.name) v.val H k=k H')∧TS B H' m (fun t=>if (t==v.name)=true then some v else F t):=by
 obtain⟨H',e1,e2,e3,e4⟩:=h.map.upd v.name v;have a:=h.l;exact⟨H',e1,⟨by rw[e4];exact h.next,fun j hj=>by rw[e3 j (by omega),h.old j hj],h.l,by rw[e4];exact h.n,e2⟩⟩
section
variable {B:Hp}{x:Value}{L:List VV}(hx:Rdb B 3 x L.length (za5 L))(hl:L.length≤2^40)
include hx hl
theorem zjk{m:Nat}:∀(r:List VV) (i:Nat) (H:Hp),L.drop i=r→i≤L.length→TS B H m (fun s=>fndV s (L.take i)) →
  ∃H',B.next≤H'.next∧(∀j,j<B.next→H'.get j=B.get j) ∧
   (nmOk ((L.take i).map VV.name) (r.map VV.name)=true→zau (zbV RR x (.map (some m)) (.int .i64 (L.length:Int))) [.int .i64 (i:Int)] H=some (.exit 0,[.int .i64 (L.length:Int)],H')∧TS B H' m (fun s=>fndV s L)) ∧
   (nmOk ((L.take i).map VV.name) (r.map VV.name)=false→zau (zbV RR x (.map (some m)) (.int .i64 (L.length:Int))) [.int .i64 (i:Int)] H=some (.ret,[.tuple #[.map none,.int .i64 72]],H'))
 |[],i,H,hr,hi,h=>by
  have hil:i=L.length:=by have:=congrArg List.length hr;rw[length_drop,length_nil]at this;omega
  subst hil;refine⟨H,h.next,h.old,fun _=>⟨?_,?_⟩,fun q=>by cases q⟩
  ·rw[zah];have:zbV RR x (.map (some m)) (.int .i64 (L.length:Int)) [.int .i64 (L.length:Int)] H=some (.exit 0,[.int .i64 (L.length:Int)],H):=by unfold zbV;simp only[qg0];rw[lF (Int.lt_irrefl _)]
   rw[this];rfl
  ·rw[take_length]at h;exact h
 |v::r,i,H,hr,hi,h=>by
  have hlt:i<L.length:=by have:=congrArg List.length hr;rw[length_drop,length_cons]at this;omega
  have hv:L[i]?=some v:=by
   have:(L.drop i)[0]?=some v:=by rw[hr];rfl
   rwa [List.getElem?_drop,Nat.add_zero]at this
  have hr2:L.drop (i+1)=r:=by rw[←drop_drop,hr];rfl
  have ht:L.take (i+1)=L.take i++[v]:=by rw[take_add_one,hv];rfl
  have hxH:Rdb H 3 x L.length (za5 L):=hx.keep' (fun j hj=>h.old j (hx.lt hj)) h.next;obtain⟨y,_,y1,y2,_⟩:=Rdb.vv hxH hv;have q:(i:Int)<(L.length:Int):=by omega
  have w1:IntKind.i64.wrap ((i:Int)+1)=((i+1:Nat):Int):=zaz (by omega) (by omega);have lk:∀{α:Type} (k:Value→Option α),za7 PP Ac (.agg #[.string ⟨#[]⟩,.int .i64 0,.int .u64 0]) (.map (some m)) (.string v.name) true H k=k (.tuple #[((fndV v.name (L.take i)).getD noV).val,.bool (fndV v.name (L.take i)).isSome]):=fun k=>by rw[noV_val,h.map.look2];cases fndV v.name (L.take i)<;>rfl
  have hb:=zov v.name (L.take i);obtain⟨H1,u1,t1⟩:=h.up v;have hcase:zbV RR x (.map (some m)) (.int .i64 (L.length:Int)) [.int .i64 (i:Int)] H=if ((fndV v.name (L.take i)).isSome||!zcu v.name)=true then some (.ret,[.tuple #[.map none,.int .i64 72]],H) else some (.next,[.int .i64 ((i+1:Nat):Int)],H1):=by
   unfold zbV;simp only[qg0];rw[lT q,y1,y2,splV,vcell0,lk,x01,splV,zad];cases (fndV v.name (L.take i)).isSome with
   |true=>rfl
   |false=>
    rw[zaH,vcell0,zag (Go.AM.c44 _ _),zbQ,zad];cases zcu v.name with
    |false=>rfl
    |true=>
     show br false _ _=_;rw[zaH,vcell0,znD,u1,zaU,w1];rfl
  rw[map_cons,nmOk_cons,←hb];by_cases hc:((fndV v.name (L.take i)).isSome||!zcu v.name)=true
  ·rw[if_pos hc]at hcase ⊢;refine⟨H,h.next,h.old,fun q=>(by cases q),fun _=>?_⟩;rw[zah,hcase];rfl
  ·rw[if_neg hc]at hcase ⊢;have hF:(fun t=>if (t==v.name)=true then some v else fndV t (L.take i))=fun s=>fndV s (L.take (i+1)):=by
    funext t;rw[ht,zou];by_cases e:(t==v.name)=true
    ·rw[if_pos e,if_pos e];have:t=v.name:=(zc9 _ _).1 e;rw[this];cases hq:fndV v.name (L.take i) with
     |none=>rfl
     |some z=>rw[hq]at hc;exact absurd rfl hc
    ·rw[if_neg e,if_neg e];cases fndV t (L.take i)<;>rfl
   rw[hF]at t1;obtain⟨H',g1,g2,g3,g4⟩:=zjk r (i+1) H1 hr2 (by omega) t1;rw[ht,map_append]at g3 g4;refine⟨H',g1,g2,fun q=>?_,fun q=>?_⟩
   ·rw[zah,hcase];exact g3 q
   ·rw[zah,hcase];exact g4 q
theorem zjj{H:Hp}(hok:∀v∈L,v.Ok)(hH:Rdb H 3 x L.length (za5 L)):∀(r:List VV) (i:Nat),L.drop i=r→i≤L.length →
   (r.all wdOk=true→zau (zbU RR x (.int .i64 (L.length:Int))) [.int .i64 (i:Int)] H=some (.exit 2,[.int .i64 (L.length:Int)],H)) ∧
   (r.all wdOk=false→zau (zbU RR x (.int .i64 (L.length:Int))) [.int .i64 (i:Int)] H=some (.ret,[.tuple #[.map none,.int .i64 5]],H))
 |[],i,hr,hi=>by
  have hil:i=L.length:=by have:=congrArg List.length hr;rw[length_drop,length_nil]at this;omega
  subst hil;refine⟨fun _=>?_,fun q=>by cases q⟩;rw[zah];have:zbU RR x (.int .i64 (L.length:Int)) [.int .i64 (L.length:Int)] H=some (.exit 2,[.int .i64 (L.length:Int)],H):=by unfold zbU;simp only[qg0];rw[lF (Int.lt_irrefl _)]
  rw[this];rfl
 |v::r,i,hr,hi=>by
  have hlt:i<L.length:=by have:=congrArg List.length hr;rw[length_drop,length_cons]at this;omega
  have hv:L[i]?=some v:=by
   have:(L.drop i)[0]?=some v:=by rw[hr];rfl
   rwa [List.getElem?_drop,Nat.add_zero]at this
  have hr2:L.drop (i+1)=r:=by rw[←drop_drop,hr];rfl
  obtain⟨y,_,y1,y2,_⟩:=Rdb.vv hH hv;have q:(i:Int)<(L.length:Int):=by omega
  have w1:IntKind.i64.wrap ((i:Int)+1)=((i+1:Nat):Int):=zaz (by omega) (by omega);obtain⟨n0,n1⟩:=hok v (mem_of_getElem? hv);have e:(if (1:Int)>v.w then (1:Int) else v.w)=if v.w<1 then 1 else v.w:=rfl;have hcase:zbU RR x (.int .i64 (L.length:Int)) [.int .i64 (i:Int)] H=if wdOk v=true then some (.next,[.int .i64 ((i+1:Nat):Int)],H) else some (.ret,[.tuple #[.map none,.int .i64 5]],H):=by
   unfold zbU wdOk;simp only[qg0];rw[lT q,y1,y2,splV,zjg,zbh,zad];by_cases a:v.w<0
   ·rw[decide_eq_true a,za0,decide_eq_false (show ¬0≤v.w by omega)];rfl
   ·rw[decide_eq_false a,zaH,zjg,zb8,zad,decide_eq_true (show 0≤v.w by omega)];by_cases b:v.w>64
    ·rw[decide_eq_true b,za0,decide_eq_false (show ¬v.w≤64 by omega)];rfl
    ·rw[decide_eq_false b,zaH,zjg,mm_i64,zlc,zag (Go.AM.c45 _ _ n0 n1 _),zlc,zba,zad,decide_eq_true (show v.w≤64 by omega),e,zaU,w1];by_cases c:zdh (if v.w<1 then 1 else v.w) v.num=v.num
     ·rw[c,decide_eq_false (by simp),zaH,decide_eq_true rfl];rfl
     ·rw[decide_eq_true c,za0,decide_eq_false c];rfl
  obtain⟨g1,g2⟩:=zjj hok hH r (i+1) hr2 (by omega);rw[all_cons];cases hw:wdOk v with
  |true=>
   rw[hw,if_pos rfl]at hcase;rw[Bool.true_and,zah,hcase];exact⟨g1,g2⟩
  |false=>
   rw[hw,if_neg (by decide)]at hcase;refine⟨fun q=>(by cases q),fun _=>?_⟩;rw[zah,hcase];rfl
theorem c_told(hok:∀v∈L,v.Ok):∃v H',RR Be [x] B=some (.tuple #[v,.int .i64 (zfa L)],H')∧Frm (fun _=>False) B H'∧(zfa L=0→∃m,v=.map (some m)∧B.next≤m∧m<H'.next∧MapS H' m VV.val (fun s=>fndV s L)):=by
 have hr:=(zmM E0 rfl x B).trans (znl _ _ _);have t0:TS B (B.new (.map [])) B.next (fun s=>fndV s (L.take 0)):=⟨by show B.next≤B.next+1;omega,fun j hj=>by rw[get_new,if_neg (by omega)],Nat.le_refl _,by show B.next<B.next+1;omega,MapS.new B VV.val⟩
 obtain⟨H1,a1,a2,a3,a4⟩:=zjk hx hl L 0 _ rfl (Nat.zero_le _) t0;rw[take_zero,map_nil]at a3 a4;have hh:∀(n:Int) (f:Option (Value×Hp)),zeo (.int .i64 n) f=f:=fun n f=>rfl;have hm:∀(H:Hp) (f:Value→Hp→Option (Value×Hp)),zbD H f=f (.map (some H.next)) (H.new (.map [])):=fun H f=>rfl;have z0:((0:Nat):Int)=0:=rfl;rw[z0]at a3 a4;rw[hx.len,hh,hm,hx.len]at hr;unfold zfa;have fr:Frm (fun _=>False) B H1:=⟨a1,fun j hj _=>a2 j hj⟩
 cases hn:nmOk [] (L.map VV.name) with
 |false=>
  rw[a4 hn]at hr;rw[if_neg (by decide)];exact⟨_,H1,hr,fr,fun q=>absurd q (by decide)⟩
 |true=>
  obtain⟨b1,b2⟩:=a3 hn;have hx1:Rdb H1 3 x L.length (za5 L):=hx.keep' (fun j hj=>a2 j (hx.lt hj)) a1;obtain⟨c1,c2⟩:=zjj hx hl hok hx1 L 0 rfl (Nat.zero_le _);rw[z0]at c1 c2;rw[b1,zan,za6,zaC,hx.len]at hr;rw[if_pos rfl];cases hw:L.all wdOk with
  |false=>
   rw[c2 hw]at hr;rw[if_neg (by decide)];exact⟨_,H1,hr,fr,fun q=>absurd q (by decide)⟩
  |true=>
   rw[c1 hw,zan,za6,zaC]at hr;exact⟨_,H1,hr,fr,fun _=>⟨_,rfl,b2.l,b2.n,b2.map⟩⟩
end
end Go.AM.N14
namespace Go.AM
open Go
def fw(F:Int→Int)(n:Nd):List Fld→Nat→List (List UInt8)
 |[],_=>[]
 |.p::r,k=>itoa (F ([n.a,n.b,n.c].getD k 0))::fw F n r (k+1)
 |.n::r,k=>numT n.num.toNat::fw F n r k
 |.w::r,k=>itoa n.w::fw F n r k
 |.s::r,k=>n.name.data.toList::fw F n r k
def upT(n:Nat):List Int:=(List.range n).map fun (j:Nat)=>((j+1:Nat):Int)
section
end
theorem q_seqlE(a b:ByteArray)(h:(a.toList==b.toList)=true):a=b:=by
 have h:a.toList=b.toList:=by simpa using h
 rw[Go.Lib.toList_data,Go.Lib.toList_data]at h;rw[zj0 (s:=a) rfl,zj0 (s:=b) rfl,h]
theorem zog{M:List Nd}{K:List (ByteArray×Int)}{n:Nd}(h:zgU M K n):(zai n.op≥1→1≤n.a∧n.a≤M.length)∧(zai n.op<1→n.a=0)∧(zai n.op≥2→1≤n.b∧n.b≤M.length)∧(zai n.op<2→n.b=0)∧(zai n.op≥3→1≤n.c∧n.c≤M.length)∧(zai n.op<3→n.c=0) ∧
  (n.op≠3→n.op≠31→n.num=0)∧(n.op≠4→n.name=⟨#[]⟩):=by
 obtain⟨_,_,_,ha,hb,hc⟩:=zkF h.pt h.sp;have h2:=h.sp;unfold zd3 at h2;simp only[Bool.or_eq_true,Bool.and_eq_true,decide_eq_true_eq,not_or,not_and]at h2;refine⟨fun q=>zaV.1 (ha q),fun q=>?_,fun q=>zaV.1 (hb q),fun q=>?_,fun q=>zaV.1 (hc q),fun q=>?_,fun q1 q2=>?_,fun q=>?_⟩
 ·have:=h2.1.1.1.1 q;omega
 ·have:=h2.1.1.1.2 q;omega
 ·have:=h2.1.1.2 q;omega
 ·exact Decidable.byContradiction fun e=>h2.1.2 ⟨e,q1⟩ q2
 ·have hn:zl2 n=false:=by
   cases e:zl2 n with
   |false=>rfl
   |true=>exact absurd q (h2.2 e)
  unfold zl2 at hn;have he:(n.name.toList==(⟨#[]⟩:ByteArray).toList)=true:=by simpa using hn
  have h3:=q_seqlE n.name ⟨#[]⟩ he;exact h3
def KI(L:List Nd)(K:List (ByteArray×Int)):Prop:=∀s j w,zaX s 0 K=some (j,w)→∃m∈L,m.op=4∧m.name=s∧m.w=w
section
end
section
end
section
end
section
end
end Go.AM
namespace Go.AM.N14
open List Go Go.AM
theorem zf7:∀(l seen:List ByteArray),nmOk seen l=true↔(∀s∈l,zcu s=true)∧l.Nodup∧(∀s∈l,s∉seen)
 |[],seen=>by
  unfold nmOk;simp
 |s::r,seen=>by
  have ih:=zf7 r (seen++[s]);have ha:(seen.any fun t=>s==t)=true↔s∈seen:=by
   rw[any_eq_true];constructor
   ·rintro⟨t,ht,q⟩;rw[(zc9 s t).1 q];exact ht
   ·intro h;exact⟨s,h,(zc9 s s).2 rfl⟩
  unfold nmOk;by_cases h:((seen.any fun t=>s==t)||!zcu s)=true
  ·rw[if_pos h];refine⟨fun q=>(by cases q),fun⟨q1,_,q3⟩=>?_⟩;rw[Bool.or_eq_true]at h;rcases h with h|h
   ·exact absurd (ha.1 h) (q3 s (mem_cons_self ..))
   ·have:=q1 s (mem_cons_self ..);rw[this]at h;cases h
  ·rw[if_neg h,ih];rw[Bool.or_eq_true,not_or]at h;have hs:s∉seen:=fun q=>h.1 (ha.2 q);have hk:zcu s=true:=by
    cases q:zcu s with
    |true=>rfl
    |false=>exact absurd (by rw[q];rfl) h.2
   constructor
   ·rintro⟨q1,q2,q3⟩
    refine⟨fun t ht=>?_,nodup_cons.2 ⟨fun q=>q3 s q (mem_append_right _ (mem_singleton.2 rfl)),q2⟩,fun t ht=>?_⟩
    ·rcases mem_cons.1 ht with e|e
     ·rw[e];exact hk
     ·exact q1 t e
    ·rcases mem_cons.1 ht with e|e
     ·rw[e];exact hs
     ·exact fun q=>q3 t e (mem_append_left _ q)
   ·rintro⟨q1,q2,q3⟩
    obtain⟨n1,n2⟩:=nodup_cons.1 q2;refine⟨fun t ht=>q1 t (mem_cons_of_mem _ ht),n2,fun t ht q=>?_⟩;rcases mem_append.1 q with e|e
    ·exact q3 t (mem_cons_of_mem _ ht) e
    ·rw[mem_singleton]at e;rw[e]at ht;exact n1 ht
theorem znE{L:List Nd}{K:List (ByteArray×Int)}(hg:zbZ L K){m u:Nd}(hm:m∈L)(hu:u∈L)(m4:m.op=4)(u4:u.op=4)(e:m.name=u.name):m=u:=by
 obtain⟨j,k1⟩:=hg.kn m hm m4;obtain⟨i,k2⟩:=hg.kn u hu u4;rw[e,k2]at k1;have hw:=congrArg Prod.snd (Option.some.inj k1);have one:∀x:Nd,x∈L→x.op=4→x.a=0∧x.b=0∧x.c=0∧x.num=0:=fun x hx x4=>by
  obtain⟨_,pa,_,pb,_,pc,pn,_⟩:=zog (hg.rt x hx);have hp:zai x.op=0:=by rw[x4];rfl
  exact⟨pa (by omega),pb (by omega),pc (by omega),pn (by omega) (by omega)⟩
 obtain⟨a1,a2,a3,a4⟩:=one m hm m4;obtain⟨b1,b2,b3,b4⟩:=one u hu u4;cases m;cases u;simp only[Nd.mk.injEq];dsimp only at *;exact⟨by rw[m4,u4],by rw[hw],by rw[a1,b1],by rw[a2,b2],by rw[a3,b3],by rw[a4,b4],e⟩
def isV(L:List Nd)(t:Nat):Option VV:=match L[t-1]? with
 |some n=>if n.op=4 then some ⟨n.name,n.w,0⟩ else none
 |none=>none
theorem zhD{L:List Nd}{t:Nat}{v:VV}(h:isV L t=some v):∃n,L[t-1]?=some n∧n.op=4∧v=⟨n.name,n.w,0⟩:=by
 unfold isV at h;cases hq:L[t-1]? with
 |none=>rw[hq]at h;cases h
 |some n=>
  rw[hq]at h;dsimp only at h;split at h
  ·rename_i h4;cases h;exact⟨n,rfl,h4,rfl⟩
  ·cases h
theorem zoO{L:List Nd}{K:List (ByteArray×Int)}(hg:zbZ L K):∀(O:List Nat),O.Nodup→(∀t∈O,1≤t∧t≤L.length)→nmOk [] ((O.filterMap (isV L)).map VV.name)=true:=by
 intro O hn hb;rw[zf7];refine⟨fun s hs=>?_,?_,fun s _ q=>by cases q⟩
 ·obtain⟨v,hv,rfl⟩:=mem_map.1 hs;obtain⟨t,ht,q⟩:=mem_filterMap.1 hv;obtain⟨n,h1,h4,rfl⟩:=zhD q;exact(zhH ((hg.rt n (mem_of_getElem? h1)).free h4)).1
 ·induction O with
  |nil=>exact nodup_nil
  |cons t r ih=>
   obtain⟨n1,n2⟩:=nodup_cons.1 hn;have ih:=ih n2 fun x hx=>hb x (mem_cons_of_mem _ hx);rw[filterMap_cons];cases hq:isV L t with
   |none=>exact ih
   |some v=>
    dsimp only;rw[map_cons];refine nodup_cons.2 ⟨fun q=>?_,ih⟩;obtain⟨u,hu,e⟩:=mem_map.1 q;obtain⟨x,hx,q2⟩:=mem_filterMap.1 hu;obtain⟨n,a1,a4,rfl⟩:=zhD hq;obtain⟨m,b1,b4,rfl⟩:=zhD q2;have hs:=znE hg (mem_of_getElem? a1) (mem_of_getElem? b1) a4 b4 e.symm;rw[←hs]at b1;have:=hg.nod _ _ _ a1 b1;have h1:=hb t (mem_cons_self ..);have h2:=hb x (mem_cons_of_mem _ hx);have:t=x:=by omega
    rw[this]at n1;exact n1 hx
theorem zkb(L:List Nd)(ns:List Nat):zbe L ns=(posts L ns []).filterMap (isV L):=rfl
def cutW(w x:Int):Int:=zdh (if w<1 then 1 else w) x
def zaO(nums:List Int):Nat→List VV→List VV
 |_,[]=>[]
 |i,v::r=>{ v with num:=cutW v.w (if nums=[] then 0 else nums.getD (i%nums.length) 0) }::zaO nums (i+1) r
theorem zfL(nums:List Int):∀(Tv:List VV) (i:Nat),(zaO nums i Tv).map VV.name=Tv.map VV.name
 |[],i=>rfl
 |v::r,i=>by unfold zaO;rw[map_cons,map_cons,zfL nums r (i+1)]
theorem trim_trim(w x:Int)(hx:0≤x):zdh w (zdh w x)=zdh w x:=by
 unfold zdh;by_cases h1:w<1
 ·simp only[h1,if_true]
 ·by_cases h2:w≥64
  ·simp only[h1,h2,if_true,if_false]
  ·simp only[h1,h2,if_false];rw[Int.emod_emod_of_dvd _ (Int.dvd_refl _)]
theorem zoE(nums:List Int)(hnn:∀x∈nums,0≤x):∀(Tv:List VV) (i:Nat),(∀v∈Tv,0≤v.w∧v.w≤64)→(zaO nums i Tv).all wdOk=true
 |[],i,_=>rfl
 |v::r,i,h=>by
  unfold zaO;rw[all_cons,zoE nums hnn r (i+1) fun x hx=>h x (mem_cons_of_mem _ hx),Bool.and_true];have hv:=h v (mem_cons_self ..);unfold wdOk cutW;dsimp only;have hx:0≤(if nums=[] then 0 else nums.getD (i%nums.length) 0):=by
   split
   ·exact Int.le_refl _
   ·rw[getD_eq_getElem?_getD];cases q:nums[i%nums.length]? with
    |none=>exact Int.le_refl _
    |some x=>exact hnn x (mem_of_getElem? q)
  rw[trim_trim _ _ hx,decide_eq_true hv.1,decide_eq_true hv.2,decide_eq_true rfl];rfl
end Go.AM.N14
namespace Go.AM.N14
open Go Go.AM
section
end
abbrev F0:Fct:=⟨0,0#64,0#64,0#64,0#64⟩
section
end
section
end
section
end
section
end
end Go.AM.N14
namespace Go.AM.N14
open Go Go.AM Go.ChangeShapes Go.WideShapes Go.ChangeAt Go.RowKit
end Go.AM.N14
namespace Go.AM.N14
open Go Go.AM
def zcp(n:Nd)(a b c:Int):Bool:=
 if n.op≤2 then decide (n.w=0) else if n.op=3 then decide (n.w>0)&&decide (n.num≤((msk (wd n.w)).toNat:Int)) else if n.op=4 then true else if n.op=5 then decide (n.w=0)&&decide (a=0) else if n.op≤8 then decide (n.w=0)&&(decide (a=0)&&decide (b=0)) else if n.op=9 then decide (n.w=0)&&decide (a=b) else if n.op≤13 then decide (n.w=0)&&(decide (a>0)&&decide (a=b)) else if n.op=14 then decide (a=0)&&(decide (b=c)&&decide (n.w=b))
 else if n.op≤16 then decide (a>0)&&decide (n.w=a) else if n.op≤24 then decide (a>0)&&(decide (a=b)&&decide (n.w=a)) else if n.op≤29 then decide (a>0)&&(decide (a=b)&&(decide (n.w=a)&&isPow a)) else if n.op=30 then decide (a>0)&&(decide (b>0)&&decide (n.w=a+b)) else if n.op=31 then decide (a>0)&&(decide (n.w≥1)&&(decide (n.w≤a)&&decide (n.num≤a-n.w))) else decide (a>0)&&decide (n.w≥a)
def zgV(n:Nd)(a b c:Int):Bool:=if n.num≠0∧n.op≠3∧n.op≠31 then false else zcp n a b c
structure Parted(L:List Nd)(n:Nd)(a b c:Int):Prop where
 a:(zai n.op≥1∧isT L n.a=true∧wT L (-1) n.a=a)∨(zai n.op<1∧n.a=0∧a=0)
 b:(zai n.op≥2∧isT L n.b=true∧wT L (-1) n.b=b)∨(zai n.op<2∧n.b=0∧b=0)
 c:(zai n.op≥3∧isT L n.c=true∧wT L (-1) n.c=c)∨(zai n.op<3∧n.c=0∧c=0)
theorem trim_iff{n:Nd}(hw:0<n.w∧n.w≤64)(hnum:0≤n.num∧n.num<18446744073709551616):decide (zdh n.w n.num=n.num)=decide (n.num≤((msk (wd n.w)).toNat:Int)):=by
 have e1:wd n.w=n.w.toNat:=by unfold wd;omega
 rw[e1,zkN _ (by omega)];unfold zdh;rw[if_neg (by omega)];by_cases h64:n.w≥64
 ·have:n.w.toNat=64:=by omega
  rw[if_pos h64,this,decide_eq_true rfl,decide_eq_true (by omega)]
 ·rw[if_neg h64];have hp:0<2^n.w.toNat:=Nat.two_pow_pos _;have ep:((2:Int)^n.w.toNat)=((2^n.w.toNat:Nat):Int):=by push_cast;rfl
  rw[ep];generalize 2^n.w.toNat=m at *;have:(n.num%(m:Int)=n.num)↔n.num≤((m-1:Nat):Int):=by
   constructor
   ·intro h;have:=Int.emod_lt_of_pos n.num (show (0:Int)<(m:Int) by omega);omega
   ·intro h;exact Int.emod_eq_of_lt hnum.1 (by omega)
  exact decide_eq_decide.2 this
theorem checks{n:Nd}(ho:1≤n.op∧n.op≤33)(h4:n.op≠4)(hw:0≤n.w∧n.w≤64)(hnum:0≤n.num∧n.num<18446744073709551616){L:List Nd}{a b c:Int}(hp:Parted L n a b c) :
  (zbz n.op (wT L (-1) n.a) (wT L (-1) n.b) (wT L (-1) n.c)&&zbO n (wT L (-1) n.a) (wT L (-1) n.b))=zcp n a b c:=by
 have pa:=hp.a;have pb:=hp.b;have pc:=hp.c;by_cases g1:1≤n.op∧n.op≤2
 ·have hk:zai n.op=0:=by unfold zai;rw[if_pos (by omega)]
  rw[hk]at pa pb pc;unfold zbz zbO zcp;rw[if_pos (show zai n.op=0 by omega),if_pos (show n.op=1∨n.op=2∨(5≤n.op∧n.op≤13) by omega),if_pos (show n.op≤2 by omega)];rw[Bool.true_and]
 by_cases g3:n.op=3
 ·have hk:zai n.op=0:=by unfold zai;rw[if_pos (by omega)]
  rw[hk]at pa pb pc;unfold zbz zbO zcp;rw[if_pos (show zai n.op=0 by omega),if_neg (show ¬(n.op=1∨n.op=2∨(5≤n.op∧n.op≤13)) by omega),if_pos (show n.op=3 by omega),if_neg (show ¬n.op≤2 by omega),if_pos (show n.op=3 by omega)];by_cases q:n.w>0
  ·rw[trim_iff ⟨q,hw.2⟩ hnum,Bool.true_and]
  ·rw[decide_eq_false q];rfl
 by_cases g5:n.op=5
 ·have hk:zai n.op=1:=by unfold zai;rw[if_neg (by omega),if_pos (by omega)]
  rw[hk]at pa pb pc;have ea:wT L (-1) n.a=a:=by rcases pa with⟨_,_,q⟩|⟨q,_,_⟩;exact q;exact absurd q (by decide)
  unfold zbz zbO zcp;rw[ea];rw[if_neg (show ¬(zai n.op=0) by omega),if_pos (show n.op=5 by omega),if_pos (show n.op=1∨n.op=2∨(5≤n.op∧n.op≤13) by omega),if_neg (show ¬n.op≤2 by omega),if_neg (show ¬n.op=3 by omega),if_neg (show ¬n.op=4 by omega),if_pos (show n.op=5 by omega)]
  ac_rfl
 by_cases g6:6≤n.op∧n.op≤8
 ·have hk:zai n.op=2:=by unfold zai;rw[if_neg (by omega),if_neg (by omega),if_neg (by omega)]
  rw[hk]at pa pb pc;have ea:wT L (-1) n.a=a:=by rcases pa with⟨_,_,q⟩|⟨q,_,_⟩;exact q;exact absurd q (by decide)
  have eb:wT L (-1) n.b=b:=by rcases pb with⟨_,_,q⟩|⟨q,_,_⟩;exact q;exact absurd q (by decide)
  unfold zbz zbO zcp;rw[ea,eb];rw[if_neg (show ¬(zai n.op=0) by omega),if_neg (show ¬(n.op=5) by omega),if_pos (show n.op=6∨n.op=7∨n.op=8 by omega),if_pos (show n.op=1∨n.op=2∨(5≤n.op∧n.op≤13) by omega),if_neg (show ¬n.op≤2 by omega),if_neg (show ¬n.op=3 by omega),if_neg (show ¬n.op=4 by omega),if_neg (show ¬n.op=5 by omega),if_pos (show n.op≤8 by omega)]
  ac_rfl
 by_cases g9:n.op=9
 ·have hk:zai n.op=2:=by unfold zai;rw[if_neg (by omega),if_neg (by omega),if_neg (by omega)]
  rw[hk]at pa pb pc;have ea:wT L (-1) n.a=a:=by rcases pa with⟨_,_,q⟩|⟨q,_,_⟩;exact q;exact absurd q (by decide)
  have eb:wT L (-1) n.b=b:=by rcases pb with⟨_,_,q⟩|⟨q,_,_⟩;exact q;exact absurd q (by decide)
  unfold zbz zbO zcp;rw[ea,eb];rw[if_neg (show ¬(zai n.op=0) by omega),if_neg (show ¬(n.op=5) by omega),if_neg (show ¬(n.op=6∨n.op=7∨n.op=8) by omega),if_pos (show n.op=9 by omega),if_pos (show n.op=1∨n.op=2∨(5≤n.op∧n.op≤13) by omega),if_neg (show ¬n.op≤2 by omega),if_neg (show ¬n.op=3 by omega),if_neg (show ¬n.op=4 by omega),if_neg (show ¬n.op=5 by omega),if_neg (show ¬n.op≤8 by omega),if_pos (show n.op=9 by omega)]
  ac_rfl
 by_cases g10:10≤n.op∧n.op≤13
 ·have hk:zai n.op=2:=by unfold zai;rw[if_neg (by omega),if_neg (by omega),if_neg (by omega)]
  rw[hk]at pa pb pc;have ea:wT L (-1) n.a=a:=by rcases pa with⟨_,_,q⟩|⟨q,_,_⟩;exact q;exact absurd q (by decide)
  have eb:wT L (-1) n.b=b:=by rcases pb with⟨_,_,q⟩|⟨q,_,_⟩;exact q;exact absurd q (by decide)
  unfold zbz zbO zcp;rw[ea,eb];rw[if_neg (show ¬(zai n.op=0) by omega),if_neg (show ¬(n.op=5) by omega),if_neg (show ¬(n.op=6∨n.op=7∨n.op=8) by omega),if_neg (show ¬(n.op=9) by omega),if_neg (show ¬(n.op=14) by omega),if_neg (show ¬(n.op=30) by omega),if_neg (show ¬(zai n.op=1) by omega),if_pos (show n.op=1∨n.op=2∨(5≤n.op∧n.op≤13) by omega),if_neg (show ¬n.op≤2 by omega),if_neg (show ¬n.op=3 by omega),if_neg (show ¬n.op=4 by omega),if_neg (show ¬n.op=5 by omega),if_neg (show ¬n.op≤8 by omega),if_neg (show ¬n.op=9 by omega),if_pos (show n.op≤13 by omega)]
  ac_rfl
 by_cases g14:n.op=14
 ·have hk:zai n.op=3:=by unfold zai;rw[if_neg (by omega),if_neg (by omega),if_pos (by omega)]
  rw[hk]at pa pb pc;have ea:wT L (-1) n.a=a:=by rcases pa with⟨_,_,q⟩|⟨q,_,_⟩;exact q;exact absurd q (by decide)
  have eb:wT L (-1) n.b=b:=by rcases pb with⟨_,_,q⟩|⟨q,_,_⟩;exact q;exact absurd q (by decide)
  have ec:wT L (-1) n.c=c:=by rcases pc with⟨_,_,q⟩|⟨q,_,_⟩;exact q;exact absurd q (by decide)
  unfold zbz zbO zcp;rw[ea,eb,ec];rw[if_neg (show ¬(zai n.op=0) by omega),if_neg (show ¬(n.op=5) by omega),if_neg (show ¬(n.op=6∨n.op=7∨n.op=8) by omega),if_neg (show ¬(n.op=9) by omega),if_pos (show n.op=14 by omega),if_neg (show ¬(n.op=1∨n.op=2∨(5≤n.op∧n.op≤13)) by omega),if_neg (show ¬(n.op=3) by omega),if_neg (show ¬(n.op=4) by omega),if_pos (show n.op=14 by omega),if_neg (show ¬n.op≤2 by omega),if_neg (show ¬n.op=3 by omega),if_neg (show ¬n.op=4 by omega),if_neg (show ¬n.op=5 by omega),if_neg (show ¬n.op≤8 by omega),if_neg (show ¬n.op=9 by omega),if_neg (show ¬n.op≤13 by omega),if_pos (show n.op=14 by omega)]
  ac_rfl
 by_cases g15:15≤n.op∧n.op≤16
 ·have hk:zai n.op=1:=by unfold zai;rw[if_neg (by omega),if_pos (by omega)]
  rw[hk]at pa pb pc;have ea:wT L (-1) n.a=a:=by rcases pa with⟨_,_,q⟩|⟨q,_,_⟩;exact q;exact absurd q (by decide)
  unfold zbz zbO zcp;rw[ea];rw[if_neg (show ¬(zai n.op=0) by omega),if_neg (show ¬(n.op=5) by omega),if_neg (show ¬(n.op=6∨n.op=7∨n.op=8) by omega),if_neg (show ¬(n.op=9) by omega),if_neg (show ¬(n.op=14) by omega),if_neg (show ¬(n.op=30) by omega),if_pos (show zai n.op=1 by omega),if_neg (show ¬(n.op=1∨n.op=2∨(5≤n.op∧n.op≤13)) by omega),if_neg (show ¬(n.op=3) by omega),if_neg (show ¬(n.op=4) by omega),if_neg (show ¬(n.op=14) by omega),if_neg (show ¬(25≤n.op∧n.op≤29) by omega),if_neg (show ¬(n.op=30) by omega),if_neg (show ¬(n.op=31) by omega),if_neg (show ¬(n.op=32∨n.op=33) by omega),if_neg (show ¬n.op≤2 by omega),if_neg (show ¬n.op=3 by omega),if_neg (show ¬n.op=4 by omega),if_neg (show ¬n.op=5 by omega),if_neg (show ¬n.op≤8 by omega),if_neg (show ¬n.op=9 by omega),if_neg (show ¬n.op≤13 by omega),if_neg (show ¬n.op=14 by omega),if_pos (show n.op≤16 by omega)]
 by_cases g17:17≤n.op∧n.op≤24
 ·have hk:zai n.op=2:=by unfold zai;rw[if_neg (by omega),if_neg (by omega),if_neg (by omega)]
  rw[hk]at pa pb pc;have ea:wT L (-1) n.a=a:=by rcases pa with⟨_,_,q⟩|⟨q,_,_⟩;exact q;exact absurd q (by decide)
  have eb:wT L (-1) n.b=b:=by rcases pb with⟨_,_,q⟩|⟨q,_,_⟩;exact q;exact absurd q (by decide)
  unfold zbz zbO zcp;rw[ea,eb];rw[if_neg (show ¬(zai n.op=0) by omega),if_neg (show ¬(n.op=5) by omega),if_neg (show ¬(n.op=6∨n.op=7∨n.op=8) by omega),if_neg (show ¬(n.op=9) by omega),if_neg (show ¬(n.op=14) by omega),if_neg (show ¬(n.op=30) by omega),if_neg (show ¬(zai n.op=1) by omega),if_neg (show ¬(n.op=1∨n.op=2∨(5≤n.op∧n.op≤13)) by omega),if_neg (show ¬(n.op=3) by omega),if_neg (show ¬(n.op=4) by omega),if_neg (show ¬(n.op=14) by omega),if_neg (show ¬(25≤n.op∧n.op≤29) by omega),if_neg (show ¬(n.op=30) by omega),if_neg (show ¬(n.op=31) by omega),if_neg (show ¬(n.op=32∨n.op=33) by omega),if_neg (show ¬n.op≤2 by omega),if_neg (show ¬n.op=3 by omega),if_neg (show ¬n.op=4 by omega),if_neg (show ¬n.op=5 by omega),if_neg (show ¬n.op≤8 by omega),if_neg (show ¬n.op=9 by omega),if_neg (show ¬n.op≤13 by omega),if_neg (show ¬n.op=14 by omega),if_neg (show ¬n.op≤16 by omega),if_pos (show n.op≤24 by omega)]
  ac_rfl
 by_cases g25:25≤n.op∧n.op≤29
 ·have hk:zai n.op=2:=by unfold zai;rw[if_neg (by omega),if_neg (by omega),if_neg (by omega)]
  rw[hk]at pa pb pc;have ea:wT L (-1) n.a=a:=by rcases pa with⟨_,_,q⟩|⟨q,_,_⟩;exact q;exact absurd q (by decide)
  have eb:wT L (-1) n.b=b:=by rcases pb with⟨_,_,q⟩|⟨q,_,_⟩;exact q;exact absurd q (by decide)
  unfold zbz zbO zcp;rw[ea,eb];rw[if_neg (show ¬(zai n.op=0) by omega),if_neg (show ¬(n.op=5) by omega),if_neg (show ¬(n.op=6∨n.op=7∨n.op=8) by omega),if_neg (show ¬(n.op=9) by omega),if_neg (show ¬(n.op=14) by omega),if_neg (show ¬(n.op=30) by omega),if_neg (show ¬(zai n.op=1) by omega),if_neg (show ¬(n.op=1∨n.op=2∨(5≤n.op∧n.op≤13)) by omega),if_neg (show ¬(n.op=3) by omega),if_neg (show ¬(n.op=4) by omega),if_neg (show ¬(n.op=14) by omega),if_pos (show 25≤n.op∧n.op≤29 by omega),if_neg (show ¬n.op≤2 by omega),if_neg (show ¬n.op=3 by omega),if_neg (show ¬n.op=4 by omega),if_neg (show ¬n.op=5 by omega),if_neg (show ¬n.op≤8 by omega),if_neg (show ¬n.op=9 by omega),if_neg (show ¬n.op≤13 by omega),if_neg (show ¬n.op=14 by omega),if_neg (show ¬n.op≤16 by omega),if_neg (show ¬n.op≤24 by omega),if_pos (show n.op≤29 by omega)]
  ac_rfl
 by_cases g30:n.op=30
 ·have hk:zai n.op=2:=by unfold zai;rw[if_neg (by omega),if_neg (by omega),if_neg (by omega)]
  rw[hk]at pa pb pc;have ea:wT L (-1) n.a=a:=by rcases pa with⟨_,_,q⟩|⟨q,_,_⟩;exact q;exact absurd q (by decide)
  have eb:wT L (-1) n.b=b:=by rcases pb with⟨_,_,q⟩|⟨q,_,_⟩;exact q;exact absurd q (by decide)
  unfold zbz zbO zcp;rw[ea,eb];rw[if_neg (show ¬(zai n.op=0) by omega),if_neg (show ¬(n.op=5) by omega),if_neg (show ¬(n.op=6∨n.op=7∨n.op=8) by omega),if_neg (show ¬(n.op=9) by omega),if_neg (show ¬(n.op=14) by omega),if_pos (show n.op=30 by omega),if_neg (show ¬(n.op=1∨n.op=2∨(5≤n.op∧n.op≤13)) by omega),if_neg (show ¬(n.op=3) by omega),if_neg (show ¬(n.op=4) by omega),if_neg (show ¬(n.op=14) by omega),if_neg (show ¬(25≤n.op∧n.op≤29) by omega),if_pos (show n.op=30 by omega),if_neg (show ¬n.op≤2 by omega),if_neg (show ¬n.op=3 by omega),if_neg (show ¬n.op=4 by omega),if_neg (show ¬n.op=5 by omega),if_neg (show ¬n.op≤8 by omega),if_neg (show ¬n.op=9 by omega),if_neg (show ¬n.op≤13 by omega),if_neg (show ¬n.op=14 by omega),if_neg (show ¬n.op≤16 by omega),if_neg (show ¬n.op≤24 by omega),if_neg (show ¬n.op≤29 by omega),if_pos (show n.op=30 by omega)]
  ac_rfl
 by_cases g31:n.op=31
 ·have hk:zai n.op=1:=by unfold zai;rw[if_neg (by omega),if_pos (by omega)]
  rw[hk]at pa pb pc;have ea:wT L (-1) n.a=a:=by rcases pa with⟨_,_,q⟩|⟨q,_,_⟩;exact q;exact absurd q (by decide)
  unfold zbz zbO zcp;rw[ea];rw[if_neg (show ¬(zai n.op=0) by omega),if_neg (show ¬(n.op=5) by omega),if_neg (show ¬(n.op=6∨n.op=7∨n.op=8) by omega),if_neg (show ¬(n.op=9) by omega),if_neg (show ¬(n.op=14) by omega),if_neg (show ¬(n.op=30) by omega),if_pos (show zai n.op=1 by omega),if_neg (show ¬(n.op=1∨n.op=2∨(5≤n.op∧n.op≤13)) by omega),if_neg (show ¬(n.op=3) by omega),if_neg (show ¬(n.op=4) by omega),if_neg (show ¬(n.op=14) by omega),if_neg (show ¬(25≤n.op∧n.op≤29) by omega),if_neg (show ¬(n.op=30) by omega),if_pos (show n.op=31 by omega),if_neg (show ¬n.op≤2 by omega),if_neg (show ¬n.op=3 by omega),if_neg (show ¬n.op=4 by omega),if_neg (show ¬n.op=5 by omega),if_neg (show ¬n.op≤8 by omega),if_neg (show ¬n.op=9 by omega),if_neg (show ¬n.op≤13 by omega),if_neg (show ¬n.op=14 by omega),if_neg (show ¬n.op≤16 by omega),if_neg (show ¬n.op≤24 by omega),if_neg (show ¬n.op≤29 by omega),if_neg (show ¬n.op=30 by omega),if_pos (show n.op=31 by omega)]
  ac_rfl
 have hk:zai n.op=1:=by unfold zai;rw[if_neg (by omega),if_pos (by omega)]
 rw[hk]at pa pb pc;have ea:wT L (-1) n.a=a:=by rcases pa with⟨_,_,q⟩|⟨q,_,_⟩;exact q;exact absurd q (by decide)
 unfold zbz zbO zcp;rw[ea];rw[if_neg (show ¬(zai n.op=0) by omega),if_neg (show ¬(n.op=5) by omega),if_neg (show ¬(n.op=6∨n.op=7∨n.op=8) by omega),if_neg (show ¬(n.op=9) by omega),if_neg (show ¬(n.op=14) by omega),if_neg (show ¬(n.op=30) by omega),if_pos (show zai n.op=1 by omega),if_neg (show ¬(n.op=1∨n.op=2∨(5≤n.op∧n.op≤13)) by omega),if_neg (show ¬(n.op=3) by omega),if_neg (show ¬(n.op=4) by omega),if_neg (show ¬(n.op=14) by omega),if_neg (show ¬(25≤n.op∧n.op≤29) by omega),if_neg (show ¬(n.op=30) by omega),if_neg (show ¬(n.op=31) by omega),if_pos (show n.op=32∨n.op=33 by omega),if_neg (show ¬n.op≤2 by omega),if_neg (show ¬n.op=3 by omega),if_neg (show ¬n.op=4 by omega),if_neg (show ¬n.op=5 by omega),if_neg (show ¬n.op≤8 by omega),if_neg (show ¬n.op=9 by omega),if_neg (show ¬n.op≤13 by omega),if_neg (show ¬n.op=14 by omega),if_neg (show ¬n.op≤16 by omega),if_neg (show ¬n.op≤24 by omega),if_neg (show ¬n.op≤29 by omega),if_neg (show ¬n.op=30 by omega),if_neg (show ¬n.op=31 by omega)]
theorem shape_iff{n:Nd}(ho:1≤n.op∧n.op≤33)(h4:n.op≠4)(hw:0≤n.w∧n.w≤64)(hnum:0≤n.num∧n.num<18446744073709551616)(hnm:zl2 n=false){L:List Nd}{K:List (ByteArray×Int)}{a b c:Int}(hp:Parted L n a b c):zcB L K n=0↔zgV n a b c=true:=by
 rw[zeM];have hc:=checks ho h4 hw hnum hp;have pa:=hp.a;have pb:=hp.b;have pc:=hp.c;have hsp:zd3 (zai n.op) n=decide (n.num≠0∧n.op≠3∧n.op≠31):=by
  unfold zd3;rw[hnm,Bool.false_and,Bool.or_false];have e1:(decide (zai n.op<1)&&decide (n.a≠0))=false:=by
   rcases pa with⟨q,_,_⟩|⟨_,q,_⟩
   ·rw[decide_eq_false (by omega)];rfl
   ·rw[q];simp
  have e2:(decide (zai n.op<2)&&decide (n.b≠0))=false:=by
   rcases pb with⟨q,_,_⟩|⟨_,q,_⟩
   ·rw[decide_eq_false (by omega)];rfl
   ·rw[q];simp
  have e3:(decide (zai n.op<3)&&decide (n.c≠0))=false:=by
   rcases pc with⟨q,_,_⟩|⟨_,q,_⟩
   ·rw[decide_eq_false (by omega)];rfl
   ·rw[q];simp
  rw[e1,e2,e3];simp only[Bool.false_or];by_cases q1:n.num≠0<;>by_cases q2:n.op≠3<;>by_cases q3:n.op≠31<;>simp[q1,q2,q3]
 have hpt:zbP L n=false:=by
  unfold zbP;have e1:(decide (zai n.op≥1)&&!isT L n.a)=false:=by
   rcases pa with⟨_,q,_⟩|⟨q,_,_⟩
   ·rw[q];simp
   ·rw[decide_eq_false (by omega)];rfl
  have e2:(decide (zai n.op≥2)&&!isT L n.b)=false:=by
   rcases pb with⟨_,q,_⟩|⟨q,_,_⟩
   ·rw[q];simp
   ·rw[decide_eq_false (by omega)];rfl
  have e3:(decide (zai n.op≥3)&&!isT L n.c)=false:=by
   rcases pc with⟨_,q,_⟩|⟨q,_,_⟩
   ·rw[q];simp
   ·rw[decide_eq_false (by omega)];rfl
  rw[e1,e2,e3];rfl
 unfold zgV;by_cases hq:n.num≠0∧n.op≠3∧n.op≠31
 ·rw[if_pos hq];rw[decide_eq_true hq]at hsp;exact⟨fun h=>absurd hsp h.sp,fun h=>absurd h (by decide)⟩
 ·rw[if_neg hq,←hc];rw[decide_eq_false hq]at hsp;constructor
  ·intro h;have h1:=h.so;have h2:=h.wi;rw[Bool.not_eq_false]at h1 h2;rw[h1,h2];rfl
  ·intro h;rw[Bool.and_eq_true]at h;exact⟨by omega,by omega,by rw[hpt];decide,by rw[hsp];decide,by rw[h.1];decide,by rw[h.2];decide,fun q=>h4 q.1⟩
def lv(i:Nat):List Value:=[.int .i64 (if 0<i then 1 else 0),.int .i64 (if 1<i then 2 else 0),.int .i64 (if 2<i then 3 else 0)]
theorem vok_of{n:Nd}(ho:1≤n.op∧n.op≤33)(h4:n.op≠4)(hw:0≤n.w∧n.w≤64)(hnum:0≤n.num∧n.num<18446744073709551616){wa wb:Nat}{c:Int}(hwa:wa≤64)(hwb:wb≤64){a b:W64}
  (ha:wa=0→a.toNat≤1) (hb:wb=0→b.toNat≤1) (hs:zgV n (wa:Int) (wb:Int) c=true):Vok n wa wb a b:=by
 have hB:zcp n (wa:Int) (wb:Int) c=true:=by
  unfold zgV at hs;split at hs
  ·cases hs
  ·exact hs
 unfold zcp at hB;refine⟨⟨ho.1,ho.2,h4⟩,hnum,fun q1 q2=>?_,fun q1 q2=>?_,fun q1 q2=>?_,fun q1 q2=>?_,fun q1=>?_,fun q1=>?_,fun q1=>?_⟩
 ·rw[if_neg (by omega),if_neg (by omega),if_neg (by omega),if_neg (by omega),if_pos q2]at hB;simp only[Bool.and_eq_true,decide_eq_true_eq]at hB;exact⟨ha (by omega),hb (by omega)⟩
 ·rw[if_neg (by omega),if_neg (by omega),if_neg (by omega),if_neg (by omega),if_neg (by omega),if_neg (by omega),if_pos q2]at hB;simp only[Bool.and_eq_true,decide_eq_true_eq]at hB;omega
 ·rw[if_neg (by omega),if_neg (by omega),if_neg (by omega),if_neg (by omega),if_neg (by omega),if_neg (by omega),if_neg (by omega),if_neg (by omega)]at hB;by_cases g1:n.op≤16
  ·rw[if_pos g1]at hB;simp only[Bool.and_eq_true,decide_eq_true_eq]at hB;omega
  rw[if_neg g1]at hB;by_cases g2:n.op≤24
  ·rw[if_pos g2]at hB;simp only[Bool.and_eq_true,decide_eq_true_eq]at hB;omega
  rw[if_neg g2,if_pos q2]at hB;simp only[Bool.and_eq_true,decide_eq_true_eq]at hB;omega
 ·rw[if_neg (by omega),if_neg (by omega),if_neg (by omega),if_neg (by omega),if_neg (by omega),if_neg (by omega),if_neg (by omega),if_neg (by omega),if_neg (by omega),if_neg (by omega),if_pos q2]at hB;simp only[Bool.and_eq_true,decide_eq_true_eq]at hB;exact hB.2.2.2
 ·rw[if_neg (by omega),if_neg (by omega),if_neg (by omega),if_neg (by omega),if_neg (by omega),if_neg (by omega),if_neg (by omega),if_neg (by omega),if_neg (by omega),if_neg (by omega),if_neg (by omega),if_pos q1]at hB;simp only[Bool.and_eq_true,decide_eq_true_eq]at hB;omega
 ·rw[if_neg (by omega),if_neg (by omega),if_neg (by omega),if_neg (by omega),if_neg (by omega),if_neg (by omega),if_neg (by omega),if_neg (by omega),if_neg (by omega),if_neg (by omega),if_neg (by omega),if_neg (by omega),if_pos q1]at hB;simp only[Bool.and_eq_true,decide_eq_true_eq]at hB;omega
 ·rw[if_neg (by omega),if_neg (by omega),if_neg (by omega),if_neg (by omega),if_neg (by omega),if_neg (by omega),if_neg (by omega),if_neg (by omega),if_neg (by omega),if_neg (by omega),if_neg (by omega),if_neg (by omega),if_neg (by omega)]at hB;simp only[Bool.and_eq_true,decide_eq_true_eq]at hB;omega
end Go.AM.N14
namespace Go.AM
open List Go
def mapU(A:List (Int×Int)):List (Value×Value):=A.map fun x=>(.int .i64 x.1,.int .u64 x.2)
def MapU(H:Hp)(m:Nat)(F:Int→Int):Prop:=∃A,H.get m=some (.map (mapU A))∧∀t,F t=((lkI t 0 A).map Prod.snd).getD 0
theorem findU{P:Program}{kt:TypeId}(hk:zi5 P kt)(t:Int):∀(A:List (Int×Int)) (i:Nat),zet P kt (.int .i64 t) (mapU A) i=some ((lkI t i A).map fun q=>(q.1,.int .u64 q.2))
 |[],i=>rfl
 |(u,w)::r,i=>by
  show (match eqT P 10000 kt (.int .i64 t) (.int .i64 u) with|some true=>some (some (i,Value.int .u64 w))|some false=>zet P kt (.int .i64 t) (mapU r) (i+1)|none=>none)=_;rw[hk.eq];unfold lkI;by_cases h:t=u
  ·rw[if_pos h,show (t==u)=true by simpa using h];rfl
  ·rw[if_neg h,show (t==u)=false by simpa using h];exact findU hk t r (i+1)
theorem MapU.look{P:Program}{kt:TypeId}(hk:zi5 P kt){H:Hp}{m:Nat}{F:Int→Int}(h:MapU H m F)(t:Int){α:Type}(k:Value→Option α):za7 P kt (.int .u64 0) (.map (some m)) (.int .i64 t) false H k=k (.int .u64 (F t)):=by obtain⟨A,h1,h2⟩:=h;unfold za7 lookV;rw[hk.sh,h2 t];simp only[if_true,znc,h1,findU hk];cases lkI t 0 A<;>rfl
theorem MapU.upd{P:Program}{kt:TypeId}(hk:zi5 P kt){H:Hp}{m:Nat}{F:Int→Int}(h:MapU H m F)(key v:Int) :
  ∃H',(∀(α:Type) (k:Hp→Option α),pUpd P kt (.map (some m)) (.int .i64 key) (.int .u64 v) H k=k H')∧MapU H' m (fun t=>if t=key then v else F t)∧(∀j,j≠m→H'.get j=H.get j)∧H'.next=H.next:=by
 obtain⟨A,h1,h2⟩:=h;cases hq:lkI key 0 A with
 |none=>
  refine⟨H.set m (some (.map (mapU (A++[(key,v)])))),fun α k=>?_,⟨A++[(key,v)],by rw[get_set,if_pos rfl],fun t=>?_⟩,fun j hj=>by rw[get_set,if_neg hj],rfl⟩
  ·have:updV P kt (.map (some m)) (.int .i64 key) (.int .u64 v) H=some (H.set m (some (.map (mapU (A++[(key,v)]))))):=by unfold updV;rw[hk.sh];simp only[if_true,h1,findU hk,hq,Option.map_none];rw[show mapU (A++[(key,v)])=mapU A++[(Value.int .i64 key,Value.int .u64 v)] by simp[mapU]]
   unfold pUpd;rw[this]
  ·rw[znh t key v A 0 hq];dsimp only;split
   ·rfl
   ·rw[h2 t]
 |some q=>
  obtain⟨j,w⟩:=q;obtain⟨_,hg⟩:=zkP key A 0 j w hq;rw[Nat.sub_zero]at hg;refine⟨H.set m (some (.map (mapU (A.set j (key,v))))),fun α k=>?_,⟨A.set j (key,v),by rw[get_set,if_pos rfl],fun t=>?_⟩,fun j hj=>by rw[get_set,if_neg hj],rfl⟩
  ·have hk1:(mapU A)[j]?=some (.int .i64 key,.int .u64 w):=by unfold mapU;rw[List.getElem?_map,hg];rfl
   have hsb:Instr.sameBits 10000 (.int .i64 key) (.int .i64 key)=true:=by simp[Instr.sameBits]
   have:updV P kt (.map (some m)) (.int .i64 key) (.int .u64 v) H=some (H.set m (some (.map (mapU (A.set j (key,v)))))):=by unfold updV;rw[hk.sh];simp only[if_true,h1,findU hk,hq,Option.map_some,hk1,hsb];rw[show mapU (A.set j (key,v))=zhj (mapU A) j (.int .i64 key) (.int .u64 v) by unfold zhj mapU;rw[map_set]]
   unfold pUpd;rw[this]
  ·have:=zng t key v A 0 j w hq;rw[Nat.sub_zero]at this;rw[this];dsimp only;split
   ·rfl
   ·rw[h2 t]
theorem MapU.new(H:Hp):MapU (H.new (.map [])) H.next (fun _=>0):=⟨[],by rw[get_new,if_pos rfl];rfl,fun t=>rfl⟩
theorem MapU.keep{H H':Hp}{m:Nat}{F:Int→Int}(h:MapU H m F)(hg:H'.get m=H.get m):MapU H' m F:=by obtain⟨A,h1,h2⟩:=h;exact⟨A,by rw[hg];exact h1,h2⟩
end Go.AM
namespace Go.AM.N14
open Go Go.AM
end Go.AM.N14
namespace Go.AM.N14
open List Go Go.AM
theorem ikV:zi5 PP Aa:=⟨fun a b=>by kernel_rfl,fun a=>by kernel_rfl⟩
structure VS(B H:Hp)(m1 m2:Nat)(V W:Int→Int):Prop where
 next:B.next≤H.next
 old:∀j,j<B.next→H.get j=B.get j
 l1:B.next≤m1
 l2:B.next≤m2
 ne:m1≠m2
 n1:m1<H.next
 f1:MapU H m1 V
 f2:MapF H m2 W
theorem VS.up1{B H:Hp}{m1 m2:Nat}{V W:Int→Int}(h:VS B H m1 m2 V W)(key v:Int):∃H',(∀(α:Type) (k:Hp→Option α),pUpd PP Aa (.map (some m1)) (.int .i64 key) (.int .u64 v) H k=k H')∧VS B H' m1 m2 (fun t=>if t=key then v else V t) W:=by obtain⟨H',e1,e2,e3,e4⟩:=h.f1.upd ikV key v;have a:=h.l1;exact⟨H',e1,⟨by rw[e4];exact h.next,fun j hj=>by rw[e3 j (by omega),h.old j hj],h.l1,h.l2,h.ne,by rw[e4];exact h.n1,e2,h.f2.keep (e3 m2 (Ne.symm h.ne))⟩⟩
theorem VS.up2{B H:Hp}{m1 m2:Nat}{V W:Int→Int}(h:VS B H m1 m2 V W)(key v:Int):∃H',(∀(α:Type) (k:Hp→Option α),pUpd PP Aa (.map (some m2)) (.int .i64 key) (.int .i64 v) H k=k H')∧VS B H' m1 m2 V (fun t=>if t=key then v else W t):=by obtain⟨H',e1,e2,e3,e4⟩:=h.f2.upd ikV key v;have a:=h.l2;exact⟨H',e1,⟨by rw[e4];exact h.next,fun j hj=>by rw[e3 j (by omega),h.old j hj],h.l1,h.l2,h.ne,by rw[e4];exact h.n1,h.f1.keep (e3 m1 h.ne),e2⟩⟩
theorem step_val{B:Hp}{p f g:Nat}{lim:Int}{L:List Nd}{K:List (ByteArray×Int)}{sl:Value}(hst:StF B p lim L K sl f g)(hL:(L.length:Int)≤4611686018427387904){v:Value}{out:List Nat}(hv:Rdb B 1 v out.length (ints out))(hol:out.length≤2^41)
  {i t:Nat} (hi:out[i]?=some t) (ht:1≤t∧t≤L.length) {n:Nd} (hn:L[t-1]?=some n) {H:Hp} {m1 m2:Nat} {V W:Int→Int} (h:VS B H m1 m2 V W) {wa wb:Nat} {a b c:W64} (hok:Vok n wa wb a b)
  (hwa:(if n.a=(t:Int) then n.w else W n.a)=(wa:Int)) (hwb:(if n.b=(t:Int) then n.w else W n.b)=(wb:Int)) (hva:V n.a=(a.toNat:Int)) (hvb:V n.b=(b.toNat:Int)) (hvc:V n.c=(c.toNat:Int)) (v11:Value) :
  ∃H',zaD RR (.pointer (some ⟨p,0,none⟩)) v v11 (.map (some m1)) (.map (some m2)) (.int .i64 (out.length:Int)) [.int .i64 (i:Int)] H=some (.next,[.int .i64 ((i+1:Nat):Int)],H') ∧
   VS B H' m1 m2 (fun x=>if x=(t:Int) then ((valW n wa wb a b c).toNat:Int) else V x) (fun x=>if x=(t:Int) then n.w else W x):=by
 have hlt:i<out.length:=(List.getElem?_eq_some_iff.1 hi).1;have hvH:Rdb H 1 v out.length (ints out):=hv.keep' (fun j hj=>h.old j (hv.lt hj)) h.next;have hvI:Rdb H 1 v (out.map fun (t:Nat)=>(t:Int)).length (zbR (out.map fun (t:Nat)=>(t:Int))):=by rw[length_map,←zbw];exact hvH
 obtain⟨y,x1,x2⟩:=hvI.int (i:=i) (t:=(t:Int)) (by rw[List.getElem?_map,hi];rfl);have q:(i:Int)<(out.length:Int):=by omega
 have w1:IntKind.i64.wrap ((i:Int)+1)=((i+1:Nat):Int):=zaz (by omega) (by omega);have hstH:StF H p lim L K sl f g:=hst.keep (fun i hi=>h.old i (hst.foot_lt hi)) h.next;have hT:isT L (t:Int)=true:=zaV.2 ⟨by omega,by omega⟩;have hnode:zdc L (t:Int)=n:=by unfold zdc;rw[hT,if_pos rfl,show ((t:Int)-1).toNat=t-1 by omega,hn];rfl
 have e10:=Go.AM.c10 hstH.st hL (t:Int);rw[hnode,hT,if_pos rfl]at e10;obtain⟨H1,u2,h1⟩:=h.up2 (t:Int) n.w;have hnd:=p_node hok c H1;obtain⟨H2,u1,h2⟩:=h1.up1 (t:Int) ((valW n wa wb a b c).toNat:Int);have d4:decide (n.op≠4)=true:=decide_eq_true hok.op.2.2;have lv:∀(x:Int) (f:Value→Option Outc),za7 PP Aa (.int .u64 0) (.map (some m1)) (.int .i64 x) false H1 f=f (.int .u64 (V x)):=fun x f=>h1.f1.look ikV x f;have lw:∀(x:Int) (f:Value→Option Outc),za7 PP Aa (.int .i64 0) (.map (some m2)) (.int .i64 x) false H1 f=f (.int .i64 (if x=(t:Int) then n.w else W x)):=fun x f=>h1.f2.look ikV x f;have va:Value.int .u64 (V n.a)=wv a:=by rw[hva];rfl
 have vb:Value.int .u64 (V n.b)=wv b:=by rw[hvb];rfl
 have vc:Value.int .u64 (V n.c)=wv c:=by rw[hvc];rfl
 have u1':∀(k:Hp→Option Outc),pUpd PP Aa (.map (some m1)) (.int .i64 (t:Int)) (wv (valW n wa wb a b c)) H1 k=k H2:=fun k=>u1 _ k;refine⟨H2,?_,h2⟩;unfold zaD;simp only[qg0];rw[lT q,x1,x2,zag e10,x01,spl7,zf9,u2,zir,zba,zad,d4,za0,ncell7,zl1,lv,va,zl0,lv,vb,zoh,lv,vc,zl1,lw,hwa,zl0,lw,hwb,zag hnd,u1',zaU,w1]
theorem wT_nn{L:List Nd}(h:∀m∈L,0≤m.w∧m.w≤64)(t:Int):0≤wT L 0 t:=by
 unfold wT;split
 ·cases q:L[(t-1).toNat]? with
  |none=>exact Int.le_refl _
  |some m=>exact(h m (mem_of_getElem? q)).1
 ·exact Int.le_refl _
theorem wT_at{L:List Nd}{t:Nat}(ht:1≤t∧t≤L.length){n:Nd}(hn:L[t-1]?=some n)(d:Int):wT L d (t:Int)=n.w:=by unfold wT;rw[zaV.2 ⟨by omega,by omega⟩,if_pos rfl,show ((t:Int)-1).toNat=t-1 by omega,hn];rfl
theorem wT_0(L:List Nd):wT L 0 0=0:=rfl
section
end
end Go.AM.N14
namespace Go.AM.N14
open Go Go.AM
theorem wT_is{L:List Nd}{x:Int}(h:1≤x∧x≤L.length):wT L (-1) x=wT L 0 x:=by unfold wT;rw[zaV.2 h,if_pos rfl,if_pos rfl];have:L[(x-1).toNat]?=some (L[(x-1).toNat]'(by omega)):=List.getElem?_eq_getElem (by omega);rw[this];rfl
theorem znK{L:List Nd}{K:List (ByteArray×Int)}(hg:zbZ L K){n:Nd}(hn:n∈L)(h4:n.op≠4):zgV n (wT L 0 n.a) (wT L 0 n.b) (wT L 0 n.c)=true:=by
 have hr:=hg.rt n hn;have ho:1≤n.op∧n.op≤33:=by have:¬(n.op<1∨n.op>33):=hr.op;omega
 have hw:0≤n.w∧n.w≤64:=by have:¬(n.w<0∨n.w>64):=hr.w;omega
 obtain⟨pa,pa0,pb,pb0,pc,pc0,_,ps⟩:=zog hr;have hnm:zl2 n=false:=by unfold zl2;rw[ps h4];show (!((⟨#[]⟩:ByteArray).toList==(⟨#[]⟩:ByteArray).toList))=false;rw[beq_self_eq_true];rfl
 have one:∀(k:Int) (x:Int),(zai n.op≥k→1≤x∧x≤L.length)→(zai n.op<k→x=0)→(zai n.op≥k∧isT L x=true∧wT L (-1) x=wT L 0 x)∨(zai n.op<k∧x=0∧wT L 0 x=0):=fun k x h1 h2=>by
  by_cases q:zai n.op≥k
  ·exact .inl ⟨q,zaV.2 (h1 q),wT_is (h1 q)⟩
  ·have:=h2 (by omega);exact .inr ⟨by omega,this,by rw[this];rfl⟩
 exact(shape_iff ho h4 hw (hg.num n hn) hnm ⟨one 1 n.a pa pa0,one 2 n.b pb pb0,one 3 n.c pc pc0⟩).1 (zeM.2 hr)
end Go.AM.N14
namespace Go.AM.N14
open List Go Go.AM
def wvs(l:List W64):List Value:=l.map wv
theorem Vec.cap(H:Hp){sz bytes:Nat}{zs:List Value}(hz:zs.length=sz)(h1:zs.all one=true){n:Nat}(hb:n*bytes≤2^47) :
  ∃v H',(∀(α:Type) (k:Value→Hp→Option α),zaY sz bytes zs (.int .i64 0) (.int .i64 (n:Int)) H k=k v H')∧Vec H' sz v 0 []∧Frm (fun _=>False) H H'∧(∀j,Id v j→H.next≤j):=by
 have ra:∀n,(repl n zs).all one=true:=fun n=>by
  induction n with
  |zero=>rfl
  |succ n ih=>show (zs++repl n zs).all one=true;rw[all_append,h1,ih];rfl
 refine⟨.slice (some ⟨H.next,0,some sz⟩) 0 n,H.new (.cells (repl n zs) true),fun α k=>?_,.inr ⟨H.next,n,repl n zs,rfl,Nat.zero_le _,?_,by simp,by rw[ze6,hz];rfl,by show H.next<H.next+1;omega,ra n⟩,zcz _ _ _,fun j hj=>by cases hj;exact Nat.le_refl _⟩
 ·have e:((2:Int)^47)=((2^47:Nat):Int):=by rfl
  have hb':(n:Int)*(bytes:Int)≤2^47:=by rw[e,←Int.natCast_mul];exact Int.ofNat_le.2 hb
  have:zca sz bytes zs (.int .i64 0) (.int .i64 (n:Int)) H=some (.slice (some ⟨H.next,0,some sz⟩) 0 n,H.new (.cells (repl n zs) true)):=by unfold zca;dsimp only;rw[if_pos ⟨by omega,by omega,hb'⟩];rfl
  unfold zaY;rw[this]
 ·rw[get_new,if_pos rfl];rfl
structure Made(B H:Hp)(v:Value)(n:Nat)(cs:List Value):Prop where
 next:B.next≤H.next
 old:∀j,j<B.next→H.get j=B.get j
 vec:Vec H 1 v n cs
 new:∀j,Id v j→B.next≤j
theorem Made.push{B H:Hp}{v:Value}{n:Nat}{cs:List Value}(h:Made B H v n cs)(x:W64)(hb:(n+1)*8≤2^47) :
  ∃v' H',(∀(α:Type) (k:Value→Hp→Option α),(zal 1 [.int .u64 0] 1 [(0,wv x)] H fun t H1=>zaF 1 8 v t H1 k)=k v' H')∧Made B H' v' (n+1) (cs++[wv x]):=by
 obtain⟨v',H',e1,e2,e3,e4,_⟩:=h.vec.push (bytes:=8) (zs:=[.int .u64 0]) (x:=wv x) (by decide) (by decide) rfl rfl rfl hb;have hn:=h.next;refine⟨v',H',e1,Nat.le_trans h.next e3.next,fun j hj=>?_,e2,fun j hj=>?_⟩
 ·rw[e3.same j (by omega) (fun q=>by have:=h.new j q;omega),h.old j hj]
 ·rcases e4 j hj with q|q
  ·exact h.new j q
  ·omega
section
variable {B:Hp}{x:Value}{ns:List Nat}(hx:RdO B 1 x ns.length (ints ns))(hl:ns.length≤2^40){vf:Nat→W64}{m1:Nat}{V:Int→Int}(hm:MapU B m1 V)(hml:m1<B.next)(hV:∀t∈ns,V (t:Int)=((vf t).toNat:Int))
include hx hl hm hml hV
theorem znF:∀(k i:Nat) (H:Hp) (v:Value),i+k=ns.length→Made B H v i (wvs ((ns.take i).map vf)) →
  ∃H' v',zau (zbs RR x (.map (some m1)) (.int .i64 (ns.length:Int))) [v,.int .i64 (i:Int)] H=some (.exit 2,[v',.int .i64 (ns.length:Int)],H')∧Made B H' v' ns.length (wvs (ns.map vf))
 |0,i,H,v,hk,h=>by
  have:i=ns.length:=by omega
  subst this;rw[take_length]at h;refine⟨H,v,?_,h⟩;rw[zah];have:zbs RR x (.map (some m1)) (.int .i64 (ns.length:Int)) [v,.int .i64 (ns.length:Int)] H=some (.exit 2,[v,.int .i64 (ns.length:Int)],H):=by unfold zbs;simp only[qg0,qg1];rw[lF (Int.lt_irrefl _)]
  rw[this];rfl
 |k+1,i,H,v,hk,h=>by
  have hlt:i<ns.length:=by omega
  have hi:ns[i]?=some ns[i]:=List.getElem?_eq_getElem hlt;generalize ns[i]=t at hi;have hxH:RdO H 1 x ns.length (ints ns):=hx.keep' (fun j hj=>h.old j (hx.lt hj)) h.next;have hxI:RdO H 1 x (ns.map fun (t:Nat)=>(t:Int)).length (zbR (ns.map fun (t:Nat)=>(t:Int))):=by rw[length_map,←zbw];exact hxH
  obtain⟨y,x1,x2⟩:=hxI.int (i:=i) (t:=(t:Int)) (by rw[List.getElem?_map,hi];rfl);have hmH:MapU H m1 V:=hm.keep (h.old m1 hml);have lv:∀(f:Value→Option Outc),za7 PP Aa (.int .u64 0) (.map (some m1)) (.int .i64 (t:Int)) false H f=f (wv (vf t)):=fun f=>by rw[hmH.look ikV,hV t (mem_of_getElem? hi)];rfl
  have q:(i:Int)<(ns.length:Int):=by omega
  have w1:IntKind.i64.wrap ((i:Int)+1)=((i+1:Nat):Int):=zaz (by omega) (by omega);obtain⟨v1,H1,p1,p2⟩:=h.push (vf t) (by omega);have hcs:wvs ((ns.take i).map vf)++[wv (vf t)]=wvs ((ns.take (i+1)).map vf):=by rw[take_add_one,hi];simp[wvs]
  rw[hcs]at p2;obtain⟨H',v',g1,g2⟩:=znF k (i+1) H1 v1 (by omega) p2;refine⟨H',v',?_,g2⟩;rw[zah];have:zbs RR x (.map (some m1)) (.int .i64 (ns.length:Int)) [v,.int .i64 (i:Int)] H=some (.next,[v1,.int .i64 ((i+1:Nat):Int)],H1):=by unfold zbs;simp only[qg0,qg1];rw[lT q,x1,x2,lv,p1,zaU,w1]
  rw[this];exact g1
end
theorem zlq{α:Type}{P:Program}(T:TypeId)(a:Addr)(hT:∃t,P.underlying T=some (.pointer t))(k:Value→Option α):pBin P .eql T (.pointer (some a)) (.pointer none) k=k (.bool false):=by
 obtain⟨t,ht⟩:=hT;have:eqT P Op.maxDepth T (.pointer (some a)) (.pointer none)=some false:=by unfold Op.maxDepth;simp only[eqT,ht]
 simp only[pBin,binV,eqOp,this]
section
end
end Go.AM.N14
namespace Go.AM.N14
open Go Go.AM
structure Wd(x:Fct):Prop where
 w:0≤x.w∧x.w≤64
 l:x.least.toNat≤(msk (wd x.w)).toNat
theorem and_le{n:Nat}(hn:n≤64){x y:W64}(hx:x.toNat≤(msk n).toNat):(x&&&y).toNat≤(msk n).toNat:=(zbu hn).2 fun j hj=>by rw[BitVec.getLsbD_and,(zbu hn).1 hx j hj,Bool.false_and]
theorem or_le{n:Nat}(hn:n≤64){x y:W64}(hx:x.toNat≤(msk n).toNat)(hy:y.toNat≤(msk n).toNat):(x|||y).toNat≤(msk n).toNat:=(zbu hn).2 fun j hj=>by rw[BitVec.getLsbD_or,(zbu hn).1 hx j hj,(zbu hn).1 hy j hj,Bool.false_or]
theorem zero_le(n:Nat):(0#64).toNat≤(msk n).toNat:=Nat.zero_le _
theorem cat_le{n k m:Nat}(hm:m≤64)(hk:n+k≤m){x y:W64}(hx:x.toNat≤(msk n).toNat)(hy:y.toNat≤(msk k).toNat):(x <<< k|||y).toNat≤(msk m).toNat:=(zbu hm).2 fun j hj=>by rw[BitVec.getLsbD_or,BitVec.getLsbD_shiftLeft,(zbu (by omega)).1 hx (j-k) (by omega),(zbu (by omega)).1 hy j (by omega)];simp
theorem msk_up{n m:Nat}(hm:m≤64)(h:n≤m){x:W64}(hx:x.toNat≤(msk n).toNat):x.toNat≤(msk m).toNat:=(zbu hm).2 fun j hj=>(zbu (by omega)).1 hx j (by omega)
theorem movW_is{op:Int}(hop:25≤op∧op≤29){n k:Nat}(h0:1≤n)(hn:n≤64)(hk:k<n){x:W64}(hx:x.toNat≤(msk n).toNat):zhq op n x k (movW op n x k):=by obtain⟨v,h1,_⟩:=p_moved hop h0 hn hk hx ⟨0,fun _=>none,fun _=>none⟩;rw[movW_eq h1];exact h1
section
end
section
end
section
end
section
end
theorem sorts_of{n:Nd}{a b c:Int}(hs:zgV n a b c=true):zcp n a b c=true:=by
 unfold zgV at hs;split at hs
 ·cases hs
 ·exact hs
section
end
theorem b2w_le(c:Bool)(n:Nat)(h:1≤n)(hn:n≤64):(b2w c).toNat≤(msk n).toNat:=by
 rw[zkN _ hn];have:2^1≤2^n:=Nat.pow_le_pow_right (by decide) h;cases c
 ·exact Nat.zero_le _
 ·show 1≤_;omega
theorem bin_le{op:Int}(hop:17≤op∧op≤29){n:Nat}(h0:1≤n)(hn:n≤64)(x y:W64):(binW op n x y).toNat≤(msk n).toNat:=by
 have hX:=zdM hn x;have hY:=zdM hn y;unfold binW;dsimp only;split
 ·exact and_le hn hX
 split
 ·exact or_le hn hX hY
 split
 ·exact(zbu hn).2 fun j hj=>by rw[BitVec.getLsbD_xor,(zbu hn).1 hX j hj,(zbu hn).1 hY j hj];rfl
 split
 ·exact zdM hn _
 split
 ·exact zdM hn _
 split
 ·exact zdM hn _
 split
 ·split
  ·exact Nat.le_refl _
  ·rw[BitVec.toNat_udiv];exact Nat.le_trans (Nat.div_le_self _ _) hX
 split
 ·split
  ·exact hX
  ·rw[BitVec.toNat_umod];exact Nat.le_trans (Nat.mod_le _ _) hX
 ·have hm:=movW_is (op:=op) (by omega) h0 hn (Nat.mod_lt (y&&&msk n).toNat (show n>0 by omega)) hX;exact(zbu hn).2 fun j hj=>by rw[hm j,decide_eq_false (by omega),Bool.false_and]
theorem val_le{n:Nd}(ho:1≤n.op∧n.op≤33)(h4:n.op≠4)(hw:0≤n.w∧n.w≤64)(hnum:0≤n.num∧n.num<18446744073709551616){x y z:Fct}(hx:Wd x)(hy:Wd y)(hz:Wd z)(hs:zgV n x.w y.w z.w=true) :
  (valW n x.w.toNat y.w.toNat x.least y.least z.least).toNat≤(msk (wd n.w)).toNat:=by
 have hB:=sorts_of hs;have hn:=wd_le hw.2;have hp:=wd_pos n.w;have m1:(msk 1).toNat=1:=rfl;have one:∀c:Bool,(b2w c).toNat≤(msk (wd n.w)).toNat:=fun c=>b2w_le c _ hp hn;unfold zcp at hB;unfold valW;by_cases h1:n.op=1
 ·rw[if_pos h1];exact one true
 rw[if_neg h1];by_cases h2:n.op=2
 ·rw[if_pos h2];exact zero_le _
 rw[if_neg h2];by_cases h3:n.op=3
 ·rw[if_pos h3];rw[if_neg (by omega),if_pos h3]at hB;simp only[Bool.and_eq_true,decide_eq_true_eq]at hB;rw[BitVec.toNat_ofInt];have:=hB.2;omega
 rw[if_neg h3];by_cases h5:n.op=5
 ·rw[if_pos h5];rw[if_neg (by omega),if_neg (by omega),if_neg (by omega),if_pos h5]at hB;simp only[Bool.and_eq_true,decide_eq_true_eq]at hB;have hl:=hx.l;rw[hB.2]at hl;rcases tr01 (a:=x.least) hl with e|e<;>rw[e]
  ·exact one true
  ·exact zero_le _
 rw[if_neg h5];by_cases h8:n.op≤8
 ·rw[if_neg (by omega),if_neg (by omega),if_neg (by omega),if_neg (by omega),if_pos h8]at hB;simp only[Bool.and_eq_true,decide_eq_true_eq]at hB;have lx:=hx.l;have ly:=hy.l;rw[hB.2.1,←hB.1]at lx;rw[hB.2.2,←hB.1]at ly;by_cases h6:n.op=6
  ·rw[if_pos h6];exact and_le hn lx
  rw[if_neg h6];by_cases h7:n.op=7
  ·rw[if_pos h7];exact or_le hn lx ly
  rw[if_neg h7,if_pos (by omega)];exact(zbu hn).2 fun j hj=>by rw[BitVec.getLsbD_xor,(zbu hn).1 lx j hj,(zbu hn).1 ly j hj];rfl
 rw[if_neg (by omega),if_neg (by omega),if_neg (by omega)];rw[if_neg (by omega),if_neg (by omega),if_neg (by omega),if_neg (by omega),if_neg (by omega)]at hB;by_cases h9:n.op=9
 ·rw[if_pos h9];exact one _
 rw[if_neg h9];rw[if_neg h9]at hB;by_cases h13:n.op≤13
 ·rw[if_pos h13];exact one _
 rw[if_neg h13];rw[if_neg h13]at hB;by_cases h14:n.op=14
 ·rw[if_pos h14];rw[if_pos h14]at hB;simp only[Bool.and_eq_true,decide_eq_true_eq]at hB;split
  ·rw[hB.2.2];exact hy.l
  ·rw[hB.2.2,hB.2.1];exact hz.l
 rw[if_neg h14];rw[if_neg h14]at hB;have hxw:=hx.w;by_cases h16:n.op≤16
 ·rw[if_pos h16];rw[if_pos h16]at hB;simp only[Bool.and_eq_true,decide_eq_true_eq]at hB;have ew:x.w.toNat=wd n.w:=by unfold wd;omega
  rw[ew];unfold unW;split<;>exact zdM hn _
 rw[if_neg h16];rw[if_neg h16]at hB;by_cases h29:n.op≤29
 ·rw[if_pos h29];have ew:x.w.toNat=wd n.w∧1≤x.w.toNat:=by
   by_cases h24:n.op≤24
   ·rw[if_pos h24]at hB;simp only[Bool.and_eq_true,decide_eq_true_eq]at hB;unfold wd;omega
   ·rw[if_neg h24,if_pos h29]at hB;simp only[Bool.and_eq_true,decide_eq_true_eq]at hB;unfold wd;omega
  rw[ew.1];exact bin_le ⟨by omega,h29⟩ hp hn _ _
 rw[if_neg h29];rw[if_neg (by omega),if_neg (by omega)]at hB;by_cases h30:n.op=30
 ·rw[if_pos h30];rw[if_pos h30]at hB;simp only[Bool.and_eq_true,decide_eq_true_eq]at hB;have hyw:=hy.w;unfold catW;exact cat_le hn (n:=x.w.toNat) (k:=y.w.toNat) (by unfold wd;omega) (zdM (by omega) _) (zdM (by omega) _)
 rw[if_neg h30];rw[if_neg h30]at hB;by_cases h31:n.op=31
 ·rw[if_pos h31];rw[if_pos h31]at hB;simp only[Bool.and_eq_true,decide_eq_true_eq]at hB;have ew:n.w.toNat=wd n.w:=by unfold wd;omega
  unfold sliceW;rw[ew];exact zdM hn _
 rw[if_neg h31];rw[if_neg h31]at hB;simp only[Bool.and_eq_true,decide_eq_true_eq]at hB;have ew:n.w.toNat=wd n.w:=by unfold wd;omega
 unfold extW;split
 ·exact msk_up hn (n:=x.w.toNat) (by unfold wd;omega) (zdM (by omega) _)
 ·rw[ew];exact zdM hn _
end Go.AM.N14
namespace Go.AM.N14
open List Go Go.AM
section
variable {L:List Nd}{K:List (ByteArray×Int)}(hg:zbZ L K){S:Nat→Prop}(hcl:∀t,S t→∀c∈kids L t,S c){G:ByteArray→W64}(hG:∀t n,1≤t→S t→L[t-1]?=some n→n.op=4→(G n.name).toNat≤(msk (wd n.w)).toNat)
theorem zgl(hg:zbZ L K):∀m∈L,0≤m.w∧m.w≤64:=fun m hm=>by have:¬(m.w<0∨m.w>64):=(hg.rt m hm).w;omega
theorem wT_64(hg:zbZ L K)(x:Int):0≤wT L 0 x∧wT L 0 x≤64:=by
 refine⟨wT_nn (zgl hg) x,?_⟩;unfold wT;split
 ·cases q:L[(x-1).toNat]? with
  |none=>show (0:Int)≤64;decide
  |some m=>exact(zgl hg m (mem_of_getElem? q)).2
 ·decide
include hg hcl hG
theorem vfn_le{t:Nat}(h1:1≤t)(h2:t≤L.length)(hs:S t):(vfn L G t).toNat≤(msk (wd (wT L 0 (t:Int)))).toNat:=
 fnA_ind hg.dag (valF L G) 0#64 hcl (Q:=fun t v=>v.toNat≤(msk (wd (wT L 0 (t:Int)))).toNat) (Nat.zero_le _) (fun t n h1 hs hn q1 q2 q3=>by
  have hlt:=(List.getElem?_eq_some_iff.1 hn).1;rw[wT_at ⟨h1,by omega⟩ hn 0];have hmem:=mem_of_getElem? hn;have ha:=hg.dag.a _ n hn;have hb:=hg.dag.b _ n hn;have hc:=hg.dag.c _ n hn;have ho:1≤n.op∧n.op≤33:=by have:¬(n.op<1∨n.op>33):=(hg.rt n hmem).op;omega
  unfold valF;split
  ·rename_i h4;exact hG t n h1 hs hn h4
  ·rename_i h4;rw[Int.toNat_of_nonneg (by omega)]at q1 q2 q3;exact val_le ho h4 (zgl hg n hmem) (hg.num n hmem) (x:=⟨wT L 0 n.a,0#64,0#64,fnA (valF L G) 0#64 L n.a.toNat,0#64⟩) (y:=⟨wT L 0 n.b,0#64,0#64,fnA (valF L G) 0#64 L n.b.toNat,0#64⟩) (z:=⟨wT L 0 n.c,0#64,0#64,fnA (valF L G) 0#64 L n.c.toNat,0#64⟩)
    ⟨wT_64 hg n.a,q1⟩ ⟨wT_64 hg n.b,q2⟩ ⟨wT_64 hg n.c,q3⟩ (znK hg hmem h4)) t h1 h2 hs
theorem vok_in{t:Nat}(h1:1≤t)(hs:S t){n:Nd}(hn:L[t-1]?=some n)(h4:n.op≠4):Vok n (wT L 0 n.a).toNat (wT L 0 n.b).toNat (vfn L G n.a.toNat) (vfn L G n.b.toNat):=by
 have hmem:=mem_of_getElem? hn;have hlt:=(List.getElem?_eq_some_iff.1 hn).1;have ho:1≤n.op∧n.op≤33:=by have:¬(n.op<1∨n.op>33):=(hg.rt n hmem).op;omega
 have ha:=hg.dag.a _ n hn;have hb:=hg.dag.b _ n hn;have wa:=wT_64 hg n.a;have wb:=wT_64 hg n.b;have hkf:=(zgO hg.dag hn).2;have hkt:kids L t=zch n:=by unfold kids;rw[hn]
 have one:∀x:Int,(x=n.a∨x=n.b∨x=n.c)→0≤x→x<t→(wT L 0 x).toNat=0→(vfn L G x.toNat).toNat≤1:=fun x hx x0 x1 hw=>by
  by_cases q:x=0
  ·rw[q];exact Nat.zero_le _
  ·obtain⟨c,c1,c2⟩:=hkf x hx q;have hle:=vfn_le hg hcl hG (t:=c) (by omega) (by omega) (hcl t hs c (by rw[hkt];exact c1));have w0:=wT_nn (zgl hg) x;rw[c2,show wT L 0 x=0 by omega]at hle;rw[←c2,Int.toNat_natCast];exact hle
 exact vok_of (c:=wT L 0 n.c) ho h4 (zgl hg n hmem) (hg.num n hmem) (by omega) (by omega) (one n.a (.inl rfl) (by omega) (by omega)) (one n.b (.inr (.inl rfl)) (by omega) (by omega)) (by rw[Int.toNat_of_nonneg wa.1,Int.toNat_of_nonneg wb.1];exact znK hg hmem h4)
end
theorem vnum{v:VV}(h:v.Ok):((BitVec.ofInt 64 v.num).toNat:Int)=v.num:=by have:=h.1;have:=h.2;rw[BitVec.toNat_ofInt];omega
theorem zhN{Tv:List VV}{s:ByteArray}{v:VV}(h:fndV s Tv=some v):zbJ Tv s=BitVec.ofInt 64 v.num:=by unfold zbJ;rw[h]
theorem zlf{Tv:List VV}{s:ByteArray}(h:fndV s Tv=none):zbJ Tv s=0#64:=by unfold zbJ;rw[h]
theorem ziZ{L:List Nd}{Tv:List VV}{t:Nat}{n:Nd}(hn:L[t-1]?=some n):badV L Tv t=(decide (n.op=4)&&(match fndV n.name Tv with|some v=>decide (v.w≠n.w)|none=>false)):=by unfold badV;rw[hn]<;>rfl
theorem step_var{B:Hp}{p f g:Nat}{lim:Int}{L:List Nd}{K:List (ByteArray×Int)}{sl:Value}(hst:StF B p lim L K sl f g)(hL:(L.length:Int)≤4611686018427387904){v:Value}{out:List Nat}(hv:Rdb B 1 v out.length (ints out))(hol:out.length≤2^41)
  {m:Nat} {Tv:List VV} (hm:MapS B m VV.val (fun s=>fndV s Tv)) (hml:m<B.next) (hT:∀v∈Tv,v.Ok)
  {i t:Nat} (hi:out[i]?=some t) (ht:1≤t∧t≤L.length) {n:Nd} (hn:L[t-1]?=some n) (h4:n.op=4) {H:Hp} {m1 m2:Nat} {V W:Int→Int} (h:VS B H m1 m2 V W) (h0:V (t:Int)=0) :
  ∃H' V',VS B H' m1 m2 V' (fun x=>if x=(t:Int) then n.w else W x) ∧
   (badV L Tv t=false→zaD RR (.pointer (some ⟨p,0,none⟩)) v (.map (some m)) (.map (some m1)) (.map (some m2)) (.int .i64 (out.length:Int)) [.int .i64 (i:Int)] H=some (.next,[.int .i64 ((i+1:Nat):Int)],H')∧V' (t:Int)=((zbJ Tv n.name).toNat:Int)∧∀x,x≠(t:Int)→V' x=V x) ∧
   (badV L Tv t=true→zaD RR (.pointer (some ⟨p,0,none⟩)) v (.map (some m)) (.map (some m1)) (.map (some m2)) (.int .i64 (out.length:Int)) [.int .i64 (i:Int)] H=some (.ret,[.tuple #[.slice none 0 0,.int .i64 71]],H')):=by
 have hlt:i<out.length:=(List.getElem?_eq_some_iff.1 hi).1;have hvH:Rdb H 1 v out.length (ints out):=hv.keep' (fun j hj=>h.old j (hv.lt hj)) h.next;have hvI:Rdb H 1 v (out.map fun (t:Nat)=>(t:Int)).length (zbR (out.map fun (t:Nat)=>(t:Int))):=by rw[length_map,←zbw];exact hvH
 obtain⟨y,x1,x2⟩:=hvI.int (i:=i) (t:=(t:Int)) (by rw[List.getElem?_map,hi];rfl);have q:(i:Int)<(out.length:Int):=by omega
 have w1:IntKind.i64.wrap ((i:Int)+1)=((i+1:Nat):Int):=zaz (by omega) (by omega);have hstH:StF H p lim L K sl f g:=hst.keep (fun i hi=>h.old i (hst.foot_lt hi)) h.next;have hT':isT L (t:Int)=true:=zaV.2 ⟨by omega,by omega⟩;have hnode:zdc L (t:Int)=n:=by unfold zdc;rw[hT',if_pos rfl,show ((t:Int)-1).toNat=t-1 by omega,hn];rfl
 have e10:=Go.AM.c10 hstH.st hL (t:Int);rw[hnode,hT',if_pos rfl]at e10;obtain⟨H1,u2,h1⟩:=h.up2 (t:Int) n.w;have hm1:MapS H1 m VV.val (fun s=>fndV s Tv):=hm.keep (h1.old m hml);have d4:decide (n.op≠4)=false:=decide_eq_false (fun q=>q h4);have lk:∀{α:Type} (k:Value→Option α),za7 PP Ac (.agg #[.string ⟨#[]⟩,.int .i64 0,.int .u64 0]) (.map (some m)) (.string n.name) true H1 k=k (.tuple #[((fndV n.name Tv).getD noV).val,.bool (fndV n.name Tv).isSome]):=fun k=>by rw[noV_val,hm1.look2];cases fndV n.name Tv<;>rfl
 have head:∀X,(zaD RR (.pointer (some ⟨p,0,none⟩)) v (.map (some m)) (.map (some m1)) (.map (some m2)) (.int .i64 (out.length:Int)) [.int .i64 (i:Int)] H=X) ↔
   (zaa (.bool (fndV n.name Tv).isSome) fun b58=>br b58
    (zaj 1 false ((fndV n.name Tv).getD noV).cells 1 fun v59=>
    zaj 1 false n.cells 1 fun v60=>
    pBin PP .neq Aa v59 v60 fun v61=>
    zaa v61 fun b62=>br b62
    (some (.ret,[(.tuple #[(.slice none 0 0),(.int .i64 71)])],H1))
    (zaj 1 false ((fndV n.name Tv).getD noV).cells 2 fun v63=>
    pUpd PP Aa (.map (some m1)) (.int .i64 (t:Int)) v63 H1 fun H64=>
    pBin PP .add Aa (.int .i64 (i:Int)) (.int .i64 1) fun v65=>
    some (.next,[v65],H64)))
    (pBin PP .add Aa (.int .i64 (i:Int)) (.int .i64 1) fun v66=>
    some (.next,[v66],H1)))=X:=fun X=>by
  unfold zaD;simp only[qg0];rw[lT q,x1,x2,zag e10,x01,spl7,zf9,u2,zir,zba,zad,d4,zaH,zlZ,lk,x01,splV]
 have hb:=ziZ (Tv:=Tv) hn;rw[decide_eq_true h4,Bool.true_and]at hb;cases hq:fndV n.name Tv with
 |none=>
  rw[hq]at hb head;refine⟨H1,V,h1,fun _=>⟨?_,?_,fun x _=>rfl⟩,fun z=>?_⟩
  ·rw[head];rw[show (Option.isSome (none:Option VV))=false from rfl,zad,zaH,zaU,w1]
  ·rw[zlf hq,h0];rfl
  ·rw[hb]at z;cases z
 |some w=>
  rw[hq]at hb head;have hwk:=hT w (zgn hq).1;dsimp only at hb;by_cases e:w.w=n.w
  ·obtain⟨H2,u1,h2⟩:=h1.up1 (t:Int) w.num;refine⟨H2,_,h2,fun _=>⟨?_,?_,fun x hx=>?_⟩,fun z=>?_⟩
   ·rw[head];rw[show (Option.isSome (some w))=true from rfl,zad,za0,show (some w).getD noV=w from rfl,zjg,zf9,zba,bF (fun q=>q e),zlc,u1,zaU,w1]
   ·rw[if_pos rfl,zhN hq,vnum hwk]
   ·rw[if_neg hx]
   ·rw[hb,decide_eq_false (fun q=>q e)]at z;cases z
  ·refine⟨H1,V,h1,fun z=>?_,fun _=>?_⟩
   ·rw[hb,decide_eq_true e]at z;cases z
   ·rw[head];rw[show (Option.isSome (some w))=true from rfl,zad,za0,show (some w).getD noV=w from rfl,zjg,zf9,zba,bT e]
section
variable {B:Hp}{p f g:Nat}{lim:Int}{L:List Nd}{K:List (ByteArray×Int)}{sl:Value}(hst:StF B p lim L K sl f g)(hL:(L.length:Int)≤4611686018427387904)(hd:Dag L)(hw:∀m∈L,0≤m.w∧m.w≤64)
 {v:Value}{out:List Nat}(hv:Rdb B 1 v out.length (ints out))(hol:out.length≤2^41)(hcl:zcH L out)(hnd:out.Nodup)(hbd:∀t∈out,1≤t∧t≤L.length)
 {m:Nat}{Tv:List VV}(hm:MapS B m VV.val (fun s=>fndV s Tv))(hml:m<B.next)(hT:∀v∈Tv,v.Ok)
 (hok:∀(i t:Nat) n,out[i]?=some t→(∀u∈out.take (i+1),badV L Tv u=false)→L[t-1]?=some n→n.op≠4→Vok n (wT L 0 n.a).toNat (wT L 0 n.b).toNat (vfn L (zbJ Tv) n.a.toNat) (vfn L (zbJ Tv) n.b.toNat)){m1 m2:Nat}
include hst hL hd hw hv hol hcl hbd hm hml hT hok hnd
theorem zji:∀(k i:Nat) (H:Hp) (V W:Int→Int),i+k=out.length→VS B H m1 m2 V W→(∀x:Int,(∀t∈out.take i,(t:Int)≠x)→V x=0)→W 0=0→(∀t∈out.take i,V (t:Int)=((vfn L (zbJ Tv) t).toNat:Int)∧W (t:Int)=wT L 0 (t:Int))→(∀u∈out.take i,badV L Tv u=false) →
  ∃H' V' W',VS B H' m1 m2 V' W' ∧
   ((out.drop i).any (badV L Tv)=false→zau (zaD RR (.pointer (some ⟨p,0,none⟩)) v (.map (some m)) (.map (some m1)) (.map (some m2)) (.int .i64 (out.length:Int))) [.int .i64 (i:Int)] H=some (.exit 0,[.int .i64 (out.length:Int)],H')∧∀t∈out,V' (t:Int)=((vfn L (zbJ Tv) t).toNat:Int)) ∧
   ((out.drop i).any (badV L Tv)=true→zau (zaD RR (.pointer (some ⟨p,0,none⟩)) v (.map (some m)) (.map (some m1)) (.map (some m2)) (.int .i64 (out.length:Int))) [.int .i64 (i:Int)] H=some (.ret,[.tuple #[.slice none 0 0,.int .i64 71]],H'))
 |0,i,H,V,W,hk,h,_,_,hin,_=>by
  have:i=out.length:=by omega
  subst this;refine⟨H,V,W,h,fun _=>⟨?_,fun t ht=>(hin t (by rw[take_length];exact ht)).1⟩,fun q=>?_⟩
  ·rw[zah];have:zaD RR (.pointer (some ⟨p,0,none⟩)) v (.map (some m)) (.map (some m1)) (.map (some m2)) (.int .i64 (out.length:Int)) [.int .i64 (out.length:Int)] H=some (.exit 0,[.int .i64 (out.length:Int)],H):=by unfold zaD;simp only[qg0];rw[lF (Int.lt_irrefl _)]
   rw[this];rfl
  ·rw[drop_length]at q;cases q
 |k+1,i,H,V,W,hk,h,h0,hw0,hin,hgo=>by
  have hlt:i<out.length:=by omega
  have hi:out[i]?=some out[i]:=List.getElem?_eq_getElem hlt;have hdrop:out.drop i=out[i]::out.drop (i+1):=drop_eq_getElem_cons hlt;generalize out[i]=t at hi hdrop;have htk:out.take (i+1)=out.take i++[t]:=by rw[take_add_one,hi];rfl
  have ht:=hbd t (mem_of_getElem? hi);have hn:L[t-1]?=some (L[t-1]'(by omega)):=List.getElem?_eq_getElem (by omega);generalize L[t-1]'(by omega)=n at hn;have hnew:∀u∈out.take i,(u:Int)≠(t:Int):=fun u hu e=>by
   have e:u=t:=by omega
   subst e;have:=hnd;rw[←take_append_drop i out,hdrop]at this;exact(nodup_append.1 this).2.2 u hu u (mem_cons_self ..) rfl
  have hkf:=(zgO hd hn).2;have hkt:kids L t=zch n:=by unfold kids;rw[hn]
  have ha:=hd.a _ n hn;have hb:=hd.b _ n hn;have hc:=hd.c _ n hn;rw[hdrop,any_cons];have next:∀(H1:Hp) (V1:Int→Int),VS B H1 m1 m2 V1 (fun x=>if x=(t:Int) then n.w else W x)→V1 (t:Int)=((vfn L (zbJ Tv) t).toNat:Int)→(∀x,x≠(t:Int)→V1 x=V x)→badV L Tv t=false →
    zaD RR (.pointer (some ⟨p,0,none⟩)) v (.map (some m)) (.map (some m1)) (.map (some m2)) (.int .i64 (out.length:Int)) [.int .i64 (i:Int)] H=some (.next,[.int .i64 ((i+1:Nat):Int)],H1) →
    ∃H' V' W',VS B H' m1 m2 V' W' ∧
     ((badV L Tv t||(out.drop (i+1)).any (badV L Tv))=false→zau (zaD RR (.pointer (some ⟨p,0,none⟩)) v (.map (some m)) (.map (some m1)) (.map (some m2)) (.int .i64 (out.length:Int))) [.int .i64 (i:Int)] H=some (.exit 0,[.int .i64 (out.length:Int)],H')∧∀t∈out,V' (t:Int)=((vfn L (zbJ Tv) t).toNat:Int)) ∧
     ((badV L Tv t||(out.drop (i+1)).any (badV L Tv))=true→zau (zaD RR (.pointer (some ⟨p,0,none⟩)) v (.map (some m)) (.map (some m1)) (.map (some m2)) (.int .i64 (out.length:Int))) [.int .i64 (i:Int)] H=some (.ret,[.tuple #[.slice none 0 0,.int .i64 71]],H')):=fun H1 V1 h1 v1 v2 hb0 hs=>by
   obtain⟨H',V',W',g1,g2,g3⟩:=zji k (i+1) H1 V1 _ (by omega) h1 (fun x hx=>by
    rw[htk]at hx;rw[v2 x fun e=>hx t (mem_append_right _ (mem_singleton.2 rfl)) e.symm]
    exact h0 x fun u hu=>hx u (mem_append_left _ hu)) (by rw[if_neg (by omega)];exact hw0) (fun u hu=>by
    rw[htk]at hu;rcases mem_append.1 hu with hu|hu
    ·have hne:=hnew u hu;rw[if_neg hne,v2 _ hne];exact hin u hu
    ·rw[mem_singleton]at hu;subst hu;rw[if_pos rfl,wT_at ht hn]
     exact⟨v1,rfl⟩) (fun u hu=>by
    rw[htk]at hu;rcases mem_append.1 hu with hu|hu
    ·exact hgo u hu
    ·rw[mem_singleton]at hu;rw[hu];exact hb0)
   rw[hb0,Bool.false_or,zah,hs];exact⟨H',V',W',g1,g2,g3⟩
  by_cases h4:n.op=4
  ·obtain⟨H1,V1,h1,s1,s2⟩:=step_var hst hL hv hol hm hml hT hi ht hn h4 h (h0 _ hnew);cases hq:badV L Tv t with
   |false=>
    obtain⟨s1,s3,s4⟩:=s1 hq
    have:=next H1 V1 h1 (by
     rw[s3];unfold vfn;rw[zfn hd _ _ ht.1 hn];unfold valF
     rw[if_pos h4]) s4 hq s1
    rw[hq]at this;exact this
   |true=>
    refine⟨H1,V1,_,h1,fun z=>(by cases z),fun _=>?_⟩;rw[zah,s2 hq];rfl
  ·have hb0:badV L Tv t=false:=by rw[ziZ hn,decide_eq_false h4];rfl
   have hvok:=hok i t n hi (fun u hu=>by
    rw[htk]at hu;rcases mem_append.1 hu with hu|hu
    ·exact hgo u hu
    ·rw[mem_singleton]at hu;rw[hu];exact hb0) hn h4
   have part:∀x:Int,x=n.a∨x=n.b∨x=n.c→0≤x→x<(t:Int)→V x=((vfn L (zbJ Tv) x.toNat).toNat:Int)∧(if x=(t:Int) then n.w else W x)=((wT L 0 x).toNat:Int):=fun x hx h1 h2=>by
    rw[if_neg (by omega)];by_cases q:x=0
    ·subst q;rw[h0 0 (fun u hu=>by have:=hbd u (mem_of_mem_take hu);omega),hw0];refine⟨?_,by rw[wT_0];rfl⟩;rfl
    ·obtain⟨c,c1,c2⟩:=hkf x hx q;obtain⟨g1,g2⟩:=hin c (hcl i t hi c (by rw[hkt];exact c1));rw[←c2,g1,g2,Int.toNat_natCast];refine⟨rfl,?_⟩;have:=wT_nn hw (c:Int);omega
   obtain⟨pa1,pa2⟩:=part n.a (.inl rfl) (by omega) (by omega);obtain⟨pb1,pb2⟩:=part n.b (.inr (.inl rfl)) (by omega) (by omega);obtain⟨pc1,_⟩:=part n.c (.inr (.inr rfl)) (by omega) (by omega);obtain⟨H1,e1,h1⟩:=step_val hst hL hv hol hi ht hn h hvok pa2 pb2 pa1 pb1 pc1 (.map (some m))
   have:=next H1 _ h1 (by
    rw[if_pos rfl];unfold vfn;rw[zfn hd (valF L (zbJ Tv)) _ ht.1 hn];show _=((valF L (zbJ Tv) n _ _ _).toNat:Int)
    unfold valF
    rw[if_neg h4]) (fun x hx=>by rw[if_neg hx]) hb0 e1
   rw[hb0]at this;rw[hb0];exact this
end
end Go.AM.N14
namespace Go.AM.N14
open Go Go.AM
end Go.AM.N14
namespace Go.AM.N14
open List Go Go.AM
theorem told_le{v:VV}(h:v.Ok)(hw:wdOk v=true):(BitVec.ofInt 64 v.num).toNat≤(msk (wd v.w)).toNat:=by
 unfold wdOk at hw;simp only[Bool.and_eq_true,decide_eq_true_eq]at hw;obtain⟨⟨h1,h2⟩,h3⟩:=hw;have e:(if v.w<1 then (1:Int) else v.w)=((wd v.w:Nat):Int):=by unfold wd;split<;>omega
 have hn:=vnum h;rw[e,←hn,zke (wd_pos v.w) (wd_le h2)]at h3;have h4:(BitVec.ofInt 64 v.num&&&msk (wd v.w)).toNat=(BitVec.ofInt 64 v.num).toNat:=by omega
 rw[←h4];exact zdM (wd_le h2) _
theorem toldE_0{Tv:List VV}(h:zfa Tv=0):nmOk [] (Tv.map VV.name)=true∧Tv.all wdOk=true:=by
 unfold zfa at h;split at h
 ·split at h
  ·exact⟨by assumption,by assumption⟩
  ·cases h
 ·cases h
theorem tell_le{L:List Nd}{Tv:List VV}(hT:∀v∈Tv,v.Ok)(h0:zfa Tv=0){t:Nat}{n:Nd}(hn:L[t-1]?=some n)(h4:n.op=4)(hb:badV L Tv t=false):(zbJ Tv n.name).toNat≤(msk (wd n.w)).toNat:=by
 rw[ziZ hn,decide_eq_true h4,Bool.true_and]at hb;cases hq:fndV n.name Tv with
 |none=>rw[zlf hq];exact Nat.zero_le _
 |some w=>
  rw[hq]at hb;have hwm:=(zgn hq).1;have e:w.w=n.w:=by have:=of_decide_eq_false hb;omega
  rw[zhN hq,←e];exact told_le (hT w hwm) (all_eq_true.1 (toldE_0 h0).2 w hwm)
theorem vok_pre{L:List Nd}{K:List (ByteArray×Int)}(hg:zbZ L K){out:List Nat}(hcl:zcH L out){Tv:List VV}(hT:∀v∈Tv,v.Ok)(h0:zfa Tv=0)(hbd:∀t∈out,1≤t∧t≤L.length) :
  ∀(i t:Nat) n,out[i]?=some t→(∀u∈out.take (i+1),badV L Tv u=false)→L[t-1]?=some n→n.op≠4→Vok n (wT L 0 n.a).toNat (wT L 0 n.b).toNat (vfn L (zbJ Tv) n.a.toNat) (vfn L (zbJ Tv) n.b.toNat):=by
 intro i t n hi hu hn h4;have hm:t∈out.take (i+1):=by rw[take_add_one,hi];simp
 have ht:=hbd t (mem_of_getElem? hi);refine vok_in hg (S:=(· ∈ out.take (i+1))) (fun u hu c hc=>?_) (fun u m hu1 hu2 hum h4=>tell_le hT h0 hum h4 (hu u hu2)) ht.1 hm hn h4;obtain⟨j,hj⟩:=List.getElem?_of_mem hu;rw[List.getElem?_take]at hj;split at hj
 ·have:=hcl j u hj c hc;exact mem_of_mem_take (by rw[take_take,Nat.min_eq_left (by omega:j≤i+1)];exact this:c∈(out.take (i+1)).take j)
 ·cases hj
noncomputable def zce(L:List Nd)(rs:List Int)(Tv:List VV):Int×List W64:=if rs.all (isT L)=true then zfq L (rs.map Int.toNat) Tv else (70,[])
theorem Made.nil'{B H:Hp}(h1:B.next≤H.next)(h2:∀j,j<B.next→H.get j=B.get j):Made B H (.slice none 0 0) 0 []:=⟨h1,h2,Vec.nil _ _,fun j hj=>by cases hj⟩
section
variable {H0:Hp}{p f g:Nat}{lim:Int}{L:List Nd}{K:List (ByteArray×Int)}{sl:Value}(hst:StF H0 p lim L K sl f g)(hg:zbZ L K)(hL:L.length*64≤2^46)
 {x:Value}{rs:List Int}(hx:RdO H0 1 x rs.length (zbR rs))(hl:rs.length≤2^40){y:Value}{Tv:List VV}(hy:Rdb H0 3 y Tv.length (za5 Tv))(hyl:Tv.length≤2^40)(hT:∀v∈Tv,v.Ok)
include hst hg hL hx hl hy hyl hT
theorem zgq:∃H' v',RR Au [.pointer (some ⟨p,0,none⟩),x,y] H0=some (.tuple #[v',.int .i64 (zce L rs Tv).1],H')∧Made H0 H' v' (zce L rs Tv).2.length (wvs (zce L rs Tv).2):=by
 have hr:=(zkz E0 rfl (.pointer (some ⟨p,0,none⟩)) x y H0).trans (zkU _ _ _ _ _);have hd:=hg.dag;obtain⟨H1,v1,e1,o1⟩:=Go.AM.c13 hst hd hL hx hl;rw[zlq Ao _ ⟨AC,by kernel_rfl⟩,zad,zaH,zag e1,x01,zba,zad]at hr;unfold zce;unfold zdJ at e1 o1 hr;cases hall:rs.all (isT L) with
 |false=>
  rw[hall,if_neg (by decide)]at o1 hr;rw[decide_eq_true (show ¬((70,([]:List Nat)):Int×List Nat).1=0 by decide),za0]at hr;rw[if_neg (by decide)];exact⟨H1,_,hr,Made.nil' o1.next o1.old⟩
 |true=>
  rw[hall,if_pos rfl]at o1 hr;rw[if_pos rfl];obtain⟨ns,n1,hb⟩:=nats rs hall;have ens:rs.map Int.toNat=ns:=by rw[n1,zgL]
  have hlen:rs.length=ns.length:=by rw[n1,length_map]
  rw[ens]at o1 hr ⊢;rw[decide_eq_false (show ¬ ¬((0,posts L ns []):Int×List Nat).1=0 by simp),zaH]at hr;have o1:OrdOk H0 H1 v1 (posts L ns []):=o1;have hy1:Rdb H1 3 y Tv.length (za5 Tv):=hy.keep' (fun j hj=>o1.old j (hy.lt hj)) o1.next;obtain⟨v2,H2,t1,t2,t3⟩:=c_told hy1 hyl hT;rw[zag t1,x01,zba,zad]at hr;have o2:∀j,j<H0.next→H2.get j=H0.get j:=fun j hj=>by have:=o1.next;rw[t2.same j (by omega) (fun q=>q),o1.old j hj]
  have n2:H0.next≤H2.next:=Nat.le_trans o1.next t2.next;unfold zfq;by_cases h0:zfa Tv≠0
  ·rw[decide_eq_true h0,za0]at hr;rw[if_pos h0];exact⟨H2,_,hr,Made.nil' n2 o2⟩
  ·rw[if_neg h0];have h0:zfa Tv=0:=Decidable.not_not.1 h0;rw[decide_eq_false (fun q=>q h0),zaH]at hr;obtain⟨m,rfl,m1,m2,m3⟩:=t3 h0;have hlen2:(posts L ns []).length≤L.length:=Told.len ((⟨nodup_nil,fun x h=>by cases h⟩:Told L.length []).posts hd hb);have hndp:(posts L ns []).Nodup:=zf2 hd ns [] (fun c hc=>(hb c hc).1) nodup_nil;have hmem:=zcU hd (N:=L.length) ns [] hb;have hbd:∀t∈posts L ns [],1≤t∧t≤L.length:=fun t ht=>by
    rcases hmem.2.2 t ht with q|q
    ·cases q
    ·exact q
   have hcl:zcH L (posts L ns []):=(ze7 hd ns [] (fun c hc=>(hb c hc).1) (fun i t h=>by cases h)).1;generalize hout:posts L ns []=out at *;have hh:∀(n:Int) (f:Option (Value×Hp)),zeo (.int .i64 n) f=f:=fun n f=>rfl;have hm:∀(H:Hp) (f:Value→Hp→Option (Value×Hp)),zbD H f=f (.map (some H.next)) (H.new (.map [])):=fun H f=>rfl;let Hu:=H2.new (.map [])
   let Hv:=Hu.new (.map [])
   have hn1:=n2;have hvs:VS H2 Hv H2.next Hu.next (fun _=>0) (fun _=>0):=by
    refine⟨?_,fun j hj=>?_,?_,?_,?_,?_,?_,?_⟩
    ·show H2.next≤H2.next+1+1;omega
    ·show ((H2.new (.map [])).new (.map [])).get j=_;rw[get_new,if_neg (by show j≠H2.next+1;omega),get_new,if_neg (by omega)]
    ·exact Nat.le_refl _
    ·show H2.next≤H2.next+1;omega
    ·show H2.next≠H2.next+1;omega
    ·show H2.next<H2.next+1+1;omega
    ·exact(MapU.new H2).keep (by show (Hu.new (.map [])).get H2.next=Hu.get H2.next;rw[get_new,if_neg (by show H2.next≠H2.next+1;omega)])
    ·exact MapF.new Hu
   have hstB:StF H2 p lim L K sl f g:=hst.keep (fun i hi=>o2 i (hst.foot_lt hi)) n2;have hov:Vec H2 1 v1 out.length (ints out):=o1.vec.keep t2 fun j _ q=>q;obtain⟨H3,V',W',h3,l1,l2⟩:=zji hstB (by omega) hd (zgl hg) hov.rd (by omega) hcl hndp hbd m3 m2 hT (vok_pre hg hcl hT h0 hbd) out.length 0 Hv (fun _=>0) (fun _=>0) (by omega) hvs (fun _ _=>rfl) rfl (fun t ht=>by rw[take_zero]at ht;cases ht) (fun t ht=>by rw[take_zero]at ht;cases ht);rw[qd0]at l1 l2;rw[hov.len,hh,hm,hov.len,hh,hm,hov.len]at hr;have o3:∀j,j<H0.next→H3.get j=H0.get j:=fun j hj=>by rw[h3.old j (by omega),o2 j hj]
   have n3:H0.next≤H3.next:=Nat.le_trans n2 h3.next;cases hbad:out.any (badV L Tv) with
   |true=>
    have l2:zau (zaD RR (.pointer (some ⟨p,0,none⟩)) v1 (.map (some m)) (.map (some H2.next)) (.map (some (H2.new (.map [])).next)) (.int .i64 (out.length:Int))) [.int .i64 0] ((H2.new (.map [])).new (.map []))=_:=l2 hbad;rw[l2]at hr;rw[if_pos rfl];exact⟨H3,_,hr,Made.nil' n3 o3⟩
   |false=>
    obtain⟨l1,l3⟩:=l1 hbad;have l1:zau (zaD RR (.pointer (some ⟨p,0,none⟩)) v1 (.map (some m)) (.map (some H2.next)) (.map (some (H2.new (.map [])).next)) (.int .i64 (out.length:Int))) [.int .i64 0] ((H2.new (.map [])).new (.map []))=_:=l1;rw[if_neg (by decide)];have hx3:RdO H3 1 x ns.length (ints ns):=by have:=hx.keep' (H':=H3) (fun j hj=>o3 j (hx.lt hj)) n3;rw[zbw,←n1,←hlen];exact this
    obtain⟨v3,H4,mk1,mk2,mk3,mk4⟩:=Vec.cap H3 (sz:=1) (bytes:=8) (zs:=[.int .u64 0]) rfl rfl (n:=ns.length) (by omega);obtain⟨H5,v4,q1,h4⟩:=znF (B:=H3) hx3 (by omega) h3.f1 h3.n1 (vf:=vfn L (zbJ Tv)) (fun t ht=>l3 t (hmem.2.1 t ht)) ns.length 0 H4 v3 (by omega) ⟨mk3.next,fun j hj=>mk3.same j hj (fun q=>q),mk2,mk4⟩;have q1:zau (zbs RR x (.map (some H2.next)) (.int .i64 (ns.length:Int))) [v3,.int .i64 0] H4=_:=q1;rw[l1,zan,za6,zaC,hx3.len,mk1,hx3.len,q1,zan,za6,zaC]at hr;refine⟨H5,v4,hr,?_⟩;rw[length_map];exact⟨Nat.le_trans n3 h4.next,fun j hj=>by rw[h4.old j (by omega),o3 j hj],h4.vec,fun j hj=>Nat.le_trans n3 (h4.new j hj)⟩
theorem c_value{t:Int}:∃H',RR Ba [.pointer (some ⟨p,0,none⟩),.int .i64 t,y] H0=some (.tuple #[wv ((zce L [t] Tv).2.headD 0#64),.int .i64 (zce L [t] Tv).1],H')∧H0.next≤H'.next∧∀j,j<H0.next→H'.get j=H0.get j:=by
 have hr:=zlA E0 rfl (.pointer (some ⟨p,0,none⟩)) (.int .i64 t) y H0;unfold zg7 at hr;have hb:∀(k:Value→Hp→Option (Value×Hp)),zal 1 [.int .i64 0] 1 [(0,.int .i64 t)] H0 k=k (.slice (some ⟨H0.next,0,some 1⟩) 1 1) (H0.new (.cells [.int .i64 t] true)):=fun k=>rfl;let H1:=H0.new (.cells [.int .i64 t] true)
 have h1o:∀j,j<H0.next→H1.get j=H0.get j:=fun j hj=>by show (H0.new _).get j=_;rw[get_new,if_neg (by omega)]
 have h1n:H1.next=H0.next+1:=rfl;have hst1:StF H1 p lim L K sl f g:=hst.keep (fun i hi=>h1o i (hst.foot_lt hi)) (by omega);have hx1:Rdb H1 1 (.slice (some ⟨H0.next,0,some 1⟩) 1 1) [t].length (zbR [t]):=.inr ⟨H0.next,1,[],true,rfl,Nat.le_refl _,by show (H0.new _).get _=_;rw[get_new,if_pos rfl];rfl,rfl,by omega⟩;have hy1:Rdb H1 3 y Tv.length (za5 Tv):=hy.keep' (fun j hj=>h1o j (hy.lt hj)) (by omega);clear hx hl;obtain⟨H2,v,e1,m1⟩:=zgq hst1 hg hL hx1.o (by show 1≤_;decide) hy1 hyl hT;have hn:=m1.next;have fin:H0.next≤H2.next∧∀j,j<H0.next→H2.get j=H0.get j:=⟨by omega,fun j hj=>by rw[m1.old j (by omega),h1o j hj]⟩
 rw[hb,zag e1,x01,zba,zad]at hr;by_cases h0:(zce L [t] Tv).1≠0
 ·rw[decide_eq_true h0,za0]at hr;have hnil:(zce L [t] Tv).2=[]:=by
   revert h0;unfold zce;split
   ·unfold zfq;split
    ·exact fun _=>rfl
    ·split
     ·exact fun _=>rfl
     ·exact fun q=>absurd rfl q
   ·exact fun _=>rfl
  rw[hnil];exact⟨H2,hr,fin⟩
 ·have h0:(zce L [t] Tv).1=0:=Decidable.not_not.1 h0;rw[decide_eq_false (fun q=>q h0),zaH]at hr;obtain⟨a,ha⟩:∃a,(zce L [t] Tv).2=[a]:=by
   revert h0;unfold zce;split
   ·unfold zfq;split
    ·rename_i q;exact fun z=>absurd z q
    ·split
     ·exact fun z=>by cases z
     ·exact fun _=>⟨_,rfl⟩
   ·exact fun z=>by cases z
  rw[ha]at m1 ⊢;obtain⟨z,hz,⟨rest,hgz⟩,hix⟩:=m1.vec.ix (i:=0) (show 0<1 by decide);have hix':∀(k:Value→Option (Value×Hp)),pIdx 1 v (.int .i64 0) k=k (.pointer (some ⟨z,0,none⟩)):=fun k=>hix _ .i64 k;rw[hix',zfE hgz (o:=0) (x:=wv a) rfl]at hr;rw[h0];exact⟨H2,hr,fin⟩
end
structure zeG(sz:Nat)(B H:Hp)(v:Value)(n:Nat)(cs:List Value):Prop where
 next:B.next≤H.next
 old:∀j,j<B.next→H.get j=B.get j
 vec:Vec H sz v n cs
 new:∀j,Id v j→B.next≤j
theorem zeG.of{B H:Hp}{sz:Nat}{v:Value}{n:Nat}{cs:List Value}{r:List Sl}(h:Own B H (⟨sz,v,n,cs⟩::r)):zeG sz B H v n cs:=⟨h.next,h.old,h.head,fun j hj=>h.new _ (mem_cons_self ..) j hj⟩
theorem zeG.behind{B B' H:Hp}{sz:Nat}{v:Value}{n:Nat}{cs:List Value}(h:zeG sz B' H v n cs)(h1:B.next≤B'.next)(h2:∀j,j<B.next→B'.get j=B.get j):zeG sz B H v n cs:=
 ⟨Nat.le_trans h1 h.next,fun j hj=>by rw[h.old j (by omega),h2 j hj],h.vec,fun j hj=>Nat.le_trans h1 (h.new j hj)⟩
theorem zeG.frm{B H:Hp}{sz:Nat}{v:Value}{n:Nat}{cs:List Value}(h:zeG sz B H v n cs):Frm (fun _=>False) B H:=⟨h.next,fun j hj _=>h.old j hj⟩
theorem zeG.nil{B H:Hp}{sz:Nat}(h:Frm (fun _=>False) B H):zeG sz B H (.slice none 0 0) 0 []:=⟨h.next,fun j hj=>h.same j hj fun q=>q,Vec.nil _ _,fun j hj=>by cases hj⟩
theorem isV_eq{L:List Nd}{t:Nat}{n:Nd}(hn:L[t-1]?=some n):isV L t=if n.op=4 then some ⟨n.name,n.w,0⟩ else none:=by unfold isV;rw[hn]
theorem bvv{α:Type}(s:ByteArray)(w:Int)(k:Value→Option α):zaE PP A3 [(0,.string s),(1,.int .i64 w)] k=k (VV.val ⟨s,w,0⟩):=Go.AM.bld (by kernel_rfl) k
theorem bvv3{α:Type}(s:ByteArray)(w x:Int)(k:Value→Option α):zaE PP A3 [(0,.string s),(1,.int .i64 w),(2,.int .u64 x)] k=k (VV.val ⟨s,w,x⟩):=Go.AM.bld (by kernel_rfl) k
theorem pushV{B H:Hp}{acc:Value}{l:List VV}{r:List Sl}(h:Own B H (⟨3,acc,l.length,za5 l⟩::r))(v:VV)(hb:l.length≤2^41) :
  ∃acc' H',(∀(α:Type) (k:Value→Hp→Option α),(zal 3 [.string ⟨#[]⟩,.int .i64 0,.int .u64 0] 1 [(0,v.val)] H fun t H1=>zaF 3 32 acc t H1 k)=k acc' H')∧Own B H' (⟨3,acc',(l++[v]).length,za5 (l++[v])⟩::r):=by
 obtain⟨acc',H',e1,e2⟩:=Own.push h (bytes:=32) (zs:=[.string ⟨#[]⟩,.int .i64 0,.int .u64 0]) (x:=v.val) (by decide) (by decide) rfl rfl rfl (by omega);refine⟨acc',H',e1,?_⟩;have:za5 (l++[v])=za5 l++zab v.val:=by rw[zfR];rfl
 rw[this,length_append];exact e2
section
variable {B:Hp}{p f g:Nat}{lim:Int}{L:List Nd}{K:List (ByteArray×Int)}{sl:Value}(hst:StF B p lim L K sl f g)(hL:(L.length:Int)≤4611686018427387904)
 {v:Value}{out:List Nat}(hv:Rdb B 1 v out.length (ints out))(hol:out.length≤2^41)(hbd:∀t∈out,1≤t∧t≤L.length)
include hst hL hv hol hbd
theorem vars_step(S:List Value→Hp→Option Outc){i t:Nat}(hi:out[i]?=some t){n:Nd}(hn:L[t-1]?=some n){H:Hp}{acc:Value}(h:Own B H [⟨3,acc,((out.take i).filterMap (isV L)).length,za5 ((out.take i).filterMap (isV L))⟩])
  (hS:∀(acc':Value) (H':Hp),(n.op=4→∀(α:Type) (k:Value→Hp→Option α),(zal 3 [.string ⟨#[]⟩,.int .i64 0,.int .u64 0] 1 [(0,VV.val ⟨n.name,n.w,0⟩)] H fun t H1=>zaF 3 32 acc t H1 k)=k acc' H')→(n.op≠4→acc'=acc∧H'=H)→S [acc,.int .i64 (i:Int)] H=some (.next,[acc',.int .i64 ((i+1:Nat):Int)],H')) :
  ∃acc' H',S [acc,.int .i64 (i:Int)] H=some (.next,[acc',.int .i64 ((i+1:Nat):Int)],H')∧Own B H' [⟨3,acc',((out.take (i+1)).filterMap (isV L)).length,za5 ((out.take (i+1)).filterMap (isV L))⟩]:=by
 have htk:out.take (i+1)=out.take i++[t]:=by rw[take_add_one,hi];rfl
 have hlen:((out.take i).filterMap (isV L)).length≤2^41:=Nat.le_trans (length_filterMap_le ..) (by rw[length_take];omega);rw[htk,filterMap_append,filterMap_cons,isV_eq hn];by_cases h4:n.op=4
 ·obtain⟨acc',H',e1,e2⟩:=pushV h ⟨n.name,n.w,0⟩ hlen;rw[if_pos h4];exact⟨acc',H',hS acc' H' (fun _=>e1) (fun q=>absurd h4 q),e2⟩
 ·rw[if_neg h4];refine⟨acc,H,hS acc H (fun q=>absurd q h4) (fun _=>⟨rfl,rfl⟩),?_⟩;rw[filterMap_nil,append_nil];exact h
theorem zld(S:List Value→Hp→Option Outc)(hend:∀(H:Hp) (acc:Value),S [acc,.int .i64 (out.length:Int)] H=some (.exit 0,[acc,.int .i64 (out.length:Int)],H))
  (hS:∀(i t:Nat) (n:Nd) (H:Hp) (acc acc':Value) (H':Hp),out[i]?=some t→1≤t∧t≤L.length→L[t-1]?=some n→StF H p lim L K sl f g→Rdb H 1 v out.length (ints out)→(n.op=4→∀(α:Type) (k:Value→Hp→Option α),(zal 3 [.string ⟨#[]⟩,.int .i64 0,.int .u64 0] 1 [(0,VV.val ⟨n.name,n.w,0⟩)] H fun t H1=>zaF 3 32 acc t H1 k)=k acc' H')→(n.op≠4→acc'=acc∧H'=H)→S [acc,.int .i64 (i:Int)] H=some (.next,[acc',.int .i64 ((i+1:Nat):Int)],H')) :
  ∀(k i:Nat) (H:Hp) (acc:Value),i+k=out.length→Own B H [⟨3,acc,((out.take i).filterMap (isV L)).length,za5 ((out.take i).filterMap (isV L))⟩] →
  ∃H' acc',zau S [acc,.int .i64 (i:Int)] H=some (.exit 0,[acc',.int .i64 (out.length:Int)],H')∧Own B H' [⟨3,acc',(out.filterMap (isV L)).length,za5 (out.filterMap (isV L))⟩]
 |0,i,H,acc,hk,h=>by
  have:i=out.length:=by omega
  subst this;rw[take_length]at h;refine⟨H,acc,?_,h⟩;rw[zah,hend];rfl
 |k+1,i,H,acc,hk,h=>by
  have hlt:i<out.length:=by omega
  have hi:out[i]?=some out[i]:=List.getElem?_eq_getElem hlt;generalize out[i]=t at hi;have ht:=hbd t (mem_of_getElem? hi);have hn:L[t-1]?=some (L[t-1]'(by omega)):=List.getElem?_eq_getElem (by omega);generalize L[t-1]'(by omega)=n at hn;obtain⟨acc1,H1,e1,h1⟩:=vars_step hst hL hv hol hbd S hi hn h fun acc' H' a b=>hS i t n H acc acc' H' hi ht hn (Own.st h hst) (hv.keep' (fun j hj=>h.old j (hv.lt hj)) h.next) a b;obtain⟨H',acc',g1,g2⟩:=zld S hend hS k (i+1) H1 acc1 (by omega) h1;refine⟨H',acc',?_,g2⟩;rw[zah,e1];exact g1
end
def zoP(L:List Nd)(rs:List Int):Int×List VV:=if rs.all (isT L)=true then (0,zbe L (rs.map Int.toNat)) else (70,[])
section
variable {H0:Hp}{p f g:Nat}{lim:Int}{L:List Nd}{K:List (ByteArray×Int)}{sl:Value}(hst:StF H0 p lim L K sl f g)(hd:Dag L)(hL:L.length*64≤2^46)
 {x:Value}{rs:List Int}(hx:RdO H0 1 x rs.length (zbR rs))(hl:rs.length≤2^40)
include hst hd hL hx hl
theorem zob(hall:rs.all (isT L)=true):∀t∈(zdJ L rs).2,1≤t∧t≤L.length:=by
 unfold zdJ;rw[hall,if_pos rfl];obtain⟨ns,n1,hb⟩:=nats rs hall;have ens:rs.map Int.toNat=ns:=by rw[n1,zgL]
 rw[ens];intro t ht;rcases (zcU hd (N:=L.length) ns [] hb).2.2 t ht with q|q
 ·cases q
 ·exact q
theorem c_vars:∃H' v',RR Bb [.pointer (some ⟨p,0,none⟩),x] H0=some (.tuple #[v',.int .i64 (zoP L rs).1],H')∧zeG 3 H0 H' v' (zoP L rs).2.length (za5 (zoP L rs).2):=by
 have hr:=(zmP E0 rfl (.pointer (some ⟨p,0,none⟩)) x H0).trans (znm _ _ _ _);obtain⟨H1,v1,e1,o1⟩:=Go.AM.c13 hst hd hL hx hl;rw[zlq Ao _ ⟨AC,by kernel_rfl⟩,zad,zaH,zag e1,x01,zba,zad]at hr;have hbd:=zob hst hd hL hx hl;have hbl:=zlR hd rs;unfold zoP;cases hall:rs.all (isT L) with
 |false=>
  have e:zdJ L rs=(70,[]):=by unfold zdJ;rw[hall];rfl
  rw[e]at o1 hr;rw[decide_eq_true (show ¬((70,([]:List Nat)):Int×List Nat).1=0 by decide),za0]at hr;rw[if_neg (by decide)];exact⟨H1,_,hr,zeG.nil ⟨o1.next,fun j hj _=>o1.old j hj⟩⟩
 |true=>
  have e:zdJ L rs=(0,posts L (rs.map Int.toNat) []):=by unfold zdJ;rw[hall];rfl
  have hbd:=hbd hall;rw[e]at o1 hr hbd hbl;have o1:OrdOk H0 H1 v1 (posts L (rs.map Int.toNat) []):=o1;rw[decide_eq_false (show ¬ ¬((0,posts L (rs.map Int.toNat) []):Int×List Nat).1=0 by simp),zaH,o1.vec.len]at hr;rw[if_pos rfl];dsimp only at hbd hbl;unfold zbe;generalize posts L (rs.map Int.toNat) []=out at *;have hst1:StF H1 p lim L K sl f g:=hst.keep (fun i hi=>o1.old i (hst.foot_lt hi)) o1.next
  obtain⟨H2,v2,l1,l2⟩:=zld hst1 (by omega) o1.vec.rd (by omega) hbd (zcq RR (.pointer (some ⟨p,0,none⟩)) v1 (.int .i64 (out.length:Int))) (fun H acc=>by
   unfold zcq;simp only[qg0,qg1]
   rw[lF (Int.lt_irrefl _)]) (fun i t n H acc acc' H' hi ht hn hs hv a b=>by
   have hlt:i<out.length:=(List.getElem?_eq_some_iff.1 hi).1;have hvI:Rdb H 1 v1 (out.map fun (t:Nat)=>(t:Int)).length (zbR (out.map fun (t:Nat)=>(t:Int))):=by rw[length_map,←zbw];exact hv
   obtain⟨y,x1,x2⟩:=hvI.int (i:=i) (t:=(t:Int)) (by rw[List.getElem?_map,hi];rfl);have q:(i:Int)<(out.length:Int):=by omega
   have w1:IntKind.i64.wrap ((i:Int)+1)=((i+1:Nat):Int):=zaz (by omega) (by omega);have hT':isT L (t:Int)=true:=zaV.2 ⟨by omega,by omega⟩;have hnode:zdc L (t:Int)=n:=by unfold zdc;rw[hT',if_pos rfl,show ((t:Int)-1).toNat=t-1 by omega,hn];rfl
   have e10:=Go.AM.c10 hs.st (by omega) (t:Int);rw[hnode,hT',if_pos rfl]at e10;unfold zcq;simp only[qg0,qg1];rw[lT q,x1,x2,zag e10,x01,spl7,zir,zaZ,zad];by_cases h4:n.op=4
   ·rw[decide_eq_true h4,za0,zlZ,zf9,bvv,a h4,zaU,w1]
   ·obtain⟨rfl,rfl⟩:=b h4
    rw[decide_eq_false h4,zaH,zaU,w1]) out.length 0 H1 (.slice none 0 0) (by omega) ((Own.nil H1).addNil 3)
  have l1:zau (zcq RR (.pointer (some ⟨p,0,none⟩)) v1 (.int .i64 (out.length:Int))) [.slice none 0 0,.int .i64 0] H1=_:=l1;rw[l1,zan,za6,zaC]at hr;exact⟨H2,v2,hr,(zeG.of l2).behind o1.next o1.old⟩
end
theorem c_plus{a b:Nat}(ha:a<18446744073709551616)(hb:b<18446744073709551616)(H:Hp):RR BG [.int .u64 (a:Int),.int .u64 (b:Int)] H=some (.int .u64 ((satU (a+b):Nat):Int),H):=by
 have hr:=zmN E0 rfl (.int .u64 (a:Int)) (.int .u64 (b:Int)) H;unfold ziv at hr;rw[satU_eq];by_cases h:a+b≤18446744073709551615
 ·have e:IntKind.u64.wrap ((a:Int)+(b:Int))=((a+b:Nat):Int):=by rw[Go.AM.zhs (by omega) (by omega)];omega
  rw[zaU,e,lF (by omega),zaU,e]at hr;rw[if_pos h];exact hr
 ·have e:IntKind.u64.wrap ((a:Int)+(b:Int))=((a+b-18446744073709551616:Nat):Int):=by have:=Go.AM.u64mod (a:=a+b) (by omega) (by omega);rw[←this];congr 1
  rw[zaU,e,lT (by omega)]at hr;rw[if_neg h];exact hr
theorem zmI(n:Nat):satU n<18446744073709551616:=by unfold satU;omega
theorem siz_bd{L:List Nd}(hd:Dag L):∀t,t≤L.length→(sizT L t).1<18446744073709551616∧(sizT L t).2≤t:=by
 intro t;induction t using Nat.strongRecOn with
 |_ t ih=>
  intro ht;by_cases h0:t=0
  ·subst h0;exact⟨by show (0:Nat)<_;decide,Nat.le_refl _⟩
  ·have hn:L[t-1]?=some (L[t-1]'(by omega)):=List.getElem?_eq_getElem (by omega);generalize L[t-1]'(by omega)=n at hn;have ha:=hd.a _ n hn;have hb:=hd.b _ n hn;have hc:=hd.c _ n hn;have a2:=ih n.a.toNat (by omega) (by omega);have b2:=ih n.b.toNat (by omega) (by omega);have c2:=ih n.c.toNat (by omega) (by omega);unfold sizT at a2 b2 c2 ⊢;rw[zfn hd sizF (0,0) (by omega) hn];refine⟨zmI _,?_⟩;show max (max _ _) _+1≤t;omega
theorem zhQ{B H:Hp}{m1 m2:Nat}{N D:Int→Int}(h:VS B H m1 m2 N D){t:Nat}{a b c:Int}{j:Nat}{x:Int}(hx:[a,b,c][j]?=some x)(hxt:x≠(t:Int)){n d nx dx:Nat}(hn:N (t:Int)=(n:Int))(hd:D (t:Int)=(d:Int))
  (hx0:x=0→nx=0∧dx=0) (hx1:x≠0→N x=(nx:Int)∧D x=(dx:Int)) (bn:n<18446744073709551616) (bnx:nx<18446744073709551616) :
  ∃H' N' D',zbx RR (.map (some m1)) (.map (some m2)) (.int .i64 (t:Int)) (.agg #[.int .i64 a,.int .i64 b,.int .i64 c]) [.int .i64 (j:Int)] H=some (.next,[.int .i64 ((j+1:Nat):Int)],H')∧VS B H' m1 m2 N' D'∧N' (t:Int)=((satU (n+nx):Nat):Int)∧D' (t:Int)=((max d dx:Nat):Int)∧∀y,y≠(t:Int)→N' y=N y∧D' y=D y:=by
 have hj:j<3:=(List.getElem?_eq_some_iff.1 hx).1;have q:(j:Int)<3:=by omega
 have w1:IntKind.i64.wrap ((j:Int)+1)=((j+1:Nat):Int):=zaz (by omega) (by omega);by_cases h0:x=0
 ·obtain⟨rfl,rfl⟩:=hx0 h0;refine⟨H,N,D,?_,h,?_,?_,fun y _=>⟨rfl,rfl⟩⟩
  ·unfold zbx;simp only[qg0];rw[lT q,arr3 hx,zba,bF (fun q=>q h0),zaU,w1]
  ·rw[hn];unfold satU;omega
  ·rw[hd];omega
 ·obtain⟨e1,e2⟩:=hx1 h0;obtain⟨H1,u1,h1⟩:=h.up1 (t:Int) ((satU (n+nx):Nat):Int);obtain⟨H2,u2,h2⟩:=h1.up2 (t:Int) ((max d dx:Nat):Int);have hmx:(if ((dx:Nat):Int)>((d:Nat):Int) then ((dx:Nat):Int) else ((d:Nat):Int))=((max d dx:Nat):Int):=by split<;>omega
  refine⟨H2,_,_,?_,h2,by rw[if_pos rfl],by rw[if_pos rfl],fun y hy=>⟨by rw[if_neg hy],by rw[if_neg hy]⟩⟩;have lv:∀(x:Int) (f:Value→Option Outc),za7 PP Aa (.int .u64 0) (.map (some m1)) (.int .i64 x) false H f=f (.int .u64 (N x)):=fun x f=>h.f1.look ikV x f;have lw:∀(x:Int) (f:Value→Option Outc),za7 PP Aa (.int .i64 0) (.map (some m2)) (.int .i64 x) false H1 f=f (.int .i64 (D x)):=fun x f=>h1.f2.look ikV x f;unfold zbx;simp only[qg0];rw[lT q,arr3 hx,zba,bT h0,lv,lv,hn,e1,zag (c_plus bn bnx H),u1,lw,lw,hd,e2,mm_i64,hmx,u2,zaU,w1]
section
variable {B:Hp}{p f g:Nat}{lim:Int}{L:List Nd}{K:List (ByteArray×Int)}{sl:Value}(hst:StF B p lim L K sl f g)(hL:(L.length:Int)≤4611686018427387904)(hd:Dag L)
 {v:Value}{out:List Nat}(hv:Rdb B 1 v out.length (ints out))(hol:out.length≤2^41)(hcl:zcH L out)(hnd:out.Nodup)(hbd:∀t∈out,1≤t∧t≤L.length){m1 m2:Nat}
include hst hL hd hv hol hcl hbd hnd
theorem size_step{i t:Nat}(hi:out[i]?=some t){H:Hp}{N D:Int→Int}(h:VS B H m1 m2 N D)(h0:D (t:Int)=0)(hin:∀u∈out.take i,N (u:Int)=(((sizT L u).1:Nat):Int)∧D (u:Int)=(((sizT L u).2:Nat):Int)) :
  ∃H' N' D',zbW RR (.pointer (some ⟨p,0,none⟩)) v (.map (some m1)) (.map (some m2)) (.int .i64 (out.length:Int)) [.int .i64 (i:Int)] H=some (.next,[.int .i64 ((i+1:Nat):Int)],H')∧VS B H' m1 m2 N' D'∧N' (t:Int)=(((sizT L t).1:Nat):Int)∧D' (t:Int)=(((sizT L t).2:Nat):Int)∧∀y,y≠(t:Int)→N' y=N y∧D' y=D y:=by
 have hlt:i<out.length:=(List.getElem?_eq_some_iff.1 hi).1;have ht:=hbd t (mem_of_getElem? hi);have hn:L[t-1]?=some (L[t-1]'(by omega)):=List.getElem?_eq_getElem (by omega);generalize L[t-1]'(by omega)=n at hn;have hvH:Rdb H 1 v out.length (ints out):=hv.keep' (fun j hj=>h.old j (hv.lt hj)) h.next;have hvI:Rdb H 1 v (out.map fun (t:Nat)=>(t:Int)).length (zbR (out.map fun (t:Nat)=>(t:Int))):=by rw[length_map,←zbw];exact hvH
 obtain⟨y,x1,x2⟩:=hvI.int (i:=i) (t:=(t:Int)) (by rw[List.getElem?_map,hi];rfl);have q:(i:Int)<(out.length:Int):=by omega
 have w1:IntKind.i64.wrap ((i:Int)+1)=((i+1:Nat):Int):=zaz (by omega) (by omega);have hstH:StF H p lim L K sl f g:=hst.keep (fun i hi=>h.old i (hst.foot_lt hi)) h.next;have hT:isT L (t:Int)=true:=zaV.2 ⟨by omega,by omega⟩;have hnode:zdc L (t:Int)=n:=by unfold zdc;rw[hT,if_pos rfl,show ((t:Int)-1).toNat=t-1 by omega,hn];rfl
 have e10:=Go.AM.c10 hstH.st hL (t:Int);rw[hnode,hT,if_pos rfl]at e10;have hkf:=(zgO hd hn).2;have hkt:kids L t=zch n:=by unfold kids;rw[hn]
 have ha:=hd.a _ n hn;have hb:=hd.b _ n hn;have hc:=hd.c _ n hn;obtain⟨H1,u1,h1⟩:=h.up1 (t:Int) 1;have part:∀(x:Int),x=n.a∨x=n.b∨x=n.c→0≤x→x<(t:Int)→(x=0→(sizT L x.toNat).1=0∧(sizT L x.toNat).2=0)∧(x≠0→N x=(((sizT L x.toNat).1:Nat):Int)∧D x=(((sizT L x.toNat).2:Nat):Int)):=fun x hx g1 g2=>by refine⟨fun e=>by subst e;exact⟨rfl,rfl⟩,fun e=>?_⟩;obtain⟨c,c1,c2⟩:=hkf x hx e;have:=hin c (hcl i t hi c (by rw[hkt];exact c1));rw[←c2,Int.toNat_natCast];exact this
 obtain⟨pa0,pa1⟩:=part n.a (.inl rfl) (by omega) (by omega);obtain⟨pb0,pb1⟩:=part n.b (.inr (.inl rfl)) (by omega) (by omega);obtain⟨pc0,pc1⟩:=part n.c (.inr (.inr rfl)) (by omega) (by omega);have ba:=siz_bd hd n.a.toNat (by omega);have bb:=siz_bd hd n.b.toNat (by omega);have bc:=siz_bd hd n.c.toNat (by omega);obtain⟨H2,N2,D2,s2,h2,n2,d2,o2⟩:=zhQ h1 (t:=t) (a:=n.a) (b:=n.b) (c:=n.c) (j:=0) (x:=n.a) rfl (by omega) (n:=1) (d:=0) (nx:=(sizT L n.a.toNat).1) (dx:=(sizT L n.a.toNat).2) (by rw[if_pos rfl];rfl) h0 pa0 (fun e=>by rw[if_neg (by omega)];exact pa1 e) (by decide) ba.1;obtain⟨H3,N3,D3,s3,h3,n3,d3,o3⟩:=zhQ h2 (t:=t) (a:=n.a) (b:=n.b) (c:=n.c) (j:=1) (x:=n.b) rfl (by omega) (nx:=(sizT L n.b.toNat).1) (dx:=(sizT L n.b.toNat).2) n2 d2 pb0 (fun e=>by rw[(o2 n.b (by omega)).1,(o2 n.b (by omega)).2,if_neg (by omega)];exact pb1 e) (zmI _) bb.1;obtain⟨H4,N4,D4,s4,h4,n4,d4,o4⟩:=zhQ h3 (t:=t) (a:=n.a) (b:=n.b) (c:=n.c) (j:=2) (x:=n.c) rfl (by omega) (nx:=(sizT L n.c.toNat).1) (dx:=(sizT L n.c.toNat).2) n3 d3 pc0 (fun e=>by rw[(o3 n.c (by omega)).1,(o3 n.c (by omega)).2,(o2 n.c (by omega)).1,(o2 n.c (by omega)).2,if_neg (by omega)];exact pc1 e) (zmI _) bc.1;have hinner:zau (zbx RR (.map (some m1)) (.map (some m2)) (.int .i64 (t:Int)) (.agg #[.int .i64 n.a,.int .i64 n.b,.int .i64 n.c])) [.int .i64 0] H1=some (.exit 2,[.int .i64 3],H4):=by
  rw[zah];have s2:zbx RR (.map (some m1)) (.map (some m2)) (.int .i64 (t:Int)) (.agg #[.int .i64 n.a,.int .i64 n.b,.int .i64 n.c]) [.int .i64 0] H1=_:=s2;rw[s2];show zau _ _ _=_;rw[zah,s3];show zau _ _ _=_;rw[zah,s4];show zau _ [.int .i64 3] _=_;rw[zah];have:zbx RR (.map (some m1)) (.map (some m2)) (.int .i64 (t:Int)) (.agg #[.int .i64 n.a,.int .i64 n.b,.int .i64 n.c]) [.int .i64 3] H4=some (.exit 2,[.int .i64 3],H4):=by unfold zbx;simp only[qg0];rw[lF (by decide)]
  rw[this];rfl
 obtain⟨H5,u5,h5⟩:=h4.up2 (t:Int) (((sizT L t).2:Nat):Int);have esz:sizT L t=sizF n (sizT L n.a.toNat) (sizT L n.b.toNat) (sizT L n.c.toNat):=zfn hd sizF (0,0) ht.1 hn;have ld:∀(f:Value→Option Outc),za7 PP Aa (.int .i64 0) (.map (some m2)) (.int .i64 (t:Int)) false H4 f=f (.int .i64 (D4 (t:Int))):=fun f=>h4.f2.look ikV _ f;have wd1:IntKind.i64.wrap (((max (max (max 0 (sizT L n.a.toNat).2) (sizT L n.b.toNat).2) (sizT L n.c.toNat).2:Nat):Int)+1)=(((sizT L t).2:Nat):Int):=by
  rw[zaz (by omega) (by omega),esz];show _=((max (max _ _) _+1:Nat):Int)
  omega
 refine⟨H5,_,_,?_,h5,?_,by rw[if_pos rfl],fun y hy=>?_⟩
 ·unfold zbW;simp only[qg0];rw[lT q,x1,x2,zag e10,x01,spl7,u1,zl1,zl0,zoh,zhu,hinner,zan,za6,zaC,ld,d4,zaU,wd1,u5,zaU,w1]
 ·rw[n4,esz];rfl
 ·rw[if_neg hy];refine⟨?_,?_⟩
  ·rw[(o4 y hy).1,(o3 y hy).1,(o2 y hy).1,if_neg hy]
  ·rw[(o4 y hy).2,(o3 y hy).2,(o2 y hy).2]
theorem zlh:∀(k i:Nat) (H:Hp) (N D:Int→Int),i+k=out.length→VS B H m1 m2 N D→(∀x:Int,(∀t∈out.take i,(t:Int)≠x)→D x=0)→(∀u∈out.take i,N (u:Int)=(((sizT L u).1:Nat):Int)∧D (u:Int)=(((sizT L u).2:Nat):Int)) →
  ∃H' N' D',zau (zbW RR (.pointer (some ⟨p,0,none⟩)) v (.map (some m1)) (.map (some m2)) (.int .i64 (out.length:Int))) [.int .i64 (i:Int)] H=some (.exit 0,[.int .i64 (out.length:Int)],H')∧VS B H' m1 m2 N' D'∧∀u∈out,N' (u:Int)=(((sizT L u).1:Nat):Int)∧D' (u:Int)=(((sizT L u).2:Nat):Int)
 |0,i,H,N,D,hk,h,_,hin=>by
  have:i=out.length:=by omega
  subst this;refine⟨H,N,D,?_,h,fun u hu=>hin u (by rw[take_length];exact hu)⟩;rw[zah];have:zbW RR (.pointer (some ⟨p,0,none⟩)) v (.map (some m1)) (.map (some m2)) (.int .i64 (out.length:Int)) [.int .i64 (out.length:Int)] H=some (.exit 0,[.int .i64 (out.length:Int)],H):=by unfold zbW;simp only[qg0];rw[lF (Int.lt_irrefl _)]
  rw[this];rfl
 |k+1,i,H,N,D,hk,h,h0,hin=>by
  have hlt:i<out.length:=by omega
  have hi:out[i]?=some out[i]:=List.getElem?_eq_getElem hlt;have hdrop:out.drop i=out[i]::out.drop (i+1):=drop_eq_getElem_cons hlt;generalize out[i]=t at hi hdrop;have htk:out.take (i+1)=out.take i++[t]:=by rw[take_add_one,hi];rfl
  have hnew:∀u∈out.take i,(u:Int)≠(t:Int):=fun u hu e=>by
   have e:u=t:=by omega
   subst e;have:=hnd;rw[←take_append_drop i out,hdrop]at this;exact(nodup_append.1 this).2.2 u hu u (mem_cons_self ..) rfl
  obtain⟨H1,N1,D1,e1,h1,n1,d1,o1⟩:=size_step hst hL hd hv hol hcl hnd hbd hi h (h0 _ hnew) hin
  obtain⟨H',N',D',g1,g2,g3⟩:=zlh k (i+1) H1 N1 D1 (by omega) h1 (fun x hx=>by
   rw[htk]at hx;rw[(o1 x fun e=>hx t (mem_append_right _ (mem_singleton.2 rfl)) e.symm).2]
   exact h0 x fun u hu=>hx u (mem_append_left _ hu)) (fun u hu=>by
   rw[htk]at hu;rcases mem_append.1 hu with hu|hu
   ·rw[(o1 _ (hnew u hu)).1,(o1 _ (hnew u hu)).2];exact hin u hu
   ·rw[mem_singleton]at hu;subst hu
    exact⟨n1,d1⟩)
  refine⟨H',N',D',?_,g2,g3⟩;rw[zah,e1];exact g1
end
def sizeI(L:List Nd)(t:Int):Nat×(Nat×Nat)×Int:=if isT L t=true then ((posts L [t.toNat] []).length,sizT L t.toNat,0) else (0,(0,0),70)
def sizeV(s:Nat×(Nat×Nat)×Int):Value:=.tuple #[.int .i64 (s.1:Int),.int .u64 (s.2.1.1:Int),.int .i64 (s.2.1.2:Int),.int .i64 s.2.2]
theorem one_order{L:List Nd}{t:Int}:zdJ L [t]=if isT L t=true then (0,posts L [t.toNat] []) else (70,[]):=by unfold zdJ;rw[all_cons,all_nil,Bool.and_true];rfl
section
variable {H0:Hp}{p f g:Nat}{lim:Int}{L:List Nd}{K:List (ByteArray×Int)}{sl:Value}(hst:StF H0 p lim L K sl f g)(hd:Dag L)(hL:L.length*64≤2^46)(t:Int)
include hst hd hL
theorem c_size:∃H',RR AV [.pointer (some ⟨p,0,none⟩),.int .i64 t] H0=some (sizeV (sizeI L t),H')∧Frm (fun _=>False) H0 H':=by
 have hr:=(zmQ E0 rfl (.pointer (some ⟨p,0,none⟩)) (.int .i64 t) H0).trans (znn _ _ _ _);have hb:∀(k:Value→Hp→Option (Value×Hp)),zal 1 [.int .i64 0] 1 [(0,.int .i64 t)] H0 k=k (.slice (some ⟨H0.next,0,some 1⟩) 1 1) (H0.new (.cells [.int .i64 t] true)):=fun k=>rfl;let H1:=H0.new (.cells [.int .i64 t] true)
 have h1o:∀j,j<H0.next→H1.get j=H0.get j:=fun j hj=>by show (H0.new _).get j=_;rw[get_new,if_neg (by omega)]
 have h1n:H1.next=H0.next+1:=rfl;have hst1:StF H1 p lim L K sl f g:=hst.keep (fun i hi=>h1o i (hst.foot_lt hi)) (by omega);have hx1:Rdb H1 1 (.slice (some ⟨H0.next,0,some 1⟩) 1 1) [t].length (zbR [t]):=.inr ⟨H0.next,1,[],true,rfl,Nat.le_refl _,by show (H0.new _).get _=_;rw[get_new,if_pos rfl];rfl,rfl,by omega⟩;obtain⟨H2,v2,e2,o2⟩:=Go.AM.c13 hst1 hd hL hx1.o (by show 1≤_;decide);have hn2:=o2.next;have o02:∀j,j<H0.next→H2.get j=H0.get j:=fun j hj=>by rw[o2.old j (by omega),h1o j hj]
 rw[zlq Ao _ ⟨AC,by kernel_rfl⟩,zad,zaH,hb,zag e2,x01,zba,zad]at hr;have hbd:=zob hst1 hd hL hx1.o (by show 1≤_;decide);have hbl:=zlR hd [t];unfold sizeI;rw[one_order]at o2 hr hbd hbl;rw[all_cons,all_nil,Bool.and_true]at hbd;cases hT:isT L t with
 |false=>
  rw[hT,if_neg (by decide)]at o2 hr;rw[decide_eq_true (show ¬((70,([]:List Nat)):Int×List Nat).1=0 by decide),za0]at hr;rw[if_neg (by decide)];exact⟨H2,hr,by omega,fun j hj _=>o02 j hj⟩
 |true=>
  have hbd:=hbd hT;rw[hT,if_pos rfl]at o2 hr hbd hbl;rw[if_pos rfl];have o2:OrdOk H1 H2 v2 (posts L [t.toNat] []):=o2;dsimp only at hbd hbl;have htb:=zaV.1 hT;have h1:∀c∈[t.toNat],1≤c∧c≤L.length:=fun c hc=>by rw[mem_singleton]at hc;omega
  have hndp:(posts L [t.toNat] []).Nodup:=zf2 hd _ [] (fun c hc=>(h1 c hc).1) nodup_nil;have hcl:zcH L (posts L [t.toNat] []):=(ze7 hd _ [] (fun c hc=>(h1 c hc).1) (fun i t h=>by cases h)).1;have hmem:=(zcU hd (N:=L.length) [t.toNat] [] h1).2.1 t.toNat (mem_singleton.2 rfl);rw[decide_eq_false (show ¬ ¬((0,posts L [t.toNat] []):Int×List Nat).1=0 by simp),zaH]at hr;generalize posts L [t.toNat] []=out at *;have hh:∀(n:Int) (f:Option (Value×Hp)),zeo (.int .i64 n) f=f:=fun n f=>rfl;have hm:∀(H:Hp) (f:Value→Hp→Option (Value×Hp)),zbD H f=f (.map (some H.next)) (H.new (.map [])):=fun H f=>rfl;let Hu:=H2.new (.map [])
  let Hv:=Hu.new (.map [])
  have hvs:VS H2 Hv H2.next Hu.next (fun _=>0) (fun _=>0):=by
   refine⟨?_,fun j hj=>?_,?_,?_,?_,?_,?_,?_⟩
   ·show H2.next≤H2.next+1+1;omega
   ·show ((H2.new (.map [])).new (.map [])).get j=_;rw[get_new,if_neg (by show j≠H2.next+1;omega),get_new,if_neg (by omega)]
   ·exact Nat.le_refl _
   ·show H2.next≤H2.next+1;omega
   ·show H2.next≠H2.next+1;omega
   ·show H2.next<H2.next+1+1;omega
   ·exact(MapU.new H2).keep (by show (Hu.new (.map [])).get H2.next=Hu.get H2.next;rw[get_new,if_neg (by show H2.next≠H2.next+1;omega)])
   ·exact MapF.new Hu
  have hst2:StF H2 p lim L K sl f g:=hst.keep (fun i hi=>o02 i (hst.foot_lt hi)) (by omega);obtain⟨H3,N',D',l1,h3,l3⟩:=zlh hst2 (by omega) hd o2.vec.rd (by omega) hcl hndp hbd out.length 0 Hv (fun _=>0) (fun _=>0) (by omega) hvs (fun _ _=>rfl) (fun t ht=>by rw[take_zero]at ht;cases ht);have l1:zau (zbW RR (.pointer (some ⟨p,0,none⟩)) v2 (.map (some H2.next)) (.map (some (H2.new (.map [])).next)) (.int .i64 (out.length:Int))) [.int .i64 0] ((H2.new (.map [])).new (.map []))=_:=l1;have lv:∀(x:Int) (f:Value→Option (Value×Hp)),za7 PP Aa (.int .u64 0) (.map (some H2.next)) (.int .i64 x) false H3 f=f (.int .u64 (N' x)):=fun x f=>h3.f1.look ikV x f;have lw:∀(x:Int) (f:Value→Option (Value×Hp)),za7 PP Aa (.int .i64 0) (.map (some (H2.new (.map [])).next)) (.int .i64 x) false H3 f=f (.int .i64 (D' x)):=fun x f=>h3.f2.look ikV x f;rw[o2.vec.len,hh,hm,o2.vec.len,hh,hm,o2.vec.len,l1,zan,za6,zaC,o2.vec.len,lv,lw]at hr;obtain⟨r1,r2⟩:=l3 t.toNat hmem;rw[Int.toNat_of_nonneg (by omega)]at r1 r2;rw[r1,r2]at hr;have:=h3.next;exact⟨H3,hr,by omega,fun j hj _=>by rw[h3.old j (by omega),o02 j hj]⟩
end
end Go.AM.N14
namespace Go.AM.N14
open Go Go.AM
section
end
section
end
section
end
end Go.AM.N14
namespace Go.AM
open Go
def liveT:List UInt8:=[49,32,118,97,114,32,120,32,56,10,50,32,118,97,114,32,121,32,56,10,51,32,97,100,100,32,49,32,50,10,52,32,101,113,32,51,32,49,10,114,111,111,116,115,32,51,32,52,10]
def nmX:ByteArray:=⟨#[120]⟩
def nmY:ByteArray:=⟨#[121]⟩
def zpe:List Nd:=[⟨4,8,0,0,0,0,nmX⟩,⟨4,8,0,0,0,0,nmY⟩,⟨20,8,1,2,0,0,⟨#[]⟩⟩,⟨9,0,3,1,0,0,⟨#[]⟩⟩]
def liveK:List (ByteArray×Int):=[(nmX,8),(nmY,8)]
theorem zl7:zfD 0 (zcZ liveT) 0 [] [] []=.good zpe liveK [3,4]:=by kernel_rfl
end Go.AM
namespace Go.AM.N14
open List Go Go.AM
theorem nodeP_num{ws:List (List UInt8)}{ts:List Int}{L:List Nd}{m:Nd}(h:zpb ws ts L=some m):zgv m:=by
 unfold zpb at h;split at h
 ·cases h
 ·split at h
  ·cases h
  ·split at h
   ·rename_i q;cases h;exact(zh0 _ _ _ _ _ _ _ q).2 ⟨Int.le_refl _,by show (0:Int)<_;decide⟩
   ·cases h
theorem partF_mem{ts:List Int}{ws:List (List UInt8)}{x:Int}(h:zkG ts ws=some x):x∈ts:=by
 unfold zkG at h;split at h
 ·cases h
 ·split at h
  ·rename_i q;cases h;rw[getD_eq_getElem?_getD,List.getElem?_eq_getElem (by omega)];exact getElem_mem _
  ·cases h
theorem zjq{ts:List Int}:∀(ws:List (List UInt8)) (q:List Int),zdF ts ws=some q→∀x∈q,x∈ts
 |[],q,h=>by cases h;exact fun x hx=>by cases hx
 |w::r,q,h=>by
  unfold zdF at h;split at h
  ·cases h
  ·rename_i t ht;split at h
   ·cases h
   ·rename_i l hl;cases h;intro x hx;rcases mem_cons.1 hx with e|e
    ·rw[e];exact partF_mem ht
    ·exact zjq r l hl x e
theorem mk_grow{lim:Int}{L:List Nd}{K:List (ByteArray×Int)}(n:Nd):L.length≤(mkR lim L K n).2.2.1.length:=by
 by_cases h0:(mkR lim L K n).2.1=0
 ·obtain⟨_,⟨q,_,e⟩|⟨_,_,e⟩⟩:=zis h0<;>rw[e]<;>simp
 ·rw[mk_no h0];exact Nat.le_refl _
theorem zjS{lim:Int}:∀(lines:List (List UInt8)) (k:Nat) (L:List Nd) (K:List (ByteArray×Int)) (ts:List Int) (L':List Nd) (K':List (ByteArray×Int)) (q:List Int),zbZ L K→(∀x∈ts,1≤x∧x≤L.length)→zfD lim lines k L K ts=.good L' K' q→zbZ L' K'∧∀x∈q,1≤x∧x≤L'.length
 |[],k,L,K,ts,L',K',q,hg,ht,h=>by cases h
 |l::rest,k,L,K,ts,L',K',q,hg,ht,h=>by
  unfold zfD at h;cases hw:zbN l with
  |nil=>rw[hw]at h;cases h
  |cons w0 r=>
   rw[hw]at h;dsimp only at h;split at h
   ·cases hp:zdF ts r with
    |none=>rw[hp]at h;cases h
    |some q'=>
     rw[hp]at h;cases rest with
     |nil=>
      cases h;exact⟨hg,fun x hx=>ht x (zjq r _ hp x hx)⟩
     |cons a b=>cases h
   ·cases hp:zni (w0::r) ts L with
    |none=>rw[hp]at h;cases h
    |some m=>
     rw[hp]at h;dsimp only at h;split at h
     ·cases h
     ·rename_i he;have he:(mkR lim L K m).2.1=0:=Decidable.not_not.1 he;have hm:zgv m:=by
       unfold zni at hp;split at hp
       ·cases hp
       ·split at hp
        ·exact nodeP_num hp
        ·cases hp
      refine zjS rest (k+1) _ _ _ L' K' q (zkO hm hg) (fun x hx=>?_) h;have hgr:=mk_grow (lim:=lim) (L:=L) (K:=K) m;rcases mem_append.1 hx with hx|hx
      ·have:=ht x hx;omega
      ·rw[mem_singleton]at hx;rw[hx];exact mk_bd he
theorem zl6{lim:Int}{l:List UInt8}{L:List Nd}{K:List (ByteArray×Int)}{q:List Int}(h:zfD lim (zcZ l) 0 [] [] []=.good L K q):zbZ L K∧∀x∈q,1≤x∧x≤L.length:=
 zjS _ _ _ _ _ _ _ _ zbZ.nil (fun x hx=>by cases hx) h
theorem load_bd{l:List UInt8}{L:List Nd}{K:List (ByteArray×Int)}{q:List Int}(h:zfD 0 (zcZ l) 0 [] [] []=.good L K q):L.length≤l.length+1∧q.length≤l.length+1:=by have hbd:=zok (N:=l.length) _ _ _ _ _ _ _ _ (zom l) h;have:=zkR l;have h1:=hbd.1;rw[length_nil]at h1;exact⟨by omega,hbd.2⟩
theorem c_no(x:Value)(H:Hp):RR Aj [x] H=some (x,H):=zgI E0 rfl x H
theorem Rdb.at1{H:Hp}{x:Value}{n:Nat}{cs:List Value}(hx:Rdb H 1 x n cs){i:Nat}{z:Value}(hi:cs[i]?=some z) :
  ∃y,(∀(α:Type) (kd:IntKind) (k:Value→Option α),pIdx 1 x (.int kd (i:Int)) k=k (.pointer (some ⟨y,i*1,none⟩)))∧(∀(α:Type) (k:Value→Option α),zak 1 false H (.pointer (some ⟨y,i*1,none⟩)) k=k z):=by
 have hs:=hx.size;obtain⟨y,hy,⟨rest,own,hg⟩,hix⟩:=hx.ix (i:=i) (by have:=(List.getElem?_eq_some_iff.1 hi).1;omega);exact⟨y,hix,fun α k=>zfE hg (by rw[Nat.mul_one];exact hi) k⟩
theorem zj5{H:Hp}{x y:Value}{l:List Int}(hx:Rdb H 1 x l.length (zbR l))(hy:Rdb H 1 y l.length (zbR l))(hl:l.length≤2^60):RR AU [x,y] H=some (.bool true,H):=by
 have hr:=(zen E0 rfl x y H).trans (zep _ _ _ _);refine hr.trans ?_
 have hloop:=zgN (S:=zbg RR x y) (H:=H) l.length (fun i hi=>by
   have hg:(zbR l)[i]?=some (.int .i64 l[i]):=zgk (List.getElem?_eq_getElem hi);obtain⟨a,a1,a2⟩:=Rdb.at1 hx hg;obtain⟨b,b1,b2⟩:=Rdb.at1 hy hg;have w:IntKind.i64.wrap ((i:Int)+1)=((i+1:Nat):Int):=zaz (by omega) (by omega);have q:(i:Int)<(l.length:Int):=by omega
   unfold zbg
   simp only[hx.len,zbh,qg0,q,decide_true,zad,za0,a1,a2,b1,b2,zba,ne_eq,not_true_eq_false,decide_false,zaH,zaU,w])
  (by unfold zbg;simp only[hx.len,zbh,qg0,Int.lt_irrefl,decide_false,zad,zaH]) l.length 0 (by omega)
 rw[hx.len,hy.len,zba,bF (by simp),show (0:Int)=((0:Nat):Int) from rfl,hloop,zan,za6,zaC]
theorem wvs_get{l:List W64}{i:Nat}{a:W64}(h:l[i]?=some a):(wvs l)[i]?=some (.int .u64 (a.toNat:Int)):=by unfold wvs;rw[List.getElem?_map,h];rfl
theorem ziR{H:Hp}{x y:Value}{l:List W64}(hx:Rdb H 1 x l.length (wvs l))(hy:Rdb H 1 y l.length (wvs l))(hl:l.length≤2^60):RR AO [x,y] H=some (.bool true,H):=by
 have hr:=(zea E0 rfl x y H).trans (zei _ _ _ _);refine hr.trans ?_
 have hloop:=zgN (S:=zbd RR x y) (H:=H) l.length (fun i hi=>by
   have hg:(wvs l)[i]?=some (.int .u64 (l[i].toNat:Int)):=wvs_get (List.getElem?_eq_getElem hi);obtain⟨a,a1,a2⟩:=Rdb.at1 hx hg;obtain⟨b,b1,b2⟩:=Rdb.at1 hy hg;have w:IntKind.i64.wrap ((i:Int)+1)=((i+1:Nat):Int):=zaz (by omega) (by omega);have q:(i:Int)<(l.length:Int):=by omega
   unfold zbd
   simp only[hx.len,zbh,qg0,q,decide_true,zad,za0,a1,a2,b1,b2,zba,ne_eq,not_true_eq_false,decide_false,zaH,zaU,w])
  (by unfold zbd;simp only[hx.len,zbh,qg0,Int.lt_irrefl,decide_false,zad,zaH]) l.length 0 (by omega)
 rw[hx.len,hy.len,zba,bF (by simp),show (0:Int)=((0:Nat):Int) from rfl,hloop,zan,za6,zaC]
def zkQ:List VV:=[⟨nmX,8,200⟩,⟨nmY,8,100⟩]
def zgh:List VV:=[⟨nmX,4,1⟩]
theorem live_vals:zce zpe [3,4] zkQ=(0,[44#64,0#64]):=by kernel_rfl
theorem live_val1:zce zpe [3] zgh=(71,[]):=by kernel_rfl
theorem live_size:sizeI zpe 4=(4,(5,3),0):=by kernel_rfl
theorem zol:(∀v∈zkQ,v.Ok)∧∀v∈zgh,v.Ok:=by
 refine⟨fun v hv=>?_,fun v hv=>?_⟩
 ·simp only[zkQ,mem_cons,not_mem_nil,or_false]at hv;rcases hv with rfl|rfl
  ·exact⟨by show (0:Int)≤200;decide,by show (200:Int)<_;decide⟩
  ·exact⟨by show (0:Int)≤100;decide,by show (100:Int)<_;decide⟩
 ·simp only[zgh,mem_cons,not_mem_nil,or_false]at hv;subst hv;exact⟨by show (0:Int)≤1;decide,by show (1:Int)<_;decide⟩
theorem zm8{H:Hp}{sz n:Nat}{cs:List Value}(h:cs.length=n*sz):Rdb (H.new (.cells cs true)) sz (.slice (some ⟨H.next,0,some sz⟩) n n) n cs:=
 .inr ⟨H.next,n,[],true,rfl,Nat.le_refl _,by rw[get_new,if_pos rfl,append_nil],h,by show H.next<H.next+1;omega⟩
theorem s_and{α:Type}(k:Value→Option α):pBin PP .add Aa (.int .i64 0) (.int .i64 0) k=k (.int .i64 0):=rfl
theorem c_live{H:Hp}(hL:Laid H):∃H',RR BC [] H=some (.bool true,H')∧Frm (fun _=>False) H H':=by
 have hr:=zfz E0 rfl H;unfold zdA at hr;have hc:=c_load hL liveT (by decide) (lim:=0) (by decide);rw[zl7]at hc;have hgood:=zl6 zl7;obtain⟨H1,st,f,g,sl,rv,a1,a2,a3,a4,a5,a6,a7⟩:=hc;have a1:RR AP [.string ⟨#[49,32,118,97,114,32,120,32,56,10,50,32,118,97,114,32,121,32,56,10,51,32,97,100,100,32,49,32,50,10,52,32,101,113,32,51,32,49,10,114,111,111,116,115,32,51,32,52,10]⟩,.int .i64 0] H=_:=a1;have a3:Vec H1 1 rv 2 (zbR [3,4]):=a3;rw[zmK a1]at hr;simp only[(s_t4 _ _ _ _ _).1,(s_t4 _ _ _ _ _).2.1,(s_t4 _ _ _ _ _).2.2.1,(s_t4 _ _ _ _ _).2.2.2]at hr;rw[zag (c_no _ _),zba,bF (by decide),zlq Ao _ ⟨AC,by kernel_rfl⟩,zad,zaH,a3.len,zba,bF (by decide),zan,za3,bvv3,bvv3]at hr;have hb2:∀(H:Hp) (k:Value→Hp→Option (Value×Hp)),zal 3 [.string ⟨#[]⟩,.int .i64 0,.int .u64 0] 2 [(0,VV.val ⟨⟨#[120]⟩,8,200⟩),(1,VV.val ⟨⟨#[121]⟩,8,100⟩)] H k=k (.slice (some ⟨H.next,0,some 3⟩) 2 2) (H.new (.cells (za5 zkQ) true)):=fun H k=>rfl;have hb1:∀(H:Hp) (k:Value→Hp→Option (Value×Hp)),zal 3 [.string ⟨#[]⟩,.int .i64 0,.int .u64 0] 1 [(0,VV.val ⟨⟨#[120]⟩,4,1⟩)] H k=k (.slice (some ⟨H.next,0,some 3⟩) 1 1) (H.new (.cells (za5 zgh) true)):=fun H k=>rfl;have hb0:∀(H:Hp) (k:Value→Hp→Option (Value×Hp)),zal 1 [.int .u64 0] 2 [(0,(.int .u64 44)),(1,(.int .u64 0))] H k=k (.slice (some ⟨H.next,0,some 1⟩) 2 2) (H.new (.cells (wvs [44#64,0#64]) true)):=fun H k=>rfl;rw[hb2]at hr;let H2:=H1.new (.cells (za5 zkQ) true)
 have f12:Frm (fun _=>False) H1 H2:=zcz _ _ _;have kst:∀{A B:Hp},Frm (fun _=>False) A B→StF A st 0 zpe liveK sl f g→StF B st 0 zpe liveK sl f g:=fun k h=>h.keep (fun j hj=>k.same j (h.foot_lt hj) fun q=>q) k.next;have krv:∀{A B:Hp},Frm (fun _=>False) A B→Vec A 1 rv 2 (zbR [3,4])→Vec B 1 rv 2 (zbR [3,4]):=fun k h=>h.keep k fun _ _ q=>q;have s2:=kst f12 a2;have r2:=krv f12 a3;have n2:Rdb H2 3 (.slice (some ⟨H1.next,0,some 3⟩) 2 2) zkQ.length (za5 zkQ):=zm8 (H:=H1) (sz:=3) (n:=2) (cs:=za5 zkQ) rfl;obtain⟨H3,v3,e3,m3⟩:=zgq s2 hgood.1 (by decide) (rs:=[3,4]) r2.rd.o (by decide) n2 (by decide) zol.1;rw[live_vals]at e3 m3;have e3:RR Au [.pointer (some ⟨st,0,none⟩),rv,.slice (some ⟨H1.next,0,some 3⟩) 2 2] (H1.new (.cells (za5 zkQ) true))=_:=e3;have f23:Frm (fun _=>False) H2 H3:=⟨m3.next,fun j hj _=>m3.old j hj⟩
 have s3:=kst f23 s2;have r3:=krv f23 r2;rw[zag e3,x01]at hr;obtain⟨y,y1,y2⟩:=Rdb.at1 r3.rd (i:=1) (z:=.int .i64 4) rfl;have y1':∀(k:Value→Option (Value×Hp)),pIdx 1 rv (.int .i64 1) k=_:=fun k=>y1 _ .i64 k;rw[y1',y2]at hr;obtain⟨H4,e4,f34⟩:=c_size s3 hgood.1.dag (by decide) 4;rw[live_size]at e4;have s4:=kst f34 s3;have r4:=krv f34 r3;have e4:RR AV [.pointer (some ⟨st,0,none⟩),.int .i64 4] H3=some (.tuple #[.int .i64 4,.int .u64 5,.int .i64 3,.int .i64 0],H4):=e4;rw[zag e4]at hr;simp only[(s_t4 _ _ _ _ _).1,(s_t4 _ _ _ _ _).2.1,(s_t4 _ _ _ _ _).2.2.1,(s_t4 _ _ _ _ _).2.2.2]at hr;obtain⟨z,z1,z2⟩:=Rdb.at1 r4.rd (i:=0) (z:=.int .i64 3) rfl;have z1':∀(k:Value→Option (Value×Hp)),pIdx 1 rv (.int .i64 0) k=_:=fun k=>z1 _ .i64 k;rw[z1',z2,bvv3,hb1]at hr;let H5:=H4.new (.cells (za5 zgh) true)
 have f45:Frm (fun _=>False) H4 H5:=zcz _ _ _;have s5:=kst f45 s4;have r5:=krv f45 r4;have n5:Rdb H5 3 (.slice (some ⟨H4.next,0,some 3⟩) 1 1) zgh.length (za5 zgh):=zm8 (H:=H4) (sz:=3) (n:=1) (cs:=za5 zgh) rfl;obtain⟨H6,e6,n6,o6⟩:=c_value s5 hgood.1 (by decide) (rs:=[3,4]) r5.rd.o (by decide) n5 (by decide) zol.2 (t:=3);rw[live_val1]at e6;have e6:RR Ba [.pointer (some ⟨st,0,none⟩),.int .i64 3,.slice (some ⟨H4.next,0,some 3⟩) 1 1] (H4.new (.cells (za5 zgh) true))=_:=e6;have f56:Frm (fun _=>False) H5 H6:=⟨n6,fun j hj _=>o6 j hj⟩
 have t:∀{A B C:Hp},Frm (fun _=>False) A B→Frm (fun _=>False) B C→Frm (fun _=>False) A C:=fun a b=>a.trans b fun j q=>q.elim;have f36:Frm (fun _=>False) H3 H6:=t (t f34 f45) f56;rw[zag e6,x01,zag (c_no _ _),zag (c_no _ _),s_and,eT rfl,hb0]at hr;let H7:=H6.new (.cells (wvs [44#64,0#64]) true)
 have f67:Frm (fun _=>False) H6 H7:=zcz _ _ _;have m7:Vec H7 1 v3 2 (wvs [44#64,0#64]):=m3.vec.keep (t f36 f67) fun _ _ q=>q;have hsame:=ziR (l:=[44#64,0#64]) m7.rd (zm8 (H:=H6) (sz:=1) (n:=2) (cs:=wvs [44#64,0#64]) rfl) (by decide);have hsame:RR AO [v3,.slice (some ⟨H6.next,0,some 1⟩) 2 2] (H6.new (.cells (wvs [44#64,0#64]) true))=_:=hsame;rw[zag hsame,zad,za0,eT rfl,eT rfl,eT rfl,zag (c_no _ _),zaZ,decide_eq_true rfl]at hr;exact⟨H7,hr,t (t (t (t a4 f12) f23) f36) f67⟩
end Go.AM.N14
namespace Go.AM.N14
open Go Go.AM
end Go.AM.N14
namespace Go.AM.N14
open List Go Go.AM
def LoA(H:Hp)(l:List UInt8):LdR→Prop
 |.bad _ _=>∃H',RR A9 [str l] H=some (.tuple #[.pointer none,.slice none 0 0,.bool false],H')∧Frm (fun _=>False) H H'
 |.good L K q=>∃H' st f g sl rv,RR A9 [str l] H=some (.tuple #[.pointer (some ⟨st,0,none⟩),rv,.bool true],H')∧Frm (fun _=>False) H H'∧StF H' st 0 L K sl f g∧Vec H' 1 rv q.length (zbR q) ∧
   (∀j,Foot st f g sl j→H.next≤j)∧(∀j,Id rv j→H.next≤j)∧(∀j,Id rv j→¬Foot st f g sl j)
theorem s_pneq0{α:Type}{P:Program}(T:TypeId)(hT:∃t,P.underlying T=some (.pointer t))(k:Value→Option α):pBin P .neq T (.pointer none) (.pointer none) k=k (.bool false):=by
 obtain⟨t,ht⟩:=hT;have:eqT P Op.maxDepth T (.pointer none) (.pointer none)=some true:=by unfold Op.maxDepth;simp only[eqT,ht];rfl
 simp only[pBin,binV,eqOp,this];rfl
theorem s_pneq{α:Type}{P:Program}(T:TypeId)(a:Addr)(hT:∃t,P.underlying T=some (.pointer t))(k:Value→Option α):pBin P .neq T (.pointer (some a)) (.pointer none) k=k (.bool true):=by
 obtain⟨t,ht⟩:=hT;have:eqT P Op.maxDepth T (.pointer (some a)) (.pointer none)=some false:=by unfold Op.maxDepth;simp only[eqT,ht]
 simp only[pBin,binV,eqOp,this];rfl
theorem c_lload{H:Hp}(hL:Laid H)(l:List UInt8)(hl:l.length≤2^37):LoA H l (zfD 0 (zcZ l) 0 [] [] []):=by
 have hr:=zfy E0 rfl (str l) H;unfold zdz at hr;have hc:=c_load hL l hl (lim:=0) (by decide);cases hr0:zfD 0 (zcZ l) 0 [] [] [] with
 |bad ln e=>
  rw[hr0]at hc;obtain⟨H1,a1,a2⟩:=hc;rw[zmK a1]at hr;simp only[(s_t4 _ _ _ _ _).1,(s_t4 _ _ _ _ _).2.1,(s_t4 _ _ _ _ _).2.2.1,(s_t4 _ _ _ _ _).2.2.2]at hr;rw[zag (c_no _ _),zaZ,zad]at hr;refine⟨H1,hr.trans ?_,a2⟩;by_cases h:e=0
  ·rw[decide_eq_true h,za0,s_pneq0 Ao ⟨AC,by kernel_rfl⟩]
  ·rw[decide_eq_false h,zaH]
 |good L K q=>
  rw[hr0]at hc;obtain⟨H1,st,f,g,sl,rv,a1,a2,a3,a4,a5,a6,a7⟩:=hc;rw[zmK a1]at hr;simp only[(s_t4 _ _ _ _ _).1,(s_t4 _ _ _ _ _).2.1,(s_t4 _ _ _ _ _).2.2.1,(s_t4 _ _ _ _ _).2.2.2]at hr;rw[zag (c_no _ _),eT rfl,s_pneq Ao _ ⟨AC,by kernel_rfl⟩]at hr;exact⟨H1,st,f,g,sl,rv,hr,a4,a2,a3,a5,a6,a7⟩
def u64I(l:List Int):List Value:=l.map fun t=>Value.int .u64 t
theorem u64I_len(l:List Int):(u64I l).length=l.length:=by simp[u64I]
theorem u64I_get{l:List Int}{i:Nat}{t:Int}(h:l[i]?=some t):(u64I l)[i]?=some (.int .u64 t):=by simp[u64I,h]
theorem zoK{α:Type}{w x:Int}(h1:1≤w)(h2:w<64)(hx:0≤x)(hx2:x<18446744073709551616)(k:Value→Option α) :
  (zaq .u64 (.int .i64 w) fun v28=>pBin PP .shl Ab (.int .u64 1) v28 fun v29=>pBin PP .sub Ab v29 (.int .u64 1) fun v30=>pBin PP .and Ab (.int .u64 x) v30 k)=k (.int .u64 (zdh w x)):=by
 unfold zdh;rw[if_neg (by omega),if_neg (by omega),zhX];have hw:IntKind.u64.wrap w=w:=zco (by simp[IntKind.min,IntKind.signed,IntKind.bits];omega) (by simp[IntKind.max,IntKind.signed,IntKind.bits];omega);obtain⟨p1,p2⟩:=zkD (w:=w) (by omega) (by omega);rw[s_shl _ _ _ _ _ (by rw[hw];omega),znB (by omega) (by omega),zd5,Go.AM.s_and];have hm:IntKind.u64.wrap (2^w.toNat-1)=2^w.toNat-1:=zco (by simp[IntKind.min,IntKind.signed,IntKind.bits];omega) (by simp[IntKind.max,IntKind.signed,IntKind.bits];omega);rw[hm];congr 2;have hb:IntKind.u64.bits=64:=rfl;rw[hb];obtain⟨X,rfl⟩:=Int.eq_ofNat_of_zero_le hx;have e2:(2:Int)^w.toNat-1=((2^w.toNat-1:Nat):Int):=by have:1≤(2:Nat)^w.toNat:=Nat.one_le_two_pow;rw[Int.ofNat_sub this];simp
 rw[e2];have e3:BitVec.ofInt 64 ((X:Nat):Int)=BitVec.ofNat 64 X:=by simp
 have e4:BitVec.ofInt 64 (((2^w.toNat-1:Nat)):Int)=BitVec.ofNat 64 (2^w.toNat-1):=by simp
 rw[e3,e4,BitVec.toNat_and,BitVec.toNat_ofNat,BitVec.toNat_ofNat];have hX:X<2^64:=by have:(X:Int)<18446744073709551616:=hx2;omega
 have h3:(2:Nat)^w.toNat<2^64:=Nat.pow_lt_pow_right (by omega) (by omega);rw[Nat.mod_eq_of_lt hX,Nat.mod_eq_of_lt (by omega),Nat.and_two_pow_sub_one_eq_mod];have h4:X%2^w.toNat≤X:=Nat.mod_le _ _;have h5:((X:Nat):Int)%2^w.toNat=((X%2^w.toNat:Nat):Int):=by simp
 rw[h5];generalize X%2^w.toNat=Y at h4;have m1:IntKind.u64.min=0:=rfl;have m2:IntKind.u64.max=18446744073709551615:=rfl;rw[zco (by rw[m1];omega) (by rw[m2];omega)]
theorem zhO{α:Type}(v:VV)(z:Int)(k:List Value→Option α):zaN 1 v.cells 2 (.int .u64 z) k=k (VV.cells { v with num:=z }):=by
 have:zbm 1 v.cells 2 (.int .u64 z)=some (VV.cells { v with num:=z }):=by kernel_rfl
 unfold zaN;rw[this]
def zeu(nums:List Int)(i:Nat):Int:=if nums=[] then 0 else nums.getD (i%nums.length) 0
theorem zoF{nums:List Int}(h:∀z∈nums,0≤z∧z<18446744073709551616)(i:Nat):0≤zeu nums i∧zeu nums i<18446744073709551616:=by
 unfold zeu;split
 ·exact⟨Int.le_refl _,by decide⟩
 ·rw[getD_eq_getElem?_getD];cases q:nums[i%nums.length]? with
  |none=>exact⟨Int.le_refl _,by show (0:Int)<_;decide⟩
  |some x=>exact h x (mem_of_getElem? q)
theorem s_tmod{α:Type}(a b:Nat)(hb:b≠0)(k:Value→Option α):pBin PP .rem Aa (.int .i64 (a:Int)) (.int .i64 (b:Int)) k=k (.int .i64 ((a%b:Nat):Int)):=by rw[zoU _ _ _ _ (by omega)];rfl
theorem trim64{x:Int}:zdh 64 x=x:=by unfold zdh;rw[if_neg (by decide),if_pos (by decide)]
section
variable {B:Hp}{x y:Value}{L:List VV}{nums:List Int}(hx:Rdb B 3 x L.length (za5 L))(hl:L.length≤2^40)(hy:Rdb B 1 y nums.length (u64I nums))(hw:∀v∈L,0≤v.w∧v.w≤64)(hn:∀z∈nums,0≤z∧z<18446744073709551616)
include hx hl hy hw hn
theorem zj3:∀(r:List VV) (i:Nat) (H:Hp) (acc:Value) (out:List VV),L.drop i=r→i≤L.length→out.length=i→Own B H [⟨3,acc,out.length,za5 out⟩] →
  ∃H' acc',zau (zaT RR x y) [acc,.int .i64 (i:Int)] H=some (.exit 0,[acc',.int .i64 (L.length:Int)],H')∧Own B H' [⟨3,acc',(out++zaO nums i r).length,za5 (out++zaO nums i r)⟩]
 |[],i,H,acc,out,hr,hi,ho,h=>by
  have hil:i=L.length:=by have:=congrArg List.length hr;rw[length_drop,length_nil]at this;omega
  subst hil;have hxH:Rdb H 3 x L.length (za5 L):=hx.keep' (fun j hj=>h.old j (hx.lt hj)) h.next;refine⟨H,acc,?_,by rw[show zaO nums L.length []=[] from rfl,append_nil];exact h⟩;rw[zah];have:zaT RR x y [acc,.int .i64 (L.length:Int)] H=some (.exit 0,[acc,.int .i64 (L.length:Int)],H):=by unfold zaT;simp only[qg0,qg1];rw[hxH.len,lF (Int.lt_irrefl _)]
  rw[this];rfl
 |v::r,i,H,acc,out,hr,hi,ho,h=>by
  have hlt:i<L.length:=by have:=congrArg List.length hr;rw[length_drop,length_cons]at this;omega
  have hv:L[i]?=some v:=by
   have:(L.drop i)[0]?=some v:=by rw[hr];rfl
   rwa [List.getElem?_drop,Nat.add_zero]at this
  have hr2:L.drop (i+1)=r:=by rw[←drop_drop,hr];rfl
  have hxH:Rdb H 3 x L.length (za5 L):=hx.keep' (fun j hj=>h.old j (hx.lt hj)) h.next;have hyH:Rdb H 1 y nums.length (u64I nums):=hy.keep' (fun j hj=>h.old j (hy.lt hj)) h.next;obtain⟨a,_,a1,a2,_⟩:=Rdb.vv hxH hv;have q:(i:Int)<(L.length:Int):=by omega
  have w1:IntKind.i64.wrap ((i:Int)+1)=((i+1:Nat):Int):=zaz (by omega) (by omega);have hvw:=hw v (mem_of_getElem? hv);have hz:=zoF hn i;obtain⟨acc1,H1,p1,p2⟩:=pushV h { v with num:=cutW v.w (zeu nums i) } (by omega);obtain⟨H',acc',g1,g2⟩:=zj3 r (i+1) H1 acc1 (out++[{ v with num:=cutW v.w (zeu nums i) }]) hr2 (by omega) (by rw[length_append,ho];rfl) p2;refine⟨H',acc',?_,?_⟩
  ·rw[zah]
   have hnum:∀(k:Ctl→List Value→Hp→Option Outc),(zaw (
     pLen .sl y H fun v10=>
     pBin PP .gtr Aa v10 (.int .i64 0) fun v11=>
     zaa v11 fun b12=>br b12
     (pLen .sl y H fun v13=>
     pBin PP .rem Aa (.int .i64 (i:Int)) v13 fun v14=>
     pIdx 1 y v14 fun p15=>
     zak 1 false H p15 fun v16=>
     zaN 1 (VV.cells { v with num:=0 }) 2 v16 fun c17=>
     some (.next,[(.agg c17.toArray)],H))
     (some (.next,[(.agg (VV.cells { v with num:=0 }).toArray)],H))) k)=k .next [VV.val { v with num:=zeu nums i }] H:=fun k=>by
    rw[hyH.len,zb8,zad];by_cases h0:nums=[]
    ·rw[decide_eq_false (by rw[h0];decide),zaH,zan];unfold zeu;rw[if_pos h0];rfl
    ·have hpos:0<nums.length:=length_pos_iff.2 h0;have hlt2:i%nums.length<nums.length:=Nat.mod_lt _ hpos;obtain⟨b,b1,b2⟩:=Rdb.at1 hyH (u64I_get (List.getElem?_eq_getElem hlt2));rw[decide_eq_true (by omega),za0,hyH.len,s_tmod _ _ (by omega),b1,b2];have:zaN 1 (VV.cells { v with num:=0 }) 2 (.int .u64 nums[i%nums.length])=fun (k:List Value→Option Outc)=>k (VV.cells { v with num:=nums[i%nums.length] }):=funext fun k=>zhO { v with num:=0 } _ k;rw[this];dsimp only;rw[zan];unfold zeu;rw[if_neg h0,getD_eq_getElem?_getD,List.getElem?_eq_getElem hlt2];rfl
   have cl:∀u:VV,zab ((([u.val]:List Value).drop 0).getD 0 undef)=u.cells:=fun u=>rfl;have sz:∀(c:Value→Option Outc),zaN 1 v.cells 2 (.int .u64 0) (fun c9=>c (.agg c9.toArray))=c (VV.val { v with num:=0 }):=fun c=>zhO v 0 _;have:zaT RR x y [acc,.int .i64 (i:Int)] H=some (.next,[acc1,.int .i64 ((i+1:Nat):Int)],H1):=by
    unfold zaT;simp only[qg0,qg1];rw[hxH.len,lT q,a1,a2,splV,zhO,hnum,za3,cl,zjg,zaZ,zad];by_cases h0:v.w=0
    ·have hcut:cutW v.w (zeu nums i)=zdh 1 (zeu nums i):=by unfold cutW;rw[if_pos (by omega)]
     rw[hcut]at p1;have hv1:∀z:Int,zaN 1 (VV.cells { v with num:=zeu nums i }) 2 (.int .u64 z)=fun (k:List Value→Option Outc)=>k (VV.cells { v with num:=z }):=fun z=>funext fun k=>zhO { v with num:=zeu nums i } z k;rw[decide_eq_true h0,za0,lT (by decide),zlc,zoK (by decide) (by decide) hz.1 hz.2,hv1];dsimp only;rw[znD,p1,zaU,w1]
    ·rw[decide_eq_false h0,zaH,zbh,zad];have hcut:cutW v.w (zeu nums i)=zdh v.w (zeu nums i):=by unfold cutW;rw[if_neg (by omega)]
     rw[hcut]at p1;by_cases h64:v.w<64
     ·have hv1:∀z:Int,zaN 1 (VV.cells { v with num:=zeu nums i }) 2 (.int .u64 z)=fun (k:List Value→Option Outc)=>k (VV.cells { v with num:=z }):=fun z=>funext fun k=>zhO { v with num:=zeu nums i } z k;rw[decide_eq_true h64,za0,zlc,zoK (by omega) h64 hz.1 hz.2,hv1];dsimp only;rw[znD,p1,zaU,w1]
     ·have e64:v.w=64:=by omega
      rw[e64,trim64,←e64]at p1;rw[decide_eq_false h64,zaH,znD,p1,zaU,w1]
   rw[this];exact g1
  ·have e:zaO nums i (v::r)={ v with num:=cutW v.w (zeu nums i) }::zaO nums (i+1) r:=rfl;rw[e,append_cons];exact g2
theorem c_drawn:∃H' v',RR A8 [x,y] B=some (v',H')∧zeG 3 B H' v' (zaO nums 0 L).length (za5 (zaO nums 0 L)):=by have hr:=(zfd E0 rfl x y B).trans (zff _ _ _ _);obtain⟨H',acc',g1,g2⟩:=zj3 hx hl hy hw hn L 0 B (.slice none 0 0) [] rfl (Nat.zero_le _) rfl ((Own.nil B).addNil 3);have g1:zau (zaT RR x y) [.slice none 0 0,.int .i64 0] B=_:=g1;rw[g1,zan,za6,zaC]at hr;exact⟨H',acc',hr,zeG.of g2⟩
end
end Go.AM.N14
namespace Go.AM.N14
open Go Go.AM
section
end
end Go.AM.N14
namespace Go.AM.N14
open List Go Go.AM
theorem closed_S{L:List Nd}{out:List Nat}(hcl:zcH L out):∀u,u∈out→∀c∈kids L u,c∈out:=fun u hu c hc=>by obtain⟨j,hj⟩:=List.getElem?_of_mem hu;exact mem_of_mem_take (hcl j u hj c hc)
theorem zot{s:ByteArray}:∀{Tv:List VV},s∈Tv.map VV.name→∃v,fndV s Tv=some v
 |[],h=>by cases h
 |x::r,h=>by
  unfold fndV;by_cases e:(s==x.name)=true
  ·rw[if_pos e];exact⟨x,rfl⟩
  ·rw[if_neg e];rw[map_cons]at h;rcases mem_cons.1 h with q|q
   ·exact absurd ((zc9 _ _).2 q) e
   ·exact zot q
theorem trim_bd{w x:Int}(h:0≤x∧x<18446744073709551616):0≤zdh w x∧zdh w x<18446744073709551616:=by
 unfold zdh;split
 ·exact⟨Int.le_refl _,by decide⟩
 ·split
  ·exact h
  ·have hp:(0:Int)<2^w.toNat:=Int.pow_pos (by decide);have h1:=Int.emod_nonneg x (by omega:(2:Int)^w.toNat≠0);have h2:x%2^w.toNat≤x:=by have:=Int.emod_add_mul_ediv x (2^w.toNat);have h3:0≤x/2^w.toNat:=Int.ediv_nonneg h.1 (by omega);have h4:0≤2^w.toNat*(x/2^w.toNat):=Int.mul_nonneg (by omega) h3;omega
   exact⟨h1,by omega⟩
theorem zek{nums:List Int}(hn:∀z∈nums,0≤z∧z<18446744073709551616):∀(A:List VV) (i:Nat) (v:VV),v∈zaO nums i A→v.Ok∧∃a∈A,a.name=v.name∧a.w=v.w
 |[],i,v,h=>by cases h
 |a::r,i,v,h=>by
  have e:zaO nums i (a::r)={ a with num:=cutW a.w (zeu nums i) }::zaO nums (i+1) r:=rfl;rw[e]at h;rcases mem_cons.1 h with rfl|q
  ·exact⟨trim_bd (zoF hn i),a,mem_cons_self ..,rfl,rfl⟩
  ·obtain⟨h1,b,h2,h3⟩:=zek hn r (i+1) v q;exact⟨h1,b,mem_cons_of_mem _ h2,h3⟩
theorem zeX(nums:List Int):∀(A:List VV) (i:Nat),(zaO nums i A).length=A.length
 |[],i=>rfl
 |a::r,i=>by have e:zaO nums i (a::r)={ a with num:=cutW a.w (zeu nums i) }::zaO nums (i+1) r:=rfl;rw[e,length_cons,length_cons,zeX nums r (i+1)]
section
variable {L:List Nd}{K:List (ByteArray×Int)}(hg:zbZ L K){ns:List Nat}(hns:∀t∈ns,1≤t∧t≤L.length)
include hg hns
theorem zbC:(posts L ns []).Nodup∧(∀t∈posts L ns [],1≤t∧t≤L.length)∧zcH L (posts L ns [])∧(∀t∈ns,t∈posts L ns []):=by have hd:=hg.dag;have hmem:=zcU hd (N:=L.length) ns [] hns;exact⟨zf2 hd ns [] (fun c hc=>(hns c hc).1) nodup_nil,fun t ht=>(hmem.2.2 t ht).elim (fun q=>by cases q) fun q=>q,(ze7 hd ns [] (fun c hc=>(hns c hc).1) (fun i t h=>by cases h)).1,hmem.2.1⟩
theorem zeI{v:VV}:v∈zbe L ns↔∃u n,u∈posts L ns []∧L[u-1]?=some n∧n.op=4∧v=⟨n.name,n.w,0⟩:=by
 rw[zkb,mem_filterMap];constructor
 ·rintro⟨u,hu,h⟩
  obtain⟨n,h1,h2,h3⟩:=zhD h;exact⟨u,n,hu,h1,h2,h3⟩
 ·rintro⟨u,n,hu,h1,h2,rfl⟩
  exact⟨u,hu,by rw[isV_eq h1,if_pos h2]⟩
theorem zjh:nmOk [] ((zbe L ns).map VV.name)=true:=by obtain⟨p1,p2,_⟩:=zbC hg hns;rw[zkb];exact zoO hg _ p1 p2
theorem vars_w:∀v∈zbe L ns,0≤v.w∧v.w≤64:=fun v hv=>by obtain⟨u,n,_,h1,_,rfl⟩:=(zeI hg hns).1 hv;exact zgl hg n (mem_of_getElem? h1)
theorem zj2{nums:List Int}(hn:∀z∈nums,0≤z∧z<18446744073709551616):zfa (zaO nums 0 (zbe L ns))=0:=by unfold zfa;rw[zfL,zjh hg hns,if_pos rfl,zoE nums (fun z hz=>(hn z hz).1) _ _ (vars_w hg hns),if_pos rfl]
theorem zpj{nums:List Int}(hn:∀z∈nums,0≤z∧z<18446744073709551616){u:Nat}(hu:u∈posts L ns []):badV L (zaO nums 0 (zbe L ns)) u=false:=by
 obtain⟨_,p2,_⟩:=zbC hg hns;have ht:=p2 u hu;have hq:L[u-1]?=some (L[u-1]'(by omega)):=List.getElem?_eq_getElem (by omega);generalize L[u-1]'(by omega)=n at hq;rw[ziZ hq];by_cases h4:n.op=4
 ·rw[decide_eq_true h4,Bool.true_and];cases hf:fndV n.name (zaO nums 0 (zbe L ns)) with
  |none=>rfl
  |some v=>
   obtain⟨hm,hname⟩:=zgn hf;obtain⟨_,a,ha,e1,e2⟩:=zek hn _ _ v hm;obtain⟨u',n',hu',h1,h2,rfl⟩:=(zeI hg hns).1 ha;have:=znE hg (mem_of_getElem? h1) (mem_of_getElem? hq) h2 h4 (by rw[←hname];exact e1);rw[this]at e2;exact decide_eq_false fun z=>z e2.symm
 ·rw[decide_eq_false h4];rfl
end
end Go.AM.N14
namespace Go.AM.N14
open Go Go.AM
def strs(l:List ByteArray):List Value:=l.map .string
theorem zkh{l:List ByteArray}{i:Nat}{s:ByteArray}(h:l[i]?=some s):(strs l)[i]?=some (.string s):=by unfold strs;rw[List.getElem?_map,h];rfl
theorem znH(l m:List ByteArray):strs (l++m)=strs l++strs m:=by simp[strs]
section
end
section
end
section
end
end Go.AM.N14
namespace Go.AM.N14
open List Go Go.AM
theorem zgw{L:List Nd}{ns:List Nat}(h:∀t∈ns,1≤t∧t≤L.length)(Tv:List VV):zce L (ns.map fun (t:Nat)=>(t:Int)) Tv=zfq L ns Tv:=by unfold zce;rw[if_pos,zgL];rw[all_map,all_eq_true];intro t ht;have:=h t ht;exact zaV.2 ⟨by show (1:Int)≤(t:Int);omega,by show (t:Int)≤L.length;omega⟩
theorem varsI_of{L:List Nd}{ns:List Nat}(h:∀t∈ns,1≤t∧t≤L.length):zoP L (ns.map fun (t:Nat)=>(t:Int))=(0,zbe L ns):=by unfold zoP;rw[if_pos,zgL];rw[all_map,all_eq_true];intro t ht;have:=h t ht;exact zaV.2 ⟨by show (1:Int)≤(t:Int);omega,by show (t:Int)≤L.length;omega⟩
theorem varsR_len{L:List Nd}(hd:Dag L){ns:List Nat}(h:∀t∈ns,1≤t∧t≤L.length):(zbe L ns).length≤L.length:=by rw[zkb];exact Nat.le_trans (length_filterMap_le ..) (Told.len ((⟨nodup_nil,fun x h=>by cases h⟩:Told L.length []).posts hd h))
section
end
section
end
end Go.AM.N14
namespace Go.AM.N14
open Go Go.AM
section
end
section
end
section
end
end Go.AM.N14
namespace Go.AM.N14
open List Go Go.AM
def mapP(tm:Int→Int)(x:Int):Int:=if x=0 then 0 else tm x
def mapN(tm:Int→Int)(n:Nd):Nd:={ n with a:=mapP tm n.a,b:=mapP tm n.b,c:=mapP tm n.c }
def movP(tm:Int→Int)(x:Int):Bool:=decide (x≠0)&&decide (tm x≠x)
def movN(tm:Int→Int)(n:Nd):Bool:=movP tm n.a||(movP tm n.b||movP tm n.c)
def updI(tm:Int→Int)(t x:Int):Int→Int:=fun y=>if y=t then x else tm y
abbrev RS:=List Nd×List (ByteArray×Int)×(Int→Int)
def zbb(lim:Int)(always:Bool)(leaf:Nd→Int)(t:Int)(n:Nd)(s:RS):Int×RS:=
 if n.op=4∧leaf n≠0 then (0,s.1,s.2.1,updI s.2.2 t (leaf n))
 else if (always||movN s.2.2 n)=true then ((mkR lim s.1 s.2.1 (mapN s.2.2 n)).2.1,(mkR lim s.1 s.2.1 (mapN s.2.2 n)).2.2.1,(mkR lim s.1 s.2.1 (mapN s.2.2 n)).2.2.2,updI s.2.2 t (mkR lim s.1 s.2.1 (mapN s.2.2 n)).1)
 else (0,s.1,s.2.1,updI s.2.2 t t)
def zcr(lim:Int)(always:Bool)(leaf:Nd→Int)(nd:Nat→Nd):List Nat→RS→RS
 |[],s=>s
 |t::r,s=>zcr lim always leaf nd r (zbb lim always leaf (t:Int) (nd t) s).2
def zlt(lim:Int)(always:Bool)(leaf:Nd→Int)(nd:Nat→Nd):List Nat→RS→Prop
 |[],s=>True
 |t::r,s=>(zbb lim always leaf (t:Int) (nd t) s).1=0∧zlt lim always leaf nd r (zbb lim always leaf (t:Int) (nd t) s).2
theorem s_ptrs{α:Type}(a b c:Value)(k:Value→Option α):(zcj 3 false 1 (.agg #[a,b,c]) (.int .i64 0) k=k a)∧(zcj 3 false 1 (.agg #[a,b,c]) (.int .i64 1) k=k b)∧(zcj 3 false 1 (.agg #[a,b,c]) (.int .i64 2) k=k c):=⟨rfl,rfl,rfl⟩
theorem zku {H : Hp} {q m o : Nat} {N N' : Nd} {tm : Int → Int} {x : Int} {v47 : Value} {j : Nat} {u : Bool} (hq : H.get q = some (.cells N.cells true)) (hm : MapF H m tm) (hqm : q ≠ m) (ho : o < 7) (hx : N.cells[o]? = some (.int .i64 x)) (hN : N'.cells = spl N.cells o [.int .i64 (mapP tm x)])
    (hj : j < 3) (hat : ∀ (k : Value → Option Outc), zcj 3 false 1 v47 (.int .i64 (j : Int)) k = k (.pointer (some ⟨q, o, none⟩))) :
    ∃ H', za8 RR (.map (some m)) v47 [.bool u, .int .i64 (j : Int)] H = some (.next, [.bool (u || movP tm x), .int .i64 ((j + 1 : Nat) : Int)], H') ∧ H'.get q = some (.cells N'.cells true) ∧ (∀ i, i ≠ q → H'.get i = H.get i) ∧ H'.next = H.next := by
  have w1 : IntKind.i64.wrap ((j : Int) + 1) = ((j + 1 : Nat) : Int) := zaz (by omega) (by omega)
  have q1 : (j : Int) < 3 := by omega
  have hl : ∀ {α : Type} (k : Value → Option α), zak 1 false H (.pointer (some ⟨q, o, none⟩)) k = k (.int .i64 x) := fun k => Go.AM.zbi hq o _ hx k
  by_cases h0 : x = 0
  · have hid : N'.cells = N.cells := by
      rw [hN]
      unfold mapP
      rw [if_pos h0]
      apply ext_getElem?
      intro i
      have hlen : N.cells.length = 7 := rfl
      have e : spl N.cells o [Value.int .i64 0] = N.cells.set o (.int .i64 0) := by
        unfold spl
        rw [set_eq_take_append_cons_drop, if_pos (by omega)]
        simp
      rw [e, List.getElem?_set]
      by_cases e2 : o = i
      · subst e2; rw [if_pos rfl, if_pos (by omega), hx, h0]
      · rw [if_neg e2]
    have hv : movP tm x = false := by simp [movP, h0]
    refine ⟨H, ?_, by rw [hid]; exact hq, fun _ _ => rfl, rfl⟩
    unfold za8
    simp only [qg0, qg1]
    rw [hv, lT q1, hat, zbA, hl, zba, bF (fun z => z h0), zaU, w1, Bool.or_false]
  · have hmp : mapP tm x = tm x := by unfold mapP; rw [if_neg h0]
    rw [hmp] at hN
    have hs : ∀ (k : Hp → Option Outc), zas 1 H (.pointer (some ⟨q, o, none⟩)) (.int .i64 (tm x)) k = k (H.set q (some (.cells N'.cells true))) := fun k => by
      rw [hN]
      exact zey hq rfl rfl (by show o < 7; exact ho) k
    have lw : ∀ (f : Value → Option Outc), za7 PP Aa (.int .i64 0) (.map (some m)) (.int .i64 x) false H f = f (.int .i64 (tm x)) := fun f => hm.look ikV x f
    refine ⟨H.set q (some (.cells N'.cells true)), ?_, by rw [get_set, if_pos rfl], fun i hi => by rw [get_set, if_neg hi], rfl⟩
    have hv : movP tm x = decide (tm x ≠ x) := by simp [movP, h0]
    unfold za8
    simp only [qg0, qg1]
    rw [hv, lT q1, hat, zbA, hl, zba, bT h0, zad]
    cases u with
    | true => rw [za0, zbA, hl, lw, zbA, hs, zaU, w1, Bool.true_or]
    | false => rw [zaH, zbA, hl, lw, zbA, hl, zba, zbA, hl, lw, zbA, hs, zaU, w1, Bool.false_or]
theorem rem_parts{H:Hp}{q m:Nat}{n:Nd}{tm:Int→Int}{u:Bool}(hq:H.get q=some (.cells n.cells true))(hm:MapF H m tm)(hqm:q≠m) :
  ∃H',zau (za8 RR (.map (some m)) (.agg #[.pointer (some ⟨q,2,none⟩),.pointer (some ⟨q,3,none⟩),.pointer (some ⟨q,4,none⟩)])) [.bool u,.int .i64 0] H=some (.exit 2,[.bool (u||movN tm n),.int .i64 3],H')∧H'.get q=some (.cells (mapN tm n).cells true)∧(∀i,i≠q→H'.get i=H.get i)∧H'.next=H.next:=by
 obtain⟨H1,a1,a2,a3,a4⟩:=zku (u:=u) (N':={ n with a:=mapP tm n.a }) (x:=n.a) (o:=2) (j:=0) hq hm hqm (by decide) rfl rfl (by decide) (fun k=>(s_ptrs _ _ _ k).1);have hm1:MapF H1 m tm:=hm.keep (a3 m (Ne.symm hqm));obtain⟨H2,b1,b2,b3,b4⟩:=zku (u:=u||movP tm n.a) (N:={ n with a:=mapP tm n.a }) (N':={ n with a:=mapP tm n.a,b:=mapP tm n.b }) (x:=n.b) (o:=3) (j:=1) (v47:=.agg #[.pointer (some ⟨q,2,none⟩),.pointer (some ⟨q,3,none⟩),.pointer (some ⟨q,4,none⟩)]) a2 hm1 hqm (by decide) rfl rfl (by decide) (fun k=>(s_ptrs _ _ _ k).2.1);have hm2:MapF H2 m tm:=hm1.keep (b3 m (Ne.symm hqm));obtain⟨H3,c1,c2,c3,c4⟩:=zku (u:=(u||movP tm n.a)||movP tm n.b) (N:={ n with a:=mapP tm n.a,b:=mapP tm n.b }) (N':=mapN tm n) (x:=n.c) (o:=4) (j:=2) (v47:=.agg #[.pointer (some ⟨q,2,none⟩),.pointer (some ⟨q,3,none⟩),.pointer (some ⟨q,4,none⟩)]) b2 hm2 hqm (by decide) rfl rfl (by decide) (fun k=>(s_ptrs _ _ _ k).2.2);refine⟨H3,?_,c2,fun i hi=>by rw[c3 i hi,b3 i hi,a3 i hi],by rw[c4,b4,a4]⟩;have a1:za8 RR (.map (some m)) (.agg #[.pointer (some ⟨q,2,none⟩),.pointer (some ⟨q,3,none⟩),.pointer (some ⟨q,4,none⟩)]) [.bool u,.int .i64 0] H=_:=a1;rw[zah,a1];show zau _ _ _=_;rw[zah,b1];show zau _ _ _=_;rw[zah,c1];show zau _ [_,.int .i64 3] _=_;have:∀w,za8 RR (.map (some m)) (.agg #[.pointer (some ⟨q,2,none⟩),.pointer (some ⟨q,3,none⟩),.pointer (some ⟨q,4,none⟩)]) [w,.int .i64 3] H3=some (.exit 2,[w,.int .i64 3],H3):=fun w=>by unfold za8;simp only[qg0,qg1];rw[lF (by decide)]
 rw[zah,this,Bool.or_assoc,Bool.or_assoc];rfl
theorem zhZ{lim:Int}{always:Bool}{leaf:Nd→Int}{t:Int}{n:Nd}{s:RS}:(zbb lim always leaf t n s).2.1.length≤s.1.length+1:=by
 unfold zbb;split
 ·exact Nat.le_succ _
 ·split
  ·exact mk_le _
  ·exact Nat.le_succ _
structure RM(B:Hp)(F0:Nat→Prop)(p f g:Nat)(lim:Int)(Lz:List Nd)(H:Hp)(s:RS):Prop where
 next:B.next<H.next
 old:∀j,j<B.next→¬F0 j→H.get j=B.get j
 st:∃sl,StF H p lim s.1 s.2.1 sl f g∧∀j,Foot p f g sl j→F0 j∨B.next<j
 map:MapF H B.next s.2.2
 good:zbZ s.1 s.2.1
 pre:∃M,s.1=Lz++M
 len:s.1.length≤2^40
section
variable {B:Hp}{F0:Nat→Prop}{p f g:Nat}{lim:Int}{Lz:List Nd}(hF:∀j,F0 j→j<B.next){ps lf:Value}{always:Bool}{leaf:Nd→Int}{nd:Nat→Nd}{v:Value}{out:List Nat}(hv:Rdb B 1 v out.length (ints out))(hvF:∀j,Id v j→¬F0 j)(hol:out.length≤2^40)(hzl:Lz.length≤2^38)
 (hnode:∀H s,RM B F0 p f g lim Lz H s→∀t∈out,RR Ak [ps,.int .i64 (t:Int)] H=some (.tuple #[(nd t).val,.int .i64 0],H))(hnum:∀t∈out,zgv (nd t))
 (hleaf:∀H,(∀j,j<B.next→¬F0 j→H.get j=B.get j)→∀t∈out,(nd t).op=4→∀(α:Type) (k:Value→Hp→Option α),zc6 orc RR lf [(nd t).val] H k=k (.tuple #[.int .i64 (leaf (nd t)),.int .i64 0]) H)
include hF hv hvF hol hzl hnode hnum hleaf
theorem rem_step{i t:Nat}(hi:out[i]?=some t){H:Hp}{s:RS}(h:RM B F0 p f g lim Lz H s)(hlen:s.1.length+1≤2^40)(he:(zbb lim always leaf (t:Int) (nd t) s).1=0) :
  ∃H',zbr RR ps (.pointer (some ⟨p,0,none⟩)) (.bool always) lf v (.map (some B.next)) (.int .i64 (out.length:Int)) [.int .i64 (i:Int)] H=some (.next,[.int .i64 ((i+1:Nat):Int)],H')∧RM B F0 p f g lim Lz H' (zbb lim always leaf (t:Int) (nd t) s).2:=by
 have hlt:i<out.length:=(List.getElem?_eq_some_iff.1 hi).1;have htm:=mem_of_getElem? hi;have hn1:=h.next;have hvH:Rdb H 1 v out.length (ints out):=hv.keep' (fun j hj=>h.old j (hv.lt hj) (hvF j hj)) (by omega);obtain⟨y,x1,x2⟩:=Rdb.at1 hvH (i:=i) (z:=.int .i64 (t:Int)) (by unfold ints;rw[List.getElem?_map,hi];rfl);have q:(i:Int)<(out.length:Int):=by omega
 have w1:IntKind.i64.wrap ((i:Int)+1)=((i+1:Nat):Int):=zaz (by omega) (by omega);have e1:=hnode H s h t htm;have hnm:=hnum t htm;have hlf:=fun H h=>hleaf H h t htm;generalize nd t=n at *;obtain⟨sl,hst,hft⟩:=h.st;have hfl:∀j,Foot p f g sl j→j≠B.next:=fun j hj=>(hft j hj).elim (fun z=>by have:=hF j z;omega) fun z=>by omega
 let H1:=H.new (.cells [.int .i64 0,.int .i64 0,.int .i64 0,.int .i64 0,.int .i64 0,.int .u64 0,.string ⟨#[]⟩] true)
 let H2:=H1.set H.next (some (.cells n.cells true))
 have hal:∀{α:Type} (k:Value→Hp→Option α),zcX [.int .i64 0,.int .i64 0,.int .i64 0,.int .i64 0,.int .i64 0,.int .u64 0,.string ⟨#[]⟩] H k=k (.pointer (some ⟨H.next,0,none⟩)) H1:=fun k=>rfl;have hg1:H1.get H.next=some (.cells [.int .i64 0,.int .i64 0,.int .i64 0,.int .i64 0,.int .i64 0,.int .u64 0,.string ⟨#[]⟩] true):=by show (H.new _).get _=_;rw[get_new,if_pos rfl]
 have hsto:∀{α:Type} (k:Hp→Option α),zas 7 H1 (.pointer (some ⟨H.next,0,none⟩)) n.val k=k H2:=fun k=>by
  have hw:zbm 7 [.int .i64 0,.int .i64 0,.int .i64 0,.int .i64 0,.int .i64 0,.int .u64 0,.string ⟨#[]⟩] 0 n.val=some n.cells:=by kernel_rfl
  have:H1.wr (.pointer (some ⟨H.next,0,none⟩)) 7 n.val=some H2:=by show (match H1.get H.next with|some (.cells cs true)=>(match zbm 7 cs 0 n.val with|some cs'=>some (H1.set H.next (some (.cells cs' true)))|none=>none)|_=>none)=_;rw[hg1];dsimp only;rw[hw]
  unfold zas;rw[this]
 have hg2:H2.get H.next=some (.cells n.cells true):=by show (H1.set _ _).get _=_;rw[get_set,if_pos rfl]
 have ho2:∀j,j<H.next→H2.get j=H.get j:=fun j hj=>by show (H1.set _ _).get _=_;rw[get_set,if_neg (by omega)];show (H.new _).get _=_;rw[get_new,if_neg (by omega)]
 have hn2:H2.next=H.next+1:=rfl;have hold2:∀j,j<B.next→¬F0 j→H2.get j=B.get j:=fun j hj hf=>by rw[ho2 j (by omega),h.old j hj hf]
 have hld0:∀{α:Type} (k:Value→Option α),zak 1 false H2 (.pointer (some ⟨H.next,0,none⟩)) k=k (.int .i64 n.op):=fun k=>Go.AM.zbi hg2 0 _ rfl k;have hld7:∀{α:Type} (H:Hp) (qq:Nat) (m:Nd) (hq:H.get qq=some (.cells m.cells true)) (k:Value→Option α),zak 7 true H (.pointer (some ⟨qq,0,none⟩)) k=k m.val:=fun H qq m hq k=>by simp only[zak,Hp.rdP,Hp.rd,hq,zcf];rfl
 have hmap2:MapF H2 B.next s.2.2:=h.map.keep (ho2 _ h.next);have hst2:StF H2 p lim s.1 s.2.1 sl f g:=hst.keep (fun j hj=>ho2 j (hst.foot_lt hj)) (by omega);have e0:∀x:Int,¬(x≠x):=fun x q=>q rfl;unfold zbb at he ⊢
 have rest:¬(n.op=4∧leaf n≠0)→∃H',(zav 2 (.pointer (some ⟨H.next,0,none⟩)) fun p44=>
    zav 3 (.pointer (some ⟨H.next,0,none⟩)) fun p45=>
    zav 4 (.pointer (some ⟨H.next,0,none⟩)) fun p46=>
    zaE PP A2 [(0,p44),(1,p45),(2,p46)] fun v47=>
    zaw (zau (za8 RR (.map (some B.next)) v47) [.bool always,(.int .i64 0)] H2) fun q70 l71 H72=>zaG q70 none
    (fun i73=>zax i73 2 (
    pUpd PP Aa (.map (some B.next)) (.int .i64 (t:Int)) (.int .i64 (t:Int)) H72 fun H74=>
    zaa (l71.getD 0 undef) fun b75=>br b75
    (zak 7 true H74 (.pointer (some ⟨H.next,0,none⟩)) fun v76=>
    zae RR Ar [.pointer (some ⟨p,0,none⟩),v76] H74 fun r77 H78=>
    zac r77 0 fun v79=>
    zac r77 1 fun v80=>
    pBin PP .neq Ai v80 (.int .i64 0) fun v81=>
    zaa v81 fun b82=>br b82
    (zaE PP AJ [(0,v80)] fun v83=>
    some (Ctl.ret,[(.tuple #[(.slice none 0 0),(.iface AJ v83)])],H78))
    (pUpd PP Aa (.map (some B.next)) (.int .i64 (t:Int)) v79 H78 fun H84=>
    pBin PP .add Aa (.int .i64 (i:Int)) (.int .i64 1) fun v85=>
    some (.next,[v85],H84)))
    (pBin PP .add Aa (.int .i64 (i:Int)) (.int .i64 1) fun v86=>
    some (.next,[v86],H74))) (
    zax i73 1 (
    pBin PP .add Aa (.int .i64 (i:Int)) (.int .i64 1) fun v87=>
    some (.next,[v87],H72)) (
    some (.exit i73,[(.int .i64 (i:Int))],H72))))
    (some (.ret,[(l71.headD undef)],H72)))=some (.next,[.int .i64 ((i+1:Nat):Int)],H')∧RM B F0 p f g lim Lz H' (zbb lim always leaf (t:Int) n s).2:=fun hlf0=>by
  obtain⟨H3,a1,a2,a3,a4⟩:=rem_parts (u:=always) hg2 hmap2 (show H.next≠B.next by omega);have hmap3:MapF H3 B.next s.2.2:=hmap2.keep (a3 _ (by omega));obtain⟨H4,b1,b2,b3,b4⟩:=hmap3.upd ikV (t:Int) (t:Int);have ho4:∀j,j<H.next→j≠B.next→H4.get j=H.get j:=fun j hj hb=>by rw[b3 j hb,a3 j (by omega),ho2 j hj]
  have hn4:H4.next=H.next+1:=by rw[b4,a4];rfl
  have hst4:StF H4 p lim s.1 s.2.1 sl f g:=hst.keep (fun j hj=>ho4 j (hst.foot_lt hj) (hfl j hj)) (by omega);have hbld:∀{α:Type} (k:Value→Option α),zaE PP A2 [(0,.pointer (some ⟨H.next,0+2,none⟩)),(1,.pointer (some ⟨H.next,0+3,none⟩)),(2,.pointer (some ⟨H.next,0+4,none⟩))] k=k (.agg #[.pointer (some ⟨H.next,2,none⟩),.pointer (some ⟨H.next,3,none⟩),.pointer (some ⟨H.next,4,none⟩)]):=fun k=>Go.AM.bld (by kernel_rfl) k;rw[zaK,zaK,zaK,hbld,a1,zan,za6,zaC,b1];simp only[qg0];rw[zad];unfold zbb;rw[if_neg hlf0];rw[if_neg hlf0]at he;cases hmv:(always||movN s.2.2 n) with
  |false=>
   rw[zaH,zaU,w1,if_neg (by decide)];refine⟨H4,rfl,by omega,fun j hj hf=>by rw[ho4 j (by omega) (by omega),h.old j hj hf],⟨sl,hst4,hft⟩,b2,h.good,h.pre,h.len⟩
  |true=>
   rw[hmv,if_pos rfl]at he;rw[za0,if_pos rfl,hld7 H4 H.next (mapN s.2.2 n) (by rw[b3 _ (by omega)];exact a2)];have hR:zjf s.1:=⟨fun m hm=>zgl h.good m hm,by omega⟩
   obtain⟨H5,sl5,m1,m2⟩:=d22 hst4 hR (mapN s.2.2 n) hnm;have hmB:¬Foot p f g sl B.next:=fun z=>hfl _ z rfl;have hmap5:MapF H5 B.next (updI s.2.2 (t:Int) (t:Int)):=MapF.keep b2 (m2.same (by omega) hmB);obtain⟨H6,c1,c2,c3,c4⟩:=hmap5.upd ikV (t:Int) (mkR lim s.1 s.2.1 (mapN s.2.2 n)).1;have hft5:∀j,Foot p f g sl5 j→F0 j∨B.next<j:=fun j hj=>by
    rcases m2.foot hj with z|z
    ·exact hft j z
    ·exact .inr (by omega)
   have hfl5:∀j,Foot p f g sl5 j→j≠B.next:=fun j hj=>(hft5 j hj).elim (fun z=>by have:=hF j z;omega) fun z=>by omega
   have he:(mkR lim s.1 s.2.1 (mapN s.2.2 n)).2.1=0:=he;rw[zag m1,x01,he,zba,bF (e0 0),c1,zaU,w1];have hst5:=m2.st;refine⟨H6,rfl,by have:=m2.next;omega,fun j hj hf=>?_,⟨sl5,hst5.keep (fun j hj=>c3 j (hfl5 j hj)) (by omega),hft5⟩,?_,zkO hnm h.good,?_,Nat.le_trans (mk_le _) hlen⟩
   ·rw[c3 j (by omega),m2.same (by omega) (fun z=>(hft j z).elim hf fun z=>by omega),ho4 j (by omega) (by omega),h.old j hj hf]
   ·have:(fun y=>if y=(t:Int) then (mkR lim s.1 s.2.1 (mapN s.2.2 n)).1 else updI s.2.2 (t:Int) (t:Int) y)=updI s.2.2 (t:Int) (mkR lim s.1 s.2.1 (mapN s.2.2 n)).1:=by
     funext y;unfold updI;by_cases e:y=(t:Int)
     ·rw[if_pos e,if_pos e]
     ·rw[if_neg e,if_neg e,if_neg e]
    rw[←this];exact c2
   ·obtain⟨M,hM⟩:=h.pre;rcases (zis he).2 with⟨_,_,h2⟩|⟨_,_,h2⟩
    ·rw[h2];exact⟨M,hM⟩
    ·rw[h2];exact⟨M++[mapN s.2.2 n],by show s.1++_=_;rw[hM,append_assoc]⟩
 unfold zbr;simp only[qg0];rw[lT q,x1,x2,zag e1,x01,hal,hsto,zaK,hld0,zaZ,zad];by_cases h4:n.op=4
 ·rw[decide_eq_true h4,za0,hld7 H2 H.next n hg2,hlf H2 hold2 h4,x01,zba,bF (e0 0),zba,zad];by_cases hl:leaf n≠0
  ·obtain⟨H3,u1,u2,u3,u4⟩:=hmap2.upd ikV (t:Int) (leaf n);rw[decide_eq_true hl,za0,u1,zan,za6,if_pos ⟨h4,hl⟩,zaC,zaU,w1];refine⟨H3,rfl,by omega,fun j hj hf=>by rw[u3 j (by omega),hold2 j hj hf],⟨sl,hst2.keep (fun j hj=>u3 j (hfl j hj)) (by omega),hft⟩,u2,h.good,h.pre,h.len⟩
  ·rw[decide_eq_false hl,zaH,zan,za3];have:=rest (fun z=>hl z.2);unfold zbb at this;exact this
 ·rw[decide_eq_false h4,zaH,zan,za3];have:=rest (fun z=>h4 z.1);unfold zbb at this;exact this
end
section
variable {B:Hp}{F0:Nat→Prop}{p f g:Nat}{lim:Int}{Lz:List Nd}(hF:∀j,F0 j→j<B.next){ps lf:Value}{always:Bool}{leaf:Nd→Int}{nd:Nat→Nd}{v:Value}{out:List Nat}(hv:Rdb B 1 v out.length (ints out))(hvF:∀j,Id v j→¬F0 j)(hol:out.length≤2^39)(hzl:Lz.length≤2^38)
 (hnode:∀H s,RM B F0 p f g lim Lz H s→∀t∈out,RR Ak [ps,.int .i64 (t:Int)] H=some (.tuple #[(nd t).val,.int .i64 0],H))(hnum:∀t∈out,zgv (nd t))
 (hleaf:∀H,(∀j,j<B.next→¬F0 j→H.get j=B.get j)→∀t∈out,(nd t).op=4→∀(α:Type) (k:Value→Hp→Option α),zc6 orc RR lf [(nd t).val] H k=k (.tuple #[.int .i64 (leaf (nd t)),.int .i64 0]) H)
include hF hv hvF hol hzl hnode hnum hleaf
theorem znW:∀(r:List Nat) (i:Nat) (H:Hp) (s:RS),out.drop i=r→i≤out.length→RM B F0 p f g lim Lz H s→s.1.length+r.length≤2^40→zlt lim always leaf nd r s →
  ∃H',zau (zbr RR ps (.pointer (some ⟨p,0,none⟩)) (.bool always) lf v (.map (some B.next)) (.int .i64 (out.length:Int))) [.int .i64 (i:Int)] H=some (.exit 0,[.int .i64 (out.length:Int)],H')∧RM B F0 p f g lim Lz H' (zcr lim always leaf nd r s)
 |[],i,H,s,hr,hi,h,_,_=>by
  have hil:i=out.length:=by have:=congrArg List.length hr;rw[length_drop,length_nil]at this;omega
  subst hil;refine⟨H,?_,h⟩;have:zbr RR ps (.pointer (some ⟨p,0,none⟩)) (.bool always) lf v (.map (some B.next)) (.int .i64 (out.length:Int)) [.int .i64 (out.length:Int)] H=some (.exit 0,[.int .i64 (out.length:Int)],H):=by unfold zbr;simp only[qg0];rw[lF (Int.lt_irrefl _)]
  rw[zah,this];rfl
 |t::r,i,H,s,hr,hi,h,hb,hok=>by
  have hlt:i<out.length:=by have:=congrArg List.length hr;rw[length_drop,length_cons]at this;omega
  have hti:out[i]?=some t:=by
   have:(out.drop i)[0]?=some t:=by rw[hr];rfl
   rwa [List.getElem?_drop,Nat.add_zero]at this
  have hr2:out.drop (i+1)=r:=by rw[←drop_drop,hr];rfl
  rw[length_cons]at hb;obtain⟨o1,o2⟩:=hok;obtain⟨H1,e1,h1⟩:=rem_step hF hv hvF (by omega) hzl hnode hnum hleaf hti h (by omega) o1;have hl1:=zhZ (lim:=lim) (always:=always) (leaf:=leaf) (t:=(t:Int)) (n:=nd t) (s:=s);obtain⟨H',g1,g2⟩:=znW r (i+1) H1 _ hr2 (by omega) h1 (by omega) o2;refine⟨H',?_,g2⟩;rw[zah,e1];exact g1
end
theorem znU{B:Hp}{m:Nat}{tm:Int→Int}{x:Value}{ns:List Nat}(hx:RdO B 1 x ns.length (ints ns))(hl:ns.length≤2^40)(hm:MapF B m tm)(hml:m<B.next):∀(k i:Nat) (H:Hp) (acc:Value),i+k=ns.length→zeG 1 B H acc i (zbR ((ns.take i).map fun (t:Nat)=>tm (t:Int))) →
  ∃H' acc',zau (zbq RR x (.map (some m)) (.int .i64 (ns.length:Int))) [acc,.int .i64 (i:Int)] H=some (.exit 4,[acc',.int .i64 (ns.length:Int)],H')∧zeG 1 B H' acc' ns.length (zbR (ns.map fun (t:Nat)=>tm (t:Int)))
 |0,i,H,acc,hk,h=>by
  have:i=ns.length:=by omega
  subst this;rw[take_length]at h;refine⟨H,acc,?_,h⟩;have:zbq RR x (.map (some m)) (.int .i64 (ns.length:Int)) [acc,.int .i64 (ns.length:Int)] H=some (.exit 4,[acc,.int .i64 (ns.length:Int)],H):=by unfold zbq;simp only[qg0,qg1];rw[lF (Int.lt_irrefl _)]
  rw[zah,this];rfl
 |k+1,i,H,acc,hk,h=>by
  have hlt:i<ns.length:=by omega
  have hi:ns[i]?=some ns[i]:=List.getElem?_eq_getElem hlt;have htk:ns.take (i+1)=ns.take i++[ns[i]]:=by rw[take_add_one,hi];rfl
  generalize ns[i]=t at hi htk;have hxH:=hx.keep h.frm fun _ _ q=>q;obtain⟨y,x1,x2⟩:=hxH.at1 (i:=i) (z:=.int .i64 (t:Int)) (by unfold ints;rw[List.getElem?_map,hi];rfl);have hmH:MapF H m tm:=hm.keep (h.old m hml);have lw:∀(f:Value→Option Outc),za7 PP Aa (.int .i64 0) (.map (some m)) (.int .i64 (t:Int)) false H f=f (.int .i64 (tm (t:Int))):=fun f=>hmH.look ikV _ f;have q:(i:Int)<(ns.length:Int):=by omega
  have w1:IntKind.i64.wrap ((i:Int)+1)=((i+1:Nat):Int):=zaz (by omega) (by omega);obtain⟨v',H1,p1,p2,p3,p4,_⟩:=h.vec.push (bytes:=8) (zs:=[.int .i64 0]) (x:=.int .i64 (tm (t:Int))) (by decide) (by decide) rfl rfl rfl (by omega);have hn:=h.next;have hcs:zbR ((ns.take i).map fun (t:Nat)=>tm (t:Int))++zab (.int .i64 (tm (t:Int)))=zbR ((ns.take (i+1)).map fun (t:Nat)=>tm (t:Int)):=by rw[htk];simp[zbR];rfl
  rw[hcs]at p2
  have h1:zeG 1 B H1 v' (i+1) (zbR ((ns.take (i+1)).map fun (t:Nat)=>tm (t:Int))):=⟨Nat.le_trans hn p3.next,fun j hj=>by rw[p3.same j (by omega) (fun z=>by have:=h.new j z;omega),h.old j hj],p2,fun j hj=>by
   rcases p4 j hj with z|z
   ·exact h.new j z
   ·omega⟩
  obtain⟨H',acc',g1,g2⟩:=znU hx hl hm hml k (i+1) H1 v' (by omega) h1;refine⟨H',acc',?_,g2⟩;have:zbq RR x (.map (some m)) (.int .i64 (ns.length:Int)) [acc,.int .i64 (i:Int)] H=some (.next,[v',.int .i64 ((i+1:Nat):Int)],H1):=by unfold zbq;simp only[qg0,qg1];rw[lT q,x1,x2,lw,p1,zaU,w1]
  rw[zah,this];exact g1
structure RemR(H0 H':Hp)(p f g:Nat)(lim:Int)(sl:Value)(v:Value)(ns:List Nat)(s:RS):Prop where
 st:∃sl',StF H' p lim s.1 s.2.1 sl' f g∧(∀j,Foot p f g sl' j→Foot p f g sl j∨H0.next≤j)∧∀j,Id v j→¬Foot p f g sl' j
 vec:Vec H' 1 v ns.length (zbR (ns.map fun (t:Nat)=>s.2.2 (t:Int)))
 new:∀j,Id v j→H0.next≤j
 frm:Frm (Foot p f g sl) H0 H'
 good:zbZ s.1 s.2.1
theorem c_remade{H0:Hp}{q fs gs:Nat}{lims:Int}{Ls:List Nd}{Ks:List (ByteArray×Int)}{sls:Value}(hsrc:StF H0 q lims Ls Ks sls fs gs)(hgs:zbZ Ls Ks)(hLs:Ls.length≤2^38){p f g:Nat}{lim:Int}{Lt:List Nd}{Kt:List (ByteArray×Int)}{sl:Value}(ht:StF H0 p lim Lt Kt sl f g)(hgt:zbZ Lt Kt)(hLt:Lt.length≤2^38)
  {x:Value} {ns:List Nat} (hx:RdO H0 1 x ns.length (ints ns)) (hxF:∀j,Id x j→¬Foot p f g sl j) (hns:∀t∈ns,1≤t∧t≤Ls.length) (hnl:ns.length≤2^40) {lf:Value} {always:Bool} {leaf:Nd→Int}
  (hnode:∀B,Frm (fun _=>False) H0 B→∀H s,RM B (Foot p f g sl) p f g lim Lt H s→∀t∈posts Ls ns [],RR Ak [.pointer (some ⟨q,0,none⟩),.int .i64 (t:Int)] H=some (.tuple #[(zao Ls t).val,.int .i64 0],H))
  (hleaf:∀B,Frm (fun _=>False) H0 B→∀H,(∀j,j<B.next→¬Foot p f g sl j→H.get j=B.get j)→∀t∈posts Ls ns [],(zao Ls t).op=4→∀(α:Type) (k:Value→Hp→Option α),zc6 orc RR lf [(zao Ls t).val] H k=k (.tuple #[.int .i64 (leaf (zao Ls t)),.int .i64 0]) H)
  (hok:zlt lim always leaf (zao Ls) (posts Ls ns []) (Lt,Kt,fun _=>0)) :
  ∃H' v,RR AW [.pointer (some ⟨q,0,none⟩),.pointer (some ⟨p,0,none⟩),x,.bool always,lf] H0=some (.tuple #[v,.nilIface],H')∧RemR H0 H' p f g lim sl v ns (zcr lim always leaf (zao Ls) (posts Ls ns []) (Lt,Kt,fun _=>0)):=by
 have hr:=(zkx E0 rfl (.pointer (some ⟨q,0,none⟩)) (.pointer (some ⟨p,0,none⟩)) x (.bool always) lf H0).trans (zkT _ _ _ _ _ _ _);have hd:=hgs.dag;obtain⟨H1,v1,e1,o1⟩:=Go.AM.zk4 hsrc hd (by omega) hx hnl hns;obtain⟨p1,p2,p3,p4⟩:=zbC hgs hns;have hpl:(posts Ls ns []).length≤Ls.length:=Told.len ((⟨nodup_nil,fun x h=>by cases h⟩:Told Ls.length []).posts hd hns);have f1:Frm (fun _=>False) H0 H1:=⟨o1.next,fun j hj _=>o1.old j hj⟩
 have hnode1:=hnode H1 f1;have hleaf1:=hleaf H1 f1;have hFlt:∀j,Foot p f g sl j→j<H1.next:=fun j hj=>Nat.lt_of_lt_of_le (ht.foot_lt hj) f1.next;have hnum:∀t∈posts Ls ns [],zgv (zao Ls t):=fun t hm=>hgs.num _ (mem_of_getElem? (zcg (p2 t hm)));generalize hout:posts Ls ns []=out at *;have hh:∀(n:Int) (f:Option (Value×Hp)),zeo (.int .i64 n) f=f:=fun n f=>rfl;have hm:∀(H:Hp) (f:Value→Hp→Option (Value×Hp)),zbD H f=f (.map (some H.next)) (H.new (.map [])):=fun H f=>rfl;have ht1:StF H1 p lim Lt Kt sl f g:=ht.keep (fun j hj=>o1.old j (ht.foot_lt hj)) o1.next;have hRM:RM H1 (Foot p f g sl) p f g lim Lt (H1.new (.map [])) (Lt,Kt,fun _=>0):=by refine⟨by show H1.next<H1.next+1;omega,fun j hj _=>by rw[get_new,if_neg (by omega)],⟨sl,ht1.keep (fun j hj=>by have:=ht1.foot_lt hj;rw[get_new,if_neg (by omega)]) (by show H1.next≤H1.next+1;omega),fun j hj=>.inl hj⟩,MapF.new H1,hgt,⟨[],by rw[append_nil]⟩,by show Lt.length≤_;omega⟩
 have hvF:∀j,Id v1 j→¬Foot p f g sl j:=fun j hj z=>by have:=o1.new j hj;have:=ht.foot_lt z;omega
 obtain⟨H2,l1,r1⟩:=znW (always:=always) hFlt o1.vec.rd hvF (by omega) hLt hnode1 hnum hleaf1 out 0 _ _ rfl (Nat.zero_le _) hRM (by show Lt.length+_≤_;omega) hok;have l1:zau (zbr RR (.pointer (some ⟨q,0,none⟩)) (.pointer (some ⟨p,0,none⟩)) (.bool always) lf v1 (.map (some H1.next)) (.int .i64 (out.length:Int))) [.int .i64 0] (H1.new (.map []))=_:=l1;have hn2:=r1.next
 have hx2:RdO H2 1 x ns.length (ints ns):=hx.keep' (fun j hj=>by
  have:=hx.lt hj
  rw[r1.old j (by have:=f1.next;omega) (hxF j hj),o1.old j (hx.lt hj)]) (by have:=f1.next;omega)
 obtain⟨v3,H3,mk1,mk2,mk3,mk4⟩:=Vec.cap H2 (sz:=1) (bytes:=8) (zs:=[.int .i64 0]) rfl rfl (n:=ns.length) (by omega);have m3:zeG 1 H2 H3 v3 0 (zbR ((ns.take 0).map fun (t:Nat)=>(zcr lim always leaf (zao Ls) out (Lt,Kt,fun _=>0)).2.2 (t:Int))):=⟨mk3.next,fun j hj=>mk3.same j hj fun z=>z,mk2,mk4⟩
 obtain⟨H4,v4,l2,m4⟩:=znU hx2 hnl r1.map hn2 ns.length 0 H3 v3 (Nat.zero_add _) m3;have l2:zau (zbq RR x (.map (some H1.next)) (.int .i64 (ns.length:Int))) [v3,.int .i64 0] H3=_:=l2;rw[zag e1,x01,zba,bF (by decide),o1.vec.len,hh,hm,o1.vec.len,l1,zan,za6,zaC,hx2.len,mk1,hx2.len,l2,zan,za6,zaC]at hr;obtain⟨sl',s1,s2⟩:=r1.st;have hn01:=f1.next;refine⟨H4,v4,hr,⟨⟨sl',s1.keep (fun j hj=>m4.old j (s1.foot_lt hj)) m4.next,fun j hj=>?_,fun j hj z=>?_⟩,m4.vec,fun j hj=>?_,⟨by have:=m4.next;omega,fun j hj hf=>?_⟩,r1.good⟩⟩
 ·rcases s2 j hj with z|z
  ·exact .inl z
  ·exact .inr (by omega)
 ·have:=m4.new j hj;have:=s1.foot_lt z;omega
 ·have:=m4.new j hj;omega
 ·rw[m4.old j (by omega),r1.old j (by omega) hf,o1.old j hj]
theorem c_number(H:Hp):∃H',RR BF [.nilIface] H=some (.int .i64 0,H')∧Frm (fun _=>False) H H':=by
 have hr:=zky E0 rfl .nilIface H;unfold zgc at hr;have e:∀(y:Value) (H:Hp),RR BD [.nilIface,y] H=some (.bool false,H):=fun y H=>by have h2:=zmR E0 rfl .nilIface y H;unfold ziz at h2;have z:∀{α:Type} (k:Value→Option α),zdu PP .eql AA .nilIface k=k (.bool true):=fun k=>rfl;rw[z,zad,za0]at h2;exact h2
 have hal:∀(k:Value→Hp→Option (Value×Hp)),zcX [.int .i64 0] H k=k (.pointer (some ⟨H.next,0,none⟩)) (H.new (.cells [.int .i64 0] true)):=fun k=>rfl;rw[hal,zag (e _ _),zad,zaH]at hr;exact⟨_,hr,zcz _ _ _⟩
end Go.AM.N14
