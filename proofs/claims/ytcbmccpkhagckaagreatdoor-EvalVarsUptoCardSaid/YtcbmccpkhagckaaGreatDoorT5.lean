/- Part of the proof of EvalVarsUptoCardSaid: see the last file.  -/
import Derived.Test.YtcbmccpkhagckaaGreatDoorCards
import Derived.Test.YtcbmccpkhagckaaGreatDoorTie
import Derived.WalkKit
import Derived.ProofKit
import Derived.OpenShut
import Derived.Deep.DeepHandedRow
import Derived.Deep.DeepWitnessRowRef
import Derived.Stop.LaidErr
import Derived.Lib.LaidTab
import Derived.Lib.LaidU8
import Derived.Lib.TrailingZeros
import Derived.Lib.LaidIn
import Derived.KernelRfl
import Derived.Laws.MathBits
import Derived.Lib.Mul64
import Derived.Test.YtcbmccpkhagckaaGreatDoorT1
import Derived.Test.YtcbmccpkhagckaaGreatDoorT2
import Derived.Test.YtcbmccpkhagckaaGreatDoorT3
import Derived.Test.YtcbmccpkhagckaaGreatDoorT4
set_option linter.unusedSimpArgs false
set_option linter.unusedVariables false
set_option linter.unusedSectionVars false
set_option maxRecDepth 100000
namespace Go.AM
open Go Go.ChangeShapes Go.WideShapes Go.ChangeAt Go.RowKit Go.Proofs.YtcbmccpkhagckaaGreatDoor
theorem xt7:XtC PP orc.xt:=by
 intro f e h;have h:look none [(F.a39,some zk4),(F.a38,some zld)] f=some e:=h;unfold look at h;split at h
 ·rename_i q;cases h;have:f=F.a39:=(Nat.eq_of_beq_eq_true q).symm;subst this;exact idxStr_xt Go.Proofs.Tryz.func184 (by kernel_rfl) (by kernel_rfl) (by kernel_rfl) (by kernel_rfl)
 ·unfold look at h;split at h
  ·rename_i q;cases h;have:f=F.a38:=(Nat.eq_of_beq_eq_true q).symm;subst this;exact cntStr_xt Go.Proofs.Tryz.func157 (by kernel_rfl) (by kernel_rfl) (by kernel_rfl) (by kernel_rfl)
  ·cases h
theorem zgw {P:Program} {W:World} {name:String} {k:IntKind} {zs:List Int} {rest:List (String × DataW Unit)} {g:Nat} {t e:TypeId} {n:Nat} {ps:List MemPlace}
  (hg:P.globalNamed name=some g) (hty:(P.globals[g]?).map (·.type)=some t) (ht:P.underlying t=some (.array n e)) (he:P.underlying e=some (.int k)) (hce:P.cellsOf e=1) (hct:P.cellsOf t=n)
  (h:DataW.LaidVars P W ((name,Go.Lib.tabData k zs) :: rest) ps):∃ ty fz,W.heap[g]?=some (.cells (zs.map fun z=>Value.int k z).toArray ty fz):=by
 obtain⟨g',t',cs,fuel,p,q,hg',ht',hvar,hd,_,_⟩:=h;obtain rfl:=Option.some.inj (hg.symm.trans hg');obtain rfl:=Option.some.inj (hty.symm.trans ht');have hc:=Go.Lib.cells_of_tab ht he hce hct hd;unfold World.var? at hvar;rw[hg] at hvar;have hvar:(match W.heap[g]? with|some (Obj.cells cs _ _)=>some cs|_=>none)=some cs:=hvar;split at hvar
 ·rename_i cs' ty fz hw;cases hvar;refine⟨ty,fz,?_⟩;rw[hw,←hc]
 ·cases hvar
theorem zjV {P:Program} {W:World} {name:String} {g:Nat} {cs:Array Value} (hg:P.globalNamed name=some g) (hvar:W.var? P name=some cs):∃ ty fz,W.heap[g]?=some (.cells cs ty fz):=by
 unfold World.var? at hvar;rw[hg] at hvar;have hvar:(match W.heap[g]? with|some (Obj.cells cs _ _)=>some cs|_=>none)=some cs:=hvar;split at hvar
 ·rename_i cs' ty fz hw;cases hvar;exact⟨ty,fz,hw⟩
 ·cases hvar
def bru64:List Int:=Go.Lib.deBruijn64tab.map fun (n:Nat)=>(n:Int)
theorem pow_data:(Rows.laid_internal_strconv_uint64pow10:DataW Unit)=Go.Lib.tabData .u64 zpY:=by kernel_rfl
theorem spc_data:(Rows.laid_strings_asciiSpace:DataW Unit)=Go.Lib.tabData .u8 zkx:=by kernel_rfl
theorem bru_data:(Rows.laid_math_bits_deBruijn64tab:DataW Unit)=Go.Lib.tabData .u8 bru64:=by kernel_rfl
abbrev zkq:List (String × DataW Unit):=[("math/bits.deBruijn32tab",Rows.laid_math_bits_deBruijn32tab),("math/bits.deBruijn64tab",Rows.laid_math_bits_deBruijn64tab),("internal/strconv.uint64pow10",Rows.laid_internal_strconv_uint64pow10),("unicode/utf8.acceptRanges",Rows.laid_unicode_utf8_acceptRanges),
 ("strconv.ErrRange",Rows.laid_strconv_ErrRange),("strconv.ErrSyntax",Rows.laid_strconv_ErrSyntax),("unicode.White_Space",Rows.laid_unicode_White_Space),("strings.asciiSpace",Rows.laid_strings_asciiSpace),("unicode/utf8.first",Rows.laid_unicode_utf8_first)]
theorem zpp : "*" ++ "errors.errorString" = "*errors.errorString" := by decide
theorem err_row:∀ u,PP.typeName? 3 u=some "*errors.errorString" → u=T.p_errors_errorString:=fun u h=>
 typeName_ptr_named (nm := "errors.errorString") (by rw[zpp];kernel_rfl) (by kernel_rfl) (by decide) u (by rw[zpp];exact h)
theorem laid_errs {W:World} (h:laidMetH PP zkq W):(∃ p ty fz,W.heap[G.strconv_ErrRange]?=some (.cells #[.iface T.p_errors_errorString p] ty fz))∧(∃ p ty fz,W.heap[G.strconv_ErrSyntax]?=some (.cells #[.iface T.p_errors_errorString p] ty fz)):=by have h:laidMet PP zkq W:=h;have h4:=h.tail.tail.tail.tail;obtain⟨a,s,hv,_⟩:=laid_sentinel (g:=G.strconv_ErrRange) (ti:=T.error) (tp:=T.p_errors_errorString) (te:=T.errors_errorString) (ts:=T.string) h4 (by kernel_rfl) (by kernel_rfl) Go.Proofs.Tryz.underlying114 err_row (by kernel_rfl) Go.Proofs.Tryz.underlying269 rfl rfl (by kernel_rfl) (by kernel_rfl) (by kernel_rfl);obtain⟨a2,s2,hv2,_⟩:=laid_sentinel (g:=G.strconv_ErrSyntax) (ti:=T.error) (tp:=T.p_errors_errorString) (te:=T.errors_errorString) (ts:=T.string) h4.tail (by kernel_rfl) (by kernel_rfl) Go.Proofs.Tryz.underlying114 err_row (by kernel_rfl) Go.Proofs.Tryz.underlying269 rfl rfl (by kernel_rfl) (by kernel_rfl) (by kernel_rfl);obtain⟨t1,z1,e1⟩:=zjV (by kernel_rfl) hv;obtain⟨t2,z2,e2⟩:=zjV (by kernel_rfl) hv2;exact⟨⟨_,t1,z1,e1⟩,⟨_,t2,z2,e2⟩⟩
theorem laid_tabs {W:World} (h:laidMetH PP zkq W):(∃ ty fz,W.heap[G.internal_strconv_uint64pow10]?=some (.cells (zpY.map fun z=>Value.int .u64 z).toArray ty fz)) ∧
  (∃ ty fz,W.heap[G.strings_asciiSpace]?=some (.cells (zkx.map fun z=>Value.int .u8 z).toArray ty fz))∧(∃ ty fz,W.heap[G.bits_deBruijn64tab]?=some (.cells (bru64.map fun z=>Value.int .u8 z).toArray ty fz)):=by
 have h:laidMet PP zkq W:=h;obtain⟨q1,h1,_⟩:=h.tail;obtain⟨q2,h2,_⟩:=h.tail.tail;obtain⟨q7,h7,_⟩:=h.tail.tail.tail.tail.tail.tail.tail;rw[bru_data] at h1;rw[pow_data] at h2;rw[spc_data] at h7
 exact⟨zgw (by kernel_rfl) (t:=T.a20_uint64) (e:=T.uint64) (n:=20) (by kernel_rfl) (by kernel_rfl) (by kernel_rfl) (by kernel_rfl) (by kernel_rfl) h2,
  zgw (by kernel_rfl) (t:=T.a256_uint8) (e:=T.uint8) (n:=256) (by kernel_rfl) (by kernel_rfl) (by kernel_rfl) (by kernel_rfl) (by kernel_rfl) h7,
  zgw (by kernel_rfl) (t:=T.a64_uint8) (e:=T.uint8) (n:=64) (by kernel_rfl) (by kernel_rfl) (by kernel_rfl) (by kernel_rfl) (by kernel_rfl) h1⟩
theorem start {W:World} (hsz:PP.globals.size≤W.heap.size) (h:laidMetH PP zkq W):∃ H0,Rel PP W H0 (B00 PP)∧(∀ i o,H0.get i=some o→o.own=false)∧Laid H0:=by
 obtain⟨⟨t1,z1,e1⟩,⟨t2,z2,e2⟩,t3,z3,e3⟩:=laid_tabs h;obtain⟨⟨p4,t4,z4,e4⟩,p5,t5,z5,e5⟩:=laid_errs h;let Fx:Nat→Option AObj:=fun i=>if i=G.internal_strconv_uint64pow10 then some (.fix (.cells (zpY.map fun z=>Value.int .u64 z).toArray t1 z1)) else if i=G.strings_asciiSpace then some (.fix (.cells (zkx.map fun z=>Value.int .u8 z).toArray t2 z2))
  else if i=G.bits_deBruijn64tab then some (.fix (.cells (bru64.map fun z=>Value.int .u8 z).toArray t3 z3)) else if i=G.strconv_ErrRange then some (.fix (.cells #[.iface T.p_errors_errorString p4] t4 z4)) else if i=G.strconv_ErrSyntax then some (.fix (.cells #[.iface T.p_errors_errorString p5] t5 z5)) else none
 obtain⟨r1,r2⟩:=relStart (P:=PP) hsz (F:=Fx) (fun i o hi=>by
  have hi:(if i=G.internal_strconv_uint64pow10 then _ else if i=G.strings_asciiSpace then _ else if i=G.bits_deBruijn64tab then _ else if i=G.strconv_ErrRange then _ else if i=G.strconv_ErrSyntax then _ else none)=some o:=hi;split at hi
  ·rename_i q;subst q;cases hi;exact .inl ⟨_,rfl,e1⟩
  ·split at hi
   ·rename_i q;subst q;cases hi;exact .inl ⟨_,rfl,e2⟩
   ·split at hi
    ·rename_i q;subst q;cases hi;exact .inl ⟨_,rfl,e3⟩
    ·split at hi
     ·rename_i q;subst q;cases hi;exact .inl ⟨_,rfl,e4⟩
     ·split at hi
      ·rename_i q;subst q;cases hi;exact .inl ⟨_,rfl,e5⟩
      ·cases hi)
 have g:∀ i,i<PP.globals.size→(HS PP Fx).get i=Fx i:=fun i hi=>if_pos hi;have lt:∀ i,i<11→i<PP.globals.size:=fun i hi=>by rw[zkp];omega
 refine⟨_,r1,r2,⟨Nat.le_refl _,⟨⟨_,t1,z1,(g _ (lt _ (by decide))).trans rfl,?_⟩,⟨_,t2,z2,(g _ (lt _ (by decide))).trans rfl,?_⟩,⟨_,t3,z3,(g _ (lt _ (by decide))).trans rfl,?_⟩⟩,⟨_,t5,z5,(g _ (lt _ (by decide))).trans rfl,rfl⟩,⟨_,t4,z4,(g _ (lt _ (by decide))).trans rfl,rfl⟩⟩⟩
 ·kernel_rfl
 ·kernel_rfl
 ·kernel_rfl
noncomputable def zdo (os:Os):World:=
 let N:=(World.settled PP os).heap.size
 let w0:=World.holding PP os ⟨#[.cells (Go.Lib.whiteT.map fun (z:Nat)=>Value.int .u16 (z:Int)).toArray T.unicode_Range16,.cells #[.slice (some ⟨N,0,none⟩) 7 7,.slice none 0 0,.int .i64 2] T.unicode_RangeTable,
  .cells #[.string ⟨#[105,110,118,97,108,105,100,32,115,121,110,116,97,120]⟩] T.errors_errorString,.cells #[.string ⟨#[118,97,108,117,101,32,111,117,116,32,111,102,32,114,97,110,103,101]⟩] T.errors_errorString],#[],[]⟩
 let put (h:Array Obj) (g:Nat) (cs:Array Value):Array Obj:=h.modify g fun
  |.cells _ t frozen=>.cells cs t frozen
  |o=>o
 let h1:=put w0.heap G.strings_asciiSpace (zkx.map fun z=>Value.int .u8 z).toArray
 let h2:=put h1 G.internal_strconv_uint64pow10 (zpY.map fun z=>Value.int .u64 z).toArray
 let h3:=put h2 G.bits_deBruijn64tab (bru64.map fun z=>Value.int .u8 z).toArray
 let h4:=put h3 G.bits_deBruijn32tab (Go.Lib.deBruijn32tab.map fun (z:Nat)=>Value.int .u8 (z:Int)).toArray
 let h5:=put h4 G.unicode_White_Space #[.pointer (some ⟨N+1,0,none⟩)]
 let h6:=put h5 G.strconv_ErrSyntax #[.iface T.p_errors_errorString (.pointer (some ⟨N+2,0,none⟩))]
 let h7:=put h6 G.strconv_ErrRange #[.iface T.p_errors_errorString (.pointer (some ⟨N+3,0,none⟩))]
 let h8:=put h7 G.utf8_first (Go.Lib.firstTab.map fun z=>Value.int .u8 z).toArray
 let h9:=put h8 G.utf8_acceptRanges (((List.range 16).flatMap fun i=>[Value.int .u8 (Go.Lib.accLo i),Value.int .u8 (Go.Lib.accHi i)]).toArray)
 { w0 with heap:=h9 }
set_option maxRecDepth 1000000
noncomputable abbrev nS:Nat:=(World.settled PP default).heap.size
theorem lp1 (os:Os) (args:Array Value):LaidIn PP ((zdo os).forCall (fun _ _=>0) ⟨#[],args,[]⟩).memory (zkq.take 3) [G.bits_deBruijn32tab,G.bits_deBruijn64tab,G.internal_strconv_uint64pow10]:=
 LaidIn.of_run _ 8 (by kernel_rfl) (by kernel_rfl) (by kernel_rfl) (by kernel_rfl)
theorem lp2 (os:Os) (args:Array Value):LaidIn PP ((zdo os).forCall (fun _ _=>0) ⟨#[],args,[]⟩).memory ((zkq.drop 3).take 4) [G.utf8_acceptRanges,G.strconv_ErrRange,G.strconv_ErrSyntax,G.unicode_White_Space,nS,nS+1,nS+2,nS+3]:=
 LaidIn.of_run _ 8 (by kernel_rfl) (by kernel_rfl) (by kernel_rfl) (by kernel_rfl)
theorem lp3 (os:Os) (args:Array Value):LaidIn PP ((zdo os).forCall (fun _ _=>0) ⟨#[],args,[]⟩).memory ((zkq.drop 7).take 1) [G.strings_asciiSpace]:=
 LaidIn.of_run _ 8 (by kernel_rfl) (by kernel_rfl) (by kernel_rfl) (by kernel_rfl)
theorem lp4 (os:Os) (args:Array Value):LaidIn PP ((zdo os).forCall (fun _ _=>0) ⟨#[],args,[]⟩).memory (zkq.drop 8) [G.utf8_first]:=
 LaidIn.of_run _ 8 (by kernel_rfl) (by kernel_rfl) (by kernel_rfl) (by kernel_rfl)
theorem laid_all (os:Os) (args:Array Value):laidMet PP zkq ((zdo os).forCall (fun _ _=>0) ⟨#[],args,[]⟩).memory:=
 ((((lp1 os args).append (lp2 os args) (by kernel_rfl)).append (lp3 os args) (by kernel_rfl)).append (lp4 os args) (by kernel_rfl)).met
end Go.AM
namespace Go.AM.N14
open Go Go.AM
abbrev W64:=BitVec 64
theorem bit_eq {a b:W64} (h:∀ j,a.getLsbD j=b.getLsbD j):a=b:=BitVec.eq_of_getLsbD_eq fun i _=>h i
theorem bit_hi (a:W64) {j:Nat} (h:64≤j):a.getLsbD j=false:=BitVec.getLsbD_of_ge a j h
theorem zn4 {x y i:Nat} (hx:x.testBit i=false) (hy:y.testBit i=true) (h:∀ j,i<j→x.testBit j=y.testBit j):x<y:=by
 have e:x/2^(i+1)=y/2^(i+1):=Nat.eq_of_testBit_eq fun j=>by rw[Nat.testBit_div_two_pow,Nat.testBit_div_two_pow];exact h _ (by omega)
 have p:∀ z:Nat,z/2^(i+1)=z/2^i/2:=fun z=>by rw[Nat.pow_succ,Nat.div_div_eq_div_mul]
 rw[p,p] at e;rw[Nat.testBit_eq_decide_div_mod_eq] at hx hy;have hx:¬ x/2^i%2=1:=of_decide_eq_false hx;have hy:y/2^i%2=1:=of_decide_eq_true hy;have:x/2^i<y/2^i:=by omega
 exact Nat.lt_of_not_le fun hle=>by have:=Nat.div_le_div_right (c:=2^i) hle;omega
theorem zp8 {a b:W64} {i:Nat} (h1:a.getLsbD i=false) (h2:b.getLsbD i=true) (h:∀ j,i<j→a.getLsbD j=b.getLsbD j):a.toNat<b.toNat:=
 zn4 (i:=i) (by rw[BitVec.testBit_toNat];exact h1) (by rw[BitVec.testBit_toNat];exact h2) fun j hj=>by rw[BitVec.testBit_toNat,BitVec.testBit_toNat];exact h j hj
theorem zqj {a b:Nat} (h:a≠b):∃ i,a.testBit i≠b.testBit i∧∀ j,i<j→a.testBit j=b.testBit j:=by
 have hx:a ^^^ b≠0:=fun e=>h (Nat.eq_of_testBit_eq fun j=>by have q:=congrArg (fun z=>Nat.testBit z j) e;simpa using q);refine⟨(a ^^^ b).log2,?_,fun j hj=>?_⟩
 ·have:(a ^^^ b).testBit (a ^^^ b).log2=true:=Nat.testBit_log2 hx;rw[Nat.testBit_xor] at this;intro e;rw[e] at this;simp at this
 ·have hl:a ^^^ b<2^j:=Nat.lt_of_lt_of_le Nat.lt_log2_self (Nat.pow_le_pow_right (by decide) hj);have:(a ^^^ b).testBit j=false:=Nat.testBit_lt_two_pow hl;rw[Nat.testBit_xor] at this;simpa using this
theorem zqk {a b:W64} (h:a.toNat<b.toNat):∃ i,i<64∧a.getLsbD i=false∧b.getLsbD i=true∧∀ j,i<j→a.getLsbD j=b.getLsbD j:=by
 obtain⟨i,h1,h2⟩:=zqj (a:=a.toNat) (b:=b.toNat) (by omega);rw[BitVec.testBit_toNat,BitVec.testBit_toNat] at h1;have h2:∀ j,i<j→a.getLsbD j=b.getLsbD j:=fun j hj=>by have:=h2 j hj;rwa [BitVec.testBit_toNat,BitVec.testBit_toNat] at this
 have hi:i<64:=by
  rcases Nat.lt_or_ge i 64 with q|q
  ·exact q
  ·rw[bit_hi a q,bit_hi b q] at h1;exact absurd rfl h1
 cases ha:a.getLsbD i with
 |false=>
  refine⟨i,hi,ha,?_,h2⟩;cases hb:b.getLsbD i with
  |true=>rfl
  |false=>rw[ha,hb] at h1;exact absurd rfl h1
 |true=>
  cases hb:b.getLsbD i with
  |true=>rw[ha,hb] at h1;exact absurd rfl h1
  |false=>have:=zp8 hb ha fun j hj=>(h2 j hj).symm;omega
def Fit (o z x:W64):Prop:=∀ j,(o.getLsbD j=true→x.getLsbD j=true)∧(z.getLsbD j=true→x.getLsbD j=false)
theorem part {o z x t:W64} (hf:Fit o z t) (hl:x.toNat<t.toNat):∃ i,i<64∧x.getLsbD i=false∧t.getLsbD i=true∧z.getLsbD i=false∧(∀ j,i<j→t.getLsbD j=x.getLsbD j) ∧
  (∀ j,i<j→(o.getLsbD j=true→x.getLsbD j=true)∧(z.getLsbD j=true→x.getLsbD j=false)):=by
 obtain⟨i,h1,h2,h3,h4⟩:=zqk hl;refine⟨i,h1,h2,h3,?_,fun j hj=>(h4 j hj).symm,fun j hj=>?_⟩
 ·cases hz:z.getLsbD i with
  |false=>rfl
  |true=>rw[(hf i).2 hz] at h3;cases h3
 ·rw[h4 j hj];exact hf j
def msk (n:Nat):W64:=BitVec.ofNat 64 (2^n-1)
theorem zkb (n j:Nat):(msk n).getLsbD j=(decide (j<64)&&decide (j<n)):=by unfold msk;rw[BitVec.getLsbD_ofNat,Nat.testBit_two_pow_sub_one]
theorem msk_all:msk 64=BitVec.allOnes 64:=rfl
theorem zlS (n:Nat) (hn:n≤64):(msk n).toNat=2^n-1:=by unfold msk;have:2^n≤2^64:=Nat.pow_le_pow_right (by decide) hn;have:=Nat.two_pow_pos n;rw[BitVec.toNat_ofNat,Nat.mod_eq_of_lt (by omega)]
end Go.AM.N14
namespace Go.AM.N14
open Go Go.AM
theorem zbJ {y:W64} {n:Nat} (hn:n≤64):y.toNat≤(msk n).toNat↔∀ j,n≤j→y.getLsbD j=false:=by
 rw[zlS n hn];have p:=Nat.two_pow_pos n;constructor
 ·intro h j hj;rw[←BitVec.testBit_toNat];exact Nat.testBit_lt_two_pow (Nat.lt_of_lt_of_le (show y.toNat<2^n by omega) (Nat.pow_le_pow_right (by decide) hj))
 ·intro h;have:y.toNat<2^n:=Nat.lt_pow_two_of_testBit _ fun i hi=>by rw[BitVec.testBit_toNat];exact h i hi
  omega
end Go.AM.N14
namespace Go.AM.N14
open Go Go.AM
structure Fct where
 w:Int
 one:W64
 zero:W64
 least:W64
 top:W64
section
variable {α:Type}
theorem u_all:Value.int .u64 18446744073709551615=wv (msk 64):=rfl
theorem cu64 (n:Nat) (h:n<18446744073709551616) (k:Value→Option α):zaq .u64 (.int .i64 (n:Int)) k=k (.int .u64 (n:Int)):=by rw[q_conv,q_u64 (by omega) (by omega)]
end
def wd (w:Int):Nat:=(max w 1).toNat
theorem wd_le {w:Int} (h:w≤64):wd w≤64:=by unfold wd;omega
theorem wd_pos (w:Int):1≤wd w:=by unfold wd;omega
end Go.AM.N14
namespace Go.AM.N14
open Go Go.AM
theorem msk_toNat {n:Nat} (hn:n≤64) (x:W64):(x&&&msk n).toNat=x.toNat%2^n:=by rw[BitVec.toNat_and,zlS n hn,Nat.and_two_pow_sub_one_eq_mod]
theorem zoF {n:Nat} (h0:1≤n) (hn:n≤64) (x:W64):ziU (n:Int) (x.toNat:Int)=((x&&&msk n).toNat:Int):=by
 unfold ziU;rw[if_neg (by omega),msk_toNat hn];by_cases h:n=64
 ·subst h;rw[if_pos (by decide),Nat.mod_eq_of_lt x.isLt]
 ·rw[if_neg (by omega),Int.toNat_natCast];simp
theorem zbT {n:Nat} (h0:1≤n) (hn:n≤64) (x:W64) (H:Hp):RR F.a0 [.int .i64 (n:Int),wv x] H=some (wv (x&&&msk n),H):=by have:=c45 (n:Int) (x.toNat:Int) (by omega) (by have:=x.isLt;omega) H;rw[zoF h0 hn] at this;exact this
theorem zdv {n:Nat} (h0:1≤n) (hn:n≤64) (H:Hp):RR F.a5 [.int .i64 (n:Int)] H=some (.bool true,H):=by refine(zmE E0 rfl _ _).trans ?_;unfold zih;rw[zbH,bT (by omega),zb4,decide_eq_true (by omega)]
def sg (n:Nat) (x:W64):Int:=(x.setWidth n).toInt
theorem sg_eq {n:Nat} (x:W64):sg n x=if 2*(x.toNat%2^n)<2^n then ((x.toNat%2^n:Nat):Int) else ((x.toNat%2^n:Nat):Int)-((2^n:Nat):Int):=by unfold sg;rw[BitVec.toInt_eq_toNat_cond,BitVec.toNat_setWidth]
theorem i_conv {α:Type} (y:W64) (k:Value→Option α):zaq .i64 (wv y) k=k (.int .i64 y.toInt):=by show k (.int .i64 (IntKind.i64.wrap (y.toNat:Int)))=_;congr 2;rw[BitVec.toInt_eq_toNat_cond];have:=y.isLt;simp only[IntKind.wrap,IntKind.signed,IntKind.bits];simp;split<;>split<;>omega
theorem i_shr {α:Type} {P:Program} (T:TypeId) (a:Int) (kd:IntKind) (m:Nat) (hm:m≤64) (k:Value→Option α):pBin P .shr T (.int .i64 a) (.int kd (m:Int)) k=k (.int .i64 (a/(2:Int)^m)):=by
 have:binV P .shr T (.int .i64 a) (.int kd (m:Int))=some (.int .i64 (a/(2:Int)^m)):=by show (if (m:Int)<0 then none else some (Value.int .i64 (a.fdiv (2^(min ((m:Int).toNat) 64)))))=_;rw[if_neg (by omega),Int.toNat_natCast,Nat.min_eq_left hm,Int.fdiv_eq_ediv_of_nonneg _ (Int.le_of_lt (Int.pow_pos (by decide)))]
 unfold pBin;rw[this]
theorem sg_shift {n:Nat} (h0:1≤n) (hn:n≤64) (x:W64):(x <<< (64-n)).toInt/(2:Int)^(64-n)=sg n x:=by
 rw[sg_eq,BitVec.toInt_eq_toNat_cond,BitVec.toNat_shiftLeft,Nat.shiftLeft_eq];have e:(2:Nat)^64=2^n*2^(64-n):=by rw[←Nat.pow_add];congr 1;omega
 have e1:x.toNat*2^(64-n)%2^64=x.toNat%2^n*2^(64-n):=by rw[e,Nat.mul_mod_mul_right]
 rw[e1];have hp:0<2^(64-n):=Nat.two_pow_pos _;have ep:((2:Int)^(64-n))=((2^(64-n):Nat):Int):=by push_cast;rfl
 rw[ep];generalize x.toNat%2^n=t;generalize hm:2^(64-n)=m at *;have e2:(2*(t*m)<2^64)↔2*t<2^n:=by rw[e,show 2*(t*m)=2*t*m by rw[Nat.mul_assoc]];exact Nat.mul_lt_mul_right hp
 have hm0:(m:Int)≠0:=by omega
 by_cases h:2*t<2^n
 ·rw[if_pos h,if_pos (e2.2 h)];push_cast;rw[Int.mul_ediv_cancel _ hm0]
 ·rw[if_neg h,if_neg (fun q=>h (e2.1 q)),e];have:((t*m:Nat):Int)-((2^n*m:Nat):Int)=(((t:Nat):Int)-((2^n:Nat):Int))*(m:Int):=by rw[Int.natCast_mul,Int.natCast_mul,Int.sub_mul]
  rw[this,Int.mul_ediv_cancel _ hm0]
theorem ziH {n:Nat} (h0:1≤n) (hn:n≤64) (x:W64) (H:Hp):RR F.a22 [.int .i64 (n:Int),wv x] H=some (.int .i64 (sg n x),H):=by
 refine(zlD E0 rfl _ _ _).trans ?_;unfold zhl;have e:IntKind.i64.wrap (64-(n:Int))=((64-n:Nat):Int):=by rw[zax (by omega) (by omega)];omega
 rw[zah (zdv h0 hn H),zbj,zac,show (!true)=false from rfl,zaJ,zb2,e,cu64 _ (by omega),b_shl,i_conv,i_shr _ _ _ _ (by omega),sg_shift h0 hn]
end Go.AM.N14
namespace Go.AM.N14
open Go Go.AM
def atM (op:Int) (n k j:Nat):Option Nat:=
 if op=25 then (if k≤j then some (j-k) else none) else if op=26 then (if j+k<n then some (j+k) else none) else if op=27 then some (min (j+k) (n-1)) else if op=28 then some ((j+n-k)%n) else some ((j+k)%n)
def bitAt (x:W64):Option Nat→Bool
 |some i=>x.getLsbD i
 |none=>false
def ziy (op:Int) (n:Nat) (x:W64) (k:Nat) (v:W64):Prop:=∀ j,v.getLsbD j=(decide (j<n)&&bitAt x (atM op n k j))
theorem ziy.eq {op:Int} {n:Nat} {x:W64} {k:Nat} {v w:W64} (h1:ziy op n x k v) (h2:ziy op n x k w):v=w:=bit_eq fun j=>by rw[h1 j,h2 j]
end Go.AM.N14
namespace Go.AM.N14
open Go Go.AM
theorem znZ {n k:Nat} (h0:1≤n) (hn:n≤64) (x:W64):BitVec.ofInt 64 (sg n x/(2:Int)^k)=((x.setWidth n).signExtend 64).sshiftRight k:=by
 have e1:((x.setWidth n).signExtend 64).toInt=sg n x:=by rw[BitVec.toInt_signExtend_of_le hn];rfl
 have e2:(((x.setWidth n).signExtend 64).sshiftRight k).toInt=sg n x/(2:Int)^k:=by rw[BitVec.toInt_sshiftRight,e1,Int.shiftRight_eq_div_pow];norm_cast
 rw[←e2,BitVec.ofInt_toInt]
theorem sar_bits {n k:Nat} (h0:1≤n) (hn:n≤64) (hk:k<n) (x:W64):ziy 27 n x k (((x.setWidth n).signExtend 64).sshiftRight k&&&msk n):=fun j=>by
 rw[BitVec.getLsbD_and,zkb,BitVec.getLsbD_sshiftRight];have hat:atM 27 n k j=some (min (j+k) (n-1)):=by unfold atM;rw[if_neg (by decide),if_neg (by decide),if_pos rfl]
 rw[hat];show _=(decide (j<n)&&x.getLsbD (min (j+k) (n-1)))
 by_cases hj:j<n
 ·have h64:j<64:=by omega
  rw[decide_eq_true h64,decide_eq_true hj,decide_eq_false (show ¬ 64≤j by omega)];have hs:∀ i,i<64→((x.setWidth n).signExtend 64).getLsbD i=x.getLsbD (min i (n-1)):=fun i hi=>by
   rw[BitVec.getLsbD_signExtend,BitVec.msb_eq_getLsbD_last,BitVec.getLsbD_setWidth,BitVec.getLsbD_setWidth];by_cases q:i<n
   ·rw[if_pos q,Nat.min_eq_left (by omega)];simp[hi,q]
   ·rw[if_neg q,Nat.min_eq_right (by omega)];simp[hi,show n-1<n by omega]
  have hm:((x.setWidth n).signExtend 64).msb=x.getLsbD (n-1):=by rw[BitVec.msb_eq_getLsbD_last,hs (64-1) (by decide),Nat.min_eq_right (by omega)]
  by_cases hjk:k+j<64
  ·rw[if_pos hjk,hs _ hjk,Nat.add_comm k j];simp
  ·rw[if_neg hjk,hm,Nat.min_eq_right (by omega)];simp
 ·rw[decide_eq_false hj];simp
theorem shl_bits {n k:Nat} (hn:n≤64) (hk:k<n) {x:W64}:ziy 25 n x k (x <<< k&&&msk n):=fun j=>by
 rw[BitVec.getLsbD_and,zkb,BitVec.getLsbD_shiftLeft];unfold atM bitAt;rw[if_pos rfl];by_cases hj:j<n
 ·have h64:j<64:=by omega
  by_cases hk2:k≤j
  ·rw[if_pos hk2];simp[hj,h64,show ¬ j<k by omega]
  ·rw[if_neg hk2];simp[show j<k by omega]
 ·rw[decide_eq_false hj];simp
theorem shr_bits {n k:Nat} (hn:n≤64) (hk:k<n) {x:W64} (hx:x.toNat≤(msk n).toNat):ziy 26 n x k (x >>> k):=fun j=>by
 have hz:=(zbJ hn).1 hx;rw[BitVec.getLsbD_ushiftRight];unfold atM bitAt;rw[if_neg (by decide),if_pos rfl];by_cases hj:j+k<n
 ·rw[if_pos hj,Nat.add_comm k j];simp[show j<n by omega]
 ·rw[if_neg hj,hz _ (by omega)];simp
theorem zoR {n k:Nat} (hn:n≤64) (hk:k<n) {x:W64} (hx:x.toNat≤(msk n).toNat) (j:Nat):((x <<< k|||x >>> (n-k))&&&msk n).getLsbD j=(decide (j<n)&&x.getLsbD ((j+n-k)%n)):=by
 have hz:=(zbJ hn).1 hx;rw[BitVec.getLsbD_and,zkb,BitVec.getLsbD_or,BitVec.getLsbD_shiftLeft,BitVec.getLsbD_ushiftRight];by_cases hj:j<n
 ·have h64:j<64:=by omega
  by_cases hk2:k≤j
  ·have:(j+n-k)%n=j-k:=by rw[show j+n-k=(j-k)+n by omega,Nat.add_mod_right,Nat.mod_eq_of_lt (by omega)]
   rw[this,hz (n-k+j) (by omega)];simp[hj,h64,show ¬ j<k by omega]
  ·have:(j+n-k)%n=n-k+j:=by rw[Nat.mod_eq_of_lt (by omega)];omega
   rw[this];simp[hj,h64,show j<k by omega]
 ·rw[decide_eq_false hj];simp
theorem p_moved {op:Int} (hop:25≤op∧op≤29) {n k:Nat} (h0:1≤n) (hn:n≤64) (hk:k<n) {x:W64} (hx:x.toNat≤(msk n).toNat) (H:Hp):∃ v:W64,ziy op n x k v∧RR F.a44 [.int .i64 op,.int .i64 (n:Int),wv x,.int .i64 (k:Int)] H=some (wv v,H):=by
 have hr:=zmC E0 rfl (.int .i64 op) (.int .i64 (n:Int)) (wv x) (.int .i64 (k:Int)) H;unfold zif at hr;rw[zaO,zac] at hr;by_cases h25:op=25
 ·subst h25;rw[decide_eq_true rfl,zaX,cu64 _ (by omega),b_shl,zah (zbT h0 hn _ H)] at hr;exact⟨_,shl_bits hn hk,hr⟩
 rw[decide_eq_false h25,zaJ,zaO,zac] at hr;by_cases h26:op=26
 ·subst h26;rw[decide_eq_true rfl,zaX,cu64 _ (by omega),b_shr] at hr;exact⟨_,shr_bits hn hk hx,hr⟩
 rw[decide_eq_false h26,zaJ,zaO,zac] at hr;by_cases h27:op=27
 ·subst h27;have hc:∀ (a:Int) (f:Value→Option (Value × Hp)),zaq .u64 (.int .i64 a) f=f (wv (BitVec.ofInt 64 a)):=fun a f=>by rw[zh2,zeC]
  rw[decide_eq_true rfl,zaX,zah (ziH h0 hn x H),cu64 _ (by omega),i_shr _ _ _ _ (by omega),hc,znZ h0 hn,zah (zbT h0 hn _ H)] at hr;exact⟨_,sar_bits h0 hn hk x,hr⟩
 rw[decide_eq_false h27,zaJ,zaO,zac] at hr;by_cases h29:op=29
 ·subst h29;have e1:IntKind.i64.wrap ((n:Int)-(k:Int))=((n-k:Nat):Int):=by rw[zax (by omega) (by omega)];omega
  have e2:(((n-k:Nat):Int)).tmod (n:Int)=(((n-k)%n:Nat):Int):=rfl;have hlt:(n-k)%n<n:=Nat.mod_lt _ (by omega);have e3:IntKind.i64.wrap ((n:Int)-(((n-k)%n:Nat):Int))=((n-(n-k)%n:Nat):Int):=by rw[zax (by omega) (by omega)];omega
  rw[decide_eq_true rfl,zaX,zb2,e1,s_rem _ _ _ _ (by omega),e2,cu64 _ (by omega),b_shl,zb2,e3,cu64 _ (by omega),b_shr,b_or,zah (zbT h0 hn _ H)] at hr;refine⟨_,fun j=>?_,hr⟩;rw[zoR hn hlt hx];unfold atM bitAt;rw[if_neg (by decide),if_neg (by decide),if_neg (by decide),if_neg (by decide)];dsimp only;by_cases hj:j<n
  ·have:(j+n-(n-k)%n)%n=(j+k)%n:=by
    by_cases hk0:k=0
    ·subst hk0;rw[Nat.sub_zero,Nat.mod_self,Nat.sub_zero,Nat.add_mod_right,Nat.add_zero]
    ·rw[Nat.mod_eq_of_lt (show n-k<n by omega),show j+n-(n-k)=j+k by omega]
   rw[this]
  ·rw[decide_eq_false hj];rfl
 have h28:op=28:=by omega
 subst h28;have e1:IntKind.i64.wrap ((n:Int)-(k:Int))=((n-k:Nat):Int):=by rw[zax (by omega) (by omega)];omega
 rw[decide_eq_false h29,zaJ,cu64 _ (by omega),b_shl,zb2,e1,cu64 _ (by omega),b_shr,b_or,zah (zbT h0 hn _ H)] at hr;refine⟨_,fun j=>?_,hr⟩;rw[zoR hn hk hx];unfold atM bitAt;rw[if_neg (by decide),if_neg (by decide),if_neg (by decide),if_pos rfl]
end Go.AM.N14
namespace Go.AM.N14
open Go Go.AM
open Classical in
noncomputable def movW (op:Int) (n:Nat) (x:W64) (k:Nat):W64:=if h:∃ v,ziy op n x k v then Classical.choose h else 0#64
theorem movW_eq {op:Int} {n:Nat} {x:W64} {k:Nat} {v:W64} (h:ziy op n x k v):movW op n x k=v:=by
 have hx:∃ v,ziy op n x k v:=⟨v,h⟩
 unfold movW;rw[dif_pos hx];exact ziy.eq (Classical.choose_spec hx) h
theorem p_mov {op:Int} (hop:25≤op∧op≤29) {n k:Nat} (h0:1≤n) (hn:n≤64) (hk:k<n) {x:W64} (hx:x.toNat≤(msk n).toNat) (H:Hp):RR F.a44 [.int .i64 op,.int .i64 (n:Int),wv x,.int .i64 (k:Int)] H=some (wv (movW op n x k),H):=by obtain⟨v,h1,h2⟩:=p_moved hop h0 hn hk hx H;rw[movW_eq h1];exact h2
theorem zer {n:Nat} (hn:n≤64) (x:W64):(x&&&msk n).toNat≤(msk n).toNat:=(zbJ hn).2 fun j hj=>by rw[BitVec.getLsbD_and,zkb];simp[show ¬ j<n by omega]
theorem zkU {n:Nat} (hn:n≤64) {x:W64} (h:x.toNat≤(msk n).toNat):x&&&msk n=x:=bit_eq fun j=>by
 rw[BitVec.getLsbD_and,zkb];by_cases hj:j<n
 ·simp[hj,show j<64 by omega]
 ·rw[(zbJ hn).1 h j (by omega)];rfl
theorem b_quo {α:Type} {P:Program} (T:TypeId) {a b:W64} (hb:b≠0#64) (k:Value→Option α):pBin P .quo T (wv a) (wv b) k=k (wv (a/b)):=by
 have hb2:(b.toNat:Int)≠0:=fun q=>hb (BitVec.eq_of_toNat_eq (by simpa using q));have:binV P .quo T (wv a) (wv b)=some (wv (a/b)):=by
  show (if (b.toNat:Int)=0 then none else some (Value.int .u64 (IntKind.u64.wrap ((a.toNat:Int).tdiv (b.toNat:Int)))))=_;rw[if_neg hb2];have e:((a.toNat:Int).tdiv (b.toNat:Int))=(((a/b).toNat:Nat):Int):=by rw[BitVec.toNat_udiv];rfl
  rw[e,zj6];rfl
 unfold pBin;rw[this]
theorem b_rem {α:Type} {P:Program} (T:TypeId) {a b:W64} (hb:b≠0#64) (k:Value→Option α):pBin P .rem T (wv a) (wv b) k=k (wv (a%b)):=by
 have hb2:(b.toNat:Int)≠0:=fun q=>hb (BitVec.eq_of_toNat_eq (by simpa using q));have e:((a.toNat:Int).tmod (b.toNat:Int))=(((a%b).toNat:Nat):Int):=by rw[BitVec.toNat_umod];rfl
 show pBin P .rem T (.int .u64 (a.toNat:Int)) (.int .u64 (b.toNat:Int)) k=_;rw[s_rem _ _ _ _ hb2,e];rfl
noncomputable def binW (op:Int) (n:Nat) (x y:W64):W64:=
 let X:=x&&&msk n
 let Y:=y&&&msk n
 if op=17 then X&&&Y else if op=18 then X|||Y else if op=19 then X ^^^ Y else if op=20 then (X+Y)&&&msk n else if op=21 then (X-Y)&&&msk n else if op=22 then (X*Y)&&&msk n
 else if op=23 then (if Y=0#64 then msk n else X/Y) else if op=24 then (if Y=0#64 then X else X%Y) else movW op n X (Y.toNat%n)
theorem zlL {op:Int} (H:Hp):RR F.a45 [.int .i64 op] H=some (.bool (decide (25≤op∧op≤29)),H):=by
 refine(zlC E0 rfl _ _).trans ?_;unfold zhk;rw[zbH,zac];by_cases h:op≥25
 ·rw[decide_eq_true h,zaX,zb4];congr 3;simp[show (25:Int)≤op from h]
 ·rw[decide_eq_false h,zaJ];congr 3;simp[show ¬ (25:Int)≤op from h]
theorem mod_bits {n:Nat} (hn:n≤64) (h0:1≤n) {α:Type} (Y:W64) (k:Value→Option α):(pBin PP .rem T.uint64 (wv Y) (.int .u64 (n:Int)) fun v=>zaq .i64 v k)=k (.int .i64 ((Y.toNat%n:Nat):Int)):=by unfold wv;rw[s_rem _ _ _ _ (by omega)];have e:((Y.toNat:Int).tmod (n:Int))=((Y.toNat%n:Nat):Int):=rfl;have hlt:Y.toNat%n<n:=Nat.mod_lt _ (by omega);rw[e,zh2,zax (by omega) (by omega)]
theorem p_bin {op:Int} (hop:17≤op∧op≤29) {n:Nat} (h0:1≤n) (hn:n≤64) (hs:25≤op→zoi (n:Int)=true) (x y:W64) (H:Hp):RR F.a68 [.int .i64 op,.int .i64 (n:Int),wv x,wv y] H=some (.tuple #[wv (binW op n x y),.int .i64 0],H):=by
 have hr:=zpU E0 rfl (.int .i64 op) (.int .i64 (n:Int)) (wv x) (wv y) H;unfold zk0 at hr;have hX:=zer hn x;have hY:=zer hn y;rw[lF (by omega),zbi,bF (by omega),zam,zaG,zah (zdv h0 hn H),zbj,zac,show (!true)=false from rfl,zaJ,zah (zlL H),zac] at hr;unfold binW;dsimp only;by_cases h25:25≤op
 ·have hsh:decide (25≤op∧op≤29)=true:=decide_eq_true ⟨h25,hop.2⟩;have hpop:decide (pops.getD n 0=1)=true:=(zoW n (by omega)).trans (hs h25);have hone:pops.getD n 0=1:=of_decide_eq_true hpop;have e53:=c53 (n:Int) (by omega) (by omega) H;rw[Int.toNat_natCast,hone] at e53;have hlt:(y&&&msk n).toNat%n<n:=Nat.mod_lt _ (by omega);rw[hsh,zaX,cu64 _ (by omega),zah e53,za8,bF (by decide),zam,zaG,zah (zbT h0 hn x H),zah (zbT h0 hn y H),zah (zlL H),hsh,zac,zaX,cu64 _ (by omega),mod_bits hn h0,zah (p_mov ⟨h25,hop.2⟩ h0 hn hlt hX H)] at hr;rw[if_neg (by omega),if_neg (by omega),if_neg (by omega),if_neg (by omega),if_neg (by omega),if_neg (by omega),if_neg (by omega),if_neg (by omega)];exact hr
 have hsh:decide (25≤op∧op≤29)=false:=decide_eq_false (by omega);rw[hsh,zaJ,zam,zaG,zah (zbT h0 hn x H),zah (zbT h0 hn y H),zah (zlL H),hsh,zac,zaJ,zaO,zac] at hr;generalize x&&&msk n=X at *;generalize y&&&msk n=Y at *;by_cases h17:op=17
 ·rw[decide_eq_true h17,zaX,b_and,zah (zbT h0 hn _ H)] at hr;have e:(X&&&Y)&&&msk n=X&&&Y:=zkU hn ((zbJ hn).2 fun j hj=>by simp only[BitVec.getLsbD_and,BitVec.getLsbD_or,BitVec.getLsbD_xor,(zbJ hn).1 hX j hj,(zbJ hn).1 hY j hj];rfl);rw[e] at hr;rw[if_pos h17];exact hr
 rw[decide_eq_false h17,zaJ,zaO,zac] at hr;by_cases h18:op=18
 ·rw[decide_eq_true h18,zaX,b_or,zah (zbT h0 hn _ H)] at hr;have e:(X|||Y)&&&msk n=X|||Y:=zkU hn ((zbJ hn).2 fun j hj=>by simp only[BitVec.getLsbD_and,BitVec.getLsbD_or,BitVec.getLsbD_xor,(zbJ hn).1 hX j hj,(zbJ hn).1 hY j hj];rfl);rw[e] at hr;rw[if_neg h17,if_pos h18];exact hr
 rw[decide_eq_false h18,zaJ,zaO,zac] at hr;by_cases h19:op=19
 ·rw[decide_eq_true h19,zaX,b_xor,zah (zbT h0 hn _ H)] at hr;have e:(X ^^^ Y)&&&msk n=X ^^^ Y:=zkU hn ((zbJ hn).2 fun j hj=>by simp only[BitVec.getLsbD_and,BitVec.getLsbD_or,BitVec.getLsbD_xor,(zbJ hn).1 hX j hj,(zbJ hn).1 hY j hj];rfl);rw[e] at hr;rw[if_neg h17,if_neg h18,if_pos h19];exact hr
 rw[decide_eq_false h19,zaJ,zaO,zac] at hr;by_cases h20:op=20
 ·rw[decide_eq_true h20,zaX,b_add,zah (zbT h0 hn _ H)] at hr;rw[if_neg h17,if_neg h18,if_neg h19,if_pos h20];exact hr
 rw[decide_eq_false h20,zaJ,zaO,zac] at hr;by_cases h21:op=21
 ·rw[decide_eq_true h21,zaX,b_sub,zah (zbT h0 hn _ H)] at hr;rw[if_neg h17,if_neg h18,if_neg h19,if_neg h20,if_pos h21];exact hr
 rw[decide_eq_false h21,zaJ,zaO,zac] at hr;by_cases h22:op=22
 ·rw[decide_eq_true h22,zaX,b_mul,zah (zbT h0 hn _ H)] at hr;rw[if_neg h17,if_neg h18,if_neg h19,if_neg h20,if_neg h21,if_pos h22];exact hr
 rw[decide_eq_false h22,zaJ,zaO,zac] at hr;have hz:∀ (k:Value→Option (Value × Hp)),pBin PP .neq T.uint64 (wv Y) (.int .u64 0) k=k (.bool (!decide (Y=0#64))):=fun k=>b_neq _ _ 0#64 k;by_cases h23:op=23
 ·rw[decide_eq_true h23,zaX,hz,zac] at hr;rw[if_neg h17,if_neg h18,if_neg h19,if_neg h20,if_neg h21,if_neg h22,if_pos h23];by_cases hy:Y=0#64
  ·rw[decide_eq_true hy,show (!true)=false from rfl,zaJ,u_all,zah (zbT h0 hn _ H),show msk 64&&&msk n=msk n by rw[msk_all,BitVec.allOnes_and]] at hr;rw[if_pos hy];exact hr
  ·rw[decide_eq_false hy,show (!false)=true from rfl,zaX,b_quo _ hy,zah (zbT h0 hn _ H),zkU hn (by rw[BitVec.toNat_udiv];exact Nat.le_trans (Nat.div_le_self _ _) hX)] at hr;rw[if_neg hy];exact hr
 rw[decide_eq_false h23,zaJ,zaO,zac] at hr;have h24:op=24:=by omega
 rw[decide_eq_true h24,zaX,hz,zac] at hr;rw[if_neg h17,if_neg h18,if_neg h19,if_neg h20,if_neg h21,if_neg h22,if_neg h23,if_pos h24];by_cases hy:Y=0#64
 ·rw[decide_eq_true hy,show (!true)=false from rfl,zaJ,zah (zbT h0 hn _ H),zkU hn hX] at hr;rw[if_pos hy];exact hr
 ·rw[decide_eq_false hy,show (!false)=true from rfl,zaX,b_rem _ hy,zah (zbT h0 hn _ H),zkU hn (by rw[BitVec.toNat_umod];exact Nat.le_trans (Nat.mod_le _ _) hX)] at hr;rw[if_neg hy];exact hr
end Go.AM.N14
namespace Go.AM.N14
open Go Go.AM
def unW (op:Int) (n:Nat) (x:W64):W64:=if op=15 then ~~~x&&&msk n else (0#64-x)&&&msk n
def cmpW (op:Int) (n:Nat) (x y:W64):Bool:=
 let X:=x&&&msk n
 let Y:=y&&&msk n
 if op=9 then decide (X=Y) else if op=10 then decide (X.toNat<Y.toNat) else if op=11 then decide (X.toNat≤Y.toNat) else if op=12 then decide (sg n X<sg n Y) else decide (sg n X≤sg n Y)
def catW (n:Nat) (x:W64) (m:Nat) (y:W64):W64:=(x&&&msk n) <<< m|||(y&&&msk m)
def sliceW (n:Nat) (x:W64) (i m:Nat):W64:=(x&&&msk n) >>> i&&&msk m
def extW (op:Int) (n:Nat) (x:W64) (m:Nat):W64:=if op=32 then x&&&msk n else BitVec.ofInt 64 (sg n x)&&&msk m
theorem b_neg {α:Type} (x:W64) (k:Value→Option α):pUn .neg (wv x) k=k (wv (0#64-x)):=by show k (.int .u64 (IntKind.u64.wrap (0-(x.toNat:Int))))=_;rw[zeC];congr 2;rw[BitVec.zero_sub];apply BitVec.eq_of_toNat_eq;rw[BitVec.toNat_ofInt,BitVec.toNat_neg];have:=x.isLt;omega
theorem ci_u64 {α:Type} (a:Int) (f:Value→Option α):zaq .u64 (.int .i64 a) f=f (wv (BitVec.ofInt 64 a)):=by rw[zh2,zeC]
theorem p_un {op:Int} (hop:op=15∨op=16) {n:Nat} (h0:1≤n) (hn:n≤64) (x:W64) (H:Hp):RR F.a74 [.int .i64 op,.int .i64 (n:Int),wv x] H=some (.tuple #[wv (unW op n x),.int .i64 0],H):=by
 have hr:=r_bits_Un E0 rfl (.int .i64 op) (.int .i64 (n:Int)) (wv x) H;unfold zm1 at hr;unfold unW;rcases hop with rfl|rfl
 ·rw[za8,bF (by decide),zah (zdv h0 hn H),zbj,zac,show (!true)=false from rfl,zaJ,eT rfl,b_not,zah (zbT h0 hn _ H)] at hr;rw[if_pos rfl];exact hr
 ·have hneg:∀ (f:Value→Option (Value × Hp)),pUn .neg (wv x) f=f (wv (0#64-x)):=fun f=>b_neg x f;rw[za8,bT (by decide),za8,bF (by decide),zah (zdv h0 hn H),zbj,zac,show (!true)=false from rfl,zaJ,eF (by decide),hneg,zah (zbT h0 hn _ H)] at hr;rw[if_neg (by decide)];exact hr
theorem p_cmp {op:Int} (hop:9≤op∧op≤13) {n:Nat} (h0:1≤n) (hn:n≤64) (x y:W64) (H:Hp):RR F.a70 [.int .i64 op,.int .i64 (n:Int),wv x,wv y] H=some (.tuple #[.bool (cmpW op n x y),.int .i64 0],H):=by
 have hr:=zpS E0 rfl (.int .i64 op) (.int .i64 (n:Int)) (wv x) (wv y) H;unfold zkY at hr;rw[lF (by omega),zbi,bF (by omega),zam,zaG,zah (zdv h0 hn H),zbj,zac,show (!true)=false from rfl,zaJ,zah (zbT h0 hn x H),zah (zbT h0 hn y H),zah (ziH h0 hn _ H),zah (ziH h0 hn _ H),zaO,zac] at hr;unfold cmpW;dsimp only;by_cases h9:op=9
 ·rw[decide_eq_true h9,zaX,b_eql] at hr;rw[if_pos h9];exact hr
 rw[decide_eq_false h9,zaJ,zaO,zac] at hr;by_cases h10:op=10
 ·rw[decide_eq_true h10,zaX,b_lss] at hr;rw[if_neg h9,if_pos h10];exact hr
 rw[decide_eq_false h10,zaJ,zaO,zac] at hr;by_cases h11:op=11
 ·rw[decide_eq_true h11,zaX,b_leq] at hr;rw[if_neg h9,if_neg h10,if_pos h11];exact hr
 rw[decide_eq_false h11,zaJ,zaO,zac] at hr;by_cases h12:op=12
 ·rw[decide_eq_true h12,zaX,zaT] at hr;rw[if_neg h9,if_neg h10,if_neg h11,if_pos h12];exact hr
 rw[decide_eq_false h12,zaJ,zb4] at hr;rw[if_neg h9,if_neg h10,if_neg h11,if_neg h12];exact hr
theorem p_cat {n m:Nat} (h0:1≤n) (h1:1≤m) (hs:n+m≤64) (x y:W64) (H:Hp):RR F.a69 [.int .i64 (n:Int),wv x,.int .i64 (m:Int),wv y] H=some (.tuple #[wv (catW n x m y),.int .i64 0],H):=by
 have hn:n≤64:=by omega
 have hm:m≤64:=by omega
 have hr:=zpT E0 rfl (.int .i64 (n:Int)) (wv x) (.int .i64 (m:Int)) (wv y) H;unfold zkZ at hr;rw[zah (zdv h0 hn H),zbj,zac,show (!true)=false from rfl,zaJ,zah (zdv h1 hm H),zbj,zac,show (!true)=false from rfl,zaJ,zaQ,zax (by omega) (by omega),zbi,bF (by omega),zah (zbT h0 hn x H),cu64 _ (by omega),b_shl,zah (zbT h1 hm y H),b_or] at hr;exact hr
theorem p_slice {n i m:Nat} (h0:1≤n) (hn:n≤64) (h1:1≤m) (hs:i+m≤n) (x:W64) (H:Hp):RR F.a73 [.int .i64 (n:Int),wv x,.int .i64 (i:Int),.int .i64 (m:Int)] H=some (.tuple #[wv (sliceW n x i m),.int .i64 0],H):=by
 have hm:m≤64:=by omega
 have hr:=zmD E0 rfl (.int .i64 (n:Int)) (wv x) (.int .i64 (i:Int)) (.int .i64 (m:Int)) H;unfold zig at hr;rw[zah (zdv h0 hn H),zbj,zac,show (!true)=false from rfl,zaJ,lF (by omega),lF (by omega),zbi,bF (by omega),zb2,zax (by omega) (by omega),zbi,bF (by omega),zam,zaG,zah (zbT h0 hn x H),cu64 _ (by omega),b_shr,zah (zbT h1 hm _ H)] at hr;exact hr
theorem p_ext {op:Int} (hop:op=32∨op=33) {n m:Nat} (h0:1≤n) (hs:n≤m) (hm:m≤64) (x:W64) (H:Hp):RR F.a71 [.int .i64 op,.int .i64 (n:Int),wv x,.int .i64 (m:Int)] H=some (.tuple #[wv (extW op n x m),.int .i64 0],H):=by
 have hn:n≤64:=by omega
 have h1:1≤m:=by omega
 have hr:=zpR E0 rfl (.int .i64 op) (.int .i64 (n:Int)) (wv x) (.int .i64 (m:Int)) H;unfold zkX at hr;unfold extW;rcases hop with rfl|rfl
 ·rw[za8,bF (by decide),zam,zaG,zah (zdv h0 hn H),zbj,zac,show (!true)=false from rfl,zaJ,zah (zdv h1 hm H),zbj,zac,show (!true)=false from rfl,zaJ,lF (by omega),zam,zaG,eT rfl,zah (zbT h0 hn _ H)] at hr;rw[if_pos rfl];exact hr
 ·rw[za8,bT (by decide),za8,bF (by decide),zam,zaG,zah (zdv h0 hn H),zbj,zac,show (!true)=false from rfl,zaJ,zah (zdv h1 hm H),zbj,zac,show (!true)=false from rfl,zaJ,lF (by omega),zam,zaG,eF (by decide),zah (ziH h0 hn _ H),ci_u64,zah (zbT h1 hm _ H)] at hr;rw[if_neg (by decide)];exact hr
end Go.AM.N14
namespace Go.AM.N14
open Go Go.AM
def b2w (c:Bool):W64:=if c=true then 1#64 else 0#64
noncomputable def valW (n:Nd) (wa wb:Nat) (a b c:W64):W64:=
 if n.op=1 then 1#64 else if n.op=2 then 0#64 else if n.op=3 then BitVec.ofInt 64 n.num else if n.op=5 then 1#64-a else if n.op=6 then a&&&b else if n.op=7 then a|||b else if n.op=8 then a ^^^ b else if n.op=9 then b2w (decide (a=b))
 else if n.op≤13 then b2w (cmpW n.op wa a b) else if n.op=14 then (if a=1#64 then b else c) else if n.op≤16 then unW n.op wa a else if n.op≤29 then binW n.op wa a b else if n.op=30 then catW wa a wb b
 else if n.op=31 then sliceW wa a n.num.toNat n.w.toNat else extW n.op wa a n.w.toNat
structure Vok (n:Nd) (wa wb:Nat) (a b:W64):Prop where
 op:1≤n.op∧n.op≤33∧n.op≠4
 num:0≤n.num∧n.num<18446744073709551616
 t:6≤n.op→n.op≤8→a.toNat≤1∧b.toNat≤1
 cmp:10≤n.op→n.op≤13→1≤wa∧wa≤64
 un:15≤n.op→n.op≤29→n.w=wa∧1≤wa∧wa≤64
 sh:25≤n.op→n.op≤29→zoi (wa:Int)=true
 cat:n.op=30→1≤wa∧1≤wb∧wa+wb≤64
 sl:n.op=31→1≤wa∧wa≤64∧1≤n.w∧n.num+n.w≤wa
 ext:32≤n.op→1≤wa∧(wa:Int)≤n.w∧n.w≤64
theorem p_one (c:Bool) (H:Hp):RR F.a55 [.bool c] H=some (wv (b2w c),H):=by refine(zpQ E0 rfl _ _).trans ?_;unfold zkW;rw[zac];cases c<;>rfl
theorem num_wv {x:Int} (h:0≤x∧x<18446744073709551616):Value.int .u64 x=wv (BitVec.ofInt 64 x):=by rw[←zeC,zgZ h.1 (by omega)]
theorem tr01 {a:W64} (h:a.toNat≤1):a=0#64∨a=1#64:=by
 rcases (show a.toNat=0∨a.toNat=1 by omega) with q|q
 ·exact .inl (BitVec.eq_of_toNat_eq q)
 ·exact .inr (BitVec.eq_of_toNat_eq q)
theorem one_sub {α:Type} (a:W64) (k:Value→Option α):pBin PP .sub T.uint64 (.int .u64 1) (wv a) k=k (wv (1#64-a)):=b_sub _ 1#64 a k
theorem p_node {n:Nd} {wa wb:Nat} {a b:W64} (h:Vok n wa wb a b) (c:W64) (H:Hp):RR F.a83 [n.val,wv a,wv b,wv c,.int .i64 (wa:Int),.int .i64 (wb:Int)] H=some (wv (valW n wa wb a b c),H):=by
 have hr:=znJ E0 rfl n.val (wv a) (wv b) (wv c) (.int .i64 (wa:Int)) (.int .i64 (wb:Int)) H;unfold zjI at hr;have hop:=h.op;have hnum:=h.num;unfold valW;rw[n0,zaO,zac] at hr;by_cases h1:n.op=1
 ·rw[decide_eq_true h1,zaX] at hr;rw[if_pos h1];exact hr
 rw[decide_eq_false h1,zaJ,zaO,zac] at hr;by_cases h2:n.op=2
 ·rw[decide_eq_true h2,zaX] at hr;rw[if_neg h1,if_pos h2];exact hr
 rw[decide_eq_false h2,zaJ,zaO,zac] at hr;by_cases h3:n.op=3
 ·rw[decide_eq_true h3,zaX,n5,num_wv hnum] at hr;rw[if_neg h1,if_neg h2,if_pos h3];exact hr
 rw[decide_eq_false h3,zaJ,zaO,zac] at hr;by_cases h5:n.op=5
 ·rw[decide_eq_true h5,zaX,one_sub] at hr;rw[if_neg h1,if_neg h2,if_neg h3,if_pos h5];exact hr
 rw[decide_eq_false h5,zaJ,zaO,zac] at hr;by_cases h6:n.op=6
 ·rw[decide_eq_true h6,zaX,b_and] at hr;rw[if_neg h1,if_neg h2,if_neg h3,if_neg h5,if_pos h6];exact hr
 rw[decide_eq_false h6,zaJ,zaO,zac] at hr;by_cases h7:n.op=7
 ·rw[decide_eq_true h7,zaX,b_or] at hr;rw[if_neg h1,if_neg h2,if_neg h3,if_neg h5,if_neg h6,if_pos h7];exact hr
 rw[decide_eq_false h7,zaJ,zaO,zac] at hr;by_cases h8:n.op=8
 ·rw[decide_eq_true h8,zaX,b_xor] at hr;rw[if_neg h1,if_neg h2,if_neg h3,if_neg h5,if_neg h6,if_neg h7,if_pos h8];exact hr
 rw[decide_eq_false h8,zaJ,zaO,zac] at hr;by_cases h9:n.op=9
 ·rw[decide_eq_true h9,zaX,b_eql,zah (p_one _ H)] at hr;rw[if_neg h1,if_neg h2,if_neg h3,if_neg h5,if_neg h6,if_neg h7,if_neg h8,if_pos h9];exact hr
 rw[decide_eq_false h9,zaJ,zb4,zac] at hr;by_cases h13:n.op≤13
 ·rw[decide_eq_true h13,zaX,zah (p_cmp ⟨by omega,h13⟩ (h.cmp (by omega) h13).1 (h.cmp (by omega) h13).2 a b H),x01,zah (p_one _ H)] at hr;rw[if_neg h1,if_neg h2,if_neg h3,if_neg h5,if_neg h6,if_neg h7,if_neg h8,if_neg h9,if_pos h13];exact hr
 rw[decide_eq_false h13,zaJ,zaO,zac] at hr;by_cases h14:n.op=14
 ·have hz:∀ (k:Value→Option (Value × Hp)),pBin PP .eql T.uint64 (wv a) (.int .u64 1) k=k (.bool (decide (a=1#64))):=fun k=>b_eql _ a 1#64 k;rw[decide_eq_true h14,zaX,hz,zac] at hr;rw[if_neg h1,if_neg h2,if_neg h3,if_neg h5,if_neg h6,if_neg h7,if_neg h8,if_neg h9,if_neg h13,if_pos h14];by_cases q:a=1#64
  ·rw[decide_eq_true q,zaX] at hr;rw[if_pos q];exact hr
  ·rw[decide_eq_false q,zaJ] at hr;rw[if_neg q];exact hr
 rw[decide_eq_false h14,zaJ,zb4,zac] at hr;by_cases h16:n.op≤16
 ·obtain⟨g1,g2,g3⟩:=h.un (by omega) (by omega);rw[decide_eq_true h16,zaX,n1,g1,zah (p_un (by omega) g2 g3 a H),x01] at hr;rw[if_neg h1,if_neg h2,if_neg h3,if_neg h5,if_neg h6,if_neg h7,if_neg h8,if_neg h9,if_neg h13,if_neg h14,if_pos h16];exact hr
 rw[decide_eq_false h16,zaJ,zb4,zac] at hr;by_cases h29:n.op≤29
 ·obtain⟨g1,g2,g3⟩:=h.un (by omega) h29;rw[decide_eq_true h29,zaX,n1,g1,zah (p_bin ⟨by omega,h29⟩ g2 g3 (fun q=>h.sh q h29) a b H),x01] at hr;rw[if_neg h1,if_neg h2,if_neg h3,if_neg h5,if_neg h6,if_neg h7,if_neg h8,if_neg h9,if_neg h13,if_neg h14,if_neg h16,if_pos h29];exact hr
 rw[decide_eq_false h29,zaJ,zaO,zac] at hr;by_cases h30:n.op=30
 ·obtain⟨g1,g2,g3⟩:=h.cat h30;rw[decide_eq_true h30,zaX,zah (p_cat g1 g2 g3 a b H),x01] at hr;rw[if_neg h1,if_neg h2,if_neg h3,if_neg h5,if_neg h6,if_neg h7,if_neg h8,if_neg h9,if_neg h13,if_neg h14,if_neg h16,if_neg h29,if_pos h30];exact hr
 rw[decide_eq_false h30,zaJ,zaO,zac] at hr;by_cases h31:n.op=31
 ·obtain⟨g1,g2,g3,g4⟩:=h.sl h31;have e1:n.num=((n.num.toNat:Nat):Int):=(Int.toNat_of_nonneg hnum.1).symm;have e2:n.w=((n.w.toNat:Nat):Int):=(Int.toNat_of_nonneg (by omega)).symm;have g5:=p_slice (n:=wa) (i:=n.num.toNat) (m:=n.w.toNat) g1 g2 (by omega) (by omega) a H;rw[←e1,←e2] at g5;rw[decide_eq_true h31,zaX,n5,zh2,zax (by omega) (by omega),n1,zah g5,x01] at hr;rw[if_neg h1,if_neg h2,if_neg h3,if_neg h5,if_neg h6,if_neg h7,if_neg h8,if_neg h9,if_neg h13,if_neg h14,if_neg h16,if_neg h29,if_neg h30,if_pos h31];exact hr
 rw[decide_eq_false h31,zaJ,n0,n1] at hr;obtain⟨g1,g2,g3⟩:=h.ext (by omega);have e2:n.w=((n.w.toNat:Nat):Int):=(Int.toNat_of_nonneg (by omega)).symm;have g5:=p_ext (op:=n.op) (n:=wa) (m:=n.w.toNat) (by omega) g1 (by omega) (by omega) a H;rw[←e2] at g5;rw[zah g5,x01] at hr;rw[if_neg h1,if_neg h2,if_neg h3,if_neg h5,if_neg h6,if_neg h7,if_neg h8,if_neg h9,if_neg h13,if_neg h14,if_neg h16,if_neg h29,if_neg h30,if_neg h31];exact hr
end Go.AM.N14
namespace Go.AM.N14
open Go Go.AM
section
variable {A:Type}
def getA (z:A) (acc:List A) (x:Int):A:=if x≤0 then z else acc.getD (x-1).toNat z
def accA (F:Nd→A→A→A→A) (z:A):List Nd→List A→List A
 |[],acc=>acc
 |n :: r,acc=>accA F z r (acc++[F n (getA z acc n.a) (getA z acc n.b) (getA z acc n.c)])
def fnA (F:Nd→A→A→A→A) (z:A) (L:List Nd) (t:Nat):A:=getA z (accA F z L []) (t:Int)
theorem zpC (F:Nd→A→A→A→A) (z:A):∀ (r:List Nd) (acc:List A),∃ more,accA F z r acc=acc++more∧more.length=r.length
 |[],acc=>⟨[],by rw[List.append_nil];rfl,rfl⟩
 |n :: r,acc=>by obtain⟨more,h1,h2⟩:=zpC F z r (acc++[F n (getA z acc n.a) (getA z acc n.b) (getA z acc n.c)]);exact⟨F n (getA z acc n.a) (getA z acc n.b) (getA z acc n.c) :: more,by show accA F z r _=_;rw[h1,List.append_assoc];rfl,by rw[List.length_cons,List.length_cons,h2]⟩
theorem getA_pre {z:A} {acc more:List A} {x:Int} (h:x≤acc.length):getA z (acc++more) x=getA z acc x:=by
 unfold getA;by_cases h0:x≤0
 ·rw[if_pos h0,if_pos h0]
 ·rw[if_neg h0,if_neg h0,List.getD_eq_getElem?_getD,List.getD_eq_getElem?_getD,List.getElem?_append_left (by omega)]
theorem accA_at (F:Nd→A→A→A→A) (z:A):∀ (r:List Nd) (acc:List A) (j:Nat) (n:Nd),r[j]?=some n→∃ mid more,accA F z r acc=mid++more∧mid.length=acc.length+j∧more[0]?=some (F n (getA z mid n.a) (getA z mid n.b) (getA z mid n.c))
 |[],acc,j,n,h=>by cases h
 |m :: r,acc,0,n,h=>by
  cases h;obtain⟨more,h1,h2⟩:=zpC F z r (acc++[F m (getA z acc m.a) (getA z acc m.b) (getA z acc m.c)]);exact⟨acc,F m (getA z acc m.a) (getA z acc m.b) (getA z acc m.c) :: more,by show accA F z r _=_;rw[h1,List.append_assoc];rfl,rfl,rfl⟩
 |m :: r,acc,j+1,n,h=>by obtain⟨mid,more,h1,h2,h3⟩:=accA_at F z r (acc++[F m (getA z acc m.a) (getA z acc m.b) (getA z acc m.c)]) j n h;exact⟨mid,more,h1,by rw[h2,List.length_append,List.length_singleton];omega,h3⟩
theorem zla {L:List Nd} (hd:Dag L) (F:Nd→A→A→A→A) (z:A) {t:Nat} (ht:1≤t) {n:Nd} (hn:L[t-1]?=some n) :
  fnA F z L t=F n (fnA F z L n.a.toNat) (fnA F z L n.b.toNat) (fnA F z L n.c.toNat):=by
 obtain⟨mid,more,h1,h2,h3⟩:=accA_at F z L [] (t-1) n hn;rw[List.length_nil,Nat.zero_add] at h2;have ha:=hd.a _ n hn;have hb:=hd.b _ n hn;have hc:=hd.c _ n hn;have e:fnA F z L t=F n (getA z mid n.a) (getA z mid n.b) (getA z mid n.c):=by unfold fnA;rw[h1];unfold getA;rw[if_neg (by omega),List.getD_eq_getElem?_getD,List.getElem?_append_right (by omega),show ((t:Int)-1).toNat-mid.length=0 by omega,h3];rfl
 have k:∀ x:Int,0≤x→x≤(t-1:Nat)→fnA F z L x.toNat=getA z mid x:=fun x x0 x1=>by unfold fnA;rw[h1,Int.toNat_of_nonneg x0,getA_pre (by omega)]
 rw[e,k n.a (by omega) (by omega),k n.b (by omega) (by omega),k n.c (by omega) (by omega)]
theorem fnA_ind {L:List Nd} (hd:Dag L) (F:Nd→A→A→A→A) (z:A) {S:Nat→Prop} (hcl:∀ t,S t→∀ c∈kids L t,S c) {Q:Nat→A→Prop} (hz:Q 0 z)
  (hs:∀ t n,1≤t→S t→L[t-1]?=some n→Q n.a.toNat (fnA F z L n.a.toNat)→Q n.b.toNat (fnA F z L n.b.toNat)→Q n.c.toNat (fnA F z L n.c.toNat)→Q t (F n (fnA F z L n.a.toNat) (fnA F z L n.b.toNat) (fnA F z L n.c.toNat))) :
  ∀ t,1≤t→t≤L.length→S t→Q t (fnA F z L t):=by
 intro t;induction t using Nat.strongRecOn with
 |_ t ih=>
  intro h1 h2 h3;have hn:L[t-1]?=some (L[t-1]'(by omega)):=List.getElem?_eq_getElem (by omega);generalize L[t-1]'(by omega)=n at hn;rw[zla hd F z h1 hn];have hk:=zjP hd hn;have hf:=hd.a _ n hn;have hb:=hd.b _ n hn;have hc:=hd.c _ n hn;have kk:kids L t=zb1 n:=by unfold kids;rw[hn]
  have one:∀ (j:Nat) x,[n.a,n.b,n.c][j]?=some x→(x=0∨j<(zb1 n).length∧1≤x)→Q x.toNat (fnA F z L x.toNat):=fun j x hx h=>by
   rcases h with rfl|⟨h,_⟩
   ·exact hz
   ·obtain⟨q1,q2,q3⟩:=hk.2.1 j x hx h;have hm:x.toNat∈kids L t:=by rw[kk];exact List.mem_of_getElem? q1
    exact ih x.toNat (by omega) (by omega) (by omega) (hcl t h3 _ hm)
  have hl:=hk.1;have pn:=zcl n.op;exact hs t n h1 h3 hn (one 0 n.a rfl (by rcases hf with q|q;exact .inr ⟨by omega,by omega⟩;exact .inl q.2)) (one 1 n.b rfl (by rcases hb with q|q;exact .inr ⟨by omega,by omega⟩;exact .inl q.2)) (one 2 n.c rfl (by rcases hc with q|q;exact .inr ⟨by omega,by omega⟩;exact .inl q.2))
end
noncomputable def valF (L:List Nd) (G:ByteArray→W64) (n:Nd) (x y z:W64):W64:=if n.op=4 then G n.name else valW n (wT L 0 n.a).toNat (wT L 0 n.b).toNat x y z
noncomputable def vfn (L:List Nd) (G:ByteArray→W64):Nat→W64:=fnA (valF L G) 0#64 L
def satU (n:Nat):Nat:=min n 18446744073709551615
def sizF (n:Nd) (x y z:Nat × Nat):Nat × Nat:=(satU (satU (satU (1+x.1)+y.1)+z.1),max (max x.2 y.2) z.2+1)
def sizT (L:List Nd):Nat→Nat × Nat:=fnA sizF (0,0) L
theorem satU_eq (n:Nat):satU n=if n≤18446744073709551615 then n else 18446744073709551615:=by unfold satU;split<;>omega
end Go.AM.N14
namespace Go.AM
open Go
variable {A:Type}
def mapS (enc:A→Value) (l:List (ByteArray × A)):List (Value × Value):=l.map fun x=>(.string x.1,enc x.2)
def lkS (s:ByteArray):Nat→List (ByteArray × A)→Option (Nat × A)
 |_,[]=>none
 |i,(t,v) :: r=>if (s==t)=true then some (i,v) else lkS s (i+1) r
def MapS (H:Hp) (m:Nat) (enc:A→Value) (F:ByteArray→Option A):Prop:=∃ l,H.get m=some (.map (mapS enc l))∧∀ t,F t=(lkS t 0 l).map Prod.snd
theorem findS (enc:A→Value) (s:ByteArray):∀ (l:List (ByteArray × A)) (i:Nat),zff PP T.string (.string s) (mapS enc l) i=some ((lkS s i l).map fun q=>(q.1,enc q.2))
 |[],i=>rfl
 |(t,w) :: r,i=>by
  show (match eqT PP 10000 T.string (.string s) (.string t) with|some true=>some (some (i,enc w))|some false=>zff PP T.string (.string s) (mapS enc r) (i+1)|none=>none)=_;rw[eq9];unfold lkS;cases h:s==t with
  |true=>simp
  |false=>
   simp only[Bool.false_eq_true,if_false];exact findS enc s r (i+1)
theorem MapS.lookV {H:Hp} {m:Nat} {enc:A→Value} {F:ByteArray→Option A} (h:MapS H m enc F) (z:Value) (t:ByteArray):Go.AM.lookV PP T.string z (.map (some m)) (.string t) H=some (match F t with|some v=>(enc v,true)|none=>(z,false)):=by obtain⟨l,h1,h2⟩:=h;unfold Go.AM.lookV;rw[zmo,h2 t];simp only[if_true,zn6,h1,findS];cases lkS t 0 l<;>rfl
theorem MapS.look2 {H:Hp} {m:Nat} {enc:A→Value} {F:ByteArray→Option A} (h:MapS H m enc F) (z:Value) (t:ByteArray) {α:Type} (k:Value→Option α):zbB PP T.string z (.map (some m)) (.string t) true H k=k (.tuple #[match F t with|some v=>enc v|none=>z,.bool (F t).isSome]):=by unfold zbB;rw[h.lookV];cases F t<;>rfl
theorem zoa (s:ByteArray):∀ (l:List (ByteArray × A)) (i j:Nat) (w:A),lkS s i l=some (j,w)→i≤j∧l[j-i]?=some (s,w)
 |[],i,j,w,h=>by cases h
 |(t,u) :: r,i,j,w,h=>by
  unfold lkS at h;split at h
  ·rename_i e;cases h;have:s=t:=(zhV s t).1 e;subst this;exact⟨Nat.le_refl _,by simp⟩
  ·obtain⟨h1,h2⟩:=zoa s r (i+1) j w h;refine⟨by omega,?_⟩;rw[show j-i=(j-(i+1))+1 by omega];simpa using h2
theorem lkS_app (t key:ByteArray) (v:A):∀ (l:List (ByteArray × A)) (i:Nat),lkS key i l=none→(lkS t i (l++[(key,v)])).map Prod.snd=if (t==key)=true then some v else (lkS t i l).map Prod.snd
 |[],i,h=>by
  show (lkS t i [(key,v)]).map Prod.snd=_;unfold lkS lkS;split<;>rfl
 |(u,w) :: r,i,h=>by
  unfold lkS at h;split at h
  ·cases h
  ·rename_i ne;show (lkS t i ((u,w) :: (r++[(key,v)]))).map Prod.snd=_;unfold lkS;by_cases e:(t==u)=true
   ·rw[if_pos e,if_pos e,if_neg (fun q=>ne (by rw[←(zhV t key).1 q];exact e))]
   ·rw[if_neg e,if_neg e];exact lkS_app t key v r (i+1) h
theorem lkS_set (t key:ByteArray) (v:A):∀ (l:List (ByteArray × A)) (i j:Nat) (w:A),lkS key i l=some (j,w)→(lkS t i (l.set (j-i) (key,v))).map Prod.snd=if (t==key)=true then some v else (lkS t i l).map Prod.snd
 |[],i,j,w,h=>by cases h
 |(u,x) :: r,i,j,w,h=>by
  unfold lkS at h;split at h
  ·rename_i e;cases h;have e:key=u:=(zhV key u).1 e;subst e;rw[Nat.sub_self,List.set_cons_zero];unfold lkS;by_cases q:(t==key)=true
   ·rw[if_pos q,if_pos q];rfl
   ·rw[if_neg q,if_neg q,if_neg q]
  ·rename_i ne;have hle:=(zoa key r (i+1) j w h).1;rw[show j-i=(j-(i+1))+1 by omega,List.set_cons_succ];unfold lkS;by_cases q:(t==u)=true
   ·rw[if_pos q,if_pos q,if_neg (fun z=>ne (by rw[←(zhV t key).1 z];exact q))]
   ·rw[if_neg q,if_neg q];exact lkS_set t key v r (i+1) j w h
theorem MapS.upd {H:Hp} {m:Nat} {enc:A→Value} {F:ByteArray→Option A} (h:MapS H m enc F) (key:ByteArray) (v:A) :
  ∃ H',(∀ (α:Type) (k:Hp→Option α),pUpd PP T.string (.map (some m)) (.string key) (enc v) H k=k H')∧MapS H' m enc (fun t=>if (t==key)=true then some v else F t)∧(∀ j,j≠m→H'.get j=H.get j)∧H'.next=H.next:=by
 obtain⟨l,h1,h2⟩:=h;cases hq:lkS key 0 l with
 |none=>
  refine⟨H.set m (some (.map (mapS enc (l++[(key,v)])))),fun α k=>?_,⟨l++[(key,v)],by rw[get_set,if_pos rfl],fun t=>?_⟩,fun j hj=>by rw[get_set,if_neg hj],rfl⟩
  ·have:updV PP T.string (.map (some m)) (.string key) (enc v) H=some (H.set m (some (.map (mapS enc (l++[(key,v)]))))):=by unfold updV;rw[zmo];simp only[if_true,h1,findS,hq,Option.map_none];rw[show mapS enc (l++[(key,v)])=mapS enc l++[(Value.string key,enc v)] by simp[mapS]]
   unfold pUpd;rw[this]
  ·rw[lkS_app t key v l 0 hq];dsimp only;split
   ·rfl
   ·exact h2 t
 |some q=>
  obtain⟨j,w⟩:=q;obtain⟨_,hg⟩:=zoa key l 0 j w hq;rw[Nat.sub_zero] at hg;refine⟨H.set m (some (.map (mapS enc (l.set j (key,v))))),fun α k=>?_,⟨l.set j (key,v),by rw[get_set,if_pos rfl],fun t=>?_⟩,fun j hj=>by rw[get_set,if_neg hj],rfl⟩
  ·have hk1:(mapS enc l)[j]?=some (.string key,enc w):=by unfold mapS;rw[List.getElem?_map,hg];rfl
   have hsb:Instr.sameBits 10000 (.string key) (.string key)=true:=by simp only[Instr.sameBits];exact(zhV key key).2 rfl
   have:updV PP T.string (.map (some m)) (.string key) (enc v) H=some (H.set m (some (.map (mapS enc (l.set j (key,v)))))):=by unfold updV;rw[zmo];simp only[if_true,h1,findS,hq,Option.map_some,hk1,hsb];rw[show mapS enc (l.set j (key,v))=zir (mapS enc l) j (.string key) (enc v) by unfold zir mapS;rw[List.map_set]]
   unfold pUpd;rw[this]
  ·have:=lkS_set t key v l 0 j w hq;rw[Nat.sub_zero] at this;rw[this];dsimp only;split
   ·rfl
   ·exact h2 t
theorem MapS.new (H:Hp) (enc:A→Value):MapS (H.new (.map [])) H.next enc (fun _=>none):=⟨[],by rw[get_new,if_pos rfl];rfl,fun t=>rfl⟩
theorem MapS.keep {H H':Hp} {m:Nat} {enc:A→Value} {F:ByteArray→Option A} (h:MapS H m enc F) (hg:H'.get m=H.get m):MapS H' m enc F:=by obtain⟨l,h1,h2⟩:=h;exact⟨l,by rw[hg];exact h1,h2⟩
end Go.AM
namespace Go.AM
open Go
end Go.AM
namespace Go.AM
open Go
end Go.AM
namespace Go.AM
open Go
def zdK (L:List Nd) (out:List Nat):Prop:=∀ (i:Nat) t,out[i]?=some t→∀ c∈kids L t,c∈out.take i
def Grew (L:List Nd) (l out out':List Nat):Prop:=∃ new,out'=out++new∧∀ (i:Nat) x,new[i]?=some x→x∈l∨∃ (j:Nat) (u:Nat),i<j∧new[j]?=some u∧x∈kids L u
theorem zdK.app {L:List Nd} {out:List Nat} {t:Nat} (h:zdK L out) (hk:∀ c∈kids L t,c∈out):zdK L (out++[t]):=by
 intro i x hx c hc;rw[List.getElem?_append] at hx;split at hx
 ·rename_i lt;rw[List.take_append_of_le_length (by omega)];exact h i x hx c hc
 ·have:i=out.length:=by have:=(List.getElem?_eq_some_iff.1 hx).1;simp at this;omega
  subst this;simp at hx;subst hx;rw[List.take_left' rfl];exact hk c hc
theorem Grew.refl (L:List Nd) (l out:List Nat):Grew L l out out:=⟨[],by simp,fun i x h=>by cases h⟩
theorem Grew.cons {L:List Nd} {c:Nat} {l out o1 o2:List Nat} (h:Grew L [c] out o1) (k:Grew L l o1 o2):Grew L (c :: l) out o2:=by
 obtain⟨n1,e1,h1⟩:=h;obtain⟨n2,e2,h2⟩:=k;refine⟨n1++n2,by rw[e2,e1,List.append_assoc],fun i x hx=>?_⟩;rw[List.getElem?_append] at hx;split at hx
 ·rename_i lt;rcases h1 i x hx with q|⟨j,u,q1,q2,q3⟩
  ·rw[List.mem_singleton] at q;subst q;exact .inl (List.mem_cons_self ..)
  ·have:=(List.getElem?_eq_some_iff.1 q2).1;exact .inr ⟨j,u,q1,by rw[List.getElem?_append_left this];exact q2,q3⟩
 ·rename_i ge;rcases h2 _ x hx with q|⟨j,u,q1,q2,q3⟩
  ·exact .inl (List.mem_cons_of_mem _ q)
  ·exact .inr ⟨n1.length+j,u,by omega,by rw[List.getElem?_append_right (by omega),Nat.add_sub_cancel_left];exact q2,q3⟩
theorem post_good {L:List Nd} (h:Dag L):∀ (t:Nat),1≤t→∀ (out:List Nat),zdK L out→zdK L (post L t out)∧Grew L [t] out (post L t out):=by
 intro t;induction t using Nat.strongRecOn with
 |_ t ih=>
  intro ht out hc;rw[zjg h ht];split
  ·exact⟨hc,Grew.refl ..⟩
  ·have key:∀ (l:List Nat) (o:List Nat),(∀ c∈l,c∈kids L t)→zdK L o→zdK L (posts L l o)∧Grew L l o (posts L l o):=by
    intro l;induction l with
    |nil=>exact fun o _ h=>⟨h,Grew.refl ..⟩
    |cons c l ihl=>
     intro o hl ho;have hcc:=zfM h ht (hl c (List.mem_cons_self ..));obtain⟨a1,a2⟩:=ih c hcc.2 hcc.1 o ho;obtain⟨b1,b2⟩:=ihl _ (fun c hc=>hl c (List.mem_cons_of_mem _ hc)) a1;exact⟨b1,a2.cons b2⟩
   obtain⟨k1,new,e,k2⟩:=key (kids L t) out (fun c hc=>hc) hc;have hm:=(zdh h (N:=t) (kids L t) out fun c hc=>by have:=zfM h ht hc;omega).2.1;refine⟨k1.app hm,new++[t],by rw[e,List.append_assoc],fun i x hx=>?_⟩;rw[List.getElem?_append] at hx;split at hx
   ·rename_i lt;rcases k2 i x hx with q|⟨j,u,q1,q2,q3⟩
    ·exact .inr ⟨new.length,t,lt,by rw[List.getElem?_append_right (Nat.le_refl _),Nat.sub_self];rfl,q⟩
    ·have:=(List.getElem?_eq_some_iff.1 q2).1;exact .inr ⟨j,u,q1,by rw[List.getElem?_append_left this];exact q2,q3⟩
   ·rename_i ge;have:=List.mem_of_getElem? hx;exact .inl this
theorem zf2 {L:List Nd} (h:Dag L):∀ (l o:List Nat),(∀ c∈l,1≤c)→zdK L o→zdK L (posts L l o)∧Grew L l o (posts L l o)
 |[],o,_,ho=>⟨ho,Grew.refl ..⟩
 |c :: l,o,hl,ho=>by obtain⟨a1,a2⟩:=post_good h c (hl c (List.mem_cons_self ..)) o ho;obtain⟨b1,b2⟩:=zf2 h l _ (fun c hc=>hl c (List.mem_cons_of_mem _ hc)) a1;exact⟨b1,a2.cons b2⟩
theorem zf7 {L:List Nd} (h:Dag L) {i:Nat} {n:Nd} (hn:L[i]?=some n):(∀ c∈zb1 n,(c:Int)=n.a∨(c:Int)=n.b∨(c:Int)=n.c)∧(∀ x:Int,x=n.a∨x=n.b∨x=n.c→x≠0→∃ c∈zb1 n,(c:Int)=x):=by
 have ha:=h.a i n hn;have hb:=h.b i n hn;have hc:=h.c i n hn;unfold zb1;rcases zcl n.op with q|q|q|q<;>rw[q]
 ·refine⟨fun c hcm=>by simp at hcm,fun x hx h0=>by omega⟩
 ·refine⟨fun c hcm=>?_,fun x hx h0=>?_⟩
  ·simp at hcm;omega
  ·exact⟨n.a.toNat,by simp,by omega⟩
 ·refine⟨fun c hcm=>?_,fun x hx h0=>?_⟩
  ·simp at hcm;omega
  ·rcases hx with e|e|e
   ·exact⟨n.a.toNat,by simp,by omega⟩
   ·exact⟨n.b.toNat,by simp,by omega⟩
   ·omega
 ·refine⟨fun c hcm=>?_,fun x hx h0=>?_⟩
  ·simp at hcm;omega
  ·rcases hx with e|e|e
   ·exact⟨n.a.toNat,by simp,by omega⟩
   ·exact⟨n.b.toNat,by simp,by omega⟩
   ·exact⟨n.c.toNat,by simp,by omega⟩
end Go.AM
namespace Go.AM
open Go
structure zhy (L:List Nd) (K:List (ByteArray × Int)):Prop where
 dag:Dag L
 rt:∀ m∈L,zmb L K m
 num:∀ m∈L,zkh m
 nod:∀ (i j:Nat) m,L[i]?=some m→L[j]?=some m→i=j
 kn:∀ m∈L,m.op=4→∃ j,zbh m.name 0 K=some (j,m.w)
theorem zhy.nil:zhy [] []:=⟨Dag.nil,fun m h=>(by cases h),fun m h=>(by cases h),fun i j m h=>(by cases h),fun m h=>by cases h⟩
theorem zkS {s:ByteArray} (M:List (ByteArray × Int)):∀ (K:List (ByteArray × Int)) (i:Nat) (q:Nat × Int),zbh s i K=some q→zbh s i (K++M)=some q
 |[],i,q,h=>by cases h
 |(u,v) :: r,i,q,h=>by
  unfold zbh at h;show zbh s i ((u,v) :: (r++M))=_;unfold zbh;split at h
  ·rename_i e;rw[if_pos e];exact h
  ·rename_i e;rw[if_neg e];exact zkS M r (i+1) q h
theorem zn5 {s t:ByteArray} {w:Int} {K:List (ByteArray × Int)} {q:Nat × Int} (h:zbh t 0 K=some q):zbh t 0 (zcC s w K)=some q:=by
 unfold zcC;split
 ·exact h
 ·exact zkS _ K 0 q h
theorem zm0 {s:ByteArray} {w:Int} {K:List (ByteArray × Int)} (h:∀ j v,zbh s 0 K=some (j,v)→v=w):∃ j,zbh s 0 (zcC s w K)=some (j,w):=by
 unfold zcC;cases hq:zbh s 0 K with
 |some q=>exact⟨q.1,by rw[←h q.1 q.2 hq];exact hq⟩
 |none=>exact⟨_,zhO s s w K 0 hq⟩
theorem zpA {K:List (ByteArray × Int)} {n:Nd} (h:zbv K n=false):zcG n.name=true∧∀ j v,zbh n.name 0 K=some (j,v)→v=n.w:=by unfold zbv at h;rw[Bool.or_eq_false_iff] at h;refine⟨by simpa using h.1,fun j v hv=>?_⟩;have h2:=h.2;rw[hv] at h2;simpa using h2
theorem bad_of {K:List (ByteArray × Int)} {n:Nd} (h1:zcG n.name=true) (h2:∀ j v,zbh n.name 0 K=some (j,v)→v=n.w):zbv K n=false:=by
 unfold zbv;rw[h1];cases hq:zbh n.name 0 K with
 |none=>rfl
 |some q=>have:=h2 q.1 q.2 hq;simp[this]
theorem zmb.free {L:List Nd} {K:List (ByteArray × Int)} {n:Nd} (h:zmb L K n) (h4:n.op=4):zbv K n=false:=by
 cases q:zbv K n with
 |false=>rfl
 |true=>exact absurd ⟨h4,q⟩ h.nm
theorem mk_goodS {lim:Int} {L:List Nd} {K:List (ByteArray × Int)} {n:Nd} (hn:zkh n) (h:zhy L K):zhy (mkR lim L K n).2.2.1 (mkR lim L K n).2.2.2:=by
 by_cases h0:(mkR lim L K n).2.1=0
 ·have hdag:=mk_dag (lim:=lim) (K:=K) (n:=n) h.dag;obtain⟨hr,⟨q,hq,e⟩|⟨hq,_,e⟩⟩:=zjD h0
  ·rw[e];exact h
  ·rw[e] at hdag ⊢;have hself:n.op=4→∃ j,zbh n.name 0 (zcC n.name n.w K)=some (j,n.w):=fun h4=>zm0 (zpA (hr.free h4)).2;have hpre:∀ (t:ByteArray) q,zbh t 0 K=some q→zbh t 0 (if n.op=4 then zcC n.name n.w K else K)=some q:=fun t q hq=>by
    split
    ·exact zn5 hq
    ·exact hq
   refine⟨hdag,fun m hm=>?_,fun m hm=>?_,fun i j m hi hj=>?_,fun m hm h4=>?_⟩
   ·rcases List.mem_append.1 hm with q|q
    ·refine(h.rt m q).app fun h4=>?_;obtain⟨j,hj⟩:=h.kn m q h4;refine bad_of (zpA ((h.rt m q).free h4)).1 fun j' v hv=>?_;rw[hpre _ _ hj] at hv;cases hv;rfl
    ·rw[List.mem_singleton] at q;subst q;refine hr.app fun h4=>?_;rw[if_pos h4];exact zoy (hr.free h4)
   ·rcases List.mem_append.1 hm with q|q
    ·exact h.num m q
    ·rw[List.mem_singleton] at q;rw[q];exact hn
   ·have hno:=zeo n L 0 hq;rcases zkf hi with a|⟨a1,a2⟩<;>rcases zkf hj with b|⟨b1,b2⟩
    ·exact h.nod i j m a b
    ·subst b2;exact absurd a (hno i)
    ·subst a2;exact absurd b (hno j)
    ·rw[a1,b1]
   ·rcases List.mem_append.1 hm with q|q
    ·obtain⟨j,hj⟩:=h.kn m q h4;exact⟨j,hpre _ _ hj⟩
    ·rw[List.mem_singleton] at q;subst q;rw[if_pos h4];exact hself h4
 ·rw[mk_no h0];exact h
end Go.AM
namespace Go.AM.N14
open Go Go.AM
structure VV where
 name:ByteArray
 w:Int
 num:Int
def VV.cells (x:VV):List Value:=[.string x.name,.int .i64 x.w,.int .u64 x.num]
def VV.val (x:VV):Value:=.agg x.cells.toArray
def VV.Ok (x:VV):Prop:=0≤x.num∧x.num<18446744073709551616
def fndV (s:ByteArray):List VV→Option VV
 |[]=>none
 |v :: r=>if (s==v.name)=true then some v else fndV s r
def nmOk:List ByteArray→List ByteArray→Bool
 |_,[]=>true
 |seen,s :: r=>if (seen.any fun t=>s==t)||!zcG s then false else nmOk (seen++[s]) r
def wdOk (v:VV):Bool:=decide (0≤v.w)&&decide (v.w≤64)&&decide (ziU (if v.w<1 then 1 else v.w) v.num=v.num)
def ziV (Tv:List VV):Int:=if nmOk [] (Tv.map VV.name)=true then (if Tv.all wdOk=true then 0 else 5) else 72
theorem zpj (s:ByteArray) (v:VV):∀ Tv:List VV,fndV s (Tv++[v])=match fndV s Tv with|some x=>some x|none=>if (s==v.name)=true then some v else none
 |[]=>rfl
 |x :: r=>by
  show (if (s==x.name)=true then some x else fndV s (r++[v]))=_;rw[show fndV s (x :: r)=if (s==x.name)=true then some x else fndV s r from rfl];by_cases h:(s==x.name)=true
  ·rw[if_pos h,if_pos h]
  ·rw[if_neg h,if_neg h,zpj s v r]
theorem zpk (s:ByteArray):∀ Tv:List VV,(fndV s Tv).isSome=(Tv.map VV.name).any fun t=>s==t
 |[]=>rfl
 |x :: r=>by
  rw[List.map_cons,List.any_cons];unfold fndV;by_cases h:(s==x.name)=true
  ·rw[if_pos h,h];rfl
  ·rw[if_neg h,zpk s r,(Bool.eq_false_iff.2 h:(s==x.name)=false),Bool.false_or]
theorem zl2 {s:ByteArray} {v:VV}:∀ {Tv:List VV},fndV s Tv=some v→v∈Tv∧v.name=s
 |[],h=>by cases h
 |x :: r,h=>by
  unfold fndV at h;split at h
  ·rename_i q;cases h;exact⟨List.mem_cons_self ..,((zhV _ _).1 q).symm⟩
  ·obtain⟨a,b⟩:=zl2 h;exact⟨List.mem_cons_of_mem _ a,b⟩
def ze5 (Tv:List VV) (s:ByteArray):W64:=match fndV s Tv with|some v=>BitVec.ofInt 64 v.num|none=>0#64
def badV (L:List Nd) (Tv:List VV) (t:Nat):Bool:=match L[t-1]? with
 |some n=>decide (n.op=4)&&(match fndV n.name Tv with|some v=>decide (v.w≠n.w)|none=>false)
 |none=>false
noncomputable def zlk (L:List Nd) (ns:List Nat) (Tv:List VV):Int × List W64:=
 if ziV Tv≠0 then (ziV Tv,[]) else if (posts L ns []).any (badV L Tv)=true then (71,[]) else (0,ns.map (vfn L (ze5 Tv)))
def varsR (L:List Nd) (ns:List Nat):List VV:=(posts L ns []).filterMap fun t=>match L[t-1]? with
 |some n=>if n.op=4 then some ⟨n.name,n.w,0⟩ else none
 |none=>none
end Go.AM.N14
namespace Go.AM.N14
open Go Go.AM
theorem flat_at {A:Type} {f:A→List Value} {n:Nat} (hf:∀ a,(f a).length=n):∀ (l:List A) (i:Nat) (a:A),l[i]?=some a→((l.flatMap f).drop (i*n)).take n=f a
 |[],i,a,h=>by cases h
 |b :: r,0,a,h=>by
  cases h;rw[Nat.zero_mul,qd0,List.flatMap_cons,List.take_left' (hf _)]
 |b :: r,i+1,a,h=>by have h:r[i]?=some a:=h;rw[List.flatMap_cons,List.drop_append,List.drop_of_length_le (by rw[hf];exact Nat.le_mul_of_pos_left n (by omega)),List.nil_append,hf,show (i+1)*n-n=i*n by rw[Nat.succ_mul];omega];exact flat_at hf r i a h
theorem flat_len {A:Type} {f:A→List Value} {n:Nat} (hf:∀ a,(f a).length=n):∀ (l:List A),(l.flatMap f).length=l.length*n
 |[]=>by simp
 |b :: r=>by rw[List.flatMap_cons,List.length_append,hf,flat_len hf r,List.length_cons,Nat.succ_mul];omega
def zb9 (Tv:List VV):List Value:=Tv.flatMap VV.cells
theorem vv_len (v:VV):v.cells.length=3:=rfl
theorem valsC_len (Tv:List VV):(zb9 Tv).length=Tv.length*3:=flat_len vv_len Tv
theorem valsC_app (Tv U:List VV):zb9 (Tv++U)=zb9 Tv++zb9 U:=by simp[zb9]
theorem Rdb.vv {H:Hp} {x:Value} {Tv:List VV} (hx:Rdb H 3 x Tv.length (zb9 Tv)) {i:Nat} {v:VV} (hi:Tv[i]?=some v) :
  ∃ y,Id x y∧(∀ (α:Type) (kd:IntKind) (k:Value→Option α),pIdx 3 x (.int kd (i:Int)) k=k (.pointer (some ⟨y,i*3,none⟩)))∧(∀ (α:Type) (k:Value→Option α),zal 3 true H (.pointer (some ⟨y,i*3,none⟩)) k=k v.val) ∧
   (∀ (α:Type) (j:Nat) (z:Value),v.cells[j]?=some z→∀ (k:Value→Option α),zal 1 false H (.pointer (some ⟨y,i*3+j,none⟩)) k=k z):=by
 have hlt:=(List.getElem?_eq_some_iff.1 hi).1;obtain⟨y,hy,⟨rest,own,hg⟩,hix⟩:=hx.ix hlt;have hf:=flat_at vv_len Tv i v hi;have hl:=valsC_len Tv;refine⟨y,hy,hix,fun α k=>?_,fun α j z hz k=>?_⟩
 ·rw[ld_agg hg (by rw[hl];omega)];have:(zb9 Tv).drop (i*3)=(Tv.flatMap VV.cells).drop (i*3):=rfl;rw[this,hf];rfl
 ·have hj:j<3:=(List.getElem?_eq_some_iff.1 hz).1;refine zeH hg ?_ k;have:(((Tv.flatMap VV.cells).drop (i*3)).take 3)[j]?=some z:=by rw[hf];exact hz
  rw[List.getElem?_take_of_lt hj,List.getElem?_drop] at this;exact this
theorem splV {α:Type} (v:VV) (k:List Value→Option α):zaD 3 [.string ⟨#[]⟩,.int .i64 0,.int .u64 0] 0 v.val k=k v.cells:=by
 have:zby 3 [.string ⟨#[]⟩,.int .i64 0,.int .u64 0] 0 v.val=some v.cells:=by kernel_rfl
 unfold zaD;rw[this]
theorem vcell0 {α:Type} (v:VV) (k:Value→Option α):zad 1 false v.cells 0 k=k (.string v.name):=rfl
theorem zmh {α:Type} (v:VV) (k:Value→Option α):zad 1 false v.cells 1 k=k (.int .i64 v.w):=rfl
theorem vcell2 {α:Type} (v:VV) (k:Value→Option α):zad 1 false v.cells 2 k=k (.int .u64 v.num):=rfl
theorem vcell3 {α:Type} (v:VV) (k:Value→Option α):zad 3 true v.cells 0 k=k v.val:=rfl
def noV:VV:=⟨⟨#[]⟩,0,0⟩
theorem noV_val:Value.agg #[.string ⟨#[]⟩,.int .i64 0,.int .u64 0]=noV.val:=rfl
theorem mm_i64 {α:Type} (a b:Int) (k:Value→Option α):pMM true [.int .i64 a,.int .i64 b] k=k (.int .i64 (if b>a then b else a)):=rfl
theorem nmOk_cons (seen:List ByteArray) (s:ByteArray) (r:List ByteArray):nmOk seen (s :: r)=if (seen.any fun t=>s==t)||!zcG s then false else nmOk (seen++[s]) r:=rfl
structure TS (B H:Hp) (m:Nat) (F:ByteArray→Option VV):Prop where
 next:B.next≤H.next
 old:∀ j,j<B.next→H.get j=B.get j
 l:B.next≤m
 n:m<H.next
 map:MapS H m VV.val F
theorem TS.up {B H:Hp} {m:Nat} {F:ByteArray→Option VV} (h:TS B H m F) (v:VV) :
  ∃ H',(∀ (α:Type) (k:Hp→Option α),pUpd PP T.string (.map (some m)) (.string v.name) v.val H k=k H')∧TS B H' m (fun t=>if (t==v.name)=true then some v else F t):=by
 obtain⟨H',e1,e2,e3,e4⟩:=h.map.upd v.name v;have a:=h.l;exact⟨H',e1,⟨by rw[e4];exact h.next,fun j hj=>by rw[e3 j (by omega),h.old j hj],h.l,by rw[e4];exact h.n,e2⟩⟩
section
variable {B:Hp} {x:Value} {L:List VV} (hx:Rdb B 3 x L.length (zb9 L)) (hl:L.length≤2^40)
include hx hl
theorem zkv {m:Nat}:∀ (r:List VV) (i:Nat) (H:Hp),L.drop i=r→i≤L.length→TS B H m (fun s=>fndV s (L.take i)) →
  ∃ H',B.next≤H'.next∧(∀ j,j<B.next→H'.get j=B.get j) ∧
   (nmOk ((L.take i).map VV.name) (r.map VV.name)=true→zas (zb6 RR x (.map (some m)) (.int .i64 (L.length:Int))) [.int .i64 (i:Int)] H=some (.exit 0,[.int .i64 (L.length:Int)],H')∧TS B H' m (fun s=>fndV s L)) ∧
   (nmOk ((L.take i).map VV.name) (r.map VV.name)=false→zas (zb6 RR x (.map (some m)) (.int .i64 (L.length:Int))) [.int .i64 (i:Int)] H=some (.ret,[.tuple #[.map none,.int .i64 72]],H'))
 |[],i,H,hr,hi,h=>by
  have hil:i=L.length:=by have:=congrArg List.length hr;rw[List.length_drop,List.length_nil] at this;omega
  subst hil;refine⟨H,h.next,h.old,fun _=>⟨?_,?_⟩,fun q=>by cases q⟩
  ·rw[zai];have:zb6 RR x (.map (some m)) (.int .i64 (L.length:Int)) [.int .i64 (L.length:Int)] H=some (.exit 0,[.int .i64 (L.length:Int)],H):=by unfold zb6;simp only[qg0];rw[lF (Int.lt_irrefl _)]
   rw[this];rfl
  ·rw[List.take_length] at h;exact h
 |v :: r,i,H,hr,hi,h=>by
  have hlt:i<L.length:=by have:=congrArg List.length hr;rw[List.length_drop,List.length_cons] at this;omega
  have hv:L[i]?=some v:=by
   have:(L.drop i)[0]?=some v:=by rw[hr];rfl
   rwa [List.getElem?_drop,Nat.add_zero] at this
  have hr2:L.drop (i+1)=r:=by rw[←List.drop_drop,hr];rfl
  have ht:L.take (i+1)=L.take i++[v]:=by rw[List.take_add_one,hv];rfl
  have hxH:Rdb H 3 x L.length (zb9 L):=hx.keep' (fun j hj=>h.old j (hx.lt hj)) h.next;obtain⟨y,_,y1,y2,_⟩:=Rdb.vv hxH hv;have q:(i:Int)<(L.length:Int):=by omega
  have w1:IntKind.i64.wrap ((i:Int)+1)=((i+1:Nat):Int):=zax (by omega) (by omega);have lk:∀ {α:Type} (k:Value→Option α),zbB PP T.string (.agg #[.string ⟨#[]⟩,.int .i64 0,.int .u64 0]) (.map (some m)) (.string v.name) true H k=k (.tuple #[((fndV v.name (L.take i)).getD noV).val,.bool (fndV v.name (L.take i)).isSome]):=fun k=>by rw[noV_val,h.map.look2];cases fndV v.name (L.take i)<;>rfl
  have hb:=zpk v.name (L.take i);obtain⟨H1,u1,t1⟩:=h.up v;have hcase:zb6 RR x (.map (some m)) (.int .i64 (L.length:Int)) [.int .i64 (i:Int)] H=if ((fndV v.name (L.take i)).isSome||!zcG v.name)=true then some (.ret,[.tuple #[.map none,.int .i64 72]],H) else some (.next,[.int .i64 ((i+1:Nat):Int)],H1):=by
   unfold zb6;simp only[qg0];rw[lT q,y1,y2,splV,vcell0,lk,x01,splV,zac];cases (fndV v.name (L.take i)).isSome with
   |true=>rfl
   |false=>
    rw[zaJ,vcell0,zah (Go.AM.c44 _ _),zbj,zac];cases zcG v.name with
    |false=>rfl
    |true=>
     show br false _ _=_;rw[zaJ,vcell0,vcell3,u1,zaQ,w1];rfl
  rw[List.map_cons,nmOk_cons,←hb];by_cases hc:((fndV v.name (L.take i)).isSome||!zcG v.name)=true
  ·rw[if_pos hc] at hcase ⊢;refine⟨H,h.next,h.old,fun q=>(by cases q),fun _=>?_⟩;rw[zai,hcase];rfl
  ·rw[if_neg hc] at hcase ⊢;have hF:(fun t=>if (t==v.name)=true then some v else fndV t (L.take i))=fun s=>fndV s (L.take (i+1)):=by
    funext t;rw[ht,zpj];by_cases e:(t==v.name)=true
    ·rw[if_pos e,if_pos e];have:t=v.name:=(zhV _ _).1 e;rw[this];cases hq:fndV v.name (L.take i) with
     |none=>rfl
     |some z=>rw[hq] at hc;exact absurd rfl hc
    ·rw[if_neg e,if_neg e];cases fndV t (L.take i)<;>rfl
   rw[hF] at t1;obtain⟨H',g1,g2,g3,g4⟩:=zkv r (i+1) H1 hr2 (by omega) t1;rw[ht,List.map_append] at g3 g4;refine⟨H',g1,g2,fun q=>?_,fun q=>?_⟩
   ·rw[zai,hcase];exact g3 q
   ·rw[zai,hcase];exact g4 q
theorem zku {H:Hp} (hok:∀ v∈L,v.Ok) (hH:Rdb H 3 x L.length (zb9 L)):∀ (r:List VV) (i:Nat),L.drop i=r→i≤L.length →
   (r.all wdOk=true→zas (zb5 RR x (.int .i64 (L.length:Int))) [.int .i64 (i:Int)] H=some (.exit 2,[.int .i64 (L.length:Int)],H)) ∧
   (r.all wdOk=false→zas (zb5 RR x (.int .i64 (L.length:Int))) [.int .i64 (i:Int)] H=some (.ret,[.tuple #[.map none,.int .i64 5]],H))
 |[],i,hr,hi=>by
  have hil:i=L.length:=by have:=congrArg List.length hr;rw[List.length_drop,List.length_nil] at this;omega
  subst hil;refine⟨fun _=>?_,fun q=>by cases q⟩;rw[zai];have:zb5 RR x (.int .i64 (L.length:Int)) [.int .i64 (L.length:Int)] H=some (.exit 2,[.int .i64 (L.length:Int)],H):=by unfold zb5;simp only[qg0];rw[lF (Int.lt_irrefl _)]
  rw[this];rfl
 |v :: r,i,hr,hi=>by
  have hlt:i<L.length:=by have:=congrArg List.length hr;rw[List.length_drop,List.length_cons] at this;omega
  have hv:L[i]?=some v:=by
   have:(L.drop i)[0]?=some v:=by rw[hr];rfl
   rwa [List.getElem?_drop,Nat.add_zero] at this
  have hr2:L.drop (i+1)=r:=by rw[←List.drop_drop,hr];rfl
  obtain⟨y,_,y1,y2,_⟩:=Rdb.vv hH hv;have q:(i:Int)<(L.length:Int):=by omega
  have w1:IntKind.i64.wrap ((i:Int)+1)=((i+1:Nat):Int):=zax (by omega) (by omega);obtain⟨n0,n1⟩:=hok v (List.mem_of_getElem? hv);have e:(if (1:Int)>v.w then (1:Int) else v.w)=if v.w<1 then 1 else v.w:=rfl;have hcase:zb5 RR x (.int .i64 (L.length:Int)) [.int .i64 (i:Int)] H=if wdOk v=true then some (.next,[.int .i64 ((i+1:Nat):Int)],H) else some (.ret,[.tuple #[.map none,.int .i64 5]],H):=by
   unfold zb5 wdOk;simp only[qg0];rw[lT q,y1,y2,splV,zmh,zaT,zac];by_cases a:v.w<0
   ·rw[decide_eq_true a,zaX,decide_eq_false (show ¬ 0≤v.w by omega)];rfl
   ·rw[decide_eq_false a,zaJ,zmh,zbi,zac,decide_eq_true (show 0≤v.w by omega)];by_cases b:v.w>64
    ·rw[decide_eq_true b,zaX,decide_eq_false (show ¬ v.w≤64 by omega)];rfl
    ·rw[decide_eq_false b,zaJ,zmh,mm_i64,vcell2,zah (Go.AM.c45 _ _ n0 n1 _),vcell2,za8,zac,decide_eq_true (show v.w≤64 by omega),e,zaQ,w1];by_cases c:ziU (if v.w<1 then 1 else v.w) v.num=v.num
     ·rw[c,decide_eq_false (by simp),zaJ,decide_eq_true rfl];rfl
     ·rw[decide_eq_true c,zaX,decide_eq_false c];rfl
  obtain⟨g1,g2⟩:=zku hok hH r (i+1) hr2 (by omega);rw[List.all_cons];cases hw:wdOk v with
  |true=>
   rw[hw,if_pos rfl] at hcase;rw[Bool.true_and,zai,hcase];exact⟨g1,g2⟩
  |false=>
   rw[hw,if_neg (by decide)] at hcase;refine⟨fun q=>(by cases q),fun _=>?_⟩;rw[zai,hcase];rfl
theorem c_told (hok:∀ v∈L,v.Ok):∃ v H',RR F.a56 [x] B=some (.tuple #[v,.int .i64 (ziV L)],H')∧Frm (fun _=>False) B H'∧(ziV L=0→∃ m,v=.map (some m)∧B.next≤m∧m<H'.next∧MapS H' m VV.val (fun s=>fndV s L)):=by
 have hr:=(znH E0 rfl x B).trans (zog _ _ _);have t0:TS B (B.new (.map [])) B.next (fun s=>fndV s (L.take 0)):=⟨by show B.next≤B.next+1;omega,fun j hj=>by rw[get_new,if_neg (by omega)],Nat.le_refl _,by show B.next<B.next+1;omega,MapS.new B VV.val⟩
 obtain⟨H1,a1,a2,a3,a4⟩:=zkv hx hl L 0 _ rfl (Nat.zero_le _) t0;rw[List.take_zero,List.map_nil] at a3 a4;have hh:∀ (n:Int) (f:Option (Value × Hp)),zhM (.int .i64 n) f=f:=fun n f=>rfl;have hm:∀ (H:Hp) (f:Value→Hp→Option (Value × Hp)),zcb H f=f (.map (some H.next)) (H.new (.map [])):=fun H f=>rfl;have z0:((0:Nat):Int)=0:=rfl;rw[z0] at a3 a4;rw[hx.len,hh,hm,hx.len] at hr;unfold ziV;have fr:Frm (fun _=>False) B H1:=⟨a1,fun j hj _=>a2 j hj⟩
 cases hn:nmOk [] (L.map VV.name) with
 |false=>
  rw[a4 hn] at hr;rw[if_neg (by decide)];exact⟨_,H1,hr,fr,fun q=>absurd q (by decide)⟩
 |true=>
  obtain⟨b1,b2⟩:=a3 hn;have hx1:Rdb H1 3 x L.length (zb9 L):=hx.keep' (fun j hj=>a2 j (hx.lt hj)) a1;obtain⟨c1,c2⟩:=zku hx hl hok hx1 L 0 rfl (Nat.zero_le _);rw[z0] at c1 c2;rw[b1,zam,za1,zaz,hx.len] at hr;rw[if_pos rfl];cases hw:L.all wdOk with
  |false=>
   rw[c2 hw] at hr;rw[if_neg (by decide)];exact⟨_,H1,hr,fr,fun q=>absurd q (by decide)⟩
  |true=>
   rw[c1 hw,zam,za1,zaz] at hr;exact⟨_,H1,hr,fr,fun _=>⟨_,rfl,b2.l,b2.n,b2.map⟩⟩
end
end Go.AM.N14
namespace Go.AM
open Go
def fw (F:Int→Int) (n:Nd):List Fld→Nat→List (List UInt8)
 |[],_=>[]
 |.p :: r,k=>itoa (F ([n.a,n.b,n.c].getD k 0)) :: fw F n r (k+1)
 |.n :: r,k=>numT n.num.toNat :: fw F n r k
 |.w :: r,k=>itoa n.w :: fw F n r k
 |.s :: r,k=>n.name.data.toList :: fw F n r k
def upT (n:Nat):List Int:=(List.range n).map fun (j:Nat)=>((j+1:Nat):Int)
section
end
theorem q_seqlE (a b:ByteArray) (h:(a.toList==b.toList)=true):a=b:=by
 have h:a.toList=b.toList:=by simpa using h
 rw[Go.Lib.toList_data,Go.Lib.toList_data] at h;rw[zlb (s:=a) rfl,zlb (s:=b) rfl,h]
theorem nd_parts {M:List Nd} {K:List (ByteArray × Int)} {n:Nd} (h:zmb M K n):(zaj n.op≥1→1≤n.a∧n.a≤M.length)∧(zaj n.op<1→n.a=0)∧(zaj n.op≥2→1≤n.b∧n.b≤M.length)∧(zaj n.op<2→n.b=0)∧(zaj n.op≥3→1≤n.c∧n.c≤M.length)∧(zaj n.op<3→n.c=0) ∧
  (n.op≠3→n.op≠31→n.num=0)∧(n.op≠4→n.name=⟨#[]⟩):=by
 obtain⟨_,_,_,ha,hb,hc⟩:=zlJ h.pt h.sp;have h2:=h.sp;unfold zej at h2;simp only[Bool.or_eq_true,Bool.and_eq_true,decide_eq_true_eq,not_or,not_and] at h2;refine⟨fun q=>zbo.1 (ha q),fun q=>?_,fun q=>zbo.1 (hb q),fun q=>?_,fun q=>zbo.1 (hc q),fun q=>?_,fun q1 q2=>?_,fun q=>?_⟩
 ·have:=h2.1.1.1.1 q;omega
 ·have:=h2.1.1.1.2 q;omega
 ·have:=h2.1.1.2 q;omega
 ·exact Decidable.byContradiction fun e=>h2.1.2 ⟨e,q1⟩ q2
 ·have hn:zlR n=false:=by
   cases e:zlR n with
   |false=>rfl
   |true=>exact absurd q (h2.2 e)
  unfold zlR at hn;have he:(n.name.toList==(⟨#[]⟩:ByteArray).toList)=true:=by simpa using hn
  have h3:=q_seqlE n.name ⟨#[]⟩ he;exact h3
end Go.AM
namespace Go.AM
open Go
section
end
end Go.AM
namespace Go.AM
open Go
section
end
section
end
end Go.AM
namespace Go.AM
open Go
section
end
end Go.AM
namespace Go.AM.N14
open Go Go.AM
def isV (L:List Nd) (t:Nat):Option VV:=match L[t-1]? with
 |some n=>if n.op=4 then some ⟨n.name,n.w,0⟩ else none
 |none=>none
theorem varsR_eq (L:List Nd) (ns:List Nat):varsR L ns=(posts L ns []).filterMap (isV L):=rfl
end Go.AM.N14
namespace Go.AM.N14
open Go Go.AM
section
end
end Go.AM.N14
namespace Go.AM.N14
open Go Go.AM
end Go.AM.N14
namespace Go.AM.N14
open Go Go.AM
end Go.AM.N14
namespace Go.AM.N14
open Go Go.AM
section
end
end Go.AM.N14
namespace Go.AM.N14
open Go Go.AM
end Go.AM.N14
namespace Go.AM.N14
open Go Go.AM
end Go.AM.N14
namespace Go.AM.N14
open Go Go.AM
end Go.AM.N14
namespace Go.AM.N14
open Go Go.AM
end Go.AM.N14
namespace Go.AM.N14
open Go Go.AM
end Go.AM.N14
namespace Go.AM.N14
open Go Go.AM
section
end
end Go.AM.N14
namespace Go.AM.N14
open Go Go.AM
section
end
end Go.AM.N14
namespace Go.AM.N14
open Go Go.AM
section
end
end Go.AM.N14
namespace Go.AM.N14
open Go Go.AM
end Go.AM.N14
namespace Go.AM.N14
open Go Go.AM
end Go.AM.N14
namespace Go.AM.N14
open Go Go.AM Go.ChangeShapes Go.WideShapes Go.ChangeAt Go.RowKit
end Go.AM.N14
namespace Go.AM.N14
open Go Go.AM
end Go.AM.N14
namespace Go.AM.N14
open Go Go.AM
end Go.AM.N14
namespace Go.AM.N14
open Go Go.AM
end Go.AM.N14
namespace Go.AM.N14
open Go Go.AM
end Go.AM.N14
namespace Go.AM.N14
open Go Go.AM
end Go.AM.N14
namespace Go.AM.N14
open Go Go.AM
def zcK (n:Nd) (a b c:Int):Bool:=
 if n.op≤2 then decide (n.w=0) else if n.op=3 then decide (n.w>0)&&decide (n.num≤((msk (wd n.w)).toNat:Int)) else if n.op=4 then true else if n.op=5 then decide (n.w=0)&&decide (a=0) else if n.op≤8 then decide (n.w=0)&&(decide (a=0)&&decide (b=0)) else if n.op=9 then decide (n.w=0)&&decide (a=b) else if n.op≤13 then decide (n.w=0)&&(decide (a>0)&&decide (a=b)) else if n.op=14 then decide (a=0)&&(decide (b=c)&&decide (n.w=b))
 else if n.op≤16 then decide (a>0)&&decide (n.w=a) else if n.op≤24 then decide (a>0)&&(decide (a=b)&&decide (n.w=a)) else if n.op≤29 then decide (a>0)&&(decide (a=b)&&(decide (n.w=a)&&zoi a)) else if n.op=30 then decide (a>0)&&(decide (b>0)&&decide (n.w=a+b)) else if n.op=31 then decide (a>0)&&(decide (n.w≥1)&&(decide (n.w≤a)&&decide (n.num≤a-n.w))) else decide (a>0)&&decide (n.w≥a)
def zhY (n:Nd) (a b c:Int):Bool:=if n.num≠0∧n.op≠3∧n.op≠31 then false else zcK n a b c
end Go.AM.N14
namespace Go.AM.N14
open Go Go.AM
structure Parted (L:List Nd) (n:Nd) (a b c:Int):Prop where
 a:(zaj n.op≥1∧isT L n.a=true∧wT L (-1) n.a=a)∨(zaj n.op<1∧n.a=0∧a=0)
 b:(zaj n.op≥2∧isT L n.b=true∧wT L (-1) n.b=b)∨(zaj n.op<2∧n.b=0∧b=0)
 c:(zaj n.op≥3∧isT L n.c=true∧wT L (-1) n.c=c)∨(zaj n.op<3∧n.c=0∧c=0)
theorem trim_iff {n:Nd} (hw:0<n.w∧n.w≤64) (hnum:0≤n.num∧n.num<18446744073709551616):decide (ziU n.w n.num=n.num)=decide (n.num≤((msk (wd n.w)).toNat:Int)):=by
 have e1:wd n.w=n.w.toNat:=by unfold wd;omega
 rw[e1,zlS _ (by omega)];unfold ziU;rw[if_neg (by omega)];by_cases h64:n.w≥64
 ·have:n.w.toNat=64:=by omega
  rw[if_pos h64,this,decide_eq_true rfl,decide_eq_true (by omega)]
 ·rw[if_neg h64];have hp:0<2^n.w.toNat:=Nat.two_pow_pos _;have ep:((2:Int)^n.w.toNat)=((2^n.w.toNat:Nat):Int):=by push_cast;rfl
  rw[ep];generalize 2^n.w.toNat=m at *;have:(n.num%(m:Int)=n.num)↔n.num≤((m-1:Nat):Int):=by
   constructor
   ·intro h;have:=Int.emod_lt_of_pos n.num (show (0:Int)<(m:Int) by omega);omega
   ·intro h;exact Int.emod_eq_of_lt hnum.1 (by omega)
  exact decide_eq_decide.2 this
theorem checks {n:Nd} (ho:1≤n.op∧n.op≤33) (h4:n.op≠4) (hw:0≤n.w∧n.w≤64) (hnum:0≤n.num∧n.num<18446744073709551616) {L:List Nd} {a b c:Int} (hp:Parted L n a b c) :
  (zbD n.op (wT L (-1) n.a) (wT L (-1) n.b) (wT L (-1) n.c)&&zbK n (wT L (-1) n.a) (wT L (-1) n.b))=zcK n a b c:=by
 have pa:=hp.a;have pb:=hp.b;have pc:=hp.c;by_cases g1:1≤n.op∧n.op≤2
 ·have hk:zaj n.op=0:=by unfold zaj;rw[if_pos (by omega)]
  rw[hk] at pa pb pc;unfold zbD zbK zcK;rw[if_pos (show zaj n.op=0 by omega),if_pos (show n.op=1∨n.op=2∨(5≤n.op∧n.op≤13) by omega),if_pos (show n.op≤2 by omega)];rw[Bool.true_and]
 by_cases g3:n.op=3
 ·have hk:zaj n.op=0:=by unfold zaj;rw[if_pos (by omega)]
  rw[hk] at pa pb pc;unfold zbD zbK zcK;rw[if_pos (show zaj n.op=0 by omega),if_neg (show ¬ (n.op=1∨n.op=2∨(5≤n.op∧n.op≤13)) by omega),if_pos (show n.op=3 by omega),if_neg (show ¬ n.op≤2 by omega),if_pos (show n.op=3 by omega)];by_cases q:n.w>0
  ·rw[trim_iff ⟨q,hw.2⟩ hnum,Bool.true_and]
  ·rw[decide_eq_false q];rfl
 by_cases g5:n.op=5
 ·have hk:zaj n.op=1:=by unfold zaj;rw[if_neg (by omega),if_pos (by omega)]
  rw[hk] at pa pb pc;have ea:wT L (-1) n.a=a:=by rcases pa with⟨_,_,q⟩|⟨q,_,_⟩;exact q;exact absurd q (by decide)
  unfold zbD zbK zcK;rw[ea];rw[if_neg (show ¬ (zaj n.op=0) by omega),if_pos (show n.op=5 by omega),if_pos (show n.op=1∨n.op=2∨(5≤n.op∧n.op≤13) by omega),if_neg (show ¬ n.op≤2 by omega),if_neg (show ¬ n.op=3 by omega),if_neg (show ¬ n.op=4 by omega),if_pos (show n.op=5 by omega)]
  ac_rfl
 by_cases g6:6≤n.op∧n.op≤8
 ·have hk:zaj n.op=2:=by unfold zaj;rw[if_neg (by omega),if_neg (by omega),if_neg (by omega)]
  rw[hk] at pa pb pc;have ea:wT L (-1) n.a=a:=by rcases pa with⟨_,_,q⟩|⟨q,_,_⟩;exact q;exact absurd q (by decide)
  have eb:wT L (-1) n.b=b:=by rcases pb with⟨_,_,q⟩|⟨q,_,_⟩;exact q;exact absurd q (by decide)
  unfold zbD zbK zcK;rw[ea,eb];rw[if_neg (show ¬ (zaj n.op=0) by omega),if_neg (show ¬ (n.op=5) by omega),if_pos (show n.op=6∨n.op=7∨n.op=8 by omega),if_pos (show n.op=1∨n.op=2∨(5≤n.op∧n.op≤13) by omega),if_neg (show ¬ n.op≤2 by omega),if_neg (show ¬ n.op=3 by omega),if_neg (show ¬ n.op=4 by omega),if_neg (show ¬ n.op=5 by omega),if_pos (show n.op≤8 by omega)]
  ac_rfl
 by_cases g9:n.op=9
 ·have hk:zaj n.op=2:=by unfold zaj;rw[if_neg (by omega),if_neg (by omega),if_neg (by omega)]
  rw[hk] at pa pb pc;have ea:wT L (-1) n.a=a:=by rcases pa with⟨_,_,q⟩|⟨q,_,_⟩;exact q;exact absurd q (by decide)
  have eb:wT L (-1) n.b=b:=by rcases pb with⟨_,_,q⟩|⟨q,_,_⟩;exact q;exact absurd q (by decide)
  unfold zbD zbK zcK;rw[ea,eb];rw[if_neg (show ¬ (zaj n.op=0) by omega),if_neg (show ¬ (n.op=5) by omega),if_neg (show ¬ (n.op=6∨n.op=7∨n.op=8) by omega),if_pos (show n.op=9 by omega),if_pos (show n.op=1∨n.op=2∨(5≤n.op∧n.op≤13) by omega),if_neg (show ¬ n.op≤2 by omega),if_neg (show ¬ n.op=3 by omega),if_neg (show ¬ n.op=4 by omega),if_neg (show ¬ n.op=5 by omega),if_neg (show ¬ n.op≤8 by omega),if_pos (show n.op=9 by omega)]
  ac_rfl
 by_cases g10:10≤n.op∧n.op≤13
 ·have hk:zaj n.op=2:=by unfold zaj;rw[if_neg (by omega),if_neg (by omega),if_neg (by omega)]
  rw[hk] at pa pb pc;have ea:wT L (-1) n.a=a:=by rcases pa with⟨_,_,q⟩|⟨q,_,_⟩;exact q;exact absurd q (by decide)
  have eb:wT L (-1) n.b=b:=by rcases pb with⟨_,_,q⟩|⟨q,_,_⟩;exact q;exact absurd q (by decide)
  unfold zbD zbK zcK;rw[ea,eb];rw[if_neg (show ¬ (zaj n.op=0) by omega),if_neg (show ¬ (n.op=5) by omega),if_neg (show ¬ (n.op=6∨n.op=7∨n.op=8) by omega),if_neg (show ¬ (n.op=9) by omega),if_neg (show ¬ (n.op=14) by omega),if_neg (show ¬ (n.op=30) by omega),if_neg (show ¬ (zaj n.op=1) by omega),if_pos (show n.op=1∨n.op=2∨(5≤n.op∧n.op≤13) by omega),if_neg (show ¬ n.op≤2 by omega),if_neg (show ¬ n.op=3 by omega),if_neg (show ¬ n.op=4 by omega),if_neg (show ¬ n.op=5 by omega),if_neg (show ¬ n.op≤8 by omega),if_neg (show ¬ n.op=9 by omega),if_pos (show n.op≤13 by omega)]
  ac_rfl
 by_cases g14:n.op=14
 ·have hk:zaj n.op=3:=by unfold zaj;rw[if_neg (by omega),if_neg (by omega),if_pos (by omega)]
  rw[hk] at pa pb pc;have ea:wT L (-1) n.a=a:=by rcases pa with⟨_,_,q⟩|⟨q,_,_⟩;exact q;exact absurd q (by decide)
  have eb:wT L (-1) n.b=b:=by rcases pb with⟨_,_,q⟩|⟨q,_,_⟩;exact q;exact absurd q (by decide)
  have ec:wT L (-1) n.c=c:=by rcases pc with⟨_,_,q⟩|⟨q,_,_⟩;exact q;exact absurd q (by decide)
  unfold zbD zbK zcK;rw[ea,eb,ec];rw[if_neg (show ¬ (zaj n.op=0) by omega),if_neg (show ¬ (n.op=5) by omega),if_neg (show ¬ (n.op=6∨n.op=7∨n.op=8) by omega),if_neg (show ¬ (n.op=9) by omega),if_pos (show n.op=14 by omega),if_neg (show ¬ (n.op=1∨n.op=2∨(5≤n.op∧n.op≤13)) by omega),if_neg (show ¬ (n.op=3) by omega),if_neg (show ¬ (n.op=4) by omega),if_pos (show n.op=14 by omega),if_neg (show ¬ n.op≤2 by omega),if_neg (show ¬ n.op=3 by omega),if_neg (show ¬ n.op=4 by omega),if_neg (show ¬ n.op=5 by omega),if_neg (show ¬ n.op≤8 by omega),if_neg (show ¬ n.op=9 by omega),if_neg (show ¬ n.op≤13 by omega),if_pos (show n.op=14 by omega)]
  ac_rfl
 by_cases g15:15≤n.op∧n.op≤16
 ·have hk:zaj n.op=1:=by unfold zaj;rw[if_neg (by omega),if_pos (by omega)]
  rw[hk] at pa pb pc;have ea:wT L (-1) n.a=a:=by rcases pa with⟨_,_,q⟩|⟨q,_,_⟩;exact q;exact absurd q (by decide)
  unfold zbD zbK zcK;rw[ea];rw[if_neg (show ¬ (zaj n.op=0) by omega),if_neg (show ¬ (n.op=5) by omega),if_neg (show ¬ (n.op=6∨n.op=7∨n.op=8) by omega),if_neg (show ¬ (n.op=9) by omega),if_neg (show ¬ (n.op=14) by omega),if_neg (show ¬ (n.op=30) by omega),if_pos (show zaj n.op=1 by omega),if_neg (show ¬ (n.op=1∨n.op=2∨(5≤n.op∧n.op≤13)) by omega),if_neg (show ¬ (n.op=3) by omega),if_neg (show ¬ (n.op=4) by omega),if_neg (show ¬ (n.op=14) by omega),if_neg (show ¬ (25≤n.op∧n.op≤29) by omega),if_neg (show ¬ (n.op=30) by omega),if_neg (show ¬ (n.op=31) by omega),if_neg (show ¬ (n.op=32∨n.op=33) by omega),if_neg (show ¬ n.op≤2 by omega),if_neg (show ¬ n.op=3 by omega),if_neg (show ¬ n.op=4 by omega),if_neg (show ¬ n.op=5 by omega),if_neg (show ¬ n.op≤8 by omega),if_neg (show ¬ n.op=9 by omega),if_neg (show ¬ n.op≤13 by omega),if_neg (show ¬ n.op=14 by omega),if_pos (show n.op≤16 by omega)]
 by_cases g17:17≤n.op∧n.op≤24
 ·have hk:zaj n.op=2:=by unfold zaj;rw[if_neg (by omega),if_neg (by omega),if_neg (by omega)]
  rw[hk] at pa pb pc;have ea:wT L (-1) n.a=a:=by rcases pa with⟨_,_,q⟩|⟨q,_,_⟩;exact q;exact absurd q (by decide)
  have eb:wT L (-1) n.b=b:=by rcases pb with⟨_,_,q⟩|⟨q,_,_⟩;exact q;exact absurd q (by decide)
  unfold zbD zbK zcK;rw[ea,eb];rw[if_neg (show ¬ (zaj n.op=0) by omega),if_neg (show ¬ (n.op=5) by omega),if_neg (show ¬ (n.op=6∨n.op=7∨n.op=8) by omega),if_neg (show ¬ (n.op=9) by omega),if_neg (show ¬ (n.op=14) by omega),if_neg (show ¬ (n.op=30) by omega),if_neg (show ¬ (zaj n.op=1) by omega),if_neg (show ¬ (n.op=1∨n.op=2∨(5≤n.op∧n.op≤13)) by omega),if_neg (show ¬ (n.op=3) by omega),if_neg (show ¬ (n.op=4) by omega),if_neg (show ¬ (n.op=14) by omega),if_neg (show ¬ (25≤n.op∧n.op≤29) by omega),if_neg (show ¬ (n.op=30) by omega),if_neg (show ¬ (n.op=31) by omega),if_neg (show ¬ (n.op=32∨n.op=33) by omega),if_neg (show ¬ n.op≤2 by omega),if_neg (show ¬ n.op=3 by omega),if_neg (show ¬ n.op=4 by omega),if_neg (show ¬ n.op=5 by omega),if_neg (show ¬ n.op≤8 by omega),if_neg (show ¬ n.op=9 by omega),if_neg (show ¬ n.op≤13 by omega),if_neg (show ¬ n.op=14 by omega),if_neg (show ¬ n.op≤16 by omega),if_pos (show n.op≤24 by omega)]
  ac_rfl
 by_cases g25:25≤n.op∧n.op≤29
 ·have hk:zaj n.op=2:=by unfold zaj;rw[if_neg (by omega),if_neg (by omega),if_neg (by omega)]
  rw[hk] at pa pb pc;have ea:wT L (-1) n.a=a:=by rcases pa with⟨_,_,q⟩|⟨q,_,_⟩;exact q;exact absurd q (by decide)
  have eb:wT L (-1) n.b=b:=by rcases pb with⟨_,_,q⟩|⟨q,_,_⟩;exact q;exact absurd q (by decide)
  unfold zbD zbK zcK;rw[ea,eb];rw[if_neg (show ¬ (zaj n.op=0) by omega),if_neg (show ¬ (n.op=5) by omega),if_neg (show ¬ (n.op=6∨n.op=7∨n.op=8) by omega),if_neg (show ¬ (n.op=9) by omega),if_neg (show ¬ (n.op=14) by omega),if_neg (show ¬ (n.op=30) by omega),if_neg (show ¬ (zaj n.op=1) by omega),if_neg (show ¬ (n.op=1∨n.op=2∨(5≤n.op∧n.op≤13)) by omega),if_neg (show ¬ (n.op=3) by omega),if_neg (show ¬ (n.op=4) by omega),if_neg (show ¬ (n.op=14) by omega),if_pos (show 25≤n.op∧n.op≤29 by omega),if_neg (show ¬ n.op≤2 by omega),if_neg (show ¬ n.op=3 by omega),if_neg (show ¬ n.op=4 by omega),if_neg (show ¬ n.op=5 by omega),if_neg (show ¬ n.op≤8 by omega),if_neg (show ¬ n.op=9 by omega),if_neg (show ¬ n.op≤13 by omega),if_neg (show ¬ n.op=14 by omega),if_neg (show ¬ n.op≤16 by omega),if_neg (show ¬ n.op≤24 by omega),if_pos (show n.op≤29 by omega)]
  ac_rfl
 by_cases g30:n.op=30
 ·have hk:zaj n.op=2:=by unfold zaj;rw[if_neg (by omega),if_neg (by omega),if_neg (by omega)]
  rw[hk] at pa pb pc;have ea:wT L (-1) n.a=a:=by rcases pa with⟨_,_,q⟩|⟨q,_,_⟩;exact q;exact absurd q (by decide)
  have eb:wT L (-1) n.b=b:=by rcases pb with⟨_,_,q⟩|⟨q,_,_⟩;exact q;exact absurd q (by decide)
  unfold zbD zbK zcK;rw[ea,eb];rw[if_neg (show ¬ (zaj n.op=0) by omega),if_neg (show ¬ (n.op=5) by omega),if_neg (show ¬ (n.op=6∨n.op=7∨n.op=8) by omega),if_neg (show ¬ (n.op=9) by omega),if_neg (show ¬ (n.op=14) by omega),if_pos (show n.op=30 by omega),if_neg (show ¬ (n.op=1∨n.op=2∨(5≤n.op∧n.op≤13)) by omega),if_neg (show ¬ (n.op=3) by omega),if_neg (show ¬ (n.op=4) by omega),if_neg (show ¬ (n.op=14) by omega),if_neg (show ¬ (25≤n.op∧n.op≤29) by omega),if_pos (show n.op=30 by omega),if_neg (show ¬ n.op≤2 by omega),if_neg (show ¬ n.op=3 by omega),if_neg (show ¬ n.op=4 by omega),if_neg (show ¬ n.op=5 by omega),if_neg (show ¬ n.op≤8 by omega),if_neg (show ¬ n.op=9 by omega),if_neg (show ¬ n.op≤13 by omega),if_neg (show ¬ n.op=14 by omega),if_neg (show ¬ n.op≤16 by omega),if_neg (show ¬ n.op≤24 by omega),if_neg (show ¬ n.op≤29 by omega),if_pos (show n.op=30 by omega)]
  ac_rfl
 by_cases g31:n.op=31
 ·have hk:zaj n.op=1:=by unfold zaj;rw[if_neg (by omega),if_pos (by omega)]
  rw[hk] at pa pb pc;have ea:wT L (-1) n.a=a:=by rcases pa with⟨_,_,q⟩|⟨q,_,_⟩;exact q;exact absurd q (by decide)
  unfold zbD zbK zcK;rw[ea];rw[if_neg (show ¬ (zaj n.op=0) by omega),if_neg (show ¬ (n.op=5) by omega),if_neg (show ¬ (n.op=6∨n.op=7∨n.op=8) by omega),if_neg (show ¬ (n.op=9) by omega),if_neg (show ¬ (n.op=14) by omega),if_neg (show ¬ (n.op=30) by omega),if_pos (show zaj n.op=1 by omega),if_neg (show ¬ (n.op=1∨n.op=2∨(5≤n.op∧n.op≤13)) by omega),if_neg (show ¬ (n.op=3) by omega),if_neg (show ¬ (n.op=4) by omega),if_neg (show ¬ (n.op=14) by omega),if_neg (show ¬ (25≤n.op∧n.op≤29) by omega),if_neg (show ¬ (n.op=30) by omega),if_pos (show n.op=31 by omega),if_neg (show ¬ n.op≤2 by omega),if_neg (show ¬ n.op=3 by omega),if_neg (show ¬ n.op=4 by omega),if_neg (show ¬ n.op=5 by omega),if_neg (show ¬ n.op≤8 by omega),if_neg (show ¬ n.op=9 by omega),if_neg (show ¬ n.op≤13 by omega),if_neg (show ¬ n.op=14 by omega),if_neg (show ¬ n.op≤16 by omega),if_neg (show ¬ n.op≤24 by omega),if_neg (show ¬ n.op≤29 by omega),if_neg (show ¬ n.op=30 by omega),if_pos (show n.op=31 by omega)]
  ac_rfl
 have hk:zaj n.op=1:=by unfold zaj;rw[if_neg (by omega),if_pos (by omega)]
 rw[hk] at pa pb pc;have ea:wT L (-1) n.a=a:=by rcases pa with⟨_,_,q⟩|⟨q,_,_⟩;exact q;exact absurd q (by decide)
 unfold zbD zbK zcK;rw[ea];rw[if_neg (show ¬ (zaj n.op=0) by omega),if_neg (show ¬ (n.op=5) by omega),if_neg (show ¬ (n.op=6∨n.op=7∨n.op=8) by omega),if_neg (show ¬ (n.op=9) by omega),if_neg (show ¬ (n.op=14) by omega),if_neg (show ¬ (n.op=30) by omega),if_pos (show zaj n.op=1 by omega),if_neg (show ¬ (n.op=1∨n.op=2∨(5≤n.op∧n.op≤13)) by omega),if_neg (show ¬ (n.op=3) by omega),if_neg (show ¬ (n.op=4) by omega),if_neg (show ¬ (n.op=14) by omega),if_neg (show ¬ (25≤n.op∧n.op≤29) by omega),if_neg (show ¬ (n.op=30) by omega),if_neg (show ¬ (n.op=31) by omega),if_pos (show n.op=32∨n.op=33 by omega),if_neg (show ¬ n.op≤2 by omega),if_neg (show ¬ n.op=3 by omega),if_neg (show ¬ n.op=4 by omega),if_neg (show ¬ n.op=5 by omega),if_neg (show ¬ n.op≤8 by omega),if_neg (show ¬ n.op=9 by omega),if_neg (show ¬ n.op≤13 by omega),if_neg (show ¬ n.op=14 by omega),if_neg (show ¬ n.op≤16 by omega),if_neg (show ¬ n.op≤24 by omega),if_neg (show ¬ n.op≤29 by omega),if_neg (show ¬ n.op=30 by omega),if_neg (show ¬ n.op=31 by omega)]
theorem shape_iff {n:Nd} (ho:1≤n.op∧n.op≤33) (h4:n.op≠4) (hw:0≤n.w∧n.w≤64) (hnum:0≤n.num∧n.num<18446744073709551616) (hnm:zlR n=false) {L:List Nd} {K:List (ByteArray × Int)} {a b c:Int} (hp:Parted L n a b c):zcD L K n=0↔zhY n a b c=true:=by
 rw[zi9];have hc:=checks ho h4 hw hnum hp;have pa:=hp.a;have pb:=hp.b;have pc:=hp.c;have hsp:zej (zaj n.op) n=decide (n.num≠0∧n.op≠3∧n.op≠31):=by
  unfold zej;rw[hnm,Bool.false_and,Bool.or_false];have e1:(decide (zaj n.op<1)&&decide (n.a≠0))=false:=by
   rcases pa with⟨q,_,_⟩|⟨_,q,_⟩
   ·rw[decide_eq_false (by omega)];rfl
   ·rw[q];simp
  have e2:(decide (zaj n.op<2)&&decide (n.b≠0))=false:=by
   rcases pb with⟨q,_,_⟩|⟨_,q,_⟩
   ·rw[decide_eq_false (by omega)];rfl
   ·rw[q];simp
  have e3:(decide (zaj n.op<3)&&decide (n.c≠0))=false:=by
   rcases pc with⟨q,_,_⟩|⟨_,q,_⟩
   ·rw[decide_eq_false (by omega)];rfl
   ·rw[q];simp
  rw[e1,e2,e3];simp only[Bool.false_or];by_cases q1:n.num≠0<;>by_cases q2:n.op≠3<;>by_cases q3:n.op≠31<;>simp[q1,q2,q3]
 have hpt:zbn L n=false:=by
  unfold zbn;have e1:(decide (zaj n.op≥1)&&!isT L n.a)=false:=by
   rcases pa with⟨_,q,_⟩|⟨q,_,_⟩
   ·rw[q];simp
   ·rw[decide_eq_false (by omega)];rfl
  have e2:(decide (zaj n.op≥2)&&!isT L n.b)=false:=by
   rcases pb with⟨_,q,_⟩|⟨q,_,_⟩
   ·rw[q];simp
   ·rw[decide_eq_false (by omega)];rfl
  have e3:(decide (zaj n.op≥3)&&!isT L n.c)=false:=by
   rcases pc with⟨_,q,_⟩|⟨q,_,_⟩
   ·rw[q];simp
   ·rw[decide_eq_false (by omega)];rfl
  rw[e1,e2,e3];rfl
 unfold zhY;by_cases hq:n.num≠0∧n.op≠3∧n.op≠31
 ·rw[if_pos hq];rw[decide_eq_true hq] at hsp;exact⟨fun h=>absurd hsp h.sp,fun h=>absurd h (by decide)⟩
 ·rw[if_neg hq,←hc];rw[decide_eq_false hq] at hsp;constructor
  ·intro h;have h1:=h.so;have h2:=h.wi;rw[Bool.not_eq_false] at h1 h2;rw[h1,h2];rfl
  ·intro h;rw[Bool.and_eq_true] at h;exact⟨by omega,by omega,by rw[hpt];decide,by rw[hsp];decide,by rw[h.1];decide,by rw[h.2];decide,fun q=>h4 q.1⟩
end Go.AM.N14
namespace Go.AM.N14
open Go Go.AM
def lv (i:Nat):List Value:=[.int .i64 (if 0<i then 1 else 0),.int .i64 (if 1<i then 2 else 0),.int .i64 (if 2<i then 3 else 0)]
end Go.AM.N14
namespace Go.AM.N14
open Go Go.AM
end Go.AM.N14
namespace Go.AM.N14
open Go Go.AM
theorem vok_of {n:Nd} (ho:1≤n.op∧n.op≤33) (h4:n.op≠4) (hw:0≤n.w∧n.w≤64) (hnum:0≤n.num∧n.num<18446744073709551616) {wa wb:Nat} {c:Int} (hwa:wa≤64) (hwb:wb≤64) {a b:W64}
  (ha:wa=0→a.toNat≤1) (hb:wb=0→b.toNat≤1) (hs:zhY n (wa:Int) (wb:Int) c=true):Vok n wa wb a b:=by
 have hB:zcK n (wa:Int) (wb:Int) c=true:=by
  unfold zhY at hs;split at hs
  ·cases hs
  ·exact hs
 unfold zcK at hB;refine⟨⟨ho.1,ho.2,h4⟩,hnum,fun q1 q2=>?_,fun q1 q2=>?_,fun q1 q2=>?_,fun q1 q2=>?_,fun q1=>?_,fun q1=>?_,fun q1=>?_⟩
 ·rw[if_neg (by omega),if_neg (by omega),if_neg (by omega),if_neg (by omega),if_pos q2] at hB;simp only[Bool.and_eq_true,decide_eq_true_eq] at hB;exact⟨ha (by omega),hb (by omega)⟩
 ·rw[if_neg (by omega),if_neg (by omega),if_neg (by omega),if_neg (by omega),if_neg (by omega),if_neg (by omega),if_pos q2] at hB;simp only[Bool.and_eq_true,decide_eq_true_eq] at hB;omega
 ·rw[if_neg (by omega),if_neg (by omega),if_neg (by omega),if_neg (by omega),if_neg (by omega),if_neg (by omega),if_neg (by omega),if_neg (by omega)] at hB;by_cases g1:n.op≤16
  ·rw[if_pos g1] at hB;simp only[Bool.and_eq_true,decide_eq_true_eq] at hB;omega
  rw[if_neg g1] at hB;by_cases g2:n.op≤24
  ·rw[if_pos g2] at hB;simp only[Bool.and_eq_true,decide_eq_true_eq] at hB;omega
  rw[if_neg g2,if_pos q2] at hB;simp only[Bool.and_eq_true,decide_eq_true_eq] at hB;omega
 ·rw[if_neg (by omega),if_neg (by omega),if_neg (by omega),if_neg (by omega),if_neg (by omega),if_neg (by omega),if_neg (by omega),if_neg (by omega),if_neg (by omega),if_neg (by omega),if_pos q2] at hB;simp only[Bool.and_eq_true,decide_eq_true_eq] at hB;exact hB.2.2.2
 ·rw[if_neg (by omega),if_neg (by omega),if_neg (by omega),if_neg (by omega),if_neg (by omega),if_neg (by omega),if_neg (by omega),if_neg (by omega),if_neg (by omega),if_neg (by omega),if_neg (by omega),if_pos q1] at hB;simp only[Bool.and_eq_true,decide_eq_true_eq] at hB;omega
 ·rw[if_neg (by omega),if_neg (by omega),if_neg (by omega),if_neg (by omega),if_neg (by omega),if_neg (by omega),if_neg (by omega),if_neg (by omega),if_neg (by omega),if_neg (by omega),if_neg (by omega),if_neg (by omega),if_pos q1] at hB;simp only[Bool.and_eq_true,decide_eq_true_eq] at hB;omega
 ·rw[if_neg (by omega),if_neg (by omega),if_neg (by omega),if_neg (by omega),if_neg (by omega),if_neg (by omega),if_neg (by omega),if_neg (by omega),if_neg (by omega),if_neg (by omega),if_neg (by omega),if_neg (by omega),if_neg (by omega)] at hB;simp only[Bool.and_eq_true,decide_eq_true_eq] at hB;omega
end Go.AM.N14
namespace Go.AM
open Go
def mapU (A:List (Int × Int)):List (Value × Value):=A.map fun x=>(.int .i64 x.1,.int .u64 x.2)
def MapU (H:Hp) (m:Nat) (F:Int→Int):Prop:=∃ A,H.get m=some (.map (mapU A))∧∀ t,F t=((lkI t 0 A).map Prod.snd).getD 0
theorem findU {P:Program} {kt:TypeId} (hk:zki P kt) (t:Int):∀ (A:List (Int × Int)) (i:Nat),zff P kt (.int .i64 t) (mapU A) i=some ((lkI t i A).map fun q=>(q.1,.int .u64 q.2))
 |[],i=>rfl
 |(u,w) :: r,i=>by
  show (match eqT P 10000 kt (.int .i64 t) (.int .i64 u) with|some true=>some (some (i,Value.int .u64 w))|some false=>zff P kt (.int .i64 t) (mapU r) (i+1)|none=>none)=_;rw[hk.eq];unfold lkI;by_cases h:t=u
  ·rw[if_pos h,show (t==u)=true by simpa using h];rfl
  ·rw[if_neg h,show (t==u)=false by simpa using h];exact findU hk t r (i+1)
theorem MapU.look {P:Program} {kt:TypeId} (hk:zki P kt) {H:Hp} {m:Nat} {F:Int→Int} (h:MapU H m F) (t:Int) {α:Type} (k:Value→Option α):zbB P kt (.int .u64 0) (.map (some m)) (.int .i64 t) false H k=k (.int .u64 (F t)):=by obtain⟨A,h1,h2⟩:=h;unfold zbB lookV;rw[hk.sh,h2 t];simp only[if_true,zn6,h1,findU hk];cases lkI t 0 A<;>rfl
theorem MapU.upd {P:Program} {kt:TypeId} (hk:zki P kt) {H:Hp} {m:Nat} {F:Int→Int} (h:MapU H m F) (key v:Int) :
  ∃ H',(∀ (α:Type) (k:Hp→Option α),pUpd P kt (.map (some m)) (.int .i64 key) (.int .u64 v) H k=k H')∧MapU H' m (fun t=>if t=key then v else F t)∧(∀ j,j≠m→H'.get j=H.get j)∧H'.next=H.next:=by
 obtain⟨A,h1,h2⟩:=h;cases hq:lkI key 0 A with
 |none=>
  refine⟨H.set m (some (.map (mapU (A++[(key,v)])))),fun α k=>?_,⟨A++[(key,v)],by rw[get_set,if_pos rfl],fun t=>?_⟩,fun j hj=>by rw[get_set,if_neg hj],rfl⟩
  ·have:updV P kt (.map (some m)) (.int .i64 key) (.int .u64 v) H=some (H.set m (some (.map (mapU (A++[(key,v)]))))):=by unfold updV;rw[hk.sh];simp only[if_true,h1,findU hk,hq,Option.map_none];rw[show mapU (A++[(key,v)])=mapU A++[(Value.int .i64 key,Value.int .u64 v)] by simp[mapU]]
   unfold pUpd;rw[this]
  ·rw[zoc t key v A 0 hq];dsimp only;split
   ·rfl
   ·rw[h2 t]
 |some q=>
  obtain⟨j,w⟩:=q;obtain⟨_,hg⟩:=zlT key A 0 j w hq;rw[Nat.sub_zero] at hg;refine⟨H.set m (some (.map (mapU (A.set j (key,v))))),fun α k=>?_,⟨A.set j (key,v),by rw[get_set,if_pos rfl],fun t=>?_⟩,fun j hj=>by rw[get_set,if_neg hj],rfl⟩
  ·have hk1:(mapU A)[j]?=some (.int .i64 key,.int .u64 w):=by unfold mapU;rw[List.getElem?_map,hg];rfl
   have hsb:Instr.sameBits 10000 (.int .i64 key) (.int .i64 key)=true:=by simp[Instr.sameBits]
   have:updV P kt (.map (some m)) (.int .i64 key) (.int .u64 v) H=some (H.set m (some (.map (mapU (A.set j (key,v)))))):=by unfold updV;rw[hk.sh];simp only[if_true,h1,findU hk,hq,Option.map_some,hk1,hsb];rw[show mapU (A.set j (key,v))=zir (mapU A) j (.int .i64 key) (.int .u64 v) by unfold zir mapU;rw[List.map_set]]
   unfold pUpd;rw[this]
  ·have:=zob t key v A 0 j w hq;rw[Nat.sub_zero] at this;rw[this];dsimp only;split
   ·rfl
   ·rw[h2 t]
theorem MapU.new (H:Hp):MapU (H.new (.map [])) H.next (fun _=>0):=⟨[],by rw[get_new,if_pos rfl];rfl,fun t=>rfl⟩
theorem MapU.keep {H H':Hp} {m:Nat} {F:Int→Int} (h:MapU H m F) (hg:H'.get m=H.get m):MapU H' m F:=by obtain⟨A,h1,h2⟩:=h;exact⟨A,by rw[hg];exact h1,h2⟩
end Go.AM
namespace Go.AM.N14
open Go Go.AM
end Go.AM.N14
namespace Go.AM.N14
open Go Go.AM
theorem ikV:zki PP T.int:=⟨fun a b=>by kernel_rfl,fun a=>by kernel_rfl⟩
structure VS (B H:Hp) (m1 m2:Nat) (V W:Int→Int):Prop where
 next:B.next≤H.next
 old:∀ j,j<B.next→H.get j=B.get j
 l1:B.next≤m1
 l2:B.next≤m2
 ne:m1≠m2
 n1:m1<H.next
 f1:MapU H m1 V
 f2:MapF H m2 W
theorem VS.up1 {B H:Hp} {m1 m2:Nat} {V W:Int→Int} (h:VS B H m1 m2 V W) (key v:Int):∃ H',(∀ (α:Type) (k:Hp→Option α),pUpd PP T.int (.map (some m1)) (.int .i64 key) (.int .u64 v) H k=k H')∧VS B H' m1 m2 (fun t=>if t=key then v else V t) W:=by obtain⟨H',e1,e2,e3,e4⟩:=h.f1.upd ikV key v;have a:=h.l1;exact⟨H',e1,⟨by rw[e4];exact h.next,fun j hj=>by rw[e3 j (by omega),h.old j hj],h.l1,h.l2,h.ne,by rw[e4];exact h.n1,e2,h.f2.keep (e3 m2 (Ne.symm h.ne))⟩⟩
theorem VS.up2 {B H:Hp} {m1 m2:Nat} {V W:Int→Int} (h:VS B H m1 m2 V W) (key v:Int):∃ H',(∀ (α:Type) (k:Hp→Option α),pUpd PP T.int (.map (some m2)) (.int .i64 key) (.int .i64 v) H k=k H')∧VS B H' m1 m2 V (fun t=>if t=key then v else W t):=by obtain⟨H',e1,e2,e3,e4⟩:=h.f2.upd ikV key v;have a:=h.l2;exact⟨H',e1,⟨by rw[e4];exact h.next,fun j hj=>by rw[e3 j (by omega),h.old j hj],h.l1,h.l2,h.ne,by rw[e4];exact h.n1,h.f1.keep (e3 m1 h.ne),e2⟩⟩
theorem step_val {B:Hp} {p f g:Nat} {lim:Int} {L:List Nd} {K:List (ByteArray × Int)} {sl:Value} (hst:StF B p lim L K sl f g) (hL:(L.length:Int)≤4611686018427387904) {v:Value} {out:List Nat} (hv:Rdb B 1 v out.length (ints out)) (hol:out.length≤2^41)
  {i t:Nat} (hi:out[i]?=some t) (ht:1≤t∧t≤L.length) {n:Nd} (hn:L[t-1]?=some n) {H:Hp} {m1 m2:Nat} {V W:Int→Int} (h:VS B H m1 m2 V W) {wa wb:Nat} {a b c:W64} (hok:Vok n wa wb a b)
  (hwa:(if n.a=(t:Int) then n.w else W n.a)=(wa:Int)) (hwb:(if n.b=(t:Int) then n.w else W n.b)=(wb:Int)) (hva:V n.a=(a.toNat:Int)) (hvb:V n.b=(b.toNat:Int)) (hvc:V n.c=(c.toNat:Int)) (v11:Value) :
  ∃ H',zaK RR (.pointer (some ⟨p,0,none⟩)) v v11 (.map (some m1)) (.map (some m2)) (.int .i64 (out.length:Int)) [.int .i64 (i:Int)] H=some (.next,[.int .i64 ((i+1:Nat):Int)],H') ∧
   VS B H' m1 m2 (fun x=>if x=(t:Int) then ((valW n wa wb a b c).toNat:Int) else V x) (fun x=>if x=(t:Int) then n.w else W x):=by
 have hlt:i<out.length:=(List.getElem?_eq_some_iff.1 hi).1;have hvH:Rdb H 1 v out.length (ints out):=hv.keep' (fun j hj=>h.old j (hv.lt hj)) h.next;have hvI:Rdb H 1 v (out.map fun (t:Nat)=>(t:Int)).length (zbz (out.map fun (t:Nat)=>(t:Int))):=by rw[List.length_map,←zbN];exact hvH
 obtain⟨y,x1,x2⟩:=hvI.int (i:=i) (t:=(t:Int)) (by rw[List.getElem?_map,hi];rfl);have q:(i:Int)<(out.length:Int):=by omega
 have w1:IntKind.i64.wrap ((i:Int)+1)=((i+1:Nat):Int):=zax (by omega) (by omega);have hstH:StF H p lim L K sl f g:=hst.keep (fun i hi=>h.old i (hst.foot_lt hi)) h.next;have hT:isT L (t:Int)=true:=zbo.2 ⟨by omega,by omega⟩;have hnode:zfm L (t:Int)=n:=by unfold zfm;rw[hT,if_pos rfl,show ((t:Int)-1).toNat=t-1 by omega,hn];rfl
 have e10:=Go.AM.c10 hstH.st hL (t:Int);rw[hnode,hT,if_pos rfl] at e10;obtain⟨H1,u2,h1⟩:=h.up2 (t:Int) n.w;have hnd:=p_node hok c H1;obtain⟨H2,u1,h2⟩:=h1.up1 (t:Int) ((valW n wa wb a b c).toNat:Int);have d4:decide (n.op≠4)=true:=decide_eq_true hok.op.2.2;have lv:∀ (x:Int) (f:Value→Option Outc),zbB PP T.int (.int .u64 0) (.map (some m1)) (.int .i64 x) false H1 f=f (.int .u64 (V x)):=fun x f=>h1.f1.look ikV x f;have lw:∀ (x:Int) (f:Value→Option Outc),zbB PP T.int (.int .i64 0) (.map (some m2)) (.int .i64 x) false H1 f=f (.int .i64 (if x=(t:Int) then n.w else W x)):=fun x f=>h1.f2.look ikV x f;have va:Value.int .u64 (V n.a)=wv a:=by rw[hva];rfl
 have vb:Value.int .u64 (V n.b)=wv b:=by rw[hvb];rfl
 have vc:Value.int .u64 (V n.c)=wv c:=by rw[hvc];rfl
 have u1':∀ (k:Hp→Option Outc),pUpd PP T.int (.map (some m1)) (.int .i64 (t:Int)) (wv (valW n wa wb a b c)) H1 k=k H2:=fun k=>u1 _ k;refine⟨H2,?_,h2⟩;unfold zaK;simp only[qg0];rw[lT q,x1,x2,zah e10,x01,spl7,zkQ,u2,zjC,za8,zac,d4,zaX,zpa,zhh,lv,va,zhg,lv,vb,zia,lv,vc,zhh,lw,hwa,zhg,lw,hwb,zah hnd,u1',zaQ,w1]
end Go.AM.N14
namespace Go.AM.N14
open Go Go.AM
theorem wT_nn {L:List Nd} (h:∀ m∈L,0≤m.w∧m.w≤64) (t:Int):0≤wT L 0 t:=by
 unfold wT;split
 ·cases q:L[(t-1).toNat]? with
  |none=>exact Int.le_refl _
  |some m=>exact(h m (List.mem_of_getElem? q)).1
 ·exact Int.le_refl _
theorem wT_at {L:List Nd} {t:Nat} (ht:1≤t∧t≤L.length) {n:Nd} (hn:L[t-1]?=some n) (d:Int):wT L d (t:Int)=n.w:=by unfold wT;rw[zbo.2 ⟨by omega,by omega⟩,if_pos rfl,show ((t:Int)-1).toNat=t-1 by omega,hn];rfl
theorem wT_0 (L:List Nd):wT L 0 0=0:=rfl
section
end
end Go.AM.N14
namespace Go.AM.N14
open Go Go.AM
theorem wT_is {L:List Nd} {x:Int} (h:1≤x∧x≤L.length):wT L (-1) x=wT L 0 x:=by unfold wT;rw[zbo.2 h,if_pos rfl,if_pos rfl];have:L[(x-1).toNat]?=some (L[(x-1).toNat]'(by omega)):=List.getElem?_eq_getElem (by omega);rw[this];rfl
theorem zoJ {L:List Nd} {K:List (ByteArray × Int)} (hg:zhy L K) {n:Nd} (hn:n∈L) (h4:n.op≠4):zhY n (wT L 0 n.a) (wT L 0 n.b) (wT L 0 n.c)=true:=by
 have hr:=hg.rt n hn;have ho:1≤n.op∧n.op≤33:=by have:¬ (n.op<1∨n.op>33):=hr.op;omega
 have hw:0≤n.w∧n.w≤64:=by have:¬ (n.w<0∨n.w>64):=hr.w;omega
 obtain⟨pa,pa0,pb,pb0,pc,pc0,_,ps⟩:=nd_parts hr;have hnm:zlR n=false:=by unfold zlR;rw[ps h4];show (!((⟨#[]⟩:ByteArray).toList==(⟨#[]⟩:ByteArray).toList))=false;rw[beq_self_eq_true];rfl
 have one:∀ (k:Int) (x:Int),(zaj n.op≥k→1≤x∧x≤L.length)→(zaj n.op<k→x=0)→(zaj n.op≥k∧isT L x=true∧wT L (-1) x=wT L 0 x)∨(zaj n.op<k∧x=0∧wT L 0 x=0):=fun k x h1 h2=>by
  by_cases q:zaj n.op≥k
  ·exact .inl ⟨q,zbo.2 (h1 q),wT_is (h1 q)⟩
  ·have:=h2 (by omega);exact .inr ⟨by omega,this,by rw[this];rfl⟩
 exact(shape_iff ho h4 hw (hg.num n hn) hnm ⟨one 1 n.a pa pa0,one 2 n.b pb pb0,one 3 n.c pc pc0⟩).1 (zi9.2 hr)
end Go.AM.N14
namespace Go.AM.N14
open Go Go.AM
def wvs (l:List W64):List Value:=l.map wv
theorem Vec.cap (H:Hp) {sz bytes:Nat} {zs:List Value} (hz:zs.length=sz) (h1:zs.all one=true) {n:Nat} (hb:n*bytes≤2^47) :
  ∃ v H',(∀ (α:Type) (k:Value→Hp→Option α),za0 sz bytes zs (.int .i64 0) (.int .i64 (n:Int)) H k=k v H')∧Vec H' sz v 0 []∧Frm (fun _=>False) H H'∧(∀ j,Id v j→H.next≤j):=by
 have ra:∀ n,(repl n zs).all one=true:=fun n=>by
  induction n with
  |zero=>rfl
  |succ n ih=>show (zs++repl n zs).all one=true;rw[List.all_append,h1,ih];rfl
 refine⟨.slice (some ⟨H.next,0,some sz⟩) 0 n,H.new (.cells (repl n zs) true),fun α k=>?_,.inr ⟨H.next,n,repl n zs,rfl,Nat.zero_le _,?_,by simp,by rw[zf1,hz];rfl,by show H.next<H.next+1;omega,ra n⟩,zcA _ _ _,fun j hj=>by cases hj;exact Nat.le_refl _⟩
 ·have e:((2:Int)^47)=((2^47:Nat):Int):=by rfl
  have hb':(n:Int)*(bytes:Int)≤2^47:=by rw[e,←Int.natCast_mul];exact Int.ofNat_le.2 hb
  have:zco sz bytes zs (.int .i64 0) (.int .i64 (n:Int)) H=some (.slice (some ⟨H.next,0,some sz⟩) 0 n,H.new (.cells (repl n zs) true)):=by unfold zco;dsimp only;rw[if_pos ⟨by omega,by omega,hb'⟩];rfl
  unfold za0;rw[this]
 ·rw[get_new,if_pos rfl];rfl
structure Made (B H:Hp) (v:Value) (n:Nat) (cs:List Value):Prop where
 next:B.next≤H.next
 old:∀ j,j<B.next→H.get j=B.get j
 vec:Vec H 1 v n cs
 new:∀ j,Id v j→B.next≤j
theorem Made.push {B H:Hp} {v:Value} {n:Nat} {cs:List Value} (h:Made B H v n cs) (x:W64) (hb:(n+1)*8≤2^47) :
  ∃ v' H',(∀ (α:Type) (k:Value→Hp→Option α),(zak 1 [.int .u64 0] 1 [(0,wv x)] H fun t H1=>zaB 1 8 v t H1 k)=k v' H')∧Made B H' v' (n+1) (cs++[wv x]):=by
 obtain⟨v',H',e1,e2,e3,e4,_⟩:=h.vec.push (bytes:=8) (zs:=[.int .u64 0]) (x:=wv x) (by decide) (by decide) rfl rfl rfl hb;have hn:=h.next;refine⟨v',H',e1,Nat.le_trans h.next e3.next,fun j hj=>?_,e2,fun j hj=>?_⟩
 ·rw[e3.same j (by omega) (fun q=>by have:=h.new j q;omega),h.old j hj]
 ·rcases e4 j hj with q|q
  ·exact h.new j q
  ·omega
section
variable {B:Hp} {x:Value} {ns:List Nat} (hx:Rdb B 1 x ns.length (ints ns)) (hl:ns.length≤2^40) {vf:Nat→W64} {m1:Nat} {V:Int→Int} (hm:MapU B m1 V) (hml:m1<B.next) (hV:∀ t∈ns,V (t:Int)=((vf t).toNat:Int))
include hx hl hm hml hV
theorem zoE:∀ (k i:Nat) (H:Hp) (v:Value),i+k=ns.length→Made B H v i (wvs ((ns.take i).map vf)) →
  ∃ H' v',zas (zbE RR x (.map (some m1)) (.int .i64 (ns.length:Int))) [v,.int .i64 (i:Int)] H=some (.exit 2,[v',.int .i64 (ns.length:Int)],H')∧Made B H' v' ns.length (wvs (ns.map vf))
 |0,i,H,v,hk,h=>by
  have:i=ns.length:=by omega
  subst this;rw[List.take_length] at h;refine⟨H,v,?_,h⟩;rw[zai];have:zbE RR x (.map (some m1)) (.int .i64 (ns.length:Int)) [v,.int .i64 (ns.length:Int)] H=some (.exit 2,[v,.int .i64 (ns.length:Int)],H):=by unfold zbE;simp only[qg0,qg1];rw[lF (Int.lt_irrefl _)]
  rw[this];rfl
 |k+1,i,H,v,hk,h=>by
  have hlt:i<ns.length:=by omega
  have hi:ns[i]?=some ns[i]:=List.getElem?_eq_getElem hlt;generalize ns[i]=t at hi;have hxH:Rdb H 1 x ns.length (ints ns):=hx.keep' (fun j hj=>h.old j (hx.lt hj)) h.next;have hxI:Rdb H 1 x (ns.map fun (t:Nat)=>(t:Int)).length (zbz (ns.map fun (t:Nat)=>(t:Int))):=by rw[List.length_map,←zbN];exact hxH
  obtain⟨y,x1,x2⟩:=hxI.int (i:=i) (t:=(t:Int)) (by rw[List.getElem?_map,hi];rfl);have hmH:MapU H m1 V:=hm.keep (h.old m1 hml);have lv:∀ (f:Value→Option Outc),zbB PP T.int (.int .u64 0) (.map (some m1)) (.int .i64 (t:Int)) false H f=f (wv (vf t)):=fun f=>by rw[hmH.look ikV,hV t (List.mem_of_getElem? hi)];rfl
  have q:(i:Int)<(ns.length:Int):=by omega
  have w1:IntKind.i64.wrap ((i:Int)+1)=((i+1:Nat):Int):=zax (by omega) (by omega);obtain⟨v1,H1,p1,p2⟩:=h.push (vf t) (by omega);have hcs:wvs ((ns.take i).map vf)++[wv (vf t)]=wvs ((ns.take (i+1)).map vf):=by rw[List.take_add_one,hi];simp[wvs]
  rw[hcs] at p2;obtain⟨H',v',g1,g2⟩:=zoE k (i+1) H1 v1 (by omega) p2;refine⟨H',v',?_,g2⟩;rw[zai];have:zbE RR x (.map (some m1)) (.int .i64 (ns.length:Int)) [v,.int .i64 (i:Int)] H=some (.next,[v1,.int .i64 ((i+1:Nat):Int)],H1):=by unfold zbE;simp only[qg0,qg1];rw[lT q,x1,x2,lv,p1,zaQ,w1]
  rw[this];exact g1
end
theorem zkA {α:Type} {P:Program} (T:TypeId) (a:Addr) (hT:∃ t,P.underlying T=some (.pointer t)) (k:Value→Option α):pBin P .eql T (.pointer (some a)) (.pointer none) k=k (.bool false):=by
 obtain⟨t,ht⟩:=hT;have:eqT P Op.maxDepth T (.pointer (some a)) (.pointer none)=some false:=by unfold Op.maxDepth;simp only[eqT,ht]
 simp only[pBin,binV,eqOp,this]
section
end
end Go.AM.N14
namespace Go.AM.N14
open Go Go.AM
structure Wd (x:Fct):Prop where
 w:0≤x.w∧x.w≤64
 l:x.least.toNat≤(msk (wd x.w)).toNat
end Go.AM.N14
namespace Go.AM.N14
open Go Go.AM
end Go.AM.N14
namespace Go.AM.N14
open Go Go.AM
theorem and_le {n:Nat} (hn:n≤64) {x y:W64} (hx:x.toNat≤(msk n).toNat):(x&&&y).toNat≤(msk n).toNat:=(zbJ hn).2 fun j hj=>by rw[BitVec.getLsbD_and,(zbJ hn).1 hx j hj,Bool.false_and]
theorem or_le {n:Nat} (hn:n≤64) {x y:W64} (hx:x.toNat≤(msk n).toNat) (hy:y.toNat≤(msk n).toNat):(x|||y).toNat≤(msk n).toNat:=(zbJ hn).2 fun j hj=>by rw[BitVec.getLsbD_or,(zbJ hn).1 hx j hj,(zbJ hn).1 hy j hj,Bool.false_or]
theorem zero_le (n:Nat):(0#64).toNat≤(msk n).toNat:=Nat.zero_le _
theorem cat_le {n k m:Nat} (hm:m≤64) (hk:n+k≤m) {x y:W64} (hx:x.toNat≤(msk n).toNat) (hy:y.toNat≤(msk k).toNat):(x <<< k|||y).toNat≤(msk m).toNat:=(zbJ hm).2 fun j hj=>by rw[BitVec.getLsbD_or,BitVec.getLsbD_shiftLeft,(zbJ (by omega)).1 hx (j-k) (by omega),(zbJ (by omega)).1 hy j (by omega)];simp
theorem msk_up {n m:Nat} (hm:m≤64) (h:n≤m) {x:W64} (hx:x.toNat≤(msk n).toNat):x.toNat≤(msk m).toNat:=(zbJ hm).2 fun j hj=>(zbJ (by omega)).1 hx j (by omega)
section
end
end Go.AM.N14
namespace Go.AM.N14
open Go Go.AM
end Go.AM.N14
namespace Go.AM.N14
open Go Go.AM
end Go.AM.N14
namespace Go.AM.N14
open Go Go.AM
end Go.AM.N14
namespace Go.AM.N14
open Go Go.AM
end Go.AM.N14
namespace Go.AM.N14
open Go Go.AM
theorem movW_is {op:Int} (hop:25≤op∧op≤29) {n k:Nat} (h0:1≤n) (hn:n≤64) (hk:k<n) {x:W64} (hx:x.toNat≤(msk n).toNat):ziy op n x k (movW op n x k):=by obtain⟨v,h1,_⟩:=p_moved hop h0 hn hk hx ⟨0,fun _=>none,fun _=>none⟩;rw[movW_eq h1];exact h1
section
end
end Go.AM.N14
namespace Go.AM.N14
open Go Go.AM
section
end
end Go.AM.N14
namespace Go.AM.N14
open Go Go.AM
section
end
end Go.AM.N14
namespace Go.AM.N14
open Go Go.AM
section
end
theorem sorts_of {n:Nd} {a b c:Int} (hs:zhY n a b c=true):zcK n a b c=true:=by
 unfold zhY at hs;split at hs
 ·cases hs
 ·exact hs
section
end
end Go.AM.N14
namespace Go.AM.N14
open Go Go.AM
theorem b2w_le (c:Bool) (n:Nat) (h:1≤n) (hn:n≤64):(b2w c).toNat≤(msk n).toNat:=by
 rw[zlS _ hn];have:2^1≤2^n:=Nat.pow_le_pow_right (by decide) h;cases c
 ·exact Nat.zero_le _
 ·show 1≤_;omega
theorem bin_le {op:Int} (hop:17≤op∧op≤29) {n:Nat} (h0:1≤n) (hn:n≤64) (x y:W64):(binW op n x y).toNat≤(msk n).toNat:=by
 have hX:=zer hn x;have hY:=zer hn y;unfold binW;dsimp only;split
 ·exact and_le hn hX
 split
 ·exact or_le hn hX hY
 split
 ·exact(zbJ hn).2 fun j hj=>by rw[BitVec.getLsbD_xor,(zbJ hn).1 hX j hj,(zbJ hn).1 hY j hj];rfl
 split
 ·exact zer hn _
 split
 ·exact zer hn _
 split
 ·exact zer hn _
 split
 ·split
  ·exact Nat.le_refl _
  ·rw[BitVec.toNat_udiv];exact Nat.le_trans (Nat.div_le_self _ _) hX
 split
 ·split
  ·exact hX
  ·rw[BitVec.toNat_umod];exact Nat.le_trans (Nat.mod_le _ _) hX
 ·have hm:=movW_is (op:=op) (by omega) h0 hn (Nat.mod_lt (y&&&msk n).toNat (show n>0 by omega)) hX;exact(zbJ hn).2 fun j hj=>by rw[hm j,decide_eq_false (by omega),Bool.false_and]
theorem val_le {n:Nd} (ho:1≤n.op∧n.op≤33) (h4:n.op≠4) (hw:0≤n.w∧n.w≤64) (hnum:0≤n.num∧n.num<18446744073709551616) {x y z:Fct} (hx:Wd x) (hy:Wd y) (hz:Wd z) (hs:zhY n x.w y.w z.w=true) :
  (valW n x.w.toNat y.w.toNat x.least y.least z.least).toNat≤(msk (wd n.w)).toNat:=by
 have hB:=sorts_of hs;have hn:=wd_le hw.2;have hp:=wd_pos n.w;have m1:(msk 1).toNat=1:=rfl;have one:∀ c:Bool,(b2w c).toNat≤(msk (wd n.w)).toNat:=fun c=>b2w_le c _ hp hn;unfold zcK at hB;unfold valW;by_cases h1:n.op=1
 ·rw[if_pos h1];exact one true
 rw[if_neg h1];by_cases h2:n.op=2
 ·rw[if_pos h2];exact zero_le _
 rw[if_neg h2];by_cases h3:n.op=3
 ·rw[if_pos h3];rw[if_neg (by omega),if_pos h3] at hB;simp only[Bool.and_eq_true,decide_eq_true_eq] at hB;rw[BitVec.toNat_ofInt];have:=hB.2;omega
 rw[if_neg h3];by_cases h5:n.op=5
 ·rw[if_pos h5];rw[if_neg (by omega),if_neg (by omega),if_neg (by omega),if_pos h5] at hB;simp only[Bool.and_eq_true,decide_eq_true_eq] at hB;have hl:=hx.l;rw[hB.2] at hl;rcases tr01 (a:=x.least) hl with e|e<;>rw[e]
  ·exact one true
  ·exact zero_le _
 rw[if_neg h5];by_cases h8:n.op≤8
 ·rw[if_neg (by omega),if_neg (by omega),if_neg (by omega),if_neg (by omega),if_pos h8] at hB;simp only[Bool.and_eq_true,decide_eq_true_eq] at hB;have lx:=hx.l;have ly:=hy.l;rw[hB.2.1,←hB.1] at lx;rw[hB.2.2,←hB.1] at ly;by_cases h6:n.op=6
  ·rw[if_pos h6];exact and_le hn lx
  rw[if_neg h6];by_cases h7:n.op=7
  ·rw[if_pos h7];exact or_le hn lx ly
  rw[if_neg h7,if_pos (by omega)];exact(zbJ hn).2 fun j hj=>by rw[BitVec.getLsbD_xor,(zbJ hn).1 lx j hj,(zbJ hn).1 ly j hj];rfl
 rw[if_neg (by omega),if_neg (by omega),if_neg (by omega)];rw[if_neg (by omega),if_neg (by omega),if_neg (by omega),if_neg (by omega),if_neg (by omega)] at hB;by_cases h9:n.op=9
 ·rw[if_pos h9];exact one _
 rw[if_neg h9];rw[if_neg h9] at hB;by_cases h13:n.op≤13
 ·rw[if_pos h13];exact one _
 rw[if_neg h13];rw[if_neg h13] at hB;by_cases h14:n.op=14
 ·rw[if_pos h14];rw[if_pos h14] at hB;simp only[Bool.and_eq_true,decide_eq_true_eq] at hB;split
  ·rw[hB.2.2];exact hy.l
  ·rw[hB.2.2,hB.2.1];exact hz.l
 rw[if_neg h14];rw[if_neg h14] at hB;have hxw:=hx.w;by_cases h16:n.op≤16
 ·rw[if_pos h16];rw[if_pos h16] at hB;simp only[Bool.and_eq_true,decide_eq_true_eq] at hB;have ew:x.w.toNat=wd n.w:=by unfold wd;omega
  rw[ew];unfold unW;split<;>exact zer hn _
 rw[if_neg h16];rw[if_neg h16] at hB;by_cases h29:n.op≤29
 ·rw[if_pos h29];have ew:x.w.toNat=wd n.w∧1≤x.w.toNat:=by
   by_cases h24:n.op≤24
   ·rw[if_pos h24] at hB;simp only[Bool.and_eq_true,decide_eq_true_eq] at hB;unfold wd;omega
   ·rw[if_neg h24,if_pos h29] at hB;simp only[Bool.and_eq_true,decide_eq_true_eq] at hB;unfold wd;omega
  rw[ew.1];exact bin_le ⟨by omega,h29⟩ hp hn _ _
 rw[if_neg h29];rw[if_neg (by omega),if_neg (by omega)] at hB;by_cases h30:n.op=30
 ·rw[if_pos h30];rw[if_pos h30] at hB;simp only[Bool.and_eq_true,decide_eq_true_eq] at hB;have hyw:=hy.w;unfold catW;exact cat_le hn (n:=x.w.toNat) (k:=y.w.toNat) (by unfold wd;omega) (zer (by omega) _) (zer (by omega) _)
 rw[if_neg h30];rw[if_neg h30] at hB;by_cases h31:n.op=31
 ·rw[if_pos h31];rw[if_pos h31] at hB;simp only[Bool.and_eq_true,decide_eq_true_eq] at hB;have ew:n.w.toNat=wd n.w:=by unfold wd;omega
  unfold sliceW;rw[ew];exact zer hn _
 rw[if_neg h31];rw[if_neg h31] at hB;simp only[Bool.and_eq_true,decide_eq_true_eq] at hB;have ew:n.w.toNat=wd n.w:=by unfold wd;omega
 unfold extW;split
 ·exact msk_up hn (n:=x.w.toNat) (by unfold wd;omega) (zer (by omega) _)
 ·rw[ew];exact zer hn _
end Go.AM.N14
namespace Go.AM.N14
open Go Go.AM
section
variable {L:List Nd} {K:List (ByteArray × Int)} (hg:zhy L K) {S:Nat→Prop} (hcl:∀ t,S t→∀ c∈kids L t,S c) {G:ByteArray→W64} (hG:∀ t n,1≤t→S t→L[t-1]?=some n→n.op=4→(G n.name).toNat≤(msk (wd n.w)).toNat)
theorem zk8 (hg:zhy L K):∀ m∈L,0≤m.w∧m.w≤64:=fun m hm=>by have:¬ (m.w<0∨m.w>64):=(hg.rt m hm).w;omega
theorem wT_64 (hg:zhy L K) (x:Int):0≤wT L 0 x∧wT L 0 x≤64:=by
 refine⟨wT_nn (zk8 hg) x,?_⟩;unfold wT;split
 ·cases q:L[(x-1).toNat]? with
  |none=>show (0:Int)≤64;decide
  |some m=>exact(zk8 hg m (List.mem_of_getElem? q)).2
 ·decide
include hg hcl hG
theorem vfn_le {t:Nat} (h1:1≤t) (h2:t≤L.length) (hs:S t):(vfn L G t).toNat≤(msk (wd (wT L 0 (t:Int)))).toNat:=
 fnA_ind hg.dag (valF L G) 0#64 hcl (Q:=fun t v=>v.toNat≤(msk (wd (wT L 0 (t:Int)))).toNat) (Nat.zero_le _) (fun t n h1 hs hn q1 q2 q3=>by
  have hlt:=(List.getElem?_eq_some_iff.1 hn).1;rw[wT_at ⟨h1,by omega⟩ hn 0];have hmem:=List.mem_of_getElem? hn;have ha:=hg.dag.a _ n hn;have hb:=hg.dag.b _ n hn;have hc:=hg.dag.c _ n hn;have ho:1≤n.op∧n.op≤33:=by have:¬ (n.op<1∨n.op>33):=(hg.rt n hmem).op;omega
  unfold valF;split
  ·rename_i h4;exact hG t n h1 hs hn h4
  ·rename_i h4;rw[Int.toNat_of_nonneg (by omega)] at q1 q2 q3;exact val_le ho h4 (zk8 hg n hmem) (hg.num n hmem) (x:=⟨wT L 0 n.a,0#64,0#64,fnA (valF L G) 0#64 L n.a.toNat,0#64⟩) (y:=⟨wT L 0 n.b,0#64,0#64,fnA (valF L G) 0#64 L n.b.toNat,0#64⟩) (z:=⟨wT L 0 n.c,0#64,0#64,fnA (valF L G) 0#64 L n.c.toNat,0#64⟩)
    ⟨wT_64 hg n.a,q1⟩ ⟨wT_64 hg n.b,q2⟩ ⟨wT_64 hg n.c,q3⟩ (zoJ hg hmem h4)) t h1 h2 hs
theorem vok_in {t:Nat} (h1:1≤t) (hs:S t) {n:Nd} (hn:L[t-1]?=some n) (h4:n.op≠4):Vok n (wT L 0 n.a).toNat (wT L 0 n.b).toNat (vfn L G n.a.toNat) (vfn L G n.b.toNat):=by
 have hmem:=List.mem_of_getElem? hn;have hlt:=(List.getElem?_eq_some_iff.1 hn).1;have ho:1≤n.op∧n.op≤33:=by have:¬ (n.op<1∨n.op>33):=(hg.rt n hmem).op;omega
 have ha:=hg.dag.a _ n hn;have hb:=hg.dag.b _ n hn;have wa:=wT_64 hg n.a;have wb:=wT_64 hg n.b;have hkf:=(zf7 hg.dag hn).2;have hkt:kids L t=zb1 n:=by unfold kids;rw[hn]
 have one:∀ x:Int,(x=n.a∨x=n.b∨x=n.c)→0≤x→x<t→(wT L 0 x).toNat=0→(vfn L G x.toNat).toNat≤1:=fun x hx x0 x1 hw=>by
  by_cases q:x=0
  ·rw[q];exact Nat.zero_le _
  ·obtain⟨c,c1,c2⟩:=hkf x hx q;have hle:=vfn_le hg hcl hG (t:=c) (by omega) (by omega) (hcl t hs c (by rw[hkt];exact c1));have w0:=wT_nn (zk8 hg) x;rw[c2,show wT L 0 x=0 by omega] at hle;rw[←c2,Int.toNat_natCast];exact hle
 exact vok_of (c:=wT L 0 n.c) ho h4 (zk8 hg n hmem) (hg.num n hmem) (by omega) (by omega) (one n.a (.inl rfl) (by omega) (by omega)) (one n.b (.inr (.inl rfl)) (by omega) (by omega)) (by rw[Int.toNat_of_nonneg wa.1,Int.toNat_of_nonneg wb.1];exact zoJ hg hmem h4)
end
end Go.AM.N14
namespace Go.AM.N14
open Go Go.AM
theorem vnum {v:VV} (h:v.Ok):((BitVec.ofInt 64 v.num).toNat:Int)=v.num:=by have:=h.1;have:=h.2;rw[BitVec.toNat_ofInt];omega
theorem zmi {Tv:List VV} {s:ByteArray} {v:VV} (h:fndV s Tv=some v):ze5 Tv s=BitVec.ofInt 64 v.num:=by unfold ze5;rw[h]
theorem zmj {Tv:List VV} {s:ByteArray} (h:fndV s Tv=none):ze5 Tv s=0#64:=by unfold ze5;rw[h]
theorem zox {L:List Nd} {Tv:List VV} {t:Nat} {n:Nd} (hn:L[t-1]?=some n):badV L Tv t=(decide (n.op=4)&&(match fndV n.name Tv with|some v=>decide (v.w≠n.w)|none=>false)):=by unfold badV;rw[hn]<;>rfl
theorem step_var {B:Hp} {p f g:Nat} {lim:Int} {L:List Nd} {K:List (ByteArray × Int)} {sl:Value} (hst:StF B p lim L K sl f g) (hL:(L.length:Int)≤4611686018427387904) {v:Value} {out:List Nat} (hv:Rdb B 1 v out.length (ints out)) (hol:out.length≤2^41)
  {m:Nat} {Tv:List VV} (hm:MapS B m VV.val (fun s=>fndV s Tv)) (hml:m<B.next) (hT:∀ v∈Tv,v.Ok)
  {i t:Nat} (hi:out[i]?=some t) (ht:1≤t∧t≤L.length) {n:Nd} (hn:L[t-1]?=some n) (h4:n.op=4) {H:Hp} {m1 m2:Nat} {V W:Int→Int} (h:VS B H m1 m2 V W) (h0:V (t:Int)=0) :
  ∃ H' V',VS B H' m1 m2 V' (fun x=>if x=(t:Int) then n.w else W x) ∧
   (badV L Tv t=false→zaK RR (.pointer (some ⟨p,0,none⟩)) v (.map (some m)) (.map (some m1)) (.map (some m2)) (.int .i64 (out.length:Int)) [.int .i64 (i:Int)] H=some (.next,[.int .i64 ((i+1:Nat):Int)],H')∧V' (t:Int)=((ze5 Tv n.name).toNat:Int)∧∀ x,x≠(t:Int)→V' x=V x) ∧
   (badV L Tv t=true→zaK RR (.pointer (some ⟨p,0,none⟩)) v (.map (some m)) (.map (some m1)) (.map (some m2)) (.int .i64 (out.length:Int)) [.int .i64 (i:Int)] H=some (.ret,[.tuple #[.slice none 0 0,.int .i64 71]],H')):=by
 have hlt:i<out.length:=(List.getElem?_eq_some_iff.1 hi).1;have hvH:Rdb H 1 v out.length (ints out):=hv.keep' (fun j hj=>h.old j (hv.lt hj)) h.next;have hvI:Rdb H 1 v (out.map fun (t:Nat)=>(t:Int)).length (zbz (out.map fun (t:Nat)=>(t:Int))):=by rw[List.length_map,←zbN];exact hvH
 obtain⟨y,x1,x2⟩:=hvI.int (i:=i) (t:=(t:Int)) (by rw[List.getElem?_map,hi];rfl);have q:(i:Int)<(out.length:Int):=by omega
 have w1:IntKind.i64.wrap ((i:Int)+1)=((i+1:Nat):Int):=zax (by omega) (by omega);have hstH:StF H p lim L K sl f g:=hst.keep (fun i hi=>h.old i (hst.foot_lt hi)) h.next;have hT':isT L (t:Int)=true:=zbo.2 ⟨by omega,by omega⟩;have hnode:zfm L (t:Int)=n:=by unfold zfm;rw[hT',if_pos rfl,show ((t:Int)-1).toNat=t-1 by omega,hn];rfl
 have e10:=Go.AM.c10 hstH.st hL (t:Int);rw[hnode,hT',if_pos rfl] at e10;obtain⟨H1,u2,h1⟩:=h.up2 (t:Int) n.w;have hm1:MapS H1 m VV.val (fun s=>fndV s Tv):=hm.keep (h1.old m hml);have d4:decide (n.op≠4)=false:=decide_eq_false (fun q=>q h4);have lk:∀ {α:Type} (k:Value→Option α),zbB PP T.string (.agg #[.string ⟨#[]⟩,.int .i64 0,.int .u64 0]) (.map (some m)) (.string n.name) true H1 k=k (.tuple #[((fndV n.name Tv).getD noV).val,.bool (fndV n.name Tv).isSome]):=fun k=>by rw[noV_val,hm1.look2];cases fndV n.name Tv<;>rfl
 have head:∀ X,(zaK RR (.pointer (some ⟨p,0,none⟩)) v (.map (some m)) (.map (some m1)) (.map (some m2)) (.int .i64 (out.length:Int)) [.int .i64 (i:Int)] H=X) ↔
   (zaa (.bool (fndV n.name Tv).isSome) fun b58=>br b58
    (zad 1 false ((fndV n.name Tv).getD noV).cells 1 fun v59=>
    zad 1 false n.cells 1 fun v60=>
    pBin PP .neq T.int v59 v60 fun v61=>
    zaa v61 fun b62=>br b62
    (some (.ret,[(.tuple #[(.slice none 0 0),(.int .i64 71)])],H1))
    (zad 1 false ((fndV n.name Tv).getD noV).cells 2 fun v63=>
    pUpd PP T.int (.map (some m1)) (.int .i64 (t:Int)) v63 H1 fun H64=>
    pBin PP .add T.int (.int .i64 (i:Int)) (.int .i64 1) fun v65=>
    some (.next,[v65],H64)))
    (pBin PP .add T.int (.int .i64 (i:Int)) (.int .i64 1) fun v66=>
    some (.next,[v66],H1)))=X:=fun X=>by
  unfold zaK;simp only[qg0];rw[lT q,x1,x2,zah e10,x01,spl7,zkQ,u2,zjC,za8,zac,d4,zaJ,ncell6,lk,x01,splV]
 have hb:=zox (Tv:=Tv) hn;rw[decide_eq_true h4,Bool.true_and] at hb;cases hq:fndV n.name Tv with
 |none=>
  rw[hq] at hb head;refine⟨H1,V,h1,fun _=>⟨?_,?_,fun x _=>rfl⟩,fun z=>?_⟩
  ·rw[head];rw[show (Option.isSome (none:Option VV))=false from rfl,zac,zaJ,zaQ,w1]
  ·rw[zmj hq,h0];rfl
  ·rw[hb] at z;cases z
 |some w=>
  rw[hq] at hb head;have hwk:=hT w (zl2 hq).1;dsimp only at hb;by_cases e:w.w=n.w
  ·obtain⟨H2,u1,h2⟩:=h1.up1 (t:Int) w.num;refine⟨H2,_,h2,fun _=>⟨?_,?_,fun x hx=>?_⟩,fun z=>?_⟩
   ·rw[head];rw[show (Option.isSome (some w))=true from rfl,zac,zaX,show (some w).getD noV=w from rfl,zmh,zkQ,za8,bF (fun q=>q e),vcell2,u1,zaQ,w1]
   ·rw[if_pos rfl,zmi hq,vnum hwk]
   ·rw[if_neg hx]
   ·rw[hb,decide_eq_false (fun q=>q e)] at z;cases z
  ·refine⟨H1,V,h1,fun z=>?_,fun _=>?_⟩
   ·rw[hb,decide_eq_true e] at z;cases z
   ·rw[head];rw[show (Option.isSome (some w))=true from rfl,zac,zaX,show (some w).getD noV=w from rfl,zmh,zkQ,za8,bT e]
section
variable {B:Hp} {p f g:Nat} {lim:Int} {L:List Nd} {K:List (ByteArray × Int)} {sl:Value} (hst:StF B p lim L K sl f g) (hL:(L.length:Int)≤4611686018427387904) (hd:Dag L) (hw:∀ m∈L,0≤m.w∧m.w≤64)
 {v:Value} {out:List Nat} (hv:Rdb B 1 v out.length (ints out)) (hol:out.length≤2^41) (hcl:zdK L out) (hnd:out.Nodup) (hbd:∀ t∈out,1≤t∧t≤L.length)
 {m:Nat} {Tv:List VV} (hm:MapS B m VV.val (fun s=>fndV s Tv)) (hml:m<B.next) (hT:∀ v∈Tv,v.Ok)
 (hok:∀ (i t:Nat) n,out[i]?=some t→(∀ u∈out.take (i+1),badV L Tv u=false)→L[t-1]?=some n→n.op≠4→Vok n (wT L 0 n.a).toNat (wT L 0 n.b).toNat (vfn L (ze5 Tv) n.a.toNat) (vfn L (ze5 Tv) n.b.toNat)) {m1 m2:Nat}
include hst hL hd hw hv hol hcl hbd hm hml hT hok hnd
theorem zkt:∀ (k i:Nat) (H:Hp) (V W:Int→Int),i+k=out.length→VS B H m1 m2 V W→(∀ x:Int,(∀ t∈out.take i,(t:Int)≠x)→V x=0)→W 0=0→(∀ t∈out.take i,V (t:Int)=((vfn L (ze5 Tv) t).toNat:Int)∧W (t:Int)=wT L 0 (t:Int))→(∀ u∈out.take i,badV L Tv u=false) →
  ∃ H' V' W',VS B H' m1 m2 V' W' ∧
   ((out.drop i).any (badV L Tv)=false→zas (zaK RR (.pointer (some ⟨p,0,none⟩)) v (.map (some m)) (.map (some m1)) (.map (some m2)) (.int .i64 (out.length:Int))) [.int .i64 (i:Int)] H=some (.exit 0,[.int .i64 (out.length:Int)],H')∧∀ t∈out,V' (t:Int)=((vfn L (ze5 Tv) t).toNat:Int)) ∧
   ((out.drop i).any (badV L Tv)=true→zas (zaK RR (.pointer (some ⟨p,0,none⟩)) v (.map (some m)) (.map (some m1)) (.map (some m2)) (.int .i64 (out.length:Int))) [.int .i64 (i:Int)] H=some (.ret,[.tuple #[.slice none 0 0,.int .i64 71]],H'))
 |0,i,H,V,W,hk,h,_,_,hin,_=>by
  have:i=out.length:=by omega
  subst this;refine⟨H,V,W,h,fun _=>⟨?_,fun t ht=>(hin t (by rw[List.take_length];exact ht)).1⟩,fun q=>?_⟩
  ·rw[zai];have:zaK RR (.pointer (some ⟨p,0,none⟩)) v (.map (some m)) (.map (some m1)) (.map (some m2)) (.int .i64 (out.length:Int)) [.int .i64 (out.length:Int)] H=some (.exit 0,[.int .i64 (out.length:Int)],H):=by unfold zaK;simp only[qg0];rw[lF (Int.lt_irrefl _)]
   rw[this];rfl
  ·rw[List.drop_length] at q;cases q
 |k+1,i,H,V,W,hk,h,h0,hw0,hin,hgo=>by
  have hlt:i<out.length:=by omega
  have hi:out[i]?=some out[i]:=List.getElem?_eq_getElem hlt;have hdrop:out.drop i=out[i] :: out.drop (i+1):=List.drop_eq_getElem_cons hlt;generalize out[i]=t at hi hdrop;have htk:out.take (i+1)=out.take i++[t]:=by rw[List.take_add_one,hi];rfl
  have ht:=hbd t (List.mem_of_getElem? hi);have hn:L[t-1]?=some (L[t-1]'(by omega)):=List.getElem?_eq_getElem (by omega);generalize L[t-1]'(by omega)=n at hn;have hnew:∀ u∈out.take i,(u:Int)≠(t:Int):=fun u hu e=>by
   have e:u=t:=by omega
   subst e;have:=hnd;rw[←List.take_append_drop i out,hdrop] at this;exact(List.nodup_append.1 this).2.2 u hu u (List.mem_cons_self ..) rfl
  have hkf:=(zf7 hd hn).2;have hkt:kids L t=zb1 n:=by unfold kids;rw[hn]
  have ha:=hd.a _ n hn;have hb:=hd.b _ n hn;have hc:=hd.c _ n hn;rw[hdrop,List.any_cons];have next:∀ (H1:Hp) (V1:Int→Int),VS B H1 m1 m2 V1 (fun x=>if x=(t:Int) then n.w else W x)→V1 (t:Int)=((vfn L (ze5 Tv) t).toNat:Int)→(∀ x,x≠(t:Int)→V1 x=V x)→badV L Tv t=false →
    zaK RR (.pointer (some ⟨p,0,none⟩)) v (.map (some m)) (.map (some m1)) (.map (some m2)) (.int .i64 (out.length:Int)) [.int .i64 (i:Int)] H=some (.next,[.int .i64 ((i+1:Nat):Int)],H1) →
    ∃ H' V' W',VS B H' m1 m2 V' W' ∧
     ((badV L Tv t||(out.drop (i+1)).any (badV L Tv))=false→zas (zaK RR (.pointer (some ⟨p,0,none⟩)) v (.map (some m)) (.map (some m1)) (.map (some m2)) (.int .i64 (out.length:Int))) [.int .i64 (i:Int)] H=some (.exit 0,[.int .i64 (out.length:Int)],H')∧∀ t∈out,V' (t:Int)=((vfn L (ze5 Tv) t).toNat:Int)) ∧
     ((badV L Tv t||(out.drop (i+1)).any (badV L Tv))=true→zas (zaK RR (.pointer (some ⟨p,0,none⟩)) v (.map (some m)) (.map (some m1)) (.map (some m2)) (.int .i64 (out.length:Int))) [.int .i64 (i:Int)] H=some (.ret,[.tuple #[.slice none 0 0,.int .i64 71]],H')):=fun H1 V1 h1 v1 v2 hb0 hs=>by
   obtain⟨H',V',W',g1,g2,g3⟩:=zkt k (i+1) H1 V1 _ (by omega) h1 (fun x hx=>by
    rw[htk] at hx;rw[v2 x fun e=>hx t (List.mem_append_right _ (List.mem_singleton.2 rfl)) e.symm]
    exact h0 x fun u hu=>hx u (List.mem_append_left _ hu)) (by rw[if_neg (by omega)];exact hw0) (fun u hu=>by
    rw[htk] at hu;rcases List.mem_append.1 hu with hu|hu
    ·have hne:=hnew u hu;rw[if_neg hne,v2 _ hne];exact hin u hu
    ·rw[List.mem_singleton] at hu;subst hu;rw[if_pos rfl,wT_at ht hn]
     exact⟨v1,rfl⟩) (fun u hu=>by
    rw[htk] at hu;rcases List.mem_append.1 hu with hu|hu
    ·exact hgo u hu
    ·rw[List.mem_singleton] at hu;rw[hu];exact hb0)
   rw[hb0,Bool.false_or,zai,hs];exact⟨H',V',W',g1,g2,g3⟩
  by_cases h4:n.op=4
  ·obtain⟨H1,V1,h1,s1,s2⟩:=step_var hst hL hv hol hm hml hT hi ht hn h4 h (h0 _ hnew);cases hq:badV L Tv t with
   |false=>
    obtain⟨s1,s3,s4⟩:=s1 hq
    have:=next H1 V1 h1 (by
     rw[s3];unfold vfn;rw[zla hd _ _ ht.1 hn];unfold valF
     rw[if_pos h4]) s4 hq s1
    rw[hq] at this;exact this
   |true=>
    refine⟨H1,V1,_,h1,fun z=>(by cases z),fun _=>?_⟩;rw[zai,s2 hq];rfl
  ·have hb0:badV L Tv t=false:=by rw[zox hn,decide_eq_false h4];rfl
   have hvok:=hok i t n hi (fun u hu=>by
    rw[htk] at hu;rcases List.mem_append.1 hu with hu|hu
    ·exact hgo u hu
    ·rw[List.mem_singleton] at hu;rw[hu];exact hb0) hn h4
   have part:∀ x:Int,x=n.a∨x=n.b∨x=n.c→0≤x→x<(t:Int)→V x=((vfn L (ze5 Tv) x.toNat).toNat:Int)∧(if x=(t:Int) then n.w else W x)=((wT L 0 x).toNat:Int):=fun x hx h1 h2=>by
    rw[if_neg (by omega)];by_cases q:x=0
    ·subst q;rw[h0 0 (fun u hu=>by have:=hbd u (List.mem_of_mem_take hu);omega),hw0];refine⟨?_,by rw[wT_0];rfl⟩;rfl
    ·obtain⟨c,c1,c2⟩:=hkf x hx q;obtain⟨g1,g2⟩:=hin c (hcl i t hi c (by rw[hkt];exact c1));rw[←c2,g1,g2,Int.toNat_natCast];refine⟨rfl,?_⟩;have:=wT_nn hw (c:Int);omega
   obtain⟨pa1,pa2⟩:=part n.a (.inl rfl) (by omega) (by omega);obtain⟨pb1,pb2⟩:=part n.b (.inr (.inl rfl)) (by omega) (by omega);obtain⟨pc1,_⟩:=part n.c (.inr (.inr rfl)) (by omega) (by omega);obtain⟨H1,e1,h1⟩:=step_val hst hL hv hol hi ht hn h hvok pa2 pb2 pa1 pb1 pc1 (.map (some m))
   have:=next H1 _ h1 (by
    rw[if_pos rfl];unfold vfn;rw[zla hd (valF L (ze5 Tv)) _ ht.1 hn];show _=((valF L (ze5 Tv) n _ _ _).toNat:Int)
    unfold valF
    rw[if_neg h4]) (fun x hx=>by rw[if_neg hx]) hb0 e1
   rw[hb0] at this;rw[hb0];exact this
end
end Go.AM.N14
namespace Go.AM.N14
open Go Go.AM
end Go.AM.N14
namespace Go.AM.N14
open Go Go.AM
theorem told_le {v:VV} (h:v.Ok) (hw:wdOk v=true):(BitVec.ofInt 64 v.num).toNat≤(msk (wd v.w)).toNat:=by
 unfold wdOk at hw;simp only[Bool.and_eq_true,decide_eq_true_eq] at hw;obtain⟨⟨h1,h2⟩,h3⟩:=hw;have e:(if v.w<1 then (1:Int) else v.w)=((wd v.w:Nat):Int):=by unfold wd;split<;>omega
 have hn:=vnum h;rw[e,←hn,zoF (wd_pos v.w) (wd_le h2)] at h3;have h4:(BitVec.ofInt 64 v.num&&&msk (wd v.w)).toNat=(BitVec.ofInt 64 v.num).toNat:=by omega
 rw[←h4];exact zer (wd_le h2) _
theorem toldE_0 {Tv:List VV} (h:ziV Tv=0):nmOk [] (Tv.map VV.name)=true∧Tv.all wdOk=true:=by
 unfold ziV at h;split at h
 ·split at h
  ·exact⟨by assumption,by assumption⟩
  ·cases h
 ·cases h
theorem tell_le {L:List Nd} {Tv:List VV} (hT:∀ v∈Tv,v.Ok) (h0:ziV Tv=0) {t:Nat} {n:Nd} (hn:L[t-1]?=some n) (h4:n.op=4) (hb:badV L Tv t=false):(ze5 Tv n.name).toNat≤(msk (wd n.w)).toNat:=by
 rw[zox hn,decide_eq_true h4,Bool.true_and] at hb;cases hq:fndV n.name Tv with
 |none=>rw[zmj hq];exact Nat.zero_le _
 |some w=>
  rw[hq] at hb;have hwm:=(zl2 hq).1;have e:w.w=n.w:=by have:=of_decide_eq_false hb;omega
  rw[zmi hq,←e];exact told_le (hT w hwm) (List.all_eq_true.1 (toldE_0 h0).2 w hwm)
theorem vok_pre {L:List Nd} {K:List (ByteArray × Int)} (hg:zhy L K) {out:List Nat} (hcl:zdK L out) {Tv:List VV} (hT:∀ v∈Tv,v.Ok) (h0:ziV Tv=0) (hbd:∀ t∈out,1≤t∧t≤L.length) :
  ∀ (i t:Nat) n,out[i]?=some t→(∀ u∈out.take (i+1),badV L Tv u=false)→L[t-1]?=some n→n.op≠4→Vok n (wT L 0 n.a).toNat (wT L 0 n.b).toNat (vfn L (ze5 Tv) n.a.toNat) (vfn L (ze5 Tv) n.b.toNat):=by
 intro i t n hi hu hn h4;have hm:t∈out.take (i+1):=by rw[List.take_add_one,hi];simp
 have ht:=hbd t (List.mem_of_getElem? hi);refine vok_in hg (S:=(· ∈ out.take (i+1))) (fun u hu c hc=>?_) (fun u m hu1 hu2 hum h4=>tell_le hT h0 hum h4 (hu u hu2)) ht.1 hm hn h4;obtain⟨j,hj⟩:=List.getElem?_of_mem hu;rw[List.getElem?_take] at hj;split at hj
 ·have:=hcl j u hj c hc;exact List.mem_of_mem_take (by rw[List.take_take,Nat.min_eq_left (by omega:j≤i+1)];exact this:c∈(out.take (i+1)).take j)
 ·cases hj
noncomputable def zcJ (L:List Nd) (rs:List Int) (Tv:List VV):Int × List W64:=if rs.all (isT L)=true then zlk L (rs.map Int.toNat) Tv else (70,[])
theorem Made.nil' {B H:Hp} (h1:B.next≤H.next) (h2:∀ j,j<B.next→H.get j=B.get j):Made B H (.slice none 0 0) 0 []:=⟨h1,h2,Vec.nil _ _,fun j hj=>by cases hj⟩
section
variable {H0:Hp} {p f g:Nat} {lim:Int} {L:List Nd} {K:List (ByteArray × Int)} {sl:Value} (hst:StF H0 p lim L K sl f g) (hg:zhy L K) (hL:L.length*64≤2^46)
 {x:Value} {rs:List Int} (hx:Rdb H0 1 x rs.length (zbz rs)) (hl:rs.length≤2^40) {y:Value} {Tv:List VV} (hy:Rdb H0 3 y Tv.length (zb9 Tv)) (hyl:Tv.length≤2^40) (hT:∀ v∈Tv,v.Ok)
include hst hg hL hx hl hy hyl hT
theorem zpv:∃ H' v',RR F.a25 [.pointer (some ⟨p,0,none⟩),x,y] H0=some (.tuple #[v',.int .i64 (zcJ L rs Tv).1],H')∧Made H0 H' v' (zcJ L rs Tv).2.length (wvs (zcJ L rs Tv).2):=by
 have hr:=(zlB E0 rfl (.pointer (some ⟨p,0,none⟩)) x y H0).trans (zlX _ _ _ _ _);have hd:=hg.dag;obtain⟨H1,v1,e1,o1⟩:=Go.AM.c13 hst hd hL hx hl;rw[zkA T.p_term_Store _ ⟨T.term_Store,by kernel_rfl⟩,zac,zaJ,zah e1,x01,za8,zac] at hr;unfold zcJ;unfold zct at e1 o1 hr;cases hall:rs.all (isT L) with
 |false=>
  rw[hall,if_neg (by decide)] at o1 hr;rw[decide_eq_true (show ¬ ((70,([]:List Nat)):Int × List Nat).1=0 by decide),zaX] at hr;rw[if_neg (by decide)];exact⟨H1,_,hr,Made.nil' o1.next o1.old⟩
 |true=>
  rw[hall,if_pos rfl] at o1 hr;rw[if_pos rfl];obtain⟨ns,n1,hb⟩:=nats rs hall;have ens:rs.map Int.toNat=ns:=by rw[n1,zjE]
  have hlen:rs.length=ns.length:=by rw[n1,List.length_map]
  rw[ens] at o1 hr ⊢;rw[decide_eq_false (show ¬ ¬ ((0,posts L ns []):Int × List Nat).1=0 by simp),zaJ] at hr;have o1:zmc H0 H1 v1 (posts L ns []):=o1;have hy1:Rdb H1 3 y Tv.length (zb9 Tv):=hy.keep' (fun j hj=>o1.old j (hy.lt hj)) o1.next;obtain⟨v2,H2,t1,t2,t3⟩:=c_told hy1 hyl hT;rw[zah t1,x01,za8,zac] at hr;have o2:∀ j,j<H0.next→H2.get j=H0.get j:=fun j hj=>by have:=o1.next;rw[t2.same j (by omega) (fun q=>q),o1.old j hj]
  have n2:H0.next≤H2.next:=Nat.le_trans o1.next t2.next;unfold zlk;by_cases h0:ziV Tv≠0
  ·rw[decide_eq_true h0,zaX] at hr;rw[if_pos h0];exact⟨H2,_,hr,Made.nil' n2 o2⟩
  ·rw[if_neg h0];have h0:ziV Tv=0:=Decidable.not_not.1 h0;rw[decide_eq_false (fun q=>q h0),zaJ] at hr;obtain⟨m,rfl,m1,m2,m3⟩:=t3 h0;have hlen2:(posts L ns []).length≤L.length:=Told.len ((⟨List.nodup_nil,fun x h=>by cases h⟩:Told L.length []).posts hd hb);have hndp:(posts L ns []).Nodup:=ziE hd ns [] (fun c hc=>(hb c hc).1) List.nodup_nil;have hmem:=zdh hd (N:=L.length) ns [] hb;have hbd:∀ t∈posts L ns [],1≤t∧t≤L.length:=fun t ht=>by
    rcases hmem.2.2 t ht with q|q
    ·cases q
    ·exact q
   have hcl:zdK L (posts L ns []):=(zf2 hd ns [] (fun c hc=>(hb c hc).1) (fun i t h=>by cases h)).1;generalize hout:posts L ns []=out at *;have hh:∀ (n:Int) (f:Option (Value × Hp)),zhM (.int .i64 n) f=f:=fun n f=>rfl;have hm:∀ (H:Hp) (f:Value→Hp→Option (Value × Hp)),zcb H f=f (.map (some H.next)) (H.new (.map [])):=fun H f=>rfl;let Hu:=H2.new (.map [])
   let Hv:=Hu.new (.map [])
   have hn1:=n2;have hvs:VS H2 Hv H2.next Hu.next (fun _=>0) (fun _=>0):=by
    refine⟨?_,fun j hj=>?_,?_,?_,?_,?_,?_,?_⟩
    ·show H2.next≤H2.next+1+1;omega
    ·show ((H2.new (.map [])).new (.map [])).get j=_;rw[get_new,if_neg (by show j≠H2.next+1;omega),get_new,if_neg (by omega)]
    ·exact Nat.le_refl _
    ·show H2.next≤H2.next+1;omega
    ·show H2.next≠H2.next+1;omega
    ·show H2.next<H2.next+1+1;omega
    ·exact(MapU.new H2).keep (by show (Hu.new (.map [])).get H2.next=Hu.get H2.next;rw[get_new,if_neg (by show H2.next≠H2.next+1;omega)])
    ·exact MapF.new Hu
   have hstB:StF H2 p lim L K sl f g:=hst.keep (fun i hi=>o2 i (hst.foot_lt hi)) n2;have hov:Vec H2 1 v1 out.length (ints out):=o1.vec.keep t2 fun j _ q=>q;obtain⟨H3,V',W',h3,l1,l2⟩:=zkt hstB (by omega) hd (zk8 hg) hov.rd (by omega) hcl hndp hbd m3 m2 hT (vok_pre hg hcl hT h0 hbd) out.length 0 Hv (fun _=>0) (fun _=>0) (by omega) hvs (fun _ _=>rfl) rfl (fun t ht=>by rw[List.take_zero] at ht;cases ht) (fun t ht=>by rw[List.take_zero] at ht;cases ht);rw[qd0] at l1 l2;rw[hov.len,hh,hm,hov.len,hh,hm,hov.len] at hr;have o3:∀ j,j<H0.next→H3.get j=H0.get j:=fun j hj=>by rw[h3.old j (by omega),o2 j hj]
   have n3:H0.next≤H3.next:=Nat.le_trans n2 h3.next;cases hbad:out.any (badV L Tv) with
   |true=>
    have l2:zas (zaK RR (.pointer (some ⟨p,0,none⟩)) v1 (.map (some m)) (.map (some H2.next)) (.map (some (H2.new (.map [])).next)) (.int .i64 (out.length:Int))) [.int .i64 0] ((H2.new (.map [])).new (.map []))=_:=l2 hbad;rw[l2] at hr;rw[if_pos rfl];exact⟨H3,_,hr,Made.nil' n3 o3⟩
   |false=>
    obtain⟨l1,l3⟩:=l1 hbad;have l1:zas (zaK RR (.pointer (some ⟨p,0,none⟩)) v1 (.map (some m)) (.map (some H2.next)) (.map (some (H2.new (.map [])).next)) (.int .i64 (out.length:Int))) [.int .i64 0] ((H2.new (.map [])).new (.map []))=_:=l1;rw[if_neg (by decide)];have hx3:Rdb H3 1 x ns.length (ints ns):=by have:=hx.keep' (H':=H3) (fun j hj=>o3 j (hx.lt hj)) n3;rw[zbN,←n1,←hlen];exact this
    obtain⟨v3,H4,mk1,mk2,mk3,mk4⟩:=Vec.cap H3 (sz:=1) (bytes:=8) (zs:=[.int .u64 0]) rfl rfl (n:=ns.length) (by omega);obtain⟨H5,v4,q1,h4⟩:=zoE (B:=H3) hx3 (by omega) h3.f1 h3.n1 (vf:=vfn L (ze5 Tv)) (fun t ht=>l3 t (hmem.2.1 t ht)) ns.length 0 H4 v3 (by omega) ⟨mk3.next,fun j hj=>mk3.same j hj (fun q=>q),mk2,mk4⟩;have q1:zas (zbE RR x (.map (some H2.next)) (.int .i64 (ns.length:Int))) [v3,.int .i64 0] H4=_:=q1;rw[l1,zam,za1,zaz,hx3.len,mk1,hx3.len,q1,zam,za1,zaz] at hr;refine⟨H5,v4,hr,?_⟩;rw[List.length_map];exact⟨Nat.le_trans n3 h4.next,fun j hj=>by rw[h4.old j (by omega),o3 j hj],h4.vec,fun j hj=>Nat.le_trans n3 (h4.new j hj)⟩
theorem c_value {t:Int}:∃ H',RR F.a54 [.pointer (some ⟨p,0,none⟩),.int .i64 t,y] H0=some (.tuple #[wv ((zcJ L [t] Tv).2.headD 0#64),.int .i64 (zcJ L [t] Tv).1],H')∧H0.next≤H'.next∧∀ j,j<H0.next→H'.get j=H0.get j:=by
 have hr:=zmB E0 rfl (.pointer (some ⟨p,0,none⟩)) (.int .i64 t) y H0;unfold zie at hr;have hb:∀ (k:Value→Hp→Option (Value × Hp)),zak 1 [.int .i64 0] 1 [(0,.int .i64 t)] H0 k=k (.slice (some ⟨H0.next,0,some 1⟩) 1 1) (H0.new (.cells [.int .i64 t] true)):=fun k=>rfl;let H1:=H0.new (.cells [.int .i64 t] true)
 have h1o:∀ j,j<H0.next→H1.get j=H0.get j:=fun j hj=>by show (H0.new _).get j=_;rw[get_new,if_neg (by omega)]
 have h1n:H1.next=H0.next+1:=rfl;have hst1:StF H1 p lim L K sl f g:=hst.keep (fun i hi=>h1o i (hst.foot_lt hi)) (by omega);have hx1:Rdb H1 1 (.slice (some ⟨H0.next,0,some 1⟩) 1 1) [t].length (zbz [t]):=.inr ⟨H0.next,1,[],true,rfl,Nat.le_refl _,by show (H0.new _).get _=_;rw[get_new,if_pos rfl];rfl,rfl,by omega⟩;have hy1:Rdb H1 3 y Tv.length (zb9 Tv):=hy.keep' (fun j hj=>h1o j (hy.lt hj)) (by omega);clear hx hl;obtain⟨H2,v,e1,m1⟩:=zpv hst1 hg hL hx1 (by show 1≤_;decide) hy1 hyl hT;have hn:=m1.next;have fin:H0.next≤H2.next∧∀ j,j<H0.next→H2.get j=H0.get j:=⟨by omega,fun j hj=>by rw[m1.old j (by omega),h1o j hj]⟩
 rw[hb,zah e1,x01,za8,zac] at hr;by_cases h0:(zcJ L [t] Tv).1≠0
 ·rw[decide_eq_true h0,zaX] at hr;have hnil:(zcJ L [t] Tv).2=[]:=by
   revert h0;unfold zcJ;split
   ·unfold zlk;split
    ·exact fun _=>rfl
    ·split
     ·exact fun _=>rfl
     ·exact fun q=>absurd rfl q
   ·exact fun _=>rfl
  rw[hnil];exact⟨H2,hr,fin⟩
 ·have h0:(zcJ L [t] Tv).1=0:=Decidable.not_not.1 h0;rw[decide_eq_false (fun q=>q h0),zaJ] at hr;obtain⟨a,ha⟩:∃ a,(zcJ L [t] Tv).2=[a]:=by
   revert h0;unfold zcJ;split
   ·unfold zlk;split
    ·rename_i q;exact fun z=>absurd z q
    ·split
     ·exact fun z=>by cases z
     ·exact fun _=>⟨_,rfl⟩
   ·exact fun z=>by cases z
  rw[ha] at m1 ⊢;obtain⟨z,hz,⟨rest,hgz⟩,hix⟩:=m1.vec.ix (i:=0) (show 0<1 by decide);have hix':∀ (k:Value→Option (Value × Hp)),pIdx 1 v (.int .i64 0) k=k (.pointer (some ⟨z,0,none⟩)):=fun k=>hix _ .i64 k;rw[hix',zeH hgz (o:=0) (x:=wv a) rfl] at hr;rw[h0];exact⟨H2,hr,fin⟩
end
end Go.AM.N14
namespace Go.AM.N14
open Go Go.AM
structure ze4 (sz:Nat) (B H:Hp) (v:Value) (n:Nat) (cs:List Value):Prop where
 next:B.next≤H.next
 old:∀ j,j<B.next→H.get j=B.get j
 vec:Vec H sz v n cs
 new:∀ j,Id v j→B.next≤j
theorem ze4.of {B H:Hp} {sz:Nat} {v:Value} {n:Nat} {cs:List Value} {r:List Sl} (h:Own B H (⟨sz,v,n,cs⟩ :: r)):ze4 sz B H v n cs:=⟨h.next,h.old,h.head,fun j hj=>h.new _ (List.mem_cons_self ..) j hj⟩
theorem ze4.behind {B B' H:Hp} {sz:Nat} {v:Value} {n:Nat} {cs:List Value} (h:ze4 sz B' H v n cs) (h1:B.next≤B'.next) (h2:∀ j,j<B.next→B'.get j=B.get j):ze4 sz B H v n cs:=
 ⟨Nat.le_trans h1 h.next,fun j hj=>by rw[h.old j (by omega),h2 j hj],h.vec,fun j hj=>Nat.le_trans h1 (h.new j hj)⟩
theorem ze4.frm {B H:Hp} {sz:Nat} {v:Value} {n:Nat} {cs:List Value} (h:ze4 sz B H v n cs):Frm (fun _=>False) B H:=⟨h.next,fun j hj _=>h.old j hj⟩
theorem ze4.nil {B H:Hp} {sz:Nat} (h:Frm (fun _=>False) B H):ze4 sz B H (.slice none 0 0) 0 []:=⟨h.next,fun j hj=>h.same j hj fun q=>q,Vec.nil _ _,fun j hj=>by cases hj⟩
theorem isV_eq {L:List Nd} {t:Nat} {n:Nd} (hn:L[t-1]?=some n):isV L t=if n.op=4 then some ⟨n.name,n.w,0⟩ else none:=by unfold isV;rw[hn]
theorem bvv {α:Type} (s:ByteArray) (w:Int) (k:Value→Option α):zaL PP T.api_Value [(0,.string s),(1,.int .i64 w)] k=k (VV.val ⟨s,w,0⟩):=Go.AM.bld (by kernel_rfl) k
theorem bvv3 {α:Type} (s:ByteArray) (w x:Int) (k:Value→Option α):zaL PP T.api_Value [(0,.string s),(1,.int .i64 w),(2,.int .u64 x)] k=k (VV.val ⟨s,w,x⟩):=Go.AM.bld (by kernel_rfl) k
theorem pushV {B H:Hp} {acc:Value} {l:List VV} {r:List Sl} (h:Own B H (⟨3,acc,l.length,zb9 l⟩ :: r)) (v:VV) (hb:l.length≤2^41) :
  ∃ acc' H',(∀ (α:Type) (k:Value→Hp→Option α),(zak 3 [.string ⟨#[]⟩,.int .i64 0,.int .u64 0] 1 [(0,v.val)] H fun t H1=>zaB 3 32 acc t H1 k)=k acc' H')∧Own B H' (⟨3,acc',(l++[v]).length,zb9 (l++[v])⟩ :: r):=by
 obtain⟨acc',H',e1,e2⟩:=Own.push h (bytes:=32) (zs:=[.string ⟨#[]⟩,.int .i64 0,.int .u64 0]) (x:=v.val) (by decide) (by decide) rfl rfl rfl (by omega);refine⟨acc',H',e1,?_⟩;have:zb9 (l++[v])=zb9 l++zab v.val:=by rw[valsC_app];rfl
 rw[this,List.length_append];exact e2
section
variable {B:Hp} {p f g:Nat} {lim:Int} {L:List Nd} {K:List (ByteArray × Int)} {sl:Value} (hst:StF B p lim L K sl f g) (hL:(L.length:Int)≤4611686018427387904)
 {v:Value} {out:List Nat} (hv:Rdb B 1 v out.length (ints out)) (hol:out.length≤2^41) (hbd:∀ t∈out,1≤t∧t≤L.length)
include hst hL hv hol hbd
theorem vars_step (S:List Value→Hp→Option Outc) {i t:Nat} (hi:out[i]?=some t) {n:Nd} (hn:L[t-1]?=some n) {H:Hp} {acc:Value} (h:Own B H [⟨3,acc,((out.take i).filterMap (isV L)).length,zb9 ((out.take i).filterMap (isV L))⟩])
  (hS:∀ (acc':Value) (H':Hp),(n.op=4→∀ (α:Type) (k:Value→Hp→Option α),(zak 3 [.string ⟨#[]⟩,.int .i64 0,.int .u64 0] 1 [(0,VV.val ⟨n.name,n.w,0⟩)] H fun t H1=>zaB 3 32 acc t H1 k)=k acc' H')→(n.op≠4→acc'=acc∧H'=H)→S [acc,.int .i64 (i:Int)] H=some (.next,[acc',.int .i64 ((i+1:Nat):Int)],H')) :
  ∃ acc' H',S [acc,.int .i64 (i:Int)] H=some (.next,[acc',.int .i64 ((i+1:Nat):Int)],H')∧Own B H' [⟨3,acc',((out.take (i+1)).filterMap (isV L)).length,zb9 ((out.take (i+1)).filterMap (isV L))⟩]:=by
 have htk:out.take (i+1)=out.take i++[t]:=by rw[List.take_add_one,hi];rfl
 have hlen:((out.take i).filterMap (isV L)).length≤2^41:=Nat.le_trans (List.length_filterMap_le ..) (by rw[List.length_take];omega);rw[htk,List.filterMap_append,List.filterMap_cons,isV_eq hn];by_cases h4:n.op=4
 ·obtain⟨acc',H',e1,e2⟩:=pushV h ⟨n.name,n.w,0⟩ hlen;rw[if_pos h4];exact⟨acc',H',hS acc' H' (fun _=>e1) (fun q=>absurd h4 q),e2⟩
 ·rw[if_neg h4];refine⟨acc,H,hS acc H (fun q=>absurd q h4) (fun _=>⟨rfl,rfl⟩),?_⟩;rw[List.filterMap_nil,List.append_nil];exact h
theorem ziT (S:List Value→Hp→Option Outc) (hend:∀ (H:Hp) (acc:Value),S [acc,.int .i64 (out.length:Int)] H=some (.exit 0,[acc,.int .i64 (out.length:Int)],H))
  (hS:∀ (i t:Nat) (n:Nd) (H:Hp) (acc acc':Value) (H':Hp),out[i]?=some t→1≤t∧t≤L.length→L[t-1]?=some n→StF H p lim L K sl f g→Rdb H 1 v out.length (ints out)→(n.op=4→∀ (α:Type) (k:Value→Hp→Option α),(zak 3 [.string ⟨#[]⟩,.int .i64 0,.int .u64 0] 1 [(0,VV.val ⟨n.name,n.w,0⟩)] H fun t H1=>zaB 3 32 acc t H1 k)=k acc' H')→(n.op≠4→acc'=acc∧H'=H)→S [acc,.int .i64 (i:Int)] H=some (.next,[acc',.int .i64 ((i+1:Nat):Int)],H')) :
  ∀ (k i:Nat) (H:Hp) (acc:Value),i+k=out.length→Own B H [⟨3,acc,((out.take i).filterMap (isV L)).length,zb9 ((out.take i).filterMap (isV L))⟩] →
  ∃ H' acc',zas S [acc,.int .i64 (i:Int)] H=some (.exit 0,[acc',.int .i64 (out.length:Int)],H')∧Own B H' [⟨3,acc',(out.filterMap (isV L)).length,zb9 (out.filterMap (isV L))⟩]
 |0,i,H,acc,hk,h=>by
  have:i=out.length:=by omega
  subst this;rw[List.take_length] at h;refine⟨H,acc,?_,h⟩;rw[zai,hend];rfl
 |k+1,i,H,acc,hk,h=>by
  have hlt:i<out.length:=by omega
  have hi:out[i]?=some out[i]:=List.getElem?_eq_getElem hlt;generalize out[i]=t at hi;have ht:=hbd t (List.mem_of_getElem? hi);have hn:L[t-1]?=some (L[t-1]'(by omega)):=List.getElem?_eq_getElem (by omega);generalize L[t-1]'(by omega)=n at hn;obtain⟨acc1,H1,e1,h1⟩:=vars_step hst hL hv hol hbd S hi hn h fun acc' H' a b=>hS i t n H acc acc' H' hi ht hn (Own.st h hst) (hv.keep' (fun j hj=>h.old j (hv.lt hj)) h.next) a b;obtain⟨H',acc',g1,g2⟩:=ziT S hend hS k (i+1) H1 acc1 (by omega) h1;refine⟨H',acc',?_,g2⟩;rw[zai,e1];exact g1
end
def zio (L:List Nd) (rs:List Int):Int × List VV:=if rs.all (isT L)=true then (0,varsR L (rs.map Int.toNat)) else (70,[])
section
variable {H0:Hp} {p f g:Nat} {lim:Int} {L:List Nd} {K:List (ByteArray × Int)} {sl:Value} (hst:StF H0 p lim L K sl f g) (hd:Dag L) (hL:L.length*64≤2^46)
 {x:Value} {rs:List Int} (hx:Rdb H0 1 x rs.length (zbz rs)) (hl:rs.length≤2^40)
include hst hd hL hx hl
theorem ziJ (hall:rs.all (isT L)=true):∀ t∈(zct L rs).2,1≤t∧t≤L.length:=by
 unfold zct;rw[hall,if_pos rfl];obtain⟨ns,n1,hb⟩:=nats rs hall;have ens:rs.map Int.toNat=ns:=by rw[n1,zjE]
 rw[ens];intro t ht;rcases (zdh hd (N:=L.length) ns [] hb).2.2 t ht with q|q
 ·cases q
 ·exact q
theorem c_vars:∃ H' v',RR F.a26 [.pointer (some ⟨p,0,none⟩),x] H0=some (.tuple #[v',.int .i64 (zio L rs).1],H')∧ze4 3 H0 H' v' (zio L rs).2.length (zb9 (zio L rs).2):=by
 have hr:=(zje E0 rfl (.pointer (some ⟨p,0,none⟩)) x H0).trans (zjS _ _ _ _);obtain⟨H1,v1,e1,o1⟩:=Go.AM.c13 hst hd hL hx hl;rw[zkA T.p_term_Store _ ⟨T.term_Store,by kernel_rfl⟩,zac,zaJ,zah e1,x01,za8,zac] at hr;have hbd:=ziJ hst hd hL hx hl;have hbl:=zfG hd rs;unfold zio;cases hall:rs.all (isT L) with
 |false=>
  have e:zct L rs=(70,[]):=by unfold zct;rw[hall];rfl
  rw[e] at o1 hr;rw[decide_eq_true (show ¬ ((70,([]:List Nat)):Int × List Nat).1=0 by decide),zaX] at hr;rw[if_neg (by decide)];exact⟨H1,_,hr,ze4.nil ⟨o1.next,fun j hj _=>o1.old j hj⟩⟩
 |true=>
  have e:zct L rs=(0,posts L (rs.map Int.toNat) []):=by unfold zct;rw[hall];rfl
  have hbd:=hbd hall;rw[e] at o1 hr hbd hbl;have o1:zmc H0 H1 v1 (posts L (rs.map Int.toNat) []):=o1;rw[decide_eq_false (show ¬ ¬ ((0,posts L (rs.map Int.toNat) []):Int × List Nat).1=0 by simp),zaJ,o1.vec.len] at hr;rw[if_pos rfl];dsimp only at hbd hbl;unfold varsR;generalize posts L (rs.map Int.toNat) []=out at *;have hst1:StF H1 p lim L K sl f g:=hst.keep (fun i hi=>o1.old i (hst.foot_lt hi)) o1.next
  obtain⟨H2,v2,l1,l2⟩:=ziT hst1 (by omega) o1.vec.rd (by omega) hbd (zcO RR (.pointer (some ⟨p,0,none⟩)) v1 (.int .i64 (out.length:Int))) (fun H acc=>by
   unfold zcO;simp only[qg0,qg1]
   rw[lF (Int.lt_irrefl _)]) (fun i t n H acc acc' H' hi ht hn hs hv a b=>by
   have hlt:i<out.length:=(List.getElem?_eq_some_iff.1 hi).1;have hvI:Rdb H 1 v1 (out.map fun (t:Nat)=>(t:Int)).length (zbz (out.map fun (t:Nat)=>(t:Int))):=by rw[List.length_map,←zbN];exact hv
   obtain⟨y,x1,x2⟩:=hvI.int (i:=i) (t:=(t:Int)) (by rw[List.getElem?_map,hi];rfl);have q:(i:Int)<(out.length:Int):=by omega
   have w1:IntKind.i64.wrap ((i:Int)+1)=((i+1:Nat):Int):=zax (by omega) (by omega);have hT':isT L (t:Int)=true:=zbo.2 ⟨by omega,by omega⟩;have hnode:zfm L (t:Int)=n:=by unfold zfm;rw[hT',if_pos rfl,show ((t:Int)-1).toNat=t-1 by omega,hn];rfl
   have e10:=Go.AM.c10 hs.st (by omega) (t:Int);rw[hnode,hT',if_pos rfl] at e10;unfold zcO;simp only[qg0,qg1];rw[lT q,x1,x2,zah e10,x01,spl7,zjC,zaO,zac];by_cases h4:n.op=4
   ·rw[decide_eq_true h4,zaX,ncell6,zkQ,bvv,a h4,zaQ,w1]
   ·obtain⟨rfl,rfl⟩:=b h4
    rw[decide_eq_false h4,zaJ,zaQ,w1]) out.length 0 H1 (.slice none 0 0) (by omega) ((Own.nil H1).addNil 3)
  have l1:zas (zcO RR (.pointer (some ⟨p,0,none⟩)) v1 (.int .i64 (out.length:Int))) [.slice none 0 0,.int .i64 0] H1=_:=l1;rw[l1,zam,za1,zaz] at hr;exact⟨H2,v2,hr,(ze4.of l2).behind o1.next o1.old⟩
theorem q_vars:∃ H' v',RR F.a24 [.pointer (some ⟨p,0,none⟩),x] H0=some (.tuple #[v',.int .i64 (zio L rs).1],H')∧ze4 3 H0 H' v' (zio L rs).2.length (zb9 (zio L rs).2):=by
 have hr:=(zdX E0 rfl (.pointer (some ⟨p,0,none⟩)) x H0).trans (zed _ _ _ _);obtain⟨H1,v1,e1,o1⟩:=Go.AM.c14 hst hd hL hx hl;rw[zkA T.p_cadenceref07_Store _ ⟨T.cadenceref07_Store,by kernel_rfl⟩,zac,zaJ,zah e1,x01,za8,zac] at hr;have hbd:=ziJ hst hd hL hx hl;have hbl:=zfG hd rs;unfold zio;cases hall:rs.all (isT L) with
 |false=>
  have e:zct L rs=(70,[]):=by unfold zct;rw[hall];rfl
  rw[e] at o1 hr;rw[decide_eq_true (show ¬ ((70,([]:List Nat)):Int × List Nat).1=0 by decide),zaX] at hr;rw[if_neg (by decide)];exact⟨H1,_,hr,ze4.nil ⟨o1.next,fun j hj _=>o1.old j hj⟩⟩
 |true=>
  have e:zct L rs=(0,posts L (rs.map Int.toNat) []):=by unfold zct;rw[hall];rfl
  have hbd:=hbd hall;rw[e] at o1 hr hbd hbl;have o1:zmc H0 H1 v1 (posts L (rs.map Int.toNat) []):=o1;rw[decide_eq_false (show ¬ ¬ ((0,posts L (rs.map Int.toNat) []):Int × List Nat).1=0 by simp),zaJ] at hr;rw[if_pos rfl];dsimp only at hbd hbl;unfold varsR;generalize posts L (rs.map Int.toNat) []=out at *;have hst1:StF H1 p lim L K sl f g:=hst.keep (fun i hi=>o1.old i (hst.foot_lt hi)) o1.next
  obtain⟨H2,v2,l1,l2⟩:=ziT hst1 (by omega) o1.vec.rd (by omega) hbd (zbt RR (.pointer (some ⟨p,0,none⟩)) v1) (fun H acc=>by
   unfold zbt;simp only[qg0,qg1]
   rw[o1.vec.len,lF (Int.lt_irrefl _)]) (fun i t n H acc acc' H' hi ht hn hs hv a b=>by
   have hlt:i<out.length:=(List.getElem?_eq_some_iff.1 hi).1;have hvI:Rdb H 1 v1 (out.map fun (t:Nat)=>(t:Int)).length (zbz (out.map fun (t:Nat)=>(t:Int))):=by rw[List.length_map,←zbN];exact hv
   obtain⟨y,x1,x2⟩:=hvI.int (i:=i) (t:=(t:Int)) (by rw[List.getElem?_map,hi];rfl);have q:(i:Int)<(out.length:Int):=by omega
   have w1:IntKind.i64.wrap ((i:Int)+1)=((i+1:Nat):Int):=zax (by omega) (by omega);have w2:IntKind.i64.wrap ((t:Int)-1)=((t-1:Nat):Int):=by rw[zax (by omega) (by omega)];omega
   obtain⟨sl',hsl,hix⟩:=hs.st.all.ix (i:=t-1) (by omega) (α:=Outc);unfold zbt;simp only[qg0,qg1];rw[o1.vec.len,lT q,zbs,zaP,Nat.zero_add,hs.st.l1,x1,x2,zb2,w2,hix,ld7 hsl hn,spl7,zjC,zaO,zac];by_cases h4:n.op=4
   ·rw[decide_eq_true h4,zaX,ncell6,zkQ,bvv,a h4,zaQ,w1]
   ·obtain⟨rfl,rfl⟩:=b h4
    rw[decide_eq_false h4,zaJ,zaQ,w1]) out.length 0 H1 (.slice none 0 0) (by omega) ((Own.nil H1).addNil 3)
  have l1:zas (zbt RR (.pointer (some ⟨p,0,none⟩)) v1) [.slice none 0 0,.int .i64 0] H1=_:=l1;rw[l1,zam,za1,zaz] at hr;exact⟨H2,v2,hr,(ze4.of l2).behind o1.next o1.old⟩
end
end Go.AM.N14
namespace Go.AM.N14
open Go Go.AM
theorem c_plus {a b:Nat} (ha:a<18446744073709551616) (hb:b<18446744073709551616) (H:Hp):RR F.a84 [.int .u64 (a:Int),.int .u64 (b:Int)] H=some (.int .u64 ((satU (a+b):Nat):Int),H):=by
 have hr:=znI E0 rfl (.int .u64 (a:Int)) (.int .u64 (b:Int)) H;unfold zjH at hr;rw[satU_eq];by_cases h:a+b≤18446744073709551615
 ·have e:IntKind.u64.wrap ((a:Int)+(b:Int))=((a+b:Nat):Int):=by rw[Go.AM.zgZ (by omega) (by omega)];omega
  rw[zaQ,e,lF (by omega),zaQ,e] at hr;rw[if_pos h];exact hr
 ·have e:IntKind.u64.wrap ((a:Int)+(b:Int))=((a+b-18446744073709551616:Nat):Int):=by have:=Go.AM.u64mod (a:=a+b) (by omega) (by omega);rw[←this];congr 1
  rw[zaQ,e,lT (by omega)] at hr;rw[if_neg h];exact hr
theorem zi7 (n:Nat):satU n<18446744073709551616:=by unfold satU;omega
theorem zky {L:List Nd} (hd:Dag L):∀ t,t≤L.length→(sizT L t).1<18446744073709551616∧(sizT L t).2≤t:=by
 intro t;induction t using Nat.strongRecOn with
 |_ t ih=>
  intro ht;by_cases h0:t=0
  ·subst h0;exact⟨by show (0:Nat)<_;decide,Nat.le_refl _⟩
  ·have hn:L[t-1]?=some (L[t-1]'(by omega)):=List.getElem?_eq_getElem (by omega);generalize L[t-1]'(by omega)=n at hn;have ha:=hd.a _ n hn;have hb:=hd.b _ n hn;have hc:=hd.c _ n hn;have a2:=ih n.a.toNat (by omega) (by omega);have b2:=ih n.b.toNat (by omega) (by omega);have c2:=ih n.c.toNat (by omega) (by omega);unfold sizT at a2 b2 c2 ⊢;rw[zla hd sizF (0,0) (by omega) hn];refine⟨zi7 _,?_⟩;show max (max _ _) _+1≤t;omega
theorem ziZ {B H:Hp} {m1 m2:Nat} {N D:Int→Int} (h:VS B H m1 m2 N D) {t:Nat} {a b c:Int} {j:Nat} {x:Int} (hx:[a,b,c][j]?=some x) (hxt:x≠(t:Int)) {n d nx dx:Nat} (hn:N (t:Int)=(n:Int)) (hd:D (t:Int)=(d:Int))
  (hx0:x=0→nx=0∧dx=0) (hx1:x≠0→N x=(nx:Int)∧D x=(dx:Int)) (bn:n<18446744073709551616) (bnx:nx<18446744073709551616) :
  ∃ H' N' D',zbP RR (.map (some m1)) (.map (some m2)) (.int .i64 (t:Int)) (.agg #[.int .i64 a,.int .i64 b,.int .i64 c]) [.int .i64 (j:Int)] H=some (.next,[.int .i64 ((j+1:Nat):Int)],H')∧VS B H' m1 m2 N' D'∧N' (t:Int)=((satU (n+nx):Nat):Int)∧D' (t:Int)=((max d dx:Nat):Int)∧∀ y,y≠(t:Int)→N' y=N y∧D' y=D y:=by
 have hj:j<3:=(List.getElem?_eq_some_iff.1 hx).1;have q:(j:Int)<3:=by omega
 have w1:IntKind.i64.wrap ((j:Int)+1)=((j+1:Nat):Int):=zax (by omega) (by omega);by_cases h0:x=0
 ·obtain⟨rfl,rfl⟩:=hx0 h0;refine⟨H,N,D,?_,h,?_,?_,fun y _=>⟨rfl,rfl⟩⟩
  ·unfold zbP;simp only[qg0];rw[lT q,arr3 hx,za8,bF (fun q=>q h0),zaQ,w1]
  ·rw[hn];unfold satU;omega
  ·rw[hd];omega
 ·obtain⟨e1,e2⟩:=hx1 h0;obtain⟨H1,u1,h1⟩:=h.up1 (t:Int) ((satU (n+nx):Nat):Int);obtain⟨H2,u2,h2⟩:=h1.up2 (t:Int) ((max d dx:Nat):Int);have hmx:(if ((dx:Nat):Int)>((d:Nat):Int) then ((dx:Nat):Int) else ((d:Nat):Int))=((max d dx:Nat):Int):=by split<;>omega
  refine⟨H2,_,_,?_,h2,by rw[if_pos rfl],by rw[if_pos rfl],fun y hy=>⟨by rw[if_neg hy],by rw[if_neg hy]⟩⟩;have lv:∀ (x:Int) (f:Value→Option Outc),zbB PP T.int (.int .u64 0) (.map (some m1)) (.int .i64 x) false H f=f (.int .u64 (N x)):=fun x f=>h.f1.look ikV x f;have lw:∀ (x:Int) (f:Value→Option Outc),zbB PP T.int (.int .i64 0) (.map (some m2)) (.int .i64 x) false H1 f=f (.int .i64 (D x)):=fun x f=>h1.f2.look ikV x f;unfold zbP;simp only[qg0];rw[lT q,arr3 hx,za8,bT h0,lv,lv,hn,e1,zah (c_plus bn bnx H),u1,lw,lw,hd,e2,mm_i64,hmx,u2,zaQ,w1]
section
variable {B:Hp} {p f g:Nat} {lim:Int} {L:List Nd} {K:List (ByteArray × Int)} {sl:Value} (hst:StF B p lim L K sl f g) (hL:(L.length:Int)≤4611686018427387904) (hd:Dag L)
 {v:Value} {out:List Nat} (hv:Rdb B 1 v out.length (ints out)) (hol:out.length≤2^41) (hcl:zdK L out) (hnd:out.Nodup) (hbd:∀ t∈out,1≤t∧t≤L.length) {m1 m2:Nat}
include hst hL hd hv hol hcl hbd hnd
theorem size_step {i t:Nat} (hi:out[i]?=some t) {H:Hp} {N D:Int→Int} (h:VS B H m1 m2 N D) (h0:D (t:Int)=0) (hin:∀ u∈out.take i,N (u:Int)=(((sizT L u).1:Nat):Int)∧D (u:Int)=(((sizT L u).2:Nat):Int)) :
  ∃ H' N' D',zb7 RR (.pointer (some ⟨p,0,none⟩)) v (.map (some m1)) (.map (some m2)) (.int .i64 (out.length:Int)) [.int .i64 (i:Int)] H=some (.next,[.int .i64 ((i+1:Nat):Int)],H')∧VS B H' m1 m2 N' D'∧N' (t:Int)=(((sizT L t).1:Nat):Int)∧D' (t:Int)=(((sizT L t).2:Nat):Int)∧∀ y,y≠(t:Int)→N' y=N y∧D' y=D y:=by
 have hlt:i<out.length:=(List.getElem?_eq_some_iff.1 hi).1;have ht:=hbd t (List.mem_of_getElem? hi);have hn:L[t-1]?=some (L[t-1]'(by omega)):=List.getElem?_eq_getElem (by omega);generalize L[t-1]'(by omega)=n at hn;have hvH:Rdb H 1 v out.length (ints out):=hv.keep' (fun j hj=>h.old j (hv.lt hj)) h.next;have hvI:Rdb H 1 v (out.map fun (t:Nat)=>(t:Int)).length (zbz (out.map fun (t:Nat)=>(t:Int))):=by rw[List.length_map,←zbN];exact hvH
 obtain⟨y,x1,x2⟩:=hvI.int (i:=i) (t:=(t:Int)) (by rw[List.getElem?_map,hi];rfl);have q:(i:Int)<(out.length:Int):=by omega
 have w1:IntKind.i64.wrap ((i:Int)+1)=((i+1:Nat):Int):=zax (by omega) (by omega);have hstH:StF H p lim L K sl f g:=hst.keep (fun i hi=>h.old i (hst.foot_lt hi)) h.next;have hT:isT L (t:Int)=true:=zbo.2 ⟨by omega,by omega⟩;have hnode:zfm L (t:Int)=n:=by unfold zfm;rw[hT,if_pos rfl,show ((t:Int)-1).toNat=t-1 by omega,hn];rfl
 have e10:=Go.AM.c10 hstH.st hL (t:Int);rw[hnode,hT,if_pos rfl] at e10;have hkf:=(zf7 hd hn).2;have hkt:kids L t=zb1 n:=by unfold kids;rw[hn]
 have ha:=hd.a _ n hn;have hb:=hd.b _ n hn;have hc:=hd.c _ n hn;obtain⟨H1,u1,h1⟩:=h.up1 (t:Int) 1;have part:∀ (x:Int),x=n.a∨x=n.b∨x=n.c→0≤x→x<(t:Int)→(x=0→(sizT L x.toNat).1=0∧(sizT L x.toNat).2=0)∧(x≠0→N x=(((sizT L x.toNat).1:Nat):Int)∧D x=(((sizT L x.toNat).2:Nat):Int)):=fun x hx g1 g2=>by refine⟨fun e=>by subst e;exact⟨rfl,rfl⟩,fun e=>?_⟩;obtain⟨c,c1,c2⟩:=hkf x hx e;have:=hin c (hcl i t hi c (by rw[hkt];exact c1));rw[←c2,Int.toNat_natCast];exact this
 obtain⟨pa0,pa1⟩:=part n.a (.inl rfl) (by omega) (by omega);obtain⟨pb0,pb1⟩:=part n.b (.inr (.inl rfl)) (by omega) (by omega);obtain⟨pc0,pc1⟩:=part n.c (.inr (.inr rfl)) (by omega) (by omega);have ba:=zky hd n.a.toNat (by omega);have bb:=zky hd n.b.toNat (by omega);have bc:=zky hd n.c.toNat (by omega);obtain⟨H2,N2,D2,s2,h2,n2,d2,o2⟩:=ziZ h1 (t:=t) (a:=n.a) (b:=n.b) (c:=n.c) (j:=0) (x:=n.a) rfl (by omega) (n:=1) (d:=0) (nx:=(sizT L n.a.toNat).1) (dx:=(sizT L n.a.toNat).2) (by rw[if_pos rfl];rfl) h0 pa0 (fun e=>by rw[if_neg (by omega)];exact pa1 e) (by decide) ba.1;obtain⟨H3,N3,D3,s3,h3,n3,d3,o3⟩:=ziZ h2 (t:=t) (a:=n.a) (b:=n.b) (c:=n.c) (j:=1) (x:=n.b) rfl (by omega) (nx:=(sizT L n.b.toNat).1) (dx:=(sizT L n.b.toNat).2) n2 d2 pb0 (fun e=>by rw[(o2 n.b (by omega)).1,(o2 n.b (by omega)).2,if_neg (by omega)];exact pb1 e) (zi7 _) bb.1;obtain⟨H4,N4,D4,s4,h4,n4,d4,o4⟩:=ziZ h3 (t:=t) (a:=n.a) (b:=n.b) (c:=n.c) (j:=2) (x:=n.c) rfl (by omega) (nx:=(sizT L n.c.toNat).1) (dx:=(sizT L n.c.toNat).2) n3 d3 pc0 (fun e=>by rw[(o3 n.c (by omega)).1,(o3 n.c (by omega)).2,(o2 n.c (by omega)).1,(o2 n.c (by omega)).2,if_neg (by omega)];exact pc1 e) (zi7 _) bc.1;have hinner:zas (zbP RR (.map (some m1)) (.map (some m2)) (.int .i64 (t:Int)) (.agg #[.int .i64 n.a,.int .i64 n.b,.int .i64 n.c])) [.int .i64 0] H1=some (.exit 2,[.int .i64 3],H4):=by
  rw[zai];have s2:zbP RR (.map (some m1)) (.map (some m2)) (.int .i64 (t:Int)) (.agg #[.int .i64 n.a,.int .i64 n.b,.int .i64 n.c]) [.int .i64 0] H1=_:=s2;rw[s2];show zas _ _ _=_;rw[zai,s3];show zas _ _ _=_;rw[zai,s4];show zas _ [.int .i64 3] _=_;rw[zai];have:zbP RR (.map (some m1)) (.map (some m2)) (.int .i64 (t:Int)) (.agg #[.int .i64 n.a,.int .i64 n.b,.int .i64 n.c]) [.int .i64 3] H4=some (.exit 2,[.int .i64 3],H4):=by unfold zbP;simp only[qg0];rw[lF (by decide)]
  rw[this];rfl
 obtain⟨H5,u5,h5⟩:=h4.up2 (t:Int) (((sizT L t).2:Nat):Int);have esz:sizT L t=sizF n (sizT L n.a.toNat) (sizT L n.b.toNat) (sizT L n.c.toNat):=zla hd sizF (0,0) ht.1 hn;have ld:∀ (f:Value→Option Outc),zbB PP T.int (.int .i64 0) (.map (some m2)) (.int .i64 (t:Int)) false H4 f=f (.int .i64 (D4 (t:Int))):=fun f=>h4.f2.look ikV _ f;have wd1:IntKind.i64.wrap (((max (max (max 0 (sizT L n.a.toNat).2) (sizT L n.b.toNat).2) (sizT L n.c.toNat).2:Nat):Int)+1)=(((sizT L t).2:Nat):Int):=by
  rw[zax (by omega) (by omega),esz];show _=((max (max _ _) _+1:Nat):Int)
  omega
 refine⟨H5,_,_,?_,h5,?_,by rw[if_pos rfl],fun y hy=>?_⟩
 ·unfold zb7;simp only[qg0];rw[lT q,x1,x2,zah e10,x01,spl7,u1,zhh,zhg,zia,zel,hinner,zam,za1,zaz,ld,d4,zaQ,wd1,u5,zaQ,w1]
 ·rw[n4,esz];rfl
 ·rw[if_neg hy];refine⟨?_,?_⟩
  ·rw[(o4 y hy).1,(o3 y hy).1,(o2 y hy).1,if_neg hy]
  ·rw[(o4 y hy).2,(o3 y hy).2,(o2 y hy).2]
theorem zml:∀ (k i:Nat) (H:Hp) (N D:Int→Int),i+k=out.length→VS B H m1 m2 N D→(∀ x:Int,(∀ t∈out.take i,(t:Int)≠x)→D x=0)→(∀ u∈out.take i,N (u:Int)=(((sizT L u).1:Nat):Int)∧D (u:Int)=(((sizT L u).2:Nat):Int)) →
  ∃ H' N' D',zas (zb7 RR (.pointer (some ⟨p,0,none⟩)) v (.map (some m1)) (.map (some m2)) (.int .i64 (out.length:Int))) [.int .i64 (i:Int)] H=some (.exit 0,[.int .i64 (out.length:Int)],H')∧VS B H' m1 m2 N' D'∧∀ u∈out,N' (u:Int)=(((sizT L u).1:Nat):Int)∧D' (u:Int)=(((sizT L u).2:Nat):Int)
 |0,i,H,N,D,hk,h,_,hin=>by
  have:i=out.length:=by omega
  subst this;refine⟨H,N,D,?_,h,fun u hu=>hin u (by rw[List.take_length];exact hu)⟩;rw[zai];have:zb7 RR (.pointer (some ⟨p,0,none⟩)) v (.map (some m1)) (.map (some m2)) (.int .i64 (out.length:Int)) [.int .i64 (out.length:Int)] H=some (.exit 0,[.int .i64 (out.length:Int)],H):=by unfold zb7;simp only[qg0];rw[lF (Int.lt_irrefl _)]
  rw[this];rfl
 |k+1,i,H,N,D,hk,h,h0,hin=>by
  have hlt:i<out.length:=by omega
  have hi:out[i]?=some out[i]:=List.getElem?_eq_getElem hlt;have hdrop:out.drop i=out[i] :: out.drop (i+1):=List.drop_eq_getElem_cons hlt;generalize out[i]=t at hi hdrop;have htk:out.take (i+1)=out.take i++[t]:=by rw[List.take_add_one,hi];rfl
  have hnew:∀ u∈out.take i,(u:Int)≠(t:Int):=fun u hu e=>by
   have e:u=t:=by omega
   subst e;have:=hnd;rw[←List.take_append_drop i out,hdrop] at this;exact(List.nodup_append.1 this).2.2 u hu u (List.mem_cons_self ..) rfl
  obtain⟨H1,N1,D1,e1,h1,n1,d1,o1⟩:=size_step hst hL hd hv hol hcl hnd hbd hi h (h0 _ hnew) hin
  obtain⟨H',N',D',g1,g2,g3⟩:=zml k (i+1) H1 N1 D1 (by omega) h1 (fun x hx=>by
   rw[htk] at hx;rw[(o1 x fun e=>hx t (List.mem_append_right _ (List.mem_singleton.2 rfl)) e.symm).2]
   exact h0 x fun u hu=>hx u (List.mem_append_left _ hu)) (fun u hu=>by
   rw[htk] at hu;rcases List.mem_append.1 hu with hu|hu
   ·rw[(o1 _ (hnew u hu)).1,(o1 _ (hnew u hu)).2];exact hin u hu
   ·rw[List.mem_singleton] at hu;subst hu
    exact⟨n1,d1⟩)
  refine⟨H',N',D',?_,g2,g3⟩;rw[zai,e1];exact g1
end
def zpI (L:List Nd) (t:Int):Nat × (Nat × Nat) × Int:=if isT L t=true then ((posts L [t.toNat] []).length,sizT L t.toNat,0) else (0,(0,0),70)
def ziq (s:Nat × (Nat × Nat) × Int):Value:=.tuple #[.int .i64 (s.1:Int),.int .u64 (s.2.1.1:Int),.int .i64 (s.2.1.2:Int),.int .i64 s.2.2]
theorem zmV {L:List Nd} {t:Int}:zct L [t]=if isT L t=true then (0,posts L [t.toNat] []) else (70,[]):=by unfold zct;rw[List.all_cons,List.all_nil,Bool.and_true];rfl
section
variable {H0:Hp} {p f g:Nat} {lim:Int} {L:List Nd} {K:List (ByteArray × Int)} {sl:Value} (hst:StF H0 p lim L K sl f g) (hd:Dag L) (hL:L.length*64≤2^46) (t:Int)
include hst hd hL
theorem c_size:∃ H',RR F.a9 [.pointer (some ⟨p,0,none⟩),.int .i64 t] H0=some (ziq (zpI L t),H')∧Frm (fun _=>False) H0 H':=by
 have hr:=(zjf E0 rfl (.pointer (some ⟨p,0,none⟩)) (.int .i64 t) H0).trans (zjT _ _ _ _);have hb:∀ (k:Value→Hp→Option (Value × Hp)),zak 1 [.int .i64 0] 1 [(0,.int .i64 t)] H0 k=k (.slice (some ⟨H0.next,0,some 1⟩) 1 1) (H0.new (.cells [.int .i64 t] true)):=fun k=>rfl;let H1:=H0.new (.cells [.int .i64 t] true)
 have h1o:∀ j,j<H0.next→H1.get j=H0.get j:=fun j hj=>by show (H0.new _).get j=_;rw[get_new,if_neg (by omega)]
 have h1n:H1.next=H0.next+1:=rfl;have hst1:StF H1 p lim L K sl f g:=hst.keep (fun i hi=>h1o i (hst.foot_lt hi)) (by omega);have hx1:Rdb H1 1 (.slice (some ⟨H0.next,0,some 1⟩) 1 1) [t].length (zbz [t]):=.inr ⟨H0.next,1,[],true,rfl,Nat.le_refl _,by show (H0.new _).get _=_;rw[get_new,if_pos rfl];rfl,rfl,by omega⟩;obtain⟨H2,v2,e2,o2⟩:=Go.AM.c13 hst1 hd hL hx1 (by show 1≤_;decide);have hn2:=o2.next;have o02:∀ j,j<H0.next→H2.get j=H0.get j:=fun j hj=>by rw[o2.old j (by omega),h1o j hj]
 rw[zkA T.p_term_Store _ ⟨T.term_Store,by kernel_rfl⟩,zac,zaJ,hb,zah e2,x01,za8,zac] at hr;have hbd:=ziJ hst1 hd hL hx1 (by show 1≤_;decide);have hbl:=zfG hd [t];unfold zpI;rw[zmV] at o2 hr hbd hbl;rw[List.all_cons,List.all_nil,Bool.and_true] at hbd;cases hT:isT L t with
 |false=>
  rw[hT,if_neg (by decide)] at o2 hr;rw[decide_eq_true (show ¬ ((70,([]:List Nat)):Int × List Nat).1=0 by decide),zaX] at hr;rw[if_neg (by decide)];exact⟨H2,hr,by omega,fun j hj _=>o02 j hj⟩
 |true=>
  have hbd:=hbd hT;rw[hT,if_pos rfl] at o2 hr hbd hbl;rw[if_pos rfl];have o2:zmc H1 H2 v2 (posts L [t.toNat] []):=o2;dsimp only at hbd hbl;have htb:=zbo.1 hT;have h1:∀ c∈[t.toNat],1≤c∧c≤L.length:=fun c hc=>by rw[List.mem_singleton] at hc;omega
  have hndp:(posts L [t.toNat] []).Nodup:=ziE hd _ [] (fun c hc=>(h1 c hc).1) List.nodup_nil;have hcl:zdK L (posts L [t.toNat] []):=(zf2 hd _ [] (fun c hc=>(h1 c hc).1) (fun i t h=>by cases h)).1;have hmem:=(zdh hd (N:=L.length) [t.toNat] [] h1).2.1 t.toNat (List.mem_singleton.2 rfl);rw[decide_eq_false (show ¬ ¬ ((0,posts L [t.toNat] []):Int × List Nat).1=0 by simp),zaJ] at hr;generalize posts L [t.toNat] []=out at *;have hh:∀ (n:Int) (f:Option (Value × Hp)),zhM (.int .i64 n) f=f:=fun n f=>rfl;have hm:∀ (H:Hp) (f:Value→Hp→Option (Value × Hp)),zcb H f=f (.map (some H.next)) (H.new (.map [])):=fun H f=>rfl;let Hu:=H2.new (.map [])
  let Hv:=Hu.new (.map [])
  have hvs:VS H2 Hv H2.next Hu.next (fun _=>0) (fun _=>0):=by
   refine⟨?_,fun j hj=>?_,?_,?_,?_,?_,?_,?_⟩
   ·show H2.next≤H2.next+1+1;omega
   ·show ((H2.new (.map [])).new (.map [])).get j=_;rw[get_new,if_neg (by show j≠H2.next+1;omega),get_new,if_neg (by omega)]
   ·exact Nat.le_refl _
   ·show H2.next≤H2.next+1;omega
   ·show H2.next≠H2.next+1;omega
   ·show H2.next<H2.next+1+1;omega
   ·exact(MapU.new H2).keep (by show (Hu.new (.map [])).get H2.next=Hu.get H2.next;rw[get_new,if_neg (by show H2.next≠H2.next+1;omega)])
   ·exact MapF.new Hu
  have hst2:StF H2 p lim L K sl f g:=hst.keep (fun i hi=>o02 i (hst.foot_lt hi)) (by omega);obtain⟨H3,N',D',l1,h3,l3⟩:=zml hst2 (by omega) hd o2.vec.rd (by omega) hcl hndp hbd out.length 0 Hv (fun _=>0) (fun _=>0) (by omega) hvs (fun _ _=>rfl) (fun t ht=>by rw[List.take_zero] at ht;cases ht);have l1:zas (zb7 RR (.pointer (some ⟨p,0,none⟩)) v2 (.map (some H2.next)) (.map (some (H2.new (.map [])).next)) (.int .i64 (out.length:Int))) [.int .i64 0] ((H2.new (.map [])).new (.map []))=_:=l1;have lv:∀ (x:Int) (f:Value→Option (Value × Hp)),zbB PP T.int (.int .u64 0) (.map (some H2.next)) (.int .i64 x) false H3 f=f (.int .u64 (N' x)):=fun x f=>h3.f1.look ikV x f;have lw:∀ (x:Int) (f:Value→Option (Value × Hp)),zbB PP T.int (.int .i64 0) (.map (some (H2.new (.map [])).next)) (.int .i64 x) false H3 f=f (.int .i64 (D' x)):=fun x f=>h3.f2.look ikV x f;rw[o2.vec.len,hh,hm,o2.vec.len,hh,hm,o2.vec.len,l1,zam,za1,zaz,o2.vec.len,lv,lw] at hr;obtain⟨r1,r2⟩:=l3 t.toNat hmem;rw[Int.toNat_of_nonneg (by omega)] at r1 r2;rw[r1,r2] at hr;have:=h3.next;exact⟨H3,hr,by omega,fun j hj _=>by rw[h3.old j (by omega),o02 j hj]⟩
end
end Go.AM.N14
namespace Go.AM.N14
open Go Go.AM
section
variable {A:Type} {mk:A→Value} {H0 H:Hp} {v:Value} {l:List A} {r:List Sl}
theorem zo5 (h:Own H0 H (⟨1,v,l.length,l.map mk⟩ :: r)) {i:Nat} {a:A} (hi:l[i]?=some a):∃ y,(∀ (α:Type) (kd:IntKind) (k:Value→Option α),pIdx 1 v (.int kd (i:Int)) k=k (.pointer (some ⟨y,i*1,none⟩)))∧(∀ (α:Type) (k:Value→Option α),zal 1 false H (.pointer (some ⟨y,i*1,none⟩)) k=k (mk a)):=by obtain⟨y,h1,h2,h3,_⟩:=h.set (List.getElem?_eq_some_iff.1 hi).1;exact⟨y,h2,fun α k=>h3 (i*1) _ (by rw[Nat.mul_one,List.getElem?_map,hi];rfl) α k⟩
theorem own_wr (h:Own H0 H (⟨1,v,l.length,l.map mk⟩ :: r)) (hm:∀ a,zab (mk a)=[mk a]∧one (mk a)=true) {i:Nat} (hi:i<l.length) (x:A):∃ y,(∀ (α:Type) (kd:IntKind) (k:Value→Option α),pIdx 1 v (.int kd (i:Int)) k=k (.pointer (some ⟨y,i*1,none⟩))) ∧
  ∃ H',(∀ (α:Type) (k:Hp→Option α),zau 1 H (.pointer (some ⟨y,i*1,none⟩)) (mk x) k=k H')∧Own H0 H' (⟨1,v,(l.set i x).length,(l.set i x).map mk⟩ :: r):=by
 obtain⟨y,h1,h2,_,_,h5⟩:=h.set hi;obtain⟨H',g1,g2⟩:=h5 (i*1) 1 (mk x) (by rw[(hm x).1];rfl) (by omega) (by rw[(hm x).1];show (one (mk x)&&true)=true;rw[(hm x).2];rfl);refine⟨y,h2,H',g1,?_⟩;have e:spl (l.map mk) (i*1) (zab (mk x))=(l.set i x).map mk:=by rw[(hm x).1];exact spl_set mk l hi x
 rw[e] at g2;rw[List.length_set];exact g2
end
def nU (t:Nat):Value:=.int .u64 (t:Int)
def nI (t:Nat):Value:=.int .i64 (t:Int)
theorem nU_one (a:Nat):zab (nU a)=[nU a]∧one (nU a)=true:=⟨rfl,rfl⟩
theorem nI_one (a:Nat):zab (nI a)=[nI a]∧one (nI a)=true:=⟨rfl,rfl⟩
theorem zoh {α:Type} {j:Nat} (h:j<3) (k:Nat→Option α):zbL 3 (.int .i64 (j:Int)) k=k j:=by unfold zbL;dsimp only;rw[if_pos ⟨by omega,by omega⟩,Int.toNat_natCast]
abbrev SZ (B H:Hp) (tv dv:Value) (tl dl:List Nat):Prop:=Own B H [⟨1,tv,tl.length,tl.map nU⟩,⟨1,dv,dl.length,dl.map nI⟩]
theorem q_part {B H:Hp} {tv dv:Value} {tl dl:List Nat} (h:SZ B H tv dv tl dl) {a b c:Int} {j:Nat} {x:Int} (hx:[a,b,c][j]?=some x) (hxn:0≤x) {n d nx dx:Nat}
  (hx0:x=0→nx=0∧dx=0) (hx1:x≠0→tl[x.toNat]?=some nx∧dl[x.toNat]?=some dx) (bn:n<18446744073709551616) (bnx:nx<18446744073709551616) :
  zba RR tv dv [.int .i64 a,.int .i64 b,.int .i64 c] [nU n,nI d,.int .i64 (j:Int)] H=some (.next,[nU (satU (n+nx)),nI (max d dx),.int .i64 ((j+1:Nat):Int)],H):=by
 have hj:j<3:=(List.getElem?_eq_some_iff.1 hx).1;have q:(j:Int)<3:=by omega
 have w1:IntKind.i64.wrap ((j:Int)+1)=((j+1:Nat):Int):=zax (by omega) (by omega)
 have hc:∀ {α:Type} (k:Value→Option α),zad 1 false [.int .i64 a,.int .i64 b,.int .i64 c] (0+j*1) k=k (.int .i64 x):=fun k=>zcq _ _ _ (by
  rw[Nat.zero_add,Nat.mul_one];have:([a,b,c].map fun z=>Value.int .i64 z)[j]?=some (.int .i64 x):=by rw[List.getElem?_map,hx];rfl
  exact this) k
 unfold zba;simp only[qg0,qg1];rw[lT q,zoh hj,hc,zaO,zac];by_cases h0:x=0
 ·obtain⟨rfl,rfl⟩:=hx0 h0;rw[decide_eq_true h0,zaX,zaQ,w1,Nat.max_zero];have:satU (n+0)=n:=by unfold satU;omega
  rw[this]
 ·obtain⟨e1,e2⟩:=hx1 h0;obtain⟨y,y1,y2⟩:=zo5 h e1;obtain⟨z,z1,z2⟩:=zo5 h.swap e2;rw[Int.toNat_of_nonneg hxn] at y1 z1;have hg:((dx:Int)>(d:Int))↔max d dx≠d:=by omega
  rw[decide_eq_false h0,zaJ,zoh hj,hc,y1,y2];unfold nU nI at *;rw[zaQ,zaT,zac,satU_eq];by_cases h:n+nx≤18446744073709551615
  ·have e:IntKind.u64.wrap ((n:Int)+(nx:Int))=((n+nx:Nat):Int):=by rw[Go.AM.zgZ (by omega) (by omega)];omega
   rw[e,decide_eq_false (by omega),zaJ,zoh hj,hc,y1,y2,zaQ,e,zoh hj,hc,z1,z2,zbi,zac,if_pos h];by_cases hd:(dx:Int)>(d:Int)
   ·have hm:max d dx=dx:=by omega
    rw[decide_eq_true hd,zaX,zoh hj,hc,z1,z2,zaQ,w1,hm]
   ·have hm:max d dx=d:=by omega
    rw[decide_eq_false hd,zaJ,zaQ,w1,hm]
  ·have e:IntKind.u64.wrap ((n:Int)+(nx:Int))=((n+nx-18446744073709551616:Nat):Int):=by have:=Go.AM.u64mod (a:=n+nx) (by omega) (by omega);rw[←this];congr 1
   rw[e,decide_eq_true (by omega),zaX,zoh hj,hc,z1,z2,zbi,zac,if_neg h];by_cases hd:(dx:Int)>(d:Int)
   ·have hm:max d dx=dx:=by omega
    rw[decide_eq_true hd,zaX,zoh hj,hc,z1,z2,zaQ,w1,hm];rfl
   ·have hm:max d dx=d:=by omega
    rw[decide_eq_false hd,zaJ,zaQ,w1,hm];rfl
section
variable {B:Hp} {p f g:Nat} {lim:Int} {L:List Nd} {K:List (ByteArray × Int)} {sl:Value} (hst:StF B p lim L K sl f g) (hL:(L.length:Int)≤4611686018427387904) (hd:Dag L)
 {v:Value} {out:List Nat} (hv:Rdb B 1 v out.length (ints out)) (hol:out.length≤2^41) (hcl:zdK L out) (hbd:∀ t∈out,1≤t∧t≤L.length) {tv dv:Value}
include hst hL hd hv hol hcl hbd
theorem zpV {i t:Nat} (hi:out[i]?=some t) {H:Hp} {tl dl:List Nat} (h:SZ B H tv dv tl dl) (htl:tl.length=L.length+1) (hdl:dl.length=L.length+1) (hin:∀ u∈out.take i,tl[u]?=some (sizT L u).1∧dl[u]?=some (sizT L u).2) :
  ∃ H',za9 RR (.pointer (some ⟨p,0,none⟩)) v tv dv [.int .i64 (i:Int)] H=some (.next,[.int .i64 ((i+1:Nat):Int)],H')∧SZ B H' tv dv (tl.set t (sizT L t).1) (dl.set t (sizT L t).2):=by
 have hlt:i<out.length:=(List.getElem?_eq_some_iff.1 hi).1;have ht:=hbd t (List.mem_of_getElem? hi);have hn:L[t-1]?=some (L[t-1]'(by omega)):=List.getElem?_eq_getElem (by omega);generalize L[t-1]'(by omega)=n at hn;have q:(i:Int)<(out.length:Int):=by omega
 have w1:IntKind.i64.wrap ((i:Int)+1)=((i+1:Nat):Int):=zax (by omega) (by omega);have w2:IntKind.i64.wrap ((t:Int)-1)=((t-1:Nat):Int):=by rw[zax (by omega) (by omega)];omega
 have hkf:=(zf7 hd hn).2;have hkt:kids L t=zb1 n:=by unfold kids;rw[hn]
 have ha:=hd.a _ n hn;have hb:=hd.b _ n hn;have hc:=hd.c _ n hn;have part:∀ (x:Int),x=n.a∨x=n.b∨x=n.c→0≤x→x<(t:Int)→(x=0→(sizT L x.toNat).1=0∧(sizT L x.toNat).2=0)∧(x≠0→tl[x.toNat]?=some (sizT L x.toNat).1∧dl[x.toNat]?=some (sizT L x.toNat).2):=fun x hx g1 g2=>by refine⟨fun e=>by subst e;exact⟨rfl,rfl⟩,fun e=>?_⟩;obtain⟨c,c1,c2⟩:=hkf x hx e;have:=hin c (hcl i t hi c (by rw[hkt];exact c1));rw[←c2,Int.toNat_natCast];exact this
 obtain⟨pa0,pa1⟩:=part n.a (.inl rfl) (by omega) (by omega);obtain⟨pb0,pb1⟩:=part n.b (.inr (.inl rfl)) (by omega) (by omega);obtain⟨pc0,pc1⟩:=part n.c (.inr (.inr rfl)) (by omega) (by omega);have ba:=zky hd n.a.toNat (by omega);have bb:=zky hd n.b.toNat (by omega);have bc:=zky hd n.c.toNat (by omega);have s1:=q_part h (a:=n.a) (b:=n.b) (c:=n.c) (j:=0) (x:=n.a) rfl (by omega) (n:=1) (d:=0) pa0 pa1 (by decide) ba.1;have s2:=q_part h (a:=n.a) (b:=n.b) (c:=n.c) (j:=1) (x:=n.b) rfl (by omega) (n:=satU (1+(sizT L n.a.toNat).1)) (d:=max 0 (sizT L n.a.toNat).2) pb0 pb1 (zi7 _) bb.1;have s3:=q_part h (a:=n.a) (b:=n.b) (c:=n.c) (j:=2) (x:=n.c) rfl (by omega) (n:=satU (satU (1+(sizT L n.a.toNat).1)+(sizT L n.b.toNat).1)) (d:=max (max 0 (sizT L n.a.toNat).2) (sizT L n.b.toNat).2) pc0 pc1 (zi7 _) bc.1;have esz:sizT L t=sizF n (sizT L n.a.toNat) (sizT L n.b.toNat) (sizT L n.c.toNat):=zla hd sizF (0,0) ht.1 hn;have hinner:zas (zba RR tv dv [.int .i64 n.a,.int .i64 n.b,.int .i64 n.c]) [.int .u64 1,.int .i64 0,.int .i64 0] H=some (.exit 2,[nU (sizT L t).1,nI (max (max (max 0 (sizT L n.a.toNat).2) (sizT L n.b.toNat).2) (sizT L n.c.toNat).2),.int .i64 3],H):=by
  rw[zai];have s1:zba RR tv dv [.int .i64 n.a,.int .i64 n.b,.int .i64 n.c] [.int .u64 1,.int .i64 0,.int .i64 0] H=_:=s1;rw[s1];show zas _ _ _=_;rw[zai,s2];show zas _ _ _=_;rw[zai,s3];show zas _ [_,_,.int .i64 3] _=_;rw[zai];have:∀ x y,zba RR tv dv [.int .i64 n.a,.int .i64 n.b,.int .i64 n.c] [x,y,.int .i64 3] H=some (.exit 2,[x,y,.int .i64 3],H):=fun x y=>by unfold zba;simp only[qg0,qg1];rw[lF (by decide)]
  rw[this,esz];rfl
 have hvH:Rdb H 1 v out.length (ints out):=hv.keep' (fun j hj=>h.old j (hv.lt hj)) h.next;obtain⟨y,y1,H1,u1,h1⟩:=own_wr h nU_one (i:=t) (by omega) (sizT L t).1;obtain⟨z,z1,H2,u2,h2⟩:=own_wr h1.swap nI_one (i:=t) (by omega) (sizT L t).2;have hv1:Rdb H1 1 v out.length (ints out):=hv.keep' (fun j hj=>h1.old j (hv.lt hj)) h1.next;have hvI:∀ {H:Hp},Rdb H 1 v out.length (ints out)→Rdb H 1 v (out.map fun (t:Nat)=>(t:Int)).length (zbz (out.map fun (t:Nat)=>(t:Int))):=fun h=>by rw[List.length_map,←zbN];exact h
 obtain⟨x,x1,x2⟩:=(hvI hvH).int (i:=i) (t:=(t:Int)) (by rw[List.getElem?_map,hi];rfl);obtain⟨x',x1',x2'⟩:=(hvI hv1).int (i:=i) (t:=(t:Int)) (by rw[List.getElem?_map,hi];rfl);have hs:=(Own.st h hst)
 obtain⟨sl',hsl,hix⟩:=hs.st.all.ix (i:=t-1) (by omega) (α:=Outc);have splA:∀ {α:Type} (a b c:Int) (k:List Value→Option α),zaD 3 [.int .i64 0,.int .i64 0,.int .i64 0] 0 (.agg #[.int .i64 a,.int .i64 b,.int .i64 c]) k=k [.int .i64 a,.int .i64 b,.int .i64 c]:=fun a b c k=>spl3 a b c k;have u1':∀ (k:Hp→Option Outc),zau 1 H (.pointer (some ⟨y,t*1,none⟩)) (nU (sizT L t).1) k=k H1:=fun k=>u1 _ k;have u2':∀ (k:Hp→Option Outc),zau 1 H1 (.pointer (some ⟨z,t*1,none⟩)) (.int .i64 (((sizT L t).2:Nat):Int)) k=k H2:=fun k=>u2 _ k;have wd1:IntKind.i64.wrap (((max (max (max 0 (sizT L n.a.toNat).2) (sizT L n.b.toNat).2) (sizT L n.c.toNat).2:Nat):Int)+1)=(((sizT L t).2:Nat):Int):=by
  rw[zax (by omega) (by omega),esz];show _=((max (max _ _) _+1:Nat):Int)
  omega
 refine⟨H2,?_,h2.swap⟩;unfold za9;simp only[qg0];rw[hvH.len,lT q,zbs,zaP,Nat.zero_add,hs.st.l1,x1,x2,zb2,w2,hix,ld7 hsl hn,spl7,zhh,zhg,zia,zel,splA,hinner,zam,za1,zaz];simp only[qg0,qg1];rw[x1,x2,y1,u1',x1',x2'];unfold nI;rw[zaQ,wd1,z1,u2',zaQ,w1]
theorem zkF:∀ (k i:Nat) (H:Hp) (tl dl:List Nat),i+k=out.length→SZ B H tv dv tl dl→tl.length=L.length+1→dl.length=L.length+1→(∀ u∈out.take i,tl[u]?=some (sizT L u).1∧dl[u]?=some (sizT L u).2) →
  ∃ H' tl' dl',zas (za9 RR (.pointer (some ⟨p,0,none⟩)) v tv dv) [.int .i64 (i:Int)] H=some (.exit 0,[.int .i64 (out.length:Int)],H')∧SZ B H' tv dv tl' dl'∧∀ u∈out,tl'[u]?=some (sizT L u).1∧dl'[u]?=some (sizT L u).2
 |0,i,H,tl,dl,hk,h,_,_,hin=>by
  have:i=out.length:=by omega
  subst this;refine⟨H,tl,dl,?_,h,fun u hu=>hin u (by rw[List.take_length];exact hu)⟩;rw[zai];have hvH:Rdb H 1 v out.length (ints out):=hv.keep' (fun j hj=>h.old j (hv.lt hj)) h.next;have:za9 RR (.pointer (some ⟨p,0,none⟩)) v tv dv [.int .i64 (out.length:Int)] H=some (.exit 0,[.int .i64 (out.length:Int)],H):=by unfold za9;simp only[qg0];rw[hvH.len,lF (Int.lt_irrefl _)]
  rw[this];rfl
 |k+1,i,H,tl,dl,hk,h,htl,hdl,hin=>by
  have hlt:i<out.length:=by omega
  have hi:out[i]?=some out[i]:=List.getElem?_eq_getElem hlt;generalize out[i]=t at hi;have ht:=hbd t (List.mem_of_getElem? hi);have htk:out.take (i+1)=out.take i++[t]:=by rw[List.take_add_one,hi];rfl
  obtain⟨H1,e1,h1⟩:=zpV hst hL hd hv hol hcl hbd hi h htl hdl hin
  obtain⟨H',tl',dl',g1,g2,g3⟩:=zkF k (i+1) H1 _ _ (by omega) h1 (by rw[List.length_set];exact htl) (by rw[List.length_set];exact hdl) (fun u hu=>by
   rw[List.getElem?_set,List.getElem?_set,htl,hdl];by_cases e:t=u
   ·subst e;rw[if_pos rfl,if_pos rfl,if_pos (by omega),if_pos (by omega)];exact⟨rfl,rfl⟩
   ·rw[if_neg e,if_neg e];rw[htk] at hu;rcases List.mem_append.1 hu with hu|hu
    ·exact hin u hu
    ·rw[List.mem_singleton] at hu
     exact absurd hu.symm e)
  refine⟨H',tl',dl',?_,g2,g3⟩;rw[zai,e1];exact g1
end
theorem zlw {mk:Nat→Value}:∀ n:Nat,repl n [mk 0]=(List.replicate n 0).map mk
 |0=>rfl
 |n+1=>by rw[List.replicate_succ,List.map_cons,←zlw n];rfl
section
variable {H0:Hp} {p f g:Nat} {lim:Int} {L:List Nd} {K:List (ByteArray × Int)} {sl:Value} (hst:StF H0 p lim L K sl f g) (hd:Dag L) (hL:L.length*64≤2^46) (t:Int)
include hst hd hL
theorem q_size:∃ H',RR F.a16 [.pointer (some ⟨p,0,none⟩),.int .i64 t] H0=some (ziq (zpI L t),H')∧Frm (fun _=>False) H0 H':=by
 have hr:=(zdY E0 rfl (.pointer (some ⟨p,0,none⟩)) (.int .i64 t) H0).trans (zee _ _ _ _);have hb:∀ (k:Value→Hp→Option (Value × Hp)),zak 1 [.int .i64 0] 1 [(0,.int .i64 t)] H0 k=k (.slice (some ⟨H0.next,0,some 1⟩) 1 1) (H0.new (.cells [.int .i64 t] true)):=fun k=>rfl;let H1:=H0.new (.cells [.int .i64 t] true)
 have h1o:∀ j,j<H0.next→H1.get j=H0.get j:=fun j hj=>by show (H0.new _).get j=_;rw[get_new,if_neg (by omega)]
 have h1n:H1.next=H0.next+1:=rfl;have hst1:StF H1 p lim L K sl f g:=hst.keep (fun i hi=>h1o i (hst.foot_lt hi)) (by omega);have hx1:Rdb H1 1 (.slice (some ⟨H0.next,0,some 1⟩) 1 1) [t].length (zbz [t]):=.inr ⟨H0.next,1,[],true,rfl,Nat.le_refl _,by show (H0.new _).get _=_;rw[get_new,if_pos rfl];rfl,rfl,by omega⟩;obtain⟨H2,v2,e2,o2⟩:=Go.AM.c14 hst1 hd hL hx1 (by show 1≤_;decide);have hn2:=o2.next;have o02:∀ j,j<H0.next→H2.get j=H0.get j:=fun j hj=>by rw[o2.old j (by omega),h1o j hj]
 rw[zkA T.p_cadenceref07_Store _ ⟨T.cadenceref07_Store,by kernel_rfl⟩,zac,zaJ,hb,zah e2,x01,za8,zac] at hr;have hbd:=ziJ hst1 hd hL hx1 (by show 1≤_;decide);have hbl:=zfG hd [t];unfold zpI;rw[zmV] at o2 hr hbd hbl;rw[List.all_cons,List.all_nil,Bool.and_true] at hbd;cases hT:isT L t with
 |false=>
  rw[hT,if_neg (by decide)] at o2 hr;rw[decide_eq_true (show ¬ ((70,([]:List Nat)):Int × List Nat).1=0 by decide),zaX] at hr;rw[if_neg (by decide)];exact⟨H2,hr,by omega,fun j hj _=>o02 j hj⟩
 |true=>
  have hbd:=hbd hT;rw[hT,if_pos rfl] at o2 hr hbd hbl;rw[if_pos rfl];have o2:zmc H1 H2 v2 (posts L [t.toNat] []):=o2;dsimp only at hbd hbl;have htb:=zbo.1 hT;have h1:∀ c∈[t.toNat],1≤c∧c≤L.length:=fun c hc=>by rw[List.mem_singleton] at hc;omega
  have hcl:zdK L (posts L [t.toNat] []):=(zf2 hd _ [] (fun c hc=>(h1 c hc).1) (fun i t h=>by cases h)).1;have hmem:=(zdh hd (N:=L.length) [t.toNat] [] h1).2.1 t.toNat (List.mem_singleton.2 rfl);rw[decide_eq_false (show ¬ ¬ ((0,posts L [t.toNat] []):Int × List Nat).1=0 by simp),zaJ] at hr;generalize posts L [t.toNat] []=out at *;have hst2:StF H2 p lim L K sl f g:=hst.keep (fun i hi=>o02 i (hst.foot_lt hi)) (by omega);obtain⟨tv,H3,t1,t2⟩:=(Own.nil H2).make (sz:=1) (bytes:=8) (zs:=[.int .u64 0]) rfl (n:=L.length+1) (by omega);have hst3:=Own.st t2 hst2;obtain⟨dv,H4,d1,d2⟩:=t2.make (sz:=1) (bytes:=8) (zs:=[.int .i64 0]) rfl (n:=L.length+1) (by omega);have wl:IntKind.i64.wrap ((L.length:Int)+1)=((L.length+1:Nat):Int):=by rw[zax (by omega) (by omega)];omega
  have r1:repl (L.length+1) [Value.int .u64 0]=(List.replicate (L.length+1) 0).map nU:=zlw (mk:=nU) _;have r2:repl (L.length+1) [Value.int .i64 0]=(List.replicate (L.length+1) 0).map nI:=zlw (mk:=nI) _;rw[r1,r2] at d2;have d2:SZ H2 H4 tv dv (List.replicate (L.length+1) 0) (List.replicate (L.length+1) 0):=by unfold SZ;rw[List.length_replicate];exact d2.swap
  obtain⟨H5,tl,dl,l1,l2,l3⟩:=zkF hst2 (by omega) hd o2.vec.rd (by omega) hcl hbd out.length 0 H4 _ _ (by omega) d2 (by simp) (by simp) (fun t ht=>by rw[List.take_zero] at ht;cases ht);have l1:zas (za9 RR (.pointer (some ⟨p,0,none⟩)) v2 tv dv) [.int .i64 0] H4=_:=l1;obtain⟨q1,q2⟩:=l3 t.toNat hmem;obtain⟨y,y1,y2⟩:=zo5 l2 q1;obtain⟨z,z1,z2⟩:=zo5 l2.swap q2;rw[Int.toNat_of_nonneg (by omega)] at y1 z1;rw[zbs,zaP,Nat.zero_add,hst2.st.l1,hst2.st.all.len,zaQ,wl,t1,zbs,zaP,Nat.zero_add,hst3.st.l1,hst3.st.all.len,zaQ,wl,d1,l1,zam,za1,zaz,o2.vec.len,y1,y2,z1,z2] at hr;have:=l2.next;exact⟨H5,hr,by omega,fun j hj _=>by rw[l2.old j (by omega),o02 j hj]⟩
end
end Go.AM.N14
namespace Go.AM
open Go
def liveT:List UInt8:=[49,32,118,97,114,32,120,32,56,10,50,32,118,97,114,32,121,32,56,10,51,32,97,100,100,32,49,32,50,10,52,32,101,113,32,51,32,49,10,114,111,111,116,115,32,51,32,52,10]
def nmX:ByteArray:=⟨#[120]⟩
def nmY:ByteArray:=⟨#[121]⟩
def zp9:List Nd:=[⟨4,8,0,0,0,0,nmX⟩,⟨4,8,0,0,0,0,nmY⟩,⟨20,8,1,2,0,0,⟨#[]⟩⟩,⟨9,0,3,1,0,0,⟨#[]⟩⟩]
def liveK:List (ByteArray × Int):=[(nmX,8),(nmY,8)]
theorem zm3:zec 0 (zbp liveT) 0 [] [] []=.good zp9 liveK [3,4]:=by kernel_rfl
end Go.AM
namespace Go.AM.N14
open Go Go.AM
theorem nodeP_num {ws:List (List UInt8)} {ts:List Int} {L:List Nd} {m:Nd} (h:zn1 ws ts L=some m):zkh m:=by
 unfold zn1 at h;split at h
 ·cases h
 ·split at h
  ·cases h
  ·split at h
   ·rename_i q;cases h;exact(zh4 _ _ _ _ _ _ _ q).2 ⟨Int.le_refl _,by show (0:Int)<_;decide⟩
   ·cases h
theorem partF_mem {ts:List Int} {ws:List (List UInt8)} {x:Int} (h:zji ts ws=some x):x∈ts:=by
 unfold zji at h;split at h
 ·cases h
 ·split at h
  ·rename_i q;cases h;rw[List.getD_eq_getElem?_getD,List.getElem?_eq_getElem (by omega)];exact List.getElem_mem _
  ·cases h
theorem zkD {ts:List Int}:∀ (ws:List (List UInt8)) (q:List Int),zcr ts ws=some q→∀ x∈q,x∈ts
 |[],q,h=>by cases h;exact fun x hx=>by cases hx
 |w :: r,q,h=>by
  unfold zcr at h;split at h
  ·cases h
  ·rename_i t ht;split at h
   ·cases h
   ·rename_i l hl;cases h;intro x hx;rcases List.mem_cons.1 hx with e|e
    ·rw[e];exact partF_mem ht
    ·exact zkD r l hl x e
theorem mk_grow {lim:Int} {L:List Nd} {K:List (ByteArray × Int)} (n:Nd):L.length≤(mkR lim L K n).2.2.1.length:=by
 by_cases h0:(mkR lim L K n).2.1=0
 ·obtain⟨_,⟨q,_,e⟩|⟨_,_,e⟩⟩:=zjD h0<;>rw[e]<;>simp
 ·rw[mk_no h0];exact Nat.le_refl _
theorem zk1 {lim:Int}:∀ (lines:List (List UInt8)) (k:Nat) (L:List Nd) (K:List (ByteArray × Int)) (ts:List Int) (L':List Nd) (K':List (ByteArray × Int)) (q:List Int),zhy L K→(∀ x∈ts,1≤x∧x≤L.length)→zec lim lines k L K ts=.good L' K' q→zhy L' K'∧∀ x∈q,1≤x∧x≤L'.length
 |[],k,L,K,ts,L',K',q,hg,ht,h=>by cases h
 |l :: rest,k,L,K,ts,L',K',q,hg,ht,h=>by
  unfold zec at h;cases hw:zbl l with
  |nil=>rw[hw] at h;cases h
  |cons w0 r=>
   rw[hw] at h;dsimp only at h;split at h
   ·cases hp:zcr ts r with
    |none=>rw[hp] at h;cases h
    |some q'=>
     rw[hp] at h;cases rest with
     |nil=>
      cases h;exact⟨hg,fun x hx=>ht x (zkD r _ hp x hx)⟩
     |cons a b=>cases h
   ·cases hp:zjN (w0 :: r) ts L with
    |none=>rw[hp] at h;cases h
    |some m=>
     rw[hp] at h;dsimp only at h;split at h
     ·cases h
     ·rename_i he;have he:(mkR lim L K m).2.1=0:=Decidable.not_not.1 he;have hm:zkh m:=by
       unfold zjN at hp;split at hp
       ·cases hp
       ·split at hp
        ·exact nodeP_num hp
        ·cases hp
      refine zk1 rest (k+1) _ _ _ L' K' q (mk_goodS hm hg) (fun x hx=>?_) h;have hgr:=mk_grow (lim:=lim) (L:=L) (K:=K) m;rcases List.mem_append.1 hx with hx|hx
      ·have:=ht x hx;omega
      ·rw[List.mem_singleton] at hx;rw[hx];exact mk_bd he
theorem zm2 {lim:Int} {l:List UInt8} {L:List Nd} {K:List (ByteArray × Int)} {q:List Int} (h:zec lim (zbp l) 0 [] [] []=.good L K q):zhy L K∧∀ x∈q,1≤x∧x≤L.length:=
 zk1 _ _ _ _ _ _ _ _ zhy.nil (fun x hx=>by cases hx) h
theorem c_no (x:Value) (H:Hp):RR F.a8 [x] H=some (x,H):=zhK E0 rfl x H
theorem Rdb.at1 {H:Hp} {x:Value} {n:Nat} {cs:List Value} (hx:Rdb H 1 x n cs) {i:Nat} {z:Value} (hi:cs[i]?=some z) :
  ∃ y,(∀ (α:Type) (kd:IntKind) (k:Value→Option α),pIdx 1 x (.int kd (i:Int)) k=k (.pointer (some ⟨y,i*1,none⟩)))∧(∀ (α:Type) (k:Value→Option α),zal 1 false H (.pointer (some ⟨y,i*1,none⟩)) k=k z):=by
 have hs:=hx.size;obtain⟨y,hy,⟨rest,own,hg⟩,hix⟩:=hx.ix (i:=i) (by have:=(List.getElem?_eq_some_iff.1 hi).1;omega);exact⟨y,hix,fun α k=>zeH hg (by rw[Nat.mul_one];exact hi) k⟩
theorem zlf {H:Hp} {x y:Value} {l:List Int} (hx:Rdb H 1 x l.length (zbz l)) (hy:Rdb H 1 y l.length (zbz l)) (hl:l.length≤2^60):RR F.a48 [x,y] H=some (.bool true,H):=by
 have hr:=(ze8 E0 rfl x y H).trans (zfc _ _ _ _);refine hr.trans ?_
 have hloop:=zf6 (S:=zbr RR x y) (H:=H) l.length (fun i hi=>by
   have hg:(zbz l)[i]?=some (.int .i64 l[i]):=zm7 (List.getElem?_eq_getElem hi);obtain⟨a,a1,a2⟩:=Rdb.at1 hx hg;obtain⟨b,b1,b2⟩:=Rdb.at1 hy hg;have w:IntKind.i64.wrap ((i:Int)+1)=((i+1:Nat):Int):=zax (by omega) (by omega);have q:(i:Int)<(l.length:Int):=by omega
   unfold zbr
   simp only[hx.len,zaT,qg0,q,decide_true,zac,zaX,a1,a2,b1,b2,za8,ne_eq,not_true_eq_false,decide_false,zaJ,zaQ,w])
  (by unfold zbr;simp only[hx.len,zaT,qg0,Int.lt_irrefl,decide_false,zac,zaJ]) l.length 0 (by omega)
 rw[hx.len,hy.len,za8,bF (by simp),show (0:Int)=((0:Nat):Int) from rfl,hloop,zam,za1,zaz]
theorem wvs_get {l:List W64} {i:Nat} {a:W64} (h:l[i]?=some a):(wvs l)[i]?=some (.int .u64 (a.toNat:Int)):=by unfold wvs;rw[List.getElem?_map,h];rfl
theorem zov {H:Hp} {x y:Value} {l:List W64} (hx:Rdb H 1 x l.length (wvs l)) (hy:Rdb H 1 y l.length (wvs l)) (hl:l.length≤2^60):RR F.a30 [x,y] H=some (.bool true,H):=by
 have hr:=(zeR E0 rfl x y H).trans (ze1 _ _ _ _);refine hr.trans ?_
 have hloop:=zf6 (S:=zbm RR x y) (H:=H) l.length (fun i hi=>by
   have hg:(wvs l)[i]?=some (.int .u64 (l[i].toNat:Int)):=wvs_get (List.getElem?_eq_getElem hi);obtain⟨a,a1,a2⟩:=Rdb.at1 hx hg;obtain⟨b,b1,b2⟩:=Rdb.at1 hy hg;have w:IntKind.i64.wrap ((i:Int)+1)=((i+1:Nat):Int):=zax (by omega) (by omega);have q:(i:Int)<(l.length:Int):=by omega
   unfold zbm
   simp only[hx.len,zaT,qg0,q,decide_true,zac,zaX,a1,a2,b1,b2,za8,ne_eq,not_true_eq_false,decide_false,zaJ,zaQ,w])
  (by unfold zbm;simp only[hx.len,zaT,qg0,Int.lt_irrefl,decide_false,zac,zaJ]) l.length 0 (by omega)
 rw[hx.len,hy.len,za8,bF (by simp),show (0:Int)=((0:Nat):Int) from rfl,hloop,zam,za1,zaz]
theorem eqVd (n m:VV):eqT PP Op.maxDepth T.api_Value n.val m.val=zfv (n.name==m.name) (zfv (n.w==m.w) (zfv (n.num==m.num) (some true))):=by kernel_rfl
theorem s_neqV {α:Type} (n:VV) (k:Value→Option α):pBin PP .neq T.api_Value n.val n.val k=k (.bool false):=by
 have hg:PP.eqGuardType PP.depth T.api_Value=false:=by kernel_rfl
 have h1:eqOp PP T.api_Value n.val n.val=some true:=by show (match PP.eqGuardType PP.depth T.api_Value with|true=>none|false=>eqT PP Op.maxDepth T.api_Value n.val n.val)=_;rw[hg,eqVd,(zhV n.name n.name).2 rfl,beq_self_eq_true n.w,beq_self_eq_true n.num];rfl
 have:binV PP .neq T.api_Value n.val n.val=some (.bool false):=by show (match eqOp PP T.api_Value n.val n.val with|some b=>some (Value.bool !b)|none=>none)=_;rw[h1];rfl
 unfold pBin;rw[this]
theorem zqi {H:Hp} {x y:Value} {l:List VV} (hx:Rdb H 3 x l.length (zb9 l)) (hy:Rdb H 3 y l.length (zb9 l)) (hl:l.length≤2^60):RR F.a49 [x,y] H=some (.bool true,H):=by
 have hr:=(ze7 E0 rfl x y H).trans (zfb _ _ _ _);refine hr.trans ?_
 have hloop:=zf6 (S:=zbq RR x y) (H:=H) l.length (fun i hi=>by
   have hg:l[i]?=some l[i]:=List.getElem?_eq_getElem hi;obtain⟨a,_,a1,a2,_⟩:=Rdb.vv hx hg;obtain⟨b,_,b1,b2,_⟩:=Rdb.vv hy hg;have w:IntKind.i64.wrap ((i:Int)+1)=((i+1:Nat):Int):=zax (by omega) (by omega);have q:(i:Int)<(l.length:Int):=by omega
   unfold zbq
   simp only[hx.len,zaT,qg0,q,decide_true,zac,zaX,a1,a2,b1,b2,s_neqV,zaJ,zaQ,w])
  (by unfold zbq;simp only[hx.len,zaT,qg0,Int.lt_irrefl,decide_false,zac,zaJ]) l.length 0 (by omega)
 rw[hx.len,hy.len,za8,bF (by simp),show (0:Int)=((0:Nat):Int) from rfl,hloop,zam,za1,zaz]
def zlU:List VV:=[⟨nmX,8,200⟩,⟨nmY,8,100⟩]
def zhn:List VV:=[⟨nmX,4,1⟩]
theorem live_vals:zcJ zp9 [3,4] zlU=(0,[44#64,0#64]):=by kernel_rfl
theorem live_val1:zcJ zp9 [3] zhn=(71,[]):=by kernel_rfl
theorem live_size:zpI zp9 4=(4,(5,3),0):=by kernel_rfl
theorem zpd:(∀ v∈zlU,v.Ok)∧∀ v∈zhn,v.Ok:=by
 refine⟨fun v hv=>?_,fun v hv=>?_⟩
 ·simp only[zlU,List.mem_cons,List.not_mem_nil,or_false] at hv;rcases hv with rfl|rfl
  ·exact⟨by show (0:Int)≤200;decide,by show (200:Int)<_;decide⟩
  ·exact⟨by show (0:Int)≤100;decide,by show (100:Int)<_;decide⟩
 ·simp only[zhn,List.mem_cons,List.not_mem_nil,or_false] at hv;subst hv;exact⟨by show (0:Int)≤1;decide,by show (1:Int)<_;decide⟩
theorem zn3 {H:Hp} {sz n:Nat} {cs:List Value} (h:cs.length=n*sz):Rdb (H.new (.cells cs true)) sz (.slice (some ⟨H.next,0,some sz⟩) n n) n cs:=
 .inr ⟨H.next,n,[],true,rfl,Nat.le_refl _,by rw[get_new,if_pos rfl,List.append_nil],h,by show H.next<H.next+1;omega⟩
theorem s_and {α:Type} (k:Value→Option α):pBin PP .add T.int (.int .i64 0) (.int .i64 0) k=k (.int .i64 0):=rfl
theorem c_live {H:Hp} (hL:Laid H):∃ H',RR F.a75 [] H=some (.bool true,H')∧Frm (fun _=>False) H H':=by
 have hr:=zgI E0 rfl H;unfold zeb at hr;have hc:=c_load hL liveT (by decide) (lim:=0) (by decide);rw[zm3] at hc;have hgood:=zm2 zm3;obtain⟨H1,st,f,g,sl,rv,a1,a2,a3,a4,a5,a6,a7⟩:=hc;have a1:RR F.a27 [.string ⟨#[49,32,118,97,114,32,120,32,56,10,50,32,118,97,114,32,121,32,56,10,51,32,97,100,100,32,49,32,50,10,52,32,101,113,32,51,32,49,10,114,111,111,116,115,32,51,32,52,10]⟩,.int .i64 0] H=_:=a1;have a3:Vec H1 1 rv 2 (zbz [3,4]):=a3;rw[znF a1] at hr;simp only[(s_t4 _ _ _ _ _).1,(s_t4 _ _ _ _ _).2.1,(s_t4 _ _ _ _ _).2.2.1,(s_t4 _ _ _ _ _).2.2.2] at hr;rw[zah (c_no _ _),za8,bF (by decide),zkA T.p_term_Store _ ⟨T.term_Store,by kernel_rfl⟩,zac,zaJ,a3.len,za8,bF (by decide),zam,zaG,bvv3,bvv3] at hr;have hb2:∀ (H:Hp) (k:Value→Hp→Option (Value × Hp)),zak 3 [.string ⟨#[]⟩,.int .i64 0,.int .u64 0] 2 [(0,VV.val ⟨⟨#[120]⟩,8,200⟩),(1,VV.val ⟨⟨#[121]⟩,8,100⟩)] H k=k (.slice (some ⟨H.next,0,some 3⟩) 2 2) (H.new (.cells (zb9 zlU) true)):=fun H k=>rfl;have hb1:∀ (H:Hp) (k:Value→Hp→Option (Value × Hp)),zak 3 [.string ⟨#[]⟩,.int .i64 0,.int .u64 0] 1 [(0,VV.val ⟨⟨#[120]⟩,4,1⟩)] H k=k (.slice (some ⟨H.next,0,some 3⟩) 1 1) (H.new (.cells (zb9 zhn) true)):=fun H k=>rfl;have hb0:∀ (H:Hp) (k:Value→Hp→Option (Value × Hp)),zak 1 [.int .u64 0] 2 [(0,(.int .u64 44)),(1,(.int .u64 0))] H k=k (.slice (some ⟨H.next,0,some 1⟩) 2 2) (H.new (.cells (wvs [44#64,0#64]) true)):=fun H k=>rfl;rw[hb2] at hr;let H2:=H1.new (.cells (zb9 zlU) true)
 have f12:Frm (fun _=>False) H1 H2:=zcA _ _ _;have kst:∀ {A B:Hp},Frm (fun _=>False) A B→StF A st 0 zp9 liveK sl f g→StF B st 0 zp9 liveK sl f g:=fun k h=>h.keep (fun j hj=>k.same j (h.foot_lt hj) fun q=>q) k.next;have krv:∀ {A B:Hp},Frm (fun _=>False) A B→Vec A 1 rv 2 (zbz [3,4])→Vec B 1 rv 2 (zbz [3,4]):=fun k h=>h.keep k fun _ _ q=>q;have s2:=kst f12 a2;have r2:=krv f12 a3;have n2:Rdb H2 3 (.slice (some ⟨H1.next,0,some 3⟩) 2 2) zlU.length (zb9 zlU):=zn3 (H:=H1) (sz:=3) (n:=2) (cs:=zb9 zlU) rfl;obtain⟨H3,v3,e3,m3⟩:=zpv s2 hgood.1 (by decide) (rs:=[3,4]) r2.rd (by decide) n2 (by decide) zpd.1;rw[live_vals] at e3 m3;have e3:RR F.a25 [.pointer (some ⟨st,0,none⟩),rv,.slice (some ⟨H1.next,0,some 3⟩) 2 2] (H1.new (.cells (zb9 zlU) true))=_:=e3;have f23:Frm (fun _=>False) H2 H3:=⟨m3.next,fun j hj _=>m3.old j hj⟩
 have s3:=kst f23 s2;have r3:=krv f23 r2;rw[zah e3,x01] at hr;obtain⟨y,y1,y2⟩:=Rdb.at1 r3.rd (i:=1) (z:=.int .i64 4) rfl;have y1':∀ (k:Value→Option (Value × Hp)),pIdx 1 rv (.int .i64 1) k=_:=fun k=>y1 _ .i64 k;rw[y1',y2] at hr;obtain⟨H4,e4,f34⟩:=c_size s3 hgood.1.dag (by decide) 4;rw[live_size] at e4;have s4:=kst f34 s3;have r4:=krv f34 r3;have e4:RR F.a9 [.pointer (some ⟨st,0,none⟩),.int .i64 4] H3=some (.tuple #[.int .i64 4,.int .u64 5,.int .i64 3,.int .i64 0],H4):=e4;rw[zah e4] at hr;simp only[(s_t4 _ _ _ _ _).1,(s_t4 _ _ _ _ _).2.1,(s_t4 _ _ _ _ _).2.2.1,(s_t4 _ _ _ _ _).2.2.2] at hr;obtain⟨z,z1,z2⟩:=Rdb.at1 r4.rd (i:=0) (z:=.int .i64 3) rfl;have z1':∀ (k:Value→Option (Value × Hp)),pIdx 1 rv (.int .i64 0) k=_:=fun k=>z1 _ .i64 k;rw[z1',z2,bvv3,hb1] at hr;let H5:=H4.new (.cells (zb9 zhn) true)
 have f45:Frm (fun _=>False) H4 H5:=zcA _ _ _;have s5:=kst f45 s4;have r5:=krv f45 r4;have n5:Rdb H5 3 (.slice (some ⟨H4.next,0,some 3⟩) 1 1) zhn.length (zb9 zhn):=zn3 (H:=H4) (sz:=3) (n:=1) (cs:=zb9 zhn) rfl;obtain⟨H6,e6,n6,o6⟩:=c_value s5 hgood.1 (by decide) (rs:=[3,4]) r5.rd (by decide) n5 (by decide) zpd.2 (t:=3);rw[live_val1] at e6;have e6:RR F.a54 [.pointer (some ⟨st,0,none⟩),.int .i64 3,.slice (some ⟨H4.next,0,some 3⟩) 1 1] (H4.new (.cells (zb9 zhn) true))=_:=e6;have f56:Frm (fun _=>False) H5 H6:=⟨n6,fun j hj _=>o6 j hj⟩
 have t:∀ {A B C:Hp},Frm (fun _=>False) A B→Frm (fun _=>False) B C→Frm (fun _=>False) A C:=fun a b=>a.trans b fun j q=>q.elim;have f36:Frm (fun _=>False) H3 H6:=t (t f34 f45) f56;rw[zah e6,x01,zah (c_no _ _),zah (c_no _ _),s_and,eT rfl,hb0] at hr;let H7:=H6.new (.cells (wvs [44#64,0#64]) true)
 have f67:Frm (fun _=>False) H6 H7:=zcA _ _ _;have m7:Vec H7 1 v3 2 (wvs [44#64,0#64]):=m3.vec.keep (t f36 f67) fun _ _ q=>q;have hsame:=zov (l:=[44#64,0#64]) m7.rd (zn3 (H:=H6) (sz:=1) (n:=2) (cs:=wvs [44#64,0#64]) rfl) (by decide);have hsame:RR F.a30 [v3,.slice (some ⟨H6.next,0,some 1⟩) 2 2] (H6.new (.cells (wvs [44#64,0#64]) true))=_:=hsame;rw[zah hsame,zac,zaX,eT rfl,eT rfl,eT rfl,zah (c_no _ _),zaO,decide_eq_true rfl] at hr;exact⟨H7,hr,t (t (t (t a4 f12) f23) f36) f67⟩
end Go.AM.N14
namespace Go.AM.N14
open Go Go.AM
end Go.AM.N14
namespace Go.AM.N14
open Go Go.AM
theorem c_equal {H:Hp} {p f g p' f' g':Nat} {lim lim':Int} {L:List Nd} {K K':List (ByteArray × Int)} {sl sl':Value} (hs:StF H p lim L K sl f g) (hq:StF H p' lim' L K' sl' f' g') (hL:(L.length:Int)≤4611686018427387904) :
  RR F.a47 [.pointer (some ⟨p,0,none⟩),.pointer (some ⟨p',0,none⟩)] H=some (.bool true,H):=by
 have hr:=(zgh E0 rfl (.pointer (some ⟨p,0,none⟩)) (.pointer (some ⟨p',0,none⟩)) H).trans (zgl _ _ _ _);have A:=hs.st;have B:=hq.st;have hloop:∀ (k i:Nat),i+k=L.length→zas (za6 RR (.pointer (some ⟨p,0,none⟩)) (.pointer (some ⟨p',0,none⟩))) [.int .i64 ((i+1:Nat):Int)] H=some (.exit 0,[.int .i64 ((L.length+1:Nat):Int)],H):=by
  intro k;induction k with
  |zero=>
   intro i hi;have:i=L.length:=by omega
   subst this;have:za6 RR (.pointer (some ⟨p,0,none⟩)) (.pointer (some ⟨p',0,none⟩)) [.int .i64 ((L.length+1:Nat):Int)] H=some (.exit 0,[.int .i64 ((L.length+1:Nat):Int)],H):=by unfold za6;simp only[qg0];rw[zbs,zaP,Nat.zero_add,B.l1,B.all.len,zb4,bF (by omega)]
   rw[zai,this];rfl
  |succ k ih=>
   intro i hi;have hlt:i<L.length:=by omega
   have hn:=zp6 hlt;obtain⟨y,hy,hix⟩:=B.all.ix hlt (α:=Outc);have w1:IntKind.i64.wrap (((i+1:Nat):Int)+1)=((i+1+1:Nat):Int):=zax (by omega) (by omega);have w2:IntKind.i64.wrap (((i+1:Nat):Int)-1)=(i:Int):=by rw[zax (by omega) (by omega)];omega
   have q:((i+1:Nat):Int)≤(L.length:Int):=by omega
   have e10:=Go.AM.c10 A hL ((i+1:Nat):Int);rw[hn.2,if_pos rfl] at e10;have:za6 RR (.pointer (some ⟨p,0,none⟩)) (.pointer (some ⟨p',0,none⟩)) [.int .i64 ((i+1:Nat):Int)] H=some (.next,[.int .i64 ((i+1+1:Nat):Int)],H):=by unfold za6;simp only[qg0];rw[zbs,zaP,Nat.zero_add,B.l1,B.all.len,zb4,bT q,zah e10,x01,spl7,zah (c_no _ _),za8,bF (by simp),zpa,zbs,zaP,Nat.zero_add,B.l1,zb2,w2,hix,ld7 hy (show L[i]?=some L[i] by simp[hlt]),hn.1,s_neq36,zn2,Bool.not_true,zac,zaJ,zaQ,w1]
   rw[zai,this];exact ih (i+1) (by omega)
 have hl:=hloop L.length 0 (by omega);have hl:zas (za6 RR (.pointer (some ⟨p,0,none⟩)) (.pointer (some ⟨p',0,none⟩))) [.int .i64 1] H=_:=hl;rw[zah (Go.AM.c9 A),zbs,zaP,Nat.zero_add,B.l1,zhD B.rd1,B.all.len,s_chkL B.all,za8,bF (by simp),hl,zam,za1,zaz] at hr;exact hr
def StoA (H:Hp) (l:List UInt8):LdR→Prop
 |.bad _ _=>∃ H',RR F.a31 [str l,.int .i64 0] H=some (.tuple #[.pointer none,.pointer none,.slice none 0 0,.bool true],H')∧Frm (fun _=>False) H H'
 |.good L K q=>∃ H' st f g sl st' f' g' sl' rv,RR F.a31 [str l,.int .i64 0] H=some (.tuple #[.pointer (some ⟨st,0,none⟩),.pointer (some ⟨st',0,none⟩),rv,.bool true],H')∧Frm (fun _=>False) H H' ∧
   StF H' st 0 L K sl f g∧StF H' st' 0 L K sl' f' g'∧Vec H' 1 rv q.length (zbz q)
theorem load_bd {l:List UInt8} {L:List Nd} {K:List (ByteArray × Int)} {q:List Int} (h:zec 0 (zbp l) 0 [] [] []=.good L K q):L.length≤l.length+1∧q.length≤l.length+1:=by have hbd:=zpc (N:=l.length) _ _ _ _ _ _ _ _ (zpe l) h;have:=zlV l;have h1:=hbd.1;rw[List.length_nil] at h1;exact⟨by omega,hbd.2⟩
theorem c_stores {H:Hp} (hL:Laid H) (l:List UInt8) (hl:l.length≤2^37):StoA H l (zec 0 (zbp l) 0 [] [] []):=by
 have hr:=zfB E0 rfl (str l) (.int .i64 0) H;unfold zdn at hr;have hc:=c_load hL l hl (lim:=0) (by decide);have hq:∀ H1,LoadA H1 0 F.a11 (fun v=>v) [str l,.int .i64 0] (zec 0 (zbp l) 0 [] [] []):=fun H1=>q_load l hl (by decide);have t:∀ {A B C:Hp},Frm (fun _=>False) A B→Frm (fun _=>False) B C→Frm (fun _=>False) A C:=fun a b=>a.trans b fun j q=>q.elim;have e0:∀ x:Int,¬ (x≠x):=fun x q=>q rfl;cases hr0:zec 0 (zbp l) 0 [] [] [] with
 |bad ln e=>
  rw[hr0] at hc;have hq1:∀ H1,LoadA H1 0 F.a11 (fun v=>v) [str l,.int .i64 0] (.bad ln e):=fun H1=>by have:=hq H1;rw[hr0] at this;exact this
  obtain⟨H1,a1,a2⟩:=hc;obtain⟨H2,b1,b2⟩:=hq1 H1;have b1:RR F.a11 [str l,.int .i64 0] H1=some (.tuple #[.pointer none,.slice none 0 0,.int .i64 (ln:Int),.int .i64 e],H2):=b1;have hi:=zlf (H:=H2) (x:=.slice none 0 0) (y:=.slice none 0 0) (l:=[]) (Vec.nil H2 1).rd (Vec.nil H2 1).rd (by simp);rw[znF a1] at hr;simp only[(s_t4 _ _ _ _ _).1,(s_t4 _ _ _ _ _).2.1,(s_t4 _ _ _ _ _).2.2.1,(s_t4 _ _ _ _ _).2.2.2] at hr;rw[zah b1] at hr;simp only[(s_t4 _ _ _ _ _).1,(s_t4 _ _ _ _ _).2.1,(s_t4 _ _ _ _ _).2.2.1,(s_t4 _ _ _ _ _).2.2.2] at hr;rw[za8,bF (e0 e),zah hi,zbj,zac,Bool.not_true,zaJ,zgy T.p_term_Store zpG,zgy T.p_cadenceref07_Store und24,s_bneq T.bool _ _ und4,zac,beq_self_eq_true,Bool.not_true,zaJ,zam,zaG,zgy T.p_term_Store zpG,zac,zaX] at hr;exact⟨H2,hr,t a2 b2⟩
 |good L K q=>
  rw[hr0] at hc;obtain⟨H1,st,f,g,sl,rv,a1,a2,a3,a4,a5,a6,a7⟩:=hc;have hq1:=hq H1;rw[hr0] at hq1;obtain⟨H2,st',f',g',sl',rv',b1,b2,b3,b4,b5,b6,b7⟩:=hq1;have b1:RR F.a11 [str l,.int .i64 0] H1=some (.tuple #[.pointer (some ⟨st',0,none⟩),rv',.int .i64 0,.int .i64 0],H2):=b1;obtain⟨l1,l2⟩:=load_bd hr0;have A:=a2.keep (fun j hj=>b4.same j (a2.foot_lt hj) fun q=>q) b4.next;have a3:Vec H1 1 rv q.length (zbz q):=a3;have b3:Vec H2 1 rv' q.length (zbz q):=b3;have hi:=zlf (a3.stay b4).rd b3.rd (by omega);have he:=c_equal A b2 (by omega);rw[znF a1] at hr;simp only[(s_t4 _ _ _ _ _).1,(s_t4 _ _ _ _ _).2.1,(s_t4 _ _ _ _ _).2.2.1,(s_t4 _ _ _ _ _).2.2.2] at hr;rw[zah b1] at hr;simp only[(s_t4 _ _ _ _ _).1,(s_t4 _ _ _ _ _).2.1,(s_t4 _ _ _ _ _).2.2.1,(s_t4 _ _ _ _ _).2.2.2] at hr;rw[za8,bF (e0 0),zah hi,zbj,zac,Bool.not_true,zaJ,s_pnil T.p_term_Store _ zpG,s_pnil T.p_cadenceref07_Store _ und24,s_bneq T.bool _ _ und4,zac,beq_self_eq_true,Bool.not_true,zaJ,zam,zaG,s_pnil T.p_term_Store _ zpG,zac,zaJ,zah he] at hr;exact⟨H2,st,f,g,sl,st',f',g',sl',rv,hr,t a4 b4,A,b2,a3.stay b4⟩
theorem c_roots {H:Hp} {rv x:Value} {q os:List Int} (hv:Rdb H 1 rv q.length (zbz q)) (hx:Rdb H 1 x os.length (zbz os)) (hb:(q.length+os.length)*8≤2^47) :
  ∃ w H',(∀ (α:Type) (k:Value→Hp→Option α),(zak 1 [.int .i64 0] 0 [] H fun v17 H18=>zaB 1 8 v17 rv H18 fun v19 H20=>zaB 1 8 v19 x H20 k)=k w H')∧ze4 1 H H' w (q++os).length (zbz (q++os)):=by
 obtain⟨e1,e2⟩:=Vec.empty H 1 [.int .i64 0];let H1:=H.new (.cells [] true)
 have f1:Frm (fun _=>False) H H1:=zcA _ _ _;obtain⟨v2,H2,a1,a2,a3,a4⟩:=e2.app (bytes:=8) (hv.keep f1 fun _ _ q=>q) (zm6 q) (by omega);have n1:(H.new (AObj.cells [] true)).next=H.next+1:=rfl;have id1:∀ j,Id (Value.slice (some ⟨H.next,0,some 1⟩) 0 0) j→j=H.next:=fun j hj=>by cases hj;rfl
 have hx2:Rdb H2 1 x os.length (zbz os):=hx.keep' (fun j hj=>by
  have:=hx.lt hj
  rw[a3.same j (by omega) (fun q=>by have:=id1 j q;omega),f1.same j (by omega) fun q=>q]) (Nat.le_trans f1.next a3.next)
 obtain⟨v3,H3,b1,b2,b3,b4⟩:=a2.app (bytes:=8) hx2 (zm6 os) (by omega);have id2:∀ j,Id v2 j→H.next≤j:=fun j hj=>by
  rcases a4 j hj with q|q
  ·rw[id1 j q];exact Nat.le_refl _
  ·omega
 have n2:=a3.next;have hcs:[]++zbz q++zbz os=zbz (q++os):=by simp[zbz]
 rw[hcs] at b2;have hlen:0+q.length+os.length=(q++os).length:=by rw[List.length_append,Nat.zero_add]
 rw[hlen] at b2;refine⟨v3,H3,fun α k=>by rw[e1,a1,b1],Nat.le_trans (Nat.le_trans f1.next a3.next) b3.next,fun j hj=>?_,b2,fun j hj=>?_⟩
 ·rw[b3.same j (by omega) (fun q=>by have:=id2 j q;omega),a3.same j (by omega) (fun q=>by have:=id1 j q;omega),f1.same j hj fun q=>q]
 ·rcases b4 j hj with q|q
  ·exact id2 j q
  ·omega
theorem zhX {α:Type} (s:Nat × (Nat × Nat) × Int) (k:Value→Option α):zae (ziq s) 0 k=k (.int .i64 (s.1:Int))∧zae (ziq s) 1 k=k (.int .u64 (s.2.1.1:Int))∧zae (ziq s) 2 k=k (.int .i64 (s.2.1.2:Int))∧zae (ziq s) 3 k=k (.int .i64 s.2.2):=⟨rfl,rfl,rfl,rfl⟩
theorem ziY {ps pr w:Value} {rs:List Int} {B:Hp} (hw:Rdb B 1 w rs.length (zbz rs)) (hl:rs.length≤2^40) (z:Int→Nat × (Nat × Nat) × Int)
  (hc:∀ H,Frm (fun _=>False) B H→∀ t,∃ H',RR F.a9 [ps,.int .i64 t] H=some (ziq (z t),H')∧Frm (fun _=>False) H H') (hq:∀ H,Frm (fun _=>False) B H→∀ t,∃ H',RR F.a16 [pr,.int .i64 t] H=some (ziq (z t),H')∧Frm (fun _=>False) H H') :
  ∀ (k i:Nat) (H:Hp),i+k=rs.length→Frm (fun _=>False) B H→∃ H',zas (zaU RR ps pr w) [.int .i64 (i:Int)] H=some (.exit 0,[.int .i64 (rs.length:Int)],H')
 |0,i,H,hk,h=>by
  have:i=rs.length:=by omega
  subst this;have hwH:=hw.keep h fun _ _ q=>q;refine⟨H,?_⟩;have:zaU RR ps pr w [.int .i64 (rs.length:Int)] H=some (.exit 0,[.int .i64 (rs.length:Int)],H):=by unfold zaU;simp only[qg0];rw[hwH.len,lF (Int.lt_irrefl _)]
  rw[zai,this];rfl
 |k+1,i,H,hk,h=>by
  have hlt:i<rs.length:=by omega
  have hi:rs[i]?=some rs[i]:=List.getElem?_eq_getElem hlt;generalize rs[i]=t at hi;have hwH:=hw.keep h fun _ _ q=>q;have tr:∀ {A B C:Hp},Frm (fun _=>False) A B→Frm (fun _=>False) B C→Frm (fun _=>False) A C:=fun a b=>a.trans b fun j q=>q.elim;obtain⟨H1,e1,f1⟩:=hc H h t;have hwH1:=hw.keep (tr h f1) fun _ _ q=>q;obtain⟨H2,e2,f2⟩:=hq H1 (tr h f1) t;obtain⟨y,y1,y2⟩:=hwH.int hi;obtain⟨x,x1,x2⟩:=hwH1.int hi;have w1:IntKind.i64.wrap ((i:Int)+1)=((i+1:Nat):Int):=zax (by omega) (by omega);have q:(i:Int)<(rs.length:Int):=by omega
  have e0:∀ x:Int,¬ (x≠x):=fun x q=>q rfl;obtain⟨H',g1⟩:=ziY hw hl z hc hq k (i+1) H2 (by omega) (tr (tr h f1) f2);refine⟨H',?_⟩;have:zaU RR ps pr w [.int .i64 (i:Int)] H=some (.next,[.int .i64 ((i+1:Nat):Int)],H2):=by unfold zaU;simp only[qg0];rw[hwH.len,lT q,y1,y2,zah e1];simp only[(zhX _ _).1,(zhX _ _).2.1,(zhX _ _).2.2.1,(zhX _ _).2.2.2];rw[x1,x2,zah e2];simp only[(zhX _ _).1,(zhX _ _).2.1,(zhX _ _).2.2.1,(zhX _ _).2.2.2];rw[zah (c_no _ _),za8,bF (e0 _),za8,bF (e0 _),za8,bF (e0 _),za8,bF (e0 _),zaQ,w1]
  rw[zai,this];exact g1
theorem nil_vars (x:Value) (H:Hp):RR F.a26 [.pointer none,x] H=some (.tuple #[.slice none 0 0,.int .i64 2],H):=by refine((zje E0 rfl (.pointer none) x H).trans (zjS _ _ _ _)).trans ?_;rw[zgy T.p_term_Store zpG,zac,zaX]
theorem nilq_vars (x:Value) (H:Hp):RR F.a24 [.pointer none,x] H=some (.tuple #[.slice none 0 0,.int .i64 2],H):=by refine((zdX E0 rfl (.pointer none) x H).trans (zed _ _ _ _)).trans ?_;rw[zgy T.p_cadenceref07_Store und24,zac,zaX]
theorem nil_size (t:Value) (H:Hp):RR F.a9 [.pointer none,t] H=some (ziq (0,(0,0),2),H):=by refine((zjf E0 rfl (.pointer none) t H).trans (zjT _ _ _ _)).trans ?_;rw[zgy T.p_term_Store zpG,zac,zaX];rfl
theorem nilq_size (t:Value) (H:Hp):RR F.a16 [.pointer none,t] H=some (ziq (0,(0,0),2),H):=by refine((zdY E0 rfl (.pointer none) t H).trans (zee _ _ _ _)).trans ?_;rw[zgy T.p_cadenceref07_Store und24,zac,zaX];rfl
theorem run8v (l:List UInt8) (hl:l.length≤2^37) {x:Value} {os:List Int} {H:Hp} (hx:Rdb H 1 x os.length (zbz os)) (hos:os.length≤2^38) (hL:Laid H):∃ H',RR F.a46 [str l,x] H=some (.bool true,H'):=by
 have hr:=ze9 E0 rfl (str l) x H;rw[zfd] at hr;have tr:∀ {A B C:Hp},Frm (fun _=>False) A B→Frm (fun _=>False) B C→Frm (fun _=>False) A C:=fun a b=>a.trans b fun j q=>q.elim;have e0:∀ x:Int,¬ (x≠x):=fun x q=>q rfl;have hsto:=c_stores hL l hl;have main:∀ (H1:Hp) (ps pr rv:Value) (q:List Int) (e:Int) (vs:List VV) (z:Int→Nat × (Nat × Nat) × Int),RR F.a31 [str l,.int .i64 0] H=some (.tuple #[ps,pr,rv,.bool true],H1)→Frm (fun _=>False) H H1→Rdb H1 1 rv q.length (zbz q)→q.length≤2^38 →
   (∀ (H2:Hp) (w:Value),Frm (fun _=>False) H1 H2→Rdb H2 1 w (q++os).length (zbz (q++os))→∃ H' v',RR F.a26 [ps,w] H2=some (.tuple #[v',.int .i64 e],H')∧ze4 3 H2 H' v' vs.length (zb9 vs)) →
   (∀ (H2:Hp) (w:Value),Frm (fun _=>False) H1 H2→Rdb H2 1 w (q++os).length (zbz (q++os))→∃ H' v',RR F.a24 [pr,w] H2=some (.tuple #[v',.int .i64 e],H')∧ze4 3 H2 H' v' vs.length (zb9 vs))→vs.length≤2^60 →
   (∀ H2,Frm (fun _=>False) H1 H2→∀ t,∃ H',RR F.a9 [ps,.int .i64 t] H2=some (ziq (z t),H')∧Frm (fun _=>False) H2 H')→(∀ H2,Frm (fun _=>False) H1 H2→∀ t,∃ H',RR F.a16 [pr,.int .i64 t] H2=some (ziq (z t),H')∧Frm (fun _=>False) H2 H') →
   ∃ H',RR F.a46 [str l,x] H=some (.bool true,H'):=fun H1 ps pr rv q e vs z e1 f1 hv hql hc hq hvl zc zq=>by
  obtain⟨H2,e2,f2⟩:=c_live (hL.keep f1 fun j q=>q.elim);have hv2:=hv.keep f2 fun _ _ q=>q;have hx2:=hx.keep (tr f1 f2) fun _ _ q=>q;obtain⟨w,H3,e3,m3⟩:=c_roots hv2 hx2 (by omega);obtain⟨H4,v4,e4,m4⟩:=hc H3 w (tr f2 m3.frm) m3.vec.rd;have hw4:=m3.vec.rd.keep m4.frm fun _ _ q=>q;obtain⟨H5,v5,e5,m5⟩:=hq H4 w (tr (tr f2 m3.frm) m4.frm) hw4;have hsame:=zqi (m4.vec.rd.keep m5.frm fun _ _ q=>q) m5.vec.rd hvl;have hw5:=hw4.keep m5.frm fun _ _ q=>q;have f15:=tr (tr (tr f2 m3.frm) m4.frm) m5.frm;obtain⟨H6,e6⟩:=ziY hw5 (by rw[List.length_append];omega) z (fun H h=>zc H (tr f15 h)) (fun H h=>zq H (tr f15 h)) _ 0 H5 (Nat.zero_add _) (Frm.refl _ _);have e6:zas (zaU RR ps pr w) [.int .i64 0] H5=_:=e6;rw[zah e1] at hr;simp only[(s_t4 _ _ _ _ _).1,(s_t4 _ _ _ _ _).2.1,(s_t4 _ _ _ _ _).2.2.1,(s_t4 _ _ _ _ _).2.2.2] at hr;rw[zbj,zac,Bool.not_true,zaJ,zah e2,zbj,zac,Bool.not_true,zaJ,zam,zaG,e3,zah e4,x01,zah e5,x01,zah (c_no _ _),za8,bF (e0 _),zah hsame,zbj,zac,Bool.not_true,zaJ,zam,zaG,e6,zam,za1,zaz] at hr;exact⟨H6,hr⟩
 cases hr0:zec 0 (zbp l) 0 [] [] [] with
 |bad ln e=>
  rw[hr0] at hsto;obtain⟨H1,e1,f1⟩:=hsto;exact main H1 _ _ _ [] 2 [] (fun _=>(0,(0,0),2)) e1 f1 (Vec.nil H1 1).rd (by decide) (fun H2 w f hw=>⟨H2,_,nil_vars w H2,ze4.nil (Frm.refl _ _)⟩) (fun H2 w f hw=>⟨H2,_,nilq_vars w H2,ze4.nil (Frm.refl _ _)⟩) (by decide) (fun H2 f t=>⟨H2,nil_size _ H2,Frm.refl _ _⟩) (fun H2 f t=>⟨H2,nilq_size _ H2,Frm.refl _ _⟩)
 |good L K q=>
  rw[hr0] at hsto;obtain⟨H1,st,f,g,sl,st',f',g',sl',rv,e1,f1,s1,s2,hv⟩:=hsto;obtain⟨l1,l2⟩:=load_bd hr0;obtain⟨hg,hqb⟩:=zm2 hr0;have k1:∀ {H2:Hp},Frm (fun _=>False) H1 H2→StF H2 st 0 L K sl f g:=fun k=>s1.keep (fun j hj=>k.same j (s1.foot_lt hj) fun q=>q) k.next;have k2:∀ {H2:Hp},Frm (fun _=>False) H1 H2→StF H2 st' 0 L K sl' f' g':=fun k=>s2.keep (fun j hj=>k.same j (s2.foot_lt hj) fun q=>q) k.next;have hrl:(q++os).length≤2^40:=by rw[List.length_append];omega
  have hvl:(zio L (q++os)).2.length≤2^60:=by
   unfold zio;split
   ·rename_i hall;have hbl:=zfG hg.dag (q++os);unfold zct at hbl;rw[if_pos hall] at hbl;rw[varsR_eq];refine Nat.le_trans (List.length_filterMap_le ..) ?_;have hbl:(posts L (List.map Int.toNat (q++os)) []).length≤L.length:=hbl;omega
   ·simp
  exact main H1 _ _ rv q (zio L (q++os)).1 (zio L (q++os)).2 (zpI L) e1 f1 hv.rd (by omega)
   (fun H2 w k hw=>c_vars (k1 k) hg.dag (by omega) hw hrl) (fun H2 w k hw=>q_vars (k2 k) hg.dag (by omega) hw hrl) hvl
   (fun H2 k t=>c_size (k1 k) hg.dag (by omega) t) (fun H2 k t=>q_size (k2 k) hg.dag (by omega) t)
end Go.AM.N14
namespace Go.AM
open Go Go.ChangeShapes Go.WideShapes Go.ChangeAt Go.RowKit
theorem flat3:flat PP 1 T.int=some [.int .i64]:=by kernel_rfl
theorem intDec (l:List Value) (h:OkL [.int .i64] l):∃ o:Int,[Value.int .i64 o]=l∧(IntKind.i64.min≤o∧o≤IntKind.i64.max):=by
 obtain⟨hl,hh⟩:=h;obtain⟨v,l,rfl,hl2⟩:=consL hl;obtain⟨_,e,n,rfl,p,q⟩:=hh 0 _ rfl;cases e;have:l=[]:=by cases l with|nil=>rfl|cons a t=>cases hl2
 subst this;exact⟨n,rfl,p,q⟩
theorem ints_arg {HH:Type} {enc:TypeId × Value→HH} {W:World} {H:Hp} {β:Bt} (hR:Rel PP W H β) (hno:∀ i o,H.get i=some o→o.own=false) {b0:Nat} {v':Value} {dw:DataW HH} {ps:List MemPlace}
  (hval:Value.okWide PP W .any b0 T.sl_int v') (hd:DataW.Trod enc PP W 0 (fun _=>true) true T.sl_int v' dw ps) :
  ∃ (v:Value) (H':Hp) (β':Bt) (os:List Int),Rel PP W H' β'∧(∀ i o,H'.get i=some o→o.own=false)∧β.le β'∧VRel β' v v'∧Rdb H' 1 v os.length (zbz os)∧(∀ o∈os,IntKind.i64.min≤o∧o≤IntKind.i64.max)∧os.length≤Go.Proofs.YtcbmccpkhagckaaGreatDoor.Rows.uptoBulk dw∧Frm (fun _=>False) H H':=by
 obtain⟨v,H',β',g1,g2,g3,g4,g5⟩:=arg_flats (P:=PP) (t:=T.sl_int) (e:=T.int) (d:=1) (ks:=[.int .i64]) (by kernel_rfl) flat3 (by kernel_rfl) (by decide) hR hno hval hd;rcases g5 with⟨rfl,rfl,rfl⟩|⟨L,es,sp,rfl,rfl,h1,rfl,h2⟩
 ·exact⟨_,_,β',[],g1,g2,g3,g4,.inl ⟨rfl,rfl,rfl⟩,fun o h=>(by cases h),by simp,Frm.refl _ _⟩
 ·obtain⟨os,h3,h4⟩:=decL (cells:=fun (t:Int)=>[Value.int .i64 t]) intDec L h1;have hfl:L.flatten=zbz os:=by
   rw[h3,←List.flatMap_def];clear h3 h1 g1 g2 g3 g4 h2 h4;induction os with
   |nil=>rfl
   |cons a t ih=>rw[List.flatMap_cons,ih];rfl
  have hll:L.length=os.length:=by rw[h3,List.length_map]
  refine⟨_,_,β',os,g1,g2,g3,g4,.inr ⟨H.next,L.length,[],false,?_,by omega,?_,?_,?_⟩,h4,?_,zcA _ _ _⟩
  ·rw[hll];rfl
  ·rw[get_new,if_pos rfl,hfl,List.append_nil]
  ·rw[intsI_len,Nat.mul_one]
  ·show H.next<H.next+1;omega
  ·have:=zpy es;simp only[Go.Proofs.YtcbmccpkhagckaaGreatDoor.Rows.uptoBulk];omega
end Go.AM
