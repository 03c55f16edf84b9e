/- Part of the proof of EvalValuesUptoCardSaid: see the last file.  -/
import Derived.Deep.DeepHandedRow
import Derived.Laws.Externs
import Derived.Lib.Bytealg
import Derived.KernelRfl
import Derived.Test.YtcbmccpkhagckaaGreatDoorProg
import Derived.Shelf.Strings.Builder1
import Derived.Shelf.Small.Wraps
import Derived.Shelf.Strings.BuilderF
import Derived.Shelf.Strings.BuilderK
import Derived.Shelf.Utf8.RuneCount
import Derived.Shelf.Strconv.Itoa0
import Derived.Shelf.Strconv.Itoa1
import Derived.Shelf.LaysM
import Derived.Shelf.Strconv.Itoa2
import Derived.Shelf.Strconv.Itoa3
import Derived.Shelf.Strconv.Clone
import Derived.Shelf.Strconv.SyntaxError
import Derived.Shelf.LaysC
import Derived.Shelf.Strconv.ToError
import Derived.Shelf.Strconv.Lower
import Derived.Shelf.Strconv.ParseUint10
import Derived.Shelf.Strconv.ParseUint10Empty
import Derived.Shelf.Strconv.ParseUint10Any
import Derived.Shelf.Strconv.RangeError
import Derived.Shelf.Strconv.ToErrorRange
import Derived.Shelf.Strconv.ParseUintEmpty
import Derived.Shelf.Strconv.ParseUint10b64
import Derived.Shelf.Strconv.ParseUint10b32
import Derived.Shelf.Strconv.ParseUint10b16
import Derived.Shelf.Strconv.ParseUint10b8
import Derived.Shelf.Strconv.ParseUint10At
import Derived.Shelf.Strings.Search1
import Derived.Shelf.Strings.Search2
import Derived.Shelf.Strings.Search3
import Derived.Shelf.Strings.Count
import Derived.Shelf.Strings.Shaped
import Derived.Shelf.Strings.Prefix
import Derived.Shelf.Strings.Split
import Derived.Shelf.Strings.Fields
import Derived.Shelf.Strings.SplitShaped
import Derived.Shelf.Unicode.Latin
import Derived.Shelf.Unicode.Decode
import Derived.Shelf.Strings.RuneCount
import Derived.Shelf.Strings.Explode
import Derived.Shelf.Unicode.DecodeSlow
import Derived.Shelf.Unicode.DecodeAny
import Derived.Shelf.Unicode.Is16White
import Derived.Shelf.Unicode.IsSpaceAny
import Derived.Shelf.Unicode.Is16WhiteD
import Derived.Shelf.Unicode.IsSpaceAnyD
import Derived.Shelf.Unicode.Is16Any
import Derived.Shelf.Unicode.Is32Any
import Derived.Shelf.Unicode.ExclAny
import Derived.Shelf.Strings.BuilderCap
import Derived.Test.YtcbmccpkhagckaaGreatDoorT0
import Derived.Test.YtcbmccpkhagckaaGreatDoorT1
set_option linter.unusedSimpArgs false
set_option linter.unusedVariables false
set_option linter.unusedSectionVars false
set_option maxRecDepth 100000
namespace Go.AM
open Go
def wv(b:BitVec 64):Value:=.int .u64 (b.toNat:Int)
section
variable {α:Type}{P:Program}
theorem zfF(a:BitVec 64):BitVec.ofInt 64 (a.toNat:Int)=a:=by rw[BitVec.ofInt_natCast,BitVec.ofNat_toNat,BitVec.setWidth_eq]
theorem zkT(a:BitVec 64):IntKind.u64.wrap (a.toNat:Int)=(a.toNat:Int):=q_u64 (by omega) (by have:=a.isLt;omega)
theorem zeY(x:Int):Value.int .u64 (IntKind.u64.wrap x)=wv (BitVec.ofInt 64 x):=by unfold wv;congr 1;rw[BitVec.toNat_ofInt];simp[IntKind.wrap,IntKind.signed,IntKind.bits];omega
theorem zrp{op:BinOp}{T:TypeId}{a b c:BitVec 64}{k:Value→Option α}(h:ze5 op .u64 (a.toNat:Int) (b.toNat:Int)=some (wv c))(hop:op≠.shl∧op≠.shr):pBin P op T (wv a) (wv b) k=k (wv c):=by
 have:binV P op T (wv a) (wv b)=some (wv c):=by rw[←h];unfold wv binV;cases op<;>first|rfl | (exact absurd rfl hop.1) | (exact absurd rfl hop.2)
 unfold pBin;rw[this]
theorem zqB{op:BinOp}{T:TypeId}{a b:BitVec 64}{c:Bool}{k:Value→Option α}(h:ze5 op .u64 (a.toNat:Int) (b.toNat:Int)=some (.bool c))(hop:op≠.shl∧op≠.shr):pBin P op T (wv a) (wv b) k=k (.bool c):=by
 have:binV P op T (wv a) (wv b)=some (.bool c):=by rw[←h];unfold wv binV;cases op<;>first|rfl | (exact absurd rfl hop.1) | (exact absurd rfl hop.2)
 unfold pBin;rw[this]
variable (T:TypeId)(a b:BitVec 64)(k:Value→Option α)
theorem b_and:pBin P .and T (wv a) (wv b) k=k (wv (a&&&b)):=zrp (by
 show some (Value.int .u64 (IntKind.u64.wrap ((BitVec.ofInt 64 (a.toNat:Int))&&&(BitVec.ofInt 64 (b.toNat:Int))).toNat))=_
 rw[zfF,zfF,zkT];rfl) ⟨by decide,by decide⟩
theorem b_or:pBin P .or T (wv a) (wv b) k=k (wv (a|||b)):=zrp (by
 show some (Value.int .u64 (IntKind.u64.wrap ((BitVec.ofInt 64 (a.toNat:Int))|||(BitVec.ofInt 64 (b.toNat:Int))).toNat))=_
 rw[zfF,zfF,zkT];rfl) ⟨by decide,by decide⟩
theorem b_xor:pBin P .xor T (wv a) (wv b) k=k (wv (a ^^^ b)):=zrp (by
 show some (Value.int .u64 (IntKind.u64.wrap ((BitVec.ofInt 64 (a.toNat:Int)) ^^^ (BitVec.ofInt 64 (b.toNat:Int))).toNat))=_
 rw[zfF,zfF,zkT];rfl) ⟨by decide,by decide⟩
theorem b_not:pUn .xor (wv a) k=k (wv (~~~a)):=by
 have:unV .xor (wv a)=some (wv (~~~a)):=by
  show some (Value.int .u64 (IntKind.u64.wrap ((BitVec.ofInt 64 (IntKind.u64.max)) ^^^ (BitVec.ofInt 64 (a.toNat:Int))).toNat))=_;rw[zfF,zkT];have:BitVec.ofInt 64 IntKind.u64.max=BitVec.allOnes 64:=by decide
  rw[this,BitVec.allOnes_xor];rfl
 unfold pUn;rw[this]
theorem b_add:pBin P .add T (wv a) (wv b) k=k (wv (a+b)):=zrp (by
 show some (Value.int .u64 (IntKind.u64.wrap ((a.toNat:Int)+b.toNat)))=_;rw[zeY]
 congr 2) ⟨by decide,by decide⟩
theorem b_sub:pBin P .sub T (wv a) (wv b) k=k (wv (a-b)):=zrp (by
 show some (Value.int .u64 (IntKind.u64.wrap ((a.toNat:Int)-b.toNat)))=_;rw[zeY];congr 2;apply BitVec.eq_of_toNat_eq;rw[BitVec.toNat_ofInt,BitVec.toNat_sub];have:=a.isLt;have:=b.isLt
 omega) ⟨by decide,by decide⟩
theorem zro:pBin P .mul T (wv a) (wv b) k=k (wv (a*b)):=zrp (by
 show some (Value.int .u64 (IntKind.u64.wrap ((a.toNat:Int)*b.toNat)))=_;rw[zeY]
 congr 2) ⟨by decide,by decide⟩
theorem zpq:pBin P .eql T (wv a) (wv b) k=k (.bool (decide (a=b))):=zqB (by
 show some (Value.bool ((a.toNat:Int)==b.toNat))=_;congr 2;have e:(a.toNat:Int)=b.toNat↔a=b:=⟨fun h=>BitVec.eq_of_toNat_eq (by omega),fun h=>by rw[h]⟩
 rw[Bool.eq_iff_iff]
 simp[e]) ⟨by decide,by decide⟩
theorem b_neq:pBin P .neq T (wv a) (wv b) k=k (.bool (!decide (a=b))):=zqB (by
 show some (Value.bool ((a.toNat:Int) != b.toNat))=_;congr 2;have e:(a.toNat:Int)=b.toNat↔a=b:=⟨fun h=>BitVec.eq_of_toNat_eq (by omega),fun h=>by rw[h]⟩
 rw[Bool.eq_iff_iff]
 simp[e]) ⟨by decide,by decide⟩
theorem b_lss:pBin P .lss T (wv a) (wv b) k=k (.bool (decide (a.toNat<b.toNat))):=zqB (by
 show some (Value.bool (decide ((a.toNat:Int)<b.toNat)))=_;congr 2
 rw[decide_eq_decide];omega) ⟨by decide,by decide⟩
theorem b_leq:pBin P .leq T (wv a) (wv b) k=k (.bool (decide (a.toNat≤b.toNat))):=zqB (by
 show some (Value.bool (decide ((a.toNat:Int)≤b.toNat)))=_;congr 2
 rw[decide_eq_decide];omega) ⟨by decide,by decide⟩
theorem zrn(kd:IntKind)(n:Nat):pBin P .shl T (wv a) (.int kd (n:Int)) k=k (wv (a <<< n)):=by
 have:binV P .shl T (wv a) (.int kd (n:Int))=some (wv (a <<< n)):=by
  show (if (n:Int)<0 then none else some (Value.int .u64 (IntKind.u64.wrap ((a.toNat:Int)*2^(min ((n:Int).toNat) 64)))))=_;rw[if_neg (by omega),zeY,Int.toNat_natCast];congr 2;apply BitVec.eq_of_toNat_eq;rw[BitVec.toNat_ofInt,BitVec.toNat_shiftLeft,Nat.shiftLeft_eq];have e:((a.toNat:Int)*2^(min n 64))=((a.toNat*2^(min n 64):Nat):Int):=by push_cast;rfl
  rw[e];have e2:(((a.toNat*2^(min n 64):Nat):Int)%((2^64:Nat):Int)).toNat=a.toNat*2^(min n 64)%2^64:=by omega
  rw[e2];rcases Nat.lt_or_ge n 64 with h|h
  ·rw[Nat.min_eq_left (by omega)]
  ·rw[Nat.min_eq_right h];have:a.toNat*2^n=a.toNat*2^(n-64)*2^64:=by rw[Nat.mul_assoc,←Nat.pow_add];congr 2;omega
   rw[this,Nat.mul_mod_left,Nat.mul_mod_left]
 unfold pBin;rw[this]
theorem zrm(kd:IntKind)(n:Nat):pBin P .shr T (wv a) (.int kd (n:Int)) k=k (wv (a >>> n)):=by
 have:binV P .shr T (wv a) (.int kd (n:Int))=some (wv (a >>> n)):=by
  show (if (n:Int)<0 then none else some (Value.int .u64 ((a.toNat:Int).fdiv (2^(min ((n:Int).toNat) 64)))))=_;rw[if_neg (by omega),Int.toNat_natCast];unfold wv;congr 2;rw[BitVec.toNat_ushiftRight,Nat.shiftRight_eq_div_pow];have e:((2:Int)^(min n 64))=((2^(min n 64):Nat):Int):=by push_cast;rfl
  rw[e,←Int.ofNat_fdiv];congr 1;rcases Nat.lt_or_ge n 64 with h|h
  ·rw[Nat.min_eq_left (by omega)]
  ·rw[Nat.min_eq_right h,Nat.div_eq_of_lt a.isLt,Nat.div_eq_of_lt (Nat.lt_of_lt_of_le a.isLt (Nat.pow_le_pow_right (by decide) h))]
 unfold pBin;rw[this]
end
end Go.AM
namespace Go.AM
open List Go Go.ChangeShapes Go.WideShapes Go.ChangeAt Go.RowKit
theorem zk5{HH:Type}{enc:TypeId×Value→HH}{P:Program}{W:World}:∀{ts:List TypeId} {vs:List Value} {ds:List (DataW HH)} {ps:List MemPlace},DataW.TrodAll enc P W 0 (fun _=>true) true ts vs ds ps→ds.length=ts.length:=by
 intro ts;induction ts with
 |nil=>intro vs ds ps h;cases vs<;>cases ds<;>first|rfl|exact h.elim
 |cons t ts ih=>intro vs ds ps h;cases vs<;>cases ds<;>first|exact h.elim | (obtain⟨p,q,_,h2,_⟩:=h;simp[ih h2])
theorem ziA{C:Checked}{os:Os}{f:FuncId}{fn:Func}{s:OpenSpec}{HH:Type}{enc:TypeId×Value→HH}{k:(H:Type)→List (DataW H)→Bool}(hk:s.cond=some k){F:Stop.Interp}{conds:List PathCond}{laid:List (String×DataW Unit)}
  (own:ownKnob C.prog.godebug=none) (started:os.Started) (noInit:C.prog.inits.idxOf? f=none) (hfn:C.prog.funcs[f]?=some fn)
  (witness:∃(w:World) (tape:Tape) (i:Input),w.os=os∧(w.forCall tape i).Shaped C.prog∧i.vars=[]∧Input.okWide C.prog (w.forCall tape i) .any w.heap.size f i ∧
   s.preRow enc C.prog fn conds false laid (w.forCall tape i).memory i.args∧({}:Assume).holds C.prog (lone (Frame.enter C.prog f i.args .normal) [] (w.forCall tape i)))
  (hl:laidOutB C.prog=true) (hp:∀t∈fn.params.toList,C.prog.readableRec t=true∧t<C.prog.types.size) (hv:s.vars=[]) {tb:TypeId} (hr:fn.resultTypes = #[tb]) (hb:C.prog.underlying tb=some .bool)
  (hg:C.prog.globals.size=0∨∃x,(((begin C.prog (fun _ _=>0) default).world.heap[C.prog.globals.size-1]?).bind Obj.row?)=some x)
  (hsp:∀ds:List (DataW HH),ds.length=fn.params.size→(s.at F).fn HH ds={ results:=[.lit (.bool true)],args:=ds })
  {O:Orc} {ext:Ext1} (hm:C.prog.follows .mixedOrders=true) (he:ExtC C.prog ext)
  (main:∀(W:World) (base:Nat) (args:Array Value) (ds:List (DataW HH)) (ps:List MemPlace),C.prog.globals.size≤W.heap.size →
   (∀(j:Nat) t v,fn.params[j]?=some t→args[j]?=some v→Value.okWide C.prog W .any base t v)→DataW.TrodAll enc C.prog W 0 (fun _=>true) true fn.params.toList args.toList ds ps→k HH ds=true→laidMetH C.prog laid W →
   ∃(H0 H1:Hp) (β:Bt) (xs:List Value),Rel C.prog W H0 β∧(∀i o,H0.get i=some o→o.own=false)∧LRel β xs args.toList∧run C.prog O ext f xs H0=some (.bool true,H1))
  (hx:XtC C.prog O.xt:=by intro f e h;cases h) (hxf:O.xt f=none:=by rfl) (ho:ExtO O ext:=by intro f _;rfl) (hpf:O.pan f=false:=by rfl) :
  ReturnsInHanded {} C os f .any (s.preRow enc C.prog fn conds false laid) ((s.at F).post enc C.prog fn false true false false):=by
 refine returnsInHanded_of_row own started noInit hfn witness ?_;intro W base args ds gs before hval hw hc hkk _ hL hsh _;have hkk:=hkk k hk;obtain⟨p,q,h1,h2,e,_,_⟩:=id hw;have hgs:gs=[]:=by
  rw[hv]at h2;cases gs with
  |nil=>rfl
  |cons g gs=>exact h2.elim
 subst hgs;rw[append_nil]at hkk;obtain⟨H0,H1,β,xs,g1,g2,g3,g4⟩:=main W base args ds p (zor hsh hg) hval h1 hkk hL;refine(zof hm he g1 g2 g3 g4 hx hxf ho hpf).mono fun e W' ⟨h3,h4⟩=>?_;subst h3;have hlen:ds.length=fn.params.size:=by simpa using zk5 h1
 exact⟨_,rfl,post_true (s:=s.at F) hl hp hv hr hb hw h4 (by rw[append_nil];exact hsp ds hlen)⟩
end Go.AM
namespace Go.AM
open Go
def zlR(l:List Value):Option Value:=
 match l with
 |[.string s,.int .u8 c]=>some (.int .i64 (Go.Lib.indexByte s.data.toList c.toNat.toUInt8))
 |_=>none
def zlZ(l:List Value):Option Value:=
 match l with
 |[.string s,.int .u8 c]=>some (.int .i64 (Go.Lib.countByte s.data.toList c.toNat.toUInt8:Nat))
 |_=>none
theorem LRel.strInt{β:Bt}{s:ByteArray}{k:IntKind}{c:Int}{l:List Value}(h:LRel β [.string s,.int k c] l):l=[.string s,.int k c]:=by
 obtain⟨h1,h2⟩:=h
 match l,h1 with
 |[x,y],_=>
  have e0:=h2 0 _ x rfl rfl;have e1:=h2 1 _ y rfl rfl;cases e0;cases e1;rfl
theorem idxStr_xt{P:Program}{f:FuncId}{fn:Func}(hf:P.funcs[f]?=some fn)(hname:(fn.name == "runtime.NumGoroutine")=false)(hb:fn.body.isNone=true)(hn:Extern.findNext fn=none)(he:Extern.find fn=some Extern.BytealgIndexByte.indexByte)
  (args:List Value) (v:Value) (h:zlR args=some v):XT P f args v:=by
 unfold zlR at h;split at h
 ·rename_i s c;cases h;intro args' β w hl;obtain rfl:=hl.strInt;exact⟨_,.int _ _,by rw[run_callFunc_extern hf hname hb hn he,Go.Lib.run_indexByteString];rfl⟩
 ·cases h
theorem cntStr_xt{P:Program}{f:FuncId}{fn:Func}(hf:P.funcs[f]?=some fn)(hname:(fn.name == "runtime.NumGoroutine")=false)(hb:fn.body.isNone=true)(hn:Extern.findNext fn=none)(he:Extern.find fn=some Extern.BytealgCount.count)
  (args:List Value) (v:Value) (h:zlZ args=some v):XT P f args v:=by
 unfold zlZ at h;split at h
 ·rename_i s c;cases h;intro args' β w hl;obtain rfl:=hl.strInt;exact⟨_,.int _ _,by rw[run_callFunc_extern hf hname hb hn he,Go.Lib.run_countString];rfl⟩
 ·cases h
end Go.AM
namespace Go.AM
open Go Go.AM
noncomputable abbrev PP:Program:=Go.Proofs.Tryz.prog
abbrev ET:=FuncId→Option (List Value→Hp→Option (Value×Hp))
abbrev AG:Nat:=1
abbrev Cy:Nat:=2
abbrev AH:Nat:=3
abbrev Cu:Nat:=4
abbrev Cz:Nat:=5
abbrev CA:Nat:=6
abbrev Az:Nat:=7
abbrev AA:Nat:=8
abbrev CB:Nat:=9
abbrev A2:Nat:=10
abbrev BW:FuncId:=84
abbrev BX:FuncId:=85
abbrev BY:FuncId:=82
abbrev BZ:FuncId:=87
abbrev Bq:FuncId:=55
abbrev AR:FuncId:=102
abbrev A3:FuncId:=117
abbrev B1:FuncId:=143
abbrev Ar:FuncId:=114
abbrev AS:FuncId:=115
abbrev B2:FuncId:=86
abbrev Af:FuncId:=80
abbrev B3:FuncId:=83
abbrev Br:FuncId:=118
abbrev Bs:FuncId:=116
abbrev Bu:FuncId:=3
abbrev Bv:FuncId:=37
abbrev B4:FuncId:=12
abbrev Av:FuncId:=15
abbrev Bw:FuncId:=30
abbrev By:FuncId:=17
abbrev AT:FuncId:=16
abbrev A4:FuncId:=11
abbrev B5:FuncId:=122
abbrev B6:FuncId:=123
abbrev B7:FuncId:=120
abbrev Bz:FuncId:=125
abbrev A5:FuncId:=141
abbrev AU:FuncId:=113
abbrev A6:FuncId:=107
abbrev As:FuncId:=144
abbrev A7:FuncId:=140
abbrev AI:FuncId:=145
abbrev B8:FuncId:=124
abbrev Ak:FuncId:=90
abbrev B9:FuncId:=121
abbrev AV:FuncId:=162
abbrev Ca:FuncId:=139
abbrev A8:FuncId:=146
abbrev AB:FuncId:=36
abbrev BA:FuncId:=73
abbrev BB:FuncId:=109
abbrev AJ:FuncId:=78
abbrev AW:FuncId:=43
abbrev Ag:FuncId:=108
abbrev Cb:FuncId:=77
abbrev Au:FuncId:=91
abbrev Cc:FuncId:=111
abbrev Cd:FuncId:=112
abbrev BC:FuncId:=105
abbrev Ce:FuncId:=110
abbrev A9:FuncId:=106
abbrev AX:FuncId:=76
abbrev Ba:FuncId:=75
abbrev Bb:FuncId:=104
abbrev BD:FuncId:=74
abbrev BE:FuncId:=92
abbrev Aw:FuncId:=14
abbrev BF:FuncId:=41
abbrev Bc:FuncId:=119
abbrev Bd:FuncId:=44
abbrev Cf:FuncId:=88
abbrev BG:FuncId:=89
abbrev BH:FuncId:=42
abbrev Be:FuncId:=45
abbrev Bf:FuncId:=24
abbrev AC:FuncId:=18
abbrev Ax:FuncId:=13
abbrev Cg:FuncId:=40
abbrev BJ:FuncId:=81
abbrev Ch:FuncId:=47
abbrev BK:FuncId:=39
abbrev Bg:FuncId:=157
abbrev CH:FuncId:=173
abbrev Bh:FuncId:=184
abbrev CI:FuncId:=174
abbrev CC:FuncId:=172
abbrev CJ:FuncId:=131
abbrev Bi:FuncId:=160
abbrev At:FuncId:=176
abbrev CD:FuncId:=177
abbrev BL:FuncId:=159
abbrev Ci:FuncId:=175
abbrev Cj:FuncId:=158
abbrev BM:FuncId:=171
abbrev BN:FuncId:=138
abbrev Bj:FuncId:=161
abbrev CE:FuncId:=64
abbrev CF:FuncId:=97
abbrev BO:FuncId:=135
abbrev Ck:FuncId:=137
abbrev BP:FuncId:=99
abbrev AK:FuncId:=67
abbrev Bk:FuncId:=136
abbrev BQ:FuncId:=65
abbrev CK:FuncId:=134
abbrev BR:FuncId:=101
abbrev AY:FuncId:=35
abbrev BS:FuncId:=66
abbrev AD:FuncId:=68
abbrev BT:FuncId:=26
abbrev Cl:FuncId:=79
abbrev AL:FuncId:=48
abbrev Bl:FuncId:=31
abbrev AN:FuncId:=38
abbrev AO:FuncId:=50
abbrev Cm:FuncId:=94
abbrev Al:FuncId:=49
abbrev Cn:FuncId:=95
abbrev Co:FuncId:=60
abbrev BU:FuncId:=103
abbrev Ay:FuncId:=62
abbrev Aq:FuncId:=69
abbrev AP:FuncId:=72
abbrev Ao:FuncId:=71
abbrev BV:FuncId:=70
abbrev Cp:FuncId:=93
abbrev CL:FuncId:=155
abbrev CM:TypeId:=235
abbrev CN:TypeId:=196
abbrev CO:TypeId:=203
abbrev AZ:TypeId:=106
abbrev Cv:TypeId:=167
abbrev CP:TypeId:=266
abbrev Am:TypeId:=30
abbrev Ah:TypeId:=71
abbrev Ap:TypeId:=48
abbrev Cq:TypeId:=4
abbrev Cr:TypeId:=101
abbrev Bm:TypeId:=114
abbrev Cs:TypeId:=269
abbrev Aa:TypeId:=3
abbrev Ai:TypeId:=21
abbrev AE:TypeId:=2
abbrev CG:TypeId:=20
abbrev A0:TypeId:=25
abbrev AF:TypeId:=267
abbrev Ct:TypeId:=251
abbrev An:TypeId:=24
abbrev Bn:TypeId:=23
abbrev AQ:TypeId:=22
abbrev Aj:TypeId:=249
abbrev Ac:TypeId:=9
abbrev A1:TypeId:=121
abbrev Bo:TypeId:=175
abbrev Bp:TypeId:=109
abbrev Ae:TypeId:=131
abbrev Cw:TypeId:=148
abbrev Cx:TypeId:=134
abbrev Ab:TypeId:=38
abbrev Ad:TypeId:=5
abbrev CQ:TypeId:=243
abbrev CR:TypeId:=240
def orc:Orc:={ mkOrc [(8,[20]),(13,[15,17]),(14,[12]),(20,[11]),(21,[7]),(23,[10]),(24,[14]),(25,[13,14]),(28,[10]),(29,[17,19]),(31,[4]),(32,[16]),(34,[14]),(36,[18]),(37,[6]),(38,[14]),(39,[6,7,10]),(40,[6]),(43,[12,14]),(45,[11,12,13,14]),(48,[3]),(53,[2]),(55,[15]),(56,[1]),(66,[4]),(67,[11,14]),(76,[4,6]),(77,[3]),(78,[3]),(92,[6]),(93,[1]),(94,[3]),(95,[3]),(96,[5]),(102,[18]),(105,[3]),(110,[2]),(111,[3]),(112,[3]),(155,[4]),(169,[10]),(170,[9])]
 [(3,[(10,some ([],[])),(4,some ([],[]))]),(4,[(13,some ([],[]))]),(5,[(9,some ([],[])),(4,some ([],[]))]),(6,[(16,some ([8],[])),(13,some ([],[])),(5,some ([],[]))]),(8,[(37,some ([],[])),(32,some ([],[])),(20,some ([],[]))]),(10,[(10,some ([],[]))]),(11,[(5,some ([],[]))]),(12,[(4,some ([],[]))]),(21,[(9,some ([],[7]))]),(28,[(5,some ([22],[])),(4,some ([15],[])),(10,some ([],[10]))]),(34,[(21,some ([],[]))]),(35,[(17,some ([],[])),(7,some ([8],[]))]),(36,[(18,some ([71],[])),(14,some ([14],[])),(11,some ([],[]))]),(48,[(26,some ([],[])),(21,some ([],[])),(5,some ([],[])),(3,some ([],[]))]),(52,[(15,some ([],[]))]),(55,[(7,some ([5],[])),(3,some ([],[]))]),(62,[(6,some ([4],[]))]),(67,[(14,some ([5],[]))]),(72,[(22,some ([69],[])),(31,some ([],[])),(12,some ([],[]))]),(76,[(21,some ([],[4])),(11,some ([],[4])),(4,some ([],[4]))]),(77,[(4,some ([13],[]))]),(78,[(23,some ([],[])),(18,some ([],[])),(7,some ([26],[])),(5,some ([17],[]))]),(82,[(3,some ([],[]))]),(84,[(5,some ([],[])),(3,some ([],[]))]),(86,[(3,some ([],[]))]),(87,[(5,some ([],[])),(3,some ([],[]))]),(92,[(26,some ([111],[])),(24,some ([94],[])),(17,some ([66],[]))]),(94,[(8,some ([27],[]))]),(95,[(12,some ([60],[])),(4,some ([13],[]))]),(96,[(9,some ([],[])),(5,some ([],[]))]),(101,[(7,some ([3],[]))]),(102,[(5,some ([4],[]))]),(107,[(6,some ([4,5],[]))]),(109,[(2,some ([3],[]))]),(110,[(3,some ([],[]))]),(111,[(12,some ([67],[]))]),(112,[(3,some ([8],[]))]),(113,[(3,some ([],[]))]),(120,[(3,some ([],[]))]),(122,[(5,some ([],[])),(3,some ([],[]))]),(124,[(3,some ([],[]))]),(125,[(5,some ([],[])),(3,some ([],[]))]),(131,[(8,some ([6],[])),(4,some ([],[]))]),(134,[(4,some ([1],[]))]),(139,[(3,some ([6],[])),(8,some ([5],[]))]),(146,[(19,some ([11],[]))]),(152,[(20,some ([4,12],[]))]),(153,[(7,some ([1],[])),(3,some ([],[]))]),(154,[(5,some ([],[]))]),(158,[(26,some ([107],[])),(23,some ([],[])),(21,some ([8],[])),(3,some ([16],[])),(10,some ([],[]))]),(160,[(41,some ([106],[])),(46,some ([12,16],[])),(32,some ([10],[])),(25,some ([2],[])),(16,some ([52],[])),(13,some ([40],[])),(7,some ([25],[])),(21,some ([0,1],[]))]),(164,[(4,some ([0,2],[]))]),(168,[(2,some ([17],[]))]),(170,[(21,some ([],[])),(16,some ([],[]))]),(174,[(10,some ([],[]))]),(177,[(14,some ([3],[])),(10,some ([3,4,5],[])),(5,some ([0],[]))])]
 [(3,[(11,[17],[])]),(4,[(24,[17,19],[]),(21,[17,18],[]),(14,[14],[])]),(5,[(10,[14],[])]),(6,[(8,[5,6,7],[])]),(7,[(19,[17],[]),(13,[16],[])]),(8,[(41,[30],[]),(38,[29],[]),(12,[12,13,14,15,16],[])]),(9,[(20,[17],[]),(11,[12,13],[])]),(13,[(26,[19,113],[]),(12,[49],[])]),(14,[(22,[16,17],[]),(10,[11],[])]),(16,[(4,[5],[])]),(17,[(4,[5],[])]),(20,[(8,[8,26],[])]),(21,[(3,[5,6],[])]),(22,[(6,[5,6],[]),(3,[3],[])]),(23,[(8,[8,9],[])]),(24,[(14,[57],[]),(9,[38],[])]),(25,[(16,[15,16,17],[]),(9,[12],[])]),(29,[(21,[72],[]),(16,[58],[])]),(30,[(4,[5],[])]),(32,[(24,[17,18,69],[]),(17,[56],[]),(10,[41],[])]),(34,[(37,[128],[]),(22,[86],[]),(9,[32],[])]),(35,[(19,[],[]),(11,[6,10,42],[])]),(36,[(8,[10,11,12,13],[])]),(37,[(4,[5],[])]),(38,[(16,[8,10],[]),(11,[8,10,36],[]),(2,[18],[])]),(39,[(11,[41],[]),(3,[16],[])]),(41,[(2,[5],[])]),(42,[(9,[5],[]),(3,[3,4],[])]),(43,[(18,[13,15],[]),(12,[8,10],[]),(9,[8,9],[]),(2,[6],[])]),(44,[(2,[5],[])]),(45,[(8,[15],[13,14])]),(48,[(6,[35],[])]),(51,[(3,[11],[])]),(52,[(32,[26,130],[]),(17,[21,79],[]),(6,[45],[])]),(55,[(4,[],[15])]),(67,[(16,[49],[]),(4,[5,6],[14])]),(72,[(13,[44],[])]),(74,[(4,[3,4,5],[])]),(75,[(3,[6,7],[])]),(76,[(14,[9,10],[4,6]),(5,[7],[6])]),(89,[(7,[4],[]),(2,[3],[])]),(99,[(27,[12],[]),(21,[10,11,12],[]),(18,[12],[]),(5,[3,4,5,6],[])]),(101,[(11,[0,10],[])]),(102,[(6,[],[18])]),(103,[(2,[2,7],[])]),(107,[(9,[5,6],[])]),(113,[(4,[3],[])]),(134,[(6,[0,7],[])]),(135,[(6,[0,5],[])]),(140,[(2,[3],[])]),(146,[(3,[9,10],[])]),(152,[(1,[1,4],[])]),(153,[(11,[1,13],[]),(18,[1,13],[])]),(155,[(2,[2],[4])]),(158,[(15,[8,10],[])]),(160,[(36,[12,13,101],[])]),(168,[(14,[7,8],[]),(3,[20],[])]),(169,[(14,[7,8],[]),(3,[16],[])]),(174,[(11,[8,10],[]),(5,[8,9],[])]),(177,[(10,[3,4],[])]),(185,[(8,[6,7,8],[]),(3,[4,5],[])])] with xt:=look none [(184,some zlR),(157,some zlZ)],gt:=fun t=>List.elem t [5,121],pan:=fun f=>List.elem f [35,69,70,71,72,103],dfr:=fun f=>List.elem f [35] }
noncomputable def zcL(R:zag)(a b c:Value)(d:Hp):Option (Value×Hp):=zcO PP orc R Bu Go.Proofs.Tryz.f3 [a,b,c] d
noncomputable def zdz(R:zag)(h i:Value)(k:Hp):Option (Value×Hp):=zfi R AY [h,i] k fun b l=>zah b 0 fun a=>zah b 1 fun e=>zah b 2 fun E=>zah b 3 fun m=>zad R AB [h,i] l fun c j=>zah c 0 fun d=>zah c 1 fun n=>zah c 2 fun F=>zah c 3 fun o=>zav (pBin PP .neq Am m o fun p=>zaa p fun q=>br q (some (.ret,[(.tuple #[(.pointer none),(.pointer none),(.slice none 0 0),(.bool false)])],j)) (zad R Bw [e,n] j fun r f=>pUn .not r fun s=>zaa s fun t=>br t (some (.ret,[(.tuple #[(.pointer none),(.pointer none),(.slice none 0 0),(.bool false)])],f)) (pBin PP .eql An a (.pointer none) fun u=>pBin PP .eql A0 d (.pointer none) fun v=>pBin PP .neq Cq u v fun w=>zaa w fun x=>br x (some (.ret,[(.tuple #[(.pointer none),(.pointer none),(.slice none 0 0),(.bool false)])],f)) (some (.next,[],f))))) fun y z g=>zaB y (pBin PP .eql An a (.pointer none) fun A=>zaa A fun B=>br B (some ((.tuple #[a,d,e,(.bool true)]),g)) (zad R Bv [a,d] g fun C D=>some ((.tuple #[a,d,e,C]),D))) (fun G=>none) (some ((z.headD undef),g))
noncomputable def zet(R:zag)(m:Hp):Option (Value×Hp):=zfi R AY [(.string ⟨#[49,32,118,97,114,32,120,32,56,10,50,32,118,97,114,32,121,32,56,10,51,32,97,100,100,32,49,32,50,10,52,32,101,113,32,51,32,49,10,114,111,111,116,115,32,51,32,52,10]⟩),(.int .i64 0)] m fun c n=>zah c 0 fun d=>zah c 1 fun e=>zah c 2 fun am=>zah c 3 fun o=>zav (zad R Av [o] n fun p a=>pBin PP .neq Aa p (.int .i64 0) fun q=>zaa q fun r=>br r (some (.ret,[(.bool false)],a)) (pBin PP .eql An d (.pointer none) fun s=>zaa s fun t=>br t (some (.ret,[(.bool false)],a)) (pLen .sl e a fun u=>pBin PP .neq Aa u (.int .i64 2) fun v=>zaa v fun w=>br w (some (.ret,[(.bool false)],a)) (some (.next,[],a))))) fun x y g=>zaB x (zaS PP Ap [(0,(.string ⟨#[120]⟩)),(1,(.int .i64 8)),(2,(.int .u64 200))] fun z=>zaS PP Ap [(0,(.string ⟨#[121]⟩)),(1,(.int .i64 8)),(2,(.int .u64 100))] fun A=>zam 3 [.string ⟨#[]⟩,.int .i64 0,.int .u64 0] 2 [(0,z),(1,A)] g fun B C=>zad R Ax [d,e,B] C fun h i=>zah h 0 fun D=>zah h 1 fun E=>pIdx 1 e (.int .i64 1) fun F=>zak 1 false i F fun G=>zad R Bf [d,G] i fun f j=>zah f 0 fun H=>zah f 1 fun I=>zah f 2 fun J=>zah f 3 fun K=>pIdx 1 e (.int .i64 0) fun L=>zak 1 false j L fun M=>zaS PP Ap [(0,(.string ⟨#[120]⟩)),(1,(.int .i64 4)),(2,(.int .u64 1))] fun N=>zam 3 [.string ⟨#[]⟩,.int .i64 0,.int .u64 0] 1 [(0,N)] j fun O P=>zad R AC [d,M,O] P fun k Q=>zah k 0 fun ao=>zah k 1 fun S=>zad R Av [E] Q fun T U=>zad R Av [K] U fun V l=>pBin PP .add Aa T V fun W=>pBin PP .eql Aa W (.int .i64 0) fun X=>zaa X fun Y=>br Y (zam 1 [.int .u64 0] 2 [(0,(.int .u64 44)),(1,(.int .u64 0))] l fun Z aa=>zad R AT [D,Z] aa fun ab b=>zaa ab fun ac=>br ac (pBin PP .eql Aa H (.int .i64 4) fun ad=>zaa ad fun ae=>br ae (pBin PP .eql Ab I (.int .u64 5) fun af=>zaa af fun ag=>br ag (pBin PP .eql Aa J (.int .i64 3) fun ah=>zaa ah fun ai=>br ai (zad R Av [S] b fun aj ak=>pBin PP .eql Aa aj (.int .i64 71) fun al=>some (al,ak)) (some ((.bool false),b))) (some ((.bool false),b))) (some ((.bool false),b))) (some ((.bool false),b))) (some ((.bool false),l))) (fun ap=>none) (some ((y.headD undef),g))
noncomputable def zib(R:zag)(a b c:Value)(d:Hp):Option (Value×Hp):=zcO PP orc R Ax Go.Proofs.Tryz.f13 [a,b,c] d
noncomputable def zdt(R:zag)(a b c:Value)(d:Hp):Option (Value×Hp):=zcO PP orc R Aw Go.Proofs.Tryz.f14 [a,b,c] d
noncomputable def ziO(R:zag)(a:Value)(b:Hp):Option (Value×Hp):=some (a,b)
noncomputable def zcT(R:zag)(a b:Value)(c:Hp):Option (Value×Hp):=zcO PP orc R AT Go.Proofs.Tryz.f16 [a,b] c
noncomputable def zc2(R:zag)(a b:Value)(c:Hp):Option (Value×Hp):=zcO PP orc R By Go.Proofs.Tryz.f17 [a,b] c
noncomputable def zf8(R:zag)(d e f:Value)(g:Hp):Option (Value×Hp):=zam 1 [.int .i64 0] 1 [(0,e)] g fun h i=>zad R Ax [d,h,f] i fun b a=>zah b 0 fun j=>zah b 1 fun c=>pBin PP .neq Am c (.int .i64 0) fun k=>zaa k fun l=>br l (some ((.tuple #[(.int .u64 0),c]),a)) (pIdx 1 j (.int .i64 0) fun m=>zak 1 false a m fun n=>some ((.tuple #[n,(.int .i64 0)]),a))
noncomputable def zkv(R:zag)(a b:Value)(c:Hp):Option (Value×Hp):=zcO PP orc R Bf Go.Proofs.Tryz.f24 [a,b] c
noncomputable def zlI(R:zag)(a:Value)(b:Hp):Option (Value×Hp):=pBin PP .lss Aa a (.int .i64 0) fun c=>zaa c fun d=>br d (some ((.tuple #[(.pointer none),(.int .i64 1)]),b)) (zcm b fun e f=>zcm f fun g h=>zaS PP Bp [(0,a),(2,e),(3,g)] fun i=>zfj (zab i) h fun j k=>some ((.tuple #[j,(.int .i64 0)]),k))
noncomputable def zc3(R:zag)(a b:Value)(c:Hp):Option (Value×Hp):=zcO PP orc R Bw Go.Proofs.Tryz.f30 [a,b] c
noncomputable def zfm(R:zag)(b c:Value)(d:Hp):Option (Value×Hp):=zad R AO [b,c] d fun e a=>pUn .not e fun f=>zaa f fun g=>br g (zaS PP Ah [] fun h=>zaD 7 [.int .i64 0,.int .i64 0,.int .i64 0,.int .i64 0,.int .i64 0,.int .u64 0,.string ⟨#[]⟩] 0 h fun i=>zae 7 true i 0 fun j=>some ((.tuple #[j,(.int .i64 70)]),a)) (pNil b (zat 1 b fun k=>zak 1 false a k fun l=>pBin PP .sub Aa c (.int .i64 1) fun m=>pIdx 7 l m fun n=>zak 7 true a n fun o=>zaD 7 [.int .i64 0,.int .i64 0,.int .i64 0,.int .i64 0,.int .i64 0,.int .u64 0,.string ⟨#[]⟩] 0 o fun p=>zae 7 true p 0 fun q=>some ((.tuple #[q,(.int .i64 0)]),a)))
noncomputable def zkr(R:zag)(a b:Value)(c:Hp):Option (Value×Hp):=zcO PP orc R AY Go.Proofs.Tryz.f35 [a,b] c
noncomputable def zeq(R:zag)(a b:Value)(c:Hp):Option (Value×Hp):=zcO PP orc R AB Go.Proofs.Tryz.f36 [a,b] c
noncomputable def zd1(R:zag)(a b:Value)(c:Hp):Option (Value×Hp):=zcO PP orc R Bv Go.Proofs.Tryz.f37 [a,b] c
noncomputable def zeJ(R:zag)(a b:Value)(c:Hp):Option (Value×Hp):=zcO PP orc R AN Go.Proofs.Tryz.f38 [a,b] c
noncomputable def zks(R:zag)(a:Value)(b:Hp):Option (Value×Hp):=zcO PP orc R BK Go.Proofs.Tryz.f39 [a] b
noncomputable def zku(R:zag)(d c e m f n:Value)(b:Hp):Option (Value×Hp):=zae 1 false (zab d) 0 fun a=>pBin PP .eql Aa a (.int .i64 1) fun o=>zaa o fun p=>br p (some ((.int .u64 1),b)) (pBin PP .eql Aa a (.int .i64 2) fun q=>zaa q fun r=>br r (some ((.int .u64 0),b)) (pBin PP .eql Aa a (.int .i64 3) fun s=>zaa s fun t=>br t (zae 1 false (zab d) 5 fun u=>some (u,b)) (pBin PP .eql Aa a (.int .i64 5) fun v=>zaa v fun w=>br w (pBin PP .sub Ab (.int .u64 1) c fun x=>some (x,b)) (pBin PP .eql Aa a (.int .i64 6) fun y=>zaa y fun z=>br z (pBin PP .and Ab c e fun A=>some (A,b)) (pBin PP .eql Aa a (.int .i64 7) fun B=>zaa B fun C=>br C (pBin PP .or Ab c e fun D=>some (D,b)) (pBin PP .eql Aa a (.int .i64 8) fun E=>zaa E fun F=>br F (pBin PP .xor Ab c e fun G=>some (G,b)) (pBin PP .eql Aa a (.int .i64 9) fun H=>zaa H fun I=>br I (pBin PP .eql Ab c e fun J=>zad R BJ [J] b fun K L=>some (K,L)) (pBin PP .leq Aa a (.int .i64 13) fun M=>zaa M fun N=>br N (zad R BY [a,f,c,e] b fun g O=>zah g 0 fun P=>zah g 1 fun az=>zad R BJ [P] O fun Q S=>some (Q,S)) (pBin PP .eql Aa a (.int .i64 14) fun T=>zaa T fun U=>br U (pBin PP .eql Ab c (.int .u64 1) fun V=>zaa V fun W=>br W (some (e,b)) (some (m,b))) (pBin PP .leq Aa a (.int .i64 16) fun X=>zaa X fun Y=>br Y (zae 1 false (zab d) 1 fun Z=>zad R B3 [a,Z,c] b fun h aa=>zah h 0 fun ab=>zah h 1 fun ba=>some (ab,aa)) (pBin PP .leq Aa a (.int .i64 29) fun ac=>zaa ac fun ad=>br ad (zae 1 false (zab d) 1 fun ae=>zad R BW [a,ae,c,e] b fun i af=>zah i 0 fun ag=>zah i 1 fun bb=>some (ag,af)) (pBin PP .eql Aa a (.int .i64 30) fun ah=>zaa ah fun ai=>br ai (zad R BX [f,c,n,e] b fun j aj=>zah j 0 fun ak=>zah j 1 fun bc=>some (ak,aj)) (pBin PP .eql Aa a (.int .i64 31) fun al=>zaa al fun am=>br am (zae 1 false (zab d) 5 fun ao=>zan .i64 ao fun ap=>zae 1 false (zab d) 1 fun aq=>zad R B2 [f,c,ap,aq] b fun k ar=>zah k 0 fun au=>zah k 1 fun bd=>some (au,ar)) (zae 1 false (zab d) 0 fun av=>zae 1 false (zab d) 1 fun aw=>zad R BZ [av,f,c,aw] b fun l ax=>zah l 0 fun ay=>zah l 1 fun be=>some (ay,ax)))))))))))))))
noncomputable def zeM(R:zag)(a b:Value)(c:Hp):Option (Value×Hp):=zcO PP orc R BF Go.Proofs.Tryz.f41 [a,b] c
noncomputable def zem(R:zag)(a:Value)(b:Hp):Option (Value×Hp):=zcO PP orc R BH Go.Proofs.Tryz.f42 [a] b
noncomputable def zcH(R:zag)(a b:Value)(c:Hp):Option (Value×Hp):=zcO PP orc R AW Go.Proofs.Tryz.f43 [a,b] c
noncomputable def zen(R:zag)(a b:Value)(c:Hp):Option (Value×Hp):=zcO PP orc R Bd Go.Proofs.Tryz.f44 [a,b] c
noncomputable def zdQ(R:zag)(a b c d e:Value)(f:Hp):Option (Value×Hp):=zcO PP orc R Be Go.Proofs.Tryz.f45 [a,b,c,d,e] f
noncomputable def zkt(R:zag)(a b:Value)(c:Hp):Option (Value×Hp):=pBin PP .add Ab a b fun d=>pBin PP .lss Ab d a fun e=>zaa e fun f=>br f (some ((.int .u64 18446744073709551615),c)) (pBin PP .add Ab a b fun g=>some (g,c))
noncomputable def zfn(R:zag)(a b:Value)(j:Hp):Option (Value×Hp):=zav (zae 1 false (zab b) 0 fun y=>pBin PP .lss Aa y (.int .i64 1) fun z=>zaa z fun A=>br A (some (.ret,[(.tuple #[(.int .i64 0),(.int .i64 73)])],j)) (zae 1 false (zab b) 0 fun B=>pBin PP .gtr Aa B (.int .i64 33) fun C=>zaa C fun D=>br D (some (.ret,[(.tuple #[(.int .i64 0),(.int .i64 73)])],j)) (some (.next,[],j)))) fun E F g=>zaB E (zav (zae 1 false (zab b) 1 fun G=>pBin PP .lss Aa G (.int .i64 0) fun H=>zaa H fun I=>br I (some (.ret,[(.tuple #[(.int .i64 0),(.int .i64 5)])],g)) (zae 1 false (zab b) 1 fun J=>pBin PP .gtr Aa J (.int .i64 64) fun K=>zaa K fun L=>br L (some (.ret,[(.tuple #[(.int .i64 0),(.int .i64 5)])],g)) (some (.next,[],g)))) fun M N m=>zaB M (zae 1 false (zab b) 2 fun O=>zae 1 false (zab b) 3 fun P=>zae 1 false (zab b) 4 fun Q=>zaS PP AZ [(0,O),(1,P),(2,Q)] fun S=>zav (zas (fun d n=>pBin PP .lss Aa (d.getD 0 undef) (.int .i64 3) fun T=>zaa T fun U=>br U (zeh 3 false 1 S (d.getD 0 undef) fun V=>zae 1 false (zab b) 0 fun W=>zad R Ay [W] n fun X o=>pBin PP .lss Aa (d.getD 0 undef) X fun Y=>zaa Y fun Z=>br Z (zad R AO [a,V] o fun aa p=>pUn .not aa fun ab=>zaa ab fun ac=>br ac (some (.ret,[(.tuple #[(.int .i64 0),(.int .i64 70)])],p)) (pBin PP .add Aa (d.getD 0 undef) (.int .i64 1) fun ad=>some (.next,[ad],p))) (pBin PP .add Aa (d.getD 0 undef) (.int .i64 1) fun ae=>some (.next,[ae],o))) (some (.exit 0,[(d.getD 0 undef)],n))) [(.int .i64 0)] m) fun af ag q=>zaB af none (fun ah=>zax ah 0 (zae 7 true (zab b) 0 fun ai=>zad R Cp [ai] q fun aj r=>zaa aj fun ak=>br ak (some ((.tuple #[(.int .i64 0),(.int .i64 1)]),r)) (zae 7 true (zab b) 0 fun al=>zad R Cm [a,al] r fun am s=>pUn .not am fun ao=>zaa ao fun ap=>br ap (some ((.tuple #[(.int .i64 0),(.int .i64 71)]),s)) (zae 7 true (zab b) 0 fun aq=>zad R Cn [a,aq] s fun ar e=>pUn .not ar fun au=>zaa au fun av=>br av (some ((.tuple #[(.int .i64 0),(.int .i64 5)]),e)) (zav (zae 1 false (zab b) 0 fun aw=>pBin PP .eql Aa aw (.int .i64 4) fun ax=>zaa ax fun ay=>br ay (pNil a (zat 3 a fun az=>zak 1 false e az fun ba=>zae 1 false (zab b) 6 fun bb=>zbM PP Ac (.int .i64 0) ba bb true e fun t=>zah t 0 fun bc=>zah t 1 fun bd=>zae 1 false (zab b) 6 fun be=>zad R Bq [be] e fun bf h=>pUn .not bf fun bg=>zaa bg fun bh=>br bh (some (.ret,[(.tuple #[(.int .i64 0),(.int .i64 72)])],h)) (zaa bd fun bi=>br bi (zae 1 false (zab b) 1 fun bj=>pBin PP .neq Aa bc bj fun bk=>zaa bk fun bl=>br bl (some (.ret,[(.tuple #[(.int .i64 0),(.int .i64 72)])],h)) (some (.next,[],h))) (some (.next,[],h))))) (some (.next,[],e))) fun bm bn c=>zaB bm (pNil a (zat 2 a fun bo=>zak 1 false c bo fun bp=>zae 7 true (zab b) 0 fun bq=>zbM PP Ah (.int .i64 0) bp bq true c fun u=>zah u 0 fun bs=>zah u 1 fun bt=>zaa bt fun bu=>br bu (some ((.tuple #[bs,(.int .i64 0)]),c)) (zav (pNil a (zat 0 a fun bv=>zak 1 false c bv fun bw=>pBin PP .gtr Aa bw (.int .i64 0) fun bx=>zaa bx fun bz=>br bz (pNil a (zat 1 a fun ca=>zak 1 false c ca fun cb=>pLen .sl cb c fun cc=>pNil a (zat 0 a fun cd=>zak 1 false c cd fun ce=>pBin PP .geq Aa cc ce fun cf=>zaa cf fun cg=>br cg (some (.ret,[(.tuple #[(.int .i64 0),(.int .i64 4)])],c)) (some (.next,[],c))))) (some (.next,[],c)))) fun ch ci k=>zaB ch (pNil a (zat 1 a fun v=>zak 1 false k v fun w=>zae 7 true (zab b) 0 fun cj=>zam 7 [.int .i64 0,.int .i64 0,.int .i64 0,.int .i64 0,.int .i64 0,.int .u64 0,.string ⟨#[]⟩] 1 [(0,cj)] k fun ck x=>chk (Hp.rdP x v 1 false=some w) (zaH 7 64 w ck x fun cl cm=>pNil a (zat 1 a fun cn=>zay 1 cm cn cl fun i=>pNil a (zat 2 a fun co=>zak 1 false i co fun cp=>zae 7 true (zab b) 0 fun cq=>pNil a (zat 1 a fun cr=>zak 1 false i cr fun cs=>pLen .sl cs i fun ct=>pUpd PP Ah cp cq ct i fun f=>zae 1 false (zab b) 0 fun cu=>pBin PP .eql Aa cu (.int .i64 4) fun cv=>zaa cv fun cw=>br cw (pNil a (zat 3 a fun cx=>zak 1 false f cx fun cy=>zae 1 false (zab b) 6 fun cz=>zae 1 false (zab b) 1 fun da=>pUpd PP Ac cy cz da f fun l=>pNil a (zat 1 a fun db=>zak 1 false l db fun dc=>pLen .sl dc l fun dd=>some ((.tuple #[dd,(.int .i64 0)]),l)))) (pNil a (zat 1 a fun de=>zak 1 false f de fun df=>pLen .sl df f fun dg=>some ((.tuple #[dg,(.int .i64 0)]),f))))))))) (fun dh=>none) (some ((ci.headD undef),k))))) (fun di=>none) (some ((bn.headD undef),c)))))) (none)) (some ((ag.headD undef),q))) (fun dj=>none) (some ((N.headD undef),m))) (fun dk=>none) (some ((F.headD undef),g))
noncomputable def zg1(R:zag)(b c:Value)(d:Hp):Option (Value×Hp):=zad R AO [b,c] d fun e a=>pUn .not e fun f=>zaa f fun g=>br g (some ((.int .i64 (-1)),a)) (pNil b (zat 1 b fun h=>zak 1 false a h fun i=>pBin PP .sub Aa c (.int .i64 1) fun j=>pIdx 7 i j fun k=>zat 1 k fun l=>zak 1 false a l fun m=>some (m,a)))
noncomputable def zf4(R:zag)(b c:Value)(a:Hp):Option (Value×Hp):=pBin PP .geq Aa c (.int .i64 1) fun d=>zaa d fun e=>br e (pNil b (zat 1 b fun f=>zak 1 false a f fun g=>pLen .sl g a fun h=>pBin PP .leq Aa c h fun i=>some (i,a))) (some ((.bool false),a))
noncomputable def zkx(R:zag)(e:Value)(d:Hp):Option (Value×Hp):=zav (pLen .str e d fun j=>pBin PP .lss Aa j (.int .i64 1) fun k=>zaa k fun l=>br l (some (.ret,[(.bool false)],d)) (pLen .str e d fun m=>pBin PP .gtr Aa m (.int .i64 24) fun n=>zaa n fun o=>br o (some (.ret,[(.bool false)],d)) (some (.next,[],d)))) fun p q f=>zaB p (zla e fun s11=>zav (zas (fun a b=>br (Nat.blt (zbl ((a.drop 0).getD 0 undef)) (zbr ((a.drop 0).getD 0 undef)).size) (zav (pBin PP .geq Ai (.int .i32 (Utf8.decode (zbr ((a.drop 0).getD 0 undef)) (zbl ((a.drop 0).getD 0 undef))).1) (.int .i32 97) fun r=>zaa r fun s=>br s (pBin PP .leq Ai (.int .i32 (Utf8.decode (zbr ((a.drop 0).getD 0 undef)) (zbl ((a.drop 0).getD 0 undef))).1) (.int .i32 122) fun t=>zaa t fun u=>br u (some (.next,[(.bool true)],b)) (pBin PP .geq Ai (.int .i32 (Utf8.decode (zbr ((a.drop 0).getD 0 undef)) (zbl ((a.drop 0).getD 0 undef))).1) (.int .i32 65) fun v=>zaa v fun w=>br w (pBin PP .leq Ai (.int .i32 (Utf8.decode (zbr ((a.drop 0).getD 0 undef)) (zbl ((a.drop 0).getD 0 undef))).1) (.int .i32 90) fun x=>zaa x fun y=>br y (some (.next,[(.bool true)],b)) (pBin PP .eql Ai (.int .i32 (Utf8.decode (zbr ((a.drop 0).getD 0 undef)) (zbl ((a.drop 0).getD 0 undef))).1) (.int .i32 95) fun z=>some (.next,[z],b))) (pBin PP .eql Ai (.int .i32 (Utf8.decode (zbr ((a.drop 0).getD 0 undef)) (zbl ((a.drop 0).getD 0 undef))).1) (.int .i32 95) fun A=>some (.next,[A],b)))) (pBin PP .geq Ai (.int .i32 (Utf8.decode (zbr ((a.drop 0).getD 0 undef)) (zbl ((a.drop 0).getD 0 undef))).1) (.int .i32 65) fun B=>zaa B fun C=>br C (pBin PP .leq Ai (.int .i32 (Utf8.decode (zbr ((a.drop 0).getD 0 undef)) (zbl ((a.drop 0).getD 0 undef))).1) (.int .i32 90) fun D=>zaa D fun E=>br E (some (.next,[(.bool true)],b)) (pBin PP .eql Ai (.int .i32 (Utf8.decode (zbr ((a.drop 0).getD 0 undef)) (zbl ((a.drop 0).getD 0 undef))).1) (.int .i32 95) fun F=>some (.next,[F],b))) (pBin PP .eql Ai (.int .i32 (Utf8.decode (zbr ((a.drop 0).getD 0 undef)) (zbl ((a.drop 0).getD 0 undef))).1) (.int .i32 95) fun G=>some (.next,[G],b)))) fun H g c=>zaB H (pUn .not (g.getD 0 undef) fun I=>zaa I fun J=>br J (pBin PP .eql Aa (.int .i64 ((zbl ((a.drop 0).getD 0 undef)):Nat)) (.int .i64 0) fun K=>zaa K fun L=>br L (some (.ret,[(.bool false)],c)) (pBin PP .lss Ai (.int .i32 (Utf8.decode (zbr ((a.drop 0).getD 0 undef)) (zbl ((a.drop 0).getD 0 undef))).1) (.int .i32 48) fun M=>zaa M fun N=>br N (some (.ret,[(.bool false)],c)) (pBin PP .gtr Ai (.int .i32 (Utf8.decode (zbr ((a.drop 0).getD 0 undef)) (zbl ((a.drop 0).getD 0 undef))).1) (.int .i32 57) fun O=>zaa O fun P=>br P (some (.ret,[(.bool false)],c)) (some (.next,[(.tuple #[.string (zbr ((a.drop 0).getD 0 undef)),.int .i64 (((zbl ((a.drop 0).getD 0 undef))+(Utf8.decode (zbr ((a.drop 0).getD 0 undef)) (zbl ((a.drop 0).getD 0 undef))).2):Nat)])],c))))) (some (.next,[(.tuple #[.string (zbr ((a.drop 0).getD 0 undef)),.int .i64 (((zbl ((a.drop 0).getD 0 undef))+(Utf8.decode (zbr ((a.drop 0).getD 0 undef)) (zbl ((a.drop 0).getD 0 undef))).2):Nat)])],c))) (fun h=>zax h 1 (some (.next,[(.tuple #[.string (zbr ((a.drop 0).getD 0 undef)),.int .i64 (((zbl ((a.drop 0).getD 0 undef))+(Utf8.decode (zbr ((a.drop 0).getD 0 undef)) (zbl ((a.drop 0).getD 0 undef))).2):Nat)])],c)) (some (.exit h,[(.tuple #[.string (zbr ((a.drop 0).getD 0 undef)),.int .i64 (((zbl ((a.drop 0).getD 0 undef))+(Utf8.decode (zbr ((a.drop 0).getD 0 undef)) (zbl ((a.drop 0).getD 0 undef))).2):Nat)])],c))) (some (.ret,[(g.headD undef)],c))) (some (.exit 0,[(.tuple #[.string (zbr ((a.drop 0).getD 0 undef)),.int .i64 ((zbl ((a.drop 0).getD 0 undef)):Nat)])],b))) [(.tuple #[.string s11,.int .i64 (0:Nat)])] f) fun Q S i=>zaB Q none (fun T=>zax T 0 (some ((.bool true),i)) (none)) (some ((S.headD undef),i))) (fun U=>none) (some ((q.headD undef),f))
noncomputable def zi9(R:zag)(a:Hp):Option (Value×Hp):=zad R BP [(.string ⟨#[45,32,116,114,117,101,32,102,97,108,115,101,32,99,111,110,115,116,32,118,97,114,32,110,111,116,32,97,110,100,32,111,114,32,120,111,114,32,101,113,32,117,108,116,32,117,108,101,32,115,108,116,32,115,108,101,32,105,116,101,32,99,111,109,32,110,101,103,32,98,97,110,100,32,98,111,114,32,98,120,111,114,32,97,100,100,32,115,117,98,32,109,117,108,32,100,105,118,32,114,101,109,32,115,104,108,32,115,104,114,32,115,97,114,32,114,111,108,32,114,111,114,32,99,97,116,32,115,108,105,99,101,32,122,101,120,116,32,115,101,120,116]⟩)] a fun b c=>some (b,c)
noncomputable def zi8(R:zag)(b:Value)(c:Hp):Option (Value×Hp):=zav (pBin PP .eql Aa b (.int .i64 1) fun d=>zaa d fun m=>br m (some (.next,[d],c)) (pBin PP .eql Aa b (.int .i64 2) fun e=>zaa e fun n=>br n (some (.next,[e],c)) (pBin PP .eql Aa b (.int .i64 3) fun f=>zaa f fun o=>br o (some (.next,[f],c)) (pBin PP .eql Aa b (.int .i64 4) fun p=>some (.next,[p],c))))) fun q g a=>zaB q (zaa (g.getD 0 undef) fun r=>br r (some ((.int .i64 0),a)) (pBin PP .eql Aa b (.int .i64 5) fun h=>zaa h fun s=>br s (zaa h fun t=>br t (some ((.int .i64 1),a)) (pBin PP .eql Aa b (.int .i64 14) fun u=>zaa u fun v=>br v (some ((.int .i64 3),a)) (some ((.int .i64 2),a)))) (pBin PP .eql Aa b (.int .i64 15) fun i=>zaa i fun w=>br w (zaa i fun x=>br x (some ((.int .i64 1),a)) (pBin PP .eql Aa b (.int .i64 14) fun y=>zaa y fun z=>br z (some ((.int .i64 3),a)) (some ((.int .i64 2),a)))) (pBin PP .eql Aa b (.int .i64 16) fun j=>zaa j fun A=>br A (zaa j fun B=>br B (some ((.int .i64 1),a)) (pBin PP .eql Aa b (.int .i64 14) fun C=>zaa C fun D=>br D (some ((.int .i64 3),a)) (some ((.int .i64 2),a)))) (pBin PP .eql Aa b (.int .i64 31) fun k=>zaa k fun E=>br E (zaa k fun F=>br F (some ((.int .i64 1),a)) (pBin PP .eql Aa b (.int .i64 14) fun G=>zaa G fun H=>br H (some ((.int .i64 3),a)) (some ((.int .i64 2),a)))) (pBin PP .eql Aa b (.int .i64 32) fun l=>zaa l fun I=>br I (zaa l fun J=>br J (some ((.int .i64 1),a)) (pBin PP .eql Aa b (.int .i64 14) fun K=>zaa K fun L=>br L (some ((.int .i64 3),a)) (some ((.int .i64 2),a)))) (pBin PP .eql Aa b (.int .i64 33) fun M=>zaa M fun N=>br N (some ((.int .i64 1),a)) (pBin PP .eql Aa b (.int .i64 14) fun O=>zaa O fun P=>br P (some ((.int .i64 3),a)) (some ((.int .i64 2),a)))))))))) (fun Q=>zax Q 0 (some ((.int .i64 2),a)) (none)) (some ((g.headD undef),a))
noncomputable def zf5(R:zag)(a b:Value)(c:Hp):Option (Value×Hp):=zad R BR [a,b,(.int .i64 0),(.int .i64 (-1))] c fun d e=>some (d,e)
noncomputable def zc0(R:zag)(x b c d:Value)(a:Hp):Option (Value×Hp):=zfH PP .eql CG x fun e=>zaa e fun f=>br f (some ((.tuple #[]),a)) (zhp PP Ae x fun g=>zaD 1 [.int .i64 0] 0 g fun h=>zae 1 false h 0 fun i=>zay 1 a b (.pointer none) fun j=>zay 1 j c (.slice none 0 0) fun k=>zay 1 k d i fun l=>some ((.tuple #[]),l))
theorem zir(R:zag)(x a b c:Value)(d:Hp){α:Type}(k:Hp→Option α):ziq PP orc R BS [a,b,c] x d k=zit (zc0 R x a b c d) fun _ H=>k H:=by kernel_rfl
noncomputable def zdP(R:zag)(a b:Value)(c:Hp):Option (Value×Hp):=zcO PP orc R AK Go.Proofs.Tryz.f67 [a,b] c
noncomputable def zia(R:zag)(a:Value)(b:Hp):Option (Value×Hp):=pBin PP .eql Ai a (.int .i32 32) fun c=>some (c,b)
noncomputable def zcZ(R:zag)(a:Value)(b:Hp):Option (Value×Hp):=pNil a (zat 1 a fun c=>zak 1 false b c fun d=>pLen .sl d b fun e=>pBin PP .eql Aa e (.int .i64 0) fun f=>zaa f fun g=>br g (zaS PP Ae [(0,(.int .i64 3))] fun h=>some ((W0 (.iface Ae h)),b)) (pNil a (zat 1 a fun i=>zak 1 false b i fun j=>pIdx 1 j (.int .i64 0) fun k=>zak 1 false b k fun l=>pNil a (zat 1 a fun m=>zak 1 false b m fun n=>zcf 1 n (some (.int .i64 1)) none fun o=>pNil a (zat 1 a fun p=>zay 1 b p o fun q=>some ((W1 l),q))))))
noncomputable def zeH(R:zag)(b:Value)(d:Hp):Option (Value×Hp):=zbI R Ao [b] d (fun e f=>some ((W0 e),f)) fun c a=>pBin PP .lss Aa c (.int .i64 1) fun g=>zaa g fun h=>br h (zaS PP Ae [(0,(.int .i64 3))] fun i=>some ((W0 (.iface Ae i)),a)) (pNil b (zat 2 b fun j=>zak 1 false a j fun k=>pLen .sl k a fun l=>pBin PP .gtr Aa c l fun m=>zaa m fun n=>br n (zaS PP Ae [(0,(.int .i64 3))] fun o=>some ((W0 (.iface Ae o)),a)) (pNil b (zat 2 b fun p=>zak 1 false a p fun q=>pBin PP .sub Aa c (.int .i64 1) fun r=>pIdx 1 q r fun s=>zak 1 false a s fun t=>some ((W1 t),a)))))
noncomputable def zdO(R:zag)(d:Value)(e:Hp):Option (Value×Hp):=zbI R Aq [d] e (fun f g=>some ((W0 f),g)) fun h i=>zad R AR [h] i fun b a=>zah b 0 fun c=>zah b 1 fun j=>pBin PP .neq Am j (.int .i64 0) fun k=>zaa k fun l=>br l (zaS PP Ae [(0,(.int .i64 3))] fun m=>some ((W0 (.iface Ae m)),a)) (pBin PP .geq Ab c (.int .u64 2147483648) fun n=>zaa n fun o=>br o (zaS PP Ae [(0,(.int .i64 3))] fun p=>some ((W0 (.iface Ae p)),a)) (zan .i64 c fun q=>some ((W1 q),a)))
noncomputable def zeI(R:zag)(a:Value)(b:Hp):Option (Value×Hp):=zcO PP orc R AP Go.Proofs.Tryz.f72 [a] b
noncomputable def zeN(R:zag)(a:Value)(b:Hp):Option (Value×Hp):=pBin PP .lss Aa a (.int .i64 0) fun c=>zaa c fun d=>br d (some ((.tuple #[(.pointer none),(.int .i64 1)]),b)) (zcm b fun e f=>zcm f fun g h=>zaS PP Cr [(0,a),(2,e),(3,g)] fun i=>zfj (zab i) h fun j k=>some ((.tuple #[j,(.int .i64 0)]),k))
noncomputable def zdS(R:zag)(a:Value)(b:Hp):Option (Value×Hp):=zcO PP orc R BD Go.Proofs.Tryz.f74 [a] b
noncomputable def zdU(R:zag)(a b:Value)(c:Hp):Option (Value×Hp):=zcO PP orc R Ba Go.Proofs.Tryz.f75 [a,b] c
noncomputable def zeo(R:zag)(a b:Value)(c:Hp):Option (Value×Hp):=zcO PP orc R AX Go.Proofs.Tryz.f76 [a,b] c
noncomputable def zct(R:zag)(b a:Value)(c:Hp):Option (Value×Hp):=zae 1 false (zab a) 0 fun g=>pBin PP .eql Aa g (.int .i64 14) fun h=>zaa h fun i=>br i (zae 1 false (zab a) 3 fun j=>zad R Ag [b,j] c fun k l=>some (k,l)) (zav (zae 1 false (zab a) 0 fun m=>pBin PP .eql Aa m (.int .i64 15) fun n=>zaa n fun o=>br o (some (.next,[(.bool true)],c)) (zae 1 false (zab a) 0 fun p=>pBin PP .eql Aa p (.int .i64 16) fun q=>zaa q fun r=>br r (some (.next,[(.bool true)],c)) (zae 1 false (zab a) 0 fun s=>pBin PP .geq Aa s (.int .i64 17) fun t=>zaa t fun u=>br u (zae 1 false (zab a) 0 fun v=>pBin PP .leq Aa v (.int .i64 29) fun w=>some (.next,[w],c)) (some (.next,[(.bool false)],c))))) fun x e d=>zaB x (zaa (e.getD 0 undef) fun y=>br y (zae 1 false (zab a) 2 fun z=>zad R Ag [b,z] d fun A B=>some (A,B)) (zae 1 false (zab a) 0 fun C=>pBin PP .eql Aa C (.int .i64 30) fun D=>zaa D fun E=>br E (zae 1 false (zab a) 2 fun F=>zad R Ag [b,F] d fun G H=>zae 1 false (zab a) 3 fun I=>zad R Ag [b,I] H fun J f=>pBin PP .add Aa G J fun K=>pBin PP .leq Aa K (.int .i64 64) fun L=>zaa L fun M=>br M (zae 1 false (zab a) 2 fun N=>zad R Ag [b,N] f fun O P=>zae 1 false (zab a) 3 fun Q=>zad R Ag [b,Q] P fun S T=>pBin PP .add Aa O S fun U=>some (U,T)) (zae 1 false (zab a) 1 fun V=>some (V,f))) (zae 1 false (zab a) 1 fun W=>some (W,d)))) (fun X=>zax X 0 (zae 1 false (zab a) 1 fun Y=>some (Y,d)) (none)) (some ((e.headD undef),d)))
noncomputable def zcK(R:zag)(a b:Value)(W:Hp):Option (Value×Hp):=zae 1 false (zab b) 0 fun X=>zad R BB [X] W fun g t=>pBin PP .lss Aa g (.int .i64 0) fun Y=>zaa Y fun Z=>br Z (some ((.tuple #[(.int .i64 0),(.int .i64 73)]),t)) (zav (zae 1 false (zab b) 1 fun aa=>pBin PP .lss Aa aa (.int .i64 0) fun ab=>zaa ab fun ac=>br ac (some (.next,[(.bool true)],t)) (zae 1 false (zab b) 1 fun ad=>pBin PP .gtr Aa ad (.int .i64 64) fun ae=>some (.next,[ae],t))) fun af C f=>zaB af (zaa (C.getD 0 undef) fun ag=>br ag (some ((.tuple #[(.int .i64 0),(.int .i64 5)]),f)) (zav (pBin PP .geq Aa g (.int .i64 1) fun ah=>zaa ah fun ai=>br ai (zae 1 false (zab b) 2 fun aj=>zad R Au [a,aj] f fun ak m=>pUn .not ak fun al=>zaa al fun am=>br am (some (.next,[(.bool true)],m)) (pBin PP .geq Aa g (.int .i64 2) fun ao=>zaa ao fun ap=>br ap (zae 1 false (zab b) 3 fun aq=>zad R Au [a,aq] m fun ar u=>pUn .not ar fun au=>zaa au fun av=>br av (some (.next,[(.bool true)],u)) (pBin PP .geq Aa g (.int .i64 3) fun aw=>zaa aw fun ax=>br ax (zae 1 false (zab b) 4 fun ay=>zad R Au [a,ay] u fun az ba=>pUn .not az fun bb=>some (.next,[bb],ba)) (some (.next,[(.bool false)],u)))) (pBin PP .geq Aa g (.int .i64 3) fun bc=>zaa bc fun bd=>br bd (zae 1 false (zab b) 4 fun be=>zad R Au [a,be] m fun bf bg=>pUn .not bf fun bh=>some (.next,[bh],bg)) (some (.next,[(.bool false)],m))))) (pBin PP .geq Aa g (.int .i64 2) fun bi=>zaa bi fun bj=>br bj (zae 1 false (zab b) 3 fun bk=>zad R Au [a,bk] f fun bl v=>pUn .not bl fun bm=>zaa bm fun bn=>br bn (some (.next,[(.bool true)],v)) (pBin PP .geq Aa g (.int .i64 3) fun bo=>zaa bo fun bp=>br bp (zae 1 false (zab b) 4 fun bq=>zad R Au [a,bq] v fun bs bt=>pUn .not bs fun bu=>some (.next,[bu],bt)) (some (.next,[(.bool false)],v)))) (pBin PP .geq Aa g (.int .i64 3) fun bv=>zaa bv fun bw=>br bw (zae 1 false (zab b) 4 fun bx=>zad R Au [a,bx] f fun bz ca=>pUn .not bz fun cb=>some (.next,[cb],ca)) (some (.next,[(.bool false)],f))))) fun cc D h=>zaB cc (zaa (D.getD 0 undef) fun cd=>br cd (some ((.tuple #[(.int .i64 0),(.int .i64 70)]),h)) (zae 7 true (zab b) 0 fun ce=>zad R Ce [ce,g] h fun cf E=>zaa cf fun cg=>br cg (some ((.tuple #[(.int .i64 0),(.int .i64 1)]),E)) (zae 7 true (zab b) 0 fun ch=>zad R Cc [a,ch] E fun ci F=>pUn .not ci fun cj=>zaa cj fun ck=>br ck (some ((.tuple #[(.int .i64 0),(.int .i64 71)]),F)) (zae 7 true (zab b) 0 fun cl=>zad R Cd [a,cl] F fun cm i=>pUn .not cm fun cn=>zaa cn fun co=>br co (some ((.tuple #[(.int .i64 0),(.int .i64 5)]),i)) (zav (zae 1 false (zab b) 0 fun cp=>pBin PP .eql Aa cp (.int .i64 4) fun cq=>zaa cq fun cr=>br cr (pNil a (zat 3 a fun cs=>zak 1 false i cs fun ct=>zae 1 false (zab b) 6 fun cu=>zbM PP Ac (.int .i64 0) ct cu true i fun G=>zah G 0 fun cv=>zah G 1 fun cw=>zae 1 false (zab b) 6 fun cx=>zad R AU [cx] i fun cy n=>pUn .not cy fun cz=>zaa cz fun da=>br da (some (.ret,[(.tuple #[(.int .i64 0),(.int .i64 72)])],n)) (zaa cw fun db=>br db (zae 1 false (zab b) 1 fun dc=>pBin PP .neq Aa cv dc fun dd=>zaa dd fun de=>br de (some (.ret,[(.tuple #[(.int .i64 0),(.int .i64 72)])],n)) (some (.next,[],n))) (some (.next,[],n))))) (some (.next,[],i))) fun df dg c=>zaB df (pNil a (zat 2 a fun dh=>zak 1 false c dh fun di=>zae 7 true (zab b) 0 fun dj=>zbM PP Ah (.int .i64 0) di dj true c fun H=>zah H 0 fun dk=>zah H 1 fun dl=>zaa dl fun dm=>br dm (some ((.tuple #[dk,(.int .i64 0)]),c)) (zav (pNil a (zat 0 a fun dn=>zak 1 false c dn fun dp=>pBin PP .gtr Aa dp (.int .i64 0) fun dq=>zaa dq fun dr=>br dr (pNil a (zat 1 a fun ds=>zak 1 false c ds fun dt=>pLen .sl dt c fun du=>pNil a (zat 0 a fun dv=>zak 1 false c dv fun dw=>pBin PP .geq Aa du dw fun dx=>zaa dx fun dy=>br dy (some (.ret,[(.tuple #[(.int .i64 0),(.int .i64 4)])],c)) (some (.next,[],c))))) (some (.next,[],c)))) fun dz ea w=>zaB dz (pNil a (zat 1 a fun I=>zak 1 false w I fun J=>zae 7 true (zab b) 0 fun eb=>zam 7 [.int .i64 0,.int .i64 0,.int .i64 0,.int .i64 0,.int .i64 0,.int .u64 0,.string ⟨#[]⟩] 1 [(0,eb)] w fun ec K=>chk (Hp.rdP K I 1 false=some J) (zaH 7 64 J ec K fun ed ee=>pNil a (zat 1 a fun ef=>zay 1 ee ef ed fun o=>pNil a (zat 2 a fun eg=>zak 1 false o eg fun eh=>zae 7 true (zab b) 0 fun ei=>pNil a (zat 1 a fun ej=>zak 1 false o ej fun ek=>pLen .sl ek o fun el=>pUpd PP Ah eh ei el o fun j=>zae 1 false (zab b) 0 fun em=>pBin PP .eql Aa em (.int .i64 4) fun en=>zaa en fun eo=>br eo (pNil a (zat 3 a fun ep=>zak 1 false j ep fun eq=>zae 1 false (zab b) 6 fun er=>zae 1 false (zab b) 1 fun es=>pUpd PP Ac eq er es j fun x=>pNil a (zat 1 a fun et=>zak 1 false x et fun eu=>pLen .sl eu x fun ev=>some ((.tuple #[ev,(.int .i64 0)]),x)))) (pNil a (zat 1 a fun ew=>zak 1 false j ew fun ex=>pLen .sl ex j fun ey=>some ((.tuple #[ey,(.int .i64 0)]),j))))))))) (fun jw=>none) (some ((ea.headD undef),w))))) (fun jx=>none) (some ((dg.headD undef),c))))))) (fun ez=>zax ez 0 (zav (zae 1 false (zab b) 0 fun fa=>pBin PP .eql Aa fa (.int .i64 4) fun fb=>zaa fb fun fc=>br fc (pNil a (zat 3 a fun fd=>zak 1 false h fd fun fe=>zae 1 false (zab b) 6 fun ff=>zbM PP Ac (.int .i64 0) fe ff true h fun L=>zah L 0 fun fg=>zah L 1 fun fh=>zae 1 false (zab b) 6 fun fi=>zad R AU [fi] h fun fj p=>pUn .not fj fun fk=>zaa fk fun fl=>br fl (some (.ret,[(.tuple #[(.int .i64 0),(.int .i64 72)])],p)) (zaa fh fun fm=>br fm (zae 1 false (zab b) 1 fun fn=>pBin PP .neq Aa fg fn fun fo=>zaa fo fun fp=>br fp (some (.ret,[(.tuple #[(.int .i64 0),(.int .i64 72)])],p)) (some (.next,[],p))) (some (.next,[],p))))) (some (.next,[],h))) fun fq fr d=>zaB fq (pNil a (zat 2 a fun fs=>zak 1 false d fs fun ft=>zae 7 true (zab b) 0 fun fu=>zbM PP Ah (.int .i64 0) ft fu true d fun M=>zah M 0 fun fv=>zah M 1 fun fw=>zaa fw fun fx=>br fx (some ((.tuple #[fv,(.int .i64 0)]),d)) (zav (pNil a (zat 0 a fun fy=>zak 1 false d fy fun fz=>pBin PP .gtr Aa fz (.int .i64 0) fun ga=>zaa ga fun gb=>br gb (pNil a (zat 1 a fun gc=>zak 1 false d gc fun gd=>pLen .sl gd d fun ge=>pNil a (zat 0 a fun gf=>zak 1 false d gf fun gg=>pBin PP .geq Aa ge gg fun gh=>zaa gh fun gi=>br gi (some (.ret,[(.tuple #[(.int .i64 0),(.int .i64 4)])],d)) (some (.next,[],d))))) (some (.next,[],d)))) fun gj gk y=>zaB gj (pNil a (zat 1 a fun N=>zak 1 false y N fun O=>zae 7 true (zab b) 0 fun gl=>zam 7 [.int .i64 0,.int .i64 0,.int .i64 0,.int .i64 0,.int .i64 0,.int .u64 0,.string ⟨#[]⟩] 1 [(0,gl)] y fun gm P=>chk (Hp.rdP P N 1 false=some O) (zaH 7 64 O gm P fun gn go=>pNil a (zat 1 a fun gp=>zay 1 go gp gn fun q=>pNil a (zat 2 a fun gq=>zak 1 false q gq fun gr=>zae 7 true (zab b) 0 fun gs=>pNil a (zat 1 a fun gt=>zak 1 false q gt fun gu=>pLen .sl gu q fun gv=>pUpd PP Ah gr gs gv q fun k=>zae 1 false (zab b) 0 fun gw=>pBin PP .eql Aa gw (.int .i64 4) fun gx=>zaa gx fun gy=>br gy (pNil a (zat 3 a fun gz=>zak 1 false k gz fun ha=>zae 1 false (zab b) 6 fun hb=>zae 1 false (zab b) 1 fun hc=>pUpd PP Ac ha hb hc k fun z=>pNil a (zat 1 a fun hd=>zak 1 false z hd fun he=>pLen .sl he z fun hf=>some ((.tuple #[hf,(.int .i64 0)]),z)))) (pNil a (zat 1 a fun hg=>zak 1 false k hg fun hh=>pLen .sl hh k fun hi=>some ((.tuple #[hi,(.int .i64 0)]),k))))))))) (fun jy=>none) (some ((gk.headD undef),y))))) (fun jz=>none) (some ((fr.headD undef),d))) (none)) (some ((D.headD undef),h)))) (fun hj=>zax hj 0 (zav (zae 1 false (zab b) 0 fun hk=>pBin PP .eql Aa hk (.int .i64 4) fun hl=>zaa hl fun hm=>br hm (pNil a (zat 3 a fun hn=>zak 1 false f hn fun ho=>zae 1 false (zab b) 6 fun hp=>zbM PP Ac (.int .i64 0) ho hp true f fun Q=>zah Q 0 fun hq=>zah Q 1 fun hr=>zae 1 false (zab b) 6 fun hs=>zad R AU [hs] f fun ht r=>pUn .not ht fun hu=>zaa hu fun hv=>br hv (some (.ret,[(.tuple #[(.int .i64 0),(.int .i64 72)])],r)) (zaa hr fun hw=>br hw (zae 1 false (zab b) 1 fun hx=>pBin PP .neq Aa hq hx fun hy=>zaa hy fun hz=>br hz (some (.ret,[(.tuple #[(.int .i64 0),(.int .i64 72)])],r)) (some (.next,[],r))) (some (.next,[],r))))) (some (.next,[],f))) fun ia ib e=>zaB ia (pNil a (zat 2 a fun ic=>zak 1 false e ic fun id=>zae 7 true (zab b) 0 fun ie=>zbM PP Ah (.int .i64 0) id ie true e fun S=>zah S 0 fun ig=>zah S 1 fun ih=>zaa ih fun ii=>br ii (some ((.tuple #[ig,(.int .i64 0)]),e)) (zav (pNil a (zat 0 a fun ij=>zak 1 false e ij fun ik=>pBin PP .gtr Aa ik (.int .i64 0) fun il=>zaa il fun im=>br im (pNil a (zat 1 a fun io=>zak 1 false e io fun ip=>pLen .sl ip e fun iq=>pNil a (zat 0 a fun ir=>zak 1 false e ir fun it=>pBin PP .geq Aa iq it fun iu=>zaa iu fun iv=>br iv (some (.ret,[(.tuple #[(.int .i64 0),(.int .i64 4)])],e)) (some (.next,[],e))))) (some (.next,[],e)))) fun iw ix A=>zaB iw (pNil a (zat 1 a fun T=>zak 1 false A T fun U=>zae 7 true (zab b) 0 fun iy=>zam 7 [.int .i64 0,.int .i64 0,.int .i64 0,.int .i64 0,.int .i64 0,.int .u64 0,.string ⟨#[]⟩] 1 [(0,iy)] A fun iz V=>chk (Hp.rdP V T 1 false=some U) (zaH 7 64 U iz V fun ja jb=>pNil a (zat 1 a fun jc=>zay 1 jb jc ja fun s=>pNil a (zat 2 a fun jd=>zak 1 false s jd fun je=>zae 7 true (zab b) 0 fun jf=>pNil a (zat 1 a fun jg=>zak 1 false s jg fun jh=>pLen .sl jh s fun ji=>pUpd PP Ah je jf ji s fun l=>zae 1 false (zab b) 0 fun jj=>pBin PP .eql Aa jj (.int .i64 4) fun jk=>zaa jk fun jl=>br jl (pNil a (zat 3 a fun jm=>zak 1 false l jm fun jn=>zae 1 false (zab b) 6 fun jo=>zae 1 false (zab b) 1 fun jp=>pUpd PP Ac jn jo jp l fun B=>pNil a (zat 1 a fun jq=>zak 1 false B jq fun jr=>pLen .sl jr B fun js=>some ((.tuple #[js,(.int .i64 0)]),B)))) (pNil a (zat 1 a fun jt=>zak 1 false l jt fun ju=>pLen .sl ju l fun jv=>some ((.tuple #[jv,(.int .i64 0)]),l))))))))) (fun ka=>none) (some ((ix.headD undef),A))))) (fun kb=>none) (some ((ib.headD undef),e))) (none)) (some ((C.headD undef),f)))
noncomputable def zfK(R:zag)(b:Value)(a:Hp):Option (Value×Hp):=pNil b (zat 1 b fun c=>zak 1 false a c fun d=>pLen .sl d a fun e=>some (e,a))
noncomputable def zkw(R:zag)(a c:Value)(b:Hp):Option (Value×Hp):=pBin PP .lss Aa a (.int .i64 1) fun d=>zaa d fun e=>br e (some ((.int .u64 0),b)) (pBin PP .geq Aa a (.int .i64 64) fun f=>zaa f fun g=>br g (some (c,b)) (zan .u64 a fun h=>pBin PP .shl Ab (.int .u64 1) h fun i=>pBin PP .sub Ab i (.int .u64 1) fun j=>pBin PP .and Ab c j fun k=>some (k,b)))
noncomputable def zlJ(R:zag)(b:Value)(a:Hp):Option (Value×Hp):=zaa b fun c=>br c (some ((.int .u64 1),a)) (some ((.int .u64 0),a))
noncomputable def zlL(R:zag)(a b k l:Value)(f:Hp):Option (Value×Hp):=zav (pBin PP .lss Aa a (.int .i64 9) fun m=>zaa m fun n=>br n (some (.ret,[(.tuple #[(.bool false),(.int .i64 73)])],f)) (pBin PP .gtr Aa a (.int .i64 13) fun o=>zaa o fun p=>br p (some (.ret,[(.tuple #[(.bool false),(.int .i64 73)])],f)) (some (.next,[],f)))) fun q r g=>zaB q (zad R Ar [b] g fun s h=>pUn .not s fun t=>zaa t fun u=>br u (some ((.tuple #[(.bool false),(.int .i64 5)]),h)) (zad R Af [b,k] h fun d v=>zad R Af [b,l] v fun e w=>zad R AS [b,d] w fun i x=>zad R AS [b,e] x fun j c=>pBin PP .eql Aa a (.int .i64 9) fun y=>zaa y fun z=>br z (pBin PP .eql Ab d e fun A=>some ((.tuple #[A,(.int .i64 0)]),c)) (pBin PP .eql Aa a (.int .i64 10) fun B=>zaa B fun C=>br C (pBin PP .lss Ab d e fun D=>some ((.tuple #[D,(.int .i64 0)]),c)) (pBin PP .eql Aa a (.int .i64 11) fun E=>zaa E fun F=>br F (pBin PP .leq Ab d e fun G=>some ((.tuple #[G,(.int .i64 0)]),c)) (pBin PP .eql Aa a (.int .i64 12) fun H=>zaa H fun I=>br I (pBin PP .lss AE i j fun J=>some ((.tuple #[J,(.int .i64 0)]),c)) (pBin PP .leq AE i j fun K=>some ((.tuple #[K,(.int .i64 0)]),c))))))) (fun L=>none) (some ((r.headD undef),g))
noncomputable def znP(R:zag)(b a c:Value)(d:Hp):Option (Value×Hp):=pBin PP .neq Aa b (.int .i64 15) fun g=>zaa g fun h=>br h (pBin PP .neq Aa b (.int .i64 16) fun i=>zaa i fun j=>br j (some ((.tuple #[(.int .u64 0),(.int .i64 73)]),d)) (zad R Ar [a] d fun k e=>pUn .not k fun l=>zaa l fun m=>br m (some ((.tuple #[(.int .u64 0),(.int .i64 5)]),e)) (pBin PP .eql Aa b (.int .i64 15) fun n=>zaa n fun o=>br o (pUn .xor c fun p=>zad R Af [a,p] e fun q r=>some ((.tuple #[q,(.int .i64 0)]),r)) (pUn .neg c fun s=>zad R Af [a,s] e fun t u=>some ((.tuple #[t,(.int .i64 0)]),u))))) (zad R Ar [a] d fun v f=>pUn .not v fun w=>zaa w fun x=>br x (some ((.tuple #[(.int .u64 0),(.int .i64 5)]),f)) (pBin PP .eql Aa b (.int .i64 15) fun y=>zaa y fun z=>br z (pUn .xor c fun A=>zad R Af [a,A] f fun B C=>some ((.tuple #[B,(.int .i64 0)]),C)) (pUn .neg c fun D=>zad R Af [a,D] f fun E F=>some ((.tuple #[E,(.int .i64 0)]),F))))
noncomputable def zlN(R:zag)(b a l m:Value)(f:Hp):Option (Value×Hp):=zav (pBin PP .lss Aa b (.int .i64 17) fun n=>zaa n fun o=>br o (some (.ret,[(.tuple #[(.int .u64 0),(.int .i64 73)])],f)) (pBin PP .gtr Aa b (.int .i64 29) fun p=>zaa p fun q=>br q (some (.ret,[(.tuple #[(.int .u64 0),(.int .i64 73)])],f)) (some (.next,[],f)))) fun r s g=>zaB r (zav (zad R Ar [a] g fun t h=>pUn .not t fun u=>zaa u fun v=>br v (some (.ret,[(.tuple #[(.int .u64 0),(.int .i64 5)])],h)) (zad R Bs [b] h fun w i=>zaa w fun x=>br x (zan .u64 a fun y=>zad R A3 [y] i fun z j=>pBin PP .neq Aa z (.int .i64 1) fun A=>zaa A fun B=>br B (some (.ret,[(.tuple #[(.int .u64 0),(.int .i64 5)])],j)) (some (.next,[],j))) (some (.next,[],i)))) fun C D k=>zaB C (zad R Af [a,l] k fun e E=>zad R Af [a,m] E fun d F=>zad R Bs [b] F fun G c=>zaa G fun H=>br H (zan .u64 a fun I=>pBin PP .rem Ab d I fun J=>zan .i64 J fun K=>zad R Br [b,a,e,K] c fun L M=>some ((.tuple #[L,(.int .i64 0)]),M)) (pBin PP .eql Aa b (.int .i64 17) fun N=>zaa N fun O=>br O (pBin PP .and Ab e d fun P=>zad R Af [a,P] c fun Q S=>some ((.tuple #[Q,(.int .i64 0)]),S)) (pBin PP .eql Aa b (.int .i64 18) fun T=>zaa T fun U=>br U (pBin PP .or Ab e d fun V=>zad R Af [a,V] c fun W X=>some ((.tuple #[W,(.int .i64 0)]),X)) (pBin PP .eql Aa b (.int .i64 19) fun Y=>zaa Y fun Z=>br Z (pBin PP .xor Ab e d fun aa=>zad R Af [a,aa] c fun ab ac=>some ((.tuple #[ab,(.int .i64 0)]),ac)) (pBin PP .eql Aa b (.int .i64 20) fun ad=>zaa ad fun ae=>br ae (pBin PP .add Ab e d fun af=>zad R Af [a,af] c fun ag ah=>some ((.tuple #[ag,(.int .i64 0)]),ah)) (pBin PP .eql Aa b (.int .i64 21) fun ai=>zaa ai fun aj=>br aj (pBin PP .sub Ab e d fun ak=>zad R Af [a,ak] c fun al am=>some ((.tuple #[al,(.int .i64 0)]),am)) (pBin PP .eql Aa b (.int .i64 22) fun ao=>zaa ao fun ap=>br ap (pBin PP .mul Ab e d fun aq=>zad R Af [a,aq] c fun ar au=>some ((.tuple #[ar,(.int .i64 0)]),au)) (pBin PP .eql Aa b (.int .i64 23) fun av=>zaa av fun aw=>br aw (pBin PP .neq Ab d (.int .u64 0) fun ax=>zaa ax fun ay=>br ay (pBin PP .quo Ab e d fun az=>zad R Af [a,az] c fun ba bb=>some ((.tuple #[ba,(.int .i64 0)]),bb)) (zad R Af [a,(.int .u64 18446744073709551615)] c fun bc bd=>some ((.tuple #[bc,(.int .i64 0)]),bd))) (pBin PP .eql Aa b (.int .i64 24) fun be=>zaa be fun bf=>br bf (pBin PP .neq Ab d (.int .u64 0) fun bg=>zaa bg fun bh=>br bh (pBin PP .rem Ab e d fun bi=>zad R Af [a,bi] c fun bj bk=>some ((.tuple #[bj,(.int .i64 0)]),bk)) (zad R Af [a,e] c fun bl bm=>some ((.tuple #[bl,(.int .i64 0)]),bm))) (zad R Af [a,(.int .u64 0)] c fun bn bo=>some ((.tuple #[bn,(.int .i64 0)]),bo))))))))))) (fun bp=>none) (some ((D.headD undef),k))) (fun bq=>none) (some ((s.headD undef),g))
noncomputable def zlM(R:zag)(b e a f:Value)(g:Hp):Option (Value×Hp):=zad R Ar [b] g fun h d=>pUn .not h fun i=>zaa i fun j=>br j (some ((.tuple #[(.int .u64 0),(.int .i64 5)]),d)) (zad R Ar [a] d fun k c=>pUn .not k fun l=>zaa l fun m=>br m (some ((.tuple #[(.int .u64 0),(.int .i64 5)]),c)) (pBin PP .add Aa b a fun n=>pBin PP .gtr Aa n (.int .i64 64) fun o=>zaa o fun p=>br p (some ((.tuple #[(.int .u64 0),(.int .i64 5)]),c)) (zad R Af [b,e] c fun q r=>zan .u64 a fun s=>pBin PP .shl Ab q s fun t=>zad R Af [a,f] r fun u v=>pBin PP .or Ab t u fun w=>some ((.tuple #[w,(.int .i64 0)]),v))))
noncomputable def zjb(R:zag)(b f c d:Value)(g:Hp):Option (Value×Hp):=zav (zad R Ar [b] g fun h a=>pUn .not h fun i=>zaa i fun j=>br j (some (.ret,[(.tuple #[(.int .u64 0),(.int .i64 5)])],a)) (pBin PP .lss Aa d (.int .i64 1) fun k=>zaa k fun l=>br l (some (.ret,[(.tuple #[(.int .u64 0),(.int .i64 5)])],a)) (pBin PP .lss Aa c (.int .i64 0) fun m=>zaa m fun n=>br n (some (.ret,[(.tuple #[(.int .u64 0),(.int .i64 5)])],a)) (pBin PP .gtr Aa c b fun o=>zaa o fun p=>br p (some (.ret,[(.tuple #[(.int .u64 0),(.int .i64 5)])],a)) (pBin PP .sub Aa b c fun q=>pBin PP .gtr Aa d q fun r=>zaa r fun s=>br s (some (.ret,[(.tuple #[(.int .u64 0),(.int .i64 5)])],a)) (some (.next,[],a))))))) fun t u e=>zaB t (zad R Af [b,f] e fun v w=>zan .u64 c fun x=>pBin PP .shr Ab v x fun y=>zad R Af [d,y] w fun z A=>some ((.tuple #[z,(.int .i64 0)]),A)) (fun B=>none) (some ((u.headD undef),e))
noncomputable def zlK(R:zag)(b a g c:Value)(d:Hp):Option (Value×Hp):=zav (pBin PP .neq Aa b (.int .i64 32) fun j=>zaa j fun k=>br k (pBin PP .neq Aa b (.int .i64 33) fun l=>zaa l fun m=>br m (some (.ret,[(.tuple #[(.int .u64 0),(.int .i64 73)])],d)) (some (.next,[],d))) (some (.next,[],d))) fun n o h=>zaB n (zav (zad R Ar [a] h fun p i=>pUn .not p fun q=>zaa q fun r=>br r (some (.ret,[(.tuple #[(.int .u64 0),(.int .i64 5)])],i)) (zad R Ar [c] i fun s e=>pUn .not s fun t=>zaa t fun u=>br u (some (.ret,[(.tuple #[(.int .u64 0),(.int .i64 5)])],e)) (pBin PP .lss Aa c a fun v=>zaa v fun w=>br w (some (.ret,[(.tuple #[(.int .u64 0),(.int .i64 5)])],e)) (some (.next,[],e))))) fun x y f=>zaB x (pBin PP .eql Aa b (.int .i64 32) fun z=>zaa z fun A=>br A (zad R Af [a,g] f fun B C=>some ((.tuple #[B,(.int .i64 0)]),C)) (zad R AS [a,g] f fun D E=>zan .u64 D fun F=>zad R Af [c,F] E fun G H=>some ((.tuple #[G,(.int .i64 0)]),H))) (fun I=>none) (some ((y.headD undef),f))) (fun J=>none) (some ((o.headD undef),h))
noncomputable def zfo(R:zag)(b c:Value)(a:Hp):Option (Value×Hp):=pBin PP .geq Aa c (.int .i64 1) fun d=>zaa d fun e=>br e (pNil b (zat 1 b fun f=>zak 1 false a f fun g=>pLen .sl g a fun h=>pBin PP .leq Aa c h fun i=>some (i,a))) (some ((.bool false),a))
noncomputable def zdR(R:zag)(a:Value)(b:Hp):Option (Value×Hp):=zcO PP orc R BG Go.Proofs.Tryz.f89 [a] b
noncomputable def zer(R:zag)(a c:Value)(b:Hp):Option (Value×Hp):=pBin PP .lss Aa a (.int .i64 1) fun d=>zaa d fun e=>br e (some ((.int .u64 0),b)) (pBin PP .geq Aa a (.int .i64 64) fun f=>zaa f fun g=>br g (some (c,b)) (zan .u64 a fun h=>pBin PP .shl Ab (.int .u64 1) h fun i=>pBin PP .rem Ab c i fun j=>some (j,b)))
noncomputable def zc1(R:zag)(b c:Value)(a:Hp):Option (Value×Hp):=pBin PP .geq Aa c (.int .i64 1) fun d=>zaa d fun e=>br e (pNil b (zat 1 b fun f=>zak 1 false a f fun g=>pLen .sl g a fun h=>pBin PP .leq Aa c h fun i=>some (i,a))) (some ((.bool false),a))
noncomputable def zdh(R:zag)(a b c s f t:Value)(d:Hp):Option (Value×Hp):=zae 1 false (zab a) 0 fun u=>pBin PP .eql Aa u (.int .i64 1) fun v=>zaa v fun w=>br w (some ((.int .u64 1),d)) (zae 1 false (zab a) 0 fun x=>pBin PP .eql Aa x (.int .i64 3) fun y=>zaa y fun z=>br z (zae 1 false (zab a) 5 fun A=>some (A,d)) (zae 1 false (zab a) 0 fun B=>pBin PP .eql Aa B (.int .i64 5) fun C=>zaa C fun D=>br D (pBin PP .sub Ab (.int .u64 1) b fun E=>some (E,d)) (zae 1 false (zab a) 0 fun F=>pBin PP .eql Aa F (.int .i64 6) fun G=>zaa G fun H=>br H (pBin PP .mul Ab b c fun I=>some (I,d)) (zae 1 false (zab a) 0 fun J=>pBin PP .eql Aa J (.int .i64 7) fun K=>zaa K fun L=>br L (pBin PP .add Ab b c fun M=>pBin PP .mul Ab b c fun N=>pBin PP .sub Ab M N fun O=>some (O,d)) (zae 1 false (zab a) 0 fun P=>pBin PP .eql Aa P (.int .i64 8) fun Q=>zaa Q fun S=>br S (pBin PP .neq Ab b c fun T=>zad R Bc [T] d fun U V=>some (U,V)) (zae 1 false (zab a) 0 fun W=>pBin PP .eql Aa W (.int .i64 9) fun X=>zaa X fun Y=>br Y (pBin PP .eql Ab b c fun Z=>zad R Bc [Z] d fun aa ab=>some (aa,ab)) (zav (zae 1 false (zab a) 0 fun ac=>pBin PP .geq Aa ac (.int .i64 10) fun ad=>zaa ad fun ae=>br ae (zae 1 false (zab a) 0 fun af=>pBin PP .leq Aa af (.int .i64 13) fun ag=>some (.next,[ag],d)) (some (.next,[(.bool false)],d))) fun ah i g=>zaB ah (zaa (i.getD 0 undef) fun ai=>br ai (zae 1 false (zab a) 0 fun aj=>zad R B7 [aj,f,b,c] g fun j ak=>zah j 0 fun al=>zah j 1 fun cw=>zad R Bc [al] ak fun am ao=>some (am,ao)) (zae 1 false (zab a) 0 fun ap=>pBin PP .eql Aa ap (.int .i64 14) fun aq=>zaa aq fun ar=>br ar (pBin PP .eql Ab b (.int .u64 1) fun au=>zaa au fun av=>br av (some (c,g)) (some (s,g))) (zav (zae 1 false (zab a) 0 fun aw=>pBin PP .eql Aa aw (.int .i64 15) fun ax=>zaa ax fun ay=>br ay (some (.next,[(.bool true)],g)) (zae 1 false (zab a) 0 fun az=>pBin PP .eql Aa az (.int .i64 16) fun ba=>some (.next,[ba],g))) fun bb k h=>zaB bb (zaa (k.getD 0 undef) fun bc=>br bc (zae 1 false (zab a) 0 fun bd=>zad R B9 [bd,f,b] h fun l be=>zah l 0 fun bf=>zah l 1 fun cx=>some (bf,be)) (zav (zae 1 false (zab a) 0 fun bg=>pBin PP .geq Aa bg (.int .i64 17) fun bh=>zaa bh fun bi=>br bi (zae 1 false (zab a) 0 fun bj=>pBin PP .leq Aa bj (.int .i64 29) fun bk=>some (.next,[bk],h)) (some (.next,[(.bool false)],h))) fun bl m e=>zaB bl (zaa (m.getD 0 undef) fun bm=>br bm (zae 1 false (zab a) 0 fun bn=>zad R B5 [bn,f,b,c] e fun n bo=>zah n 0 fun bp=>zah n 1 fun cy=>some (bp,bo)) (zae 1 false (zab a) 0 fun bq=>pBin PP .eql Aa bq (.int .i64 30) fun bs=>zaa bs fun bt=>br bt (zad R B6 [f,b,t,c] e fun o bu=>zah o 0 fun bv=>zah o 1 fun cz=>some (bv,bu)) (zae 1 false (zab a) 0 fun bw=>pBin PP .eql Aa bw (.int .i64 31) fun bx=>zaa bx fun bz=>br bz (zae 1 false (zab a) 5 fun ca=>zan .i64 ca fun cb=>zae 1 false (zab a) 1 fun cc=>zad R B8 [f,b,cb,cc] e fun p cd=>zah p 0 fun ce=>zah p 1 fun da=>some (ce,cd)) (zae 1 false (zab a) 0 fun cf=>pBin PP .eql Aa cf (.int .i64 32) fun cg=>zaa cg fun ch=>br ch (zae 1 false (zab a) 0 fun ci=>zae 1 false (zab a) 1 fun cj=>zad R Bz [ci,f,b,cj] e fun q ck=>zah q 0 fun cl=>zah q 1 fun db=>some (cl,ck)) (zae 1 false (zab a) 0 fun cm=>pBin PP .eql Aa cm (.int .i64 33) fun cn=>zaa cn fun co=>br co (zae 1 false (zab a) 0 fun cp=>zae 1 false (zab a) 1 fun cq=>zad R Bz [cp,f,b,cq] e fun r cr=>zah r 0 fun cs=>zah r 1 fun dc=>some (cs,cr)) (some ((.int .u64 0),e))))))) (fun ct=>zax ct 0 (some ((.int .u64 0),e)) (none)) (some ((m.headD undef),e)))) (fun cu=>zax cu 0 (some ((.int .u64 0),h)) (none)) (some ((k.headD undef),h))))) (fun cv=>zax cv 0 (some ((.int .u64 0),g)) (none)) (some ((i.headD undef),g)))))))))
noncomputable def zi7(R:zag)(a:Value)(d:Hp):Option (Value×Hp):=zae 1 false (zab a) 0 fun e=>zad R Ay [e] d fun c b=>pBin PP .lss Aa c (.int .i64 1) fun f=>zaa f fun g=>br g (zae 1 false (zab a) 2 fun h=>pBin PP .neq Aa h (.int .i64 0) fun i=>zaa i fun j=>br j (some ((.bool true),b)) (pBin PP .lss Aa c (.int .i64 2) fun k=>zaa k fun l=>br l (zae 1 false (zab a) 3 fun m=>pBin PP .neq Aa m (.int .i64 0) fun n=>zaa n fun o=>br o (some ((.bool true),b)) (pBin PP .lss Aa c (.int .i64 3) fun p=>zaa p fun q=>br q (zae 1 false (zab a) 4 fun r=>pBin PP .neq Aa r (.int .i64 0) fun s=>zaa s fun t=>br t (some ((.bool true),b)) (zae 1 false (zab a) 5 fun u=>pBin PP .neq Ab u (.int .u64 0) fun v=>zaa v fun w=>br w (zae 1 false (zab a) 0 fun x=>pBin PP .neq Aa x (.int .i64 3) fun y=>zaa y fun z=>br z (zae 1 false (zab a) 0 fun A=>pBin PP .neq Aa A (.int .i64 31) fun B=>zaa B fun C=>br C (some ((.bool true),b)) (zae 1 false (zab a) 6 fun D=>pBin PP .neq Ac D (.string ⟨#[]⟩) fun E=>zaa E fun F=>br F (zae 1 false (zab a) 0 fun G=>pBin PP .neq Aa G (.int .i64 4) fun H=>some (H,b)) (some ((.bool false),b)))) (zae 1 false (zab a) 6 fun I=>pBin PP .neq Ac I (.string ⟨#[]⟩) fun J=>zaa J fun K=>br K (zae 1 false (zab a) 0 fun L=>pBin PP .neq Aa L (.int .i64 4) fun M=>some (M,b)) (some ((.bool false),b)))) (zae 1 false (zab a) 6 fun N=>pBin PP .neq Ac N (.string ⟨#[]⟩) fun O=>zaa O fun P=>br P (zae 1 false (zab a) 0 fun Q=>pBin PP .neq Aa Q (.int .i64 4) fun S=>some (S,b)) (some ((.bool false),b))))) (zae 1 false (zab a) 5 fun T=>pBin PP .neq Ab T (.int .u64 0) fun U=>zaa U fun V=>br V (zae 1 false (zab a) 0 fun W=>pBin PP .neq Aa W (.int .i64 3) fun X=>zaa X fun Y=>br Y (zae 1 false (zab a) 0 fun Z=>pBin PP .neq Aa Z (.int .i64 31) fun aa=>zaa aa fun ab=>br ab (some ((.bool true),b)) (zae 1 false (zab a) 6 fun ac=>pBin PP .neq Ac ac (.string ⟨#[]⟩) fun ad=>zaa ad fun ae=>br ae (zae 1 false (zab a) 0 fun af=>pBin PP .neq Aa af (.int .i64 4) fun ag=>some (ag,b)) (some ((.bool false),b)))) (zae 1 false (zab a) 6 fun ah=>pBin PP .neq Ac ah (.string ⟨#[]⟩) fun ai=>zaa ai fun aj=>br aj (zae 1 false (zab a) 0 fun ak=>pBin PP .neq Aa ak (.int .i64 4) fun al=>some (al,b)) (some ((.bool false),b)))) (zae 1 false (zab a) 6 fun am=>pBin PP .neq Ac am (.string ⟨#[]⟩) fun ao=>zaa ao fun ap=>br ap (zae 1 false (zab a) 0 fun aq=>pBin PP .neq Aa aq (.int .i64 4) fun ar=>some (ar,b)) (some ((.bool false),b)))))) (pBin PP .lss Aa c (.int .i64 3) fun au=>zaa au fun av=>br av (zae 1 false (zab a) 4 fun aw=>pBin PP .neq Aa aw (.int .i64 0) fun ax=>zaa ax fun ay=>br ay (some ((.bool true),b)) (zae 1 false (zab a) 5 fun az=>pBin PP .neq Ab az (.int .u64 0) fun ba=>zaa ba fun bb=>br bb (zae 1 false (zab a) 0 fun bc=>pBin PP .neq Aa bc (.int .i64 3) fun bd=>zaa bd fun be=>br be (zae 1 false (zab a) 0 fun bf=>pBin PP .neq Aa bf (.int .i64 31) fun bg=>zaa bg fun bh=>br bh (some ((.bool true),b)) (zae 1 false (zab a) 6 fun bi=>pBin PP .neq Ac bi (.string ⟨#[]⟩) fun bj=>zaa bj fun bk=>br bk (zae 1 false (zab a) 0 fun bl=>pBin PP .neq Aa bl (.int .i64 4) fun bm=>some (bm,b)) (some ((.bool false),b)))) (zae 1 false (zab a) 6 fun bn=>pBin PP .neq Ac bn (.string ⟨#[]⟩) fun bo=>zaa bo fun bp=>br bp (zae 1 false (zab a) 0 fun bq=>pBin PP .neq Aa bq (.int .i64 4) fun bs=>some (bs,b)) (some ((.bool false),b)))) (zae 1 false (zab a) 6 fun bt=>pBin PP .neq Ac bt (.string ⟨#[]⟩) fun bu=>zaa bu fun bv=>br bv (zae 1 false (zab a) 0 fun bw=>pBin PP .neq Aa bw (.int .i64 4) fun bx=>some (bx,b)) (some ((.bool false),b))))) (zae 1 false (zab a) 5 fun bz=>pBin PP .neq Ab bz (.int .u64 0) fun ca=>zaa ca fun cb=>br cb (zae 1 false (zab a) 0 fun cc=>pBin PP .neq Aa cc (.int .i64 3) fun cd=>zaa cd fun ce=>br ce (zae 1 false (zab a) 0 fun cf=>pBin PP .neq Aa cf (.int .i64 31) fun cg=>zaa cg fun ch=>br ch (some ((.bool true),b)) (zae 1 false (zab a) 6 fun ci=>pBin PP .neq Ac ci (.string ⟨#[]⟩) fun cj=>zaa cj fun ck=>br ck (zae 1 false (zab a) 0 fun cl=>pBin PP .neq Aa cl (.int .i64 4) fun cm=>some (cm,b)) (some ((.bool false),b)))) (zae 1 false (zab a) 6 fun cn=>pBin PP .neq Ac cn (.string ⟨#[]⟩) fun co=>zaa co fun cp=>br cp (zae 1 false (zab a) 0 fun cq=>pBin PP .neq Aa cq (.int .i64 4) fun cr=>some (cr,b)) (some ((.bool false),b)))) (zae 1 false (zab a) 6 fun cs=>pBin PP .neq Ac cs (.string ⟨#[]⟩) fun ct=>zaa ct fun cu=>br cu (zae 1 false (zab a) 0 fun cv=>pBin PP .neq Aa cv (.int .i64 4) fun cw=>some (cw,b)) (some ((.bool false),b))))))) (pBin PP .lss Aa c (.int .i64 2) fun cx=>zaa cx fun cy=>br cy (zae 1 false (zab a) 3 fun cz=>pBin PP .neq Aa cz (.int .i64 0) fun da=>zaa da fun db=>br db (some ((.bool true),b)) (pBin PP .lss Aa c (.int .i64 3) fun dc=>zaa dc fun dd=>br dd (zae 1 false (zab a) 4 fun de=>pBin PP .neq Aa de (.int .i64 0) fun df=>zaa df fun dg=>br dg (some ((.bool true),b)) (zae 1 false (zab a) 5 fun dh=>pBin PP .neq Ab dh (.int .u64 0) fun di=>zaa di fun dj=>br dj (zae 1 false (zab a) 0 fun dk=>pBin PP .neq Aa dk (.int .i64 3) fun dl=>zaa dl fun dm=>br dm (zae 1 false (zab a) 0 fun dn=>pBin PP .neq Aa dn (.int .i64 31) fun dp=>zaa dp fun dq=>br dq (some ((.bool true),b)) (zae 1 false (zab a) 6 fun dr=>pBin PP .neq Ac dr (.string ⟨#[]⟩) fun ds=>zaa ds fun dt=>br dt (zae 1 false (zab a) 0 fun du=>pBin PP .neq Aa du (.int .i64 4) fun dv=>some (dv,b)) (some ((.bool false),b)))) (zae 1 false (zab a) 6 fun dw=>pBin PP .neq Ac dw (.string ⟨#[]⟩) fun dx=>zaa dx fun dy=>br dy (zae 1 false (zab a) 0 fun dz=>pBin PP .neq Aa dz (.int .i64 4) fun ea=>some (ea,b)) (some ((.bool false),b)))) (zae 1 false (zab a) 6 fun eb=>pBin PP .neq Ac eb (.string ⟨#[]⟩) fun ec=>zaa ec fun ed=>br ed (zae 1 false (zab a) 0 fun ee=>pBin PP .neq Aa ee (.int .i64 4) fun ef=>some (ef,b)) (some ((.bool false),b))))) (zae 1 false (zab a) 5 fun eg=>pBin PP .neq Ab eg (.int .u64 0) fun eh=>zaa eh fun ei=>br ei (zae 1 false (zab a) 0 fun ej=>pBin PP .neq Aa ej (.int .i64 3) fun ek=>zaa ek fun el=>br el (zae 1 false (zab a) 0 fun em=>pBin PP .neq Aa em (.int .i64 31) fun en=>zaa en fun eo=>br eo (some ((.bool true),b)) (zae 1 false (zab a) 6 fun ep=>pBin PP .neq Ac ep (.string ⟨#[]⟩) fun eq=>zaa eq fun er=>br er (zae 1 false (zab a) 0 fun es=>pBin PP .neq Aa es (.int .i64 4) fun et=>some (et,b)) (some ((.bool false),b)))) (zae 1 false (zab a) 6 fun eu=>pBin PP .neq Ac eu (.string ⟨#[]⟩) fun ev=>zaa ev fun ew=>br ew (zae 1 false (zab a) 0 fun ex=>pBin PP .neq Aa ex (.int .i64 4) fun ey=>some (ey,b)) (some ((.bool false),b)))) (zae 1 false (zab a) 6 fun ez=>pBin PP .neq Ac ez (.string ⟨#[]⟩) fun fa=>zaa fa fun fb=>br fb (zae 1 false (zab a) 0 fun fc=>pBin PP .neq Aa fc (.int .i64 4) fun fd=>some (fd,b)) (some ((.bool false),b)))))) (pBin PP .lss Aa c (.int .i64 3) fun fe=>zaa fe fun ff=>br ff (zae 1 false (zab a) 4 fun fg=>pBin PP .neq Aa fg (.int .i64 0) fun fh=>zaa fh fun fi=>br fi (some ((.bool true),b)) (zae 1 false (zab a) 5 fun fj=>pBin PP .neq Ab fj (.int .u64 0) fun fk=>zaa fk fun fl=>br fl (zae 1 false (zab a) 0 fun fm=>pBin PP .neq Aa fm (.int .i64 3) fun fn=>zaa fn fun fo=>br fo (zae 1 false (zab a) 0 fun fp=>pBin PP .neq Aa fp (.int .i64 31) fun fq=>zaa fq fun fr=>br fr (some ((.bool true),b)) (zae 1 false (zab a) 6 fun fs=>pBin PP .neq Ac fs (.string ⟨#[]⟩) fun ft=>zaa ft fun fu=>br fu (zae 1 false (zab a) 0 fun fv=>pBin PP .neq Aa fv (.int .i64 4) fun fw=>some (fw,b)) (some ((.bool false),b)))) (zae 1 false (zab a) 6 fun fx=>pBin PP .neq Ac fx (.string ⟨#[]⟩) fun fy=>zaa fy fun fz=>br fz (zae 1 false (zab a) 0 fun ga=>pBin PP .neq Aa ga (.int .i64 4) fun gb=>some (gb,b)) (some ((.bool false),b)))) (zae 1 false (zab a) 6 fun gc=>pBin PP .neq Ac gc (.string ⟨#[]⟩) fun gd=>zaa gd fun ge=>br ge (zae 1 false (zab a) 0 fun gf=>pBin PP .neq Aa gf (.int .i64 4) fun gg=>some (gg,b)) (some ((.bool false),b))))) (zae 1 false (zab a) 5 fun gh=>pBin PP .neq Ab gh (.int .u64 0) fun gi=>zaa gi fun gj=>br gj (zae 1 false (zab a) 0 fun gk=>pBin PP .neq Aa gk (.int .i64 3) fun gl=>zaa gl fun gm=>br gm (zae 1 false (zab a) 0 fun gn=>pBin PP .neq Aa gn (.int .i64 31) fun go=>zaa go fun gp=>br gp (some ((.bool true),b)) (zae 1 false (zab a) 6 fun gq=>pBin PP .neq Ac gq (.string ⟨#[]⟩) fun gr=>zaa gr fun gs=>br gs (zae 1 false (zab a) 0 fun gt=>pBin PP .neq Aa gt (.int .i64 4) fun gu=>some (gu,b)) (some ((.bool false),b)))) (zae 1 false (zab a) 6 fun gv=>pBin PP .neq Ac gv (.string ⟨#[]⟩) fun gw=>zaa gw fun gx=>br gx (zae 1 false (zab a) 0 fun gy=>pBin PP .neq Aa gy (.int .i64 4) fun gz=>some (gz,b)) (some ((.bool false),b)))) (zae 1 false (zab a) 6 fun ha=>pBin PP .neq Ac ha (.string ⟨#[]⟩) fun hb=>zaa hb fun hc=>br hc (zae 1 false (zab a) 0 fun hd=>pBin PP .neq Aa hd (.int .i64 4) fun he=>some (he,b)) (some ((.bool false),b))))))
noncomputable def zej(R:zag)(g f:Value)(j:Hp):Option (Value×Hp):=zae 1 false (zab f) 2 fun k=>zad R Al [g,k] j fun b l=>zae 1 false (zab f) 3 fun m=>zad R Al [g,m] l fun d n=>zae 1 false (zab f) 0 fun c=>zad R Ay [c] n fun o e=>pBin PP .eql Aa o (.int .i64 0) fun p=>zaa p fun q=>br q (some ((.bool true),e)) (pBin PP .eql Aa c (.int .i64 5) fun r=>zaa r fun s=>br s (pBin PP .eql Aa b (.int .i64 0) fun t=>some (t,e)) (zav (pBin PP .eql Aa c (.int .i64 6) fun u=>zaa u fun v=>br v (some (.next,[(.bool true)],e)) (pBin PP .eql Aa c (.int .i64 7) fun w=>zaa w fun x=>br x (some (.next,[(.bool true)],e)) (pBin PP .eql Aa c (.int .i64 8) fun y=>some (.next,[y],e)))) fun z i a=>zaB z (zaa (i.getD 0 undef) fun A=>br A (pBin PP .eql Aa b (.int .i64 0) fun B=>zaa B fun C=>br C (pBin PP .eql Aa d (.int .i64 0) fun D=>some (D,a)) (some ((.bool false),a))) (pBin PP .eql Aa c (.int .i64 9) fun E=>zaa E fun F=>br F (pBin PP .eql Aa b d fun G=>some (G,a)) (pBin PP .eql Aa c (.int .i64 14) fun H=>zaa H fun I=>br I (pBin PP .eql Aa b (.int .i64 0) fun J=>zaa J fun K=>br K (zae 1 false (zab f) 4 fun L=>zad R Al [g,L] a fun M N=>pBin PP .eql Aa d M fun O=>some (O,N)) (some ((.bool false),a))) (pBin PP .eql Aa c (.int .i64 30) fun P=>zaa P fun Q=>br Q (pBin PP .gtr Aa b (.int .i64 0) fun S=>zaa S fun T=>br T (pBin PP .gtr Aa d (.int .i64 0) fun U=>some (U,a)) (some ((.bool false),a))) (zad R Ay [c] a fun V h=>pBin PP .eql Aa V (.int .i64 1) fun W=>zaa W fun X=>br X (pBin PP .gtr Aa b (.int .i64 0) fun Y=>some (Y,h)) (pBin PP .gtr Aa b (.int .i64 0) fun Z=>zaa Z fun aa=>br aa (pBin PP .eql Aa b d fun ab=>some (ab,h)) (some ((.bool false),h)))))))) (fun ac=>zax ac 0 (pBin PP .gtr Aa b (.int .i64 0) fun ad=>zaa ad fun ae=>br ae (pBin PP .eql Aa b d fun af=>some (af,a)) (some ((.bool false),a))) (none)) (some ((i.headD undef),a))))
noncomputable def zfl(R:zag)(g a:Value)(j:Hp):Option (Value×Hp):=zae 1 false (zab a) 2 fun k=>zad R Al [g,k] j fun d f=>zae 1 false (zab a) 0 fun b=>zav (pBin PP .eql Aa b (.int .i64 1) fun l=>zaa l fun m=>br m (some (.next,[(.bool true)],f)) (pBin PP .eql Aa b (.int .i64 2) fun n=>zaa n fun o=>br o (some (.next,[(.bool true)],f)) (pBin PP .geq Aa b (.int .i64 5) fun p=>zaa p fun q=>br q (pBin PP .leq Aa b (.int .i64 13) fun r=>some (.next,[r],f)) (some (.next,[(.bool false)],f))))) fun s h e=>zaB s (zaa (h.getD 0 undef) fun t=>br t (zae 1 false (zab a) 1 fun u=>pBin PP .eql Aa u (.int .i64 0) fun v=>some (v,e)) (pBin PP .eql Aa b (.int .i64 3) fun w=>zaa w fun x=>br x (zae 1 false (zab a) 1 fun y=>pBin PP .gtr Aa y (.int .i64 0) fun z=>zaa z fun A=>br A (zae 1 false (zab a) 1 fun B=>zae 1 false (zab a) 5 fun C=>zad R Af [B,C] e fun D E=>zae 1 false (zab a) 5 fun F=>pBin PP .eql Ab D F fun G=>some (G,E)) (some ((.bool false),e))) (pBin PP .eql Aa b (.int .i64 4) fun H=>zaa H fun I=>br I (some ((.bool true),e)) (pBin PP .eql Aa b (.int .i64 14) fun J=>zaa J fun K=>br K (zae 1 false (zab a) 1 fun L=>zae 1 false (zab a) 3 fun M=>zad R Al [g,M] e fun N O=>pBin PP .eql Aa L N fun P=>some (P,O)) (zav (pBin PP .geq Aa b (.int .i64 25) fun Q=>zaa Q fun S=>br S (pBin PP .leq Aa b (.int .i64 29) fun T=>some (.next,[T],e)) (some (.next,[(.bool false)],e))) fun U i c=>zaB U (zaa (i.getD 0 undef) fun V=>br V (zae 1 false (zab a) 1 fun W=>pBin PP .eql Aa W d fun X=>zaa X fun Y=>br Y (zan .u64 d fun Z=>zad R A3 [Z] c fun aa ab=>pBin PP .eql Aa aa (.int .i64 1) fun ac=>some (ac,ab)) (some ((.bool false),c))) (pBin PP .eql Aa b (.int .i64 30) fun ad=>zaa ad fun ae=>br ae (zae 1 false (zab a) 1 fun af=>zae 1 false (zab a) 3 fun ag=>zad R Al [g,ag] c fun ah ai=>pBin PP .add Aa d ah fun aj=>pBin PP .eql Aa af aj fun ak=>some (ak,ai)) (pBin PP .eql Aa b (.int .i64 31) fun al=>zaa al fun am=>br am (zae 1 false (zab a) 1 fun ao=>pBin PP .geq Aa ao (.int .i64 1) fun ap=>zaa ap fun aq=>br aq (zae 1 false (zab a) 1 fun ar=>pBin PP .leq Aa ar d fun au=>zaa au fun av=>br av (zae 1 false (zab a) 5 fun aw=>zae 1 false (zab a) 1 fun ax=>pBin PP .sub Aa d ax fun ay=>zan .u64 ay fun az=>pBin PP .leq Ab aw az fun ba=>some (ba,c)) (some ((.bool false),c))) (some ((.bool false),c))) (pBin PP .eql Aa b (.int .i64 32) fun bb=>zaa bb fun bc=>br bc (zae 1 false (zab a) 1 fun bd=>pBin PP .geq Aa bd d fun be=>some (be,c)) (pBin PP .eql Aa b (.int .i64 33) fun bf=>zaa bf fun bg=>br bg (zae 1 false (zab a) 1 fun bh=>pBin PP .geq Aa bh d fun bi=>some (bi,c)) (zae 1 false (zab a) 1 fun bj=>pBin PP .eql Aa bj d fun bk=>some (bk,c))))))) (fun bl=>zax bl 0 (zae 1 false (zab a) 1 fun bm=>pBin PP .eql Aa bm d fun bn=>some (bn,c)) (none)) (some ((i.headD undef),c))))))) (fun bo=>zax bo 0 (zae 1 false (zab a) 1 fun bp=>pBin PP .eql Aa bp d fun bq=>some (bq,e)) (none)) (some ((h.headD undef),e))
noncomputable def zeK(R:zag)(a b c d:Value)(e:Hp):Option (Value×Hp):=zcO PP orc R BR Go.Proofs.Tryz.f101 [a,b,c,d] e
noncomputable def zie(R:zag)(a:Value)(b:Hp):Option (Value×Hp):=zcO PP orc R AR Go.Proofs.Tryz.f102 [a] b
noncomputable def zfJ(R:zag)(a:Value)(b:Hp):Option (Value×Hp):=zcO PP orc R BU Go.Proofs.Tryz.f103 [a] b
noncomputable def zdT(R:zag)(d:Value)(e:Hp):Option (Value×Hp):=zad R A6 [d] e fun b a=>zah b 0 fun c=>zah b 1 fun f=>pBin PP .neq Am f (.int .i64 0) fun g=>zaa g fun h=>br h (some ((.int .i64 (-1)),a)) (pBin PP .geq Ab c (.int .u64 2147483648) fun i=>zaa i fun j=>br j (some ((.int .i64 (-1)),a)) (zan .i64 c fun k=>some (k,a)))
noncomputable def zep(R:zag)(a:Value)(b:Hp):Option (Value×Hp):=zaS PP CO [(0,(.string ⟨#[]⟩)),(1,(.string ⟨#[116,114,117,101]⟩)),(2,(.string ⟨#[102,97,108,115,101]⟩)),(3,(.string ⟨#[99,111,110,115,116]⟩)),(4,(.string ⟨#[118,97,114]⟩)),(5,(.string ⟨#[110,111,116]⟩)),(6,(.string ⟨#[97,110,100]⟩)),(7,(.string ⟨#[111,114]⟩)),(8,(.string ⟨#[120,111,114]⟩)),(9,(.string ⟨#[101,113]⟩)),(10,(.string ⟨#[117,108,116]⟩)),(11,(.string ⟨#[117,108,101]⟩)),(12,(.string ⟨#[115,108,116]⟩)),(13,(.string ⟨#[115,108,101]⟩)),(14,(.string ⟨#[105,116,101]⟩)),(15,(.string ⟨#[99,111,109]⟩)),(16,(.string ⟨#[110,101,103]⟩)),(17,(.string ⟨#[98,97,110,100]⟩)),(18,(.string ⟨#[98,111,114]⟩)),(19,(.string ⟨#[98,120,111,114]⟩)),(20,(.string ⟨#[97,100,100]⟩)),(21,(.string ⟨#[115,117,98]⟩)),(22,(.string ⟨#[109,117,108]⟩)),(23,(.string ⟨#[100,105,118]⟩)),(24,(.string ⟨#[114,101,109]⟩)),(25,(.string ⟨#[115,104,108]⟩)),(26,(.string ⟨#[115,104,114]⟩)),(27,(.string ⟨#[115,97,114]⟩)),(28,(.string ⟨#[114,111,108]⟩)),(29,(.string ⟨#[114,111,114]⟩)),(30,(.string ⟨#[99,97,116]⟩)),(31,(.string ⟨#[115,108,105,99,101]⟩)),(32,(.string ⟨#[122,101,120,116]⟩)),(33,(.string ⟨#[115,101,120,116]⟩))] fun c=>zaD 34 [.string ⟨#[]⟩,.string ⟨#[]⟩,.string ⟨#[]⟩,.string ⟨#[]⟩,.string ⟨#[]⟩,.string ⟨#[]⟩,.string ⟨#[]⟩,.string ⟨#[]⟩,.string ⟨#[]⟩,.string ⟨#[]⟩,.string ⟨#[]⟩,.string ⟨#[]⟩,.string ⟨#[]⟩,.string ⟨#[]⟩,.string ⟨#[]⟩,.string ⟨#[]⟩,.string ⟨#[]⟩,.string ⟨#[]⟩,.string ⟨#[]⟩,.string ⟨#[]⟩,.string ⟨#[]⟩,.string ⟨#[]⟩,.string ⟨#[]⟩,.string ⟨#[]⟩,.string ⟨#[]⟩,.string ⟨#[]⟩,.string ⟨#[]⟩,.string ⟨#[]⟩,.string ⟨#[]⟩,.string ⟨#[]⟩,.string ⟨#[]⟩,.string ⟨#[]⟩,.string ⟨#[]⟩,.string ⟨#[]⟩] 0 c fun d=>zbW 34 a fun e=>zae 1 false d (0+e*1) fun f=>some (f,b)
noncomputable def zdu(R:zag)(a:Value)(b:Hp):Option (Value×Hp):=pBin PP .leq Aa a (.int .i64 2) fun c=>zaa c fun d=>br d (some ((.string ⟨#[]⟩),b)) (pBin PP .eql Aa a (.int .i64 3) fun e=>zaa e fun f=>br f (some ((.string ⟨#[119,110]⟩),b)) (pBin PP .eql Aa a (.int .i64 4) fun g=>zaa g fun h=>br h (some ((.string ⟨#[115,119]⟩),b)) (pBin PP .eql Aa a (.int .i64 31) fun i=>zaa i fun j=>br j (some ((.string ⟨#[112,110,119]⟩),b)) (pBin PP .geq Aa a (.int .i64 32) fun k=>zaa k fun l=>br l (some ((.string ⟨#[112,119]⟩),b)) (zad R BB [a] b fun m n=>zbo (.string ⟨#[112,112,112]⟩) none (some m) fun o=>some (o,n))))))
noncomputable def zdx(R:zag)(a:Value)(b:Hp):Option (Value×Hp):=zcO PP orc R A6 Go.Proofs.Tryz.f107 [a] b
noncomputable def zdb(R:zag)(b c:Value)(a:Hp):Option (Value×Hp):=pNil b (zat 1 b fun d=>zak 1 false a d fun e=>pBin PP .sub Aa c (.int .i64 1) fun f=>pIdx 7 e f fun g=>zat 1 g fun h=>zak 1 false a h fun i=>some (i,a))
noncomputable def zdW(R:zag)(b:Value)(c:Hp):Option (Value×Hp):=zav (pBin PP .lss Aa b (.int .i64 1) fun e=>zaa e fun f=>br f (some (.next,[(.bool true)],c)) (pBin PP .gtr Aa b (.int .i64 33) fun g=>some (.next,[g],c))) fun h d a=>zaB h (zaa (d.getD 0 undef) fun i=>br i (some ((.int .i64 (-1)),a)) (pBin PP .leq Aa b (.int .i64 4) fun j=>zaa j fun k=>br k (some ((.int .i64 0),a)) (pBin PP .eql Aa b (.int .i64 5) fun l=>zaa l fun m=>br m (some ((.int .i64 1),a)) (pBin PP .eql Aa b (.int .i64 15) fun n=>zaa n fun o=>br o (some ((.int .i64 1),a)) (pBin PP .eql Aa b (.int .i64 16) fun p=>zaa p fun q=>br q (some ((.int .i64 1),a)) (pBin PP .geq Aa b (.int .i64 31) fun r=>zaa r fun s=>br s (some ((.int .i64 1),a)) (pBin PP .eql Aa b (.int .i64 14) fun t=>zaa t fun u=>br u (some ((.int .i64 3),a)) (some ((.int .i64 2),a))))))))) (fun v=>zax v 0 (some ((.int .i64 2),a)) (none)) (some ((d.headD undef),a))
noncomputable def zdV(R:zag)(a d:Value)(b:Hp):Option (Value×Hp):=zav (pBin PP .lss Aa d (.int .i64 1) fun e=>zaa e fun f=>br f (zae 1 false (zab a) 2 fun g=>pBin PP .neq Aa g (.int .i64 0) fun h=>zaa h fun i=>br i (some (.ret,[(.bool true)],b)) (pBin PP .lss Aa d (.int .i64 2) fun j=>zaa j fun k=>br k (zae 1 false (zab a) 3 fun l=>pBin PP .neq Aa l (.int .i64 0) fun m=>zaa m fun n=>br n (some (.ret,[(.bool true)],b)) (pBin PP .lss Aa d (.int .i64 3) fun o=>zaa o fun p=>br p (zae 1 false (zab a) 4 fun q=>pBin PP .neq Aa q (.int .i64 0) fun r=>zaa r fun s=>br s (some (.ret,[(.bool true)],b)) (some (.next,[],b))) (some (.next,[],b)))) (pBin PP .lss Aa d (.int .i64 3) fun t=>zaa t fun u=>br u (zae 1 false (zab a) 4 fun v=>pBin PP .neq Aa v (.int .i64 0) fun w=>zaa w fun x=>br x (some (.ret,[(.bool true)],b)) (some (.next,[],b))) (some (.next,[],b))))) (pBin PP .lss Aa d (.int .i64 2) fun y=>zaa y fun z=>br z (zae 1 false (zab a) 3 fun A=>pBin PP .neq Aa A (.int .i64 0) fun B=>zaa B fun C=>br C (some (.ret,[(.bool true)],b)) (pBin PP .lss Aa d (.int .i64 3) fun D=>zaa D fun E=>br E (zae 1 false (zab a) 4 fun F=>pBin PP .neq Aa F (.int .i64 0) fun G=>zaa G fun H=>br H (some (.ret,[(.bool true)],b)) (some (.next,[],b))) (some (.next,[],b)))) (pBin PP .lss Aa d (.int .i64 3) fun I=>zaa I fun J=>br J (zae 1 false (zab a) 4 fun K=>pBin PP .neq Aa K (.int .i64 0) fun L=>zaa L fun M=>br M (some (.ret,[(.bool true)],b)) (some (.next,[],b))) (some (.next,[],b))))) fun N O c=>zaB N (zae 1 false (zab a) 5 fun P=>pBin PP .neq Ab P (.int .u64 0) fun Q=>zaa Q fun S=>br S (zae 1 false (zab a) 0 fun T=>pBin PP .neq Aa T (.int .i64 3) fun U=>zaa U fun V=>br V (zae 1 false (zab a) 0 fun W=>pBin PP .neq Aa W (.int .i64 31) fun X=>zaa X fun Y=>br Y (some ((.bool true),c)) (zae 1 false (zab a) 6 fun Z=>pBin PP .neq Ac Z (.string ⟨#[]⟩) fun aa=>zaa aa fun ab=>br ab (zae 1 false (zab a) 0 fun ac=>pBin PP .neq Aa ac (.int .i64 4) fun ad=>some (ad,c)) (some ((.bool false),c)))) (zae 1 false (zab a) 6 fun ae=>pBin PP .neq Ac ae (.string ⟨#[]⟩) fun af=>zaa af fun ag=>br ag (zae 1 false (zab a) 0 fun ah=>pBin PP .neq Aa ah (.int .i64 4) fun ai=>some (ai,c)) (some ((.bool false),c)))) (zae 1 false (zab a) 6 fun aj=>pBin PP .neq Ac aj (.string ⟨#[]⟩) fun ak=>zaa ak fun al=>br al (zae 1 false (zab a) 0 fun am=>pBin PP .neq Aa am (.int .i64 4) fun ao=>some (ao,c)) (some ((.bool false),c)))) (fun ap=>none) (some ((O.headD undef),c))
noncomputable def zcG(R:zag)(b a:Value)(c:Hp):Option (Value×Hp):=zae 1 false (zab a) 0 fun k=>pBin PP .leq Aa k (.int .i64 4) fun l=>zaa l fun m=>br m (some ((.bool true),c)) (zae 1 false (zab a) 0 fun n=>pBin PP .eql Aa n (.int .i64 5) fun o=>zaa o fun p=>br p (zae 1 false (zab a) 2 fun q=>zad R Ag [b,q] c fun r s=>pBin PP .eql Aa r (.int .i64 0) fun t=>some (t,s)) (zae 1 false (zab a) 0 fun u=>pBin PP .leq Aa u (.int .i64 8) fun v=>zaa v fun w=>br w (zae 1 false (zab a) 2 fun x=>zad R Ag [b,x] c fun y e=>pBin PP .eql Aa y (.int .i64 0) fun z=>zaa z fun A=>br A (zae 1 false (zab a) 3 fun B=>zad R Ag [b,B] e fun C D=>pBin PP .eql Aa C (.int .i64 0) fun E=>some (E,D)) (some ((.bool false),e))) (zae 1 false (zab a) 0 fun F=>pBin PP .eql Aa F (.int .i64 9) fun G=>zaa G fun H=>br H (zae 1 false (zab a) 2 fun I=>zad R Ag [b,I] c fun J K=>zae 1 false (zab a) 3 fun L=>zad R Ag [b,L] K fun M N=>pBin PP .eql Aa J M fun O=>some (O,N)) (zae 1 false (zab a) 0 fun P=>pBin PP .eql Aa P (.int .i64 14) fun Q=>zaa Q fun S=>br S (zae 1 false (zab a) 2 fun T=>zad R Ag [b,T] c fun U f=>pBin PP .eql Aa U (.int .i64 0) fun V=>zaa V fun W=>br W (zae 1 false (zab a) 3 fun X=>zad R Ag [b,X] f fun Y Z=>zae 1 false (zab a) 4 fun aa=>zad R Ag [b,aa] Z fun ab ac=>pBin PP .eql Aa Y ab fun ad=>some (ad,ac)) (some ((.bool false),f))) (zav (zae 1 false (zab a) 0 fun ae=>pBin PP .eql Aa ae (.int .i64 15) fun af=>zaa af fun ag=>br ag (some (.next,[(.bool true)],c)) (zae 1 false (zab a) 0 fun ah=>pBin PP .eql Aa ah (.int .i64 16) fun ai=>zaa ai fun aj=>br aj (some (.next,[(.bool true)],c)) (zae 1 false (zab a) 0 fun ak=>pBin PP .geq Aa ak (.int .i64 31) fun al=>some (.next,[al],c)))) fun am g d=>zaB am (zaa (g.getD 0 undef) fun ao=>br ao (zae 1 false (zab a) 2 fun ap=>zad R Ag [b,ap] d fun aq ar=>pBin PP .gtr Aa aq (.int .i64 0) fun au=>some (au,ar)) (zae 1 false (zab a) 0 fun av=>pBin PP .eql Aa av (.int .i64 30) fun aw=>zaa aw fun ax=>br ax (zae 1 false (zab a) 2 fun ay=>zad R Ag [b,ay] d fun az h=>pBin PP .gtr Aa az (.int .i64 0) fun ba=>zaa ba fun bb=>br bb (zae 1 false (zab a) 3 fun bc=>zad R Ag [b,bc] h fun bd be=>pBin PP .gtr Aa bd (.int .i64 0) fun bf=>some (bf,be)) (some ((.bool false),h))) (zae 1 false (zab a) 2 fun bg=>zad R Ag [b,bg] d fun bh i=>pBin PP .gtr Aa bh (.int .i64 0) fun bi=>zaa bi fun bj=>br bj (zae 1 false (zab a) 2 fun bk=>zad R Ag [b,bk] i fun bl bm=>zae 1 false (zab a) 3 fun bn=>zad R Ag [b,bn] bm fun bo bp=>pBin PP .eql Aa bl bo fun bq=>some (bq,bp)) (some ((.bool false),i))))) (fun bs=>zax bs 0 (zae 1 false (zab a) 2 fun bt=>zad R Ag [b,bt] d fun bu j=>pBin PP .gtr Aa bu (.int .i64 0) fun bv=>zaa bv fun bw=>br bw (zae 1 false (zab a) 2 fun bx=>zad R Ag [b,bx] j fun bz ca=>zae 1 false (zab a) 3 fun cb=>zad R Ag [b,cb] ca fun cc cd=>pBin PP .eql Aa bz cc fun ce=>some (ce,cd)) (some ((.bool false),j))) (none)) (some ((g.headD undef),d)))))))
noncomputable def zcF(R:zag)(d a:Value)(e:Hp):Option (Value×Hp):=zae 1 false (zab a) 1 fun c=>zav (zae 1 false (zab a) 0 fun h=>pBin PP .leq Aa h (.int .i64 2) fun i=>zaa i fun j=>br j (some (.next,[(.bool true)],e)) (zae 1 false (zab a) 0 fun k=>pBin PP .geq Aa k (.int .i64 5) fun l=>zaa l fun m=>br m (zae 1 false (zab a) 0 fun n=>pBin PP .leq Aa n (.int .i64 13) fun o=>some (.next,[o],e)) (some (.next,[(.bool false)],e)))) fun p f b=>zaB p (zaa (f.getD 0 undef) fun q=>br q (pBin PP .eql Aa c (.int .i64 0) fun r=>some (r,b)) (zae 1 false (zab a) 0 fun s=>pBin PP .eql Aa s (.int .i64 3) fun t=>zaa t fun u=>br u (pBin PP .geq Aa c (.int .i64 1) fun v=>zaa v fun w=>br w (zae 1 false (zab a) 5 fun x=>zad R Ak [c,x] b fun y z=>zae 1 false (zab a) 5 fun A=>pBin PP .eql Ab y A fun B=>some (B,z)) (some ((.bool false),b))) (zae 1 false (zab a) 0 fun C=>pBin PP .eql Aa C (.int .i64 4) fun D=>zaa D fun E=>br E (some ((.bool true),b)) (zae 1 false (zab a) 0 fun F=>pBin PP .eql Aa F (.int .i64 14) fun G=>zaa G fun H=>br H (zae 1 false (zab a) 3 fun I=>zad R Ag [d,I] b fun J K=>pBin PP .eql Aa c J fun L=>some (L,K)) (zae 1 false (zab a) 0 fun M=>pBin PP .eql Aa M (.int .i64 30) fun N=>zaa N fun O=>br O (zae 1 false (zab a) 2 fun P=>zad R Ag [d,P] b fun Q S=>zae 1 false (zab a) 3 fun T=>zad R Ag [d,T] S fun U V=>pBin PP .add Aa Q U fun W=>pBin PP .eql Aa c W fun X=>some (X,V)) (zae 1 false (zab a) 0 fun Y=>pBin PP .eql Aa Y (.int .i64 31) fun Z=>zaa Z fun aa=>br aa (pBin PP .geq Aa c (.int .i64 1) fun ab=>zaa ab fun ac=>br ac (zae 1 false (zab a) 5 fun ad=>pBin PP .leq Ab ad (.int .u64 64) fun ae=>zaa ae fun af=>br af (zae 1 false (zab a) 5 fun ag=>zan .i64 ag fun ah=>pBin PP .add Aa ah c fun ai=>zae 1 false (zab a) 2 fun aj=>zad R Ag [d,aj] b fun ak al=>pBin PP .leq Aa ai ak fun am=>some (am,al)) (some ((.bool false),b))) (some ((.bool false),b))) (zae 1 false (zab a) 0 fun ao=>pBin PP .geq Aa ao (.int .i64 32) fun ap=>zaa ap fun aq=>br aq (zae 1 false (zab a) 2 fun ar=>zad R Ag [d,ar] b fun au av=>pBin PP .geq Aa c au fun aw=>some (aw,av)) (zae 1 false (zab a) 0 fun ax=>pBin PP .geq Aa ax (.int .i64 25) fun ay=>zaa ay fun az=>br az (zae 1 false (zab a) 2 fun ba=>zad R Ag [d,ba] b fun bb g=>pBin PP .eql Aa c bb fun bc=>zaa bc fun bd=>br bd (zad R A7 [c] g fun be bf=>some (be,bf)) (some ((.bool false),g))) (zae 1 false (zab a) 2 fun bg=>zad R Ag [d,bg] b fun bh bi=>pBin PP .eql Aa c bh fun bj=>some (bj,bi)))))))))) (fun bk=>zax bk 0 (zae 1 false (zab a) 2 fun bl=>zad R Ag [d,bl] b fun bm bn=>pBin PP .eql Aa c bm fun bo=>some (bo,bn)) (none)) (some ((f.headD undef),b))
noncomputable def zes(R:zag)(a:Value)(c:Hp):Option (Value×Hp):=zav (pLen .str a c fun i=>pBin PP .lss Aa i (.int .i64 1) fun j=>zaa j fun k=>br k (some (.ret,[(.bool false)],c)) (pLen .str a c fun l=>pBin PP .gtr Aa l (.int .i64 24) fun m=>zaa m fun n=>br n (some (.ret,[(.bool false)],c)) (zbn a (.int .i64 0) fun o=>zad R A5 [o] c fun p f=>pUn .not p fun q=>zaa q fun r=>br r (some (.ret,[(.bool false)],f)) (some (.next,[],f))))) fun s t g=>zaB s (zav (zas (fun b e=>pLen .str a e fun u=>pBin PP .lss Aa (b.getD 0 undef) u fun v=>zaa v fun w=>br w (zbn a (b.getD 0 undef) fun x=>zad R A5 [x] e fun y d=>pUn .not y fun z=>zaa z fun A=>br A (zbn a (b.getD 0 undef) fun B=>pBin PP .lss Ad B (.int .u8 48) fun C=>zaa C fun D=>br D (some (.ret,[(.bool false)],d)) (zbn a (b.getD 0 undef) fun E=>pBin PP .gtr Ad E (.int .u8 57) fun F=>zaa F fun G=>br G (some (.ret,[(.bool false)],d)) (pBin PP .add Aa (b.getD 0 undef) (.int .i64 1) fun H=>some (.next,[H],d)))) (pBin PP .add Aa (b.getD 0 undef) (.int .i64 1) fun I=>some (.next,[I],d))) (some (.exit 0,[(b.getD 0 undef)],e))) [(.int .i64 1)] g) fun J K h=>zaB J none (fun L=>zax L 0 (some ((.bool true),h)) (none)) (some ((K.headD undef),h))) (fun M=>none) (some ((t.headD undef),g))
noncomputable def zjc(R:zag)(a:Value)(b:Hp):Option (Value×Hp):=pBin PP .geq Aa a (.int .i64 1) fun c=>zaa c fun d=>br d (pBin PP .leq Aa a (.int .i64 64) fun e=>some (e,b)) (some ((.bool false),b))
noncomputable def zid(R:zag)(a d:Value)(e:Hp):Option (Value×Hp):=zad R Ar [a] e fun f b=>pUn .not f fun g=>zaa g fun h=>br h (some ((.int .i64 0),b)) (pBin PP .sub Aa (.int .i64 64) a fun i=>zan .u64 i fun c=>pBin PP .shl Ab d c fun j=>zan .i64 j fun k=>pBin PP .shr AE k c fun l=>some (l,b))
noncomputable def zic(R:zag)(a:Value)(b:Hp):Option (Value×Hp):=pBin PP .geq Aa a (.int .i64 25) fun c=>zaa c fun d=>br d (pBin PP .leq Aa a (.int .i64 29) fun e=>some (e,b)) (some ((.bool false),b))
noncomputable def zfL(R:zag)(a:Value)(b:Hp):Option (Value×Hp):=zad R B1 [a] b fun c d=>some (c,d)
noncomputable def zja(R:zag)(e a b c:Value)(d:Hp):Option (Value×Hp):=pBin PP .eql Aa e (.int .i64 25) fun g=>zaa g fun h=>br h (zan .u64 c fun i=>pBin PP .shl Ab b i fun j=>zad R Af [a,j] d fun k l=>some (k,l)) (pBin PP .eql Aa e (.int .i64 26) fun m=>zaa m fun n=>br n (zan .u64 c fun o=>pBin PP .shr Ab b o fun p=>some (p,d)) (pBin PP .eql Aa e (.int .i64 27) fun q=>zaa q fun r=>br r (zad R AS [a,b] d fun s t=>zan .u64 c fun u=>pBin PP .shr AE s u fun v=>zan .u64 v fun w=>zad R Af [a,w] t fun x y=>some (x,y)) (pBin PP .eql Aa e (.int .i64 29) fun z=>zaa z fun A=>br A (pBin PP .sub Aa a c fun B=>pBin PP .rem Aa B a fun f=>zan .u64 f fun C=>pBin PP .shl Ab b C fun D=>pBin PP .sub Aa a f fun E=>zan .u64 E fun F=>pBin PP .shr Ab b F fun G=>pBin PP .or Ab D G fun H=>zad R Af [a,H] d fun I J=>some (I,J)) (zan .u64 c fun K=>pBin PP .shl Ab b K fun L=>pBin PP .sub Aa a c fun M=>zan .u64 M fun N=>pBin PP .shr Ab b N fun O=>pBin PP .or Ab L O fun P=>zad R Af [a,P] d fun Q S=>some (Q,S)))))
noncomputable def zeL(R:zag)(b:Value)(a:Hp):Option (Value×Hp):=zaa b fun c=>br c (some ((.int .u64 1),a)) (some ((.int .u64 0),a))
noncomputable def zeQ(R:zag)(b a i j:Value)(f:Hp):Option (Value×Hp):=zav (pBin PP .lss Aa b (.int .i64 9) fun k=>zaa k fun l=>br l (some (.ret,[(.tuple #[(.bool false),(.int .i64 73)])],f)) (pBin PP .gtr Aa b (.int .i64 13) fun m=>zaa m fun n=>br n (some (.ret,[(.tuple #[(.bool false),(.int .i64 73)])],f)) (some (.next,[],f)))) fun o p g=>zaB o (zad R As [a] g fun q h=>pUn .not q fun r=>zaa r fun s=>br s (some ((.tuple #[(.bool false),(.int .i64 5)]),h)) (zad R Ak [a,i] h fun c t=>zad R Ak [a,j] t fun d e=>pBin PP .eql Aa b (.int .i64 9) fun u=>zaa u fun v=>br v (pBin PP .eql Ab c d fun w=>some ((.tuple #[w,(.int .i64 0)]),e)) (pBin PP .eql Aa b (.int .i64 10) fun x=>zaa x fun y=>br y (pBin PP .lss Ab c d fun z=>some ((.tuple #[z,(.int .i64 0)]),e)) (pBin PP .eql Aa b (.int .i64 11) fun A=>zaa A fun B=>br B (pBin PP .leq Ab c d fun C=>some ((.tuple #[C,(.int .i64 0)]),e)) (pBin PP .eql Aa b (.int .i64 12) fun D=>zaa D fun E=>br E (zad R AI [a,c] e fun F G=>zad R AI [a,d] G fun H I=>pBin PP .lss AE F H fun J=>some ((.tuple #[J,(.int .i64 0)]),I)) (zad R AI [a,c] e fun K L=>zad R AI [a,d] L fun M N=>pBin PP .leq AE K M fun O=>some ((.tuple #[O,(.int .i64 0)]),N))))))) (fun P=>none) (some ((p.headD undef),g))
noncomputable def zfp(R:zag)(b a c:Value)(d:Hp):Option (Value×Hp):=pBin PP .neq Aa b (.int .i64 15) fun g=>zaa g fun h=>br h (pBin PP .neq Aa b (.int .i64 16) fun i=>zaa i fun j=>br j (some ((.tuple #[(.int .u64 0),(.int .i64 73)]),d)) (zad R As [a] d fun k e=>pUn .not k fun l=>zaa l fun m=>br m (some ((.tuple #[(.int .u64 0),(.int .i64 5)]),e)) (pBin PP .eql Aa b (.int .i64 15) fun n=>zaa n fun o=>br o (pUn .xor c fun p=>zad R Ak [a,p] e fun q r=>some ((.tuple #[q,(.int .i64 0)]),r)) (pBin PP .sub Ab (.int .u64 0) c fun s=>zad R Ak [a,s] e fun t u=>some ((.tuple #[t,(.int .i64 0)]),u))))) (zad R As [a] d fun v f=>pUn .not v fun w=>zaa w fun x=>br x (some ((.tuple #[(.int .u64 0),(.int .i64 5)]),f)) (pBin PP .eql Aa b (.int .i64 15) fun y=>zaa y fun z=>br z (pUn .xor c fun A=>zad R Ak [a,A] f fun B C=>some ((.tuple #[B,(.int .i64 0)]),C)) (pBin PP .sub Ab (.int .u64 0) c fun D=>zad R Ak [a,D] f fun E F=>some ((.tuple #[E,(.int .i64 0)]),F))))
noncomputable def zeS(R:zag)(a d k l:Value)(f:Hp):Option (Value×Hp):=zav (pBin PP .lss Aa a (.int .i64 17) fun m=>zaa m fun n=>br n (some (.ret,[(.tuple #[(.int .u64 0),(.int .i64 73)])],f)) (pBin PP .gtr Aa a (.int .i64 29) fun o=>zaa o fun p=>br p (some (.ret,[(.tuple #[(.int .u64 0),(.int .i64 73)])],f)) (some (.next,[],f)))) fun q r h=>zaB q (zav (zad R As [d] h fun s g=>pUn .not s fun t=>zaa t fun u=>br u (some (.ret,[(.tuple #[(.int .u64 0),(.int .i64 5)])],g)) (pBin PP .geq Aa a (.int .i64 25) fun v=>zaa v fun w=>br w (zad R A7 [d] g fun x i=>pUn .not x fun y=>zaa y fun z=>br z (some (.ret,[(.tuple #[(.int .u64 0),(.int .i64 5)])],i)) (some (.next,[],i))) (some (.next,[],g)))) fun A B j=>zaB A (zad R Ak [d,k] j fun e C=>zad R Ak [d,l] C fun b c=>pBin PP .eql Aa a (.int .i64 17) fun D=>zaa D fun E=>br E (pBin PP .and Ab e b fun F=>some ((.tuple #[F,(.int .i64 0)]),c)) (pBin PP .eql Aa a (.int .i64 18) fun G=>zaa G fun H=>br H (pBin PP .or Ab e b fun I=>some ((.tuple #[I,(.int .i64 0)]),c)) (pBin PP .eql Aa a (.int .i64 19) fun J=>zaa J fun K=>br K (pBin PP .xor Ab e b fun L=>some ((.tuple #[L,(.int .i64 0)]),c)) (pBin PP .eql Aa a (.int .i64 20) fun M=>zaa M fun N=>br N (pBin PP .add Ab e b fun O=>zad R Ak [d,O] c fun P Q=>some ((.tuple #[P,(.int .i64 0)]),Q)) (pBin PP .eql Aa a (.int .i64 21) fun S=>zaa S fun T=>br T (pBin PP .sub Ab e b fun U=>zad R Ak [d,U] c fun V W=>some ((.tuple #[V,(.int .i64 0)]),W)) (pBin PP .eql Aa a (.int .i64 22) fun X=>zaa X fun Y=>br Y (pBin PP .mul Ab e b fun Z=>zad R Ak [d,Z] c fun aa ab=>some ((.tuple #[aa,(.int .i64 0)]),ab)) (pBin PP .eql Aa a (.int .i64 23) fun ac=>zaa ac fun ad=>br ad (pBin PP .eql Ab b (.int .u64 0) fun ae=>zaa ae fun af=>br af (zad R Ak [d,(.int .u64 18446744073709551615)] c fun ag ah=>some ((.tuple #[ag,(.int .i64 0)]),ah)) (pBin PP .quo Ab e b fun ai=>some ((.tuple #[ai,(.int .i64 0)]),c))) (pBin PP .eql Aa a (.int .i64 24) fun aj=>zaa aj fun ak=>br ak (pBin PP .eql Ab b (.int .u64 0) fun al=>zaa al fun am=>br am (some ((.tuple #[e,(.int .i64 0)]),c)) (pBin PP .rem Ab e b fun ao=>some ((.tuple #[ao,(.int .i64 0)]),c))) (zan .u64 d fun ap=>pBin PP .rem Ab b ap fun aq=>zan .i64 aq fun ar=>zad R A8 [a,d,e,ar] c fun au av=>some ((.tuple #[au,(.int .i64 0)]),av)))))))))) (fun aw=>none) (some ((B.headD undef),j))) (fun ax=>none) (some ((r.headD undef),h))
noncomputable def zeR(R:zag)(b e a f:Value)(g:Hp):Option (Value×Hp):=zad R As [b] g fun h d=>pUn .not h fun i=>zaa i fun j=>br j (some ((.tuple #[(.int .u64 0),(.int .i64 5)]),d)) (zad R As [a] d fun k c=>pUn .not k fun l=>zaa l fun m=>br m (some ((.tuple #[(.int .u64 0),(.int .i64 5)]),c)) (pBin PP .add Aa b a fun n=>pBin PP .gtr Aa n (.int .i64 64) fun o=>zaa o fun p=>br p (some ((.tuple #[(.int .u64 0),(.int .i64 5)]),c)) (zad R Ak [b,e] c fun q r=>zan .u64 a fun s=>pBin PP .shl Ab q s fun t=>zad R Ak [a,f] r fun u v=>pBin PP .add Ab t u fun w=>some ((.tuple #[w,(.int .i64 0)]),v))))
noncomputable def zdZ(R:zag)(c f d b:Value)(g:Hp):Option (Value×Hp):=zav (zad R As [c] g fun h a=>pUn .not h fun i=>zaa i fun j=>br j (some (.ret,[(.tuple #[(.int .u64 0),(.int .i64 5)])],a)) (pBin PP .lss Aa b (.int .i64 1) fun k=>zaa k fun l=>br l (some (.ret,[(.tuple #[(.int .u64 0),(.int .i64 5)])],a)) (pBin PP .gtr Aa b (.int .i64 64) fun m=>zaa m fun n=>br n (some (.ret,[(.tuple #[(.int .u64 0),(.int .i64 5)])],a)) (pBin PP .lss Aa d (.int .i64 0) fun o=>zaa o fun p=>br p (some (.ret,[(.tuple #[(.int .u64 0),(.int .i64 5)])],a)) (pBin PP .sub Aa c b fun q=>pBin PP .gtr Aa d q fun r=>zaa r fun s=>br s (some (.ret,[(.tuple #[(.int .u64 0),(.int .i64 5)])],a)) (some (.next,[],a))))))) fun t u e=>zaB t (zad R Ak [c,f] e fun v w=>zan .u64 d fun x=>pBin PP .shr Ab v x fun y=>zad R Ak [b,y] w fun z A=>some ((.tuple #[z,(.int .i64 0)]),A)) (fun B=>none) (some ((u.headD undef),e))
noncomputable def zeP(R:zag)(b a g c:Value)(d:Hp):Option (Value×Hp):=zav (pBin PP .neq Aa b (.int .i64 32) fun j=>zaa j fun k=>br k (pBin PP .neq Aa b (.int .i64 33) fun l=>zaa l fun m=>br m (some (.ret,[(.tuple #[(.int .u64 0),(.int .i64 73)])],d)) (some (.next,[],d))) (some (.next,[],d))) fun n o h=>zaB n (zav (zad R As [a] h fun p i=>pUn .not p fun q=>zaa q fun r=>br r (some (.ret,[(.tuple #[(.int .u64 0),(.int .i64 5)])],i)) (zad R As [c] i fun s e=>pUn .not s fun t=>zaa t fun u=>br u (some (.ret,[(.tuple #[(.int .u64 0),(.int .i64 5)])],e)) (pBin PP .lss Aa c a fun v=>zaa v fun w=>br w (some (.ret,[(.tuple #[(.int .u64 0),(.int .i64 5)])],e)) (some (.next,[],e))))) fun x y f=>zaB x (pBin PP .eql Aa b (.int .i64 32) fun z=>zaa z fun A=>br A (zad R Ak [a,g] f fun B C=>some ((.tuple #[B,(.int .i64 0)]),C)) (zad R AI [a,g] f fun D E=>zan .u64 D fun F=>zad R Ak [c,F] E fun G H=>some ((.tuple #[G,(.int .i64 0)]),H))) (fun I=>none) (some ((y.headD undef),f))) (fun J=>none) (some ((o.headD undef),h))
noncomputable def zf7(R:zag)(d a:Value)(b:Hp):Option (Value×Hp):=pLen .str a b fun g=>pBin PP .eql Aa g (.int .i64 0) fun h=>zaa h fun i=>br i (zad R CL [d] b fun j k=>pBin PP .add Aa j (.int .i64 1) fun l=>some (l,k)) (pLen .str a b fun m=>pBin PP .eql Aa m (.int .i64 1) fun n=>zaa n fun o=>br o (zbn a (.int .i64 0) fun p=>zad R Bg [d,p] b fun q r=>some (q,r)) (zav (zas (fun c s=>zad R Bk [(c.getD 0 undef),a] s fun f e=>pBin PP .eql Aa f (.int .i64 (-1)) fun t=>zaa t fun u=>br u (some (.ret,[(c.getD 1 undef)],e)) (pBin PP .add Aa (c.getD 1 undef) (.int .i64 1) fun v=>pLen .str a e fun w=>pBin PP .add Aa f w fun x=>zbo (c.getD 0 undef) (some x) none fun y=>some (.next,[y,v],e))) [d,(.int .i64 0)] b) fun z A B=>zaB z none (fun C=>zax C 0 (none) (none)) (some ((A.headD undef),B))))
noncomputable def zf6(R:zag)(a b:Value)(c:Hp):Option (Value×Hp):=zad R Cj [a,b] c fun d e=>some (d,e)
noncomputable def zek(R:zag)(b c:Value)(d:Hp):Option (Value×Hp):=zad R BL [b,c] d fun a e=>zah a 0 fun f=>zah a 1 fun g=>some ((.tuple #[f,g]),e)
noncomputable def zel(R:zag)(a b c:Value)(h:Hp):Option (Value×Hp):=zad R Bi [a,b,c] h fun d e=>zah d 0 fun f=>zah d 1 fun g=>zfH PP .neq Bm g fun i=>zaa i fun j=>br j (zad R Bj [(.string ⟨#[80,97,114,115,101,85,105,110,116]⟩),a,b,c,g] e fun k l=>some ((.tuple #[f,k]),l)) (some ((.tuple #[f,.nilIface]),e))
noncomputable def zdY(R:zag)(a h:Value)(e:Hp):Option (Value×Hp):=zav (zav (pBin PP .geq Ad a (.int .u8 48) fun i=>zaa i fun j=>br j (pBin PP .leq Ad a (.int .u8 57) fun k=>some (.next,[k],e)) (some (.next,[(.bool false)],e))) fun l f b=>zaB l (zaa (f.getD 0 undef) fun m=>br m (zan .i64 a fun n=>pBin PP .sub Aa n (.int .i64 48) fun o=>some (.next,[o],b)) (pBin PP .geq Ad a (.int .u8 97) fun p=>zaa p fun q=>br q (pBin PP .leq Ad a (.int .u8 102) fun r=>zaa r fun s=>br s (zan .i64 a fun t=>pBin PP .sub Aa t (.int .i64 97) fun u=>pBin PP .add Aa u (.int .i64 10) fun v=>some (.next,[v],b)) (pBin PP .geq Ad a (.int .u8 65) fun w=>zaa w fun x=>br x (pBin PP .leq Ad a (.int .u8 70) fun y=>zaa y fun z=>br z (zan .i64 a fun A=>pBin PP .sub Aa A (.int .i64 65) fun B=>pBin PP .add Aa B (.int .i64 10) fun C=>some (.next,[C],b)) (some (.next,[(.int .i64 (-1))],b))) (some (.next,[(.int .i64 (-1))],b)))) (pBin PP .geq Ad a (.int .u8 65) fun D=>zaa D fun E=>br E (pBin PP .leq Ad a (.int .u8 70) fun F=>zaa F fun G=>br G (zan .i64 a fun H=>pBin PP .sub Aa H (.int .i64 65) fun I=>pBin PP .add Aa I (.int .i64 10) fun J=>some (.next,[J],b)) (some (.next,[(.int .i64 (-1))],b))) (some (.next,[(.int .i64 (-1))],b))))) (fun g=>zax g 0 (some (.next,[(.int .i64 (-1))],b)) (some (.exit g,[(.int .i64 (-1))],b))) (some (.ret,[(f.headD undef)],b))) fun K c d=>zaB K (pMM true [(c.getD 0 undef),(.int .i64 0)] fun L=>zan .u64 L fun M=>pBin PP .geq Ab M h fun N=>zaa N fun O=>br O (some ((.int .i64 (-1)),d)) (some ((c.getD 0 undef),d))) (fun P=>none) (some ((c.headD undef),d))
noncomputable def zdw(R:zag)(d:Value)(e:Hp):Option (Value×Hp):=zav (zas (fun a b=>pBin PP .leq Aa (a.getD 0 undef) (.int .i64 64) fun f=>zaa f fun g=>br g (pBin PP .eql Aa d (a.getD 0 undef) fun h=>zaa h fun i=>br i (some (.ret,[(.bool true)],b)) (pBin PP .mul Aa (.int .i64 2) (a.getD 0 undef) fun j=>some (.next,[j],b))) (some (.exit 0,[(a.getD 0 undef)],b))) [(.int .i64 1)] e) fun k l c=>zaB k none (fun m=>zax m 0 (some ((.bool false),c)) (none)) (some ((l.headD undef),c))
noncomputable def zdy(R:zag)(a:Value)(b:Hp):Option (Value×Hp):=pBin PP .geq Ad a (.int .u8 97) fun c=>zaa c fun d=>br d (pBin PP .leq Ad a (.int .u8 122) fun e=>zaa e fun f=>br f (some ((.bool true),b)) (pBin PP .geq Ad a (.int .u8 65) fun g=>zaa g fun h=>br h (pBin PP .leq Ad a (.int .u8 90) fun i=>zaa i fun j=>br j (some ((.bool true),b)) (pBin PP .eql Ad a (.int .u8 95) fun k=>some (k,b))) (pBin PP .eql Ad a (.int .u8 95) fun l=>some (l,b)))) (pBin PP .geq Ad a (.int .u8 65) fun m=>zaa m fun n=>br n (pBin PP .leq Ad a (.int .u8 90) fun o=>zaa o fun p=>br p (some ((.bool true),b)) (pBin PP .eql Ad a (.int .u8 95) fun q=>some (q,b))) (pBin PP .eql Ad a (.int .u8 95) fun r=>some (r,b)))
noncomputable def zeT(R:zag)(a:Value)(g:Hp):Option (Value×Hp):=pBin PP .shr Ab a (.int .u64 1) fun h=>pBin PP .and Ab h (.int .u64 6148914691236517205) fun i=>pBin PP .and Ab a (.int .u64 6148914691236517205) fun j=>pBin PP .add Ab i j fun b=>pBin PP .shr Ab b (.int .u64 2) fun k=>pBin PP .and Ab k (.int .u64 3689348814741910323) fun l=>pBin PP .and Ab b (.int .u64 3689348814741910323) fun m=>pBin PP .add Ab l m fun c=>pBin PP .shr Ab c (.int .u64 4) fun n=>pBin PP .add Ab n c fun o=>pBin PP .and Ab o (.int .u64 1085102592571150095) fun d=>pBin PP .shr Ab d (.int .u64 8) fun p=>pBin PP .add Ab d p fun e=>pBin PP .shr Ab e (.int .u64 16) fun q=>pBin PP .add Ab e q fun f=>pBin PP .shr Ab f (.int .u64 32) fun r=>pBin PP .add Ab f r fun s=>zan .i64 s fun t=>pBin PP .and Aa t (.int .i64 127) fun u=>some (u,g)
noncomputable def zd0(R:zag)(a:Value)(b:Hp):Option (Value×Hp):=pBin PP .geq Aa a (.int .i64 1) fun c=>zaa c fun d=>br d (pBin PP .leq Aa a (.int .i64 64) fun e=>some (e,b)) (some ((.bool false),b))
noncomputable def zdv(R:zag)(a e:Value)(f:Hp):Option (Value×Hp):=zad R As [a] f fun g d=>pUn .not g fun h=>zaa h fun i=>br i (some ((.int .i64 0),d)) (zad R Ak [a,e] d fun b j=>pBin PP .sub Aa a (.int .i64 1) fun k=>zad R AV [b,k] j fun l c=>pBin PP .eql Ab l (.int .u64 1) fun m=>zaa m fun n=>br n (pBin PP .lss Aa a (.int .i64 64) fun o=>zaa o fun p=>br p (zan .i64 b fun q=>zan .u64 a fun r=>pBin PP .shl AE (.int .i64 1) r fun s=>pBin PP .sub AE q s fun t=>some (t,c)) (zan .i64 b fun u=>some (u,c))) (zan .i64 b fun v=>some (v,c)))
noncomputable def zdX(R:zag)(a b c d:Value)(e:Hp):Option (Value×Hp):=zcO PP orc R A8 Go.Proofs.Tryz.f146 [a,b,c,d] e
noncomputable def zcr(R:zag)(a f:Value)(l:Hp):Option (Value×Hp):=pLen .str f l fun h=>zav (zav (pBin PP .eql Aa h (.int .i64 0) fun D=>zaa D fun E=>br E (some (.next,[(.bool true)],l)) (pBin PP .eql Ac f a fun F=>some (.next,[F],l))) fun G p b=>zaB G (zaa (p.getD 0 undef) fun H=>br H (some (.ret,[(.int .i64 0)],b)) (pBin PP .eql Aa h (.int .i64 1) fun I=>zaa I fun J=>br J (zbn f (.int .i64 0) fun K=>zad R BM [a,K] b fun L M=>some (.ret,[L],M)) (pLen .str a b fun N=>pBin PP .geq Aa h N fun O=>zaa O fun P=>br P (some (.ret,[(.int .i64 (-1))],b)) (zak 1 false b (.pointer (some ⟨Cu,0,none⟩)) fun Q=>pBin PP .leq Aa h Q fun S=>zaa S fun T=>br T (pLen .str a b fun U=>pBin PP .leq Aa U (.int .i64 64) fun V=>zaa V fun W=>br W (zad R CC [a,f] b fun X Y=>some (.ret,[X],Y)) (some (.next,[],b))) (some (.next,[],b)))))) (fun q=>zax q 0 (some (.next,[],b)) (some (.exit q,[],b))) (some (.ret,[(p.headD undef)],b))) fun Z aa m=>zaB Z (zbn f (.int .i64 0) fun r=>zbn f (.int .i64 1) fun ab=>pLen .str a m fun ac=>pBin PP .sub Aa ac h fun ad=>pBin PP .add Aa ad (.int .i64 1) fun n=>zav (zas (fun c o=>pBin PP .lss Aa (c.getD 0 undef) n fun ae=>zaa ae fun af=>br af (zav (zbn a (c.getD 0 undef) fun ag=>pBin PP .neq Ad ag r fun ah=>zaa ah fun ai=>br ai (pBin PP .add Aa (c.getD 0 undef) (.int .i64 1) fun aj=>zbo a (some aj) (some n) fun ak=>zad R BM [ak,r] o fun s t=>pBin PP .lss Aa s (.int .i64 0) fun al=>zaa al fun am=>br am (some (.ret,[(.int .i64 (-1))],t)) (pBin PP .add Aa s (.int .i64 1) fun ao=>pBin PP .add Aa (c.getD 0 undef) ao fun ap=>some (.next,[ap],t))) (some (.next,[(c.getD 0 undef)],o))) fun aq e j=>zaB aq (zav (pBin PP .add Aa (e.getD 0 undef) (.int .i64 1) fun ar=>zbn a ar fun au=>pBin PP .eql Ad au ab fun av=>zaa av fun aw=>br aw (pBin PP .add Aa (e.getD 0 undef) h fun ax=>zbo a (some (e.getD 0 undef)) (some ax) fun ay=>pBin PP .eql Ac ay f fun az=>zaa az fun ba=>br ba (some (.ret,[(e.getD 0 undef)],j)) (some (.next,[],j))) (some (.next,[],j))) fun bb bc k=>zaB bb (pBin PP .add Aa (e.getD 0 undef) (.int .i64 1) fun d=>pBin PP .add Aa (c.getD 1 undef) (.int .i64 1) fun i=>zav (zak 1 false k (.pointer (some ⟨Cu,0,none⟩)) fun bd=>pBin PP .leq Aa h bd fun be=>zaa be fun bf=>br bf (zad R CH [d] k fun bg bh=>pBin PP .gtr Aa i bg fun bi=>some (.next,[bi],bh)) (some (.next,[(.bool false)],k))) fun bj u g=>zaB bj (zaa (u.getD 0 undef) fun bk=>br bk (zbo a (some d) none fun bl=>zad R CC [bl,f] g fun v w=>pBin PP .geq Aa v (.int .i64 0) fun bm=>zaa bm fun bn=>br bn (pBin PP .add Aa v d fun bo=>some (.ret,[bo],w)) (some (.ret,[(.int .i64 (-1))],w))) (zak 1 false g (.pointer (some ⟨Cu,0,none⟩)) fun bp=>pBin PP .gtr Aa h bp fun bq=>zaa bq fun bs=>br bs (pBin PP .shr Aa d (.int .u64 4) fun bt=>pBin PP .add Aa (.int .i64 4) bt fun bu=>pBin PP .geq Aa i bu fun bv=>zaa bv fun bw=>br bw (pBin PP .lss Aa d n fun bx=>zaa bx fun bz=>br bz (zbo a (some d) none fun ca=>zad R CI [ca,f] g fun x y=>pBin PP .lss Aa x (.int .i64 0) fun cb=>zaa cb fun cc=>br cc (some (.ret,[(.int .i64 (-1))],y)) (pBin PP .add Aa d x fun cd=>some (.ret,[cd],y))) (some (.next,[d,i],g))) (some (.next,[d,i],g))) (some (.next,[d,i],g)))) (fun z=>zax z 2 (some (.next,[d,i],g)) (some (.exit z,[d,i],g))) (some (.ret,[(u.headD undef)],g))) (fun A=>zax A 2 (some (.next,[(e.getD 0 undef),(c.getD 1 undef)],k)) (some (.exit A,[(e.getD 0 undef),(c.getD 1 undef)],k))) (some (.ret,[(bc.headD undef)],k))) (fun B=>zax B 2 (some (.next,[(e.getD 0 undef),(c.getD 1 undef)],j)) (some (.exit B,[(e.getD 0 undef),(c.getD 1 undef)],j))) (some (.ret,[(e.headD undef)],j))) (some (.exit 1,[(c.getD 0 undef),(c.getD 1 undef)],o))) [(.int .i64 0),(.int .i64 0)] m) fun ce cf C=>zaB ce none (fun cg=>zax cg 1 (some ((.int .i64 (-1)),C)) (none)) (some ((cf.headD undef),C))) (fun ch=>none) (some ((aa.headD undef),m))
noncomputable def zb8(R:zag)(a c:Value)(d:Hp):Option (Value×Hp):=zad R Ci [a,c] d fun e b=>pUn .not e fun f=>zaa f fun g=>br g (some ((.tuple #[a,(.bool false)]),b)) (pLen .str c b fun h=>zbo a (some h) none fun i=>some ((.tuple #[i,(.bool true)]),b))
noncomputable def zcs(R:zag)(a b c:Value)(d:Hp):Option (Value×Hp):=zcO PP orc R Bi Go.Proofs.Tryz.f160 [a,b,c] d
noncomputable def zeO(R:zag)(a b:Value)(c:Hp):Option (Value×Hp):=zan .u64 b fun d=>pBin PP .shr Ab a d fun e=>pBin PP .rem Ab e (.int .u64 2) fun f=>some (f,c)
noncomputable def zb6(R:zag)(a b:Value)(c:Hp):Option (Value×Hp):=zad R Bh [a,b] c fun d e=>some (d,e)
noncomputable def zb7(R:zag)(c b:Value)(a:Hp):Option (Value×Hp):=pLen .str c a fun d=>pLen .str b a fun e=>pBin PP .geq Aa d e fun f=>zaa f fun g=>br g (pLen .str b a fun h=>zbo c none (some h) fun i=>pBin PP .eql Ac i b fun j=>some (j,a)) (some ((.bool false),a))
noncomputable def zcS(R:zag)(a:Value)(b:Hp):Option (Value×Hp):=pBin PP .or Ad a (.int .u8 32) fun c=>some (c,b)
theorem ze2(E:ET)(h:E Bu=none)(a b c:Value)(d:Hp):run PP orc E Bu [a,b,c] d=zcL (run PP orc E) a b c d:=by refine(zaw Proofs.Tryz.func3 ?_ ?_ h _ _).trans ?_<;>kernel_rfl
theorem zfY(E:ET)(h:E A4=none)(a b:Value)(c:Hp):run PP orc E A4 [a,b] c=zdz (run PP orc E) a b c:=by refine(zaw Proofs.Tryz.func11 ?_ ?_ h _ _).trans ?_<;>kernel_rfl
theorem zhm(E:ET)(h:E B4=none)(a:Hp):run PP orc E B4 [] a=zet (run PP orc E)  a:=by refine(zaw Proofs.Tryz.func12 ?_ ?_ h _ _).trans ?_<;>kernel_rfl
theorem zhR(E:ET)(h:E Ax=none)(a b c:Value)(d:Hp):run PP orc E Ax [a,b,c] d=zib (run PP orc E) a b c d:=by refine(zaw Proofs.Tryz.func13 ?_ ?_ h _ _).trans ?_<;>kernel_rfl
theorem zdo(E:ET)(h:E Aw=none)(a b c:Value)(d:Hp):run PP orc E Aw [a,b,c] d=zdt (run PP orc E) a b c d:=by refine(zaw Proofs.Tryz.func14 ?_ ?_ h _ _).trans ?_<;>kernel_rfl
theorem ziI(E:ET)(h:E Av=none)(a:Value)(b:Hp):run PP orc E Av [a] b=ziO (run PP orc E) a b:=by refine(zaw Proofs.Tryz.func15 ?_ ?_ h _ _).trans ?_<;>kernel_rfl
theorem zff(E:ET)(h:E AT=none)(a b:Value)(c:Hp):run PP orc E AT [a,b] c=zcT (run PP orc E) a b c:=by refine(zaw Proofs.Tryz.func16 ?_ ?_ h _ _).trans ?_<;>kernel_rfl
theorem zfv(E:ET)(h:E By=none)(a b:Value)(c:Hp):run PP orc E By [a,b] c=zc2 (run PP orc E) a b c:=by refine(zaw Proofs.Tryz.func17 ?_ ?_ h _ _).trans ?_<;>kernel_rfl
theorem zi0(E:ET)(h:E AC=none)(a b c:Value)(d:Hp):run PP orc E AC [a,b,c] d=zf8 (run PP orc E) a b c d:=by refine(zaw Proofs.Tryz.func18 ?_ ?_ h _ _).trans ?_<;>kernel_rfl
theorem zoB(E:ET)(h:E Bf=none)(a b:Value)(c:Hp):run PP orc E Bf [a,b] c=zkv (run PP orc E) a b c:=by refine(zaw Proofs.Tryz.func24 ?_ ?_ h _ _).trans ?_<;>kernel_rfl
theorem zqO(E:ET)(h:E BT=none)(a:Value)(b:Hp):run PP orc E BT [a] b=zlI (run PP orc E) a b:=by refine(zaw Proofs.Tryz.func26 ?_ ?_ h _ _).trans ?_<;>kernel_rfl
theorem zfw(E:ET)(h:E Bw=none)(a b:Value)(c:Hp):run PP orc E Bw [a,b] c=zc3 (run PP orc E) a b c:=by refine(zaw Proofs.Tryz.func30 ?_ ?_ h _ _).trans ?_<;>kernel_rfl
theorem ziE(E:ET)(h:E Bl=none)(a b:Value)(c:Hp):run PP orc E Bl [a,b] c=zfm (run PP orc E) a b c:=by refine(zaw Proofs.Tryz.func31 ?_ ?_ h _ _).trans ?_<;>kernel_rfl
theorem zox(E:ET)(h:E AY=none)(a b:Value)(c:Hp):run PP orc E AY [a,b] c=zkr (run PP orc E) a b c:=by refine(zaw Proofs.Tryz.func35 ?_ ?_ h _ _).trans ?_<;>kernel_rfl
theorem zhj(E:ET)(h:E AB=none)(a b:Value)(c:Hp):run PP orc E AB [a,b] c=zeq (run PP orc E) a b c:=by refine(zaw Proofs.Tryz.func36 ?_ ?_ h _ _).trans ?_<;>kernel_rfl
theorem zgL(E:ET)(h:E Bv=none)(a b:Value)(c:Hp):run PP orc E Bv [a,b] c=zd1 (run PP orc E) a b c:=by refine(zaw Proofs.Tryz.func37 ?_ ?_ h _ _).trans ?_<;>kernel_rfl
theorem zeD(E:ET)(h:E AN=none)(a b:Value)(c:Hp):run PP orc E AN [a,b] c=zeJ (run PP orc E) a b c:=by refine(zaw Proofs.Tryz.func38 ?_ ?_ h _ _).trans ?_<;>kernel_rfl
theorem zoy(E:ET)(h:E BK=none)(a:Value)(b:Hp):run PP orc E BK [a] b=zks (run PP orc E) a b:=by refine(zaw Proofs.Tryz.func39 ?_ ?_ h _ _).trans ?_<;>kernel_rfl
theorem zoA(E:ET)(h:E Cg=none)(a b c d e f:Value)(g:Hp):run PP orc E Cg [a,b,c,d,e,f] g=zku (run PP orc E) a b c d e f g:=by refine(zaw Proofs.Tryz.func40 ?_ ?_ h _ _).trans ?_<;>kernel_rfl
theorem zhT(E:ET)(h:E BF=none)(a b:Value)(c:Hp):run PP orc E BF [a,b] c=zeM (run PP orc E) a b c:=by refine(zaw Proofs.Tryz.func41 ?_ ?_ h _ _).trans ?_<;>kernel_rfl
theorem zhf(E:ET)(h:E BH=none)(a:Value)(b:Hp):run PP orc E BH [a] b=zem (run PP orc E) a b:=by refine(zaw Proofs.Tryz.func42 ?_ ?_ h _ _).trans ?_<;>kernel_rfl
theorem zcE(E:ET)(h:E AW=none)(a b:Value)(c:Hp):run PP orc E AW [a,b] c=zcH (run PP orc E) a b c:=by refine(zaw Proofs.Tryz.func43 ?_ ?_ h _ _).trans ?_<;>kernel_rfl
theorem zhg(E:ET)(h:E Bd=none)(a b:Value)(c:Hp):run PP orc E Bd [a,b] c=zen (run PP orc E) a b c:=by refine(zaw Proofs.Tryz.func44 ?_ ?_ h _ _).trans ?_<;>kernel_rfl
theorem zgA(E:ET)(h:E Be=none)(a b c d e:Value)(f:Hp):run PP orc E Be [a,b,c,d,e] f=zdQ (run PP orc E) a b c d e f:=by refine(zaw Proofs.Tryz.func45 ?_ ?_ h _ _).trans ?_<;>kernel_rfl
theorem zoz(E:ET)(h:E Ch=none)(a b:Value)(c:Hp):run PP orc E Ch [a,b] c=zkt (run PP orc E) a b c:=by refine(zaw Proofs.Tryz.func47 ?_ ?_ h _ _).trans ?_<;>kernel_rfl
theorem ziF(E:ET)(h:E AL=none)(a b:Value)(c:Hp):run PP orc E AL [a,b] c=zfn (run PP orc E) a b c:=by refine(zaw Proofs.Tryz.func48 ?_ ?_ h _ _).trans ?_<;>kernel_rfl
theorem zk9(E:ET)(h:E Al=none)(a b:Value)(c:Hp):run PP orc E Al [a,b] c=zg1 (run PP orc E) a b c:=by refine(zaw Proofs.Tryz.func49 ?_ ?_ h _ _).trans ?_<;>kernel_rfl
theorem zjZ(E:ET)(h:E AO=none)(a b:Value)(c:Hp):run PP orc E AO [a,b] c=zf4 (run PP orc E) a b c:=by refine(zaw Proofs.Tryz.func50 ?_ ?_ h _ _).trans ?_<;>kernel_rfl
theorem zoD(E:ET)(h:E Bq=none)(a:Value)(b:Hp):run PP orc E Bq [a] b=zkx (run PP orc E) a b:=by refine(zaw Proofs.Tryz.func55 ?_ ?_ h _ _).trans ?_<;>kernel_rfl
theorem znk(E:ET)(h:E Co=none)(a:Hp):run PP orc E Co [] a=zi9 (run PP orc E)  a:=by refine(zaw Proofs.Tryz.func60 ?_ ?_ h _ _).trans ?_<;>kernel_rfl
theorem znj(E:ET)(h:E Ay=none)(a:Value)(b:Hp):run PP orc E Ay [a] b=zi8 (run PP orc E) a b:=by refine(zaw Proofs.Tryz.func62 ?_ ?_ h _ _).trans ?_<;>kernel_rfl
theorem zj0(E:ET)(h:E BQ=none)(a b:Value)(c:Hp):run PP orc E BQ [a,b] c=zf5 (run PP orc E) a b c:=by refine(zaw Proofs.Tryz.func65 ?_ ?_ h _ _).trans ?_<;>kernel_rfl
theorem zgz(E:ET)(h:E AK=none)(a b:Value)(c:Hp):run PP orc E AK [a,b] c=zdP (run PP orc E) a b c:=by refine(zaw Proofs.Tryz.func67 ?_ ?_ h _ _).trans ?_<;>kernel_rfl
theorem zmm(E:ET)(h:E AD=none)(a:Value)(b:Hp):run PP orc E AD [a] b=zia (run PP orc E) a b:=by refine(zaw Proofs.Tryz.func68 ?_ ?_ h _ _).trans ?_<;>kernel_rfl
theorem zeC(E:ET)(h:E Aq=none)(a:Value)(b:Hp):run PP orc E Aq [a] b=zcZ (run PP orc E) a b:=by refine(zaw Proofs.Tryz.func69 ?_ ?_ h _ _).trans ?_<;>kernel_rfl
theorem zhO(E:ET)(h:E BV=none)(a:Value)(b:Hp):run PP orc E BV [a] b=zeH (run PP orc E) a b:=by refine(zaw Proofs.Tryz.func70 ?_ ?_ h _ _).trans ?_<;>kernel_rfl
theorem zgy(E:ET)(h:E Ao=none)(a:Value)(b:Hp):run PP orc E Ao [a] b=zdO (run PP orc E) a b:=by refine(zaw Proofs.Tryz.func71 ?_ ?_ h _ _).trans ?_<;>kernel_rfl
theorem zhP(E:ET)(h:E AP=none)(a:Value)(b:Hp):run PP orc E AP [a] b=zeI (run PP orc E) a b:=by refine(zaw Proofs.Tryz.func72 ?_ ?_ h _ _).trans ?_<;>kernel_rfl
theorem zhU(E:ET)(h:E BA=none)(a:Value)(b:Hp):run PP orc E BA [a] b=zeN (run PP orc E) a b:=by refine(zaw Proofs.Tryz.func73 ?_ ?_ h _ _).trans ?_<;>kernel_rfl
theorem zgC(E:ET)(h:E BD=none)(a:Value)(b:Hp):run PP orc E BD [a] b=zdS (run PP orc E) a b:=by refine(zaw Proofs.Tryz.func74 ?_ ?_ h _ _).trans ?_<;>kernel_rfl
theorem zgE(E:ET)(h:E Ba=none)(a b:Value)(c:Hp):run PP orc E Ba [a,b] c=zdU (run PP orc E) a b c:=by refine(zaw Proofs.Tryz.func75 ?_ ?_ h _ _).trans ?_<;>kernel_rfl
theorem zhh(E:ET)(h:E AX=none)(a b:Value)(c:Hp):run PP orc E AX [a,b] c=zeo (run PP orc E) a b c:=by refine(zaw Proofs.Tryz.func76 ?_ ?_ h _ _).trans ?_<;>kernel_rfl
theorem zd6(E:ET)(h:E Cb=none)(a b:Value)(c:Hp):run PP orc E Cb [a,b] c=zct (run PP orc E) a b c:=by refine(zaw Proofs.Tryz.func77 ?_ ?_ h _ _).trans ?_<;>kernel_rfl
theorem ze1(E:ET)(h:E AJ=none)(a b:Value)(c:Hp):run PP orc E AJ [a,b] c=zcK (run PP orc E) a b c:=by refine(zaw Proofs.Tryz.func78 ?_ ?_ h _ _).trans ?_<;>kernel_rfl
theorem zjl(E:ET)(h:E Cl=none)(a:Value)(b:Hp):run PP orc E Cl [a] b=zfK (run PP orc E) a b:=by refine(zaw Proofs.Tryz.func79 ?_ ?_ h _ _).trans ?_<;>kernel_rfl
theorem zoC(E:ET)(h:E Af=none)(a b:Value)(c:Hp):run PP orc E Af [a,b] c=zkw (run PP orc E) a b c:=by refine(zaw Proofs.Tryz.func80 ?_ ?_ h _ _).trans ?_<;>kernel_rfl
theorem zqP(E:ET)(h:E BJ=none)(a:Value)(b:Hp):run PP orc E BJ [a] b=zlJ (run PP orc E) a b:=by refine(zaw Proofs.Tryz.func81 ?_ ?_ h _ _).trans ?_<;>kernel_rfl
theorem zqR(E:ET)(h:E BY=none)(a b c d:Value)(e:Hp):run PP orc E BY [a,b,c,d] e=zlL (run PP orc E) a b c d e:=by refine(zaw Proofs.Tryz.func82 ?_ ?_ h _ _).trans ?_<;>kernel_rfl
theorem r_bits_Un(E:ET)(h:E B3=none)(a b c:Value)(d:Hp):run PP orc E B3 [a,b,c] d=znP (run PP orc E) a b c d:=by refine(zaw Proofs.Tryz.func83 ?_ ?_ h _ _).trans ?_<;>kernel_rfl
theorem zqT(E:ET)(h:E BW=none)(a b c d:Value)(e:Hp):run PP orc E BW [a,b,c,d] e=zlN (run PP orc E) a b c d e:=by refine(zaw Proofs.Tryz.func84 ?_ ?_ h _ _).trans ?_<;>kernel_rfl
theorem zqS(E:ET)(h:E BX=none)(a b c d:Value)(e:Hp):run PP orc E BX [a,b,c,d] e=zlM (run PP orc E) a b c d e:=by refine(zaw Proofs.Tryz.func85 ?_ ?_ h _ _).trans ?_<;>kernel_rfl
theorem znm(E:ET)(h:E B2=none)(a b c d:Value)(e:Hp):run PP orc E B2 [a,b,c,d] e=zjb (run PP orc E) a b c d e:=by refine(zaw Proofs.Tryz.func86 ?_ ?_ h _ _).trans ?_<;>kernel_rfl
theorem zqQ(E:ET)(h:E BZ=none)(a b c d:Value)(e:Hp):run PP orc E BZ [a,b,c,d] e=zlK (run PP orc E) a b c d e:=by refine(zaw Proofs.Tryz.func87 ?_ ?_ h _ _).trans ?_<;>kernel_rfl
theorem ziG(E:ET)(h:E Cf=none)(a b:Value)(c:Hp):run PP orc E Cf [a,b] c=zfo (run PP orc E) a b c:=by refine(zaw Proofs.Tryz.func88 ?_ ?_ h _ _).trans ?_<;>kernel_rfl
theorem zgB(E:ET)(h:E BG=none)(a:Value)(b:Hp):run PP orc E BG [a] b=zdR (run PP orc E) a b:=by refine(zaw Proofs.Tryz.func89 ?_ ?_ h _ _).trans ?_<;>kernel_rfl
theorem zhk(E:ET)(h:E Ak=none)(a b:Value)(c:Hp):run PP orc E Ak [a,b] c=zer (run PP orc E) a b c:=by refine(zaw Proofs.Tryz.func90 ?_ ?_ h _ _).trans ?_<;>kernel_rfl
theorem zfu(E:ET)(h:E Au=none)(a b:Value)(c:Hp):run PP orc E Au [a,b] c=zc1 (run PP orc E) a b c:=by refine(zaw Proofs.Tryz.func91 ?_ ?_ h _ _).trans ?_<;>kernel_rfl
theorem zfe(E:ET)(h:E BE=none)(a b c d e f:Value)(g:Hp):run PP orc E BE [a,b,c,d,e,f] g=zdh (run PP orc E) a b c d e f g:=by refine(zaw Proofs.Tryz.func92 ?_ ?_ h _ _).trans ?_<;>kernel_rfl
theorem zni(E:ET)(h:E Cp=none)(a:Value)(b:Hp):run PP orc E Cp [a] b=zi7 (run PP orc E) a b:=by refine(zaw Proofs.Tryz.func93 ?_ ?_ h _ _).trans ?_<;>kernel_rfl
theorem zhc(E:ET)(h:E Cm=none)(a b:Value)(c:Hp):run PP orc E Cm [a,b] c=zej (run PP orc E) a b c:=by refine(zaw Proofs.Tryz.func94 ?_ ?_ h _ _).trans ?_<;>kernel_rfl
theorem ziD(E:ET)(h:E Cn=none)(a b:Value)(c:Hp):run PP orc E Cn [a,b] c=zfl (run PP orc E) a b c:=by refine(zaw Proofs.Tryz.func95 ?_ ?_ h _ _).trans ?_<;>kernel_rfl
theorem zhQ(E:ET)(h:E BR=none)(a b c d:Value)(e:Hp):run PP orc E BR [a,b,c,d] e=zeK (run PP orc E) a b c d e:=by refine(zaw Proofs.Tryz.func101 ?_ ?_ h _ _).trans ?_<;>kernel_rfl
theorem zmp(E:ET)(h:E AR=none)(a:Value)(b:Hp):run PP orc E AR [a] b=zie (run PP orc E) a b:=by refine(zaw Proofs.Tryz.func102 ?_ ?_ h _ _).trans ?_<;>kernel_rfl
theorem zjk(E:ET)(h:E BU=none)(a:Value)(b:Hp):run PP orc E BU [a] b=zfJ (run PP orc E) a b:=by refine(zaw Proofs.Tryz.func103 ?_ ?_ h _ _).trans ?_<;>kernel_rfl
theorem zgD(E:ET)(h:E Bb=none)(a:Value)(b:Hp):run PP orc E Bb [a] b=zdT (run PP orc E) a b:=by refine(zaw Proofs.Tryz.func104 ?_ ?_ h _ _).trans ?_<;>kernel_rfl
theorem zhi(E:ET)(h:E BC=none)(a:Value)(b:Hp):run PP orc E BC [a] b=zep (run PP orc E) a b:=by refine(zaw Proofs.Tryz.func105 ?_ ?_ h _ _).trans ?_<;>kernel_rfl
theorem zfT(E:ET)(h:E A9=none)(a:Value)(b:Hp):run PP orc E A9 [a] b=zdu (run PP orc E) a b:=by refine(zaw Proofs.Tryz.func106 ?_ ?_ h _ _).trans ?_<;>kernel_rfl
theorem zfW(E:ET)(h:E A6=none)(a:Value)(b:Hp):run PP orc E A6 [a] b=zdx (run PP orc E) a b:=by refine(zaw Proofs.Tryz.func107 ?_ ?_ h _ _).trans ?_<;>kernel_rfl
theorem zfM(E:ET)(h:E Ag=none)(a b:Value)(c:Hp):run PP orc E Ag [a,b] c=zdb (run PP orc E) a b c:=by refine(zaw Proofs.Tryz.func108 ?_ ?_ h _ _).trans ?_<;>kernel_rfl
theorem zgG(E:ET)(h:E BB=none)(a:Value)(b:Hp):run PP orc E BB [a] b=zdW (run PP orc E) a b:=by refine(zaw Proofs.Tryz.func109 ?_ ?_ h _ _).trans ?_<;>kernel_rfl
theorem zgF(E:ET)(h:E Ce=none)(a b:Value)(c:Hp):run PP orc E Ce [a,b] c=zdV (run PP orc E) a b c:=by refine(zaw Proofs.Tryz.func110 ?_ ?_ h _ _).trans ?_<;>kernel_rfl
theorem zey(E:ET)(h:E Cc=none)(a b:Value)(c:Hp):run PP orc E Cc [a,b] c=zcG (run PP orc E) a b c:=by refine(zaw Proofs.Tryz.func111 ?_ ?_ h _ _).trans ?_<;>kernel_rfl
theorem zex(E:ET)(h:E Cd=none)(a b:Value)(c:Hp):run PP orc E Cd [a,b] c=zcF (run PP orc E) a b c:=by refine(zaw Proofs.Tryz.func112 ?_ ?_ h _ _).trans ?_<;>kernel_rfl
theorem zhl(E:ET)(h:E AU=none)(a:Value)(b:Hp):run PP orc E AU [a] b=zes (run PP orc E) a b:=by refine(zaw Proofs.Tryz.func113 ?_ ?_ h _ _).trans ?_<;>kernel_rfl
theorem znn(E:ET)(h:E Ar=none)(a:Value)(b:Hp):run PP orc E Ar [a] b=zjc (run PP orc E) a b:=by refine(zaw Proofs.Tryz.func114 ?_ ?_ h _ _).trans ?_<;>kernel_rfl
theorem zmo(E:ET)(h:E AS=none)(a b:Value)(c:Hp):run PP orc E AS [a,b] c=zid (run PP orc E) a b c:=by refine(zaw Proofs.Tryz.func115 ?_ ?_ h _ _).trans ?_<;>kernel_rfl
theorem zmn(E:ET)(h:E Bs=none)(a:Value)(b:Hp):run PP orc E Bs [a] b=zic (run PP orc E) a b:=by refine(zaw Proofs.Tryz.func116 ?_ ?_ h _ _).trans ?_<;>kernel_rfl
theorem zjm(E:ET)(h:E A3=none)(a:Value)(b:Hp):run PP orc E A3 [a] b=zfL (run PP orc E) a b:=by refine(zaw Proofs.Tryz.func117 ?_ ?_ h _ _).trans ?_<;>kernel_rfl
theorem znl(E:ET)(h:E Br=none)(a b c d:Value)(e:Hp):run PP orc E Br [a,b,c,d] e=zja (run PP orc E) a b c d e:=by refine(zaw Proofs.Tryz.func118 ?_ ?_ h _ _).trans ?_<;>kernel_rfl
theorem zhS(E:ET)(h:E Bc=none)(a:Value)(b:Hp):run PP orc E Bc [a] b=zeL (run PP orc E) a b:=by refine(zaw Proofs.Tryz.func119 ?_ ?_ h _ _).trans ?_<;>kernel_rfl
theorem zhX(E:ET)(h:E B7=none)(a b c d:Value)(e:Hp):run PP orc E B7 [a,b,c,d] e=zeQ (run PP orc E) a b c d e:=by refine(zaw Proofs.Tryz.func120 ?_ ?_ h _ _).trans ?_<;>kernel_rfl
theorem ziH(E:ET)(h:E B9=none)(a b c:Value)(d:Hp):run PP orc E B9 [a,b,c] d=zfp (run PP orc E) a b c d:=by refine(zaw Proofs.Tryz.func121 ?_ ?_ h _ _).trans ?_<;>kernel_rfl
theorem zhZ(E:ET)(h:E B5=none)(a b c d:Value)(e:Hp):run PP orc E B5 [a,b,c,d] e=zeS (run PP orc E) a b c d e:=by refine(zaw Proofs.Tryz.func122 ?_ ?_ h _ _).trans ?_<;>kernel_rfl
theorem zhY(E:ET)(h:E B6=none)(a b c d:Value)(e:Hp):run PP orc E B6 [a,b,c,d] e=zeR (run PP orc E) a b c d e:=by refine(zaw Proofs.Tryz.func123 ?_ ?_ h _ _).trans ?_<;>kernel_rfl
theorem zgJ(E:ET)(h:E B8=none)(a b c d:Value)(e:Hp):run PP orc E B8 [a,b,c,d] e=zdZ (run PP orc E) a b c d e:=by refine(zaw Proofs.Tryz.func124 ?_ ?_ h _ _).trans ?_<;>kernel_rfl
theorem zhW(E:ET)(h:E Bz=none)(a b c d:Value)(e:Hp):run PP orc E Bz [a,b,c,d] e=zeP (run PP orc E) a b c d e:=by refine(zaw Proofs.Tryz.func125 ?_ ?_ h _ _).trans ?_<;>kernel_rfl
theorem zj2(E:ET)(h:E BO=none)(a b:Value)(c:Hp):run PP orc E BO [a,b] c=zf7 (run PP orc E) a b c:=by refine(zaw Proofs.Tryz.func135 ?_ ?_ h _ _).trans ?_<;>kernel_rfl
theorem zj1(E:ET)(h:E Bk=none)(a b:Value)(c:Hp):run PP orc E Bk [a,b] c=zf6 (run PP orc E) a b c:=by refine(zaw Proofs.Tryz.func136 ?_ ?_ h _ _).trans ?_<;>kernel_rfl
theorem zhd(E:ET)(h:E Ck=none)(a b:Value)(c:Hp):run PP orc E Ck [a,b] c=zek (run PP orc E) a b c:=by refine(zaw Proofs.Tryz.func137 ?_ ?_ h _ _).trans ?_<;>kernel_rfl
theorem zhe(E:ET)(h:E BN=none)(a b c:Value)(d:Hp):run PP orc E BN [a,b,c] d=zel (run PP orc E) a b c d:=by refine(zaw Proofs.Tryz.func138 ?_ ?_ h _ _).trans ?_<;>kernel_rfl
theorem zgI(E:ET)(h:E Ca=none)(a b:Value)(c:Hp):run PP orc E Ca [a,b] c=zdY (run PP orc E) a b c:=by refine(zaw Proofs.Tryz.func139 ?_ ?_ h _ _).trans ?_<;>kernel_rfl
theorem zfV(E:ET)(h:E A7=none)(a:Value)(b:Hp):run PP orc E A7 [a] b=zdw (run PP orc E) a b:=by refine(zaw Proofs.Tryz.func140 ?_ ?_ h _ _).trans ?_<;>kernel_rfl
theorem zfX(E:ET)(h:E A5=none)(a:Value)(b:Hp):run PP orc E A5 [a] b=zdy (run PP orc E) a b:=by refine(zaw Proofs.Tryz.func141 ?_ ?_ h _ _).trans ?_<;>kernel_rfl
theorem zh0(E:ET)(h:E B1=none)(a:Value)(b:Hp):run PP orc E B1 [a] b=zeT (run PP orc E) a b:=by refine(zaw Proofs.Tryz.func143 ?_ ?_ h _ _).trans ?_<;>kernel_rfl
theorem zgK(E:ET)(h:E As=none)(a:Value)(b:Hp):run PP orc E As [a] b=zd0 (run PP orc E) a b:=by refine(zaw Proofs.Tryz.func144 ?_ ?_ h _ _).trans ?_<;>kernel_rfl
theorem zfU(E:ET)(h:E AI=none)(a b:Value)(c:Hp):run PP orc E AI [a,b] c=zdv (run PP orc E) a b c:=by refine(zaw Proofs.Tryz.func145 ?_ ?_ h _ _).trans ?_<;>kernel_rfl
theorem zgH(E:ET)(h:E A8=none)(a b c d:Value)(e:Hp):run PP orc E A8 [a,b,c,d] e=zdX (run PP orc E) a b c d e:=by refine(zaw Proofs.Tryz.func146 ?_ ?_ h _ _).trans ?_<;>kernel_rfl
theorem zd5(E:ET)(h:E Cj=none)(a b:Value)(c:Hp):run PP orc E Cj [a,b] c=zcr (run PP orc E) a b c:=by refine(zaw Proofs.Tryz.func158 ?_ ?_ h _ _).trans ?_<;>kernel_rfl
theorem zda(E:ET)(h:E BL=none)(a b:Value)(c:Hp):run PP orc E BL [a,b] c=zb8 (run PP orc E) a b c:=by refine(zaw Proofs.Tryz.func159 ?_ ?_ h _ _).trans ?_<;>kernel_rfl
theorem zcq(E:ET)(h:E Bi=none)(a b c:Value)(d:Hp):run PP orc E Bi [a,b,c] d=zcs (run PP orc E) a b c d:=by refine(zaw Proofs.Tryz.func160 ?_ ?_ h _ _).trans ?_<;>kernel_rfl
theorem zhV(E:ET)(h:E AV=none)(a b:Value)(c:Hp):run PP orc E AV [a,b] c=zeO (run PP orc E) a b c:=by refine(zaw Proofs.Tryz.func162 ?_ ?_ h _ _).trans ?_<;>kernel_rfl
theorem zc8(E:ET)(h:E BM=none)(a b:Value)(c:Hp):run PP orc E BM [a,b] c=zb6 (run PP orc E) a b c:=by refine(zaw Proofs.Tryz.func171 ?_ ?_ h _ _).trans ?_<;>kernel_rfl
theorem zc9(E:ET)(h:E Ci=none)(a b:Value)(c:Hp):run PP orc E Ci [a,b] c=zb7 (run PP orc E) a b c:=by refine(zaw Proofs.Tryz.func175 ?_ ?_ h _ _).trans ?_<;>kernel_rfl
theorem zfd(E:ET)(h:E At=none)(a:Value)(b:Hp):run PP orc E At [a] b=zcS (run PP orc E) a b:=by refine(zaw Proofs.Tryz.func176 ?_ ?_ h _ _).trans ?_<;>kernel_rfl
end Go.AM
namespace Go.AM
open List Go
def ccB(i:Nat)(H:Hp):Option AObj→Option (Value×Hp)
 |some (.cells [.pointer none,v] true)=>if H.ty i=some A1 then some (.tuple #[],H.set i (some (.cells [.pointer (some ⟨i,0,none⟩),v] true))) else none
 |some (.cells [.pointer (some ⟨j,0,none⟩),v] true)=>if j=i∧H.ty i=some A1 then some (.tuple #[],H) else none
 |_=>none
def extCC(l:List Value)(H:Hp):Option (Value×Hp):=
 match l with
 |[.pointer (some ⟨i,0,none⟩)]=>ccB i H (H.get i)
 |_=>none
def zqx:List Value→Option (List UInt8)
 |[]=>some []
 |.int .u8 (.ofNat n)::r=>if n<256 then (match zqx r with
  |some l=>some (UInt8.ofNat n::l)
  |none=>none) else none
 |_=>none
def strB2(i j n:Nat)(H:Hp):Option AObj→Option (Value×Hp)
 |some (.cells cs true)=>if H.ty i=some A1∧H.ty j=some Ad∧0<n∧n≤cs.length∧n≤2^60 then (match zqx (cs.take n) with
  |some l=>some (.string ⟨l.toArray⟩,H.set j (some (.cells cs false)))
  |none=>none) else none
 |_=>none
def strB(i:Nat)(H:Hp):Option AObj→Option (Value×Hp)
 |some (.cells [_,.slice none 0 0] _)=>if H.ty i=some A1 then some (.string ⟨#[]⟩,H) else none
 |some (.cells [_,.slice (some ⟨j,0,some 1⟩) n c] _)=>strB2 i j n H (H.get j)
 |_=>none
def extStr(l:List Value)(H:Hp):Option (Value×Hp):=
 match l with
 |[.pointer (some ⟨i,0,none⟩)]=>strB i H (H.get i)
 |_=>none
theorem zji:∀(cs:List Value) (l:List UInt8),zqx cs=some l→cs=l.map fun b=>Value.int .u8 (b.toNat:Int)
 |[],l,h=>by cases h;rfl
 |v::r,l,h=>by
  unfold zqx at h;split at h
  ·rename_i q;cases q
  ·rename_i n r' q;cases q;split at h
   ·rename_i hn;split at h
    ·rename_i l' hl;cases h;rw[map_cons,←zji _ _ hl];have:(UInt8.ofNat n).toNat=n:=by simp[UInt8.toNat_ofNat];omega
     rw[this];rfl
    ·cases h
   ·cases h
  ·cases h
theorem LRel.single{β:Bt}{a:Value}{l:List Value}(h:LRel β [a] l):∃a',l=[a']∧VRel β a a':=by
 obtain⟨hl,hv⟩:=h
 match l,hl with
 |[x],_=>exact⟨x,rfl,hv 0 _ _ rfl rfl⟩
theorem zpE{w:World}{b:Nat}{arr:Array Value}{e:TypeId}{fz:Nat×Nat}(h:w.heap[b]?=some (.cells arr e fz)):w.shape? b=some (e,arr.size):=by unfold World.shape?;rw[h]
theorem znY(w:World)(b n:Nat):(w.freeze ⟨b,0,none⟩ n).heap.size=w.heap.size∧(∀k,k≠b→(w.freeze ⟨b,0,none⟩ n).heap[k]?=w.heap[k]?) ∧
  (∀arr e fz,w.heap[b]?=some (.cells arr e fz)→∃fz',(w.freeze ⟨b,0,none⟩ n).heap[b]?=some (.cells arr e fz'))∧(w.freeze ⟨b,0,none⟩ n).os=w.os∧(w.freeze ⟨b,0,none⟩ n).tape=w.tape∧(w.freeze ⟨b,0,none⟩ n).output=w.output:=by
 unfold World.freeze;split
 ·exact⟨rfl,fun _ _=>rfl,fun arr e fz h=>⟨fz,h⟩,rfl,rfl,rfl⟩
 ·refine⟨by simp,fun k hk=>?_,fun arr e fz h=>?_,rfl,rfl,rfl⟩
  ·simp only[Array.getElem?_modify];rw[if_neg (by omega)]
  ·simp only[Array.getElem?_modify,if_true,h,Option.map_some];exact⟨_,rfl⟩
theorem extCC_ok{args:List Value}{H:Hp}{v:Value}{H':Hp}(he:extCC args H=some (v,H')){args':List Value}{w:World}{β:Bt}(hl:LRel β args args')(hR:Rel PP w H β) :
  Calls PP CF args'.toArray w fun x w'=>∃v' β',x=.returned v'∧Rel PP w' H' β'∧Ext w.heap.size w H β w' H' β'∧VRel β' v v':=by
 have key:∀(i:Nat) (p u:Value),H.get i=some (.cells [p,u] true)→H.ty i=some A1→∀x,β i=some x→x.s=0∧∃arr fz,w.heap[x.b]?=some (.cells arr A1 fz)∧arr.size=x.t∧2≤arr.size∧(∀j,j<x.t→¬(fz.1≤j∧j<fz.2)) ∧
   ∃p',w.cell? ⟨x.b,0,none⟩=some p'∧VRel β p p':=by
  intro i p u hg hty x hx;obtain⟨x',hx',h1,h2⟩:=hR.cells i _ true hg;rw[hx]at hx';cases hx';obtain⟨⟨arr,e,fz,g1,g2,g3⟩,g4⟩:=h2 rfl;obtain⟨x2,arr2,fz2,hx2,hs0,g5,g6⟩:=hR.tys i _ hty;rw[hx]at hx2;cases hx2;rw[g1]at g5;cases g5;obtain⟨p',a1,a2⟩:=h1 0 p rfl;rw[hs0]at a1 g4;have g4:0+2≤x.t:=g4;exact⟨hs0,arr,fz,g1,g2,by omega,g3,p',a1,a2⟩
 unfold extCC at he;split at he
 ·rename_i i;obtain⟨a',rfl,ha⟩:=hl.single;cases ha with
  |ptr _ _ x hx=>
  unfold ccB at he;split at he
  ·rename_i u hg;split at he
   ·rename_i hty;cases he;obtain⟨hs0,arr,fz,g1,g2,g3,g4,p',c0,r0⟩:=key i _ _ hg hty x hx;cases r0;have hput:=zjQ w x.b 0 (.pointer (some ⟨x.b,0,none⟩)) arr _ fz g1 (by omega);have hfz:w.frozen? ⟨x.b,0,none⟩=false:=zjf g1 (g4 0 (by omega));have hcall:=cc_fresh x.b arr.size g3 w c0 (zpE g1) hfz;rw[hs0];refine hcall.mono fun e w' ⟨h1,h2⟩=>?_;subst h2;have hv:LRel β [Value.pointer (some ⟨i,0,none⟩)] [Value.pointer (some ⟨x.b,0,none⟩)]:=by have:=VRel.ptr (β:=β) i 0 x hx;rw[hs0]at this;exact LRel.cons this (LRel.nil _)
    obtain⟨k1,k2⟩:=hR.write hg hx (off:=0) (vs:=[Value.pointer (some ⟨i,0,none⟩)]) (vs':=[Value.pointer (some ⟨x.b,0,none⟩)]) (by simp) hv (by rw[hs0];exact hput);exact⟨_,β,h1,k1,k2,.tuple [] [] rfl (fun k v v' h=>by cases h)⟩
   ·cases he
  ·rename_i j u hg;split at he
   ·rename_i hj;cases he;obtain⟨rfl,hty⟩:=hj;obtain⟨hs0,arr,fz,g1,g2,g3,g4,p',c0,r0⟩:=key _ _ _ hg hty x hx;cases r0 with
    |ptr _ _ y hy=>
    rw[hx]at hy;cases hy;rw[hs0]at c0 ⊢;refine(cc_used x.b w c0).mono fun e w' ⟨h1,h2⟩=>?_;subst h2;exact⟨_,β,h1,hR,Ext.refl _ _ _ _,.tuple [] [] rfl (fun k v v' h=>by cases h)⟩
   ·cases he
  ·cases he
 ·cases he
theorem extStr_ok{args:List Value}{H:Hp}{v:Value}{H':Hp}(he:extStr args H=some (v,H')){args':List Value}{w:World}{β:Bt}(hl:LRel β args args')(hR:Rel PP w H β) :
  Calls PP CE args'.toArray w fun x w'=>∃v' β',x=.returned v'∧Rel PP w' H' β'∧Ext w.heap.size w H β w' H' β'∧VRel β' v v':=by
 have zero:∀i x,H.ty i=some A1→β i=some x→x.s=0:=fun i x hty hx=>by obtain⟨x2,arr2,fz2,hx2,hs0,_⟩:=hR.tys i _ hty;rw[hx]at hx2;cases hx2;exact hs0
 unfold extStr at he;split at he
 ·rename_i i;obtain⟨a',rfl,ha⟩:=hl.single;cases ha with
  |ptr _ _ x hx=>
  unfold strB at he;split at he
  ·rename_i p own hg;split at he
   ·rename_i hty;cases he;have hs0:=zero i x hty hx;obtain⟨x',hx',h1,_⟩:=hR.cells i _ _ hg;rw[hx]at hx';cases hx';obtain⟨v',c1,r1⟩:=h1 1 _ rfl;cases r1;rw[hs0]at c1 ⊢;refine(str_nil x.b w c1).mono fun e w' ⟨g1,g2,g3,g4,g5⟩=>?_;have hw:∀b:Nat,w'.heap[b]?=w.heap[b]?:=fun b=>by rw[g2]
    exact⟨_,β,g1,hR.frame (by rw[g2];exact Nat.le_refl _) (fun _ _ _=>hw _),⟨g3,g4,g5,by rw[g2];exact Nat.le_refl _,Bt.le_refl _,Nat.le_refl _,fun b _ _=>hw b,fun b q=>.inr q,fun i x hx hn=>by rw[hn]at hx;cases hx⟩,.string _⟩
   ·cases he
  ·rename_i p j n c own hg;unfold strB2 at he;split at he
   ·rename_i cs hgj;split at he
    ·rename_i hc;obtain⟨hty,htj,hn0,hn,hn60⟩:=hc;split at he
     ·rename_i l hb;cases he;have hs0:=zero i x hty hx;obtain⟨x',hx',h1,_⟩:=hR.cells i _ _ hg;rw[hx]at hx';cases hx';obtain⟨v',c1,r1⟩:=h1 1 _ rfl;cases r1 with
      |slice _ _ _ _ _ y o' c' hy hnc hcc ht hoo=>
      obtain⟨y2,arr,fz,hy2,ys0,k1,k2⟩:=hR.tys j _ htj;rw[hy]at hy2;cases hy2;have ho':o'=0:=by have:=hoo (by omega);omega
      subst ho';have hcl:=zji _ _ hb;have hlen:l.length=n:=by have:=congrArg List.length hcl;rw[length_take,length_map]at this;omega
      obtain⟨y3,hy3,m1,m2⟩:=hR.cells j _ _ hgj;rw[hy]at hy3;cases hy3;obtain⟨_,m3⟩:=m2 rfl;have hcell:∀q b,l[q]?=some b→w.cell? ((⟨y.b,0,none⟩:Addr).add q)=some (.int .u8 b.toNat):=fun q b hq=>by
       have hq':cs[q]?=some (.int .u8 (b.toNat:Int)):=by
        have e1:(cs.take n)[q]?=some (Value.int .u8 (b.toNat:Int)):=by rw[hcl,List.getElem?_map,hq];rfl
        rw[List.getElem?_take]at e1;split at e1
        ·exact e1
        ·cases e1
       obtain⟨v2,d1,d2⟩:=m1 q _ hq';cases d2;have ea:(⟨y.b,0,none⟩:Addr).add q=⟨y.b,y.s+q,none⟩:=by rw[ys0];unfold Addr.add;split<;>simp_all
       rw[ea];exact d1
      rw[hs0]at c1 ⊢;rw[←hlen]at c1;have hne:l≠[]:=fun q=>by rw[q]at hlen;simp at hlen;omega
      refine(str_row x.b y.b c' arr.size l hne (by omega) (by omega) (by omega) w c1 (zpE k1) hcell).mono fun e w' ⟨g1,w0,g2,g3,g4,g5,g6⟩=>?_;subst g6;obtain⟨f1,f2,f3,f4,f5,f6⟩:=znY w0 y.b l.length;obtain⟨q1,q2⟩:=hR.freeze (w':=w0.freeze ⟨y.b,0,none⟩ l.length) hgj hy (f4.trans g3) (f5.trans g4) (f6.trans g5) (by rw[f1,g2]) (fun k hk=>by rw[f2 k hk,g2]) (fun arr e fz hh=>f3 arr e fz (by rw[g2];exact hh));exact⟨_,β,g1,q1,q2,.string _⟩
     ·cases he
    ·cases he
   ·cases he
  ·cases he
 ·cases he
end Go.AM
namespace Go.AM
open Go Go.AM
noncomputable def zaR(R:zag)(i:Value)(j:Value)(k:Value)(l:Value)(e:Value)(a:List Value)(c:Hp):Option Outc:=pLen .sl e c fun m=>pBin PP .lss Aa (a.getD 0 undef) m fun n=>zaa n fun o=>br o (pIdx 1 e (a.getD 0 undef) fun p=>zak 1 false c p fun q=>zad R AC [j,q,l] c fun g r=>zah g 0 fun f=>zah g 1 fun s=>pBin PP .add Aa (a.getD 0 undef) (.int .i64 1) fun t=>zcf 1 e (some (a.getD 0 undef)) (some t) fun u=>zad R Aw [k,u,i] r fun h v=>zah h 0 fun w=>zah h 1 fun d=>zad R Av [s] v fun x b=>pBin PP .neq Aa x d fun y=>zaa y fun z=>br z (some (.ret,[(.bool false)],b)) (pBin PP .eql Aa d (.int .i64 0) fun A=>zaa A fun B=>br B (pIdx 1 w (.int .i64 0) fun C=>zak 1 false b C fun D=>pBin PP .neq Ab f D fun E=>zaa E fun F=>br F (some (.ret,[(.bool false)],b)) (pBin PP .neq Aa d (.int .i64 0) fun G=>zaa G fun H=>br H (pBin PP .neq Ab f (.int .u64 0) fun I=>zaa I fun J=>br J (some (.ret,[(.bool false)],b)) (pBin PP .add Aa (a.getD 0 undef) (.int .i64 1) fun K=>some (.next,[K],b))) (pBin PP .add Aa (a.getD 0 undef) (.int .i64 1) fun L=>some (.next,[L],b)))) (pBin PP .neq Aa d (.int .i64 0) fun M=>zaa M fun N=>br N (pBin PP .neq Ab f (.int .u64 0) fun O=>zaa O fun P=>br P (some (.ret,[(.bool false)],b)) (pBin PP .add Aa (a.getD 0 undef) (.int .i64 1) fun Q=>some (.next,[Q],b))) (pBin PP .add Aa (a.getD 0 undef) (.int .i64 1) fun S=>some (.next,[S],b))))) (some (.exit 0,[(a.getD 0 undef)],c))
theorem ze4(R:zag)(e f a:Value)(g:Hp):zcL R e f a g =
zad R A4 [e,(.int .i64 0)] g fun b h=>zah b 0 fun i=>zah b 1 fun j=>zah b 2 fun t=>zah b 3 fun u=>zav (pUn .not u fun v=>zaa v fun w=>br w (some (.ret,[(.bool false)],h)) (zad R B4 [] h fun x k=>pUn .not x fun y=>zaa y fun z=>br z (some (.ret,[(.bool false)],k)) (some (.next,[],k)))) fun A B l=>zaB A (zam 3 [.string ⟨#[]⟩,.int .i64 0,.int .u64 0] 0 [] l fun C D=>zaH 3 32 C a D fun c E=>zam 1 [.int .i64 0] 0 [] E fun F G=>zaH 1 8 F t G fun H I=>zaH 1 8 H f I fun d J=>zad R Ax [i,d,c] J fun m K=>zah m 0 fun L=>zah m 1 fun M=>zad R Aw [j,d,a] K fun n N=>zah n 0 fun O=>zah n 1 fun P=>zav (zad R Av [M] N fun Q o=>pBin PP .neq Aa Q P fun S=>zaa S fun T=>br T (some (.ret,[(.bool false)],o)) (zad R AT [L,O] o fun U p=>pUn .not U fun V=>zaa V fun W=>br W (some (.ret,[(.bool false)],p)) (zad R By [c,a] p fun X q=>pUn .not X fun Y=>zaa Y fun Z=>br Z (some (.ret,[(.bool false)],q)) (some (.next,[],q))))) fun aa ab r=>zaB aa (zav (zas (zaR R a i j c d) [(.int .i64 0)] r) fun ac ad s=>zaB ac none (fun ae=>zax ae 0 (some ((.bool true),s)) (none)) (some ((ad.headD undef),s))) (fun af=>none) (some ((ab.headD undef),r))) (fun ag=>none) (some ((B.headD undef),l)):=by kernel_rfl
noncomputable def zaO(R:zag)(k:Value)(l:Value)(m:Value)(d:Value)(f:Value)(n:Value)(c:List Value)(g:Hp):Option Outc:=pBin PP .lss Aa (c.getD 0 undef) n fun o=>zaa o fun p=>br p (pIdx 1 l (c.getD 0 undef) fun q=>zak 1 false g q fun e=>zad R Bl [k,e] g fun h r=>zah h 0 fun s=>zah h 1 fun Z=>zaD 7 [.int .i64 0,.int .i64 0,.int .i64 0,.int .i64 0,.int .i64 0,.int .u64 0,.string ⟨#[]⟩] 0 s fun a=>zae 1 false a 1 fun t=>pUpd PP Aa f e t r fun b=>zae 1 false a 0 fun u=>pBin PP .neq Aa u (.int .i64 4) fun v=>zaa v fun w=>br w (zae 7 true a 0 fun x=>zae 1 false a 2 fun y=>zbM PP Aa (.int .u64 0) d y false b fun z=>zae 1 false a 3 fun A=>zbM PP Aa (.int .u64 0) d A false b fun B=>zae 1 false a 4 fun C=>zbM PP Aa (.int .u64 0) d C false b fun D=>zae 1 false a 2 fun E=>zbM PP Aa (.int .i64 0) f E false b fun F=>zae 1 false a 3 fun G=>zbM PP Aa (.int .i64 0) f G false b fun H=>zad R Cg [x,z,B,D,F,H] b fun I J=>pUpd PP Aa d e I J fun K=>pBin PP .add Aa (c.getD 0 undef) (.int .i64 1) fun L=>some (.next,[L],K)) (zae 1 false a 6 fun M=>zbM PP Ac (.agg #[.string ⟨#[]⟩,.int .i64 0,.int .u64 0]) m M true b fun i=>zah i 0 fun N=>zah i 1 fun O=>zaD 3 [.string ⟨#[]⟩,.int .i64 0,.int .u64 0] 0 N fun j=>zaa O fun P=>br P (zae 1 false j 1 fun Q=>zae 1 false a 1 fun S=>pBin PP .neq Aa Q S fun T=>zaa T fun U=>br U (some (.ret,[(.tuple #[(.slice none 0 0),(.int .i64 71)])],b)) (zae 1 false j 2 fun V=>pUpd PP Aa d e V b fun W=>pBin PP .add Aa (c.getD 0 undef) (.int .i64 1) fun X=>some (.next,[X],W))) (pBin PP .add Aa (c.getD 0 undef) (.int .i64 1) fun Y=>some (.next,[Y],b)))) (some (.exit 0,[(c.getD 0 undef)],g))
noncomputable def zbQ(R:zag)(c:Value)(d:Value)(e:Value)(a:List Value)(b:Hp):Option Outc:=pBin PP .lss Aa (a.getD 1 undef) e fun f=>zaa f fun g=>br g (pIdx 1 c (a.getD 1 undef) fun h=>zak 1 false b h fun i=>zbM PP Aa (.int .u64 0) d i false b fun j=>zam 1 [.int .u64 0] 1 [(0,j)] b fun k l=>zaH 1 8 (a.getD 0 undef) k l fun m n=>pBin PP .add Aa (a.getD 1 undef) (.int .i64 1) fun o=>some (.next,[m,o],n)) (some (.exit 2,[(a.getD 0 undef),(a.getD 1 undef)],b))
theorem zii(R:zag)(b a g:Value)(d:Hp):zib R b a g d =
pBin PP .eql An b (.pointer none) fun s=>zaa s fun t=>br t (some ((.tuple #[(.slice none 0 0),(.int .i64 2)]),d)) (zad R AN [b,a] d fun h i=>zah h 0 fun c=>zah h 1 fun j=>pBin PP .neq Am j (.int .i64 0) fun u=>zaa u fun v=>br v (some ((.tuple #[(.slice none 0 0),j]),i)) (zad R BK [g] i fun k e=>zah k 0 fun w=>zah k 1 fun l=>pBin PP .neq Am l (.int .i64 0) fun x=>zaa x fun y=>br y (some ((.tuple #[(.slice none 0 0),l]),e)) (pLen .sl c e fun z=>ziK z (zcm e fun m n=>pLen .sl c n fun A=>ziK A (zcm n fun B o=>pLen .sl c o fun C=>zav (zas (zaO R b c w m B C) [(.int .i64 0)] o) fun D E f=>zaB D none (fun F=>zax F 0 (pLen .sl a f fun G=>za6 1 8 [.int .u64 0] (.int .i64 0) G f fun H p=>pLen .sl a p fun I=>zav (zas (zbQ R a m I) [H,(.int .i64 0)] p) fun J q r=>zaB J none (fun K=>zax K 2 (some ((.tuple #[(q.getD 0 undef),(.int .i64 0)]),r)) (none)) (some ((q.headD undef),r))) (none)) (some ((E.headD undef),f))))))):=by kernel_rfl
noncomputable def za8(R:zag)(f:Value)(e:Value)(g:Value)(b:List Value)(a:Hp):Option Outc:=pLen .sl g a fun i=>pBin PP .lss Aa (b.getD 0 undef) i fun j=>zaa j fun k=>br k (pNil f (zat 1 f fun l=>zak 1 false a l fun m=>pIdx 1 g (b.getD 0 undef) fun n=>zak 1 false a n fun o=>pBin PP .sub Aa o (.int .i64 1) fun p=>pIdx 7 m p fun q=>zak 7 true a q fun r=>zaD 7 [.int .i64 0,.int .i64 0,.int .i64 0,.int .i64 0,.int .i64 0,.int .u64 0,.string ⟨#[]⟩] 0 r fun c=>zae 1 false c 0 fun s=>pBin PP .eql Aa s (.int .i64 4) fun t=>zaa t fun u=>br u (zae 1 false c 6 fun v=>zad R Bd [e,v] a fun h d=>pBin PP .geq Aa h (.int .i64 0) fun w=>zaa w fun x=>br x (pIdx 3 e h fun y=>zat 1 y fun z=>zak 1 false d z fun A=>zae 1 false c 1 fun B=>pBin PP .neq Aa A B fun C=>zaa C fun D=>br D (some (.ret,[(.tuple #[(.slice none 0 0),(.int .i64 71)])],d)) (pBin PP .add Aa (b.getD 0 undef) (.int .i64 1) fun E=>some (.next,[E],d))) (pBin PP .add Aa (b.getD 0 undef) (.int .i64 1) fun F=>some (.next,[F],d))) (pBin PP .geq Aa (.int .i64 (-1)) (.int .i64 0) fun G=>zaa G fun H=>br H (pIdx 3 e (.int .i64 (-1)) fun I=>zat 1 I fun J=>zak 1 false a J fun K=>zae 1 false c 1 fun L=>pBin PP .neq Aa K L fun M=>zaa M fun N=>br N (some (.ret,[(.tuple #[(.slice none 0 0),(.int .i64 71)])],a)) (pBin PP .add Aa (b.getD 0 undef) (.int .i64 1) fun O=>some (.next,[O],a))) (pBin PP .add Aa (b.getD 0 undef) (.int .i64 1) fun P=>some (.next,[P],a))))) (some (.exit 0,[(b.getD 0 undef)],a))
noncomputable def za7(R:zag)(d:Value)(c:Value)(e:Value)(f:Value)(g:Value)(a:List Value)(b:Hp):Option Outc:=pLen .sl c b fun h=>pBin PP .lss Aa (a.getD 1 undef) h fun i=>zaa i fun j=>br j (pIdx 1 c (a.getD 1 undef) fun k=>zak 1 false b k fun l=>zad R Be [d,l,e,f,g] b fun m n=>zam 1 [.int .u64 0] 1 [(0,m)] n fun o p=>zaH 1 8 (a.getD 0 undef) o p fun q r=>pBin PP .add Aa (a.getD 1 undef) (.int .i64 1) fun s=>some (.next,[q,s],r)) (some (.exit 2,[(a.getD 0 undef),(a.getD 1 undef)],b))
theorem zdC(R:zag)(a b c:Value)(e:Hp):zdt R a b c e =
pBin PP .eql A0 a (.pointer none) fun o=>zaa o fun p=>br p (some ((.tuple #[(.slice none 0 0),(.int .i64 2)]),e)) (zad R BF [a,b] e fun q g=>pUn .not q fun r=>zaa r fun s=>br s (some ((.tuple #[(.slice none 0 0),(.int .i64 70)]),g)) (zad R BH [c] g fun h i=>pBin PP .neq Aa h (.int .i64 0) fun t=>zaa t fun u=>br u (some ((.tuple #[(.slice none 0 0),h]),i)) (zad R AW [a,b] i fun j v=>zah j 0 fun w=>zah j 1 fun L=>zav (zas (za8 R a c w) [(.int .i64 0)] v) fun x y d=>zaB x none (fun z=>zax z 0 (pNil a (zat 1 a fun A=>zak 1 false d A fun B=>pLen .sl B d fun C=>pBin PP .add Aa C (.int .i64 1) fun k=>za6 1 1 [.bool false] k k d fun D f=>pNil a (zat 1 a fun E=>zak 1 false f E fun F=>pLen .sl F f fun G=>pBin PP .add Aa G (.int .i64 1) fun l=>za6 1 8 [.int .u64 0] l l f fun H I=>zav (zas (za7 R a b c D H) [(.slice none 0 0),(.int .i64 0)] I) fun J m n=>zaB J none (fun K=>zax K 2 (some ((.tuple #[(m.getD 0 undef),(.int .i64 0)]),n)) (none)) (some ((m.headD undef),n))))) (none)) (some ((y.headD undef),d))))):=by kernel_rfl
noncomputable def zby(R:zag)(c:Value)(d:Value)(b:List Value)(a:Hp):Option Outc:=pLen .sl c a fun e=>pBin PP .lss Aa (b.getD 0 undef) e fun f=>zaa f fun g=>br g (pIdx 1 c (b.getD 0 undef) fun h=>zak 1 false a h fun i=>pIdx 1 d (b.getD 0 undef) fun j=>zak 1 false a j fun k=>pBin PP .neq Ab i k fun l=>zaa l fun m=>br m (some (.ret,[(.bool false)],a)) (pBin PP .add Aa (b.getD 0 undef) (.int .i64 1) fun n=>some (.next,[n],a))) (some (.exit 0,[(b.getD 0 undef)],a))
theorem zfr(R:zag)(b c:Value)(a:Hp):zcT R b c a =
pLen .sl b a fun e=>pLen .sl c a fun f=>pBin PP .neq Aa e f fun g=>zaa g fun h=>br h (some ((.bool false),a)) (zav (zas (zby R b c) [(.int .i64 0)] a) fun i j d=>zaB i none (fun k=>zax k 0 (some ((.bool true),d)) (none)) (some ((j.headD undef),d))):=by kernel_rfl
noncomputable def zbC(R:zag)(c:Value)(d:Value)(b:List Value)(a:Hp):Option Outc:=pLen .sl c a fun e=>pBin PP .lss Aa (b.getD 0 undef) e fun f=>zaa f fun g=>br g (pIdx 3 c (b.getD 0 undef) fun h=>zak 3 true a h fun i=>pIdx 3 d (b.getD 0 undef) fun j=>zak 3 true a j fun k=>pBin PP .neq Ap i k fun l=>zaa l fun m=>br m (some (.ret,[(.bool false)],a)) (pBin PP .add Aa (b.getD 0 undef) (.int .i64 1) fun n=>some (.next,[n],a))) (some (.exit 0,[(b.getD 0 undef)],a))
theorem zfy(R:zag)(b c:Value)(a:Hp):zc2 R b c a =
pLen .sl b a fun e=>pLen .sl c a fun f=>pBin PP .neq Aa e f fun g=>zaa g fun h=>br h (some ((.bool false),a)) (zav (zas (zbC R b c) [(.int .i64 0)] a) fun i j d=>zaB i none (fun k=>zax k 0 (some ((.bool true),d)) (none)) (some ((j.headD undef),d))):=by kernel_rfl
noncomputable def zb1(R:zag)(d:Value)(e:Value)(c:Value)(h:Value)(a:List Value)(b:Hp):Option Outc:=pBin PP .lss Aa (a.getD 0 undef) (.int .i64 3) fun i=>zaa i fun j=>br j (zeh 3 false 1 h (a.getD 0 undef) fun f=>pBin PP .neq Aa f (.int .i64 0) fun k=>zaa k fun l=>br l (zbM PP Aa (.int .u64 0) d c false b fun m=>zbM PP Aa (.int .u64 0) d f false b fun n=>zad R Ch [m,n] b fun o p=>pUpd PP Aa d c o p fun g=>zbM PP Aa (.int .i64 0) e c false g fun q=>zbM PP Aa (.int .i64 0) e f false g fun r=>pMM true [q,r] fun s=>pUpd PP Aa e c s g fun t=>pBin PP .add Aa (a.getD 0 undef) (.int .i64 1) fun u=>some (.next,[u],t)) (pBin PP .add Aa (a.getD 0 undef) (.int .i64 1) fun v=>some (.next,[v],b))) (some (.exit 2,[(a.getD 0 undef)],b))
noncomputable def zci(R:zag)(j:Value)(k:Value)(h:Value)(d:Value)(l:Value)(a:List Value)(e:Hp):Option Outc:=pBin PP .lss Aa (a.getD 0 undef) l fun m=>zaa m fun n=>br n (pIdx 1 k (a.getD 0 undef) fun o=>zak 1 false e o fun b=>zad R Bl [j,b] e fun i p=>zah i 0 fun q=>zah i 1 fun D=>zaD 7 [.int .i64 0,.int .i64 0,.int .i64 0,.int .i64 0,.int .i64 0,.int .u64 0,.string ⟨#[]⟩] 0 q fun f=>pUpd PP Aa h b (.int .u64 1) p fun r=>zae 1 false f 2 fun s=>zae 1 false f 3 fun t=>zae 1 false f 4 fun u=>zaS PP AZ [(0,s),(1,t),(2,u)] fun v=>zav (zas (zb1 R h d b v) [(.int .i64 0)] r) fun w x c=>zaB w none (fun g=>zax g 2 (zbM PP Aa (.int .i64 0) d b false c fun y=>pBin PP .add Aa y (.int .i64 1) fun z=>pUpd PP Aa d b z c fun A=>pBin PP .add Aa (a.getD 0 undef) (.int .i64 1) fun B=>some (.next,[B],A)) (zax g 1 (pBin PP .add Aa (a.getD 0 undef) (.int .i64 1) fun C=>some (.next,[C],c)) (some (.exit g,[(a.getD 0 undef)],c)))) (some (.ret,[(x.headD undef)],c))) (some (.exit 0,[(a.getD 0 undef)],e))
theorem zpb(R:zag)(c d:Value)(e:Hp):zkv R c d e =
pBin PP .eql An c (.pointer none) fun m=>zaa m fun n=>br n (some ((.tuple #[(.int .i64 0),(.int .u64 0),(.int .i64 0),(.int .i64 2)]),e)) (zam 1 [.int .i64 0] 1 [(0,d)] e fun o p=>zad R AN [c,o] p fun g f=>zah g 0 fun a=>zah g 1 fun h=>pBin PP .neq Am h (.int .i64 0) fun q=>zaa q fun r=>br r (some ((.tuple #[(.int .i64 0),(.int .u64 0),(.int .i64 0),h]),f)) (pLen .sl a f fun s=>ziK s (zcm f fun i j=>pLen .sl a j fun t=>ziK t (zcm j fun k l=>pLen .sl a l fun u=>zav (zas (zci R c a i k u) [(.int .i64 0)] l) fun v w b=>zaB v none (fun x=>zax x 0 (pLen .sl a b fun y=>zbM PP Aa (.int .u64 0) i d false b fun z=>zbM PP Aa (.int .i64 0) k d false b fun A=>some ((.tuple #[y,z,A,(.int .i64 0)]),b)) (none)) (some ((w.headD undef),b)))))):=by kernel_rfl
noncomputable def zbD(R:zag)(c:Value)(d:Value)(b:List Value)(a:Hp):Option Outc:=pLen .sl c a fun e=>pBin PP .lss Aa (b.getD 0 undef) e fun f=>zaa f fun g=>br g (pIdx 1 c (b.getD 0 undef) fun h=>zak 1 false a h fun i=>pIdx 1 d (b.getD 0 undef) fun j=>zak 1 false a j fun k=>pBin PP .neq Aa i k fun l=>zaa l fun m=>br m (some (.ret,[(.bool false)],a)) (pBin PP .add Aa (b.getD 0 undef) (.int .i64 1) fun n=>some (.next,[n],a))) (some (.exit 0,[(b.getD 0 undef)],a))
theorem zfz(R:zag)(b c:Value)(a:Hp):zc3 R b c a =
pLen .sl b a fun e=>pLen .sl c a fun f=>pBin PP .neq Aa e f fun g=>zaa g fun h=>br h (some ((.bool false),a)) (zav (zas (zbD R b c) [(.int .i64 0)] a) fun i j d=>zaB i none (fun k=>zax k 0 (some ((.bool true),d)) (none)) (some ((j.headD undef),d))):=by kernel_rfl
noncomputable def zbL(R:zag)(g:Value)(b:Value)(c:Value)(t:List Value)(a:Hp):Option Outc:=pNil c (zat 1 c fun h=>zak 1 false a h fun i=>pLen .sl i a fun j=>pBin PP .gtr Aa j (.int .i64 0) fun k=>zaa k fun l=>br l (zak 1 false a b fun d=>zbI R BV [c] a (fun m n=>some (.ret,[(W0 (.tuple #[m,g]))],n)) fun o e=>chk (Hp.rdP e b 1 false=some d) (zam 1 [.int .i64 0] 1 [(0,o)] e fun p f=>chk (Hp.rdP f b 1 false=some d) (zaH 1 8 d p f fun q r=>zay 1 r b q fun s=>some (.next,[],s)))) (some (.exit 2,[],a)))
noncomputable def zbg(R:zag)(l:Value)(m:Value)(b:Value)(n:List Value)(a:List Value)(g:Hp):Option Outc:=pBin PP .lss Aa (a.getD 2 undef) l fun o=>zaa o fun p=>br p (pIdx 1 (n.getD 0 undef) (a.getD 2 undef) fun q=>zak 1 false g q fun r=>pBin PP .add Aa (a.getD 2 undef) (.int .i64 1) fun c=>zad R AK [r,(.func (.func AD) #[] #[])] g fun s t=>pNil b (zat 1 b fun u=>zay 1 t u s fun e=>zav (zaa (a.getD 1 undef) fun v=>br v (zaS PP Ae [(0,(.int .i64 3))] fun w=>some (.ret,[(W0 (.tuple #[(.iface Ae w),c]))],e)) (pNil b (zat 1 b fun x=>zak 1 false e x fun y=>pLen .sl y e fun z=>pBin PP .eql Aa z (.int .i64 0) fun A=>zaa A fun B=>br B (zaS PP Ae [(0,(.int .i64 3))] fun C=>some (.ret,[(W0 (.tuple #[(.iface Ae C),c]))],e)) (some (.next,[],e))))) fun D E d=>zaB D (pNil b (zat 1 b fun F=>zak 1 false d F fun G=>pIdx 1 G (.int .i64 0) fun H=>zak 1 false d H fun I=>pBin PP .eql Ac I (.string ⟨#[114,111,111,116,115]⟩) fun J=>zaa J fun K=>br K (zbI R Aq [b] d (fun L M=>some (.ret,[(W0 (.tuple #[L,c]))],M)) fun ao N=>zav (zas (zbL R c m b) [] N) fun O P f=>zaB O none (fun h=>zax h 2 (pBin PP .add Aa (a.getD 2 undef) (.int .i64 1) fun Q=>some (.next,[c,(.bool true),Q],f)) (zax h 1 (pBin PP .add Aa (a.getD 2 undef) (.int .i64 1) fun S=>some (.next,[c,(a.getD 1 undef),S],f)) (some (.exit h,[c,(a.getD 1 undef),(a.getD 2 undef)],f)))) (some (.ret,[(P.headD undef)],f))) (zbI R Ao [b] d (fun T U=>some (.ret,[(W0 (.tuple #[T,c]))],U)) fun V i=>pBin PP .add Aa (a.getD 2 undef) (.int .i64 1) fun W=>pBin PP .neq Aa V W fun X=>zaa X fun Y=>br Y (zaS PP Ae [(0,(.int .i64 3))] fun Z=>some (.ret,[(W0 (.tuple #[(.iface Ae Z),c]))],i)) (zbI R AP [b] i (fun aa ab=>some (.ret,[(W0 (.tuple #[aa,c]))],ab)) fun ac j=>pNil b (zat 2 b fun ad=>zak 1 false j ad fun ae=>zam 1 [.int .i64 0] 1 [(0,ac)] j fun af ag=>zaH 1 8 ae af ag fun ah ai=>pNil b (zat 2 b fun aj=>zay 1 ai aj ah fun ak=>pBin PP .add Aa (a.getD 2 undef) (.int .i64 1) fun al=>some (.next,[c,(a.getD 1 undef),al],ak))))))) (fun k=>zax k 1 (pBin PP .add Aa (a.getD 2 undef) (.int .i64 1) fun am=>some (.next,[c,(a.getD 1 undef),am],d)) (some (.exit k,[c,(a.getD 1 undef),(a.getD 2 undef)],d))) (some (.ret,[(E.headD undef)],d)))) (some (.exit 0,[(a.getD 0 undef),(a.getD 1 undef),(a.getD 2 undef)],g))
theorem zo9(R:zag)(e f:Value)(t:Hp):zkr R e f t =
zfj [.pointer none] t fun b D=>zfj [.slice none 0 0] D fun c E=>zfj [.int .i64 0] E fun a F=>zad R BT [f] F fun g G=>zah g 0 fun n=>zah g 1 fun o=>zay 1 G b n fun H=>zay 1 H a o fun k=>zak 1 false k a fun p=>pBin PP .neq Am p (.int .i64 0) fun q=>zaa q fun I=>br I (zak 1 false k a fun r=>zay 1 k b (.pointer none) fun u=>chk (Hp.rdP u a 1 false=some r) (zay 1 u c (.slice none 0 0) fun v=>chk (Hp.rdP v a 1 false=some r) (zay 1 v a r fun l=>zak 1 false l b fun J=>zak 1 false l c fun K=>zak 1 false l a fun L=>some ((W1 (.tuple #[J,K,(.int .i64 0),L])),l)))) (zad R BQ [e,(.string ⟨#[10]⟩)] k fun d j=>zav (pLen .sl d j fun M=>pBin PP .sub Aa M (.int .i64 1) fun N=>pIdx 1 d N fun O=>zak 1 false j O fun P=>pBin PP .eql Ac P (.string ⟨#[]⟩) fun Q=>zaa Q fun S=>br S (pLen .sl d j fun T=>pBin PP .sub Aa T (.int .i64 1) fun U=>zcf 1 d none (some U) fun V=>some (.next,[V],j)) (some (.next,[d],j))) fun W h s=>zaB W (zit (zak 1 false s b fun X=>zaS PP Cx [(0,X)] fun Y=>zfj (zab Y) s fun Z w=>pLen .sl (h.getD 0 undef) w fun aa=>zav (zas (zbg R aa c Z h) [(.int .i64 0),(.bool false),(.int .i64 0)] w) fun ab x i=>zaB ab none (fun ac=>zax ac 0 (pLen .sl (h.getD 0 undef) i fun ad=>pBin PP .add Aa ad (.int .i64 1) fun ae=>pUn .not (x.getD 1 undef) fun af=>zaa af fun ag=>br ag (zaS PP Ae [(0,(.int .i64 3))] fun ah=>some ((W0 (.tuple #[(.iface Ae ah),ae])),i)) (zak 1 false i b fun ai=>zak 1 false i c fun y=>zay 1 i b ai fun z=>chk (Hp.rdP z c 1 false=some y) (zay 1 z c y fun aj=>zay 1 aj a (.int .i64 0) fun m=>zak 1 false m b fun ak=>zak 1 false m c fun al=>zak 1 false m a fun am=>some ((W1 (.tuple #[ak,al,(.int .i64 0),am])),m)))) (none)) (some ((x.headD undef),i))) fun ao A=>zf0 ao (fun u140=>zl6 [.cell 4 24,.cell 5 22,.tmp 6,.cell 7 30] u140 fun ap=>znw [.cell 4 24,.cell 5 22,.tmp 6,.cell 7 30] ap fun aq=>ziq PP orc R BS [b,c,a] .nilIface A fun B=>endL PP [.val e,.val f,.unk,.unk,.val b,.val c,.val (.int .i64 0),.val a,.val (h.getD 0 undef),.unk,.unk,.unk,.unk,.unk,.val g,.val f,.val g,.val n,.val o,.val p,.val q,.unk,.val e,.val d,.unk,.unk,.unk,.unk,.unk,.unk,.unk,.unk,.unk,.unk,.unk,.unk,.val (.func (.func BS) #[] #[b,c,a]),.unk,.unk,.unk,.unk,.unk,.unk,.unk,.unk,.unk,.unk,.unk,.unk,.unk,.unk,.unk,.unk,.unk,.unk,.unk,.unk,.unk,.unk,.unk,.unk,.unk,.unk,.unk,.unk,.unk,.unk,.unk,.unk,.unk,.unk,.unk,.unk,.unk,.unk,.unk,.unk,.unk,.unk,.unk,.unk,.unk,.unk,.unk,.unk,.unk,.unk,.unk,.unk,.unk,.unk,.unk,.unk,.unk,.unk,.unk,.unk,.unk,.unk,.unk,.unk,.unk,.unk,.unk,.unk,.unk,.unk,.unk,.unk,.unk,.unk,.unk,.unk,.unk] B [.cell 4 24,.cell 5 22,.tmp 6,.cell 7 30] aq fun ar=>some (W1 (resV ar),B)) (fun au=>pTail au fun av aw=>ziq PP orc R BS [b,c,a] av A fun C=>endL PP [.val e,.val f,.unk,.unk,.val b,.val c,.val (.int .i64 0),.val a,.val (h.getD 0 undef),.unk,.unk,.unk,.unk,.unk,.val g,.val f,.val g,.val n,.val o,.val p,.val q,.unk,.val e,.val d,.unk,.unk,.unk,.unk,.unk,.unk,.unk,.unk,.unk,.unk,.unk,.unk,.val (.func (.func BS) #[] #[b,c,a]),.unk,.unk,.unk,.unk,.unk,.unk,.unk,.unk,.unk,.unk,.unk,.unk,.unk,.unk,.unk,.unk,.unk,.unk,.unk,.unk,.unk,.unk,.unk,.unk,.unk,.unk,.unk,.unk,.unk,.unk,.unk,.unk,.unk,.unk,.unk,.unk,.unk,.unk,.unk,.unk,.unk,.unk,.unk,.unk,.unk,.unk,.unk,.unk,.unk,.unk,.unk,.unk,.unk,.unk,.unk,.unk,.unk,.unk,.unk,.unk,.unk,.unk,.unk,.unk,.unk,.unk,.unk,.unk,.unk,.unk,.unk,.unk,.unk,.unk,.unk,.unk,.unk] C [.cell 4 24,.cell 5 22,.tmp 6,.cell 7 30] aw fun ax=>some (W1 (resV ax),C))) (fun ay=>none) (retT (h.headD undef) s)):=by kernel_rfl
noncomputable def zaI(R:zag)(c:Value)(l:Value)(a:List Value)(d:Hp):Option Outc:=pLen .str c d fun y=>pBin PP .lss Aa (a.getD 3 undef) y fun z=>zaa z fun A=>br A (zav (zbn c (a.getD 3 undef) fun B=>pBin PP .neq Ad B (.int .u8 10) fun C=>zaa C fun D=>br D (pLen .str c d fun E=>pBin PP .sub Aa E (.int .i64 1) fun F=>pBin PP .neq Aa (a.getD 3 undef) F fun G=>zaa G fun H=>br H (some (.exit 1,[],d)) (some (.next,[],d))) (some (.next,[],d))) fun I J e=>zaB I (zav (zbn c (a.getD 3 undef) fun K=>pBin PP .neq Ad K (.int .u8 10) fun L=>zaa L fun M=>br M (pBin PP .add Aa (a.getD 3 undef) (.int .i64 1) fun N=>some (.next,[N],e)) (some (.next,[(a.getD 3 undef)],e))) fun O m g=>zaB O (pBin PP .add Aa (a.getD 2 undef) (.int .i64 1) fun b=>zbo c (some (a.getD 1 undef)) (some (m.getD 0 undef)) fun P=>zad R BD [P] g fun h i=>pBin PP .add Aa (a.getD 3 undef) (.int .i64 1) fun j=>zav (pLen .sl h i fun Q=>pBin PP .gtr Aa Q (.int .i64 0) fun S=>zaa S fun T=>br T (pIdx 1 h (.int .i64 0) fun U=>zak 1 false i U fun V=>pBin PP .eql Ac V (.string ⟨#[114,111,111,116,115]⟩) fun W=>some (.next,[W],i)) (some (.next,[(.bool false)],i))) fun X n f=>zaB X (zaa (n.getD 0 undef) fun Y=>br Y (zcf 1 h (some (.int .i64 1)) none fun Z=>zad R Ba [Z,(a.getD 0 undef)] f fun o k=>zah o 0 fun aa=>zah o 1 fun ab=>pUn .not ab fun ac=>zaa ac fun ad=>br ad (some (.ret,[(.tuple #[(.pointer none),(.slice none 0 0),b,(.int .i64 3)])],k)) (pLen .str c k fun ae=>pBin PP .lss Aa j ae fun af=>zaa af fun ag=>br ag (pBin PP .add Aa b (.int .i64 1) fun ah=>some (.ret,[(.tuple #[(.pointer none),(.slice none 0 0),ah,(.int .i64 3)])],k)) (some (.ret,[(.tuple #[l,aa,(.int .i64 0),(.int .i64 0)])],k)))) (zad R AX [h,(a.getD 0 undef)] f fun p q=>zah p 0 fun ai=>zah p 1 fun aj=>zaD 7 [.int .i64 0,.int .i64 0,.int .i64 0,.int .i64 0,.int .i64 0,.int .u64 0,.string ⟨#[]⟩] 0 ai fun r=>pUn .not aj fun ak=>zaa ak fun al=>br al (some (.ret,[(.tuple #[(.pointer none),(.slice none 0 0),b,(.int .i64 3)])],q)) (zae 7 true r 0 fun am=>zad R Cb [l,am] q fun ao ap=>zaD 1 r 1 ao fun aq=>zae 7 true aq 0 fun ar=>zad R AJ [l,ar] ap fun s t=>zah s 0 fun au=>zah s 1 fun u=>pBin PP .neq Am u (.int .i64 0) fun av=>zaa av fun aw=>br aw (some (.ret,[(.tuple #[(.pointer none),(.slice none 0 0),b,u])],t)) (zam 1 [.int .i64 0] 1 [(0,au)] t fun ax ay=>zaH 1 8 (a.getD 0 undef) ax ay fun az ba=>pBin PP .add Aa (a.getD 3 undef) (.int .i64 1) fun bb=>some (.next,[az,j,b,bb],ba))))) (fun v=>zax v 1 (pBin PP .add Aa (a.getD 3 undef) (.int .i64 1) fun bc=>some (.next,[(a.getD 0 undef),j,b,bc],f)) (some (.exit v,[(a.getD 0 undef),j,b,(a.getD 3 undef)],f))) (some (.ret,[(n.headD undef)],f))) (fun w=>zax w 1 (pBin PP .add Aa (a.getD 3 undef) (.int .i64 1) fun bd=>some (.next,[(a.getD 0 undef),(a.getD 1 undef),(a.getD 2 undef),bd],g)) (some (.exit w,[(a.getD 0 undef),(a.getD 1 undef),(a.getD 2 undef),(a.getD 3 undef)],g))) (some (.ret,[(m.headD undef)],g))) (fun x=>zax x 1 (pBin PP .add Aa (a.getD 3 undef) (.int .i64 1) fun be=>some (.next,[(a.getD 0 undef),(a.getD 1 undef),(a.getD 2 undef),be],e)) (some (.exit x,[(a.getD 0 undef),(a.getD 1 undef),(a.getD 2 undef),(a.getD 3 undef)],e))) (some (.ret,[(J.headD undef)],e))) (some (.exit 0,[(a.getD 0 undef),(a.getD 1 undef),(a.getD 2 undef),(a.getD 3 undef)],d))
theorem zht(R:zag)(a b:Value)(c:Hp):zeq R a b c =
zad R BA [b] c fun d e=>zah d 0 fun i=>zah d 1 fun f=>pBin PP .neq Am f (.int .i64 0) fun j=>zaa j fun k=>br k (some ((.tuple #[(.pointer none),(.slice none 0 0),(.int .i64 0),f]),e)) (zav (zas (zaI R a i) [(.slice none 0 0),(.int .i64 0),(.int .i64 0),(.int .i64 0)] e) fun l g h=>zaB l none (fun m=>zax m 0 (pBin PP .add Aa (g.getD 2 undef) (.int .i64 1) fun n=>some ((.tuple #[(.pointer none),(.slice none 0 0),n,(.int .i64 3)]),h)) (none)) (some ((g.headD undef),h))):=by kernel_rfl
noncomputable def zbf(R:zag)(f:Value)(c:Value)(a:List Value)(d:Hp):Option Outc:=pNil c (zat 1 c fun g=>zak 1 false d g fun h=>pLen .sl h d fun i=>pBin PP .leq Aa (a.getD 0 undef) i fun j=>zaa j fun k=>br k (zad R Bl [f,(a.getD 0 undef)] d fun e l=>zah e 0 fun m=>zah e 1 fun n=>zaD 7 [.int .i64 0,.int .i64 0,.int .i64 0,.int .i64 0,.int .i64 0,.int .u64 0,.string ⟨#[]⟩] 0 m fun o=>zad R Av [n] l fun p b=>pBin PP .neq Aa p (.int .i64 0) fun q=>zaa q fun r=>br r (some (.ret,[(.bool false)],b)) (zae 7 true o 0 fun s=>pNil c (zat 1 c fun t=>zak 1 false b t fun u=>pBin PP .sub Aa (a.getD 0 undef) (.int .i64 1) fun v=>pIdx 7 u v fun w=>zak 7 true b w fun x=>pBin PP .neq Ah s x fun y=>zaa y fun z=>br z (some (.ret,[(.bool false)],b)) (pBin PP .add Aa (a.getD 0 undef) (.int .i64 1) fun A=>some (.next,[A],b))))) (some (.exit 0,[(a.getD 0 undef)],d)))
theorem zgS(R:zag)(d a:Value)(b:Hp):zd1 R d a b =
zad R Cl [d] b fun i c=>pNil a (zat 1 a fun f=>zak 1 false c f fun e=>chk (Hp.rdP b f 1 false=some e) (pLen .sl e c fun g=>zjD .sl e b g (pBin PP .neq Aa i g fun j=>zaa j fun k=>br k (some ((.bool false),c)) (zav (zas (zbf R d a) [(.int .i64 1)] c) fun l m h=>zaB l none (fun n=>zax n 0 (some ((.bool true),h)) (none)) (some ((m.headD undef),h)))))):=by kernel_rfl
noncomputable def zbc(R:zag)(d:Value)(e:Value)(f:Value)(a:List Value)(b:Hp):Option Outc:=pBin PP .lss Aa (a.getD 0 undef) f fun g=>zaa g fun h=>br h (pIdx 1 e (a.getD 0 undef) fun i=>zak 1 false b i fun j=>zad R AO [d,j] b fun k c=>pUn .not k fun l=>zaa l fun m=>br m (some (.ret,[(.tuple #[(.slice none 0 0),(.int .i64 70)])],c)) (pBin PP .add Aa (a.getD 0 undef) (.int .i64 1) fun n=>some (.next,[n],c))) (some (.exit 0,[(a.getD 0 undef)],b))
noncomputable def zaM(R:zag)(h:Value)(i:Value)(a:List Value)(c:Hp):Option Outc:=pLen .sl (a.getD 1 undef) c fun m=>pBin PP .gtr Aa m (.int .i64 0) fun n=>zaa n fun o=>br o (pLen .sl (a.getD 1 undef) c fun p=>pBin PP .sub Aa p (.int .i64 1) fun q=>pIdx 2 (a.getD 1 undef) q fun b=>pNil h (zat 1 h fun r=>zak 1 false c r fun s=>pNil b (zat 0 b fun t=>zak 1 false c t fun u=>pBin PP .sub Aa u (.int .i64 1) fun v=>pIdx 7 s v fun w=>zak 7 true c w fun x=>zaD 7 [.int .i64 0,.int .i64 0,.int .i64 0,.int .i64 0,.int .i64 0,.int .u64 0,.string ⟨#[]⟩] 0 x fun e=>pNil b (zat 1 b fun j=>zak 1 false c j fun k=>zae 1 false e 0 fun y=>zad R Ay [y] c fun z d=>chk (Hp.rdP d j 1 false=some k) (pBin PP .eql Aa k z fun A=>zaa A fun B=>br B (pNil b (zat 0 b fun C=>zak 1 false d C fun D=>zam 1 [.int .i64 0] 1 [(0,D)] d fun E F=>zaH 1 8 (a.getD 0 undef) E F fun G l=>pLen .sl (a.getD 1 undef) l fun H=>pBin PP .sub Aa H (.int .i64 1) fun I=>zcf 2 (a.getD 1 undef) none (some I) fun J=>some (.next,[G,J],l))) (zae 1 false e 2 fun K=>zae 1 false e 3 fun L=>zae 1 false e 4 fun M=>zaS PP AZ [(0,K),(1,L),(2,M)] fun N=>pNil b (zat 1 b fun O=>zak 1 false d O fun P=>zeh 3 false 1 N P fun f=>pNil b (zat 1 b fun Q=>zak 1 false d Q fun S=>pBin PP .add Aa S (.int .i64 1) fun T=>pNil b (zat 1 b fun U=>zay 1 d U T fun g=>pIdx 1 i f fun V=>zak 1 false g V fun W=>pUn .not W fun X=>zaa X fun Y=>br Y (pIdx 1 i f fun Z=>zay 1 g Z (.bool true) fun aa=>zaS PP Cw [(0,f),(1,(.int .i64 0))] fun ab=>zam 2 [.int .i64 0,.int .i64 0] 1 [(0,ab)] aa fun ac ad=>zaH 2 16 (a.getD 1 undef) ac ad fun ae af=>some (.next,[(a.getD 0 undef),ae],af)) (some (.next,[(a.getD 0 undef),(a.getD 1 undef)],g))))))))))) (some (.exit 4,[(a.getD 0 undef),(a.getD 1 undef)],c))
noncomputable def zbb(R:zag)(h:Value)(i:Value)(e:Value)(j:Value)(a:List Value)(c:Hp):Option Outc:=pBin PP .lss Aa (a.getD 2 undef) j fun k=>zaa k fun l=>br l (pIdx 1 i (a.getD 2 undef) fun m=>zak 1 false c m fun f=>pIdx 1 e f fun n=>zak 1 false c n fun o=>zaa o fun p=>br p (pBin PP .add Aa (a.getD 2 undef) (.int .i64 1) fun q=>some (.next,[(a.getD 0 undef),(a.getD 1 undef),q],c)) (pIdx 1 e f fun r=>zay 1 c r (.bool true) fun s=>zaS PP Cw [(0,f),(1,(.int .i64 0))] fun t=>zam 2 [.int .i64 0,.int .i64 0] 1 [(0,t)] s fun u v=>zaH 2 16 (a.getD 1 undef) u v fun w x=>zav (zas (zaM R h e) [(a.getD 0 undef),w] x) fun y b d=>zaB y none (fun g=>zax g 4 (pBin PP .add Aa (a.getD 2 undef) (.int .i64 1) fun z=>some (.next,[(b.getD 0 undef),(b.getD 1 undef),z],d)) (zax g 3 (pBin PP .add Aa (a.getD 2 undef) (.int .i64 1) fun A=>some (.next,[(b.getD 0 undef),(b.getD 1 undef),A],d)) (some (.exit g,[(b.getD 0 undef),(b.getD 1 undef),(a.getD 2 undef)],d)))) (some (.ret,[(b.headD undef)],d)))) (some (.exit 2,[(a.getD 0 undef),(a.getD 1 undef),(a.getD 2 undef)],c))
theorem zeV(R:zag)(a b:Value)(d:Hp):zeJ R a b d =
pLen .sl b d fun i=>zav (zas (zbc R a b i) [(.int .i64 0)] d) fun j k c=>zaB j none (fun l=>zax l 0 (pNil a (zat 1 a fun m=>zak 1 false c m fun n=>pLen .sl n c fun o=>pBin PP .add Aa o (.int .i64 1) fun e=>za6 1 1 [.bool false] e e c fun p f=>pLen .sl b f fun q=>zav (zas (zbb R a b p q) [(.slice none 0 0),(.slice none 0 0),(.int .i64 0)] f) fun r g h=>zaB r none (fun s=>zax s 2 (some ((.tuple #[(g.getD 0 undef),(.int .i64 0)]),h)) (none)) (some ((g.headD undef),h)))) (none)) (some ((k.headD undef),c)):=by kernel_rfl
noncomputable def zch(R:zag)(g:Value)(d:Value)(h:Value)(b:List Value)(a:Hp):Option Outc:=pBin PP .lss Aa (b.getD 0 undef) h fun i=>zaa i fun j=>br j (pIdx 3 g (b.getD 0 undef) fun k=>zak 3 true a k fun l=>zaD 3 [.string ⟨#[]⟩,.int .i64 0,.int .u64 0] 0 l fun c=>zae 1 false c 0 fun m=>zbM PP Ac (.agg #[.string ⟨#[]⟩,.int .i64 0,.int .u64 0]) d m true a fun e=>zah e 0 fun n=>zah e 1 fun o=>zaD 3 [.string ⟨#[]⟩,.int .i64 0,.int .u64 0] 0 n fun y=>zaa o fun p=>br p (some (.ret,[(.tuple #[(.map none),(.int .i64 72)])],a)) (zae 1 false c 0 fun q=>zad R Bq [q] a fun r f=>pUn .not r fun s=>zaa s fun t=>br t (some (.ret,[(.tuple #[(.map none),(.int .i64 72)])],f)) (zae 1 false c 0 fun u=>zae 3 true c 0 fun v=>pUpd PP Ac d u v f fun w=>pBin PP .add Aa (b.getD 0 undef) (.int .i64 1) fun x=>some (.next,[x],w)))) (some (.exit 0,[(b.getD 0 undef)],a))
noncomputable def zcg(R:zag)(e:Value)(f:Value)(c:List Value)(a:Hp):Option Outc:=pBin PP .lss Aa (c.getD 0 undef) f fun g=>zaa g fun h=>br h (pIdx 3 e (c.getD 0 undef) fun i=>zak 3 true a i fun j=>zaD 3 [.string ⟨#[]⟩,.int .i64 0,.int .u64 0] 0 j fun b=>zae 1 false b 1 fun k=>pBin PP .lss Aa k (.int .i64 0) fun l=>zaa l fun m=>br m (some (.ret,[(.tuple #[(.map none),(.int .i64 5)])],a)) (zae 1 false b 1 fun n=>pBin PP .gtr Aa n (.int .i64 64) fun o=>zaa o fun p=>br p (some (.ret,[(.tuple #[(.map none),(.int .i64 5)])],a)) (zae 1 false b 1 fun q=>pMM true [q,(.int .i64 1)] fun r=>zae 1 false b 2 fun s=>zad R Af [r,s] a fun t d=>zae 1 false b 2 fun u=>pBin PP .neq Ab t u fun v=>zaa v fun w=>br w (some (.ret,[(.tuple #[(.map none),(.int .i64 5)])],d)) (pBin PP .add Aa (c.getD 0 undef) (.int .i64 1) fun x=>some (.next,[x],d))))) (some (.exit 2,[(c.getD 0 undef)],a))
theorem zpa(R:zag)(a:Value)(b:Hp):zks R a b =
pLen .sl a b fun g=>ziK g (zcm b fun d e=>pLen .sl a e fun h=>zav (zas (zch R a d h) [(.int .i64 0)] e) fun i j c=>zaB i none (fun k=>zax k 0 (pLen .sl a c fun l=>zav (zas (zcg R a l) [(.int .i64 0)] c) fun m n f=>zaB m none (fun o=>zax o 2 (some ((.tuple #[d,(.int .i64 0)]),f)) (none)) (some ((n.headD undef),f))) (none)) (some ((j.headD undef),c))):=by kernel_rfl
noncomputable def za4(R:zag)(e:Value)(c:Value)(a:List Value)(b:Hp):Option Outc:=pLen .sl c b fun f=>pBin PP .lss Aa (a.getD 0 undef) f fun g=>zaa g fun h=>br h (pIdx 1 c (a.getD 0 undef) fun i=>zak 1 false b i fun j=>zad R Cf [e,j] b fun k d=>pUn .not k fun l=>zaa l fun m=>br m (some (.ret,[(.bool false)],d)) (pBin PP .add Aa (a.getD 0 undef) (.int .i64 1) fun n=>some (.next,[n],d))) (some (.exit 0,[(a.getD 0 undef)],b))
theorem zij(R:zag)(a b:Value)(c:Hp):zeM R a b c =
zav (zas (za4 R a b) [(.int .i64 0)] c) fun e f d=>zaB e none (fun g=>zax g 0 (some ((.bool true),d)) (none)) (some ((f.headD undef),d)):=by kernel_rfl
noncomputable def zbj(R:zag)(c:Value)(a:List Value)(b:Hp):Option Outc:=pLen .sl c b fun d=>pBin PP .lss Aa (a.getD 1 undef) d fun e=>zaa e fun f=>br f (pIdx 3 c (a.getD 1 undef) fun g=>zat 0 g fun h=>zak 1 false b h fun i=>zam 1 [.string ⟨#[]⟩] 1 [(0,i)] b fun j k=>zaH 1 16 (a.getD 0 undef) j k fun l m=>pBin PP .add Aa (a.getD 1 undef) (.int .i64 1) fun n=>some (.next,[l,n],m)) (some (.exit 0,[(a.getD 0 undef),(a.getD 1 undef)],b))
noncomputable def zbi(R:zag)(c:Value)(b:List Value)(a:Hp):Option Outc:=pLen .sl c a fun k=>pBin PP .lss Aa (b.getD 0 undef) k fun l=>zaa l fun m=>br m (pIdx 3 c (b.getD 0 undef) fun n=>zat 1 n fun o=>zak 1 false a o fun d=>pBin PP .lss Aa d (.int .i64 0) fun p=>zaa p fun q=>br q (some (.ret,[(.int .i64 5)],a)) (pBin PP .gtr Aa d (.int .i64 64) fun r=>zaa r fun s=>br s (some (.ret,[(.int .i64 5)],a)) (pBin PP .eql Aa d (.int .i64 0) fun t=>zaa t fun u=>br u (pIdx 3 c (b.getD 0 undef) fun v=>zat 2 v fun w=>zak 1 false a w fun x=>zad R Ak [(.int .i64 1),x] a fun y e=>pIdx 3 c (b.getD 0 undef) fun z=>zat 2 z fun g=>zak 1 false e g fun h=>chk (Hp.rdP a g 1 false=some h) (pBin PP .neq Ab y h fun A=>zaa A fun B=>br B (some (.ret,[(.int .i64 5)],e)) (pBin PP .add Aa (b.getD 0 undef) (.int .i64 1) fun C=>some (.next,[C],e)))) (pIdx 3 c (b.getD 0 undef) fun D=>zat 2 D fun E=>zak 1 false a E fun F=>zad R Ak [d,F] a fun G f=>pIdx 3 c (b.getD 0 undef) fun H=>zat 2 H fun i=>zak 1 false f i fun j=>chk (Hp.rdP a i 1 false=some j) (pBin PP .neq Ab G j fun I=>zaa I fun J=>br J (some (.ret,[(.int .i64 5)],f)) (pBin PP .add Aa (b.getD 0 undef) (.int .i64 1) fun K=>some (.next,[K],f))))))) (some (.exit 2,[(b.getD 0 undef)],a))
theorem zhq(R:zag)(a:Value)(b:Hp):zem R a b =
zav (zas (zbj R a) [(.slice none 0 0),(.int .i64 0)] b) fun g c d=>zaB g none (fun h=>zax h 0 (zad R BG [(c.getD 0 undef)] d fun i e=>pUn .not i fun j=>zaa j fun k=>br k (some ((.int .i64 72),e)) (zav (zas (zbi R a) [(.int .i64 0)] e) fun l m f=>zaB l none (fun n=>zax n 2 (some ((.int .i64 0),f)) (none)) (some ((m.headD undef),f)))) (none)) (some ((c.headD undef),d)):=by kernel_rfl
noncomputable def zaL(R:zag)(e:Value)(c:Value)(a:List Value)(b:Hp):Option Outc:=pLen .sl c b fun f=>pBin PP .lss Aa (a.getD 0 undef) f fun g=>zaa g fun h=>br h (pIdx 1 c (a.getD 0 undef) fun i=>zak 1 false b i fun j=>zad R Au [e,j] b fun k d=>pUn .not k fun l=>zaa l fun m=>br m (some (.ret,[(.tuple #[(.slice none 0 0),(.int .i64 70)])],d)) (pBin PP .add Aa (a.getD 0 undef) (.int .i64 1) fun n=>some (.next,[n],d))) (some (.exit 0,[(a.getD 0 undef)],b))
noncomputable def zaZ(R:zag)(d:Value)(c:List Value)(a:List Value)(b:Hp):Option Outc:=pBin PP .geq Aa (a.getD 1 undef) (.int .i64 0) fun e=>zaa e fun f=>br f (zbW 3 (a.getD 1 undef) fun g=>zae 1 false c (0+g*1) fun h=>pBin PP .gtr Aa h (.int .i64 0) fun i=>zaa i fun j=>br j (zbW 3 (a.getD 1 undef) fun k=>zae 1 false c (0+k*1) fun l=>pIdx 1 d l fun m=>zak 1 false b m fun n=>pUn .not n fun o=>zaa o fun p=>br p (zbW 3 (a.getD 1 undef) fun q=>zae 1 false c (0+q*1) fun r=>pBin PP .sub Aa (a.getD 1 undef) (.int .i64 1) fun s=>some (.next,[r,s],b)) (pBin PP .sub Aa (a.getD 1 undef) (.int .i64 1) fun t=>some (.next,[(a.getD 0 undef),t],b))) (pBin PP .sub Aa (a.getD 1 undef) (.int .i64 1) fun u=>some (.next,[(a.getD 0 undef),u],b))) (some (.exit 6,[(a.getD 0 undef),(a.getD 1 undef)],b))
noncomputable def zap(R:zag)(i:Value)(e:Value)(a:List Value)(d:Hp):Option Outc:=pLen .sl (a.getD 1 undef) d fun l=>pBin PP .gtr Aa l (.int .i64 0) fun m=>zaa m fun n=>br n (pLen .sl (a.getD 1 undef) d fun o=>pBin PP .sub Aa o (.int .i64 1) fun p=>pIdx 1 (a.getD 1 undef) p fun q=>zak 1 false d q fun c=>pNil i (zat 1 i fun r=>zak 1 false d r fun s=>pBin PP .sub Aa c (.int .i64 1) fun t=>pIdx 7 s t fun u=>zak 7 true d u fun v=>zaD 7 [.int .i64 0,.int .i64 0,.int .i64 0,.int .i64 0,.int .i64 0,.int .u64 0,.string ⟨#[]⟩] 0 v fun f=>zae 1 false f 2 fun w=>zae 1 false f 3 fun x=>zae 1 false f 4 fun y=>zaS PP AZ [(0,w),(1,x),(2,y)] fun z=>zaD 3 [.int .i64 0,.int .i64 0,.int .i64 0] 0 z fun A=>zav (zas (zaZ R e A) [(.int .i64 0),(.int .i64 2)] d) fun B g b=>zaB B none (fun h=>zax h 6 (pBin PP .gtr Aa (g.getD 0 undef) (.int .i64 0) fun C=>zaa C fun D=>br D (pIdx 1 e c fun E=>zak 1 false b E fun F=>pUn .not F fun G=>zaa G fun H=>br H (zam 1 [.int .i64 0] 1 [(0,(g.getD 0 undef))] b fun I J=>zaH 1 8 (a.getD 1 undef) I J fun K L=>some (.next,[(a.getD 0 undef),K],L)) (pIdx 1 e c fun M=>zak 1 false b M fun N=>pUn .not N fun O=>zaa O fun P=>br P (pIdx 1 e c fun Q=>zay 1 b Q (.bool true) fun S=>zam 1 [.int .i64 0] 1 [(0,c)] S fun T U=>zaH 1 8 (a.getD 0 undef) T U fun V j=>pLen .sl (a.getD 1 undef) j fun W=>pBin PP .sub Aa W (.int .i64 1) fun X=>zcf 1 (a.getD 1 undef) none (some X) fun Y=>some (.next,[V,Y],j)) (pLen .sl (a.getD 1 undef) b fun Z=>pBin PP .sub Aa Z (.int .i64 1) fun aa=>zcf 1 (a.getD 1 undef) none (some aa) fun ab=>some (.next,[(a.getD 0 undef),ab],b)))) (pIdx 1 e c fun ac=>zak 1 false b ac fun ad=>pUn .not ad fun ae=>zaa ae fun af=>br af (pIdx 1 e c fun ag=>zay 1 b ag (.bool true) fun ah=>zam 1 [.int .i64 0] 1 [(0,c)] ah fun ai aj=>zaH 1 8 (a.getD 0 undef) ai aj fun ak k=>pLen .sl (a.getD 1 undef) k fun al=>pBin PP .sub Aa al (.int .i64 1) fun am=>zcf 1 (a.getD 1 undef) none (some am) fun ao=>some (.next,[ak,ao],k)) (pLen .sl (a.getD 1 undef) b fun ap=>pBin PP .sub Aa ap (.int .i64 1) fun aq=>zcf 1 (a.getD 1 undef) none (some aq) fun ar=>some (.next,[(a.getD 0 undef),ar],b)))) (zax h 5 (some (.next,[(a.getD 0 undef),(a.getD 1 undef)],b)) (some (.exit h,[(a.getD 0 undef),(a.getD 1 undef)],b)))) (some (.ret,[(g.headD undef)],b)))) (some (.exit 4,[(a.getD 0 undef),(a.getD 1 undef)],d))
noncomputable def zaY(R:zag)(g:Value)(f:Value)(h:Value)(a:List Value)(b:Hp):Option Outc:=pLen .sl f b fun i=>pBin PP .lss Aa (a.getD 1 undef) i fun j=>zaa j fun k=>br k (pIdx 1 f (a.getD 1 undef) fun l=>zak 1 false b l fun m=>zam 1 [.int .i64 0] 1 [(0,m)] b fun n o=>zav (zas (zap R g h) [(a.getD 0 undef),n] o) fun p c d=>zaB p none (fun e=>zax e 4 (pBin PP .add Aa (a.getD 1 undef) (.int .i64 1) fun q=>some (.next,[(c.getD 0 undef),q],d)) (zax e 3 (pBin PP .add Aa (a.getD 1 undef) (.int .i64 1) fun r=>some (.next,[(c.getD 0 undef),r],d)) (some (.exit e,[(c.getD 0 undef),(a.getD 1 undef)],d)))) (some (.ret,[(c.headD undef)],d))) (some (.exit 2,[(a.getD 0 undef),(a.getD 1 undef)],b))
theorem zcI(R:zag)(a c:Value)(d:Hp):zcH R a c d =
zav (zas (zaL R a c) [(.int .i64 0)] d) fun h i b=>zaB h none (fun j=>zax j 0 (pNil a (zat 1 a fun k=>zak 1 false b k fun l=>pLen .sl l b fun m=>pBin PP .add Aa m (.int .i64 1) fun e=>za6 1 1 [.bool false] e e b fun n o=>zav (zas (zaY R a c n) [(.slice none 0 0),(.int .i64 0)] o) fun p f g=>zaB p none (fun q=>zax q 2 (some ((.tuple #[(f.getD 0 undef),(.int .i64 0)]),g)) (none)) (some ((f.headD undef),g)))) (none)) (some ((i.headD undef),b)):=by kernel_rfl
noncomputable def zaX(R:zag)(c:Value)(d:Value)(a:List Value)(b:Hp):Option Outc:=pLen .sl c b fun e=>pBin PP .lss Aa (a.getD 0 undef) e fun f=>zaa f fun g=>br g (pIdx 3 c (a.getD 0 undef) fun h=>zat 0 h fun i=>zak 1 false b i fun j=>pBin PP .eql Ac j d fun k=>zaa k fun l=>br l (some (.ret,[(a.getD 0 undef)],b)) (pBin PP .add Aa (a.getD 0 undef) (.int .i64 1) fun m=>some (.next,[m],b))) (some (.exit 0,[(a.getD 0 undef)],b))
theorem zhr(R:zag)(a b:Value)(c:Hp):zen R a b c =
zav (zas (zaX R a b) [(.int .i64 0)] c) fun e f d=>zaB e none (fun g=>zax g 0 (some ((.int .i64 (-1)),d)) (none)) (some ((f.headD undef),d)):=by kernel_rfl
noncomputable def za2(R:zag)(b:Value)(f:Value)(g:Value)(h:Value)(c:List Value)(a:List Value)(d:Hp):Option Outc:=pBin PP .lss Aa (a.getD 0 undef) (.int .i64 3) fun i=>zaa i fun j=>br j (zbW 3 (a.getD 0 undef) fun k=>zae 1 false c (0+k*1) fun l=>pBin PP .gtr Aa l (.int .i64 0) fun m=>zaa m fun n=>br n (zbW 3 (a.getD 0 undef) fun o=>zae 1 false c (0+o*1) fun p=>zad R Be [b,p,f,g,h] d fun q e=>zbW 3 (a.getD 0 undef) fun r=>zaD 1 (zab ((a.drop 1).getD 0 undef)) (0+r*1) q fun s=>pNil b (zat 1 b fun t=>zak 1 false e t fun u=>zbW 3 (a.getD 0 undef) fun v=>zae 1 false c (0+v*1) fun w=>pBin PP .sub Aa w (.int .i64 1) fun x=>pIdx 7 u x fun y=>zat 1 y fun z=>zak 1 false e z fun A=>zbW 3 (a.getD 0 undef) fun B=>zaD 1 (zab ((a.drop 1).getD 1 undef)) (0+B*1) A fun C=>pBin PP .add Aa (a.getD 0 undef) (.int .i64 1) fun D=>some (.next,[D,(.agg s.toArray),(.agg C.toArray)],e))) (pBin PP .add Aa (a.getD 0 undef) (.int .i64 1) fun E=>some (.next,[E,(.agg (zab ((a.drop 1).getD 0 undef)).toArray),(.agg (zab ((a.drop 1).getD 1 undef)).toArray)],d))) (some (.exit 0,[(a.getD 0 undef),(.agg (zab ((a.drop 1).getD 0 undef)).toArray),(.agg (zab ((a.drop 1).getD 1 undef)).toArray)],d))
theorem zgN(R:zag)(f a g h b:Value)(c:Hp):zdQ R f a g h b c =
pIdx 1 h a fun n=>zak 1 false c n fun o=>zaa o fun p=>br p (pIdx 1 b a fun q=>zak 1 false c q fun r=>some (r,c)) (pNil f (zat 1 f fun s=>zak 1 false c s fun t=>pBin PP .sub Aa a (.int .i64 1) fun u=>pIdx 7 t u fun v=>zak 7 true c v fun w=>zaD 7 [.int .i64 0,.int .i64 0,.int .i64 0,.int .i64 0,.int .i64 0,.int .u64 0,.string ⟨#[]⟩] 0 w fun d=>zae 1 false d 2 fun x=>zae 1 false d 3 fun y=>zae 1 false d 4 fun z=>zaS PP AZ [(0,x),(1,y),(2,z)] fun A=>zaD 3 [.int .i64 0,.int .i64 0,.int .i64 0] 0 A fun B=>zav (zas (za2 R f g h b B) [(.int .i64 0),(.agg [.int .u64 0,.int .u64 0,.int .u64 0].toArray),(.agg [.int .i64 0,.int .i64 0,.int .i64 0].toArray)] c) fun C e k=>zaB C none (fun D=>zax D 0 (pIdx 1 h a fun E=>zay 1 k E (.bool true) fun F=>zae 7 true d 0 fun G=>zae 1 false (zab ((e.drop 1).getD 0 undef)) 0 fun H=>zae 1 false (zab ((e.drop 1).getD 0 undef)) 1 fun I=>zae 1 false (zab ((e.drop 1).getD 0 undef)) 2 fun J=>zae 1 false (zab ((e.drop 1).getD 1 undef)) 0 fun K=>zae 1 false (zab ((e.drop 1).getD 1 undef)) 1 fun L=>zad R BE [G,H,I,J,K,L] F fun M N=>pIdx 1 b a fun O=>zay 1 N O M fun j=>zae 1 false d 0 fun P=>pBin PP .eql Aa P (.int .i64 4) fun Q=>zaa Q fun S=>br S (zae 1 false d 6 fun T=>zad R Bd [g,T] j fun l i=>pBin PP .geq Aa l (.int .i64 0) fun U=>zaa U fun V=>br V (pIdx 3 g l fun W=>zat 2 W fun X=>zak 1 false i X fun Y=>pIdx 1 b a fun Z=>zay 1 i Z Y fun m=>pIdx 1 b a fun aa=>zak 1 false m aa fun ab=>some (ab,m)) (pIdx 1 b a fun ac=>zak 1 false i ac fun ad=>some (ad,i))) (pIdx 1 b a fun ae=>zak 1 false j ae fun af=>some (af,j))) (none)) (some ((e.headD undef),k)))):=by kernel_rfl
noncomputable def za1(R:zag)(d:Value)(a:List Value)(c:Hp):Option Outc:=br (Nat.blt (zbl ((a.drop 2).getD 0 undef)) (zbr ((a.drop 2).getD 0 undef)).size) (zfx orc R d [(.int .i32 (Utf8.decode (zbr ((a.drop 2).getD 0 undef)) (zbl ((a.drop 2).getD 0 undef))).1)] c fun e b=>zaa e fun f=>br f (pBin PP .geq Aa (a.getD 1 undef) (.int .i64 0) fun g=>zaa g fun h=>br h (zaS PP Bo [(0,(a.getD 1 undef)),(1,(.int .i64 ((zbl ((a.drop 2).getD 0 undef)):Nat)))] fun i=>zam 2 [.int .i64 0,.int .i64 0] 1 [(0,i)] b fun j k=>zaH 2 16 (a.getD 0 undef) j k fun l m=>pUn .xor (a.getD 1 undef) fun n=>some (.next,[l,n,(.tuple #[.string (zbr ((a.drop 2).getD 0 undef)),.int .i64 (((zbl ((a.drop 2).getD 0 undef))+(Utf8.decode (zbr ((a.drop 2).getD 0 undef)) (zbl ((a.drop 2).getD 0 undef))).2):Nat)])],m)) (some (.next,[(a.getD 0 undef),(a.getD 1 undef),(.tuple #[.string (zbr ((a.drop 2).getD 0 undef)),.int .i64 (((zbl ((a.drop 2).getD 0 undef))+(Utf8.decode (zbr ((a.drop 2).getD 0 undef)) (zbl ((a.drop 2).getD 0 undef))).2):Nat)])],b))) (pBin PP .lss Aa (a.getD 1 undef) (.int .i64 0) fun o=>zaa o fun p=>br p (some (.next,[(a.getD 0 undef),(.int .i64 ((zbl ((a.drop 2).getD 0 undef)):Nat)),(.tuple #[.string (zbr ((a.drop 2).getD 0 undef)),.int .i64 (((zbl ((a.drop 2).getD 0 undef))+(Utf8.decode (zbr ((a.drop 2).getD 0 undef)) (zbl ((a.drop 2).getD 0 undef))).2):Nat)])],b)) (some (.next,[(a.getD 0 undef),(a.getD 1 undef),(.tuple #[.string (zbr ((a.drop 2).getD 0 undef)),.int .i64 (((zbl ((a.drop 2).getD 0 undef))+(Utf8.decode (zbr ((a.drop 2).getD 0 undef)) (zbl ((a.drop 2).getD 0 undef))).2):Nat)])],b)))) (some (.exit 0,[(a.getD 0 undef),(a.getD 1 undef),(.tuple #[.string (zbr ((a.drop 2).getD 0 undef)),.int .i64 ((zbl ((a.drop 2).getD 0 undef)):Nat)])],c))
noncomputable def zbd(R:zag)(d:Value)(e:Value)(f:Value)(g:List Value)(a:List Value)(b:Hp):Option Outc:=pBin PP .lss Aa (a.getD 0 undef) f fun h=>zaa h fun i=>br i (pIdx 2 (g.getD 0 undef) (a.getD 0 undef) fun j=>zak 2 true b j fun k=>zaD 2 [.int .i64 0,.int .i64 0] 0 k fun c=>zae 1 false c 0 fun l=>zae 1 false c 1 fun m=>zbo d (some l) (some m) fun n=>pIdx 1 e (a.getD 0 undef) fun o=>zay 1 b o n fun p=>pBin PP .add Aa (a.getD 0 undef) (.int .i64 1) fun q=>some (.next,[q],p)) (some (.exit 2,[(a.getD 0 undef)],b))
theorem zgM(R:zag)(b f:Value)(g:Hp):zdP R b f g =
za6 2 16 [.int .i64 0,.int .i64 0] (.int .i64 0) (.int .i64 32) g fun l m=>zla b fun s3=>zav (zas (za1 R f) [l,(.int .i64 (-1)),(.tuple #[.string s3,.int .i64 (0:Nat)])] m) fun n a c=>zaB n none (fun o=>zax o 0 (zav (pBin PP .geq Aa (a.getD 1 undef) (.int .i64 0) fun p=>zaa p fun q=>br q (pLen .str b c fun r=>zaS PP Bo [(0,(a.getD 1 undef)),(1,r)] fun s=>zam 2 [.int .i64 0,.int .i64 0] 1 [(0,s)] c fun t u=>zaH 2 16 (a.getD 0 undef) t u fun v w=>some (.next,[v],w)) (some (.next,[(a.getD 0 undef)],c))) fun x d e=>zaB x (pLen .sl (d.getD 0 undef) e fun h=>za6 1 16 [.string ⟨#[]⟩] h h e fun i j=>pLen .sl (d.getD 0 undef) j fun y=>zav (zas (zbd R b i y d) [(.int .i64 0)] j) fun z A k=>zaB z none (fun B=>zax B 2 (some (i,k)) (none)) (some ((A.headD undef),k))) (fun C=>none) (some ((d.headD undef),e))) (none)) (some ((a.headD undef),c)):=by kernel_rfl
noncomputable def za3(R:zag)(e:Value)(f:Value)(b:Value)(a:List Value)(c:Hp):Option Outc:=pBin PP .lss Aa (a.getD 0 undef) f fun g=>zaa g fun h=>br h (zat 2 b fun i=>zat 3 b fun j=>zat 4 b fun k=>zaS PP Cv [(0,i),(1,j),(2,k)] fun l=>zeh 3 false 1 l (a.getD 0 undef) fun d=>zbI R BV [e] c (fun m n=>some (.ret,[(W0 m)],n)) fun o p=>pNil d (zay 1 p d o fun q=>pBin PP .add Aa (a.getD 0 undef) (.int .i64 1) fun r=>some (.next,[r],q))) (some (.exit 1,[(a.getD 0 undef)],c))
theorem zig(R:zag)(a:Value)(k:Hp):zeI R a k =
zbI R Aq [a] k (fun x y=>some ((W0 x),y)) fun z A=>zbI R BU [z] A (fun B C=>some ((W0 B),C)) fun D E=>zaS PP Ah [(0,D)] fun F=>zfj [.int .i64 0,.int .i64 0,.int .i64 0,.int .i64 0,.int .i64 0,.int .u64 0,.string ⟨#[]⟩] E fun b G=>zay 7 G b F fun g=>zav (zat 0 b fun H=>zak 1 false g H fun l=>pBin PP .eql Aa l (.int .i64 3) fun I=>zaa I fun J=>br J (zbI R Ao [a] g (fun K L=>some (.ret,[(W0 K)],L)) fun M N=>zat 1 b fun O=>zay 1 N O M fun P=>zbI R Aq [a] P (fun Q S=>some (.ret,[(W0 Q)],S)) fun T U=>zad R AR [T] U fun m n=>zah m 0 fun V=>zah m 1 fun W=>pBin PP .neq Am W (.int .i64 0) fun X=>zaa X fun Y=>br Y (zaS PP Ae [(0,(.int .i64 3))] fun Z=>some (.ret,[(W0 (.iface Ae Z))],n)) (zat 5 b fun aa=>zay 1 n aa V fun ab=>some (.next,[],ab))) (pBin PP .eql Aa l (.int .i64 4) fun ac=>zaa ac fun ad=>br ad (zbI R Aq [a] g (fun ae af=>some (.ret,[(W0 ae)],af)) fun ag ah=>zat 6 b fun ai=>zay 1 ah ai ag fun aj=>zbI R Ao [a] aj (fun ak al=>some (.ret,[(W0 ak)],al)) fun am ao=>zat 1 b fun ap=>zay 1 ao ap am fun aq=>some (.next,[],aq)) (some (.next,[],g)))) fun ar au h=>zaB ar (zat 0 b fun av=>zak 1 false h av fun aw=>zad R Ay [aw] h fun ax ay=>zav (zas (za3 R a ax b) [(.int .i64 0)] ay) fun az ba f=>zaB az none (fun bb=>zax bb 1 (zav (zat 0 b fun bc=>zak 1 false f bc fun d=>pBin PP .eql Aa d (.int .i64 31) fun bd=>zaa bd fun be=>br be (zbI R Ao [a] f (fun bf bg=>some (.ret,[(W0 bf)],bg)) fun bh bi=>zan .u64 bh fun bj=>zat 5 b fun bk=>zay 1 bi bk bj fun bl=>zbI R Ao [a] bl (fun bm bn=>some (.ret,[(W0 bm)],bn)) fun bo bp=>zat 1 b fun bq=>zay 1 bp bq bo fun bs=>some (.next,[],bs)) (zav (pBin PP .eql Aa d (.int .i64 32) fun bt=>zaa bt fun bu=>br bu (some (.next,[(.bool true)],f)) (pBin PP .eql Aa d (.int .i64 33) fun bv=>some (.next,[bv],f))) fun bw o c=>zaB bw (zaa (o.getD 0 undef) fun bx=>br bx (zbI R Ao [a] c (fun bz ca=>some (.ret,[(W0 bz)],ca)) fun cb cc=>zat 1 b fun cd=>zay 1 cc cd cb fun ce=>some (.next,[],ce)) (pBin PP .eql Aa d (.int .i64 14) fun cf=>zaa cf fun cg=>br cg (pNil a (zat 0 a fun ch=>zak 1 false c ch fun ci=>zat 3 b fun cj=>zak 1 false c cj fun ck=>zad R Al [ci,ck] c fun cl cm=>zat 1 b fun cn=>zay 1 cm cn cl fun co=>some (.next,[],co))) (pBin PP .eql Aa d (.int .i64 30) fun cp=>zaa cp fun cq=>br cq (pNil a (zat 0 a fun cr=>zak 1 false c cr fun cs=>zat 2 b fun ct=>zak 1 false c ct fun cu=>zad R Al [cs,cu] c fun cv i=>pNil a (zat 0 a fun p=>zak 1 false i p fun q=>chk (Hp.rdP c p 1 false=some q) (zat 3 b fun r=>zak 1 false i r fun s=>chk (Hp.rdP c r 1 false=some s) (zad R Al [q,s] i fun cw cx=>pBin PP .add Aa cv cw fun cy=>pMM false [cy,(.int .i64 65)] fun cz=>zat 1 b fun da=>zay 1 cx da cz fun j=>zat 1 b fun db=>zak 1 false j db fun dc=>pBin PP .gtr Aa dc (.int .i64 64) fun dd=>zaa dd fun de=>br de (zat 1 b fun df=>zay 1 j df (.int .i64 0) fun dg=>some (.next,[],dg)) (some (.next,[],j))))))) (pBin PP .geq Aa d (.int .i64 15) fun dh=>zaa dh fun di=>br di (pBin PP .leq Aa d (.int .i64 29) fun dj=>zaa dj fun dk=>br dk (pNil a (zat 0 a fun dl=>zak 1 false c dl fun dm=>zat 2 b fun dn=>zak 1 false c dn fun dp=>zad R Al [dm,dp] c fun dq dr=>zat 1 b fun ds=>zay 1 dr ds dq fun dt=>some (.next,[],dt))) (some (.next,[],c))) (some (.next,[],c)))))) (fun t=>zax t 3 (some (.next,[],c)) (some (.exit t,[],c))) (some (.ret,[(o.headD undef)],c)))) fun du dv e=>zaB du (pNil a (zat 1 a fun dw=>zak 1 false e dw fun dx=>pLen .sl dx e fun dy=>pBin PP .gtr Aa dy (.int .i64 0) fun dz=>zaa dz fun ea=>br ea (zaS PP Ae [(0,(.int .i64 3))] fun eb=>some ((W0 (.iface Ae eb)),e)) (pNil a (zat 0 a fun ec=>zak 1 false e ec fun ed=>zak 7 true e b fun ee=>zad R AL [ed,ee] e fun u v=>zah u 0 fun ef=>zah u 1 fun w=>pBin PP .neq Am w (.int .i64 0) fun eg=>zaa eg fun eh=>br eh (zaS PP Ae [(0,w)] fun ei=>some ((W0 (.iface Ae ei)),v)) (some ((W1 ef),v)))))) (fun ej=>none) (some ((dv.headD undef),e))) (none)) (some ((ba.headD undef),f))) (fun ek=>none) (some ((au.headD undef),h)):=by kernel_rfl
noncomputable def zar(R:zag)(c:Value)(a:List Value)(b:Hp):Option Outc:=pLen .str c b fun d=>pBin PP .leq Aa (a.getD 2 undef) d fun e=>zaa e fun f=>br f (pLen .str c b fun g=>pBin PP .lss Aa (a.getD 2 undef) g fun h=>zaa h fun i=>br i (zbn c (a.getD 2 undef) fun j=>pBin PP .neq Ad j (.int .u8 32) fun k=>zaa k fun l=>br l (pBin PP .lss Aa (a.getD 1 undef) (.int .i64 0) fun m=>zaa m fun n=>br n (pBin PP .add Aa (a.getD 2 undef) (.int .i64 1) fun o=>some (.next,[(a.getD 0 undef),(a.getD 2 undef),o],b)) (pBin PP .add Aa (a.getD 2 undef) (.int .i64 1) fun p=>some (.next,[(a.getD 0 undef),(a.getD 1 undef),p],b))) (pBin PP .geq Aa (a.getD 1 undef) (.int .i64 0) fun q=>zaa q fun r=>br r (zbo c (some (a.getD 1 undef)) (some (a.getD 2 undef)) fun s=>zam 1 [.string ⟨#[]⟩] 1 [(0,s)] b fun t u=>zaH 1 16 (a.getD 0 undef) t u fun v w=>pBin PP .add Aa (a.getD 2 undef) (.int .i64 1) fun x=>some (.next,[v,(.int .i64 (-1)),x],w)) (pBin PP .add Aa (a.getD 2 undef) (.int .i64 1) fun y=>some (.next,[(a.getD 0 undef),(.int .i64 (-1)),y],b)))) (pBin PP .geq Aa (a.getD 1 undef) (.int .i64 0) fun z=>zaa z fun A=>br A (zbo c (some (a.getD 1 undef)) (some (a.getD 2 undef)) fun B=>zam 1 [.string ⟨#[]⟩] 1 [(0,B)] b fun C D=>zaH 1 16 (a.getD 0 undef) C D fun E F=>pBin PP .add Aa (a.getD 2 undef) (.int .i64 1) fun G=>some (.next,[E,(.int .i64 (-1)),G],F)) (pBin PP .add Aa (a.getD 2 undef) (.int .i64 1) fun H=>some (.next,[(a.getD 0 undef),(.int .i64 (-1)),H],b)))) (some (.exit 0,[(a.getD 0 undef),(a.getD 1 undef),(a.getD 2 undef)],b))
theorem zgP(R:zag)(a:Value)(b:Hp):zdS R a b =
zav (zas (zar R a) [(.slice none 0 0),(.int .i64 (-1)),(.int .i64 0)] b) fun e c d=>zaB e none (fun f=>zax f 0 (some ((c.getD 0 undef),d)) (none)) (some ((c.headD undef),d)):=by kernel_rfl
noncomputable def zaK(R:zag)(e:Value)(f:Value)(a:List Value)(c:Hp):Option Outc:=pLen .sl e c fun g=>pBin PP .lss Aa (a.getD 1 undef) g fun h=>zaa h fun i=>br i (pIdx 1 e (a.getD 1 undef) fun j=>zak 1 false c j fun k=>zad R Bb [k] c fun d b=>pBin PP .lss Aa d (.int .i64 1) fun l=>zaa l fun m=>br m (some (.ret,[(.tuple #[(.slice none 0 0),(.bool false)])],b)) (pLen .sl f b fun n=>pBin PP .gtr Aa d n fun o=>zaa o fun p=>br p (some (.ret,[(.tuple #[(.slice none 0 0),(.bool false)])],b)) (pBin PP .sub Aa d (.int .i64 1) fun q=>pIdx 1 f q fun r=>zak 1 false b r fun s=>zam 1 [.int .i64 0] 1 [(0,s)] b fun t u=>zaH 1 8 (a.getD 0 undef) t u fun v w=>pBin PP .add Aa (a.getD 1 undef) (.int .i64 1) fun x=>some (.next,[v,x],w)))) (some (.exit 0,[(a.getD 0 undef),(a.getD 1 undef)],c))
theorem zgQ(R:zag)(a b:Value)(c:Hp):zdU R a b c =
zav (zas (zaK R a b) [(.slice none 0 0),(.int .i64 0)] c) fun f d e=>zaB f none (fun g=>zax g 0 (some ((.tuple #[(d.getD 0 undef),(.bool true)]),e)) (none)) (some ((d.headD undef),e)):=by kernel_rfl
noncomputable def zbk(R:zag)(f:Value)(a:List Value)(b:Hp):Option Outc:=pBin PP .leq Aa (a.getD 0 undef) (.int .i64 33) fun g=>zaa g fun h=>br h (zad R BC [(a.getD 0 undef)] b fun i c=>pIdx 1 f (.int .i64 1) fun d=>zak 1 false c d fun e=>chk (Hp.rdP b d 1 false=some e) (pBin PP .eql Ac i e fun j=>zaa j fun k=>br k (zaD 1 (zab ((a.drop 1).getD 0 undef)) 0 (a.getD 0 undef) fun l=>pBin PP .add Aa (a.getD 0 undef) (.int .i64 1) fun m=>some (.next,[m,(.agg l.toArray)],c)) (pBin PP .add Aa (a.getD 0 undef) (.int .i64 1) fun n=>some (.next,[n,(.agg (zab ((a.drop 1).getD 0 undef)).toArray)],c)))) (some (.exit 0,[(a.getD 0 undef),(.agg (zab ((a.drop 1).getD 0 undef)).toArray)],b))
noncomputable def zaP(R:zag)(j:Value)(f:Value)(l:Value)(a:List Value)(g:Hp):Option Outc:=pLen .str l g fun o=>pBin PP .lss Aa (a.getD 1 undef) o fun p=>zaa p fun q=>br q (pBin PP .add Aa (a.getD 1 undef) (.int .i64 2) fun r=>pIdx 1 j r fun s=>zak 1 false g s fun t=>zad R Bb [t] g fun d b=>zbn l (a.getD 1 undef) fun h=>pBin PP .eql Ad h (.int .u8 112) fun u=>zaa u fun v=>br v (zav (pBin PP .lss Aa d (.int .i64 1) fun w=>zaa w fun x=>br x (zae 7 true (zab ((a.drop 2).getD 1 undef)) 0 fun y=>zaD 7 (zab ((a.drop 2).getD 0 undef)) 0 y fun z=>zae 7 true z 0 fun A=>some (.ret,[(.tuple #[A,(.bool false)])],b)) (pLen .sl f b fun B=>pBin PP .gtr Aa d B fun C=>zaa C fun D=>br D (zae 7 true (zab ((a.drop 2).getD 1 undef)) 0 fun E=>zaD 7 (zab ((a.drop 2).getD 0 undef)) 0 E fun F=>zae 7 true F 0 fun G=>some (.ret,[(.tuple #[G,(.bool false)])],b)) (some (.next,[(.agg (zab ((a.drop 2).getD 0 undef)).toArray)],b)))) fun H e c=>zaB H (pBin PP .eql Aa (a.getD 0 undef) (.int .i64 0) fun I=>zaa I fun J=>br J (pBin PP .sub Aa d (.int .i64 1) fun K=>pIdx 1 f K fun L=>zak 1 false c L fun M=>zaD 1 (zab ((a.drop 2).getD 1 undef)) 2 M fun N=>pBin PP .add Aa (a.getD 0 undef) (.int .i64 1) fun O=>pBin PP .add Aa (a.getD 1 undef) (.int .i64 1) fun P=>some (.next,[O,P,(.agg (zab ((e.drop 0).getD 0 undef)).toArray),(.agg N.toArray)],c)) (pBin PP .eql Aa (a.getD 0 undef) (.int .i64 1) fun Q=>zaa Q fun S=>br S (pBin PP .sub Aa d (.int .i64 1) fun T=>pIdx 1 f T fun U=>zak 1 false c U fun V=>zaD 1 (zab ((a.drop 2).getD 1 undef)) 3 V fun W=>pBin PP .add Aa (a.getD 0 undef) (.int .i64 1) fun X=>pBin PP .add Aa (a.getD 1 undef) (.int .i64 1) fun Y=>some (.next,[X,Y,(.agg (zab ((e.drop 0).getD 0 undef)).toArray),(.agg W.toArray)],c)) (pBin PP .sub Aa d (.int .i64 1) fun Z=>pIdx 1 f Z fun aa=>zak 1 false c aa fun ab=>zaD 1 (zab ((a.drop 2).getD 1 undef)) 4 ab fun ac=>pBin PP .add Aa (a.getD 0 undef) (.int .i64 1) fun ad=>pBin PP .add Aa (a.getD 1 undef) (.int .i64 1) fun ae=>some (.next,[ad,ae,(.agg (zab ((e.drop 0).getD 0 undef)).toArray),(.agg ac.toArray)],c)))) (fun k=>zax k 4 (pBin PP .add Aa (a.getD 1 undef) (.int .i64 1) fun af=>some (.next,[(a.getD 0 undef),af,(.agg (zab ((e.drop 0).getD 0 undef)).toArray),(.agg (zab ((a.drop 2).getD 1 undef)).toArray)],c)) (zax k 3 (pBin PP .add Aa (a.getD 1 undef) (.int .i64 1) fun ag=>some (.next,[(a.getD 0 undef),ag,(.agg (zab ((e.drop 0).getD 0 undef)).toArray),(.agg (zab ((a.drop 2).getD 1 undef)).toArray)],c)) (some (.exit k,[(a.getD 0 undef),(a.getD 1 undef),(.agg (zab ((e.drop 0).getD 0 undef)).toArray),(.agg (zab ((a.drop 2).getD 1 undef)).toArray)],c)))) (some (.ret,[(e.headD undef)],c))) (pBin PP .eql Ad h (.int .u8 110) fun ah=>zaa ah fun ai=>br ai (pBin PP .add Aa (a.getD 1 undef) (.int .i64 2) fun aj=>pIdx 1 j aj fun ak=>zak 1 false b ak fun al=>zad R A6 [al] b fun m i=>zah m 0 fun n=>zah m 1 fun am=>pBin PP .neq Am am (.int .i64 0) fun ao=>zaa ao fun ap=>br ap (zae 7 true (zab ((a.drop 2).getD 1 undef)) 0 fun aq=>zaD 7 (zab ((a.drop 2).getD 0 undef)) 0 aq fun ar=>zae 7 true ar 0 fun au=>some (.ret,[(.tuple #[au,(.bool false)])],i)) (zae 1 false (zab ((a.drop 2).getD 1 undef)) 0 fun av=>pBin PP .neq Aa av (.int .i64 3) fun aw=>zaa aw fun ax=>br ax (pBin PP .lss Aa d (.int .i64 0) fun ay=>zaa ay fun az=>br az (zae 7 true (zab ((a.drop 2).getD 1 undef)) 0 fun ba=>zaD 7 (zab ((a.drop 2).getD 0 undef)) 0 ba fun bb=>zae 7 true bb 0 fun bc=>some (.ret,[(.tuple #[bc,(.bool false)])],i)) (zaD 1 (zab ((a.drop 2).getD 1 undef)) 5 n fun bd=>pBin PP .add Aa (a.getD 1 undef) (.int .i64 1) fun be=>some (.next,[(a.getD 0 undef),be,(.agg (zab ((a.drop 2).getD 0 undef)).toArray),(.agg bd.toArray)],i))) (zaD 1 (zab ((a.drop 2).getD 1 undef)) 5 n fun bf=>pBin PP .add Aa (a.getD 1 undef) (.int .i64 1) fun bg=>some (.next,[(a.getD 0 undef),bg,(.agg (zab ((a.drop 2).getD 0 undef)).toArray),(.agg bf.toArray)],i)))) (pBin PP .eql Ad h (.int .u8 119) fun bh=>zaa bh fun bi=>br bi (pBin PP .lss Aa d (.int .i64 0) fun bj=>zaa bj fun bk=>br bk (zae 7 true (zab ((a.drop 2).getD 1 undef)) 0 fun bl=>zaD 7 (zab ((a.drop 2).getD 0 undef)) 0 bl fun bm=>zae 7 true bm 0 fun bn=>some (.ret,[(.tuple #[bn,(.bool false)])],b)) (zaD 1 (zab ((a.drop 2).getD 1 undef)) 1 d fun bo=>pBin PP .add Aa (a.getD 1 undef) (.int .i64 1) fun bp=>some (.next,[(a.getD 0 undef),bp,(.agg (zab ((a.drop 2).getD 0 undef)).toArray),(.agg bo.toArray)],b))) (pBin PP .eql Ad h (.int .u8 115) fun bq=>zaa bq fun bs=>br bs (pBin PP .add Aa (a.getD 1 undef) (.int .i64 2) fun bt=>pIdx 1 j bt fun bu=>zak 1 false b bu fun bv=>zaD 1 (zab ((a.drop 2).getD 1 undef)) 6 bv fun bw=>pBin PP .add Aa (a.getD 1 undef) (.int .i64 1) fun bx=>some (.next,[(a.getD 0 undef),bx,(.agg (zab ((a.drop 2).getD 0 undef)).toArray),(.agg bw.toArray)],b)) (pBin PP .add Aa (a.getD 1 undef) (.int .i64 1) fun bz=>some (.next,[(a.getD 0 undef),bz,(.agg (zab ((a.drop 2).getD 0 undef)).toArray),(.agg (zab ((a.drop 2).getD 1 undef)).toArray)],b)))))) (some (.exit 2,[(a.getD 0 undef),(a.getD 1 undef),(.agg (zab ((a.drop 2).getD 0 undef)).toArray),(.agg (zab ((a.drop 2).getD 1 undef)).toArray)],g))
theorem zhs(R:zag)(b f:Value)(c:Hp):zeo R b f c =
zaS PP Ah [] fun o=>zaD 7 [.int .i64 0,.int .i64 0,.int .i64 0,.int .i64 0,.int .i64 0,.int .u64 0,.string ⟨#[]⟩] 0 o fun g=>zav (pLen .sl b c fun p=>pBin PP .lss Aa p (.int .i64 2) fun q=>zaa q fun r=>br r (zae 7 true g 0 fun s=>zaD 7 [.int .i64 0,.int .i64 0,.int .i64 0,.int .i64 0,.int .i64 0,.int .u64 0,.string ⟨#[]⟩] 0 s fun t=>zae 7 true t 0 fun u=>some (.ret,[(.tuple #[u,(.bool false)])],c)) (pIdx 1 b (.int .i64 0) fun v=>zak 1 false c v fun w=>zad R Bb [w] c fun x h=>pLen .sl f h fun y=>pBin PP .add Aa y (.int .i64 1) fun z=>pBin PP .neq Aa x z fun A=>zaa A fun B=>br B (zae 7 true g 0 fun C=>zaD 7 [.int .i64 0,.int .i64 0,.int .i64 0,.int .i64 0,.int .i64 0,.int .u64 0,.string ⟨#[]⟩] 0 C fun D=>zae 7 true D 0 fun E=>some (.ret,[(.tuple #[E,(.bool false)])],h)) (some (.next,[(.agg [.int .i64 0,.int .i64 0,.int .i64 0,.int .i64 0,.int .i64 0,.int .u64 0,.string ⟨#[]⟩].toArray)],h)))) fun F d k=>zaB F (zav (zas (zbk R b) [(.int .i64 1),(.agg g.toArray)] k) fun G a e=>zaB G none (fun H=>zax H 0 (zav (zae 1 false (zab ((a.drop 1).getD 0 undef)) 0 fun I=>pBin PP .eql Aa I (.int .i64 0) fun J=>zaa J fun K=>br K (zae 7 true (zab ((a.drop 1).getD 0 undef)) 0 fun L=>zaD 7 (zab ((d.drop 0).getD 0 undef)) 0 L fun M=>zae 7 true M 0 fun N=>some (.ret,[(.tuple #[N,(.bool false)])],e)) (pLen .sl b e fun O=>pBin PP .sub Aa O (.int .i64 2) fun P=>zae 1 false (zab ((a.drop 1).getD 0 undef)) 0 fun Q=>zad R A9 [Q] e fun S i=>pLen .str S i fun T=>pBin PP .neq Aa P T fun U=>zaa U fun V=>br V (zae 7 true (zab ((a.drop 1).getD 0 undef)) 0 fun W=>zaD 7 (zab ((d.drop 0).getD 0 undef)) 0 W fun X=>zae 7 true X 0 fun Y=>some (.ret,[(.tuple #[Y,(.bool false)])],i)) (some (.next,[(.agg (zab ((d.drop 0).getD 0 undef)).toArray)],i)))) fun Z l m=>zaB Z (zae 1 false (zab ((a.drop 1).getD 0 undef)) 0 fun aa=>zad R A9 [aa] m fun ab ac=>zav (zas (zaP R b f ab) [(.int .i64 0),(.int .i64 0),(.agg (zab ((l.drop 0).getD 0 undef)).toArray),(.agg (zab ((a.drop 1).getD 0 undef)).toArray)] ac) fun ad j n=>zaB ad none (fun ae=>zax ae 2 (zae 7 true (zab ((j.drop 2).getD 1 undef)) 0 fun af=>zaD 7 (zab ((j.drop 2).getD 0 undef)) 0 af fun ag=>zae 7 true ag 0 fun ah=>some ((.tuple #[ah,(.bool true)]),n)) (none)) (some ((j.headD undef),n))) (fun ai=>none) (some ((l.headD undef),m))) (none)) (some ((a.headD undef),e))) (fun aj=>none) (some ((d.headD undef),k)):=by kernel_rfl
noncomputable def zaT(R:zag)(c:Value)(d:List Value)(b:List Value)(a:Hp):Option Outc:=pBin PP .lss Aa (b.getD 0 undef) (d.getD 0 undef) fun e=>zaa e fun f=>br f (pIdx 1 c (b.getD 0 undef) fun g=>zak 1 false a g fun h=>pIdx 1 c (d.getD 0 undef) fun i=>zak 1 false a i fun j=>pBin PP .eql Ac h j fun k=>zaa k fun l=>br l (some (.ret,[(.bool false)],a)) (pBin PP .add Aa (b.getD 0 undef) (.int .i64 1) fun m=>some (.next,[m],a))) (some (.exit 2,[(b.getD 0 undef)],a))
noncomputable def zbe(R:zag)(d:Value)(a:List Value)(b:Hp):Option Outc:=pLen .sl d b fun g=>pBin PP .lss Aa (a.getD 0 undef) g fun h=>zaa h fun i=>br i (pIdx 1 d (a.getD 0 undef) fun j=>zak 1 false b j fun k=>zad R AU [k] b fun l f=>pUn .not l fun m=>zaa m fun n=>br n (some (.ret,[(.bool false)],f)) (zav (zas (zaT R d a) [(.int .i64 0)] f) fun o p c=>zaB o none (fun e=>zax e 2 (pBin PP .add Aa (a.getD 0 undef) (.int .i64 1) fun q=>some (.next,[q],c)) (zax e 1 (pBin PP .add Aa (a.getD 0 undef) (.int .i64 1) fun r=>some (.next,[r],c)) (some (.exit e,[(a.getD 0 undef)],c)))) (some (.ret,[(p.headD undef)],c)))) (some (.exit 0,[(a.getD 0 undef)],b))
theorem zgO(R:zag)(a:Value)(b:Hp):zdR R a b =
zav (zas (zbe R a) [(.int .i64 0)] b) fun d e c=>zaB d none (fun f=>zax f 0 (some ((.bool true),c)) (none)) (some ((e.headD undef),c)):=by kernel_rfl
noncomputable def zbu(R:zag)(c:Value)(g:Value)(h:Value)(i:Value)(a:List Value)(d:Hp):Option Outc:=pBin PP .lss Aa (a.getD 1 undef) i fun j=>zaa j fun k=>br k (zad R Bk [(a.getD 0 undef),c] d fun b e=>pBin PP .lss Aa b (.int .i64 0) fun l=>zaa l fun m=>br m (some (.exit 0,[(a.getD 0 undef),(a.getD 1 undef)],e)) (pBin PP .add Aa b g fun n=>zbo (a.getD 0 undef) none (some n) fun o=>pIdx 1 h (a.getD 1 undef) fun p=>zay 1 e p o fun f=>pLen .str c f fun q=>pBin PP .add Aa b q fun r=>zbo (a.getD 0 undef) (some r) none fun s=>pBin PP .add Aa (a.getD 1 undef) (.int .i64 1) fun t=>some (.next,[s,t],f))) (some (.exit 0,[(a.getD 0 undef),(a.getD 1 undef)],d))
theorem zih(R:zag)(a d i b:Value)(c:Hp):zeK R a d i b c =
pBin PP .eql Aa b (.int .i64 0) fun l=>zaa l fun m=>br m (some ((.slice none 0 0),c)) (pBin PP .eql Ac d (.string ⟨#[]⟩) fun n=>zaa n fun o=>br o (zad R CK [a,b] c fun p q=>some (p,q)) (zav (pBin PP .lss Aa b (.int .i64 0) fun r=>zaa r fun s=>br s (zad R BO [a,d] c fun t u=>pBin PP .add Aa t (.int .i64 1) fun v=>some (.next,[v],u)) (some (.next,[b],c))) fun w j f=>zaB w (pLen .str a f fun x=>pBin PP .add Aa x (.int .i64 1) fun y=>pMM false [(j.getD 0 undef),y] fun g=>za6 1 16 [.string ⟨#[]⟩] g g f fun h z=>pBin PP .sub Aa g (.int .i64 1) fun A=>zav (zas (zbu R d i h A) [a,(.int .i64 0)] z) fun B e k=>zaB B none (fun C=>zax C 0 (pIdx 1 h (e.getD 1 undef) fun D=>zay 1 k D (e.getD 0 undef) fun E=>pBin PP .add Aa (e.getD 1 undef) (.int .i64 1) fun F=>zcf 1 h none (some F) fun G=>some (G,E)) (none)) (some ((e.headD undef),k))) (fun H=>none) (some ((j.headD undef),f)))):=by kernel_rfl
noncomputable def zbF(R:zag)(a:List Value)(b:Hp):Option Outc:=br (Nat.blt (zbl ((a.drop 0).getD 0 undef)) (zbr ((a.drop 0).getD 0 undef)).size) (pBin PP .eql Ai (.int .i32 (Utf8.decode (zbr ((a.drop 0).getD 0 undef)) (zbl ((a.drop 0).getD 0 undef))).1) (.int .i32 95) fun c=>zaa c fun d=>br d (some (.ret,[(.tuple #[(.int .u64 0),(.int .i64 10)])],b)) (pBin PP .eql Ai (.int .i32 (Utf8.decode (zbr ((a.drop 0).getD 0 undef)) (zbl ((a.drop 0).getD 0 undef))).1) (.int .i32 43) fun e=>zaa e fun f=>br f (some (.ret,[(.tuple #[(.int .u64 0),(.int .i64 10)])],b)) (pBin PP .eql Ai (.int .i32 (Utf8.decode (zbr ((a.drop 0).getD 0 undef)) (zbl ((a.drop 0).getD 0 undef))).1) (.int .i32 45) fun g=>zaa g fun h=>br h (some (.ret,[(.tuple #[(.int .u64 0),(.int .i64 10)])],b)) (some (.next,[(.tuple #[.string (zbr ((a.drop 0).getD 0 undef)),.int .i64 (((zbl ((a.drop 0).getD 0 undef))+(Utf8.decode (zbr ((a.drop 0).getD 0 undef)) (zbl ((a.drop 0).getD 0 undef))).2):Nat)])],b))))) (some (.exit 0,[(.tuple #[.string (zbr ((a.drop 0).getD 0 undef)),.int .i64 ((zbl ((a.drop 0).getD 0 undef)):Nat)])],b))
theorem zmI(R:zag)(a:Value)(b:Hp):zie R a b =
zad R Ck [a,(.string ⟨#[48,120]⟩)] b fun c d=>zah c 0 fun e=>zah c 1 fun k=>zav (zaa k fun l=>br l (some (.next,[(.int .i64 16)],d)) (some (.next,[(.int .i64 10)],d))) fun m f g=>zaB m (zla e fun s10=>zav (zas (zbF R) [(.tuple #[.string s10,.int .i64 (0:Nat)])] g) fun n o h=>zaB n none (fun p=>zax p 0 (zad R BN [e,(f.getD 0 undef),(.int .i64 64)] h fun i j=>zah i 0 fun q=>zah i 1 fun r=>zfH PP .neq Bm r fun s=>zaa s fun t=>br t (some ((.tuple #[(.int .u64 0),(.int .i64 10)]),j)) (some ((.tuple #[q,(.int .i64 0)]),j))) (none)) (some ((o.headD undef),h))) (fun u=>none) (some ((f.headD undef),g)):=by kernel_rfl
noncomputable def zaW(R:zag)(c:Value)(d:Value)(e:Value)(a:List Value)(b:Hp):Option Outc:=pBin PP .lss Aa (a.getD 1 undef) d fun f=>zaa f fun g=>br g (pIdx 1 e (a.getD 1 undef) fun h=>zak 1 false b h fun i=>pBin PP .gtr Aa (a.getD 1 undef) (.int .i64 0) fun j=>zaa j fun k=>br k (pBin PP .eql Ac i c fun l=>zaa l fun m=>br m (some (.ret,[(W1 (a.getD 1 undef))],b)) (pBin PP .add Aa (a.getD 1 undef) (.int .i64 1) fun n=>some (.next,[(a.getD 0 undef),n],b))) (pBin PP .add Aa (a.getD 1 undef) (.int .i64 1) fun o=>some (.next,[(a.getD 0 undef),o],b))) (some (.exit 0,[(a.getD 0 undef),(a.getD 1 undef)],b))
theorem zjn(R:zag)(a:Value)(b:Hp):zfJ R a b =
zad R Co [] b fun c d=>pLen .sl c d fun f=>zav (zas (zaW R a f c) [(.int .i64 0),(.int .i64 0)] d) fun g h e=>zaB g none (fun i=>zax i 0 (zaS PP Ae [(0,(.int .i64 3))] fun j=>some ((W0 (.iface Ae j)),e)) (none)) (some ((h.headD undef),e)):=by kernel_rfl
noncomputable def zaG(R:zag)(f:Value)(b:List Value)(a:List Value)(c:Hp):Option Outc:=pLen .str f c fun g=>pBin PP .lss Aa (a.getD 0 undef) g fun h=>zaa h fun i=>br i (zbn f (a.getD 0 undef) fun j=>zad R Ca [j,(b.getD 0 undef)] c fun d e=>pBin PP .lss Aa d (.int .i64 0) fun k=>zaa k fun l=>br l (some (.ret,[(.tuple #[(.int .u64 0),(.int .i64 10)])],e)) (zan .u64 d fun m=>pBin PP .sub Ab (.int .u64 18446744073709551615) m fun n=>pBin PP .quo Ab n (b.getD 0 undef) fun o=>pBin PP .gtr Ab (a.getD 1 undef) o fun p=>zaa p fun q=>br q (some (.ret,[(.tuple #[(.int .u64 0),(.int .i64 10)])],e)) (pBin PP .mul Ab (a.getD 1 undef) (b.getD 0 undef) fun r=>zan .u64 d fun s=>pBin PP .add Ab r s fun t=>pBin PP .add Aa (a.getD 0 undef) (.int .i64 1) fun u=>some (.next,[u,t],e)))) (some (.exit 0,[(a.getD 0 undef),(a.getD 1 undef)],c))
theorem zgb(R:zag)(a:Value)(b:Hp):zdx R a b =
zav (pLen .str a b fun g=>pBin PP .geq Aa g (.int .i64 2) fun h=>zaa h fun i=>br i (zbn a (.int .i64 0) fun j=>pBin PP .eql Ad j (.int .u8 48) fun k=>zaa k fun l=>br l (zbn a (.int .i64 1) fun m=>pBin PP .eql Ad m (.int .u8 120) fun n=>zaa n fun o=>br o (some (.next,[(.int .u64 16),(.int .i64 2)],b)) (some (.next,[(.int .u64 10),(.int .i64 0)],b))) (some (.next,[(.int .u64 10),(.int .i64 0)],b))) (some (.next,[(.int .u64 10),(.int .i64 0)],b))) fun p c d=>zaB p (pLen .str a d fun q=>pBin PP .eql Aa (c.getD 1 undef) q fun r=>zaa r fun s=>br s (some ((.tuple #[(.int .u64 0),(.int .i64 10)]),d)) (zav (zas (zaG R a c) [(c.getD 1 undef),(.int .u64 0)] d) fun t e f=>zaB t none (fun u=>zax u 0 (some ((.tuple #[(e.getD 1 undef),(.int .i64 0)]),f)) (none)) (some ((e.headD undef),f)))) (fun v=>none) (some ((c.headD undef),d)):=by kernel_rfl
noncomputable def zbq(R:zag)(c:Value)(d:Value)(k:Value)(e:Value)(a:List Value)(b:Hp):Option Outc:=pBin PP .geq Aa (a.getD 1 undef) (.int .i64 0) fun l=>zaa l fun m=>br m (zav (pBin PP .eql Aa c (.int .i64 25) fun n=>zaa n fun o=>br o (pBin PP .sub Aa (a.getD 1 undef) e fun p=>some (.next,[p],b)) (pBin PP .eql Aa c (.int .i64 26) fun q=>zaa q fun r=>br r (pBin PP .add Aa (a.getD 1 undef) e fun h=>pBin PP .geq Aa h d fun s=>zaa s fun t=>br t (some (.next,[(.int .i64 (-1))],b)) (some (.next,[h],b))) (pBin PP .eql Aa c (.int .i64 27) fun u=>zaa u fun v=>br v (pBin PP .add Aa (a.getD 1 undef) e fun w=>pBin PP .sub Aa d (.int .i64 1) fun x=>pMM false [w,x] fun y=>some (.next,[y],b)) (pBin PP .eql Aa c (.int .i64 28) fun z=>zaa z fun A=>br A (pBin PP .sub Aa (a.getD 1 undef) e fun B=>pBin PP .add Aa B d fun C=>pBin PP .rem Aa C d fun D=>some (.next,[D],b)) (pBin PP .eql Aa c (.int .i64 29) fun E=>zaa E fun F=>br F (pBin PP .add Aa (a.getD 1 undef) e fun G=>pBin PP .rem Aa G d fun H=>some (.next,[H],b)) (some (.next,[(a.getD 1 undef)],b))))))) fun I g f=>zaB I (pBin PP .mul Ab (.int .u64 2) (a.getD 0 undef) fun i=>pBin PP .geq Aa (g.getD 0 undef) (.int .i64 0) fun J=>zaa J fun K=>br K (zad R AV [k,(g.getD 0 undef)] f fun L M=>pBin PP .add Ab i L fun N=>pBin PP .sub Aa (a.getD 1 undef) (.int .i64 1) fun O=>some (.next,[N,O],M)) (pBin PP .sub Aa (a.getD 1 undef) (.int .i64 1) fun P=>some (.next,[i,P],f))) (fun j=>zax j 1 (pBin PP .sub Aa (a.getD 1 undef) (.int .i64 1) fun Q=>some (.next,[(a.getD 0 undef),Q],f)) (some (.exit j,[(a.getD 0 undef),(a.getD 1 undef)],f))) (some (.ret,[(g.headD undef)],f))) (some (.exit 0,[(a.getD 0 undef),(a.getD 1 undef)],b))
theorem zgR(R:zag)(b a c d:Value)(e:Hp):zdX R b a c d e =
pBin PP .sub Aa a (.int .i64 1) fun h=>zav (zas (zbq R b a c d) [(.int .u64 0),h] e) fun i f g=>zaB i none (fun j=>zax j 0 (some ((f.getD 0 undef),g)) (none)) (some ((f.headD undef),g)):=by kernel_rfl
noncomputable def zaU(R:zag)(r:Value)(f:Value)(s:Value)(t:Value)(i:List Value)(u:List Value)(a:List Value)(g:Hp):Option Outc:=pBin PP .lss Aa (a.getD 2 undef) t fun v=>zaa v fun w=>br w (pIdx 1 s (a.getD 2 undef) fun x=>zak 1 false g x fun b=>zav (zav (pBin PP .eql Ad b (.int .u8 95) fun y=>zaa y fun z=>br z (some (.next,[r],g)) (some (.next,[(.bool false)],g))) fun A j d=>zaB A (zaa (j.getD 0 undef) fun B=>br B (some (.exit 4,[(.bool true),(.int .u8 0)],d)) (pBin PP .leq Ad (.int .u8 48) b fun C=>zaa C fun D=>br D (pBin PP .leq Ad b (.int .u8 57) fun E=>zaa E fun F=>br F (pBin PP .sub Ad b (.int .u8 48) fun G=>some (.next,[(a.getD 0 undef),G],d)) (zad R At [b] d fun H k=>pBin PP .leq Ad (.int .u8 97) H fun I=>zaa I fun J=>br J (zad R At [b] k fun K l=>pBin PP .leq Ad K (.int .u8 122) fun L=>zaa L fun M=>br M (zad R At [b] l fun N O=>pBin PP .sub Ad N (.int .u8 97) fun P=>pBin PP .add Ad P (.int .u8 10) fun Q=>some (.next,[(a.getD 0 undef),Q],O)) (some (.ret,[(.tuple #[(.int .u64 0),(.iface Aj (.int .i64 2))])],l))) (some (.ret,[(.tuple #[(.int .u64 0),(.iface Aj (.int .i64 2))])],k)))) (zad R At [b] d fun S m=>pBin PP .leq Ad (.int .u8 97) S fun T=>zaa T fun U=>br U (zad R At [b] m fun V n=>pBin PP .leq Ad V (.int .u8 122) fun W=>zaa W fun X=>br X (zad R At [b] n fun Y Z=>pBin PP .sub Ad Y (.int .u8 97) fun aa=>pBin PP .add Ad aa (.int .u8 10) fun ab=>some (.next,[(a.getD 0 undef),ab],Z)) (some (.ret,[(.tuple #[(.int .u64 0),(.iface Aj (.int .i64 2))])],n))) (some (.ret,[(.tuple #[(.int .u64 0),(.iface Aj (.int .i64 2))])],m))))) (fun o=>zax o 5 (some (.next,[(a.getD 0 undef),(.int .u8 0)],d)) (some (.exit o,[(a.getD 0 undef),(.int .u8 0)],d))) (some (.ret,[(j.headD undef)],d))) fun ac e c=>zaB ac (zan .u8 (i.getD 1 undef) fun ad=>pBin PP .geq Ad (e.getD 1 undef) ad fun ae=>zaa ae fun af=>br af (some (.ret,[(.tuple #[(.int .u64 0),(.iface Aj (.int .i64 2))])],c)) (pBin PP .geq Ab (a.getD 1 undef) (u.getD 0 undef) fun ag=>zaa ag fun ah=>br ah (some (.ret,[(.tuple #[f,(.iface Aj (.int .i64 1))])],c)) (zan .u64 (i.getD 1 undef) fun ai=>pBin PP .mul Ab (a.getD 1 undef) ai fun p=>zan .u64 (e.getD 1 undef) fun aj=>pBin PP .add Ab p aj fun h=>pBin PP .lss Ab h p fun ak=>zaa ak fun al=>br al (some (.ret,[(.tuple #[f,(.iface Aj (.int .i64 1))])],c)) (pBin PP .gtr Ab h f fun am=>zaa am fun ao=>br ao (some (.ret,[(.tuple #[f,(.iface Aj (.int .i64 1))])],c)) (pBin PP .add Aa (a.getD 2 undef) (.int .i64 1) fun ap=>some (.next,[(e.getD 0 undef),h,ap],c)))))) (fun q=>zax q 4 (pBin PP .add Aa (a.getD 2 undef) (.int .i64 1) fun aq=>some (.next,[(e.getD 0 undef),(a.getD 1 undef),aq],c)) (some (.exit q,[(e.getD 0 undef),(a.getD 1 undef),(a.getD 2 undef)],c))) (some (.ret,[(e.headD undef)],c))) (some (.exit 3,[(a.getD 0 undef),(a.getD 1 undef),(a.getD 2 undef)],g))
theorem zcu(R:zag)(a c g:Value)(i:Hp):zcs R a c g i =
pBin PP .eql Ac a (.string ⟨#[]⟩) fun z=>zaa z fun A=>br A (some ((.tuple #[(.int .u64 0),(.iface Aj (.int .i64 2))]),i)) (pBin PP .eql Aa c (.int .i64 0) fun B=>zav (zav (pBin PP .leq Aa (.int .i64 2) c fun C=>zaa C fun D=>br D (pBin PP .leq Aa c (.int .i64 36) fun E=>some (.next,[E],i)) (some (.next,[(.bool false)],i))) fun F o b=>zaB F (zaa (o.getD 0 undef) fun G=>br G (some (.next,[a,c],b)) (pBin PP .eql Aa c (.int .i64 0) fun H=>zaa H fun I=>br I (zbn a (.int .i64 0) fun J=>pBin PP .eql Ad J (.int .u8 48) fun K=>zaa K fun L=>br L (zav (pLen .str a b fun M=>pBin PP .geq Aa M (.int .i64 3) fun N=>zaa N fun O=>br O (zbn a (.int .i64 1) fun P=>zad R At [P] b fun Q S=>pBin PP .eql Ad Q (.int .u8 98) fun T=>some (.next,[T],S)) (some (.next,[(.bool false)],b))) fun U p d=>zaB U (zaa (p.getD 0 undef) fun V=>br V (zbo a (some (.int .i64 2)) none fun W=>some (.next,[W,(.int .i64 2)],d)) (zav (pLen .str a d fun X=>pBin PP .geq Aa X (.int .i64 3) fun Y=>zaa Y fun Z=>br Z (zbn a (.int .i64 1) fun aa=>zad R At [aa] d fun ab ac=>pBin PP .eql Ad ab (.int .u8 111) fun ad=>some (.next,[ad],ac)) (some (.next,[(.bool false)],d))) fun ae q e=>zaB ae (zaa (q.getD 0 undef) fun af=>br af (zbo a (some (.int .i64 2)) none fun ag=>some (.next,[ag,(.int .i64 8)],e)) (pLen .str a e fun ah=>pBin PP .geq Aa ah (.int .i64 3) fun ai=>zaa ai fun aj=>br aj (zbn a (.int .i64 1) fun ak=>zad R At [ak] e fun al r=>pBin PP .eql Ad al (.int .u8 120) fun am=>zaa am fun ao=>br ao (zbo a (some (.int .i64 2)) none fun ap=>some (.next,[ap,(.int .i64 16)],r)) (zbo a (some (.int .i64 1)) none fun aq=>some (.next,[aq,(.int .i64 8)],r))) (zbo a (some (.int .i64 1)) none fun ar=>some (.next,[ar,(.int .i64 8)],e)))) (fun l=>zax l 1 (some (.next,[a,(.int .i64 10)],e)) (zax l 0 (some (.next,[a,(.int .i64 10)],e)) (some (.exit l,[a,(.int .i64 10)],e)))) (some (.ret,[(q.headD undef)],e)))) (fun m=>zax m 1 (some (.next,[a,(.int .i64 10)],d)) (zax m 0 (some (.next,[a,(.int .i64 10)],d)) (some (.exit m,[a,(.int .i64 10)],d)))) (some (.ret,[(p.headD undef)],d))) (some (.next,[a,(.int .i64 10)],b))) (some (.ret,[(.tuple #[(.int .u64 0),(.iface Aj (.int .i64 3))])],b)))) (fun s=>zax s 0 (some (.next,[a,c],b)) (some (.exit s,[a,c],b))) (some (.ret,[(o.headD undef)],b))) fun au f h=>zaB au (zav (pBin PP .eql Aa g (.int .i64 0) fun av=>zaa av fun aw=>br aw (some (.next,[(.int .i64 64)],h)) (pBin PP .lss Aa g (.int .i64 0) fun ax=>zaa ax fun ay=>br ay (some (.ret,[(.tuple #[(.int .u64 0),(.iface Aj (.int .i64 4))])],h)) (pBin PP .gtr Aa g (.int .i64 64) fun az=>zaa az fun ba=>br ba (some (.ret,[(.tuple #[(.int .u64 0),(.iface Aj (.int .i64 4))])],h)) (some (.next,[g],h))))) fun bb t j=>zaB bb (zav (pBin PP .eql Aa (f.getD 1 undef) (.int .i64 10) fun bc=>zaa bc fun bd=>br bd (some (.next,[(.int .u64 1844674407370955162)],j)) (pBin PP .eql Aa (f.getD 1 undef) (.int .i64 16) fun be=>zaa be fun bf=>br bf (some (.next,[(.int .u64 1152921504606846976)],j)) (zan .u64 (f.getD 1 undef) fun bg=>pBin PP .quo Ab (.int .u64 18446744073709551615) bg fun bh=>pBin PP .add Ab bh (.int .u64 1) fun bi=>some (.next,[bi],j)))) fun bj u v=>zaB bj (zan .u64 (t.getD 0 undef) fun bk=>pBin PP .shl Ab (.int .u64 1) bk fun bl=>pBin PP .sub Ab bl (.int .u64 1) fun bm=>zd7 (f.getD 0 undef) v fun w x=>pLen .sl w x fun bn=>zav (zas (zaU R B bm w bn f u) [(.bool false),(.int .u64 0),(.int .i64 0)] x) fun bo k n=>zaB bo none (fun bp=>zax bp 3 (zaa (k.getD 0 undef) fun bq=>br bq (zad R CD [a] n fun bs y=>pUn .not bs fun bt=>zaa bt fun bu=>br bu (some ((.tuple #[(.int .u64 0),(.iface Aj (.int .i64 2))]),y)) (some ((.tuple #[(k.getD 1 undef),.nilIface]),y))) (some ((.tuple #[(k.getD 1 undef),.nilIface]),n))) (none)) (some ((k.headD undef),n))) (fun bv=>none) (some ((u.headD undef),v))) (fun bw=>none) (some ((t.headD undef),j))) (fun bx=>none) (some ((f.headD undef),h))):=by kernel_rfl
end Go.AM
namespace Go.AM
open Go
def HS(P:Program)(F:Nat→Option AObj):Hp:=⟨P.globals.size,fun i=>if i<P.globals.size then F i else none,fun _=>none⟩
def isInt:Value→Bool
 |.int _ _=>true
 |_=>false
theorem isInt_rel{β:Bt}{v:Value}(h:isInt v=true):VRel β v v:=by
 unfold isInt at h;split at h
 ·exact .int _ _
 ·cases h
theorem relStart{P:Program}{W:World}(h:P.globals.size≤W.heap.size){F:Nat→Option AObj}
  (hF:∀i o,F i=some o→(∃q,o=.fix q∧W.heap[i]?=some q)∨(∃cs,o=.cells cs false∧∀(j:Nat) v,cs[j]?=some v→isInt v=true∧W.cell? ⟨i,j,none⟩=some v)) :
  Rel P W (HS P F) (B00 P)∧(∀i o,(HS P F).get i=some o→o.own=false):=by
 have key:∀i o,(HS P F).get i=some o→i<P.globals.size∧F i=some o:=fun i o hi=>by
  have hi:(if i<P.globals.size then F i else none)=some o:=hi;split at hi
  ·exact⟨by assumption,hi⟩
  ·cases hi
 have hno:∀i o,(HS P F).get i=some o→o.own=false:=fun i o hi=>by rcases hF i o (key i o hi).2 with⟨q,rfl,_⟩|⟨cs,rfl,_⟩<;>rfl
 refine⟨⟨fun i cs own hi=>?_,fun i kv hi=>?_,fun i j o o' x y _ hi _ ho=>?_,fun i hi=>⟨?_,by unfold B00;rw[if_neg (by have:P.globals.size≤i:=hi;omega)]⟩,
  fun i x hx=>(by unfold B00 at hx;split at hx<;>cases hx;show i<_;omega),fun g hg=>⟨0,by unfold B00;rw[if_pos hg]⟩,fun i o hi=>?_,fun i T hi=>(by cases hi)⟩,hno⟩
 ·obtain⟨h1,h2⟩:=key i _ hi;rcases hF i _ h2 with⟨q,e,_⟩|⟨cs',e,hc⟩
  ·cases e
  ·cases e;refine⟨⟨i,0,0⟩,by unfold B00;rw[if_pos h1],fun j v hv=>?_,fun q=>by cases q⟩;obtain⟨c1,c2⟩:=hc j v hv;exact⟨v,by rw[Nat.zero_add];exact c2,isInt_rel c1⟩
 ·obtain⟨h1,h2⟩:=key i _ hi;rcases hF i _ h2 with⟨q,e,_⟩|⟨cs',e,hc⟩<;>cases e
 ·rw[hno i o hi]at ho;cases ho
 ·show (if i<P.globals.size then F i else none)=none;have:P.globals.size≤i:=hi;rw[if_neg (by omega)]
 ·obtain⟨h1,h2⟩:=key i _ hi;rcases hF i _ h2 with⟨q,e,hq⟩|⟨cs',e,hc⟩
  ·cases e;exact⟨⟨i,0,0⟩,by unfold B00;rw[if_pos h1],rfl,hq⟩
  ·cases e
end Go.AM
namespace Go.Proofs
open Go.Shelf
def Tryz.laysM246_ren:Go.Shelf.Ren:=⟨fun|246=>131|283=>150|284=>151|285=>152|286=>153|129=>164|317=>163|318=>165|319=>166|320=>167|337=>182|338=>183|n=>n,fun|2=>2|3=>3|9=>9|4=>4|171=>223|0=>0|53=>38|37=>119|5=>5|173=>225|212=>235|51=>207|20=>20|213=>236|46=>63|232=>265|233=>266|n=>n,fun|17=>3|18=>9|19=>10|n=>n⟩
theorem Tryz.laysM246:Go.Proofs.LaysM.n246 Tryz.prog Tryz.laysM246_ren:={
 mixed:=by kernel_rfl
 f129:=Tryz.func164.trans (congrArg some (by kernel_rfl))
 f246:=Tryz.func131.trans (congrArg some (by kernel_rfl))
 f283:=Tryz.func150.trans (congrArg some (by kernel_rfl))
 f284:=Tryz.func151.trans (congrArg some (by kernel_rfl))
 f285:=Tryz.func152.trans (congrArg some (by kernel_rfl))
 f286:=Tryz.func153.trans (congrArg some (by kernel_rfl))
 f317:=Tryz.func163.trans (congrArg some (by kernel_rfl))
 f318:=Tryz.func165.trans (congrArg some (by kernel_rfl))
 f319:=Tryz.func166.trans (congrArg some (by kernel_rfl))
 f320:=Tryz.func167.trans (congrArg some (by kernel_rfl))
 f337:=Tryz.func182.trans (congrArg some (by kernel_rfl))
 f338:=Tryz.func183.trans (congrArg some (by kernel_rfl))
 t0:=Tryz.underlying0
 a0:=Tryz.isAgg0
 z0:=Tryz.sizeOf0
 v0:=Tryz.zeroValue0
 t2:=Tryz.underlying2
 a2:=Tryz.isAgg2
 z2:=Tryz.sizeOf2
 v2:=Tryz.zeroValue2
 t3:=Tryz.underlying3
 a3:=Tryz.isAgg3
 z3:=Tryz.sizeOf3
 v3:=Tryz.zeroValue3
 t4:=Tryz.underlying4
 a4:=Tryz.isAgg4
 z4:=Tryz.sizeOf4
 v4:=Tryz.zeroValue4
 t5:=Tryz.underlying5
 a5:=Tryz.isAgg5
 z5:=Tryz.sizeOf5
 v5:=Tryz.zeroValue5
 t9:=Tryz.underlying9
 a9:=Tryz.isAgg9
 z9:=Tryz.sizeOf9
 v9:=Tryz.zeroValue9
 t20:=Tryz.underlying20
 a20:=Tryz.isAgg20
 z20:=Tryz.sizeOf20
 v20:=Tryz.zeroValue20
 t37:=Tryz.underlying119
 a37:=Tryz.isAgg119
 z37:=Tryz.sizeOf119
 v37:=Tryz.zeroValue119
 t46:=Tryz.underlying63
 a46:=Tryz.isAgg63
 z46:=Tryz.sizeOf63
 v46:=Tryz.zeroValue63
 t51:=Tryz.underlying207
 a51:=Tryz.isAgg207
 z51:=Tryz.sizeOf207
 v51:=Tryz.zeroValue207
 t53:=Tryz.underlying38
 a53:=Tryz.isAgg38
 z53:=Tryz.sizeOf38
 v53:=Tryz.zeroValue38
 t171:=Tryz.underlying223
 a171:=Tryz.isAgg223
 z171:=Tryz.sizeOf223
 v171:=Tryz.zeroValue223
 t173:=Tryz.underlying225
 a173:=Tryz.isAgg225
 z173:=Tryz.sizeOf225
 v173:=Tryz.zeroValue225
 t212:=Tryz.underlying235
 a212:=Tryz.isAgg235
 z212:=Tryz.sizeOf235
 v212:=Tryz.zeroValue235
 t213:=Tryz.underlying236
 a213:=Tryz.isAgg236
 z213:=Tryz.sizeOf236
 t232:=Tryz.underlying265
 a232:=Tryz.isAgg265
 z232:=Tryz.sizeOf265
 v232:=Tryz.zeroValue265
 t233:=Tryz.underlying266
 a233:=Tryz.isAgg266
 z233:=Tryz.sizeOf266
 v233:=Tryz.zeroValue266
 g17:=by kernel_rfl
 g18:=by kernel_rfl
 g19:=by kernel_rfl
 i0:=by kernel_rfl
 i2:=by kernel_rfl
 i3:=by kernel_rfl
 i4:=by kernel_rfl
 i5:=by kernel_rfl
 i9:=by kernel_rfl
 i20:=by kernel_rfl
 i37:=by kernel_rfl
 i46:=by kernel_rfl
 i51:=by kernel_rfl
 i53:=by kernel_rfl
 i171:=by kernel_rfl
 i173:=by kernel_rfl
 i212:=by kernel_rfl
 i232:=by kernel_rfl
 i233:=by kernel_rfl
 m17:=by kernel_rfl
 m18:=by kernel_rfl
 m19:=by kernel_rfl }
open Go.RowKit Go.Sort Go.Lib in
theorem Tryz.internal_strconv_FormatInt_10(n:Int)(h0:-9223372036854775808≤n)(h1:n≤9223372036854775807)(w:World)(htab:Lib.TabIs Tryz.prog w "internal/strconv.uint64pow10" .u64 Lib.pow10Tab) :
  Calls Tryz.prog 131 #[.int .i64 n,.int .i64 10] w fun e w'=>e=.returned (.string ⟨(Lib.itoa n).toArray⟩)∧∃k os,w'=grow (w.drewN k) os:=Any.internal_strconv_FormatInt_10 Tryz.laysM246 n h0 h1 w htab
def Tryz.laysC245_ren:Go.Shelf.Ren:=⟨fun|245=>161|279=>178|280=>179|281=>180|282=>181|316=>186|171=>59|205=>187|243=>98|246=>131|283=>150|284=>151|285=>152|286=>153|129=>164|317=>163|318=>165|319=>166|320=>167|337=>182|338=>183|n=>n,fun|9=>9|3=>3|75=>114|167=>249|4=>4|168=>251|210=>263|37=>119|0=>0|127=>171|145=>269|143=>267|2=>2|171=>223|53=>38|5=>5|173=>225|212=>235|51=>207|20=>20|213=>236|46=>63|232=>265|233=>266|80=>128|n=>n,fun|15=>7|16=>8|17=>3|18=>9|19=>10|n=>n⟩
theorem Tryz.laysC245:Go.Proofs.LaysC.n245 Tryz.prog Tryz.laysC245_ren:={
 mixed:=by kernel_rfl
 f129:=Tryz.func164.trans (congrArg some (by kernel_rfl))
 f171:=Tryz.func59.trans (congrArg some (by kernel_rfl))
 f205:=Tryz.func187.trans (congrArg some (by kernel_rfl))
 f243:=Tryz.func98.trans (congrArg some (by kernel_rfl))
 f245:=Tryz.func161.trans (congrArg some (by kernel_rfl))
 f246:=Tryz.func131.trans (congrArg some (by kernel_rfl))
 f279:=Tryz.func178.trans (congrArg some (by kernel_rfl))
 f280:=Tryz.func179.trans (congrArg some (by kernel_rfl))
 f281:=Tryz.func180.trans (congrArg some (by kernel_rfl))
 f282:=Tryz.func181.trans (congrArg some (by kernel_rfl))
 f283:=Tryz.func150.trans (congrArg some (by kernel_rfl))
 f284:=Tryz.func151.trans (congrArg some (by kernel_rfl))
 f285:=Tryz.func152.trans (congrArg some (by kernel_rfl))
 f286:=Tryz.func153.trans (congrArg some (by kernel_rfl))
 f316:=Tryz.func186.trans (congrArg some (by kernel_rfl))
 f317:=Tryz.func163.trans (congrArg some (by kernel_rfl))
 f318:=Tryz.func165.trans (congrArg some (by kernel_rfl))
 f319:=Tryz.func166.trans (congrArg some (by kernel_rfl))
 f320:=Tryz.func167.trans (congrArg some (by kernel_rfl))
 f337:=Tryz.func182.trans (congrArg some (by kernel_rfl))
 f338:=Tryz.func183.trans (congrArg some (by kernel_rfl))
 t0:=Tryz.underlying0
 a0:=Tryz.isAgg0
 z0:=Tryz.sizeOf0
 v0:=Tryz.zeroValue0
 t2:=Tryz.underlying2
 a2:=Tryz.isAgg2
 z2:=Tryz.sizeOf2
 v2:=Tryz.zeroValue2
 t3:=Tryz.underlying3
 a3:=Tryz.isAgg3
 z3:=Tryz.sizeOf3
 v3:=Tryz.zeroValue3
 t4:=Tryz.underlying4
 a4:=Tryz.isAgg4
 z4:=Tryz.sizeOf4
 v4:=Tryz.zeroValue4
 t5:=Tryz.underlying5
 a5:=Tryz.isAgg5
 z5:=Tryz.sizeOf5
 v5:=Tryz.zeroValue5
 t9:=Tryz.underlying9
 a9:=Tryz.isAgg9
 z9:=Tryz.sizeOf9
 v9:=Tryz.zeroValue9
 t20:=Tryz.underlying20
 a20:=Tryz.isAgg20
 z20:=Tryz.sizeOf20
 v20:=Tryz.zeroValue20
 t37:=Tryz.underlying119
 a37:=Tryz.isAgg119
 z37:=Tryz.sizeOf119
 v37:=Tryz.zeroValue119
 t46:=Tryz.underlying63
 a46:=Tryz.isAgg63
 z46:=Tryz.sizeOf63
 v46:=Tryz.zeroValue63
 t51:=Tryz.underlying207
 a51:=Tryz.isAgg207
 z51:=Tryz.sizeOf207
 v51:=Tryz.zeroValue207
 t53:=Tryz.underlying38
 a53:=Tryz.isAgg38
 z53:=Tryz.sizeOf38
 v53:=Tryz.zeroValue38
 t75:=Tryz.underlying114
 a75:=Tryz.isAgg114
 z75:=Tryz.sizeOf114
 v75:=Tryz.zeroValue114
 t127:=Tryz.underlying171
 a127:=Tryz.isAgg171
 z127:=Tryz.sizeOf171
 v127:=Tryz.zeroValue171
 t143:=Tryz.underlying267
 a143:=Tryz.isAgg267
 z143:=Tryz.sizeOf267
 v143:=Tryz.zeroValue267
 t145:=Tryz.underlying269
 a145:=Tryz.isAgg269
 z145:=Tryz.sizeOf269
 v145:=Tryz.zeroValue269
 t167:=Tryz.underlying249
 a167:=Tryz.isAgg249
 z167:=Tryz.sizeOf249
 v167:=Tryz.zeroValue249
 t168:=Tryz.underlying251
 a168:=Tryz.isAgg251
 z168:=Tryz.sizeOf251
 v168:=Tryz.zeroValue251
 t171:=Tryz.underlying223
 a171:=Tryz.isAgg223
 z171:=Tryz.sizeOf223
 v171:=Tryz.zeroValue223
 t173:=Tryz.underlying225
 a173:=Tryz.isAgg225
 z173:=Tryz.sizeOf225
 v173:=Tryz.zeroValue225
 t210:=Tryz.underlying263
 a210:=Tryz.isAgg263
 z210:=Tryz.sizeOf263
 v210:=Tryz.zeroValue263
 t212:=Tryz.underlying235
 a212:=Tryz.isAgg235
 z212:=Tryz.sizeOf235
 v212:=Tryz.zeroValue235
 t213:=Tryz.underlying236
 a213:=Tryz.isAgg236
 z213:=Tryz.sizeOf236
 t232:=Tryz.underlying265
 a232:=Tryz.isAgg265
 z232:=Tryz.sizeOf265
 v232:=Tryz.zeroValue265
 t233:=Tryz.underlying266
 a233:=Tryz.isAgg266
 z233:=Tryz.sizeOf266
 v233:=Tryz.zeroValue266
 g15:=by kernel_rfl
 g16:=by kernel_rfl
 g17:=by kernel_rfl
 g18:=by kernel_rfl
 g19:=by kernel_rfl
 t80:=Tryz.underlying128
 a80:=Tryz.isAgg128
 z80:=Tryz.sizeOf128
 v80:=Tryz.zeroValue128
 i0:=by kernel_rfl
 i2:=by kernel_rfl
 i3:=by kernel_rfl
 i4:=by kernel_rfl
 i5:=by kernel_rfl
 i9:=by kernel_rfl
 i20:=by kernel_rfl
 i37:=by kernel_rfl
 i46:=by kernel_rfl
 i51:=by kernel_rfl
 i53:=by kernel_rfl
 i75:=by kernel_rfl
 i80:=by kernel_rfl
 i127:=by kernel_rfl
 i143:=by kernel_rfl
 i145:=by kernel_rfl
 i167:=by kernel_rfl
 i168:=by kernel_rfl
 i171:=by kernel_rfl
 i173:=by kernel_rfl
 i210:=by kernel_rfl
 i212:=by kernel_rfl
 i232:=by kernel_rfl
 i233:=by kernel_rfl
 m15:=by kernel_rfl
 m16:=by kernel_rfl
 m17:=by kernel_rfl
 m18:=by kernel_rfl
 m19:=by kernel_rfl
 c0:=by kernel_rfl
 c2:=by kernel_rfl
 c3:=by kernel_rfl
 c4:=by kernel_rfl
 c5:=by kernel_rfl
 c9:=by kernel_rfl
 c20:=by kernel_rfl
 c37:=by kernel_rfl
 c46:=by kernel_rfl
 c51:=by kernel_rfl
 c53:=by kernel_rfl
 c75:=by kernel_rfl
 c80:=by kernel_rfl
 c127:=by kernel_rfl
 c143:=by kernel_rfl
 c145:=by kernel_rfl
 c167:=by kernel_rfl
 c168:=by kernel_rfl
 c171:=by kernel_rfl
 c173:=by kernel_rfl
 c210:=by kernel_rfl
 c212:=by kernel_rfl
 c213:=by kernel_rfl
 c232:=by kernel_rfl
 c233:=by kernel_rfl }
open Go.RowKit in
theorem Tryz.strconv_toError_syntax(fn s:ByteArray)(base bits:Int)(ev:Value)(w:World)(hlim:s.size≤281474976710656)(hv:w.cell? ⟨7,0,none⟩=some ev)(hev:ev=.nilIface∨∃te pe,ev=.iface te pe) :
  Calls Tryz.prog 161 #[.string fn,.string s,.int .i64 base,.int .i64 bits,.iface 249 (.int .i64 2)] w fun e w'=>∃N,e=.returned (.iface 251 (.pointer (some ⟨N,0,none⟩)))∧w.heap.size≤N∧w'.heap[N]?=some (.cells #[.string fn,.string s,ev] 263 (0,0))∧Below w.heap.size w w':=Any.strconv_toError_syntax Tryz.laysC245 fn s base bits ev w hlim hv hev
open Go.RowKit in
theorem Tryz.strconv_toError_range(fn s:ByteArray)(base bits:Int)(ev:Value)(w:World)(hlim:s.size≤281474976710656)(hv:w.cell? ⟨8,0,none⟩=some ev)(hev:ev=.nilIface∨∃te pe,ev=.iface te pe) :
  Calls Tryz.prog 161 #[.string fn,.string s,.int .i64 base,.int .i64 bits,.iface 249 (.int .i64 1)] w fun e w'=>∃N,e=.returned (.iface 251 (.pointer (some ⟨N,0,none⟩)))∧w.heap.size≤N∧w'.heap[N]?=some (.cells #[.string fn,.string s,ev] 263 (0,0))∧Below w.heap.size w w':=Any.strconv_toError_range Tryz.laysC245 fn s base bits ev w hlim hv hev
def Tryz.laysM157_ren:Go.Shelf.Ren:=⟨fun|157=>99|229=>67|199=>132|261=>154|311=>168|312=>169|n=>n,fun|9=>9|31=>69|3=>3|5=>5|4=>4|119=>196|0=>0|40=>136|152=>173|21=>21|154=>175|51=>207|141=>228|196=>240|193=>237|198=>243|49=>241|194=>238|201=>246|226=>254|46=>63|227=>255|n=>n,fun|0=>1|6=>2|n=>n⟩
theorem Tryz.laysM157:Go.Proofs.LaysM.n157 Tryz.prog Tryz.laysM157_ren:={
 mixed:=by kernel_rfl
 f157:=Tryz.func99.trans (congrArg some (by kernel_rfl))
 f199:=Tryz.func132.trans (congrArg some (by kernel_rfl))
 f229:=Tryz.func67.trans (congrArg some (by kernel_rfl))
 f261:=Tryz.func154.trans (congrArg some (by kernel_rfl))
 f311:=Tryz.func168.trans (congrArg some (by kernel_rfl))
 f312:=Tryz.func169.trans (congrArg some (by kernel_rfl))
 t0:=Tryz.underlying0
 a0:=Tryz.isAgg0
 z0:=Tryz.sizeOf0
 v0:=Tryz.zeroValue0
 t3:=Tryz.underlying3
 a3:=Tryz.isAgg3
 z3:=Tryz.sizeOf3
 v3:=Tryz.zeroValue3
 t4:=Tryz.underlying4
 a4:=Tryz.isAgg4
 z4:=Tryz.sizeOf4
 v4:=Tryz.zeroValue4
 t5:=Tryz.underlying5
 a5:=Tryz.isAgg5
 z5:=Tryz.sizeOf5
 v5:=Tryz.zeroValue5
 t9:=Tryz.underlying9
 a9:=Tryz.isAgg9
 z9:=Tryz.sizeOf9
 v9:=Tryz.zeroValue9
 t21:=Tryz.underlying21
 a21:=Tryz.isAgg21
 z21:=Tryz.sizeOf21
 v21:=Tryz.zeroValue21
 t31:=Tryz.underlying69
 a31:=Tryz.isAgg69
 z31:=Tryz.sizeOf69
 v31:=Tryz.zeroValue69
 t40:=Tryz.underlying136
 a40:=Tryz.isAgg136
 z40:=Tryz.sizeOf136
 v40:=Tryz.zeroValue136
 t46:=Tryz.underlying63
 a46:=Tryz.isAgg63
 z46:=Tryz.sizeOf63
 v46:=Tryz.zeroValue63
 t49:=Tryz.underlying241
 a49:=Tryz.isAgg241
 z49:=Tryz.sizeOf241
 v49:=Tryz.zeroValue241
 t51:=Tryz.underlying207
 a51:=Tryz.isAgg207
 z51:=Tryz.sizeOf207
 v51:=Tryz.zeroValue207
 t119:=Tryz.underlying196
 a119:=Tryz.isAgg196
 z119:=Tryz.sizeOf196
 t141:=Tryz.underlying228
 a141:=Tryz.isAgg228
 z141:=Tryz.sizeOf228
 v141:=Tryz.zeroValue228
 t152:=Tryz.underlying173
 a152:=Tryz.isAgg173
 z152:=Tryz.sizeOf173
 v152:=Tryz.zeroValue173
 t154:=Tryz.underlying175
 a154:=Tryz.isAgg175
 z154:=Tryz.sizeOf175
 v154:=Tryz.zeroValue175
 t193:=Tryz.underlying237
 a193:=Tryz.isAgg237
 z193:=Tryz.sizeOf237
 v193:=Tryz.zeroValue237
 t194:=Tryz.underlying238
 a194:=Tryz.isAgg238
 z194:=Tryz.sizeOf238
 v194:=Tryz.zeroValue238
 t196:=Tryz.underlying240
 a196:=Tryz.isAgg240
 z196:=Tryz.sizeOf240
 v196:=Tryz.zeroValue240
 t198:=Tryz.underlying243
 a198:=Tryz.isAgg243
 z198:=Tryz.sizeOf243
 v198:=Tryz.zeroValue243
 t201:=Tryz.underlying246
 a201:=Tryz.isAgg246
 z201:=Tryz.sizeOf246
 v201:=Tryz.zeroValue246
 t226:=Tryz.underlying254
 a226:=Tryz.isAgg254
 z226:=Tryz.sizeOf254
 v226:=Tryz.zeroValue254
 t227:=Tryz.underlying255
 a227:=Tryz.isAgg255
 z227:=Tryz.sizeOf255
 v227:=Tryz.zeroValue255
 g0:=by kernel_rfl
 g6:=by kernel_rfl
 i0:=by kernel_rfl
 i3:=by kernel_rfl
 i4:=by kernel_rfl
 i5:=by kernel_rfl
 i9:=by kernel_rfl
 i21:=by kernel_rfl
 i31:=by kernel_rfl
 i40:=by kernel_rfl
 i46:=by kernel_rfl
 i49:=by kernel_rfl
 i51:=by kernel_rfl
 i141:=by kernel_rfl
 i152:=by kernel_rfl
 i154:=by kernel_rfl
 i193:=by kernel_rfl
 i194:=by kernel_rfl
 i196:=by kernel_rfl
 i198:=by kernel_rfl
 i201:=by kernel_rfl
 i226:=by kernel_rfl
 i227:=by kernel_rfl
 m0:=by kernel_rfl
 m6:=by kernel_rfl }
open Go.RowKit Go.Lib in
theorem Tryz.strings_Fields_laid(s:ByteArray)(w:World)(hs:s.size<4294967281)(hascii:∀(j:Nat) b,s.data.toList[j]?=some b→b.toNat<128)(htab:Lib.TabIs Tryz.prog w "strings.asciiSpace" .u8 Lib.asciiSpaceTab) :
  Calls Tryz.prog 99 #[.string s] w fun e w'=>
   e=.returned (.slice (some ⟨w.heap.size,0,none⟩) (Lib.fields s.data.toList).length (Lib.fields s.data.toList).length)∧w'=w.alloc (.cells ((Lib.fields s.data.toList).map fun l=>Value.string ⟨l.toArray⟩).toArray 9):=Any.strings_Fields_laid Tryz.laysM157 s w hs hascii htab
end Go.Proofs
