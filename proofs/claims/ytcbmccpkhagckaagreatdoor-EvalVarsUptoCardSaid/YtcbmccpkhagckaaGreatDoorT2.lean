/- Part of the proof of EvalVarsUptoCardSaid: see the last file.  -/
import Derived.Deep.DeepHandedRow
import Derived.Laws.Externs
import Derived.Lib.Bytealg
import Derived.KernelRfl
import Derived.Test.YtcbmccpkhagckaaGreatDoorProg
import Derived.Test.YtcbmccpkhagckaaGreatDoorT0
import Derived.Test.YtcbmccpkhagckaaGreatDoorT1
set_option linter.unusedSimpArgs false
set_option linter.unusedVariables false
set_option linter.unusedSectionVars false
set_option maxRecDepth 100000
namespace Go.AM
open Go
section
variable {α:Type} {P:Program}
theorem q_conv (kd k2:IntKind) (a:Int) (k:Value→Option α):zaq kd (.int k2 a) k=k (.int kd (kd.wrap a)):=rfl
theorem q_wrap {k:IntKind} {n:Int} (h1:k.min≤n) (h2:n≤k.max):k.wrap n=n:=by cases k<;>simp[IntKind.wrap,IntKind.min,IntKind.max,IntKind.signed,IntKind.bits] at * <;> omega
theorem q_u64 {x:Int} (h1:0≤x) (h2:x≤18446744073709551615):IntKind.u64.wrap x=x:=q_wrap (by have:IntKind.u64.min=0:=rfl;omega) (by have:IntKind.u64.max=18446744073709551615:=rfl;omega)
theorem q_quo (T:TypeId) (a b:Nat) (hb:b≠0) (ha:a<18446744073709551616) (k:Value→Option α):pBin P .quo T (.int .u64 (a:Int)) (.int .u64 (b:Int)) k=k (.int .u64 ((a/b:Nat):Int)):=by
 have hb':¬ (b:Int)=0:=by omega
 have h1:((a:Int).tdiv (b:Int))=((a/b:Nat):Int):=rfl;have h2:a/b≤a:=Nat.div_le_self a b;have h3:IntKind.u64.wrap ((a/b:Nat):Int)=((a/b:Nat):Int):=by clear h1;generalize a/b=q at h2;exact q_u64 (by omega) (by omega)
 have:binV P .quo T (.int .u64 (a:Int)) (.int .u64 (b:Int))=some (.int .u64 ((a/b:Nat):Int)):=by show (if IntKind.u64=IntKind.u64 then zeI .quo .u64 (a:Int) (b:Int) else none)=_;rw[if_pos rfl];unfold zeI;dsimp only;rw[if_neg hb',h1,h3]
 unfold pBin;rw[this]
theorem q_at (s:ByteArray) (i:Nat) (b:UInt8) (h:s.data.toList[i]?=some b) (k:Value→Option α):zbe (.string s) (.int .i64 (i:Int)) k=k (.int .u8 (b.toNat:Int)):=by
 have hi:i<s.data.toList.length:=(List.getElem?_eq_some_iff.1 h).1;have hb:s[i]?=some b:=by
  have h1:s.data[i]?=some b:=by rw[←h];simp
  obtain⟨h2,h3⟩:=Array.getElem?_eq_some_iff.1 h1;have h4:i<s.size:=h2;rw[getElem?_pos s i h4];exact congrArg some h3
 have:zoz s (i:Int)=some (.int .u8 (b.toNat:Int)):=by unfold zoz;rw[if_pos (by omega),Int.toNat_natCast,hb];rfl
 unfold zbe;dsimp only;rw[this]
end
end Go.AM
namespace Go.AM
open Go
def wv (b:BitVec 64):Value:=.int .u64 (b.toNat:Int)
section
variable {α:Type} {P:Program}
theorem zfj (a:BitVec 64):BitVec.ofInt 64 (a.toNat:Int)=a:=by rw[BitVec.ofInt_natCast,BitVec.ofNat_toNat,BitVec.setWidth_eq]
theorem zj6 (a:BitVec 64):IntKind.u64.wrap (a.toNat:Int)=(a.toNat:Int):=q_u64 (by omega) (by have:=a.isLt;omega)
theorem zeC (x:Int):Value.int .u64 (IntKind.u64.wrap x)=wv (BitVec.ofInt 64 x):=by unfold wv;congr 1;rw[BitVec.toNat_ofInt];simp[IntKind.wrap,IntKind.signed,IntKind.bits];omega
theorem zqn {op:BinOp} {T:TypeId} {a b c:BitVec 64} {k:Value→Option α} (h:zeI op .u64 (a.toNat:Int) (b.toNat:Int)=some (wv c)) (hop:op≠.shl∧op≠.shr):pBin P op T (wv a) (wv b) k=k (wv c):=by
 have:binV P op T (wv a) (wv b)=some (wv c):=by rw[←h];unfold wv binV;cases op<;>first|rfl | (exact absurd rfl hop.1) | (exact absurd rfl hop.2)
 unfold pBin;rw[this]
theorem zpB {op:BinOp} {T:TypeId} {a b:BitVec 64} {c:Bool} {k:Value→Option α} (h:zeI op .u64 (a.toNat:Int) (b.toNat:Int)=some (.bool c)) (hop:op≠.shl∧op≠.shr):pBin P op T (wv a) (wv b) k=k (.bool c):=by
 have:binV P op T (wv a) (wv b)=some (.bool c):=by rw[←h];unfold wv binV;cases op<;>first|rfl | (exact absurd rfl hop.1) | (exact absurd rfl hop.2)
 unfold pBin;rw[this]
variable (T:TypeId) (a b:BitVec 64) (k:Value→Option α)
theorem b_and:pBin P .and T (wv a) (wv b) k=k (wv (a&&&b)):=zqn (by
 show some (Value.int .u64 (IntKind.u64.wrap ((BitVec.ofInt 64 (a.toNat:Int))&&&(BitVec.ofInt 64 (b.toNat:Int))).toNat))=_
 rw[zfj,zfj,zj6];rfl) ⟨by decide,by decide⟩
theorem b_or:pBin P .or T (wv a) (wv b) k=k (wv (a|||b)):=zqn (by
 show some (Value.int .u64 (IntKind.u64.wrap ((BitVec.ofInt 64 (a.toNat:Int))|||(BitVec.ofInt 64 (b.toNat:Int))).toNat))=_
 rw[zfj,zfj,zj6];rfl) ⟨by decide,by decide⟩
theorem b_xor:pBin P .xor T (wv a) (wv b) k=k (wv (a ^^^ b)):=zqn (by
 show some (Value.int .u64 (IntKind.u64.wrap ((BitVec.ofInt 64 (a.toNat:Int)) ^^^ (BitVec.ofInt 64 (b.toNat:Int))).toNat))=_
 rw[zfj,zfj,zj6];rfl) ⟨by decide,by decide⟩
theorem b_not:pUn .xor (wv a) k=k (wv (~~~a)):=by
 have:unV .xor (wv a)=some (wv (~~~a)):=by
  show some (Value.int .u64 (IntKind.u64.wrap ((BitVec.ofInt 64 (IntKind.u64.max)) ^^^ (BitVec.ofInt 64 (a.toNat:Int))).toNat))=_;rw[zfj,zj6];have:BitVec.ofInt 64 IntKind.u64.max=BitVec.allOnes 64:=by decide
  rw[this,BitVec.allOnes_xor];rfl
 unfold pUn;rw[this]
theorem b_add:pBin P .add T (wv a) (wv b) k=k (wv (a+b)):=zqn (by
 show some (Value.int .u64 (IntKind.u64.wrap ((a.toNat:Int)+b.toNat)))=_;rw[zeC]
 congr 2) ⟨by decide,by decide⟩
theorem b_sub:pBin P .sub T (wv a) (wv b) k=k (wv (a-b)):=zqn (by
 show some (Value.int .u64 (IntKind.u64.wrap ((a.toNat:Int)-b.toNat)))=_;rw[zeC];congr 2;apply BitVec.eq_of_toNat_eq;rw[BitVec.toNat_ofInt,BitVec.toNat_sub];have:=a.isLt;have:=b.isLt
 omega) ⟨by decide,by decide⟩
theorem b_mul:pBin P .mul T (wv a) (wv b) k=k (wv (a*b)):=zqn (by
 show some (Value.int .u64 (IntKind.u64.wrap ((a.toNat:Int)*b.toNat)))=_;rw[zeC]
 congr 2) ⟨by decide,by decide⟩
theorem b_eql:pBin P .eql T (wv a) (wv b) k=k (.bool (decide (a=b))):=zpB (by
 show some (Value.bool ((a.toNat:Int)==b.toNat))=_;congr 2;have e:(a.toNat:Int)=b.toNat↔a=b:=⟨fun h=>BitVec.eq_of_toNat_eq (by omega),fun h=>by rw[h]⟩
 rw[Bool.eq_iff_iff]
 simp[e]) ⟨by decide,by decide⟩
theorem b_neq:pBin P .neq T (wv a) (wv b) k=k (.bool (!decide (a=b))):=zpB (by
 show some (Value.bool ((a.toNat:Int) != b.toNat))=_;congr 2;have e:(a.toNat:Int)=b.toNat↔a=b:=⟨fun h=>BitVec.eq_of_toNat_eq (by omega),fun h=>by rw[h]⟩
 rw[Bool.eq_iff_iff]
 simp[e]) ⟨by decide,by decide⟩
theorem b_lss:pBin P .lss T (wv a) (wv b) k=k (.bool (decide (a.toNat<b.toNat))):=zpB (by
 show some (Value.bool (decide ((a.toNat:Int)<b.toNat)))=_;congr 2
 rw[decide_eq_decide];omega) ⟨by decide,by decide⟩
theorem b_leq:pBin P .leq T (wv a) (wv b) k=k (.bool (decide (a.toNat≤b.toNat))):=zpB (by
 show some (Value.bool (decide ((a.toNat:Int)≤b.toNat)))=_;congr 2
 rw[decide_eq_decide];omega) ⟨by decide,by decide⟩
theorem b_shl (kd:IntKind) (n:Nat):pBin P .shl T (wv a) (.int kd (n:Int)) k=k (wv (a <<< n)):=by
 have:binV P .shl T (wv a) (.int kd (n:Int))=some (wv (a <<< n)):=by
  show (if (n:Int)<0 then none else some (Value.int .u64 (IntKind.u64.wrap ((a.toNat:Int)*2^(min ((n:Int).toNat) 64)))))=_;rw[if_neg (by omega),zeC,Int.toNat_natCast];congr 2;apply BitVec.eq_of_toNat_eq;rw[BitVec.toNat_ofInt,BitVec.toNat_shiftLeft,Nat.shiftLeft_eq];have e:((a.toNat:Int)*2^(min n 64))=((a.toNat*2^(min n 64):Nat):Int):=by push_cast;rfl
  rw[e];have e2:(((a.toNat*2^(min n 64):Nat):Int)%((2^64:Nat):Int)).toNat=a.toNat*2^(min n 64)%2^64:=by omega
  rw[e2];rcases Nat.lt_or_ge n 64 with h|h
  ·rw[Nat.min_eq_left (by omega)]
  ·rw[Nat.min_eq_right h];have:a.toNat*2^n=a.toNat*2^(n-64)*2^64:=by rw[Nat.mul_assoc,←Nat.pow_add];congr 2;omega
   rw[this,Nat.mul_mod_left,Nat.mul_mod_left]
 unfold pBin;rw[this]
theorem b_shr (kd:IntKind) (n:Nat):pBin P .shr T (wv a) (.int kd (n:Int)) k=k (wv (a >>> n)):=by
 have:binV P .shr T (wv a) (.int kd (n:Int))=some (wv (a >>> n)):=by
  show (if (n:Int)<0 then none else some (Value.int .u64 ((a.toNat:Int).fdiv (2^(min ((n:Int).toNat) 64)))))=_;rw[if_neg (by omega),Int.toNat_natCast];unfold wv;congr 2;rw[BitVec.toNat_ushiftRight,Nat.shiftRight_eq_div_pow];have e:((2:Int)^(min n 64))=((2^(min n 64):Nat):Int):=by push_cast;rfl
  rw[e,←Int.ofNat_fdiv];congr 1;rcases Nat.lt_or_ge n 64 with h|h
  ·rw[Nat.min_eq_left (by omega)]
  ·rw[Nat.min_eq_right h,Nat.div_eq_of_lt a.isLt,Nat.div_eq_of_lt (Nat.lt_of_lt_of_le a.isLt (Nat.pow_le_pow_right (by decide) h))]
 unfold pBin;rw[this]
end
end Go.AM
namespace Go.AM
open Go Go.ChangeShapes Go.WideShapes Go.ChangeAt Go.RowKit
theorem zkj {HH:Type} {enc:TypeId × Value→HH} {P:Program} {W:World}:∀ {ts:List TypeId} {vs:List Value} {ds:List (DataW HH)} {ps:List MemPlace},DataW.TrodAll enc P W 0 (fun _=>true) true ts vs ds ps→ds.length=ts.length:=by
 intro ts;induction ts with
 |nil=>intro vs ds ps h;cases vs<;>cases ds<;>first|rfl|exact h.elim
 |cons t ts ih=>intro vs ds ps h;cases vs<;>cases ds<;>first|exact h.elim | (obtain⟨p,q,_,h2,_⟩:=h;simp[ih h2])
theorem zhE {C:Checked} {os:Os} {f:FuncId} {fn:Func} {s:OpenSpec} {HH:Type} {enc:TypeId × Value→HH} {k:(H:Type)→List (DataW H)→Bool} (hk:s.cond=some k) {F:Stop.Interp} {conds:List PathCond} {laid:List (String × DataW Unit)}
  (own:ownKnob C.prog.godebug=none) (started:os.Started) (noInit:C.prog.inits.idxOf? f=none) (hfn:C.prog.funcs[f]?=some fn)
  (witness:∃ (w:World) (tape:Tape) (i:Input),w.os=os∧(w.forCall tape i).Shaped C.prog∧i.vars=[]∧Input.okWide C.prog (w.forCall tape i) .any w.heap.size f i ∧
   s.preRow enc C.prog fn conds false laid (w.forCall tape i).memory i.args∧({}:Assume).holds C.prog (lone (Frame.enter C.prog f i.args .normal) [] (w.forCall tape i)))
  (hl:laidOutB C.prog=true) (hp:∀ t∈fn.params.toList,C.prog.readableRec t=true∧t<C.prog.types.size) (hv:s.vars=[]) {tb:TypeId} (hr:fn.resultTypes = #[tb]) (hb:C.prog.underlying tb=some .bool)
  (hg:C.prog.globals.size=0∨∃ x,(((begin C.prog (fun _ _=>0) default).world.heap[C.prog.globals.size-1]?).bind Obj.row?)=some x)
  (hsp:∀ ds:List (DataW HH),ds.length=fn.params.size→(s.at F).fn HH ds={ results:=[.lit (.bool true)],args:=ds })
  {O:Orc} {ext:Ext1} (hm:C.prog.follows .mixedOrders=true) (he:ExtC C.prog ext)
  (main:∀ (W:World) (base:Nat) (args:Array Value) (ds:List (DataW HH)) (ps:List MemPlace),C.prog.globals.size≤W.heap.size →
   (∀ (j:Nat) t v,fn.params[j]?=some t→args[j]?=some v→Value.okWide C.prog W .any base t v)→DataW.TrodAll enc C.prog W 0 (fun _=>true) true fn.params.toList args.toList ds ps→k HH ds=true→laidMetH C.prog laid W →
   ∃ (H0 H1:Hp) (β:Bt) (xs:List Value),Rel C.prog W H0 β∧(∀ i o,H0.get i=some o→o.own=false)∧LRel β xs args.toList∧run C.prog O ext f xs H0=some (.bool true,H1))
  (hx:XtC C.prog O.xt:=by intro f e h;cases h) (hxf:O.xt f=none:=by rfl) (ho:ExtO O ext:=by intro f _;rfl) (hpf:O.pan f=false:=by rfl) :
  ReturnsInHanded {} C os f .any (s.preRow enc C.prog fn conds false laid) ((s.at F).post enc C.prog fn false true false false):=by
 refine returnsInHanded_of_row own started noInit hfn witness ?_;intro W base args ds gs before hval hw hc hkk _ hL hsh _;have hkk:=hkk k hk;obtain⟨p,q,h1,h2,e,_,_⟩:=id hw;have hgs:gs=[]:=by
  rw[hv] at h2;cases gs with
  |nil=>rfl
  |cons g gs=>exact h2.elim
 subst hgs;rw[List.append_nil] at hkk;obtain⟨H0,H1,β,xs,g1,g2,g3,g4⟩:=main W base args ds p (znC hsh hg) hval h1 hkk hL;refine(znr hm he g1 g2 g3 g4 hx hxf ho hpf).mono fun e W' ⟨h3,h4⟩=>?_;subst h3;have hlen:ds.length=fn.params.size:=by simpa using zkj h1
 exact⟨_,rfl,post_true (s:=s.at F) hl hp hv hr hb hw h4 (by rw[List.append_nil];exact hsp ds hlen)⟩
end Go.AM
namespace Go.AM
open Go
end Go.AM
namespace Go.AM
open Go
def zk4 (l:List Value):Option Value:=
 match l with
 |[.string s,.int .u8 c]=>some (.int .i64 (Go.Lib.indexByte s.data.toList c.toNat.toUInt8))
 |_=>none
def zld (l:List Value):Option Value:=
 match l with
 |[.string s,.int .u8 c]=>some (.int .i64 (Go.Lib.countByte s.data.toList c.toNat.toUInt8:Nat))
 |_=>none
theorem LRel.strInt {β:Bt} {s:ByteArray} {k:IntKind} {c:Int} {l:List Value} (h:LRel β [.string s,.int k c] l):l=[.string s,.int k c]:=by
 obtain⟨h1,h2⟩:=h
 match l,h1 with
 |[x,y],_=>
  have e0:=h2 0 _ x rfl rfl;have e1:=h2 1 _ y rfl rfl;cases e0;cases e1;rfl
theorem idxStr_xt {P:Program} {f:FuncId} {fn:Func} (hf:P.funcs[f]?=some fn) (hname:(fn.name == "runtime.NumGoroutine")=false) (hb:fn.body.isNone=true) (hn:Extern.findNext fn=none) (he:Extern.find fn=some Extern.BytealgIndexByte.indexByte)
  (args:List Value) (v:Value) (h:zk4 args=some v):XT P f args v:=by
 unfold zk4 at h;split at h
 ·rename_i s c;cases h;intro args' β w hl;obtain rfl:=hl.strInt;exact⟨_,.int _ _,by rw[run_callFunc_extern hf hname hb hn he,Go.Lib.run_indexByteString];rfl⟩
 ·cases h
theorem cntStr_xt {P:Program} {f:FuncId} {fn:Func} (hf:P.funcs[f]?=some fn) (hname:(fn.name == "runtime.NumGoroutine")=false) (hb:fn.body.isNone=true) (hn:Extern.findNext fn=none) (he:Extern.find fn=some Extern.BytealgCount.count)
  (args:List Value) (v:Value) (h:zld args=some v):XT P f args v:=by
 unfold zld at h;split at h
 ·rename_i s c;cases h;intro args' β w hl;obtain rfl:=hl.strInt;exact⟨_,.int _ _,by rw[run_callFunc_extern hf hname hb hn he,Go.Lib.run_countString];rfl⟩
 ·cases h
end Go.AM
namespace Go.AM
open Go Go.AM
noncomputable abbrev PP:Program:=Go.Proofs.Tryz.prog
abbrev ET:=FuncId→Option (List Value→Hp→Option (Value × Hp))
abbrev G.strings_asciiSpace:Nat:=1
abbrev G.unicode_White_Space:Nat:=2
abbrev G.internal_strconv_uint64pow10:Nat:=3
abbrev G.internal_bytealg_MaxLen:Nat:=4
abbrev G.utf8_first:Nat:=5
abbrev G.utf8_acceptRanges:Nat:=6
abbrev G.strconv_ErrSyntax:Nat:=7
abbrev G.strconv_ErrRange:Nat:=8
abbrev G.bits_deBruijn32tab:Nat:=9
abbrev G.bits_deBruijn64tab:Nat:=10
abbrev F.a68:FuncId:=84
abbrev F.a69:FuncId:=85
abbrev F.a70:FuncId:=82
abbrev F.a71:FuncId:=87
abbrev F.a43:FuncId:=55
abbrev F.a21:FuncId:=102
abbrev F.a29:FuncId:=117
abbrev F.a72:FuncId:=143
abbrev F.a5:FuncId:=114
abbrev F.a22:FuncId:=115
abbrev F.a73:FuncId:=86
abbrev F.a0:FuncId:=80
abbrev F.a74:FuncId:=83
abbrev F.a44:FuncId:=118
abbrev F.a45:FuncId:=116
abbrev F.a46:FuncId:=5
abbrev F.a47:FuncId:=37
abbrev F.a75:FuncId:=12
abbrev F.a8:FuncId:=15
abbrev F.a48:FuncId:=30
abbrev F.a49:FuncId:=17
abbrev F.a30:FuncId:=16
abbrev F.a31:FuncId:=11
abbrev F.a32:FuncId:=141
abbrev F.a33:FuncId:=113
abbrev F.a34:FuncId:=107
abbrev F.a76:FuncId:=140
abbrev F.a77:FuncId:=90
abbrev F.a78:FuncId:=139
abbrev F.a11:FuncId:=36
abbrev F.a50:FuncId:=73
abbrev F.a51:FuncId:=109
abbrev F.a14:FuncId:=78
abbrev F.a15:FuncId:=43
abbrev F.a1:FuncId:=108
abbrev F.a79:FuncId:=77
abbrev F.a7:FuncId:=91
abbrev F.a80:FuncId:=111
abbrev F.a81:FuncId:=112
abbrev F.a52:FuncId:=105
abbrev F.a82:FuncId:=110
abbrev F.a35:FuncId:=106
abbrev F.a23:FuncId:=76
abbrev F.a36:FuncId:=75
abbrev F.a37:FuncId:=104
abbrev F.a53:FuncId:=74
abbrev F.a16:FuncId:=25
abbrev F.a24:FuncId:=23
abbrev F.a9:FuncId:=24
abbrev F.a54:FuncId:=18
abbrev F.a25:FuncId:=13
abbrev F.a26:FuncId:=20
abbrev F.a83:FuncId:=40
abbrev F.a55:FuncId:=81
abbrev F.a84:FuncId:=47
abbrev F.a56:FuncId:=39
abbrev F.a38:FuncId:=157
abbrev F.a97:FuncId:=173
abbrev F.a39:FuncId:=184
abbrev F.a98:FuncId:=174
abbrev F.a93:FuncId:=172
abbrev F.a99:FuncId:=131
abbrev F.a40:FuncId:=160
abbrev F.a6:FuncId:=176
abbrev F.a94:FuncId:=177
abbrev F.a57:FuncId:=159
abbrev F.a85:FuncId:=175
abbrev F.a86:FuncId:=158
abbrev F.a58:FuncId:=171
abbrev F.a59:FuncId:=138
abbrev F.a41:FuncId:=161
abbrev F.a95:FuncId:=64
abbrev F.a96:FuncId:=97
abbrev F.a60:FuncId:=135
abbrev F.a87:FuncId:=137
abbrev F.a61:FuncId:=99
abbrev F.a17:FuncId:=67
abbrev F.a42:FuncId:=136
abbrev F.a62:FuncId:=65
abbrev F.a100:FuncId:=134
abbrev F.a63:FuncId:=101
abbrev F.a27:FuncId:=35
abbrev F.a64:FuncId:=66
abbrev F.a12:FuncId:=68
abbrev F.a65:FuncId:=26
abbrev F.a88:FuncId:=79
abbrev F.a18:FuncId:=48
abbrev F.a28:FuncId:=31
abbrev F.a13:FuncId:=38
abbrev F.a19:FuncId:=50
abbrev F.a89:FuncId:=94
abbrev F.a2:FuncId:=49
abbrev F.a90:FuncId:=95
abbrev F.a91:FuncId:=60
abbrev F.a66:FuncId:=103
abbrev F.a10:FuncId:=62
abbrev F.a4:FuncId:=69
abbrev F.a20:FuncId:=72
abbrev F.a3:FuncId:=71
abbrev F.a67:FuncId:=70
abbrev F.a92:FuncId:=93
abbrev F.a101:FuncId:=155
abbrev T.a20_uint64:TypeId:=235
abbrev T.a256_uint8:TypeId:=196
abbrev T.a34_string:TypeId:=203
abbrev T.a3_int:TypeId:=106
abbrev T.a3_p_int:TypeId:=167
abbrev T.a64_uint8:TypeId:=266
abbrev T.api_Errno:TypeId:=30
abbrev T.api_Node:TypeId:=71
abbrev T.api_Value:TypeId:=48
abbrev T.bool:TypeId:=4
abbrev T.cadenceref07_Store:TypeId:=101
abbrev T.error:TypeId:=114
abbrev T.errors_errorString:TypeId:=269
abbrev T.int:TypeId:=3
abbrev T.int32:TypeId:=21
abbrev T.int64:TypeId:=2
abbrev T.interface:TypeId:=20
abbrev T.p_cadenceref07_Store:TypeId:=25
abbrev T.p_errors_errorString:TypeId:=267
abbrev T.p_strconv_NumError:TypeId:=251
abbrev T.p_term_Store:TypeId:=24
abbrev T.sl_int:TypeId:=22
abbrev T.strconv_Error:TypeId:=249
abbrev T.string:TypeId:=9
abbrev T.strings_Builder:TypeId:=121
abbrev T.strings_span:TypeId:=175
abbrev T.term_Store:TypeId:=109
abbrev T.term_fault:TypeId:=131
abbrev T.term_place:TypeId:=148
abbrev T.term_reader:TypeId:=134
abbrev T.uint64:TypeId:=38
abbrev T.uint8:TypeId:=5
abbrev T.unicode_Range16:TypeId:=243
abbrev T.unicode_RangeTable:TypeId:=240
def orc:Orc:={ mkOrc [(8,[20]),(13,[15,17]),(14,[12]),(20,[11]),(21,[7]),(23,[10]),(24,[14]),(25,[13,14]),(28,[10]),(29,[17,19]),(31,[4]),(32,[16]),(34,[14]),(36,[18]),(37,[6]),(38,[14]),(39,[6,7,10]),(40,[6]),(43,[12,14]),(45,[11,12,13,14]),(48,[3]),(53,[2]),(55,[15]),(56,[1]),(66,[4]),(67,[11,14]),(76,[4,6]),(77,[3]),(78,[3]),(92,[6]),(93,[1]),(94,[3]),(95,[3]),(96,[5]),(102,[18]),(105,[3]),(110,[2]),(111,[3]),(112,[3]),(155,[4]),(169,[10]),(170,[9])]
 [(3,[(10,some ([],[])),(4,some ([],[]))]),(4,[(13,some ([],[]))]),(5,[(9,some ([],[])),(4,some ([],[]))]),(6,[(16,some ([8],[])),(13,some ([],[])),(5,some ([],[]))]),(8,[(37,some ([],[])),(32,some ([],[])),(20,some ([],[]))]),(10,[(10,some ([],[]))]),(11,[(5,some ([],[]))]),(12,[(4,some ([],[]))]),(21,[(9,some ([],[7]))]),(28,[(5,some ([22],[])),(4,some ([15],[])),(10,some ([],[10]))]),(34,[(21,some ([],[]))]),(35,[(17,some ([],[])),(7,some ([8],[]))]),(36,[(18,some ([71],[])),(14,some ([14],[])),(11,some ([],[]))]),(48,[(26,some ([],[])),(21,some ([],[])),(5,some ([],[])),(3,some ([],[]))]),(52,[(15,some ([],[]))]),(55,[(7,some ([5],[])),(3,some ([],[]))]),(62,[(6,some ([4],[]))]),(67,[(14,some ([5],[]))]),(72,[(22,some ([69],[])),(31,some ([],[])),(12,some ([],[]))]),(76,[(21,some ([],[4])),(11,some ([],[4])),(4,some ([],[4]))]),(77,[(4,some ([13],[]))]),(78,[(23,some ([],[])),(18,some ([],[])),(7,some ([26],[])),(5,some ([17],[]))]),(82,[(3,some ([],[]))]),(84,[(5,some ([],[])),(3,some ([],[]))]),(86,[(3,some ([],[]))]),(87,[(5,some ([],[])),(3,some ([],[]))]),(92,[(26,some ([111],[])),(24,some ([94],[])),(17,some ([66],[]))]),(94,[(8,some ([27],[]))]),(95,[(12,some ([60],[])),(4,some ([13],[]))]),(96,[(9,some ([],[])),(5,some ([],[]))]),(101,[(7,some ([3],[]))]),(102,[(5,some ([4],[]))]),(107,[(6,some ([4,5],[]))]),(109,[(2,some ([3],[]))]),(110,[(3,some ([],[]))]),(111,[(12,some ([67],[]))]),(112,[(3,some ([8],[]))]),(113,[(3,some ([],[]))]),(120,[(3,some ([],[]))]),(122,[(5,some ([],[])),(3,some ([],[]))]),(124,[(3,some ([],[]))]),(125,[(5,some ([],[])),(3,some ([],[]))]),(131,[(8,some ([6],[])),(4,some ([],[]))]),(134,[(4,some ([1],[]))]),(139,[(3,some ([6],[])),(8,some ([5],[]))]),(146,[(19,some ([11],[]))]),(152,[(20,some ([4,12],[]))]),(153,[(7,some ([1],[])),(3,some ([],[]))]),(154,[(5,some ([],[]))]),(158,[(26,some ([107],[])),(23,some ([],[])),(21,some ([8],[])),(3,some ([16],[])),(10,some ([],[]))]),(160,[(41,some ([106],[])),(46,some ([12,16],[])),(32,some ([10],[])),(25,some ([2],[])),(16,some ([52],[])),(13,some ([40],[])),(7,some ([25],[])),(21,some ([0,1],[]))]),(164,[(4,some ([0,2],[]))]),(168,[(2,some ([17],[]))]),(170,[(21,some ([],[])),(16,some ([],[]))]),(174,[(10,some ([],[]))]),(177,[(14,some ([3],[])),(10,some ([3,4,5],[])),(5,some ([0],[]))])]
 [(3,[(11,[17],[])]),(4,[(24,[17,19],[]),(21,[17,18],[]),(14,[14],[])]),(5,[(10,[14],[])]),(6,[(8,[5,6,7],[])]),(7,[(19,[17],[]),(13,[16],[])]),(8,[(41,[30],[]),(38,[29],[]),(12,[12,13,14,15,16],[])]),(9,[(20,[17],[]),(11,[12,13],[])]),(13,[(26,[19,113],[]),(12,[49],[])]),(14,[(22,[16,17],[]),(10,[11],[])]),(16,[(4,[5],[])]),(17,[(4,[5],[])]),(20,[(8,[8,26],[])]),(21,[(3,[5,6],[])]),(22,[(6,[5,6],[]),(3,[3],[])]),(23,[(8,[8,9],[])]),(24,[(14,[57],[]),(9,[38],[])]),(25,[(16,[15,16,17],[]),(9,[12],[])]),(29,[(21,[72],[]),(16,[58],[])]),(30,[(4,[5],[])]),(32,[(24,[17,18,69],[]),(17,[56],[]),(10,[41],[])]),(34,[(37,[128],[]),(22,[86],[]),(9,[32],[])]),(35,[(19,[],[]),(11,[6,10,42],[])]),(36,[(8,[10,11,12,13],[])]),(37,[(4,[5],[])]),(38,[(16,[8,10],[]),(11,[8,10,36],[]),(2,[18],[])]),(39,[(11,[41],[]),(3,[16],[])]),(41,[(2,[5],[])]),(42,[(9,[5],[]),(3,[3,4],[])]),(43,[(18,[13,15],[]),(12,[8,10],[]),(9,[8,9],[]),(2,[6],[])]),(44,[(2,[5],[])]),(45,[(8,[15],[13,14])]),(48,[(6,[35],[])]),(51,[(3,[11],[])]),(52,[(32,[26,130],[]),(17,[21,79],[]),(6,[45],[])]),(55,[(4,[],[15])]),(67,[(16,[49],[]),(4,[5,6],[14])]),(72,[(13,[44],[])]),(74,[(4,[3,4,5],[])]),(75,[(3,[6,7],[])]),(76,[(14,[9,10],[4,6]),(5,[7],[6])]),(89,[(7,[4],[]),(2,[3],[])]),(99,[(27,[12],[]),(21,[10,11,12],[]),(18,[12],[]),(5,[3,4,5,6],[])]),(101,[(11,[0,10],[])]),(102,[(6,[],[18])]),(103,[(2,[2,7],[])]),(107,[(9,[5,6],[])]),(113,[(4,[3],[])]),(134,[(6,[0,7],[])]),(135,[(6,[0,5],[])]),(140,[(2,[3],[])]),(146,[(3,[9,10],[])]),(152,[(1,[1,4],[])]),(153,[(11,[1,13],[]),(18,[1,13],[])]),(155,[(2,[2],[4])]),(158,[(15,[8,10],[])]),(160,[(36,[12,13,101],[])]),(168,[(14,[7,8],[]),(3,[20],[])]),(169,[(14,[7,8],[]),(3,[16],[])]),(174,[(11,[8,10],[]),(5,[8,9],[])]),(177,[(10,[3,4],[])]),(185,[(8,[6,7,8],[]),(3,[4,5],[])])] with xt:=look none [(184,some zk4),(157,some zld)],gt:=fun t=>List.elem t [5,121],pan:=fun f=>List.elem f [35,69,70,71,72,103],dfr:=fun f=>List.elem f [35] }
noncomputable def zcW (R:zaf) (x0 x1:Value) (H0:Hp):Option (Value × Hp):=zdb PP orc R F.a46 Go.Proofs.Tryz.f5 [x0,x1] H0
noncomputable def zdn (R:zaf) (x0 x1:Value) (H0:Hp):Option (Value × Hp):=
 zeU R F.a27 [x0,x1] H0 fun r1 H2=>
 zae r1 0 fun v3=>
 zae r1 1 fun v4=>
 zae r1 2 fun v5=>
 zae r1 3 fun v6=>
 zag R F.a11 [x0,x1] H2 fun r7 H8=>
 zae r7 0 fun v9=>
 zae r7 1 fun v10=>
 zae r7 2 fun v11=>
 zae r7 3 fun v12=>
 zat (
 pBin PP .neq T.api_Errno v6 v12 fun v13=>
 zaa v13 fun b14=>br b14
 (some (.ret,[(.tuple #[(.pointer none),(.pointer none),(.slice none 0 0),(.bool false)])],H8))
 (zag R F.a48 [v4,v10] H8 fun r15 H16=>
 pUn .not r15 fun v17=>
 zaa v17 fun b18=>br b18
 (some (.ret,[(.tuple #[(.pointer none),(.pointer none),(.slice none 0 0),(.bool false)])],H16))
 (pBin PP .eql T.p_term_Store v3 (.pointer none) fun v19=>
 pBin PP .eql T.p_cadenceref07_Store v9 (.pointer none) fun v20=>
 pBin PP .neq T.bool v19 v20 fun v21=>
 zaa v21 fun b22=>br b22
 (some (.ret,[(.tuple #[(.pointer none),(.pointer none),(.slice none 0 0),(.bool false)])],H16))
 (some (.next,[],H16))))) fun q23 l24 H25=>zaE q23
 (pBin PP .eql T.p_term_Store v3 (.pointer none) fun v27=>
 zaa v27 fun b28=>br b28
 (some ((.tuple #[v3,v9,v4,(.bool true)]),H25))
 (zag R F.a47 [v3,v9] H25 fun r29 H30=>
 some ((.tuple #[v3,v9,v4,r29]),H30)))
 (fun i26=>none)
 (some ((l24.headD undef),H25))
noncomputable def zeb (R:zaf) (H0:Hp):Option (Value × Hp):=
 zeU R F.a27 [(.string ⟨#[49,32,118,97,114,32,120,32,56,10,50,32,118,97,114,32,121,32,56,10,51,32,97,100,100,32,49,32,50,10,52,32,101,113,32,51,32,49,10,114,111,111,116,115,32,51,32,52,10]⟩),(.int .i64 0)] H0 fun r1 H2=>
 zae r1 0 fun v3=>
 zae r1 1 fun v4=>
 zae r1 2 fun v5=>
 zae r1 3 fun v6=>
 zat (
 zag R F.a8 [v6] H2 fun r7 H8=>
 pBin PP .neq T.int r7 (.int .i64 0) fun v9=>
 zaa v9 fun b10=>br b10
 (some (.ret,[(.bool false)],H8))
 (pBin PP .eql T.p_term_Store v3 (.pointer none) fun v11=>
 zaa v11 fun b12=>br b12
 (some (.ret,[(.bool false)],H8))
 (pLen .sl v4 H8 fun v13=>
 pBin PP .neq T.int v13 (.int .i64 2) fun v14=>
 zaa v14 fun b15=>br b15
 (some (.ret,[(.bool false)],H8))
 (some (.next,[],H8))))) fun q16 l17 H18=>zaE q16
 (zaL PP T.api_Value [(0,(.string ⟨#[120]⟩)),(1,(.int .i64 8)),(2,(.int .u64 200))] fun v20=>
 zaL PP T.api_Value [(0,(.string ⟨#[121]⟩)),(1,(.int .i64 8)),(2,(.int .u64 100))] fun v21=>
 zak 3 [.string ⟨#[]⟩,.int .i64 0,.int .u64 0] 2 [(0,v20),(1,v21)] H18 fun v22 H23=>
 zag R F.a25 [v3,v4,v22] H23 fun r24 H25=>
 zae r24 0 fun v26=>
 zae r24 1 fun v27=>
 pIdx 1 v4 (.int .i64 1) fun p28=>
 zal 1 false H25 p28 fun v29=>
 zag R F.a9 [v3,v29] H25 fun r30 H31=>
 zae r30 0 fun v32=>
 zae r30 1 fun v33=>
 zae r30 2 fun v34=>
 zae r30 3 fun v35=>
 pIdx 1 v4 (.int .i64 0) fun p36=>
 zal 1 false H31 p36 fun v37=>
 zaL PP T.api_Value [(0,(.string ⟨#[120]⟩)),(1,(.int .i64 4)),(2,(.int .u64 1))] fun v38=>
 zak 3 [.string ⟨#[]⟩,.int .i64 0,.int .u64 0] 1 [(0,v38)] H31 fun v39 H40=>
 zag R F.a54 [v3,v37,v39] H40 fun r41 H42=>
 zae r41 0 fun v43=>
 zae r41 1 fun v44=>
 zag R F.a8 [v27] H42 fun r45 H46=>
 zag R F.a8 [v35] H46 fun r47 H48=>
 pBin PP .add T.int r45 r47 fun v49=>
 pBin PP .eql T.int v49 (.int .i64 0) fun v50=>
 zaa v50 fun b51=>br b51
 (zak 1 [.int .u64 0] 2 [(0,(.int .u64 44)),(1,(.int .u64 0))] H48 fun v52 H53=>
 zag R F.a30 [v26,v52] H53 fun r54 H55=>
 zaa r54 fun b56=>br b56
 (pBin PP .eql T.int v32 (.int .i64 4) fun v57=>
 zaa v57 fun b58=>br b58
 (pBin PP .eql T.uint64 v33 (.int .u64 5) fun v59=>
 zaa v59 fun b60=>br b60
 (pBin PP .eql T.int v34 (.int .i64 3) fun v61=>
 zaa v61 fun b62=>br b62
 (zag R F.a8 [v44] H55 fun r63 H64=>
 pBin PP .eql T.int r63 (.int .i64 71) fun v65=>
 some (v65,H64))
 (some ((.bool false),H55)))
 (some ((.bool false),H55)))
 (some ((.bool false),H55)))
 (some ((.bool false),H55)))
 (some ((.bool false),H48)))
 (fun i19=>none)
 (some ((l17.headD undef),H18))
noncomputable def zhj (R:zaf) (x0 x1 x2:Value) (H0:Hp):Option (Value × Hp):=zdb PP orc R F.a25 Go.Proofs.Tryz.f13 [x0,x1,x2] H0
noncomputable def zhP (R:zaf) (x0:Value) (H0:Hp):Option (Value × Hp):=
 some (x0,H0)
noncomputable def zcI (R:zaf) (x0 x1:Value) (H0:Hp):Option (Value × Hp):=zdb PP orc R F.a30 Go.Proofs.Tryz.f16 [x0,x1] H0
noncomputable def zcU (R:zaf) (x0 x1:Value) (H0:Hp):Option (Value × Hp):=zdb PP orc R F.a49 Go.Proofs.Tryz.f17 [x0,x1] H0
noncomputable def zie (R:zaf) (x0 x1 x2:Value) (H0:Hp):Option (Value × Hp):=
 zak 1 [.int .i64 0] 1 [(0,x1)] H0 fun v1 H2=>
 zag R F.a25 [x0,v1,x2] H2 fun r3 H4=>
 zae r3 0 fun v5=>
 zae r3 1 fun v6=>
 pBin PP .neq T.api_Errno v6 (.int .i64 0) fun v7=>
 zaa v7 fun b8=>br b8
 (some ((.tuple #[(.int .u64 0),v6]),H4))
 (pIdx 1 v5 (.int .i64 0) fun p9=>
 zal 1 false H4 p9 fun v10=>
 some ((.tuple #[v10,(.int .i64 0)]),H4))
noncomputable def zjJ (R:zaf) (x0 x1:Value) (H0:Hp):Option (Value × Hp):=zdb PP orc R F.a26 Go.Proofs.Tryz.f20 [x0,x1] H0
noncomputable def zd4 (R:zaf) (x0 x1:Value) (H0:Hp):Option (Value × Hp):=zdb PP orc R F.a24 Go.Proofs.Tryz.f23 [x0,x1] H0
noncomputable def zjK (R:zaf) (x0 x1:Value) (H0:Hp):Option (Value × Hp):=zdb PP orc R F.a9 Go.Proofs.Tryz.f24 [x0,x1] H0
noncomputable def zd5 (R:zaf) (x0 x1:Value) (H0:Hp):Option (Value × Hp):=zdb PP orc R F.a16 Go.Proofs.Tryz.f25 [x0,x1] H0
noncomputable def zkV (R:zaf) (x0:Value) (H0:Hp):Option (Value × Hp):=
 pBin PP .lss T.int x0 (.int .i64 0) fun v1=>
 zaa v1 fun b2=>br b2
 (some ((.tuple #[(.pointer none),(.int .i64 1)]),H0))
 (zcb H0 fun v3 H4=>
 zcb H4 fun v5 H6=>
 zaL PP T.term_Store [(0,x0),(2,v3),(3,v5)] fun v7=>
 zeV (zab v7) H6 fun p8 H9=>
 some ((.tuple #[p8,(.int .i64 0)]),H9))
noncomputable def zcV (R:zaf) (x0 x1:Value) (H0:Hp):Option (Value × Hp):=zdb PP orc R F.a48 Go.Proofs.Tryz.f30 [x0,x1] H0
noncomputable def zeY (R:zaf) (x0 x1:Value) (H0:Hp):Option (Value × Hp):=
 zag R F.a19 [x0,x1] H0 fun r1 H2=>
 pUn .not r1 fun v3=>
 zaa v3 fun b4=>br b4
 (zaL PP T.api_Node [] fun v5=>
 zaD 7 [.int .i64 0,.int .i64 0,.int .i64 0,.int .i64 0,.int .i64 0,.int .u64 0,.string ⟨#[]⟩] 0 v5 fun c6=>
 zad 7 true c6 0 fun v7=>
 some ((.tuple #[v7,(.int .i64 70)]),H2))
 (pNil x0 (
 zar 1 x0 fun p8=>
 zal 1 false H2 p8 fun v9=>
 pBin PP .sub T.int x1 (.int .i64 1) fun v10=>
 pIdx 7 v9 v10 fun p11=>
 zal 7 true H2 p11 fun v12=>
 zaD 7 [.int .i64 0,.int .i64 0,.int .i64 0,.int .i64 0,.int .i64 0,.int .u64 0,.string ⟨#[]⟩] 0 v12 fun c13=>
 zad 7 true c13 0 fun v14=>
 some ((.tuple #[v14,(.int .i64 0)]),H2)))
noncomputable def zjF (R:zaf) (x0 x1:Value) (H0:Hp):Option (Value × Hp):=zdb PP orc R F.a27 Go.Proofs.Tryz.f35 [x0,x1] H0
noncomputable def zd8 (R:zaf) (x0 x1:Value) (H0:Hp):Option (Value × Hp):=zdb PP orc R F.a11 Go.Proofs.Tryz.f36 [x0,x1] H0
noncomputable def zdI (R:zaf) (x0 x1:Value) (H0:Hp):Option (Value × Hp):=zdb PP orc R F.a47 Go.Proofs.Tryz.f37 [x0,x1] H0
noncomputable def zeu (R:zaf) (x0 x1:Value) (H0:Hp):Option (Value × Hp):=zdb PP orc R F.a13 Go.Proofs.Tryz.f38 [x0,x1] H0
noncomputable def zjG (R:zaf) (x0:Value) (H0:Hp):Option (Value × Hp):=zdb PP orc R F.a56 Go.Proofs.Tryz.f39 [x0] H0
noncomputable def zjI (R:zaf) (x0 x1 x2 x3 x4 x5:Value) (H0:Hp):Option (Value × Hp):=
 zad 1 false (zab x0) 0 fun v1=>
 pBin PP .eql T.int v1 (.int .i64 1) fun v2=>
 zaa v2 fun b3=>br b3
 (some ((.int .u64 1),H0))
 (pBin PP .eql T.int v1 (.int .i64 2) fun v4=>
 zaa v4 fun b5=>br b5
 (some ((.int .u64 0),H0))
 (pBin PP .eql T.int v1 (.int .i64 3) fun v6=>
 zaa v6 fun b7=>br b7
 (zad 1 false (zab x0) 5 fun v8=>
 some (v8,H0))
 (pBin PP .eql T.int v1 (.int .i64 5) fun v9=>
 zaa v9 fun b10=>br b10
 (pBin PP .sub T.uint64 (.int .u64 1) x1 fun v11=>
 some (v11,H0))
 (pBin PP .eql T.int v1 (.int .i64 6) fun v12=>
 zaa v12 fun b13=>br b13
 (pBin PP .and T.uint64 x1 x2 fun v14=>
 some (v14,H0))
 (pBin PP .eql T.int v1 (.int .i64 7) fun v15=>
 zaa v15 fun b16=>br b16
 (pBin PP .or T.uint64 x1 x2 fun v17=>
 some (v17,H0))
 (pBin PP .eql T.int v1 (.int .i64 8) fun v18=>
 zaa v18 fun b19=>br b19
 (pBin PP .xor T.uint64 x1 x2 fun v20=>
 some (v20,H0))
 (pBin PP .eql T.int v1 (.int .i64 9) fun v21=>
 zaa v21 fun b22=>br b22
 (pBin PP .eql T.uint64 x1 x2 fun v23=>
 zag R F.a55 [v23] H0 fun r24 H25=>
 some (r24,H25))
 (pBin PP .leq T.int v1 (.int .i64 13) fun v26=>
 zaa v26 fun b27=>br b27
 (zag R F.a70 [v1,x4,x1,x2] H0 fun r28 H29=>
 zae r28 0 fun v30=>
 zae r28 1 fun v31=>
 zag R F.a55 [v30] H29 fun r32 H33=>
 some (r32,H33))
 (pBin PP .eql T.int v1 (.int .i64 14) fun v34=>
 zaa v34 fun b35=>br b35
 (pBin PP .eql T.uint64 x1 (.int .u64 1) fun v36=>
 zaa v36 fun b37=>br b37
 (some (x2,H0))
 (some (x3,H0)))
 (pBin PP .leq T.int v1 (.int .i64 16) fun v38=>
 zaa v38 fun b39=>br b39
 (zad 1 false (zab x0) 1 fun v40=>
 zag R F.a74 [v1,v40,x1] H0 fun r41 H42=>
 zae r41 0 fun v43=>
 zae r41 1 fun v44=>
 some (v43,H42))
 (pBin PP .leq T.int v1 (.int .i64 29) fun v45=>
 zaa v45 fun b46=>br b46
 (zad 1 false (zab x0) 1 fun v47=>
 zag R F.a68 [v1,v47,x1,x2] H0 fun r48 H49=>
 zae r48 0 fun v50=>
 zae r48 1 fun v51=>
 some (v50,H49))
 (pBin PP .eql T.int v1 (.int .i64 30) fun v52=>
 zaa v52 fun b53=>br b53
 (zag R F.a69 [x4,x1,x5,x2] H0 fun r54 H55=>
 zae r54 0 fun v56=>
 zae r54 1 fun v57=>
 some (v56,H55))
 (pBin PP .eql T.int v1 (.int .i64 31) fun v58=>
 zaa v58 fun b59=>br b59
 (zad 1 false (zab x0) 5 fun v60=>
 zaq .i64 v60 fun v61=>
 zad 1 false (zab x0) 1 fun v62=>
 zag R F.a73 [x4,x1,v61,v62] H0 fun r63 H64=>
 zae r63 0 fun v65=>
 zae r63 1 fun v66=>
 some (v65,H64))
 (zad 1 false (zab x0) 0 fun v67=>
 zad 1 false (zab x0) 1 fun v68=>
 zag R F.a71 [v67,x4,x1,v68] H0 fun r69 H70=>
 zae r69 0 fun v71=>
 zae r69 1 fun v72=>
 some (v71,H70)))))))))))))))
noncomputable def zcw (R:zaf) (x0 x1:Value) (H0:Hp):Option (Value × Hp):=zdb PP orc R F.a15 Go.Proofs.Tryz.f43 [x0,x1] H0
noncomputable def zjH (R:zaf) (x0 x1:Value) (H0:Hp):Option (Value × Hp):=
 pBin PP .add T.uint64 x0 x1 fun v1=>
 pBin PP .lss T.uint64 v1 x0 fun v2=>
 zaa v2 fun b3=>br b3
 (some ((.int .u64 18446744073709551615),H0))
 (pBin PP .add T.uint64 x0 x1 fun v4=>
 some (v4,H0))
noncomputable def zeZ (R:zaf) (x0 x1:Value) (H0:Hp):Option (Value × Hp):=
 zat (
 zad 1 false (zab x1) 0 fun v1=>
 pBin PP .lss T.int v1 (.int .i64 1) fun v2=>
 zaa v2 fun b3=>br b3
 (some (.ret,[(.tuple #[(.int .i64 0),(.int .i64 73)])],H0))
 (zad 1 false (zab x1) 0 fun v4=>
 pBin PP .gtr T.int v4 (.int .i64 33) fun v5=>
 zaa v5 fun b6=>br b6
 (some (.ret,[(.tuple #[(.int .i64 0),(.int .i64 73)])],H0))
 (some (.next,[],H0)))) fun q7 l8 H9=>zaE q7
 (zat (
 zad 1 false (zab x1) 1 fun v11=>
 pBin PP .lss T.int v11 (.int .i64 0) fun v12=>
 zaa v12 fun b13=>br b13
 (some (.ret,[(.tuple #[(.int .i64 0),(.int .i64 5)])],H9))
 (zad 1 false (zab x1) 1 fun v14=>
 pBin PP .gtr T.int v14 (.int .i64 64) fun v15=>
 zaa v15 fun b16=>br b16
 (some (.ret,[(.tuple #[(.int .i64 0),(.int .i64 5)])],H9))
 (some (.next,[],H9)))) fun q17 l18 H19=>zaE q17
 (zad 1 false (zab x1) 2 fun v21=>
 zad 1 false (zab x1) 3 fun v22=>
 zad 1 false (zab x1) 4 fun v23=>
 zaL PP T.a3_int [(0,v21),(1,v22),(2,v23)] fun v24=>
 zat (zas (fun l25 H26=>
 pBin PP .lss T.int (l25.getD 0 undef) (.int .i64 3) fun v27=>
 zaa v27 fun b28=>br b28
 (zd0 3 false 1 v24 (l25.getD 0 undef) fun v29=>
 zad 1 false (zab x1) 0 fun v30=>
 zag R F.a10 [v30] H26 fun r31 H32=>
 pBin PP .lss T.int (l25.getD 0 undef) r31 fun v33=>
 zaa v33 fun b34=>br b34
 (zag R F.a19 [x0,v29] H32 fun r35 H36=>
 pUn .not r35 fun v37=>
 zaa v37 fun b38=>br b38
 (some (.ret,[(.tuple #[(.int .i64 0),(.int .i64 70)])],H36))
 (pBin PP .add T.int (l25.getD 0 undef) (.int .i64 1) fun v39=>
 some (.next,[v39],H36)))
 (pBin PP .add T.int (l25.getD 0 undef) (.int .i64 1) fun v40=>
 some (.next,[v40],H32)))
 (some (.exit 0,[(l25.getD 0 undef)],H26))) [(.int .i64 0)] H19) fun q41 l42 H43=>zaE q41 none
 (fun i44=>zav i44 0 (
 zad 7 true (zab x1) 0 fun v45=>
 zag R F.a92 [v45] H43 fun r46 H47=>
 zaa r46 fun b48=>br b48
 (some ((.tuple #[(.int .i64 0),(.int .i64 1)]),H47))
 (zad 7 true (zab x1) 0 fun v49=>
 zag R F.a89 [x0,v49] H47 fun r50 H51=>
 pUn .not r50 fun v52=>
 zaa v52 fun b53=>br b53
 (some ((.tuple #[(.int .i64 0),(.int .i64 71)]),H51))
 (zad 7 true (zab x1) 0 fun v54=>
 zag R F.a90 [x0,v54] H51 fun r55 H56=>
 pUn .not r55 fun v57=>
 zaa v57 fun b58=>br b58
 (some ((.tuple #[(.int .i64 0),(.int .i64 5)]),H56))
 (zat (
 zad 1 false (zab x1) 0 fun v59=>
 pBin PP .eql T.int v59 (.int .i64 4) fun v60=>
 zaa v60 fun b61=>br b61
 (pNil x0 (
 zar 3 x0 fun p62=>
 zal 1 false H56 p62 fun v63=>
 zad 1 false (zab x1) 6 fun v64=>
 zbB PP T.string (.int .i64 0) v63 v64 true H56 fun v65=>
 zae v65 0 fun v66=>
 zae v65 1 fun v67=>
 zad 1 false (zab x1) 6 fun v68=>
 zag R F.a43 [v68] H56 fun r69 H70=>
 pUn .not r69 fun v71=>
 zaa v71 fun b72=>br b72
 (some (.ret,[(.tuple #[(.int .i64 0),(.int .i64 72)])],H70))
 (zaa v67 fun b73=>br b73
 (zad 1 false (zab x1) 1 fun v74=>
 pBin PP .neq T.int v66 v74 fun v75=>
 zaa v75 fun b76=>br b76
 (some (.ret,[(.tuple #[(.int .i64 0),(.int .i64 72)])],H70))
 (some (.next,[],H70)))
 (some (.next,[],H70)))))
 (some (.next,[],H56))) fun q77 l78 H79=>zaE q77
 (pNil x0 (
 zar 2 x0 fun p81=>
 zal 1 false H79 p81 fun v82=>
 zad 7 true (zab x1) 0 fun v83=>
 zbB PP T.api_Node (.int .i64 0) v82 v83 true H79 fun v84=>
 zae v84 0 fun v85=>
 zae v84 1 fun v86=>
 zaa v86 fun b87=>br b87
 (some ((.tuple #[v85,(.int .i64 0)]),H79))
 (zat (
 pNil x0 (
 zar 0 x0 fun p88=>
 zal 1 false H79 p88 fun v89=>
 pBin PP .gtr T.int v89 (.int .i64 0) fun v90=>
 zaa v90 fun b91=>br b91
 (pNil x0 (
 zar 1 x0 fun p92=>
 zal 1 false H79 p92 fun v93=>
 pLen .sl v93 H79 fun v94=>
 pNil x0 (
 zar 0 x0 fun p95=>
 zal 1 false H79 p95 fun v96=>
 pBin PP .geq T.int v94 v96 fun v97=>
 zaa v97 fun b98=>br b98
 (some (.ret,[(.tuple #[(.int .i64 0),(.int .i64 4)])],H79))
 (some (.next,[],H79)))))
 (some (.next,[],H79)))) fun q99 l100 H101=>zaE q99
 (pNil x0 (
 zar 1 x0 fun p103=>
 zal 1 false H101 p103 fun v104=>
 zad 7 true (zab x1) 0 fun v105=>
 zak 7 [.int .i64 0,.int .i64 0,.int .i64 0,.int .i64 0,.int .i64 0,.int .u64 0,.string ⟨#[]⟩] 1 [(0,v105)] H101 fun v106 H107=>
 chk (Hp.rdP H107 p103 1 false=some v104) (
 zaB 7 64 v104 v106 H107 fun v108 H109=>
 pNil x0 (
 zar 1 x0 fun p110=>
 zau 1 H109 p110 v108 fun H111=>
 pNil x0 (
 zar 2 x0 fun p112=>
 zal 1 false H111 p112 fun v113=>
 zad 7 true (zab x1) 0 fun v114=>
 pNil x0 (
 zar 1 x0 fun p115=>
 zal 1 false H111 p115 fun v116=>
 pLen .sl v116 H111 fun v117=>
 pUpd PP T.api_Node v113 v114 v117 H111 fun H118=>
 zad 1 false (zab x1) 0 fun v119=>
 pBin PP .eql T.int v119 (.int .i64 4) fun v120=>
 zaa v120 fun b121=>br b121
 (pNil x0 (
 zar 3 x0 fun p122=>
 zal 1 false H118 p122 fun v123=>
 zad 1 false (zab x1) 6 fun v124=>
 zad 1 false (zab x1) 1 fun v125=>
 pUpd PP T.string v123 v124 v125 H118 fun H126=>
 pNil x0 (
 zar 1 x0 fun p127=>
 zal 1 false H126 p127 fun v128=>
 pLen .sl v128 H126 fun v129=>
 some ((.tuple #[v129,(.int .i64 0)]),H126))))
 (pNil x0 (
 zar 1 x0 fun p130=>
 zal 1 false H118 p130 fun v131=>
 pLen .sl v131 H118 fun v132=>
 some ((.tuple #[v132,(.int .i64 0)]),H118)))))))))
 (fun i102=>none)
 (some ((l100.headD undef),H101)))))
 (fun i80=>none)
 (some ((l78.headD undef),H79)))))) (
 none))
 (some ((l42.headD undef),H43)))
 (fun i20=>none)
 (some ((l18.headD undef),H19)))
 (fun i10=>none)
 (some ((l8.headD undef),H9))
noncomputable def zgr (R:zaf) (x0 x1:Value) (H0:Hp):Option (Value × Hp):=
 zag R F.a19 [x0,x1] H0 fun r1 H2=>
 pUn .not r1 fun v3=>
 zaa v3 fun b4=>br b4
 (some ((.int .i64 (-1)),H2))
 (pNil x0 (
 zar 1 x0 fun p5=>
 zal 1 false H2 p5 fun v6=>
 pBin PP .sub T.int x1 (.int .i64 1) fun v7=>
 pIdx 7 v6 v7 fun p8=>
 zar 1 p8 fun p9=>
 zal 1 false H2 p9 fun v10=>
 some (v10,H2)))
noncomputable def zfI (R:zaf) (x0 x1:Value) (H0:Hp):Option (Value × Hp):=
 pBin PP .geq T.int x1 (.int .i64 1) fun v1=>
 zaa v1 fun b2=>br b2
 (pNil x0 (
 zar 1 x0 fun p3=>
 zal 1 false H0 p3 fun v4=>
 pLen .sl v4 H0 fun v5=>
 pBin PP .leq T.int x1 v5 fun v6=>
 some (v6,H0)))
 (some ((.bool false),H0))
noncomputable def zjM (R:zaf) (x0:Value) (H0:Hp):Option (Value × Hp):=
 zat (
 pLen .str x0 H0 fun v1=>
 pBin PP .lss T.int v1 (.int .i64 1) fun v2=>
 zaa v2 fun b3=>br b3
 (some (.ret,[(.bool false)],H0))
 (pLen .str x0 H0 fun v4=>
 pBin PP .gtr T.int v4 (.int .i64 24) fun v5=>
 zaa v5 fun b6=>br b6
 (some (.ret,[(.bool false)],H0))
 (some (.next,[],H0)))) fun q7 l8 H9=>zaE q7
 (zko x0 fun s11=>
 zat (zas (fun l12 H13=>
 br (Nat.blt (zbc ((l12.drop 0).getD 0 undef)) (zbg ((l12.drop 0).getD 0 undef)).size)
 (zat (
 pBin PP .geq T.int32 (.int .i32 (Utf8.decode (zbg ((l12.drop 0).getD 0 undef)) (zbc ((l12.drop 0).getD 0 undef))).1) (.int .i32 97) fun v14=>
 zaa v14 fun b15=>br b15
 (pBin PP .leq T.int32 (.int .i32 (Utf8.decode (zbg ((l12.drop 0).getD 0 undef)) (zbc ((l12.drop 0).getD 0 undef))).1) (.int .i32 122) fun v16=>
 zaa v16 fun b17=>br b17
 (some (.next,[(.bool true)],H13))
 (pBin PP .geq T.int32 (.int .i32 (Utf8.decode (zbg ((l12.drop 0).getD 0 undef)) (zbc ((l12.drop 0).getD 0 undef))).1) (.int .i32 65) fun v18=>
 zaa v18 fun b19=>br b19
 (pBin PP .leq T.int32 (.int .i32 (Utf8.decode (zbg ((l12.drop 0).getD 0 undef)) (zbc ((l12.drop 0).getD 0 undef))).1) (.int .i32 90) fun v20=>
 zaa v20 fun b21=>br b21
 (some (.next,[(.bool true)],H13))
 (pBin PP .eql T.int32 (.int .i32 (Utf8.decode (zbg ((l12.drop 0).getD 0 undef)) (zbc ((l12.drop 0).getD 0 undef))).1) (.int .i32 95) fun v22=>
 some (.next,[v22],H13)))
 (pBin PP .eql T.int32 (.int .i32 (Utf8.decode (zbg ((l12.drop 0).getD 0 undef)) (zbc ((l12.drop 0).getD 0 undef))).1) (.int .i32 95) fun v23=>
 some (.next,[v23],H13))))
 (pBin PP .geq T.int32 (.int .i32 (Utf8.decode (zbg ((l12.drop 0).getD 0 undef)) (zbc ((l12.drop 0).getD 0 undef))).1) (.int .i32 65) fun v24=>
 zaa v24 fun b25=>br b25
 (pBin PP .leq T.int32 (.int .i32 (Utf8.decode (zbg ((l12.drop 0).getD 0 undef)) (zbc ((l12.drop 0).getD 0 undef))).1) (.int .i32 90) fun v26=>
 zaa v26 fun b27=>br b27
 (some (.next,[(.bool true)],H13))
 (pBin PP .eql T.int32 (.int .i32 (Utf8.decode (zbg ((l12.drop 0).getD 0 undef)) (zbc ((l12.drop 0).getD 0 undef))).1) (.int .i32 95) fun v28=>
 some (.next,[v28],H13)))
 (pBin PP .eql T.int32 (.int .i32 (Utf8.decode (zbg ((l12.drop 0).getD 0 undef)) (zbc ((l12.drop 0).getD 0 undef))).1) (.int .i32 95) fun v29=>
 some (.next,[v29],H13)))) fun q30 l31 H32=>zaE q30
 (pUn .not (l31.getD 0 undef) fun v34=>
 zaa v34 fun b35=>br b35
 (pBin PP .eql T.int (.int .i64 ((zbc ((l12.drop 0).getD 0 undef)):Nat)) (.int .i64 0) fun v36=>
 zaa v36 fun b37=>br b37
 (some (.ret,[(.bool false)],H32))
 (pBin PP .lss T.int32 (.int .i32 (Utf8.decode (zbg ((l12.drop 0).getD 0 undef)) (zbc ((l12.drop 0).getD 0 undef))).1) (.int .i32 48) fun v38=>
 zaa v38 fun b39=>br b39
 (some (.ret,[(.bool false)],H32))
 (pBin PP .gtr T.int32 (.int .i32 (Utf8.decode (zbg ((l12.drop 0).getD 0 undef)) (zbc ((l12.drop 0).getD 0 undef))).1) (.int .i32 57) fun v40=>
 zaa v40 fun b41=>br b41
 (some (.ret,[(.bool false)],H32))
 (some (.next,[(.tuple #[.string (zbg ((l12.drop 0).getD 0 undef)),.int .i64 (((zbc ((l12.drop 0).getD 0 undef))+(Utf8.decode (zbg ((l12.drop 0).getD 0 undef)) (zbc ((l12.drop 0).getD 0 undef))).2):Nat)])],H32)))))
 (some (.next,[(.tuple #[.string (zbg ((l12.drop 0).getD 0 undef)),.int .i64 (((zbc ((l12.drop 0).getD 0 undef))+(Utf8.decode (zbg ((l12.drop 0).getD 0 undef)) (zbc ((l12.drop 0).getD 0 undef))).2):Nat)])],H32)))
 (fun i33=>zav i33 1 (
 some (.next,[(.tuple #[.string (zbg ((l12.drop 0).getD 0 undef)),.int .i64 (((zbc ((l12.drop 0).getD 0 undef))+(Utf8.decode (zbg ((l12.drop 0).getD 0 undef)) (zbc ((l12.drop 0).getD 0 undef))).2):Nat)])],H32)) (
 some (.exit i33,[(.tuple #[.string (zbg ((l12.drop 0).getD 0 undef)),.int .i64 (((zbc ((l12.drop 0).getD 0 undef))+(Utf8.decode (zbg ((l12.drop 0).getD 0 undef)) (zbc ((l12.drop 0).getD 0 undef))).2):Nat)])],H32)))
 (some (.ret,[(l31.headD undef)],H32)))
 (some (.exit 0,[(.tuple #[.string (zbg ((l12.drop 0).getD 0 undef)),.int .i64 ((zbc ((l12.drop 0).getD 0 undef)):Nat)])],H13))) [(.tuple #[.string s11,.int .i64 (0:Nat)])] H9) fun q42 l43 H44=>zaE q42 none
 (fun i45=>zav i45 0 (
 some ((.bool true),H44)) (
 none))
 (some ((l43.headD undef),H44)))
 (fun i10=>none)
 (some ((l8.headD undef),H9))
noncomputable def zid (R:zaf) (H0:Hp):Option (Value × Hp):=
 zag R F.a61 [(.string ⟨#[45,32,116,114,117,101,32,102,97,108,115,101,32,99,111,110,115,116,32,118,97,114,32,110,111,116,32,97,110,100,32,111,114,32,120,111,114,32,101,113,32,117,108,116,32,117,108,101,32,115,108,116,32,115,108,101,32,105,116,101,32,99,111,109,32,110,101,103,32,98,97,110,100,32,98,111,114,32,98,120,111,114,32,97,100,100,32,115,117,98,32,109,117,108,32,100,105,118,32,114,101,109,32,115,104,108,32,115,104,114,32,115,97,114,32,114,111,108,32,114,111,114,32,99,97,116,32,115,108,105,99,101,32,122,101,120,116,32,115,101,120,116]⟩)] H0 fun r1 H2=>
 some (r1,H2)
noncomputable def zic (R:zaf) (x0:Value) (H0:Hp):Option (Value × Hp):=
 zat (
 pBin PP .eql T.int x0 (.int .i64 1) fun v1=>
 zaa v1 fun b2=>br b2
 (some (.next,[v1],H0))
 (pBin PP .eql T.int x0 (.int .i64 2) fun v3=>
 zaa v3 fun b4=>br b4
 (some (.next,[v3],H0))
 (pBin PP .eql T.int x0 (.int .i64 3) fun v5=>
 zaa v5 fun b6=>br b6
 (some (.next,[v5],H0))
 (pBin PP .eql T.int x0 (.int .i64 4) fun v7=>
 some (.next,[v7],H0))))) fun q8 l9 H10=>zaE q8
 (zaa (l9.getD 0 undef) fun b12=>br b12
 (some ((.int .i64 0),H10))
 (pBin PP .eql T.int x0 (.int .i64 5) fun v13=>
 zaa v13 fun b14=>br b14
 (zaa v13 fun b15=>br b15
 (some ((.int .i64 1),H10))
 (pBin PP .eql T.int x0 (.int .i64 14) fun v16=>
 zaa v16 fun b17=>br b17
 (some ((.int .i64 3),H10))
 (some ((.int .i64 2),H10))))
 (pBin PP .eql T.int x0 (.int .i64 15) fun v18=>
 zaa v18 fun b19=>br b19
 (zaa v18 fun b20=>br b20
 (some ((.int .i64 1),H10))
 (pBin PP .eql T.int x0 (.int .i64 14) fun v21=>
 zaa v21 fun b22=>br b22
 (some ((.int .i64 3),H10))
 (some ((.int .i64 2),H10))))
 (pBin PP .eql T.int x0 (.int .i64 16) fun v23=>
 zaa v23 fun b24=>br b24
 (zaa v23 fun b25=>br b25
 (some ((.int .i64 1),H10))
 (pBin PP .eql T.int x0 (.int .i64 14) fun v26=>
 zaa v26 fun b27=>br b27
 (some ((.int .i64 3),H10))
 (some ((.int .i64 2),H10))))
 (pBin PP .eql T.int x0 (.int .i64 31) fun v28=>
 zaa v28 fun b29=>br b29
 (zaa v28 fun b30=>br b30
 (some ((.int .i64 1),H10))
 (pBin PP .eql T.int x0 (.int .i64 14) fun v31=>
 zaa v31 fun b32=>br b32
 (some ((.int .i64 3),H10))
 (some ((.int .i64 2),H10))))
 (pBin PP .eql T.int x0 (.int .i64 32) fun v33=>
 zaa v33 fun b34=>br b34
 (zaa v33 fun b35=>br b35
 (some ((.int .i64 1),H10))
 (pBin PP .eql T.int x0 (.int .i64 14) fun v36=>
 zaa v36 fun b37=>br b37
 (some ((.int .i64 3),H10))
 (some ((.int .i64 2),H10))))
 (pBin PP .eql T.int x0 (.int .i64 33) fun v38=>
 zaa v38 fun b39=>br b39
 (some ((.int .i64 1),H10))
 (pBin PP .eql T.int x0 (.int .i64 14) fun v40=>
 zaa v40 fun b41=>br b41
 (some ((.int .i64 3),H10))
 (some ((.int .i64 2),H10))))))))))
 (fun i11=>zav i11 0 (
 some ((.int .i64 2),H10)) (
 none))
 (some ((l9.headD undef),H10))
noncomputable def zfJ (R:zaf) (x0 x1:Value) (H0:Hp):Option (Value × Hp):=
 zag R F.a63 [x0,x1,(.int .i64 0),(.int .i64 (-1))] H0 fun r1 H2=>
 some (r1,H2)
noncomputable def zcS (R:zaf) (x x0 x1 x2:Value) (H0:Hp):Option (Value × Hp):=
 zfl PP .eql T.interface x fun v1=>
 zaa v1 fun b2=>br b2
 (some ((.tuple #[]),H0))
 (zgL PP T.term_fault x fun v3=>
 zaD 1 [.int .i64 0] 0 v3 fun c4=>
 zad 1 false c4 0 fun v5=>
 zau 1 H0 x0 (.pointer none) fun H6=>
 zau 1 H6 x1 (.slice none 0 0) fun H7=>
 zau 1 H7 x2 v5 fun H8=>
 some ((.tuple #[]),H8))
theorem zhv (R:zaf) (x x0 x1 x2:Value) (H0:Hp) {α:Type} (k:Hp→Option α):zhu PP orc R F.a64 [x0,x1,x2] x H0 k=zhx (zcS R x x0 x1 x2 H0) fun _ H=>k H:=by kernel_rfl
noncomputable def zdB (R:zaf) (x0 x1:Value) (H0:Hp):Option (Value × Hp):=zdb PP orc R F.a17 Go.Proofs.Tryz.f67 [x0,x1] H0
noncomputable def zhi (R:zaf) (x0:Value) (H0:Hp):Option (Value × Hp):=
 pBin PP .eql T.int32 x0 (.int .i32 32) fun v1=>
 some (v1,H0)
noncomputable def zcR (R:zaf) (x0:Value) (H0:Hp):Option (Value × Hp):=
 pNil x0 (
 zar 1 x0 fun p1=>
 zal 1 false H0 p1 fun v2=>
 pLen .sl v2 H0 fun v3=>
 pBin PP .eql T.int v3 (.int .i64 0) fun v4=>
 zaa v4 fun b5=>br b5
 (zaL PP T.term_fault [(0,(.int .i64 3))] fun v6=>
 some ((W0 (.iface T.term_fault v6)),H0))
 (pNil x0 (
 zar 1 x0 fun p7=>
 zal 1 false H0 p7 fun v8=>
 pIdx 1 v8 (.int .i64 0) fun p9=>
 zal 1 false H0 p9 fun v10=>
 pNil x0 (
 zar 1 x0 fun p11=>
 zal 1 false H0 p11 fun v12=>
 zcm 1 v12 (some (.int .i64 1)) none fun v13=>
 pNil x0 (
 zar 1 x0 fun p14=>
 zau 1 H0 p14 v13 fun H15=>
 some ((W1 v10),H15))))))
noncomputable def zes (R:zaf) (x0:Value) (H0:Hp):Option (Value × Hp):=
 zbw R F.a3 [x0] H0 (fun e1 H2=>
 some ((W0 e1),H2)) fun r3 H4=>
 pBin PP .lss T.int r3 (.int .i64 1) fun v5=>
 zaa v5 fun b6=>br b6
 (zaL PP T.term_fault [(0,(.int .i64 3))] fun v7=>
 some ((W0 (.iface T.term_fault v7)),H4))
 (pNil x0 (
 zar 2 x0 fun p8=>
 zal 1 false H4 p8 fun v9=>
 pLen .sl v9 H4 fun v10=>
 pBin PP .gtr T.int r3 v10 fun v11=>
 zaa v11 fun b12=>br b12
 (zaL PP T.term_fault [(0,(.int .i64 3))] fun v13=>
 some ((W0 (.iface T.term_fault v13)),H4))
 (pNil x0 (
 zar 2 x0 fun p14=>
 zal 1 false H4 p14 fun v15=>
 pBin PP .sub T.int r3 (.int .i64 1) fun v16=>
 pIdx 1 v15 v16 fun p17=>
 zal 1 false H4 p17 fun v18=>
 some ((W1 v18),H4)))))
noncomputable def zdA (R:zaf) (x0:Value) (H0:Hp):Option (Value × Hp):=
 zbw R F.a4 [x0] H0 (fun e1 H2=>
 some ((W0 e1),H2)) fun r3 H4=>
 zag R F.a21 [r3] H4 fun r5 H6=>
 zae r5 0 fun v7=>
 zae r5 1 fun v8=>
 pBin PP .neq T.api_Errno v8 (.int .i64 0) fun v9=>
 zaa v9 fun b10=>br b10
 (zaL PP T.term_fault [(0,(.int .i64 3))] fun v11=>
 some ((W0 (.iface T.term_fault v11)),H6))
 (pBin PP .geq T.uint64 v7 (.int .u64 2147483648) fun v12=>
 zaa v12 fun b13=>br b13
 (zaL PP T.term_fault [(0,(.int .i64 3))] fun v14=>
 some ((W0 (.iface T.term_fault v14)),H6))
 (zaq .i64 v7 fun v15=>
 some ((W1 v15),H6)))
noncomputable def zet (R:zaf) (x0:Value) (H0:Hp):Option (Value × Hp):=zdb PP orc R F.a20 Go.Proofs.Tryz.f72 [x0] H0
noncomputable def zew (R:zaf) (x0:Value) (H0:Hp):Option (Value × Hp):=
 pBin PP .lss T.int x0 (.int .i64 0) fun v1=>
 zaa v1 fun b2=>br b2
 (some ((.tuple #[(.pointer none),(.int .i64 1)]),H0))
 (zcb H0 fun v3 H4=>
 zcb H4 fun v5 H6=>
 zaL PP T.cadenceref07_Store [(0,x0),(2,v3),(3,v5)] fun v7=>
 zeV (zab v7) H6 fun p8 H9=>
 some ((.tuple #[p8,(.int .i64 0)]),H9))
noncomputable def zdC (R:zaf) (x0:Value) (H0:Hp):Option (Value × Hp):=zdb PP orc R F.a53 Go.Proofs.Tryz.f74 [x0] H0
noncomputable def zdE (R:zaf) (x0 x1:Value) (H0:Hp):Option (Value × Hp):=zdb PP orc R F.a36 Go.Proofs.Tryz.f75 [x0,x1] H0
noncomputable def zd6 (R:zaf) (x0 x1:Value) (H0:Hp):Option (Value × Hp):=zdb PP orc R F.a23 Go.Proofs.Tryz.f76 [x0,x1] H0
noncomputable def zch (R:zaf) (x0 x1:Value) (H0:Hp):Option (Value × Hp):=
 zad 1 false (zab x1) 0 fun v1=>
 pBin PP .eql T.int v1 (.int .i64 14) fun v2=>
 zaa v2 fun b3=>br b3
 (zad 1 false (zab x1) 3 fun v4=>
 zag R F.a1 [x0,v4] H0 fun r5 H6=>
 some (r5,H6))
 (zat (
 zad 1 false (zab x1) 0 fun v7=>
 pBin PP .eql T.int v7 (.int .i64 15) fun v8=>
 zaa v8 fun b9=>br b9
 (some (.next,[(.bool true)],H0))
 (zad 1 false (zab x1) 0 fun v10=>
 pBin PP .eql T.int v10 (.int .i64 16) fun v11=>
 zaa v11 fun b12=>br b12
 (some (.next,[(.bool true)],H0))
 (zad 1 false (zab x1) 0 fun v13=>
 pBin PP .geq T.int v13 (.int .i64 17) fun v14=>
 zaa v14 fun b15=>br b15
 (zad 1 false (zab x1) 0 fun v16=>
 pBin PP .leq T.int v16 (.int .i64 29) fun v17=>
 some (.next,[v17],H0))
 (some (.next,[(.bool false)],H0))))) fun q18 l19 H20=>zaE q18
 (zaa (l19.getD 0 undef) fun b22=>br b22
 (zad 1 false (zab x1) 2 fun v23=>
 zag R F.a1 [x0,v23] H20 fun r24 H25=>
 some (r24,H25))
 (zad 1 false (zab x1) 0 fun v26=>
 pBin PP .eql T.int v26 (.int .i64 30) fun v27=>
 zaa v27 fun b28=>br b28
 (zad 1 false (zab x1) 2 fun v29=>
 zag R F.a1 [x0,v29] H20 fun r30 H31=>
 zad 1 false (zab x1) 3 fun v32=>
 zag R F.a1 [x0,v32] H31 fun r33 H34=>
 pBin PP .add T.int r30 r33 fun v35=>
 pBin PP .leq T.int v35 (.int .i64 64) fun v36=>
 zaa v36 fun b37=>br b37
 (zad 1 false (zab x1) 2 fun v38=>
 zag R F.a1 [x0,v38] H34 fun r39 H40=>
 zad 1 false (zab x1) 3 fun v41=>
 zag R F.a1 [x0,v41] H40 fun r42 H43=>
 pBin PP .add T.int r39 r42 fun v44=>
 some (v44,H43))
 (zad 1 false (zab x1) 1 fun v45=>
 some (v45,H34)))
 (zad 1 false (zab x1) 1 fun v46=>
 some (v46,H20))))
 (fun i21=>zav i21 0 (
 zad 1 false (zab x1) 1 fun v47=>
 some (v47,H20)) (
 none))
 (some ((l19.headD undef),H20)))
noncomputable def zcz (R:zaf) (x0 x1:Value) (H0:Hp):Option (Value × Hp):=
 zad 1 false (zab x1) 0 fun v1=>
 zag R F.a51 [v1] H0 fun r2 H3=>
 pBin PP .lss T.int r2 (.int .i64 0) fun v4=>
 zaa v4 fun b5=>br b5
 (some ((.tuple #[(.int .i64 0),(.int .i64 73)]),H3))
 (zat (
 zad 1 false (zab x1) 1 fun v6=>
 pBin PP .lss T.int v6 (.int .i64 0) fun v7=>
 zaa v7 fun b8=>br b8
 (some (.next,[(.bool true)],H3))
 (zad 1 false (zab x1) 1 fun v9=>
 pBin PP .gtr T.int v9 (.int .i64 64) fun v10=>
 some (.next,[v10],H3))) fun q11 l12 H13=>zaE q11
 (zaa (l12.getD 0 undef) fun b15=>br b15
 (some ((.tuple #[(.int .i64 0),(.int .i64 5)]),H13))
 (zat (
 pBin PP .geq T.int r2 (.int .i64 1) fun v16=>
 zaa v16 fun b17=>br b17
 (zad 1 false (zab x1) 2 fun v18=>
 zag R F.a7 [x0,v18] H13 fun r19 H20=>
 pUn .not r19 fun v21=>
 zaa v21 fun b22=>br b22
 (some (.next,[(.bool true)],H20))
 (pBin PP .geq T.int r2 (.int .i64 2) fun v23=>
 zaa v23 fun b24=>br b24
 (zad 1 false (zab x1) 3 fun v25=>
 zag R F.a7 [x0,v25] H20 fun r26 H27=>
 pUn .not r26 fun v28=>
 zaa v28 fun b29=>br b29
 (some (.next,[(.bool true)],H27))
 (pBin PP .geq T.int r2 (.int .i64 3) fun v30=>
 zaa v30 fun b31=>br b31
 (zad 1 false (zab x1) 4 fun v32=>
 zag R F.a7 [x0,v32] H27 fun r33 H34=>
 pUn .not r33 fun v35=>
 some (.next,[v35],H34))
 (some (.next,[(.bool false)],H27))))
 (pBin PP .geq T.int r2 (.int .i64 3) fun v36=>
 zaa v36 fun b37=>br b37
 (zad 1 false (zab x1) 4 fun v38=>
 zag R F.a7 [x0,v38] H20 fun r39 H40=>
 pUn .not r39 fun v41=>
 some (.next,[v41],H40))
 (some (.next,[(.bool false)],H20)))))
 (pBin PP .geq T.int r2 (.int .i64 2) fun v42=>
 zaa v42 fun b43=>br b43
 (zad 1 false (zab x1) 3 fun v44=>
 zag R F.a7 [x0,v44] H13 fun r45 H46=>
 pUn .not r45 fun v47=>
 zaa v47 fun b48=>br b48
 (some (.next,[(.bool true)],H46))
 (pBin PP .geq T.int r2 (.int .i64 3) fun v49=>
 zaa v49 fun b50=>br b50
 (zad 1 false (zab x1) 4 fun v51=>
 zag R F.a7 [x0,v51] H46 fun r52 H53=>
 pUn .not r52 fun v54=>
 some (.next,[v54],H53))
 (some (.next,[(.bool false)],H46))))
 (pBin PP .geq T.int r2 (.int .i64 3) fun v55=>
 zaa v55 fun b56=>br b56
 (zad 1 false (zab x1) 4 fun v57=>
 zag R F.a7 [x0,v57] H13 fun r58 H59=>
 pUn .not r58 fun v60=>
 some (.next,[v60],H59))
 (some (.next,[(.bool false)],H13))))) fun q61 l62 H63=>zaE q61
 (zaa (l62.getD 0 undef) fun b65=>br b65
 (some ((.tuple #[(.int .i64 0),(.int .i64 70)]),H63))
 (zad 7 true (zab x1) 0 fun v66=>
 zag R F.a82 [v66,r2] H63 fun r67 H68=>
 zaa r67 fun b69=>br b69
 (some ((.tuple #[(.int .i64 0),(.int .i64 1)]),H68))
 (zad 7 true (zab x1) 0 fun v70=>
 zag R F.a80 [x0,v70] H68 fun r71 H72=>
 pUn .not r71 fun v73=>
 zaa v73 fun b74=>br b74
 (some ((.tuple #[(.int .i64 0),(.int .i64 71)]),H72))
 (zad 7 true (zab x1) 0 fun v75=>
 zag R F.a81 [x0,v75] H72 fun r76 H77=>
 pUn .not r76 fun v78=>
 zaa v78 fun b79=>br b79
 (some ((.tuple #[(.int .i64 0),(.int .i64 5)]),H77))
 (zat (
 zad 1 false (zab x1) 0 fun v80=>
 pBin PP .eql T.int v80 (.int .i64 4) fun v81=>
 zaa v81 fun b82=>br b82
 (pNil x0 (
 zar 3 x0 fun p83=>
 zal 1 false H77 p83 fun v84=>
 zad 1 false (zab x1) 6 fun v85=>
 zbB PP T.string (.int .i64 0) v84 v85 true H77 fun v86=>
 zae v86 0 fun v87=>
 zae v86 1 fun v88=>
 zad 1 false (zab x1) 6 fun v89=>
 zag R F.a33 [v89] H77 fun r90 H91=>
 pUn .not r90 fun v92=>
 zaa v92 fun b93=>br b93
 (some (.ret,[(.tuple #[(.int .i64 0),(.int .i64 72)])],H91))
 (zaa v88 fun b94=>br b94
 (zad 1 false (zab x1) 1 fun v95=>
 pBin PP .neq T.int v87 v95 fun v96=>
 zaa v96 fun b97=>br b97
 (some (.ret,[(.tuple #[(.int .i64 0),(.int .i64 72)])],H91))
 (some (.next,[],H91)))
 (some (.next,[],H91)))))
 (some (.next,[],H77))) fun q98 l99 H100=>zaE q98
 (pNil x0 (
 zar 2 x0 fun p102=>
 zal 1 false H100 p102 fun v103=>
 zad 7 true (zab x1) 0 fun v104=>
 zbB PP T.api_Node (.int .i64 0) v103 v104 true H100 fun v105=>
 zae v105 0 fun v106=>
 zae v105 1 fun v107=>
 zaa v107 fun b108=>br b108
 (some ((.tuple #[v106,(.int .i64 0)]),H100))
 (zat (
 pNil x0 (
 zar 0 x0 fun p109=>
 zal 1 false H100 p109 fun v110=>
 pBin PP .gtr T.int v110 (.int .i64 0) fun v111=>
 zaa v111 fun b112=>br b112
 (pNil x0 (
 zar 1 x0 fun p113=>
 zal 1 false H100 p113 fun v114=>
 pLen .sl v114 H100 fun v115=>
 pNil x0 (
 zar 0 x0 fun p116=>
 zal 1 false H100 p116 fun v117=>
 pBin PP .geq T.int v115 v117 fun v118=>
 zaa v118 fun b119=>br b119
 (some (.ret,[(.tuple #[(.int .i64 0),(.int .i64 4)])],H100))
 (some (.next,[],H100)))))
 (some (.next,[],H100)))) fun q120 l121 H122=>zaE q120
 (pNil x0 (
 zar 1 x0 fun p124=>
 zal 1 false H122 p124 fun v125=>
 zad 7 true (zab x1) 0 fun v126=>
 zak 7 [.int .i64 0,.int .i64 0,.int .i64 0,.int .i64 0,.int .i64 0,.int .u64 0,.string ⟨#[]⟩] 1 [(0,v126)] H122 fun v127 H128=>
 chk (Hp.rdP H128 p124 1 false=some v125) (
 zaB 7 64 v125 v127 H128 fun v129 H130=>
 pNil x0 (
 zar 1 x0 fun p131=>
 zau 1 H130 p131 v129 fun H132=>
 pNil x0 (
 zar 2 x0 fun p133=>
 zal 1 false H132 p133 fun v134=>
 zad 7 true (zab x1) 0 fun v135=>
 pNil x0 (
 zar 1 x0 fun p136=>
 zal 1 false H132 p136 fun v137=>
 pLen .sl v137 H132 fun v138=>
 pUpd PP T.api_Node v134 v135 v138 H132 fun H139=>
 zad 1 false (zab x1) 0 fun v140=>
 pBin PP .eql T.int v140 (.int .i64 4) fun v141=>
 zaa v141 fun b142=>br b142
 (pNil x0 (
 zar 3 x0 fun p143=>
 zal 1 false H139 p143 fun v144=>
 zad 1 false (zab x1) 6 fun v145=>
 zad 1 false (zab x1) 1 fun v146=>
 pUpd PP T.string v144 v145 v146 H139 fun H147=>
 pNil x0 (
 zar 1 x0 fun p148=>
 zal 1 false H147 p148 fun v149=>
 pLen .sl v149 H147 fun v150=>
 some ((.tuple #[v150,(.int .i64 0)]),H147))))
 (pNil x0 (
 zar 1 x0 fun p151=>
 zal 1 false H139 p151 fun v152=>
 pLen .sl v152 H139 fun v153=>
 some ((.tuple #[v153,(.int .i64 0)]),H139)))))))))
 (fun i123=>none)
 (some ((l121.headD undef),H122)))))
 (fun i101=>none)
 (some ((l99.headD undef),H100)))))))
 (fun i64=>zav i64 0 (
 zat (
 zad 1 false (zab x1) 0 fun v154=>
 pBin PP .eql T.int v154 (.int .i64 4) fun v155=>
 zaa v155 fun b156=>br b156
 (pNil x0 (
 zar 3 x0 fun p157=>
 zal 1 false H63 p157 fun v158=>
 zad 1 false (zab x1) 6 fun v159=>
 zbB PP T.string (.int .i64 0) v158 v159 true H63 fun v160=>
 zae v160 0 fun v161=>
 zae v160 1 fun v162=>
 zad 1 false (zab x1) 6 fun v163=>
 zag R F.a33 [v163] H63 fun r164 H165=>
 pUn .not r164 fun v166=>
 zaa v166 fun b167=>br b167
 (some (.ret,[(.tuple #[(.int .i64 0),(.int .i64 72)])],H165))
 (zaa v162 fun b168=>br b168
 (zad 1 false (zab x1) 1 fun v169=>
 pBin PP .neq T.int v161 v169 fun v170=>
 zaa v170 fun b171=>br b171
 (some (.ret,[(.tuple #[(.int .i64 0),(.int .i64 72)])],H165))
 (some (.next,[],H165)))
 (some (.next,[],H165)))))
 (some (.next,[],H63))) fun q172 l173 H174=>zaE q172
 (pNil x0 (
 zar 2 x0 fun p176=>
 zal 1 false H174 p176 fun v177=>
 zad 7 true (zab x1) 0 fun v178=>
 zbB PP T.api_Node (.int .i64 0) v177 v178 true H174 fun v179=>
 zae v179 0 fun v180=>
 zae v179 1 fun v181=>
 zaa v181 fun b182=>br b182
 (some ((.tuple #[v180,(.int .i64 0)]),H174))
 (zat (
 pNil x0 (
 zar 0 x0 fun p183=>
 zal 1 false H174 p183 fun v184=>
 pBin PP .gtr T.int v184 (.int .i64 0) fun v185=>
 zaa v185 fun b186=>br b186
 (pNil x0 (
 zar 1 x0 fun p187=>
 zal 1 false H174 p187 fun v188=>
 pLen .sl v188 H174 fun v189=>
 pNil x0 (
 zar 0 x0 fun p190=>
 zal 1 false H174 p190 fun v191=>
 pBin PP .geq T.int v189 v191 fun v192=>
 zaa v192 fun b193=>br b193
 (some (.ret,[(.tuple #[(.int .i64 0),(.int .i64 4)])],H174))
 (some (.next,[],H174)))))
 (some (.next,[],H174)))) fun q194 l195 H196=>zaE q194
 (pNil x0 (
 zar 1 x0 fun p198=>
 zal 1 false H196 p198 fun v199=>
 zad 7 true (zab x1) 0 fun v200=>
 zak 7 [.int .i64 0,.int .i64 0,.int .i64 0,.int .i64 0,.int .i64 0,.int .u64 0,.string ⟨#[]⟩] 1 [(0,v200)] H196 fun v201 H202=>
 chk (Hp.rdP H202 p198 1 false=some v199) (
 zaB 7 64 v199 v201 H202 fun v203 H204=>
 pNil x0 (
 zar 1 x0 fun p205=>
 zau 1 H204 p205 v203 fun H206=>
 pNil x0 (
 zar 2 x0 fun p207=>
 zal 1 false H206 p207 fun v208=>
 zad 7 true (zab x1) 0 fun v209=>
 pNil x0 (
 zar 1 x0 fun p210=>
 zal 1 false H206 p210 fun v211=>
 pLen .sl v211 H206 fun v212=>
 pUpd PP T.api_Node v208 v209 v212 H206 fun H213=>
 zad 1 false (zab x1) 0 fun v214=>
 pBin PP .eql T.int v214 (.int .i64 4) fun v215=>
 zaa v215 fun b216=>br b216
 (pNil x0 (
 zar 3 x0 fun p217=>
 zal 1 false H213 p217 fun v218=>
 zad 1 false (zab x1) 6 fun v219=>
 zad 1 false (zab x1) 1 fun v220=>
 pUpd PP T.string v218 v219 v220 H213 fun H221=>
 pNil x0 (
 zar 1 x0 fun p222=>
 zal 1 false H221 p222 fun v223=>
 pLen .sl v223 H221 fun v224=>
 some ((.tuple #[v224,(.int .i64 0)]),H221))))
 (pNil x0 (
 zar 1 x0 fun p225=>
 zal 1 false H213 p225 fun v226=>
 pLen .sl v226 H213 fun v227=>
 some ((.tuple #[v227,(.int .i64 0)]),H213)))))))))
 (fun i197=>none)
 (some ((l195.headD undef),H196)))))
 (fun i175=>none)
 (some ((l173.headD undef),H174))) (
 none))
 (some ((l62.headD undef),H63))))
 (fun i14=>zav i14 0 (
 zat (
 zad 1 false (zab x1) 0 fun v228=>
 pBin PP .eql T.int v228 (.int .i64 4) fun v229=>
 zaa v229 fun b230=>br b230
 (pNil x0 (
 zar 3 x0 fun p231=>
 zal 1 false H13 p231 fun v232=>
 zad 1 false (zab x1) 6 fun v233=>
 zbB PP T.string (.int .i64 0) v232 v233 true H13 fun v234=>
 zae v234 0 fun v235=>
 zae v234 1 fun v236=>
 zad 1 false (zab x1) 6 fun v237=>
 zag R F.a33 [v237] H13 fun r238 H239=>
 pUn .not r238 fun v240=>
 zaa v240 fun b241=>br b241
 (some (.ret,[(.tuple #[(.int .i64 0),(.int .i64 72)])],H239))
 (zaa v236 fun b242=>br b242
 (zad 1 false (zab x1) 1 fun v243=>
 pBin PP .neq T.int v235 v243 fun v244=>
 zaa v244 fun b245=>br b245
 (some (.ret,[(.tuple #[(.int .i64 0),(.int .i64 72)])],H239))
 (some (.next,[],H239)))
 (some (.next,[],H239)))))
 (some (.next,[],H13))) fun q246 l247 H248=>zaE q246
 (pNil x0 (
 zar 2 x0 fun p250=>
 zal 1 false H248 p250 fun v251=>
 zad 7 true (zab x1) 0 fun v252=>
 zbB PP T.api_Node (.int .i64 0) v251 v252 true H248 fun v253=>
 zae v253 0 fun v254=>
 zae v253 1 fun v255=>
 zaa v255 fun b256=>br b256
 (some ((.tuple #[v254,(.int .i64 0)]),H248))
 (zat (
 pNil x0 (
 zar 0 x0 fun p257=>
 zal 1 false H248 p257 fun v258=>
 pBin PP .gtr T.int v258 (.int .i64 0) fun v259=>
 zaa v259 fun b260=>br b260
 (pNil x0 (
 zar 1 x0 fun p261=>
 zal 1 false H248 p261 fun v262=>
 pLen .sl v262 H248 fun v263=>
 pNil x0 (
 zar 0 x0 fun p264=>
 zal 1 false H248 p264 fun v265=>
 pBin PP .geq T.int v263 v265 fun v266=>
 zaa v266 fun b267=>br b267
 (some (.ret,[(.tuple #[(.int .i64 0),(.int .i64 4)])],H248))
 (some (.next,[],H248)))))
 (some (.next,[],H248)))) fun q268 l269 H270=>zaE q268
 (pNil x0 (
 zar 1 x0 fun p272=>
 zal 1 false H270 p272 fun v273=>
 zad 7 true (zab x1) 0 fun v274=>
 zak 7 [.int .i64 0,.int .i64 0,.int .i64 0,.int .i64 0,.int .i64 0,.int .u64 0,.string ⟨#[]⟩] 1 [(0,v274)] H270 fun v275 H276=>
 chk (Hp.rdP H276 p272 1 false=some v273) (
 zaB 7 64 v273 v275 H276 fun v277 H278=>
 pNil x0 (
 zar 1 x0 fun p279=>
 zau 1 H278 p279 v277 fun H280=>
 pNil x0 (
 zar 2 x0 fun p281=>
 zal 1 false H280 p281 fun v282=>
 zad 7 true (zab x1) 0 fun v283=>
 pNil x0 (
 zar 1 x0 fun p284=>
 zal 1 false H280 p284 fun v285=>
 pLen .sl v285 H280 fun v286=>
 pUpd PP T.api_Node v282 v283 v286 H280 fun H287=>
 zad 1 false (zab x1) 0 fun v288=>
 pBin PP .eql T.int v288 (.int .i64 4) fun v289=>
 zaa v289 fun b290=>br b290
 (pNil x0 (
 zar 3 x0 fun p291=>
 zal 1 false H287 p291 fun v292=>
 zad 1 false (zab x1) 6 fun v293=>
 zad 1 false (zab x1) 1 fun v294=>
 pUpd PP T.string v292 v293 v294 H287 fun H295=>
 pNil x0 (
 zar 1 x0 fun p296=>
 zal 1 false H295 p296 fun v297=>
 pLen .sl v297 H295 fun v298=>
 some ((.tuple #[v298,(.int .i64 0)]),H295))))
 (pNil x0 (
 zar 1 x0 fun p299=>
 zal 1 false H287 p299 fun v300=>
 pLen .sl v300 H287 fun v301=>
 some ((.tuple #[v301,(.int .i64 0)]),H287)))))))))
 (fun i271=>none)
 (some ((l269.headD undef),H270)))))
 (fun i249=>none)
 (some ((l247.headD undef),H248))) (
 none))
 (some ((l12.headD undef),H13)))
noncomputable def zfp (R:zaf) (x0:Value) (H0:Hp):Option (Value × Hp):=
 pNil x0 (
 zar 1 x0 fun p1=>
 zal 1 false H0 p1 fun v2=>
 pLen .sl v2 H0 fun v3=>
 some (v3,H0))
noncomputable def zjL (R:zaf) (x0 x1:Value) (H0:Hp):Option (Value × Hp):=
 pBin PP .lss T.int x0 (.int .i64 1) fun v1=>
 zaa v1 fun b2=>br b2
 (some ((.int .u64 0),H0))
 (pBin PP .geq T.int x0 (.int .i64 64) fun v3=>
 zaa v3 fun b4=>br b4
 (some (x1,H0))
 (zaq .u64 x0 fun v5=>
 pBin PP .shl T.uint64 (.int .u64 1) v5 fun v6=>
 pBin PP .sub T.uint64 v6 (.int .u64 1) fun v7=>
 pBin PP .and T.uint64 x1 v7 fun v8=>
 some (v8,H0)))
noncomputable def zkW (R:zaf) (x0:Value) (H0:Hp):Option (Value × Hp):=
 zaa x0 fun b1=>br b1
 (some ((.int .u64 1),H0))
 (some ((.int .u64 0),H0))
noncomputable def zkY (R:zaf) (x0 x1 x2 x3:Value) (H0:Hp):Option (Value × Hp):=
 zat (
 pBin PP .lss T.int x0 (.int .i64 9) fun v1=>
 zaa v1 fun b2=>br b2
 (some (.ret,[(.tuple #[(.bool false),(.int .i64 73)])],H0))
 (pBin PP .gtr T.int x0 (.int .i64 13) fun v3=>
 zaa v3 fun b4=>br b4
 (some (.ret,[(.tuple #[(.bool false),(.int .i64 73)])],H0))
 (some (.next,[],H0)))) fun q5 l6 H7=>zaE q5
 (zag R F.a5 [x1] H7 fun r9 H10=>
 pUn .not r9 fun v11=>
 zaa v11 fun b12=>br b12
 (some ((.tuple #[(.bool false),(.int .i64 5)]),H10))
 (zag R F.a0 [x1,x2] H10 fun r13 H14=>
 zag R F.a0 [x1,x3] H14 fun r15 H16=>
 zag R F.a22 [x1,r13] H16 fun r17 H18=>
 zag R F.a22 [x1,r15] H18 fun r19 H20=>
 pBin PP .eql T.int x0 (.int .i64 9) fun v21=>
 zaa v21 fun b22=>br b22
 (pBin PP .eql T.uint64 r13 r15 fun v23=>
 some ((.tuple #[v23,(.int .i64 0)]),H20))
 (pBin PP .eql T.int x0 (.int .i64 10) fun v24=>
 zaa v24 fun b25=>br b25
 (pBin PP .lss T.uint64 r13 r15 fun v26=>
 some ((.tuple #[v26,(.int .i64 0)]),H20))
 (pBin PP .eql T.int x0 (.int .i64 11) fun v27=>
 zaa v27 fun b28=>br b28
 (pBin PP .leq T.uint64 r13 r15 fun v29=>
 some ((.tuple #[v29,(.int .i64 0)]),H20))
 (pBin PP .eql T.int x0 (.int .i64 12) fun v30=>
 zaa v30 fun b31=>br b31
 (pBin PP .lss T.int64 r17 r19 fun v32=>
 some ((.tuple #[v32,(.int .i64 0)]),H20))
 (pBin PP .leq T.int64 r17 r19 fun v33=>
 some ((.tuple #[v33,(.int .i64 0)]),H20)))))))
 (fun i8=>none)
 (some ((l6.headD undef),H7))
noncomputable def zm1 (R:zaf) (x0 x1 x2:Value) (H0:Hp):Option (Value × Hp):=
 pBin PP .neq T.int x0 (.int .i64 15) fun v1=>
 zaa v1 fun b2=>br b2
 (pBin PP .neq T.int x0 (.int .i64 16) fun v3=>
 zaa v3 fun b4=>br b4
 (some ((.tuple #[(.int .u64 0),(.int .i64 73)]),H0))
 (zag R F.a5 [x1] H0 fun r5 H6=>
 pUn .not r5 fun v7=>
 zaa v7 fun b8=>br b8
 (some ((.tuple #[(.int .u64 0),(.int .i64 5)]),H6))
 (pBin PP .eql T.int x0 (.int .i64 15) fun v9=>
 zaa v9 fun b10=>br b10
 (pUn .xor x2 fun v11=>
 zag R F.a0 [x1,v11] H6 fun r12 H13=>
 some ((.tuple #[r12,(.int .i64 0)]),H13))
 (pUn .neg x2 fun v14=>
 zag R F.a0 [x1,v14] H6 fun r15 H16=>
 some ((.tuple #[r15,(.int .i64 0)]),H16)))))
 (zag R F.a5 [x1] H0 fun r17 H18=>
 pUn .not r17 fun v19=>
 zaa v19 fun b20=>br b20
 (some ((.tuple #[(.int .u64 0),(.int .i64 5)]),H18))
 (pBin PP .eql T.int x0 (.int .i64 15) fun v21=>
 zaa v21 fun b22=>br b22
 (pUn .xor x2 fun v23=>
 zag R F.a0 [x1,v23] H18 fun r24 H25=>
 some ((.tuple #[r24,(.int .i64 0)]),H25))
 (pUn .neg x2 fun v26=>
 zag R F.a0 [x1,v26] H18 fun r27 H28=>
 some ((.tuple #[r27,(.int .i64 0)]),H28))))
noncomputable def zk0 (R:zaf) (x0 x1 x2 x3:Value) (H0:Hp):Option (Value × Hp):=
 zat (
 pBin PP .lss T.int x0 (.int .i64 17) fun v1=>
 zaa v1 fun b2=>br b2
 (some (.ret,[(.tuple #[(.int .u64 0),(.int .i64 73)])],H0))
 (pBin PP .gtr T.int x0 (.int .i64 29) fun v3=>
 zaa v3 fun b4=>br b4
 (some (.ret,[(.tuple #[(.int .u64 0),(.int .i64 73)])],H0))
 (some (.next,[],H0)))) fun q5 l6 H7=>zaE q5
 (zat (
 zag R F.a5 [x1] H7 fun r9 H10=>
 pUn .not r9 fun v11=>
 zaa v11 fun b12=>br b12
 (some (.ret,[(.tuple #[(.int .u64 0),(.int .i64 5)])],H10))
 (zag R F.a45 [x0] H10 fun r13 H14=>
 zaa r13 fun b15=>br b15
 (zaq .u64 x1 fun v16=>
 zag R F.a29 [v16] H14 fun r17 H18=>
 pBin PP .neq T.int r17 (.int .i64 1) fun v19=>
 zaa v19 fun b20=>br b20
 (some (.ret,[(.tuple #[(.int .u64 0),(.int .i64 5)])],H18))
 (some (.next,[],H18)))
 (some (.next,[],H14)))) fun q21 l22 H23=>zaE q21
 (zag R F.a0 [x1,x2] H23 fun r25 H26=>
 zag R F.a0 [x1,x3] H26 fun r27 H28=>
 zag R F.a45 [x0] H28 fun r29 H30=>
 zaa r29 fun b31=>br b31
 (zaq .u64 x1 fun v32=>
 pBin PP .rem T.uint64 r27 v32 fun v33=>
 zaq .i64 v33 fun v34=>
 zag R F.a44 [x0,x1,r25,v34] H30 fun r35 H36=>
 some ((.tuple #[r35,(.int .i64 0)]),H36))
 (pBin PP .eql T.int x0 (.int .i64 17) fun v37=>
 zaa v37 fun b38=>br b38
 (pBin PP .and T.uint64 r25 r27 fun v39=>
 zag R F.a0 [x1,v39] H30 fun r40 H41=>
 some ((.tuple #[r40,(.int .i64 0)]),H41))
 (pBin PP .eql T.int x0 (.int .i64 18) fun v42=>
 zaa v42 fun b43=>br b43
 (pBin PP .or T.uint64 r25 r27 fun v44=>
 zag R F.a0 [x1,v44] H30 fun r45 H46=>
 some ((.tuple #[r45,(.int .i64 0)]),H46))
 (pBin PP .eql T.int x0 (.int .i64 19) fun v47=>
 zaa v47 fun b48=>br b48
 (pBin PP .xor T.uint64 r25 r27 fun v49=>
 zag R F.a0 [x1,v49] H30 fun r50 H51=>
 some ((.tuple #[r50,(.int .i64 0)]),H51))
 (pBin PP .eql T.int x0 (.int .i64 20) fun v52=>
 zaa v52 fun b53=>br b53
 (pBin PP .add T.uint64 r25 r27 fun v54=>
 zag R F.a0 [x1,v54] H30 fun r55 H56=>
 some ((.tuple #[r55,(.int .i64 0)]),H56))
 (pBin PP .eql T.int x0 (.int .i64 21) fun v57=>
 zaa v57 fun b58=>br b58
 (pBin PP .sub T.uint64 r25 r27 fun v59=>
 zag R F.a0 [x1,v59] H30 fun r60 H61=>
 some ((.tuple #[r60,(.int .i64 0)]),H61))
 (pBin PP .eql T.int x0 (.int .i64 22) fun v62=>
 zaa v62 fun b63=>br b63
 (pBin PP .mul T.uint64 r25 r27 fun v64=>
 zag R F.a0 [x1,v64] H30 fun r65 H66=>
 some ((.tuple #[r65,(.int .i64 0)]),H66))
 (pBin PP .eql T.int x0 (.int .i64 23) fun v67=>
 zaa v67 fun b68=>br b68
 (pBin PP .neq T.uint64 r27 (.int .u64 0) fun v69=>
 zaa v69 fun b70=>br b70
 (pBin PP .quo T.uint64 r25 r27 fun v71=>
 zag R F.a0 [x1,v71] H30 fun r72 H73=>
 some ((.tuple #[r72,(.int .i64 0)]),H73))
 (zag R F.a0 [x1,(.int .u64 18446744073709551615)] H30 fun r74 H75=>
 some ((.tuple #[r74,(.int .i64 0)]),H75)))
 (pBin PP .eql T.int x0 (.int .i64 24) fun v76=>
 zaa v76 fun b77=>br b77
 (pBin PP .neq T.uint64 r27 (.int .u64 0) fun v78=>
 zaa v78 fun b79=>br b79
 (pBin PP .rem T.uint64 r25 r27 fun v80=>
 zag R F.a0 [x1,v80] H30 fun r81 H82=>
 some ((.tuple #[r81,(.int .i64 0)]),H82))
 (zag R F.a0 [x1,r25] H30 fun r83 H84=>
 some ((.tuple #[r83,(.int .i64 0)]),H84)))
 (zag R F.a0 [x1,(.int .u64 0)] H30 fun r85 H86=>
 some ((.tuple #[r85,(.int .i64 0)]),H86)))))))))))
 (fun i24=>none)
 (some ((l22.headD undef),H23)))
 (fun i8=>none)
 (some ((l6.headD undef),H7))
noncomputable def zkZ (R:zaf) (x0 x1 x2 x3:Value) (H0:Hp):Option (Value × Hp):=
 zag R F.a5 [x0] H0 fun r1 H2=>
 pUn .not r1 fun v3=>
 zaa v3 fun b4=>br b4
 (some ((.tuple #[(.int .u64 0),(.int .i64 5)]),H2))
 (zag R F.a5 [x2] H2 fun r5 H6=>
 pUn .not r5 fun v7=>
 zaa v7 fun b8=>br b8
 (some ((.tuple #[(.int .u64 0),(.int .i64 5)]),H6))
 (pBin PP .add T.int x0 x2 fun v9=>
 pBin PP .gtr T.int v9 (.int .i64 64) fun v10=>
 zaa v10 fun b11=>br b11
 (some ((.tuple #[(.int .u64 0),(.int .i64 5)]),H6))
 (zag R F.a0 [x0,x1] H6 fun r12 H13=>
 zaq .u64 x2 fun v14=>
 pBin PP .shl T.uint64 r12 v14 fun v15=>
 zag R F.a0 [x2,x3] H13 fun r16 H17=>
 pBin PP .or T.uint64 v15 r16 fun v18=>
 some ((.tuple #[v18,(.int .i64 0)]),H17))))
noncomputable def zig (R:zaf) (x0 x1 x2 x3:Value) (H0:Hp):Option (Value × Hp):=
 zat (
 zag R F.a5 [x0] H0 fun r1 H2=>
 pUn .not r1 fun v3=>
 zaa v3 fun b4=>br b4
 (some (.ret,[(.tuple #[(.int .u64 0),(.int .i64 5)])],H2))
 (pBin PP .lss T.int x3 (.int .i64 1) fun v5=>
 zaa v5 fun b6=>br b6
 (some (.ret,[(.tuple #[(.int .u64 0),(.int .i64 5)])],H2))
 (pBin PP .lss T.int x2 (.int .i64 0) fun v7=>
 zaa v7 fun b8=>br b8
 (some (.ret,[(.tuple #[(.int .u64 0),(.int .i64 5)])],H2))
 (pBin PP .gtr T.int x2 x0 fun v9=>
 zaa v9 fun b10=>br b10
 (some (.ret,[(.tuple #[(.int .u64 0),(.int .i64 5)])],H2))
 (pBin PP .sub T.int x0 x2 fun v11=>
 pBin PP .gtr T.int x3 v11 fun v12=>
 zaa v12 fun b13=>br b13
 (some (.ret,[(.tuple #[(.int .u64 0),(.int .i64 5)])],H2))
 (some (.next,[],H2))))))) fun q14 l15 H16=>zaE q14
 (zag R F.a0 [x0,x1] H16 fun r18 H19=>
 zaq .u64 x2 fun v20=>
 pBin PP .shr T.uint64 r18 v20 fun v21=>
 zag R F.a0 [x3,v21] H19 fun r22 H23=>
 some ((.tuple #[r22,(.int .i64 0)]),H23))
 (fun i17=>none)
 (some ((l15.headD undef),H16))
noncomputable def zkX (R:zaf) (x0 x1 x2 x3:Value) (H0:Hp):Option (Value × Hp):=
 zat (
 pBin PP .neq T.int x0 (.int .i64 32) fun v1=>
 zaa v1 fun b2=>br b2
 (pBin PP .neq T.int x0 (.int .i64 33) fun v3=>
 zaa v3 fun b4=>br b4
 (some (.ret,[(.tuple #[(.int .u64 0),(.int .i64 73)])],H0))
 (some (.next,[],H0)))
 (some (.next,[],H0))) fun q5 l6 H7=>zaE q5
 (zat (
 zag R F.a5 [x1] H7 fun r9 H10=>
 pUn .not r9 fun v11=>
 zaa v11 fun b12=>br b12
 (some (.ret,[(.tuple #[(.int .u64 0),(.int .i64 5)])],H10))
 (zag R F.a5 [x3] H10 fun r13 H14=>
 pUn .not r13 fun v15=>
 zaa v15 fun b16=>br b16
 (some (.ret,[(.tuple #[(.int .u64 0),(.int .i64 5)])],H14))
 (pBin PP .lss T.int x3 x1 fun v17=>
 zaa v17 fun b18=>br b18
 (some (.ret,[(.tuple #[(.int .u64 0),(.int .i64 5)])],H14))
 (some (.next,[],H14))))) fun q19 l20 H21=>zaE q19
 (pBin PP .eql T.int x0 (.int .i64 32) fun v23=>
 zaa v23 fun b24=>br b24
 (zag R F.a0 [x1,x2] H21 fun r25 H26=>
 some ((.tuple #[r25,(.int .i64 0)]),H26))
 (zag R F.a22 [x1,x2] H21 fun r27 H28=>
 zaq .u64 r27 fun v29=>
 zag R F.a0 [x3,v29] H28 fun r30 H31=>
 some ((.tuple #[r30,(.int .i64 0)]),H31)))
 (fun i22=>none)
 (some ((l20.headD undef),H21)))
 (fun i8=>none)
 (some ((l6.headD undef),H7))
noncomputable def zd9 (R:zaf) (x0 x1:Value) (H0:Hp):Option (Value × Hp):=
 pBin PP .lss T.int x0 (.int .i64 1) fun v1=>
 zaa v1 fun b2=>br b2
 (some ((.int .u64 0),H0))
 (pBin PP .geq T.int x0 (.int .i64 64) fun v3=>
 zaa v3 fun b4=>br b4
 (some (x1,H0))
 (zaq .u64 x0 fun v5=>
 pBin PP .shl T.uint64 (.int .u64 1) v5 fun v6=>
 pBin PP .rem T.uint64 x1 v6 fun v7=>
 some (v7,H0)))
noncomputable def zcT (R:zaf) (x0 x1:Value) (H0:Hp):Option (Value × Hp):=
 pBin PP .geq T.int x1 (.int .i64 1) fun v1=>
 zaa v1 fun b2=>br b2
 (pNil x0 (
 zar 1 x0 fun p3=>
 zal 1 false H0 p3 fun v4=>
 pLen .sl v4 H0 fun v5=>
 pBin PP .leq T.int x1 v5 fun v6=>
 some (v6,H0)))
 (some ((.bool false),H0))
noncomputable def zib (R:zaf) (x0:Value) (H0:Hp):Option (Value × Hp):=
 zad 1 false (zab x0) 0 fun v1=>
 zag R F.a10 [v1] H0 fun r2 H3=>
 pBin PP .lss T.int r2 (.int .i64 1) fun v4=>
 zaa v4 fun b5=>br b5
 (zad 1 false (zab x0) 2 fun v6=>
 pBin PP .neq T.int v6 (.int .i64 0) fun v7=>
 zaa v7 fun b8=>br b8
 (some ((.bool true),H3))
 (pBin PP .lss T.int r2 (.int .i64 2) fun v9=>
 zaa v9 fun b10=>br b10
 (zad 1 false (zab x0) 3 fun v11=>
 pBin PP .neq T.int v11 (.int .i64 0) fun v12=>
 zaa v12 fun b13=>br b13
 (some ((.bool true),H3))
 (pBin PP .lss T.int r2 (.int .i64 3) fun v14=>
 zaa v14 fun b15=>br b15
 (zad 1 false (zab x0) 4 fun v16=>
 pBin PP .neq T.int v16 (.int .i64 0) fun v17=>
 zaa v17 fun b18=>br b18
 (some ((.bool true),H3))
 (zad 1 false (zab x0) 5 fun v19=>
 pBin PP .neq T.uint64 v19 (.int .u64 0) fun v20=>
 zaa v20 fun b21=>br b21
 (zad 1 false (zab x0) 0 fun v22=>
 pBin PP .neq T.int v22 (.int .i64 3) fun v23=>
 zaa v23 fun b24=>br b24
 (zad 1 false (zab x0) 0 fun v25=>
 pBin PP .neq T.int v25 (.int .i64 31) fun v26=>
 zaa v26 fun b27=>br b27
 (some ((.bool true),H3))
 (zad 1 false (zab x0) 6 fun v28=>
 pBin PP .neq T.string v28 (.string ⟨#[]⟩) fun v29=>
 zaa v29 fun b30=>br b30
 (zad 1 false (zab x0) 0 fun v31=>
 pBin PP .neq T.int v31 (.int .i64 4) fun v32=>
 some (v32,H3))
 (some ((.bool false),H3))))
 (zad 1 false (zab x0) 6 fun v33=>
 pBin PP .neq T.string v33 (.string ⟨#[]⟩) fun v34=>
 zaa v34 fun b35=>br b35
 (zad 1 false (zab x0) 0 fun v36=>
 pBin PP .neq T.int v36 (.int .i64 4) fun v37=>
 some (v37,H3))
 (some ((.bool false),H3))))
 (zad 1 false (zab x0) 6 fun v38=>
 pBin PP .neq T.string v38 (.string ⟨#[]⟩) fun v39=>
 zaa v39 fun b40=>br b40
 (zad 1 false (zab x0) 0 fun v41=>
 pBin PP .neq T.int v41 (.int .i64 4) fun v42=>
 some (v42,H3))
 (some ((.bool false),H3)))))
 (zad 1 false (zab x0) 5 fun v43=>
 pBin PP .neq T.uint64 v43 (.int .u64 0) fun v44=>
 zaa v44 fun b45=>br b45
 (zad 1 false (zab x0) 0 fun v46=>
 pBin PP .neq T.int v46 (.int .i64 3) fun v47=>
 zaa v47 fun b48=>br b48
 (zad 1 false (zab x0) 0 fun v49=>
 pBin PP .neq T.int v49 (.int .i64 31) fun v50=>
 zaa v50 fun b51=>br b51
 (some ((.bool true),H3))
 (zad 1 false (zab x0) 6 fun v52=>
 pBin PP .neq T.string v52 (.string ⟨#[]⟩) fun v53=>
 zaa v53 fun b54=>br b54
 (zad 1 false (zab x0) 0 fun v55=>
 pBin PP .neq T.int v55 (.int .i64 4) fun v56=>
 some (v56,H3))
 (some ((.bool false),H3))))
 (zad 1 false (zab x0) 6 fun v57=>
 pBin PP .neq T.string v57 (.string ⟨#[]⟩) fun v58=>
 zaa v58 fun b59=>br b59
 (zad 1 false (zab x0) 0 fun v60=>
 pBin PP .neq T.int v60 (.int .i64 4) fun v61=>
 some (v61,H3))
 (some ((.bool false),H3))))
 (zad 1 false (zab x0) 6 fun v62=>
 pBin PP .neq T.string v62 (.string ⟨#[]⟩) fun v63=>
 zaa v63 fun b64=>br b64
 (zad 1 false (zab x0) 0 fun v65=>
 pBin PP .neq T.int v65 (.int .i64 4) fun v66=>
 some (v66,H3))
 (some ((.bool false),H3))))))
 (pBin PP .lss T.int r2 (.int .i64 3) fun v67=>
 zaa v67 fun b68=>br b68
 (zad 1 false (zab x0) 4 fun v69=>
 pBin PP .neq T.int v69 (.int .i64 0) fun v70=>
 zaa v70 fun b71=>br b71
 (some ((.bool true),H3))
 (zad 1 false (zab x0) 5 fun v72=>
 pBin PP .neq T.uint64 v72 (.int .u64 0) fun v73=>
 zaa v73 fun b74=>br b74
 (zad 1 false (zab x0) 0 fun v75=>
 pBin PP .neq T.int v75 (.int .i64 3) fun v76=>
 zaa v76 fun b77=>br b77
 (zad 1 false (zab x0) 0 fun v78=>
 pBin PP .neq T.int v78 (.int .i64 31) fun v79=>
 zaa v79 fun b80=>br b80
 (some ((.bool true),H3))
 (zad 1 false (zab x0) 6 fun v81=>
 pBin PP .neq T.string v81 (.string ⟨#[]⟩) fun v82=>
 zaa v82 fun b83=>br b83
 (zad 1 false (zab x0) 0 fun v84=>
 pBin PP .neq T.int v84 (.int .i64 4) fun v85=>
 some (v85,H3))
 (some ((.bool false),H3))))
 (zad 1 false (zab x0) 6 fun v86=>
 pBin PP .neq T.string v86 (.string ⟨#[]⟩) fun v87=>
 zaa v87 fun b88=>br b88
 (zad 1 false (zab x0) 0 fun v89=>
 pBin PP .neq T.int v89 (.int .i64 4) fun v90=>
 some (v90,H3))
 (some ((.bool false),H3))))
 (zad 1 false (zab x0) 6 fun v91=>
 pBin PP .neq T.string v91 (.string ⟨#[]⟩) fun v92=>
 zaa v92 fun b93=>br b93
 (zad 1 false (zab x0) 0 fun v94=>
 pBin PP .neq T.int v94 (.int .i64 4) fun v95=>
 some (v95,H3))
 (some ((.bool false),H3)))))
 (zad 1 false (zab x0) 5 fun v96=>
 pBin PP .neq T.uint64 v96 (.int .u64 0) fun v97=>
 zaa v97 fun b98=>br b98
 (zad 1 false (zab x0) 0 fun v99=>
 pBin PP .neq T.int v99 (.int .i64 3) fun v100=>
 zaa v100 fun b101=>br b101
 (zad 1 false (zab x0) 0 fun v102=>
 pBin PP .neq T.int v102 (.int .i64 31) fun v103=>
 zaa v103 fun b104=>br b104
 (some ((.bool true),H3))
 (zad 1 false (zab x0) 6 fun v105=>
 pBin PP .neq T.string v105 (.string ⟨#[]⟩) fun v106=>
 zaa v106 fun b107=>br b107
 (zad 1 false (zab x0) 0 fun v108=>
 pBin PP .neq T.int v108 (.int .i64 4) fun v109=>
 some (v109,H3))
 (some ((.bool false),H3))))
 (zad 1 false (zab x0) 6 fun v110=>
 pBin PP .neq T.string v110 (.string ⟨#[]⟩) fun v111=>
 zaa v111 fun b112=>br b112
 (zad 1 false (zab x0) 0 fun v113=>
 pBin PP .neq T.int v113 (.int .i64 4) fun v114=>
 some (v114,H3))
 (some ((.bool false),H3))))
 (zad 1 false (zab x0) 6 fun v115=>
 pBin PP .neq T.string v115 (.string ⟨#[]⟩) fun v116=>
 zaa v116 fun b117=>br b117
 (zad 1 false (zab x0) 0 fun v118=>
 pBin PP .neq T.int v118 (.int .i64 4) fun v119=>
 some (v119,H3))
 (some ((.bool false),H3)))))))
 (pBin PP .lss T.int r2 (.int .i64 2) fun v120=>
 zaa v120 fun b121=>br b121
 (zad 1 false (zab x0) 3 fun v122=>
 pBin PP .neq T.int v122 (.int .i64 0) fun v123=>
 zaa v123 fun b124=>br b124
 (some ((.bool true),H3))
 (pBin PP .lss T.int r2 (.int .i64 3) fun v125=>
 zaa v125 fun b126=>br b126
 (zad 1 false (zab x0) 4 fun v127=>
 pBin PP .neq T.int v127 (.int .i64 0) fun v128=>
 zaa v128 fun b129=>br b129
 (some ((.bool true),H3))
 (zad 1 false (zab x0) 5 fun v130=>
 pBin PP .neq T.uint64 v130 (.int .u64 0) fun v131=>
 zaa v131 fun b132=>br b132
 (zad 1 false (zab x0) 0 fun v133=>
 pBin PP .neq T.int v133 (.int .i64 3) fun v134=>
 zaa v134 fun b135=>br b135
 (zad 1 false (zab x0) 0 fun v136=>
 pBin PP .neq T.int v136 (.int .i64 31) fun v137=>
 zaa v137 fun b138=>br b138
 (some ((.bool true),H3))
 (zad 1 false (zab x0) 6 fun v139=>
 pBin PP .neq T.string v139 (.string ⟨#[]⟩) fun v140=>
 zaa v140 fun b141=>br b141
 (zad 1 false (zab x0) 0 fun v142=>
 pBin PP .neq T.int v142 (.int .i64 4) fun v143=>
 some (v143,H3))
 (some ((.bool false),H3))))
 (zad 1 false (zab x0) 6 fun v144=>
 pBin PP .neq T.string v144 (.string ⟨#[]⟩) fun v145=>
 zaa v145 fun b146=>br b146
 (zad 1 false (zab x0) 0 fun v147=>
 pBin PP .neq T.int v147 (.int .i64 4) fun v148=>
 some (v148,H3))
 (some ((.bool false),H3))))
 (zad 1 false (zab x0) 6 fun v149=>
 pBin PP .neq T.string v149 (.string ⟨#[]⟩) fun v150=>
 zaa v150 fun b151=>br b151
 (zad 1 false (zab x0) 0 fun v152=>
 pBin PP .neq T.int v152 (.int .i64 4) fun v153=>
 some (v153,H3))
 (some ((.bool false),H3)))))
 (zad 1 false (zab x0) 5 fun v154=>
 pBin PP .neq T.uint64 v154 (.int .u64 0) fun v155=>
 zaa v155 fun b156=>br b156
 (zad 1 false (zab x0) 0 fun v157=>
 pBin PP .neq T.int v157 (.int .i64 3) fun v158=>
 zaa v158 fun b159=>br b159
 (zad 1 false (zab x0) 0 fun v160=>
 pBin PP .neq T.int v160 (.int .i64 31) fun v161=>
 zaa v161 fun b162=>br b162
 (some ((.bool true),H3))
 (zad 1 false (zab x0) 6 fun v163=>
 pBin PP .neq T.string v163 (.string ⟨#[]⟩) fun v164=>
 zaa v164 fun b165=>br b165
 (zad 1 false (zab x0) 0 fun v166=>
 pBin PP .neq T.int v166 (.int .i64 4) fun v167=>
 some (v167,H3))
 (some ((.bool false),H3))))
 (zad 1 false (zab x0) 6 fun v168=>
 pBin PP .neq T.string v168 (.string ⟨#[]⟩) fun v169=>
 zaa v169 fun b170=>br b170
 (zad 1 false (zab x0) 0 fun v171=>
 pBin PP .neq T.int v171 (.int .i64 4) fun v172=>
 some (v172,H3))
 (some ((.bool false),H3))))
 (zad 1 false (zab x0) 6 fun v173=>
 pBin PP .neq T.string v173 (.string ⟨#[]⟩) fun v174=>
 zaa v174 fun b175=>br b175
 (zad 1 false (zab x0) 0 fun v176=>
 pBin PP .neq T.int v176 (.int .i64 4) fun v177=>
 some (v177,H3))
 (some ((.bool false),H3))))))
 (pBin PP .lss T.int r2 (.int .i64 3) fun v178=>
 zaa v178 fun b179=>br b179
 (zad 1 false (zab x0) 4 fun v180=>
 pBin PP .neq T.int v180 (.int .i64 0) fun v181=>
 zaa v181 fun b182=>br b182
 (some ((.bool true),H3))
 (zad 1 false (zab x0) 5 fun v183=>
 pBin PP .neq T.uint64 v183 (.int .u64 0) fun v184=>
 zaa v184 fun b185=>br b185
 (zad 1 false (zab x0) 0 fun v186=>
 pBin PP .neq T.int v186 (.int .i64 3) fun v187=>
 zaa v187 fun b188=>br b188
 (zad 1 false (zab x0) 0 fun v189=>
 pBin PP .neq T.int v189 (.int .i64 31) fun v190=>
 zaa v190 fun b191=>br b191
 (some ((.bool true),H3))
 (zad 1 false (zab x0) 6 fun v192=>
 pBin PP .neq T.string v192 (.string ⟨#[]⟩) fun v193=>
 zaa v193 fun b194=>br b194
 (zad 1 false (zab x0) 0 fun v195=>
 pBin PP .neq T.int v195 (.int .i64 4) fun v196=>
 some (v196,H3))
 (some ((.bool false),H3))))
 (zad 1 false (zab x0) 6 fun v197=>
 pBin PP .neq T.string v197 (.string ⟨#[]⟩) fun v198=>
 zaa v198 fun b199=>br b199
 (zad 1 false (zab x0) 0 fun v200=>
 pBin PP .neq T.int v200 (.int .i64 4) fun v201=>
 some (v201,H3))
 (some ((.bool false),H3))))
 (zad 1 false (zab x0) 6 fun v202=>
 pBin PP .neq T.string v202 (.string ⟨#[]⟩) fun v203=>
 zaa v203 fun b204=>br b204
 (zad 1 false (zab x0) 0 fun v205=>
 pBin PP .neq T.int v205 (.int .i64 4) fun v206=>
 some (v206,H3))
 (some ((.bool false),H3)))))
 (zad 1 false (zab x0) 5 fun v207=>
 pBin PP .neq T.uint64 v207 (.int .u64 0) fun v208=>
 zaa v208 fun b209=>br b209
 (zad 1 false (zab x0) 0 fun v210=>
 pBin PP .neq T.int v210 (.int .i64 3) fun v211=>
 zaa v211 fun b212=>br b212
 (zad 1 false (zab x0) 0 fun v213=>
 pBin PP .neq T.int v213 (.int .i64 31) fun v214=>
 zaa v214 fun b215=>br b215
 (some ((.bool true),H3))
 (zad 1 false (zab x0) 6 fun v216=>
 pBin PP .neq T.string v216 (.string ⟨#[]⟩) fun v217=>
 zaa v217 fun b218=>br b218
 (zad 1 false (zab x0) 0 fun v219=>
 pBin PP .neq T.int v219 (.int .i64 4) fun v220=>
 some (v220,H3))
 (some ((.bool false),H3))))
 (zad 1 false (zab x0) 6 fun v221=>
 pBin PP .neq T.string v221 (.string ⟨#[]⟩) fun v222=>
 zaa v222 fun b223=>br b223
 (zad 1 false (zab x0) 0 fun v224=>
 pBin PP .neq T.int v224 (.int .i64 4) fun v225=>
 some (v225,H3))
 (some ((.bool false),H3))))
 (zad 1 false (zab x0) 6 fun v226=>
 pBin PP .neq T.string v226 (.string ⟨#[]⟩) fun v227=>
 zaa v227 fun b228=>br b228
 (zad 1 false (zab x0) 0 fun v229=>
 pBin PP .neq T.int v229 (.int .i64 4) fun v230=>
 some (v230,H3))
 (some ((.bool false),H3))))))
noncomputable def zd1 (R:zaf) (x0 x1:Value) (H0:Hp):Option (Value × Hp):=
 zad 1 false (zab x1) 2 fun v1=>
 zag R F.a2 [x0,v1] H0 fun r2 H3=>
 zad 1 false (zab x1) 3 fun v4=>
 zag R F.a2 [x0,v4] H3 fun r5 H6=>
 zad 1 false (zab x1) 0 fun v7=>
 zag R F.a10 [v7] H6 fun r8 H9=>
 pBin PP .eql T.int r8 (.int .i64 0) fun v10=>
 zaa v10 fun b11=>br b11
 (some ((.bool true),H9))
 (pBin PP .eql T.int v7 (.int .i64 5) fun v12=>
 zaa v12 fun b13=>br b13
 (pBin PP .eql T.int r2 (.int .i64 0) fun v14=>
 some (v14,H9))
 (zat (
 pBin PP .eql T.int v7 (.int .i64 6) fun v15=>
 zaa v15 fun b16=>br b16
 (some (.next,[(.bool true)],H9))
 (pBin PP .eql T.int v7 (.int .i64 7) fun v17=>
 zaa v17 fun b18=>br b18
 (some (.next,[(.bool true)],H9))
 (pBin PP .eql T.int v7 (.int .i64 8) fun v19=>
 some (.next,[v19],H9)))) fun q20 l21 H22=>zaE q20
 (zaa (l21.getD 0 undef) fun b24=>br b24
 (pBin PP .eql T.int r2 (.int .i64 0) fun v25=>
 zaa v25 fun b26=>br b26
 (pBin PP .eql T.int r5 (.int .i64 0) fun v27=>
 some (v27,H22))
 (some ((.bool false),H22)))
 (pBin PP .eql T.int v7 (.int .i64 9) fun v28=>
 zaa v28 fun b29=>br b29
 (pBin PP .eql T.int r2 r5 fun v30=>
 some (v30,H22))
 (pBin PP .eql T.int v7 (.int .i64 14) fun v31=>
 zaa v31 fun b32=>br b32
 (pBin PP .eql T.int r2 (.int .i64 0) fun v33=>
 zaa v33 fun b34=>br b34
 (zad 1 false (zab x1) 4 fun v35=>
 zag R F.a2 [x0,v35] H22 fun r36 H37=>
 pBin PP .eql T.int r5 r36 fun v38=>
 some (v38,H37))
 (some ((.bool false),H22)))
 (pBin PP .eql T.int v7 (.int .i64 30) fun v39=>
 zaa v39 fun b40=>br b40
 (pBin PP .gtr T.int r2 (.int .i64 0) fun v41=>
 zaa v41 fun b42=>br b42
 (pBin PP .gtr T.int r5 (.int .i64 0) fun v43=>
 some (v43,H22))
 (some ((.bool false),H22)))
 (zag R F.a10 [v7] H22 fun r44 H45=>
 pBin PP .eql T.int r44 (.int .i64 1) fun v46=>
 zaa v46 fun b47=>br b47
 (pBin PP .gtr T.int r2 (.int .i64 0) fun v48=>
 some (v48,H45))
 (pBin PP .gtr T.int r2 (.int .i64 0) fun v49=>
 zaa v49 fun b50=>br b50
 (pBin PP .eql T.int r2 r5 fun v51=>
 some (v51,H45))
 (some ((.bool false),H45))))))))
 (fun i23=>zav i23 0 (
 pBin PP .gtr T.int r2 (.int .i64 0) fun v52=>
 zaa v52 fun b53=>br b53
 (pBin PP .eql T.int r2 r5 fun v54=>
 some (v54,H22))
 (some ((.bool false),H22))) (
 none))
 (some ((l21.headD undef),H22))))
noncomputable def zeX (R:zaf) (x0 x1:Value) (H0:Hp):Option (Value × Hp):=
 zad 1 false (zab x1) 2 fun v1=>
 zag R F.a2 [x0,v1] H0 fun r2 H3=>
 zad 1 false (zab x1) 0 fun v4=>
 zat (
 pBin PP .eql T.int v4 (.int .i64 1) fun v5=>
 zaa v5 fun b6=>br b6
 (some (.next,[(.bool true)],H3))
 (pBin PP .eql T.int v4 (.int .i64 2) fun v7=>
 zaa v7 fun b8=>br b8
 (some (.next,[(.bool true)],H3))
 (pBin PP .geq T.int v4 (.int .i64 5) fun v9=>
 zaa v9 fun b10=>br b10
 (pBin PP .leq T.int v4 (.int .i64 13) fun v11=>
 some (.next,[v11],H3))
 (some (.next,[(.bool false)],H3))))) fun q12 l13 H14=>zaE q12
 (zaa (l13.getD 0 undef) fun b16=>br b16
 (zad 1 false (zab x1) 1 fun v17=>
 pBin PP .eql T.int v17 (.int .i64 0) fun v18=>
 some (v18,H14))
 (pBin PP .eql T.int v4 (.int .i64 3) fun v19=>
 zaa v19 fun b20=>br b20
 (zad 1 false (zab x1) 1 fun v21=>
 pBin PP .gtr T.int v21 (.int .i64 0) fun v22=>
 zaa v22 fun b23=>br b23
 (zad 1 false (zab x1) 1 fun v24=>
 zad 1 false (zab x1) 5 fun v25=>
 zag R F.a0 [v24,v25] H14 fun r26 H27=>
 zad 1 false (zab x1) 5 fun v28=>
 pBin PP .eql T.uint64 r26 v28 fun v29=>
 some (v29,H27))
 (some ((.bool false),H14)))
 (pBin PP .eql T.int v4 (.int .i64 4) fun v30=>
 zaa v30 fun b31=>br b31
 (some ((.bool true),H14))
 (pBin PP .eql T.int v4 (.int .i64 14) fun v32=>
 zaa v32 fun b33=>br b33
 (zad 1 false (zab x1) 1 fun v34=>
 zad 1 false (zab x1) 3 fun v35=>
 zag R F.a2 [x0,v35] H14 fun r36 H37=>
 pBin PP .eql T.int v34 r36 fun v38=>
 some (v38,H37))
 (zat (
 pBin PP .geq T.int v4 (.int .i64 25) fun v39=>
 zaa v39 fun b40=>br b40
 (pBin PP .leq T.int v4 (.int .i64 29) fun v41=>
 some (.next,[v41],H14))
 (some (.next,[(.bool false)],H14))) fun q42 l43 H44=>zaE q42
 (zaa (l43.getD 0 undef) fun b46=>br b46
 (zad 1 false (zab x1) 1 fun v47=>
 pBin PP .eql T.int v47 r2 fun v48=>
 zaa v48 fun b49=>br b49
 (zaq .u64 r2 fun v50=>
 zag R F.a29 [v50] H44 fun r51 H52=>
 pBin PP .eql T.int r51 (.int .i64 1) fun v53=>
 some (v53,H52))
 (some ((.bool false),H44)))
 (pBin PP .eql T.int v4 (.int .i64 30) fun v54=>
 zaa v54 fun b55=>br b55
 (zad 1 false (zab x1) 1 fun v56=>
 zad 1 false (zab x1) 3 fun v57=>
 zag R F.a2 [x0,v57] H44 fun r58 H59=>
 pBin PP .add T.int r2 r58 fun v60=>
 pBin PP .eql T.int v56 v60 fun v61=>
 some (v61,H59))
 (pBin PP .eql T.int v4 (.int .i64 31) fun v62=>
 zaa v62 fun b63=>br b63
 (zad 1 false (zab x1) 1 fun v64=>
 pBin PP .geq T.int v64 (.int .i64 1) fun v65=>
 zaa v65 fun b66=>br b66
 (zad 1 false (zab x1) 1 fun v67=>
 pBin PP .leq T.int v67 r2 fun v68=>
 zaa v68 fun b69=>br b69
 (zad 1 false (zab x1) 5 fun v70=>
 zad 1 false (zab x1) 1 fun v71=>
 pBin PP .sub T.int r2 v71 fun v72=>
 zaq .u64 v72 fun v73=>
 pBin PP .leq T.uint64 v70 v73 fun v74=>
 some (v74,H44))
 (some ((.bool false),H44)))
 (some ((.bool false),H44)))
 (pBin PP .eql T.int v4 (.int .i64 32) fun v75=>
 zaa v75 fun b76=>br b76
 (zad 1 false (zab x1) 1 fun v77=>
 pBin PP .geq T.int v77 r2 fun v78=>
 some (v78,H44))
 (pBin PP .eql T.int v4 (.int .i64 33) fun v79=>
 zaa v79 fun b80=>br b80
 (zad 1 false (zab x1) 1 fun v81=>
 pBin PP .geq T.int v81 r2 fun v82=>
 some (v82,H44))
 (zad 1 false (zab x1) 1 fun v83=>
 pBin PP .eql T.int v83 r2 fun v84=>
 some (v84,H44)))))))
 (fun i45=>zav i45 0 (
 zad 1 false (zab x1) 1 fun v85=>
 pBin PP .eql T.int v85 r2 fun v86=>
 some (v86,H44)) (
 none))
 (some ((l43.headD undef),H44)))))))
 (fun i15=>zav i15 0 (
 zad 1 false (zab x1) 1 fun v87=>
 pBin PP .eql T.int v87 r2 fun v88=>
 some (v88,H14)) (
 none))
 (some ((l13.headD undef),H14))
noncomputable def zev (R:zaf) (x0 x1 x2 x3:Value) (H0:Hp):Option (Value × Hp):=zdb PP orc R F.a63 Go.Proofs.Tryz.f101 [x0,x1,x2,x3] H0
noncomputable def zhm (R:zaf) (x0:Value) (H0:Hp):Option (Value × Hp):=zdb PP orc R F.a21 Go.Proofs.Tryz.f102 [x0] H0
noncomputable def zfo (R:zaf) (x0:Value) (H0:Hp):Option (Value × Hp):=zdb PP orc R F.a66 Go.Proofs.Tryz.f103 [x0] H0
noncomputable def zdD (R:zaf) (x0:Value) (H0:Hp):Option (Value × Hp):=
 zag R F.a34 [x0] H0 fun r1 H2=>
 zae r1 0 fun v3=>
 zae r1 1 fun v4=>
 pBin PP .neq T.api_Errno v4 (.int .i64 0) fun v5=>
 zaa v5 fun b6=>br b6
 (some ((.int .i64 (-1)),H2))
 (pBin PP .geq T.uint64 v3 (.int .u64 2147483648) fun v7=>
 zaa v7 fun b8=>br b8
 (some ((.int .i64 (-1)),H2))
 (zaq .i64 v3 fun v9=>
 some (v9,H2)))
noncomputable def zd7 (R:zaf) (x0:Value) (H0:Hp):Option (Value × Hp):=
 zaL PP T.a34_string [(0,(.string ⟨#[]⟩)),(1,(.string ⟨#[116,114,117,101]⟩)),(2,(.string ⟨#[102,97,108,115,101]⟩)),(3,(.string ⟨#[99,111,110,115,116]⟩)),(4,(.string ⟨#[118,97,114]⟩)),(5,(.string ⟨#[110,111,116]⟩)),(6,(.string ⟨#[97,110,100]⟩)),(7,(.string ⟨#[111,114]⟩)),(8,(.string ⟨#[120,111,114]⟩)),(9,(.string ⟨#[101,113]⟩)),(10,(.string ⟨#[117,108,116]⟩)),(11,(.string ⟨#[117,108,101]⟩)),(12,(.string ⟨#[115,108,116]⟩)),(13,(.string ⟨#[115,108,101]⟩)),(14,(.string ⟨#[105,116,101]⟩)),(15,(.string ⟨#[99,111,109]⟩)),(16,(.string ⟨#[110,101,103]⟩)),(17,(.string ⟨#[98,97,110,100]⟩)),(18,(.string ⟨#[98,111,114]⟩)),(19,(.string ⟨#[98,120,111,114]⟩)),(20,(.string ⟨#[97,100,100]⟩)),(21,(.string ⟨#[115,117,98]⟩)),(22,(.string ⟨#[109,117,108]⟩)),(23,(.string ⟨#[100,105,118]⟩)),(24,(.string ⟨#[114,101,109]⟩)),(25,(.string ⟨#[115,104,108]⟩)),(26,(.string ⟨#[115,104,114]⟩)),(27,(.string ⟨#[115,97,114]⟩)),(28,(.string ⟨#[114,111,108]⟩)),(29,(.string ⟨#[114,111,114]⟩)),(30,(.string ⟨#[99,97,116]⟩)),(31,(.string ⟨#[115,108,105,99,101]⟩)),(32,(.string ⟨#[122,101,120,116]⟩)),(33,(.string ⟨#[115,101,120,116]⟩))] fun v1=>
 zaD 34 [.string ⟨#[]⟩,.string ⟨#[]⟩,.string ⟨#[]⟩,.string ⟨#[]⟩,.string ⟨#[]⟩,.string ⟨#[]⟩,.string ⟨#[]⟩,.string ⟨#[]⟩,.string ⟨#[]⟩,.string ⟨#[]⟩,.string ⟨#[]⟩,.string ⟨#[]⟩,.string ⟨#[]⟩,.string ⟨#[]⟩,.string ⟨#[]⟩,.string ⟨#[]⟩,.string ⟨#[]⟩,.string ⟨#[]⟩,.string ⟨#[]⟩,.string ⟨#[]⟩,.string ⟨#[]⟩,.string ⟨#[]⟩,.string ⟨#[]⟩,.string ⟨#[]⟩,.string ⟨#[]⟩,.string ⟨#[]⟩,.string ⟨#[]⟩,.string ⟨#[]⟩,.string ⟨#[]⟩,.string ⟨#[]⟩,.string ⟨#[]⟩,.string ⟨#[]⟩,.string ⟨#[]⟩,.string ⟨#[]⟩] 0 v1 fun c2=>
 zbL 34 x0 fun j3=>
 zad 1 false c2 (0+j3*1) fun v4=>
 some (v4,H0)
noncomputable def zdj (R:zaf) (x0:Value) (H0:Hp):Option (Value × Hp):=
 pBin PP .leq T.int x0 (.int .i64 2) fun v1=>
 zaa v1 fun b2=>br b2
 (some ((.string ⟨#[]⟩),H0))
 (pBin PP .eql T.int x0 (.int .i64 3) fun v3=>
 zaa v3 fun b4=>br b4
 (some ((.string ⟨#[119,110]⟩),H0))
 (pBin PP .eql T.int x0 (.int .i64 4) fun v5=>
 zaa v5 fun b6=>br b6
 (some ((.string ⟨#[115,119]⟩),H0))
 (pBin PP .eql T.int x0 (.int .i64 31) fun v7=>
 zaa v7 fun b8=>br b8
 (some ((.string ⟨#[112,110,119]⟩),H0))
 (pBin PP .geq T.int x0 (.int .i64 32) fun v9=>
 zaa v9 fun b10=>br b10
 (some ((.string ⟨#[112,119]⟩),H0))
 (zag R F.a51 [x0] H0 fun r11 H12=>
 zbf (.string ⟨#[112,112,112]⟩) none (some r11) fun v13=>
 some (v13,H12))))))
noncomputable def zdl (R:zaf) (x0:Value) (H0:Hp):Option (Value × Hp):=zdb PP orc R F.a34 Go.Proofs.Tryz.f107 [x0] H0
noncomputable def zc4 (R:zaf) (x0 x1:Value) (H0:Hp):Option (Value × Hp):=
 pNil x0 (
 zar 1 x0 fun p1=>
 zal 1 false H0 p1 fun v2=>
 pBin PP .sub T.int x1 (.int .i64 1) fun v3=>
 pIdx 7 v2 v3 fun p4=>
 zar 1 p4 fun p5=>
 zal 1 false H0 p5 fun v6=>
 some (v6,H0))
noncomputable def zdG (R:zaf) (x0:Value) (H0:Hp):Option (Value × Hp):=
 zat (
 pBin PP .lss T.int x0 (.int .i64 1) fun v1=>
 zaa v1 fun b2=>br b2
 (some (.next,[(.bool true)],H0))
 (pBin PP .gtr T.int x0 (.int .i64 33) fun v3=>
 some (.next,[v3],H0))) fun q4 l5 H6=>zaE q4
 (zaa (l5.getD 0 undef) fun b8=>br b8
 (some ((.int .i64 (-1)),H6))
 (pBin PP .leq T.int x0 (.int .i64 4) fun v9=>
 zaa v9 fun b10=>br b10
 (some ((.int .i64 0),H6))
 (pBin PP .eql T.int x0 (.int .i64 5) fun v11=>
 zaa v11 fun b12=>br b12
 (some ((.int .i64 1),H6))
 (pBin PP .eql T.int x0 (.int .i64 15) fun v13=>
 zaa v13 fun b14=>br b14
 (some ((.int .i64 1),H6))
 (pBin PP .eql T.int x0 (.int .i64 16) fun v15=>
 zaa v15 fun b16=>br b16
 (some ((.int .i64 1),H6))
 (pBin PP .geq T.int x0 (.int .i64 31) fun v17=>
 zaa v17 fun b18=>br b18
 (some ((.int .i64 1),H6))
 (pBin PP .eql T.int x0 (.int .i64 14) fun v19=>
 zaa v19 fun b20=>br b20
 (some ((.int .i64 3),H6))
 (some ((.int .i64 2),H6)))))))))
 (fun i7=>zav i7 0 (
 some ((.int .i64 2),H6)) (
 none))
 (some ((l5.headD undef),H6))
noncomputable def zdF (R:zaf) (x0 x1:Value) (H0:Hp):Option (Value × Hp):=
 zat (
 pBin PP .lss T.int x1 (.int .i64 1) fun v1=>
 zaa v1 fun b2=>br b2
 (zad 1 false (zab x0) 2 fun v3=>
 pBin PP .neq T.int v3 (.int .i64 0) fun v4=>
 zaa v4 fun b5=>br b5
 (some (.ret,[(.bool true)],H0))
 (pBin PP .lss T.int x1 (.int .i64 2) fun v6=>
 zaa v6 fun b7=>br b7
 (zad 1 false (zab x0) 3 fun v8=>
 pBin PP .neq T.int v8 (.int .i64 0) fun v9=>
 zaa v9 fun b10=>br b10
 (some (.ret,[(.bool true)],H0))
 (pBin PP .lss T.int x1 (.int .i64 3) fun v11=>
 zaa v11 fun b12=>br b12
 (zad 1 false (zab x0) 4 fun v13=>
 pBin PP .neq T.int v13 (.int .i64 0) fun v14=>
 zaa v14 fun b15=>br b15
 (some (.ret,[(.bool true)],H0))
 (some (.next,[],H0)))
 (some (.next,[],H0))))
 (pBin PP .lss T.int x1 (.int .i64 3) fun v16=>
 zaa v16 fun b17=>br b17
 (zad 1 false (zab x0) 4 fun v18=>
 pBin PP .neq T.int v18 (.int .i64 0) fun v19=>
 zaa v19 fun b20=>br b20
 (some (.ret,[(.bool true)],H0))
 (some (.next,[],H0)))
 (some (.next,[],H0)))))
 (pBin PP .lss T.int x1 (.int .i64 2) fun v21=>
 zaa v21 fun b22=>br b22
 (zad 1 false (zab x0) 3 fun v23=>
 pBin PP .neq T.int v23 (.int .i64 0) fun v24=>
 zaa v24 fun b25=>br b25
 (some (.ret,[(.bool true)],H0))
 (pBin PP .lss T.int x1 (.int .i64 3) fun v26=>
 zaa v26 fun b27=>br b27
 (zad 1 false (zab x0) 4 fun v28=>
 pBin PP .neq T.int v28 (.int .i64 0) fun v29=>
 zaa v29 fun b30=>br b30
 (some (.ret,[(.bool true)],H0))
 (some (.next,[],H0)))
 (some (.next,[],H0))))
 (pBin PP .lss T.int x1 (.int .i64 3) fun v31=>
 zaa v31 fun b32=>br b32
 (zad 1 false (zab x0) 4 fun v33=>
 pBin PP .neq T.int v33 (.int .i64 0) fun v34=>
 zaa v34 fun b35=>br b35
 (some (.ret,[(.bool true)],H0))
 (some (.next,[],H0)))
 (some (.next,[],H0))))) fun q36 l37 H38=>zaE q36
 (zad 1 false (zab x0) 5 fun v40=>
 pBin PP .neq T.uint64 v40 (.int .u64 0) fun v41=>
 zaa v41 fun b42=>br b42
 (zad 1 false (zab x0) 0 fun v43=>
 pBin PP .neq T.int v43 (.int .i64 3) fun v44=>
 zaa v44 fun b45=>br b45
 (zad 1 false (zab x0) 0 fun v46=>
 pBin PP .neq T.int v46 (.int .i64 31) fun v47=>
 zaa v47 fun b48=>br b48
 (some ((.bool true),H38))
 (zad 1 false (zab x0) 6 fun v49=>
 pBin PP .neq T.string v49 (.string ⟨#[]⟩) fun v50=>
 zaa v50 fun b51=>br b51
 (zad 1 false (zab x0) 0 fun v52=>
 pBin PP .neq T.int v52 (.int .i64 4) fun v53=>
 some (v53,H38))
 (some ((.bool false),H38))))
 (zad 1 false (zab x0) 6 fun v54=>
 pBin PP .neq T.string v54 (.string ⟨#[]⟩) fun v55=>
 zaa v55 fun b56=>br b56
 (zad 1 false (zab x0) 0 fun v57=>
 pBin PP .neq T.int v57 (.int .i64 4) fun v58=>
 some (v58,H38))
 (some ((.bool false),H38))))
 (zad 1 false (zab x0) 6 fun v59=>
 pBin PP .neq T.string v59 (.string ⟨#[]⟩) fun v60=>
 zaa v60 fun b61=>br b61
 (zad 1 false (zab x0) 0 fun v62=>
 pBin PP .neq T.int v62 (.int .i64 4) fun v63=>
 some (v63,H38))
 (some ((.bool false),H38))))
 (fun i39=>none)
 (some ((l37.headD undef),H38))
noncomputable def zcv (R:zaf) (x0 x1:Value) (H0:Hp):Option (Value × Hp):=
 zad 1 false (zab x1) 0 fun v1=>
 pBin PP .leq T.int v1 (.int .i64 4) fun v2=>
 zaa v2 fun b3=>br b3
 (some ((.bool true),H0))
 (zad 1 false (zab x1) 0 fun v4=>
 pBin PP .eql T.int v4 (.int .i64 5) fun v5=>
 zaa v5 fun b6=>br b6
 (zad 1 false (zab x1) 2 fun v7=>
 zag R F.a1 [x0,v7] H0 fun r8 H9=>
 pBin PP .eql T.int r8 (.int .i64 0) fun v10=>
 some (v10,H9))
 (zad 1 false (zab x1) 0 fun v11=>
 pBin PP .leq T.int v11 (.int .i64 8) fun v12=>
 zaa v12 fun b13=>br b13
 (zad 1 false (zab x1) 2 fun v14=>
 zag R F.a1 [x0,v14] H0 fun r15 H16=>
 pBin PP .eql T.int r15 (.int .i64 0) fun v17=>
 zaa v17 fun b18=>br b18
 (zad 1 false (zab x1) 3 fun v19=>
 zag R F.a1 [x0,v19] H16 fun r20 H21=>
 pBin PP .eql T.int r20 (.int .i64 0) fun v22=>
 some (v22,H21))
 (some ((.bool false),H16)))
 (zad 1 false (zab x1) 0 fun v23=>
 pBin PP .eql T.int v23 (.int .i64 9) fun v24=>
 zaa v24 fun b25=>br b25
 (zad 1 false (zab x1) 2 fun v26=>
 zag R F.a1 [x0,v26] H0 fun r27 H28=>
 zad 1 false (zab x1) 3 fun v29=>
 zag R F.a1 [x0,v29] H28 fun r30 H31=>
 pBin PP .eql T.int r27 r30 fun v32=>
 some (v32,H31))
 (zad 1 false (zab x1) 0 fun v33=>
 pBin PP .eql T.int v33 (.int .i64 14) fun v34=>
 zaa v34 fun b35=>br b35
 (zad 1 false (zab x1) 2 fun v36=>
 zag R F.a1 [x0,v36] H0 fun r37 H38=>
 pBin PP .eql T.int r37 (.int .i64 0) fun v39=>
 zaa v39 fun b40=>br b40
 (zad 1 false (zab x1) 3 fun v41=>
 zag R F.a1 [x0,v41] H38 fun r42 H43=>
 zad 1 false (zab x1) 4 fun v44=>
 zag R F.a1 [x0,v44] H43 fun r45 H46=>
 pBin PP .eql T.int r42 r45 fun v47=>
 some (v47,H46))
 (some ((.bool false),H38)))
 (zat (
 zad 1 false (zab x1) 0 fun v48=>
 pBin PP .eql T.int v48 (.int .i64 15) fun v49=>
 zaa v49 fun b50=>br b50
 (some (.next,[(.bool true)],H0))
 (zad 1 false (zab x1) 0 fun v51=>
 pBin PP .eql T.int v51 (.int .i64 16) fun v52=>
 zaa v52 fun b53=>br b53
 (some (.next,[(.bool true)],H0))
 (zad 1 false (zab x1) 0 fun v54=>
 pBin PP .geq T.int v54 (.int .i64 31) fun v55=>
 some (.next,[v55],H0)))) fun q56 l57 H58=>zaE q56
 (zaa (l57.getD 0 undef) fun b60=>br b60
 (zad 1 false (zab x1) 2 fun v61=>
 zag R F.a1 [x0,v61] H58 fun r62 H63=>
 pBin PP .gtr T.int r62 (.int .i64 0) fun v64=>
 some (v64,H63))
 (zad 1 false (zab x1) 0 fun v65=>
 pBin PP .eql T.int v65 (.int .i64 30) fun v66=>
 zaa v66 fun b67=>br b67
 (zad 1 false (zab x1) 2 fun v68=>
 zag R F.a1 [x0,v68] H58 fun r69 H70=>
 pBin PP .gtr T.int r69 (.int .i64 0) fun v71=>
 zaa v71 fun b72=>br b72
 (zad 1 false (zab x1) 3 fun v73=>
 zag R F.a1 [x0,v73] H70 fun r74 H75=>
 pBin PP .gtr T.int r74 (.int .i64 0) fun v76=>
 some (v76,H75))
 (some ((.bool false),H70)))
 (zad 1 false (zab x1) 2 fun v77=>
 zag R F.a1 [x0,v77] H58 fun r78 H79=>
 pBin PP .gtr T.int r78 (.int .i64 0) fun v80=>
 zaa v80 fun b81=>br b81
 (zad 1 false (zab x1) 2 fun v82=>
 zag R F.a1 [x0,v82] H79 fun r83 H84=>
 zad 1 false (zab x1) 3 fun v85=>
 zag R F.a1 [x0,v85] H84 fun r86 H87=>
 pBin PP .eql T.int r83 r86 fun v88=>
 some (v88,H87))
 (some ((.bool false),H79)))))
 (fun i59=>zav i59 0 (
 zad 1 false (zab x1) 2 fun v89=>
 zag R F.a1 [x0,v89] H58 fun r90 H91=>
 pBin PP .gtr T.int r90 (.int .i64 0) fun v92=>
 zaa v92 fun b93=>br b93
 (zad 1 false (zab x1) 2 fun v94=>
 zag R F.a1 [x0,v94] H91 fun r95 H96=>
 zad 1 false (zab x1) 3 fun v97=>
 zag R F.a1 [x0,v97] H96 fun r98 H99=>
 pBin PP .eql T.int r95 r98 fun v100=>
 some (v100,H99))
 (some ((.bool false),H91))) (
 none))
 (some ((l57.headD undef),H58)))))))
noncomputable def zcu (R:zaf) (x0 x1:Value) (H0:Hp):Option (Value × Hp):=
 zad 1 false (zab x1) 1 fun v1=>
 zat (
 zad 1 false (zab x1) 0 fun v2=>
 pBin PP .leq T.int v2 (.int .i64 2) fun v3=>
 zaa v3 fun b4=>br b4
 (some (.next,[(.bool true)],H0))
 (zad 1 false (zab x1) 0 fun v5=>
 pBin PP .geq T.int v5 (.int .i64 5) fun v6=>
 zaa v6 fun b7=>br b7
 (zad 1 false (zab x1) 0 fun v8=>
 pBin PP .leq T.int v8 (.int .i64 13) fun v9=>
 some (.next,[v9],H0))
 (some (.next,[(.bool false)],H0)))) fun q10 l11 H12=>zaE q10
 (zaa (l11.getD 0 undef) fun b14=>br b14
 (pBin PP .eql T.int v1 (.int .i64 0) fun v15=>
 some (v15,H12))
 (zad 1 false (zab x1) 0 fun v16=>
 pBin PP .eql T.int v16 (.int .i64 3) fun v17=>
 zaa v17 fun b18=>br b18
 (pBin PP .geq T.int v1 (.int .i64 1) fun v19=>
 zaa v19 fun b20=>br b20
 (zad 1 false (zab x1) 5 fun v21=>
 zag R F.a77 [v1,v21] H12 fun r22 H23=>
 zad 1 false (zab x1) 5 fun v24=>
 pBin PP .eql T.uint64 r22 v24 fun v25=>
 some (v25,H23))
 (some ((.bool false),H12)))
 (zad 1 false (zab x1) 0 fun v26=>
 pBin PP .eql T.int v26 (.int .i64 4) fun v27=>
 zaa v27 fun b28=>br b28
 (some ((.bool true),H12))
 (zad 1 false (zab x1) 0 fun v29=>
 pBin PP .eql T.int v29 (.int .i64 14) fun v30=>
 zaa v30 fun b31=>br b31
 (zad 1 false (zab x1) 3 fun v32=>
 zag R F.a1 [x0,v32] H12 fun r33 H34=>
 pBin PP .eql T.int v1 r33 fun v35=>
 some (v35,H34))
 (zad 1 false (zab x1) 0 fun v36=>
 pBin PP .eql T.int v36 (.int .i64 30) fun v37=>
 zaa v37 fun b38=>br b38
 (zad 1 false (zab x1) 2 fun v39=>
 zag R F.a1 [x0,v39] H12 fun r40 H41=>
 zad 1 false (zab x1) 3 fun v42=>
 zag R F.a1 [x0,v42] H41 fun r43 H44=>
 pBin PP .add T.int r40 r43 fun v45=>
 pBin PP .eql T.int v1 v45 fun v46=>
 some (v46,H44))
 (zad 1 false (zab x1) 0 fun v47=>
 pBin PP .eql T.int v47 (.int .i64 31) fun v48=>
 zaa v48 fun b49=>br b49
 (pBin PP .geq T.int v1 (.int .i64 1) fun v50=>
 zaa v50 fun b51=>br b51
 (zad 1 false (zab x1) 5 fun v52=>
 pBin PP .leq T.uint64 v52 (.int .u64 64) fun v53=>
 zaa v53 fun b54=>br b54
 (zad 1 false (zab x1) 5 fun v55=>
 zaq .i64 v55 fun v56=>
 pBin PP .add T.int v56 v1 fun v57=>
 zad 1 false (zab x1) 2 fun v58=>
 zag R F.a1 [x0,v58] H12 fun r59 H60=>
 pBin PP .leq T.int v57 r59 fun v61=>
 some (v61,H60))
 (some ((.bool false),H12)))
 (some ((.bool false),H12)))
 (zad 1 false (zab x1) 0 fun v62=>
 pBin PP .geq T.int v62 (.int .i64 32) fun v63=>
 zaa v63 fun b64=>br b64
 (zad 1 false (zab x1) 2 fun v65=>
 zag R F.a1 [x0,v65] H12 fun r66 H67=>
 pBin PP .geq T.int v1 r66 fun v68=>
 some (v68,H67))
 (zad 1 false (zab x1) 0 fun v69=>
 pBin PP .geq T.int v69 (.int .i64 25) fun v70=>
 zaa v70 fun b71=>br b71
 (zad 1 false (zab x1) 2 fun v72=>
 zag R F.a1 [x0,v72] H12 fun r73 H74=>
 pBin PP .eql T.int v1 r73 fun v75=>
 zaa v75 fun b76=>br b76
 (zag R F.a76 [v1] H74 fun r77 H78=>
 some (r77,H78))
 (some ((.bool false),H74)))
 (zad 1 false (zab x1) 2 fun v79=>
 zag R F.a1 [x0,v79] H12 fun r80 H81=>
 pBin PP .eql T.int v1 r80 fun v82=>
 some (v82,H81))))))))))
 (fun i13=>zav i13 0 (
 zad 1 false (zab x1) 2 fun v83=>
 zag R F.a1 [x0,v83] H12 fun r84 H85=>
 pBin PP .eql T.int v1 r84 fun v86=>
 some (v86,H85)) (
 none))
 (some ((l11.headD undef),H12))
noncomputable def zea (R:zaf) (x0:Value) (H0:Hp):Option (Value × Hp):=
 zat (
 pLen .str x0 H0 fun v1=>
 pBin PP .lss T.int v1 (.int .i64 1) fun v2=>
 zaa v2 fun b3=>br b3
 (some (.ret,[(.bool false)],H0))
 (pLen .str x0 H0 fun v4=>
 pBin PP .gtr T.int v4 (.int .i64 24) fun v5=>
 zaa v5 fun b6=>br b6
 (some (.ret,[(.bool false)],H0))
 (zbe x0 (.int .i64 0) fun v7=>
 zag R F.a32 [v7] H0 fun r8 H9=>
 pUn .not r8 fun v10=>
 zaa v10 fun b11=>br b11
 (some (.ret,[(.bool false)],H9))
 (some (.next,[],H9))))) fun q12 l13 H14=>zaE q12
 (zat (zas (fun l16 H17=>
 pLen .str x0 H17 fun v18=>
 pBin PP .lss T.int (l16.getD 0 undef) v18 fun v19=>
 zaa v19 fun b20=>br b20
 (zbe x0 (l16.getD 0 undef) fun v21=>
 zag R F.a32 [v21] H17 fun r22 H23=>
 pUn .not r22 fun v24=>
 zaa v24 fun b25=>br b25
 (zbe x0 (l16.getD 0 undef) fun v26=>
 pBin PP .lss T.uint8 v26 (.int .u8 48) fun v27=>
 zaa v27 fun b28=>br b28
 (some (.ret,[(.bool false)],H23))
 (zbe x0 (l16.getD 0 undef) fun v29=>
 pBin PP .gtr T.uint8 v29 (.int .u8 57) fun v30=>
 zaa v30 fun b31=>br b31
 (some (.ret,[(.bool false)],H23))
 (pBin PP .add T.int (l16.getD 0 undef) (.int .i64 1) fun v32=>
 some (.next,[v32],H23))))
 (pBin PP .add T.int (l16.getD 0 undef) (.int .i64 1) fun v33=>
 some (.next,[v33],H23)))
 (some (.exit 0,[(l16.getD 0 undef)],H17))) [(.int .i64 1)] H14) fun q34 l35 H36=>zaE q34 none
 (fun i37=>zav i37 0 (
 some ((.bool true),H36)) (
 none))
 (some ((l35.headD undef),H36)))
 (fun i15=>none)
 (some ((l13.headD undef),H14))
noncomputable def zih (R:zaf) (x0:Value) (H0:Hp):Option (Value × Hp):=
 pBin PP .geq T.int x0 (.int .i64 1) fun v1=>
 zaa v1 fun b2=>br b2
 (pBin PP .leq T.int x0 (.int .i64 64) fun v3=>
 some (v3,H0))
 (some ((.bool false),H0))
noncomputable def zhl (R:zaf) (x0 x1:Value) (H0:Hp):Option (Value × Hp):=
 zag R F.a5 [x0] H0 fun r1 H2=>
 pUn .not r1 fun v3=>
 zaa v3 fun b4=>br b4
 (some ((.int .i64 0),H2))
 (pBin PP .sub T.int (.int .i64 64) x0 fun v5=>
 zaq .u64 v5 fun v6=>
 pBin PP .shl T.uint64 x1 v6 fun v7=>
 zaq .i64 v7 fun v8=>
 pBin PP .shr T.int64 v8 v6 fun v9=>
 some (v9,H2))
noncomputable def zhk (R:zaf) (x0:Value) (H0:Hp):Option (Value × Hp):=
 pBin PP .geq T.int x0 (.int .i64 25) fun v1=>
 zaa v1 fun b2=>br b2
 (pBin PP .leq T.int x0 (.int .i64 29) fun v3=>
 some (v3,H0))
 (some ((.bool false),H0))
noncomputable def zfq (R:zaf) (x0:Value) (H0:Hp):Option (Value × Hp):=
 zag R F.a72 [x0] H0 fun r1 H2=>
 some (r1,H2)
noncomputable def zif (R:zaf) (x0 x1 x2 x3:Value) (H0:Hp):Option (Value × Hp):=
 pBin PP .eql T.int x0 (.int .i64 25) fun v1=>
 zaa v1 fun b2=>br b2
 (zaq .u64 x3 fun v3=>
 pBin PP .shl T.uint64 x2 v3 fun v4=>
 zag R F.a0 [x1,v4] H0 fun r5 H6=>
 some (r5,H6))
 (pBin PP .eql T.int x0 (.int .i64 26) fun v7=>
 zaa v7 fun b8=>br b8
 (zaq .u64 x3 fun v9=>
 pBin PP .shr T.uint64 x2 v9 fun v10=>
 some (v10,H0))
 (pBin PP .eql T.int x0 (.int .i64 27) fun v11=>
 zaa v11 fun b12=>br b12
 (zag R F.a22 [x1,x2] H0 fun r13 H14=>
 zaq .u64 x3 fun v15=>
 pBin PP .shr T.int64 r13 v15 fun v16=>
 zaq .u64 v16 fun v17=>
 zag R F.a0 [x1,v17] H14 fun r18 H19=>
 some (r18,H19))
 (pBin PP .eql T.int x0 (.int .i64 29) fun v20=>
 zaa v20 fun b21=>br b21
 (pBin PP .sub T.int x1 x3 fun v22=>
 pBin PP .rem T.int v22 x1 fun v23=>
 zaq .u64 v23 fun v24=>
 pBin PP .shl T.uint64 x2 v24 fun v25=>
 pBin PP .sub T.int x1 v23 fun v26=>
 zaq .u64 v26 fun v27=>
 pBin PP .shr T.uint64 x2 v27 fun v28=>
 pBin PP .or T.uint64 v25 v28 fun v29=>
 zag R F.a0 [x1,v29] H0 fun r30 H31=>
 some (r30,H31))
 (zaq .u64 x3 fun v32=>
 pBin PP .shl T.uint64 x2 v32 fun v33=>
 pBin PP .sub T.int x1 x3 fun v34=>
 zaq .u64 v34 fun v35=>
 pBin PP .shr T.uint64 x2 v35 fun v36=>
 pBin PP .or T.uint64 v33 v36 fun v37=>
 zag R F.a0 [x1,v37] H0 fun r38 H39=>
 some (r38,H39)))))
noncomputable def zfL (R:zaf) (x0 x1:Value) (H0:Hp):Option (Value × Hp):=
 pLen .str x1 H0 fun v1=>
 pBin PP .eql T.int v1 (.int .i64 0) fun v2=>
 zaa v2 fun b3=>br b3
 (zag R F.a101 [x0] H0 fun r4 H5=>
 pBin PP .add T.int r4 (.int .i64 1) fun v6=>
 some (v6,H5))
 (pLen .str x1 H0 fun v7=>
 pBin PP .eql T.int v7 (.int .i64 1) fun v8=>
 zaa v8 fun b9=>br b9
 (zbe x1 (.int .i64 0) fun v10=>
 zag R F.a38 [x0,v10] H0 fun r11 H12=>
 some (r11,H12))
 (zat (zas (fun l13 H14=>
 zag R F.a42 [(l13.getD 0 undef),x1] H14 fun r15 H16=>
 pBin PP .eql T.int r15 (.int .i64 (-1)) fun v17=>
 zaa v17 fun b18=>br b18
 (some (.ret,[(l13.getD 1 undef)],H16))
 (pBin PP .add T.int (l13.getD 1 undef) (.int .i64 1) fun v19=>
 pLen .str x1 H16 fun v20=>
 pBin PP .add T.int r15 v20 fun v21=>
 zbf (l13.getD 0 undef) (some v21) none fun v22=>
 some (.next,[v22,v19],H16))) [x0,(.int .i64 0)] H0) fun q23 l24 H25=>zaE q23 none
 (fun i26=>zav i26 0 (
 none) (
 none))
 (some ((l24.headD undef),H25))))
noncomputable def zfK (R:zaf) (x0 x1:Value) (H0:Hp):Option (Value × Hp):=
 zag R F.a86 [x0,x1] H0 fun r1 H2=>
 some (r1,H2)
noncomputable def zd2 (R:zaf) (x0 x1:Value) (H0:Hp):Option (Value × Hp):=
 zag R F.a57 [x0,x1] H0 fun r1 H2=>
 zae r1 0 fun v3=>
 zae r1 1 fun v4=>
 some ((.tuple #[v3,v4]),H2)
noncomputable def zd3 (R:zaf) (x0 x1 x2:Value) (H0:Hp):Option (Value × Hp):=
 zag R F.a40 [x0,x1,x2] H0 fun r1 H2=>
 zae r1 0 fun v3=>
 zae r1 1 fun v4=>
 zfl PP .neq T.error v4 fun v5=>
 zaa v5 fun b6=>br b6
 (zag R F.a41 [(.string ⟨#[80,97,114,115,101,85,105,110,116]⟩),x0,x1,x2,v4] H2 fun r7 H8=>
 some ((.tuple #[v3,r7]),H8))
 (some ((.tuple #[v3,.nilIface]),H2))
noncomputable def zdH (R:zaf) (x0 x1:Value) (H0:Hp):Option (Value × Hp):=
 zat (
 zat (
 pBin PP .geq T.uint8 x0 (.int .u8 48) fun v1=>
 zaa v1 fun b2=>br b2
 (pBin PP .leq T.uint8 x0 (.int .u8 57) fun v3=>
 some (.next,[v3],H0))
 (some (.next,[(.bool false)],H0))) fun q4 l5 H6=>zaE q4
 (zaa (l5.getD 0 undef) fun b8=>br b8
 (zaq .i64 x0 fun v9=>
 pBin PP .sub T.int v9 (.int .i64 48) fun v10=>
 some (.next,[v10],H6))
 (pBin PP .geq T.uint8 x0 (.int .u8 97) fun v11=>
 zaa v11 fun b12=>br b12
 (pBin PP .leq T.uint8 x0 (.int .u8 102) fun v13=>
 zaa v13 fun b14=>br b14
 (zaq .i64 x0 fun v15=>
 pBin PP .sub T.int v15 (.int .i64 97) fun v16=>
 pBin PP .add T.int v16 (.int .i64 10) fun v17=>
 some (.next,[v17],H6))
 (pBin PP .geq T.uint8 x0 (.int .u8 65) fun v18=>
 zaa v18 fun b19=>br b19
 (pBin PP .leq T.uint8 x0 (.int .u8 70) fun v20=>
 zaa v20 fun b21=>br b21
 (zaq .i64 x0 fun v22=>
 pBin PP .sub T.int v22 (.int .i64 65) fun v23=>
 pBin PP .add T.int v23 (.int .i64 10) fun v24=>
 some (.next,[v24],H6))
 (some (.next,[(.int .i64 (-1))],H6)))
 (some (.next,[(.int .i64 (-1))],H6))))
 (pBin PP .geq T.uint8 x0 (.int .u8 65) fun v25=>
 zaa v25 fun b26=>br b26
 (pBin PP .leq T.uint8 x0 (.int .u8 70) fun v27=>
 zaa v27 fun b28=>br b28
 (zaq .i64 x0 fun v29=>
 pBin PP .sub T.int v29 (.int .i64 65) fun v30=>
 pBin PP .add T.int v30 (.int .i64 10) fun v31=>
 some (.next,[v31],H6))
 (some (.next,[(.int .i64 (-1))],H6)))
 (some (.next,[(.int .i64 (-1))],H6)))))
 (fun i7=>zav i7 0 (
 some (.next,[(.int .i64 (-1))],H6)) (
 some (.exit i7,[(.int .i64 (-1))],H6)))
 (some (.ret,[(l5.headD undef)],H6))) fun q32 l33 H34=>zaE q32
 (pMM true [(l33.getD 0 undef),(.int .i64 0)] fun v36=>
 zaq .u64 v36 fun v37=>
 pBin PP .geq T.uint64 v37 x1 fun v38=>
 zaa v38 fun b39=>br b39
 (some ((.int .i64 (-1)),H34))
 (some ((l33.getD 0 undef),H34)))
 (fun i35=>none)
 (some ((l33.headD undef),H34))
noncomputable def zdk (R:zaf) (x0:Value) (H0:Hp):Option (Value × Hp):=
 zat (zas (fun l1 H2=>
 pBin PP .leq T.int (l1.getD 0 undef) (.int .i64 64) fun v3=>
 zaa v3 fun b4=>br b4
 (pBin PP .eql T.int x0 (l1.getD 0 undef) fun v5=>
 zaa v5 fun b6=>br b6
 (some (.ret,[(.bool true)],H2))
 (pBin PP .mul T.int (.int .i64 2) (l1.getD 0 undef) fun v7=>
 some (.next,[v7],H2)))
 (some (.exit 0,[(l1.getD 0 undef)],H2))) [(.int .i64 1)] H0) fun q8 l9 H10=>zaE q8 none
 (fun i11=>zav i11 0 (
 some ((.bool false),H10)) (
 none))
 (some ((l9.headD undef),H10))
noncomputable def zdm (R:zaf) (x0:Value) (H0:Hp):Option (Value × Hp):=
 pBin PP .geq T.uint8 x0 (.int .u8 97) fun v1=>
 zaa v1 fun b2=>br b2
 (pBin PP .leq T.uint8 x0 (.int .u8 122) fun v3=>
 zaa v3 fun b4=>br b4
 (some ((.bool true),H0))
 (pBin PP .geq T.uint8 x0 (.int .u8 65) fun v5=>
 zaa v5 fun b6=>br b6
 (pBin PP .leq T.uint8 x0 (.int .u8 90) fun v7=>
 zaa v7 fun b8=>br b8
 (some ((.bool true),H0))
 (pBin PP .eql T.uint8 x0 (.int .u8 95) fun v9=>
 some (v9,H0)))
 (pBin PP .eql T.uint8 x0 (.int .u8 95) fun v10=>
 some (v10,H0))))
 (pBin PP .geq T.uint8 x0 (.int .u8 65) fun v11=>
 zaa v11 fun b12=>br b12
 (pBin PP .leq T.uint8 x0 (.int .u8 90) fun v13=>
 zaa v13 fun b14=>br b14
 (some ((.bool true),H0))
 (pBin PP .eql T.uint8 x0 (.int .u8 95) fun v15=>
 some (v15,H0)))
 (pBin PP .eql T.uint8 x0 (.int .u8 95) fun v16=>
 some (v16,H0)))
noncomputable def zex (R:zaf) (x0:Value) (H0:Hp):Option (Value × Hp):=
 pBin PP .shr T.uint64 x0 (.int .u64 1) fun v1=>
 pBin PP .and T.uint64 v1 (.int .u64 6148914691236517205) fun v2=>
 pBin PP .and T.uint64 x0 (.int .u64 6148914691236517205) fun v3=>
 pBin PP .add T.uint64 v2 v3 fun v4=>
 pBin PP .shr T.uint64 v4 (.int .u64 2) fun v5=>
 pBin PP .and T.uint64 v5 (.int .u64 3689348814741910323) fun v6=>
 pBin PP .and T.uint64 v4 (.int .u64 3689348814741910323) fun v7=>
 pBin PP .add T.uint64 v6 v7 fun v8=>
 pBin PP .shr T.uint64 v8 (.int .u64 4) fun v9=>
 pBin PP .add T.uint64 v9 v8 fun v10=>
 pBin PP .and T.uint64 v10 (.int .u64 1085102592571150095) fun v11=>
 pBin PP .shr T.uint64 v11 (.int .u64 8) fun v12=>
 pBin PP .add T.uint64 v11 v12 fun v13=>
 pBin PP .shr T.uint64 v13 (.int .u64 16) fun v14=>
 pBin PP .add T.uint64 v13 v14 fun v15=>
 pBin PP .shr T.uint64 v15 (.int .u64 32) fun v16=>
 pBin PP .add T.uint64 v15 v16 fun v17=>
 zaq .i64 v17 fun v18=>
 pBin PP .and T.int v18 (.int .i64 127) fun v19=>
 some (v19,H0)
noncomputable def zcf (R:zaf) (x0 x1:Value) (H0:Hp):Option (Value × Hp):=
 pLen .str x1 H0 fun v1=>
 zat (
 zat (
 pBin PP .eql T.int v1 (.int .i64 0) fun v2=>
 zaa v2 fun b3=>br b3
 (some (.next,[(.bool true)],H0))
 (pBin PP .eql T.string x1 x0 fun v4=>
 some (.next,[v4],H0))) fun q5 l6 H7=>zaE q5
 (zaa (l6.getD 0 undef) fun b9=>br b9
 (some (.ret,[(.int .i64 0)],H7))
 (pBin PP .eql T.int v1 (.int .i64 1) fun v10=>
 zaa v10 fun b11=>br b11
 (zbe x1 (.int .i64 0) fun v12=>
 zag R F.a58 [x0,v12] H7 fun r13 H14=>
 some (.ret,[r13],H14))
 (pLen .str x0 H7 fun v15=>
 pBin PP .geq T.int v1 v15 fun v16=>
 zaa v16 fun b17=>br b17
 (some (.ret,[(.int .i64 (-1))],H7))
 (zal 1 false H7 (.pointer (some ⟨G.internal_bytealg_MaxLen,0,none⟩)) fun v18=>
 pBin PP .leq T.int v1 v18 fun v19=>
 zaa v19 fun b20=>br b20
 (pLen .str x0 H7 fun v21=>
 pBin PP .leq T.int v21 (.int .i64 64) fun v22=>
 zaa v22 fun b23=>br b23
 (zag R F.a93 [x0,x1] H7 fun r24 H25=>
 some (.ret,[r24],H25))
 (some (.next,[],H7)))
 (some (.next,[],H7))))))
 (fun i8=>zav i8 0 (
 some (.next,[],H7)) (
 some (.exit i8,[],H7)))
 (some (.ret,[(l6.headD undef)],H7))) fun q26 l27 H28=>zaE q26
 (zbe x1 (.int .i64 0) fun v30=>
 zbe x1 (.int .i64 1) fun v31=>
 pLen .str x0 H28 fun v32=>
 pBin PP .sub T.int v32 v1 fun v33=>
 pBin PP .add T.int v33 (.int .i64 1) fun v34=>
 zat (zas (fun l35 H36=>
 pBin PP .lss T.int (l35.getD 0 undef) v34 fun v37=>
 zaa v37 fun b38=>br b38
 (zat (
 zbe x0 (l35.getD 0 undef) fun v39=>
 pBin PP .neq T.uint8 v39 v30 fun v40=>
 zaa v40 fun b41=>br b41
 (pBin PP .add T.int (l35.getD 0 undef) (.int .i64 1) fun v42=>
 zbf x0 (some v42) (some v34) fun v43=>
 zag R F.a58 [v43,v30] H36 fun r44 H45=>
 pBin PP .lss T.int r44 (.int .i64 0) fun v46=>
 zaa v46 fun b47=>br b47
 (some (.ret,[(.int .i64 (-1))],H45))
 (pBin PP .add T.int r44 (.int .i64 1) fun v48=>
 pBin PP .add T.int (l35.getD 0 undef) v48 fun v49=>
 some (.next,[v49],H45)))
 (some (.next,[(l35.getD 0 undef)],H36))) fun q50 l51 H52=>zaE q50
 (zat (
 pBin PP .add T.int (l51.getD 0 undef) (.int .i64 1) fun v54=>
 zbe x0 v54 fun v55=>
 pBin PP .eql T.uint8 v55 v31 fun v56=>
 zaa v56 fun b57=>br b57
 (pBin PP .add T.int (l51.getD 0 undef) v1 fun v58=>
 zbf x0 (some (l51.getD 0 undef)) (some v58) fun v59=>
 pBin PP .eql T.string v59 x1 fun v60=>
 zaa v60 fun b61=>br b61
 (some (.ret,[(l51.getD 0 undef)],H52))
 (some (.next,[],H52)))
 (some (.next,[],H52))) fun q62 l63 H64=>zaE q62
 (pBin PP .add T.int (l51.getD 0 undef) (.int .i64 1) fun v66=>
 pBin PP .add T.int (l35.getD 1 undef) (.int .i64 1) fun v67=>
 zat (
 zal 1 false H64 (.pointer (some ⟨G.internal_bytealg_MaxLen,0,none⟩)) fun v68=>
 pBin PP .leq T.int v1 v68 fun v69=>
 zaa v69 fun b70=>br b70
 (zag R F.a97 [v66] H64 fun r71 H72=>
 pBin PP .gtr T.int v67 r71 fun v73=>
 some (.next,[v73],H72))
 (some (.next,[(.bool false)],H64))) fun q74 l75 H76=>zaE q74
 (zaa (l75.getD 0 undef) fun b78=>br b78
 (zbf x0 (some v66) none fun v79=>
 zag R F.a93 [v79,x1] H76 fun r80 H81=>
 pBin PP .geq T.int r80 (.int .i64 0) fun v82=>
 zaa v82 fun b83=>br b83
 (pBin PP .add T.int r80 v66 fun v84=>
 some (.ret,[v84],H81))
 (some (.ret,[(.int .i64 (-1))],H81)))
 (zal 1 false H76 (.pointer (some ⟨G.internal_bytealg_MaxLen,0,none⟩)) fun v85=>
 pBin PP .gtr T.int v1 v85 fun v86=>
 zaa v86 fun b87=>br b87
 (pBin PP .shr T.int v66 (.int .u64 4) fun v88=>
 pBin PP .add T.int (.int .i64 4) v88 fun v89=>
 pBin PP .geq T.int v67 v89 fun v90=>
 zaa v90 fun b91=>br b91
 (pBin PP .lss T.int v66 v34 fun v92=>
 zaa v92 fun b93=>br b93
 (zbf x0 (some v66) none fun v94=>
 zag R F.a98 [v94,x1] H76 fun r95 H96=>
 pBin PP .lss T.int r95 (.int .i64 0) fun v97=>
 zaa v97 fun b98=>br b98
 (some (.ret,[(.int .i64 (-1))],H96))
 (pBin PP .add T.int v66 r95 fun v99=>
 some (.ret,[v99],H96)))
 (some (.next,[v66,v67],H76)))
 (some (.next,[v66,v67],H76)))
 (some (.next,[v66,v67],H76))))
 (fun i77=>zav i77 2 (
 some (.next,[v66,v67],H76)) (
 some (.exit i77,[v66,v67],H76)))
 (some (.ret,[(l75.headD undef)],H76)))
 (fun i65=>zav i65 2 (
 some (.next,[(l51.getD 0 undef),(l35.getD 1 undef)],H64)) (
 some (.exit i65,[(l51.getD 0 undef),(l35.getD 1 undef)],H64)))
 (some (.ret,[(l63.headD undef)],H64)))
 (fun i53=>zav i53 2 (
 some (.next,[(l51.getD 0 undef),(l35.getD 1 undef)],H52)) (
 some (.exit i53,[(l51.getD 0 undef),(l35.getD 1 undef)],H52)))
 (some (.ret,[(l51.headD undef)],H52)))
 (some (.exit 1,[(l35.getD 0 undef),(l35.getD 1 undef)],H36))) [(.int .i64 0),(.int .i64 0)] H28) fun q100 l101 H102=>zaE q100 none
 (fun i103=>zav i103 1 (
 some ((.int .i64 (-1)),H102)) (
 none))
 (some ((l101.headD undef),H102)))
 (fun i29=>none)
 (some ((l27.headD undef),H28))
noncomputable def zbW (R:zaf) (x0 x1:Value) (H0:Hp):Option (Value × Hp):=
 zag R F.a85 [x0,x1] H0 fun r1 H2=>
 pUn .not r1 fun v3=>
 zaa v3 fun b4=>br b4
 (some ((.tuple #[x0,(.bool false)]),H2))
 (pLen .str x1 H2 fun v5=>
 zbf x0 (some v5) none fun v6=>
 some ((.tuple #[v6,(.bool true)]),H2))
noncomputable def zcg (R:zaf) (x0 x1 x2:Value) (H0:Hp):Option (Value × Hp):=zdb PP orc R F.a40 Go.Proofs.Tryz.f160 [x0,x1,x2] H0
noncomputable def zbU (R:zaf) (x0 x1:Value) (H0:Hp):Option (Value × Hp):=
 zag R F.a39 [x0,x1] H0 fun r1 H2=>
 some (r1,H2)
noncomputable def zbV (R:zaf) (x0 x1:Value) (H0:Hp):Option (Value × Hp):=
 pLen .str x0 H0 fun v1=>
 pLen .str x1 H0 fun v2=>
 pBin PP .geq T.int v1 v2 fun v3=>
 zaa v3 fun b4=>br b4
 (pLen .str x1 H0 fun v5=>
 zbf x0 none (some v5) fun v6=>
 pBin PP .eql T.string v6 x1 fun v7=>
 some (v7,H0))
 (some ((.bool false),H0))
noncomputable def zcH (R:zaf) (x0:Value) (H0:Hp):Option (Value × Hp):=
 pBin PP .or T.uint8 x0 (.int .u8 32) fun v1=>
 some (v1,H0)
theorem ze9 (E:ET) (h:E F.a46=none) (x0 x1:Value) (H0:Hp):run PP orc E F.a46 [x0,x1] H0=zcW (run PP orc E) x0 x1 H0:=(zay Go.Proofs.Tryz.func5 (by kernel_rfl) (by kernel_rfl) h _ _).trans (rfl)
theorem zfB (E:ET) (h:E F.a31=none) (x0 x1:Value) (H0:Hp):run PP orc E F.a31 [x0,x1] H0=zdn (run PP orc E) x0 x1 H0:=(zay Go.Proofs.Tryz.func11 (by kernel_rfl) (by kernel_rfl) h _ _).trans (by kernel_rfl)
theorem zgI (E:ET) (h:E F.a75=none) (H0:Hp):run PP orc E F.a75 [] H0=zeb (run PP orc E)  H0:=(zay Go.Proofs.Tryz.func12 (by kernel_rfl) (by kernel_rfl) h _ _).trans (by kernel_rfl)
theorem zlB (E:ET) (h:E F.a25=none) (x0 x1 x2:Value) (H0:Hp):run PP orc E F.a25 [x0,x1,x2] H0=zhj (run PP orc E) x0 x1 x2 H0:=(zay Go.Proofs.Tryz.func13 (by kernel_rfl) (by kernel_rfl) h _ _).trans (rfl)
theorem zhK (E:ET) (h:E F.a8=none) (x0:Value) (H0:Hp):run PP orc E F.a8 [x0] H0=zhP (run PP orc E) x0 H0:=(zay Go.Proofs.Tryz.func15 (by kernel_rfl) (by kernel_rfl) h _ _).trans (by kernel_rfl)
theorem zeR (E:ET) (h:E F.a30=none) (x0 x1:Value) (H0:Hp):run PP orc E F.a30 [x0,x1] H0=zcI (run PP orc E) x0 x1 H0:=(zay Go.Proofs.Tryz.func16 (by kernel_rfl) (by kernel_rfl) h _ _).trans (rfl)
theorem ze7 (E:ET) (h:E F.a49=none) (x0 x1:Value) (H0:Hp):run PP orc E F.a49 [x0,x1] H0=zcU (run PP orc E) x0 x1 H0:=(zay Go.Proofs.Tryz.func17 (by kernel_rfl) (by kernel_rfl) h _ _).trans (rfl)
theorem zmB (E:ET) (h:E F.a54=none) (x0 x1 x2:Value) (H0:Hp):run PP orc E F.a54 [x0,x1,x2] H0=zie (run PP orc E) x0 x1 x2 H0:=(zay Go.Proofs.Tryz.func18 (by kernel_rfl) (by kernel_rfl) h _ _).trans (by kernel_rfl)
theorem zje (E:ET) (h:E F.a26=none) (x0 x1:Value) (H0:Hp):run PP orc E F.a26 [x0,x1] H0=zjJ (run PP orc E) x0 x1 H0:=(zay Go.Proofs.Tryz.func20 (by kernel_rfl) (by kernel_rfl) h _ _).trans (rfl)
theorem zdX (E:ET) (h:E F.a24=none) (x0 x1:Value) (H0:Hp):run PP orc E F.a24 [x0,x1] H0=zd4 (run PP orc E) x0 x1 H0:=(zay Go.Proofs.Tryz.func23 (by kernel_rfl) (by kernel_rfl) h _ _).trans (rfl)
theorem zjf (E:ET) (h:E F.a9=none) (x0 x1:Value) (H0:Hp):run PP orc E F.a9 [x0,x1] H0=zjK (run PP orc E) x0 x1 H0:=(zay Go.Proofs.Tryz.func24 (by kernel_rfl) (by kernel_rfl) h _ _).trans (rfl)
theorem zdY (E:ET) (h:E F.a16=none) (x0 x1:Value) (H0:Hp):run PP orc E F.a16 [x0,x1] H0=zd5 (run PP orc E) x0 x1 H0:=(zay Go.Proofs.Tryz.func25 (by kernel_rfl) (by kernel_rfl) h _ _).trans (rfl)
theorem zpP (E:ET) (h:E F.a65=none) (x0:Value) (H0:Hp):run PP orc E F.a65 [x0] H0=zkV (run PP orc E) x0 H0:=(zay Go.Proofs.Tryz.func26 (by kernel_rfl) (by kernel_rfl) h _ _).trans (by kernel_rfl)
theorem ze8 (E:ET) (h:E F.a48=none) (x0 x1:Value) (H0:Hp):run PP orc E F.a48 [x0,x1] H0=zcV (run PP orc E) x0 x1 H0:=(zay Go.Proofs.Tryz.func30 (by kernel_rfl) (by kernel_rfl) h _ _).trans (rfl)
theorem zhI (E:ET) (h:E F.a28=none) (x0 x1:Value) (H0:Hp):run PP orc E F.a28 [x0,x1] H0=zeY (run PP orc E) x0 x1 H0:=(zay Go.Proofs.Tryz.func31 (by kernel_rfl) (by kernel_rfl) h _ _).trans (by kernel_rfl)
theorem znG (E:ET) (h:E F.a27=none) (x0 x1:Value) (H0:Hp):run PP orc E F.a27 [x0,x1] H0=zjF (run PP orc E) x0 x1 H0:=(zay Go.Proofs.Tryz.func35 (by kernel_rfl) (by kernel_rfl) h _ _).trans (rfl)
theorem zgF (E:ET) (h:E F.a11=none) (x0 x1:Value) (H0:Hp):run PP orc E F.a11 [x0,x1] H0=zd8 (run PP orc E) x0 x1 H0:=(zay Go.Proofs.Tryz.func36 (by kernel_rfl) (by kernel_rfl) h _ _).trans (rfl)
theorem zgh (E:ET) (h:E F.a47=none) (x0 x1:Value) (H0:Hp):run PP orc E F.a47 [x0,x1] H0=zdI (run PP orc E) x0 x1 H0:=(zay Go.Proofs.Tryz.func37 (by kernel_rfl) (by kernel_rfl) h _ _).trans (rfl)
theorem zen (E:ET) (h:E F.a13=none) (x0 x1:Value) (H0:Hp):run PP orc E F.a13 [x0,x1] H0=zeu (run PP orc E) x0 x1 H0:=(zay Go.Proofs.Tryz.func38 (by kernel_rfl) (by kernel_rfl) h _ _).trans (rfl)
theorem znH (E:ET) (h:E F.a56=none) (x0:Value) (H0:Hp):run PP orc E F.a56 [x0] H0=zjG (run PP orc E) x0 H0:=(zay Go.Proofs.Tryz.func39 (by kernel_rfl) (by kernel_rfl) h _ _).trans (rfl)
theorem znJ (E:ET) (h:E F.a83=none) (x0 x1 x2 x3 x4 x5:Value) (H0:Hp):run PP orc E F.a83 [x0,x1,x2,x3,x4,x5] H0=zjI (run PP orc E) x0 x1 x2 x3 x4 x5 H0:=(zay Go.Proofs.Tryz.func40 (by kernel_rfl) (by kernel_rfl) h _ _).trans (by kernel_rfl)
theorem zcs (E:ET) (h:E F.a15=none) (x0 x1:Value) (H0:Hp):run PP orc E F.a15 [x0,x1] H0=zcw (run PP orc E) x0 x1 H0:=(zay Go.Proofs.Tryz.func43 (by kernel_rfl) (by kernel_rfl) h _ _).trans (rfl)
theorem znI (E:ET) (h:E F.a84=none) (x0 x1:Value) (H0:Hp):run PP orc E F.a84 [x0,x1] H0=zjH (run PP orc E) x0 x1 H0:=(zay Go.Proofs.Tryz.func47 (by kernel_rfl) (by kernel_rfl) h _ _).trans (by kernel_rfl)
theorem zhJ (E:ET) (h:E F.a18=none) (x0 x1:Value) (H0:Hp):run PP orc E F.a18 [x0,x1] H0=zeZ (run PP orc E) x0 x1 H0:=(zay Go.Proofs.Tryz.func48 (by kernel_rfl) (by kernel_rfl) h _ _).trans (by kernel_rfl)
theorem zkn (E:ET) (h:E F.a2=none) (x0 x1:Value) (H0:Hp):run PP orc E F.a2 [x0,x1] H0=zgr (run PP orc E) x0 x1 H0:=(zay Go.Proofs.Tryz.func49 (by kernel_rfl) (by kernel_rfl) h _ _).trans (by kernel_rfl)
theorem zja (E:ET) (h:E F.a19=none) (x0 x1:Value) (H0:Hp):run PP orc E F.a19 [x0,x1] H0=zfI (run PP orc E) x0 x1 H0:=(zay Go.Proofs.Tryz.func50 (by kernel_rfl) (by kernel_rfl) h _ _).trans (by kernel_rfl)
theorem znL (E:ET) (h:E F.a43=none) (x0:Value) (H0:Hp):run PP orc E F.a43 [x0] H0=zjM (run PP orc E) x0 H0:=(zay Go.Proofs.Tryz.func55 (by kernel_rfl) (by kernel_rfl) h _ _).trans (by kernel_rfl)
theorem zmA (E:ET) (h:E F.a91=none) (H0:Hp):run PP orc E F.a91 [] H0=zid (run PP orc E)  H0:=(zay Go.Proofs.Tryz.func60 (by kernel_rfl) (by kernel_rfl) h _ _).trans (by kernel_rfl)
theorem zmz (E:ET) (h:E F.a10=none) (x0:Value) (H0:Hp):run PP orc E F.a10 [x0] H0=zic (run PP orc E) x0 H0:=(zay Go.Proofs.Tryz.func62 (by kernel_rfl) (by kernel_rfl) h _ _).trans (by kernel_rfl)
theorem zjb (E:ET) (h:E F.a62=none) (x0 x1:Value) (H0:Hp):run PP orc E F.a62 [x0,x1] H0=zfJ (run PP orc E) x0 x1 H0:=(zay Go.Proofs.Tryz.func65 (by kernel_rfl) (by kernel_rfl) h _ _).trans (by kernel_rfl)
theorem zga (E:ET) (h:E F.a17=none) (x0 x1:Value) (H0:Hp):run PP orc E F.a17 [x0,x1] H0=zdB (run PP orc E) x0 x1 H0:=(zay Go.Proofs.Tryz.func67 (by kernel_rfl) (by kernel_rfl) h _ _).trans (rfl)
theorem zlA (E:ET) (h:E F.a12=none) (x0:Value) (H0:Hp):run PP orc E F.a12 [x0] H0=zhi (run PP orc E) x0 H0:=(zay Go.Proofs.Tryz.func68 (by kernel_rfl) (by kernel_rfl) h _ _).trans (by kernel_rfl)
theorem zem (E:ET) (h:E F.a4=none) (x0:Value) (H0:Hp):run PP orc E F.a4 [x0] H0=zcR (run PP orc E) x0 H0:=(zay Go.Proofs.Tryz.func69 (by kernel_rfl) (by kernel_rfl) h _ _).trans (by kernel_rfl)
theorem zg7 (E:ET) (h:E F.a67=none) (x0:Value) (H0:Hp):run PP orc E F.a67 [x0] H0=zes (run PP orc E) x0 H0:=(zay Go.Proofs.Tryz.func70 (by kernel_rfl) (by kernel_rfl) h _ _).trans (by kernel_rfl)
theorem zf9 (E:ET) (h:E F.a3=none) (x0:Value) (H0:Hp):run PP orc E F.a3 [x0] H0=zdA (run PP orc E) x0 H0:=(zay Go.Proofs.Tryz.func71 (by kernel_rfl) (by kernel_rfl) h _ _).trans (by kernel_rfl)
theorem zg8 (E:ET) (h:E F.a20=none) (x0:Value) (H0:Hp):run PP orc E F.a20 [x0] H0=zet (run PP orc E) x0 H0:=(zay Go.Proofs.Tryz.func72 (by kernel_rfl) (by kernel_rfl) h _ _).trans (rfl)
theorem zha (E:ET) (h:E F.a50=none) (x0:Value) (H0:Hp):run PP orc E F.a50 [x0] H0=zew (run PP orc E) x0 H0:=(zay Go.Proofs.Tryz.func73 (by kernel_rfl) (by kernel_rfl) h _ _).trans (by kernel_rfl)
theorem zgb (E:ET) (h:E F.a53=none) (x0:Value) (H0:Hp):run PP orc E F.a53 [x0] H0=zdC (run PP orc E) x0 H0:=(zay Go.Proofs.Tryz.func74 (by kernel_rfl) (by kernel_rfl) h _ _).trans (rfl)
theorem zgd (E:ET) (h:E F.a36=none) (x0 x1:Value) (H0:Hp):run PP orc E F.a36 [x0,x1] H0=zdE (run PP orc E) x0 x1 H0:=(zay Go.Proofs.Tryz.func75 (by kernel_rfl) (by kernel_rfl) h _ _).trans (rfl)
theorem zgD (E:ET) (h:E F.a23=none) (x0 x1:Value) (H0:Hp):run PP orc E F.a23 [x0,x1] H0=zd6 (run PP orc E) x0 x1 H0:=(zay Go.Proofs.Tryz.func76 (by kernel_rfl) (by kernel_rfl) h _ _).trans (rfl)
theorem zdN (E:ET) (h:E F.a79=none) (x0 x1:Value) (H0:Hp):run PP orc E F.a79 [x0,x1] H0=zch (run PP orc E) x0 x1 H0:=(zay Go.Proofs.Tryz.func77 (by kernel_rfl) (by kernel_rfl) h _ _).trans (by kernel_rfl)
theorem zeF (E:ET) (h:E F.a14=none) (x0 x1:Value) (H0:Hp):run PP orc E F.a14 [x0,x1] H0=zcz (run PP orc E) x0 x1 H0:=(zay Go.Proofs.Tryz.func78 (by kernel_rfl) (by kernel_rfl) h _ _).trans (by kernel_rfl)
theorem zit (E:ET) (h:E F.a88=none) (x0:Value) (H0:Hp):run PP orc E F.a88 [x0] H0=zfp (run PP orc E) x0 H0:=(zay Go.Proofs.Tryz.func79 (by kernel_rfl) (by kernel_rfl) h _ _).trans (by kernel_rfl)
theorem znK (E:ET) (h:E F.a0=none) (x0 x1:Value) (H0:Hp):run PP orc E F.a0 [x0,x1] H0=zjL (run PP orc E) x0 x1 H0:=(zay Go.Proofs.Tryz.func80 (by kernel_rfl) (by kernel_rfl) h _ _).trans (by kernel_rfl)
theorem zpQ (E:ET) (h:E F.a55=none) (x0:Value) (H0:Hp):run PP orc E F.a55 [x0] H0=zkW (run PP orc E) x0 H0:=(zay Go.Proofs.Tryz.func81 (by kernel_rfl) (by kernel_rfl) h _ _).trans (by kernel_rfl)
theorem zpS (E:ET) (h:E F.a70=none) (x0 x1 x2 x3:Value) (H0:Hp):run PP orc E F.a70 [x0,x1,x2,x3] H0=zkY (run PP orc E) x0 x1 x2 x3 H0:=(zay Go.Proofs.Tryz.func82 (by kernel_rfl) (by kernel_rfl) h _ _).trans (by kernel_rfl)
theorem r_bits_Un (E:ET) (h:E F.a74=none) (x0 x1 x2:Value) (H0:Hp):run PP orc E F.a74 [x0,x1,x2] H0=zm1 (run PP orc E) x0 x1 x2 H0:=(zay Go.Proofs.Tryz.func83 (by kernel_rfl) (by kernel_rfl) h _ _).trans (by kernel_rfl)
theorem zpU (E:ET) (h:E F.a68=none) (x0 x1 x2 x3:Value) (H0:Hp):run PP orc E F.a68 [x0,x1,x2,x3] H0=zk0 (run PP orc E) x0 x1 x2 x3 H0:=(zay Go.Proofs.Tryz.func84 (by kernel_rfl) (by kernel_rfl) h _ _).trans (by kernel_rfl)
theorem zpT (E:ET) (h:E F.a69=none) (x0 x1 x2 x3:Value) (H0:Hp):run PP orc E F.a69 [x0,x1,x2,x3] H0=zkZ (run PP orc E) x0 x1 x2 x3 H0:=(zay Go.Proofs.Tryz.func85 (by kernel_rfl) (by kernel_rfl) h _ _).trans (by kernel_rfl)
theorem zmD (E:ET) (h:E F.a73=none) (x0 x1 x2 x3:Value) (H0:Hp):run PP orc E F.a73 [x0,x1,x2,x3] H0=zig (run PP orc E) x0 x1 x2 x3 H0:=(zay Go.Proofs.Tryz.func86 (by kernel_rfl) (by kernel_rfl) h _ _).trans (by kernel_rfl)
theorem zpR (E:ET) (h:E F.a71=none) (x0 x1 x2 x3:Value) (H0:Hp):run PP orc E F.a71 [x0,x1,x2,x3] H0=zkX (run PP orc E) x0 x1 x2 x3 H0:=(zay Go.Proofs.Tryz.func87 (by kernel_rfl) (by kernel_rfl) h _ _).trans (by kernel_rfl)
theorem zgG (E:ET) (h:E F.a77=none) (x0 x1:Value) (H0:Hp):run PP orc E F.a77 [x0,x1] H0=zd9 (run PP orc E) x0 x1 H0:=(zay Go.Proofs.Tryz.func90 (by kernel_rfl) (by kernel_rfl) h _ _).trans (by kernel_rfl)
theorem ze6 (E:ET) (h:E F.a7=none) (x0 x1:Value) (H0:Hp):run PP orc E F.a7 [x0,x1] H0=zcT (run PP orc E) x0 x1 H0:=(zay Go.Proofs.Tryz.func91 (by kernel_rfl) (by kernel_rfl) h _ _).trans (by kernel_rfl)
theorem zmy (E:ET) (h:E F.a92=none) (x0:Value) (H0:Hp):run PP orc E F.a92 [x0] H0=zib (run PP orc E) x0 H0:=(zay Go.Proofs.Tryz.func93 (by kernel_rfl) (by kernel_rfl) h _ _).trans (by kernel_rfl)
theorem zgA (E:ET) (h:E F.a89=none) (x0 x1:Value) (H0:Hp):run PP orc E F.a89 [x0,x1] H0=zd1 (run PP orc E) x0 x1 H0:=(zay Go.Proofs.Tryz.func94 (by kernel_rfl) (by kernel_rfl) h _ _).trans (by kernel_rfl)
theorem zhH (E:ET) (h:E F.a90=none) (x0 x1:Value) (H0:Hp):run PP orc E F.a90 [x0,x1] H0=zeX (run PP orc E) x0 x1 H0:=(zay Go.Proofs.Tryz.func95 (by kernel_rfl) (by kernel_rfl) h _ _).trans (by kernel_rfl)
theorem zg9 (E:ET) (h:E F.a63=none) (x0 x1 x2 x3:Value) (H0:Hp):run PP orc E F.a63 [x0,x1,x2,x3] H0=zev (run PP orc E) x0 x1 x2 x3 H0:=(zay Go.Proofs.Tryz.func101 (by kernel_rfl) (by kernel_rfl) h _ _).trans (rfl)
theorem zlE (E:ET) (h:E F.a21=none) (x0:Value) (H0:Hp):run PP orc E F.a21 [x0] H0=zhm (run PP orc E) x0 H0:=(zay Go.Proofs.Tryz.func102 (by kernel_rfl) (by kernel_rfl) h _ _).trans (rfl)
theorem zis (E:ET) (h:E F.a66=none) (x0:Value) (H0:Hp):run PP orc E F.a66 [x0] H0=zfo (run PP orc E) x0 H0:=(zay Go.Proofs.Tryz.func103 (by kernel_rfl) (by kernel_rfl) h _ _).trans (rfl)
theorem zgc (E:ET) (h:E F.a37=none) (x0:Value) (H0:Hp):run PP orc E F.a37 [x0] H0=zdD (run PP orc E) x0 H0:=(zay Go.Proofs.Tryz.func104 (by kernel_rfl) (by kernel_rfl) h _ _).trans (by kernel_rfl)
theorem zgE (E:ET) (h:E F.a52=none) (x0:Value) (H0:Hp):run PP orc E F.a52 [x0] H0=zd7 (run PP orc E) x0 H0:=(zay Go.Proofs.Tryz.func105 (by kernel_rfl) (by kernel_rfl) h _ _).trans (by kernel_rfl)
theorem zfx (E:ET) (h:E F.a35=none) (x0:Value) (H0:Hp):run PP orc E F.a35 [x0] H0=zdj (run PP orc E) x0 H0:=(zay Go.Proofs.Tryz.func106 (by kernel_rfl) (by kernel_rfl) h _ _).trans (by kernel_rfl)
theorem zfz (E:ET) (h:E F.a34=none) (x0:Value) (H0:Hp):run PP orc E F.a34 [x0] H0=zdl (run PP orc E) x0 H0:=(zay Go.Proofs.Tryz.func107 (by kernel_rfl) (by kernel_rfl) h _ _).trans (rfl)
theorem zfr (E:ET) (h:E F.a1=none) (x0 x1:Value) (H0:Hp):run PP orc E F.a1 [x0,x1] H0=zc4 (run PP orc E) x0 x1 H0:=(zay Go.Proofs.Tryz.func108 (by kernel_rfl) (by kernel_rfl) h _ _).trans (by kernel_rfl)
theorem zgf (E:ET) (h:E F.a51=none) (x0:Value) (H0:Hp):run PP orc E F.a51 [x0] H0=zdG (run PP orc E) x0 H0:=(zay Go.Proofs.Tryz.func109 (by kernel_rfl) (by kernel_rfl) h _ _).trans (by kernel_rfl)
theorem zge (E:ET) (h:E F.a82=none) (x0 x1:Value) (H0:Hp):run PP orc E F.a82 [x0,x1] H0=zdF (run PP orc E) x0 x1 H0:=(zay Go.Proofs.Tryz.func110 (by kernel_rfl) (by kernel_rfl) h _ _).trans (by kernel_rfl)
theorem zei (E:ET) (h:E F.a80=none) (x0 x1:Value) (H0:Hp):run PP orc E F.a80 [x0,x1] H0=zcv (run PP orc E) x0 x1 H0:=(zay Go.Proofs.Tryz.func111 (by kernel_rfl) (by kernel_rfl) h _ _).trans (by kernel_rfl)
theorem zeh (E:ET) (h:E F.a81=none) (x0 x1:Value) (H0:Hp):run PP orc E F.a81 [x0,x1] H0=zcu (run PP orc E) x0 x1 H0:=(zay Go.Proofs.Tryz.func112 (by kernel_rfl) (by kernel_rfl) h _ _).trans (by kernel_rfl)
theorem zgH (E:ET) (h:E F.a33=none) (x0:Value) (H0:Hp):run PP orc E F.a33 [x0] H0=zea (run PP orc E) x0 H0:=(zay Go.Proofs.Tryz.func113 (by kernel_rfl) (by kernel_rfl) h _ _).trans (by kernel_rfl)
theorem zmE (E:ET) (h:E F.a5=none) (x0:Value) (H0:Hp):run PP orc E F.a5 [x0] H0=zih (run PP orc E) x0 H0:=(zay Go.Proofs.Tryz.func114 (by kernel_rfl) (by kernel_rfl) h _ _).trans (by kernel_rfl)
theorem zlD (E:ET) (h:E F.a22=none) (x0 x1:Value) (H0:Hp):run PP orc E F.a22 [x0,x1] H0=zhl (run PP orc E) x0 x1 H0:=(zay Go.Proofs.Tryz.func115 (by kernel_rfl) (by kernel_rfl) h _ _).trans (by kernel_rfl)
theorem zlC (E:ET) (h:E F.a45=none) (x0:Value) (H0:Hp):run PP orc E F.a45 [x0] H0=zhk (run PP orc E) x0 H0:=(zay Go.Proofs.Tryz.func116 (by kernel_rfl) (by kernel_rfl) h _ _).trans (by kernel_rfl)
theorem ziu (E:ET) (h:E F.a29=none) (x0:Value) (H0:Hp):run PP orc E F.a29 [x0] H0=zfq (run PP orc E) x0 H0:=(zay Go.Proofs.Tryz.func117 (by kernel_rfl) (by kernel_rfl) h _ _).trans (by kernel_rfl)
theorem zmC (E:ET) (h:E F.a44=none) (x0 x1 x2 x3:Value) (H0:Hp):run PP orc E F.a44 [x0,x1,x2,x3] H0=zif (run PP orc E) x0 x1 x2 x3 H0:=(zay Go.Proofs.Tryz.func118 (by kernel_rfl) (by kernel_rfl) h _ _).trans (by kernel_rfl)
theorem zjd (E:ET) (h:E F.a60=none) (x0 x1:Value) (H0:Hp):run PP orc E F.a60 [x0,x1] H0=zfL (run PP orc E) x0 x1 H0:=(zay Go.Proofs.Tryz.func135 (by kernel_rfl) (by kernel_rfl) h _ _).trans (by kernel_rfl)
theorem zjc (E:ET) (h:E F.a42=none) (x0 x1:Value) (H0:Hp):run PP orc E F.a42 [x0,x1] H0=zfK (run PP orc E) x0 x1 H0:=(zay Go.Proofs.Tryz.func136 (by kernel_rfl) (by kernel_rfl) h _ _).trans (by kernel_rfl)
theorem zgB (E:ET) (h:E F.a87=none) (x0 x1:Value) (H0:Hp):run PP orc E F.a87 [x0,x1] H0=zd2 (run PP orc E) x0 x1 H0:=(zay Go.Proofs.Tryz.func137 (by kernel_rfl) (by kernel_rfl) h _ _).trans (by kernel_rfl)
theorem zgC (E:ET) (h:E F.a59=none) (x0 x1 x2:Value) (H0:Hp):run PP orc E F.a59 [x0,x1,x2] H0=zd3 (run PP orc E) x0 x1 x2 H0:=(zay Go.Proofs.Tryz.func138 (by kernel_rfl) (by kernel_rfl) h _ _).trans (by kernel_rfl)
theorem zgg (E:ET) (h:E F.a78=none) (x0 x1:Value) (H0:Hp):run PP orc E F.a78 [x0,x1] H0=zdH (run PP orc E) x0 x1 H0:=(zay Go.Proofs.Tryz.func139 (by kernel_rfl) (by kernel_rfl) h _ _).trans (by kernel_rfl)
theorem zfy (E:ET) (h:E F.a76=none) (x0:Value) (H0:Hp):run PP orc E F.a76 [x0] H0=zdk (run PP orc E) x0 H0:=(zay Go.Proofs.Tryz.func140 (by kernel_rfl) (by kernel_rfl) h _ _).trans (by kernel_rfl)
theorem zfA (E:ET) (h:E F.a32=none) (x0:Value) (H0:Hp):run PP orc E F.a32 [x0] H0=zdm (run PP orc E) x0 H0:=(zay Go.Proofs.Tryz.func141 (by kernel_rfl) (by kernel_rfl) h _ _).trans (by kernel_rfl)
theorem zhb (E:ET) (h:E F.a72=none) (x0:Value) (H0:Hp):run PP orc E F.a72 [x0] H0=zex (run PP orc E) x0 H0:=(zay Go.Proofs.Tryz.func143 (by kernel_rfl) (by kernel_rfl) h _ _).trans (by kernel_rfl)
theorem zdM (E:ET) (h:E F.a86=none) (x0 x1:Value) (H0:Hp):run PP orc E F.a86 [x0,x1] H0=zcf (run PP orc E) x0 x1 H0:=(zay Go.Proofs.Tryz.func158 (by kernel_rfl) (by kernel_rfl) h _ _).trans (by kernel_rfl)
theorem zc3 (E:ET) (h:E F.a57=none) (x0 x1:Value) (H0:Hp):run PP orc E F.a57 [x0,x1] H0=zbW (run PP orc E) x0 x1 H0:=(zay Go.Proofs.Tryz.func159 (by kernel_rfl) (by kernel_rfl) h _ _).trans (by kernel_rfl)
theorem zce (E:ET) (h:E F.a40=none) (x0 x1 x2:Value) (H0:Hp):run PP orc E F.a40 [x0,x1,x2] H0=zcg (run PP orc E) x0 x1 x2 H0:=(zay Go.Proofs.Tryz.func160 (by kernel_rfl) (by kernel_rfl) h _ _).trans (rfl)
theorem zc1 (E:ET) (h:E F.a58=none) (x0 x1:Value) (H0:Hp):run PP orc E F.a58 [x0,x1] H0=zbU (run PP orc E) x0 x1 H0:=(zay Go.Proofs.Tryz.func171 (by kernel_rfl) (by kernel_rfl) h _ _).trans (by kernel_rfl)
theorem zc2 (E:ET) (h:E F.a85=none) (x0 x1:Value) (H0:Hp):run PP orc E F.a85 [x0,x1] H0=zbV (run PP orc E) x0 x1 H0:=(zay Go.Proofs.Tryz.func175 (by kernel_rfl) (by kernel_rfl) h _ _).trans (by kernel_rfl)
theorem zeQ (E:ET) (h:E F.a6=none) (x0:Value) (H0:Hp):run PP orc E F.a6 [x0] H0=zcH (run PP orc E) x0 H0:=(zay Go.Proofs.Tryz.func176 (by kernel_rfl) (by kernel_rfl) h _ _).trans (by kernel_rfl)
end Go.AM
namespace Go.AM
open Go
def ccB (i:Nat) (H:Hp):Option AObj→Option (Value × Hp)
 |some (.cells [.pointer none,v] true)=>if H.ty i=some T.strings_Builder then some (.tuple #[],H.set i (some (.cells [.pointer (some ⟨i,0,none⟩),v] true))) else none
 |some (.cells [.pointer (some ⟨j,0,none⟩),v] true)=>if j=i∧H.ty i=some T.strings_Builder then some (.tuple #[],H) else none
 |_=>none
def extCC (l:List Value) (H:Hp):Option (Value × Hp):=
 match l with
 |[.pointer (some ⟨i,0,none⟩)]=>ccB i H (H.get i)
 |_=>none
def zpx:List Value→Option (List UInt8)
 |[]=>some []
 |.int .u8 (.ofNat n) :: r=>if n<256 then (match zpx r with
  |some l=>some (UInt8.ofNat n :: l)
  |none=>none) else none
 |_=>none
def strB2 (i j n:Nat) (H:Hp):Option AObj→Option (Value × Hp)
 |some (.cells cs true)=>if H.ty i=some T.strings_Builder∧H.ty j=some T.uint8∧0<n∧n≤cs.length∧n≤2^60 then (match zpx (cs.take n) with
  |some l=>some (.string ⟨l.toArray⟩,H.set j (some (.cells cs false)))
  |none=>none) else none
 |_=>none
def strB (i:Nat) (H:Hp):Option AObj→Option (Value × Hp)
 |some (.cells [_,.slice none 0 0] _)=>if H.ty i=some T.strings_Builder then some (.string ⟨#[]⟩,H) else none
 |some (.cells [_,.slice (some ⟨j,0,some 1⟩) n c] _)=>strB2 i j n H (H.get j)
 |_=>none
def extStr (l:List Value) (H:Hp):Option (Value × Hp):=
 match l with
 |[.pointer (some ⟨i,0,none⟩)]=>strB i H (H.get i)
 |_=>none
theorem zin:∀ (cs:List Value) (l:List UInt8),zpx cs=some l→cs=l.map fun b=>Value.int .u8 (b.toNat:Int)
 |[],l,h=>by cases h;rfl
 |v :: r,l,h=>by
  unfold zpx at h;split at h
  ·rename_i q;cases q
  ·rename_i n r' q;cases q;split at h
   ·rename_i hn;split at h
    ·rename_i l' hl;cases h;rw[List.map_cons,←zin _ _ hl];have:(UInt8.ofNat n).toNat=n:=by simp[UInt8.toNat_ofNat];omega
     rw[this];rfl
    ·cases h
   ·cases h
  ·cases h
theorem LRel.single {β:Bt} {a:Value} {l:List Value} (h:LRel β [a] l):∃ a',l=[a']∧VRel β a a':=by
 obtain⟨hl,hv⟩:=h
 match l,hl with
 |[x],_=>exact⟨x,rfl,hv 0 _ _ rfl rfl⟩
theorem zoL {w:World} {b:Nat} {arr:Array Value} {e:TypeId} {fz:Nat × Nat} (h:w.heap[b]?=some (.cells arr e fz)):w.shape? b=some (e,arr.size):=by unfold World.shape?;rw[h]
theorem zna (w:World) (b n:Nat):(w.freeze ⟨b,0,none⟩ n).heap.size=w.heap.size∧(∀ k,k≠b→(w.freeze ⟨b,0,none⟩ n).heap[k]?=w.heap[k]?) ∧
  (∀ arr e fz,w.heap[b]?=some (.cells arr e fz)→∃ fz',(w.freeze ⟨b,0,none⟩ n).heap[b]?=some (.cells arr e fz'))∧(w.freeze ⟨b,0,none⟩ n).os=w.os∧(w.freeze ⟨b,0,none⟩ n).tape=w.tape∧(w.freeze ⟨b,0,none⟩ n).output=w.output:=by
 unfold World.freeze;split
 ·exact⟨rfl,fun _ _=>rfl,fun arr e fz h=>⟨fz,h⟩,rfl,rfl,rfl⟩
 ·refine⟨by simp,fun k hk=>?_,fun arr e fz h=>?_,rfl,rfl,rfl⟩
  ·simp only[Array.getElem?_modify];rw[if_neg (by omega)]
  ·simp only[Array.getElem?_modify,if_true,h,Option.map_some];exact⟨_,rfl⟩
theorem extCC_ok {args:List Value} {H:Hp} {v:Value} {H':Hp} (he:extCC args H=some (v,H')) {args':List Value} {w:World} {β:Bt} (hl:LRel β args args') (hR:Rel PP w H β) :
  Calls PP F.a96 args'.toArray w fun x w'=>∃ v' β',x=.returned v'∧Rel PP w' H' β'∧Ext w.heap.size w H β w' H' β'∧VRel β' v v':=by
 have key:∀ (i:Nat) (p u:Value),H.get i=some (.cells [p,u] true)→H.ty i=some T.strings_Builder→∀ x,β i=some x→x.s=0∧∃ arr fz,w.heap[x.b]?=some (.cells arr T.strings_Builder fz)∧arr.size=x.t∧2≤arr.size∧(∀ j,j<x.t→¬ (fz.1≤j∧j<fz.2)) ∧
   ∃ p',w.cell? ⟨x.b,0,none⟩=some p'∧VRel β p p':=by
  intro i p u hg hty x hx;obtain⟨x',hx',h1,h2⟩:=hR.cells i _ true hg;rw[hx] at hx';cases hx';obtain⟨⟨arr,e,fz,g1,g2,g3⟩,g4⟩:=h2 rfl;obtain⟨x2,arr2,fz2,hx2,hs0,g5,g6⟩:=hR.tys i _ hty;rw[hx] at hx2;cases hx2;rw[g1] at g5;cases g5;obtain⟨p',a1,a2⟩:=h1 0 p rfl;rw[hs0] at a1 g4;have g4:0+2≤x.t:=g4;exact⟨hs0,arr,fz,g1,g2,by omega,g3,p',a1,a2⟩
 unfold extCC at he;split at he
 ·rename_i i;obtain⟨a',rfl,ha⟩:=hl.single;cases ha with
  |ptr _ _ x hx=>
  unfold ccB at he;split at he
  ·rename_i u hg;split at he
   ·rename_i hty;cases he;obtain⟨hs0,arr,fz,g1,g2,g3,g4,p',c0,r0⟩:=key i _ _ hg hty x hx;cases r0;have hput:=zi1 w x.b 0 (.pointer (some ⟨x.b,0,none⟩)) arr _ fz g1 (by omega);have hfz:w.frozen? ⟨x.b,0,none⟩=false:=zik g1 (g4 0 (by omega));have hcall:=cc_fresh x.b arr.size g3 w c0 (zoL g1) hfz;rw[hs0];refine hcall.mono fun e w' ⟨h1,h2⟩=>?_;subst h2;have hv:LRel β [Value.pointer (some ⟨i,0,none⟩)] [Value.pointer (some ⟨x.b,0,none⟩)]:=by have:=VRel.ptr (β:=β) i 0 x hx;rw[hs0] at this;exact LRel.cons this (LRel.nil _)
    obtain⟨k1,k2⟩:=hR.write hg hx (off:=0) (vs:=[Value.pointer (some ⟨i,0,none⟩)]) (vs':=[Value.pointer (some ⟨x.b,0,none⟩)]) (by simp) hv (by rw[hs0];exact hput);exact⟨_,β,h1,k1,k2,.tuple [] [] rfl (fun k v v' h=>by cases h)⟩
   ·cases he
  ·rename_i j u hg;split at he
   ·rename_i hj;cases he;obtain⟨rfl,hty⟩:=hj;obtain⟨hs0,arr,fz,g1,g2,g3,g4,p',c0,r0⟩:=key _ _ _ hg hty x hx;cases r0 with
    |ptr _ _ y hy=>
    rw[hx] at hy;cases hy;rw[hs0] at c0 ⊢;refine(cc_used x.b w c0).mono fun e w' ⟨h1,h2⟩=>?_;subst h2;exact⟨_,β,h1,hR,Ext.refl _ _ _ _,.tuple [] [] rfl (fun k v v' h=>by cases h)⟩
   ·cases he
  ·cases he
 ·cases he
theorem extStr_ok {args:List Value} {H:Hp} {v:Value} {H':Hp} (he:extStr args H=some (v,H')) {args':List Value} {w:World} {β:Bt} (hl:LRel β args args') (hR:Rel PP w H β) :
  Calls PP F.a95 args'.toArray w fun x w'=>∃ v' β',x=.returned v'∧Rel PP w' H' β'∧Ext w.heap.size w H β w' H' β'∧VRel β' v v':=by
 have zero:∀ i x,H.ty i=some T.strings_Builder→β i=some x→x.s=0:=fun i x hty hx=>by obtain⟨x2,arr2,fz2,hx2,hs0,_⟩:=hR.tys i _ hty;rw[hx] at hx2;cases hx2;exact hs0
 unfold extStr at he;split at he
 ·rename_i i;obtain⟨a',rfl,ha⟩:=hl.single;cases ha with
  |ptr _ _ x hx=>
  unfold strB at he;split at he
  ·rename_i p own hg;split at he
   ·rename_i hty;cases he;have hs0:=zero i x hty hx;obtain⟨x',hx',h1,_⟩:=hR.cells i _ _ hg;rw[hx] at hx';cases hx';obtain⟨v',c1,r1⟩:=h1 1 _ rfl;cases r1;rw[hs0] at c1 ⊢;refine(str_nil x.b w c1).mono fun e w' ⟨g1,g2,g3,g4,g5⟩=>?_;have hw:∀ b:Nat,w'.heap[b]?=w.heap[b]?:=fun b=>by rw[g2]
    exact⟨_,β,g1,hR.frame (by rw[g2];exact Nat.le_refl _) (fun _ _ _=>hw _),⟨g3,g4,g5,by rw[g2];exact Nat.le_refl _,Bt.le_refl _,Nat.le_refl _,fun b _ _=>hw b,fun b q=>.inr q,fun i x hx hn=>by rw[hn] at hx;cases hx⟩,.string _⟩
   ·cases he
  ·rename_i p j n c own hg;unfold strB2 at he;split at he
   ·rename_i cs hgj;split at he
    ·rename_i hc;obtain⟨hty,htj,hn0,hn,hn60⟩:=hc;split at he
     ·rename_i l hb;cases he;have hs0:=zero i x hty hx;obtain⟨x',hx',h1,_⟩:=hR.cells i _ _ hg;rw[hx] at hx';cases hx';obtain⟨v',c1,r1⟩:=h1 1 _ rfl;cases r1 with
      |slice _ _ _ _ _ y o' c' hy hnc hcc ht hoo=>
      obtain⟨y2,arr,fz,hy2,ys0,k1,k2⟩:=hR.tys j _ htj;rw[hy] at hy2;cases hy2;have ho':o'=0:=by have:=hoo (by omega);omega
      subst ho';have hcl:=zin _ _ hb;have hlen:l.length=n:=by have:=congrArg List.length hcl;rw[List.length_take,List.length_map] at this;omega
      obtain⟨y3,hy3,m1,m2⟩:=hR.cells j _ _ hgj;rw[hy] at hy3;cases hy3;obtain⟨_,m3⟩:=m2 rfl;have hcell:∀ q b,l[q]?=some b→w.cell? ((⟨y.b,0,none⟩:Addr).add q)=some (.int .u8 b.toNat):=fun q b hq=>by
       have hq':cs[q]?=some (.int .u8 (b.toNat:Int)):=by
        have e1:(cs.take n)[q]?=some (Value.int .u8 (b.toNat:Int)):=by rw[hcl,List.getElem?_map,hq];rfl
        rw[List.getElem?_take] at e1;split at e1
        ·exact e1
        ·cases e1
       obtain⟨v2,d1,d2⟩:=m1 q _ hq';cases d2;have ea:(⟨y.b,0,none⟩:Addr).add q=⟨y.b,y.s+q,none⟩:=by rw[ys0];unfold Addr.add;split<;>simp_all
       rw[ea];exact d1
      rw[hs0] at c1 ⊢;rw[←hlen] at c1;have hne:l≠[]:=fun q=>by rw[q] at hlen;simp at hlen;omega
      refine(str_row x.b y.b c' arr.size l hne (by omega) (by omega) (by omega) w c1 (zoL k1) hcell).mono fun e w' ⟨g1,w0,g2,g3,g4,g5,g6⟩=>?_;subst g6;obtain⟨f1,f2,f3,f4,f5,f6⟩:=zna w0 y.b l.length;obtain⟨q1,q2⟩:=hR.freeze (w':=w0.freeze ⟨y.b,0,none⟩ l.length) hgj hy (f4.trans g3) (f5.trans g4) (f6.trans g5) (by rw[f1,g2]) (fun k hk=>by rw[f2 k hk,g2]) (fun arr e fz hh=>f3 arr e fz (by rw[g2];exact hh));exact⟨_,β,g1,q1,q2,.string _⟩
     ·cases he
    ·cases he
   ·cases he
  ·cases he
 ·cases he
end Go.AM
namespace Go.AM
open Go Go.AM
noncomputable def zaU (R:zaf) (v3:Value) (v4:Value) (v21:Value) (l43:List Value) (H44:Hp):Option Outc:=
 pLen .sl v21 H44 fun v45=>
 pBin PP .lss T.int (l43.getD 0 undef) v45 fun v46=>
 zaa v46 fun b47=>br b47
 (pIdx 1 v21 (l43.getD 0 undef) fun p48=>
 zal 1 false H44 p48 fun v49=>
 zag R F.a9 [v3,v49] H44 fun r50 H51=>
 zae r50 0 fun v52=>
 zae r50 1 fun v53=>
 zae r50 2 fun v54=>
 zae r50 3 fun v55=>
 pIdx 1 v21 (l43.getD 0 undef) fun p56=>
 zal 1 false H51 p56 fun v57=>
 zag R F.a16 [v4,v57] H51 fun r58 H59=>
 zae r58 0 fun v60=>
 zae r58 1 fun v61=>
 zae r58 2 fun v62=>
 zae r58 3 fun v63=>
 zag R F.a8 [v55] H59 fun r64 H65=>
 pBin PP .neq T.int r64 v63 fun v66=>
 zaa v66 fun b67=>br b67
 (some (.ret,[(.bool false)],H65))
 (pBin PP .neq T.int v52 v60 fun v68=>
 zaa v68 fun b69=>br b69
 (some (.ret,[(.bool false)],H65))
 (pBin PP .neq T.uint64 v53 v61 fun v70=>
 zaa v70 fun b71=>br b71
 (some (.ret,[(.bool false)],H65))
 (pBin PP .neq T.int v54 v62 fun v72=>
 zaa v72 fun b73=>br b73
 (some (.ret,[(.bool false)],H65))
 (pBin PP .add T.int (l43.getD 0 undef) (.int .i64 1) fun v74=>
 some (.next,[v74],H65))))))
 (some (.exit 0,[(l43.getD 0 undef)],H44))
theorem zfd (R:zaf) (x0 x1:Value) (H0:Hp):zcW R x0 x1 H0 =
zag R F.a31 [x0,(.int .i64 0)] H0 fun r1 H2=>
 zae r1 0 fun v3=>
 zae r1 1 fun v4=>
 zae r1 2 fun v5=>
 zae r1 3 fun v6=>
 zat (
 pUn .not v6 fun v7=>
 zaa v7 fun b8=>br b8
 (some (.ret,[(.bool false)],H2))
 (zag R F.a75 [] H2 fun r9 H10=>
 pUn .not r9 fun v11=>
 zaa v11 fun b12=>br b12
 (some (.ret,[(.bool false)],H10))
 (some (.next,[],H10)))) fun q13 l14 H15=>zaE q13
 (zak 1 [.int .i64 0] 0 [] H15 fun v17 H18=>
 zaB 1 8 v17 v5 H18 fun v19 H20=>
 zaB 1 8 v19 x1 H20 fun v21 H22=>
 zag R F.a26 [v3,v21] H22 fun r23 H24=>
 zae r23 0 fun v25=>
 zae r23 1 fun v26=>
 zag R F.a24 [v4,v21] H24 fun r27 H28=>
 zae r27 0 fun v29=>
 zae r27 1 fun v30=>
 zat (
 zag R F.a8 [v26] H28 fun r31 H32=>
 pBin PP .neq T.int r31 v30 fun v33=>
 zaa v33 fun b34=>br b34
 (some (.ret,[(.bool false)],H32))
 (zag R F.a49 [v25,v29] H32 fun r35 H36=>
 pUn .not r35 fun v37=>
 zaa v37 fun b38=>br b38
 (some (.ret,[(.bool false)],H36))
 (some (.next,[],H36)))) fun q39 l40 H41=>zaE q39
 (zat (zas (zaU R v3 v4 v21) [(.int .i64 0)] H41) fun q75 l76 H77=>zaE q75 none
 (fun i78=>zav i78 0 (
 some ((.bool true),H77)) (
 none))
 (some ((l76.headD undef),H77)))
 (fun i42=>none)
 (some ((l40.headD undef),H41)))
 (fun i16=>none)
 (some ((l14.headD undef),H15)):=by kernel_rfl
noncomputable def zaK (R:zaf) (x0:Value) (v5:Value) (v11:Value) (v16:Value) (v19:Value) (v21:Value) (l22:List Value) (H23:Hp):Option Outc:=
 pBin PP .lss T.int (l22.getD 0 undef) v21 fun v24=>
 zaa v24 fun b25=>br b25
 (pIdx 1 v5 (l22.getD 0 undef) fun p26=>
 zal 1 false H23 p26 fun v27=>
 zag R F.a28 [x0,v27] H23 fun r28 H29=>
 zae r28 0 fun v30=>
 zae r28 1 fun v31=>
 zaD 7 [.int .i64 0,.int .i64 0,.int .i64 0,.int .i64 0,.int .i64 0,.int .u64 0,.string ⟨#[]⟩] 0 v30 fun c32=>
 zad 1 false c32 1 fun v33=>
 pUpd PP T.int v19 v27 v33 H29 fun H34=>
 zad 1 false c32 0 fun v35=>
 pBin PP .neq T.int v35 (.int .i64 4) fun v36=>
 zaa v36 fun b37=>br b37
 (zad 7 true c32 0 fun v38=>
 zad 1 false c32 2 fun v39=>
 zbB PP T.int (.int .u64 0) v16 v39 false H34 fun v40=>
 zad 1 false c32 3 fun v41=>
 zbB PP T.int (.int .u64 0) v16 v41 false H34 fun v42=>
 zad 1 false c32 4 fun v43=>
 zbB PP T.int (.int .u64 0) v16 v43 false H34 fun v44=>
 zad 1 false c32 2 fun v45=>
 zbB PP T.int (.int .i64 0) v19 v45 false H34 fun v46=>
 zad 1 false c32 3 fun v47=>
 zbB PP T.int (.int .i64 0) v19 v47 false H34 fun v48=>
 zag R F.a83 [v38,v40,v42,v44,v46,v48] H34 fun r49 H50=>
 pUpd PP T.int v16 v27 r49 H50 fun H51=>
 pBin PP .add T.int (l22.getD 0 undef) (.int .i64 1) fun v52=>
 some (.next,[v52],H51))
 (zad 1 false c32 6 fun v53=>
 zbB PP T.string (.agg #[.string ⟨#[]⟩,.int .i64 0,.int .u64 0]) v11 v53 true H34 fun v54=>
 zae v54 0 fun v55=>
 zae v54 1 fun v56=>
 zaD 3 [.string ⟨#[]⟩,.int .i64 0,.int .u64 0] 0 v55 fun c57=>
 zaa v56 fun b58=>br b58
 (zad 1 false c57 1 fun v59=>
 zad 1 false c32 1 fun v60=>
 pBin PP .neq T.int v59 v60 fun v61=>
 zaa v61 fun b62=>br b62
 (some (.ret,[(.tuple #[(.slice none 0 0),(.int .i64 71)])],H34))
 (zad 1 false c57 2 fun v63=>
 pUpd PP T.int v16 v27 v63 H34 fun H64=>
 pBin PP .add T.int (l22.getD 0 undef) (.int .i64 1) fun v65=>
 some (.next,[v65],H64)))
 (pBin PP .add T.int (l22.getD 0 undef) (.int .i64 1) fun v66=>
 some (.next,[v66],H34))))
 (some (.exit 0,[(l22.getD 0 undef)],H23))
noncomputable def zbE (R:zaf) (x1:Value) (v16:Value) (v74:Value) (l75:List Value) (H76:Hp):Option Outc:=
 pBin PP .lss T.int (l75.getD 1 undef) v74 fun v77=>
 zaa v77 fun b78=>br b78
 (pIdx 1 x1 (l75.getD 1 undef) fun p79=>
 zal 1 false H76 p79 fun v80=>
 zbB PP T.int (.int .u64 0) v16 v80 false H76 fun v81=>
 zak 1 [.int .u64 0] 1 [(0,v81)] H76 fun v82 H83=>
 zaB 1 8 (l75.getD 0 undef) v82 H83 fun v84 H85=>
 pBin PP .add T.int (l75.getD 1 undef) (.int .i64 1) fun v86=>
 some (.next,[v84,v86],H85))
 (some (.exit 2,[(l75.getD 0 undef),(l75.getD 1 undef)],H76))
theorem zlX (R:zaf) (x0 x1 x2:Value) (H0:Hp):zhj R x0 x1 x2 H0 =
pBin PP .eql T.p_term_Store x0 (.pointer none) fun v1=>
 zaa v1 fun b2=>br b2
 (some ((.tuple #[(.slice none 0 0),(.int .i64 2)]),H0))
 (zag R F.a13 [x0,x1] H0 fun r3 H4=>
 zae r3 0 fun v5=>
 zae r3 1 fun v6=>
 pBin PP .neq T.api_Errno v6 (.int .i64 0) fun v7=>
 zaa v7 fun b8=>br b8
 (some ((.tuple #[(.slice none 0 0),v6]),H4))
 (zag R F.a56 [x2] H4 fun r9 H10=>
 zae r9 0 fun v11=>
 zae r9 1 fun v12=>
 pBin PP .neq T.api_Errno v12 (.int .i64 0) fun v13=>
 zaa v13 fun b14=>br b14
 (some ((.tuple #[(.slice none 0 0),v12]),H10))
 (pLen .sl v5 H10 fun v15=>
 zhM v15 (
 zcb H10 fun v16 H17=>
 pLen .sl v5 H17 fun v18=>
 zhM v18 (
 zcb H17 fun v19 H20=>
 pLen .sl v5 H20 fun v21=>
 zat (zas (zaK R x0 v5 v11 v16 v19 v21) [(.int .i64 0)] H20) fun q67 l68 H69=>zaE q67 none
 (fun i70=>zav i70 0 (
 pLen .sl x1 H69 fun v71=>
 za0 1 8 [.int .u64 0] (.int .i64 0) v71 H69 fun v72 H73=>
 pLen .sl x1 H73 fun v74=>
 zat (zas (zbE R x1 v16 v74) [v72,(.int .i64 0)] H73) fun q87 l88 H89=>zaE q87 none
 (fun i90=>zav i90 2 (
 some ((.tuple #[(l88.getD 0 undef),(.int .i64 0)]),H89)) (
 none))
 (some ((l88.headD undef),H89))) (
 none))
 (some ((l68.headD undef),H69))))))):=by kernel_rfl
noncomputable def zbm (R:zaf) (x0:Value) (x1:Value) (l5:List Value) (H6:Hp):Option Outc:=
 pLen .sl x0 H6 fun v7=>
 pBin PP .lss T.int (l5.getD 0 undef) v7 fun v8=>
 zaa v8 fun b9=>br b9
 (pIdx 1 x0 (l5.getD 0 undef) fun p10=>
 zal 1 false H6 p10 fun v11=>
 pIdx 1 x1 (l5.getD 0 undef) fun p12=>
 zal 1 false H6 p12 fun v13=>
 pBin PP .neq T.uint64 v11 v13 fun v14=>
 zaa v14 fun b15=>br b15
 (some (.ret,[(.bool false)],H6))
 (pBin PP .add T.int (l5.getD 0 undef) (.int .i64 1) fun v16=>
 some (.next,[v16],H6)))
 (some (.exit 0,[(l5.getD 0 undef)],H6))
theorem ze1 (R:zaf) (x0 x1:Value) (H0:Hp):zcI R x0 x1 H0 =
pLen .sl x0 H0 fun v1=>
 pLen .sl x1 H0 fun v2=>
 pBin PP .neq T.int v1 v2 fun v3=>
 zaa v3 fun b4=>br b4
 (some ((.bool false),H0))
 (zat (zas (zbm R x0 x1) [(.int .i64 0)] H0) fun q17 l18 H19=>zaE q17 none
 (fun i20=>zav i20 0 (
 some ((.bool true),H19)) (
 none))
 (some ((l18.headD undef),H19))):=by kernel_rfl
noncomputable def zbq (R:zaf) (x0:Value) (x1:Value) (l5:List Value) (H6:Hp):Option Outc:=
 pLen .sl x0 H6 fun v7=>
 pBin PP .lss T.int (l5.getD 0 undef) v7 fun v8=>
 zaa v8 fun b9=>br b9
 (pIdx 3 x0 (l5.getD 0 undef) fun p10=>
 zal 3 true H6 p10 fun v11=>
 pIdx 3 x1 (l5.getD 0 undef) fun p12=>
 zal 3 true H6 p12 fun v13=>
 pBin PP .neq T.api_Value v11 v13 fun v14=>
 zaa v14 fun b15=>br b15
 (some (.ret,[(.bool false)],H6))
 (pBin PP .add T.int (l5.getD 0 undef) (.int .i64 1) fun v16=>
 some (.next,[v16],H6)))
 (some (.exit 0,[(l5.getD 0 undef)],H6))
theorem zfb (R:zaf) (x0 x1:Value) (H0:Hp):zcU R x0 x1 H0 =
pLen .sl x0 H0 fun v1=>
 pLen .sl x1 H0 fun v2=>
 pBin PP .neq T.int v1 v2 fun v3=>
 zaa v3 fun b4=>br b4
 (some ((.bool false),H0))
 (zat (zas (zbq R x0 x1) [(.int .i64 0)] H0) fun q17 l18 H19=>zaE q17 none
 (fun i20=>zav i20 0 (
 some ((.bool true),H19)) (
 none))
 (some ((l18.headD undef),H19))):=by kernel_rfl
noncomputable def zcO (R:zaf) (x0:Value) (v5:Value) (v9:Value) (l10:List Value) (H11:Hp):Option Outc:=
 pBin PP .lss T.int (l10.getD 1 undef) v9 fun v12=>
 zaa v12 fun b13=>br b13
 (pIdx 1 v5 (l10.getD 1 undef) fun p14=>
 zal 1 false H11 p14 fun v15=>
 zag R F.a28 [x0,v15] H11 fun r16 H17=>
 zae r16 0 fun v18=>
 zae r16 1 fun v19=>
 zaD 7 [.int .i64 0,.int .i64 0,.int .i64 0,.int .i64 0,.int .i64 0,.int .u64 0,.string ⟨#[]⟩] 0 v18 fun c20=>
 zad 1 false c20 0 fun v21=>
 pBin PP .eql T.int v21 (.int .i64 4) fun v22=>
 zaa v22 fun b23=>br b23
 (zad 1 false c20 6 fun v24=>
 zad 1 false c20 1 fun v25=>
 zaL PP T.api_Value [(0,v24),(1,v25)] fun v26=>
 zak 3 [.string ⟨#[]⟩,.int .i64 0,.int .u64 0] 1 [(0,v26)] H17 fun v27 H28=>
 zaB 3 32 (l10.getD 0 undef) v27 H28 fun v29 H30=>
 pBin PP .add T.int (l10.getD 1 undef) (.int .i64 1) fun v31=>
 some (.next,[v29,v31],H30))
 (pBin PP .add T.int (l10.getD 1 undef) (.int .i64 1) fun v32=>
 some (.next,[(l10.getD 0 undef),v32],H17)))
 (some (.exit 0,[(l10.getD 0 undef),(l10.getD 1 undef)],H11))
theorem zjS (R:zaf) (x0 x1:Value) (H0:Hp):zjJ R x0 x1 H0 =
pBin PP .eql T.p_term_Store x0 (.pointer none) fun v1=>
 zaa v1 fun b2=>br b2
 (some ((.tuple #[(.slice none 0 0),(.int .i64 2)]),H0))
 (zag R F.a13 [x0,x1] H0 fun r3 H4=>
 zae r3 0 fun v5=>
 zae r3 1 fun v6=>
 pBin PP .neq T.api_Errno v6 (.int .i64 0) fun v7=>
 zaa v7 fun b8=>br b8
 (some ((.tuple #[(.slice none 0 0),v6]),H4))
 (pLen .sl v5 H4 fun v9=>
 zat (zas (zcO R x0 v5 v9) [(.slice none 0 0),(.int .i64 0)] H4) fun q33 l34 H35=>zaE q33 none
 (fun i36=>zav i36 0 (
 some ((.tuple #[(l34.getD 0 undef),(.int .i64 0)]),H35)) (
 none))
 (some ((l34.headD undef),H35)))):=by kernel_rfl
noncomputable def zbt (R:zaf) (x0:Value) (v5:Value) (l9:List Value) (H10:Hp):Option Outc:=
 pLen .sl v5 H10 fun v11=>
 pBin PP .lss T.int (l9.getD 1 undef) v11 fun v12=>
 zaa v12 fun b13=>br b13
 (pNil x0 (
 zar 1 x0 fun p14=>
 zal 1 false H10 p14 fun v15=>
 pIdx 1 v5 (l9.getD 1 undef) fun p16=>
 zal 1 false H10 p16 fun v17=>
 pBin PP .sub T.int v17 (.int .i64 1) fun v18=>
 pIdx 7 v15 v18 fun p19=>
 zal 7 true H10 p19 fun v20=>
 zaD 7 [.int .i64 0,.int .i64 0,.int .i64 0,.int .i64 0,.int .i64 0,.int .u64 0,.string ⟨#[]⟩] 0 v20 fun c21=>
 zad 1 false c21 0 fun v22=>
 pBin PP .eql T.int v22 (.int .i64 4) fun v23=>
 zaa v23 fun b24=>br b24
 (zad 1 false c21 6 fun v25=>
 zad 1 false c21 1 fun v26=>
 zaL PP T.api_Value [(0,v25),(1,v26)] fun v27=>
 zak 3 [.string ⟨#[]⟩,.int .i64 0,.int .u64 0] 1 [(0,v27)] H10 fun v28 H29=>
 zaB 3 32 (l9.getD 0 undef) v28 H29 fun v30 H31=>
 pBin PP .add T.int (l9.getD 1 undef) (.int .i64 1) fun v32=>
 some (.next,[v30,v32],H31))
 (pBin PP .add T.int (l9.getD 1 undef) (.int .i64 1) fun v33=>
 some (.next,[(l9.getD 0 undef),v33],H10))))
 (some (.exit 0,[(l9.getD 0 undef),(l9.getD 1 undef)],H10))
theorem zed (R:zaf) (x0 x1:Value) (H0:Hp):zd4 R x0 x1 H0 =
pBin PP .eql T.p_cadenceref07_Store x0 (.pointer none) fun v1=>
 zaa v1 fun b2=>br b2
 (some ((.tuple #[(.slice none 0 0),(.int .i64 2)]),H0))
 (zag R F.a15 [x0,x1] H0 fun r3 H4=>
 zae r3 0 fun v5=>
 zae r3 1 fun v6=>
 pBin PP .neq T.api_Errno v6 (.int .i64 0) fun v7=>
 zaa v7 fun b8=>br b8
 (some ((.tuple #[(.slice none 0 0),(.int .i64 70)]),H4))
 (zat (zas (zbt R x0 v5) [(.slice none 0 0),(.int .i64 0)] H4) fun q34 l35 H36=>zaE q34 none
 (fun i37=>zav i37 0 (
 some ((.tuple #[(l35.getD 0 undef),(.int .i64 0)]),H36)) (
 none))
 (some ((l35.headD undef),H36)))):=by kernel_rfl
noncomputable def zbP (R:zaf) (v12:Value) (v15:Value) (v23:Value) (v33:Value) (l34:List Value) (H35:Hp):Option Outc:=
 pBin PP .lss T.int (l34.getD 0 undef) (.int .i64 3) fun v36=>
 zaa v36 fun b37=>br b37
 (zd0 3 false 1 v33 (l34.getD 0 undef) fun v38=>
 pBin PP .neq T.int v38 (.int .i64 0) fun v39=>
 zaa v39 fun b40=>br b40
 (zbB PP T.int (.int .u64 0) v12 v23 false H35 fun v41=>
 zbB PP T.int (.int .u64 0) v12 v38 false H35 fun v42=>
 zag R F.a84 [v41,v42] H35 fun r43 H44=>
 pUpd PP T.int v12 v23 r43 H44 fun H45=>
 zbB PP T.int (.int .i64 0) v15 v23 false H45 fun v46=>
 zbB PP T.int (.int .i64 0) v15 v38 false H45 fun v47=>
 pMM true [v46,v47] fun v48=>
 pUpd PP T.int v15 v23 v48 H45 fun H49=>
 pBin PP .add T.int (l34.getD 0 undef) (.int .i64 1) fun v50=>
 some (.next,[v50],H49))
 (pBin PP .add T.int (l34.getD 0 undef) (.int .i64 1) fun v51=>
 some (.next,[v51],H35)))
 (some (.exit 2,[(l34.getD 0 undef)],H35))
noncomputable def zb7 (R:zaf) (x0:Value) (v7:Value) (v12:Value) (v15:Value) (v17:Value) (l18:List Value) (H19:Hp):Option Outc:=
 pBin PP .lss T.int (l18.getD 0 undef) v17 fun v20=>
 zaa v20 fun b21=>br b21
 (pIdx 1 v7 (l18.getD 0 undef) fun p22=>
 zal 1 false H19 p22 fun v23=>
 zag R F.a28 [x0,v23] H19 fun r24 H25=>
 zae r24 0 fun v26=>
 zae r24 1 fun v27=>
 zaD 7 [.int .i64 0,.int .i64 0,.int .i64 0,.int .i64 0,.int .i64 0,.int .u64 0,.string ⟨#[]⟩] 0 v26 fun c28=>
 pUpd PP T.int v12 v23 (.int .u64 1) H25 fun H29=>
 zad 1 false c28 2 fun v30=>
 zad 1 false c28 3 fun v31=>
 zad 1 false c28 4 fun v32=>
 zaL PP T.a3_int [(0,v30),(1,v31),(2,v32)] fun v33=>
 zat (zas (zbP R v12 v15 v23 v33) [(.int .i64 0)] H29) fun q52 l53 H54=>zaE q52 none
 (fun i55=>zav i55 2 (
 zbB PP T.int (.int .i64 0) v15 v23 false H54 fun v56=>
 pBin PP .add T.int v56 (.int .i64 1) fun v57=>
 pUpd PP T.int v15 v23 v57 H54 fun H58=>
 pBin PP .add T.int (l18.getD 0 undef) (.int .i64 1) fun v59=>
 some (.next,[v59],H58)) (
 zav i55 1 (
 pBin PP .add T.int (l18.getD 0 undef) (.int .i64 1) fun v60=>
 some (.next,[v60],H54)) (
 some (.exit i55,[(l18.getD 0 undef)],H54))))
 (some (.ret,[(l53.headD undef)],H54)))
 (some (.exit 0,[(l18.getD 0 undef)],H19))
theorem zjT (R:zaf) (x0 x1:Value) (H0:Hp):zjK R x0 x1 H0 =
pBin PP .eql T.p_term_Store x0 (.pointer none) fun v1=>
 zaa v1 fun b2=>br b2
 (some ((.tuple #[(.int .i64 0),(.int .u64 0),(.int .i64 0),(.int .i64 2)]),H0))
 (zak 1 [.int .i64 0] 1 [(0,x1)] H0 fun v3 H4=>
 zag R F.a13 [x0,v3] H4 fun r5 H6=>
 zae r5 0 fun v7=>
 zae r5 1 fun v8=>
 pBin PP .neq T.api_Errno v8 (.int .i64 0) fun v9=>
 zaa v9 fun b10=>br b10
 (some ((.tuple #[(.int .i64 0),(.int .u64 0),(.int .i64 0),v8]),H6))
 (pLen .sl v7 H6 fun v11=>
 zhM v11 (
 zcb H6 fun v12 H13=>
 pLen .sl v7 H13 fun v14=>
 zhM v14 (
 zcb H13 fun v15 H16=>
 pLen .sl v7 H16 fun v17=>
 zat (zas (zb7 R x0 v7 v12 v15 v17) [(.int .i64 0)] H16) fun q61 l62 H63=>zaE q61 none
 (fun i64=>zav i64 0 (
 pLen .sl v7 H63 fun v65=>
 zbB PP T.int (.int .u64 0) v12 x1 false H63 fun v66=>
 zbB PP T.int (.int .i64 0) v15 x1 false H63 fun v67=>
 some ((.tuple #[v65,v66,v67,(.int .i64 0)]),H63)) (
 none))
 (some ((l62.headD undef),H63)))))):=by kernel_rfl
noncomputable def zba (R:zaf) (v15:Value) (v21:Value) (c40:List Value) (l41:List Value) (H42:Hp):Option Outc:=
 pBin PP .lss T.int (l41.getD 2 undef) (.int .i64 3) fun v43=>
 zaa v43 fun b44=>br b44
 (zbL 3 (l41.getD 2 undef) fun j45=>
 zad 1 false c40 (0+j45*1) fun v46=>
 pBin PP .eql T.int v46 (.int .i64 0) fun v47=>
 zaa v47 fun b48=>br b48
 (pBin PP .add T.int (l41.getD 2 undef) (.int .i64 1) fun v49=>
 some (.next,[(l41.getD 0 undef),(l41.getD 1 undef),v49],H42))
 (zbL 3 (l41.getD 2 undef) fun j50=>
 zad 1 false c40 (0+j50*1) fun v51=>
 pIdx 1 v15 v51 fun p52=>
 zal 1 false H42 p52 fun v53=>
 pBin PP .add T.uint64 (l41.getD 0 undef) v53 fun v54=>
 pBin PP .lss T.uint64 v54 (l41.getD 0 undef) fun v55=>
 zaa v55 fun b56=>br b56
 (zbL 3 (l41.getD 2 undef) fun j57=>
 zad 1 false c40 (0+j57*1) fun v58=>
 pIdx 1 v21 v58 fun p59=>
 zal 1 false H42 p59 fun v60=>
 pBin PP .gtr T.int v60 (l41.getD 1 undef) fun v61=>
 zaa v61 fun b62=>br b62
 (zbL 3 (l41.getD 2 undef) fun j63=>
 zad 1 false c40 (0+j63*1) fun v64=>
 pIdx 1 v21 v64 fun p65=>
 zal 1 false H42 p65 fun v66=>
 pBin PP .add T.int (l41.getD 2 undef) (.int .i64 1) fun v67=>
 some (.next,[(.int .u64 18446744073709551615),v66,v67],H42))
 (pBin PP .add T.int (l41.getD 2 undef) (.int .i64 1) fun v68=>
 some (.next,[(.int .u64 18446744073709551615),(l41.getD 1 undef),v68],H42)))
 (zbL 3 (l41.getD 2 undef) fun j69=>
 zad 1 false c40 (0+j69*1) fun v70=>
 pIdx 1 v15 v70 fun p71=>
 zal 1 false H42 p71 fun v72=>
 pBin PP .add T.uint64 (l41.getD 0 undef) v72 fun v73=>
 zbL 3 (l41.getD 2 undef) fun j74=>
 zad 1 false c40 (0+j74*1) fun v75=>
 pIdx 1 v21 v75 fun p76=>
 zal 1 false H42 p76 fun v77=>
 pBin PP .gtr T.int v77 (l41.getD 1 undef) fun v78=>
 zaa v78 fun b79=>br b79
 (zbL 3 (l41.getD 2 undef) fun j80=>
 zad 1 false c40 (0+j80*1) fun v81=>
 pIdx 1 v21 v81 fun p82=>
 zal 1 false H42 p82 fun v83=>
 pBin PP .add T.int (l41.getD 2 undef) (.int .i64 1) fun v84=>
 some (.next,[v73,v83,v84],H42))
 (pBin PP .add T.int (l41.getD 2 undef) (.int .i64 1) fun v85=>
 some (.next,[v73,(l41.getD 1 undef),v85],H42)))))
 (some (.exit 2,[(l41.getD 0 undef),(l41.getD 1 undef),(l41.getD 2 undef)],H42))
noncomputable def za9 (R:zaf) (x0:Value) (v7:Value) (v15:Value) (v21:Value) (l23:List Value) (H24:Hp):Option Outc:=
 pLen .sl v7 H24 fun v25=>
 pBin PP .lss T.int (l23.getD 0 undef) v25 fun v26=>
 zaa v26 fun b27=>br b27
 (pNil x0 (
 zar 1 x0 fun p28=>
 zal 1 false H24 p28 fun v29=>
 pIdx 1 v7 (l23.getD 0 undef) fun p30=>
 zal 1 false H24 p30 fun v31=>
 pBin PP .sub T.int v31 (.int .i64 1) fun v32=>
 pIdx 7 v29 v32 fun p33=>
 zal 7 true H24 p33 fun v34=>
 zaD 7 [.int .i64 0,.int .i64 0,.int .i64 0,.int .i64 0,.int .i64 0,.int .u64 0,.string ⟨#[]⟩] 0 v34 fun c35=>
 zad 1 false c35 2 fun v36=>
 zad 1 false c35 3 fun v37=>
 zad 1 false c35 4 fun v38=>
 zaL PP T.a3_int [(0,v36),(1,v37),(2,v38)] fun v39=>
 zaD 3 [.int .i64 0,.int .i64 0,.int .i64 0] 0 v39 fun c40=>
 zat (zas (zba R v15 v21 c40) [(.int .u64 1),(.int .i64 0),(.int .i64 0)] H24) fun q86 l87 H88=>zaE q86 none
 (fun i89=>zav i89 2 (
 pIdx 1 v7 (l23.getD 0 undef) fun p90=>
 zal 1 false H88 p90 fun v91=>
 pIdx 1 v15 v91 fun p92=>
 zau 1 H88 p92 (l87.getD 0 undef) fun H93=>
 pIdx 1 v7 (l23.getD 0 undef) fun p94=>
 zal 1 false H93 p94 fun v95=>
 pBin PP .add T.int (l87.getD 1 undef) (.int .i64 1) fun v96=>
 pIdx 1 v21 v95 fun p97=>
 zau 1 H93 p97 v96 fun H98=>
 pBin PP .add T.int (l23.getD 0 undef) (.int .i64 1) fun v99=>
 some (.next,[v99],H98)) (
 zav i89 1 (
 pBin PP .add T.int (l23.getD 0 undef) (.int .i64 1) fun v100=>
 some (.next,[v100],H88)) (
 some (.exit i89,[(l23.getD 0 undef)],H88))))
 (some (.ret,[(l87.headD undef)],H88))))
 (some (.exit 0,[(l23.getD 0 undef)],H24))
theorem zee (R:zaf) (x0 x1:Value) (H0:Hp):zd5 R x0 x1 H0 =
pBin PP .eql T.p_cadenceref07_Store x0 (.pointer none) fun v1=>
 zaa v1 fun b2=>br b2
 (some ((.tuple #[(.int .i64 0),(.int .u64 0),(.int .i64 0),(.int .i64 2)]),H0))
 (zak 1 [.int .i64 0] 1 [(0,x1)] H0 fun v3 H4=>
 zag R F.a15 [x0,v3] H4 fun r5 H6=>
 zae r5 0 fun v7=>
 zae r5 1 fun v8=>
 pBin PP .neq T.api_Errno v8 (.int .i64 0) fun v9=>
 zaa v9 fun b10=>br b10
 (some ((.tuple #[(.int .i64 0),(.int .u64 0),(.int .i64 0),(.int .i64 70)]),H6))
 (pNil x0 (
 zar 1 x0 fun p11=>
 zal 1 false H6 p11 fun v12=>
 pLen .sl v12 H6 fun v13=>
 pBin PP .add T.int v13 (.int .i64 1) fun v14=>
 za0 1 8 [.int .u64 0] v14 v14 H6 fun v15 H16=>
 pNil x0 (
 zar 1 x0 fun p17=>
 zal 1 false H16 p17 fun v18=>
 pLen .sl v18 H16 fun v19=>
 pBin PP .add T.int v19 (.int .i64 1) fun v20=>
 za0 1 8 [.int .i64 0] v20 v20 H16 fun v21 H22=>
 zat (zas (za9 R x0 v7 v15 v21) [(.int .i64 0)] H22) fun q101 l102 H103=>zaE q101 none
 (fun i104=>zav i104 0 (
 pLen .sl v7 H103 fun v105=>
 pIdx 1 v15 x1 fun p106=>
 zal 1 false H103 p106 fun v107=>
 pIdx 1 v21 x1 fun p108=>
 zal 1 false H103 p108 fun v109=>
 some ((.tuple #[v105,v107,v109,(.int .i64 0)]),H103)) (
 none))
 (some ((l102.headD undef),H103)))))):=by kernel_rfl
noncomputable def zbr (R:zaf) (x0:Value) (x1:Value) (l5:List Value) (H6:Hp):Option Outc:=
 pLen .sl x0 H6 fun v7=>
 pBin PP .lss T.int (l5.getD 0 undef) v7 fun v8=>
 zaa v8 fun b9=>br b9
 (pIdx 1 x0 (l5.getD 0 undef) fun p10=>
 zal 1 false H6 p10 fun v11=>
 pIdx 1 x1 (l5.getD 0 undef) fun p12=>
 zal 1 false H6 p12 fun v13=>
 pBin PP .neq T.int v11 v13 fun v14=>
 zaa v14 fun b15=>br b15
 (some (.ret,[(.bool false)],H6))
 (pBin PP .add T.int (l5.getD 0 undef) (.int .i64 1) fun v16=>
 some (.next,[v16],H6)))
 (some (.exit 0,[(l5.getD 0 undef)],H6))
theorem zfc (R:zaf) (x0 x1:Value) (H0:Hp):zcV R x0 x1 H0 =
pLen .sl x0 H0 fun v1=>
 pLen .sl x1 H0 fun v2=>
 pBin PP .neq T.int v1 v2 fun v3=>
 zaa v3 fun b4=>br b4
 (some ((.bool false),H0))
 (zat (zas (zbr R x0 x1) [(.int .i64 0)] H0) fun q17 l18 H19=>zaE q17 none
 (fun i20=>zav i20 0 (
 some ((.bool true),H19)) (
 none))
 (some ((l18.headD undef),H19))):=by kernel_rfl
noncomputable def zbA (R:zaf) (v49:Value) (p3:Value) (p40:Value) (l76:List Value) (H77:Hp):Option Outc:=
 pNil p40 (
 zar 1 p40 fun p78=>
 zal 1 false H77 p78 fun v79=>
 pLen .sl v79 H77 fun v80=>
 pBin PP .gtr T.int v80 (.int .i64 0) fun v81=>
 zaa v81 fun b82=>br b82
 (zal 1 false H77 p3 fun v83=>
 zbw R F.a67 [p40] H77 (fun e84 H85=>
 some (.ret,[(W0 (.tuple #[e84,v49]))],H85)) fun r86 H87=>
 chk (Hp.rdP H87 p3 1 false=some v83) (
 zak 1 [.int .i64 0] 1 [(0,r86)] H87 fun v88 H89=>
 chk (Hp.rdP H89 p3 1 false=some v83) (
 zaB 1 8 v83 v88 H89 fun v90 H91=>
 zau 1 H91 p3 v90 fun H92=>
 some (.next,[],H92))))
 (some (.exit 2,[],H77)))
noncomputable def za7 (R:zaf) (v42:Value) (p3:Value) (p40:Value) (l35:List Value) (l43:List Value) (H44:Hp):Option Outc:=
 pBin PP .lss T.int (l43.getD 2 undef) v42 fun v45=>
 zaa v45 fun b46=>br b46
 (pIdx 1 (l35.getD 0 undef) (l43.getD 2 undef) fun p47=>
 zal 1 false H44 p47 fun v48=>
 pBin PP .add T.int (l43.getD 2 undef) (.int .i64 1) fun v49=>
 zag R F.a17 [v48,(.func (.func F.a12) #[] #[])] H44 fun r50 H51=>
 pNil p40 (
 zar 1 p40 fun p52=>
 zau 1 H51 p52 r50 fun H53=>
 zat (
 zaa (l43.getD 1 undef) fun b54=>br b54
 (zaL PP T.term_fault [(0,(.int .i64 3))] fun v55=>
 some (.ret,[(W0 (.tuple #[(.iface T.term_fault v55),v49]))],H53))
 (pNil p40 (
 zar 1 p40 fun p56=>
 zal 1 false H53 p56 fun v57=>
 pLen .sl v57 H53 fun v58=>
 pBin PP .eql T.int v58 (.int .i64 0) fun v59=>
 zaa v59 fun b60=>br b60
 (zaL PP T.term_fault [(0,(.int .i64 3))] fun v61=>
 some (.ret,[(W0 (.tuple #[(.iface T.term_fault v61),v49]))],H53))
 (some (.next,[],H53))))) fun q62 l63 H64=>zaE q62
 (pNil p40 (
 zar 1 p40 fun p66=>
 zal 1 false H64 p66 fun v67=>
 pIdx 1 v67 (.int .i64 0) fun p68=>
 zal 1 false H64 p68 fun v69=>
 pBin PP .eql T.string v69 (.string ⟨#[114,111,111,116,115]⟩) fun v70=>
 zaa v70 fun b71=>br b71
 (zbw R F.a4 [p40] H64 (fun e72 H73=>
 some (.ret,[(W0 (.tuple #[e72,v49]))],H73)) fun r74 H75=>
 zat (zas (zbA R v49 p3 p40) [] H75) fun q93 l94 H95=>zaE q93 none
 (fun i96=>zav i96 2 (
 pBin PP .add T.int (l43.getD 2 undef) (.int .i64 1) fun v97=>
 some (.next,[v49,(.bool true),v97],H95)) (
 zav i96 1 (
 pBin PP .add T.int (l43.getD 2 undef) (.int .i64 1) fun v98=>
 some (.next,[v49,(l43.getD 1 undef),v98],H95)) (
 some (.exit i96,[v49,(l43.getD 1 undef),(l43.getD 2 undef)],H95))))
 (some (.ret,[(l94.headD undef)],H95)))
 (zbw R F.a3 [p40] H64 (fun e99 H100=>
 some (.ret,[(W0 (.tuple #[e99,v49]))],H100)) fun r101 H102=>
 pBin PP .add T.int (l43.getD 2 undef) (.int .i64 1) fun v103=>
 pBin PP .neq T.int r101 v103 fun v104=>
 zaa v104 fun b105=>br b105
 (zaL PP T.term_fault [(0,(.int .i64 3))] fun v106=>
 some (.ret,[(W0 (.tuple #[(.iface T.term_fault v106),v49]))],H102))
 (zbw R F.a20 [p40] H102 (fun e107 H108=>
 some (.ret,[(W0 (.tuple #[e107,v49]))],H108)) fun r109 H110=>
 pNil p40 (
 zar 2 p40 fun p111=>
 zal 1 false H110 p111 fun v112=>
 zak 1 [.int .i64 0] 1 [(0,r109)] H110 fun v113 H114=>
 zaB 1 8 v112 v113 H114 fun v115 H116=>
 pNil p40 (
 zar 2 p40 fun p117=>
 zau 1 H116 p117 v115 fun H118=>
 pBin PP .add T.int (l43.getD 2 undef) (.int .i64 1) fun v119=>
 some (.next,[v49,(l43.getD 1 undef),v119],H118)))))))
 (fun i65=>zav i65 1 (
 pBin PP .add T.int (l43.getD 2 undef) (.int .i64 1) fun v120=>
 some (.next,[v49,(l43.getD 1 undef),v120],H64)) (
 some (.exit i65,[v49,(l43.getD 1 undef),(l43.getD 2 undef)],H64)))
 (some (.ret,[(l63.headD undef)],H64))))
 (some (.exit 0,[(l43.getD 0 undef),(l43.getD 1 undef),(l43.getD 2 undef)],H44))
theorem zof (R:zaf) (x0 x1:Value) (H0:Hp):zjF R x0 x1 H0 =
zeV [.pointer none] H0 fun p1 H2=>
 zeV [.slice none 0 0] H2 fun p3 H4=>
 zeV [.int .i64 0] H4 fun p5 H6=>
 zag R F.a65 [x1] H6 fun r7 H8=>
 zae r7 0 fun v9=>
 zae r7 1 fun v10=>
 zau 1 H8 p1 v9 fun H11=>
 zau 1 H11 p5 v10 fun H12=>
 zal 1 false H12 p5 fun v13=>
 pBin PP .neq T.api_Errno v13 (.int .i64 0) fun v14=>
 zaa v14 fun b15=>br b15
 (zal 1 false H12 p5 fun v16=>
 zau 1 H12 p1 (.pointer none) fun H17=>
 chk (Hp.rdP H17 p5 1 false=some v16) (
 zau 1 H17 p3 (.slice none 0 0) fun H18=>
 chk (Hp.rdP H18 p5 1 false=some v16) (
 zau 1 H18 p5 v16 fun H19=>
 zal 1 false H19 p1 fun v20=>
 zal 1 false H19 p3 fun v21=>
 zal 1 false H19 p5 fun v22=>
 some ((W1 (.tuple #[v20,v21,(.int .i64 0),v22])),H19))))
 (zag R F.a62 [x0,(.string ⟨#[10]⟩)] H12 fun r23 H24=>
 zat (
 pLen .sl r23 H24 fun v25=>
 pBin PP .sub T.int v25 (.int .i64 1) fun v26=>
 pIdx 1 r23 v26 fun p27=>
 zal 1 false H24 p27 fun v28=>
 pBin PP .eql T.string v28 (.string ⟨#[]⟩) fun v29=>
 zaa v29 fun b30=>br b30
 (pLen .sl r23 H24 fun v31=>
 pBin PP .sub T.int v31 (.int .i64 1) fun v32=>
 zcm 1 r23 none (some v32) fun v33=>
 some (.next,[v33],H24))
 (some (.next,[r23],H24))) fun q34 l35 H36=>zaE q34
 (zhx (
 zal 1 false H36 p1 fun v38=>
 zaL PP T.term_reader [(0,v38)] fun v39=>
 zeV (zab v39) H36 fun p40 H41=>
 pLen .sl (l35.getD 0 undef) H41 fun v42=>
 zat (zas (za7 R v42 p3 p40 l35) [(.int .i64 0),(.bool false),(.int .i64 0)] H41) fun q121 l122 H123=>zaE q121 none
 (fun i124=>zav i124 0 (
 pLen .sl (l35.getD 0 undef) H123 fun v125=>
 pBin PP .add T.int v125 (.int .i64 1) fun v126=>
 pUn .not (l122.getD 1 undef) fun v127=>
 zaa v127 fun b128=>br b128
 (zaL PP T.term_fault [(0,(.int .i64 3))] fun v129=>
 some ((W0 (.tuple #[(.iface T.term_fault v129),v126])),H123))
 (zal 1 false H123 p1 fun v130=>
 zal 1 false H123 p3 fun v131=>
 zau 1 H123 p1 v130 fun H132=>
 chk (Hp.rdP H132 p3 1 false=some v131) (
 zau 1 H132 p3 v131 fun H133=>
 zau 1 H133 p5 (.int .i64 0) fun H134=>
 zal 1 false H134 p1 fun v135=>
 zal 1 false H134 p3 fun v136=>
 zal 1 false H134 p5 fun v137=>
 some ((W1 (.tuple #[v135,v136,(.int .i64 0),v137])),H134)))) (
 none))
 (some ((l122.headD undef),H123))) fun v138 H139=>zfD v138
 (fun u140=>zll [.cell 4 24,.cell 5 22,.tmp 6,.cell 7 30] u140 fun l141=>zmN [.cell 4 24,.cell 5 22,.tmp 6,.cell 7 30] l141 fun l142=>zhu PP orc R F.a64 [p1,p3,p5] .nilIface H139 fun H143=>endL PP [.val x0,.val x1,.unk,.unk,.val p1,.val p3,.val (.int .i64 0),.val p5,.val (l35.getD 0 undef),.unk,.unk,.unk,.unk,.unk,.val r7,.val x1,.val r7,.val v9,.val v10,.val v13,.val v14,.unk,.val x0,.val r23,.unk,.unk,.unk,.unk,.unk,.unk,.unk,.unk,.unk,.unk,.unk,.unk,.val (.func (.func F.a64) #[] #[p1,p3,p5]),.unk,.unk,.unk,.unk,.unk,.unk,.unk,.unk,.unk,.unk,.unk,.unk,.unk,.unk,.unk,.unk,.unk,.unk,.unk,.unk,.unk,.unk,.unk,.unk,.unk,.unk,.unk,.unk,.unk,.unk,.unk,.unk,.unk,.unk,.unk,.unk,.unk,.unk,.unk,.unk,.unk,.unk,.unk,.unk,.unk,.unk,.unk,.unk,.unk,.unk,.unk,.unk,.unk,.unk,.unk,.unk,.unk,.unk,.unk,.unk,.unk,.unk,.unk,.unk,.unk,.unk,.unk,.unk,.unk,.unk,.unk,.unk,.unk,.unk,.unk,.unk,.unk] H143 [.cell 4 24,.cell 5 22,.tmp 6,.cell 7 30] l142 fun l144=>some (W1 (resV l144),H143))
 (fun x145=>pTail x145 fun x146 l147=>zhu PP orc R F.a64 [p1,p3,p5] x146 H139 fun H148=>endL PP [.val x0,.val x1,.unk,.unk,.val p1,.val p3,.val (.int .i64 0),.val p5,.val (l35.getD 0 undef),.unk,.unk,.unk,.unk,.unk,.val r7,.val x1,.val r7,.val v9,.val v10,.val v13,.val v14,.unk,.val x0,.val r23,.unk,.unk,.unk,.unk,.unk,.unk,.unk,.unk,.unk,.unk,.unk,.unk,.val (.func (.func F.a64) #[] #[p1,p3,p5]),.unk,.unk,.unk,.unk,.unk,.unk,.unk,.unk,.unk,.unk,.unk,.unk,.unk,.unk,.unk,.unk,.unk,.unk,.unk,.unk,.unk,.unk,.unk,.unk,.unk,.unk,.unk,.unk,.unk,.unk,.unk,.unk,.unk,.unk,.unk,.unk,.unk,.unk,.unk,.unk,.unk,.unk,.unk,.unk,.unk,.unk,.unk,.unk,.unk,.unk,.unk,.unk,.unk,.unk,.unk,.unk,.unk,.unk,.unk,.unk,.unk,.unk,.unk,.unk,.unk,.unk,.unk,.unk,.unk,.unk,.unk,.unk,.unk,.unk,.unk,.unk,.unk] H148 [.cell 4 24,.cell 5 22,.tmp 6,.cell 7 30] l147 fun l149=>some (W1 (resV l149),H148)))
 (fun i37=>none)
 (retT (l35.headD undef) H36)):=by kernel_rfl
noncomputable def zaC (R:zaf) (x0:Value) (v3:Value) (l7:List Value) (H8:Hp):Option Outc:=
 pLen .str x0 H8 fun v9=>
 pBin PP .lss T.int (l7.getD 3 undef) v9 fun v10=>
 zaa v10 fun b11=>br b11
 (zat (
 zbe x0 (l7.getD 3 undef) fun v12=>
 pBin PP .neq T.uint8 v12 (.int .u8 10) fun v13=>
 zaa v13 fun b14=>br b14
 (pLen .str x0 H8 fun v15=>
 pBin PP .sub T.int v15 (.int .i64 1) fun v16=>
 pBin PP .neq T.int (l7.getD 3 undef) v16 fun v17=>
 zaa v17 fun b18=>br b18
 (some (.exit 1,[],H8))
 (some (.next,[],H8)))
 (some (.next,[],H8))) fun q19 l20 H21=>zaE q19
 (zat (
 zbe x0 (l7.getD 3 undef) fun v23=>
 pBin PP .neq T.uint8 v23 (.int .u8 10) fun v24=>
 zaa v24 fun b25=>br b25
 (pBin PP .add T.int (l7.getD 3 undef) (.int .i64 1) fun v26=>
 some (.next,[v26],H21))
 (some (.next,[(l7.getD 3 undef)],H21))) fun q27 l28 H29=>zaE q27
 (pBin PP .add T.int (l7.getD 2 undef) (.int .i64 1) fun v31=>
 zbf x0 (some (l7.getD 1 undef)) (some (l28.getD 0 undef)) fun v32=>
 zag R F.a53 [v32] H29 fun r33 H34=>
 pBin PP .add T.int (l7.getD 3 undef) (.int .i64 1) fun v35=>
 zat (
 pLen .sl r33 H34 fun v36=>
 pBin PP .gtr T.int v36 (.int .i64 0) fun v37=>
 zaa v37 fun b38=>br b38
 (pIdx 1 r33 (.int .i64 0) fun p39=>
 zal 1 false H34 p39 fun v40=>
 pBin PP .eql T.string v40 (.string ⟨#[114,111,111,116,115]⟩) fun v41=>
 some (.next,[v41],H34))
 (some (.next,[(.bool false)],H34))) fun q42 l43 H44=>zaE q42
 (zaa (l43.getD 0 undef) fun b46=>br b46
 (zcm 1 r33 (some (.int .i64 1)) none fun v47=>
 zag R F.a36 [v47,(l7.getD 0 undef)] H44 fun r48 H49=>
 zae r48 0 fun v50=>
 zae r48 1 fun v51=>
 pUn .not v51 fun v52=>
 zaa v52 fun b53=>br b53
 (some (.ret,[(.tuple #[(.pointer none),(.slice none 0 0),v31,(.int .i64 3)])],H49))
 (pLen .str x0 H49 fun v54=>
 pBin PP .lss T.int v35 v54 fun v55=>
 zaa v55 fun b56=>br b56
 (pBin PP .add T.int v31 (.int .i64 1) fun v57=>
 some (.ret,[(.tuple #[(.pointer none),(.slice none 0 0),v57,(.int .i64 3)])],H49))
 (some (.ret,[(.tuple #[v3,v50,(.int .i64 0),(.int .i64 0)])],H49))))
 (zag R F.a23 [r33,(l7.getD 0 undef)] H44 fun r58 H59=>
 zae r58 0 fun v60=>
 zae r58 1 fun v61=>
 zaD 7 [.int .i64 0,.int .i64 0,.int .i64 0,.int .i64 0,.int .i64 0,.int .u64 0,.string ⟨#[]⟩] 0 v60 fun c62=>
 pUn .not v61 fun v63=>
 zaa v63 fun b64=>br b64
 (some (.ret,[(.tuple #[(.pointer none),(.slice none 0 0),v31,(.int .i64 3)])],H59))
 (zad 7 true c62 0 fun v65=>
 zag R F.a79 [v3,v65] H59 fun r66 H67=>
 zaD 1 c62 1 r66 fun c68=>
 zad 7 true c68 0 fun v69=>
 zag R F.a14 [v3,v69] H67 fun r70 H71=>
 zae r70 0 fun v72=>
 zae r70 1 fun v73=>
 pBin PP .neq T.api_Errno v73 (.int .i64 0) fun v74=>
 zaa v74 fun b75=>br b75
 (some (.ret,[(.tuple #[(.pointer none),(.slice none 0 0),v31,v73])],H71))
 (zak 1 [.int .i64 0] 1 [(0,v72)] H71 fun v76 H77=>
 zaB 1 8 (l7.getD 0 undef) v76 H77 fun v78 H79=>
 pBin PP .add T.int (l7.getD 3 undef) (.int .i64 1) fun v80=>
 some (.next,[v78,v35,v31,v80],H79)))))
 (fun i45=>zav i45 1 (
 pBin PP .add T.int (l7.getD 3 undef) (.int .i64 1) fun v81=>
 some (.next,[(l7.getD 0 undef),v35,v31,v81],H44)) (
 some (.exit i45,[(l7.getD 0 undef),v35,v31,(l7.getD 3 undef)],H44)))
 (some (.ret,[(l43.headD undef)],H44)))
 (fun i30=>zav i30 1 (
 pBin PP .add T.int (l7.getD 3 undef) (.int .i64 1) fun v82=>
 some (.next,[(l7.getD 0 undef),(l7.getD 1 undef),(l7.getD 2 undef),v82],H29)) (
 some (.exit i30,[(l7.getD 0 undef),(l7.getD 1 undef),(l7.getD 2 undef),(l7.getD 3 undef)],H29)))
 (some (.ret,[(l28.headD undef)],H29)))
 (fun i22=>zav i22 1 (
 pBin PP .add T.int (l7.getD 3 undef) (.int .i64 1) fun v83=>
 some (.next,[(l7.getD 0 undef),(l7.getD 1 undef),(l7.getD 2 undef),v83],H21)) (
 some (.exit i22,[(l7.getD 0 undef),(l7.getD 1 undef),(l7.getD 2 undef),(l7.getD 3 undef)],H21)))
 (some (.ret,[(l20.headD undef)],H21)))
 (some (.exit 0,[(l7.getD 0 undef),(l7.getD 1 undef),(l7.getD 2 undef),(l7.getD 3 undef)],H8))
theorem zgN (R:zaf) (x0 x1:Value) (H0:Hp):zd8 R x0 x1 H0 =
zag R F.a50 [x1] H0 fun r1 H2=>
 zae r1 0 fun v3=>
 zae r1 1 fun v4=>
 pBin PP .neq T.api_Errno v4 (.int .i64 0) fun v5=>
 zaa v5 fun b6=>br b6
 (some ((.tuple #[(.pointer none),(.slice none 0 0),(.int .i64 0),v4]),H2))
 (zat (zas (zaC R x0 v3) [(.slice none 0 0),(.int .i64 0),(.int .i64 0),(.int .i64 0)] H2) fun q84 l85 H86=>zaE q84 none
 (fun i87=>zav i87 0 (
 pBin PP .add T.int (l85.getD 2 undef) (.int .i64 1) fun v88=>
 some ((.tuple #[(.pointer none),(.slice none 0 0),v88,(.int .i64 3)]),H86)) (
 none))
 (some ((l85.headD undef),H86))):=by kernel_rfl
noncomputable def za6 (R:zaf) (x0:Value) (x1:Value) (l8:List Value) (H9:Hp):Option Outc:=
 pNil x1 (
 zar 1 x1 fun p10=>
 zal 1 false H9 p10 fun v11=>
 pLen .sl v11 H9 fun v12=>
 pBin PP .leq T.int (l8.getD 0 undef) v12 fun v13=>
 zaa v13 fun b14=>br b14
 (zag R F.a28 [x0,(l8.getD 0 undef)] H9 fun r15 H16=>
 zae r15 0 fun v17=>
 zae r15 1 fun v18=>
 zaD 7 [.int .i64 0,.int .i64 0,.int .i64 0,.int .i64 0,.int .i64 0,.int .u64 0,.string ⟨#[]⟩] 0 v17 fun c19=>
 zag R F.a8 [v18] H16 fun r20 H21=>
 pBin PP .neq T.int r20 (.int .i64 0) fun v22=>
 zaa v22 fun b23=>br b23
 (some (.ret,[(.bool false)],H21))
 (zad 7 true c19 0 fun v24=>
 pNil x1 (
 zar 1 x1 fun p25=>
 zal 1 false H21 p25 fun v26=>
 pBin PP .sub T.int (l8.getD 0 undef) (.int .i64 1) fun v27=>
 pIdx 7 v26 v27 fun p28=>
 zal 7 true H21 p28 fun v29=>
 pBin PP .neq T.api_Node v24 v29 fun v30=>
 zaa v30 fun b31=>br b31
 (some (.ret,[(.bool false)],H21))
 (pBin PP .add T.int (l8.getD 0 undef) (.int .i64 1) fun v32=>
 some (.next,[v32],H21)))))
 (some (.exit 0,[(l8.getD 0 undef)],H9)))
theorem zgl (R:zaf) (x0 x1:Value) (H0:Hp):zdI R x0 x1 H0 =
zag R F.a88 [x0] H0 fun r1 H2=>
 pNil x1 (
 zar 1 x1 fun p3=>
 zal 1 false H2 p3 fun v4=>
 chk (Hp.rdP H0 p3 1 false=some v4) (
 pLen .sl v4 H2 fun v5=>
 ziN .sl v4 H0 v5 (
 pBin PP .neq T.int r1 v5 fun v6=>
 zaa v6 fun b7=>br b7
 (some ((.bool false),H2))
 (zat (zas (za6 R x0 x1) [(.int .i64 1)] H2) fun q33 l34 H35=>zaE q33 none
 (fun i36=>zav i36 0 (
 some ((.bool true),H35)) (
 none))
 (some ((l34.headD undef),H35)))))):=by kernel_rfl
noncomputable def za4 (R:zaf) (x0:Value) (x1:Value) (v1:Value) (l2:List Value) (H3:Hp):Option Outc:=
 pBin PP .lss T.int (l2.getD 0 undef) v1 fun v4=>
 zaa v4 fun b5=>br b5
 (pIdx 1 x1 (l2.getD 0 undef) fun p6=>
 zal 1 false H3 p6 fun v7=>
 zag R F.a19 [x0,v7] H3 fun r8 H9=>
 pUn .not r8 fun v10=>
 zaa v10 fun b11=>br b11
 (some (.ret,[(.tuple #[(.slice none 0 0),(.int .i64 70)])],H9))
 (pBin PP .add T.int (l2.getD 0 undef) (.int .i64 1) fun v12=>
 some (.next,[v12],H9)))
 (some (.exit 0,[(l2.getD 0 undef)],H3))
noncomputable def zaI (R:zaf) (x0:Value) (v21:Value) (l41:List Value) (H42:Hp):Option Outc:=
 pLen .sl (l41.getD 1 undef) H42 fun v43=>
 pBin PP .gtr T.int v43 (.int .i64 0) fun v44=>
 zaa v44 fun b45=>br b45
 (pLen .sl (l41.getD 1 undef) H42 fun v46=>
 pBin PP .sub T.int v46 (.int .i64 1) fun v47=>
 pIdx 2 (l41.getD 1 undef) v47 fun p48=>
 pNil x0 (
 zar 1 x0 fun p49=>
 zal 1 false H42 p49 fun v50=>
 pNil p48 (
 zar 0 p48 fun p51=>
 zal 1 false H42 p51 fun v52=>
 pBin PP .sub T.int v52 (.int .i64 1) fun v53=>
 pIdx 7 v50 v53 fun p54=>
 zal 7 true H42 p54 fun v55=>
 zaD 7 [.int .i64 0,.int .i64 0,.int .i64 0,.int .i64 0,.int .i64 0,.int .u64 0,.string ⟨#[]⟩] 0 v55 fun c56=>
 pNil p48 (
 zar 1 p48 fun p57=>
 zal 1 false H42 p57 fun v58=>
 zad 1 false c56 0 fun v59=>
 zag R F.a10 [v59] H42 fun r60 H61=>
 chk (Hp.rdP H61 p57 1 false=some v58) (
 pBin PP .eql T.int v58 r60 fun v62=>
 zaa v62 fun b63=>br b63
 (pNil p48 (
 zar 0 p48 fun p64=>
 zal 1 false H61 p64 fun v65=>
 zak 1 [.int .i64 0] 1 [(0,v65)] H61 fun v66 H67=>
 zaB 1 8 (l41.getD 0 undef) v66 H67 fun v68 H69=>
 pLen .sl (l41.getD 1 undef) H69 fun v70=>
 pBin PP .sub T.int v70 (.int .i64 1) fun v71=>
 zcm 2 (l41.getD 1 undef) none (some v71) fun v72=>
 some (.next,[v68,v72],H69)))
 (zad 1 false c56 2 fun v73=>
 zad 1 false c56 3 fun v74=>
 zad 1 false c56 4 fun v75=>
 zaL PP T.a3_int [(0,v73),(1,v74),(2,v75)] fun v76=>
 pNil p48 (
 zar 1 p48 fun p77=>
 zal 1 false H61 p77 fun v78=>
 zd0 3 false 1 v76 v78 fun v79=>
 pNil p48 (
 zar 1 p48 fun p80=>
 zal 1 false H61 p80 fun v81=>
 pBin PP .add T.int v81 (.int .i64 1) fun v82=>
 pNil p48 (
 zar 1 p48 fun p83=>
 zau 1 H61 p83 v82 fun H84=>
 pIdx 1 v21 v79 fun p85=>
 zal 1 false H84 p85 fun v86=>
 pUn .not v86 fun v87=>
 zaa v87 fun b88=>br b88
 (pIdx 1 v21 v79 fun p89=>
 zau 1 H84 p89 (.bool true) fun H90=>
 zaL PP T.term_place [(0,v79),(1,(.int .i64 0))] fun v91=>
 zak 2 [.int .i64 0,.int .i64 0] 1 [(0,v91)] H90 fun v92 H93=>
 zaB 2 16 (l41.getD 1 undef) v92 H93 fun v94 H95=>
 some (.next,[(l41.getD 0 undef),v94],H95))
 (some (.next,[(l41.getD 0 undef),(l41.getD 1 undef)],H84)))))))))))
 (some (.exit 4,[(l41.getD 0 undef),(l41.getD 1 undef)],H42))
noncomputable def za3 (R:zaf) (x0:Value) (x1:Value) (v21:Value) (v23:Value) (l24:List Value) (H25:Hp):Option Outc:=
 pBin PP .lss T.int (l24.getD 2 undef) v23 fun v26=>
 zaa v26 fun b27=>br b27
 (pIdx 1 x1 (l24.getD 2 undef) fun p28=>
 zal 1 false H25 p28 fun v29=>
 pIdx 1 v21 v29 fun p30=>
 zal 1 false H25 p30 fun v31=>
 zaa v31 fun b32=>br b32
 (pBin PP .add T.int (l24.getD 2 undef) (.int .i64 1) fun v33=>
 some (.next,[(l24.getD 0 undef),(l24.getD 1 undef),v33],H25))
 (pIdx 1 v21 v29 fun p34=>
 zau 1 H25 p34 (.bool true) fun H35=>
 zaL PP T.term_place [(0,v29),(1,(.int .i64 0))] fun v36=>
 zak 2 [.int .i64 0,.int .i64 0] 1 [(0,v36)] H35 fun v37 H38=>
 zaB 2 16 (l24.getD 1 undef) v37 H38 fun v39 H40=>
 zat (zas (zaI R x0 v21) [(l24.getD 0 undef),v39] H40) fun q96 l97 H98=>zaE q96 none
 (fun i99=>zav i99 4 (
 pBin PP .add T.int (l24.getD 2 undef) (.int .i64 1) fun v100=>
 some (.next,[(l97.getD 0 undef),(l97.getD 1 undef),v100],H98)) (
 zav i99 3 (
 pBin PP .add T.int (l24.getD 2 undef) (.int .i64 1) fun v101=>
 some (.next,[(l97.getD 0 undef),(l97.getD 1 undef),v101],H98)) (
 some (.exit i99,[(l97.getD 0 undef),(l97.getD 1 undef),(l24.getD 2 undef)],H98))))
 (some (.ret,[(l97.headD undef)],H98))))
 (some (.exit 2,[(l24.getD 0 undef),(l24.getD 1 undef),(l24.getD 2 undef)],H25))
theorem zez (R:zaf) (x0 x1:Value) (H0:Hp):zeu R x0 x1 H0 =
pLen .sl x1 H0 fun v1=>
 zat (zas (za4 R x0 x1 v1) [(.int .i64 0)] H0) fun q13 l14 H15=>zaE q13 none
 (fun i16=>zav i16 0 (
 pNil x0 (
 zar 1 x0 fun p17=>
 zal 1 false H15 p17 fun v18=>
 pLen .sl v18 H15 fun v19=>
 pBin PP .add T.int v19 (.int .i64 1) fun v20=>
 za0 1 1 [.bool false] v20 v20 H15 fun v21 H22=>
 pLen .sl x1 H22 fun v23=>
 zat (zas (za3 R x0 x1 v21 v23) [(.slice none 0 0),(.slice none 0 0),(.int .i64 0)] H22) fun q102 l103 H104=>zaE q102 none
 (fun i105=>zav i105 2 (
 some ((.tuple #[(l103.getD 0 undef),(.int .i64 0)]),H104)) (
 none))
 (some ((l103.headD undef),H104)))) (
 none))
 (some ((l14.headD undef),H15)):=by kernel_rfl
noncomputable def zb6 (R:zaf) (x0:Value) (v2:Value) (v4:Value) (l5:List Value) (H6:Hp):Option Outc:=
 pBin PP .lss T.int (l5.getD 0 undef) v4 fun v7=>
 zaa v7 fun b8=>br b8
 (pIdx 3 x0 (l5.getD 0 undef) fun p9=>
 zal 3 true H6 p9 fun v10=>
 zaD 3 [.string ⟨#[]⟩,.int .i64 0,.int .u64 0] 0 v10 fun c11=>
 zad 1 false c11 0 fun v12=>
 zbB PP T.string (.agg #[.string ⟨#[]⟩,.int .i64 0,.int .u64 0]) v2 v12 true H6 fun v13=>
 zae v13 0 fun v14=>
 zae v13 1 fun v15=>
 zaD 3 [.string ⟨#[]⟩,.int .i64 0,.int .u64 0] 0 v14 fun c16=>
 zaa v15 fun b17=>br b17
 (some (.ret,[(.tuple #[(.map none),(.int .i64 72)])],H6))
 (zad 1 false c11 0 fun v18=>
 zag R F.a43 [v18] H6 fun r19 H20=>
 pUn .not r19 fun v21=>
 zaa v21 fun b22=>br b22
 (some (.ret,[(.tuple #[(.map none),(.int .i64 72)])],H20))
 (zad 1 false c11 0 fun v23=>
 zad 3 true c11 0 fun v24=>
 pUpd PP T.string v2 v23 v24 H20 fun H25=>
 pBin PP .add T.int (l5.getD 0 undef) (.int .i64 1) fun v26=>
 some (.next,[v26],H25))))
 (some (.exit 0,[(l5.getD 0 undef)],H6))
noncomputable def zb5 (R:zaf) (x0:Value) (v31:Value) (l32:List Value) (H33:Hp):Option Outc:=
 pBin PP .lss T.int (l32.getD 0 undef) v31 fun v34=>
 zaa v34 fun b35=>br b35
 (pIdx 3 x0 (l32.getD 0 undef) fun p36=>
 zal 3 true H33 p36 fun v37=>
 zaD 3 [.string ⟨#[]⟩,.int .i64 0,.int .u64 0] 0 v37 fun c38=>
 zad 1 false c38 1 fun v39=>
 pBin PP .lss T.int v39 (.int .i64 0) fun v40=>
 zaa v40 fun b41=>br b41
 (some (.ret,[(.tuple #[(.map none),(.int .i64 5)])],H33))
 (zad 1 false c38 1 fun v42=>
 pBin PP .gtr T.int v42 (.int .i64 64) fun v43=>
 zaa v43 fun b44=>br b44
 (some (.ret,[(.tuple #[(.map none),(.int .i64 5)])],H33))
 (zad 1 false c38 1 fun v45=>
 pMM true [v45,(.int .i64 1)] fun v46=>
 zad 1 false c38 2 fun v47=>
 zag R F.a0 [v46,v47] H33 fun r48 H49=>
 zad 1 false c38 2 fun v50=>
 pBin PP .neq T.uint64 r48 v50 fun v51=>
 zaa v51 fun b52=>br b52
 (some (.ret,[(.tuple #[(.map none),(.int .i64 5)])],H49))
 (pBin PP .add T.int (l32.getD 0 undef) (.int .i64 1) fun v53=>
 some (.next,[v53],H49)))))
 (some (.exit 2,[(l32.getD 0 undef)],H33))
theorem zog (R:zaf) (x0:Value) (H0:Hp):zjG R x0 H0 =
pLen .sl x0 H0 fun v1=>
 zhM v1 (
 zcb H0 fun v2 H3=>
 pLen .sl x0 H3 fun v4=>
 zat (zas (zb6 R x0 v2 v4) [(.int .i64 0)] H3) fun q27 l28 H29=>zaE q27 none
 (fun i30=>zav i30 0 (
 pLen .sl x0 H29 fun v31=>
 zat (zas (zb5 R x0 v31) [(.int .i64 0)] H29) fun q54 l55 H56=>zaE q54 none
 (fun i57=>zav i57 2 (
 some ((.tuple #[v2,(.int .i64 0)]),H56)) (
 none))
 (some ((l55.headD undef),H56))) (
 none))
 (some ((l28.headD undef),H29))):=by kernel_rfl
noncomputable def zaH (R:zaf) (x0:Value) (x1:Value) (l1:List Value) (H2:Hp):Option Outc:=
 pLen .sl x1 H2 fun v3=>
 pBin PP .lss T.int (l1.getD 0 undef) v3 fun v4=>
 zaa v4 fun b5=>br b5
 (pIdx 1 x1 (l1.getD 0 undef) fun p6=>
 zal 1 false H2 p6 fun v7=>
 zag R F.a7 [x0,v7] H2 fun r8 H9=>
 pUn .not r8 fun v10=>
 zaa v10 fun b11=>br b11
 (some (.ret,[(.tuple #[(.slice none 0 0),(.int .i64 70)])],H9))
 (pBin PP .add T.int (l1.getD 0 undef) (.int .i64 1) fun v12=>
 some (.next,[v12],H9)))
 (some (.exit 0,[(l1.getD 0 undef)],H2))
noncomputable def zaW (R:zaf) (v21:Value) (c51:List Value) (l52:List Value) (H53:Hp):Option Outc:=
 pBin PP .geq T.int (l52.getD 1 undef) (.int .i64 0) fun v54=>
 zaa v54 fun b55=>br b55
 (zbL 3 (l52.getD 1 undef) fun j56=>
 zad 1 false c51 (0+j56*1) fun v57=>
 pBin PP .gtr T.int v57 (.int .i64 0) fun v58=>
 zaa v58 fun b59=>br b59
 (zbL 3 (l52.getD 1 undef) fun j60=>
 zad 1 false c51 (0+j60*1) fun v61=>
 pIdx 1 v21 v61 fun p62=>
 zal 1 false H53 p62 fun v63=>
 pUn .not v63 fun v64=>
 zaa v64 fun b65=>br b65
 (zbL 3 (l52.getD 1 undef) fun j66=>
 zad 1 false c51 (0+j66*1) fun v67=>
 pBin PP .sub T.int (l52.getD 1 undef) (.int .i64 1) fun v68=>
 some (.next,[v67,v68],H53))
 (pBin PP .sub T.int (l52.getD 1 undef) (.int .i64 1) fun v69=>
 some (.next,[(l52.getD 0 undef),v69],H53)))
 (pBin PP .sub T.int (l52.getD 1 undef) (.int .i64 1) fun v70=>
 some (.next,[(l52.getD 0 undef),v70],H53)))
 (some (.exit 6,[(l52.getD 0 undef),(l52.getD 1 undef)],H53))
noncomputable def zao (R:zaf) (x0:Value) (v21:Value) (l32:List Value) (H33:Hp):Option Outc:=
 pLen .sl (l32.getD 1 undef) H33 fun v34=>
 pBin PP .gtr T.int v34 (.int .i64 0) fun v35=>
 zaa v35 fun b36=>br b36
 (pLen .sl (l32.getD 1 undef) H33 fun v37=>
 pBin PP .sub T.int v37 (.int .i64 1) fun v38=>
 pIdx 1 (l32.getD 1 undef) v38 fun p39=>
 zal 1 false H33 p39 fun v40=>
 pNil x0 (
 zar 1 x0 fun p41=>
 zal 1 false H33 p41 fun v42=>
 pBin PP .sub T.int v40 (.int .i64 1) fun v43=>
 pIdx 7 v42 v43 fun p44=>
 zal 7 true H33 p44 fun v45=>
 zaD 7 [.int .i64 0,.int .i64 0,.int .i64 0,.int .i64 0,.int .i64 0,.int .u64 0,.string ⟨#[]⟩] 0 v45 fun c46=>
 zad 1 false c46 2 fun v47=>
 zad 1 false c46 3 fun v48=>
 zad 1 false c46 4 fun v49=>
 zaL PP T.a3_int [(0,v47),(1,v48),(2,v49)] fun v50=>
 zaD 3 [.int .i64 0,.int .i64 0,.int .i64 0] 0 v50 fun c51=>
 zat (zas (zaW R v21 c51) [(.int .i64 0),(.int .i64 2)] H33) fun q71 l72 H73=>zaE q71 none
 (fun i74=>zav i74 6 (
 pBin PP .gtr T.int (l72.getD 0 undef) (.int .i64 0) fun v75=>
 zaa v75 fun b76=>br b76
 (pIdx 1 v21 v40 fun p77=>
 zal 1 false H73 p77 fun v78=>
 pUn .not v78 fun v79=>
 zaa v79 fun b80=>br b80
 (zak 1 [.int .i64 0] 1 [(0,(l72.getD 0 undef))] H73 fun v81 H82=>
 zaB 1 8 (l32.getD 1 undef) v81 H82 fun v83 H84=>
 some (.next,[(l32.getD 0 undef),v83],H84))
 (pIdx 1 v21 v40 fun p85=>
 zal 1 false H73 p85 fun v86=>
 pUn .not v86 fun v87=>
 zaa v87 fun b88=>br b88
 (pIdx 1 v21 v40 fun p89=>
 zau 1 H73 p89 (.bool true) fun H90=>
 zak 1 [.int .i64 0] 1 [(0,v40)] H90 fun v91 H92=>
 zaB 1 8 (l32.getD 0 undef) v91 H92 fun v93 H94=>
 pLen .sl (l32.getD 1 undef) H94 fun v95=>
 pBin PP .sub T.int v95 (.int .i64 1) fun v96=>
 zcm 1 (l32.getD 1 undef) none (some v96) fun v97=>
 some (.next,[v93,v97],H94))
 (pLen .sl (l32.getD 1 undef) H73 fun v98=>
 pBin PP .sub T.int v98 (.int .i64 1) fun v99=>
 zcm 1 (l32.getD 1 undef) none (some v99) fun v100=>
 some (.next,[(l32.getD 0 undef),v100],H73))))
 (pIdx 1 v21 v40 fun p101=>
 zal 1 false H73 p101 fun v102=>
 pUn .not v102 fun v103=>
 zaa v103 fun b104=>br b104
 (pIdx 1 v21 v40 fun p105=>
 zau 1 H73 p105 (.bool true) fun H106=>
 zak 1 [.int .i64 0] 1 [(0,v40)] H106 fun v107 H108=>
 zaB 1 8 (l32.getD 0 undef) v107 H108 fun v109 H110=>
 pLen .sl (l32.getD 1 undef) H110 fun v111=>
 pBin PP .sub T.int v111 (.int .i64 1) fun v112=>
 zcm 1 (l32.getD 1 undef) none (some v112) fun v113=>
 some (.next,[v109,v113],H110))
 (pLen .sl (l32.getD 1 undef) H73 fun v114=>
 pBin PP .sub T.int v114 (.int .i64 1) fun v115=>
 zcm 1 (l32.getD 1 undef) none (some v115) fun v116=>
 some (.next,[(l32.getD 0 undef),v116],H73)))) (
 zav i74 5 (
 some (.next,[(l32.getD 0 undef),(l32.getD 1 undef)],H73)) (
 some (.exit i74,[(l32.getD 0 undef),(l32.getD 1 undef)],H73))))
 (some (.ret,[(l72.headD undef)],H73))))
 (some (.exit 4,[(l32.getD 0 undef),(l32.getD 1 undef)],H33))
noncomputable def zaV (R:zaf) (x0:Value) (x1:Value) (v21:Value) (l23:List Value) (H24:Hp):Option Outc:=
 pLen .sl x1 H24 fun v25=>
 pBin PP .lss T.int (l23.getD 1 undef) v25 fun v26=>
 zaa v26 fun b27=>br b27
 (pIdx 1 x1 (l23.getD 1 undef) fun p28=>
 zal 1 false H24 p28 fun v29=>
 zak 1 [.int .i64 0] 1 [(0,v29)] H24 fun v30 H31=>
 zat (zas (zao R x0 v21) [(l23.getD 0 undef),v30] H31) fun q117 l118 H119=>zaE q117 none
 (fun i120=>zav i120 4 (
 pBin PP .add T.int (l23.getD 1 undef) (.int .i64 1) fun v121=>
 some (.next,[(l118.getD 0 undef),v121],H119)) (
 zav i120 3 (
 pBin PP .add T.int (l23.getD 1 undef) (.int .i64 1) fun v122=>
 some (.next,[(l118.getD 0 undef),v122],H119)) (
 some (.exit i120,[(l118.getD 0 undef),(l23.getD 1 undef)],H119))))
 (some (.ret,[(l118.headD undef)],H119)))
 (some (.exit 2,[(l23.getD 0 undef),(l23.getD 1 undef)],H24))
theorem zcx (R:zaf) (x0 x1:Value) (H0:Hp):zcw R x0 x1 H0 =
zat (zas (zaH R x0 x1) [(.int .i64 0)] H0) fun q13 l14 H15=>zaE q13 none
 (fun i16=>zav i16 0 (
 pNil x0 (
 zar 1 x0 fun p17=>
 zal 1 false H15 p17 fun v18=>
 pLen .sl v18 H15 fun v19=>
 pBin PP .add T.int v19 (.int .i64 1) fun v20=>
 za0 1 1 [.bool false] v20 v20 H15 fun v21 H22=>
 zat (zas (zaV R x0 x1 v21) [(.slice none 0 0),(.int .i64 0)] H22) fun q123 l124 H125=>zaE q123 none
 (fun i126=>zav i126 2 (
 some ((.tuple #[(l124.getD 0 undef),(.int .i64 0)]),H125)) (
 none))
 (some ((l124.headD undef),H125)))) (
 none))
 (some ((l14.headD undef),H15)):=by kernel_rfl
noncomputable def zaY (R:zaf) (x1:Value) (l4:List Value) (H5:Hp):Option Outc:=
 br (Nat.blt (zbc ((l4.drop 2).getD 0 undef)) (zbg ((l4.drop 2).getD 0 undef)).size)
 (zfa orc R x1 [(.int .i32 (Utf8.decode (zbg ((l4.drop 2).getD 0 undef)) (zbc ((l4.drop 2).getD 0 undef))).1)] H5 fun r6 H7=>
 zaa r6 fun b8=>br b8
 (pBin PP .geq T.int (l4.getD 1 undef) (.int .i64 0) fun v9=>
 zaa v9 fun b10=>br b10
 (zaL PP T.strings_span [(0,(l4.getD 1 undef)),(1,(.int .i64 ((zbc ((l4.drop 2).getD 0 undef)):Nat)))] fun v11=>
 zak 2 [.int .i64 0,.int .i64 0] 1 [(0,v11)] H7 fun v12 H13=>
 zaB 2 16 (l4.getD 0 undef) v12 H13 fun v14 H15=>
 pUn .xor (l4.getD 1 undef) fun v16=>
 some (.next,[v14,v16,(.tuple #[.string (zbg ((l4.drop 2).getD 0 undef)),.int .i64 (((zbc ((l4.drop 2).getD 0 undef))+(Utf8.decode (zbg ((l4.drop 2).getD 0 undef)) (zbc ((l4.drop 2).getD 0 undef))).2):Nat)])],H15))
 (some (.next,[(l4.getD 0 undef),(l4.getD 1 undef),(.tuple #[.string (zbg ((l4.drop 2).getD 0 undef)),.int .i64 (((zbc ((l4.drop 2).getD 0 undef))+(Utf8.decode (zbg ((l4.drop 2).getD 0 undef)) (zbc ((l4.drop 2).getD 0 undef))).2):Nat)])],H7)))
 (pBin PP .lss T.int (l4.getD 1 undef) (.int .i64 0) fun v17=>
 zaa v17 fun b18=>br b18
 (some (.next,[(l4.getD 0 undef),(.int .i64 ((zbc ((l4.drop 2).getD 0 undef)):Nat)),(.tuple #[.string (zbg ((l4.drop 2).getD 0 undef)),.int .i64 (((zbc ((l4.drop 2).getD 0 undef))+(Utf8.decode (zbg ((l4.drop 2).getD 0 undef)) (zbc ((l4.drop 2).getD 0 undef))).2):Nat)])],H7))
 (some (.next,[(l4.getD 0 undef),(l4.getD 1 undef),(.tuple #[.string (zbg ((l4.drop 2).getD 0 undef)),.int .i64 (((zbc ((l4.drop 2).getD 0 undef))+(Utf8.decode (zbg ((l4.drop 2).getD 0 undef)) (zbc ((l4.drop 2).getD 0 undef))).2):Nat)])],H7))))
 (some (.exit 0,[(l4.getD 0 undef),(l4.getD 1 undef),(.tuple #[.string (zbg ((l4.drop 2).getD 0 undef)),.int .i64 ((zbc ((l4.drop 2).getD 0 undef)):Nat)])],H5))
noncomputable def za5 (R:zaf) (x0:Value) (v36:Value) (v38:Value) (l32:List Value) (l39:List Value) (H40:Hp):Option Outc:=
 pBin PP .lss T.int (l39.getD 0 undef) v38 fun v41=>
 zaa v41 fun b42=>br b42
 (pIdx 2 (l32.getD 0 undef) (l39.getD 0 undef) fun p43=>
 zal 2 true H40 p43 fun v44=>
 zaD 2 [.int .i64 0,.int .i64 0] 0 v44 fun c45=>
 zad 1 false c45 0 fun v46=>
 zad 1 false c45 1 fun v47=>
 zbf x0 (some v46) (some v47) fun v48=>
 pIdx 1 v36 (l39.getD 0 undef) fun p49=>
 zau 1 H40 p49 v48 fun H50=>
 pBin PP .add T.int (l39.getD 0 undef) (.int .i64 1) fun v51=>
 some (.next,[v51],H50))
 (some (.exit 2,[(l39.getD 0 undef)],H40))
theorem zgi (R:zaf) (x0 x1:Value) (H0:Hp):zdB R x0 x1 H0 =
za0 2 16 [.int .i64 0,.int .i64 0] (.int .i64 0) (.int .i64 32) H0 fun v1 H2=>
 zko x0 fun s3=>
 zat (zas (zaY R x1) [v1,(.int .i64 (-1)),(.tuple #[.string s3,.int .i64 (0:Nat)])] H2) fun q19 l20 H21=>zaE q19 none
 (fun i22=>zav i22 0 (
 zat (
 pBin PP .geq T.int (l20.getD 1 undef) (.int .i64 0) fun v23=>
 zaa v23 fun b24=>br b24
 (pLen .str x0 H21 fun v25=>
 zaL PP T.strings_span [(0,(l20.getD 1 undef)),(1,v25)] fun v26=>
 zak 2 [.int .i64 0,.int .i64 0] 1 [(0,v26)] H21 fun v27 H28=>
 zaB 2 16 (l20.getD 0 undef) v27 H28 fun v29 H30=>
 some (.next,[v29],H30))
 (some (.next,[(l20.getD 0 undef)],H21))) fun q31 l32 H33=>zaE q31
 (pLen .sl (l32.getD 0 undef) H33 fun v35=>
 za0 1 16 [.string ⟨#[]⟩] v35 v35 H33 fun v36 H37=>
 pLen .sl (l32.getD 0 undef) H37 fun v38=>
 zat (zas (za5 R x0 v36 v38 l32) [(.int .i64 0)] H37) fun q52 l53 H54=>zaE q52 none
 (fun i55=>zav i55 2 (
 some (v36,H54)) (
 none))
 (some ((l53.headD undef),H54)))
 (fun i34=>none)
 (some ((l32.headD undef),H33))) (
 none))
 (some ((l20.headD undef),H21)):=by kernel_rfl
noncomputable def zaZ (R:zaf) (x0:Value) (r56:Value) (p10:Value) (l58:List Value) (H59:Hp):Option Outc:=
 pBin PP .lss T.int (l58.getD 0 undef) r56 fun v60=>
 zaa v60 fun b61=>br b61
 (zar 2 p10 fun p62=>
 zar 3 p10 fun p63=>
 zar 4 p10 fun p64=>
 zaL PP T.a3_p_int [(0,p62),(1,p63),(2,p64)] fun v65=>
 zd0 3 false 1 v65 (l58.getD 0 undef) fun v66=>
 zbw R F.a67 [x0] H59 (fun e67 H68=>
 some (.ret,[(W0 e67)],H68)) fun r69 H70=>
 pNil v66 (
 zau 1 H70 v66 r69 fun H71=>
 pBin PP .add T.int (l58.getD 0 undef) (.int .i64 1) fun v72=>
 some (.next,[v72],H71)))
 (some (.exit 1,[(l58.getD 0 undef)],H59))
theorem zho (R:zaf) (x0:Value) (H0:Hp):zet R x0 H0 =
zbw R F.a4 [x0] H0 (fun e1 H2=>
 some ((W0 e1),H2)) fun r3 H4=>
 zbw R F.a66 [r3] H4 (fun e5 H6=>
 some ((W0 e5),H6)) fun r7 H8=>
 zaL PP T.api_Node [(0,r7)] fun v9=>
 zeV [.int .i64 0,.int .i64 0,.int .i64 0,.int .i64 0,.int .i64 0,.int .u64 0,.string ⟨#[]⟩] H8 fun p10 H11=>
 zau 7 H11 p10 v9 fun H12=>
 zat (
 zar 0 p10 fun p13=>
 zal 1 false H12 p13 fun v14=>
 pBin PP .eql T.int v14 (.int .i64 3) fun v15=>
 zaa v15 fun b16=>br b16
 (zbw R F.a3 [x0] H12 (fun e17 H18=>
 some (.ret,[(W0 e17)],H18)) fun r19 H20=>
 zar 1 p10 fun p21=>
 zau 1 H20 p21 r19 fun H22=>
 zbw R F.a4 [x0] H22 (fun e23 H24=>
 some (.ret,[(W0 e23)],H24)) fun r25 H26=>
 zag R F.a21 [r25] H26 fun r27 H28=>
 zae r27 0 fun v29=>
 zae r27 1 fun v30=>
 pBin PP .neq T.api_Errno v30 (.int .i64 0) fun v31=>
 zaa v31 fun b32=>br b32
 (zaL PP T.term_fault [(0,(.int .i64 3))] fun v33=>
 some (.ret,[(W0 (.iface T.term_fault v33))],H28))
 (zar 5 p10 fun p34=>
 zau 1 H28 p34 v29 fun H35=>
 some (.next,[],H35)))
 (pBin PP .eql T.int v14 (.int .i64 4) fun v36=>
 zaa v36 fun b37=>br b37
 (zbw R F.a4 [x0] H12 (fun e38 H39=>
 some (.ret,[(W0 e38)],H39)) fun r40 H41=>
 zar 6 p10 fun p42=>
 zau 1 H41 p42 r40 fun H43=>
 zbw R F.a3 [x0] H43 (fun e44 H45=>
 some (.ret,[(W0 e44)],H45)) fun r46 H47=>
 zar 1 p10 fun p48=>
 zau 1 H47 p48 r46 fun H49=>
 some (.next,[],H49))
 (some (.next,[],H12)))) fun q50 l51 H52=>zaE q50
 (zar 0 p10 fun p54=>
 zal 1 false H52 p54 fun v55=>
 zag R F.a10 [v55] H52 fun r56 H57=>
 zat (zas (zaZ R x0 r56 p10) [(.int .i64 0)] H57) fun q73 l74 H75=>zaE q73 none
 (fun i76=>zav i76 1 (
 zat (
 zar 0 p10 fun p77=>
 zal 1 false H75 p77 fun v78=>
 pBin PP .eql T.int v78 (.int .i64 31) fun v79=>
 zaa v79 fun b80=>br b80
 (zbw R F.a3 [x0] H75 (fun e81 H82=>
 some (.ret,[(W0 e81)],H82)) fun r83 H84=>
 zaq .u64 r83 fun v85=>
 zar 5 p10 fun p86=>
 zau 1 H84 p86 v85 fun H87=>
 zbw R F.a3 [x0] H87 (fun e88 H89=>
 some (.ret,[(W0 e88)],H89)) fun r90 H91=>
 zar 1 p10 fun p92=>
 zau 1 H91 p92 r90 fun H93=>
 some (.next,[],H93))
 (zat (
 pBin PP .eql T.int v78 (.int .i64 32) fun v94=>
 zaa v94 fun b95=>br b95
 (some (.next,[(.bool true)],H75))
 (pBin PP .eql T.int v78 (.int .i64 33) fun v96=>
 some (.next,[v96],H75))) fun q97 l98 H99=>zaE q97
 (zaa (l98.getD 0 undef) fun b101=>br b101
 (zbw R F.a3 [x0] H99 (fun e102 H103=>
 some (.ret,[(W0 e102)],H103)) fun r104 H105=>
 zar 1 p10 fun p106=>
 zau 1 H105 p106 r104 fun H107=>
 some (.next,[],H107))
 (pBin PP .eql T.int v78 (.int .i64 14) fun v108=>
 zaa v108 fun b109=>br b109
 (pNil x0 (
 zar 0 x0 fun p110=>
 zal 1 false H99 p110 fun v111=>
 zar 3 p10 fun p112=>
 zal 1 false H99 p112 fun v113=>
 zag R F.a2 [v111,v113] H99 fun r114 H115=>
 zar 1 p10 fun p116=>
 zau 1 H115 p116 r114 fun H117=>
 some (.next,[],H117)))
 (pBin PP .eql T.int v78 (.int .i64 30) fun v118=>
 zaa v118 fun b119=>br b119
 (pNil x0 (
 zar 0 x0 fun p120=>
 zal 1 false H99 p120 fun v121=>
 zar 2 p10 fun p122=>
 zal 1 false H99 p122 fun v123=>
 zag R F.a2 [v121,v123] H99 fun r124 H125=>
 pNil x0 (
 zar 0 x0 fun p126=>
 zal 1 false H125 p126 fun v127=>
 chk (Hp.rdP H99 p126 1 false=some v127) (
 zar 3 p10 fun p128=>
 zal 1 false H125 p128 fun v129=>
 chk (Hp.rdP H99 p128 1 false=some v129) (
 zag R F.a2 [v127,v129] H125 fun r130 H131=>
 pBin PP .add T.int r124 r130 fun v132=>
 pMM false [v132,(.int .i64 65)] fun v133=>
 zar 1 p10 fun p134=>
 zau 1 H131 p134 v133 fun H135=>
 zar 1 p10 fun p136=>
 zal 1 false H135 p136 fun v137=>
 pBin PP .gtr T.int v137 (.int .i64 64) fun v138=>
 zaa v138 fun b139=>br b139
 (zar 1 p10 fun p140=>
 zau 1 H135 p140 (.int .i64 0) fun H141=>
 some (.next,[],H141))
 (some (.next,[],H135)))))))
 (pBin PP .geq T.int v78 (.int .i64 15) fun v142=>
 zaa v142 fun b143=>br b143
 (pBin PP .leq T.int v78 (.int .i64 29) fun v144=>
 zaa v144 fun b145=>br b145
 (pNil x0 (
 zar 0 x0 fun p146=>
 zal 1 false H99 p146 fun v147=>
 zar 2 p10 fun p148=>
 zal 1 false H99 p148 fun v149=>
 zag R F.a2 [v147,v149] H99 fun r150 H151=>
 zar 1 p10 fun p152=>
 zau 1 H151 p152 r150 fun H153=>
 some (.next,[],H153)))
 (some (.next,[],H99)))
 (some (.next,[],H99))))))
 (fun i100=>zav i100 3 (
 some (.next,[],H99)) (
 some (.exit i100,[],H99)))
 (some (.ret,[(l98.headD undef)],H99)))) fun q154 l155 H156=>zaE q154
 (pNil x0 (
 zar 1 x0 fun p158=>
 zal 1 false H156 p158 fun v159=>
 pLen .sl v159 H156 fun v160=>
 pBin PP .gtr T.int v160 (.int .i64 0) fun v161=>
 zaa v161 fun b162=>br b162
 (zaL PP T.term_fault [(0,(.int .i64 3))] fun v163=>
 some ((W0 (.iface T.term_fault v163)),H156))
 (pNil x0 (
 zar 0 x0 fun p164=>
 zal 1 false H156 p164 fun v165=>
 zal 7 true H156 p10 fun v166=>
 zag R F.a18 [v165,v166] H156 fun r167 H168=>
 zae r167 0 fun v169=>
 zae r167 1 fun v170=>
 pBin PP .neq T.api_Errno v170 (.int .i64 0) fun v171=>
 zaa v171 fun b172=>br b172
 (zaL PP T.term_fault [(0,v170)] fun v173=>
 some ((W0 (.iface T.term_fault v173)),H168))
 (some ((W1 v169),H168))))))
 (fun i157=>none)
 (some ((l155.headD undef),H156))) (
 none))
 (some ((l74.headD undef),H75)))
 (fun i53=>none)
 (some ((l51.headD undef),H52)):=by kernel_rfl
noncomputable def zap (R:zaf) (x0:Value) (l1:List Value) (H2:Hp):Option Outc:=
 pLen .str x0 H2 fun v3=>
 pBin PP .leq T.int (l1.getD 2 undef) v3 fun v4=>
 zaa v4 fun b5=>br b5
 (pLen .str x0 H2 fun v6=>
 pBin PP .lss T.int (l1.getD 2 undef) v6 fun v7=>
 zaa v7 fun b8=>br b8
 (zbe x0 (l1.getD 2 undef) fun v9=>
 pBin PP .neq T.uint8 v9 (.int .u8 32) fun v10=>
 zaa v10 fun b11=>br b11
 (pBin PP .lss T.int (l1.getD 1 undef) (.int .i64 0) fun v12=>
 zaa v12 fun b13=>br b13
 (pBin PP .add T.int (l1.getD 2 undef) (.int .i64 1) fun v14=>
 some (.next,[(l1.getD 0 undef),(l1.getD 2 undef),v14],H2))
 (pBin PP .add T.int (l1.getD 2 undef) (.int .i64 1) fun v15=>
 some (.next,[(l1.getD 0 undef),(l1.getD 1 undef),v15],H2)))
 (pBin PP .geq T.int (l1.getD 1 undef) (.int .i64 0) fun v16=>
 zaa v16 fun b17=>br b17
 (zbf x0 (some (l1.getD 1 undef)) (some (l1.getD 2 undef)) fun v18=>
 zak 1 [.string ⟨#[]⟩] 1 [(0,v18)] H2 fun v19 H20=>
 zaB 1 16 (l1.getD 0 undef) v19 H20 fun v21 H22=>
 pBin PP .add T.int (l1.getD 2 undef) (.int .i64 1) fun v23=>
 some (.next,[v21,(.int .i64 (-1)),v23],H22))
 (pBin PP .add T.int (l1.getD 2 undef) (.int .i64 1) fun v24=>
 some (.next,[(l1.getD 0 undef),(.int .i64 (-1)),v24],H2))))
 (pBin PP .geq T.int (l1.getD 1 undef) (.int .i64 0) fun v25=>
 zaa v25 fun b26=>br b26
 (zbf x0 (some (l1.getD 1 undef)) (some (l1.getD 2 undef)) fun v27=>
 zak 1 [.string ⟨#[]⟩] 1 [(0,v27)] H2 fun v28 H29=>
 zaB 1 16 (l1.getD 0 undef) v28 H29 fun v30 H31=>
 pBin PP .add T.int (l1.getD 2 undef) (.int .i64 1) fun v32=>
 some (.next,[v30,(.int .i64 (-1)),v32],H31))
 (pBin PP .add T.int (l1.getD 2 undef) (.int .i64 1) fun v33=>
 some (.next,[(l1.getD 0 undef),(.int .i64 (-1)),v33],H2))))
 (some (.exit 0,[(l1.getD 0 undef),(l1.getD 1 undef),(l1.getD 2 undef)],H2))
theorem zgj (R:zaf) (x0:Value) (H0:Hp):zdC R x0 H0 =
zat (zas (zap R x0) [(.slice none 0 0),(.int .i64 (-1)),(.int .i64 0)] H0) fun q34 l35 H36=>zaE q34 none
 (fun i37=>zav i37 0 (
 some ((l35.getD 0 undef),H36)) (
 none))
 (some ((l35.headD undef),H36)):=by kernel_rfl
noncomputable def zaF (R:zaf) (x0:Value) (x1:Value) (l1:List Value) (H2:Hp):Option Outc:=
 pLen .sl x0 H2 fun v3=>
 pBin PP .lss T.int (l1.getD 1 undef) v3 fun v4=>
 zaa v4 fun b5=>br b5
 (pIdx 1 x0 (l1.getD 1 undef) fun p6=>
 zal 1 false H2 p6 fun v7=>
 zag R F.a37 [v7] H2 fun r8 H9=>
 pBin PP .lss T.int r8 (.int .i64 1) fun v10=>
 zaa v10 fun b11=>br b11
 (some (.ret,[(.tuple #[(.slice none 0 0),(.bool false)])],H9))
 (pLen .sl x1 H9 fun v12=>
 pBin PP .gtr T.int r8 v12 fun v13=>
 zaa v13 fun b14=>br b14
 (some (.ret,[(.tuple #[(.slice none 0 0),(.bool false)])],H9))
 (pBin PP .sub T.int r8 (.int .i64 1) fun v15=>
 pIdx 1 x1 v15 fun p16=>
 zal 1 false H9 p16 fun v17=>
 zak 1 [.int .i64 0] 1 [(0,v17)] H9 fun v18 H19=>
 zaB 1 8 (l1.getD 0 undef) v18 H19 fun v20 H21=>
 pBin PP .add T.int (l1.getD 1 undef) (.int .i64 1) fun v22=>
 some (.next,[v20,v22],H21))))
 (some (.exit 0,[(l1.getD 0 undef),(l1.getD 1 undef)],H2))
theorem zgk (R:zaf) (x0 x1:Value) (H0:Hp):zdE R x0 x1 H0 =
zat (zas (zaF R x0 x1) [(.slice none 0 0),(.int .i64 0)] H0) fun q23 l24 H25=>zaE q23 none
 (fun i26=>zav i26 0 (
 some ((.tuple #[(l24.getD 0 undef),(.bool true)]),H25)) (
 none))
 (some ((l24.headD undef),H25)):=by kernel_rfl
noncomputable def zbb (R:zaf) (x0:Value) (l24:List Value) (H25:Hp):Option Outc:=
 pBin PP .leq T.int (l24.getD 0 undef) (.int .i64 33) fun v26=>
 zaa v26 fun b27=>br b27
 (zag R F.a52 [(l24.getD 0 undef)] H25 fun r28 H29=>
 pIdx 1 x0 (.int .i64 1) fun p30=>
 zal 1 false H29 p30 fun v31=>
 chk (Hp.rdP H25 p30 1 false=some v31) (
 pBin PP .eql T.string r28 v31 fun v32=>
 zaa v32 fun b33=>br b33
 (zaD 1 (zab ((l24.drop 1).getD 0 undef)) 0 (l24.getD 0 undef) fun c34=>
 pBin PP .add T.int (l24.getD 0 undef) (.int .i64 1) fun v35=>
 some (.next,[v35,(.agg c34.toArray)],H29))
 (pBin PP .add T.int (l24.getD 0 undef) (.int .i64 1) fun v36=>
 some (.next,[v36,(.agg (zab ((l24.drop 1).getD 0 undef)).toArray)],H29))))
 (some (.exit 0,[(l24.getD 0 undef),(.agg (zab ((l24.drop 1).getD 0 undef)).toArray)],H25))
noncomputable def zaM (R:zaf) (x0:Value) (x1:Value) (r63:Value) (l65:List Value) (H66:Hp):Option Outc:=
 pLen .str r63 H66 fun v67=>
 pBin PP .lss T.int (l65.getD 1 undef) v67 fun v68=>
 zaa v68 fun b69=>br b69
 (pBin PP .add T.int (l65.getD 1 undef) (.int .i64 2) fun v70=>
 pIdx 1 x0 v70 fun p71=>
 zal 1 false H66 p71 fun v72=>
 zag R F.a37 [v72] H66 fun r73 H74=>
 zbe r63 (l65.getD 1 undef) fun v75=>
 pBin PP .eql T.uint8 v75 (.int .u8 112) fun v76=>
 zaa v76 fun b77=>br b77
 (zat (
 pBin PP .lss T.int r73 (.int .i64 1) fun v78=>
 zaa v78 fun b79=>br b79
 (zad 7 true (zab ((l65.drop 2).getD 1 undef)) 0 fun v80=>
 zaD 7 (zab ((l65.drop 2).getD 0 undef)) 0 v80 fun c81=>
 zad 7 true c81 0 fun v82=>
 some (.ret,[(.tuple #[v82,(.bool false)])],H74))
 (pLen .sl x1 H74 fun v83=>
 pBin PP .gtr T.int r73 v83 fun v84=>
 zaa v84 fun b85=>br b85
 (zad 7 true (zab ((l65.drop 2).getD 1 undef)) 0 fun v86=>
 zaD 7 (zab ((l65.drop 2).getD 0 undef)) 0 v86 fun c87=>
 zad 7 true c87 0 fun v88=>
 some (.ret,[(.tuple #[v88,(.bool false)])],H74))
 (some (.next,[(.agg (zab ((l65.drop 2).getD 0 undef)).toArray)],H74)))) fun q89 l90 H91=>zaE q89
 (pBin PP .eql T.int (l65.getD 0 undef) (.int .i64 0) fun v93=>
 zaa v93 fun b94=>br b94
 (pBin PP .sub T.int r73 (.int .i64 1) fun v95=>
 pIdx 1 x1 v95 fun p96=>
 zal 1 false H91 p96 fun v97=>
 zaD 1 (zab ((l65.drop 2).getD 1 undef)) 2 v97 fun c98=>
 pBin PP .add T.int (l65.getD 0 undef) (.int .i64 1) fun v99=>
 pBin PP .add T.int (l65.getD 1 undef) (.int .i64 1) fun v100=>
 some (.next,[v99,v100,(.agg (zab ((l90.drop 0).getD 0 undef)).toArray),(.agg c98.toArray)],H91))
 (pBin PP .eql T.int (l65.getD 0 undef) (.int .i64 1) fun v101=>
 zaa v101 fun b102=>br b102
 (pBin PP .sub T.int r73 (.int .i64 1) fun v103=>
 pIdx 1 x1 v103 fun p104=>
 zal 1 false H91 p104 fun v105=>
 zaD 1 (zab ((l65.drop 2).getD 1 undef)) 3 v105 fun c106=>
 pBin PP .add T.int (l65.getD 0 undef) (.int .i64 1) fun v107=>
 pBin PP .add T.int (l65.getD 1 undef) (.int .i64 1) fun v108=>
 some (.next,[v107,v108,(.agg (zab ((l90.drop 0).getD 0 undef)).toArray),(.agg c106.toArray)],H91))
 (pBin PP .sub T.int r73 (.int .i64 1) fun v109=>
 pIdx 1 x1 v109 fun p110=>
 zal 1 false H91 p110 fun v111=>
 zaD 1 (zab ((l65.drop 2).getD 1 undef)) 4 v111 fun c112=>
 pBin PP .add T.int (l65.getD 0 undef) (.int .i64 1) fun v113=>
 pBin PP .add T.int (l65.getD 1 undef) (.int .i64 1) fun v114=>
 some (.next,[v113,v114,(.agg (zab ((l90.drop 0).getD 0 undef)).toArray),(.agg c112.toArray)],H91))))
 (fun i92=>zav i92 4 (
 pBin PP .add T.int (l65.getD 1 undef) (.int .i64 1) fun v115=>
 some (.next,[(l65.getD 0 undef),v115,(.agg (zab ((l90.drop 0).getD 0 undef)).toArray),(.agg (zab ((l65.drop 2).getD 1 undef)).toArray)],H91)) (
 zav i92 3 (
 pBin PP .add T.int (l65.getD 1 undef) (.int .i64 1) fun v116=>
 some (.next,[(l65.getD 0 undef),v116,(.agg (zab ((l90.drop 0).getD 0 undef)).toArray),(.agg (zab ((l65.drop 2).getD 1 undef)).toArray)],H91)) (
 some (.exit i92,[(l65.getD 0 undef),(l65.getD 1 undef),(.agg (zab ((l90.drop 0).getD 0 undef)).toArray),(.agg (zab ((l65.drop 2).getD 1 undef)).toArray)],H91))))
 (some (.ret,[(l90.headD undef)],H91)))
 (pBin PP .eql T.uint8 v75 (.int .u8 110) fun v117=>
 zaa v117 fun b118=>br b118
 (pBin PP .add T.int (l65.getD 1 undef) (.int .i64 2) fun v119=>
 pIdx 1 x0 v119 fun p120=>
 zal 1 false H74 p120 fun v121=>
 zag R F.a34 [v121] H74 fun r122 H123=>
 zae r122 0 fun v124=>
 zae r122 1 fun v125=>
 pBin PP .neq T.api_Errno v125 (.int .i64 0) fun v126=>
 zaa v126 fun b127=>br b127
 (zad 7 true (zab ((l65.drop 2).getD 1 undef)) 0 fun v128=>
 zaD 7 (zab ((l65.drop 2).getD 0 undef)) 0 v128 fun c129=>
 zad 7 true c129 0 fun v130=>
 some (.ret,[(.tuple #[v130,(.bool false)])],H123))
 (zad 1 false (zab ((l65.drop 2).getD 1 undef)) 0 fun v131=>
 pBin PP .neq T.int v131 (.int .i64 3) fun v132=>
 zaa v132 fun b133=>br b133
 (pBin PP .lss T.int r73 (.int .i64 0) fun v134=>
 zaa v134 fun b135=>br b135
 (zad 7 true (zab ((l65.drop 2).getD 1 undef)) 0 fun v136=>
 zaD 7 (zab ((l65.drop 2).getD 0 undef)) 0 v136 fun c137=>
 zad 7 true c137 0 fun v138=>
 some (.ret,[(.tuple #[v138,(.bool false)])],H123))
 (zaD 1 (zab ((l65.drop 2).getD 1 undef)) 5 v124 fun c139=>
 pBin PP .add T.int (l65.getD 1 undef) (.int .i64 1) fun v140=>
 some (.next,[(l65.getD 0 undef),v140,(.agg (zab ((l65.drop 2).getD 0 undef)).toArray),(.agg c139.toArray)],H123)))
 (zaD 1 (zab ((l65.drop 2).getD 1 undef)) 5 v124 fun c141=>
 pBin PP .add T.int (l65.getD 1 undef) (.int .i64 1) fun v142=>
 some (.next,[(l65.getD 0 undef),v142,(.agg (zab ((l65.drop 2).getD 0 undef)).toArray),(.agg c141.toArray)],H123))))
 (pBin PP .eql T.uint8 v75 (.int .u8 119) fun v143=>
 zaa v143 fun b144=>br b144
 (pBin PP .lss T.int r73 (.int .i64 0) fun v145=>
 zaa v145 fun b146=>br b146
 (zad 7 true (zab ((l65.drop 2).getD 1 undef)) 0 fun v147=>
 zaD 7 (zab ((l65.drop 2).getD 0 undef)) 0 v147 fun c148=>
 zad 7 true c148 0 fun v149=>
 some (.ret,[(.tuple #[v149,(.bool false)])],H74))
 (zaD 1 (zab ((l65.drop 2).getD 1 undef)) 1 r73 fun c150=>
 pBin PP .add T.int (l65.getD 1 undef) (.int .i64 1) fun v151=>
 some (.next,[(l65.getD 0 undef),v151,(.agg (zab ((l65.drop 2).getD 0 undef)).toArray),(.agg c150.toArray)],H74)))
 (pBin PP .eql T.uint8 v75 (.int .u8 115) fun v152=>
 zaa v152 fun b153=>br b153
 (pBin PP .add T.int (l65.getD 1 undef) (.int .i64 2) fun v154=>
 pIdx 1 x0 v154 fun p155=>
 zal 1 false H74 p155 fun v156=>
 zaD 1 (zab ((l65.drop 2).getD 1 undef)) 6 v156 fun c157=>
 pBin PP .add T.int (l65.getD 1 undef) (.int .i64 1) fun v158=>
 some (.next,[(l65.getD 0 undef),v158,(.agg (zab ((l65.drop 2).getD 0 undef)).toArray),(.agg c157.toArray)],H74))
 (pBin PP .add T.int (l65.getD 1 undef) (.int .i64 1) fun v159=>
 some (.next,[(l65.getD 0 undef),v159,(.agg (zab ((l65.drop 2).getD 0 undef)).toArray),(.agg (zab ((l65.drop 2).getD 1 undef)).toArray)],H74))))))
 (some (.exit 2,[(l65.getD 0 undef),(l65.getD 1 undef),(.agg (zab ((l65.drop 2).getD 0 undef)).toArray),(.agg (zab ((l65.drop 2).getD 1 undef)).toArray)],H66))
theorem zgM (R:zaf) (x0 x1:Value) (H0:Hp):zd6 R x0 x1 H0 =
zaL PP T.api_Node [] fun v1=>
 zaD 7 [.int .i64 0,.int .i64 0,.int .i64 0,.int .i64 0,.int .i64 0,.int .u64 0,.string ⟨#[]⟩] 0 v1 fun c2=>
 zat (
 pLen .sl x0 H0 fun v3=>
 pBin PP .lss T.int v3 (.int .i64 2) fun v4=>
 zaa v4 fun b5=>br b5
 (zad 7 true c2 0 fun v6=>
 zaD 7 [.int .i64 0,.int .i64 0,.int .i64 0,.int .i64 0,.int .i64 0,.int .u64 0,.string ⟨#[]⟩] 0 v6 fun c7=>
 zad 7 true c7 0 fun v8=>
 some (.ret,[(.tuple #[v8,(.bool false)])],H0))
 (pIdx 1 x0 (.int .i64 0) fun p9=>
 zal 1 false H0 p9 fun v10=>
 zag R F.a37 [v10] H0 fun r11 H12=>
 pLen .sl x1 H12 fun v13=>
 pBin PP .add T.int v13 (.int .i64 1) fun v14=>
 pBin PP .neq T.int r11 v14 fun v15=>
 zaa v15 fun b16=>br b16
 (zad 7 true c2 0 fun v17=>
 zaD 7 [.int .i64 0,.int .i64 0,.int .i64 0,.int .i64 0,.int .i64 0,.int .u64 0,.string ⟨#[]⟩] 0 v17 fun c18=>
 zad 7 true c18 0 fun v19=>
 some (.ret,[(.tuple #[v19,(.bool false)])],H12))
 (some (.next,[(.agg [.int .i64 0,.int .i64 0,.int .i64 0,.int .i64 0,.int .i64 0,.int .u64 0,.string ⟨#[]⟩].toArray)],H12)))) fun q20 l21 H22=>zaE q20
 (zat (zas (zbb R x0) [(.int .i64 1),(.agg c2.toArray)] H22) fun q37 l38 H39=>zaE q37 none
 (fun i40=>zav i40 0 (
 zat (
 zad 1 false (zab ((l38.drop 1).getD 0 undef)) 0 fun v41=>
 pBin PP .eql T.int v41 (.int .i64 0) fun v42=>
 zaa v42 fun b43=>br b43
 (zad 7 true (zab ((l38.drop 1).getD 0 undef)) 0 fun v44=>
 zaD 7 (zab ((l21.drop 0).getD 0 undef)) 0 v44 fun c45=>
 zad 7 true c45 0 fun v46=>
 some (.ret,[(.tuple #[v46,(.bool false)])],H39))
 (pLen .sl x0 H39 fun v47=>
 pBin PP .sub T.int v47 (.int .i64 2) fun v48=>
 zad 1 false (zab ((l38.drop 1).getD 0 undef)) 0 fun v49=>
 zag R F.a35 [v49] H39 fun r50 H51=>
 pLen .str r50 H51 fun v52=>
 pBin PP .neq T.int v48 v52 fun v53=>
 zaa v53 fun b54=>br b54
 (zad 7 true (zab ((l38.drop 1).getD 0 undef)) 0 fun v55=>
 zaD 7 (zab ((l21.drop 0).getD 0 undef)) 0 v55 fun c56=>
 zad 7 true c56 0 fun v57=>
 some (.ret,[(.tuple #[v57,(.bool false)])],H51))
 (some (.next,[(.agg (zab ((l21.drop 0).getD 0 undef)).toArray)],H51)))) fun q58 l59 H60=>zaE q58
 (zad 1 false (zab ((l38.drop 1).getD 0 undef)) 0 fun v62=>
 zag R F.a35 [v62] H60 fun r63 H64=>
 zat (zas (zaM R x0 x1 r63) [(.int .i64 0),(.int .i64 0),(.agg (zab ((l59.drop 0).getD 0 undef)).toArray),(.agg (zab ((l38.drop 1).getD 0 undef)).toArray)] H64) fun q160 l161 H162=>zaE q160 none
 (fun i163=>zav i163 2 (
 zad 7 true (zab ((l161.drop 2).getD 1 undef)) 0 fun v164=>
 zaD 7 (zab ((l161.drop 2).getD 0 undef)) 0 v164 fun c165=>
 zad 7 true c165 0 fun v166=>
 some ((.tuple #[v166,(.bool true)]),H162)) (
 none))
 (some ((l161.headD undef),H162)))
 (fun i61=>none)
 (some ((l59.headD undef),H60))) (
 none))
 (some ((l38.headD undef),H39)))
 (fun i23=>none)
 (some ((l21.headD undef),H22)):=by kernel_rfl
noncomputable def zbk (R:zaf) (x1:Value) (x2:Value) (v19:Value) (v21:Value) (l22:List Value) (H23:Hp):Option Outc:=
 pBin PP .lss T.int (l22.getD 1 undef) v21 fun v24=>
 zaa v24 fun b25=>br b25
 (zag R F.a42 [(l22.getD 0 undef),x1] H23 fun r26 H27=>
 pBin PP .lss T.int r26 (.int .i64 0) fun v28=>
 zaa v28 fun b29=>br b29
 (some (.exit 0,[(l22.getD 0 undef),(l22.getD 1 undef)],H27))
 (pBin PP .add T.int r26 x2 fun v30=>
 zbf (l22.getD 0 undef) none (some v30) fun v31=>
 pIdx 1 v19 (l22.getD 1 undef) fun p32=>
 zau 1 H27 p32 v31 fun H33=>
 pLen .str x1 H33 fun v34=>
 pBin PP .add T.int r26 v34 fun v35=>
 zbf (l22.getD 0 undef) (some v35) none fun v36=>
 pBin PP .add T.int (l22.getD 1 undef) (.int .i64 1) fun v37=>
 some (.next,[v36,v37],H33)))
 (some (.exit 0,[(l22.getD 0 undef),(l22.getD 1 undef)],H23))
theorem zhp (R:zaf) (x0 x1 x2 x3:Value) (H0:Hp):zev R x0 x1 x2 x3 H0 =
pBin PP .eql T.int x3 (.int .i64 0) fun v1=>
 zaa v1 fun b2=>br b2
 (some ((.slice none 0 0),H0))
 (pBin PP .eql T.string x1 (.string ⟨#[]⟩) fun v3=>
 zaa v3 fun b4=>br b4
 (zag R F.a100 [x0,x3] H0 fun r5 H6=>
 some (r5,H6))
 (zat (
 pBin PP .lss T.int x3 (.int .i64 0) fun v7=>
 zaa v7 fun b8=>br b8
 (zag R F.a60 [x0,x1] H0 fun r9 H10=>
 pBin PP .add T.int r9 (.int .i64 1) fun v11=>
 some (.next,[v11],H10))
 (some (.next,[x3],H0))) fun q12 l13 H14=>zaE q12
 (pLen .str x0 H14 fun v16=>
 pBin PP .add T.int v16 (.int .i64 1) fun v17=>
 pMM false [(l13.getD 0 undef),v17] fun v18=>
 za0 1 16 [.string ⟨#[]⟩] v18 v18 H14 fun v19 H20=>
 pBin PP .sub T.int v18 (.int .i64 1) fun v21=>
 zat (zas (zbk R x1 x2 v19 v21) [x0,(.int .i64 0)] H20) fun q38 l39 H40=>zaE q38 none
 (fun i41=>zav i41 0 (
 pIdx 1 v19 (l39.getD 1 undef) fun p42=>
 zau 1 H40 p42 (l39.getD 0 undef) fun H43=>
 pBin PP .add T.int (l39.getD 1 undef) (.int .i64 1) fun v44=>
 zcm 1 v19 none (some v44) fun v45=>
 some (v45,H43)) (
 none))
 (some ((l39.headD undef),H40)))
 (fun i15=>none)
 (some ((l13.headD undef),H14)))):=by kernel_rfl
noncomputable def zbu (R:zaf) (l11:List Value) (H12:Hp):Option Outc:=
 br (Nat.blt (zbc ((l11.drop 0).getD 0 undef)) (zbg ((l11.drop 0).getD 0 undef)).size)
 (pBin PP .eql T.int32 (.int .i32 (Utf8.decode (zbg ((l11.drop 0).getD 0 undef)) (zbc ((l11.drop 0).getD 0 undef))).1) (.int .i32 95) fun v13=>
 zaa v13 fun b14=>br b14
 (some (.ret,[(.tuple #[(.int .u64 0),(.int .i64 10)])],H12))
 (pBin PP .eql T.int32 (.int .i32 (Utf8.decode (zbg ((l11.drop 0).getD 0 undef)) (zbc ((l11.drop 0).getD 0 undef))).1) (.int .i32 43) fun v15=>
 zaa v15 fun b16=>br b16
 (some (.ret,[(.tuple #[(.int .u64 0),(.int .i64 10)])],H12))
 (pBin PP .eql T.int32 (.int .i32 (Utf8.decode (zbg ((l11.drop 0).getD 0 undef)) (zbc ((l11.drop 0).getD 0 undef))).1) (.int .i32 45) fun v17=>
 zaa v17 fun b18=>br b18
 (some (.ret,[(.tuple #[(.int .u64 0),(.int .i64 10)])],H12))
 (some (.next,[(.tuple #[.string (zbg ((l11.drop 0).getD 0 undef)),.int .i64 (((zbc ((l11.drop 0).getD 0 undef))+(Utf8.decode (zbg ((l11.drop 0).getD 0 undef)) (zbc ((l11.drop 0).getD 0 undef))).2):Nat)])],H12)))))
 (some (.exit 0,[(.tuple #[.string (zbg ((l11.drop 0).getD 0 undef)),.int .i64 ((zbc ((l11.drop 0).getD 0 undef)):Nat)])],H12))
theorem zlY (R:zaf) (x0:Value) (H0:Hp):zhm R x0 H0 =
zag R F.a87 [x0,(.string ⟨#[48,120]⟩)] H0 fun r1 H2=>
 zae r1 0 fun v3=>
 zae r1 1 fun v4=>
 zat (
 zaa v4 fun b5=>br b5
 (some (.next,[(.int .i64 16)],H2))
 (some (.next,[(.int .i64 10)],H2))) fun q6 l7 H8=>zaE q6
 (zko v3 fun s10=>
 zat (zas (zbu R) [(.tuple #[.string s10,.int .i64 (0:Nat)])] H8) fun q19 l20 H21=>zaE q19 none
 (fun i22=>zav i22 0 (
 zag R F.a59 [v3,(l7.getD 0 undef),(.int .i64 64)] H21 fun r23 H24=>
 zae r23 0 fun v25=>
 zae r23 1 fun v26=>
 zfl PP .neq T.error v26 fun v27=>
 zaa v27 fun b28=>br b28
 (some ((.tuple #[(.int .u64 0),(.int .i64 10)]),H24))
 (some ((.tuple #[v25,(.int .i64 0)]),H24))) (
 none))
 (some ((l20.headD undef),H21)))
 (fun i9=>none)
 (some ((l7.headD undef),H8)):=by kernel_rfl
noncomputable def zaS (R:zaf) (x0:Value) (v3:Value) (r1:Value) (l4:List Value) (H5:Hp):Option Outc:=
 pBin PP .lss T.int (l4.getD 1 undef) v3 fun v6=>
 zaa v6 fun b7=>br b7
 (pIdx 1 r1 (l4.getD 1 undef) fun p8=>
 zal 1 false H5 p8 fun v9=>
 pBin PP .gtr T.int (l4.getD 1 undef) (.int .i64 0) fun v10=>
 zaa v10 fun b11=>br b11
 (pBin PP .eql T.string v9 x0 fun v12=>
 zaa v12 fun b13=>br b13
 (some (.ret,[(W1 (l4.getD 1 undef))],H5))
 (pBin PP .add T.int (l4.getD 1 undef) (.int .i64 1) fun v14=>
 some (.next,[(l4.getD 0 undef),v14],H5)))
 (pBin PP .add T.int (l4.getD 1 undef) (.int .i64 1) fun v15=>
 some (.next,[(l4.getD 0 undef),v15],H5)))
 (some (.exit 0,[(l4.getD 0 undef),(l4.getD 1 undef)],H5))
theorem ziv (R:zaf) (x0:Value) (H0:Hp):zfo R x0 H0 =
zag R F.a91 [] H0 fun r1 H2=>
 pLen .sl r1 H2 fun v3=>
 zat (zas (zaS R x0 v3 r1) [(.int .i64 0),(.int .i64 0)] H2) fun q16 l17 H18=>zaE q16 none
 (fun i19=>zav i19 0 (
 zaL PP T.term_fault [(0,(.int .i64 3))] fun v20=>
 some ((W0 (.iface T.term_fault v20)),H18)) (
 none))
 (some ((l17.headD undef),H18)):=by kernel_rfl
noncomputable def zaA (R:zaf) (x0:Value) (l11:List Value) (l17:List Value) (H18:Hp):Option Outc:=
 pLen .str x0 H18 fun v19=>
 pBin PP .lss T.int (l17.getD 0 undef) v19 fun v20=>
 zaa v20 fun b21=>br b21
 (zbe x0 (l17.getD 0 undef) fun v22=>
 zag R F.a78 [v22,(l11.getD 0 undef)] H18 fun r23 H24=>
 pBin PP .lss T.int r23 (.int .i64 0) fun v25=>
 zaa v25 fun b26=>br b26
 (some (.ret,[(.tuple #[(.int .u64 0),(.int .i64 10)])],H24))
 (zaq .u64 r23 fun v27=>
 pBin PP .sub T.uint64 (.int .u64 18446744073709551615) v27 fun v28=>
 pBin PP .quo T.uint64 v28 (l11.getD 0 undef) fun v29=>
 pBin PP .gtr T.uint64 (l17.getD 1 undef) v29 fun v30=>
 zaa v30 fun b31=>br b31
 (some (.ret,[(.tuple #[(.int .u64 0),(.int .i64 10)])],H24))
 (pBin PP .mul T.uint64 (l17.getD 1 undef) (l11.getD 0 undef) fun v32=>
 zaq .u64 r23 fun v33=>
 pBin PP .add T.uint64 v32 v33 fun v34=>
 pBin PP .add T.int (l17.getD 0 undef) (.int .i64 1) fun v35=>
 some (.next,[v35,v34],H24))))
 (some (.exit 0,[(l17.getD 0 undef),(l17.getD 1 undef)],H18))
theorem zfN (R:zaf) (x0:Value) (H0:Hp):zdl R x0 H0 =
zat (
 pLen .str x0 H0 fun v1=>
 pBin PP .geq T.int v1 (.int .i64 2) fun v2=>
 zaa v2 fun b3=>br b3
 (zbe x0 (.int .i64 0) fun v4=>
 pBin PP .eql T.uint8 v4 (.int .u8 48) fun v5=>
 zaa v5 fun b6=>br b6
 (zbe x0 (.int .i64 1) fun v7=>
 pBin PP .eql T.uint8 v7 (.int .u8 120) fun v8=>
 zaa v8 fun b9=>br b9
 (some (.next,[(.int .u64 16),(.int .i64 2)],H0))
 (some (.next,[(.int .u64 10),(.int .i64 0)],H0)))
 (some (.next,[(.int .u64 10),(.int .i64 0)],H0)))
 (some (.next,[(.int .u64 10),(.int .i64 0)],H0))) fun q10 l11 H12=>zaE q10
 (pLen .str x0 H12 fun v14=>
 pBin PP .eql T.int (l11.getD 1 undef) v14 fun v15=>
 zaa v15 fun b16=>br b16
 (some ((.tuple #[(.int .u64 0),(.int .i64 10)]),H12))
 (zat (zas (zaA R x0 l11) [(l11.getD 1 undef),(.int .u64 0)] H12) fun q36 l37 H38=>zaE q36 none
 (fun i39=>zav i39 0 (
 some ((.tuple #[(l37.getD 1 undef),(.int .i64 0)]),H38)) (
 none))
 (some ((l37.headD undef),H38))))
 (fun i13=>none)
 (some ((l11.headD undef),H12)):=by kernel_rfl
noncomputable def zaR (R:zaf) (v3:Value) (v81:Value) (v82:Value) (v84:Value) (l55:List Value) (l76:List Value) (l85:List Value) (H86:Hp):Option Outc:=
 pBin PP .lss T.int (l85.getD 2 undef) v84 fun v87=>
 zaa v87 fun b88=>br b88
 (pIdx 1 v82 (l85.getD 2 undef) fun p89=>
 zal 1 false H86 p89 fun v90=>
 zat (
 zat (
 pBin PP .eql T.uint8 v90 (.int .u8 95) fun v91=>
 zaa v91 fun b92=>br b92
 (some (.next,[v3],H86))
 (some (.next,[(.bool false)],H86))) fun q93 l94 H95=>zaE q93
 (zaa (l94.getD 0 undef) fun b97=>br b97
 (some (.exit 4,[(.bool true),(.int .u8 0)],H95))
 (pBin PP .leq T.uint8 (.int .u8 48) v90 fun v98=>
 zaa v98 fun b99=>br b99
 (pBin PP .leq T.uint8 v90 (.int .u8 57) fun v100=>
 zaa v100 fun b101=>br b101
 (pBin PP .sub T.uint8 v90 (.int .u8 48) fun v102=>
 some (.next,[(l85.getD 0 undef),v102],H95))
 (zag R F.a6 [v90] H95 fun r103 H104=>
 pBin PP .leq T.uint8 (.int .u8 97) r103 fun v105=>
 zaa v105 fun b106=>br b106
 (zag R F.a6 [v90] H104 fun r107 H108=>
 pBin PP .leq T.uint8 r107 (.int .u8 122) fun v109=>
 zaa v109 fun b110=>br b110
 (zag R F.a6 [v90] H108 fun r111 H112=>
 pBin PP .sub T.uint8 r111 (.int .u8 97) fun v113=>
 pBin PP .add T.uint8 v113 (.int .u8 10) fun v114=>
 some (.next,[(l85.getD 0 undef),v114],H112))
 (some (.ret,[(.tuple #[(.int .u64 0),(.iface T.strconv_Error (.int .i64 2))])],H108)))
 (some (.ret,[(.tuple #[(.int .u64 0),(.iface T.strconv_Error (.int .i64 2))])],H104))))
 (zag R F.a6 [v90] H95 fun r115 H116=>
 pBin PP .leq T.uint8 (.int .u8 97) r115 fun v117=>
 zaa v117 fun b118=>br b118
 (zag R F.a6 [v90] H116 fun r119 H120=>
 pBin PP .leq T.uint8 r119 (.int .u8 122) fun v121=>
 zaa v121 fun b122=>br b122
 (zag R F.a6 [v90] H120 fun r123 H124=>
 pBin PP .sub T.uint8 r123 (.int .u8 97) fun v125=>
 pBin PP .add T.uint8 v125 (.int .u8 10) fun v126=>
 some (.next,[(l85.getD 0 undef),v126],H124))
 (some (.ret,[(.tuple #[(.int .u64 0),(.iface T.strconv_Error (.int .i64 2))])],H120)))
 (some (.ret,[(.tuple #[(.int .u64 0),(.iface T.strconv_Error (.int .i64 2))])],H116)))))
 (fun i96=>zav i96 5 (
 some (.next,[(l85.getD 0 undef),(.int .u8 0)],H95)) (
 some (.exit i96,[(l85.getD 0 undef),(.int .u8 0)],H95)))
 (some (.ret,[(l94.headD undef)],H95))) fun q127 l128 H129=>zaE q127
 (zaq .u8 (l55.getD 1 undef) fun v131=>
 pBin PP .geq T.uint8 (l128.getD 1 undef) v131 fun v132=>
 zaa v132 fun b133=>br b133
 (some (.ret,[(.tuple #[(.int .u64 0),(.iface T.strconv_Error (.int .i64 2))])],H129))
 (pBin PP .geq T.uint64 (l85.getD 1 undef) (l76.getD 0 undef) fun v134=>
 zaa v134 fun b135=>br b135
 (some (.ret,[(.tuple #[v81,(.iface T.strconv_Error (.int .i64 1))])],H129))
 (zaq .u64 (l55.getD 1 undef) fun v136=>
 pBin PP .mul T.uint64 (l85.getD 1 undef) v136 fun v137=>
 zaq .u64 (l128.getD 1 undef) fun v138=>
 pBin PP .add T.uint64 v137 v138 fun v139=>
 pBin PP .lss T.uint64 v139 v137 fun v140=>
 zaa v140 fun b141=>br b141
 (some (.ret,[(.tuple #[v81,(.iface T.strconv_Error (.int .i64 1))])],H129))
 (pBin PP .gtr T.uint64 v139 v81 fun v142=>
 zaa v142 fun b143=>br b143
 (some (.ret,[(.tuple #[v81,(.iface T.strconv_Error (.int .i64 1))])],H129))
 (pBin PP .add T.int (l85.getD 2 undef) (.int .i64 1) fun v144=>
 some (.next,[(l128.getD 0 undef),v139,v144],H129))))))
 (fun i130=>zav i130 4 (
 pBin PP .add T.int (l85.getD 2 undef) (.int .i64 1) fun v145=>
 some (.next,[(l128.getD 0 undef),(l85.getD 1 undef),v145],H129)) (
 some (.exit i130,[(l128.getD 0 undef),(l85.getD 1 undef),(l85.getD 2 undef)],H129)))
 (some (.ret,[(l128.headD undef)],H129)))
 (some (.exit 3,[(l85.getD 0 undef),(l85.getD 1 undef),(l85.getD 2 undef)],H86))
theorem zci (R:zaf) (x0 x1 x2:Value) (H0:Hp):zcg R x0 x1 x2 H0 =
pBin PP .eql T.string x0 (.string ⟨#[]⟩) fun v1=>
 zaa v1 fun b2=>br b2
 (some ((.tuple #[(.int .u64 0),(.iface T.strconv_Error (.int .i64 2))]),H0))
 (pBin PP .eql T.int x1 (.int .i64 0) fun v3=>
 zat (
 zat (
 pBin PP .leq T.int (.int .i64 2) x1 fun v4=>
 zaa v4 fun b5=>br b5
 (pBin PP .leq T.int x1 (.int .i64 36) fun v6=>
 some (.next,[v6],H0))
 (some (.next,[(.bool false)],H0))) fun q7 l8 H9=>zaE q7
 (zaa (l8.getD 0 undef) fun b11=>br b11
 (some (.next,[x0,x1],H9))
 (pBin PP .eql T.int x1 (.int .i64 0) fun v12=>
 zaa v12 fun b13=>br b13
 (zbe x0 (.int .i64 0) fun v14=>
 pBin PP .eql T.uint8 v14 (.int .u8 48) fun v15=>
 zaa v15 fun b16=>br b16
 (zat (
 pLen .str x0 H9 fun v17=>
 pBin PP .geq T.int v17 (.int .i64 3) fun v18=>
 zaa v18 fun b19=>br b19
 (zbe x0 (.int .i64 1) fun v20=>
 zag R F.a6 [v20] H9 fun r21 H22=>
 pBin PP .eql T.uint8 r21 (.int .u8 98) fun v23=>
 some (.next,[v23],H22))
 (some (.next,[(.bool false)],H9))) fun q24 l25 H26=>zaE q24
 (zaa (l25.getD 0 undef) fun b28=>br b28
 (zbf x0 (some (.int .i64 2)) none fun v29=>
 some (.next,[v29,(.int .i64 2)],H26))
 (zat (
 pLen .str x0 H26 fun v30=>
 pBin PP .geq T.int v30 (.int .i64 3) fun v31=>
 zaa v31 fun b32=>br b32
 (zbe x0 (.int .i64 1) fun v33=>
 zag R F.a6 [v33] H26 fun r34 H35=>
 pBin PP .eql T.uint8 r34 (.int .u8 111) fun v36=>
 some (.next,[v36],H35))
 (some (.next,[(.bool false)],H26))) fun q37 l38 H39=>zaE q37
 (zaa (l38.getD 0 undef) fun b41=>br b41
 (zbf x0 (some (.int .i64 2)) none fun v42=>
 some (.next,[v42,(.int .i64 8)],H39))
 (pLen .str x0 H39 fun v43=>
 pBin PP .geq T.int v43 (.int .i64 3) fun v44=>
 zaa v44 fun b45=>br b45
 (zbe x0 (.int .i64 1) fun v46=>
 zag R F.a6 [v46] H39 fun r47 H48=>
 pBin PP .eql T.uint8 r47 (.int .u8 120) fun v49=>
 zaa v49 fun b50=>br b50
 (zbf x0 (some (.int .i64 2)) none fun v51=>
 some (.next,[v51,(.int .i64 16)],H48))
 (zbf x0 (some (.int .i64 1)) none fun v52=>
 some (.next,[v52,(.int .i64 8)],H48)))
 (zbf x0 (some (.int .i64 1)) none fun v53=>
 some (.next,[v53,(.int .i64 8)],H39))))
 (fun i40=>zav i40 1 (
 some (.next,[x0,(.int .i64 10)],H39)) (
 zav i40 0 (
 some (.next,[x0,(.int .i64 10)],H39)) (
 some (.exit i40,[x0,(.int .i64 10)],H39))))
 (some (.ret,[(l38.headD undef)],H39))))
 (fun i27=>zav i27 1 (
 some (.next,[x0,(.int .i64 10)],H26)) (
 zav i27 0 (
 some (.next,[x0,(.int .i64 10)],H26)) (
 some (.exit i27,[x0,(.int .i64 10)],H26))))
 (some (.ret,[(l25.headD undef)],H26)))
 (some (.next,[x0,(.int .i64 10)],H9)))
 (some (.ret,[(.tuple #[(.int .u64 0),(.iface T.strconv_Error (.int .i64 3))])],H9))))
 (fun i10=>zav i10 0 (
 some (.next,[x0,x1],H9)) (
 some (.exit i10,[x0,x1],H9)))
 (some (.ret,[(l8.headD undef)],H9))) fun q54 l55 H56=>zaE q54
 (zat (
 pBin PP .eql T.int x2 (.int .i64 0) fun v58=>
 zaa v58 fun b59=>br b59
 (some (.next,[(.int .i64 64)],H56))
 (pBin PP .lss T.int x2 (.int .i64 0) fun v60=>
 zaa v60 fun b61=>br b61
 (some (.ret,[(.tuple #[(.int .u64 0),(.iface T.strconv_Error (.int .i64 4))])],H56))
 (pBin PP .gtr T.int x2 (.int .i64 64) fun v62=>
 zaa v62 fun b63=>br b63
 (some (.ret,[(.tuple #[(.int .u64 0),(.iface T.strconv_Error (.int .i64 4))])],H56))
 (some (.next,[x2],H56))))) fun q64 l65 H66=>zaE q64
 (zat (
 pBin PP .eql T.int (l55.getD 1 undef) (.int .i64 10) fun v68=>
 zaa v68 fun b69=>br b69
 (some (.next,[(.int .u64 1844674407370955162)],H66))
 (pBin PP .eql T.int (l55.getD 1 undef) (.int .i64 16) fun v70=>
 zaa v70 fun b71=>br b71
 (some (.next,[(.int .u64 1152921504606846976)],H66))
 (zaq .u64 (l55.getD 1 undef) fun v72=>
 pBin PP .quo T.uint64 (.int .u64 18446744073709551615) v72 fun v73=>
 pBin PP .add T.uint64 v73 (.int .u64 1) fun v74=>
 some (.next,[v74],H66)))) fun q75 l76 H77=>zaE q75
 (zaq .u64 (l65.getD 0 undef) fun v79=>
 pBin PP .shl T.uint64 (.int .u64 1) v79 fun v80=>
 pBin PP .sub T.uint64 v80 (.int .u64 1) fun v81=>
 zdO (l55.getD 0 undef) H77 fun v82 H83=>
 pLen .sl v82 H83 fun v84=>
 zat (zas (zaR R v3 v81 v82 v84 l55 l76) [(.bool false),(.int .u64 0),(.int .i64 0)] H83) fun q146 l147 H148=>zaE q146 none
 (fun i149=>zav i149 3 (
 zaa (l147.getD 0 undef) fun b150=>br b150
 (zag R F.a94 [x0] H148 fun r151 H152=>
 pUn .not r151 fun v153=>
 zaa v153 fun b154=>br b154
 (some ((.tuple #[(.int .u64 0),(.iface T.strconv_Error (.int .i64 2))]),H152))
 (some ((.tuple #[(l147.getD 1 undef),.nilIface]),H152)))
 (some ((.tuple #[(l147.getD 1 undef),.nilIface]),H148))) (
 none))
 (some ((l147.headD undef),H148)))
 (fun i78=>none)
 (some ((l76.headD undef),H77)))
 (fun i67=>none)
 (some ((l65.headD undef),H66)))
 (fun i57=>none)
 (some ((l55.headD undef),H56))):=by kernel_rfl
end Go.AM
namespace Go.AM
open Go
def HS (P:Program) (F:Nat→Option AObj):Hp:=⟨P.globals.size,fun i=>if i<P.globals.size then F i else none,fun _=>none⟩
def isInt:Value→Bool
 |.int _ _=>true
 |_=>false
theorem isInt_rel {β:Bt} {v:Value} (h:isInt v=true):VRel β v v:=by
 unfold isInt at h;split at h
 ·exact .int _ _
 ·cases h
theorem relStart {P:Program} {W:World} (h:P.globals.size≤W.heap.size) {F:Nat→Option AObj}
  (hF:∀ i o,F i=some o→(∃ q,o=.fix q∧W.heap[i]?=some q)∨(∃ cs,o=.cells cs false∧∀ (j:Nat) v,cs[j]?=some v→isInt v=true∧W.cell? ⟨i,j,none⟩=some v)) :
  Rel P W (HS P F) (B00 P)∧(∀ i o,(HS P F).get i=some o→o.own=false):=by
 have key:∀ i o,(HS P F).get i=some o→i<P.globals.size∧F i=some o:=fun i o hi=>by
  have hi:(if i<P.globals.size then F i else none)=some o:=hi;split at hi
  ·exact⟨by assumption,hi⟩
  ·cases hi
 have hno:∀ i o,(HS P F).get i=some o→o.own=false:=fun i o hi=>by rcases hF i o (key i o hi).2 with⟨q,rfl,_⟩|⟨cs,rfl,_⟩<;>rfl
 refine⟨⟨fun i cs own hi=>?_,fun i kv hi=>?_,fun i j o o' x y _ hi _ ho=>?_,fun i hi=>⟨?_,by unfold B00;rw[if_neg (by have:P.globals.size≤i:=hi;omega)]⟩,
  fun i x hx=>(by unfold B00 at hx;split at hx<;>cases hx;show i<_;omega),fun g hg=>⟨0,by unfold B00;rw[if_pos hg]⟩,fun i o hi=>?_,fun i T hi=>(by cases hi)⟩,hno⟩
 ·obtain⟨h1,h2⟩:=key i _ hi;rcases hF i _ h2 with⟨q,e,_⟩|⟨cs',e,hc⟩
  ·cases e
  ·cases e;refine⟨⟨i,0,0⟩,by unfold B00;rw[if_pos h1],fun j v hv=>?_,fun q=>by cases q⟩;obtain⟨c1,c2⟩:=hc j v hv;exact⟨v,by rw[Nat.zero_add];exact c2,isInt_rel c1⟩
 ·obtain⟨h1,h2⟩:=key i _ hi;rcases hF i _ h2 with⟨q,e,_⟩|⟨cs',e,hc⟩<;>cases e
 ·rw[hno i o hi] at ho;cases ho
 ·show (if i<P.globals.size then F i else none)=none;have:P.globals.size≤i:=hi;rw[if_neg (by omega)]
 ·obtain⟨h1,h2⟩:=key i _ hi;rcases hF i _ h2 with⟨q,e,hq⟩|⟨cs',e,hc⟩
  ·cases e;exact⟨⟨i,0,0⟩,by unfold B00;rw[if_pos h1],rfl,hq⟩
  ·cases e
end Go.AM
