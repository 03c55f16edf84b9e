/- Part of the proof of SimpOnceUptoCardSaid: see the last file.  -/
import Derived.Laws.StructEq
import Derived.Laws.Append
import Derived.Laws.IdiomStrings
import Derived.Laws.BytesArg
import Derived.Laws.Sem
import Derived.Orders
import Derived.Recover
import Derived.WalkKit
import Derived.ProofKit
import Derived.JoinedCond
import Derived.OpenShut
import Derived.Test.YthcjfegfieoaiaaGreatDoorT0
set_option linter.unusedSimpArgs false
set_option linter.unusedVariables false
set_option linter.unusedSectionVars false
set_option linter.constructorNameAsVariable false
set_option maxRecDepth 100000
namespace Go.AM
open List Go
theorem zkz{P:Program}{w:World}{op:BinOp}{k:IntKind}{x y:Int}{v:Value}(h:bvOp op k x y=some v):(Op.intBits op k x y).run P w=.ok v w:=by unfold bvOp at h;cases op<;>first | (cases h;rfl) | (cases h;done)
theorem intOp_ok{P:Program}{w:World}{op:BinOp}{T:TypeId}{k:IntKind}{x y:Int}{v:Value}(h:zeb op k x y=some v):(binOp op T (.int k x) (.int k y)).run P w=.ok v w:=by
 unfold zeb at h;cases op<;>simp only at h
 case quo=>
  split at h
  ·cases h
  ·rename_i h0;cases h;simp[binOp,Op.intDiv,h0]
 case rem=>
  split at h
  ·cases h
  ·rename_i h0;cases h;simp[binOp,Op.intDiv,h0]
 case and=>simp only[binOp,ne_eq,not_true_eq_false,if_false];exact zkz h
 case or=>simp only[binOp,ne_eq,not_true_eq_false,if_false];exact zkz h
 case xor=>simp only[binOp,ne_eq,not_true_eq_false,if_false];exact zkz h
 case andNot=>simp only[binOp,ne_eq,not_true_eq_false,if_false];exact zkz h
 case shl=>cases h
 case shr=>cases h
 all_goals (cases h;simp[binOp,Op.intArith,Op.intCmp])
theorem shOp_ok{P:Program}{w:World}{op:BinOp}{T:TypeId}{k k':IntKind}{x y:Int}{v:Value}(h:shOp op k x y=some v)(ho:op=.shl∨op=.shr) :
  (binOp op T (.int k x) (.int k' y)).run P w=.ok v w:=by
 unfold shOp at h;split at h
 ·cases h
 ·rename_i h0;rcases ho with rfl|rfl<;>(cases h;simp[binOp,Op.shift,h0])
theorem strOp_ok{P:Program}{w:World}{op:BinOp}{T:TypeId}{x y:ByteArray}{v:Value}(h:zol op x y=some v):(binOp op T (.string x) (.string y)).run P w=.ok v w:=by
 unfold zol at h;cases op<;>simp only at h
 case add=>
  split at h
  ·cases h
  ·rename_i h0;cases h;simp only[binOp,Op.stringOp];rw[if_neg h0];rfl
 all_goals first | (cases h;simp[binOp,Op.stringOp];done)|cases h
theorem zi0{P:Program}{w:World}{β:Bt}{t:TypeId}{cs cs':List Value}{off:Nat}{v:Value}(hl:LRel β cs cs')(h:znk P t cs off=some v) :
  ∃v',(part t cs'.toArray off).run P w=.ok v' w∧VRel β v v':=by
 unfold znk at h;split at h
 ·rename_i i d hi hd;simp only[part,Sem.run_bind,zm4 w hd,Result.andThen_ok];cases ha:aggD d with
  |true=>
   rw[ha]at h;cases h;refine⟨.agg (cs'.toArray.extract off (off+i.size)),?_,?_⟩
   ·simp only[if_true,Sem.run_bind,za0 w hi,Result.andThen_ok,Sem.run_pure]
   ·refine zcu.2 ⟨_,rfl,?_⟩;have:=(hl.drop off).take i.size;simpa[extract_eq_take_drop] using this
  |false=>
   rw[ha]at h;obtain⟨v',hv',hr⟩:=hl.get h;have:cs'.toArray[off]?=some v':=by simpa using hv'
   exact⟨v',by simp only[Bool.false_eq_true,if_false,this,Sem.run_pure],hr⟩
 ·cases h
section
variable {α:Type}{C:Ctx}{N:Nat}{w:World}{S:St}{β:Bt}{lam:Nat→Nat}{fr:Fr}{a:Act}{o:Oper}{k:Slot→St→Option α}{r:α}
theorem zpR{P:Program}{w:World}{β:Bt}{t:TypeId}{i:TypeInfo}{d:TypeDesc}(hi:P.info? t=some i)(hd:P.underlying t=some d){cs:Array Value}{cs':Array Value}{off:Nat}{v:Value}
  (hl:LRel β cs.toList cs'.toList) (h:partC (aggD d) i.size cs.toList off=some v):∃v',(part t cs' off).run P w=.ok v' w∧VRel β v v':=by
 have h2:znk P t cs.toList off=some v:=by unfold znk;rw[hi,hd];unfold partC at h;exact h
 obtain⟨v',hr,hv⟩:=zi0 (w:=w) hl h2;exact⟨v',by simpa using hr,hv⟩
theorem sim_unOp{op:UnOp}{T:TypeId}{x:Operand}(ho:o.op=.unOp op T x)(h:opC C fr S o k=some r)(hR:Rel C.P w S.hp β)(hF:FRel N w S.bx β lam fr a):Step C.P N w S β lam fr a o k r:=by
 simp only[opC,ho]at h;obtain⟨v,hv,h⟩:=za7 hR hF h;unfold pUn at h;split at h
 ·rename_i u hu;generalize hq:a.eval x=q at hv;have key:(Op.unary op q).run C.P w=.ok u w∧VRel β u u:=by
   unfold unV at hu;split at hu
   ·cases hv;cases hu;exact⟨by simp[Op.unary,Op.intArith],.int _ _⟩
   ·cases hv;refine⟨by simp only[Op.unary];exact zkz hu,?_⟩;unfold bvOp at hu;simp at hu;subst hu;exact .int _ _
   ·cases hv;cases hu;exact⟨by simp[Op.unary],.bool _⟩
   ·cases hu
  refine Step.val hR hF h (v':=u) ?_ key.2;simp only[execOp,ho,hq,Sem.run_bind,key.1,Result.andThen_ok,Sem.run_pure]
 ·cases h
theorem zmY{fn:Fn}{first captured:Array Operand}(ho:o.op=.makeFunc fn first captured)(h:opC C fr S o k=some r)(hR:Rel C.P w S.hp β)(hF:FRel N w S.bx β lam fr a):Step C.P N w S β lam fr a o k r:=by
 simp only[opC,ho]at h;obtain⟨fs,hfs,h⟩:=zfV hR hF _ h;obtain⟨cs,hcs,h⟩:=zfV hR hF _ h;refine Step.val hR hF h (v':=.func fn (first.map a.eval) (captured.map a.eval)) ?_ ?_
 ·simp only[execOp,ho,Instr.makeFunc,Sem.run_bind,Sem.run_pure,Result.andThen_ok]
 ·obtain⟨first⟩:=first;obtain⟨captured⟩:=captured;have:=VRel.func (β:=β) fn fs (first.map a.eval) cs (captured.map a.eval) hfs.1 hfs.2 hcs.1 hcs.2;simpa[SRel] using this
theorem zon{T:TypeId}(ho:o.op=.makeMap T none)(hN:N≤w.heap.size)(h:opC C fr S o k=some r)(hR:Rel C.P w S.hp β)(hF:FRel N w S.bx β lam fr a):Step C.P N w S β lam fr a o k r:=by simp only[opC,ho,zcG]at h;obtain⟨g1,g2⟩:=hR.new_map;refine Step.heap hN hR hF h (v':=.map (some w.heap.size)) (.inl ?_) g1 g2 (.map _ _ (Bt.set_same _ _ _));simp only[execOp,ho,Instr.makeMap,Option.map_none];simp
theorem zoo{t:Operand}{i:Nat}(ho:o.op=.extract t i)(h:opC C fr S o k=some r)(hR:Rel C.P w S.hp β)(hF:FRel N w S.bx β lam fr a):Step C.P N w S β lam fr a o k r:=by
 simp only[opC,ho]at h;obtain⟨v,hv,h⟩:=za7 hR hF h;unfold zaa at h;split at h
 ·rename_i u hu;unfold zmB at hu;split at hu
  ·obtain⟨cs',hq,hl⟩:=zb2.1 hv;obtain⟨u',hu',hr⟩:=hl.get hu;refine Step.val hR hF h (v':=u') ?_ hr;have hu2:cs'[i]?=some u':=by simpa using hu'
   simp only[execOp,ho,hq,Instr.extract,hu2,Sem.run_bind,Sem.run_pure,Result.andThen_ok]
  ·cases hu
 ·cases h
theorem sim_field{T:TypeId}{x:Operand}{f:Nat}(ho:o.op=.field T x f)(h:opC C fr S o k=some r)(hR:Rel C.P w S.hp β)(hF:FRel N w S.bx β lam fr a):Step C.P N w S β lam fr a o k r:=by
 simp only[opC,ho]at h;obtain⟨v,hv,h⟩:=za7 hR hF h;split at h
 ·rename_i fs hu;split at h
  ·rename_i fd hfd;obtain⟨i,d,hi,hd,h⟩:=zhA h;have hfd':fs[f]?=some fd:=by simpa using hfd
   unfold zd9 at h;split at h
   ·obtain⟨cs',hq,hl⟩:=zcu.1 hv;split at h
    ·rename_i u hpc;obtain⟨u',hr,hv'⟩:=zpR (w:=w) hi hd hl hpc;refine Step.val hR hF h (v':=u') ?_ hv';simp only[execOp,ho,hq,Instr.field,Sem.run_bind,zaz w hu,Result.andThen_ok,hfd',asAgg,Sem.run_pure,hr]
    ·cases h
   ·cases h
  ·cases h
 ·cases h
theorem atStr_ok{s:ByteArray}{j:Int}{v:Value}(h:zq9 s j=some v):∃b:UInt8,(if 0≤j then s[j.toNat]? else none)=some b∧v=.int .u8 (b.toNat:Int):=by
 unfold zq9 at h;split at h
 ·rename_i hj;cases hb:s[j.toNat]? with
  |none=>rw[hb]at h;cases h
  |some b=>rw[hb]at h;cases h;exact⟨b,by rw[if_pos hj],rfl⟩
 ·cases h
theorem sim_index{T:TypeId}{x i:Operand}(ho:o.op=.index T x i)(h:opC C fr S o k=some r)(hR:Rel C.P w S.hp β)(hF:FRel N w S.bx β lam fr a):Step C.P N w S β lam fr a o k r:=by
 simp only[opC,ho]at h;obtain⟨v,hv,h⟩:=za7 hR hF h;obtain⟨ix,hix,h⟩:=za7 hR hF h;generalize hqi:a.eval i=qi at hix;split at h
 ·rename_i hu;unfold zbg at h;split at h
  ·rename_i s kd j;split at h
   ·rename_i u hat;obtain⟨b,hb,rfl⟩:=atStr_ok hat;generalize hq:a.eval x=q at hv;cases hv;cases hix;refine Step.val hR hF h (v':=.int .u8 (b.toNat:Int)) ?_ (.int _ _);simp only[execOp,ho,hq,hqi,Instr.index,asIntOf,Sem.run_bind,Sem.run_pure,zaz w hu,Result.andThen_ok,hb]
   ·cases h
  ·cases h
 ·rename_i len e hu;obtain⟨ti,d,hi,hd,h⟩:=zhA h;unfold zen at h;split at h
  ·rename_i kd j;split at h
   ·rename_i hj;unfold zd9 at h;split at h
    ·obtain⟨cs',hq,hl⟩:=zcu.1 hv;split at h
     ·rename_i u hpc;obtain⟨u',hr,hv'⟩:=zpR (w:=w) hi hd hl hpc;cases hix;refine Step.val hR hF h (v':=u') ?_ hv';simp only[execOp,ho,hq,hqi,Instr.index,asIntOf,Sem.run_bind,Sem.run_pure,zaz w hu,Result.andThen_ok,hj,and_self,if_true,za0 w hi,hr]
     ·cases h
    ·cases h
   ·cases h
  ·cases h
 ·cases h
theorem zlY{T:TypeId}{x i:Operand}(ho:o.op=.indexAddr T x i)(h:opC C fr S o k=some r)(hR:Rel C.P w S.hp β)(hF:FRel N w S.bx β lam fr a):Step C.P N w S β lam fr a o k r:=by
 simp only[opC,ho]at h;obtain⟨ix,hix,h⟩:=za7 hR hF h;generalize hqi:a.eval i=qi at hix;split at h
 ·rename_i e hu;split at h
  ·rename_i ti hi;obtain⟨v,hv,h⟩:=za7 hR hF h;unfold pIdx at h;split at h
   ·rename_i u hiv;unfold idxV at hiv;split at hiv
    ·rename_i i0 off z n c kd j;split at hiv
     ·rename_i hc;obtain⟨rfl,hj0,hjn⟩:=hc;cases hiv;generalize hq:a.eval x=q at hv;cases hv with
      |slice _ _ _ _ _ y o' c' hy hn hcc ht hoo=>
      cases hix;have ho':o'=y.s+off:=hoo (by omega);subst ho';refine Step.val hR hF h (v':=.pointer (some ⟨y.b,y.s+(off+j.toNat*ti.size),none⟩)) ?_ (.ptr _ _ y hy);simp only[execOp,ho,hq,hqi,Instr.indexAt,asIntOf,Sem.run_bind,Sem.run_pure,zaz w hu,Result.andThen_ok,hj0,hjn,and_self,if_true,za0 w hi,zdk,Nat.add_assoc]
     ·cases hiv
    ·cases hiv
   ·cases h
  ·cases h
 ·rename_i len e hu;split at h
  ·rename_i ti hi;have hx:=zeE hR hF x;split at h
   ·rename_i d off he;rw[he]at hx;obtain⟨hx0,hx⟩:=hx;unfold zb9 at h;split at h
    ·rename_i kd j;split at h
     ·rename_i hj;cases hix;refine Step.val hR hF h (v':=.pointer (some ⟨lam d,off+j.toNat*ti.size,none⟩)) ?_ ⟨hx0,rfl⟩;simp only[execOp,ho,hx,hqi,Instr.indexAt,Instr.sureAddr,asIntOf,Sem.run_bind,Sem.run_pure,zaz w hu,Result.andThen_ok,hj,and_self,if_true,za0 w hi,zdk]
     ·cases h
    ·cases h
   ·rename_i p he;rw[he]at hx;have hx:VRel β p (a.eval x):=hx;unfold zbH at h;split at h
    ·rename_i i0 off kd j _;split at h
     ·rename_i hj;generalize hq:a.eval x=q at hx;cases hx with
      |ptr _ _ y hy=>
      cases hix;refine Step.val hR hF h (v':=.pointer (some ⟨y.b,y.s+(off+j.toNat*ti.size),none⟩)) ?_ (.ptr _ _ y hy);simp only[execOp,ho,hq,hqi,Instr.indexAt,Instr.sureAddr,asIntOf,Sem.run_bind,Sem.run_pure,zaz w hu,Result.andThen_ok,hj,and_self,if_true,za0 w hi,zdk,Nat.add_assoc]
     ·cases h
    ·cases h
   ·cases h
  ·cases h
 ·cases h
end
end Go.AM
namespace Go.AM
open Go
theorem zgN{P:Program}{β:Bt}{d:Nat}{c:TypeId→Value→Value→Option Bool}
  (hc:∀t x y b x' y' (w:World),c t x y=some b→VRel β x x'→VRel β y y'→(Op.equalIn d t x' y').run P w=.ok b w)
  {xs ys xs' ys':List Value} (hx:LRel β xs xs') (hy:LRel β ys ys') (w:World):∀(fs:List Field) (b:Bool),eqFields P c xs ys fs=some b →
  (Op.eqFields d xs'.toArray ys'.toArray fs).run P w=.ok b w
 |[],b,h=>by cases h;simp[Op.eqFields]
 |f::fs,b,h=>by
  unfold eqFields at h;unfold Op.eqFields;split at h
  ·rename_i hn;have:f.name = "_" := by simpa using hn
   rw[if_neg (by simp[this])];exact zgN hc hx hy w fs b h
  ·rename_i hn;have hn:f.name ≠ "_" := by simpa using hn
   rw[if_pos hn];split at h
   ·rename_i x y hpx hpy;obtain⟨x',h1,r1⟩:=zi0 (w:=w) hx hpx;obtain⟨y',h2,r2⟩:=zi0 (w:=w) hy hpy;split at h
    ·rename_i he;have h3:=hc _ _ _ _ _ _ w he r1 r2;simp only[Sem.run_bind,h1,h2,h3,Result.andThen_ok,Bool.not_true,Bool.false_eq_true,if_false];exact zgN hc hx hy w fs b h
    ·rename_i he;have h3:=hc _ _ _ _ _ _ w h r1 r2;cases b with
     |true=>exact(he h).elim
     |false=>simp only[Sem.run_bind,h1,h2,h3,Result.andThen_ok,Bool.not_false,if_true,Sem.run_pure]
   ·cases h
theorem zkq{P:Program}{β:Bt}:∀(d:Nat) (t:TypeId) (x y:Value) (b:Bool) (x' y':Value) (w:World),eqT P d t x y=some b→VRel β x x'→VRel β y y' →
  (Op.equalIn d t x' y').run P w=.ok b w
 |0,t,x,y,b,x',y',w,h,_,_=>by cases h
 |d+1,t,x,y,b,x',y',w,h,hx,hy=>by
  unfold eqT at h;split at h
  case h_1 hu=>cases hx;cases hy;cases h;simp[Op.equalIn,run_underlying hu]
  case h_2 hu=>
   cases hx;cases hy;split at h
   ·rename_i hk;cases h;simp[Op.equalIn,run_underlying hu,hk]
   ·cases h
  case h_3 hu=>cases hx;cases hy;cases h;simp[Op.equalIn,run_underlying hu]
  case h_4 hu=>cases hx;cases h;cases hy<;>simp[Op.equalIn,run_underlying hu]
  case h_5 hu=>cases hy;cases h;cases hx<;>first | (simp[Op.equalIn,run_underlying hu];done) | (exfalso;simp_all;done)
  case h_6 hu=>cases hx;cases h;cases hy<;>simp[Op.equalIn,run_underlying hu]
  case h_7 hu=>cases hy;cases h;cases hx<;>first | (simp[Op.equalIn,run_underlying hu];done) | (exfalso;simp_all;done)
  case h_8 hu=>cases hx;cases h;cases hy<;>simp[Op.equalIn,run_underlying hu]
  case h_9 hu=>cases hy;cases h;cases hx<;>first | (simp[Op.equalIn,run_underlying hu];done) | (exfalso;simp_all;done)
  case h_10 hu=>cases hx;cases hy;cases h;simp[Op.equalIn,run_underlying hu]
  case h_11 hu=>cases hx;cases hy;cases h;simp[Op.equalIn,run_underlying hu]
  case h_12 hu=>cases hx;cases hy;cases h;simp[Op.equalIn,run_underlying hu]
  case h_13 fields xs ys hu=>
   obtain⟨xs',rfl,hxl⟩:=zcu.1 hx;obtain⟨ys',rfl,hyl⟩:=zcu.1 hy;split at h
   ·cases h
   ·rename_i hst;have hf:P.fieldsOf t=fields:=by simp[Program.fieldsOf,hu]
    rw[run_equalIn_struct w d t xs' ys' (by rw[hf];exact hu) hst,hf];have:=zgN (fun t x y b x' y' w h1 h2 h3=>zkq d t x y b x' y' w h1 h2 h3) hxl hyl w fields.toList b h;simpa using this
  case h_14=>cases h
section
variable {α:Type}{C:Ctx}{N:Nat}{w:World}{S:St}{β:Bt}{lam:Nat→Nat}{fr:Fr}{a:Act}{o:Oper}{k:Slot→St→Option α}{r:α}
theorem eqOp_ok{P:Program}{w:World}{T:TypeId}{X Y:Operand}{op:BinOp}{x y x' y':Value}{b:Bool}(h:eqOp P T x y=some b)(hx:VRel β x x')(hy:VRel β y y') :
  (eqGuard op T X Y x' y').run P w=.ok () w∧(Op.equal T x' y').run P w=.ok b w:=by
 unfold eqOp at h;split at h
 ·split at h
  ·cases h
  ·rename_i hg;have:=zkq Op.maxDepth T _ _ b x' y' w h hx hy;obtain⟨xs',rfl,_⟩:=zcu.1 hx;obtain⟨ys',rfl,_⟩:=zcu.1 hy;exact⟨run_eqGuard_agg w op T X Y xs' ys' hg,this⟩
 ·cases h
 ·rename_i tx vx ty vy;cases hx with
  |iface _ _ u hu=>
  cases hy with
  |iface _ _ u2 hu2=>
  split at h
  ·rename_i ms hms;refine⟨by cases op<;>rfl,?_⟩;have e2:Op.maxDepth=(Op.maxDepth-1)+1:=rfl;unfold Op.equal;rw[e2];split at h
   ·rename_i hb;cases h;have hne:tx≠ty:=Nat.ne_of_beq_eq_false hb;simp[Op.equalIn,run_underlying hms,hne]
   ·rename_i hb;have he:tx=ty:=Nat.eq_of_beq_eq_true hb;subst he;split at h
    ·rename_i i hi;split at h
     ·rename_i hcmp;have:=zkq (Op.maxDepth-1) tx _ _ b u u2 w h hu hu2;generalize Op.maxDepth-1=dd at this;simp[Op.equalIn,run_underlying hms,typeInfo,hi,hcmp,this]
     ·cases h
    ·cases h
  ·cases h
 all_goals first
  |(have:=zkq Op.maxDepth T _ _ b x' y' w h hx hy;refine⟨?_,this⟩;cases hx<;>(cases op<;>rfl))
  |cases h
theorem zhn{P:Program}{T:TypeId}{ms:Array (String×TypeId)}(hms:P.underlying T=some (.interface ms))(w:World)(q:Value)(b:Bool)(h:(q=.nilIface∧b=true)∨∃t u,q=.iface t u∧b=false):(Op.equal T q .nilIface).run P w=.ok b w:=by
 have e:∀d,(Op.equalIn (d+1) T q .nilIface).run P w=.ok b w:=fun d=>by rcases h with⟨rfl,rfl⟩|⟨t,u,rfl,rfl⟩<;>simp[Op.equalIn,run_underlying hms]
 have e2:Op.maxDepth=(Op.maxDepth-1)+1:=rfl;unfold Op.equal;rw[e2];exact e _
theorem sim_nilEq{op:BinOp}{T T':TypeId}{x y:Operand}{u:Value}(ho:o.op=.binOp op T x y T')(hyc:y=.const .nilIface)(h:(zle C.P op T u fun v=>k (.val v) S)=some r)(hR:Rel C.P w S.hp β)(hF:FRel N w S.bx β lam fr a)(hu:VRel β u (a.eval x)):Step C.P N w S β lam fr a o k r:=by
 unfold zle at h;split at h
 ·rename_i ms hms;generalize hqx:a.eval x=qx at hu;have hqy:a.eval y=.nilIface:=by rw[hyc];rfl
  have fin:∀(b:Bool),(binOp op T qx .nilIface:Sem Value).run C.P w=.ok (.bool b) w→(eqGuard op T x y qx .nilIface).run C.P w=.ok () w→(execOp a.eval o).run C.P w=.ok (.value (.bool b)) w:=fun b h1 h2=>by
   have hrun:(execOp a.eval o)=(do let v ←(do eqGuard op T x y qx .nilIface;binOp op T qx .nilIface);pure (.value v):Sem Next):=by simp only[execOp,ho,hqx,hqy]
   rw[hrun];simp only[Sem.run_bind,h2,Result.andThen_ok,h1];rfl
  subst hyc;split at h
  ·cases hu;refine Step.val hR hF h (v':=.bool true) (fin true ?_ (by cases x<;>rfl)) (.bool _);show ((Op.equal T .nilIface .nilIface) >>= fun b=>pure (.bool b):Sem Value).run C.P w=_;rw[Sem.run_bind,zhn hms w _ true (.inl ⟨rfl,rfl⟩)];rfl
  ·cases hu;refine Step.val hR hF h (v':=.bool false) (fin false ?_ (by cases x<;>rfl)) (.bool _);show ((Op.equal T _ .nilIface) >>= fun b=>pure (.bool b):Sem Value).run C.P w=_;rw[Sem.run_bind,zhn hms w _ false (.inr ⟨_,_,rfl,rfl⟩)];rfl
  ·cases hu;refine Step.val hR hF h (v':=.bool false) (fin false ?_ (by cases x<;>rfl)) (.bool _);show ((Op.equal T .nilIface .nilIface) >>= fun b=>pure (.bool !b):Sem Value).run C.P w=_;rw[Sem.run_bind,zhn hms w _ true (.inl ⟨rfl,rfl⟩)];rfl
  ·cases hu;refine Step.val hR hF h (v':=.bool true) (fin true ?_ (by cases x<;>rfl)) (.bool _);show ((Op.equal T _ .nilIface) >>= fun b=>pure (.bool !b):Sem Value).run C.P w=_;rw[Sem.run_bind,zhn hms w _ false (.inr ⟨_,_,rfl,rfl⟩)];rfl
  ·cases h
 ·cases h
theorem sim_binOp{op:BinOp}{T T':TypeId}{x y:Operand}(ho:o.op=.binOp op T x y T')(h:opC C fr S o k=some r)(hR:Rel C.P w S.hp β)(hF:FRel N w S.bx β lam fr a):Step C.P N w S β lam fr a o k r:=by
 simp only[opC,ho]at h;obtain⟨u,hu,h⟩:=za7 hR hF h;obtain⟨v,hv,h⟩:=za7 hR hF h;split at h
 ·rename_i hni;have hyc:y=.const .nilIface:=by
   unfold zp7 at hni;split at hni
   ·rfl
   ·cases hni
  exact sim_nilEq ho hyc h hR hF hu
 unfold pBin at h;split at h
 ·rename_i z hz;generalize hqx:a.eval x=qx at hu;generalize hqy:a.eval y=qy at hv;have key:((do eqGuard op T x y qx qy;binOp op T qx qy:Sem Value)).run C.P w=.ok z w∧VRel β z z:=by
   unfold binV at hz;split at hz
   ·rename_i k1 n1 k2 n2;cases hu;cases hv;have hg:(eqGuard op T x y (.int k1 n1) (.int k2 n2)).run C.P w=.ok () w:=by cases op<;>rfl
    simp only[Sem.run_bind,hg,Result.andThen_ok];split at hz
    ·exact⟨shOp_ok hz (.inl rfl),by unfold shOp at hz;split at hz<;>cases hz;exact .int _ _⟩
    ·exact⟨shOp_ok hz (.inr rfl),by unfold shOp at hz;split at hz<;>cases hz;exact .int _ _⟩
    ·split at hz
     ·rename_i hk;subst hk;refine⟨intOp_ok hz,?_⟩;unfold zeb at hz;cases op<;>simp only[bvOp]at hz<;>(try split at hz)<;>cases hz<;>first|exact .int _ _|exact .bool _
     ·cases hz
   ·rename_i s1 s2;cases hu;cases hv;have hg:(eqGuard op T x y (.string s1) (.string s2)).run C.P w=.ok () w:=by cases op<;>rfl
    simp only[Sem.run_bind,hg,Result.andThen_ok];refine⟨strOp_ok hz,?_⟩;unfold zol at hz;cases op<;>simp only at hz<;>(try split at hz)<;>cases hz<;>first|exact .string _|exact .bool _
   ·rename_i hn1 hn2;split at hz
    ·split at hz
     ·rename_i b he;cases hz;obtain⟨hg,hq⟩:=eqOp_ok (w:=w) (X:=x) (Y:=y) (op:=.eql) he hu hv;refine⟨?_,.bool b⟩;simp only[Sem.run_bind,hg,Result.andThen_ok];unfold eqOp at he;split at he<;>(try cases he)<;>cases hu<;>cases hv<;>simp[binOp,hq]
     ·cases hz
    ·split at hz
     ·rename_i b he;cases hz;obtain⟨hg,hq⟩:=eqOp_ok (w:=w) (X:=x) (Y:=y) (op:=.neq) he hu hv;refine⟨?_,.bool _⟩;simp only[Sem.run_bind,hg,Result.andThen_ok];unfold eqOp at he;split at he<;>(try cases he)<;>cases hu<;>cases hv<;>simp[binOp,hq]
     ·cases hz
    ·cases hz
  refine Step.val hR hF h (v':=z) ?_ key.2;have hrun:(execOp a.eval o)=(do let v ←(do eqGuard op T x y qx qy;binOp op T qx qy);pure (.value v):Sem Next):=by simp only[execOp,ho,hqx,hqy]
  rw[hrun];simp only[Sem.run_bind]at key ⊢;rw[key.1];rfl
 ·cases h
end
end Go.AM
namespace Go.AM
open List Go
theorem zfZ{α:Type}{P:Program}{t:TypeId}{k:Nat→Nat→List Value→Option α}{r:α}(h:zg1 P t k=some r) :
  ∃e i z,P.underlying t=some (.slice e)∧P.info? e=some i∧i.zero=some z∧i.size≠0∧i.bytes≠0∧(zad z).length=i.size∧(zad z).all one=true∧zc6 z=true∧k i.size i.bytes (zad z)=some r:=by
 unfold zg1 at h;split at h
 ·rename_i e hu;split at h
  ·cases h
  ·rename_i i hi;obtain⟨i',z,hi',hz,hc,h⟩:=zgV h;rw[hi]at hi';cases hi';split at h
   ·cases h
   ·rename_i hn;simp only[not_or]at hn;refine⟨e,i,z,hu,hi,hz,hn.1,hn.2.1,by have:=hn.2.2.1;omega,by have:=hn.2.2.2;simpa using this,hc,h⟩
 ·cases h
theorem zmS{P:Program}{w:World}{H:Hp}{β:Bt}(hR:Rel P w H β){sz m:Nat}{new:List Value}{x x':Value}(h:zbA sz x H=some (m,new))(hx:VRel β x x') :
  (Builtin.lenOf x').run P w=.ok m w∧new.length=m*sz∧∀n,n≤m→∃l',(Builtin.firstCells sz n x').run P w=.ok (List.toArray l') w∧LRel β (new.take (n*sz)) l':=by
 unfold zbA at h;split at h
 ·cases h;cases hx;refine⟨by simp[Builtin.lenOf],by simp,fun n hn=>⟨[],run_firstCells_none w _ _ _ _,by simpa using LRel.nil β⟩⟩
 ·rename_i i o z n c;split at h
  ·rename_i hz;subst hz;split at h
   ·rename_i cs own hg;split at h
    ·rename_i hl;cases h;cases hx with
     |slice _ _ _ _ _ y o' c' hy hnc hcc ht hoo=>
     obtain⟨y',hy',h1,_⟩:=hR.cells i cs own hg;rw[hy]at hy';cases hy';refine⟨by simp[Builtin.lenOf],by simp;omega,fun n' hn'=>?_⟩;have hle:n'*z≤m*z:=Nat.mul_le_mul_right z hn';have htk:((cs.drop o).take (m*z)).take (n'*z)=(cs.drop o).take (n'*z):=by rw[take_take,Nat.min_eq_left hle]
     rw[htk];by_cases hc0:0<c
     ·have ho':=hoo hc0;subst ho'
      obtain⟨l',hr,hrel⟩:=zcB (P:=P) (w:=w) (b:=y.b) (off:=y.s+o) (β:=β) (l:=(cs.drop o).take (n'*z)) (fun j u hu=>by
       rw[List.getElem?_take]at hu;split at hu
       ·rw[List.getElem?_drop]at hu;rw[show y.s+o+j=y.s+(o+j) by omega];exact h1 _ u hu
       ·cases hu)
      have hlen:((cs.drop o).take (n'*z)).length=n'*z:=by simp;omega
      rw[hlen]at hr;exact⟨l',by simpa[Builtin.firstCells] using hr,hrel⟩
     ·have hm0:m=0:=by omega
      subst hm0;have hn0:n'=0:=by omega
      subst hn0;exact⟨[],by simp[Builtin.firstCells,loadCells,loadCellsFrom],by simpa using LRel.nil β⟩
    ·cases h
   ·cases h
  ·cases h
 ·rename_i s;split at h
  ·rename_i hz;subst hz;cases h;cases hx;refine⟨by simp[Builtin.lenOf],by simp,fun n hn=>⟨(s.data.toList.map fun b=>Value.int .u8 b.toNat).take (n*1),?_,?_⟩⟩
   ·simp only[Builtin.firstCells,Sem.run_pure];congr 1;apply Array.toList_inj.1;simp[extract_eq_take_drop]
   ·refine⟨rfl,fun j v v' hv hv'=>?_⟩;rw[hv]at hv';cases hv';rw[List.getElem?_take]at hv;split at hv
    ·rw[List.getElem?_map]at hv;cases hb:s.data.toList[j]? with
     |none=>rw[hb]at hv;cases hv
     |some b=>rw[hb]at hv;cases hv;exact .int _ _
    ·cases hv
  ·cases h
 ·cases h
theorem Rel.takeover{P:Program}{w w':World}{H:Hp}{β:Bt}(h:Rel P w H β){i:Nat}{cs:List Value}{x:BI}(hi:H.get i=some (.cells cs true))(hx:β i=some x)
  {p:Nat} {vs':List Value} (hp:Put w x.b p vs' w') {o':Nat} {ds:List Value} (hd:o'+ds.length≤x.t)
  (hc:∀(j:Nat) v,ds[j]?=some v→∃v',w'.cell? ⟨x.b,o'+j,none⟩=some v'∧VRel β v v') :
  Rel P w' ((H.set i none).new (.cells ds true)) (β.set H.next ⟨x.b,o',x.t⟩)∧Ext w.heap.size w H β w' ((H.set i none).new (.cells ds true)) (β.set H.next ⟨x.b,o',x.t⟩):=by
 obtain⟨x',hx',h1,h2⟩:=h.cells i cs true hi;rw[hx]at hx';cases hx';obtain⟨⟨arr,e,fz,hh,hsz,hfz⟩,hle⟩:=h2 rfl;obtain⟨arr',hh',hsz',hg⟩:=hp.row arr e fz hh;have hf:=h.fresh H.next (Nat.le_refl _);have hle':=Bt.le_set (x:=⟨x.b,o',x.t⟩) hf.2;have hoth:∀j o y,j≠i→H.get j=some o→β j=some y→w'.heap[y.b]?=w.heap[y.b]?:=fun j o y hji hj hy=>
  hp.other _ (fun e=>h.apart i j _ _ x y (Ne.symm hji) hi hj rfl hx hy e.symm)
 have hget:∀j o,((H.set i none).new (.cells ds true)).get j=some o→(j=H.next∧o=.cells ds true)∨(j≠H.next∧j≠i∧H.get j=some o):=fun j o hj=>by
  rw[Hp.get_new]at hj;split at hj
  ·rename_i e;cases hj;exact .inl ⟨e,rfl⟩
  ·rename_i e;rw[Hp.get_set]at hj;split at hj
   ·cases hj
   ·exact .inr ⟨e,by assumption,hj⟩
 have hset:∀j y,(β.set H.next ⟨x.b,o',x.t⟩) j=some y→(j=H.next∧y=⟨x.b,o',x.t⟩)∨(j≠H.next∧β j=some y):=fun j y hj=>by
  unfold Bt.set at hj;split at hj
  ·rename_i e;cases hj;exact .inl ⟨e,rfl⟩
  ·exact .inr ⟨by assumption,hj⟩
 refine⟨⟨fun j ds' own hj=>?_,fun j kv hj=>?_,fun j k o o2 y z hjk hj hk ho hy hz=>?_,fun j hj=>?_,fun j y hy=>?_,fun g hg=>?_,fun j o hj=>(by
   rcases hget j _ hj with⟨rfl,hq⟩|⟨hn,hji,hj⟩
   ·cases hq
   ·obtain⟨y,hy,h0,h3⟩:=h.fix j o hj
    exact⟨y,hle' j y hy,h0,by rw[hoth j _ y hji hj hy];exact h3⟩),fun j T hj=>((h.tys j T hj).put hp).le hle'⟩,
  ⟨hp.os,hp.tape,hp.output,by rw[hp.size];exact Nat.le_refl _,hle',Nat.le_succ _,fun b hb ho=>?_,fun b=>?_,fun j y hy hn=>?_⟩⟩
 ·rcases hget j _ hj with⟨rfl,hq⟩|⟨hn,hji,hj⟩
  ·cases hq;exact⟨_,Bt.set_same _ _ _,fun k v hk=>by obtain⟨v',q1,q2⟩:=hc k v hk;exact⟨v',q1,q2.mono hle'⟩,fun _=>⟨⟨arr',e,fz,hh',by show arr'.size=x.t;omega,fun q hq=>hfz q hq⟩,hd⟩⟩
  ·obtain⟨y,hy,h3,h4⟩:=h.cells j ds' own hj;have hw:=hoth j _ y hji hj hy;refine⟨y,hle' j y hy,fun k v hk=>?_,fun ho=>⟨(h4 ho).1.congr hw,(h4 ho).2⟩⟩;obtain⟨v',hv',hr⟩:=h3 k v hk;exact⟨v',by rw[zcN hw];exact hv',hr.mono hle'⟩
 ·rcases hget j _ hj with⟨rfl,hq⟩|⟨hn,hji,hj⟩
  ·cases hq
  ·obtain⟨y,hy,es,clock,h3,h4,h5⟩:=h.maps j kv hj;exact⟨y,hle' j y hy,es,clock,by rw[hoth j _ y hji hj hy];exact h3,h4.mono hle',h5⟩
 ·rcases hget j _ hj with⟨rfl,hq⟩|⟨hn,hji,hj⟩
  ·rcases hget k _ hk with⟨rfl,hq2⟩|⟨hn2,hki,hk⟩
   ·exact absurd rfl hjk
   ·rcases hset _ y hy with⟨_,rfl⟩|⟨hh,_⟩
    ·rcases hset k z hz with⟨e,_⟩|⟨_,hz⟩
     ·exact absurd e hn2
     ·exact h.apart i k _ _ x z (Ne.symm hki) hi hk rfl hx hz
    ·exact absurd rfl hh
  ·rcases hset j y hy with⟨e,_⟩|⟨_,hy⟩
   ·exact absurd e hn
   ·rcases hget k _ hk with⟨rfl,hq2⟩|⟨hn2,hki,hk⟩
    ·rcases hset _ z hz with⟨_,rfl⟩|⟨hh,_⟩
     ·exact(h.apart i j _ _ x y (Ne.symm hji) hi hj rfl hx hy).symm
     ·exact absurd rfl hh
    ·rcases hset k z hz with⟨e,_⟩|⟨_,hz⟩
     ·exact absurd e hn2
     ·exact h.apart j k o o2 y z hjk hj hk ho hy hz
 ·have hj:H.next+1≤j:=hj;have:=h.fresh j (by omega);have hjn:¬j=H.next:=by omega
  refine⟨?_,by unfold Bt.set;rw[if_neg hjn];exact this.2⟩;rw[Hp.get_new,if_neg (show ¬j=(H.set i none).next from hjn),Hp.get_set];split
  ·rfl
  ·exact this.1
 ·rw[hp.size];rcases hset j y hy with⟨_,rfl⟩|⟨_,hy⟩
  ·exact h.lt i x hx
  ·exact h.lt j y hy
 ·obtain⟨t,ht⟩:=h.glob g hg;exact⟨t,hle' g _ ht⟩
 ·exact hp.other b (fun e=>by subst e;exact ho ⟨i,_,x,hi,rfl,hx,rfl⟩)
 ·rintro⟨j,o,y,hj,ho,hy,rfl⟩
  rcases hget j _ hj with⟨rfl,hq⟩|⟨hn,hji,hj⟩
  ·rcases hset _ y hy with⟨_,rfl⟩|⟨hh,_⟩
   ·exact .inr ⟨i,_,x,hi,rfl,hx,rfl⟩
   ·exact absurd rfl hh
  ·rcases hset j y hy with⟨e,_⟩|⟨_,hy⟩
   ·exact absurd e hn
   ·exact .inr ⟨j,o,y,hj,ho,hy,rfl⟩
 ·rcases hset j y hy with⟨rfl,rfl⟩|⟨_,hy⟩
  ·exact .inr ⟨i,_,x,hi,rfl,hx,rfl⟩
  ·rw[hn]at hy;cases hy
theorem zgf(zs:Array Value)(n:Nat):(Builtin.zeroCells zs n).size=n*zs.size:=by simp[Builtin.zeroCells]
theorem zh4(need old:Nat)(e:TypeId)(t:Nat):∃c,Question.cut (.appendCap need old e) t=need+c:=⟨_,rfl⟩
section
variable {P:Program}{w:World}{t u ty e:TypeId}{i:TypeInfo}{z:Value}{du:TypeDesc}{base:Option Addr}{n c m:Nat}{x':Value}
theorem zde(hu:P.underlying t=some (.slice e))(hi:P.info? e=some i)(hdu:P.underlying u=some du)(hdu':(∃q,du=.slice q)∨du=.string)(hlen:(Builtin.lenOf x').run P w=.ok m w)
  {l':List Value} (hfr:(Builtin.firstCells i.size m x').run P w=.ok l'.toArray w) (hc:n+m≤c) {w':World}
  (hst:((match base with|some a=>storeCells (a.add (n*i.size)) l'|none=>pure ():Sem Unit)).run P w=.ok () w') :
  (Builtin.append_ #[t,u] ty #[.slice base n c,x']).run P w=.ok (.slice base (n+m) c) w':=by
 unfold Builtin.append_;rcases hdu' with⟨q,rfl⟩|rfl <;>
  (simp only[List.getElem?_toArray,List.getElem?_cons_succ,List.getElem?_cons_zero,Sem.run_bind,zaz w hu,Result.andThen_ok,za0 w hi,zaz w hdu,Sem.run_pure,Bool.false_eq_true,if_false,Sem.run_ite,
   hlen,hc,if_true,hfr,Bool.not_false]
   cases base with
   |none=>simp at hst;subst hst;simp
   |some a=>dsimp only at hst ⊢;simp only[Sem.run_bind,hst,Result.andThen_ok,Sem.run_pure])
theorem zgi(hu:P.underlying t=some (.slice e))(hi:P.info? e=some i)(hz:i.zero=some z)(hb0:i.bytes≠0)(hdu:P.underlying u=some du)(hdu':(∃q,du=.slice q)∨du=.string)
  (hlen:(Builtin.lenOf x').run P w=.ok m w)
  {old l':List Value} (hold:(Builtin.firstCells i.size n (.slice base n c)).run P w.drew=.ok old.toArray w.drew) (hfr:(Builtin.firstCells i.size m x').run P w.drew=.ok l'.toArray w.drew) (hc:¬n+m≤c)
  (hfit:(n+m)*i.bytes≤2^47) {d:Nat} (hcut:Question.cut (.appendCap (n+m) c e) (w.tape w.drawn (.appendCap (n+m) c e))=n+m+d) :
  (Builtin.append_ #[t,u] ty #[.slice base n c,x']).run P w=.ok (.slice (some ⟨w.heap.size,0,none⟩) (n+m) (n+m+d)) (w.drew.alloc (.cells (old.toArray++l'.toArray++Builtin.zeroCells z.cells d) e)):=by
 have hf:¬Builtin.nextslicecap (n+m) c*i.bytes>2^48:=by have:=growslice_fits (need:=n+m) (old:=c) (bytes:=i.bytes) (by omega) (by omega);omega
 have hd:n+m+d-(n+m)=d:=by omega
 unfold Builtin.append_;rcases hdu' with⟨q,rfl⟩|rfl <;>
  (simp only[List.getElem?_toArray,List.getElem?_cons_succ,List.getElem?_cons_zero,Sem.run_bind,zaz w hu,Result.andThen_ok,za0 w hi,zaz w hdu,Sem.run_pure,Bool.false_eq_true,if_false,Sem.run_ite,
   hlen,hc,Bool.not_false,if_true,zcR w hi,hb0,or_self,and_false,hf,run_choose,Question.forced,hcut,World.drew_eq,zcR w.drew hi,run_askRoom,hold,hfr,zbD w.drew hi hz,newRow,run_newObj,hd]
   rfl)
end
theorem zpa{e:TypeId}{i o z n c:Nat}{H:Hp}(h:zku e (.slice (some ⟨i,o,some z⟩) n c) H=true):o=0∧0<c∧H.ty i=some e:=by
 unfold zku at h;split at h
 ·rename_i q;cases q
 ·rename_i q;cases q;split at h
  ·rename_i T hT;rw[hT,Nat.eq_of_beq_eq_true h];exact⟨rfl,Nat.succ_pos _,rfl⟩
  ·cases h
 ·cases h
set_option maxHeartbeats 800000 in
theorem zn8 {P : Program} {w : World} {H H' : Hp} {β : Bt} (hR : Rel P w H β) {t u ty e : TypeId} {i : TypeInfo} {z : Value} {du : TypeDesc} (hu : P.underlying t = some (.slice e)) (hi : P.info? e = some i) (hz : i.zero = some z)
    (h0 : i.size ≠ 0) (hb0 : i.bytes ≠ 0) (hzl : (zad z).length = i.size) (hdu : P.underlying u = some du) (hdu' : (∃ q, du = .slice q) ∨ du = .string)
    {s x s' x' v : Value} (hs : VRel β s s') (hx : VRel β x x') (h : zbc i.size i.bytes s x H = some (v, H')) :
    ∃ v' w' β', (Builtin.append_ #[t, u] ty #[s', x']).run P w = .ok v' w' ∧ Rel P w' H' β' ∧ Ext w.heap.size w H β w' H' β' ∧ VRel β' v v' ∧
      (H'.next = H.next + 1 → zku e s H = true → zmK w' β' H.next e) := by
  have hzz : z.cells.size = i.size := by simpa [zad] using hzl
  unfold zbc at h
  split at h
  · cases h
  · rename_i m new hsrc
    obtain ⟨hlen, hnl, hfc⟩ := zmS hR hsrc hx
    obtain ⟨hlend, _, hfcd⟩ := zmS hR.drew hsrc hx
    obtain ⟨l', hfr, hfrel⟩ := hfc m (Nat.le_refl _)
    obtain ⟨ld, hfd, hfrd⟩ := hfcd m (Nat.le_refl _)
    rw [take_of_length_le (by omega)] at hfrel hfrd
    have hl'l : l'.length = m * i.size := by rw [← hfrel.1]; exact hnl
    have hldl : ld.length = m * i.size := by rw [← hfrd.1]; exact hnl
    split at h
    · -- nil
      cases hs
      split at h
      · rename_i hm0
        cases h
        subst hm0
        exact ⟨.slice none 0 0, w, β, zde hu hi hdu hdu' hlen hfr (by omega) (by simp), hR, Ext.refl _ _ _ _, .snil, fun q => absurd q (by omega)⟩
      · rename_i hm0
        split at h
        · rename_i hc
          cases h
          obtain ⟨d, hcut⟩ := zh4 (0 + m) 0 e (w.tape w.drawn (.appendCap (0 + m) 0 e))
          have hrun := zgi (base := none) (n := 0) (c := 0) (ty := ty) (old := []) hu hi hz hb0 hdu hdu' hlen (by simp [Builtin.firstCells]) hfd (by omega) (by simpa using hc.1) hcut
          obtain ⟨g1, g2⟩ := hR.drew.new_cells new ([].toArray ++ ld.toArray ++ Builtin.zeroCells z.cells d) e (0, 0) (m * i.size)
            (by simp; rw [take_append_of_le_length (by omega), take_of_length_le (by omega)]; exact hfrd) (by intro j hj; simp)
          have hsz : ([].toArray ++ ld.toArray ++ Builtin.zeroCells z.cells d).size = (0 + m + d) * i.size := by
            simp only [Array.size_append, size_toArray, zgf, hldl, hzz, length_nil, Nat.add_mul, Nat.zero_add]
          refine ⟨_, _, _, hrun, g1, g2.of_drew, ?_, fun _ _ => ⟨_, _, (0, 0), Bt.set_same _ _ _, rfl, zbE _ _, rfl⟩⟩
          have := VRel.slice (β := β.set H.next ⟨w.drew.heap.size, 0, ([].toArray ++ ld.toArray ++ Builtin.zeroCells z.cells d).size⟩) H.next 0 i.size m m _ 0 (0 + m + d) (Bt.set_same _ _ _) (Nat.le_refl _) (by omega) (by rw [hsz]; simp) (by intro; rfl)
          rw [Nat.zero_add] at this ⊢
          exact this
        · cases h
    · rename_i i0 o zz n c
      split at h
      · cases h
      · rename_i hzs
        have hzs : zz = i.size := by omega
        subst hzs
        cases hs with
        | slice _ _ _ _ _ y o' c' hy hnc hcc ht hoo =>
        split at h
        · rename_i hm
          cases h
          obtain ⟨rfl, _⟩ := hm
          have hl0 : l' = [] := length_eq_zero_iff.1 (by omega)
          subst hl0
          refine ⟨_, w, β, zde hu hi hdu hdu' hlen hfr (by omega) (by simp [storeCells]), hR, Ext.refl _ _ _ _, .slice _ _ _ _ _ y o' c' hy hnc hcc ht hoo, fun q => absurd q (by omega)⟩
        · split at h
          · rename_i cs hg
            obtain ⟨y', hy', h1, h2⟩ := hR.cells i0 cs true hg
            rw [hy] at hy'; cases hy'
            obtain ⟨⟨arr, ety, fz, hh, hsz, hfz⟩, hle⟩ := h2 rfl
            have hstore : ∀ (ws : List Value), ws.length = m * i.size → (ws.all Value.oneCell') = true → n + m ≤ c' → ∃ w', ((match (some ⟨y.b, o', none⟩ : Option Addr) with | some a => storeCells (a.add (n * i.size)) ws | none => pure () : Sem Unit)).run P w = .ok () w' ∧ Put w y.b (o' + n * i.size) ws w' := by
              intro ws hwl hw1 hnm
              have hmul : (n + m) * i.size ≤ c' * i.size := Nat.mul_le_mul_right _ hnm
              rw [Nat.add_mul] at hmul
              obtain ⟨w', hr, hp⟩ := zcP P y.b (o' + n * i.size) arr ety fz (by intro j hj; exact hfz j (by omega)) ws 0 w arr hh rfl (by omega) hw1
              exact ⟨w', by simpa [zdk] using hr, by simpa using hp⟩
            split at h
            · rename_i hnm
              split at h
              · rename_i hc
                cases h
                have hc0 : 0 < c := by omega
                have ho' := hoo hc0
                subst ho'
                obtain ⟨w', hst, hp⟩ := hstore l' hl'l (zmI hfrel hc.2) (by omega)
                have hcl := hc.1
                rw [Nat.add_mul] at hcl
                rw [show y.s + o + n * i.size = y.s + (o + n * i.size) by omega] at hp
                obtain ⟨g1, g2⟩ := hR.write hg hy (by omega) hfrel hp
                exact ⟨_, w', β, zde hu hi hdu hdu' hlen hfr (by omega) hst, g1, g2, .slice _ _ _ _ _ y _ c' hy hnm hcc ht (fun _ => rfl), fun q => absurd q (show ¬ H.next = H.next + 1 by omega)⟩
              · cases h
            · rename_i hnm
              split at h
              · rename_i hc
                cases h
                have holdc : ∀ (j : Nat) u, ((cs.drop o).take (n * i.size))[j]? = some u → ∃ u', w.cell? ⟨y.b, o' + j, none⟩ = some u' ∧ VRel β u u' := by
                  intro j u hu
                  rw [List.getElem?_take] at hu
                  split at hu
                  · rename_i hj
                    have hn0 : 0 < n := by rcases Nat.eq_zero_or_pos n with e | e; · subst e; simp at hj
                                           exact e
                    have ho' := hoo (by omega)
                    subst ho'
                    rw [List.getElem?_drop] at hu
                    rw [show y.s + o + j = y.s + (o + j) by omega]
                    exact h1 _ u hu
                  · cases hu
                have hol : ((cs.drop o).take (n * i.size)).length = n * i.size := by simp; have := hc.1; omega
                by_cases hin : n + m ≤ c'
                · obtain ⟨w', hst, hp⟩ := hstore l' hl'l (zmI hfrel hc.2.2) hin
                  have hmul : (n + m) * i.size ≤ c' * i.size := Nat.mul_le_mul_right _ hin
                  rw [Nat.add_mul] at hmul
                  obtain ⟨arr2, hh2, hs2, hg2⟩ := hp.row arr ety fz hh
                  obtain ⟨g1, g2⟩ := hR.takeover hg hy hp (o' := o') (ds := (cs.drop o).take (n * i.size) ++ new) (by simp only [length_append, hol, hnl]; omega) (fun j v hj => by
                    by_cases hjn : j < n * i.size
                    · rw [List.getElem?_append_left (by omega)] at hj
                      obtain ⟨v', q1, q2⟩ := holdc j v hj
                      obtain ⟨a3, e3, f3, q3, q4⟩ := zce.1 q1
                      rw [hh] at q3; cases q3
                      exact ⟨v', zce.2 ⟨arr2, _, _, hh2, by rw [hg2, if_neg (by omega)]; exact q4⟩, q2⟩
                    · rw [List.getElem?_append_right (by omega), hol] at hj
                      obtain ⟨v', q1, q2⟩ := hfrel.get hj
                      have hjl : j - n * i.size < l'.length := (List.getElem?_eq_some_iff.1 q1).1
                      exact ⟨v', zce.2 ⟨arr2, _, _, hh2, by rw [hg2, if_pos (by omega), show o' + j - (o' + n * i.size) = j - n * i.size by omega]; exact q1⟩, q2⟩)
                  refine ⟨_, w', _, zde hu hi hdu hdu' hlen hfr hin hst, g1, g2, ?_, fun _ hq => by
                    obtain ⟨rfl, hc0, hty⟩ := zpa hq
                    obtain ⟨y', arr', fz', hy', k1, k2, k3⟩ := hR.tys _ _ hty
                    rw [hy] at hy'; cases hy'
                    rw [hh] at k2; cases k2
                    have ho' := hoo hc0
                    exact ⟨_, arr2, fz, Bt.set_same _ _ _, by show o' = 0; omega, hh2, by show arr2.size = y.t; omega⟩⟩
                  exact .slice H.next 0 i.size (n + m) (n + m) ⟨y.b, o', y.t⟩ o' c' (Bt.set_same _ _ _) (Nat.le_refl _) hin ht (fun _ => rfl)
                · obtain ⟨d, hcut⟩ := zh4 (n + m) c' e (w.tape w.drawn (.appendCap (n + m) c' e))
                  obtain ⟨old', hro, hrel⟩ := zcB (P := P) (w := w.drew) (b := y.b) (off := o') (β := β) (l := (cs.drop o).take (n * i.size)) holdc
                  rw [hol] at hro
                  have hrun := zgi (base := some ⟨y.b, o', none⟩) (n := n) (c := c') (ty := ty) (old := old') hu hi hz hb0 hdu hdu' hlen (by simpa [Builtin.firstCells] using hro) hfd hin (by have := hc.2.1; omega) hcut
                  obtain ⟨k1, k2⟩ := hR.drew.kill i0
                  have holl : old'.length = n * i.size := by rw [← hrel.1]; exact hol
                  obtain ⟨g1, g2⟩ := k1.new_cells ((cs.drop o).take (n * i.size) ++ new) (old'.toArray ++ ld.toArray ++ Builtin.zeroCells z.cells d) e (0, 0) ((n + m) * i.size)
                    (by
                      have : (old'.toArray ++ ld.toArray ++ Builtin.zeroCells z.cells d).toList.take ((n + m) * i.size) = old' ++ ld := by
                        simp
                        rw [← append_assoc, take_append_of_le_length (by simp [Nat.add_mul]; omega), take_of_length_le (by simp [Nat.add_mul]; omega)]
                      rw [this]
                      exact hrel.append hfrd) (by intro j hj; simp)
                  have hsz2 : (old'.toArray ++ ld.toArray ++ Builtin.zeroCells z.cells d).size = (n + m + d) * i.size := by
                    simp only [Array.size_append, size_toArray, zgf, hldl, hzz, holl, Nat.add_mul]
                  refine ⟨_, _, _, hrun, g1, (k2.trans g2).of_drew, ?_, fun _ _ => ⟨_, _, (0, 0), Bt.set_same _ _ _, rfl, zbE _ _, rfl⟩⟩
                  exact .slice H.next 0 i.size (n + m) (n + m) ⟨w.heap.size, 0, _⟩ 0 (n + m + d) (Bt.set_same _ _ _) (Nat.le_refl _) (by omega) (by show 0 + _ ≤ (old'.toArray ++ ld.toArray ++ Builtin.zeroCells z.cells d).size; rw [hsz2]; omega) (fun _ => rfl)
              · cases h
          · cases h
    · cases h
end Go.AM
namespace Go.AM
open Go
section
variable {α:Type}{C:Ctx}{N:Nat}{w:World}{S:St}{β:Bt}{lam:Nat→Nat}{fr:Fr}{a:Act}{o:Oper}{k:Slot→St→Option α}{r:α}
theorem zck{β:Bt}{d:Nat}{v:Option Value}{v':Option Value}{n:Int}(h:zdz d v=some n)(hr:ORel β v v') :
  (v'=none∧n=d)∨∃k,v'=some (.int k n):=by
 unfold zdz at h;unfold ORel at hr;split at h
 ·cases h;cases v' with
  |none=>exact .inl ⟨rfl,rfl⟩
  |some _=>exact hr.elim
 ·cases h;cases v' with
  |none=>exact hr.elim
  |some u=>cases hr;exact .inr ⟨_,rfl⟩
 ·cases h
theorem zf2{P:Program}{w:World}{isS:Bool}{len cap:Nat}{lo hi:Option Value}{l h:Int}(hl:(lo=none∧l=0)∨∃k,lo=some (.int k l))(hh:(hi=none∧h=len)∨∃k,hi=some (.int k h))
  (h0:0≤l) (h1:l≤h) (h2:h≤cap):(Instr.sliceBounds isS len cap lo hi none).run P w=.ok (l.toNat,h.toNat,cap) w:=by
 have hb:∀(k:IntKind) (x:Int) (y:Nat) (c:BoundsCode),0≤x→x≤y→(Instr.sliceBound (.int k x) y c).run P w=.ok x.toNat w:=by intro k x y c hx hy;simp only[Instr.sliceBound,asIntOf,Sem.run_bind,Sem.run_pure,Result.andThen_ok,hx,hy,and_self,if_true]
 have h3:0≤h:=Int.le_trans h0 h1;have hc2:l≤((h.toNat:Nat):Int):=by omega
 unfold Instr.sliceBounds;rcases hl with⟨rfl,rfl⟩|⟨k1,rfl⟩<;>rcases hh with⟨rfl,rfl⟩|⟨k2,rfl⟩
 ·simp
 ·simp[hb k2 h cap _ h3 h2]
 ·simp[hb k1 l len _ h0 h1]
 ·simp[hb k2 h cap _ h3 h2,hb k1 l h.toNat _ h0 hc2]
theorem sim_slice{T:TypeId}{x:Operand}{lo hi:Option Operand}(ho:o.op=.slice T x lo hi none)(h:opC C fr S o k=some r)(hR:Rel C.P w S.hp β)(hF:FRel N w S.bx β lam fr a):Step C.P N w S β lam fr a o k r:=by
 simp only[opC,ho]at h;obtain⟨v,hv,h1⟩:=za7 hR hF h;clear h;obtain⟨vl,h2,hvl⟩:=zpX hR hF h1;clear h1;obtain⟨vh,h,hvh⟩:=zpX hR hF h2;clear h2;generalize hq:a.eval x=q at hv;split at h
 ·rename_i hu;unfold zdx at h;split at h
  ·rename_i u hs;unfold zmU at hs;split at hs
   ·rename_i s;cases hv;split at hs
    ·rename_i l hh hl hh';split at hs
     ·rename_i hc;cases hs;have g1:=zck hl hvl;have g2:=zck hh' hvh;refine Step.val hR hF h (v':=.string (s.extract l.toNat hh.toNat)) ?_ (.string _);simp only[execOp,ho,hq,Instr.sliceAt,Instr.slice,Option.map_none,Sem.run_bind,zaz w hu,Result.andThen_ok,Option.isSome_none,Bool.false_eq_true,if_false,zf2 g1 g2 hc.1 hc.2.1 hc.2.2,Sem.run_pure]
     ·cases hs
    ·cases hs
   ·cases hs
  ·cases h
 ·rename_i e hu;split at h
  ·rename_i ti hi';unfold zgk at h;split at h
   ·rename_i u hs;unfold zk7 at hs;split at hs
    ·cases hv;split at hs
     ·rename_i l hh hl hh';split at hs
      ·rename_i hc;cases hs;have g1:=zck hl hvl;have g2:=zck hh' hvh;refine Step.val hR hF h (v':=.slice none 0 0) ?_ .snil;have hb:=zf2 (P:=C.P) (w:=w) (isS:=true) (len:=0) (cap:=0) g1 g2 (by omega) (by omega) (by omega);simp only[execOp,ho,hq,Instr.sliceAt,Instr.slice,Option.map_none,Sem.run_bind,zaz w hu,Result.andThen_ok,hb,za0 w hi',Sem.run_pure,hc.1,hc.2];simp
      ·cases hs
     ·cases hs
    ·rename_i i0 off z n c;split at hs
     ·rename_i l hh hl hh';split at hs
      ·rename_i hc;cases hs;obtain⟨rfl,hc0,hc1,hc2⟩:=hc;cases hv with
       |slice _ _ _ _ _ y o' c' hy hnc hcc ht hoo=>
       have g1:=zck hl hvl;have g2:=zck hh' hvh;have hb:=zf2 (P:=C.P) (w:=w) (isS:=true) (len:=n) (cap:=c') g1 g2 hc0 hc1 (by omega);refine Step.val hR hF h (v':=.slice (some ⟨y.b,(if c'=l.toNat then o' else o'+l.toNat*ti.size),none⟩) (hh.toNat-l.toNat) (c'-l.toNat)) ?_ ?_
       ·simp only[execOp,ho,hq,Instr.sliceAt,Instr.slice,Option.map_none,Sem.run_bind,zaz w hu,Result.andThen_ok,hb,za0 w hi',Sem.run_pure,Option.map_some,zdk];split<;>rfl
       ·have hsub:(hh-l).toNat=hh.toNat-l.toNat:=by omega
        show VRel β _ _;rw[hsub];refine .slice _ _ _ _ _ y _ _ hy (by omega) (by omega) ?_ (fun hp=>?_)
        ·split
         ·rename_i e;rw[e,Nat.sub_self,Nat.zero_mul];have:=Nat.le_trans (Nat.le_add_right o' (c'*ti.size)) ht;omega
         ·have:l.toNat*ti.size+(c'-l.toNat)*ti.size=c'*ti.size:=by rw[←Nat.add_mul];congr 1;omega
          omega
        ·rw[if_neg (by omega),hoo (by omega),Nat.add_assoc]
      ·cases hs
     ·cases hs
    ·cases hs
   ·cases h
  ·cases h
 ·rename_i n e hu;split at h
  ·rename_i ti hi';unfold zb5 at h;split at h
   ·rename_i u hs;unfold zjg at hs;split at hs
    ·rename_i i0 off;split at hs
     ·rename_i cs hg;split at hs
      ·rename_i l hh hl hh';split at hs
       ·rename_i hc;cases hs;cases hv with
        |ptr _ _ y hy=>
        obtain⟨y',hy',_,h2⟩:=hR.cells i0 cs true hg;rw[hy]at hy';cases hy';have hle:=(h2 rfl).2;have g1:=zck hl hvl;have g2:=zck hh' hvh;have hb:=zf2 (P:=C.P) (w:=w) (isS:=false) (len:=n) (cap:=n) g1 g2 hc.2.1 hc.2.2.1 (by omega);have hsub:(hh-l).toNat=hh.toNat-l.toNat:=by omega
        refine Step.val hR hF h (v':=.slice (some ⟨y.b,(if n=l.toNat then y.s+off else y.s+off+l.toNat*ti.size),none⟩) (hh.toNat-l.toNat) (n-l.toNat)) ?_ ?_
        ·simp only[execOp,ho,hq,Instr.sliceAt,Instr.slice,Option.map_none,Sem.run_bind,zaz w hu,Result.andThen_ok,Instr.sureAddr,hb,za0 w hi',Sem.run_pure,zdk];split<;>rfl
        ·show VRel β _ _;rw[hsub];refine .slice _ _ _ _ _ y _ _ hy (by omega) (Nat.le_refl _) ?_ (fun hp=>?_)
         ·split
          ·rename_i e;rw[e,Nat.sub_self,Nat.zero_mul];omega
          ·have:l.toNat*ti.size+(n-l.toNat)*ti.size=n*ti.size:=by rw[←Nat.add_mul];congr 1;omega
           omega
         ·rw[if_neg (by omega),Nat.add_assoc]
       ·cases hs
      ·cases hs
     ·cases hs
    ·cases hs
   ·cases h
  ·cases h
 ·cases h
end
end Go.AM
namespace Go.AM
open List Go
section
variable {α:Type}{C:Ctx}{N:Nat}{w:World}{S:St}{β:Bt}{lam:Nat→Nat}{fr:Fr}{a:Act}{o:Oper}{k:Slot→St→Option α}{r:α}
theorem zlM : ∀ (cs : List Value) (l : List UInt8) (β : Bt) (cs' : List Value), zgT cs = some l → LRel β cs cs' → ∃ ns : List Int, cs' = ns.map (Value.int .u8) ∧ l = ns.map fun n => UInt8.ofNat n.toNat
  | [], l, β, cs', h, hr => by
    cases h
    have : cs' = [] := length_eq_zero_iff.1 (by have := hr.1; simp at this; omega)
    subst this
    exact ⟨[], rfl, rfl⟩
  | v :: r, l, β, cs', h, hr => by
    cases v with
    | int k n =>
      cases k <;> simp only [zgT] at h <;> try (cases h; done)
      split at h
      · rename_i l' hl'
        cases h
        cases cs' with
        | nil => have := hr.1; simp at this
        | cons v' r2 =>
          have h0 := hr.2 0 _ _ rfl rfl
          cases h0
          have hr2 : LRel β r r2 := ⟨by have := hr.1; simpa using this, fun k u u' hu hu' => hr.2 (k + 1) u u' (by simpa using hu) (by simpa using hu')⟩
          obtain ⟨ns, he, hl⟩ := zlM r l' β r2 hl' hr2
          exact ⟨n :: ns, by rw [he]; rfl, by rw [hl]; rfl⟩
      · cases h
    | _ => simp only [zgT] at h; cases h
theorem zop{src dst:TypeId}{x:Operand}(ho:o.op=.convert src dst x)(hN:N≤w.heap.size)(h:opC C fr S o k=some r)(hR:Rel C.P w S.hp β)(hF:FRel N w S.bx β lam fr a):Step C.P N w S β lam fr a o k r:=by
 simp only[opC,ho]at h;obtain⟨v,hv,h1⟩:=za7 hR hF h;clear h;generalize hq:a.eval x=q at hv;split at h1
 ·rename_i k1 kd hs hd;unfold zav at h1;split at h1
  ·rename_i u hu;unfold zmE at hu;split at hu
   ·cases hu;cases hv;refine Step.val hR hF h1 (v':=_) ?_ (.int _ _);simp only[execOp,ho,hq,convert,Sem.run_bind,zaz w hs,zaz w hd,Result.andThen_ok,Conv.intToInt,Sem.run_pure]
   ·cases hu
  ·cases h1
 ·rename_i hs hd;unfold pStr at h1;split at h1
  ·cases hv;refine Step.val hR hF h1 (v':=_) ?_ (.string _);simp only[execOp,ho,hq,convert,Sem.run_bind,zaz w hs,zaz w hd,Result.andThen_ok,Sem.run_pure]
  ·cases h1
 ·rename_i k1 hs hd;unfold zoI at h1;split at h1
  ·cases hv;refine Step.val hR hF h1 (v':=_) ?_ (.string _);simp only[execOp,ho,hq,convert,Sem.run_bind,zaz w hs,zaz w hd,Result.andThen_ok,Conv.intToString,Sem.run_pure]
  ·cases h1
 ·rename_i e hs hd;split at h1
  ·rename_i he;unfold zeN at h1;split at h1
   ·rename_i s;split at h1
    ·rename_i hsz;cases hv;have hge:s.size≤grownCap w s.size 0 e:=by obtain⟨c,hcut⟩:=zh4 s.size 0 e (w.tape w.drawn (.appendCap s.size 0 e));unfold grownCap;rw[hcut];omega
     have hrun:=run_bytes_of_string (P:=C.P) w src dst e s hs hd he;generalize grownCap w s.size 0 e=cap at hge hrun;have hrow:(bytesRow s cap).toList.take s.size=s.data.toList.map fun b=>Value.int .u8 (b.toNat:Int):=by unfold bytesRow;simp only[Array.toList_append,Array.toList_map];rw[take_append_of_le_length (by simp),take_of_length_le (by simp)]
     have hrsz:(bytesRow s cap).size=cap:=by unfold bytesRow;simp;omega
     obtain⟨g1,g2⟩:=hR.drew.new_cells (s.data.toList.map fun b=>.int .u8 (b.toNat:Int)) (bytesRow s cap) e ((bytesRow s cap).size,(bytesRow s cap).size+1) s.size
      (by
       rw[hrow];refine⟨rfl,fun j u u' hu hu'=>?_⟩;rw[hu]at hu';cases hu';rw[List.getElem?_map]at hu;cases hb:s.data.toList[j]? with
       |none=>rw[hb]at hu;cases hu
       |some b=>rw[hb]at hu;cases hu;exact .int _ _) (by intro j hj;simp;omega)
     refine Step.heap hN hR hF h1 (v':=.slice (some ⟨w.heap.size,0,none⟩) s.size cap) (.inl ?_) g1 g2.of_drew
      (.slice S.hp.next 0 1 s.size s.size ⟨w.heap.size,0,(bytesRow s cap).size⟩ 0 cap (Bt.set_same _ _ _) (Nat.le_refl _) hge (by show _≤(bytesRow s cap).size;omega) (fun _=>rfl))
     simp only[execOp,ho,hq,Sem.run_bind,hrun,Result.andThen_ok,Sem.run_pure]
    ·cases h1
   ·cases h1
  ·cases h1
 ·rename_i e hs hd;split at h1
  ·rename_i he;unfold zdM at h1;split at h1
   ·rename_i u hu;unfold zmQ at hu;split at hu
    ·cases hu;cases hv;refine Step.val hR hF h1 (v':=.string ⟨#[]⟩) ?_ (.string _);simp only[execOp,ho,hq,convert,Sem.run_bind,zaz w hs,zaz w hd,Result.andThen_ok,zaz w he,Conv.bytesToString,Sem.run_pure];rfl
    ·rename_i ad n c;split at hu
     ·rename_i m cs hsrc;split at hu
      ·rename_i l hl;cases hu;obtain⟨hlen,hnl,hfc⟩:=zmS hR hsrc hv;obtain⟨l',hfr,hfrel⟩:=hfc m (Nat.le_refl _);rw[take_of_length_le (by omega)]at hfrel;obtain⟨ns,rfl,rfl⟩:=zlM cs l β l' hl hfrel;have hmn:m=n:=by
        unfold zbA at hsrc;split at hsrc
        ·rename_i e;cases e
        ·rename_i e;cases e;split at hsrc
         ·split at hsrc
          ·split at hsrc<;>cases hsrc;rfl
          ·cases hsrc
         ·cases hsrc
        ·rename_i e;cases e
        ·cases hsrc
       subst hmn;cases hv with
       |slice i0 oo z n c y o' c' hy hnc hcc ht hoo=>
        simp only[Builtin.firstCells,Nat.mul_one]at hfr;refine Step.val hR hF h1 (v':=.string ⟨(ns.map fun (n:Int)=>UInt8.ofNat n.toNat).toArray⟩) ?_ (.string _);have:=run_bytesToString w ⟨y.b,o',none⟩ m c' ns hfr;simp only[execOp,ho,hq,convert,Sem.run_bind,zaz w hs,zaz w hd,Result.andThen_ok,zaz w he,this,foldl_push_bytes,Sem.run_pure];have he0:ByteArray.empty.data = #[]:=rfl;rw[he0];simp
      ·cases hu
     ·cases hu
    ·cases hu
   ·cases h1
  ·cases h1
 ·cases h1
end
theorem znL(cs:List Value):∀(vs:List Value) (off j0:Nat),off+j0+vs.length≤cs.length→∀(acc:Array Value),acc.size=cs.length →
  ((vs.zipIdx j0).foldl (fun (a:Array Value) (p:Value×Nat)=>a.setIfInBounds (off+p.2) p.1) acc).toList=spl acc.toList (off+j0) vs
 |[],off,j0,_,acc,_=>by simp[spl]
 |v::vs,off,j0,h,acc,ha=>by
  simp only[length_cons]at h;simp only[zipIdx_cons,foldl_cons];rw[znL cs vs off (j0+1) (by omega) _ (by simp;exact ha)];apply ext_getElem?;intro k;rw[zhC _ _ _ (by simp;omega),zhC _ _ _ (by simp;omega)];simp only[Array.getElem?_toList,Array.getElem?_setIfInBounds,length_cons];by_cases h1:off+(j0+1)≤k∧k<off+(j0+1)+vs.length
  ·rw[if_pos h1,if_pos (by omega),show k-(off+j0)=(k-(off+(j0+1)))+1 by omega];simp
  ·rw[if_neg h1];by_cases h2:off+j0=k
   ·subst h2;rw[if_pos rfl,if_pos (by omega),if_pos (by omega)];simp
   ·rw[if_neg h2,if_neg (by omega)]
theorem zmA{β:Bt}{place:Nat→Option (Nat×Nat)}:∀(parts:List (Nat×Value)) (cells out:List Value) (parts':List (Nat×Value)) (cells':Array Value),
  zkm place cells parts=some out→LRel β cells cells'.toList→parts.map (·.1)=parts'.map (·.1)→LRel β (parts.map (·.2)) (parts'.map (·.2)) →
  ∃out':Array Value,Instr.fill place cells' parts'=some out'∧LRel β out out'.toList
 |[],cells,out,parts',cells',h,hc,h1,h2=>by
  cases h;have:parts'=[]:=by cases parts';rfl;simp at h1
  subst this;exact⟨cells',rfl,hc⟩
 |(i,v)::parts,cells,out,parts',cells',h,hc,h1,h2=>by
  cases parts' with
  |nil=>simp at h1
  |cons p' parts'=>
   obtain⟨i',v'⟩:=p';simp only[map_cons,List.cons.injEq]at h1;obtain⟨rfl,h1⟩:=h1;have hv:VRel β v v':=h2.2 0 _ _ rfl rfl;have h2':LRel β (parts.map (·.2)) (parts'.map (·.2)):=⟨by have:=h2.1;simpa using this,fun k u u' a b=>h2.2 (k+1) u u' (by simpa using a) (by simpa using b)⟩
   unfold zkm at h;split at h
   ·cases h
   ·rename_i off size hp;split at h
    ·rename_i hcnd;have hvc:=hv.cells;have hsz:v'.cells.size=size:=by have:=hvc.1;simp at this;omega
     have hcl:=hc.1;have hcl':cells.length=cells'.size:=by simpa using hcl
     have hset:=znL cells v'.cells.toList off 0 (by simp;omega) cells' hcl'.symm;have hfold:(v'.cells.zipIdx.foldl (fun cs (c,j)=>cs.setIfInBounds (off+j) c) cells').toList=spl cells'.toList off v'.cells.toList:=by
      have e:v'.cells.zipIdx.toList=v'.cells.toList.zipIdx 0:=by simp
      rw[←Array.foldl_toList,e];exact hset
     have hrel:LRel β (spl cells off (zad v)) (v'.cells.zipIdx.foldl (fun cs (c,j)=>cs.setIfInBounds (off+j) c) cells').toList:=by
      rw[hfold];refine LRel.of_get ?_ fun k u hk=>?_
      ·rw[zeg _ _ _ (by omega),zeg _ _ _ (by simp;omega)];exact hcl
      ·rw[zhC _ _ _ (by omega)]at hk;rw[zhC _ _ _ (by simp;omega)];have hvl:=hvc.1;split at hk
       ·rw[if_pos (by omega)];exact hvc.get hk
       ·rw[if_neg (by omega)];exact hc.get hk
     obtain⟨out',g1,g2⟩:=zmA parts _ out parts' _ h hrel h1 h2';refine⟨out',?_,g2⟩;unfold Instr.fill;rw[hp];dsimp only;rw[if_neg (by simp;omega)];exact g1
    ·cases h
theorem zjO{P:Program}{w:World}:∀(fs:List Field) (l:List (Nat×Nat)),ziZ P fs=some l →
  (fs.mapM (m:=Sem) fun f=>do pure (f.offset,←sizeOf f.type)).run P w=.ok l w
 |[],l,h=>by cases h;simp
 |f::fs,l,h=>by
  unfold ziZ at h;split at h
  ·cases h
  ·rename_i i hi;split at h
   ·cases h
   ·rename_i r hr;cases h;have:=zjO (w:=w) fs r hr;simp only[mapM_cons,Sem.run_bind,za0 w hi,Result.andThen_ok,Sem.run_pure,this]
section
variable {α:Type}{C:Ctx}{N:Nat}{w:World}{S:St}{β:Bt}{lam:Nat→Nat}{fr:Fr}{a:Act}{o:Oper}{k:Slot→St→Option α}{r:α}
theorem znj{ρ:Operand→Value}{parts:Array (Nat×Operand)}{vs:List Value}(h:LRel β vs ((parts.toList.map (·.2)).map ρ)) :
  (((parts.toList.map (·.1)).zip vs).map (·.1))=((parts.map fun (i,x)=>(i,ρ x)).toList.map (·.1))∧LRel β (((parts.toList.map (·.1)).zip vs).map (·.2)) ((parts.map fun (i,x)=>(i,ρ x)).toList.map (·.2)):=by
 have hl:=h.1;simp only[length_map]at hl;constructor
 ·rw[map_fst_zip (by simp at hl ⊢;omega)];simp[Function.comp_def]
 ·rw[map_snd_zip (by simp at hl ⊢;omega)];simpa[Function.comp_def] using h
theorem sim_build{T:TypeId}{parts:Array (Nat×Operand)}(ho:o.op=.build T parts)(h:opC C fr S o k=some r)(hR:Rel C.P w S.hp β)(hF:FRel N w S.bx β lam fr a):Step C.P N w S β lam fr a o k r:=by
 simp only[opC,ho]at h;obtain⟨vs,hvs,h1⟩:=zfV hR hF _ h;clear h;unfold zbe at h1;split at h1
 ·rename_i v hb;unfold zn1 at hb;obtain⟨i,z,hi,hz,hc,hb⟩:=zgV hb;obtain⟨hp1,hp2⟩:=znj hvs;have hzr:=(zcM (β:=β) hc).cells;split at hb
  ·rename_i fs hu;split at hb
   ·cases hb
   ·rename_i l hl;split at hb
    ·rename_i cs hf;cases hb;obtain⟨out',g1,g2⟩:=zmA _ _ cs _ _ hf hzr hp1 hp2;refine Step.val hR hF h1 (v':=.agg out') ?_ (zcu.2 ⟨out',rfl,by simpa using g2⟩);have hpl:=zjO (w:=w) fs.toList l hl;have hm:(fs.mapM (m:=Sem) fun f=>do pure (f.offset,←sizeOf f.type)).run C.P w=.ok l.toArray w:=by rw[←Array.toArray_toList (xs:=fs),mapM_toArray,Sem.run_map,hpl];simp
     have hpa:(fun x=>l.toArray[x]?)=zoF l:=by funext x;simp[zoF]
     simp only[execOp,ho,Instr.build,Sem.run_bind,zbD w hi hz,Result.andThen_ok,zaz w hu,hm,hpa];rw[g1];simp
    ·cases hb
  ·rename_i len e hu;split at hb
   ·cases hb
   ·rename_i ti hti;split at hb
    ·rename_i cs hf;cases hb;obtain⟨out',g1,g2⟩:=zmA _ _ cs _ _ hf hzr hp1 hp2;refine Step.val hR hF h1 (v':=.agg out') ?_ (zcu.2 ⟨out',rfl,by simpa using g2⟩);simp only[execOp,ho,Instr.build,Sem.run_bind,zbD w hi hz,Result.andThen_ok,zaz w hu,za0 w hti];rw[g1];simp
    ·cases hb
  ·cases hb
 ·cases h1
theorem zgA(n:Nat)(zs:List Value):(repl n zs).length=n*zs.length:=by
 induction n with
 |zero=>simp[repl]
 |succ n ih=>simp[repl,ih,Nat.add_mul];omega
theorem repl_get (n : Nat) (zs : List Value) (j : Nat) (h : j < n * zs.length) : (repl n zs)[j]? = zs[j % zs.length]? := by
  induction n generalizing j with
  | zero => simp at h
  | succ n ih =>
    have hz : 0 < zs.length := by rcases Nat.eq_zero_or_pos zs.length with e | e; · rw [e] at h; simp at h
                                  exact e
    simp only [repl]
    by_cases hj : j < zs.length
    · rw [List.getElem?_append_left hj, Nat.mod_eq_of_lt hj]
    · have hs : (n + 1) * zs.length = n * zs.length + zs.length := Nat.succ_mul _ _
      rw [List.getElem?_append_right (by omega), ih (j - zs.length) (by omega)]
      congr 1
      exact (Nat.mod_eq_sub_mod (by omega)).symm
theorem zpG{z z':Value}(hz:VRel β z z')(n:Nat)(h0:z'.cells.size≠0) :
  LRel β (repl n (zad z)) ((Array.range (n*z'.cells.size)).map (z'.cells[· % z'.cells.size]!)).toList:=by
 have hc:=hz.cells;have hcl:=hc.1;simp only[Array.length_toList]at hcl;refine LRel.of_get (by simp[zgA,hcl]) fun j v hj=>?_;have hjl:j<n*z'.cells.size:=by have:=(List.getElem?_eq_some_iff.1 hj).1;rw[zgA,hcl]at this;exact this
 rw[repl_get _ _ _ (by rw[hcl];exact hjl),hcl]at hj;obtain⟨v',hv',hr⟩:=hc.get hj;refine⟨v',?_,hr⟩;have hm:j%z'.cells.size<z'.cells.size:=Nat.mod_lt _ (by omega);simp only[Array.getElem?_toList,Array.getElem?_map];rw[Array.getElem?_range];simp only[hjl,if_true,Option.map_some];have hv2:z'.cells[j%z'.cells.size]?=some v':=by simpa using hv'
 rw[getElem!_pos z'.cells _ hm];rw[Array.getElem?_eq_getElem hm]at hv2;exact hv2
theorem zkQ{T:TypeId}{len:Nat}{parts:Array (Nat×Operand)}(ho:o.op=.buildSlice T len parts)(hN:N≤w.heap.size)(h:opC C fr S o k=some r)(hR:Rel C.P w S.hp β)(hF:FRel N w S.bx β lam fr a) :
  Step C.P N w S β lam fr a o k r:=by
 simp only[opC,ho]at h;obtain⟨vs,hvs,h1⟩:=zfV hR hF _ h;clear h;obtain⟨e,i,z,hu,hi,hz,h0,hb0,hzl,hz1,hzc,h1⟩:=zfZ h1;unfold zaP at h1;split at h1
 ·rename_i v H' hb;unfold zbP at hb;split at hb
  ·cases hb
  ·rename_i hsz;split at hb
   ·rename_i cs hf;cases hb;obtain⟨hp1,hp2⟩:=znj hvs;have hzsz:z.cells.size=i.size:=by simpa[zad] using hzl
    have hrr:=zpG (zcM (β:=β) hzc) len (by omega);rw[hzsz]at hrr;obtain⟨out',g1,g2⟩:=zmA _ _ cs _ _ hf hrr hp1 hp2;obtain⟨k1,k2⟩:=hR.new_cells cs out' e (0,0) out'.size (by rw[take_of_length_le (by simp)];exact g2) (by intro j hj;simp);have hosz:out'.size=len*i.size:=by
     have h3:=g2.1;have h4:∀(parts:List (Nat×Value)) (cells out:List Value) (pl:Nat→Option (Nat×Nat)),zkm pl cells parts=some out→out.length=cells.length:=by
      intro parts;induction parts with
      |nil=>intro cells out pl h;cases h;rfl
      |cons p parts ih=>
       intro cells out pl h;obtain⟨q,u⟩:=p;unfold zkm at h;split at h
       ·cases h
       ·split at h
        ·rename_i hc;rw[ih _ _ _ h,zeg _ _ _ (by omega)]
        ·cases h
     have:=h4 _ _ _ _ hf;rw[zgA]at this;simp at h3;rw[←h3,this,hzl]
    refine Step.heap hN hR hF h1 (v':=.slice (some ⟨w.heap.size,0,none⟩) len len) (.inl ?_) k1 k2
     (.slice S.hp.next 0 i.size len len ⟨w.heap.size,0,out'.size⟩ 0 len (Bt.set_same _ _ _) (Nat.le_refl _) (Nat.le_refl _) (by show _≤out'.size;omega) (fun _=>rfl))
    by_cases hl0:len*i.size=0
    ·have h00:¬(0>2^24):=by decide
     have hr0:Array.range 0 = #[]:=rfl;simp only[hl0,hr0,Array.map_empty]at g1;simp only[execOp,ho,Instr.buildSlice,Sem.run_bind,zaz w hu,Result.andThen_ok,za0 w hi,if_neg h00,Sem.run_pure,hl0,if_true,hr0,Array.map_empty];rw[g1];simp[newRow]
    ·simp only[execOp,ho,Instr.buildSlice,Sem.run_bind,zaz w hu,Result.andThen_ok,za0 w hi,if_neg hsz,Sem.run_pure,if_neg hl0,zbD w hi hz,hzsz];rw[g1];simp[newRow]
   ·cases hb
 ·cases h1
theorem zlX{T:TypeId}{l c:Operand}(ho:o.op=.makeSlice T l c)(hN:N≤w.heap.size)(h:opC C fr S o k=some r)(hR:Rel C.P w S.hp β)(hF:FRel N w S.bx β lam fr a) :
  Step C.P N w S β lam fr a o k r:=by
 simp only[opC,ho]at h;obtain⟨lv,hlv,h1⟩:=za7 hR hF h;clear h;obtain⟨cv,hcv,h2⟩:=za7 hR hF h1;clear h1;obtain⟨e,i,z,hu,hi,hz,h0,hb0,hzl,hz1,hzc,h3⟩:=zfZ h2;clear h2;generalize hql:a.eval l=ql at hlv;generalize hqc:a.eval c=qc at hcv;unfold zcj at h3;split at h3
 ·rename_i v H' hm;unfold zeq at hm;split at hm
  ·rename_i n m;split at hm
   ·rename_i hc;cases hm;cases hlv;cases hcv;obtain⟨hn0,hnm,hmb⟩:=hc;have hzsz:z.cells.size=i.size:=by simpa[zad] using hzl
    have hrr:=zpG (zcM (β:=β) hzc) m.toNat (by omega);let arr:=(Array.range (m.toNat*i.size)).map (z.cells[· % z.cells.size]!)
    have harr:arr=(Array.range (m.toNat*z.cells.size)).map (z.cells[· % z.cells.size]!):=by simp only[arr,hzsz]
    rw[←harr]at hrr;have hasz:arr.size=m.toNat*i.size:=by simp[arr]
    obtain⟨k1,k2⟩:=hR.new_cells (repl m.toNat (zad z)) arr e (0,0) arr.size (by rw[take_of_length_le (by simp)];exact hrr) (by intro j hj;simp);refine Step.heap hN hR hF h3 (v':=.slice (some ⟨w.heap.size,0,none⟩) n.toNat m.toNat) (.inl ?_) k1 k2
     (.slice S.hp.next 0 i.size n.toNat m.toNat ⟨w.heap.size,0,arr.size⟩ 0 m.toNat (Bt.set_same _ _ _) (by omega) (Nat.le_refl _) (by show _≤arr.size;omega) (fun _=>rfl))
    have hm47:m≤2^47:=by
     have:(1:Int)≤(i.bytes:Int):=by omega
     have h5:m*1≤m*(i.bytes:Int):=Int.mul_le_mul_of_nonneg_left this (by omega);omega
    have hw1:IntKind.i64.wrap n=n:=by simp[IntKind.wrap,IntKind.bits,IntKind.signed];omega
    have hw2:IntKind.i64.wrap m=m:=by simp[IntKind.wrap,IntKind.bits,IntKind.signed];omega
    have hcomm:(i.bytes:Int)*m=m*i.bytes:=Int.mul_comm _ _;have hcommn:(i.bytes:Int)*n≤m*i.bytes:=by rw[Int.mul_comm];exact Int.mul_le_mul_of_nonneg_right hnm (by omega)
    have ht1:¬(m<0):=by omega
    have ht2:¬((i.bytes:Int)*m>2^48):=by omega
    simp only[execOp,ho,hql,hqc,Instr.makeSlice,Sem.run_bind,zaz w hu,Result.andThen_ok,asInt,asIntOf,Sem.run_pure,zcR w hi,hw1,hw2];have hg:((decide (m<0)||decide ((i.bytes:Int)*m>2^48))||decide (n<0)||decide (n>m))=false:=by simp;omega
    simp only[hg,Bool.false_eq_true,if_false,Sem.run_bind,run_askRoom,Result.andThen_ok,za0 w hi];by_cases hl0:m.toNat*i.size=0
    ·have hae:arr = #[]:=by apply Array.eq_empty_of_size_eq_zero;omega
     have hr0:Array.range 0 = #[]:=rfl;simp only[hl0,if_true,Sem.run_pure,Result.andThen_ok,hr0,Array.map_empty,newRow,Sem.run_bind,run_newObj,hae];rfl
    ·simp only[if_neg hl0,Sem.run_bind,zbD w hi hz,Sem.run_pure,Result.andThen_ok,newRow,run_newObj];rfl
   ·cases hm
  ·cases hm
 ·cases h3
end
theorem zdF{P:Program}{β:Bt}(em:Bool):∀(d n:Nat) (t:TypeId) (v v':Value) (w:World),d≤n→zd7 P d t v=true→VRel β v v'→(Instr.checkKey em n t v').run P w=.ok () w
 |0,n,t,v,v',w,_,h,_=>by cases h
 |d+1,0,t,v,v',w,hd,_,_=>by omega
 |d+1,n+1,t,v,v',w,hd,h,hv=>by
  unfold zd7 at h;split at h
  ·rename_i hu;cases hv;simp[Instr.checkKey,zaz w hu]
  ·rename_i hu;cases hv;simp[Instr.checkKey,zaz w hu]
  ·rename_i hu;cases hv;simp[Instr.checkKey,zaz w hu]
  ·rename_i fs cs hu;obtain⟨cs',rfl,hl⟩:=zcu.1 hv;simp only[Instr.checkKey,Sem.run_bind,zaz w hu,Result.andThen_ok];rw[←Array.forIn_toList];have key:∀(l:List Field),(l.all fun f=>match znk P f.type cs.toList f.offset with|some x=>zd7 P d f.type x|none=>false)=true →
     (forIn l PUnit.unit (fun f (r:PUnit)=>(if f.name ≠ "_" then do
       Instr.checkKey em n f.type (←part f.type cs' f.offset)
       pure (ForInStep.yield PUnit.unit)
      else pure (ForInStep.yield PUnit.unit):Sem (ForInStep PUnit)))).run P w=.ok PUnit.unit w:=by
    intro l;induction l with
    |nil=>intro _;simp
    |cons f l ih=>
     intro hall;simp only[all_cons,Bool.and_eq_true]at hall;have ih':=ih hall.2;have h1:=hall.1;split at h1
     ·rename_i x hx;obtain⟨x',hr,hxr⟩:=zi0 (w:=w) hl hx;have hck:=zdF em d n f.type x x' w (by omega) h1 hxr;have hr':(part f.type cs' f.offset).run P w=.ok x' w:=by simpa using hr
      simp only[forIn_cons,Sem.run_bind];by_cases hn:f.name ≠ "_"
      ·rw[if_pos hn];simp only[Sem.run_bind,hr',Result.andThen_ok,hck,Sem.run_pure];exact ih'
      ·rw[if_neg hn];simp only[Sem.run_pure,Result.andThen_ok];exact ih'
     ·cases h1
   have:=key fs.toList h;rw[this];rfl
  ·cases h
theorem zk8{P:Program}{β:Bt}{t:TypeId}{d:TypeDesc}(hd:P.underlying t=some d){x y x' y':Value}{b c:Bool}(h:eqT P 10000 t x y=some b)(hx:VRel β x x')(hy:VRel β y y')
  (hs:Instr.sameNow d x' y'=some c):c=b:=by
 have h1:=zkq (P:=P) 10000 t x y b x' y' default h hx hy;unfold Instr.sameNow at hs;split at hs
 ·split at hs
  ·rename_i hk;cases hs;rw[Op.equalIn]at h1;simp[zaz _ hd,hk]at h1;exact h1
  ·cases hs
 ·cases hs;rw[Op.equalIn]at h1;simp[zaz _ hd]at h1;exact h1
 ·cases hs;rw[Op.equalIn]at h1;simp[zaz _ hd]at h1;exact h1
 ·cases hs
def zfT(es:List MapEntry):Option (Nat×Value)→Nat→Option (Nat×Value)
 |none,_=>none
 |some (j,_),i0=>(es[j-i0]?).map fun e=>(j,e.val)
theorem zi7{P:Program}{kt:TypeId}{key:Value}:∀(kv:List (Value×Value)) (i j:Nat) (v:Value),zfU P kt key kv i=some (some (j,v))→i≤j∧∃k,kv[j-i]?=some (k,v)∧eqT P 10000 kt key k=some true
 |[],i,j,v,h=>by cases h
 |(k,u)::r,i,j,v,h=>by
  unfold zfU at h;split at h
  ·rename_i he;cases h;exact⟨Nat.le_refl _,k,by simp,he⟩
  ·obtain⟨h1,k',h2,h3⟩:=zi7 r (i+1) j v h;exact⟨by omega,k',by rw[show j-i=(j-(i+1))+1 by omega];simpa using h2,h3⟩
  ·cases h
theorem find_ok{P:Program}{w:World}{β:Bt}{kt:TypeId}{d:TypeDesc}(hd:P.underlying kt=some d){key key':Value}(hk:VRel β key key'):∀(kv:List (Value×Value)) (es:List MapEntry) (i:Nat) (res:Option (Nat×Value)),
  zfU P kt key kv i=some res→ERel β kv es →
  (Instr.findAsking kt key' es i).run P w=.ok (zfT es res i) w∧(∀q,Instr.findNow d key' es i=some q→q=zfT es res i)
 |[],es,i,res,h,hr=>by
  cases h;have:es=[]:=length_eq_zero_iff.1 (by have:=hr.1;simp at this;omega);subst this;exact⟨by simp[Instr.findAsking,zfT],fun q hq=>by cases hq;rfl⟩
 |(k,u)::kv,es,i,res,h,hr=>by
  cases es with
  |nil=>have:=hr.1;simp at this
  |cons e es=>
   have h0:=hr.2 0 k u e rfl rfl;have hr':ERel β kv es:=⟨by have:=hr.1;simpa using this,fun j a b c h1 h2=>hr.2 (j+1) a b c (by simpa using h1) (by simpa using h2)⟩
   unfold zfU at h;split at h
   ·rename_i he;cases h;have heq:(Op.equal kt key' e.key).run P w=.ok true w:=zkq 10000 kt key k true key' e.key w he hk h0.1;refine⟨by simp[Instr.findAsking,heq,zfT],fun q hq=>?_⟩;unfold Instr.findNow at hq;split at hq
    ·cases hq;simp[zfT]
    ·rename_i hs;have:=zk8 hd he hk h0.1 hs;cases this
    ·cases hq
   ·rename_i he;have heq:(Op.equal kt key' e.key).run P w=.ok false w:=zkq 10000 kt key k false key' e.key w he hk h0.1;obtain⟨g1,g2⟩:=find_ok (w:=w) hd hk kv es (i+1) res h hr';have hshift:zfT (e::es) res i=zfT es res (i+1):=by
     cases res with
     |none=>rfl
     |some p=>
      obtain⟨j,v⟩:=p;have:=(zi7 kv (i+1) j v h).1;simp only[zfT];rw[show j-i=(j-(i+1))+1 by omega];simp
    rw[hshift];refine⟨by simp[Instr.findAsking,heq,g1],fun q hq=>?_⟩;unfold Instr.findNow at hq;split at hq
    ·rename_i hs;have:=zk8 hd he hk h0.1 hs;cases this
    ·exact g2 q hq
    ·cases hq
   ·cases h
theorem zdp{P:Program}{w:World}{β:Bt}{kt:TypeId}{d:TypeDesc}(hd:P.underlying kt=some d){key key':Value}(hk:VRel β key key'){kv:List (Value×Value)}{es:List MapEntry}{res:Option (Nat×Value)}
  (h:zfU P kt key kv 0=some res) (hr:ERel β kv es):(Instr.findKey kt key' es).run P w=.ok (zfT es res 0) w:=by
 obtain⟨g1,g2⟩:=find_ok (w:=w) hd hk kv es 0 res h hr;simp only[Instr.findKey,Sem.run_bind,zaz w hd,Result.andThen_ok];split
 ·rename_i q hq;rw[g2 q hq];rfl
 ·exact g1
theorem zi5{α:Type}{P:Program}{T:TypeId}{k:TypeId→Value→Option α}{r:α}(h:mapC P T k=some r) :
  ∃kt et d i z,P.underlying T=some (.map kt et)∧P.underlying kt=some d∧P.info? et=some i∧i.zero=some z∧zc6 z=true∧k kt z=some r:=by
 unfold mapC at h;split at h
 ·rename_i kt et hu;split at h
  ·rename_i hk;obtain⟨i,z,hi,hz,hc,h⟩:=zgV h;have:∃d,P.underlying kt=some d:=by
    unfold keyOk at hk;cases hd:P.underlying kt with
    |none=>rw[hd]at hk;cases hk
    |some d=>exact⟨d,rfl⟩
   obtain⟨d,hd⟩:=this;exact⟨kt,et,d,i,z,hu,hd,hi,hz,hc,h⟩
  ·cases h
 ·cases h
theorem zia{β:Bt}(n:Nat)(a b:Option Addr)(x' y':Value)(h:Instr.sameBits n (.pointer a) (.pointer b)=true)(hx:VRel β (.pointer a) x')(hy:VRel β (.pointer b) y'):Instr.sameBits n x' y'=true:=by
 have he:a=b:=by cases n<;>simpa[Instr.sameBits] using h
 subst he;cases hx with
 |pnil=>cases hy;cases n<;>rfl
 |ptr i o q hq=>
  cases hy with
  |ptr _ _ q' hq'=>rw[hq]at hq';cases hq';cases n<;>simp[Instr.sameBits]
theorem zou{β:Bt}(n:Nat):∀(x y x' y':Value),Instr.sameBits n x y=true→VRel β x x'→VRel β y y'→Instr.sameBits n x' y'=true:=by
 induction n with
 |zero=>
  intro x y x' y' h hx hy;cases x<;>cases y<;>first
   |(cases hx;done)
   |(simp[Instr.sameBits]at h;done)
   |exact zia 0 _ _ _ _ h hx hy
   |(cases hx;cases hy;exact h)
 |succ n ih=>
  intro x y x' y' h hx hy;have agg:∀a b:Array Value,x=.agg a→y=.agg b→Instr.sameBits (n+1) x' y'=true:=by
   intro a b hxa hyb;subst hxa;subst hyb;obtain⟨a',rfl,ha⟩:=zcu.1 hx;obtain⟨b',rfl,hb⟩:=zcu.1 hy;simp only[Instr.sameBits,Bool.and_eq_true,beq_iff_eq]at h ⊢;have h1:=ha.1;have h2:=hb.1;simp only[Array.length_toList]at h1 h2;refine⟨by omega,?_⟩;rw[all_eq_true]at h ⊢;intro p hp;obtain⟨j,hj,rfl⟩:=getElem_of_mem hp;simp only[length_zip,Array.length_toList]at hj;simp only[getElem_zip];have hja:j<a.toList.length:=by simp;omega
   have hjb:j<b.toList.length:=by simp;omega
   refine ih a.toList[j] b.toList[j] _ _ ?_ (ha.2 j _ _ (by simp) (by simp)) (hb.2 j _ _ (by simp) (by simp))
   have:=h.2 (a.toList[j],b.toList[j]) (by
    rw[←getElem_zip (l:=a.toList) (l':=b.toList) (i:=j) (h:=by simp;omega)]
    exact getElem_mem _)
   exact this
  cases x<;>cases y<;>first
   |(cases hx;done)
   |(simp[Instr.sameBits]at h;done)
   |exact zia (n+1) _ _ _ _ h hx hy
   |exact agg _ _ rfl rfl
   |(cases hx with
     |iface _ _ v' hv=>
      cases hy with
      |iface _ _ v2' hv2=>
       simp only[Instr.sameBits,Bool.and_eq_true]at h ⊢
       exact⟨h.1,ih _ _ v' v2' h.2 hv hv2⟩)
   |(cases hx;cases hy;exact h)
def World.setObj(w:World)(b:Nat)(o:Obj):World:={ w with heap:=w.heap.setIfInBounds b o }
theorem zjj{w:World}{b:Nat}{o:Obj}(h:b<w.heap.size):(World.setObj w b o).heap[b]?=some o:=by simp[World.setObj,h]
theorem zdK{w:World}{b k:Nat}{o:Obj}(h:k≠b):(World.setObj w b o).heap[k]?=w.heap[k]?:=by simp only[World.setObj,Array.getElem?_setIfInBounds];rw[if_neg (fun e=>h e.symm)]
theorem Rel.setMap{P:Program}{w:World}{H:Hp}{β:Bt}(h:Rel P w H β){i:Nat}{kv kv':List (Value×Value)}{x:BI}(hi:H.get i=some (.map kv))(hx:β i=some x)
  {es':Array MapEntry} {clock':Nat} (hr:ERel β kv' es'.toList) (hb:∀e∈es'.toList,e.born<clock') :
  Rel P (World.setObj w x.b (.map es' clock')) (H.set i (some (.map kv'))) β∧Ext w.heap.size w H β (World.setObj w x.b (.map es' clock')) (H.set i (some (.map kv'))) β:=by
 have hlt:=h.lt i x hx;have hoth:∀j o y,j≠i→H.get j=some o→β j=some y→(World.setObj w x.b (.map es' clock')).heap[y.b]?=w.heap[y.b]?:=fun j o y hji hj hy=>
  zdK (fun e=>h.apart i j _ _ x y (Ne.symm hji) hi hj rfl hx hy e.symm)
 refine⟨⟨fun j ds own hj=>?_,fun j kv2 hj=>?_,fun j k o o2 y z hjk hj hk ho hy hz=>?_,fun j hj=>?_,fun j y hy=>?_,h.glob,fun j o hj=>(by
   rw[Hp.get_set]at hj;split at hj
   ·cases hj
   ·rename_i hji;obtain⟨y,hy,h0,h3⟩:=h.fix j o hj
    exact⟨y,hy,h0,by rw[hoth j _ y hji hj hy];exact h3⟩),fun j T hj=>(by
   obtain⟨y,arr,fz,hy,h1,h2,h3⟩:=h.tys j T hj;refine⟨y,arr,fz,hy,h1,?_,h3⟩;obtain⟨x',hx',es0,c0,h4,_⟩:=h.maps i kv hi;rw[hx]at hx';cases hx';rw[zdK (fun e=>by rw[e,h4]at h2;cases h2)]
   exact h2)⟩,
  ⟨rfl,rfl,rfl,by simp[World.setObj],Bt.le_refl _,Nat.le_refl _,fun b hb ho=>?_,fun b=>?_,fun j y hy hn=>by rw[hn]at hy;cases hy⟩⟩
 ·rw[Hp.get_set]at hj;split at hj
  ·cases hj
  ·rename_i hji;obtain⟨y,hy,h3,h4⟩:=h.cells j ds own hj;have hw:=hoth j _ y hji hj hy;refine⟨y,hy,fun k v hk=>?_,fun ho=>⟨(h4 ho).1.congr hw,(h4 ho).2⟩⟩;obtain⟨v',hv',hr⟩:=h3 k v hk;exact⟨v',by rw[zcN hw];exact hv',hr⟩
 ·rw[Hp.get_set]at hj;split at hj
  ·rename_i e;cases hj;subst e;exact⟨x,hx,es',clock',zjj hlt,hr,hb⟩
  ·rename_i hji;obtain⟨y,hy,es,clock,h3,h4⟩:=h.maps j kv2 hj;exact⟨y,hy,es,clock,by rw[hoth j _ y hji hj hy];exact h3,h4⟩
 ·rw[Hp.get_set]at hj hk;have hj':∃q,H.get j=some q∧q.own=true:=by
   split at hj
   ·rename_i e;subst e;exact⟨_,hi,rfl⟩
   ·exact⟨o,hj,ho⟩
  have hk':∃q,H.get k=some q:=by
   split at hk
   ·rename_i e;subst e;exact⟨_,hi⟩
   ·exact⟨_,hk⟩
  obtain⟨q,g1,g2⟩:=hj';obtain⟨q',g3⟩:=hk';exact h.apart j k q q' y z hjk g1 g3 g2 hy hz
 ·have:=h.fresh j hj;rw[Hp.get_set,if_neg (fun e=>by subst e;rw[hi]at this;cases this.1)];exact this
 ·simp only[World.setObj,Array.size_setIfInBounds];exact h.lt j y hy
 ·exact zdK (fun e=>by subst e;exact ho ⟨i,_,x,hi,rfl,hx,rfl⟩)
 ·rintro⟨j,o,y,hj,ho,hy,rfl⟩
  rw[Hp.get_set]at hj;split at hj
  ·rename_i e;subst e;rw[hx]at hy;cases hy;exact .inr ⟨_,_,x,hi,rfl,hx,rfl⟩
  ·exact .inr ⟨j,o,y,hj,ho,hy,rfl⟩
theorem zcC{P:Program}{w:World}{b:Nat}{es:Array MapEntry}{c:Nat}(h:w.heap[b]?=some (.map es c)):(getObj b).run P w=.ok (.map es c) w:=by simp[getObj,Sem.run,h]
theorem zf1{P:Program}{w:World}{b:Nat}{es:Array MapEntry}{c:Nat}{o:Obj}(h:w.heap[b]?=some (.map es c)):(setObj b o).run P w=.ok () (World.setObj w b o):=by simp[Go.setObj,Sem.run,h,World.setObj]
section
variable {α:Type}{C:Ctx}{N:Nat}{w:World}{S:St}{β:Bt}{lam:Nat→Nat}{fr:Fr}{a:Act}{o:Oper}{k:Slot→St→Option α}{r:α}
theorem look_ok{P:Program}{H:Hp}(hR:Rel P w H β){T kt et:TypeId}{d:TypeDesc}{i:TypeInfo}{z:Value}(hu:P.underlying T=some (.map kt et))(hd:P.underlying kt=some d)(hi:P.info? et=some i)(hz:i.zero=some z)
  (hzc:zc6 z=true) {m key m' key':Value} (hm:VRel β m m') (hk:VRel β key key') {v:Value} {b:Bool} (h:lookV P kt z m key H=some (v,b)) :
  ∃v',VRel β v v'∧∀ok,(Instr.lookup T m' key' ok).run P w=.ok (if ok then .tuple #[v',.bool b] else v') w:=by
 unfold lookV at h;split at h
 ·rename_i hsh;split at h
  ·cases h
  ·rename_i kv hmo;have hes:∃es:Array MapEntry,ERel β kv es.toList∧((m'=.map none∧es = #[])∨∃b clock,m'=.map (some b)∧w.heap[b]?=some (.map es clock)):=by
    unfold zqO at hmo;split at hmo
    ·cases hmo;cases hm;exact⟨#[],⟨rfl,by simp⟩,.inl ⟨rfl,rfl⟩⟩
    ·rename_i j;split at hmo
     ·rename_i kv' hg;cases hmo;cases hm with
      |map _ x hx=>
      obtain⟨x',hx',es,clock,h1,h2,h3⟩:=hR.maps j kv hg;rw[hx]at hx';cases hx';exact⟨es,h2,.inr ⟨x.b,clock,rfl,h1⟩⟩
     ·cases hmo
    ·cases hmo
   obtain⟨es,hre,hes⟩:=hes;have hck:=zdF (P:=P) (β:=β) es.isEmpty 20 10000 kt key key' w (by omega) hsh hk;split at h
   ·rename_i j u hf;cases h;have hfk:=zdp (w:=w) hd hk hf hre;obtain⟨_,k0,hk0,_⟩:=zi7 kv 0 j v hf;simp only[Nat.sub_zero]at hk0;have hjl:j<es.toList.length:=by rw[←hre.1];exact(List.getElem?_eq_some_iff.1 hk0).1
    have hej:=hre.2 j k0 v es.toList[j] hk0 (by simp);have hfe:zfT es.toList (some (j,v)) 0=some (j,es.toList[j].val):=by
     have:es.toList[j]?=some es.toList[j]:=by simp
     simp only[zfT,Nat.sub_zero,this,Option.map_some]
    rw[hfe]at hfk;refine⟨_,hej.2,fun ok=>?_⟩;rcases hes with⟨rfl,rfl⟩|⟨b,clock,rfl,hb⟩
    ·simp only[Instr.lookup,Sem.run_bind,zaz w hu,Result.andThen_ok,Sem.run_pure,hck,hfk]
    ·simp only[Instr.lookup,Sem.run_bind,zaz w hu,Result.andThen_ok,Sem.run_pure,zcC hb,hck,hfk]
   ·rename_i hf;cases h;have hfk:=zdp (w:=w) hd hk hf hre;refine⟨z,zcM hzc,fun ok=>?_⟩;rcases hes with⟨rfl,rfl⟩|⟨b,clock,rfl,hb⟩
    ·simp only[Instr.lookup,Sem.run_bind,zaz w hu,Result.andThen_ok,Sem.run_pure,hck,hfk,zfT,zbD w hi hz]
    ·simp only[Instr.lookup,Sem.run_bind,zaz w hu,Result.andThen_ok,Sem.run_pure,zcC hb,hck,hfk,zfT,zbD w hi hz]
   ·cases h
 ·cases h
theorem zqt{T:TypeId}{m key:Operand}{ok:Bool}(ho:o.op=.lookup T m key ok)(h:opC C fr S o k=some r)(hR:Rel C.P w S.hp β)(hF:FRel N w S.bx β lam fr a):Step C.P N w S β lam fr a o k r:=by
 simp only[opC,ho]at h;obtain⟨mv,hmv,h1⟩:=za7 hR hF h;clear h;obtain⟨kv,hkv,h2⟩:=za7 hR hF h1;clear h1;obtain⟨kt,et,d,i,z,hu,hd,hi,hz,hzc,h3⟩:=zi5 h2;clear h2;unfold zc3 at h3;split at h3
 ·rename_i v b hl;obtain⟨v',hv,hrun⟩:=look_ok hR hu hd hi hz hzc hmv hkv hl;have hrun:=hrun ok;cases ok with
  |true=>
   refine Step.val hR hF h3 (v':=.tuple #[v',.bool b]) ?_ (zb2.2 ⟨_,rfl,LRel.cons hv (LRel.cons (.bool b) (LRel.nil _))⟩);simp only[execOp,ho,Sem.run_bind,hrun,Result.andThen_ok,Sem.run_pure,if_true]
  |false=>
   refine Step.val hR hF h3 (v':=v') ?_ hv;simp only[execOp,ho,Sem.run_bind,hrun,Result.andThen_ok,Sem.run_pure,Bool.false_eq_true,if_false]
 ·cases h3
theorem upd_ok{P:Program}{H H':Hp}(hR:Rel P w H β){T kt et:TypeId}{d:TypeDesc}(hu:P.underlying T=some (.map kt et))(hd:P.underlying kt=some d)
  {m key v m' key' v':Value} (hm:VRel β m m') (hk:VRel β key key') (hv:VRel β v v') (h:updV P kt m key v H=some H') :
  ∃w',(Instr.mapUpdate T m' key' v').run P w=.ok () w'∧Rel P w' H' β∧Ext w.heap.size w H β w' H' β:=by
 unfold updV at h;split at h
 ·rename_i hsh;split at h
  ·rename_i i;split at h
   ·rename_i kv hg;cases hm with
    |map _ x hx=>
    obtain⟨x',hx',es,clock,h1,h2,h3⟩:=hR.maps i kv hg;rw[hx]at hx';cases hx';have hck:=zdF (P:=P) (β:=β) false 20 10000 kt key key' w (by omega) hsh hk;split at h
    ·rename_i j u hf;split at h
     ·rename_i k0 u0 hk0;split at h
      ·rename_i hsb;cases h;have hfk:=zdp (w:=w) hd hk hf h2;have hjl:j<es.toList.length:=by rw[←h2.1];exact(List.getElem?_eq_some_iff.1 hk0).1
       have hjs:j<es.size:=by simpa using hjl
       have hej:=h2.2 j k0 u0 es.toList[j] hk0 (by simp);have hsb':=zou 10000 k0 key _ key' hsb hej.1 hk;have hent:es[j]?=some es[j]:=by simp[hjs]
       obtain⟨g1,g2⟩:=hR.setMap hg hx (kv':=zkR kv j key v) (es':=es.modify j fun e=>{ e with key:=key',val:=v' }) (clock':=clock) (by
        refine⟨by simp[zkR];have:=h2.1;simpa using this,fun q k2 v2 e2 hq he=>?_⟩;simp only[zkR,List.getElem?_set]at hq;rw[Array.getElem?_toList,Array.getElem?_modify]at he;by_cases hqj:j=q
        ·subst hqj;rw[if_pos rfl,hent]at he;have hkl:j<kv.length:=(List.getElem?_eq_some_iff.1 hk0).1;rw[if_pos rfl,if_pos hkl]at hq;cases hq;cases he;exact⟨hk,hv⟩
        ·rw[if_neg hqj]at hq he
         exact h2.2 q k2 v2 e2 hq (by simpa using he)) (by
        intro e he;obtain⟨q,hq,rfl⟩:=getElem_of_mem he;have hq':q<es.size:=by simpa using hq
        have:(es.modify j fun e=>{ e with key:=key',val:=v' }).toList[q].born=es[q].born:=by simp only[Array.getElem_toList,Array.getElem_modify];split<;>rfl
        rw[this]
        exact h3 _ (by simp))
       refine⟨_,?_,g1,g2⟩;simp only[Instr.mapUpdate,Sem.run_bind,zaz w hu,Result.andThen_ok,zcC h1,hck,hfk,zfT,Nat.sub_zero];have he2:es.toList[j]?=some es.toList[j]:=by simp
       rw[he2];simp only[Option.map_some,hent,Option.getD_some,Instr.keyThatStays];have hsb2:Instr.sameBits 10000 es[j].key key'=true:=by simpa using hsb'
       simp only[hsb2,if_true,Sem.run_bind,Sem.run_pure,Result.andThen_ok,zf1 h1]
      ·cases h
     ·cases h
    ·rename_i hf;cases h;have hfk:=zdp (w:=w) hd hk hf h2
     obtain⟨g1,g2⟩:=hR.setMap hg hx (kv':=kv++[(key,v)]) (es':=es.push { key:=key',val:=v',born:=clock }) (clock':=clock+1) (by
      refine⟨by simp;have:=h2.1;simpa using this,fun q k2 v2 e2 hq he=>?_⟩;have hl:=h2.1;simp only[Array.toList_push]at he;by_cases hqn:q<kv.length
      ·rw[List.getElem?_append_left hqn]at hq;rw[List.getElem?_append_left (by omega)]at he;exact h2.2 q k2 v2 e2 hq he
      ·rw[List.getElem?_append_right (by omega)]at hq;rw[List.getElem?_append_right (by omega),←hl]at he;have hq0:q-kv.length=0:=by have:=(List.getElem?_eq_some_iff.1 hq).1;simp at this;omega
       rw[hq0]at hq he;cases hq;cases he
       exact⟨hk,hv⟩) (by
      intro e he;simp only[Array.toList_push,mem_append,mem_singleton]at he;rcases he with he|rfl
      ·have:=h3 e he;omega
      ·exact Nat.lt_succ_self _)
     refine⟨_,?_,g1,g2⟩;simp only[Instr.mapUpdate,Sem.run_bind,zaz w hu,Result.andThen_ok,zcC h1,hck,hfk,zfT,zf1 h1]
    ·cases h
   ·cases h
  ·cases h
 ·cases h
theorem zg2{T:TypeId}{m key x:Operand}(ho:o.op=.mapUpdate T m key x∨o.op=.insert T m key x)(hN:N≤w.heap.size)(h:opC C fr S o k=some r)(hR:Rel C.P w S.hp β)(hF:FRel N w S.bx β lam fr a) :
  Step C.P N w S β lam fr a o k r:=by
 have h':sV (ev C.P.globals.size fr m) (fun m=>sV (ev C.P.globals.size fr key) fun key=>sV (ev C.P.globals.size fr x) fun x=>mapC C.P T fun kt _=>pUpd C.P kt m key x S.hp fun H=>k .unk ⟨S.bx,H⟩)=some r:=by rcases ho with ho|ho<;>simpa only [opC,ho] using h
 obtain⟨mv,hmv,h1⟩:=za7 hR hF h';clear h h';obtain⟨kv,hkv,h2⟩:=za7 hR hF h1;clear h1;obtain⟨vv,hvv,h3⟩:=za7 hR hF h2;clear h2;obtain⟨kt,et,d,i,z,hu,hd,hi,hz,hzc,h4⟩:=zi5 h3;clear h3;unfold pUpd at h4;split at h4
 ·rename_i H' hup;obtain⟨w',hrun,g1,g2⟩:=upd_ok hR hu hd hmv hkv hvv hup;refine Step.heap hN hR hF h4 (.inr ⟨?_,rfl⟩) g1 g2 trivial;rcases ho with ho|ho<;>simp only[execOp,ho,Sem.run_bind,hrun,Result.andThen_ok,Sem.run_pure]
 ·cases h4
theorem zmX{T:TypeId}{x:Operand}(ho:o.op=.makeMap T (some x))(hN:N≤w.heap.size)(h:opC C fr S o k=some r)(hR:Rel C.P w S.hp β)(hF:FRel N w S.bx β lam fr a):Step C.P N w S β lam fr a o k r:=by
 simp only[opC,ho]at h;obtain⟨xv,hxv,h1⟩:=za7 hR hF h;clear h;obtain⟨kt,et,d,i,z,hu,hd,hi,hz,hzc,h2⟩:=zi5 h1;clear h1;generalize hq:a.eval x=q at hxv;unfold pHint at h2;split at h2
 ·rename_i kd n;cases hxv;unfold zcG at h2;obtain⟨g1,g2⟩:=hR.new_map;refine Step.heap hN hR hF h2 (v':=.map (some w.heap.size)) (.inl ?_) g1 g2 (.map _ _ (Bt.set_same _ _ _));simp only[execOp,ho,Instr.makeMap,Option.map_some,hq,asInt,asIntOf,Sem.run_bind,Sem.run_pure,zaz w hu,Result.andThen_ok];simp
 ·cases h2
end
section
variable {α:Type}{C:Ctx}{N:Nat}{w:World}{S:St}{β:Bt}{lam:Nat→Nat}{fr:Fr}{a:Act}{o:Oper}{k:Slot→St→Option α}{r:α}
theorem len_ok{P:Program}{H:Hp}(hR:Rel P w H β){t ty:TypeId}{d:TypeDesc}{q:LenK}(hu:P.underlying t=some d)(hd:lenK d=some q){x x' v:Value}(hx:VRel β x x')(h:lenV q x H=some v) :
  (Builtin.len_ #[t] ty #[x']).run P w=.ok v w∧VRel β v v:=by
 unfold lenV at h;split at h
 ·cases h;cases hx;refine⟨?_,.int _ _⟩;cases d<;>cases hd;simp[Builtin.len_,zaz w hu,goInt]
 ·cases h;refine⟨?_,.int _ _⟩;cases d<;>cases hd;cases hx<;>simp[Builtin.len_,zaz w hu,goInt]
 ·cases h;cases hx;refine⟨?_,.int _ _⟩;cases d<;>cases hd;simp[Builtin.len_,zaz w hu,goInt]
 ·rename_i i;split at h
  ·rename_i kv hg;cases h;cases hx with
   |map _ x hx=>
   obtain⟨x',hx',es,clock,h1,h2,h3⟩:=hR.maps i kv hg;rw[hx]at hx';cases hx';refine⟨?_,.int _ _⟩;have hl:=h2.1;simp only[Array.length_toList]at hl;cases d<;>cases hd;simp[Builtin.len_,zaz w hu,goInt,zcC h1,hl]
  ·cases h
 ·cases h
theorem copy_ok {P : Program} {H H' : Hp} (hR : Rel P w H β) {t u ty e : TypeId} {i : TypeInfo} (hu : P.underlying t = some (.slice e)) (hi : P.info? e = some i)
    {d x d' x' v : Value} (hd : VRel β d d') (hx : VRel β x x') (h : copyV i.size d x H = some (v, H')) :
    ∃ w', (Builtin.copy_ #[t, u] ty #[d', x']).run P w = .ok v w' ∧ Rel P w' H' β ∧ Ext w.heap.size w H β w' H' β ∧ VRel β v v := by
  unfold copyV at h
  split at h
  · rename_i m new hsrc
    cases h
    cases hd
    obtain ⟨hlen, hnl, hfc⟩ := zmS hR hsrc hx
    obtain ⟨l', hfr, hfrel⟩ := hfc 0 (Nat.zero_le _)
    refine ⟨w, ?_, hR, Ext.refl _ _ _ _, .int _ _⟩
    simp [Builtin.copy_, zaz w hu, hlen, za0 w hi, hfr, goInt]
  · rename_i m new i0 o z n c hsrc
    split at h
    · cases h
    · rename_i hz
      have hz : z = i.size := by omega
      subst hz
      split at h
      · rename_i cs hg
        split at h
        · rename_i hc
          cases h
          obtain ⟨hlen, hnl, hfc⟩ := zmS hR hsrc hx
          obtain ⟨l', hfr, hfrel⟩ := hfc (min m n) (Nat.min_le_left _ _)
          cases hd with
          | slice _ _ _ _ _ y o' c' hy hnc hcc ht hoo =>
          obtain ⟨y', hy', h1, h2⟩ := hR.cells i0 cs true hg
          rw [hy] at hy'; cases hy'
          obtain ⟨⟨arr, ety, fz, hh, hsz, hfz⟩, hle⟩ := h2 rfl
          have hll : l'.length = (new.take (min m n * i.size)).length := hfrel.1.symm
          have hmm : min m n * i.size ≤ m * i.size := Nat.mul_le_mul_right _ (Nat.min_le_left _ _)
          have htl : (new.take (min m n * i.size)).length = min m n * i.size := by rw [length_take, hnl]; omega
          have hall : (new.take (min m n * i.size)).all one = true := by
            rw [all_eq_true] at hc ⊢
            intro q hq; exact hc.2 q (mem_of_mem_take hq)
          by_cases h0 : min m n * i.size = 0
          · have hl0 : l' = [] := length_eq_zero_iff.1 (by omega)
            subst hl0
            have hn0 : new.take (min m n * i.size) = [] := length_eq_zero_iff.1 (by omega)
            have hspl : spl cs o (new.take (min m n * i.size)) = cs := by rw [hn0]; simp [spl]
            have hset : H.set i0 (some (.cells cs true)) = H := by
              unfold Hp.set
              have : (fun j => if j = i0 then some (AObj.cells cs true) else H.get j) = H.get := by
                funext j; split
                · rename_i e; rw [e, hg]
                · rfl
              rw [this]
            rw [hspl, hset]
            refine ⟨w, ?_, hR, Ext.refl _ _ _ _, .int _ _⟩
            have hmn : (m.min n) = min m n := rfl
            simp [Builtin.copy_, zaz w hu, hlen, za0 w hi, hmn, hfr, goInt, storeCells]
          · have hmn0 : 0 < min m n := by rcases Nat.eq_zero_or_pos (min m n) with e | e; · rw [e] at h0; simp at h0
                                          exact e
            have ho' := hoo (by omega)
            subst ho'
            have hcl := hc.1
            obtain ⟨w', hst, hp⟩ := zcP P y.b (y.s + o) arr ety fz (by intro j hj; exact hfz j (by omega)) l' 0 w arr hh rfl (by omega) (zmI hfrel hall)
            obtain ⟨g1, g2⟩ := hR.write hg hy (off := o) (by omega) hfrel (by simpa using hp)
            refine ⟨w', ?_, g1, g2, .int _ _⟩
            have hmn : (m.min n) = min m n := rfl
            simp only [Builtin.copy_, List.getElem?_toArray, List.getElem?_cons_succ, List.getElem?_cons_zero, Sem.run_bind, zaz w hu, Result.andThen_ok, hlen, za0 w hi, Sem.run_pure, hmn, hfr, hst, goInt]
        · cases h
      · cases h
  · cases h
theorem mm_ok{P:Program}{mx:Bool}{x y z x' y':Value}(h:mm mx x y=some z)(hx:VRel β x x')(hy:VRel β y y') :
  ((if mx then Builtin.max2 x' y' else Builtin.min2 x' y')).run P w=.ok z w∧VRel β z z:=by
 unfold mm at h;split at h
 ·cases hx;cases hy;cases h;refine⟨?_,.int _ _⟩;cases mx<;>simp[Builtin.max2,Builtin.min2]
 ·cases h
theorem mmL_ok{P:Program}{mx:Bool}:∀(ys:List Value) (x z x':Value) (ys':List Value),mmL mx x ys=some z→VRel β x x'→LRel β ys ys' →
  ∃z',(ys'.foldlM (fun a b=>if mx then Builtin.max2 a b else Builtin.min2 a b) x').run P w=.ok z' w∧VRel β z z'
 |[],x,z,x',ys',h,hx,hl=>by
  cases h;have:ys'=[]:=length_eq_zero_iff.1 hl.1.symm;subst this;exact⟨x',rfl,hx⟩
 |y::ys,x,z,x',[],h,hx,hl=>by cases hl.1
 |y::ys,x,z,x',y'::ys',h,hx,hl=>by
  unfold mmL at h;split at h
  ·rename_i u hu;obtain⟨h1,h2⟩:=mm_ok (P:=P) (w:=w) hu hx (hl.2 0 y y' rfl rfl);obtain⟨z',hz,hr⟩:=mmL_ok (P:=P) ys u z u ys' h h2 ⟨by simpa using hl.1,fun k a b ha hb=>hl.2 (k+1) a b (by simpa using ha) (by simpa using hb)⟩;exact⟨z',by simp only[foldlM_cons,Sem.run_bind,h1,Result.andThen_ok,hz],hr⟩
  ·cases h
theorem del_ok{P:Program}{H H':Hp}(hR:Rel P w H β){T kt et t2 ty:TypeId}{d:TypeDesc}(hu:P.underlying T=some (.map kt et))(hd:P.underlying kt=some d)
  {m key m' key':Value} (hm:VRel β m m') (hk:VRel β key key') (h:delV P kt m key H=some H') :
  ∃w',(Builtin.delete_ #[T,t2] ty #[m',key']).run P w=.ok (.tuple #[]) w'∧Rel P w' H' β∧Ext w.heap.size w H β w' H' β:=by
 unfold delV at h;split at h
 ·rename_i hsh;split at h
  ·cases h;cases hm;have hck:=zdF (P:=P) (β:=β) true 20 10000 kt key key' w (by omega) hsh hk;refine⟨w,?_,hR,Ext.refl _ _ _ _⟩;simp[Builtin.delete_,zaz w hu,hck]
  ·rename_i i;split at h
   ·rename_i kv hg;cases hm with
    |map _ x hx=>
    obtain⟨x',hx',es,clock,h1,h2,h3⟩:=hR.maps i kv hg;rw[hx]at hx';cases hx';have hck:=zdF (P:=P) (β:=β) es.isEmpty 20 10000 kt key key' w (by omega) hsh hk;split at h
    ·rename_i j u hf;cases h;have hfk:=zdp (w:=w) hd hk hf h2;obtain⟨_,k0,hk0,_⟩:=zi7 kv 0 j u hf;simp only[Nat.sub_zero]at hk0;have hjl:j<es.toList.length:=by rw[←h2.1];exact(List.getElem?_eq_some_iff.1 hk0).1
     have hjs:j<es.size:=by simpa using hjl
     have htl:(es.eraseIdxIfInBounds j).toList=es.toList.eraseIdx j:=by simp[Array.eraseIdxIfInBounds,hjs,Array.toList_eraseIdx]
     obtain⟨g1,g2⟩:=hR.setMap hg hx (kv':=kv.eraseIdx j) (es':=es.eraseIdxIfInBounds j) (clock':=clock) (by
      rw[htl];refine⟨by simp only[length_eraseIdx];rw[h2.1],fun q k2 v2 e2 hq he=>?_⟩;rw[List.getElem?_eraseIdx]at hq he;split at hq
      ·rename_i hc;rw[if_pos hc]at he;exact h2.2 q k2 v2 e2 hq he
      ·rename_i hc;rw[if_neg hc]at he;exact h2.2 _ k2 v2 e2 hq he) (by
      rw[htl];intro e he
      exact h3 e (mem_of_mem_eraseIdx he))
     refine⟨_,?_,g1,g2⟩;have he2:es.toList[j]?=some es.toList[j]:=by simp
     simp[Builtin.delete_,zaz w hu,zcC h1,hck,hfk,zfT,hjs,zf1 h1]
    ·rename_i hf;cases h;have hfk:=zdp (w:=w) hd hk hf h2;have hset:H.set i (some (.map kv))=H:=by
      unfold Hp.set;have:(fun j=>if j=i then some (AObj.map kv) else H.get j)=H.get:=by
       funext j;split
       ·rename_i e;rw[e,hg]
       ·rfl
      rw[this]
     obtain⟨g1,g2⟩:=hR.setMap hg hx (kv':=kv) (es':=es) (clock':=clock) h2 h3;rw[hset]at g1 g2;refine⟨_,?_,g1,g2⟩;simp[Builtin.delete_,zaz w hu,zcC h1,hck,hfk,zfT,zf1 h1]
    ·cases h
   ·cases h
  ·cases h
 ·cases h
end
end Go.AM
namespace Go.AM
open Go
section
variable {α:Type}{C:Ctx}{N:Nat}{w:World}{S:St}{β:Bt}{lam:Nat→Nat}{fr:Fr}{a:Act}{o:Oper}{k:Slot→St→Option α}{r:α}
theorem arr1{γ:Type}{A:Array γ}{x:γ}(h:A.toList=[x]):A = #[x]:=by cases A;simp at h;subst h;rfl
theorem arr2{γ:Type}{A:Array γ}{x y:γ}(h:A.toList=[x,y]):A = #[x,y]:=by cases A;simp at h;subst h;rfl
theorem lrel1{β:Bt}{x:Value}{l:List Value}(h:LRel β [x] l):∃x',l=[x']∧VRel β x x':=by
 match l,h with
 |[y],h=>exact⟨y,rfl,h.2 0 x y rfl rfl⟩
 |[],h=>cases h.1
 |_::_::_,h=>cases h.1
theorem lrel2{β:Bt}{x y:Value}{l:List Value}(h:LRel β [x,y] l):∃x' y',l=[x',y']∧VRel β x x'∧VRel β y y':=by
 match l,h with
 |[u,v],h=>exact⟨u,v,rfl,h.2 0 x u rfl rfl,h.2 1 y v rfl rfl⟩
 |[],h=>cases h.1
 |[_],h=>cases h.1
 |_::_::_::_,h=>cases h.1
theorem zqN{A:Array Operand}{f:Operand→Value}{l:List Value}(h:A.toList.map f=l):A.map f=l.toArray:=by cases A;simp at h ⊢;exact h
theorem zoq{c:Call}{b:Builtin}(ho:o.op=.call c)(hc:c.callee=.builtin b)(hN:N≤w.heap.size)(h:opC C fr S o k=some r)(hR:Rel C.P w S.hp β)(hF:FRel N w S.bx β lam fr a):Step C.P N w S β lam fr a o k r:=by
 simp only[opC,ho,hc]at h;obtain⟨vs,hvs,h1⟩:=zfV hR hF _ h;clear h;generalize hl:List.map a.eval c.args.toList=l at hvs;have hl':=zqN hl;split at h1
 ·rename_i x t htl;obtain⟨x',rfl,hx⟩:=lrel1 hvs;have hat:=arr1 htl;split at h1
  ·rename_i d hd;split at h1
   ·rename_i q hq;unfold pLen at h1;split at h1
    ·rename_i v hv;obtain⟨hrun,hvv⟩:=len_ok (ty:=o.type) hR hd hq hx hv;refine Step.val hR hF h1 (v':=v) ?_ hvv;simp only[execOp,ho,resolve,hc,hl',hat,Sem.run_bind,Sem.run_pure,Result.andThen_ok,invoke,builtin,hrun]
    ·cases h1
   ·cases h1
  ·cases h1
 ·rename_i s x t u htl;obtain⟨s',x',rfl,hs,hx⟩:=lrel2 hvs;have hat:=arr2 htl;obtain⟨e,i,z,hu,hi,hz,h0,hb0,hzl,_,_,h2⟩:=zfZ h1;clear h1;have key:∀du,C.P.underlying u=some du→((∃q,du=.slice q)∨du=.string)→zhm (gtOf C.P C.O t) i.size i.bytes s x S.hp (fun v H=>k (.val v) ⟨S.bx,H⟩)=some r→Step C.P N w S β lam fr a o k r:=by
   intro du hdu hdu' h3;unfold zhm at h3;split at h3
   ·rename_i e' hg;have hee:e'=e:=by unfold gtOf at hg;rw[hu]at hg;dsimp only at hg;split at hg<;>cases hg;rfl
    subst hee;unfold zbG at h3;split at h3
    ·rename_i v H' hap;obtain⟨v',w',β',hrun,g1,g2,g3,g4⟩:=zn8 (ty:=o.type) hR hu hi hz h0 hb0 hzl hdu hdu' hs hx hap;have hrun':(execOp a.eval o).run C.P w=.ok (.value v') w':=by simp only[execOp,ho,resolve,hc,hl',hat,Sem.run_bind,Sem.run_pure,Result.andThen_ok,invoke,builtin,hrun]
     unfold zqM at h3;split at h3
     ·rename_i hm;rw[Bool.and_eq_true]at hm;exact Step.heap (v':=v') hN hR hF h3 (.inl hrun') (g1.mark (g4 (Nat.eq_of_beq_eq_true hm.1) hm.2)) (g2.mark _ _) g3
     ·exact Step.heap (v':=v') hN hR hF h3 (.inl hrun') g1 g2 g3
    ·cases h3
   ·unfold zbb at h3;split at h3
    ·rename_i v H' hap;obtain⟨v',w',β',hrun,g1,g2,g3,g4⟩:=zn8 (ty:=o.type) hR hu hi hz h0 hb0 hzl hdu hdu' hs hx hap;refine Step.heap (v':=v') hN hR hF h3 (.inl ?_) g1 g2 g3;simp only[execOp,ho,resolve,hc,hl',hat,Sem.run_bind,Sem.run_pure,Result.andThen_ok,invoke,builtin,hrun]
    ·cases h3
  split at h2
  ·rename_i q hq;exact key _ hq (.inl ⟨q,rfl⟩) h2
  ·rename_i hq;exact key _ hq (.inr rfl) h2
  ·cases h2
 ·rename_i s x t u htl;obtain⟨s',x',rfl,hs,hx⟩:=lrel2 hvs;have hat:=arr2 htl;obtain⟨e,i,z,hu,hi,hz,h0,hb0,hzl,_,_,h2⟩:=zfZ h1;clear h1;unfold pCopy at h2;split at h2
  ·rename_i v H' hap;obtain⟨w',hrun,g1,g2,g3⟩:=copy_ok (u:=u) (ty:=o.type) hR hu hi hs hx hap;refine Step.heap (v':=v) hN hR hF h2 (.inl ?_) g1 g2 g3;simp only[execOp,ho,resolve,hc,hl',hat,Sem.run_bind,Sem.run_pure,Result.andThen_ok,invoke,builtin,hrun]
  ·cases h2
 ·unfold pMM at h1;split at h1
  ·cases h1
  ·rename_i x rest;split at h1
   ·rename_i v hv
    match l,hvs with
    |x'::rest',hvs=>
    obtain⟨z',hrun,hr⟩:=mmL_ok (P:=C.P) (w:=w) rest x v x' rest' hv (hvs.2 0 _ _ rfl rfl) ⟨by simpa using hvs.1,fun k a b ha hb=>hvs.2 (k+1) a b (by simpa using ha) (by simpa using hb)⟩;simp only[if_true]at hrun;refine Step.val hR hF h1 (v':=z') ?_ hr;simp only[execOp,ho,resolve,hc,hl',Sem.run_bind,Sem.run_pure,Result.andThen_ok,invoke,builtin,Builtin.max_,hrun]
   ·cases h1
 ·unfold pMM at h1;split at h1
  ·cases h1
  ·rename_i x rest;split at h1
   ·rename_i v hv
    match l,hvs with
    |x'::rest',hvs=>
    obtain⟨z',hrun,hr⟩:=mmL_ok (P:=C.P) (w:=w) rest x v x' rest' hv (hvs.2 0 _ _ rfl rfl) ⟨by simpa using hvs.1,fun k a b ha hb=>hvs.2 (k+1) a b (by simpa using ha) (by simpa using hb)⟩;simp only[Bool.false_eq_true,if_false]at hrun;refine Step.val hR hF h1 (v':=z') ?_ hr;simp only[execOp,ho,resolve,hc,hl',Sem.run_bind,Sem.run_pure,Result.andThen_ok,invoke,builtin,Builtin.min_,hrun]
   ·cases h1
 ·rename_i m key T t2 htl;obtain⟨m',key',rfl,hm,hk⟩:=lrel2 hvs;have hat:=arr2 htl;obtain⟨kt,et,d,i,z,hu,hd,hi,hz,hzc,h2⟩:=zi5 h1;clear h1;unfold pDel at h2;split at h2
  ·rename_i H' hdel;obtain⟨w',hrun,g1,g2⟩:=del_ok (t2:=t2) (ty:=o.type) hR hu hd hm hk hdel;refine Step.heap (v':=.tuple #[]) hN hR hF h2 (.inl ?_) g1 g2 (zb2.2 ⟨_,rfl,LRel.nil _⟩);simp only[execOp,ho,resolve,hc,hl',hat,Sem.run_bind,Sem.run_pure,Result.andThen_ok,invoke,builtin,hrun]
  ·cases h2
 ·cases h1
theorem sim_range{T:TypeId}{x:Operand}(ho:o.op=.range T x)(hN:N≤w.heap.size)(h:opC C fr S o k=some r)(hR:Rel C.P w S.hp β)(hF:FRel N w S.bx β lam fr a):Step C.P N w S β lam fr a o k r:=by
 simp only[opC,ho]at h;obtain⟨v,hv,h1⟩:=za7 hR hF h;clear h;split at h1
 ·rename_i d hT hd;split at h1
  ·cases h1
  ·rename_i hb;unfold zqG at h1;split at h1
   ·rename_i s;generalize hq:a.eval x=q at hv;cases hv;obtain⟨g1,g2,g3,g4⟩:=new_box hN hR hF hb (.iter s 0) (.stringIter s 0) (fun w' hw'=>hw');refine⟨_,_,w.alloc (.stringIter s 0),.pointer (some ⟨w.heap.size,0,none⟩),β,_,h1,.inl ?_,g1,g2,⟨by simp[St.setB],by rw[g4]⟩,g3,BMv.new hb⟩;simp only[execOp,ho,hq,Instr.range,Sem.run_bind,zaz w hT,Result.andThen_ok,Sem.run_pure,run_newObj,World.alloc]
   ·cases h1
 ·cases h1
theorem sim_next{x:Operand}(ho:o.op=.next x true)(hN:N≤w.heap.size)(h:opC C fr S o k=some r)(hR:Rel C.P w S.hp β)(hF:FRel N w S.bx β lam fr a):Step C.P N w S β lam fr a o k r:=by
 simp only[opC,ho]at h;have hx:=zeE hR hF x;split at h
 ·rename_i d he;rw[he]at hx;have hx:a.eval x=.pointer (some ⟨lam d,0,none⟩):=hx.2;split at h
  ·rename_i s pos hb;obtain⟨b1,b2,b3,b4⟩:=hF.box d _ hb;have b4:w.heap[lam d]?=some (.stringIter s pos):=b4;unfold br at h;split at h
   ·rename_i hlt;have hlt:pos<s.size:=Nat.le_of_ble_eq_true hlt;have hrun:(execOp a.eval o).run C.P w=.ok (.value (.tuple #[.bool true,.int .i64 pos,.int .i32 (Utf8.decode s pos).1])) (World.setObj w (lam d) (.stringIter s (pos+(Utf8.decode s pos).2))):=by simp only[execOp,ho,hx,Instr.next,getObj,Go.setObj,Sem.run_bind,Sem.run_pure,Result.andThen_ok];simp[Sem.run,b4,hlt,World.setObj,goInt]
    have hoth:∀j,j≠lam d→(World.setObj w (lam d) (.stringIter s (pos+(Utf8.decode s pos).2))).heap[j]?=w.heap[j]?:=fun j hj=>zdK hj;have hsz:(World.setObj w (lam d) (.stringIter s (pos+(Utf8.decode s pos).2))).heap.size=w.heap.size:=by simp[World.setObj]
    refine⟨_,_,_,_,β,lam,h,.inl hrun,hR.frame (by rw[hsz];exact Nat.le_refl _) (fun i x hx=>hoth _ (b3 i x hx)),⟨hF.size,fun q s hs=>(hF.slot q s hs).bx (fun q hq=>zmZ hb (q:=q) rfl q hq),fun q c hq=>?_,fun q q' h1 h2 hne=>?_⟩,
     zb2.2 ⟨_,rfl,LRel.cons (.bool _) (LRel.cons (.int _ _) (LRel.cons (.int _ _) (LRel.nil _)))⟩,
     ⟨rfl,rfl,rfl,by rw[hsz];exact Nat.le_refl _,Bt.le_refl _,Nat.le_refl _,fun b hb' _=>hoth b (by omega),fun b q=>.inr q,fun i x hx hn=>by rw[hn]at hx;cases hx⟩,BMv.set (by rw[hb];exact⟨_,_,rfl⟩)⟩
    ·simp only[St.setB]at hq;split at hq
     ·rename_i e;subst e;cases hq;exact⟨b1,by rw[hsz];exact b2,b3,zjj b2⟩
     ·rename_i e;obtain⟨c1,c2,c3,c4⟩:=hF.box q c hq;have hne:lam q≠lam d:=hF.apart q d (by simp[hq]) (by simp[hb]) e;exact⟨c1,by rw[hsz];exact c2,c3,c4.mono (Bt.le_refl _) (hoth _ hne)⟩
    ·simp only[St.setB]at h1 h2;refine hF.apart q q' ?_ ?_ hne
     ·split at h1
      ·rename_i e;rw[e];simp[hb]
      ·exact h1
     ·split at h2
      ·rename_i e;rw[e];simp[hb]
      ·exact h2
   ·rename_i hlt;have hlt:¬pos<s.size:=Nat.not_le_of_not_ble_eq_true (by unfold Nat.blt at hlt;rw[hlt];exact Bool.false_ne_true);have hrun:(execOp a.eval o).run C.P w=.ok (.value (.tuple #[.bool false])) w:=by simp only[execOp,ho,hx,Instr.next,getObj,Sem.run_bind,Sem.run_pure,Result.andThen_ok];simp[Sem.run,b4,hlt]
    exact Step.val hR hF h hrun (zb2.2 ⟨_,rfl,LRel.cons (.bool _) (LRel.nil _)⟩)
  ·cases h
 ·cases h
end
def zoe(P:Program)(f:FuncId):Prop:=∃fn,P.funcs[f]?=some fn∧(fn.name == "runtime.NumGoroutine")=false∧fn.body.isNone=false
def XT(P:Program)(f:FuncId)(args:List Value)(v:Value):Prop:=∀args' β w,LRel β args args'→∃v',VRel β v v'∧(callFunc f args'.toArray).run P w=.ok (.value v') w
def XtC(P:Program)(xt:FuncId→Option (List Value→Option Value)):Prop:=∀f e,xt f=some e→∀args v,e args=some v→XT P f args v
def Ends(P:Program)(pan:Bool)(w:World)(H:Hp)(β:Bt)(v:Value)(H':Hp)(e:Ending)(w':World):Prop:=
 match pan with
 |false=>∃v' β',e=.returned v'∧Rel P w' H' β'∧Ext w.heap.size w H β w' H' β'∧VRel β' v v'
 |true=>∃v' β',Rel P w' H' β'∧Ext w.heap.size w H β w' H' β'∧((∃u,v=W1 u∧e=.returned v'∧VRel β' u v')∨(∃x,v=W0 x∧e=.panicked [{ v:=v',recovered:=false }]∧VRel β' x v'))
def SimC(P:Program)(O:Orc)(h:zai):Prop:=∀f args H v H',h f args H=some (v,H')→(zoe P f∧∀args' w β,LRel β args args'→Rel P w H β →
 Calls P f args'.toArray w (Ends P (O.pan f) w H β v H'))∨(O.pan f=false∧H'=H∧(∃fn,P.funcs[f]?=some fn∧fn.body=none)∧XT P f args v)
theorem ziU{α:Type}{v:Value}{k kp:Value→Option α}{r:α}(h:zhj v k kp=some r):(∃u,v=W1 u∧k u=some r)∨(∃x,v=W0 x∧kp x=some r):=by
 unfold zhj at h;split at h
 ·exact .inl ⟨_,rfl,h⟩
 ·exact .inr ⟨_,rfl,h⟩
 ·cases h
theorem zfY{P:Program}{f:FuncId}(h:zoe P f)(args:Array Value)(w:World):(callFunc f args).run P w=.ok (.enter f args) w:=by
 obtain⟨fn,h1,h2,h3⟩:=h;simp only[callFunc,Sem.run_bind];show ((Sem.program Sem.pure:Sem Program).run P w).andThen _=_;have h2a:¬fn.name = "runtime.NumGoroutine" := by simpa using h2
 have h3a:¬fn.body=none:=by intro e;rw[e]at h3;cases h3
 simp[Sem.run,h1,h2a,h3a]
section
variable {α:Type}{C:Ctx}{N:Nat}{w:World}{S:St}{β:Bt}{lam:Nat→Nat}{fr:Fr}{a:Act}{o:Oper}{k:Slot→St→Option α}{r:α}
theorem Step.wp(h:Step C.P N w S β lam fr a o k r)(hN:N≤w.heap.size){next:Act→World→Prop}{Q:Exit→Act→World→Prop}
  (hnext:∀s S' w' v' β' lam',k s S'=some r→Rel C.P w' S'.hp β'→FRel N w' S'.bx β' lam' fr a→SRel β' lam' S'.bx s v'→Ext N w S.hp β w' S'.hp β'→BMv S.bx lam S'.bx lam'→next (a.put o.dst v') w'):o.wp C.P a w next Q:=by
 obtain⟨s,S',w',v',β',lam',h1,h2,h3,h4,h5,h6,h7⟩:=h;have:=hnext s S' w' v' β' lam' h1 h3 h4 h5 h6 h7;unfold Oper.wp;rcases h2 with h2|⟨h2,rfl⟩
 ·rw[h2];exact this
 ·rw[h2];exact this
theorem zq1(hh:SimC C.P C.O C.h){c:Call}{fo:Operand}(ho:o.op=.call c)(hc:c.callee=.value fo)(hN:N≤w.heap.size)(h:opC C fr S o k=some r)(hR:Rel C.P w S.hp β)(hF:FRel N w S.bx β lam fr a)
  {next:Act→World→Prop} {Q:Exit→Act→World→Prop}
  (hnext:∀s S' w' v' β' lam',k s S'=some r→Rel C.P w' S'.hp β'→FRel N w' S'.bx β' lam' fr a→SRel β' lam' S'.bx s v'→Ext N w S.hp β w' S'.hp β'→BMv S.bx lam S'.bx lam'→next (a.put o.dst v') w'):o.wp C.P a w next Q:=by
 simp only[opC,ho,hc]at h;obtain⟨fv,hfv,h1⟩:=za7 hR hF h;clear h;obtain⟨vs,hvs,h2⟩:=zfV hR hF _ h1;clear h1;have hrunE:∀(g:FuncId) (fs' cs':List Value),a.eval fo=.func (.func g) fs'.toArray cs'.toArray→zoe C.P g→(execOp a.eval o).run C.P w=.ok (.enter g (fs'++(List.map a.eval c.args.toList++cs')).toArray) w:=by intro g fs' cs' hq hen;simp only[execOp,ho,resolve,hc,hq,Deferred.ofValue,Sem.run_bind,Sem.run_pure,Result.andThen_ok,invoke,zfY hen];congr 2;apply Array.ext';simp
 unfold zgd at h2;split at h2
 ·rename_i g first captured;generalize hq:a.eval fo=q at hfv;obtain⟨first⟩:=first;obtain⟨captured⟩:=captured;cases hfv with
  |func fn fs fs' cs cs' hl hh1 hl2 hh2=>
  have hargs:LRel β (first++(vs++captured)) (fs'++(List.map a.eval c.args.toList++cs')):=
   LRel.append ⟨hl,hh1⟩ (LRel.append hvs ⟨hl2,hh2⟩)
  split at h2
  ·rename_i hpan;unfold zab at h2;split at h2
   ·rename_i v H' hcall;rcases hh _ _ _ _ _ hcall with⟨hen,hcalls⟩|⟨_,rfl,_,hxt⟩
    case inr=>
     obtain⟨v',hv',hcf⟩:=hxt _ β w hargs;have hrun:(execOp a.eval o).run C.P w=.ok (.value v') w:=by
      have e1:(fs'.toArray++(Array.map a.eval c.args)++cs'.toArray)=(fs'++(List.map a.eval c.args.toList++cs')).toArray:=by apply Array.ext';simp
      simp only[execOp,ho,resolve,hc,hq,Deferred.ofValue,Sem.run_bind,Sem.run_pure,Result.andThen_ok,invoke]
      first|exact hcf | (rw[e1];exact hcf) | (simpa using hcf)
     unfold Oper.wp;rw[hrun];exact hnext (.val v) ⟨S.bx,S.hp⟩ w v' β lam h2 hR hF hv' (Ext.refl _ _ _ _) (BMv.refl _ _)
    have:=hcalls _ w β hargs hR;unfold Oper.wp;rw[hrunE g fs' cs' hq hen];refine Calls.mono this fun e w' he=>?_;unfold Ends at he;rw[hpan]at he;obtain⟨v',β',rfl,g1,g2,g3⟩:=he;exact hnext (.val v) ⟨S.bx,H'⟩ w' v' β' lam h2 g1 (hF.ext hR.has g2) g3 (g2.weaken hN) (BMv.refl _ _)
   ·cases h2
  ·rename_i hpan;unfold zhl at h2;split at h2
   ·rename_i v H' hcall;obtain⟨u,rfl,h3⟩|⟨_,_,h3⟩:=ziU h2
    ·rcases hh _ _ _ _ _ hcall with⟨hen,hcalls⟩|⟨q,_⟩
     ·have:=hcalls _ w β hargs hR;unfold Oper.wp;rw[hrunE g fs' cs' hq hen];refine Calls.mono this fun e w' he=>?_;unfold Ends at he;rw[hpan]at he;obtain⟨v',β',g1,g2,⟨u',q1,rfl,g3⟩|⟨x,q1,_⟩⟩:=he
      ·cases q1;exact hnext (.val u) ⟨S.bx,H'⟩ w' v' β' lam h3 g1 (hF.ext hR.has g2) g3 (g2.weaken hN) (BMv.refl _ _)
      ·cases q1
     ·rw[hpan]at q;cases q
    ·cases h3
   ·cases h2
 ·cases h2
theorem znt(hh:SimC C.P C.O C.h)(hN:N≤w.heap.size){kp:Value→Hp→Option α}(h:opW C fr S o kp k=some r)(hp:panS C o=true)(hR:Rel C.P w S.hp β)(hF:FRel N w S.bx β lam fr a)
  {next:Act→World→Prop} {Q:Exit→Act→World→Prop}
  (hpan:∀x H' w' β' x',kp x H'=some r→Rel C.P w' H' β'→FRel N w' S.bx β' lam fr a→VRel β' x x'→Ext N w S.hp β w' H' β'→Q (.panic [{ v:=x',recovered:=false }]) a w')
  (hnext:∀s S' w' v' β' lam',k s S'=some r→Rel C.P w' S'.hp β'→FRel N w' S'.bx β' lam' fr a→SRel β' lam' S'.bx s v'→Ext N w S.hp β w' S'.hp β'→BMv S.bx lam S'.bx lam'→next (a.put o.dst v') w'):o.wp C.P a w next Q:=by
 unfold opW at h;split at h
 ·rename_i c ho;split at h
  ·rename_i g hc;obtain⟨vs,hvs,h2⟩:=zfV hR hF _ h;have hpg:C.O.pan g=true:=by unfold panS at hp;rw[ho]at hp;dsimp only at hp;rw[hc]at hp;exact hp
   unfold zjZ at h2;split at h2
   ·rename_i v H' hcall;rcases hh _ _ _ _ _ hcall with⟨hen,hcalls⟩|⟨q,_⟩
    ·have hrun:(execOp a.eval o).run C.P w=.ok (.enter g (List.map a.eval c.args.toList).toArray) w:=by simp only[execOp,ho,resolve,hc,Act.eval,Deferred.ofValue,Sem.run_bind,Sem.run_pure,Result.andThen_ok,invoke,zfY hen];congr 2;apply Array.ext';simp
     unfold Oper.wp;rw[hrun];refine Calls.mono (hcalls _ w β hvs hR) fun e w' he=>?_;unfold Ends at he;rw[hpg]at he;obtain⟨v',β',g1,g2,⟨u',q1,rfl,g3⟩|⟨x,q1,rfl,g3⟩⟩:=he
     ·subst q1;rcases ziU h2 with⟨u,e1,h3⟩|⟨_,e1,_⟩
      ·cases e1;exact hnext (.val u') ⟨S.bx,H'⟩ w' v' β' lam h3 g1 (hF.ext hR.has g2) g3 (g2.weaken hN) (BMv.refl _ _)
      ·cases e1
     ·subst q1;rcases ziU h2 with⟨u,e1,_⟩|⟨y,e1,h3⟩
      ·cases e1
      ·cases e1;exact hpan x H' w' β' v' h3 g1 (hF.ext hR.has g2) g3 (g2.weaken hN)
    ·rw[hpg]at q;cases q
   ·cases h2
  ·cases h
 ·rename_i x ho;obtain⟨v,hv,h1⟩:=za7 hR hF h;unfold zno at h1;split at h1
  ·rename_i T u;generalize hq:a.eval x=q at hv;cases hv with
   |iface _ _ u' hu=>
   have hrun:(execOp a.eval o).run C.P w=.halt (.panic (.iface T u')) w:=by simp only[execOp,ho,hq];rfl
   unfold Oper.wp;rw[hrun];exact hpan (.iface T u) S.hp w β (.iface T u') h1 hR hF (.iface _ _ _ hu) (Ext.refl _ _ _ _)
  ·cases h1
 ·cases h
theorem zhD{T:TypeId}{x:Operand}(ho:o.op=.makeInterface T x)(h:opC C fr S o k=some r)(hR:Rel C.P w S.hp β)(hF:FRel N w S.bx β lam fr a):Step C.P N w S β lam fr a o k r:=by
 simp only[opC,ho]at h;obtain⟨v,hv,h⟩:=za7 hR hF h;unfold znH at h;split at h
 ·cases h
 ·rename_i d hne hu;refine Step.val hR hF h (v':=.iface T (a.eval x)) ?_ (.iface _ _ _ hv);simp only[execOp,ho,Instr.makeInterface,Sem.run_bind,zaz w hu,Result.andThen_ok];cases d<;>first|rfl|exact absurd rfl (hne _)
 ·cases h
theorem zkP{T T':TypeId}{x:Operand}{ok:Bool}(ho:o.op=.typeAssert x T' T ok)(h:opC C fr S o k=some r)(hR:Rel C.P w S.hp β)(hF:FRel N w S.bx β lam fr a):Step C.P N w S β lam fr a o k r:=by
 simp only[opC,ho]at h;obtain⟨v,hv,h1⟩:=za7 hR hF h;clear h;unfold zj1 at h1;split at h1
 ·cases h1
 ·rename_i d hne hu;split at h1
  ·rename_i t u;split at h1
   ·rename_i ht;have ht:t=T:=Nat.eq_of_beq_eq_true ht;subst ht;generalize hq:a.eval x=q at hv;cases hv with
    |iface _ _ u' hu'=>
    have hrun:(Instr.typeAssert (.iface t u') T' t ok).run C.P w=.ok (if ok then .tuple #[u',.bool true] else u') w:=by unfold Instr.typeAssert;simp only[Sem.run_bind,zaz w hu,Result.andThen_ok];cases d<;>first | (exact absurd rfl (hne _)) | (simp)
    cases ok with
    |true=>
     refine Step.val hR hF h1 (v':=.tuple #[u',.bool true]) ?_ (zb2.2 ⟨_,rfl,(LRel.nil _).cons (.bool true) |>.cons hu'⟩);simp only[execOp,ho,hq,Sem.run_bind,hrun];rfl
    |false=>
     refine Step.val hR hF h1 (v':=u') ?_ hu';simp only[execOp,ho,hq,Sem.run_bind,hrun];rfl
   ·cases h1
  ·cases h1
 ·cases h1
theorem zi4(hh:SimC C.P C.O C.h)(hN:N≤w.heap.size)(h:opC C fr S o k=some r)(hR:Rel C.P w S.hp β)(hF:FRel N w S.bx β lam fr a)
  {next:Act→World→Prop} {Q:Exit→Act→World→Prop}
  (hnext:∀s S' w' v' β' lam',k s S'=some r→Rel C.P w' S'.hp β'→FRel N w' S'.bx β' lam' fr a→SRel β' lam' S'.bx s v'→Ext N w S.hp β w' S'.hp β'→BMv S.bx lam S'.bx lam'→next (a.put o.dst v') w'):o.wp C.P a w next Q:=by
 have none_of:∀{x:Option α},x=none→x=some r→False:=fun h1 h2=>by rw[h1]at h2;cases h2
 cases ho:o.op with
 |move x=>exact(zpx (.inl ho) h hR hF).wp hN hnext
 |assign x=>exact(zpx (.inr ho) h hR hF).wp hN hnext
 |pick c x y=>exact(sim_pick ho h hR hF).wp hN hnext
 |alloc T=>exact(sim_alloc ho hN h hR hF).wp hN hnext
 |box T x=>exact(sim_box ho hN h hR hF).wp hN hnext
 |build T p=>exact(sim_build ho h hR hF).wp hN hnext
 |buildSlice T n p=>exact(zkQ ho hN h hR hF).wp hN hnext
 |insert T m x y=>exact(zg2 (.inr ho) hN h hR hF).wp hN hnext
 |load T x=>exact(sim_load ho h hR hF).wp hN hnext
 |store T x y=>exact(sim_store ho hN h hR hF).wp hN hnext
 |nilCheck x=>exact(sim_nil ho h hR hF).wp hN hnext
 |binOp op T x y T'=>exact(sim_binOp ho h hR hF).wp hN hnext
 |unOp op T x=>exact(sim_unOp ho h hR hF).wp hN hnext
 |convert s d x=>exact(zop ho hN h hR hF).wp hN hnext
 |makeFunc f p q=>exact(zmY ho h hR hF).wp hN hnext
 |makeMap T x=>
  cases x with
  |none=>exact(zon ho hN h hR hF).wp hN hnext
  |some x=>exact(zmX ho hN h hR hF).wp hN hnext
 |makeSlice T l c=>exact(zlX ho hN h hR hF).wp hN hnext
 |slice T x lo hi mx=>
  cases mx with
  |none=>exact(sim_slice ho h hR hF).wp hN hnext
  |some m=>simp[opC,ho]at h
 |fieldAddr T x f=>exact(zlZ ho h hR hF).wp hN hnext
 |field T x f=>exact(sim_field ho h hR hF).wp hN hnext
 |indexAddr T x i=>exact(zlY ho h hR hF).wp hN hnext
 |index T x i=>exact(sim_index ho h hR hF).wp hN hnext
 |lookup T x i ok=>exact(zqt ho h hR hF).wp hN hnext
 |mapUpdate T m x y=>exact(zg2 (.inl ho) hN h hR hF).wp hN hnext
 |range T x=>exact(sim_range ho hN h hR hF).wp hN hnext
 |next x b=>
  cases b with
  |true=>exact(sim_next ho hN h hR hF).wp hN hnext
  |false=>simp[opC,ho]at h
 |extract t i=>exact(zoo ho h hR hF).wp hN hnext
 |makeInterface T x=>exact(zhD ho h hR hF).wp hN hnext
 |typeAssert x T' T ok=>exact(zkP ho h hR hF).wp hN hnext
 |call c=>
  cases hc:c.callee with
  |value fo=>exact zq1 hh ho hc hN h hR hF hnext
  |invoke x m=>simp[opC,ho,hc]at h
  |builtin b=>exact(zoq ho hc hN h hR hF).wp hN hnext
 |_=>simp[opC,ho]at h
theorem FRel.put(hF:FRel N w S.bx β lam fr a){s:Slot}{v:Value}(hs:SRel β lam S.bx s v)(d:Option Tmp):FRel N w S.bx β lam (putS fr d s) (a.put d v):=by
 cases d with
 |none=>exact hF
 |some d=>
  refine⟨by simp[Act.put,putS,hF.size],fun e s' he=>?_,hF.box,hF.apart⟩;simp only[putS,List.getElem?_set]at he;simp only[Act.put,Array.getD_eq_getD_getElem?,Array.getElem?_setIfInBounds];by_cases hed:d=e
  ·subst hed;rw[if_pos rfl]at he ⊢;split at he
   ·rename_i hlt;cases he;rw[if_pos (by rw[hF.size];exact hlt)];exact hs
   ·cases he
  ·rw[if_neg hed]at he ⊢;have:=hF.slot e s' he;rw[Array.getD_eq_getD_getElem?]at this;exact this
end
end Go.AM
namespace Go.AM
open List Go
structure Good(P:Program)(w0:World)(H0:Hp)(β0:Bt)(fr:Fr)(S:St)(a:Act)(w:World)(β:Bt)(lam:Nat→Nat):Prop where
 rel:Rel P w S.hp β
 fr:FRel w0.heap.size w S.bx β lam fr a
 ext:Ext w0.heap.size w0 H0 β0 w S.hp β
structure zbU(W:List Nat)(S:St)(a:Act)(β:Bt)(lam:Nat→Nat)(S':St)(a':Act)(β':Bt)(lam':Nat→Nat):Prop where
 tmps:∀d,d∉W→a'.tmps.getD d undef=a.tmps.getD d undef
 size:a'.tmps.size=a.tmps.size
 bx:BMv S.bx lam S'.bx lam'
 le:β.le β'
 dfr:a'.defers=a.defers
theorem zbU.refl(W:List Nat)(S:St)(a:Act)(β:Bt)(lam:Nat→Nat):zbU W S a β lam S a β lam:=⟨fun _ _=>rfl,rfl,BMv.refl _ _,Bt.le_refl _,rfl⟩
theorem zbU.trans{W W1 W2:List Nat}{S1 S2 S3:St}{a1 a2 a3:Act}{β1 β2 β3:Bt}{l1 l2 l3:Nat→Nat}(h:zbU W1 S1 a1 β1 l1 S2 a2 β2 l2)(k:zbU W2 S2 a2 β2 l2 S3 a3 β3 l3)
  (h1:∀d,d∉W→d∉W1) (h2:∀d,d∉W→d∉W2):zbU W S1 a1 β1 l1 S3 a3 β3 l3:=
 ⟨fun d hd=>(k.tmps d (h2 d hd)).trans (h.tmps d (h1 d hd)),k.size.trans h.size,h.bx.trans k.bx,Bt.le_trans h.le k.le,k.dfr.trans h.dfr⟩
theorem zbU.put{W:List Nat}{S1 S2 S3:St}{a1 a2:Act}{β1 β2 β3:Bt}{l1 l2 l3:Nat→Nat}(h:zbU W S1 a1 β1 l1 S2 a2 β2 l2){d:Option Tmp}(hd:∀e,d=some e→e∈W)(v:Value)
  (hb:BMv S2.bx l2 S3.bx l3) (hl:β2.le β3):zbU W S1 a1 β1 l1 S3 (a2.put d v) β3 l3:=by
 refine⟨fun e he=>?_,?_,h.bx.trans hb,Bt.le_trans h.le hl,by rw[←h.dfr];cases d<;>rfl⟩
 ·rw[←h.tmps e he];cases d with
  |none=>rfl
  |some d=>
   have hne:d≠e:=fun q=>he (q▸hd d rfl);simp[Act.put,Array.getD_eq_getD_getElem?,Array.getElem?_setIfInBounds_ne hne]
 ·rw[←h.size];cases d<;>simp[Act.put]
structure Kept(W:List Nat)(a:Act)(β:Bt)(a':Act)(β':Bt):Prop where
 tmps:∀d,d∉W→a'.tmps.getD d undef=a.tmps.getD d undef
 size:a'.tmps.size=a.tmps.size
 le:β.le β'
 dfr:a'.defers=a.defers
theorem zbU.kept{W:List Nat}{S S':St}{a a':Act}{β β':Bt}{l l':Nat→Nat}(h:zbU W S a β l S' a' β' l'):Kept W a β a' β':=⟨h.tmps,h.size,h.le,h.dfr⟩
theorem Kept.trans{W W1 W2:List Nat}{a1 a2 a3:Act}{β1 β2 β3:Bt}(h:Kept W1 a1 β1 a2 β2)(k:Kept W2 a2 β2 a3 β3)(h1:∀d,d∉W→d∉W1)(h2:∀d,d∉W→d∉W2):Kept W a1 β1 a3 β3:=
 ⟨fun d hd=>(k.tmps d (h2 d hd)).trans (h.tmps d (h1 d hd)),k.size.trans h.size,Bt.le_trans h.le k.le,k.dfr.trans h.dfr⟩
theorem Good.n{P:Program}{w0:World}{H0:Hp}{β0:Bt}{fr:Fr}{S:St}{a:Act}{w:World}{β:Bt}{lam:Nat→Nat}(h:Good P w0 H0 β0 fr S a w β lam):w0.heap.size≤w.heap.size:=h.ext.size
section
variable {α:Type}{C:Ctx}{w0:World}{H0:Hp}{β0:Bt}{r:α}
theorem zgJ{N:Nat}{w:World}{bx:Nat→Option Bx}{β:Bt}{lam:Nat→Nat}{fr:Fr}{a:Act}{ops:List Oper}{o:Oper}{k:Bool→Fr→Option α}(h:zd3 ops fr o k=some r)(hF:FRel N w bx β lam fr a) :
  ∃b fr',k b fr'=some r∧FRel N w bx β lam fr' a∧Region.wanted o (yielded ops.toArray a.tmps)=b:=by
 unfold zd3 at h;split at h
 ·rename_i hg;exact⟨true,fr,h,hF,by simp[Region.wanted,hg]⟩
 ·rename_i j want hg;split at h
  ·rename_i g hj;split at h
   ·rename_i d hd;have hin:∀s,getS fr d=s→s≠.unk→fr[d]?=some s∧d<a.tmps.size:=fun s hs hn=>by
     unfold getS at hs;rw[getD_eq_getElem?_getD]at hs;cases hq:fr[d]? with
     |none=>rw[hq]at hs;exact absurd hs.symm hn
     |some s'=>rw[hq]at hs;exact⟨by rw[←hs];rfl,by rw[hF.size];exact(List.getElem?_eq_some_iff.1 hq).1⟩
    have hy:∀v,d<a.tmps.size→a.tmps.getD d undef=v→yielded ops.toArray a.tmps j=match v with | .bool b=>some b|_=>none:=fun v hlt hv=>by
     have hv':a.tmps[d]?=some v:=by rw[Array.getD_eq_getD_getElem?]at hv;simp[hlt]at hv ⊢;exact hv
     unfold yielded;simp only[List.getElem?_toArray,hj,Option.bind_some,hd,hv'];cases v<;>rfl
    split at h
    ·rename_i hu;obtain⟨h1,h2⟩:=hin _ hu (by simp);have h3:a.tmps.getD d undef=undef:=hF.slot d _ h1;refine⟨false,fr,h,hF,?_⟩;simp only[Region.wanted,hg,hy _ h2 h3];rfl
    ·obtain⟨v,hv,h⟩:=sV_inv h;unfold zae at h;split at h
     ·rename_i b;obtain⟨h1,h2⟩:=hin _ hv (by simp);have h3:VRel β (.bool b) (a.tmps.getD d undef):=hF.slot d _ h1;generalize hq:a.tmps.getD d undef=q at h3;cases h3;have hw:Region.wanted o (yielded ops.toArray a.tmps)=(b==want):=by simp only[Region.wanted,hg,hy _ h2 hq];cases b<;>cases want<;>rfl
      have hfr:FRel N w bx β lam (fr.set d (.val (.bool b))) a:=by
       refine⟨by simp[hF.size],fun e s' he=>?_,hF.box,hF.apart⟩;rw[List.getElem?_set]at he;by_cases hed:d=e
       ·subst hed;rw[if_pos rfl]at he;split at he
        ·cases he;rw[hq];exact VRel.bool b
        ·cases he
       ·rw[if_neg hed]at he;exact hF.slot e s' he
      unfold br at h;cases b with
      |true=>exact⟨want,_,h,hfr,by rw[hw];cases want<;>rfl⟩
      |false=>exact⟨!want,_,h,hfr,by rw[hw];cases want<;>rfl⟩
     ·cases h
   ·cases h
  ·cases h
theorem zf8(hh:SimC C.P C.O C.h){ops:List Oper}{kp:Value→Hp→Option α}{k:Fr→St→Option α}{Q:Exit→Act→World→Prop}{W:List Nat}{S1:St}{a1:Act}{β1:Bt}{l1:Nat→Nat}
  (hW:∀o∈ops,∀d,o.dst=some d→d∈W)
  (hk:∀fr S a w β lam,k fr S=some r→Good C.P w0 H0 β0 fr S a w β lam→zbU W S1 a1 β1 l1 S a β lam→Q .normal a w)
  (hkp:C.O.pan C.f=true→∀x fr S a w β lam x',kp x S.hp=some r→Good C.P w0 H0 β0 fr S a w β lam→Kept W a1 β1 a β→VRel β x x'→Q (.panic [{ v:=x',recovered:=false }]) a w) :
  ∀(rest:List Oper) (n:Nat) (fr:Fr) (S:St) (a:Act) (w:World) (β:Bt) (lam:Nat→Nat),ops.drop n=rest→opsC C ops kp k rest fr S=some r→Good C.P w0 H0 β0 fr S a w β lam→zbU W S1 a1 β1 l1 S a β lam →
   wpOps C.P ops.toArray Q (List.range' n rest.length) a w
 |[],n,fr,S,a,w,β,lam,hd,h,hG,hM=>by
  simp only[length_nil,List.range'_zero,wpOps];exact hk fr S a w β lam h hG hM
 |o::rest,n,fr,S,a,w,β,lam,hd,h,hG,hM=>by
  have hn:ops[n]?=some o:=by
   have:(ops.drop n)[0]?=some o:=by rw[hd];rfl
   rw[List.getElem?_drop]at this;simpa using this
  have hd':ops.drop (n+1)=rest:=by rw[←drop_drop,hd];rfl
  have hWo:=hW o (mem_of_getElem? hn);simp only[opsC]at h;obtain⟨b,fr',h1,hF',hw⟩:=zgJ h hG.fr;simp only[length_cons,List.range'_succ,wpOps,List.getElem?_toArray,hn,hw];cases b with
  |true=>
   simp only[if_true]
   have h1:(match C.O.pan C.f&&panS C o with
    |false=>opC C fr' S o fun s S'=>opsC C ops kp k rest (putS fr' o.dst s) S'
    |true=>opW C fr' S o kp fun s S'=>opsC C ops kp k rest (putS fr' o.dst s) S')=some r:=h1
   split at h1
   ·refine .inl (zi4 hh hG.n h1 hG.rel hF' fun s S' w' v' β' lam' g1 g2 g3 g4 g5 g6=>?_);exact zf8 hh hW hk hkp rest (n+1) _ S' _ w' β' lam' hd' g1 ⟨g2,g3.put g4 _,hG.ext.trans g5⟩ (hM.put hWo _ g6 g5.le)
   ·rename_i hp;rw[Bool.and_eq_true]at hp;refine .inl (znt hh hG.n h1 hp.2 hG.rel hF' (fun x H' w' β' x' g1 g2 g3 g4 g5=>?_) fun s S' w' v' β' lam' g1 g2 g3 g4 g5 g6=>?_)
    ·exact hkp hp.1 x fr' ⟨S.bx,H'⟩ a w' β' lam x' g1 ⟨g2,g3,hG.ext.trans g5⟩ ⟨hM.tmps,hM.size,Bt.le_trans hM.le g5.le,hM.dfr⟩ g4
    ·exact zf8 hh hW hk hkp rest (n+1) _ S' _ w' β' lam' hd' g1 ⟨g2,g3.put g4 _,hG.ext.trans g5⟩ (hM.put hWo _ g6 g5.le)
  |false=>
   simp only[Bool.false_eq_true,if_false];exact zf8 hh hW hk hkp rest (n+1) _ S _ w β lam hd' h1 ⟨hG.rel,FRel.put hF' (s:=.und) rfl _,hG.ext⟩ (hM.put hWo _ (BMv.refl _ _) (Bt.le_refl _))
end
section
variable {α:Type}{C:Ctx}{w0:World}{H0:Hp}{β0:Bt}{r:α}
def resM(tmps:Array Value)(x:ResultVar):Sem Value:=
 match x with
 |.tmp t=>pure (tmps.getD t undef)
 |.cell a t=>do loadVar t (←asAddr (tmps.getD a undef))
theorem zhH(fn:Func)(tmps:Array Value)(P:Program)(w:World) :
  (results fn tmps).run P w=((fn.results.toList.mapM (resM tmps)).run P w).andThen fun l w'=>.ok (if h:l.length=1 then l[0] else .tuple l.toArray) w':=by
 have:(results fn tmps)=(fn.results.mapM (resM tmps) >>= fun vs=>pure (if h:vs.size=1 then vs[0] else .tuple vs)):=rfl;rw[this,Array.mapM_eq_mapM_toList];simp only[Sem.run_bind,Functor.map,Sem.run_pure];have e:∀x:Sem (List Value),x.bind (Sem.pure∘List.toArray)=(x >>= fun l=>pure l.toArray):=fun _=>rfl;rw[e,Sem.run_bind];generalize (List.mapM (resM tmps) fn.results.toList).run P w=q;cases q with
 |ok l w'=>simp only[Result.andThen_ok,Sem.run_pure];rfl
 |halt x w'=>rfl
theorem zpF{β:Bt}{vs vs':List Value}(h:LRel β vs vs'):VRel β (resV vs) (if h:vs'.length=1 then vs'[0] else .tuple vs'.toArray):=by
 have hl:=h.1
 match vs,vs',h,hl with
 |[],[],h,_=>exact zb2.2 ⟨_,rfl,h⟩
 |[v],[v'],h,_=>exact h.2 0 v v' rfl rfl
 |v::u::l,v'::u'::l',h,_=>exact zb2.2 ⟨_,rfl,h⟩
theorem zej{P:Program}{N:Nat}{w:World}{S:St}{β:Bt}{lam:Nat→Nat}{fr:Fr}{a:Act}(hR:Rel P w S.hp β)(hF:FRel N w S.bx β lam fr a) :
  ∀(rs:List ResultVar) (k:List Value→Option α),resC P fr S rs k=some r→∃vs vs',k vs=some r∧LRel β vs vs'∧(rs.mapM (resM a.tmps)).run P w=.ok vs' w
 |[],k,h=>⟨[],[],h,LRel.nil _,rfl⟩
 |.tmp t::rs,k,h=>by
  unfold resC at h;obtain⟨v,hv,h1⟩:=za7 hR hF (x:=.tmp t) h;obtain⟨vs,vs',h2,h3,h4⟩:=zej hR hF rs _ h1;refine⟨v::vs,a.tmps.getD t undef::vs',h2,h3.cons hv,?_⟩;simp only[mapM_cons,Sem.run_bind,resM,Sem.run_pure,Result.andThen_ok,h4]
 |.cell t T::rs,k,h=>by
  unfold resC at h;obtain⟨i,d,hi,hd,h⟩:=zhA h;have hx:=zeE hR hF (.tmp t);have hx:SRel β lam S.bx (getS fr t) (a.tmps.getD t undef):=hx;split at h
  ·rename_i d' off he;rw[he]at hx;obtain⟨_,hx⟩:=hx;split at h
   ·rename_i cs ro hb;obtain⟨arr,e,hw,hl⟩:=zkA hF hb;unfold zaf at h;split at h
    ·rename_i v hv;obtain⟨v',hrun,hrel⟩:=zdm (s:=0) hi hd (zlC hw hl) hv;rw[Nat.zero_add]at hrun;obtain⟨vs,vs',h2,h3,h4⟩:=zej hR hF rs _ h;refine⟨v::vs,v'::vs',h2,h3.cons hrel,?_⟩;simp only[mapM_cons,Sem.run_bind,resM,hx,asAddr,Sem.run_pure,Result.andThen_ok,hrun,h4]
    ·cases h
   ·cases h
  ·rename_i p he;rw[he]at hx;have hx:VRel β p (a.tmps.getD t undef):=hx;unfold zaH at h;split at h
   ·rename_i v hv;unfold Hp.rdP at hv;split at hv
    ·rename_i i0 off _;generalize hq:a.tmps.getD t undef=q at hx;cases hx with
     |ptr _ _ y hy=>
     unfold Hp.rd at hv;split at hv
     ·rename_i cs own hg;obtain⟨y',hy',h1,_⟩:=hR.cells i0 cs own hg;rw[hy]at hy';cases hy';obtain⟨v',hrun,hrel⟩:=zdm hi hd h1 hv;obtain⟨vs,vs',h2,h3,h4⟩:=zej hR hF rs _ h;refine⟨v::vs,v'::vs',h2,h3.cons hrel,?_⟩;simp only[mapM_cons,Sem.run_bind,resM,hq,asAddr,Sem.run_pure,Result.andThen_ok,hrun,h4]
     ·rename_i cs e fz hg;obtain⟨v',hrun,hrel⟩:=zma hR hi hd hg hy hv;obtain⟨vs,vs',h2,h3,h4⟩:=zej hR hF rs _ h;refine⟨v::vs,v'::vs',h2,h3.cons hrel,?_⟩;simp only[mapM_cons,Sem.run_bind,resM,hq,asAddr,Sem.run_pure,Result.andThen_ok,hrun,h4]
     ·cases hv
    ·cases hv
   ·cases h
  ·cases h
theorem zjm{fr:Fr}:∀(ks:List Nat) (k:List Value→Option α),zot fr ks k=some r→∃vs,k vs=some r∧vs.length=ks.length∧∀(j d:Nat),ks[j]?=some d→∃v,vs[j]?=some v∧getS fr d=.val v
 |[],k,h=>⟨[],h,rfl,fun j d hd=>by cases hd⟩
 |e::ks,k,h=>by
  unfold zot at h;obtain⟨v,hv,h1⟩:=sV_inv h;obtain⟨vs,h2,h3,h4⟩:=zjm ks _ h1;refine⟨v::vs,h2,by simp[h3],fun j d hd=>?_⟩;cases j with
  |zero=>cases hd;exact⟨v,rfl,hv⟩
  |succ j=>exact h4 j d hd
theorem zjn{S:St}:∀(ks:List Nat) (k:List Value→Option α),zl0 S ks k=some r→∃vs,k vs=some r∧vs.length=ks.length∧∀(j d:Nat),ks[j]?=some d→∃v,vs[j]?=some v∧boxV (S.bx d) some=some v
 |[],k,h=>⟨[],h,rfl,fun j d hd=>by cases hd⟩
 |e::ks,k,h=>by
  unfold zl0 at h;have:∃v,boxV (S.bx e) some=some v∧zl0 S ks (fun vs=>k (v::vs))=some r:=by
   unfold boxV at h ⊢;split at h
   ·exact⟨_,rfl,h⟩
   ·exact⟨_,rfl,h⟩
   ·cases h
  obtain⟨v,hv,h1⟩:=this;obtain⟨vs,h2,h3,h4⟩:=zjn ks _ h1;refine⟨v::vs,h2,by simp[h3],fun j d hd=>?_⟩;cases j with
  |zero=>cases hd;exact⟨v,rfl,hv⟩
  |succ j=>exact h4 j d hd
theorem idxOf?_get{d:Nat}:∀{l:List Nat} {j:Nat},l.idxOf? d=some j→l[j]?=some d
 |[],j,h=>by cases h
 |e::l,j,h=>by
  rw[List.idxOf?_cons]at h;split at h
  ·rename_i he;cases h;have:e=d:=by simpa using he
   simp[this]
  ·cases hq:l.idxOf? d with
   |none=>rw[hq]at h;cases h
   |some i=>
    rw[hq]at h;have h:i+1=j:=by simpa using h
    subst h;have:=idxOf?_get hq;simpa using this
theorem ziw(w keep:List Nat)(l:List Value):∀(fr:Fr) (n:Nat),(zfn w keep l fr n).length=fr.length
 |[],n=>rfl
 |s::r,n=>by simp[zfn,ziw w keep l r (n+1)]
def fillOne(w keep:List Nat)(l:List Value)(i:Nat)(s:Slot):Slot:=
 match keep.idxOf? i with
 |some j=>.val (l.getD j undef)
 |none=>match w.elem i with
  |true=>.unk
  |false=>s
theorem znP(w keep:List Nat)(l:List Value):∀(fr:Fr) (n d:Nat),(zfn w keep l fr n)[d]?=(fr[d]?).map (fillOne w keep l (n+d))
 |[],n,d=>by simp[zfn]
 |s::r,n,0=>rfl
 |s::r,n,d+1=>by simp only[zfn,List.getElem?_cons_succ];rw[znP w keep l r (n+1) d,show n+1+d=n+(d+1) by omega]
theorem zq5{w:World}{β:Bt}{b:Nat}{x x':Option Bx}{v:Value}(hle:BxLe x x')(hv:boxV x' some=some v){c:Bx}(hc:zkG x v=some c)(h:∀c',x'=some c'→zmM w β b c'):zmM w β b c:=by
 unfold zkG at hc;split at hc
 ·cases hc;obtain⟨s,p,rfl⟩:=hle;cases hv;exact h _ rfl
 ·cases hc;obtain⟨cs,rfl⟩:=hle;cases hv;exact h _ rfl
 ·have:x'=x:=by
   unfold BxLe at hle;split at hle
   ·cases hc
   ·rename_i hn;exact absurd rfl (hn _)
   ·rename_i hn _;exact absurd rfl (hn _ _)
   ·exact hle
  exact h c (by rw[this];exact hc)
theorem zkF{x:Option Bx}{v:Value}:(zkG x v).isSome=x.isSome:=by unfold zkG;split<;>rfl
theorem zjr{x:Option Bx}:(roBx x).isSome=x.isSome:=by unfold roBx;split<;>rfl
end
def zpl(C:Ctx):Prop:=∀{α:Type} {w0:World} {H0:Hp} {β0:Bt} {r:α} {ops:List Oper} {kp:Value→Hp→Option α} {k:Fr→St→Option α} {Q:Exit→Act→World→Prop} {W:List Nat} {S1:St} {a1:Act} {β1:Bt} {l1:Nat→Nat},
 zgI C.P C.O C.f ops (ancs ops)=true→(∀o∈ops,∀d,o.dst=some d→d∈W) →
 (∀fr S a w β lam,k fr S=some r→Good C.P w0 H0 β0 fr S a w β lam→zbU W S1 a1 β1 l1 S a β lam→Q .normal a w) →
 (C.O.pan C.f=true→∀x fr S a w β lam x',kp x S.hp=some r→Good C.P w0 H0 β0 fr S a w β lam→Kept W a1 β1 a β→VRel β x x'→Q (.panic [{ v:=x',recovered:=false }]) a w) →
 ∀fr S a w β lam,drawH C ops kp k fr S=some r→Good C.P w0 H0 β0 fr S a w β lam→zbU W S1 a1 β1 l1 S a β lam →
  wpAny C.P .any ops.toArray Q ops.length (Array.replicate ops.length false) a w
theorem zee:∀(c:Code) (acc:List Nat) (d:Nat),d∈wr c acc↔d∈wr c []∨d∈acc
 |.region id ops dr,acc,d=>by
  simp only[wr];generalize ops.toList=l;induction l with
  |nil=>simp
  |cons o l ih=>
   simp only[foldr_cons];cases o.dst with
   |none=>exact ih
   |some e=>simp only[mem_cons,ih,or_assoc]
 |.seq a b,acc,d=>by simp only[wr];rw[zee a (wr b acc),zee a (wr b []),zee b acc];simp only[or_assoc]
 |.cond c a b,acc,d=>by simp only[wr];rw[zee a (wr b acc),zee a (wr b []),zee b acc];simp only[or_assoc]
 |.block id c,acc,d=>by simp only[wr];exact zee c acc d
 |.loop c,acc,d=>by simp only[wr];exact zee c acc d
 |.scope c,acc,d=>by simp only[wr];exact zee c acc d
 |.skip,acc,d=>by simp[wr]
 |.exit _,acc,d=>by simp[wr]
 |.ret,acc,d=>by simp[wr]
 |.label _,acc,d=>by simp[wr]
 |.goto _,acc,d=>by simp[wr]
 |.refuse _,acc,d=>by simp[wr]
 |.rangeFunc _ _ _ _,acc,d=>by simp[wr]
theorem zmN{id:Nat}{ops:Array Oper}{dr:Bool}:∀o∈ops.toList,∀d,o.dst=some d→d∈wr (.region id ops dr) []:=by
 simp only[wr];generalize ops.toList=l;induction l with
 |nil=>simp
 |cons p l ih=>
  intro o ho d hd;simp only[foldr_cons];rcases mem_cons.1 ho with rfl|ho
  ·rw[hd];exact mem_cons_self ..
  ·have:=ih o ho d hd;split
   ·exact mem_cons_of_mem _ this
   ·exact this
theorem wr_mem{id:Nat}{ops:Array Oper}{dr:Bool}{d:Nat}:d∈wr (.region id ops dr) []→∃o∈ops.toList,o.dst=some d:=by
 simp only[wr];generalize ops.toList=l;induction l with
 |nil=>intro h;cases h
 |cons p l ih=>
  intro h;simp only[foldr_cons]at h;split at h
  ·rename_i e he;rcases mem_cons.1 h with rfl|h
   ·exact⟨p,mem_cons_self ..,he⟩
   ·obtain⟨o,h1,h2⟩:=ih h;exact⟨o,mem_cons_of_mem _ h1,h2⟩
  ·obtain⟨o,h1,h2⟩:=ih h;exact⟨o,mem_cons_of_mem _ h1,h2⟩
section
variable {C:Ctx}{w0:World}{H0:Hp}{β0:Bt}{fn:Func}
def zeV:List ResultVar→List Nat
 |[]=>[]
 |.tmp t::r=>t::zeV r
 |.cell _ _::r=>zeV r
def PanR(C:Ctx)(rs:List ResultVar)(β:Bt)(xx x:Value)(tmps:Array Value):Prop:=
 match C.O.dfr C.f with
 |false=>xx=x
 |true=>∃vs,xx=.tuple (x::vs).toArray∧LRel β vs ((zeV rs).map fun t=>tmps.getD t undef)
theorem LRel.monoL{β β':Bt}(hb:β.le β'){l l':List Value}(h:LRel β l l'):LRel β' l l':=⟨h.1,fun i x x' h1 h2=>(h.2 i x x' h1 h2).mono hb⟩
theorem zlS{α:Type}{N:Nat}{P:Program}{w:World}{bx:Nat→Option Bx}{H:Hp}{β:Bt}{lam:Nat→Nat}{fr:Fr}{a:Act}(hR:Rel P w H β)(hF:FRel N w bx β lam fr a){r:α}:∀(rs:List ResultVar) (k:List Value→Option α),zkN fr rs k=some r →
  ∃vs,k vs=some r∧LRel β vs ((zeV rs).map fun t=>a.tmps.getD t undef)
 |[],k,h=>⟨[],h,LRel.nil _⟩
 |.tmp t::rs,k,h=>by
  unfold zkN at h;obtain⟨v,hv,h1⟩:=za7 hR hF (x:=.tmp t) h;obtain⟨vs,h2,h3⟩:=zlS hR hF rs _ h1;exact⟨v::vs,h2,h3.cons hv⟩
 |.cell t T::rs,k,h=>zlS hR hF rs k h
theorem zkd{id:Nat}{ops:Array Oper}{dr:Bool}{β β':Bt}{a a':Act}(hk:Kept (wr (.region id ops dr) []) a β a' β'):∀rs:List ResultVar,zke ops.toList rs=true→(zeV rs).map (fun t=>a'.tmps.getD t undef)=(zeV rs).map fun t=>a.tmps.getD t undef
 |[],_=>rfl
 |.tmp t::rs,h=>by
  unfold zke at h;rw[Bool.and_eq_true]at h;have h1:t∉wr (.region id ops dr) []:=fun hm=>by obtain⟨o,ho,hd⟩:=wr_mem hm;have:=all_eq_true.1 h.1 o ho;rw[hd]at this;simp at this
  show a'.tmps.getD t undef::(zeV rs).map (fun t=>a'.tmps.getD t undef)=a.tmps.getD t undef::(zeV rs).map (fun t=>a.tmps.getD t undef);rw[hk.tmps t h1,zkd hk rs h.2]
 |.cell t T::rs,h=>zkd hk rs h
theorem panK_ok{α:Type}{N:Nat}{P:Program}{w:World}{bx:Nat→Option Bx}{H:Hp}{β:Bt}{lam:Nat→Nat}{fr:Fr}{a:Act}(hR:Rel P w H β)(hF:FRel N w bx β lam fr a){C:Ctx}{rs:List ResultVar}{id:Nat}{ops:Array Oper}{dr:Bool}{k:K α}{r:α}{x:Value}{H':Hp}
  (h:panK C rs ops.toList fr k x H'=some r) {a':Act} {β':Bt} (hk:Kept (wr (.region id ops dr) []) a β a' β'):∃xx,k.ret (W0 xx) H'=some r∧PanR C rs β' xx x a'.tmps:=by
 unfold panK at h;unfold PanR;cases hd:C.O.dfr C.f with
 |false=>rw[hd]at h;exact⟨x,h,rfl⟩
 |true=>
  rw[hd]at h;dsimp only at h;cases hkt:zke ops.toList rs with
  |true=>
   rw[hkt]at h;obtain⟨vs,h1,h2⟩:=zlS hR hF rs _ h;refine⟨_,h1,vs,rfl,?_⟩;rw[zkd hk rs hkt];exact h2.monoL hk.le
  |false=>rw[hkt]at h;cases h
structure Cont{α:Type}(C:Ctx)(w0:World)(H0:Hp)(β0:Bt)(fn:Func)(W:List Nat)(S1:St)(a1:Act)(β1:Bt)(l1:Nat→Nat)(k:K α)(r:α)(Q:Exit→Act→World→Prop):Prop where
 norm:∀fr S a w β lam,k.norm fr S=some r→Good C.P w0 H0 β0 fr S a w β lam→zbU W S1 a1 β1 l1 S a β lam→Q .normal a w
 exit:∀id fr S a w β lam,k.exit id fr S=some r→Good C.P w0 H0 β0 fr S a w β lam→zbU W S1 a1 β1 l1 S a β lam→Q (.exit id) a w
 ret:∀v fr S a w β lam v',k.ret (zjc C v) S.hp=some r→Good C.P w0 H0 β0 fr S a w β lam→Kept W a1 β1 a β→VRel β v v'→(results fn a.tmps).run C.P w=.ok v' w→Q .ret a w
 pan:C.O.pan C.f=true→∀xx x fr S a w β lam x',k.ret (W0 xx) S.hp=some r→Good C.P w0 H0 β0 fr S a w β lam→Kept W a1 β1 a β→VRel β x x'→PanR C fn.results.toList β xx x a.tmps→Q (.panic [{ v:=x',recovered:=false }]) a w
theorem Cont.step{α:Type}{W W1 W2:List Nat}{S1 S2:St}{a1 a2:Act}{β1 β2:Bt}{l1 l2:Nat→Nat}{k:K α}{r:α}{Q:Exit→Act→World→Prop}
  (h:Cont C w0 H0 β0 fn W S1 a1 β1 l1 k r Q) (hM:zbU W1 S1 a1 β1 l1 S2 a2 β2 l2) (h1:∀d,d∉W→d∉W1) (h2:∀d,d∉W→d∉W2):Cont C w0 H0 β0 fn W2 S2 a2 β2 l2 k r Q:=
 ⟨fun fr S a w β lam g1 g2 g3=>h.norm fr S a w β lam g1 g2 (hM.trans g3 h1 h2),fun id fr S a w β lam g1 g2 g3=>h.exit id fr S a w β lam g1 g2 (hM.trans g3 h1 h2),
  fun v fr S a w β lam v' g1 g2 g3 g4 g5=>h.ret v fr S a w β lam v' g1 g2 (hM.kept.trans g3 h1 h2) g4 g5,fun hp xx x fr S a w β lam x' g1 g2 g3 g4 g5=>h.pan hp xx x fr S a w β lam x' g1 g2 (hM.kept.trans g3 h1 h2) g4 g5⟩
theorem join_good {W ks kb : List Nat} {fr fr' : Fr} {S S' : St} {a a' : Act} {w w' : World} {β β' : Bt} {lam lam' : Nat → Nat} {vs bs : List Value} {bx1 : Nat → Option Bx}
    (hG : FRel w0.heap.size w S.bx β lam fr a) (hbx1 : ∀ d, bx1 d = (match kb.elem d with | true => S.bx d | false => roBx (S.bx d)))
    (hG' : Good C.P w0 H0 β0 fr' S' a' w' β' lam') (hM : zbU W ⟨bx1, S.hp⟩ a β lam S' a' β' lam')
    (hvl : vs.length = ks.length) (hv : ∀ (j d : Nat), ks[j]? = some d → ∃ v, vs[j]? = some v ∧ getS fr' d = .val v)
    (hbl : bs.length = kb.length) (hb : ∀ (j d : Nat), kb[j]? = some d → ∃ v, bs[j]? = some v ∧ boxV (S'.bx d) some = some v) :
    Good C.P w0 H0 β0 (zfn W ks (vs ++ bs) fr 0) ⟨zdG kb ((vs ++ bs).drop ks.length) S.bx, S'.hp⟩ a' w' β' lam' ∧
    BMv S.bx lam (zdG kb ((vs ++ bs).drop ks.length) S.bx) lam' := by
  have hdrop : (vs ++ bs).drop ks.length = bs := by rw [← hvl]; simp
  have hbsome : ∀ d, (zdG kb bs S.bx d).isSome = (S.bx d).isSome := fun d => by
    unfold zdG; split
    · exact zkF
    · rfl
  have h1some : ∀ d, (bx1 d).isSome = (S.bx d).isSome := fun d => by
    rw [hbx1]; split
    · rfl
    · exact zjr
  have hlam : ∀ d, (S.bx d).isSome = true → lam' d = lam d := fun d hd => (hM.bx d).2 (by rw [h1some]; exact hd)
  have hS' : ∀ d, (S.bx d).isSome = true → (S'.bx d).isSome = true := fun d hd => (hM.bx d).1.some (by rw [h1some]; exact hd)
  rw [hdrop]
  refine ⟨⟨hG'.rel, ⟨?_, fun d s hs => ?_, fun d c hc => ?_, fun d d' hd hd' hne => ?_⟩, hG'.ext⟩, fun d => ⟨?_, hlam d⟩⟩
  · rw [ziw, ← hG.size, hM.size]
  · rw [znP] at hs
    cases hfr : fr[d]? with
    | none => rw [hfr] at hs; cases hs
    | some s0 =>
      rw [hfr] at hs
      simp only [Option.map_some, Nat.zero_add] at hs
      cases hs
      unfold fillOne
      split
      · rename_i j hj
        obtain ⟨v, hv1, hv2⟩ := hv j d (idxOf?_get hj)
        have hjl : j < vs.length := (List.getElem?_eq_some_iff.1 hv1).1
        have hgv : (vs ++ bs).getD j undef = v := by
          rw [getD_eq_getElem?_getD, List.getElem?_append_left hjl, hv1]; rfl
        rw [hgv]
        have := zeE hG'.rel hG'.fr (.tmp d)
        have this : SRel β' lam' S'.bx (getS fr' d) (a'.tmps.getD d undef) := this
        rw [hv2] at this
        exact this
      · split
        · trivial
        · rename_i hnW
          have hnW : d ∉ W := by intro hm; have : W.elem d = true := by simpa using hm
                                 rw [this] at hnW; cases hnW
          rw [hM.tmps d hnW]
          have := (hG.slot d s0 hfr).mono hM.le
          cases s0 with
          | loc e off =>
            refine ⟨by rw [hbsome]; exact this.1, ?_⟩
            rw [hlam e this.1]; exact this.2
          | _ => exact this
  · have hc : zdG kb bs S.bx d = some c := hc
    unfold zdG at hc
    split at hc
    · rename_i j hj
      have hjd := idxOf?_get hj
      obtain ⟨v, hv1, hv2⟩ := hb j d hjd
      have hgv : bs.getD j undef = v := by rw [getD_eq_getElem?_getD, hv1]; rfl
      rw [hgv] at hc
      have hin : kb.elem d = true := by simpa using mem_of_getElem? hjd
      have hle : BxLe (bx1 d) (S'.bx d) := (hM.bx d).1
      have hsd : (S.bx d).isSome = true := by rw [← zkF (v := v), hc]; rfl
      have hb1 := hbx1 d
      rw [hin] at hb1
      rw [hb1] at hle
      have hle : BxLe (S.bx d) (S'.bx d) := hle
      obtain ⟨c', hc'⟩ := Option.isSome_iff_exists.1 (hS' d hsd)
      obtain ⟨b1, b2, b3, b4⟩ := hG'.fr.box d c' hc'
      exact ⟨b1, b2, b3, zq5 hle hv2 hc (fun c2 hc2 => by rw [hc'] at hc2; cases hc2; exact b4)⟩
    · rename_i hj
      have hin : kb.elem d = false := by
        cases hq : kb.elem d with
        | false => rfl
        | true =>
          have hm : d ∈ kb := by simpa using hq
          have : kb.idxOf? d ≠ none := by simpa [List.idxOf?_eq_none_iff] using hm
          exact absurd hj this
      have hb1 := hbx1 d
      rw [hin] at hb1
      have hle : BxLe (bx1 d) (S'.bx d) := (hM.bx d).1
      rw [hb1] at hle
      have hle : BxLe (roBx (S.bx d)) (S'.bx d) := hle
      rw [hc] at hle
      cases c with
      | cells cs ro =>
        have hc' : S'.bx d = some (.cells cs true) := hle
        obtain ⟨b1, b2, b3, b4⟩ := hG'.fr.box d (.cells cs true) hc'
        exact ⟨b1, b2, b3, b4⟩
      | iter s p =>
        have hc' : S'.bx d = some (.iterRo s p) := hle
        obtain ⟨b1, b2, b3, b4⟩ := hG'.fr.box d (.iterRo s p) hc'
        exact ⟨b1, b2, b3, b4⟩
      | iterRo s p =>
        have hc' : S'.bx d = some (.iterRo s p) := hle
        exact hG'.fr.box d _ hc'
  · rw [hbsome] at hd hd'
    exact hG'.fr.apart d d' (hS' d hd) (hS' d' hd') hne
  · show BxLe (S.bx d) (zdG kb bs S.bx d)
    unfold zdG
    split
    · unfold zkG
      split
      · rename_i e; rw [e]; exact ⟨_, _, rfl⟩
      · rename_i e; rw [e]; exact ⟨_, rfl⟩
      · exact BxLe.refl _
    · exact BxLe.refl _
end
theorem znQ(p:Nat→Prop):∀n,p n→∃m,p m∧∀j,p j→m≤j:=by
 intro n;induction n using Nat.strongRecOn with
 |_ n ih=>
  intro hn;by_cases h:∃j,j<n∧p j
  ·obtain⟨j,hj,hp⟩:=h;exact ih j hj hp
  ·refine⟨n,hn,fun j hj=>?_⟩;rcases Nat.lt_or_ge j n with q|q
   ·exact absurd ⟨j,q,hj⟩ h
   ·exact q
theorem zqo{P:Program}{c:Code}{Q:Exit→Act→World→Prop}{a:Act}{w:World}(I:Nat→Act→World→Prop){n:Nat}(h0:I n a w)
  (round:∀n a w,I n a w→c.wp P (Exit.then (fun a' w'=>∃m,m<n∧I m a' w') Q) a w):(Code.loop c).wp P Q a w:=by
 classical
 have hl:∀a w,(∃n,I n a w)→∃m,I m a w∧∀j,I j a w→m≤j:=fun a w ⟨n,hn⟩=>znQ (fun n=>I n a w) n hn;refine wp_loop (fun a w=>∃n,I n a w) (fun a w=>if h:∃n,I n a w then (hl a w h).choose else 0) ⟨n,h0⟩ fun a w hI=>?_;have hs:=(hl a w hI).choose_spec;refine wp_mono (round _ a w hs.1) fun e a' w' he=>?_;cases e with
 |normal=>
  obtain⟨m,hm,hI'⟩:=he;refine⟨⟨m,hI'⟩,?_⟩;have hs':=(hl a' w' ⟨m,hI'⟩).choose_spec;have h1:∃n,I n a' w':=⟨m,hI'⟩
  simp only[dif_pos hI,dif_pos h1];exact Nat.lt_of_le_of_lt (hs'.2 m hI') hm
 |_=>exact he
section
variable {C:Ctx}{w0:World}{H0:Hp}{β0:Bt}{fn:Func}
theorem ro_rel{w:World}{β:Bt}{b:Nat}{x:Option Bx}{c:Bx}(h:roBx x=some c)(hr:∀c',x=some c'→zmM w β b c'):zmM w β b c:=by
 unfold roBx at h;split at h
 ·rename_i cs ro;cases h;exact hr (.cells cs ro) rfl
 ·rename_i s p;cases h;exact hr (.iter s p) rfl
 ·exact hr c h
theorem FRel.ro{N:Nat}{w:World}{bx bx':Nat→Option Bx}{β:Bt}{lam:Nat→Nat}{fr:Fr}{a:Act}(h:FRel N w bx β lam fr a)(hb:∀d,bx' d=bx d∨bx' d=roBx (bx d)):FRel N w bx' β lam fr a:=by
 have hs:∀d,(bx' d).isSome=(bx d).isSome:=fun d=>by rcases hb d with e|e<;>rw[e];exact zjr
 refine⟨h.size,fun d s hd=>(h.slot d s hd).bx (fun d hd=>by rw[hs];exact hd),fun d c hc=>?_,fun d d' h1 h2 hne=>h.apart d d' (by rw[←hs];exact h1) (by rw[←hs];exact h2) hne⟩;have hsd:(bx d).isSome=true:=by rw[←hs,hc];rfl
 obtain⟨c',hc'⟩:=Option.isSome_iff_exists.1 hsd;obtain⟨b1,b2,b3,b4⟩:=h.box d c' hc';refine⟨b1,b2,b3,?_⟩;rcases hb d with e|e
 ·rw[e,hc']at hc;cases hc;exact b4
 ·rw[e]at hc;exact ro_rel hc (fun c2 h2=>by rw[hc']at h2;cases h2;exact b4)
theorem Good.ro{P:Program}{fr:Fr}{S:St}{a:Act}{w:World}{β:Bt}{lam:Nat→Nat}{bx':Nat→Option Bx}(h:Good P w0 H0 β0 fr S a w β lam)(hb:∀d,bx' d=S.bx d∨bx' d=roBx (S.bx d)) :
  Good P w0 H0 β0 fr ⟨bx',S.hp⟩ a w β lam:=⟨h.rel,h.fr.ro hb,h.ext⟩
theorem zm7(kb:List Nat)(bx:Nat→Option Bx)(d:Nat):roB kb bx d=bx d∨roB kb bx d=roBx (bx d):=by
 unfold roB;split
 ·exact .inl rfl
 ·exact .inr rfl
theorem zqa(kb:List Nat)(l:List Value)(bx:Nat→Option Bx)(d:Nat):zk2 kb l bx d=roB kb (zdG kb l bx) d:=by
 unfold zk2 roB zdG;cases h:kb.idxOf? d with
 |some j=>
  have:kb.elem d=true:=by simpa using mem_of_getElem? (idxOf?_get h)
  rw[this]
 |none=>
  have:kb.elem d=false:=by
   cases hq:kb.elem d with
   |false=>rfl
   |true=>
    have hm:d∈kb:=by simpa using hq
    have:kb.idxOf? d≠none:=by simpa[List.idxOf?_eq_none_iff] using hm
    exact absurd h this
  rw[this]
theorem zq6{kb:List Nat}{l:List Value}{bx:Nat→Option Bx}{d:Nat}(h:kb.elem d=false):zdG kb l bx d=bx d:=by
 unfold zdG;split
 ·rename_i j hj;have:kb.elem d=true:=by simpa using mem_of_getElem? (idxOf?_get hj)
  rw[h]at this;cases this
 ·rfl
theorem zds{ks kb:List Nat}{c:Ctl}{fr:Fr}{S:St}{o:Outc}(h:zjo ks kb c fr S=some o):∃vs bs,o=(c,vs++bs,S.hp)∧vs.length=ks.length ∧
  (∀(j d:Nat),ks[j]?=some d→∃v,vs[j]?=some v∧getS fr d=.val v)∧bs.length=kb.length∧(∀(j d:Nat),kb[j]?=some d→∃v,bs[j]?=some v∧boxV (S.bx d) some=some v):=by
 unfold zjo at h;obtain⟨vs,h1,h2,h3⟩:=zjm ks _ h;obtain⟨bs,h4,h5,h6⟩:=zjn kb _ h1;cases h4;exact⟨vs,bs,rfl,h2,h3,h5,h6⟩
theorem leave{W ks kb:List Nat}{fr fr':Fr}{S S':St}{a a':Act}{w w':World}{β β':Bt}{lam lam':Nat→Nat}{vs bs:List Value}
  (hG:FRel w0.heap.size w S.bx β lam fr a) (hG':Good C.P w0 H0 β0 fr' S' a' w' β' lam') (hM:zbU W ⟨roB kb S.bx,S.hp⟩ a β lam S' a' β' lam')
  (hvl:vs.length=ks.length) (hv:∀(j d:Nat),ks[j]?=some d→∃v,vs[j]?=some v∧getS fr' d=.val v)
  (hbl:bs.length=kb.length) (hb:∀(j d:Nat),kb[j]?=some d→∃v,bs[j]?=some v∧boxV (S'.bx d) some=some v) :
  Good C.P w0 H0 β0 (zfn W ks (vs++bs) fr 0) ⟨zdG kb ((vs++bs).drop ks.length) S.bx,S'.hp⟩ a' w' β' lam' ∧
  zbU W S a β lam ⟨zdG kb ((vs++bs).drop ks.length) S.bx,S'.hp⟩ a' β' lam':=by
 obtain⟨g1,g2⟩:=join_good hG (bx1:=roB kb S.bx) (fun d=>rfl) hG' hM hvl hv hbl hb;exact⟨g1,⟨hM.tmps,hM.size,g2,hM.le,hM.dfr⟩⟩
theorem zf3{P:Program}{N:Nat}{w:World}{S:St}{β:Bt}{lam:Nat→Nat}{fr:Fr}{a:Act}{α:Type}{r:α}(hR:Rel P w S.hp β)(hF:FRel N w S.bx β lam fr a){k:List Value→Option α}(h:resC P fr S fn.results.toList k=some r) :
  ∃vs v',k vs=some r∧VRel β (resV vs) v'∧(results fn a.tmps).run P w=.ok v' w:=by
 obtain⟨vs,vs',h1,h2,h3⟩:=zej hR hF _ _ h;exact⟨vs,_,h1,zpF h2,by rw[zhH,h3];rfl⟩
theorem zbs(hh:SimC C.P C.O C.h)(hdraw:zpl C)(hm:C.P.follows .mixedOrders=true):∀(c:Code) {α:Type} {fr:Fr} {S:St} {k:K α} {r:α} {Q:Exit→Act→World→Prop} {a:Act} {w:World} {β:Bt} {lam:Nat→Nat},
  exec C fn.results.toList c α fr S k=some r→Good C.P w0 H0 β0 fr S a w β lam→Cont C w0 H0 β0 fn (wr c []) S a β lam k r Q→c.wp C.P Q a w
 |.skip,α,fr,S,k,r,Q,a,w,β,lam,h,hG,hC=>wp_skip (hC.norm _ _ _ _ _ _ h hG (zbU.refl _ _ _ _ _))
 |.region id ops draw,α,fr,S,k,r,Q,a,w,β,lam,h,hG,hC=>by
  simp only[exec]at h;cases draw with
  |false=>
   have:=zf8 hh (W:=wr (.region id ops false) []) (Q:=Q) zmN hC.norm (fun hp x fr' S' a' w' β' lam' x' g1 g2 g3 g4=>by obtain⟨xx,q1,q2⟩:=panK_ok hG.rel hG.fr g1 g3;exact hC.pan hp xx x fr' S' a' w' β' lam' x' q1 g2 g3 g4 q2) ops.toList 0 fr S a w β lam rfl h hG (zbU.refl _ _ _ _ _);refine wp_region ?_;rw[List.range_eq_range'];simpa using this
  |true=>
   dsimp only at h;split at h
   ·rename_i ho;have hG':Good C.P w0 H0 β0 fr S a { w with drawn:=w.drawn+1 } β lam:=⟨hG.rel.drew,hG.fr.drew,hG.ext.drew⟩
    have:=hdraw (W:=wr (.region id ops true) []) (Q:=Q) ho zmN hC.norm (fun hp x fr' S' a' w' β' lam' x' g1 g2 g3 g4=>by obtain⟨xx,q1,q2⟩:=panK_ok hG.rel hG.fr g1 g3;exact hC.pan hp xx x fr' S' a' w' β' lam' x' q1 g2 g3 g4 q2) fr S a _ β lam h hG' (zbU.refl _ _ _ _ _);refine wp_region_any hm ?_;simpa using this
   ·cases h
 |.seq x y,α,fr,S,k,r,Q,a,w,β,lam,h,hG,hC=>by
  have hx:∀d,d∉wr (.seq x y) []→d∉wr x []:=fun d hd hm=>hd (by simp only[wr];rw[zee];exact .inl hm);have hy:∀d,d∉wr (.seq x y) []→d∉wr y []:=fun d hd hm=>hd (by simp only[wr];rw[zee];exact .inr hm);simp only[exec]at h;split at h
  ·refine wp_seq (zbs hh hdraw hm x h hG ⟨fun fr' S' a' w' β' lam' g1 g2 g3=>?_,fun id fr' S' a' w' β' lam' g1 g2 g3=>?_,?_,?_⟩)
   ·exact zbs hh hdraw hm y g1 g2 (hC.step g3 hx hy)
   ·exact hC.exit id fr' S' a' w' β' lam' g1 g2 ⟨fun d hd=>g3.tmps d (hx d hd),g3.size,g3.bx,g3.le,g3.dfr⟩
   ·exact fun v fr S a w β lam v' g1 g2 g3 g4 g5=>hC.ret v fr S a w β lam v' g1 g2 ⟨fun d hd=>g3.tmps d (hx d hd),g3.size,g3.le,g3.dfr⟩ g4 g5
   ·exact fun hp xx x fr S a w β lam x' g1 g2 g3 g4 g5=>hC.pan hp xx x fr S a w β lam x' g1 g2 ⟨fun d hd=>g3.tmps d (hx d hd),g3.size,g3.le,g3.dfr⟩ g4 g5
  ·rename_i ks kb hj;unfold zaG at h;split at h
   ·rename_i c l H' hx1;refine wp_seq (zbs hh hdraw hm x hx1 (hG.ro (zm7 kb S.bx)) ⟨fun fr' S' a' w' β' lam' g1 g2 g3=>?_,fun id fr' S' a' w' β' lam' g1 g2 g3=>?_,fun v fr' S' a' w' β' lam' v' g1 g2 g3 g4 g5=>?_,fun hp xx x fr' S' a' w' β' lam' x' g1 g2 g3 g4 g5=>?_⟩)
    ·obtain⟨vs,bs,he,h1,h2,h3,h4⟩:=zds g1;cases he;obtain⟨q1,q2⟩:=leave hG.fr g2 g3 h1 h2 h3 h4;exact zbs hh hdraw hm y h q1 (hC.step q2 hx hy)
    ·obtain⟨vs,bs,he,h1,h2,h3,h4⟩:=zds g1;cases he;obtain⟨q1,q2⟩:=leave hG.fr g2 g3 h1 h2 h3 h4;exact hC.exit id _ _ a' w' β' lam' h q1 ⟨fun d hd=>q2.tmps d (hx d hd),q2.size,q2.bx,q2.le,q2.dfr⟩
    ·cases g1;exact hC.ret v fr' S' a' w' β' lam' v' h g2 ⟨fun d hd=>g3.tmps d (hx d hd),g3.size,g3.le,g3.dfr⟩ g4 g5
    ·cases g1;exact hC.pan hp xx x fr' S' a' w' β' lam' x' h g2 ⟨fun d hd=>g3.tmps d (hx d hd),g3.size,g3.le,g3.dfr⟩ g4 g5
   ·cases h
 |.cond c x y,α,fr,S,k,r,Q,a,w,β,lam,h,hG,hC=>by
  have hx:∀d,d∉wr (.cond c x y) []→d∉wr x []:=fun d hd hm=>hd (by simp only[wr];rw[zee];exact .inl hm);have hy:∀d,d∉wr (.cond c x y) []→d∉wr y []:=fun d hd hm=>hd (by simp only[wr];rw[zee];exact .inr hm);simp only[exec]at h;obtain⟨v,hv,h1⟩:=za7 hG.rel hG.fr h;unfold zae at h1;split at h1
  ·rename_i t;have hc:a.eval c=.bool t:=by generalize a.eval c=q at hv;cases hv;rfl
   unfold br at h1;cases t with
   |true=>exact wp_cond_true hc (zbs hh hdraw hm x h1 hG (hC.step (zbU.refl [] _ _ _ _) (fun d _ hd=>by cases hd) hx))
   |false=>exact wp_cond_false hc (zbs hh hdraw hm y h1 hG (hC.step (zbU.refl [] _ _ _ _) (fun d _ hd=>by cases hd) hy))
  ·cases h1
 |.block id c,α,fr,S,k,r,Q,a,w,β,lam,h,hG,hC=>by
  simp only[exec]at h;refine wp_block (zbs hh hdraw hm c h hG ⟨hC.norm,fun j fr' S' a' w' β' lam' g1 g2 g3=>?_,hC.ret,hC.pan⟩);have g1:zaI j id (k.norm fr' S') (k.exit j fr' S')=some r:=g1;unfold zaI at g1;simp only[Exit.inBlock];split at g1
  ·rename_i e;rw[if_pos (Nat.eq_of_beq_eq_true e)];exact hC.norm _ _ _ _ _ _ g1 g2 g3
  ·rename_i e;rw[if_neg (Nat.ne_of_beq_eq_false e)];exact hC.exit j _ _ _ _ _ _ g1 g2 g3
 |.loop c,α,fr,S,k,r,Q,a,w,β,lam,h,hG,hC=>by
  unfold exec at h;split at h;rename_i ks kb hq;obtain⟨vs,h1,hvl,hv⟩:=zjm ks _ h;obtain⟨bs,h2,hbl,hb⟩:=zjn kb _ h1;clear h h1;generalize hW:wr (.loop c) []=W at hC;have hWc:wr c []=W:=by rw[←hW];rfl
  rw[hWc]at h2;generalize hstep:(fun (l:List Value) (H:Hp)=>exec C fn.results.toList c Outc (zfn W ks l fr 0) ⟨zk2 kb (l.drop ks.length) S.bx,H⟩ (Kout ks kb))=step at h2;unfold zaG at h2;split at h2
  ·rename_i ctl lo Ho hlo;unfold zbi at hlo;split at hlo
   ·rename_i hex;obtain⟨n,hn⟩:=hex.choose_spec;have hlo:hex.choose=(ctl,lo,Ho):=by simpa using hlo
    rw[hlo]at hn;have head:∀{vs bs:List Value} {S':St} {a':Act} {w':World} {β':Bt} {lam':Nat→Nat},
      Good C.P w0 H0 β0 (zfn W ks (vs++bs) fr 0) ⟨zdG kb ((vs++bs).drop ks.length) S.bx,S'.hp⟩ a' w' β' lam'→zbU W S a β lam ⟨zdG kb ((vs++bs).drop ks.length) S.bx,S'.hp⟩ a' β' lam' →
      Good C.P w0 H0 β0 (zfn W ks (vs++bs) fr 0) ⟨zk2 kb ((vs++bs).drop ks.length) S.bx,S'.hp⟩ a' w' β' lam'∧zbU W ⟨roB kb S.bx,S.hp⟩ a β lam ⟨zk2 kb ((vs++bs).drop ks.length) S.bx,S'.hp⟩ a' β' lam':=by
     intro vs bs S' a' w' β' lam' g1 g2;refine⟨g1.ro (fun d=>by rw[zqa];exact zm7 kb _ d),⟨g2.tmps,g2.size,fun d=>⟨?_,fun hd=>?_⟩,g2.le,g2.dfr⟩⟩
     ·show BxLe (roB kb S.bx d) (zk2 kb ((vs++bs).drop ks.length) S.bx d);rw[zqa];have hle:BxLe (S.bx d) (zdG kb ((vs++bs).drop ks.length) S.bx d):=(g2.bx d).1;cases he:kb.elem d with
      |true=>unfold roB;rw[he];exact hle
      |false=>unfold roB;rw[he,zq6 he];exact BxLe.refl _
     ·refine(g2.bx d).2 ?_;have hd:(roB kb S.bx d).isSome=true:=hd;rcases zm7 kb S.bx d with e|e
      ·rw[e]at hd;exact hd
      ·rw[e,zjr]at hd;exact hd
    have hG1:=hG.ro (zm7 kb S.bx);have hb1:∀(j d:Nat),kb[j]?=some d→∃v,bs[j]?=some v∧boxV ((⟨roB kb S.bx,S.hp⟩:St).bx d) some=some v:=fun j d hd=>by
     obtain⟨v,q1,q2⟩:=hb j d hd;refine⟨v,q1,?_⟩;have:kb.elem d=true:=by simpa using mem_of_getElem? hd
     show boxV (roB kb S.bx d) some=some v;unfold roB;rw[this];exact q2
    obtain⟨e1,e2⟩:=leave (W:=W) (kb:=kb) hG.fr hG1 (zbU.refl _ _ _ _ _) hvl hv hbl hb1;obtain⟨e3,e4⟩:=head (S':=⟨roB kb S.bx,S.hp⟩) e1 e2
    refine zqo (fun n a' w'=>∃vs bs H β' lam',zfl step n (vs++bs) H=some (ctl,lo,Ho)∧Good C.P w0 H0 β0 (zfn W ks (vs++bs) fr 0) ⟨zk2 kb ((vs++bs).drop ks.length) S.bx,H⟩ a' w' β' lam' ∧
     zbU W ⟨roB kb S.bx,S.hp⟩ a β lam ⟨zk2 kb ((vs++bs).drop ks.length) S.bx,H⟩ a' β' lam') (n:=n) ⟨vs,bs,S.hp,β,lam,hn,e3,e4⟩ ?_
    intro n a1 w1 ⟨vs1,bs1,H1,β1,lam1,hit,f1,f2⟩;cases n with
    |zero=>cases hit
    |succ n=>
     unfold zfl at hit;have htr:∀{fr' S' a' w' β' lam' c' o'},zjo ks kb c' fr' S'=some o'→Good C.P w0 H0 β0 fr' S' a' w' β' lam'→zbU (wr c []) ⟨zk2 kb ((vs1++bs1).drop ks.length) S.bx,H1⟩ a1 β1 lam1 S' a' β' lam' →
       ∃vs' bs',o'=(c',vs'++bs',S'.hp)∧Good C.P w0 H0 β0 (zfn W ks (vs'++bs') fr 0) ⟨zdG kb ((vs'++bs').drop ks.length) S.bx,S'.hp⟩ a' w' β' lam'∧zbU W S a β lam ⟨zdG kb ((vs'++bs').drop ks.length) S.bx,S'.hp⟩ a' β' lam':=by
      intro fr' S' a' w' β' lam' c' o' q1 q2 q3;obtain⟨vs',bs',he,k1,k2,k3,k4⟩:=zds q1;obtain⟨p1,p2⟩:=leave (W:=W) hG.fr q2 (f2.trans q3 (fun d hd=>hd) (fun d hd=>by rw[hWc];exact hd)) k1 k2 k3 k4;exact⟨vs',bs',he,p1,p2⟩
     split at hit
     ·rename_i l' H' hs;rw[←hstep]at hs;refine zbs hh hdraw hm c hs f1 ⟨fun fr' S' a' w' β' lam' g1 g2 g3=>?_,fun id fr' S' a' w' β' lam' g1 g2 g3=>?_,fun v fr' S' a' w' β' lam' v' g1 g2 g3 g4 g5=>?_,fun hp xx x fr' S' a' w' β' lam' x' g1 g2 g3 g4 g5=>?_⟩
      ·obtain⟨vs',bs',he,p1,p2⟩:=htr g1 g2 g3;cases he;obtain⟨p3,p4⟩:=head p1 p2;exact⟨n,Nat.lt_succ_self n,vs',bs',_,β',lam',hit,p3,p4⟩
      ·obtain⟨vs',bs',he,p1,p2⟩:=htr g1 g2 g3;cases he
      ·cases g1
      ·cases g1
     ·rename_i hne;have hs:=hit;rw[←hstep]at hs;refine zbs hh hdraw hm c hs f1 ⟨fun fr' S' a' w' β' lam' g1 g2 g3=>?_,fun id fr' S' a' w' β' lam' g1 g2 g3=>?_,fun v fr' S' a' w' β' lam' v' g1 g2 g3 g4 g5=>?_,fun hp xx x fr' S' a' w' β' lam' x' g1 g2 g3 g4 g5=>?_⟩
      ·obtain⟨vs',bs',he,p1,p2⟩:=htr g1 g2 g3;cases he;exact absurd hit (hne _ _)
      ·obtain⟨vs',bs',he,p1,p2⟩:=htr g1 g2 g3;cases he;exact hC.exit id _ _ _ _ _ _ h2 p1 p2
      ·cases g1;exact hC.ret v fr' S' a' w' β' lam' v' h2 g2 (f2.kept.trans g3 (fun d hd=>hd) (fun d hd=>by rw[hWc];exact hd)) g4 g5
      ·cases g1;exact hC.pan hp xx x fr' S' a' w' β' lam' x' h2 g2 (f2.kept.trans g3 (fun d hd=>hd) (fun d hd=>by rw[hWc];exact hd)) g4 g5
   ·cases hlo
  ·cases h2
 |.exit id,α,fr,S,k,r,Q,a,w,β,lam,h,hG,hC=>wp_exit (hC.exit id _ _ _ _ _ _ h hG (zbU.refl _ _ _ _ _))
 |.ret,α,fr,S,k,r,Q,a,w,β,lam,h,hG,hC=>by
  simp only[exec]at h;obtain⟨vs,v',h1,h2,h3⟩:=zf3 hG.rel hG.fr h;exact wp_ret (hC.ret _ fr S a w β lam v' h1 hG (zbU.refl _ S _ _ lam).kept h2 h3)
 |.rangeFunc _ _ _ _,_,_,_,_,_,_,_,_,_,_,h,_,_=>by simp[exec]at h
 |.scope _,_,_,_,_,_,_,_,_,_,_,h,_,_=>by simp[exec]at h
 |.label _,_,_,_,_,_,_,_,_,_,_,h,_,_=>by simp[exec]at h
 |.goto _,_,_,_,_,_,_,_,_,_,_,h,_,_=>by simp[exec]at h
 |.refuse _,_,_,_,_,_,_,_,_,_,_,h,_,_=>by simp[exec]at h
end
theorem zqe{P:Program}{O:Orc}{h:zai}{f:FuncId}{w:World}{H:Hp}{β:Bt}{fr:Fr}{S:St}{a:Act}{w':World}{β':Bt}{lam:Nat→Nat}{v v':Value}
  (hG:Good P w H β fr S a w' β' lam) (hv:VRel β' v v'):Ends P (O.pan f) w H β (zjc ⟨P,O,h,f⟩ v) S.hp (.returned v') w':=by
 unfold Ends zjc;dsimp only;cases O.pan f with
 |false=>exact⟨v',β',rfl,hG.rel,hG.ext,hv⟩
 |true=>exact⟨v',β',hG.rel,hG.ext,.inl ⟨v,rfl,rfl,hv⟩⟩
theorem zlK{P:Program}{H:Hp}{β:Bt}{w:World}{n:Nat}{args args':List Value}(hargs:LRel β args args')(hR:Rel P w H β) :
  Good P w H β (args.map .val++List.replicate (n-args.length) .unk) ⟨fun _=>none,H⟩ { tmps:=args'.toArray++Array.replicate (n-args'.toArray.size) undef,defers:=[] } w β (fun _=>0):=by
 have hl:=hargs.1;refine⟨hR,⟨?_,fun d s hs=>?_,fun d c hc=>(by cases hc),fun d d' hd=>(by cases hd)⟩,Ext.refl _ _ _ _⟩
 ·simp[hl]
 ·by_cases hlt:d<args.length
  ·rw[List.getElem?_append_left (by simpa using hlt)]at hs;simp only[List.getElem?_map]at hs;cases ha:args[d]? with
   |none=>rw[ha]at hs;cases hs
   |some u=>
    rw[ha]at hs;cases hs;obtain⟨u',hu',hr⟩:=hargs.get ha;have hlt':d<args'.length:=hl▸hlt;show VRel β u _;rw[Array.getD_eq_getD_getElem?,Array.getElem?_append_left (by simpa using hlt')];simp only[List.getElem?_toArray,hu',Option.getD_some];exact hr
  ·rw[List.getElem?_append_right (by simpa using hlt)]at hs;have:=mem_of_getElem? hs;rw[mem_replicate]at this;rw[this.2];trivial
section
variable {α:Type}{P:Program}{O:Orc}{h:zai}
theorem zn4{x:Option (Value×Hp)}{k:Value→Hp→Option α}{r:α}(h:zn5 x k=some r):∃v H,x=some (v,H)∧k v H=some r:=by
 unfold zn5 at h;split at h
 ·exact⟨_,_,rfl,h⟩
 ·cases h
theorem zqv{c:Code}{d:Option Tmp}{b:Code}(h:zpI c=some (d,b)):∃id o cl,c=.seq (.region id #[o] false) b∧o.guard=none∧o.op=.call cl∧cl.callee=.builtin .recover∧o.dst=d:=by
 unfold zpI at h;split at h
 ·rename_i id ops b';split at h
  ·rename_i o hl;have hops:ops = #[o]:=by apply Array.ext';simpa using hl
   subst hops;split at h
   ·rename_i cl hg ho;split at h
    ·rename_i hc _;cases h;exact⟨id,o,cl,rfl,hg,ho,hc,rfl⟩
    ·cases h
   ·cases h
  ·cases h
 ·cases h
theorem zpb(hh:SimC P O h){g:FuncId}(hdraw:zpl ⟨P,O,h,g⟩)(hm:P.follows .mixedOrders=true){args:List Value}{x:Value}{H:Hp}{k:Hp→Option α}{r:α}(hc:zkv P O h g args x H k=some r)
  {args':List Value} {x':Value} {w:World} {β:Bt} (ha:LRel β args args') (hx:VRel β x x') (hR:Rel P w H β) (u:FrameMode) (hu:(u=.returning∧x'=.nilIface)∨u=.panicking [{ v:=x',recovered:=false }]) :
  zoe P g∧∃H',k H'=some r∧CallsD P g args'.toArray u w fun e u' w'=>∃v' β',e=.returned v'∧settle u'=.returning∧Rel P w' H' β'∧Ext w.heap.size w H β w' H' β':=by
 unfold zkv at hc;split at hc
 ·cases hc
 ·rename_i fn hf;split at hc
  ·rename_i c hn hpan hb;split at hc
   ·rename_i d b hrec;obtain⟨v,H1,hex,hk⟩:=zn4 hc;obtain⟨id,o,cl,rfl,hg,ho,hcl,rfl⟩:=zqv hrec;refine⟨⟨fn,hf,hn,by rw[hb];rfl⟩,H1,hk,callsD_of_wpS hf hb fun c₀ cs hmode=>wpS_seq (wpS_region ?_)⟩;have hG0:=zlK (n:=fn.ntmps) ha hR;generalize ha0:({ tmps:=args'.toArray++Array.replicate (fn.ntmps-args'.toArray.size) undef,defers:=[] }:Act)=a0 at hG0 ⊢;have hd0:a0.defers=[]:=by rw[←ha0]
    have rest:∀cs1 u1,cs1={ c₀ with mode:=u1 }::cs→settle u1=.returning→b.wpS P (bodyPostS P fn c₀ cs fun e u' w'=>∃v' β',e=.returned v'∧settle u'=.returning∧Rel P w' H1 β'∧Ext w.heap.size w H β w' H1 β') (a0.put o.dst x') cs1 w:=by
     intro cs1 u1 hcs hset;refine wpS_of_wp ?_;have hG1:Good P w H β (putS (args.map .val++List.replicate (fn.ntmps-args.length) .unk) o.dst (.val x)) ⟨fun _=>none,H⟩ (a0.put o.dst x') w β (fun _=>0):=⟨hG0.rel,hG0.fr.put (s:=.val x) hx _,hG0.ext⟩
     have hd1:(a0.put o.dst x').defers=[]:=by rw[←hd0];cases o.dst<;>rfl
     refine zbs (C:=⟨P,O,h,g⟩) (w0:=w) (H0:=H) (β0:=β) (fn:=fn) hh hdraw hm b hex hG1 ⟨fun fr S a w' β' lam g1 g2 g3=>?_,fun id fr S a w' β' lam g1 g2 g3=>(by cases g1),fun v1 fr S a w' β' lam v' g1 g2 g3 g4 g5=>?_,fun hp xx x fr S a w' β' lam x' g1 g2 g3 g4 g5=>?_⟩
     ·obtain⟨vs,v',h1,h2,h3⟩:=zf3 g2.rel g2.fr g1;cases h1;exact⟨g3.dfr.trans hd1,u1,hcs,v',h3,v',β',rfl,hset,g2.rel,g2.ext⟩
     ·cases g1;exact⟨g3.dfr.trans hd1,u1,hcs,v',g5,v',β',rfl,hset,g2.rel,g2.ext⟩
     ·have hp:O.pan g=true:=hp;rw[hpan]at hp;cases hp
    show wpOpsS P #[o] _ [0] a0 (c₀::cs) w;have hw:Region.wanted o (yielded #[o] a0.tmps)=true:=by simp[Region.wanted,hg]
    have hrun:(execOp a0.eval o).run P w=.ok .recover w:=by simp only[execOp,ho,resolve,hcl,Sem.run_bind,Sem.run_pure,Result.andThen_ok,invoke,builtin]
    have hget:(#[o]:Array Oper)[0]?=some o:=rfl;simp only[wpOpsS,hget,hw,if_true,hrun];rcases hu with⟨rfl,rfl⟩|rfl
    ·have hr0:recoverD (c₀::cs)=none:=by simp[recoverD,hmode]
     rw[hr0];refine rest (c₀::cs) .returning ?_ rfl;have:({ c₀ with mode:=.returning }:Frame)=c₀:=by rw[←hmode]
     rw[this]
    ·have hr0:recoverD (c₀::cs)=some (x',{ c₀ with mode:=.panicking [{ v:=x',recovered:=true }] }::cs):=by simp[recoverD,hmode]
     rw[hr0];exact rest _ (.panicking [{ v:=x',recovered:=true }]) rfl rfl
   ·cases hc
  ·cases hc
theorem mapM_len{rs:List ResultVar}{tmps:Array Value}:∀{w1 w2:World} {vs:List Value},(rs.mapM (resM tmps)).run P w1=.ok vs w2→vs.length=rs.length:=by
 induction rs with
 |nil=>intro w1 w2 vs h;simp only[mapM_nil,Sem.run_pure]at h;cases h;rfl
 |cons r rs ih=>
  intro w1 w2 vs h;simp only[mapM_cons,Sem.run_bind]at h;cases hq:(resM tmps r).run P w1 with
  |halt x w'=>rw[hq]at h;cases h
  |ok v w'=>
   rw[hq]at h;simp only[Result.andThen_ok]at h;cases hq2:(rs.mapM (resM tmps)).run P w' with
   |halt x w'=>rw[hq2]at h;cases h
   |ok l w''=>
    rw[hq2]at h;simp only[Result.andThen_ok,Sem.run_pure]at h;cases h;simp[ih hq2]
theorem zoG{β:Bt}{tmps:Array Value}:∀(rs:List ResultVar) {w1 w2:World} {vs vs' tv:List Value},(rs.mapM (resM tmps)).run P w1=.ok vs' w2→LRel β vs vs'→zqE rs vs=some tv→LRel β tv ((zeV rs).map fun t=>tmps.getD t undef)
 |[],w1,w2,vs,vs',tv,h,hl,hp=>by
  simp only[mapM_nil,Sem.run_pure]at h;cases h;cases vs with
  |nil=>cases hp;exact LRel.nil _
  |cons v vs=>cases hl.1
 |r::rs,w1,w2,vs,vs',tv,h,hl,hp=>by
  simp only[mapM_cons,Sem.run_bind]at h;cases hq:(resM tmps r).run P w1 with
  |halt x w'=>rw[hq]at h;cases h
  |ok v' w'=>
   rw[hq]at h;simp only[Result.andThen_ok]at h;cases hq2:(rs.mapM (resM tmps)).run P w' with
   |halt x w'=>rw[hq2]at h;cases h
   |ok l w''=>
    rw[hq2]at h;simp only[Result.andThen_ok,Sem.run_pure]at h;cases h;cases vs with
    |nil=>cases hl.1
    |cons v vs=>
     have hv:VRel β v v':=hl.2 0 v v' rfl rfl;have hl2:LRel β vs l:=⟨Nat.succ.inj hl.1,fun i x x' h1 h2=>hl.2 (i+1) x x' h1 h2⟩
     cases r with
     |tmp t=>
      unfold zqE at hp;split at hp
      ·rename_i l' hl';cases hp;have:v'=tmps.getD t undef:=by simp only[resM,Sem.run_pure]at hq;cases hq;rfl
       rw[this]at hv;exact(zoG rs hq2 hl2 hl').cons hv
      ·cases hp
     |cell t T=>
      unfold zqE at hp;exact zoG rs hq2 hl2 hp
theorem unRes_ok{fn:Func}{tmps:Array Value}{β:Bt}{w:World}{u v':Value}{k:List Value→Option α}{r:α}(hr:(results fn tmps).run P w=.ok v' w)(hv:VRel β u v')(h:zoh fn.results.toList u k=some r) :
  ∃vs vs',k vs=some r∧LRel β vs vs'∧(fn.results.toList.mapM (resM tmps)).run P w=.ok vs' w:=by
 rw[zhH]at hr;cases hq:(fn.results.toList.mapM (resM tmps)).run P w with
 |halt x w'=>rw[hq]at hr;cases hr
 |ok l w'=>
  rw[hq]at hr;simp only[Result.andThen_ok]at hr;cases hr;have hlen:=mapM_len hq;generalize hrs:fn.results.toList=rs at *
  match rs,l,hlen with
  |[],[],_=>
   unfold zoh at h;split at h
   ·rename_i e;cases e
   ·split at h
    ·obtain⟨ys,h1,h2⟩:=zb2.1 hv;simp at h1;exact⟨_,_,h,(by subst h1;exact h2),rfl⟩
    ·cases h
  |[_],[v1],_=>
   unfold zoh at h;exact⟨_,_,h,(LRel.nil _).cons hv,rfl⟩
  |_::_::_,v1::v2::l,_=>
   unfold zoh at h;split at h
   ·rename_i e;cases e
   ·split at h
    ·obtain⟨ys,h1,h2⟩:=zb2.1 hv;simp at h1;exact⟨_,_,h,(by subst h1;exact h2),rfl⟩
    ·cases h
theorem zqf{C:Ctx}{N:Nat}{w:World}{bx:Nat→Option Bx}{β0 β:Bt}{lam:Nat→Nat}{fr:Fr}{a a2:Act}{H0 H:Hp}{w0:World}(hR0:Rel C.P w0 H0 β0)(hF:FRel N w0 bx β0 lam fr a)(hle:β0.le β)(hR:Rel C.P w H β){W:List Nat}(hk:∀d,d∉W→a2.tmps.getD d undef=a.tmps.getD d undef){r:α} :
  ∀(rs:List ResultVar) (tv:List Value) (k:List Value→Option α),zh5 W rs=true→LRel β tv ((zeV rs).map fun t=>a2.tmps.getD t undef)→endL C.P fr H rs tv k=some r →
   ∃vs vs',k vs=some r∧LRel β vs vs'∧(rs.mapM (resM a2.tmps)).run C.P w=.ok vs' w
 |[],tv,k,hc,ht,h=>by
  cases tv with
  |nil=>exact⟨[],[],h,LRel.nil _,rfl⟩
  |cons v tv=>cases h
 |.tmp t::rs,tv,k,hc,ht,h=>by
  cases tv with
  |nil=>cases h
  |cons v tv=>
   have ht:LRel β (v::tv) (a2.tmps.getD t undef::(zeV rs).map fun t=>a2.tmps.getD t undef):=ht;obtain⟨vs,vs',h2,h3,h4⟩:=zqf hR0 hF hle hR hk rs tv _ hc ⟨Nat.succ.inj ht.1,fun i x x' h1 h2=>ht.2 (i+1) x x' h1 h2⟩ h;refine⟨v::vs,a2.tmps.getD t undef::vs',h2,h3.cons (ht.2 0 v _ rfl rfl),?_⟩;simp only[mapM_cons,Sem.run_bind,resM,Sem.run_pure,Result.andThen_ok,h4]
 |.cell t T::rs,tv,k,hc,ht,h=>by
  unfold zh5 at hc;rw[Bool.and_eq_true]at hc;have htW:t∉W:=by simpa using hc.1
  unfold endL at h;obtain⟨i,d,hi,hd,h⟩:=zhA h;obtain⟨p,hp,h⟩:=za7 hR0 hF (x:=.tmp t) h;have hx:VRel β p (a2.tmps.getD t undef):=by rw[hk t htW];exact hp.mono hle
  unfold zaH at h;split at h
  ·rename_i v hv;unfold Hp.rdP at hv;split at hv
   ·rename_i i0 off;generalize hq:a2.tmps.getD t undef=q at hx;cases hx with
    |ptr _ _ y hy=>
    unfold Hp.rd at hv;split at hv
    ·rename_i cs own hg;obtain⟨y',hy',h1,_⟩:=hR.cells i0 cs own hg;rw[hy]at hy';cases hy';obtain⟨v',hrun,hrel⟩:=zdm hi hd h1 hv;obtain⟨vs,vs',h2,h3,h4⟩:=zqf hR0 hF hle hR hk rs tv _ hc.2 ht h;refine⟨v::vs,v'::vs',h2,h3.cons hrel,?_⟩;simp only[mapM_cons,Sem.run_bind,resM,hq,asAddr,Sem.run_pure,Result.andThen_ok,hrun,h4]
    ·rename_i cs e fz hg;obtain⟨v',hrun,hrel⟩:=zma hR hi hd hg hy hv;obtain⟨vs,vs',h2,h3,h4⟩:=zqf hR0 hF hle hR hk rs tv _ hc.2 ht h;refine⟨v::vs,v'::vs',h2,h3.cons hrel,?_⟩;simp only[mapM_cons,Sem.run_bind,resM,hq,asAddr,Sem.run_pure,Result.andThen_ok,hrun,h4]
    ·cases hv
   ·cases hv
  ·cases h
theorem zqY{c:Code}{o1:Oper}{fo:Operand}(h:zqh c=some (o1,fo)):∃id o2 cl,c=.region id #[o1,o2] false∧o1.guard=none∧o2.guard=none∧o2.dst=none∧o2.op=.defer cl∧cl.callee=.value fo∧cl.args = #[]:=by
 unfold zqh at h;split at h
 ·rename_i id ops;split at h
  ·rename_i p1 p2 hl;have hops:ops = #[p1,p2]:=by apply Array.ext';simpa using hl
   subst hops;split at h
   ·rename_i cl h1 h2 h3 h4;split at h
    ·rename_i fo' h5 h6;cases h;exact⟨id,p2,cl,rfl,h1,h2,h3,h4,h5,by apply Array.ext';simpa using h6⟩
    ·cases h
   ·cases h
  ·cases h
 ·cases h
theorem deferC_fn{C:Ctx}{rs:List ResultVar}{b:Code}{fr:Fr}{S:St}{fo:Operand}{r:Value×Hp}{N:Nat}{w:World}{β:Bt}{lam:Nat→Nat}{a:Act}(hR:Rel C.P w S.hp β)(hF:FRel N w S.bx β lam fr a)(h:zix C rs b fr S fo=some r) :
  ∃g cs',a.eval fo=.func (.func g) #[] (List.toArray cs'):=by
 unfold zix at h;split at h
 ·cases h
 ·obtain⟨fv,hfv,h⟩:=za7 hR hF h;unfold pClos at h;split at h
  ·rename_i g cs;generalize hq:a.eval fo=q at hfv;cases hfv with
   |func fn fs fs' cs1 cs' hl hh1 hl2 hh2=>
    have:fs'=[]:=length_eq_zero_iff.1 hl.symm;subst this;exact⟨g,cs',rfl⟩
  ·cases h
theorem znX{C:Ctx}(hp:C.O.pan C.f=true)(hdf:C.O.dfr C.f=true)(hh:SimC C.P C.O C.h)(hdr:∀g,zpl ⟨C.P,C.O,C.h,g⟩)(hm:C.P.follows .mixedOrders=true){fn:Func}{b:Code}{fo:Operand}{w0:World}{H0:Hp}{β0:Bt}{fr:Fr}{S:St}{a:Act}{w:World}{β:Bt}{lam:Nat→Nat}{v:Value}{H':Hp}
  (h:zix C fn.results.toList b fr S fo=some (v,H')) (hG:Good C.P w0 H0 β0 fr S a w β lam) {d:Deferred} (hd:a.defers=[d]) (hfo:∀g cs',a.eval fo=.func (.func g) #[] (List.toArray cs')→d={ target:=.fn (.func g) (List.toArray cs'),args:=#[] }) :
  b.wp C.P (bodyPostD C.P fn (Ends C.P true w0 H0 β0 v H')) a w:=by
 unfold zix at h;split at h
 ·cases h
 rename_i hcells;obtain⟨fv,hfv,h1⟩:=za7 hG.rel hG.fr h;clear h;unfold pClos at h1;split at h1
 ·rename_i g cs;generalize hq:a.eval fo=q at hfv;cases hfv with
  |func fn' fs fs' cs1 cs' hl hh1 hl2 hh2=>
  have hfs:fs'=[]:=length_eq_zero_iff.1 hl.symm;subst hfs;have hd':=hfo g cs' hq;obtain⟨v1,H1,hex,h⟩:=zn4 h1;clear h1;have fin:∀{fr1:Fr} {S1:St} {a1:Act} {w1:World} {β1:Bt} {lam1:Nat→Nat} (g2:Good C.P w0 H0 β0 fr1 S1 a1 w1 β1 lam1) (g3:Kept (wr b []) a β a1 β1) (x x':Value) (hx:VRel β1 x x') (u:FrameMode) (hu:(u=.returning∧x'=.nilIface)∨u=.panicking [{ v:=x',recovered:=false }])
    (tv:List Value) (htv:LRel β1 tv ((zeV fn.results.toList).map fun t=>a1.tmps.getD t undef)) (hc:(zkv C.P C.O C.h g cs x S1.hp fun H'=>endL C.P fr H' fn.results.toList tv fun vs=>some (W1 (resV vs),H'))=some (v,H')),
    Leaves C.P fn a1.tmps (Ends C.P true w0 H0 β0 v H') a1.defers u w1:=by
   intro fr1 S1 a1 w1 β1 lam1 g2 g3 x x' hx u hu tv htv hc;have hcs:LRel β cs cs':=⟨hl2,hh2⟩
   obtain⟨hen,H2,hk,hcalls⟩:=zpb hh (hdr g) hm hc (hcs.monoL g3.le) hx g2.rel u hu;rw[g3.dfr,hd,hd'];refine leaves_cons (f:=g) (args:=cs'.toArray) (by rcases hu with⟨rfl,_⟩|rfl<;>simp) ?_ (hcalls.mono fun e u' w' he=>?_)
   ·show (callFunc g (#[]++cs'.toArray)).run C.P w1=_;rw[zfY hen];simp
   ·obtain⟨v2,β2,rfl,hset,hR2,hE2⟩:=he;show Leaves C.P fn a1.tmps _ [] (settle u') w';rw[hset];obtain⟨vs,vs',h2,h3,h4⟩:=zqf hG.rel hG.fr (Bt.le_trans g3.le hE2.le) hR2 g3.tmps fn.results.toList tv _ hcells (htv.monoL hE2.le) hk;cases h2;exact⟨_,by rw[zhH,h4];rfl,_,β2,hR2,g2.ext.trans (hE2.weaken g2.n),.inl ⟨_,rfl,rfl,zpF h3⟩⟩
  have ret:∀{fr1:Fr} {S1:St} {a1:Act} {w1:World} {β1:Bt} {lam1:Nat→Nat} (g2:Good C.P w0 H0 β0 fr1 S1 a1 w1 β1 lam1) (g3:Kept (wr b []) a β a1 β1) (u0 v':Value) (hv:VRel β1 u0 v') (hres:(results fn a1.tmps).run C.P w1=.ok v' w1),v1=zjc C u0→H1=S1.hp →
    Leaves C.P fn a1.tmps (Ends C.P true w0 H0 β0 v H') a1.defers .returning w1:=by
   intro fr1 S1 a1 w1 β1 lam1 g2 g3 u0 v' hv hres e1 e2;have e3:zjc C u0=W1 u0:=by unfold zjc;rw[hp]
   rw[e1,e3,e2]at h;have h:(zoh fn.results.toList u0 fun vs=>zqH fn.results.toList vs fun tv=>zkv C.P C.O C.h g cs .nilIface S1.hp fun H'=>endL C.P fr H' fn.results.toList tv fun vs=>some (W1 (resV vs),H'))=some (v,H'):=h;obtain⟨vs,vs',q1,q2,q3⟩:=unRes_ok hres hv h;unfold zqH at q1;split at q1
   ·rename_i tv htv;exact fin g2 g3 .nilIface .nilIface .nilIface .returning (.inl ⟨rfl,rfl⟩) tv (zoG _ q3 q2 htv) q1
   ·cases q1
  refine zbs (C:=C) (fn:=fn) hh (hdr C.f) hm b hex hG ⟨fun fr1 S1 a1 w1 β1 lam1 g1 g2 g3=>?_,fun id fr S a w' β' lam g1 g2 g3=>(by cases g1),fun u0 fr1 S1 a1 w1 β1 lam1 v' g1 g2 g3 g4 g5=>?_,fun _ xx x fr1 S1 a1 w1 β1 lam1 x' g1 g2 g3 g4 g5=>?_⟩
  ·obtain⟨vs,v',h1,h2,h3⟩:=zf3 g2.rel g2.fr g1;cases h1;exact ret g2 g3.kept _ v' h2 h3 rfl rfl
  ·cases g1;exact ret g2 g3 _ v' g4 g5 rfl rfl
  ·cases g1;unfold PanR at g5;rw[hdf]at g5;obtain⟨vs,rfl,hvs⟩:=g5;exact fin g2 g3 x x' g4 _ (.inr rfl) vs hvs h
 ·cases h1
theorem zgM{C:Ctx}(hp:C.O.pan C.f=true)(hdf:C.O.dfr C.f=true)(hh:SimC C.P C.O C.h)(hdr:∀g,zpl ⟨C.P,C.O,C.h,g⟩)(hm:C.P.follows .mixedOrders=true){fn:Func}{w0:World}{H0:Hp}{β0:Bt}{v:Value}{H':Hp} :
  ∀(c:Code) {fr:Fr} {S:St} {a:Act} {w:World} {β:Bt} {lam:Nat→Nat},znR C fn.results.toList c fr S=some (v,H')→Good C.P w0 H0 β0 fr S a w β lam→a.defers=[]→c.wp C.P (bodyPostD C.P fn (Ends C.P true w0 H0 β0 v H')) a w
 |.seq x y,fr,S,a,w,β,lam,h,hG,hd=>by
  have retK:∀{fr1:Fr} {S1:St} {a1:Act} {w1:World} {β1:Bt} {lam1:Nat→Nat} {u0 v':Value} (g1:retT (zjc C u0) S1.hp=some (v,H')) (g2:Good C.P w0 H0 β0 fr1 S1 a1 w1 β1 lam1) (g3:a1.defers=[]) (g4:VRel β1 u0 v') (g5:(results fn a1.tmps).run C.P w1=.ok v' w1),
    Leaves C.P fn a1.tmps (Ends C.P true w0 H0 β0 v H') a1.defers .returning w1:=by
   intro fr1 S1 a1 w1 β1 lam1 u0 v' g1 g2 g3 g4 g5;have e3:zjc C u0=W1 u0:=by unfold zjc;rw[hp]
   rw[e3]at g1;cases g1;rw[g3];exact⟨v',g5,v',β1,g2.rel,g2.ext,.inl ⟨u0,rfl,rfl,g4⟩⟩
  unfold znR at h;split at h
  ·rename_i o1 fo hdef;obtain⟨id,o2,cl,rfl,h1,h2,h3,h4,h5,h6⟩:=zqY hdef;refine wp_seq (wp_region ?_);show wpOps C.P #[o1,o2] _ [0,1] a w;have hw1:∀y,Region.wanted o1 y=true:=fun y=>by simp[Region.wanted,h1]
   have hw2:∀y,Region.wanted o2 y=true:=fun y=>by simp[Region.wanted,h2]
   have hget:(#[o1,o2]:Array Oper)[0]?=some o1:=rfl;have hget2:(#[o1,o2]:Array Oper)[1]?=some o2:=rfl;simp only[wpOps,hget,hget2,hw1,hw2,if_true];refine .inl (zi4 hh hG.n h hG.rel hG.fr fun s S' w' v' β' lam' g1 g2 g3 g4 g5 g6=>?_);have hG1:Good C.P w0 H0 β0 (putS fr o1.dst s) S' (a.put o1.dst v') w' β' lam':=⟨g2,g3.put g4 _,hG.ext.trans g5⟩
   obtain⟨g,cs',hfo⟩:=deferC_fn hG1.rel hG1.fr g1;have hd1:(a.put o1.dst v').defers=[]:=by rw[←hd];cases o1.dst<;>rfl
   generalize a.put o1.dst v'=a1 at hG1 hfo hd1 ⊢;have hrun:(execOp a1.eval o2).run C.P w'=.ok (.defer { target:=.fn (.func g) (List.toArray cs'),args:=#[] }) w':=by simp only[execOp,h4,resolve,h5,h6,hfo,Deferred.ofValue,Sem.run_bind,Sem.run_pure,Result.andThen_ok];simp
   refine .inl ?_;unfold Oper.wp;rw[hrun];show Code.wp C.P y _ ({ a1 with defers:=_::a1.defers }.put o2.dst undef) w';rw[h3,hd1];refine znX hp hdf hh hdr hm g1 (d:={ target:=.fn (.func g) (List.toArray cs'),args:=#[] }) ⟨hG1.rel,⟨hG1.fr.size,hG1.fr.slot,hG1.fr.box,hG1.fr.apart⟩,hG1.ext⟩ rfl fun g' cs2 he=>?_;have he:a1.eval fo=.func (.func g') #[] (List.toArray cs2):=he;rw[hfo]at he;cases he;rfl
  ·split at h
   ·refine wp_seq (zbs (C:=C) (fn:=fn) hh (hdr C.f) hm x h hG ⟨fun fr' S' a' w' β' lam' g1 g2 g3=>?_,fun id fr' S' a' w' β' lam' g1 g2 g3=>(by cases g1),fun u0 fr1 S1 a1 w1 β1 lam1 v' g1 g2 g3 g4 g5=>?_,fun _ xx x fr1 S1 a1 w1 β1 lam1 x' g1 g2 g3 g4 g5=>?_⟩)
    ·exact zgM hp hdf hh hdr hm y g1 g2 (g3.dfr.trans hd)
    ·exact retK g1 g2 (g3.dfr.trans hd) g4 g5
    ·cases g1
   ·rename_i ks kb hj;unfold zaG at h;split at h
    ·rename_i c l H1 hx1;refine wp_seq (zbs (C:=C) (fn:=fn) hh (hdr C.f) hm x hx1 (hG.ro (zm7 kb S.bx)) ⟨fun fr' S' a' w' β' lam' g1 g2 g3=>?_,fun id fr' S' a' w' β' lam' g1 g2 g3=>?_,fun v fr' S' a' w' β' lam' v' g1 g2 g3 g4 g5=>?_,fun _ xx x fr1 S1 a1 w1 β1 lam1 x' g1 g2 g3 g4 g5=>?_⟩)
     ·obtain⟨vs,bs,he,h1,h2,h3,h4⟩:=zds g1;cases he;obtain⟨q1,q2⟩:=leave hG.fr g2 g3 h1 h2 h3 h4;exact zgM hp hdf hh hdr hm y h q1 (g3.dfr.trans hd)
     ·obtain⟨vs,bs,he,h1,h2,h3,h4⟩:=zds g1;cases he;cases h
     ·cases g1;exact retK h g2 (g3.dfr.trans hd) g4 g5
     ·cases g1;cases h
    ·cases h
 |.skip,_,_,_,_,_,_,h,_,_=>by cases h
 |.region ..,_,_,_,_,_,_,h,_,_=>by cases h
 |.cond ..,_,_,_,_,_,_,h,_,_=>by cases h
 |.block ..,_,_,_,_,_,_,h,_,_=>by cases h
 |.loop ..,_,_,_,_,_,_,h,_,_=>by cases h
 |.exit _,_,_,_,_,_,_,h,_,_=>by cases h
 |.ret,_,_,_,_,_,_,h,_,_=>by cases h
 |.rangeFunc _ _ _ _,_,_,_,_,_,_,h,_,_=>by cases h
 |.scope _,_,_,_,_,_,_,h,_,_=>by cases h
 |.label _,_,_,_,_,_,_,h,_,_=>by cases h
 |.goto _,_,_,_,_,_,_,h,_,_=>by cases h
 |.refuse _,_,_,_,_,_,_,h,_,_=>by cases h
end
end Go.AM
namespace Go.AM
open Go
abbrev Ext1:=FuncId→Option (List Value→Hp→Option (Value×Hp))
def ExtC(P:Program)(ext:Ext1):Prop:=∀f e,ext f=some e→∀args H v H',e args H=some (v,H')→∀args' w β,LRel β args args'→Rel P w H β →
 Calls P f args'.toArray w fun x w'=>∃v' β',x=.returned v'∧Rel P w' H' β'∧Ext w.heap.size w H β w' H' β'∧VRel β' v v'
def ExtO(O:Orc)(ext:Ext1):Prop:=∀f,(ext f).isSome=true∨(O.xt f).isSome=true→O.pan f=false
def DrawsS(P:Program):Prop:=∀O h f,SimC P O h→zpl ⟨P,O,h,f⟩
theorem zpc{P:Program}{O:Orc}{ext:Ext1}{h:zai}(hm:P.follows .mixedOrders=true)(hd:DrawsS P)(he:ExtC P ext)(hx:XtC P O.xt)(ho:ExtO O ext)(hh:SimC P O h):SimC P O (zkw P O ext h):=by
 intro f args H v H' hc;unfold zkw at hc;split at hc
 ·cases hc
 ·rename_i fn hf;split at hc
  ·cases hc
  ·rename_i hname;split at hc
   ·rename_i hb;split at hc
    ·rename_i e hxe;split at hc
     ·rename_i v1 hv1;cases hc;exact .inr ⟨ho f (.inr (by rw[hxe];rfl)),rfl,⟨fn,hf,hb⟩,hx f e hxe _ _ hv1⟩
     ·cases hc
    ·cases hc
   ·rename_i c hb;refine .inl ⟨⟨fn,hf,hname,by rw[hb];rfl⟩,fun args' w β hargs hR=>?_⟩;split at hc
    ·rename_i e hext;unfold Ends;rw[ho f (.inl (by rw[hext];rfl))];exact he f e hext _ _ _ _ hc _ _ _ hargs hR
    ·have hG:=zlK (n:=fn.ntmps) hargs hR;have hdr:∀g,zpl ⟨P,O,h,g⟩:=fun g=>hd O h g hh;unfold zqU at hc;dsimp only at hc;split at hc
     ·rename_i hdf;refine calls_of_wp hf hb ?_;refine zbs (C:=⟨P,O,h,f⟩) (w0:=w) (H0:=H) (β0:=β) hh (hd O h f hh) hm c hc hG ⟨fun fr S a w' β' lam g1 g2 g3=>?_,fun id fr S a w' β' lam g1 g2 g3=>(by cases g1),fun v1 fr S a w' β' lam v' g1 g2 g3 g4 g5=>?_,fun hp xx x fr S a w' β' lam x' g1 g2 g3 g4 g5=>?_⟩
      ·obtain⟨vs,v',h1,h2,h3⟩:=zf3 g2.rel g2.fr g1;cases h1;refine⟨g3.dfr,v',h3,?_⟩;exact zqe g2 h2
      ·cases g1;exact⟨g3.dfr,v',g5,zqe g2 g4⟩
      ·cases g1;refine⟨g3.dfr,?_⟩;unfold PanR at g5;rw[show O.dfr f=false from hdf]at g5;dsimp only at g5;subst g5;unfold Ends;rw[show O.pan f=true from hp];exact⟨x',β',g2.rel,g2.ext,.inr ⟨_,rfl,rfl,g4⟩⟩
     ·rename_i hdf;split at hc
      ·rename_i hp;refine calls_of_wp_defers hf hb ?_;rw[hp];exact zgM (C:=⟨P,O,h,f⟩) hp hdf hh hdr hm c hc hG rfl
      ·cases hc
theorem zk9{P:Program}{O:Orc}{ext:Ext1}(hm:P.follows .mixedOrders=true)(hd:DrawsS P)(he:ExtC P ext)(hx:XtC P O.xt)(ho:ExtO O ext):∀n,SimC P O (runN P O ext n)
 |0=>fun f args H v H' h=>by cases h
 |n+1=>zpc hm hd he hx ho (zk9 hm hd he hx ho n)
theorem zpD{P:Program}{O:Orc}{ext:Ext1}{f:FuncId}{args:List Value}{H:Hp}{r:Value×Hp}(h:run P O ext f args H=some r):∃n,runN P O ext n f args H=some r:=by
 unfold run at h;split at h
 ·rename_i hex;obtain⟨n,hn⟩:=hex.choose_spec;have h:hex.choose=r:=by simpa using h
  exact⟨n,by rw[hn,h]⟩
 ·cases h
theorem run_sound{P:Program}{O:Orc}{ext:Ext1}(hm:P.follows .mixedOrders=true)(hd:DrawsS P)(he:ExtC P ext)(hx:XtC P O.xt)(ho:ExtO O ext):SimC P O (run P O ext):=fun f args H v H' h=>by obtain⟨n,hn⟩:=zpD h;exact zk9 hm hd he hx ho n f args H v H' hn
theorem run_body{P:Program}{O:Orc}{ext:Ext1}{f:FuncId}{args:List Value}{H:Hp}{r:Value×Hp}(hx:O.xt f=none)(h:run P O ext f args H=some r):¬ ∃fn,P.funcs[f]?=some fn∧fn.body=none:=by
 rintro⟨fn,hf,hb⟩
 obtain⟨n,hn⟩:=zpD h;cases n with
 |zero=>cases hn
 |succ n=>
  have hn:zkw P O ext (runN P O ext n) f args H=some r:=hn;unfold zkw at hn;simp only[hf,hb,hx]at hn;split at hn<;>cases hn
end Go.AM
namespace Go.AM
open List Go
section
def opRD(C:Ctx)(fr:Fr)(S:St)(o:Oper):Option (Slot×St):=opD C fr S o fun s S'=>some (s,S')
theorem opD_nat{α:Type}(C:Ctx)(fr:Fr)(S:St)(o:Oper)(k:Slot→St→Option α):opD C fr S o k=(opRD C fr S o).bind fun p=>k p.1 p.2:=by
 unfold opRD opD;cases isLA C.O C.f o with
 |true=>
  dsimp only;cases o.dst<;>rfl
 |false=>exact zoM _ _ _ _ _
theorem zco{C:Ctx}{o:Oper}(h:isLA C.O C.f o=false)(fr:Fr)(S:St):opRD C fr S o=opR C fr S o:=by unfold opRD opD opR;rw[h]
theorem zeD{P:Program}{O:Orc}{f:FuncId}{o:Oper}(h:isLA O f o=false):zbX P O f o=zcV P o.op:=by unfold zbX;rw[h]
theorem zmq{P:Program}{O:Orc}{f:FuncId}{o:Oper}(h:isLA O f o=true):zbX P O f o=.pure:=by unfold zbX;rw[h]
theorem zml{C:Ctx}{fr:Fr}{S S' S2:St}{o:Oper}{s:Slot}(h:opRD C fr S o=some (s,S'))(hp:zbX C.P C.O C.f o=.pure∨(zbX C.P C.O C.f o=.read∧S2=S)) :
  S'=S∧opRD C fr S2 o=some (s,S2):=by
 cases hl:isLA C.O C.f o with
 |false=>
  rw[zeD hl]at hp;rw[zco hl]at h ⊢;exact opR_pr h hp
 |true=>
  unfold opRD opD at h ⊢;rw[hl]at h ⊢;dsimp only at h ⊢;split at h
  ·cases h;exact⟨rfl,rfl⟩
  ·cases h
theorem zqL{C:Ctx}{fr fr':Fr}{S:St}{o:Oper}(h:∀x∈o.op.operands,ev C.P.globals.size fr x=ev C.P.globals.size fr' x):opRD C fr S o=opRD C fr' S o:=by
 cases hl:isLA C.O C.f o with
 |false=>rw[zco hl,zco hl];exact opR_congr h
 |true=>
  unfold opRD opD;rw[hl]
theorem zj2{P:Program}{O:Orc}{f:FuncId}{o:Oper}(h:zbX P O f o=.read):isLA O f o=false:=by
 cases hl:isLA O f o with
 |false=>rfl
 |true=>rw[zmq hl]at h;cases h
theorem zqK{P:Program}{O:Orc}{f:FuncId}{o:Oper}(h:zbX P O f o=.eff):isLA O f o=false:=by
 cases hl:isLA O f o with
 |false=>rfl
 |true=>rw[zmq hl]at h;cases h
theorem zhI{C:Ctx}{fr:Fr}{S S2:St}{o:Oper}{s:Slot}(h:opRD C fr S o=some (s,S))(hk:zbX C.P C.O C.f o=.read)(hs:zm3 (zbF C fr o) S S2):opRD C fr S2 o=some (s,S2):=by have hl:=zj2 hk;rw[zco hl]at h ⊢;rw[zeD hl]at hk;exact read_same h hk hs
theorem zn9{α:Type}{C:Ctx}{fr:Fr}{S S2:St}{o:Oper}{s:Slot}{k:Option α}{r:α}(h:opRD C fr S o=some (s,S))(hk:zbX C.P C.O C.f o=.read)(ha:zh7 C fr S2 o s k=some r):k=some r∧opRD C fr S2 o=some (s,S2):=by have hl:=zj2 hk;rw[zco hl]at h ⊢;rw[zeD hl]at hk;exact again_ok h hk ha
theorem zqg{C:Ctx}{fr:Fr}{S S':St}{o:Oper}{s:Slot}(h:opRD C fr S o=some (s,S'))(hk:zbX C.P C.O C.f o=.eff):TagR (zbF C fr o) S S':=by have hl:=zqK hk;rw[zco hl]at h;rw[zeD hl]at hk;exact zo6 h hk
def opX(C:Ctx)(fr:Fr)(S:St)(o:Oper):Option (Value×Hp):=opW C fr S o (fun x H=>some (x,H)) fun _ _=>none
theorem zmg{C:Ctx}{o:Oper}(h:panS C o=true):isLA C.O C.f o=false∧zbX C.P C.O C.f o=.eff:=by
 have h1:isLA C.O C.f o=false:=by
  cases hl:isLA C.O C.f o with
  |false=>rfl
  |true=>
   unfold isLA at hl;split at hl
   ·rename_i h2 _;unfold panS at h;rw[h2]at h;cases h
   ·cases hl
 refine⟨h1,?_⟩;rw[zeD h1];unfold panS at h;split at h
 ·rename_i c ho;rw[ho];obtain⟨callee,args,tys⟩:=c;cases callee with
  |value fo=>rfl
  |invoke _ _=>cases h
  |builtin _=>cases h
 ·rename_i ho;rw[ho];rfl
 ·cases h
theorem evs_none{G:Nat}{fr:Fr}{α:Type}{xs:List Operand}{f:List Value→Option α}{r:α}(h:evs G fr xs f=some r):∃vs,f vs=some r∧∀{γ:Type} (g:List Value→Option γ),evs G fr xs g=g vs:=by
 induction xs generalizing f with
 |nil=>exact⟨[],h,fun _=>rfl⟩
 |cons x xs ih=>
  unfold evs sV at h;split at h
  ·rename_i v hv;obtain⟨vs,h1,h2⟩:=ih h;exact⟨v::vs,h1,fun g=>by unfold evs sV;rw[hv];exact h2 _⟩
  ·cases h
theorem opW_split{α:Type}{C:Ctx}{fr:Fr}{S:St}{o:Oper}{kp:Value→Hp→Option α}{k:Slot→St→Option α}{r:α}(hp:panS C o=true)(h:opW C fr S o kp k=some r) :
  (∃s S',opRD C fr S o=some (s,S')∧k s S'=some r)∨∃x H,opX C fr S o=some (x,H)∧kp x H=some r:=by
 rw[zco (zmg hp).1];unfold opX opW opR opC;unfold opW at h;unfold panS at hp;dsimp only;split at h
 ·rename_i c ho;rw[ho]at hp ⊢;dsimp only at hp ⊢;split at h
  ·rename_i g hc;rw[hc]at hp ⊢;dsimp only at hp ⊢;obtain⟨vs,h1,h2⟩:=evs_none h;rw[h2];simp only[show ev C.P.globals.size fr (.func g)=.val (.func (.func g) #[] #[]) from rfl,sV,h2];have e:∀{γ:Type} (q:Value→Hp→Option γ),zgd C.O C.h (.func (.func g) #[] #[]) vs S.hp q=zhl C.h g vs S.hp q:=fun q=>by unfold zgd;dsimp only;rw[hp];simp
   rw[e];unfold zjZ at h1 ⊢;unfold zhl;split at h1
   ·rename_i v H' hcall;rcases ziU h1 with⟨u,rfl,h3⟩|⟨x,rfl,h3⟩
    ·exact .inl ⟨_,_,rfl,h3⟩
    ·exact .inr ⟨_,_,rfl,h3⟩
   ·cases h1
  ·cases h
 ·rename_i x ho;rw[ho];dsimp only;right;unfold sV at h ⊢;split at h
  ·rename_i v hv;show ∃x H,zno v (some (v,S.hp))=some (x,H)∧kp x H=some r;have h:zno v (kp v S.hp)=some r:=h;unfold zno at h ⊢;split at h
   ·exact⟨_,_,rfl,h⟩
   ·cases h
  ·cases h
 ·cases h
end
section
variable (C:Ctx)(ops:List Oper)(fr0:Fr)(S0:St)
def stp:Nat→Fr×St
 |0=>(fr0,S0)
 |i+1=>match ops[i]? with
  |none=>stp i
  |some o=>match zdd ops (stp i).1 o with
   |some true=>match opRD C (stp i).1 (stp i).2 o with
    |some (s,S')=>(putS (stp i).1 o.dst s,S')
    |none=>stp i
   |_=>(putS (stp i).1 o.dst .und,(stp i).2)
def sl(i:Nat):Slot:=
 match ops[i]? with
 |none=>.und
 |some o=>match zdd ops (stp C ops fr0 S0 i).1 o with
  |some true=>match opRD C (stp C ops fr0 S0 i).1 (stp C ops fr0 S0 i).2 o with
   |some (s,_)=>s
   |none=>.und
  |_=>.und
def Wd(i:Nat)(o:Oper):Prop:=zdd ops (stp C ops fr0 S0 i).1 o=some true
structure OKi(i:Nat)(o:Oper)(b:Bool):Prop where
 guard:zdd ops (stp C ops fr0 S0 i).1 o=some b
 yes:b=true→opRD C (stp C ops fr0 S0 i).1 (stp C ops fr0 S0 i).2 o=some (sl C ops fr0 S0 i,(stp C ops fr0 S0 (i+1)).2)
 no:b=false→sl C ops fr0 S0 i=.und∧(stp C ops fr0 S0 (i+1)).2=(stp C ops fr0 S0 i).2
 next:(stp C ops fr0 S0 (i+1)).1=putS (stp C ops fr0 S0 i).1 o.dst (sl C ops fr0 S0 i)
structure PanAt{α:Type}(an:List Nat)(kp:Value→Hp→Option α)(r:α)(n:Nat)(o:Oper)(x:Value)(H:Hp):Prop where
 at_:ops[n]?=some o
 pan:C.O.pan C.f=true
 op:panS C o=true
 guard:zdd ops (stp C ops fr0 S0 n).1 o=some true
 last:zp4 ops an n=true
 run:opX C (stp C ops fr0 S0 n).1 (stp C ops fr0 S0 n).2 o=some (x,H)
 kp:kp x H=some r
def Chk(an:List Nat)(j:Nat)(o:Oper):Prop:=
 (Wd C ops fr0 S0 j o→zbX C.P C.O C.f o=.read→∀l o',l<j→ops[l]?=some o'→Wd C ops fr0 S0 l o'→zbX C.P C.O C.f o'=.eff→(an.getD j 0).testBit l=false →
  zcy (zbF C (stp C ops fr0 S0 l).1 o') (zbF C (stp C ops fr0 S0 j).1 o)=true→opRD C (stp C ops fr0 S0 j).1 (stp C ops fr0 S0 l).2 o=some (sl C ops fr0 S0 j,(stp C ops fr0 S0 l).2)) ∧
 (Wd C ops fr0 S0 j o→zbX C.P C.O C.f o=.eff→∀l o',l<j→ops[l]?=some o'→Wd C ops fr0 S0 l o'→zbX C.P C.O C.f o'=.read→(an.getD j 0).testBit l=false →
  zcy (zbF C (stp C ops fr0 S0 l).1 o') (zbF C (stp C ops fr0 S0 j).1 o)=true→opRD C (stp C ops fr0 S0 l).1 (stp C ops fr0 S0 (j+1)).2 o'=some (sl C ops fr0 S0 l,(stp C ops fr0 S0 (j+1)).2))
end
section
variable {α:Type}{C:Ctx}{ops:List Oper}{fr0:Fr}{S0:St}{r:α}{an:List Nat}
theorem zgS{a i:Nat}{o:Oper}{fr:Fr}{s:Slot}{tag:Option Nat}{k:Option α}{S1:St}(h0:opRD C fr S1 o=some (s,S1))(hk:zbX C.P C.O C.f o=.read) :
  ∀es:List (Nat×Option Nat×St),zfX C a i o fr s tag k es=some r→k=some r∧∀q∈es,a.testBit q.1=false→zcy q.2.1 tag=true→opRD C fr q.2.2 o=some (s,q.2.2)
 |[],h=>⟨h,fun q hq=>by cases hq⟩
 |(j,t,S)::es,h=>by
  unfold zfX at h;split at h
  ·rename_i hb;obtain⟨h1,h2⟩:=zgS h0 hk es h;refine⟨h1,fun q hq hb' ht=>?_⟩;rcases mem_cons.1 hq with rfl|hq
   ·dsimp only at hb' ht;rw[hb',ht]at hb;cases hb
   ·exact h2 q hq hb' ht
  ·obtain⟨h3,h4⟩:=zn9 h0 hk h;obtain⟨h1,h2⟩:=zgS h0 hk es h3;refine⟨h1,fun q hq hb' ht=>?_⟩;rcases mem_cons.1 hq with rfl|hq
   ·exact h4
   ·exact h2 q hq hb' ht
theorem zeR{a:Nat}{tag:Option Nat}{S:St}{k:Option α}:∀rs:List Rd,(∀q∈rs,zbX C.P C.O C.f q.o=.read∧∃S1,opRD C q.fr S1 q.o=some (q.s,S1))→zeS C a tag S k rs=some r →
  k=some r∧∀q∈rs,a.testBit q.i=false→zcy q.tag tag=true→opRD C q.fr S q.o=some (q.s,S)
 |[],_,h=>⟨h,fun q hq=>by cases hq⟩
 |p::rs,hr,h=>by
  unfold zeS at h;split at h
  ·rename_i hb;obtain⟨h1,h2⟩:=zeR rs (fun q hq=>hr q (mem_cons_of_mem _ hq)) h;refine⟨h1,fun q hq hb' ht=>?_⟩;rcases mem_cons.1 hq with rfl|hq
   ·rw[hb',ht]at hb;cases hb
   ·exact h2 q hq hb' ht
  ·obtain⟨hk,S1,h0⟩:=hr p (mem_cons_self ..);obtain⟨h3,h4⟩:=zn9 h0 hk h;obtain⟨h1,h2⟩:=zeR rs (fun q hq=>hr q (mem_cons_of_mem _ hq)) h3;refine⟨h1,fun q hq hb' ht=>?_⟩;rcases mem_cons.1 hq with rfl|hq
   ·exact h4
   ·exact h2 q hq hb' ht
theorem OKi.of_no{i:Nat}{o:Oper}(ho:ops[i]?=some o)(hg:zdd ops (stp C ops fr0 S0 i).1 o=some false):OKi C ops fr0 S0 i o false:=by
 refine⟨hg,fun h=>(by cases h),fun _=>⟨?_,?_⟩,?_⟩
 ·unfold sl;rw[ho];dsimp only;rw[hg]
 ·rw[stp,ho];dsimp only;rw[hg]
 ·have:sl C ops fr0 S0 i=.und:=by unfold sl;rw[ho];dsimp only;rw[hg]
  rw[this,stp,ho];dsimp only;rw[hg]
theorem OKi.of_yes{i:Nat}{o:Oper}{s:Slot}{S':St}(ho:ops[i]?=some o)(hg:zdd ops (stp C ops fr0 S0 i).1 o=some true)(hr:opRD C (stp C ops fr0 S0 i).1 (stp C ops fr0 S0 i).2 o=some (s,S')) :
  OKi C ops fr0 S0 i o true∧sl C ops fr0 S0 i=s∧(stp C ops fr0 S0 (i+1)).2=S':=by
 have h1:sl C ops fr0 S0 i=s:=by unfold sl;rw[ho];dsimp only;rw[hg];dsimp only;rw[hr]
 have h2:stp C ops fr0 S0 (i+1)=(putS (stp C ops fr0 S0 i).1 o.dst s,S'):=by rw[stp,ho];dsimp only;rw[hg];dsimp only;rw[hr]
 refine⟨⟨hg,fun _=>(by rw[h1,h2];exact hr),fun h=>(by cases h),by rw[h2,h1]⟩,h1,by rw[h2]⟩
theorem zkr {kp : Value → Hp → Option α} {k : Fr → St → Option α} : ∀ (rest : List Oper) (i : Nat) (es : List (Nat × Option Nat × St)) (rs : List Rd), ops.drop i = rest →
    ziS C ops an kp k rest i (stp C ops fr0 S0 i).1 (stp C ops fr0 S0 i).2 es rs = some r →
    (∀ l o', l < i → ops[l]? = some o' → Wd C ops fr0 S0 l o' → zbX C.P C.O C.f o' = .eff → (l, zbF C (stp C ops fr0 S0 l).1 o', (stp C ops fr0 S0 l).2) ∈ es) →
    (∀ l o', l < i → ops[l]? = some o' → Wd C ops fr0 S0 l o' → zbX C.P C.O C.f o' = .read → (⟨l, o', (stp C ops fr0 S0 l).1, sl C ops fr0 S0 l, zbF C (stp C ops fr0 S0 l).1 o'⟩ : Rd) ∈ rs) →
    (∀ q ∈ rs, zbX C.P C.O C.f q.o = .read ∧ ∃ S1, opRD C q.fr S1 q.o = some (q.s, S1)) →
    ∃ n0, (∀ j o, i ≤ j → j < n0 → ops[j]? = some o → (∃ b, OKi C ops fr0 S0 j o b) ∧ Chk C ops fr0 S0 an j o) ∧ ((n0 = ops.length ∧ k (stp C ops fr0 S0 ops.length).1 (stp C ops fr0 S0 ops.length).2 = some r) ∨ ∃ o x H, PanAt C ops fr0 S0 an kp r n0 o x H)
  | [], i, es, rs, hd, h, he, hr, hq => by
    have hle : ops.length ≤ i := by simpa using hd
    refine ⟨ops.length, fun j o hij hj ho => ?_, .inl ⟨rfl, ?_⟩⟩
    rotate_left
    · have : ∀ m, ops.length ≤ m → stp C ops fr0 S0 m = stp C ops fr0 S0 ops.length := by
        intro m hm
        induction m with
        | zero => have : ops.length = 0 := by omega
                  rw [this]
        | succ m ih =>
          rcases Nat.lt_or_ge m ops.length with q | q
          · have : m + 1 = ops.length := by omega
            rw [this]
          · rw [stp, List.getElem?_eq_none q]; exact ih q
      rw [this i hle] at h
      exact h
    · have := (List.getElem?_eq_some_iff.1 ho).1
      omega
  | o :: rest, i, es, rs, hd, h, he, hr, hq => by
    have hi : ops[i]? = some o := by
      have : (ops.drop i)[0]? = some o := by rw [hd]; rfl
      rw [List.getElem?_drop] at this; simpa using this
    have hd' : ops.drop (i + 1) = rest := by rw [← drop_drop, hd]; rfl
    unfold ziS at h
    obtain ⟨b, hg, h1⟩ := zqS h
    clear h
    cases b with
    | false =>
      dsimp only at h1
      have hok := OKi.of_no (C := C) (fr0 := fr0) (S0 := S0) hi hg
      rw [← (hok.no rfl).1, ← hok.next, ← (hok.no rfl).2] at h1
      have hnw : ¬ Wd C ops fr0 S0 i o := fun hw => by unfold Wd at hw; rw [hg] at hw; cases hw
      obtain ⟨n0, g2, g1⟩ := zkr rest (i + 1) es rs hd' h1
        (fun l o' hl ho' hw hk => by
          rcases Nat.lt_or_ge l i with q | q
          · exact he l o' q ho' hw hk
          · have : l = i := by omega
            subst this; rw [hi] at ho'; cases ho'; exact absurd hw hnw)
        (fun l o' hl ho' hw hk => by
          rcases Nat.lt_or_ge l i with q | q
          · exact hr l o' q ho' hw hk
          · have : l = i := by omega
            subst this; rw [hi] at ho'; cases ho'; exact absurd hw hnw) hq
      refine ⟨n0, fun j o' hij hjn ho' => ?_, g1⟩
      rcases Nat.lt_or_ge i j with q | q
      · exact g2 j o' q hjn ho'
      · have : j = i := by omega
        subst this; rw [hi] at ho'; cases ho'
        exact ⟨⟨false, hok⟩, fun hw => absurd hw hnw, fun hw => absurd hw hnw⟩
    | true =>
      dsimp only at h1
      have fin : ∀ {es' : List (Nat × Option Nat × St)} {rs' : List Rd} (hok : OKi C ops fr0 S0 i o true), Chk C ops fr0 S0 an i o →
          ziS C ops an kp k rest (i + 1) (stp C ops fr0 S0 (i + 1)).1 (stp C ops fr0 S0 (i + 1)).2 es' rs' = some r →
          (∀ q ∈ es, q ∈ es') → (zbX C.P C.O C.f o = .eff → (i, zbF C (stp C ops fr0 S0 i).1 o, (stp C ops fr0 S0 i).2) ∈ es') →
          (∀ q ∈ rs, q ∈ rs') → (zbX C.P C.O C.f o = .read → (⟨i, o, (stp C ops fr0 S0 i).1, sl C ops fr0 S0 i, zbF C (stp C ops fr0 S0 i).1 o⟩ : Rd) ∈ rs') →
          (∀ q ∈ rs', zbX C.P C.O C.f q.o = .read ∧ ∃ S1, opRD C q.fr S1 q.o = some (q.s, S1)) →
          ∃ n0, (∀ j o, i ≤ j → j < n0 → ops[j]? = some o → (∃ b, OKi C ops fr0 S0 j o b) ∧ Chk C ops fr0 S0 an j o) ∧ ((n0 = ops.length ∧ k (stp C ops fr0 S0 ops.length).1 (stp C ops fr0 S0 ops.length).2 = some r) ∨ ∃ o x H, PanAt C ops fr0 S0 an kp r n0 o x H) := by
        intro es' rs' hok hchk h2 he1 he2 hr1 hr2 hq'
        obtain ⟨n0, g2, g1⟩ := zkr rest (i + 1) es' rs' hd' h2
          (fun l o' hl ho' hw hk => by
            rcases Nat.lt_or_ge l i with q | q
            · exact he1 _ (he l o' q ho' hw hk)
            · have : l = i := by omega
              subst this; rw [hi] at ho'; cases ho'; exact he2 hk)
          (fun l o' hl ho' hw hk => by
            rcases Nat.lt_or_ge l i with q | q
            · exact hr1 _ (hr l o' q ho' hw hk)
            · have : l = i := by omega
              subst this; rw [hi] at ho'; cases ho'; exact hr2 hk) hq'
        refine ⟨n0, fun j o' hij hjn ho' => ?_, g1⟩
        rcases Nat.lt_or_ge i j with q | q
        · exact g2 j o' q hjn ho'
        · have : j = i := by omega
          subst this; rw [hi] at ho'; cases ho'
          exact ⟨⟨true, hok⟩, hchk⟩
      have conv : ∀ {k' : Slot → St → Option α}, opD C (stp C ops fr0 S0 i).1 (stp C ops fr0 S0 i).2 o k' = some r → ∃ hok : OKi C ops fr0 S0 i o true, k' (sl C ops fr0 S0 i) (stp C ops fr0 S0 (i + 1)).2 = some r := by
        intro k' hk'
        rw [opD_nat] at hk'
        cases hR : opRD C (stp C ops fr0 S0 i).1 (stp C ops fr0 S0 i).2 o with
        | none => rw [hR] at hk'; cases hk'
        | some p =>
          obtain ⟨s, S'⟩ := p
          rw [hR] at hk'
          obtain ⟨hok, e1, e2⟩ := OKi.of_yes hi hg hR
          exact ⟨hok, by rw [e1, e2]; exact hk'⟩
      split at h1
      · rename_i hp
        rw [Bool.and_eq_true] at hp
        obtain ⟨_, hkind⟩ := zmg hp.2
        rcases opW_split hp.2 h1 with ⟨s, S', hR, h2⟩ | ⟨x, H, hX, h2⟩
        · obtain ⟨hok, e1, e2⟩ := OKi.of_yes hi hg hR
          rw [← e1, ← e2] at h2
          obtain ⟨h3, h4⟩ := zeR rs hq h2
          rw [← hok.next] at h3
          exact fin hok ⟨fun _ hk => (by rw [hkind] at hk; cases hk), fun hw hk l o' hl ho' hw' hk' hb ht => h4 _ (hr l o' hl ho' hw' hk') hb ht⟩ h3 (fun q hq => mem_append_left _ hq) (fun _ => mem_append_right _ (mem_singleton.2 rfl)) (fun q hq => hq) (fun hk => (by rw [hkind] at hk; cases hk)) hq
        · split at h2
          · rename_i hlast
            exact ⟨i, fun j o' hij hj => by omega, .inr ⟨o, x, H, hi, hp.1, hp.2, hg, hlast, hX, h2⟩⟩
          · cases h2
      split at h1
      · rename_i hkind
        obtain ⟨hok, h2⟩ := conv h1
        rw [← hok.next] at h2
        exact fin hok ⟨fun _ hk => (by rw [hkind] at hk; cases hk), fun _ hk => (by rw [hkind] at hk; cases hk)⟩ h2 (fun q hq => hq) (fun hk => (by rw [hkind] at hk; cases hk)) (fun q hq => hq) (fun hk => (by rw [hkind] at hk; cases hk)) hq
      · rename_i hkind
        obtain ⟨hok, h2⟩ := conv h1
        have hR := hok.yes rfl
        obtain ⟨e1, e2⟩ := zml (S2 := (stp C ops fr0 S0 i).2) hR (.inr ⟨hkind, rfl⟩)
        obtain ⟨h3, h4⟩ := zgS e2 hkind es h2
        rw [← hok.next] at h3
        refine fin hok ⟨fun hw hk l o' hl ho' hw' hk' hb ht => h4 _ (he l o' hl ho' hw' hk') hb ht, fun _ hk => (by rw [hkind] at hk; cases hk)⟩ h3 (fun q hq => hq) (fun hk => (by rw [hkind] at hk; cases hk))
          (fun q hq => mem_append_left _ hq) (fun _ => mem_append_right _ (mem_singleton.2 rfl)) ?_
        intro q hq'
        rcases mem_append.1 hq' with hq' | hq'
        · exact hq q hq'
        · cases mem_singleton.1 hq'
          exact ⟨hkind, _, e2⟩
      · rename_i hkind
        obtain ⟨hok, h2⟩ := conv h1
        obtain ⟨h3, h4⟩ := zeR rs hq h2
        rw [← hok.next] at h3
        exact fin hok ⟨fun _ hk => (by rw [hkind] at hk; cases hk), fun hw hk l o' hl ho' hw' hk' hb ht => h4 _ (hr l o' hl ho' hw' hk') hb ht⟩ h3 (fun q hq => mem_append_left _ hq) (fun _ => mem_append_right _ (mem_singleton.2 rfl)) (fun q hq => hq) (fun hk => (by rw [hkind] at hk; cases hk)) hq
end
section
variable {C:Ctx}{ops:List Oper}{fr0:Fr}{S0:St}{an:List Nat}
theorem zm2(a b:Option Nat):zcy a b=zcy b a:=by cases a<;>cases b<;>first|rfl|skip;rename_i x y;show Nat.beq x y=Nat.beq y x;rw[Bool.eq_iff_iff,Nat.beq_eq,Nat.beq_eq];exact⟨Eq.symm,Eq.symm⟩
theorem ziY(fr:Fr)(d:Option Nat)(s:Slot)(t:Nat):(putS fr d s)[t]?=if d=some t then (fr[t]?).map fun _=>s else fr[t]?:=by
 cases d with
 |none=>rfl
 |some d=>
  simp only[putS,List.getElem?_set,Option.some.injEq];by_cases h:d=t
  ·subst h;rw[if_pos rfl,if_pos rfl];split
   ·rename_i hl;rw[List.getElem?_eq_getElem hl];rfl
   ·rename_i hl;rw[List.getElem?_eq_none (by omega)];rfl
  ·rw[if_neg h,if_neg h]
theorem getS_of{fr fr':Fr}{t:Nat}(h:fr[t]?=fr'[t]?):getS fr t=getS fr' t:=by unfold getS;rw[getD_eq_getElem?_getD,getD_eq_getElem?_getD,h]
variable (C ops fr0 S0) in
def FD(L:Array Bool):Nat→Fr
 |0=>fr0
 |i+1=>match L.getD i false with
  |true=>match ops[i]? with
   |some o=>putS (FD L i) o.dst (sl C ops fr0 S0 i)
   |none=>FD L i
  |false=>FD L i
theorem FD_slot{L:Array Bool}{t j:Nat}(hok:∀i o,i<j→ops[i]?=some o→∃b,OKi C ops fr0 S0 i o b)(hj:j≤ops.length)
  (h1:∀i o,i<j→ops[i]?=some o→o.dst=some t→L.getD i false=true) (h2:∀i o,j≤i→ops[i]?=some o→o.dst=some t→L.getD i false=false) :
  ∀m,m≤ops.length→(FD C ops fr0 S0 L m)[t]?=((stp C ops fr0 S0 (min m j)).1)[t]?
 |0,_=>by rw[Nat.zero_min];rfl
 |m+1,hm=>by
  have ih:=FD_slot hok hj h1 h2 m (by omega);have hom:∃o,ops[m]?=some o:=⟨ops[m],by simp⟩
  obtain⟨o,ho⟩:=hom;unfold FD;rcases Nat.lt_or_ge m j with q|q
  ·obtain⟨b,hb⟩:=hok m o q ho;rw[Nat.min_eq_left q,hb.next,ziY];rw[Nat.min_eq_left (by omega)]at ih;cases hL:L.getD m false with
   |true=>
    dsimp only;rw[ho];dsimp only;rw[ziY,ih]
   |false=>
    dsimp only;rw[ih];split
    ·rename_i hd;rw[h1 m o q ho hd]at hL;cases hL
    ·rfl
  ·rw[Nat.min_eq_right (by omega)];rw[Nat.min_eq_right q]at ih;cases hL:L.getD m false with
   |true=>
    dsimp only;rw[ho];dsimp only;rw[ziY,ih];split
    ·rename_i hd;rw[h2 m o q ho hd]at hL;cases hL
    ·rfl
   |false=>dsimp only;exact ih
theorem zeP{L:Array Bool}{j i:Nat}(hj:j<L.size):(L.setIfInBounds j true).getD i false=if i=j then true else L.getD i false:=by
 simp only[Array.getD_eq_getD_getElem?,Array.getElem?_setIfInBounds];by_cases h:j=i
 ·subst h;rw[if_pos rfl,if_pos rfl,if_pos hj];rfl
 ·rw[if_neg h,if_neg (fun e=>h e.symm)]
theorem FD_set{L:Array Bool}{j:Nat}{oj:Oper}(hoj:ops[j]?=some oj)(hjL:j<L.size)(hnj:L.getD j false=false)
  (h2:∀i o,j<i→ops[i]?=some o→L.getD i false=true→∀d,oj.dst=some d→o.dst≠some d) :
  ∀m,m≤ops.length→FD C ops fr0 S0 (L.setIfInBounds j true) m=if m≤j then FD C ops fr0 S0 L m else putS (FD C ops fr0 S0 L m) oj.dst (sl C ops fr0 S0 j)
 |0,_=>by rw[if_pos (Nat.zero_le _)];rfl
 |m+1,hm=>by
  have ih:=FD_set hoj hjL hnj h2 m (by omega);unfold FD;rw[zeP hjL];obtain⟨o,ho⟩:∃o,ops[m]?=some o:=⟨ops[m],by simp⟩
  rcases Nat.lt_trichotomy m j with q|q|q
  ·rw[if_neg (by omega),if_pos (by omega)];rw[if_pos (by omega)]at ih;rw[ih]
  ·subst q;rw[if_pos rfl,if_neg (by omega),hnj];rw[if_pos (Nat.le_refl _)]at ih;rw[hoj];dsimp only;rw[ih]
  ·rw[if_neg (by omega),if_neg (by omega)];rw[if_neg (by omega)]at ih;cases hL:L.getD m false with
   |false=>dsimp only;exact ih
   |true=>
    dsimp only;rw[ho];dsimp only;rw[ih];apply ext_getElem?;intro t;simp only[ziY];have:=h2 m o q ho hL;by_cases e1:o.dst=some t
    ·by_cases e2:oj.dst=some t
     ·exact absurd e1 (this t e2)
     ·rw[if_pos e1,if_neg e2,if_neg e2,if_pos e1]
    ·rw[if_neg e1,if_neg e1]
variable (C ops fr0 S0) in
def Effw(i:Nat):Prop:=∃o,ops[i]?=some o∧Wd C ops fr0 S0 i o∧zbX C.P C.O C.f o=.eff
theorem zkJ {n0 : Nat} (hok : ∀ j o, j < n0 → ops[j]? = some o → ∃ b, OKi C ops fr0 S0 j o b) (hn0 : n0 ≤ ops.length) {m : Nat} : ∀ m', m ≤ m' → m' ≤ n0 → (∀ i, m ≤ i → i < m' → ¬ Effw C ops fr0 S0 i) → (stp C ops fr0 S0 m').2 = (stp C ops fr0 S0 m).2 := by
  intro m' hm
  induction m' with
  | zero => intro _ _; have : m = 0 := by omega
            rw [this]
  | succ n ih =>
    intro hn h
    rcases Nat.lt_or_ge n m with q | q
    · have : m = n + 1 := by omega
      rw [this]
    · rw [← ih q (by omega) (fun i h1 h2 => h i h1 (by omega))]
      obtain ⟨o, ho⟩ : ∃ o, ops[n]? = some o := ⟨ops[n], by simp⟩
      obtain ⟨b, hb⟩ := hok n o (by omega) ho
      cases b with
      | false => exact (hb.no rfl).2
      | true =>
        have hk : zbX C.P C.O C.f o ≠ .eff := fun hk => h n q (Nat.lt_succ_self n) ⟨o, ho, hb.guard, hk⟩
        have hR := hb.yes rfl
        refine (zml (S2 := (stp C ops fr0 S0 n).2) hR ?_).1
        cases hq : zbX C.P C.O C.f o with
        | pure => exact .inl rfl
        | read => exact .inr ⟨rfl, rfl⟩
        | eff => exact absurd hq hk
theorem read_any {n0 : Nat} (hok : ∀ j o, j < n0 → ops[j]? = some o → ∃ b, OKi C ops fr0 S0 j o b) (hn0 : n0 ≤ ops.length) (hchk : ∀ j o, j < n0 → ops[j]? = some o → Chk C ops fr0 S0 an j o)
    {j : Nat} (hj0 : j < n0) {o : Oper} (ho : ops[j]? = some o) (hb : OKi C ops fr0 S0 j o true) (hk : zbX C.P C.O C.f o = .read) :
    (∀ n, ∀ m, m + n = j → (∀ i, m ≤ i → i < j → Effw C ops fr0 S0 i → (an.getD j 0).testBit i = false) → opRD C (stp C ops fr0 S0 j).1 (stp C ops fr0 S0 m).2 o = some (sl C ops fr0 S0 j, (stp C ops fr0 S0 m).2)) ∧
    (∀ m, j ≤ m → m ≤ n0 → (∀ i, j < i → i < m → Effw C ops fr0 S0 i → (an.getD i 0).testBit j = false) → opRD C (stp C ops fr0 S0 j).1 (stp C ops fr0 S0 m).2 o = some (sl C ops fr0 S0 j, (stp C ops fr0 S0 m).2)) := by
  have h0 : opRD C (stp C ops fr0 S0 j).1 (stp C ops fr0 S0 j).2 o = some (sl C ops fr0 S0 j, (stp C ops fr0 S0 j).2) := (zml (hb.yes rfl) (.inr ⟨hk, rfl⟩)).2
  have hjl := (List.getElem?_eq_some_iff.1 ho).1
  refine ⟨fun n => ?_, fun m => ?_⟩
  · induction n with
    | zero => intro m hm _; have : m = j := by omega
              rw [this]; exact h0
    | succ n ih =>
      intro m hm hno
      have h1 := ih (m + 1) (by omega) (fun i h1 h2 => hno i (by omega) h2)
      obtain ⟨om, hom⟩ : ∃ om, ops[m]? = some om := ⟨ops[m], by simp⟩
      by_cases hw : Wd C ops fr0 S0 m om ∧ zbX C.P C.O C.f om = .eff
      · have hbit := hno m (Nat.le_refl _) (by omega) ⟨om, hom, hw.1, hw.2⟩
        cases ht : zcy (zbF C (stp C ops fr0 S0 m).1 om) (zbF C (stp C ops fr0 S0 j).1 o) with
        | true => exact (hchk j o hj0 ho).1 hb.guard hk m om (by omega) hom hw.1 hw.2 hbit ht
        | false =>
          obtain ⟨b, hbm⟩ := hok m om (by omega) hom
          have hbt : b = true := by have := hbm.guard; rw [hw.1] at this; cases this; rfl
          subst hbt
          have htag := zqg (hbm.yes rfl) hw.2
          have hst : zcy (zbF C (stp C ops fr0 S0 j).1 o) (zbF C (stp C ops fr0 S0 m).1 om) = false := by rw [zm2]; exact ht
          have := htag.other hst
          refine zhI h1 hk ?_
          unfold zm3 at this ⊢
          split at this
          · exact this.symm
          · exact this.symm
      · have hT : (stp C ops fr0 S0 (m + 1)).2 = (stp C ops fr0 S0 m).2 := zkJ hok hn0 (m + 1) (by omega) (by omega) (fun i h1 h2 he => by
          have : i = m := by omega
          subst this
          obtain ⟨o', ho', hw1, hw2⟩ := he
          rw [hom] at ho'; cases ho'
          exact hw ⟨hw1, hw2⟩)
        rw [hT] at h1; exact h1
  · induction m with
    | zero => intro hm _ _; have : j = 0 := by omega
              subst this; exact h0
    | succ m ih =>
      intro hm hml hno
      rcases Nat.lt_or_ge m j with q | q
      · have : m + 1 = j := by omega
        rw [this]; exact h0
      · have h1 := ih q (by omega) (fun i h1 h2 => hno i h1 (by omega))
        obtain ⟨om, hom⟩ : ∃ om, ops[m]? = some om := ⟨ops[m], by simp⟩
        by_cases hw : Wd C ops fr0 S0 m om ∧ zbX C.P C.O C.f om = .eff
        · have hjm : j < m := by
            rcases Nat.lt_or_ge j m with q' | q'
            · exact q'
            · have : m = j := by omega
              subst this
              rw [ho] at hom; cases hom
              rw [hk] at hw; cases hw.2
          have hbit := hno m hjm (Nat.lt_succ_self m) ⟨om, hom, hw.1, hw.2⟩
          cases ht : zcy (zbF C (stp C ops fr0 S0 j).1 o) (zbF C (stp C ops fr0 S0 m).1 om) with
          | true => exact (hchk m om (by omega) hom).2 hw.1 hw.2 j o hjm ho hb.guard hk hbit ht
          | false =>
            obtain ⟨b, hbm⟩ := hok m om (by omega) hom
            have hbt : b = true := by have := hbm.guard; rw [hw.1] at this; cases this; rfl
            subst hbt
            exact zhI h1 hk ((zqg (hbm.yes rfl) hw.2).other ht)
        · have hT : (stp C ops fr0 S0 (m + 1)).2 = (stp C ops fr0 S0 m).2 := zkJ hok hn0 (m + 1) (by omega) (by omega) (fun i h1 h2 he => by
            have : i = m := by omega
            subst this
            obtain ⟨o', ho', hw1, hw2⟩ := he
            rw [hom] at ho'; cases ho'
            exact hw ⟨hw1, hw2⟩)
          rw [hT]; exact h1
end
section
variable {C:Ctx}{ops:List Oper}{α:Type}
theorem LA_inv{o:Oper}(h:isLA C.O C.f o=true):∃T d,o.guard=none∧o.op=.alloc T∧o.dst=some d∧(C.O.loc C.f).elem d=true:=by
 unfold isLA at h;split at h
 ·rename_i T d h1 h2 h3;exact⟨T,d,h1,h2,h3,h⟩
 ·cases h
theorem LA_step{o:Oper}(h:isLA C.O C.f o=true){S:St}{k:Slot→St→Option α}{r:α}(hk:opC C [] S o k=some r) :
  ∃d c,o.dst=some d∧S.bx d=none∧k (.loc d 0) (S.setB d (some c))=some r∧∀fr S2,S2.bx d=none→opR C fr S2 o=some (.loc d 0,S2.setB d (some c)):=by
 obtain⟨T,d,h1,h2,h3,h4⟩:=LA_inv h;unfold opC at hk;rw[h2]at hk;dsimp only at hk;unfold zgy at hk;rcases hi:C.P.info? T with _|i
 ·rw[hi]at hk;cases hk
 ·rw[hi]at hk;dsimp only at hk;rcases hz:i.zero with _|z
  ·rw[hz]at hk;cases hk
  ·rw[hz]at hk;dsimp only at hk;cases hc:zc6 z with
   |false=>rw[hc]at hk;cases hk
   |true=>
    rw[hc]at hk;dsimp only at hk;cases ha:(zad z).all one with
    |false=>rw[ha]at hk;cases hk
    |true=>
     rw[ha]at hk;dsimp only at hk;unfold zcU at hk;rw[h3]at hk;dsimp only at hk;rw[h4]at hk;dsimp only at hk;rcases hb:S.bx d with _|b
     ·rw[hb]at hk;refine⟨d,.cells (zad z) false,h3,hb,hk,fun fr S2 h5=>?_⟩;unfold opR opC;rw[h2];dsimp only;unfold zgy;rw[hi];dsimp only;rw[hz];dsimp only;rw[hc];dsimp only;rw[ha];dsimp only;unfold zcU;rw[h3];dsimp only;rw[h4];dsimp only;rw[h5]
     ·rw[hb]at hk;cases hk
theorem zkj{k:St→Option α}{r:α}:∀(l:List Oper) (S:St),zit C k l S=some r→∃S0,k S0=some r∧S0.hp=S.hp∧(∀d,(∀o∈l,isLA C.O C.f o=true→o.dst≠some d)→S0.bx d=S.bx d) ∧
  (∀o∈l,isLA C.O C.f o=true→∃d c,o.dst=some d∧S.bx d=none∧S0.bx d=some c∧∀fr S2,S2.bx d=none→opR C fr S2 o=some (.loc d 0,S2.setB d (some c))) ∧
  (∀(i j:Nat) oi oj,l[i]?=some oi→l[j]?=some oj→isLA C.O C.f oi=true→isLA C.O C.f oj=true→oi.dst=oj.dst→i=j)
 |[],S,h=>⟨S,h,rfl,fun _ _=>rfl,fun o ho=>absurd ho not_mem_nil,fun i j oi oj h1=>absurd h1 (by simp)⟩
 |o::l,S,h=>by
  unfold zit at h;cases hl:isLA C.O C.f o with
  |false=>
   rw[hl]at h;obtain⟨S0,h1,h2,h3,h4,h5⟩:=zkj l S h;refine⟨S0,h1,h2,fun d hd=>h3 d fun o' ho'=>hd o' (mem_cons_of_mem _ ho'),fun o' ho' hl'=>?_,fun i j oi oj hi hj li lj hd=>?_⟩
   ·rcases mem_cons.1 ho' with rfl|ho'
    ·rw[hl]at hl';cases hl'
    ·exact h4 o' ho' hl'
   ·cases i with
    |zero=>simp at hi;subst hi;rw[hl]at li;cases li
    |succ i=>cases j with
     |zero=>simp at hj;subst hj;rw[hl]at lj;cases lj
     |succ j=>exact congrArg (· + 1) (h5 i j oi oj (by simpa using hi) (by simpa using hj) li lj hd)
  |true=>
   rw[hl]at h;obtain⟨d,c,e1,e2,e3,e4⟩:=LA_step hl h;obtain⟨S0,h1,h2,h3,h4,h5⟩:=zkj l _ e3;have hne:∀o'∈l,isLA C.O C.f o'=true→o'.dst≠some d:=fun o' ho' hl' hd=>by obtain⟨d',c',q1,q2,_⟩:=h4 o' ho' hl';rw[hd]at q1;cases q1;rw[St.setB_same]at q2;cases q2
   refine⟨S0,h1,h2,fun d' hd'=>?_,fun o' ho' hl'=>?_,fun i j oi oj hi hj li lj hd=>?_⟩
   ·rw[h3 d' fun o' ho'=>hd' o' (mem_cons_of_mem _ ho')];exact St.setB_ne _ _ fun q=>hd' o (mem_cons_self ..) hl (by rw[e1,q])
   ·rcases mem_cons.1 ho' with rfl|ho'
    ·refine⟨d,c,e1,e2,?_,e4⟩;rw[h3 d hne,St.setB_same]
    ·obtain⟨d',c',q1,q2,q3,q4⟩:=h4 o' ho' hl';refine⟨d',c',q1,?_,q3,q4⟩;rw[St.setB_ne _ _ (fun q=>hne o' ho' hl' (by rw[q1,q]))]at q2;exact q2
   ·cases i with
    |zero=>
     simp at hi;subst hi;cases j with
     |zero=>rfl
     |succ j=>exact absurd (hd.symm.trans e1) (hne oj (mem_of_getElem? (by simpa using hj)) lj)
    |succ i=>cases j with
     |zero=>
      simp at hj;subst hj;exact absurd (hd.trans e1) (hne oi (mem_of_getElem? (by simpa using hi)) li)
     |succ j=>exact congrArg (· + 1) (h5 i j oi oj (by simpa using hi) (by simpa using hj) li lj hd)
variable (C ops) in
def Due(L:Array Bool)(d:Nat):Prop:=∃(j:Nat) (o:Oper),ops[j]?=some o∧isLA C.O C.f o=true∧o.dst=some d∧L.getD j false=false
open Classical in
variable (C ops) in
noncomputable def rst(L:Array Bool)(S:St):St:=⟨fun d=>if Due C ops L d then none else S.bx d,S.hp⟩
open Classical in
theorem zcZ{L:Array Bool}{S:St}{d:Nat}(h:Due C ops L d):(rst C ops L S).bx d=none:=by show (if Due C ops L d then none else S.bx d)=none;rw[if_pos h]
open Classical in
theorem zdu{L:Array Bool}{S:St}{d:Nat}(h:¬Due C ops L d):(rst C ops L S).bx d=S.bx d:=by show (if Due C ops L d then none else S.bx d)=_;rw[if_neg h]
theorem St.ext'{S S':St}(h1:∀d,S.bx d=S'.bx d)(h2:S.hp=S'.hp):S=S':=by cases S;cases S';simp only[St.mk.injEq];exact⟨funext h1,h2⟩
theorem rst_all{L:Array Bool}{S:St}(h:∀i,i<ops.length→L.getD i false=true):rst C ops L S=S:=
 St.ext' (fun d=>zdu fun⟨j,o,h1,_,_,h4⟩=>by rw[h j (List.getElem?_eq_some_iff.1 h1).1]at h4;cases h4) rfl
theorem zo7{L:Array Bool}{j:Nat}{oj:Oper}(hoj:ops[j]?=some oj)(hjL:j<L.size){e:Nat}(hd:isLA C.O C.f oj=false∨oj.dst≠some e):Due C ops (L.setIfInBounds j true) e↔Due C ops L e:=by
 constructor
 ·rintro⟨i,o,h1,h2,h3,h4⟩
  rw[zeP hjL]at h4;split at h4
  ·cases h4
  ·exact⟨i,o,h1,h2,h3,h4⟩
 ·rintro⟨i,o,h1,h2,h3,h4⟩
  refine⟨i,o,h1,h2,h3,?_⟩
  rw[zeP hjL,if_neg (fun q=>by
   subst q;rw[hoj]at h1;cases h1;rcases hd with hd|hd
   ·rw[hd]at h2;cases h2
   ·exact hd h3)]
  exact h4
theorem zl7{L:Array Bool}{j:Nat}{oj:Oper}(hoj:ops[j]?=some oj)(hjL:j<L.size)(hl:isLA C.O C.f oj=false)(S:St):rst C ops (L.setIfInBounds j true) S=rst C ops L S:=by
 refine St.ext' (fun d=>?_) rfl;by_cases h:Due C ops L d
 ·rw[zcZ h,zcZ ((zo7 hoj hjL (.inl hl)).2 h)]
 ·rw[zdu h,zdu fun q=>h ((zo7 hoj hjL (.inl hl)).1 q)]
theorem tag_loc{fr:Fr}{o:Oper}{d:Nat}(h:zbF C fr o=some d):(∃x off,ev C.P.globals.size fr x=.loc d off)∨∀S r,opR C fr S o=some r→S.bx d=none:=by
 unfold zbF at h;split at h
 ·rename_i T x hop;split at h
  ·rename_i e off he;cases h;exact .inl ⟨x,off,he⟩
  ·cases h
 ·rename_i T x y hop;split at h
  ·rename_i e off he;cases h;exact .inl ⟨x,off,he⟩
  ·cases h
 ·rename_i T hop;right;intro S r hr;split at h
  ·rename_i e hd;split at h
   ·rename_i he;cases h;cases hb:S.bx d with
    |none=>rfl
    |some b=>
     unfold opR opC at hr;rw[hop]at hr;dsimp only at hr;unfold zcU zgy at hr;rw[hd]at hr;dsimp only at hr;rw[he,hb]at hr;dsimp only at hr
     repeat' split at hr
     all_goals cases hr
   ·cases h
  ·cases h
 ·rename_i T x hop;right;intro S r hr;split at h
  ·rename_i e hd;split at h
   ·rename_i he;cases h;cases hb:S.bx d with
    |none=>rfl
    |some b=>
     unfold opR opC at hr;rw[hop]at hr;dsimp only at hr;unfold zcU sV at hr;rw[hd]at hr;dsimp only at hr;rw[he,hb]at hr;dsimp only at hr
     repeat' split at hr
     all_goals cases hr
   ·cases h
  ·cases h
 ·rename_i T x hop;right;intro S r hr;cases hb:S.bx d with
  |none=>rfl
  |some b=>
   unfold opR opC at hr;rw[hop]at hr;dsimp only at hr;unfold sV at hr;rw[h]at hr;split at hr
   ·split at hr
    ·rename_i q;cases q;rw[hb]at hr;cases hr
    ·cases hr
   ·cases hr
 ·rename_i x b hop;split at h
  ·rename_i e off he;cases h;exact .inl ⟨x,off,he⟩
  ·cases h
 ·cases h
theorem LA_guard{o:Oper}(h:isLA C.O C.f o=true)(fr:Fr):zdd ops fr o=some true:=by obtain⟨T,d,h1,_⟩:=LA_inv h;unfold zdd zd3;rw[h1]
end
theorem opX_congr{C:Ctx}{fr fr':Fr}{S S':St}{o:Oper}(h:∀x∈o.op.operands,ev C.P.globals.size fr x=ev C.P.globals.size fr' x)(hp:S.hp=S'.hp):opX C fr S o=opX C fr' S' o:=by
 unfold opX opW;rw[hp];split
 ·rename_i c ho;split
  ·rename_i g hc;rw[ho]at h;exact zcX _ _ fun x hx=>h x (by simp[Op.operands,Call.operands,hc];exact .inr (by simpa using hx))
  ·rfl
 ·rename_i x ho;rw[ho]at h;rw[h x (by simp[Op.operands])]
 ·rfl
theorem zo8{P:Program}(O:Orc)(h:zai)(f:FuncId)(hh:SimC P O h):zpl ⟨P,O,h,f⟩:=by
 intro α w0 H0 β0 r ops kp k Q W S1 a1 β1 l1 hord hW hk hkp fr0 Sb a w β lam hrun hG hM;generalize hC:(⟨P,O,h,f⟩:Ctx)=C at *;have hhC:SimC C.P C.O C.h:=by rw[←hC];exact hh
 clear hC hh;obtain⟨S0,hrun,hhp,hoth,hla,huniq⟩:=zkj _ _ hrun;have hla':∀(j:Nat) o d,ops[j]?=some o→isLA C.O C.f o=true→o.dst=some d→∃c,Sb.bx d=none∧S0.bx d=some c∧∀fr S2,S2.bx d=none→opR C fr S2 o=some (.loc d 0,S2.setB d (some c)):=fun j o d h1 h2 h3=>by obtain⟨d',c,q1,q2,q3,q4⟩:=hla o (mem_of_getElem? h1) h2;rw[h3]at q1;cases q1;exact⟨c,q2,q3,q4⟩
 obtain⟨n0,hall,hend⟩:=zkr (C:=C) (ops:=ops) (fr0:=fr0) (S0:=S0) (an:=ancs ops) ops 0 [] [] rfl hrun (fun l o' hl=>by omega) (fun l o' hl=>by omega) (fun q hq=>by cases hq);have hn0:n0≤ops.length:=by
  rcases hend with⟨h1,_⟩|⟨o,x,H,h1⟩
  ·omega
  ·exact Nat.le_of_lt (List.getElem?_eq_some_iff.1 h1.at_).1
 have hok:∀j o,j<n0→ops[j]?=some o→∃b,OKi C ops fr0 S0 j o b:=fun j o hj ho=>(hall j o (Nat.zero_le _) hj ho).1;have hchk:∀j o,j<n0→ops[j]?=some o→Chk C ops fr0 S0 (ancs ops) j o:=fun j o hj ho=>(hall j o (Nat.zero_le _) hj ho).2;have fin:∀(L:Array Bool) (a:Act) (w:World) (β:Bt) (lam:Nat→Nat) (m:Nat),(∀i,L.getD i false=true→i<n0)→(∀i,i<ops.length→L.getD i false=true)→m≤n0→(∀i,m≤i→Effw C ops fr0 S0 i→L.getD i false=false) →
   Good C.P w0 H0 β0 (FD C ops fr0 S0 L ops.length) (rst C ops L (stp C ops fr0 S0 m).2) a w β lam→zbU W S1 a1 β1 l1 (rst C ops L (stp C ops fr0 S0 m).2) a β lam→Q .normal a w:=by
  intro L a w β lam m hL0 hL hm hm2 hG hM;have hne:n0=ops.length:=by
   rcases Nat.lt_or_ge n0 ops.length with q|q
   ·exact absurd (hL0 n0 (hL n0 q)) (Nat.lt_irrefl _)
   ·omega
  have hend:k (stp C ops fr0 S0 ops.length).1 (stp C ops fr0 S0 ops.length).2=some r:=by
   rcases hend with⟨_,h1⟩|⟨o,x,H,h1⟩
   ·exact h1
   ·have:=(List.getElem?_eq_some_iff.1 h1.at_).1;omega
  rw[hne]at hm;rw[rst_all hL]at hG hM;have hF:∀q,q≤ops.length→FD C ops fr0 S0 L q=(stp C ops fr0 S0 q).1:=by
   intro q;induction q with
   |zero=>intro _;rfl
   |succ q ih=>
    intro hq;obtain⟨o,ho⟩:∃o,ops[q]?=some o:=⟨ops[q],by simp⟩
    obtain⟨b,hb⟩:=hok q o (by omega) ho;unfold FD;rw[hL q (by omega)];dsimp only;rw[ho];dsimp only;rw[ih (by omega),hb.next]
  have hT:(stp C ops fr0 S0 ops.length).2=(stp C ops fr0 S0 m).2:=zkJ hok hn0 _ hm (by omega) (fun i h1 h2 he=>by
   have:=hm2 i h1 he
   rw[hL i h2]at this;cases this)
  rw[hF _ (Nat.le_refl _)]at hG;rw[←hT]at hG hM;exact hk _ _ a w β lam hend hG hM
 have full:∀(L:Array Bool),L.size=ops.length→Region.ready .any ops.toArray L=[]→∀i,i<ops.length→L.getD i false=true:=by
  intro L hs hr i;induction i using Nat.strongRecOn with
  |_ i ih=>
   intro hi;cases hL:L.getD i false with
   |true=>rfl
   |false=>
    exfalso;have:i∈Region.ready .any ops.toArray L:=by
     refine mem_ready.2 ⟨?_,ops[i],by simp[hi],fun e he hb=>?_⟩
     ·rw[Array.getD_eq_getD_getElem?]at hL ⊢;rw[Array.getElem?_eq_getElem (by omega)]at hL ⊢;exact hL
     ·have hlt:=zmx hord (j:=i) (o:=ops[i]) (by simp) e he hb;exact ih e.on hlt (by omega)
    rw[hr]at this;cases this
 have main:∀(fuel:Nat) (L:Array Bool) (a:Act) (w:World) (β:Bt) (lam:Nat→Nat) (U:List Nat) (m:Nat),L.size=ops.length→U.length=fuel→(∀i,i<ops.length→L.getD i false=false→i∈U) →
   (∀i o,L.getD i false=true→ops[i]?=some o→∀e∈o.after,Region.binds .any e=true→L.getD e.on false=true) →
   (∀i,L.getD i false=true→i<n0)→m≤n0→(∀i,i<m→Effw C ops fr0 S0 i→L.getD i false=true)→(∀i,m≤i→Effw C ops fr0 S0 i→L.getD i false=false) →
   (∀(i:Nat) o d,ops[i]?=some o→isLA C.O C.f o=true→o.dst=some d→L.getD i false=false→(stp C ops fr0 S0 m).2.bx d=S0.bx d) →
   Good C.P w0 H0 β0 (FD C ops fr0 S0 L ops.length) (rst C ops L (stp C ops fr0 S0 m).2) a w β lam→zbU W S1 a1 β1 l1 (rst C ops L (stp C ops fr0 S0 m).2) a β lam →
   wpAny C.P .any ops.toArray Q fuel L a w:=by
  intro fuel;induction fuel with
  |zero=>
   intro L a w β lam U m hs hU hUm hcl hL0 hm hm1 hm2 hI hG hM;have hU0:U=[]:=length_eq_zero_iff.1 hU;subst hU0;have hL:∀i,i<ops.length→L.getD i false=true:=fun i hi=>by
    cases hq:L.getD i false with
    |true=>rfl
    |false=>exact absurd (hUm i hi hq) (by simp)
   refine⟨?_,fin L a w β lam m hL0 hL hm hm2 hG hM⟩;cases hr:Region.ready .any ops.toArray L with
   |nil=>rfl
   |cons j js=>
    obtain⟨h1,o,h2,_⟩:=mem_ready.1 (show j∈Region.ready .any ops.toArray L by rw[hr];exact mem_cons_self ..);have hj:j<ops.length:=by have:=(Array.getElem?_eq_some_iff.1 h2).1;simpa using this
    have h3:=hL j hj;rw[Array.getD_eq_getD_getElem?,Array.getElem?_eq_getElem (by omega)]at h1 h3;simp only[Option.getD_some]at h1 h3;rw[h1]at h3;cases h3
  |succ fuel ih=>
   intro L a w β lam U m hs hU hUm hcl hL0 hm hm1 hm2 hI hG hM;refine⟨fun hr=>fin L a w β lam m hL0 (full L hs hr) hm hm2 hG hM,fun j hj=>?_⟩;obtain⟨hnj,o,ho,he⟩:=mem_ready.1 hj;have ho:ops[j]?=some o:=by simpa using ho
   have hjn:=(List.getElem?_eq_some_iff.1 ho).1;have hjL:j<L.size:=by omega
   have hnj':L.getD j false=false:=by rw[Array.getD_eq_getD_getElem?,Array.getElem?_eq_getElem hjL]at hnj ⊢;exact hnj
   have hanc:∀l,((ancs ops).getD j 0).testBit l=true→L.getD l false=true:=anc_in (D:=fun i=>L.getD i false=true) hcl j o ho he;have hdesc:∀i oi,ops[i]?=some oi→L.getD i false=true→((ancs ops).getD i 0).testBit j=true→False:=fun i oi hoi hi hbit=>by have:=anc_in (D:=fun i=>L.getD i false=true) hcl i oi hoi (hcl i oi hi hoi) j hbit;have this:L.getD j false=true:=this;rw[hnj']at this;cases this
   have hj0:j≤n0:=by
    rcases Nat.lt_or_ge n0 j with q|q
    ·exfalso;rcases hend with⟨h1,_⟩|⟨o1,x,H,h1⟩
     ·omega
     ·have h2:=h1.last;unfold zp4 at h2;have h3:=all_eq_true.1 h2 j (mem_range.2 hjn);rw[Bool.or_eq_true,Nat.ble_eq]at h3;rcases h3 with h3|h3
      ·omega
      ·exact absurd (hL0 n0 (hanc n0 h3)) (Nat.lt_irrefl _)
    ·exact q
   have hslot:∀t∈zcY ops o,getS (FD C ops fr0 S0 L ops.length) t=getS (stp C ops fr0 S0 j).1 t:=by
    intro t ht
    have:=FD_slot (L:=L) (t:=t) (j:=j) (fun i o hi=>hok i o (by omega)) (Nat.le_of_lt hjn) (fun i oi hij hoi hd=>by
     rcases zcW hord hij hoi ho with q|q
     ·exact hanc i q
     ·exact absurd ht ((zgQ q.1).1 t hd).1) (fun i oi hij hoi hd=>by
     cases hL:L.getD i false with
     |false=>rfl
     |true=>
      rcases Nat.lt_or_ge j i with q|q
      ·rcases zcW hord q ho hoi with q'|q'
       ·exact(hdesc i oi hoi hL q').elim
       ·exact absurd ht ((zgQ q'.1).2 t hd)
      ·have:i=j:=by omega
       subst this;rw[hnj']at hL;cases hL) ops.length (Nat.le_refl _)
    rw[Nat.min_eq_right (Nat.le_of_lt hjn)]at this;exact getS_of this
   rcases Nat.eq_or_lt_of_le hj0 with hj0|hj0
   ·subst hj0;rcases hend with⟨h1,_⟩|⟨o1,x,H,h1⟩
    ·omega
    have h2:=h1.at_;rw[ho]at h2;cases h2;have hgd:zdd ops (FD C ops fr0 S0 L ops.length) o=some true:=by rw[ziu hslot];exact h1.guard
    have hwant:Region.wanted o (yielded ops.toArray a.tmps)=true:=by obtain⟨b',fr',e1,_,e2⟩:=zgJ hgd hG.fr;cases e1;exact e2
    unfold wpOp;simp only[List.getElem?_toArray,ho,hwant,if_true];have hno:∀i,m≤i→i<j→¬Effw C ops fr0 S0 i:=fun i h1' h2' hei=>by
     have h3:=hm2 i h1' hei;obtain⟨oi,hoi,hw,hk'⟩:=hei;rcases zcW hord h2' hoi ho with q|q
     ·rw[hanc i q]at h3;cases h3
     ·exact q.2 ⟨hk',(zmg h1.op).2⟩
    have hT:=zkJ hok hn0 j hm (Nat.le_refl _) hno;have hX:=h1.run;have hX:opX C (FD C ops fr0 S0 L ops.length) (rst C ops L (stp C ops fr0 S0 m).2) o=some (x,H):=by rw[←hX,hT];exact opX_congr (zqd hslot) rfl
    refine .inl (znt hhC hG.n hX h1.op hG.rel hG.fr (fun x1 H1 w' β' x' g1 g2 g3 g4 g5=>?_) fun s S' w' v' β' lam' g1=>(by cases g1));cases g1;exact hkp h1.pan x _ ⟨(rst C ops L (stp C ops fr0 S0 m).2).bx,H⟩ a w' β' lam x' h1.kp ⟨g2,g3,hG.ext.trans g5⟩ ⟨hM.tmps,hM.size,Bt.le_trans hM.le g5.le,hM.dfr⟩ g4
   obtain⟨b,hb⟩:=hok j o hj0 ho;have hwant:Region.wanted o (yielded ops.toArray a.tmps)=b:=by
    have hg:zdd ops (FD C ops fr0 S0 L ops.length) o=some b:=by rw[ziu hslot];exact hb.guard
    obtain⟨b',fr',e1,_,e2⟩:=zgJ hg hG.fr;cases e1;exact e2
   have hset:FD C ops fr0 S0 (L.setIfInBounds j true) ops.length=putS (FD C ops fr0 S0 L ops.length) o.dst (sl C ops fr0 S0 j):=by
    rw[FD_set ho hjL hnj' (fun i oi hij hoi hL d hd=>by
     rcases zcW hord hij ho hoi with q|q
     ·exact(hdesc i oi hoi hL q).elim
     ·exact((zgQ q.1).1 d hd).2) ops.length (Nat.le_refl _),if_neg (by omega)]
   have hmono:∀x,L.getD x false=true→(L.setIfInBounds j true).getD x false=true:=fun x hx=>by
    rw[zeP hjL];split
    ·rfl
    ·exact hx
   have hjj:(L.setIfInBounds j true).getD j false=true:=by rw[zeP hjL,if_pos rfl]
   have hne:∀x,x≠j→(L.setIfInBounds j true).getD x false=L.getD x false:=fun x hx=>by rw[zeP hjL,if_neg hx]
   have hjU:j∈U:=hUm j hjn hnj';have hWo:=hW o (mem_of_getElem? ho);have hIj:∀m',(∀(i:Nat) o d,ops[i]?=some o→isLA C.O C.f o=true→o.dst=some d→L.getD i false=false→(stp C ops fr0 S0 m').2.bx d=S0.bx d) →
     ∀(i:Nat) o d,ops[i]?=some o→isLA C.O C.f o=true→o.dst=some d→(L.setIfInBounds j true).getD i false=false→(stp C ops fr0 S0 m').2.bx d=S0.bx d:=fun m' h i o' d h1 h2 h3 h4=>by
    rw[zeP hjL]at h4;split at h4
    ·cases h4
    ·exact h i o' d h1 h2 h3 h4
   have next:∀(a':Act) (w':World) (β':Bt) (lam':Nat→Nat) (m':Nat),m'≤n0→(∀i,i<m'→Effw C ops fr0 S0 i→(L.setIfInBounds j true).getD i false=true)→(∀i,m'≤i→Effw C ops fr0 S0 i→(L.setIfInBounds j true).getD i false=false) →
     (∀(i:Nat) o d,ops[i]?=some o→isLA C.O C.f o=true→o.dst=some d→(L.setIfInBounds j true).getD i false=false→(stp C ops fr0 S0 m').2.bx d=S0.bx d) →
     Good C.P w0 H0 β0 (putS (FD C ops fr0 S0 L ops.length) o.dst (sl C ops fr0 S0 j)) (rst C ops (L.setIfInBounds j true) (stp C ops fr0 S0 m').2) a' w' β' lam'→zbU W S1 a1 β1 l1 (rst C ops (L.setIfInBounds j true) (stp C ops fr0 S0 m').2) a' β' lam'→wpAny C.P .any ops.toArray Q fuel (L.setIfInBounds j true) a' w':=by
    intro a' w' β' lam' m' q1 q2 q3 q0 q4 q5;refine ih (L.setIfInBounds j true) a' w' β' lam' (U.erase j) m' (by simpa using hs) (by rw[length_erase_of_mem hjU,hU];rfl) (fun i hi hLi=>?_) (fun i oi hLi hoi e hem hbd=>?_) (fun i hi=>?_) q1 q2 q3 q0 (by rw[hset];exact q4) q5
    ·have hij:i≠j:=fun q=>by subst q;rw[hjj]at hLi;cases hLi
     rw[hne i hij]at hLi;exact(mem_erase_of_ne hij).2 (hUm i hi hLi)
    ·by_cases hij:i=j
     ·subst hij;rw[ho]at hoi;cases hoi;exact hmono _ (he e hem hbd)
     ·rw[hne i hij]at hLi;exact hmono _ (hcl i oi hLi hoi e hem hbd)
    ·by_cases hij:i=j
     ·rw[hij];exact hj0
     ·rw[hne i hij]at hi;exact hL0 i hi
   unfold wpOp;simp only[List.getElem?_toArray,ho,hwant];cases b with
   |false=>
    simp only[Bool.false_eq_true,if_false];have hnoteff:∀i,Effw C ops fr0 S0 i→i≠j:=fun i ⟨oi,hoi,hw,_⟩ q=>by subst q;rw[ho]at hoi;cases hoi;have h1:=hb.guard;unfold Wd at hw;rw[hw]at h1;cases h1
    have hl:isLA C.O C.f o=false:=by
     cases hl:isLA C.O C.f o with
     |false=>rfl
     |true=>
      have h1:=hb.guard;rw[LA_guard hl]at h1;cases h1
    refine next _ w β lam m hm (fun i hi hei=>hmono i (hm1 i hi hei)) (fun i hi hei=>by rw[hne i (hnoteff i hei)];exact hm2 i hi hei) (hIj m hI) ?_ ?_
    rotate_left
    ·rw[zl7 ho hjL hl];exact hM.put hWo _ (BMv.refl _ _) (Bt.le_refl _)
    rw[zl7 ho hjL hl];refine⟨hG.rel,?_,hG.ext⟩;rw[(hb.no rfl).1];exact hG.fr.put (s:=.und) rfl _
   |true=>
    simp only[if_true];have hcong:∀S,opRD C (FD C ops fr0 S0 L ops.length) S o=opRD C (stp C ops fr0 S0 j).1 S o:=fun S=>zqL (zqd hslot);refine .inl ?_;cases hl:isLA C.O C.f o with
    |true=>
     obtain⟨T,d,_,hop,hd,_⟩:=LA_inv hl;obtain⟨c,g1,g2,g3⟩:=hla' j o d ho hl hd;have hdue:Due C ops L d:=⟨j,o,ho,hl,hd,hnj'⟩
     have hsl:sl C ops fr0 S0 j=.loc d 0:=by have:=hb.yes rfl;unfold opRD opD at this;rw[hl,hd]at this;exact(congrArg Prod.fst (Option.some.inj this)).symm
     have hnotd:¬Due C ops (L.setIfInBounds j true) d:=fun⟨i,o',h1,h2,h3,h4⟩=>by have hij:=huniq i j o' o h1 ho h2 hl (h3.trans hd.symm);subst hij;rw[hjj]at h4;cases h4
     have hst:rst C ops (L.setIfInBounds j true) (stp C ops fr0 S0 m).2=(rst C ops L (stp C ops fr0 S0 m).2).setB d (some c):=by
      refine St.ext' (fun e=>?_) rfl;by_cases he:e=d
      ·subst he;rw[zdu hnotd,St.setB_same,hI j o e ho hl hd hnj',g2]
      ·rw[St.setB_ne _ _ he];have hde:=zo7 (C:=C) ho hjL (e:=e) (.inr (fun q=>he (by rw[hd]at q;cases q;rfl)));by_cases hu:Due C ops L e
       ·rw[zcZ hu,zcZ (hde.2 hu)]
       ·rw[zdu hu,zdu fun q=>hu (hde.1 q)]
     have hnoteff:∀i,Effw C ops fr0 S0 i→i≠j:=fun i ⟨oi,hoi,hw,hk⟩ q=>by subst q;rw[ho]at hoi;cases hoi;rw[zmq hl]at hk;cases hk
     refine zi4 (r:=(sl C ops fr0 S0 j,rst C ops (L.setIfInBounds j true) (stp C ops fr0 S0 m).2)) hhC hG.n (by rw[hst,hsl];exact g3 _ _ (zcZ hdue)) hG.rel hG.fr fun s S' w' v' β' lam' k1 k2 k3 k4 k5 k6=>?_;cases k1;exact next _ w' β' lam' m hm (fun i hi hei=>hmono i (hm1 i hi hei)) (fun i hi hei=>by rw[hne i (hnoteff i hei)];exact hm2 i hi hei) (hIj m hI) ⟨k2,k3.put k4 _,hG.ext.trans k5⟩ (hM.put hWo _ k6 k5.le)
    |false=>
    have step:∀m',m'≤n0→(∀i,i<m'→Effw C ops fr0 S0 i→(L.setIfInBounds j true).getD i false=true)→(∀i,m'≤i→Effw C ops fr0 S0 i→(L.setIfInBounds j true).getD i false=false) →
      (∀(i:Nat) o d,ops[i]?=some o→isLA C.O C.f o=true→o.dst=some d→L.getD i false=false→(stp C ops fr0 S0 m').2.bx d=S0.bx d) →
      opRD C (FD C ops fr0 S0 L ops.length) (rst C ops L (stp C ops fr0 S0 m).2) o=some (sl C ops fr0 S0 j,rst C ops L (stp C ops fr0 S0 m').2)→o.wp C.P a w (wpAny C.P .any ops.toArray Q fuel (L.setIfInBounds j true)) Q:=by
     intro m' q1 q2 q3 q0 q4;rw[zco hl]at q4;refine zi4 (r:=(sl C ops fr0 S0 j,rst C ops L (stp C ops fr0 S0 m').2)) hhC hG.n q4 hG.rel hG.fr fun s S' w' v' β' lam' g1 g2 g3 g4 g5 g6=>?_;cases g1;exact next _ w' β' lam' m' q1 q2 q3 (hIj m' q0) (by rw[zl7 ho hjL hl];exact⟨g2,g3.put g4 _,hG.ext.trans g5⟩) (by rw[zl7 ho hjL hl];exact hM.put hWo _ g6 g5.le)
    have htagd:∀r,opR C (FD C ops fr0 S0 L ops.length) (stp C ops fr0 S0 m).2 o=some r→∀d,zbF C (FD C ops fr0 S0 L ops.length) o=some d→(rst C ops L (stp C ops fr0 S0 m).2).bx d=(stp C ops fr0 S0 m).2.bx d:=fun r hr d hd=>by
     by_cases hu:Due C ops L d
     ·rcases tag_loc hd with⟨x,off,hx⟩|h2
      ·have h1:=zeE hG.rel hG.fr x;rw[hx]at h1;have h1:((rst C ops L (stp C ops fr0 S0 m).2).bx d).isSome=true:=h1.1;rw[zcZ hu]at h1;cases h1
      ·rw[zcZ hu,h2 _ _ hr]
     ·exact zdu hu
    cases hkd:zbX C.P C.O C.f o with
    |pure=>
     have hnoteff:∀i,Effw C ops fr0 S0 i→i≠j:=fun i ⟨oi,hoi,hw,hk⟩ q=>by subst q;rw[ho]at hoi;cases hoi;rw[hkd]at hk;cases hk
     exact step m hm (fun i hi hei=>hmono i (hm1 i hi hei)) (fun i hi hei=>by rw[hne i (hnoteff i hei)];exact hm2 i hi hei) hI (by rw[hcong];exact(zml (S2:=rst C ops L (stp C ops fr0 S0 m).2) (hb.yes rfl) (.inl hkd)).2)
    |read=>
     have hnoteff:∀i,Effw C ops fr0 S0 i→i≠j:=fun i ⟨oi,hoi,hw,hk⟩ q=>by subst q;rw[ho]at hoi;cases hoi;rw[hkd]at hk;cases hk
     suffices hsuf:opRD C (stp C ops fr0 S0 j).1 (stp C ops fr0 S0 m).2 o=some (sl C ops fr0 S0 j,(stp C ops fr0 S0 m).2) by
      refine step m hm (fun i hi hei=>hmono i (hm1 i hi hei)) (fun i hi hei=>by rw[hne i (hnoteff i hei)];exact hm2 i hi hei) hI ?_;rw[←hcong]at hsuf;refine zhI hsuf hkd ?_;rw[zco hl]at hsuf;have ht:=htagd _ hsuf;unfold zm3;split
      ·rfl
      ·rename_i d hd;exact ht d hd
     obtain⟨r1,r2⟩:=read_any hok hn0 hchk hj0 ho hb hkd;rcases Nat.le_total m j with q|q
     ·refine r1 (j-m) m (by omega) fun i h1 h2 hei=>?_;cases hbit:((ancs ops).getD j 0).testBit i with
      |false=>rfl
      |true=>
       have h3:=hanc i hbit;rw[hm2 i h1 hei]at h3;cases h3
     ·refine r2 m q hm fun i h1 h2 hei=>?_;cases hbit:((ancs ops).getD i 0).testBit j with
      |false=>rfl
      |true=>
       have h3:=hm1 i h2 hei;obtain⟨oi,hoi,_⟩:=hei;exact(hdesc i oi hoi h3 hbit).elim
    |eff=>
     have hej:Effw C ops fr0 S0 j:=⟨o,ho,hb.guard,hkd⟩
     have hmj:m≤j:=by
      rcases Nat.lt_or_ge j m with q|q
      ·have:=hm1 j q hej;rw[hnj']at this;cases this
      ·exact q
     have hno:∀i,m≤i→i<j→¬Effw C ops fr0 S0 i:=fun i h1 h2 hei=>by
      have h3:=hm2 i h1 hei;obtain⟨oi,hoi,hw,hk⟩:=hei;rcases zcW hord h2 hoi ho with q|q
      ·rw[hanc i q]at h3;cases h3
      ·exact q.2 ⟨hk,hkd⟩
     have hT:=zkJ hok hn0 j hmj (Nat.le_of_lt hj0) hno;have hy:=hb.yes rfl;rw[hT,←hcong,zco hl]at hy;have hk':zcV C.P o.op=.eff:=by rw[←zeD hl];exact hkd
     have htag:=zo6 hy hk';have hbx:=htagd _ hy;refine step (j+1) hj0 (fun i hi hei=>?_) (fun i hi hei=>?_) (fun i o' d h1 h2 h3 h4=>?_) ?_
     ·rcases Nat.lt_or_ge i m with q|q
      ·exact hmono i (hm1 i q hei)
      ·rcases Nat.lt_or_ge i j with q'|q'
       ·exact absurd hei (hno i q q')
       ·have:i=j:=by omega
        subst this;exact hjj
     ·rw[hne i (by omega)];exact hm2 i (by omega) hei
     ·have hdue:Due C ops L d:=⟨i,o',h1,h2,h3,h4⟩
      have hm0:=hI i o' d h1 h2 h3 h4;obtain⟨c,_,hc,_⟩:=hla' i o' d h1 h2 h3;have hnt:zbF C (FD C ops fr0 S0 L ops.length) o≠some d:=fun q=>by have:=hbx d q;rw[zcZ hdue,hm0,hc]at this;cases this
      rw[←hm0];cases ht:zbF C (FD C ops fr0 S0 L ops.length) o with
      |none=>rw[ht]at htag;exact congrFun htag d
      |some e=>rw[ht]at htag;exact htag.2 d fun q=>hnt (by rw[ht,q])
     ·rw[zco hl];refine(eff_bx (bx2:=(rst C ops L (stp C ops fr0 S0 m).2).bx) hy hk' hbx).trans ?_;congr 2;refine St.ext' (fun d=>?_) rfl;have he:zbF C (FD C ops fr0 S0 L ops.length) o≠some d→(stp C ops fr0 S0 (j+1)).2.bx d=(stp C ops fr0 S0 m).2.bx d:=fun q=>by
       cases ht:zbF C (FD C ops fr0 S0 L ops.length) o with
       |none=>rw[ht]at htag;exact congrFun htag d
       |some e=>rw[ht]at htag;exact htag.2 d fun q'=>q (by rw[ht,q'])
      have hd:zbF C (FD C ops fr0 S0 L ops.length) o=some d→¬Due C ops L d:=fun q hu=>by obtain⟨i,o',h1,h2,h3,h4⟩:=id hu;obtain⟨c,_,hc,_⟩:=hla' i o' d h1 h2 h3;have:=hbx d q;rw[zcZ hu,hI i o' d h1 h2 h3 h4,hc]at this;cases this
      show zoH (zbF C (FD C ops fr0 S0 L ops.length) o) (stp C ops fr0 S0 (j+1)).2.bx (rst C ops L (stp C ops fr0 S0 m).2).bx d=_;have keep:zbF C (FD C ops fr0 S0 L ops.length) o≠some d→(rst C ops L (stp C ops fr0 S0 m).2).bx d=(rst C ops L (stp C ops fr0 S0 (j+1)).2).bx d:=fun q=>by
       by_cases hu:Due C ops L d
       ·rw[zcZ hu,zcZ hu]
       ·rw[zdu hu,zdu hu,he q]
      cases ht:zbF C (FD C ops fr0 S0 L ops.length) o with
      |none=>exact keep (by rw[ht];exact fun q=>by cases q)
      |some e=>
       show (if d=e then (stp C ops fr0 S0 (j+1)).2.bx d else (rst C ops L (stp C ops fr0 S0 m).2).bx d)=_;by_cases q:d=e
       ·subst q;rw[if_pos rfl,zdu (hd ht)]
       ·rw[if_neg q];exact keep (by rw[ht];exact fun q'=>q (by cases q';rfl))
 have hrep:∀i,(Array.replicate ops.length false).getD i false=false:=fun i=>by rw[Array.getD_eq_getD_getElem?,Array.getElem?_replicate];split<;>rfl
 have hFD:∀m,FD C ops fr0 S0 (Array.replicate ops.length false) m=fr0:=by
  intro m;induction m with
  |zero=>rfl
  |succ m ih=>unfold FD;rw[hrep];exact ih
 have hst0:rst C ops (Array.replicate ops.length false) S0=Sb:=by
  refine St.ext' (fun d=>?_) hhp;by_cases hu:Due C ops (Array.replicate ops.length false) d
  ·rw[zcZ hu];obtain⟨i,o',h1,h2,h3,h4⟩:=hu;exact(hla' i o' d h1 h2 h3).choose_spec.1.symm
  ·rw[zdu hu];refine hoth d fun o ho hl hd=>?_;obtain⟨i,hi⟩:=mem_iff_getElem?.1 ho;exact hu ⟨i,o,hi,hl,hd,hrep i⟩
 refine main ops.length _ a w β lam (List.range ops.length) 0 (by simp) (by simp) (fun i hi _=>mem_range.2 hi) ?_ (fun i hi=>by rw[hrep]at hi;cases hi) (Nat.zero_le _) (fun i hi=>by omega) (fun i _ _=>hrep i) (fun i o d _ _ _ _=>rfl) ?_ ?_
 ·intro i o hi;rw[hrep]at hi;cases hi
 ·rw[hFD];show Good C.P w0 H0 β0 fr0 (rst C ops _ S0) a w β lam;rw[hst0];exact hG
 ·show zbU W S1 a1 β1 l1 (rst C ops _ S0) a β lam;rw[hst0];exact hM
end Go.AM
namespace Go.AM
open Go
theorem sound{P:Program}{O:Orc}{ext:Ext1}(hm:P.follows .mixedOrders=true)(he:ExtC P ext)(hx:XtC P O.xt)(ho:ExtO O ext):SimC P O (run P O ext):=run_sound hm (fun O h f hh=>zo8 O h f hh) he hx ho
theorem sound1{P:Program}{O:Orc}{ext:Ext1}(hm:P.follows .mixedOrders=true)(he:ExtC P ext)(hx:XtC P O.xt)(ho:ExtO O ext){f:FuncId}(hf:O.xt f=none)(hp:O.pan f=false){args:List Value}{H:Hp}{v:Value}{H':Hp}(h:run P O ext f args H=some (v,H')) :
  zoe P f∧∀args' w β,LRel β args args'→Rel P w H β→Calls P f args'.toArray w fun e w'=>∃v' β',e=.returned v'∧Rel P w' H' β'∧Ext w.heap.size w H β w' H' β'∧VRel β' v v':=by
 rcases sound (O:=O) hm he hx ho f args H v H' h with⟨h1,h2⟩|⟨_,_,h2,_⟩
 ·refine⟨h1,fun args' w β h3 h4=>Calls.mono (h2 args' w β h3 h4) fun e w' h5=>?_⟩;unfold Ends at h5;rw[hp]at h5;exact h5
 ·exact absurd h2 (run_body hf h)
#print axioms sound
end Go.AM
namespace Go.AM
open List Go Go.ChangeShapes Go.WideShapes Go.ChangeAt Go.RowKit
theorem zn6{P:Program}{O:Orc}{ext:Ext1}(hm:P.follows .mixedOrders=true)(he:ExtC P ext){f:FuncId}{W:World}{args:Array Value}{H H':Hp}{β:Bt}{xs:List Value}
  (hR:Rel P W H β) (hno:∀i o,H.get i=some o→o.own=false) (ha:LRel β xs args.toList) (hrun:run P O ext f xs H=some (.bool true,H')) (hx:XtC P O.xt:=by intro f e h;cases h) (hxf:O.xt f=none:=by rfl) (ho:ExtO O ext:=by intro f _;rfl) (hpf:O.pan f=false:=by rfl) :
  Calls P f args W fun e W'=>e=.returned (.bool true)∧Below W.heap.size W W':=by
 have h:=(sound1 (O:=O) hm he hx ho hxf hpf hrun).2 args.toList W β ha hR;rw[show args.toList.toArray=args from by simp]at h;refine h.mono fun e W' ⟨v',β',h1,h2,h3,h4⟩=>?_;cases h4;exact⟨h1,h3.os,h3.tape,h3.output,h3.size,fun k hk=>h3.frame k hk fun⟨i,o,x,g1,g2,_,_⟩=>by rw[hno i o g1]at g2;cases g2⟩
theorem zgX{HH:Type}{enc:TypeId×Value→HH}{P:Program}(hl:laidOutB P=true){W W':World}(hb:Below W.heap.size W W') :
  ∀{ts:List TypeId} {vs:List Value} {ds:List (DataW HH)} {ps:List MemPlace},(∀t∈ts,P.readableRec t=true∧t<P.types.size)→DataW.TrodAll enc P W 0 (fun _=>true) true ts vs ds ps →
   (∀x∈ps,x.block<W.heap.size)→DataW.TrodAll enc P W' 0 (fun b=>decide (b<W.heap.size)) true ts vs ds ps
 |[],[],[],ps,_,h,_=>h
 |t::ts,v::vs,d::ds,ps,ht,h,hlt=>by
  obtain⟨p,q,h1,h2,e⟩:=h;have h0:=ht t (mem_cons_self ..);exact⟨p,q,Below.trod hl h0.1 h0.2 h1 hb (fun x hx=>hlt x (by rw[e];simp[hx])),zgX hl hb (fun t h=>ht t (mem_cons_of_mem _ h)) h2 (fun x hx=>hlt x (by rw[e];simp[hx])),e⟩
 |[],_::_,_,_,_,h,_=>h.elim
 |[],[],_::_,_,_,h,_=>h.elim
 |_::_,[],_,_,_,h,_=>h.elim
 |_::_,_::_,[],_,_,h,_=>h.elim
theorem post_true{HH:Type}{enc:TypeId×Value→HH}{P:Program}{f:Func}{s:ChangeSpec}(hl:laidOutB P=true)(hp:∀t∈f.params.toList,P.readableRec t=true∧t<P.types.size)(hv:s.vars=[])
  {tb:TypeId} (hr:f.resultTypes = #[tb]) (hb:P.underlying tb=some .bool) {W W':World} {args:Array Value} {ds gs:List (DataW HH)} {before:List MemPlace}
  (hW:DataW.Whole enc P f.params.toList s.vars false W args.toList ds gs before) (hB:Below W.heap.size W W') (hfn:s.fn HH (ds++gs)={ results:=[.lit (.bool true)],args:=ds }) :
  s.post enc P f false true false false W args (.bool true) W':=by
 have hlt:=hW.lt;obtain⟨p,q,h1,h2,e,h3,h4⟩:=id hW;rw[hv]at h2;have hq:gs=[]∧q=[]:=by
  cases gs with
  |nil=>exact⟨rfl,h2⟩
  |cons g gs=>exact h2.elim
 refine⟨ds,gs,before,[],p,[],hW,?_,?_,?_,?_,fun h=>by cases h⟩
 ·rw[hfn,hr];exact trodAll_cons_mk (shut_bool hb _) trodAll_mk0
 ·rw[hfn];exact zgX hl hB hp h1 (fun x hx=>hlt x (by rw[e];simp[hx]))
 ·rw[hfn,hv];rfl
 ·exact hB.frame _
theorem zor{P:Program}{W:World}(h:W.ShapedOpen P)(hg:P.globals.size=0∨∃x,(((begin P (fun _ _=>0) default).world.heap[P.globals.size-1]?).bind Obj.row?)=some x):P.globals.size≤W.heap.size:=by
 rcases hg with hg|⟨⟨z,t⟩,hx⟩
 ·omega
 ·rcases Nat.eq_zero_or_pos P.globals.size with h0|h0
  ·omega
  ·obtain⟨cs,hc,_⟩:=h.1 (P.globals.size-1) z t (by omega) hx;have:=(Array.getElem?_eq_some_iff.1 hc).1;omega
end Go.AM
