/- Part of the proof of EvalCarryMeansUptoCardSaid: see the last file.  -/
import Derived.Laws.Sem
import Derived.Orders
import Derived.Recover
import Derived.WalkKit
import Derived.ProofKit
import Derived.JoinedCond
import Derived.OpenShut
import Derived.Deep.DeepHandedRow
import Derived.Laws.Externs
import Derived.Lib.Bytealg
import Derived.Test.YtcbmccpkhagckaaGreatDoorT0
set_option linter.unusedSimpArgs false
set_option linter.unusedVariables false
set_option linter.unusedSectionVars false
set_option maxRecDepth 100000
namespace Go.AM
open List Go
def World.setObj(w:World)(b:Nat)(o:Obj):World:={ w with heap:=w.heap.setIfInBounds b o }
theorem zix{w:World}{b:Nat}{o:Obj}(h:b<w.heap.size):(World.setObj w b o).heap[b]?=some o:=by simp[World.setObj,h]
theorem zd7{w:World}{b k:Nat}{o:Obj}(h:k≠b):(World.setObj w b o).heap[k]?=w.heap[k]?:=by simp only[World.setObj,Array.getElem?_setIfInBounds];rw[if_neg (fun e=>h e.symm)]
theorem Rel.setMap{P:Program}{w:World}{H:Hp}{β:Bt}(h:Rel P w H β){i:Nat}{kv kv':List (Value×Value)}{x:BI}(hi:H.get i=some (.map kv))(hx:β i=some x)
  {es':Array MapEntry} {clock':Nat} (hr:ERel β kv' es'.toList) (hb:∀e∈es'.toList,e.born<clock') :
  Rel P (World.setObj w x.b (.map es' clock')) (H.set i (some (.map kv'))) β∧Ext w.heap.size w H β (World.setObj w x.b (.map es' clock')) (H.set i (some (.map kv'))) β:=by
 have hlt:=h.lt i x hx;have hoth:∀j o y,j≠i→H.get j=some o→β j=some y→(World.setObj w x.b (.map es' clock')).heap[y.b]?=w.heap[y.b]?:=fun j o y hji hj hy=>
  zd7 (fun e=>h.apart i j _ _ x y (Ne.symm hji) hi hj rfl hx hy e.symm)
 refine⟨⟨fun j ds own hj=>?_,fun j kv2 hj=>?_,fun j k o o2 y z hjk hj hk ho hy hz=>?_,fun j hj=>?_,fun j y hy=>?_,h.glob,fun j o hj=>(by
   rw[Hp.get_set]at hj;split at hj
   ·cases hj
   ·rename_i hji;obtain⟨y,hy,h0,h3⟩:=h.fix j o hj
    exact⟨y,hy,h0,by rw[hoth j _ y hji hj hy];exact h3⟩),fun j T hj=>(by
   obtain⟨y,arr,fz,hy,h1,h2,h3⟩:=h.tys j T hj;refine⟨y,arr,fz,hy,h1,?_,h3⟩;obtain⟨x',hx',es0,c0,h4,_⟩:=h.maps i kv hi;rw[hx]at hx';cases hx';rw[zd7 (fun e=>by rw[e,h4]at h2;cases h2)]
   exact h2)⟩,
  ⟨rfl,rfl,rfl,by simp[World.setObj],Bt.le_refl _,Nat.le_refl _,fun b hb ho=>?_,fun b=>?_,fun j y hy hn=>by rw[hn]at hy;cases hy⟩⟩
 ·rw[Hp.get_set]at hj;split at hj
  ·cases hj
  ·rename_i hji;obtain⟨y,hy,h3,h4⟩:=h.cells j ds own hj;have hw:=hoth j _ y hji hj hy;refine⟨y,hy,fun k v hk=>?_,fun ho=>⟨(h4 ho).1.congr hw,(h4 ho).2⟩⟩;obtain⟨v',hv',hr⟩:=h3 k v hk;exact⟨v',by rw[zdb hw];exact hv',hr⟩
 ·rw[Hp.get_set]at hj;split at hj
  ·rename_i e;cases hj;subst e;exact⟨x,hx,es',clock',zix hlt,hr,hb⟩
  ·rename_i hji;obtain⟨y,hy,es,clock,h3,h4⟩:=h.maps j kv2 hj;exact⟨y,hy,es,clock,by rw[hoth j _ y hji hj hy];exact h3,h4⟩
 ·rw[Hp.get_set]at hj hk;have hj':∃q,H.get j=some q∧q.own=true:=by
   split at hj
   ·rename_i e;subst e;exact⟨_,hi,rfl⟩
   ·exact⟨o,hj,ho⟩
  have hk':∃q,H.get k=some q:=by
   split at hk
   ·rename_i e;subst e;exact⟨_,hi⟩
   ·exact⟨_,hk⟩
  obtain⟨q,g1,g2⟩:=hj';obtain⟨q',g3⟩:=hk';exact h.apart j k q q' y z hjk g1 g3 g2 hy hz
 ·have:=h.fresh j hj;rw[Hp.get_set,if_neg (fun e=>by subst e;rw[hi]at this;cases this.1)];exact this
 ·simp only[World.setObj,Array.size_setIfInBounds];exact h.lt j y hy
 ·exact zd7 (fun e=>by subst e;exact ho ⟨i,_,x,hi,rfl,hx,rfl⟩)
 ·rintro⟨j,o,y,hj,ho,hy,rfl⟩
  rw[Hp.get_set]at hj;split at hj
  ·rename_i e;subst e;rw[hx]at hy;cases hy;exact .inr ⟨_,_,x,hi,rfl,hx,rfl⟩
  ·exact .inr ⟨j,o,y,hj,ho,hy,rfl⟩
theorem zc3{P:Program}{w:World}{b:Nat}{es:Array MapEntry}{c:Nat}(h:w.heap[b]?=some (.map es c)):(getObj b).run P w=.ok (.map es c) w:=by simp[getObj,Sem.run,h]
theorem zfz{P:Program}{w:World}{b:Nat}{es:Array MapEntry}{c:Nat}{o:Obj}(h:w.heap[b]?=some (.map es c)):(setObj b o).run P w=.ok () (World.setObj w b o):=by simp[Go.setObj,Sem.run,h,World.setObj]
section
variable {α:Type}{C:Ctx}{N:Nat}{w:World}{S:St}{β:Bt}{lam:Nat→Nat}{fr:Fr}{a:Act}{o:Oper}{k:Slot→St→Option α}{r:α}
theorem look_ok{P:Program}{H:Hp}(hR:Rel P w H β){T kt et:TypeId}{d:TypeDesc}{i:TypeInfo}{z:Value}(hu:P.underlying T=some (.map kt et))(hd:P.underlying kt=some d)(hi:P.info? et=some i)(hz:i.zero=some z)
  (hzc:zdt z=true) {m key m' key':Value} (hm:VRel β m m') (hk:VRel β key key') {v:Value} {b:Bool} (h:lookV P kt z m key H=some (v,b)) :
  ∃v',VRel β v v'∧∀ok,(Instr.lookup T m' key' ok).run P w=.ok (if ok then .tuple #[v',.bool b] else v') w:=by
 unfold lookV at h;split at h
 ·rename_i hsh;split at h
  ·cases h
  ·rename_i kv hmo;have hes:∃es:Array MapEntry,ERel β kv es.toList∧((m'=.map none∧es = #[])∨∃b clock,m'=.map (some b)∧w.heap[b]?=some (.map es clock)):=by
    unfold zn4 at hmo;split at hmo
    ·cases hmo;cases hm;exact⟨#[],⟨rfl,by simp⟩,.inl ⟨rfl,rfl⟩⟩
    ·rename_i j;split at hmo
     ·rename_i kv' hg;cases hmo;cases hm with
      |map _ x hx=>
      obtain⟨x',hx',es,clock,h1,h2,h3⟩:=hR.maps j kv hg;rw[hx]at hx';cases hx';exact⟨es,h2,.inr ⟨x.b,clock,rfl,h1⟩⟩
     ·cases hmo
    ·cases hmo
   obtain⟨es,hre,hes⟩:=hes;have hck:=zd5 (P:=P) (β:=β) es.isEmpty 20 10000 kt key key' w (by omega) hsh hk;split at h
   ·rename_i j u hf;cases h;have hfk:=zdO (w:=w) hd hk hf hre;obtain⟨_,k0,hk0,_⟩:=zil kv 0 j v hf;simp only[Nat.sub_zero]at hk0;have hjl:j<es.toList.length:=by rw[←hre.1];exact(List.getElem?_eq_some_iff.1 hk0).1
    have hej:=hre.2 j k0 v es.toList[j] hk0 (by simp);have hfe:zfs es.toList (some (j,v)) 0=some (j,es.toList[j].val):=by
     have:es.toList[j]?=some es.toList[j]:=by simp
     simp only[zfs,Nat.sub_zero,this,Option.map_some]
    rw[hfe]at hfk;refine⟨_,hej.2,fun ok=>?_⟩;rcases hes with⟨rfl,rfl⟩|⟨b,clock,rfl,hb⟩
    ·simp only[Instr.lookup,Sem.run_bind,zan w hu,Result.andThen_ok,Sem.run_pure,hck,hfk]
    ·simp only[Instr.lookup,Sem.run_bind,zan w hu,Result.andThen_ok,Sem.run_pure,zc3 hb,hck,hfk]
   ·rename_i hf;cases h;have hfk:=zdO (w:=w) hd hk hf hre;refine⟨z,zda hzc,fun ok=>?_⟩;rcases hes with⟨rfl,rfl⟩|⟨b,clock,rfl,hb⟩
    ·simp only[Instr.lookup,Sem.run_bind,zan w hu,Result.andThen_ok,Sem.run_pure,hck,hfk,zfs,zbA w hi hz]
    ·simp only[Instr.lookup,Sem.run_bind,zan w hu,Result.andThen_ok,Sem.run_pure,zc3 hb,hck,hfk,zfs,zbA w hi hz]
   ·cases h
 ·cases h
theorem zpR{T:TypeId}{m key:Operand}{ok:Bool}(ho:o.op=.lookup T m key ok)(h:opC C fr S o k=some r)(hR:Rel C.P w S.hp β)(hF:FRel N w S.bx β lam fr a):Step C.P N w S β lam fr a o k r:=by
 simp only[opC,ho]at h;obtain⟨mv,hmv,h1⟩:=za2 hR hF h;clear h;obtain⟨kv,hkv,h2⟩:=za2 hR hF h1;clear h1;obtain⟨kt,et,d,i,z,hu,hd,hi,hz,hzc,h3⟩:=zih h2;clear h2;unfold zbj at h3;split at h3
 ·rename_i v b hl;obtain⟨v',hv,hrun⟩:=look_ok hR hu hd hi hz hzc hmv hkv hl;have hrun:=hrun ok;cases ok with
  |true=>
   refine Step.val hR hF h3 (v':=.tuple #[v',.bool b]) ?_ (zch.2 ⟨_,rfl,LRel.cons hv (LRel.cons (.bool b) (LRel.nil _))⟩);simp only[execOp,ho,Sem.run_bind,hrun,Result.andThen_ok,Sem.run_pure,if_true]
  |false=>
   refine Step.val hR hF h3 (v':=v') ?_ hv;simp only[execOp,ho,Sem.run_bind,hrun,Result.andThen_ok,Sem.run_pure,Bool.false_eq_true,if_false]
 ·cases h3
theorem upd_ok{P:Program}{H H':Hp}(hR:Rel P w H β){T kt et:TypeId}{d:TypeDesc}(hu:P.underlying T=some (.map kt et))(hd:P.underlying kt=some d)
  {m key v m' key' v':Value} (hm:VRel β m m') (hk:VRel β key key') (hv:VRel β v v') (h:updV P kt m key v H=some H') :
  ∃w',(Instr.mapUpdate T m' key' v').run P w=.ok () w'∧Rel P w' H' β∧Ext w.heap.size w H β w' H' β:=by
 unfold updV at h;split at h
 ·rename_i hsh;split at h
  ·rename_i i;split at h
   ·rename_i kv hg;cases hm with
    |map _ x hx=>
    obtain⟨x',hx',es,clock,h1,h2,h3⟩:=hR.maps i kv hg;rw[hx]at hx';cases hx';have hck:=zd5 (P:=P) (β:=β) false 20 10000 kt key key' w (by omega) hsh hk;split at h
    ·rename_i j u hf;split at h
     ·rename_i k0 u0 hk0;split at h
      ·rename_i hsb;cases h;have hfk:=zdO (w:=w) hd hk hf h2;have hjl:j<es.toList.length:=by rw[←h2.1];exact(List.getElem?_eq_some_iff.1 hk0).1
       have hjs:j<es.size:=by simpa using hjl
       have hej:=h2.2 j k0 u0 es.toList[j] hk0 (by simp);have hsb':=znz 10000 k0 key _ key' hsb hej.1 hk;have hent:es[j]?=some es[j]:=by simp[hjs]
       obtain⟨g1,g2⟩:=hR.setMap hg hx (kv':=zhZ kv j key v) (es':=es.modify j fun e=>{ e with key:=key',val:=v' }) (clock':=clock) (by
        refine⟨by simp[zhZ];have:=h2.1;simpa using this,fun q k2 v2 e2 hq he=>?_⟩;simp only[zhZ,List.getElem?_set]at hq;rw[Array.getElem?_toList,Array.getElem?_modify]at he;by_cases hqj:j=q
        ·subst hqj;rw[if_pos rfl,hent]at he;have hkl:j<kv.length:=(List.getElem?_eq_some_iff.1 hk0).1;rw[if_pos rfl,if_pos hkl]at hq;cases hq;cases he;exact⟨hk,hv⟩
        ·rw[if_neg hqj]at hq he
         exact h2.2 q k2 v2 e2 hq (by simpa using he)) (by
        intro e he;obtain⟨q,hq,rfl⟩:=getElem_of_mem he;have hq':q<es.size:=by simpa using hq
        have:(es.modify j fun e=>{ e with key:=key',val:=v' }).toList[q].born=es[q].born:=by simp only[Array.getElem_toList,Array.getElem_modify];split<;>rfl
        rw[this]
        exact h3 _ (by simp))
       refine⟨_,?_,g1,g2⟩;simp only[Instr.mapUpdate,Sem.run_bind,zan w hu,Result.andThen_ok,zc3 h1,hck,hfk,zfs,Nat.sub_zero];have he2:es.toList[j]?=some es.toList[j]:=by simp
       rw[he2];simp only[Option.map_some,hent,Option.getD_some,Instr.keyThatStays];have hsb2:Instr.sameBits 10000 es[j].key key'=true:=by simpa using hsb'
       simp only[hsb2,if_true,Sem.run_bind,Sem.run_pure,Result.andThen_ok,zfz h1]
      ·cases h
     ·cases h
    ·rename_i hf;cases h;have hfk:=zdO (w:=w) hd hk hf h2
     obtain⟨g1,g2⟩:=hR.setMap hg hx (kv':=kv++[(key,v)]) (es':=es.push { key:=key',val:=v',born:=clock }) (clock':=clock+1) (by
      refine⟨by simp;have:=h2.1;simpa using this,fun q k2 v2 e2 hq he=>?_⟩;have hl:=h2.1;simp only[Array.toList_push]at he;by_cases hqn:q<kv.length
      ·rw[List.getElem?_append_left hqn]at hq;rw[List.getElem?_append_left (by omega)]at he;exact h2.2 q k2 v2 e2 hq he
      ·rw[List.getElem?_append_right (by omega)]at hq;rw[List.getElem?_append_right (by omega),←hl]at he;have hq0:q-kv.length=0:=by have:=(List.getElem?_eq_some_iff.1 hq).1;simp at this;omega
       rw[hq0]at hq he;cases hq;cases he
       exact⟨hk,hv⟩) (by
      intro e he;simp only[Array.toList_push,mem_append,mem_singleton]at he;rcases he with he|rfl
      ·have:=h3 e he;omega
      ·exact Nat.lt_succ_self _)
     refine⟨_,?_,g1,g2⟩;simp only[Instr.mapUpdate,Sem.run_bind,zan w hu,Result.andThen_ok,zc3 h1,hck,hfk,zfs,zfz h1]
    ·cases h
   ·cases h
  ·cases h
 ·cases h
theorem zgz{T:TypeId}{m key x:Operand}(ho:o.op=.mapUpdate T m key x∨o.op=.insert T m key x)(hN:N≤w.heap.size)(h:opC C fr S o k=some r)(hR:Rel C.P w S.hp β)(hF:FRel N w S.bx β lam fr a) :
  Step C.P N w S β lam fr a o k r:=by
 have h':sV (ev C.P.globals.size fr m) (fun m=>sV (ev C.P.globals.size fr key) fun key=>sV (ev C.P.globals.size fr x) fun x=>mapC C.P T fun kt _=>pUpd C.P kt m key x S.hp fun H=>k .unk ⟨S.bx,H⟩)=some r:=by rcases ho with ho|ho<;>simpa only [opC,ho] using h
 obtain⟨mv,hmv,h1⟩:=za2 hR hF h';clear h h';obtain⟨kv,hkv,h2⟩:=za2 hR hF h1;clear h1;obtain⟨vv,hvv,h3⟩:=za2 hR hF h2;clear h2;obtain⟨kt,et,d,i,z,hu,hd,hi,hz,hzc,h4⟩:=zih h3;clear h3;unfold pUpd at h4;split at h4
 ·rename_i H' hup;obtain⟨w',hrun,g1,g2⟩:=upd_ok hR hu hd hmv hkv hvv hup;refine Step.heap hN hR hF h4 (.inr ⟨?_,rfl⟩) g1 g2 trivial;rcases ho with ho|ho<;>simp only[execOp,ho,Sem.run_bind,hrun,Result.andThen_ok,Sem.run_pure]
 ·cases h4
theorem zl9{T:TypeId}{x:Operand}(ho:o.op=.makeMap T (some x))(hN:N≤w.heap.size)(h:opC C fr S o k=some r)(hR:Rel C.P w S.hp β)(hF:FRel N w S.bx β lam fr a):Step C.P N w S β lam fr a o k r:=by
 simp only[opC,ho]at h;obtain⟨xv,hxv,h1⟩:=za2 hR hF h;clear h;obtain⟨kt,et,d,i,z,hu,hd,hi,hz,hzc,h2⟩:=zih h1;clear h1;generalize hq:a.eval x=q at hxv;unfold zgh at h2;split at h2
 ·rename_i kd n;cases hxv;unfold zbY at h2;obtain⟨g1,g2⟩:=hR.new_map;refine Step.heap hN hR hF h2 (v':=.map (some w.heap.size)) (.inl ?_) g1 g2 (.map _ _ (Bt.set_same _ _ _));simp only[execOp,ho,Instr.makeMap,Option.map_some,hq,asInt,asIntOf,Sem.run_bind,Sem.run_pure,zan w hu,Result.andThen_ok];simp
 ·cases h2
end
section
variable {α:Type}{C:Ctx}{N:Nat}{w:World}{S:St}{β:Bt}{lam:Nat→Nat}{fr:Fr}{a:Act}{o:Oper}{k:Slot→St→Option α}{r:α}
theorem len_ok{P:Program}{H:Hp}(hR:Rel P w H β){t ty:TypeId}{d:TypeDesc}{q:LenK}(hu:P.underlying t=some d)(hd:lenK d=some q){x x' v:Value}(hx:VRel β x x')(h:lenV q x H=some v) :
  (Builtin.len_ #[t] ty #[x']).run P w=.ok v w∧VRel β v v:=by
 unfold lenV at h;split at h
 ·cases h;cases hx;refine⟨?_,.int _ _⟩;cases d<;>cases hd;simp[Builtin.len_,zan w hu,goInt]
 ·cases h;refine⟨?_,.int _ _⟩;cases d<;>cases hd;cases hx<;>simp[Builtin.len_,zan w hu,goInt]
 ·cases h;cases hx;refine⟨?_,.int _ _⟩;cases d<;>cases hd;simp[Builtin.len_,zan w hu,goInt]
 ·rename_i i;split at h
  ·rename_i kv hg;cases h;cases hx with
   |map _ x hx=>
   obtain⟨x',hx',es,clock,h1,h2,h3⟩:=hR.maps i kv hg;rw[hx]at hx';cases hx';refine⟨?_,.int _ _⟩;have hl:=h2.1;simp only[Array.length_toList]at hl;cases d<;>cases hd;simp[Builtin.len_,zan w hu,goInt,zc3 h1,hl]
  ·cases h
 ·cases h
theorem copy_ok {P : Program} {H H' : Hp} (hR : Rel P w H β) {t u ty e : TypeId} {i : TypeInfo} (hu : P.underlying t = some (.slice e)) (hi : P.info? e = some i)
    {d x d' x' v : Value} (hd : VRel β d d') (hx : VRel β x x') (h : copyV i.size d x H = some (v, H')) :
    ∃ w', (Builtin.copy_ #[t, u] ty #[d', x']).run P w = .ok v w' ∧ Rel P w' H' β ∧ Ext w.heap.size w H β w' H' β ∧ VRel β v v := by
  unfold copyV at h
  split at h
  · rename_i m new hsrc
    cases h
    cases hd
    obtain ⟨hlen, hnl, hfc⟩ := zl6 hR hsrc hx
    obtain ⟨l', hfr, hfrel⟩ := hfc 0 (Nat.zero_le _)
    refine ⟨w, ?_, hR, Ext.refl _ _ _ _, .int _ _⟩
    simp [Builtin.copy_, zan w hu, hlen, zaQ w hi, hfr, goInt]
  · rename_i m new i0 o z n c hsrc
    split at h
    · cases h
    · rename_i hz
      have hz : z = i.size := by omega
      subst hz
      split at h
      · rename_i cs hg
        split at h
        · rename_i hc
          cases h
          obtain ⟨hlen, hnl, hfc⟩ := zl6 hR hsrc hx
          obtain ⟨l', hfr, hfrel⟩ := hfc (min m n) (Nat.min_le_left _ _)
          cases hd with
          | slice _ _ _ _ _ y o' c' hy hnc hcc ht hoo =>
          obtain ⟨y', hy', h1, h2⟩ := hR.cells i0 cs true hg
          rw [hy] at hy'; cases hy'
          obtain ⟨⟨arr, ety, fz, hh, hsz, hfz⟩, hle⟩ := h2 rfl
          have hll : l'.length = (new.take (min m n * i.size)).length := hfrel.1.symm
          have hmm : min m n * i.size ≤ m * i.size := Nat.mul_le_mul_right _ (Nat.min_le_left _ _)
          have htl : (new.take (min m n * i.size)).length = min m n * i.size := by rw [length_take, hnl]; omega
          have hall : (new.take (min m n * i.size)).all one = true := by
            rw [all_eq_true] at hc ⊢
            intro q hq; exact hc.2 q (mem_of_mem_take hq)
          by_cases h0 : min m n * i.size = 0
          · have hl0 : l' = [] := length_eq_zero_iff.1 (by omega)
            subst hl0
            have hn0 : new.take (min m n * i.size) = [] := length_eq_zero_iff.1 (by omega)
            have hspl : spl cs o (new.take (min m n * i.size)) = cs := by rw [hn0]; simp [spl]
            have hset : H.set i0 (some (.cells cs true)) = H := by
              unfold Hp.set
              have : (fun j => if j = i0 then some (AObj.cells cs true) else H.get j) = H.get := by
                funext j; split
                · rename_i e; rw [e, hg]
                · rfl
              rw [this]
            rw [hspl, hset]
            refine ⟨w, ?_, hR, Ext.refl _ _ _ _, .int _ _⟩
            have hmn : (m.min n) = min m n := rfl
            simp [Builtin.copy_, zan w hu, hlen, zaQ w hi, hmn, hfr, goInt, storeCells]
          · have hmn0 : 0 < min m n := by rcases Nat.eq_zero_or_pos (min m n) with e | e; · rw [e] at h0; simp at h0
                                          exact e
            have ho' := hoo (by omega)
            subst ho'
            have hcl := hc.1
            obtain ⟨w', hst, hp⟩ := zdc P y.b (y.s + o) arr ety fz (by intro j hj; exact hfz j (by omega)) l' 0 w arr hh rfl (by omega) (zlU hfrel hall)
            obtain ⟨g1, g2⟩ := hR.write hg hy (off := o) (by omega) hfrel (by simpa using hp)
            refine ⟨w', ?_, g1, g2, .int _ _⟩
            have hmn : (m.min n) = min m n := rfl
            simp only [Builtin.copy_, List.getElem?_toArray, List.getElem?_cons_succ, List.getElem?_cons_zero, Sem.run_bind, zan w hu, Result.andThen_ok, hlen, zaQ w hi, Sem.run_pure, hmn, hfr, hst, goInt]
        · cases h
      · cases h
  · cases h
theorem mm_ok{P:Program}{mx:Bool}{x y z x' y':Value}(h:mm mx x y=some z)(hx:VRel β x x')(hy:VRel β y y') :
  ((if mx then Builtin.max2 x' y' else Builtin.min2 x' y')).run P w=.ok z w∧VRel β z z:=by
 unfold mm at h;split at h
 ·cases hx;cases hy;cases h;refine⟨?_,.int _ _⟩;cases mx<;>simp[Builtin.max2,Builtin.min2]
 ·cases h
theorem mmL_ok{P:Program}{mx:Bool}:∀(ys:List Value) (x z x':Value) (ys':List Value),mmL mx x ys=some z→VRel β x x'→LRel β ys ys' →
  ∃z',(ys'.foldlM (fun a b=>if mx then Builtin.max2 a b else Builtin.min2 a b) x').run P w=.ok z' w∧VRel β z z'
 |[],x,z,x',ys',h,hx,hl=>by
  cases h;have:ys'=[]:=length_eq_zero_iff.1 hl.1.symm;subst this;exact⟨x',rfl,hx⟩
 |y::ys,x,z,x',[],h,hx,hl=>by cases hl.1
 |y::ys,x,z,x',y'::ys',h,hx,hl=>by
  unfold mmL at h;split at h
  ·rename_i u hu;obtain⟨h1,h2⟩:=mm_ok (P:=P) (w:=w) hu hx (hl.2 0 y y' rfl rfl);obtain⟨z',hz,hr⟩:=mmL_ok (P:=P) ys u z u ys' h h2 ⟨by simpa using hl.1,fun k a b ha hb=>hl.2 (k+1) a b (by simpa using ha) (by simpa using hb)⟩;exact⟨z',by simp only[foldlM_cons,Sem.run_bind,h1,Result.andThen_ok,hz],hr⟩
  ·cases h
theorem del_ok{P:Program}{H H':Hp}(hR:Rel P w H β){T kt et t2 ty:TypeId}{d:TypeDesc}(hu:P.underlying T=some (.map kt et))(hd:P.underlying kt=some d)
  {m key m' key':Value} (hm:VRel β m m') (hk:VRel β key key') (h:delV P kt m key H=some H') :
  ∃w',(Builtin.delete_ #[T,t2] ty #[m',key']).run P w=.ok (.tuple #[]) w'∧Rel P w' H' β∧Ext w.heap.size w H β w' H' β:=by
 unfold delV at h;split at h
 ·rename_i hsh;split at h
  ·cases h;cases hm;have hck:=zd5 (P:=P) (β:=β) true 20 10000 kt key key' w (by omega) hsh hk;refine⟨w,?_,hR,Ext.refl _ _ _ _⟩;simp[Builtin.delete_,zan w hu,hck]
  ·rename_i i;split at h
   ·rename_i kv hg;cases hm with
    |map _ x hx=>
    obtain⟨x',hx',es,clock,h1,h2,h3⟩:=hR.maps i kv hg;rw[hx]at hx';cases hx';have hck:=zd5 (P:=P) (β:=β) es.isEmpty 20 10000 kt key key' w (by omega) hsh hk;split at h
    ·rename_i j u hf;cases h;have hfk:=zdO (w:=w) hd hk hf h2;obtain⟨_,k0,hk0,_⟩:=zil kv 0 j u hf;simp only[Nat.sub_zero]at hk0;have hjl:j<es.toList.length:=by rw[←h2.1];exact(List.getElem?_eq_some_iff.1 hk0).1
     have hjs:j<es.size:=by simpa using hjl
     have htl:(es.eraseIdxIfInBounds j).toList=es.toList.eraseIdx j:=by simp[Array.eraseIdxIfInBounds,hjs,Array.toList_eraseIdx]
     obtain⟨g1,g2⟩:=hR.setMap hg hx (kv':=kv.eraseIdx j) (es':=es.eraseIdxIfInBounds j) (clock':=clock) (by
      rw[htl];refine⟨by simp only[length_eraseIdx];rw[h2.1],fun q k2 v2 e2 hq he=>?_⟩;rw[List.getElem?_eraseIdx]at hq he;split at hq
      ·rename_i hc;rw[if_pos hc]at he;exact h2.2 q k2 v2 e2 hq he
      ·rename_i hc;rw[if_neg hc]at he;exact h2.2 _ k2 v2 e2 hq he) (by
      rw[htl];intro e he
      exact h3 e (mem_of_mem_eraseIdx he))
     refine⟨_,?_,g1,g2⟩;have he2:es.toList[j]?=some es.toList[j]:=by simp
     simp[Builtin.delete_,zan w hu,zc3 h1,hck,hfk,zfs,hjs,zfz h1]
    ·rename_i hf;cases h;have hfk:=zdO (w:=w) hd hk hf h2;have hset:H.set i (some (.map kv))=H:=by
      unfold Hp.set;have:(fun j=>if j=i then some (AObj.map kv) else H.get j)=H.get:=by
       funext j;split
       ·rename_i e;rw[e,hg]
       ·rfl
      rw[this]
     obtain⟨g1,g2⟩:=hR.setMap hg hx (kv':=kv) (es':=es) (clock':=clock) h2 h3;rw[hset]at g1 g2;refine⟨_,?_,g1,g2⟩;simp[Builtin.delete_,zan w hu,zc3 h1,hck,hfk,zfs,zfz h1]
    ·cases h
   ·cases h
  ·cases h
 ·cases h
end
end Go.AM
namespace Go.AM
open Go
section
variable {α:Type}{C:Ctx}{N:Nat}{w:World}{S:St}{β:Bt}{lam:Nat→Nat}{fr:Fr}{a:Act}{o:Oper}{k:Slot→St→Option α}{r:α}
theorem arr1{γ:Type}{A:Array γ}{x:γ}(h:A.toList=[x]):A = #[x]:=by cases A;simp at h;subst h;rfl
theorem arr2{γ:Type}{A:Array γ}{x y:γ}(h:A.toList=[x,y]):A = #[x,y]:=by cases A;simp at h;subst h;rfl
theorem lrel1{β:Bt}{x:Value}{l:List Value}(h:LRel β [x] l):∃x',l=[x']∧VRel β x x':=by
 match l,h with
 |[y],h=>exact⟨y,rfl,h.2 0 x y rfl rfl⟩
 |[],h=>cases h.1
 |_::_::_,h=>cases h.1
theorem lrel2{β:Bt}{x y:Value}{l:List Value}(h:LRel β [x,y] l):∃x' y',l=[x',y']∧VRel β x x'∧VRel β y y':=by
 match l,h with
 |[u,v],h=>exact⟨u,v,rfl,h.2 0 x u rfl rfl,h.2 1 y v rfl rfl⟩
 |[],h=>cases h.1
 |[_],h=>cases h.1
 |_::_::_::_,h=>cases h.1
theorem zqc{A:Array Operand}{f:Operand→Value}{l:List Value}(h:A.toList.map f=l):A.map f=l.toArray:=by cases A;simp at h ⊢;exact h
theorem znv{c:Call}{b:Builtin}(ho:o.op=.call c)(hc:c.callee=.builtin b)(hN:N≤w.heap.size)(h:opC C fr S o k=some r)(hR:Rel C.P w S.hp β)(hF:FRel N w S.bx β lam fr a):Step C.P N w S β lam fr a o k r:=by
 simp only[opC,ho,hc]at h;obtain⟨vs,hvs,h1⟩:=zft hR hF _ h;clear h;generalize hl:List.map a.eval c.args.toList=l at hvs;have hl':=zqc hl;split at h1
 ·rename_i x t htl;obtain⟨x',rfl,hx⟩:=lrel1 hvs;have hat:=arr1 htl;split at h1
  ·rename_i d hd;split at h1
   ·rename_i q hq;unfold pLen at h1;split at h1
    ·rename_i v hv;obtain⟨hrun,hvv⟩:=len_ok (ty:=o.type) hR hd hq hx hv;refine Step.val hR hF h1 (v':=v) ?_ hvv;simp only[execOp,ho,resolve,hc,hl',hat,Sem.run_bind,Sem.run_pure,Result.andThen_ok,invoke,builtin,hrun]
    ·cases h1
   ·cases h1
  ·cases h1
 ·rename_i s x t u htl;obtain⟨s',x',rfl,hs,hx⟩:=lrel2 hvs;have hat:=arr2 htl;obtain⟨e,i,z,hu,hi,hz,h0,hb0,hzl,_,_,h2⟩:=zfx h1;clear h1;have key:∀du,C.P.underlying u=some du→((∃q,du=.slice q)∨du=.string)→zgL (gtOf C.P C.O t) i.size i.bytes s x S.hp (fun v H=>k (.val v) ⟨S.bx,H⟩)=some r→Step C.P N w S β lam fr a o k r:=by
   intro du hdu hdu' h3;unfold zgL at h3;split at h3
   ·rename_i e' hg;have hee:e'=e:=by unfold gtOf at hg;rw[hu]at hg;dsimp only at hg;split at hg<;>cases hg;rfl
    subst hee;unfold zbN at h3;split at h3
    ·rename_i v H' hap;obtain⟨v',w',β',hrun,g1,g2,g3,g4⟩:=zni (ty:=o.type) hR hu hi hz h0 hb0 hzl hdu hdu' hs hx hap;have hrun':(execOp a.eval o).run C.P w=.ok (.value v') w':=by simp only[execOp,ho,resolve,hc,hl',hat,Sem.run_bind,Sem.run_pure,Result.andThen_ok,invoke,builtin,hrun]
     unfold zqb at h3;split at h3
     ·rename_i hm;rw[Bool.and_eq_true]at hm;exact Step.heap (v':=v') hN hR hF h3 (.inl hrun') (g1.mark (g4 (Nat.eq_of_beq_eq_true hm.1) hm.2)) (g2.mark _ _) g3
     ·exact Step.heap (v':=v') hN hR hF h3 (.inl hrun') g1 g2 g3
    ·cases h3
   ·unfold zaJ at h3;split at h3
    ·rename_i v H' hap;obtain⟨v',w',β',hrun,g1,g2,g3,g4⟩:=zni (ty:=o.type) hR hu hi hz h0 hb0 hzl hdu hdu' hs hx hap;refine Step.heap (v':=v') hN hR hF h3 (.inl ?_) g1 g2 g3;simp only[execOp,ho,resolve,hc,hl',hat,Sem.run_bind,Sem.run_pure,Result.andThen_ok,invoke,builtin,hrun]
    ·cases h3
  split at h2
  ·rename_i q hq;exact key _ hq (.inl ⟨q,rfl⟩) h2
  ·rename_i hq;exact key _ hq (.inr rfl) h2
  ·cases h2
 ·rename_i s x t u htl;obtain⟨s',x',rfl,hs,hx⟩:=lrel2 hvs;have hat:=arr2 htl;obtain⟨e,i,z,hu,hi,hz,h0,hb0,hzl,_,_,h2⟩:=zfx h1;clear h1;unfold pCopy at h2;split at h2
  ·rename_i v H' hap;obtain⟨w',hrun,g1,g2,g3⟩:=copy_ok (u:=u) (ty:=o.type) hR hu hi hs hx hap;refine Step.heap (v':=v) hN hR hF h2 (.inl ?_) g1 g2 g3;simp only[execOp,ho,resolve,hc,hl',hat,Sem.run_bind,Sem.run_pure,Result.andThen_ok,invoke,builtin,hrun]
  ·cases h2
 ·unfold pMM at h1;split at h1
  ·cases h1
  ·rename_i x rest;split at h1
   ·rename_i v hv
    match l,hvs with
    |x'::rest',hvs=>
    obtain⟨z',hrun,hr⟩:=mmL_ok (P:=C.P) (w:=w) rest x v x' rest' hv (hvs.2 0 _ _ rfl rfl) ⟨by simpa using hvs.1,fun k a b ha hb=>hvs.2 (k+1) a b (by simpa using ha) (by simpa using hb)⟩;simp only[if_true]at hrun;refine Step.val hR hF h1 (v':=z') ?_ hr;simp only[execOp,ho,resolve,hc,hl',Sem.run_bind,Sem.run_pure,Result.andThen_ok,invoke,builtin,Builtin.max_,hrun]
   ·cases h1
 ·unfold pMM at h1;split at h1
  ·cases h1
  ·rename_i x rest;split at h1
   ·rename_i v hv
    match l,hvs with
    |x'::rest',hvs=>
    obtain⟨z',hrun,hr⟩:=mmL_ok (P:=C.P) (w:=w) rest x v x' rest' hv (hvs.2 0 _ _ rfl rfl) ⟨by simpa using hvs.1,fun k a b ha hb=>hvs.2 (k+1) a b (by simpa using ha) (by simpa using hb)⟩;simp only[Bool.false_eq_true,if_false]at hrun;refine Step.val hR hF h1 (v':=z') ?_ hr;simp only[execOp,ho,resolve,hc,hl',Sem.run_bind,Sem.run_pure,Result.andThen_ok,invoke,builtin,Builtin.min_,hrun]
   ·cases h1
 ·rename_i m key T t2 htl;obtain⟨m',key',rfl,hm,hk⟩:=lrel2 hvs;have hat:=arr2 htl;obtain⟨kt,et,d,i,z,hu,hd,hi,hz,hzc,h2⟩:=zih h1;clear h1;unfold pDel at h2;split at h2
  ·rename_i H' hdel;obtain⟨w',hrun,g1,g2⟩:=del_ok (t2:=t2) (ty:=o.type) hR hu hd hm hk hdel;refine Step.heap (v':=.tuple #[]) hN hR hF h2 (.inl ?_) g1 g2 (zch.2 ⟨_,rfl,LRel.nil _⟩);simp only[execOp,ho,resolve,hc,hl',hat,Sem.run_bind,Sem.run_pure,Result.andThen_ok,invoke,builtin,hrun]
  ·cases h2
 ·cases h1
theorem sim_range{T:TypeId}{x:Operand}(ho:o.op=.range T x)(hN:N≤w.heap.size)(h:opC C fr S o k=some r)(hR:Rel C.P w S.hp β)(hF:FRel N w S.bx β lam fr a):Step C.P N w S β lam fr a o k r:=by
 simp only[opC,ho]at h;obtain⟨v,hv,h1⟩:=za2 hR hF h;clear h;split at h1
 ·rename_i d hT hd;split at h1
  ·cases h1
  ·rename_i hb;unfold zjX at h1;split at h1
   ·rename_i s;generalize hq:a.eval x=q at hv;cases hv;obtain⟨g1,g2,g3,g4⟩:=new_box hN hR hF hb (.iter s 0) (.stringIter s 0) (fun w' hw'=>hw');refine⟨_,_,w.alloc (.stringIter s 0),.pointer (some ⟨w.heap.size,0,none⟩),β,_,h1,.inl ?_,g1,g2,⟨by simp[St.setB],by rw[g4]⟩,g3,BMv.new hb⟩;simp only[execOp,ho,hq,Instr.range,Sem.run_bind,zan w hT,Result.andThen_ok,Sem.run_pure,run_newObj,World.alloc]
   ·cases h1
 ·cases h1
theorem sim_next{x:Operand}(ho:o.op=.next x true)(hN:N≤w.heap.size)(h:opC C fr S o k=some r)(hR:Rel C.P w S.hp β)(hF:FRel N w S.bx β lam fr a):Step C.P N w S β lam fr a o k r:=by
 simp only[opC,ho]at h;have hx:=zeQ hR hF x;split at h
 ·rename_i d he;rw[he]at hx;have hx:a.eval x=.pointer (some ⟨lam d,0,none⟩):=hx.2;split at h
  ·rename_i s pos hb;obtain⟨b1,b2,b3,b4⟩:=hF.box d _ hb;have b4:w.heap[lam d]?=some (.stringIter s pos):=b4;unfold br at h;split at h
   ·rename_i hlt;have hlt:pos<s.size:=Nat.le_of_ble_eq_true hlt;have hrun:(execOp a.eval o).run C.P w=.ok (.value (.tuple #[.bool true,.int .i64 pos,.int .i32 (Utf8.decode s pos).1])) (World.setObj w (lam d) (.stringIter s (pos+(Utf8.decode s pos).2))):=by simp only[execOp,ho,hx,Instr.next,getObj,Go.setObj,Sem.run_bind,Sem.run_pure,Result.andThen_ok];simp[Sem.run,b4,hlt,World.setObj,goInt]
    have hoth:∀j,j≠lam d→(World.setObj w (lam d) (.stringIter s (pos+(Utf8.decode s pos).2))).heap[j]?=w.heap[j]?:=fun j hj=>zd7 hj;have hsz:(World.setObj w (lam d) (.stringIter s (pos+(Utf8.decode s pos).2))).heap.size=w.heap.size:=by simp[World.setObj]
    refine⟨_,_,_,_,β,lam,h,.inl hrun,hR.frame (by rw[hsz];exact Nat.le_refl _) (fun i x hx=>hoth _ (b3 i x hx)),⟨hF.size,fun q s hs=>(hF.slot q s hs).bx (fun q hq=>zmc hb (q:=q) rfl q hq),fun q c hq=>?_,fun q q' h1 h2 hne=>?_⟩,
     zch.2 ⟨_,rfl,LRel.cons (.bool _) (LRel.cons (.int _ _) (LRel.cons (.int _ _) (LRel.nil _)))⟩,
     ⟨rfl,rfl,rfl,by rw[hsz];exact Nat.le_refl _,Bt.le_refl _,Nat.le_refl _,fun b hb' _=>hoth b (by omega),fun b q=>.inr q,fun i x hx hn=>by rw[hn]at hx;cases hx⟩,BMv.set (by rw[hb];exact⟨_,_,rfl⟩)⟩
    ·simp only[St.setB]at hq;split at hq
     ·rename_i e;subst e;cases hq;exact⟨b1,by rw[hsz];exact b2,b3,zix b2⟩
     ·rename_i e;obtain⟨c1,c2,c3,c4⟩:=hF.box q c hq;have hne:lam q≠lam d:=hF.apart q d (by simp[hq]) (by simp[hb]) e;exact⟨c1,by rw[hsz];exact c2,c3,c4.mono (Bt.le_refl _) (hoth _ hne)⟩
    ·simp only[St.setB]at h1 h2;refine hF.apart q q' ?_ ?_ hne
     ·split at h1
      ·rename_i e;rw[e];simp[hb]
      ·exact h1
     ·split at h2
      ·rename_i e;rw[e];simp[hb]
      ·exact h2
   ·rename_i hlt;have hlt:¬pos<s.size:=Nat.not_le_of_not_ble_eq_true (by unfold Nat.blt at hlt;rw[hlt];exact Bool.false_ne_true);have hrun:(execOp a.eval o).run C.P w=.ok (.value (.tuple #[.bool false])) w:=by simp only[execOp,ho,hx,Instr.next,getObj,Sem.run_bind,Sem.run_pure,Result.andThen_ok];simp[Sem.run,b4,hlt]
    exact Step.val hR hF h hrun (zch.2 ⟨_,rfl,LRel.cons (.bool _) (LRel.nil _)⟩)
  ·cases h
 ·cases h
end
def zno(P:Program)(f:FuncId):Prop:=∃fn,P.funcs[f]?=some fn∧(fn.name == "runtime.NumGoroutine")=false∧fn.body.isNone=false
def XT(P:Program)(f:FuncId)(args:List Value)(v:Value):Prop:=∀args' β w,LRel β args args'→∃v',VRel β v v'∧(callFunc f args'.toArray).run P w=.ok (.value v') w
def XtC(P:Program)(xt:FuncId→Option (List Value→Option Value)):Prop:=∀f e,xt f=some e→∀args v,e args=some v→XT P f args v
def Ends(P:Program)(pan:Bool)(w:World)(H:Hp)(β:Bt)(v:Value)(H':Hp)(e:Ending)(w':World):Prop:=
 match pan with
 |false=>∃v' β',e=.returned v'∧Rel P w' H' β'∧Ext w.heap.size w H β w' H' β'∧VRel β' v v'
 |true=>∃v' β',Rel P w' H' β'∧Ext w.heap.size w H β w' H' β'∧((∃u,v=W1 u∧e=.returned v'∧VRel β' u v')∨(∃x,v=W0 x∧e=.panicked [{ v:=v',recovered:=false }]∧VRel β' x v'))
def SimC(P:Program)(O:Orc)(h:zag):Prop:=∀f args H v H',h f args H=some (v,H')→(zno P f∧∀args' w β,LRel β args args'→Rel P w H β →
 Calls P f args'.toArray w (Ends P (O.pan f) w H β v H'))∨(O.pan f=false∧H'=H∧(∃fn,P.funcs[f]?=some fn∧fn.body=none)∧XT P f args v)
theorem zh7{α:Type}{v:Value}{k kp:Value→Option α}{r:α}(h:zfj v k kp=some r):(∃u,v=W1 u∧k u=some r)∨(∃x,v=W0 x∧kp x=some r):=by
 unfold zfj at h;split at h
 ·exact .inl ⟨_,rfl,h⟩
 ·exact .inr ⟨_,rfl,h⟩
 ·cases h
theorem zfw{P:Program}{f:FuncId}(h:zno P f)(args:Array Value)(w:World):(callFunc f args).run P w=.ok (.enter f args) w:=by
 obtain⟨fn,h1,h2,h3⟩:=h;simp only[callFunc,Sem.run_bind];show ((Sem.program Sem.pure:Sem Program).run P w).andThen _=_;have h2a:¬fn.name = "runtime.NumGoroutine" := by simpa using h2
 have h3a:¬fn.body=none:=by intro e;rw[e]at h3;cases h3
 simp[Sem.run,h1,h2a,h3a]
section
variable {α:Type}{C:Ctx}{N:Nat}{w:World}{S:St}{β:Bt}{lam:Nat→Nat}{fr:Fr}{a:Act}{o:Oper}{k:Slot→St→Option α}{r:α}
theorem Step.wp(h:Step C.P N w S β lam fr a o k r)(hN:N≤w.heap.size){next:Act→World→Prop}{Q:Exit→Act→World→Prop}
  (hnext:∀s S' w' v' β' lam',k s S'=some r→Rel C.P w' S'.hp β'→FRel N w' S'.bx β' lam' fr a→SRel β' lam' S'.bx s v'→Ext N w S.hp β w' S'.hp β'→BMv S.bx lam S'.bx lam'→next (a.put o.dst v') w'):o.wp C.P a w next Q:=by
 obtain⟨s,S',w',v',β',lam',h1,h2,h3,h4,h5,h6,h7⟩:=h;have:=hnext s S' w' v' β' lam' h1 h3 h4 h5 h6 h7;unfold Oper.wp;rcases h2 with h2|⟨h2,rfl⟩
 ·rw[h2];exact this
 ·rw[h2];exact this
theorem zqq(hh:SimC C.P C.O C.h){c:Call}{fo:Operand}(ho:o.op=.call c)(hc:c.callee=.value fo)(hN:N≤w.heap.size)(h:opC C fr S o k=some r)(hR:Rel C.P w S.hp β)(hF:FRel N w S.bx β lam fr a)
  {next:Act→World→Prop} {Q:Exit→Act→World→Prop}
  (hnext:∀s S' w' v' β' lam',k s S'=some r→Rel C.P w' S'.hp β'→FRel N w' S'.bx β' lam' fr a→SRel β' lam' S'.bx s v'→Ext N w S.hp β w' S'.hp β'→BMv S.bx lam S'.bx lam'→next (a.put o.dst v') w'):o.wp C.P a w next Q:=by
 simp only[opC,ho,hc]at h;obtain⟨fv,hfv,h1⟩:=za2 hR hF h;clear h;obtain⟨vs,hvs,h2⟩:=zft hR hF _ h1;clear h1;have hrunE:∀(g:FuncId) (fs' cs':List Value),a.eval fo=.func (.func g) fs'.toArray cs'.toArray→zno C.P g→(execOp a.eval o).run C.P w=.ok (.enter g (fs'++(List.map a.eval c.args.toList++cs')).toArray) w:=by intro g fs' cs' hq hen;simp only[execOp,ho,resolve,hc,hq,Deferred.ofValue,Sem.run_bind,Sem.run_pure,Result.andThen_ok,invoke,zfw hen];congr 2;apply Array.ext';simp
 unfold zdI at h2;split at h2
 ·rename_i g first captured;generalize hq:a.eval fo=q at hfv;obtain⟨first⟩:=first;obtain⟨captured⟩:=captured;cases hfv with
  |func fn fs fs' cs cs' hl hh1 hl2 hh2=>
  have hargs:LRel β (first++(vs++captured)) (fs'++(List.map a.eval c.args.toList++cs')):=
   LRel.append ⟨hl,hh1⟩ (LRel.append hvs ⟨hl2,hh2⟩)
  split at h2
  ·rename_i hpan;unfold zad at h2;split at h2
   ·rename_i v H' hcall;rcases hh _ _ _ _ _ hcall with⟨hen,hcalls⟩|⟨_,rfl,_,hxt⟩
    case inr=>
     obtain⟨v',hv',hcf⟩:=hxt _ β w hargs;have hrun:(execOp a.eval o).run C.P w=.ok (.value v') w:=by
      have e1:(fs'.toArray++(Array.map a.eval c.args)++cs'.toArray)=(fs'++(List.map a.eval c.args.toList++cs')).toArray:=by apply Array.ext';simp
      simp only[execOp,ho,resolve,hc,hq,Deferred.ofValue,Sem.run_bind,Sem.run_pure,Result.andThen_ok,invoke]
      first|exact hcf | (rw[e1];exact hcf) | (simpa using hcf)
     unfold Oper.wp;rw[hrun];exact hnext (.val v) ⟨S.bx,S.hp⟩ w v' β lam h2 hR hF hv' (Ext.refl _ _ _ _) (BMv.refl _ _)
    have:=hcalls _ w β hargs hR;unfold Oper.wp;rw[hrunE g fs' cs' hq hen];refine Calls.mono this fun e w' he=>?_;unfold Ends at he;rw[hpan]at he;obtain⟨v',β',rfl,g1,g2,g3⟩:=he;exact hnext (.val v) ⟨S.bx,H'⟩ w' v' β' lam h2 g1 (hF.ext hR.has g2) g3 (g2.weaken hN) (BMv.refl _ _)
   ·cases h2
  ·rename_i hpan;unfold zeH at h2;split at h2
   ·rename_i v H' hcall;obtain⟨u,rfl,h3⟩|⟨_,_,h3⟩:=zh7 h2
    ·rcases hh _ _ _ _ _ hcall with⟨hen,hcalls⟩|⟨q,_⟩
     ·have:=hcalls _ w β hargs hR;unfold Oper.wp;rw[hrunE g fs' cs' hq hen];refine Calls.mono this fun e w' he=>?_;unfold Ends at he;rw[hpan]at he;obtain⟨v',β',g1,g2,⟨u',q1,rfl,g3⟩|⟨x,q1,_⟩⟩:=he
      ·cases q1;exact hnext (.val u) ⟨S.bx,H'⟩ w' v' β' lam h3 g1 (hF.ext hR.has g2) g3 (g2.weaken hN) (BMv.refl _ _)
      ·cases q1
     ·rw[hpan]at q;cases q
    ·cases h3
   ·cases h2
 ·cases h2
theorem zmG(hh:SimC C.P C.O C.h)(hN:N≤w.heap.size){kp:Value→Hp→Option α}(h:opW C fr S o kp k=some r)(hp:panS C o=true)(hR:Rel C.P w S.hp β)(hF:FRel N w S.bx β lam fr a)
  {next:Act→World→Prop} {Q:Exit→Act→World→Prop}
  (hpan:∀x H' w' β' x',kp x H'=some r→Rel C.P w' H' β'→FRel N w' S.bx β' lam fr a→VRel β' x x'→Ext N w S.hp β w' H' β'→Q (.panic [{ v:=x',recovered:=false }]) a w')
  (hnext:∀s S' w' v' β' lam',k s S'=some r→Rel C.P w' S'.hp β'→FRel N w' S'.bx β' lam' fr a→SRel β' lam' S'.bx s v'→Ext N w S.hp β w' S'.hp β'→BMv S.bx lam S'.bx lam'→next (a.put o.dst v') w'):o.wp C.P a w next Q:=by
 unfold opW at h;split at h
 ·rename_i c ho;split at h
  ·rename_i g hc;obtain⟨vs,hvs,h2⟩:=zft hR hF _ h;have hpg:C.O.pan g=true:=by unfold panS at hp;rw[ho]at hp;dsimp only at hp;rw[hc]at hp;exact hp
   unfold zbh at h2;split at h2
   ·rename_i v H' hcall;rcases hh _ _ _ _ _ hcall with⟨hen,hcalls⟩|⟨q,_⟩
    ·have hrun:(execOp a.eval o).run C.P w=.ok (.enter g (List.map a.eval c.args.toList).toArray) w:=by simp only[execOp,ho,resolve,hc,Act.eval,Deferred.ofValue,Sem.run_bind,Sem.run_pure,Result.andThen_ok,invoke,zfw hen];congr 2;apply Array.ext';simp
     unfold Oper.wp;rw[hrun];refine Calls.mono (hcalls _ w β hvs hR) fun e w' he=>?_;unfold Ends at he;rw[hpg]at he;obtain⟨v',β',g1,g2,⟨u',q1,rfl,g3⟩|⟨x,q1,rfl,g3⟩⟩:=he
     ·subst q1;rcases zh7 h2 with⟨u,e1,h3⟩|⟨_,e1,_⟩
      ·cases e1;exact hnext (.val u') ⟨S.bx,H'⟩ w' v' β' lam h3 g1 (hF.ext hR.has g2) g3 (g2.weaken hN) (BMv.refl _ _)
      ·cases e1
     ·subst q1;rcases zh7 h2 with⟨u,e1,_⟩|⟨y,e1,h3⟩
      ·cases e1
      ·cases e1;exact hpan x H' w' β' v' h3 g1 (hF.ext hR.has g2) g3 (g2.weaken hN)
    ·rw[hpg]at q;cases q
   ·cases h2
  ·cases h
 ·rename_i x ho;obtain⟨v,hv,h1⟩:=za2 hR hF h;unfold zmC at h1;split at h1
  ·rename_i T u;generalize hq:a.eval x=q at hv;cases hv with
   |iface _ _ u' hu=>
   have hrun:(execOp a.eval o).run C.P w=.halt (.panic (.iface T u')) w:=by simp only[execOp,ho,hq];rfl
   unfold Oper.wp;rw[hrun];exact hpan (.iface T u) S.hp w β (.iface T u') h1 hR hF (.iface _ _ _ hu) (Ext.refl _ _ _ _)
  ·cases h1
 ·cases h
theorem zhe{T:TypeId}{x:Operand}(ho:o.op=.makeInterface T x)(h:opC C fr S o k=some r)(hR:Rel C.P w S.hp β)(hF:FRel N w S.bx β lam fr a):Step C.P N w S β lam fr a o k r:=by
 simp only[opC,ho]at h;obtain⟨v,hv,h⟩:=za2 hR hF h;unfold zmU at h;split at h
 ·cases h
 ·rename_i d hne hu;refine Step.val hR hF h (v':=.iface T (a.eval x)) ?_ (.iface _ _ _ hv);simp only[execOp,ho,Instr.makeInterface,Sem.run_bind,zan w hu,Result.andThen_ok];cases d<;>first|rfl|exact absurd rfl (hne _)
 ·cases h
theorem zjS{T T':TypeId}{x:Operand}{ok:Bool}(ho:o.op=.typeAssert x T' T ok)(h:opC C fr S o k=some r)(hR:Rel C.P w S.hp β)(hF:FRel N w S.bx β lam fr a):Step C.P N w S β lam fr a o k r:=by
 simp only[opC,ho]at h;obtain⟨v,hv,h1⟩:=za2 hR hF h;clear h;unfold zgi at h1;split at h1
 ·cases h1
 ·rename_i d hne hu;split at h1
  ·rename_i t u;split at h1
   ·rename_i ht;have ht:t=T:=Nat.eq_of_beq_eq_true ht;subst ht;generalize hq:a.eval x=q at hv;cases hv with
    |iface _ _ u' hu'=>
    have hrun:(Instr.typeAssert (.iface t u') T' t ok).run C.P w=.ok (if ok then .tuple #[u',.bool true] else u') w:=by unfold Instr.typeAssert;simp only[Sem.run_bind,zan w hu,Result.andThen_ok];cases d<;>first | (exact absurd rfl (hne _)) | (simp)
    cases ok with
    |true=>
     refine Step.val hR hF h1 (v':=.tuple #[u',.bool true]) ?_ (zch.2 ⟨_,rfl,(LRel.nil _).cons (.bool true) |>.cons hu'⟩);simp only[execOp,ho,hq,Sem.run_bind,hrun];rfl
    |false=>
     refine Step.val hR hF h1 (v':=u') ?_ hu';simp only[execOp,ho,hq,Sem.run_bind,hrun];rfl
   ·cases h1
  ·cases h1
 ·cases h1
theorem zig(hh:SimC C.P C.O C.h)(hN:N≤w.heap.size)(h:opC C fr S o k=some r)(hR:Rel C.P w S.hp β)(hF:FRel N w S.bx β lam fr a)
  {next:Act→World→Prop} {Q:Exit→Act→World→Prop}
  (hnext:∀s S' w' v' β' lam',k s S'=some r→Rel C.P w' S'.hp β'→FRel N w' S'.bx β' lam' fr a→SRel β' lam' S'.bx s v'→Ext N w S.hp β w' S'.hp β'→BMv S.bx lam S'.bx lam'→next (a.put o.dst v') w'):o.wp C.P a w next Q:=by
 have none_of:∀{x:Option α},x=none→x=some r→False:=fun h1 h2=>by rw[h1]at h2;cases h2
 cases ho:o.op with
 |move x=>exact(zoJ (.inl ho) h hR hF).wp hN hnext
 |assign x=>exact(zoJ (.inr ho) h hR hF).wp hN hnext
 |pick c x y=>exact(sim_pick ho h hR hF).wp hN hnext
 |alloc T=>exact(sim_alloc ho hN h hR hF).wp hN hnext
 |box T x=>exact(sim_box ho hN h hR hF).wp hN hnext
 |build T p=>exact(sim_build ho h hR hF).wp hN hnext
 |buildSlice T n p=>exact(zjT ho hN h hR hF).wp hN hnext
 |insert T m x y=>exact(zgz (.inr ho) hN h hR hF).wp hN hnext
 |load T x=>exact(sim_load ho h hR hF).wp hN hnext
 |store T x y=>exact(sim_store ho hN h hR hF).wp hN hnext
 |nilCheck x=>exact(sim_nil ho h hR hF).wp hN hnext
 |binOp op T x y T'=>exact(sim_binOp ho h hR hF).wp hN hnext
 |unOp op T x=>exact(sim_unOp ho h hR hF).wp hN hnext
 |convert s d x=>exact(znu ho hN h hR hF).wp hN hnext
 |makeFunc f p q=>exact(zma ho h hR hF).wp hN hnext
 |makeMap T x=>
  cases x with
  |none=>exact(zns ho hN h hR hF).wp hN hnext
  |some x=>exact(zl9 ho hN h hR hF).wp hN hnext
 |makeSlice T l c=>exact(zk8 ho hN h hR hF).wp hN hnext
 |slice T x lo hi mx=>
  cases mx with
  |none=>exact(sim_slice ho h hR hF).wp hN hnext
  |some m=>simp[opC,ho]at h
 |fieldAddr T x f=>exact(zla ho h hR hF).wp hN hnext
 |field T x f=>exact(sim_field ho h hR hF).wp hN hnext
 |indexAddr T x i=>exact(zk9 ho h hR hF).wp hN hnext
 |index T x i=>exact(sim_index ho h hR hF).wp hN hnext
 |lookup T x i ok=>exact(zpR ho h hR hF).wp hN hnext
 |mapUpdate T m x y=>exact(zgz (.inl ho) hN h hR hF).wp hN hnext
 |range T x=>exact(sim_range ho hN h hR hF).wp hN hnext
 |next x b=>
  cases b with
  |true=>exact(sim_next ho hN h hR hF).wp hN hnext
  |false=>simp[opC,ho]at h
 |extract t i=>exact(znt ho h hR hF).wp hN hnext
 |makeInterface T x=>exact(zhe ho h hR hF).wp hN hnext
 |typeAssert x T' T ok=>exact(zjS ho h hR hF).wp hN hnext
 |call c=>
  cases hc:c.callee with
  |value fo=>exact zqq hh ho hc hN h hR hF hnext
  |invoke x m=>simp[opC,ho,hc]at h
  |builtin b=>exact(znv ho hc hN h hR hF).wp hN hnext
 |_=>simp[opC,ho]at h
theorem FRel.put(hF:FRel N w S.bx β lam fr a){s:Slot}{v:Value}(hs:SRel β lam S.bx s v)(d:Option Tmp):FRel N w S.bx β lam (putS fr d s) (a.put d v):=by
 cases d with
 |none=>exact hF
 |some d=>
  refine⟨by simp[Act.put,putS,hF.size],fun e s' he=>?_,hF.box,hF.apart⟩;simp only[putS,List.getElem?_set]at he;simp only[Act.put,Array.getD_eq_getD_getElem?,Array.getElem?_setIfInBounds];by_cases hed:d=e
  ·subst hed;rw[if_pos rfl]at he ⊢;split at he
   ·rename_i hlt;cases he;rw[if_pos (by rw[hF.size];exact hlt)];exact hs
   ·cases he
  ·rw[if_neg hed]at he ⊢;have:=hF.slot e s' he;rw[Array.getD_eq_getD_getElem?]at this;exact this
end
end Go.AM
namespace Go.AM
open List Go
structure Good(P:Program)(w0:World)(H0:Hp)(β0:Bt)(fr:Fr)(S:St)(a:Act)(w:World)(β:Bt)(lam:Nat→Nat):Prop where
 rel:Rel P w S.hp β
 fr:FRel w0.heap.size w S.bx β lam fr a
 ext:Ext w0.heap.size w0 H0 β0 w S.hp β
structure zb7(W:List Nat)(S:St)(a:Act)(β:Bt)(lam:Nat→Nat)(S':St)(a':Act)(β':Bt)(lam':Nat→Nat):Prop where
 tmps:∀d,d∉W→a'.tmps.getD d undef=a.tmps.getD d undef
 size:a'.tmps.size=a.tmps.size
 bx:BMv S.bx lam S'.bx lam'
 le:β.le β'
 dfr:a'.defers=a.defers
theorem zb7.refl(W:List Nat)(S:St)(a:Act)(β:Bt)(lam:Nat→Nat):zb7 W S a β lam S a β lam:=⟨fun _ _=>rfl,rfl,BMv.refl _ _,Bt.le_refl _,rfl⟩
theorem zb7.trans{W W1 W2:List Nat}{S1 S2 S3:St}{a1 a2 a3:Act}{β1 β2 β3:Bt}{l1 l2 l3:Nat→Nat}(h:zb7 W1 S1 a1 β1 l1 S2 a2 β2 l2)(k:zb7 W2 S2 a2 β2 l2 S3 a3 β3 l3)
  (h1:∀d,d∉W→d∉W1) (h2:∀d,d∉W→d∉W2):zb7 W S1 a1 β1 l1 S3 a3 β3 l3:=
 ⟨fun d hd=>(k.tmps d (h2 d hd)).trans (h.tmps d (h1 d hd)),k.size.trans h.size,h.bx.trans k.bx,Bt.le_trans h.le k.le,k.dfr.trans h.dfr⟩
theorem zb7.put{W:List Nat}{S1 S2 S3:St}{a1 a2:Act}{β1 β2 β3:Bt}{l1 l2 l3:Nat→Nat}(h:zb7 W S1 a1 β1 l1 S2 a2 β2 l2){d:Option Tmp}(hd:∀e,d=some e→e∈W)(v:Value)
  (hb:BMv S2.bx l2 S3.bx l3) (hl:β2.le β3):zb7 W S1 a1 β1 l1 S3 (a2.put d v) β3 l3:=by
 refine⟨fun e he=>?_,?_,h.bx.trans hb,Bt.le_trans h.le hl,by rw[←h.dfr];cases d<;>rfl⟩
 ·rw[←h.tmps e he];cases d with
  |none=>rfl
  |some d=>
   have hne:d≠e:=fun q=>he (q▸hd d rfl);simp[Act.put,Array.getD_eq_getD_getElem?,Array.getElem?_setIfInBounds_ne hne]
 ·rw[←h.size];cases d<;>simp[Act.put]
structure Kept(W:List Nat)(a:Act)(β:Bt)(a':Act)(β':Bt):Prop where
 tmps:∀d,d∉W→a'.tmps.getD d undef=a.tmps.getD d undef
 size:a'.tmps.size=a.tmps.size
 le:β.le β'
 dfr:a'.defers=a.defers
theorem zb7.kept{W:List Nat}{S S':St}{a a':Act}{β β':Bt}{l l':Nat→Nat}(h:zb7 W S a β l S' a' β' l'):Kept W a β a' β':=⟨h.tmps,h.size,h.le,h.dfr⟩
theorem Kept.trans{W W1 W2:List Nat}{a1 a2 a3:Act}{β1 β2 β3:Bt}(h:Kept W1 a1 β1 a2 β2)(k:Kept W2 a2 β2 a3 β3)(h1:∀d,d∉W→d∉W1)(h2:∀d,d∉W→d∉W2):Kept W a1 β1 a3 β3:=
 ⟨fun d hd=>(k.tmps d (h2 d hd)).trans (h.tmps d (h1 d hd)),k.size.trans h.size,Bt.le_trans h.le k.le,k.dfr.trans h.dfr⟩
theorem Good.n{P:Program}{w0:World}{H0:Hp}{β0:Bt}{fr:Fr}{S:St}{a:Act}{w:World}{β:Bt}{lam:Nat→Nat}(h:Good P w0 H0 β0 fr S a w β lam):w0.heap.size≤w.heap.size:=h.ext.size
section
variable {α:Type}{C:Ctx}{w0:World}{H0:Hp}{β0:Bt}{r:α}
theorem zgm{N:Nat}{w:World}{bx:Nat→Option Bx}{β:Bt}{lam:Nat→Nat}{fr:Fr}{a:Act}{ops:List Oper}{o:Oper}{k:Bool→Fr→Option α}(h:zen ops fr o k=some r)(hF:FRel N w bx β lam fr a) :
  ∃b fr',k b fr'=some r∧FRel N w bx β lam fr' a∧Region.wanted o (yielded ops.toArray a.tmps)=b:=by
 unfold zen at h;split at h
 ·rename_i hg;exact⟨true,fr,h,hF,by simp[Region.wanted,hg]⟩
 ·rename_i j want hg;split at h
  ·rename_i g hj;split at h
   ·rename_i d hd;have hin:∀s,getS fr d=s→s≠.unk→fr[d]?=some s∧d<a.tmps.size:=fun s hs hn=>by
     unfold getS at hs;rw[getD_eq_getElem?_getD]at hs;cases hq:fr[d]? with
     |none=>rw[hq]at hs;exact absurd hs.symm hn
     |some s'=>rw[hq]at hs;exact⟨by rw[←hs];rfl,by rw[hF.size];exact(List.getElem?_eq_some_iff.1 hq).1⟩
    have hy:∀v,d<a.tmps.size→a.tmps.getD d undef=v→yielded ops.toArray a.tmps j=match v with | .bool b=>some b|_=>none:=fun v hlt hv=>by
     have hv':a.tmps[d]?=some v:=by rw[Array.getD_eq_getD_getElem?]at hv;simp[hlt]at hv ⊢;exact hv
     unfold yielded;simp only[List.getElem?_toArray,hj,Option.bind_some,hd,hv'];cases v<;>rfl
    split at h
    ·rename_i hu;obtain⟨h1,h2⟩:=hin _ hu (by simp);have h3:a.tmps.getD d undef=undef:=hF.slot d _ h1;refine⟨false,fr,h,hF,?_⟩;simp only[Region.wanted,hg,hy _ h2 h3];rfl
    ·obtain⟨v,hv,h⟩:=sV_inv h;unfold zaa at h;split at h
     ·rename_i b;obtain⟨h1,h2⟩:=hin _ hv (by simp);have h3:VRel β (.bool b) (a.tmps.getD d undef):=hF.slot d _ h1;generalize hq:a.tmps.getD d undef=q at h3;cases h3;have hw:Region.wanted o (yielded ops.toArray a.tmps)=(b==want):=by simp only[Region.wanted,hg,hy _ h2 hq];cases b<;>cases want<;>rfl
      have hfr:FRel N w bx β lam (fr.set d (.val (.bool b))) a:=by
       refine⟨by simp[hF.size],fun e s' he=>?_,hF.box,hF.apart⟩;rw[List.getElem?_set]at he;by_cases hed:d=e
       ·subst hed;rw[if_pos rfl]at he;split at he
        ·cases he;rw[hq];exact VRel.bool b
        ·cases he
       ·rw[if_neg hed]at he;exact hF.slot e s' he
      unfold br at h;cases b with
      |true=>exact⟨want,_,h,hfr,by rw[hw];cases want<;>rfl⟩
      |false=>exact⟨!want,_,h,hfr,by rw[hw];cases want<;>rfl⟩
     ·cases h
   ·cases h
  ·cases h
theorem zfF(hh:SimC C.P C.O C.h){ops:List Oper}{kp:Value→Hp→Option α}{k:Fr→St→Option α}{Q:Exit→Act→World→Prop}{W:List Nat}{S1:St}{a1:Act}{β1:Bt}{l1:Nat→Nat}
  (hW:∀o∈ops,∀d,o.dst=some d→d∈W)
  (hk:∀fr S a w β lam,k fr S=some r→Good C.P w0 H0 β0 fr S a w β lam→zb7 W S1 a1 β1 l1 S a β lam→Q .normal a w)
  (hkp:C.O.pan C.f=true→∀x fr S a w β lam x',kp x S.hp=some r→Good C.P w0 H0 β0 fr S a w β lam→Kept W a1 β1 a β→VRel β x x'→Q (.panic [{ v:=x',recovered:=false }]) a w) :
  ∀(rest:List Oper) (n:Nat) (fr:Fr) (S:St) (a:Act) (w:World) (β:Bt) (lam:Nat→Nat),ops.drop n=rest→opsC C ops kp k rest fr S=some r→Good C.P w0 H0 β0 fr S a w β lam→zb7 W S1 a1 β1 l1 S a β lam →
   wpOps C.P ops.toArray Q (List.range' n rest.length) a w
 |[],n,fr,S,a,w,β,lam,hd,h,hG,hM=>by
  simp only[length_nil,List.range'_zero,wpOps];exact hk fr S a w β lam h hG hM
 |o::rest,n,fr,S,a,w,β,lam,hd,h,hG,hM=>by
  have hn:ops[n]?=some o:=by
   have:(ops.drop n)[0]?=some o:=by rw[hd];rfl
   rw[List.getElem?_drop]at this;simpa using this
  have hd':ops.drop (n+1)=rest:=by rw[←drop_drop,hd];rfl
  have hWo:=hW o (mem_of_getElem? hn);simp only[opsC]at h;obtain⟨b,fr',h1,hF',hw⟩:=zgm h hG.fr;simp only[length_cons,List.range'_succ,wpOps,List.getElem?_toArray,hn,hw];cases b with
  |true=>
   simp only[if_true]
   have h1:(match C.O.pan C.f&&panS C o with
    |false=>opC C fr' S o fun s S'=>opsC C ops kp k rest (putS fr' o.dst s) S'
    |true=>opW C fr' S o kp fun s S'=>opsC C ops kp k rest (putS fr' o.dst s) S')=some r:=h1
   split at h1
   ·refine .inl (zig hh hG.n h1 hG.rel hF' fun s S' w' v' β' lam' g1 g2 g3 g4 g5 g6=>?_);exact zfF hh hW hk hkp rest (n+1) _ S' _ w' β' lam' hd' g1 ⟨g2,g3.put g4 _,hG.ext.trans g5⟩ (hM.put hWo _ g6 g5.le)
   ·rename_i hp;rw[Bool.and_eq_true]at hp;refine .inl (zmG hh hG.n h1 hp.2 hG.rel hF' (fun x H' w' β' x' g1 g2 g3 g4 g5=>?_) fun s S' w' v' β' lam' g1 g2 g3 g4 g5 g6=>?_)
    ·exact hkp hp.1 x fr' ⟨S.bx,H'⟩ a w' β' lam x' g1 ⟨g2,g3,hG.ext.trans g5⟩ ⟨hM.tmps,hM.size,Bt.le_trans hM.le g5.le,hM.dfr⟩ g4
    ·exact zfF hh hW hk hkp rest (n+1) _ S' _ w' β' lam' hd' g1 ⟨g2,g3.put g4 _,hG.ext.trans g5⟩ (hM.put hWo _ g6 g5.le)
  |false=>
   simp only[Bool.false_eq_true,if_false];exact zfF hh hW hk hkp rest (n+1) _ S _ w β lam hd' h1 ⟨hG.rel,FRel.put hF' (s:=.und) rfl _,hG.ext⟩ (hM.put hWo _ (BMv.refl _ _) (Bt.le_refl _))
end
section
variable {α:Type}{C:Ctx}{w0:World}{H0:Hp}{β0:Bt}{r:α}
def resM(tmps:Array Value)(x:ResultVar):Sem Value:=
 match x with
 |.tmp t=>pure (tmps.getD t undef)
 |.cell a t=>do loadVar t (←asAddr (tmps.getD a undef))
theorem zhh(fn:Func)(tmps:Array Value)(P:Program)(w:World) :
  (results fn tmps).run P w=((fn.results.toList.mapM (resM tmps)).run P w).andThen fun l w'=>.ok (if h:l.length=1 then l[0] else .tuple l.toArray) w':=by
 have:(results fn tmps)=(fn.results.mapM (resM tmps) >>= fun vs=>pure (if h:vs.size=1 then vs[0] else .tuple vs)):=rfl;rw[this,Array.mapM_eq_mapM_toList];simp only[Sem.run_bind,Functor.map,Sem.run_pure];have e:∀x:Sem (List Value),x.bind (Sem.pure∘List.toArray)=(x >>= fun l=>pure l.toArray):=fun _=>rfl;rw[e,Sem.run_bind];generalize (List.mapM (resM tmps) fn.results.toList).run P w=q;cases q with
 |ok l w'=>simp only[Result.andThen_ok,Sem.run_pure];rfl
 |halt x w'=>rfl
theorem zoS{β:Bt}{vs vs':List Value}(h:LRel β vs vs'):VRel β (resV vs) (if h:vs'.length=1 then vs'[0] else .tuple vs'.toArray):=by
 have hl:=h.1
 match vs,vs',h,hl with
 |[],[],h,_=>exact zch.2 ⟨_,rfl,h⟩
 |[v],[v'],h,_=>exact h.2 0 v v' rfl rfl
 |v::u::l,v'::u'::l',h,_=>exact zch.2 ⟨_,rfl,h⟩
theorem zeA{P:Program}{N:Nat}{w:World}{S:St}{β:Bt}{lam:Nat→Nat}{fr:Fr}{a:Act}(hR:Rel P w S.hp β)(hF:FRel N w S.bx β lam fr a) :
  ∀(rs:List ResultVar) (k:List Value→Option α),resC P fr S rs k=some r→∃vs vs',k vs=some r∧LRel β vs vs'∧(rs.mapM (resM a.tmps)).run P w=.ok vs' w
 |[],k,h=>⟨[],[],h,LRel.nil _,rfl⟩
 |.tmp t::rs,k,h=>by
  unfold resC at h;obtain⟨v,hv,h1⟩:=za2 hR hF (x:=.tmp t) h;obtain⟨vs,vs',h2,h3,h4⟩:=zeA hR hF rs _ h1;refine⟨v::vs,a.tmps.getD t undef::vs',h2,h3.cons hv,?_⟩;simp only[mapM_cons,Sem.run_bind,resM,Sem.run_pure,Result.andThen_ok,h4]
 |.cell t T::rs,k,h=>by
  unfold resC at h;obtain⟨i,d,hi,hd,h⟩:=zha h;have hx:=zeQ hR hF (.tmp t);have hx:SRel β lam S.bx (getS fr t) (a.tmps.getD t undef):=hx;split at h
  ·rename_i d' off he;rw[he]at hx;obtain⟨_,hx⟩:=hx;split at h
   ·rename_i cs ro hb;obtain⟨arr,e,hw,hl⟩:=zjH hF hb;unfold zai at h;split at h
    ·rename_i v hv;obtain⟨v',hrun,hrel⟩:=zdM (s:=0) hi hd (zkM hw hl) hv;rw[Nat.zero_add]at hrun;obtain⟨vs,vs',h2,h3,h4⟩:=zeA hR hF rs _ h;refine⟨v::vs,v'::vs',h2,h3.cons hrel,?_⟩;simp only[mapM_cons,Sem.run_bind,resM,hx,asAddr,Sem.run_pure,Result.andThen_ok,hrun,h4]
    ·cases h
   ·cases h
  ·rename_i p he;rw[he]at hx;have hx:VRel β p (a.tmps.getD t undef):=hx;unfold zal at h;split at h
   ·rename_i v hv;unfold Hp.rdP at hv;split at hv
    ·rename_i i0 off _;generalize hq:a.tmps.getD t undef=q at hx;cases hx with
     |ptr _ _ y hy=>
     unfold Hp.rd at hv;split at hv
     ·rename_i cs own hg;obtain⟨y',hy',h1,_⟩:=hR.cells i0 cs own hg;rw[hy]at hy';cases hy';obtain⟨v',hrun,hrel⟩:=zdM hi hd h1 hv;obtain⟨vs,vs',h2,h3,h4⟩:=zeA hR hF rs _ h;refine⟨v::vs,v'::vs',h2,h3.cons hrel,?_⟩;simp only[mapM_cons,Sem.run_bind,resM,hq,asAddr,Sem.run_pure,Result.andThen_ok,hrun,h4]
     ·rename_i cs e fz hg;obtain⟨v',hrun,hrel⟩:=zlh hR hi hd hg hy hv;obtain⟨vs,vs',h2,h3,h4⟩:=zeA hR hF rs _ h;refine⟨v::vs,v'::vs',h2,h3.cons hrel,?_⟩;simp only[mapM_cons,Sem.run_bind,resM,hq,asAddr,Sem.run_pure,Result.andThen_ok,hrun,h4]
     ·cases hv
    ·cases hv
   ·cases h
  ·cases h
theorem ziA{fr:Fr}:∀(ks:List Nat) (k:List Value→Option α),znx fr ks k=some r→∃vs,k vs=some r∧vs.length=ks.length∧∀(j d:Nat),ks[j]?=some d→∃v,vs[j]?=some v∧getS fr d=.val v
 |[],k,h=>⟨[],h,rfl,fun j d hd=>by cases hd⟩
 |e::ks,k,h=>by
  unfold znx at h;obtain⟨v,hv,h1⟩:=sV_inv h;obtain⟨vs,h2,h3,h4⟩:=ziA ks _ h1;refine⟨v::vs,h2,by simp[h3],fun j d hd=>?_⟩;cases j with
  |zero=>cases hd;exact⟨v,rfl,hv⟩
  |succ j=>exact h4 j d hd
theorem ziB{S:St}:∀(ks:List Nat) (k:List Value→Option α),zlc S ks k=some r→∃vs,k vs=some r∧vs.length=ks.length∧∀(j d:Nat),ks[j]?=some d→∃v,vs[j]?=some v∧boxV (S.bx d) some=some v
 |[],k,h=>⟨[],h,rfl,fun j d hd=>by cases hd⟩
 |e::ks,k,h=>by
  unfold zlc at h;have:∃v,boxV (S.bx e) some=some v∧zlc S ks (fun vs=>k (v::vs))=some r:=by
   unfold boxV at h ⊢;split at h
   ·exact⟨_,rfl,h⟩
   ·exact⟨_,rfl,h⟩
   ·cases h
  obtain⟨v,hv,h1⟩:=this;obtain⟨vs,h2,h3,h4⟩:=ziB ks _ h1;refine⟨v::vs,h2,by simp[h3],fun j d hd=>?_⟩;cases j with
  |zero=>cases hd;exact⟨v,rfl,hv⟩
  |succ j=>exact h4 j d hd
theorem idxOf?_get{d:Nat}:∀{l:List Nat} {j:Nat},l.idxOf? d=some j→l[j]?=some d
 |[],j,h=>by cases h
 |e::l,j,h=>by
  rw[List.idxOf?_cons]at h;split at h
  ·rename_i he;cases h;have:e=d:=by simpa using he
   simp[this]
  ·cases hq:l.idxOf? d with
   |none=>rw[hq]at h;cases h
   |some i=>
    rw[hq]at h;have h:i+1=j:=by simpa using h
    subst h;have:=idxOf?_get hq;simpa using this
theorem zhV(w keep:List Nat)(l:List Value):∀(fr:Fr) (n:Nat),(zfb w keep l fr n).length=fr.length
 |[],n=>rfl
 |s::r,n=>by simp[zfb,zhV w keep l r (n+1)]
def fillOne(w keep:List Nat)(l:List Value)(i:Nat)(s:Slot):Slot:=
 match keep.idxOf? i with
 |some j=>.val (l.getD j undef)
 |none=>match w.elem i with
  |true=>.unk
  |false=>s
theorem zm0(w keep:List Nat)(l:List Value):∀(fr:Fr) (n d:Nat),(zfb w keep l fr n)[d]?=(fr[d]?).map (fillOne w keep l (n+d))
 |[],n,d=>by simp[zfb]
 |s::r,n,0=>rfl
 |s::r,n,d+1=>by simp only[zfb,List.getElem?_cons_succ];rw[zm0 w keep l r (n+1) d,show n+1+d=n+(d+1) by omega]
theorem zqt{w:World}{β:Bt}{b:Nat}{x x':Option Bx}{v:Value}(hle:BxLe x x')(hv:boxV x' some=some v){c:Bx}(hc:zjN x v=some c)(h:∀c',x'=some c'→zlY w β b c'):zlY w β b c:=by
 unfold zjN at hc;split at hc
 ·cases hc;obtain⟨s,p,rfl⟩:=hle;cases hv;exact h _ rfl
 ·cases hc;obtain⟨cs,rfl⟩:=hle;cases hv;exact h _ rfl
 ·have:x'=x:=by
   unfold BxLe at hle;split at hle
   ·cases hc
   ·rename_i hn;exact absurd rfl (hn _)
   ·rename_i hn _;exact absurd rfl (hn _ _)
   ·exact hle
  exact h c (by rw[this];exact hc)
theorem zjM{x:Option Bx}{v:Value}:(zjN x v).isSome=x.isSome:=by unfold zjN;split<;>rfl
theorem ziG{x:Option Bx}:(roBx x).isSome=x.isSome:=by unfold roBx;split<;>rfl
end
def zou(C:Ctx):Prop:=∀{α:Type} {w0:World} {H0:Hp} {β0:Bt} {r:α} {ops:List Oper} {kp:Value→Hp→Option α} {k:Fr→St→Option α} {Q:Exit→Act→World→Prop} {W:List Nat} {S1:St} {a1:Act} {β1:Bt} {l1:Nat→Nat},
 zgl C.P C.O C.f ops (ancs ops)=true→(∀o∈ops,∀d,o.dst=some d→d∈W) →
 (∀fr S a w β lam,k fr S=some r→Good C.P w0 H0 β0 fr S a w β lam→zb7 W S1 a1 β1 l1 S a β lam→Q .normal a w) →
 (C.O.pan C.f=true→∀x fr S a w β lam x',kp x S.hp=some r→Good C.P w0 H0 β0 fr S a w β lam→Kept W a1 β1 a β→VRel β x x'→Q (.panic [{ v:=x',recovered:=false }]) a w) →
 ∀fr S a w β lam,drawH C ops kp k fr S=some r→Good C.P w0 H0 β0 fr S a w β lam→zb7 W S1 a1 β1 l1 S a β lam →
  wpAny C.P .any ops.toArray Q ops.length (Array.replicate ops.length false) a w
theorem zev:∀(c:Code) (acc:List Nat) (d:Nat),d∈wr c acc↔d∈wr c []∨d∈acc
 |.region id ops dr,acc,d=>by
  simp only[wr];generalize ops.toList=l;induction l with
  |nil=>simp
  |cons o l ih=>
   simp only[foldr_cons];cases o.dst with
   |none=>exact ih
   |some e=>simp only[mem_cons,ih,or_assoc]
 |.seq a b,acc,d=>by simp only[wr];rw[zev a (wr b acc),zev a (wr b []),zev b acc];simp only[or_assoc]
 |.cond c a b,acc,d=>by simp only[wr];rw[zev a (wr b acc),zev a (wr b []),zev b acc];simp only[or_assoc]
 |.block id c,acc,d=>by simp only[wr];exact zev c acc d
 |.loop c,acc,d=>by simp only[wr];exact zev c acc d
 |.scope c,acc,d=>by simp only[wr];exact zev c acc d
 |.skip,acc,d=>by simp[wr]
 |.exit _,acc,d=>by simp[wr]
 |.ret,acc,d=>by simp[wr]
 |.label _,acc,d=>by simp[wr]
 |.goto _,acc,d=>by simp[wr]
 |.refuse _,acc,d=>by simp[wr]
 |.rangeFunc _ _ _ _,acc,d=>by simp[wr]
theorem zlZ{id:Nat}{ops:Array Oper}{dr:Bool}:∀o∈ops.toList,∀d,o.dst=some d→d∈wr (.region id ops dr) []:=by
 simp only[wr];generalize ops.toList=l;induction l with
 |nil=>simp
 |cons p l ih=>
  intro o ho d hd;simp only[foldr_cons];rcases mem_cons.1 ho with rfl|ho
  ·rw[hd];exact mem_cons_self ..
  ·have:=ih o ho d hd;split
   ·exact mem_cons_of_mem _ this
   ·exact this
theorem wr_mem{id:Nat}{ops:Array Oper}{dr:Bool}{d:Nat}:d∈wr (.region id ops dr) []→∃o∈ops.toList,o.dst=some d:=by
 simp only[wr];generalize ops.toList=l;induction l with
 |nil=>intro h;cases h
 |cons p l ih=>
  intro h;simp only[foldr_cons]at h;split at h
  ·rename_i e he;rcases mem_cons.1 h with rfl|h
   ·exact⟨p,mem_cons_self ..,he⟩
   ·obtain⟨o,h1,h2⟩:=ih h;exact⟨o,mem_cons_of_mem _ h1,h2⟩
  ·obtain⟨o,h1,h2⟩:=ih h;exact⟨o,mem_cons_of_mem _ h1,h2⟩
section
variable {C:Ctx}{w0:World}{H0:Hp}{β0:Bt}{fn:Func}
def ze4:List ResultVar→List Nat
 |[]=>[]
 |.tmp t::r=>t::ze4 r
 |.cell _ _::r=>ze4 r
def PanR(C:Ctx)(rs:List ResultVar)(β:Bt)(xx x:Value)(tmps:Array Value):Prop:=
 match C.O.dfr C.f with
 |false=>xx=x
 |true=>∃vs,xx=.tuple (x::vs).toArray∧LRel β vs ((ze4 rs).map fun t=>tmps.getD t undef)
theorem LRel.monoL{β β':Bt}(hb:β.le β'){l l':List Value}(h:LRel β l l'):LRel β' l l':=⟨h.1,fun i x x' h1 h2=>(h.2 i x x' h1 h2).mono hb⟩
theorem zk3{α:Type}{N:Nat}{P:Program}{w:World}{bx:Nat→Option Bx}{H:Hp}{β:Bt}{lam:Nat→Nat}{fr:Fr}{a:Act}(hR:Rel P w H β)(hF:FRel N w bx β lam fr a){r:α}:∀(rs:List ResultVar) (k:List Value→Option α),zjR fr rs k=some r →
  ∃vs,k vs=some r∧LRel β vs ((ze4 rs).map fun t=>a.tmps.getD t undef)
 |[],k,h=>⟨[],h,LRel.nil _⟩
 |.tmp t::rs,k,h=>by
  unfold zjR at h;obtain⟨v,hv,h1⟩:=za2 hR hF (x:=.tmp t) h;obtain⟨vs,h2,h3⟩:=zk3 hR hF rs _ h1;exact⟨v::vs,h2,h3.cons hv⟩
 |.cell t T::rs,k,h=>zk3 hR hF rs k h
theorem zjk{id:Nat}{ops:Array Oper}{dr:Bool}{β β':Bt}{a a':Act}(hk:Kept (wr (.region id ops dr) []) a β a' β'):∀rs:List ResultVar,zjl ops.toList rs=true→(ze4 rs).map (fun t=>a'.tmps.getD t undef)=(ze4 rs).map fun t=>a.tmps.getD t undef
 |[],_=>rfl
 |.tmp t::rs,h=>by
  unfold zjl at h;rw[Bool.and_eq_true]at h;have h1:t∉wr (.region id ops dr) []:=fun hm=>by obtain⟨o,ho,hd⟩:=wr_mem hm;have:=all_eq_true.1 h.1 o ho;rw[hd]at this;simp at this
  show a'.tmps.getD t undef::(ze4 rs).map (fun t=>a'.tmps.getD t undef)=a.tmps.getD t undef::(ze4 rs).map (fun t=>a.tmps.getD t undef);rw[hk.tmps t h1,zjk hk rs h.2]
 |.cell t T::rs,h=>zjk hk rs h
theorem panK_ok{α:Type}{N:Nat}{P:Program}{w:World}{bx:Nat→Option Bx}{H:Hp}{β:Bt}{lam:Nat→Nat}{fr:Fr}{a:Act}(hR:Rel P w H β)(hF:FRel N w bx β lam fr a){C:Ctx}{rs:List ResultVar}{id:Nat}{ops:Array Oper}{dr:Bool}{k:K α}{r:α}{x:Value}{H':Hp}
  (h:panK C rs ops.toList fr k x H'=some r) {a':Act} {β':Bt} (hk:Kept (wr (.region id ops dr) []) a β a' β'):∃xx,k.ret (W0 xx) H'=some r∧PanR C rs β' xx x a'.tmps:=by
 unfold panK at h;unfold PanR;cases hd:C.O.dfr C.f with
 |false=>rw[hd]at h;exact⟨x,h,rfl⟩
 |true=>
  rw[hd]at h;dsimp only at h;cases hkt:zjl ops.toList rs with
  |true=>
   rw[hkt]at h;obtain⟨vs,h1,h2⟩:=zk3 hR hF rs _ h;refine⟨_,h1,vs,rfl,?_⟩;rw[zjk hk rs hkt];exact h2.monoL hk.le
  |false=>rw[hkt]at h;cases h
structure Cont{α:Type}(C:Ctx)(w0:World)(H0:Hp)(β0:Bt)(fn:Func)(W:List Nat)(S1:St)(a1:Act)(β1:Bt)(l1:Nat→Nat)(k:K α)(r:α)(Q:Exit→Act→World→Prop):Prop where
 norm:∀fr S a w β lam,k.norm fr S=some r→Good C.P w0 H0 β0 fr S a w β lam→zb7 W S1 a1 β1 l1 S a β lam→Q .normal a w
 exit:∀id fr S a w β lam,k.exit id fr S=some r→Good C.P w0 H0 β0 fr S a w β lam→zb7 W S1 a1 β1 l1 S a β lam→Q (.exit id) a w
 ret:∀v fr S a w β lam v',k.ret (ziq C v) S.hp=some r→Good C.P w0 H0 β0 fr S a w β lam→Kept W a1 β1 a β→VRel β v v'→(results fn a.tmps).run C.P w=.ok v' w→Q .ret a w
 pan:C.O.pan C.f=true→∀xx x fr S a w β lam x',k.ret (W0 xx) S.hp=some r→Good C.P w0 H0 β0 fr S a w β lam→Kept W a1 β1 a β→VRel β x x'→PanR C fn.results.toList β xx x a.tmps→Q (.panic [{ v:=x',recovered:=false }]) a w
theorem Cont.step{α:Type}{W W1 W2:List Nat}{S1 S2:St}{a1 a2:Act}{β1 β2:Bt}{l1 l2:Nat→Nat}{k:K α}{r:α}{Q:Exit→Act→World→Prop}
  (h:Cont C w0 H0 β0 fn W S1 a1 β1 l1 k r Q) (hM:zb7 W1 S1 a1 β1 l1 S2 a2 β2 l2) (h1:∀d,d∉W→d∉W1) (h2:∀d,d∉W→d∉W2):Cont C w0 H0 β0 fn W2 S2 a2 β2 l2 k r Q:=
 ⟨fun fr S a w β lam g1 g2 g3=>h.norm fr S a w β lam g1 g2 (hM.trans g3 h1 h2),fun id fr S a w β lam g1 g2 g3=>h.exit id fr S a w β lam g1 g2 (hM.trans g3 h1 h2),
  fun v fr S a w β lam v' g1 g2 g3 g4 g5=>h.ret v fr S a w β lam v' g1 g2 (hM.kept.trans g3 h1 h2) g4 g5,fun hp xx x fr S a w β lam x' g1 g2 g3 g4 g5=>h.pan hp xx x fr S a w β lam x' g1 g2 (hM.kept.trans g3 h1 h2) g4 g5⟩
theorem join_good {W ks kb : List Nat} {fr fr' : Fr} {S S' : St} {a a' : Act} {w w' : World} {β β' : Bt} {lam lam' : Nat → Nat} {vs bs : List Value} {bx1 : Nat → Option Bx}
    (hG : FRel w0.heap.size w S.bx β lam fr a) (hbx1 : ∀ d, bx1 d = (match kb.elem d with | true => S.bx d | false => roBx (S.bx d)))
    (hG' : Good C.P w0 H0 β0 fr' S' a' w' β' lam') (hM : zb7 W ⟨bx1, S.hp⟩ a β lam S' a' β' lam')
    (hvl : vs.length = ks.length) (hv : ∀ (j d : Nat), ks[j]? = some d → ∃ v, vs[j]? = some v ∧ getS fr' d = .val v)
    (hbl : bs.length = kb.length) (hb : ∀ (j d : Nat), kb[j]? = some d → ∃ v, bs[j]? = some v ∧ boxV (S'.bx d) some = some v) :
    Good C.P w0 H0 β0 (zfb W ks (vs ++ bs) fr 0) ⟨zd6 kb ((vs ++ bs).drop ks.length) S.bx, S'.hp⟩ a' w' β' lam' ∧
    BMv S.bx lam (zd6 kb ((vs ++ bs).drop ks.length) S.bx) lam' := by
  have hdrop : (vs ++ bs).drop ks.length = bs := by rw [← hvl]; simp
  have hbsome : ∀ d, (zd6 kb bs S.bx d).isSome = (S.bx d).isSome := fun d => by
    unfold zd6; split
    · exact zjM
    · rfl
  have h1some : ∀ d, (bx1 d).isSome = (S.bx d).isSome := fun d => by
    rw [hbx1]; split
    · rfl
    · exact ziG
  have hlam : ∀ d, (S.bx d).isSome = true → lam' d = lam d := fun d hd => (hM.bx d).2 (by rw [h1some]; exact hd)
  have hS' : ∀ d, (S.bx d).isSome = true → (S'.bx d).isSome = true := fun d hd => (hM.bx d).1.some (by rw [h1some]; exact hd)
  rw [hdrop]
  refine ⟨⟨hG'.rel, ⟨?_, fun d s hs => ?_, fun d c hc => ?_, fun d d' hd hd' hne => ?_⟩, hG'.ext⟩, fun d => ⟨?_, hlam d⟩⟩
  · rw [zhV, ← hG.size, hM.size]
  · rw [zm0] at hs
    cases hfr : fr[d]? with
    | none => rw [hfr] at hs; cases hs
    | some s0 =>
      rw [hfr] at hs
      simp only [Option.map_some, Nat.zero_add] at hs
      cases hs
      unfold fillOne
      split
      · rename_i j hj
        obtain ⟨v, hv1, hv2⟩ := hv j d (idxOf?_get hj)
        have hjl : j < vs.length := (List.getElem?_eq_some_iff.1 hv1).1
        have hgv : (vs ++ bs).getD j undef = v := by
          rw [getD_eq_getElem?_getD, List.getElem?_append_left hjl, hv1]; rfl
        rw [hgv]
        have := zeQ hG'.rel hG'.fr (.tmp d)
        have this : SRel β' lam' S'.bx (getS fr' d) (a'.tmps.getD d undef) := this
        rw [hv2] at this
        exact this
      · split
        · trivial
        · rename_i hnW
          have hnW : d ∉ W := by intro hm; have : W.elem d = true := by simpa using hm
                                 rw [this] at hnW; cases hnW
          rw [hM.tmps d hnW]
          have := (hG.slot d s0 hfr).mono hM.le
          cases s0 with
          | loc e off =>
            refine ⟨by rw [hbsome]; exact this.1, ?_⟩
            rw [hlam e this.1]; exact this.2
          | _ => exact this
  · have hc : zd6 kb bs S.bx d = some c := hc
    unfold zd6 at hc
    split at hc
    · rename_i j hj
      have hjd := idxOf?_get hj
      obtain ⟨v, hv1, hv2⟩ := hb j d hjd
      have hgv : bs.getD j undef = v := by rw [getD_eq_getElem?_getD, hv1]; rfl
      rw [hgv] at hc
      have hin : kb.elem d = true := by simpa using mem_of_getElem? hjd
      have hle : BxLe (bx1 d) (S'.bx d) := (hM.bx d).1
      have hsd : (S.bx d).isSome = true := by rw [← zjM (v := v), hc]; rfl
      have hb1 := hbx1 d
      rw [hin] at hb1
      rw [hb1] at hle
      have hle : BxLe (S.bx d) (S'.bx d) := hle
      obtain ⟨c', hc'⟩ := Option.isSome_iff_exists.1 (hS' d hsd)
      obtain ⟨b1, b2, b3, b4⟩ := hG'.fr.box d c' hc'
      exact ⟨b1, b2, b3, zqt hle hv2 hc (fun c2 hc2 => by rw [hc'] at hc2; cases hc2; exact b4)⟩
    · rename_i hj
      have hin : kb.elem d = false := by
        cases hq : kb.elem d with
        | false => rfl
        | true =>
          have hm : d ∈ kb := by simpa using hq
          have : kb.idxOf? d ≠ none := by simpa [List.idxOf?_eq_none_iff] using hm
          exact absurd hj this
      have hb1 := hbx1 d
      rw [hin] at hb1
      have hle : BxLe (bx1 d) (S'.bx d) := (hM.bx d).1
      rw [hb1] at hle
      have hle : BxLe (roBx (S.bx d)) (S'.bx d) := hle
      rw [hc] at hle
      cases c with
      | cells cs ro =>
        have hc' : S'.bx d = some (.cells cs true) := hle
        obtain ⟨b1, b2, b3, b4⟩ := hG'.fr.box d (.cells cs true) hc'
        exact ⟨b1, b2, b3, b4⟩
      | iter s p =>
        have hc' : S'.bx d = some (.iterRo s p) := hle
        obtain ⟨b1, b2, b3, b4⟩ := hG'.fr.box d (.iterRo s p) hc'
        exact ⟨b1, b2, b3, b4⟩
      | iterRo s p =>
        have hc' : S'.bx d = some (.iterRo s p) := hle
        exact hG'.fr.box d _ hc'
  · rw [hbsome] at hd hd'
    exact hG'.fr.apart d d' (hS' d hd) (hS' d' hd') hne
  · show BxLe (S.bx d) (zd6 kb bs S.bx d)
    unfold zd6
    split
    · unfold zjN
      split
      · rename_i e; rw [e]; exact ⟨_, _, rfl⟩
      · rename_i e; rw [e]; exact ⟨_, rfl⟩
      · exact BxLe.refl _
    · exact BxLe.refl _
end
theorem zm2(p:Nat→Prop):∀n,p n→∃m,p m∧∀j,p j→m≤j:=by
 intro n;induction n using Nat.strongRecOn with
 |_ n ih=>
  intro hn;by_cases h:∃j,j<n∧p j
  ·obtain⟨j,hj,hp⟩:=h;exact ih j hj hp
  ·refine⟨n,hn,fun j hj=>?_⟩;rcases Nat.lt_or_ge j n with q|q
   ·exact absurd ⟨j,q,hj⟩ h
   ·exact q
theorem zpL{P:Program}{c:Code}{Q:Exit→Act→World→Prop}{a:Act}{w:World}(I:Nat→Act→World→Prop){n:Nat}(h0:I n a w)
  (round:∀n a w,I n a w→c.wp P (Exit.then (fun a' w'=>∃m,m<n∧I m a' w') Q) a w):(Code.loop c).wp P Q a w:=by
 classical
 have hl:∀a w,(∃n,I n a w)→∃m,I m a w∧∀j,I j a w→m≤j:=fun a w ⟨n,hn⟩=>zm2 (fun n=>I n a w) n hn;refine wp_loop (fun a w=>∃n,I n a w) (fun a w=>if h:∃n,I n a w then (hl a w h).choose else 0) ⟨n,h0⟩ fun a w hI=>?_;have hs:=(hl a w hI).choose_spec;refine wp_mono (round _ a w hs.1) fun e a' w' he=>?_;cases e with
 |normal=>
  obtain⟨m,hm,hI'⟩:=he;refine⟨⟨m,hI'⟩,?_⟩;have hs':=(hl a' w' ⟨m,hI'⟩).choose_spec;have h1:∃n,I n a' w':=⟨m,hI'⟩
  simp only[dif_pos hI,dif_pos h1];exact Nat.lt_of_le_of_lt (hs'.2 m hI') hm
 |_=>exact he
section
variable {C:Ctx}{w0:World}{H0:Hp}{β0:Bt}{fn:Func}
theorem ro_rel{w:World}{β:Bt}{b:Nat}{x:Option Bx}{c:Bx}(h:roBx x=some c)(hr:∀c',x=some c'→zlY w β b c'):zlY w β b c:=by
 unfold roBx at h;split at h
 ·rename_i cs ro;cases h;exact hr (.cells cs ro) rfl
 ·rename_i s p;cases h;exact hr (.iter s p) rfl
 ·exact hr c h
theorem FRel.ro{N:Nat}{w:World}{bx bx':Nat→Option Bx}{β:Bt}{lam:Nat→Nat}{fr:Fr}{a:Act}(h:FRel N w bx β lam fr a)(hb:∀d,bx' d=bx d∨bx' d=roBx (bx d)):FRel N w bx' β lam fr a:=by
 have hs:∀d,(bx' d).isSome=(bx d).isSome:=fun d=>by rcases hb d with e|e<;>rw[e];exact ziG
 refine⟨h.size,fun d s hd=>(h.slot d s hd).bx (fun d hd=>by rw[hs];exact hd),fun d c hc=>?_,fun d d' h1 h2 hne=>h.apart d d' (by rw[←hs];exact h1) (by rw[←hs];exact h2) hne⟩;have hsd:(bx d).isSome=true:=by rw[←hs,hc];rfl
 obtain⟨c',hc'⟩:=Option.isSome_iff_exists.1 hsd;obtain⟨b1,b2,b3,b4⟩:=h.box d c' hc';refine⟨b1,b2,b3,?_⟩;rcases hb d with e|e
 ·rw[e,hc']at hc;cases hc;exact b4
 ·rw[e]at hc;exact ro_rel hc (fun c2 h2=>by rw[hc']at h2;cases h2;exact b4)
theorem Good.ro{P:Program}{fr:Fr}{S:St}{a:Act}{w:World}{β:Bt}{lam:Nat→Nat}{bx':Nat→Option Bx}(h:Good P w0 H0 β0 fr S a w β lam)(hb:∀d,bx' d=S.bx d∨bx' d=roBx (S.bx d)) :
  Good P w0 H0 β0 fr ⟨bx',S.hp⟩ a w β lam:=⟨h.rel,h.fr.ro hb,h.ext⟩
theorem zmi(kb:List Nat)(bx:Nat→Option Bx)(d:Nat):roB kb bx d=bx d∨roB kb bx d=roBx (bx d):=by
 unfold roB;split
 ·exact .inl rfl
 ·exact .inr rfl
theorem zpv(kb:List Nat)(l:List Value)(bx:Nat→Option Bx)(d:Nat):zj1 kb l bx d=roB kb (zd6 kb l bx) d:=by
 unfold zj1 roB zd6;cases h:kb.idxOf? d with
 |some j=>
  have:kb.elem d=true:=by simpa using mem_of_getElem? (idxOf?_get h)
  rw[this]
 |none=>
  have:kb.elem d=false:=by
   cases hq:kb.elem d with
   |false=>rfl
   |true=>
    have hm:d∈kb:=by simpa using hq
    have:kb.idxOf? d≠none:=by simpa[List.idxOf?_eq_none_iff] using hm
    exact absurd h this
  rw[this]
theorem zqu{kb:List Nat}{l:List Value}{bx:Nat→Option Bx}{d:Nat}(h:kb.elem d=false):zd6 kb l bx d=bx d:=by
 unfold zd6;split
 ·rename_i j hj;have:kb.elem d=true:=by simpa using mem_of_getElem? (idxOf?_get hj)
  rw[h]at this;cases this
 ·rfl
theorem zdT{ks kb:List Nat}{c:Ctl}{fr:Fr}{S:St}{o:Outc}(h:ziC ks kb c fr S=some o):∃vs bs,o=(c,vs++bs,S.hp)∧vs.length=ks.length ∧
  (∀(j d:Nat),ks[j]?=some d→∃v,vs[j]?=some v∧getS fr d=.val v)∧bs.length=kb.length∧(∀(j d:Nat),kb[j]?=some d→∃v,bs[j]?=some v∧boxV (S.bx d) some=some v):=by
 unfold ziC at h;obtain⟨vs,h1,h2,h3⟩:=ziA ks _ h;obtain⟨bs,h4,h5,h6⟩:=ziB kb _ h1;cases h4;exact⟨vs,bs,rfl,h2,h3,h5,h6⟩
theorem leave{W ks kb:List Nat}{fr fr':Fr}{S S':St}{a a':Act}{w w':World}{β β':Bt}{lam lam':Nat→Nat}{vs bs:List Value}
  (hG:FRel w0.heap.size w S.bx β lam fr a) (hG':Good C.P w0 H0 β0 fr' S' a' w' β' lam') (hM:zb7 W ⟨roB kb S.bx,S.hp⟩ a β lam S' a' β' lam')
  (hvl:vs.length=ks.length) (hv:∀(j d:Nat),ks[j]?=some d→∃v,vs[j]?=some v∧getS fr' d=.val v)
  (hbl:bs.length=kb.length) (hb:∀(j d:Nat),kb[j]?=some d→∃v,bs[j]?=some v∧boxV (S'.bx d) some=some v) :
  Good C.P w0 H0 β0 (zfb W ks (vs++bs) fr 0) ⟨zd6 kb ((vs++bs).drop ks.length) S.bx,S'.hp⟩ a' w' β' lam' ∧
  zb7 W S a β lam ⟨zd6 kb ((vs++bs).drop ks.length) S.bx,S'.hp⟩ a' β' lam':=by
 obtain⟨g1,g2⟩:=join_good hG (bx1:=roB kb S.bx) (fun d=>rfl) hG' hM hvl hv hbl hb;exact⟨g1,⟨hM.tmps,hM.size,g2,hM.le,hM.dfr⟩⟩
theorem zfB{P:Program}{N:Nat}{w:World}{S:St}{β:Bt}{lam:Nat→Nat}{fr:Fr}{a:Act}{α:Type}{r:α}(hR:Rel P w S.hp β)(hF:FRel N w S.bx β lam fr a){k:List Value→Option α}(h:resC P fr S fn.results.toList k=some r) :
  ∃vs v',k vs=some r∧VRel β (resV vs) v'∧(results fn a.tmps).run P w=.ok v' w:=by
 obtain⟨vs,vs',h1,h2,h3⟩:=zeA hR hF _ _ h;exact⟨vs,_,h1,zoS h2,by rw[zhh,h3];rfl⟩
theorem zbi(hh:SimC C.P C.O C.h)(hdraw:zou C)(hm:C.P.follows .mixedOrders=true):∀(c:Code) {α:Type} {fr:Fr} {S:St} {k:K α} {r:α} {Q:Exit→Act→World→Prop} {a:Act} {w:World} {β:Bt} {lam:Nat→Nat},
  exec C fn.results.toList c α fr S k=some r→Good C.P w0 H0 β0 fr S a w β lam→Cont C w0 H0 β0 fn (wr c []) S a β lam k r Q→c.wp C.P Q a w
 |.skip,α,fr,S,k,r,Q,a,w,β,lam,h,hG,hC=>wp_skip (hC.norm _ _ _ _ _ _ h hG (zb7.refl _ _ _ _ _))
 |.region id ops draw,α,fr,S,k,r,Q,a,w,β,lam,h,hG,hC=>by
  simp only[exec]at h;cases draw with
  |false=>
   have:=zfF hh (W:=wr (.region id ops false) []) (Q:=Q) zlZ hC.norm (fun hp x fr' S' a' w' β' lam' x' g1 g2 g3 g4=>by obtain⟨xx,q1,q2⟩:=panK_ok hG.rel hG.fr g1 g3;exact hC.pan hp xx x fr' S' a' w' β' lam' x' q1 g2 g3 g4 q2) ops.toList 0 fr S a w β lam rfl h hG (zb7.refl _ _ _ _ _);refine wp_region ?_;rw[List.range_eq_range'];simpa using this
  |true=>
   dsimp only at h;split at h
   ·rename_i ho;have hG':Good C.P w0 H0 β0 fr S a { w with drawn:=w.drawn+1 } β lam:=⟨hG.rel.drew,hG.fr.drew,hG.ext.drew⟩
    have:=hdraw (W:=wr (.region id ops true) []) (Q:=Q) ho zlZ hC.norm (fun hp x fr' S' a' w' β' lam' x' g1 g2 g3 g4=>by obtain⟨xx,q1,q2⟩:=panK_ok hG.rel hG.fr g1 g3;exact hC.pan hp xx x fr' S' a' w' β' lam' x' q1 g2 g3 g4 q2) fr S a _ β lam h hG' (zb7.refl _ _ _ _ _);refine wp_region_any hm ?_;simpa using this
   ·cases h
 |.seq x y,α,fr,S,k,r,Q,a,w,β,lam,h,hG,hC=>by
  have hx:∀d,d∉wr (.seq x y) []→d∉wr x []:=fun d hd hm=>hd (by simp only[wr];rw[zev];exact .inl hm);have hy:∀d,d∉wr (.seq x y) []→d∉wr y []:=fun d hd hm=>hd (by simp only[wr];rw[zev];exact .inr hm);simp only[exec]at h;split at h
  ·refine wp_seq (zbi hh hdraw hm x h hG ⟨fun fr' S' a' w' β' lam' g1 g2 g3=>?_,fun id fr' S' a' w' β' lam' g1 g2 g3=>?_,?_,?_⟩)
   ·exact zbi hh hdraw hm y g1 g2 (hC.step g3 hx hy)
   ·exact hC.exit id fr' S' a' w' β' lam' g1 g2 ⟨fun d hd=>g3.tmps d (hx d hd),g3.size,g3.bx,g3.le,g3.dfr⟩
   ·exact fun v fr S a w β lam v' g1 g2 g3 g4 g5=>hC.ret v fr S a w β lam v' g1 g2 ⟨fun d hd=>g3.tmps d (hx d hd),g3.size,g3.le,g3.dfr⟩ g4 g5
   ·exact fun hp xx x fr S a w β lam x' g1 g2 g3 g4 g5=>hC.pan hp xx x fr S a w β lam x' g1 g2 ⟨fun d hd=>g3.tmps d (hx d hd),g3.size,g3.le,g3.dfr⟩ g4 g5
  ·rename_i ks kb hj;unfold zau at h;split at h
   ·rename_i c l H' hx1;refine wp_seq (zbi hh hdraw hm x hx1 (hG.ro (zmi kb S.bx)) ⟨fun fr' S' a' w' β' lam' g1 g2 g3=>?_,fun id fr' S' a' w' β' lam' g1 g2 g3=>?_,fun v fr' S' a' w' β' lam' v' g1 g2 g3 g4 g5=>?_,fun hp xx x fr' S' a' w' β' lam' x' g1 g2 g3 g4 g5=>?_⟩)
    ·obtain⟨vs,bs,he,h1,h2,h3,h4⟩:=zdT g1;cases he;obtain⟨q1,q2⟩:=leave hG.fr g2 g3 h1 h2 h3 h4;exact zbi hh hdraw hm y h q1 (hC.step q2 hx hy)
    ·obtain⟨vs,bs,he,h1,h2,h3,h4⟩:=zdT g1;cases he;obtain⟨q1,q2⟩:=leave hG.fr g2 g3 h1 h2 h3 h4;exact hC.exit id _ _ a' w' β' lam' h q1 ⟨fun d hd=>q2.tmps d (hx d hd),q2.size,q2.bx,q2.le,q2.dfr⟩
    ·cases g1;exact hC.ret v fr' S' a' w' β' lam' v' h g2 ⟨fun d hd=>g3.tmps d (hx d hd),g3.size,g3.le,g3.dfr⟩ g4 g5
    ·cases g1;exact hC.pan hp xx x fr' S' a' w' β' lam' x' h g2 ⟨fun d hd=>g3.tmps d (hx d hd),g3.size,g3.le,g3.dfr⟩ g4 g5
   ·cases h
 |.cond c x y,α,fr,S,k,r,Q,a,w,β,lam,h,hG,hC=>by
  have hx:∀d,d∉wr (.cond c x y) []→d∉wr x []:=fun d hd hm=>hd (by simp only[wr];rw[zev];exact .inl hm);have hy:∀d,d∉wr (.cond c x y) []→d∉wr y []:=fun d hd hm=>hd (by simp only[wr];rw[zev];exact .inr hm);simp only[exec]at h;obtain⟨v,hv,h1⟩:=za2 hG.rel hG.fr h;unfold zaa at h1;split at h1
  ·rename_i t;have hc:a.eval c=.bool t:=by generalize a.eval c=q at hv;cases hv;rfl
   unfold br at h1;cases t with
   |true=>exact wp_cond_true hc (zbi hh hdraw hm x h1 hG (hC.step (zb7.refl [] _ _ _ _) (fun d _ hd=>by cases hd) hx))
   |false=>exact wp_cond_false hc (zbi hh hdraw hm y h1 hG (hC.step (zb7.refl [] _ _ _ _) (fun d _ hd=>by cases hd) hy))
  ·cases h1
 |.block id c,α,fr,S,k,r,Q,a,w,β,lam,h,hG,hC=>by
  simp only[exec]at h;refine wp_block (zbi hh hdraw hm c h hG ⟨hC.norm,fun j fr' S' a' w' β' lam' g1 g2 g3=>?_,hC.ret,hC.pan⟩);have g1:zav j id (k.norm fr' S') (k.exit j fr' S')=some r:=g1;unfold zav at g1;simp only[Exit.inBlock];split at g1
  ·rename_i e;rw[if_pos (Nat.eq_of_beq_eq_true e)];exact hC.norm _ _ _ _ _ _ g1 g2 g3
  ·rename_i e;rw[if_neg (Nat.ne_of_beq_eq_false e)];exact hC.exit j _ _ _ _ _ _ g1 g2 g3
 |.loop c,α,fr,S,k,r,Q,a,w,β,lam,h,hG,hC=>by
  unfold exec at h;split at h;rename_i ks kb hq;obtain⟨vs,h1,hvl,hv⟩:=ziA ks _ h;obtain⟨bs,h2,hbl,hb⟩:=ziB kb _ h1;clear h h1;generalize hW:wr (.loop c) []=W at hC;have hWc:wr c []=W:=by rw[←hW];rfl
  rw[hWc]at h2;generalize hstep:(fun (l:List Value) (H:Hp)=>exec C fn.results.toList c Outc (zfb W ks l fr 0) ⟨zj1 kb (l.drop ks.length) S.bx,H⟩ (Kout ks kb))=step at h2;unfold zau at h2;split at h2
  ·rename_i ctl lo Ho hlo;unfold zat at hlo;split at hlo
   ·rename_i hex;obtain⟨n,hn⟩:=hex.choose_spec;have hlo:hex.choose=(ctl,lo,Ho):=by simpa using hlo
    rw[hlo]at hn;have head:∀{vs bs:List Value} {S':St} {a':Act} {w':World} {β':Bt} {lam':Nat→Nat},
      Good C.P w0 H0 β0 (zfb W ks (vs++bs) fr 0) ⟨zd6 kb ((vs++bs).drop ks.length) S.bx,S'.hp⟩ a' w' β' lam'→zb7 W S a β lam ⟨zd6 kb ((vs++bs).drop ks.length) S.bx,S'.hp⟩ a' β' lam' →
      Good C.P w0 H0 β0 (zfb W ks (vs++bs) fr 0) ⟨zj1 kb ((vs++bs).drop ks.length) S.bx,S'.hp⟩ a' w' β' lam'∧zb7 W ⟨roB kb S.bx,S.hp⟩ a β lam ⟨zj1 kb ((vs++bs).drop ks.length) S.bx,S'.hp⟩ a' β' lam':=by
     intro vs bs S' a' w' β' lam' g1 g2;refine⟨g1.ro (fun d=>by rw[zpv];exact zmi kb _ d),⟨g2.tmps,g2.size,fun d=>⟨?_,fun hd=>?_⟩,g2.le,g2.dfr⟩⟩
     ·show BxLe (roB kb S.bx d) (zj1 kb ((vs++bs).drop ks.length) S.bx d);rw[zpv];have hle:BxLe (S.bx d) (zd6 kb ((vs++bs).drop ks.length) S.bx d):=(g2.bx d).1;cases he:kb.elem d with
      |true=>unfold roB;rw[he];exact hle
      |false=>unfold roB;rw[he,zqu he];exact BxLe.refl _
     ·refine(g2.bx d).2 ?_;have hd:(roB kb S.bx d).isSome=true:=hd;rcases zmi kb S.bx d with e|e
      ·rw[e]at hd;exact hd
      ·rw[e,ziG]at hd;exact hd
    have hG1:=hG.ro (zmi kb S.bx);have hb1:∀(j d:Nat),kb[j]?=some d→∃v,bs[j]?=some v∧boxV ((⟨roB kb S.bx,S.hp⟩:St).bx d) some=some v:=fun j d hd=>by
     obtain⟨v,q1,q2⟩:=hb j d hd;refine⟨v,q1,?_⟩;have:kb.elem d=true:=by simpa using mem_of_getElem? hd
     show boxV (roB kb S.bx d) some=some v;unfold roB;rw[this];exact q2
    obtain⟨e1,e2⟩:=leave (W:=W) (kb:=kb) hG.fr hG1 (zb7.refl _ _ _ _ _) hvl hv hbl hb1;obtain⟨e3,e4⟩:=head (S':=⟨roB kb S.bx,S.hp⟩) e1 e2
    refine zpL (fun n a' w'=>∃vs bs H β' lam',zfr step n (vs++bs) H=some (ctl,lo,Ho)∧Good C.P w0 H0 β0 (zfb W ks (vs++bs) fr 0) ⟨zj1 kb ((vs++bs).drop ks.length) S.bx,H⟩ a' w' β' lam' ∧
     zb7 W ⟨roB kb S.bx,S.hp⟩ a β lam ⟨zj1 kb ((vs++bs).drop ks.length) S.bx,H⟩ a' β' lam') (n:=n) ⟨vs,bs,S.hp,β,lam,hn,e3,e4⟩ ?_
    intro n a1 w1 ⟨vs1,bs1,H1,β1,lam1,hit,f1,f2⟩;cases n with
    |zero=>cases hit
    |succ n=>
     unfold zfr at hit;have htr:∀{fr' S' a' w' β' lam' c' o'},ziC ks kb c' fr' S'=some o'→Good C.P w0 H0 β0 fr' S' a' w' β' lam'→zb7 (wr c []) ⟨zj1 kb ((vs1++bs1).drop ks.length) S.bx,H1⟩ a1 β1 lam1 S' a' β' lam' →
       ∃vs' bs',o'=(c',vs'++bs',S'.hp)∧Good C.P w0 H0 β0 (zfb W ks (vs'++bs') fr 0) ⟨zd6 kb ((vs'++bs').drop ks.length) S.bx,S'.hp⟩ a' w' β' lam'∧zb7 W S a β lam ⟨zd6 kb ((vs'++bs').drop ks.length) S.bx,S'.hp⟩ a' β' lam':=by
      intro fr' S' a' w' β' lam' c' o' q1 q2 q3;obtain⟨vs',bs',he,k1,k2,k3,k4⟩:=zdT q1;obtain⟨p1,p2⟩:=leave (W:=W) hG.fr q2 (f2.trans q3 (fun d hd=>hd) (fun d hd=>by rw[hWc];exact hd)) k1 k2 k3 k4;exact⟨vs',bs',he,p1,p2⟩
     split at hit
     ·rename_i l' H' hs;rw[←hstep]at hs;refine zbi hh hdraw hm c hs f1 ⟨fun fr' S' a' w' β' lam' g1 g2 g3=>?_,fun id fr' S' a' w' β' lam' g1 g2 g3=>?_,fun v fr' S' a' w' β' lam' v' g1 g2 g3 g4 g5=>?_,fun hp xx x fr' S' a' w' β' lam' x' g1 g2 g3 g4 g5=>?_⟩
      ·obtain⟨vs',bs',he,p1,p2⟩:=htr g1 g2 g3;cases he;obtain⟨p3,p4⟩:=head p1 p2;exact⟨n,Nat.lt_succ_self n,vs',bs',_,β',lam',hit,p3,p4⟩
      ·obtain⟨vs',bs',he,p1,p2⟩:=htr g1 g2 g3;cases he
      ·cases g1
      ·cases g1
     ·rename_i hne;have hs:=hit;rw[←hstep]at hs;refine zbi hh hdraw hm c hs f1 ⟨fun fr' S' a' w' β' lam' g1 g2 g3=>?_,fun id fr' S' a' w' β' lam' g1 g2 g3=>?_,fun v fr' S' a' w' β' lam' v' g1 g2 g3 g4 g5=>?_,fun hp xx x fr' S' a' w' β' lam' x' g1 g2 g3 g4 g5=>?_⟩
      ·obtain⟨vs',bs',he,p1,p2⟩:=htr g1 g2 g3;cases he;exact absurd hit (hne _ _)
      ·obtain⟨vs',bs',he,p1,p2⟩:=htr g1 g2 g3;cases he;exact hC.exit id _ _ _ _ _ _ h2 p1 p2
      ·cases g1;exact hC.ret v fr' S' a' w' β' lam' v' h2 g2 (f2.kept.trans g3 (fun d hd=>hd) (fun d hd=>by rw[hWc];exact hd)) g4 g5
      ·cases g1;exact hC.pan hp xx x fr' S' a' w' β' lam' x' h2 g2 (f2.kept.trans g3 (fun d hd=>hd) (fun d hd=>by rw[hWc];exact hd)) g4 g5
   ·cases hlo
  ·cases h2
 |.exit id,α,fr,S,k,r,Q,a,w,β,lam,h,hG,hC=>wp_exit (hC.exit id _ _ _ _ _ _ h hG (zb7.refl _ _ _ _ _))
 |.ret,α,fr,S,k,r,Q,a,w,β,lam,h,hG,hC=>by
  simp only[exec]at h;obtain⟨vs,v',h1,h2,h3⟩:=zfB hG.rel hG.fr h;exact wp_ret (hC.ret _ fr S a w β lam v' h1 hG (zb7.refl _ S _ _ lam).kept h2 h3)
 |.rangeFunc _ _ _ _,_,_,_,_,_,_,_,_,_,_,h,_,_=>by simp[exec]at h
 |.scope _,_,_,_,_,_,_,_,_,_,_,h,_,_=>by simp[exec]at h
 |.label _,_,_,_,_,_,_,_,_,_,_,h,_,_=>by simp[exec]at h
 |.goto _,_,_,_,_,_,_,_,_,_,_,h,_,_=>by simp[exec]at h
 |.refuse _,_,_,_,_,_,_,_,_,_,_,h,_,_=>by simp[exec]at h
end
theorem zpA{P:Program}{O:Orc}{h:zag}{f:FuncId}{w:World}{H:Hp}{β:Bt}{fr:Fr}{S:St}{a:Act}{w':World}{β':Bt}{lam:Nat→Nat}{v v':Value}
  (hG:Good P w H β fr S a w' β' lam) (hv:VRel β' v v'):Ends P (O.pan f) w H β (ziq ⟨P,O,h,f⟩ v) S.hp (.returned v') w':=by
 unfold Ends ziq;dsimp only;cases O.pan f with
 |false=>exact⟨v',β',rfl,hG.rel,hG.ext,hv⟩
 |true=>exact⟨v',β',hG.rel,hG.ext,.inl ⟨v,rfl,rfl,hv⟩⟩
theorem zkQ{P:Program}{H:Hp}{β:Bt}{w:World}{n:Nat}{args args':List Value}(hargs:LRel β args args')(hR:Rel P w H β) :
  Good P w H β (args.map .val++List.replicate (n-args.length) .unk) ⟨fun _=>none,H⟩ { tmps:=args'.toArray++Array.replicate (n-args'.toArray.size) undef,defers:=[] } w β (fun _=>0):=by
 have hl:=hargs.1;refine⟨hR,⟨?_,fun d s hs=>?_,fun d c hc=>(by cases hc),fun d d' hd=>(by cases hd)⟩,Ext.refl _ _ _ _⟩
 ·simp[hl]
 ·by_cases hlt:d<args.length
  ·rw[List.getElem?_append_left (by simpa using hlt)]at hs;simp only[List.getElem?_map]at hs;cases ha:args[d]? with
   |none=>rw[ha]at hs;cases hs
   |some u=>
    rw[ha]at hs;cases hs;obtain⟨u',hu',hr⟩:=hargs.get ha;have hlt':d<args'.length:=hl▸hlt;show VRel β u _;rw[Array.getD_eq_getD_getElem?,Array.getElem?_append_left (by simpa using hlt')];simp only[List.getElem?_toArray,hu',Option.getD_some];exact hr
  ·rw[List.getElem?_append_right (by simpa using hlt)]at hs;have:=mem_of_getElem? hs;rw[mem_replicate]at this;rw[this.2];trivial
section
variable {α:Type}{P:Program}{O:Orc}{h:zag}
theorem zne{x:Option (Value×Hp)}{k:Value→Hp→Option α}{r:α}(h:zg6 x k=some r):∃v H,x=some (v,H)∧k v H=some r:=by
 unfold zg6 at h;split at h
 ·exact⟨_,_,rfl,h⟩
 ·cases h
theorem zpV{c:Code}{d:Option Tmp}{b:Code}(h:zoX c=some (d,b)):∃id o cl,c=.seq (.region id #[o] false) b∧o.guard=none∧o.op=.call cl∧cl.callee=.builtin .recover∧o.dst=d:=by
 unfold zoX at h;split at h
 ·rename_i id ops b';split at h
  ·rename_i o hl;have hops:ops = #[o]:=by apply Array.ext';simpa using hl
   subst hops;split at h
   ·rename_i cl hg ho;split at h
    ·rename_i hc _;cases h;exact⟨id,o,cl,rfl,hg,ho,hc,rfl⟩
    ·cases h
   ·cases h
  ·cases h
 ·cases h
theorem zom(hh:SimC P O h){g:FuncId}(hdraw:zou ⟨P,O,h,g⟩)(hm:P.follows .mixedOrders=true){args:List Value}{x:Value}{H:Hp}{k:Hp→Option α}{r:α}(hc:zg1 P O h g args x H k=some r)
  {args':List Value} {x':Value} {w:World} {β:Bt} (ha:LRel β args args') (hx:VRel β x x') (hR:Rel P w H β) (u:FrameMode) (hu:(u=.returning∧x'=.nilIface)∨u=.panicking [{ v:=x',recovered:=false }]) :
  zno P g∧∃H',k H'=some r∧CallsD P g args'.toArray u w fun e u' w'=>∃v' β',e=.returned v'∧settle u'=.returning∧Rel P w' H' β'∧Ext w.heap.size w H β w' H' β':=by
 unfold zg1 at hc;split at hc
 ·cases hc
 ·rename_i fn hf;split at hc
  ·rename_i c hn hpan hb;split at hc
   ·rename_i d b hrec;obtain⟨v,H1,hex,hk⟩:=zne hc;obtain⟨id,o,cl,rfl,hg,ho,hcl,rfl⟩:=zpV hrec;refine⟨⟨fn,hf,hn,by rw[hb];rfl⟩,H1,hk,callsD_of_wpS hf hb fun c₀ cs hmode=>wpS_seq (wpS_region ?_)⟩;have hG0:=zkQ (n:=fn.ntmps) ha hR;generalize ha0:({ tmps:=args'.toArray++Array.replicate (fn.ntmps-args'.toArray.size) undef,defers:=[] }:Act)=a0 at hG0 ⊢;have hd0:a0.defers=[]:=by rw[←ha0]
    have rest:∀cs1 u1,cs1={ c₀ with mode:=u1 }::cs→settle u1=.returning→b.wpS P (bodyPostS P fn c₀ cs fun e u' w'=>∃v' β',e=.returned v'∧settle u'=.returning∧Rel P w' H1 β'∧Ext w.heap.size w H β w' H1 β') (a0.put o.dst x') cs1 w:=by
     intro cs1 u1 hcs hset;refine wpS_of_wp ?_;have hG1:Good P w H β (putS (args.map .val++List.replicate (fn.ntmps-args.length) .unk) o.dst (.val x)) ⟨fun _=>none,H⟩ (a0.put o.dst x') w β (fun _=>0):=⟨hG0.rel,hG0.fr.put (s:=.val x) hx _,hG0.ext⟩
     have hd1:(a0.put o.dst x').defers=[]:=by rw[←hd0];cases o.dst<;>rfl
     refine zbi (C:=⟨P,O,h,g⟩) (w0:=w) (H0:=H) (β0:=β) (fn:=fn) hh hdraw hm b hex hG1 ⟨fun fr S a w' β' lam g1 g2 g3=>?_,fun id fr S a w' β' lam g1 g2 g3=>(by cases g1),fun v1 fr S a w' β' lam v' g1 g2 g3 g4 g5=>?_,fun hp xx x fr S a w' β' lam x' g1 g2 g3 g4 g5=>?_⟩
     ·obtain⟨vs,v',h1,h2,h3⟩:=zfB g2.rel g2.fr g1;cases h1;exact⟨g3.dfr.trans hd1,u1,hcs,v',h3,v',β',rfl,hset,g2.rel,g2.ext⟩
     ·cases g1;exact⟨g3.dfr.trans hd1,u1,hcs,v',g5,v',β',rfl,hset,g2.rel,g2.ext⟩
     ·have hp:O.pan g=true:=hp;rw[hpan]at hp;cases hp
    show wpOpsS P #[o] _ [0] a0 (c₀::cs) w;have hw:Region.wanted o (yielded #[o] a0.tmps)=true:=by simp[Region.wanted,hg]
    have hrun:(execOp a0.eval o).run P w=.ok .recover w:=by simp only[execOp,ho,resolve,hcl,Sem.run_bind,Sem.run_pure,Result.andThen_ok,invoke,builtin]
    have hget:(#[o]:Array Oper)[0]?=some o:=rfl;simp only[wpOpsS,hget,hw,if_true,hrun];rcases hu with⟨rfl,rfl⟩|rfl
    ·have hr0:recoverD (c₀::cs)=none:=by simp[recoverD,hmode]
     rw[hr0];refine rest (c₀::cs) .returning ?_ rfl;have:({ c₀ with mode:=.returning }:Frame)=c₀:=by rw[←hmode]
     rw[this]
    ·have hr0:recoverD (c₀::cs)=some (x',{ c₀ with mode:=.panicking [{ v:=x',recovered:=true }] }::cs):=by simp[recoverD,hmode]
     rw[hr0];exact rest _ (.panicking [{ v:=x',recovered:=true }]) rfl rfl
   ·cases hc
  ·cases hc
theorem mapM_len{rs:List ResultVar}{tmps:Array Value}:∀{w1 w2:World} {vs:List Value},(rs.mapM (resM tmps)).run P w1=.ok vs w2→vs.length=rs.length:=by
 induction rs with
 |nil=>intro w1 w2 vs h;simp only[mapM_nil,Sem.run_pure]at h;cases h;rfl
 |cons r rs ih=>
  intro w1 w2 vs h;simp only[mapM_cons,Sem.run_bind]at h;cases hq:(resM tmps r).run P w1 with
  |halt x w'=>rw[hq]at h;cases h
  |ok v w'=>
   rw[hq]at h;simp only[Result.andThen_ok]at h;cases hq2:(rs.mapM (resM tmps)).run P w' with
   |halt x w'=>rw[hq2]at h;cases h
   |ok l w''=>
    rw[hq2]at h;simp only[Result.andThen_ok,Sem.run_pure]at h;cases h;simp[ih hq2]
theorem znP{β:Bt}{tmps:Array Value}:∀(rs:List ResultVar) {w1 w2:World} {vs vs' tv:List Value},(rs.mapM (resM tmps)).run P w1=.ok vs' w2→LRel β vs vs'→zp4 rs vs=some tv→LRel β tv ((ze4 rs).map fun t=>tmps.getD t undef)
 |[],w1,w2,vs,vs',tv,h,hl,hp=>by
  simp only[mapM_nil,Sem.run_pure]at h;cases h;cases vs with
  |nil=>cases hp;exact LRel.nil _
  |cons v vs=>cases hl.1
 |r::rs,w1,w2,vs,vs',tv,h,hl,hp=>by
  simp only[mapM_cons,Sem.run_bind]at h;cases hq:(resM tmps r).run P w1 with
  |halt x w'=>rw[hq]at h;cases h
  |ok v' w'=>
   rw[hq]at h;simp only[Result.andThen_ok]at h;cases hq2:(rs.mapM (resM tmps)).run P w' with
   |halt x w'=>rw[hq2]at h;cases h
   |ok l w''=>
    rw[hq2]at h;simp only[Result.andThen_ok,Sem.run_pure]at h;cases h;cases vs with
    |nil=>cases hl.1
    |cons v vs=>
     have hv:VRel β v v':=hl.2 0 v v' rfl rfl;have hl2:LRel β vs l:=⟨Nat.succ.inj hl.1,fun i x x' h1 h2=>hl.2 (i+1) x x' h1 h2⟩
     cases r with
     |tmp t=>
      unfold zp4 at hp;split at hp
      ·rename_i l' hl';cases hp;have:v'=tmps.getD t undef:=by simp only[resM,Sem.run_pure]at hq;cases hq;rfl
       rw[this]at hv;exact(znP rs hq2 hl2 hl').cons hv
      ·cases hp
     |cell t T=>
      unfold zp4 at hp;exact znP rs hq2 hl2 hp
theorem unRes_ok{fn:Func}{tmps:Array Value}{β:Bt}{w:World}{u v':Value}{k:List Value→Option α}{r:α}(hr:(results fn tmps).run P w=.ok v' w)(hv:VRel β u v')(h:zk2 fn.results.toList u k=some r) :
  ∃vs vs',k vs=some r∧LRel β vs vs'∧(fn.results.toList.mapM (resM tmps)).run P w=.ok vs' w:=by
 rw[zhh]at hr;cases hq:(fn.results.toList.mapM (resM tmps)).run P w with
 |halt x w'=>rw[hq]at hr;cases hr
 |ok l w'=>
  rw[hq]at hr;simp only[Result.andThen_ok]at hr;cases hr;have hlen:=mapM_len hq;generalize hrs:fn.results.toList=rs at *
  match rs,l,hlen with
  |[],[],_=>
   unfold zk2 at h;split at h
   ·rename_i e;cases e
   ·split at h
    ·obtain⟨ys,h1,h2⟩:=zch.1 hv;simp at h1;exact⟨_,_,h,(by subst h1;exact h2),rfl⟩
    ·cases h
  |[_],[v1],_=>
   unfold zk2 at h;exact⟨_,_,h,(LRel.nil _).cons hv,rfl⟩
  |_::_::_,v1::v2::l,_=>
   unfold zk2 at h;split at h
   ·rename_i e;cases e
   ·split at h
    ·obtain⟨ys,h1,h2⟩:=zch.1 hv;simp at h1;exact⟨_,_,h,(by subst h1;exact h2),rfl⟩
    ·cases h
theorem zpB{C:Ctx}{N:Nat}{w:World}{bx:Nat→Option Bx}{β0 β:Bt}{lam:Nat→Nat}{fr:Fr}{a a2:Act}{H0 H:Hp}{w0:World}(hR0:Rel C.P w0 H0 β0)(hF:FRel N w0 bx β0 lam fr a)(hle:β0.le β)(hR:Rel C.P w H β){W:List Nat}(hk:∀d,d∉W→a2.tmps.getD d undef=a.tmps.getD d undef){r:α} :
  ∀(rs:List ResultVar) (tv:List Value) (k:List Value→Option α),zhw W rs=true→LRel β tv ((ze4 rs).map fun t=>a2.tmps.getD t undef)→endL C.P fr H rs tv k=some r →
   ∃vs vs',k vs=some r∧LRel β vs vs'∧(rs.mapM (resM a2.tmps)).run C.P w=.ok vs' w
 |[],tv,k,hc,ht,h=>by
  cases tv with
  |nil=>exact⟨[],[],h,LRel.nil _,rfl⟩
  |cons v tv=>cases h
 |.tmp t::rs,tv,k,hc,ht,h=>by
  cases tv with
  |nil=>cases h
  |cons v tv=>
   have ht:LRel β (v::tv) (a2.tmps.getD t undef::(ze4 rs).map fun t=>a2.tmps.getD t undef):=ht;obtain⟨vs,vs',h2,h3,h4⟩:=zpB hR0 hF hle hR hk rs tv _ hc ⟨Nat.succ.inj ht.1,fun i x x' h1 h2=>ht.2 (i+1) x x' h1 h2⟩ h;refine⟨v::vs,a2.tmps.getD t undef::vs',h2,h3.cons (ht.2 0 v _ rfl rfl),?_⟩;simp only[mapM_cons,Sem.run_bind,resM,Sem.run_pure,Result.andThen_ok,h4]
 |.cell t T::rs,tv,k,hc,ht,h=>by
  unfold zhw at hc;rw[Bool.and_eq_true]at hc;have htW:t∉W:=by simpa using hc.1
  unfold endL at h;obtain⟨i,d,hi,hd,h⟩:=zha h;obtain⟨p,hp,h⟩:=za2 hR0 hF (x:=.tmp t) h;have hx:VRel β p (a2.tmps.getD t undef):=by rw[hk t htW];exact hp.mono hle
  unfold zal at h;split at h
  ·rename_i v hv;unfold Hp.rdP at hv;split at hv
   ·rename_i i0 off;generalize hq:a2.tmps.getD t undef=q at hx;cases hx with
    |ptr _ _ y hy=>
    unfold Hp.rd at hv;split at hv
    ·rename_i cs own hg;obtain⟨y',hy',h1,_⟩:=hR.cells i0 cs own hg;rw[hy]at hy';cases hy';obtain⟨v',hrun,hrel⟩:=zdM hi hd h1 hv;obtain⟨vs,vs',h2,h3,h4⟩:=zpB hR0 hF hle hR hk rs tv _ hc.2 ht h;refine⟨v::vs,v'::vs',h2,h3.cons hrel,?_⟩;simp only[mapM_cons,Sem.run_bind,resM,hq,asAddr,Sem.run_pure,Result.andThen_ok,hrun,h4]
    ·rename_i cs e fz hg;obtain⟨v',hrun,hrel⟩:=zlh hR hi hd hg hy hv;obtain⟨vs,vs',h2,h3,h4⟩:=zpB hR0 hF hle hR hk rs tv _ hc.2 ht h;refine⟨v::vs,v'::vs',h2,h3.cons hrel,?_⟩;simp only[mapM_cons,Sem.run_bind,resM,hq,asAddr,Sem.run_pure,Result.andThen_ok,hrun,h4]
    ·cases hv
   ·cases hv
  ·cases h
theorem zqn{c:Code}{o1:Oper}{fo:Operand}(h:zpF c=some (o1,fo)):∃id o2 cl,c=.region id #[o1,o2] false∧o1.guard=none∧o2.guard=none∧o2.dst=none∧o2.op=.defer cl∧cl.callee=.value fo∧cl.args = #[]:=by
 unfold zpF at h;split at h
 ·rename_i id ops;split at h
  ·rename_i p1 p2 hl;have hops:ops = #[p1,p2]:=by apply Array.ext';simpa using hl
   subst hops;split at h
   ·rename_i cl h1 h2 h3 h4;split at h
    ·rename_i fo' h5 h6;cases h;exact⟨id,p2,cl,rfl,h1,h2,h3,h4,h5,by apply Array.ext';simpa using h6⟩
    ·cases h
   ·cases h
  ·cases h
 ·cases h
theorem deferC_fn{C:Ctx}{rs:List ResultVar}{b:Code}{fr:Fr}{S:St}{fo:Operand}{r:Value×Hp}{N:Nat}{w:World}{β:Bt}{lam:Nat→Nat}{a:Act}(hR:Rel C.P w S.hp β)(hF:FRel N w S.bx β lam fr a)(h:zhW C rs b fr S fo=some r) :
  ∃g cs',a.eval fo=.func (.func g) #[] (List.toArray cs'):=by
 unfold zhW at h;split at h
 ·cases h
 ·obtain⟨fv,hfv,h⟩:=za2 hR hF h;unfold pClos at h;split at h
  ·rename_i g cs;generalize hq:a.eval fo=q at hfv;cases hfv with
   |func fn fs fs' cs1 cs' hl hh1 hl2 hh2=>
    have:fs'=[]:=length_eq_zero_iff.1 hl.symm;subst this;exact⟨g,cs',rfl⟩
  ·cases h
theorem zm6{C:Ctx}(hp:C.O.pan C.f=true)(hdf:C.O.dfr C.f=true)(hh:SimC C.P C.O C.h)(hdr:∀g,zou ⟨C.P,C.O,C.h,g⟩)(hm:C.P.follows .mixedOrders=true){fn:Func}{b:Code}{fo:Operand}{w0:World}{H0:Hp}{β0:Bt}{fr:Fr}{S:St}{a:Act}{w:World}{β:Bt}{lam:Nat→Nat}{v:Value}{H':Hp}
  (h:zhW C fn.results.toList b fr S fo=some (v,H')) (hG:Good C.P w0 H0 β0 fr S a w β lam) {d:Deferred} (hd:a.defers=[d]) (hfo:∀g cs',a.eval fo=.func (.func g) #[] (List.toArray cs')→d={ target:=.fn (.func g) (List.toArray cs'),args:=#[] }) :
  b.wp C.P (bodyPostD C.P fn (Ends C.P true w0 H0 β0 v H')) a w:=by
 unfold zhW at h;split at h
 ·cases h
 rename_i hcells;obtain⟨fv,hfv,h1⟩:=za2 hG.rel hG.fr h;clear h;unfold pClos at h1;split at h1
 ·rename_i g cs;generalize hq:a.eval fo=q at hfv;cases hfv with
  |func fn' fs fs' cs1 cs' hl hh1 hl2 hh2=>
  have hfs:fs'=[]:=length_eq_zero_iff.1 hl.symm;subst hfs;have hd':=hfo g cs' hq;obtain⟨v1,H1,hex,h⟩:=zne h1;clear h1;have fin:∀{fr1:Fr} {S1:St} {a1:Act} {w1:World} {β1:Bt} {lam1:Nat→Nat} (g2:Good C.P w0 H0 β0 fr1 S1 a1 w1 β1 lam1) (g3:Kept (wr b []) a β a1 β1) (x x':Value) (hx:VRel β1 x x') (u:FrameMode) (hu:(u=.returning∧x'=.nilIface)∨u=.panicking [{ v:=x',recovered:=false }])
    (tv:List Value) (htv:LRel β1 tv ((ze4 fn.results.toList).map fun t=>a1.tmps.getD t undef)) (hc:(zg1 C.P C.O C.h g cs x S1.hp fun H'=>endL C.P fr H' fn.results.toList tv fun vs=>some (W1 (resV vs),H'))=some (v,H')),
    Leaves C.P fn a1.tmps (Ends C.P true w0 H0 β0 v H') a1.defers u w1:=by
   intro fr1 S1 a1 w1 β1 lam1 g2 g3 x x' hx u hu tv htv hc;have hcs:LRel β cs cs':=⟨hl2,hh2⟩
   obtain⟨hen,H2,hk,hcalls⟩:=zom hh (hdr g) hm hc (hcs.monoL g3.le) hx g2.rel u hu;rw[g3.dfr,hd,hd'];refine leaves_cons (f:=g) (args:=cs'.toArray) (by rcases hu with⟨rfl,_⟩|rfl<;>simp) ?_ (hcalls.mono fun e u' w' he=>?_)
   ·show (callFunc g (#[]++cs'.toArray)).run C.P w1=_;rw[zfw hen];simp
   ·obtain⟨v2,β2,rfl,hset,hR2,hE2⟩:=he;show Leaves C.P fn a1.tmps _ [] (settle u') w';rw[hset];obtain⟨vs,vs',h2,h3,h4⟩:=zpB hG.rel hG.fr (Bt.le_trans g3.le hE2.le) hR2 g3.tmps fn.results.toList tv _ hcells (htv.monoL hE2.le) hk;cases h2;exact⟨_,by rw[zhh,h4];rfl,_,β2,hR2,g2.ext.trans (hE2.weaken g2.n),.inl ⟨_,rfl,rfl,zoS h3⟩⟩
  have ret:∀{fr1:Fr} {S1:St} {a1:Act} {w1:World} {β1:Bt} {lam1:Nat→Nat} (g2:Good C.P w0 H0 β0 fr1 S1 a1 w1 β1 lam1) (g3:Kept (wr b []) a β a1 β1) (u0 v':Value) (hv:VRel β1 u0 v') (hres:(results fn a1.tmps).run C.P w1=.ok v' w1),v1=ziq C u0→H1=S1.hp →
    Leaves C.P fn a1.tmps (Ends C.P true w0 H0 β0 v H') a1.defers .returning w1:=by
   intro fr1 S1 a1 w1 β1 lam1 g2 g3 u0 v' hv hres e1 e2;have e3:ziq C u0=W1 u0:=by unfold ziq;rw[hp]
   rw[e1,e3,e2]at h;have h:(zk2 fn.results.toList u0 fun vs=>zmB fn.results.toList vs fun tv=>zg1 C.P C.O C.h g cs .nilIface S1.hp fun H'=>endL C.P fr H' fn.results.toList tv fun vs=>some (W1 (resV vs),H'))=some (v,H'):=h;obtain⟨vs,vs',q1,q2,q3⟩:=unRes_ok hres hv h;unfold zmB at q1;split at q1
   ·rename_i tv htv;exact fin g2 g3 .nilIface .nilIface .nilIface .returning (.inl ⟨rfl,rfl⟩) tv (znP _ q3 q2 htv) q1
   ·cases q1
  refine zbi (C:=C) (fn:=fn) hh (hdr C.f) hm b hex hG ⟨fun fr1 S1 a1 w1 β1 lam1 g1 g2 g3=>?_,fun id fr S a w' β' lam g1 g2 g3=>(by cases g1),fun u0 fr1 S1 a1 w1 β1 lam1 v' g1 g2 g3 g4 g5=>?_,fun _ xx x fr1 S1 a1 w1 β1 lam1 x' g1 g2 g3 g4 g5=>?_⟩
  ·obtain⟨vs,v',h1,h2,h3⟩:=zfB g2.rel g2.fr g1;cases h1;exact ret g2 g3.kept _ v' h2 h3 rfl rfl
  ·cases g1;exact ret g2 g3 _ v' g4 g5 rfl rfl
  ·cases g1;unfold PanR at g5;rw[hdf]at g5;obtain⟨vs,rfl,hvs⟩:=g5;exact fin g2 g3 x x' g4 _ (.inr rfl) vs hvs h
 ·cases h1
theorem zgo{C:Ctx}(hp:C.O.pan C.f=true)(hdf:C.O.dfr C.f=true)(hh:SimC C.P C.O C.h)(hdr:∀g,zou ⟨C.P,C.O,C.h,g⟩)(hm:C.P.follows .mixedOrders=true){fn:Func}{w0:World}{H0:Hp}{β0:Bt}{v:Value}{H':Hp} :
  ∀(c:Code) {fr:Fr} {S:St} {a:Act} {w:World} {β:Bt} {lam:Nat→Nat},zm3 C fn.results.toList c fr S=some (v,H')→Good C.P w0 H0 β0 fr S a w β lam→a.defers=[]→c.wp C.P (bodyPostD C.P fn (Ends C.P true w0 H0 β0 v H')) a w
 |.seq x y,fr,S,a,w,β,lam,h,hG,hd=>by
  have retK:∀{fr1:Fr} {S1:St} {a1:Act} {w1:World} {β1:Bt} {lam1:Nat→Nat} {u0 v':Value} (g1:retT (ziq C u0) S1.hp=some (v,H')) (g2:Good C.P w0 H0 β0 fr1 S1 a1 w1 β1 lam1) (g3:a1.defers=[]) (g4:VRel β1 u0 v') (g5:(results fn a1.tmps).run C.P w1=.ok v' w1),
    Leaves C.P fn a1.tmps (Ends C.P true w0 H0 β0 v H') a1.defers .returning w1:=by
   intro fr1 S1 a1 w1 β1 lam1 u0 v' g1 g2 g3 g4 g5;have e3:ziq C u0=W1 u0:=by unfold ziq;rw[hp]
   rw[e3]at g1;cases g1;rw[g3];exact⟨v',g5,v',β1,g2.rel,g2.ext,.inl ⟨u0,rfl,rfl,g4⟩⟩
  unfold zm3 at h;split at h
  ·rename_i o1 fo hdef;obtain⟨id,o2,cl,rfl,h1,h2,h3,h4,h5,h6⟩:=zqn hdef;refine wp_seq (wp_region ?_);show wpOps C.P #[o1,o2] _ [0,1] a w;have hw1:∀y,Region.wanted o1 y=true:=fun y=>by simp[Region.wanted,h1]
   have hw2:∀y,Region.wanted o2 y=true:=fun y=>by simp[Region.wanted,h2]
   have hget:(#[o1,o2]:Array Oper)[0]?=some o1:=rfl;have hget2:(#[o1,o2]:Array Oper)[1]?=some o2:=rfl;simp only[wpOps,hget,hget2,hw1,hw2,if_true];refine .inl (zig hh hG.n h hG.rel hG.fr fun s S' w' v' β' lam' g1 g2 g3 g4 g5 g6=>?_);have hG1:Good C.P w0 H0 β0 (putS fr o1.dst s) S' (a.put o1.dst v') w' β' lam':=⟨g2,g3.put g4 _,hG.ext.trans g5⟩
   obtain⟨g,cs',hfo⟩:=deferC_fn hG1.rel hG1.fr g1;have hd1:(a.put o1.dst v').defers=[]:=by rw[←hd];cases o1.dst<;>rfl
   generalize a.put o1.dst v'=a1 at hG1 hfo hd1 ⊢;have hrun:(execOp a1.eval o2).run C.P w'=.ok (.defer { target:=.fn (.func g) (List.toArray cs'),args:=#[] }) w':=by simp only[execOp,h4,resolve,h5,h6,hfo,Deferred.ofValue,Sem.run_bind,Sem.run_pure,Result.andThen_ok];simp
   refine .inl ?_;unfold Oper.wp;rw[hrun];show Code.wp C.P y _ ({ a1 with defers:=_::a1.defers }.put o2.dst undef) w';rw[h3,hd1];refine zm6 hp hdf hh hdr hm g1 (d:={ target:=.fn (.func g) (List.toArray cs'),args:=#[] }) ⟨hG1.rel,⟨hG1.fr.size,hG1.fr.slot,hG1.fr.box,hG1.fr.apart⟩,hG1.ext⟩ rfl fun g' cs2 he=>?_;have he:a1.eval fo=.func (.func g') #[] (List.toArray cs2):=he;rw[hfo]at he;cases he;rfl
  ·split at h
   ·refine wp_seq (zbi (C:=C) (fn:=fn) hh (hdr C.f) hm x h hG ⟨fun fr' S' a' w' β' lam' g1 g2 g3=>?_,fun id fr' S' a' w' β' lam' g1 g2 g3=>(by cases g1),fun u0 fr1 S1 a1 w1 β1 lam1 v' g1 g2 g3 g4 g5=>?_,fun _ xx x fr1 S1 a1 w1 β1 lam1 x' g1 g2 g3 g4 g5=>?_⟩)
    ·exact zgo hp hdf hh hdr hm y g1 g2 (g3.dfr.trans hd)
    ·exact retK g1 g2 (g3.dfr.trans hd) g4 g5
    ·cases g1
   ·rename_i ks kb hj;unfold zau at h;split at h
    ·rename_i c l H1 hx1;refine wp_seq (zbi (C:=C) (fn:=fn) hh (hdr C.f) hm x hx1 (hG.ro (zmi kb S.bx)) ⟨fun fr' S' a' w' β' lam' g1 g2 g3=>?_,fun id fr' S' a' w' β' lam' g1 g2 g3=>?_,fun v fr' S' a' w' β' lam' v' g1 g2 g3 g4 g5=>?_,fun _ xx x fr1 S1 a1 w1 β1 lam1 x' g1 g2 g3 g4 g5=>?_⟩)
     ·obtain⟨vs,bs,he,h1,h2,h3,h4⟩:=zdT g1;cases he;obtain⟨q1,q2⟩:=leave hG.fr g2 g3 h1 h2 h3 h4;exact zgo hp hdf hh hdr hm y h q1 (g3.dfr.trans hd)
     ·obtain⟨vs,bs,he,h1,h2,h3,h4⟩:=zdT g1;cases he;cases h
     ·cases g1;exact retK h g2 (g3.dfr.trans hd) g4 g5
     ·cases g1;cases h
    ·cases h
 |.skip,_,_,_,_,_,_,h,_,_=>by cases h
 |.region ..,_,_,_,_,_,_,h,_,_=>by cases h
 |.cond ..,_,_,_,_,_,_,h,_,_=>by cases h
 |.block ..,_,_,_,_,_,_,h,_,_=>by cases h
 |.loop ..,_,_,_,_,_,_,h,_,_=>by cases h
 |.exit _,_,_,_,_,_,_,h,_,_=>by cases h
 |.ret,_,_,_,_,_,_,h,_,_=>by cases h
 |.rangeFunc _ _ _ _,_,_,_,_,_,_,h,_,_=>by cases h
 |.scope _,_,_,_,_,_,_,h,_,_=>by cases h
 |.label _,_,_,_,_,_,_,h,_,_=>by cases h
 |.goto _,_,_,_,_,_,_,h,_,_=>by cases h
 |.refuse _,_,_,_,_,_,_,h,_,_=>by cases h
end
end Go.AM
namespace Go.AM
open Go
abbrev Ext1:=FuncId→Option (List Value→Hp→Option (Value×Hp))
def ExtC(P:Program)(ext:Ext1):Prop:=∀f e,ext f=some e→∀args H v H',e args H=some (v,H')→∀args' w β,LRel β args args'→Rel P w H β →
 Calls P f args'.toArray w fun x w'=>∃v' β',x=.returned v'∧Rel P w' H' β'∧Ext w.heap.size w H β w' H' β'∧VRel β' v v'
def ExtO(O:Orc)(ext:Ext1):Prop:=∀f,(ext f).isSome=true∨(O.xt f).isSome=true→O.pan f=false
def DrawsS(P:Program):Prop:=∀O h f,SimC P O h→zou ⟨P,O,h,f⟩
theorem zon{P:Program}{O:Orc}{ext:Ext1}{h:zag}(hm:P.follows .mixedOrders=true)(hd:DrawsS P)(he:ExtC P ext)(hx:XtC P O.xt)(ho:ExtO O ext)(hh:SimC P O h):SimC P O (zh5 P O ext h):=by
 intro f args H v H' hc;unfold zh5 at hc;split at hc
 ·cases hc
 ·rename_i fn hf;split at hc
  ·cases hc
  ·rename_i hname;split at hc
   ·rename_i hb;split at hc
    ·rename_i e hxe;split at hc
     ·rename_i v1 hv1;cases hc;exact .inr ⟨ho f (.inr (by rw[hxe];rfl)),rfl,⟨fn,hf,hb⟩,hx f e hxe _ _ hv1⟩
     ·cases hc
    ·cases hc
   ·rename_i c hb;refine .inl ⟨⟨fn,hf,hname,by rw[hb];rfl⟩,fun args' w β hargs hR=>?_⟩;split at hc
    ·rename_i e hext;unfold Ends;rw[ho f (.inl (by rw[hext];rfl))];exact he f e hext _ _ _ _ hc _ _ _ hargs hR
    ·have hG:=zkQ (n:=fn.ntmps) hargs hR;have hdr:∀g,zou ⟨P,O,h,g⟩:=fun g=>hd O h g hh;unfold zqh at hc;dsimp only at hc;split at hc
     ·rename_i hdf;refine calls_of_wp hf hb ?_;refine zbi (C:=⟨P,O,h,f⟩) (w0:=w) (H0:=H) (β0:=β) hh (hd O h f hh) hm c hc hG ⟨fun fr S a w' β' lam g1 g2 g3=>?_,fun id fr S a w' β' lam g1 g2 g3=>(by cases g1),fun v1 fr S a w' β' lam v' g1 g2 g3 g4 g5=>?_,fun hp xx x fr S a w' β' lam x' g1 g2 g3 g4 g5=>?_⟩
      ·obtain⟨vs,v',h1,h2,h3⟩:=zfB g2.rel g2.fr g1;cases h1;refine⟨g3.dfr,v',h3,?_⟩;exact zpA g2 h2
      ·cases g1;exact⟨g3.dfr,v',g5,zpA g2 g4⟩
      ·cases g1;refine⟨g3.dfr,?_⟩;unfold PanR at g5;rw[show O.dfr f=false from hdf]at g5;dsimp only at g5;subst g5;unfold Ends;rw[show O.pan f=true from hp];exact⟨x',β',g2.rel,g2.ext,.inr ⟨_,rfl,rfl,g4⟩⟩
     ·rename_i hdf;split at hc
      ·rename_i hp;refine calls_of_wp_defers hf hb ?_;rw[hp];exact zgo (C:=⟨P,O,h,f⟩) hp hdf hh hdr hm c hc hG rfl
      ·cases hc
theorem zkb{P:Program}{O:Orc}{ext:Ext1}(hm:P.follows .mixedOrders=true)(hd:DrawsS P)(he:ExtC P ext)(hx:XtC P O.xt)(ho:ExtO O ext):∀n,SimC P O (runN P O ext n)
 |0=>fun f args H v H' h=>by cases h
 |n+1=>zon hm hd he hx ho (zkb hm hd he hx ho n)
theorem zoQ{P:Program}{O:Orc}{ext:Ext1}{f:FuncId}{args:List Value}{H:Hp}{r:Value×Hp}(h:run P O ext f args H=some r):∃n,runN P O ext n f args H=some r:=by
 unfold run at h;split at h
 ·rename_i hex;obtain⟨n,hn⟩:=hex.choose_spec;have h:hex.choose=r:=by simpa using h
  exact⟨n,by rw[hn,h]⟩
 ·cases h
theorem run_sound{P:Program}{O:Orc}{ext:Ext1}(hm:P.follows .mixedOrders=true)(hd:DrawsS P)(he:ExtC P ext)(hx:XtC P O.xt)(ho:ExtO O ext):SimC P O (run P O ext):=fun f args H v H' h=>by obtain⟨n,hn⟩:=zoQ h;exact zkb hm hd he hx ho n f args H v H' hn
theorem run_body{P:Program}{O:Orc}{ext:Ext1}{f:FuncId}{args:List Value}{H:Hp}{r:Value×Hp}(hx:O.xt f=none)(h:run P O ext f args H=some r):¬ ∃fn,P.funcs[f]?=some fn∧fn.body=none:=by
 rintro⟨fn,hf,hb⟩
 obtain⟨n,hn⟩:=zoQ h;cases n with
 |zero=>cases hn
 |succ n=>
  have hn:zh5 P O ext (runN P O ext n) f args H=some r:=hn;unfold zh5 at hn;simp only[hf,hb,hx]at hn;split at hn<;>cases hn
end Go.AM
namespace Go.AM
open List Go
section
def opRD(C:Ctx)(fr:Fr)(S:St)(o:Oper):Option (Slot×St):=opD C fr S o fun s S'=>some (s,S')
theorem opD_nat{α:Type}(C:Ctx)(fr:Fr)(S:St)(o:Oper)(k:Slot→St→Option α):opD C fr S o k=(opRD C fr S o).bind fun p=>k p.1 p.2:=by
 unfold opRD opD;cases isLA C.O C.f o with
 |true=>
  dsimp only;cases o.dst<;>rfl
 |false=>exact znX _ _ _ _ _
theorem zcJ{C:Ctx}{o:Oper}(h:isLA C.O C.f o=false)(fr:Fr)(S:St):opRD C fr S o=opR C fr S o:=by unfold opRD opD opR;rw[h]
theorem zeN{P:Program}{O:Orc}{f:FuncId}{o:Oper}(h:isLA O f o=false):zca P O f o=zdh P o.op:=by unfold zca;rw[h]
theorem zlG{P:Program}{O:Orc}{f:FuncId}{o:Oper}(h:isLA O f o=true):zca P O f o=.pure:=by unfold zca;rw[h]
theorem zlx{C:Ctx}{fr:Fr}{S S' S2:St}{o:Oper}{s:Slot}(h:opRD C fr S o=some (s,S'))(hp:zca C.P C.O C.f o=.pure∨(zca C.P C.O C.f o=.read∧S2=S)) :
  S'=S∧opRD C fr S2 o=some (s,S2):=by
 cases hl:isLA C.O C.f o with
 |false=>
  rw[zeN hl]at hp;rw[zcJ hl]at h ⊢;exact opR_pr h hp
 |true=>
  unfold opRD opD at h ⊢;rw[hl]at h ⊢;dsimp only at h ⊢;split at h
  ·cases h;exact⟨rfl,rfl⟩
  ·cases h
theorem zp9{C:Ctx}{fr fr':Fr}{S:St}{o:Oper}(h:∀x∈o.op.operands,ev C.P.globals.size fr x=ev C.P.globals.size fr' x):opRD C fr S o=opRD C fr' S o:=by
 cases hl:isLA C.O C.f o with
 |false=>rw[zcJ hl,zcJ hl];exact opR_congr h
 |true=>
  unfold opRD opD;rw[hl]
theorem zi2{P:Program}{O:Orc}{f:FuncId}{o:Oper}(h:zca P O f o=.read):isLA O f o=false:=by
 cases hl:isLA O f o with
 |false=>rfl
 |true=>rw[zlG hl]at h;cases h
theorem zp8{P:Program}{O:Orc}{f:FuncId}{o:Oper}(h:zca P O f o=.eff):isLA O f o=false:=by
 cases hl:isLA O f o with
 |false=>rfl
 |true=>rw[zlG hl]at h;cases h
theorem zhi{C:Ctx}{fr:Fr}{S S2:St}{o:Oper}{s:Slot}(h:opRD C fr S o=some (s,S))(hk:zca C.P C.O C.f o=.read)(hs:zmf (zbJ C fr o) S S2):opRD C fr S2 o=some (s,S2):=by have hl:=zi2 hk;rw[zcJ hl]at h ⊢;rw[zeN hl]at hk;exact read_same h hk hs
theorem znj{α:Type}{C:Ctx}{fr:Fr}{S S2:St}{o:Oper}{s:Slot}{k:Option α}{r:α}(h:opRD C fr S o=some (s,S))(hk:zca C.P C.O C.f o=.read)(ha:zhy C fr S2 o s k=some r):k=some r∧opRD C fr S2 o=some (s,S2):=by have hl:=zi2 hk;rw[zcJ hl]at h ⊢;rw[zeN hl]at hk;exact again_ok h hk ha
theorem zpC{C:Ctx}{fr:Fr}{S S':St}{o:Oper}{s:Slot}(h:opRD C fr S o=some (s,S'))(hk:zca C.P C.O C.f o=.eff):TagR (zbJ C fr o) S S':=by have hl:=zp8 hk;rw[zcJ hl]at h;rw[zeN hl]at hk;exact zoh h hk
def opX(C:Ctx)(fr:Fr)(S:St)(o:Oper):Option (Value×Hp):=opW C fr S o (fun x H=>some (x,H)) fun _ _=>none
theorem zls{C:Ctx}{o:Oper}(h:panS C o=true):isLA C.O C.f o=false∧zca C.P C.O C.f o=.eff:=by
 have h1:isLA C.O C.f o=false:=by
  cases hl:isLA C.O C.f o with
  |false=>rfl
  |true=>
   unfold isLA at hl;split at hl
   ·rename_i h2 _;unfold panS at h;rw[h2]at h;cases h
   ·cases hl
 refine⟨h1,?_⟩;rw[zeN h1];unfold panS at h;split at h
 ·rename_i c ho;rw[ho];obtain⟨callee,args,tys⟩:=c;cases callee with
  |value fo=>rfl
  |invoke _ _=>cases h
  |builtin _=>cases h
 ·rename_i ho;rw[ho];rfl
 ·cases h
theorem evs_none{G:Nat}{fr:Fr}{α:Type}{xs:List Operand}{f:List Value→Option α}{r:α}(h:evs G fr xs f=some r):∃vs,f vs=some r∧∀{γ:Type} (g:List Value→Option γ),evs G fr xs g=g vs:=by
 induction xs generalizing f with
 |nil=>exact⟨[],h,fun _=>rfl⟩
 |cons x xs ih=>
  unfold evs sV at h;split at h
  ·rename_i v hv;obtain⟨vs,h1,h2⟩:=ih h;exact⟨v::vs,h1,fun g=>by unfold evs sV;rw[hv];exact h2 _⟩
  ·cases h
theorem opW_split{α:Type}{C:Ctx}{fr:Fr}{S:St}{o:Oper}{kp:Value→Hp→Option α}{k:Slot→St→Option α}{r:α}(hp:panS C o=true)(h:opW C fr S o kp k=some r) :
  (∃s S',opRD C fr S o=some (s,S')∧k s S'=some r)∨∃x H,opX C fr S o=some (x,H)∧kp x H=some r:=by
 rw[zcJ (zls hp).1];unfold opX opW opR opC;unfold opW at h;unfold panS at hp;dsimp only;split at h
 ·rename_i c ho;rw[ho]at hp ⊢;dsimp only at hp ⊢;split at h
  ·rename_i g hc;rw[hc]at hp ⊢;dsimp only at hp ⊢;obtain⟨vs,h1,h2⟩:=evs_none h;rw[h2];simp only[show ev C.P.globals.size fr (.func g)=.val (.func (.func g) #[] #[]) from rfl,sV,h2];have e:∀{γ:Type} (q:Value→Hp→Option γ),zdI C.O C.h (.func (.func g) #[] #[]) vs S.hp q=zeH C.h g vs S.hp q:=fun q=>by unfold zdI;dsimp only;rw[hp];simp
   rw[e];unfold zbh at h1 ⊢;unfold zeH;split at h1
   ·rename_i v H' hcall;rcases zh7 h1 with⟨u,rfl,h3⟩|⟨x,rfl,h3⟩
    ·exact .inl ⟨_,_,rfl,h3⟩
    ·exact .inr ⟨_,_,rfl,h3⟩
   ·cases h1
  ·cases h
 ·rename_i x ho;rw[ho];dsimp only;right;unfold sV at h ⊢;split at h
  ·rename_i v hv;show ∃x H,zmC v (some (v,S.hp))=some (x,H)∧kp x H=some r;have h:zmC v (kp v S.hp)=some r:=h;unfold zmC at h ⊢;split at h
   ·exact⟨_,_,rfl,h⟩
   ·cases h
  ·cases h
 ·cases h
end
section
variable (C:Ctx)(ops:List Oper)(fr0:Fr)(S0:St)
def stp:Nat→Fr×St
 |0=>(fr0,S0)
 |i+1=>match ops[i]? with
  |none=>stp i
  |some o=>match zdB ops (stp i).1 o with
   |some true=>match opRD C (stp i).1 (stp i).2 o with
    |some (s,S')=>(putS (stp i).1 o.dst s,S')
    |none=>stp i
   |_=>(putS (stp i).1 o.dst .und,(stp i).2)
def sl(i:Nat):Slot:=
 match ops[i]? with
 |none=>.und
 |some o=>match zdB ops (stp C ops fr0 S0 i).1 o with
  |some true=>match opRD C (stp C ops fr0 S0 i).1 (stp C ops fr0 S0 i).2 o with
   |some (s,_)=>s
   |none=>.und
  |_=>.und
def Wd(i:Nat)(o:Oper):Prop:=zdB ops (stp C ops fr0 S0 i).1 o=some true
structure OKi(i:Nat)(o:Oper)(b:Bool):Prop where
 guard:zdB ops (stp C ops fr0 S0 i).1 o=some b
 yes:b=true→opRD C (stp C ops fr0 S0 i).1 (stp C ops fr0 S0 i).2 o=some (sl C ops fr0 S0 i,(stp C ops fr0 S0 (i+1)).2)
 no:b=false→sl C ops fr0 S0 i=.und∧(stp C ops fr0 S0 (i+1)).2=(stp C ops fr0 S0 i).2
 next:(stp C ops fr0 S0 (i+1)).1=putS (stp C ops fr0 S0 i).1 o.dst (sl C ops fr0 S0 i)
structure PanAt{α:Type}(an:List Nat)(kp:Value→Hp→Option α)(r:α)(n:Nat)(o:Oper)(x:Value)(H:Hp):Prop where
 at_:ops[n]?=some o
 pan:C.O.pan C.f=true
 op:panS C o=true
 guard:zdB ops (stp C ops fr0 S0 n).1 o=some true
 last:zpm ops an n=true
 run:opX C (stp C ops fr0 S0 n).1 (stp C ops fr0 S0 n).2 o=some (x,H)
 kp:kp x H=some r
def Chk(an:List Nat)(j:Nat)(o:Oper):Prop:=
 (Wd C ops fr0 S0 j o→zca C.P C.O C.f o=.read→∀l o',l<j→ops[l]?=some o'→Wd C ops fr0 S0 l o'→zca C.P C.O C.f o'=.eff→(an.getD j 0).testBit l=false →
  zcZ (zbJ C (stp C ops fr0 S0 l).1 o') (zbJ C (stp C ops fr0 S0 j).1 o)=true→opRD C (stp C ops fr0 S0 j).1 (stp C ops fr0 S0 l).2 o=some (sl C ops fr0 S0 j,(stp C ops fr0 S0 l).2)) ∧
 (Wd C ops fr0 S0 j o→zca C.P C.O C.f o=.eff→∀l o',l<j→ops[l]?=some o'→Wd C ops fr0 S0 l o'→zca C.P C.O C.f o'=.read→(an.getD j 0).testBit l=false →
  zcZ (zbJ C (stp C ops fr0 S0 l).1 o') (zbJ C (stp C ops fr0 S0 j).1 o)=true→opRD C (stp C ops fr0 S0 l).1 (stp C ops fr0 S0 (j+1)).2 o'=some (sl C ops fr0 S0 l,(stp C ops fr0 S0 (j+1)).2))
end
section
variable {α:Type}{C:Ctx}{ops:List Oper}{fr0:Fr}{S0:St}{r:α}{an:List Nat}
theorem zgt{a i:Nat}{o:Oper}{fr:Fr}{s:Slot}{tag:Option Nat}{k:Option α}{S1:St}(h0:opRD C fr S1 o=some (s,S1))(hk:zca C.P C.O C.f o=.read) :
  ∀es:List (Nat×Option Nat×St),zfu C a i o fr s tag k es=some r→k=some r∧∀q∈es,a.testBit q.1=false→zcZ q.2.1 tag=true→opRD C fr q.2.2 o=some (s,q.2.2)
 |[],h=>⟨h,fun q hq=>by cases hq⟩
 |(j,t,S)::es,h=>by
  unfold zfu at h;split at h
  ·rename_i hb;obtain⟨h1,h2⟩:=zgt h0 hk es h;refine⟨h1,fun q hq hb' ht=>?_⟩;rcases mem_cons.1 hq with rfl|hq
   ·dsimp only at hb' ht;rw[hb',ht]at hb;cases hb
   ·exact h2 q hq hb' ht
  ·obtain⟨h3,h4⟩:=znj h0 hk h;obtain⟨h1,h2⟩:=zgt h0 hk es h3;refine⟨h1,fun q hq hb' ht=>?_⟩;rcases mem_cons.1 hq with rfl|hq
   ·exact h4
   ·exact h2 q hq hb' ht
theorem ze0{a:Nat}{tag:Option Nat}{S:St}{k:Option α}:∀rs:List Rd,(∀q∈rs,zca C.P C.O C.f q.o=.read∧∃S1,opRD C q.fr S1 q.o=some (q.s,S1))→ze1 C a tag S k rs=some r →
  k=some r∧∀q∈rs,a.testBit q.i=false→zcZ q.tag tag=true→opRD C q.fr S q.o=some (q.s,S)
 |[],_,h=>⟨h,fun q hq=>by cases hq⟩
 |p::rs,hr,h=>by
  unfold ze1 at h;split at h
  ·rename_i hb;obtain⟨h1,h2⟩:=ze0 rs (fun q hq=>hr q (mem_cons_of_mem _ hq)) h;refine⟨h1,fun q hq hb' ht=>?_⟩;rcases mem_cons.1 hq with rfl|hq
   ·rw[hb',ht]at hb;cases hb
   ·exact h2 q hq hb' ht
  ·obtain⟨hk,S1,h0⟩:=hr p (mem_cons_self ..);obtain⟨h3,h4⟩:=znj h0 hk h;obtain⟨h1,h2⟩:=ze0 rs (fun q hq=>hr q (mem_cons_of_mem _ hq)) h3;refine⟨h1,fun q hq hb' ht=>?_⟩;rcases mem_cons.1 hq with rfl|hq
   ·exact h4
   ·exact h2 q hq hb' ht
theorem OKi.of_no{i:Nat}{o:Oper}(ho:ops[i]?=some o)(hg:zdB ops (stp C ops fr0 S0 i).1 o=some false):OKi C ops fr0 S0 i o false:=by
 refine⟨hg,fun h=>(by cases h),fun _=>⟨?_,?_⟩,?_⟩
 ·unfold sl;rw[ho];dsimp only;rw[hg]
 ·rw[stp,ho];dsimp only;rw[hg]
 ·have:sl C ops fr0 S0 i=.und:=by unfold sl;rw[ho];dsimp only;rw[hg]
  rw[this,stp,ho];dsimp only;rw[hg]
theorem OKi.of_yes{i:Nat}{o:Oper}{s:Slot}{S':St}(ho:ops[i]?=some o)(hg:zdB ops (stp C ops fr0 S0 i).1 o=some true)(hr:opRD C (stp C ops fr0 S0 i).1 (stp C ops fr0 S0 i).2 o=some (s,S')) :
  OKi C ops fr0 S0 i o true∧sl C ops fr0 S0 i=s∧(stp C ops fr0 S0 (i+1)).2=S':=by
 have h1:sl C ops fr0 S0 i=s:=by unfold sl;rw[ho];dsimp only;rw[hg];dsimp only;rw[hr]
 have h2:stp C ops fr0 S0 (i+1)=(putS (stp C ops fr0 S0 i).1 o.dst s,S'):=by rw[stp,ho];dsimp only;rw[hg];dsimp only;rw[hr]
 refine⟨⟨hg,fun _=>(by rw[h1,h2];exact hr),fun h=>(by cases h),by rw[h2,h1]⟩,h1,by rw[h2]⟩
theorem zjz {kp : Value → Hp → Option α} {k : Fr → St → Option α} : ∀ (rest : List Oper) (i : Nat) (es : List (Nat × Option Nat × St)) (rs : List Rd), ops.drop i = rest →
    zh4 C ops an kp k rest i (stp C ops fr0 S0 i).1 (stp C ops fr0 S0 i).2 es rs = some r →
    (∀ l o', l < i → ops[l]? = some o' → Wd C ops fr0 S0 l o' → zca C.P C.O C.f o' = .eff → (l, zbJ C (stp C ops fr0 S0 l).1 o', (stp C ops fr0 S0 l).2) ∈ es) →
    (∀ l o', l < i → ops[l]? = some o' → Wd C ops fr0 S0 l o' → zca C.P C.O C.f o' = .read → (⟨l, o', (stp C ops fr0 S0 l).1, sl C ops fr0 S0 l, zbJ C (stp C ops fr0 S0 l).1 o'⟩ : Rd) ∈ rs) →
    (∀ q ∈ rs, zca C.P C.O C.f q.o = .read ∧ ∃ S1, opRD C q.fr S1 q.o = some (q.s, S1)) →
    ∃ n0, (∀ j o, i ≤ j → j < n0 → ops[j]? = some o → (∃ b, OKi C ops fr0 S0 j o b) ∧ Chk C ops fr0 S0 an j o) ∧ ((n0 = ops.length ∧ k (stp C ops fr0 S0 ops.length).1 (stp C ops fr0 S0 ops.length).2 = some r) ∨ ∃ o x H, PanAt C ops fr0 S0 an kp r n0 o x H)
  | [], i, es, rs, hd, h, he, hr, hq => by
    have hle : ops.length ≤ i := by simpa using hd
    refine ⟨ops.length, fun j o hij hj ho => ?_, .inl ⟨rfl, ?_⟩⟩
    rotate_left
    · have : ∀ m, ops.length ≤ m → stp C ops fr0 S0 m = stp C ops fr0 S0 ops.length := by
        intro m hm
        induction m with
        | zero => have : ops.length = 0 := by omega
                  rw [this]
        | succ m ih =>
          rcases Nat.lt_or_ge m ops.length with q | q
          · have : m + 1 = ops.length := by omega
            rw [this]
          · rw [stp, List.getElem?_eq_none q]; exact ih q
      rw [this i hle] at h
      exact h
    · have := (List.getElem?_eq_some_iff.1 ho).1
      omega
  | o :: rest, i, es, rs, hd, h, he, hr, hq => by
    have hi : ops[i]? = some o := by
      have : (ops.drop i)[0]? = some o := by rw [hd]; rfl
      rw [List.getElem?_drop] at this; simpa using this
    have hd' : ops.drop (i + 1) = rest := by rw [← drop_drop, hd]; rfl
    unfold zh4 at h
    obtain ⟨b, hg, h1⟩ := zqf h
    clear h
    cases b with
    | false =>
      dsimp only at h1
      have hok := OKi.of_no (C := C) (fr0 := fr0) (S0 := S0) hi hg
      rw [← (hok.no rfl).1, ← hok.next, ← (hok.no rfl).2] at h1
      have hnw : ¬ Wd C ops fr0 S0 i o := fun hw => by unfold Wd at hw; rw [hg] at hw; cases hw
      obtain ⟨n0, g2, g1⟩ := zjz rest (i + 1) es rs hd' h1
        (fun l o' hl ho' hw hk => by
          rcases Nat.lt_or_ge l i with q | q
          · exact he l o' q ho' hw hk
          · have : l = i := by omega
            subst this; rw [hi] at ho'; cases ho'; exact absurd hw hnw)
        (fun l o' hl ho' hw hk => by
          rcases Nat.lt_or_ge l i with q | q
          · exact hr l o' q ho' hw hk
          · have : l = i := by omega
            subst this; rw [hi] at ho'; cases ho'; exact absurd hw hnw) hq
      refine ⟨n0, fun j o' hij hjn ho' => ?_, g1⟩
      rcases Nat.lt_or_ge i j with q | q
      · exact g2 j o' q hjn ho'
      · have : j = i := by omega
        subst this; rw [hi] at ho'; cases ho'
        exact ⟨⟨false, hok⟩, fun hw => absurd hw hnw, fun hw => absurd hw hnw⟩
    | true =>
      dsimp only at h1
      have fin : ∀ {es' : List (Nat × Option Nat × St)} {rs' : List Rd} (hok : OKi C ops fr0 S0 i o true), Chk C ops fr0 S0 an i o →
          zh4 C ops an kp k rest (i + 1) (stp C ops fr0 S0 (i + 1)).1 (stp C ops fr0 S0 (i + 1)).2 es' rs' = some r →
          (∀ q ∈ es, q ∈ es') → (zca C.P C.O C.f o = .eff → (i, zbJ C (stp C ops fr0 S0 i).1 o, (stp C ops fr0 S0 i).2) ∈ es') →
          (∀ q ∈ rs, q ∈ rs') → (zca C.P C.O C.f o = .read → (⟨i, o, (stp C ops fr0 S0 i).1, sl C ops fr0 S0 i, zbJ C (stp C ops fr0 S0 i).1 o⟩ : Rd) ∈ rs') →
          (∀ q ∈ rs', zca C.P C.O C.f q.o = .read ∧ ∃ S1, opRD C q.fr S1 q.o = some (q.s, S1)) →
          ∃ n0, (∀ j o, i ≤ j → j < n0 → ops[j]? = some o → (∃ b, OKi C ops fr0 S0 j o b) ∧ Chk C ops fr0 S0 an j o) ∧ ((n0 = ops.length ∧ k (stp C ops fr0 S0 ops.length).1 (stp C ops fr0 S0 ops.length).2 = some r) ∨ ∃ o x H, PanAt C ops fr0 S0 an kp r n0 o x H) := by
        intro es' rs' hok hchk h2 he1 he2 hr1 hr2 hq'
        obtain ⟨n0, g2, g1⟩ := zjz rest (i + 1) es' rs' hd' h2
          (fun l o' hl ho' hw hk => by
            rcases Nat.lt_or_ge l i with q | q
            · exact he1 _ (he l o' q ho' hw hk)
            · have : l = i := by omega
              subst this; rw [hi] at ho'; cases ho'; exact he2 hk)
          (fun l o' hl ho' hw hk => by
            rcases Nat.lt_or_ge l i with q | q
            · exact hr1 _ (hr l o' q ho' hw hk)
            · have : l = i := by omega
              subst this; rw [hi] at ho'; cases ho'; exact hr2 hk) hq'
        refine ⟨n0, fun j o' hij hjn ho' => ?_, g1⟩
        rcases Nat.lt_or_ge i j with q | q
        · exact g2 j o' q hjn ho'
        · have : j = i := by omega
          subst this; rw [hi] at ho'; cases ho'
          exact ⟨⟨true, hok⟩, hchk⟩
      have conv : ∀ {k' : Slot → St → Option α}, opD C (stp C ops fr0 S0 i).1 (stp C ops fr0 S0 i).2 o k' = some r → ∃ hok : OKi C ops fr0 S0 i o true, k' (sl C ops fr0 S0 i) (stp C ops fr0 S0 (i + 1)).2 = some r := by
        intro k' hk'
        rw [opD_nat] at hk'
        cases hR : opRD C (stp C ops fr0 S0 i).1 (stp C ops fr0 S0 i).2 o with
        | none => rw [hR] at hk'; cases hk'
        | some p =>
          obtain ⟨s, S'⟩ := p
          rw [hR] at hk'
          obtain ⟨hok, e1, e2⟩ := OKi.of_yes hi hg hR
          exact ⟨hok, by rw [e1, e2]; exact hk'⟩
      split at h1
      · rename_i hp
        rw [Bool.and_eq_true] at hp
        obtain ⟨_, hkind⟩ := zls hp.2
        rcases opW_split hp.2 h1 with ⟨s, S', hR, h2⟩ | ⟨x, H, hX, h2⟩
        · obtain ⟨hok, e1, e2⟩ := OKi.of_yes hi hg hR
          rw [← e1, ← e2] at h2
          obtain ⟨h3, h4⟩ := ze0 rs hq h2
          rw [← hok.next] at h3
          exact fin hok ⟨fun _ hk => (by rw [hkind] at hk; cases hk), fun hw hk l o' hl ho' hw' hk' hb ht => h4 _ (hr l o' hl ho' hw' hk') hb ht⟩ h3 (fun q hq => mem_append_left _ hq) (fun _ => mem_append_right _ (mem_singleton.2 rfl)) (fun q hq => hq) (fun hk => (by rw [hkind] at hk; cases hk)) hq
        · split at h2
          · rename_i hlast
            exact ⟨i, fun j o' hij hj => by omega, .inr ⟨o, x, H, hi, hp.1, hp.2, hg, hlast, hX, h2⟩⟩
          · cases h2
      split at h1
      · rename_i hkind
        obtain ⟨hok, h2⟩ := conv h1
        rw [← hok.next] at h2
        exact fin hok ⟨fun _ hk => (by rw [hkind] at hk; cases hk), fun _ hk => (by rw [hkind] at hk; cases hk)⟩ h2 (fun q hq => hq) (fun hk => (by rw [hkind] at hk; cases hk)) (fun q hq => hq) (fun hk => (by rw [hkind] at hk; cases hk)) hq
      · rename_i hkind
        obtain ⟨hok, h2⟩ := conv h1
        have hR := hok.yes rfl
        obtain ⟨e1, e2⟩ := zlx (S2 := (stp C ops fr0 S0 i).2) hR (.inr ⟨hkind, rfl⟩)
        obtain ⟨h3, h4⟩ := zgt e2 hkind es h2
        rw [← hok.next] at h3
        refine fin hok ⟨fun hw hk l o' hl ho' hw' hk' hb ht => h4 _ (he l o' hl ho' hw' hk') hb ht, fun _ hk => (by rw [hkind] at hk; cases hk)⟩ h3 (fun q hq => hq) (fun hk => (by rw [hkind] at hk; cases hk))
          (fun q hq => mem_append_left _ hq) (fun _ => mem_append_right _ (mem_singleton.2 rfl)) ?_
        intro q hq'
        rcases mem_append.1 hq' with hq' | hq'
        · exact hq q hq'
        · cases mem_singleton.1 hq'
          exact ⟨hkind, _, e2⟩
      · rename_i hkind
        obtain ⟨hok, h2⟩ := conv h1
        obtain ⟨h3, h4⟩ := ze0 rs hq h2
        rw [← hok.next] at h3
        exact fin hok ⟨fun _ hk => (by rw [hkind] at hk; cases hk), fun hw hk l o' hl ho' hw' hk' hb ht => h4 _ (hr l o' hl ho' hw' hk') hb ht⟩ h3 (fun q hq => mem_append_left _ hq) (fun _ => mem_append_right _ (mem_singleton.2 rfl)) (fun q hq => hq) (fun hk => (by rw [hkind] at hk; cases hk)) hq
end
section
variable {C:Ctx}{ops:List Oper}{fr0:Fr}{S0:St}{an:List Nat}
theorem zme(a b:Option Nat):zcZ a b=zcZ b a:=by cases a<;>cases b<;>first|rfl|skip;rename_i x y;show Nat.beq x y=Nat.beq y x;rw[Bool.eq_iff_iff,Nat.beq_eq,Nat.beq_eq];exact⟨Eq.symm,Eq.symm⟩
theorem zia(fr:Fr)(d:Option Nat)(s:Slot)(t:Nat):(putS fr d s)[t]?=if d=some t then (fr[t]?).map fun _=>s else fr[t]?:=by
 cases d with
 |none=>rfl
 |some d=>
  simp only[putS,List.getElem?_set,Option.some.injEq];by_cases h:d=t
  ·subst h;rw[if_pos rfl,if_pos rfl];split
   ·rename_i hl;rw[List.getElem?_eq_getElem hl];rfl
   ·rename_i hl;rw[List.getElem?_eq_none (by omega)];rfl
  ·rw[if_neg h,if_neg h]
theorem getS_of{fr fr':Fr}{t:Nat}(h:fr[t]?=fr'[t]?):getS fr t=getS fr' t:=by unfold getS;rw[getD_eq_getElem?_getD,getD_eq_getElem?_getD,h]
variable (C ops fr0 S0) in
def FD(L:Array Bool):Nat→Fr
 |0=>fr0
 |i+1=>match L.getD i false with
  |true=>match ops[i]? with
   |some o=>putS (FD L i) o.dst (sl C ops fr0 S0 i)
   |none=>FD L i
  |false=>FD L i
theorem FD_slot{L:Array Bool}{t j:Nat}(hok:∀i o,i<j→ops[i]?=some o→∃b,OKi C ops fr0 S0 i o b)(hj:j≤ops.length)
  (h1:∀i o,i<j→ops[i]?=some o→o.dst=some t→L.getD i false=true) (h2:∀i o,j≤i→ops[i]?=some o→o.dst=some t→L.getD i false=false) :
  ∀m,m≤ops.length→(FD C ops fr0 S0 L m)[t]?=((stp C ops fr0 S0 (min m j)).1)[t]?
 |0,_=>by rw[Nat.zero_min];rfl
 |m+1,hm=>by
  have ih:=FD_slot hok hj h1 h2 m (by omega);have hom:∃o,ops[m]?=some o:=⟨ops[m],by simp⟩
  obtain⟨o,ho⟩:=hom;unfold FD;rcases Nat.lt_or_ge m j with q|q
  ·obtain⟨b,hb⟩:=hok m o q ho;rw[Nat.min_eq_left q,hb.next,zia];rw[Nat.min_eq_left (by omega)]at ih;cases hL:L.getD m false with
   |true=>
    dsimp only;rw[ho];dsimp only;rw[zia,ih]
   |false=>
    dsimp only;rw[ih];split
    ·rename_i hd;rw[h1 m o q ho hd]at hL;cases hL
    ·rfl
  ·rw[Nat.min_eq_right (by omega)];rw[Nat.min_eq_right q]at ih;cases hL:L.getD m false with
   |true=>
    dsimp only;rw[ho];dsimp only;rw[zia,ih];split
    ·rename_i hd;rw[h2 m o q ho hd]at hL;cases hL
    ·rfl
   |false=>dsimp only;exact ih
theorem zeW{L:Array Bool}{j i:Nat}(hj:j<L.size):(L.setIfInBounds j true).getD i false=if i=j then true else L.getD i false:=by
 simp only[Array.getD_eq_getD_getElem?,Array.getElem?_setIfInBounds];by_cases h:j=i
 ·subst h;rw[if_pos rfl,if_pos rfl,if_pos hj];rfl
 ·rw[if_neg h,if_neg (fun e=>h e.symm)]
theorem FD_set{L:Array Bool}{j:Nat}{oj:Oper}(hoj:ops[j]?=some oj)(hjL:j<L.size)(hnj:L.getD j false=false)
  (h2:∀i o,j<i→ops[i]?=some o→L.getD i false=true→∀d,oj.dst=some d→o.dst≠some d) :
  ∀m,m≤ops.length→FD C ops fr0 S0 (L.setIfInBounds j true) m=if m≤j then FD C ops fr0 S0 L m else putS (FD C ops fr0 S0 L m) oj.dst (sl C ops fr0 S0 j)
 |0,_=>by rw[if_pos (Nat.zero_le _)];rfl
 |m+1,hm=>by
  have ih:=FD_set hoj hjL hnj h2 m (by omega);unfold FD;rw[zeW hjL];obtain⟨o,ho⟩:∃o,ops[m]?=some o:=⟨ops[m],by simp⟩
  rcases Nat.lt_trichotomy m j with q|q|q
  ·rw[if_neg (by omega),if_pos (by omega)];rw[if_pos (by omega)]at ih;rw[ih]
  ·subst q;rw[if_pos rfl,if_neg (by omega),hnj];rw[if_pos (Nat.le_refl _)]at ih;rw[hoj];dsimp only;rw[ih]
  ·rw[if_neg (by omega),if_neg (by omega)];rw[if_neg (by omega)]at ih;cases hL:L.getD m false with
   |false=>dsimp only;exact ih
   |true=>
    dsimp only;rw[ho];dsimp only;rw[ih];apply ext_getElem?;intro t;simp only[zia];have:=h2 m o q ho hL;by_cases e1:o.dst=some t
    ·by_cases e2:oj.dst=some t
     ·exact absurd e1 (this t e2)
     ·rw[if_pos e1,if_neg e2,if_neg e2,if_pos e1]
    ·rw[if_neg e1,if_neg e1]
variable (C ops fr0 S0) in
def Effw(i:Nat):Prop:=∃o,ops[i]?=some o∧Wd C ops fr0 S0 i o∧zca C.P C.O C.f o=.eff
theorem zjP {n0 : Nat} (hok : ∀ j o, j < n0 → ops[j]? = some o → ∃ b, OKi C ops fr0 S0 j o b) (hn0 : n0 ≤ ops.length) {m : Nat} : ∀ m', m ≤ m' → m' ≤ n0 → (∀ i, m ≤ i → i < m' → ¬ Effw C ops fr0 S0 i) → (stp C ops fr0 S0 m').2 = (stp C ops fr0 S0 m).2 := by
  intro m' hm
  induction m' with
  | zero => intro _ _; have : m = 0 := by omega
            rw [this]
  | succ n ih =>
    intro hn h
    rcases Nat.lt_or_ge n m with q | q
    · have : m = n + 1 := by omega
      rw [this]
    · rw [← ih q (by omega) (fun i h1 h2 => h i h1 (by omega))]
      obtain ⟨o, ho⟩ : ∃ o, ops[n]? = some o := ⟨ops[n], by simp⟩
      obtain ⟨b, hb⟩ := hok n o (by omega) ho
      cases b with
      | false => exact (hb.no rfl).2
      | true =>
        have hk : zca C.P C.O C.f o ≠ .eff := fun hk => h n q (Nat.lt_succ_self n) ⟨o, ho, hb.guard, hk⟩
        have hR := hb.yes rfl
        refine (zlx (S2 := (stp C ops fr0 S0 n).2) hR ?_).1
        cases hq : zca C.P C.O C.f o with
        | pure => exact .inl rfl
        | read => exact .inr ⟨rfl, rfl⟩
        | eff => exact absurd hq hk
theorem read_any {n0 : Nat} (hok : ∀ j o, j < n0 → ops[j]? = some o → ∃ b, OKi C ops fr0 S0 j o b) (hn0 : n0 ≤ ops.length) (hchk : ∀ j o, j < n0 → ops[j]? = some o → Chk C ops fr0 S0 an j o)
    {j : Nat} (hj0 : j < n0) {o : Oper} (ho : ops[j]? = some o) (hb : OKi C ops fr0 S0 j o true) (hk : zca C.P C.O C.f o = .read) :
    (∀ n, ∀ m, m + n = j → (∀ i, m ≤ i → i < j → Effw C ops fr0 S0 i → (an.getD j 0).testBit i = false) → opRD C (stp C ops fr0 S0 j).1 (stp C ops fr0 S0 m).2 o = some (sl C ops fr0 S0 j, (stp C ops fr0 S0 m).2)) ∧
    (∀ m, j ≤ m → m ≤ n0 → (∀ i, j < i → i < m → Effw C ops fr0 S0 i → (an.getD i 0).testBit j = false) → opRD C (stp C ops fr0 S0 j).1 (stp C ops fr0 S0 m).2 o = some (sl C ops fr0 S0 j, (stp C ops fr0 S0 m).2)) := by
  have h0 : opRD C (stp C ops fr0 S0 j).1 (stp C ops fr0 S0 j).2 o = some (sl C ops fr0 S0 j, (stp C ops fr0 S0 j).2) := (zlx (hb.yes rfl) (.inr ⟨hk, rfl⟩)).2
  have hjl := (List.getElem?_eq_some_iff.1 ho).1
  refine ⟨fun n => ?_, fun m => ?_⟩
  · induction n with
    | zero => intro m hm _; have : m = j := by omega
              rw [this]; exact h0
    | succ n ih =>
      intro m hm hno
      have h1 := ih (m + 1) (by omega) (fun i h1 h2 => hno i (by omega) h2)
      obtain ⟨om, hom⟩ : ∃ om, ops[m]? = some om := ⟨ops[m], by simp⟩
      by_cases hw : Wd C ops fr0 S0 m om ∧ zca C.P C.O C.f om = .eff
      · have hbit := hno m (Nat.le_refl _) (by omega) ⟨om, hom, hw.1, hw.2⟩
        cases ht : zcZ (zbJ C (stp C ops fr0 S0 m).1 om) (zbJ C (stp C ops fr0 S0 j).1 o) with
        | true => exact (hchk j o hj0 ho).1 hb.guard hk m om (by omega) hom hw.1 hw.2 hbit ht
        | false =>
          obtain ⟨b, hbm⟩ := hok m om (by omega) hom
          have hbt : b = true := by have := hbm.guard; rw [hw.1] at this; cases this; rfl
          subst hbt
          have htag := zpC (hbm.yes rfl) hw.2
          have hst : zcZ (zbJ C (stp C ops fr0 S0 j).1 o) (zbJ C (stp C ops fr0 S0 m).1 om) = false := by rw [zme]; exact ht
          have := htag.other hst
          refine zhi h1 hk ?_
          unfold zmf at this ⊢
          split at this
          · exact this.symm
          · exact this.symm
      · have hT : (stp C ops fr0 S0 (m + 1)).2 = (stp C ops fr0 S0 m).2 := zjP hok hn0 (m + 1) (by omega) (by omega) (fun i h1 h2 he => by
          have : i = m := by omega
          subst this
          obtain ⟨o', ho', hw1, hw2⟩ := he
          rw [hom] at ho'; cases ho'
          exact hw ⟨hw1, hw2⟩)
        rw [hT] at h1; exact h1
  · induction m with
    | zero => intro hm _ _; have : j = 0 := by omega
              subst this; exact h0
    | succ m ih =>
      intro hm hml hno
      rcases Nat.lt_or_ge m j with q | q
      · have : m + 1 = j := by omega
        rw [this]; exact h0
      · have h1 := ih q (by omega) (fun i h1 h2 => hno i h1 (by omega))
        obtain ⟨om, hom⟩ : ∃ om, ops[m]? = some om := ⟨ops[m], by simp⟩
        by_cases hw : Wd C ops fr0 S0 m om ∧ zca C.P C.O C.f om = .eff
        · have hjm : j < m := by
            rcases Nat.lt_or_ge j m with q' | q'
            · exact q'
            · have : m = j := by omega
              subst this
              rw [ho] at hom; cases hom
              rw [hk] at hw; cases hw.2
          have hbit := hno m hjm (Nat.lt_succ_self m) ⟨om, hom, hw.1, hw.2⟩
          cases ht : zcZ (zbJ C (stp C ops fr0 S0 j).1 o) (zbJ C (stp C ops fr0 S0 m).1 om) with
          | true => exact (hchk m om (by omega) hom).2 hw.1 hw.2 j o hjm ho hb.guard hk hbit ht
          | false =>
            obtain ⟨b, hbm⟩ := hok m om (by omega) hom
            have hbt : b = true := by have := hbm.guard; rw [hw.1] at this; cases this; rfl
            subst hbt
            exact zhi h1 hk ((zpC (hbm.yes rfl) hw.2).other ht)
        · have hT : (stp C ops fr0 S0 (m + 1)).2 = (stp C ops fr0 S0 m).2 := zjP hok hn0 (m + 1) (by omega) (by omega) (fun i h1 h2 he => by
            have : i = m := by omega
            subst this
            obtain ⟨o', ho', hw1, hw2⟩ := he
            rw [hom] at ho'; cases ho'
            exact hw ⟨hw1, hw2⟩)
          rw [hT]; exact h1
end
section
variable {C:Ctx}{ops:List Oper}{α:Type}
theorem LA_inv{o:Oper}(h:isLA C.O C.f o=true):∃T d,o.guard=none∧o.op=.alloc T∧o.dst=some d∧(C.O.loc C.f).elem d=true:=by
 unfold isLA at h;split at h
 ·rename_i T d h1 h2 h3;exact⟨T,d,h1,h2,h3,h⟩
 ·cases h
theorem LA_step{o:Oper}(h:isLA C.O C.f o=true){S:St}{k:Slot→St→Option α}{r:α}(hk:opC C [] S o k=some r) :
  ∃d c,o.dst=some d∧S.bx d=none∧k (.loc d 0) (S.setB d (some c))=some r∧∀fr S2,S2.bx d=none→opR C fr S2 o=some (.loc d 0,S2.setB d (some c)):=by
 obtain⟨T,d,h1,h2,h3,h4⟩:=LA_inv h;unfold opC at hk;rw[h2]at hk;dsimp only at hk;unfold zf2 at hk;rcases hi:C.P.info? T with _|i
 ·rw[hi]at hk;cases hk
 ·rw[hi]at hk;dsimp only at hk;rcases hz:i.zero with _|z
  ·rw[hz]at hk;cases hk
  ·rw[hz]at hk;dsimp only at hk;cases hc:zdt z with
   |false=>rw[hc]at hk;cases hk
   |true=>
    rw[hc]at hk;dsimp only at hk;cases ha:(zab z).all one with
    |false=>rw[ha]at hk;cases hk
    |true=>
     rw[ha]at hk;dsimp only at hk;unfold zdf at hk;rw[h3]at hk;dsimp only at hk;rw[h4]at hk;dsimp only at hk;rcases hb:S.bx d with _|b
     ·rw[hb]at hk;refine⟨d,.cells (zab z) false,h3,hb,hk,fun fr S2 h5=>?_⟩;unfold opR opC;rw[h2];dsimp only;unfold zf2;rw[hi];dsimp only;rw[hz];dsimp only;rw[hc];dsimp only;rw[ha];dsimp only;unfold zdf;rw[h3];dsimp only;rw[h4];dsimp only;rw[h5]
     ·rw[hb]at hk;cases hk
theorem zjn{k:St→Option α}{r:α}:∀(l:List Oper) (S:St),zhS C k l S=some r→∃S0,k S0=some r∧S0.hp=S.hp∧(∀d,(∀o∈l,isLA C.O C.f o=true→o.dst≠some d)→S0.bx d=S.bx d) ∧
  (∀o∈l,isLA C.O C.f o=true→∃d c,o.dst=some d∧S.bx d=none∧S0.bx d=some c∧∀fr S2,S2.bx d=none→opR C fr S2 o=some (.loc d 0,S2.setB d (some c))) ∧
  (∀(i j:Nat) oi oj,l[i]?=some oi→l[j]?=some oj→isLA C.O C.f oi=true→isLA C.O C.f oj=true→oi.dst=oj.dst→i=j)
 |[],S,h=>⟨S,h,rfl,fun _ _=>rfl,fun o ho=>absurd ho not_mem_nil,fun i j oi oj h1=>absurd h1 (by simp)⟩
 |o::l,S,h=>by
  unfold zhS at h;cases hl:isLA C.O C.f o with
  |false=>
   rw[hl]at h;obtain⟨S0,h1,h2,h3,h4,h5⟩:=zjn l S h;refine⟨S0,h1,h2,fun d hd=>h3 d fun o' ho'=>hd o' (mem_cons_of_mem _ ho'),fun o' ho' hl'=>?_,fun i j oi oj hi hj li lj hd=>?_⟩
   ·rcases mem_cons.1 ho' with rfl|ho'
    ·rw[hl]at hl';cases hl'
    ·exact h4 o' ho' hl'
   ·cases i with
    |zero=>simp at hi;subst hi;rw[hl]at li;cases li
    |succ i=>cases j with
     |zero=>simp at hj;subst hj;rw[hl]at lj;cases lj
     |succ j=>exact congrArg (· + 1) (h5 i j oi oj (by simpa using hi) (by simpa using hj) li lj hd)
  |true=>
   rw[hl]at h;obtain⟨d,c,e1,e2,e3,e4⟩:=LA_step hl h;obtain⟨S0,h1,h2,h3,h4,h5⟩:=zjn l _ e3;have hne:∀o'∈l,isLA C.O C.f o'=true→o'.dst≠some d:=fun o' ho' hl' hd=>by obtain⟨d',c',q1,q2,_⟩:=h4 o' ho' hl';rw[hd]at q1;cases q1;rw[St.setB_same]at q2;cases q2
   refine⟨S0,h1,h2,fun d' hd'=>?_,fun o' ho' hl'=>?_,fun i j oi oj hi hj li lj hd=>?_⟩
   ·rw[h3 d' fun o' ho'=>hd' o' (mem_cons_of_mem _ ho')];exact St.setB_ne _ _ fun q=>hd' o (mem_cons_self ..) hl (by rw[e1,q])
   ·rcases mem_cons.1 ho' with rfl|ho'
    ·refine⟨d,c,e1,e2,?_,e4⟩;rw[h3 d hne,St.setB_same]
    ·obtain⟨d',c',q1,q2,q3,q4⟩:=h4 o' ho' hl';refine⟨d',c',q1,?_,q3,q4⟩;rw[St.setB_ne _ _ (fun q=>hne o' ho' hl' (by rw[q1,q]))]at q2;exact q2
   ·cases i with
    |zero=>
     simp at hi;subst hi;cases j with
     |zero=>rfl
     |succ j=>exact absurd (hd.symm.trans e1) (hne oj (mem_of_getElem? (by simpa using hj)) lj)
    |succ i=>cases j with
     |zero=>
      simp at hj;subst hj;exact absurd (hd.trans e1) (hne oi (mem_of_getElem? (by simpa using hi)) li)
     |succ j=>exact congrArg (· + 1) (h5 i j oi oj (by simpa using hi) (by simpa using hj) li lj hd)
variable (C ops) in
def Due(L:Array Bool)(d:Nat):Prop:=∃(j:Nat) (o:Oper),ops[j]?=some o∧isLA C.O C.f o=true∧o.dst=some d∧L.getD j false=false
open Classical in
variable (C ops) in
noncomputable def rst(L:Array Bool)(S:St):St:=⟨fun d=>if Due C ops L d then none else S.bx d,S.hp⟩
open Classical in
theorem zdm{L:Array Bool}{S:St}{d:Nat}(h:Due C ops L d):(rst C ops L S).bx d=none:=by show (if Due C ops L d then none else S.bx d)=none;rw[if_pos h]
open Classical in
theorem zdU{L:Array Bool}{S:St}{d:Nat}(h:¬Due C ops L d):(rst C ops L S).bx d=S.bx d:=by show (if Due C ops L d then none else S.bx d)=_;rw[if_neg h]
theorem St.ext'{S S':St}(h1:∀d,S.bx d=S'.bx d)(h2:S.hp=S'.hp):S=S':=by cases S;cases S';simp only[St.mk.injEq];exact⟨funext h1,h2⟩
theorem rst_all{L:Array Bool}{S:St}(h:∀i,i<ops.length→L.getD i false=true):rst C ops L S=S:=
 St.ext' (fun d=>zdU fun⟨j,o,h1,_,_,h4⟩=>by rw[h j (List.getElem?_eq_some_iff.1 h1).1]at h4;cases h4) rfl
theorem zoi{L:Array Bool}{j:Nat}{oj:Oper}(hoj:ops[j]?=some oj)(hjL:j<L.size){e:Nat}(hd:isLA C.O C.f oj=false∨oj.dst≠some e):Due C ops (L.setIfInBounds j true) e↔Due C ops L e:=by
 constructor
 ·rintro⟨i,o,h1,h2,h3,h4⟩
  rw[zeW hjL]at h4;split at h4
  ·cases h4
  ·exact⟨i,o,h1,h2,h3,h4⟩
 ·rintro⟨i,o,h1,h2,h3,h4⟩
  refine⟨i,o,h1,h2,h3,?_⟩
  rw[zeW hjL,if_neg (fun q=>by
   subst q;rw[hoj]at h1;cases h1;rcases hd with hd|hd
   ·rw[hd]at h2;cases h2
   ·exact hd h3)]
  exact h4
theorem zlf{L:Array Bool}{j:Nat}{oj:Oper}(hoj:ops[j]?=some oj)(hjL:j<L.size)(hl:isLA C.O C.f oj=false)(S:St):rst C ops (L.setIfInBounds j true) S=rst C ops L S:=by
 refine St.ext' (fun d=>?_) rfl;by_cases h:Due C ops L d
 ·rw[zdm h,zdm ((zoi hoj hjL (.inl hl)).2 h)]
 ·rw[zdU h,zdU fun q=>h ((zoi hoj hjL (.inl hl)).1 q)]
theorem tag_loc{fr:Fr}{o:Oper}{d:Nat}(h:zbJ C fr o=some d):(∃x off,ev C.P.globals.size fr x=.loc d off)∨∀S r,opR C fr S o=some r→S.bx d=none:=by
 unfold zbJ at h;split at h
 ·rename_i T x hop;split at h
  ·rename_i e off he;cases h;exact .inl ⟨x,off,he⟩
  ·cases h
 ·rename_i T x y hop;split at h
  ·rename_i e off he;cases h;exact .inl ⟨x,off,he⟩
  ·cases h
 ·rename_i T hop;right;intro S r hr;split at h
  ·rename_i e hd;split at h
   ·rename_i he;cases h;cases hb:S.bx d with
    |none=>rfl
    |some b=>
     unfold opR opC at hr;rw[hop]at hr;dsimp only at hr;unfold zdf zf2 at hr;rw[hd]at hr;dsimp only at hr;rw[he,hb]at hr;dsimp only at hr
     repeat' split at hr
     all_goals cases hr
   ·cases h
  ·cases h
 ·rename_i T x hop;right;intro S r hr;split at h
  ·rename_i e hd;split at h
   ·rename_i he;cases h;cases hb:S.bx d with
    |none=>rfl
    |some b=>
     unfold opR opC at hr;rw[hop]at hr;dsimp only at hr;unfold zdf sV at hr;rw[hd]at hr;dsimp only at hr;rw[he,hb]at hr;dsimp only at hr
     repeat' split at hr
     all_goals cases hr
   ·cases h
  ·cases h
 ·rename_i T x hop;right;intro S r hr;cases hb:S.bx d with
  |none=>rfl
  |some b=>
   unfold opR opC at hr;rw[hop]at hr;dsimp only at hr;unfold sV at hr;rw[h]at hr;split at hr
   ·split at hr
    ·rename_i q;cases q;rw[hb]at hr;cases hr
    ·cases hr
   ·cases hr
 ·rename_i x b hop;split at h
  ·rename_i e off he;cases h;exact .inl ⟨x,off,he⟩
  ·cases h
 ·cases h
theorem LA_guard{o:Oper}(h:isLA C.O C.f o=true)(fr:Fr):zdB ops fr o=some true:=by obtain⟨T,d,h1,_⟩:=LA_inv h;unfold zdB zen;rw[h1]
end
theorem opX_congr{C:Ctx}{fr fr':Fr}{S S':St}{o:Oper}(h:∀x∈o.op.operands,ev C.P.globals.size fr x=ev C.P.globals.size fr' x)(hp:S.hp=S'.hp):opX C fr S o=opX C fr' S' o:=by
 unfold opX opW;rw[hp];split
 ·rename_i c ho;split
  ·rename_i g hc;rw[ho]at h;exact zdj _ _ fun x hx=>h x (by simp[Op.operands,Call.operands,hc];exact .inr (by simpa using hx))
  ·rfl
 ·rename_i x ho;rw[ho]at h;rw[h x (by simp[Op.operands])]
 ·rfl
theorem zoj{P:Program}(O:Orc)(h:zag)(f:FuncId)(hh:SimC P O h):zou ⟨P,O,h,f⟩:=by
 intro α w0 H0 β0 r ops kp k Q W S1 a1 β1 l1 hord hW hk hkp fr0 Sb a w β lam hrun hG hM;generalize hC:(⟨P,O,h,f⟩:Ctx)=C at *;have hhC:SimC C.P C.O C.h:=by rw[←hC];exact hh
 clear hC hh;obtain⟨S0,hrun,hhp,hoth,hla,huniq⟩:=zjn _ _ hrun;have hla':∀(j:Nat) o d,ops[j]?=some o→isLA C.O C.f o=true→o.dst=some d→∃c,Sb.bx d=none∧S0.bx d=some c∧∀fr S2,S2.bx d=none→opR C fr S2 o=some (.loc d 0,S2.setB d (some c)):=fun j o d h1 h2 h3=>by obtain⟨d',c,q1,q2,q3,q4⟩:=hla o (mem_of_getElem? h1) h2;rw[h3]at q1;cases q1;exact⟨c,q2,q3,q4⟩
 obtain⟨n0,hall,hend⟩:=zjz (C:=C) (ops:=ops) (fr0:=fr0) (S0:=S0) (an:=ancs ops) ops 0 [] [] rfl hrun (fun l o' hl=>by omega) (fun l o' hl=>by omega) (fun q hq=>by cases hq);have hn0:n0≤ops.length:=by
  rcases hend with⟨h1,_⟩|⟨o,x,H,h1⟩
  ·omega
  ·exact Nat.le_of_lt (List.getElem?_eq_some_iff.1 h1.at_).1
 have hok:∀j o,j<n0→ops[j]?=some o→∃b,OKi C ops fr0 S0 j o b:=fun j o hj ho=>(hall j o (Nat.zero_le _) hj ho).1;have hchk:∀j o,j<n0→ops[j]?=some o→Chk C ops fr0 S0 (ancs ops) j o:=fun j o hj ho=>(hall j o (Nat.zero_le _) hj ho).2;have fin:∀(L:Array Bool) (a:Act) (w:World) (β:Bt) (lam:Nat→Nat) (m:Nat),(∀i,L.getD i false=true→i<n0)→(∀i,i<ops.length→L.getD i false=true)→m≤n0→(∀i,m≤i→Effw C ops fr0 S0 i→L.getD i false=false) →
   Good C.P w0 H0 β0 (FD C ops fr0 S0 L ops.length) (rst C ops L (stp C ops fr0 S0 m).2) a w β lam→zb7 W S1 a1 β1 l1 (rst C ops L (stp C ops fr0 S0 m).2) a β lam→Q .normal a w:=by
  intro L a w β lam m hL0 hL hm hm2 hG hM;have hne:n0=ops.length:=by
   rcases Nat.lt_or_ge n0 ops.length with q|q
   ·exact absurd (hL0 n0 (hL n0 q)) (Nat.lt_irrefl _)
   ·omega
  have hend:k (stp C ops fr0 S0 ops.length).1 (stp C ops fr0 S0 ops.length).2=some r:=by
   rcases hend with⟨_,h1⟩|⟨o,x,H,h1⟩
   ·exact h1
   ·have:=(List.getElem?_eq_some_iff.1 h1.at_).1;omega
  rw[hne]at hm;rw[rst_all hL]at hG hM;have hF:∀q,q≤ops.length→FD C ops fr0 S0 L q=(stp C ops fr0 S0 q).1:=by
   intro q;induction q with
   |zero=>intro _;rfl
   |succ q ih=>
    intro hq;obtain⟨o,ho⟩:∃o,ops[q]?=some o:=⟨ops[q],by simp⟩
    obtain⟨b,hb⟩:=hok q o (by omega) ho;unfold FD;rw[hL q (by omega)];dsimp only;rw[ho];dsimp only;rw[ih (by omega),hb.next]
  have hT:(stp C ops fr0 S0 ops.length).2=(stp C ops fr0 S0 m).2:=zjP hok hn0 _ hm (by omega) (fun i h1 h2 he=>by
   have:=hm2 i h1 he
   rw[hL i h2]at this;cases this)
  rw[hF _ (Nat.le_refl _)]at hG;rw[←hT]at hG hM;exact hk _ _ a w β lam hend hG hM
 have full:∀(L:Array Bool),L.size=ops.length→Region.ready .any ops.toArray L=[]→∀i,i<ops.length→L.getD i false=true:=by
  intro L hs hr i;induction i using Nat.strongRecOn with
  |_ i ih=>
   intro hi;cases hL:L.getD i false with
   |true=>rfl
   |false=>
    exfalso;have:i∈Region.ready .any ops.toArray L:=by
     refine mem_ready.2 ⟨?_,ops[i],by simp[hi],fun e he hb=>?_⟩
     ·rw[Array.getD_eq_getD_getElem?]at hL ⊢;rw[Array.getElem?_eq_getElem (by omega)]at hL ⊢;exact hL
     ·have hlt:=zlM hord (j:=i) (o:=ops[i]) (by simp) e he hb;exact ih e.on hlt (by omega)
    rw[hr]at this;cases this
 have main:∀(fuel:Nat) (L:Array Bool) (a:Act) (w:World) (β:Bt) (lam:Nat→Nat) (U:List Nat) (m:Nat),L.size=ops.length→U.length=fuel→(∀i,i<ops.length→L.getD i false=false→i∈U) →
   (∀i o,L.getD i false=true→ops[i]?=some o→∀e∈o.after,Region.binds .any e=true→L.getD e.on false=true) →
   (∀i,L.getD i false=true→i<n0)→m≤n0→(∀i,i<m→Effw C ops fr0 S0 i→L.getD i false=true)→(∀i,m≤i→Effw C ops fr0 S0 i→L.getD i false=false) →
   (∀(i:Nat) o d,ops[i]?=some o→isLA C.O C.f o=true→o.dst=some d→L.getD i false=false→(stp C ops fr0 S0 m).2.bx d=S0.bx d) →
   Good C.P w0 H0 β0 (FD C ops fr0 S0 L ops.length) (rst C ops L (stp C ops fr0 S0 m).2) a w β lam→zb7 W S1 a1 β1 l1 (rst C ops L (stp C ops fr0 S0 m).2) a β lam →
   wpAny C.P .any ops.toArray Q fuel L a w:=by
  intro fuel;induction fuel with
  |zero=>
   intro L a w β lam U m hs hU hUm hcl hL0 hm hm1 hm2 hI hG hM;have hU0:U=[]:=length_eq_zero_iff.1 hU;subst hU0;have hL:∀i,i<ops.length→L.getD i false=true:=fun i hi=>by
    cases hq:L.getD i false with
    |true=>rfl
    |false=>exact absurd (hUm i hi hq) (by simp)
   refine⟨?_,fin L a w β lam m hL0 hL hm hm2 hG hM⟩;cases hr:Region.ready .any ops.toArray L with
   |nil=>rfl
   |cons j js=>
    obtain⟨h1,o,h2,_⟩:=mem_ready.1 (show j∈Region.ready .any ops.toArray L by rw[hr];exact mem_cons_self ..);have hj:j<ops.length:=by have:=(Array.getElem?_eq_some_iff.1 h2).1;simpa using this
    have h3:=hL j hj;rw[Array.getD_eq_getD_getElem?,Array.getElem?_eq_getElem (by omega)]at h1 h3;simp only[Option.getD_some]at h1 h3;rw[h1]at h3;cases h3
  |succ fuel ih=>
   intro L a w β lam U m hs hU hUm hcl hL0 hm hm1 hm2 hI hG hM;refine⟨fun hr=>fin L a w β lam m hL0 (full L hs hr) hm hm2 hG hM,fun j hj=>?_⟩;obtain⟨hnj,o,ho,he⟩:=mem_ready.1 hj;have ho:ops[j]?=some o:=by simpa using ho
   have hjn:=(List.getElem?_eq_some_iff.1 ho).1;have hjL:j<L.size:=by omega
   have hnj':L.getD j false=false:=by rw[Array.getD_eq_getD_getElem?,Array.getElem?_eq_getElem hjL]at hnj ⊢;exact hnj
   have hanc:∀l,((ancs ops).getD j 0).testBit l=true→L.getD l false=true:=anc_in (D:=fun i=>L.getD i false=true) hcl j o ho he;have hdesc:∀i oi,ops[i]?=some oi→L.getD i false=true→((ancs ops).getD i 0).testBit j=true→False:=fun i oi hoi hi hbit=>by have:=anc_in (D:=fun i=>L.getD i false=true) hcl i oi hoi (hcl i oi hi hoi) j hbit;have this:L.getD j false=true:=this;rw[hnj']at this;cases this
   have hj0:j≤n0:=by
    rcases Nat.lt_or_ge n0 j with q|q
    ·exfalso;rcases hend with⟨h1,_⟩|⟨o1,x,H,h1⟩
     ·omega
     ·have h2:=h1.last;unfold zpm at h2;have h3:=all_eq_true.1 h2 j (mem_range.2 hjn);rw[Bool.or_eq_true,Nat.ble_eq]at h3;rcases h3 with h3|h3
      ·omega
      ·exact absurd (hL0 n0 (hanc n0 h3)) (Nat.lt_irrefl _)
    ·exact q
   have hslot:∀t∈zdl ops o,getS (FD C ops fr0 S0 L ops.length) t=getS (stp C ops fr0 S0 j).1 t:=by
    intro t ht
    have:=FD_slot (L:=L) (t:=t) (j:=j) (fun i o hi=>hok i o (by omega)) (Nat.le_of_lt hjn) (fun i oi hij hoi hd=>by
     rcases zdi hord hij hoi ho with q|q
     ·exact hanc i q
     ·exact absurd ht ((zgr q.1).1 t hd).1) (fun i oi hij hoi hd=>by
     cases hL:L.getD i false with
     |false=>rfl
     |true=>
      rcases Nat.lt_or_ge j i with q|q
      ·rcases zdi hord q ho hoi with q'|q'
       ·exact(hdesc i oi hoi hL q').elim
       ·exact absurd ht ((zgr q'.1).2 t hd)
      ·have:i=j:=by omega
       subst this;rw[hnj']at hL;cases hL) ops.length (Nat.le_refl _)
    rw[Nat.min_eq_right (Nat.le_of_lt hjn)]at this;exact getS_of this
   rcases Nat.eq_or_lt_of_le hj0 with hj0|hj0
   ·subst hj0;rcases hend with⟨h1,_⟩|⟨o1,x,H,h1⟩
    ·omega
    have h2:=h1.at_;rw[ho]at h2;cases h2;have hgd:zdB ops (FD C ops fr0 S0 L ops.length) o=some true:=by rw[zhT hslot];exact h1.guard
    have hwant:Region.wanted o (yielded ops.toArray a.tmps)=true:=by obtain⟨b',fr',e1,_,e2⟩:=zgm hgd hG.fr;cases e1;exact e2
    unfold wpOp;simp only[List.getElem?_toArray,ho,hwant,if_true];have hno:∀i,m≤i→i<j→¬Effw C ops fr0 S0 i:=fun i h1' h2' hei=>by
     have h3:=hm2 i h1' hei;obtain⟨oi,hoi,hw,hk'⟩:=hei;rcases zdi hord h2' hoi ho with q|q
     ·rw[hanc i q]at h3;cases h3
     ·exact q.2 ⟨hk',(zls h1.op).2⟩
    have hT:=zjP hok hn0 j hm (Nat.le_refl _) hno;have hX:=h1.run;have hX:opX C (FD C ops fr0 S0 L ops.length) (rst C ops L (stp C ops fr0 S0 m).2) o=some (x,H):=by rw[←hX,hT];exact opX_congr (zpy hslot) rfl
    refine .inl (zmG hhC hG.n hX h1.op hG.rel hG.fr (fun x1 H1 w' β' x' g1 g2 g3 g4 g5=>?_) fun s S' w' v' β' lam' g1=>(by cases g1));cases g1;exact hkp h1.pan x _ ⟨(rst C ops L (stp C ops fr0 S0 m).2).bx,H⟩ a w' β' lam x' h1.kp ⟨g2,g3,hG.ext.trans g5⟩ ⟨hM.tmps,hM.size,Bt.le_trans hM.le g5.le,hM.dfr⟩ g4
   obtain⟨b,hb⟩:=hok j o hj0 ho;have hwant:Region.wanted o (yielded ops.toArray a.tmps)=b:=by
    have hg:zdB ops (FD C ops fr0 S0 L ops.length) o=some b:=by rw[zhT hslot];exact hb.guard
    obtain⟨b',fr',e1,_,e2⟩:=zgm hg hG.fr;cases e1;exact e2
   have hset:FD C ops fr0 S0 (L.setIfInBounds j true) ops.length=putS (FD C ops fr0 S0 L ops.length) o.dst (sl C ops fr0 S0 j):=by
    rw[FD_set ho hjL hnj' (fun i oi hij hoi hL d hd=>by
     rcases zdi hord hij ho hoi with q|q
     ·exact(hdesc i oi hoi hL q).elim
     ·exact((zgr q.1).1 d hd).2) ops.length (Nat.le_refl _),if_neg (by omega)]
   have hmono:∀x,L.getD x false=true→(L.setIfInBounds j true).getD x false=true:=fun x hx=>by
    rw[zeW hjL];split
    ·rfl
    ·exact hx
   have hjj:(L.setIfInBounds j true).getD j false=true:=by rw[zeW hjL,if_pos rfl]
   have hne:∀x,x≠j→(L.setIfInBounds j true).getD x false=L.getD x false:=fun x hx=>by rw[zeW hjL,if_neg hx]
   have hjU:j∈U:=hUm j hjn hnj';have hWo:=hW o (mem_of_getElem? ho);have hIj:∀m',(∀(i:Nat) o d,ops[i]?=some o→isLA C.O C.f o=true→o.dst=some d→L.getD i false=false→(stp C ops fr0 S0 m').2.bx d=S0.bx d) →
     ∀(i:Nat) o d,ops[i]?=some o→isLA C.O C.f o=true→o.dst=some d→(L.setIfInBounds j true).getD i false=false→(stp C ops fr0 S0 m').2.bx d=S0.bx d:=fun m' h i o' d h1 h2 h3 h4=>by
    rw[zeW hjL]at h4;split at h4
    ·cases h4
    ·exact h i o' d h1 h2 h3 h4
   have next:∀(a':Act) (w':World) (β':Bt) (lam':Nat→Nat) (m':Nat),m'≤n0→(∀i,i<m'→Effw C ops fr0 S0 i→(L.setIfInBounds j true).getD i false=true)→(∀i,m'≤i→Effw C ops fr0 S0 i→(L.setIfInBounds j true).getD i false=false) →
     (∀(i:Nat) o d,ops[i]?=some o→isLA C.O C.f o=true→o.dst=some d→(L.setIfInBounds j true).getD i false=false→(stp C ops fr0 S0 m').2.bx d=S0.bx d) →
     Good C.P w0 H0 β0 (putS (FD C ops fr0 S0 L ops.length) o.dst (sl C ops fr0 S0 j)) (rst C ops (L.setIfInBounds j true) (stp C ops fr0 S0 m').2) a' w' β' lam'→zb7 W S1 a1 β1 l1 (rst C ops (L.setIfInBounds j true) (stp C ops fr0 S0 m').2) a' β' lam'→wpAny C.P .any ops.toArray Q fuel (L.setIfInBounds j true) a' w':=by
    intro a' w' β' lam' m' q1 q2 q3 q0 q4 q5;refine ih (L.setIfInBounds j true) a' w' β' lam' (U.erase j) m' (by simpa using hs) (by rw[length_erase_of_mem hjU,hU];rfl) (fun i hi hLi=>?_) (fun i oi hLi hoi e hem hbd=>?_) (fun i hi=>?_) q1 q2 q3 q0 (by rw[hset];exact q4) q5
    ·have hij:i≠j:=fun q=>by subst q;rw[hjj]at hLi;cases hLi
     rw[hne i hij]at hLi;exact(mem_erase_of_ne hij).2 (hUm i hi hLi)
    ·by_cases hij:i=j
     ·subst hij;rw[ho]at hoi;cases hoi;exact hmono _ (he e hem hbd)
     ·rw[hne i hij]at hLi;exact hmono _ (hcl i oi hLi hoi e hem hbd)
    ·by_cases hij:i=j
     ·rw[hij];exact hj0
     ·rw[hne i hij]at hi;exact hL0 i hi
   unfold wpOp;simp only[List.getElem?_toArray,ho,hwant];cases b with
   |false=>
    simp only[Bool.false_eq_true,if_false];have hnoteff:∀i,Effw C ops fr0 S0 i→i≠j:=fun i ⟨oi,hoi,hw,_⟩ q=>by subst q;rw[ho]at hoi;cases hoi;have h1:=hb.guard;unfold Wd at hw;rw[hw]at h1;cases h1
    have hl:isLA C.O C.f o=false:=by
     cases hl:isLA C.O C.f o with
     |false=>rfl
     |true=>
      have h1:=hb.guard;rw[LA_guard hl]at h1;cases h1
    refine next _ w β lam m hm (fun i hi hei=>hmono i (hm1 i hi hei)) (fun i hi hei=>by rw[hne i (hnoteff i hei)];exact hm2 i hi hei) (hIj m hI) ?_ ?_
    rotate_left
    ·rw[zlf ho hjL hl];exact hM.put hWo _ (BMv.refl _ _) (Bt.le_refl _)
    rw[zlf ho hjL hl];refine⟨hG.rel,?_,hG.ext⟩;rw[(hb.no rfl).1];exact hG.fr.put (s:=.und) rfl _
   |true=>
    simp only[if_true];have hcong:∀S,opRD C (FD C ops fr0 S0 L ops.length) S o=opRD C (stp C ops fr0 S0 j).1 S o:=fun S=>zp9 (zpy hslot);refine .inl ?_;cases hl:isLA C.O C.f o with
    |true=>
     obtain⟨T,d,_,hop,hd,_⟩:=LA_inv hl;obtain⟨c,g1,g2,g3⟩:=hla' j o d ho hl hd;have hdue:Due C ops L d:=⟨j,o,ho,hl,hd,hnj'⟩
     have hsl:sl C ops fr0 S0 j=.loc d 0:=by have:=hb.yes rfl;unfold opRD opD at this;rw[hl,hd]at this;exact(congrArg Prod.fst (Option.some.inj this)).symm
     have hnotd:¬Due C ops (L.setIfInBounds j true) d:=fun⟨i,o',h1,h2,h3,h4⟩=>by have hij:=huniq i j o' o h1 ho h2 hl (h3.trans hd.symm);subst hij;rw[hjj]at h4;cases h4
     have hst:rst C ops (L.setIfInBounds j true) (stp C ops fr0 S0 m).2=(rst C ops L (stp C ops fr0 S0 m).2).setB d (some c):=by
      refine St.ext' (fun e=>?_) rfl;by_cases he:e=d
      ·subst he;rw[zdU hnotd,St.setB_same,hI j o e ho hl hd hnj',g2]
      ·rw[St.setB_ne _ _ he];have hde:=zoi (C:=C) ho hjL (e:=e) (.inr (fun q=>he (by rw[hd]at q;cases q;rfl)));by_cases hu:Due C ops L e
       ·rw[zdm hu,zdm (hde.2 hu)]
       ·rw[zdU hu,zdU fun q=>hu (hde.1 q)]
     have hnoteff:∀i,Effw C ops fr0 S0 i→i≠j:=fun i ⟨oi,hoi,hw,hk⟩ q=>by subst q;rw[ho]at hoi;cases hoi;rw[zlG hl]at hk;cases hk
     refine zig (r:=(sl C ops fr0 S0 j,rst C ops (L.setIfInBounds j true) (stp C ops fr0 S0 m).2)) hhC hG.n (by rw[hst,hsl];exact g3 _ _ (zdm hdue)) hG.rel hG.fr fun s S' w' v' β' lam' k1 k2 k3 k4 k5 k6=>?_;cases k1;exact next _ w' β' lam' m hm (fun i hi hei=>hmono i (hm1 i hi hei)) (fun i hi hei=>by rw[hne i (hnoteff i hei)];exact hm2 i hi hei) (hIj m hI) ⟨k2,k3.put k4 _,hG.ext.trans k5⟩ (hM.put hWo _ k6 k5.le)
    |false=>
    have step:∀m',m'≤n0→(∀i,i<m'→Effw C ops fr0 S0 i→(L.setIfInBounds j true).getD i false=true)→(∀i,m'≤i→Effw C ops fr0 S0 i→(L.setIfInBounds j true).getD i false=false) →
      (∀(i:Nat) o d,ops[i]?=some o→isLA C.O C.f o=true→o.dst=some d→L.getD i false=false→(stp C ops fr0 S0 m').2.bx d=S0.bx d) →
      opRD C (FD C ops fr0 S0 L ops.length) (rst C ops L (stp C ops fr0 S0 m).2) o=some (sl C ops fr0 S0 j,rst C ops L (stp C ops fr0 S0 m').2)→o.wp C.P a w (wpAny C.P .any ops.toArray Q fuel (L.setIfInBounds j true)) Q:=by
     intro m' q1 q2 q3 q0 q4;rw[zcJ hl]at q4;refine zig (r:=(sl C ops fr0 S0 j,rst C ops L (stp C ops fr0 S0 m').2)) hhC hG.n q4 hG.rel hG.fr fun s S' w' v' β' lam' g1 g2 g3 g4 g5 g6=>?_;cases g1;exact next _ w' β' lam' m' q1 q2 q3 (hIj m' q0) (by rw[zlf ho hjL hl];exact⟨g2,g3.put g4 _,hG.ext.trans g5⟩) (by rw[zlf ho hjL hl];exact hM.put hWo _ g6 g5.le)
    have htagd:∀r,opR C (FD C ops fr0 S0 L ops.length) (stp C ops fr0 S0 m).2 o=some r→∀d,zbJ C (FD C ops fr0 S0 L ops.length) o=some d→(rst C ops L (stp C ops fr0 S0 m).2).bx d=(stp C ops fr0 S0 m).2.bx d:=fun r hr d hd=>by
     by_cases hu:Due C ops L d
     ·rcases tag_loc hd with⟨x,off,hx⟩|h2
      ·have h1:=zeQ hG.rel hG.fr x;rw[hx]at h1;have h1:((rst C ops L (stp C ops fr0 S0 m).2).bx d).isSome=true:=h1.1;rw[zdm hu]at h1;cases h1
      ·rw[zdm hu,h2 _ _ hr]
     ·exact zdU hu
    cases hkd:zca C.P C.O C.f o with
    |pure=>
     have hnoteff:∀i,Effw C ops fr0 S0 i→i≠j:=fun i ⟨oi,hoi,hw,hk⟩ q=>by subst q;rw[ho]at hoi;cases hoi;rw[hkd]at hk;cases hk
     exact step m hm (fun i hi hei=>hmono i (hm1 i hi hei)) (fun i hi hei=>by rw[hne i (hnoteff i hei)];exact hm2 i hi hei) hI (by rw[hcong];exact(zlx (S2:=rst C ops L (stp C ops fr0 S0 m).2) (hb.yes rfl) (.inl hkd)).2)
    |read=>
     have hnoteff:∀i,Effw C ops fr0 S0 i→i≠j:=fun i ⟨oi,hoi,hw,hk⟩ q=>by subst q;rw[ho]at hoi;cases hoi;rw[hkd]at hk;cases hk
     suffices hsuf:opRD C (stp C ops fr0 S0 j).1 (stp C ops fr0 S0 m).2 o=some (sl C ops fr0 S0 j,(stp C ops fr0 S0 m).2) by
      refine step m hm (fun i hi hei=>hmono i (hm1 i hi hei)) (fun i hi hei=>by rw[hne i (hnoteff i hei)];exact hm2 i hi hei) hI ?_;rw[←hcong]at hsuf;refine zhi hsuf hkd ?_;rw[zcJ hl]at hsuf;have ht:=htagd _ hsuf;unfold zmf;split
      ·rfl
      ·rename_i d hd;exact ht d hd
     obtain⟨r1,r2⟩:=read_any hok hn0 hchk hj0 ho hb hkd;rcases Nat.le_total m j with q|q
     ·refine r1 (j-m) m (by omega) fun i h1 h2 hei=>?_;cases hbit:((ancs ops).getD j 0).testBit i with
      |false=>rfl
      |true=>
       have h3:=hanc i hbit;rw[hm2 i h1 hei]at h3;cases h3
     ·refine r2 m q hm fun i h1 h2 hei=>?_;cases hbit:((ancs ops).getD i 0).testBit j with
      |false=>rfl
      |true=>
       have h3:=hm1 i h2 hei;obtain⟨oi,hoi,_⟩:=hei;exact(hdesc i oi hoi h3 hbit).elim
    |eff=>
     have hej:Effw C ops fr0 S0 j:=⟨o,ho,hb.guard,hkd⟩
     have hmj:m≤j:=by
      rcases Nat.lt_or_ge j m with q|q
      ·have:=hm1 j q hej;rw[hnj']at this;cases this
      ·exact q
     have hno:∀i,m≤i→i<j→¬Effw C ops fr0 S0 i:=fun i h1 h2 hei=>by
      have h3:=hm2 i h1 hei;obtain⟨oi,hoi,hw,hk⟩:=hei;rcases zdi hord h2 hoi ho with q|q
      ·rw[hanc i q]at h3;cases h3
      ·exact q.2 ⟨hk,hkd⟩
     have hT:=zjP hok hn0 j hmj (Nat.le_of_lt hj0) hno;have hy:=hb.yes rfl;rw[hT,←hcong,zcJ hl]at hy;have hk':zdh C.P o.op=.eff:=by rw[←zeN hl];exact hkd
     have htag:=zoh hy hk';have hbx:=htagd _ hy;refine step (j+1) hj0 (fun i hi hei=>?_) (fun i hi hei=>?_) (fun i o' d h1 h2 h3 h4=>?_) ?_
     ·rcases Nat.lt_or_ge i m with q|q
      ·exact hmono i (hm1 i q hei)
      ·rcases Nat.lt_or_ge i j with q'|q'
       ·exact absurd hei (hno i q q')
       ·have:i=j:=by omega
        subst this;exact hjj
     ·rw[hne i (by omega)];exact hm2 i (by omega) hei
     ·have hdue:Due C ops L d:=⟨i,o',h1,h2,h3,h4⟩
      have hm0:=hI i o' d h1 h2 h3 h4;obtain⟨c,_,hc,_⟩:=hla' i o' d h1 h2 h3;have hnt:zbJ C (FD C ops fr0 S0 L ops.length) o≠some d:=fun q=>by have:=hbx d q;rw[zdm hdue,hm0,hc]at this;cases this
      rw[←hm0];cases ht:zbJ C (FD C ops fr0 S0 L ops.length) o with
      |none=>rw[ht]at htag;exact congrFun htag d
      |some e=>rw[ht]at htag;exact htag.2 d fun q=>hnt (by rw[ht,q])
     ·rw[zcJ hl];refine(eff_bx (bx2:=(rst C ops L (stp C ops fr0 S0 m).2).bx) hy hk' hbx).trans ?_;congr 2;refine St.ext' (fun d=>?_) rfl;have he:zbJ C (FD C ops fr0 S0 L ops.length) o≠some d→(stp C ops fr0 S0 (j+1)).2.bx d=(stp C ops fr0 S0 m).2.bx d:=fun q=>by
       cases ht:zbJ C (FD C ops fr0 S0 L ops.length) o with
       |none=>rw[ht]at htag;exact congrFun htag d
       |some e=>rw[ht]at htag;exact htag.2 d fun q'=>q (by rw[ht,q'])
      have hd:zbJ C (FD C ops fr0 S0 L ops.length) o=some d→¬Due C ops L d:=fun q hu=>by obtain⟨i,o',h1,h2,h3,h4⟩:=id hu;obtain⟨c,_,hc,_⟩:=hla' i o' d h1 h2 h3;have:=hbx d q;rw[zdm hu,hI i o' d h1 h2 h3 h4,hc]at this;cases this
      show znQ (zbJ C (FD C ops fr0 S0 L ops.length) o) (stp C ops fr0 S0 (j+1)).2.bx (rst C ops L (stp C ops fr0 S0 m).2).bx d=_;have keep:zbJ C (FD C ops fr0 S0 L ops.length) o≠some d→(rst C ops L (stp C ops fr0 S0 m).2).bx d=(rst C ops L (stp C ops fr0 S0 (j+1)).2).bx d:=fun q=>by
       by_cases hu:Due C ops L d
       ·rw[zdm hu,zdm hu]
       ·rw[zdU hu,zdU hu,he q]
      cases ht:zbJ C (FD C ops fr0 S0 L ops.length) o with
      |none=>exact keep (by rw[ht];exact fun q=>by cases q)
      |some e=>
       show (if d=e then (stp C ops fr0 S0 (j+1)).2.bx d else (rst C ops L (stp C ops fr0 S0 m).2).bx d)=_;by_cases q:d=e
       ·subst q;rw[if_pos rfl,zdU (hd ht)]
       ·rw[if_neg q];exact keep (by rw[ht];exact fun q'=>q (by cases q';rfl))
 have hrep:∀i,(Array.replicate ops.length false).getD i false=false:=fun i=>by rw[Array.getD_eq_getD_getElem?,Array.getElem?_replicate];split<;>rfl
 have hFD:∀m,FD C ops fr0 S0 (Array.replicate ops.length false) m=fr0:=by
  intro m;induction m with
  |zero=>rfl
  |succ m ih=>unfold FD;rw[hrep];exact ih
 have hst0:rst C ops (Array.replicate ops.length false) S0=Sb:=by
  refine St.ext' (fun d=>?_) hhp;by_cases hu:Due C ops (Array.replicate ops.length false) d
  ·rw[zdm hu];obtain⟨i,o',h1,h2,h3,h4⟩:=hu;exact(hla' i o' d h1 h2 h3).choose_spec.1.symm
  ·rw[zdU hu];refine hoth d fun o ho hl hd=>?_;obtain⟨i,hi⟩:=mem_iff_getElem?.1 ho;exact hu ⟨i,o,hi,hl,hd,hrep i⟩
 refine main ops.length _ a w β lam (List.range ops.length) 0 (by simp) (by simp) (fun i hi _=>mem_range.2 hi) ?_ (fun i hi=>by rw[hrep]at hi;cases hi) (Nat.zero_le _) (fun i hi=>by omega) (fun i _ _=>hrep i) (fun i o d _ _ _ _=>rfl) ?_ ?_
 ·intro i o hi;rw[hrep]at hi;cases hi
 ·rw[hFD];show Good C.P w0 H0 β0 fr0 (rst C ops _ S0) a w β lam;rw[hst0];exact hG
 ·show zb7 W S1 a1 β1 l1 (rst C ops _ S0) a β lam;rw[hst0];exact hM
end Go.AM
namespace Go.AM
open Go
theorem sound{P:Program}{O:Orc}{ext:Ext1}(hm:P.follows .mixedOrders=true)(he:ExtC P ext)(hx:XtC P O.xt)(ho:ExtO O ext):SimC P O (run P O ext):=run_sound hm (fun O h f hh=>zoj O h f hh) he hx ho
theorem sound1{P:Program}{O:Orc}{ext:Ext1}(hm:P.follows .mixedOrders=true)(he:ExtC P ext)(hx:XtC P O.xt)(ho:ExtO O ext){f:FuncId}(hf:O.xt f=none)(hp:O.pan f=false){args:List Value}{H:Hp}{v:Value}{H':Hp}(h:run P O ext f args H=some (v,H')) :
  zno P f∧∀args' w β,LRel β args args'→Rel P w H β→Calls P f args'.toArray w fun e w'=>∃v' β',e=.returned v'∧Rel P w' H' β'∧Ext w.heap.size w H β w' H' β'∧VRel β' v v':=by
 rcases sound (O:=O) hm he hx ho f args H v H' h with⟨h1,h2⟩|⟨_,_,h2,_⟩
 ·refine⟨h1,fun args' w β h3 h4=>Calls.mono (h2 args' w β h3 h4) fun e w' h5=>?_⟩;unfold Ends at h5;rw[hp]at h5;exact h5
 ·exact absurd h2 (run_body hf h)
#print axioms sound
end Go.AM
namespace Go.AM
open List Go Go.ChangeShapes Go.WideShapes Go.ChangeAt Go.RowKit
theorem znf{P:Program}{O:Orc}{ext:Ext1}(hm:P.follows .mixedOrders=true)(he:ExtC P ext){f:FuncId}{W:World}{args:Array Value}{H H':Hp}{β:Bt}{xs:List Value}
  (hR:Rel P W H β) (hno:∀i o,H.get i=some o→o.own=false) (ha:LRel β xs args.toList) (hrun:run P O ext f xs H=some (.bool true,H')) (hx:XtC P O.xt:=by intro f e h;cases h) (hxf:O.xt f=none:=by rfl) (ho:ExtO O ext:=by intro f _;rfl) (hpf:O.pan f=false:=by rfl) :
  Calls P f args W fun e W'=>e=.returned (.bool true)∧Below W.heap.size W W':=by
 have h:=(sound1 (O:=O) hm he hx ho hxf hpf hrun).2 args.toList W β ha hR;rw[show args.toList.toArray=args from by simp]at h;refine h.mono fun e W' ⟨v',β',h1,h2,h3,h4⟩=>?_;cases h4;exact⟨h1,h3.os,h3.tape,h3.output,h3.size,fun k hk=>h3.frame k hk fun⟨i,o,x,g1,g2,_,_⟩=>by rw[hno i o g1]at g2;cases g2⟩
theorem zgw{HH:Type}{enc:TypeId×Value→HH}{P:Program}(hl:laidOutB P=true){W W':World}(hb:Below W.heap.size W W') :
  ∀{ts:List TypeId} {vs:List Value} {ds:List (DataW HH)} {ps:List MemPlace},(∀t∈ts,P.readableRec t=true∧t<P.types.size)→DataW.TrodAll enc P W 0 (fun _=>true) true ts vs ds ps →
   (∀x∈ps,x.block<W.heap.size)→DataW.TrodAll enc P W' 0 (fun b=>decide (b<W.heap.size)) true ts vs ds ps
 |[],[],[],ps,_,h,_=>h
 |t::ts,v::vs,d::ds,ps,ht,h,hlt=>by
  obtain⟨p,q,h1,h2,e⟩:=h;have h0:=ht t (mem_cons_self ..);exact⟨p,q,Below.trod hl h0.1 h0.2 h1 hb (fun x hx=>hlt x (by rw[e];simp[hx])),zgw hl hb (fun t h=>ht t (mem_cons_of_mem _ h)) h2 (fun x hx=>hlt x (by rw[e];simp[hx])),e⟩
 |[],_::_,_,_,_,h,_=>h.elim
 |[],[],_::_,_,_,h,_=>h.elim
 |_::_,[],_,_,_,h,_=>h.elim
 |_::_,_::_,[],_,_,h,_=>h.elim
theorem post_true{HH:Type}{enc:TypeId×Value→HH}{P:Program}{f:Func}{s:ChangeSpec}(hl:laidOutB P=true)(hp:∀t∈f.params.toList,P.readableRec t=true∧t<P.types.size)(hv:s.vars=[])
  {tb:TypeId} (hr:f.resultTypes = #[tb]) (hb:P.underlying tb=some .bool) {W W':World} {args:Array Value} {ds gs:List (DataW HH)} {before:List MemPlace}
  (hW:DataW.Whole enc P f.params.toList s.vars false W args.toList ds gs before) (hB:Below W.heap.size W W') (hfn:s.fn HH (ds++gs)={ results:=[.lit (.bool true)],args:=ds }) :
  s.post enc P f false true false false W args (.bool true) W':=by
 have hlt:=hW.lt;obtain⟨p,q,h1,h2,e,h3,h4⟩:=id hW;rw[hv]at h2;have hq:gs=[]∧q=[]:=by
  cases gs with
  |nil=>exact⟨rfl,h2⟩
  |cons g gs=>exact h2.elim
 refine⟨ds,gs,before,[],p,[],hW,?_,?_,?_,?_,fun h=>by cases h⟩
 ·rw[hfn,hr];exact trodAll_cons_mk (shut_bool hb _) trodAll_mk0
 ·rw[hfn];exact zgw hl hB hp h1 (fun x hx=>hlt x (by rw[e];simp[hx]))
 ·rw[hfn,hv];rfl
 ·exact hB.frame _
theorem znw{P:Program}{W:World}(h:W.ShapedOpen P)(hg:P.globals.size=0∨∃x,(((begin P (fun _ _=>0) default).world.heap[P.globals.size-1]?).bind Obj.row?)=some x):P.globals.size≤W.heap.size:=by
 rcases hg with hg|⟨⟨z,t⟩,hx⟩
 ·omega
 ·rcases Nat.eq_zero_or_pos P.globals.size with h0|h0
  ·omega
  ·obtain⟨cs,hc,_⟩:=h.1 (P.globals.size-1) z t (by omega) hx;have:=(Array.getElem?_eq_some_iff.1 hc).1;omega
inductive Sc where
 |bool|int (k:IntKind)|str
def okSc:Sc→Value→Prop
 |.bool,v=>∃b,v=.bool b
 |.int k,v=>∃n,v=.int k n∧k.min≤n∧n≤k.max
 |.str,v=>∃s:ByteArray,v=.string s
theorem okSc.rel{k:Sc}{v:Value}(h:okSc k v)(β:Bt):VRel β v v:=by
 cases k with
 |bool=>obtain⟨b,rfl⟩:=h;exact .bool b
 |int k=>obtain⟨n,rfl,_⟩:=h;exact .int k n
 |str=>obtain⟨s,rfl⟩:=h;exact .string s
def zpu(P:Program)(c:TypeId→Option (List Sc)):List Field→Nat→Option (List Sc)
 |[],_=>some []
 |f::fs,off=>match c f.type with
  |none=>none
  |some ks=>match Nat.beq f.offset off&&Nat.beq ks.length (P.cellsOf f.type) with
   |true=>match zpu P c fs (off+ks.length) with
    |some r=>some (ks++r)
    |none=>none
   |false=>none
def flat(P:Program):Nat→TypeId→Option (List Sc)
 |0,_=>none
 |d+1,t=>match P.underlying t with
  |some .bool=>some [.bool]
  |some (.int k)=>some [.int k]
  |some .string=>some [.str]
  |some (.struct fs)=>match zpu P (flat P d) fs.toList 0 with
   |some ks=>match Nat.beq ks.length (P.cellsOf t) with
    |true=>some ks
    |false=>none
   |none=>none
  |_=>none
def OkL(ks:List Sc)(cs:List Value):Prop:=cs.length=ks.length∧∀(j:Nat) k,ks[j]?=some k→∃v,cs[j]?=some v∧okSc k v
theorem OkL.one{k:Sc}{v:Value}(h:okSc k v):OkL [k] [v]:=⟨rfl,fun j k' hk=>by
 cases j with
 |zero=>cases hk;exact⟨v,rfl,h⟩
 |succ j=>cases hk⟩
variable {HH:Type}{enc:TypeId×Value→HH}{P:Program}{w:World}{base:Nat}{sp:Nat→Bool}{held:Bool}
theorem zmZ{n:Nat}{c:TypeId→Option (List Sc)}(hc:∀t ks cs x,c t=some ks→DataW.trod enc P w base sp held n t cs=some x→OkL ks cs){cs:List Value} :
  ∀(fs:List Field) (off:Nat) (ks:List Sc),zpu P c fs off=some ks→(∀f∈fs,∃x,DataW.trod enc P w base sp held n f.type ((cs.drop f.offset).take (P.cellsOf f.type))=some x)→off+ks.length≤cs.length →
   ∀(j:Nat) k,ks[j]?=some k→∃v,cs[off+j]?=some v∧okSc k v
 |[],off,ks,h,_,_,j,k,hk=>by cases h;cases hk
 |f::fs,off,ks,h,hx,hl,j,k,hk=>by
  unfold zpu at h;split at h
  ·cases h
  ·rename_i k1 h1;split at h
   ·rename_i hb;rw[Bool.and_eq_true]at hb;have ho:f.offset=off:=Nat.eq_of_beq_eq_true hb.1;have hk1:k1.length=P.cellsOf f.type:=Nat.eq_of_beq_eq_true hb.2;split at h
    ·rename_i r hr;cases h;obtain⟨x,hx1⟩:=hx f (mem_cons_self ..);have hok:=hc _ _ _ _ h1 hx1;rcases Nat.lt_or_ge j k1.length with q|q
     ·rw[List.getElem?_append_left q]at hk;obtain⟨v,hv,hs⟩:=hok.2 j k hk;rw[List.getElem?_take]at hv;split at hv
      ·rw[List.getElem?_drop,ho]at hv;exact⟨v,hv,hs⟩
      ·cases hv
     ·rw[List.getElem?_append_right q]at hk;simp only[length_append]at hl;obtain⟨v,hv,hs⟩:=zmZ hc fs (off+k1.length) r hr (fun f hf=>hx f (mem_cons_of_mem _ hf)) (by omega) (j-k1.length) k hk;exact⟨v,by rw[show off+j=off+k1.length+(j-k1.length) by omega];exact hv,hs⟩
    ·cases h
   ·cases h
theorem flat_ok:∀(d:Nat) (t:TypeId) (ks:List Sc),flat P d t=some ks→∀(fuel:Nat) (cs:List Value) (x:DataW HH×List MemPlace),DataW.trod enc P w base sp held fuel t cs=some x→OkL ks cs
 |0,t,ks,h,_,_,_,_=>by cases h
 |d+1,t,ks,h,fuel,cs,x,hx=>by
  unfold flat at h;split at h
  ·rename_i hu;cases h;obtain⟨b,rfl,_⟩:=DataW.trod_bool hu hx;exact OkL.one ⟨b,rfl⟩
  ·rename_i k hu;cases h;obtain⟨n,rfl,_,hw⟩:=DataW.trod_int hu hx;refine OkL.one ⟨n,rfl,?_⟩;simpa[Lit.wf] using hw
  ·rename_i hu;cases h;obtain⟨s,rfl,_⟩:=DataW.trod_string hu hx;exact OkL.one ⟨s,rfl⟩
  ·rename_i fs hu;split at h
   ·rename_i k1 hf;split at h
    ·rename_i hb;cases h;have hlen:ks.length=P.cellsOf t:=Nat.eq_of_beq_eq_true hb;obtain⟨xs,n,rfl,_,hl,hxl,hall⟩:=DataW.trod_struct hu hx;refine⟨by omega,fun j k hk=>?_⟩
     obtain⟨v,hv,hs⟩:=zmZ (n:=n) (fun t ks cs x h1 h2=>flat_ok d t ks h1 n cs x h2) (cs:=cs) fs.toList 0 ks hf (fun f hf=>by
      obtain⟨i,hi,rfl⟩:=getElem_of_mem hf;have hi':i<fs.size:=by simpa using hi
      have:=hall i fs.toList[i] (by simp[hi']);rw[this]
      exact⟨xs[i],by simp⟩) (by omega) j k hk
     exact⟨v,by simpa using hv,hs⟩
    ·cases h
   ·cases h
  ·cases h
def B00(P:Program):Bt:=fun g=>if g<P.globals.size then some ⟨g,0,0⟩ else none
theorem Rel.addRo{W:World}{H:Hp}{β:Bt}(h:Rel P W H β)(hno:∀i o,H.get i=some o→o.own=false){cs:List Value}{b s t:Nat}(hb:b<W.heap.size)
  (hc:∀(j:Nat) v,cs[j]?=some v→∃v',W.cell? ⟨b,s+j,none⟩=some v'∧VRel β v v') :
  Rel P W (H.new (.cells cs false)) (β.set H.next ⟨b,s,t⟩)∧(∀i o,(H.new (.cells cs false)).get i=some o→o.own=false)∧β.le (β.set H.next ⟨b,s,t⟩):=by
 have hf:=(h.fresh H.next (Nat.le_refl _)).2;have hle:β.le (β.set H.next ⟨b,s,t⟩):=Bt.le_set hf;have hno':∀i o,(H.new (.cells cs false)).get i=some o→o.own=false:=fun i o hi=>by
  rw[Hp.get_new]at hi;split at hi
  ·cases hi;rfl
  ·exact hno i o hi
 refine⟨⟨fun i ds own hi=>?_,fun i kv hi=>?_,fun i j o o' x y hij hi hj ho=>(by rw[hno' i o hi]at ho;cases ho),fun i hi=>?_,fun i x hx=>?_,fun g hg=>?_,fun i o hi=>(by
   rw[Hp.get_new]at hi;split at hi
   ·cases hi
   ·obtain⟨x,hx,h0,h1⟩:=h.fix i o hi
    exact⟨x,hle i x hx,h0,h1⟩),fun i T hi=>(h.tys i T hi).le hle⟩,hno',hle⟩
 ·rw[Hp.get_new]at hi;split at hi
  ·rename_i e;cases hi;subst e;exact⟨_,Bt.set_same _ _ _,fun j v hv=>by obtain⟨v',h1,h2⟩:=hc j v hv;exact⟨v',h1,h2.mono hle⟩,fun ho=>by cases ho⟩
  ·obtain⟨x,hx,h1,h2⟩:=h.cells i ds own hi;exact⟨x,hle i x hx,fun j v hv=>by obtain⟨v',h3,h4⟩:=h1 j v hv;exact⟨v',h3,h4.mono hle⟩,h2⟩
 ·rw[Hp.get_new]at hi;split at hi
  ·cases hi
  ·have:=hno i _ hi;cases this
 ·have hi:H.next+1≤i:=hi;have:=h.fresh i (by omega);refine⟨?_,?_⟩
  ·rw[Hp.get_new,if_neg (by omega)];exact this.1
  ·unfold Bt.set;rw[if_neg (by omega)];exact this.2
 ·unfold Bt.set at hx;split at hx
  ·cases hx;exact hb
  ·exact h.lt i x hx
 ·obtain⟨t',ht⟩:=h.glob g hg;exact⟨t',hle g _ ht⟩
theorem zpi{γ δ:Type}{f:γ→Option δ}:∀(l:List γ) (cs:List δ),l.mapM f=some cs→cs.length=l.length∧∀(j:Nat) x,l[j]?=some x→∃c,cs[j]?=some c∧f x=some c
 |[],cs,h=>by cases h;exact⟨rfl,fun j x hx=>by cases hx⟩
 |y::l,cs,h=>by
  rw[mapM_cons]at h;cases hy:f y with
  |none=>rw[hy]at h;cases h
  |some c=>
   rw[hy]at h;cases hl:l.mapM f with
   |none=>rw[hl]at h;cases h
   |some r=>
    rw[hl]at h;cases h;obtain⟨h1,h2⟩:=zpi l r hl;refine⟨by simp[h1],fun j x hx=>?_⟩;cases j with
    |zero=>cases hx;exact⟨c,rfl,hy⟩
    |succ j=>exact h2 j x hx
theorem zjq{sz:Nat}:∀(L:List (List Value)),(∀l∈L,l.length=sz)→∀i j,j<sz→L.flatten[i*sz+j]?=L[i]?.bind fun l=>l[j]?
 |[],_,i,j,_=>by simp
 |l::L,hL,i,j,hj=>by
  have h0:=hL l (mem_cons_self ..);rw[flatten_cons];cases i with
  |zero=>
   rw[Nat.zero_mul,Nat.zero_add,List.getElem?_append_left (by omega)];rfl
  |succ i=>
   rw[List.getElem?_append_right (by rw[h0,Nat.succ_mul];omega),h0,show (i+1)*sz+j-sz=i*sz+j by rw[Nat.succ_mul];omega];exact zjq L (fun l hl=>hL l (mem_cons_of_mem _ hl)) i j hj
theorem zfZ{sz:Nat}:∀(L:List (List Value)),(∀l∈L,l.length=sz)→L.flatten.length=L.length*sz
 |[],_=>by simp
 |l::L,hL=>by rw[flatten_cons,length_append,hL l (mem_cons_self ..),zfZ L (fun l hl=>hL l (mem_cons_of_mem _ hl)),length_cons,Nat.succ_mul];omega
theorem arg_flats{t e:TypeId}{d:Nat}{ks:List Sc}(ht:P.underlying t=some (.slice e))(hf:flat P d e=some ks)(hk:P.cellsOf e=ks.length)(h0:0<ks.length)
  {W:World} {H:Hp} {β:Bt} (hR:Rel P W H β) (hno:∀i o,H.get i=some o→o.own=false) {b0:Nat} {v':Value} {dw:DataW HH} {ps:List MemPlace}
  (hval:Value.okWide P W .any b0 t v') (hd:DataW.Trod enc P W 0 (fun _=>true) true t v' dw ps) :
  ∃(v:Value) (H':Hp) (β':Bt),Rel P W H' β'∧(∀i o,H'.get i=some o→o.own=false)∧β.le β'∧VRel β' v v' ∧
   ((v=.slice none 0 0∧dw=.nil∧H'=H) ∨
    ∃(L:List (List Value)) (es sp:List (DataW HH)),v=.slice (some ⟨H.next,0,some ks.length⟩) L.length L.length∧H'=H.new (.cells L.flatten false)∧(∀l∈L,OkL ks l)∧dw=.slice es sp∧es.length=L.length):=by
 obtain⟨a,len,cap,rfl⟩:=okWide_slice ht hval;obtain⟨fuel,hx⟩:=hd;rcases DataW.trod_slice ht hx with⟨h1,h2⟩|⟨a',len',cap',elems,rest,n,hfu,h1,h2,h3,h4,h5,h6,h7,_,_⟩
 ·cases h1;cases h2;exact⟨.slice none 0 0,H,β,hR,hno,Bt.le_refl _,.snil,.inl ⟨rfl,rfl,rfl⟩⟩
 ·cases h1;have hhas:W.has P .any b0 a' e cap:=by have:=hval;unfold Value.okWide Cell.okWide Cell.ok at this;rw[ht]at this;exact this.2.2
  obtain⟨_,hspot,row,cells,hshape,_⟩:=hhas;obtain⟨b,s,sp0⟩:=a';simp only at hspot;subst hspot;have hbl:b<W.heap.size:=by
   unfold World.shape? at hshape;cases hq:W.heap[b]? with
   |none=>rw[hq]at hshape;cases hshape
   |some o=>exact(Array.getElem?_eq_some_iff.1 hq).1
  have hrow:∀i,i<len→∃l:List Value,OkL ks l∧∀j u,l[j]?=some u→W.cell? ⟨b,s+(i*ks.length+j),none⟩=some u:=by
   intro i hi;have:=h7 i hi;cases hc:W.cells? 0 ((⟨b,s,none⟩:Addr).add (i*P.cellsOf e)) (P.cellsOf e) with
   |none=>
    rw[hc]at this;have hlt:i<elems.length:=by omega
    rw[List.getElem?_eq_getElem hlt]at this;cases this
   |some l=>
    rw[hc]at this;have hlt:i<elems.length:=by omega
    rw[List.getElem?_eq_getElem hlt]at this;have hok:=flat_ok d e ks hf n l _ this;refine⟨l,hok,fun j u hu=>?_⟩;unfold World.cells? at hc;rw[if_pos (Nat.zero_le _)]at hc;obtain⟨g1,g2⟩:=zpi _ _ hc;have hjl:j<l.length:=(List.getElem?_eq_some_iff.1 hu).1;obtain⟨c,g3,g4⟩:=g2 j j (by rw[List.getElem?_range];simp at g1;omega);rw[hu]at g3;cases g3;rw[hk,zdL,zdL]at g4;rw[show s+(i*ks.length+j)=s+i*ks.length+j by omega];exact g4
  have hL:∃L:List (List Value),L.length=len∧∀i l,L[i]?=some l→OkL ks l∧∀j u,l[j]?=some u→W.cell? ⟨b,s+(i*ks.length+j),none⟩=some u:=by
   refine⟨(List.range len).map fun i=>if h:i<len then (hrow i h).choose else [],by simp,fun i l hl=>?_⟩;rw[List.getElem?_map]at hl;by_cases hi:i<len
   ·rw[List.getElem?_range hi]at hl;simp only[Option.map_some,dif_pos hi,Option.some.injEq]at hl;subst hl;exact(hrow i hi).choose_spec
   ·rw[List.getElem?_eq_none (by simp;omega)]at hl;cases hl
  obtain⟨L,hLl,hLp⟩:=hL;have hLk:∀l∈L,OkL ks l:=fun l hl=>by obtain⟨i,hi,rfl⟩:=getElem_of_mem hl;exact(hLp i L[i] (by simp)).1
  have hLs:∀l∈L,l.length=ks.length:=fun l hl=>(hLk l hl).1
  obtain⟨g1,g2,g3⟩:=hR.addRo hno (cs:=L.flatten) (b:=b) (s:=s) (t:=s+cap*ks.length) hbl (fun q v hv=>by
   have hq:q<L.flatten.length:=(List.getElem?_eq_some_iff.1 hv).1;rw[zfZ L hLs]at hq;have hdm:q/ks.length*ks.length+q%ks.length=q:=by rw[Nat.mul_comm];exact Nat.div_add_mod q ks.length
   have hm:=Nat.mod_lt q h0;rw[←hdm,zjq L hLs _ _ hm]at hv;cases hl:L[q/ks.length]? with
   |none=>rw[hl]at hv;cases hv
   |some l=>
    rw[hl]at hv;obtain⟨p1,p2⟩:=hLp _ l hl;refine⟨v,?_,?_⟩
    ·have:=p2 (q%ks.length) v hv;rw[hdm]at this;exact this
    ·have hkk:q%ks.length<ks.length:=hm;obtain⟨u,hu1,hu2⟩:=p1.2 (q%ks.length) _ (List.getElem?_eq_getElem hkk);have hv':l[q%ks.length]?=some v:=hv;rw[hu1]at hv';cases hv'
     exact hu2.rel _)
  refine⟨.slice (some ⟨H.next,0,some ks.length⟩) L.length L.length,_,_,g1,g2,g3,?_,.inr ⟨L,_,_,rfl,rfl,hLk,(Prod.mk.inj h2).1,by simp;omega⟩⟩;rw[hLl];exact .slice _ _ _ _ _ _ _ _ (Bt.set_same _ _ _) (Nat.le_refl _) h4 (Nat.le_refl _) (fun _=>rfl)
end Go.AM
namespace Go.AM
open Go
theorem Rel.freeze{P:Program}{w w':World}{H:Hp}{β:Bt}(h:Rel P w H β){i:Nat}{cs:List Value}{x:BI}(hi:H.get i=some (.cells cs true))(hx:β i=some x)
  (ho:w'.os=w.os) (ht:w'.tape=w.tape) (hu:w'.output=w.output) (hs:w'.heap.size=w.heap.size) (hoth:∀k,k≠x.b→w'.heap[k]?=w.heap[k]?)
  (hrow:∀arr e fz,w.heap[x.b]?=some (.cells arr e fz)→∃fz',w'.heap[x.b]?=some (.cells arr e fz')) :
  Rel P w' (H.set i (some (.cells cs false))) β∧Ext w.heap.size w H β w' (H.set i (some (.cells cs false))) β:=by
 have hfr:∀j o y,j≠i→H.get j=some o→β j=some y→w'.heap[y.b]?=w.heap[y.b]?:=fun j o y hji hj hy=>
  hoth _ (fun e=>h.apart i j _ _ x y (Ne.symm hji) hi hj rfl hx hy e.symm)
 refine⟨⟨fun j ds own hj=>?_,fun j kv hj=>?_,fun j k o o' y z hjk hj hk hoo hy hz=>?_,fun j hj=>?_,fun j y hy=>?_,h.glob,fun j o hj=>(by
   rw[Hp.get_set]at hj;split at hj
   ·cases hj
   ·rename_i hji;obtain⟨y,hy,h0,h3⟩:=h.fix j o hj
    exact⟨y,hy,h0,by rw[hfr j _ y hji hj hy];exact h3⟩),fun j T hj=>(by
   obtain⟨y,arr,fz,hy,h1,h2,h3⟩:=h.tys j T hj;by_cases e:y.b=x.b
   ·rw[e]at h2;obtain⟨fz',h4⟩:=hrow arr T fz h2;exact⟨y,arr,fz',hy,h1,by rw[e];exact h4,h3⟩
   ·exact⟨y,arr,fz,hy,h1,by rw[hoth _ e];exact h2,h3⟩)⟩,
  ⟨ho,ht,hu,by rw[hs];exact Nat.le_refl _,Bt.le_refl _,Nat.le_refl _,fun b hb hno=>?_,fun b=>?_,fun j y hy hn=>by rw[hn]at hy;cases hy⟩⟩
 ·rw[Hp.get_set]at hj;split at hj
  ·rename_i hji;cases hj;subst hji;obtain⟨x',hx',h1,_⟩:=h.cells j cs true hi;rw[hx]at hx';cases hx';refine⟨x,hx,fun k v hk=>?_,fun q=>by cases q⟩;obtain⟨v',hv',hr⟩:=h1 k v hk;obtain⟨arr,e,fz,g1,g2⟩:=zcp.1 hv';obtain⟨fz',g3⟩:=hrow arr e fz g1;exact⟨v',zcp.2 ⟨arr,e,fz',g3,g2⟩,hr⟩
  ·rename_i hji;obtain⟨y,hy,h3,h4⟩:=h.cells j ds own hj;have hw:=hfr j _ y hji hj hy;refine⟨y,hy,fun k v hk=>?_,fun q=>⟨(h4 q).1.congr hw,(h4 q).2⟩⟩;obtain⟨v',hv',hr⟩:=h3 k v hk;exact⟨v',by rw[zdb hw];exact hv',hr⟩
 ·rw[Hp.get_set]at hj;split at hj
  ·cases hj
  ·rename_i hji;obtain⟨y,hy,es,clock,h3,h4⟩:=h.maps j kv hj;exact⟨y,hy,es,clock,by rw[hfr j _ y hji hj hy];exact h3,h4⟩
 ·rw[Hp.get_set]at hj hk;split at hj
  ·cases hj;cases hoo
  ·have hk':∃q,H.get k=some q:=by
    split at hk
    ·rename_i e;subst e;exact⟨_,hi⟩
    ·exact⟨_,hk⟩
   obtain⟨q,g⟩:=hk';exact h.apart j k o q y z hjk hj g hoo hy hz
 ·have:=h.fresh j hj;rw[Hp.get_set,if_neg (fun e=>by subst e;rw[hi]at this;cases this.1)];exact this
 ·rw[hs];exact h.lt j y hy
 ·exact hoth b (fun e=>by subst e;exact hno ⟨i,_,x,hi,rfl,hx,rfl⟩)
 ·rintro⟨j,o,y,hj,hoo,hy,rfl⟩
  rw[Hp.get_set]at hj;split at hj
  ·cases hj;cases hoo
  ·exact .inr ⟨j,o,y,hj,hoo,hy,rfl⟩
structure Lim{α:Type}(F:Nat→Option α)(x:Option α):Prop where
 mono:∀n r,F n=some r→F (n+1)=some r
 le:∀n r,F n=some r→x=some r
 sup:∀r,x=some r→∃n,F n=some r
section
variable {α γ:Type}
theorem Lim.const(x:Option α):Lim (fun _=>x) x:=⟨fun _ _ h=>h,fun _ _ h=>h,fun _ h=>⟨0,h⟩⟩
theorem Lim.of_eq{F:Nat→Option α}{x:Option α}(h:∀n,F n=x):Lim F x:=by have:F=fun _=>x:=funext h;rw[this];exact Lim.const x
theorem Lim.mono' {F : Nat → Option α} {x : Option α} (h : Lim F x) {n m : Nat} (hm : n ≤ m) {r : α} (hr : F n = some r) : F m = some r := by
  induction m with
  | zero => have : n = 0 := by omega
            subst this; exact hr
  | succ m ih =>
    rcases Nat.lt_or_ge m n with q | q
    · have : n = m + 1 := by omega
      subst this; exact hr
    · exact h.mono m r (ih q)
theorem Lim.bind{F:Nat→Option γ}{x:Option γ}(h:Lim F x){G:Nat→γ→Option α}{g:γ→Option α}(hg:∀v,Lim (fun n=>G n v) (g v)):Lim (fun n=>(F n).bind (G n)) (x.bind g):=by
 have inv:∀{a:Option γ} {f:γ→Option α} {r:α},a.bind f=some r→∃v,a=some v∧f v=some r:=fun {a f r} h=>by
  cases a with
  |none=>cases h
  |some v=>exact⟨v,rfl,h⟩
 refine⟨fun n r hr=>?_,fun n r hr=>?_,fun r hr=>?_⟩
 ·obtain⟨v,h1,h2⟩:=inv hr;rw[h.mono n v h1];exact(hg v).mono n r h2
 ·obtain⟨v,h1,h2⟩:=inv hr;rw[h.le n v h1];exact(hg v).le n r h2
 ·obtain⟨v,h1,h2⟩:=inv hr;obtain⟨n,hn⟩:=h.sup v h1;obtain⟨m,hm⟩:=(hg v).sup r h2;refine⟨max n m,?_⟩;rw[h.mono' (Nat.le_max_left n m) hn];exact(hg v).mono' (Nat.le_max_right n m) hm
theorem Lim.nat{p:Option γ}{X:Nat→Option α}{x:Option α}{G:Nat→γ→Option α}{g:γ→Option α}(hX:∀n,X n=p.bind (G n))(hx:x=p.bind g)(hg:∀v,Lim (fun n=>G n v) (g v)):Lim X x:=by have:X=fun n=>p.bind (G n):=funext hX;rw[this,hx];exact(Lim.const p).bind hg
def zjY(f:List Value→Hp→Option Outc)(o:Outc):Option Outc:=
 match o with
 |(.next,l,H)=>f l H
 |r=>some r
theorem zdN(s:List Value→Hp→Option Outc)(m:Nat)(l:List Value)(H:Hp):zfr s (m+1) l H=(s l H).bind (zjY (zfr s m)):=by
 show (match s l H with|some (.next,l',H')=>zfr s m l' H'|r=>r)=_;rcases s l H with _|⟨c,l',H'⟩
 ·rfl
 ·cases c<;>rfl
theorem bind_some{α γ:Type}{a:Option γ}{f:γ→Option α}{r:α}(h:a.bind f=some r):∃v,a=some v∧f v=some r:=by
 cases a with
 |none=>cases h
 |some v=>exact⟨v,rfl,h⟩
theorem zmJ{f g:List Value→Hp→Option Outc}{o r:Outc}(h:∀l H,f l H=some r→g l H=some r)(hr:zjY f o=some r):zjY g o=some r:=by
 obtain⟨c,l,H⟩:=o;cases c with
 |next=>exact h l H hr
 |_=>exact hr
theorem zmS{step:List Value→Hp→Option Outc}:∀(n:Nat) {l:List Value} {H:Hp} {r:Outc},zfr step n l H=some r→zfr step (n+1) l H=some r
 |0,l,H,r,h=>by cases h
 |n+1,l,H,r,h=>by rw[zdN]at h ⊢;obtain⟨v,h1,h2⟩:=bind_some h;rw[h1];exact zmJ (fun l H=>zmS n) h2
theorem zpo {step : List Value → Hp → Option Outc} {n m : Nat} (hm : n ≤ m) {l : List Value} {H : Hp} {r : Outc} (h : zfr step n l H = some r) : zfr step m l H = some r := by
  induction m with
  | zero => have : n = 0 := by omega
            subst this; exact h
  | succ m ih =>
    rcases Nat.lt_or_ge m n with q | q
    · have : n = m + 1 := by omega
      subst this; exact h
    · exact zmS m (ih q)
theorem zcN{step:List Value→Hp→Option Outc}{l:List Value}{H:Hp}{r:Outc}:zat step l H=some r↔∃n,zfr step n l H=some r:=by
 unfold zat;constructor
 ·intro h;split at h
  ·rename_i hex;obtain⟨n,hn⟩:=hex.choose_spec;have h:hex.choose=r:=by simpa using h
   exact⟨n,by rw[hn,h]⟩
  ·cases h
 ·rintro⟨n,hn⟩
  have hex:∃r n,zfr step n l H=some r:=⟨r,n,hn⟩
  rw[dif_pos hex];obtain⟨m,hm⟩:=hex.choose_spec;have h1:=zpo (Nat.le_max_left n m) hn;have h2:=zpo (Nat.le_max_right n m) hm;rw[h1]at h2;exact h2.symm
theorem zak(step:List Value→Hp→Option Outc)(l:List Value)(H:Hp):zat step l H=(step l H).bind (zjY (zat step)):=by
 apply Option.ext;intro r;rw[zcN];constructor
 ·rintro⟨n,hn⟩
  cases n with
  |zero=>cases hn
  |succ n=>
   rw[zdN]at hn;obtain⟨v,h1,h2⟩:=bind_some hn;rw[h1];exact zmJ (fun l H h=>zcN.2 ⟨n,h⟩) h2
 ·intro h;obtain⟨⟨c,l',H'⟩,h1,h2⟩:=bind_some h;cases c with
  |next=>
   obtain⟨n,hn⟩:=zcN.1 h2;exact⟨n+1,by rw[zdN,h1];exact hn⟩
  |_=>exact⟨1,by rw[zdN,h1];exact h2⟩
theorem Lim.iter{F:Nat→List Value→Hp→Option Outc}{step:List Value→Hp→Option Outc}(h:∀l H,Lim (fun n=>F n l H) (step l H)):∀(m:Nat) (l:List Value) (H:Hp),Lim (fun n=>zfr (F n) m l H) (zfr step m l H)
 |0,l,H=>Lim.const none
 |m+1,l,H=>by
  have e1:(fun n=>zfr (F n) (m+1) l H)=fun n=>(F n l H).bind (zjY (zfr (F n) m)):=funext fun n=>zdN (F n) m l H;rw[e1,zdN];refine(h l H).bind fun o=>?_;obtain⟨c,l',H'⟩:=o;cases c with
  |next=>exact Lim.iter h m l' H'
  |_=>exact Lim.const _
theorem Lim.loop{F:Nat→List Value→Hp→Option Outc}{step:List Value→Hp→Option Outc}(h:∀l H,Lim (fun n=>F n l H) (step l H))(l:List Value)(H:Hp):Lim (fun n=>zat (F n) l H) (zat step l H):=by
 refine⟨fun n r hr=>?_,fun n r hr=>?_,fun r hr=>?_⟩
 ·obtain⟨m,hm⟩:=zcN.1 hr;exact zcN.2 ⟨m,(Lim.iter h m l H).mono n r hm⟩
 ·obtain⟨m,hm⟩:=zcN.1 hr;exact zcN.2 ⟨m,(Lim.iter h m l H).le n r hm⟩
 ·obtain⟨m,hm⟩:=zcN.1 hr;obtain⟨n,hn⟩:=(Lim.iter h m l H).sup r hm;exact⟨n,zcN.2 ⟨m,hn⟩⟩
structure zfd(P:Program)(O:Orc)(f:FuncId)(hs:Nat→zag)(h:zag):Prop where
 lim:∀g a H,Lim (fun n=>hs n g a H) (h g a H)
variable {P:Program}{O:Orc}{f:FuncId}{hs:Nat→zag}{h:zag}
theorem zmy{α:Type}{v:Value}{K KP:Nat→Value→Option α}{k kp:Value→Option α}(hk:∀u,Lim (fun n=>K n u) (k u))(hp:∀u,Lim (fun n=>KP n u) (kp u)):Lim (fun n=>zfj v (K n) (KP n)) (zfj v k kp):=by
 unfold zfj;split
 ·exact hk _
 ·exact hp _
 ·exact Lim.const _
theorem opR_lim(hc:zfd P O f hs h)(fr:Fr)(S:St)(o:Oper):Lim (fun n=>opR ⟨P,O,hs n,f⟩ fr S o) (opR ⟨P,O,h,f⟩ fr S o):=by
 unfold opR opC;dsimp only;cases o.op<;>(try dsimp only)<;>first|exact Lim.of_eq fun n=>rfl|skip
 case makeMap t r=>cases r<;>exact Lim.of_eq fun n=>rfl
 case slice T x lo hi mx=>cases mx<;>exact Lim.of_eq fun n=>rfl
 case next it b=>cases b<;>exact Lim.of_eq fun n=>rfl
 rename_i c;rcases c.callee with fo|⟨rv,m⟩|b
 ·refine Lim.nat (fun n=>zaq (g:=some) fun v=>rfl) (zaq (g:=some) fun v=>rfl) fun fv=>?_;refine Lim.nat (fun n=>zbo _ (g:=some) fun v=>rfl) (zbo _ (g:=some) fun v=>rfl) fun vs=>?_;have e:∀h':zag,zdI O h' fv vs S.hp (fun v H=>some (Slot.val v,(⟨S.bx,H⟩:St)))=(zdI O h' fv vs S.hp fun v H=>some (v,H)).bind fun p=>some (Slot.val p.1,(⟨S.bx,p.2⟩:St)):=fun h'=>zgK fun _ _=>rfl;have e1:(fun n=>zdI O (hs n) fv vs S.hp (fun v H=>some (Slot.val v,(⟨S.bx,H⟩:St))))=fun n=>(zdI O (hs n) fv vs S.hp fun v H=>some (v,H)).bind fun p=>some (Slot.val p.1,(⟨S.bx,p.2⟩:St)):=funext fun n=>e (hs n);show Lim (fun n=>zdI O (hs n) fv vs S.hp (fun v H=>some (Slot.val v,(⟨S.bx,H⟩:St)))) (zdI O h fv vs S.hp (fun v H=>some (Slot.val v,(⟨S.bx,H⟩:St))));rw[e1,e h];refine Lim.bind ?_ fun v=>Lim.const _;unfold zdI;split
  ·rename_i g first captured;cases O.pan g with
   |true=>
    have e2:∀h':zag,zeH h' g (first.toList++(vs++captured.toList)) S.hp (fun v H=>some (v,H))=(h' g (first.toList++(vs++captured.toList)) S.hp).bind fun p=>zfj p.1 (fun u=>some (u,p.2)) fun _=>none:=fun h'=>by unfold zeH;rcases h' g (first.toList++(vs++captured.toList)) S.hp with _|⟨v,H'⟩<;>rfl
    simp only[e2];exact(hc.lim g _ S.hp).bind fun p=>Lim.const _
   |false=>
   dsimp only;have e2:∀h':zag,zad h' g (first.toList++(vs++captured.toList)) S.hp (fun v H=>some (v,H))=h' g (first.toList++(vs++captured.toList)) S.hp:=fun h'=>by unfold zad;rcases h' g (first.toList++(vs++captured.toList)) S.hp with _|⟨v,H'⟩<;>rfl
   simp only[e2];exact hc.lim g _ S.hp
  ·exact Lim.const _
 ·exact Lim.const _
 ·exact Lim.const _
theorem zly(hc:zfd P O f hs h){fr:Fr}{S:St}{o:Oper}{K:Nat→Slot→St→Option α}{k:Slot→St→Option α}(hk:∀s S,Lim (fun n=>K n s S) (k s S)):Lim (fun n=>opC ⟨P,O,hs n,f⟩ fr S o (K n)) (opC ⟨P,O,h,f⟩ fr S o k):=by have e1:(fun n=>opC ⟨P,O,hs n,f⟩ fr S o (K n))=fun n=>(opR ⟨P,O,hs n,f⟩ fr S o).bind fun p=>K n p.1 p.2:=funext fun n=>znX _ _ _ _ _;rw[e1,znX];exact(opR_lim hc fr S o).bind fun p=>hk p.1 p.2
theorem opW_lim(hc:zfd P O f hs h){fr:Fr}{S:St}{o:Oper}{KP:Nat→Value→Hp→Option α}{kp:Value→Hp→Option α}(hp:∀x H,Lim (fun n=>KP n x H) (kp x H)){K:Nat→Slot→St→Option α}{k:Slot→St→Option α}(hk:∀s S,Lim (fun n=>K n s S) (k s S)) :
  Lim (fun n=>opW ⟨P,O,hs n,f⟩ fr S o (KP n) (K n)) (opW ⟨P,O,h,f⟩ fr S o kp k):=by
 unfold opW;split
 ·rename_i c _;split
  ·rename_i g _;dsimp only;refine Lim.nat (fun n=>zbo _ (g:=some) fun v=>rfl) (zbo _ (g:=some) fun v=>rfl) fun vs=>?_;have e2:∀(h':zag) (q1 q2:Value→Hp→Option α),zbh h' g vs S.hp q1 q2=(h' g vs S.hp).bind fun p=>zfj p.1 (fun u=>q2 u p.2) fun x=>q1 x p.2:=fun h' q1 q2=>by unfold zbh;rcases h' g vs S.hp with _|⟨v,H'⟩<;>rfl
   show Lim (fun n=>zbh (hs n) g vs S.hp (KP n) fun v H=>K n (.val v) ⟨S.bx,H⟩) (zbh h g vs S.hp kp fun v H=>k (.val v) ⟨S.bx,H⟩);simp only[e2];exact(hc.lim g _ S.hp).bind fun p=>zmy (fun u=>hk _ _) fun x=>hp _ _
  ·exact Lim.const _
 ·dsimp only;refine Lim.nat (fun n=>zaq (g:=some) fun v=>rfl) (zaq (g:=some) fun v=>rfl) fun v=>?_;cases v<;>first|exact hp _ _|exact Lim.const _
 ·exact Lim.const _
theorem zkN{α:Type}(ops:List Oper)(fr:Fr)(o:Oper)(k:Bool→Fr→Option α):zen ops fr o k=(zen ops fr o fun b fr=>some (b,fr)).bind fun p=>k p.1 p.2:=by
 unfold zen;split
 ·rfl
 ·split
  ·split
   ·split
    ·rfl
    ·exact zaq fun v=>zfk fun b=>br_nat rfl rfl
   ·rfl
  ·rfl
theorem zkO{α:Type}{ops:List Oper}{fr:Fr}{o:Oper}{K:Nat→Bool→Fr→Option α}{k:Bool→Fr→Option α}(hk:∀b fr,Lim (fun n=>K n b fr) (k b fr)):Lim (fun n=>zen ops fr o (K n)) (zen ops fr o k):=
 Lim.nat (fun n=>zkN ops fr o (K n)) (zkN ops fr o k) fun p=>hk p.1 p.2
theorem zif{α:Type}(hc:zfd P O f hs h){ops:List Oper}{KP:Nat→Value→Hp→Option α}{kp:Value→Hp→Option α}(hp:∀x H,Lim (fun n=>KP n x H) (kp x H)){K:Nat→Fr→St→Option α}{k:Fr→St→Option α}(hk:∀fr S,Lim (fun n=>K n fr S) (k fr S)):∀(l:List Oper) (fr:Fr) (S:St),Lim (fun n=>opsC ⟨P,O,hs n,f⟩ ops (KP n) (K n) l fr S) (opsC ⟨P,O,h,f⟩ ops kp k l fr S)
 |[],fr,S=>hk fr S
 |o::l,fr,S=>by
  refine zkO fun b fr=>?_;cases b with
  |true=>
   have e:∀h',panS ⟨P,O,h',f⟩ o=panS ⟨P,O,h,f⟩ o:=fun h'=>rfl;simp only[e];cases O.pan f&&panS ⟨P,O,h,f⟩ o with
   |false=>exact zly hc fun s S'=>zif hc hp hk l _ _
   |true=>exact opW_lim hc hp fun s S'=>zif hc hp hk l _ _
  |false=>exact zif hc hp hk l _ _
theorem zlS{α:Type}{p:Prop}(k:Option α):chk p k=(chk p (some ())).bind fun _=>k:=by unfold chk;split<;>rfl
theorem znk{α:Type}(C:Ctx)(fr:Fr)(S:St)(o:Oper)(s:Slot)(k:Option α):zhy C fr S o s k=(zhy C fr S o s (some ())).bind fun _=>k:=by
 unfold zhy;dsimp only;cases s<;>first|rfl|skip;rename_i v;cases o.op<;>(try dsimp only)<;>first|rfl|skip
 case load T a=>
  refine zcY fun n agg=>?_;cases ev C.P.globals.size fr a with
  |loc d off=>
   dsimp only;rcases S.bx d with _|b
   ·rfl
   ·cases b<;>first|rfl|exact zlS k
  |val p=>exact zlS k
  |_=>rfl
 case lookup T m key ok=>exact zaq fun m=>zaq fun key=>zbZ fun kt z=>zlS k
 case call c=>
  refine zbo _ fun vs=>?_;generalize c.argTypes.toList=ts;rcases vs with _|⟨x,_|⟨y,vs⟩⟩<;>rcases ts with _|⟨t,_|⟨u,ts⟩⟩<;>(try dsimp only)<;>first|rfl|skip;rcases C.P.underlying t with _|d
  ·rfl
  ·dsimp only;rcases lenK d with _|q
   ·rfl
   ·exact zlS k
theorem znl{α:Type}{fr:Fr}{S:St}{o:Oper}{s:Slot}{K:Nat→Option α}{k:Option α}(hk:Lim K k):Lim (fun n=>zhy ⟨P,O,hs n,f⟩ fr S o s (K n)) (zhy ⟨P,O,h,f⟩ fr S o s k):=by have e:∀h',zhy ⟨P,O,h',f⟩ fr S o s (some ())=zhy ⟨P,O,h,f⟩ fr S o s (some ()):=fun h'=>rfl;exact Lim.nat (p:=zhy ⟨P,O,h,f⟩ fr S o s (some ())) (G:=fun n _=>K n) (g:=fun _=>k) (fun n=>by rw[znk,e]) (znk _ _ _ _ _ _) fun _=>hk
theorem zgs{α:Type}{a i:Nat}{o:Oper}{fr:Fr}{s:Slot}{tag:Option Nat}{K:Nat→Option α}{k:Option α}(hk:Lim K k):∀es:List (Nat×Option Nat×St),Lim (fun n=>zfu ⟨P,O,hs n,f⟩ a i o fr s tag (K n) es) (zfu ⟨P,O,h,f⟩ a i o fr s tag k es)
 |[]=>hk
 |(j,t,S)::es=>by
  unfold zfu;split
  ·exact zgs hk es
  ·exact znl (zgs hk es)
theorem zeZ{α:Type}{a:Nat}{tag:Option Nat}{S:St}{K:Nat→Option α}{k:Option α}(hk:Lim K k):∀rs:List Rd,Lim (fun n=>ze1 ⟨P,O,hs n,f⟩ a tag S (K n) rs) (ze1 ⟨P,O,h,f⟩ a tag S k rs)
 |[]=>hk
 |r::rs=>by
  unfold ze1;split
  ·exact zeZ hk rs
  ·exact znl (zeZ hk rs)
theorem znW(hc:zfd P O f hs h){fr:Fr}{S:St}{o:Oper}{K:Nat→Slot→St→Option α}{k:Slot→St→Option α}(hk:∀s S,Lim (fun n=>K n s S) (k s S)):Lim (fun n=>opD ⟨P,O,hs n,f⟩ fr S o (K n)) (opD ⟨P,O,h,f⟩ fr S o k):=by
 unfold opD;dsimp only;cases hl:isLA O f o with
 |true=>
  cases hd:o.dst with
  |none=>exact Lim.const _
  |some d=>exact hk _ _
 |false=>exact zly hc hk
theorem zht(hc:zfd P O f hs h){K:Nat→St→Option α}{k:St→Option α}(hk:∀S,Lim (fun n=>K n S) (k S)):∀(l:List Oper) (S:St),Lim (fun n=>zhS ⟨P,O,hs n,f⟩ (K n) l S) (zhS ⟨P,O,h,f⟩ k l S)
 |[],S=>hk S
 |o::l,S=>by
  unfold zhS;dsimp only;cases isLA O f o with
  |true=>exact zly hc fun _ S'=>zht hc hk l S'
  |false=>exact zht hc hk l S
theorem zeR{α:Type}(hc:zfd P O f hs h){ops:List Oper}{an:List Nat}{KP:Nat→Value→Hp→Option α}{kp:Value→Hp→Option α}(hp:∀x H,Lim (fun n=>KP n x H) (kp x H)){K:Nat→Fr→St→Option α}{k:Fr→St→Option α}(hk:∀fr S,Lim (fun n=>K n fr S) (k fr S)) :
  ∀(l:List Oper) (i:Nat) (fr:Fr) (S:St) (es:List (Nat×Option Nat×St)) (rs:List Rd),Lim (fun n=>zh4 ⟨P,O,hs n,f⟩ ops an (KP n) (K n) l i fr S es rs) (zh4 ⟨P,O,h,f⟩ ops an kp k l i fr S es rs)
 |[],i,fr,S,es,rs=>hk fr S
 |o::l,i,fr,S,es,rs=>by
  unfold zh4;refine zkO fun b fr=>?_;cases b with
  |false=>exact zeR hc hp hk l _ _ _ _ _
  |true=>
   dsimp only;obtain⟨tg,ht⟩:∃t,∀h',zbJ ⟨P,O,h',f⟩ fr o=t:=⟨zbJ ⟨P,O,h,f⟩ fr o,fun h'=>rfl⟩
   have e:∀h',panS ⟨P,O,h',f⟩ o=panS ⟨P,O,h,f⟩ o:=fun h'=>rfl;simp only[ht,e];cases O.pan f&&panS ⟨P,O,h,f⟩ o with
   |true=>
    refine opW_lim hc (fun x H=>?_) fun s S'=>zeZ (zeR hc hp hk l _ _ _ _ _) rs;cases zpm ops an i with
    |true=>exact hp _ _
    |false=>exact Lim.const _
   |false=>
   dsimp only;cases zca P O f o with
   |pure=>exact znW hc fun s S'=>zeR hc hp hk l _ _ _ _ _
   |read=>exact znW hc fun s S'=>zgs (zeR hc hp hk l _ _ _ _ _) es
   |eff=>exact znW hc fun s S'=>zeZ (zeR hc hp hk l _ _ _ _ _) rs
theorem drawH_lim{α:Type}(hc:zfd P O f hs h){ops:List Oper}{KP:Nat→Value→Hp→Option α}{kp:Value→Hp→Option α}(hp:∀x H,Lim (fun n=>KP n x H) (kp x H)){K:Nat→Fr→St→Option α}{k:Fr→St→Option α}(hk:∀fr S,Lim (fun n=>K n fr S) (k fr S))(fr:Fr)(S:St) :
  Lim (fun n=>drawH ⟨P,O,hs n,f⟩ ops (KP n) (K n) fr S) (drawH ⟨P,O,h,f⟩ ops kp k fr S):=
 zht hc (fun S=>zeR hc hp hk _ _ _ _ _ _) _ _
theorem zfC{α:Type}{fr:Fr}{S:St}:∀(rs:List ResultVar) (k:List Value→Option α),resC P fr S rs k=(resC P fr S rs some).bind k
 |[],k=>rfl
 |.tmp t::rs,k=>by
  have e:∀{γ:Type} (k:List Value→Option γ),resC P fr S (.tmp t::rs) k=sV (getS fr t) fun v=>resC P fr S rs fun vs=>k (v::vs):=fun k=>rfl;rw[e,e];refine zaq fun v=>?_;rw[zfC rs,zfC rs fun vs=>some (v::vs)];cases resC P fr S rs some<;>rfl
 |.cell t T::rs,k=>by
  unfold resC;refine zcY fun n agg=>?_;have e:∀v,(resC P fr S rs fun vs=>k (v::vs))=(resC P fr S rs fun vs=>some (v::vs)).bind k:=fun v=>by rw[zfC rs,zfC rs fun vs=>some (v::vs)];cases resC P fr S rs some<;>rfl
  cases getS fr t with
  |loc d off=>
   dsimp only;rcases S.bx d with _|b
   ·rfl
   ·cases b<;>first|rfl|exact ziZ e
  |val p=>exact ziT e
  |_=>rfl
structure KLim{α:Type}(K:Nat→AM.K α)(k:AM.K α):Prop where
 norm:∀fr S,Lim (fun n=>(K n).norm fr S) (k.norm fr S)
 exit:∀id fr S,Lim (fun n=>(K n).exit id fr S) (k.exit id fr S)
 ret:∀v H,Lim (fun n=>(K n).ret v H) (k.ret v H)
theorem ziz{α γ:Type}{X:γ→Option α}{fr:Fr}:∀(ks:List Nat) {k:List Value→Option α} {g:List Value→Option γ},(∀v,k v=(g v).bind X)→znx fr ks k=(znx fr ks g).bind X
 |[],k,g,h=>h []
 |d::ks,k,g,h=>zaq fun v=>ziz ks fun vs=>h (v::vs)
theorem zgA{α γ:Type}{X:γ→Option α}{S:St}:∀(ks:List Nat) {k:List Value→Option α} {g:List Value→Option γ},(∀v,k v=(g v).bind X)→zlc S ks k=(zlc S ks g).bind X
 |[],k,g,h=>h []
 |d::ks,k,g,h=>by
  unfold zlc boxV;split
  ·exact zgA ks fun vs=>h _
  ·exact zgA ks fun vs=>h _
  ·rfl
theorem zpI{α:Type}(x:Option Outc)(k:Ctl→List Value→Hp→Option α):zau x k=x.bind fun o=>k o.1 o.2.1 o.2.2:=by rcases x with _|⟨c,l,H⟩<;>rfl
theorem zjL{α:Type}{X:Nat→Option Outc}{x:Option Outc}(hx:Lim X x){K:Nat→Ctl→List Value→Hp→Option α}{k:Ctl→List Value→Hp→Option α}(hk:∀c l H,Lim (fun n=>K n c l H) (k c l H)) :
  Lim (fun n=>zau (X n) (K n)) (zau x k):=by
 have e:(fun n=>zau (X n) (K n))=fun n=>(X n).bind fun o=>K n o.1 o.2.1 o.2.2:=funext fun n=>zpI _ _;rw[e,zpI];exact hx.bind fun o=>hk _ _ _
theorem zff{α:Type}{fr:Fr}:∀(rs:List ResultVar) (k:List Value→Option α),zjR fr rs k=(zjR fr rs some).bind k
 |[],k=>rfl
 |.tmp t::rs,k=>by
  unfold zjR;refine zaq fun v=>?_;rw[zff rs,zff rs fun vs=>some (v::vs)];cases zjR fr rs some<;>rfl
 |.cell t T::rs,k=>by unfold zjR;exact zff rs k
theorem zo6{α:Type}{rs:List ResultVar}{ops:List Oper}{fr:Fr}{K:Nat→AM.K α}{k:AM.K α}(hk:KLim K k)(x:Value)(H:Hp):Lim (fun n=>panK ⟨P,O,hs n,f⟩ rs ops fr (K n) x H) (panK ⟨P,O,h,f⟩ rs ops fr k x H):=by
 unfold panK;dsimp only;cases O.dfr f with
 |false=>exact hk.ret _ _
 |true=>
  cases zjl ops rs with
  |true=>exact Lim.nat (fun n=>zff rs _) (zff rs _) fun vs=>hk.ret _ _
  |false=>exact Lim.const _
theorem zcO(hc:zfd P O f hs h)(rs:List ResultVar):∀(c:Code) {α:Type} (fr:Fr) (S:St) {K:Nat→AM.K α} {k:AM.K α},KLim K k→Lim (fun n=>exec ⟨P,O,hs n,f⟩ rs c α fr S (K n)) (exec ⟨P,O,h,f⟩ rs c α fr S k)
 |.skip,α,fr,S,K,k,hk=>hk.norm fr S
 |.region id ops draw,α,fr,S,K,k,hk=>by
  unfold exec;cases draw with
  |false=>exact zif hc (zo6 hk) hk.norm _ _ _
  |true=>
   dsimp only;cases zgl P O f ops.toList (ancs ops.toList) with
   |true=>exact drawH_lim hc (zo6 hk) hk.norm _ _
   |false=>exact Lim.const _
 |.seq a b,α,fr,S,K,k,hk=>by
  unfold exec;dsimp only;rcases O.join f (rid b) with _|⟨ks,kb⟩
  ·exact zcO hc rs a fr S ⟨fun fr S=>zcO hc rs b fr S hk,hk.exit,hk.ret⟩
  ·refine zjL (zcO hc rs a fr _ ⟨fun _ _=>Lim.const _,fun _ _ _=>Lim.const _,fun _ _=>Lim.const _⟩) fun c l H=>?_;cases c with
   |next=>exact zcO hc rs b _ _ hk
   |exit id=>exact hk.exit _ _ _
   |ret=>exact hk.ret _ _
 |.cond c x y,α,fr,S,K,k,hk=>by
  unfold exec;dsimp only;refine Lim.nat (p:=sV (ev P.globals.size fr c) fun v=>zaa v some) (G:=fun n t=>br t (exec ⟨P,O,hs n,f⟩ rs x α fr S (K n)) (exec ⟨P,O,hs n,f⟩ rs y α fr S (K n)))
   (g:=fun t=>br t (exec ⟨P,O,h,f⟩ rs x α fr S k) (exec ⟨P,O,h,f⟩ rs y α fr S k)) (fun n=>zaq fun v=>zfk fun t=>rfl) (zaq fun v=>zfk fun t=>rfl) fun t=>?_
  cases t with
  |true=>exact zcO hc rs x fr S hk
  |false=>exact zcO hc rs y fr S hk
 |.block id c,α,fr,S,K,k,hk=>by
  unfold exec;refine zcO hc rs c fr S ⟨hk.norm,fun j fr S=>?_,hk.ret⟩
  try dsimp only
  unfold zav;cases Nat.beq j id with
  |true=>exact hk.norm _ _
  |false=>exact hk.exit _ _ _
 |.loop c,α,fr,S,K,k,hk=>by
  obtain⟨ks,kb,hq⟩:∃ks kb,O.loop f (rid c)=(ks,kb):=⟨_,_,rfl⟩
  unfold exec;simp only[hq];refine Lim.nat (fun n=>ziz ks (g:=some) fun v=>rfl) (ziz ks (g:=some) fun v=>rfl) fun vs=>?_;refine Lim.nat (fun n=>zgA kb (g:=some) fun v=>rfl) (zgA kb (g:=some) fun v=>rfl) fun bs=>?_;refine zjL (Lim.loop (fun l H=>zcO hc rs c _ _ ⟨fun _ _=>Lim.const _,fun _ _ _=>Lim.const _,fun _ _=>Lim.const _⟩) _ _) fun c' l H=>?_;cases c' with
  |next=>exact Lim.const _
  |exit id=>exact hk.exit _ _ _
  |ret=>exact hk.ret _ _
 |.exit id,α,fr,S,K,k,hk=>hk.exit id fr S
 |.ret,α,fr,S,K,k,hk=>by
  unfold exec;exact Lim.nat (fun n=>zfC rs _) (zfC rs _) fun vs=>hk.ret _ _
 |.rangeFunc _ _ _ _,_,_,_,_,_,_=>Lim.const _
 |.scope _,_,_,_,_,_,_=>Lim.const _
 |.label _,_,_,_,_,_,_=>Lim.const _
 |.goto _,_,_,_,_,_,_=>Lim.const _
 |.refuse _,_,_,_,_,_,_=>Lim.const _
theorem znd{α:Type}{X:Nat→Option (Value×Hp)}{x:Option (Value×Hp)}(hx:Lim X x){K:Nat→Value→Hp→Option α}{k:Value→Hp→Option α}(hk:∀l H,Lim (fun n=>K n l H) (k l H)) :
  Lim (fun n=>zg6 (X n) (K n)) (zg6 x k):=by
 have e0:∀(x:Option (Value×Hp)) (k:Value→Hp→Option α),zg6 x k=x.bind fun o=>k o.1 o.2:=fun x k=>by rcases x with _|⟨l,H⟩<;>rfl
 have e:(fun n=>zg6 (X n) (K n))=fun n=>(X n).bind fun o=>K n o.1 o.2:=funext fun n=>e0 _ _;rw[e,e0];exact hx.bind fun o=>hk _ _
theorem zju(hc:zfd P O f hs h)(rs:List ResultVar)(c:Code)(fr:Fr)(S:St):Lim (fun n=>exec ⟨P,O,hs n,f⟩ rs c (Value×Hp) fr S (Kfun ⟨P,O,hs n,f⟩ rs)) (exec ⟨P,O,h,f⟩ rs c (Value×Hp) fr S (Kfun ⟨P,O,h,f⟩ rs)):=
 zcO hc rs c _ _ ⟨fun _ _=>Lim.of_eq fun n=>rfl,fun _ _ _=>Lim.const _,fun _ _=>Lim.const _⟩
theorem zna{α:Type}(hc:zfd P O f hs h)(g:FuncId)(args:List Value)(x:Value)(H:Hp)(k:Hp→Option α):Lim (fun n=>zg1 P O (hs n) g args x H k) (zg1 P O h g args x H k):=by
 have hg:zfd P O g hs h:=⟨hc.lim⟩
 unfold zg1;rcases P.funcs[g]? with _|fn
 ·exact Lim.const _
 ·dsimp only;cases fn.name == "runtime.NumGoroutine" with
  |true=>exact Lim.const _
  |false=>
   cases O.pan g with
   |true=>exact Lim.const _
   |false=>
    rcases fn.body with _|c
    ·exact Lim.const _
    ·dsimp only;rcases zoX c with _|⟨d,b⟩
     ·exact Lim.const _
     ·dsimp only;exact znd (zju hg _ b _ _) (K:=fun n _ H=>k H) (k:=fun _ H=>k H) fun _ _=>Lim.const _
theorem zqm(hc:zfd P O f hs h)(rs:List ResultVar)(b:Code)(fr:Fr)(S:St)(fo:Operand):Lim (fun n=>zhW ⟨P,O,hs n,f⟩ rs b fr S fo) (zhW ⟨P,O,h,f⟩ rs b fr S fo):=by
 unfold zhW;cases zhw (wr b []) rs with
 |false=>exact Lim.const _
 |true=>
  dsimp only;rcases ev P.globals.size fr fo with _|fv
  ·exact Lim.const _
  ·exact Lim.const _
  ·rename_i fv;unfold sV;dsimp only;unfold pClos;split
   ·rename_i g cs;dsimp only;refine znd (zju hc _ b _ _) fun v H=>zmy (fun u=>?_) fun x=>?_
    ·have q1:∀vs:List Value,Lim (fun n=>zmB rs vs fun tv=>zg1 P O (hs n) g cs .nilIface H fun H'=>endL P fr H' rs tv fun vs=>some (W1 (resV vs),H')) (zmB rs vs fun tv=>zg1 P O h g cs .nilIface H fun H'=>endL P fr H' rs tv fun vs=>some (W1 (resV vs),H')):=fun vs=>by
      unfold zmB;split
      ·exact zna hc _ _ _ _ _
      ·exact Lim.const _
     unfold zk2;split
     ·exact q1 _
     ·split
      ·exact q1 _
      ·exact Lim.const _
    ·unfold pTail;split
     ·exact zna hc _ _ _ _ _
     ·exact Lim.const _
   ·exact Lim.const _
  ·exact Lim.const _
theorem zjt(hc:zfd P O f hs h)(rs:List ResultVar):∀(c:Code) (fr:Fr) (S:St),Lim (fun n=>zm3 ⟨P,O,hs n,f⟩ rs c fr S) (zm3 ⟨P,O,h,f⟩ rs c fr S)
 |.seq a b,fr,S=>by
  unfold zm3;rcases zpF a with _|⟨o1,fo⟩
  ·dsimp only;rcases O.join f (rid b) with _|⟨ks,kb⟩
   ·exact zcO hc rs a fr S ⟨fun fr S=>zjt hc rs b fr S,fun _ _ _=>Lim.const _,fun _ _=>Lim.const _⟩
   ·refine zjL (zcO hc rs a fr _ ⟨fun _ _=>Lim.const _,fun _ _ _=>Lim.const _,fun _ _=>Lim.const _⟩) fun c l H=>?_;cases c with
    |next=>exact zjt hc rs b _ _
    |exit id=>exact Lim.const _
    |ret=>exact Lim.const _
  ·exact zly hc fun s S'=>zqm hc rs b _ _ fo
 |.skip,_,_=>Lim.const _
 |.region ..,_,_=>Lim.const _
 |.cond ..,_,_=>Lim.const _
 |.block ..,_,_=>Lim.const _
 |.loop ..,_,_=>Lim.const _
 |.exit _,_,_=>Lim.const _
 |.ret,_,_=>Lim.const _
 |.rangeFunc _ _ _ _,_,_=>Lim.const _
 |.scope _,_,_=>Lim.const _
 |.label _,_,_=>Lim.const _
 |.goto _,_,_=>Lim.const _
 |.refuse _,_,_=>Lim.const _
theorem execB_lim(hc:zfd P O f hs h)(rs:List ResultVar)(c:Code)(fr:Fr)(S:St):Lim (fun n=>zqh ⟨P,O,hs n,f⟩ rs c fr S) (zqh ⟨P,O,h,f⟩ rs c fr S):=by
 unfold zqh;dsimp only;cases O.dfr f with
 |false=>exact zju hc rs c _ _
 |true=>
  cases O.pan f with
  |true=>exact zjt hc rs c fr S
  |false=>exact Lim.const _
theorem znb{ext:FuncId→Option (List Value→Hp→Option (Value×Hp))}(hc:∀f,zfd P O f hs h)(g:FuncId)(args:List Value)(H:Hp):Lim (fun n=>zh5 P O ext (hs n) g args H) (zh5 P O ext h g args H):=by
 unfold zh5;rcases P.funcs[g]? with _|fn
 ·exact Lim.const _
 ·dsimp only;cases fn.name == "runtime.NumGoroutine" with
  |true=>exact Lim.const _
  |false=>
   dsimp only;rcases fn.body with _|c
   ·exact Lim.const _
   ·dsimp only;rcases ext g with _|e
    ·exact execB_lim (hc g) _ c _ _
    ·exact Lim.const _
theorem zgC{ext:FuncId→Option (List Value→Hp→Option (Value×Hp))}:∀(n:Nat) (g:FuncId) (args:List Value) (H:Hp) (r:Value×Hp),runN P O ext n g args H=some r→runN P O ext (n+1) g args H=some r
 |0,g,args,H,r,h=>by cases h
 |n+1,g,args,H,r,h=>by
  have hch:∀f,zfd P O f (fun i=>match i with|0=>runN P O ext n|_=>runN P O ext (n+1)) (runN P O ext (n+1)):=fun f=>⟨fun g a H=>⟨fun i r hr=>by
    cases i with
    |zero=>exact zgC n g a H r hr
    |succ i=>exact hr,fun i r hr=>by
    cases i with
    |zero=>exact zgC n g a H r hr
    |succ i=>exact hr,fun r hr=>⟨1,hr⟩⟩⟩
  exact(znb (ext:=ext) hch g args H).mono 0 r h
theorem zle {ext : FuncId → Option (List Value → Hp → Option (Value × Hp))} {g : FuncId} {args : List Value} {H : Hp} {r : Value × Hp} : run P O ext g args H = some r ↔ ∃ n, runN P O ext n g args H = some r := by
  have hle : ∀ {n m : Nat} {r : Value × Hp}, n ≤ m → runN P O ext n g args H = some r → runN P O ext m g args H = some r := by
    intro n m r hm hr
    induction m with
    | zero => have : n = 0 := by omega
              subst this; exact hr
    | succ m ih =>
      rcases Nat.lt_or_ge m n with q | q
      · have : n = m + 1 := by omega
        subst this; exact hr
      · exact zgC m g args H r (ih q)
  unfold run
  constructor
  · intro h
    split at h
    · rename_i hex
      obtain ⟨n, hn⟩ := hex.choose_spec
      have h : hex.choose = r := by simpa using h
      exact ⟨n, by rw [hn, h]⟩
    · cases h
  · rintro ⟨n, hn⟩
    have hex : ∃ r n, runN P O ext n g args H = some r := ⟨r, n, hn⟩
    rw [dif_pos hex]
    obtain ⟨m, hm⟩ := hex.choose_spec
    have h1 := hle (Nat.le_max_left n m) hn
    have h2 := hle (Nat.le_max_right n m) hm
    rw [h1] at h2
    exact h2.symm
theorem run_eq{ext:FuncId→Option (List Value→Hp→Option (Value×Hp))}(g:FuncId)(args:List Value)(H:Hp):run P O ext g args H=zh5 P O ext (run P O ext) g args H:=by
 have hch:∀f,zfd P O f (runN P O ext) (run P O ext):=fun f=>⟨fun g a H=>⟨fun n r hr=>zgC n g a H r hr,fun n r hr=>zle.2 ⟨n,hr⟩,fun r hr=>zle.1 hr⟩⟩
 have hl:=znb (ext:=ext) hch g args H;apply Option.ext;intro r;constructor
 ·intro h;obtain⟨n,hn⟩:=zle.1 h;cases n with
  |zero=>cases hn
  |succ n=>exact hl.le n r hn
 ·intro h;obtain⟨n,hn⟩:=hl.sup r h;exact zle.2 ⟨n+1,hn⟩
theorem zar{ext:FuncId→Option (List Value→Hp→Option (Value×Hp))}{g:FuncId}{fn:Func}(hf:P.funcs[g]?=some fn)(hn:(fn.name == "runtime.NumGoroutine")=false)(hb:fn.body.isSome=true)(hx:ext g=none)(args:List Value)(H:Hp) :
  run P O ext g args H=zeP P O (run P O ext) g fn args H:=by
 rw[run_eq];unfold zh5 zeP;rw[hf];dsimp only;rw[hn];dsimp only;obtain⟨c,hc⟩:=Option.isSome_iff_exists.1 hb;rw[hc];dsimp only;rw[hx];rfl
end
section
variable {α:Type}{P:Program}
theorem zac(b:Bool)(k:Bool→Option α):zaa (.bool b) k=k b:=rfl
theorem s_br(b:Bool)(x y:Option α):br b x y=if b=true then x else y:=by cases b<;>rfl
theorem za3(T:TypeId)(kd:IntKind)(a b:Int)(k:Value→Option α):pBin P .lss T (.int kd a) (.int kd b) k=k (.bool (decide (a<b))):=by simp[pBin,binV,zd4]
theorem zf5(T:TypeId)(kd:IntKind)(a b:Int)(k:Value→Option α):pBin P .leq T (.int kd a) (.int kd b) k=k (.bool (decide (a≤b))):=by simp[pBin,binV,zd4]
theorem zci(T:TypeId)(kd:IntKind)(a b:Int)(k:Value→Option α):pBin P .gtr T (.int kd a) (.int kd b) k=k (.bool (decide (a>b))):=by simp[pBin,binV,zd4]
theorem zcQ(T:TypeId)(kd:IntKind)(a b:Int)(k:Value→Option α):pBin P .geq T (.int kd a) (.int kd b) k=k (.bool (decide (a≥b))):=by simp[pBin,binV,zd4]
theorem zaO(T:TypeId)(kd:IntKind)(a b:Int)(k:Value→Option α):pBin P .eql T (.int kd a) (.int kd b) k=k (.bool (decide (a=b))):=by
 have:(a==b)=decide (a=b):=by rw[Bool.eq_iff_iff];simp
 simp[pBin,binV,zd4,this]
theorem zbt(T:TypeId)(kd:IntKind)(a b:Int)(k:Value→Option α):pBin P .neq T (.int kd a) (.int kd b) k=k (.bool (decide (a≠b))):=by
 have:(a != b)=decide (a≠b):=by rw[Bool.eq_iff_iff];simp
 simp[pBin,binV,zd4,this]
theorem zaM(T:TypeId)(kd:IntKind)(a b:Int)(k:Value→Option α):pBin P .add T (.int kd a) (.int kd b) k=k (.int kd (kd.wrap (a+b))):=by simp[pBin,binV,zd4]
theorem zc0(T:TypeId)(kd:IntKind)(a b:Int)(k:Value→Option α):pBin P .sub T (.int kd a) (.int kd b) k=k (.int kd (kd.wrap (a-b))):=by simp[pBin,binV,zd4]
theorem zpU(T:TypeId)(kd:IntKind)(a b:Int)(k:Value→Option α):pBin P .mul T (.int kd a) (.int kd b) k=k (.int kd (kd.wrap (a*b))):=by simp[pBin,binV,zd4]
theorem zb9(b:Bool)(k:Value→Option α):pUn .not (.bool b) k=k (.bool !b):=rfl
theorem zbg(a:Addr)(k:Option α):pNil (.pointer (some a)) k=k:=rfl
theorem zaI(n i o:Nat)(k:Value→Option α):zas n (.pointer (some ⟨i,o,none⟩)) k=k (.pointer (some ⟨i,o+n,none⟩)):=rfl
theorem zbe{H:Hp}{i:Nat}{cs:List Value}{own:Bool}(h:H.get i=some (.cells cs own))(o:Nat)(v:Value)(hv:cs[o]?=some v)(k:Value→Option α):zal 1 false H (.pointer (some ⟨i,o,none⟩)) k=k v:=by simp[zal,Hp.rdP,Hp.rd,h,zct,hv]
theorem zd8(cs:List Value)(o:Nat)(v:Value)(hv:cs[o]?=some v)(k:Value→Option α):zai 1 false cs o k=k v:=by simp[zai,zct,hv]
theorem zap(c:Ctl)(l:List Value)(H:Hp)(k:Ctl→List Value→Hp→Option α):zau (some (c,l,H)) k=k c l H:=rfl
theorem zez(p:Prop) [Decidable p](a b:Option Outc)(k:Ctl→List Value→Hp→Option α):zau (if p then a else b) k=if p then zau a k else zau b k:=by split<;>rfl
theorem zaN(a:Option α)(b:Nat→Option α)(c:Option α):zaC .next a b c=a:=rfl
theorem za6(j:Nat)(a:Option α)(b:Nat→Option α)(c:Option α):zaC (.exit j) a b c=b j:=rfl
theorem zfg(a:Option α)(b:Nat→Option α)(c:Option α):zaC .ret a b c=c:=rfl
theorem zay(j:Nat)(x y:Option α):zav j j x y=x:=by simp[zav]
theorem zae{h:zag}{g:FuncId}{args:List Value}{H:Hp}{v:Value}{H':Hp}(e:h g args H=some (v,H'))(k:Value→Hp→Option α):zad h g args H k=k v H':=by simp[zad,e]
end
end Go.AM
namespace Go.AM
open List Go
variable {α:Type}
theorem bT{p:Prop} [Decidable p](h:p)(x y:Option α):(zaa (.bool (decide p)) fun b=>br b x y)=x:=by show br (decide p) x y=x;rw[decide_eq_true h];rfl
theorem bF{p:Prop} [Decidable p](h:¬p)(x y:Option α):(zaa (.bool (decide p)) fun b=>br b x y)=y:=by show br (decide p) x y=y;rw[decide_eq_false h];rfl
theorem eT{P:Program}{T:TypeId}{kd:IntKind}{a b:Int}(h:a=b)(x y:Option α):(pBin P .eql T (.int kd a) (.int kd b) fun v=>zaa v fun b=>br b x y)=x:=by rw[zaO,bT h]
theorem eF{P:Program}{T:TypeId}{kd:IntKind}{a b:Int}(h:¬a=b)(x y:Option α):(pBin P .eql T (.int kd a) (.int kd b) fun v=>zaa v fun b=>br b x y)=y:=by rw[zaO,bF h]
theorem lT{P:Program}{T:TypeId}{kd:IntKind}{a b:Int}(h:a<b)(x y:Option α):(pBin P .lss T (.int kd a) (.int kd b) fun v=>zaa v fun b=>br b x y)=x:=by rw[za3,bT h]
theorem lF{P:Program}{T:TypeId}{kd:IntKind}{a b:Int}(h:¬a<b)(x y:Option α):(pBin P .lss T (.int kd a) (.int kd b) fun v=>zaa v fun b=>br b x y)=y:=by rw[za3,bF h]
theorem x01(a b:Value)(k:Value→Value→Option α):(zaf (.tuple #[a,b]) 0 fun u=>zaf (.tuple #[a,b]) 1 fun v=>k u v)=k a b:=rfl
theorem qg0{β:Type}{a:β}{l:List β}{d:β}:(a::l).getD 0 d=a:=getD_cons_zero
theorem qg1{β:Type}{a:β}{l:List β}{n:Nat}{d:β}:(a::l).getD (n+1) d=l.getD n d:=getD_cons_succ
theorem qd1{β:Type}{a:β}{l:List β}{n:Nat}:(a::l).drop (n+1)=l.drop n:=drop_succ_cons
theorem qd0{β:Type}{l:List β}:l.drop 0=l:=drop_zero
end Go.AM
namespace Go.AM
open List Go
structure Frm(M:Nat→Prop)(H H':Hp):Prop where
 next:H.next≤H'.next
 same:∀j,j<H.next→¬M j→H'.get j=H.get j
theorem Frm.refl(M:Nat→Prop)(H:Hp):Frm M H H:=⟨Nat.le_refl _,fun _ _ _=>rfl⟩
theorem Frm.trans{M N:Nat→Prop}{H H1 H2:Hp}(h:Frm M H H1)(k:Frm N H1 H2)(hn:∀j,N j→M j∨H.next≤j):Frm M H H2:=
 ⟨Nat.le_trans h.next k.next,fun j hj hm=>by
  rw[k.same j (Nat.lt_of_lt_of_le hj h.next) (fun q=>by rcases hn j q with a|a;exact hm a;omega),h.same j hj hm]⟩
theorem Frm.mono{M N:Nat→Prop}{H H':Hp}(h:Frm M H H')(hn:∀j,M j→N j∨H.next≤j):Frm N H H':=⟨h.next,fun j hj hm=>h.same j hj fun q=>by rcases hn j q with a|a;exact hm a;omega⟩
def vid:Value→Option Nat
 |.slice (some a) _ _=>some a.block
 |_=>none
def Id(v:Value)(j:Nat):Prop:=vid v=some j
theorem get_new(H:Hp)(o:AObj)(i:Nat):(H.new o).get i=if i=H.next then some o else H.get i:=rfl
theorem get_set(H:Hp)(j:Nat)(o:Option AObj)(i:Nat):(H.set j o).get i=if i=j then o else H.get i:=rfl
theorem zcW(H:Hp)(o:AObj)(M:Nat→Prop):Frm M H (H.new o):=⟨by show H.next≤H.next+1;omega,fun j hj _=>by rw[get_new,if_neg (by omega)]⟩
theorem zfY(H:Hp)(i:Nat)(o:Option AObj)(M:Nat→Prop)(hm:M i):Frm M H (H.set i o):=⟨Nat.le_refl _,fun j hj hn=>by rw[get_set,if_neg (fun e=>hn (by rw[e];exact hm))]⟩
def Vec(H:Hp)(sz:Nat)(v:Value)(n:Nat)(cs:List Value):Prop:=
 (n=0∧cs=[]∧v=.slice none 0 0)∨∃y c rest,v=.slice (some ⟨y,0,some sz⟩) n c∧n≤c∧H.get y=some (.cells (cs++rest) true)∧cs.length=n*sz∧rest.length=(c-n)*sz∧y<H.next∧rest.all one=true
section
variable {H H':Hp}{sz:Nat}{v:Value}{n:Nat}{cs:List Value}
theorem Vec.len(h:Vec H sz v n cs){α:Type}(H':Hp)(k:Value→Option α):pLen .sl v H' k=k (.int .i64 n):=by rcases h with⟨rfl,_,rfl⟩|⟨y,c,rest,rfl,_⟩<;>rfl
theorem Vec.size(h:Vec H sz v n cs):cs.length=n*sz:=by
 rcases h with⟨rfl,rfl,_⟩|⟨y,c,rest,_,_,_,h,_⟩
 ·simp
 ·exact h
theorem Vec.lt(h:Vec H sz v n cs){j:Nat}(hj:Id v j):j<H.next:=by
 rcases h with⟨_,_,rfl⟩|⟨y,c,rest,rfl,_,_,_,_,h,_⟩
 ·cases hj
 ·cases hj;exact h
theorem Vec.keep'(h:Vec H sz v n cs)(hg:∀j,Id v j→H'.get j=H.get j)(hn:H.next≤H'.next):Vec H' sz v n cs:=by
 rcases h with e|⟨y,c,rest,rfl,h1,h2,h3,h4,h5,h6⟩
 ·exact .inl e
 ·exact .inr ⟨y,c,rest,rfl,h1,by rw[hg y rfl];exact h2,h3,h4,Nat.lt_of_lt_of_le h5 hn,h6⟩
theorem Vec.keep{M:Nat→Prop}(h:Vec H sz v n cs)(k:Frm M H H')(hm:∀j,Id v j→¬M j):Vec H' sz v n cs:=
 h.keep' (fun j hj=>k.same j (h.lt hj) (hm j hj)) k.next
theorem Vec.nil(H:Hp)(sz:Nat):Vec H sz (.slice none 0 0) 0 []:=.inl ⟨rfl,rfl,rfl⟩
theorem Vec.ix(h:Vec H sz v n cs){i:Nat}(hi:i<n):∃y,Id v y∧(∃rest,H.get y=some (.cells (cs++rest) true))∧∀(α:Type) (kd:IntKind) (k:Value→Option α),pIdx sz v (.int kd (i:Int)) k=k (.pointer (some ⟨y,i*sz,none⟩)):=by
 rcases h with⟨rfl,_,_⟩|⟨y,c,rest,rfl,h1,h2,h3,h4,h5⟩
 ·omega
 ·refine⟨y,rfl,⟨rest,h2⟩,fun α kd k=>?_⟩;unfold pIdx idxV;have:sz=sz∧(0:Int)≤(i:Int)∧(i:Int)<(n:Int):=⟨rfl,by omega,by omega⟩
  simp only[this,and_self,if_true,Nat.zero_add,Int.toNat_natCast]
theorem zgk{y:Nat}{rest:List Value}{own:Bool}(h:H.get y=some (.cells (cs++rest) own)){o:Nat}{x:Value}(hx:cs[o]?=some x){α:Type}(k:Value→Option α):zal 1 false H (.pointer (some ⟨y,o,none⟩)) k=k x:=by
 have hlt:=(List.getElem?_eq_some_iff.1 hx).1;have:(cs++rest)[o]?=some x:=by rw[List.getElem?_append_left hlt];exact hx
 simp[zal,Hp.rdP,Hp.rd,h,zct,this]
theorem ld_agg{y:Nat}{rest:List Value}{own:Bool}(h:H.get y=some (.cells (cs++rest) own)){o m:Nat}(ho:o+m≤cs.length){α:Type}(k:Value→Option α):zal m true H (.pointer (some ⟨y,o,none⟩)) k=k (.agg ((cs.drop o).take m).toArray):=by
 have h1:o+m≤(cs++rest).length:=by rw[length_append];omega
 have h2:((cs++rest).drop o).take m=(cs.drop o).take m:=by rw[drop_append_of_le_length (by omega),take_append_of_le_length (by rw[length_drop];omega)]
 simp only[zal,Hp.rdP,Hp.rd,h,zct,h1,if_true,h2]
theorem Vec.ids(h:Vec H sz v n cs){y:Nat}(hy:Id v y):∃c rest,v=.slice (some ⟨y,0,some sz⟩) n c∧n≤c∧H.get y=some (.cells (cs++rest) true)∧cs.length=n*sz∧rest.length=(c-n)*sz∧y<H.next∧rest.all one=true:=by
 rcases h with⟨_,_,rfl⟩|⟨y',c,rest,rfl,h⟩
 ·cases hy
 ·cases hy;exact⟨c,rest,rfl,h⟩
theorem Vec.set(h:Vec H sz v n cs){y o m:Nat}(hy:Id v y){x:Value}(hm:(zab x).length=m)(ho:o+m≤cs.length)(h1:(zab x).all one=true) :
  ∃H',(∀(α:Type) (k:Hp→Option α),zao m H (.pointer (some ⟨y,o,none⟩)) x k=k H')∧Vec H' sz v n (spl cs o (zab x))∧Frm (Id v) H H'∧H'.next=H.next:=by
 obtain⟨c,rest,rfl,g1,g2,g3,g4,g5,g6⟩:=h.ids hy;have hs:spl (cs++rest) o (zab x)=spl cs o (zab x)++rest:=by unfold spl;rw[take_append_of_le_length (by omega),drop_append_of_le_length (by omega)];simp
 have hw:za8 m (cs++rest) o x=some (spl cs o (zab x)++rest):=by unfold za8;rw[if_pos ⟨hm,by rw[length_append];omega,h1⟩,hs]
 have hl:(spl cs o (zab x)).length=cs.length:=by unfold spl;simp only[length_append,length_take,length_drop,hm];omega
 refine⟨H.set y (some (.cells (spl cs o (zab x)++rest) true)),fun α k=>?_,.inr ⟨y,c,rest,rfl,g1,?_,by rw[hl];exact g3,g4,g5,g6⟩,zfY _ _ _ _ rfl,rfl⟩
 ·unfold zao;have:H.wr (.pointer (some ⟨y,o,none⟩)) m x=some (H.set y (some (.cells (spl cs o (zab x)++rest) true))):=by show (match H.get y with|some (.cells cs true)=>(match za8 m cs o x with|some cs'=>some (H.set y (some (.cells cs' true)))|none=>none)|_=>none)=_;rw[g2];dsimp only;rw[hw]
  rw[this]
 ·rw[get_set,if_pos rfl]
theorem Vec.cut(h:Vec H sz v n cs)(hcs:cs.all one=true){m:Nat}(hm:m≤n):∃v',(∀(α:Type) (kd:IntKind) (k:Value→Option α),zdw sz v none (some (.int kd (m:Int))) k=k v')∧Vec H sz v' m (cs.take (m*sz))∧(∀j,Id v' j→Id v j):=by
 rcases h with⟨rfl,rfl,rfl⟩|⟨y,c,rest,rfl,h1,h2,h3,h4,h5,h6⟩
 ·obtain rfl:m=0:=by omega
  refine⟨.slice none 0 0,fun α kd k=>?_,by simpa using Vec.nil H sz,fun j hj=>hj⟩;unfold zdw zhB;simp[zcU]
 ·refine⟨.slice (some ⟨y,0,some sz⟩) m c,fun α kd k=>?_,.inr ⟨y,c,cs.drop (m*sz)++rest,rfl,by omega,?_,?_,?_,h5,?_⟩,fun j hj=>hj⟩
  ·have:zhB sz (.slice (some ⟨y,0,some sz⟩) n c) none (some (.int kd (m:Int)))=some (.slice (some ⟨y,0,some sz⟩) m c):=by unfold zhB;dsimp only[zcU];rw[if_pos ⟨rfl,by omega,by omega,by omega⟩];simp
   unfold zdw;rw[this]
  ·rw[←append_assoc,take_append_drop];exact h2
  ·rw[length_take,h3];exact Nat.min_eq_left (Nat.mul_le_mul_right sz hm)
  ·rw[length_append,length_drop,h3,h4,Nat.sub_mul,Nat.sub_mul];have a1:=Nat.mul_le_mul_right sz hm;have a2:=Nat.mul_le_mul_right sz h1;rw[Nat.sub_mul] at *;omega
  ·rw[all_append,Bool.and_eq_true];refine⟨?_,h6⟩;rw[all_eq_true]at hcs ⊢;exact fun x hx=>hcs x (mem_of_mem_drop hx)
theorem zfD(zs:List Value):∀n,(repl n zs).length=n*zs.length
 |0=>by simp[repl]
 |n+1=>by show (zs++repl n zs).length=_;rw[length_append,zfD zs n,Nat.succ_mul];omega
theorem Vec.make(H:Hp){sz bytes:Nat}{zs:List Value}(hz:zs.length=sz){n:Nat}(hb:n*bytes≤2^47) :
  ∃v,(∀(α:Type) (k:Value→Hp→Option α),zaZ sz bytes zs (.int .i64 (n:Int)) (.int .i64 (n:Int)) H k=k v (H.new (.cells (repl n zs) true)))∧Vec (H.new (.cells (repl n zs) true)) sz v n (repl n zs)∧(∀j,Id v j→j=H.next):=by
 refine⟨.slice (some ⟨H.next,0,some sz⟩) n n,fun α k=>?_,.inr ⟨H.next,n,[],rfl,Nat.le_refl _,?_,by rw[zfD,hz],by simp,by show H.next<H.next+1;omega,rfl⟩,fun j hj=>by cases hj;rfl⟩
 ·have e:((2:Int)^47)=((2^47:Nat):Int):=by rfl
  have hb':(n:Int)*(bytes:Int)≤2^47:=by rw[e,←Int.natCast_mul];exact Int.ofNat_le.2 hb
  have:zcn sz bytes zs (.int .i64 (n:Int)) (.int .i64 (n:Int)) H=some (.slice (some ⟨H.next,0,some sz⟩) n n,H.new (.cells (repl n zs) true)):=by unfold zcn;dsimp only;rw[if_pos ⟨by omega,by omega,hb'⟩];rfl
  unfold zaZ;rw[this]
 ·rw[get_new,if_pos rfl,append_nil]
theorem Vec.push(h:Vec H sz v n cs){bytes:Nat}{zs:List Value}{x:Value}(hs:0<sz)(hs2:sz≤2^24)(hz:zs.length=sz)(hx:(zab x).length=sz)(h1:(zab x).all one=true)(hb:(n+1)*bytes≤2^47) :
  ∃v' H',(∀(α:Type) (k:Value→Hp→Option α),(zam sz zs 1 [(0,x)] H fun t H1=>zaJ sz bytes v t H1 k)=k v' H')∧Vec H' sz v' (n+1) (cs++zab x)∧Frm (Id v) H H'∧(∀j,Id v' j→Id v j∨H.next≤j)∧(∃j,Id v' j):=by
 have hbuild:zb0 sz zs 1 [(0,x)] H=some (.slice (some ⟨H.next,0,some sz⟩) 1 1,H.new (.cells (zab x) true)):=by
  unfold zb0;rw[if_neg (by omega)];have e0:spl (repl 1 zs) (0*sz) (zab x)=zab x:=by
   unfold spl;have:(repl 1 zs).length=sz:=by rw[zfD,hz,Nat.one_mul]
   rw[Nat.zero_mul,take_zero,nil_append,drop_of_length_le (by omega),append_nil]
  have:zjr (fun i=>some (i*sz,sz)) (repl 1 zs) [(0,x)]=some (zab x):=by unfold zjr;dsimp only;rw[if_pos ⟨hx,by rw[zfD,hz];omega,h1⟩,e0];rfl
  rw[this]
 have hb':∀(α:Type) (k:Value→Hp→Option α),(zam sz zs 1 [(0,x)] H fun t H1=>zaJ sz bytes v t H1 k)=zaJ sz bytes v (.slice (some ⟨H.next,0,some sz⟩) 1 1) (H.new (.cells (zab x) true)) k:=fun α k=>by unfold zam;rw[hbuild]
 generalize hH1:H.new (.cells (zab x) true)=H1 at hb';have n1:H1.next=H.next+1:=by rw[←hH1];rfl
 have g1:∀j,j<H.next→H1.get j=H.get j:=fun j hj=>by rw[←hH1,get_new,if_neg (by omega)]
 have gt:H1.get H.next=some (.cells (zab x) true):=by rw[←hH1,get_new,if_pos rfl]
 have hsrc:zbK sz (.slice (some ⟨H.next,0,some sz⟩) 1 1) H1=some (1,zab x):=by unfold zbK;dsimp only;rw[if_pos rfl,gt];dsimp only;rw[if_pos (by omega),drop_zero,take_of_length_le (by omega)]
 rcases h with⟨rfl,rfl,rfl⟩|⟨y,c,rest,rfl,k1,k2,k3,k4,k5,k6⟩
 ·refine⟨.slice (some ⟨H1.next,0,some sz⟩) 1 1,H1.new (.cells (zab x) true),fun α k=>?_,.inr ⟨H1.next,1,[],rfl,Nat.le_refl _,?_,by simpa using hx,by simp,by show H1.next<H1.next+1;omega,rfl⟩,⟨by show H.next≤H1.next+1;omega,fun j hj _=>by rw[get_new,if_neg (by omega),g1 j hj]⟩,fun j hj=>?_,⟨_,rfl⟩⟩
  ·rw[hb'];unfold zaJ zbE;rw[hsrc];dsimp only;rw[if_neg (by decide),if_pos ⟨by omega,h1⟩];rfl
  ·rw[get_new,if_pos rfl,nil_append,append_nil]
  ·cases hj;exact .inr (by show H.next≤H1.next;omega)
 ·have gy:H1.get y=some (.cells (cs++rest) true):=by rw[g1 y k5];exact k2
  have hyn:y≠H.next:=by omega
  by_cases hc:n+1≤c
  ·-- in place
   have hrl:sz≤rest.length:=by rw[k4];have:1*sz≤(c-n)*sz:=Nat.mul_le_mul_right sz (by omega);omega
   have hsp:spl (cs++rest) (0+n*sz) (zab x)=(cs++zab x)++rest.drop sz:=by unfold spl;rw[Nat.zero_add,←k3,List.take_left' rfl,hx];rw[drop_append,drop_of_length_le (by omega),nil_append,Nat.add_sub_cancel_left]
   refine⟨.slice (some ⟨y,0,some sz⟩) (n+1) c,H1.set y (some (.cells ((cs++zab x)++rest.drop sz) true)),fun α k=>?_,.inr ⟨y,c,rest.drop sz,rfl,hc,?_,?_,?_,by show y<H1.next;omega,?_⟩,⟨by show H.next≤H1.next;omega,fun j hj hm=>?_⟩,fun j hj=>?_,⟨_,rfl⟩⟩
   ·rw[hb'];unfold zaJ zbE;rw[hsrc];dsimp only;rw[if_neg (by simp),if_neg (by omega),gy];dsimp only;rw[if_pos hc,if_pos ⟨by rw[length_append,k3,k4];have:=Nat.mul_le_mul_right sz hc;rw[Nat.sub_mul];have:=Nat.mul_le_mul_right sz k1;omega,h1⟩,hsp]
   ·rw[get_set,if_pos rfl]
   ·rw[length_append,k3,hx,Nat.succ_mul]
   ·rw[length_drop,k4];have:(c-n)*sz=(c-(n+1))*sz+sz:=by rw[←Nat.succ_mul];congr 1;omega
    omega
   ·rw[all_eq_true]at k6 ⊢;exact fun z hz=>k6 z (mem_of_mem_drop hz)
   ·rw[get_set,if_neg (fun e=>hm (by rw[e];rfl)),g1 j hj]
   ·cases hj;exact .inl rfl
  ·-- it moves
   refine⟨.slice (some ⟨H1.next,0,some sz⟩) (n+1) (n+1),(H1.set y none).new (.cells (cs++zab x) true),fun α k=>?_,.inr ⟨H1.next,n+1,[],rfl,Nat.le_refl _,?_,?_,by simp,by show H1.next<H1.next+1;omega,rfl⟩,⟨by show H.next≤H1.next+1;omega,fun j hj hm=>?_⟩,fun j hj=>?_,⟨_,rfl⟩⟩
   ·rw[hb'];unfold zaJ zbE;rw[hsrc];dsimp only;have ht:((cs++rest).drop 0).take (n*sz)=cs:=by rw[drop_zero,←k3,List.take_left' rfl]
    rw[if_neg (by simp),if_neg (by omega),gy];dsimp only;rw[if_neg hc,if_pos ⟨by rw[length_append,k3];omega,hb,h1⟩,ht]
   ·rw[get_new,if_pos (show H1.next=(H1.set y none).next from rfl),append_nil]
   ·rw[length_append,k3,hx,Nat.succ_mul]
   ·rw[get_new,if_neg (by show ¬j=H1.next;omega),get_set,if_neg (fun e=>hm (by rw[e];rfl)),g1 j hj]
   ·cases hj;exact .inr (by show H.next≤H1.next;omega)
end
end Go.AM
namespace Go.AM
open Go
def Rdb(H:Hp)(sz:Nat)(v:Value)(n:Nat)(cs:List Value):Prop:=
 (n=0∧cs=[]∧v=.slice none 0 0)∨∃y c rest own,v=.slice (some ⟨y,0,some sz⟩) n c∧n≤c∧H.get y=some (.cells (cs++rest) own)∧cs.length=n*sz∧y<H.next
section
variable {H H':Hp}{sz:Nat}{v:Value}{n:Nat}{cs:List Value}
theorem Vec.rd(h:Vec H sz v n cs):Rdb H sz v n cs:=by
 rcases h with e|⟨y,c,rest,rfl,h1,h2,h3,h4,h5,h6⟩
 ·exact .inl e
 ·exact .inr ⟨y,c,rest,true,rfl,h1,h2,h3,h5⟩
theorem Rdb.len(h:Rdb H sz v n cs){α:Type}(H':Hp)(k:Value→Option α):pLen .sl v H' k=k (.int .i64 n):=by rcases h with⟨rfl,_,rfl⟩|⟨y,c,rest,own,rfl,_⟩<;>rfl
theorem Rdb.size(h:Rdb H sz v n cs):cs.length=n*sz:=by
 rcases h with⟨rfl,rfl,_⟩|⟨y,c,rest,own,_,_,_,h,_⟩
 ·simp
 ·exact h
theorem Rdb.lt(h:Rdb H sz v n cs){j:Nat}(hj:Id v j):j<H.next:=by
 rcases h with⟨_,_,rfl⟩|⟨y,c,rest,own,rfl,_,_,_,h⟩
 ·cases hj
 ·cases hj;exact h
theorem Rdb.keep'(h:Rdb H sz v n cs)(hg:∀j,Id v j→H'.get j=H.get j)(hn:H.next≤H'.next):Rdb H' sz v n cs:=by
 rcases h with e|⟨y,c,rest,own,rfl,h1,h2,h3,h4⟩
 ·exact .inl e
 ·exact .inr ⟨y,c,rest,own,rfl,h1,by rw[hg y rfl];exact h2,h3,Nat.lt_of_lt_of_le h4 hn⟩
theorem Rdb.keep{M:Nat→Prop}(h:Rdb H sz v n cs)(k:Frm M H H')(hm:∀j,Id v j→¬M j):Rdb H' sz v n cs:=
 h.keep' (fun j hj=>k.same j (h.lt hj) (hm j hj)) k.next
theorem Rdb.ix(h:Rdb H sz v n cs){i:Nat}(hi:i<n):∃y,Id v y∧(∃rest own,H.get y=some (.cells (cs++rest) own))∧∀(α:Type) (kd:IntKind) (k:Value→Option α),pIdx sz v (.int kd (i:Int)) k=k (.pointer (some ⟨y,i*sz,none⟩)):=by
 rcases h with⟨rfl,_,_⟩|⟨y,c,rest,own,rfl,h1,h2,h3,h4⟩
 ·omega
 ·refine⟨y,rfl,⟨rest,own,h2⟩,fun α kd k=>?_⟩;unfold pIdx idxV;have:sz=sz∧(0:Int)≤(i:Int)∧(i:Int)<(n:Int):=⟨rfl,by omega,by omega⟩
  simp only[this,and_self,if_true,Nat.zero_add,Int.toNat_natCast]
end
end Go.AM
namespace Go.AM
open List Go
structure Sl where
 sz:Nat
 v:Value
 n:Nat
 cs:List Value
structure Own(H0 H:Hp)(vs:List Sl):Prop where
 next:H0.next≤H.next
 old:∀j,j<H0.next→H.get j=H0.get j
 vec:∀e∈vs,Vec H e.sz e.v e.n e.cs
 new:∀e∈vs,∀j,Id e.v j→H0.next≤j
 apart:vs.Pairwise fun a b=>∀j,Id a.v j→¬Id b.v j
section
variable {H0 H:Hp}{sz:Nat}{v:Value}{n:Nat}{cs:List Value}{r:List Sl}
theorem Own.nil(H:Hp):Own H H []:=⟨Nat.le_refl _,fun _ _=>rfl,fun e h=>(by cases h),fun e h=>(by cases h),List.Pairwise.nil⟩
theorem Own.head{a:Sl}(h:Own H0 H (a::r)):Vec H a.sz a.v a.n a.cs:=h.vec a (mem_cons_self ..)
theorem Own.upd{a a':Sl}{H':Hp}(h:Own H0 H (a::r))(hv:Vec H' a'.sz a'.v a'.n a'.cs)(hf:Frm (Id a.v) H H')(hi:∀j,Id a'.v j→Id a.v j∨H.next≤j):Own H0 H' (a'::r):=by
 obtain⟨h1,h2⟩:=pairwise_cons.1 h.apart;have hn:=h.next;refine⟨Nat.le_trans h.next hf.next,fun j hj=>?_,fun e he=>?_,fun e he j hj=>?_,pairwise_cons.2 ⟨fun e he j x y=>?_,h2⟩⟩
 ·rw[hf.same j (Nat.lt_of_lt_of_le hj h.next) (fun q=>by have:=h.new a (by simp) j q;omega),h.old j hj]
 ·rcases mem_cons.1 he with rfl|he
  ·exact hv
  ·exact(h.vec e (by simp[he])).keep hf fun j x y=>h1 e he j y x
 ·rcases mem_cons.1 he with rfl|he
  ·rcases hi j hj with q|q
   ·exact h.new a (by simp) j q
   ·omega
  ·exact h.new e (by simp[he]) j hj
 ·rcases hi j x with q|q
  ·exact h1 e he j q y
  ·have:=(h.vec e (by simp[he])).lt y;omega
theorem Own.addNil(h:Own H0 H r)(sz:Nat):Own H0 H (⟨sz,.slice none 0 0,0,[]⟩::r):=by
 refine⟨h.next,h.old,fun e he=>?_,fun e he j hj=>?_,pairwise_cons.2 ⟨fun e he j x=>(by cases x),h.apart⟩⟩
 ·rcases mem_cons.1 he with rfl|he
  ·exact Vec.nil H sz
  ·exact h.vec e he
 ·rcases mem_cons.1 he with rfl|he
  ·cases hj
  ·exact h.new e he j hj
theorem Own.push(h:Own H0 H (⟨sz,v,n,cs⟩::r)){bytes:Nat}{zs:List Value}{x:Value}(hs:0<sz)(hs2:sz≤2^24)(hz:zs.length=sz)(hx:(zab x).length=sz)(h1:(zab x).all one=true)(hb:(n+1)*bytes≤2^47) :
  ∃v' H',(∀(α:Type) (k:Value→Hp→Option α),(zam sz zs 1 [(0,x)] H fun t H1=>zaJ sz bytes v t H1 k)=k v' H')∧Own H0 H' (⟨sz,v',n+1,cs++zab x⟩::r):=by
 obtain⟨v',H',e1,e2,e3,e4,_⟩:=h.head.push (bytes:=bytes) (zs:=zs) hs hs2 hz hx h1 hb;exact⟨v',H',e1,h.upd (a':=⟨sz,v',n+1,cs++zab x⟩) e2 e3 e4⟩
theorem spl_set{α:Type}(f:α→Value)(l:List α){i:Nat}(hi:i<l.length)(x:α):spl (l.map f) (i*1) [f x]=(l.set i x).map f:=by unfold spl;rw[Nat.mul_one,map_set,set_eq_take_append_cons_drop,if_pos (by simpa using hi)];simp
end
end Go.AM
namespace Go.AM
end Go.AM
namespace Go.AM
open Go
section
variable {α:Type}{P:Program}
theorem q_brf(x y:Option α):br false x y=y:=rfl
theorem q_brt(x y:Option α):br true x y=x:=rfl
theorem ziN(kd k2:IntKind)(a:Int)(k:Value→Option α):zaj kd (.int k2 a) k=k (.int kd (kd.wrap a)):=rfl
theorem q_ext0(x y:Value)(k:Value→Option α):zaf (.tuple #[x,y]) 0 k=k x:=rfl
theorem q_ext1(x y:Value)(k:Value→Option α):zaf (.tuple #[x,y]) 1 k=k y:=rfl
theorem zoY{k:IntKind}{n:Int}(h1:k.min≤n)(h2:n≤k.max):k.wrap n=n:=by cases k<;>simp[IntKind.wrap,IntKind.min,IntKind.max,IntKind.signed,IntKind.bits] at * <;> omega
theorem zh2{x:Int}(h1:-9223372036854775808≤x)(h2:x≤9223372036854775807):IntKind.i64.wrap x=x:=zoY (by have:IntKind.i64.min=-9223372036854775808:=rfl;omega) (by have:IntKind.i64.max=9223372036854775807:=rfl;omega)
theorem q_u64{x:Int}(h1:0≤x)(h2:x≤18446744073709551615):IntKind.u64.wrap x=x:=zoY (by have:IntKind.u64.min=0:=rfl;omega) (by have:IntKind.u64.max=18446744073709551615:=rfl;omega)
theorem q_u8{x:Int}(h1:0≤x)(h2:x≤255):IntKind.u8.wrap x=x:=zoY (by have:IntKind.u8.min=0:=rfl;omega) (by have:IntKind.u8.max=255:=rfl;omega)
theorem q_rem(T:TypeId)(kd:IntKind)(a b:Nat)(hb:b≠0)(k:Value→Option α):pBin P .rem T (.int kd (a:Int)) (.int kd (b:Int)) k=k (.int kd ((a%b:Nat):Int)):=by
 have hb':¬(b:Int)=0:=by omega
 have:((a:Int).tmod (b:Int))=((a%b:Nat):Int):=Int.ofNat_tmod a b |>.symm;have:binV P .rem T (.int kd (a:Int)) (.int kd (b:Int))=some (.int kd ((a%b:Nat):Int)):=by show (if kd=kd then zd4 .rem kd (a:Int) (b:Int) else none)=_;rw[if_pos rfl];unfold zd4;dsimp only;rw[if_neg hb',this]
 unfold pBin;rw[this]
theorem q_at(s:ByteArray)(i:Nat)(b:UInt8)(h:s.data.toList[i]?=some b)(k:Value→Option α):zaY (.string s) (.int .i64 (i:Int)) k=k (.int .u8 (b.toNat:Int)):=by
 have hi:i<s.data.toList.length:=(List.getElem?_eq_some_iff.1 h).1;have hb:s[i]?=some b:=by
  have h1:s.data[i]?=some b:=by rw[←h];simp
  obtain⟨h2,h3⟩:=Array.getElem?_eq_some_iff.1 h1;have h4:i<s.size:=h2;rw[getElem?_pos s i h4];exact congrArg some h3
 have:zqw s (i:Int)=some (.int .u8 (b.toNat:Int)):=by unfold zqw;rw[if_pos (by omega),Int.toNat_natCast,hb];rfl
 unfold zaY;dsimp only;rw[this]
theorem q_seql(T:TypeId)(a b:ByteArray)(k:Value→Option α):pBin P .eql T (.string a) (.string b) k=k (.bool (a.toList==b.toList)):=rfl
end
def wv(b:BitVec 64):Value:=.int .u64 (b.toNat:Int)
section
variable {α:Type}{P:Program}
theorem ze2(a:BitVec 64):BitVec.ofInt 64 (a.toNat:Int)=a:=by rw[BitVec.ofInt_natCast,BitVec.ofNat_toNat,BitVec.setWidth_eq]
theorem zjF(a:BitVec 64):IntKind.u64.wrap (a.toNat:Int)=(a.toNat:Int):=q_u64 (by omega) (by have:=a.isLt;omega)
theorem zep(x:Int):Value.int .u64 (IntKind.u64.wrap x)=wv (BitVec.ofInt 64 x):=by unfold wv;congr 1;rw[BitVec.toNat_ofInt];simp[IntKind.wrap,IntKind.signed,IntKind.bits];omega
theorem zqv{op:BinOp}{T:TypeId}{a b c:BitVec 64}{k:Value→Option α}(h:zd4 op .u64 (a.toNat:Int) (b.toNat:Int)=some (wv c))(hop:op≠.shl∧op≠.shr):pBin P op T (wv a) (wv b) k=k (wv c):=by
 have:binV P op T (wv a) (wv b)=some (wv c):=by rw[←h];unfold wv binV;cases op<;>first|rfl | (exact absurd rfl hop.1) | (exact absurd rfl hop.2)
 unfold pBin;rw[this]
theorem znh{op:BinOp}{T:TypeId}{a b:BitVec 64}{c:Bool}{k:Value→Option α}(h:zd4 op .u64 (a.toNat:Int) (b.toNat:Int)=some (.bool c))(hop:op≠.shl∧op≠.shr):pBin P op T (wv a) (wv b) k=k (.bool c):=by
 have:binV P op T (wv a) (wv b)=some (.bool c):=by rw[←h];unfold wv binV;cases op<;>first|rfl | (exact absurd rfl hop.1) | (exact absurd rfl hop.2)
 unfold pBin;rw[this]
variable (T:TypeId)(a b:BitVec 64)(k:Value→Option α)
theorem b_and:pBin P .and T (wv a) (wv b) k=k (wv (a&&&b)):=zqv (by
 show some (Value.int .u64 (IntKind.u64.wrap ((BitVec.ofInt 64 (a.toNat:Int))&&&(BitVec.ofInt 64 (b.toNat:Int))).toNat))=_
 rw[ze2,ze2,zjF];rfl) ⟨by decide,by decide⟩
theorem b_or:pBin P .or T (wv a) (wv b) k=k (wv (a|||b)):=zqv (by
 show some (Value.int .u64 (IntKind.u64.wrap ((BitVec.ofInt 64 (a.toNat:Int))|||(BitVec.ofInt 64 (b.toNat:Int))).toNat))=_
 rw[ze2,ze2,zjF];rfl) ⟨by decide,by decide⟩
theorem b_xor:pBin P .xor T (wv a) (wv b) k=k (wv (a ^^^ b)):=zqv (by
 show some (Value.int .u64 (IntKind.u64.wrap ((BitVec.ofInt 64 (a.toNat:Int)) ^^^ (BitVec.ofInt 64 (b.toNat:Int))).toNat))=_
 rw[ze2,ze2,zjF];rfl) ⟨by decide,by decide⟩
theorem b_not:pUn .xor (wv a) k=k (wv (~~~a)):=by
 have:unV .xor (wv a)=some (wv (~~~a)):=by
  show some (Value.int .u64 (IntKind.u64.wrap ((BitVec.ofInt 64 (IntKind.u64.max)) ^^^ (BitVec.ofInt 64 (a.toNat:Int))).toNat))=_;rw[ze2,zjF];have:BitVec.ofInt 64 IntKind.u64.max=BitVec.allOnes 64:=by decide
  rw[this,BitVec.allOnes_xor];rfl
 unfold pUn;rw[this]
theorem b_add:pBin P .add T (wv a) (wv b) k=k (wv (a+b)):=zqv (by
 show some (Value.int .u64 (IntKind.u64.wrap ((a.toNat:Int)+b.toNat)))=_;rw[zep]
 congr 2) ⟨by decide,by decide⟩
theorem b_sub:pBin P .sub T (wv a) (wv b) k=k (wv (a-b)):=zqv (by
 show some (Value.int .u64 (IntKind.u64.wrap ((a.toNat:Int)-b.toNat)))=_;rw[zep];congr 2;apply BitVec.eq_of_toNat_eq;rw[BitVec.toNat_ofInt,BitVec.toNat_sub];have:=a.isLt;have:=b.isLt
 omega) ⟨by decide,by decide⟩
theorem b_mul:pBin P .mul T (wv a) (wv b) k=k (wv (a*b)):=zqv (by
 show some (Value.int .u64 (IntKind.u64.wrap ((a.toNat:Int)*b.toNat)))=_;rw[zep]
 congr 2) ⟨by decide,by decide⟩
theorem b_eql:pBin P .eql T (wv a) (wv b) k=k (.bool (decide (a=b))):=znh (by
 show some (Value.bool ((a.toNat:Int)==b.toNat))=_;congr 2;have e:(a.toNat:Int)=b.toNat↔a=b:=⟨fun h=>BitVec.eq_of_toNat_eq (by omega),fun h=>by rw[h]⟩
 rw[Bool.eq_iff_iff]
 simp[e]) ⟨by decide,by decide⟩
theorem b_neq:pBin P .neq T (wv a) (wv b) k=k (.bool (!decide (a=b))):=znh (by
 show some (Value.bool ((a.toNat:Int) != b.toNat))=_;congr 2;have e:(a.toNat:Int)=b.toNat↔a=b:=⟨fun h=>BitVec.eq_of_toNat_eq (by omega),fun h=>by rw[h]⟩
 rw[Bool.eq_iff_iff]
 simp[e]) ⟨by decide,by decide⟩
theorem b_lss:pBin P .lss T (wv a) (wv b) k=k (.bool (decide (a.toNat<b.toNat))):=znh (by
 show some (Value.bool (decide ((a.toNat:Int)<b.toNat)))=_;congr 2
 rw[decide_eq_decide];omega) ⟨by decide,by decide⟩
theorem b_leq:pBin P .leq T (wv a) (wv b) k=k (.bool (decide (a.toNat≤b.toNat))):=znh (by
 show some (Value.bool (decide ((a.toNat:Int)≤b.toNat)))=_;congr 2
 rw[decide_eq_decide];omega) ⟨by decide,by decide⟩
theorem b_geq:pBin P .geq T (wv a) (wv b) k=k (.bool (decide (b.toNat≤a.toNat))):=znh (by
 show some (Value.bool (decide ((a.toNat:Int)≥b.toNat)))=_;congr 2
 rw[decide_eq_decide];omega) ⟨by decide,by decide⟩
theorem b_shl(kd:IntKind)(n:Nat):pBin P .shl T (wv a) (.int kd (n:Int)) k=k (wv (a <<< n)):=by
 have:binV P .shl T (wv a) (.int kd (n:Int))=some (wv (a <<< n)):=by
  show (if (n:Int)<0 then none else some (Value.int .u64 (IntKind.u64.wrap ((a.toNat:Int)*2^(min ((n:Int).toNat) 64)))))=_;rw[if_neg (by omega),zep,Int.toNat_natCast];congr 2;apply BitVec.eq_of_toNat_eq;rw[BitVec.toNat_ofInt,BitVec.toNat_shiftLeft,Nat.shiftLeft_eq];have e:((a.toNat:Int)*2^(min n 64))=((a.toNat*2^(min n 64):Nat):Int):=by push_cast;rfl
  rw[e];have e2:(((a.toNat*2^(min n 64):Nat):Int)%((2^64:Nat):Int)).toNat=a.toNat*2^(min n 64)%2^64:=by omega
  rw[e2];rcases Nat.lt_or_ge n 64 with h|h
  ·rw[Nat.min_eq_left (by omega)]
  ·rw[Nat.min_eq_right h];have:a.toNat*2^n=a.toNat*2^(n-64)*2^64:=by rw[Nat.mul_assoc,←Nat.pow_add];congr 2;omega
   rw[this,Nat.mul_mod_left,Nat.mul_mod_left]
 unfold pBin;rw[this]
theorem zng(kd:IntKind)(n:Nat):pBin P .shr T (wv a) (.int kd (n:Int)) k=k (wv (a >>> n)):=by
 have:binV P .shr T (wv a) (.int kd (n:Int))=some (wv (a >>> n)):=by
  show (if (n:Int)<0 then none else some (Value.int .u64 ((a.toNat:Int).fdiv (2^(min ((n:Int).toNat) 64)))))=_;rw[if_neg (by omega),Int.toNat_natCast];unfold wv;congr 2;rw[BitVec.toNat_ushiftRight,Nat.shiftRight_eq_div_pow];have e:((2:Int)^(min n 64))=((2^(min n 64):Nat):Int):=by push_cast;rfl
  rw[e,←Int.ofNat_fdiv];congr 1;rcases Nat.lt_or_ge n 64 with h|h
  ·rw[Nat.min_eq_left (by omega)]
  ·rw[Nat.min_eq_right h,Nat.div_eq_of_lt a.isLt,Nat.div_eq_of_lt (Nat.lt_of_lt_of_le a.isLt (Nat.pow_le_pow_right (by decide) h))]
 unfold pBin;rw[this]
end
end Go.AM
namespace Go.AM
open List Go Go.ChangeShapes Go.WideShapes Go.ChangeAt Go.RowKit
theorem zjQ{HH:Type}{enc:TypeId×Value→HH}{P:Program}{W:World}:∀{ts:List TypeId} {vs:List Value} {ds:List (DataW HH)} {ps:List MemPlace},DataW.TrodAll enc P W 0 (fun _=>true) true ts vs ds ps→ds.length=ts.length:=by
 intro ts;induction ts with
 |nil=>intro vs ds ps h;cases vs<;>cases ds<;>first|rfl|exact h.elim
 |cons t ts ih=>intro vs ds ps h;cases vs<;>cases ds<;>first|exact h.elim | (obtain⟨p,q,_,h2,_⟩:=h;simp[ih h2])
theorem zhg{C:Checked}{os:Os}{f:FuncId}{fn:Func}{s:OpenSpec}{HH:Type}{enc:TypeId×Value→HH}{k:(H:Type)→List (DataW H)→Bool}(hk:s.cond=some k){F:Stop.Interp}{conds:List PathCond}{laid:List (String×DataW Unit)}
  (own:ownKnob C.prog.godebug=none) (started:os.Started) (noInit:C.prog.inits.idxOf? f=none) (hfn:C.prog.funcs[f]?=some fn)
  (witness:∃(w:World) (tape:Tape) (i:Input),w.os=os∧(w.forCall tape i).Shaped C.prog∧i.vars=[]∧Input.okWide C.prog (w.forCall tape i) .any w.heap.size f i ∧
   s.preRow enc C.prog fn conds false laid (w.forCall tape i).memory i.args∧({}:Assume).holds C.prog (lone (Frame.enter C.prog f i.args .normal) [] (w.forCall tape i)))
  (hl:laidOutB C.prog=true) (hp:∀t∈fn.params.toList,C.prog.readableRec t=true∧t<C.prog.types.size) (hv:s.vars=[]) {tb:TypeId} (hr:fn.resultTypes = #[tb]) (hb:C.prog.underlying tb=some .bool)
  (hg:C.prog.globals.size=0∨∃x,(((begin C.prog (fun _ _=>0) default).world.heap[C.prog.globals.size-1]?).bind Obj.row?)=some x)
  (hsp:∀ds:List (DataW HH),ds.length=fn.params.size→(s.at F).fn HH ds={ results:=[.lit (.bool true)],args:=ds })
  {O:Orc} {ext:Ext1} (hm:C.prog.follows .mixedOrders=true) (he:ExtC C.prog ext)
  (main:∀(W:World) (base:Nat) (args:Array Value) (ds:List (DataW HH)) (ps:List MemPlace),C.prog.globals.size≤W.heap.size →
   (∀(j:Nat) t v,fn.params[j]?=some t→args[j]?=some v→Value.okWide C.prog W .any base t v)→DataW.TrodAll enc C.prog W 0 (fun _=>true) true fn.params.toList args.toList ds ps→k HH ds=true→laidMetH C.prog laid W →
   ∃(H0 H1:Hp) (β:Bt) (xs:List Value),Rel C.prog W H0 β∧(∀i o,H0.get i=some o→o.own=false)∧LRel β xs args.toList∧run C.prog O ext f xs H0=some (.bool true,H1))
  (hx:XtC C.prog O.xt:=by intro f e h;cases h) (hxf:O.xt f=none:=by rfl) (ho:ExtO O ext:=by intro f _;rfl) (hpf:O.pan f=false:=by rfl) :
  ReturnsInHanded {} C os f .any (s.preRow enc C.prog fn conds false laid) ((s.at F).post enc C.prog fn false true false false):=by
 refine returnsInHanded_of_row own started noInit hfn witness ?_;intro W base args ds gs before hval hw hc hkk _ hL hsh _;have hkk:=hkk k hk;obtain⟨p,q,h1,h2,e,_,_⟩:=id hw;have hgs:gs=[]:=by
  rw[hv]at h2;cases gs with
  |nil=>rfl
  |cons g gs=>exact h2.elim
 subst hgs;rw[append_nil]at hkk;obtain⟨H0,H1,β,xs,g1,g2,g3,g4⟩:=main W base args ds p (znw hsh hg) hval h1 hkk hL;refine(znf hm he g1 g2 g3 g4 hx hxf ho hpf).mono fun e W' ⟨h3,h4⟩=>?_;subst h3;have hlen:ds.length=fn.params.size:=by simpa using zjQ h1
 exact⟨_,rfl,post_true (s:=s.at F) hl hp hv hr hb hw h4 (by rw[append_nil];exact hsp ds hlen)⟩
end Go.AM
namespace Go.AM
open Go
def zkL(l:List Value):Option Value:=
 match l with
 |[.string s,.int .u8 c]=>some (.int .i64 (Go.Lib.indexByte s.data.toList c.toNat.toUInt8))
 |_=>none
def zkU(l:List Value):Option Value:=
 match l with
 |[.string s,.int .u8 c]=>some (.int .i64 (Go.Lib.countByte s.data.toList c.toNat.toUInt8:Nat))
 |_=>none
theorem LRel.strInt{β:Bt}{s:ByteArray}{k:IntKind}{c:Int}{l:List Value}(h:LRel β [.string s,.int k c] l):l=[.string s,.int k c]:=by
 obtain⟨h1,h2⟩:=h
 match l,h1 with
 |[x,y],_=>
  have e0:=h2 0 _ x rfl rfl;have e1:=h2 1 _ y rfl rfl;cases e0;cases e1;rfl
theorem idxStr_xt{P:Program}{f:FuncId}{fn:Func}(hf:P.funcs[f]?=some fn)(hname:(fn.name == "runtime.NumGoroutine")=false)(hb:fn.body.isNone=true)(hn:Extern.findNext fn=none)(he:Extern.find fn=some Extern.BytealgIndexByte.indexByte)
  (args:List Value) (v:Value) (h:zkL args=some v):XT P f args v:=by
 unfold zkL at h;split at h
 ·rename_i s c;cases h;intro args' β w hl;obtain rfl:=hl.strInt;exact⟨_,.int _ _,by rw[run_callFunc_extern hf hname hb hn he,Go.Lib.run_indexByteString];rfl⟩
 ·cases h
theorem cntStr_xt{P:Program}{f:FuncId}{fn:Func}(hf:P.funcs[f]?=some fn)(hname:(fn.name == "runtime.NumGoroutine")=false)(hb:fn.body.isNone=true)(hn:Extern.findNext fn=none)(he:Extern.find fn=some Extern.BytealgCount.count)
  (args:List Value) (v:Value) (h:zkU args=some v):XT P f args v:=by
 unfold zkU at h;split at h
 ·rename_i s c;cases h;intro args' β w hl;obtain rfl:=hl.strInt;exact⟨_,.int _ _,by rw[run_callFunc_extern hf hname hb hn he,Go.Lib.run_countString];rfl⟩
 ·cases h
end Go.AM
