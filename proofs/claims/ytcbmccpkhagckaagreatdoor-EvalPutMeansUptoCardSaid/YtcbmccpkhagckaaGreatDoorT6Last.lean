/- EvalPutMeans: what is put in has the value of the term that was put; put for themselves, variables zpf all as it is; for any text, any numbers and any picks; where the arguments are of bulk at most 2 to the 20th; the package variables read as the program lays them. -/
import Derived.ChangeMaps5
import Derived.JoinedCond
import Derived.Test.YtcbmccpkhagckaaGreatDoorT1
import Derived.Test.YtcbmccpkhagckaaGreatDoorT4
import Derived.Test.YtcbmccpkhagckaaGreatDoorT5
set_option linter.unusedSimpArgs false
set_option linter.unusedVariables false
set_option linter.unusedSectionVars false
set_option maxRecDepth 100000
set_option linter.unusedVariables false
set_option linter.unusedSimpArgs false
set_option maxRecDepth 100000
namespace Go.Proofs.YtcbmccpkhagckaaGreatDoor.evalPutMeans
open Go.AM Go.AM.N14 Go.ChangeShapes Go.WideShapes Go.ChangeAt Go.RowKit
theorem own:ownKnob Tryz.prog.godebug=.none:=by kernel_rfl
theorem follows:Tryz.prog.follows .mixedOrders=true:=by kernel_rfl
theorem calm:ExtO orc E0:=by
 intro f h;rcases h with h|h
 ·unfold E0 at h;split at h
  ·rename_i q;subst q;rfl
  ·split at h
   ·rename_i q;subst q;rfl
   ·split at h
    ·rename_i q;subst q;rfl
    ·split at h
     ·rename_i q;subst q;rfl
     ·split at h
      ·rename_i q;subst q;rfl
      ·cases h
 ·have h:(Go.AM.look none [(AY,some zjV),(AX,some zj4)] f).isSome=true:=h;unfold Go.AM.look at h;split at h
  ·rename_i q;have:f=AY:=(Nat.eq_of_beq_eq_true q).symm;subst this;rfl
  ·unfold Go.AM.look at h;split at h
   ·rename_i q;have:f=AX:=(Nat.eq_of_beq_eq_true q).symm;subst this;rfl
   ·cases h
theorem laid_met(os:Os):laidMetH Tryz.prog Rows.evalPutMeansUptoRow.laid ((zcn os).forCall (fun _ _=>0) ⟨#[],#[.string ⟨#[]⟩,.slice none 0 0,.slice none 0 0],[]⟩).memory:=
 laid_allH os _
theorem reads(os:Os){H:Type}(enc:TypeId×Value→H):∃x,DataW.whole enc Tryz.prog ((zcn os).forCall (fun _ _=>0) ⟨#[],#[.string ⟨#[]⟩,.slice none 0 0,.slice none 0 0],[]⟩).memory Tryz.f8.params.toList Rows.evalPutMeansSpec.vars false (#[.string ⟨#[]⟩,.slice none 0 0,.slice none 0 0]:Array Value).toList 8=some x∧Rows.uptoSmall H (x.1++x.2.1)=true:=
 ⟨([.lit (.string []),.nil,.nil],[],[]),by kernel_rfl,by kernel_rfl⟩
theorem lifted(os:Os)(started:os.Started)(H:Type)(enc:TypeId×Value→H)(F:Stop.Interp) :
  ReturnsInHanded {} Tryz.checked os 8 .any ((Rows.OpenSpec.upto Rows.evalPutMeansSpec).preRow enc Tryz.prog Tryz.f8 Rows.evalPutMeansUptoRow.domain false Rows.evalPutMeansUptoRow.laid) (((Rows.OpenSpec.upto Rows.evalPutMeansSpec).at F).post enc Tryz.prog Tryz.f8 false true false false):=by
 obtain⟨x,hx,hc⟩:=reads os enc;refine zgC (C:=Tryz.checked) (s:=Rows.OpenSpec.upto Rows.evalPutMeansSpec) (k:=Rows.uptoSmall) rfl own started (by kernel_rfl) Tryz.func8
  (witness_row_atRef (enc:=enc) (C:=Tryz.checked) false (zcn os) #[.string ⟨#[]⟩,.slice none 0 0,.slice none 0 0] rfl (by kernel_rfl) (by kernel_rfl) (by kernel_rfl)
   (OpenSpec.preRow_of_cond 8 hx (by kernel_rfl) (fun k hk=>by cases hk;exact hc) (by kernel_rfl) (laid_met os)))
  (by kernel_rfl) ?_ rfl rfl Go.Proofs.Tryz.underlying4 (.inr (Option.isSome_iff_exists.1 (by kernel_rfl))) ?_ (O:=orc) (ext:=E0) follows extE0 ?_ (hx:=xt7) (hxf:=rfl) (ho:=calm) (hpf:=rfl)
 ·intro t ht;have:t=Ac∨t=A4∨t=AK:=by simpa[Tryz.params8] using ht
  rcases this with rfl|rfl|rfl<;>exact⟨by kernel_rfl,of_decide_eq_true (by kernel_rfl)⟩
 ·intro ds hd;have hd:ds.length=3:=hd
  match ds,hd with
  |[e0,e1,e2],_=>rfl
 ·intro W base args ds ps hsz hval hA hk hL;have hA':DataW.TrodAll enc Tryz.prog W 0 (fun _=>true) true [Ac,A4,AK] args.toList ds ps:=hA;obtain⟨v0,vs0,d0,ds0,p0,q0,hargs,rfl,rfl,h0,r0⟩:=trodAll_cons hA';obtain⟨v1,vs1,d1,ds1,p1,q1,rfl,rfl,rfl,h1,r1⟩:=trodAll_cons r0;obtain⟨v2,vs2,d2,ds2,p2,q2,rfl,rfl,rfl,h2,r2⟩:=trodAll_cons r1;obtain⟨rfl,rfl,rfl⟩:=trodAll_nil r2;obtain rfl:args = #[v0,v1,v2]:=by cases args;simp_all
  obtain⟨H00,gr00,gn00,gT⟩:=Go.AM.start hsz (laid_noH hL);obtain⟨s0,rfl,rfl,rfl,hs0⟩:=Go.ChangeMaps.open_string Go.Proofs.Tryz.underlying9 (hval 0 Ac v0 rfl rfl) h0;obtain⟨x1,H01,β1,os1,gr1,gn1,gb1,gv1,gs1,go1,gl1,gf1⟩:=u64s_arg gr00 gn00 (hval 1 A4 v1 rfl rfl) h1;obtain⟨x2,H02,β2,os2,gr2,gn2,gb2,gv2,gs2,go2,gl2,gf2⟩:=ints_arg gr1 gn1 (hval 2 AK v2 rfl rfl) h2;have hk:Rows.uptoBulkAll [DataW.lit (.string s0.data.toList),d1,d2]≤1048576:=of_decide_eq_true hk;simp only[Rows.uptoBulkAll,Rows.uptoBulk]at hk;have hst:str s0.data.toList=Value.string s0:=by show Value.string (ba s0.data.toList)=_;rw[←zj0 (s:=s0) rfl]
  obtain⟨HH,hr⟩:=run8u s0.data.toList (by omega) (gs1.keep gf2 fun _ _ q=>q) go1 gs2 (by omega) (gT.keep (gf1.trans gf2 fun j q=>q.elim) fun j q=>q.elim);rw[hst]at hr;exact⟨H02,HH,β2,[.string s0,x1,x2],gr2,gn2,(LRel.cons (.string _) (LRel.cons (VRel.mono gb2 gv1) (LRel.cons gv2 (LRel.nil _)))),hr⟩
theorem saidUpto:Rows.EvalPutMeansUptoSaid:=
 OpenClaim.holds_of_cond 8 Tryz.f8 rfl rfl rfl rfl rfl rfl rfl ⟨rfl,rfl,rfl,rfl,rfl⟩ rfl rfl rfl rfl rfl (by kernel_rfl) Tryz.func8 (by kernel_rfl)
  (of_decide_eq_true (by kernel_rfl)) (by unfold Func.isWrapper;first | (rw[if_pos (by decide +kernel)];kernel_rfl) | (rw[if_neg (by decide +kernel)];exact⟨rfl,rfl⟩))
  (fun os started H enc _ F=>by rw[OpenClaim.pre_eq_preRow];exact lifted os started H enc F)
theorem plain(f:FuncId)(fn:Func)(hf:Tryz.pinned.checked.prog.funcNamed "cadence/cadencelaw08.EvalPutMeans" = some f)(hfn:Tryz.pinned.checked.prog.funcs[f]?=some fn) :
  true=Tryz.pinned.checked.prog.looks []∧∀(j:Nat) t,fn.params[j]?=some t→Tryz.pinned.checked.prog.wantsStandIn t=false:=by
 obtain rfl:f=8:=Option.some.inj ((show Tryz.prog.funcNamed "cadence/cadencelaw08.EvalPutMeans" = some 8 by kernel_rfl).symm.trans hf) |>.symm;obtain rfl:fn=Tryz.f8:=(Option.some.inj (Tryz.func8.symm.trans hfn)).symm;refine⟨by kernel_rfl,fun j t ht=>?_⟩;rw[Tryz.params8]at ht;have:t=9∨t=29∨t=22:=by simpa using Array.mem_of_getElem? ht
 rcases this with rfl|rfl|rfl<;>first|exact(show Tryz.prog.wantsStandIn 9=false by kernel_rfl)|exact(show Tryz.prog.wantsStandIn 29=false by kernel_rfl)|exact(show Tryz.prog.wantsStandIn 22=false by kernel_rfl)
theorem proved:Rows.EvalPutMeansUptoCardSaid:=
 Claim7.holds_tied_plain_at .later [] _ _ _ _ saidUpto (fun _ h=>by cases h) (by kernel_rfl) (fun _ h=>by cases h) evalPutMeansUpto_row_tie rfl ⟨rfl,rfl⟩ (by kernel_rfl) rfl plain (by kernel_rfl)
end Go.Proofs.YtcbmccpkhagckaaGreatDoor.evalPutMeans
#print axioms Go.Proofs.YtcbmccpkhagckaaGreatDoor.evalPutMeans.proved
