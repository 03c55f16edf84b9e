/- EvalCarryMeans: what is carried into a new store has the same text, and the same values, for any text and any numbers; where the arguments are of bulk at most 2 to the 20th; the package variables read as the program lays them. -/
import Derived.ChangeMaps5
import Derived.JoinedCond
import Derived.Test.YtcbmccpkhagckaaGreatDoorT1
import Derived.Test.YtcbmccpkhagckaaGreatDoorT4
import Derived.Test.YtcbmccpkhagckaaGreatDoorT5
set_option linter.unusedSimpArgs false
set_option linter.unusedVariables false
set_option linter.unusedSectionVars false
set_option maxRecDepth 100000
set_option linter.unusedVariables false
set_option linter.unusedSimpArgs false
set_option maxRecDepth 100000
namespace Go.Proofs.YtcbmccpkhagckaaGreatDoor.evalCarryMeans
open Go.AM Go.AM.N14 Go.ChangeShapes Go.WideShapes Go.ChangeAt Go.RowKit
theorem own:ownKnob Tryz.prog.godebug=.none:=by kernel_rfl
theorem follows:Tryz.prog.follows .mixedOrders=true:=by kernel_rfl
theorem calm:ExtO orc E0:=by
 intro f h;rcases h with h|h
 ·unfold E0 at h;split at h
  ·rename_i q;subst q;rfl
  ·split at h
   ·rename_i q;subst q;rfl
   ·split at h
    ·rename_i q;subst q;rfl
    ·split at h
     ·rename_i q;subst q;rfl
     ·split at h
      ·rename_i q;subst q;rfl
      ·cases h
 ·have h:(Go.AM.look none [(AY,some zkL),(AX,some zkU)] f).isSome=true:=h;unfold Go.AM.look at h;split at h
  ·rename_i q;have:f=AY:=(Nat.eq_of_beq_eq_true q).symm;subst this;rfl
  ·unfold Go.AM.look at h;split at h
   ·rename_i q;have:f=AX:=(Nat.eq_of_beq_eq_true q).symm;subst this;rfl
   ·cases h
theorem laid_met(os:Os):laidMetH Tryz.prog Rows.evalCarryMeansUptoRow.laid ((zcE os).forCall (fun _ _=>0) ⟨#[],#[.string ⟨#[]⟩,.slice none 0 0],[]⟩).memory:=
 laid_allH os _
theorem reads(os:Os){H:Type}(enc:TypeId×Value→H):∃x,DataW.whole enc Tryz.prog ((zcE os).forCall (fun _ _=>0) ⟨#[],#[.string ⟨#[]⟩,.slice none 0 0],[]⟩).memory Tryz.f10.params.toList Rows.evalCarryMeansSpec.vars false (#[.string ⟨#[]⟩,.slice none 0 0]:Array Value).toList 8=some x∧Rows.uptoSmall H (x.1++x.2.1)=true:=
 ⟨([.lit (.string []),.nil],[],[]),by kernel_rfl,by kernel_rfl⟩
theorem lifted(os:Os)(started:os.Started)(H:Type)(enc:TypeId×Value→H)(F:Stop.Interp) :
  ReturnsInHanded {} Tryz.checked os 10 .any ((Rows.OpenSpec.upto Rows.evalCarryMeansSpec).preRow enc Tryz.prog Tryz.f10 Rows.evalCarryMeansUptoRow.domain false Rows.evalCarryMeansUptoRow.laid) (((Rows.OpenSpec.upto Rows.evalCarryMeansSpec).at F).post enc Tryz.prog Tryz.f10 false true false false):=by
 obtain⟨x,hx,hc⟩:=reads os enc;refine zhg (C:=Tryz.checked) (s:=Rows.OpenSpec.upto Rows.evalCarryMeansSpec) (k:=Rows.uptoSmall) rfl own started (by kernel_rfl) Tryz.func10
  (witness_row_atRef (enc:=enc) (C:=Tryz.checked) false (zcE os) #[.string ⟨#[]⟩,.slice none 0 0] rfl (by kernel_rfl) (by kernel_rfl) (by kernel_rfl)
   (OpenSpec.preRow_of_cond 8 hx (by kernel_rfl) (fun k hk=>by cases hk;exact hc) (by kernel_rfl) (laid_met os)))
  (by kernel_rfl) ?_ rfl rfl Go.Proofs.Tryz.underlying4 (.inr (Option.isSome_iff_exists.1 (by kernel_rfl))) ?_ (O:=orc) (ext:=E0) follows extE0 ?_ (hx:=xt7) (hxf:=rfl) (ho:=calm) (hpf:=rfl)
 ·intro t ht;have:t=Ac∨t=A9:=by simpa[Tryz.params10] using ht
  rcases this with rfl|rfl<;>exact⟨by kernel_rfl,of_decide_eq_true (by kernel_rfl)⟩
 ·intro ds hd;have hd:ds.length=2:=hd
  match ds,hd with
  |[e0,e1],_=>rfl
 ·intro W base args ds ps hsz hval hA hk hL;have hA':DataW.TrodAll enc Tryz.prog W 0 (fun _=>true) true [Ac,A9] args.toList ds ps:=hA;obtain⟨v0,vs0,d0,ds0,p0,q0,hargs,rfl,rfl,h0,r0⟩:=trodAll_cons hA';obtain⟨v1,vs1,d1,ds1,p1,q1,rfl,rfl,rfl,h1,r1⟩:=trodAll_cons r0;obtain⟨rfl,rfl,rfl⟩:=trodAll_nil r1;obtain rfl:args = #[v0,v1]:=by cases args;simp_all
  obtain⟨H00,gr00,gn00,gT⟩:=Go.AM.start hsz (laid_noH hL);obtain⟨s0,rfl,rfl,rfl,hs0⟩:=Go.ChangeMaps.open_string Go.Proofs.Tryz.underlying9 (hval 0 Ac v0 rfl rfl) h0;obtain⟨x1,H01,β1,os1,gr1,gn1,gb1,gv1,gs1,go1,gl1,gf1⟩:=u64s_arg gr00 gn00 (hval 1 A9 v1 rfl rfl) h1;have hk:Rows.uptoBulkAll [DataW.lit (.string s0.data.toList),d1]≤1048576:=of_decide_eq_true hk;simp only[Rows.uptoBulkAll,Rows.uptoBulk]at hk;have hst:str s0.data.toList=Value.string s0:=by show Value.string (ba s0.data.toList)=_;rw[←zf0 (s:=s0) rfl]
  obtain⟨HH,hr⟩:=run8c s0.data.toList (by omega) gs1 go1 (gT.keep gf1 fun j q=>q.elim);rw[hst]at hr;exact⟨H01,HH,β1,[.string s0,x1],gr1,gn1,(LRel.cons (.string _) (LRel.cons gv1 (LRel.nil _))),hr⟩
theorem saidUpto:Rows.EvalCarryMeansUptoSaid:=
 OpenClaim.holds_of_cond 10 Tryz.f10 rfl rfl rfl rfl rfl rfl rfl ⟨rfl,rfl,rfl,rfl,rfl⟩ rfl rfl rfl rfl rfl (by kernel_rfl) Tryz.func10 (by kernel_rfl)
  (of_decide_eq_true (by kernel_rfl)) (by unfold Func.isWrapper;first | (rw[if_pos (by decide +kernel)];kernel_rfl) | (rw[if_neg (by decide +kernel)];exact⟨rfl,rfl⟩))
  (fun os started H enc _ F=>by rw[OpenClaim.pre_eq_preRow];exact lifted os started H enc F)
theorem plain(f:FuncId)(fn:Func)(hf:Tryz.pinned.checked.prog.funcNamed "cadence/cadencelaw08.EvalCarryMeans" = some f)(hfn:Tryz.pinned.checked.prog.funcs[f]?=some fn) :
  true=Tryz.pinned.checked.prog.looks []∧∀(j:Nat) t,fn.params[j]?=some t→Tryz.pinned.checked.prog.wantsStandIn t=false:=by
 obtain rfl:f=10:=Option.some.inj ((show Tryz.prog.funcNamed "cadence/cadencelaw08.EvalCarryMeans" = some 10 by kernel_rfl).symm.trans hf) |>.symm;obtain rfl:fn=Tryz.f10:=(Option.some.inj (Tryz.func10.symm.trans hfn)).symm;refine⟨by kernel_rfl,fun j t ht=>?_⟩;rw[Tryz.params10]at ht;have:t=9∨t=29:=by simpa using Array.mem_of_getElem? ht
 rcases this with rfl|rfl<;>first|exact(show Tryz.prog.wantsStandIn 9=false by kernel_rfl)|exact(show Tryz.prog.wantsStandIn 29=false by kernel_rfl)
theorem proved:Rows.EvalCarryMeansUptoCardSaid:=
 Claim7.holds_tied_plain_at .later [] _ _ _ _ saidUpto (fun _ h=>by cases h) (by kernel_rfl) (fun _ h=>by cases h) evalCarryMeansUpto_row_tie rfl ⟨rfl,rfl⟩ (by kernel_rfl) rfl plain (by kernel_rfl)
end Go.Proofs.YtcbmccpkhagckaaGreatDoor.evalCarryMeans
#print axioms Go.Proofs.YtcbmccpkhagckaaGreatDoor.evalCarryMeans.proved
