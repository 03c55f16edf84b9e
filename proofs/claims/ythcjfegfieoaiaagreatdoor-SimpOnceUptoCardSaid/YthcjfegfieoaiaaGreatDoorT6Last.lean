/- SimpOnce: what was made simple is made of itself, and each of its nodes of its own parts; where the arguments are of bulk at most 2 to the 20th; the package variables read as the program lays them. -/
import Derived.ChangeMaps5
import Derived.JoinedCond
import Derived.Test.YthcjfegfieoaiaaGreatDoorT0
import Derived.Test.YthcjfegfieoaiaaGreatDoorT5
set_option linter.unusedSimpArgs false
set_option linter.unusedVariables false
set_option linter.unusedSectionVars false
set_option linter.constructorNameAsVariable false
set_option maxRecDepth 100000
set_option linter.unusedVariables false
set_option linter.unusedSimpArgs false
set_option maxRecDepth 100000
namespace Go.Proofs.YthcjfegfieoaiaaGreatDoor.simpOnce
open Go.AM Go.AM.N14 Go.ChangeShapes Go.WideShapes Go.ChangeAt Go.RowKit
theorem own:ownKnob Tryz.prog.godebug=.none:=by kernel_rfl
theorem follows:Tryz.prog.follows .mixedOrders=true:=by kernel_rfl
theorem calm:ExtO orc E0:=by
 intro f h;rcases h with h|h
 ·unfold E0 at h;split at h
  ·rename_i q;subst q;rfl
  ·split at h
   ·rename_i q;subst q;rfl
   ·split at h
    ·rename_i q;subst q;rfl
    ·split at h
     ·rename_i q;subst q;rfl
     ·cases h
 ·cases h
theorem laid_met(os:Os):laidMet Tryz.prog Rows.simpOnceUptoRow.laid ((zkc os).forCall (fun _ _=>0) ⟨#[],#[.int .i64 0,.slice none 0 0,.slice none 0 0],[]⟩).memory:=
 laidMet_of_run' 10 (by kernel_rfl) (by kernel_rfl)
theorem reads(os:Os){H:Type}(enc:TypeId×Value→H):∃x,DataW.whole enc Tryz.prog ((zkc os).forCall (fun _ _=>0) ⟨#[],#[.int .i64 0,.slice none 0 0,.slice none 0 0],[]⟩).memory Tryz.f10.params.toList Rows.simpOnceSpec.vars false (#[.int .i64 0,.slice none 0 0,.slice none 0 0]:Array Value).toList 8=some x∧Rows.uptoSmall H (x.1++x.2.1)=true:=
 ⟨([.lit (.int .i64 0),.nil,.nil],[],[]),by kernel_rfl,by kernel_rfl⟩
theorem lifted(os:Os)(started:os.Started)(H:Type)(enc:TypeId×Value→H)(F:Stop.Interp) :
  ReturnsInHanded {} Tryz.checked os 10 .any ((Rows.OpenSpec.upto Rows.simpOnceSpec).preRow enc Tryz.prog Tryz.f10 Rows.simpOnceUptoRow.domain false Rows.simpOnceUptoRow.laid) (((Rows.OpenSpec.upto Rows.simpOnceSpec).at F).post enc Tryz.prog Tryz.f10 false true false false):=by
 obtain⟨x,hx,hc⟩:=reads os enc;refine zhG (C:=Tryz.checked) (s:=Rows.OpenSpec.upto Rows.simpOnceSpec) (k:=Rows.uptoSmall) rfl own started (by kernel_rfl) Tryz.func10
  (witness_row_atRef (enc:=enc) (C:=Tryz.checked) false (zkc os) #[.int .i64 0,.slice none 0 0,.slice none 0 0] rfl (by kernel_rfl) (by kernel_rfl) (by kernel_rfl)
   (OpenSpec.preRow_of_cond 8 hx (by kernel_rfl) (fun k hk=>by cases hk;exact hc) (by kernel_rfl) (laid_met os)))
  (by kernel_rfl) ?_ rfl rfl Go.Proofs.Tryz.underlying4 (.inr (Option.isSome_iff_exists.1 (by kernel_rfl))) ?_ (O:=orc) (ext:=E0) follows extE0 ?_ (hx:=fun f e h=>by cases h) (hxf:=rfl) (ho:=calm) (hpf:=rfl)
 ·intro t ht;have:t=Aa∨t=AG∨t=A1:=by simpa[Tryz.params10] using ht
  rcases this with rfl|rfl|rfl<;>exact⟨by kernel_rfl,of_decide_eq_true (by kernel_rfl)⟩
 ·intro ds hd;have hd:ds.length=3:=hd
  match ds,hd with
  |[e0,e1,e2],_=>rfl
 ·intro W base args ds ps hsz hval hA hk hL;have hA':DataW.TrodAll enc Tryz.prog W 0 (fun _=>true) true [Aa,AG,A1] args.toList ds ps:=hA;obtain⟨v0,vs0,d0,ds0,p0,q0,hargs,rfl,rfl,h0,r0⟩:=trodAll_cons hA';obtain⟨v1,vs1,d1,ds1,p1,q1,rfl,rfl,rfl,h1,r1⟩:=trodAll_cons r0;obtain⟨v2,vs2,d2,ds2,p2,q2,rfl,rfl,rfl,h2,r2⟩:=trodAll_cons r1;obtain⟨rfl,rfl,rfl⟩:=trodAll_nil r2;obtain rfl:args = #[v0,v1,v2]:=by cases args;simp_all
  obtain⟨a0,rfl,rfl,rfl,w0⟩:=open_int Go.Proofs.Tryz.underlying3 (hval 0 Aa v0 rfl rfl) h0;obtain⟨H0,gr0,gn0,gT⟩:=Go.AM.start hsz hL;obtain⟨x1,H1,β1,os1,gr1,gn1,gb1,gv1,gs1,go1,gl1,gf1⟩:=zm1 gr0 gn0 (hval 1 AG v1 rfl rfl) h1;obtain⟨x2,H2,β2,os2,gr2,gn2,gb2,gv2,gs2,go2,gl2,gf2⟩:=ints_arg gr1 gn1 (hval 2 A1 v2 rfl rfl) h2;have hk:Rows.uptoBulkAll [DataW.lit (.int .i64 a0),d1,d2]≤1048576:=of_decide_eq_true hk;simp only[Rows.uptoBulkAll]at hk;have hx1:ScR H2 x1 os1:=gs1.keep (fun y cs h1 h2=>by rw[gf2.same y h1 (fun q=>q)];exact h2) gf2.next;have gT2:zkK H2:=(gT.frm gf1).frm gf2;obtain⟨HH,hr⟩:=runO a0 os1 ⟨go1,by omega⟩ (by omega) x1 x2 os2 H2 gT2 hx1 gs2 (by omega);exact⟨H2,HH,β2,[.int .i64 a0,x1,x2],gr2,gn2,(LRel.cons (.int _ _) (LRel.cons (VRel.mono gb2 gv1) (LRel.cons gv2 (LRel.nil _)))),hr⟩
theorem saidUpto:Rows.SimpOnceUptoSaid:=
 OpenClaim.holds_of_cond 10 Tryz.f10 rfl rfl rfl rfl rfl rfl rfl ⟨rfl,rfl,rfl,rfl,rfl⟩ rfl rfl rfl rfl rfl (by kernel_rfl) Tryz.func10 (by kernel_rfl)
  (of_decide_eq_true (by kernel_rfl)) (by unfold Func.isWrapper;first | (rw[if_pos (by decide +kernel)];kernel_rfl) | (rw[if_neg (by decide +kernel)];exact⟨rfl,rfl⟩))
  (fun os started H enc _ F=>by rw[OpenClaim.pre_eq_preRow];exact lifted os started H enc F)
theorem plain(f:FuncId)(fn:Func)(hf:Tryz.pinned.checked.prog.funcNamed "cadence/cadencelaw09.SimpOnce" = some f)(hfn:Tryz.pinned.checked.prog.funcs[f]?=some fn) :
  false=Tryz.pinned.checked.prog.looks []∧∀(j:Nat) t,fn.params[j]?=some t→Tryz.pinned.checked.prog.wantsStandIn t=false:=by
 obtain rfl:f=10:=Option.some.inj ((show Tryz.prog.funcNamed "cadence/cadencelaw09.SimpOnce" = some 10 by kernel_rfl).symm.trans hf) |>.symm;obtain rfl:fn=Tryz.f10:=(Option.some.inj (Tryz.func10.symm.trans hfn)).symm;refine⟨by kernel_rfl,fun j t ht=>?_⟩;rw[Tryz.params10]at ht;have:t=Aa∨t=AG∨t=A1:=by simpa using Array.mem_of_getElem? ht
 rcases this with rfl|rfl|rfl<;>first|exact(show Tryz.prog.wantsStandIn Aa=false by kernel_rfl)|exact(show Tryz.prog.wantsStandIn AG=false by kernel_rfl)|exact(show Tryz.prog.wantsStandIn A1=false by kernel_rfl)
theorem proved:Rows.SimpOnceUptoCardSaid:=
 Claim7.holds_tied_plain_at .later [] _ _ _ _ saidUpto (fun _ h=>by cases h) (by kernel_rfl) (fun _ h=>by cases h) simpOnceUpto_row_tie rfl ⟨rfl,rfl⟩ (by kernel_rfl) rfl plain (by kernel_rfl)
end Go.Proofs.YthcjfegfieoaiaaGreatDoor.simpOnce
#print axioms Go.Proofs.YthcjfegfieoaiaaGreatDoor.simpOnce.proved
