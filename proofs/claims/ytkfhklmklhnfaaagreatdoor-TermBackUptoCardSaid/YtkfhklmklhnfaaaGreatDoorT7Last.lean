/- TermBack: what any roots lead to is told as a text that loads: its Dump is the text; a store with just as many terms is enough, one with fewer is not; where the arguments are of bulk at most 2 to the 20th; the package variables read as the program lays them. -/
import Derived.ChangeMaps5
import Derived.JoinedCond
import Derived.Test.YtkfhklmklhnfaaaGreatDoorT2
import Derived.Test.YtkfhklmklhnfaaaGreatDoorT5
import Derived.Test.YtkfhklmklhnfaaaGreatDoorT6
set_option linter.unusedSimpArgs false
set_option linter.unusedVariables false
set_option linter.unusedSectionVars false
set_option maxRecDepth 100000
set_option linter.unusedVariables false
set_option linter.unusedSimpArgs false
set_option maxRecDepth 100000
namespace Go.Proofs.YtkfhklmklhnfaaaGreatDoor.termBack
open Go.AM Go.ChangeShapes Go.WideShapes Go.ChangeAt Go.RowKit
theorem own : ownKnob Tryz.prog.godebug = .none := by kernel_rfl
theorem follows : Tryz.prog.follows .mixedOrders = true := by kernel_rfl
theorem calm : ExtO orc E0 := by
  intro f h
  rcases h with h | h
  · unfold E0 at h
    split at h
    · rename_i q; subst q; rfl
    · split at h
      · rename_i q; subst q; rfl
      · split at h
        · rename_i q; subst q; rfl
        · split at h
          · rename_i q; subst q; rfl
          · split at h
            · rename_i q; subst q; rfl
            · cases h
  · have h : (Go.AM.look none [(F.a20, some zjK), (F.a19, some zjQ)] f).isSome = true := h
    unfold Go.AM.look at h
    split at h
    · rename_i q
      have : f = F.a20 := (Nat.eq_of_beq_eq_true q).symm
      subst this; rfl
    · unfold Go.AM.look at h
      split at h
      · rename_i q
        have : f = F.a19 := (Nat.eq_of_beq_eq_true q).symm
        subst this; rfl
      · cases h
theorem laid_met (os : Os) : laidMet Tryz.prog Rows.termBackUptoRow.laid ((zcN os).forCall (fun _ _ => 0) ⟨#[], #[.int .i64 0, .slice none 0 0, .slice none 0 0], []⟩).memory :=
  laid_all os _
theorem reads (os : Os) {H : Type} (enc : TypeId × Value → H) : ∃ x, DataW.whole enc Tryz.prog ((zcN os).forCall (fun _ _ => 0) ⟨#[], #[.int .i64 0, .slice none 0 0, .slice none 0 0], []⟩).memory Tryz.f4.params.toList Rows.termBackSpec.vars false (#[.int .i64 0, .slice none 0 0, .slice none 0 0] : Array Value).toList 8 = some x ∧ Rows.uptoSmall H (x.1 ++ x.2.1) = true :=
  ⟨([.lit (.int .i64 0), .nil, .nil], [], []), by kernel_rfl, by kernel_rfl⟩
theorem lifted (os : Os) (started : os.Started) (H : Type) (enc : TypeId × Value → H) (F : Stop.Interp) :
    ReturnsInHanded {} Tryz.checked os 4 .any ((Rows.OpenSpec.upto Rows.termBackSpec).preRow enc Tryz.prog Tryz.f4 Rows.termBackUptoRow.domain false Rows.termBackUptoRow.laid) (((Rows.OpenSpec.upto Rows.termBackSpec).at F).post enc Tryz.prog Tryz.f4 false true false false) := by
  obtain ⟨x, hx, hc⟩ := reads os enc
  refine zgK (C := Tryz.checked) (s := Rows.OpenSpec.upto Rows.termBackSpec) (k := Rows.uptoSmall) rfl own started (by kernel_rfl) Tryz.func4
    (witness_row_atRef (enc := enc) (C := Tryz.checked) false (zcN os) #[.int .i64 0, .slice none 0 0, .slice none 0 0] rfl (by kernel_rfl) (by kernel_rfl) (by kernel_rfl)
      (OpenSpec.preRow_of_cond 8 hx (by kernel_rfl) (fun k hk => by cases hk; exact hc) (by kernel_rfl) (laid_met os)))
    (by kernel_rfl) ?_ rfl rfl Tryz.underlying4 (.inr (Option.isSome_iff_exists.1 (by kernel_rfl))) ?_ (O := orc) (ext := E0) follows extE0 ?_ (hx := xt7) (hxf := rfl) (ho := calm) (hpf := rfl)
  · intro t ht
    have : t = T.int ∨ t = T.sl_cadencelaw07_Op ∨ t = T.sl_int := by simpa [Tryz.params4] using ht
    rcases this with rfl | rfl | rfl <;> exact ⟨by kernel_rfl, of_decide_eq_true (by kernel_rfl)⟩
  · intro ds hd
    have hd : ds.length = 3 := hd
    match ds, hd with
    | [e0, e1, e2], _ => rfl
  · intro W base args ds ps hsz hval hA hk hL
    have hA' : DataW.TrodAll enc Tryz.prog W 0 (fun _ => true) true [T.int, T.sl_cadencelaw07_Op, T.sl_int] args.toList ds ps := hA
    obtain ⟨v0, vs0, d0, ds0, p0, q0, hargs, rfl, rfl, h0, r0⟩ := trodAll_cons hA'
    obtain ⟨v1, vs1, d1, ds1, p1, q1, rfl, rfl, rfl, h1, r1⟩ := trodAll_cons r0
    obtain ⟨v2, vs2, d2, ds2, p2, q2, rfl, rfl, rfl, h2, r2⟩ := trodAll_cons r1
    obtain ⟨rfl, rfl, rfl⟩ := trodAll_nil r2
    obtain rfl : args = #[v0, v1, v2] := by cases args; simp_all
    obtain ⟨a0, rfl, rfl, rfl, w0⟩ := open_int Go.Proofs.Tryz.underlying3 (hval 0 T.int v0 rfl rfl) h0
    obtain ⟨H0, gr0, gn0, gT⟩ := Go.AM.start hsz hL
    obtain ⟨x1, H1, β1, os1, gr1, gn1, gb1, gv1, gs1, go1, gl1, gf1⟩ := zof gr0 gn0 (hval 1 T.sl_cadencelaw07_Op v1 rfl rfl) h1
    obtain ⟨x2, H2, β2, os2, gr2, gn2, gb2, gv2, gs2, go2, gl2, gf2⟩ := ints_arg gr1 gn1 (hval 2 T.sl_int v2 rfl rfl) h2
    have hk : Rows.uptoBulkAll [DataW.lit (.int .i64 a0), d1, d2] ≤ 1048576 := of_decide_eq_true hk
    simp only [Rows.uptoBulkAll] at hk
    have hx1 : ScR H2 x1 os1 := gs1.keep (fun y cs h1 h2 => by rw [gf2.same y h1 (fun q => q)]; exact h2) gf2.next
    have gT1 : Laid H1 := gT.keep gf1 fun j q => q.elim
    have gT2 : Laid H2 := gT1.keep gf2 fun j q => q.elim
    obtain ⟨HH, hr⟩ := runB a0 os1 ⟨go1, by omega⟩ (by omega) x1 x2 os2 H2 gT2 hx1 gs2 (by omega)
    exact ⟨H2, HH, β2, [.int .i64 a0, x1, x2], gr2, gn2, (LRel.cons (.int _ _) (LRel.cons (VRel.mono gb2 gv1) (LRel.cons gv2 (LRel.nil _)))), hr⟩
theorem saidUpto : Rows.TermBackUptoSaid :=
  OpenClaim.holds_of_cond 4 Tryz.f4 rfl rfl rfl rfl rfl rfl rfl ⟨rfl, rfl, rfl, rfl, rfl⟩ rfl rfl rfl rfl rfl (by kernel_rfl) Tryz.func4 (by kernel_rfl)
    (of_decide_eq_true (by kernel_rfl)) (by unfold Func.isWrapper; first | (rw [if_pos (by decide +kernel)]; kernel_rfl) | (rw [if_neg (by decide +kernel)]; exact ⟨rfl, rfl⟩))
    (fun os started H enc _ F => by rw [OpenClaim.pre_eq_preRow]; exact lifted os started H enc F)
theorem plain (f : FuncId) (fn : Func) (hf : Tryz.pinned.checked.prog.funcNamed "cadence/cadencelaw07.TermBack" = some f) (hfn : Tryz.pinned.checked.prog.funcs[f]? = some fn) :
    true = Tryz.pinned.checked.prog.looks [] ∧ ∀ (j : Nat) t, fn.params[j]? = some t → Tryz.pinned.checked.prog.wantsStandIn t = false := by
  obtain rfl : f = 4 := Option.some.inj ((show Tryz.prog.funcNamed "cadence/cadencelaw07.TermBack" = some 4 by kernel_rfl).symm.trans hf) |>.symm
  obtain rfl : fn = Tryz.f4 := (Option.some.inj (Tryz.func4.symm.trans hfn)).symm
  refine ⟨by kernel_rfl, fun j t ht => ?_⟩
  rw [Tryz.params4] at ht
  have : t = T.int ∨ t = T.sl_cadencelaw07_Op ∨ t = T.sl_int := by simpa using Array.mem_of_getElem? ht
  rcases this with rfl | rfl | rfl <;> first | exact (show Tryz.prog.wantsStandIn T.int = false by kernel_rfl) | exact (show Tryz.prog.wantsStandIn T.sl_cadencelaw07_Op = false by kernel_rfl) | exact (show Tryz.prog.wantsStandIn T.sl_int = false by kernel_rfl)
theorem proved : Rows.TermBackUptoCardSaid :=
  Claim7.holds_tied_plain_at .later [] _ _ _ _ saidUpto (fun _ h => by cases h) (by kernel_rfl) (fun _ h => by cases h) termBackUpto_row_tie rfl ⟨rfl, rfl⟩ (by kernel_rfl) rfl plain (by kernel_rfl)
end Go.Proofs.YtkfhklmklhnfaaaGreatDoor.termBack
#print axioms Go.Proofs.YtkfhklmklhnfaaaGreatDoor.termBack.proved
