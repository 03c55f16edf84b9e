/- EvalSizes: of a term that is used twice by the next one, so many times over, the number of terms, the size of the tree (no more than the greatest number) and the depth, for any number of times; where the argument is of bulk at most 2 to the 20th; the package variables read as the program lays them. -/
import Derived.ChangeMaps5
import Derived.JoinedCond
import Derived.Test.YtcbmccpkhagckaaGreatDoorT2
import Derived.Test.YtcbmccpkhagckaaGreatDoorT4
import Derived.Test.YtcbmccpkhagckaaGreatDoorT5
set_option linter.unusedSimpArgs false
set_option linter.unusedVariables false
set_option linter.unusedSectionVars false
set_option maxRecDepth 100000
set_option linter.unusedVariables false
set_option linter.unusedSimpArgs false
set_option maxRecDepth 100000
namespace Go.Proofs.YtcbmccpkhagckaaGreatDoor.evalSizes
open Go.AM Go.AM.N14 Go.ChangeShapes Go.WideShapes Go.ChangeAt Go.RowKit
theorem own : ownKnob Tryz.prog.godebug = .none := by kernel_rfl
theorem follows : Tryz.prog.follows .mixedOrders = true := by kernel_rfl
theorem calm : ExtO orc E0 := by
  intro f h
  rcases h with h | h
  · unfold E0 at h
    split at h
    · rename_i q; subst q; rfl
    · split at h
      · rename_i q; subst q; rfl
      · split at h
        · rename_i q; subst q; rfl
        · split at h
          · rename_i q; subst q; rfl
          · split at h
            · rename_i q; subst q; rfl
            · cases h
  · have h : (Go.AM.look none [(F.a22, some ziV), (F.a21, some zi2)] f).isSome = true := h
    unfold Go.AM.look at h
    split at h
    · rename_i q
      have : f = F.a22 := (Nat.eq_of_beq_eq_true q).symm
      subst this; rfl
    · unfold Go.AM.look at h
      split at h
      · rename_i q
        have : f = F.a21 := (Nat.eq_of_beq_eq_true q).symm
        subst this; rfl
      · cases h
theorem laid_met (os : Os) : laidMet Tryz.prog Rows.evalSizesUptoRow.laid ((zct os).forCall (fun _ _ => 0) ⟨#[], #[.int .i64 0], []⟩).memory :=
  laid_all os _
theorem reads (os : Os) {H : Type} (enc : TypeId × Value → H) : ∃ x, DataW.whole enc Tryz.prog ((zct os).forCall (fun _ _ => 0) ⟨#[], #[.int .i64 0], []⟩).memory Tryz.f6.params.toList Rows.evalSizesSpec.vars false (#[.int .i64 0] : Array Value).toList 8 = some x ∧ Rows.uptoSmall H (x.1 ++ x.2.1) = true :=
  ⟨([.lit (.int .i64 0)], [], []), by kernel_rfl, by kernel_rfl⟩
theorem lifted (os : Os) (started : os.Started) (H : Type) (enc : TypeId × Value → H) (F : Stop.Interp) :
    ReturnsInHanded {} Tryz.checked os 6 .any ((Rows.OpenSpec.upto Rows.evalSizesSpec).preRow enc Tryz.prog Tryz.f6 Rows.evalSizesUptoRow.domain false Rows.evalSizesUptoRow.laid) (((Rows.OpenSpec.upto Rows.evalSizesSpec).at F).post enc Tryz.prog Tryz.f6 false true false false) := by
  obtain ⟨x, hx, hc⟩ := reads os enc
  refine zfP (C := Tryz.checked) (s := Rows.OpenSpec.upto Rows.evalSizesSpec) (k := Rows.uptoSmall) rfl own started (by kernel_rfl) Tryz.func6
    (witness_row_atRef (enc := enc) (C := Tryz.checked) false (zct os) #[.int .i64 0] rfl (by kernel_rfl) (by kernel_rfl) (by kernel_rfl)
      (OpenSpec.preRow_of_cond 8 hx (by kernel_rfl) (fun k hk => by cases hk; exact hc) (by kernel_rfl) (laid_met os)))
    (by kernel_rfl) ?_ rfl rfl Go.Proofs.Tryz.underlying4 (.inr (Option.isSome_iff_exists.1 (by kernel_rfl))) ?_ (O := orc) (ext := E0) follows extE0 ?_ (hx := xt7) (hxf := rfl) (ho := calm) (hpf := rfl)
  · intro t ht
    have : t = T.int := by simpa [Tryz.params6] using ht
    rcases this with rfl <;> exact ⟨by kernel_rfl, of_decide_eq_true (by kernel_rfl)⟩
  · intro ds hd
    have hd : ds.length = 1 := hd
    match ds, hd with
    | [e0], _ => rfl
  · intro W base args ds ps hsz hval hA hk hL
    have hA' : DataW.TrodAll enc Tryz.prog W 0 (fun _ => true) true [T.int] args.toList ds ps := hA
    obtain ⟨v0, vs0, d0, ds0, p0, q0, hargs, rfl, rfl, h0, r0⟩ := trodAll_cons hA'
    obtain ⟨rfl, rfl, rfl⟩ := trodAll_nil r0
    obtain rfl : args = #[v0] := by cases args; simp_all
    obtain ⟨H00, gr00, gn00, gT⟩ := Go.AM.start hsz hL
    obtain ⟨a0, rfl, rfl, rfl, w0⟩ := open_int Go.Proofs.Tryz.underlying3 (hval 0 T.int v0 rfl rfl) h0
    have hk : Rows.uptoBulkAll [DataW.lit (.int .i64 a0)] ≤ 1048576 := of_decide_eq_true hk
    simp only [Rows.uptoBulkAll] at hk
    obtain ⟨HH, hr⟩ := run8s (n := a0) gT
    exact ⟨H00, HH, (B00 Tryz.prog), [.int .i64 a0], gr00, gn00, (LRel.cons (.int _ _) (LRel.nil _)), hr⟩
theorem saidUpto : Rows.EvalSizesUptoSaid :=
  OpenClaim.holds_of_cond 6 Tryz.f6 rfl rfl rfl rfl rfl rfl rfl ⟨rfl, rfl, rfl, rfl, rfl⟩ rfl rfl rfl rfl rfl (by kernel_rfl) Tryz.func6 (by kernel_rfl)
    (of_decide_eq_true (by kernel_rfl)) (by unfold Func.isWrapper; first | (rw [if_pos (by decide +kernel)]; kernel_rfl) | (rw [if_neg (by decide +kernel)]; exact ⟨rfl, rfl⟩))
    (fun os started H enc _ F => by rw [OpenClaim.pre_eq_preRow]; exact lifted os started H enc F)
theorem plain (f : FuncId) (fn : Func) (hf : Tryz.pinned.checked.prog.funcNamed "cadence/cadencelaw08.EvalSizes" = some f) (hfn : Tryz.pinned.checked.prog.funcs[f]? = some fn) :
    true = Tryz.pinned.checked.prog.looks [] ∧ ∀ (j : Nat) t, fn.params[j]? = some t → Tryz.pinned.checked.prog.wantsStandIn t = false := by
  obtain rfl : f = 6 := Option.some.inj ((show Tryz.prog.funcNamed "cadence/cadencelaw08.EvalSizes" = some 6 by kernel_rfl).symm.trans hf) |>.symm
  obtain rfl : fn = Tryz.f6 := (Option.some.inj (Tryz.func6.symm.trans hfn)).symm
  refine ⟨by kernel_rfl, fun j t ht => ?_⟩
  rw [Tryz.params6] at ht
  have : t = 3 := by simpa using Array.mem_of_getElem? ht
  rcases this with rfl <;> first | exact (show Tryz.prog.wantsStandIn 3 = false by kernel_rfl)
theorem proved : Rows.EvalSizesUptoCardSaid :=
  Claim7.holds_tied_plain_at .later [] _ _ _ _ saidUpto (fun _ h => by cases h) (by kernel_rfl) (fun _ h => by cases h) evalSizesUpto_row_tie rfl ⟨rfl, rfl⟩ (by kernel_rfl) rfl plain (by kernel_rfl)
end Go.Proofs.YtcbmccpkhagckaaGreatDoor.evalSizes
#print axioms Go.Proofs.YtcbmccpkhagckaaGreatDoor.evalSizes.proved
