/- TermLoads: what Load makes of any text, at any limit, is the document's: the store, the roots, or the line that is wrong and the error; where the arguments are of bulk at most 2 to the 20th; the package variables read as the program lays them. -/
import Derived.ChangeMaps5
import Derived.JoinedCond
import Derived.Test.YtkfhklmklhnfaaaGreatDoorT2
import Derived.Test.YtkfhklmklhnfaaaGreatDoorT5
set_option linter.unusedSimpArgs false
set_option linter.unusedVariables false
set_option linter.unusedSectionVars false
set_option maxRecDepth 100000
set_option linter.unusedVariables false
set_option linter.unusedSimpArgs false
set_option maxRecDepth 100000
namespace Go.Proofs.YtkfhklmklhnfaaaGreatDoor.termLoads
open Go.AM Go.ChangeShapes Go.WideShapes Go.ChangeAt Go.RowKit
theorem own : ownKnob Tryz.prog.godebug = .none := by kernel_rfl
theorem follows : Tryz.prog.follows .mixedOrders = true := by kernel_rfl
theorem calm : ExtO orc E0 := by
  intro f h
  rcases h with h | h
  · unfold E0 at h
    split at h
    · rename_i q; subst q; rfl
    · split at h
      · rename_i q; subst q; rfl
      · split at h
        · rename_i q; subst q; rfl
        · split at h
          · rename_i q; subst q; rfl
          · split at h
            · rename_i q; subst q; rfl
            · cases h
  · have h : (Go.AM.look none [(F.a25, some ziw), (F.a24, some ziC)] f).isSome = true := h
    unfold Go.AM.look at h
    split at h
    · rename_i q
      have : f = F.a25 := (Nat.eq_of_beq_eq_true q).symm
      subst this; rfl
    · unfold Go.AM.look at h
      split at h
      · rename_i q
        have : f = F.a24 := (Nat.eq_of_beq_eq_true q).symm
        subst this; rfl
      · cases h
theorem laid_met (os : Os) : laidMet Tryz.prog Rows.termLoadsUptoRow.laid ((zcv os).forCall (fun _ _ => 0) ⟨#[], #[.string ⟨#[]⟩, .int .i64 0], []⟩).memory :=
  laid_all os _
theorem reads (os : Os) {H : Type} (enc : TypeId × Value → H) : ∃ x, DataW.whole enc Tryz.prog ((zcv os).forCall (fun _ _ => 0) ⟨#[], #[.string ⟨#[]⟩, .int .i64 0], []⟩).memory Tryz.f3.params.toList Rows.termLoadsSpec.vars false (#[.string ⟨#[]⟩, .int .i64 0] : Array Value).toList 8 = some x ∧ Rows.uptoSmall H (x.1 ++ x.2.1) = true :=
  ⟨([.lit (.string []), .lit (.int .i64 0)], [], []), by kernel_rfl, by kernel_rfl⟩
theorem lifted (os : Os) (started : os.Started) (H : Type) (enc : TypeId × Value → H) (F : Stop.Interp) :
    ReturnsInHanded {} Tryz.checked os 3 .any ((Rows.OpenSpec.upto Rows.termLoadsSpec).preRow enc Tryz.prog Tryz.f3 Rows.termLoadsUptoRow.domain false Rows.termLoadsUptoRow.laid) (((Rows.OpenSpec.upto Rows.termLoadsSpec).at F).post enc Tryz.prog Tryz.f3 false true false false) := by
  obtain ⟨x, hx, hc⟩ := reads os enc
  refine zf8 (C := Tryz.checked) (s := Rows.OpenSpec.upto Rows.termLoadsSpec) (k := Rows.uptoSmall) rfl own started (by kernel_rfl) Tryz.func3
    (witness_row_atRef (enc := enc) (C := Tryz.checked) false (zcv os) #[.string ⟨#[]⟩, .int .i64 0] rfl (by kernel_rfl) (by kernel_rfl) (by kernel_rfl)
      (OpenSpec.preRow_of_cond 8 hx (by kernel_rfl) (fun k hk => by cases hk; exact hc) (by kernel_rfl) (laid_met os)))
    (by kernel_rfl) ?_ rfl rfl Tryz.underlying4 (.inr (Option.isSome_iff_exists.1 (by kernel_rfl))) ?_ (O := orc) (ext := E0) follows extE0 ?_ (hx := xt7) (hxf := rfl) (ho := calm) (hpf := rfl)
  · intro t ht
    have : t = T.string ∨ t = T.int := by simpa [Tryz.params3] using ht
    rcases this with rfl | rfl <;> exact ⟨by kernel_rfl, of_decide_eq_true (by kernel_rfl)⟩
  · intro ds hd
    have hd : ds.length = 2 := hd
    match ds, hd with
    | [e0, e1], _ => rfl
  · intro W base args ds ps hsz hval hA hk hL
    have hA' : DataW.TrodAll enc Tryz.prog W 0 (fun _ => true) true [T.string, T.int] args.toList ds ps := hA
    obtain ⟨v0, vs0, d0, ds0, p0, q0, hargs, rfl, rfl, h0, r0⟩ := trodAll_cons hA'
    obtain ⟨v1, vs1, d1, ds1, p1, q1, rfl, rfl, rfl, h1, r1⟩ := trodAll_cons r0
    obtain ⟨rfl, rfl, rfl⟩ := trodAll_nil r1
    obtain rfl : args = #[v0, v1] := by cases args; simp_all
    obtain ⟨s, rfl, rfl, rfl, hs⟩ := Go.ChangeMaps.open_string Go.Proofs.Tryz.underlying9 (hval 0 T.string v0 rfl rfl) h0
    obtain ⟨a1, rfl, rfl, rfl, w1⟩ := open_int Go.Proofs.Tryz.underlying3 (hval 1 T.int v1 rfl rfl) h1
    obtain ⟨H0, gr0, gn0, gT⟩ := Go.AM.start hsz hL
    have hk : Rows.uptoBulkAll [DataW.lit (.string s.data.toList), DataW.lit (.int .i64 a1)] ≤ 1048576 := of_decide_eq_true hk
    simp only [Rows.uptoBulkAll, Rows.uptoBulk] at hk
    obtain ⟨HH, hr⟩ := run7 s.data.toList (by omega) a1 H0 gT
    have hst : str s.data.toList = Value.string s := by
      show Value.string (ba s.data.toList) = _
      rw [← zlJ (s := s) rfl]
    rw [hst] at hr
    exact ⟨H0, HH, B00 Tryz.prog, [.string s, .int .i64 a1], gr0, gn0, (LRel.cons (.string _) (LRel.cons (.int _ _) (LRel.nil _))), hr⟩
theorem saidUpto : Rows.TermLoadsUptoSaid :=
  OpenClaim.holds_of_cond 3 Tryz.f3 rfl rfl rfl rfl rfl rfl rfl ⟨rfl, rfl, rfl, rfl, rfl⟩ rfl rfl rfl rfl rfl (by kernel_rfl) Tryz.func3 (by kernel_rfl)
    (of_decide_eq_true (by kernel_rfl)) (by unfold Func.isWrapper; first | (rw [if_pos (by decide +kernel)]; kernel_rfl) | (rw [if_neg (by decide +kernel)]; exact ⟨rfl, rfl⟩))
    (fun os started H enc _ F => by rw [OpenClaim.pre_eq_preRow]; exact lifted os started H enc F)
theorem plain (f : FuncId) (fn : Func) (hf : Tryz.pinned.checked.prog.funcNamed "cadence/cadencelaw07.TermLoads" = some f) (hfn : Tryz.pinned.checked.prog.funcs[f]? = some fn) :
    true = Tryz.pinned.checked.prog.looks [] ∧ ∀ (j : Nat) t, fn.params[j]? = some t → Tryz.pinned.checked.prog.wantsStandIn t = false := by
  obtain rfl : f = 3 := Option.some.inj ((show Tryz.prog.funcNamed "cadence/cadencelaw07.TermLoads" = some 3 by kernel_rfl).symm.trans hf) |>.symm
  obtain rfl : fn = Tryz.f3 := (Option.some.inj (Tryz.func3.symm.trans hfn)).symm
  refine ⟨by kernel_rfl, fun j t ht => ?_⟩
  rw [Tryz.params3] at ht
  have : t = 9 ∨ t = 3 := by simpa using Array.mem_of_getElem? ht
  rcases this with rfl | rfl <;> first | exact (show Tryz.prog.wantsStandIn 9 = false by kernel_rfl) | exact (show Tryz.prog.wantsStandIn 3 = false by kernel_rfl)
theorem proved : Rows.TermLoadsUptoCardSaid :=
  Claim7.holds_tied_plain_at .later [] _ _ _ _ saidUpto (fun _ h => by cases h) (by kernel_rfl) (fun _ h => by cases h) termLoadsUpto_row_tie rfl ⟨rfl, rfl⟩ (by kernel_rfl) rfl plain (by kernel_rfl)
end Go.Proofs.YtkfhklmklhnfaaaGreatDoor.termLoads
#print axioms Go.Proofs.YtkfhklmklhnfaaaGreatDoor.termLoads.proved
