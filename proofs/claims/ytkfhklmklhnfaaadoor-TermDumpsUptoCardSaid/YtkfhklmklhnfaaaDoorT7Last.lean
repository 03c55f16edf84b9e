/- TermDumps: the text of any roots is the document's; where the arguments are of bulk at most 2 to the 20th; the package variables read as the program lays them. -/
import Derived.JoinedCond
import Derived.Test.YtkfhklmklhnfaaaDoorT6
set_option linter.unusedSimpArgs false
set_option linter.unusedVariables false
set_option linter.unusedSectionVars false
set_option linter.unusedVariables false
set_option linter.unusedSimpArgs false
set_option maxRecDepth 100000
namespace Go.Proofs.YtkfhklmklhnfaaaDoor.termDumps
open Go.AM Go.ChangeShapes Go.WideShapes Go.ChangeAt Go.RowKit
theorem own : ownKnob Tryd.prog.godebug = .none := by kernel_rfl
theorem follows : Tryd.prog.follows .mixedOrders = true := by kernel_rfl
theorem laid_met (os : Os) : laidMet Tryd.prog Rows.termDumpsUptoRow.laid ((laidWorld os).forCall (fun _ _ => 0) ⟨#[], #[.int .i64 0, .slice none 0 0, .slice none 0 0], []⟩).memory :=
  laidMet_of_run' 10 (by kernel_rfl) (by kernel_rfl)
theorem reads (os : Os) {H : Type} (enc : TypeId × Value → H) : ∃ x, DataW.whole enc Tryd.prog ((laidWorld os).forCall (fun _ _ => 0) ⟨#[], #[.int .i64 0, .slice none 0 0, .slice none 0 0], []⟩).memory Tryd.f3.params.toList Rows.termDumpsSpec.vars false (#[.int .i64 0, .slice none 0 0, .slice none 0 0] : Array Value).toList 8 = some x ∧ Rows.uptoSmall H (x.1 ++ x.2.1) = true :=
  ⟨([.lit (.int .i64 0), .nil, .nil], [], []), by kernel_rfl, by kernel_rfl⟩
theorem lifted (os : Os) (started : os.Started) (H : Type) (enc : TypeId × Value → H) (F : Stop.Interp) :
    ReturnsInHanded {} Tryd.checked os 3 .any ((Rows.OpenSpec.upto Rows.termDumpsSpec).preRow enc Tryd.prog Tryd.f3 Rows.termDumpsUptoRow.domain false Rows.termDumpsUptoRow.laid) (((Rows.OpenSpec.upto Rows.termDumpsSpec).at F).post enc Tryd.prog Tryd.f3 false true false false) := by
  obtain ⟨x, hx, hc⟩ := reads os enc
  refine returns_true_laid (C := Tryd.checked) (s := Rows.OpenSpec.upto Rows.termDumpsSpec) (k := Rows.uptoSmall) rfl own started (by kernel_rfl) Tryd.func3
    (witness_row_atRef (enc := enc) (C := Tryd.checked) false (laidWorld os) #[.int .i64 0, .slice none 0 0, .slice none 0 0] rfl (by kernel_rfl) (by kernel_rfl) (by kernel_rfl)
      (OpenSpec.preRow_of_cond 8 hx (by kernel_rfl) (fun k hk => by cases hk; exact hc) (by kernel_rfl) (laid_met os)))
    (by kernel_rfl) ?_ rfl rfl Tryd.underlying4 (.inr (Option.isSome_iff_exists.1 (by kernel_rfl))) ?_ (O := orc) (ext := E0) follows extE0 ?_ (hx := ?_) (hxf := rfl)
  · intro t ht
    have : t = 3 ∨ t = 22 ∨ t = 23 := by simpa [Tryd.params3] using ht
    rcases this with rfl | rfl | rfl <;> exact ⟨by kernel_rfl, of_decide_eq_true (by kernel_rfl)⟩
  · intro ds hd
    have hd : ds.length = 3 := hd
    match ds, hd with
    | [e0, e1, e2], _ => rfl
  · intro W base args ds ps hsz hval hA hk hL
    have hA' : DataW.TrodAll enc Tryd.prog W 0 (fun _ => true) true [3, 22, 23] args.toList ds ps := hA
    obtain ⟨v0, vs0, d0, ds0, p0, q0, hargs, rfl, rfl, h0, r0⟩ := trodAll_cons hA'
    obtain ⟨v1, vs1, d1, ds1, p1, q1, rfl, rfl, rfl, h1, r1⟩ := trodAll_cons r0
    obtain ⟨v2, vs2, d2, ds2, p2, q2, rfl, rfl, rfl, h2, r2⟩ := trodAll_cons r1
    obtain ⟨rfl, rfl, rfl⟩ := trodAll_nil r2
    obtain rfl : args = #[v0, v1, v2] := by cases args; simp_all
    obtain ⟨a0, rfl, rfl, rfl, w0⟩ := open_int Tryd.underlying3 (hval 0 3 v0 rfl rfl) h0
    obtain ⟨H0, gr0, gn0, gT, gN⟩ := Go.AM.start hsz hL
    obtain ⟨x1, H1, β1, os1, gr1, gn1, gb1, gv1, gs1, go1, gl1, gf1⟩ := script_arg gr0 gn0 (hval 1 22 v1 rfl rfl) h1
    obtain ⟨x2, H2, β2, os2, gr2, gn2, gb2, gv2, gs2, go2, gl2, gf2⟩ := ints_arg gr1 gn1 (hval 2 23 v2 rfl rfl) h2
    have hk : Rows.uptoBulkAll [DataW.lit (.int .i64 a0), d1, d2] ≤ 1048576 := of_decide_eq_true hk
    simp only [Rows.uptoBulkAll] at hk
    have hx1 : ScR H2 x1 os1 := gs1.keep (fun y cs h1 h2 => by rw [gf2.same y h1 (fun q => q)]; exact h2) gf2.next
    have gT1 : Tabs H1 := gT.old gN fun k hk => gf1.same k hk (fun q => q)
    have gN1 := Nat.le_trans gN gf1.next
    have gT2 : Tabs H2 := gT1.old gN1 fun k hk => gf2.same k hk (fun q => q)
    obtain ⟨HH, hr⟩ := run9 a0 os1 ⟨go1, by omega⟩ (by omega) x1 x2 os2 H2 gT2 (Nat.le_trans gN1 gf2.next) hx1 gs2 (by omega)
    exact ⟨H2, HH, β2, [.int .i64 a0, x1, x2], gr2, gn2, (LRel.cons (.int _ _) (LRel.cons (VRel.mono gb2 gv1) (LRel.cons gv2 (LRel.nil _)))), hr⟩
  · intro f e h; cases h
theorem saidUpto : Rows.TermDumpsUptoSaid :=
  OpenClaim.holds_of_cond 3 Tryd.f3 rfl rfl rfl rfl rfl rfl rfl ⟨rfl, rfl, rfl, rfl, rfl⟩ rfl rfl rfl rfl rfl (by kernel_rfl) Tryd.func3 (by kernel_rfl)
    (of_decide_eq_true (by kernel_rfl)) (by unfold Func.isWrapper; first | (rw [if_pos (by decide +kernel)]; kernel_rfl) | (rw [if_neg (by decide +kernel)]; exact ⟨rfl, rfl⟩))
    (fun os started H enc _ F => by rw [OpenClaim.pre_eq_preRow]; exact lifted os started H enc F)
theorem plain (f : FuncId) (fn : Func) (hf : Tryd.pinned.checked.prog.funcNamed "cadence/cadencelaw07.TermDumps" = some f) (hfn : Tryd.pinned.checked.prog.funcs[f]? = some fn) :
    false = Tryd.pinned.checked.prog.looks [] ∧ ∀ (j : Nat) t, fn.params[j]? = some t → Tryd.pinned.checked.prog.wantsStandIn t = false := by
  obtain rfl : f = 3 := Option.some.inj ((show Tryd.prog.funcNamed "cadence/cadencelaw07.TermDumps" = some 3 by kernel_rfl).symm.trans hf) |>.symm
  obtain rfl : fn = Tryd.f3 := (Option.some.inj (Tryd.func3.symm.trans hfn)).symm
  refine ⟨by kernel_rfl, fun j t ht => ?_⟩
  rw [Tryd.params3] at ht
  have : t = 3 ∨ t = 22 ∨ t = 23 := by simpa using Array.mem_of_getElem? ht
  rcases this with rfl | rfl | rfl <;> first | exact (show Tryd.prog.wantsStandIn 3 = false by kernel_rfl) | exact (show Tryd.prog.wantsStandIn 22 = false by kernel_rfl) | exact (show Tryd.prog.wantsStandIn 23 = false by kernel_rfl)
theorem proved : Rows.TermDumpsUptoCardSaid :=
  Claim7.holds_tied_plain_at .later [] _ _ _ _ saidUpto (fun _ h => by cases h) (by kernel_rfl) (fun _ h => by cases h) termDumpsUpto_row_tie rfl ⟨rfl, rfl⟩ (by kernel_rfl) rfl plain (by kernel_rfl)
end Go.Proofs.YtkfhklmklhnfaaaDoor.termDumps
#print axioms Go.Proofs.YtkfhklmklhnfaaaDoor.termDumps.proved
