/- KnownApplies: Apply of any node and any facts is the document's; where the arguments are of bulk at most 2 to the 20th; the given table read as the program lays it. -/
import Derived.JoinedCond
import Derived.Test.YtloofbfkaombbaaGreatDoorT0
import Derived.Test.YtloofbfkaombbaaGreatDoorT6
set_option linter.unusedSimpArgs false
set_option linter.unusedVariables false
set_option linter.unusedSectionVars false
set_option maxRecDepth 100000
set_option linter.unusedVariables false
set_option linter.unusedSimpArgs false
set_option maxRecDepth 100000
namespace Go.Proofs.YtloofbfkaombbaaGreatDoor.knownApplies
open Go.AM Go.AM.N14 Go.ChangeShapes Go.WideShapes Go.ChangeAt Go.RowKit
abbrev nv : Value := .agg #[.int .i64 0, .int .i64 0, .int .i64 0, .int .i64 0, .int .i64 0, .int .u64 0, .string ByteArray.empty]
abbrev fv : Value := .agg #[.int .i64 0, .int .u64 0, .int .u64 0, .int .u64 0, .int .u64 0]
theorem own : ownKnob PP.godebug = .none := by kernel_rfl
theorem follows : PP.follows .mixedOrders = true := by kernel_rfl
theorem laid_met (os : Os) : laidMet PP Rows.knownAppliesUptoRow.laid ((zjN os).forCall (fun _ _ => 0) ⟨#[], #[nv, fv, fv, fv], []⟩).memory :=
  laidMet_of_run' 10 (by kernel_rfl) (by kernel_rfl)
theorem reads (os : Os) {H : Type} (enc : TypeId × Value → H) : ∃ x, DataW.whole enc PP ((zjN os).forCall (fun _ _ => 0) ⟨#[], #[nv, fv, fv, fv], []⟩).memory Tryz.f3.params.toList Rows.knownAppliesSpec.vars false (#[nv, fv, fv, fv] : Array Value).toList 8 = some x ∧ Rows.uptoSmall H (x.1 ++ x.2.1) = true :=
  ⟨([.agg [.lit (.int .i64 0), .lit (.int .i64 0), .lit (.int .i64 0), .lit (.int .i64 0), .lit (.int .i64 0), .lit (.int .u64 0), .lit (.string [])], .agg [.lit (.int .i64 0), .lit (.int .u64 0), .lit (.int .u64 0), .lit (.int .u64 0), .lit (.int .u64 0)], .agg [.lit (.int .i64 0), .lit (.int .u64 0), .lit (.int .u64 0), .lit (.int .u64 0), .lit (.int .u64 0)], .agg [.lit (.int .i64 0), .lit (.int .u64 0), .lit (.int .u64 0), .lit (.int .u64 0), .lit (.int .u64 0)]], [], []), by kernel_rfl, by kernel_rfl⟩
theorem lifted (os : Os) (started : os.Started) (H : Type) (enc : TypeId × Value → H) (F : Stop.Interp) :
    ReturnsInHanded {} Tryz.checked os 3 .any ((Rows.OpenSpec.upto Rows.knownAppliesSpec).preRow enc Tryz.prog Tryz.f3 Rows.knownAppliesUptoRow.domain false Rows.knownAppliesUptoRow.laid) (((Rows.OpenSpec.upto Rows.knownAppliesSpec).at F).post enc Tryz.prog Tryz.f3 false true false false) := by
  obtain ⟨x, hx, hc⟩ := reads os enc
  refine zhO (C := Tryz.checked) (s := Rows.OpenSpec.upto Rows.knownAppliesSpec) (k := Rows.uptoSmall) rfl own started (by kernel_rfl) Tryz.func3
    (witness_row_at (enc := enc) (C := Tryz.checked) false (zjN os) #[nv, fv, fv, fv] rfl (by kernel_rfl) (by kernel_rfl) (by kernel_rfl)
      (OpenSpec.preRow_of_cond 8 hx (by kernel_rfl) (fun k hk => by cases hk; exact hc) (by kernel_rfl) (laid_met os)))
    (by kernel_rfl) ?_ rfl rfl Tryz.underlying4 (.inr (Option.isSome_iff_exists.1 (by kernel_rfl))) ?_ (O := orc) (ext := E0) follows extE0 ?_ (hx := xt14) (hxf := rfl)
  · intro t ht
    have : t = T.api_Node ∨ t = T.api_Fact ∨ t = T.api_Fact ∨ t = T.api_Fact := by simpa [Tryz.params3] using ht
    rcases this with rfl | rfl | rfl | rfl <;> exact ⟨by kernel_rfl, of_decide_eq_true (by kernel_rfl)⟩
  · intro ds hd
    have hd : ds.length = 4 := hd
    match ds, hd with
    | [e0, e1, e2, e3], _ => rfl
  · intro W base args ds ps hsz hval hA hk hL
    have hA' : DataW.TrodAll enc Tryz.prog W 0 (fun _ => true) true [T.api_Node, T.api_Fact, T.api_Fact, T.api_Fact] args.toList ds ps := hA
    obtain ⟨v0, vs0, d0, ds0, p0, q0, hargs, rfl, rfl, h0, r0⟩ := trodAll_cons hA'
    obtain ⟨v1, vs1, d1, ds1, p1, q1, rfl, rfl, rfl, h1, r1⟩ := trodAll_cons r0
    obtain ⟨v2, vs2, d2, ds2, p2, q2, rfl, rfl, rfl, h2, r2⟩ := trodAll_cons r1
    obtain ⟨v3, vs3, d3, ds3, p3, q3, rfl, rfl, rfl, h3, r3⟩ := trodAll_cons r2
    obtain ⟨rfl, rfl, rfl⟩ := trodAll_nil r3
    obtain rfl : args = #[v0, v1, v2, v3] := by cases args; simp_all
    obtain ⟨n, rfl, n1, n2⟩ := node_arg (hval 0 T.api_Node v0 rfl rfl) h0
    obtain ⟨a1, rfl⟩ := zlV (hval 1 T.api_Fact v1 rfl rfl) h1
    obtain ⟨a2, rfl⟩ := zlV (hval 2 T.api_Fact v2 rfl rfl) h2
    obtain ⟨a3, rfl⟩ := zlV (hval 3 T.api_Fact v3 rfl rfl) h3
    obtain ⟨H0, gr0, gn0, gT⟩ := start14 hsz hL
    obtain ⟨HH, hr⟩ := runA ⟨n1, n2⟩ a1 a2 a3 H0 gT
    exact ⟨H0, HH, B00 PP, [n.val, a1.val, a2.val, a3.val], gr0, gn0, (LRel.cons (nd_rel n _) (LRel.cons (zn6 a1 _) (LRel.cons (zn6 a2 _) (LRel.cons (zn6 a3 _) (LRel.nil _))))), hr⟩
theorem saidUpto : Rows.KnownAppliesUptoSaid :=
  OpenClaim.holds_of_cond 3 Tryz.f3 rfl rfl rfl rfl rfl rfl rfl ⟨rfl, rfl, rfl, rfl, rfl⟩ rfl rfl rfl rfl rfl (by kernel_rfl) Tryz.func3 (by kernel_rfl)
    (of_decide_eq_true (by kernel_rfl)) (by unfold Func.isWrapper; first | (rw [if_pos (by decide +kernel)]; kernel_rfl) | (rw [if_neg (by decide +kernel)]; exact ⟨rfl, rfl⟩))
    (fun os started H enc _ F => by rw [OpenClaim.pre_eq_preRow]; exact lifted os started H enc F)
theorem plain (f : FuncId) (fn : Func) (hf : Tryz.pinned.checked.prog.funcNamed "cadence/cadencelaw14.KnownApplies" = some f) (hfn : Tryz.pinned.checked.prog.funcs[f]? = some fn) :
    false = Tryz.pinned.checked.prog.looks [] ∧ ∀ (j : Nat) t, fn.params[j]? = some t → Tryz.pinned.checked.prog.wantsStandIn t = false := by
  obtain rfl : f = 3 := Option.some.inj ((show Tryz.prog.funcNamed "cadence/cadencelaw14.KnownApplies" = some 3 by kernel_rfl).symm.trans hf) |>.symm
  obtain rfl : fn = Tryz.f3 := (Option.some.inj (Tryz.func3.symm.trans hfn)).symm
  refine ⟨by kernel_rfl, fun j t ht => ?_⟩
  rw [Tryz.params3] at ht
  have : t = 24 ∨ t = 26 ∨ t = 26 ∨ t = 26 := by simpa using Array.mem_of_getElem? ht
  rcases this with rfl | rfl | rfl | rfl <;> first | exact (show Tryz.prog.wantsStandIn 24 = false by kernel_rfl) | exact (show Tryz.prog.wantsStandIn 26 = false by kernel_rfl)
theorem proved : Rows.KnownAppliesUptoCardSaid :=
  Claim7.holds_tied_plain_at .later [] _ _ _ _ saidUpto (fun _ h => by cases h) (by kernel_rfl) (fun _ h => by cases h) knownAppliesUpto_row_tie rfl ⟨rfl, rfl⟩ (by kernel_rfl) rfl plain (by kernel_rfl)
end Go.Proofs.YtloofbfkaombbaaGreatDoor.knownApplies
#print axioms Go.Proofs.YtloofbfkaombbaaGreatDoor.knownApplies.proved
