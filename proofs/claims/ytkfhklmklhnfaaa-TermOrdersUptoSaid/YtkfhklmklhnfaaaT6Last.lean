/- TermOrders: what any roots lead to is the document's list; the lists are their callers'. Where the arguments are of bulk at most 2 to the 20th. -/
import Derived.JoinedCond
import Derived.Test.YtkfhklmklhnfaaaT5
set_option linter.unusedSimpArgs false
set_option linter.unusedVariables false
set_option linter.unusedSectionVars false
set_option linter.unusedVariables false
set_option linter.unusedSimpArgs false
namespace Go.Proofs.Ytkfhklmklhnfaaa.termOrders
open Go.AM Go.ChangeShapes Go.WideShapes Go.ChangeAt Go.RowKit
theorem own : ownKnob Try.prog.godebug = .none := by kernel_rfl
theorem follows : Try.prog.follows .mixedOrders = true := by kernel_rfl
set_option maxRecDepth 100000 in
theorem lifted (os : Os) (started : os.Started) (H : Type) (enc : TypeId × Value → H) (F : Stop.Interp) :
    ReturnsInHanded {} Try.checked os 6 .any ((Rows.OpenSpec.upto Rows.termOrdersSpec).pre6 enc Try.prog Try.f6 Rows.termOrdersUptoRow.domain false) (((Rows.OpenSpec.upto Rows.termOrdersSpec).at F).post enc Try.prog Try.f6 false true false false) := by
  refine returns_true (C := Try.checked) (s := Rows.OpenSpec.upto Rows.termOrdersSpec) (k := Rows.uptoSmall) rfl own started (by kernel_rfl) Try.func6
    (OpenSpec.witness (enc := enc) (C := Try.checked) (s := Rows.OpenSpec.upto Rows.termOrdersSpec) (k := Rows.uptoSmall) rfl false ⟨#[], #[.int .i64 0, .slice none 0 0, .slice none 0 0], []⟩ 8 (by kernel_rfl) (by kernel_rfl) (by kernel_rfl)
      (x := ([.lit (.int .i64 0), .nil, .nil], [], [])) (by kernel_rfl) rfl (by kernel_rfl))
    (by kernel_rfl) ?_ rfl rfl Try.underlying4 (.inl (by kernel_rfl)) ?_ (O := orc) (ext := E0) follows (fun f e h => by cases h) ?_
  · intro t ht
    have : t = 3 ∨ t = 22 ∨ t = 47 := by simpa [Try.params6] using ht
    rcases this with rfl | rfl | rfl <;> exact ⟨by kernel_rfl, of_decide_eq_true (by kernel_rfl)⟩
  · intro ds hd
    have hd : ds.length = 3 := hd
    match ds, hd with
    | [e0, e1, e2], _ => rfl
  · intro W base args ds ps hsz hval hA hk
    have hA' : DataW.TrodAll enc Try.prog W 0 (fun _ => true) true [3, 22, 47] args.toList ds ps := hA
    obtain ⟨v0, vs0, d0, ds0, p0, q0, hargs, rfl, rfl, h0, r0⟩ := trodAll_cons hA'
    obtain ⟨v1, vs1, d1, ds1, p1, q1, rfl, rfl, rfl, h1, r1⟩ := trodAll_cons r0
    obtain ⟨v2, vs2, d2, ds2, p2, q2, rfl, rfl, rfl, h2, r2⟩ := trodAll_cons r1
    obtain ⟨rfl, rfl, rfl⟩ := trodAll_nil r2
    obtain rfl : args = #[v0, v1, v2] := by cases args; simp_all
    obtain ⟨a0, rfl, rfl, rfl, w0⟩ := open_int Try.underlying3 (hval 0 3 v0 rfl rfl) h0
    obtain ⟨x1, H1, β1, os1, gr1, gn1, gb1, gv1, gs1, go1, gl1⟩ := script_arg (rel00 hsz) (fun i o h => by cases h) (hval 1 22 v1 rfl rfl) h1
    obtain ⟨x2, H2, β2, os2, gr2, gn2, gb2, gv2, gs2, go2, gl2, gf2⟩ := ints_arg gr1 gn1 (hval 2 47 v2 rfl rfl) h2
    have hk : Rows.uptoBulkAll [DataW.lit (.int .i64 a0), d1, d2] ≤ 1048576 := of_decide_eq_true hk
    simp only [Rows.uptoBulkAll] at hk
    have hx1 : ScR H2 x1 os1 := gs1.keep (fun y cs h1 h2 => by rw [gf2.same y h1 (fun q => q)]; exact h2) gf2.next
    obtain ⟨HH, hr⟩ := run6 a0 os1 ⟨go1, by omega⟩ (by omega) x1 x2 os2 H2 hx1 gs2 (by omega)
    exact ⟨H2, HH, β2, [.int .i64 a0, x1, x2], gr2, gn2, (LRel.cons (.int _ _) (LRel.cons (VRel.mono gb2 gv1) (LRel.cons gv2 (LRel.nil _)))), hr⟩

theorem over : Rows.termOrdersUptoRow.holds Try.pinned (Rows.OpenSpec.upto Rows.termOrdersSpec) :=
  OpenClaim.holds_of_cond 6 Try.f6 rfl rfl rfl rfl rfl rfl rfl ⟨rfl, rfl, rfl, rfl, rfl⟩ rfl rfl rfl rfl rfl (by kernel_rfl) Try.func6 (by kernel_rfl)
    (of_decide_eq_true (by kernel_rfl)) (by unfold Func.isWrapper; first | (rw [if_pos (by decide +kernel)]; kernel_rfl) | (rw [if_neg (by decide +kernel)]; exact ⟨rfl, rfl⟩))
    (fun os started H enc _ F => lifted os started H enc F)

theorem proved : Rows.TermOrdersUptoSaid :=
  over
end Go.Proofs.Ytkfhklmklhnfaaa.termOrders
#print axioms Go.Proofs.Ytkfhklmklhnfaaa.termOrders.proved
