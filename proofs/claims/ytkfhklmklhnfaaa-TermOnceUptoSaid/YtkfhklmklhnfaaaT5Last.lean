/- TermOnce: a call that answers a term answers it again, and nothing is there more; unlike nodes are unlike terms; a refused call changes nothing; a term's parts stand ahead of it. Where the arguments are of bulk at most 2 to the 20th. -/
import Derived.JoinedCond
import Derived.Test.YtkfhklmklhnfaaaT4
set_option linter.unusedSimpArgs false
set_option linter.unusedVariables false
set_option linter.unusedVariables false
set_option linter.unusedSimpArgs false
namespace Go.Proofs.Ytkfhklmklhnfaaa.termOnce
open Go.AM Go.ChangeShapes Go.WideShapes Go.ChangeAt Go.RowKit
theorem own : ownKnob Try.prog.godebug = .none := by kernel_rfl
theorem follows : Try.prog.follows .mixedOrders = true := by kernel_rfl
set_option maxRecDepth 100000 in
theorem lifted (os : Os) (started : os.Started) (H : Type) (enc : TypeId × Value → H) (F : Stop.Interp) :
    ReturnsInHanded {} Try.checked os 5 .any ((Rows.OpenSpec.upto Rows.termOnceSpec).pre6 enc Try.prog Try.f5 Rows.termOnceUptoRow.domain false) (((Rows.OpenSpec.upto Rows.termOnceSpec).at F).post enc Try.prog Try.f5 false true false false) := by
  refine returns_true (C := Try.checked) (s := Rows.OpenSpec.upto Rows.termOnceSpec) (k := Rows.uptoSmall) rfl own started (by kernel_rfl) Try.func5
    (OpenSpec.witness (enc := enc) (C := Try.checked) (s := Rows.OpenSpec.upto Rows.termOnceSpec) (k := Rows.uptoSmall) rfl false ⟨#[], #[.int .i64 0, .slice none 0 0], []⟩ 8 (by kernel_rfl) (by kernel_rfl) (by kernel_rfl)
      (x := ([.lit (.int .i64 0), .nil], [], [])) (by kernel_rfl) rfl (by kernel_rfl))
    (by kernel_rfl) ?_ rfl rfl Try.underlying4 (.inl (by kernel_rfl)) ?_ (O := orc) (ext := E0) follows (fun f e h => by cases h) ?_
  · intro t ht
    have : t = 3 ∨ t = 22 := by simpa [Try.params5] using ht
    rcases this with rfl | rfl <;> exact ⟨by kernel_rfl, of_decide_eq_true (by kernel_rfl)⟩
  · intro ds hd
    have hd : ds.length = 2 := hd
    match ds, hd with
    | [e0, e1], _ => rfl
  · intro W base args ds ps hsz hval hA hk
    have hA' : DataW.TrodAll enc Try.prog W 0 (fun _ => true) true [3, 22] args.toList ds ps := hA
    obtain ⟨v0, vs0, d0, ds0, p0, q0, hargs, rfl, rfl, h0, r0⟩ := trodAll_cons hA'
    obtain ⟨v1, vs1, d1, ds1, p1, q1, rfl, rfl, rfl, h1, r1⟩ := trodAll_cons r0
    obtain ⟨rfl, rfl, rfl⟩ := trodAll_nil r1
    obtain rfl : args = #[v0, v1] := by cases args; simp_all
    obtain ⟨a0, rfl, rfl, rfl, w0⟩ := open_int Try.underlying3 (hval 0 3 v0 rfl rfl) h0
    obtain ⟨x1, H1, β1, os1, gr1, gn1, gb1, gv1, gs1, go1, gl1⟩ := script_arg (rel00 hsz) (fun i o h => by cases h) (hval 1 22 v1 rfl rfl) h1
    have hk : Rows.uptoBulkAll [DataW.lit (.int .i64 a0), d1] ≤ 1048576 := of_decide_eq_true hk
    simp only [Rows.uptoBulkAll] at hk
    obtain ⟨HH, hr⟩ := run5 a0 os1 ⟨go1, by omega⟩ x1 H1 gs1
    exact ⟨H1, HH, β1, [.int .i64 a0, x1], gr1, gn1, (LRel.cons (.int _ _) (LRel.cons gv1 (LRel.nil _))), hr⟩

theorem over : Rows.termOnceUptoRow.holds Try.pinned (Rows.OpenSpec.upto Rows.termOnceSpec) :=
  OpenClaim.holds_of_cond 5 Try.f5 rfl rfl rfl rfl rfl rfl rfl ⟨rfl, rfl, rfl, rfl, rfl⟩ rfl rfl rfl rfl rfl (by kernel_rfl) Try.func5 (by kernel_rfl)
    (of_decide_eq_true (by kernel_rfl)) (by unfold Func.isWrapper; first | (rw [if_pos (by decide +kernel)]; kernel_rfl) | (rw [if_neg (by decide +kernel)]; exact ⟨rfl, rfl⟩))
    (fun os started H enc _ F => lifted os started H enc F)

theorem proved : Rows.TermOnceUptoSaid :=
  over
end Go.Proofs.Ytkfhklmklhnfaaa.termOnce
#print axioms Go.Proofs.Ytkfhklmklhnfaaa.termOnce.proved
