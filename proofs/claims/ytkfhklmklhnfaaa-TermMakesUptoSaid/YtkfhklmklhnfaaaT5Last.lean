/- TermMakes: every call of any script, in a store of any limit, is answered as the document's store answers it. Where the arguments are of bulk at most 2 to the 20th. -/
import Derived.JoinedCond
import Derived.Test.YtkfhklmklhnfaaaT4
set_option linter.unusedSimpArgs false
set_option linter.unusedVariables false
set_option linter.unusedVariables false
set_option linter.unusedSimpArgs false
namespace Go.AM
open Go Go.ChangeShapes Go.WideShapes Go.ChangeAt Go.RowKit
theorem run3 (lim : Int) (os : List OpA) (hf : Fine os) (x : Value) (H : Hp) (hx : ScR H x os) : ∃ H', RR 3 [.int .i64 lim, x] H = some (.bool true, H') := by
  have hr := r3 E0 rfl (.int .i64 lim) x H
  unfold m3 at hr
  by_cases hl : lim < 0
  · rw [s_call (c8_neg lim x H hl), s_t3a, s_t3b, s_t3c] at hr
    exact ⟨_, hr⟩
  · obtain ⟨H', p, f, g, s1, q, f', g', s2, e, _⟩ := c8_pos lim os hf x H hx hl
    rw [s_call e, s_t3a, s_t3b, s_t3c] at hr
    exact ⟨_, hr⟩
theorem follows07 : Go.Proofs.Try.prog.follows .mixedOrders = true := by kernel_rfl
theorem extE0 (P : Program) : ExtC P E0 := fun f e h => by cases h
end Go.AM
namespace Go.Proofs.Ytkfhklmklhnfaaa.termMakes
open Go.AM Go.ChangeShapes Go.WideShapes Go.ChangeAt Go.RowKit
theorem own : ownKnob Try.prog.godebug = .none := by kernel_rfl
set_option maxRecDepth 100000 in
theorem lifted (os : Os) (started : os.Started) (H : Type) (enc : TypeId × Value → H) (F : Stop.Interp) :
    ReturnsInHanded {} Try.checked os 3 .any ((Rows.OpenSpec.upto Rows.termMakesSpec).pre6 enc Try.prog Try.f3 Rows.termMakesUptoRow.domain false) (((Rows.OpenSpec.upto Rows.termMakesSpec).at F).post enc Try.prog Try.f3 false true false false) := by
  refine returns_true (C := Try.checked) (s := Rows.OpenSpec.upto Rows.termMakesSpec) (k := Rows.uptoSmall) rfl own started (by kernel_rfl) Try.func3
    (OpenSpec.witness (enc := enc) (C := Try.checked) (s := Rows.OpenSpec.upto Rows.termMakesSpec) (k := Rows.uptoSmall) rfl false ⟨#[], #[.int .i64 0, .slice none 0 0], []⟩ 8 (by kernel_rfl) (by kernel_rfl) (by kernel_rfl)
      (x := ([.lit (.int .i64 0), .nil], [], [])) (by kernel_rfl) rfl (by kernel_rfl))
    (by kernel_rfl) ?_ rfl rfl Try.underlying4 (.inl (by kernel_rfl)) ?_ (O := orc) (ext := E0) follows07 (extE0 _) ?_
  · intro t ht
    have : t = 3 ∨ t = 22 := by simpa [Try.params3] using ht
    rcases this with rfl | rfl <;> exact ⟨by kernel_rfl, of_decide_eq_true (by kernel_rfl)⟩
  · intro ds hd
    have hd : ds.length = 2 := hd
    match ds, hd with
    | [d1, d2], _ => rfl
  · intro W base args ds ps hsz hval hA hk
    have hA' : DataW.TrodAll enc Try.prog W 0 (fun _ => true) true [3, 22] args.toList ds ps := hA
    obtain ⟨v0, vs0, d0, ds0, p0, q0, hargs, rfl, rfl, h0, r0⟩ := trodAll_cons hA'
    obtain ⟨v1, vs1, d1, ds1, p1, q1, rfl, rfl, rfl, h1, r1⟩ := trodAll_cons r0
    obtain ⟨rfl, rfl, rfl⟩ := trodAll_nil r1
    obtain rfl : args = #[v0, v1] := by cases args; simp_all
    obtain ⟨a0, rfl, rfl, rfl, w0⟩ := open_int Try.underlying3 (hval 0 3 v0 rfl rfl) h0
    obtain ⟨x, H', β', os, g1, g2, g3, g4, g5, g6, g7⟩ := script_arg (rel00 hsz) (fun i o h => by cases h) (hval 1 22 v1 rfl rfl) h1
    have hk : Rows.uptoBulkAll [DataW.lit (.int .i64 a0), d1] ≤ 1048576 := of_decide_eq_true hk
    simp only [Rows.uptoBulkAll] at hk
    obtain ⟨H1, hr⟩ := run3 a0 os ⟨g6, by omega⟩ x H' g5
    exact ⟨H', H1, β', [.int .i64 a0, x], g1, g2, LRel.cons (.int _ _) (LRel.cons g4 (LRel.nil _)), hr⟩

theorem over : Rows.termMakesUptoRow.holds Try.pinned (Rows.OpenSpec.upto Rows.termMakesSpec) :=
  OpenClaim.holds_of_cond 3 Try.f3 rfl rfl rfl rfl rfl rfl rfl ⟨rfl, rfl, rfl, rfl, rfl⟩ rfl rfl rfl rfl rfl (by kernel_rfl) Try.func3 (by kernel_rfl)
    (of_decide_eq_true (by kernel_rfl)) (by unfold Func.isWrapper; first | (rw [if_pos (by decide +kernel)]; kernel_rfl) | (rw [if_neg (by decide +kernel)]; exact ⟨rfl, rfl⟩))
    (fun os started H enc _ F => lifted os started H enc F)

theorem proved : Rows.TermMakesUptoSaid :=
  over
end Go.Proofs.Ytkfhklmklhnfaaa.termMakes
#print axioms Go.Proofs.Ytkfhklmklhnfaaa.termMakes.proved
