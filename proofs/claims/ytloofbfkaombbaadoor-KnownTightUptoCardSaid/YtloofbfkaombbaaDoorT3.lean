/- Part of the proof of KnownTightUptoCardSaid: see the last file.  -/
import Derived.Test.YtloofbfkaombbaaDoorCards
import Derived.Test.YtloofbfkaombbaaDoorTie
import Derived.WalkKit
import Derived.ProofKit
import Derived.OpenShut
import Derived.Deep.DeepHandedRow
import Derived.Lib.LaidTab
import Derived.KernelRfl
import Derived.Test.YtloofbfkaombbaaDoorT2
set_option linter.unusedSimpArgs false
set_option linter.unusedVariables false
set_option linter.unusedSectionVars false
/- The known seat: the arguments. -/
set_option linter.unusedVariables false
set_option linter.unusedSimpArgs false
set_option maxRecDepth 100000
namespace Go.AM.N14
open Go Go.AM Go.ChangeShapes Go.WideShapes Go.ChangeAt Go.RowKit Go.Proofs.YtloofbfkaombbaaDoor
theorem take1 {l : List Value} {i : Nat} {v : Value} (h : (l.drop i).take 1 = [v]) : l[i]? = some v := by
  have : ((l.drop i).take 1)[0]? = some v := by rw [h]; rfl
  rwa [List.getElem?_take, if_pos (by decide), List.getElem?_drop, Nat.add_zero] at this
theorem len_cells {l : List Value} {n : Nat} {m : List Value} (hl : l.length = n) (hm : m.length = n) (h : ∀ (i : Nat) v, m[i]? = some v → l[i]? = some v) : l = m := by
  apply List.ext_getElem?
  intro i
  rcases Nat.lt_or_ge i n with q | q
  · have : m[i]? = some (m[i]'(by omega)) := List.getElem?_eq_getElem (by omega)
    rw [h i _ this, this]
  · rw [List.getElem?_eq_none (by omega), List.getElem?_eq_none (by omega)]
theorem u64_val {z : Int} (h : 0 ≤ z ∧ z ≤ 18446744073709551615) : Value.int .u64 z = wv (BitVec.ofInt 64 z) := by
  rw [← bv_wrapI, q_u64 h.1 h.2]
theorem fact_arg {HH : Type} {enc : TypeId × Value → HH} {W : World} {b0 : Nat} {v' : Value} {dw : DataW HH} {ps : List MemPlace}
    (hval : Value.okWide Go.Proofs.Tryd.prog W .any b0 24 v') (hd : DataW.Trod enc Go.Proofs.Tryd.prog W 0 (fun _ => true) true 24 v' dw ps) : ∃ f : Fct, v' = f.val := by
  obtain ⟨cs, rfl, hsz⟩ := okWide_struct Go.Proofs.Tryd.underlying24 hval
  have c24 : Go.Proofs.Tryd.prog.cellsOf 24 = 5 := by kernel_rfl
  have c3 : Go.Proofs.Tryd.prog.cellsOf 3 = 1 := by kernel_rfl
  have c22 : Go.Proofs.Tryd.prog.cellsOf 22 = 1 := by kernel_rfl
  rw [c24] at hsz
  obtain ⟨fuel, hx⟩ := hd
  obtain ⟨xs, m, _, hdw, hl, hxl, hall⟩ := DataW.trod_struct Go.Proofs.Tryd.underlying24 hx
  have hcs : cs.toList.length = 5 := by rw [Array.length_toList]; exact hsz
  have g0 := hall 0 { name := "W", type := 3, offset := 0, embedded := false, tag := "", pkgPath := "", byteOffset := 0 } rfl
  have l0 : 0 < xs.length := by rw [hxl]; decide
  rw [List.getElem?_eq_getElem l0] at g0
  try dsimp only at g0
  rw [c3] at g0
  obtain ⟨s0, e0, f0, w0⟩ := DataW.trod_int Go.Proofs.Tryd.underlying3 g0
  have t0 := take1 (l := cs.toList) e0
  have g1 := hall 1 { name := "One", type := 22, offset := 1, embedded := false, tag := "", pkgPath := "", byteOffset := 8 } rfl
  have l1 : 1 < xs.length := by rw [hxl]; decide
  rw [List.getElem?_eq_getElem l1] at g1
  try dsimp only at g1
  rw [c22] at g1
  obtain ⟨s1, e1, f1, w1⟩ := DataW.trod_int Go.Proofs.Tryd.underlying22 g1
  have t1 := take1 (l := cs.toList) e1
  have w1 : 0 ≤ s1 ∧ s1 ≤ 18446744073709551615 := by simpa [Lit.wf, IntKind.min, IntKind.max, IntKind.signed, IntKind.bits] using w1
  have g2 := hall 2 { name := "Zero", type := 22, offset := 2, embedded := false, tag := "", pkgPath := "", byteOffset := 16 } rfl
  have l2 : 2 < xs.length := by rw [hxl]; decide
  rw [List.getElem?_eq_getElem l2] at g2
  try dsimp only at g2
  rw [c22] at g2
  obtain ⟨s2, e2, f2, w2⟩ := DataW.trod_int Go.Proofs.Tryd.underlying22 g2
  have t2 := take1 (l := cs.toList) e2
  have w2 : 0 ≤ s2 ∧ s2 ≤ 18446744073709551615 := by simpa [Lit.wf, IntKind.min, IntKind.max, IntKind.signed, IntKind.bits] using w2
  have g3 := hall 3 { name := "Least", type := 22, offset := 3, embedded := false, tag := "", pkgPath := "", byteOffset := 24 } rfl
  have l3 : 3 < xs.length := by rw [hxl]; decide
  rw [List.getElem?_eq_getElem l3] at g3
  try dsimp only at g3
  rw [c22] at g3
  obtain ⟨s3, e3, f3, w3⟩ := DataW.trod_int Go.Proofs.Tryd.underlying22 g3
  have t3 := take1 (l := cs.toList) e3
  have w3 : 0 ≤ s3 ∧ s3 ≤ 18446744073709551615 := by simpa [Lit.wf, IntKind.min, IntKind.max, IntKind.signed, IntKind.bits] using w3
  have g4 := hall 4 { name := "Top", type := 22, offset := 4, embedded := false, tag := "", pkgPath := "", byteOffset := 32 } rfl
  have l4 : 4 < xs.length := by rw [hxl]; decide
  rw [List.getElem?_eq_getElem l4] at g4
  try dsimp only at g4
  rw [c22] at g4
  obtain ⟨s4, e4, f4, w4⟩ := DataW.trod_int Go.Proofs.Tryd.underlying22 g4
  have t4 := take1 (l := cs.toList) e4
  have w4 : 0 ≤ s4 ∧ s4 ≤ 18446744073709551615 := by simpa [Lit.wf, IntKind.min, IntKind.max, IntKind.signed, IntKind.bits] using w4
  have hcells : cs.toList = [.int .i64 s0, .int .u64 s1, .int .u64 s2, .int .u64 s3, .int .u64 s4] := by
    refine len_cells hcs rfl fun i v hv => ?_
    match i, hv with
    | 0, hv => cases hv; exact t0
    | 1, hv => cases hv; exact t1
    | 2, hv => cases hv; exact t2
    | 3, hv => cases hv; exact t3
    | 4, hv => cases hv; exact t4
    | k + 5, hv => simp at hv
  refine ⟨⟨s0, BitVec.ofInt 64 s1, BitVec.ofInt 64 s2, BitVec.ofInt 64 s3, BitVec.ofInt 64 s4⟩, ?_⟩
  unfold Fct.val
  rw [← u64_val w1, ← u64_val w2, ← u64_val w3, ← u64_val w4]
  congr 1
  apply Array.ext'
  rw [hcells]
theorem word_arg {HH : Type} {enc : TypeId × Value → HH} {W : World} {b0 : Nat} {v' : Value} {dw : DataW HH} {ps : List MemPlace}
    (hval : Value.okWide Go.Proofs.Tryd.prog W .any b0 22 v') (hd : DataW.Trod enc Go.Proofs.Tryd.prog W 0 (fun _ => true) true 22 v' dw ps) : ∃ x : W64, v' = wv x := by
  obtain ⟨a, rfl, _, _, hw⟩ := open_int Go.Proofs.Tryd.underlying22 hval hd
  have hw : 0 ≤ a ∧ a ≤ 18446744073709551615 := by simpa [Lit.wf, IntKind.min, IntKind.max, IntKind.signed, IntKind.bits] using hw
  exact ⟨_, u64_val hw⟩
theorem fct_rel (f : Fct) (β : Bt) : VRel β f.val f.val := by
  refine .agg _ _ rfl fun k v v' h1 h2 => ?_
  have h1 : (cellsL f.val)[k]? = some v := h1
  have h2 : (cellsL f.val)[k]? = some v' := h2
  rw [h1] at h2
  cases h2
  have hm := List.mem_of_getElem? h1
  rw [← cells_val] at hm
  simp only [List.mem_cons, List.not_mem_nil, or_false] at hm
  rcases hm with rfl | rfl | rfl | rfl | rfl <;> exact .int _ _
theorem wv_rel (x : W64) (β : Bt) : VRel β (wv x) (wv x) := .int _ _
/-- A world for the witness. -/
def setBlock (hp : Array Obj) (g : Nat) (cs : Array Value) : Array Obj := hp.modify g fun
  | .cells _ t frozen => .cells cs t frozen
  | o => o
noncomputable def laidWorld (os : Os) : World :=
  { World.holding Go.Proofs.Tryd.prog os ⟨#[], #[], []⟩ with heap := setBlock (World.holding Go.Proofs.Tryd.prog os ⟨#[], #[], []⟩).heap 0 #[.int .u8 0, .int .u8 1, .int .u8 56, .int .u8 2, .int .u8 57, .int .u8 49, .int .u8 28, .int .u8 3, .int .u8 61, .int .u8 58, .int .u8 42, .int .u8 50, .int .u8 38, .int .u8 29, .int .u8 17, .int .u8 4, .int .u8 62, .int .u8 47, .int .u8 59, .int .u8 36, .int .u8 45, .int .u8 43, .int .u8 51, .int .u8 22, .int .u8 53, .int .u8 39, .int .u8 33, .int .u8 30, .int .u8 24, .int .u8 18, .int .u8 12, .int .u8 5, .int .u8 63, .int .u8 55, .int .u8 48, .int .u8 27, .int .u8 60, .int .u8 41, .int .u8 37, .int .u8 16, .int .u8 46, .int .u8 35, .int .u8 44, .int .u8 21, .int .u8 52, .int .u8 32, .int .u8 23, .int .u8 11, .int .u8 54, .int .u8 26, .int .u8 40, .int .u8 15, .int .u8 34, .int .u8 20, .int .u8 31, .int .u8 10, .int .u8 25, .int .u8 14, .int .u8 19, .int .u8 9, .int .u8 13, .int .u8 8, .int .u8 7, .int .u8 6] }
end Go.AM.N14
