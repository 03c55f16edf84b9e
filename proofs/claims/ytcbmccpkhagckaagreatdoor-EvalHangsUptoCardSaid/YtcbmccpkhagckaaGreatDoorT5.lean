/- Part of the proof of EvalHangsUptoCardSaid: see the last file.  -/
import Derived.Test.YtcbmccpkhagckaaGreatDoorCards
import Derived.Test.YtcbmccpkhagckaaGreatDoorTie
import Derived.WalkKit
import Derived.ProofKit
import Derived.OpenShut
import Derived.Deep.DeepHandedRow
import Derived.Deep.DeepWitnessRowRef
import Derived.Stop.LaidErr
import Derived.Lib.LaidTab
import Derived.Lib.LaidU8
import Derived.Lib.TrailingZeros
import Derived.Lib.LaidIn
import Derived.KernelRfl
import Derived.Laws.MathBits
import Derived.Lib.Mul64
import Derived.Test.YtcbmccpkhagckaaGreatDoorT2
import Derived.Test.YtcbmccpkhagckaaGreatDoorT3
import Derived.Test.YtcbmccpkhagckaaGreatDoorT4
set_option linter.unusedSimpArgs false
set_option linter.unusedVariables false
set_option linter.unusedSectionVars false
set_option maxRecDepth 100000
namespace Go.AM
open Go Go.ChangeShapes Go.WideShapes Go.ChangeAt Go.RowKit Go.Proofs.YtcbmccpkhagckaaGreatDoor
theorem xt7 : XtC PP orc.xt := by
  intro f e h
  have h : look none [(F.a25, some zjE), (F.a24, some zjO)] f = some e := h
  unfold look at h
  split at h
  · rename_i q
    cases h
    have : f = F.a25 := (Nat.eq_of_beq_eq_true q).symm
    subst this
    exact idxStr_xt Go.Proofs.Tryz.func184 (by kernel_rfl) (by kernel_rfl) (by kernel_rfl) (by kernel_rfl)
  · unfold look at h
    split at h
    · rename_i q
      cases h
      have : f = F.a24 := (Nat.eq_of_beq_eq_true q).symm
      subst this
      exact cntStr_xt Go.Proofs.Tryz.func157 (by kernel_rfl) (by kernel_rfl) (by kernel_rfl) (by kernel_rfl)
    · cases h
theorem zfn {P : Program} {W : World} {name : String} {k : IntKind} {zs : List Int} {rest : List (String × DataW Unit)} {g : Nat} {t e : TypeId} {n : Nat} {ps : List MemPlace}
    (hg : P.globalNamed name = some g) (hty : (P.globals[g]?).map (·.type) = some t) (ht : P.underlying t = some (.array n e)) (he : P.underlying e = some (.int k)) (hce : P.cellsOf e = 1) (hct : P.cellsOf t = n)
    (h : DataW.LaidVars P W ((name, Go.Lib.tabData k zs) :: rest) ps) : ∃ ty fz, W.heap[g]? = some (.cells (zs.map fun z => Value.int k z).toArray ty fz) := by
  obtain ⟨g', t', cs, fuel, p, q, hg', ht', hvar, hd, _, _⟩ := h
  obtain rfl := Option.some.inj (hg.symm.trans hg')
  obtain rfl := Option.some.inj (hty.symm.trans ht')
  have hc := Go.Lib.cells_of_tab ht he hce hct hd
  unfold World.var? at hvar
  rw [hg] at hvar
  have hvar : (match W.heap[g]? with | some (Obj.cells cs _ _) => some cs | _ => none) = some cs := hvar
  split at hvar
  · rename_i cs' ty fz hw
    cases hvar
    refine ⟨ty, fz, ?_⟩
    rw [hw, ← hc]
  · cases hvar
theorem zir {P : Program} {W : World} {name : String} {g : Nat} {cs : Array Value} (hg : P.globalNamed name = some g) (hvar : W.var? P name = some cs) : ∃ ty fz, W.heap[g]? = some (.cells cs ty fz) := by
  unfold World.var? at hvar
  rw [hg] at hvar
  have hvar : (match W.heap[g]? with | some (Obj.cells cs _ _) => some cs | _ => none) = some cs := hvar
  split at hvar
  · rename_i cs' ty fz hw
    cases hvar
    exact ⟨ty, fz, hw⟩
  · cases hvar
def bru64 : List Int := Go.Lib.deBruijn64tab.map fun (n : Nat) => (n : Int)
theorem pow_data : (Rows.laid_internal_strconv_uint64pow10 : DataW Unit) = Go.Lib.tabData .u64 zox := by kernel_rfl
theorem spc_data : (Rows.laid_strings_asciiSpace : DataW Unit) = Go.Lib.tabData .u8 zi7 := by kernel_rfl
theorem bru_data : (Rows.laid_math_bits_deBruijn64tab : DataW Unit) = Go.Lib.tabData .u8 bru64 := by kernel_rfl
abbrev ziY : List (String × DataW Unit) := [("math/bits.deBruijn32tab", Rows.laid_math_bits_deBruijn32tab), ("math/bits.deBruijn64tab", Rows.laid_math_bits_deBruijn64tab), ("internal/strconv.uint64pow10", Rows.laid_internal_strconv_uint64pow10), ("unicode/utf8.acceptRanges", Rows.laid_unicode_utf8_acceptRanges),
  ("strconv.ErrRange", Rows.laid_strconv_ErrRange), ("strconv.ErrSyntax", Rows.laid_strconv_ErrSyntax), ("unicode.White_Space", Rows.laid_unicode_White_Space), ("strings.asciiSpace", Rows.laid_strings_asciiSpace), ("unicode/utf8.first", Rows.laid_unicode_utf8_first)]
theorem zn2 : "*" ++ "errors.errorString" = "*errors.errorString" := by decide
theorem err_row : ∀ u, PP.typeName? 3 u = some "*errors.errorString" → u = T.p_errors_errorString := fun u h =>
  typeName_ptr_named (nm := "errors.errorString") (by rw [zn2]; kernel_rfl) (by kernel_rfl) (by decide) u (by rw [zn2]; exact h)
theorem laid_errs {W : World} (h : laidMetH PP ziY W) : (∃ p ty fz, W.heap[G.strconv_ErrRange]? = some (.cells #[.iface T.p_errors_errorString p] ty fz)) ∧ (∃ p ty fz, W.heap[G.strconv_ErrSyntax]? = some (.cells #[.iface T.p_errors_errorString p] ty fz)) := by
  have h : laidMet PP ziY W := h
  have h4 := h.tail.tail.tail.tail
  obtain ⟨a, s, hv, _⟩ := laid_sentinel (g := G.strconv_ErrRange) (ti := T.error) (tp := T.p_errors_errorString) (te := T.errors_errorString) (ts := T.string) h4 (by kernel_rfl) (by kernel_rfl) Go.Proofs.Tryz.underlying114 err_row (by kernel_rfl) Go.Proofs.Tryz.underlying269 rfl rfl (by kernel_rfl) (by kernel_rfl) (by kernel_rfl)
  obtain ⟨a2, s2, hv2, _⟩ := laid_sentinel (g := G.strconv_ErrSyntax) (ti := T.error) (tp := T.p_errors_errorString) (te := T.errors_errorString) (ts := T.string) h4.tail (by kernel_rfl) (by kernel_rfl) Go.Proofs.Tryz.underlying114 err_row (by kernel_rfl) Go.Proofs.Tryz.underlying269 rfl rfl (by kernel_rfl) (by kernel_rfl) (by kernel_rfl)
  obtain ⟨t1, z1, e1⟩ := zir (by kernel_rfl) hv
  obtain ⟨t2, z2, e2⟩ := zir (by kernel_rfl) hv2
  exact ⟨⟨_, t1, z1, e1⟩, ⟨_, t2, z2, e2⟩⟩
theorem laid_tabs {W : World} (h : laidMetH PP ziY W) : (∃ ty fz, W.heap[G.internal_strconv_uint64pow10]? = some (.cells (zox.map fun z => Value.int .u64 z).toArray ty fz)) ∧
    (∃ ty fz, W.heap[G.strings_asciiSpace]? = some (.cells (zi7.map fun z => Value.int .u8 z).toArray ty fz)) ∧ (∃ ty fz, W.heap[G.bits_deBruijn64tab]? = some (.cells (bru64.map fun z => Value.int .u8 z).toArray ty fz)) := by
  have h : laidMet PP ziY W := h
  obtain ⟨q1, h1, _⟩ := h.tail
  obtain ⟨q2, h2, _⟩ := h.tail.tail
  obtain ⟨q7, h7, _⟩ := h.tail.tail.tail.tail.tail.tail.tail
  rw [bru_data] at h1
  rw [pow_data] at h2
  rw [spc_data] at h7
  exact ⟨zfn (by kernel_rfl) (t := T.a20_uint64) (e := T.uint64) (n := 20) (by kernel_rfl) (by kernel_rfl) (by kernel_rfl) (by kernel_rfl) (by kernel_rfl) h2,
    zfn (by kernel_rfl) (t := T.a256_uint8) (e := T.uint8) (n := 256) (by kernel_rfl) (by kernel_rfl) (by kernel_rfl) (by kernel_rfl) (by kernel_rfl) h7,
    zfn (by kernel_rfl) (t := T.a64_uint8) (e := T.uint8) (n := 64) (by kernel_rfl) (by kernel_rfl) (by kernel_rfl) (by kernel_rfl) (by kernel_rfl) h1⟩
theorem start {W : World} (hsz : PP.globals.size ≤ W.heap.size) (h : laidMetH PP ziY W) : ∃ H0, Rel PP W H0 (B00 PP) ∧ (∀ i o, H0.get i = some o → o.own = false) ∧ Laid H0 := by
  obtain ⟨⟨t1, z1, e1⟩, ⟨t2, z2, e2⟩, t3, z3, e3⟩ := laid_tabs h
  obtain ⟨⟨p4, t4, z4, e4⟩, p5, t5, z5, e5⟩ := laid_errs h
  let Fx : Nat → Option AObj := fun i => if i = G.internal_strconv_uint64pow10 then some (.fix (.cells (zox.map fun z => Value.int .u64 z).toArray t1 z1)) else if i = G.strings_asciiSpace then some (.fix (.cells (zi7.map fun z => Value.int .u8 z).toArray t2 z2))
    else if i = G.bits_deBruijn64tab then some (.fix (.cells (bru64.map fun z => Value.int .u8 z).toArray t3 z3)) else if i = G.strconv_ErrRange then some (.fix (.cells #[.iface T.p_errors_errorString p4] t4 z4)) else if i = G.strconv_ErrSyntax then some (.fix (.cells #[.iface T.p_errors_errorString p5] t5 z5)) else none
  obtain ⟨r1, r2⟩ := relStart (P := PP) hsz (F := Fx) (fun i o hi => by
    have hi : (if i = G.internal_strconv_uint64pow10 then _ else if i = G.strings_asciiSpace then _ else if i = G.bits_deBruijn64tab then _ else if i = G.strconv_ErrRange then _ else if i = G.strconv_ErrSyntax then _ else none) = some o := hi
    split at hi
    · rename_i q; subst q; cases hi; exact .inl ⟨_, rfl, e1⟩
    · split at hi
      · rename_i q; subst q; cases hi; exact .inl ⟨_, rfl, e2⟩
      · split at hi
        · rename_i q; subst q; cases hi; exact .inl ⟨_, rfl, e3⟩
        · split at hi
          · rename_i q; subst q; cases hi; exact .inl ⟨_, rfl, e4⟩
          · split at hi
            · rename_i q; subst q; cases hi; exact .inl ⟨_, rfl, e5⟩
            · cases hi)
  have g : ∀ i, i < PP.globals.size → (HS PP Fx).get i = Fx i := fun i hi => if_pos hi
  have lt : ∀ i, i < 11 → i < PP.globals.size := fun i hi => by rw [ziW]; omega
  refine ⟨_, r1, r2, ⟨Nat.le_refl _, ⟨⟨_, t1, z1, (g _ (lt _ (by decide))).trans rfl, ?_⟩, ⟨_, t2, z2, (g _ (lt _ (by decide))).trans rfl, ?_⟩, ⟨_, t3, z3, (g _ (lt _ (by decide))).trans rfl, ?_⟩⟩, ⟨_, t5, z5, (g _ (lt _ (by decide))).trans rfl, rfl⟩, ⟨_, t4, z4, (g _ (lt _ (by decide))).trans rfl, rfl⟩⟩⟩
  · kernel_rfl
  · kernel_rfl
  · kernel_rfl
noncomputable def zcL (os : Os) : World :=
  let N := (World.settled PP os).heap.size
  let w0 := World.holding PP os ⟨#[.cells (Go.Lib.whiteT.map fun (z : Nat) => Value.int .u16 (z : Int)).toArray T.unicode_Range16, .cells #[.slice (some ⟨N, 0, none⟩) 7 7, .slice none 0 0, .int .i64 2] T.unicode_RangeTable,
    .cells #[.string ⟨#[105, 110, 118, 97, 108, 105, 100, 32, 115, 121, 110, 116, 97, 120]⟩] T.errors_errorString, .cells #[.string ⟨#[118, 97, 108, 117, 101, 32, 111, 117, 116, 32, 111, 102, 32, 114, 97, 110, 103, 101]⟩] T.errors_errorString], #[], []⟩
  let put (h : Array Obj) (g : Nat) (cs : Array Value) : Array Obj := h.modify g fun
    | .cells _ t frozen => .cells cs t frozen
    | o => o
  let h1 := put w0.heap G.strings_asciiSpace (zi7.map fun z => Value.int .u8 z).toArray
  let h2 := put h1 G.internal_strconv_uint64pow10 (zox.map fun z => Value.int .u64 z).toArray
  let h3 := put h2 G.bits_deBruijn64tab (bru64.map fun z => Value.int .u8 z).toArray
  let h4 := put h3 G.bits_deBruijn32tab (Go.Lib.deBruijn32tab.map fun (z : Nat) => Value.int .u8 (z : Int)).toArray
  let h5 := put h4 G.unicode_White_Space #[.pointer (some ⟨N + 1, 0, none⟩)]
  let h6 := put h5 G.strconv_ErrSyntax #[.iface T.p_errors_errorString (.pointer (some ⟨N + 2, 0, none⟩))]
  let h7 := put h6 G.strconv_ErrRange #[.iface T.p_errors_errorString (.pointer (some ⟨N + 3, 0, none⟩))]
  let h8 := put h7 G.utf8_first (Go.Lib.firstTab.map fun z => Value.int .u8 z).toArray
  let h9 := put h8 G.utf8_acceptRanges (((List.range 16).flatMap fun i => [Value.int .u8 (Go.Lib.accLo i), Value.int .u8 (Go.Lib.accHi i)]).toArray)
  { w0 with heap := h9 }
set_option maxRecDepth 1000000
noncomputable abbrev nS : Nat := (World.settled PP default).heap.size
theorem lp1 (os : Os) (args : Array Value) : LaidIn PP ((zcL os).forCall (fun _ _ => 0) ⟨#[], args, []⟩).memory (ziY.take 3) [G.bits_deBruijn32tab, G.bits_deBruijn64tab, G.internal_strconv_uint64pow10] :=
  LaidIn.of_run _ 8 (by kernel_rfl) (by kernel_rfl) (by kernel_rfl) (by kernel_rfl)
theorem lp2 (os : Os) (args : Array Value) : LaidIn PP ((zcL os).forCall (fun _ _ => 0) ⟨#[], args, []⟩).memory ((ziY.drop 3).take 4) [G.utf8_acceptRanges, G.strconv_ErrRange, G.strconv_ErrSyntax, G.unicode_White_Space, nS, nS + 1, nS + 2, nS + 3] :=
  LaidIn.of_run _ 8 (by kernel_rfl) (by kernel_rfl) (by kernel_rfl) (by kernel_rfl)
theorem lp3 (os : Os) (args : Array Value) : LaidIn PP ((zcL os).forCall (fun _ _ => 0) ⟨#[], args, []⟩).memory ((ziY.drop 7).take 1) [G.strings_asciiSpace] :=
  LaidIn.of_run _ 8 (by kernel_rfl) (by kernel_rfl) (by kernel_rfl) (by kernel_rfl)
theorem lp4 (os : Os) (args : Array Value) : LaidIn PP ((zcL os).forCall (fun _ _ => 0) ⟨#[], args, []⟩).memory (ziY.drop 8) [G.utf8_first] :=
  LaidIn.of_run _ 8 (by kernel_rfl) (by kernel_rfl) (by kernel_rfl) (by kernel_rfl)
theorem laid_all (os : Os) (args : Array Value) : laidMet PP ziY ((zcL os).forCall (fun _ _ => 0) ⟨#[], args, []⟩).memory :=
  ((((lp1 os args).append (lp2 os args) (by kernel_rfl)).append (lp3 os args) (by kernel_rfl)).append (lp4 os args) (by kernel_rfl)).met
end Go.AM
namespace Go.AM.N14
open Go Go.AM
abbrev W64 := BitVec 64
theorem bit_eq {a b : W64} (h : ∀ j, a.getLsbD j = b.getLsbD j) : a = b := BitVec.eq_of_getLsbD_eq fun i _ => h i
theorem bit_hi (a : W64) {j : Nat} (h : 64 ≤ j) : a.getLsbD j = false := BitVec.getLsbD_of_ge a j h
theorem zmE {x y i : Nat} (hx : x.testBit i = false) (hy : y.testBit i = true) (h : ∀ j, i < j → x.testBit j = y.testBit j) : x < y := by
  have e : x / 2 ^ (i + 1) = y / 2 ^ (i + 1) := Nat.eq_of_testBit_eq fun j => by
    rw [Nat.testBit_div_two_pow, Nat.testBit_div_two_pow]; exact h _ (by omega)
  have p : ∀ z : Nat, z / 2 ^ (i + 1) = z / 2 ^ i / 2 := fun z => by rw [Nat.pow_succ, Nat.div_div_eq_div_mul]
  rw [p, p] at e
  rw [Nat.testBit_eq_decide_div_mod_eq] at hx hy
  have hx : ¬ x / 2 ^ i % 2 = 1 := of_decide_eq_false hx
  have hy : y / 2 ^ i % 2 = 1 := of_decide_eq_true hy
  have : x / 2 ^ i < y / 2 ^ i := by omega
  exact Nat.lt_of_not_le fun hle => by have := Nat.div_le_div_right (c := 2 ^ i) hle; omega
theorem zoG {a b : W64} {i : Nat} (h1 : a.getLsbD i = false) (h2 : b.getLsbD i = true) (h : ∀ j, i < j → a.getLsbD j = b.getLsbD j) : a.toNat < b.toNat :=
  zmE (i := i) (by rw [BitVec.testBit_toNat]; exact h1) (by rw [BitVec.testBit_toNat]; exact h2) fun j hj => by rw [BitVec.testBit_toNat, BitVec.testBit_toNat]; exact h j hj
theorem zoR {a b : Nat} (h : a ≠ b) : ∃ i, a.testBit i ≠ b.testBit i ∧ ∀ j, i < j → a.testBit j = b.testBit j := by
  have hx : a ^^^ b ≠ 0 := fun e => h (Nat.eq_of_testBit_eq fun j => by have q := congrArg (fun z => Nat.testBit z j) e; simpa using q)
  refine ⟨(a ^^^ b).log2, ?_, fun j hj => ?_⟩
  · have : (a ^^^ b).testBit (a ^^^ b).log2 = true := Nat.testBit_log2 hx
    rw [Nat.testBit_xor] at this
    intro e
    rw [e] at this
    simp at this
  · have hl : a ^^^ b < 2 ^ j := Nat.lt_of_lt_of_le Nat.lt_log2_self (Nat.pow_le_pow_right (by decide) hj)
    have : (a ^^^ b).testBit j = false := Nat.testBit_lt_two_pow hl
    rw [Nat.testBit_xor] at this
    simpa using this
theorem zoS {a b : W64} (h : a.toNat < b.toNat) : ∃ i, i < 64 ∧ a.getLsbD i = false ∧ b.getLsbD i = true ∧ ∀ j, i < j → a.getLsbD j = b.getLsbD j := by
  obtain ⟨i, h1, h2⟩ := zoR (a := a.toNat) (b := b.toNat) (by omega)
  rw [BitVec.testBit_toNat, BitVec.testBit_toNat] at h1
  have h2 : ∀ j, i < j → a.getLsbD j = b.getLsbD j := fun j hj => by have := h2 j hj; rwa [BitVec.testBit_toNat, BitVec.testBit_toNat] at this
  have hi : i < 64 := by
    rcases Nat.lt_or_ge i 64 with q | q
    · exact q
    · rw [bit_hi a q, bit_hi b q] at h1; exact absurd rfl h1
  cases ha : a.getLsbD i with
  | false =>
    refine ⟨i, hi, ha, ?_, h2⟩
    cases hb : b.getLsbD i with
    | true => rfl
    | false => rw [ha, hb] at h1; exact absurd rfl h1
  | true =>
    cases hb : b.getLsbD i with
    | true => rw [ha, hb] at h1; exact absurd rfl h1
    | false => have := zoG hb ha fun j hj => (h2 j hj).symm; omega
def Fit (o z x : W64) : Prop := ∀ j, (o.getLsbD j = true → x.getLsbD j = true) ∧ (z.getLsbD j = true → x.getLsbD j = false)
theorem part {o z x t : W64} (hf : Fit o z t) (hl : x.toNat < t.toNat) : ∃ i, i < 64 ∧ x.getLsbD i = false ∧ t.getLsbD i = true ∧ z.getLsbD i = false ∧ (∀ j, i < j → t.getLsbD j = x.getLsbD j) ∧
    (∀ j, i < j → (o.getLsbD j = true → x.getLsbD j = true) ∧ (z.getLsbD j = true → x.getLsbD j = false)) := by
  obtain ⟨i, h1, h2, h3, h4⟩ := zoS hl
  refine ⟨i, h1, h2, h3, ?_, fun j hj => (h4 j hj).symm, fun j hj => ?_⟩
  · cases hz : z.getLsbD i with
    | false => rfl
    | true => rw [(hf i).2 hz] at h3; cases h3
  · rw [h4 j hj]; exact hf j
def msk (n : Nat) : W64 := BitVec.ofNat 64 (2 ^ n - 1)
theorem ziJ (n j : Nat) : (msk n).getLsbD j = (decide (j < 64) && decide (j < n)) := by
  unfold msk
  rw [BitVec.getLsbD_ofNat, Nat.testBit_two_pow_sub_one]
theorem msk_all : msk 64 = BitVec.allOnes 64 := rfl
theorem zkp (n : Nat) (hn : n ≤ 64) : (msk n).toNat = 2 ^ n - 1 := by
  unfold msk
  have : 2 ^ n ≤ 2 ^ 64 := Nat.pow_le_pow_right (by decide) hn
  have := Nat.two_pow_pos n
  rw [BitVec.toNat_ofNat, Nat.mod_eq_of_lt (by omega)]
end Go.AM.N14
namespace Go.AM.N14
open Go Go.AM
theorem zbm {y : W64} {n : Nat} (hn : n ≤ 64) : y.toNat ≤ (msk n).toNat ↔ ∀ j, n ≤ j → y.getLsbD j = false := by
  rw [zkp n hn]
  have p := Nat.two_pow_pos n
  constructor
  · intro h j hj
    rw [← BitVec.testBit_toNat]
    exact Nat.testBit_lt_two_pow (Nat.lt_of_lt_of_le (show y.toNat < 2 ^ n by omega) (Nat.pow_le_pow_right (by decide) hj))
  · intro h
    have : y.toNat < 2 ^ n := Nat.lt_pow_two_of_testBit _ fun i hi => by rw [BitVec.testBit_toNat]; exact h i hi
    omega
end Go.AM.N14
namespace Go.AM.N14
open Go Go.AM
structure Fct where
  w : Int
  one : W64
  zero : W64
  least : W64
  top : W64
section
variable {α : Type}
theorem u_all : Value.int .u64 18446744073709551615 = wv (msk 64) := rfl
theorem cu64 (n : Nat) (h : n < 18446744073709551616) (k : Value → Option α) : zan .u64 (.int .i64 (n : Int)) k = k (.int .u64 (n : Int)) := by
  rw [q_conv, q_u64 (by omega) (by omega)]
end
def wd (w : Int) : Nat := (max w 1).toNat
theorem wd_le {w : Int} (h : w ≤ 64) : wd w ≤ 64 := by unfold wd; omega
theorem wd_pos (w : Int) : 1 ≤ wd w := by unfold wd; omega
end Go.AM.N14
namespace Go.AM.N14
open Go Go.AM
theorem msk_toNat {n : Nat} (hn : n ≤ 64) (x : W64) : (x &&& msk n).toNat = x.toNat % 2 ^ n := by
  rw [BitVec.toNat_and, zkp n hn, Nat.and_two_pow_sub_one_eq_mod]
theorem znd {n : Nat} (h0 : 1 ≤ n) (hn : n ≤ 64) (x : W64) : zdc (n : Int) (x.toNat : Int) = ((x &&& msk n).toNat : Int) := by
  unfold zdc
  rw [if_neg (by omega), msk_toNat hn]
  by_cases h : n = 64
  · subst h
    rw [if_pos (by decide), Nat.mod_eq_of_lt x.isLt]
  · rw [if_neg (by omega), Int.toNat_natCast]
    simp
theorem zbu {n : Nat} (h0 : 1 ≤ n) (hn : n ≤ 64) (x : W64) (H : Hp) : RR F.a0 [.int .i64 (n : Int), wv x] H = some (wv (x &&& msk n), H) := by
  have := c45 (n : Int) (x.toNat : Int) (by omega) (by have := x.isLt; omega) H
  rw [znd h0 hn] at this
  exact this
theorem zcS {n : Nat} (h0 : 1 ≤ n) (hn : n ≤ 64) (H : Hp) : RR F.a4 [.int .i64 (n : Int)] H = some (.bool true, H) := by
  refine (zla E0 rfl _ _).trans ?_
  unfold zg0
  rw [zde, bT (by omega), zfp, decide_eq_true (by omega)]
def sg (n : Nat) (x : W64) : Int := (x.setWidth n).toInt
theorem sg_eq {n : Nat} (x : W64) : sg n x = if 2 * (x.toNat % 2 ^ n) < 2 ^ n then ((x.toNat % 2 ^ n : Nat) : Int) else ((x.toNat % 2 ^ n : Nat) : Int) - ((2 ^ n : Nat) : Int) := by
  unfold sg
  rw [BitVec.toInt_eq_toNat_cond, BitVec.toNat_setWidth]
theorem i_conv {α : Type} (y : W64) (k : Value → Option α) : zan .i64 (wv y) k = k (.int .i64 y.toInt) := by
  show k (.int .i64 (IntKind.i64.wrap (y.toNat : Int))) = _
  congr 2
  rw [BitVec.toInt_eq_toNat_cond]
  have := y.isLt
  simp only [IntKind.wrap, IntKind.signed, IntKind.bits]
  simp
  split <;> split <;> omega
theorem i_shr {α : Type} {P : Program} (T : TypeId) (a : Int) (kd : IntKind) (m : Nat) (hm : m ≤ 64) (k : Value → Option α) : pBin P .shr T (.int .i64 a) (.int kd (m : Int)) k = k (.int .i64 (a / (2 : Int) ^ m)) := by
  have : binV P .shr T (.int .i64 a) (.int kd (m : Int)) = some (.int .i64 (a / (2 : Int) ^ m)) := by
    show (if (m : Int) < 0 then none else some (Value.int .i64 (a.fdiv (2 ^ (min ((m : Int).toNat) 64))))) = _
    rw [if_neg (by omega), Int.toNat_natCast, Nat.min_eq_left hm, Int.fdiv_eq_ediv_of_nonneg _ (Int.le_of_lt (Int.pow_pos (by decide)))]
  unfold pBin; rw [this]
theorem sg_shift {n : Nat} (h0 : 1 ≤ n) (hn : n ≤ 64) (x : W64) : (x <<< (64 - n)).toInt / (2 : Int) ^ (64 - n) = sg n x := by
  rw [sg_eq, BitVec.toInt_eq_toNat_cond, BitVec.toNat_shiftLeft, Nat.shiftLeft_eq]
  have e : (2 : Nat) ^ 64 = 2 ^ n * 2 ^ (64 - n) := by rw [← Nat.pow_add]; congr 1; omega
  have e1 : x.toNat * 2 ^ (64 - n) % 2 ^ 64 = x.toNat % 2 ^ n * 2 ^ (64 - n) := by rw [e, Nat.mul_mod_mul_right]
  rw [e1]
  have hp : 0 < 2 ^ (64 - n) := Nat.two_pow_pos _
  have ep : ((2 : Int) ^ (64 - n)) = ((2 ^ (64 - n) : Nat) : Int) := by push_cast; rfl
  rw [ep]
  generalize x.toNat % 2 ^ n = t
  generalize hm : 2 ^ (64 - n) = m at *
  have e2 : (2 * (t * m) < 2 ^ 64) ↔ 2 * t < 2 ^ n := by
    rw [e, show 2 * (t * m) = 2 * t * m by rw [Nat.mul_assoc]]
    exact Nat.mul_lt_mul_right hp
  have hm0 : (m : Int) ≠ 0 := by omega
  by_cases h : 2 * t < 2 ^ n
  · rw [if_pos h, if_pos (e2.2 h)]
    push_cast
    rw [Int.mul_ediv_cancel _ hm0]
  · rw [if_neg h, if_neg (fun q => h (e2.1 q)), e]
    have : ((t * m : Nat) : Int) - ((2 ^ n * m : Nat) : Int) = (((t : Nat) : Int) - ((2 ^ n : Nat) : Int)) * (m : Int) := by
      rw [Int.natCast_mul, Int.natCast_mul, Int.sub_mul]
    rw [this, Int.mul_ediv_cancel _ hm0]
theorem zhn {n : Nat} (h0 : 1 ≤ n) (hn : n ≤ 64) (x : W64) (H : Hp) : RR F.a16 [.int .i64 (n : Int), wv x] H = some (.int .i64 (sg n x), H) := by
  refine (zke E0 rfl _ _ _).trans ?_
  unfold zf6
  have e : IntKind.i64.wrap (64 - (n : Int)) = ((64 - n : Nat) : Int) := by rw [zaz (by omega) (by omega)]; omega
  rw [zag (zcS h0 hn H), zbE, zac, show (!true) = false from rfl, zaK, zdr, e, cu64 _ (by omega), b_shl, i_conv, i_shr _ _ _ _ (by omega), sg_shift h0 hn]
end Go.AM.N14
namespace Go.AM.N14
open Go Go.AM
def atM (op : Int) (n k j : Nat) : Option Nat :=
  if op = 25 then (if k ≤ j then some (j - k) else none) else if op = 26 then (if j + k < n then some (j + k) else none) else if op = 27 then some (min (j + k) (n - 1)) else if op = 28 then some ((j + n - k) % n) else some ((j + k) % n)
def bitAt (x : W64) : Option Nat → Bool
  | some i => x.getLsbD i
  | none => false
def zhf (op : Int) (n : Nat) (x : W64) (k : Nat) (v : W64) : Prop := ∀ j, v.getLsbD j = (decide (j < n) && bitAt x (atM op n k j))
theorem zhf.eq {op : Int} {n : Nat} {x : W64} {k : Nat} {v w : W64} (h1 : zhf op n x k v) (h2 : zhf op n x k w) : v = w := bit_eq fun j => by rw [h1 j, h2 j]
end Go.AM.N14
namespace Go.AM.N14
open Go Go.AM
theorem zmB {n k : Nat} (h0 : 1 ≤ n) (hn : n ≤ 64) (x : W64) : BitVec.ofInt 64 (sg n x / (2 : Int) ^ k) = ((x.setWidth n).signExtend 64).sshiftRight k := by
  have e1 : ((x.setWidth n).signExtend 64).toInt = sg n x := by
    rw [BitVec.toInt_signExtend_of_le hn]; rfl
  have e2 : (((x.setWidth n).signExtend 64).sshiftRight k).toInt = sg n x / (2 : Int) ^ k := by
    rw [BitVec.toInt_sshiftRight, e1, Int.shiftRight_eq_div_pow]
    norm_cast
  rw [← e2, BitVec.ofInt_toInt]
theorem sar_bits {n k : Nat} (h0 : 1 ≤ n) (hn : n ≤ 64) (hk : k < n) (x : W64) : zhf 27 n x k (((x.setWidth n).signExtend 64).sshiftRight k &&& msk n) := fun j => by
  rw [BitVec.getLsbD_and, ziJ, BitVec.getLsbD_sshiftRight]
  have hat : atM 27 n k j = some (min (j + k) (n - 1)) := by
    unfold atM
    rw [if_neg (by decide), if_neg (by decide), if_pos rfl]
  rw [hat]
  show _ = (decide (j < n) && x.getLsbD (min (j + k) (n - 1)))
  by_cases hj : j < n
  · have h64 : j < 64 := by omega
    rw [decide_eq_true h64, decide_eq_true hj, decide_eq_false (show ¬ 64 ≤ j by omega)]
    have hs : ∀ i, i < 64 → ((x.setWidth n).signExtend 64).getLsbD i = x.getLsbD (min i (n - 1)) := fun i hi => by
      rw [BitVec.getLsbD_signExtend, BitVec.msb_eq_getLsbD_last, BitVec.getLsbD_setWidth, BitVec.getLsbD_setWidth]
      by_cases q : i < n
      · rw [if_pos q, Nat.min_eq_left (by omega)]; simp [hi, q]
      · rw [if_neg q, Nat.min_eq_right (by omega)]; simp [hi, show n - 1 < n by omega]
    have hm : ((x.setWidth n).signExtend 64).msb = x.getLsbD (n - 1) := by
      rw [BitVec.msb_eq_getLsbD_last, hs (64 - 1) (by decide), Nat.min_eq_right (by omega)]
    by_cases hjk : k + j < 64
    · rw [if_pos hjk, hs _ hjk, Nat.add_comm k j]; simp
    · rw [if_neg hjk, hm, Nat.min_eq_right (by omega)]; simp
  · rw [decide_eq_false hj]; simp
theorem shl_bits {n k : Nat} (hn : n ≤ 64) (hk : k < n) {x : W64} : zhf 25 n x k (x <<< k &&& msk n) := fun j => by
  rw [BitVec.getLsbD_and, ziJ, BitVec.getLsbD_shiftLeft]
  unfold atM bitAt
  rw [if_pos rfl]
  by_cases hj : j < n
  · have h64 : j < 64 := by omega
    by_cases hk2 : k ≤ j
    · rw [if_pos hk2]; simp [hj, h64, show ¬ j < k by omega]
    · rw [if_neg hk2]; simp [show j < k by omega]
  · rw [decide_eq_false hj]; simp
theorem shr_bits {n k : Nat} (hn : n ≤ 64) (hk : k < n) {x : W64} (hx : x.toNat ≤ (msk n).toNat) : zhf 26 n x k (x >>> k) := fun j => by
  have hz := (zbm hn).1 hx
  rw [BitVec.getLsbD_ushiftRight]
  unfold atM bitAt
  rw [if_neg (by decide), if_pos rfl]
  by_cases hj : j + k < n
  · rw [if_pos hj, Nat.add_comm k j]; simp [show j < n by omega]
  · rw [if_neg hj, hz _ (by omega)]; simp
theorem znq {n k : Nat} (hn : n ≤ 64) (hk : k < n) {x : W64} (hx : x.toNat ≤ (msk n).toNat) (j : Nat) : ((x <<< k ||| x >>> (n - k)) &&& msk n).getLsbD j = (decide (j < n) && x.getLsbD ((j + n - k) % n)) := by
  have hz := (zbm hn).1 hx
  rw [BitVec.getLsbD_and, ziJ, BitVec.getLsbD_or, BitVec.getLsbD_shiftLeft, BitVec.getLsbD_ushiftRight]
  by_cases hj : j < n
  · have h64 : j < 64 := by omega
    by_cases hk2 : k ≤ j
    · have : (j + n - k) % n = j - k := by
        rw [show j + n - k = (j - k) + n by omega, Nat.add_mod_right, Nat.mod_eq_of_lt (by omega)]
      rw [this, hz (n - k + j) (by omega)]
      simp [hj, h64, show ¬ j < k by omega]
    · have : (j + n - k) % n = n - k + j := by
        rw [Nat.mod_eq_of_lt (by omega)]; omega
      rw [this]
      simp [hj, h64, show j < k by omega]
  · rw [decide_eq_false hj]; simp
theorem p_moved {op : Int} (hop : 25 ≤ op ∧ op ≤ 29) {n k : Nat} (h0 : 1 ≤ n) (hn : n ≤ 64) (hk : k < n) {x : W64} (hx : x.toNat ≤ (msk n).toNat) (H : Hp) : ∃ v : W64, zhf op n x k v ∧ RR F.a31 [.int .i64 op, .int .i64 (n : Int), wv x, .int .i64 (k : Int)] H = some (wv v, H) := by
  have hr := zk8 E0 rfl (.int .i64 op) (.int .i64 (n : Int)) (wv x) (.int .i64 (k : Int)) H
  unfold zgY at hr
  rw [za0, zac] at hr
  by_cases h25 : op = 25
  · subst h25
    rw [decide_eq_true rfl, za1, cu64 _ (by omega), b_shl, zag (zbu h0 hn _ H)] at hr
    exact ⟨_, shl_bits hn hk, hr⟩
  rw [decide_eq_false h25, zaK, za0, zac] at hr
  by_cases h26 : op = 26
  · subst h26
    rw [decide_eq_true rfl, za1, cu64 _ (by omega), b_shr] at hr
    exact ⟨_, shr_bits hn hk hx, hr⟩
  rw [decide_eq_false h26, zaK, za0, zac] at hr
  by_cases h27 : op = 27
  · subst h27
    have hc : ∀ (a : Int) (f : Value → Option (Value × Hp)), zan .u64 (.int .i64 a) f = f (wv (BitVec.ofInt 64 a)) := fun a f => by
      rw [zgP, zdJ]
    rw [decide_eq_true rfl, za1, zag (zhn h0 hn x H), cu64 _ (by omega), i_shr _ _ _ _ (by omega), hc, zmB h0 hn, zag (zbu h0 hn _ H)] at hr
    exact ⟨_, sar_bits h0 hn hk x, hr⟩
  rw [decide_eq_false h27, zaK, za0, zac] at hr
  by_cases h29 : op = 29
  · subst h29
    have e1 : IntKind.i64.wrap ((n : Int) - (k : Int)) = ((n - k : Nat) : Int) := by rw [zaz (by omega) (by omega)]; omega
    have e2 : (((n - k : Nat) : Int)).tmod (n : Int) = (((n - k) % n : Nat) : Int) := rfl
    have hlt : (n - k) % n < n := Nat.mod_lt _ (by omega)
    have e3 : IntKind.i64.wrap ((n : Int) - (((n - k) % n : Nat) : Int)) = ((n - (n - k) % n : Nat) : Int) := by rw [zaz (by omega) (by omega)]; omega
    rw [decide_eq_true rfl, za1, zdr, e1, s_rem _ _ _ _ (by omega), e2, cu64 _ (by omega), b_shl, zdr, e3, cu64 _ (by omega), b_shr, b_or, zag (zbu h0 hn _ H)] at hr
    refine ⟨_, fun j => ?_, hr⟩
    rw [znq hn hlt hx]
    unfold atM bitAt
    rw [if_neg (by decide), if_neg (by decide), if_neg (by decide), if_neg (by decide)]
    dsimp only
    by_cases hj : j < n
    · have : (j + n - (n - k) % n) % n = (j + k) % n := by
        by_cases hk0 : k = 0
        · subst hk0
          rw [Nat.sub_zero, Nat.mod_self, Nat.sub_zero, Nat.add_mod_right, Nat.add_zero]
        · rw [Nat.mod_eq_of_lt (show n - k < n by omega), show j + n - (n - k) = j + k by omega]
      rw [this]
    · rw [decide_eq_false hj]; rfl
  have h28 : op = 28 := by omega
  subst h28
  have e1 : IntKind.i64.wrap ((n : Int) - (k : Int)) = ((n - k : Nat) : Int) := by rw [zaz (by omega) (by omega)]; omega
  rw [decide_eq_false h29, zaK, cu64 _ (by omega), b_shl, zdr, e1, cu64 _ (by omega), b_shr, b_or, zag (zbu h0 hn _ H)] at hr
  refine ⟨_, fun j => ?_, hr⟩
  rw [znq hn hk hx]
  unfold atM bitAt
  rw [if_neg (by decide), if_neg (by decide), if_neg (by decide), if_pos rfl]
end Go.AM.N14
namespace Go.AM.N14
open Go Go.AM
open Classical in
noncomputable def movW (op : Int) (n : Nat) (x : W64) (k : Nat) : W64 := if h : ∃ v, zhf op n x k v then Classical.choose h else 0#64
theorem movW_eq {op : Int} {n : Nat} {x : W64} {k : Nat} {v : W64} (h : zhf op n x k v) : movW op n x k = v := by
  have hx : ∃ v, zhf op n x k v := ⟨v, h⟩
  unfold movW
  rw [dif_pos hx]
  exact zhf.eq (Classical.choose_spec hx) h
theorem p_mov {op : Int} (hop : 25 ≤ op ∧ op ≤ 29) {n k : Nat} (h0 : 1 ≤ n) (hn : n ≤ 64) (hk : k < n) {x : W64} (hx : x.toNat ≤ (msk n).toNat) (H : Hp) : RR F.a31 [.int .i64 op, .int .i64 (n : Int), wv x, .int .i64 (k : Int)] H = some (wv (movW op n x k), H) := by
  obtain ⟨v, h1, h2⟩ := p_moved hop h0 hn hk hx H
  rw [movW_eq h1]; exact h2
theorem zdA {n : Nat} (hn : n ≤ 64) (x : W64) : (x &&& msk n).toNat ≤ (msk n).toNat := (zbm hn).2 fun j hj => by rw [BitVec.getLsbD_and, ziJ]; simp [show ¬ j < n by omega]
theorem zjs {n : Nat} (hn : n ≤ 64) {x : W64} (h : x.toNat ≤ (msk n).toNat) : x &&& msk n = x := bit_eq fun j => by
  rw [BitVec.getLsbD_and, ziJ]
  by_cases hj : j < n
  · simp [hj, show j < 64 by omega]
  · rw [(zbm hn).1 h j (by omega)]; rfl
theorem b_quo {α : Type} {P : Program} (T : TypeId) {a b : W64} (hb : b ≠ 0#64) (k : Value → Option α) : pBin P .quo T (wv a) (wv b) k = k (wv (a / b)) := by
  have hb2 : (b.toNat : Int) ≠ 0 := fun q => hb (BitVec.eq_of_toNat_eq (by simpa using q))
  have : binV P .quo T (wv a) (wv b) = some (wv (a / b)) := by
    show (if (b.toNat : Int) = 0 then none else some (Value.int .u64 (IntKind.u64.wrap ((a.toNat : Int).tdiv (b.toNat : Int))))) = _
    rw [if_neg hb2]
    have e : ((a.toNat : Int).tdiv (b.toNat : Int)) = (((a / b).toNat : Nat) : Int) := by rw [BitVec.toNat_udiv]; rfl
    rw [e, ziE]; rfl
  unfold pBin; rw [this]
theorem b_rem {α : Type} {P : Program} (T : TypeId) {a b : W64} (hb : b ≠ 0#64) (k : Value → Option α) : pBin P .rem T (wv a) (wv b) k = k (wv (a % b)) := by
  have hb2 : (b.toNat : Int) ≠ 0 := fun q => hb (BitVec.eq_of_toNat_eq (by simpa using q))
  have e : ((a.toNat : Int).tmod (b.toNat : Int)) = (((a % b).toNat : Nat) : Int) := by rw [BitVec.toNat_umod]; rfl
  show pBin P .rem T (.int .u64 (a.toNat : Int)) (.int .u64 (b.toNat : Int)) k = _
  rw [s_rem _ _ _ _ hb2, e]; rfl
noncomputable def binW (op : Int) (n : Nat) (x y : W64) : W64 :=
  let X := x &&& msk n
  let Y := y &&& msk n
  if op = 17 then X &&& Y else if op = 18 then X ||| Y else if op = 19 then X ^^^ Y else if op = 20 then (X + Y) &&& msk n else if op = 21 then (X - Y) &&& msk n else if op = 22 then (X * Y) &&& msk n
  else if op = 23 then (if Y = 0#64 then msk n else X / Y) else if op = 24 then (if Y = 0#64 then X else X % Y) else movW op n X (Y.toNat % n)
theorem zkk {op : Int} (H : Hp) : RR F.a32 [.int .i64 op] H = some (.bool (decide (25 ≤ op ∧ op ≤ 29)), H) := by
  refine (zkd E0 rfl _ _).trans ?_
  unfold zf5
  rw [zde, zac]
  by_cases h : op ≥ 25
  · rw [decide_eq_true h, za1, zfp]
    congr 3
    simp [show (25 : Int) ≤ op from h]
  · rw [decide_eq_false h, zaK]
    congr 3
    simp [show ¬ (25 : Int) ≤ op from h]
theorem mod_bits {n : Nat} (hn : n ≤ 64) (h0 : 1 ≤ n) {α : Type} (Y : W64) (k : Value → Option α) : (pBin PP .rem T.uint64 (wv Y) (.int .u64 (n : Int)) fun v => zan .i64 v k) = k (.int .i64 ((Y.toNat % n : Nat) : Int)) := by
  unfold wv
  rw [s_rem _ _ _ _ (by omega)]
  have e : ((Y.toNat : Int).tmod (n : Int)) = ((Y.toNat % n : Nat) : Int) := rfl
  have hlt : Y.toNat % n < n := Nat.mod_lt _ (by omega)
  rw [e, zgP, zaz (by omega) (by omega)]
theorem p_bin {op : Int} (hop : 17 ≤ op ∧ op ≤ 29) {n : Nat} (h0 : 1 ≤ n) (hn : n ≤ 64) (hs : 25 ≤ op → isPow (n : Int) = true) (x y : W64) (H : Hp) : RR F.a49 [.int .i64 op, .int .i64 (n : Int), wv x, wv y] H = some (.tuple #[wv (binW op n x y), .int .i64 0], H) := by
  have hr := zov E0 rfl (.int .i64 op) (.int .i64 (n : Int)) (wv x) (wv y) H
  unfold zjz at hr
  have hX := zdA hn x
  have hY := zdA hn y
  rw [lF (by omega), zb1, bF (by omega), zap, za3, zag (zcS h0 hn H), zbE, zac, show (!true) = false from rfl, zaK, zag (zkk H), zac] at hr
  unfold binW
  dsimp only
  by_cases h25 : 25 ≤ op
  · have hsh : decide (25 ≤ op ∧ op ≤ 29) = true := decide_eq_true ⟨h25, hop.2⟩
    have hpop : decide (pops.getD n 0 = 1) = true := (znw n (by omega)).trans (hs h25)
    have hone : pops.getD n 0 = 1 := of_decide_eq_true hpop
    have e53 := c53 (n : Int) (by omega) (by omega) H
    rw [Int.toNat_natCast, hone] at e53
    have hlt : (y &&& msk n).toNat % n < n := Nat.mod_lt _ (by omega)
    rw [hsh, za1, cu64 _ (by omega), zag e53, zbo, bF (by decide), zap, za3, zag (zbu h0 hn x H), zag (zbu h0 hn y H), zag (zkk H), hsh, zac, za1, cu64 _ (by omega), mod_bits hn h0, zag (p_mov ⟨h25, hop.2⟩ h0 hn hlt hX H)] at hr
    rw [if_neg (by omega), if_neg (by omega), if_neg (by omega), if_neg (by omega), if_neg (by omega), if_neg (by omega), if_neg (by omega), if_neg (by omega)]
    exact hr
  have hsh : decide (25 ≤ op ∧ op ≤ 29) = false := decide_eq_false (by omega)
  rw [hsh, zaK, zap, za3, zag (zbu h0 hn x H), zag (zbu h0 hn y H), zag (zkk H), hsh, zac, zaK, za0, zac] at hr
  generalize x &&& msk n = X at *
  generalize y &&& msk n = Y at *
  by_cases h17 : op = 17
  · rw [decide_eq_true h17, za1, b_and, zag (zbu h0 hn _ H)] at hr
    have e : (X &&& Y) &&& msk n = X &&& Y := zjs hn ((zbm hn).2 fun j hj => by simp only [BitVec.getLsbD_and, BitVec.getLsbD_or, BitVec.getLsbD_xor, (zbm hn).1 hX j hj, (zbm hn).1 hY j hj]; rfl)
    rw [e] at hr
    rw [if_pos h17]
    exact hr
  rw [decide_eq_false h17, zaK, za0, zac] at hr
  by_cases h18 : op = 18
  · rw [decide_eq_true h18, za1, b_or, zag (zbu h0 hn _ H)] at hr
    have e : (X ||| Y) &&& msk n = X ||| Y := zjs hn ((zbm hn).2 fun j hj => by simp only [BitVec.getLsbD_and, BitVec.getLsbD_or, BitVec.getLsbD_xor, (zbm hn).1 hX j hj, (zbm hn).1 hY j hj]; rfl)
    rw [e] at hr
    rw [if_neg h17, if_pos h18]
    exact hr
  rw [decide_eq_false h18, zaK, za0, zac] at hr
  by_cases h19 : op = 19
  · rw [decide_eq_true h19, za1, b_xor, zag (zbu h0 hn _ H)] at hr
    have e : (X ^^^ Y) &&& msk n = X ^^^ Y := zjs hn ((zbm hn).2 fun j hj => by simp only [BitVec.getLsbD_and, BitVec.getLsbD_or, BitVec.getLsbD_xor, (zbm hn).1 hX j hj, (zbm hn).1 hY j hj]; rfl)
    rw [e] at hr
    rw [if_neg h17, if_neg h18, if_pos h19]
    exact hr
  rw [decide_eq_false h19, zaK, za0, zac] at hr
  by_cases h20 : op = 20
  · rw [decide_eq_true h20, za1, b_add, zag (zbu h0 hn _ H)] at hr
    rw [if_neg h17, if_neg h18, if_neg h19, if_pos h20]
    exact hr
  rw [decide_eq_false h20, zaK, za0, zac] at hr
  by_cases h21 : op = 21
  · rw [decide_eq_true h21, za1, b_sub, zag (zbu h0 hn _ H)] at hr
    rw [if_neg h17, if_neg h18, if_neg h19, if_neg h20, if_pos h21]
    exact hr
  rw [decide_eq_false h21, zaK, za0, zac] at hr
  by_cases h22 : op = 22
  · rw [decide_eq_true h22, za1, b_mul, zag (zbu h0 hn _ H)] at hr
    rw [if_neg h17, if_neg h18, if_neg h19, if_neg h20, if_neg h21, if_pos h22]
    exact hr
  rw [decide_eq_false h22, zaK, za0, zac] at hr
  have hz : ∀ (k : Value → Option (Value × Hp)), pBin PP .neq T.uint64 (wv Y) (.int .u64 0) k = k (.bool (!decide (Y = 0#64))) := fun k => b_neq _ _ 0#64 k
  by_cases h23 : op = 23
  · rw [decide_eq_true h23, za1, hz, zac] at hr
    rw [if_neg h17, if_neg h18, if_neg h19, if_neg h20, if_neg h21, if_neg h22, if_pos h23]
    by_cases hy : Y = 0#64
    · rw [decide_eq_true hy, show (!true) = false from rfl, zaK, u_all, zag (zbu h0 hn _ H), show msk 64 &&& msk n = msk n by rw [msk_all, BitVec.allOnes_and]] at hr
      rw [if_pos hy]; exact hr
    · rw [decide_eq_false hy, show (!false) = true from rfl, za1, b_quo _ hy, zag (zbu h0 hn _ H), zjs hn (by rw [BitVec.toNat_udiv]; exact Nat.le_trans (Nat.div_le_self _ _) hX)] at hr
      rw [if_neg hy]; exact hr
  rw [decide_eq_false h23, zaK, za0, zac] at hr
  have h24 : op = 24 := by omega
  rw [decide_eq_true h24, za1, hz, zac] at hr
  rw [if_neg h17, if_neg h18, if_neg h19, if_neg h20, if_neg h21, if_neg h22, if_neg h23, if_pos h24]
  by_cases hy : Y = 0#64
  · rw [decide_eq_true hy, show (!true) = false from rfl, zaK, zag (zbu h0 hn _ H), zjs hn hX] at hr
    rw [if_pos hy]; exact hr
  · rw [decide_eq_false hy, show (!false) = true from rfl, za1, b_rem _ hy, zag (zbu h0 hn _ H), zjs hn (by rw [BitVec.toNat_umod]; exact Nat.le_trans (Nat.mod_le _ _) hX)] at hr
    rw [if_neg hy]; exact hr
end Go.AM.N14
namespace Go.AM.N14
open Go Go.AM
def unW (op : Int) (n : Nat) (x : W64) : W64 := if op = 15 then ~~~x &&& msk n else (0#64 - x) &&& msk n
def cmpW (op : Int) (n : Nat) (x y : W64) : Bool :=
  let X := x &&& msk n
  let Y := y &&& msk n
  if op = 9 then decide (X = Y) else if op = 10 then decide (X.toNat < Y.toNat) else if op = 11 then decide (X.toNat ≤ Y.toNat) else if op = 12 then decide (sg n X < sg n Y) else decide (sg n X ≤ sg n Y)
def catW (n : Nat) (x : W64) (m : Nat) (y : W64) : W64 := (x &&& msk n) <<< m ||| (y &&& msk m)
def sliceW (n : Nat) (x : W64) (i m : Nat) : W64 := (x &&& msk n) >>> i &&& msk m
def extW (op : Int) (n : Nat) (x : W64) (m : Nat) : W64 := if op = 32 then x &&& msk n else BitVec.ofInt 64 (sg n x) &&& msk m
theorem b_neg {α : Type} (x : W64) (k : Value → Option α) : pUn .neg (wv x) k = k (wv (0#64 - x)) := by
  show k (.int .u64 (IntKind.u64.wrap (0 - (x.toNat : Int)))) = _
  rw [zdJ]
  congr 2
  rw [BitVec.zero_sub]
  apply BitVec.eq_of_toNat_eq
  rw [BitVec.toNat_ofInt, BitVec.toNat_neg]
  have := x.isLt
  omega
theorem ci_u64 {α : Type} (a : Int) (f : Value → Option α) : zan .u64 (.int .i64 a) f = f (wv (BitVec.ofInt 64 a)) := by
  rw [zgP, zdJ]
theorem p_un {op : Int} (hop : op = 15 ∨ op = 16) {n : Nat} (h0 : 1 ≤ n) (hn : n ≤ 64) (x : W64) (H : Hp) : RR F.a55 [.int .i64 op, .int .i64 (n : Int), wv x] H = some (.tuple #[wv (unW op n x), .int .i64 0], H) := by
  have hr := r_bits_Un E0 rfl (.int .i64 op) (.int .i64 (n : Int)) (wv x) H
  unfold zly at hr
  unfold unW
  rcases hop with rfl | rfl
  · rw [zbo, bF (by decide), zag (zcS h0 hn H), zbE, zac, show (!true) = false from rfl, zaK, eT rfl, b_not, zag (zbu h0 hn _ H)] at hr
    rw [if_pos rfl]; exact hr
  · have hneg : ∀ (f : Value → Option (Value × Hp)), pUn .neg (wv x) f = f (wv (0#64 - x)) := fun f => b_neg x f
    rw [zbo, bT (by decide), zbo, bF (by decide), zag (zcS h0 hn H), zbE, zac, show (!true) = false from rfl, zaK, eF (by decide), hneg, zag (zbu h0 hn _ H)] at hr
    rw [if_neg (by decide)]; exact hr
theorem p_cmp {op : Int} (hop : 9 ≤ op ∧ op ≤ 13) {n : Nat} (h0 : 1 ≤ n) (hn : n ≤ 64) (x y : W64) (H : Hp) : RR F.a51 [.int .i64 op, .int .i64 (n : Int), wv x, wv y] H = some (.tuple #[.bool (cmpW op n x y), .int .i64 0], H) := by
  have hr := zot E0 rfl (.int .i64 op) (.int .i64 (n : Int)) (wv x) (wv y) H
  unfold zjx at hr
  rw [lF (by omega), zb1, bF (by omega), zap, za3, zag (zcS h0 hn H), zbE, zac, show (!true) = false from rfl, zaK, zag (zbu h0 hn x H), zag (zbu h0 hn y H), zag (zhn h0 hn _ H), zag (zhn h0 hn _ H), za0, zac] at hr
  unfold cmpW
  dsimp only
  by_cases h9 : op = 9
  · rw [decide_eq_true h9, za1, b_eql] at hr
    rw [if_pos h9]; exact hr
  rw [decide_eq_false h9, zaK, za0, zac] at hr
  by_cases h10 : op = 10
  · rw [decide_eq_true h10, za1, b_lss] at hr
    rw [if_neg h9, if_pos h10]; exact hr
  rw [decide_eq_false h10, zaK, za0, zac] at hr
  by_cases h11 : op = 11
  · rw [decide_eq_true h11, za1, b_leq] at hr
    rw [if_neg h9, if_neg h10, if_pos h11]; exact hr
  rw [decide_eq_false h11, zaK, za0, zac] at hr
  by_cases h12 : op = 12
  · rw [decide_eq_true h12, za1, zbc] at hr
    rw [if_neg h9, if_neg h10, if_neg h11, if_pos h12]; exact hr
  rw [decide_eq_false h12, zaK, zfp] at hr
  rw [if_neg h9, if_neg h10, if_neg h11, if_neg h12]; exact hr
theorem p_cat {n m : Nat} (h0 : 1 ≤ n) (h1 : 1 ≤ m) (hs : n + m ≤ 64) (x y : W64) (H : Hp) : RR F.a50 [.int .i64 (n : Int), wv x, .int .i64 (m : Int), wv y] H = some (.tuple #[wv (catW n x m y), .int .i64 0], H) := by
  have hn : n ≤ 64 := by omega
  have hm : m ≤ 64 := by omega
  have hr := zou E0 rfl (.int .i64 (n : Int)) (wv x) (.int .i64 (m : Int)) (wv y) H
  unfold zjy at hr
  rw [zag (zcS h0 hn H), zbE, zac, show (!true) = false from rfl, zaK, zag (zcS h1 hm H), zbE, zac, show (!true) = false from rfl, zaK, za5, zaz (by omega) (by omega), zb1, bF (by omega), zag (zbu h0 hn x H), cu64 _ (by omega), b_shl, zag (zbu h1 hm y H), b_or] at hr
  exact hr
theorem p_slice {n i m : Nat} (h0 : 1 ≤ n) (hn : n ≤ 64) (h1 : 1 ≤ m) (hs : i + m ≤ n) (x : W64) (H : Hp) : RR F.a54 [.int .i64 (n : Int), wv x, .int .i64 (i : Int), .int .i64 (m : Int)] H = some (.tuple #[wv (sliceW n x i m), .int .i64 0], H) := by
  have hm : m ≤ 64 := by omega
  have hr := zk9 E0 rfl (.int .i64 (n : Int)) (wv x) (.int .i64 (i : Int)) (.int .i64 (m : Int)) H
  unfold zgZ at hr
  rw [zag (zcS h0 hn H), zbE, zac, show (!true) = false from rfl, zaK, lF (by omega), lF (by omega), zb1, bF (by omega), zdr, zaz (by omega) (by omega), zb1, bF (by omega), zap, za3, zag (zbu h0 hn x H), cu64 _ (by omega), b_shr, zag (zbu h1 hm _ H)] at hr
  exact hr
theorem p_ext {op : Int} (hop : op = 32 ∨ op = 33) {n m : Nat} (h0 : 1 ≤ n) (hs : n ≤ m) (hm : m ≤ 64) (x : W64) (H : Hp) : RR F.a52 [.int .i64 op, .int .i64 (n : Int), wv x, .int .i64 (m : Int)] H = some (.tuple #[wv (extW op n x m), .int .i64 0], H) := by
  have hn : n ≤ 64 := by omega
  have h1 : 1 ≤ m := by omega
  have hr := zos E0 rfl (.int .i64 op) (.int .i64 (n : Int)) (wv x) (.int .i64 (m : Int)) H
  unfold zjw at hr
  unfold extW
  rcases hop with rfl | rfl
  · rw [zbo, bF (by decide), zap, za3, zag (zcS h0 hn H), zbE, zac, show (!true) = false from rfl, zaK, zag (zcS h1 hm H), zbE, zac, show (!true) = false from rfl, zaK, lF (by omega), zap, za3, eT rfl, zag (zbu h0 hn _ H)] at hr
    rw [if_pos rfl]; exact hr
  · rw [zbo, bT (by decide), zbo, bF (by decide), zap, za3, zag (zcS h0 hn H), zbE, zac, show (!true) = false from rfl, zaK, zag (zcS h1 hm H), zbE, zac, show (!true) = false from rfl, zaK, lF (by omega), zap, za3, eF (by decide), zag (zhn h0 hn _ H), ci_u64, zag (zbu h1 hm _ H)] at hr
    rw [if_neg (by decide)]; exact hr
end Go.AM.N14
namespace Go.AM.N14
open Go Go.AM
def b2w (c : Bool) : W64 := if c = true then 1#64 else 0#64
noncomputable def valW (n : Nd) (wa wb : Nat) (a b c : W64) : W64 :=
  if n.op = 1 then 1#64 else if n.op = 2 then 0#64 else if n.op = 3 then BitVec.ofInt 64 n.num else if n.op = 5 then 1#64 - a else if n.op = 6 then a &&& b else if n.op = 7 then a ||| b else if n.op = 8 then a ^^^ b else if n.op = 9 then b2w (decide (a = b))
  else if n.op ≤ 13 then b2w (cmpW n.op wa a b) else if n.op = 14 then (if a = 1#64 then b else c) else if n.op ≤ 16 then unW n.op wa a else if n.op ≤ 29 then binW n.op wa a b else if n.op = 30 then catW wa a wb b
  else if n.op = 31 then sliceW wa a n.num.toNat n.w.toNat else extW n.op wa a n.w.toNat
structure Vok (n : Nd) (wa wb : Nat) (a b : W64) : Prop where
  op : 1 ≤ n.op ∧ n.op ≤ 33 ∧ n.op ≠ 4
  num : 0 ≤ n.num ∧ n.num < 18446744073709551616
  t : 6 ≤ n.op → n.op ≤ 8 → a.toNat ≤ 1 ∧ b.toNat ≤ 1
  cmp : 10 ≤ n.op → n.op ≤ 13 → 1 ≤ wa ∧ wa ≤ 64
  un : 15 ≤ n.op → n.op ≤ 29 → n.w = wa ∧ 1 ≤ wa ∧ wa ≤ 64
  sh : 25 ≤ n.op → n.op ≤ 29 → isPow (wa : Int) = true
  cat : n.op = 30 → 1 ≤ wa ∧ 1 ≤ wb ∧ wa + wb ≤ 64
  sl : n.op = 31 → 1 ≤ wa ∧ wa ≤ 64 ∧ 1 ≤ n.w ∧ n.num + n.w ≤ wa
  ext : 32 ≤ n.op → 1 ≤ wa ∧ (wa : Int) ≤ n.w ∧ n.w ≤ 64
theorem p_one (c : Bool) (H : Hp) : RR F.a36 [.bool c] H = some (wv (b2w c), H) := by
  refine (zor E0 rfl _ _).trans ?_
  unfold zjv
  rw [zac]
  cases c <;> rfl
theorem num_wv {x : Int} (h : 0 ≤ x ∧ x < 18446744073709551616) : Value.int .u64 x = wv (BitVec.ofInt 64 x) := by
  rw [← zdJ, zhh h.1 (by omega)]
theorem tr01 {a : W64} (h : a.toNat ≤ 1) : a = 0#64 ∨ a = 1#64 := by
  rcases (show a.toNat = 0 ∨ a.toNat = 1 by omega) with q | q
  · exact .inl (BitVec.eq_of_toNat_eq q)
  · exact .inr (BitVec.eq_of_toNat_eq q)
theorem one_sub {α : Type} (a : W64) (k : Value → Option α) : pBin PP .sub T.uint64 (.int .u64 1) (wv a) k = k (wv (1#64 - a)) := b_sub _ 1#64 a k
theorem p_node {n : Nd} {wa wb : Nat} {a b : W64} (h : Vok n wa wb a b) (c : W64) (H : Hp) : RR F.a58 [n.val, wv a, wv b, wv c, .int .i64 (wa : Int), .int .i64 (wb : Int)] H = some (wv (valW n wa wb a b c), H) := by
  have hr := zmj E0 rfl n.val (wv a) (wv b) (wv c) (.int .i64 (wa : Int)) (.int .i64 (wb : Int)) H
  unfold zih at hr
  have hop := h.op
  have hnum := h.num
  unfold valW
  rw [n0, za0, zac] at hr
  by_cases h1 : n.op = 1
  · rw [decide_eq_true h1, za1] at hr
    rw [if_pos h1]
    exact hr
  rw [decide_eq_false h1, zaK, za0, zac] at hr
  by_cases h2 : n.op = 2
  · rw [decide_eq_true h2, za1] at hr
    rw [if_neg h1, if_pos h2]
    exact hr
  rw [decide_eq_false h2, zaK, za0, zac] at hr
  by_cases h3 : n.op = 3
  · rw [decide_eq_true h3, za1, n5, num_wv hnum] at hr
    rw [if_neg h1, if_neg h2, if_pos h3]
    exact hr
  rw [decide_eq_false h3, zaK, za0, zac] at hr
  by_cases h5 : n.op = 5
  · rw [decide_eq_true h5, za1, one_sub] at hr
    rw [if_neg h1, if_neg h2, if_neg h3, if_pos h5]
    exact hr
  rw [decide_eq_false h5, zaK, za0, zac] at hr
  by_cases h6 : n.op = 6
  · rw [decide_eq_true h6, za1, b_and] at hr
    rw [if_neg h1, if_neg h2, if_neg h3, if_neg h5, if_pos h6]
    exact hr
  rw [decide_eq_false h6, zaK, za0, zac] at hr
  by_cases h7 : n.op = 7
  · rw [decide_eq_true h7, za1, b_or] at hr
    rw [if_neg h1, if_neg h2, if_neg h3, if_neg h5, if_neg h6, if_pos h7]
    exact hr
  rw [decide_eq_false h7, zaK, za0, zac] at hr
  by_cases h8 : n.op = 8
  · rw [decide_eq_true h8, za1, b_xor] at hr
    rw [if_neg h1, if_neg h2, if_neg h3, if_neg h5, if_neg h6, if_neg h7, if_pos h8]
    exact hr
  rw [decide_eq_false h8, zaK, za0, zac] at hr
  by_cases h9 : n.op = 9
  · rw [decide_eq_true h9, za1, b_eql, zag (p_one _ H)] at hr
    rw [if_neg h1, if_neg h2, if_neg h3, if_neg h5, if_neg h6, if_neg h7, if_neg h8, if_pos h9]
    exact hr
  rw [decide_eq_false h9, zaK, zfp, zac] at hr
  by_cases h13 : n.op ≤ 13
  · rw [decide_eq_true h13, za1, zag (p_cmp ⟨by omega, h13⟩ (h.cmp (by omega) h13).1 (h.cmp (by omega) h13).2 a b H), x01, zag (p_one _ H)] at hr
    rw [if_neg h1, if_neg h2, if_neg h3, if_neg h5, if_neg h6, if_neg h7, if_neg h8, if_neg h9, if_pos h13]
    exact hr
  rw [decide_eq_false h13, zaK, za0, zac] at hr
  by_cases h14 : n.op = 14
  · have hz : ∀ (k : Value → Option (Value × Hp)), pBin PP .eql T.uint64 (wv a) (.int .u64 1) k = k (.bool (decide (a = 1#64))) := fun k => b_eql _ a 1#64 k
    rw [decide_eq_true h14, za1, hz, zac] at hr
    rw [if_neg h1, if_neg h2, if_neg h3, if_neg h5, if_neg h6, if_neg h7, if_neg h8, if_neg h9, if_neg h13, if_pos h14]
    by_cases q : a = 1#64
    · rw [decide_eq_true q, za1] at hr
      rw [if_pos q]; exact hr
    · rw [decide_eq_false q, zaK] at hr
      rw [if_neg q]; exact hr
  rw [decide_eq_false h14, zaK, zfp, zac] at hr
  by_cases h16 : n.op ≤ 16
  · obtain ⟨g1, g2, g3⟩ := h.un (by omega) (by omega)
    rw [decide_eq_true h16, za1, n1, g1, zag (p_un (by omega) g2 g3 a H), x01] at hr
    rw [if_neg h1, if_neg h2, if_neg h3, if_neg h5, if_neg h6, if_neg h7, if_neg h8, if_neg h9, if_neg h13, if_neg h14, if_pos h16]
    exact hr
  rw [decide_eq_false h16, zaK, zfp, zac] at hr
  by_cases h29 : n.op ≤ 29
  · obtain ⟨g1, g2, g3⟩ := h.un (by omega) h29
    rw [decide_eq_true h29, za1, n1, g1, zag (p_bin ⟨by omega, h29⟩ g2 g3 (fun q => h.sh q h29) a b H), x01] at hr
    rw [if_neg h1, if_neg h2, if_neg h3, if_neg h5, if_neg h6, if_neg h7, if_neg h8, if_neg h9, if_neg h13, if_neg h14, if_neg h16, if_pos h29]
    exact hr
  rw [decide_eq_false h29, zaK, za0, zac] at hr
  by_cases h30 : n.op = 30
  · obtain ⟨g1, g2, g3⟩ := h.cat h30
    rw [decide_eq_true h30, za1, zag (p_cat g1 g2 g3 a b H), x01] at hr
    rw [if_neg h1, if_neg h2, if_neg h3, if_neg h5, if_neg h6, if_neg h7, if_neg h8, if_neg h9, if_neg h13, if_neg h14, if_neg h16, if_neg h29, if_pos h30]
    exact hr
  rw [decide_eq_false h30, zaK, za0, zac] at hr
  by_cases h31 : n.op = 31
  · obtain ⟨g1, g2, g3, g4⟩ := h.sl h31
    have e1 : n.num = ((n.num.toNat : Nat) : Int) := (Int.toNat_of_nonneg hnum.1).symm
    have e2 : n.w = ((n.w.toNat : Nat) : Int) := (Int.toNat_of_nonneg (by omega)).symm
    have g5 := p_slice (n := wa) (i := n.num.toNat) (m := n.w.toNat) g1 g2 (by omega) (by omega) a H
    rw [← e1, ← e2] at g5
    rw [decide_eq_true h31, za1, n5, zgP, zaz (by omega) (by omega), n1, zag g5, x01] at hr
    rw [if_neg h1, if_neg h2, if_neg h3, if_neg h5, if_neg h6, if_neg h7, if_neg h8, if_neg h9, if_neg h13, if_neg h14, if_neg h16, if_neg h29, if_neg h30, if_pos h31]
    exact hr
  rw [decide_eq_false h31, zaK, n0, n1] at hr
  obtain ⟨g1, g2, g3⟩ := h.ext (by omega)
  have e2 : n.w = ((n.w.toNat : Nat) : Int) := (Int.toNat_of_nonneg (by omega)).symm
  have g5 := p_ext (op := n.op) (n := wa) (m := n.w.toNat) (by omega) g1 (by omega) (by omega) a H
  rw [← e2] at g5
  rw [zag g5, x01] at hr
  rw [if_neg h1, if_neg h2, if_neg h3, if_neg h5, if_neg h6, if_neg h7, if_neg h8, if_neg h9, if_neg h13, if_neg h14, if_neg h16, if_neg h29, if_neg h30, if_neg h31]
  exact hr
end Go.AM.N14
namespace Go.AM.N14
open Go Go.AM
section
variable {A : Type}
def getA (z : A) (acc : List A) (x : Int) : A := if x ≤ 0 then z else acc.getD (x - 1).toNat z
def accA (F : Nd → A → A → A → A) (z : A) : List Nd → List A → List A
  | [], acc => acc
  | n :: r, acc => accA F z r (acc ++ [F n (getA z acc n.a) (getA z acc n.b) (getA z acc n.c)])
def fnA (F : Nd → A → A → A → A) (z : A) (L : List Nd) (t : Nat) : A := getA z (accA F z L []) (t : Int)
theorem zoh (F : Nd → A → A → A → A) (z : A) : ∀ (r : List Nd) (acc : List A), ∃ more, accA F z r acc = acc ++ more ∧ more.length = r.length
  | [], acc => ⟨[], by rw [List.append_nil]; rfl, rfl⟩
  | n :: r, acc => by
    obtain ⟨more, h1, h2⟩ := zoh F z r (acc ++ [F n (getA z acc n.a) (getA z acc n.b) (getA z acc n.c)])
    exact ⟨F n (getA z acc n.a) (getA z acc n.b) (getA z acc n.c) :: more, by show accA F z r _ = _; rw [h1, List.append_assoc]; rfl, by rw [List.length_cons, List.length_cons, h2]⟩
theorem getA_pre {z : A} {acc more : List A} {x : Int} (h : x ≤ acc.length) : getA z (acc ++ more) x = getA z acc x := by
  unfold getA
  by_cases h0 : x ≤ 0
  · rw [if_pos h0, if_pos h0]
  · rw [if_neg h0, if_neg h0, List.getD_eq_getElem?_getD, List.getD_eq_getElem?_getD, List.getElem?_append_left (by omega)]
theorem accA_at (F : Nd → A → A → A → A) (z : A) : ∀ (r : List Nd) (acc : List A) (j : Nat) (n : Nd), r[j]? = some n → ∃ mid more, accA F z r acc = mid ++ more ∧ mid.length = acc.length + j ∧ more[0]? = some (F n (getA z mid n.a) (getA z mid n.b) (getA z mid n.c))
  | [], acc, j, n, h => by cases h
  | m :: r, acc, 0, n, h => by
    cases h
    obtain ⟨more, h1, h2⟩ := zoh F z r (acc ++ [F m (getA z acc m.a) (getA z acc m.b) (getA z acc m.c)])
    exact ⟨acc, F m (getA z acc m.a) (getA z acc m.b) (getA z acc m.c) :: more, by show accA F z r _ = _; rw [h1, List.append_assoc]; rfl, rfl, rfl⟩
  | m :: r, acc, j + 1, n, h => by
    obtain ⟨mid, more, h1, h2, h3⟩ := accA_at F z r (acc ++ [F m (getA z acc m.a) (getA z acc m.b) (getA z acc m.c)]) j n h
    exact ⟨mid, more, h1, by rw [h2, List.length_append, List.length_singleton]; omega, h3⟩
theorem zjJ {L : List Nd} (hd : Dag L) (F : Nd → A → A → A → A) (z : A) {t : Nat} (ht : 1 ≤ t) {n : Nd} (hn : L[t - 1]? = some n) :
    fnA F z L t = F n (fnA F z L n.a.toNat) (fnA F z L n.b.toNat) (fnA F z L n.c.toNat) := by
  obtain ⟨mid, more, h1, h2, h3⟩ := accA_at F z L [] (t - 1) n hn
  rw [List.length_nil, Nat.zero_add] at h2
  have ha := hd.a _ n hn
  have hb := hd.b _ n hn
  have hc := hd.c _ n hn
  have e : fnA F z L t = F n (getA z mid n.a) (getA z mid n.b) (getA z mid n.c) := by
    unfold fnA
    rw [h1]
    unfold getA
    rw [if_neg (by omega), List.getD_eq_getElem?_getD, List.getElem?_append_right (by omega), show ((t : Int) - 1).toNat - mid.length = 0 by omega, h3]; rfl
  have k : ∀ x : Int, 0 ≤ x → x ≤ (t - 1 : Nat) → fnA F z L x.toNat = getA z mid x := fun x x0 x1 => by
    unfold fnA
    rw [h1, Int.toNat_of_nonneg x0, getA_pre (by omega)]
  rw [e, k n.a (by omega) (by omega), k n.b (by omega) (by omega), k n.c (by omega) (by omega)]
theorem fnA_ind {L : List Nd} (hd : Dag L) (F : Nd → A → A → A → A) (z : A) {S : Nat → Prop} (hcl : ∀ t, S t → ∀ c ∈ kids L t, S c) {Q : Nat → A → Prop} (hz : Q 0 z)
    (hs : ∀ t n, 1 ≤ t → S t → L[t - 1]? = some n → Q n.a.toNat (fnA F z L n.a.toNat) → Q n.b.toNat (fnA F z L n.b.toNat) → Q n.c.toNat (fnA F z L n.c.toNat) → Q t (F n (fnA F z L n.a.toNat) (fnA F z L n.b.toNat) (fnA F z L n.c.toNat))) :
    ∀ t, 1 ≤ t → t ≤ L.length → S t → Q t (fnA F z L t) := by
  intro t
  induction t using Nat.strongRecOn with
  | _ t ih =>
    intro h1 h2 h3
    have hn : L[t - 1]? = some (L[t - 1]'(by omega)) := List.getElem?_eq_getElem (by omega)
    generalize L[t - 1]'(by omega) = n at hn
    rw [zjJ hd F z h1 hn]
    have hk := zim hd hn
    have hf := hd.a _ n hn
    have hb := hd.b _ n hn
    have hc := hd.c _ n hn
    have kk : kids L t = zb2 n := by unfold kids; rw [hn]
    have one : ∀ (j : Nat) x, [n.a, n.b, n.c][j]? = some x → (x = 0 ∨ j < (zb2 n).length ∧ 1 ≤ x) → Q x.toNat (fnA F z L x.toNat) := fun j x hx h => by
      rcases h with rfl | ⟨h, _⟩
      · exact hz
      · obtain ⟨q1, q2, q3⟩ := hk.2.1 j x hx h
        have hm : x.toNat ∈ kids L t := by rw [kk]; exact List.mem_of_getElem? q1
        exact ih x.toNat (by omega) (by omega) (by omega) (hcl t h3 _ hm)
    have hl := hk.1
    have pn := zcH n.op
    exact hs t n h1 h3 hn (one 0 n.a rfl (by rcases hf with q | q; exact .inr ⟨by omega, by omega⟩; exact .inl q.2)) (one 1 n.b rfl (by rcases hb with q | q; exact .inr ⟨by omega, by omega⟩; exact .inl q.2)) (one 2 n.c rfl (by rcases hc with q | q; exact .inr ⟨by omega, by omega⟩; exact .inl q.2))
end
noncomputable def valF (L : List Nd) (G : ByteArray → W64) (n : Nd) (x y z : W64) : W64 := if n.op = 4 then G n.name else valW n (wT L 0 n.a).toNat (wT L 0 n.b).toNat x y z
noncomputable def vfn (L : List Nd) (G : ByteArray → W64) : Nat → W64 := fnA (valF L G) 0#64 L
theorem vfn_own {L : List Nd} (hd : Dag L) {G G' : ByteArray → W64} {S : Nat → Prop} (hcl : ∀ t, S t → ∀ c ∈ kids L t, S c) (hg : ∀ t n, 1 ≤ t → S t → L[t - 1]? = some n → n.op = 4 → G n.name = G' n.name) {t : Nat} (h1 : 1 ≤ t) (h2 : t ≤ L.length) (hs : S t) : vfn L G t = vfn L G' t :=
  fnA_ind hd (valF L G) 0#64 hcl (Q := fun t v => v = vfn L G' t) rfl (fun t n h1 hs hn q1 q2 q3 => by
    rw [q1, q2, q3]
    unfold vfn
    rw [zjJ hd (valF L G') 0#64 h1 hn]
    unfold valF
    split
    · rename_i h4; exact hg t n h1 hs hn h4
    · rfl) t h1 h2 hs
def satU (n : Nat) : Nat := min n 18446744073709551615
def sizF (n : Nd) (x y z : Nat × Nat) : Nat × Nat := (satU (satU (satU (1 + x.1) + y.1) + z.1), max (max x.2 y.2) z.2 + 1)
def sizT (L : List Nd) : Nat → Nat × Nat := fnA sizF (0, 0) L
theorem satU_eq (n : Nat) : satU n = if n ≤ 18446744073709551615 then n else 18446744073709551615 := by unfold satU; split <;> omega
end Go.AM.N14
namespace Go.AM
open Go
variable {A : Type}
def mapS (enc : A → Value) (l : List (ByteArray × A)) : List (Value × Value) := l.map fun x => (.string x.1, enc x.2)
def lkS (s : ByteArray) : Nat → List (ByteArray × A) → Option (Nat × A)
  | _, [] => none
  | i, (t, v) :: r => if (s == t) = true then some (i, v) else lkS s (i + 1) r
def MapS (H : Hp) (m : Nat) (enc : A → Value) (F : ByteArray → Option A) : Prop := ∃ l, H.get m = some (.map (mapS enc l)) ∧ ∀ t, F t = (lkS t 0 l).map Prod.snd
theorem findS (enc : A → Value) (s : ByteArray) : ∀ (l : List (ByteArray × A)) (i : Nat), zei PP T.string (.string s) (mapS enc l) i = some ((lkS s i l).map fun q => (q.1, enc q.2))
  | [], i => rfl
  | (t, w) :: r, i => by
    show (match eqT PP 10000 T.string (.string s) (.string t) with | some true => some (some (i, enc w)) | some false => zei PP T.string (.string s) (mapS enc r) (i + 1) | none => none) = _
    rw [eq9]
    unfold lkS
    cases h : s == t with
    | true => simp
    | false =>
      simp only [Bool.false_eq_true, if_false]
      exact findS enc s r (i + 1)
theorem MapS.lookV {H : Hp} {m : Nat} {enc : A → Value} {F : ByteArray → Option A} (h : MapS H m enc F) (z : Value) (t : ByteArray) : Go.AM.lookV PP T.string z (.map (some m)) (.string t) H = some (match F t with | some v => (enc v, true) | none => (z, false)) := by
  obtain ⟨l, h1, h2⟩ := h
  unfold Go.AM.lookV
  rw [zkU, h2 t]
  simp only [if_true, zmG, h1, findS]
  cases lkS t 0 l <;> rfl
theorem MapS.look2 {H : Hp} {m : Nat} {enc : A → Value} {F : ByteArray → Option A} (h : MapS H m enc F) (z : Value) (t : ByteArray) {α : Type} (k : Value → Option α) : zbs PP T.string z (.map (some m)) (.string t) true H k = k (.tuple #[match F t with | some v => enc v | none => z, .bool (F t).isSome]) := by
  unfold zbs
  rw [h.lookV]
  cases F t <;> rfl
theorem zmJ (s : ByteArray) : ∀ (l : List (ByteArray × A)) (i j : Nat) (w : A), lkS s i l = some (j, w) → i ≤ j ∧ l[j - i]? = some (s, w)
  | [], i, j, w, h => by cases h
  | (t, u) :: r, i, j, w, h => by
    unfold lkS at h
    split at h
    · rename_i e
      cases h
      have : s = t := (ze8 s t).1 e
      subst this
      exact ⟨Nat.le_refl _, by simp⟩
    · obtain ⟨h1, h2⟩ := zmJ s r (i + 1) j w h
      refine ⟨by omega, ?_⟩
      rw [show j - i = (j - (i + 1)) + 1 by omega]
      simpa using h2
theorem lkS_app (t key : ByteArray) (v : A) : ∀ (l : List (ByteArray × A)) (i : Nat), lkS key i l = none → (lkS t i (l ++ [(key, v)])).map Prod.snd = if (t == key) = true then some v else (lkS t i l).map Prod.snd
  | [], i, h => by
    show (lkS t i [(key, v)]).map Prod.snd = _
    unfold lkS lkS
    split <;> rfl
  | (u, w) :: r, i, h => by
    unfold lkS at h
    split at h
    · cases h
    · rename_i ne
      show (lkS t i ((u, w) :: (r ++ [(key, v)]))).map Prod.snd = _
      unfold lkS
      by_cases e : (t == u) = true
      · rw [if_pos e, if_pos e, if_neg (fun q => ne (by rw [← (ze8 t key).1 q]; exact e))]
      · rw [if_neg e, if_neg e]
        exact lkS_app t key v r (i + 1) h
theorem lkS_set (t key : ByteArray) (v : A) : ∀ (l : List (ByteArray × A)) (i j : Nat) (w : A), lkS key i l = some (j, w) → (lkS t i (l.set (j - i) (key, v))).map Prod.snd = if (t == key) = true then some v else (lkS t i l).map Prod.snd
  | [], i, j, w, h => by cases h
  | (u, x) :: r, i, j, w, h => by
    unfold lkS at h
    split at h
    · rename_i e
      cases h
      have e : key = u := (ze8 key u).1 e
      subst e
      rw [Nat.sub_self, List.set_cons_zero]
      unfold lkS
      by_cases q : (t == key) = true
      · rw [if_pos q, if_pos q]; rfl
      · rw [if_neg q, if_neg q, if_neg q]
    · rename_i ne
      have hle := (zmJ key r (i + 1) j w h).1
      rw [show j - i = (j - (i + 1)) + 1 by omega, List.set_cons_succ]
      unfold lkS
      by_cases q : (t == u) = true
      · rw [if_pos q, if_pos q, if_neg (fun z => ne (by rw [← (ze8 t key).1 z]; exact q))]
      · rw [if_neg q, if_neg q]
        exact lkS_set t key v r (i + 1) j w h
theorem MapS.upd {H : Hp} {m : Nat} {enc : A → Value} {F : ByteArray → Option A} (h : MapS H m enc F) (key : ByteArray) (v : A) :
    ∃ H', (∀ (α : Type) (k : Hp → Option α), pUpd PP T.string (.map (some m)) (.string key) (enc v) H k = k H') ∧ MapS H' m enc (fun t => if (t == key) = true then some v else F t) ∧ (∀ j, j ≠ m → H'.get j = H.get j) ∧ H'.next = H.next := by
  obtain ⟨l, h1, h2⟩ := h
  cases hq : lkS key 0 l with
  | none =>
    refine ⟨H.set m (some (.map (mapS enc (l ++ [(key, v)])))), fun α k => ?_, ⟨l ++ [(key, v)], by rw [get_set, if_pos rfl], fun t => ?_⟩, fun j hj => by rw [get_set, if_neg hj], rfl⟩
    · have : updV PP T.string (.map (some m)) (.string key) (enc v) H = some (H.set m (some (.map (mapS enc (l ++ [(key, v)]))))) := by
        unfold updV
        rw [zkU]
        simp only [if_true, h1, findS, hq, Option.map_none]
        rw [show mapS enc (l ++ [(key, v)]) = mapS enc l ++ [(Value.string key, enc v)] by simp [mapS]]
      unfold pUpd
      rw [this]
    · rw [lkS_app t key v l 0 hq]
      dsimp only
      split
      · rfl
      · exact h2 t
  | some q =>
    obtain ⟨j, w⟩ := q
    obtain ⟨_, hg⟩ := zmJ key l 0 j w hq
    rw [Nat.sub_zero] at hg
    refine ⟨H.set m (some (.map (mapS enc (l.set j (key, v))))), fun α k => ?_, ⟨l.set j (key, v), by rw [get_set, if_pos rfl], fun t => ?_⟩, fun j hj => by rw [get_set, if_neg hj], rfl⟩
    · have hk1 : (mapS enc l)[j]? = some (.string key, enc w) := by unfold mapS; rw [List.getElem?_map, hg]; rfl
      have hsb : Instr.sameBits 10000 (.string key) (.string key) = true := by
        simp only [Instr.sameBits]
        exact (ze8 key key).2 rfl
      have : updV PP T.string (.map (some m)) (.string key) (enc v) H = some (H.set m (some (.map (mapS enc (l.set j (key, v)))))) := by
        unfold updV
        rw [zkU]
        simp only [if_true, h1, findS, hq, Option.map_some, hk1, hsb]
        rw [show mapS enc (l.set j (key, v)) = zg9 (mapS enc l) j (.string key) (enc v) by unfold zg9 mapS; rw [List.map_set]]
      unfold pUpd
      rw [this]
    · have := lkS_set t key v l 0 j w hq
      rw [Nat.sub_zero] at this
      rw [this]
      dsimp only
      split
      · rfl
      · exact h2 t
theorem MapS.new (H : Hp) (enc : A → Value) : MapS (H.new (.map [])) H.next enc (fun _ => none) := ⟨[], by rw [get_new, if_pos rfl]; rfl, fun t => rfl⟩
theorem MapS.keep {H H' : Hp} {m : Nat} {enc : A → Value} {F : ByteArray → Option A} (h : MapS H m enc F) (hg : H'.get m = H.get m) : MapS H' m enc F := by
  obtain ⟨l, h1, h2⟩ := h
  exact ⟨l, by rw [hg]; exact h1, h2⟩
end Go.AM
namespace Go.AM
open Go
end Go.AM
namespace Go.AM
open Go
end Go.AM
namespace Go.AM
open Go
def zc0 (L : List Nd) (out : List Nat) : Prop := ∀ (i : Nat) t, out[i]? = some t → ∀ c ∈ kids L t, c ∈ out.take i
def Grew (L : List Nd) (l out out' : List Nat) : Prop := ∃ new, out' = out ++ new ∧ ∀ (i : Nat) x, new[i]? = some x → x ∈ l ∨ ∃ (j : Nat) (u : Nat), i < j ∧ new[j]? = some u ∧ x ∈ kids L u
theorem zc0.app {L : List Nd} {out : List Nat} {t : Nat} (h : zc0 L out) (hk : ∀ c ∈ kids L t, c ∈ out) : zc0 L (out ++ [t]) := by
  intro i x hx c hc
  rw [List.getElem?_append] at hx
  split at hx
  · rename_i lt
    rw [List.take_append_of_le_length (by omega)]
    exact h i x hx c hc
  · have : i = out.length := by
      have := (List.getElem?_eq_some_iff.1 hx).1
      simp at this; omega
    subst this
    simp at hx
    subst hx
    rw [List.take_left' rfl]
    exact hk c hc
theorem Grew.refl (L : List Nd) (l out : List Nat) : Grew L l out out := ⟨[], by simp, fun i x h => by cases h⟩
theorem Grew.cons {L : List Nd} {c : Nat} {l out o1 o2 : List Nat} (h : Grew L [c] out o1) (k : Grew L l o1 o2) : Grew L (c :: l) out o2 := by
  obtain ⟨n1, e1, h1⟩ := h
  obtain ⟨n2, e2, h2⟩ := k
  refine ⟨n1 ++ n2, by rw [e2, e1, List.append_assoc], fun i x hx => ?_⟩
  rw [List.getElem?_append] at hx
  split at hx
  · rename_i lt
    rcases h1 i x hx with q | ⟨j, u, q1, q2, q3⟩
    · rw [List.mem_singleton] at q; subst q; exact .inl (List.mem_cons_self ..)
    · have := (List.getElem?_eq_some_iff.1 q2).1
      exact .inr ⟨j, u, q1, by rw [List.getElem?_append_left this]; exact q2, q3⟩
  · rename_i ge
    rcases h2 _ x hx with q | ⟨j, u, q1, q2, q3⟩
    · exact .inl (List.mem_cons_of_mem _ q)
    · exact .inr ⟨n1.length + j, u, by omega, by rw [List.getElem?_append_right (by omega), Nat.add_sub_cancel_left]; exact q2, q3⟩
theorem post_good {L : List Nd} (h : Dag L) : ∀ (t : Nat), 1 ≤ t → ∀ (out : List Nat), zc0 L out → zc0 L (post L t out) ∧ Grew L [t] out (post L t out) := by
  intro t
  induction t using Nat.strongRecOn with
  | _ t ih =>
    intro ht out hc
    rw [zgy h ht]
    split
    · exact ⟨hc, Grew.refl ..⟩
    · have key : ∀ (l : List Nat) (o : List Nat), (∀ c ∈ l, c ∈ kids L t) → zc0 L o → zc0 L (posts L l o) ∧ Grew L l o (posts L l o) := by
        intro l
        induction l with
        | nil => exact fun o _ h => ⟨h, Grew.refl ..⟩
        | cons c l ihl =>
          intro o hl ho
          have hcc := zeK h ht (hl c (List.mem_cons_self ..))
          obtain ⟨a1, a2⟩ := ih c hcc.2 hcc.1 o ho
          obtain ⟨b1, b2⟩ := ihl _ (fun c hc => hl c (List.mem_cons_of_mem _ hc)) a1
          exact ⟨b1, a2.cons b2⟩
      obtain ⟨k1, new, e, k2⟩ := key (kids L t) out (fun c hc => hc) hc
      have hm := (zcG h (N := t) (kids L t) out fun c hc => by have := zeK h ht hc; omega).2.1
      refine ⟨k1.app hm, new ++ [t], by rw [e, List.append_assoc], fun i x hx => ?_⟩
      rw [List.getElem?_append] at hx
      split at hx
      · rename_i lt
        rcases k2 i x hx with q | ⟨j, u, q1, q2, q3⟩
        · exact .inr ⟨new.length, t, lt, by rw [List.getElem?_append_right (Nat.le_refl _), Nat.sub_self]; rfl, q⟩
        · have := (List.getElem?_eq_some_iff.1 q2).1
          exact .inr ⟨j, u, q1, by rw [List.getElem?_append_left this]; exact q2, q3⟩
      · rename_i ge
        have := List.mem_of_getElem? hx
        exact .inl this
theorem zeX {L : List Nd} (h : Dag L) : ∀ (l o : List Nat), (∀ c ∈ l, 1 ≤ c) → zc0 L o → zc0 L (posts L l o) ∧ Grew L l o (posts L l o)
  | [], o, _, ho => ⟨ho, Grew.refl ..⟩
  | c :: l, o, hl, ho => by
    obtain ⟨a1, a2⟩ := post_good h c (hl c (List.mem_cons_self ..)) o ho
    obtain ⟨b1, b2⟩ := zeX h l _ (fun c hc => hl c (List.mem_cons_of_mem _ hc)) a1
    exact ⟨b1, a2.cons b2⟩
theorem zgE {L : List Nd} (h : Dag L) {i : Nat} {n : Nd} (hn : L[i]? = some n) : (∀ c ∈ zb2 n, (c : Int) = n.a ∨ (c : Int) = n.b ∨ (c : Int) = n.c) ∧ (∀ x : Int, x = n.a ∨ x = n.b ∨ x = n.c → x ≠ 0 → ∃ c ∈ zb2 n, (c : Int) = x) := by
  have ha := h.a i n hn
  have hb := h.b i n hn
  have hc := h.c i n hn
  unfold zb2
  rcases zcH n.op with q | q | q | q <;> rw [q]
  · refine ⟨fun c hcm => by simp at hcm, fun x hx h0 => by omega⟩
  · refine ⟨fun c hcm => ?_, fun x hx h0 => ?_⟩
    · simp at hcm; omega
    · exact ⟨n.a.toNat, by simp, by omega⟩
  · refine ⟨fun c hcm => ?_, fun x hx h0 => ?_⟩
    · simp at hcm; omega
    · rcases hx with e | e | e
      · exact ⟨n.a.toNat, by simp, by omega⟩
      · exact ⟨n.b.toNat, by simp, by omega⟩
      · omega
  · refine ⟨fun c hcm => ?_, fun x hx h0 => ?_⟩
    · simp at hcm; omega
    · rcases hx with e | e | e
      · exact ⟨n.a.toNat, by simp, by omega⟩
      · exact ⟨n.b.toNat, by simp, by omega⟩
      · exact ⟨n.c.toNat, by simp, by omega⟩
end Go.AM
namespace Go.AM
open Go
structure zev (L : List Nd) (K : List (ByteArray × Int)) : Prop where
  dag : Dag L
  rt : ∀ m ∈ L, zkJ L K m
  num : ∀ m ∈ L, zi0 m
  nod : ∀ (i j : Nat) m, L[i]? = some m → L[j]? = some m → i = j
  kn : ∀ m ∈ L, m.op = 4 → ∃ j, za4 m.name 0 K = some (j, m.w)
theorem zev.nil : zev [] [] := ⟨Dag.nil, fun m h => (by cases h), fun m h => (by cases h), fun i j m h => (by cases h), fun m h => by cases h⟩
theorem zjq {s : ByteArray} (M : List (ByteArray × Int)) : ∀ (K : List (ByteArray × Int)) (i : Nat) (q : Nat × Int), za4 s i K = some q → za4 s i (K ++ M) = some q
  | [], i, q, h => by cases h
  | (u, v) :: r, i, q, h => by
    unfold za4 at h
    show za4 s i ((u, v) :: (r ++ M)) = _
    unfold za4
    split at h
    · rename_i e; rw [if_pos e]; exact h
    · rename_i e; rw [if_neg e]; exact zjq M r (i + 1) q h
theorem zmF {s t : ByteArray} {w : Int} {K : List (ByteArray × Int)} {q : Nat × Int} (h : za4 t 0 K = some q) : za4 t 0 (zb8 s w K) = some q := by
  unfold zb8
  split
  · exact h
  · exact zjq _ K 0 q h
theorem zlx {s : ByteArray} {w : Int} {K : List (ByteArray × Int)} (h : ∀ j v, za4 s 0 K = some (j, v) → v = w) : ∃ j, za4 s 0 (zb8 s w K) = some (j, w) := by
  unfold zb8
  cases hq : za4 s 0 K with
  | some q => exact ⟨q.1, by rw [← h q.1 q.2 hq]; exact hq⟩
  | none => exact ⟨_, zgB s s w K 0 hq⟩
theorem zkG {K : List (ByteArray × Int)} {n : Nd} (h : zbL K n = false) : zcb n.name = true ∧ ∀ j v, za4 n.name 0 K = some (j, v) → v = n.w := by
  unfold zbL at h
  rw [Bool.or_eq_false_iff] at h
  refine ⟨by simpa using h.1, fun j v hv => ?_⟩
  have h2 := h.2
  rw [hv] at h2
  simpa using h2
theorem bad_of {K : List (ByteArray × Int)} {n : Nd} (h1 : zcb n.name = true) (h2 : ∀ j v, za4 n.name 0 K = some (j, v) → v = n.w) : zbL K n = false := by
  unfold zbL
  rw [h1]
  cases hq : za4 n.name 0 K with
  | none => rfl
  | some q => have := h2 q.1 q.2 hq; simp [this]
theorem zkJ.free {L : List Nd} {K : List (ByteArray × Int)} {n : Nd} (h : zkJ L K n) (h4 : n.op = 4) : zbL K n = false := by
  cases q : zbL K n with
  | false => rfl
  | true => exact absurd ⟨h4, q⟩ h.nm
theorem mk_goodS {lim : Int} {L : List Nd} {K : List (ByteArray × Int)} {n : Nd} (hn : zi0 n) (h : zev L K) : zev (mkR lim L K n).2.2.1 (mkR lim L K n).2.2.2 := by
  by_cases h0 : (mkR lim L K n).2.1 = 0
  · have hdag := mk_dag (lim := lim) (K := K) (n := n) h.dag
    obtain ⟨hr, ⟨q, hq, e⟩ | ⟨hq, _, e⟩⟩ := zjt h0
    · rw [e]; exact h
    · rw [e] at hdag ⊢
      have hself : n.op = 4 → ∃ j, za4 n.name 0 (zb8 n.name n.w K) = some (j, n.w) := fun h4 => zlx (zkG (hr.free h4)).2
      have hpre : ∀ (t : ByteArray) q, za4 t 0 K = some q → za4 t 0 (if n.op = 4 then zb8 n.name n.w K else K) = some q := fun t q hq => by
        split
        · exact zmF hq
        · exact hq
      refine ⟨hdag, fun m hm => ?_, fun m hm => ?_, fun i j m hi hj => ?_, fun m hm h4 => ?_⟩
      · rcases List.mem_append.1 hm with q | q
        · refine (h.rt m q).app fun h4 => ?_
          obtain ⟨j, hj⟩ := h.kn m q h4
          refine bad_of (zkG ((h.rt m q).free h4)).1 fun j' v hv => ?_
          rw [hpre _ _ hj] at hv
          cases hv; rfl
        · rw [List.mem_singleton] at q
          subst q
          refine hr.app fun h4 => ?_
          rw [if_pos h4]
          exact zm3 (hr.free h4)
      · rcases List.mem_append.1 hm with q | q
        · exact h.num m q
        · rw [List.mem_singleton] at q; rw [q]; exact hn
      · have hno := zdw n L 0 hq
        rcases ziN hi with a | ⟨a1, a2⟩ <;> rcases ziN hj with b | ⟨b1, b2⟩
        · exact h.nod i j m a b
        · subst b2; exact absurd a (hno i)
        · subst a2; exact absurd b (hno j)
        · rw [a1, b1]
      · rcases List.mem_append.1 hm with q | q
        · obtain ⟨j, hj⟩ := h.kn m q h4
          exact ⟨j, hpre _ _ hj⟩
        · rw [List.mem_singleton] at q
          subst q
          rw [if_pos h4]; exact hself h4
  · rw [mk_no h0]; exact h
end Go.AM
namespace Go.AM.N14
open Go Go.AM
structure VV where
  name : ByteArray
  w : Int
  num : Int
def VV.cells (x : VV) : List Value := [.string x.name, .int .i64 x.w, .int .u64 x.num]
def VV.val (x : VV) : Value := .agg x.cells.toArray
def VV.Ok (x : VV) : Prop := 0 ≤ x.num ∧ x.num < 18446744073709551616
def fndV (s : ByteArray) : List VV → Option VV
  | [] => none
  | v :: r => if (s == v.name) = true then some v else fndV s r
def nmOk : List ByteArray → List ByteArray → Bool
  | _, [] => true
  | seen, s :: r => if (seen.any fun t => s == t) || !zcb s then false else nmOk (seen ++ [s]) r
def wdOk (v : VV) : Bool := decide (0 ≤ v.w) && decide (v.w ≤ 64) && decide (zdc (if v.w < 1 then 1 else v.w) v.num = v.num)
def zfm (Tv : List VV) : Int := if nmOk [] (Tv.map VV.name) = true then (if Tv.all wdOk = true then 0 else 5) else 72
theorem znW (s : ByteArray) (v : VV) : ∀ Tv : List VV, fndV s (Tv ++ [v]) = match fndV s Tv with | some x => some x | none => if (s == v.name) = true then some v else none
  | [] => rfl
  | x :: r => by
    show (if (s == x.name) = true then some x else fndV s (r ++ [v])) = _
    rw [show fndV s (x :: r) = if (s == x.name) = true then some x else fndV s r from rfl]
    by_cases h : (s == x.name) = true
    · rw [if_pos h, if_pos h]
    · rw [if_neg h, if_neg h, znW s v r]
theorem znX (s : ByteArray) : ∀ Tv : List VV, (fndV s Tv).isSome = (Tv.map VV.name).any fun t => s == t
  | [] => rfl
  | x :: r => by
    rw [List.map_cons, List.any_cons]
    unfold fndV
    by_cases h : (s == x.name) = true
    · rw [if_pos h, h]; rfl
    · rw [if_neg h, znX s r, (Bool.eq_false_iff.2 h : (s == x.name) = false), Bool.false_or]
theorem zeh {s : ByteArray} {v : VV} : ∀ {Tv : List VV}, fndV s Tv = some v → v ∈ Tv ∧ v.name = s
  | [], h => by cases h
  | x :: r, h => by
    unfold fndV at h
    split at h
    · rename_i q
      cases h
      exact ⟨List.mem_cons_self .., ((ze8 _ _).1 q).symm⟩
    · obtain ⟨a, b⟩ := zeh h
      exact ⟨List.mem_cons_of_mem _ a, b⟩
def zcv (Tv : List VV) (s : ByteArray) : W64 := match fndV s Tv with | some v => BitVec.ofInt 64 v.num | none => 0#64
def badV (L : List Nd) (Tv : List VV) (t : Nat) : Bool := match L[t - 1]? with
  | some n => decide (n.op = 4) && (match fndV n.name Tv with | some v => decide (v.w ≠ n.w) | none => false)
  | none => false
noncomputable def zeb (L : List Nd) (ns : List Nat) (Tv : List VV) : Int × List W64 :=
  if zfm Tv ≠ 0 then (zfm Tv, []) else if (posts L ns []).any (badV L Tv) = true then (71, []) else (0, ns.map (vfn L (zcv Tv)))
def zaY (L : List Nd) (ns : List Nat) : List VV := (posts L ns []).filterMap fun t => match L[t - 1]? with
  | some n => if n.op = 4 then some ⟨n.name, n.w, 0⟩ else none
  | none => none
end Go.AM.N14
namespace Go.AM.N14
open Go Go.AM
theorem flat_at {A : Type} {f : A → List Value} {n : Nat} (hf : ∀ a, (f a).length = n) : ∀ (l : List A) (i : Nat) (a : A), l[i]? = some a → ((l.flatMap f).drop (i * n)).take n = f a
  | [], i, a, h => by cases h
  | b :: r, 0, a, h => by
    cases h
    rw [Nat.zero_mul, qd0, List.flatMap_cons, List.take_left' (hf _)]
  | b :: r, i + 1, a, h => by
    have h : r[i]? = some a := h
    rw [List.flatMap_cons, List.drop_append, List.drop_of_length_le (by rw [hf]; exact Nat.le_mul_of_pos_left n (by omega)), List.nil_append, hf, show (i + 1) * n - n = i * n by rw [Nat.succ_mul]; omega]
    exact flat_at hf r i a h
theorem flat_len {A : Type} {f : A → List Value} {n : Nat} (hf : ∀ a, (f a).length = n) : ∀ (l : List A), (l.flatMap f).length = l.length * n
  | [] => by simp
  | b :: r => by rw [List.flatMap_cons, List.length_append, hf, flat_len hf r, List.length_cons, Nat.succ_mul]; omega
def za8 (Tv : List VV) : List Value := Tv.flatMap VV.cells
theorem vv_len (v : VV) : v.cells.length = 3 := rfl
theorem valsC_len (Tv : List VV) : (za8 Tv).length = Tv.length * 3 := flat_len vv_len Tv
theorem valsC_app (Tv U : List VV) : za8 (Tv ++ U) = za8 Tv ++ za8 U := by simp [za8]
theorem Rdb.vv {H : Hp} {x : Value} {Tv : List VV} (hx : Rdb H 3 x Tv.length (za8 Tv)) {i : Nat} {v : VV} (hi : Tv[i]? = some v) :
    ∃ y, Id x y ∧ (∀ (α : Type) (kd : IntKind) (k : Value → Option α), pIdx 3 x (.int kd (i : Int)) k = k (.pointer (some ⟨y, i * 3, none⟩))) ∧ (∀ (α : Type) (k : Value → Option α), zal 3 true H (.pointer (some ⟨y, i * 3, none⟩)) k = k v.val) ∧
      (∀ (α : Type) (j : Nat) (z : Value), v.cells[j]? = some z → ∀ (k : Value → Option α), zal 1 false H (.pointer (some ⟨y, i * 3 + j, none⟩)) k = k z) := by
  have hlt := (List.getElem?_eq_some_iff.1 hi).1
  obtain ⟨y, hy, ⟨rest, own, hg⟩, hix⟩ := hx.ix hlt
  have hf := flat_at vv_len Tv i v hi
  have hl := valsC_len Tv
  refine ⟨y, hy, hix, fun α k => ?_, fun α j z hz k => ?_⟩
  · rw [ld_agg hg (by rw [hl]; omega)]
    have : (za8 Tv).drop (i * 3) = (Tv.flatMap VV.cells).drop (i * 3) := rfl
    rw [this, hf]; rfl
  · have hj : j < 3 := (List.getElem?_eq_some_iff.1 hz).1
    refine zfA hg ?_ k
    have : (((Tv.flatMap VV.cells).drop (i * 3)).take 3)[j]? = some z := by rw [hf]; exact hz
    rw [List.getElem?_take_of_lt hj, List.getElem?_drop] at this
    exact this
theorem splV {α : Type} (v : VV) (k : List Value → Option α) : zaV 3 [.string ⟨#[]⟩, .int .i64 0, .int .u64 0] 0 v.val k = k v.cells := by
  have : zbj 3 [.string ⟨#[]⟩, .int .i64 0, .int .u64 0] 0 v.val = some v.cells := by kernel_rfl
  unfold zaV; rw [this]
theorem vcell0 {α : Type} (v : VV) (k : Value → Option α) : zai 1 false v.cells 0 k = k (.string v.name) := rfl
theorem zi1 {α : Type} (v : VV) (k : Value → Option α) : zai 1 false v.cells 1 k = k (.int .i64 v.w) := rfl
theorem zkN {α : Type} (v : VV) (k : Value → Option α) : zai 1 false v.cells 2 k = k (.int .u64 v.num) := rfl
theorem zm9 {α : Type} (v : VV) (k : Value → Option α) : zai 3 true v.cells 0 k = k v.val := rfl
def noV : VV := ⟨⟨#[]⟩, 0, 0⟩
theorem noV_val : Value.agg #[.string ⟨#[]⟩, .int .i64 0, .int .u64 0] = noV.val := rfl
theorem mm_i64 {α : Type} (a b : Int) (k : Value → Option α) : pMM true [.int .i64 a, .int .i64 b] k = k (.int .i64 (if b > a then b else a)) := rfl
theorem nmOk_cons (seen : List ByteArray) (s : ByteArray) (r : List ByteArray) : nmOk seen (s :: r) = if (seen.any fun t => s == t) || !zcb s then false else nmOk (seen ++ [s]) r := rfl
structure TS (B H : Hp) (m : Nat) (F : ByteArray → Option VV) : Prop where
  next : B.next ≤ H.next
  old : ∀ j, j < B.next → H.get j = B.get j
  l : B.next ≤ m
  n : m < H.next
  map : MapS H m VV.val F
theorem TS.up {B H : Hp} {m : Nat} {F : ByteArray → Option VV} (h : TS B H m F) (v : VV) :
    ∃ H', (∀ (α : Type) (k : Hp → Option α), pUpd PP T.string (.map (some m)) (.string v.name) v.val H k = k H') ∧ TS B H' m (fun t => if (t == v.name) = true then some v else F t) := by
  obtain ⟨H', e1, e2, e3, e4⟩ := h.map.upd v.name v
  have a := h.l
  exact ⟨H', e1, ⟨by rw [e4]; exact h.next, fun j hj => by rw [e3 j (by omega), h.old j hj], h.l, by rw [e4]; exact h.n, e2⟩⟩
section
variable {B : Hp} {x : Value} {L : List VV} (hx : Rdb B 3 x L.length (za8 L)) (hl : L.length ≤ 2 ^ 40)
include hx hl
theorem zi5 {m : Nat} : ∀ (r : List VV) (i : Nat) (H : Hp), L.drop i = r → i ≤ L.length → TS B H m (fun s => fndV s (L.take i)) →
    ∃ H', B.next ≤ H'.next ∧ (∀ j, j < B.next → H'.get j = B.get j) ∧
      (nmOk ((L.take i).map VV.name) (r.map VV.name) = true → zat (zbH RR x (.map (some m)) (.int .i64 (L.length : Int))) [.int .i64 (i : Int)] H = some (.exit 0, [.int .i64 (L.length : Int)], H') ∧ TS B H' m (fun s => fndV s L)) ∧
      (nmOk ((L.take i).map VV.name) (r.map VV.name) = false → zat (zbH RR x (.map (some m)) (.int .i64 (L.length : Int))) [.int .i64 (i : Int)] H = some (.ret, [.tuple #[.map none, .int .i64 72]], H'))
  | [], i, H, hr, hi, h => by
    have hil : i = L.length := by
      have := congrArg List.length hr
      rw [List.length_drop, List.length_nil] at this; omega
    subst hil
    refine ⟨H, h.next, h.old, fun _ => ⟨?_, ?_⟩, fun q => by cases q⟩
    · rw [zak]
      have : zbH RR x (.map (some m)) (.int .i64 (L.length : Int)) [.int .i64 (L.length : Int)] H = some (.exit 0, [.int .i64 (L.length : Int)], H) := by
        unfold zbH
        simp only [qg0]
        rw [lF (Int.lt_irrefl _)]
      rw [this]; rfl
    · rw [List.take_length] at h; exact h
  | v :: r, i, H, hr, hi, h => by
    have hlt : i < L.length := by
      have := congrArg List.length hr
      rw [List.length_drop, List.length_cons] at this; omega
    have hv : L[i]? = some v := by
      have : (L.drop i)[0]? = some v := by rw [hr]; rfl
      rwa [List.getElem?_drop, Nat.add_zero] at this
    have hr2 : L.drop (i + 1) = r := by rw [← List.drop_drop, hr]; rfl
    have ht : L.take (i + 1) = L.take i ++ [v] := by rw [List.take_add_one, hv]; rfl
    have hxH : Rdb H 3 x L.length (za8 L) := hx.keep' (fun j hj => h.old j (hx.lt hj)) h.next
    obtain ⟨y, _, y1, y2, _⟩ := Rdb.vv hxH hv
    have q : (i : Int) < (L.length : Int) := by omega
    have w1 : IntKind.i64.wrap ((i : Int) + 1) = ((i + 1 : Nat) : Int) := zaz (by omega) (by omega)
    have lk : ∀ {α : Type} (k : Value → Option α), zbs PP T.string (.agg #[.string ⟨#[]⟩, .int .i64 0, .int .u64 0]) (.map (some m)) (.string v.name) true H k = k (.tuple #[((fndV v.name (L.take i)).getD noV).val, .bool (fndV v.name (L.take i)).isSome]) := fun k => by
      rw [noV_val, h.map.look2]
      cases fndV v.name (L.take i) <;> rfl
    have hb := znX v.name (L.take i)
    obtain ⟨H1, u1, t1⟩ := h.up v
    have hcase : zbH RR x (.map (some m)) (.int .i64 (L.length : Int)) [.int .i64 (i : Int)] H = if ((fndV v.name (L.take i)).isSome || !zcb v.name) = true then some (.ret, [.tuple #[.map none, .int .i64 72]], H) else some (.next, [.int .i64 ((i + 1 : Nat) : Int)], H1) := by
      unfold zbH
      simp only [qg0]
      rw [lT q, y1, y2, splV, vcell0, lk, x01, splV, zac]
      cases (fndV v.name (L.take i)).isSome with
      | true => rfl
      | false =>
        rw [zaK, vcell0, zag (Go.AM.c44 _ _), zbE, zac]
        cases zcb v.name with
        | false => rfl
        | true =>
          show br false _ _ = _
          rw [zaK, vcell0, zm9, u1, za5, w1]; rfl
    rw [List.map_cons, nmOk_cons, ← hb]
    by_cases hc : ((fndV v.name (L.take i)).isSome || !zcb v.name) = true
    · rw [if_pos hc] at hcase ⊢
      refine ⟨H, h.next, h.old, fun q => (by cases q), fun _ => ?_⟩
      rw [zak, hcase]; rfl
    · rw [if_neg hc] at hcase ⊢
      have hF : (fun t => if (t == v.name) = true then some v else fndV t (L.take i)) = fun s => fndV s (L.take (i + 1)) := by
        funext t
        rw [ht, znW]
        by_cases e : (t == v.name) = true
        · rw [if_pos e, if_pos e]
          have : t = v.name := (ze8 _ _).1 e
          rw [this]
          cases hq : fndV v.name (L.take i) with
          | none => rfl
          | some z => rw [hq] at hc; exact absurd rfl hc
        · rw [if_neg e, if_neg e]
          cases fndV t (L.take i) <;> rfl
      rw [hF] at t1
      obtain ⟨H', g1, g2, g3, g4⟩ := zi5 r (i + 1) H1 hr2 (by omega) t1
      rw [ht, List.map_append] at g3 g4
      refine ⟨H', g1, g2, fun q => ?_, fun q => ?_⟩
      · rw [zak, hcase]; exact g3 q
      · rw [zak, hcase]; exact g4 q
theorem zi4 {H : Hp} (hok : ∀ v ∈ L, v.Ok) (hH : Rdb H 3 x L.length (za8 L)) : ∀ (r : List VV) (i : Nat), L.drop i = r → i ≤ L.length →
      (r.all wdOk = true → zat (zbG RR x (.int .i64 (L.length : Int))) [.int .i64 (i : Int)] H = some (.exit 2, [.int .i64 (L.length : Int)], H)) ∧
      (r.all wdOk = false → zat (zbG RR x (.int .i64 (L.length : Int))) [.int .i64 (i : Int)] H = some (.ret, [.tuple #[.map none, .int .i64 5]], H))
  | [], i, hr, hi => by
    have hil : i = L.length := by
      have := congrArg List.length hr
      rw [List.length_drop, List.length_nil] at this; omega
    subst hil
    refine ⟨fun _ => ?_, fun q => by cases q⟩
    rw [zak]
    have : zbG RR x (.int .i64 (L.length : Int)) [.int .i64 (L.length : Int)] H = some (.exit 2, [.int .i64 (L.length : Int)], H) := by
      unfold zbG
      simp only [qg0]
      rw [lF (Int.lt_irrefl _)]
    rw [this]; rfl
  | v :: r, i, hr, hi => by
    have hlt : i < L.length := by
      have := congrArg List.length hr
      rw [List.length_drop, List.length_cons] at this; omega
    have hv : L[i]? = some v := by
      have : (L.drop i)[0]? = some v := by rw [hr]; rfl
      rwa [List.getElem?_drop, Nat.add_zero] at this
    have hr2 : L.drop (i + 1) = r := by rw [← List.drop_drop, hr]; rfl
    obtain ⟨y, _, y1, y2, _⟩ := Rdb.vv hH hv
    have q : (i : Int) < (L.length : Int) := by omega
    have w1 : IntKind.i64.wrap ((i : Int) + 1) = ((i + 1 : Nat) : Int) := zaz (by omega) (by omega)
    obtain ⟨n0, n1⟩ := hok v (List.mem_of_getElem? hv)
    have e : (if (1 : Int) > v.w then (1 : Int) else v.w) = if v.w < 1 then 1 else v.w := rfl
    have hcase : zbG RR x (.int .i64 (L.length : Int)) [.int .i64 (i : Int)] H = if wdOk v = true then some (.next, [.int .i64 ((i + 1 : Nat) : Int)], H) else some (.ret, [.tuple #[.map none, .int .i64 5]], H) := by
      unfold zbG wdOk
      simp only [qg0]
      rw [lT q, y1, y2, splV, zi1, zbc, zac]
      by_cases a : v.w < 0
      · rw [decide_eq_true a, za1, decide_eq_false (show ¬ 0 ≤ v.w by omega)]; rfl
      · rw [decide_eq_false a, zaK, zi1, zb1, zac, decide_eq_true (show 0 ≤ v.w by omega)]
        by_cases b : v.w > 64
        · rw [decide_eq_true b, za1, decide_eq_false (show ¬ v.w ≤ 64 by omega)]; rfl
        · rw [decide_eq_false b, zaK, zi1, mm_i64, zkN, zag (Go.AM.c45 _ _ n0 n1 _), zkN, zbo, zac, decide_eq_true (show v.w ≤ 64 by omega), e, za5, w1]
          by_cases c : zdc (if v.w < 1 then 1 else v.w) v.num = v.num
          · rw [c, decide_eq_false (by simp), zaK, decide_eq_true rfl]; rfl
          · rw [decide_eq_true c, za1, decide_eq_false c]; rfl
    obtain ⟨g1, g2⟩ := zi4 hok hH r (i + 1) hr2 (by omega)
    rw [List.all_cons]
    cases hw : wdOk v with
    | true =>
      rw [hw, if_pos rfl] at hcase
      rw [Bool.true_and, zak, hcase]
      exact ⟨g1, g2⟩
    | false =>
      rw [hw, if_neg (by decide)] at hcase
      refine ⟨fun q => (by cases q), fun _ => ?_⟩
      rw [zak, hcase]; rfl
theorem c_told (hok : ∀ v ∈ L, v.Ok) : ∃ v H', RR F.a37 [x] B = some (.tuple #[v, .int .i64 (zfm L)], H') ∧ Frm (fun _ => False) B H' ∧ (zfm L = 0 → ∃ m, v = .map (some m) ∧ B.next ≤ m ∧ m < H'.next ∧ MapS H' m VV.val (fun s => fndV s L)) := by
  have hr := (zmh E0 rfl x B).trans (zmP _ _ _)
  have t0 : TS B (B.new (.map [])) B.next (fun s => fndV s (L.take 0)) := ⟨by show B.next ≤ B.next + 1; omega, fun j hj => by rw [get_new, if_neg (by omega)], Nat.le_refl _, by show B.next < B.next + 1; omega, MapS.new B VV.val⟩
  obtain ⟨H1, a1, a2, a3, a4⟩ := zi5 hx hl L 0 _ rfl (Nat.zero_le _) t0
  rw [List.take_zero, List.map_nil] at a3 a4
  have hh : ∀ (n : Int) (f : Option (Value × Hp)), zgA (.int .i64 n) f = f := fun n f => rfl
  have hm : ∀ (H : Hp) (f : Value → Hp → Option (Value × Hp)), zb7 H f = f (.map (some H.next)) (H.new (.map [])) := fun H f => rfl
  have z0 : ((0 : Nat) : Int) = 0 := rfl
  rw [z0] at a3 a4
  rw [hx.len, hh, hm, hx.len] at hr
  unfold zfm
  have fr : Frm (fun _ => False) B H1 := ⟨a1, fun j hj _ => a2 j hj⟩
  cases hn : nmOk [] (L.map VV.name) with
  | false =>
    rw [a4 hn] at hr
    rw [if_neg (by decide)]
    exact ⟨_, H1, hr, fr, fun q => absurd q (by decide)⟩
  | true =>
    obtain ⟨b1, b2⟩ := a3 hn
    have hx1 : Rdb H1 3 x L.length (za8 L) := hx.keep' (fun j hj => a2 j (hx.lt hj)) a1
    obtain ⟨c1, c2⟩ := zi4 hx hl hok hx1 L 0 rfl (Nat.zero_le _)
    rw [z0] at c1 c2
    rw [b1, zap, zbg, zaJ, hx.len] at hr
    rw [if_pos rfl]
    cases hw : L.all wdOk with
    | false =>
      rw [c2 hw] at hr
      rw [if_neg (by decide)]
      exact ⟨_, H1, hr, fr, fun q => absurd q (by decide)⟩
    | true =>
      rw [c1 hw, zap, zbg, zaJ] at hr
      exact ⟨_, H1, hr, fr, fun _ => ⟨_, rfl, b2.l, b2.n, b2.map⟩⟩
end
end Go.AM.N14
namespace Go.AM
open Go
def fw (F : Int → Int) (n : Nd) : List Fld → Nat → List (List UInt8)
  | [], _ => []
  | .p :: r, k => itoa (F ([n.a, n.b, n.c].getD k 0)) :: fw F n r (k + 1)
  | .n :: r, k => numT n.num.toNat :: fw F n r k
  | .w :: r, k => itoa n.w :: fw F n r k
  | .s :: r, k => n.name.data.toList :: fw F n r k
def upT (n : Nat) : List Int := (List.range n).map fun (j : Nat) => ((j + 1 : Nat) : Int)
section
end
theorem zmo (a b : ByteArray) (h : (a.toList == b.toList) = true) : a = b := by
  have h : a.toList = b.toList := by simpa using h
  rw [Go.Lib.toList_data, Go.Lib.toList_data] at h
  rw [ziv (s := a) rfl, ziv (s := b) rfl, h]
theorem znK {M : List Nd} {K : List (ByteArray × Int)} {n : Nd} (h : zkJ M K n) : (zah n.op ≥ 1 → 1 ≤ n.a ∧ n.a ≤ M.length) ∧ (zah n.op < 1 → n.a = 0) ∧ (zah n.op ≥ 2 → 1 ≤ n.b ∧ n.b ≤ M.length) ∧ (zah n.op < 2 → n.b = 0) ∧ (zah n.op ≥ 3 → 1 ≤ n.c ∧ n.c ≤ M.length) ∧ (zah n.op < 3 → n.c = 0) ∧
    (n.op ≠ 3 → n.op ≠ 31 → n.num = 0) ∧ (n.op ≠ 4 → n.name = ⟨#[]⟩) := by
  obtain ⟨_, _, _, ha, hb, hc⟩ := zkh h.pt h.sp
  have h2 := h.sp
  unfold zey at h2
  simp only [Bool.or_eq_true, Bool.and_eq_true, decide_eq_true_eq, not_or, not_and] at h2
  refine ⟨fun q => zbf.1 (ha q), fun q => ?_, fun q => zbf.1 (hb q), fun q => ?_, fun q => zbf.1 (hc q), fun q => ?_, fun q1 q2 => ?_, fun q => ?_⟩
  · have := h2.1.1.1.1 q; omega
  · have := h2.1.1.1.2 q; omega
  · have := h2.1.1.2 q; omega
  · exact Decidable.byContradiction fun e => h2.1.2 ⟨e, q1⟩ q2
  · have hn : zlw n = false := by
      cases e : zlw n with
      | false => rfl
      | true => exact absurd q (h2.2 e)
    unfold zlw at hn
    have he : (n.name.toList == (⟨#[]⟩ : ByteArray).toList) = true := by simpa using hn
    have h3 := zmo n.name ⟨#[]⟩ he
    exact h3
end Go.AM
namespace Go.AM
open Go
section
end
end Go.AM
namespace Go.AM
open Go
section
end
section
end
end Go.AM
namespace Go.AM
open Go
section
end
end Go.AM
namespace Go.AM.N14
open Go Go.AM
theorem zee : ∀ (l seen : List ByteArray), nmOk seen l = true ↔ (∀ s ∈ l, zcb s = true) ∧ l.Nodup ∧ (∀ s ∈ l, s ∉ seen)
  | [], seen => by
    unfold nmOk
    simp
  | s :: r, seen => by
    have ih := zee r (seen ++ [s])
    have ha : (seen.any fun t => s == t) = true ↔ s ∈ seen := by
      rw [List.any_eq_true]
      constructor
      · rintro ⟨t, ht, q⟩; rw [(ze8 s t).1 q]; exact ht
      · intro h; exact ⟨s, h, (ze8 s s).2 rfl⟩
    unfold nmOk
    by_cases h : ((seen.any fun t => s == t) || !zcb s) = true
    · rw [if_pos h]
      refine ⟨fun q => (by cases q), fun ⟨q1, _, q3⟩ => ?_⟩
      rw [Bool.or_eq_true] at h
      rcases h with h | h
      · exact absurd (ha.1 h) (q3 s (List.mem_cons_self ..))
      · have := q1 s (List.mem_cons_self ..)
        rw [this] at h; cases h
    · rw [if_neg h, ih]
      rw [Bool.or_eq_true, not_or] at h
      have hs : s ∉ seen := fun q => h.1 (ha.2 q)
      have hk : zcb s = true := by
        cases q : zcb s with
        | true => rfl
        | false => exact absurd (by rw [q]; rfl) h.2
      constructor
      · rintro ⟨q1, q2, q3⟩
        refine ⟨fun t ht => ?_, List.nodup_cons.2 ⟨fun q => q3 s q (List.mem_append_right _ (List.mem_singleton.2 rfl)), q2⟩, fun t ht => ?_⟩
        · rcases List.mem_cons.1 ht with e | e
          · rw [e]; exact hk
          · exact q1 t e
        · rcases List.mem_cons.1 ht with e | e
          · rw [e]; exact hs
          · exact fun q => q3 t e (List.mem_append_left _ q)
      · rintro ⟨q1, q2, q3⟩
        obtain ⟨n1, n2⟩ := List.nodup_cons.1 q2
        refine ⟨fun t ht => q1 t (List.mem_cons_of_mem _ ht), n2, fun t ht q => ?_⟩
        rcases List.mem_append.1 q with e | e
        · exact q3 t (List.mem_cons_of_mem _ ht) e
        · rw [List.mem_singleton] at e; rw [e] at ht; exact n1 ht
theorem znb {L : List Nd} {K : List (ByteArray × Int)} (hg : zev L K) {m u : Nd} (hm : m ∈ L) (hu : u ∈ L) (m4 : m.op = 4) (u4 : u.op = 4) (e : m.name = u.name) : m = u := by
  obtain ⟨j, k1⟩ := hg.kn m hm m4
  obtain ⟨i, k2⟩ := hg.kn u hu u4
  rw [e, k2] at k1
  have hw := congrArg Prod.snd (Option.some.inj k1)
  have one : ∀ x : Nd, x ∈ L → x.op = 4 → x.a = 0 ∧ x.b = 0 ∧ x.c = 0 ∧ x.num = 0 := fun x hx x4 => by
    obtain ⟨_, pa, _, pb, _, pc, pn, _⟩ := znK (hg.rt x hx)
    have hp : zah x.op = 0 := by rw [x4]; rfl
    exact ⟨pa (by omega), pb (by omega), pc (by omega), pn (by omega) (by omega)⟩
  obtain ⟨a1, a2, a3, a4⟩ := one m hm m4
  obtain ⟨b1, b2, b3, b4⟩ := one u hu u4
  cases m; cases u
  simp only [Nd.mk.injEq]
  dsimp only at *
  exact ⟨by rw [m4, u4], by rw [hw], by rw [a1, b1], by rw [a2, b2], by rw [a3, b3], by rw [a4, b4], e⟩
def isV (L : List Nd) (t : Nat) : Option VV := match L[t - 1]? with
  | some n => if n.op = 4 then some ⟨n.name, n.w, 0⟩ else none
  | none => none
theorem zhs {L : List Nd} {t : Nat} {v : VV} (h : isV L t = some v) : ∃ n, L[t - 1]? = some n ∧ n.op = 4 ∧ v = ⟨n.name, n.w, 0⟩ := by
  unfold isV at h
  cases hq : L[t - 1]? with
  | none => rw [hq] at h; cases h
  | some n =>
    rw [hq] at h
    dsimp only at h
    split at h
    · rename_i h4; cases h; exact ⟨n, rfl, h4, rfl⟩
    · cases h
theorem zok {L : List Nd} {K : List (ByteArray × Int)} (hg : zev L K) : ∀ (O : List Nat), O.Nodup → (∀ t ∈ O, 1 ≤ t ∧ t ≤ L.length) → nmOk [] ((O.filterMap (isV L)).map VV.name) = true := by
  intro O hn hb
  rw [zee]
  refine ⟨fun s hs => ?_, ?_, fun s _ q => by cases q⟩
  · obtain ⟨v, hv, rfl⟩ := List.mem_map.1 hs
    obtain ⟨t, ht, q⟩ := List.mem_filterMap.1 hv
    obtain ⟨n, h1, h4, rfl⟩ := zhs q
    exact (zkG ((hg.rt n (List.mem_of_getElem? h1)).free h4)).1
  · induction O with
    | nil => exact List.nodup_nil
    | cons t r ih =>
      obtain ⟨n1, n2⟩ := List.nodup_cons.1 hn
      have ih := ih n2 fun x hx => hb x (List.mem_cons_of_mem _ hx)
      rw [List.filterMap_cons]
      cases hq : isV L t with
      | none => exact ih
      | some v =>
        dsimp only
        rw [List.map_cons]
        refine List.nodup_cons.2 ⟨fun q => ?_, ih⟩
        obtain ⟨u, hu, e⟩ := List.mem_map.1 q
        obtain ⟨x, hx, q2⟩ := List.mem_filterMap.1 hu
        obtain ⟨n, a1, a4, rfl⟩ := zhs hq
        obtain ⟨m, b1, b4, rfl⟩ := zhs q2
        have hs := znb hg (List.mem_of_getElem? a1) (List.mem_of_getElem? b1) a4 b4 e.symm
        rw [← hs] at b1
        have := hg.nod _ _ _ a1 b1
        have h1 := hb t (List.mem_cons_self ..)
        have h2 := hb x (List.mem_cons_of_mem _ hx)
        have : t = x := by omega
        rw [this] at n1
        exact n1 hx
theorem zjV (L : List Nd) (ns : List Nat) : zaY L ns = (posts L ns []).filterMap (isV L) := rfl
def cutW (w x : Int) : Int := zdc (if w < 1 then 1 else w) x
def zaX (nums : List Int) : Nat → List VV → List VV
  | _, [] => []
  | i, v :: r => { v with num := cutW v.w (if nums = [] then 0 else nums.getD (i % nums.length) 0) } :: zaX nums (i + 1) r
theorem zdo (nums : List Int) : ∀ (Tv : List VV) (i : Nat), (zaX nums i Tv).map VV.name = Tv.map VV.name
  | [], i => rfl
  | v :: r, i => by
    unfold zaX
    rw [List.map_cons, List.map_cons, zdo nums r (i + 1)]
theorem trim_trim (w x : Int) (hx : 0 ≤ x) : zdc w (zdc w x) = zdc w x := by
  unfold zdc
  by_cases h1 : w < 1
  · simp only [h1, if_true]
  · by_cases h2 : w ≥ 64
    · simp only [h1, h2, if_true, if_false]
    · simp only [h1, h2, if_false]
      rw [Int.emod_emod_of_dvd _ (Int.dvd_refl _)]
theorem zn6 (nums : List Int) (hnn : ∀ x ∈ nums, 0 ≤ x) : ∀ (Tv : List VV) (i : Nat), (∀ v ∈ Tv, 0 ≤ v.w ∧ v.w ≤ 64) → (zaX nums i Tv).all wdOk = true
  | [], i, _ => rfl
  | v :: r, i, h => by
    unfold zaX
    rw [List.all_cons, zn6 nums hnn r (i + 1) fun x hx => h x (List.mem_cons_of_mem _ hx), Bool.and_true]
    have hv := h v (List.mem_cons_self ..)
    unfold wdOk cutW
    dsimp only
    have hx : 0 ≤ (if nums = [] then 0 else nums.getD (i % nums.length) 0) := by
      split
      · exact Int.le_refl _
      · rw [List.getD_eq_getElem?_getD]
        cases q : nums[i % nums.length]? with
        | none => exact Int.le_refl _
        | some x => exact hnn x (List.mem_of_getElem? q)
    rw [trim_trim _ _ hx, decide_eq_true hv.1, decide_eq_true hv.2, decide_eq_true rfl]; rfl
end Go.AM.N14
namespace Go.AM.N14
open Go Go.AM
section
end
end Go.AM.N14
namespace Go.AM.N14
open Go Go.AM
end Go.AM.N14
namespace Go.AM.N14
open Go Go.AM
end Go.AM.N14
namespace Go.AM.N14
open Go Go.AM
section
end
end Go.AM.N14
namespace Go.AM.N14
open Go Go.AM
end Go.AM.N14
namespace Go.AM.N14
open Go Go.AM
end Go.AM.N14
namespace Go.AM.N14
open Go Go.AM
end Go.AM.N14
namespace Go.AM.N14
open Go Go.AM
end Go.AM.N14
namespace Go.AM.N14
open Go Go.AM
end Go.AM.N14
namespace Go.AM.N14
open Go Go.AM
section
end
end Go.AM.N14
namespace Go.AM.N14
open Go Go.AM
section
end
end Go.AM.N14
namespace Go.AM.N14
open Go Go.AM
section
end
end Go.AM.N14
namespace Go.AM.N14
open Go Go.AM
end Go.AM.N14
namespace Go.AM.N14
open Go Go.AM
end Go.AM.N14
namespace Go.AM.N14
open Go Go.AM Go.ChangeShapes Go.WideShapes Go.ChangeAt Go.RowKit
end Go.AM.N14
namespace Go.AM.N14
open Go Go.AM
end Go.AM.N14
namespace Go.AM.N14
open Go Go.AM
end Go.AM.N14
namespace Go.AM.N14
open Go Go.AM
end Go.AM.N14
namespace Go.AM.N14
open Go Go.AM
end Go.AM.N14
namespace Go.AM.N14
open Go Go.AM
end Go.AM.N14
namespace Go.AM.N14
open Go Go.AM
def zcf (n : Nd) (a b c : Int) : Bool :=
  if n.op ≤ 2 then decide (n.w = 0) else if n.op = 3 then decide (n.w > 0) && decide (n.num ≤ ((msk (wd n.w)).toNat : Int)) else if n.op = 4 then true else if n.op = 5 then decide (n.w = 0) && decide (a = 0) else if n.op ≤ 8 then decide (n.w = 0) && (decide (a = 0) && decide (b = 0)) else if n.op = 9 then decide (n.w = 0) && decide (a = b) else if n.op ≤ 13 then decide (n.w = 0) && (decide (a > 0) && decide (a = b)) else if n.op = 14 then decide (a = 0) && (decide (b = c) && decide (n.w = b))
  else if n.op ≤ 16 then decide (a > 0) && decide (n.w = a) else if n.op ≤ 24 then decide (a > 0) && (decide (a = b) && decide (n.w = a)) else if n.op ≤ 29 then decide (a > 0) && (decide (a = b) && (decide (n.w = a) && isPow a)) else if n.op = 30 then decide (a > 0) && (decide (b > 0) && decide (n.w = a + b)) else if n.op = 31 then decide (a > 0) && (decide (n.w ≥ 1) && (decide (n.w ≤ a) && decide (n.num ≤ a - n.w))) else decide (a > 0) && decide (n.w ≥ a)
def zgM (n : Nd) (a b c : Int) : Bool := if n.num ≠ 0 ∧ n.op ≠ 3 ∧ n.op ≠ 31 then false else zcf n a b c
end Go.AM.N14
namespace Go.AM.N14
open Go Go.AM
structure Parted (L : List Nd) (n : Nd) (a b c : Int) : Prop where
  a : (zah n.op ≥ 1 ∧ isT L n.a = true ∧ wT L (-1) n.a = a) ∨ (zah n.op < 1 ∧ n.a = 0 ∧ a = 0)
  b : (zah n.op ≥ 2 ∧ isT L n.b = true ∧ wT L (-1) n.b = b) ∨ (zah n.op < 2 ∧ n.b = 0 ∧ b = 0)
  c : (zah n.op ≥ 3 ∧ isT L n.c = true ∧ wT L (-1) n.c = c) ∨ (zah n.op < 3 ∧ n.c = 0 ∧ c = 0)
theorem trim_iff {n : Nd} (hw : 0 < n.w ∧ n.w ≤ 64) (hnum : 0 ≤ n.num ∧ n.num < 18446744073709551616) : decide (zdc n.w n.num = n.num) = decide (n.num ≤ ((msk (wd n.w)).toNat : Int)) := by
  have e1 : wd n.w = n.w.toNat := by unfold wd; omega
  rw [e1, zkp _ (by omega)]
  unfold zdc
  rw [if_neg (by omega)]
  by_cases h64 : n.w ≥ 64
  · have : n.w.toNat = 64 := by omega
    rw [if_pos h64, this, decide_eq_true rfl, decide_eq_true (by omega)]
  · rw [if_neg h64]
    have hp : 0 < 2 ^ n.w.toNat := Nat.two_pow_pos _
    have ep : ((2 : Int) ^ n.w.toNat) = ((2 ^ n.w.toNat : Nat) : Int) := by push_cast; rfl
    rw [ep]
    generalize 2 ^ n.w.toNat = m at *
    have : (n.num % (m : Int) = n.num) ↔ n.num ≤ ((m - 1 : Nat) : Int) := by
      constructor
      · intro h
        have := Int.emod_lt_of_pos n.num (show (0 : Int) < (m : Int) by omega)
        omega
      · intro h
        exact Int.emod_eq_of_lt hnum.1 (by omega)
    exact decide_eq_decide.2 this
theorem checks {n : Nd} (ho : 1 ≤ n.op ∧ n.op ≤ 33) (h4 : n.op ≠ 4) (hw : 0 ≤ n.w ∧ n.w ≤ 64) (hnum : 0 ≤ n.num ∧ n.num < 18446744073709551616) {L : List Nd} {a b c : Int} (hp : Parted L n a b c) :
    (zbC n.op (wT L (-1) n.a) (wT L (-1) n.b) (wT L (-1) n.c) && zbF n (wT L (-1) n.a) (wT L (-1) n.b)) = zcf n a b c := by
  have pa := hp.a
  have pb := hp.b
  have pc := hp.c
  by_cases g1 : 1 ≤ n.op ∧ n.op ≤ 2
  · have hk : zah n.op = 0 := by unfold zah; rw [if_pos (by omega)]
    rw [hk] at pa pb pc
    unfold zbC zbF zcf
    rw [if_pos (show zah n.op = 0 by omega), if_pos (show n.op = 1 ∨ n.op = 2 ∨ (5 ≤ n.op ∧ n.op ≤ 13) by omega), if_pos (show n.op ≤ 2 by omega)]
    rw [Bool.true_and]
  by_cases g3 : n.op = 3
  · have hk : zah n.op = 0 := by unfold zah; rw [if_pos (by omega)]
    rw [hk] at pa pb pc
    unfold zbC zbF zcf
    rw [if_pos (show zah n.op = 0 by omega), if_neg (show ¬ (n.op = 1 ∨ n.op = 2 ∨ (5 ≤ n.op ∧ n.op ≤ 13)) by omega), if_pos (show n.op = 3 by omega), if_neg (show ¬ n.op ≤ 2 by omega), if_pos (show n.op = 3 by omega)]
    by_cases q : n.w > 0
    · rw [trim_iff ⟨q, hw.2⟩ hnum, Bool.true_and]
    · rw [decide_eq_false q]; rfl
  by_cases g5 : n.op = 5
  · have hk : zah n.op = 1 := by unfold zah; rw [if_neg (by omega), if_pos (by omega)]
    rw [hk] at pa pb pc
    have ea : wT L (-1) n.a = a := by rcases pa with ⟨_, _, q⟩ | ⟨q, _, _⟩; exact q; exact absurd q (by decide)
    unfold zbC zbF zcf
    rw [ea]
    rw [if_neg (show ¬ (zah n.op = 0) by omega), if_pos (show n.op = 5 by omega), if_pos (show n.op = 1 ∨ n.op = 2 ∨ (5 ≤ n.op ∧ n.op ≤ 13) by omega), if_neg (show ¬ n.op ≤ 2 by omega), if_neg (show ¬ n.op = 3 by omega), if_neg (show ¬ n.op = 4 by omega), if_pos (show n.op = 5 by omega)]
    ac_rfl
  by_cases g6 : 6 ≤ n.op ∧ n.op ≤ 8
  · have hk : zah n.op = 2 := by unfold zah; rw [if_neg (by omega), if_neg (by omega), if_neg (by omega)]
    rw [hk] at pa pb pc
    have ea : wT L (-1) n.a = a := by rcases pa with ⟨_, _, q⟩ | ⟨q, _, _⟩; exact q; exact absurd q (by decide)
    have eb : wT L (-1) n.b = b := by rcases pb with ⟨_, _, q⟩ | ⟨q, _, _⟩; exact q; exact absurd q (by decide)
    unfold zbC zbF zcf
    rw [ea, eb]
    rw [if_neg (show ¬ (zah n.op = 0) by omega), if_neg (show ¬ (n.op = 5) by omega), if_pos (show n.op = 6 ∨ n.op = 7 ∨ n.op = 8 by omega), if_pos (show n.op = 1 ∨ n.op = 2 ∨ (5 ≤ n.op ∧ n.op ≤ 13) by omega), if_neg (show ¬ n.op ≤ 2 by omega), if_neg (show ¬ n.op = 3 by omega), if_neg (show ¬ n.op = 4 by omega), if_neg (show ¬ n.op = 5 by omega), if_pos (show n.op ≤ 8 by omega)]
    ac_rfl
  by_cases g9 : n.op = 9
  · have hk : zah n.op = 2 := by unfold zah; rw [if_neg (by omega), if_neg (by omega), if_neg (by omega)]
    rw [hk] at pa pb pc
    have ea : wT L (-1) n.a = a := by rcases pa with ⟨_, _, q⟩ | ⟨q, _, _⟩; exact q; exact absurd q (by decide)
    have eb : wT L (-1) n.b = b := by rcases pb with ⟨_, _, q⟩ | ⟨q, _, _⟩; exact q; exact absurd q (by decide)
    unfold zbC zbF zcf
    rw [ea, eb]
    rw [if_neg (show ¬ (zah n.op = 0) by omega), if_neg (show ¬ (n.op = 5) by omega), if_neg (show ¬ (n.op = 6 ∨ n.op = 7 ∨ n.op = 8) by omega), if_pos (show n.op = 9 by omega), if_pos (show n.op = 1 ∨ n.op = 2 ∨ (5 ≤ n.op ∧ n.op ≤ 13) by omega), if_neg (show ¬ n.op ≤ 2 by omega), if_neg (show ¬ n.op = 3 by omega), if_neg (show ¬ n.op = 4 by omega), if_neg (show ¬ n.op = 5 by omega), if_neg (show ¬ n.op ≤ 8 by omega), if_pos (show n.op = 9 by omega)]
    ac_rfl
  by_cases g10 : 10 ≤ n.op ∧ n.op ≤ 13
  · have hk : zah n.op = 2 := by unfold zah; rw [if_neg (by omega), if_neg (by omega), if_neg (by omega)]
    rw [hk] at pa pb pc
    have ea : wT L (-1) n.a = a := by rcases pa with ⟨_, _, q⟩ | ⟨q, _, _⟩; exact q; exact absurd q (by decide)
    have eb : wT L (-1) n.b = b := by rcases pb with ⟨_, _, q⟩ | ⟨q, _, _⟩; exact q; exact absurd q (by decide)
    unfold zbC zbF zcf
    rw [ea, eb]
    rw [if_neg (show ¬ (zah n.op = 0) by omega), if_neg (show ¬ (n.op = 5) by omega), if_neg (show ¬ (n.op = 6 ∨ n.op = 7 ∨ n.op = 8) by omega), if_neg (show ¬ (n.op = 9) by omega), if_neg (show ¬ (n.op = 14) by omega), if_neg (show ¬ (n.op = 30) by omega), if_neg (show ¬ (zah n.op = 1) by omega), if_pos (show n.op = 1 ∨ n.op = 2 ∨ (5 ≤ n.op ∧ n.op ≤ 13) by omega), if_neg (show ¬ n.op ≤ 2 by omega), if_neg (show ¬ n.op = 3 by omega), if_neg (show ¬ n.op = 4 by omega), if_neg (show ¬ n.op = 5 by omega), if_neg (show ¬ n.op ≤ 8 by omega), if_neg (show ¬ n.op = 9 by omega), if_pos (show n.op ≤ 13 by omega)]
    ac_rfl
  by_cases g14 : n.op = 14
  · have hk : zah n.op = 3 := by unfold zah; rw [if_neg (by omega), if_neg (by omega), if_pos (by omega)]
    rw [hk] at pa pb pc
    have ea : wT L (-1) n.a = a := by rcases pa with ⟨_, _, q⟩ | ⟨q, _, _⟩; exact q; exact absurd q (by decide)
    have eb : wT L (-1) n.b = b := by rcases pb with ⟨_, _, q⟩ | ⟨q, _, _⟩; exact q; exact absurd q (by decide)
    have ec : wT L (-1) n.c = c := by rcases pc with ⟨_, _, q⟩ | ⟨q, _, _⟩; exact q; exact absurd q (by decide)
    unfold zbC zbF zcf
    rw [ea, eb, ec]
    rw [if_neg (show ¬ (zah n.op = 0) by omega), if_neg (show ¬ (n.op = 5) by omega), if_neg (show ¬ (n.op = 6 ∨ n.op = 7 ∨ n.op = 8) by omega), if_neg (show ¬ (n.op = 9) by omega), if_pos (show n.op = 14 by omega), if_neg (show ¬ (n.op = 1 ∨ n.op = 2 ∨ (5 ≤ n.op ∧ n.op ≤ 13)) by omega), if_neg (show ¬ (n.op = 3) by omega), if_neg (show ¬ (n.op = 4) by omega), if_pos (show n.op = 14 by omega), if_neg (show ¬ n.op ≤ 2 by omega), if_neg (show ¬ n.op = 3 by omega), if_neg (show ¬ n.op = 4 by omega), if_neg (show ¬ n.op = 5 by omega), if_neg (show ¬ n.op ≤ 8 by omega), if_neg (show ¬ n.op = 9 by omega), if_neg (show ¬ n.op ≤ 13 by omega), if_pos (show n.op = 14 by omega)]
    ac_rfl
  by_cases g15 : 15 ≤ n.op ∧ n.op ≤ 16
  · have hk : zah n.op = 1 := by unfold zah; rw [if_neg (by omega), if_pos (by omega)]
    rw [hk] at pa pb pc
    have ea : wT L (-1) n.a = a := by rcases pa with ⟨_, _, q⟩ | ⟨q, _, _⟩; exact q; exact absurd q (by decide)
    unfold zbC zbF zcf
    rw [ea]
    rw [if_neg (show ¬ (zah n.op = 0) by omega), if_neg (show ¬ (n.op = 5) by omega), if_neg (show ¬ (n.op = 6 ∨ n.op = 7 ∨ n.op = 8) by omega), if_neg (show ¬ (n.op = 9) by omega), if_neg (show ¬ (n.op = 14) by omega), if_neg (show ¬ (n.op = 30) by omega), if_pos (show zah n.op = 1 by omega), if_neg (show ¬ (n.op = 1 ∨ n.op = 2 ∨ (5 ≤ n.op ∧ n.op ≤ 13)) by omega), if_neg (show ¬ (n.op = 3) by omega), if_neg (show ¬ (n.op = 4) by omega), if_neg (show ¬ (n.op = 14) by omega), if_neg (show ¬ (25 ≤ n.op ∧ n.op ≤ 29) by omega), if_neg (show ¬ (n.op = 30) by omega), if_neg (show ¬ (n.op = 31) by omega), if_neg (show ¬ (n.op = 32 ∨ n.op = 33) by omega), if_neg (show ¬ n.op ≤ 2 by omega), if_neg (show ¬ n.op = 3 by omega), if_neg (show ¬ n.op = 4 by omega), if_neg (show ¬ n.op = 5 by omega), if_neg (show ¬ n.op ≤ 8 by omega), if_neg (show ¬ n.op = 9 by omega), if_neg (show ¬ n.op ≤ 13 by omega), if_neg (show ¬ n.op = 14 by omega), if_pos (show n.op ≤ 16 by omega)]
  by_cases g17 : 17 ≤ n.op ∧ n.op ≤ 24
  · have hk : zah n.op = 2 := by unfold zah; rw [if_neg (by omega), if_neg (by omega), if_neg (by omega)]
    rw [hk] at pa pb pc
    have ea : wT L (-1) n.a = a := by rcases pa with ⟨_, _, q⟩ | ⟨q, _, _⟩; exact q; exact absurd q (by decide)
    have eb : wT L (-1) n.b = b := by rcases pb with ⟨_, _, q⟩ | ⟨q, _, _⟩; exact q; exact absurd q (by decide)
    unfold zbC zbF zcf
    rw [ea, eb]
    rw [if_neg (show ¬ (zah n.op = 0) by omega), if_neg (show ¬ (n.op = 5) by omega), if_neg (show ¬ (n.op = 6 ∨ n.op = 7 ∨ n.op = 8) by omega), if_neg (show ¬ (n.op = 9) by omega), if_neg (show ¬ (n.op = 14) by omega), if_neg (show ¬ (n.op = 30) by omega), if_neg (show ¬ (zah n.op = 1) by omega), if_neg (show ¬ (n.op = 1 ∨ n.op = 2 ∨ (5 ≤ n.op ∧ n.op ≤ 13)) by omega), if_neg (show ¬ (n.op = 3) by omega), if_neg (show ¬ (n.op = 4) by omega), if_neg (show ¬ (n.op = 14) by omega), if_neg (show ¬ (25 ≤ n.op ∧ n.op ≤ 29) by omega), if_neg (show ¬ (n.op = 30) by omega), if_neg (show ¬ (n.op = 31) by omega), if_neg (show ¬ (n.op = 32 ∨ n.op = 33) by omega), if_neg (show ¬ n.op ≤ 2 by omega), if_neg (show ¬ n.op = 3 by omega), if_neg (show ¬ n.op = 4 by omega), if_neg (show ¬ n.op = 5 by omega), if_neg (show ¬ n.op ≤ 8 by omega), if_neg (show ¬ n.op = 9 by omega), if_neg (show ¬ n.op ≤ 13 by omega), if_neg (show ¬ n.op = 14 by omega), if_neg (show ¬ n.op ≤ 16 by omega), if_pos (show n.op ≤ 24 by omega)]
    ac_rfl
  by_cases g25 : 25 ≤ n.op ∧ n.op ≤ 29
  · have hk : zah n.op = 2 := by unfold zah; rw [if_neg (by omega), if_neg (by omega), if_neg (by omega)]
    rw [hk] at pa pb pc
    have ea : wT L (-1) n.a = a := by rcases pa with ⟨_, _, q⟩ | ⟨q, _, _⟩; exact q; exact absurd q (by decide)
    have eb : wT L (-1) n.b = b := by rcases pb with ⟨_, _, q⟩ | ⟨q, _, _⟩; exact q; exact absurd q (by decide)
    unfold zbC zbF zcf
    rw [ea, eb]
    rw [if_neg (show ¬ (zah n.op = 0) by omega), if_neg (show ¬ (n.op = 5) by omega), if_neg (show ¬ (n.op = 6 ∨ n.op = 7 ∨ n.op = 8) by omega), if_neg (show ¬ (n.op = 9) by omega), if_neg (show ¬ (n.op = 14) by omega), if_neg (show ¬ (n.op = 30) by omega), if_neg (show ¬ (zah n.op = 1) by omega), if_neg (show ¬ (n.op = 1 ∨ n.op = 2 ∨ (5 ≤ n.op ∧ n.op ≤ 13)) by omega), if_neg (show ¬ (n.op = 3) by omega), if_neg (show ¬ (n.op = 4) by omega), if_neg (show ¬ (n.op = 14) by omega), if_pos (show 25 ≤ n.op ∧ n.op ≤ 29 by omega), if_neg (show ¬ n.op ≤ 2 by omega), if_neg (show ¬ n.op = 3 by omega), if_neg (show ¬ n.op = 4 by omega), if_neg (show ¬ n.op = 5 by omega), if_neg (show ¬ n.op ≤ 8 by omega), if_neg (show ¬ n.op = 9 by omega), if_neg (show ¬ n.op ≤ 13 by omega), if_neg (show ¬ n.op = 14 by omega), if_neg (show ¬ n.op ≤ 16 by omega), if_neg (show ¬ n.op ≤ 24 by omega), if_pos (show n.op ≤ 29 by omega)]
    ac_rfl
  by_cases g30 : n.op = 30
  · have hk : zah n.op = 2 := by unfold zah; rw [if_neg (by omega), if_neg (by omega), if_neg (by omega)]
    rw [hk] at pa pb pc
    have ea : wT L (-1) n.a = a := by rcases pa with ⟨_, _, q⟩ | ⟨q, _, _⟩; exact q; exact absurd q (by decide)
    have eb : wT L (-1) n.b = b := by rcases pb with ⟨_, _, q⟩ | ⟨q, _, _⟩; exact q; exact absurd q (by decide)
    unfold zbC zbF zcf
    rw [ea, eb]
    rw [if_neg (show ¬ (zah n.op = 0) by omega), if_neg (show ¬ (n.op = 5) by omega), if_neg (show ¬ (n.op = 6 ∨ n.op = 7 ∨ n.op = 8) by omega), if_neg (show ¬ (n.op = 9) by omega), if_neg (show ¬ (n.op = 14) by omega), if_pos (show n.op = 30 by omega), if_neg (show ¬ (n.op = 1 ∨ n.op = 2 ∨ (5 ≤ n.op ∧ n.op ≤ 13)) by omega), if_neg (show ¬ (n.op = 3) by omega), if_neg (show ¬ (n.op = 4) by omega), if_neg (show ¬ (n.op = 14) by omega), if_neg (show ¬ (25 ≤ n.op ∧ n.op ≤ 29) by omega), if_pos (show n.op = 30 by omega), if_neg (show ¬ n.op ≤ 2 by omega), if_neg (show ¬ n.op = 3 by omega), if_neg (show ¬ n.op = 4 by omega), if_neg (show ¬ n.op = 5 by omega), if_neg (show ¬ n.op ≤ 8 by omega), if_neg (show ¬ n.op = 9 by omega), if_neg (show ¬ n.op ≤ 13 by omega), if_neg (show ¬ n.op = 14 by omega), if_neg (show ¬ n.op ≤ 16 by omega), if_neg (show ¬ n.op ≤ 24 by omega), if_neg (show ¬ n.op ≤ 29 by omega), if_pos (show n.op = 30 by omega)]
    ac_rfl
  by_cases g31 : n.op = 31
  · have hk : zah n.op = 1 := by unfold zah; rw [if_neg (by omega), if_pos (by omega)]
    rw [hk] at pa pb pc
    have ea : wT L (-1) n.a = a := by rcases pa with ⟨_, _, q⟩ | ⟨q, _, _⟩; exact q; exact absurd q (by decide)
    unfold zbC zbF zcf
    rw [ea]
    rw [if_neg (show ¬ (zah n.op = 0) by omega), if_neg (show ¬ (n.op = 5) by omega), if_neg (show ¬ (n.op = 6 ∨ n.op = 7 ∨ n.op = 8) by omega), if_neg (show ¬ (n.op = 9) by omega), if_neg (show ¬ (n.op = 14) by omega), if_neg (show ¬ (n.op = 30) by omega), if_pos (show zah n.op = 1 by omega), if_neg (show ¬ (n.op = 1 ∨ n.op = 2 ∨ (5 ≤ n.op ∧ n.op ≤ 13)) by omega), if_neg (show ¬ (n.op = 3) by omega), if_neg (show ¬ (n.op = 4) by omega), if_neg (show ¬ (n.op = 14) by omega), if_neg (show ¬ (25 ≤ n.op ∧ n.op ≤ 29) by omega), if_neg (show ¬ (n.op = 30) by omega), if_pos (show n.op = 31 by omega), if_neg (show ¬ n.op ≤ 2 by omega), if_neg (show ¬ n.op = 3 by omega), if_neg (show ¬ n.op = 4 by omega), if_neg (show ¬ n.op = 5 by omega), if_neg (show ¬ n.op ≤ 8 by omega), if_neg (show ¬ n.op = 9 by omega), if_neg (show ¬ n.op ≤ 13 by omega), if_neg (show ¬ n.op = 14 by omega), if_neg (show ¬ n.op ≤ 16 by omega), if_neg (show ¬ n.op ≤ 24 by omega), if_neg (show ¬ n.op ≤ 29 by omega), if_neg (show ¬ n.op = 30 by omega), if_pos (show n.op = 31 by omega)]
    ac_rfl
  have hk : zah n.op = 1 := by unfold zah; rw [if_neg (by omega), if_pos (by omega)]
  rw [hk] at pa pb pc
  have ea : wT L (-1) n.a = a := by rcases pa with ⟨_, _, q⟩ | ⟨q, _, _⟩; exact q; exact absurd q (by decide)
  unfold zbC zbF zcf
  rw [ea]
  rw [if_neg (show ¬ (zah n.op = 0) by omega), if_neg (show ¬ (n.op = 5) by omega), if_neg (show ¬ (n.op = 6 ∨ n.op = 7 ∨ n.op = 8) by omega), if_neg (show ¬ (n.op = 9) by omega), if_neg (show ¬ (n.op = 14) by omega), if_neg (show ¬ (n.op = 30) by omega), if_pos (show zah n.op = 1 by omega), if_neg (show ¬ (n.op = 1 ∨ n.op = 2 ∨ (5 ≤ n.op ∧ n.op ≤ 13)) by omega), if_neg (show ¬ (n.op = 3) by omega), if_neg (show ¬ (n.op = 4) by omega), if_neg (show ¬ (n.op = 14) by omega), if_neg (show ¬ (25 ≤ n.op ∧ n.op ≤ 29) by omega), if_neg (show ¬ (n.op = 30) by omega), if_neg (show ¬ (n.op = 31) by omega), if_pos (show n.op = 32 ∨ n.op = 33 by omega), if_neg (show ¬ n.op ≤ 2 by omega), if_neg (show ¬ n.op = 3 by omega), if_neg (show ¬ n.op = 4 by omega), if_neg (show ¬ n.op = 5 by omega), if_neg (show ¬ n.op ≤ 8 by omega), if_neg (show ¬ n.op = 9 by omega), if_neg (show ¬ n.op ≤ 13 by omega), if_neg (show ¬ n.op = 14 by omega), if_neg (show ¬ n.op ≤ 16 by omega), if_neg (show ¬ n.op ≤ 24 by omega), if_neg (show ¬ n.op ≤ 29 by omega), if_neg (show ¬ n.op = 30 by omega), if_neg (show ¬ n.op = 31 by omega)]
theorem shape_iff {n : Nd} (ho : 1 ≤ n.op ∧ n.op ≤ 33) (h4 : n.op ≠ 4) (hw : 0 ≤ n.w ∧ n.w ≤ 64) (hnum : 0 ≤ n.num ∧ n.num < 18446744073709551616) (hnm : zlw n = false) {L : List Nd} {K : List (ByteArray × Int)} {a b c : Int} (hp : Parted L n a b c) : zd9 L K n = 0 ↔ zgM n a b c = true := by
  rw [zhO]
  have hc := checks ho h4 hw hnum hp
  have pa := hp.a
  have pb := hp.b
  have pc := hp.c
  have hsp : zey (zah n.op) n = decide (n.num ≠ 0 ∧ n.op ≠ 3 ∧ n.op ≠ 31) := by
    unfold zey
    rw [hnm, Bool.false_and, Bool.or_false]
    have e1 : (decide (zah n.op < 1) && decide (n.a ≠ 0)) = false := by
      rcases pa with ⟨q, _, _⟩ | ⟨_, q, _⟩
      · rw [decide_eq_false (by omega)]; rfl
      · rw [q]; simp
    have e2 : (decide (zah n.op < 2) && decide (n.b ≠ 0)) = false := by
      rcases pb with ⟨q, _, _⟩ | ⟨_, q, _⟩
      · rw [decide_eq_false (by omega)]; rfl
      · rw [q]; simp
    have e3 : (decide (zah n.op < 3) && decide (n.c ≠ 0)) = false := by
      rcases pc with ⟨q, _, _⟩ | ⟨_, q, _⟩
      · rw [decide_eq_false (by omega)]; rfl
      · rw [q]; simp
    rw [e1, e2, e3]
    simp only [Bool.false_or]
    by_cases q1 : n.num ≠ 0 <;> by_cases q2 : n.op ≠ 3 <;> by_cases q3 : n.op ≠ 31 <;> simp [q1, q2, q3]
  have hpt : zbM L n = false := by
    unfold zbM
    have e1 : (decide (zah n.op ≥ 1) && !isT L n.a) = false := by
      rcases pa with ⟨_, q, _⟩ | ⟨q, _, _⟩
      · rw [q]; simp
      · rw [decide_eq_false (by omega)]; rfl
    have e2 : (decide (zah n.op ≥ 2) && !isT L n.b) = false := by
      rcases pb with ⟨_, q, _⟩ | ⟨q, _, _⟩
      · rw [q]; simp
      · rw [decide_eq_false (by omega)]; rfl
    have e3 : (decide (zah n.op ≥ 3) && !isT L n.c) = false := by
      rcases pc with ⟨_, q, _⟩ | ⟨q, _, _⟩
      · rw [q]; simp
      · rw [decide_eq_false (by omega)]; rfl
    rw [e1, e2, e3]; rfl
  unfold zgM
  by_cases hq : n.num ≠ 0 ∧ n.op ≠ 3 ∧ n.op ≠ 31
  · rw [if_pos hq]
    rw [decide_eq_true hq] at hsp
    exact ⟨fun h => absurd hsp h.sp, fun h => absurd h (by decide)⟩
  · rw [if_neg hq, ← hc]
    rw [decide_eq_false hq] at hsp
    constructor
    · intro h
      have h1 := h.so
      have h2 := h.wi
      rw [Bool.not_eq_false] at h1 h2
      rw [h1, h2]; rfl
    · intro h
      rw [Bool.and_eq_true] at h
      exact ⟨by omega, by omega, by rw [hpt]; decide, by rw [hsp]; decide, by rw [h.1]; decide, by rw [h.2]; decide, fun q => h4 q.1⟩
end Go.AM.N14
namespace Go.AM.N14
open Go Go.AM
def lv (i : Nat) : List Value := [.int .i64 (if 0 < i then 1 else 0), .int .i64 (if 1 < i then 2 else 0), .int .i64 (if 2 < i then 3 else 0)]
end Go.AM.N14
namespace Go.AM.N14
open Go Go.AM
end Go.AM.N14
namespace Go.AM.N14
open Go Go.AM
theorem vok_of {n : Nd} (ho : 1 ≤ n.op ∧ n.op ≤ 33) (h4 : n.op ≠ 4) (hw : 0 ≤ n.w ∧ n.w ≤ 64) (hnum : 0 ≤ n.num ∧ n.num < 18446744073709551616) {wa wb : Nat} {c : Int} (hwa : wa ≤ 64) (hwb : wb ≤ 64) {a b : W64}
    (ha : wa = 0 → a.toNat ≤ 1) (hb : wb = 0 → b.toNat ≤ 1) (hs : zgM n (wa : Int) (wb : Int) c = true) : Vok n wa wb a b := by
  have hB : zcf n (wa : Int) (wb : Int) c = true := by
    unfold zgM at hs
    split at hs
    · cases hs
    · exact hs
  unfold zcf at hB
  refine ⟨⟨ho.1, ho.2, h4⟩, hnum, fun q1 q2 => ?_, fun q1 q2 => ?_, fun q1 q2 => ?_, fun q1 q2 => ?_, fun q1 => ?_, fun q1 => ?_, fun q1 => ?_⟩
  · rw [if_neg (by omega), if_neg (by omega), if_neg (by omega), if_neg (by omega), if_pos q2] at hB
    simp only [Bool.and_eq_true, decide_eq_true_eq] at hB
    exact ⟨ha (by omega), hb (by omega)⟩
  · rw [if_neg (by omega), if_neg (by omega), if_neg (by omega), if_neg (by omega), if_neg (by omega), if_neg (by omega), if_pos q2] at hB
    simp only [Bool.and_eq_true, decide_eq_true_eq] at hB
    omega
  · rw [if_neg (by omega), if_neg (by omega), if_neg (by omega), if_neg (by omega), if_neg (by omega), if_neg (by omega), if_neg (by omega), if_neg (by omega)] at hB
    by_cases g1 : n.op ≤ 16
    · rw [if_pos g1] at hB
      simp only [Bool.and_eq_true, decide_eq_true_eq] at hB
      omega
    rw [if_neg g1] at hB
    by_cases g2 : n.op ≤ 24
    · rw [if_pos g2] at hB
      simp only [Bool.and_eq_true, decide_eq_true_eq] at hB
      omega
    rw [if_neg g2, if_pos q2] at hB
    simp only [Bool.and_eq_true, decide_eq_true_eq] at hB
    omega
  · rw [if_neg (by omega), if_neg (by omega), if_neg (by omega), if_neg (by omega), if_neg (by omega), if_neg (by omega), if_neg (by omega), if_neg (by omega), if_neg (by omega), if_neg (by omega), if_pos q2] at hB
    simp only [Bool.and_eq_true, decide_eq_true_eq] at hB
    exact hB.2.2.2
  · rw [if_neg (by omega), if_neg (by omega), if_neg (by omega), if_neg (by omega), if_neg (by omega), if_neg (by omega), if_neg (by omega), if_neg (by omega), if_neg (by omega), if_neg (by omega), if_neg (by omega), if_pos q1] at hB
    simp only [Bool.and_eq_true, decide_eq_true_eq] at hB
    omega
  · rw [if_neg (by omega), if_neg (by omega), if_neg (by omega), if_neg (by omega), if_neg (by omega), if_neg (by omega), if_neg (by omega), if_neg (by omega), if_neg (by omega), if_neg (by omega), if_neg (by omega), if_neg (by omega), if_pos q1] at hB
    simp only [Bool.and_eq_true, decide_eq_true_eq] at hB
    omega
  · rw [if_neg (by omega), if_neg (by omega), if_neg (by omega), if_neg (by omega), if_neg (by omega), if_neg (by omega), if_neg (by omega), if_neg (by omega), if_neg (by omega), if_neg (by omega), if_neg (by omega), if_neg (by omega), if_neg (by omega)] at hB
    simp only [Bool.and_eq_true, decide_eq_true_eq] at hB
    omega
end Go.AM.N14
namespace Go.AM
open Go
def mapU (A : List (Int × Int)) : List (Value × Value) := A.map fun x => (.int .i64 x.1, .int .u64 x.2)
def MapU (H : Hp) (m : Nat) (F : Int → Int) : Prop := ∃ A, H.get m = some (.map (mapU A)) ∧ ∀ t, F t = ((lkI t 0 A).map Prod.snd).getD 0
theorem findU {P : Program} {kt : TypeId} (hk : ziP P kt) (t : Int) : ∀ (A : List (Int × Int)) (i : Nat), zei P kt (.int .i64 t) (mapU A) i = some ((lkI t i A).map fun q => (q.1, .int .u64 q.2))
  | [], i => rfl
  | (u, w) :: r, i => by
    show (match eqT P 10000 kt (.int .i64 t) (.int .i64 u) with | some true => some (some (i, Value.int .u64 w)) | some false => zei P kt (.int .i64 t) (mapU r) (i + 1) | none => none) = _
    rw [hk.eq]
    unfold lkI
    by_cases h : t = u
    · rw [if_pos h, show (t == u) = true by simpa using h]; rfl
    · rw [if_neg h, show (t == u) = false by simpa using h]
      exact findU hk t r (i + 1)
theorem MapU.look {P : Program} {kt : TypeId} (hk : ziP P kt) {H : Hp} {m : Nat} {F : Int → Int} (h : MapU H m F) (t : Int) {α : Type} (k : Value → Option α) : zbs P kt (.int .u64 0) (.map (some m)) (.int .i64 t) false H k = k (.int .u64 (F t)) := by
  obtain ⟨A, h1, h2⟩ := h
  unfold zbs lookV
  rw [hk.sh, h2 t]
  simp only [if_true, zmG, h1, findU hk]
  cases lkI t 0 A <;> rfl
theorem MapU.upd {P : Program} {kt : TypeId} (hk : ziP P kt) {H : Hp} {m : Nat} {F : Int → Int} (h : MapU H m F) (key v : Int) :
    ∃ H', (∀ (α : Type) (k : Hp → Option α), pUpd P kt (.map (some m)) (.int .i64 key) (.int .u64 v) H k = k H') ∧ MapU H' m (fun t => if t = key then v else F t) ∧ (∀ j, j ≠ m → H'.get j = H.get j) ∧ H'.next = H.next := by
  obtain ⟨A, h1, h2⟩ := h
  cases hq : lkI key 0 A with
  | none =>
    refine ⟨H.set m (some (.map (mapU (A ++ [(key, v)])))), fun α k => ?_, ⟨A ++ [(key, v)], by rw [get_set, if_pos rfl], fun t => ?_⟩, fun j hj => by rw [get_set, if_neg hj], rfl⟩
    · have : updV P kt (.map (some m)) (.int .i64 key) (.int .u64 v) H = some (H.set m (some (.map (mapU (A ++ [(key, v)]))))) := by
        unfold updV
        rw [hk.sh]
        simp only [if_true, h1, findU hk, hq, Option.map_none]
        rw [show mapU (A ++ [(key, v)]) = mapU A ++ [(Value.int .i64 key, Value.int .u64 v)] by simp [mapU]]
      unfold pUpd
      rw [this]
    · rw [zmL t key v A 0 hq]
      dsimp only
      split
      · rfl
      · rw [h2 t]
  | some q =>
    obtain ⟨j, w⟩ := q
    obtain ⟨_, hg⟩ := zkq key A 0 j w hq
    rw [Nat.sub_zero] at hg
    refine ⟨H.set m (some (.map (mapU (A.set j (key, v))))), fun α k => ?_, ⟨A.set j (key, v), by rw [get_set, if_pos rfl], fun t => ?_⟩, fun j hj => by rw [get_set, if_neg hj], rfl⟩
    · have hk1 : (mapU A)[j]? = some (.int .i64 key, .int .u64 w) := by unfold mapU; rw [List.getElem?_map, hg]; rfl
      have hsb : Instr.sameBits 10000 (.int .i64 key) (.int .i64 key) = true := by simp [Instr.sameBits]
      have : updV P kt (.map (some m)) (.int .i64 key) (.int .u64 v) H = some (H.set m (some (.map (mapU (A.set j (key, v)))))) := by
        unfold updV
        rw [hk.sh]
        simp only [if_true, h1, findU hk, hq, Option.map_some, hk1, hsb]
        rw [show mapU (A.set j (key, v)) = zg9 (mapU A) j (.int .i64 key) (.int .u64 v) by unfold zg9 mapU; rw [List.map_set]]
      unfold pUpd
      rw [this]
    · have := zmK t key v A 0 j w hq
      rw [Nat.sub_zero] at this
      rw [this]
      dsimp only
      split
      · rfl
      · rw [h2 t]
theorem MapU.new (H : Hp) : MapU (H.new (.map [])) H.next (fun _ => 0) := ⟨[], by rw [get_new, if_pos rfl]; rfl, fun t => rfl⟩
theorem MapU.keep {H H' : Hp} {m : Nat} {F : Int → Int} (h : MapU H m F) (hg : H'.get m = H.get m) : MapU H' m F := by
  obtain ⟨A, h1, h2⟩ := h
  exact ⟨A, by rw [hg]; exact h1, h2⟩
end Go.AM
namespace Go.AM.N14
open Go Go.AM
end Go.AM.N14
namespace Go.AM.N14
open Go Go.AM
theorem ikV : ziP PP T.int := ⟨fun a b => by kernel_rfl, fun a => by kernel_rfl⟩
structure VS (B H : Hp) (m1 m2 : Nat) (V W : Int → Int) : Prop where
  next : B.next ≤ H.next
  old : ∀ j, j < B.next → H.get j = B.get j
  l1 : B.next ≤ m1
  l2 : B.next ≤ m2
  ne : m1 ≠ m2
  n1 : m1 < H.next
  f1 : MapU H m1 V
  f2 : MapF H m2 W
theorem VS.up1 {B H : Hp} {m1 m2 : Nat} {V W : Int → Int} (h : VS B H m1 m2 V W) (key v : Int) : ∃ H', (∀ (α : Type) (k : Hp → Option α), pUpd PP T.int (.map (some m1)) (.int .i64 key) (.int .u64 v) H k = k H') ∧ VS B H' m1 m2 (fun t => if t = key then v else V t) W := by
  obtain ⟨H', e1, e2, e3, e4⟩ := h.f1.upd ikV key v
  have a := h.l1
  exact ⟨H', e1, ⟨by rw [e4]; exact h.next, fun j hj => by rw [e3 j (by omega), h.old j hj], h.l1, h.l2, h.ne, by rw [e4]; exact h.n1, e2, h.f2.keep (e3 m2 (Ne.symm h.ne))⟩⟩
theorem VS.up2 {B H : Hp} {m1 m2 : Nat} {V W : Int → Int} (h : VS B H m1 m2 V W) (key v : Int) : ∃ H', (∀ (α : Type) (k : Hp → Option α), pUpd PP T.int (.map (some m2)) (.int .i64 key) (.int .i64 v) H k = k H') ∧ VS B H' m1 m2 V (fun t => if t = key then v else W t) := by
  obtain ⟨H', e1, e2, e3, e4⟩ := h.f2.upd ikV key v
  have a := h.l2
  exact ⟨H', e1, ⟨by rw [e4]; exact h.next, fun j hj => by rw [e3 j (by omega), h.old j hj], h.l1, h.l2, h.ne, by rw [e4]; exact h.n1, h.f1.keep (e3 m1 h.ne), e2⟩⟩
theorem step_val {B : Hp} {p f g : Nat} {lim : Int} {L : List Nd} {K : List (ByteArray × Int)} {sl : Value} (hst : StF B p lim L K sl f g) (hL : (L.length : Int) ≤ 4611686018427387904) {v : Value} {out : List Nat} (hv : Rdb B 1 v out.length (ints out)) (hol : out.length ≤ 2 ^ 41)
    {i t : Nat} (hi : out[i]? = some t) (ht : 1 ≤ t ∧ t ≤ L.length) {n : Nd} (hn : L[t - 1]? = some n) {H : Hp} {m1 m2 : Nat} {V W : Int → Int} (h : VS B H m1 m2 V W) {wa wb : Nat} {a b c : W64} (hok : Vok n wa wb a b)
    (hwa : (if n.a = (t : Int) then n.w else W n.a) = (wa : Int)) (hwb : (if n.b = (t : Int) then n.w else W n.b) = (wb : Int)) (hva : V n.a = (a.toNat : Int)) (hvb : V n.b = (b.toNat : Int)) (hvc : V n.c = (c.toNat : Int)) (v11 : Value) :
    ∃ H', zax RR (.pointer (some ⟨p, 0, none⟩)) v v11 (.map (some m1)) (.map (some m2)) (.int .i64 (out.length : Int)) [.int .i64 (i : Int)] H = some (.next, [.int .i64 ((i + 1 : Nat) : Int)], H') ∧
      VS B H' m1 m2 (fun x => if x = (t : Int) then ((valW n wa wb a b c).toNat : Int) else V x) (fun x => if x = (t : Int) then n.w else W x) := by
  have hlt : i < out.length := (List.getElem?_eq_some_iff.1 hi).1
  have hvH : Rdb H 1 v out.length (ints out) := hv.keep' (fun j hj => h.old j (hv.lt hj)) h.next
  have hvI : Rdb H 1 v (out.map fun (t : Nat) => (t : Int)).length (zc4 (out.map fun (t : Nat) => (t : Int))) := by rw [List.length_map, ← zbD]; exact hvH
  obtain ⟨y, x1, x2⟩ := hvI.int (i := i) (t := (t : Int)) (by rw [List.getElem?_map, hi]; rfl)
  have q : (i : Int) < (out.length : Int) := by omega
  have w1 : IntKind.i64.wrap ((i : Int) + 1) = ((i + 1 : Nat) : Int) := zaz (by omega) (by omega)
  have hstH : StF H p lim L K sl f g := hst.keep (fun i hi => h.old i (hst.foot_lt hi)) h.next
  have hT : isT L (t : Int) = true := zbf.2 ⟨by omega, by omega⟩
  have hnode : zfg L (t : Int) = n := by
    unfold zfg
    rw [hT, if_pos rfl, show ((t : Int) - 1).toNat = t - 1 by omega, hn]; rfl
  have e10 := Go.AM.c10 hstH.st hL (t : Int)
  rw [hnode, hT, if_pos rfl] at e10
  obtain ⟨H1, u2, h1⟩ := h.up2 (t : Int) n.w
  have hnd := p_node hok c H1
  obtain ⟨H2, u1, h2⟩ := h1.up1 (t : Int) ((valW n wa wb a b c).toNat : Int)
  have d4 : decide (n.op ≠ 4) = true := decide_eq_true hok.op.2.2
  have lv : ∀ (x : Int) (f : Value → Option Outc), zbs PP T.int (.int .u64 0) (.map (some m1)) (.int .i64 x) false H1 f = f (.int .u64 (V x)) := fun x f => h1.f1.look ikV x f
  have lw : ∀ (x : Int) (f : Value → Option Outc), zbs PP T.int (.int .i64 0) (.map (some m2)) (.int .i64 x) false H1 f = f (.int .i64 (if x = (t : Int) then n.w else W x)) := fun x f => h1.f2.look ikV x f
  have va : Value.int .u64 (V n.a) = wv a := by rw [hva]; rfl
  have vb : Value.int .u64 (V n.b) = wv b := by rw [hvb]; rfl
  have vc : Value.int .u64 (V n.c) = wv c := by rw [hvc]; rfl
  have u1' : ∀ (k : Hp → Option Outc), pUpd PP T.int (.map (some m1)) (.int .i64 (t : Int)) (wv (valW n wa wb a b c)) H1 k = k H2 := fun k => u1 _ k
  refine ⟨H2, ?_, h2⟩
  unfold zax
  simp only [qg0]
  rw [lT q, x1, x2, zag e10, x01, spl7, zlv, u2, zjo, zbo, zac, d4, za1, ncell7, zlu, lv, va, zlt, lv, vb, znL, lv, vc, zlu, lw, hwa, zlt, lw, hwb, zag hnd, u1', za5, w1]
end Go.AM.N14
namespace Go.AM.N14
open Go Go.AM
theorem wT_nn {L : List Nd} (h : ∀ m ∈ L, 0 ≤ m.w ∧ m.w ≤ 64) (t : Int) : 0 ≤ wT L 0 t := by
  unfold wT
  split
  · cases q : L[(t - 1).toNat]? with
    | none => exact Int.le_refl _
    | some m => exact (h m (List.mem_of_getElem? q)).1
  · exact Int.le_refl _
theorem wT_at {L : List Nd} {t : Nat} (ht : 1 ≤ t ∧ t ≤ L.length) {n : Nd} (hn : L[t - 1]? = some n) (d : Int) : wT L d (t : Int) = n.w := by
  unfold wT
  rw [zbf.2 ⟨by omega, by omega⟩, if_pos rfl, show ((t : Int) - 1).toNat = t - 1 by omega, hn]; rfl
theorem wT_0 (L : List Nd) : wT L 0 0 = 0 := rfl
section
end
end Go.AM.N14
namespace Go.AM.N14
open Go Go.AM
theorem wT_is {L : List Nd} {x : Int} (h : 1 ≤ x ∧ x ≤ L.length) : wT L (-1) x = wT L 0 x := by
  unfold wT
  rw [zbf.2 h, if_pos rfl, if_pos rfl]
  have : L[(x - 1).toNat]? = some (L[(x - 1).toNat]'(by omega)) := List.getElem?_eq_getElem (by omega)
  rw [this]; rfl
theorem znh {L : List Nd} {K : List (ByteArray × Int)} (hg : zev L K) {n : Nd} (hn : n ∈ L) (h4 : n.op ≠ 4) : zgM n (wT L 0 n.a) (wT L 0 n.b) (wT L 0 n.c) = true := by
  have hr := hg.rt n hn
  have ho : 1 ≤ n.op ∧ n.op ≤ 33 := by have : ¬ (n.op < 1 ∨ n.op > 33) := hr.op; omega
  have hw : 0 ≤ n.w ∧ n.w ≤ 64 := by have : ¬ (n.w < 0 ∨ n.w > 64) := hr.w; omega
  obtain ⟨pa, pa0, pb, pb0, pc, pc0, _, ps⟩ := znK hr
  have hnm : zlw n = false := by
    unfold zlw
    rw [ps h4]
    show (!((⟨#[]⟩ : ByteArray).toList == (⟨#[]⟩ : ByteArray).toList)) = false
    rw [beq_self_eq_true]; rfl
  have one : ∀ (k : Int) (x : Int), (zah n.op ≥ k → 1 ≤ x ∧ x ≤ L.length) → (zah n.op < k → x = 0) → (zah n.op ≥ k ∧ isT L x = true ∧ wT L (-1) x = wT L 0 x) ∨ (zah n.op < k ∧ x = 0 ∧ wT L 0 x = 0) := fun k x h1 h2 => by
    by_cases q : zah n.op ≥ k
    · exact .inl ⟨q, zbf.2 (h1 q), wT_is (h1 q)⟩
    · have := h2 (by omega)
      exact .inr ⟨by omega, this, by rw [this]; rfl⟩
  exact (shape_iff ho h4 hw (hg.num n hn) hnm ⟨one 1 n.a pa pa0, one 2 n.b pb pb0, one 3 n.c pc pc0⟩).1 (zhO.2 hr)
end Go.AM.N14
namespace Go.AM.N14
open Go Go.AM
def wvs (l : List W64) : List Value := l.map wv
theorem Vec.cap (H : Hp) {sz bytes : Nat} {zs : List Value} (hz : zs.length = sz) (h1 : zs.all one = true) {n : Nat} (hb : n * bytes ≤ 2 ^ 47) :
    ∃ v H', (∀ (α : Type) (k : Value → Hp → Option α), zaZ sz bytes zs (.int .i64 0) (.int .i64 (n : Int)) H k = k v H') ∧ Vec H' sz v 0 [] ∧ Frm (fun _ => False) H H' ∧ (∀ j, Id v j → H.next ≤ j) := by
  have ra : ∀ n, (repl n zs).all one = true := fun n => by
    induction n with
    | zero => rfl
    | succ n ih => show (zs ++ repl n zs).all one = true; rw [List.all_append, h1, ih]; rfl
  refine ⟨.slice (some ⟨H.next, 0, some sz⟩) 0 n, H.new (.cells (repl n zs) true), fun α k => ?_, .inr ⟨H.next, n, repl n zs, rfl, Nat.zero_le _, ?_, by simp, by rw [zeW, hz]; rfl, by show H.next < H.next + 1; omega, ra n⟩, zct _ _ _, fun j hj => by cases hj; exact Nat.le_refl _⟩
  · have e : ((2 : Int) ^ 47) = ((2 ^ 47 : Nat) : Int) := by rfl
    have hb' : (n : Int) * (bytes : Int) ≤ 2 ^ 47 := by rw [e, ← Int.natCast_mul]; exact Int.ofNat_le.2 hb
    have : zbX sz bytes zs (.int .i64 0) (.int .i64 (n : Int)) H = some (.slice (some ⟨H.next, 0, some sz⟩) 0 n, H.new (.cells (repl n zs) true)) := by
      unfold zbX
      dsimp only
      rw [if_pos ⟨by omega, by omega, hb'⟩]
      rfl
    unfold zaZ
    rw [this]
  · rw [get_new, if_pos rfl]; rfl
structure Made (B H : Hp) (v : Value) (n : Nat) (cs : List Value) : Prop where
  next : B.next ≤ H.next
  old : ∀ j, j < B.next → H.get j = B.get j
  vec : Vec H 1 v n cs
  new : ∀ j, Id v j → B.next ≤ j
theorem Made.push {B H : Hp} {v : Value} {n : Nat} {cs : List Value} (h : Made B H v n cs) (x : W64) (hb : (n + 1) * 8 ≤ 2 ^ 47) :
    ∃ v' H', (∀ (α : Type) (k : Value → Hp → Option α), (zaj 1 [.int .u64 0] 1 [(0, wv x)] H fun t H1 => zaF 1 8 v t H1 k) = k v' H') ∧ Made B H' v' (n + 1) (cs ++ [wv x]) := by
  obtain ⟨v', H', e1, e2, e3, e4, _⟩ := h.vec.push (bytes := 8) (zs := [.int .u64 0]) (x := wv x) (by decide) (by decide) rfl rfl rfl hb
  have hn := h.next
  refine ⟨v', H', e1, Nat.le_trans h.next e3.next, fun j hj => ?_, e2, fun j hj => ?_⟩
  · rw [e3.same j (by omega) (fun q => by have := h.new j q; omega), h.old j hj]
  · rcases e4 j hj with q | q
    · exact h.new j q
    · omega
section
variable {B : Hp} {x : Value} {ns : List Nat} (hx : RdO B 1 x ns.length (ints ns)) (hl : ns.length ≤ 2 ^ 40) {vf : Nat → W64} {m1 : Nat} {V : Int → Int} (hm : MapU B m1 V) (hml : m1 < B.next) (hV : ∀ t ∈ ns, V (t : Int) = ((vf t).toNat : Int))
include hx hl hm hml hV
theorem znc : ∀ (k i : Nat) (H : Hp) (v : Value), i + k = ns.length → Made B H v i (wvs ((ns.take i).map vf)) →
    ∃ H' v', zat (zbk RR x (.map (some m1)) (.int .i64 (ns.length : Int))) [v, .int .i64 (i : Int)] H = some (.exit 2, [v', .int .i64 (ns.length : Int)], H') ∧ Made B H' v' ns.length (wvs (ns.map vf))
  | 0, i, H, v, hk, h => by
    have : i = ns.length := by omega
    subst this
    rw [List.take_length] at h
    refine ⟨H, v, ?_, h⟩
    rw [zak]
    have : zbk RR x (.map (some m1)) (.int .i64 (ns.length : Int)) [v, .int .i64 (ns.length : Int)] H = some (.exit 2, [v, .int .i64 (ns.length : Int)], H) := by
      unfold zbk
      simp only [qg0, qg1]
      rw [lF (Int.lt_irrefl _)]
    rw [this]; rfl
  | k + 1, i, H, v, hk, h => by
    have hlt : i < ns.length := by omega
    have hi : ns[i]? = some ns[i] := List.getElem?_eq_getElem hlt
    generalize ns[i] = t at hi
    have hxH : RdO H 1 x ns.length (ints ns) := hx.keep' (fun j hj => h.old j (hx.lt hj)) h.next
    have hxI : RdO H 1 x (ns.map fun (t : Nat) => (t : Int)).length (zc4 (ns.map fun (t : Nat) => (t : Int))) := by rw [List.length_map, ← zbD]; exact hxH
    obtain ⟨y, x1, x2⟩ := hxI.int (i := i) (t := (t : Int)) (by rw [List.getElem?_map, hi]; rfl)
    have hmH : MapU H m1 V := hm.keep (h.old m1 hml)
    have lv : ∀ (f : Value → Option Outc), zbs PP T.int (.int .u64 0) (.map (some m1)) (.int .i64 (t : Int)) false H f = f (wv (vf t)) := fun f => by
      rw [hmH.look ikV, hV t (List.mem_of_getElem? hi)]; rfl
    have q : (i : Int) < (ns.length : Int) := by omega
    have w1 : IntKind.i64.wrap ((i : Int) + 1) = ((i + 1 : Nat) : Int) := zaz (by omega) (by omega)
    obtain ⟨v1, H1, p1, p2⟩ := h.push (vf t) (by omega)
    have hcs : wvs ((ns.take i).map vf) ++ [wv (vf t)] = wvs ((ns.take (i + 1)).map vf) := by
      rw [List.take_add_one, hi]
      simp [wvs]
    rw [hcs] at p2
    obtain ⟨H', v', g1, g2⟩ := znc k (i + 1) H1 v1 (by omega) p2
    refine ⟨H', v', ?_, g2⟩
    rw [zak]
    have : zbk RR x (.map (some m1)) (.int .i64 (ns.length : Int)) [v, .int .i64 (i : Int)] H = some (.next, [v1, .int .i64 ((i + 1 : Nat) : Int)], H1) := by
      unfold zbk
      simp only [qg0, qg1]
      rw [lT q, x1, x2, lv, p1, za5, w1]
    rw [this]; exact g1
end
theorem znm {α : Type} {P : Program} (T : TypeId) (a : Addr) (hT : ∃ t, P.underlying T = some (.pointer t)) (k : Value → Option α) : pBin P .eql T (.pointer (some a)) (.pointer none) k = k (.bool false) := by
  obtain ⟨t, ht⟩ := hT
  have : eqT P Op.maxDepth T (.pointer (some a)) (.pointer none) = some false := by
    unfold Op.maxDepth
    simp only [eqT, ht]
  simp only [pBin, binV, eqOp, this]
section
end
end Go.AM.N14
namespace Go.AM.N14
open Go Go.AM
structure Wd (x : Fct) : Prop where
  w : 0 ≤ x.w ∧ x.w ≤ 64
  l : x.least.toNat ≤ (msk (wd x.w)).toNat
end Go.AM.N14
namespace Go.AM.N14
open Go Go.AM
end Go.AM.N14
namespace Go.AM.N14
open Go Go.AM
theorem and_le {n : Nat} (hn : n ≤ 64) {x y : W64} (hx : x.toNat ≤ (msk n).toNat) : (x &&& y).toNat ≤ (msk n).toNat := (zbm hn).2 fun j hj => by
  rw [BitVec.getLsbD_and, (zbm hn).1 hx j hj, Bool.false_and]
theorem or_le {n : Nat} (hn : n ≤ 64) {x y : W64} (hx : x.toNat ≤ (msk n).toNat) (hy : y.toNat ≤ (msk n).toNat) : (x ||| y).toNat ≤ (msk n).toNat := (zbm hn).2 fun j hj => by
  rw [BitVec.getLsbD_or, (zbm hn).1 hx j hj, (zbm hn).1 hy j hj, Bool.false_or]
theorem zero_le (n : Nat) : (0#64).toNat ≤ (msk n).toNat := Nat.zero_le _
theorem cat_le {n k m : Nat} (hm : m ≤ 64) (hk : n + k ≤ m) {x y : W64} (hx : x.toNat ≤ (msk n).toNat) (hy : y.toNat ≤ (msk k).toNat) : (x <<< k ||| y).toNat ≤ (msk m).toNat := (zbm hm).2 fun j hj => by
  rw [BitVec.getLsbD_or, BitVec.getLsbD_shiftLeft, (zbm (by omega)).1 hx (j - k) (by omega), (zbm (by omega)).1 hy j (by omega)]
  simp
theorem msk_up {n m : Nat} (hm : m ≤ 64) (h : n ≤ m) {x : W64} (hx : x.toNat ≤ (msk n).toNat) : x.toNat ≤ (msk m).toNat := (zbm hm).2 fun j hj => (zbm (by omega)).1 hx j (by omega)
section
end
end Go.AM.N14
namespace Go.AM.N14
open Go Go.AM
end Go.AM.N14
namespace Go.AM.N14
open Go Go.AM
end Go.AM.N14
namespace Go.AM.N14
open Go Go.AM
end Go.AM.N14
namespace Go.AM.N14
open Go Go.AM
end Go.AM.N14
namespace Go.AM.N14
open Go Go.AM
theorem movW_is {op : Int} (hop : 25 ≤ op ∧ op ≤ 29) {n k : Nat} (h0 : 1 ≤ n) (hn : n ≤ 64) (hk : k < n) {x : W64} (hx : x.toNat ≤ (msk n).toNat) : zhf op n x k (movW op n x k) := by
  obtain ⟨v, h1, _⟩ := p_moved hop h0 hn hk hx ⟨0, fun _ => none, fun _ => none⟩
  rw [movW_eq h1]; exact h1
section
end
end Go.AM.N14
namespace Go.AM.N14
open Go Go.AM
section
end
end Go.AM.N14
namespace Go.AM.N14
open Go Go.AM
section
end
end Go.AM.N14
namespace Go.AM.N14
open Go Go.AM
section
end
theorem sorts_of {n : Nd} {a b c : Int} (hs : zgM n a b c = true) : zcf n a b c = true := by
  unfold zgM at hs
  split at hs
  · cases hs
  · exact hs
section
end
end Go.AM.N14
namespace Go.AM.N14
open Go Go.AM
theorem b2w_le (c : Bool) (n : Nat) (h : 1 ≤ n) (hn : n ≤ 64) : (b2w c).toNat ≤ (msk n).toNat := by
  rw [zkp _ hn]
  have : 2 ^ 1 ≤ 2 ^ n := Nat.pow_le_pow_right (by decide) h
  cases c
  · exact Nat.zero_le _
  · show 1 ≤ _; omega
theorem bin_le {op : Int} (hop : 17 ≤ op ∧ op ≤ 29) {n : Nat} (h0 : 1 ≤ n) (hn : n ≤ 64) (x y : W64) : (binW op n x y).toNat ≤ (msk n).toNat := by
  have hX := zdA hn x
  have hY := zdA hn y
  unfold binW
  dsimp only
  split
  · exact and_le hn hX
  split
  · exact or_le hn hX hY
  split
  · exact (zbm hn).2 fun j hj => by rw [BitVec.getLsbD_xor, (zbm hn).1 hX j hj, (zbm hn).1 hY j hj]; rfl
  split
  · exact zdA hn _
  split
  · exact zdA hn _
  split
  · exact zdA hn _
  split
  · split
    · exact Nat.le_refl _
    · rw [BitVec.toNat_udiv]; exact Nat.le_trans (Nat.div_le_self _ _) hX
  split
  · split
    · exact hX
    · rw [BitVec.toNat_umod]; exact Nat.le_trans (Nat.mod_le _ _) hX
  · have hm := movW_is (op := op) (by omega) h0 hn (Nat.mod_lt (y &&& msk n).toNat (show n > 0 by omega)) hX
    exact (zbm hn).2 fun j hj => by rw [hm j, decide_eq_false (by omega), Bool.false_and]
theorem val_le {n : Nd} (ho : 1 ≤ n.op ∧ n.op ≤ 33) (h4 : n.op ≠ 4) (hw : 0 ≤ n.w ∧ n.w ≤ 64) (hnum : 0 ≤ n.num ∧ n.num < 18446744073709551616) {x y z : Fct} (hx : Wd x) (hy : Wd y) (hz : Wd z) (hs : zgM n x.w y.w z.w = true) :
    (valW n x.w.toNat y.w.toNat x.least y.least z.least).toNat ≤ (msk (wd n.w)).toNat := by
  have hB := sorts_of hs
  have hn := wd_le hw.2
  have hp := wd_pos n.w
  have m1 : (msk 1).toNat = 1 := rfl
  have one : ∀ c : Bool, (b2w c).toNat ≤ (msk (wd n.w)).toNat := fun c => b2w_le c _ hp hn
  unfold zcf at hB
  unfold valW
  by_cases h1 : n.op = 1
  · rw [if_pos h1]; exact one true
  rw [if_neg h1]
  by_cases h2 : n.op = 2
  · rw [if_pos h2]; exact zero_le _
  rw [if_neg h2]
  by_cases h3 : n.op = 3
  · rw [if_pos h3]
    rw [if_neg (by omega), if_pos h3] at hB
    simp only [Bool.and_eq_true, decide_eq_true_eq] at hB
    rw [BitVec.toNat_ofInt]
    have := hB.2
    omega
  rw [if_neg h3]
  by_cases h5 : n.op = 5
  · rw [if_pos h5]
    rw [if_neg (by omega), if_neg (by omega), if_neg (by omega), if_pos h5] at hB
    simp only [Bool.and_eq_true, decide_eq_true_eq] at hB
    have hl := hx.l
    rw [hB.2] at hl
    rcases tr01 (a := x.least) hl with e | e <;> rw [e]
    · exact one true
    · exact zero_le _
  rw [if_neg h5]
  by_cases h8 : n.op ≤ 8
  · rw [if_neg (by omega), if_neg (by omega), if_neg (by omega), if_neg (by omega), if_pos h8] at hB
    simp only [Bool.and_eq_true, decide_eq_true_eq] at hB
    have lx := hx.l
    have ly := hy.l
    rw [hB.2.1, ← hB.1] at lx
    rw [hB.2.2, ← hB.1] at ly
    by_cases h6 : n.op = 6
    · rw [if_pos h6]; exact and_le hn lx
    rw [if_neg h6]
    by_cases h7 : n.op = 7
    · rw [if_pos h7]; exact or_le hn lx ly
    rw [if_neg h7, if_pos (by omega)]
    exact (zbm hn).2 fun j hj => by rw [BitVec.getLsbD_xor, (zbm hn).1 lx j hj, (zbm hn).1 ly j hj]; rfl
  rw [if_neg (by omega), if_neg (by omega), if_neg (by omega)]
  rw [if_neg (by omega), if_neg (by omega), if_neg (by omega), if_neg (by omega), if_neg (by omega)] at hB
  by_cases h9 : n.op = 9
  · rw [if_pos h9]; exact one _
  rw [if_neg h9]
  rw [if_neg h9] at hB
  by_cases h13 : n.op ≤ 13
  · rw [if_pos h13]; exact one _
  rw [if_neg h13]
  rw [if_neg h13] at hB
  by_cases h14 : n.op = 14
  · rw [if_pos h14]
    rw [if_pos h14] at hB
    simp only [Bool.and_eq_true, decide_eq_true_eq] at hB
    split
    · rw [hB.2.2]; exact hy.l
    · rw [hB.2.2, hB.2.1]; exact hz.l
  rw [if_neg h14]
  rw [if_neg h14] at hB
  have hxw := hx.w
  by_cases h16 : n.op ≤ 16
  · rw [if_pos h16]
    rw [if_pos h16] at hB
    simp only [Bool.and_eq_true, decide_eq_true_eq] at hB
    have ew : x.w.toNat = wd n.w := by unfold wd; omega
    rw [ew]
    unfold unW
    split <;> exact zdA hn _
  rw [if_neg h16]
  rw [if_neg h16] at hB
  by_cases h29 : n.op ≤ 29
  · rw [if_pos h29]
    have ew : x.w.toNat = wd n.w ∧ 1 ≤ x.w.toNat := by
      by_cases h24 : n.op ≤ 24
      · rw [if_pos h24] at hB
        simp only [Bool.and_eq_true, decide_eq_true_eq] at hB
        unfold wd; omega
      · rw [if_neg h24, if_pos h29] at hB
        simp only [Bool.and_eq_true, decide_eq_true_eq] at hB
        unfold wd; omega
    rw [ew.1]
    exact bin_le ⟨by omega, h29⟩ hp hn _ _
  rw [if_neg h29]
  rw [if_neg (by omega), if_neg (by omega)] at hB
  by_cases h30 : n.op = 30
  · rw [if_pos h30]
    rw [if_pos h30] at hB
    simp only [Bool.and_eq_true, decide_eq_true_eq] at hB
    have hyw := hy.w
    unfold catW
    exact cat_le hn (n := x.w.toNat) (k := y.w.toNat) (by unfold wd; omega) (zdA (by omega) _) (zdA (by omega) _)
  rw [if_neg h30]
  rw [if_neg h30] at hB
  by_cases h31 : n.op = 31
  · rw [if_pos h31]
    rw [if_pos h31] at hB
    simp only [Bool.and_eq_true, decide_eq_true_eq] at hB
    have ew : n.w.toNat = wd n.w := by unfold wd; omega
    unfold sliceW
    rw [ew]; exact zdA hn _
  rw [if_neg h31]
  rw [if_neg h31] at hB
  simp only [Bool.and_eq_true, decide_eq_true_eq] at hB
  have ew : n.w.toNat = wd n.w := by unfold wd; omega
  unfold extW
  split
  · exact msk_up hn (n := x.w.toNat) (by unfold wd; omega) (zdA (by omega) _)
  · rw [ew]; exact zdA hn _
end Go.AM.N14
namespace Go.AM.N14
open Go Go.AM
section
variable {L : List Nd} {K : List (ByteArray × Int)} (hg : zev L K) {S : Nat → Prop} (hcl : ∀ t, S t → ∀ c ∈ kids L t, S c) {G : ByteArray → W64} (hG : ∀ t n, 1 ≤ t → S t → L[t - 1]? = some n → n.op = 4 → (G n.name).toNat ≤ (msk (wd n.w)).toNat)
theorem zis (hg : zev L K) : ∀ m ∈ L, 0 ≤ m.w ∧ m.w ≤ 64 := fun m hm => by
  have : ¬ (m.w < 0 ∨ m.w > 64) := (hg.rt m hm).w
  omega
theorem wT_64 (hg : zev L K) (x : Int) : 0 ≤ wT L 0 x ∧ wT L 0 x ≤ 64 := by
  refine ⟨wT_nn (zis hg) x, ?_⟩
  unfold wT
  split
  · cases q : L[(x - 1).toNat]? with
    | none => show (0 : Int) ≤ 64; decide
    | some m => exact (zis hg m (List.mem_of_getElem? q)).2
  · decide
include hg hcl hG
theorem vfn_le {t : Nat} (h1 : 1 ≤ t) (h2 : t ≤ L.length) (hs : S t) : (vfn L G t).toNat ≤ (msk (wd (wT L 0 (t : Int)))).toNat :=
  fnA_ind hg.dag (valF L G) 0#64 hcl (Q := fun t v => v.toNat ≤ (msk (wd (wT L 0 (t : Int)))).toNat) (Nat.zero_le _) (fun t n h1 hs hn q1 q2 q3 => by
    have hlt := (List.getElem?_eq_some_iff.1 hn).1
    rw [wT_at ⟨h1, by omega⟩ hn 0]
    have hmem := List.mem_of_getElem? hn
    have ha := hg.dag.a _ n hn
    have hb := hg.dag.b _ n hn
    have hc := hg.dag.c _ n hn
    have ho : 1 ≤ n.op ∧ n.op ≤ 33 := by have : ¬ (n.op < 1 ∨ n.op > 33) := (hg.rt n hmem).op; omega
    unfold valF
    split
    · rename_i h4; exact hG t n h1 hs hn h4
    · rename_i h4
      rw [Int.toNat_of_nonneg (by omega)] at q1 q2 q3
      exact val_le ho h4 (zis hg n hmem) (hg.num n hmem) (x := ⟨wT L 0 n.a, 0#64, 0#64, fnA (valF L G) 0#64 L n.a.toNat, 0#64⟩) (y := ⟨wT L 0 n.b, 0#64, 0#64, fnA (valF L G) 0#64 L n.b.toNat, 0#64⟩) (z := ⟨wT L 0 n.c, 0#64, 0#64, fnA (valF L G) 0#64 L n.c.toNat, 0#64⟩)
        ⟨wT_64 hg n.a, q1⟩ ⟨wT_64 hg n.b, q2⟩ ⟨wT_64 hg n.c, q3⟩ (znh hg hmem h4)) t h1 h2 hs
theorem vok_in {t : Nat} (h1 : 1 ≤ t) (hs : S t) {n : Nd} (hn : L[t - 1]? = some n) (h4 : n.op ≠ 4) : Vok n (wT L 0 n.a).toNat (wT L 0 n.b).toNat (vfn L G n.a.toNat) (vfn L G n.b.toNat) := by
  have hmem := List.mem_of_getElem? hn
  have hlt := (List.getElem?_eq_some_iff.1 hn).1
  have ho : 1 ≤ n.op ∧ n.op ≤ 33 := by have : ¬ (n.op < 1 ∨ n.op > 33) := (hg.rt n hmem).op; omega
  have ha := hg.dag.a _ n hn
  have hb := hg.dag.b _ n hn
  have wa := wT_64 hg n.a
  have wb := wT_64 hg n.b
  have hkf := (zgE hg.dag hn).2
  have hkt : kids L t = zb2 n := by unfold kids; rw [hn]
  have one : ∀ x : Int, (x = n.a ∨ x = n.b ∨ x = n.c) → 0 ≤ x → x < t → (wT L 0 x).toNat = 0 → (vfn L G x.toNat).toNat ≤ 1 := fun x hx x0 x1 hw => by
    by_cases q : x = 0
    · rw [q]; exact Nat.zero_le _
    · obtain ⟨c, c1, c2⟩ := hkf x hx q
      have hle := vfn_le hg hcl hG (t := c) (by omega) (by omega) (hcl t hs c (by rw [hkt]; exact c1))
      have w0 := wT_nn (zis hg) x
      rw [c2, show wT L 0 x = 0 by omega] at hle
      rw [← c2, Int.toNat_natCast]
      exact hle
  exact vok_of (c := wT L 0 n.c) ho h4 (zis hg n hmem) (hg.num n hmem) (by omega) (by omega) (one n.a (.inl rfl) (by omega) (by omega)) (one n.b (.inr (.inl rfl)) (by omega) (by omega)) (by rw [Int.toNat_of_nonneg wa.1, Int.toNat_of_nonneg wb.1]; exact znh hg hmem h4)
end
end Go.AM.N14
namespace Go.AM.N14
open Go Go.AM
theorem vnum {v : VV} (h : v.Ok) : ((BitVec.ofInt 64 v.num).toNat : Int) = v.num := by
  have := h.1; have := h.2
  rw [BitVec.toNat_ofInt]
  omega
theorem zfO {Tv : List VV} {s : ByteArray} {v : VV} (h : fndV s Tv = some v) : zcv Tv s = BitVec.ofInt 64 v.num := by unfold zcv; rw [h]
theorem zhC {Tv : List VV} {s : ByteArray} (h : fndV s Tv = none) : zcv Tv s = 0#64 := by unfold zcv; rw [h]
theorem zgK {L : List Nd} {Tv : List VV} {t : Nat} {n : Nd} (hn : L[t - 1]? = some n) : badV L Tv t = (decide (n.op = 4) && (match fndV n.name Tv with | some v => decide (v.w ≠ n.w) | none => false)) := by unfold badV; rw [hn] <;> rfl
theorem step_var {B : Hp} {p f g : Nat} {lim : Int} {L : List Nd} {K : List (ByteArray × Int)} {sl : Value} (hst : StF B p lim L K sl f g) (hL : (L.length : Int) ≤ 4611686018427387904) {v : Value} {out : List Nat} (hv : Rdb B 1 v out.length (ints out)) (hol : out.length ≤ 2 ^ 41)
    {m : Nat} {Tv : List VV} (hm : MapS B m VV.val (fun s => fndV s Tv)) (hml : m < B.next) (hT : ∀ v ∈ Tv, v.Ok)
    {i t : Nat} (hi : out[i]? = some t) (ht : 1 ≤ t ∧ t ≤ L.length) {n : Nd} (hn : L[t - 1]? = some n) (h4 : n.op = 4) {H : Hp} {m1 m2 : Nat} {V W : Int → Int} (h : VS B H m1 m2 V W) (h0 : V (t : Int) = 0) :
    ∃ H' V', VS B H' m1 m2 V' (fun x => if x = (t : Int) then n.w else W x) ∧
      (badV L Tv t = false → zax RR (.pointer (some ⟨p, 0, none⟩)) v (.map (some m)) (.map (some m1)) (.map (some m2)) (.int .i64 (out.length : Int)) [.int .i64 (i : Int)] H = some (.next, [.int .i64 ((i + 1 : Nat) : Int)], H') ∧ V' (t : Int) = ((zcv Tv n.name).toNat : Int) ∧ ∀ x, x ≠ (t : Int) → V' x = V x) ∧
      (badV L Tv t = true → zax RR (.pointer (some ⟨p, 0, none⟩)) v (.map (some m)) (.map (some m1)) (.map (some m2)) (.int .i64 (out.length : Int)) [.int .i64 (i : Int)] H = some (.ret, [.tuple #[.slice none 0 0, .int .i64 71]], H')) := by
  have hlt : i < out.length := (List.getElem?_eq_some_iff.1 hi).1
  have hvH : Rdb H 1 v out.length (ints out) := hv.keep' (fun j hj => h.old j (hv.lt hj)) h.next
  have hvI : Rdb H 1 v (out.map fun (t : Nat) => (t : Int)).length (zc4 (out.map fun (t : Nat) => (t : Int))) := by rw [List.length_map, ← zbD]; exact hvH
  obtain ⟨y, x1, x2⟩ := hvI.int (i := i) (t := (t : Int)) (by rw [List.getElem?_map, hi]; rfl)
  have q : (i : Int) < (out.length : Int) := by omega
  have w1 : IntKind.i64.wrap ((i : Int) + 1) = ((i + 1 : Nat) : Int) := zaz (by omega) (by omega)
  have hstH : StF H p lim L K sl f g := hst.keep (fun i hi => h.old i (hst.foot_lt hi)) h.next
  have hT' : isT L (t : Int) = true := zbf.2 ⟨by omega, by omega⟩
  have hnode : zfg L (t : Int) = n := by
    unfold zfg
    rw [hT', if_pos rfl, show ((t : Int) - 1).toNat = t - 1 by omega, hn]; rfl
  have e10 := Go.AM.c10 hstH.st hL (t : Int)
  rw [hnode, hT', if_pos rfl] at e10
  obtain ⟨H1, u2, h1⟩ := h.up2 (t : Int) n.w
  have hm1 : MapS H1 m VV.val (fun s => fndV s Tv) := hm.keep (h1.old m hml)
  have d4 : decide (n.op ≠ 4) = false := decide_eq_false (fun q => q h4)
  have lk : ∀ {α : Type} (k : Value → Option α), zbs PP T.string (.agg #[.string ⟨#[]⟩, .int .i64 0, .int .u64 0]) (.map (some m)) (.string n.name) true H1 k = k (.tuple #[((fndV n.name Tv).getD noV).val, .bool (fndV n.name Tv).isSome]) := fun k => by
    rw [noV_val, hm1.look2]
    cases fndV n.name Tv <;> rfl
  have head : ∀ X, (zax RR (.pointer (some ⟨p, 0, none⟩)) v (.map (some m)) (.map (some m1)) (.map (some m2)) (.int .i64 (out.length : Int)) [.int .i64 (i : Int)] H = X) ↔
      (zaa (.bool (fndV n.name Tv).isSome) fun b58 => br b58
       (zai 1 false ((fndV n.name Tv).getD noV).cells 1 fun v59 =>
       zai 1 false n.cells 1 fun v60 =>
       pBin PP .neq T.int v59 v60 fun v61 =>
       zaa v61 fun b62 => br b62
       (some (.ret, [(.tuple #[(.slice none 0 0), (.int .i64 71)])], H1))
       (zai 1 false ((fndV n.name Tv).getD noV).cells 2 fun v63 =>
       pUpd PP T.int (.map (some m1)) (.int .i64 (t : Int)) v63 H1 fun H64 =>
       pBin PP .add T.int (.int .i64 (i : Int)) (.int .i64 1) fun v65 =>
       some (.next, [v65], H64)))
       (pBin PP .add T.int (.int .i64 (i : Int)) (.int .i64 1) fun v66 =>
       some (.next, [v66], H1))) = X := fun X => by
    unfold zax
    simp only [qg0]
    rw [lT q, x1, x2, zag e10, x01, spl7, zlv, u2, zjo, zbo, zac, d4, zaK, ncell6, lk, x01, splV]
  have hb := zgK (Tv := Tv) hn
  rw [decide_eq_true h4, Bool.true_and] at hb
  cases hq : fndV n.name Tv with
  | none =>
    rw [hq] at hb head
    refine ⟨H1, V, h1, fun _ => ⟨?_, ?_, fun x _ => rfl⟩, fun z => ?_⟩
    · rw [head]
      rw [show (Option.isSome (none : Option VV)) = false from rfl, zac, zaK, za5, w1]
    · rw [zhC hq, h0]; rfl
    · rw [hb] at z; cases z
  | some w =>
    rw [hq] at hb head
    have hwk := hT w (zeh hq).1
    dsimp only at hb
    by_cases e : w.w = n.w
    · obtain ⟨H2, u1, h2⟩ := h1.up1 (t : Int) w.num
      refine ⟨H2, _, h2, fun _ => ⟨?_, ?_, fun x hx => ?_⟩, fun z => ?_⟩
      · rw [head]
        rw [show (Option.isSome (some w)) = true from rfl, zac, za1, show (some w).getD noV = w from rfl, zi1, zlv, zbo, bF (fun q => q e), zkN, u1, za5, w1]
      · rw [if_pos rfl, zfO hq, vnum hwk]
      · rw [if_neg hx]
      · rw [hb, decide_eq_false (fun q => q e)] at z; cases z
    · refine ⟨H1, V, h1, fun z => ?_, fun _ => ?_⟩
      · rw [hb, decide_eq_true e] at z; cases z
      · rw [head]
        rw [show (Option.isSome (some w)) = true from rfl, zac, za1, show (some w).getD noV = w from rfl, zi1, zlv, zbo, bT e]
section
variable {B : Hp} {p f g : Nat} {lim : Int} {L : List Nd} {K : List (ByteArray × Int)} {sl : Value} (hst : StF B p lim L K sl f g) (hL : (L.length : Int) ≤ 4611686018427387904) (hd : Dag L) (hw : ∀ m ∈ L, 0 ≤ m.w ∧ m.w ≤ 64)
  {v : Value} {out : List Nat} (hv : Rdb B 1 v out.length (ints out)) (hol : out.length ≤ 2 ^ 41) (hcl : zc0 L out) (hnd : out.Nodup) (hbd : ∀ t ∈ out, 1 ≤ t ∧ t ≤ L.length)
  {m : Nat} {Tv : List VV} (hm : MapS B m VV.val (fun s => fndV s Tv)) (hml : m < B.next) (hT : ∀ v ∈ Tv, v.Ok)
  (hok : ∀ (i t : Nat) n, out[i]? = some t → (∀ u ∈ out.take (i + 1), badV L Tv u = false) → L[t - 1]? = some n → n.op ≠ 4 → Vok n (wT L 0 n.a).toNat (wT L 0 n.b).toNat (vfn L (zcv Tv) n.a.toNat) (vfn L (zcv Tv) n.b.toNat)) {m1 m2 : Nat}
include hst hL hd hw hv hol hcl hbd hm hml hT hok hnd
theorem zi3 : ∀ (k i : Nat) (H : Hp) (V W : Int → Int), i + k = out.length → VS B H m1 m2 V W → (∀ x : Int, (∀ t ∈ out.take i, (t : Int) ≠ x) → V x = 0) → W 0 = 0 → (∀ t ∈ out.take i, V (t : Int) = ((vfn L (zcv Tv) t).toNat : Int) ∧ W (t : Int) = wT L 0 (t : Int)) → (∀ u ∈ out.take i, badV L Tv u = false) →
    ∃ H' V' W', VS B H' m1 m2 V' W' ∧
      ((out.drop i).any (badV L Tv) = false → zat (zax RR (.pointer (some ⟨p, 0, none⟩)) v (.map (some m)) (.map (some m1)) (.map (some m2)) (.int .i64 (out.length : Int))) [.int .i64 (i : Int)] H = some (.exit 0, [.int .i64 (out.length : Int)], H') ∧ ∀ t ∈ out, V' (t : Int) = ((vfn L (zcv Tv) t).toNat : Int)) ∧
      ((out.drop i).any (badV L Tv) = true → zat (zax RR (.pointer (some ⟨p, 0, none⟩)) v (.map (some m)) (.map (some m1)) (.map (some m2)) (.int .i64 (out.length : Int))) [.int .i64 (i : Int)] H = some (.ret, [.tuple #[.slice none 0 0, .int .i64 71]], H'))
  | 0, i, H, V, W, hk, h, _, _, hin, _ => by
    have : i = out.length := by omega
    subst this
    refine ⟨H, V, W, h, fun _ => ⟨?_, fun t ht => (hin t (by rw [List.take_length]; exact ht)).1⟩, fun q => ?_⟩
    · rw [zak]
      have : zax RR (.pointer (some ⟨p, 0, none⟩)) v (.map (some m)) (.map (some m1)) (.map (some m2)) (.int .i64 (out.length : Int)) [.int .i64 (out.length : Int)] H = some (.exit 0, [.int .i64 (out.length : Int)], H) := by
        unfold zax
        simp only [qg0]
        rw [lF (Int.lt_irrefl _)]
      rw [this]; rfl
    · rw [List.drop_length] at q; cases q
  | k + 1, i, H, V, W, hk, h, h0, hw0, hin, hgo => by
    have hlt : i < out.length := by omega
    have hi : out[i]? = some out[i] := List.getElem?_eq_getElem hlt
    have hdrop : out.drop i = out[i] :: out.drop (i + 1) := List.drop_eq_getElem_cons hlt
    generalize out[i] = t at hi hdrop
    have htk : out.take (i + 1) = out.take i ++ [t] := by rw [List.take_add_one, hi]; rfl
    have ht := hbd t (List.mem_of_getElem? hi)
    have hn : L[t - 1]? = some (L[t - 1]'(by omega)) := List.getElem?_eq_getElem (by omega)
    generalize L[t - 1]'(by omega) = n at hn
    have hnew : ∀ u ∈ out.take i, (u : Int) ≠ (t : Int) := fun u hu e => by
      have e : u = t := by omega
      subst e
      have := hnd
      rw [← List.take_append_drop i out, hdrop] at this
      exact (List.nodup_append.1 this).2.2 u hu u (List.mem_cons_self ..) rfl
    have hkf := (zgE hd hn).2
    have hkt : kids L t = zb2 n := by unfold kids; rw [hn]
    have ha := hd.a _ n hn
    have hb := hd.b _ n hn
    have hc := hd.c _ n hn
    rw [hdrop, List.any_cons]
    have next : ∀ (H1 : Hp) (V1 : Int → Int), VS B H1 m1 m2 V1 (fun x => if x = (t : Int) then n.w else W x) → V1 (t : Int) = ((vfn L (zcv Tv) t).toNat : Int) → (∀ x, x ≠ (t : Int) → V1 x = V x) → badV L Tv t = false →
        zax RR (.pointer (some ⟨p, 0, none⟩)) v (.map (some m)) (.map (some m1)) (.map (some m2)) (.int .i64 (out.length : Int)) [.int .i64 (i : Int)] H = some (.next, [.int .i64 ((i + 1 : Nat) : Int)], H1) →
        ∃ H' V' W', VS B H' m1 m2 V' W' ∧
          ((badV L Tv t || (out.drop (i + 1)).any (badV L Tv)) = false → zat (zax RR (.pointer (some ⟨p, 0, none⟩)) v (.map (some m)) (.map (some m1)) (.map (some m2)) (.int .i64 (out.length : Int))) [.int .i64 (i : Int)] H = some (.exit 0, [.int .i64 (out.length : Int)], H') ∧ ∀ t ∈ out, V' (t : Int) = ((vfn L (zcv Tv) t).toNat : Int)) ∧
          ((badV L Tv t || (out.drop (i + 1)).any (badV L Tv)) = true → zat (zax RR (.pointer (some ⟨p, 0, none⟩)) v (.map (some m)) (.map (some m1)) (.map (some m2)) (.int .i64 (out.length : Int))) [.int .i64 (i : Int)] H = some (.ret, [.tuple #[.slice none 0 0, .int .i64 71]], H')) := fun H1 V1 h1 v1 v2 hb0 hs => by
      obtain ⟨H', V', W', g1, g2, g3⟩ := zi3 k (i + 1) H1 V1 _ (by omega) h1 (fun x hx => by
        rw [htk] at hx
        rw [v2 x fun e => hx t (List.mem_append_right _ (List.mem_singleton.2 rfl)) e.symm]
        exact h0 x fun u hu => hx u (List.mem_append_left _ hu)) (by rw [if_neg (by omega)]; exact hw0) (fun u hu => by
        rw [htk] at hu
        rcases List.mem_append.1 hu with hu | hu
        · have hne := hnew u hu
          rw [if_neg hne, v2 _ hne]
          exact hin u hu
        · rw [List.mem_singleton] at hu
          subst hu
          rw [if_pos rfl, wT_at ht hn]
          exact ⟨v1, rfl⟩) (fun u hu => by
        rw [htk] at hu
        rcases List.mem_append.1 hu with hu | hu
        · exact hgo u hu
        · rw [List.mem_singleton] at hu; rw [hu]; exact hb0)
      rw [hb0, Bool.false_or, zak, hs]
      exact ⟨H', V', W', g1, g2, g3⟩
    by_cases h4 : n.op = 4
    · obtain ⟨H1, V1, h1, s1, s2⟩ := step_var hst hL hv hol hm hml hT hi ht hn h4 h (h0 _ hnew)
      cases hq : badV L Tv t with
      | false =>
        obtain ⟨s1, s3, s4⟩ := s1 hq
        have := next H1 V1 h1 (by
          rw [s3]
          unfold vfn
          rw [zjJ hd _ _ ht.1 hn]
          unfold valF
          rw [if_pos h4]) s4 hq s1
        rw [hq] at this
        exact this
      | true =>
        refine ⟨H1, V1, _, h1, fun z => (by cases z), fun _ => ?_⟩
        rw [zak, s2 hq]; rfl
    · have hb0 : badV L Tv t = false := by rw [zgK hn, decide_eq_false h4]; rfl
      have hvok := hok i t n hi (fun u hu => by
        rw [htk] at hu
        rcases List.mem_append.1 hu with hu | hu
        · exact hgo u hu
        · rw [List.mem_singleton] at hu; rw [hu]; exact hb0) hn h4
      have part : ∀ x : Int, x = n.a ∨ x = n.b ∨ x = n.c → 0 ≤ x → x < (t : Int) → V x = ((vfn L (zcv Tv) x.toNat).toNat : Int) ∧ (if x = (t : Int) then n.w else W x) = ((wT L 0 x).toNat : Int) := fun x hx h1 h2 => by
        rw [if_neg (by omega)]
        by_cases q : x = 0
        · subst q
          rw [h0 0 (fun u hu => by have := hbd u (List.mem_of_mem_take hu); omega), hw0]
          refine ⟨?_, by rw [wT_0]; rfl⟩
          rfl
        · obtain ⟨c, c1, c2⟩ := hkf x hx q
          obtain ⟨g1, g2⟩ := hin c (hcl i t hi c (by rw [hkt]; exact c1))
          rw [← c2, g1, g2, Int.toNat_natCast]
          refine ⟨rfl, ?_⟩
          have := wT_nn hw (c : Int)
          omega
      obtain ⟨pa1, pa2⟩ := part n.a (.inl rfl) (by omega) (by omega)
      obtain ⟨pb1, pb2⟩ := part n.b (.inr (.inl rfl)) (by omega) (by omega)
      obtain ⟨pc1, _⟩ := part n.c (.inr (.inr rfl)) (by omega) (by omega)
      obtain ⟨H1, e1, h1⟩ := step_val hst hL hv hol hi ht hn h hvok pa2 pb2 pa1 pb1 pc1 (.map (some m))
      have := next H1 _ h1 (by
        rw [if_pos rfl]
        unfold vfn
        rw [zjJ hd (valF L (zcv Tv)) _ ht.1 hn]
        show _ = ((valF L (zcv Tv) n _ _ _).toNat : Int)
        unfold valF
        rw [if_neg h4]) (fun x hx => by rw [if_neg hx]) hb0 e1
      rw [hb0] at this
      rw [hb0]
      exact this
end
end Go.AM.N14
namespace Go.AM.N14
open Go Go.AM
end Go.AM.N14
namespace Go.AM.N14
open Go Go.AM
theorem told_le {v : VV} (h : v.Ok) (hw : wdOk v = true) : (BitVec.ofInt 64 v.num).toNat ≤ (msk (wd v.w)).toNat := by
  unfold wdOk at hw
  simp only [Bool.and_eq_true, decide_eq_true_eq] at hw
  obtain ⟨⟨h1, h2⟩, h3⟩ := hw
  have e : (if v.w < 1 then (1 : Int) else v.w) = ((wd v.w : Nat) : Int) := by unfold wd; split <;> omega
  have hn := vnum h
  rw [e, ← hn, znd (wd_pos v.w) (wd_le h2)] at h3
  have h4 : (BitVec.ofInt 64 v.num &&& msk (wd v.w)).toNat = (BitVec.ofInt 64 v.num).toNat := by omega
  rw [← h4]
  exact zdA (wd_le h2) _
theorem toldE_0 {Tv : List VV} (h : zfm Tv = 0) : nmOk [] (Tv.map VV.name) = true ∧ Tv.all wdOk = true := by
  unfold zfm at h
  split at h
  · split at h
    · exact ⟨by assumption, by assumption⟩
    · cases h
  · cases h
theorem tell_le {L : List Nd} {Tv : List VV} (hT : ∀ v ∈ Tv, v.Ok) (h0 : zfm Tv = 0) {t : Nat} {n : Nd} (hn : L[t - 1]? = some n) (h4 : n.op = 4) (hb : badV L Tv t = false) : (zcv Tv n.name).toNat ≤ (msk (wd n.w)).toNat := by
  rw [zgK hn, decide_eq_true h4, Bool.true_and] at hb
  cases hq : fndV n.name Tv with
  | none => rw [zhC hq]; exact Nat.zero_le _
  | some w =>
    rw [hq] at hb
    have hwm := (zeh hq).1
    have e : w.w = n.w := by
      have := of_decide_eq_false hb
      omega
    rw [zfO hq, ← e]
    exact told_le (hT w hwm) (List.all_eq_true.1 (toldE_0 h0).2 w hwm)
theorem vok_pre {L : List Nd} {K : List (ByteArray × Int)} (hg : zev L K) {out : List Nat} (hcl : zc0 L out) {Tv : List VV} (hT : ∀ v ∈ Tv, v.Ok) (h0 : zfm Tv = 0) (hbd : ∀ t ∈ out, 1 ≤ t ∧ t ≤ L.length) :
    ∀ (i t : Nat) n, out[i]? = some t → (∀ u ∈ out.take (i + 1), badV L Tv u = false) → L[t - 1]? = some n → n.op ≠ 4 → Vok n (wT L 0 n.a).toNat (wT L 0 n.b).toNat (vfn L (zcv Tv) n.a.toNat) (vfn L (zcv Tv) n.b.toNat) := by
  intro i t n hi hu hn h4
  have hm : t ∈ out.take (i + 1) := by rw [List.take_add_one, hi]; simp
  have ht := hbd t (List.mem_of_getElem? hi)
  refine vok_in hg (S := (· ∈ out.take (i + 1))) (fun u hu c hc => ?_) (fun u m hu1 hu2 hum h4 => tell_le hT h0 hum h4 (hu u hu2)) ht.1 hm hn h4
  obtain ⟨j, hj⟩ := List.getElem?_of_mem hu
  rw [List.getElem?_take] at hj
  split at hj
  · have := hcl j u hj c hc
    exact List.mem_of_mem_take (by rw [List.take_take, Nat.min_eq_left (by omega : j ≤ i + 1)]; exact this : c ∈ (out.take (i + 1)).take j)
  · cases hj
noncomputable def zbT (L : List Nd) (rs : List Int) (Tv : List VV) : Int × List W64 := if rs.all (isT L) = true then zeb L (rs.map Int.toNat) Tv else (70, [])
theorem Made.nil' {B H : Hp} (h1 : B.next ≤ H.next) (h2 : ∀ j, j < B.next → H.get j = B.get j) : Made B H (.slice none 0 0) 0 [] := ⟨h1, h2, Vec.nil _ _, fun j hj => by cases hj⟩
section
variable {H0 : Hp} {p f g : Nat} {lim : Int} {L : List Nd} {K : List (ByteArray × Int)} {sl : Value} (hst : StF H0 p lim L K sl f g) (hg : zev L K) (hL : L.length * 64 ≤ 2 ^ 46)
  {x : Value} {rs : List Int} (hx : RdO H0 1 x rs.length (zc4 rs)) (hl : rs.length ≤ 2 ^ 40) {y : Value} {Tv : List VV} (hy : Rdb H0 3 y Tv.length (za8 Tv)) (hyl : Tv.length ≤ 2 ^ 40) (hT : ∀ v ∈ Tv, v.Ok)
include hst hg hL hx hl hy hyl hT
theorem zkE : ∃ H' v', RR F.a10 [.pointer (some ⟨p, 0, none⟩), x, y] H0 = some (.tuple #[v', .int .i64 (zbT L rs Tv).1], H') ∧ Made H0 H' v' (zbT L rs Tv).2.length (wvs (zbT L rs Tv).2) := by
  have hr := (zkc E0 rfl (.pointer (some ⟨p, 0, none⟩)) x y H0).trans (zku _ _ _ _ _)
  have hd := hg.dag
  obtain ⟨H1, v1, e1, o1⟩ := Go.AM.c13 hst hd hL hx hl
  rw [znm T.p_term_Store _ ⟨T.term_Store, by kernel_rfl⟩, zac, zaK, zag e1, x01, zbo, zac] at hr
  unfold zbT
  unfold zdx at e1 o1 hr
  cases hall : rs.all (isT L) with
  | false =>
    rw [hall, if_neg (by decide)] at o1 hr
    rw [decide_eq_true (show ¬ ((70, ([] : List Nat)) : Int × List Nat).1 = 0 by decide), za1] at hr
    rw [if_neg (by decide)]
    exact ⟨H1, _, hr, Made.nil' o1.next o1.old⟩
  | true =>
    rw [hall, if_pos rfl] at o1 hr
    rw [if_pos rfl]
    obtain ⟨ns, n1, hb⟩ := nats rs hall
    have ens : rs.map Int.toNat = ns := by rw [n1, zgC]
    have hlen : rs.length = ns.length := by rw [n1, List.length_map]
    rw [ens] at o1 hr ⊢
    rw [decide_eq_false (show ¬ ¬ ((0, posts L ns []) : Int × List Nat).1 = 0 by simp), zaK] at hr
    have o1 : OrdOk H0 H1 v1 (posts L ns []) := o1
    have hy1 : Rdb H1 3 y Tv.length (za8 Tv) := hy.keep' (fun j hj => o1.old j (hy.lt hj)) o1.next
    obtain ⟨v2, H2, t1, t2, t3⟩ := c_told hy1 hyl hT
    rw [zag t1, x01, zbo, zac] at hr
    have o2 : ∀ j, j < H0.next → H2.get j = H0.get j := fun j hj => by
      have := o1.next
      rw [t2.same j (by omega) (fun q => q), o1.old j hj]
    have n2 : H0.next ≤ H2.next := Nat.le_trans o1.next t2.next
    unfold zeb
    by_cases h0 : zfm Tv ≠ 0
    · rw [decide_eq_true h0, za1] at hr
      rw [if_pos h0]
      exact ⟨H2, _, hr, Made.nil' n2 o2⟩
    · rw [if_neg h0]
      have h0 : zfm Tv = 0 := Decidable.not_not.1 h0
      rw [decide_eq_false (fun q => q h0), zaK] at hr
      obtain ⟨m, rfl, m1, m2, m3⟩ := t3 h0
      have hlen2 : (posts L ns []).length ≤ L.length := Told.len ((⟨List.nodup_nil, fun x h => by cases h⟩ : Told L.length []).posts hd hb)
      have hndp : (posts L ns []).Nodup := zfY hd ns [] (fun c hc => (hb c hc).1) List.nodup_nil
      have hmem := zcG hd (N := L.length) ns [] hb
      have hbd : ∀ t ∈ posts L ns [], 1 ≤ t ∧ t ≤ L.length := fun t ht => by
        rcases hmem.2.2 t ht with q | q
        · cases q
        · exact q
      have hcl : zc0 L (posts L ns []) := (zeX hd ns [] (fun c hc => (hb c hc).1) (fun i t h => by cases h)).1
      generalize hout : posts L ns [] = out at *
      have hh : ∀ (n : Int) (f : Option (Value × Hp)), zgA (.int .i64 n) f = f := fun n f => rfl
      have hm : ∀ (H : Hp) (f : Value → Hp → Option (Value × Hp)), zb7 H f = f (.map (some H.next)) (H.new (.map [])) := fun H f => rfl
      let Hu := H2.new (.map [])
      let Hv := Hu.new (.map [])
      have hn1 := n2
      have hvs : VS H2 Hv H2.next Hu.next (fun _ => 0) (fun _ => 0) := by
        refine ⟨?_, fun j hj => ?_, ?_, ?_, ?_, ?_, ?_, ?_⟩
        · show H2.next ≤ H2.next + 1 + 1; omega
        · show ((H2.new (.map [])).new (.map [])).get j = _
          rw [get_new, if_neg (by show j ≠ H2.next + 1; omega), get_new, if_neg (by omega)]
        · exact Nat.le_refl _
        · show H2.next ≤ H2.next + 1; omega
        · show H2.next ≠ H2.next + 1; omega
        · show H2.next < H2.next + 1 + 1; omega
        · exact (MapU.new H2).keep (by show (Hu.new (.map [])).get H2.next = Hu.get H2.next; rw [get_new, if_neg (by show H2.next ≠ H2.next + 1; omega)])
        · exact MapF.new Hu
      have hstB : StF H2 p lim L K sl f g := hst.keep (fun i hi => o2 i (hst.foot_lt hi)) n2
      have hov : Vec H2 1 v1 out.length (ints out) := o1.vec.keep t2 fun j _ q => q
      obtain ⟨H3, V', W', h3, l1, l2⟩ := zi3 hstB (by omega) hd (zis hg) hov.rd (by omega) hcl hndp hbd m3 m2 hT (vok_pre hg hcl hT h0 hbd) out.length 0 Hv (fun _ => 0) (fun _ => 0) (by omega) hvs (fun _ _ => rfl) rfl (fun t ht => by rw [List.take_zero] at ht; cases ht) (fun t ht => by rw [List.take_zero] at ht; cases ht)
      rw [qd0] at l1 l2
      rw [hov.len, hh, hm, hov.len, hh, hm, hov.len] at hr
      have o3 : ∀ j, j < H0.next → H3.get j = H0.get j := fun j hj => by rw [h3.old j (by omega), o2 j hj]
      have n3 : H0.next ≤ H3.next := Nat.le_trans n2 h3.next
      cases hbad : out.any (badV L Tv) with
      | true =>
        have l2 : zat (zax RR (.pointer (some ⟨p, 0, none⟩)) v1 (.map (some m)) (.map (some H2.next)) (.map (some (H2.new (.map [])).next)) (.int .i64 (out.length : Int))) [.int .i64 0] ((H2.new (.map [])).new (.map [])) = _ := l2 hbad
        rw [l2] at hr
        rw [if_pos rfl]
        exact ⟨H3, _, hr, Made.nil' n3 o3⟩
      | false =>
        obtain ⟨l1, l3⟩ := l1 hbad
        have l1 : zat (zax RR (.pointer (some ⟨p, 0, none⟩)) v1 (.map (some m)) (.map (some H2.next)) (.map (some (H2.new (.map [])).next)) (.int .i64 (out.length : Int))) [.int .i64 0] ((H2.new (.map [])).new (.map [])) = _ := l1
        rw [if_neg (by decide)]
        have hx3 : RdO H3 1 x ns.length (ints ns) := by
          have := hx.keep' (H' := H3) (fun j hj => o3 j (hx.lt hj)) n3
          rw [zbD, ← n1, ← hlen]; exact this
        obtain ⟨v3, H4, mk1, mk2, mk3, mk4⟩ := Vec.cap H3 (sz := 1) (bytes := 8) (zs := [.int .u64 0]) rfl rfl (n := ns.length) (by omega)
        obtain ⟨H5, v4, q1, h4⟩ := znc (B := H3) hx3 (by omega) h3.f1 h3.n1 (vf := vfn L (zcv Tv)) (fun t ht => l3 t (hmem.2.1 t ht)) ns.length 0 H4 v3 (by omega) ⟨mk3.next, fun j hj => mk3.same j hj (fun q => q), mk2, mk4⟩
        have q1 : zat (zbk RR x (.map (some H2.next)) (.int .i64 (ns.length : Int))) [v3, .int .i64 0] H4 = _ := q1
        rw [l1, zap, zbg, zaJ, hx3.len, mk1, hx3.len, q1, zap, zbg, zaJ] at hr
        refine ⟨H5, v4, hr, ?_⟩
        rw [List.length_map]
        exact ⟨Nat.le_trans n3 h4.next, fun j hj => by rw [h4.old j (by omega), o3 j hj], h4.vec, fun j hj => Nat.le_trans n3 (h4.new j hj)⟩
theorem c_value {t : Int} : ∃ H', RR F.a22 [.pointer (some ⟨p, 0, none⟩), .int .i64 t, y] H0 = some (.tuple #[wv ((zbT L [t] Tv).2.headD 0#64), .int .i64 (zbT L [t] Tv).1], H') ∧ H0.next ≤ H'.next ∧ ∀ j, j < H0.next → H'.get j = H0.get j := by
  have hr := zk7 E0 rfl (.pointer (some ⟨p, 0, none⟩)) (.int .i64 t) y H0
  unfold zgX at hr
  have hb : ∀ (k : Value → Hp → Option (Value × Hp)), zaj 1 [.int .i64 0] 1 [(0, .int .i64 t)] H0 k = k (.slice (some ⟨H0.next, 0, some 1⟩) 1 1) (H0.new (.cells [.int .i64 t] true)) := fun k => rfl
  let H1 := H0.new (.cells [.int .i64 t] true)
  have h1o : ∀ j, j < H0.next → H1.get j = H0.get j := fun j hj => by show (H0.new _).get j = _; rw [get_new, if_neg (by omega)]
  have h1n : H1.next = H0.next + 1 := rfl
  have hst1 : StF H1 p lim L K sl f g := hst.keep (fun i hi => h1o i (hst.foot_lt hi)) (by omega)
  have hx1 : Rdb H1 1 (.slice (some ⟨H0.next, 0, some 1⟩) 1 1) [t].length (zc4 [t]) := .inr ⟨H0.next, 1, [], true, rfl, Nat.le_refl _, by show (H0.new _).get _ = _; rw [get_new, if_pos rfl]; rfl, rfl, by omega⟩
  have hy1 : Rdb H1 3 y Tv.length (za8 Tv) := hy.keep' (fun j hj => h1o j (hy.lt hj)) (by omega)
  clear hx hl
  obtain ⟨H2, v, e1, m1⟩ := zkE hst1 hg hL hx1.o (by show 1 ≤ _; decide) hy1 hyl hT
  have hn := m1.next
  have fin : H0.next ≤ H2.next ∧ ∀ j, j < H0.next → H2.get j = H0.get j := ⟨by omega, fun j hj => by rw [m1.old j (by omega), h1o j hj]⟩
  rw [hb, zag e1, x01, zbo, zac] at hr
  by_cases h0 : (zbT L [t] Tv).1 ≠ 0
  · rw [decide_eq_true h0, za1] at hr
    have hnil : (zbT L [t] Tv).2 = [] := by
      revert h0
      unfold zbT
      split
      · unfold zeb
        split
        · exact fun _ => rfl
        · split
          · exact fun _ => rfl
          · exact fun q => absurd rfl q
      · exact fun _ => rfl
    rw [hnil]
    exact ⟨H2, hr, fin⟩
  · have h0 : (zbT L [t] Tv).1 = 0 := Decidable.not_not.1 h0
    rw [decide_eq_false (fun q => q h0), zaK] at hr
    obtain ⟨a, ha⟩ : ∃ a, (zbT L [t] Tv).2 = [a] := by
      revert h0
      unfold zbT
      split
      · unfold zeb
        split
        · rename_i q; exact fun z => absurd z q
        · split
          · exact fun z => by cases z
          · exact fun _ => ⟨_, rfl⟩
      · exact fun z => by cases z
    rw [ha] at m1 ⊢
    obtain ⟨z, hz, ⟨rest, hgz⟩, hix⟩ := m1.vec.ix (i := 0) (show 0 < 1 by decide)
    have hix' : ∀ (k : Value → Option (Value × Hp)), pIdx 1 v (.int .i64 0) k = k (.pointer (some ⟨z, 0, none⟩)) := fun k => hix _ .i64 k
    rw [hix', zfA hgz (o := 0) (x := wv a) rfl] at hr
    rw [h0]
    exact ⟨H2, hr, fin⟩
end
end Go.AM.N14
namespace Go.AM.N14
open Go Go.AM
structure zgk (sz : Nat) (B H : Hp) (v : Value) (n : Nat) (cs : List Value) : Prop where
  next : B.next ≤ H.next
  old : ∀ j, j < B.next → H.get j = B.get j
  vec : Vec H sz v n cs
  new : ∀ j, Id v j → B.next ≤ j
theorem zgk.of {B H : Hp} {sz : Nat} {v : Value} {n : Nat} {cs : List Value} {r : List Sl} (h : Own B H (⟨sz, v, n, cs⟩ :: r)) : zgk sz B H v n cs := ⟨h.next, h.old, h.head, fun j hj => h.new _ (List.mem_cons_self ..) j hj⟩
theorem zgk.behind {B B' H : Hp} {sz : Nat} {v : Value} {n : Nat} {cs : List Value} (h : zgk sz B' H v n cs) (h1 : B.next ≤ B'.next) (h2 : ∀ j, j < B.next → B'.get j = B.get j) : zgk sz B H v n cs :=
  ⟨Nat.le_trans h1 h.next, fun j hj => by rw [h.old j (by omega), h2 j hj], h.vec, fun j hj => Nat.le_trans h1 (h.new j hj)⟩
theorem zgk.frm {B H : Hp} {sz : Nat} {v : Value} {n : Nat} {cs : List Value} (h : zgk sz B H v n cs) : Frm (fun _ => False) B H := ⟨h.next, fun j hj _ => h.old j hj⟩
theorem zgk.nil {B H : Hp} {sz : Nat} (h : Frm (fun _ => False) B H) : zgk sz B H (.slice none 0 0) 0 [] := ⟨h.next, fun j hj => h.same j hj fun q => q, Vec.nil _ _, fun j hj => by cases hj⟩
theorem isV_eq {L : List Nd} {t : Nat} {n : Nd} (hn : L[t - 1]? = some n) : isV L t = if n.op = 4 then some ⟨n.name, n.w, 0⟩ else none := by unfold isV; rw [hn]
theorem bvv {α : Type} (s : ByteArray) (w : Int) (k : Value → Option α) : zaG PP T.api_Value [(0, .string s), (1, .int .i64 w)] k = k (VV.val ⟨s, w, 0⟩) := Go.AM.bld (by kernel_rfl) k
theorem bvv3 {α : Type} (s : ByteArray) (w x : Int) (k : Value → Option α) : zaG PP T.api_Value [(0, .string s), (1, .int .i64 w), (2, .int .u64 x)] k = k (VV.val ⟨s, w, x⟩) := Go.AM.bld (by kernel_rfl) k
theorem pushV {B H : Hp} {acc : Value} {l : List VV} {r : List Sl} (h : Own B H (⟨3, acc, l.length, za8 l⟩ :: r)) (v : VV) (hb : l.length ≤ 2 ^ 41) :
    ∃ acc' H', (∀ (α : Type) (k : Value → Hp → Option α), (zaj 3 [.string ⟨#[]⟩, .int .i64 0, .int .u64 0] 1 [(0, v.val)] H fun t H1 => zaF 3 32 acc t H1 k) = k acc' H') ∧ Own B H' (⟨3, acc', (l ++ [v]).length, za8 (l ++ [v])⟩ :: r) := by
  obtain ⟨acc', H', e1, e2⟩ := Own.push h (bytes := 32) (zs := [.string ⟨#[]⟩, .int .i64 0, .int .u64 0]) (x := v.val) (by decide) (by decide) rfl rfl rfl (by omega)
  refine ⟨acc', H', e1, ?_⟩
  have : za8 (l ++ [v]) = za8 l ++ zab v.val := by rw [valsC_app]; rfl
  rw [this, List.length_append]
  exact e2
section
variable {B : Hp} {p f g : Nat} {lim : Int} {L : List Nd} {K : List (ByteArray × Int)} {sl : Value} (hst : StF B p lim L K sl f g) (hL : (L.length : Int) ≤ 4611686018427387904)
  {v : Value} {out : List Nat} (hv : Rdb B 1 v out.length (ints out)) (hol : out.length ≤ 2 ^ 41) (hbd : ∀ t ∈ out, 1 ≤ t ∧ t ≤ L.length)
include hst hL hv hol hbd
theorem vars_step (S : List Value → Hp → Option Outc) {i t : Nat} (hi : out[i]? = some t) {n : Nd} (hn : L[t - 1]? = some n) {H : Hp} {acc : Value} (h : Own B H [⟨3, acc, ((out.take i).filterMap (isV L)).length, za8 ((out.take i).filterMap (isV L))⟩])
    (hS : ∀ (acc' : Value) (H' : Hp), (n.op = 4 → ∀ (α : Type) (k : Value → Hp → Option α), (zaj 3 [.string ⟨#[]⟩, .int .i64 0, .int .u64 0] 1 [(0, VV.val ⟨n.name, n.w, 0⟩)] H fun t H1 => zaF 3 32 acc t H1 k) = k acc' H') → (n.op ≠ 4 → acc' = acc ∧ H' = H) → S [acc, .int .i64 (i : Int)] H = some (.next, [acc', .int .i64 ((i + 1 : Nat) : Int)], H')) :
    ∃ acc' H', S [acc, .int .i64 (i : Int)] H = some (.next, [acc', .int .i64 ((i + 1 : Nat) : Int)], H') ∧ Own B H' [⟨3, acc', ((out.take (i + 1)).filterMap (isV L)).length, za8 ((out.take (i + 1)).filterMap (isV L))⟩] := by
  have htk : out.take (i + 1) = out.take i ++ [t] := by rw [List.take_add_one, hi]; rfl
  have hlen : ((out.take i).filterMap (isV L)).length ≤ 2 ^ 41 := Nat.le_trans (List.length_filterMap_le ..) (by rw [List.length_take]; omega)
  rw [htk, List.filterMap_append, List.filterMap_cons, isV_eq hn]
  by_cases h4 : n.op = 4
  · obtain ⟨acc', H', e1, e2⟩ := pushV h ⟨n.name, n.w, 0⟩ hlen
    rw [if_pos h4]
    exact ⟨acc', H', hS acc' H' (fun _ => e1) (fun q => absurd h4 q), e2⟩
  · rw [if_neg h4]
    refine ⟨acc, H, hS acc H (fun q => absurd q h4) (fun _ => ⟨rfl, rfl⟩), ?_⟩
    rw [List.filterMap_nil, List.append_nil]; exact h
theorem zkO (S : List Value → Hp → Option Outc) (hend : ∀ (H : Hp) (acc : Value), S [acc, .int .i64 (out.length : Int)] H = some (.exit 0, [acc, .int .i64 (out.length : Int)], H))
    (hS : ∀ (i t : Nat) (n : Nd) (H : Hp) (acc acc' : Value) (H' : Hp), out[i]? = some t → 1 ≤ t ∧ t ≤ L.length → L[t - 1]? = some n → StF H p lim L K sl f g → Rdb H 1 v out.length (ints out) → (n.op = 4 → ∀ (α : Type) (k : Value → Hp → Option α), (zaj 3 [.string ⟨#[]⟩, .int .i64 0, .int .u64 0] 1 [(0, VV.val ⟨n.name, n.w, 0⟩)] H fun t H1 => zaF 3 32 acc t H1 k) = k acc' H') → (n.op ≠ 4 → acc' = acc ∧ H' = H) → S [acc, .int .i64 (i : Int)] H = some (.next, [acc', .int .i64 ((i + 1 : Nat) : Int)], H')) :
    ∀ (k i : Nat) (H : Hp) (acc : Value), i + k = out.length → Own B H [⟨3, acc, ((out.take i).filterMap (isV L)).length, za8 ((out.take i).filterMap (isV L))⟩] →
    ∃ H' acc', zat S [acc, .int .i64 (i : Int)] H = some (.exit 0, [acc', .int .i64 (out.length : Int)], H') ∧ Own B H' [⟨3, acc', (out.filterMap (isV L)).length, za8 (out.filterMap (isV L))⟩]
  | 0, i, H, acc, hk, h => by
    have : i = out.length := by omega
    subst this
    rw [List.take_length] at h
    refine ⟨H, acc, ?_, h⟩
    rw [zak, hend]; rfl
  | k + 1, i, H, acc, hk, h => by
    have hlt : i < out.length := by omega
    have hi : out[i]? = some out[i] := List.getElem?_eq_getElem hlt
    generalize out[i] = t at hi
    have ht := hbd t (List.mem_of_getElem? hi)
    have hn : L[t - 1]? = some (L[t - 1]'(by omega)) := List.getElem?_eq_getElem (by omega)
    generalize L[t - 1]'(by omega) = n at hn
    obtain ⟨acc1, H1, e1, h1⟩ := vars_step hst hL hv hol hbd S hi hn h fun acc' H' a b => hS i t n H acc acc' H' hi ht hn (Own.st h hst) (hv.keep' (fun j hj => h.old j (hv.lt hj)) h.next) a b
    obtain ⟨H', acc', g1, g2⟩ := zkO S hend hS k (i + 1) H1 acc1 (by omega) h1
    refine ⟨H', acc', ?_, g2⟩
    rw [zak, e1]; exact g1
end
def zl2 (L : List Nd) (rs : List Int) : Int × List VV := if rs.all (isT L) = true then (0, zaY L (rs.map Int.toNat)) else (70, [])
section
variable {H0 : Hp} {p f g : Nat} {lim : Int} {L : List Nd} {K : List (ByteArray × Int)} {sl : Value} (hst : StF H0 p lim L K sl f g) (hd : Dag L) (hL : L.length * 64 ≤ 2 ^ 46)
  {x : Value} {rs : List Int} (hx : RdO H0 1 x rs.length (zc4 rs)) (hl : rs.length ≤ 2 ^ 40)
include hst hd hL hx hl
theorem znF (hall : rs.all (isT L) = true) : ∀ t ∈ (zdx L rs).2, 1 ≤ t ∧ t ≤ L.length := by
  unfold zdx
  rw [hall, if_pos rfl]
  obtain ⟨ns, n1, hb⟩ := nats rs hall
  have ens : rs.map Int.toNat = ns := by rw [n1, zgC]
  rw [ens]
  intro t ht
  rcases (zcG hd (N := L.length) ns [] hb).2.2 t ht with q | q
  · cases q
  · exact q
theorem c_vars : ∃ H' v', RR F.a23 [.pointer (some ⟨p, 0, none⟩), x] H0 = some (.tuple #[v', .int .i64 (zl2 L rs).1], H') ∧ zgk 3 H0 H' v' (zl2 L rs).2.length (za8 (zl2 L rs).2) := by
  have hr := (zmk E0 rfl (.pointer (some ⟨p, 0, none⟩)) x H0).trans (zmQ _ _ _ _)
  obtain ⟨H1, v1, e1, o1⟩ := Go.AM.c13 hst hd hL hx hl
  rw [znm T.p_term_Store _ ⟨T.term_Store, by kernel_rfl⟩, zac, zaK, zag e1, x01, zbo, zac] at hr
  have hbd := znF hst hd hL hx hl
  have hbl := zll hd rs
  unfold zl2
  cases hall : rs.all (isT L) with
  | false =>
    have e : zdx L rs = (70, []) := by unfold zdx; rw [hall]; rfl
    rw [e] at o1 hr
    rw [decide_eq_true (show ¬ ((70, ([] : List Nat)) : Int × List Nat).1 = 0 by decide), za1] at hr
    rw [if_neg (by decide)]
    exact ⟨H1, _, hr, zgk.nil ⟨o1.next, fun j hj _ => o1.old j hj⟩⟩
  | true =>
    have e : zdx L rs = (0, posts L (rs.map Int.toNat) []) := by unfold zdx; rw [hall]; rfl
    have hbd := hbd hall
    rw [e] at o1 hr hbd hbl
    have o1 : OrdOk H0 H1 v1 (posts L (rs.map Int.toNat) []) := o1
    rw [decide_eq_false (show ¬ ¬ ((0, posts L (rs.map Int.toNat) []) : Int × List Nat).1 = 0 by simp), zaK, o1.vec.len] at hr
    rw [if_pos rfl]
    dsimp only at hbd hbl
    unfold zaY
    generalize posts L (rs.map Int.toNat) [] = out at *
    have hst1 : StF H1 p lim L K sl f g := hst.keep (fun i hi => o1.old i (hst.foot_lt hi)) o1.next
    obtain ⟨H2, v2, l1, l2⟩ := zkO hst1 (by omega) o1.vec.rd (by omega) hbd (zcg RR (.pointer (some ⟨p, 0, none⟩)) v1 (.int .i64 (out.length : Int))) (fun H acc => by
      unfold zcg
      simp only [qg0, qg1]
      rw [lF (Int.lt_irrefl _)]) (fun i t n H acc acc' H' hi ht hn hs hv a b => by
      have hlt : i < out.length := (List.getElem?_eq_some_iff.1 hi).1
      have hvI : Rdb H 1 v1 (out.map fun (t : Nat) => (t : Int)).length (zc4 (out.map fun (t : Nat) => (t : Int))) := by rw [List.length_map, ← zbD]; exact hv
      obtain ⟨y, x1, x2⟩ := hvI.int (i := i) (t := (t : Int)) (by rw [List.getElem?_map, hi]; rfl)
      have q : (i : Int) < (out.length : Int) := by omega
      have w1 : IntKind.i64.wrap ((i : Int) + 1) = ((i + 1 : Nat) : Int) := zaz (by omega) (by omega)
      have hT' : isT L (t : Int) = true := zbf.2 ⟨by omega, by omega⟩
      have hnode : zfg L (t : Int) = n := by
        unfold zfg
        rw [hT', if_pos rfl, show ((t : Int) - 1).toNat = t - 1 by omega, hn]; rfl
      have e10 := Go.AM.c10 hs.st (by omega) (t : Int)
      rw [hnode, hT', if_pos rfl] at e10
      unfold zcg
      simp only [qg0, qg1]
      rw [lT q, x1, x2, zag e10, x01, spl7, zjo, za0, zac]
      by_cases h4 : n.op = 4
      · rw [decide_eq_true h4, za1, ncell6, zlv, bvv, a h4, za5, w1]
      · obtain ⟨rfl, rfl⟩ := b h4
        rw [decide_eq_false h4, zaK, za5, w1]) out.length 0 H1 (.slice none 0 0) (by omega) ((Own.nil H1).addNil 3)
    have l1 : zat (zcg RR (.pointer (some ⟨p, 0, none⟩)) v1 (.int .i64 (out.length : Int))) [.slice none 0 0, .int .i64 0] H1 = _ := l1
    rw [l1, zap, zbg, zaJ] at hr
    exact ⟨H2, v2, hr, (zgk.of l2).behind o1.next o1.old⟩
end
end Go.AM.N14
namespace Go.AM.N14
open Go Go.AM
theorem c_plus {a b : Nat} (ha : a < 18446744073709551616) (hb : b < 18446744073709551616) (H : Hp) : RR F.a59 [.int .u64 (a : Int), .int .u64 (b : Int)] H = some (.int .u64 ((satU (a + b) : Nat) : Int), H) := by
  have hr := zmi E0 rfl (.int .u64 (a : Int)) (.int .u64 (b : Int)) H
  unfold zig at hr
  rw [satU_eq]
  by_cases h : a + b ≤ 18446744073709551615
  · have e : IntKind.u64.wrap ((a : Int) + (b : Int)) = ((a + b : Nat) : Int) := by rw [Go.AM.zhh (by omega) (by omega)]; omega
    rw [za5, e, lF (by omega), za5, e] at hr
    rw [if_pos h]; exact hr
  · have e : IntKind.u64.wrap ((a : Int) + (b : Int)) = ((a + b - 18446744073709551616 : Nat) : Int) := by
      have := Go.AM.u64mod (a := a + b) (by omega) (by omega)
      rw [← this]; congr 1
    rw [za5, e, lT (by omega)] at hr
    rw [if_neg h]; exact hr
theorem zmd (n : Nat) : satU n < 18446744073709551616 := by unfold satU; omega
theorem siz_bd {L : List Nd} (hd : Dag L) : ∀ t, t ≤ L.length → (sizT L t).1 < 18446744073709551616 ∧ (sizT L t).2 ≤ t := by
  intro t
  induction t using Nat.strongRecOn with
  | _ t ih =>
    intro ht
    by_cases h0 : t = 0
    · subst h0
      exact ⟨by show (0 : Nat) < _; decide, Nat.le_refl _⟩
    · have hn : L[t - 1]? = some (L[t - 1]'(by omega)) := List.getElem?_eq_getElem (by omega)
      generalize L[t - 1]'(by omega) = n at hn
      have ha := hd.a _ n hn
      have hb := hd.b _ n hn
      have hc := hd.c _ n hn
      have a2 := ih n.a.toNat (by omega) (by omega)
      have b2 := ih n.b.toNat (by omega) (by omega)
      have c2 := ih n.c.toNat (by omega) (by omega)
      unfold sizT at a2 b2 c2 ⊢
      rw [zjJ hd sizF (0, 0) (by omega) hn]
      refine ⟨zmd _, ?_⟩
      show max (max _ _) _ + 1 ≤ t
      omega
theorem zhF {B H : Hp} {m1 m2 : Nat} {N D : Int → Int} (h : VS B H m1 m2 N D) {t : Nat} {a b c : Int} {j : Nat} {x : Int} (hx : [a, b, c][j]? = some x) (hxt : x ≠ (t : Int)) {n d nx dx : Nat} (hn : N (t : Int) = (n : Int)) (hd : D (t : Int) = (d : Int))
    (hx0 : x = 0 → nx = 0 ∧ dx = 0) (hx1 : x ≠ 0 → N x = (nx : Int) ∧ D x = (dx : Int)) (bn : n < 18446744073709551616) (bnx : nx < 18446744073709551616) :
    ∃ H' N' D', zbp RR (.map (some m1)) (.map (some m2)) (.int .i64 (t : Int)) (.agg #[.int .i64 a, .int .i64 b, .int .i64 c]) [.int .i64 (j : Int)] H = some (.next, [.int .i64 ((j + 1 : Nat) : Int)], H') ∧ VS B H' m1 m2 N' D' ∧ N' (t : Int) = ((satU (n + nx) : Nat) : Int) ∧ D' (t : Int) = ((max d dx : Nat) : Int) ∧ ∀ y, y ≠ (t : Int) → N' y = N y ∧ D' y = D y := by
  have hj : j < 3 := (List.getElem?_eq_some_iff.1 hx).1
  have q : (j : Int) < 3 := by omega
  have w1 : IntKind.i64.wrap ((j : Int) + 1) = ((j + 1 : Nat) : Int) := zaz (by omega) (by omega)
  by_cases h0 : x = 0
  · obtain ⟨rfl, rfl⟩ := hx0 h0
    refine ⟨H, N, D, ?_, h, ?_, ?_, fun y _ => ⟨rfl, rfl⟩⟩
    · unfold zbp
      simp only [qg0]
      rw [lT q, arr3 hx, zbo, bF (fun q => q h0), za5, w1]
    · rw [hn]; unfold satU; omega
    · rw [hd]; omega
  · obtain ⟨e1, e2⟩ := hx1 h0
    obtain ⟨H1, u1, h1⟩ := h.up1 (t : Int) ((satU (n + nx) : Nat) : Int)
    obtain ⟨H2, u2, h2⟩ := h1.up2 (t : Int) ((max d dx : Nat) : Int)
    have hmx : (if ((dx : Nat) : Int) > ((d : Nat) : Int) then ((dx : Nat) : Int) else ((d : Nat) : Int)) = ((max d dx : Nat) : Int) := by split <;> omega
    refine ⟨H2, _, _, ?_, h2, by rw [if_pos rfl], by rw [if_pos rfl], fun y hy => ⟨by rw [if_neg hy], by rw [if_neg hy]⟩⟩
    have lv : ∀ (x : Int) (f : Value → Option Outc), zbs PP T.int (.int .u64 0) (.map (some m1)) (.int .i64 x) false H f = f (.int .u64 (N x)) := fun x f => h.f1.look ikV x f
    have lw : ∀ (x : Int) (f : Value → Option Outc), zbs PP T.int (.int .i64 0) (.map (some m2)) (.int .i64 x) false H1 f = f (.int .i64 (D x)) := fun x f => h1.f2.look ikV x f
    unfold zbp
    simp only [qg0]
    rw [lT q, arr3 hx, zbo, bT h0, lv, lv, hn, e1, zag (c_plus bn bnx H), u1, lw, lw, hd, e2, mm_i64, hmx, u2, za5, w1]
section
variable {B : Hp} {p f g : Nat} {lim : Int} {L : List Nd} {K : List (ByteArray × Int)} {sl : Value} (hst : StF B p lim L K sl f g) (hL : (L.length : Int) ≤ 4611686018427387904) (hd : Dag L)
  {v : Value} {out : List Nat} (hv : Rdb B 1 v out.length (ints out)) (hol : out.length ≤ 2 ^ 41) (hcl : zc0 L out) (hnd : out.Nodup) (hbd : ∀ t ∈ out, 1 ≤ t ∧ t ≤ L.length) {m1 m2 : Nat}
include hst hL hd hv hol hcl hbd hnd
theorem size_step {i t : Nat} (hi : out[i]? = some t) {H : Hp} {N D : Int → Int} (h : VS B H m1 m2 N D) (h0 : D (t : Int) = 0) (hin : ∀ u ∈ out.take i, N (u : Int) = (((sizT L u).1 : Nat) : Int) ∧ D (u : Int) = (((sizT L u).2 : Nat) : Int)) :
    ∃ H' N' D', zbI RR (.pointer (some ⟨p, 0, none⟩)) v (.map (some m1)) (.map (some m2)) (.int .i64 (out.length : Int)) [.int .i64 (i : Int)] H = some (.next, [.int .i64 ((i + 1 : Nat) : Int)], H') ∧ VS B H' m1 m2 N' D' ∧ N' (t : Int) = (((sizT L t).1 : Nat) : Int) ∧ D' (t : Int) = (((sizT L t).2 : Nat) : Int) ∧ ∀ y, y ≠ (t : Int) → N' y = N y ∧ D' y = D y := by
  have hlt : i < out.length := (List.getElem?_eq_some_iff.1 hi).1
  have ht := hbd t (List.mem_of_getElem? hi)
  have hn : L[t - 1]? = some (L[t - 1]'(by omega)) := List.getElem?_eq_getElem (by omega)
  generalize L[t - 1]'(by omega) = n at hn
  have hvH : Rdb H 1 v out.length (ints out) := hv.keep' (fun j hj => h.old j (hv.lt hj)) h.next
  have hvI : Rdb H 1 v (out.map fun (t : Nat) => (t : Int)).length (zc4 (out.map fun (t : Nat) => (t : Int))) := by rw [List.length_map, ← zbD]; exact hvH
  obtain ⟨y, x1, x2⟩ := hvI.int (i := i) (t := (t : Int)) (by rw [List.getElem?_map, hi]; rfl)
  have q : (i : Int) < (out.length : Int) := by omega
  have w1 : IntKind.i64.wrap ((i : Int) + 1) = ((i + 1 : Nat) : Int) := zaz (by omega) (by omega)
  have hstH : StF H p lim L K sl f g := hst.keep (fun i hi => h.old i (hst.foot_lt hi)) h.next
  have hT : isT L (t : Int) = true := zbf.2 ⟨by omega, by omega⟩
  have hnode : zfg L (t : Int) = n := by
    unfold zfg
    rw [hT, if_pos rfl, show ((t : Int) - 1).toNat = t - 1 by omega, hn]; rfl
  have e10 := Go.AM.c10 hstH.st hL (t : Int)
  rw [hnode, hT, if_pos rfl] at e10
  have hkf := (zgE hd hn).2
  have hkt : kids L t = zb2 n := by unfold kids; rw [hn]
  have ha := hd.a _ n hn
  have hb := hd.b _ n hn
  have hc := hd.c _ n hn
  obtain ⟨H1, u1, h1⟩ := h.up1 (t : Int) 1
  have part : ∀ (x : Int), x = n.a ∨ x = n.b ∨ x = n.c → 0 ≤ x → x < (t : Int) → (x = 0 → (sizT L x.toNat).1 = 0 ∧ (sizT L x.toNat).2 = 0) ∧ (x ≠ 0 → N x = (((sizT L x.toNat).1 : Nat) : Int) ∧ D x = (((sizT L x.toNat).2 : Nat) : Int)) := fun x hx g1 g2 => by
    refine ⟨fun e => by subst e; exact ⟨rfl, rfl⟩, fun e => ?_⟩
    obtain ⟨c, c1, c2⟩ := hkf x hx e
    have := hin c (hcl i t hi c (by rw [hkt]; exact c1))
    rw [← c2, Int.toNat_natCast]
    exact this
  obtain ⟨pa0, pa1⟩ := part n.a (.inl rfl) (by omega) (by omega)
  obtain ⟨pb0, pb1⟩ := part n.b (.inr (.inl rfl)) (by omega) (by omega)
  obtain ⟨pc0, pc1⟩ := part n.c (.inr (.inr rfl)) (by omega) (by omega)
  have ba := siz_bd hd n.a.toNat (by omega)
  have bb := siz_bd hd n.b.toNat (by omega)
  have bc := siz_bd hd n.c.toNat (by omega)
  obtain ⟨H2, N2, D2, s2, h2, n2, d2, o2⟩ := zhF h1 (t := t) (a := n.a) (b := n.b) (c := n.c) (j := 0) (x := n.a) rfl (by omega) (n := 1) (d := 0) (nx := (sizT L n.a.toNat).1) (dx := (sizT L n.a.toNat).2) (by rw [if_pos rfl]; rfl) h0 pa0 (fun e => by rw [if_neg (by omega)]; exact pa1 e) (by decide) ba.1
  obtain ⟨H3, N3, D3, s3, h3, n3, d3, o3⟩ := zhF h2 (t := t) (a := n.a) (b := n.b) (c := n.c) (j := 1) (x := n.b) rfl (by omega) (nx := (sizT L n.b.toNat).1) (dx := (sizT L n.b.toNat).2) n2 d2 pb0 (fun e => by rw [(o2 n.b (by omega)).1, (o2 n.b (by omega)).2, if_neg (by omega)]; exact pb1 e) (zmd _) bb.1
  obtain ⟨H4, N4, D4, s4, h4, n4, d4, o4⟩ := zhF h3 (t := t) (a := n.a) (b := n.b) (c := n.c) (j := 2) (x := n.c) rfl (by omega) (nx := (sizT L n.c.toNat).1) (dx := (sizT L n.c.toNat).2) n3 d3 pc0 (fun e => by rw [(o3 n.c (by omega)).1, (o3 n.c (by omega)).2, (o2 n.c (by omega)).1, (o2 n.c (by omega)).2, if_neg (by omega)]; exact pc1 e) (zmd _) bc.1
  have hinner : zat (zbp RR (.map (some m1)) (.map (some m2)) (.int .i64 (t : Int)) (.agg #[.int .i64 n.a, .int .i64 n.b, .int .i64 n.c])) [.int .i64 0] H1 = some (.exit 2, [.int .i64 3], H4) := by
    rw [zak]
    have s2 : zbp RR (.map (some m1)) (.map (some m2)) (.int .i64 (t : Int)) (.agg #[.int .i64 n.a, .int .i64 n.b, .int .i64 n.c]) [.int .i64 0] H1 = _ := s2
    rw [s2]
    show zat _ _ _ = _
    rw [zak, s3]
    show zat _ _ _ = _
    rw [zak, s4]
    show zat _ [.int .i64 3] _ = _
    rw [zak]
    have : zbp RR (.map (some m1)) (.map (some m2)) (.int .i64 (t : Int)) (.agg #[.int .i64 n.a, .int .i64 n.b, .int .i64 n.c]) [.int .i64 3] H4 = some (.exit 2, [.int .i64 3], H4) := by
      unfold zbp
      simp only [qg0]
      rw [lF (by decide)]
    rw [this]; rfl
  obtain ⟨H5, u5, h5⟩ := h4.up2 (t : Int) (((sizT L t).2 : Nat) : Int)
  have esz : sizT L t = sizF n (sizT L n.a.toNat) (sizT L n.b.toNat) (sizT L n.c.toNat) := zjJ hd sizF (0, 0) ht.1 hn
  have ld : ∀ (f : Value → Option Outc), zbs PP T.int (.int .i64 0) (.map (some m2)) (.int .i64 (t : Int)) false H4 f = f (.int .i64 (D4 (t : Int))) := fun f => h4.f2.look ikV _ f
  have wd1 : IntKind.i64.wrap (((max (max (max 0 (sizT L n.a.toNat).2) (sizT L n.b.toNat).2) (sizT L n.c.toNat).2 : Nat) : Int) + 1) = (((sizT L t).2 : Nat) : Int) := by
    rw [zaz (by omega) (by omega), esz]
    show _ = ((max (max _ _) _ + 1 : Nat) : Int)
    omega
  refine ⟨H5, _, _, ?_, h5, ?_, by rw [if_pos rfl], fun y hy => ?_⟩
  · unfold zbI
    simp only [qg0]
    rw [lT q, x1, x2, zag e10, x01, spl7, u1, zlu, zlt, znL, zhj, hinner, zap, zbg, zaJ, ld, d4, za5, wd1, u5, za5, w1]
  · rw [n4, esz]; rfl
  · rw [if_neg hy]
    refine ⟨?_, ?_⟩
    · rw [(o4 y hy).1, (o3 y hy).1, (o2 y hy).1, if_neg hy]
    · rw [(o4 y hy).2, (o3 y hy).2, (o2 y hy).2]
theorem zkR : ∀ (k i : Nat) (H : Hp) (N D : Int → Int), i + k = out.length → VS B H m1 m2 N D → (∀ x : Int, (∀ t ∈ out.take i, (t : Int) ≠ x) → D x = 0) → (∀ u ∈ out.take i, N (u : Int) = (((sizT L u).1 : Nat) : Int) ∧ D (u : Int) = (((sizT L u).2 : Nat) : Int)) →
    ∃ H' N' D', zat (zbI RR (.pointer (some ⟨p, 0, none⟩)) v (.map (some m1)) (.map (some m2)) (.int .i64 (out.length : Int))) [.int .i64 (i : Int)] H = some (.exit 0, [.int .i64 (out.length : Int)], H') ∧ VS B H' m1 m2 N' D' ∧ ∀ u ∈ out, N' (u : Int) = (((sizT L u).1 : Nat) : Int) ∧ D' (u : Int) = (((sizT L u).2 : Nat) : Int)
  | 0, i, H, N, D, hk, h, _, hin => by
    have : i = out.length := by omega
    subst this
    refine ⟨H, N, D, ?_, h, fun u hu => hin u (by rw [List.take_length]; exact hu)⟩
    rw [zak]
    have : zbI RR (.pointer (some ⟨p, 0, none⟩)) v (.map (some m1)) (.map (some m2)) (.int .i64 (out.length : Int)) [.int .i64 (out.length : Int)] H = some (.exit 0, [.int .i64 (out.length : Int)], H) := by
      unfold zbI
      simp only [qg0]
      rw [lF (Int.lt_irrefl _)]
    rw [this]; rfl
  | k + 1, i, H, N, D, hk, h, h0, hin => by
    have hlt : i < out.length := by omega
    have hi : out[i]? = some out[i] := List.getElem?_eq_getElem hlt
    have hdrop : out.drop i = out[i] :: out.drop (i + 1) := List.drop_eq_getElem_cons hlt
    generalize out[i] = t at hi hdrop
    have htk : out.take (i + 1) = out.take i ++ [t] := by rw [List.take_add_one, hi]; rfl
    have hnew : ∀ u ∈ out.take i, (u : Int) ≠ (t : Int) := fun u hu e => by
      have e : u = t := by omega
      subst e
      have := hnd
      rw [← List.take_append_drop i out, hdrop] at this
      exact (List.nodup_append.1 this).2.2 u hu u (List.mem_cons_self ..) rfl
    obtain ⟨H1, N1, D1, e1, h1, n1, d1, o1⟩ := size_step hst hL hd hv hol hcl hnd hbd hi h (h0 _ hnew) hin
    obtain ⟨H', N', D', g1, g2, g3⟩ := zkR k (i + 1) H1 N1 D1 (by omega) h1 (fun x hx => by
      rw [htk] at hx
      rw [(o1 x fun e => hx t (List.mem_append_right _ (List.mem_singleton.2 rfl)) e.symm).2]
      exact h0 x fun u hu => hx u (List.mem_append_left _ hu)) (fun u hu => by
      rw [htk] at hu
      rcases List.mem_append.1 hu with hu | hu
      · rw [(o1 _ (hnew u hu)).1, (o1 _ (hnew u hu)).2]
        exact hin u hu
      · rw [List.mem_singleton] at hu
        subst hu
        exact ⟨n1, d1⟩)
    refine ⟨H', N', D', ?_, g2, g3⟩
    rw [zak, e1]; exact g1
end
def sizeI (L : List Nd) (t : Int) : Nat × (Nat × Nat) × Int := if isT L t = true then ((posts L [t.toNat] []).length, sizT L t.toNat, 0) else (0, (0, 0), 70)
def sizeV (s : Nat × (Nat × Nat) × Int) : Value := .tuple #[.int .i64 (s.1 : Int), .int .u64 (s.2.1.1 : Int), .int .i64 (s.2.1.2 : Int), .int .i64 s.2.2]
theorem one_order {L : List Nd} {t : Int} : zdx L [t] = if isT L t = true then (0, posts L [t.toNat] []) else (70, []) := by
  unfold zdx
  rw [List.all_cons, List.all_nil, Bool.and_true]; rfl
section
variable {H0 : Hp} {p f g : Nat} {lim : Int} {L : List Nd} {K : List (ByteArray × Int)} {sl : Value} (hst : StF H0 p lim L K sl f g) (hd : Dag L) (hL : L.length * 64 ≤ 2 ^ 46) (t : Int)
include hst hd hL
theorem c_size : ∃ H', RR F.a21 [.pointer (some ⟨p, 0, none⟩), .int .i64 t] H0 = some (sizeV (sizeI L t), H') ∧ Frm (fun _ => False) H0 H' := by
  have hr := (zml E0 rfl (.pointer (some ⟨p, 0, none⟩)) (.int .i64 t) H0).trans (zmR _ _ _ _)
  have hb : ∀ (k : Value → Hp → Option (Value × Hp)), zaj 1 [.int .i64 0] 1 [(0, .int .i64 t)] H0 k = k (.slice (some ⟨H0.next, 0, some 1⟩) 1 1) (H0.new (.cells [.int .i64 t] true)) := fun k => rfl
  let H1 := H0.new (.cells [.int .i64 t] true)
  have h1o : ∀ j, j < H0.next → H1.get j = H0.get j := fun j hj => by show (H0.new _).get j = _; rw [get_new, if_neg (by omega)]
  have h1n : H1.next = H0.next + 1 := rfl
  have hst1 : StF H1 p lim L K sl f g := hst.keep (fun i hi => h1o i (hst.foot_lt hi)) (by omega)
  have hx1 : Rdb H1 1 (.slice (some ⟨H0.next, 0, some 1⟩) 1 1) [t].length (zc4 [t]) := .inr ⟨H0.next, 1, [], true, rfl, Nat.le_refl _, by show (H0.new _).get _ = _; rw [get_new, if_pos rfl]; rfl, rfl, by omega⟩
  obtain ⟨H2, v2, e2, o2⟩ := Go.AM.c13 hst1 hd hL hx1.o (by show 1 ≤ _; decide)
  have hn2 := o2.next
  have o02 : ∀ j, j < H0.next → H2.get j = H0.get j := fun j hj => by rw [o2.old j (by omega), h1o j hj]
  rw [znm T.p_term_Store _ ⟨T.term_Store, by kernel_rfl⟩, zac, zaK, hb, zag e2, x01, zbo, zac] at hr
  have hbd := znF hst1 hd hL hx1.o (by show 1 ≤ _; decide)
  have hbl := zll hd [t]
  unfold sizeI
  rw [one_order] at o2 hr hbd hbl
  rw [List.all_cons, List.all_nil, Bool.and_true] at hbd
  cases hT : isT L t with
  | false =>
    rw [hT, if_neg (by decide)] at o2 hr
    rw [decide_eq_true (show ¬ ((70, ([] : List Nat)) : Int × List Nat).1 = 0 by decide), za1] at hr
    rw [if_neg (by decide)]
    exact ⟨H2, hr, by omega, fun j hj _ => o02 j hj⟩
  | true =>
    have hbd := hbd hT
    rw [hT, if_pos rfl] at o2 hr hbd hbl
    rw [if_pos rfl]
    have o2 : OrdOk H1 H2 v2 (posts L [t.toNat] []) := o2
    dsimp only at hbd hbl
    have htb := zbf.1 hT
    have h1 : ∀ c ∈ [t.toNat], 1 ≤ c ∧ c ≤ L.length := fun c hc => by rw [List.mem_singleton] at hc; omega
    have hndp : (posts L [t.toNat] []).Nodup := zfY hd _ [] (fun c hc => (h1 c hc).1) List.nodup_nil
    have hcl : zc0 L (posts L [t.toNat] []) := (zeX hd _ [] (fun c hc => (h1 c hc).1) (fun i t h => by cases h)).1
    have hmem := (zcG hd (N := L.length) [t.toNat] [] h1).2.1 t.toNat (List.mem_singleton.2 rfl)
    rw [decide_eq_false (show ¬ ¬ ((0, posts L [t.toNat] []) : Int × List Nat).1 = 0 by simp), zaK] at hr
    generalize posts L [t.toNat] [] = out at *
    have hh : ∀ (n : Int) (f : Option (Value × Hp)), zgA (.int .i64 n) f = f := fun n f => rfl
    have hm : ∀ (H : Hp) (f : Value → Hp → Option (Value × Hp)), zb7 H f = f (.map (some H.next)) (H.new (.map [])) := fun H f => rfl
    let Hu := H2.new (.map [])
    let Hv := Hu.new (.map [])
    have hvs : VS H2 Hv H2.next Hu.next (fun _ => 0) (fun _ => 0) := by
      refine ⟨?_, fun j hj => ?_, ?_, ?_, ?_, ?_, ?_, ?_⟩
      · show H2.next ≤ H2.next + 1 + 1; omega
      · show ((H2.new (.map [])).new (.map [])).get j = _
        rw [get_new, if_neg (by show j ≠ H2.next + 1; omega), get_new, if_neg (by omega)]
      · exact Nat.le_refl _
      · show H2.next ≤ H2.next + 1; omega
      · show H2.next ≠ H2.next + 1; omega
      · show H2.next < H2.next + 1 + 1; omega
      · exact (MapU.new H2).keep (by show (Hu.new (.map [])).get H2.next = Hu.get H2.next; rw [get_new, if_neg (by show H2.next ≠ H2.next + 1; omega)])
      · exact MapF.new Hu
    have hst2 : StF H2 p lim L K sl f g := hst.keep (fun i hi => o02 i (hst.foot_lt hi)) (by omega)
    obtain ⟨H3, N', D', l1, h3, l3⟩ := zkR hst2 (by omega) hd o2.vec.rd (by omega) hcl hndp hbd out.length 0 Hv (fun _ => 0) (fun _ => 0) (by omega) hvs (fun _ _ => rfl) (fun t ht => by rw [List.take_zero] at ht; cases ht)
    have l1 : zat (zbI RR (.pointer (some ⟨p, 0, none⟩)) v2 (.map (some H2.next)) (.map (some (H2.new (.map [])).next)) (.int .i64 (out.length : Int))) [.int .i64 0] ((H2.new (.map [])).new (.map [])) = _ := l1
    have lv : ∀ (x : Int) (f : Value → Option (Value × Hp)), zbs PP T.int (.int .u64 0) (.map (some H2.next)) (.int .i64 x) false H3 f = f (.int .u64 (N' x)) := fun x f => h3.f1.look ikV x f
    have lw : ∀ (x : Int) (f : Value → Option (Value × Hp)), zbs PP T.int (.int .i64 0) (.map (some (H2.new (.map [])).next)) (.int .i64 x) false H3 f = f (.int .i64 (D' x)) := fun x f => h3.f2.look ikV x f
    rw [o2.vec.len, hh, hm, o2.vec.len, hh, hm, o2.vec.len, l1, zap, zbg, zaJ, o2.vec.len, lv, lw] at hr
    obtain ⟨r1, r2⟩ := l3 t.toNat hmem
    rw [Int.toNat_of_nonneg (by omega)] at r1 r2
    rw [r1, r2] at hr
    have := h3.next
    exact ⟨H3, hr, by omega, fun j hj _ => by rw [h3.old j (by omega), o02 j hj]⟩
end
end Go.AM.N14
namespace Go.AM
open Go
def liveT : List UInt8 := [49, 32, 118, 97, 114, 32, 120, 32, 56, 10, 50, 32, 118, 97, 114, 32, 121, 32, 56, 10, 51, 32, 97, 100, 100, 32, 49, 32, 50, 10, 52, 32, 101, 113, 32, 51, 32, 49, 10, 114, 111, 111, 116, 115, 32, 51, 32, 52, 10]
def nmX : ByteArray := ⟨#[120]⟩
def nmY : ByteArray := ⟨#[121]⟩
def zoH : List Nd := [⟨4, 8, 0, 0, 0, 0, nmX⟩, ⟨4, 8, 0, 0, 0, 0, nmY⟩, ⟨20, 8, 1, 2, 0, 0, ⟨#[]⟩⟩, ⟨9, 0, 3, 1, 0, 0, ⟨#[]⟩⟩]
def liveK : List (ByteArray × Int) := [(nmX, 8), (nmY, 8)]
theorem zlA : zfz 0 (zcK liveT) 0 [] [] [] = .good zoH liveK [3, 4] := by kernel_rfl
end Go.AM
namespace Go.AM.N14
open Go Go.AM
theorem nodeP_num {ws : List (List UInt8)} {ts : List Int} {L : List Nd} {m : Nd} (h : zoE ws ts L = some m) : zi0 m := by
  unfold zoE at h
  split at h
  · cases h
  · split at h
    · cases h
    · split at h
      · rename_i q
        cases h
        exact (zhP _ _ _ _ _ _ _ q).2 ⟨Int.le_refl _, by show (0 : Int) < _; decide⟩
      · cases h
theorem partF_mem {ts : List Int} {ws : List (List UInt8)} {x : Int} (h : zki ts ws = some x) : x ∈ ts := by
  unfold zki at h
  split at h
  · cases h
  · split at h
    · rename_i q
      cases h
      rw [List.getD_eq_getElem?_getD, List.getElem?_eq_getElem (by omega)]
      exact List.getElem_mem _
    · cases h
theorem zjb {ts : List Int} : ∀ (ws : List (List UInt8)) (q : List Int), zdt ts ws = some q → ∀ x ∈ q, x ∈ ts
  | [], q, h => by cases h; exact fun x hx => by cases hx
  | w :: r, q, h => by
    unfold zdt at h
    split at h
    · cases h
    · rename_i t ht
      split at h
      · cases h
      · rename_i l hl
        cases h
        intro x hx
        rcases List.mem_cons.1 hx with e | e
        · rw [e]; exact partF_mem ht
        · exact zjb r l hl x e
theorem mk_grow {lim : Int} {L : List Nd} {K : List (ByteArray × Int)} (n : Nd) : L.length ≤ (mkR lim L K n).2.2.1.length := by
  by_cases h0 : (mkR lim L K n).2.1 = 0
  · obtain ⟨_, ⟨q, _, e⟩ | ⟨_, _, e⟩⟩ := zjt h0 <;> rw [e] <;> simp
  · rw [mk_no h0]; exact Nat.le_refl _
theorem zjB {lim : Int} : ∀ (lines : List (List UInt8)) (k : Nat) (L : List Nd) (K : List (ByteArray × Int)) (ts : List Int) (L' : List Nd) (K' : List (ByteArray × Int)) (q : List Int), zev L K → (∀ x ∈ ts, 1 ≤ x ∧ x ≤ L.length) → zfz lim lines k L K ts = .good L' K' q → zev L' K' ∧ ∀ x ∈ q, 1 ≤ x ∧ x ≤ L'.length
  | [], k, L, K, ts, L', K', q, hg, ht, h => by cases h
  | l :: rest, k, L, K, ts, L', K', q, hg, ht, h => by
    unfold zfz at h
    cases hw : zbB l with
    | nil => rw [hw] at h; cases h
    | cons w0 r =>
      rw [hw] at h
      dsimp only at h
      split at h
      · cases hp : zdt ts r with
        | none => rw [hp] at h; cases h
        | some q' =>
          rw [hp] at h
          cases rest with
          | nil =>
            cases h
            exact ⟨hg, fun x hx => ht x (zjb r _ hp x hx)⟩
          | cons a b => cases h
      · cases hp : zmM (w0 :: r) ts L with
        | none => rw [hp] at h; cases h
        | some m =>
          rw [hp] at h
          dsimp only at h
          split at h
          · cases h
          · rename_i he
            have he : (mkR lim L K m).2.1 = 0 := Decidable.not_not.1 he
            have hm : zi0 m := by
              unfold zmM at hp
              split at hp
              · cases hp
              · split at hp
                · exact nodeP_num hp
                · cases hp
            refine zjB rest (k + 1) _ _ _ L' K' q (mk_goodS hm hg) (fun x hx => ?_) h
            have hgr := mk_grow (lim := lim) (L := L) (K := K) m
            rcases List.mem_append.1 hx with hx | hx
            · have := ht x hx; omega
            · rw [List.mem_singleton] at hx
              rw [hx]
              exact mk_bd he
theorem zlz {lim : Int} {l : List UInt8} {L : List Nd} {K : List (ByteArray × Int)} {q : List Int} (h : zfz lim (zcK l) 0 [] [] [] = .good L K q) : zev L K ∧ ∀ x ∈ q, 1 ≤ x ∧ x ≤ L.length :=
  zjB _ _ _ _ _ _ _ _ zev.nil (fun x hx => by cases hx) h
theorem load_bd {l : List UInt8} {L : List Nd} {K : List (ByteArray × Int)} {q : List Int} (h : zfz 0 (zcK l) 0 [] [] [] = .good L K q) : L.length ≤ l.length + 1 ∧ q.length ≤ l.length + 1 := by
  have hbd := znN (N := l.length) _ _ _ _ _ _ _ _ (znP l) h
  have := zks l
  have h1 := hbd.1
  rw [List.length_nil] at h1
  exact ⟨by omega, hbd.2⟩
theorem c_no (x : Value) (H : Hp) : RR F.a5 [x] H = some (x, H) := zgw E0 rfl x H
theorem Rdb.at1 {H : Hp} {x : Value} {n : Nat} {cs : List Value} (hx : Rdb H 1 x n cs) {i : Nat} {z : Value} (hi : cs[i]? = some z) :
    ∃ y, (∀ (α : Type) (kd : IntKind) (k : Value → Option α), pIdx 1 x (.int kd (i : Int)) k = k (.pointer (some ⟨y, i * 1, none⟩))) ∧ (∀ (α : Type) (k : Value → Option α), zal 1 false H (.pointer (some ⟨y, i * 1, none⟩)) k = k z) := by
  have hs := hx.size
  obtain ⟨y, hy, ⟨rest, own, hg⟩, hix⟩ := hx.ix (i := i) (by have := (List.getElem?_eq_some_iff.1 hi).1; omega)
  exact ⟨y, hix, fun α k => zfA hg (by rw [Nat.mul_one]; exact hi) k⟩
theorem wvs_get {l : List W64} {i : Nat} {a : W64} (h : l[i]? = some a) : (wvs l)[i]? = some (.int .u64 (a.toNat : Int)) := by unfold wvs; rw [List.getElem?_map, h]; rfl
theorem zm1 {H : Hp} {x y : Value} {l : List W64} (hx : Rdb H 1 x l.length (wvs l)) (hy : Rdb H 1 y l.length (wvs l)) (hl : l.length ≤ 2 ^ 60) : RR F.a20 [x, y] H = some (.bool true, H) := by
  have hr := (zdX E0 rfl x y H).trans (zd6 _ _ _ _)
  refine hr.trans ?_
  have hloop := zjA (S := zba RR x y) (H := H) l.length (fun i hi => by
      have hg : (wvs l)[i]? = some (.int .u64 (l[i].toNat : Int)) := wvs_get (List.getElem?_eq_getElem hi)
      obtain ⟨a, a1, a2⟩ := Rdb.at1 hx hg
      obtain ⟨b, b1, b2⟩ := Rdb.at1 hy hg
      have w : IntKind.i64.wrap ((i : Int) + 1) = ((i + 1 : Nat) : Int) := zaz (by omega) (by omega)
      have q : (i : Int) < (l.length : Int) := by omega
      unfold zba
      simp only [hx.len, zbc, qg0, q, decide_true, zac, za1, a1, a2, b1, b2, zbo, ne_eq, not_true_eq_false, decide_false, zaK, za5, w])
    (by unfold zba; simp only [hx.len, zbc, qg0, Int.lt_irrefl, decide_false, zac, zaK]) l.length 0 (by omega)
  rw [hx.len, hy.len, zbo, bF (by simp), show (0 : Int) = ((0 : Nat) : Int) from rfl, hloop, zap, zbg, zaJ]
def zkr : List VV := [⟨nmX, 8, 200⟩, ⟨nmY, 8, 100⟩]
def zf8 : List VV := [⟨nmX, 4, 1⟩]
theorem live_vals : zbT zoH [3, 4] zkr = (0, [44#64, 0#64]) := by kernel_rfl
theorem live_val1 : zbT zoH [3] zf8 = (71, []) := by kernel_rfl
theorem live_size : sizeI zoH 4 = (4, (5, 3), 0) := by kernel_rfl
theorem znO : (∀ v ∈ zkr, v.Ok) ∧ ∀ v ∈ zf8, v.Ok := by
  refine ⟨fun v hv => ?_, fun v hv => ?_⟩
  · simp only [zkr, List.mem_cons, List.not_mem_nil, or_false] at hv
    rcases hv with rfl | rfl
    · exact ⟨by show (0 : Int) ≤ 200; decide, by show (200 : Int) < _; decide⟩
    · exact ⟨by show (0 : Int) ≤ 100; decide, by show (100 : Int) < _; decide⟩
  · simp only [zf8, List.mem_cons, List.not_mem_nil, or_false] at hv
    subst hv
    exact ⟨by show (0 : Int) ≤ 1; decide, by show (1 : Int) < _; decide⟩
theorem zmD {H : Hp} {sz n : Nat} {cs : List Value} (h : cs.length = n * sz) : Rdb (H.new (.cells cs true)) sz (.slice (some ⟨H.next, 0, some sz⟩) n n) n cs :=
  .inr ⟨H.next, n, [], true, rfl, Nat.le_refl _, by rw [get_new, if_pos rfl, List.append_nil], h, by show H.next < H.next + 1; omega⟩
theorem s_and {α : Type} (k : Value → Option α) : pBin PP .add T.int (.int .i64 0) (.int .i64 0) k = k (.int .i64 0) := rfl
theorem c_live {H : Hp} (hL : Laid H) : ∃ H', RR F.a57 [] H = some (.bool true, H') ∧ Frm (fun _ => False) H H' := by
  have hr := zfv E0 rfl H
  unfold zdn at hr
  have hc := c_load hL liveT (by decide) (lim := 0) (by decide)
  rw [zlA] at hc
  have hgood := zlz zlA
  obtain ⟨H1, st, f, g, sl, rv, a1, a2, a3, a4, a5, a6, a7⟩ := hc
  have a1 : RR F.a17 [.string ⟨#[49, 32, 118, 97, 114, 32, 120, 32, 56, 10, 50, 32, 118, 97, 114, 32, 121, 32, 56, 10, 51, 32, 97, 100, 100, 32, 49, 32, 50, 10, 52, 32, 101, 113, 32, 51, 32, 49, 10, 114, 111, 111, 116, 115, 32, 51, 32, 52, 10]⟩, .int .i64 0] H = _ := a1
  have a3 : Vec H1 1 rv 2 (zc4 [3, 4]) := a3
  rw [zmf a1] at hr
  simp only [(s_t4 _ _ _ _ _).1, (s_t4 _ _ _ _ _).2.1, (s_t4 _ _ _ _ _).2.2.1, (s_t4 _ _ _ _ _).2.2.2] at hr
  rw [zag (c_no _ _), zbo, bF (by decide), znm T.p_term_Store _ ⟨T.term_Store, by kernel_rfl⟩, zac, zaK, a3.len, zbo, bF (by decide), zap, za3, bvv3, bvv3] at hr
  have hb2 : ∀ (H : Hp) (k : Value → Hp → Option (Value × Hp)), zaj 3 [.string ⟨#[]⟩, .int .i64 0, .int .u64 0] 2 [(0, VV.val ⟨⟨#[120]⟩, 8, 200⟩), (1, VV.val ⟨⟨#[121]⟩, 8, 100⟩)] H k = k (.slice (some ⟨H.next, 0, some 3⟩) 2 2) (H.new (.cells (za8 zkr) true)) := fun H k => rfl
  have hb1 : ∀ (H : Hp) (k : Value → Hp → Option (Value × Hp)), zaj 3 [.string ⟨#[]⟩, .int .i64 0, .int .u64 0] 1 [(0, VV.val ⟨⟨#[120]⟩, 4, 1⟩)] H k = k (.slice (some ⟨H.next, 0, some 3⟩) 1 1) (H.new (.cells (za8 zf8) true)) := fun H k => rfl
  have hb0 : ∀ (H : Hp) (k : Value → Hp → Option (Value × Hp)), zaj 1 [.int .u64 0] 2 [(0, (.int .u64 44)), (1, (.int .u64 0))] H k = k (.slice (some ⟨H.next, 0, some 1⟩) 2 2) (H.new (.cells (wvs [44#64, 0#64]) true)) := fun H k => rfl
  rw [hb2] at hr
  let H2 := H1.new (.cells (za8 zkr) true)
  have f12 : Frm (fun _ => False) H1 H2 := zct _ _ _
  have kst : ∀ {A B : Hp}, Frm (fun _ => False) A B → StF A st 0 zoH liveK sl f g → StF B st 0 zoH liveK sl f g := fun k h => h.keep (fun j hj => k.same j (h.foot_lt hj) fun q => q) k.next
  have krv : ∀ {A B : Hp}, Frm (fun _ => False) A B → Vec A 1 rv 2 (zc4 [3, 4]) → Vec B 1 rv 2 (zc4 [3, 4]) := fun k h => h.keep k fun _ _ q => q
  have s2 := kst f12 a2
  have r2 := krv f12 a3
  have n2 : Rdb H2 3 (.slice (some ⟨H1.next, 0, some 3⟩) 2 2) zkr.length (za8 zkr) := zmD (H := H1) (sz := 3) (n := 2) (cs := za8 zkr) rfl
  obtain ⟨H3, v3, e3, m3⟩ := zkE s2 hgood.1 (by decide) (rs := [3, 4]) r2.rd.o (by decide) n2 (by decide) znO.1
  rw [live_vals] at e3 m3
  have e3 : RR F.a10 [.pointer (some ⟨st, 0, none⟩), rv, .slice (some ⟨H1.next, 0, some 3⟩) 2 2] (H1.new (.cells (za8 zkr) true)) = _ := e3
  have f23 : Frm (fun _ => False) H2 H3 := ⟨m3.next, fun j hj _ => m3.old j hj⟩
  have s3 := kst f23 s2
  have r3 := krv f23 r2
  rw [zag e3, x01] at hr
  obtain ⟨y, y1, y2⟩ := Rdb.at1 r3.rd (i := 1) (z := .int .i64 4) rfl
  have y1' : ∀ (k : Value → Option (Value × Hp)), pIdx 1 rv (.int .i64 1) k = _ := fun k => y1 _ .i64 k
  rw [y1', y2] at hr
  obtain ⟨H4, e4, f34⟩ := c_size s3 hgood.1.dag (by decide) 4
  rw [live_size] at e4
  have s4 := kst f34 s3
  have r4 := krv f34 r3
  have e4 : RR F.a21 [.pointer (some ⟨st, 0, none⟩), .int .i64 4] H3 = some (.tuple #[.int .i64 4, .int .u64 5, .int .i64 3, .int .i64 0], H4) := e4
  rw [zag e4] at hr
  simp only [(s_t4 _ _ _ _ _).1, (s_t4 _ _ _ _ _).2.1, (s_t4 _ _ _ _ _).2.2.1, (s_t4 _ _ _ _ _).2.2.2] at hr
  obtain ⟨z, z1, z2⟩ := Rdb.at1 r4.rd (i := 0) (z := .int .i64 3) rfl
  have z1' : ∀ (k : Value → Option (Value × Hp)), pIdx 1 rv (.int .i64 0) k = _ := fun k => z1 _ .i64 k
  rw [z1', z2, bvv3, hb1] at hr
  let H5 := H4.new (.cells (za8 zf8) true)
  have f45 : Frm (fun _ => False) H4 H5 := zct _ _ _
  have s5 := kst f45 s4
  have r5 := krv f45 r4
  have n5 : Rdb H5 3 (.slice (some ⟨H4.next, 0, some 3⟩) 1 1) zf8.length (za8 zf8) := zmD (H := H4) (sz := 3) (n := 1) (cs := za8 zf8) rfl
  obtain ⟨H6, e6, n6, o6⟩ := c_value s5 hgood.1 (by decide) (rs := [3, 4]) r5.rd.o (by decide) n5 (by decide) znO.2 (t := 3)
  rw [live_val1] at e6
  have e6 : RR F.a22 [.pointer (some ⟨st, 0, none⟩), .int .i64 3, .slice (some ⟨H4.next, 0, some 3⟩) 1 1] (H4.new (.cells (za8 zf8) true)) = _ := e6
  have f56 : Frm (fun _ => False) H5 H6 := ⟨n6, fun j hj _ => o6 j hj⟩
  have t : ∀ {A B C : Hp}, Frm (fun _ => False) A B → Frm (fun _ => False) B C → Frm (fun _ => False) A C := fun a b => a.trans b fun j q => q.elim
  have f36 : Frm (fun _ => False) H3 H6 := t (t f34 f45) f56
  rw [zag e6, x01, zag (c_no _ _), zag (c_no _ _), s_and, eT rfl, hb0] at hr
  let H7 := H6.new (.cells (wvs [44#64, 0#64]) true)
  have f67 : Frm (fun _ => False) H6 H7 := zct _ _ _
  have m7 : Vec H7 1 v3 2 (wvs [44#64, 0#64]) := m3.vec.keep (t f36 f67) fun _ _ q => q
  have hsame := zm1 (l := [44#64, 0#64]) m7.rd (zmD (H := H6) (sz := 1) (n := 2) (cs := wvs [44#64, 0#64]) rfl) (by decide)
  have hsame : RR F.a20 [v3, .slice (some ⟨H6.next, 0, some 1⟩) 2 2] (H6.new (.cells (wvs [44#64, 0#64]) true)) = _ := hsame
  rw [zag hsame, zac, za1, eT rfl, eT rfl, eT rfl, zag (c_no _ _), za0, decide_eq_true rfl] at hr
  exact ⟨H7, hr, t (t (t (t a4 f12) f23) f36) f67⟩
end Go.AM.N14
namespace Go.AM.N14
open Go Go.AM
end Go.AM.N14
namespace Go.AM.N14
open Go Go.AM
def LoA (H : Hp) (l : List UInt8) : LdR → Prop
  | .bad _ _ => ∃ H', RR F.a34 [str l] H = some (.tuple #[.pointer none, .slice none 0 0, .bool false], H') ∧ Frm (fun _ => False) H H'
  | .good L K q => ∃ H' st f g sl rv, RR F.a34 [str l] H = some (.tuple #[.pointer (some ⟨st, 0, none⟩), rv, .bool true], H') ∧ Frm (fun _ => False) H H' ∧ StF H' st 0 L K sl f g ∧ Vec H' 1 rv q.length (zc4 q) ∧
      (∀ j, Foot st f g sl j → H.next ≤ j) ∧ (∀ j, Id rv j → H.next ≤ j) ∧ (∀ j, Id rv j → ¬ Foot st f g sl j)
theorem s_pneq0 {α : Type} {P : Program} (T : TypeId) (hT : ∃ t, P.underlying T = some (.pointer t)) (k : Value → Option α) : pBin P .neq T (.pointer none) (.pointer none) k = k (.bool false) := by
  obtain ⟨t, ht⟩ := hT
  have : eqT P Op.maxDepth T (.pointer none) (.pointer none) = some true := by
    unfold Op.maxDepth
    simp only [eqT, ht]
    rfl
  simp only [pBin, binV, eqOp, this]; rfl
theorem s_pneq {α : Type} {P : Program} (T : TypeId) (a : Addr) (hT : ∃ t, P.underlying T = some (.pointer t)) (k : Value → Option α) : pBin P .neq T (.pointer (some a)) (.pointer none) k = k (.bool true) := by
  obtain ⟨t, ht⟩ := hT
  have : eqT P Op.maxDepth T (.pointer (some a)) (.pointer none) = some false := by
    unfold Op.maxDepth
    simp only [eqT, ht]
  simp only [pBin, binV, eqOp, this]; rfl
theorem c_lload {H : Hp} (hL : Laid H) (l : List UInt8) (hl : l.length ≤ 2 ^ 37) : LoA H l (zfz 0 (zcK l) 0 [] [] []) := by
  have hr := zfu E0 rfl (str l) H
  unfold zdm at hr
  have hc := c_load hL l hl (lim := 0) (by decide)
  cases hr0 : zfz 0 (zcK l) 0 [] [] [] with
  | bad ln e =>
    rw [hr0] at hc
    obtain ⟨H1, a1, a2⟩ := hc
    rw [zmf a1] at hr
    simp only [(s_t4 _ _ _ _ _).1, (s_t4 _ _ _ _ _).2.1, (s_t4 _ _ _ _ _).2.2.1, (s_t4 _ _ _ _ _).2.2.2] at hr
    rw [zag (c_no _ _), za0, zac] at hr
    refine ⟨H1, hr.trans ?_, a2⟩
    by_cases h : e = 0
    · rw [decide_eq_true h, za1, s_pneq0 T.p_term_Store ⟨T.term_Store, by kernel_rfl⟩]
    · rw [decide_eq_false h, zaK]
  | good L K q =>
    rw [hr0] at hc
    obtain ⟨H1, st, f, g, sl, rv, a1, a2, a3, a4, a5, a6, a7⟩ := hc
    rw [zmf a1] at hr
    simp only [(s_t4 _ _ _ _ _).1, (s_t4 _ _ _ _ _).2.1, (s_t4 _ _ _ _ _).2.2.1, (s_t4 _ _ _ _ _).2.2.2] at hr
    rw [zag (c_no _ _), eT rfl, s_pneq T.p_term_Store _ ⟨T.term_Store, by kernel_rfl⟩] at hr
    exact ⟨H1, st, f, g, sl, rv, hr, a4, a2, a3, a5, a6, a7⟩
def u64I (l : List Int) : List Value := l.map fun t => Value.int .u64 t
theorem u64I_len (l : List Int) : (u64I l).length = l.length := by simp [u64I]
theorem u64I_get {l : List Int} {i : Nat} {t : Int} (h : l[i]? = some t) : (u64I l)[i]? = some (.int .u64 t) := by simp [u64I, h]
theorem zog {α : Type} {w x : Int} (h1 : 1 ≤ w) (h2 : w < 64) (hx : 0 ≤ x) (hx2 : x < 18446744073709551616) (k : Value → Option α) :
    (zan .u64 (.int .i64 w) fun v28 => pBin PP .shl T.uint64 (.int .u64 1) v28 fun v29 => pBin PP .sub T.uint64 v29 (.int .u64 1) fun v30 => pBin PP .and T.uint64 (.int .u64 x) v30 k) = k (.int .u64 (zdc w x)) := by
  unfold zdc
  rw [if_neg (by omega), if_neg (by omega), zgP]
  have hw : IntKind.u64.wrap w = w := zb5 (by simp [IntKind.min, IntKind.signed, IntKind.bits]; omega) (by simp [IntKind.max, IntKind.signed, IntKind.bits]; omega)
  obtain ⟨p1, p2⟩ := zkg (w := w) (by omega) (by omega)
  rw [s_shl _ _ _ _ _ (by rw [hw]; omega), zm7 (by omega) (by omega), zdr, Go.AM.s_and]
  have hm : IntKind.u64.wrap (2 ^ w.toNat - 1) = 2 ^ w.toNat - 1 := zb5 (by simp [IntKind.min, IntKind.signed, IntKind.bits]; omega) (by simp [IntKind.max, IntKind.signed, IntKind.bits]; omega)
  rw [hm]
  congr 2
  have hb : IntKind.u64.bits = 64 := rfl
  rw [hb]
  obtain ⟨X, rfl⟩ := Int.eq_ofNat_of_zero_le hx
  have e2 : (2 : Int) ^ w.toNat - 1 = ((2 ^ w.toNat - 1 : Nat) : Int) := by
    have : 1 ≤ (2 : Nat) ^ w.toNat := Nat.one_le_two_pow
    rw [Int.ofNat_sub this]; simp
  rw [e2]
  have e3 : BitVec.ofInt 64 ((X : Nat) : Int) = BitVec.ofNat 64 X := by simp
  have e4 : BitVec.ofInt 64 (((2 ^ w.toNat - 1 : Nat)) : Int) = BitVec.ofNat 64 (2 ^ w.toNat - 1) := by simp
  rw [e3, e4, BitVec.toNat_and, BitVec.toNat_ofNat, BitVec.toNat_ofNat]
  have hX : X < 2 ^ 64 := by have : (X : Int) < 18446744073709551616 := hx2; omega
  have h3 : (2 : Nat) ^ w.toNat < 2 ^ 64 := Nat.pow_lt_pow_right (by omega) (by omega)
  rw [Nat.mod_eq_of_lt hX, Nat.mod_eq_of_lt (by omega), Nat.and_two_pow_sub_one_eq_mod]
  have h4 : X % 2 ^ w.toNat ≤ X := Nat.mod_le _ _
  have h5 : ((X : Nat) : Int) % 2 ^ w.toNat = ((X % 2 ^ w.toNat : Nat) : Int) := by simp
  rw [h5]
  generalize X % 2 ^ w.toNat = Y at h4
  have m1 : IntKind.u64.min = 0 := rfl
  have m2 : IntKind.u64.max = 18446744073709551615 := rfl
  rw [zb5 (by rw [m1]; omega) (by rw [m2]; omega)]
theorem zhD {α : Type} (v : VV) (z : Int) (k : List Value → Option α) : zaV 1 v.cells 2 (.int .u64 z) k = k (VV.cells { v with num := z }) := by
  have : zbj 1 v.cells 2 (.int .u64 z) = some (VV.cells { v with num := z }) := by kernel_rfl
  unfold zaV; rw [this]
def zej (nums : List Int) (i : Nat) : Int := if nums = [] then 0 else nums.getD (i % nums.length) 0
theorem zn7 {nums : List Int} (h : ∀ z ∈ nums, 0 ≤ z ∧ z < 18446744073709551616) (i : Nat) : 0 ≤ zej nums i ∧ zej nums i < 18446744073709551616 := by
  unfold zej
  split
  · exact ⟨Int.le_refl _, by decide⟩
  · rw [List.getD_eq_getElem?_getD]
    cases q : nums[i % nums.length]? with
    | none => exact ⟨Int.le_refl _, by show (0 : Int) < _; decide⟩
    | some x => exact h x (List.mem_of_getElem? q)
theorem s_tmod {α : Type} (a b : Nat) (hb : b ≠ 0) (k : Value → Option α) : pBin PP .rem T.int (.int .i64 (a : Int)) (.int .i64 (b : Int)) k = k (.int .i64 ((a % b : Nat) : Int)) := by
  rw [s_rem _ _ _ _ (by omega)]; rfl
theorem trim64 {x : Int} : zdc 64 x = x := by unfold zdc; rw [if_neg (by decide), if_pos (by decide)]
section
variable {B : Hp} {x y : Value} {L : List VV} {nums : List Int} (hx : Rdb B 3 x L.length (za8 L)) (hl : L.length ≤ 2 ^ 40) (hy : Rdb B 1 y nums.length (u64I nums)) (hw : ∀ v ∈ L, 0 ≤ v.w ∧ v.w ≤ 64) (hn : ∀ z ∈ nums, 0 ≤ z ∧ z < 18446744073709551616)
include hx hl hy hw hn
theorem zjM : ∀ (r : List VV) (i : Nat) (H : Hp) (acc : Value) (out : List VV), L.drop i = r → i ≤ L.length → out.length = i → Own B H [⟨3, acc, out.length, za8 out⟩] →
    ∃ H' acc', zat (zaR RR x y) [acc, .int .i64 (i : Int)] H = some (.exit 0, [acc', .int .i64 (L.length : Int)], H') ∧ Own B H' [⟨3, acc', (out ++ zaX nums i r).length, za8 (out ++ zaX nums i r)⟩]
  | [], i, H, acc, out, hr, hi, ho, h => by
    have hil : i = L.length := by
      have := congrArg List.length hr
      rw [List.length_drop, List.length_nil] at this; omega
    subst hil
    have hxH : Rdb H 3 x L.length (za8 L) := hx.keep' (fun j hj => h.old j (hx.lt hj)) h.next
    refine ⟨H, acc, ?_, by rw [show zaX nums L.length [] = [] from rfl, List.append_nil]; exact h⟩
    rw [zak]
    have : zaR RR x y [acc, .int .i64 (L.length : Int)] H = some (.exit 0, [acc, .int .i64 (L.length : Int)], H) := by
      unfold zaR
      simp only [qg0, qg1]
      rw [hxH.len, lF (Int.lt_irrefl _)]
    rw [this]; rfl
  | v :: r, i, H, acc, out, hr, hi, ho, h => by
    have hlt : i < L.length := by
      have := congrArg List.length hr
      rw [List.length_drop, List.length_cons] at this; omega
    have hv : L[i]? = some v := by
      have : (L.drop i)[0]? = some v := by rw [hr]; rfl
      rwa [List.getElem?_drop, Nat.add_zero] at this
    have hr2 : L.drop (i + 1) = r := by rw [← List.drop_drop, hr]; rfl
    have hxH : Rdb H 3 x L.length (za8 L) := hx.keep' (fun j hj => h.old j (hx.lt hj)) h.next
    have hyH : Rdb H 1 y nums.length (u64I nums) := hy.keep' (fun j hj => h.old j (hy.lt hj)) h.next
    obtain ⟨a, _, a1, a2, _⟩ := Rdb.vv hxH hv
    have q : (i : Int) < (L.length : Int) := by omega
    have w1 : IntKind.i64.wrap ((i : Int) + 1) = ((i + 1 : Nat) : Int) := zaz (by omega) (by omega)
    have hvw := hw v (List.mem_of_getElem? hv)
    have hz := zn7 hn i
    obtain ⟨acc1, H1, p1, p2⟩ := pushV h { v with num := cutW v.w (zej nums i) } (by omega)
    obtain ⟨H', acc', g1, g2⟩ := zjM r (i + 1) H1 acc1 (out ++ [{ v with num := cutW v.w (zej nums i) }]) hr2 (by omega) (by rw [List.length_append, ho]; rfl) p2
    refine ⟨H', acc', ?_, ?_⟩
    · rw [zak]
      have hnum : ∀ (k : Ctl → List Value → Hp → Option Outc), (zav (
         pLen .sl y H fun v10 =>
         pBin PP .gtr T.int v10 (.int .i64 0) fun v11 =>
         zaa v11 fun b12 => br b12
         (pLen .sl y H fun v13 =>
         pBin PP .rem T.int (.int .i64 (i : Int)) v13 fun v14 =>
         pIdx 1 y v14 fun p15 =>
         zal 1 false H p15 fun v16 =>
         zaV 1 (VV.cells { v with num := 0 }) 2 v16 fun c17 =>
         some (.next, [(.agg c17.toArray)], H))
         (some (.next, [(.agg (VV.cells { v with num := 0 }).toArray)], H))) k) = k .next [VV.val { v with num := zej nums i }] H := fun k => by
        rw [hyH.len, zb1, zac]
        by_cases h0 : nums = []
        · rw [decide_eq_false (by rw [h0]; decide), zaK, zap]
          unfold zej
          rw [if_pos h0]; rfl
        · have hpos : 0 < nums.length := List.length_pos_iff.2 h0
          have hlt2 : i % nums.length < nums.length := Nat.mod_lt _ hpos
          obtain ⟨b, b1, b2⟩ := Rdb.at1 hyH (u64I_get (List.getElem?_eq_getElem hlt2))
          rw [decide_eq_true (by omega), za1, hyH.len, s_tmod _ _ (by omega), b1, b2]
          have : zaV 1 (VV.cells { v with num := 0 }) 2 (.int .u64 nums[i % nums.length]) = fun (k : List Value → Option Outc) => k (VV.cells { v with num := nums[i % nums.length] }) := funext fun k => zhD { v with num := 0 } _ k
          rw [this]
          dsimp only
          rw [zap]
          unfold zej
          rw [if_neg h0, List.getD_eq_getElem?_getD, List.getElem?_eq_getElem hlt2]; rfl
      have cl : ∀ u : VV, zab ((([u.val] : List Value).drop 0).getD 0 undef) = u.cells := fun u => rfl
      have sz : ∀ (c : Value → Option Outc), zaV 1 v.cells 2 (.int .u64 0) (fun c9 => c (.agg c9.toArray)) = c (VV.val { v with num := 0 }) := fun c => zhD v 0 _
      have : zaR RR x y [acc, .int .i64 (i : Int)] H = some (.next, [acc1, .int .i64 ((i + 1 : Nat) : Int)], H1) := by
        unfold zaR
        simp only [qg0, qg1]
        rw [hxH.len, lT q, a1, a2, splV, zhD, hnum, za3, cl, zi1, za0, zac]
        by_cases h0 : v.w = 0
        · have hcut : cutW v.w (zej nums i) = zdc 1 (zej nums i) := by unfold cutW; rw [if_pos (by omega)]
          rw [hcut] at p1
          have hv1 : ∀ z : Int, zaV 1 (VV.cells { v with num := zej nums i }) 2 (.int .u64 z) = fun (k : List Value → Option Outc) => k (VV.cells { v with num := z }) := fun z => funext fun k => zhD { v with num := zej nums i } z k
          rw [decide_eq_true h0, za1, lT (by decide), zkN, zog (by decide) (by decide) hz.1 hz.2, hv1]
          dsimp only
          rw [zm9, p1, za5, w1]
        · rw [decide_eq_false h0, zaK, zbc, zac]
          have hcut : cutW v.w (zej nums i) = zdc v.w (zej nums i) := by unfold cutW; rw [if_neg (by omega)]
          rw [hcut] at p1
          by_cases h64 : v.w < 64
          · have hv1 : ∀ z : Int, zaV 1 (VV.cells { v with num := zej nums i }) 2 (.int .u64 z) = fun (k : List Value → Option Outc) => k (VV.cells { v with num := z }) := fun z => funext fun k => zhD { v with num := zej nums i } z k
            rw [decide_eq_true h64, za1, zkN, zog (by omega) h64 hz.1 hz.2, hv1]
            dsimp only
            rw [zm9, p1, za5, w1]
          · have e64 : v.w = 64 := by omega
            rw [e64, trim64, ← e64] at p1
            rw [decide_eq_false h64, zaK, zm9, p1, za5, w1]
      rw [this]; exact g1
    · have e : zaX nums i (v :: r) = { v with num := cutW v.w (zej nums i) } :: zaX nums (i + 1) r := rfl
      rw [e, List.append_cons]
      exact g2
theorem c_drawn : ∃ H' v', RR F.a33 [x, y] B = some (v', H') ∧ zgk 3 B H' v' (zaX nums 0 L).length (za8 (zaX nums 0 L)) := by
  have hr := (ze3 E0 rfl x y B).trans (ze6 _ _ _ _)
  obtain ⟨H', acc', g1, g2⟩ := zjM hx hl hy hw hn L 0 B (.slice none 0 0) [] rfl (Nat.zero_le _) rfl ((Own.nil B).addNil 3)
  have g1 : zat (zaR RR x y) [.slice none 0 0, .int .i64 0] B = _ := g1
  rw [g1, zap, zbg, zaJ] at hr
  exact ⟨H', acc', hr, zgk.of g2⟩
end
end Go.AM.N14
namespace Go.AM.N14
open Go Go.AM
def decB (n : Nat) : List UInt8 := if h : n < 10 then [UInt8.ofNat (48 + n)] else decB (n / 10) ++ [UInt8.ofNat (48 + n % 10)]
termination_by n
decreasing_by omega
theorem zkA {d : Nat} (h : d < 10) : (UInt8.ofNat (48 + d)).toNat = 48 + d := by
  rw [UInt8.toNat_ofNat']; omega
theorem zg6 {n : Nat} (h : n < 10) : decB n = [UInt8.ofNat (48 + n)] := by rw [decB, dif_pos h]
theorem zn9 {n : Nat} (h : ¬ n < 10) : decB n = decB (n / 10) ++ decB (n % 10) := by rw [decB, dif_neg h, zg6 (Nat.mod_lt n (by decide))]
def valB (l : List UInt8) : Nat := l.foldl (fun a b => a * 10 + (b.toNat - 48)) 0
theorem val_dec : ∀ n, valB (decB n) = n := by
  intro n
  induction n using Nat.strongRecOn with
  | _ n ih =>
    by_cases h : n < 10
    · rw [zg6 h]
      show 0 * 10 + ((UInt8.ofNat (48 + n)).toNat - 48) = n
      rw [zkA h]; omega
    · rw [zn9 h, zg6 (Nat.mod_lt n (by decide))]
      unfold valB
      rw [List.foldl_append]
      have := ih (n / 10) (by omega)
      unfold valB at this
      rw [this]
      show n / 10 * 10 + ((UInt8.ofNat (48 + n % 10)).toNat - 48) = n
      rw [zkA (Nat.mod_lt n (by decide))]; omega
theorem zgH : ∀ (k n : Nat), n < 10 ^ (k + 1) → (decB n).length ≤ k + 1
  | 0, n, h => by rw [zg6 (by simpa using h)]; simp
  | k + 1, n, h => by
    by_cases h1 : n < 10
    · rw [zg6 h1]; simp
    · rw [zn9 h1, zg6 (Nat.mod_lt n (by decide)), List.length_append]
      have := zgH k (n / 10) (by
        rw [Nat.pow_succ] at h
        omega)
      simp only [List.length_singleton]
      omega
theorem dec_ok : ∀ n, (decB n).all zff = true := by
  intro n
  have one : ∀ d, d < 10 → zff (UInt8.ofNat (48 + d)) = true := fun d hd => by
    unfold zff zmW
    rw [zkA hd, decide_eq_false (show ¬ ((48 + d : Nat) : Int) < 48 by omega), decide_eq_false (show ¬ ((48 + d : Nat) : Int) > 57 by omega)]
    simp
  induction n using Nat.strongRecOn with
  | _ n ih =>
    by_cases h : n < 10
    · rw [zg6 h, List.all_cons, one n h]; rfl
    · rw [zn9 h, List.all_append, ih (n / 10) (by omega), ih (n % 10) (by omega)]; rfl
def za6 (n : Nat) : ByteArray := ba (122 :: decB n)
theorem spare_ok {n : Nat} (h : n ≤ 2 ^ 41) : zcb (za6 n) = true := by
  unfold zcb za6
  have hl := zgH 20 n (Nat.lt_of_le_of_lt h (by decide))
  have hs : (ba (122 :: decB n)).size = (decB n).length + 1 := by
    show (ba (122 :: decB n)).data.size = _
    rw [← Array.length_toList, zdO]; rfl
  rw [zdO, hs, decide_eq_true (by omega), decide_eq_true (by omega)]
  show (true && true && zeJ 122 && (decB n).all zff) = true
  rw [dec_ok]; rfl
theorem zia {A : Type} [DecidableEq A] : ∀ (l m : List A), l.Nodup → (∀ x ∈ l, x ∈ m) → l.length ≤ m.length
  | [], m, _, _ => Nat.zero_le _
  | a :: l, m, hn, hs => by
    obtain ⟨n1, n2⟩ := List.nodup_cons.1 hn
    have ha := hs a (List.mem_cons_self ..)
    have := zia l (m.erase a) n2 fun x hx => (List.mem_erase_of_ne (fun e => n1 (by rw [← e]; exact hx))).2 (hs x (List.mem_cons_of_mem _ hx))
    have hlen := List.length_erase_of_mem ha
    have hpos : 0 < m.length := List.length_pos_of_mem ha
    rw [List.length_cons]; omega
theorem spare_ex (L : List VV) : ∃ n, n ≤ L.length ∧ ∀ v ∈ L, v.name ≠ za6 n := by
  by_cases h : ∃ n, n ≤ L.length ∧ ∀ v ∈ L, v.name ≠ za6 n
  · exact h
  · exfalso
    have hall : ∀ x ∈ List.range (L.length + 1), x ∈ L.map fun v => valB (v.name.data.toList.drop 1) := fun n hn => by
      rw [List.mem_range] at hn
      have : ¬ ∀ v ∈ L, v.name ≠ za6 n := fun q => h ⟨n, by omega, q⟩
      obtain ⟨v, hv⟩ := Classical.not_forall.1 this
      have hm : v ∈ L := Classical.byContradiction fun q => hv fun z => absurd z q
      have e : v.name = za6 n := Classical.byContradiction fun q => hv fun _ => q
      refine List.mem_map.2 ⟨v, hm, ?_⟩
      rw [e]
      unfold za6
      rw [zdO]
      exact val_dec n
    have := zia _ _ List.nodup_range hall
    rw [List.length_range, List.length_map] at this
    omega
theorem s_quoI {α : Type} (a b : Nat) (hb : b ≠ 0) (ha : a ≤ 2 ^ 60) (k : Value → Option α) : pBin PP .quo T.int (.int .i64 (a : Int)) (.int .i64 (b : Int)) k = k (.int .i64 ((a / b : Nat) : Int)) := by
  have h1 : ((a : Int).tdiv (b : Int)) = ((a / b : Nat) : Int) := rfl
  have h2 : a / b ≤ a := Nat.div_le_self a b
  have h3 : IntKind.i64.wrap ((a / b : Nat) : Int) = ((a / b : Nat) : Int) := by
    clear h1
    generalize a / b = q at h2
    exact zaz (by omega) (by omega)
  have hb' : ¬ (b : Int) = 0 := by omega
  have : binV PP .quo T.int (.int .i64 (a : Int)) (.int .i64 (b : Int)) = some (.int .i64 ((a / b : Nat) : Int)) := by
    show (if IntKind.i64 = IntKind.i64 then zdM .quo .i64 (a : Int) (b : Int) else none) = _
    rw [if_pos rfl]
    unfold zdM
    dsimp only
    rw [if_neg hb', h1, h3]
  unfold pBin; rw [this]
theorem zlT : ∀ (n : Nat), n ≤ 2 ^ 41 → ∀ H : Hp, ∃ H', RR F.a19 [.int .i64 (n : Int)] H = some (.string (ba (decB n)), H') ∧ Frm (fun _ => False) H H' := by
  intro n
  induction n using Nat.strongRecOn with
  | _ n ih =>
    intro hn H
    have hr := zes E0 rfl (.int .i64 (n : Int)) H
    unfold zcs at hr
    rw [zbc, zac] at hr
    by_cases h : n < 10
    · have e1 : IntKind.i64.wrap (48 + (n : Int)) = 48 + (n : Int) := zaz (by omega) (by omega)
      have e2 : IntKind.u8.wrap (48 + (n : Int)) = 48 + (n : Int) := zb5 (by show (0 : Int) ≤ _; omega) (by show _ ≤ (255 : Int); omega)
      have hb : ∀ (k : Value → Hp → Option (Value × Hp)), zaj 1 [.int .u8 0] 1 [(0, .int .u8 (48 + (n : Int)))] H k = k (.slice (some ⟨H.next, 0, some 1⟩) 1 1) (H.new (.cells [.int .u8 (48 + (n : Int))] true)) := fun k => rfl
      have hbv : bv [UInt8.ofNat (48 + n)] = [Value.int .u8 (48 + (n : Int))] := by
        show [Value.int .u8 (((UInt8.ofNat (48 + n)).toNat : Nat) : Int)] = _
        rw [zkA h]
        rw [show ((48 + n : Nat) : Int) = 48 + (n : Int) by omega]
      have hs := to_str (H := H.new (.cells [.int .u8 (48 + (n : Int))] true)) (a := H.next) (i := 0) (n := 1) (c := 1) (l := [UInt8.ofNat (48 + n)]) (own := true) (by rw [get_new, if_pos rfl, hbv]) (by simp) (fun v7 => some (v7, H.new (.cells [.int .u8 (48 + (n : Int))] true)))
      rw [decide_eq_true (by omega), za1, za5, e1, zgP, e2, hb, hs] at hr
      rw [zg6 h]
      exact ⟨_, hr, zct _ _ _⟩
    · obtain ⟨H1, a1, f1⟩ := ih (n / 10) (by omega) (by omega) H
      obtain ⟨H2, a2, f2⟩ := ih (n % 10) (by omega) (by omega) H1
      have l1 := zgH 20 (n / 10) (Nat.lt_of_le_of_lt (show n / 10 ≤ 2 ^ 41 by omega) (by decide))
      have l2 := zgH 20 (n % 10) (Nat.lt_of_le_of_lt (show n % 10 ≤ 2 ^ 41 by omega) (by decide))
      have d10 : (10 : Int) = ((10 : Nat) : Int) := rfl
      rw [decide_eq_false (by omega), zaK, d10, s_quoI _ _ (by decide) (by omega), zag a1, s_tmod _ _ (by decide), zag a2, znn _ _ _ (by omega)] at hr
      rw [zn9 h]
      exact ⟨H2, hr, f1.trans f2 fun j q => q.elim⟩
section
variable {B : Hp} {x : Value} {L : List VV} (hx : Rdb B 3 x L.length (za8 L)) (hl : L.length ≤ 2 ^ 40)
include hx hl
theorem zj1 (s : ByteArray) {H : Hp} (hxH : Rdb H 3 x L.length (za8 L)) : ∀ (r : List VV) (i : Nat) (b : Bool), L.drop i = r → i ≤ L.length →
    zat (zaq RR x (.string s)) [.bool b, .int .i64 (i : Int)] H = some (.exit 2, [.bool (b || r.any fun v => v.name.toList == s.toList), .int .i64 (L.length : Int)], H)
  | [], i, b, hr, hi => by
    have hil : i = L.length := by
      have := congrArg List.length hr
      rw [List.length_drop, List.length_nil] at this; omega
    subst hil
    have : zaq RR x (.string s) [.bool b, .int .i64 (L.length : Int)] H = some (.exit 2, [.bool b, .int .i64 (L.length : Int)], H) := by
      unfold zaq
      simp only [qg0, qg1]
      rw [hxH.len, lF (Int.lt_irrefl _)]
    rw [zak, this, List.any_nil, Bool.or_false]; rfl
  | v :: r, i, b, hr, hi => by
    have hlt : i < L.length := by
      have := congrArg List.length hr
      rw [List.length_drop, List.length_cons] at this; omega
    have hv : L[i]? = some v := by
      have : (L.drop i)[0]? = some v := by rw [hr]; rfl
      rwa [List.getElem?_drop, Nat.add_zero] at this
    have hr2 : L.drop (i + 1) = r := by rw [← List.drop_drop, hr]; rfl
    obtain ⟨a, _, a1, _, a3⟩ := Rdb.vv hxH hv
    have q : (i : Int) < (L.length : Int) := by omega
    have w1 : IntKind.i64.wrap ((i : Int) + 1) = ((i + 1 : Nat) : Int) := zaz (by omega) (by omega)
    have : zaq RR x (.string s) [.bool b, .int .i64 (i : Int)] H = some (.next, [.bool (b || v.name.toList == s.toList), .int .i64 ((i + 1 : Nat) : Int)], H) := by
      unfold zaq
      simp only [qg0, qg1]
      rw [hxH.len, lT q, zac]
      cases b with
      | true => rw [za1, za5, w1, Bool.true_or]
      | false => rw [zaK, a1, zaT, a3 _ 0 (.string v.name) rfl, q_seql, za5, w1, Bool.false_or]
    rw [zak, this, List.any_cons, ← Bool.or_assoc]
    exact zj1 s hxH r (i + 1) _ hr2 (by omega)
theorem zol {N : Nat} (hN : N ≤ L.length) (hfree : ∀ v ∈ L, v.name ≠ za6 N) : ∀ (k n : Nat) (H : Hp), n + k = N → Frm (fun _ => False) B H →
    ∃ H' m, zat (zaA RR x) [.int .i64 (n : Int)] H = some (.ret, [.string (za6 m)], H') ∧ Frm (fun _ => False) B H' ∧ m ≤ L.length ∧ ∀ v ∈ L, v.name ≠ za6 m := by
  intro k
  induction k with
  | zero =>
    intro n H hk h
    have hnN : n = N := by omega
    subst hnN
    obtain ⟨H1, e1, f1⟩ := zlT n (by omega) H
    have l1 := zgH 20 n (Nat.lt_of_le_of_lt (show n ≤ 2 ^ 41 by omega) (by decide))
    have hxH := hx.keep (h.trans f1 fun j q => q.elim) fun _ _ q => q
    have hin := zj1 hx hl (za6 n) hxH L 0 false rfl (Nat.zero_le _)
    have hany : (L.any fun v => v.name.toList == (za6 n).toList) = false := by
      rw [List.any_eq_false]
      intro v hv q
      exact hfree v hv (zmo _ _ q)
    rw [hany] at hin
    have hin : zat (zaq RR x (.string (za6 n))) [.bool false, .int .i64 0] H1 = some (.exit 2, [.bool false, .int .i64 (L.length : Int)], H1) := hin
    refine ⟨H1, n, ?_, h.trans f1 fun j q => q.elim, hN, hfree⟩
    have hz : Value.string ⟨#[122]⟩ = .string (ba [122]) := rfl
    have : zaA RR x [.int .i64 (n : Int)] H = some (.ret, [.string (za6 n)], H1) := by
      unfold zaA
      simp only [qg0]
      rw [zag e1, hz, znn _ _ _ (by rw [List.length_singleton]; omega)]
      show zav (zat (zaq RR x (.string (za6 n))) [.bool false, .int .i64 0] H1) _ = _
      rw [hin, zap, zbg, zaJ]
      simp only [qg0]
      rw [zbE, zac]; rfl
    rw [zak, this]; rfl
  | succ k ih =>
    intro n H hk h
    obtain ⟨H1, e1, f1⟩ := zlT n (by omega) H
    have l1 := zgH 20 n (Nat.lt_of_le_of_lt (show n ≤ 2 ^ 41 by omega) (by decide))
    have f01 := h.trans f1 fun j q => q.elim
    have hxH := hx.keep f01 fun _ _ q => q
    have hin := zj1 hx hl (za6 n) hxH L 0 false rfl (Nat.zero_le _)
    rw [Bool.false_or] at hin
    have hz : Value.string ⟨#[122]⟩ = .string (ba [122]) := rfl
    have w1 : IntKind.i64.wrap ((n : Int) + 1) = ((n + 1 : Nat) : Int) := zaz (by omega) (by omega)
    cases hany : (L.any fun v => v.name.toList == (za6 n).toList) with
    | false =>
      rw [hany] at hin
      have hin : zat (zaq RR x (.string (za6 n))) [.bool false, .int .i64 0] H1 = some (.exit 2, [.bool false, .int .i64 (L.length : Int)], H1) := hin
      refine ⟨H1, n, ?_, f01, by omega, fun v hv e => ?_⟩
      · have : zaA RR x [.int .i64 (n : Int)] H = some (.ret, [.string (za6 n)], H1) := by
          unfold zaA
          simp only [qg0]
          rw [zag e1, hz, znn _ _ _ (by rw [List.length_singleton]; omega)]
          show zav (zat (zaq RR x (.string (za6 n))) [.bool false, .int .i64 0] H1) _ = _
          rw [hin, zap, zbg, zaJ]
          simp only [qg0]
          rw [zbE, zac]; rfl
        rw [zak, this]; rfl
      · have := List.any_eq_false.1 hany v hv
        rw [e] at this
        exact this (beq_self_eq_true _)
    | true =>
      rw [hany] at hin
      have hin : zat (zaq RR x (.string (za6 n))) [.bool false, .int .i64 0] H1 = some (.exit 2, [.bool true, .int .i64 (L.length : Int)], H1) := hin
      obtain ⟨H', m, g1, g2⟩ := ih (n + 1) H1 (by omega) f01
      refine ⟨H', m, ?_, g2⟩
      have : zaA RR x [.int .i64 (n : Int)] H = some (.next, [.int .i64 ((n + 1 : Nat) : Int)], H1) := by
        unfold zaA
        simp only [qg0]
        rw [zag e1, hz, znn _ _ _ (by rw [List.length_singleton]; omega)]
        show zav (zat (zaq RR x (.string (za6 n))) [.bool false, .int .i64 0] H1) _ = _
        rw [hin, zap, zbg, zaJ]
        simp only [qg0]
        rw [zbE, zac, Bool.not_true, zaK, za5, w1]
      rw [zak, this]; exact g1
theorem c_spare : ∃ H' m, RR F.a35 [x] B = some (.string (za6 m), H') ∧ Frm (fun _ => False) B H' ∧ m ≤ L.length ∧ ∀ v ∈ L, v.name ≠ za6 m := by
  have hr := (ze2 E0 rfl x B).trans (ze5 _ _ _)
  obtain ⟨N, hN, hf⟩ := spare_ex L
  obtain ⟨H', m, g1, g2, g3, g4⟩ := zol hx hl hN hf N 0 B (by omega) (Frm.refl _ _)
  have g1 : zat (zaA RR x) [.int .i64 0] B = _ := g1
  rw [g1] at hr
  exact ⟨H', m, hr, g2, g3, g4⟩
end
end Go.AM.N14
