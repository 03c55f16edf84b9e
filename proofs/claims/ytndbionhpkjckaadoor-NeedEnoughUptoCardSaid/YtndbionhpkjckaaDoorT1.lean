/- Part of the proof of NeedEnoughUptoCardSaid: see the last file.  -/
import Derived.Shelf.Small.Utf8
import Derived.Shelf.Small.Strs
import Derived.Shelf.Strconv.Itoa0
import Derived.Shelf.Strconv.Itoa1
import Derived.Shelf.LaysM
import Derived.Shelf.Strconv.Itoa2
import Derived.Shelf.Strconv.Itoa3
import Derived.Shelf.Strconv.Itoa4
import Derived.Shelf.Strings.Search1
import Derived.Shelf.Unicode.Decode
import Derived.Shelf.Strings.Runes
import Derived.Shelf.Strings.AsciiSet
import Derived.Shelf.Unicode.DecodeSlow
import Derived.Shelf.Unicode.DecodeAny
import Derived.Test.YtndbionhpkjckaaDoorProg
import Derived.Lib.ItoaNum
import Derived.Lib.Bytealg
import Derived.KernelRfl
import Derived.Laws.NewBlocks
import Derived.Tactics
import Derived.Laws.Cells
import Derived.Laws.Build
import Derived.Laws.StructEq
import Derived.Laws.Append
import Derived.Test.YtndbionhpkjckaaDoorT0
set_option linter.unusedSimpArgs false
set_option linter.unusedVariables false
set_option linter.unusedSectionVars false
/-
  DERIVED: THE SHELF's CONTRACTS AT THIS DUMP, IN PLAIN WORDS (tools/lay-plain.mjs out of 'TrydShelf.lean', which tools/lay-shelf.mjs wrote): THE SAME DECLARATIONS UNDER THE SAME NAMES: 'import', 'namespace', 'open', 'def', 'theorem' AND NOTHING ELSE: no command of the shelf's: FOR A HAND-IN. Each laying: the table of numbers ('.._ren') and one theorem, a field a fact of the dump's own or the kernel's comparison; each contract: ONE APPLICATION.
-/
namespace Go.Proofs
open Go.Shelf
def Tryd.lays119_ren : Go.Shelf.Ren := ⟨fun | 119 => 42 | n => n, fun | 21 => 21 | 4 => 4 | n => n, fun | n => n⟩
theorem Tryd.lays119 : Go.Proofs.Lays.n119 Tryd.prog Tryd.lays119_ren := {
  mixed := by kernel_rfl
  f119 := Tryd.func42.trans (congrArg some (by kernel_rfl))
  t4 := Tryd.underlying4
  a4 := Tryd.isAgg4
  z4 := Tryd.sizeOf4
  v4 := Tryd.zeroValue4
  t21 := Tryd.underlying21
  a21 := Tryd.isAgg21
  z21 := Tryd.sizeOf21
  v21 := Tryd.zeroValue21 }
/-- utf8.ValidRune: "ValidRune reports whether r can be legally encoded as UTF-8. Code points that are out of range or a surrogate half are illegal.": IT RETURNS 'Lib.validRune r'; the world is as it was. (LAID: no walk: one application.) -/
theorem Tryd.utf8_ValidRune (r : Int) (w : World) :
    Calls Tryd.prog 42 #[.int .i32 r] w fun e w' => e = .returned (.bool (Lib.validRune r)) ∧ w' = w := Any.utf8_ValidRune Tryd.lays119 r w
def Tryd.lays213_ren : Go.Shelf.Ren := ⟨fun | 213 => 25 | 265 => 33 | n => n, fun | 9 => 9 | 3 => 3 | n => n, fun | n => n⟩
theorem Tryd.lays213 : Go.Proofs.Lays.n213 Tryd.prog Tryd.lays213_ren := {
  mixed := by kernel_rfl
  f213 := Tryd.func25.trans (congrArg some (by kernel_rfl))
  f265 := Tryd.func33.trans (congrArg some (by kernel_rfl))
  t3 := Tryd.underlying3
  a3 := Tryd.isAgg3
  z3 := Tryd.sizeOf3
  v3 := Tryd.zeroValue3
  t9 := Tryd.underlying9
  a9 := Tryd.isAgg9
  z9 := Tryd.sizeOf9
  v9 := Tryd.zeroValue9 }
open Go.RowKit in
/-- internal/bytealg.CompareString (what strings.Compare calls): IT RETURNS 'Lib.compareBytes a b'; the world is as it was. (LAID: no walk: one application.) -/
theorem Tryd.bytealg_CompareString (a b : ByteArray) (w : World) :
    Calls Tryd.prog 25 #[.string a, .string b] w fun e w' => e = .returned (.int .i64 (Lib.compareBytes a.data.toList b.data.toList)) ∧ w' = w := Any.bytealg_CompareString Tryd.lays213 a b w
def Tryd.lays106_ren : Go.Shelf.Ren := ⟨fun | 106 => 18 | 213 => 25 | 265 => 33 | n => n, fun | 9 => 9 | 3 => 3 | n => n, fun | n => n⟩
theorem Tryd.lays106 : Go.Proofs.Lays.n106 Tryd.prog Tryd.lays106_ren := {
  mixed := by kernel_rfl
  f106 := Tryd.func18.trans (congrArg some (by kernel_rfl))
  f213 := Tryd.func25.trans (congrArg some (by kernel_rfl))
  f265 := Tryd.func33.trans (congrArg some (by kernel_rfl))
  t3 := Tryd.underlying3
  a3 := Tryd.isAgg3
  z3 := Tryd.sizeOf3
  v3 := Tryd.zeroValue3
  t9 := Tryd.underlying9
  a9 := Tryd.isAgg9
  z9 := Tryd.sizeOf9
  v9 := Tryd.zeroValue9 }
open Go.RowKit in
/-- strings.Compare: "Compare returns an integer comparing two strings lexicographically. The result will be 0 if a == b, -1 if a < b, and +1 if a > b.": IT RETURNS 'Lib.compareBytes a b'; the world is as it was. (LAID: no walk: one application.) -/
theorem Tryd.strings_Compare (a b : ByteArray) (w : World) :
    Calls Tryd.prog 18 #[.string a, .string b] w fun e w' => e = .returned (.int .i64 (Lib.compareBytes a.data.toList b.data.toList)) ∧ w' = w := Any.strings_Compare Tryd.lays106 a b w
def Tryd.lays137_ren : Go.Shelf.Ren := ⟨fun | 137 => 41 | 217 => 47 | 266 => 48 | n => n, fun | 9 => 9 | 5 => 5 | 3 => 3 | n => n, fun | n => n⟩
theorem Tryd.lays137 : Go.Proofs.Lays.n137 Tryd.prog Tryd.lays137_ren := {
  mixed := by kernel_rfl
  f137 := Tryd.func41.trans (congrArg some (by kernel_rfl))
  f217 := Tryd.func47.trans (congrArg some (by kernel_rfl))
  f266 := Tryd.func48.trans (congrArg some (by kernel_rfl))
  t3 := Tryd.underlying3
  a3 := Tryd.isAgg3
  z3 := Tryd.sizeOf3
  v3 := Tryd.zeroValue3
  t5 := Tryd.underlying5
  a5 := Tryd.isAgg5
  z5 := Tryd.sizeOf5
  v5 := Tryd.zeroValue5
  t9 := Tryd.underlying9
  a9 := Tryd.isAgg9
  z9 := Tryd.sizeOf9
  v9 := Tryd.zeroValue9 }
open Go.RowKit in
/-- strings.IndexByte: "IndexByte returns the index of the first instance of c in s, or -1 if c is not present in s.": IT RETURNS 'Lib.indexByte s c'; the world is as it was. (LAID: no walk: one application.) -/
theorem Tryd.strings_IndexByte (s : ByteArray) (c : Int) (w : World) :
    Calls Tryd.prog 41 #[.string s, .int .u8 c] w fun e w' => e = .returned (.int .i64 (Lib.indexByte s.data.toList c.toNat.toUInt8)) ∧ w' = w := Any.strings_IndexByte Tryd.lays137 s c w
def Tryd.lays129_ren : Go.Shelf.Ren := ⟨fun | 129 => 37 | n => n, fun | 53 => 35 | 3 => 3 | 4 => 4 | 46 => 68 | 5 => 5 | 9 => 9 | n => n, fun | n => n⟩
theorem Tryd.lays129 : Go.Proofs.Lays.n129 Tryd.prog Tryd.lays129_ren := {
  mixed := by kernel_rfl
  f129 := Tryd.func37.trans (congrArg some (by kernel_rfl))
  t3 := Tryd.underlying3
  a3 := Tryd.isAgg3
  z3 := Tryd.sizeOf3
  v3 := Tryd.zeroValue3
  t4 := Tryd.underlying4
  a4 := Tryd.isAgg4
  z4 := Tryd.sizeOf4
  v4 := Tryd.zeroValue4
  t5 := Tryd.underlying5
  a5 := Tryd.isAgg5
  z5 := Tryd.sizeOf5
  v5 := Tryd.zeroValue5
  t9 := Tryd.underlying9
  a9 := Tryd.isAgg9
  z9 := Tryd.sizeOf9
  v9 := Tryd.zeroValue9
  t46 := Tryd.underlying68
  a46 := Tryd.isAgg68
  z46 := Tryd.sizeOf68
  v46 := Tryd.zeroValue68
  t53 := Tryd.underlying35
  a53 := Tryd.isAgg35
  z53 := Tryd.sizeOf35
  v53 := Tryd.zeroValue35 }
/-- bits.Len64: "Len64 returns the minimum number of bits required to represent x; the result is 0 for x == 0.": IT RETURNS 'Lib.bitLen x'; the world is as it was. ('h0', 'h1': x is a uint64.) (LAID: no walk: one application.) -/
theorem Tryd.bits_Len64 (x : Int) (w : World) (h0 : 0 ≤ x) (h1 : x ≤ 18446744073709551615) :
    Calls Tryd.prog 37 #[.int .u64 x] w fun e w' => e = .returned (.int .i64 (Lib.bitLen x.toNat)) ∧ w' = w := Any.bits_Len64 Tryd.lays129 x w h0 h1
def Tryd.lays317_ren : Go.Shelf.Ren := ⟨fun | 317 => 36 | n => n, fun | 3 => 3 | 46 => 68 | n => n, fun | n => n⟩
theorem Tryd.lays317 : Go.Proofs.Lays.n317 Tryd.prog Tryd.lays317_ren := {
  mixed := by kernel_rfl
  f317 := Tryd.func36.trans (congrArg some (by kernel_rfl))
  t3 := Tryd.underlying3
  a3 := Tryd.isAgg3
  z3 := Tryd.sizeOf3
  v3 := Tryd.zeroValue3
  t46 := Tryd.underlying68
  a46 := Tryd.isAgg68
  z46 := Tryd.sizeOf68
  v46 := Tryd.zeroValue68 }
open Go.Lib in
/-- internal/strconv.log10Pow2: "log10Pow2(x) returns ⌊log₁₀ 2**x⌋ = ⌊x * log₁₀ 2⌋.": '(x * 78913) >> 18', at an x up to 64 (a length in bits). The world is as it was. (LAID: no walk: one application.) -/
theorem Tryd.internal_strconv_log10Pow2 (x : Nat) (h : x ≤ 64) (w : World) :
    Calls Tryd.prog 36 #[.int .i64 x] w fun e w' => e = .returned (.int .i64 (Lib.l10 x)) ∧ w' = w := Any.internal_strconv_log10Pow2 Tryd.lays317 x h w
def Tryd.lays318_ren : Go.Shelf.Ren := ⟨fun | 318 => 38 | n => n, fun | 3 => 3 | 4 => 4 | n => n, fun | n => n⟩
theorem Tryd.lays318 : Go.Proofs.Lays.n318 Tryd.prog Tryd.lays318_ren := {
  mixed := by kernel_rfl
  f318 := Tryd.func38.trans (congrArg some (by kernel_rfl))
  t3 := Tryd.underlying3
  a3 := Tryd.isAgg3
  z3 := Tryd.sizeOf3
  v3 := Tryd.zeroValue3
  t4 := Tryd.underlying4
  a4 := Tryd.isAgg4
  z4 := Tryd.sizeOf4
  v4 := Tryd.zeroValue4 }
open Go.Lib in
/-- internal/strconv.bool2: "bool2 converts b to an integer: 1 for true, 0 for false." The world is as it was. (LAID: no walk: one application.) -/
theorem Tryd.internal_strconv_bool2_int (b : Bool) (w : World) :
    Calls Tryd.prog 38 #[.bool b] w fun e w' => e = .returned (.int .i64 (if b then 1 else 0)) ∧ w' = w := Any.internal_strconv_bool2_int Tryd.lays318 b w
def Tryd.lays283_ren : Go.Shelf.Ren := ⟨fun | 283 => 29 | n => n, fun | 3 => 3 | 9 => 9 | 4 => 4 | n => n, fun | n => n⟩
theorem Tryd.lays283 : Go.Proofs.Lays.n283 Tryd.prog Tryd.lays283_ren := {
  mixed := by kernel_rfl
  f283 := Tryd.func29.trans (congrArg some (by kernel_rfl))
  t3 := Tryd.underlying3
  a3 := Tryd.isAgg3
  z3 := Tryd.sizeOf3
  v3 := Tryd.zeroValue3
  t4 := Tryd.underlying4
  a4 := Tryd.isAgg4
  z4 := Tryd.sizeOf4
  v4 := Tryd.zeroValue4
  t9 := Tryd.underlying9
  a9 := Tryd.isAgg9
  z9 := Tryd.sizeOf9
  v9 := Tryd.zeroValue9 }
open Go.Lib in
/-- internal/strconv.small: "small returns the string for an i with 0 <= i < nSmalls.": i's decimal numeral. The world is as it was. (LAID: no walk: one application.) -/
theorem Tryd.internal_strconv_small (i : Nat) (h : i < 100) (w : World) :
    Calls Tryd.prog 29 #[.int .i64 i] w fun e w' => e = .returned (.string ⟨(Lib.decDigits i).toArray⟩) ∧ w' = w := Any.internal_strconv_small Tryd.lays283 i h w
def Tryd.laysM284_ren : Go.Shelf.Ren := ⟨fun | 284 => 30 | 129 => 37 | 317 => 36 | 318 => 38 | n => n, fun | 53 => 35 | 3 => 3 | 212 => 64 | 0 => 0 | 4 => 4 | 46 => 68 | 5 => 5 | 9 => 9 | n => n, fun | 17 => 1 | n => n⟩
theorem Tryd.laysM284 : Go.Proofs.LaysM.n284 Tryd.prog Tryd.laysM284_ren := {
  mixed := by kernel_rfl
  f129 := Tryd.func37.trans (congrArg some (by kernel_rfl))
  f284 := Tryd.func30.trans (congrArg some (by kernel_rfl))
  f317 := Tryd.func36.trans (congrArg some (by kernel_rfl))
  f318 := Tryd.func38.trans (congrArg some (by kernel_rfl))
  t0 := Tryd.underlying0
  a0 := Tryd.isAgg0
  z0 := Tryd.sizeOf0
  v0 := Tryd.zeroValue0
  t3 := Tryd.underlying3
  a3 := Tryd.isAgg3
  z3 := Tryd.sizeOf3
  v3 := Tryd.zeroValue3
  t4 := Tryd.underlying4
  a4 := Tryd.isAgg4
  z4 := Tryd.sizeOf4
  v4 := Tryd.zeroValue4
  t5 := Tryd.underlying5
  a5 := Tryd.isAgg5
  z5 := Tryd.sizeOf5
  v5 := Tryd.zeroValue5
  t9 := Tryd.underlying9
  a9 := Tryd.isAgg9
  z9 := Tryd.sizeOf9
  v9 := Tryd.zeroValue9
  t46 := Tryd.underlying68
  a46 := Tryd.isAgg68
  z46 := Tryd.sizeOf68
  v46 := Tryd.zeroValue68
  t53 := Tryd.underlying35
  a53 := Tryd.isAgg35
  z53 := Tryd.sizeOf35
  v53 := Tryd.zeroValue35
  t212 := Tryd.underlying64
  a212 := Tryd.isAgg64
  z212 := Tryd.sizeOf64
  v212 := Tryd.zeroValue64
  g17 := by kernel_rfl
  i0 := by kernel_rfl
  i3 := by kernel_rfl
  i4 := by kernel_rfl
  i5 := by kernel_rfl
  i9 := by kernel_rfl
  i46 := by kernel_rfl
  i53 := by kernel_rfl
  i212 := by kernel_rfl
  m17 := by kernel_rfl }
open Go.Lib in
/-- internal/strconv.numDigits, at a d that is not 0: THE NUMBER OF d's DECIMAL DIGITS. The world is as it was. (LAID: no walk: one application.) -/
theorem Tryd.internal_strconv_numDigits (u : Nat) (h1 : 1 ≤ u) (h2 : u < 18446744073709551616) (w : World) (htab : Lib.TabIs Tryd.prog w "internal/strconv.uint64pow10" .u64 Lib.pow10Tab) :
    Calls Tryd.prog 30 #[.int .u64 u] w fun e w' => e = .returned (.int .i64 (Lib.nDigits u)) ∧ w' = w := Any.internal_strconv_numDigits Tryd.laysM284 u h1 h2 w htab
def Tryd.lays285_ren : Go.Shelf.Ren := ⟨fun | 285 => 31 | n => n, fun | 37 => 58 | 53 => 35 | 3 => 3 | 4 => 4 | 51 => 65 | 9 => 9 | 5 => 5 | 0 => 0 | n => n, fun | n => n⟩
theorem Tryd.lays285 : Go.Proofs.Lays.n285 Tryd.prog Tryd.lays285_ren := {
  mixed := by kernel_rfl
  f285 := Tryd.func31.trans (congrArg some (by kernel_rfl))
  t0 := Tryd.underlying0
  a0 := Tryd.isAgg0
  z0 := Tryd.sizeOf0
  v0 := Tryd.zeroValue0
  t3 := Tryd.underlying3
  a3 := Tryd.isAgg3
  z3 := Tryd.sizeOf3
  v3 := Tryd.zeroValue3
  t4 := Tryd.underlying4
  a4 := Tryd.isAgg4
  z4 := Tryd.sizeOf4
  v4 := Tryd.zeroValue4
  t5 := Tryd.underlying5
  a5 := Tryd.isAgg5
  z5 := Tryd.sizeOf5
  v5 := Tryd.zeroValue5
  t9 := Tryd.underlying9
  a9 := Tryd.isAgg9
  z9 := Tryd.sizeOf9
  v9 := Tryd.zeroValue9
  t37 := Tryd.underlying58
  a37 := Tryd.isAgg58
  z37 := Tryd.sizeOf58
  v37 := Tryd.zeroValue58
  t51 := Tryd.underlying65
  a51 := Tryd.isAgg65
  z51 := Tryd.sizeOf65
  v51 := Tryd.zeroValue65
  t53 := Tryd.underlying35
  a53 := Tryd.isAgg35
  z53 := Tryd.sizeOf35
  v53 := Tryd.zeroValue35 }
open Go.RowKit Go.Sort Go.Lib in
/-- internal/strconv.formatBase10: "formatBase10 formats the decimal representation of u into a. The caller is responsible for ensuring that a is big enough to hold u. If a is too big, leading zeros will be filled in as needed.": THE ROW HOLDS u's DIGITS ('FmtInv .. 0 ..': every place t holds 'dg u (len - 1 - t)'); all else is as it was but for the count of draws. (LAID: no walk: one application.) -/
theorem Tryd.internal_strconv_formatBase10 (blk off cap : Nat) (u : Nat) (d : Array UInt8) (w : World) (hH : Holds (fun (b : UInt8) => Value.int .u8 (b.toNat : Int)) w blk off d) (hu : u < 10 ^ d.size) (hu64 : u < 18446744073709551616) (hsz : d.size < 4611686018427387904) :
    Calls Tryd.prog 31 #[.slice (some ⟨blk, off, none⟩) d.size cap, .int .u64 u] w fun e w' =>
      e = .returned (.tuple #[]) ∧ ∃ (n v' : Nat) (dk : Array UInt8), w' = (putRow (fun (b : UInt8) => Value.int .u8 (b.toNat : Int)) w blk off dk).drewN n ∧ FmtInv d.size u 0 v' dk := Any.internal_strconv_formatBase10 Tryd.lays285 blk off cap u d w hH hu hu64 hsz
def Tryd.laysM246_ren : Go.Shelf.Ren := ⟨fun | 246 => 24 | 283 => 29 | 284 => 30 | 285 => 31 | 286 => 32 | 129 => 37 | 317 => 36 | 318 => 38 | 319 => 39 | 320 => 40 | 337 => 45 | 338 => 46 | n => n, fun | 2 => 2 | 3 => 3 | 9 => 9 | 4 => 4 | 171 => 55 | 0 => 0 | 53 => 35 | 37 => 58 | 5 => 5 | 173 => 59 | 212 => 64 | 51 => 65 | 20 => 20 | 213 => 66 | 46 => 68 | 232 => 77 | 233 => 78 | n => n, fun | 17 => 1 | 18 => 4 | 19 => 5 | n => n⟩
theorem Tryd.laysM246 : Go.Proofs.LaysM.n246 Tryd.prog Tryd.laysM246_ren := {
  mixed := by kernel_rfl
  f129 := Tryd.func37.trans (congrArg some (by kernel_rfl))
  f246 := Tryd.func24.trans (congrArg some (by kernel_rfl))
  f283 := Tryd.func29.trans (congrArg some (by kernel_rfl))
  f284 := Tryd.func30.trans (congrArg some (by kernel_rfl))
  f285 := Tryd.func31.trans (congrArg some (by kernel_rfl))
  f286 := Tryd.func32.trans (congrArg some (by kernel_rfl))
  f317 := Tryd.func36.trans (congrArg some (by kernel_rfl))
  f318 := Tryd.func38.trans (congrArg some (by kernel_rfl))
  f319 := Tryd.func39.trans (congrArg some (by kernel_rfl))
  f320 := Tryd.func40.trans (congrArg some (by kernel_rfl))
  f337 := Tryd.func45.trans (congrArg some (by kernel_rfl))
  f338 := Tryd.func46.trans (congrArg some (by kernel_rfl))
  t0 := Tryd.underlying0
  a0 := Tryd.isAgg0
  z0 := Tryd.sizeOf0
  v0 := Tryd.zeroValue0
  t2 := Tryd.underlying2
  a2 := Tryd.isAgg2
  z2 := Tryd.sizeOf2
  v2 := Tryd.zeroValue2
  t3 := Tryd.underlying3
  a3 := Tryd.isAgg3
  z3 := Tryd.sizeOf3
  v3 := Tryd.zeroValue3
  t4 := Tryd.underlying4
  a4 := Tryd.isAgg4
  z4 := Tryd.sizeOf4
  v4 := Tryd.zeroValue4
  t5 := Tryd.underlying5
  a5 := Tryd.isAgg5
  z5 := Tryd.sizeOf5
  v5 := Tryd.zeroValue5
  t9 := Tryd.underlying9
  a9 := Tryd.isAgg9
  z9 := Tryd.sizeOf9
  v9 := Tryd.zeroValue9
  t20 := Tryd.underlying20
  a20 := Tryd.isAgg20
  z20 := Tryd.sizeOf20
  v20 := Tryd.zeroValue20
  t37 := Tryd.underlying58
  a37 := Tryd.isAgg58
  z37 := Tryd.sizeOf58
  v37 := Tryd.zeroValue58
  t46 := Tryd.underlying68
  a46 := Tryd.isAgg68
  z46 := Tryd.sizeOf68
  v46 := Tryd.zeroValue68
  t51 := Tryd.underlying65
  a51 := Tryd.isAgg65
  z51 := Tryd.sizeOf65
  v51 := Tryd.zeroValue65
  t53 := Tryd.underlying35
  a53 := Tryd.isAgg35
  z53 := Tryd.sizeOf35
  v53 := Tryd.zeroValue35
  t171 := Tryd.underlying55
  a171 := Tryd.isAgg55
  z171 := Tryd.sizeOf55
  v171 := Tryd.zeroValue55
  t173 := Tryd.underlying59
  a173 := Tryd.isAgg59
  z173 := Tryd.sizeOf59
  v173 := Tryd.zeroValue59
  t212 := Tryd.underlying64
  a212 := Tryd.isAgg64
  z212 := Tryd.sizeOf64
  v212 := Tryd.zeroValue64
  t213 := Tryd.underlying66
  a213 := Tryd.isAgg66
  z213 := Tryd.sizeOf66
  t232 := Tryd.underlying77
  a232 := Tryd.isAgg77
  z232 := Tryd.sizeOf77
  v232 := Tryd.zeroValue77
  t233 := Tryd.underlying78
  a233 := Tryd.isAgg78
  z233 := Tryd.sizeOf78
  v233 := Tryd.zeroValue78
  g17 := by kernel_rfl
  g18 := by kernel_rfl
  g19 := by kernel_rfl
  i0 := by kernel_rfl
  i2 := by kernel_rfl
  i3 := by kernel_rfl
  i4 := by kernel_rfl
  i5 := by kernel_rfl
  i9 := by kernel_rfl
  i20 := by kernel_rfl
  i37 := by kernel_rfl
  i46 := by kernel_rfl
  i51 := by kernel_rfl
  i53 := by kernel_rfl
  i171 := by kernel_rfl
  i173 := by kernel_rfl
  i212 := by kernel_rfl
  i232 := by kernel_rfl
  i233 := by kernel_rfl
  m17 := by kernel_rfl
  m18 := by kernel_rfl
  m19 := by kernel_rfl }
open Go.RowKit Go.Sort Go.Lib in
/-- internal/strconv.FormatInt: "FormatInt returns the string representation of i in the given base": AT BASE 10: i's decimal numeral, for every int64. The world behind the call: the world before it, new blocks behind the heap, draws. (LAID: no walk: one application.) -/
theorem Tryd.internal_strconv_FormatInt_10 (n : Int) (h0 : -9223372036854775808 ≤ n) (h1 : n ≤ 9223372036854775807) (w : World) (htab : Lib.TabIs Tryd.prog w "internal/strconv.uint64pow10" .u64 Lib.pow10Tab) :
    Calls Tryd.prog 24 #[.int .i64 n, .int .i64 10] w fun e w' => e = .returned (.string ⟨(Lib.itoa n).toArray⟩) ∧ ∃ k os, w' = grow (w.drewN k) os := Any.internal_strconv_FormatInt_10 Tryd.laysM246 n h0 h1 w htab
def Tryd.lays246_ren : Go.Shelf.Ren := ⟨fun | 246 => 24 | 283 => 29 | 284 => 30 | 285 => 31 | 286 => 32 | 129 => 37 | 317 => 36 | 318 => 38 | 319 => 39 | 320 => 40 | 337 => 45 | 338 => 46 | n => n, fun | 2 => 2 | 3 => 3 | 9 => 9 | 4 => 4 | 171 => 55 | 0 => 0 | 53 => 35 | 37 => 58 | 5 => 5 | 173 => 59 | 212 => 64 | 51 => 65 | 20 => 20 | 213 => 66 | 46 => 68 | 232 => 77 | 233 => 78 | n => n, fun | 17 => 1 | 18 => 4 | 19 => 5 | n => n⟩
theorem Tryd.lays246 : Go.Proofs.Lays.n246 Tryd.prog Tryd.lays246_ren := {
  mixed := by kernel_rfl
  f129 := Tryd.func37.trans (congrArg some (by kernel_rfl))
  f246 := Tryd.func24.trans (congrArg some (by kernel_rfl))
  f283 := Tryd.func29.trans (congrArg some (by kernel_rfl))
  f284 := Tryd.func30.trans (congrArg some (by kernel_rfl))
  f285 := Tryd.func31.trans (congrArg some (by kernel_rfl))
  f286 := Tryd.func32.trans (congrArg some (by kernel_rfl))
  f317 := Tryd.func36.trans (congrArg some (by kernel_rfl))
  f318 := Tryd.func38.trans (congrArg some (by kernel_rfl))
  f319 := Tryd.func39.trans (congrArg some (by kernel_rfl))
  f320 := Tryd.func40.trans (congrArg some (by kernel_rfl))
  f337 := Tryd.func45.trans (congrArg some (by kernel_rfl))
  f338 := Tryd.func46.trans (congrArg some (by kernel_rfl))
  t0 := Tryd.underlying0
  a0 := Tryd.isAgg0
  z0 := Tryd.sizeOf0
  v0 := Tryd.zeroValue0
  t2 := Tryd.underlying2
  a2 := Tryd.isAgg2
  z2 := Tryd.sizeOf2
  v2 := Tryd.zeroValue2
  t3 := Tryd.underlying3
  a3 := Tryd.isAgg3
  z3 := Tryd.sizeOf3
  v3 := Tryd.zeroValue3
  t4 := Tryd.underlying4
  a4 := Tryd.isAgg4
  z4 := Tryd.sizeOf4
  v4 := Tryd.zeroValue4
  t5 := Tryd.underlying5
  a5 := Tryd.isAgg5
  z5 := Tryd.sizeOf5
  v5 := Tryd.zeroValue5
  t9 := Tryd.underlying9
  a9 := Tryd.isAgg9
  z9 := Tryd.sizeOf9
  v9 := Tryd.zeroValue9
  t20 := Tryd.underlying20
  a20 := Tryd.isAgg20
  z20 := Tryd.sizeOf20
  v20 := Tryd.zeroValue20
  t37 := Tryd.underlying58
  a37 := Tryd.isAgg58
  z37 := Tryd.sizeOf58
  v37 := Tryd.zeroValue58
  t46 := Tryd.underlying68
  a46 := Tryd.isAgg68
  z46 := Tryd.sizeOf68
  v46 := Tryd.zeroValue68
  t51 := Tryd.underlying65
  a51 := Tryd.isAgg65
  z51 := Tryd.sizeOf65
  v51 := Tryd.zeroValue65
  t53 := Tryd.underlying35
  a53 := Tryd.isAgg35
  z53 := Tryd.sizeOf35
  v53 := Tryd.zeroValue35
  t171 := Tryd.underlying55
  a171 := Tryd.isAgg55
  z171 := Tryd.sizeOf55
  v171 := Tryd.zeroValue55
  t173 := Tryd.underlying59
  a173 := Tryd.isAgg59
  z173 := Tryd.sizeOf59
  v173 := Tryd.zeroValue59
  t212 := Tryd.underlying64
  a212 := Tryd.isAgg64
  z212 := Tryd.sizeOf64
  v212 := Tryd.zeroValue64
  t213 := Tryd.underlying66
  a213 := Tryd.isAgg66
  z213 := Tryd.sizeOf66
  t232 := Tryd.underlying77
  a232 := Tryd.isAgg77
  z232 := Tryd.sizeOf77
  v232 := Tryd.zeroValue77
  t233 := Tryd.underlying78
  a233 := Tryd.isAgg78
  z233 := Tryd.sizeOf78
  v233 := Tryd.zeroValue78
  g17 := by kernel_rfl
  g18 := by kernel_rfl
  g19 := by kernel_rfl }
open Go.RowKit Go.Sort Go.Lib in
/-- THE ROAD WITHOUT THE TABLE: 0 <= i < 100: two constants are read, nothing is laid: no premise on the world, and the world is as it was. (LAID: no walk: one application.) -/
theorem Tryd.internal_strconv_FormatInt_10_small (i : Nat) (hi : i < 100) (w : World) :
    Calls Tryd.prog 24 #[.int .i64 i, .int .i64 10] w fun e w' => e = .returned (.string ⟨(Lib.decDigits i).toArray⟩) ∧ w' = w := Any.internal_strconv_FormatInt_10_small Tryd.lays246 i hi w
def Tryd.laysM173_ren : Go.Shelf.Ren := ⟨fun | 173 => 17 | 246 => 24 | 283 => 29 | 284 => 30 | 285 => 31 | 286 => 32 | 129 => 37 | 317 => 36 | 318 => 38 | 319 => 39 | 320 => 40 | 337 => 45 | 338 => 46 | n => n, fun | 2 => 2 | 3 => 3 | 9 => 9 | 4 => 4 | 171 => 55 | 0 => 0 | 53 => 35 | 37 => 58 | 5 => 5 | 173 => 59 | 212 => 64 | 51 => 65 | 20 => 20 | 213 => 66 | 46 => 68 | 232 => 77 | 233 => 78 | n => n, fun | 17 => 1 | 18 => 4 | 19 => 5 | n => n⟩
theorem Tryd.laysM173 : Go.Proofs.LaysM.n173 Tryd.prog Tryd.laysM173_ren := {
  mixed := by kernel_rfl
  f129 := Tryd.func37.trans (congrArg some (by kernel_rfl))
  f173 := Tryd.func17.trans (congrArg some (by kernel_rfl))
  f246 := Tryd.func24.trans (congrArg some (by kernel_rfl))
  f283 := Tryd.func29.trans (congrArg some (by kernel_rfl))
  f284 := Tryd.func30.trans (congrArg some (by kernel_rfl))
  f285 := Tryd.func31.trans (congrArg some (by kernel_rfl))
  f286 := Tryd.func32.trans (congrArg some (by kernel_rfl))
  f317 := Tryd.func36.trans (congrArg some (by kernel_rfl))
  f318 := Tryd.func38.trans (congrArg some (by kernel_rfl))
  f319 := Tryd.func39.trans (congrArg some (by kernel_rfl))
  f320 := Tryd.func40.trans (congrArg some (by kernel_rfl))
  f337 := Tryd.func45.trans (congrArg some (by kernel_rfl))
  f338 := Tryd.func46.trans (congrArg some (by kernel_rfl))
  t0 := Tryd.underlying0
  a0 := Tryd.isAgg0
  z0 := Tryd.sizeOf0
  v0 := Tryd.zeroValue0
  t2 := Tryd.underlying2
  a2 := Tryd.isAgg2
  z2 := Tryd.sizeOf2
  v2 := Tryd.zeroValue2
  t3 := Tryd.underlying3
  a3 := Tryd.isAgg3
  z3 := Tryd.sizeOf3
  v3 := Tryd.zeroValue3
  t4 := Tryd.underlying4
  a4 := Tryd.isAgg4
  z4 := Tryd.sizeOf4
  v4 := Tryd.zeroValue4
  t5 := Tryd.underlying5
  a5 := Tryd.isAgg5
  z5 := Tryd.sizeOf5
  v5 := Tryd.zeroValue5
  t9 := Tryd.underlying9
  a9 := Tryd.isAgg9
  z9 := Tryd.sizeOf9
  v9 := Tryd.zeroValue9
  t20 := Tryd.underlying20
  a20 := Tryd.isAgg20
  z20 := Tryd.sizeOf20
  v20 := Tryd.zeroValue20
  t37 := Tryd.underlying58
  a37 := Tryd.isAgg58
  z37 := Tryd.sizeOf58
  v37 := Tryd.zeroValue58
  t46 := Tryd.underlying68
  a46 := Tryd.isAgg68
  z46 := Tryd.sizeOf68
  v46 := Tryd.zeroValue68
  t51 := Tryd.underlying65
  a51 := Tryd.isAgg65
  z51 := Tryd.sizeOf65
  v51 := Tryd.zeroValue65
  t53 := Tryd.underlying35
  a53 := Tryd.isAgg35
  z53 := Tryd.sizeOf35
  v53 := Tryd.zeroValue35
  t171 := Tryd.underlying55
  a171 := Tryd.isAgg55
  z171 := Tryd.sizeOf55
  v171 := Tryd.zeroValue55
  t173 := Tryd.underlying59
  a173 := Tryd.isAgg59
  z173 := Tryd.sizeOf59
  v173 := Tryd.zeroValue59
  t212 := Tryd.underlying64
  a212 := Tryd.isAgg64
  z212 := Tryd.sizeOf64
  v212 := Tryd.zeroValue64
  t213 := Tryd.underlying66
  a213 := Tryd.isAgg66
  z213 := Tryd.sizeOf66
  t232 := Tryd.underlying77
  a232 := Tryd.isAgg77
  z232 := Tryd.sizeOf77
  v232 := Tryd.zeroValue77
  t233 := Tryd.underlying78
  a233 := Tryd.isAgg78
  z233 := Tryd.sizeOf78
  v233 := Tryd.zeroValue78
  g17 := by kernel_rfl
  g18 := by kernel_rfl
  g19 := by kernel_rfl
  i0 := by kernel_rfl
  i2 := by kernel_rfl
  i3 := by kernel_rfl
  i4 := by kernel_rfl
  i5 := by kernel_rfl
  i9 := by kernel_rfl
  i20 := by kernel_rfl
  i37 := by kernel_rfl
  i46 := by kernel_rfl
  i51 := by kernel_rfl
  i53 := by kernel_rfl
  i171 := by kernel_rfl
  i173 := by kernel_rfl
  i212 := by kernel_rfl
  i232 := by kernel_rfl
  i233 := by kernel_rfl
  m17 := by kernel_rfl
  m18 := by kernel_rfl
  m19 := by kernel_rfl }
open Go.RowKit Go.Sort Go.Lib in
/-- strconv.FormatInt: "FormatInt returns the string representation of i in the given base": AT BASE 10: i's decimal numeral, for every int64. (LAID: no walk: one application.) -/
theorem Tryd.strconv_FormatInt_10 (n : Int) (h0 : -9223372036854775808 ≤ n) (h1 : n ≤ 9223372036854775807) (w : World) (htab : Lib.TabIs Tryd.prog w "internal/strconv.uint64pow10" .u64 Lib.pow10Tab) :
    Calls Tryd.prog 17 #[.int .i64 n, .int .i64 10] w fun e w' => e = .returned (.string ⟨(Lib.itoa n).toArray⟩) ∧ ∃ k os, w' = grow (w.drewN k) os := Any.strconv_FormatInt_10 Tryd.laysM173 n h0 h1 w htab
def Tryd.lays173_ren : Go.Shelf.Ren := ⟨fun | 173 => 17 | 246 => 24 | 283 => 29 | 284 => 30 | 285 => 31 | 286 => 32 | 129 => 37 | 317 => 36 | 318 => 38 | 319 => 39 | 320 => 40 | 337 => 45 | 338 => 46 | n => n, fun | 2 => 2 | 3 => 3 | 9 => 9 | 4 => 4 | 171 => 55 | 0 => 0 | 53 => 35 | 37 => 58 | 5 => 5 | 173 => 59 | 212 => 64 | 51 => 65 | 20 => 20 | 213 => 66 | 46 => 68 | 232 => 77 | 233 => 78 | n => n, fun | 17 => 1 | 18 => 4 | 19 => 5 | n => n⟩
theorem Tryd.lays173 : Go.Proofs.Lays.n173 Tryd.prog Tryd.lays173_ren := {
  mixed := by kernel_rfl
  f129 := Tryd.func37.trans (congrArg some (by kernel_rfl))
  f173 := Tryd.func17.trans (congrArg some (by kernel_rfl))
  f246 := Tryd.func24.trans (congrArg some (by kernel_rfl))
  f283 := Tryd.func29.trans (congrArg some (by kernel_rfl))
  f284 := Tryd.func30.trans (congrArg some (by kernel_rfl))
  f285 := Tryd.func31.trans (congrArg some (by kernel_rfl))
  f286 := Tryd.func32.trans (congrArg some (by kernel_rfl))
  f317 := Tryd.func36.trans (congrArg some (by kernel_rfl))
  f318 := Tryd.func38.trans (congrArg some (by kernel_rfl))
  f319 := Tryd.func39.trans (congrArg some (by kernel_rfl))
  f320 := Tryd.func40.trans (congrArg some (by kernel_rfl))
  f337 := Tryd.func45.trans (congrArg some (by kernel_rfl))
  f338 := Tryd.func46.trans (congrArg some (by kernel_rfl))
  t0 := Tryd.underlying0
  a0 := Tryd.isAgg0
  z0 := Tryd.sizeOf0
  v0 := Tryd.zeroValue0
  t2 := Tryd.underlying2
  a2 := Tryd.isAgg2
  z2 := Tryd.sizeOf2
  v2 := Tryd.zeroValue2
  t3 := Tryd.underlying3
  a3 := Tryd.isAgg3
  z3 := Tryd.sizeOf3
  v3 := Tryd.zeroValue3
  t4 := Tryd.underlying4
  a4 := Tryd.isAgg4
  z4 := Tryd.sizeOf4
  v4 := Tryd.zeroValue4
  t5 := Tryd.underlying5
  a5 := Tryd.isAgg5
  z5 := Tryd.sizeOf5
  v5 := Tryd.zeroValue5
  t9 := Tryd.underlying9
  a9 := Tryd.isAgg9
  z9 := Tryd.sizeOf9
  v9 := Tryd.zeroValue9
  t20 := Tryd.underlying20
  a20 := Tryd.isAgg20
  z20 := Tryd.sizeOf20
  v20 := Tryd.zeroValue20
  t37 := Tryd.underlying58
  a37 := Tryd.isAgg58
  z37 := Tryd.sizeOf58
  v37 := Tryd.zeroValue58
  t46 := Tryd.underlying68
  a46 := Tryd.isAgg68
  z46 := Tryd.sizeOf68
  v46 := Tryd.zeroValue68
  t51 := Tryd.underlying65
  a51 := Tryd.isAgg65
  z51 := Tryd.sizeOf65
  v51 := Tryd.zeroValue65
  t53 := Tryd.underlying35
  a53 := Tryd.isAgg35
  z53 := Tryd.sizeOf35
  v53 := Tryd.zeroValue35
  t171 := Tryd.underlying55
  a171 := Tryd.isAgg55
  z171 := Tryd.sizeOf55
  v171 := Tryd.zeroValue55
  t173 := Tryd.underlying59
  a173 := Tryd.isAgg59
  z173 := Tryd.sizeOf59
  v173 := Tryd.zeroValue59
  t212 := Tryd.underlying64
  a212 := Tryd.isAgg64
  z212 := Tryd.sizeOf64
  v212 := Tryd.zeroValue64
  t213 := Tryd.underlying66
  a213 := Tryd.isAgg66
  z213 := Tryd.sizeOf66
  t232 := Tryd.underlying77
  a232 := Tryd.isAgg77
  z232 := Tryd.sizeOf77
  v232 := Tryd.zeroValue77
  t233 := Tryd.underlying78
  a233 := Tryd.isAgg78
  z233 := Tryd.sizeOf78
  v233 := Tryd.zeroValue78
  g17 := by kernel_rfl
  g18 := by kernel_rfl
  g19 := by kernel_rfl }
open Go.RowKit Go.Sort Go.Lib in
/-- THE ROAD WITHOUT THE TABLE: 0 <= i < 100. (LAID: no walk: one application.) -/
theorem Tryd.strconv_FormatInt_10_small (i : Nat) (hi : i < 100) (w : World) :
    Calls Tryd.prog 17 #[.int .i64 i, .int .i64 10] w fun e w' => e = .returned (.string ⟨(Lib.decDigits i).toArray⟩) ∧ w' = w := Any.strconv_FormatInt_10_small Tryd.lays173 i hi w
def Tryd.lays217_ren : Go.Shelf.Ren := ⟨fun | 217 => 47 | 266 => 48 | n => n, fun | 9 => 9 | 5 => 5 | 3 => 3 | n => n, fun | n => n⟩
theorem Tryd.lays217 : Go.Proofs.Lays.n217 Tryd.prog Tryd.lays217_ren := {
  mixed := by kernel_rfl
  f217 := Tryd.func47.trans (congrArg some (by kernel_rfl))
  f266 := Tryd.func48.trans (congrArg some (by kernel_rfl))
  t3 := Tryd.underlying3
  a3 := Tryd.isAgg3
  z3 := Tryd.sizeOf3
  v3 := Tryd.zeroValue3
  t5 := Tryd.underlying5
  a5 := Tryd.isAgg5
  z5 := Tryd.sizeOf5
  v5 := Tryd.zeroValue5
  t9 := Tryd.underlying9
  a9 := Tryd.isAgg9
  z9 := Tryd.sizeOf9
  v9 := Tryd.zeroValue9 }
open Go.RowKit Go.Lib in
/-- internal/stringslite.IndexByte (what strings.IndexByte calls): IT RETURNS 'Lib.indexByte s c'; the world is as it was. (LAID: no walk: one application.) -/
theorem Tryd.stringslite_IndexByte (s : ByteArray) (c : Int) (w : World) :
    Calls Tryd.prog 47 #[.string s, .int .u8 c] w fun e w' => e = .returned (.int .i64 (Lib.indexByte s.data.toList c.toNat.toUInt8)) ∧ w' = w := Any.stringslite_IndexByte Tryd.lays217 s c w
def Tryd.lays224_ren : Go.Shelf.Ren := ⟨fun | 224 => 43 | n => n, fun | 3 => 3 | n => n, fun | n => n⟩
theorem Tryd.lays224 : Go.Proofs.Lays.n224 Tryd.prog Tryd.lays224_ren := {
  mixed := by kernel_rfl
  f224 := Tryd.func43.trans (congrArg some (by kernel_rfl))
  t3 := Tryd.underlying3
  a3 := Tryd.isAgg3
  z3 := Tryd.sizeOf3
  v3 := Tryd.zeroValue3 }
open Go.RowKit Go.Lib in
/-- internal/bytealg.Cutover: "Cutover reports the number of failures of IndexByte we should tolerate before switching over to Index. n is the number of bytes processed so far.": on amd64: (n + 16) / 8. (LAID: no walk: one application.) -/
theorem Tryd.bytealg_Cutover (n : Int) (h0 : 0 ≤ n) (h1 : n < 4611686018427387904) (w : World) :
    Calls Tryd.prog 43 #[.int .i64 n] w fun e w' => e = .returned (.int .i64 ((n + 16) / 8)) ∧ w' = w := Any.bytealg_Cutover Tryd.lays224 n h0 h1 w
def Tryd.lays197_ren : Go.Shelf.Ren := ⟨fun | 197 => 27 | 260 => 34 | n => n, fun | 9 => 9 | 21 => 21 | 3 => 3 | 4 => 4 | 5 => 5 | 105 => 51 | 119 => 70 | 0 => 0 | 46 => 68 | 139 => 73 | 138 => 72 | n => n, fun | 3 => 2 | 4 => 3 | n => n⟩
theorem Tryd.lays197 : Go.Proofs.Lays.n197 Tryd.prog Tryd.lays197_ren := {
  mixed := by kernel_rfl
  f197 := Tryd.func27.trans (congrArg some (by kernel_rfl))
  f260 := Tryd.func34.trans (congrArg some (by kernel_rfl))
  t0 := Tryd.underlying0
  a0 := Tryd.isAgg0
  z0 := Tryd.sizeOf0
  v0 := Tryd.zeroValue0
  t3 := Tryd.underlying3
  a3 := Tryd.isAgg3
  z3 := Tryd.sizeOf3
  v3 := Tryd.zeroValue3
  t4 := Tryd.underlying4
  a4 := Tryd.isAgg4
  z4 := Tryd.sizeOf4
  v4 := Tryd.zeroValue4
  t5 := Tryd.underlying5
  a5 := Tryd.isAgg5
  z5 := Tryd.sizeOf5
  v5 := Tryd.zeroValue5
  t9 := Tryd.underlying9
  a9 := Tryd.isAgg9
  z9 := Tryd.sizeOf9
  v9 := Tryd.zeroValue9
  t21 := Tryd.underlying21
  a21 := Tryd.isAgg21
  z21 := Tryd.sizeOf21
  v21 := Tryd.zeroValue21
  t46 := Tryd.underlying68
  a46 := Tryd.isAgg68
  z46 := Tryd.sizeOf68
  v46 := Tryd.zeroValue68
  t105 := Tryd.underlying51
  a105 := Tryd.isAgg51
  z105 := Tryd.sizeOf51
  v105 := Tryd.zeroValue51
  t119 := Tryd.underlying70
  a119 := Tryd.isAgg70
  z119 := Tryd.sizeOf70
  t138 := Tryd.underlying72
  a138 := Tryd.isAgg72
  z138 := Tryd.sizeOf72
  v138 := Tryd.zeroValue72
  t139 := Tryd.underlying73
  a139 := Tryd.isAgg73
  z139 := Tryd.sizeOf73
  v139 := Tryd.zeroValue73
  g3 := by kernel_rfl
  g4 := by kernel_rfl }
open Go.RowKit Go.Lib in
/-- unicode/utf8.DecodeRuneInString: "DecodeRuneInString is like DecodeRune but its input is a string.": ("DecodeRune unpacks the first UTF-8 encoding in p and returns the rune and its width in bytes."): WHERE s BEGINS WITH AN ASCII BYTE x: (x, 1). (LAID: no walk: one application.) -/
theorem Tryd.utf8_DecodeRuneInString_ascii (s : ByteArray) (x : UInt8) (w : World) (h0 : s.data.toList[0]? = some x) (hx : x.toNat < 128) :
    Calls Tryd.prog 27 #[.string s] w fun e w' => e = .returned (.tuple #[.int .i32 x.toNat, .int .i64 1]) ∧ w' = w := Any.utf8_DecodeRuneInString_ascii Tryd.lays197 s x w h0 hx
def Tryd.lays152_ren : Go.Shelf.Ren := ⟨fun | 152 => 35 | 137 => 41 | 119 => 42 | 224 => 43 | 225 => 44 | 217 => 47 | 266 => 48 | n => n, fun | 9 => 9 | 21 => 21 | 3 => 3 | 4 => 4 | 5 => 5 | 0 => 0 | 46 => 68 | n => n, fun | n => n⟩
theorem Tryd.lays152 : Go.Proofs.Lays.n152 Tryd.prog Tryd.lays152_ren := {
  mixed := by kernel_rfl
  f119 := Tryd.func42.trans (congrArg some (by kernel_rfl))
  f137 := Tryd.func41.trans (congrArg some (by kernel_rfl))
  f152 := Tryd.func35.trans (congrArg some (by kernel_rfl))
  f217 := Tryd.func47.trans (congrArg some (by kernel_rfl))
  f224 := Tryd.func43.trans (congrArg some (by kernel_rfl))
  f225 := Tryd.func44.trans (congrArg some (by kernel_rfl))
  f266 := Tryd.func48.trans (congrArg some (by kernel_rfl))
  t0 := Tryd.underlying0
  a0 := Tryd.isAgg0
  z0 := Tryd.sizeOf0
  v0 := Tryd.zeroValue0
  t3 := Tryd.underlying3
  a3 := Tryd.isAgg3
  z3 := Tryd.sizeOf3
  v3 := Tryd.zeroValue3
  t4 := Tryd.underlying4
  a4 := Tryd.isAgg4
  z4 := Tryd.sizeOf4
  v4 := Tryd.zeroValue4
  t5 := Tryd.underlying5
  a5 := Tryd.isAgg5
  z5 := Tryd.sizeOf5
  v5 := Tryd.zeroValue5
  t9 := Tryd.underlying9
  a9 := Tryd.isAgg9
  z9 := Tryd.sizeOf9
  v9 := Tryd.zeroValue9
  t21 := Tryd.underlying21
  a21 := Tryd.isAgg21
  z21 := Tryd.sizeOf21
  v21 := Tryd.zeroValue21
  t46 := Tryd.underlying68
  a46 := Tryd.isAgg68
  z46 := Tryd.sizeOf68
  v46 := Tryd.zeroValue68 }
open Go.RowKit Go.Lib in
theorem Tryd.strings_IndexRune_ascii (s : ByteArray) (r : Int) (w : World) (h0 : 0 ≤ r) (h1 : r < 128) :
    Calls Tryd.prog 35 #[.string s, .int .i32 r] w fun e w' => e = .returned (.int .i64 (Lib.indexByte s.data.toList r.toNat.toUInt8)) ∧ w' = w := Any.strings_IndexRune_ascii Tryd.lays152 s r w h0 h1
def Tryd.lays151_ren : Go.Shelf.Ren := ⟨fun | 151 => 28 | 152 => 35 | 137 => 41 | 119 => 42 | 224 => 43 | 225 => 44 | 217 => 47 | 266 => 48 | n => n, fun | 9 => 9 | 21 => 21 | 4 => 4 | 3 => 3 | 5 => 5 | 0 => 0 | 46 => 68 | n => n, fun | n => n⟩
theorem Tryd.lays151 : Go.Proofs.Lays.n151 Tryd.prog Tryd.lays151_ren := {
  mixed := by kernel_rfl
  f119 := Tryd.func42.trans (congrArg some (by kernel_rfl))
  f137 := Tryd.func41.trans (congrArg some (by kernel_rfl))
  f151 := Tryd.func28.trans (congrArg some (by kernel_rfl))
  f152 := Tryd.func35.trans (congrArg some (by kernel_rfl))
  f217 := Tryd.func47.trans (congrArg some (by kernel_rfl))
  f224 := Tryd.func43.trans (congrArg some (by kernel_rfl))
  f225 := Tryd.func44.trans (congrArg some (by kernel_rfl))
  f266 := Tryd.func48.trans (congrArg some (by kernel_rfl))
  t0 := Tryd.underlying0
  a0 := Tryd.isAgg0
  z0 := Tryd.sizeOf0
  v0 := Tryd.zeroValue0
  t3 := Tryd.underlying3
  a3 := Tryd.isAgg3
  z3 := Tryd.sizeOf3
  v3 := Tryd.zeroValue3
  t4 := Tryd.underlying4
  a4 := Tryd.isAgg4
  z4 := Tryd.sizeOf4
  v4 := Tryd.zeroValue4
  t5 := Tryd.underlying5
  a5 := Tryd.isAgg5
  z5 := Tryd.sizeOf5
  v5 := Tryd.zeroValue5
  t9 := Tryd.underlying9
  a9 := Tryd.isAgg9
  z9 := Tryd.sizeOf9
  v9 := Tryd.zeroValue9
  t21 := Tryd.underlying21
  a21 := Tryd.isAgg21
  z21 := Tryd.sizeOf21
  v21 := Tryd.zeroValue21
  t46 := Tryd.underlying68
  a46 := Tryd.isAgg68
  z46 := Tryd.sizeOf68
  v46 := Tryd.zeroValue68 }
open Go.RowKit Go.Lib in
theorem Tryd.strings_ContainsRune_ascii (s : ByteArray) (r : Int) (w : World) (h0 : 0 ≤ r) (h1 : r < 128) :
    Calls Tryd.prog 28 #[.string s, .int .i32 r] w fun e w' => e = .returned (.bool (decide (0 ≤ Lib.indexByte s.data.toList r.toNat.toUInt8))) ∧ w' = w := Any.strings_ContainsRune_ascii Tryd.lays151 s r w h0 h1
def Tryd.lays227_ren : Go.Shelf.Ren := ⟨fun | 227 => 21 | n => n, fun | 9 => 9 | 116 => 45 | 4 => 4 | 0 => 0 | 3 => 3 | 5 => 5 | n => n, fun | n => n⟩
theorem Tryd.lays227 : Go.Proofs.Lays.n227 Tryd.prog Tryd.lays227_ren := {
  mixed := by kernel_rfl
  f227 := Tryd.func21.trans (congrArg some (by kernel_rfl))
  t0 := Tryd.underlying0
  a0 := Tryd.isAgg0
  z0 := Tryd.sizeOf0
  v0 := Tryd.zeroValue0
  t3 := Tryd.underlying3
  a3 := Tryd.isAgg3
  z3 := Tryd.sizeOf3
  v3 := Tryd.zeroValue3
  t4 := Tryd.underlying4
  a4 := Tryd.isAgg4
  z4 := Tryd.sizeOf4
  v4 := Tryd.zeroValue4
  t5 := Tryd.underlying5
  a5 := Tryd.isAgg5
  z5 := Tryd.sizeOf5
  v5 := Tryd.zeroValue5
  t9 := Tryd.underlying9
  a9 := Tryd.isAgg9
  z9 := Tryd.sizeOf9
  v9 := Tryd.zeroValue9
  t116 := Tryd.underlying45
  a116 := Tryd.isAgg45
  z116 := Tryd.sizeOf45 }
open Go.RowKit Go.Lib in
theorem Tryd.strings_makeASCIISet (hv116 : ∀ w, (zeroValue 45).run Tryd.prog w = .ok (.agg (Array.replicate 256 (.bool false))) w) (chars : ByteArray) (w : World) (hs : chars.size < 4294967281) (hascii : ∀ (j : Nat) b, chars.data.toList[j]? = some b → b.toNat < 128) :
    Calls Tryd.prog 21 #[.string chars] w fun e w' => e = .returned (.tuple #[.agg (Lib.setCells chars.data.toList), .bool true]) ∧ w' = w.alloc (.cells (Lib.setCells chars.data.toList) 45) := Any.strings_makeASCIISet Tryd.lays227 hv116 (by kernel_rfl) chars w hs hascii
def Tryd.lays228_ren : Go.Shelf.Ren := ⟨fun | 228 => 26 | n => n, fun | 124 => 49 | 5 => 5 | 4 => 4 | 0 => 0 | 116 => 45 | n => n, fun | n => n⟩
theorem Tryd.lays228 : Go.Proofs.Lays.n228 Tryd.prog Tryd.lays228_ren := {
  mixed := by kernel_rfl
  f228 := Tryd.func26.trans (congrArg some (by kernel_rfl))
  t0 := Tryd.underlying0
  a0 := Tryd.isAgg0
  z0 := Tryd.sizeOf0
  v0 := Tryd.zeroValue0
  t4 := Tryd.underlying4
  a4 := Tryd.isAgg4
  z4 := Tryd.sizeOf4
  v4 := Tryd.zeroValue4
  t5 := Tryd.underlying5
  a5 := Tryd.isAgg5
  z5 := Tryd.sizeOf5
  v5 := Tryd.zeroValue5
  t116 := Tryd.underlying45
  a116 := Tryd.isAgg45
  z116 := Tryd.sizeOf45
  t124 := Tryd.underlying49
  a124 := Tryd.isAgg49
  z124 := Tryd.sizeOf49
  v124 := Tryd.zeroValue49 }
open Go.RowKit Go.Lib in
/-- '(as *asciiSet) contains(c)': 'as[c]': the set lies at block b, whole. (LAID: no walk: one application.) -/
theorem Tryd.asciiSet_contains (b : Nat) (x : UInt8) (v : Bool) (w : World) (hc : w.cell? ⟨b, x.toNat, none⟩ = some (.bool v)) :
    Calls Tryd.prog 26 #[.pointer (some ⟨b, 0, none⟩), .int .u8 x.toNat] w fun e w' => e = .returned (.bool v) ∧ w' = w := Any.asciiSet_contains Tryd.lays228 b x v w hc
def Tryd.lays260_ren : Go.Shelf.Ren := ⟨fun | 260 => 34 | n => n, fun | 9 => 9 | 21 => 21 | 3 => 3 | 4 => 4 | 5 => 5 | 119 => 70 | 0 => 0 | 46 => 68 | 139 => 73 | 138 => 72 | n => n, fun | 3 => 2 | 4 => 3 | n => n⟩
theorem Tryd.lays260 : Go.Proofs.Lays.n260 Tryd.prog Tryd.lays260_ren := {
  mixed := by kernel_rfl
  f260 := Tryd.func34.trans (congrArg some (by kernel_rfl))
  t0 := Tryd.underlying0
  a0 := Tryd.isAgg0
  z0 := Tryd.sizeOf0
  v0 := Tryd.zeroValue0
  t3 := Tryd.underlying3
  a3 := Tryd.isAgg3
  z3 := Tryd.sizeOf3
  v3 := Tryd.zeroValue3
  t4 := Tryd.underlying4
  a4 := Tryd.isAgg4
  z4 := Tryd.sizeOf4
  v4 := Tryd.zeroValue4
  t5 := Tryd.underlying5
  a5 := Tryd.isAgg5
  z5 := Tryd.sizeOf5
  v5 := Tryd.zeroValue5
  t9 := Tryd.underlying9
  a9 := Tryd.isAgg9
  z9 := Tryd.sizeOf9
  v9 := Tryd.zeroValue9
  t21 := Tryd.underlying21
  a21 := Tryd.isAgg21
  z21 := Tryd.sizeOf21
  v21 := Tryd.zeroValue21
  t46 := Tryd.underlying68
  a46 := Tryd.isAgg68
  z46 := Tryd.sizeOf68
  v46 := Tryd.zeroValue68
  t119 := Tryd.underlying70
  a119 := Tryd.isAgg70
  z119 := Tryd.sizeOf70
  t138 := Tryd.underlying72
  a138 := Tryd.isAgg72
  z138 := Tryd.sizeOf72
  v138 := Tryd.zeroValue72
  t139 := Tryd.underlying73
  a139 := Tryd.isAgg73
  z139 := Tryd.sizeOf73
  v139 := Tryd.zeroValue73
  g3 := by kernel_rfl
  g4 := by kernel_rfl }
open Go.RowKit Go.Lib in
theorem Tryd.utf8_decodeRuneInStringSlow (s : ByteArray) (w : World) (hT : Lib.Utf8Tabs 2 3 w) :
    Calls Tryd.prog 34 #[.string s] w fun e w' => e = .returned (.tuple #[.int .i32 (Lib.decodeGo s).1, .int .i64 (Lib.decodeGo s).2]) ∧ Below w.heap.size w w' := Any.utf8_decodeRuneInStringSlow Tryd.lays260 s w hT
open Go.RowKit Go.Lib in
/-- **unicode/utf8.DecodeRuneInString AT EVERY STRING.** (LAID: no walk: one application.) -/
theorem Tryd.utf8_DecodeRuneInString (s : ByteArray) (w : World) (hT : Lib.Utf8Tabs 2 3 w) :
    Calls Tryd.prog 27 #[.string s] w fun e w' => e = .returned (.tuple #[.int .i32 (Lib.decodeGo s).1, .int .i64 (Lib.decodeGo s).2]) ∧ Below w.heap.size w w' := Any.utf8_DecodeRuneInString Tryd.lays197 s w hT
end Go.Proofs
/- The Need seat: naturals by their digits to the base 10000. -/
set_option linter.unusedVariables false
set_option linter.unusedSimpArgs false
set_option linter.unusedSectionVars false
namespace Go.AM.N20
open Go Go.AM
/-- A natural as the document's list. -/
def Big (H : Hp) (v : Value) (n : Nat) : Prop := Rdb H 1 v (dg 10000 n).length (u64s (dg 10000 n))
theorem Big.frm {H H' : Hp} {v : Value} {n : Nat} (h : Big H v n) (f : Frm (fun _ => False) H H') : Big H' v n := Rdb.keep h f fun j _ q => q
theorem b10 : 2 ≤ 10000 := by decide
/-- The library's functions that are taken whole: FormatInt at base 10, Compare. -/
def tabOk : List Value → List Int → Bool
  | [], [] => true
  | .int .u64 a :: r, b :: s => decide (a = b) && tabOk r s
  | _, _ => false
theorem tabOk_eq : ∀ (l : List Value) (s : List Int), tabOk l s = true → l = s.map fun z => Value.int .u64 z
  | [], [], _ => rfl
  | [], _ :: _, h => by cases h
  | _ :: _, [], h => by unfold tabOk at h; split at h <;> simp_all
  | v :: r, b :: s, h => by
    unfold tabOk at h
    split at h
    · rename_i e1 e2; cases e1
    · rename_i a r' b' s' e1 e2
      cases e1; cases e2
      rw [Bool.and_eq_true, decide_eq_true_eq] at h
      rw [tabOk_eq r s h.2, h.1]; rfl
    · cases h
def pow10 : List Int := Go.Lib.pow10Tab
def extFmt (args : List Value) (H : Hp) : Option (Value × Hp) :=
  match args with
  | [.int .i64 n, .int .i64 10] => if -9223372036854775808 ≤ n ∧ n ≤ 9223372036854775807 then
      match H.get 1 with
      | some (.fix (.cells cs _ _)) => match tabOk cs.toList pow10 with
        | true => some (.string ⟨(Go.Lib.itoa n).toArray⟩, H)
        | false => none
      | _ => none
    else none
  | _ => none
def extCmp (args : List Value) (H : Hp) : Option (Value × Hp) :=
  match args with
  | [.string a, .string b] => some (.int .i64 (Go.Lib.compareBytes a.data.toList b.data.toList), H)
  | _ => none
def EN : FuncId → Option (List Value → Hp → Option (Value × Hp)) := fun f => if f = 17 then some extFmt else if f = 18 then some extCmp else none
noncomputable abbrev R : Handler := run Go.Proofs.Tryd.prog orc EN
theorem cast10k : ((10000 : Nat) : Int) = 10000 := rfl
section
/-- From. -/
theorem from_loop {H0 : Hp} {S : Nat} (hS : (dg 10000 S).length ≤ 2 ^ 40) : ∀ (n : Nat), n < 18446744073709551616 → ∀ (out : List Nat) (lv : Value) (H : Hp), out ++ dg 10000 n = dg 10000 S → Own H0 H [⟨1, lv, out.length, u64s out⟩] →
    ∃ H' lv', loopD (s12_1 R) [.int .u64 (n : Int), lv] H = some (.exit 0, [.int .u64 0, lv'], H') ∧ Own H0 H' [⟨1, lv', (dg 10000 S).length, u64s (dg 10000 S)⟩] := by
  intro n
  induction n using Nat.strongRecOn with
  | _ n ih =>
    intro hn out lv H ho h
    by_cases h0 : n = 0
    · subst h0
      rw [dg_zero, List.append_nil] at ho
      subst ho
      refine ⟨H, lv, ?_, h⟩
      rw [loopD_eq]
      have : s12_1 R [.int .u64 ((0 : Nat) : Int), lv] H = some (.exit 0, [.int .u64 0, lv], H) := by
        unfold s12_1
        simp only [List.getD_cons_zero, List.getD_cons_succ, s_gtr, s_bool]
        rfl
      rw [this]; rfl
    · have hd := dg_pos b10 h0
      rw [hd] at ho
      have hl : out.length + 1 ≤ (dg 10000 S).length := by rw [← ho, List.length_append, List.length_cons]; omega
      obtain ⟨lv1, H1, e1, h1⟩ := h.push (bytes := 8) (zs := [.int .u64 0]) (x := .int .u64 ((n % 10000 : Nat) : Int)) (by decide) (by decide) rfl rfl rfl (by omega)
      have hlt : n / 10000 < n := Nat.div_lt_self (by omega) (by omega)
      obtain ⟨H', lv', g1, g2⟩ := ih (n / 10000) hlt (by omega) (out ++ [n % 10000]) lv1 H1 (by rw [List.append_assoc]; exact ho) (by rw [u64s_app, List.length_append]; exact h1)
      refine ⟨H', lv', ?_, g2⟩
      rw [loopD_eq]
      have q : (n : Int) > 0 := by omega
      have : s12_1 R [.int .u64 (n : Int), lv] H = some (.next, [.int .u64 ((n / 10000 : Nat) : Int), lv1], H1) := by
        unfold s12_1
        have r1 : ∀ (k : Value → Option Outc), pBin Go.Proofs.Tryd.prog .rem 35 (.int .u64 (n : Int)) (.int .u64 10000) k = k (.int .u64 ((n % 10000 : Nat) : Int)) := fun k => q_rem 35 .u64 n 10000 (by decide) k
        have r2 : ∀ (k : Value → Option Outc), pBin Go.Proofs.Tryd.prog .quo 35 (.int .u64 (n : Int)) (.int .u64 10000) k = k (.int .u64 ((n / 10000 : Nat) : Int)) := fun k => q_quo 35 n 10000 (by decide) hn k
        simp only [List.getD_cons_zero, List.getD_cons_succ, s_gtr, q, decide_true, s_bool, q_brt, r1, r2, e1]
      rw [this]; exact g1
theorem big_of {H0 H : Hp} {v : Value} {n : Nat} {r : List Sl} (h : Own H0 H (⟨1, v, (dg 10000 n).length, u64s (dg 10000 n)⟩ :: r)) : Big H v n := h.head.rd
theorem c12 {n : Nat} (hn : n < 18446744073709551616) (H : Hp) : ∃ H' v, R 12 [.int .u64 (n : Int)] H = some (v, H') ∧ Big H' v n ∧ Frm (fun _ => False) H H' := by
  have hr := (r12 EN rfl (.int .u64 (n : Int)) H).trans (k12 _ _ _)
  have hlen : (dg 10000 n).length ≤ 2 ^ 40 := Nat.le_trans (dg_len_lt b10 (k := 5) (by omega)) (by decide)
  obtain ⟨H', v, g1, g2⟩ := from_loop hlen n hn [] (.slice none 0 0) H rfl ((Own.nil H).addNil 1)
  refine ⟨H', v, ?_, big_of g2, g2.toFrm⟩
  refine hr.trans ?_
  rw [g1, s_bind, s_exit, s_onExit]; rfl
end
end Go.AM.N20
/- The Need seat: Plus, Less. -/
set_option linter.unusedVariables false
set_option linter.unusedSimpArgs false
set_option linter.unusedSectionVars false
namespace Go.AM.N20
open Go Go.AM
theorem plus_loop {H0 : Hp} {x y : Value} {a b : Nat} (hx : Big H0 x a) (hy : Big H0 y b) {S : Nat} (hS : (dg 10000 S).length ≤ 2 ^ 40) : ∀ (m : Nat) (a' b' c i : Nat) (out : List Nat) (lv : Value) (H : Hp), m = c + a' + b' → c ≤ 1 → (dg 10000 a).drop i = dg 10000 a' → (dg 10000 b).drop i = dg 10000 b' →
    out.length = i → out ++ dg 10000 m = dg 10000 S → Own H0 H [⟨1, lv, out.length, u64s out⟩] →
    ∃ H' lv' c' i', loopD (s13_1 R x y) [lv, .int .u64 (c : Int), .int .i64 (i : Int)] H = some (.exit 0, [lv', c', i'], H') ∧ Own H0 H' [⟨1, lv', (dg 10000 S).length, u64s (dg 10000 S)⟩] := by
  intro m
  induction m using Nat.strongRecOn with
  | _ m ih =>
    intro a' b' c i out lv H hm hc ha hb hi ho h
    have hxH : Big H x a := hx.frm h.toFrm
    have hyH : Big H y b := hy.frm h.toFrm
    obtain ⟨a1, a2, a3⟩ := dg_drop b10 ha
    obtain ⟨b1, b2, b3⟩ := dg_drop b10 hb
    have hxl : ∀ (k : Value → Option Outc), pLen .sl x H k = k (.int .i64 (((dg 10000 a).length : Nat) : Int)) := fun k => Rdb.len hxH H k
    have hyl : ∀ (k : Value → Option Outc), pLen .sl y H k = k (.int .i64 (((dg 10000 b).length : Nat) : Int)) := fun k => Rdb.len hyH H k
    by_cases h0 : m = 0
    · have ha0 : a' = 0 := by omega
      have hb0 : b' = 0 := by omega
      have hc0 : c = 0 := by omega
      subst h0
      rw [dg_zero, List.append_nil] at ho
      subst ho
      refine ⟨H, lv, .int .u64 (c : Int), .int .i64 (i : Int), ?_, h⟩
      rw [loopD_eq]
      have q1 : ¬ ((i : Int) < (((dg 10000 a).length : Nat) : Int)) := by have := a2 ha0; omega
      have q2 : ¬ ((i : Int) < (((dg 10000 b).length : Nat) : Int)) := by have := b2 hb0; omega
      have q3 : ¬ ((c : Int) > 0) := by omega
      have : s13_1 R x y [lv, .int .u64 (c : Int), .int .i64 (i : Int)] H = some (.exit 0, [lv, .int .u64 (c : Int), .int .i64 (i : Int)], H) := by
        unfold s13_1
        simp only [hxl, hyl, Rdb.len hxH, Rdb.len hyH, List.getD_cons_zero, List.getD_cons_succ, s_lss, q1, q2, decide_false, s_bool, q_brf, s_gtr, q3, s_bind, s_exit]
      rw [this]; rfl
    · have hd := dg_pos b10 h0
      rw [hd] at ho
      have hl : out.length + 1 ≤ (dg 10000 S).length := by rw [← ho, List.length_append, List.length_cons]; omega
      -- the sum of this place
      have hs : m % 10000 = (c + a' % 10000 + b' % 10000) % 10000 := by omega
      have hq : m / 10000 = (c + a' % 10000 + b' % 10000) / 10000 + a' / 10000 + b' / 10000 := by omega
      have hcq : (c + a' % 10000 + b' % 10000) / 10000 ≤ 1 := by omega
      generalize ht : c + a' % 10000 + b' % 10000 = t at hs hq hcq
      obtain ⟨lv1, H1, e1, h1⟩ := h.push (bytes := 8) (zs := [.int .u64 0]) (x := .int .u64 ((t % 10000 : Nat) : Int)) (by decide) (by decide) rfl rfl rfl (by omega)
      have hlt : m / 10000 < m := Nat.div_lt_self (by omega) (by omega)
      obtain ⟨H', lv', c', i', g1, g2⟩ := ih (m / 10000) hlt (a' / 10000) (b' / 10000) (t / 10000) (i + 1) (out ++ [t % 10000]) lv1 H1 hq hcq a3 b3 (by simp [hi]) (by rw [List.append_assoc, ← hs]; exact ho) (by rw [u64s_app, List.length_append]; exact h1)
      refine ⟨H', lv', c', i', ?_, g2⟩
      rw [loopD_eq]
      have w : IntKind.i64.wrap ((i : Int) + 1) = ((i + 1 : Nat) : Int) := q_i64 (by omega) (by omega)
      have r1 : ∀ (k : Value → Option Outc), pBin Go.Proofs.Tryd.prog .rem 35 (.int .u64 (t : Int)) (.int .u64 10000) k = k (.int .u64 ((t % 10000 : Nat) : Int)) := fun k => q_rem 35 .u64 t 10000 (by decide) k
      have r2 : ∀ (k : Value → Option Outc), pBin Go.Proofs.Tryd.prog .quo 35 (.int .u64 (t : Int)) (.int .u64 10000) k = k (.int .u64 ((t / 10000 : Nat) : Int)) := fun k => q_quo 35 t 10000 (by decide) (by omega) k
      have : s13_1 R x y [lv, .int .u64 (c : Int), .int .i64 (i : Int)] H = some (.next, [lv1, .int .u64 ((t / 10000 : Nat) : Int), .int .i64 ((i + 1 : Nat) : Int)], H1) := by
        unfold s13_1
        by_cases ha0 : a' = 0
        · have q1 : ¬ ((i : Int) < (((dg 10000 a).length : Nat) : Int)) := by have := a2 ha0; omega
          by_cases hb0 : b' = 0
          · have q2 : ¬ ((i : Int) < (((dg 10000 b).length : Nat) : Int)) := by have := b2 hb0; omega
            have q3 : (c : Int) > 0 := by omega
            have hct : c = t := by subst ha0; subst hb0; omega
            subst hct
            simp only [hxl, hyl, List.getD_cons_zero, List.getD_cons_succ, s_lss, q1, q2, decide_false, s_bool, q_brf, s_gtr, q3, decide_true, q_brt, s_bind, s_next, r1, r2, e1, s_add, w]
          · obtain ⟨b4, b5⟩ := b1 hb0
            have q2 : (i : Int) < (((dg 10000 b).length : Nat) : Int) := by omega
            obtain ⟨z, z1, z2⟩ := Rdb.u64 hyH b4
            have r0 : ∀ (k : Value → Option Outc), pBin Go.Proofs.Tryd.prog .add 35 (.int .u64 (c : Int)) (.int .u64 ((b' % 10000 : Nat) : Int)) k = k (.int .u64 (t : Int)) := fun k => by
              rw [q_add 35 c (b' % 10000) (by omega)]; congr 3; subst ha0; omega
            simp only [hxl, hyl, List.getD_cons_zero, List.getD_cons_succ, s_lss, q1, q2, decide_false, decide_true, s_bool, q_brf, q_brt, s_bind, s_next, z1, z2, r0, r1, r2, e1, s_add, w]
        · obtain ⟨a4, a5⟩ := a1 ha0
          have q1 : (i : Int) < (((dg 10000 a).length : Nat) : Int) := by omega
          obtain ⟨u, u1, u2⟩ := Rdb.u64 hxH a4
          by_cases hb0 : b' = 0
          · have q2 : ¬ ((i : Int) < (((dg 10000 b).length : Nat) : Int)) := by have := b2 hb0; omega
            have r0 : ∀ (k : Value → Option Outc), pBin Go.Proofs.Tryd.prog .add 35 (.int .u64 (c : Int)) (.int .u64 ((a' % 10000 : Nat) : Int)) k = k (.int .u64 (t : Int)) := fun k => by
              rw [q_add 35 c (a' % 10000) (by omega)]; congr 3; subst hb0; omega
            simp only [hxl, hyl, List.getD_cons_zero, List.getD_cons_succ, s_lss, q1, q2, decide_false, decide_true, s_bool, q_brf, q_brt, s_bind, s_next, u1, u2, r0, r1, r2, e1, s_add, w]
          · obtain ⟨b4, b5⟩ := b1 hb0
            have q2 : (i : Int) < (((dg 10000 b).length : Nat) : Int) := by omega
            obtain ⟨z, z1, z2⟩ := Rdb.u64 hyH b4
            have r0 : ∀ (k : Value → Option Outc), pBin Go.Proofs.Tryd.prog .add 35 (.int .u64 (c : Int)) (.int .u64 ((a' % 10000 : Nat) : Int)) k = k (.int .u64 ((c + a' % 10000 : Nat) : Int)) := fun k => q_add 35 c (a' % 10000) (by omega) k
            have r00 : ∀ (k : Value → Option Outc), pBin Go.Proofs.Tryd.prog .add 35 (.int .u64 ((c + a' % 10000 : Nat) : Int)) (.int .u64 ((b' % 10000 : Nat) : Int)) k = k (.int .u64 (t : Int)) := fun k => by
              rw [q_add 35 (c + a' % 10000) (b' % 10000) (by omega), ht]
            simp only [hxl, hyl, List.getD_cons_zero, List.getD_cons_succ, s_lss, q1, q2, decide_false, decide_true, s_bool, q_brf, q_brt, s_bind, s_next, u1, u2, z1, z2, r0, r00, r1, r2, e1, s_add, w]
      rw [this]; exact g1
theorem c13 {H : Hp} {x y : Value} {a b : Nat} (hx : Big H x a) (hy : Big H y b) (hS : (dg 10000 (a + b)).length ≤ 2 ^ 40) : ∃ H' v, R 13 [x, y] H = some (v, H') ∧ Big H' v (a + b) ∧ Frm (fun _ => False) H H' := by
  have hr := (r13 EN rfl x y H).trans (k13 _ _ _ _)
  obtain ⟨H', v, c', i', g1, g2⟩ := plus_loop hx hy hS (a + b) a b 0 0 [] (.slice none 0 0) H (by omega) (by omega) rfl rfl rfl rfl ((Own.nil H).addNil 1)
  refine ⟨H', v, ?_, big_of g2, g2.toFrm⟩
  refine hr.trans ?_
  rw [show ((0 : Nat) : Int) = 0 from rfl] at g1
  rw [g1, s_bind, s_exit, s_onExit]; rfl
/-- Digits held against each other from the top. -/
theorem vl_split {l : List Nat} {i x : Nat} (h : l[i]? = some x) : vl 10000 l = vl 10000 (l.take i) + 10000 ^ i * (x + 10000 * vl 10000 (l.drop (i + 1))) := by
  obtain ⟨hi, hx⟩ := List.getElem?_eq_some_iff.1 h
  have e : l = l.take i ++ x :: l.drop (i + 1) := by
    rw [← hx, List.getElem_cons_drop, List.take_append_drop]
  have hl : (l.take i).length = i := by rw [List.length_take]; omega
  conv => lhs; rw [e, vl_app, hl]
  rfl
theorem vl_top {l m : List Nat} (hl : ∀ x ∈ l, x < 10000) (hm : ∀ x ∈ m, x < 10000) {i x y : Nat} (h1 : l[i]? = some x) (h2 : m[i]? = some y) (hd : l.drop (i + 1) = m.drop (i + 1)) (hxy : x < y) : vl 10000 l < vl 10000 m := by
  rw [vl_split h1, vl_split h2, hd]
  have a1 := vl_lt b10 (l.take i) fun z hz => hl z (List.mem_of_mem_take hz)
  have hll : (l.take i).length ≤ i := by rw [List.length_take]; omega
  have a2 : 10000 ^ (l.take i).length ≤ 10000 ^ i := Nat.pow_le_pow_right (by decide) hll
  generalize vl 10000 (m.drop (i + 1)) = T
  have a3 : 10000 ^ i * (x + 10000 * T + 1) ≤ 10000 ^ i * (y + 10000 * T) := Nat.mul_le_mul_left _ (by omega)
  rw [Nat.mul_add (10000 ^ i) (x + 10000 * T) 1, Nat.mul_one] at a3
  omega
theorem less_loop {H : Hp} {x y : Value} {a b : Nat} (hx : Big H x a) (hy : Big H y b) (hl : (dg 10000 a).length = (dg 10000 b).length) (hS : (dg 10000 a).length ≤ 2 ^ 40) : ∀ (i : Nat), i ≤ (dg 10000 a).length → (dg 10000 a).drop i = (dg 10000 b).drop i →
    (∃ i', loopD (s11_1 R x y) [.int .i64 ((i : Int) - 1)] H = some (.exit 0, [i'], H) ∧ a = b) ∨ (loopD (s11_1 R x y) [.int .i64 ((i : Int) - 1)] H = some (.ret, [.bool (decide (a < b))], H))
  | 0, hi, hd => by
    left
    refine ⟨.int .i64 (-1), ?_, ?_⟩
    · rw [loopD_eq]
      have : s11_1 R x y [.int .i64 (((0 : Nat) : Int) - 1)] H = some (.exit 0, [.int .i64 (-1)], H) := by
        unfold s11_1
        simp only [List.getD_cons_zero, s_geq, s_bool]
        rfl
      rw [this]; rfl
    · rw [List.drop_zero, List.drop_zero] at hd
      rw [← vl_dg b10 a, ← vl_dg b10 b, hd]
  | i + 1, hi, hd => by
    have ga : (dg 10000 a)[i]? = some (dg 10000 a)[i] := List.getElem?_eq_getElem (by omega)
    have gb : (dg 10000 b)[i]? = some ((dg 10000 b)[i]'(by omega)) := List.getElem?_eq_getElem (by omega)
    generalize (dg 10000 a)[i] = p at ga
    generalize (dg 10000 b)[i]'(by omega) = q at gb
    obtain ⟨u, u1, u2⟩ := Rdb.u64 hx ga
    obtain ⟨z, z1, z2⟩ := Rdb.u64 hy gb
    have w0 : ((i + 1 : Nat) : Int) - 1 = (i : Int) := by omega
    have w : IntKind.i64.wrap ((i : Int) - 1) = (i : Int) - 1 := q_i64 (by omega) (by omega)
    have qi : (i : Int) ≥ 0 := by omega
    rw [w0, loopD_eq]
    by_cases hpq : p = q
    · subst hpq
      have hd' : (dg 10000 a).drop i = (dg 10000 b).drop i := by
        obtain ⟨i1, i2⟩ := List.getElem?_eq_some_iff.1 ga
        obtain ⟨j1, j2⟩ := List.getElem?_eq_some_iff.1 gb
        rw [List.drop_eq_getElem_cons i1, List.drop_eq_getElem_cons j1, hd, i2, j2]
      have : s11_1 R x y [.int .i64 (i : Int)] H = some (.next, [.int .i64 ((i : Int) - 1)], H) := by
        unfold s11_1
        simp only [List.getD_cons_zero, s_geq, qi, decide_true, s_bool, q_brt, u1, u2, z1, z2, s_neq, ne_eq, not_true_eq_false, decide_false, q_brf, s_sub, w]
      rw [this]
      exact less_loop hx hy hl hS i (by omega) hd'
    · right
      have hc : ¬ ((p : Int) = (q : Int)) := by omega
      have : s11_1 R x y [.int .i64 (i : Int)] H = some (.ret, [.bool (decide ((p : Int) < (q : Int)))], H) := by
        unfold s11_1
        simp only [List.getD_cons_zero, s_geq, qi, decide_true, s_bool, q_brt, u1, u2, z1, z2, s_neq, ne_eq, hc, not_false_eq_true, s_lss]
      rw [this]
      have e : decide ((p : Int) < (q : Int)) = decide (a < b) := by
        have la := dg_lt b10 a
        have lb := dg_lt b10 b
        rcases Nat.lt_or_ge p q with k | k
        · have := vl_top la lb ga gb hd k
          rw [vl_dg b10, vl_dg b10] at this
          rw [decide_eq_true (by omega), decide_eq_true this]
        · have := vl_top lb la gb ga hd.symm (by omega)
          rw [vl_dg b10, vl_dg b10] at this
          rw [decide_eq_false (by omega), decide_eq_false (by omega)]
      rw [e]; rfl
theorem c11 {H : Hp} {x y : Value} {a b : Nat} (hx : Big H x a) (hy : Big H y b) (h1 : (dg 10000 a).length ≤ 2 ^ 40) (h2 : (dg 10000 b).length ≤ 2 ^ 40) : R 11 [x, y] H = some (.bool (decide (a < b)), H) := by
  have hr := (r11 EN rfl x y H).trans (k11 _ _ _ _)
  refine hr.trans ?_
  rw [Rdb.len hx, Rdb.len hy, s_neq, s_bool]
  by_cases hl : (dg 10000 a).length = (dg 10000 b).length
  · rw [decide_eq_false (by omega), q_brf, Rdb.len hx, s_sub, q_i64 (by omega) (by omega)]
    rcases less_loop hx hy hl h1 (dg 10000 a).length (Nat.le_refl _) (by rw [List.drop_of_length_le (Nat.le_refl _), List.drop_of_length_le (by omega)]) with ⟨i', e, hab⟩ | e
    · rw [e, s_bind, s_exit, s_onExit, hab, decide_eq_false (by omega)]
    · rw [e, s_bind, s_ret, q_head]
  · rw [decide_eq_true (by omega), q_brt, Rdb.len hx, Rdb.len hy, s_lss]
    have e : decide ((((dg 10000 a).length : Nat) : Int) < (((dg 10000 b).length : Nat) : Int)) = decide (a < b) := by
      rcases Nat.lt_or_ge a b with k | k
      · have := dg_len_mono b10 b a (by omega)
        rw [decide_eq_true k, decide_eq_true (by omega)]
      · have := dg_len_mono b10 a b k
        rw [decide_eq_false (by omega), decide_eq_false (by omega)]
    rw [e]
end Go.AM.N20
/- The Need seat: Times. -/
set_option linter.unusedVariables false
set_option linter.unusedSimpArgs false
set_option linter.unusedSectionVars false
namespace Go.AM.N20
open Go Go.AM
/-- One digit is set. -/
theorem vl_set {l : List Nat} {i x : Nat} (h : l[i]? = some x) (z : Nat) : vl 10000 (l.set i z) + 10000 ^ i * x = vl 10000 l + 10000 ^ i * z := by
  have hi := (List.getElem?_eq_some_iff.1 h).1
  have h2 : (l.set i z)[i]? = some z := by rw [List.getElem?_set, if_pos rfl, if_pos hi]
  rw [vl_split h, vl_split h2, List.take_set, List.drop_set, if_pos (by omega)]
  have : (l.take i).set i z = l.take i := List.set_eq_of_length_le (by rw [List.length_take]; omega)
  rw [this]
  simp only [Nat.mul_add]
  omega
theorem u64s_repl : ∀ n : Nat, repl n [.int .u64 0] = u64s (List.replicate n 0)
  | 0 => rfl
  | n + 1 => by
    show [.int .u64 0] ++ repl n [.int .u64 0] = _
    rw [u64s_repl n, List.replicate_succ]; rfl
theorem vl_zero : ∀ (l : List Nat), (∀ x ∈ l, x = 0) → vl 10000 l = 0
  | [], _ => rfl
  | x :: l, h => by
    show x + 10000 * vl 10000 l = 0
    rw [vl_zero l fun y hy => h y (List.mem_cons_of_mem _ hy), h x (List.mem_cons_self ..)]
section
variable {H0 : Hp} {x y : Value} {a b : Nat} (hx : Big H0 x a) (hy : Big H0 y b) (hla : (dg 10000 a).length ≤ 2 ^ 38) (hlb : (dg 10000 b).length ≤ 2 ^ 38) {N : Nat} (hN : N = (dg 10000 a).length + (dg 10000 b).length + 1) (sv : Value)
include hx hy hla hlb hN
/-- A row of the product. -/
theorem row_loop {i a' : Nat} (hi : i < (dg 10000 a).length) (ha : (dg 10000 a).drop i = dg 10000 a') (ha0 : a' ≠ 0) : ∀ (m k b' c : Nat) (s : List Nat) (H : Hp), i + k + m = N → s.length = N → (∀ d ∈ s, d < 10000) → c < 10000 → (dg 10000 b).drop k = dg 10000 b' →
    vl 10000 s + 10000 ^ (i + k) * (c + a' % 10000 * b') + 10000 ^ (i + 1) * (a' / 10000 * b) = a * b → Own H0 H [⟨1, sv, N, u64s s⟩] →
    ∃ H' c' k' s', loopD (s19_1 R x y sv [.int .i64 (i : Int)]) [.int .u64 (c : Int), .int .i64 (k : Int)] H = some (.exit 2, [c', k'], H') ∧ Own H0 H' [⟨1, sv, N, u64s s'⟩] ∧ s'.length = N ∧ (∀ d ∈ s', d < 10000) ∧ vl 10000 s' + 10000 ^ (i + 1) * (a' / 10000 * b) = a * b := by
  have hab : a * b < 10000 ^ ((dg 10000 a).length + (dg 10000 b).length) := by
    have h1 := vl_lt b10 (dg 10000 a) (dg_lt b10 a)
    have h2 := vl_lt b10 (dg 10000 b) (dg_lt b10 b)
    rw [vl_dg b10] at h1 h2
    rw [Nat.pow_add]
    exact Nat.mul_lt_mul'' h1 h2
  obtain ⟨a1, _, _⟩ := dg_drop b10 ha
  obtain ⟨a4, _⟩ := a1 ha0
  intro m
  induction m with
  | zero =>
    intro k b' c s H hj hsl hs hc hb hv h
    have hxH : Big H x a := hx.frm h.toFrm
    have hyH : Big H y b := hy.frm h.toFrm
    obtain ⟨b1, b2, b3⟩ := dg_drop b10 hb
    have hb0 : b' = 0 := by
      rcases Nat.eq_zero_or_pos b' with q | q
      · exact q
      · have := (b1 (by omega)).2; omega
    have hc0 : c = 0 := by
      rcases Nat.eq_zero_or_pos c with q | q
      · exact q
      · have h1 : 10000 ^ ((dg 10000 a).length + (dg 10000 b).length) ≤ 10000 ^ (i + k) := Nat.pow_le_pow_right (by decide) (by omega)
        have h2 : 10000 ^ (i + k) * 1 ≤ 10000 ^ (i + k) * (c + a' % 10000 * b') := Nat.mul_le_mul_left _ (by omega)
        omega
    subst hb0; subst hc0
    refine ⟨H, .int .u64 ((0 : Nat) : Int), .int .i64 (k : Int), s, ?_, h, hsl, hs, by simpa using hv⟩
    rw [loopD_eq]
    have q2 : ¬ ((k : Int) < (((dg 10000 b).length : Nat) : Int)) := by have := b2 rfl; omega
    have hyl : ∀ (k : Value → Option Outc), pLen .sl y H k = k (.int .i64 (((dg 10000 b).length : Nat) : Int)) := fun k => Rdb.len hyH H k
    have : s19_1 R x y sv [.int .i64 (i : Int)] [.int .u64 ((0 : Nat) : Int), .int .i64 (k : Int)] H = some (.exit 2, [.int .u64 ((0 : Nat) : Int), .int .i64 (k : Int)], H) := by
      unfold s19_1
      simp only [hyl, List.getD_cons_zero, List.getD_cons_succ, s_lss, q2, decide_false, s_bool, q_brf, s_gtr, s_bind]
      rfl
    rw [this]; rfl
  | succ m ih =>
    intro k b' c s H hj hsl hs hc hb hv h
    have hxH : Big H x a := hx.frm h.toFrm
    have hyH : Big H y b := hy.frm h.toFrm
    obtain ⟨b1, b2, b3⟩ := dg_drop b10 hb
    have hyl : ∀ (k : Value → Option Outc), pLen .sl y H k = k (.int .i64 (((dg 10000 b).length : Nat) : Int)) := fun k => Rdb.len hyH H k
    by_cases he : b' = 0 ∧ c = 0
    · obtain ⟨hb0, hc0⟩ := he
      subst hb0; subst hc0
      refine ⟨H, .int .u64 ((0 : Nat) : Int), .int .i64 (k : Int), s, ?_, h, hsl, hs, by simpa using hv⟩
      rw [loopD_eq]
      have q2 : ¬ ((k : Int) < (((dg 10000 b).length : Nat) : Int)) := by have := b2 rfl; omega
      have : s19_1 R x y sv [.int .i64 (i : Int)] [.int .u64 ((0 : Nat) : Int), .int .i64 (k : Int)] H = some (.exit 2, [.int .u64 ((0 : Nat) : Int), .int .i64 (k : Int)], H) := by
        unfold s19_1
        simp only [hyl, List.getD_cons_zero, List.getD_cons_succ, s_lss, q2, decide_false, s_bool, q_brf, s_gtr, s_bind]
        rfl
      rw [this]; rfl
    · have hjN : i + k < s.length := by omega
      have hg : s[i + k]? = some s[i + k] := List.getElem?_eq_getElem hjN
      have hsd := hs _ (List.getElem_mem hjN)
      generalize s[i + k] = d at hg hsd
      -- the new digit
      have hp : a' % 10000 < 10000 := Nat.mod_lt _ (by decide)
      have hbd : b' % 10000 < 10000 := Nat.mod_lt _ (by decide)
      generalize hpe : a' % 10000 = p at hp hv a4
      have hpb : p * (b' % 10000) ≤ 9999 * 9999 := Nat.mul_le_mul (by omega) (by omega)
      obtain ⟨t, ht⟩ : ∃ t, t = d + c + p * (b' % 10000) := ⟨_, rfl⟩
      have htl : t ≤ 9999 + 9999 + 9999 * 9999 := by omega
      have hc' : t / 10000 < 10000 := by omega
      obtain ⟨yy, y0, y1, y2, _, y4⟩ := h.set (i := i + k) (by omega)
      obtain ⟨H1, e1, h1⟩ := y4 ((i + k) * 1) 1 (.int .u64 ((t % 10000 : Nat) : Int)) rfl (by omega) rfl
      have es : spl (u64s s) ((i + k) * 1) (cellsL (.int .u64 ((t % 10000 : Nat) : Int))) = u64s (s.set (i + k) (t % 10000)) := spl_set (fun (t : Nat) => Value.int .u64 (t : Int)) s hjN (t % 10000)
      rw [es] at h1
      have hld : ∀ (α : Type) (k' : Value → Option α), pLoad 1 false H (.pointer (some ⟨yy, (i + k) * 1, none⟩)) k' = k' (.int .u64 (d : Int)) := fun α k' => y2 _ _ (by rw [Nat.mul_one]; exact u64s_get hg) α k'
      have hv' : vl 10000 (s.set (i + k) (t % 10000)) + 10000 ^ (i + (k + 1)) * (t / 10000 + p * (b' / 10000)) + 10000 ^ (i + 1) * (a' / 10000 * b) = a * b := by
        rw [← hv]
        have hset := vl_set hg (t % 10000)
        have e1 : 10000 ^ (i + (k + 1)) = 10000 ^ (i + k) * 10000 := by rw [← Nat.add_assoc, Nat.pow_succ]
        rw [e1]
        generalize 10000 ^ (i + k) = Q at *
        generalize 10000 ^ (i + 1) * (a' / 10000 * b) = Z
        have e2 : Q * 10000 * (t / 10000 + p * (b' / 10000)) = Q * (10000 * (t / 10000)) + Q * (p * (10000 * (b' / 10000))) := by
          rw [Nat.mul_assoc, Nat.mul_add, Nat.mul_add]
          congr 2
          rw [← Nat.mul_assoc, Nat.mul_comm 10000 p, Nat.mul_assoc]
        have e3 : Q * (c + p * b') = Q * c + Q * (p * (b' % 10000)) + Q * (p * (10000 * (b' / 10000))) := by
          have e5 : p * b' = p * (b' % 10000) + p * (10000 * (b' / 10000)) := by rw [← Nat.mul_add, Nat.mod_add_div]
          rw [e5, Nat.mul_add, Nat.mul_add, Nat.add_assoc]
        have e4 : Q * (t % 10000) + Q * (10000 * (t / 10000)) = Q * d + Q * c + Q * (p * (b' % 10000)) := by
          rw [← Nat.mul_add, Nat.mod_add_div, ht, Nat.mul_add, Nat.mul_add]
        rw [e2, e3]
        omega
      obtain ⟨H', c', k', s', g1, g2, g3, g4, g5⟩ := ih (k + 1) (b' / 10000) (t / 10000) (s.set (i + k) (t % 10000)) H1 (by omega) (by rw [List.length_set]; exact hsl) (fun z hz => by
        rcases List.mem_or_eq_of_mem_set hz with q | q
        · exact hs z q
        · omega) hc' b3 (by rw [hpe]; exact hv') h1
      refine ⟨H', c', k', s', ?_, g2, g3, g4, g5⟩
      rw [loopD_eq]
      have w : IntKind.i64.wrap ((k : Int) + 1) = ((k + 1 : Nat) : Int) := q_i64 (by omega) (by omega)
      have w2 : IntKind.i64.wrap ((i : Int) + (k : Int)) = ((i + k : Nat) : Int) := q_i64 (by omega) (by omega)
      have r1 : ∀ (k : Value → Option Outc), pBin Go.Proofs.Tryd.prog .rem 35 (.int .u64 (t : Int)) (.int .u64 10000) k = k (.int .u64 ((t % 10000 : Nat) : Int)) := fun k => q_rem 35 .u64 t 10000 (by decide) k
      have r2 : ∀ (k : Value → Option Outc), pBin Go.Proofs.Tryd.prog .quo 35 (.int .u64 (t : Int)) (.int .u64 10000) k = k (.int .u64 ((t / 10000 : Nat) : Int)) := fun k => q_quo 35 t 10000 (by decide) (by omega) k
      have r3 : ∀ (k : Value → Option Outc), pBin Go.Proofs.Tryd.prog .add 35 (.int .u64 (d : Int)) (.int .u64 (c : Int)) k = k (.int .u64 ((d + c : Nat) : Int)) := fun k => q_add 35 d c (by omega) k
      have : s19_1 R x y sv [.int .i64 (i : Int)] [.int .u64 (c : Int), .int .i64 (k : Int)] H = some (.next, [.int .u64 ((t / 10000 : Nat) : Int), .int .i64 ((k + 1 : Nat) : Int)], H1) := by
        unfold s19_1
        by_cases hb0 : b' = 0
        · have q2 : ¬ ((k : Int) < (((dg 10000 b).length : Nat) : Int)) := by have := b2 hb0; omega
          have q3 : (c : Int) > 0 := by
            have : c ≠ 0 := fun e => he ⟨hb0, e⟩
            omega
          have ht2 : d + c = t := by rw [ht, hb0]; simp
          rw [ht2] at r3
          simp only [hyl, List.getD_cons_zero, List.getD_cons_succ, s_lss, q2, decide_false, s_bool, q_brf, s_gtr, q3, decide_true, q_brt, s_bind, s_next, s_add 3, w2, y1, hld, r3, r1, r2, e1, w]
        · obtain ⟨b4, b5⟩ := b1 hb0
          have q2 : (k : Int) < (((dg 10000 b).length : Nat) : Int) := by omega
          obtain ⟨z, z1, z2⟩ := Rdb.u64 hyH b4
          obtain ⟨u, u1, u2⟩ := Rdb.u64 hxH a4
          have r4 : ∀ (k : Value → Option Outc), pBin Go.Proofs.Tryd.prog .mul 35 (.int .u64 (p : Int)) (.int .u64 ((b' % 10000 : Nat) : Int)) k = k (.int .u64 ((p * (b' % 10000) : Nat) : Int)) := fun k => q_mul 35 p (b' % 10000) (by omega) k
          have r5 : ∀ (k : Value → Option Outc), pBin Go.Proofs.Tryd.prog .add 35 (.int .u64 ((d + c : Nat) : Int)) (.int .u64 ((p * (b' % 10000) : Nat) : Int)) k = k (.int .u64 (t : Int)) := fun k => by
            rw [q_add 35 (d + c) (p * (b' % 10000)) (by omega), ← ht]
          simp only [hyl, List.getD_cons_zero, List.getD_cons_succ, s_lss, q2, decide_true, s_bool, q_brt, s_bind, s_next, r3, u1, u2, z1, z2, r4, r5, s_add 3, w2, y1, hld, r1, r2, e1, w]
      rw [this]; exact g1
end
end Go.AM.N20
/- The Need seat: Times, II; read. -/
set_option linter.unusedVariables false
set_option linter.unusedSimpArgs false
set_option linter.unusedSectionVars false
namespace Go.AM.N20
open Go Go.AM
section
variable {H0 : Hp} {x y : Value} {a b : Nat} (hx : Big H0 x a) (hy : Big H0 y b) (hla : (dg 10000 a).length ≤ 2 ^ 38) (hlb : (dg 10000 b).length ≤ 2 ^ 38) {N : Nat} (hN : N = (dg 10000 a).length + (dg 10000 b).length + 1) (sv : Value)
include hx hy hla hlb hN
theorem rows_loop : ∀ (m i a' : Nat) (s : List Nat) (H : Hp), i + m = (dg 10000 a).length → (dg 10000 a).drop i = dg 10000 a' → s.length = N → (∀ d ∈ s, d < 10000) → vl 10000 s + 10000 ^ i * (a' * b) = a * b → Own H0 H [⟨1, sv, N, u64s s⟩] →
    ∃ H' i' s', loopD (s19_2 R x y sv) [.int .i64 (i : Int)] H = some (.exit 0, [i'], H') ∧ Own H0 H' [⟨1, sv, N, u64s s'⟩] ∧ s'.length = N ∧ (∀ d ∈ s', d < 10000) ∧ vl 10000 s' = a * b := by
  intro m
  induction m with
  | zero =>
    intro i a' s H hi ha hsl hs hv h
    have hxH : Big H x a := hx.frm h.toFrm
    have hxl : ∀ (k : Value → Option Outc), pLen .sl x H k = k (.int .i64 (((dg 10000 a).length : Nat) : Int)) := fun k => Rdb.len hxH H k
    have ha0 : a' = 0 := by
      have : (dg 10000 a).drop i = [] := List.drop_of_length_le (by omega)
      rw [this] at ha
      exact (dg_nil b10).1 ha.symm
    subst ha0
    refine ⟨H, .int .i64 (i : Int), s, ?_, h, hsl, hs, by simpa using hv⟩
    rw [loopD_eq]
    have q : ¬ ((i : Int) < (((dg 10000 a).length : Nat) : Int)) := by omega
    have : s19_2 R x y sv [.int .i64 (i : Int)] H = some (.exit 0, [.int .i64 (i : Int)], H) := by
      unfold s19_2
      simp only [hxl, List.getD_cons_zero, s_lss, q, decide_false, s_bool, q_brf]
    rw [this]; rfl
  | succ m ih =>
    intro i a' s H hi ha hsl hs hv h
    have hxH : Big H x a := hx.frm h.toFrm
    have hxl : ∀ (k : Value → Option Outc), pLen .sl x H k = k (.int .i64 (((dg 10000 a).length : Nat) : Int)) := fun k => Rdb.len hxH H k
    obtain ⟨a1, a2, a3⟩ := dg_drop b10 ha
    have ha0 : a' ≠ 0 := fun q => by have := a2 q; omega
    have hv0 : vl 10000 s + 10000 ^ (i + 0) * (0 + a' % 10000 * b) + 10000 ^ (i + 1) * (a' / 10000 * b) = a * b := by
      rw [← hv, Nat.add_zero, Nat.zero_add, Nat.pow_succ, Nat.add_assoc, Nat.mul_assoc, ← Nat.mul_add, ← Nat.mul_assoc 10000, ← Nat.add_mul, Nat.mod_add_div]
    obtain ⟨H1, c1, k1, s1, g1, g2, g3, g4, g5⟩ := row_loop hx hy hla hlb hN sv (i := i) (a' := a') (by omega) ha ha0 (N - i) 0 b 0 s H (by omega) hsl hs (by decide) rfl hv0 h
    obtain ⟨H', i', s', f1, f2, f3, f4, f5⟩ := ih (i + 1) (a' / 10000) s1 H1 (by omega) a3 g3 g4 g5 g2
    refine ⟨H', i', s', ?_, f2, f3, f4, f5⟩
    rw [loopD_eq]
    have q : (i : Int) < (((dg 10000 a).length : Nat) : Int) := by omega
    have w : IntKind.i64.wrap ((i : Int) + 1) = ((i + 1 : Nat) : Int) := q_i64 (by omega) (by omega)
    rw [show ((0 : Nat) : Int) = 0 from rfl] at g1
    have : s19_2 R x y sv [.int .i64 (i : Int)] H = some (.next, [.int .i64 ((i + 1 : Nat) : Int)], H1) := by
      unfold s19_2
      simp only [hxl, List.getD_cons_zero, s_lss, q, decide_true, s_bool, q_brt, g1, s_bind, s_exit, s_onExit, s_add 3, w]
    rw [this]; exact f1
end
theorem trim_loop {H0 H : Hp} {sv : Value} {N : Nat} (hN : N ≤ 2 ^ 40) {s : List Nat} (hsl : s.length = N) (h : Own H0 H [⟨1, sv, N, u64s s⟩]) : ∀ (n : Nat), n ≤ N → (∀ d ∈ s.drop n, d = 0) →
    ∃ m, m ≤ N ∧ loopD (s19_3 R sv) [.int .i64 (n : Int)] H = some (.exit 4, [.int .i64 (m : Int)], H) ∧ (∀ d ∈ s.drop m, d = 0) ∧ (∀ z, (s.take m).getLast? = some z → z ≠ 0)
  | 0, hn, hz => by
    refine ⟨0, by omega, ?_, hz, fun z q => by simp at q⟩
    rw [loopD_eq]
    have : s19_3 R sv [.int .i64 ((0 : Nat) : Int)] H = some (.exit 4, [.int .i64 ((0 : Nat) : Int)], H) := by
      unfold s19_3
      simp only [List.getD_cons_zero, s_gtr, s_bool]
      rfl
    rw [this]; rfl
  | n + 1, hn, hz => by
    have hlt : n < s.length := by omega
    have hg : s[n]? = some s[n] := List.getElem?_eq_getElem hlt
    have hdr : s.drop n = s[n] :: s.drop (n + 1) := List.drop_eq_getElem_cons hlt
    have htk : s.take (n + 1) = s.take n ++ [s[n]] := by rw [List.take_add_one, hg]; rfl
    generalize s[n] = d at hg hdr htk
    obtain ⟨yy, _, y1, y2, _⟩ := h.set (i := n) (by omega)
    have hld : ∀ (α : Type) (k' : Value → Option α), pLoad 1 false H (.pointer (some ⟨yy, n * 1, none⟩)) k' = k' (.int .u64 (d : Int)) := fun α k' => y2 _ _ (by rw [Nat.mul_one]; exact u64s_get hg) α k'
    have q : ((n + 1 : Nat) : Int) > 0 := by omega
    have w : IntKind.i64.wrap (((n + 1 : Nat) : Int) - 1) = (n : Int) := by rw [q_i64 (by omega) (by omega)]; omega
    rw [loopD_eq]
    by_cases hd : d = 0
    · subst hd
      have : s19_3 R sv [.int .i64 ((n + 1 : Nat) : Int)] H = some (.next, [.int .i64 (n : Int)], H) := by
        unfold s19_3
        simp only [List.getD_cons_zero, s_gtr, q, decide_true, s_bool, q_brt, s_sub, w, y1, hld, s_eql]
        rfl
      rw [this]
      exact trim_loop hN hsl h n (by omega) fun z hz' => by
        rw [hdr] at hz'
        rcases List.mem_cons.1 hz' with e | e
        · exact e
        · exact hz z e
    · refine ⟨n + 1, hn, ?_, hz, fun z q => ?_⟩
      · have hd' : ¬ ((d : Int) = 0) := by omega
        have : s19_3 R sv [.int .i64 ((n + 1 : Nat) : Int)] H = some (.exit 4, [.int .i64 ((n + 1 : Nat) : Int)], H) := by
          unfold s19_3
          simp only [List.getD_cons_zero, s_gtr, q, decide_true, s_bool, q_brt, s_sub, w, y1, hld, s_eql, hd', decide_false, q_brf]
        rw [this]; rfl
      · rw [htk, List.getLast?_append] at q
        simp at q
        omega
theorem c19 {H : Hp} {x y : Value} {a b : Nat} (hx : Big H x a) (hy : Big H y b) (hla : (dg 10000 a).length ≤ 2 ^ 38) (hlb : (dg 10000 b).length ≤ 2 ^ 38) : ∃ H' v, R 19 [x, y] H = some (v, H') ∧ Big H' v (a * b) ∧ Frm (fun _ => False) H H' := by
  have hr := (r19 EN rfl x y H).trans (k19 _ _ _ _)
  by_cases ha : a = 0
  · subst ha
    refine ⟨H, .slice none 0 0, hr.trans ?_, .inl ⟨by rw [Nat.zero_mul]; rfl, by rw [Nat.zero_mul]; rfl, rfl⟩, Frm.refl _ _⟩
    have e : (((dg 10000 0).length : Nat) : Int) = 0 := rfl
    rw [Rdb.len hx, s_eql, s_bool, e]; rfl
  have la : (dg 10000 a).length ≠ 0 := fun q => ha ((dg_nil b10).1 (List.length_eq_zero_iff.1 q))
  by_cases hb : b = 0
  · subst hb
    refine ⟨H, .slice none 0 0, hr.trans ?_, .inl ⟨rfl, rfl, rfl⟩, Frm.refl _ _⟩
    have e : (((dg 10000 0).length : Nat) : Int) = 0 := rfl
    rw [Rdb.len hx, s_eql, s_bool, decide_eq_false (by omega), q_brf, Rdb.len hy, s_eql, s_bool, e]; rfl
  have lb : (dg 10000 b).length ≠ 0 := fun q => hb ((dg_nil b10).1 (List.length_eq_zero_iff.1 q))
  obtain ⟨N, hN⟩ : ∃ N, N = (dg 10000 a).length + (dg 10000 b).length + 1 := ⟨_, rfl⟩
  obtain ⟨sv, H1, m1, m2⟩ := (Own.nil H).make (sz := 1) (bytes := 8) (zs := [.int .u64 0]) rfl (n := N) (by omega)
  rw [u64s_repl] at m2
  obtain ⟨H2, i2, s, g1, g2, g3, g4, g5⟩ := rows_loop hx hy hla hlb hN sv (dg 10000 a).length 0 a (List.replicate N 0) H1 (by omega) rfl (by simp) (fun d hd => by rw [(List.mem_replicate.1 hd).2]; decide)
    (by rw [vl_zero _ (fun d hd => (List.mem_replicate.1 hd).2)]; simp) m2
  obtain ⟨m, t0, t1, t2, t3⟩ := trim_loop (by omega) g3 g2 N (Nat.le_refl _) (fun d hd => by rw [List.drop_of_length_le (by omega)] at hd; cases hd)
  obtain ⟨v', c1, c2⟩ := g2.cut (u64s_one s) t0
  have hsp : vl 10000 s = vl 10000 (s.take m) := by
    conv => lhs; rw [← List.take_append_drop m s, vl_app, vl_zero _ t2]
    simp
  have hdg : dg 10000 (a * b) = s.take m := by
    rw [← g5, hsp]
    exact dg_vl b10 _ (fun z hz => g4 z (List.mem_of_mem_take hz)) t3
  have hbig : Big H2 v' (a * b) := by
    have h := c2.head.rd
    dsimp only at h
    unfold Big
    have e1 : (u64s s).take (m * 1) = u64s (s.take m) := by rw [Nat.mul_one]; unfold u64s; rw [List.map_take]
    have e2 : (dg 10000 (a * b)).length = m := by rw [hdg, List.length_take]; omega
    rw [e1, ← hdg] at h
    rw [e2]; exact h
  refine ⟨H2, v', hr.trans ?_, hbig, c2.toFrm⟩
  have w1 : IntKind.i64.wrap ((((dg 10000 a).length : Nat) : Int) + (((dg 10000 b).length : Nat) : Int)) = (((dg 10000 a).length + (dg 10000 b).length : Nat) : Int) := q_i64 (by omega) (by omega)
  have w2 : IntKind.i64.wrap ((((dg 10000 a).length + (dg 10000 b).length : Nat) : Int) + 1) = (N : Int) := by rw [q_i64 (by omega) (by omega)]; omega
  rw [Rdb.len hx, s_eql, s_bool, decide_eq_false (by omega), q_brf, Rdb.len hy, s_eql, s_bool, decide_eq_false (by omega), q_brf, s_bind, s_next, Rdb.len hx, Rdb.len hy, s_add, w1, s_add, w2, m1]
  rw [show ((0 : Nat) : Int) = 0 from rfl] at g1
  have hl := g2.head
  dsimp only at hl
  rw [g1, s_bind, s_exit, s_onExit, hl.len, t1, s_bind, s_exit, s_onExit, List.getD_cons_zero, c1]
end Go.AM.N20
/- Decimal texts, plainly. -/
set_option linter.unusedVariables false
set_option linter.unusedSimpArgs false
namespace Go.AM
open Go.Lib
def isD (b : UInt8) : Bool := decide (48 ≤ b.toNat) && decide (b.toNat ≤ 57)
theorem isD_iff {b : UInt8} : isD b = true ↔ 48 ≤ b.toNat ∧ b.toNat ≤ 57 := by unfold isD; simp
def dvF (n : Nat) (l : List UInt8) : Nat := l.foldl (fun n b => 10 * n + (b.toNat - 48)) n
def dv (l : List UInt8) : Nat := dvF 0 l
theorem dvF_eq : ∀ (l : List UInt8) (n : Nat), dvF n l = n * 10 ^ l.length + dv l
  | [], n => by simp [dvF, dv]
  | b :: l, n => by
    show dvF (10 * n + (b.toNat - 48)) l = n * 10 ^ (l.length + 1) + dvF (10 * 0 + (b.toNat - 48)) l
    rw [dvF_eq l (10 * n + (b.toNat - 48)), dvF_eq l (10 * 0 + (b.toNat - 48)), Nat.pow_succ, Nat.mul_zero, Nat.zero_add, Nat.add_mul]
    have : 10 * n * 10 ^ l.length = n * (10 ^ l.length * 10) := by rw [Nat.mul_comm 10 n, Nat.mul_assoc, Nat.mul_comm 10]
    omega
theorem dv_cons (b : UInt8) (l : List UInt8) : dv (b :: l) = (b.toNat - 48) * 10 ^ l.length + dv l := by
  show dvF (10 * 0 + (b.toNat - 48)) l = _
  rw [dvF_eq, Nat.mul_zero, Nat.zero_add]
theorem dv_snoc (l : List UInt8) (b : UInt8) : dv (l ++ [b]) = 10 * dv l + (b.toNat - 48) := by
  unfold dv dvF
  rw [List.foldl_append]; rfl
theorem dv_lt : ∀ (l : List UInt8), (∀ b ∈ l, isD b = true) → dv l < 10 ^ l.length
  | [], _ => by simp [dv, dvF]
  | b :: l, h => by
    have h1 := isD_iff.1 (h b (List.mem_cons_self ..))
    have h2 := dv_lt l fun c hc => h c (List.mem_cons_of_mem _ hc)
    rw [dv_cons, List.length_cons, Nat.pow_succ]
    have h3 : (b.toNat - 48) * 10 ^ l.length ≤ 9 * 10 ^ l.length := Nat.mul_le_mul_right _ (by omega)
    omega
/-- Texts of one length. -/
theorem cmp_iff : ∀ (p q : List UInt8), p.length = q.length → (∀ b ∈ p, isD b = true) → (∀ b ∈ q, isD b = true) → (compareBytes p q ≤ 0 ↔ dv p ≤ dv q)
  | [], [], _, _, _ => by simp [compareBytes]
  | a :: p, b :: q, hl, hp, hq => by
    have hl' : p.length = q.length := by simpa using hl
    have ha := isD_iff.1 (hp a (List.mem_cons_self ..))
    have hb := isD_iff.1 (hq b (List.mem_cons_self ..))
    have lp := dv_lt p fun c hc => hp c (List.mem_cons_of_mem _ hc)
    have lq := dv_lt q fun c hc => hq c (List.mem_cons_of_mem _ hc)
    rw [dv_cons, dv_cons, hl']
    rw [hl'] at lp
    unfold compareBytes
    by_cases h1 : a < b
    · have h1' : a.toNat < b.toNat := h1
      rw [if_pos h1]
      have : (a.toNat - 48 + 1) * 10 ^ q.length ≤ (b.toNat - 48) * 10 ^ q.length := Nat.mul_le_mul_right _ (by omega)
      rw [Nat.add_mul, Nat.one_mul] at this
      constructor
      · intro _; omega
      · intro _; decide
    · rw [if_neg h1]
      by_cases h2 : b < a
      · have h2' : b.toNat < a.toNat := h2
        rw [if_pos h2]
        have : (b.toNat - 48 + 1) * 10 ^ q.length ≤ (a.toNat - 48) * 10 ^ q.length := Nat.mul_le_mul_right _ (by omega)
        rw [Nat.add_mul, Nat.one_mul] at this
        constructor
        · intro h; exact absurd h (by decide)
        · intro _; omega
      · rw [if_neg h2]
        have h1' : ¬ a.toNat < b.toNat := h1
        have h2' : ¬ b.toNat < a.toNat := h2
        have e : a.toNat = b.toNat := by omega
        rw [cmp_iff p q hl' (fun c hc => hp c (List.mem_cons_of_mem _ hc)) (fun c hc => hq c (List.mem_cons_of_mem _ hc)), e]
        omega
theorem ofNat_toNat {u : Nat} (h : u < 256) : (UInt8.ofNat u).toNat = u := by simp; omega
theorem dec_facts : ∀ (u : Nat), dv (decDigits u) = u ∧ (∀ b ∈ decDigits u, isD b = true) ∧ 1 ≤ (decDigits u).length ∧ (u ≠ 0 → 10 ^ ((decDigits u).length - 1) ≤ u) := by
  intro u
  induction u using Nat.strongRecOn with
  | _ u ih =>
    rw [decDigits]
    by_cases h : u < 10
    · rw [dif_pos h]
      have e := ofNat_toNat (u := 48 + u) (by omega)
      refine ⟨?_, fun b hb => ?_, by simp, fun h0 => by simp; omega⟩
      · rw [dv_cons, e]; simp [dv, dvF]
      · rw [List.mem_singleton] at hb; subst hb; rw [isD_iff, e]; omega
    · rw [dif_neg h]
      obtain ⟨h1, h2, h3, h4⟩ := ih (u / 10) (by omega)
      have e := ofNat_toNat (u := 48 + u % 10) (by omega)
      refine ⟨?_, fun b hb => ?_, by simp, fun h0 => ?_⟩
      · rw [dv_snoc, h1, e]; omega
      · rcases List.mem_append.1 hb with hb | hb
        · exact h2 b hb
        · rw [List.mem_singleton] at hb; subst hb; rw [isD_iff, e]; omega
      · have := h4 (by omega)
        rw [List.length_append, List.length_singleton, Nat.add_sub_cancel]
        have e2 : 10 ^ (decDigits (u / 10)).length = 10 ^ ((decDigits (u / 10)).length - 1) * 10 := by rw [← Nat.pow_succ]; congr 1; omega
        omega
/-- Zeros ahead are dropped. -/
def trimZ (l : List UInt8) : List UInt8 := l.dropWhile fun b => b == 48
theorem trimZ_dv : ∀ (l : List UInt8), dv (trimZ l) = dv l
  | [] => rfl
  | b :: l => by
    unfold trimZ
    rw [List.dropWhile_cons]
    by_cases h : b = 48
    · subst h
      simp only [beq_self_eq_true, if_true]
      show dv (trimZ l) = _
      rw [trimZ_dv l, dv_cons]; simp
    · rw [if_neg (by simpa using h)]
theorem trimZ_mem {l : List UInt8} {b : UInt8} (h : b ∈ trimZ l) : b ∈ l := (List.dropWhile_sublist _).subset h
theorem trimZ_head : ∀ (l : List UInt8), (∀ b ∈ l, isD b = true) → trimZ l ≠ [] → 10 ^ ((trimZ l).length - 1) ≤ dv (trimZ l)
  | [], _, h => absurd rfl h
  | b :: l, hd, h => by
    unfold trimZ at h ⊢
    rw [List.dropWhile_cons] at h ⊢
    by_cases e : b = 48
    · subst e
      simp only [beq_self_eq_true, if_true] at h ⊢
      exact trimZ_head l (fun c hc => hd c (List.mem_cons_of_mem _ hc)) h
    · rw [if_neg (by simpa using e), dv_cons, List.length_cons, Nat.add_sub_cancel]
      have hb := isD_iff.1 (hd b (List.mem_cons_self ..))
      have : b.toNat ≠ 48 := fun q => e (UInt8.toNat_inj.1 q)
      have : 1 * 10 ^ l.length ≤ (b.toNat - 48) * 10 ^ l.length := Nat.mul_le_mul_right _ (by omega)
      omega
/-- The program's test on a decimal text: it is not above a bound. -/
def belowT (l : List UInt8) (t : List UInt8) : Bool := decide (((trimZ l).length : Int) < (t.length : Int)) || (decide (((trimZ l).length : Int) = (t.length : Int)) && decide (compareBytes (trimZ l) t ≤ 0))
theorem below_iff (l : List UInt8) (hl : ∀ b ∈ l, isD b = true) (u : Nat) : belowT l (decDigits u) = decide (dv l ≤ u) := by
  obtain ⟨d1, d2, d3, d4⟩ := dec_facts u
  have hz : ∀ b ∈ trimZ l, isD b = true := fun b hb => hl b (trimZ_mem hb)
  have lz := dv_lt (trimZ l) hz
  have hh := trimZ_head l hl
  have lu := dv_lt (decDigits u) d2
  rw [d1] at lu
  unfold belowT
  rw [← trimZ_dv l]
  generalize trimZ l = z at *
  have hnil : z = [] → dv z = 0 := fun e => by rw [e]; rfl
  have key : ∀ (p : Prop) [Decidable p], (p ↔ dv z ≤ u) → decide p = decide (dv z ≤ u) := fun p _ h => by simp [h]
  rcases Nat.lt_trichotomy z.length (decDigits u).length with k | k | k
  · have hle : dv z ≤ u := by
      by_cases h0 : u = 0
      · subst h0
        have : (decDigits 0).length = 1 := by rw [decDigits, dif_pos (by decide)]; rfl
        have : z = [] := List.length_eq_zero_iff.1 (by omega)
        rw [hnil this]; exact Nat.le_refl _
      · have h4 := d4 h0
        have : 10 ^ z.length ≤ 10 ^ ((decDigits u).length - 1) := Nat.pow_le_pow_right (by decide) (by omega)
        omega
    rw [decide_eq_true hle, decide_eq_true (by omega), Bool.true_or]
  · have hc := cmp_iff z (decDigits u) k hz d2
    rw [d1] at hc
    rw [decide_eq_false (by omega), decide_eq_true (by omega), Bool.false_or, Bool.true_and]
    exact key _ hc
  · have hz0 : z ≠ [] := fun e => by rw [e] at k; simp at k
    have h1 := hh hz0
    have h2 : 10 ^ (decDigits u).length ≤ 10 ^ (z.length - 1) := Nat.pow_le_pow_right (by decide) (by omega)
    rw [decide_eq_false (by omega), decide_eq_false (by omega), Bool.false_or, Bool.false_and, decide_eq_false (by omega)]
end Go.AM
/- The Need seat: read, within; the program's below. -/
set_option linter.unusedVariables false
set_option linter.unusedSimpArgs false
set_option linter.unusedSectionVars false
namespace Go.AM.N20
open Go Go.AM
theorem isD_no {b : UInt8} (h : isD b = false) : b.toNat < 48 ∨ 57 < b.toNat := by
  rcases Nat.lt_or_ge b.toNat 48 with q | q
  · exact .inl q
  · rcases Nat.lt_or_ge 57 b.toNat with q2 | q2
    · exact .inr q2
    · have := isD_iff.2 ⟨q, q2⟩
      rw [h] at this; cases this
theorem dg_len10 {l : List UInt8} (h : ∀ b ∈ l, isD b = true) : (dg 10000 (dv l)).length ≤ l.length := by
  refine dg_len_lt b10 (Nat.lt_of_lt_of_le (dv_lt l h) ?_)
  exact Nat.pow_le_pow_left (by decide) _
theorem read_loop {s : ByteArray} (hs : s.data.toList.length ≤ 2 ^ 30) : ∀ (m i : Nat) (v : Value) (H : Hp), i + m = s.data.toList.length → (∀ b ∈ s.data.toList.take i, isD b = true) → Big H v (dv (s.data.toList.take i)) →
    (∃ H' v' i', loopD (s10_1 R (.string s)) [v, .int .i64 (i : Int)] H = some (.exit 0, [v', i'], H') ∧ Big H' v' (dv s.data.toList) ∧ Frm (fun _ => False) H H' ∧ s.data.toList.all isD = true) ∨
    (∃ H', loopD (s10_1 R (.string s)) [v, .int .i64 (i : Int)] H = some (.ret, [.tuple #[.slice none 0 0, .bool false]], H') ∧ Frm (fun _ => False) H H' ∧ s.data.toList.all isD = false) := by
  have hsz : s.size = s.data.toList.length := by rw [Array.length_toList]; rfl
  intro m
  induction m with
  | zero =>
    intro i v H hi hd hv
    left
    have htk : s.data.toList.take i = s.data.toList := List.take_of_length_le (by omega)
    rw [htk] at hd hv
    refine ⟨H, v, .int .i64 (i : Int), ?_, hv, Frm.refl _ _, List.all_eq_true.2 hd⟩
    rw [loopD_eq]
    have q : ¬ ((i : Int) < (s.size : Int)) := by omega
    have : s10_1 R (.string s) [v, .int .i64 (i : Int)] H = some (.exit 0, [v, .int .i64 (i : Int)], H) := by
      unfold s10_1
      simp only [q_slen, List.getD_cons_zero, List.getD_cons_succ, s_lss, q, decide_false, s_bool, q_brf]
    rw [this]; rfl
  | succ m ih =>
    intro i v H hi hd hv
    have hlt : i < s.data.toList.length := by omega
    have hg : s.data.toList[i]? = some s.data.toList[i] := List.getElem?_eq_getElem hlt
    have htk : s.data.toList.take (i + 1) = s.data.toList.take i ++ [s.data.toList[i]] := by rw [List.take_add_one, hg]; rfl
    have hmem := List.getElem_mem hlt
    generalize s.data.toList[i] = b at hg htk hmem
    have q : (i : Int) < (s.size : Int) := by omega
    have hat : ∀ (α : Type) (k : Value → Option α), pAtStr (.string s) (.int .i64 (i : Int)) k = k (.int .u8 (b.toNat : Int)) := fun α k => q_at s i b hg k
    cases hb : isD b with
    | false =>
      right
      refine ⟨H, ?_, Frm.refl _ _, ?_⟩
      · rw [loopD_eq]
        have : s10_1 R (.string s) [v, .int .i64 (i : Int)] H = some (.ret, [.tuple #[.slice none 0 0, .bool false]], H) := by
          unfold s10_1
          rcases isD_no hb with k | k
          · have q1 : (b.toNat : Int) < 48 := by omega
            simp only [q_slen, List.getD_cons_zero, List.getD_cons_succ, s_lss, q, decide_true, s_bool, q_brt, hat, q1]
          · have q1 : ¬ ((b.toNat : Int) < 48) := by omega
            have q2 : (b.toNat : Int) > 57 := by omega
            simp only [q_slen, List.getD_cons_zero, List.getD_cons_succ, s_lss, s_gtr, q, decide_true, s_bool, q_brt, hat, q1, decide_false, q_brf, q2]
        rw [this]; rfl
      · cases hq : s.data.toList.all isD with
        | false => rfl
        | true => have := List.all_eq_true.1 hq b hmem; rw [hb] at this; cases this
    | true =>
      have hbb := isD_iff.1 hb
      have hd' : ∀ c ∈ s.data.toList.take (i + 1), isD c = true := fun c hc => by
        rw [htk] at hc
        rcases List.mem_append.1 hc with hc | hc
        · exact hd c hc
        · rw [List.mem_singleton] at hc; subst hc; exact hb
      have hl1 := dg_len10 hd
      have hl2 := dg_len10 hd'
      have hti : (s.data.toList.take i).length ≤ i := by rw [List.length_take]; omega
      have hti' : (s.data.toList.take (i + 1)).length ≤ i + 1 := by rw [List.length_take]; omega
      obtain ⟨H1, v1, e1, b1, f1⟩ := c12 (n := 10) (by decide) H
      obtain ⟨H2, v2, e2, b2, f2⟩ := c19 (hv.frm f1) b1 (by omega) (by decide)
      obtain ⟨H3, v3, e3, b3, f3⟩ := c12 (n := b.toNat - 48) (by omega) H2
      have hsum : dv (s.data.toList.take i) * 10 + (b.toNat - 48) = dv (s.data.toList.take (i + 1)) := by rw [htk, dv_snoc]; omega
      obtain ⟨H4, v4, e4, b4, f4⟩ := c13 (b2.frm f3) b3 (by rw [hsum]; omega)
      rw [hsum] at b4
      have f14 : Frm (fun _ => False) H H4 := ((f1.trans f2 (fun j q => q.elim)).trans f3 (fun j q => q.elim)).trans f4 (fun j q => q.elim)
      have w : IntKind.i64.wrap ((i : Int) + 1) = ((i + 1 : Nat) : Int) := q_i64 (by omega) (by omega)
      have w2 : IntKind.u64.wrap (IntKind.u8.wrap ((b.toNat : Int) - 48)) = ((b.toNat - 48 : Nat) : Int) := by
        rw [q_u8 (by omega) (by omega), q_u64 (by omega) (by omega)]; omega
      have step : s10_1 R (.string s) [v, .int .i64 (i : Int)] H = some (.next, [v4, .int .i64 ((i + 1 : Nat) : Int)], H4) := by
        unfold s10_1
        have q1 : ¬ ((b.toNat : Int) < 48) := by omega
        have q2 : ¬ ((b.toNat : Int) > 57) := by omega
        rw [show ((10 : Nat) : Int) = 10 from rfl] at e1
        simp only [q_slen, List.getD_cons_zero, List.getD_cons_succ, s_lss, s_gtr, q, decide_true, s_bool, q_brt, hat, q1, q2, decide_false, q_brf, s_call e1, s_call e2, s_sub, q_conv, w2, s_call e3, s_call e4, s_add, w]
      rcases ih (i + 1) v4 H4 (by omega) hd' b4 with ⟨H', v', i', g1, g2, g3, g4⟩ | ⟨H', g1, g2, g3⟩
      · left
        refine ⟨H', v', i', ?_, g2, f14.trans g3 (fun j q => q.elim), g4⟩
        rw [loopD_eq, step]; exact g1
      · right
        refine ⟨H', ?_, f14.trans g2 (fun j q => q.elim), g3⟩
        rw [loopD_eq, step]; exact g1
def okD (s : ByteArray) : Bool := !(s.toList == (⟨#[]⟩ : ByteArray).toList) && s.data.toList.all isD
theorem c10 {s : ByteArray} (hs : s.data.toList.length ≤ 2 ^ 30) (H : Hp) : ∃ H' v, R 10 [.string s] H = some (.tuple #[v, .bool (okD s)], H') ∧ Frm (fun _ => False) H H' ∧ (okD s = true → Big H' v (dv s.data.toList)) := by
  have hr := (r10 EN rfl (.string s) H).trans (k10 _ _ _)
  rw [q_seql, s_bool] at hr
  unfold okD
  cases he : s.toList == (⟨#[]⟩ : ByteArray).toList with
  | true =>
    rw [he, q_brt] at hr
    exact ⟨H, _, hr, Frm.refl _ _, fun q => by simp at q⟩
  | false =>
    rw [he, q_brf, show (0 : Int) = ((0 : Nat) : Int) from rfl] at hr
    rcases read_loop hs s.data.toList.length 0 (.slice none 0 0) H (by omega) (fun b hb => by simp at hb) (.inl ⟨rfl, rfl, rfl⟩) with ⟨H', v', i', g1, g2, g3, g4⟩ | ⟨H', g1, g2, g3⟩
    · refine ⟨H', v', ?_, g3, fun _ => g2⟩
      refine hr.trans ?_
      rw [g1, s_bind, s_exit, s_onExit, g4]; rfl
    · refine ⟨H', .slice none 0 0, ?_, g2, fun q => by rw [g3] at q; simp at q⟩
      refine hr.trans ?_
      rw [g1, s_bind, s_ret, q_head, g3]; rfl
theorem c14 {s : ByteArray} (hs : s.data.toList.length ≤ 2 ^ 30) {b : Int} (hb : -9223372036854775808 ≤ b ∧ b ≤ 9223372036854775807) (H : Hp) : ∃ H', R 14 [.string s, .int .i64 b] H = some (.bool (decide (b < 0) || (okD s && decide ((dv s.data.toList : Int) ≤ b))), H') ∧ Frm (fun _ => False) H H' := by
  have hr := r14 EN rfl (.string s) (.int .i64 b) H
  unfold m14 at hr
  rw [s_lss, s_bool] at hr
  by_cases h0 : b < 0
  · rw [decide_eq_true h0, q_brt] at hr
    exact ⟨H, by refine hr.trans ?_; rw [decide_eq_true h0]; rfl, Frm.refl _ _⟩
  · rw [decide_eq_false h0, q_brf] at hr
    obtain ⟨H1, v, e1, f1, g1⟩ := c10 hs H
    rw [s_call e1, q_ext0, q_ext1, s_bool] at hr
    rw [decide_eq_false h0, Bool.false_or]
    cases hok : okD s with
    | false =>
      rw [hok, q_brf] at hr
      exact ⟨H1, hr, f1⟩
    | true =>
      have hall : ∀ c ∈ s.data.toList, isD c = true := by
        unfold okD at hok
        rw [Bool.and_eq_true] at hok
        exact List.all_eq_true.1 hok.2
      have hl := dg_len10 hall
      obtain ⟨n, hn⟩ := Int.eq_ofNat_of_zero_le (show 0 ≤ b by omega)
      subst hn
      obtain ⟨H2, v2, e2, b2, f2⟩ := c12 (n := n) (by omega) H1
      have hln : (dg 10000 n).length ≤ 2 ^ 40 := Nat.le_trans (dg_len_lt b10 (k := 5) (by omega)) (by decide)
      have e3 := c11 b2 ((g1 hok).frm f2) hln (by omega)
      rw [hok, q_brt, q_conv, q_u64 (by omega) (by omega), s_call e2, s_call e3, s_not] at hr
      refine ⟨H2, ?_, f1.trans f2 (fun j q => q.elim)⟩
      refine hr.trans ?_
      congr 3
      rcases Nat.lt_or_ge n (dv s.data.toList) with k | k
      · rw [decide_eq_true k, decide_eq_false (by omega)]; rfl
      · rw [decide_eq_false (by omega), decide_eq_true (by omega)]; rfl
end Go.AM.N20
/- The Need seat: the program's below, Roomy, Enough. -/
set_option linter.unusedVariables false
set_option linter.unusedSimpArgs false
set_option linter.unusedSectionVars false
namespace Go.AM.N20
open Go Go.AM
/-- A function that is taken whole. -/
theorem run_ext {P : Program} {O : Orc} {ext : FuncId → Option (List Value → Hp → Option (Value × Hp))} {g : FuncId} {fn : Func} {e : List Value → Hp → Option (Value × Hp)} (hf : P.funcs[g]? = some fn) (hn : (fn.name == "runtime.NumGoroutine") = false) (hb : fn.body.isSome = true) (hx : ext g = some e) (xs : List Value) (H : Hp) :
    run P O ext g xs H = e xs H := by
  rw [run_eq]
  unfold callF
  rw [hf]
  dsimp only
  rw [hn]
  dsimp only
  obtain ⟨c, hc⟩ := Option.isSome_iff_exists.1 hb
  rw [hc]
  dsimp only
  rw [hx]
theorem sz (s : ByteArray) : s.size = s.data.toList.length := by rw [Array.length_toList]; rfl
theorem c15 {s : ByteArray} (hs : s.data.toList.length ≤ 2 ^ 30) (H : Hp) : R 15 [.string s] H = some (.bool (s.data.toList.all isD), H) := by
  have hr := (r15 EN rfl (.string s) H).trans (k15 _ _ _)
  refine hr.trans ?_
  have hsz := sz s
  have key : ∀ (m i : Nat), i + m = s.data.toList.length → loopD (s15_1 R (.string s) (.int .i64 (s.size : Int))) [.int .i64 (i : Int)] H = if (s.data.toList.drop i).all isD = true then some (.exit 0, [.int .i64 (s.size : Int)], H) else some (.ret, [.bool false], H) := by
    intro m
    induction m with
    | zero =>
      intro i hi
      have e : i = s.size := by omega
      rw [loopD_eq, List.drop_of_length_le (by omega), e]
      have : s15_1 R (.string s) (.int .i64 (s.size : Int)) [.int .i64 (s.size : Int)] H = some (.exit 0, [.int .i64 (s.size : Int)], H) := by
        unfold s15_1
        simp only [List.getD_cons_zero, s_lss, Int.lt_irrefl, decide_false, s_bool, q_brf]
      rw [this]; rfl
    | succ m ih =>
      intro i hi
      have hlt : i < s.data.toList.length := by omega
      have hg : s.data.toList[i]? = some s.data.toList[i] := List.getElem?_eq_getElem hlt
      rw [List.drop_eq_getElem_cons hlt, List.all_cons]
      generalize s.data.toList[i] = b at hg
      have q : (i : Int) < (s.size : Int) := by omega
      have hat : ∀ (α : Type) (k : Value → Option α), pAtStr (.string s) (.int .i64 (i : Int)) k = k (.int .u8 (b.toNat : Int)) := fun α k => q_at s i b hg k
      have w : IntKind.i64.wrap ((i : Int) + 1) = ((i + 1 : Nat) : Int) := q_i64 (by omega) (by omega)
      rw [loopD_eq]
      cases hb : isD b with
      | false =>
        have : s15_1 R (.string s) (.int .i64 (s.size : Int)) [.int .i64 (i : Int)] H = some (.ret, [.bool false], H) := by
          unfold s15_1
          rcases isD_no hb with k | k
          · have q1 : (b.toNat : Int) < 48 := by omega
            simp only [List.getD_cons_zero, s_lss, q, decide_true, s_bool, q_brt, hat, q1]
          · have q1 : ¬ ((b.toNat : Int) < 48) := by omega
            have q2 : (b.toNat : Int) > 57 := by omega
            simp only [List.getD_cons_zero, s_lss, s_gtr, q, decide_true, s_bool, q_brt, hat, q1, decide_false, q_brf, q2]
        rw [this]; rfl
      | true =>
        have hbb := isD_iff.1 hb
        have q1 : ¬ ((b.toNat : Int) < 48) := by omega
        have q2 : ¬ ((b.toNat : Int) > 57) := by omega
        have : s15_1 R (.string s) (.int .i64 (s.size : Int)) [.int .i64 (i : Int)] H = some (.next, [.int .i64 ((i + 1 : Nat) : Int)], H) := by
          unfold s15_1
          simp only [List.getD_cons_zero, s_lss, s_gtr, q, decide_true, s_bool, q_brt, hat, q1, q2, decide_false, q_brf, s_add, w]
        rw [this, Bool.true_and]
        exact ih (i + 1) (by omega)
  have h := key s.data.toList.length 0 (by omega)
  rw [List.drop_zero, show ((0 : Nat) : Int) = 0 from rfl] at h
  rw [q_slen, h]
  cases s.data.toList.all isD with
  | true => rw [if_pos rfl, s_bind, s_exit, s_onExit]
  | false => rw [if_neg (by decide), s_bind, s_ret, q_head]
theorem trim_str {H : Hp} : ∀ (n : Nat) (t : ByteArray), t.data.toList.length = n → n ≤ 2 ^ 30 → ∃ t' : ByteArray, loopD (s20_1 R (.int .u8 48)) [.string t] H = some (.exit 0, [.string t'], H) ∧ t'.data.toList = trimZ t.data.toList
  | 0, t, hn, hb => by
    have hsz := sz t
    refine ⟨t, ?_, by have : t.data.toList = [] := List.length_eq_zero_iff.1 hn; rw [this]; rfl⟩
    rw [loopD_eq]
    have q : ¬ ((t.size : Int) > 0) := by omega
    have : s20_1 R (.int .u8 48) [.string t] H = some (.exit 0, [.string t], H) := by
      unfold s20_1
      simp only [List.getD_cons_zero, q_slen, s_gtr, q, decide_false, s_bool, q_brf]
    rw [this]; rfl
  | n + 1, t, hn, hb => by
    have hsz := sz t
    obtain ⟨b, r, hbr⟩ : ∃ b r, t.data.toList = b :: r := by
      cases h : t.data.toList with
      | nil => rw [h] at hn; cases hn
      | cons b r => exact ⟨b, r, rfl⟩
    have hat : ∀ (α : Type) (k : Value → Option α), pAtStr (.string t) (.int .i64 0) k = k (.int .u8 (b.toNat : Int)) := fun α k => q_at t 0 b (by rw [hbr]; rfl) k
    have q : (t.size : Int) > 0 := by omega
    rw [loopD_eq]
    by_cases h48 : b = 48
    · subst h48
      have hsl : ∀ (α : Type) (k : Value → Option α), pSliceS (.string t) (some (.int .i64 1)) none k = k (.string (t.extract 1 t.size)) := fun α k => by
        have : sliceS (.string t) (some (.int .i64 1)) none = some (.string (t.extract 1 t.size)) := by
          unfold sliceS
          dsimp only [optInt]
          rw [if_pos ⟨by omega, by omega, by omega⟩]
          rfl
        unfold pSliceS
        rw [this]
      have hx : (t.extract 1 t.size).data.toList = r := by
        have : (t.extract 1 t.size).data = t.data.extract 1 t.size := by simp
        rw [this, Array.toList_extract, hbr]
        have hl : t.size = (48 :: r).length := by rw [hsz, hbr]
        rw [hl]
        simp [List.extract]
      obtain ⟨t', g1, g2⟩ := trim_str n (t.extract 1 t.size) (by rw [hx]; rw [hbr] at hn; simpa using hn) (by omega)
      refine ⟨t', ?_, ?_⟩
      · have : s20_1 R (.int .u8 48) [.string t] H = some (.next, [.string (t.extract 1 t.size)], H) := by
          unfold s20_1
          simp only [List.getD_cons_zero, q_slen, s_gtr, q, decide_true, s_bool, q_brt, hat, s_eql, hsl]
          rfl
        rw [this]; exact g1
      · rw [g2, hx, hbr]; unfold trimZ; rw [List.dropWhile_cons]; simp
    · refine ⟨t, ?_, ?_⟩
      · have hne : ¬ ((b.toNat : Int) = 48) := fun e => h48 (UInt8.toNat_inj.1 (by show b.toNat = 48; omega))
        have : s20_1 R (.int .u8 48) [.string t] H = some (.exit 0, [.string t], H) := by
          unfold s20_1
          simp only [List.getD_cons_zero, q_slen, s_gtr, q, decide_true, s_bool, q_brt, hat, s_eql, hne, decide_false, q_brf]
        rw [this]; rfl
      · rw [hbr]; unfold trimZ; rw [List.dropWhile_cons, if_neg (by simpa using h48)]
theorem zero_ne : ((⟨#[48]⟩ : ByteArray).toList == (⟨#[]⟩ : ByteArray).toList) = false := by kernel_rfl
theorem c16 {s : ByteArray} (hs : s.data.toList.length ≤ 2 ^ 30) (hne : (s.toList == (⟨#[]⟩ : ByteArray).toList) = false) (H : Hp) : ∃ t : ByteArray, R 16 [.string s, .string ⟨#[48]⟩] H = some (.string t, H) ∧ t.data.toList = trimZ s.data.toList := by
  obtain ⟨t, g1, g2⟩ := trim_str (H := H) s.data.toList.length s rfl hs
  have h20 : R 20 [.string s, .int .u8 48] H = some (.string t, H) := by
    have hr := (r20 EN rfl (.string s) (.int .u8 48) H).trans (k20 _ _ _ _)
    refine hr.trans ?_
    rw [g1, s_bind, s_exit, s_onExit]; rfl
  refine ⟨t, ?_, g2⟩
  have hr := r16 EN rfl (.string s) (.string ⟨#[48]⟩) H
  refine hr.trans ?_
  unfold m16
  have hat : ∀ (α : Type) (k : Value → Option α), pAtStr (.string ⟨#[48]⟩) (.int .i64 0) k = k (.int .u8 48) := fun α k => q_at ⟨#[48]⟩ 0 48 rfl k
  have e1 : (((⟨#[48]⟩ : ByteArray).size : Nat) : Int) = 1 := rfl
  rw [q_seql, hne, s_bool, q_brf, q_seql, zero_ne, s_bool, q_brf, s_bind, s_next, q_slen, e1, s_eql, s_bool, decide_eq_true rfl, q_brt, hat, s_lss, s_bool, decide_eq_true (by decide), q_brt, hat, s_call h20]
/-- The table of powers, as it is laid. -/
def Tab (H : Hp) : Prop := ∃ cs e fz, H.get 1 = some (.fix (.cells cs e fz)) ∧ cs.toList = pow10.map fun z => Value.int .u64 z
theorem tabOk_self : ∀ s : List Int, tabOk (s.map fun z => Value.int .u64 z) s = true
  | [] => rfl
  | z :: s => by
    show (decide (z = z) && tabOk (s.map fun z => Value.int .u64 z) s) = true
    rw [tabOk_self s, decide_eq_true rfl]; rfl
theorem c17 {n : Int} (hn : -9223372036854775808 ≤ n ∧ n ≤ 9223372036854775807) {H : Hp} (hT : Tab H) : R 17 [.int .i64 n, .int .i64 10] H = some (.string ⟨(Go.Lib.itoa n).toArray⟩, H) := by
  refine (run_ext (O := orc) Go.Proofs.Tryd.func17 (by kernel_rfl) (by kernel_rfl) (show EN 17 = some extFmt from rfl) _ H).trans ?_
  obtain ⟨cs, e, fz, h, h2⟩ := hT
  show (if -9223372036854775808 ≤ n ∧ n ≤ 9223372036854775807 then (match H.get 1 with | some (.fix (.cells cs _ _)) => (match tabOk cs.toList pow10 with | true => some (Value.string ⟨(Go.Lib.itoa n).toArray⟩, H) | false => none) | _ => none) else none) = _
  rw [if_pos hn, h]
  dsimp only
  rw [h2, tabOk_self]
theorem c18 (a b : ByteArray) (H : Hp) : R 18 [.string a, .string b] H = some (.int .i64 (Go.Lib.compareBytes a.data.toList b.data.toList), H) :=
  (run_ext (O := orc) Go.Proofs.Tryd.func18 (by kernel_rfl) (by kernel_rfl) (show EN 18 = some extCmp from rfl) _ H).trans rfl
theorem c9 {s : ByteArray} (hs : s.data.toList.length ≤ 2 ^ 30) {b : Int} (hb : 0 ≤ b ∧ b ≤ 9223372036854775807) {H : Hp} (hT : Tab H) : R 9 [.string s, .int .i64 b] H = some (.bool (okD s && decide ((dv s.data.toList : Int) ≤ b)), H) := by
  have hr := r9 EN rfl (.string s) (.int .i64 b) H
  unfold m9 at hr
  refine hr.trans ?_
  unfold okD
  cases he : s.toList == (⟨#[]⟩ : ByteArray).toList with
  | true => rw [q_seql, he, s_bool, q_brt, s_bind, s_ret, q_head]; rfl
  | false =>
    rw [q_seql, he, s_bool, q_brf, s_call (c15 hs H), s_not, s_bool]
    cases hall : s.data.toList.all isD with
    | false => rw [show (!false) = true from rfl, q_brt, s_bind, s_ret, q_head]; rfl
    | true =>
      obtain ⟨t, e16, et⟩ := c16 hs he H
      obtain ⟨u, hu⟩ := Int.eq_ofNat_of_zero_le hb.1
      subst hu
      have hit : Go.Lib.itoa (u : Int) = Go.Lib.decDigits u := by unfold Go.Lib.itoa; rw [if_neg (by omega), Int.toNat_natCast]
      have e17 := c17 (n := (u : Int)) (by omega) hT
      rw [hit] at e17
      have hst := sz t
      rw [et] at hst
      have hsd : (⟨(Go.Lib.decDigits u).toArray⟩ : ByteArray).size = (Go.Lib.decDigits u).length := by rw [sz]
      have hb := below_iff s.data.toList (List.all_eq_true.1 hall) u
      have hb2 : decide ((dv s.data.toList : Int) ≤ (u : Int)) = decide (dv s.data.toList ≤ u) := by simp
      rw [show (!true) = false from rfl, q_brf, s_bind, s_next, s_call e16, s_call e17, q_slen, q_slen, hst, hsd, s_lss, s_bool, hb2, ← hb]
      unfold belowT
      by_cases k1 : ((trimZ s.data.toList).length : Int) < ((Go.Lib.decDigits u).length : Int)
      · rw [decide_eq_true k1, q_brt]; rfl
      · rw [decide_eq_false k1, q_brf, q_slen, q_slen, hst, hsd, s_eql, s_bool]
        by_cases k2 : ((trimZ s.data.toList).length : Int) = ((Go.Lib.decDigits u).length : Int)
        · rw [decide_eq_true k2, q_brt, s_call (c18 _ _ H), s_leq, et]; rfl
        · rw [decide_eq_false k2, q_brf]; rfl
end Go.AM.N20
/- The Need seat: the laws' runs. -/
set_option linter.unusedVariables false
set_option linter.unusedSimpArgs false
set_option linter.unusedSectionVars false
namespace Go.AM.N20
open Go Go.AM
/-- A need: six texts. -/
structure Nee where
  a : ByteArray
  b : ByteArray
  c : ByteArray
  d : ByteArray
  e : ByteArray
  f : ByteArray
def Nee.cells (n : Nee) : List Value := [.string n.a, .string n.b, .string n.c, .string n.d, .string n.e, .string n.f]
def Nee.val (n : Nee) : Value := .agg n.cells.toArray
structure Nee.Ok (n : Nee) : Prop where
  a : n.a.data.toList.length ≤ 2 ^ 30
  b : n.b.data.toList.length ≤ 2 ^ 30
  c : n.c.data.toList.length ≤ 2 ^ 30
  d : n.d.data.toList.length ≤ 2 ^ 30
  e : n.e.data.toList.length ≤ 2 ^ 30
  f : n.f.data.toList.length ≤ 2 ^ 30
section
variable {α : Type} (n : Nee) (k : Value → Option α)
theorem ne0 : pCell 1 false (cellsL n.val) 0 k = k (.string n.a) := s_cell _ 0 _ rfl k
theorem ne1 : pCell 1 false (cellsL n.val) 1 k = k (.string n.b) := s_cell _ 1 _ rfl k
theorem ne3 : pCell 1 false (cellsL n.val) 3 k = k (.string n.d) := s_cell _ 3 _ rfl k
theorem ne4 : pCell 1 false (cellsL n.val) 4 k = k (.string n.e) := s_cell _ 4 _ rfl k
theorem ne5 : pCell 1 false (cellsL n.val) 5 k = k (.string n.f) := s_cell _ 5 _ rfl k
theorem ne06 : pCell 6 true (cellsL n.val) 0 k = k n.val := rfl
end
structure Bud where
  a : Int
  b : Int
  c : Int
  d : Int
def Bud.cells (n : Bud) : List Value := [.int .i64 n.a, .int .i64 n.b, .int .i64 n.c, .int .i64 n.d]
def Bud.val (n : Bud) : Value := .agg n.cells.toArray
def I64 (x : Int) : Prop := -9223372036854775808 ≤ x ∧ x ≤ 9223372036854775807
structure Bud.Ok (n : Bud) : Prop where
  a : I64 n.a
  b : I64 n.b
  c : I64 n.c
  d : I64 n.d
section
variable {α : Type} (n : Bud) (k : Value → Option α)
theorem bu0 : pCell 1 false (cellsL n.val) 0 k = k (.int .i64 n.a) := s_cell _ 0 _ rfl k
theorem bu1 : pCell 1 false (cellsL n.val) 1 k = k (.int .i64 n.b) := s_cell _ 1 _ rfl k
theorem bu2 : pCell 1 false (cellsL n.val) 2 k = k (.int .i64 n.c) := s_cell _ 2 _ rfl k
theorem bu3 : pCell 1 false (cellsL n.val) 3 k = k (.int .i64 n.d) := s_cell _ 3 _ rfl k
theorem bu04 : pCell 4 true (cellsL n.val) 0 k = k n.val := rfl
end
/-- NeedRoomy. -/
theorem run3 (n : Nee) (hn : n.Ok) {H : Hp} (hT : Tab H) : ∃ H', R 3 [n.val] H = some (.bool true, H') := by
  have h5 : R 5 [n.val] H = some (.bool (okD n.f && decide ((dv n.f.data.toList : Int) ≤ 1044480)), H) := by
    have hr := r5 EN rfl n.val H
    refine hr.trans ?_
    unfold m5
    rw [ne5, s_call (c9 hn.f (by decide) hT)]
  have h6 : ∃ H', R 6 [n.val] H = some (.bool (okD n.f && decide ((dv n.f.data.toList : Int) ≤ 1044480)), H') := by
    have hr := r6 EN rfl n.val H
    unfold m6 at hr
    obtain ⟨H1, v, e1, f1, g1⟩ := c10 hn.f H
    rw [ne5, s_call e1, q_ext0, q_ext1, s_bool] at hr
    cases hok : okD n.f with
    | false =>
      rw [hok, q_brf] at hr
      exact ⟨H1, hr⟩
    | true =>
      have hall : ∀ c ∈ n.f.data.toList, isD c = true := by
        unfold okD at hok
        rw [Bool.and_eq_true] at hok
        exact List.all_eq_true.1 hok.2
      have hl := dg_len10 hall
      have hlt := dv_lt n.f.data.toList hall
      have hf := hn.f
      obtain ⟨H2, v2, e2, b2, f2⟩ := c12 (n := 1048576) (by decide) H1
      obtain ⟨H3, v3, e3, b3, f3⟩ := c12 (n := 4096) (by decide) H2
      have hlen : (dg 10000 (dv n.f.data.toList + 4096)).length ≤ n.f.data.toList.length + 1 := by
        refine dg_len_lt b10 ?_
        have h1 : 10 ^ n.f.data.toList.length ≤ 10000 ^ n.f.data.toList.length := Nat.pow_le_pow_left (by decide) _
        have h2 : 1 ≤ 10000 ^ n.f.data.toList.length := Nat.pow_pos (by decide)
        rw [Nat.pow_succ]
        omega
      obtain ⟨H4, v4, e4, b4, f4⟩ := c13 (((g1 hok).frm f2).frm f3) b3 (by omega)
      have e5 := c11 ((b2.frm f3).frm f4) b4 (by decide) (by omega)
      rw [show ((1048576 : Nat) : Int) = 1048576 from rfl] at e2
      rw [show ((4096 : Nat) : Int) = 4096 from rfl] at e3
      rw [hok, q_brt, s_call e2, s_call e3, s_call e4, s_call e5, s_not] at hr
      have e : ∀ X : Nat, (!decide (1048576 < X + 4096)) = (true && decide ((X : Int) ≤ 1044480)) := fun X => by
        by_cases k : 1048576 < X + 4096
        · have k2 : ¬ (X : Int) ≤ 1044480 := by omega
          simp only [k, k2, decide_true, decide_false, Bool.not_true, Bool.and_false]
        · have k2 : (X : Int) ≤ 1044480 := by omega
          simp only [k, k2, decide_true, decide_false, Bool.not_false, Bool.and_true]
      rw [e] at hr
      exact ⟨H4, hr⟩
  obtain ⟨H', h6⟩ := h6
  have hr := r3 EN rfl n.val H
  refine ⟨H', hr.trans ?_⟩
  unfold m3
  rw [ne06, s_call h5, ne06, s_call h6, q_beql 4 _ _ (by kernel_rfl), beq_self_eq_true]
/-- What a budget's number says of a need's. -/
def W (s : ByteArray) (b : Int) : Bool := decide (b < 0) || (okD s && decide ((dv s.data.toList : Int) ≤ b))
theorem bld' {α : Type} {P : Program} {t : TypeId} {l : List (Nat × Value)} {v : Value} (h : buildV P t l = some v) (k : Value → Option α) : pBuild P t l k = k v := by unfold pBuild; rw [h]
theorem bp37 {α : Type} (s : ByteArray) (b : Int) (k : Value → Option α) : pBuild Go.Proofs.Tryd.prog 37 [(0, .string s), (1, .int .i64 b)] k = k (.agg #[.string s, .int .i64 b]) := bld' (by kernel_rfl) k
theorem bp38 {α : Type} (s0 s1 s2 s3 : ByteArray) (b0 b1 b2 b3 : Int) (k : Value → Option α) : pBuild Go.Proofs.Tryd.prog 38 [(0, .agg #[.string s0, .int .i64 b0]), (1, .agg #[.string s1, .int .i64 b1]), (2, .agg #[.string s2, .int .i64 b2]), (3, .agg #[.string s3, .int .i64 b3])] k =
    k (.agg #[.string s0, .int .i64 b0, .string s1, .int .i64 b1, .string s2, .int .i64 b2, .string s3, .int .i64 b3]) := bld' (by kernel_rfl) k
theorem spl2 {α : Type} (s : ByteArray) (b : Int) (k : List Value → Option α) : pSplice 2 [.string ⟨#[]⟩, .int .i64 0] 0 (.agg #[.string s, .int .i64 b]) k = k [.string s, .int .i64 b] := by
  have : wrCells 2 [.string ⟨#[]⟩, .int .i64 0] 0 (.agg #[.string s, .int .i64 b]) = some [.string s, .int .i64 b] := by kernel_rfl
  unfold pSplice; rw [this]
theorem enough_step {v : Value} {s : ByteArray} {b : Int} (hs : s.data.toList.length ≤ 2 ^ 30) (hb : I64 b) {H : Hp} (hT : Tab H) {i : Nat} (hi : i < 4) (hat : ∀ (k : Value → Option Outc), pAtArr 4 true 2 v (.int .i64 (i : Int)) k = k (.agg #[.string s, .int .i64 b])) :
    s7_1 R v [.int .i64 (i : Int)] H = if W s b = true then some (.next, [.int .i64 ((i + 1 : Nat) : Int)], H) else some (.ret, [.bool false], H) := by
  have q : (i : Int) < 4 := by omega
  have w : IntKind.i64.wrap ((i : Int) + 1) = ((i + 1 : Nat) : Int) := q_i64 (by omega) (by omega)
  have p1 : ∀ (k : Value → Option Outc), pCell 1 false [.string s, .int .i64 b] 1 k = k (.int .i64 b) := fun k => s_cell _ 1 _ rfl k
  have p0 : ∀ (k : Value → Option Outc), pCell 1 false [.string s, .int .i64 b] 0 k = k (.string s) := fun k => s_cell _ 0 _ rfl k
  unfold s7_1 W
  by_cases h0 : b ≥ 0
  · have h1 : ¬ b < 0 := by omega
    have e9 := c9 hs (b := b) ⟨h0, hb.2⟩ hT
    simp only [List.getD_cons_zero, s_lss, q, decide_true, s_bool, q_brt, hat, spl2, p1, p0, s_geq, h0, s_call e9, s_not, h1, decide_false, Bool.false_or]
    cases okD s && decide ((dv s.data.toList : Int) ≤ b) with
    | true => simp only [Bool.not_true, q_brf, s_add, w, if_true]
    | false => simp only [Bool.not_false, q_brt, Bool.false_eq_true, if_false]
  · have h1 : b < 0 := by omega
    simp only [List.getD_cons_zero, s_lss, q, decide_true, s_bool, q_brt, hat, spl2, p1, s_geq, h0, decide_false, q_brf, h1, Bool.true_or, if_true, s_add, w]
/-- NeedEnough. -/
theorem run4 (n : Nee) (hn : n.Ok) (g : Bud) (hg : g.Ok) {H : Hp} (hT : Tab H) : ∃ H', R 4 [n.val, g.val] H = some (.bool true, H') := by
  have h7 : R 7 [n.val, g.val] H = some (.bool (W n.a g.a && (W n.b g.b && (W n.d g.c && W n.e g.d))), H) := by
    have hr := (r7 EN rfl n.val g.val H).trans (k7 _ _ _ _)
    refine hr.trans ?_
    rw [ne0, bu0, bp37, ne1, bu1, bp37, ne3, bu2, bp37, ne4, bu3, bp37, bp38]
    have s0 := enough_step hn.a hg.a hT (i := 0) (by decide) (v := .agg #[.string n.a, .int .i64 g.a, .string n.b, .int .i64 g.b, .string n.d, .int .i64 g.c, .string n.e, .int .i64 g.d]) (fun k => rfl)
    have s1 := enough_step hn.b hg.b hT (i := 1) (by decide) (v := .agg #[.string n.a, .int .i64 g.a, .string n.b, .int .i64 g.b, .string n.d, .int .i64 g.c, .string n.e, .int .i64 g.d]) (fun k => rfl)
    have s2 := enough_step hn.d hg.c hT (i := 2) (by decide) (v := .agg #[.string n.a, .int .i64 g.a, .string n.b, .int .i64 g.b, .string n.d, .int .i64 g.c, .string n.e, .int .i64 g.d]) (fun k => rfl)
    have s3 := enough_step hn.e hg.d hT (i := 3) (by decide) (v := .agg #[.string n.a, .int .i64 g.a, .string n.b, .int .i64 g.b, .string n.d, .int .i64 g.c, .string n.e, .int .i64 g.d]) (fun k => rfl)
    generalize (Value.agg #[.string n.a, .int .i64 g.a, .string n.b, .int .i64 g.b, .string n.d, .int .i64 g.c, .string n.e, .int .i64 g.d]) = v at *
    have s4 : s7_1 R v [.int .i64 ((3 + 1 : Nat) : Int)] H = some (.exit 0, [.int .i64 4], H) := by
      unfold s7_1
      simp only [List.getD_cons_zero, s_lss, s_bool]
      rfl
    have l4 : loopD (s7_1 R v) [.int .i64 ((3 + 1 : Nat) : Int)] H = some (.exit 0, [.int .i64 4], H) := by rw [loopD_eq, s4]; rfl
    have st : ∀ (i : Nat) (b : Bool) (o : Option Outc), s7_1 R v [.int .i64 (i : Int)] H = (if b = true then some (.next, [.int .i64 ((i + 1 : Nat) : Int)], H) else some (.ret, [.bool false], H)) → loopD (s7_1 R v) [.int .i64 ((i + 1 : Nat) : Int)] H = o →
        loopD (s7_1 R v) [.int .i64 (i : Int)] H = if b = true then o else some (.ret, [.bool false], H) := fun i b o h1 h2 => by
      rw [loopD_eq, h1]
      cases b with
      | true => rw [if_pos rfl, if_pos rfl]; exact h2
      | false => rw [if_neg (by decide), if_neg (by decide)]; rfl
    have l0 := st 0 _ _ s0 (st 1 _ _ s1 (st 2 _ _ s2 (st 3 _ _ s3 l4)))
    rw [show ((0 : Nat) : Int) = 0 from rfl] at l0
    rw [l0]
    cases W n.a g.a <;> cases W n.b g.b <;> cases W n.d g.c <;> cases W n.e g.d <;> rfl
  have h8 : ∃ H', R 8 [n.val, g.val] H = some (.bool (W n.a g.a && (W n.b g.b && (W n.d g.c && W n.e g.d))), H') := by
    have hr := r8 EN rfl n.val g.val H
    unfold m8 at hr
    obtain ⟨H1, e1, f1⟩ := c14 hn.a hg.a H
    obtain ⟨H2, e2, f2⟩ := c14 hn.b hg.b H1
    obtain ⟨H3, e3, f3⟩ := c14 hn.d hg.c H2
    obtain ⟨H4, e4, f4⟩ := c14 hn.e hg.d H3
    rw [ne0, bu0, s_call e1, s_bool] at hr
    show ∃ H', R 8 [n.val, g.val] H = some (.bool ((decide (g.a < 0) || (okD n.a && decide ((dv n.a.data.toList : Int) ≤ g.a))) && ((decide (g.b < 0) || (okD n.b && decide ((dv n.b.data.toList : Int) ≤ g.b))) && ((decide (g.c < 0) || (okD n.d && decide ((dv n.d.data.toList : Int) ≤ g.c))) && (decide (g.d < 0) || (okD n.e && decide ((dv n.e.data.toList : Int) ≤ g.d)))))), H')
    generalize (decide (g.a < 0) || (okD n.a && decide ((dv n.a.data.toList : Int) ≤ g.a))) = wa at *
    cases wa with
    | false => exact ⟨H1, hr⟩
    | true =>
      rw [q_brt, ne1, bu1, s_call e2, s_bool] at hr
      generalize (decide (g.b < 0) || (okD n.b && decide ((dv n.b.data.toList : Int) ≤ g.b))) = wb at *
      cases wb with
      | false => exact ⟨H2, hr⟩
      | true =>
        rw [q_brt, ne3, bu2, s_call e3, s_bool] at hr
        generalize (decide (g.c < 0) || (okD n.d && decide ((dv n.d.data.toList : Int) ≤ g.c))) = wc at *
        cases wc with
        | false => exact ⟨H3, hr⟩
        | true =>
          rw [q_brt, ne4, bu3, s_call e4] at hr
          exact ⟨H4, hr⟩
  obtain ⟨H', h8⟩ := h8
  have hr := r4 EN rfl n.val g.val H
  refine ⟨H', hr.trans ?_⟩
  unfold m4
  rw [ne06, bu04, s_call h7, ne06, bu04, s_call h8, q_beql 4 _ _ (by kernel_rfl), beq_self_eq_true]
end Go.AM.N20
/- The abstract machine: how its heap stands to the model's world. -/
set_option linter.unusedVariables false
namespace Go.AM
open Go

structure BI where
  b : Nat
  s : Nat
  t : Nat
abbrev Bt := Nat → Option BI
def Bt.le (β β' : Bt) : Prop := ∀ i x, β i = some x → β' i = some x
theorem Bt.le_refl (β : Bt) : β.le β := fun _ _ h => h
theorem Bt.le_trans {a b c : Bt} (h : a.le b) (k : b.le c) : a.le c := fun i x e => k i x (h i x e)

/-- A value of the machine's, and the model's. -/
inductive VRel (β : Bt) : Value → Value → Prop
  | bool (b : Bool) : VRel β (.bool b) (.bool b)
  | int (k : IntKind) (n : Int) : VRel β (.int k n) (.int k n)
  | string (s : ByteArray) : VRel β (.string s) (.string s)
  | pnil : VRel β (.pointer none) (.pointer none)
  | ptr (i o : Nat) (x : BI) (h : β i = some x) : VRel β (.pointer (some ⟨i, o, none⟩)) (.pointer (some ⟨x.b, x.s + o, none⟩))
  | snil : VRel β (.slice none 0 0) (.slice none 0 0)
  | slice (i o z n c : Nat) (x : BI) (o' c' : Nat) (h : β i = some x) (hn : n ≤ c) (hc : c ≤ c') (ht : o' + c' * z ≤ x.t) (ho : 0 < c → o' = x.s + o) :
      VRel β (.slice (some ⟨i, o, some z⟩) n c) (.slice (some ⟨x.b, o', none⟩) n c')
  | mnil : VRel β (.map none) (.map none)
  | map (i : Nat) (x : BI) (h : β i = some x) : VRel β (.map (some i)) (.map (some x.b))
  | nilFunc : VRel β .nilFunc .nilFunc
  | nilIface : VRel β .nilIface .nilIface
  | iface (t : TypeId) (v v' : Value) (h : VRel β v v') : VRel β (.iface t v) (.iface t v')
  | func (fn : Fn) (fs fs' cs cs' : List Value) (hl : fs.length = fs'.length) (h : ∀ (k : Nat) v v', fs[k]? = some v → fs'[k]? = some v' → VRel β v v')
      (hl2 : cs.length = cs'.length) (h2 : ∀ (k : Nat) v v', cs[k]? = some v → cs'[k]? = some v' → VRel β v v') : VRel β (.func fn ⟨fs⟩ ⟨cs⟩) (.func fn ⟨fs'⟩ ⟨cs'⟩)
  | agg (cs cs' : List Value) (hl : cs.length = cs'.length) (h : ∀ (k : Nat) v v', cs[k]? = some v → cs'[k]? = some v' → VRel β v v') : VRel β (.agg ⟨cs⟩) (.agg ⟨cs'⟩)
  | tuple (cs cs' : List Value) (hl : cs.length = cs'.length) (h : ∀ (k : Nat) v v', cs[k]? = some v → cs'[k]? = some v' → VRel β v v') : VRel β (.tuple ⟨cs⟩) (.tuple ⟨cs'⟩)

def LRel (β : Bt) (l l' : List Value) : Prop := l.length = l'.length ∧ ∀ (k : Nat) v v', l[k]? = some v → l'[k]? = some v' → VRel β v v'

theorem VRel.mono {β β' : Bt} (hb : β.le β') {v v' : Value} (h : VRel β v v') : VRel β' v v' := by
  induction h with
  | bool b => exact .bool b
  | int k n => exact .int k n
  | string s => exact .string s
  | pnil => exact .pnil
  | ptr i o x h => exact .ptr i o x (hb _ _ h)
  | snil => exact .snil
  | slice i o z n c x o' c' h hn hc ht ho => exact .slice i o z n c x o' c' (hb _ _ h) hn hc ht ho
  | mnil => exact .mnil
  | map i x h => exact .map i x (hb _ _ h)
  | nilFunc => exact .nilFunc
  | nilIface => exact .nilIface
  | iface t v v' _ ih => exact .iface t v v' ih
  | func fn fs fs' cs cs' hl _ hl2 _ ih ih2 => exact .func fn fs fs' cs cs' hl ih hl2 ih2
  | agg cs cs' hl _ ih => exact .agg cs cs' hl ih
  | tuple cs cs' hl _ ih => exact .tuple cs cs' hl ih
theorem LRel.mono {β β' : Bt} (hb : β.le β') {l l' : List Value} (h : LRel β l l') : LRel β' l l' := ⟨h.1, fun k v v' a b => (h.2 k v v' a b).mono hb⟩

theorem LRel.nil (β : Bt) : LRel β [] [] := ⟨rfl, by simp⟩
theorem LRel.cons {β : Bt} {v v' : Value} {l l' : List Value} (h : VRel β v v') (hl : LRel β l l') : LRel β (v :: l) (v' :: l') := by
  refine ⟨by simp [hl.1], fun k a b ha hb => ?_⟩
  cases k with
  | zero => simp at ha hb; subst ha; subst hb; exact h
  | succ k => simp at ha hb; exact hl.2 k a b ha hb
theorem LRel.append {β : Bt} {a a' b b' : List Value} (h : LRel β a a') (k : LRel β b b') : LRel β (a ++ b) (a' ++ b') := by
  refine ⟨by simp [h.1, k.1], fun i v v' hv hv' => ?_⟩
  by_cases hi : i < a.length
  · rw [List.getElem?_append_left hi] at hv
    rw [List.getElem?_append_left (h.1 ▸ hi)] at hv'
    exact h.2 i v v' hv hv'
  · rw [List.getElem?_append_right (by omega)] at hv
    rw [List.getElem?_append_right (by have := h.1; omega), ← h.1] at hv'
    exact k.2 _ v v' hv hv'
theorem LRel.take {β : Bt} {a a' : List Value} (h : LRel β a a') (n : Nat) : LRel β (a.take n) (a'.take n) := by
  refine ⟨by simp [h.1], fun i v v' hv hv' => ?_⟩
  rw [List.getElem?_take] at hv hv'
  split at hv <;> simp_all
  exact h.2 i v v' hv hv'
theorem LRel.drop {β : Bt} {a a' : List Value} (h : LRel β a a') (n : Nat) : LRel β (a.drop n) (a'.drop n) := by
  refine ⟨by simp [h.1], fun i v v' hv hv' => ?_⟩
  rw [List.getElem?_drop] at hv hv'
  exact h.2 _ v v' hv hv'
theorem LRel.get {β : Bt} {a a' : List Value} (h : LRel β a a') {k : Nat} {v : Value} (hv : a[k]? = some v) : ∃ v', a'[k]? = some v' ∧ VRel β v v' := by
  have hk : k < a.length := (List.getElem?_eq_some_iff.1 hv).1
  have hk' : k < a'.length := h.1 ▸ hk
  exact ⟨a'[k], by simp [hk'], h.2 k v _ hv (by simp [hk'])⟩
theorem LRel.of_get {β : Bt} {a a' : List Value} (hl : a.length = a'.length) (h : ∀ (k : Nat) v, a[k]? = some v → ∃ v', a'[k]? = some v' ∧ VRel β v v') : LRel β a a' :=
  ⟨hl, fun k v v' hv hv' => by obtain ⟨u, hu, hr⟩ := h k v hv; rw [hv'] at hu; cases hu; exact hr⟩

theorem agg_iff {β : Bt} {cs : Array Value} {v' : Value} : VRel β (.agg cs) v' ↔ ∃ cs' : Array Value, v' = .agg cs' ∧ LRel β cs.toList cs'.toList := by
  constructor
  · intro h
    cases h with
    | agg cs cs' hl h => exact ⟨⟨cs'⟩, rfl, hl, h⟩
  · rintro ⟨cs', rfl, hl, h⟩
    obtain ⟨cs⟩ := cs
    obtain ⟨cs'⟩ := cs'
    exact .agg cs cs' hl h
theorem tuple_iff {β : Bt} {cs : Array Value} {v' : Value} : VRel β (.tuple cs) v' ↔ ∃ cs' : Array Value, v' = .tuple cs' ∧ LRel β cs.toList cs'.toList := by
  constructor
  · intro h
    cases h with
    | tuple cs cs' hl h => exact ⟨⟨cs'⟩, rfl, hl, h⟩
  · rintro ⟨cs', rfl, hl, h⟩
    obtain ⟨cs⟩ := cs
    obtain ⟨cs'⟩ := cs'
    exact .tuple cs cs' hl h

theorem VRel.one_eq {β : Bt} {v v' : Value} (h : VRel β v v') : v'.oneCell' = one v := by cases h <;> rfl
theorem VRel.cells {β : Bt} {v v' : Value} (h : VRel β v v') : LRel β (cellsL v) v'.cells.toList := by
  cases h with
  | agg cs cs' hl h => exact ⟨hl, h⟩
  | _ => simp only [cellsL, Value.cells]; exact LRel.cons (by constructor <;> assumption) (LRel.nil _)

/-! ### Worlds -/
def AObj.own : AObj → Bool
  | .cells _ o => o
  | .map _ => true
  | .fix _ => false
def OwnB (H : Hp) (β : Bt) (b : Nat) : Prop := ∃ i o x, H.get i = some o ∧ o.own = true ∧ β i = some x ∧ x.b = b
def ERel (β : Bt) (kv : List (Value × Value)) (es : List MapEntry) : Prop :=
  kv.length = es.length ∧ ∀ (j : Nat) k v (e : MapEntry), kv[j]? = some (k, v) → es[j]? = some e → VRel β k e.key ∧ VRel β v e.val
theorem ERel.mono {β β' : Bt} (hb : β.le β') {kv : List (Value × Value)} {es : List MapEntry} (h : ERel β kv es) : ERel β' kv es :=
  ⟨h.1, fun j k v e a b => ⟨(h.2 j k v e a b).1.mono hb, (h.2 j k v e a b).2.mono hb⟩⟩

/-- A row of cells that nobody froze. -/
def RowAt (w : World) (b t : Nat) : Prop := ∃ arr e fz, w.heap[b]? = some (.cells arr e fz) ∧ arr.size = t ∧ ∀ j, j < t → ¬ (fz.1 ≤ j ∧ j < fz.2)

structure Rel (P : Program) (w : World) (H : Hp) (β : Bt) : Prop where
  cells : ∀ i cs own, H.get i = some (.cells cs own) → ∃ x, β i = some x ∧ (∀ j v, cs[j]? = some v → ∃ v', w.cell? ⟨x.b, x.s + j, none⟩ = some v' ∧ VRel β v v') ∧
    (own = true → RowAt w x.b x.t ∧ x.s + cs.length ≤ x.t)
  maps : ∀ i kv, H.get i = some (.map kv) → ∃ x, β i = some x ∧ ∃ es clock, w.heap[x.b]? = some (.map es clock) ∧ ERel β kv es.toList ∧ (∀ e ∈ es.toList, e.born < clock)
  apart : ∀ i j o o' x y, i ≠ j → H.get i = some o → H.get j = some o' → o.own = true → β i = some x → β j = some y → x.b ≠ y.b
  fresh : ∀ i, H.next ≤ i → H.get i = none ∧ β i = none
  lt : ∀ i x, β i = some x → x.b < w.heap.size
  glob : ∀ g, g < P.globals.size → ∃ t, β g = some ⟨g, 0, t⟩
  fix : ∀ i o, H.get i = some (.fix o) → ∃ x, β i = some x ∧ w.heap[x.b]? = some o

/-- What is below block number N, and not of its own, is as it was. -/
structure Ext (N : Nat) (w : World) (H : Hp) (β : Bt) (w' : World) (H' : Hp) (β' : Bt) : Prop where
  os : w'.os = w.os
  tape : w'.tape = w.tape
  output : w'.output = w.output
  size : w.heap.size ≤ w'.heap.size
  le : β.le β'
  next : H.next ≤ H'.next
  frame : ∀ b, b < N → ¬ OwnB H β b → w'.heap[b]? = w.heap[b]?
  own : ∀ b, OwnB H' β' b → N ≤ b ∨ OwnB H β b
  news : ∀ i x, β' i = some x → β i = none → N ≤ x.b ∨ OwnB H β x.b

theorem Ext.refl (N : Nat) (w : World) (H : Hp) (β : Bt) : Ext N w H β w H β :=
  ⟨rfl, rfl, rfl, Nat.le_refl _, Bt.le_refl _, Nat.le_refl _, fun _ _ _ => rfl, fun _ h => .inr h, fun i x h e => by rw [h] at e; cases e⟩
theorem Ext.weaken {M N : Nat} {w w' : World} {H H' : Hp} {β β' : Bt} (h : Ext M w H β w' H' β') (hn : N ≤ M) : Ext N w H β w' H' β' :=
  ⟨h.os, h.tape, h.output, h.size, h.le, h.next, fun b hb => h.frame b (Nat.lt_of_lt_of_le hb hn), fun b q => (h.own b q).imp (Nat.le_trans hn) id, fun i x hx e => (h.news i x hx e).imp (Nat.le_trans hn) id⟩
theorem Ext.trans {N : Nat} {w1 w2 w3 : World} {H1 H2 H3 : Hp} {β1 β2 β3 : Bt} (h : Ext N w1 H1 β1 w2 H2 β2) (k : Ext N w2 H2 β2 w3 H3 β3) : Ext N w1 H1 β1 w3 H3 β3 where
  os := k.os.trans h.os
  tape := k.tape.trans h.tape
  output := k.output.trans h.output
  size := Nat.le_trans h.size k.size
  le := Bt.le_trans h.le k.le
  next := Nat.le_trans h.next k.next
  frame := fun b hb ho => by
    have ho2 : ¬ OwnB H2 β2 b := fun q => (h.own b q).elim (fun q => by omega) ho
    rw [k.frame b hb ho2, h.frame b hb ho]
  own := fun b q => by
    rcases k.own b q with q | q
    · exact .inl q
    · exact h.own b q
  news := fun i x hx e => by
    cases hb : β2 i with
    | none =>
      rcases k.news i x hx hb with q | q
      · exact .inl q
      · exact h.own _ q
    | some y =>
      have hy := k.le i y hb
      rw [hx] at hy
      cases hy
      exact h.news i x hb e

theorem cell_iff {w : World} {b j : Nat} {v : Value} : w.cell? ⟨b, j, none⟩ = some v ↔ ∃ arr e fz, w.heap[b]? = some (.cells arr e fz) ∧ arr[j]? = some v := by
  unfold World.cell?
  constructor
  · intro h
    dsimp only at h
    split at h
    · rename_i c e fz hh; exact ⟨c, e, fz, hh, by simpa using h⟩
    · simp at h
  · rintro ⟨arr, e, fz, hh, hv⟩
    simp [hh, hv]

/-- The world with some cells of one row written. -/
structure Put (w : World) (b off : Nat) (vs : List Value) (w' : World) : Prop where
  os : w'.os = w.os
  tape : w'.tape = w.tape
  output : w'.output = w.output
  size : w'.heap.size = w.heap.size
  other : ∀ k, k ≠ b → w'.heap[k]? = w.heap[k]?
  row : ∀ arr e fz, w.heap[b]? = some (.cells arr e fz) → ∃ arr', w'.heap[b]? = some (.cells arr' e fz) ∧ arr'.size = arr.size ∧
    ∀ j, arr'[j]? = if off ≤ j ∧ j < off + vs.length then vs[j - off]? else arr[j]?

theorem Put.nil (w : World) (b off : Nat) : Put w b off [] w := ⟨rfl, rfl, rfl, rfl, fun _ _ => rfl, fun arr e fz h => ⟨arr, h, rfl, fun j => by rw [if_neg (by simp only [List.length_nil]; omega)]⟩⟩

theorem setCell_put (w : World) (b off : Nat) (v : Value) (arr : Array Value) (e : TypeId) (fz : Nat × Nat) (hw : w.heap[b]? = some (.cells arr e fz)) (ho : off < arr.size) :
    Put w b off [v] (w.setCell ⟨b, off, none⟩ v) := by
  refine ⟨rfl, rfl, rfl, by simp [World.setCell], fun k hk => ?_, fun arr' e' fz' h' => ?_⟩
  · simp only [World.setCell, Array.getElem?_modify]
    rw [if_neg (by omega)]
  · rw [hw] at h'; cases h'
    refine ⟨arr.setIfInBounds off v, ?_, by simp, fun j => ?_⟩
    · simp [World.setCell, Array.getElem?_modify, hw]
    · simp only [Array.getElem?_setIfInBounds, List.length_singleton]
      by_cases hj : off = j
      · subst hj; simp [ho]
      · rw [if_neg hj, if_neg (by omega)]

theorem Put.cons {w w1 w2 : World} {b off : Nat} {v : Value} {vs : List Value} (h : Put w b off [v] w1) (k : Put w1 b (off + 1) vs w2) : Put w b off (v :: vs) w2 := by
  refine ⟨k.os.trans h.os, k.tape.trans h.tape, k.output.trans h.output, k.size.trans h.size, fun i hi => (k.other i hi).trans (h.other i hi), fun arr e fz hw => ?_⟩
  obtain ⟨a1, h1, s1, g1⟩ := h.row arr e fz hw
  obtain ⟨a2, h2, s2, g2⟩ := k.row a1 e fz h1
  refine ⟨a2, h2, s2.trans s1, fun j => ?_⟩
  rw [g2 j, g1 j]
  simp only [List.length_cons, List.length_nil]
  by_cases c1 : off + 1 ≤ j ∧ j < off + 1 + vs.length
  · rw [if_pos c1, if_pos (by omega)]
    rw [show j - off = (j - (off + 1)) + 1 by omega]; simp
  · rw [if_neg c1]
    by_cases c2 : off = j
    · subst c2
      rw [if_pos (by omega), if_pos (by omega)]
      simp
    · rw [if_neg (by omega), if_neg (by omega)]

theorem frozen_false {w : World} {b j : Nat} {arr : Array Value} {e : TypeId} {fz : Nat × Nat} (hw : w.heap[b]? = some (.cells arr e fz)) (h : ¬ (fz.1 ≤ j ∧ j < fz.2)) : w.frozen? ⟨b, j, none⟩ = false := by
  obtain ⟨lo, hi⟩ := fz
  simp only [World.frozen?, hw]
  simp at h ⊢
  omega

theorem run_storeCells (P : Program) (b off : Nat) (arr : Array Value) (e : TypeId) (fz : Nat × Nat) (hfz : ∀ j, j < arr.size → ¬ (fz.1 ≤ j ∧ j < fz.2)) :
    ∀ (vs : List Value) (i : Nat) (w : World) (arr' : Array Value), w.heap[b]? = some (.cells arr' e fz) → arr'.size = arr.size → off + i + vs.length ≤ arr.size → (vs.all Value.oneCell') = true →
    ∃ w', (storeCells ⟨b, off, none⟩ vs i).run P w = .ok () w' ∧ Put w b (off + i) vs w'
  | [], i, w, arr', _, _, _, _ => ⟨w, by simp [storeCells], Put.nil _ _ _⟩
  | v :: vs, i, w, arr', hw, hs, hl, h1 => by
    simp only [List.all_cons, Bool.and_eq_true] at h1
    simp only [List.length_cons] at hl
    have hadd : (⟨b, off, none⟩ : Addr).add i = ⟨b, off + i, none⟩ := by unfold Addr.add; split <;> simp_all
    have hput := setCell_put w b (off + i) v arr' e fz hw (by omega)
    obtain ⟨a1, ha1, hs1, _⟩ := hput.row arr' e fz hw
    obtain ⟨w', hr, hp⟩ := run_storeCells P b off arr e fz hfz vs (i + 1) (w.setCell ⟨b, off + i, none⟩ v) a1 ha1 (by omega) (by omega) h1.2
    refine ⟨w', ?_, hput.cons (by rw [show off + i + 1 = off + (i + 1) by omega]; exact hp)⟩
    have hc : w.cell? ⟨b, off + i, none⟩ = some (arr'[off + i]'(by omega)) := cell_iff.2 ⟨arr', e, fz, hw, by simp⟩
    have hz : w.frozen? ⟨b, off + i, none⟩ = false := frozen_false hw (hfz (off + i) (by omega))
    simp only [storeCells, Sem.run_bind, hadd, run_store P w _ v _ h1.1, hc, hz, Bool.false_eq_true, if_false, Result.andThen_ok, hr]

theorem run_loadCells_rel {P : Program} {w : World} {b off : Nat} {β : Bt} {l : List Value} (h : ∀ j v, l[j]? = some v → ∃ v', w.cell? ⟨b, off + j, none⟩ = some v' ∧ VRel β v v') :
    ∃ l' : List Value, (loadCells ⟨b, off, none⟩ l.length).run P w = .ok l'.toArray w ∧ LRel β l l' := by
  have hf : ∀ j, j < l.length → w.cell? ⟨b, off + j, none⟩ = some ((w.cell? ⟨b, off + j, none⟩).getD undef) := by
    intro j hj
    obtain ⟨v', hv, _⟩ := h j l[j] (by simp [hj])
    simp [hv]
  have hadd : ∀ j, (⟨b, off, none⟩ : Addr).add j = ⟨b, off + j, none⟩ := by intro j; unfold Addr.add; split <;> simp_all
  refine ⟨(List.range l.length).map fun j => (w.cell? ⟨b, off + j, none⟩).getD undef, ?_, by simp, fun k v v' hv hv' => ?_⟩
  · rw [run_loadCells w ⟨b, off, none⟩ l.length (fun j => (w.cell? ⟨b, off + j, none⟩).getD undef) (fun j hj => by rw [hadd]; exact hf j hj)]
  · obtain ⟨u, hu, hr⟩ := h k v hv
    have hk : k < l.length := (List.getElem?_eq_some_iff.1 hv).1
    rw [List.getElem?_map, List.getElem?_range hk] at hv'
    simp [hu] at hv'
    subst hv'
    exact hr
end Go.AM
/- The abstract machine: frames, and what steps do to the relation. -/
set_option linter.unusedVariables false
namespace Go.AM
open Go

def SRel (β : Bt) (lam : Nat → Nat) (bx : Nat → Option Bx) (s : Slot) (v' : Value) : Prop :=
  match s with
  | .unk => True
  | .und => v' = undef
  | .val v => VRel β v v'
  | .loc d off => (bx d).isSome = true ∧ v' = .pointer (some ⟨lam d, off, none⟩)
def BxRel (w : World) (β : Bt) (b : Nat) : Bx → Prop
  | .cells cs _ => ∃ arr e, w.heap[b]? = some (.cells arr e (0, 0)) ∧ LRel β cs arr.toList
  | .iter s pos => w.heap[b]? = some (.stringIter s pos)
  | .iterRo s pos => w.heap[b]? = some (.stringIter s pos)

structure FRel (N : Nat) (w : World) (bx : Nat → Option Bx) (β : Bt) (lam : Nat → Nat) (fr : Fr) (a : Act) : Prop where
  size : a.tmps.size = fr.length
  slot : ∀ d s, fr[d]? = some s → SRel β lam bx s (a.tmps.getD d undef)
  box : ∀ d c, bx d = some c → N ≤ lam d ∧ lam d < w.heap.size ∧ (∀ i x, β i = some x → x.b ≠ lam d) ∧ BxRel w β (lam d) c
  apart : ∀ d d', (bx d).isSome = true → (bx d').isSome = true → d ≠ d' → lam d ≠ lam d'
  defers : a.defers = []

theorem SRel.mono {β β' : Bt} (hb : β.le β') {lam : Nat → Nat} {bx : Nat → Option Bx} {s : Slot} {v : Value} (h : SRel β lam bx s v) : SRel β' lam bx s v := by
  cases s with
  | val u => exact VRel.mono hb h
  | _ => exact h
theorem SRel.bx {β : Bt} {lam : Nat → Nat} {bx bx' : Nat → Option Bx} (hb : ∀ d, (bx d).isSome = true → (bx' d).isSome = true) {s : Slot} {v : Value} (h : SRel β lam bx s v) : SRel β lam bx' s v := by
  cases s with
  | loc d off => exact ⟨hb d h.1, h.2⟩
  | _ => exact h
/-- What a box may become. -/
def BxLe (b b' : Option Bx) : Prop :=
  match b with
  | none => True
  | some (.cells _ false) => ∃ cs', b' = some (.cells cs' false)
  | some (.iter _ _) => ∃ s p, b' = some (.iter s p)
  | b => b' = b
theorem BxLe.refl (b : Option Bx) : BxLe b b := by
  unfold BxLe; split <;> first | trivial | exact ⟨_, rfl⟩ | exact ⟨_, _, rfl⟩ | rfl
theorem BxLe.trans {a b c : Option Bx} (h : BxLe a b) (k : BxLe b c) : BxLe a c := by
  unfold BxLe at h
  split at h
  · trivial
  · obtain ⟨cs, rfl⟩ := h; exact k
  · obtain ⟨s, p, rfl⟩ := h; exact k
  · subst h; exact k
theorem BxLe.some {a b : Option Bx} (h : BxLe a b) (ha : a.isSome = true) : b.isSome = true := by
  unfold BxLe at h
  split at h
  · cases ha
  · obtain ⟨cs, rfl⟩ := h; rfl
  · obtain ⟨s, p, rfl⟩ := h; rfl
  · subst h; exact ha
def BMv (bx : Nat → Option Bx) (lam : Nat → Nat) (bx' : Nat → Option Bx) (lam' : Nat → Nat) : Prop := ∀ d, BxLe (bx d) (bx' d) ∧ ((bx d).isSome = true → lam' d = lam d)
theorem BMv.refl (bx : Nat → Option Bx) (lam : Nat → Nat) : BMv bx lam bx lam := fun d => ⟨BxLe.refl _, fun _ => rfl⟩
theorem BMv.trans {b1 b2 b3 : Nat → Option Bx} {l1 l2 l3 : Nat → Nat} (h : BMv b1 l1 b2 l2) (k : BMv b2 l2 b3 l3) : BMv b1 l1 b3 l3 := fun d =>
  ⟨(h d).1.trans (k d).1, fun hd => ((k d).2 ((h d).1.some hd)).trans ((h d).2 hd)⟩
theorem St.setB_same (S : St) (d : Nat) (c : Option Bx) : (S.setB d c).bx d = c := by simp [St.setB]
theorem St.setB_ne (S : St) {d e : Nat} (c : Option Bx) (h : e ≠ d) : (S.setB d c).bx e = S.bx e := by simp [St.setB, h]
theorem BMv.set {S : St} {d : Nat} {lam : Nat → Nat} {c : Bx} (h : BxLe (S.bx d) (some c)) : BMv S.bx lam (S.setB d (some c)).bx lam := fun e => by
  refine ⟨?_, fun _ => rfl⟩
  by_cases q : e = d
  · subst q; rw [St.setB_same]; exact h
  · rw [St.setB_ne _ _ q]; exact BxLe.refl _
theorem BMv.new {S : St} {d : Nat} {lam : Nat → Nat} {c : Bx} {n : Nat} (h : S.bx d = none) : BMv S.bx lam (S.setB d (some c)).bx (fun j => if j = d then n else lam j) := fun e => by
  by_cases q : e = d
  · subst q; rw [h]; exact ⟨trivial, fun q => by cases q⟩
  · rw [St.setB_ne _ _ q]; exact ⟨BxLe.refl _, fun _ => if_neg q⟩
theorem BxRel.mono {β β' : Bt} (hb : β.le β') {w w' : World} {b : Nat} (hw : w'.heap[b]? = w.heap[b]?) {c : Bx} (h : BxRel w β b c) : BxRel w' β' b c := by
  cases c with
  | cells cs ro => obtain ⟨arr, e, h1, h2⟩ := h; exact ⟨arr, e, by rw [hw]; exact h1, h2.mono hb⟩
  | iter s pos => show w'.heap[b]? = _; rw [hw]; exact h
  | iterRo s pos => show w'.heap[b]? = _; rw [hw]; exact h

theorem FRel.ext {N : Nat} {w w' : World} {H H' : Hp} {bx : Nat → Option Bx} {β β' : Bt} {lam : Nat → Nat} {fr : Fr} {a : Act}
    (h : FRel N w bx β lam fr a) (hr : ∀ i x, H.get i = some x → ∃ y, β i = some y) (k : Ext w.heap.size w H β w' H' β') : FRel N w' bx β' lam fr a where
  size := h.size
  slot := fun d s hs => (h.slot d s hs).mono k.le
  box := fun d c hc => by
    obtain ⟨h1, h2, h3, h4⟩ := h.box d c hc
    have hno : ¬ OwnB H β (lam d) := fun ⟨i, o, x, _, _, hx, hb⟩ => h3 i x hx hb
    refine ⟨h1, Nat.lt_of_lt_of_le h2 k.size, fun i x hx => ?_, h4.mono k.le (k.frame _ h2 hno)⟩
    cases hb : β i with
    | none => rcases k.news i x hx hb with q | q
              · omega
              · intro e; rw [e] at q; exact hno q
    | some y => have := k.le i y hb; rw [hx] at this; cases this; exact h3 i x hb
  apart := h.apart
  defers := h.defers

theorem Rel.has {P : Program} {w : World} {H : Hp} {β : Bt} (h : Rel P w H β) (i : Nat) (o : AObj) (hi : H.get i = some o) : ∃ x, β i = some x := by
  cases o with
  | cells cs own => obtain ⟨x, hx, _⟩ := h.cells i cs own hi; exact ⟨x, hx⟩
  | map kv => obtain ⟨x, hx, _⟩ := h.maps i kv hi; exact ⟨x, hx⟩
  | fix o => obtain ⟨x, hx, _⟩ := h.fix i o hi; exact ⟨x, hx⟩

theorem cell_congr {w w' : World} {b j : Nat} (h : w'.heap[b]? = w.heap[b]?) : w'.cell? ⟨b, j, none⟩ = w.cell? ⟨b, j, none⟩ := by
  simp only [World.cell?, h]
theorem RowAt.congr {w w' : World} {b t : Nat} (h : w'.heap[b]? = w.heap[b]?) (k : RowAt w b t) : RowAt w' b t := by
  obtain ⟨arr, e, fz, h1, h2, h3⟩ := k
  exact ⟨arr, e, fz, by rw [h]; exact h1, h2, h3⟩

/-- A world that is as it was at every object's block. -/
theorem Rel.frame {P : Program} {w w' : World} {H : Hp} {β : Bt} (h : Rel P w H β) (hs : w.heap.size ≤ w'.heap.size) (hw : ∀ i x, β i = some x → w'.heap[x.b]? = w.heap[x.b]?) : Rel P w' H β where
  cells := fun i cs own hi => by
    obtain ⟨x, hx, h1, h2⟩ := h.cells i cs own hi
    refine ⟨x, hx, fun j v hv => ?_, fun ho => ?_⟩
    · rw [cell_congr (hw i x hx)]; exact h1 j v hv
    · exact ⟨(h2 ho).1.congr (hw i x hx), (h2 ho).2⟩
  maps := fun i kv hi => by
    obtain ⟨x, hx, es, clock, h1, h2⟩ := h.maps i kv hi
    exact ⟨x, hx, es, clock, by rw [hw i x hx]; exact h1, h2⟩
  apart := h.apart
  fresh := h.fresh
  lt := fun i x hx => Nat.lt_of_lt_of_le (h.lt i x hx) hs
  glob := h.glob
  fix := fun i o hi => by
    obtain ⟨x, hx, h1⟩ := h.fix i o hi
    exact ⟨x, hx, by rw [hw i x hx]; exact h1⟩

theorem heap_alloc (w : World) (o : Obj) (k : Nat) (h : k < w.heap.size) : (w.alloc o).heap[k]? = w.heap[k]? := by
  show (w.heap.push o)[k]? = _
  rw [Array.getElem?_push, if_neg (by omega)]
theorem heap_alloc_new (w : World) (o : Obj) : (w.alloc o).heap[w.heap.size]? = some o := by
  show (w.heap.push o)[w.heap.size]? = _
  rw [Array.getElem?_push, if_pos rfl]

def Bt.set (β : Bt) (i : Nat) (x : BI) : Bt := fun j => if j = i then some x else β j
theorem Bt.le_set {β : Bt} {i : Nat} {x : BI} (h : β i = none) : β.le (β.set i x) := fun j y hj => by
  unfold Bt.set
  rw [if_neg (fun e => by subst e; rw [h] at hj; cases hj)]
  exact hj
theorem Bt.set_same (β : Bt) (i : Nat) (x : BI) : (β.set i x) i = some x := by simp [Bt.set]
theorem Hp.get_new (H : Hp) (o : AObj) (i : Nat) : (H.new o).get i = if i = H.next then some o else H.get i := rfl
theorem Hp.get_set (H : Hp) (j : Nat) (o : Option AObj) (i : Nat) : (H.set j o).get i = if i = j then o else H.get i := rfl

/-- An object more, in a new block of cells. -/
theorem Rel.new_cells {P : Program} {w : World} {H : Hp} {β : Bt} (h : Rel P w H β) (cs : List Value) (arr : Array Value) (e : TypeId) (fz : Nat × Nat) (n : Nat)
    (hl : LRel β cs (arr.toList.take n)) (hfz : ∀ j, j < arr.size → ¬ (fz.1 ≤ j ∧ j < fz.2)) :
    Rel P (w.alloc (.cells arr e fz)) (H.new (.cells cs true)) (β.set H.next ⟨w.heap.size, 0, arr.size⟩) ∧
    Ext w.heap.size w H β (w.alloc (.cells arr e fz)) (H.new (.cells cs true)) (β.set H.next ⟨w.heap.size, 0, arr.size⟩) := by
  have hf := (h.fresh H.next (Nat.le_refl _))
  have hle := Bt.le_set (x := ⟨w.heap.size, 0, arr.size⟩) hf.2
  have hlen : cs.length ≤ arr.size := by have := hl.1; simp at this; omega
  have hold : ∀ i x, β i = some x → (w.alloc (.cells arr e fz)).heap[x.b]? = w.heap[x.b]? := fun i x hx => heap_alloc _ _ _ (h.lt i x hx)
  refine ⟨⟨fun i ds own hi => ?_, fun i kv hi => ?_, fun i j o o' x y hij hi hj ho hx hy => ?_, fun i hi => ?_, fun i x hx => ?_, fun g hg => ?_, fun i o hi => (by
      rw [Hp.get_new] at hi
      split at hi
      · cases hi
      · obtain ⟨x, hx, h1⟩ := h.fix i o hi
        exact ⟨x, hle i x hx, by rw [hold i x hx]; exact h1⟩)⟩,
    ⟨rfl, rfl, rfl, by simp, hle, Nat.le_succ _, fun b hb _ => heap_alloc _ _ _ hb, fun b => ?_, fun i x hx hn => ?_⟩⟩
  · rw [Hp.get_new] at hi
    split at hi
    · rename_i hin
      cases hi
      subst hin
      refine ⟨_, Bt.set_same _ _ _, fun j v hv => ?_, fun _ => ⟨⟨arr, e, fz, heap_alloc_new _ _, rfl, hfz⟩, by simpa using hlen⟩⟩
      obtain ⟨v', hv', hr⟩ := hl.get hv
      refine ⟨v', cell_iff.2 ⟨arr, e, fz, heap_alloc_new _ _, ?_⟩, hr.mono hle⟩
      rw [List.getElem?_take] at hv'
      split at hv'
      · simpa using hv'
      · simp at hv'
    · rename_i hin
      obtain ⟨x, hx, h1, h2⟩ := h.cells i ds own hi
      refine ⟨x, hle i x hx, fun j v hv => ?_, fun ho => ⟨(h2 ho).1.congr (hold i x hx), (h2 ho).2⟩⟩
      obtain ⟨v', hv', hr⟩ := h1 j v hv
      exact ⟨v', by rw [cell_congr (hold i x hx)]; exact hv', hr.mono hle⟩
  · rw [Hp.get_new] at hi
    split at hi
    · cases hi
    · obtain ⟨x, hx, es, clock, h1, h2, h3⟩ := h.maps i kv hi
      exact ⟨x, hle i x hx, es, clock, by rw [hold i x hx]; exact h1, h2.mono hle, h3⟩
  · rw [Hp.get_new] at hi hj
    unfold Bt.set at hx hy
    split at hi
    · rename_i hin
      subst hin
      rw [if_pos rfl] at hx
      cases hx
      rw [if_neg (Ne.symm hij)] at hy
      have := h.lt j y hy
      show w.heap.size ≠ y.b
      omega
    · rename_i hin
      rw [if_neg hin] at hx
      split at hj
      · rename_i hjn
        subst hjn
        rw [if_pos rfl] at hy
        cases hy
        have := h.lt i x hx
        show x.b ≠ w.heap.size
        omega
      · rename_i hjn
        rw [if_neg hjn] at hy
        exact h.apart i j o o' x y hij hi hj ho hx hy
  · have : H.next + 1 ≤ i := hi
    rw [Hp.get_new, if_neg (by omega)]
    unfold Bt.set
    rw [if_neg (by omega)]
    exact h.fresh i (by omega)
  · unfold Bt.set at hx
    split at hx
    · cases hx; simp
    · have := h.lt i x hx; simp; omega
  · obtain ⟨t, ht⟩ := h.glob g hg
    exact ⟨t, hle g _ ht⟩
  · rintro ⟨i, o, x, hi, ho, hx, rfl⟩
    rw [Hp.get_new] at hi
    unfold Bt.set at hx
    split at hi
    · rename_i hin; rw [if_pos hin] at hx; cases hx; exact .inl (Nat.le_refl _)
    · rename_i hin; rw [if_neg hin] at hx; exact .inr ⟨i, o, x, hi, ho, hx, rfl⟩
  · unfold Bt.set at hx
    split at hx
    · cases hx; exact .inl (Nat.le_refl _)
    · rw [hn] at hx; cases hx

/-- A new map. -/
theorem Rel.new_map {P : Program} {w : World} {H : Hp} {β : Bt} (h : Rel P w H β) :
    Rel P (w.alloc (.map #[] 0)) (H.new (.map [])) (β.set H.next ⟨w.heap.size, 0, 0⟩) ∧ Ext w.heap.size w H β (w.alloc (.map #[] 0)) (H.new (.map [])) (β.set H.next ⟨w.heap.size, 0, 0⟩) := by
  have hf := (h.fresh H.next (Nat.le_refl _))
  have hle := Bt.le_set (x := ⟨w.heap.size, 0, 0⟩) hf.2
  have hold : ∀ i x, β i = some x → (w.alloc (.map #[] 0)).heap[x.b]? = w.heap[x.b]? := fun i x hx => heap_alloc _ _ _ (h.lt i x hx)
  refine ⟨⟨fun i ds own hi => ?_, fun i kv hi => ?_, fun i j o o' x y hij hi hj ho hx hy => ?_, fun i hi => ?_, fun i x hx => ?_, fun g hg => ?_, fun i o hi => (by
      rw [Hp.get_new] at hi
      split at hi
      · cases hi
      · obtain ⟨x, hx, h1⟩ := h.fix i o hi
        exact ⟨x, hle i x hx, by rw [hold i x hx]; exact h1⟩)⟩,
    ⟨rfl, rfl, rfl, by simp, hle, Nat.le_succ _, fun b hb _ => heap_alloc _ _ _ hb, fun b => ?_, fun i x hx hn => ?_⟩⟩
  · rw [Hp.get_new] at hi
    split at hi
    · cases hi
    · obtain ⟨x, hx, h1, h2⟩ := h.cells i ds own hi
      refine ⟨x, hle i x hx, fun j v hv => ?_, fun ho => ⟨(h2 ho).1.congr (hold i x hx), (h2 ho).2⟩⟩
      obtain ⟨v', hv', hr⟩ := h1 j v hv
      exact ⟨v', by rw [cell_congr (hold i x hx)]; exact hv', hr.mono hle⟩
  · rw [Hp.get_new] at hi
    split at hi
    · rename_i hin
      cases hi
      subst hin
      exact ⟨_, Bt.set_same _ _ _, #[], 0, heap_alloc_new _ _, ⟨rfl, by simp⟩, by simp⟩
    · obtain ⟨x, hx, es, clock, h1, h2, h3⟩ := h.maps i kv hi
      exact ⟨x, hle i x hx, es, clock, by rw [hold i x hx]; exact h1, h2.mono hle, h3⟩
  · rw [Hp.get_new] at hi hj
    unfold Bt.set at hx hy
    split at hi
    · rename_i hin
      subst hin
      rw [if_pos rfl] at hx
      cases hx
      rw [if_neg (Ne.symm hij)] at hy
      have := h.lt j y hy
      show w.heap.size ≠ y.b
      omega
    · rename_i hin
      rw [if_neg hin] at hx
      split at hj
      · rename_i hjn
        subst hjn
        rw [if_pos rfl] at hy
        cases hy
        have := h.lt i x hx
        show x.b ≠ w.heap.size
        omega
      · rename_i hjn
        rw [if_neg hjn] at hy
        exact h.apart i j o o' x y hij hi hj ho hx hy
  · have : H.next + 1 ≤ i := hi
    rw [Hp.get_new, if_neg (by omega)]
    unfold Bt.set
    rw [if_neg (by omega)]
    exact h.fresh i (by omega)
  · unfold Bt.set at hx
    split at hx
    · cases hx; simp
    · have := h.lt i x hx; simp; omega
  · obtain ⟨t, ht⟩ := h.glob g hg
    exact ⟨t, hle g _ ht⟩
  · rintro ⟨i, o, x, hi, ho, hx, rfl⟩
    rw [Hp.get_new] at hi
    unfold Bt.set at hx
    split at hi
    · rename_i hin; rw [if_pos hin] at hx; cases hx; exact .inl (Nat.le_refl _)
    · rename_i hin; rw [if_neg hin] at hx; exact .inr ⟨i, o, x, hi, ho, hx, rfl⟩
  · unfold Bt.set at hx
    split at hx
    · cases hx; exact .inl (Nat.le_refl _)
    · rw [hn] at hx; cases hx

theorem Ext.drew {N : Nat} {w w' : World} {H H' : Hp} {β β' : Bt} (h : Ext N w H β w' H' β') : Ext N w H β w'.drew H' β' :=
  ⟨h.os, h.tape, h.output, h.size, h.le, h.next, h.frame, h.own, h.news⟩
theorem Ext.of_drew {N : Nat} {w w' : World} {H H' : Hp} {β β' : Bt} (h : Ext N w.drew H β w' H' β') : Ext N w H β w' H' β' :=
  ⟨h.os, h.tape, h.output, h.size, h.le, h.next, h.frame, h.own, h.news⟩
theorem Rel.drew {P : Program} {w : World} {H : Hp} {β : Bt} (h : Rel P w H β) : Rel P w.drew H β := h.frame (Nat.le_refl _) (fun _ _ _ => rfl)
theorem FRel.drew {N : Nat} {w : World} {bx : Nat → Option Bx} {β : Bt} {lam : Nat → Nat} {fr : Fr} {a : Act} (h : FRel N w bx β lam fr a) : FRel N w.drew bx β lam fr a :=
  ⟨h.size, h.slot, h.box, h.apart, h.defers⟩

theorem spl_length (cs : List Value) (off : Nat) (vs : List Value) (h : off + vs.length ≤ cs.length) : (spl cs off vs).length = cs.length := by
  simp [spl]; omega
theorem spl_get (cs : List Value) (off : Nat) (vs : List Value) (h : off + vs.length ≤ cs.length) (j : Nat) :
    (spl cs off vs)[j]? = if off ≤ j ∧ j < off + vs.length then vs[j - off]? else cs[j]? := by
  unfold spl
  by_cases h1 : j < off
  · rw [if_neg (by omega), List.append_assoc, List.getElem?_append_left (by simp; omega), List.getElem?_take, if_pos h1]
  · by_cases h2 : j < off + vs.length
    · rw [if_pos (by omega), List.getElem?_append_left (by simp; omega), List.getElem?_append_right (by simp; omega)]
      simp; rw [Nat.min_eq_left (by omega)]
    · rw [if_neg (by omega), List.getElem?_append_right (by simp; omega), List.getElem?_drop]
      congr 1; simp; omega

/-- Some cells of an object of its own are written. -/
theorem Rel.write {P : Program} {w w' : World} {H : Hp} {β : Bt} (h : Rel P w H β) {i : Nat} {cs : List Value} {x : BI} (hi : H.get i = some (.cells cs true)) (hx : β i = some x)
    {off : Nat} {vs vs' : List Value} (hl : off + vs.length ≤ cs.length) (hv : LRel β vs vs') (hp : Put w x.b (x.s + off) vs' w') :
    Rel P w' (H.set i (some (.cells (spl cs off vs) true))) β ∧ Ext w.heap.size w H β w' (H.set i (some (.cells (spl cs off vs) true))) β := by
  obtain ⟨x', hx', h1, h2⟩ := h.cells i cs true hi
  rw [hx] at hx'; cases hx'
  obtain ⟨⟨arr, e, fz, hh, hsz, hfz⟩, hle⟩ := h2 rfl
  obtain ⟨arr', hh', hsz', hg⟩ := hp.row arr e fz hh
  have hoth : ∀ j o y, j ≠ i → H.get j = some o → β j = some y → w'.heap[y.b]? = w.heap[y.b]? := fun j o y hji hj hy =>
    hp.other _ (fun e => h.apart i j _ _ x y (Ne.symm hji) hi hj rfl hx hy e.symm)
  have hvl := hv.1
  refine ⟨⟨fun j ds own hj => ?_, fun j kv hj => ?_, fun j k o o' y z hjk hj hk ho hy hz => ?_, fun j hj => ?_, fun j y hy => ?_, h.glob, fun j o hj => (by
      rw [Hp.get_set] at hj
      split at hj
      · cases hj
      · rename_i hji
        obtain ⟨y, hy, h3⟩ := h.fix j o hj
        exact ⟨y, hy, by rw [hoth j _ y hji hj hy]; exact h3⟩)⟩,
    ⟨hp.os, hp.tape, hp.output, by rw [hp.size]; exact Nat.le_refl _, Bt.le_refl _, Nat.le_refl _, fun b hb ho => ?_, fun b => ?_, fun j y hy hn => by rw [hn] at hy; cases hy⟩⟩
  · rw [Hp.get_set] at hj
    split at hj
    · rename_i hji
      cases hj
      subst hji
      refine ⟨x, hx, fun k v hk => ?_, fun _ => ⟨⟨arr', e, fz, hh', by omega, fun q hq => hfz q hq⟩, by rw [spl_length _ _ _ hl]; exact hle⟩⟩
      rw [spl_get _ _ _ hl] at hk
      split at hk
      · rename_i hc
        obtain ⟨v', hv', hr⟩ := hv.get hk
        refine ⟨v', cell_iff.2 ⟨arr', e, fz, hh', ?_⟩, hr⟩
        rw [hg, if_pos (by omega)]
        rw [show x.s + k - (x.s + off) = k - off by omega]; exact hv'
      · rename_i hc
        obtain ⟨v', hv', hr⟩ := h1 k v hk
        refine ⟨v', cell_iff.2 ⟨arr', e, fz, hh', ?_⟩, hr⟩
        obtain ⟨a2, e2, f2, g2, g3⟩ := cell_iff.1 hv'
        rw [hh] at g2; cases g2
        rw [hg, if_neg (by omega)]; exact g3
    · rename_i hji
      obtain ⟨y, hy, h3, h4⟩ := h.cells j ds own hj
      have hw := hoth j _ y hji hj hy
      refine ⟨y, hy, fun k v hk => ?_, fun ho => ⟨(h4 ho).1.congr hw, (h4 ho).2⟩⟩
      obtain ⟨v', hv', hr⟩ := h3 k v hk
      exact ⟨v', by rw [cell_congr hw]; exact hv', hr⟩
  · rw [Hp.get_set] at hj
    split at hj
    · cases hj
    · rename_i hji
      obtain ⟨y, hy, es, clock, h3, h4⟩ := h.maps j kv hj
      exact ⟨y, hy, es, clock, by rw [hoth j _ y hji hj hy]; exact h3, h4⟩
  · rw [Hp.get_set] at hj hk
    have hj' : ∃ o2, H.get j = some o2 ∧ o2.own = true := by
      split at hj
      · rename_i e; subst e; exact ⟨_, hi, rfl⟩
      · exact ⟨o, hj, ho⟩
    have hk' : ∃ o2, H.get k = some o2 := by
      split at hk
      · rename_i e; subst e; exact ⟨_, hi⟩
      · exact ⟨_, hk⟩
    obtain ⟨o2, g1, g2⟩ := hj'
    obtain ⟨o3, g3⟩ := hk'
    exact h.apart j k o2 o3 y z hjk g1 g3 g2 hy hz
  · have := h.fresh j hj
    rw [Hp.get_set, if_neg (fun e => by subst e; rw [hi] at this; cases this.1)]
    exact this
  · rw [hp.size]; exact h.lt j y hy
  · exact hp.other b (fun e => by subst e; exact ho ⟨i, _, x, hi, rfl, hx, rfl⟩)
  · rintro ⟨j, o, y, hj, ho, hy, rfl⟩
    rw [Hp.get_set] at hj
    split at hj
    · rename_i e; subst e; rw [hx] at hy; cases hy; exact .inr ⟨_, _, x, hi, rfl, hx, rfl⟩
    · exact .inr ⟨j, o, y, hj, ho, hy, rfl⟩

/-- An object is given up. -/
theorem Rel.kill {P : Program} {w : World} {H : Hp} {β : Bt} (h : Rel P w H β) (i : Nat) : Rel P w (H.set i none) β ∧ Ext w.heap.size w H β w (H.set i none) β := by
  refine ⟨⟨fun j ds own hj => ?_, fun j kv hj => ?_, fun j k o o' y z hjk hj hk ho hy hz => ?_, fun j hj => ?_, h.lt, h.glob, fun j o hj => (by
      rw [Hp.get_set] at hj
      split at hj
      · cases hj
      · exact h.fix j o hj)⟩,
    ⟨rfl, rfl, rfl, Nat.le_refl _, Bt.le_refl _, Nat.le_refl _, fun _ _ _ => rfl, fun b => ?_, fun j y hy hn => by rw [hn] at hy; cases hy⟩⟩
  · rw [Hp.get_set] at hj; split at hj
    · cases hj
    · exact h.cells j ds own hj
  · rw [Hp.get_set] at hj; split at hj
    · cases hj
    · exact h.maps j kv hj
  · rw [Hp.get_set] at hj hk
    split at hj
    · cases hj
    · split at hk
      · cases hk
      · exact h.apart j k o o' y z hjk hj hk ho hy hz
  · have := h.fresh j hj
    rw [Hp.get_set]; split
    · exact ⟨rfl, this.2⟩
    · exact this
  · rintro ⟨j, o, y, hj, ho, hy, rfl⟩
    rw [Hp.get_set] at hj; split at hj
    · cases hj
    · exact .inr ⟨j, o, y, hj, ho, hy, rfl⟩
end Go.AM
/- The abstract machine: what acts acts on one part; what reads reads one. -/
set_option linter.unusedVariables false
namespace Go.AM
open Go

def sameOn (t : Option Nat) (S S2 : St) : Prop := match t with | none => S2.hp = S.hp | some d => S2.bx d = S.bx d
def TagR (t : Option Nat) (S S' : St) : Prop := match t with | none => S'.bx = S.bx | some e => S'.hp = S.hp ∧ ∀ d, d ≠ e → S'.bx d = S.bx d
theorem TagR.other {t u : Option Nat} {S S' : St} (h : TagR t S S') (hn : sameTag u t = false) : sameOn u S S' := by
  cases t with
  | none => cases u with
    | none => cases hn
    | some d => exact congrFun h d
  | some e => cases u with
    | none => exact h.1
    | some d => exact h.2 d (fun q => by subst q; simp [sameTag] at hn)

section
theorem heap_tag {C : Ctx} {fr : Fr} {S S' : St} {o : Oper} {s : Slot} (h : opR C fr S o = some (s, S')) (k : opR C fr S o = (opR C fr S o).bind fun p => some (p.1, (⟨S.bx, p.2.hp⟩ : St))) : S'.bx = S.bx := by
  rw [h] at k
  simp only [Option.bind_some, Option.some.injEq, Prod.mk.injEq, true_and] at k
  rw [k]
theorem box_tag {C : Ctx} {fr : Fr} {S S' : St} {o : Oper} {s : Slot} (e : Nat) (h : opR C fr S o = some (s, S')) (k : opR C fr S o = (opR C fr S o).bind fun p => some (p.1, S.setB e (p.2.bx e))) : S'.hp = S.hp ∧ ∀ d, d ≠ e → S'.bx d = S.bx d := by
  rw [h] at k
  simp only [Option.bind_some, Option.some.injEq, Prod.mk.injEq, true_and] at k
  rw [k]
  exact ⟨rfl, fun d hd => St.setB_ne _ _ hd⟩
theorem setB_leaf (s : Slot) (S : St) (e : Nat) (c : Option Bx) : some (s, S.setB e c) = (some (s, S.setB e c)).bind fun p => some (p.1, S.setB e (p.2.bx e)) := by
  simp [St.setB]
theorem self_leaf (s : Slot) (S : St) (e : Nat) : some (s, S) = (some (s, S)).bind fun p => some (p.1, S.setB e (p.2.bx e)) := by
  have : S.setB e (S.bx e) = S := by
    unfold St.setB
    have : (fun j => if j = e then S.bx e else S.bx j) = S.bx := by
      funext j; split
      · rename_i q; rw [q]
      · rfl
    rw [this]
  simp [this]

def boxTag (C : Ctx) (d : Option Nat) : Option Nat := match d with | some d => (match (C.O.loc C.f).elem d with | true => some d | false => none) | none => none
theorem newBox_tag {C : Ctx} {S S' : St} {d : Option Nat} {cs : List Value} {s : Slot} (h : newBox C S d cs (fun s S' => some (s, S')) = some (s, S')) : TagR (boxTag C d) S S' := by
  unfold newBox at h
  rcases d with _ | d
  · cases h
  · dsimp only at h
    unfold boxTag
    cases he : (C.O.loc C.f).elem d with
    | true =>
      rw [he] at h
      dsimp only at h ⊢
      rw [he]
      rcases hb : S.bx d with _ | b
      · rw [hb] at h
        cases h
        exact ⟨rfl, fun e hne => St.setB_ne _ _ hne⟩
      · rw [hb] at h; cases h
    | false =>
      rw [he] at h
      dsimp only at h ⊢
      rw [he]
      cases h
      rfl

theorem eff_tag {C : Ctx} {fr : Fr} {S S' : St} {o : Oper} {s : Slot} (h : opR C fr S o = some (s, S')) (hk : kindOf C.P o.op = .eff) : TagR (tagOf C fr o) S S' := by
  have h0 := h
  unfold opR opC at h
  dsimp only at h
  unfold tagOf
  cases hop : o.op <;> rw [hop] at h hk <;> (try dsimp only at h) <;> (try cases h; done) <;> (try cases hk; done)
  case alloc T =>
    obtain ⟨z, hz⟩ : ∃ z, newBox C S o.dst (cellsL z) (fun s S' => some (s, S')) = some (s, S') := by
      unfold zeroC at h
      split at h
      · cases h
      · split at h
        · cases h
        · rename_i z _
          split at h
          · dsimp only at h
            split at h
            · exact ⟨z, h⟩
            · cases h
          · cases h
    exact (newBox_tag hz : TagR (boxTag C o.dst) S S')
  case box T x =>
    unfold sV at h
    split at h
    · exact (newBox_tag h : TagR (boxTag C o.dst) S S')
    · cases h
  case buildSlice T n p =>
    refine heap_tag h0 ?_
    unfold opR opC
    rw [hop]
    try dsimp only
    exact evs_nat _ fun v => sliceC_nat fun _ _ _ => pBuildSlice_nat fun _ _ => rfl
  case insert T m key x =>
    refine heap_tag h0 ?_
    unfold opR opC
    rw [hop]
    try dsimp only
    exact sV_nat fun m => sV_nat fun key => sV_nat fun x => mapC_nat fun _ _ => pUpd_nat fun _ => rfl
  case convert src dst x =>
    refine heap_tag h0 ?_
    unfold opR opC
    rw [hop]
    try dsimp only
    exact sV_nat fun x => convert_nat (fun _ => rfl) (fun _ _ => rfl)
  case makeMap T x =>
    refine heap_tag h0 ?_
    unfold opR opC
    rw [hop]
    try dsimp only
    cases x <;> rfl
  case makeSlice T l c =>
    refine heap_tag h0 ?_
    unfold opR opC
    rw [hop]
    try dsimp only
    exact sV_nat fun l => sV_nat fun c => sliceC_nat fun _ _ _ => pMakeSlice_nat fun _ _ => rfl
  case mapUpdate T m key x =>
    refine heap_tag h0 ?_
    unfold opR opC
    rw [hop]
    try dsimp only
    exact sV_nat fun m => sV_nat fun key => sV_nat fun x => mapC_nat fun _ _ => pUpd_nat fun _ => rfl
  case call c =>
    refine heap_tag h0 ?_
    unfold opR opC
    rw [hop]
    try dsimp only
    rcases c.callee with fo | ⟨rv, m⟩ | b
    · exact sV_nat fun fv => evs_nat _ fun vs => pCall_nat fun _ _ => rfl
    · rfl
    · refine evs_nat _ fun vs => ?_
      generalize c.argTypes.toList = ts
      cases b <;> (try dsimp only) <;> first | rfl | exact pMM_nat fun _ => rfl | skip
      all_goals
        rcases vs with _ | ⟨x, _ | ⟨y, _ | ⟨z, vs⟩⟩⟩ <;> rcases ts with _ | ⟨t, _ | ⟨u, _ | ⟨t3, ts⟩⟩⟩ <;> (try dsimp only) <;> first | rfl | skip
      · refine sliceC_nat fun sz bytes _ => ?_
        rcases C.P.underlying u with _ | d
        · rfl
        · cases d <;> first | rfl | exact pAppend_nat fun _ _ => rfl
      · exact sliceC_nat fun sz _ _ => pCopy_nat fun _ _ => rfl
      · exact mapC_nat fun kt _ => pDel_nat fun _ => rfl
      · rcases C.P.underlying t with _ | d
        · rfl
        · dsimp only
          rcases lenK d with _ | q
          · rfl
          · exact pLen_nat fun _ => rfl

  case store T a x =>
    dsimp only
    cases he : ev C.P.globals.size fr a with
    | loc d off =>
      refine box_tag d h0 ?_
      unfold opR opC
      rw [hop]
      dsimp only
      refine sV_nat fun v => tyC_nat fun n agg => ?_
      rw [he]
      dsimp only
      rcases S.bx d with _ | b
      · rfl
      · cases b with
        | cells cs ro => cases ro <;> first | rfl | exact pSplice_nat fun _ => setB_leaf _ _ _ _
        | _ => rfl
    | _ =>
      refine heap_tag h0 ?_
      unfold opR opC
      rw [hop]
      dsimp only
      refine sV_nat fun v => tyC_nat fun n agg => ?_
      rw [he]
      first | rfl | exact pStore_nat fun _ => rfl
  case range T x =>
    dsimp only
    rcases hd : o.dst with _ | d
    · refine heap_tag h0 ?_
      unfold opR opC
      rw [hop]
      dsimp only
      refine sV_nat fun x => ?_
      rw [hd]
      rcases C.P.underlying T with _ | d
      · rfl
      · cases d <;> rfl
    · refine box_tag d h0 ?_
      unfold opR opC
      rw [hop]
      dsimp only
      refine sV_nat fun x => ?_
      rw [hd]
      rcases C.P.underlying T with _ | dd
      · rfl
      · cases dd <;> first | rfl | skip
        dsimp only
        rcases S.bx d with _ | b
        · exact pStrC_nat fun _ => setB_leaf _ _ _ _
        · rfl
  case next it b =>
    dsimp only
    cases b with
    | false => cases h
    | true =>
    try dsimp only at h
    cases he : ev C.P.globals.size fr it with
    | loc d off =>
      rw [he] at h
      cases off with
      | succ n => cases h
      | zero =>
        have h : (match S.bx d with
            | some (.iter s pos) => br (Nat.blt pos s.size) (some ((Slot.val (.tuple #[.bool true, .int .i64 pos, .int .i32 (Utf8.decode s pos).1])), (S.setB d (some (.iter s (pos + (Utf8.decode s pos).2)))))) (some ((Slot.val (.tuple #[.bool false])), S))
            | _ => none) = some (s, S') := h
        refine ⟨?_, fun e hne => ?_⟩
        · rcases hb : S.bx d with _ | b
          · rw [hb] at h; cases h
          · rw [hb] at h
            cases b with
            | iter st pos =>
              dsimp only at h
              unfold br at h
              split at h <;> cases h <;> rfl
            | _ => cases h
        · rcases hb : S.bx d with _ | b
          · rw [hb] at h; cases h
          · rw [hb] at h
            cases b with
            | iter st pos =>
              dsimp only at h
              unfold br at h
              split at h
              · cases h; exact St.setB_ne _ _ hne
              · cases h; rfl
            | _ => cases h
    | _ => rw [he] at h; cases h

theorem opR_pr {C : Ctx} {fr : Fr} {S S' S2 : St} {o : Oper} {s : Slot} (h : opR C fr S o = some (s, S')) (hp : kindOf C.P o.op = .pure ∨ (kindOf C.P o.op = .read ∧ S2 = S)) :
    S' = S ∧ opR C fr S2 o = some (s, S2) := by
  unfold opR at h
  rw [opC_pr C fr S S2 o _ hp] at h
  have hs : opC C fr S2 o (fun s _ => some s) = some s ∧ S = S' := by
    cases hq : opC C fr S2 o (fun s _ => some s) with
    | none => rw [hq] at h; cases h
    | some q => rw [hq] at h; cases h; exact ⟨rfl, rfl⟩
  refine ⟨hs.2.symm, ?_⟩
  unfold opR
  rw [opC_pr C fr S2 S2 o _ (hp.imp id fun q => ⟨q.1, rfl⟩), hs.1]
  rfl

/-- A reading in a state whose part that is read is the same. -/
theorem read_same {C : Ctx} {fr : Fr} {S S2 : St} {o : Oper} {s : Slot} (h : opR C fr S o = some (s, S)) (hk : kindOf C.P o.op = .read) (hs : sameOn (tagOf C fr o) S S2) : opR C fr S2 o = some (s, S2) := by
  have key : opC C fr S2 o (fun s _ => some s) = opC C fr S o (fun s _ => some s) := by
    unfold opC
    dsimp only
    unfold tagOf at hs
    cases hop : o.op <;> rw [hop] at hk hs <;> (try dsimp only) <;> (try cases hk; done)
    case load T a =>
      dsimp only at hs
      cases he : ev C.P.globals.size fr a with
      | loc d off =>
        rw [he] at hs
        have hs : S2.bx d = S.bx d := hs
        dsimp only
        rw [hs]
      | val p =>
        rw [he] at hs
        have hs : S2.hp = S.hp := hs
        dsimp only
        rw [hs]
      | _ => rfl
    case lookup T m key ok =>
      have hs : S2.hp = S.hp := hs
      rw [hs]
    case convert src dst x =>
      unfold kindOf at hk
      dsimp only at hk
      split at hk <;> cases hk
    case call c =>
      obtain ⟨callee, args, ats⟩ := c
      rcases callee with fo | ⟨rv, m⟩ | b
      · cases hk
      · rfl
      · have hs : S2.hp = S.hp := hs
        cases b <;> first | cases hk; done | skip
        rw [hs]
  unfold opR at h ⊢
  rw [opC_pr C fr S S o _ (.inr ⟨hk, rfl⟩)] at h
  rw [opC_pr C fr S2 S2 o _ (.inr ⟨hk, rfl⟩), key]
  cases hq : opC C fr S o (fun s _ => some s) with
  | none => rw [hq] at h; cases h
  | some q => rw [hq] at h; cases h; rfl

theorem chk_some {α : Type} {p : Prop} {k : Option α} {r : α} (h : chk p k = some r) : p ∧ k = some r := by
  unfold chk at h
  split at h
  · exact ⟨by assumption, h⟩
  · cases h

theorem evs_some {α : Type} {G : Nat} {fr : Fr} {r : α} : ∀ (xs : List Operand) (f : List Value → Option α), evs G fr xs f = some r → ∃ vs, f vs = some r ∧ ∀ {γ : Type} (g : List Value → Option γ), evs G fr xs g = g vs
  | [], f, h => ⟨[], h, fun g => rfl⟩
  | x :: xs, f, h => by
    unfold evs at h
    unfold sV at h
    split at h
    · rename_i v hv
      obtain ⟨vs, h1, h2⟩ := evs_some xs _ h
      refine ⟨v :: vs, h1, fun g => ?_⟩
      unfold evs
      rw [hv]
      exact h2 _
    · cases h

theorem again_ok {α : Type} {C : Ctx} {fr : Fr} {S S2 : St} {o : Oper} {s : Slot} {k : Option α} {r : α} (h : opR C fr S o = some (s, S)) (hk : kindOf C.P o.op = .read) (ha : again C fr S2 o s k = some r) : k = some r ∧ opR C fr S2 o = some (s, S2) := by
  have key : k = some r ∧ opC C fr S2 o (fun s _ => some s) = some s := by
    unfold again at ha
    dsimp only at ha
    split at ha
    · rename_i v
      unfold opC
      dsimp only
      split at ha
      · rename_i T a hop
        rw [hop]
        dsimp only
        unfold tyC at ha ⊢
        split at ha
        · cases ha
        · split at ha
          · cases ha
          · rename_i i hi _ d hd
            dsimp only at ha ⊢
            split at ha
            · rename_i d off he
              try dsimp only at ha ⊢
              split at ha
              · rename_i cs ro hb
                obtain ⟨h1, h2⟩ := chk_some ha
                exact ⟨h2, by (try dsimp only); unfold pCell; rw [h1]⟩
              · cases ha
            · rename_i p he
              obtain ⟨h1, h2⟩ := chk_some ha
              exact ⟨h2, by (try dsimp only); unfold pLoad; rw [h1]⟩
            · cases ha
      · rename_i T m key ok hop
        rw [hop]
        dsimp only
        unfold sV at ha ⊢
        split at ha
        · rename_i mv hm
          split at ha
          · rename_i kv hkv
            simp only [hm, hkv]
            unfold mapC zeroC at ha ⊢
            split at ha
            · rename_i kt et hu
              split at ha
              · rename_i hko
                split at ha
                · cases ha
                · rename_i i hi
                  split at ha
                  · cases ha
                  · rename_i z hz
                    split at ha
                    · rename_i hc
                      obtain ⟨h1, h2⟩ := chk_some ha
                      refine ⟨h2, ?_⟩
                      simp only [hu, hko, hi, hz, hc]
                      unfold pLook at h1 ⊢
                      split at h1
                      · dsimp only
                        split at h1 <;> cases h1 <;> rfl
                      · cases h1
                    · cases ha
              · cases ha
            · cases ha
          · cases ha
        · cases ha
      · rename_i c hop
        rw [hop] at hk ⊢
        obtain ⟨callee, args, ats⟩ := c
        rcases callee with fo | ⟨rv, m⟩ | b
        · cases hk
        · cases hk
        · cases b <;> first | cases hk; done | skip
          obtain ⟨vs, h1, h2⟩ := evs_some _ _ ha
          refine (?_ : k = some r ∧ evs C.P.globals.size fr args.toList _ = some (Slot.val v))
          rw [h2]
          generalize ats.toList = ts at h1 ⊢
          rcases vs with _ | ⟨x, _ | ⟨y, vs⟩⟩ <;> rcases ts with _ | ⟨t, _ | ⟨u, ts⟩⟩ <;> (try cases h1; done)
          dsimp only at h1 ⊢
          rcases hu : C.P.underlying t with _ | d
          · rw [hu] at h1; cases h1
          · rw [hu] at h1
            dsimp only at h1 ⊢
            rcases hq : lenK d with _ | q
            · rw [hq] at h1; cases h1
            · rw [hq] at h1
              dsimp only at h1 ⊢
              obtain ⟨g1, g2⟩ := chk_some h1
              refine ⟨g2, ?_⟩
              unfold pLen
              rw [g1]
      · cases ha
    · cases ha
  refine ⟨key.1, ?_⟩
  unfold opR
  rw [opC_pr C fr S2 S2 o _ (.inr ⟨hk, rfl⟩), key.2]
  rfl
end
end Go.AM
/- The abstract machine: operations look at their operands alone; guards; what comes before what. -/
set_option linter.unusedVariables false
namespace Go.AM
open Go

theorem evs_congr {α : Type} {G : Nat} {fr fr' : Fr} : ∀ (xs : List Operand) (k : List Value → Option α), (∀ x ∈ xs, ev G fr x = ev G fr' x) → evs G fr xs k = evs G fr' xs k
  | [], k, h => rfl
  | x :: xs, k, h => by
    unfold evs
    rw [h x (List.mem_cons_self ..)]
    congr 1
    funext v
    exact evs_congr xs _ fun y hy => h y (List.mem_cons_of_mem _ hy)
theorem optV_congr {α : Type} {G : Nat} {fr fr' : Fr} (x : Option Operand) (k : Option Value → Option α) (h : ∀ y, x = some y → ev G fr y = ev G fr' y) : optV G fr x k = optV G fr' x k := by
  cases x with
  | none => rfl
  | some x => unfold optV; dsimp only; rw [h x rfl]

theorem opR_congr {C : Ctx} {fr fr' : Fr} {S : St} {o : Oper} (h : ∀ x ∈ o.op.operands, ev C.P.globals.size fr x = ev C.P.globals.size fr' x) : opR C fr S o = opR C fr' S o := by
  unfold opR opC
  dsimp only
  cases hop : o.op <;> rw [hop] at h <;> (try dsimp only) <;> (try rfl)
  case move x =>
    have hx := h x (by simp [Op.operands])
    simp only [hx]
  case assign x =>
    have hx := h x (by simp [Op.operands])
    simp only [hx]
  case pick c a b =>
    have hc := h c (by simp [Op.operands])
    have ha := h a (by simp [Op.operands])
    have hb := h b (by simp [Op.operands])
    simp only [hc, ha, hb]
  case box T x =>
    have hx := h x (by simp [Op.operands])
    simp only [hx]
  case insert T m y x =>
    have hm := h m (by simp [Op.operands])
    have hy := h y (by simp [Op.operands])
    have hx := h x (by simp [Op.operands])
    simp only [hm, hy, hx]
  case load T a =>
    have ha := h a (by simp [Op.operands])
    simp only [ha]
  case store T a x =>
    have ha := h a (by simp [Op.operands])
    have hx := h x (by simp [Op.operands])
    simp only [ha, hx]
  case nilCheck x =>
    have hx := h x (by simp [Op.operands])
    simp only [hx]
  case binOp op T x y T' =>
    have hx := h x (by simp [Op.operands])
    have hy := h y (by simp [Op.operands])
    simp only [hx, hy]
  case unOp op T x =>
    have hx := h x (by simp [Op.operands])
    simp only [hx]
  case convert src dst x =>
    have hx := h x (by simp [Op.operands])
    simp only [hx]
  case makeSlice T l c =>
    have hl := h l (by simp [Op.operands])
    have hc := h c (by simp [Op.operands])
    simp only [hl, hc]
  case fieldAddr T x f =>
    have hx := h x (by simp [Op.operands])
    simp only [hx]
  case field T x f =>
    have hx := h x (by simp [Op.operands])
    simp only [hx]
  case indexAddr T x i =>
    have hx := h x (by simp [Op.operands])
    have hi := h i (by simp [Op.operands])
    simp only [hx, hi]
  case index T x i =>
    have hx := h x (by simp [Op.operands])
    have hi := h i (by simp [Op.operands])
    simp only [hx, hi]
  case lookup T m y ok =>
    have hm := h m (by simp [Op.operands])
    have hy := h y (by simp [Op.operands])
    simp only [hm, hy]
  case mapUpdate T m y x =>
    have hm := h m (by simp [Op.operands])
    have hy := h y (by simp [Op.operands])
    have hx := h x (by simp [Op.operands])
    simp only [hm, hy, hx]
  case range T x =>
    have hx := h x (by simp [Op.operands])
    simp only [hx]
  case next x b =>
    have hx := h x (by simp [Op.operands])
    cases b with
    | false => rfl
    | true => dsimp only; rw [hx]
  case extract t i =>
    have ht := h t (by simp [Op.operands])
    simp only [ht]
  case build T p =>
    refine evs_congr _ _ fun x hx => h x ?_
    simp only [Op.operands]
    exact List.mem_toArray.2 hx
  case buildSlice T n p =>
    refine evs_congr _ _ fun x hx => h x ?_
    simp only [Op.operands]
    exact List.mem_toArray.2 hx
  case makeFunc fn first captured =>
    rw [evs_congr first.toList _ fun x hx => h x (by simp [Op.operands]; exact .inl (by simpa using hx))]
    congr 1
    funext fs
    exact evs_congr captured.toList _ fun x hx => h x (by simp [Op.operands]; exact .inr (by simpa using hx))
  case makeMap T x => cases x <;> rfl
  case slice T x lo hi mx =>
    have hx := h x (by simp [Op.operands])
    cases mx with
    | some m => rfl
    | none =>
      dsimp only
      rw [hx]
      congr 1
      funext v
      rw [optV_congr lo _ fun y hy => h y (by subst hy; simp [Op.operands])]
      congr 1
      funext l
      rw [optV_congr hi _ fun y hy => h y (by subst hy; simp [Op.operands])]
  case call c =>
    obtain ⟨callee, args, ats⟩ := c
    have ha : ∀ x ∈ args.toList, ev C.P.globals.size fr x = ev C.P.globals.size fr' x := fun x hx => h x (by simp [Op.operands, Call.operands]; exact .inr (by simpa using hx))
    rcases callee with fo | ⟨rv, m⟩ | b
    · have hf := h fo (by simp [Op.operands, Call.operands])
      dsimp only
      rw [hf]
      congr 1
      funext v
      exact evs_congr _ _ ha
    · rfl
    · exact evs_congr _ _ ha

/-! ### Orders -/
theorem inOrder_edges {P : Program} {ops : List Oper} {an : List Nat} (h : inOrder P ops an = true) {j : Nat} {o : Oper} (ho : ops[j]? = some o) : ∀ e ∈ o.after, Region.binds .any e = true → e.on < j := by
  intro e he hb
  unfold inOrder at h
  rw [List.all_eq_true] at h
  have := h j (List.mem_range.2 (List.getElem?_eq_some_iff.1 ho).1)
  rw [Bool.and_eq_true, ho] at this
  have h1 := List.all_eq_true.1 this.1 e (by simpa using he)
  rw [hb] at h1
  exact Nat.le_of_ble_eq_true (by simpa [Nat.blt] using h1)
theorem inOrder_pair {P : Program} {ops : List Oper} {an : List Nat} (h : inOrder P ops an = true) {i j : Nat} {a b : Oper} (hij : i < j) (ha : ops[i]? = some a) (hb : ops[j]? = some b) :
    (an.getD j 0).testBit i = true ∨ (clash ops a b = false ∧ ¬ (kindOf P a.op = .eff ∧ kindOf P b.op = .eff)) := by
  unfold inOrder at h
  rw [List.all_eq_true] at h
  have := h j (List.mem_range.2 (List.getElem?_eq_some_iff.1 hb).1)
  rw [Bool.and_eq_true] at this
  have h1 := List.all_eq_true.1 this.2 i (List.mem_range.2 hij)
  rw [ha, hb] at h1
  dsimp only at h1
  rw [Bool.or_eq_true] at h1
  rcases h1 with h1 | h1
  · exact .inl h1
  · refine .inr ⟨?_, fun ⟨ka, kb⟩ => ?_⟩
    · cases hc : clash ops a b with
      | false => rfl
      | true => rw [hc] at h1; cases h1
    · rw [ka, kb] at h1
      cases hc : clash ops a b <;> rw [hc] at h1 <;> cases h1

def bitsOf (acc : List Nat) (s : Nat) (es : List Edge) : Nat := es.foldl (fun s e => match Region.binds .any e with | true => s ||| 2 ^ e.on ||| acc.getD e.on 0 | false => s) s
theorem bitsOf_spec {acc : List Nat} {l : Nat} : ∀ (es : List Edge) (s : Nat), (bitsOf acc s es).testBit l = true → s.testBit l = true ∨ ∃ e ∈ es, Region.binds .any e = true ∧ (l = e.on ∨ (acc.getD e.on 0).testBit l = true)
  | [], s, h => .inl h
  | e :: es, s, h => by
    unfold bitsOf at h
    rw [List.foldl_cons] at h
    rcases bitsOf_spec es _ h with h1 | ⟨e', he', h2⟩
    · split at h1
      · rename_i hb
        rw [Nat.testBit_or, Nat.testBit_or, Bool.or_eq_true, Bool.or_eq_true, Nat.testBit_two_pow] at h1
        rcases h1 with (h1 | h1) | h1
        · exact .inl h1
        · exact .inr ⟨e, List.mem_cons_self .., hb, .inl (of_decide_eq_true h1).symm⟩
        · exact .inr ⟨e, List.mem_cons_self .., hb, .inr h1⟩
      · exact .inl h1
    · exact .inr ⟨e', List.mem_cons_of_mem _ he', h2⟩
/-- A set of operations that holds what its members wait for holds what comes before them. -/
theorem anc_in {ops : List Oper} {D : Nat → Prop} (hD : ∀ (i : Nat) o, D i → ops[i]? = some o → ∀ e ∈ o.after, Region.binds .any e = true → D e.on) :
    ∀ (j : Nat) o, ops[j]? = some o → (∀ e ∈ o.after, Region.binds .any e = true → D e.on) → ∀ l, ((ancs ops).getD j 0).testBit l = true → D l := by
  have key : ∀ (rest : List Oper) (acc : List Nat), ops.drop acc.length = rest →
      (∀ (j : Nat) o, ops[j]? = some o → (∀ e ∈ o.after, Region.binds .any e = true → D e.on) → ∀ l, (acc.getD j 0).testBit l = true → D l) →
      ∀ (j : Nat) o, ops[j]? = some o → (∀ e ∈ o.after, Region.binds .any e = true → D e.on) → ∀ l, ((rest.foldl (fun acc o => acc ++ [bitsOf acc 0 o.after.toList]) acc).getD j 0).testBit l = true → D l := by
    intro rest
    induction rest with
    | nil => intro acc _ h; exact h
    | cons p rest ih =>
      intro acc hd h
      rw [List.foldl_cons]
      have hp : ops[acc.length]? = some p := by
        have : (ops.drop acc.length)[0]? = some p := by rw [hd]; rfl
        rw [List.getElem?_drop] at this; simpa using this
      refine ih _ (by rw [List.length_append, ← List.drop_drop, hd]; rfl) ?_
      intro j o ho he l hl
      rw [List.getD_eq_getElem?_getD] at hl
      rcases Nat.lt_trichotomy j acc.length with q | q | q
      · rw [List.getElem?_append_left q, ← List.getD_eq_getElem?_getD] at hl
        exact h j o ho he l hl
      · subst q
        rw [List.getElem?_append_right (Nat.le_refl _)] at hl
        simp only [Nat.sub_self, List.getElem?_cons_zero, Option.getD_some] at hl
        rw [hp] at ho; cases ho
        rcases bitsOf_spec _ _ hl with h1 | ⟨e, hm, hb, h1⟩
        · simp at h1
        · have hm' : e ∈ p.after := by simpa using hm
          rcases h1 with rfl | h1
          · exact he e hm' hb
          · have hDe := he e hm' hb
            cases hoe : ops[e.on]? with
            | some oe => exact h e.on oe hoe (fun e' he' hb' => hD e.on oe hDe hoe e' he' hb') l h1
            | none =>
              have hlen : acc.length ≤ e.on := by
                have h1 := (List.getElem?_eq_some_iff.1 hp).1
                have h2 := List.getElem?_eq_none_iff.1 hoe
                omega
              rw [List.getD_eq_getElem?_getD, List.getElem?_eq_none hlen] at h1
              simp at h1
      · rw [List.getElem?_eq_none (by simp; omega)] at hl
        simp at hl
  intro j o ho he l hl
  refine key ops [] rfl ?_ j o ho he l ?_
  · intro j o _ _ l hl; simp at hl
  · exact hl

/-! ### Guards -/
def guardV (ops : List Oper) (fr : Fr) (o : Oper) : Option Bool := guardC ops fr o fun b _ => some b
theorem set_same {fr : Fr} {d : Nat} {v : Value} (h : getS fr d = .val v) : fr.set d (.val v) = fr := by
  apply List.ext_getElem?
  intro i
  rw [List.getElem?_set]
  split
  · rename_i e; subst e
    unfold getS at h
    rw [List.getD_eq_getElem?_getD] at h
    cases hq : fr[d]? with
    | none => rw [hq] at h; cases h
    | some s => rw [hq] at h; rw [if_pos (List.getElem?_eq_some_iff.1 hq).1]; rw [← h]; rfl
  · rfl
theorem guardC_inv {α : Type} {ops : List Oper} {fr : Fr} {o : Oper} {k : Bool → Fr → Option α} {r : α} (h : guardC ops fr o k = some r) : ∃ b, guardV ops fr o = some b ∧ k b fr = some r := by
  unfold guardV
  unfold guardC at h ⊢
  split at h
  · exact ⟨true, rfl, h⟩
  · split at h
    · split at h
      · split at h
        · exact ⟨false, rfl, h⟩
        · rename_i d _ _ hne
          unfold sV at h ⊢
          split at h
          · rename_i v hv
            dsimp only at h ⊢
            unfold pBool at h ⊢
            split at h
            · rename_i b
              dsimp only at h ⊢
              unfold br at h ⊢
              cases b with
              | true =>
                dsimp only at h ⊢
                rw [set_same hv] at h
                exact ⟨_, rfl, h⟩
              | false =>
                dsimp only at h ⊢
                rw [set_same hv] at h
                exact ⟨_, rfl, h⟩
            · cases h
          · cases h
      · cases h
    · cases h
theorem guardV_congr {ops : List Oper} {fr fr' : Fr} {o : Oper} (h : ∀ t ∈ touches ops o, getS fr t = getS fr' t) : guardV ops fr o = guardV ops fr' o := by
  unfold guardV guardC
  cases hg : o.guard with
  | none => rfl
  | some jw =>
    obtain ⟨j, want⟩ := jw
    dsimp only
    cases hj : ops[j]? with
    | none => rfl
    | some g =>
      dsimp only
      cases hd : g.dst with
      | none => rfl
      | some d =>
        dsimp only
        have hm : d ∈ touches ops o := by
          unfold touches
          rw [hg]
          dsimp only
          rw [hj]
          dsimp only
          rw [hd]
          exact List.mem_append_right _ (by simp)
        rw [h d hm]
theorem ev_touch {ops : List Oper} {G : Nat} {fr fr' : Fr} {o : Oper} (h : ∀ t ∈ touches ops o, getS fr t = getS fr' t) : ∀ x ∈ o.op.operands, ev G fr x = ev G fr' x := by
  intro x hx
  cases x with
  | tmp t =>
    refine h t ?_
    unfold touches
    exact List.mem_append_left _ (List.mem_filterMap.2 ⟨.tmp t, by simpa using hx, rfl⟩)
  | _ => rfl
theorem clash_false {ops : List Oper} {a b : Oper} (h : clash ops a b = false) : (∀ d, a.dst = some d → d ∉ touches ops b ∧ b.dst ≠ some d) ∧ (∀ d, b.dst = some d → d ∉ touches ops a) := by
  unfold clash at h
  rw [Bool.or_eq_false_iff] at h
  refine ⟨fun d hd => ?_, fun d hd => ?_⟩
  · have := h.1
    rw [hd] at this
    dsimp only at this
    rw [Bool.or_eq_false_iff] at this
    refine ⟨fun hm => ?_, fun hq => ?_⟩
    · have h1 : (touches ops b).elem d = true := by simpa using hm
      rw [h1] at this; cases this.1
    · rw [hq] at this; simp at this
  · have := h.2
    rw [hd] at this
    dsimp only at this
    intro hm
    have h1 : (touches ops a).elem d = true := by simpa using hm
    rw [h1] at this; cases this
end Go.AM
/- The abstract machine: operands, loads and stores against the model. -/
set_option linter.unusedVariables false
namespace Go.AM
open Go

theorem scalarOk_rel {β : Bt} {v : Value} (h : scalarOk v = true) : VRel β v v := by
  unfold scalarOk at h
  split at h <;> first | constructor | cases h
theorem constOk_rel {β : Bt} {v : Value} (h : constOk v = true) : VRel β v v := by
  have aux : ∀ l : List Value, l.all scalarOk = true → LRel β l l := fun l hl => ⟨rfl, fun k u u' hu hu' => by
    rw [hu] at hu'; cases hu'
    exact scalarOk_rel (List.all_eq_true.1 hl u (List.mem_of_getElem? hu))⟩
  unfold constOk at h
  split at h
  · exact agg_iff.2 ⟨_, rfl, aux _ h⟩
  · exact tuple_iff.2 ⟨_, rfl, aux _ h⟩
  · exact scalarOk_rel h

theorem ev_rel {P : Program} {N : Nat} {w : World} {H : Hp} {bx : Nat → Option Bx} {β : Bt} {lam : Nat → Nat} {fr : Fr} {a : Act}
    (hR : Rel P w H β) (hF : FRel N w bx β lam fr a) (x : Operand) : SRel β lam bx (ev P.globals.size fr x) (a.eval x) := by
  cases x with
  | tmp t =>
    show SRel β lam bx (getS fr t) (a.tmps.getD t undef)
    unfold getS
    cases h : fr[t]? with
    | none => rw [List.getD_eq_getElem?_getD, h]; trivial
    | some s => rw [List.getD_eq_getElem?_getD, h]; exact hF.slot t s h
  | const v =>
    simp only [ev, Act.eval]
    cases h : constOk v with
    | true => exact constOk_rel h
    | false => trivial
  | global g =>
    simp only [ev, Act.eval]
    cases h : Nat.blt g P.globals.size with
    | true =>
      obtain ⟨t, ht⟩ := hR.glob g (by have := h; simp [Nat.blt] at this; omega)
      exact VRel.ptr (β := β) g 0 _ ht
    | false => trivial
  | func f => exact .func _ _ _ _ _ rfl (by simp) rfl (by simp)

section
variable {α : Type}
theorem sV_inv {s : Slot} {k : Value → Option α} {r : α} (h : sV s k = some r) : ∃ v, s = .val v ∧ k v = some r := by
  unfold sV at h
  split at h
  · exact ⟨_, rfl, h⟩
  · cases h
theorem evV_inv {P : Program} {N : Nat} {w : World} {H : Hp} {bx : Nat → Option Bx} {β : Bt} {lam : Nat → Nat} {fr : Fr} {a : Act}
    (hR : Rel P w H β) (hF : FRel N w bx β lam fr a) {x : Operand} {k : Value → Option α} {r : α} (h : sV (ev P.globals.size fr x) k = some r) :
    ∃ v, VRel β v (a.eval x) ∧ k v = some r := by
  obtain ⟨v, hv, hk⟩ := sV_inv h
  have := ev_rel hR hF x
  rw [hv] at this
  exact ⟨v, this, hk⟩
theorem evs_inv {P : Program} {N : Nat} {w : World} {H : Hp} {bx : Nat → Option Bx} {β : Bt} {lam : Nat → Nat} {fr : Fr} {a : Act}
    (hR : Rel P w H β) (hF : FRel N w bx β lam fr a) : ∀ (xs : List Operand) {k : List Value → Option α} {r : α}, evs P.globals.size fr xs k = some r →
    ∃ vs, LRel β vs (xs.map a.eval) ∧ k vs = some r
  | [], k, r, h => ⟨[], LRel.nil _, h⟩
  | x :: xs, k, r, h => by
    unfold evs at h
    obtain ⟨v, hv, hk⟩ := evV_inv hR hF h
    obtain ⟨vs, hvs, hk⟩ := evs_inv hR hF xs hk
    exact ⟨v :: vs, hvs.cons hv, hk⟩
def ORel (β : Bt) (v v' : Option Value) : Prop := match v, v' with | none, none => True | some v, some v' => VRel β v v' | _, _ => False
theorem optV_inv {P : Program} {N : Nat} {w : World} {H : Hp} {bx : Nat → Option Bx} {β : Bt} {lam : Nat → Nat} {fr : Fr} {a : Act}
    (hR : Rel P w H β) (hF : FRel N w bx β lam fr a) {x : Option Operand} {k : Option Value → Option α} {r : α} (h : optV P.globals.size fr x k = some r) :
    ∃ v : Option Value, k v = some r ∧ ORel β v (x.map a.eval) := by
  cases x with
  | none => exact ⟨none, h, trivial⟩
  | some x =>
    obtain ⟨v, hv, hk⟩ := evV_inv hR hF h
    exact ⟨some v, hk, hv⟩
theorem tyC_inv {P : Program} {T : TypeId} {k : Nat → Bool → Option α} {r : α} (h : tyC P T k = some r) :
    ∃ i d, P.info? T = some i ∧ P.underlying T = some d ∧ k i.size (aggD d) = some r := by
  unfold tyC at h
  split at h
  · cases h
  · split at h
    · cases h
    · exact ⟨_, _, by assumption, by assumption, h⟩
theorem zeroC_inv {P : Program} {T : TypeId} {k : Value → Option α} {r : α} (h : zeroC P T k = some r) :
    ∃ i z, P.info? T = some i ∧ i.zero = some z ∧ constOk z = true ∧ k z = some r := by
  unfold zeroC at h
  split at h
  · cases h
  · split at h
    · cases h
    · split at h
      · exact ⟨_, _, by assumption, by assumption, by assumption, h⟩
      · cases h
end

/-! ### The model's small words -/
section
variable {P : Program} (w : World)
theorem run_typeInfo {T : TypeId} {i : TypeInfo} (h : P.info? T = some i) : (typeInfo T).run P w = .ok i w := by simp [typeInfo, h]
theorem run_sizeOf {T : TypeId} {i : TypeInfo} (h : P.info? T = some i) : (sizeOf T).run P w = .ok i.size w := by simp [sizeOf, run_typeInfo w h]
theorem run_under {T : TypeId} {d : TypeDesc} (h : P.underlying T = some d) : (underlying T).run P w = .ok d w := by simp [underlying, h]
theorem run_isAgg {T : TypeId} {d : TypeDesc} (h : P.underlying T = some d) : (isAgg T).run P w = .ok (aggD d) w := by
  simp only [isAgg, Sem.run_bind, run_under w h, Result.andThen_ok]
  cases d <;> rfl
theorem run_zeroValue {T : TypeId} {i : TypeInfo} {z : Value} (h : P.info? T = some i) (hz : i.zero = some z) : (zeroValue T).run P w = .ok z w := by
  simp [zeroValue, run_typeInfo w h, hz]
end

theorem rdCells_ok {P : Program} {w : World} {β : Bt} {cs : List Value} {b s off : Nat} {T : TypeId} {i : TypeInfo} {d : TypeDesc} (hi : P.info? T = some i) (hd : P.underlying T = some d)
    (hc : ∀ (j : Nat) u, cs[j]? = some u → ∃ u', w.cell? ⟨b, s + j, none⟩ = some u' ∧ VRel β u u') {v : Value} (hv : rdCells cs off i.size (aggD d) = some v) :
    ∃ v', (loadVar T ⟨b, s + off, none⟩).run P w = .ok v' w ∧ VRel β v v' := by
  unfold rdCells at hv
  simp only [loadVar, Sem.run_bind, run_isAgg w hd, Result.andThen_ok]
  cases ha : aggD d with
  | true =>
    rw [ha] at hv
    dsimp only at hv
    split at hv
    · rename_i hl
      cases hv
      have hlen : ((cs.drop off).take i.size).length = i.size := by simp; omega
      obtain ⟨l', hr, hrel⟩ := run_loadCells_rel (P := P) (w := w) (b := b) (off := s + off) (β := β) (l := (cs.drop off).take i.size) (fun j u hu => by
        rw [List.getElem?_take] at hu
        split at hu
        · rw [List.getElem?_drop] at hu
          rw [show s + off + j = s + (off + j) by omega]
          exact hc _ u hu
        · cases hu)
      rw [hlen] at hr
      refine ⟨.agg l'.toArray, ?_, agg_iff.2 ⟨_, rfl, by simpa using hrel⟩⟩
      simp only [if_true, Sem.run_bind, run_sizeOf w hi, Result.andThen_ok, hr, Sem.run_pure]
    · cases hv
  | false =>
    rw [ha] at hv
    dsimp only at hv
    obtain ⟨v', h1, h2⟩ := hc off v hv
    exact ⟨v', by simp only [Bool.false_eq_true, if_false, run_load, h1], h2⟩

theorem wrCells_inv {n off : Nat} {cs cs' : List Value} {v : Value} (h : wrCells n cs off v = some cs') :
    (cellsL v).length = n ∧ off + n ≤ cs.length ∧ (cellsL v).all one = true ∧ cs' = spl cs off (cellsL v) := by
  unfold wrCells at h
  split at h
  · rename_i hc; cases h; exact ⟨hc.1, hc.2.1, hc.2.2, rfl⟩
  · cases h
theorem all_one {β : Bt} {l l' : List Value} (h : LRel β l l') (ha : l.all one = true) : l'.all Value.oneCell' = true := by
  rw [List.all_eq_true] at ha ⊢
  intro x hx
  obtain ⟨k, hk, rfl⟩ := List.getElem_of_mem hx
  have hk2 : k < l.length := h.1 ▸ hk
  rw [(h.2 k l[k] l'[k] (by simp [hk2]) (by simp [hk])).one_eq]
  exact ha _ (List.getElem_mem hk2)

theorem run_storeVar_ok {P : Program} {w : World} {β : Bt} {T : TypeId} {i : TypeInfo} (hi : P.info? T = some i) {v v' : Value} (hv : VRel β v v') (hn : (cellsL v).length = i.size) (h1 : (cellsL v).all one = true)
    {b off : Nat} {arr : Array Value} {e : TypeId} {fz : Nat × Nat} (hw : w.heap[b]? = some (.cells arr e fz)) (hfz : ∀ j, j < arr.size → ¬ (fz.1 ≤ j ∧ j < fz.2)) (hl : off + i.size ≤ arr.size) :
    ∃ w', (storeVar T ⟨b, off, none⟩ v').run P w = .ok () w' ∧ Put w b off v'.cells.toList w' := by
  have hc := hv.cells
  have hl' : v'.cells.toList.length = i.size := by rw [← hc.1]; exact hn
  obtain ⟨w', hr, hp⟩ := run_storeCells P b off arr e fz hfz v'.cells.toList 0 w arr hw rfl (by omega) (all_one hc h1)
  refine ⟨w', ?_, by simpa using hp⟩
  have hsz : v'.cells.size = i.size := by simpa using hl'
  simp only [storeVar, Sem.run_bind, run_sizeOf w hi, Result.andThen_ok, hsz, ne_eq, not_true_eq_false, if_false, hr]

/-! ### What an operation comes to -/
def RunTo (P : Program) (a : Act) (o : Oper) (w : World) (v' : Value) (w' : World) : Prop :=
  (execOp a.eval o).run P w = .ok (.value v') w' ∨ ((execOp a.eval o).run P w = .ok .skip w' ∧ v' = undef)

/-- One operation: where the machine goes the model goes. -/
def Step {α : Type} (P : Program) (N : Nat) (w : World) (S : St) (β : Bt) (lam : Nat → Nat) (fr : Fr) (a : Act) (o : Oper) (k : Slot → St → Option α) (r : α) : Prop :=
  ∃ s S' w' v' β' lam', k s S' = some r ∧ RunTo P a o w v' w' ∧ Rel P w' S'.hp β' ∧ FRel N w' S'.bx β' lam' fr a ∧ SRel β' lam' S'.bx s v' ∧ Ext N w S.hp β w' S'.hp β' ∧ BMv S.bx lam S'.bx lam'

section
variable {α : Type} {P : Program} {N : Nat} {w : World} {S : St} {β : Bt} {lam : Nat → Nat} {fr : Fr} {a : Act} {o : Oper} {k : Slot → St → Option α} {r : α}

/-- Nothing but a value. -/
theorem Step.val (hR : Rel P w S.hp β) (hF : FRel N w S.bx β lam fr a) {s : Slot} {v' : Value} (hk : k s S = some r) (hr : (execOp a.eval o).run P w = .ok (.value v') w) (hs : SRel β lam S.bx s v') :
    Step P N w S β lam fr a o k r := ⟨s, S, w, v', β, lam, hk, .inl hr, hR, hF, hs, Ext.refl _ _ _ _, BMv.refl _ _⟩
/-- The heap has changed. -/
theorem Step.heap (hN : N ≤ w.heap.size) (hR : Rel P w S.hp β) (hF : FRel N w S.bx β lam fr a) {s : Slot} {v' : Value} {w' : World} {H' : Hp} {β' : Bt} (hk : k s ⟨S.bx, H'⟩ = some r)
    (hr : RunTo P a o w v' w') (hR' : Rel P w' H' β') (hE : Ext w.heap.size w S.hp β w' H' β') (hs : SRel β' lam S.bx s v') :
    Step P N w S β lam fr a o k r := ⟨s, ⟨S.bx, H'⟩, w', v', β', lam, hk, hr, hR', hF.ext hR.has hE, hs, hE.weaken hN, BMv.refl _ _⟩
end

theorem box_cells {N : Nat} {w : World} {bx : Nat → Option Bx} {β : Bt} {lam : Nat → Nat} {fr : Fr} {a : Act} (hF : FRel N w bx β lam fr a) {d : Nat} {cs : List Value} {ro : Bool}
    (h : bx d = some (.cells cs ro)) : ∃ arr e, w.heap[lam d]? = some (.cells arr e (0, 0)) ∧ LRel β cs arr.toList := (hF.box d _ h).2.2.2

theorem heap_cells {w : World} {b : Nat} {arr : Array Value} {e : TypeId} {fz : Nat × Nat} {β : Bt} {cs : List Value} (hw : w.heap[b]? = some (.cells arr e fz)) (h : LRel β cs arr.toList) :
    ∀ (j : Nat) u, cs[j]? = some u → ∃ u', w.cell? ⟨b, 0 + j, none⟩ = some u' ∧ VRel β u u' := fun j u hu => by
  obtain ⟨u', hu', hr⟩ := h.get hu
  exact ⟨u', cell_iff.2 ⟨arr, e, fz, hw, by simpa using hu'⟩, hr⟩

section
variable {α : Type} {C : Ctx} {N : Nat} {w : World} {S : St} {β : Bt} {lam : Nat → Nat} {fr : Fr} {a : Act} {o : Oper} {k : Slot → St → Option α} {r : α}

theorem sim_load {T : TypeId} {x : Operand} (ho : o.op = .load T x) (h : opC C fr S o k = some r) (hR : Rel C.P w S.hp β) (hF : FRel N w S.bx β lam fr a) : Step C.P N w S β lam fr a o k r := by
  simp only [opC, ho] at h
  obtain ⟨i, d, hi, hd, h⟩ := tyC_inv h
  have hx := ev_rel hR hF x
  split at h
  · rename_i d' off he
    rw [he] at hx
    have hx : a.eval x = .pointer (some ⟨lam d', off, none⟩) := hx.2
    split at h
    · rename_i cs ro hb
      obtain ⟨arr, e, hw, hl⟩ := box_cells hF hb
      unfold pCell at h
      split at h
      · rename_i v hv
        obtain ⟨v', hrun, hrel⟩ := rdCells_ok (s := 0) hi hd (heap_cells hw hl) hv
        rw [Nat.zero_add] at hrun
        refine Step.val hR hF h (v' := v') ?_ hrel
        simp only [execOp, ho, hx, Instr.loadAt, Instr.sureAddr, Sem.run_bind, Sem.run_pure, Result.andThen_ok, hrun]
      · cases h
    · cases h
  · rename_i p he
    rw [he] at hx
    unfold pLoad at h
    split at h
    · rename_i v hv
      unfold Hp.rdP at hv
      split at hv
      · rename_i i0 off
        have hx : VRel β (.pointer (some ⟨i0, off, none⟩)) (a.eval x) := hx
        generalize hq : a.eval x = q at hx
        cases hx with
        | ptr _ _ y hy =>
        unfold Hp.rd at hv
        split at hv
        · rename_i cs own hg
          obtain ⟨y', hy', h1, _⟩ := hR.cells i0 cs own hg
          rw [hy] at hy'; cases hy'
          obtain ⟨v', hrun, hrel⟩ := rdCells_ok hi hd h1 hv
          refine Step.val hR hF h (v' := v') ?_ hrel
          simp only [execOp, ho, hq, Instr.loadAt, Instr.sureAddr, Sem.run_bind, Sem.run_pure, Result.andThen_ok, hrun]
        · cases hv
      · cases hv
    · cases h
  · cases h
end
end Go.AM
/- The abstract machine: moves, boxes, addresses, arithmetic. -/
set_option linter.unusedVariables false
namespace Go.AM
open Go

section
variable {α : Type} {C : Ctx} {N : Nat} {w : World} {S : St} {β : Bt} {lam : Nat → Nat} {fr : Fr} {a : Act} {o : Oper} {k : Slot → St → Option α} {r : α}

theorem sim_move {x : Operand} (ho : o.op = .move x ∨ o.op = .assign x) (h : opC C fr S o k = some r) (hR : Rel C.P w S.hp β) (hF : FRel N w S.bx β lam fr a) : Step C.P N w S β lam fr a o k r := by
  have h' : k (ev C.P.globals.size fr x) S = some r := by rcases ho with ho | ho <;> simpa only [opC, ho] using h
  refine Step.val hR hF h' (v' := a.eval x) ?_ (ev_rel hR hF x)
  rcases ho with ho | ho <;> simp only [execOp, ho, Sem.run_pure]

theorem sel_rel {β : Bt} {t : Bool} {x y x' y' : Value} (hx : VRel β x x') (hy : VRel β y y') : VRel β (sel t x y) (if t then x' else y') := by cases t <;> assumption

theorem sim_pick {c x y : Operand} (ho : o.op = .pick c x y) (h : opC C fr S o k = some r) (hR : Rel C.P w S.hp β) (hF : FRel N w S.bx β lam fr a) : Step C.P N w S β lam fr a o k r := by
  simp only [opC, ho] at h
  obtain ⟨v, hv, h⟩ := evV_inv hR hF h
  unfold pBool at h
  split at h
  · rename_i t
    have hx := ev_rel hR hF x
    have hy := ev_rel hR hF y
    have hc : a.eval c = .bool t := by generalize a.eval c = q at hv; cases hv; rfl
    have hrun : (execOp a.eval o).run C.P w = .ok (.value (if t then a.eval x else a.eval y)) w := by
      simp only [execOp, ho, hc, asBool, Sem.run_bind, Sem.run_pure, Result.andThen_ok]
    split at h
    · rename_i u z hu hz
      rw [hu] at hx; rw [hz] at hy
      exact Step.val hR hF h hrun (show VRel β _ _ from sel_rel hx hy)
    · cases t with
      | true => exact Step.val hR hF h hrun hx
      | false => exact Step.val hR hF h hrun hy
  · cases h

theorem upd_same (bx : Nat → Option Bx) (d : Nat) (c : Option Bx) : (fun j => if j = d then c else bx j) d = c := by simp

theorem setB_some {S : St} {d : Nat} {c c' : Bx} (hb : S.bx d = some c) {q : Nat} (_hq : q = q) (e : Nat) (h : (S.bx e).isSome = true) : ((S.setB d (some c')).bx e).isSome = true := by
  simp only [St.setB]
  split
  · rfl
  · exact h
/-- A new box of the frame. -/
theorem new_box (hN : N ≤ w.heap.size) (hR : Rel C.P w S.hp β) (hF : FRel N w S.bx β lam fr a) {d : Nat} (hb : S.bx d = none) (c : Bx) (ob : Obj)
    (hc : ∀ w', w'.heap[w.heap.size]? = some ob → BxRel w' β w.heap.size c) :
    let lam' := fun j => if j = d then w.heap.size else lam j
    Rel C.P (w.alloc ob) S.hp β ∧ FRel N (w.alloc ob) (S.setB d (some c)).bx β lam' fr a ∧ Ext N w S.hp β (w.alloc ob) S.hp β ∧ lam' d = w.heap.size := by
  intro lam'
  have hold : ∀ i x, β i = some x → (w.alloc ob).heap[x.b]? = w.heap[x.b]? := fun i x hx => heap_alloc _ _ _ (hR.lt i x hx)
  have hne : ∀ j, j ≠ d → lam' j = lam j := fun j hj => if_neg hj
  have hsame : lam' d = w.heap.size := if_pos rfl
  refine ⟨hR.frame (by simp) hold, ⟨hF.size, fun e s hs => ?_, fun e b he => ?_, fun e e' he he' hee => ?_, hF.defers⟩,
    ⟨rfl, rfl, rfl, by simp, Bt.le_refl _, Nat.le_refl _, fun b hb' _ => heap_alloc _ _ _ (by omega), fun b q => .inr q, fun i x hx hn => by rw [hn] at hx; cases hx⟩, hsame⟩
  · have := hF.slot e s hs
    cases s with
    | loc d' off =>
      have hd : d' ≠ d := by intro e; subst e; have := this.1; rw [hb] at this; cases this
      refine ⟨?_, ?_⟩
      · simp only [St.setB]; rw [if_neg hd]; exact this.1
      · rw [hne d' hd]; exact this.2
    | _ => exact this
  · simp only [St.setB] at he
    by_cases hed : e = d
    · subst hed
      rw [if_pos rfl] at he
      cases he
      rw [hsame]
      exact ⟨hN, by simp, fun i x hx => by have := hR.lt i x hx; omega, hc _ (heap_alloc_new _ _)⟩
    · rw [if_neg hed] at he
      obtain ⟨h1, h2, h3, h4⟩ := hF.box e b he
      rw [hne e hed]
      exact ⟨h1, by simp; omega, h3, h4.mono (Bt.le_refl _) (heap_alloc _ _ _ h2)⟩
  · simp only [St.setB] at he he'
    have key : ∀ q, (S.bx q).isSome = true → lam q < w.heap.size := fun q hq => by
      obtain ⟨c', hc'⟩ := Option.isSome_iff_exists.1 hq
      exact (hF.box q c' hc').2.1
    by_cases hed : e = d
    · subst hed
      rw [if_neg (Ne.symm hee)] at he'
      rw [hsame, hne e' (Ne.symm hee)]
      have := key e' he'
      omega
    · rw [if_neg hed] at he
      by_cases hed' : e' = d
      · subst hed'
        rw [hsame, hne e hed]
        have := key e he
        omega
      · rw [if_neg hed'] at he'
        rw [hne e hed, hne e' hed']
        exact hF.apart e e' he he' hee

theorem alloc_add (n : Nat) (w : World) (o : Obj) : ({ w with heap := w.heap.push o } : World) = w.alloc o := rfl

theorem newBox_ok (hN : N ≤ w.heap.size) (hR : Rel C.P w S.hp β) (hF : FRel N w S.bx β lam fr a) {cs : List Value} {arr : Array Value} {e : TypeId} (hl : LRel β cs arr.toList)
    (h : newBox C S o.dst cs k = some r) (hrun : (execOp a.eval o).run C.P w = .ok (.value (.pointer (some ⟨w.heap.size, 0, none⟩))) (w.alloc (.cells arr e))) : Step C.P N w S β lam fr a o k r := by
  unfold newBox at h
  split at h
  · rename_i d hd
    split at h
    · split at h
      · cases h
      · rename_i hb
        obtain ⟨g1, g2, g3, g4⟩ := new_box hN hR hF hb (.cells cs false) (.cells arr e) (fun w' hw' => ⟨arr, e, hw', hl⟩)
        exact ⟨_, _, _, _, β, _, h, .inl hrun, g1, g2, ⟨by simp [St.setB], by rw [g4]⟩, g3, BMv.new hb⟩
    · unfold pAlloc at h
      have hl2 : LRel β cs (arr.toList.take arr.size) := by rw [List.take_of_length_le (by simp)]; exact hl
      obtain ⟨g1, g2⟩ := hR.new_cells cs arr e (0, 0) arr.size hl2 (by intro j hj; simp)
      refine Step.heap hN hR hF h (.inl hrun) g1 g2 ?_
      have := VRel.ptr (β := β.set S.hp.next ⟨w.heap.size, 0, arr.size⟩) S.hp.next 0 _ (Bt.set_same _ _ _)
      exact this
  · cases h

theorem sim_alloc {T : TypeId} (ho : o.op = .alloc T) (hN : N ≤ w.heap.size) (h : opC C fr S o k = some r) (hR : Rel C.P w S.hp β) (hF : FRel N w S.bx β lam fr a) : Step C.P N w S β lam fr a o k r := by
  simp only [opC, ho] at h
  obtain ⟨i, z, hi, hz, hc, h⟩ := zeroC_inv h
  split at h
  · refine newBox_ok hN hR hF (arr := z.cells) (e := T) ((constOk_rel hc).cells) h ?_
    simp only [execOp, ho, Instr.alloc, Sem.run_bind, run_zeroValue w hi hz, Result.andThen_ok]
    simp [newVar, newRow]
  · cases h

theorem sim_box {T : TypeId} {x : Operand} (ho : o.op = .box T x) (hN : N ≤ w.heap.size) (h : opC C fr S o k = some r) (hR : Rel C.P w S.hp β) (hF : FRel N w S.bx β lam fr a) : Step C.P N w S β lam fr a o k r := by
  simp only [opC, ho] at h
  obtain ⟨v, hv, h⟩ := evV_inv hR hF h
  refine newBox_ok hN hR hF (arr := (a.eval x).cells) (e := T) hv.cells h ?_
  simp only [execOp, ho, Instr.box, newVar, newRow]
  simp

/-- Cells of a box are written. -/
theorem box_write (hN : N ≤ w.heap.size) (hR : Rel C.P w S.hp β) (hF : FRel N w S.bx β lam fr a) {d : Nat} {cs : List Value} (hb : S.bx d = some (.cells cs false)) {off : Nat} {vs vs' : List Value}
    (hl : off + vs.length ≤ cs.length) (hv : LRel β vs vs') {w' : World} (hp : Put w (lam d) off vs' w') :
    Rel C.P w' S.hp β ∧ FRel N w' (S.setB d (some (.cells (spl cs off vs) false))).bx β lam fr a ∧ Ext N w S.hp β w' S.hp β := by
  obtain ⟨b1, b2, b3, arr, e, hw, hrel⟩ := hF.box d _ hb
  obtain ⟨arr', hw', hs', hg⟩ := hp.row arr e _ hw
  have hvl := hv.1
  refine ⟨hR.frame (by rw [hp.size]; exact Nat.le_refl _) (fun i x hx => hp.other _ (b3 i x hx)), ⟨hF.size, fun q s hs => (hF.slot q s hs).bx (fun q hq => setB_some hb (q := q) rfl q hq), fun q c hq => ?_, fun q q' h1 h2 hne => ?_, hF.defers⟩,
    ⟨hp.os, hp.tape, hp.output, by rw [hp.size]; exact Nat.le_refl _, Bt.le_refl _, Nat.le_refl _, fun b hb' _ => hp.other b (by omega), fun b q => .inr q, fun i x hx hn => by rw [hn] at hx; cases hx⟩⟩
  · simp only [St.setB] at hq
    by_cases hqd : q = d
    · subst hqd
      rw [if_pos rfl] at hq
      cases hq
      refine ⟨b1, by rw [hp.size]; exact b2, b3, arr', e, hw', LRel.of_get ?_ fun j v hj => ?_⟩
      · rw [spl_length _ _ _ hl]; have := hrel.1; simp at this ⊢; omega
      · rw [spl_get _ _ _ hl] at hj
        rw [Array.getElem?_toList, hg]
        split at hj
        · rename_i hc
          rw [if_pos (by omega)]
          exact hv.get hj
        · rename_i hc
          rw [if_neg (by omega)]
          have := hrel.get hj
          simpa using this
    · rw [if_neg hqd] at hq
      obtain ⟨q1, q2, q3, q4⟩ := hF.box q c hq
      refine ⟨q1, by rw [hp.size]; exact q2, q3, q4.mono (Bt.le_refl _) (hp.other _ ?_)⟩
      exact hF.apart q d (by rw [hq]; rfl) (by rw [hb]; rfl) hqd
  · have key : ∀ q, ((S.setB d (some (.cells (spl cs off vs) false))).bx q).isSome = true → (S.bx q).isSome = true := fun q hq => by
      simp only [St.setB] at hq
      split at hq
      · rename_i e; rw [e, hb]; rfl
      · exact hq
    exact hF.apart q q' (key q h1) (key q' h2) hne

theorem sim_store {T : TypeId} {x y : Operand} (ho : o.op = .store T x y) (hN : N ≤ w.heap.size) (h : opC C fr S o k = some r) (hR : Rel C.P w S.hp β) (hF : FRel N w S.bx β lam fr a) : Step C.P N w S β lam fr a o k r := by
  simp only [opC, ho] at h
  obtain ⟨v, hv, h⟩ := evV_inv hR hF h
  obtain ⟨i, d, hi, hd, h⟩ := tyC_inv h
  have hx := ev_rel hR hF x
  split at h
  · rename_i d' off he
    rw [he] at hx
    have hx : a.eval x = .pointer (some ⟨lam d', off, none⟩) := hx.2
    split at h
    · rename_i cs hb
      unfold pSplice at h
      split at h
      · rename_i cs' hw
        obtain ⟨h1, h2, h3, rfl⟩ := wrCells_inv hw
        obtain ⟨arr, e, hh, hl⟩ := box_cells hF hb
        have hsz := hl.1
        obtain ⟨w', hrun, hp⟩ := run_storeVar_ok (off := off) hi hv h1 h3 hh (by intro j hj; simp) (by simp at hsz; omega)
        obtain ⟨g1, g2, g3⟩ := box_write hN hR hF hb (by omega) hv.cells hp
        refine ⟨_, _, w', undef, β, lam, h, .inr ⟨?_, rfl⟩, g1, g2, trivial, g3, BMv.set (by rw [hb]; exact ⟨_, rfl⟩)⟩
        simp only [execOp, ho, hx, Instr.storeAt, Instr.sureAddr, Sem.run_bind, Sem.run_pure, Result.andThen_ok, hrun]
      · cases h
    · cases h
  · rename_i p he
    rw [he] at hx
    unfold pStore at h
    split at h
    · rename_i H' hw
      unfold Hp.wr at hw
      split at hw
      · rename_i i0 off
        have hx : VRel β (.pointer (some ⟨i0, off, none⟩)) (a.eval x) := hx
        generalize hq : a.eval x = q at hx
        cases hx with
        | ptr _ _ bi hbi =>
        split at hw
        · rename_i cs hg
          split at hw
          · rename_i cs' hwr
            cases hw
            obtain ⟨h1, h2, h3, rfl⟩ := wrCells_inv hwr
            obtain ⟨bi', hbi', c1, c2⟩ := hR.cells i0 cs true hg
            rw [hbi] at hbi'; cases hbi'
            obtain ⟨⟨arr, e, fz, hh, hsz, hfz⟩, hle⟩ := c2 rfl
            obtain ⟨w', hrun, hp⟩ := run_storeVar_ok (off := bi.s + off) hi hv h1 h3 hh (by intro j hj; exact hfz j (by omega)) (by omega)
            obtain ⟨g1, g2⟩ := hR.write hg hbi (by omega) hv.cells hp
            refine Step.heap hN hR hF h (.inr ⟨?_, rfl⟩) g1 g2 trivial
            simp only [execOp, ho, hq, Instr.storeAt, Instr.sureAddr, Sem.run_bind, Sem.run_pure, Result.andThen_ok, hrun]
          · cases hw
        · cases hw
      · cases hw
    · cases h
  · cases h

theorem sim_nil {x : Operand} (ho : o.op = .nilCheck x) (h : opC C fr S o k = some r) (hR : Rel C.P w S.hp β) (hF : FRel N w S.bx β lam fr a) : Step C.P N w S β lam fr a o k r := by
  simp only [opC, ho] at h
  have hx := ev_rel hR hF x
  split at h
  · rename_i d off he
    rw [he] at hx
    have hx' : a.eval x = .pointer (some ⟨lam d, off, none⟩) := hx.2
    refine Step.val hR hF h (v' := a.eval x) ?_ hx
    simp only [execOp, ho, hx', Sem.run_pure]
  · rename_i v he
    rw [he] at hx
    have hx : VRel β v (a.eval x) := hx
    unfold pNil at h
    split at h
    · generalize hq : a.eval x = q at hx
      cases hx with
      | ptr i off y hy =>
      refine Step.val hR hF h (v' := .pointer (some ⟨y.b, y.s + off, none⟩)) ?_ (.ptr i off y hy)
      simp only [execOp, ho, hq, Sem.run_pure]
    · generalize hq : a.eval x = q at hx
      cases hx with
      | func fn fs fs' cs cs' hl hh hl2 hh2 =>
      refine Step.val hR hF h (v' := .func (.func _) ⟨fs'⟩ ⟨cs'⟩) ?_ (.func _ _ _ _ _ hl hh hl2 hh2)
      simp only [execOp, ho, hq, Sem.run_pure]
    · cases h
  · cases h

theorem addr_add (b off n : Nat) : (⟨b, off, none⟩ : Addr).add n = ⟨b, off + n, none⟩ := by unfold Addr.add; split <;> simp_all

theorem run_fieldPlace {P : Program} {w : World} {b off : Nat} {f : Field} {i : TypeInfo} (hi : P.info? f.type = some i) (h0 : i.size ≠ 0) :
    (fieldPlace ⟨b, off, none⟩ f).run P w = .ok ⟨b, off + f.offset, none⟩ w := by
  simp only [fieldPlace, Sem.run_bind, run_sizeOf w hi, Result.andThen_ok, if_neg h0, Sem.run_pure, addr_add]

theorem sim_fieldAddr {T : TypeId} {x : Operand} {f : Nat} (ho : o.op = .fieldAddr T x f) (h : opC C fr S o k = some r) (hR : Rel C.P w S.hp β) (hF : FRel N w S.bx β lam fr a) : Step C.P N w S β lam fr a o k r := by
  simp only [opC, ho] at h
  have hx := ev_rel hR hF x
  split at h
  · rename_i fs hu
    split at h
    · rename_i fd hfd
      split at h
      · rename_i i hi
        split at h
        · cases h
        · rename_i h0
          have h0 : i.size ≠ 0 := by intro e; simp [e] at h0
          have hfd' : fs[f]? = some fd := by simpa using hfd
          split at h
          · rename_i d off he
            rw [he] at hx
            obtain ⟨hx0, hx⟩ := hx
            refine Step.val hR hF h (v' := .pointer (some ⟨lam d, off + fd.offset, none⟩)) ?_ ⟨hx0, rfl⟩
            simp only [execOp, ho, hx, Instr.fieldAt, Instr.sureAddr, Sem.run_bind, run_under w hu, Result.andThen_ok, hfd', Sem.run_pure, run_fieldPlace hi h0]
          · rename_i p he
            rw [he] at hx
            have hx : VRel β p (a.eval x) := hx
            unfold pOffs at h
            split at h
            · rename_i i0 off _
              generalize hq : a.eval x = q at hx
              cases hx with
              | ptr _ _ y hy =>
              refine Step.val hR hF h (v' := .pointer (some ⟨y.b, y.s + (off + fd.offset), none⟩)) ?_ (.ptr _ _ y hy)
              simp only [execOp, ho, hq, Instr.fieldAt, Instr.sureAddr, Sem.run_bind, run_under w hu, Result.andThen_ok, hfd', Sem.run_pure, run_fieldPlace hi h0, Nat.add_assoc]
            · cases h
          · cases h
      · cases h
    · cases h
  · cases h
end
end Go.AM
/- The abstract machine: operators, parts, indexes. -/
set_option linter.unusedVariables false
namespace Go.AM
open Go

/-! ### Operators -/
theorem bvOp_ok {P : Program} {w : World} {op : BinOp} {k : IntKind} {x y : Int} {v : Value} (h : bvOp op k x y = some v) : (Op.intBits op k x y).run P w = .ok v w := by
  unfold bvOp at h
  cases op <;> first | (cases h; rfl) | (cases h; done)
theorem intOp_ok {P : Program} {w : World} {op : BinOp} {T : TypeId} {k : IntKind} {x y : Int} {v : Value} (h : intOp op k x y = some v) : (binOp op T (.int k x) (.int k y)).run P w = .ok v w := by
  unfold intOp at h
  cases op <;> simp only at h
  case quo =>
    split at h
    · cases h
    · rename_i h0; cases h; simp [binOp, Op.intDiv, h0]
  case rem =>
    split at h
    · cases h
    · rename_i h0; cases h; simp [binOp, Op.intDiv, h0]
  case and => simp only [binOp, ne_eq, not_true_eq_false, if_false]; exact bvOp_ok h
  case or => simp only [binOp, ne_eq, not_true_eq_false, if_false]; exact bvOp_ok h
  case xor => simp only [binOp, ne_eq, not_true_eq_false, if_false]; exact bvOp_ok h
  case andNot => simp only [binOp, ne_eq, not_true_eq_false, if_false]; exact bvOp_ok h
  case shl => cases h
  case shr => cases h
  all_goals (cases h; simp [binOp, Op.intArith, Op.intCmp])
theorem shOp_ok {P : Program} {w : World} {op : BinOp} {T : TypeId} {k k' : IntKind} {x y : Int} {v : Value} (h : shOp op k x y = some v) (ho : op = .shl ∨ op = .shr) :
    (binOp op T (.int k x) (.int k' y)).run P w = .ok v w := by
  unfold shOp at h
  split at h
  · cases h
  · rename_i h0
    rcases ho with rfl | rfl <;> (cases h; simp [binOp, Op.shift, h0])
theorem strOp_ok {P : Program} {w : World} {op : BinOp} {T : TypeId} {x y : ByteArray} {v : Value} (h : strOp op x y = some v) : (binOp op T (.string x) (.string y)).run P w = .ok v w := by
  unfold strOp at h
  cases op <;> simp only at h
  case add =>
    split at h
    · cases h
    · rename_i h0; cases h; simp only [binOp, Op.stringOp]; rw [if_neg h0]; rfl
  all_goals first | (cases h; simp [binOp, Op.stringOp]; done) | cases h

theorem partT_ok {P : Program} {w : World} {β : Bt} {t : TypeId} {cs cs' : List Value} {off : Nat} {v : Value} (hl : LRel β cs cs') (h : partT P t cs off = some v) :
    ∃ v', (part t cs'.toArray off).run P w = .ok v' w ∧ VRel β v v' := by
  unfold partT at h
  split at h
  · rename_i i d hi hd
    simp only [part, Sem.run_bind, run_isAgg w hd, Result.andThen_ok]
    cases ha : aggD d with
    | true =>
      rw [ha] at h; cases h
      refine ⟨.agg (cs'.toArray.extract off (off + i.size)), ?_, ?_⟩
      · simp only [if_true, Sem.run_bind, run_sizeOf w hi, Result.andThen_ok, Sem.run_pure]
      · refine agg_iff.2 ⟨_, rfl, ?_⟩
        have := (hl.drop off).take i.size
        simpa [List.extract_eq_take_drop] using this
    | false =>
      rw [ha] at h
      obtain ⟨v', hv', hr⟩ := hl.get h
      have : cs'.toArray[off]? = some v' := by simpa using hv'
      exact ⟨v', by simp only [Bool.false_eq_true, if_false, this, Sem.run_pure], hr⟩
  · cases h

section
variable {α : Type} {C : Ctx} {N : Nat} {w : World} {S : St} {β : Bt} {lam : Nat → Nat} {fr : Fr} {a : Act} {o : Oper} {k : Slot → St → Option α} {r : α}

theorem tyC_part {P : Program} {T : TypeId} {k : Nat → Bool → Option α} {r : α} (h : tyC P T k = some r) :
    ∃ i d, P.info? T = some i ∧ P.underlying T = some d ∧ k i.size (aggD d) = some r := tyC_inv h

theorem partC_ok {P : Program} {w : World} {β : Bt} {t : TypeId} {i : TypeInfo} {d : TypeDesc} (hi : P.info? t = some i) (hd : P.underlying t = some d) {cs : Array Value} {cs' : Array Value} {off : Nat} {v : Value}
    (hl : LRel β cs.toList cs'.toList) (h : partC (aggD d) i.size cs.toList off = some v) : ∃ v', (part t cs' off).run P w = .ok v' w ∧ VRel β v v' := by
  have h2 : partT P t cs.toList off = some v := by unfold partT; rw [hi, hd]; unfold partC at h; exact h
  obtain ⟨v', hr, hv⟩ := partT_ok (w := w) hl h2
  exact ⟨v', by simpa using hr, hv⟩

theorem sim_unOp {op : UnOp} {T : TypeId} {x : Operand} (ho : o.op = .unOp op T x) (h : opC C fr S o k = some r) (hR : Rel C.P w S.hp β) (hF : FRel N w S.bx β lam fr a) : Step C.P N w S β lam fr a o k r := by
  simp only [opC, ho] at h
  obtain ⟨v, hv, h⟩ := evV_inv hR hF h
  unfold pUn at h
  split at h
  · rename_i u hu
    generalize hq : a.eval x = q at hv
    have key : (Op.unary op q).run C.P w = .ok u w ∧ VRel β u u := by
      unfold unV at hu
      split at hu
      · cases hv; cases hu; exact ⟨by simp [Op.unary, Op.intArith], .int _ _⟩
      · cases hv
        refine ⟨by simp only [Op.unary]; exact bvOp_ok hu, ?_⟩
        unfold bvOp at hu; simp at hu; subst hu; exact .int _ _
      · cases hv; cases hu; exact ⟨by simp [Op.unary], .bool _⟩
      · cases hu
    refine Step.val hR hF h (v' := u) ?_ key.2
    simp only [execOp, ho, hq, Sem.run_bind, key.1, Result.andThen_ok, Sem.run_pure]
  · cases h

theorem sim_makeFunc {fn : Fn} {first captured : Array Operand} (ho : o.op = .makeFunc fn first captured) (h : opC C fr S o k = some r) (hR : Rel C.P w S.hp β) (hF : FRel N w S.bx β lam fr a) : Step C.P N w S β lam fr a o k r := by
  simp only [opC, ho] at h
  obtain ⟨fs, hfs, h⟩ := evs_inv hR hF _ h
  obtain ⟨cs, hcs, h⟩ := evs_inv hR hF _ h
  refine Step.val hR hF h (v' := .func fn (first.map a.eval) (captured.map a.eval)) ?_ ?_
  · simp only [execOp, ho, Instr.makeFunc, Sem.run_bind, Sem.run_pure, Result.andThen_ok]
  · obtain ⟨first⟩ := first
    obtain ⟨captured⟩ := captured
    have := VRel.func (β := β) fn fs (first.map a.eval) cs (captured.map a.eval) hfs.1 hfs.2 hcs.1 hcs.2
    simpa [SRel] using this

theorem sim_makeMap {T : TypeId} (ho : o.op = .makeMap T none) (hN : N ≤ w.heap.size) (h : opC C fr S o k = some r) (hR : Rel C.P w S.hp β) (hF : FRel N w S.bx β lam fr a) : Step C.P N w S β lam fr a o k r := by
  simp only [opC, ho, pNewMap] at h
  obtain ⟨g1, g2⟩ := hR.new_map
  refine Step.heap hN hR hF h (v' := .map (some w.heap.size)) (.inl ?_) g1 g2 (.map _ _ (Bt.set_same _ _ _))
  simp only [execOp, ho, Instr.makeMap, Option.map_none]
  simp

theorem sim_extract {t : Operand} {i : Nat} (ho : o.op = .extract t i) (h : opC C fr S o k = some r) (hR : Rel C.P w S.hp β) (hF : FRel N w S.bx β lam fr a) : Step C.P N w S β lam fr a o k r := by
  simp only [opC, ho] at h
  obtain ⟨v, hv, h⟩ := evV_inv hR hF h
  unfold pExtract at h
  split at h
  · rename_i u hu
    unfold extractV at hu
    split at hu
    · obtain ⟨cs', hq, hl⟩ := tuple_iff.1 hv
      obtain ⟨u', hu', hr⟩ := hl.get hu
      refine Step.val hR hF h (v' := u') ?_ hr
      have hu2 : cs'[i]? = some u' := by simpa using hu'
      simp only [execOp, ho, hq, Instr.extract, hu2, Sem.run_bind, Sem.run_pure, Result.andThen_ok]
    · cases hu
  · cases h

theorem sim_field {T : TypeId} {x : Operand} {f : Nat} (ho : o.op = .field T x f) (h : opC C fr S o k = some r) (hR : Rel C.P w S.hp β) (hF : FRel N w S.bx β lam fr a) : Step C.P N w S β lam fr a o k r := by
  simp only [opC, ho] at h
  obtain ⟨v, hv, h⟩ := evV_inv hR hF h
  split at h
  · rename_i fs hu
    split at h
    · rename_i fd hfd
      obtain ⟨i, d, hi, hd, h⟩ := tyC_inv h
      have hfd' : fs[f]? = some fd := by simpa using hfd
      unfold pPart at h
      split at h
      · obtain ⟨cs', hq, hl⟩ := agg_iff.1 hv
        split at h
        · rename_i u hpc
          obtain ⟨u', hr, hv'⟩ := partC_ok (w := w) hi hd hl hpc
          refine Step.val hR hF h (v' := u') ?_ hv'
          simp only [execOp, ho, hq, Instr.field, Sem.run_bind, run_under w hu, Result.andThen_ok, hfd', asAgg, Sem.run_pure, hr]
        · cases h
      · cases h
    · cases h
  · cases h

theorem atStr_ok {s : ByteArray} {j : Int} {v : Value} (h : atStr s j = some v) : ∃ b : UInt8, (if 0 ≤ j then s[j.toNat]? else none) = some b ∧ v = .int .u8 (b.toNat : Int) := by
  unfold atStr at h
  split at h
  · rename_i hj
    cases hb : s[j.toNat]? with
    | none => rw [hb] at h; cases h
    | some b => rw [hb] at h; cases h; exact ⟨b, by rw [if_pos hj], rfl⟩
  · cases h

theorem sim_index {T : TypeId} {x i : Operand} (ho : o.op = .index T x i) (h : opC C fr S o k = some r) (hR : Rel C.P w S.hp β) (hF : FRel N w S.bx β lam fr a) : Step C.P N w S β lam fr a o k r := by
  simp only [opC, ho] at h
  obtain ⟨v, hv, h⟩ := evV_inv hR hF h
  obtain ⟨ix, hix, h⟩ := evV_inv hR hF h
  generalize hqi : a.eval i = qi at hix
  split at h
  · rename_i hu
    unfold pAtStr at h
    split at h
    · rename_i s kd j
      split at h
      · rename_i u hat
        obtain ⟨b, hb, rfl⟩ := atStr_ok hat
        generalize hq : a.eval x = q at hv
        cases hv; cases hix
        refine Step.val hR hF h (v' := .int .u8 (b.toNat : Int)) ?_ (.int _ _)
        simp only [execOp, ho, hq, hqi, Instr.index, asIntOf, Sem.run_bind, Sem.run_pure, run_under w hu, Result.andThen_ok, hb]
      · cases h
    · cases h
  · rename_i len e hu
    obtain ⟨ti, d, hi, hd, h⟩ := tyC_inv h
    unfold pAtArr at h
    split at h
    · rename_i kd j
      split at h
      · rename_i hj
        unfold pPart at h
        split at h
        · obtain ⟨cs', hq, hl⟩ := agg_iff.1 hv
          split at h
          · rename_i u hpc
            obtain ⟨u', hr, hv'⟩ := partC_ok (w := w) hi hd hl hpc
            cases hix
            refine Step.val hR hF h (v' := u') ?_ hv'
            simp only [execOp, ho, hq, hqi, Instr.index, asIntOf, Sem.run_bind, Sem.run_pure, run_under w hu, Result.andThen_ok, hj, and_self, if_true, run_sizeOf w hi, hr]
          · cases h
        · cases h
      · cases h
    · cases h
  · cases h

theorem sim_indexAddr {T : TypeId} {x i : Operand} (ho : o.op = .indexAddr T x i) (h : opC C fr S o k = some r) (hR : Rel C.P w S.hp β) (hF : FRel N w S.bx β lam fr a) : Step C.P N w S β lam fr a o k r := by
  simp only [opC, ho] at h
  obtain ⟨ix, hix, h⟩ := evV_inv hR hF h
  generalize hqi : a.eval i = qi at hix
  split at h
  · rename_i e hu
    split at h
    · rename_i ti hi
      obtain ⟨v, hv, h⟩ := evV_inv hR hF h
      unfold pIdx at h
      split at h
      · rename_i u hiv
        unfold idxV at hiv
        split at hiv
        · rename_i i0 off z n c kd j
          split at hiv
          · rename_i hc
            obtain ⟨rfl, hj0, hjn⟩ := hc
            cases hiv
            generalize hq : a.eval x = q at hv
            cases hv with
            | slice _ _ _ _ _ y o' c' hy hn hcc ht hoo =>
            cases hix
            have ho' : o' = y.s + off := hoo (by omega)
            subst ho'
            refine Step.val hR hF h (v' := .pointer (some ⟨y.b, y.s + (off + j.toNat * ti.size), none⟩)) ?_ (.ptr _ _ y hy)
            simp only [execOp, ho, hq, hqi, Instr.indexAt, asIntOf, Sem.run_bind, Sem.run_pure, run_under w hu, Result.andThen_ok, hj0, hjn, and_self, if_true, run_sizeOf w hi, addr_add, Nat.add_assoc]
          · cases hiv
        · cases hiv
      · cases h
    · cases h
  · rename_i len e hu
    split at h
    · rename_i ti hi
      have hx := ev_rel hR hF x
      split at h
      · rename_i d off he
        rw [he] at hx
        obtain ⟨hx0, hx⟩ := hx
        unfold pIdxLoc at h
        split at h
        · rename_i kd j
          split at h
          · rename_i hj
            cases hix
            refine Step.val hR hF h (v' := .pointer (some ⟨lam d, off + j.toNat * ti.size, none⟩)) ?_ ⟨hx0, rfl⟩
            simp only [execOp, ho, hx, hqi, Instr.indexAt, Instr.sureAddr, asIntOf, Sem.run_bind, Sem.run_pure, run_under w hu, Result.andThen_ok, hj, and_self, if_true, run_sizeOf w hi, addr_add]
          · cases h
        · cases h
      · rename_i p he
        rw [he] at hx
        have hx : VRel β p (a.eval x) := hx
        unfold pIdxArr at h
        split at h
        · rename_i i0 off kd j _
          split at h
          · rename_i hj
            generalize hq : a.eval x = q at hx
            cases hx with
            | ptr _ _ y hy =>
            cases hix
            refine Step.val hR hF h (v' := .pointer (some ⟨y.b, y.s + (off + j.toNat * ti.size), none⟩)) ?_ (.ptr _ _ y hy)
            simp only [execOp, ho, hq, hqi, Instr.indexAt, Instr.sureAddr, asIntOf, Sem.run_bind, Sem.run_pure, run_under w hu, Result.andThen_ok, hj, and_self, if_true, run_sizeOf w hi, addr_add, Nat.add_assoc]
          · cases h
        · cases h
      · cases h
    · cases h
  · cases h
end
end Go.AM
/- The abstract machine: equality, conversions, slices. -/
set_option linter.unusedVariables false
namespace Go.AM
open Go

theorem eqFields_ok {P : Program} {β : Bt} {d : Nat} {c : TypeId → Value → Value → Option Bool}
    (hc : ∀ t x y b x' y' (w : World), c t x y = some b → VRel β x x' → VRel β y y' → (Op.equalIn d t x' y').run P w = .ok b w)
    {xs ys xs' ys' : List Value} (hx : LRel β xs xs') (hy : LRel β ys ys') (w : World) : ∀ (fs : List Field) (b : Bool), eqFields P c xs ys fs = some b →
    (Op.eqFields d xs'.toArray ys'.toArray fs).run P w = .ok b w
  | [], b, h => by cases h; simp [Op.eqFields]
  | f :: fs, b, h => by
    unfold eqFields at h
    unfold Op.eqFields
    split at h
    · rename_i hn
      have : f.name = "_" := by simpa using hn
      rw [if_neg (by simp [this])]
      exact eqFields_ok hc hx hy w fs b h
    · rename_i hn
      have hn : f.name ≠ "_" := by simpa using hn
      rw [if_pos hn]
      split at h
      · rename_i x y hpx hpy
        obtain ⟨x', h1, r1⟩ := partT_ok (w := w) hx hpx
        obtain ⟨y', h2, r2⟩ := partT_ok (w := w) hy hpy
        split at h
        · rename_i he
          have h3 := hc _ _ _ _ _ _ w he r1 r2
          simp only [Sem.run_bind, h1, h2, h3, Result.andThen_ok, Bool.not_true, Bool.false_eq_true, if_false]
          exact eqFields_ok hc hx hy w fs b h
        · rename_i he
          have h3 := hc _ _ _ _ _ _ w h r1 r2
          cases b with
          | true => exact (he h).elim
          | false => simp only [Sem.run_bind, h1, h2, h3, Result.andThen_ok, Bool.not_false, if_true, Sem.run_pure]
      · cases h

theorem eqT_ok {P : Program} {β : Bt} : ∀ (d : Nat) (t : TypeId) (x y : Value) (b : Bool) (x' y' : Value) (w : World), eqT P d t x y = some b → VRel β x x' → VRel β y y' →
    (Op.equalIn d t x' y').run P w = .ok b w
  | 0, t, x, y, b, x', y', w, h, _, _ => by cases h
  | d + 1, t, x, y, b, x', y', w, h, hx, hy => by
    unfold eqT at h
    split at h
    case h_1 hu => cases hx; cases hy; cases h; simp [Op.equalIn, run_underlying hu]
    case h_2 hu =>
      cases hx; cases hy
      split at h
      · rename_i hk; cases h; simp [Op.equalIn, run_underlying hu, hk]
      · cases h
    case h_3 hu => cases hx; cases hy; cases h; simp [Op.equalIn, run_underlying hu]
    case h_4 hu => cases hx; cases h; cases hy <;> simp [Op.equalIn, run_underlying hu]
    case h_5 hu => cases hy; cases h; cases hx <;> first | (simp [Op.equalIn, run_underlying hu]; done) | (exfalso; simp_all; done)
    case h_6 hu => cases hx; cases h; cases hy <;> simp [Op.equalIn, run_underlying hu]
    case h_7 hu => cases hy; cases h; cases hx <;> first | (simp [Op.equalIn, run_underlying hu]; done) | (exfalso; simp_all; done)
    case h_8 hu => cases hx; cases h; cases hy <;> simp [Op.equalIn, run_underlying hu]
    case h_9 hu => cases hy; cases h; cases hx <;> first | (simp [Op.equalIn, run_underlying hu]; done) | (exfalso; simp_all; done)
    case h_10 hu => cases hx; cases hy; cases h; simp [Op.equalIn, run_underlying hu]
    case h_11 hu => cases hx; cases hy; cases h; simp [Op.equalIn, run_underlying hu]
    case h_12 hu => cases hx; cases hy; cases h; simp [Op.equalIn, run_underlying hu]
    case h_13 fields xs ys hu =>
      obtain ⟨xs', rfl, hxl⟩ := agg_iff.1 hx
      obtain ⟨ys', rfl, hyl⟩ := agg_iff.1 hy
      split at h
      · cases h
      · rename_i hst
        have hf : P.fieldsOf t = fields := by simp [Program.fieldsOf, hu]
        rw [run_equalIn_struct w d t xs' ys' (by rw [hf]; exact hu) hst, hf]
        have := eqFields_ok (fun t x y b x' y' w h1 h2 h3 => eqT_ok d t x y b x' y' w h1 h2 h3) hxl hyl w fields.toList b h
        simpa using this
    case h_14 => cases h

section
variable {α : Type} {C : Ctx} {N : Nat} {w : World} {S : St} {β : Bt} {lam : Nat → Nat} {fr : Fr} {a : Act} {o : Oper} {k : Slot → St → Option α} {r : α}

theorem eqOp_ok {P : Program} {w : World} {T : TypeId} {X Y : Operand} {op : BinOp} {x y x' y' : Value} {b : Bool} (h : eqOp P T x y = some b) (hx : VRel β x x') (hy : VRel β y y') :
    (eqGuard op T X Y x' y').run P w = .ok () w ∧ (Op.equal T x' y').run P w = .ok b w := by
  unfold eqOp at h
  split at h
  · split at h
    · cases h
    · rename_i hg
      have := eqT_ok Op.maxDepth T _ _ b x' y' w h hx hy
      obtain ⟨xs', rfl, _⟩ := agg_iff.1 hx
      obtain ⟨ys', rfl, _⟩ := agg_iff.1 hy
      exact ⟨run_eqGuard_agg w op T X Y xs' ys' hg, this⟩
  · cases h
  all_goals first
    | (have := eqT_ok Op.maxDepth T _ _ b x' y' w h hx hy; refine ⟨?_, this⟩; cases hx <;> (cases op <;> rfl))
    | cases h

theorem sim_binOp {op : BinOp} {T T' : TypeId} {x y : Operand} (ho : o.op = .binOp op T x y T') (h : opC C fr S o k = some r) (hR : Rel C.P w S.hp β) (hF : FRel N w S.bx β lam fr a) : Step C.P N w S β lam fr a o k r := by
  simp only [opC, ho] at h
  obtain ⟨u, hu, h⟩ := evV_inv hR hF h
  obtain ⟨v, hv, h⟩ := evV_inv hR hF h
  unfold pBin at h
  split at h
  · rename_i z hz
    generalize hqx : a.eval x = qx at hu
    generalize hqy : a.eval y = qy at hv
    have key : ((do eqGuard op T x y qx qy; binOp op T qx qy : Sem Value)).run C.P w = .ok z w ∧ VRel β z z := by
      unfold binV at hz
      split at hz
      · rename_i k1 n1 k2 n2
        cases hu; cases hv
        have hg : (eqGuard op T x y (.int k1 n1) (.int k2 n2)).run C.P w = .ok () w := by cases op <;> rfl
        simp only [Sem.run_bind, hg, Result.andThen_ok]
        split at hz
        · exact ⟨shOp_ok hz (.inl rfl), by unfold shOp at hz; split at hz <;> cases hz; exact .int _ _⟩
        · exact ⟨shOp_ok hz (.inr rfl), by unfold shOp at hz; split at hz <;> cases hz; exact .int _ _⟩
        · split at hz
          · rename_i hk
            subst hk
            refine ⟨intOp_ok hz, ?_⟩
            unfold intOp at hz
            cases op <;> simp only [bvOp] at hz <;> (try split at hz) <;> cases hz <;> first | exact .int _ _ | exact .bool _
          · cases hz
      · rename_i s1 s2
        cases hu; cases hv
        have hg : (eqGuard op T x y (.string s1) (.string s2)).run C.P w = .ok () w := by cases op <;> rfl
        simp only [Sem.run_bind, hg, Result.andThen_ok]
        refine ⟨strOp_ok hz, ?_⟩
        unfold strOp at hz
        cases op <;> simp only at hz <;> (try split at hz) <;> cases hz <;> first | exact .string _ | exact .bool _
      · rename_i hn1 hn2
        split at hz
        · split at hz
          · rename_i b he
            cases hz
            obtain ⟨hg, hq⟩ := eqOp_ok (w := w) (X := x) (Y := y) (op := .eql) he hu hv
            refine ⟨?_, .bool b⟩
            simp only [Sem.run_bind, hg, Result.andThen_ok]
            unfold eqOp at he
            split at he <;> (try cases he) <;> cases hu <;> cases hv <;> simp [binOp, hq]
          · cases hz
        · split at hz
          · rename_i b he
            cases hz
            obtain ⟨hg, hq⟩ := eqOp_ok (w := w) (X := x) (Y := y) (op := .neq) he hu hv
            refine ⟨?_, .bool _⟩
            simp only [Sem.run_bind, hg, Result.andThen_ok]
            unfold eqOp at he
            split at he <;> (try cases he) <;> cases hu <;> cases hv <;> simp [binOp, hq]
          · cases hz
        · cases hz
    refine Step.val hR hF h (v' := z) ?_ key.2
    have hrun : (execOp a.eval o) = (do let v ← (do eqGuard op T x y qx qy; binOp op T qx qy); pure (.value v) : Sem Next) := by
      simp only [execOp, ho, hqx, hqy]
    rw [hrun]
    simp only [Sem.run_bind] at key ⊢
    rw [key.1]
    rfl
  · cases h

end
end Go.AM
/- The abstract machine: append. -/
set_option linter.unusedVariables false
namespace Go.AM
open Go

theorem sliceC_inv {α : Type} {P : Program} {t : TypeId} {k : Nat → Nat → List Value → Option α} {r : α} (h : sliceC P t k = some r) :
    ∃ e i z, P.underlying t = some (.slice e) ∧ P.info? e = some i ∧ i.zero = some z ∧ i.size ≠ 0 ∧ i.bytes ≠ 0 ∧ (cellsL z).length = i.size ∧ (cellsL z).all one = true ∧ constOk z = true ∧ k i.size i.bytes (cellsL z) = some r := by
  unfold sliceC at h
  split at h
  · rename_i e hu
    split at h
    · cases h
    · rename_i i hi
      obtain ⟨i', z, hi', hz, hc, h⟩ := zeroC_inv h
      rw [hi] at hi'; cases hi'
      split at h
      · cases h
      · rename_i hn
        simp only [not_or] at hn
        refine ⟨e, i, z, hu, hi, hz, hn.1, hn.2.1, by have := hn.2.2.1; omega, by have := hn.2.2.2; simpa using this, hc, h⟩
  · cases h

/-- What is appended: how many, and their cells. -/
theorem src_ok {P : Program} {w : World} {H : Hp} {β : Bt} (hR : Rel P w H β) {sz m : Nat} {new : List Value} {x x' : Value} (h : srcCells sz x H = some (m, new)) (hx : VRel β x x') :
    (Builtin.lenOf x').run P w = .ok m w ∧ new.length = m * sz ∧ ∀ n, n ≤ m → ∃ l', (Builtin.firstCells sz n x').run P w = .ok (List.toArray l') w ∧ LRel β (new.take (n * sz)) l' := by
  unfold srcCells at h
  split at h
  · cases h; cases hx
    refine ⟨by simp [Builtin.lenOf], by simp, fun n hn => ⟨[], run_firstCells_none w _ _ _ _, by simpa using LRel.nil β⟩⟩
  · rename_i i o z n c
    split at h
    · rename_i hz
      subst hz
      split at h
      · rename_i cs own hg
        split at h
        · rename_i hl
          cases h
          cases hx with
          | slice _ _ _ _ _ y o' c' hy hnc hcc ht hoo =>
          obtain ⟨y', hy', h1, _⟩ := hR.cells i cs own hg
          rw [hy] at hy'; cases hy'
          refine ⟨by simp [Builtin.lenOf], by simp; omega, fun n' hn' => ?_⟩
          have hle : n' * z ≤ m * z := Nat.mul_le_mul_right z hn'
          have htk : ((cs.drop o).take (m * z)).take (n' * z) = (cs.drop o).take (n' * z) := by rw [List.take_take, Nat.min_eq_left hle]
          rw [htk]
          by_cases hc0 : 0 < c
          · have ho' := hoo hc0
            subst ho'
            obtain ⟨l', hr, hrel⟩ := run_loadCells_rel (P := P) (w := w) (b := y.b) (off := y.s + o) (β := β) (l := (cs.drop o).take (n' * z)) (fun j u hu => by
              rw [List.getElem?_take] at hu
              split at hu
              · rw [List.getElem?_drop] at hu
                rw [show y.s + o + j = y.s + (o + j) by omega]
                exact h1 _ u hu
              · cases hu)
            have hlen : ((cs.drop o).take (n' * z)).length = n' * z := by simp; omega
            rw [hlen] at hr
            exact ⟨l', by simpa [Builtin.firstCells] using hr, hrel⟩
          · have hm0 : m = 0 := by omega
            subst hm0
            have hn0 : n' = 0 := by omega
            subst hn0
            exact ⟨[], by simp [Builtin.firstCells, loadCells, loadCellsFrom], by simpa using LRel.nil β⟩
        · cases h
      · cases h
    · cases h
  · rename_i s
    split at h
    · rename_i hz
      subst hz
      cases h
      cases hx
      refine ⟨by simp [Builtin.lenOf], by simp, fun n hn => ⟨(s.data.toList.map fun b => Value.int .u8 b.toNat).take (n * 1), ?_, ?_⟩⟩
      · simp only [Builtin.firstCells, Sem.run_pure]
        congr 1
        apply Array.toList_inj.1
        simp [List.extract_eq_take_drop]
      · refine ⟨rfl, fun j v v' hv hv' => ?_⟩
        rw [hv] at hv'; cases hv'
        rw [List.getElem?_take] at hv
        split at hv
        · rw [List.getElem?_map] at hv
          cases hb : s.data.toList[j]? with
          | none => rw [hb] at hv; cases hv
          | some b => rw [hb] at hv; cases hv; exact .int _ _
        · cases hv
    · cases h
  · cases h
end Go.AM
