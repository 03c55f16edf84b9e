/- Part of the proof of TermDumpsUptoCardSaid: see the last file.  -/
import Derived.Laws.Bits64
import Derived.KernelRfl
import Derived.Laws.RangeString
import Derived.Laws.RangeAny
import Derived.Test.YtkfhklmklhnfaaaDoorRows
import Derived.Test.YtkfhklmklhnfaaaDoorT0
import Derived.Test.YtkfhklmklhnfaaaDoorT1
import Derived.Test.YtkfhklmklhnfaaaDoorT2
import Derived.Test.YtkfhklmklhnfaaaDoorT4
set_option linter.unusedSimpArgs false
set_option linter.unusedVariables false
set_option linter.unusedSectionVars false
/- The Term seat: sorts. -/
set_option linter.unusedVariables false
set_option maxRecDepth 100000
set_option linter.unusedSimpArgs false
namespace Go.AM
open Go
/-- Are the sorts of a node's parts right? -/
def sortsOf (op a b c : Int) : Bool :=
  if partsT op = 0 then true
  else if op = 5 then decide (a = 0)
  else if op = 6 ∨ op = 7 ∨ op = 8 then decide (a = 0) && decide (b = 0)
  else if op = 9 then decide (a = b)
  else if op = 14 then decide (a = 0) && decide (b = c)
  else if op = 30 then decide (a > 0) && decide (b > 0)
  else if partsT op = 1 then decide (a > 0)
  else decide (a > 0) && decide (a = b)
section
variable {H : Hp} {p f g : Nat} {lim : Int} {L : List Nd} {sl : Value}
theorem c42 (hs : StR H p lim L sl f g) (hL : (L.length : Int) ≤ 4611686018427387904) (n : Nd) :
    RR F.term_Store_sorted [.pointer (some ⟨p, 0, none⟩), n.val] H = some (.bool (sortsOf n.op (wT L (-1) n.a) (wT L (-1) n.b) (wT L (-1) n.c)), H) := by
  refine (r_term_Store_sorted E0 rfl _ _ _).trans ?_
  unfold m_term_Store_sorted
  simp only [n0, n2, n3, n4, s_call (c40 hs hL), s_call (c29 _ _), s_eql, s_gtr, s_bool, s_br, s_bind, s_bind_ite, s_next, s_exit, s_ret, s_onExit, s_head, List.getD_cons_zero, decide_eq_true_eq, if_true]
  unfold sortsOf
  generalize wT L (-1) n.a = a
  generalize wT L (-1) n.b = b
  generalize wT L (-1) n.c = c
  generalize n.op = op
  by_cases h0 : partsT op = 0
  · simp only [h0, if_true]
  simp only [h0, if_false]
  by_cases h5 : op = 5
  · simp only [h5, if_true]
  simp only [h5, if_false]
  by_cases h6 : op = 6
  · simp [h6, s_ite]
  by_cases h7 : op = 7
  · simp [h7, s_ite]
  by_cases h8 : op = 8
  · simp [h8, s_ite]
  simp only [h6, h7, h8, if_false, or_self]
  by_cases h9 : op = 9
  · simp [h9]
  simp only [h9, if_false]
  by_cases h14 : op = 14
  · simp [h14]; by_cases q : a = 0 <;> simp [q]
  simp only [h14, if_false]
  by_cases h30 : op = 30
  · simp [h30]; by_cases q : a > 0 <;> simp [q]
  simp only [h30, if_false]
  by_cases h1 : partsT op = 1
  · simp [h1]
  simp only [h1, if_false]
  by_cases q : a > 0 <;> simp [q]
/-- The document's, where the parts are terms. -/
theorem c48 (hs : StR H p lim L sl f g) (hL : (L.length : Int) ≤ 4611686018427387904) (n : Nd) (h1 : 1 ≤ n.op) (h2 : n.op ≤ 33)
    (ha : partsT n.op ≥ 1 → isT L n.a = true) (hb : partsT n.op ≥ 2 → isT L n.b = true) (hc : partsT n.op ≥ 3 → isT L n.c = true) :
    RR F.cadenceref07_Store_sorts [.pointer (some ⟨p, 0, none⟩), n.val] H = some (.bool (sortsOf n.op (wT L (-1) n.a) (wT L (-1) n.b) (wT L (-1) n.c)), H) := by
  refine (r_cadenceref07_Store_sorts E0 rfl _ _ _).trans ?_
  unfold m_cadenceref07_Store_sorts
  have ka := fun h => c54 hs hL (ha h) (-1)
  have kb := fun h => c54 hs hL (hb h) (-1)
  have kc := fun h => c54 hs hL (hc h) (-1)
  simp only [n0, n2, n3, n4, s_eql, s_gtr, s_geq, s_leq, s_bool, s_br, s_bind, s_bind_ite, s_next, s_exit, s_ret, s_onExit, s_head, List.getD_cons_zero, decide_eq_true_eq, if_true]
  unfold sortsOf
  by_cases h4 : n.op ≤ 4
  · have : partsT n.op = 0 := by unfold partsT; rw [if_pos (by omega)]
    simp only [h4, this, if_true]
  have h0 : ¬ partsT n.op = 0 := by unfold partsT; split <;> first | omega | (split <;> first | omega | (split <;> omega))
  have hA := ka (by unfold partsT at *; split <;> first | omega | (split <;> first | omega | (split <;> omega)))
  simp only [h4, h0, if_false]
  by_cases h5 : n.op = 5
  · simp only [h5, if_true, s_call hA, s_eql]
  simp only [h5, if_false]
  by_cases hone : n.op = 15 ∨ n.op = 16 ∨ n.op ≥ 31
  · have hp : partsT n.op = 1 := by unfold partsT; rw [if_neg (by omega), if_pos (by omega)]
    have q1 : ¬ n.op ≤ 8 := by omega
    have q2 : ¬ n.op = 9 := by omega
    have q3 : ¬ n.op = 14 := by omega
    have q4 : ¬ n.op = 30 := by omega
    have q5 : ¬ (n.op = 6 ∨ n.op = 7 ∨ n.op = 8) := by omega
    simp only [q1, q2, q3, q4, q5, hp, if_false, if_true]
    rcases hone with h | h | h
    · simp only [h, if_true, s_bind, s_next, List.getD_cons_zero, s_bool, s_br, s_call hA, s_gtr]
    · simp [h, s_bind, s_next, s_bool, s_br, s_call hA, s_gtr]
    · have w1 : ¬ n.op = 15 := by omega
      have w2 : ¬ n.op = 16 := by omega
      simp [w1, w2, h, s_bind, s_next, s_bool, s_br, s_call hA, s_gtr]
  have hB := kb (by unfold partsT; rw [if_neg (by omega), if_neg (by omega)]; split <;> omega)
  have hone1 : ¬ partsT n.op = 1 := by unfold partsT; rw [if_neg (by omega), if_neg (by omega)]; split <;> omega
  by_cases h8 : n.op ≤ 8
  · have : n.op = 6 ∨ n.op = 7 ∨ n.op = 8 := by omega
    simp only [h8, this, if_true, s_call hA, s_call hB, s_eql, s_bool, s_br, decide_eq_true_eq]
    by_cases q : wT L (-1) n.a = 0 <;> simp [q]
  have q5 : ¬ (n.op = 6 ∨ n.op = 7 ∨ n.op = 8) := by omega
  simp only [h8, q5, if_false]
  by_cases h9 : n.op = 9
  · simp only [h9, if_true, s_call hA, s_call hB, s_eql]
  simp only [h9, if_false]
  by_cases h14 : n.op = 14
  · have hC := kc (by unfold partsT; rw [h14]; decide)
    simp only [h14, if_true, s_call hA, s_call hB, s_call hC, s_eql, s_bool, s_br, decide_eq_true_eq]
    by_cases q : wT L (-1) n.a = 0 <;> simp [q]
  have w1 : ¬ n.op = 15 := by omega
  have w2 : ¬ n.op = 16 := by omega
  have w3 : ¬ n.op ≥ 31 := by omega
  simp only [h14, w1, w2, w3, if_false, decide_false, s_bind, s_next, List.getD_cons_zero, s_bool, s_br, Bool.false_eq_true]
  by_cases h30 : n.op = 30
  · simp only [h30, if_true, s_call hA, s_call hB, s_gtr, s_bool, s_br, decide_eq_true_eq]
    by_cases q : wT L (-1) n.a > 0 <;> simp [q]
  simp only [h30, hone1, if_false, s_call hA, s_call hB, s_gtr, s_eql, s_bool, s_br, decide_eq_true_eq]
  by_cases q : wT L (-1) n.a > 0 <;> simp [q]
end
end Go.AM
/- The Term seat: words: Trim, OnesCount, Shifts. -/
set_option linter.unusedVariables false
set_option maxRecDepth 100000
set_option linter.unusedSimpArgs false
namespace Go.AM
open Go
theorem s_rem {α : Type} {P : Program} (T : TypeId) (kd : IntKind) (a b : Int) (hb : b ≠ 0) (k : Value → Option α) : pBin P .rem T (.int kd a) (.int kd b) k = k (.int kd (a.tmod b)) := by simp [pBin, binV, intOp, hb]
theorem s_conv {α : Type} (kd k2 : IntKind) (a : Int) (k : Value → Option α) : pConvInt kd (.int k2 a) k = k (.int kd (kd.wrap a)) := rfl
theorem s_and {α : Type} {P : Program} (T : TypeId) (kd : IntKind) (a b : Int) (k : Value → Option α) : pBin P .and T (.int kd a) (.int kd b) k = k (.int kd (kd.wrap (BitVec.ofInt kd.bits a &&& BitVec.ofInt kd.bits b).toNat)) := by simp [pBin, binV, intOp, bvOp]
theorem s_shl {α : Type} {P : Program} (T : TypeId) (kd k2 : IntKind) (a b : Int) (hb : 0 ≤ b) (k : Value → Option α) : pBin P .shl T (.int kd a) (.int k2 b) k = k (.int kd (kd.wrap (a * 2 ^ (min b.toNat kd.bits)))) := by
  have : ¬ b < 0 := by omega
  simp [pBin, binV, shOp, this]
/-- A word's low bits. -/
def trimS (w x : Int) : Int := if w < 1 then 0 else if w ≥ 64 then x else x % 2 ^ w.toNat
theorem pow_lt64 {w : Int} (h1 : 1 ≤ w) (h2 : w < 64) : (2 : Int) ^ w.toNat < 18446744073709551616 ∧ (2 : Int) ≤ 2 ^ w.toNat := by
  have hw : w.toNat < 64 := by omega
  have hw1 : 1 ≤ w.toNat := by omega
  have h3 : (2 : Nat) ^ w.toNat < 2 ^ 64 := Nat.pow_lt_pow_right (by omega) hw
  have h4 : (2 : Nat) ^ 1 ≤ 2 ^ w.toNat := Nat.pow_le_pow_right (by omega) hw1
  constructor
  · have : ((2 ^ w.toNat : Nat) : Int) < ((2 ^ 64 : Nat) : Int) := Int.ofNat_lt.2 h3
    simpa using this
  · have : ((2 ^ 1 : Nat) : Int) ≤ ((2 ^ w.toNat : Nat) : Int) := Int.ofNat_le.2 h4
    simpa using this
theorem wrap_pow {w : Int} (h1 : 1 ≤ w) (h2 : w < 64) : IntKind.u64.wrap (1 * 2 ^ (min (IntKind.u64.wrap w).toNat IntKind.u64.bits)) = 2 ^ w.toNat := by
  have hw : IntKind.u64.wrap w = w := wrap_id (by simp [IntKind.min, IntKind.signed, IntKind.bits]; omega) (by simp [IntKind.max, IntKind.signed, IntKind.bits]; omega)
  rw [hw]
  have hb : IntKind.u64.bits = 64 := rfl
  rw [hb, Nat.min_eq_left (by omega), Int.one_mul]
  obtain ⟨p1, p2⟩ := pow_lt64 h1 h2
  exact wrap_id (by simp [IntKind.min, IntKind.signed, IntKind.bits]; omega) (by simp [IntKind.max, IntKind.signed, IntKind.bits]; omega)
theorem c51 (w x : Int) (hx : 0 ≤ x) (H : Hp) : RR F.cadenceref01_Trim [.int .i64 w, .int .u64 x] H = some (.int .u64 (trimS w x), H) := by
  refine (r_cadenceref01_Trim E0 rfl _ _ _).trans ?_
  unfold m_cadenceref01_Trim trimS
  simp only [s_lss, s_geq, s_bool, s_br, decide_eq_true_eq, s_conv]
  by_cases h1 : w < 1
  · simp [h1]
  by_cases h2 : w ≥ 64
  · simp [h1, h2]
  simp only [h1, h2, if_false]
  have hw : IntKind.u64.wrap w = w := wrap_id (by simp [IntKind.min, IntKind.signed, IntKind.bits]; omega) (by simp [IntKind.max, IntKind.signed, IntKind.bits]; omega)
  obtain ⟨p1, p2⟩ := pow_lt64 (w := w) (by omega) (by omega)
  rw [s_shl _ _ _ _ _ (by rw [hw]; omega), wrap_pow (by omega) (by omega), s_rem _ _ _ _ (by omega), Int.tmod_eq_emod_of_nonneg hx]
theorem c45 (w x : Int) (hx : 0 ≤ x) (hx2 : x < 18446744073709551616) (H : Hp) : RR F.bits_Trim [.int .i64 w, .int .u64 x] H = some (.int .u64 (trimS w x), H) := by
  refine (r_bits_Trim E0 rfl _ _ _).trans ?_
  unfold m_bits_Trim trimS
  simp only [s_lss, s_geq, s_bool, s_br, decide_eq_true_eq, s_conv]
  by_cases h1 : w < 1
  · simp [h1]
  by_cases h2 : w ≥ 64
  · simp [h1, h2]
  simp only [h1, h2, if_false]
  have hw : IntKind.u64.wrap w = w := wrap_id (by simp [IntKind.min, IntKind.signed, IntKind.bits]; omega) (by simp [IntKind.max, IntKind.signed, IntKind.bits]; omega)
  obtain ⟨p1, p2⟩ := pow_lt64 (w := w) (by omega) (by omega)
  rw [s_shl _ _ _ _ _ (by rw [hw]; omega), wrap_pow (by omega) (by omega), s_sub, s_and]
  have hm : IntKind.u64.wrap (2 ^ w.toNat - 1) = 2 ^ w.toNat - 1 := wrap_id (by simp [IntKind.min, IntKind.signed, IntKind.bits]; omega) (by simp [IntKind.max, IntKind.signed, IntKind.bits]; omega)
  rw [hm]
  congr 3
  have hb : IntKind.u64.bits = 64 := rfl
  rw [hb]
  obtain ⟨X, rfl⟩ := Int.eq_ofNat_of_zero_le hx
  have e2 : (2 : Int) ^ w.toNat - 1 = ((2 ^ w.toNat - 1 : Nat) : Int) := by
    have : 1 ≤ (2 : Nat) ^ w.toNat := Nat.one_le_two_pow
    rw [Int.ofNat_sub this]; simp
  rw [e2]
  have e3 : BitVec.ofInt 64 ((X : Nat) : Int) = BitVec.ofNat 64 X := by simp
  have e4 : BitVec.ofInt 64 (((2 ^ w.toNat - 1 : Nat)) : Int) = BitVec.ofNat 64 (2 ^ w.toNat - 1) := by simp
  rw [e3, e4, BitVec.toNat_and, BitVec.toNat_ofNat, BitVec.toNat_ofNat]
  have hX : X < 2 ^ 64 := by have : (X : Int) < 18446744073709551616 := hx2; omega
  have h3 : (2 : Nat) ^ w.toNat < 2 ^ 64 := Nat.pow_lt_pow_right (by omega) (by omega)
  rw [Nat.mod_eq_of_lt hX, Nat.mod_eq_of_lt (by omega), Nat.and_two_pow_sub_one_eq_mod]
  have h4 : X % 2 ^ w.toNat ≤ X := Nat.mod_le _ _
  have h5 : ((X : Nat) : Int) % 2 ^ w.toNat = ((X % 2 ^ w.toNat : Nat) : Int) := by simp
  rw [h5]
  generalize X % 2 ^ w.toNat = Y at h4
  have m1 : IntKind.u64.min = 0 := rfl
  have m2 : IntKind.u64.max = 18446744073709551615 := rfl
  rw [wrap_id (by rw [m1]; omega) (by rw [m2]; omega)]
end Go.AM
/- The Term seat: OnesCount, Shifts. -/
set_option linter.unusedVariables false
set_option maxRecDepth 100000
set_option linter.unusedSimpArgs false
namespace Go.AM
open Go
def isPow (w : Int) : Bool := decide (w = 1 ∨ w = 2 ∨ w = 4 ∨ w = 8 ∨ w = 16 ∨ w = 32 ∨ w = 64)
def pops : List Int := [0, 1, 1, 2, 1, 2, 2, 3, 1, 2, 2, 3, 2, 3, 3, 4, 1, 2, 2, 3, 2, 3, 3, 4, 2, 3, 3, 4, 3, 4, 4, 5, 1, 2, 2, 3, 2, 3, 3, 4, 2, 3, 3, 4, 3, 4, 4, 5, 2, 3, 3, 4, 3, 4, 4, 5, 3, 4, 4, 5, 4, 5, 5, 6, 1]
theorem all58 (H : Hp) : (i : Nat) → i < 65 → m_bits_OnesCount64 RR (.int .u64 (i : Int)) H = some (.int .i64 (pops.getD i 0), H)
  | 0, _ => by kernel_rfl
  | 1, _ => by kernel_rfl
  | 2, _ => by kernel_rfl
  | 3, _ => by kernel_rfl
  | 4, _ => by kernel_rfl
  | 5, _ => by kernel_rfl
  | 6, _ => by kernel_rfl
  | 7, _ => by kernel_rfl
  | 8, _ => by kernel_rfl
  | 9, _ => by kernel_rfl
  | 10, _ => by kernel_rfl
  | 11, _ => by kernel_rfl
  | 12, _ => by kernel_rfl
  | 13, _ => by kernel_rfl
  | 14, _ => by kernel_rfl
  | 15, _ => by kernel_rfl
  | 16, _ => by kernel_rfl
  | 17, _ => by kernel_rfl
  | 18, _ => by kernel_rfl
  | 19, _ => by kernel_rfl
  | 20, _ => by kernel_rfl
  | 21, _ => by kernel_rfl
  | 22, _ => by kernel_rfl
  | 23, _ => by kernel_rfl
  | 24, _ => by kernel_rfl
  | 25, _ => by kernel_rfl
  | 26, _ => by kernel_rfl
  | 27, _ => by kernel_rfl
  | 28, _ => by kernel_rfl
  | 29, _ => by kernel_rfl
  | 30, _ => by kernel_rfl
  | 31, _ => by kernel_rfl
  | 32, _ => by kernel_rfl
  | 33, _ => by kernel_rfl
  | 34, _ => by kernel_rfl
  | 35, _ => by kernel_rfl
  | 36, _ => by kernel_rfl
  | 37, _ => by kernel_rfl
  | 38, _ => by kernel_rfl
  | 39, _ => by kernel_rfl
  | 40, _ => by kernel_rfl
  | 41, _ => by kernel_rfl
  | 42, _ => by kernel_rfl
  | 43, _ => by kernel_rfl
  | 44, _ => by kernel_rfl
  | 45, _ => by kernel_rfl
  | 46, _ => by kernel_rfl
  | 47, _ => by kernel_rfl
  | 48, _ => by kernel_rfl
  | 49, _ => by kernel_rfl
  | 50, _ => by kernel_rfl
  | 51, _ => by kernel_rfl
  | 52, _ => by kernel_rfl
  | 53, _ => by kernel_rfl
  | 54, _ => by kernel_rfl
  | 55, _ => by kernel_rfl
  | 56, _ => by kernel_rfl
  | 57, _ => by kernel_rfl
  | 58, _ => by kernel_rfl
  | 59, _ => by kernel_rfl
  | 60, _ => by kernel_rfl
  | 61, _ => by kernel_rfl
  | 62, _ => by kernel_rfl
  | 63, _ => by kernel_rfl
  | 64, _ => by kernel_rfl
  | n + 65, h => by omega
theorem c53 (w : Int) (h0 : 0 ≤ w) (h1 : w < 65) (H : Hp) : RR F.bits_OnesCount [.int .u64 w] H = some (.int .i64 (pops.getD w.toNat 0), H) := by
  refine (r_bits_OnesCount E0 rfl _ _).trans ?_
  unfold m_bits_OnesCount
  have : RR F.bits_OnesCount64 [.int .u64 w] H = some (.int .i64 (pops.getD w.toNat 0), H) := by
    refine (r_bits_OnesCount64 E0 rfl _ _).trans ?_
    obtain ⟨n, rfl⟩ := Int.eq_ofNat_of_zero_le h0
    exact all58 H n (by omega)
  rw [s_call this]
theorem pops_pow : (i : Nat) → i < 65 → decide (pops.getD i 0 = 1) = isPow (i : Int)
  | 0, _ => by kernel_rfl
  | 1, _ => by kernel_rfl
  | 2, _ => by kernel_rfl
  | 3, _ => by kernel_rfl
  | 4, _ => by kernel_rfl
  | 5, _ => by kernel_rfl
  | 6, _ => by kernel_rfl
  | 7, _ => by kernel_rfl
  | 8, _ => by kernel_rfl
  | 9, _ => by kernel_rfl
  | 10, _ => by kernel_rfl
  | 11, _ => by kernel_rfl
  | 12, _ => by kernel_rfl
  | 13, _ => by kernel_rfl
  | 14, _ => by kernel_rfl
  | 15, _ => by kernel_rfl
  | 16, _ => by kernel_rfl
  | 17, _ => by kernel_rfl
  | 18, _ => by kernel_rfl
  | 19, _ => by kernel_rfl
  | 20, _ => by kernel_rfl
  | 21, _ => by kernel_rfl
  | 22, _ => by kernel_rfl
  | 23, _ => by kernel_rfl
  | 24, _ => by kernel_rfl
  | 25, _ => by kernel_rfl
  | 26, _ => by kernel_rfl
  | 27, _ => by kernel_rfl
  | 28, _ => by kernel_rfl
  | 29, _ => by kernel_rfl
  | 30, _ => by kernel_rfl
  | 31, _ => by kernel_rfl
  | 32, _ => by kernel_rfl
  | 33, _ => by kernel_rfl
  | 34, _ => by kernel_rfl
  | 35, _ => by kernel_rfl
  | 36, _ => by kernel_rfl
  | 37, _ => by kernel_rfl
  | 38, _ => by kernel_rfl
  | 39, _ => by kernel_rfl
  | 40, _ => by kernel_rfl
  | 41, _ => by kernel_rfl
  | 42, _ => by kernel_rfl
  | 43, _ => by kernel_rfl
  | 44, _ => by kernel_rfl
  | 45, _ => by kernel_rfl
  | 46, _ => by kernel_rfl
  | 47, _ => by kernel_rfl
  | 48, _ => by kernel_rfl
  | 49, _ => by kernel_rfl
  | 50, _ => by kernel_rfl
  | 51, _ => by kernel_rfl
  | 52, _ => by kernel_rfl
  | 53, _ => by kernel_rfl
  | 54, _ => by kernel_rfl
  | 55, _ => by kernel_rfl
  | 56, _ => by kernel_rfl
  | 57, _ => by kernel_rfl
  | 58, _ => by kernel_rfl
  | 59, _ => by kernel_rfl
  | 60, _ => by kernel_rfl
  | 61, _ => by kernel_rfl
  | 62, _ => by kernel_rfl
  | 63, _ => by kernel_rfl
  | 64, _ => by kernel_rfl
  | n + 65, h => by omega
theorem c55 (w : Int) (H : Hp) : RR F.cadenceref01_Shifts [.int .i64 w] H = some (.bool (isPow w), H) := by
  refine (r_cadenceref01_Shifts E0 rfl _ _).trans ?_
  unfold m_cadenceref01_Shifts
  generalize hS : (fun (l1 : List Value) (H2 : Hp) =>
    pBin PP .leq T.int (l1.getD 0 undef) (.int .i64 64) fun v3 =>
    pBool v3 fun b4 => br b4
    (pBin PP .eql T.int (.int .i64 w) (l1.getD 0 undef) fun v5 =>
    pBool v5 fun b6 => br b6
    (some (Ctl.ret, [(Value.bool true)], H2))
    (pBin PP .mul T.int (.int .i64 2) (l1.getD 0 undef) fun v7 =>
    some (.next, [v7], H2)))
    (some (.exit 0, [(l1.getD 0 undef)], H2))) = S
  have hL : ∀ k : Int, loopD S [.int .i64 k] H = if k ≤ 64 then (if w = k then some (.ret, [.bool true], H) else loopD S [.int .i64 (IntKind.i64.wrap (2 * k))] H) else some (.exit 0, [.int .i64 k], H) := by
    intro k
    rw [loopD_eq]
    have : S [.int .i64 k] H = if k ≤ 64 then (if w = k then some (.ret, [.bool true], H) else some (.next, [.int .i64 (IntKind.i64.wrap (2 * k))], H)) else some (.exit 0, [.int .i64 k], H) := by
      rw [← hS]
      simp only [s_leq, s_eql, s_mul, s_bool, s_br, List.getD_cons_zero, decide_eq_true_eq]
    rw [this]
    split
    · split <;> rfl
    · rfl
  have w1 : IntKind.i64.wrap (2 * 1) = 2 := by decide
  have w2 : IntKind.i64.wrap (2 * 2) = 4 := by decide
  have w3 : IntKind.i64.wrap (2 * 4) = 8 := by decide
  have w4 : IntKind.i64.wrap (2 * 8) = 16 := by decide
  have w5 : IntKind.i64.wrap (2 * 16) = 32 := by decide
  have w6 : IntKind.i64.wrap (2 * 32) = 64 := by decide
  have w7 : IntKind.i64.wrap (2 * 64) = 128 := by decide
  have l1 := hL 1
  rw [if_pos (show (1 : Int) ≤ 64 by decide), w1] at l1
  have l2 := hL 2
  rw [if_pos (show (2 : Int) ≤ 64 by decide), w2] at l2
  have l4 := hL 4
  rw [if_pos (show (4 : Int) ≤ 64 by decide), w3] at l4
  have l8 := hL 8
  rw [if_pos (show (8 : Int) ≤ 64 by decide), w4] at l8
  have l16 := hL 16
  rw [if_pos (show (16 : Int) ≤ 64 by decide), w5] at l16
  have l32 := hL 32
  rw [if_pos (show (32 : Int) ≤ 64 by decide), w6] at l32
  have l64 := hL 64
  rw [if_pos (show (64 : Int) ≤ 64 by decide), w7] at l64
  have l128 := hL 128
  rw [if_neg (show ¬ (128 : Int) ≤ 64 by decide)] at l128
  rw [l1, l2, l4, l8, l16, l32, l64, l128]
  simp only [s_bind_ite, s_bind, s_ret, s_exit, s_onExit, s_head]
  unfold isPow
  by_cases h1 : w = 1
  · simp [h1]
  by_cases h2 : w = 2
  · simp [h2]
  by_cases h3 : w = 4
  · simp [h3]
  by_cases h4 : w = 8
  · simp [h4]
  by_cases h5 : w = 16
  · simp [h5]
  by_cases h6 : w = 32
  · simp [h6]
  by_cases h7 : w = 64
  · simp [h7]
  simp [h1, h2, h3, h4, h5, h6, h7]
end Go.AM
/- The Term seat: widths. -/
set_option linter.unusedVariables false
set_option maxRecDepth 100000
set_option linter.unusedSimpArgs false
namespace Go.AM
open Go
def widthOf (n : Nd) (a b : Int) : Bool :=
  if n.op = 1 ∨ n.op = 2 ∨ (5 ≤ n.op ∧ n.op ≤ 13) then decide (n.w = 0)
  else if n.op = 3 then decide (n.w > 0) && decide (trimS n.w n.num = n.num)
  else if n.op = 4 then true
  else if n.op = 14 then decide (n.w = b)
  else if 25 ≤ n.op ∧ n.op ≤ 29 then decide (n.w = a) && isPow a
  else if n.op = 30 then decide (n.w = a + b)
  else if n.op = 31 then decide (n.w ≥ 1) && decide (n.w ≤ a) && decide (n.num ≤ a - n.w)
  else if n.op = 32 ∨ n.op = 33 then decide (n.w ≥ a)
  else decide (n.w = a)
/-- The fields' ranges. -/
structure Nd.Ok (n : Nd) : Prop where
  w0 : 0 ≤ n.w
  w1 : n.w ≤ 64
  o1 : 1 ≤ n.op
  o2 : n.op ≤ 33
  n0 : 0 ≤ n.num
  n1 : n.num < 18446744073709551616
theorem i64_wrap {x : Int} (h1 : -9223372036854775808 ≤ x) (h2 : x ≤ 9223372036854775807) : IntKind.i64.wrap x = x := wrap_id (by have : IntKind.i64.min = -9223372036854775808 := rfl; omega) (by have : IntKind.i64.max = 9223372036854775807 := rfl; omega)
theorem u64_wrap {x : Int} (h1 : 0 ≤ x) (h2 : x ≤ 18446744073709551615) : IntKind.u64.wrap x = x := wrap_id (by have : IntKind.u64.min = 0 := rfl; omega) (by have : IntKind.u64.max = 18446744073709551615 := rfl; omega)
section
variable {H : Hp} {p f g : Nat} {lim : Int} {L : List Nd} {sl : Value}
theorem c43 (hs : StR H p lim L sl f g) (hL : (L.length : Int) ≤ 4611686018427387904) (n : Nd) (hn : n.Ok)
    (ha : -1 ≤ wT L (-1) n.a ∧ wT L (-1) n.a ≤ 64) (hb : -1 ≤ wT L (-1) n.b ∧ wT L (-1) n.b ≤ 64) (hsort : n.op ≥ 15 → wT L (-1) n.a > 0) :
    RR F.term_Store_wide [.pointer (some ⟨p, 0, none⟩), n.val] H = some (.bool (widthOf n (wT L (-1) n.a) (wT L (-1) n.b)), H) := by
  refine (r_term_Store_wide E0 rfl _ _ _).trans ?_
  unfold m_term_Store_wide
  have ht := c45 n.w n.num hn.n0 hn.n1 H
  simp only [n0, n1, n2, n3, n5, s_call (c40 hs hL), s_eql, s_gtr, s_geq, s_leq, s_bool, s_br, s_bind, s_bind_ite, s_next, s_exit, s_ret, s_onExit, s_head, List.getD_cons_zero, decide_eq_true_eq, if_true, s_conv, s_sub, s_add, s_call ht]
  unfold widthOf
  generalize wT L (-1) n.a = a at *
  generalize wT L (-1) n.b = b at *
  have o1 := hn.o1
  have o2 := hn.o2
  by_cases h1 : n.op = 1
  · simp [h1]
  by_cases h2 : n.op = 2
  · simp [h2]
  by_cases h5 : 5 ≤ n.op ∧ n.op ≤ 13
  · have q : n.op ≥ 5 := h5.1
    simp only [h1, h2, h5, q, if_true, if_false, and_self, or_true, decide_true]
  have hc : ¬ (n.op = 1 ∨ n.op = 2 ∨ 5 ≤ n.op ∧ n.op ≤ 13) := by omega
  simp only [hc, h1, h2, if_false]
  by_cases h3 : n.op = 3
  · have q : ¬ n.op ≥ 5 := by omega
    have q2 : ¬ (3 : Int) ≥ 5 := by decide
    simp only [h3, q2, if_true, if_false, Bool.false_eq_true]
    by_cases q : n.w > 0 <;> simp [q]
  by_cases h4 : n.op = 4
  · have q2 : ¬ (4 : Int) ≥ 5 := by decide
    have q3 : ¬ (4 : Int) = 3 := by decide
    simp only [h4, q2, q3, if_true, if_false, Bool.false_eq_true]
    simp
  have g5 : n.op ≥ 5 := by omega
  have g13 : ¬ n.op ≤ 13 := by omega
  simp only [g5, g13, h3, h4, if_true, if_false, decide_false, Bool.false_eq_true]
  by_cases h14 : n.op = 14
  · simp only [h14, if_true]
    simp
  simp only [h14, if_false]
  have hap := hsort (by omega)
  by_cases h25 : 25 ≤ n.op ∧ n.op ≤ 29
  · have q : n.op ≥ 25 := h25.1
    have e : RR F.bits_OnesCount [.int .u64 (IntKind.u64.wrap a)] H = some (.int .i64 (pops.getD a.toNat 0), H) := by
      rw [u64_wrap (by omega) (by omega)]
      exact c53 a (by omega) (by omega) H
    have e2 := pops_pow a.toNat (by omega)
    have e3 : ((a.toNat : Nat) : Int) = a := Int.toNat_of_nonneg (by omega)
    rw [e3] at e2
    simp only [q, h25.2, if_true, decide_true, s_call e, s_eql, e2, and_self]
    by_cases q : n.w = a <;> simp [q, h25.1]
  simp only [h25, if_false]
  have hA : (if n.op ≥ 25 then some (Ctl.next, [Value.bool (decide (n.op ≤ 29))], H) else some (Ctl.next, [Value.bool false], H)) = some (Ctl.next, [Value.bool false], H) := by
    by_cases q : n.op ≥ 25
    · have : ¬ n.op ≤ 29 := by omega
      simp [q, this]
    · simp [q]
  have w1 : IntKind.i64.wrap (a + b) = a + b := i64_wrap (by omega) (by omega)
  have w0 := hn.w0
  have w64 := hn.w1
  have w2 : IntKind.i64.wrap (a - n.w) = a - n.w := i64_wrap (by omega) (by omega)
  by_cases q25 : n.op ≥ 25
  · have q29 : ¬ n.op ≤ 29 := by omega
    simp only [q25, q29, if_true, if_false, decide_false, Bool.false_eq_true, w1, w2]
    by_cases h30 : n.op = 30
    · simp only [h30, if_true]
      try simp
    simp only [h30, if_false]
    by_cases h31 : n.op = 31
    · simp only [h31, if_true]
      by_cases k1 : n.w ≥ 1
      · by_cases k2 : n.w ≤ a
        · have k3 : IntKind.u64.wrap (a - n.w) = a - n.w := u64_wrap (by omega) (by omega)
          simp [k1, k2, k3]
        · simp [k1, k2]
      · simp [k1]
    simp only [h31, if_false]
    by_cases h32 : n.op = 32
    · simp [h32]
    by_cases h33 : n.op = 33
    · simp [h33]
    omega
  · have h30 : ¬ n.op = 30 := by omega
    have h31 : ¬ n.op = 31 := by omega
    have h32 : ¬ n.op = 32 := by omega
    have h33 : ¬ n.op = 33 := by omega
    simp only [q25, h30, h31, h32, h33, if_false, or_self, Bool.false_eq_true]
    simp
end
end Go.AM
/- The Term seat: widths, the document's. -/
set_option linter.unusedVariables false
set_option maxRecDepth 100000
set_option linter.unusedSimpArgs false
namespace Go.AM
open Go
section
variable {H : Hp} {p f g : Nat} {lim : Int} {L : List Nd} {sl : Value}
theorem c49 (hs : StR H p lim L sl f g) (hL : (L.length : Int) ≤ 4611686018427387904) (n : Nd) (hn : n.Ok)
    (pa : partsT n.op ≥ 1 → isT L n.a = true) (pb : partsT n.op ≥ 2 → isT L n.b = true)
    (ha : -1 ≤ wT L (-1) n.a ∧ wT L (-1) n.a ≤ 64) (hb : -1 ≤ wT L (-1) n.b ∧ wT L (-1) n.b ≤ 64) :
    RR F.cadenceref07_Store_width [.pointer (some ⟨p, 0, none⟩), n.val] H = some (.bool (widthOf n (wT L (-1) n.a) (wT L (-1) n.b)), H) := by
  refine (r_cadenceref07_Store_width E0 rfl _ _ _).trans ?_
  unfold m_cadenceref07_Store_width
  have ht := c51 n.w n.num hn.n0 H
  have o1 := hn.o1
  have o2 := hn.o2
  have w0 := hn.w0
  have w64 := hn.w1
  have ka := fun h => c54 hs hL (pa h) (-1)
  have kb := fun h => c54 hs hL (pb h) (-1)
  simp only [n0, n1, n2, n3, n5, s_eql, s_gtr, s_geq, s_leq, s_bool, s_br, s_bind, s_bind_ite, s_next, s_exit, s_ret, s_onExit, s_head, List.getD_cons_zero, decide_eq_true_eq, if_true, s_conv, s_sub, s_add, s_call ht]
  unfold widthOf
  by_cases h2 : n.op ≤ 2
  · have q : n.op = 1 ∨ n.op = 2 ∨ 5 ≤ n.op ∧ n.op ≤ 13 := by omega
    simp only [h2, q, if_true]
  by_cases h5 : 5 ≤ n.op ∧ n.op ≤ 13
  · have q : n.op ≥ 5 := h5.1
    have q2 : n.op = 1 ∨ n.op = 2 ∨ 5 ≤ n.op ∧ n.op ≤ 13 := by omega
    simp only [h2, q, h5.2, q2, if_true, if_false, decide_true]
    try simp
  have hc : ¬ (n.op = 1 ∨ n.op = 2 ∨ 5 ≤ n.op ∧ n.op ≤ 13) := by omega
  have hmid : (if n.op ≥ 5 then decide (n.op ≤ 13) else false) = false := by
    by_cases q : n.op ≥ 5
    · have : ¬ n.op ≤ 13 := by omega
      simp [q, this]
    · simp [q]
  simp only [hc, h2, if_false]
  have key : ∀ x : Option (Value × Hp), (if n.op ≥ 5 then (if n.op ≤ 13 then some (Value.bool (decide (n.w = 0)), H) else x) else (if (false : Bool) = true then some (Value.bool (decide (n.w = 0)), H) else x)) = x := fun x => by
    by_cases q : n.op ≥ 5
    · have : ¬ n.op ≤ 13 := by omega
      simp [q, this]
    · simp [q]
  rw [key]
  by_cases h3 : n.op = 3
  · simp only [h3, if_true]
    by_cases q : n.w ≥ 1
    · have : n.w > 0 := by omega
      simp [q, this]
    · have : ¬ n.w > 0 := by omega
      simp [q, this]
  by_cases h4 : n.op = 4
  · simp only [h3, h4, if_true, if_false]
    try simp
  simp only [h3, h4, if_false]
  by_cases h14 : n.op = 14
  · have hB := kb (by unfold partsT; rw [h14]; decide)
    simp only [h14, if_true, s_call hB, s_eql]
  have hA := ka (by unfold partsT; split <;> first | omega | (split <;> first | omega | (split <;> omega)))
  simp only [h14, if_false]
  generalize hga : wT L (-1) n.a = a at *
  by_cases h30 : n.op = 30
  · have hB := kb (by unfold partsT; rw [h30]; decide)
    have q25 : ¬ (25 ≤ n.op ∧ n.op ≤ 29) := by omega
    have e : IntKind.i64.wrap (a + wT L (-1) n.b) = a + wT L (-1) n.b := i64_wrap (by omega) (by omega)
    simp only [q25, if_false]
    simp only [h30, if_true, s_call hA, s_call hB, s_eql, s_add, e]
  simp only [h30, if_false]
  by_cases h31 : n.op = 31
  · have q25 : ¬ (25 ≤ n.op ∧ n.op ≤ 29) := by omega
    simp only [q25, if_false]
    simp only [h31, if_true, s_call hA, s_leq]
    by_cases k1 : n.w ≥ 1
    · simp only [k1, if_true, decide_true, Bool.true_and]
      by_cases k2 : n.num ≤ 64
      · have n0 := hn.n0
        have e1 : IntKind.i64.wrap n.num = n.num := i64_wrap (by omega) (by omega)
        have e2 : IntKind.i64.wrap (n.num + n.w) = n.num + n.w := i64_wrap (by omega) (by omega)
        simp only [k2, if_true, e1, e2]
        congr 2
        congr 1
        rw [Bool.eq_iff_iff]
        simp
        omega
      · simp only [k2, if_false]
        congr 2
        congr 1
        rw [Bool.eq_iff_iff]
        simp
        omega
    · simp [k1]
  simp only [h31, if_false]
  by_cases h32 : n.op ≥ 32
  · have q25 : ¬ (25 ≤ n.op ∧ n.op ≤ 29) := by omega
    have q : n.op = 32 ∨ n.op = 33 := by omega
    simp only [q25, q, h32, if_false, if_true, s_call hA, s_geq]
  have q3 : ¬ (n.op = 32 ∨ n.op = 33) := by omega
  simp only [h32, q3, if_false]
  by_cases h25 : n.op ≥ 25
  · have q : 25 ≤ n.op ∧ n.op ≤ 29 := by omega
    simp only [h25, q, if_true, s_call hA, s_eql, s_bool, s_br, decide_eq_true_eq, s_call (c55 n.w H), and_self]
    by_cases k : n.w = a
    · simp [k, q.1]
    · simp [k, q.1]
  · have q : ¬ (25 ≤ n.op ∧ n.op ≤ 29) := by omega
    simp only [h25, q, if_false, s_call hA, s_eql]
    try simp
end
end Go.AM
/- The Term seat: names, the document's. -/
set_option linter.unusedVariables false
set_option maxRecDepth 100000
set_option linter.unusedSimpArgs false
namespace Go.AM
open Go
def letter (x : Int) : Bool := (decide (x ≥ 97) && decide (x ≤ 122)) || (decide (x ≥ 65) && decide (x ≤ 90)) || decide (x = 95)
def digit (x : Int) : Bool := !(decide (x < 48)) && !(decide (x > 57))
theorem c56 (x : Int) (H : Hp) : RR F.cadenceref01_Letter [.int .u8 x] H = some (.bool (letter x), H) := by
  refine (r_cadenceref01_Letter E0 rfl _ _).trans ?_
  unfold m_cadenceref01_Letter letter
  simp only [s_leq, s_geq, s_eql, s_bool, s_br, s_ite]
  congr 2
  congr 1
  generalize decide (x ≥ 97) = b1
  generalize decide (x ≤ 122) = b2
  generalize decide (x ≥ 65) = b3
  generalize decide (x ≤ 90) = b4
  generalize decide (x = 95) = b5
  cases b1 <;> cases b2 <;> cases b3 <;> cases b4 <;> cases b5 <;> rfl
def okByte (b : UInt8) : Bool := letter (b.toNat : Int) || digit (b.toNat : Int)
def nameOk (s : ByteArray) : Bool := decide (s.size ≥ 1) && decide (s.size ≤ 24) && (s.data.toList.head?.any fun b => letter (b.toNat : Int)) && (s.data.toList.drop 1).all okByte
theorem s_at {α : Type} (s : ByteArray) (i : Nat) (b : UInt8) (h : s.data.toList[i]? = some b) (k : Value → Option α) : pAtStr (.string s) (.int .i64 (i : Int)) k = k (.int .u8 (b.toNat : Int)) := by
  have hs : s[i]? = some b := by
    have hl : i < s.data.toList.length := (List.getElem?_eq_some_iff.1 h).1
    have hl' : i < s.size := by simpa using hl
    rw [getElem?_pos s i hl']
    rw [List.getElem?_eq_getElem hl] at h
    have : s[i] = s.data[i]'(by simpa using hl) := rfl
    rw [this]
    simpa using h
  unfold pAtStr atStr
  have h0 : (0 : Int) ≤ (i : Int) := by omega
  simp only [h0, if_true, Int.toNat_natCast, hs, Option.map_some]
theorem s_slen {α : Type} (s : ByteArray) (H : Hp) (k : Value → Option α) : pLen .str (.string s) H k = k (.int .i64 s.size) := rfl
theorem c50 (s : ByteArray) (H : Hp) : RR F.cadenceref01_Name [.string s] H = some (.bool (nameOk s), H) := by
  refine (r_cadenceref01_Name E0 rfl _ _).trans ?_
  unfold m_cadenceref01_Name
  generalize hS : (fun (l16 : List Value) (H17 : Hp) =>
 pLen .str (.string s) H17 fun v18 =>
 pBin PP .lss T.int (l16.getD 0 undef) v18 fun v19 =>
 pBool v19 fun b20 => br b20
 (pAtStr (.string s) (l16.getD 0 undef) fun v21 =>
 pCallF RR F.cadenceref01_Letter [v21] H17 fun r22 H23 =>
 pUn .not r22 fun v24 =>
 pBool v24 fun b25 => br b25
 (pAtStr (.string s) (l16.getD 0 undef) fun v26 =>
 pBin PP .lss T.uint8 v26 (.int .u8 48) fun v27 =>
 pBool v27 fun b28 => br b28
 (some (Ctl.ret, [(.bool false)], H23))
 (pAtStr (.string s) (l16.getD 0 undef) fun v29 =>
 pBin PP .gtr T.uint8 v29 (.int .u8 57) fun v30 =>
 pBool v30 fun b31 => br b31
 (some (Ctl.ret, [(.bool false)], H23))
 (pBin PP .add T.int (l16.getD 0 undef) (.int .i64 1) fun v32 =>
 some (.next, [v32], H23))))
 (pBin PP .add T.int (l16.getD 0 undef) (.int .i64 1) fun v33 =>
 some (.next, [v33], H23)))
 (some (.exit 0, [(l16.getD 0 undef)], H17))) = S
  have hlen : s.data.toList.length = s.size := by simp
  have hstep : ∀ (i : Nat) (b : UInt8), i ≤ 100 → s.size ≤ 100 → s.data.toList[i]? = some b → S [.int .i64 (i : Int)] H = if okByte b = true then some (.next, [.int .i64 ((i + 1 : Nat) : Int)], H) else some (.ret, [.bool false], H) := by
    intro i b hi hsz hb
    have hl : i < s.data.toList.length := (List.getElem?_eq_some_iff.1 hb).1
    have hlt : ((i : Nat) : Int) < (s.size : Int) := by omega
    rw [← hS]
    have hw : IntKind.i64.wrap ((i : Int) + 1) = ((i + 1 : Nat) : Int) := by rw [i64_wrap (by omega) (by omega)]; simp
    simp only [s_slen, s_lss, s_gtr, s_bool, s_br, decide_eq_true_eq, List.getD_cons_zero, hlt, if_true, s_at s i b hb, s_call (c56 _ H), s_not, s_add, hw]
    unfold okByte digit
    cases letter (b.toNat : Int) with
    | true => simp
    | false =>
      by_cases q1 : (b.toNat : Int) < 48
      · simp [q1]
      · by_cases q2 : (b.toNat : Int) > 57
        · simp [q1, q2]
        · simp [q1, q2]
  have hend : S [.int .i64 (s.size : Int)] H = some (.exit 0, [.int .i64 (s.size : Int)], H) := by
    rw [← hS]
    simp only [s_slen, s_lss, s_bool, s_br, decide_eq_true_eq, List.getD_cons_zero, Int.lt_irrefl, if_false]
  have hloop : s.size ≤ 100 → ∀ (r : List UInt8) (i : Nat), s.data.toList.drop i = r → i ≤ s.size → loopD S [.int .i64 (i : Int)] H = if r.all okByte = true then some (.exit 0, [.int .i64 (s.size : Int)], H) else some (.ret, [.bool false], H) := by
    intro hsz r
    induction r with
    | nil =>
      intro i hd hi
      have : s.data.toList.length ≤ i := by simpa using hd
      have : i = s.size := by omega
      subst this
      rw [loopD_eq, hend]
      simp [nextD]
    | cons b r ih =>
      intro i hd hi
      have hb : s.data.toList[i]? = some b := by
        have : (s.data.toList.drop i)[0]? = some b := by rw [hd]; rfl
        rw [List.getElem?_drop] at this; simpa using this
      have hl : i < s.data.toList.length := (List.getElem?_eq_some_iff.1 hb).1
      have hd' : s.data.toList.drop (i + 1) = r := by rw [← List.drop_drop, hd]; rfl
      rw [loopD_eq, hstep i b (by omega) hsz hb]
      cases hk : okByte b with
      | true =>
        simp only [if_true, Option.bind_some, nextD]
        rw [ih (i + 1) hd' (by omega)]
        simp [hk]
      | false => simp [hk, nextD]
  simp only [s_slen, s_lss, s_gtr, s_bool, s_br, decide_eq_true_eq]
  unfold nameOk
  by_cases h1 : (s.size : Int) < 1
  · have : ¬ s.size ≥ 1 := by omega
    simp [h1, this, s_bind, s_ret]
  by_cases h2 : (s.size : Int) > 24
  · have : ¬ s.size ≤ 24 := by omega
    simp [h1, h2, this, s_bind, s_ret]
  have g1 : s.size ≥ 1 := by omega
  have g2 : s.size ≤ 24 := by omega
  obtain ⟨c, r, hcr⟩ : ∃ c r, s.data.toList = c :: r := by
    cases hq : s.data.toList with
    | nil => rw [hq] at hlen; simp at hlen; omega
    | cons c r => exact ⟨c, r, rfl⟩
  simp only [h1, h2, if_false]
  have h0 : s.data.toList[0]? = some c := by rw [hcr]; rfl
  have ha := fun (k : Value → Option Outc) => s_at s 0 c h0 k
  simp only [Int.natCast_zero] at ha
  rw [ha, s_call (c56 _ H)]
  simp only [s_not, s_bool, s_br]
  have hd1 : s.data.toList.drop 1 = r := by rw [hcr]; rfl
  have hlp := hloop (by omega) r 1 hd1 g1
  simp only [Int.natCast_one] at hlp
  rw [hd1, hcr]
  cases hc : letter (c.toNat : Int) with
  | false => simp [g1, g2, hc, s_bind, s_ret]
  | true =>
    simp only [Bool.not_true, Bool.false_eq_true, if_false, s_bind, s_next, hlp]
    cases r.all okByte with
    | true => simp [g1, g2, hc, s_bind, s_exit, s_onExit]
    | false => simp [g1, g2, hc, s_bind, s_ret]
end Go.AM
/- The Term seat: names, the program's. -/
set_option linter.unusedVariables false
set_option maxRecDepth 100000
set_option linter.unusedSimpArgs false
namespace Go.AM
open Go
theorem letter_high {x : Int} (h : 128 ≤ x) : letter x = false := by
  unfold letter
  have h1 : ¬ x ≤ 122 := by omega
  have h2 : ¬ x ≤ 90 := by omega
  have h3 : ¬ x = 95 := by omega
  simp [h1, h2, h3]
theorem digit_high {x : Int} (h : 128 ≤ x) : digit x = false := by
  unfold digit
  have h1 : x > 57 := by omega
  simp [h1]
theorem c44 (s : ByteArray) (H : Hp) : RR F.bits_Name [.string s] H = some (.bool (nameOk s), H) := by
  refine (r_bits_Name E0 rfl _ _).trans ?_
  unfold m_bits_Name
  generalize hS : (fun (l12 : List Value) (H13 : Hp) =>
 br (Nat.blt (posOf ((l12.drop 0).getD 0 undef)) (strOf ((l12.drop 0).getD 0 undef)).size)
 (bindO (
 pBin PP .geq T.int32 (.int .i32 (Utf8.decode (strOf ((l12.drop 0).getD 0 undef)) (posOf ((l12.drop 0).getD 0 undef))).1) (.int .i32 97) fun v14 =>
 pBool v14 fun b15 => br b15
 (pBin PP .leq T.int32 (.int .i32 (Utf8.decode (strOf ((l12.drop 0).getD 0 undef)) (posOf ((l12.drop 0).getD 0 undef))).1) (.int .i32 122) fun v16 =>
 pBool v16 fun b17 => br b17
 (some (Ctl.next, [(.bool true)], H13))
 (pBin PP .geq T.int32 (.int .i32 (Utf8.decode (strOf ((l12.drop 0).getD 0 undef)) (posOf ((l12.drop 0).getD 0 undef))).1) (.int .i32 65) fun v18 =>
 pBool v18 fun b19 => br b19
 (pBin PP .leq T.int32 (.int .i32 (Utf8.decode (strOf ((l12.drop 0).getD 0 undef)) (posOf ((l12.drop 0).getD 0 undef))).1) (.int .i32 90) fun v20 =>
 pBool v20 fun b21 => br b21
 (some (Ctl.next, [(.bool true)], H13))
 (pBin PP .eql T.int32 (.int .i32 (Utf8.decode (strOf ((l12.drop 0).getD 0 undef)) (posOf ((l12.drop 0).getD 0 undef))).1) (.int .i32 95) fun v22 =>
 some (Ctl.next, [v22], H13)))
 (pBin PP .eql T.int32 (.int .i32 (Utf8.decode (strOf ((l12.drop 0).getD 0 undef)) (posOf ((l12.drop 0).getD 0 undef))).1) (.int .i32 95) fun v23 =>
 some (Ctl.next, [v23], H13))))
 (pBin PP .geq T.int32 (.int .i32 (Utf8.decode (strOf ((l12.drop 0).getD 0 undef)) (posOf ((l12.drop 0).getD 0 undef))).1) (.int .i32 65) fun v24 =>
 pBool v24 fun b25 => br b25
 (pBin PP .leq T.int32 (.int .i32 (Utf8.decode (strOf ((l12.drop 0).getD 0 undef)) (posOf ((l12.drop 0).getD 0 undef))).1) (.int .i32 90) fun v26 =>
 pBool v26 fun b27 => br b27
 (some (Ctl.next, [(.bool true)], H13))
 (pBin PP .eql T.int32 (.int .i32 (Utf8.decode (strOf ((l12.drop 0).getD 0 undef)) (posOf ((l12.drop 0).getD 0 undef))).1) (.int .i32 95) fun v28 =>
 some (Ctl.next, [v28], H13)))
 (pBin PP .eql T.int32 (.int .i32 (Utf8.decode (strOf ((l12.drop 0).getD 0 undef)) (posOf ((l12.drop 0).getD 0 undef))).1) (.int .i32 95) fun v29 =>
 some (Ctl.next, [v29], H13)))) fun q30 l31 H32 => onCtl q30
 (pUn .not (l31.getD 0 undef) fun v34 =>
 pBool v34 fun b35 => br b35
 (pBin PP .eql T.int (.int .i64 ((posOf ((l12.drop 0).getD 0 undef)) : Nat)) (.int .i64 0) fun v36 =>
 pBool v36 fun b37 => br b37
 (some (Ctl.ret, [(.bool false)], H32))
 (pBin PP .lss T.int32 (.int .i32 (Utf8.decode (strOf ((l12.drop 0).getD 0 undef)) (posOf ((l12.drop 0).getD 0 undef))).1) (.int .i32 48) fun v38 =>
 pBool v38 fun b39 => br b39
 (some (Ctl.ret, [(.bool false)], H32))
 (pBin PP .gtr T.int32 (.int .i32 (Utf8.decode (strOf ((l12.drop 0).getD 0 undef)) (posOf ((l12.drop 0).getD 0 undef))).1) (.int .i32 57) fun v40 =>
 pBool v40 fun b41 => br b41
 (some (Ctl.ret, [(.bool false)], H32))
 (some (Ctl.next, [(.tuple #[.string (strOf ((l12.drop 0).getD 0 undef)), .int .i64 (((posOf ((l12.drop 0).getD 0 undef)) + (Utf8.decode (strOf ((l12.drop 0).getD 0 undef)) (posOf ((l12.drop 0).getD 0 undef))).2) : Nat)])], H32)))))
 (some (Ctl.next, [(.tuple #[.string (strOf ((l12.drop 0).getD 0 undef)), .int .i64 (((posOf ((l12.drop 0).getD 0 undef)) + (Utf8.decode (strOf ((l12.drop 0).getD 0 undef)) (posOf ((l12.drop 0).getD 0 undef))).2) : Nat)])], H32)))
 (fun i33 => onExit i33 1 (
 some (Ctl.next, [(.tuple #[.string (strOf ((l12.drop 0).getD 0 undef)), .int .i64 (((posOf ((l12.drop 0).getD 0 undef)) + (Utf8.decode (strOf ((l12.drop 0).getD 0 undef)) (posOf ((l12.drop 0).getD 0 undef))).2) : Nat)])], H32)) (
 some (Ctl.exit i33, [(.tuple #[.string (strOf ((l12.drop 0).getD 0 undef)), .int .i64 (((posOf ((l12.drop 0).getD 0 undef)) + (Utf8.decode (strOf ((l12.drop 0).getD 0 undef)) (posOf ((l12.drop 0).getD 0 undef))).2) : Nat)])], H32)))
 (some (Ctl.ret, [(l31.headD undef)], H32)))
 (some (Ctl.exit 0, [(.tuple #[.string (strOf ((l12.drop 0).getD 0 undef)), .int .i64 ((posOf ((l12.drop 0).getD 0 undef)) : Nat)])], H13))) = S
  have hlen : s.data.toList.length = s.size := by simp
  have hstep : ∀ (i : Nat) (b : UInt8), s.data.toList[i]? = some b → S [.tuple #[.string s, .int .i64 (i : Nat)]] H =
      if (letter (b.toNat : Int) || (decide (i ≠ 0) && digit (b.toNat : Int))) = true then some (.next, [.tuple #[.string s, .int .i64 ((i + 1 : Nat))]], H) else some (.ret, [.bool false], H) := by
    intro i b hb
    have hl : i < s.data.toList.length := (List.getElem?_eq_some_iff.1 hb).1
    have hi : i < s.size := by omega
    have hsb : s[i]'hi = b := by
      have : s[i] = s.data[i]'(by simpa using hl) := rfl
      rw [this]
      rw [List.getElem?_eq_getElem hl] at hb
      simpa using hb
    have e1 : strOf (.tuple #[.string s, .int .i64 (i : Nat)]) = s := rfl
    have e2 : posOf (.tuple #[.string s, .int .i64 (i : Nat)]) = i := by simp [posOf]
    have e3 : Nat.blt i s.size = true := Nat.ble_eq_true_of_le hi
    have e4 : ((i : Nat) : Int) = 0 ↔ i = 0 := by omega
    rw [← hS]
    simp only [List.drop_zero, List.getD_cons_zero, e1, e2, e3]
    simp only [s_geq, s_leq, s_eql, s_lss, s_gtr, s_bool, s_br, s_bind, s_bind_ite, s_next, s_not, List.getD_cons_zero, if_true, decide_eq_true_eq, e4]
    by_cases hasc : b.toNat < 128
    · have hd := decode_ascii s i hi (by rw [hsb]; exact hasc)
      rw [hsb] at hd
      simp only [hd]
      unfold letter digit
      generalize ((b.toNat : Nat) : Int) = x
      by_cases a1 : x ≥ 97 <;> by_cases a2 : x ≤ 122 <;> by_cases a3 : x ≥ 65 <;> by_cases a4 : x ≤ 90 <;> by_cases a5 : x = 95 <;> by_cases a6 : i = 0 <;> simp [a1, a2, a3, a4, a5, a6] <;>
        (by_cases a7 : x < 48 <;> by_cases a8 : x > 57 <;> simp [a7, a8])
    · have hd := decode_high s i hi (by rw [hsb]; omega)
      generalize Utf8.decode s i = q at hd ⊢
      obtain ⟨r, wd⟩ := q
      have k1 : ¬ ((r : Nat) : Int) ≤ 122 := by have := hd.1; dsimp only at this; omega
      have k2 : ¬ ((r : Nat) : Int) ≤ 90 := by omega
      have k3 : ¬ ((r : Nat) : Int) = 95 := by omega
      have k4 : ¬ ((r : Nat) : Int) < 48 := by omega
      have k5 : ((r : Nat) : Int) > 57 := by omega
      rw [letter_high (by omega), digit_high (by omega)]
      simp [k1, k2, k3, k4, k5]
  have hend : S [.tuple #[.string s, .int .i64 (s.size : Nat)]] H = some (.exit 0, [.tuple #[.string s, .int .i64 (s.size : Nat)]], H) := by
    have e1 : strOf (.tuple #[.string s, .int .i64 (s.size : Nat)]) = s := rfl
    have e2 : posOf (.tuple #[.string s, .int .i64 (s.size : Nat)]) = s.size := by simp [posOf]
    have e3 : Nat.blt s.size s.size = false := by
      cases hq : Nat.blt s.size s.size with
      | false => rfl
      | true => have := Nat.le_of_ble_eq_true hq; omega
    rw [← hS]
    simp only [List.drop_zero, List.getD_cons_zero, e1, e2, e3]
    rfl
  have hloop : ∀ (r : List UInt8) (i : Nat), s.data.toList.drop i = r → i ≤ s.size → 1 ≤ i → loopD S [.tuple #[.string s, .int .i64 (i : Nat)]] H = if r.all okByte = true then some (.exit 0, [.tuple #[.string s, .int .i64 (s.size : Nat)]], H) else some (.ret, [.bool false], H) := by
    intro r
    induction r with
    | nil =>
      intro i hd hi h1
      have : s.data.toList.length ≤ i := by simpa using hd
      have : i = s.size := by omega
      subst this
      rw [loopD_eq, hend]
      simp [nextD]
    | cons b r ih =>
      intro i hd hi h1
      have hb : s.data.toList[i]? = some b := by
        have : (s.data.toList.drop i)[0]? = some b := by rw [hd]; rfl
        rw [List.getElem?_drop] at this; simpa using this
      have hl : i < s.data.toList.length := (List.getElem?_eq_some_iff.1 hb).1
      have hd' : s.data.toList.drop (i + 1) = r := by rw [← List.drop_drop, hd]; rfl
      have hne : decide (i ≠ 0) = true := decide_eq_true (by omega)
      have hok : (letter (b.toNat : Int) || (decide (i ≠ 0) && digit (b.toNat : Int))) = okByte b := by rw [hne]; rfl
      rw [loopD_eq, hstep i b hb, hok]
      cases hk : okByte b with
      | true =>
        simp only [if_true, Option.bind_some, nextD]
        rw [ih (i + 1) hd' (by omega) (by omega)]
        simp [hk]
      | false => simp [hk, nextD]
  simp only [s_slen, s_lss, s_gtr, s_bool, s_br, decide_eq_true_eq]
  unfold nameOk
  by_cases h1 : (s.size : Int) < 1
  · have : ¬ s.size ≥ 1 := by omega
    simp [h1, this, s_bind, s_ret]
  by_cases h2 : (s.size : Int) > 24
  · have : ¬ s.size ≤ 24 := by omega
    simp [h1, h2, this, s_bind, s_ret]
  have g1 : s.size ≥ 1 := by omega
  have g2 : s.size ≤ 24 := by omega
  obtain ⟨c, r, hcr⟩ : ∃ c r, s.data.toList = c :: r := by
    cases hq : s.data.toList with
    | nil => rw [hq] at hlen; simp at hlen; omega
    | cons c r => exact ⟨c, r, rfl⟩
  simp only [h1, h2, if_false, s_bind, s_next]
  have h0 : s.data.toList[0]? = some c := by rw [hcr]; rfl
  have hd1 : s.data.toList.drop 1 = r := by rw [hcr]; rfl
  have hlp := hloop r 1 hd1 g1 (Nat.le_refl _)
  have hst := hstep 0 c h0
  have hfirst : loopD S [.tuple #[.string s, .int .i64 ((0 : Nat) : Int)]] H = if letter (c.toNat : Int) = true then (if r.all okByte = true then some (.exit 0, [.tuple #[.string s, .int .i64 (s.size : Nat)]], H) else some (.ret, [.bool false], H)) else some (.ret, [.bool false], H) := by
    rw [loopD_eq, hst]
    cases hc : letter (c.toNat : Int) with
    | false => simp [nextD]
    | true =>
      simp only [Bool.true_or, if_true, Option.bind_some, nextD]
      exact hlp
  show (bindO (loopD S [.tuple #[.string s, .int .i64 ((0 : Nat) : Int)]] H) _) = _
  rw [hfirst, hd1, hcr]
  cases hc : letter (c.toNat : Int) with
  | false => simp [g1, g2, hc, s_bind, s_ret]
  | true =>
    cases r.all okByte with
    | true => simp [g1, g2, hc, s_bind, s_exit, s_onExit]
    | false => simp [g1, g2, hc, s_bind, s_ret]
end Go.AM
/- The Term seat: maps. -/
set_option linter.unusedVariables false
set_option maxRecDepth 100000
set_option linter.unusedSimpArgs false
namespace Go.AM
open Go
def thenO (b : Bool) (k : Option Bool) : Option Bool := match some b with | some true => k | r => r
theorem eq36c (n m : Nd) : eqT PP 10000 T.api_Node n.val m.val =
    thenO (n.op == m.op) (thenO (n.w == m.w) (thenO (n.a == m.a) (thenO (n.b == m.b) (thenO (n.c == m.c) (thenO (n.num == m.num) (thenO (n.name == m.name) (some true))))))) := by
  kernel_rfl
def nodeEq (n m : Nd) : Bool := n.op == m.op && (n.w == m.w && (n.a == m.a && (n.b == m.b && (n.c == m.c && (n.num == m.num && n.name == m.name)))))
theorem eq36 (n m : Nd) : eqT PP 10000 T.api_Node n.val m.val = some (nodeEq n m) := by
  rw [eq36c]
  unfold nodeEq
  cases n.op == m.op <;> cases n.w == m.w <;> cases n.a == m.a <;> cases n.b == m.b <;> cases n.c == m.c <;> cases n.num == m.num <;> cases n.name == m.name <;> rfl
theorem eq9 (s t : ByteArray) : eqT PP 10000 T.string (.string s) (.string t) = some (s == t) := by kernel_rfl
theorem shape36 (n : Nd) : shapeOk PP 20 T.api_Node n.val = true := by kernel_rfl
theorem shape9 (s : ByteArray) : shapeOk PP 20 T.string (.string s) = true := by kernel_rfl

/-- Where each node stands. -/
def foundK : Nat → List Nd → List (Value × Value)
  | _, [] => []
  | i, n :: r => (n.val, .int .i64 ((i + 1 : Nat) : Int)) :: foundK (i + 1) r
/-- The first place of a node. -/
def placeOf (n : Nd) : Nat → List Nd → Option Nat
  | _, [] => none
  | i, m :: r => if nodeEq n m = true then some i else placeOf n (i + 1) r
theorem find36 (n : Nd) : ∀ (L : List Nd) (i j : Nat), findT PP T.api_Node n.val (foundK i L) j = some ((placeOf n i L).map fun q => (q - i + j, .int .i64 ((q + 1 : Nat) : Int)))
  | [], i, j => rfl
  | m :: r, i, j => by
    unfold foundK findT placeOf
    rw [eq36]
    cases h : nodeEq n m with
    | true => simp
    | false =>
      simp only [Bool.false_eq_true, if_false]
      rw [find36 n r (i + 1) (j + 1)]
      cases hp : placeOf n (i + 1) r with
      | none => rfl
      | some q =>
        have : i + 1 ≤ q := by
          have aux : ∀ (L : List Nd) (i q : Nat), placeOf n i L = some q → i ≤ q := by
            intro L
            induction L with
            | nil => intro i q h; cases h
            | cons m L ih =>
              intro i q h
              unfold placeOf at h
              split at h
              · cases h; exact Nat.le_refl _
              · have := ih (i + 1) q h; omega
          exact aux r (i + 1) q hp
        simp
        omega
/-- A look into a store's found nodes. -/
theorem look36 {H : Hp} {f : Nat} {L : List Nd} (h : H.get f = some (.map (foundK 0 L))) (n : Nd) : lookV PP T.api_Node (.int .i64 0) (.map (some f)) n.val H =
    some (match placeOf n 0 L with | some q => (.int .i64 ((q + 1 : Nat) : Int), true) | none => (.int .i64 0, false)) := by
  unfold lookV
  rw [shape36]
  simp only [if_true, mapOf, h, find36]
  cases placeOf n 0 L <;> rfl
end Go.AM
/- The Term seat: maps, II. -/
set_option linter.unusedVariables false
set_option maxRecDepth 100000
set_option linter.unusedSimpArgs false
namespace Go.AM
open Go
theorem ba_eq (s t : ByteArray) : (s == t) = true ↔ s = t := by
  obtain ⟨a⟩ := s
  obtain ⟨b⟩ := t
  show (a == b) = true ↔ _
  simp
theorem foundK_app (n : Nd) : ∀ (L : List Nd) (i : Nat), foundK i (L ++ [n]) = foundK i L ++ [(n.val, .int .i64 ((i + L.length + 1 : Nat) : Int))]
  | [], i => rfl
  | m :: r, i => by
    show (m.val, _) :: foundK (i + 1) (r ++ [n]) = _
    rw [foundK_app n r (i + 1)]
    simp only [foundK, List.cons_append, List.length_cons]
    rw [show i + 1 + r.length + 1 = i + (r.length + 1) + 1 by omega]
theorem upd36 {H : Hp} {f : Nat} {L : List Nd} (h : H.get f = some (.map (foundK 0 L))) (n : Nd) (hn : placeOf n 0 L = none) :
    updV PP T.api_Node (.map (some f)) n.val (.int .i64 ((L.length + 1 : Nat) : Int)) H = some (H.set f (some (.map (foundK 0 (L ++ [n]))))) := by
  unfold updV
  rw [shape36]
  simp only [if_true, h, find36, hn, Option.map_none]
  rw [foundK_app, Nat.zero_add]

/-- The names' widths. -/
def namesK (K : List (ByteArray × Int)) : List (Value × Value) := K.map fun x => (.string x.1, .int .i64 x.2)
def nameAt (s : ByteArray) : Nat → List (ByteArray × Int) → Option (Nat × Int)
  | _, [] => none
  | i, (t, w) :: r => if (s == t) = true then some (i, w) else nameAt s (i + 1) r
theorem find9 (s : ByteArray) : ∀ (K : List (ByteArray × Int)) (i : Nat), findT PP T.string (.string s) (namesK K) i = some ((nameAt s i K).map fun q => (q.1, .int .i64 q.2))
  | [], i => rfl
  | (t, w) :: r, i => by
    show (match eqT PP 10000 T.string (.string s) (.string t) with | some true => some (some (i, Value.int .i64 w)) | some false => findT PP T.string (.string s) (namesK r) (i + 1) | none => none) = _
    rw [eq9]
    unfold nameAt
    cases h : s == t with
    | true => simp
    | false =>
      simp only [Bool.false_eq_true, if_false]
      exact find9 s r (i + 1)
theorem look9 {H : Hp} {g : Nat} {K : List (ByteArray × Int)} (h : H.get g = some (.map (namesK K))) (s : ByteArray) : lookV PP T.string (.int .i64 0) (.map (some g)) (.string s) H =
    some (match nameAt s 0 K with | some q => (.int .i64 q.2, true) | none => (.int .i64 0, false)) := by
  unfold lookV
  rw [shape9]
  simp only [if_true, mapOf, h, find9]
  cases nameAt s 0 K <;> rfl
theorem nameAt_get (s : ByteArray) : ∀ (K : List (ByteArray × Int)) (i j : Nat) (w : Int), nameAt s i K = some (j, w) → i ≤ j ∧ K[j - i]? = some (s, w)
  | [], i, j, w, h => by cases h
  | (t, u) :: r, i, j, w, h => by
    unfold nameAt at h
    split at h
    · rename_i e
      cases h
      have : s = t := (ba_eq s t).1 e
      subst this
      exact ⟨Nat.le_refl _, by simp⟩
    · obtain ⟨h1, h2⟩ := nameAt_get s r (i + 1) j w h
      refine ⟨by omega, ?_⟩
      rw [show j - i = (j - (i + 1)) + 1 by omega]
      simpa using h2
/-- A name's width is set: it was not there, or is the same. -/
def nameSet (s : ByteArray) (w : Int) (K : List (ByteArray × Int)) : List (ByteArray × Int) := match nameAt s 0 K with | some _ => K | none => K ++ [(s, w)]
theorem upd9 {H : Hp} {g : Nat} {K : List (ByteArray × Int)} (h : H.get g = some (.map (namesK K))) (s : ByteArray) (w : Int) (hw : ∀ j u, nameAt s 0 K = some (j, u) → u = w) :
    updV PP T.string (.map (some g)) (.string s) (.int .i64 w) H = some (H.set g (some (.map (namesK (nameSet s w K))))) := by
  unfold updV nameSet
  rw [shape9]
  simp only [if_true, h, find9]
  cases hq : nameAt s 0 K with
  | none => simp [namesK]
  | some q =>
    obtain ⟨j, u⟩ := q
    have hu := hw j u hq
    subst hu
    obtain ⟨_, h2⟩ := nameAt_get s K 0 j u hq
    rw [Nat.sub_zero] at h2
    have hk : (namesK K)[j]? = some (.string s, .int .i64 u) := by unfold namesK; rw [List.getElem?_map, h2]; rfl
    have hset : setAt (namesK K) j (.string s) (.int .i64 u) = namesK K := by
      unfold setAt
      apply List.ext_getElem?
      intro i
      rw [List.getElem?_set]
      split
      · rename_i e; subst e
        rw [if_pos (List.getElem?_eq_some_iff.1 hk).1, hk]
      · rfl
    have hsb : Instr.sameBits 10000 (.string s) (.string s) = true := by
      simp only [Instr.sameBits]
      exact (ba_eq s s).2 rfl
    simp only [Option.map_some, hk, hsb, if_true, hset]
end Go.AM
/- The Term seat: a node more. -/
set_option linter.unusedVariables false
set_option maxRecDepth 100000
set_option linter.unusedSimpArgs false
namespace Go.AM
open Go
/-- A slice's object, if it has one. -/
def slId : Value → Option Nat
  | .slice (some a) _ _ => some a.block
  | _ => none
theorem g_new (H : Hp) (o : AObj) (i : Nat) : (H.new o).get i = if i = H.next then some o else H.get i := rfl
theorem g_set (H : Hp) (j : Nat) (o : Option AObj) (i : Nat) : (H.set j o).get i = if i = j then o else H.get i := rfl
theorem g_next (H : Hp) (j : Nat) (o : Option AObj) : (H.set j o).next = H.next := rfl
theorem cells_one (n : Nd) : n.cells.all one = true := rfl
theorem append_node {H : Hp} {sl : Value} {L : List Nd} (hsl : SlR H sl L) {y : Nat} {own : Bool} {n : Nd} (hy : H.get y = some (.cells n.cells own)) (hlt : ∀ i, slId sl = some i → i < H.next) (hb : (L.length + 1) * 64 ≤ 2 ^ 47) :
    ∃ sl' H', appendV 7 64 sl (.slice (some ⟨y, 0, some 7⟩) 1 1) H = some (sl', H') ∧ SlR H' sl' (L ++ [n]) ∧ slId sl' = some H.next ∧ H'.next = H.next + 1 ∧
      ∀ j, j < H.next → slId sl ≠ some j → H'.get j = H.get j := by
  have hsrc : srcCells 7 (.slice (some ⟨y, 0, some 7⟩) 1 1) H = some (1, n.cells) := by
    simp [srcCells, hy, Nd.cells]
  rcases hsl with ⟨rfl, rfl⟩ | ⟨i, rfl, hi⟩
  · refine ⟨.slice (some ⟨H.next, 0, some 7⟩) 1 1, H.new (.cells n.cells true), ?_, .inr ⟨H.next, rfl, ?_⟩, rfl, rfl, fun j hj _ => ?_⟩
    · unfold appendV
      rw [hsrc]
      simp [cells_one]
    · rw [g_new, if_pos rfl]; simp
    · rw [g_new, if_neg (by omega)]
  · refine ⟨.slice (some ⟨H.next, 0, some 7⟩) (L.length + 1) (L.length + 1), (H.set i none).new (.cells (L.flatMap Nd.cells ++ n.cells) true), ?_, .inr ⟨H.next, by simp, ?_⟩, rfl, rfl, fun j hj hne => ?_⟩
    · unfold appendV
      rw [hsrc]
      have h1 : ¬ L.length + 1 ≤ L.length := by omega
      have h2 : (L.flatMap Nd.cells).take (L.length * 7) = L.flatMap Nd.cells := List.take_of_length_le (by rw [flat_len]; omega)
      have h3 : 0 + L.length * 7 ≤ (L.flatMap Nd.cells).length := by rw [flat_len]; omega
      simp only [ne_eq, not_true_eq_false, if_false, hi, h1, Nat.one_ne_zero, false_and, h3, hb, cells_one, and_self, if_true, List.drop_zero, h2]
    · rw [g_new, if_pos (g_next _ _ _).symm]; simp [List.flatMap_append]
    · have : j ≠ i := fun e => hne (by rw [e]; rfl)
      rw [g_new, g_next, if_neg (by omega), g_set, if_neg this]
end Go.AM
/- The Term seat: a node more, in a store. -/
set_option linter.unusedVariables false
set_option maxRecDepth 100000
set_option linter.unusedSimpArgs false
namespace Go.AM
open Go
noncomputable def tailM (p : Nat) (n : Nd) (H : Hp) : Option (Value × Hp) :=
 (pNil (.pointer (some ⟨p, 0, none⟩)) (
  pOffs 1 (.pointer (some ⟨p, 0, none⟩)) fun p124 =>
  pLoad 1 false H p124 fun v125 =>
  pCell 7 true (cellsL n.val) 0 fun v126 =>
  pBuildSlice 7 [.int .i64 0, .int .i64 0, .int .i64 0, .int .i64 0, .int .i64 0, .int .u64 0, .string ⟨#[]⟩] 1 [(0, v126)] H fun v127 H128 =>
  chk (Hp.rdP H128 p124 1 false = some v125) (
  pAppend 7 64 v125 v127 H128 fun v129 H130 =>
  pNil (.pointer (some ⟨p, 0, none⟩)) (
  pOffs 1 (.pointer (some ⟨p, 0, none⟩)) fun p131 =>
  pStore 1 H130 p131 v129 fun H132 =>
  pNil (.pointer (some ⟨p, 0, none⟩)) (
  pOffs 2 (.pointer (some ⟨p, 0, none⟩)) fun p133 =>
  pLoad 1 false H132 p133 fun v134 =>
  pCell 7 true (cellsL n.val) 0 fun v135 =>
  pNil (.pointer (some ⟨p, 0, none⟩)) (
  pOffs 1 (.pointer (some ⟨p, 0, none⟩)) fun p136 =>
  pLoad 1 false H132 p136 fun v137 =>
  pLen .sl v137 H132 fun v138 =>
  pUpd PP T.api_Node v134 v135 v138 H132 fun H139 =>
  pCell 1 false (cellsL n.val) 0 fun v140 =>
  pBin PP .eql T.int v140 (.int .i64 4) fun v141 =>
  pBool v141 fun b142 => br b142
  (pNil (.pointer (some ⟨p, 0, none⟩)) (
  pOffs 3 (.pointer (some ⟨p, 0, none⟩)) fun p143 =>
  pLoad 1 false H139 p143 fun v144 =>
  pCell 1 false (cellsL n.val) 6 fun v145 =>
  pCell 1 false (cellsL n.val) 1 fun v146 =>
  pUpd PP T.string v144 v145 v146 H139 fun H147 =>
  pNil (.pointer (some ⟨p, 0, none⟩)) (
  pOffs 1 (.pointer (some ⟨p, 0, none⟩)) fun p148 =>
  pLoad 1 false H147 p148 fun v149 =>
  pLen .sl v149 H147 fun v150 =>
  some ((.tuple #[v150, (.int .i64 0)]), H147))))
  (pNil (.pointer (some ⟨p, 0, none⟩)) (
  pOffs 1 (.pointer (some ⟨p, 0, none⟩)) fun p151 =>
  pLoad 1 false H139 p151 fun v152 =>
  pLen .sl v152 H139 fun v153 =>
  some ((.tuple #[v153, (.int .i64 0)]), H139)))))))))
theorem build_node (n : Nd) (H : Hp) {α : Type} (k : Value → Hp → Option α) :
    pBuildSlice 7 [.int .i64 0, .int .i64 0, .int .i64 0, .int .i64 0, .int .i64 0, .int .u64 0, .string ⟨#[]⟩] 1 [(0, n.val)] H k = k (.slice (some ⟨H.next, 0, some 7⟩) 1 1) (H.new (.cells n.cells true)) := by
  have : buildSliceV 7 [.int .i64 0, .int .i64 0, .int .i64 0, .int .i64 0, .int .i64 0, .int .u64 0, .string ⟨#[]⟩] 1 [(0, n.val)] H = some (.slice (some ⟨H.next, 0, some 7⟩) 1 1, H.new (.cells n.cells true)) := by
    have h1 : cellsL n.val = n.cells := rfl
    have h2 : n.cells.length = 7 := rfl
    simp [buildSliceV, repl, fillL, h1, h2, cells_one, spl]
  unfold pBuildSlice
  rw [this]
theorem s_chk {α : Type} {q : Prop} (h : q) (k : Option α) : chk q k = k := by unfold chk; exact if_pos h
end Go.AM
/- The Term seat: a node more, in a store, II. -/
set_option linter.unusedVariables false
set_option maxRecDepth 100000
set_option linter.unusedSimpArgs false
namespace Go.AM
open Go
structure StF (H : Hp) (p : Nat) (lim : Int) (L : List Nd) (K : List (ByteArray × Int)) (sl : Value) (f g : Nat) : Prop where
  st : StR H p lim L sl f g
  fm : H.get f = some (.map (foundK 0 L))
  gm : H.get g = some (.map (namesK K))
  pf : p ≠ f
  pg : p ≠ g
  fg : f ≠ g
  lp : p < H.next
  lf : f < H.next
  lg : g < H.next
  sa : ∀ i, slId sl = some i → i ≠ p ∧ i ≠ f ∧ i ≠ g ∧ i < H.next
theorem store1 {α : Type} {H : Hp} {p f g : Nat} {lim : Int} {sl : Value} (hs : H.get p = some (.cells [.int .i64 lim, sl, .map (some f), .map (some g)] true)) (v : Value) (hv : cellsL v = [v]) (h1 : one v = true) (k : Hp → Option α) :
    pStore 1 H (.pointer (some ⟨p, 1, none⟩)) v k = k (H.set p (some (.cells [.int .i64 lim, v, .map (some f), .map (some g)] true))) := by
  have : H.wr (.pointer (some ⟨p, 1, none⟩)) 1 v = some (H.set p (some (.cells [.int .i64 lim, v, .map (some f), .map (some g)] true))) := by
    simp [Hp.wr, hs, wrCells, hv, h1, spl]
  unfold pStore
  rw [this]
theorem s_append {α : Type} {n m : Nat} {s x : Value} {H : Hp} {v : Value} {H' : Hp} (h : appendV n m s x H = some (v, H')) (k : Value → Hp → Option α) : pAppend n m s x H k = k v H' := by unfold pAppend; rw [h]
theorem s_upd {α : Type} {P : Program} {kt : TypeId} {m key v : Value} {H H' : Hp} (h : updV P kt m key v H = some H') (k : Hp → Option α) : pUpd P kt m key v H k = k H' := by unfold pUpd; rw [h]
theorem tail_ok {H : Hp} {p f g : Nat} {lim : Int} {L : List Nd} {K : List (ByteArray × Int)} {sl : Value} (h : StF H p lim L K sl f g) (n : Nd) (hn : placeOf n 0 L = none) (hw : n.op = 4 → ∀ j u, nameAt n.name 0 K = some (j, u) → u = n.w) (hb : (L.length + 1) * 64 ≤ 2 ^ 47) :
    ∃ H' sl', tailM p n H = some (.tuple #[.int .i64 ((L.length + 1 : Nat) : Int), .int .i64 0], H') ∧ StF H' p lim (L ++ [n]) (if n.op = 4 then nameSet n.name n.w K else K) sl' f g ∧ H.next ≤ H'.next ∧
      (∀ j, j < H.next → j ≠ p → j ≠ f → j ≠ g → slId sl ≠ some j → H'.get j = H.get j) ∧ (∀ i, slId sl' = some i → H.next ≤ i) := by
  have hlp := h.lp
  have hlf := h.lf
  have hlg := h.lg
  -- the temporary slice
  have hH1 : ∀ j, j < H.next → (H.new (.cells n.cells true)).get j = H.get j := fun j hj => by rw [g_new, if_neg (by omega)]
  have hsl1 : SlR (H.new (.cells n.cells true)) sl L := by
    rcases h.st.all with ⟨e1, e2⟩ | ⟨i, e1, e2⟩
    · exact .inl ⟨e1, e2⟩
    · have := (h.sa i (by rw [e1]; rfl)).2.2.2
      exact .inr ⟨i, e1, by rw [hH1 i this]; exact e2⟩
  obtain ⟨sl', H2, ha, hsl2, hid, hnx, hfr⟩ := append_node hsl1 (y := H.next) (own := true) (n := n) (by rw [g_new, if_pos rfl]) (fun i hi => by have := (h.sa i hi).2.2.2; show i < H.next + 1; omega) hb
  have hnx1 : (H.new (.cells n.cells true)).next = H.next + 1 := rfl
  rw [hnx1] at hid hnx hfr
  have hg2 : ∀ j, j < H.next → slId sl ≠ some j → H2.get j = H.get j := fun j hj hne => by rw [hfr j (by omega) hne, hH1 j hj]
  have sp : slId sl ≠ some p := fun e => (h.sa p e).1 rfl
  have sf : slId sl ≠ some f := fun e => (h.sa f e).2.1 rfl
  have sg : slId sl ≠ some g := fun e => (h.sa g e).2.2.1 rfl
  have hsl' : ∃ c, sl' = .slice (some ⟨H.next + 1, 0, some 7⟩) (L ++ [n]).length c := by
    rcases hsl2 with ⟨e1, _⟩ | ⟨i, e1, _⟩
    · simp at e1
    · rw [e1] at hid
      have : i = H.next + 1 := by simpa [slId] using hid
      subst this
      exact ⟨_, e1⟩
  obtain ⟨c, hslc⟩ := hsl'
  have hobj2 : H2.get p = some (.cells [.int .i64 lim, sl, .map (some f), .map (some g)] true) := by rw [hg2 p hlp sp]; exact h.st.obj
  have hcl : cellsL sl' = [sl'] := by rw [hslc]; rfl
  have hone : one sl' = true := by rw [hslc]; rfl
  generalize hH3 : H2.set p (some (.cells [.int .i64 lim, sl', .map (some f), .map (some g)] true)) = H3
  have g3 : ∀ j, j ≠ p → H3.get j = H2.get j := fun j hj => by rw [← hH3, g_set, if_neg hj]
  have obj3 : H3.get p = some (.cells [.int .i64 lim, sl', .map (some f), .map (some g)] true) := by rw [← hH3, g_set, if_pos rfl]
  have n3 : H3.next = H.next + 2 := by rw [← hH3, g_next, hnx]
  have hsl3 : SlR H3 sl' (L ++ [n]) := by
    rcases hsl2 with ⟨e1, _⟩ | ⟨i, e1, e2⟩
    · simp at e1
    · have : i = H.next + 1 := by rw [e1] at hid; simpa [slId] using hid
      exact .inr ⟨i, e1, by rw [g3 i (by omega)]; exact e2⟩
  have hf3 : H3.get f = some (.map (foundK 0 L)) := by rw [g3 f (Ne.symm h.pf), hg2 f hlf sf]; exact h.fm
  have hg3 : H3.get g = some (.map (namesK K)) := by rw [g3 g (Ne.symm h.pg), hg2 g hlg sg]; exact h.gm
  have st3 : StR H3 p lim (L ++ [n]) sl' f g := ⟨obj3, hsl3⟩
  have hu := upd36 hf3 n hn
  generalize hH4 : H3.set f (some (.map (foundK 0 (L ++ [n])))) = H4 at hu
  have g4 : ∀ j, j ≠ f → H4.get j = H3.get j := fun j hj => by rw [← hH4, g_set, if_neg hj]
  have n4 : H4.next = H.next + 2 := by rw [← hH4, g_next, n3]
  have obj4 : H4.get p = some (.cells [.int .i64 lim, sl', .map (some f), .map (some g)] true) := by rw [g4 p h.pf]; exact obj3
  have hf4 : H4.get f = some (.map (foundK 0 (L ++ [n]))) := by rw [← hH4, g_set, if_pos rfl]
  have hg4 : H4.get g = some (.map (namesK K)) := by rw [g4 g (Ne.symm h.fg)]; exact hg3
  have hslk : ∀ {Hx : Hp}, (∀ j, j ≠ p → j ≠ f → j ≠ g → Hx.get j = H3.get j) → SlR Hx sl' (L ++ [n]) := fun hx => by
    rcases hsl3 with ⟨e1, _⟩ | ⟨i, e1, e2⟩
    · simp at e1
    · have : i = H.next + 1 := by rw [e1] at hid; simpa [slId] using hid
      exact .inr ⟨i, e1, by rw [hx i (by omega) (by omega) (by omega)]; exact e2⟩
  have st4 : StR H4 p lim (L ++ [n]) sl' f g := ⟨obj4, hslk fun j _ hf _ => g4 j hf⟩
  have hlen : ((L ++ [n]).length : Int) = ((L.length + 1 : Nat) : Int) := by simp
  have hapart : ∀ i, slId sl' = some i → i ≠ p ∧ i ≠ f ∧ i ≠ g ∧ i < H.next + 2 := fun i hi => by
    rw [hid] at hi
    cases hi
    exact ⟨by omega, by omega, by omega, by omega⟩
  have hframe4 : ∀ j, j < H.next → j ≠ p → j ≠ f → j ≠ g → slId sl ≠ some j → H4.get j = H.get j := fun j a b c d e => by rw [g4 j c, g3 j b, hg2 j a e]
  have hge : ∀ i, slId sl' = some i → H.next ≤ i := fun i hi => by rw [hid] at hi; cases hi; omega
  have hchk : Hp.rdP (H.new (.cells n.cells true)) (.pointer (some ⟨p, 1, none⟩)) 1 false = some sl := by
    simp [Hp.rdP, Hp.rd, hH1 p hlp, h.st.obj, rdCells]
  by_cases hop : n.op = 4
  · have hu9 := upd9 hg4 n.name n.w (hw hop)
    generalize hH5 : H4.set g (some (.map (namesK (nameSet n.name n.w K)))) = H5 at hu9
    have g5 : ∀ j, j ≠ g → H5.get j = H4.get j := fun j hj => by rw [← hH5, g_set, if_neg hj]
    have n5 : H5.next = H.next + 2 := by rw [← hH5, g_next, n4]
    have obj5 : H5.get p = some (.cells [.int .i64 lim, sl', .map (some f), .map (some g)] true) := by rw [g5 p h.pg]; exact obj4
    have st5 : StR H5 p lim (L ++ [n]) sl' f g := ⟨obj5, hslk fun j _ hf hg => by rw [g5 j hg, g4 j hf]⟩
    refine ⟨H5, sl', ?_, ⟨st5, ?_, ?_, h.pf, h.pg, h.fg, by omega, by omega, by omega, by rw [n5]; exact hapart⟩, by omega, fun j a b c d e => ?_, hge⟩
    · unfold tailM
      simp only [s_nil, s_offs, Nat.zero_add, h.st.l1, n07, build_node]
      rw [s_chk hchk, s_append ha, store1 hobj2 sl' hcl hone, hH3]
      simp only [st3.l1, st3.l2, hsl3.len, hlen]
      rw [s_upd hu]
      simp only [n0, n1, n6, s_eql, hop, decide_true, s_bool, s_br, if_true, st4.l3]
      rw [s_upd hu9]
      simp only [st5.l1, st5.all.len, hlen]
    · rw [g5 f h.fg]; exact hf4
    · rw [if_pos hop, ← hH5, g_set, if_pos rfl]
    · rw [g5 j d]; exact hframe4 j a b c d e
  · refine ⟨H4, sl', ?_, ⟨st4, hf4, ?_, h.pf, h.pg, h.fg, by omega, by omega, by omega, by rw [n4]; exact hapart⟩, by omega, hframe4, hge⟩
    · unfold tailM
      simp only [s_nil, s_offs, Nat.zero_add, h.st.l1, n07, build_node]
      rw [s_chk hchk, s_append ha, store1 hobj2 sl' hcl hone, hH3]
      simp only [st3.l1, st3.l2, hsl3.len, hlen]
      rw [s_upd hu]
      simp only [n0, s_eql, hop, decide_false, s_bool, s_br, Bool.false_eq_true, if_false, st4.l1, st4.all.len, hlen]
    · rw [if_neg hop]; exact hg4
end Go.AM
/- The Term seat: Make, the document's. -/
set_option linter.unusedVariables false
set_option maxRecDepth 100000
set_option linter.unusedSimpArgs false
namespace Go.AM
open Go
def pastParts (L : List Nd) (n : Nd) : Bool := (decide (partsT n.op ≥ 1) && !isT L n.a) || (decide (partsT n.op ≥ 2) && !isT L n.b) || (decide (partsT n.op ≥ 3) && !isT L n.c)
def badName (K : List (ByteArray × Int)) (n : Nd) : Bool := !nameOk n.name || (match nameAt n.name 0 K with | some q => decide (q.2 ≠ n.w) | none => false)
/-- What is wrong with a node; 0: nothing. -/
def errOf (L : List Nd) (K : List (ByteArray × Int)) (n : Nd) : Int :=
  if n.op < 1 ∨ n.op > 33 then 73 else if n.w < 0 ∨ n.w > 64 then 5 else if pastParts L n = true then 70 else if spareK (partsT n.op) n = true then 1
  else if sortsOf n.op (wT L (-1) n.a) (wT L (-1) n.b) (wT L (-1) n.c) = false then 71 else if widthOf n (wT L (-1) n.a) (wT L (-1) n.b) = false then 5
  else if n.op = 4 ∧ badName K n = true then 72 else 0
def mkR (lim : Int) (L : List Nd) (K : List (ByteArray × Int)) (n : Nd) : Int × Int × List Nd × List (ByteArray × Int) :=
  if errOf L K n ≠ 0 then (0, errOf L K n, L, K) else match placeOf n 0 L with
    | some q => (((q + 1 : Nat) : Int), 0, L, K)
    | none => if lim > 0 ∧ (L.length : Int) ≥ lim then (0, 4, L, K) else (((L.length + 1 : Nat) : Int), 0, L ++ [n], if n.op = 4 then nameSet n.name n.w K else K)
theorem wT_bd {L : List Nd} (h : ∀ m ∈ L, 0 ≤ m.w ∧ m.w ≤ 64) (t : Int) : -1 ≤ wT L (-1) t ∧ wT L (-1) t ≤ 64 := by
  unfold wT
  split
  · cases hq : L[(t - 1).toNat]? with
    | none => simp
    | some m =>
      have := h m (List.mem_of_getElem? hq)
      simp; omega
  · omega
end Go.AM
/- The Term seat: Make behind its checks. -/
set_option linter.unusedVariables false
set_option maxRecDepth 100000
set_option linter.unusedSimpArgs false
namespace Go.AM
open Go
theorem s_iteB (p : Prop) [Decidable p] (x y : Bool) (H : Hp) : (if p then some (Ctl.next, [Value.bool x], H) else some (Ctl.next, [Value.bool y], H)) = some (Ctl.next, [Value.bool (bif decide p then x else y)], H) := by
  by_cases h : p <;> simp [h]
theorem s_look {α : Type} {P : Program} {kt : TypeId} {z m key v : Value} {b : Bool} {H : Hp} (h : lookV P kt z m key H = some (v, b)) (k : Value → Option α) : pLook P kt z m key true H k = k (.tuple #[v, .bool b]) := by unfold pLook; rw [h]
theorem s_ext0 {α : Type} (x y : Value) (k : Value → Option α) : pExtract (.tuple #[x, y]) 0 k = k x := rfl
theorem s_ext1 {α : Type} (x y : Value) (k : Value → Option α) : pExtract (.tuple #[x, y]) 1 k = k y := rfl
/-- Make, behind the checks: found, or full, or a node more. -/
noncomputable def restM (p : Nat) (n : Nd) (H : Hp) : Option (Value × Hp) :=
 pNil (.pointer (some ⟨p, 0, none⟩)) (
 pOffs 2 (.pointer (some ⟨p, 0, none⟩)) fun p102 =>
 pLoad 1 false H p102 fun v103 =>
 pCell 7 true (cellsL n.val) 0 fun v104 =>
 pLook PP T.api_Node (.int .i64 0) v103 v104 true H fun v105 =>
 pExtract v105 0 fun v106 =>
 pExtract v105 1 fun v107 =>
 pBool v107 fun b108 => br b108
 (some ((.tuple #[v106, (.int .i64 0)]), H))
 (bindO (
 pNil (.pointer (some ⟨p, 0, none⟩)) (
 pOffs 0 (.pointer (some ⟨p, 0, none⟩)) fun p109 =>
 pLoad 1 false H p109 fun v110 =>
 pBin PP .gtr T.int v110 (.int .i64 0) fun v111 =>
 pBool v111 fun b112 => br b112
 (pNil (.pointer (some ⟨p, 0, none⟩)) (
 pOffs 1 (.pointer (some ⟨p, 0, none⟩)) fun p113 =>
 pLoad 1 false H p113 fun v114 =>
 pLen .sl v114 H fun v115 =>
 pNil (.pointer (some ⟨p, 0, none⟩)) (
 pOffs 0 (.pointer (some ⟨p, 0, none⟩)) fun p116 =>
 pLoad 1 false H p116 fun v117 =>
 pBin PP .geq T.int v115 v117 fun v118 =>
 pBool v118 fun b119 => br b119
 (some (.ret, [(.tuple #[(.int .i64 0), (.int .i64 4)])], H))
 (some (.next, [], H)))))
 (some (.next, [], H)))) fun q120 l121 H122 => onCtl q120
 (pNil (.pointer (some ⟨p, 0, none⟩)) (
 pOffs 1 (.pointer (some ⟨p, 0, none⟩)) fun p124 =>
 pLoad 1 false H122 p124 fun v125 =>
 pCell 7 true (cellsL n.val) 0 fun v126 =>
 pBuildSlice 7 [.int .i64 0, .int .i64 0, .int .i64 0, .int .i64 0, .int .i64 0, .int .u64 0, .string ⟨#[]⟩] 1 [(0, v126)] H122 fun v127 H128 =>
 chk (Hp.rdP H128 p124 1 false = some v125) (
 pAppend 7 64 v125 v127 H128 fun v129 H130 =>
 pNil (.pointer (some ⟨p, 0, none⟩)) (
 pOffs 1 (.pointer (some ⟨p, 0, none⟩)) fun p131 =>
 pStore 1 H130 p131 v129 fun H132 =>
 pNil (.pointer (some ⟨p, 0, none⟩)) (
 pOffs 2 (.pointer (some ⟨p, 0, none⟩)) fun p133 =>
 pLoad 1 false H132 p133 fun v134 =>
 pCell 7 true (cellsL n.val) 0 fun v135 =>
 pNil (.pointer (some ⟨p, 0, none⟩)) (
 pOffs 1 (.pointer (some ⟨p, 0, none⟩)) fun p136 =>
 pLoad 1 false H132 p136 fun v137 =>
 pLen .sl v137 H132 fun v138 =>
 pUpd PP T.api_Node v134 v135 v138 H132 fun H139 =>
 pCell 1 false (cellsL n.val) 0 fun v140 =>
 pBin PP .eql T.int v140 (.int .i64 4) fun v141 =>
 pBool v141 fun b142 => br b142
 (pNil (.pointer (some ⟨p, 0, none⟩)) (
 pOffs 3 (.pointer (some ⟨p, 0, none⟩)) fun p143 =>
 pLoad 1 false H139 p143 fun v144 =>
 pCell 1 false (cellsL n.val) 6 fun v145 =>
 pCell 1 false (cellsL n.val) 1 fun v146 =>
 pUpd PP T.string v144 v145 v146 H139 fun H147 =>
 pNil (.pointer (some ⟨p, 0, none⟩)) (
 pOffs 1 (.pointer (some ⟨p, 0, none⟩)) fun p148 =>
 pLoad 1 false H147 p148 fun v149 =>
 pLen .sl v149 H147 fun v150 =>
 some ((.tuple #[v150, (.int .i64 0)]), H147))))
 (pNil (.pointer (some ⟨p, 0, none⟩)) (
 pOffs 1 (.pointer (some ⟨p, 0, none⟩)) fun p151 =>
 pLoad 1 false H139 p151 fun v152 =>
 pLen .sl v152 H139 fun v153 =>
 some ((.tuple #[v153, (.int .i64 0)]), H139)))))))))
 (fun i123 => none)
 (some ((l121.headD undef), H122))))

def okR (lim : Int) (L : List Nd) (K : List (ByteArray × Int)) (n : Nd) : Int × Int × List Nd × List (ByteArray × Int) :=
  match placeOf n 0 L with
    | some q => (((q + 1 : Nat) : Int), 0, L, K)
    | none => if lim > 0 ∧ (L.length : Int) ≥ lim then (0, 4, L, K) else (((L.length + 1 : Nat) : Int), 0, L ++ [n], if n.op = 4 then nameSet n.name n.w K else K)
/-- What Make does to the heap. -/
structure MkOk (H : Hp) (p : Nat) (lim : Int) (sl : Value) (f g : Nat) (r : Int × Int × List Nd × List (ByteArray × Int)) (H' : Hp) (sl' : Value) : Prop where
  st : StF H' p lim r.2.2.1 r.2.2.2 sl' f g
  next : H.next ≤ H'.next
  frame : ∀ j, j < H.next → j ≠ p → j ≠ f → j ≠ g → slId sl ≠ some j → H'.get j = H.get j
  own : ∀ i, slId sl' = some i → slId sl = some i ∨ H.next ≤ i
theorem MkOk.stay {H : Hp} {p f g : Nat} {lim : Int} {L : List Nd} {K : List (ByteArray × Int)} {sl : Value} (h : StF H p lim L K sl f g) {r : Int × Int × List Nd × List (ByteArray × Int)} (hr : r.2.2 = (L, K)) : MkOk H p lim sl f g r H sl :=
  ⟨by rw [hr]; exact h, Nat.le_refl _, fun _ _ _ _ _ _ => rfl, fun i hi => .inl hi⟩
theorem rest_ok {H : Hp} {p f g : Nat} {lim : Int} {L : List Nd} {K : List (ByteArray × Int)} {sl : Value} (h : StF H p lim L K sl f g) (n : Nd) (hw : n.op = 4 → ∀ j u, nameAt n.name 0 K = some (j, u) → u = n.w) (hb : (L.length + 1) * 64 ≤ 2 ^ 47) :
    ∃ H' sl', restM p n H = some (.tuple #[.int .i64 (okR lim L K n).1, .int .i64 (okR lim L K n).2.1], H') ∧ MkOk H p lim sl f g (okR lim L K n) H' sl' := by
  have hl36 := look36 h.fm n
  unfold okR
  cases hq : placeOf n 0 L with
  | some q =>
    rw [hq] at hl36
    refine ⟨H, sl, ?_, MkOk.stay h rfl⟩
    unfold restM
    simp only [s_nil, s_offs, Nat.zero_add, h.st.l2, n07, s_look hl36, s_ext0, s_ext1, s_bool, s_br, if_true]
  | none =>
    rw [hq] at hl36
    by_cases hlim : lim > 0 ∧ (L.length : Int) ≥ lim
    · refine ⟨H, sl, ?_, MkOk.stay h (by simp only [if_pos hlim])⟩
      unfold restM
      simp only [s_nil, s_offs, Nat.zero_add, Nat.add_zero, h.st.l0, h.st.l1, h.st.l2, h.st.all.len, n07, s_look hl36, s_ext0, s_ext1, s_bool, s_br, s_gtr, s_geq, hlim.1, hlim.2, decide_true, Bool.false_eq_true, if_false, if_true, s_bind, s_ret, s_head, if_pos hlim, and_self]
    · obtain ⟨H', sl', h1, h2, h3, h4, h5⟩ := tail_ok h n hq hw hb
      rw [if_neg hlim]
      refine ⟨H', sl', ?_, ⟨h2, h3, h4, fun i hi => .inr (h5 i hi)⟩⟩
      rw [← h1]
      unfold restM
      by_cases l1 : lim > 0
      · have l2 : ¬ ((L.length : Int) ≥ lim) := fun q => hlim ⟨l1, q⟩
        simp only [s_nil, s_offs, Nat.zero_add, Nat.add_zero, h.st.l0, h.st.l1, h.st.l2, h.st.all.len, n07, s_look hl36, s_ext0, s_ext1, s_bool, s_br, s_gtr, s_geq, l1, l2, decide_true, decide_false, Bool.false_eq_true, if_false, if_true, s_bind, s_next, s_head]
        unfold tailM
        simp only [s_nil, s_offs, Nat.zero_add, Nat.add_zero, h.st.l0, h.st.l1, h.st.l2, h.st.all.len, n07, s_br]
      · simp only [s_nil, s_offs, Nat.zero_add, Nat.add_zero, h.st.l0, h.st.l1, h.st.l2, h.st.all.len, n07, s_look hl36, s_ext0, s_ext1, s_bool, s_br, s_gtr, s_geq, l1, decide_true, decide_false, Bool.false_eq_true, if_false, if_true, s_bind, s_next, s_head]
        unfold tailM
        simp only [s_nil, s_offs, Nat.zero_add, Nat.add_zero, h.st.l0, h.st.l1, h.st.l2, h.st.all.len, n07, s_br]
end Go.AM
/- The Term seat: Make, the document's, II. -/
set_option linter.unusedVariables false
set_option maxRecDepth 100000
set_option linter.unusedSimpArgs false
namespace Go.AM
open Go
theorem c31 {H : Hp} {p f g : Nat} {lim : Int} {L : List Nd} {K : List (ByteArray × Int)} {sl : Value} (h : StF H p lim L K sl f g) (n : Nd) (hnum : 0 ≤ n.num ∧ n.num < 18446744073709551616)
    (hW : ∀ m ∈ L, 0 ≤ m.w ∧ m.w ≤ 64) (hb : (L.length + 1) * 64 ≤ 2 ^ 47) :
    ∃ H' sl', RR F.cadenceref07_Store_Make [.pointer (some ⟨p, 0, none⟩), n.val] H = some (.tuple #[.int .i64 (mkR lim L K n).1, .int .i64 (mkR lim L K n).2.1], H') ∧ MkOk H p lim sl f g (mkR lim L K n) H' sl' := by
  have hL : (L.length : Int) ≤ 4611686018427387904 := by omega
  have ha := wT_bd hW n.a
  have hbd := wT_bd hW n.b
  have stay : ∀ e : Int, errOf L K n = e → e ≠ 0 → RR F.cadenceref07_Store_Make [.pointer (some ⟨p, 0, none⟩), n.val] H = some (.tuple #[.int .i64 0, .int .i64 e], H) →
      ∃ H' sl', RR F.cadenceref07_Store_Make [.pointer (some ⟨p, 0, none⟩), n.val] H = some (.tuple #[.int .i64 (mkR lim L K n).1, .int .i64 (mkR lim L K n).2.1], H') ∧ MkOk H p lim sl f g (mkR lim L K n) H' sl' := fun e he h0 hr => by
    have hm : mkR lim L K n = (0, e, L, K) := by unfold mkR; rw [he, if_pos h0]
    rw [hm]
    exact ⟨H, sl, hr, MkOk.stay h rfl⟩
  have hrun := r_cadenceref07_Store_Make E0 rfl (.pointer (some ⟨p, 0, none⟩)) n.val H
  unfold m_cadenceref07_Store_Make at hrun
  simp only [n0, n1, s_call (c46 _ H), s_lss, s_gtr, s_bool, s_br, s_bind, s_bind_ite, s_next, s_ret, List.getD_cons_zero, decide_eq_true_eq, if_true] at hrun
  by_cases hop : n.op < 1 ∨ n.op > 33
  · have : partsR n.op < 0 := by unfold partsR; rw [if_pos hop]; decide
    rw [if_pos this] at hrun
    exact stay 73 (by unfold errOf; rw [if_pos hop]) (by decide) hrun
  have hpr : partsR n.op = partsT n.op := by unfold partsR; rw [if_neg hop]
  have hp0 : ¬ partsT n.op < 0 := by unfold partsT; split <;> first | decide | (split <;> first | decide | (split <;> decide))
  rw [hpr, if_neg hp0] at hrun
  by_cases hw1 : n.w < 0
  · rw [if_pos hw1] at hrun
    exact stay 5 (by unfold errOf; rw [if_neg hop, if_pos (.inl hw1)]) (by decide) hrun
  rw [if_neg hw1] at hrun
  by_cases hw2 : n.w > 64
  · rw [if_pos hw2] at hrun
    exact stay 5 (by unfold errOf; rw [if_neg hop, if_pos (.inr hw2)]) (by decide) hrun
  rw [if_neg hw2] at hrun
  have hww : ¬ (n.w < 0 ∨ n.w > 64) := by omega
  simp only [n2, n3, n4, s_call (c30 h.st), s_geq, s_not, s_bool, s_br, s_iteB, s_bind, s_next, List.getD_cons_zero] at hrun
  have hpp : (bif decide (decide (partsT n.op ≥ 1) = true) then
      (bif decide ((!isT L n.a) = true) then true else
        (bif decide (decide (partsT n.op ≥ 2) = true) then
          (bif decide ((!isT L n.b) = true) then true else (bif decide (decide (partsT n.op ≥ 3) = true) then !isT L n.c else false))
        else (bif decide (decide (partsT n.op ≥ 3) = true) then !isT L n.c else false)))
      else (bif decide (decide (partsT n.op ≥ 2) = true) then
          (bif decide ((!isT L n.b) = true) then true else (bif decide (decide (partsT n.op ≥ 3) = true) then !isT L n.c else false))
        else (bif decide (decide (partsT n.op ≥ 3) = true) then !isT L n.c else false))) = pastParts L n := by
    unfold pastParts
    simp only [Bool.decide_eq_true]
    cases decide (partsT n.op ≥ 1) <;> cases decide (partsT n.op ≥ 2) <;> cases decide (partsT n.op ≥ 3) <;> cases isT L n.a <;> cases isT L n.b <;> cases isT L n.c <;> rfl
  rw [hpp] at hrun
  by_cases hpa : pastParts L n = true
  · rw [if_pos hpa] at hrun
    exact stay 70 (by unfold errOf; rw [if_neg hop, if_neg hww, if_pos hpa]) (by decide) hrun
  rw [if_neg hpa] at hrun
  have pa : partsT n.op ≥ 1 → isT L n.a = true := fun q => by
    cases e : isT L n.a with
    | true => rfl
    | false => exact absurd (by unfold pastParts; simp [q, e]) hpa
  have pb : partsT n.op ≥ 2 → isT L n.b = true := fun q => by
    cases e : isT L n.b with
    | true => rfl
    | false => exact absurd (by unfold pastParts; simp [q, e]) hpa
  have pc : partsT n.op ≥ 3 → isT L n.c = true := fun q => by
    cases e : isT L n.c with
    | true => rfl
    | false => exact absurd (by unfold pastParts; simp [q, e]) hpa
  have hn : n.Ok := ⟨by omega, by omega, by omega, by omega, hnum.1, hnum.2⟩
  rw [n07, s_call (c47 n _ H), s_bool] at hrun
  by_cases hsp : spareK (partsT n.op) n = true
  · rw [if_pos hsp] at hrun
    exact stay 1 (by unfold errOf; rw [if_neg hop, if_neg hww, if_neg hpa, if_pos hsp]) (by decide) hrun
  rw [if_neg hsp] at hrun
  rw [n07, s_call (c48 h.st hL n hn.o1 hn.o2 pa pb pc), s_not, s_bool] at hrun
  cases hso : sortsOf n.op (wT L (-1) n.a) (wT L (-1) n.b) (wT L (-1) n.c) with
  | false =>
    rw [hso] at hrun
    simp only [Bool.not_false, if_true] at hrun
    exact stay 71 (by unfold errOf; rw [if_neg hop, if_neg hww, if_neg hpa, if_neg hsp, if_pos hso]) (by decide) hrun
  | true =>
  rw [hso] at hrun
  simp only [Bool.not_true, Bool.false_eq_true, if_false] at hrun
  rw [n07, s_call (c49 h.st hL n hn pa pb ha hbd), s_not, s_bool] at hrun
  cases hwi : widthOf n (wT L (-1) n.a) (wT L (-1) n.b) with
  | false =>
    rw [hwi] at hrun
    simp only [Bool.not_false, if_true] at hrun
    exact stay 5 (by unfold errOf; rw [if_neg hop, if_neg hww, if_neg hpa, if_neg hsp, hso, if_neg (by decide), if_pos hwi]) (by decide) hrun
  | true =>
  rw [hwi] at hrun
  simp only [Bool.not_true, Bool.false_eq_true, if_false] at hrun
  have hl9 := look9 h.gm n.name
  have hl36 := look36 h.fm n
  have hnm : n.op = 4 → badName K n = true → RR F.cadenceref07_Store_Make [.pointer (some ⟨p, 0, none⟩), n.val] H = some (.tuple #[.int .i64 0, .int .i64 72], H) := by
    intro h4 hbad
    refine hrun.trans ?_
    simp only [h4, s_eql, decide_true, s_bool, s_br, if_true, s_nil, s_offs, Nat.zero_add, h.st.l3, n6, n1, s_look hl9]
    unfold badName at hbad
    cases hq : nameAt n.name 0 K with
    | none =>
      rw [hq] at hbad
      simp only [s_ext0, s_ext1, s_call (c50 n.name H), s_not, s_bool, s_br]
      cases hno : nameOk n.name with
      | true => rw [hno] at hbad; cases hbad
      | false => simp [s_bind, s_ret, s_head]
    | some q =>
      rw [hq] at hbad
      simp only [s_ext0, s_ext1, s_call (c50 n.name H), s_not, s_bool, s_br, s_neq]
      cases hno : nameOk n.name with
      | true =>
        rw [hno] at hbad
        have hne : q.2 ≠ n.w := by simpa using hbad
        simp [hne, s_bind, s_ret, s_head]
      | false => simp [s_bind, s_ret, s_head]
  by_cases hbad : n.op = 4 ∧ badName K n = true
  · exact stay 72 (by unfold errOf; rw [if_neg hop, if_neg hww, if_neg hpa, if_neg hsp, hso, if_neg (by decide), hwi, if_neg (by decide), if_pos hbad]) (by decide) (hnm hbad.1 hbad.2)
  have herr : errOf L K n = 0 := by unfold errOf; rw [if_neg hop, if_neg hww, if_neg hpa, if_neg hsp, hso, if_neg (by decide), hwi, if_neg (by decide), if_neg hbad]
  have hmk : mkR lim L K n = okR lim L K n := by unfold mkR; rw [herr]; rfl
  rw [hmk]
  have hgood : n.op = 4 → badName K n = false := fun h4 => by
    cases e : badName K n with
    | true => exact absurd ⟨h4, e⟩ hbad
    | false => rfl
  obtain ⟨H', sl', hr, hm⟩ := rest_ok h n (fun h4 j u hq => by
    have hb := hgood h4
    unfold badName at hb
    rw [hq] at hb
    simp at hb
    exact hb.2) hb
  refine ⟨H', sl', hrun.trans ?_, hm⟩
  rw [← hr]
  unfold restM
  by_cases h4 : n.op = 4
  · have hb := hgood h4
    unfold badName at hb
    cases hq : nameAt n.name 0 K with
    | none =>
      rw [hq] at hb hl9
      have hno : nameOk n.name = true := by simpa using hb
      simp only [h4, s_eql, decide_true, s_bool, s_br, if_true, s_nil, s_offs, Nat.zero_add, h.st.l3, n0, n6, n1, s_look hl9, s_ext0, s_ext1, s_call (c50 n.name H), s_not, hno, Bool.not_true, Bool.false_eq_true, if_false, s_bind, s_next]
    | some q =>
      rw [hq] at hb hl9
      have hno : nameOk n.name = true ∧ q.2 = n.w := by simpa using hb
      simp only [h4, s_eql, decide_true, s_bool, s_br, if_true, s_nil, s_offs, Nat.zero_add, h.st.l3, n0, n6, n1, s_look hl9, s_ext0, s_ext1, s_call (c50 n.name H), s_not, s_neq, hno.1, hno.2, Bool.not_true, Bool.false_eq_true, if_false, s_bind, s_next, ne_eq, not_true_eq_false, decide_false]
  · simp only [n0, n1, n6, s_nil, s_offs, Nat.zero_add, h4, s_eql, decide_false, s_bool, s_br, Bool.false_eq_true, if_false, s_bind, s_next]
end Go.AM
/- The Term seat: Make, the program's. -/
set_option linter.unusedVariables false
set_option maxRecDepth 100000
set_option linter.unusedSimpArgs false
namespace Go.AM
open Go
theorem s_build3 {α : Type} (a b c : Int) (k : Value → Option α) : pBuild PP T.a3_int [(0, .int .i64 a), (1, .int .i64 b), (2, .int .i64 c)] k = k (.agg #[.int .i64 a, .int .i64 b, .int .i64 c]) := by
  have : buildV PP T.a3_int [(0, .int .i64 a), (1, .int .i64 b), (2, .int .i64 c)] = some (.agg #[.int .i64 a, .int .i64 b, .int .i64 c]) := by kernel_rfl
  unfold pBuild; rw [this]
theorem s_arr0 {α : Type} (a b c : Value) (k : Value → Option α) : pAtArr 3 false 1 (.agg #[a, b, c]) (.int .i64 0) k = k a := rfl
theorem s_arr1 {α : Type} (a b c : Value) (k : Value → Option α) : pAtArr 3 false 1 (.agg #[a, b, c]) (.int .i64 1) k = k b := rfl
theorem s_arr2 {α : Type} (a b c : Value) (k : Value → Option α) : pAtArr 3 false 1 (.agg #[a, b, c]) (.int .i64 2) k = k c := rfl
theorem loop3 {H : Hp} {p f g : Nat} {lim : Int} {L : List Nd} {sl : Value} (hs : StR H p lim L sl f g) (n : Nd) (S : List Value → Hp → Option Outc)
    (hS : S = fun (l25 : List Value) (H26 : Hp) =>
 pBin PP .lss T.int (l25.getD 0 undef) (.int .i64 3) fun v27 =>
 pBool v27 fun b28 => br b28
 (pAtArr 3 false 1 (.agg #[.int .i64 n.a, .int .i64 n.b, .int .i64 n.c]) (l25.getD 0 undef) fun v29 =>
 pCallF RR F.term_parts [.int .i64 n.op] H26 fun r31 H32 =>
 pBin PP .lss T.int (l25.getD 0 undef) r31 fun v33 =>
 pBool v33 fun b34 => br b34
 (pCallF RR F.term_Store_is [.pointer (some ⟨p, 0, none⟩), v29] H32 fun r35 H36 =>
 pUn .not r35 fun v37 =>
 pBool v37 fun b38 => br b38
 (some (.ret, [(.tuple #[(.int .i64 0), (.int .i64 70)])], H36))
 (pBin PP .add T.int (l25.getD 0 undef) (.int .i64 1) fun v39 =>
 some (.next, [v39], H36)))
 (pBin PP .add T.int (l25.getD 0 undef) (.int .i64 1) fun v40 =>
 some (.next, [v40], H32)))
 (some (.exit 0, [(l25.getD 0 undef)], H26))) :
    loopD S [.int .i64 0] H = if pastParts L n = true then some (.ret, [.tuple #[.int .i64 0, .int .i64 70]], H) else some (.exit 0, [.int .i64 3], H) := by
  have w1 : IntKind.i64.wrap (0 + 1) = 1 := by decide
  have w2 : IntKind.i64.wrap (1 + 1) = 2 := by decide
  have w3 : IntKind.i64.wrap (2 + 1) = 3 := by decide
  have e0 : loopD S [.int .i64 0] H = if (decide (partsT n.op ≥ 1) && !isT L n.a) = true then some (.ret, [.tuple #[.int .i64 0, .int .i64 70]], H) else loopD S [.int .i64 1] H := by
    rw [loopD_eq]
    have : S [.int .i64 0] H = if (decide (partsT n.op ≥ 1) && !isT L n.a) = true then some (.ret, [.tuple #[.int .i64 0, .int .i64 70]], H) else some (.next, [.int .i64 1], H) := by
      rw [hS]
      simp only [s_lss, s_bool, s_br, List.getD_cons_zero, s_arr0, s_call (c29 _ _), s_call (c19 hs), s_not, s_add, w1, decide_eq_true_eq]
      by_cases q : 0 < partsT n.op
      · have q2 : partsT n.op ≥ 1 := by omega
        cases isT L n.a <;> simp [q, q2]
      · have q2 : ¬ partsT n.op ≥ 1 := by omega
        simp [q, q2]
    rw [this]
    split <;> rfl
  have e1 : loopD S [.int .i64 1] H = if (decide (partsT n.op ≥ 2) && !isT L n.b) = true then some (.ret, [.tuple #[.int .i64 0, .int .i64 70]], H) else loopD S [.int .i64 2] H := by
    rw [loopD_eq]
    have : S [.int .i64 1] H = if (decide (partsT n.op ≥ 2) && !isT L n.b) = true then some (.ret, [.tuple #[.int .i64 0, .int .i64 70]], H) else some (.next, [.int .i64 2], H) := by
      rw [hS]
      simp only [s_lss, s_bool, s_br, List.getD_cons_zero, s_arr1, s_call (c29 _ _), s_call (c19 hs), s_not, s_add, w2, decide_eq_true_eq]
      by_cases q : 1 < partsT n.op
      · have q2 : partsT n.op ≥ 2 := by omega
        cases isT L n.b <;> simp [q, q2]
      · have q2 : ¬ partsT n.op ≥ 2 := by omega
        simp [q, q2]
    rw [this]
    split <;> rfl
  have e2 : loopD S [.int .i64 2] H = if (decide (partsT n.op ≥ 3) && !isT L n.c) = true then some (.ret, [.tuple #[.int .i64 0, .int .i64 70]], H) else loopD S [.int .i64 3] H := by
    rw [loopD_eq]
    have : S [.int .i64 2] H = if (decide (partsT n.op ≥ 3) && !isT L n.c) = true then some (.ret, [.tuple #[.int .i64 0, .int .i64 70]], H) else some (.next, [.int .i64 3], H) := by
      rw [hS]
      simp only [s_lss, s_bool, s_br, List.getD_cons_zero, s_arr2, s_call (c29 _ _), s_call (c19 hs), s_not, s_add, w3, decide_eq_true_eq]
      by_cases q : 2 < partsT n.op
      · have q2 : partsT n.op ≥ 3 := by omega
        cases isT L n.c <;> simp [q, q2]
      · have q2 : ¬ partsT n.op ≥ 3 := by omega
        simp [q, q2]
    rw [this]
    split <;> rfl
  have e3 : loopD S [.int .i64 3] H = some (.exit 0, [.int .i64 3], H) := by
    rw [loopD_eq]
    have : S [.int .i64 3] H = some (.exit 0, [.int .i64 3], H) := by
      rw [hS]
      simp [s_lss, s_bool, s_br]
    rw [this]; rfl
  rw [e0, e1, e2, e3]
  unfold pastParts
  cases decide (partsT n.op ≥ 1) && !isT L n.a <;> cases decide (partsT n.op ≥ 2) && !isT L n.b <;> cases decide (partsT n.op ≥ 3) && !isT L n.c <;> rfl

theorem c22 {H : Hp} {p f g : Nat} {lim : Int} {L : List Nd} {K : List (ByteArray × Int)} {sl : Value} (h : StF H p lim L K sl f g) (n : Nd) (hnum : 0 ≤ n.num ∧ n.num < 18446744073709551616)
    (hW : ∀ m ∈ L, 0 ≤ m.w ∧ m.w ≤ 64) (hb : (L.length + 1) * 64 ≤ 2 ^ 47) :
    ∃ H' sl', RR F.term_Store_Make [.pointer (some ⟨p, 0, none⟩), n.val] H = some (.tuple #[.int .i64 (mkR lim L K n).1, .int .i64 (mkR lim L K n).2.1], H') ∧ MkOk H p lim sl f g (mkR lim L K n) H' sl' := by
  have hL : (L.length : Int) ≤ 4611686018427387904 := by omega
  have ha := wT_bd hW n.a
  have hbd := wT_bd hW n.b
  have stay : ∀ e : Int, errOf L K n = e → e ≠ 0 → RR F.term_Store_Make [.pointer (some ⟨p, 0, none⟩), n.val] H = some (.tuple #[.int .i64 0, .int .i64 e], H) →
      ∃ H' sl', RR F.term_Store_Make [.pointer (some ⟨p, 0, none⟩), n.val] H = some (.tuple #[.int .i64 (mkR lim L K n).1, .int .i64 (mkR lim L K n).2.1], H') ∧ MkOk H p lim sl f g (mkR lim L K n) H' sl' := fun e he h0 hr => by
    have hm : mkR lim L K n = (0, e, L, K) := by unfold mkR; rw [he, if_pos h0]
    rw [hm]
    exact ⟨H, sl, hr, MkOk.stay h rfl⟩
  have hrun := r_term_Store_Make E0 rfl (.pointer (some ⟨p, 0, none⟩)) n.val H
  unfold m_term_Store_Make at hrun
  simp only [n0, n1, n2, n3, n4, s_lss, s_gtr, s_bool, s_br, s_bind, s_bind_ite, s_next, s_ret, s_head, decide_eq_true_eq, s_build3] at hrun
  by_cases hop1 : n.op < 1
  · rw [if_pos hop1] at hrun
    exact stay 73 (by unfold errOf; rw [if_pos (.inl hop1)]) (by decide) hrun
  rw [if_neg hop1] at hrun
  by_cases hop2 : n.op > 33
  · rw [if_pos hop2] at hrun
    exact stay 73 (by unfold errOf; rw [if_pos (.inr hop2)]) (by decide) hrun
  rw [if_neg hop2] at hrun
  have hop : ¬ (n.op < 1 ∨ n.op > 33) := by omega
  by_cases hw1 : n.w < 0
  · rw [if_pos hw1] at hrun
    exact stay 5 (by unfold errOf; rw [if_neg hop, if_pos (.inl hw1)]) (by decide) hrun
  rw [if_neg hw1] at hrun
  by_cases hw2 : n.w > 64
  · rw [if_pos hw2] at hrun
    exact stay 5 (by unfold errOf; rw [if_neg hop, if_pos (.inr hw2)]) (by decide) hrun
  rw [if_neg hw2] at hrun
  have hww : ¬ (n.w < 0 ∨ n.w > 64) := by omega
  have hloop := loop3 h.st n _ rfl
  simp only [s_lss, s_bool, s_br, s_not, s_add, decide_eq_true_eq] at hloop
  simp only [s_lss, s_bool, s_br, s_not, s_add, decide_eq_true_eq, hloop] at hrun
  by_cases hpa : pastParts L n = true
  · rw [if_pos hpa] at hrun
    exact stay 70 (by unfold errOf; rw [if_neg hop, if_neg hww, if_pos hpa]) (by decide) hrun
  rw [if_neg hpa] at hrun
  simp only [s_bind, s_exit, s_onExit] at hrun
  have pa : partsT n.op ≥ 1 → isT L n.a = true := fun q => by
    cases e : isT L n.a with
    | true => rfl
    | false => exact absurd (by unfold pastParts; simp [q, e]) hpa
  have hn : n.Ok := ⟨by omega, by omega, by omega, by omega, hnum.1, hnum.2⟩
  rw [n07, s_call (c41 n H), s_bool] at hrun
  by_cases hsp : spareK (partsT n.op) n = true
  · rw [if_pos hsp] at hrun
    exact stay 1 (by unfold errOf; rw [if_neg hop, if_neg hww, if_neg hpa, if_pos hsp]) (by decide) hrun
  rw [if_neg hsp] at hrun
  rw [n07, s_call (c42 h.st hL n), s_not, s_bool] at hrun
  cases hso : sortsOf n.op (wT L (-1) n.a) (wT L (-1) n.b) (wT L (-1) n.c) with
  | false =>
    rw [hso] at hrun
    simp only [Bool.not_false, if_true] at hrun
    exact stay 71 (by unfold errOf; rw [if_neg hop, if_neg hww, if_neg hpa, if_neg hsp, if_pos hso]) (by decide) hrun
  | true =>
  have hsort : n.op ≥ 15 → wT L (-1) n.a > 0 := fun q => by
    have q0 : partsT n.op ≠ 0 := by unfold partsT; (repeat' split) <;> omega
    have := hso
    unfold sortsOf at this
    rw [if_neg q0, if_neg (by omega), if_neg (by omega), if_neg (by omega), if_neg (by omega)] at this
    split at this
    · simp at this; omega
    · split at this
      · simpa using this
      · simp at this; omega
  rw [hso] at hrun
  simp only [Bool.not_true, Bool.false_eq_true, if_false] at hrun
  rw [n07, s_call (c43 h.st hL n hn ha hbd hsort), s_not, s_bool] at hrun
  cases hwi : widthOf n (wT L (-1) n.a) (wT L (-1) n.b) with
  | false =>
    rw [hwi] at hrun
    simp only [Bool.not_false, if_true] at hrun
    exact stay 5 (by unfold errOf; rw [if_neg hop, if_neg hww, if_neg hpa, if_neg hsp, hso, if_neg (by decide), if_pos hwi]) (by decide) hrun
  | true =>
  rw [hwi] at hrun
  simp only [Bool.not_true, Bool.false_eq_true, if_false] at hrun
  have hl9 := look9 h.gm n.name
  have hnm : n.op = 4 → badName K n = true → RR F.term_Store_Make [.pointer (some ⟨p, 0, none⟩), n.val] H = some (.tuple #[.int .i64 0, .int .i64 72], H) := by
    intro h4 hbad
    refine hrun.trans ?_
    simp only [h4, s_eql, decide_true, s_bool, s_br, if_true, s_nil, s_offs, Nat.zero_add, h.st.l3, n6, n1, s_look hl9]
    unfold badName at hbad
    cases hq : nameAt n.name 0 K with
    | none =>
      rw [hq] at hbad
      simp only [s_ext0, s_ext1, s_call (c44 n.name H), s_not, s_bool, s_br]
      cases hno : nameOk n.name with
      | true => rw [hno] at hbad; cases hbad
      | false => simp [s_bind, s_ret, s_head]
    | some q =>
      rw [hq] at hbad
      simp only [s_ext0, s_ext1, s_call (c44 n.name H), s_not, s_bool, s_br, s_neq]
      cases hno : nameOk n.name with
      | true =>
        rw [hno] at hbad
        have hne : q.2 ≠ n.w := by simpa using hbad
        simp [hne, s_bind, s_ret, s_head]
      | false => simp [s_bind, s_ret, s_head]
  by_cases hbad : n.op = 4 ∧ badName K n = true
  · exact stay 72 (by unfold errOf; rw [if_neg hop, if_neg hww, if_neg hpa, if_neg hsp, hso, if_neg (by decide), hwi, if_neg (by decide), if_pos hbad]) (by decide) (hnm hbad.1 hbad.2)
  have herr : errOf L K n = 0 := by unfold errOf; rw [if_neg hop, if_neg hww, if_neg hpa, if_neg hsp, hso, if_neg (by decide), hwi, if_neg (by decide), if_neg hbad]
  have hmk : mkR lim L K n = okR lim L K n := by unfold mkR; rw [herr]; rfl
  rw [hmk]
  have hgood : n.op = 4 → badName K n = false := fun h4 => by
    cases e : badName K n with
    | true => exact absurd ⟨h4, e⟩ hbad
    | false => rfl
  obtain ⟨H', sl', hr, hm⟩ := rest_ok h n (fun h4 j u hq => by
    have hb := hgood h4
    unfold badName at hb
    rw [hq] at hb
    simp at hb
    exact hb.2) hb
  refine ⟨H', sl', hrun.trans ?_, hm⟩
  rw [← hr]
  unfold restM
  by_cases h4 : n.op = 4
  · have hb := hgood h4
    unfold badName at hb
    cases hq : nameAt n.name 0 K with
    | none =>
      rw [hq] at hb hl9
      have hno : nameOk n.name = true := by simpa using hb
      simp only [h4, s_eql, decide_true, s_bool, s_br, if_true, s_nil, s_offs, Nat.zero_add, h.st.l3, n0, n6, n1, s_look hl9, s_ext0, s_ext1, s_call (c44 n.name H), s_not, hno, Bool.not_true, Bool.false_eq_true, if_false, s_bind, s_next]
    | some q =>
      rw [hq] at hb hl9
      have hno : nameOk n.name = true ∧ q.2 = n.w := by simpa using hb
      simp only [h4, s_eql, decide_true, s_bool, s_br, if_true, s_nil, s_offs, Nat.zero_add, h.st.l3, n0, n6, n1, s_look hl9, s_ext0, s_ext1, s_call (c44 n.name H), s_not, s_neq, hno.1, hno.2, Bool.not_true, Bool.false_eq_true, if_false, s_bind, s_next, ne_eq, not_true_eq_false, decide_false]
  · simp only [n0, n1, n6, s_nil, s_offs, Nat.zero_add, h4, s_eql, decide_false, s_bool, s_br, Bool.false_eq_true, if_false, s_bind, s_next]
end Go.AM
/- The Term seat: the calls that make nodes. -/
set_option linter.unusedVariables false
set_option maxRecDepth 100000
set_option linter.unusedSimpArgs false
namespace Go.AM
open Go
theorem bld {α : Type} {P : Program} {t : TypeId} {l : List (Nat × Value)} {v : Value} (h : buildV P t l = some v) (k : Value → Option α) : pBuild P t l k = k v := by unfold pBuild; rw [h]
section
variable {α : Type} (k : Value → Option α)
theorem b0 (o : Int) : pBuild PP T.api_Node [(0, .int .i64 o)] k = k (Nd.val ⟨o, 0, 0, 0, 0, 0, ⟨#[]⟩⟩) := bld (by kernel_rfl) k
theorem b015 (o : Int) (w : Int) (x : Int) : pBuild PP T.api_Node [(0, .int .i64 o), (1, .int .i64 w), (5, .int .u64 x)] k = k (Nd.val ⟨o, w, 0, 0, 0, x, ⟨#[]⟩⟩) := bld (by kernel_rfl) k
theorem b016 (o : Int) (w : Int) (s : ByteArray) : pBuild PP T.api_Node [(0, .int .i64 o), (1, .int .i64 w), (6, .string s)] k = k (Nd.val ⟨o, w, 0, 0, 0, 0, s⟩) := bld (by kernel_rfl) k
theorem b02 (o : Int) (a : Int) : pBuild PP T.api_Node [(0, .int .i64 o), (2, .int .i64 a)] k = k (Nd.val ⟨o, 0, a, 0, 0, 0, ⟨#[]⟩⟩) := bld (by kernel_rfl) k
theorem b012 (o : Int) (w : Int) (a : Int) : pBuild PP T.api_Node [(0, .int .i64 o), (1, .int .i64 w), (2, .int .i64 a)] k = k (Nd.val ⟨o, w, a, 0, 0, 0, ⟨#[]⟩⟩) := bld (by kernel_rfl) k
theorem b023 (o : Int) (a : Int) (b : Int) : pBuild PP T.api_Node [(0, .int .i64 o), (2, .int .i64 a), (3, .int .i64 b)] k = k (Nd.val ⟨o, 0, a, b, 0, 0, ⟨#[]⟩⟩) := bld (by kernel_rfl) k
theorem b0123 (o : Int) (w : Int) (a : Int) (b : Int) : pBuild PP T.api_Node [(0, .int .i64 o), (1, .int .i64 w), (2, .int .i64 a), (3, .int .i64 b)] k = k (Nd.val ⟨o, w, a, b, 0, 0, ⟨#[]⟩⟩) := bld (by kernel_rfl) k
theorem b01234 (o : Int) (w : Int) (a : Int) (b : Int) (c : Int) : pBuild PP T.api_Node [(0, .int .i64 o), (1, .int .i64 w), (2, .int .i64 a), (3, .int .i64 b), (4, .int .i64 c)] k = k (Nd.val ⟨o, w, a, b, c, 0, ⟨#[]⟩⟩) := bld (by kernel_rfl) k
theorem b0125 (o : Int) (w : Int) (a : Int) (x : Int) : pBuild PP T.api_Node [(0, .int .i64 o), (1, .int .i64 w), (2, .int .i64 a), (5, .int .u64 x)] k = k (Nd.val ⟨o, w, a, 0, 0, x, ⟨#[]⟩⟩) := bld (by kernel_rfl) k
end
abbrev Res := Int × Int × List Nd × List (ByteArray × Int)
/-- A call on a store, its answer, and the store behind it. -/
def Does (H : Hp) (p : Nat) (lim : Int) (sl : Value) (f g : Nat) (fn : FuncId) (args : List Value) (r : Res) : Prop :=
  ∃ H' sl', RR fn (.pointer (some ⟨p, 0, none⟩) :: args) H = some (.tuple #[.int .i64 r.1, .int .i64 r.2.1], H') ∧ MkOk H p lim sl f g r H' sl'
theorem Does.wrap {H : Hp} {p : Nat} {lim : Int} {sl : Value} {f g : Nat} {fn fm : FuncId} {xs bs : List Value} {r : Res} (h : Does H p lim sl f g fn xs r)
    (e : RR fm (.pointer (some ⟨p, 0, none⟩) :: bs) H = pCallF RR fn (.pointer (some ⟨p, 0, none⟩) :: xs) H fun r H' => pExtract r 0 fun a => pExtract r 1 fun b => some (.tuple #[a, b], H')) : Does H p lim sl f g fm bs r := by
  obtain ⟨H', sl', h1, h2⟩ := h
  refine ⟨H', sl', ?_, h2⟩
  rw [e, s_call h1]; rfl
/-- A call that is refused. -/
theorem Does.no {H : Hp} {p : Nat} {lim : Int} {L : List Nd} {K : List (ByteArray × Int)} {sl : Value} {f g : Nat} (h : StF H p lim L K sl f g) {fn : FuncId} {xs : List Value} {e : Int}
    (hr : RR fn (.pointer (some ⟨p, 0, none⟩) :: xs) H = some (.tuple #[.int .i64 0, .int .i64 e], H)) : Does H p lim sl f g fn xs (0, e, L, K) := ⟨H, sl, hr, MkOk.stay h rfl⟩
/-- What a store must be for a node more. -/
structure Roomy (L : List Nd) : Prop where
  w : ∀ m ∈ L, 0 ≤ m.w ∧ m.w ≤ 64
  l : (L.length + 1) * 64 ≤ 2 ^ 47
theorem Roomy.len {L : List Nd} (h : Roomy L) : (L.length : Int) ≤ 4611686018427387904 := by have := h.l; omega
theorem s_max {α : Type} (kd : IntKind) (a b : Int) (k : Value → Option α) : pMM true [.int kd a, .int kd b] k = k (.int kd (if b > a then b else a)) := rfl
theorem wT_max {L : List Nd} (h : Roomy L) (t : Int) : (if (0 : Int) > wT L (-1) t then 0 else wT L (-1) t) = wT L 0 t := by
  unfold wT
  split
  · rename_i ht
    obtain ⟨h1, h2⟩ := isT_iff.1 ht
    have hlt : (t - 1).toNat < L.length := by omega
    have hq : L[(t - 1).toNat]? = some L[(t - 1).toNat] := by simp [hlt]
    rw [hq]
    have := h.w _ (List.mem_of_getElem? hq)
    simp only [Option.map_some, Option.getD_some]
    rw [if_neg (by omega)]
  · rfl
theorem wT0_bd {L : List Nd} (h : Roomy L) (t : Int) : 0 ≤ wT L 0 t ∧ wT L 0 t ≤ 64 := by
  rw [← wT_max h]
  have := wT_bd h.w t
  split <;> omega
section
variable {H : Hp} {p f g : Nat} {lim : Int} {L : List Nd} {K : List (ByteArray × Int)} {sl : Value} (h : StF H p lim L K sl f g) (hR : Roomy L)
include h hR
theorem d22 (n : Nd) (hn : 0 ≤ n.num ∧ n.num < 18446744073709551616) : Does H p lim sl f g F.term_Store_Make [n.val] (mkR lim L K n) := c22 h n hn hR.w hR.l
theorem d31 (n : Nd) (hn : 0 ≤ n.num ∧ n.num < 18446744073709551616) : Does H p lim sl f g F.cadenceref07_Store_Make [n.val] (mkR lim L K n) := c31 h n hn hR.w hR.l
def truthN (b : Bool) : Nd := ⟨if b then 1 else 2, 0, 0, 0, 0, 0, ⟨#[]⟩⟩
omit h hR in
theorem nz : (0 : Int) ≤ 0 ∧ (0 : Int) < 18446744073709551616 := by decide
theorem d23 (b : Bool) : Does H p lim sl f g F.term_Store_Truth [.bool b] (mkR lim L K (truthN b)) :=
  (d22 h hR (truthN b) nz).wrap (by refine (r_term_Store_Truth E0 rfl _ _ _).trans ?_; unfold m_term_Store_Truth; simp only [s_bool, b0]; cases b <;> rfl)
theorem d32 (b : Bool) : Does H p lim sl f g F.cadenceref07_Store_Truth [.bool b] (mkR lim L K (truthN b)) :=
  (d31 h hR (truthN b) nz).wrap (by refine (r_cadenceref07_Store_Truth E0 rfl _ _ _).trans ?_; unfold m_cadenceref07_Store_Truth; simp only [s_bool, b0]; cases b <;> rfl)
def constN (w x : Int) : Nd := ⟨3, w, 0, 0, 0, trimS w x, ⟨#[]⟩⟩
omit h hR in
theorem trim_bd (w x : Int) (hx : 0 ≤ x ∧ x < 18446744073709551616) : 0 ≤ trimS w x ∧ trimS w x < 18446744073709551616 := by
  unfold trimS
  split
  · omega
  · split
    · omega
    · have h2 : (0 : Int) < 2 ^ w.toNat := Int.pow_pos (by decide)
      have := Int.emod_nonneg x (show (2 : Int) ^ w.toNat ≠ 0 by omega)
      have h3 : x % 2 ^ w.toNat ≤ x := by
        obtain ⟨n, rfl⟩ := Int.eq_ofNat_of_zero_le hx.1
        have e : ((n : Int) % 2 ^ w.toNat) = ((n % 2 ^ w.toNat : Nat) : Int) := by simp
        rw [e]
        exact Int.ofNat_le.2 (Nat.mod_le _ _)
      omega
theorem d24 (w x : Int) (hx : 0 ≤ x ∧ x < 18446744073709551616) : Does H p lim sl f g F.term_Store_Const [.int .i64 w, .int .u64 x] (mkR lim L K (constN w x)) :=
  (d22 h hR (constN w x) (trim_bd w x hx)).wrap (by refine (r_term_Store_Const E0 rfl _ _ _ _).trans ?_; unfold m_term_Store_Const; simp only [s_call (c45 w x hx.1 hx.2 H), b015]; rfl)
theorem d33 (w x : Int) (hx : 0 ≤ x ∧ x < 18446744073709551616) : Does H p lim sl f g F.cadenceref07_Store_Const [.int .i64 w, .int .u64 x] (mkR lim L K (constN w x)) :=
  (d31 h hR (constN w x) (trim_bd w x hx)).wrap (by refine (r_cadenceref07_Store_Const E0 rfl _ _ _ _).trans ?_; unfold m_cadenceref07_Store_Const; simp only [s_call (c51 w x hx.1 H), b015]; rfl)
def varN (s : ByteArray) (w : Int) : Nd := ⟨4, w, 0, 0, 0, 0, s⟩
theorem d20 (s : ByteArray) (w : Int) : Does H p lim sl f g F.term_Store_Var [.string s, .int .i64 w] (mkR lim L K (varN s w)) :=
  (d22 h hR (varN s w) nz).wrap (by refine (r_term_Store_Var E0 rfl _ _ _ _).trans ?_; unfold m_term_Store_Var; simp only [b016]; rfl)
theorem d34 (s : ByteArray) (w : Int) : Does H p lim sl f g F.cadenceref07_Store_Var [.string s, .int .i64 w] (mkR lim L K (varN s w)) :=
  (d31 h hR (varN s w) nz).wrap (by refine (r_cadenceref07_Store_Var E0 rfl _ _ _ _).trans ?_; unfold m_cadenceref07_Store_Var; simp only [b016]; rfl)
def unR (lim : Int) (L : List Nd) (K : List (ByteArray × Int)) (op a : Int) : Res :=
  if op = 5 then mkR lim L K ⟨op, 0, a, 0, 0, 0, ⟨#[]⟩⟩ else if op = 15 ∨ op = 16 then mkR lim L K ⟨op, wT L 0 a, a, 0, 0, 0, ⟨#[]⟩⟩ else (0, 73, L, K)
theorem d25 (op a : Int) : Does H p lim sl f g F.term_Store_Un [.int .i64 op, .int .i64 a] (unR lim L K op a) := by
  have hrun := r_term_Store_Un E0 rfl (.pointer (some ⟨p, 0, none⟩)) (.int .i64 op) (.int .i64 a) H
  unfold m_term_Store_Un at hrun
  simp only [s_eql, s_bool, s_br, decide_eq_true_eq, s_call (c40 h.st hR.len), s_max, wT_max hR, b02, b012] at hrun
  unfold unR
  by_cases h5 : op = 5
  · rw [if_pos h5] at hrun ⊢
    exact Does.wrap (d22 h hR _ (by exact nz)) hrun
  rw [if_neg h5] at hrun ⊢
  by_cases h15 : op = 15
  · rw [if_pos h15, if_pos h15] at hrun
    rw [if_pos (.inl h15)]
    exact Does.wrap (d22 h hR _ (by exact nz)) hrun
  rw [if_neg h15] at hrun
  by_cases h16 : op = 16
  · rw [if_pos h16] at hrun
    rw [if_pos (.inr h16)]
    exact Does.wrap (d22 h hR _ (by exact nz)) hrun
  rw [if_neg h16] at hrun
  rw [if_neg (by omega)]
  exact Does.no h hrun
theorem d35 (op a : Int) : Does H p lim sl f g F.cadenceref07_Store_Un [.int .i64 op, .int .i64 a] (unR lim L K op a) := by
  have hrun := r_cadenceref07_Store_Un E0 rfl (.pointer (some ⟨p, 0, none⟩)) (.int .i64 op) (.int .i64 a) H
  unfold m_cadenceref07_Store_Un at hrun
  simp only [s_eql, s_bool, s_br, decide_eq_true_eq, s_call (c52 h.st hR.len), s_max, wT_max hR, b02, b012] at hrun
  unfold unR
  by_cases h5 : op = 5
  · rw [if_pos h5] at hrun ⊢
    exact Does.wrap (d31 h hR _ (by exact nz)) hrun
  rw [if_neg h5] at hrun ⊢
  by_cases h15 : op = 15
  · rw [if_pos h15, if_pos h15] at hrun
    rw [if_pos (.inl h15)]
    exact Does.wrap (d31 h hR _ (by exact nz)) hrun
  rw [if_neg h15] at hrun
  by_cases h16 : op = 16
  · rw [if_pos h16] at hrun
    rw [if_pos (.inr h16)]
    exact Does.wrap (d31 h hR _ (by exact nz)) hrun
  rw [if_neg h16] at hrun
  rw [if_neg (by omega)]
  exact Does.no h hrun
theorem d26 (c a b : Int) : Does H p lim sl f g F.term_Store_Ite [.int .i64 c, .int .i64 a, .int .i64 b] (mkR lim L K ⟨14, wT L 0 a, c, a, b, 0, ⟨#[]⟩⟩) :=
  (d22 h hR ⟨14, wT L 0 a, c, a, b, 0, ⟨#[]⟩⟩ nz).wrap (by refine (r_term_Store_Ite E0 rfl _ _ _ _ _).trans ?_; unfold m_term_Store_Ite; simp only [s_call (c40 h.st hR.len), s_max, wT_max hR, b01234])
theorem d37 (c a b : Int) : Does H p lim sl f g F.cadenceref07_Store_Ite [.int .i64 c, .int .i64 a, .int .i64 b] (mkR lim L K ⟨14, wT L 0 a, c, a, b, 0, ⟨#[]⟩⟩) :=
  (d31 h hR ⟨14, wT L 0 a, c, a, b, 0, ⟨#[]⟩⟩ nz).wrap (by refine (r_cadenceref07_Store_Ite E0 rfl _ _ _ _ _).trans ?_; unfold m_cadenceref07_Store_Ite; simp only [s_call (c52 h.st hR.len), s_max, wT_max hR, b01234])
omit h hR in
theorem u64_bd (x : Int) : 0 ≤ IntKind.u64.wrap x ∧ IntKind.u64.wrap x < 18446744073709551616 := by
  simp [IntKind.wrap, IntKind.signed, IntKind.bits]; omega
theorem d27 (a from' n : Int) : Does H p lim sl f g F.term_Store_Slice [.int .i64 a, .int .i64 from', .int .i64 n] (mkR lim L K ⟨31, n, a, 0, 0, IntKind.u64.wrap from', ⟨#[]⟩⟩) :=
  (d22 h hR ⟨31, n, a, 0, 0, IntKind.u64.wrap from', ⟨#[]⟩⟩ (u64_bd _)).wrap (by refine (r_term_Store_Slice E0 rfl _ _ _ _ _).trans ?_; unfold m_term_Store_Slice; simp only [s_conv, b0125])
theorem d38 (a from' n : Int) : Does H p lim sl f g F.cadenceref07_Store_Slice [.int .i64 a, .int .i64 from', .int .i64 n] (mkR lim L K ⟨31, n, a, 0, 0, IntKind.u64.wrap from', ⟨#[]⟩⟩) :=
  (d31 h hR ⟨31, n, a, 0, 0, IntKind.u64.wrap from', ⟨#[]⟩⟩ (u64_bd _)).wrap (by refine (r_cadenceref07_Store_Slice E0 rfl _ _ _ _ _).trans ?_; unfold m_cadenceref07_Store_Slice; simp only [s_conv, b0125])
def extR (lim : Int) (L : List Nd) (K : List (ByteArray × Int)) (op a w : Int) : Res :=
  if op ≠ 32 then if op ≠ 33 then (0, 73, L, K) else mkR lim L K ⟨op, w, a, 0, 0, 0, ⟨#[]⟩⟩ else mkR lim L K ⟨op, w, a, 0, 0, 0, ⟨#[]⟩⟩
theorem d28 (op a w : Int) : Does H p lim sl f g F.term_Store_Ext [.int .i64 op, .int .i64 a, .int .i64 w] (extR lim L K op a w) := by
  have hrun := r_term_Store_Ext E0 rfl (.pointer (some ⟨p, 0, none⟩)) (.int .i64 op) (.int .i64 a) (.int .i64 w) H
  unfold m_term_Store_Ext at hrun
  simp only [s_neq, s_bool, s_br, decide_eq_true_eq, b012] at hrun
  unfold extR
  by_cases h5 : op ≠ 32
  · rw [if_pos h5] at hrun ⊢
    by_cases h6 : op ≠ 33
    · rw [if_pos h6] at hrun ⊢
      exact Does.no h hrun
    · rw [if_neg h6] at hrun ⊢
      exact Does.wrap (d22 h hR _ (by exact nz)) hrun
  · rw [if_neg h5] at hrun ⊢
    exact Does.wrap (d22 h hR _ (by exact nz)) hrun
theorem d39 (op a w : Int) : Does H p lim sl f g F.cadenceref07_Store_Ext [.int .i64 op, .int .i64 a, .int .i64 w] (extR lim L K op a w) := by
  have hrun := r_cadenceref07_Store_Ext E0 rfl (.pointer (some ⟨p, 0, none⟩)) (.int .i64 op) (.int .i64 a) (.int .i64 w) H
  unfold m_cadenceref07_Store_Ext at hrun
  simp only [s_neq, s_bool, s_br, decide_eq_true_eq, b012] at hrun
  unfold extR
  by_cases h5 : op ≠ 32
  · rw [if_pos h5] at hrun ⊢
    by_cases h6 : op ≠ 33
    · rw [if_pos h6] at hrun ⊢
      exact Does.no h hrun
    · rw [if_neg h6] at hrun ⊢
      exact Does.wrap (d31 h hR _ (by exact nz)) hrun
  · rw [if_neg h5] at hrun ⊢
    exact Does.wrap (d31 h hR _ (by exact nz)) hrun
end
end Go.AM
/- The Term seat: Bin, and the calls. -/
set_option linter.unusedVariables false
set_option maxRecDepth 100000
set_option linter.unusedSimpArgs false
namespace Go.AM
open Go
theorem spl7 {α : Type} (n : Nd) (k : List Value → Option α) : pSplice 7 [.int .i64 0, .int .i64 0, .int .i64 0, .int .i64 0, .int .i64 0, .int .u64 0, .string ⟨#[]⟩] 0 n.val k = k n.cells := by
  have : wrCells 7 [.int .i64 0, .int .i64 0, .int .i64 0, .int .i64 0, .int .i64 0, .int .u64 0, .string ⟨#[]⟩] 0 n.val = some n.cells := by kernel_rfl
  unfold pSplice; rw [this]
theorem spl1 {α : Type} (n : Nd) (w : Int) (k : List Value → Option α) : pSplice 1 n.cells 1 (.int .i64 w) k = k (Nd.cells { n with w := w }) := by
  have : wrCells 1 n.cells 1 (.int .i64 w) = some (Nd.cells { n with w := w }) := by kernel_rfl
  unfold pSplice; rw [this]
theorem ncell1 {α : Type} (n : Nd) (k : Value → Option α) : pCell 1 false n.cells 1 k = k (.int .i64 n.w) := s_cell _ 1 _ rfl k
theorem nagg (n : Nd) : Value.agg n.cells.toArray = n.val := rfl
theorem s_drop0 {α : Type} (l : List α) : l.drop 0 = l := rfl
def binR (lim : Int) (L : List Nd) (K : List (ByteArray × Int)) (op a b : Int) : Res :=
  if op ≥ 6 ∧ op ≤ 13 then mkR lim L K ⟨op, 0, a, b, 0, 0, ⟨#[]⟩⟩ else if op ≥ 17 ∧ op ≤ 29 then mkR lim L K ⟨op, wT L 0 a, a, b, 0, 0, ⟨#[]⟩⟩
  else if op = 30 then mkR lim L K ⟨op, if wT L 0 a + wT L 0 b > 64 then 0 else wT L 0 a + wT L 0 b, a, b, 0, 0, ⟨#[]⟩⟩ else (0, 73, L, K)
theorem mk_past {lim : Int} {L : List Nd} {K : List (ByteArray × Int)} (w a b : Int) (hw : 0 ≤ w ∧ w ≤ 64) (hab : ¬ (isT L a = true ∧ isT L b = true)) : mkR lim L K ⟨30, w, a, b, 0, 0, ⟨#[]⟩⟩ = (0, 70, L, K) := by
  have h1 : errOf L K ⟨30, w, a, b, 0, 0, ⟨#[]⟩⟩ = 70 := by
    unfold errOf
    rw [if_neg (by show ¬ ((30 : Int) < 1 ∨ (30 : Int) > 33); decide), if_neg (by show ¬ (w < 0 ∨ w > 64); omega), if_pos]
    unfold pastParts
    have : partsT 30 = 2 := by decide
    simp only [this]
    cases e1 : isT L a <;> cases e2 : isT L b <;> simp_all
  unfold mkR
  rw [h1]; rfl
section
variable {H : Hp} {p f g : Nat} {lim : Int} {L : List Nd} {K : List (ByteArray × Int)} {sl : Value} (h : StF H p lim L K sl f g) (hR : Roomy L)
include h hR
theorem d36 (op a b : Int) : Does H p lim sl f g F.cadenceref07_Store_Bin [.int .i64 op, .int .i64 a, .int .i64 b] (binR lim L K op a b) := by
  have hrun := r_cadenceref07_Store_Bin E0 rfl (.pointer (some ⟨p, 0, none⟩)) (.int .i64 op) (.int .i64 a) (.int .i64 b) H
  unfold m_cadenceref07_Store_Bin at hrun
  have ba := wT0_bd hR a
  have bb := wT0_bd hR b
  simp only [s_eql, s_neq, s_gtr, s_geq, s_leq, s_add, s_bool, s_br, s_bind, s_bind_ite, s_next, s_exit, s_ret, s_onExit, s_head, List.getD_cons_zero, decide_eq_true_eq, s_call (c52 h.st hR.len), b023, b0123, i64_wrap (show -9223372036854775808 ≤ wT L 0 a + wT L 0 b by omega) (show wT L 0 a + wT L 0 b ≤ 9223372036854775807 by omega)] at hrun
  unfold binR
  by_cases h1 : op ≥ 6 ∧ op ≤ 13
  · rw [if_pos h1.1, if_pos h1.2] at hrun
    rw [if_pos h1]
    exact Does.wrap (d31 h hR _ (by exact nz)) hrun
  rw [if_neg h1]
  have hrun2 : RR F.cadenceref07_Store_Bin [.pointer (some ⟨p, 0, none⟩), .int .i64 op, .int .i64 a, .int .i64 b] H = if op ≥ 17 ∧ op ≤ 29 then
      pCallF RR F.cadenceref07_Store_Make [.pointer (some ⟨p, 0, none⟩), Nd.val ⟨op, wT L 0 a, a, b, 0, 0, ⟨#[]⟩⟩] H fun r H' => pExtract r 0 fun a => pExtract r 1 fun b => some (.tuple #[a, b], H')
      else if op = 30 then pCallF RR F.cadenceref07_Store_Make [.pointer (some ⟨p, 0, none⟩), Nd.val ⟨op, if wT L 0 a + wT L 0 b > 64 then 0 else wT L 0 a + wT L 0 b, a, b, 0, 0, ⟨#[]⟩⟩] H fun r H' => pExtract r 0 fun a => pExtract r 1 fun b => some (.tuple #[a, b], H')
      else some (.tuple #[.int .i64 0, .int .i64 73], H) := by
    refine hrun.trans ?_
    by_cases q1 : op ≥ 6 <;> by_cases q2 : op ≤ 13 <;> by_cases q3 : op ≥ 17 <;> by_cases q4 : op ≤ 29 <;> by_cases q5 : op = 30 <;> by_cases q6 : wT L 0 a + wT L 0 b > 64 <;>
      simp only [q1, q2, q3, q4, q5, q6, if_true, if_false, and_self, and_true, and_false, true_and, false_and, decide_true, decide_false, Bool.false_eq_true, s_bind, s_next] <;> first | rfl | omega
  by_cases h2 : op ≥ 17 ∧ op ≤ 29
  · rw [if_pos h2] at hrun2 ⊢
    exact Does.wrap (d31 h hR _ (by exact nz)) hrun2
  rw [if_neg h2] at hrun2 ⊢
  by_cases h3 : op = 30
  · rw [if_pos h3] at hrun2 ⊢
    exact Does.wrap (d31 h hR _ (by exact nz)) hrun2
  rw [if_neg h3] at hrun2 ⊢
  exact Does.no h hrun2
theorem d21 (op a b : Int) : Does H p lim sl f g F.term_Store_Bin [.int .i64 op, .int .i64 a, .int .i64 b] (binR lim L K op a b) := by
  have hrun := r_term_Store_Bin E0 rfl (.pointer (some ⟨p, 0, none⟩)) (.int .i64 op) (.int .i64 a) (.int .i64 b) H
  unfold m_term_Store_Bin at hrun
  have ba := wT0_bd hR a
  have bb := wT0_bd hR b
  simp only [s_eql, s_neq, s_gtr, s_geq, s_leq, s_add, s_bool, s_br, s_not, s_bind, s_bind_ite, s_next, s_exit, s_ret, s_onExit, s_head, s_drop0, List.getD_cons_zero, decide_eq_true_eq, s_call (c40 h.st hR.len), s_call (c19 h.st), s_max, wT_max hR, b023, spl7, spl1, ncell1, nagg, n07, i64_wrap (show -9223372036854775808 ≤ wT L 0 a + wT L 0 b by omega) (show wT L 0 a + wT L 0 b ≤ 9223372036854775807 by omega)] at hrun
  unfold binR
  have hrun2 : RR F.term_Store_Bin [.pointer (some ⟨p, 0, none⟩), .int .i64 op, .int .i64 a, .int .i64 b] H = if op ≥ 6 ∧ op ≤ 13 then
      pCallF RR F.term_Store_Make [.pointer (some ⟨p, 0, none⟩), Nd.val ⟨op, 0, a, b, 0, 0, ⟨#[]⟩⟩] H fun r H' => pExtract r 0 fun a => pExtract r 1 fun b => some (.tuple #[a, b], H')
      else if op ≥ 17 ∧ op ≤ 29 then
      pCallF RR F.term_Store_Make [.pointer (some ⟨p, 0, none⟩), Nd.val ⟨op, wT L 0 a, a, b, 0, 0, ⟨#[]⟩⟩] H fun r H' => pExtract r 0 fun a => pExtract r 1 fun b => some (.tuple #[a, b], H')
      else if op = 30 then pCallF RR F.term_Store_Make [.pointer (some ⟨p, 0, none⟩), Nd.val ⟨op, if wT L 0 a + wT L 0 b > 64 ∨ isT L a = false ∨ isT L b = false then 0 else wT L 0 a + wT L 0 b, a, b, 0, 0, ⟨#[]⟩⟩] H fun r H' => pExtract r 0 fun a => pExtract r 1 fun b => some (.tuple #[a, b], H')
      else some (.tuple #[.int .i64 0, .int .i64 73], H) := by
    refine hrun.trans ?_
    by_cases q1 : op ≥ 6 <;> by_cases q2 : op ≤ 13 <;> by_cases q3 : op ≥ 17 <;> by_cases q4 : op ≤ 29 <;> by_cases q5 : op = 30 <;> by_cases q6 : wT L 0 a + wT L 0 b > 64 <;>
      cases isT L a <;> cases isT L b <;>
      simp only [q1, q2, q3, q4, q5, q6, if_true, if_false, and_self, and_true, and_false, true_and, false_and, or_true, true_or, or_false, false_or, decide_true, decide_false, Bool.false_eq_true, Bool.true_eq_false, Bool.not_true, Bool.not_false, or_self, s_bind, s_next, s_ret, s_head, s_drop0, List.getD_cons_zero, n07] <;> first | rfl | omega
  by_cases h1 : op ≥ 6 ∧ op ≤ 13
  · rw [if_pos h1] at hrun2 ⊢
    exact Does.wrap (d22 h hR _ (by exact nz)) hrun2
  rw [if_neg h1] at hrun2 ⊢
  by_cases h2 : op ≥ 17 ∧ op ≤ 29
  · rw [if_pos h2] at hrun2 ⊢
    exact Does.wrap (d22 h hR _ (by exact nz)) hrun2
  rw [if_neg h2] at hrun2 ⊢
  by_cases h3 : op = 30
  · rw [if_pos h3] at hrun2 ⊢
    have key : mkR lim L K ⟨op, if wT L 0 a + wT L 0 b > 64 then 0 else wT L 0 a + wT L 0 b, a, b, 0, 0, ⟨#[]⟩⟩ = mkR lim L K ⟨op, if wT L 0 a + wT L 0 b > 64 ∨ isT L a = false ∨ isT L b = false then 0 else wT L 0 a + wT L 0 b, a, b, 0, 0, ⟨#[]⟩⟩ := by
      subst h3
      by_cases q : isT L a = true ∧ isT L b = true
      · have : (wT L 0 a + wT L 0 b > 64 ∨ isT L a = false ∨ isT L b = false) ↔ wT L 0 a + wT L 0 b > 64 := by simp [q.1, q.2]
        simp only [this]
      · rw [mk_past _ a b (by split <;> omega) q, mk_past _ a b (by split <;> omega) q]
    rw [key]
    exact Does.wrap (d22 h hR _ (by exact nz)) hrun2
  rw [if_neg h3] at hrun2 ⊢
  exact Does.no h hrun2
end
end Go.AM
/- The Term seat: a script's call. -/
set_option linter.unusedVariables false
set_option maxRecDepth 100000
set_option linter.unusedSimpArgs false
namespace Go.AM
open Go
structure OpA where
  kind : Int
  o : Int
  a : Int
  b : Int
  c : Int
  w : Int
  t : Bool
  x : Int
  name : ByteArray
  n : Nd
def OpA.cells (o : OpA) : List Value := [.int .i64 o.kind, .int .i64 o.o, .int .i64 o.a, .int .i64 o.b, .int .i64 o.c, .int .i64 o.w, .bool o.t, .int .u64 o.x, .string o.name] ++ o.n.cells
def OpA.val (o : OpA) : Value := .agg o.cells.toArray
structure OpA.Ok (o : OpA) : Prop where
  x : 0 ≤ o.x ∧ o.x < 18446744073709551616
  n : 0 ≤ o.n.num ∧ o.n.num < 18446744073709551616
section
variable {α : Type} (o : OpA) (k : Value → Option α)
theorem o0 : pCell 1 false (cellsL o.val) 0 k = k (.int .i64 o.kind) := s_cell _ 0 _ rfl k
theorem o1 : pCell 1 false (cellsL o.val) 1 k = k (.int .i64 o.o) := s_cell _ 1 _ rfl k
theorem o2 : pCell 1 false (cellsL o.val) 2 k = k (.int .i64 o.a) := s_cell _ 2 _ rfl k
theorem o3 : pCell 1 false (cellsL o.val) 3 k = k (.int .i64 o.b) := s_cell _ 3 _ rfl k
theorem o4 : pCell 1 false (cellsL o.val) 4 k = k (.int .i64 o.c) := s_cell _ 4 _ rfl k
theorem o5 : pCell 1 false (cellsL o.val) 5 k = k (.int .i64 o.w) := s_cell _ 5 _ rfl k
theorem o6 : pCell 1 false (cellsL o.val) 6 k = k (.bool o.t) := s_cell _ 6 _ rfl k
theorem o7 : pCell 1 false (cellsL o.val) 7 k = k (.int .u64 o.x) := s_cell _ 7 _ rfl k
theorem o8 : pCell 1 false (cellsL o.val) 8 k = k (.string o.name) := s_cell _ 8 _ rfl k
theorem o9 : pCell 7 true (cellsL o.val) 9 k = k o.n.val := rfl
end
/-- What a call answers, and the store behind it. -/
def askR (lim : Int) (L : List Nd) (K : List (ByteArray × Int)) (o : OpA) : Res :=
  if o.kind = 1 then mkR lim L K o.n else if o.kind = 2 then mkR lim L K (truthN o.t) else if o.kind = 3 then mkR lim L K (constN o.w o.x)
  else if o.kind = 4 then mkR lim L K (varN o.name o.w) else if o.kind = 5 then unR lim L K o.o o.a else if o.kind = 6 then binR lim L K o.o o.a o.b
  else if o.kind = 7 then mkR lim L K ⟨14, wT L 0 o.b, o.a, o.b, o.c, 0, ⟨#[]⟩⟩ else if o.kind = 8 then mkR lim L K ⟨31, o.c, o.a, 0, 0, IntKind.u64.wrap o.b, ⟨#[]⟩⟩
  else if o.kind = 9 then extR lim L K o.o o.a o.w else (0, 0, L, K)
section
variable {H : Hp} {p f g : Nat} {lim : Int} {L : List Nd} {K : List (ByteArray × Int)} {sl : Value} (h : StF H p lim L K sl f g) (hR : Roomy L)
include h hR
theorem d12 (o : OpA) (ho : o.Ok) : Does H p lim sl f g F.cadencelaw07_Ask [o.val] (askR lim L K o) := by
  have hrun := r_cadencelaw07_Ask E0 rfl (.pointer (some ⟨p, 0, none⟩)) o.val H
  unfold m_cadencelaw07_Ask at hrun
  simp only [s_eql, s_bool, s_br, decide_eq_true_eq, o0, o1, o2, o3, o4, o5, o6, o7, o8, o9] at hrun
  unfold askR
  by_cases k1 : o.kind = 1
  · rw [if_pos k1] at hrun ⊢
    exact Does.wrap (d22 h hR _ ho.n) hrun
  rw [if_neg k1] at hrun ⊢
  by_cases k2 : o.kind = 2
  · rw [if_pos k2] at hrun ⊢
    exact Does.wrap (d23 h hR _) hrun
  rw [if_neg k2] at hrun ⊢
  by_cases k3 : o.kind = 3
  · rw [if_pos k3] at hrun ⊢
    exact Does.wrap (d24 h hR _ _ ho.x) hrun
  rw [if_neg k3] at hrun ⊢
  by_cases k4 : o.kind = 4
  · rw [if_pos k4] at hrun ⊢
    exact Does.wrap (d20 h hR _ _) hrun
  rw [if_neg k4] at hrun ⊢
  by_cases k5 : o.kind = 5
  · rw [if_pos k5] at hrun ⊢
    exact Does.wrap (d25 h hR _ _) hrun
  rw [if_neg k5] at hrun ⊢
  by_cases k6 : o.kind = 6
  · rw [if_pos k6] at hrun ⊢
    exact Does.wrap (d21 h hR _ _ _) hrun
  rw [if_neg k6] at hrun ⊢
  by_cases k7 : o.kind = 7
  · rw [if_pos k7] at hrun ⊢
    exact Does.wrap (d26 h hR _ _ _) hrun
  rw [if_neg k7] at hrun ⊢
  by_cases k8 : o.kind = 8
  · rw [if_pos k8] at hrun ⊢
    exact Does.wrap (d27 h hR _ _ _) hrun
  rw [if_neg k8] at hrun ⊢
  by_cases k9 : o.kind = 9
  · rw [if_pos k9] at hrun ⊢
    exact Does.wrap (d28 h hR _ _ _) hrun
  rw [if_neg k9] at hrun ⊢
  exact Does.no h hrun
theorem d18 (o : OpA) (ho : o.Ok) : Does H p lim sl f g F.cadencelaw07_Also [o.val] (askR lim L K o) := by
  have hrun := r_cadencelaw07_Also E0 rfl (.pointer (some ⟨p, 0, none⟩)) o.val H
  unfold m_cadencelaw07_Also at hrun
  simp only [s_eql, s_bool, s_br, decide_eq_true_eq, o0, o1, o2, o3, o4, o5, o6, o7, o8, o9] at hrun
  unfold askR
  by_cases k1 : o.kind = 1
  · rw [if_pos k1] at hrun ⊢
    exact Does.wrap (d31 h hR _ ho.n) hrun
  rw [if_neg k1] at hrun ⊢
  by_cases k2 : o.kind = 2
  · rw [if_pos k2] at hrun ⊢
    exact Does.wrap (d32 h hR _) hrun
  rw [if_neg k2] at hrun ⊢
  by_cases k3 : o.kind = 3
  · rw [if_pos k3] at hrun ⊢
    exact Does.wrap (d33 h hR _ _ ho.x) hrun
  rw [if_neg k3] at hrun ⊢
  by_cases k4 : o.kind = 4
  · rw [if_pos k4] at hrun ⊢
    exact Does.wrap (d34 h hR _ _) hrun
  rw [if_neg k4] at hrun ⊢
  by_cases k5 : o.kind = 5
  · rw [if_pos k5] at hrun ⊢
    exact Does.wrap (d35 h hR _ _) hrun
  rw [if_neg k5] at hrun ⊢
  by_cases k6 : o.kind = 6
  · rw [if_pos k6] at hrun ⊢
    exact Does.wrap (d36 h hR _ _ _) hrun
  rw [if_neg k6] at hrun ⊢
  by_cases k7 : o.kind = 7
  · rw [if_pos k7] at hrun ⊢
    exact Does.wrap (d37 h hR _ _ _) hrun
  rw [if_neg k7] at hrun ⊢
  by_cases k8 : o.kind = 8
  · rw [if_pos k8] at hrun ⊢
    exact Does.wrap (d38 h hR _ _ _) hrun
  rw [if_neg k8] at hrun ⊢
  by_cases k9 : o.kind = 9
  · rw [if_pos k9] at hrun ⊢
    exact Does.wrap (d39 h hR _ _ _) hrun
  rw [if_neg k9] at hrun ⊢
  exact Does.no h hrun
end
/-- A new store. -/
theorem new61 {α : Type} (lim : Int) (v w : Nat) (k : Value → Option α) : pBuild PP T.term_Store [(0, .int .i64 lim), (2, .map (some v)), (3, .map (some w))] k = k (.agg #[.int .i64 lim, .slice none 0 0, .map (some v), .map (some w)]) := bld (by kernel_rfl) k
theorem new33 {α : Type} (lim : Int) (v w : Nat) (k : Value → Option α) : pBuild PP T.cadenceref07_Store [(0, .int .i64 lim), (2, .map (some v)), (3, .map (some w))] k = k (.agg #[.int .i64 lim, .slice none 0 0, .map (some v), .map (some w)]) := bld (by kernel_rfl) k
def newH (lim : Int) (H : Hp) : Hp := ((H.new (.map [])).new (.map [])).new (.cells [.int .i64 lim, .slice none 0 0, .map (some H.next), .map (some (H.next + 1))] true)
theorem newH_st (lim : Int) (H : Hp) : StF (newH lim H) (H.next + 2) lim [] [] (.slice none 0 0) H.next (H.next + 1) := by
  refine ⟨⟨?_, .inl ⟨rfl, rfl⟩⟩, ?_, ?_, by omega, by omega, by omega, ?_, ?_, ?_, fun i hi => by cases hi⟩
  · exact if_pos rfl
  · unfold newH; rw [g_new, if_neg (by show ¬ H.next = H.next + 1 + 1; omega), g_new, if_neg (by show ¬ H.next = H.next + 1; omega), g_new, if_pos rfl]; rfl
  · unfold newH; rw [g_new, if_neg (by show ¬ H.next + 1 = H.next + 1 + 1; omega), g_new]; exact if_pos rfl
  · show H.next + 2 < H.next + 1 + 1 + 1; omega
  · show H.next < H.next + 1 + 1 + 1; omega
  · show H.next + 1 < H.next + 1 + 1 + 1; omega
theorem newH_old (lim : Int) (H : Hp) (j : Nat) (hj : j < H.next) : (newH lim H).get j = H.get j := by
  unfold newH
  rw [g_new, if_neg (by show ¬ j = H.next + 1 + 1; omega), g_new, if_neg (by show ¬ j = H.next + 1; omega), g_new, if_neg (by omega)]
theorem newH_next (lim : Int) (H : Hp) : (newH lim H).next = H.next + 3 := rfl
theorem c16 (lim : Int) (H : Hp) : RR F.term_New [.int .i64 lim] H = if lim < 0 then some (.tuple #[.pointer none, .int .i64 1], H) else some (.tuple #[.pointer (some ⟨H.next + 2, 0, none⟩), .int .i64 0], newH lim H) := by
  refine (r_term_New E0 rfl _ _).trans ?_
  unfold m_term_New
  simp only [s_lss, s_bool, s_br, decide_eq_true_eq, pNewMap, pAlloc, new61]
  rfl
theorem c17 (lim : Int) (H : Hp) : RR F.cadenceref07_New [.int .i64 lim] H = if lim < 0 then some (.tuple #[.pointer none, .int .i64 1], H) else some (.tuple #[.pointer (some ⟨H.next + 2, 0, none⟩), .int .i64 0], newH lim H) := by
  refine (r_cadenceref07_New E0 rfl _ _).trans ?_
  unfold m_cadenceref07_New
  simp only [s_lss, s_bool, s_br, decide_eq_true_eq, pNewMap, pAlloc, new33]
  rfl
end Go.AM
/- The Term seat: two stores behind a script. -/
set_option linter.unusedVariables false
set_option maxRecDepth 100000
set_option linter.unusedSimpArgs false
namespace Go.AM
open Go
/-- The objects of a store. -/
def Foot (p f g : Nat) (sl : Value) (i : Nat) : Prop := i = p ∨ i = f ∨ i = g ∨ slId sl = some i
theorem StF.foot_lt {H : Hp} {p f g : Nat} {lim : Int} {L : List Nd} {K : List (ByteArray × Int)} {sl : Value} (h : StF H p lim L K sl f g) {i : Nat} (hi : Foot p f g sl i) : i < H.next := by
  rcases hi with rfl | rfl | rfl | hi
  · exact h.lp
  · exact h.lf
  · exact h.lg
  · exact (h.sa i hi).2.2.2
theorem StF.own {H : Hp} {p f g : Nat} {lim : Int} {L : List Nd} {K : List (ByteArray × Int)} {sl : Value} (h : StF H p lim L K sl f g) {i : Nat} (hi : Foot p f g sl i) : ∃ o, H.get i = some o ∧ o.own = true := by
  rcases hi with rfl | rfl | rfl | hi
  · exact ⟨_, h.st.obj, rfl⟩
  · exact ⟨_, h.fm, rfl⟩
  · exact ⟨_, h.gm, rfl⟩
  · rcases h.st.all with ⟨_, e⟩ | ⟨j, e, hj⟩
    · rw [e] at hi; cases hi
    · rw [e] at hi; cases hi; exact ⟨_, hj, rfl⟩
theorem StF.keep {H H' : Hp} {p f g : Nat} {lim : Int} {L : List Nd} {K : List (ByteArray × Int)} {sl : Value} (h : StF H p lim L K sl f g) (hg : ∀ i, Foot p f g sl i → H'.get i = H.get i) (hn : H.next ≤ H'.next) : StF H' p lim L K sl f g := by
  refine ⟨⟨?_, ?_⟩, ?_, ?_, h.pf, h.pg, h.fg, Nat.lt_of_lt_of_le h.lp hn, Nat.lt_of_lt_of_le h.lf hn, Nat.lt_of_lt_of_le h.lg hn, fun i hi => ?_⟩
  · rw [hg p (.inl rfl)]; exact h.st.obj
  · rcases h.st.all with e | ⟨j, e, hj⟩
    · exact .inl e
    · exact .inr ⟨j, e, by rw [hg j (.inr (.inr (.inr (by rw [e]; rfl))))]; exact hj⟩
  · rw [hg f (.inr (.inl rfl))]; exact h.fm
  · rw [hg g (.inr (.inr (.inl rfl)))]; exact h.gm
  · obtain ⟨a, b, c, d⟩ := h.sa i hi
    exact ⟨a, b, c, Nat.lt_of_lt_of_le d hn⟩
theorem MkOk.foot {H H' : Hp} {p f g : Nat} {lim : Int} {sl sl' : Value} {r : Res} (h : MkOk H p lim sl f g r H' sl') {i : Nat} (hi : Foot p f g sl' i) : Foot p f g sl i ∨ H.next ≤ i := by
  rcases hi with e | e | e | e
  · exact .inl (.inl e)
  · exact .inl (.inr (.inl e))
  · exact .inl (.inr (.inr (.inl e)))
  · exact (h.own i e).imp (fun q => .inr (.inr (.inr q))) id
theorem MkOk.same {H H' : Hp} {p f g : Nat} {lim : Int} {sl sl' : Value} {r : Res} (h : MkOk H p lim sl f g r H' sl') {i : Nat} (hl : i < H.next) (hi : ¬ Foot p f g sl i) : H'.get i = H.get i :=
  h.frame i hl (fun e => hi (.inl e)) (fun e => hi (.inr (.inl e))) (fun e => hi (.inr (.inr (.inl e)))) (fun e => hi (.inr (.inr (.inr e))))
/-- Two stores of the same terms. -/
structure Two (H : Hp) (lim : Int) (L : List Nd) (K : List (ByteArray × Int)) (p f g : Nat) (sl : Value) (q f' g' : Nat) (sl' : Value) : Prop where
  a : StF H p lim L K sl f g
  b : StF H q lim L K sl' f' g'
  ap : ∀ i, Foot p f g sl i → Foot q f' g' sl' i → False

/-- A step widens no term, and adds one at the most. -/
theorem mk_w {lim : Int} {L : List Nd} {K : List (ByteArray × Int)} {n : Nd} (h : ∀ m ∈ L, 0 ≤ m.w ∧ m.w ≤ 64) : (∀ m ∈ (mkR lim L K n).2.2.1, 0 ≤ m.w ∧ m.w ≤ 64) ∧ (mkR lim L K n).2.2.1.length ≤ L.length + 1 := by
  unfold mkR
  by_cases he : errOf L K n ≠ 0
  · rw [if_pos he]; exact ⟨h, by simp⟩
  rw [if_neg he]
  split
  · exact ⟨h, by simp⟩
  · split
    · exact ⟨h, by simp⟩
    · refine ⟨fun m hm => ?_, by simp⟩
      simp only [List.mem_append, List.mem_singleton] at hm
      rcases hm with hm | rfl
      · exact h m hm
      · unfold errOf at he
        split at he
        · exact absurd (by decide) he
        · split at he
          · exact absurd (by decide) he
          · omega
theorem q_ite {Q : Res → Prop} {c : Prop} [Decidable c] {x y : Res} (h1 : Q x) (h2 : Q y) : Q (if c then x else y) := by split <;> assumption
theorem ask_ind {Q : Res → Prop} {lim : Int} {L : List Nd} {K : List (ByteArray × Int)} (hm : ∀ n, Q (mkR lim L K n)) (hn : ∀ e, Q (0, e, L, K)) (o : OpA) : Q (askR lim L K o) := by
  unfold askR unR binR extR
  repeat' first | exact hm _ | exact hn _ | refine q_ite (Q := Q) ?_ ?_
theorem ask_w {lim : Int} {L : List Nd} {K : List (ByteArray × Int)} {o : OpA} (h : ∀ m ∈ L, 0 ≤ m.w ∧ m.w ≤ 64) : (∀ m ∈ (askR lim L K o).2.2.1, 0 ≤ m.w ∧ m.w ≤ 64) ∧ (askR lim L K o).2.2.1.length ≤ L.length + 1 :=
  ask_ind (Q := fun r => (∀ m ∈ r.2.2.1, 0 ≤ m.w ∧ m.w ≤ 64) ∧ r.2.2.1.length ≤ L.length + 1) (fun n => mk_w h) (fun e => ⟨h, by simp⟩) o
/-- The stores behind a script. -/
def runR (lim : Int) : List OpA → List Nd → List (ByteArray × Int) → List Nd × List (ByteArray × Int)
  | [], L, K => (L, K)
  | o :: r, L, K => runR lim r (askR lim L K o).2.2.1 (askR lim L K o).2.2.2
/-- A script, as a slice that is only read. -/
def ScR (H : Hp) (x : Value) (os : List OpA) : Prop :=
  (os = [] ∧ x = .slice none 0 0) ∨ ∃ y, x = .slice (some ⟨y, 0, some 16⟩) os.length os.length ∧ H.get y = some (.cells (os.flatMap OpA.cells) false) ∧ y < H.next
theorem ops_len (o : OpA) : o.cells.length = 16 := rfl
theorem flat_at (os : List OpA) : ∀ i o, os[i]? = some o → ((os.flatMap OpA.cells).drop (i * 16)).take 16 = o.cells := by
  induction os with
  | nil => intro i o h; cases h
  | cons a os ih =>
    intro i o h
    rw [List.flatMap_cons]
    cases i with
    | zero => cases h; rw [Nat.zero_mul, List.drop_zero, List.take_append_of_le_length (by rw [ops_len]; omega), List.take_of_length_le (by rw [ops_len]; omega)]
    | succ i =>
      rw [List.drop_append, List.drop_of_length_le (by rw [ops_len]; omega), ops_len, List.nil_append, show (i + 1) * 16 - 16 = i * 16 by omega]
      exact ih i o h
theorem ops_flat_len (os : List OpA) : (os.flatMap OpA.cells).length = os.length * 16 := by
  induction os with
  | nil => rfl
  | cons a os ih => rw [List.flatMap_cons, List.length_append, ih, ops_len, List.length_cons]; omega
theorem ScR.at {α : Type} {H : Hp} {x : Value} {os : List OpA} (h : ScR H x os) {i : Nat} {o : OpA} (ho : os[i]? = some o) :
    ∃ y, y < H.next ∧ H.get y = some (.cells (os.flatMap OpA.cells) false) ∧ ∀ (β : Type) (k : Value → Option β), pIdx 16 x (.int .i64 (i : Int)) k = k (.pointer (some ⟨y, i * 16, none⟩)) := by
  have hlt : i < os.length := (List.getElem?_eq_some_iff.1 ho).1
  rcases h with ⟨rfl, _⟩ | ⟨y, rfl, hy⟩
  · cases ho
  · refine ⟨y, hy.2, hy.1, fun β k => ?_⟩
    unfold pIdx idxV
    have : (16 : Nat) = 16 ∧ (0 : Int) ≤ (i : Int) ∧ (i : Int) < (os.length : Int) := ⟨rfl, by omega, by omega⟩
    simp only [this, and_self, if_true, Nat.zero_add, Int.toNat_natCast]
theorem ScR.ld {α : Type} {H : Hp} {os : List OpA} {y : Nat} (h : H.get y = some (.cells (os.flatMap OpA.cells) false)) {i : Nat} {o : OpA} (ho : os[i]? = some o) (k : Value → Option α) :
    pLoad 16 true H (.pointer (some ⟨y, i * 16, none⟩)) k = k o.val := by
  have hlt : i < os.length := (List.getElem?_eq_some_iff.1 ho).1
  have h1 : i * 16 + 16 ≤ (os.flatMap OpA.cells).length := by rw [ops_flat_len]; omega
  simp only [pLoad, Hp.rdP, Hp.rd, h, rdCells, h1, if_true, flat_at os i o ho]
  rfl
theorem ScR.len {α : Type} {H : Hp} {x : Value} {os : List OpA} (h : ScR H x os) (H' : Hp) (k : Value → Option α) : pLen .sl x H' k = k (.int .i64 os.length) := by
  rcases h with ⟨rfl, rfl⟩ | ⟨y, rfl, hy⟩ <;> rfl
theorem ScR.keep {H H' : Hp} {x : Value} {os : List OpA} (h : ScR H x os) (hg : ∀ y cs, y < H.next → H.get y = some (.cells cs false) → H'.get y = some (.cells cs false)) (hn : H.next ≤ H'.next) : ScR H' x os := by
  rcases h with e | ⟨y, e, hy⟩
  · exact .inl e
  · exact .inr ⟨y, e, hg _ _ hy.2 hy.1, Nat.lt_of_lt_of_le hy.2 hn⟩
end Go.AM
/- The Term seat: what Make does to a store, plainly. -/
set_option linter.unusedVariables false
set_option maxRecDepth 100000
set_option linter.unusedSimpArgs false
namespace Go.AM
open Go
/-- A store's order: widths, parts ahead, each node once, no more than the limit. -/
structure Inv (lim : Int) (L : List Nd) : Prop where
  w : ∀ m ∈ L, 0 ≤ m.w ∧ m.w ≤ 64
  parts : ∀ (i : Nat) m, L[i]? = some m → m.a ≤ i ∧ m.b ≤ i ∧ m.c ≤ i
  nod : ∀ (i j : Nat) m, L[i]? = some m → L[j]? = some m → i = j
  lim : lim > 0 → (L.length : Int) ≤ lim
theorem Inv.nil (lim : Int) : Inv lim [] := ⟨fun m h => (by cases h), fun i m h => (by cases h), fun i j m h => (by cases h), fun h => by simp; omega⟩
theorem nodeEq_iff' (n m : Nd) : nodeEq n m = true ↔ n = m := by
  cases n; cases m
  unfold nodeEq
  simp [ba_eq]
theorem placeOf_some (n : Nd) : ∀ (L : List Nd) (i q : Nat), placeOf n i L = some q → i ≤ q ∧ L[q - i]? = some n
  | [], i, q, h => by cases h
  | m :: r, i, q, h => by
    unfold placeOf at h
    split at h
    · rename_i e
      cases h
      have := (nodeEq_iff' n m).1 e
      subst this
      exact ⟨Nat.le_refl _, by simp⟩
    · obtain ⟨h1, h2⟩ := placeOf_some n r (i + 1) q h
      refine ⟨by omega, ?_⟩
      rw [show q - i = (q - (i + 1)) + 1 by omega]
      simpa using h2
theorem placeOf_none (n : Nd) : ∀ (L : List Nd) (i : Nat), placeOf n i L = none → ∀ (j : Nat), L[j]? ≠ some n
  | [], i, h, j, e => by cases e
  | m :: r, i, h, j, e => by
    unfold placeOf at h
    split at h
    · cases h
    · rename_i ne
      cases j with
      | zero => simp at e; subst e; exact ne ((nodeEq_iff' _ _).2 rfl)
      | succ j => exact placeOf_none n r (i + 1) h j (by simpa using e)
theorem placeOf_last (n : Nd) : ∀ (L : List Nd) (i : Nat), placeOf n i L = none → placeOf n i (L ++ [n]) = some (i + L.length)
  | [], i, h => by
    show placeOf n i [n] = _
    unfold placeOf
    rw [if_pos ((nodeEq_iff' n n).2 rfl)]; rfl
  | m :: r, i, h => by
    unfold placeOf at h
    split at h
    · cases h
    · rename_i ne
      show placeOf n i (m :: (r ++ [n])) = _
      unfold placeOf
      rw [if_neg ne, placeOf_last n r (i + 1) h, List.length_cons]
      congr 1; omega
theorem isT_app {L : List Nd} {m : Nd} {t : Int} (h : isT L t = true) : isT (L ++ [m]) t = true := by
  obtain ⟨h1, h2⟩ := isT_iff.1 h
  exact isT_iff.2 ⟨h1, by simp; omega⟩
theorem wT_app {L : List Nd} {m : Nd} {d t : Int} (h : isT L t = true ∨ t ≤ 0) : wT (L ++ [m]) d t = wT L d t := by
  rcases h with h | h
  · obtain ⟨h1, h2⟩ := isT_iff.1 h
    unfold wT
    rw [if_pos h, if_pos (isT_app h), List.getElem?_append_left (by omega)]
  · have e1 : ∀ M : List Nd, isT M t = false := fun M => by
      cases e : isT M t with
      | false => rfl
      | true => have := (isT_iff.1 e).1; omega
    unfold wT
    rw [if_neg (by rw [e1]; decide), if_neg (by rw [e1]; decide)]
theorem partsT_cases (op : Int) : partsT op = 0 ∨ partsT op = 1 ∨ partsT op = 2 ∨ partsT op = 3 := by
  unfold partsT
  split
  · exact .inl rfl
  · split
    · exact .inr (.inl rfl)
    · split
      · exact .inr (.inr (.inr rfl))
      · exact .inr (.inr (.inl rfl))
/-- Of a node that is right: each part is a term, or 0. -/
theorem parts_ok {L : List Nd} {n : Nd} (h1 : ¬ pastParts L n = true) (h2 : ¬ spareK (partsT n.op) n = true) :
    (isT L n.a = true ∨ n.a = 0) ∧ (isT L n.b = true ∨ n.b = 0) ∧ (isT L n.c = true ∨ n.c = 0) ∧ (partsT n.op ≥ 1 → isT L n.a = true) ∧ (partsT n.op ≥ 2 → isT L n.b = true) ∧ (partsT n.op ≥ 3 → isT L n.c = true) := by
  unfold pastParts at h1
  unfold spareK at h2
  simp only [Bool.or_eq_true, Bool.and_eq_true, decide_eq_true_eq, Bool.not_eq_true', not_or, not_and, Bool.not_eq_false] at h1 h2
  have ha : partsT n.op ≥ 1 → isT L n.a = true := h1.1.1
  have hb : partsT n.op ≥ 2 → isT L n.b = true := h1.1.2
  have hc : partsT n.op ≥ 3 → isT L n.c = true := h1.2
  refine ⟨?_, ?_, ?_, ha, hb, hc⟩
  · rcases Int.lt_or_le (partsT n.op) 1 with q | q
    · right; have := h2.1.1.1.1 q; omega
    · exact .inl (ha q)
  · rcases Int.lt_or_le (partsT n.op) 2 with q | q
    · right; have := h2.1.1.1.2 q; omega
    · exact .inl (hb q)
  · rcases Int.lt_or_le (partsT n.op) 3 with q | q
    · right; have := h2.1.1.2 q; omega
    · exact .inl (hc q)
theorem nameAt_app (s t : ByteArray) (w : Int) : ∀ (K : List (ByteArray × Int)) (i : Nat), nameAt s i K = none → nameAt s i (K ++ [(s, w)]) = some (i + K.length, w)
  | [], i, h => by
    show nameAt s i [(s, w)] = _
    unfold nameAt
    rw [if_pos ((ba_eq s s).2 rfl)]; rfl
  | (u, v) :: r, i, h => by
    unfold nameAt at h
    split at h
    · cases h
    · rename_i ne
      show nameAt s i ((u, v) :: (r ++ [(s, w)])) = _
      unfold nameAt
      rw [if_neg ne, nameAt_app s t w r (i + 1) h, List.length_cons]
      congr 2; omega
theorem badName_set {K : List (ByteArray × Int)} {n : Nd} (h : badName K n = false) : badName (nameSet n.name n.w K) n = false := by
  unfold nameSet
  cases hq : nameAt n.name 0 K with
  | some q => exact h
  | none =>
    unfold badName at h ⊢
    rw [hq] at h
    rw [nameAt_app n.name n.name n.w K 0 hq]
    simpa using h
/-- The parts of being right. -/
structure Right (L : List Nd) (K : List (ByteArray × Int)) (n : Nd) : Prop where
  op : ¬ (n.op < 1 ∨ n.op > 33)
  w : ¬ (n.w < 0 ∨ n.w > 64)
  pt : ¬ pastParts L n = true
  sp : ¬ spareK (partsT n.op) n = true
  so : ¬ sortsOf n.op (wT L (-1) n.a) (wT L (-1) n.b) (wT L (-1) n.c) = false
  wi : ¬ widthOf n (wT L (-1) n.a) (wT L (-1) n.b) = false
  nm : ¬ (n.op = 4 ∧ badName K n = true)
theorem right_iff {L : List Nd} {K : List (ByteArray × Int)} {n : Nd} : errOf L K n = 0 ↔ Right L K n := by
  constructor
  · intro h
    unfold errOf at h
    split at h
    · cases h
    · split at h
      · cases h
      · split at h
        · cases h
        · split at h
          · cases h
          · split at h
            · cases h
            · split at h
              · cases h
              · split at h
                · cases h
                · constructor <;> assumption
  · rintro ⟨h1, h2, h3, h4, h5, h6, h7⟩
    unfold errOf
    rw [if_neg h1, if_neg h2, if_neg h3, if_neg h4, if_neg h5, if_neg h6, if_neg h7]
theorem Right.app {L : List Nd} {K K' : List (ByteArray × Int)} {n m : Nd} (h : Right L K n) (hk : n.op = 4 → badName K' n = false) : Right (L ++ [m]) K' n := by
  obtain ⟨ga, gb, gc, ha, hb, hc⟩ := parts_ok h.pt h.sp
  have ea := wT_app (m := m) (d := -1) (ga.imp id (fun e => by omega) : isT L n.a = true ∨ n.a ≤ 0)
  have eb := wT_app (m := m) (d := -1) (gb.imp id (fun e => by omega) : isT L n.b = true ∨ n.b ≤ 0)
  have ec := wT_app (m := m) (d := -1) (gc.imp id (fun e => by omega) : isT L n.c = true ∨ n.c ≤ 0)
  refine ⟨h.op, h.w, ?_, h.sp, ?_, ?_, fun q => ?_⟩
  · intro q
    unfold pastParts at q
    simp only [Bool.or_eq_true, Bool.and_eq_true, decide_eq_true_eq, Bool.not_eq_true'] at q
    rcases q with (⟨q1, q2⟩ | ⟨q1, q2⟩) | ⟨q1, q2⟩
    · rw [isT_app (ha q1)] at q2; cases q2
    · rw [isT_app (hb q1)] at q2; cases q2
    · rw [isT_app (hc q1)] at q2; cases q2
  · rw [ea, eb, ec]; exact h.so
  · rw [ea, eb]; exact h.wi
  · rw [hk q.1] at q; cases q.2
theorem mk_no {lim : Int} {L : List Nd} {K : List (ByteArray × Int)} {n : Nd} (h : (mkR lim L K n).2.1 ≠ 0) : mkR lim L K n = (0, (mkR lim L K n).2.1, L, K) := by
  unfold mkR at h ⊢
  by_cases he : errOf L K n ≠ 0
  · rw [if_pos he]
  · rw [if_neg he] at h ⊢
    cases hq : placeOf n 0 L with
    | some q => rw [hq] at h; exact absurd rfl h
    | none =>
      rw [hq] at h
      dsimp only at h ⊢
      split at h
      · rename_i g; rw [if_pos g]
      · exact absurd rfl h
/-- What a call that answers a term does: it is there, or it is the last one. -/
theorem mk_yes {lim : Int} {L : List Nd} {K : List (ByteArray × Int)} {n : Nd} (h : (mkR lim L K n).2.1 = 0) : Right L K n ∧
    ((∃ q, placeOf n 0 L = some q ∧ mkR lim L K n = (((q + 1 : Nat) : Int), 0, L, K)) ∨
     (placeOf n 0 L = none ∧ ¬ (lim > 0 ∧ (L.length : Int) ≥ lim) ∧ mkR lim L K n = (((L.length + 1 : Nat) : Int), 0, L ++ [n], if n.op = 4 then nameSet n.name n.w K else K))) := by
  unfold mkR at h ⊢
  by_cases he : errOf L K n ≠ 0
  · rw [if_pos he] at h; exact absurd h he
  · rw [if_neg he] at h ⊢
    refine ⟨right_iff.1 (by omega), ?_⟩
    cases hq : placeOf n 0 L with
    | some q => exact .inl ⟨q, rfl, rfl⟩
    | none =>
      rw [hq] at h
      dsimp only at h ⊢
      split at h
      · cases h
      · rename_i g; rw [if_neg g]; exact .inr ⟨rfl, g, rfl⟩
theorem mk_eq {lim : Int} {L : List Nd} {K : List (ByteArray × Int)} {n : Nd} (h : Right L K n) {q : Nat} (hq : placeOf n 0 L = some q) : mkR lim L K n = (((q + 1 : Nat) : Int), 0, L, K) := by
  unfold mkR
  rw [if_neg (by rw [right_iff.2 h]; decide), hq]
/-- Again, it answers the same, and nothing is there more. -/
theorem mk_again {lim : Int} {L : List Nd} {K : List (ByteArray × Int)} {n : Nd} (h : (mkR lim L K n).2.1 = 0) : mkR lim (mkR lim L K n).2.2.1 (mkR lim L K n).2.2.2 n = mkR lim L K n := by
  obtain ⟨hr, ⟨q, hq, e⟩ | ⟨hq, _, e⟩⟩ := mk_yes h
  · rw [e]; exact mk_eq hr hq
  · rw [e]
    have hk : n.op = 4 → badName (if n.op = 4 then nameSet n.name n.w K else K) n = false := fun h4 => by
      rw [if_pos h4]
      refine badName_set ?_
      cases q : badName K n with
      | false => rfl
      | true => exact absurd ⟨h4, q⟩ hr.nm
    have := mk_eq (lim := lim) (hr.app (m := n) hk) (placeOf_last n L 0 hq)
    rw [Nat.zero_add] at this
    exact this
theorem mk_bd {lim : Int} {L : List Nd} {K : List (ByteArray × Int)} {n : Nd} (h : (mkR lim L K n).2.1 = 0) : 1 ≤ (mkR lim L K n).1 ∧ (mkR lim L K n).1 ≤ ((mkR lim L K n).2.2.1.length : Int) := by
  obtain ⟨hr, ⟨q, hq, e⟩ | ⟨hq, _, e⟩⟩ := mk_yes h
  · rw [e]
    have := (List.getElem?_eq_some_iff.1 (placeOf_some n L 0 q hq).2).1
    exact ⟨by show (1 : Int) ≤ ((q + 1 : Nat) : Int); omega, by show ((q + 1 : Nat) : Int) ≤ (L.length : Int); omega⟩
  · rw [e]; exact ⟨by show (1 : Int) ≤ ((L.length + 1 : Nat) : Int); omega, by simp⟩
theorem mk_inv {lim : Int} {L : List Nd} {K : List (ByteArray × Int)} {n : Nd} (h : Inv lim L) : Inv lim (mkR lim L K n).2.2.1 := by
  by_cases h0 : (mkR lim L K n).2.1 = 0
  · obtain ⟨hr, ⟨q, hq, e⟩ | ⟨hq, hl, e⟩⟩ := mk_yes h0
    · rw [e]; exact h
    · rw [e]
      obtain ⟨ga, gb, gc, _, _, _⟩ := parts_ok hr.pt hr.sp
      have bd : ∀ x : Int, isT L x = true ∨ x = 0 → x ≤ (L.length : Int) := fun x hx => by
        rcases hx with hx | hx
        · exact (isT_iff.1 hx).2
        · omega
      refine ⟨fun m hm => ?_, fun i m hm => ?_, fun i j m hi hj => ?_, fun hp => ?_⟩
      · rcases List.mem_append.1 hm with hm | hm
        · exact h.w m hm
        · rw [List.mem_singleton] at hm
          subst hm
          have := hr.w
          omega
      · rw [List.getElem?_append] at hm
        split at hm
        · exact h.parts i m hm
        · rename_i ge
          have : i = L.length := by
            have := (List.getElem?_eq_some_iff.1 hm).1
            simp at this; omega
          subst this
          simp at hm
          subst hm
          exact ⟨bd _ ga, bd _ gb, bd _ gc⟩
      · have key : ∀ i : Nat, (L ++ [n])[i]? = some m → (i < L.length ∧ L[i]? = some m) ∨ (i = L.length ∧ m = n) := fun i hi => by
          rw [List.getElem?_append] at hi
          split at hi
          · rename_i lt; exact .inl ⟨lt, hi⟩
          · rename_i ge
            have : i = L.length := by
              have := (List.getElem?_eq_some_iff.1 hi).1
              simp at this; omega
            subst this
            simp at hi
            exact .inr ⟨rfl, hi.symm⟩
        rcases key i hi with ⟨a1, a2⟩ | ⟨a1, a2⟩ <;> rcases key j hj with ⟨b1, b2⟩ | ⟨b1, b2⟩
        · exact h.nod i j m a2 b2
        · rw [b2] at a2; exact absurd a2 (placeOf_none n L 0 hq i)
        · rw [a2] at b2; exact absurd b2 (placeOf_none n L 0 hq j)
        · omega
      · have : ¬ (L.length : Int) ≥ lim := fun q => hl ⟨hp, q⟩
        simp; omega
  · rw [mk_no h0]; exact h
theorem mk_parts {lim : Int} {L : List Nd} {K : List (ByteArray × Int)} {n : Nd} (h : (mkR lim L K n).2.1 = 0) : (partsT n.op ≥ 1 → isT L n.a = true) ∧ (partsT n.op ≥ 2 → isT L n.b = true) ∧ (partsT n.op ≥ 3 → isT L n.c = true) := by
  obtain ⟨hr, _⟩ := mk_yes h
  obtain ⟨_, _, _, ha, hb, hc⟩ := parts_ok hr.pt hr.sp
  exact ⟨ha, hb, hc⟩
/-- Each term of a store stays what it is. -/
theorem mk_wT {lim : Int} {L : List Nd} {K : List (ByteArray × Int)} {n : Nd} {d t : Int} (ht : isT L t = true) : wT (mkR lim L K n).2.2.1 d t = wT L d t := by
  by_cases h0 : (mkR lim L K n).2.1 = 0
  · obtain ⟨hr, ⟨q, hq, e⟩ | ⟨hq, hl, e⟩⟩ := mk_yes h0
    · rw [e]
    · rw [e]; exact wT_app (.inl ht)
  · rw [mk_no h0]
end Go.AM
/- The Term seat: what a call does to a store, plainly. -/
set_option linter.unusedVariables false
set_option maxRecDepth 100000
set_option linter.unusedSimpArgs false
namespace Go.AM
open Go
section
variable {lim : Int} {L : List Nd} {K : List (ByteArray × Int)}
theorem ask_no (o : OpA) (h : (askR lim L K o).2.1 ≠ 0) : askR lim L K o = (0, (askR lim L K o).2.1, L, K) := by
  revert h
  exact ask_ind (Q := fun r => r.2.1 ≠ 0 → r = (0, r.2.1, L, K)) (fun n h => mk_no h) (fun e _ => rfl) o
theorem ask_inv (o : OpA) (h : Inv lim L) : Inv lim (askR lim L K o).2.2.1 :=
  ask_ind (Q := fun r => Inv lim r.2.2.1) (fun n => mk_inv h) (fun e => h) o
theorem ask_le (o : OpA) : (askR lim L K o).2.2.1.length ≤ L.length + 1 :=
  ask_ind (Q := fun r => r.2.2.1.length ≤ L.length + 1) (fun n => by
    by_cases h0 : (mkR lim L K n).2.1 = 0
    · obtain ⟨_, ⟨q, _, e⟩ | ⟨_, _, e⟩⟩ := mk_yes h0 <;> rw [e] <;> simp
    · rw [mk_no h0]; simp) (fun e => by simp) o
theorem mk_again' {n n' : Nd} (h : (mkR lim L K n).2.1 = 0) (e : n' = n) : mkR lim (mkR lim L K n).2.2.1 (mkR lim L K n).2.2.2 n' = mkR lim L K n := by rw [e]; exact mk_again h
theorem un_again (op a : Int) (h : (unR lim L K op a).2.1 = 0) : unR lim (unR lim L K op a).2.2.1 (unR lim L K op a).2.2.2 op a = unR lim L K op a := by
  unfold unR at h ⊢
  by_cases h5 : op = 5
  · simp only [if_pos h5] at h ⊢; exact mk_again h
  simp only [if_neg h5] at h ⊢
  by_cases h15 : op = 15 ∨ op = 16
  · simp only [if_pos h15] at h ⊢
    have := (mk_parts h).1 (by show partsT op ≥ 1; rcases h15 with rfl | rfl <;> decide)
    exact mk_again' h (by rw [mk_wT this])
  · simp only [if_neg h15] at h ⊢
theorem bin_again (op a b : Int) (h : (binR lim L K op a b).2.1 = 0) : binR lim (binR lim L K op a b).2.2.1 (binR lim L K op a b).2.2.2 op a b = binR lim L K op a b := by
  unfold binR at h ⊢
  by_cases h5 : op ≥ 6 ∧ op ≤ 13
  · simp only [if_pos h5] at h ⊢; exact mk_again h
  simp only [if_neg h5] at h ⊢
  by_cases h15 : op ≥ 17 ∧ op ≤ 29
  · simp only [if_pos h15] at h ⊢
    have := (mk_parts h).1 (by show partsT op ≥ 1; unfold partsT; (repeat' split) <;> omega)
    exact mk_again' h (by rw [mk_wT this])
  simp only [if_neg h15] at h ⊢
  by_cases h30 : op = 30
  · simp only [if_pos h30] at h ⊢
    have h1 := (mk_parts h).1 (by show partsT op ≥ 1; rw [h30]; decide)
    have h2 := (mk_parts h).2.1 (by show partsT op ≥ 2; rw [h30]; decide)
    exact mk_again' h (by rw [mk_wT h1, mk_wT h2])
  · simp only [if_neg h30] at h ⊢
theorem ext_again (op a w : Int) (h : (extR lim L K op a w).2.1 = 0) : extR lim (extR lim L K op a w).2.2.1 (extR lim L K op a w).2.2.2 op a w = extR lim L K op a w := by
  unfold extR at h ⊢
  by_cases h5 : op ≠ 32
  · simp only [if_pos h5] at h ⊢
    by_cases h6 : op ≠ 33
    · simp only [if_pos h6] at h ⊢
    · simp only [if_neg h6] at h ⊢; exact mk_again h
  · simp only [if_neg h5] at h ⊢; exact mk_again h
theorem ask_again (o : OpA) (h : (askR lim L K o).2.1 = 0) : askR lim (askR lim L K o).2.2.1 (askR lim L K o).2.2.2 o = askR lim L K o := by
  unfold askR at h ⊢
  by_cases k1 : o.kind = 1
  · simp only [if_pos k1] at h ⊢; exact mk_again h
  simp only [if_neg k1] at h ⊢
  by_cases k2 : o.kind = 2
  · simp only [if_pos k2] at h ⊢; exact mk_again h
  simp only [if_neg k2] at h ⊢
  by_cases k3 : o.kind = 3
  · simp only [if_pos k3] at h ⊢; exact mk_again h
  simp only [if_neg k3] at h ⊢
  by_cases k4 : o.kind = 4
  · simp only [if_pos k4] at h ⊢; exact mk_again h
  simp only [if_neg k4] at h ⊢
  by_cases k5 : o.kind = 5
  · simp only [if_pos k5] at h ⊢; exact un_again _ _ h
  simp only [if_neg k5] at h ⊢
  by_cases k6 : o.kind = 6
  · simp only [if_pos k6] at h ⊢; exact bin_again _ _ _ h
  simp only [if_neg k6] at h ⊢
  by_cases k7 : o.kind = 7
  · simp only [if_pos k7] at h ⊢
    have := (mk_parts h).2.1 (by show partsT 14 ≥ 2; decide)
    exact mk_again' h (by rw [mk_wT this])
  simp only [if_neg k7] at h ⊢
  by_cases k8 : o.kind = 8
  · simp only [if_pos k8] at h ⊢; exact mk_again h
  simp only [if_neg k8] at h ⊢
  by_cases k9 : o.kind = 9
  · simp only [if_pos k9] at h ⊢; exact ext_again _ _ _ h
  · simp only [if_neg k9] at h ⊢
theorem ask_bd (o : OpA) (hk : 1 ≤ o.kind ∧ o.kind ≤ 9) (h : (askR lim L K o).2.1 = 0) : 1 ≤ (askR lim L K o).1 ∧ (askR lim L K o).1 ≤ ((askR lim L K o).2.2.1.length : Int) := by
  have hno : ∀ e : Int, e ≠ 0 → ((0, e, L, K) : Res).2.1 = 0 → 1 ≤ ((0, e, L, K) : Res).1 ∧ ((0, e, L, K) : Res).1 ≤ (((0, e, L, K) : Res).2.2.1.length : Int) := fun e he h => absurd h he
  unfold askR at h ⊢
  by_cases k1 : o.kind = 1
  · simp only [if_pos k1] at h ⊢; exact mk_bd h
  simp only [if_neg k1] at h ⊢
  by_cases k2 : o.kind = 2
  · simp only [if_pos k2] at h ⊢; exact mk_bd h
  simp only [if_neg k2] at h ⊢
  by_cases k3 : o.kind = 3
  · simp only [if_pos k3] at h ⊢; exact mk_bd h
  simp only [if_neg k3] at h ⊢
  by_cases k4 : o.kind = 4
  · simp only [if_pos k4] at h ⊢; exact mk_bd h
  simp only [if_neg k4] at h ⊢
  by_cases k5 : o.kind = 5
  · simp only [if_pos k5] at h ⊢
    unfold unR at h ⊢
    by_cases h5 : o.o = 5
    · simp only [if_pos h5] at h ⊢; exact mk_bd h
    simp only [if_neg h5] at h ⊢
    by_cases h15 : o.o = 15 ∨ o.o = 16
    · simp only [if_pos h15] at h ⊢; exact mk_bd h
    · simp only [if_neg h15] at h ⊢; exact hno _ (by decide) h
  simp only [if_neg k5] at h ⊢
  by_cases k6 : o.kind = 6
  · simp only [if_pos k6] at h ⊢
    unfold binR at h ⊢
    by_cases h5 : o.o ≥ 6 ∧ o.o ≤ 13
    · simp only [if_pos h5] at h ⊢; exact mk_bd h
    simp only [if_neg h5] at h ⊢
    by_cases h15 : o.o ≥ 17 ∧ o.o ≤ 29
    · simp only [if_pos h15] at h ⊢; exact mk_bd h
    simp only [if_neg h15] at h ⊢
    by_cases h30 : o.o = 30
    · simp only [if_pos h30] at h ⊢; exact mk_bd h
    · simp only [if_neg h30] at h ⊢; exact hno _ (by decide) h
  simp only [if_neg k6] at h ⊢
  by_cases k7 : o.kind = 7
  · simp only [if_pos k7] at h ⊢; exact mk_bd h
  simp only [if_neg k7] at h ⊢
  by_cases k8 : o.kind = 8
  · simp only [if_pos k8] at h ⊢; exact mk_bd h
  simp only [if_neg k8] at h ⊢
  by_cases k9 : o.kind = 9
  · simp only [if_pos k9] at h ⊢
    unfold extR at h ⊢
    by_cases h5 : o.o ≠ 32
    · simp only [if_pos h5] at h ⊢
      by_cases h6 : o.o ≠ 33
      · simp only [if_pos h6] at h ⊢; exact hno _ (by decide) h
      · simp only [if_neg h6] at h ⊢; exact mk_bd h
    · simp only [if_neg h5] at h ⊢; exact mk_bd h
  · omega
end
theorem run_inv {lim : Int} : ∀ (os : List OpA) (L : List Nd) (K : List (ByteArray × Int)), Inv lim L → Inv lim (runR lim os L K).1
  | [], L, K, h => h
  | o :: os, L, K, h => run_inv os _ _ (ask_inv o h)
end Go.AM
/- The Term seat: the order of what roots lead to, plainly. -/
set_option linter.unusedVariables false
set_option maxRecDepth 100000
set_option linter.unusedSimpArgs false
namespace Go.AM
open Go
def kidsN (n : Nd) : List Nat := ([n.a, n.b, n.c].take (partsT n.op).toNat).map Int.toNat
def kids (L : List Nd) (t : Nat) : List Nat := match L[t - 1]? with
  | some n => kidsN n
  | none => []
/-- Parts are terms ahead; what is no part is 0. -/
structure Dag (L : List Nd) : Prop where
  a : ∀ (i : Nat) m, L[i]? = some m → (partsT m.op ≥ 1 ∧ 1 ≤ m.a ∧ m.a ≤ i) ∨ (partsT m.op < 1 ∧ m.a = 0)
  b : ∀ (i : Nat) m, L[i]? = some m → (partsT m.op ≥ 2 ∧ 1 ≤ m.b ∧ m.b ≤ i) ∨ (partsT m.op < 2 ∧ m.b = 0)
  c : ∀ (i : Nat) m, L[i]? = some m → (partsT m.op ≥ 3 ∧ 1 ≤ m.c ∧ m.c ≤ i) ∨ (partsT m.op < 3 ∧ m.c = 0)
theorem Dag.nil : Dag [] := ⟨fun i m h => (by cases h), fun i m h => (by cases h), fun i m h => (by cases h)⟩
theorem app_get {L : List Nd} {n m : Nd} {i : Nat} (h : (L ++ [n])[i]? = some m) : L[i]? = some m ∨ (i = L.length ∧ m = n) := by
  rw [List.getElem?_append] at h
  split at h
  · exact .inl h
  · have : i = L.length := by
      have := (List.getElem?_eq_some_iff.1 h).1
      simp at this; omega
    subst this
    simp at h
    exact .inr ⟨rfl, h.symm⟩
theorem mk_dag {lim : Int} {L : List Nd} {K : List (ByteArray × Int)} {n : Nd} (h : Dag L) : Dag (mkR lim L K n).2.2.1 := by
  by_cases h0 : (mkR lim L K n).2.1 = 0
  · obtain ⟨hr, ⟨q, hq, e⟩ | ⟨hq, hl, e⟩⟩ := mk_yes h0
    · rw [e]; exact h
    · rw [e]
      have h1 := hr.pt
      have h2 := hr.sp
      unfold pastParts at h1
      unfold spareK at h2
      simp only [Bool.or_eq_true, Bool.and_eq_true, decide_eq_true_eq, Bool.not_eq_true', not_or, not_and, Bool.not_eq_false] at h1 h2
      refine ⟨fun i m hm => ?_, fun i m hm => ?_, fun i m hm => ?_⟩
      · rcases app_get hm with hm | ⟨rfl, rfl⟩
        · exact h.a i m hm
        · rcases Int.lt_or_le (partsT m.op) 1 with q | q
          · have := h2.1.1.1.1 q; omega
          · have := isT_iff.1 (h1.1.1 q); omega
      · rcases app_get hm with hm | ⟨rfl, rfl⟩
        · exact h.b i m hm
        · rcases Int.lt_or_le (partsT m.op) 2 with q | q
          · have := h2.1.1.1.2 q; omega
          · have := isT_iff.1 (h1.1.2 q); omega
      · rcases app_get hm with hm | ⟨rfl, rfl⟩
        · exact h.c i m hm
        · rcases Int.lt_or_le (partsT m.op) 3 with q | q
          · have := h2.1.1.2 q; omega
          · have := isT_iff.1 (h1.2 q); omega
  · rw [mk_no h0]; exact h
theorem ask_dag {lim : Int} {L : List Nd} {K : List (ByteArray × Int)} (o : OpA) (h : Dag L) : Dag (askR lim L K o).2.2.1 :=
  ask_ind (Q := fun r => Dag r.2.2.1) (fun n => mk_dag h) (fun e => h) o
theorem run_dag {lim : Int} : ∀ (os : List OpA) (L : List Nd) (K : List (ByteArray × Int)), Dag L → Dag (runR lim os L K).1
  | [], L, K, h => h
  | o :: os, L, K, h => run_dag os _ _ (ask_dag o h)
/-- The kids, one by one. -/
theorem kidsN_get {L : List Nd} (h : Dag L) {i : Nat} {n : Nd} (hn : L[i]? = some n) : (kidsN n).length = (partsT n.op).toNat ∧
    (∀ (j : Nat) x, [n.a, n.b, n.c][j]? = some x → j < (kidsN n).length → (kidsN n)[j]? = some x.toNat ∧ 1 ≤ x ∧ x ≤ i) ∧ (∀ c ∈ kidsN n, 1 ≤ c ∧ c ≤ i) := by
  have ha := h.a i n hn
  have hb := h.b i n hn
  have hc := h.c i n hn
  have key : (kidsN n).length = (partsT n.op).toNat ∧ (∀ (j : Nat) x, [n.a, n.b, n.c][j]? = some x → j < (kidsN n).length → (kidsN n)[j]? = some x.toNat ∧ 1 ≤ x ∧ x ≤ i) := by
    rcases partsT_cases n.op with q | q | q | q
    · refine ⟨by simp [kidsN, q], fun j x hx hj => ?_⟩
      simp [kidsN, q] at hj
    · refine ⟨by simp [kidsN, q], fun j x hx hj => ?_⟩
      simp [kidsN, q] at hj
      subst hj
      simp at hx
      subst hx
      exact ⟨by simp [kidsN, q], by omega, by omega⟩
    · refine ⟨by simp [kidsN, q], fun j x hx hj => ?_⟩
      simp [kidsN, q] at hj
      match j, hj with
      | 0, _ => simp at hx; subst hx; exact ⟨by simp [kidsN, q], by omega, by omega⟩
      | 1, _ => simp at hx; subst hx; exact ⟨by simp [kidsN, q], by omega, by omega⟩
    · refine ⟨by simp [kidsN, q], fun j x hx hj => ?_⟩
      simp [kidsN, q] at hj
      match j, hj with
      | 0, _ => simp at hx; subst hx; exact ⟨by simp [kidsN, q], by omega, by omega⟩
      | 1, _ => simp at hx; subst hx; exact ⟨by simp [kidsN, q], by omega, by omega⟩
      | 2, _ => simp at hx; subst hx; exact ⟨by simp [kidsN, q], by omega, by omega⟩
  refine ⟨key.1, key.2, fun c hcm => ?_⟩
  obtain ⟨j, hj⟩ := List.getElem?_of_mem hcm
  have hlt := (List.getElem?_eq_some_iff.1 hj).1
  have hle : j < 3 := by
    have h1 := key.1
    rcases partsT_cases n.op with q | q | q | q <;> rw [q] at h1 <;> simp at h1 <;> omega
  obtain ⟨x, hx⟩ : ∃ x, [n.a, n.b, n.c][j]? = some x := ⟨_, List.getElem?_eq_getElem (by simpa using hle)⟩
  obtain ⟨h1, h2, h3⟩ := key.2 j x hx hlt
  rw [hj] at h1
  cases h1
  omega
theorem kids_lt {L : List Nd} (h : Dag L) {t c : Nat} (ht : 1 ≤ t) (hc : c ∈ kids L t) : 1 ≤ c ∧ c < t := by
  unfold kids at hc
  cases hq : L[t - 1]? with
  | none => rw [hq] at hc; cases hc
  | some n =>
    rw [hq] at hc
    have := (kidsN_get h hq).2.2 c hc
    omega

/-! ### Post order -/
def visit (L : List Nd) : Nat → Nat → List Nat → List Nat
  | 0, _, out => out
  | k + 1, t, out => if t ∈ out then out else (kids L t).foldl (fun o c => visit L k c o) out ++ [t]
theorem foldl_congr {α β : Type} {f g : α → β → α} : ∀ (l : List β) (a : α), (∀ b ∈ l, ∀ a, f a b = g a b) → l.foldl f a = l.foldl g a
  | [], a, h => rfl
  | b :: l, a, h => by
    rw [List.foldl_cons, List.foldl_cons, h b (List.mem_cons_self ..)]
    exact foldl_congr l _ fun b hb => h b (List.mem_cons_of_mem _ hb)
theorem visit_fuel {L : List Nd} (h : Dag L) : ∀ (t : Nat), 1 ≤ t → ∀ (k m : Nat) (out : List Nat), t ≤ k → t ≤ m → visit L k t out = visit L m t out := by
  intro t
  induction t using Nat.strongRecOn with
  | _ t ih =>
    intro ht k m out hk hm
    cases k with
    | zero => omega
    | succ k =>
      cases m with
      | zero => omega
      | succ m =>
        unfold visit
        split
        · rfl
        · congr 1
          exact foldl_congr _ _ fun c hc o => by
            have := kids_lt h ht hc
            exact ih c this.2 this.1 k m o (by omega) (by omega)
def post (L : List Nd) (t : Nat) (out : List Nat) : List Nat := visit L t t out
def posts (L : List Nd) (l : List Nat) (out : List Nat) : List Nat := l.foldl (fun o c => post L c o) out
theorem post_eq {L : List Nd} (h : Dag L) {t : Nat} (ht : 1 ≤ t) (out : List Nat) : post L t out = if t ∈ out then out else posts L (kids L t) out ++ [t] := by
  unfold post posts
  cases t with
  | zero => omega
  | succ t =>
    show (if t + 1 ∈ out then out else _) = _
    split
    · rfl
    · congr 1
      exact foldl_congr _ _ fun c hc o => by
        have := kids_lt h (t := t + 1) ht hc
        exact visit_fuel h c this.1 _ _ o (by omega) (Nat.le_refl _)
theorem post_in {L : List Nd} (h : Dag L) {t : Nat} (ht : 1 ≤ t) {out : List Nat} (hm : t ∈ out) : post L t out = out := by rw [post_eq h ht, if_pos hm]
theorem post_out {L : List Nd} (h : Dag L) {t : Nat} (ht : 1 ≤ t) {out : List Nat} (hm : t ∉ out) : post L t out = posts L (kids L t) out ++ [t] := by rw [post_eq h ht, if_neg hm]
/-- Nothing is lost; what is new is not above. -/
theorem post_mem {L : List Nd} (h : Dag L) : ∀ (t : Nat), 1 ≤ t → ∀ (out : List Nat), (∀ x ∈ out, x ∈ post L t out) ∧ t ∈ post L t out ∧ (∀ x ∈ post L t out, x ∈ out ∨ (1 ≤ x ∧ x ≤ t)) := by
  intro t
  induction t using Nat.strongRecOn with
  | _ t ih =>
    intro ht out
    rw [post_eq h ht]
    split
    · rename_i hm
      exact ⟨fun x hx => hx, hm, fun x hx => .inl hx⟩
    · have key : ∀ (l : List Nat) (o : List Nat), (∀ c ∈ l, c ∈ kids L t) → (∀ x ∈ o, x ∈ posts L l o) ∧ (∀ x ∈ posts L l o, x ∈ o ∨ (1 ≤ x ∧ x < t)) := by
        intro l
        induction l with
        | nil => exact fun o _ => ⟨fun x hx => hx, fun x hx => .inl hx⟩
        | cons c l ihl =>
          intro o hl
          have hc := kids_lt h ht (hl c (List.mem_cons_self ..))
          obtain ⟨g1, g2, g3⟩ := ih c hc.2 hc.1 o
          obtain ⟨k1, k2⟩ := ihl (post L c o) fun c hc => hl c (List.mem_cons_of_mem _ hc)
          refine ⟨fun x hx => k1 x (g1 x hx), fun x hx => ?_⟩
          rcases k2 x hx with q | q
          · rcases g3 x q with q | q
            · exact .inl q
            · exact .inr ⟨q.1, by omega⟩
          · exact .inr q
      obtain ⟨k1, k2⟩ := key (kids L t) out fun c hc => hc
      refine ⟨fun x hx => List.mem_append_left _ (k1 x hx), by simp, fun x hx => ?_⟩
      rcases List.mem_append.1 hx with q | q
      · rcases k2 x q with q | q
        · exact .inl q
        · exact .inr ⟨q.1, by omega⟩
      · rw [List.mem_singleton] at q; subst q; exact .inr ⟨ht, Nat.le_refl _⟩
theorem posts_cons (L : List Nd) (c : Nat) (l : List Nat) (out : List Nat) : posts L (c :: l) out = posts L l (post L c out) := rfl
theorem posts_mem {L : List Nd} (h : Dag L) {N : Nat} : ∀ (l : List Nat) (o : List Nat), (∀ c ∈ l, 1 ≤ c ∧ c ≤ N) → (∀ x ∈ o, x ∈ posts L l o) ∧ (∀ x ∈ l, x ∈ posts L l o) ∧ (∀ x ∈ posts L l o, x ∈ o ∨ (1 ≤ x ∧ x ≤ N))
  | [], o, hl => ⟨fun x hx => hx, fun x hx => (by cases hx), fun x hx => .inl hx⟩
  | c :: l, o, hl => by
    have hc := hl c (List.mem_cons_self ..)
    obtain ⟨g1, g2, g3⟩ := post_mem h c hc.1 o
    obtain ⟨k1, k2, k3⟩ := posts_mem h l (post L c o) fun c hc => hl c (List.mem_cons_of_mem _ hc)
    refine ⟨fun x hx => k1 x (g1 x hx), fun x hx => ?_, fun x hx => ?_⟩
    · rcases List.mem_cons.1 hx with rfl | hx
      · exact k1 _ g2
      · exact k2 x hx
    · rcases k3 x hx with q | q
      · rcases g3 x q with q | q
        · exact .inl q
        · exact .inr ⟨q.1, by omega⟩
      · exact .inr q
end Go.AM
/- The Term seat: Both. -/
set_option linter.unusedVariables false
set_option maxRecDepth 100000
set_option linter.unusedSimpArgs false
namespace Go.AM
open Go
theorem s_pnil {α : Type} {P : Program} (T : TypeId) (a : Addr) (hT : ∃ t, P.underlying T = some (.pointer t)) (k : Value → Option α) : pBin P .eql T (.pointer (some a)) (.pointer none) k = k (.bool false) := by
  obtain ⟨t, ht⟩ := hT
  have : eqT P Op.maxDepth T (.pointer (some a)) (.pointer none) = some false := by
    unfold Op.maxDepth
    simp only [eqT, ht]
  simp only [pBin, binV, eqOp, this]
theorem s_pnil0 {α : Type} {P : Program} (T : TypeId) (hT : ∃ t, P.underlying T = some (.pointer t)) (k : Value → Option α) : pBin P .eql T (.pointer none) (.pointer none) k = k (.bool true) := by
  obtain ⟨t, ht⟩ := hT
  have : eqT P Op.maxDepth T (.pointer none) (.pointer none) = some true := by
    unfold Op.maxDepth
    simp only [eqT, ht]; rfl
  simp only [pBin, binV, eqOp, this]
theorem s_bneq {α : Type} {P : Program} (T : TypeId) (a b : Bool) (hT : P.underlying T = some .bool) (k : Value → Option α) : pBin P .neq T (.bool a) (.bool b) k = k (.bool (!(a == b))) := by
  have : eqT P Op.maxDepth T (.bool a) (.bool b) = some (a == b) := by
    unfold Op.maxDepth
    simp only [eqT, hT]
  simp only [pBin, binV, eqOp, this]
theorem s_t3a {α : Type} (x y z : Value) (k : Value → Option α) : pExtract (.tuple #[x, y, z]) 0 k = k x := rfl
theorem s_t3b {α : Type} (x y z : Value) (k : Value → Option α) : pExtract (.tuple #[x, y, z]) 1 k = k y := rfl
theorem s_t3c {α : Type} (x y z : Value) (k : Value → Option α) : pExtract (.tuple #[x, y, z]) 2 k = k z := rfl
/-- One call on both stores. -/
theorem two_step {H : Hp} {lim : Int} {L : List Nd} {K : List (ByteArray × Int)} {p f g : Nat} {sl : Value} {q f' g' : Nat} {sl' : Value} (h : Two H lim L K p f g sl q f' g' sl') (hR : Roomy L) (o : OpA) (ho : o.Ok) :
    ∃ H1 H2 s1 s2, RR F.cadencelaw07_Ask [.pointer (some ⟨p, 0, none⟩), o.val] H = some (.tuple #[.int .i64 (askR lim L K o).1, .int .i64 (askR lim L K o).2.1], H1) ∧
      RR F.cadencelaw07_Also [.pointer (some ⟨q, 0, none⟩), o.val] H1 = some (.tuple #[.int .i64 (askR lim L K o).1, .int .i64 (askR lim L K o).2.1], H2) ∧
      Two H2 lim (askR lim L K o).2.2.1 (askR lim L K o).2.2.2 p f g s1 q f' g' s2 ∧ H.next ≤ H2.next ∧ (∀ j, j < H.next → ¬ Foot p f g sl j → H1.get j = H.get j) ∧ (∀ j, j < H.next → ¬ Foot p f g sl j → ¬ Foot q f' g' sl' j → H2.get j = H.get j) ∧
      (∀ i, Foot p f g s1 i → Foot p f g sl i ∨ H.next ≤ i) ∧ (∀ i, Foot q f' g' s2 i → Foot q f' g' sl' i ∨ H.next ≤ i) := by
  obtain ⟨H1, s1, e1, m1⟩ := d12 h.a hR o ho
  have hb1 : StF H1 q lim L K sl' f' g' := h.b.keep (fun i hi => m1.same (h.b.foot_lt hi) fun hp => h.ap i hp hi) m1.next
  obtain ⟨H2, s2, e2, m2⟩ := d18 hb1 hR o ho
  have ap1 : ∀ i, Foot p f g s1 i → Foot q f' g' sl' i → False := fun i a b => by
    rcases m1.foot a with a | a
    · exact h.ap i a b
    · have := h.b.foot_lt b; omega
  refine ⟨H1, H2, s1, s2, e1, e2, ⟨m1.st.keep (fun i hi => m2.same (m1.st.foot_lt hi) fun hq => ap1 i hi hq) m2.next, m2.st, fun i a b => ?_⟩, Nat.le_trans m1.next m2.next, fun j hj a => m1.same hj a, fun j hj a b => ?_, fun i a => m1.foot a, fun i a => (m2.foot a).imp id fun c => Nat.le_trans m1.next c⟩
  · rcases m2.foot b with b | b
    · exact ap1 i a b
    · have := m1.st.foot_lt a; omega
  · rw [m2.same (Nat.lt_of_lt_of_le hj m1.next) b, m1.same hj a]
end Go.AM
/- The Term seat: Both, II. -/
set_option linter.unusedVariables false
set_option maxRecDepth 100000
set_option linter.unusedSimpArgs false
namespace Go.AM
open Go
theorem und23 : ∃ t, Program.underlying PP T.p_term_Store = some (.pointer t) := ⟨T.term_Store, by kernel_rfl⟩
theorem und24 : ∃ t, Program.underlying PP T.p_cadenceref07_Store = some (.pointer t) := ⟨T.cadenceref07_Store, by kernel_rfl⟩
theorem und4 : Program.underlying PP T.bool = some .bool := by kernel_rfl
theorem s_brf {α : Type} (x y : Option α) : br false x y = y := rfl
theorem s_brt {α : Type} (x y : Option α) : br true x y = x := rfl
/-- What may be said of a store behind a script. -/
structure Fine (os : List OpA) : Prop where
  ok : ∀ o ∈ os, o.Ok
  len : (os.length + 1) * 64 ≤ 2 ^ 47
noncomputable def step8 (p q : Nat) (x1 : Value) (l21 : List Value) (H22 : Hp) : Option Outc :=
 pLen .sl x1 H22 fun v23 =>
 pBin PP .lss T.int (l21.getD 0 undef) v23 fun v24 =>
 pBool v24 fun b25 => br b25
 (pIdx 16 x1 (l21.getD 0 undef) fun p26 =>
 pLoad 16 true H22 p26 fun v27 =>
 pCallF RR F.cadencelaw07_Ask [.pointer (some ⟨p, 0, none⟩), v27] H22 fun r28 H29 =>
 pExtract r28 0 fun v30 =>
 pExtract r28 1 fun v31 =>
 pIdx 16 x1 (l21.getD 0 undef) fun p32 =>
 pLoad 16 true H29 p32 fun v33 =>
 pCallF RR F.cadencelaw07_Also [.pointer (some ⟨q, 0, none⟩), v33] H29 fun r34 H35 =>
 pExtract r34 0 fun v36 =>
 pExtract r34 1 fun v37 =>
 pBin PP .neq T.int v30 v36 fun v38 =>
 pBool v38 fun b39 => br b39
 (some (.ret, [(.tuple #[(.pointer none), (.pointer none), (.bool false)])], H35))
 (pBin PP .neq T.api_Errno v31 v37 fun v40 =>
 pBool v40 fun b41 => br b41
 (some (.ret, [(.tuple #[(.pointer none), (.pointer none), (.bool false)])], H35))
 (pBin PP .add T.int (l21.getD 0 undef) (.int .i64 1) fun v42 =>
 some (.next, [v42], H35))))
 (some (.exit 0, [(l21.getD 0 undef)], H22))
theorem loop8 (lim : Int) (os : List OpA) (hf : Fine os) (x : Value) (p f g q f' g' : Nat) : ∀ (k i : Nat) (L : List Nd) (K : List (ByteArray × Int)) (H : Hp) (sl sl' : Value), os.length = i + k → Two H lim L K p f g sl q f' g' sl' → (∀ m ∈ L, 0 ≤ m.w ∧ m.w ≤ 64) → L.length ≤ i → ScR H x os →
    ∃ H' s1 s2, loopD (step8 p q x) [.int .i64 (i : Int)] H = some (.exit 0, [.int .i64 (os.length : Int)], H') ∧ Two H' lim (runR lim (os.drop i) L K).1 (runR lim (os.drop i) L K).2 p f g s1 q f' g' s2 ∧
      (∀ m ∈ (runR lim (os.drop i) L K).1, 0 ≤ m.w ∧ m.w ≤ 64) ∧ (runR lim (os.drop i) L K).1.length ≤ os.length ∧ H.next ≤ H'.next ∧
      (∀ j, j < H.next → ¬ Foot p f g sl j → ¬ Foot q f' g' sl' j → H'.get j = H.get j) ∧ (∀ j, Foot p f g s1 j → Foot p f g sl j ∨ H.next ≤ j) ∧ (∀ j, Foot q f' g' s2 j → Foot q f' g' sl' j ∨ H.next ≤ j)
  | 0, i, L, K, H, sl, sl', hk, h, hw, hl, hx => by
    have hi : i = os.length := by omega
    subst hi
    refine ⟨H, sl, sl', ?_, ?_, ?_, ?_, Nat.le_refl _, fun _ _ _ _ => rfl, fun j a => .inl a, fun j a => .inl a⟩
    · rw [loopD_eq]
      have : step8 p q x [.int .i64 (os.length : Int)] H = some (.exit 0, [.int .i64 (os.length : Int)], H) := by
        unfold step8
        simp only [hx.len, s_lss, s_bool, s_br, List.getD_cons_zero, Int.lt_irrefl, decide_false, Bool.false_eq_true, if_false]
      rw [this]; rfl
    · rw [List.drop_of_length_le (Nat.le_refl _)]; exact h
    · rw [List.drop_of_length_le (Nat.le_refl _)]; exact hw
    · rw [List.drop_of_length_le (Nat.le_refl _)]; exact hl
  | k + 1, i, L, K, H, sl, sl', hk, h, hw, hl, hx => by
    have hlt : i < os.length := by omega
    have ho : os[i]? = some os[i] := by simp [hlt]
    have hmem : os[i] ∈ os := List.getElem_mem hlt
    have hlen := hf.len
    have hR : Roomy L := ⟨hw, by omega⟩
    obtain ⟨H1, H2, s1, s2, e1, e2, h2, hn, fr1, fr2, ft1, ft2⟩ := two_step h hR os[i] (hf.ok _ hmem)
    obtain ⟨y, hyl, hy, hix⟩ := hx.at (α := Unit) ho
    have hya : ¬ Foot p f g sl y := fun a => by obtain ⟨o, g1, g2⟩ := h.a.own a; rw [hy] at g1; cases g1; cases g2
    have hyb : ¬ Foot q f' g' sl' y := fun a => by obtain ⟨o, g1, g2⟩ := h.b.own a; rw [hy] at g1; cases g1; cases g2
    have hx2 : ScR H2 x os := hx.keep (fun z cs z1 z2 => by
      rw [fr2 z z1 (fun a => by obtain ⟨o, g1, g2⟩ := h.a.own a; rw [z2] at g1; cases g1; cases g2) (fun a => by obtain ⟨o, g1, g2⟩ := h.b.own a; rw [z2] at g1; cases g1; cases g2)]; exact z2) hn
    have hy1 : H1.get y = some (.cells (os.flatMap OpA.cells) false) := by rw [fr1 y hyl hya]; exact hy
    obtain ⟨w1, w2⟩ := ask_w (lim := lim) (K := K) (o := os[i]) hw
    obtain ⟨H', t1, t2, g1, g2, g3, g4, g5, g6, g7, g8⟩ := loop8 lim os hf x p f g q f' g' k (i + 1) (askR lim L K os[i]).2.2.1 (askR lim L K os[i]).2.2.2 H2 s1 s2 (by omega) h2 w1 (by omega) hx2
    have hd : os.drop i = os[i] :: os.drop (i + 1) := List.drop_eq_getElem_cons hlt
    have hr : runR lim (os.drop i) L K = runR lim (os.drop (i + 1)) (askR lim L K os[i]).2.2.1 (askR lim L K os[i]).2.2.2 := by rw [hd]; rfl
    rw [hr]
    refine ⟨H', t1, t2, ?_, g2, g3, g4, Nat.le_trans hn g5, fun j a b c => ?_, fun j a => ?_, fun j a => ?_⟩
    · rw [loopD_eq]
      have hwr : IntKind.i64.wrap ((i : Int) + 1) = ((i + 1 : Nat) : Int) := i64_wrap (by omega) (by omega)
      have : step8 p q x [.int .i64 (i : Int)] H = some (.next, [.int .i64 ((i + 1 : Nat) : Int)], H2) := by
        unfold step8
        have hil : (i : Int) < (os.length : Int) := by omega
        simp only [hx.len, s_lss, s_bool, s_br, List.getD_cons_zero, hil, decide_true, if_true, hix, ScR.ld hy ho, ScR.ld hy1 ho, s_call e1, s_call e2, s_ext0, s_ext1, s_neq, ne_eq, not_true_eq_false, decide_false, Bool.false_eq_true, if_false, s_add, hwr]
      rw [this]; exact g1
    · rw [g6 j (Nat.lt_of_lt_of_le a hn) (fun z => by rcases ft1 j z with z | z; exact b z; omega) (fun z => by rcases ft2 j z with z | z; exact c z; omega), fr2 j a b c]
    · rcases g7 j a with z | z
      · exact ft1 j z
      · exact .inr (Nat.le_trans hn z)
    · rcases g8 j a with z | z
      · exact ft2 j z
      · exact .inr (Nat.le_trans hn z)
/-- Both's answer. -/
theorem c8_neg (lim : Int) (x : Value) (H : Hp) (hl : lim < 0) : RR F.cadencelaw07_Both [.int .i64 lim, x] H = some (.tuple #[.pointer none, .pointer none, .bool true], H) := by
  refine (r_cadencelaw07_Both E0 rfl _ _ _).trans ?_
  unfold m_cadencelaw07_Both
  have e1 := c16 lim H
  have e2 := c17 lim H
  rw [if_pos hl] at e1 e2
  simp only [s_call e1, s_call e2, s_ext0, s_ext1, s_neq, s_bool, s_br, ne_eq, not_true_eq_false, decide_false, Bool.false_eq_true, if_false, s_pnil0 T.p_term_Store und23, s_pnil0 T.p_cadenceref07_Store und24, s_bneq T.bool _ _ und4, beq_self_eq_true, Bool.not_true, s_bind, s_next, if_true]
structure Was (lim : Int) (os : List OpA) (H H' : Hp) (p f g : Nat) (s1 : Value) (q f' g' : Nat) (s2 : Value) : Prop where
  two : Two H' lim (runR lim os [] []).1 (runR lim os [] []).2 p f g s1 q f' g' s2
  w : ∀ m ∈ (runR lim os [] []).1, 0 ≤ m.w ∧ m.w ≤ 64
  l : (runR lim os [] []).1.length ≤ os.length
  next : H.next ≤ H'.next
  old : ∀ j, j < H.next → H'.get j = H.get j
  a : ∀ j, Foot p f g s1 j → H.next ≤ j
  b : ∀ j, Foot q f' g' s2 j → H.next ≤ j
theorem c8_pos (lim : Int) (os : List OpA) (hf : Fine os) (x : Value) (H : Hp) (hx : ScR H x os) (hl : ¬ lim < 0) :
    ∃ H' p f g s1 q f' g' s2, RR F.cadencelaw07_Both [.int .i64 lim, x] H = some (.tuple #[.pointer (some ⟨p, 0, none⟩), .pointer (some ⟨q, 0, none⟩), .bool true], H') ∧ Was lim os H H' p f g s1 q f' g' s2 := by
  have e1 := c16 lim H
  have e2 := c17 lim (newH lim H)
  rw [if_neg hl] at e1 e2
  have a1 := newH_st lim H
  have a2 := newH_st lim (newH lim H)
  have hn1 := newH_next lim H
  have hn2 := newH_next lim (newH lim H)
  have hft : ∀ {a b c i : Nat}, Foot a b c (.slice none 0 0) i → i = a ∨ i = b ∨ i = c := fun z => by
    rcases z with z | z | z | z
    · exact .inl z
    · exact .inr (.inl z)
    · exact .inr (.inr z)
    · cases z
  have a1' : StF (newH lim (newH lim H)) (H.next + 2) lim [] [] (.slice none 0 0) H.next (H.next + 1) := a1.keep (fun i hi => newH_old _ _ _ (a1.foot_lt hi)) (by omega)
  have two : Two (newH lim (newH lim H)) lim [] [] (H.next + 2) H.next (H.next + 1) (.slice none 0 0) ((newH lim H).next + 2) (newH lim H).next ((newH lim H).next + 1) (.slice none 0 0) :=
    ⟨a1', a2, fun i z1 z2 => by have := hft z1; have := hft z2; omega⟩
  have hold : ∀ j, j < H.next → (newH lim (newH lim H)).get j = H.get j := fun j hj => by rw [newH_old _ _ _ (by omega), newH_old _ _ _ hj]
  obtain ⟨H', t1, t2, g1, g2, g3, g4, g5, g6, g7, g8⟩ := loop8 lim os hf x (H.next + 2) H.next (H.next + 1) ((newH lim H).next + 2) (newH lim H).next ((newH lim H).next + 1) os.length 0 [] [] (newH lim (newH lim H)) _ _ (by omega) two (fun m hm => by cases hm) (by simp) (hx.keep (fun y cs h1 h2 => by rw [hold y h1]; exact h2) (by omega))
  rw [List.drop_zero] at g2 g3 g4
  refine ⟨H', _, _, _, t1, _, _, _, t2, ?_, ⟨g2, g3, g4, by omega, fun j hj => ?_, fun j hj => ?_, fun j hj => ?_⟩⟩
  · refine (r_cadencelaw07_Both E0 rfl _ _ _).trans ?_
    unfold m_cadencelaw07_Both
    unfold step8 at g1
    rw [show ((0 : Nat) : Int) = 0 from rfl] at g1
    rw [s_call e1, s_ext0, s_ext1, s_call e2, s_ext0, s_ext1, s_neq, s_bool, decide_eq_false (by simp)]
    simp only [s_brf, s_brt, s_bool, s_pnil T.p_term_Store _ und23, s_pnil T.p_cadenceref07_Store _ und24, s_bneq T.bool _ _ und4, beq_self_eq_true, Bool.not_true, s_bind, s_next]
    rw [g1]
    rfl
  · rw [g6 j (by omega) (fun z => by have := hft z; omega) (fun z => by have := hft z; omega), hold j hj]
  · rcases g7 j hj with z | z
    · have := hft z; omega
    · omega
  · rcases g8 j hj with z | z
    · have := hft z; omega
    · omega
end Go.AM
/- The Term seat: the arguments. -/
set_option linter.unusedVariables false
set_option maxRecDepth 100000
set_option linter.unusedSimpArgs false
namespace Go.AM
open Go Go.ChangeShapes Go.WideShapes Go.ChangeAt Go.RowKit
theorem consL {α : Type} {l : List α} {n : Nat} (h : l.length = n + 1) : ∃ a t, l = a :: t ∧ t.length = n := by
  cases l with
  | nil => cases h
  | cons a t => exact ⟨a, t, rfl, by simpa using h⟩
def ks16 : List Sc := [.int .i64, .int .i64, .int .i64, .int .i64, .int .i64, .int .i64, .bool, .int .u64, .str, .int .i64, .int .i64, .int .i64, .int .i64, .int .i64, .int .u64, .str]
theorem opDec (l : List Value) (h : OkL ks16 l) : ∃ o : OpA, o.cells = l ∧ o.Ok := by
  obtain ⟨hl0, hh⟩ := h
  obtain ⟨v0, l0, rfl, hl1⟩ := consL hl0
  obtain ⟨v1, l1, rfl, hl2⟩ := consL hl1
  obtain ⟨v2, l2, rfl, hl3⟩ := consL hl2
  obtain ⟨v3, l3, rfl, hl4⟩ := consL hl3
  obtain ⟨v4, l4, rfl, hl5⟩ := consL hl4
  obtain ⟨v5, l5, rfl, hl6⟩ := consL hl5
  obtain ⟨v6, l6, rfl, hl7⟩ := consL hl6
  obtain ⟨v7, l7, rfl, hl8⟩ := consL hl7
  obtain ⟨v8, l8, rfl, hl9⟩ := consL hl8
  obtain ⟨v9, l9, rfl, hl10⟩ := consL hl9
  obtain ⟨v10, l10, rfl, hl11⟩ := consL hl10
  obtain ⟨v11, l11, rfl, hl12⟩ := consL hl11
  obtain ⟨v12, l12, rfl, hl13⟩ := consL hl12
  obtain ⟨v13, l13, rfl, hl14⟩ := consL hl13
  obtain ⟨v14, l14, rfl, hl15⟩ := consL hl14
  obtain ⟨v15, l15, rfl, hl16⟩ := consL hl15
  have : l15 = [] := by cases l15 with | nil => rfl | cons a t => cases hl16
  subst this
  obtain ⟨_, e, n0, rfl, p0, q0⟩ := hh 0 _ rfl
  cases e
  obtain ⟨_, e, n1, rfl, p1, q1⟩ := hh 1 _ rfl
  cases e
  obtain ⟨_, e, n2, rfl, p2, q2⟩ := hh 2 _ rfl
  cases e
  obtain ⟨_, e, n3, rfl, p3, q3⟩ := hh 3 _ rfl
  cases e
  obtain ⟨_, e, n4, rfl, p4, q4⟩ := hh 4 _ rfl
  cases e
  obtain ⟨_, e, n5, rfl, p5, q5⟩ := hh 5 _ rfl
  cases e
  obtain ⟨_, e, n6, rfl⟩ := hh 6 _ rfl
  cases e
  obtain ⟨_, e, n7, rfl, p7, q7⟩ := hh 7 _ rfl
  cases e
  obtain ⟨_, e, n8, rfl⟩ := hh 8 _ rfl
  cases e
  obtain ⟨_, e, n9, rfl, p9, q9⟩ := hh 9 _ rfl
  cases e
  obtain ⟨_, e, n10, rfl, p10, q10⟩ := hh 10 _ rfl
  cases e
  obtain ⟨_, e, n11, rfl, p11, q11⟩ := hh 11 _ rfl
  cases e
  obtain ⟨_, e, n12, rfl, p12, q12⟩ := hh 12 _ rfl
  cases e
  obtain ⟨_, e, n13, rfl, p13, q13⟩ := hh 13 _ rfl
  cases e
  obtain ⟨_, e, n14, rfl, p14, q14⟩ := hh 14 _ rfl
  cases e
  obtain ⟨_, e, n15, rfl⟩ := hh 15 _ rfl
  cases e
  have e1 : IntKind.u64.min = 0 := rfl
  have e2 : IntKind.u64.max = 18446744073709551615 := rfl
  exact ⟨⟨n0, n1, n2, n3, n4, n5, n6, n7, n8, ⟨n9, n10, n11, n12, n13, n14, n15⟩⟩, rfl, ⟨⟨by show 0 ≤ n7; omega, by show n7 < 18446744073709551616; omega⟩, ⟨by show 0 ≤ n14; omega, by show n14 < 18446744073709551616; omega⟩⟩⟩
theorem decL {X : Type} {ks : List Sc} {cells : X → List Value} {Q : X → Prop} (dec : ∀ l, OkL ks l → ∃ o : X, cells o = l ∧ Q o) : ∀ Ls : List (List Value), (∀ l ∈ Ls, OkL ks l) → ∃ os : List X, Ls = os.map cells ∧ ∀ o ∈ os, Q o
  | [], _ => ⟨[], rfl, fun o h => by cases h⟩
  | l :: Ls, h => by
    obtain ⟨o, h1, h2⟩ := dec l (h l (List.mem_cons_self ..))
    obtain ⟨os, h3, h4⟩ := decL dec Ls fun l hl => h l (List.mem_cons_of_mem _ hl)
    refine ⟨o :: os, by rw [h3, List.map_cons, h1], fun x hx => ?_⟩
    rcases List.mem_cons.1 hx with rfl | hx
    · exact h2
    · exact h4 x hx
open Go.Proofs.YtkfhklmklhnfaaaDoor in
theorem bulk1 {HH : Type} (d : DataW HH) : 1 ≤ Rows.uptoBulk d := by
  cases d <;> first | (rename_i l; cases l <;> simp [Rows.uptoBulk]) | simp [Rows.uptoBulk]
open Go.Proofs.YtkfhklmklhnfaaaDoor in
theorem bulk_len {HH : Type} : ∀ es : List (DataW HH), es.length ≤ Rows.uptoBulkAll es
  | [] => Nat.zero_le _
  | d :: r => by
    have := bulk_len r
    have := bulk1 d
    simp only [Rows.uptoBulkAll, List.length_cons]
    omega
theorem flat46 : flat PP 3 T.cadencelaw07_Op = some ks16 := by kernel_rfl
theorem script_arg {HH : Type} {enc : TypeId × Value → HH} {W : World} {H : Hp} {β : Bt} (hR : Rel PP W H β) (hno : ∀ i o, H.get i = some o → o.own = false) {b0 : Nat} {v' : Value} {dw : DataW HH} {ps : List MemPlace}
    (hval : Value.okWide PP W .any b0 T.sl_cadencelaw07_Op v') (hd : DataW.Trod enc PP W 0 (fun _ => true) true T.sl_cadencelaw07_Op v' dw ps) :
    ∃ (v : Value) (H' : Hp) (β' : Bt) (os : List OpA), Rel PP W H' β' ∧ (∀ i o, H'.get i = some o → o.own = false) ∧ β.le β' ∧ VRel β' v v' ∧ ScR H' v os ∧ (∀ o ∈ os, o.Ok) ∧ os.length ≤ Go.Proofs.YtkfhklmklhnfaaaDoor.Rows.uptoBulk dw ∧ Frm (fun _ => False) H H' := by
  obtain ⟨v, H', β', g1, g2, g3, g4, g5⟩ := arg_flats (P := PP) (t := T.sl_cadencelaw07_Op) (e := T.cadencelaw07_Op) (d := 3) (ks := ks16) (by kernel_rfl) flat46 (by kernel_rfl) (by decide) hR hno hval hd
  rcases g5 with ⟨rfl, rfl, rfl⟩ | ⟨L, es, sp, rfl, rfl, h1, rfl, h2⟩
  · exact ⟨_, _, β', [], g1, g2, g3, g4, .inl ⟨rfl, rfl⟩, fun o h => (by cases h), by simp, Frm.refl _ _⟩
  · obtain ⟨os, h3, h4⟩ := decL (cells := OpA.cells) opDec L h1
    subst h3
    refine ⟨_, _, β', os, g1, g2, g3, g4, .inr ⟨H.next, ?_, ?_, ?_⟩, h4, ?_, fr_new _ _ _⟩
    · rw [List.length_map]; rfl
    · rw [g_new, if_pos rfl, List.flatMap_def]
    · show H.next < H.next + 1; omega
    · have := bulk_len es
      rw [List.length_map] at h2
      simp only [Go.Proofs.YtkfhklmklhnfaaaDoor.Rows.uptoBulk]
      omega
end Go.AM
/- The Term seat: loops, nodes. -/
set_option linter.unusedVariables false
set_option maxRecDepth 100000
set_option linter.unusedSimpArgs false
namespace Go.AM
open Go
/-- A loop's rule: an invariant, and a number that becomes less. -/
theorem loop_rule {σ : Type} {S : List Value → Hp → Option Outc} {I : σ → List Value → Hp → Prop} {m : σ → Nat} {out : Outc → Prop}
    (h : ∀ s l H, I s l H → (∃ l' H' s', S l H = some (.next, l', H') ∧ m s' < m s ∧ I s' l' H') ∨ (∃ o, S l H = some o ∧ o.1 ≠ .next ∧ out o)) :
    ∀ (k : Nat) (s : σ) (l : List Value) (H : Hp), m s ≤ k → I s l H → ∃ o, loopD S l H = some o ∧ out o := by
  intro k
  induction k with
  | zero =>
    intro s l H hk hI
    rcases h s l H hI with ⟨l', H', s', _, h2, _⟩ | ⟨o, h1, h2, h3⟩
    · omega
    · refine ⟨o, ?_, h3⟩
      rw [loopD_eq, h1]
      obtain ⟨c, l', H'⟩ := o
      cases c <;> first | rfl | exact absurd rfl h2
  | succ k ih =>
    intro s l H hk hI
    rcases h s l H hI with ⟨l', H', s', h1, h2, h3⟩ | ⟨o, h1, h2, h3⟩
    · obtain ⟨o, g1, g2⟩ := ih s' l' H' (by omega) h3
      refine ⟨o, ?_, g2⟩
      rw [loopD_eq, h1]
      exact g1
    · refine ⟨o, ?_, h3⟩
      rw [loopD_eq, h1]
      obtain ⟨c, l', H'⟩ := o
      cases c <;> first | rfl | exact absurd rfl h2
/-- A loop that counts, and changes nothing. -/
theorem loop_count {S : List Value → Hp → Option Outc} {H : Hp} (n : Nat) (hs : ∀ i, i < n → S [.int .i64 (i : Int)] H = some (.next, [.int .i64 ((i + 1 : Nat) : Int)], H))
    (he : S [.int .i64 (n : Int)] H = some (.exit 0, [.int .i64 (n : Int)], H)) : ∀ k i, i + k = n → loopD S [.int .i64 (i : Int)] H = some (.exit 0, [.int .i64 (n : Int)], H)
  | 0, i, h => by
    have : i = n := by omega
    subst this
    rw [loopD_eq, he]; rfl
  | k + 1, i, h => by
    rw [loopD_eq, hs i (by omega)]
    exact loop_count n hs he k (i + 1) (by omega)

def noNd : Nd := ⟨0, 0, 0, 0, 0, 0, ⟨#[]⟩⟩
def nodeAt (L : List Nd) (t : Int) : Nd := if isT L t = true then (L[(t - 1).toNat]?).getD noNd else noNd
theorem bnil {α : Type} (k : Value → Option α) : pBuild PP T.api_Node [] k = k noNd.val := bld (by kernel_rfl) k
theorem ncell7 {α : Type} (n : Nd) (k : Value → Option α) : pCell 7 true n.cells 0 k = k n.val := rfl
theorem nodes_at (L : List Nd) : ∀ i n, L[i]? = some n → ((L.flatMap Nd.cells).drop (i * 7)).take 7 = n.cells := by
  induction L with
  | nil => intro i o h; cases h
  | cons a L ih =>
    intro i o h
    have h7 : ∀ n : Nd, n.cells.length = 7 := fun n => rfl
    rw [List.flatMap_cons]
    cases i with
    | zero => cases h; rw [Nat.zero_mul, List.drop_zero, List.take_append_of_le_length (by rw [h7]; omega), List.take_of_length_le (by rw [h7]; omega)]
    | succ i =>
      rw [List.drop_append, List.drop_of_length_le (by rw [h7]; omega), h7, List.nil_append, show (i + 1) * 7 - 7 = i * 7 by omega]
      exact ih i o h
theorem ld7 {α : Type} {H : Hp} {L : List Nd} {y : Nat} {b : Bool} (h : H.get y = some (.cells (L.flatMap Nd.cells) b)) {i : Nat} {n : Nd} (ho : L[i]? = some n) (k : Value → Option α) :
    pLoad 7 true H (.pointer (some ⟨y, i * 7, none⟩)) k = k n.val := by
  have hlt : i < L.length := (List.getElem?_eq_some_iff.1 ho).1
  have h1 : i * 7 + 7 ≤ (L.flatMap Nd.cells).length := by rw [flat_len]; omega
  simp only [pLoad, Hp.rdP, Hp.rd, h, rdCells, h1, if_true, nodes_at L i n ho]
  rfl
theorem nodeEq_iff (n m : Nd) : nodeEq n m = true ↔ n = m := by
  cases n; cases m
  unfold nodeEq
  simp [ba_eq]
theorem nodeEq_self (n : Nd) : nodeEq n n = true := (nodeEq_iff n n).2 rfl
theorem eq36d (n m : Nd) : eqT PP Op.maxDepth T.api_Node n.val m.val =
    thenO (n.op == m.op) (thenO (n.w == m.w) (thenO (n.a == m.a) (thenO (n.b == m.b) (thenO (n.c == m.c) (thenO (n.num == m.num) (thenO (n.name == m.name) (some true))))))) := by
  kernel_rfl
theorem eqOp36 (n m : Nd) : eqOp PP T.api_Node n.val m.val = some (nodeEq n m) := by
  have hg : PP.eqGuardType PP.depth T.api_Node = false := by kernel_rfl
  show (match PP.eqGuardType PP.depth T.api_Node with | true => none | false => eqT PP Op.maxDepth T.api_Node n.val m.val) = _
  rw [hg, eq36d]
  unfold nodeEq
  cases n.op == m.op <;> cases n.w == m.w <;> cases n.a == m.a <;> cases n.b == m.b <;> cases n.c == m.c <;> cases n.num == m.num <;> cases n.name == m.name <;> rfl
theorem s_neq36 {α : Type} (n m : Nd) (k : Value → Option α) : pBin PP .neq T.api_Node n.val m.val k = k (.bool (!nodeEq n m)) := by
  have : binV PP .neq T.api_Node n.val m.val = some (.bool (!nodeEq n m)) := by
    show (match eqOp PP T.api_Node n.val m.val with | some b => some (Value.bool !b) | none => none) = _
    rw [eqOp36]
  unfold pBin; rw [this]
theorem s_eql36 {α : Type} (n m : Nd) (k : Value → Option α) : pBin PP .eql T.api_Node n.val m.val k = k (.bool (nodeEq n m)) := by
  have : binV PP .eql T.api_Node n.val m.val = some (.bool (nodeEq n m)) := by
    show (match eqOp PP T.api_Node n.val m.val with | some b => some (Value.bool b) | none => none) = _
    rw [eqOp36]
  unfold pBin; rw [this]
theorem nodeAt_get {L : List Nd} {i : Nat} (h : i < L.length) : nodeAt L ((i + 1 : Nat) : Int) = L[i] ∧ isT L ((i + 1 : Nat) : Int) = true := by
  have h1 : isT L ((i + 1 : Nat) : Int) = true := isT_iff.2 ⟨by omega, by omega⟩
  refine ⟨?_, h1⟩
  unfold nodeAt
  rw [if_pos h1]
  have : (((i + 1 : Nat) : Int) - 1).toNat = i := by omega
  rw [this]; simp [h]
theorem SlR.ix {H : Hp} {L : List Nd} {sl : Value} (h : SlR H sl L) {i : Nat} (hi : i < L.length) {α : Type} :
    ∃ y, H.get y = some (.cells (L.flatMap Nd.cells) true) ∧ ∀ (k : Value → Option α), pIdx 7 sl (.int .i64 (i : Int)) k = k (.pointer (some ⟨y, i * 7, none⟩)) := by
  rcases h with ⟨rfl, _⟩ | ⟨y, rfl, hy⟩
  · cases hi
  · refine ⟨y, hy, fun k => ?_⟩
    unfold pIdx idxV
    have : (7 : Nat) = 7 ∧ (0 : Int) ≤ (i : Int) ∧ (i : Int) < (L.length : Int) := ⟨rfl, by omega, by omega⟩
    simp only [this, and_self, if_true, Nat.zero_add, Int.toNat_natCast]
theorem s_chkL {α : Type} {H H' : Hp} {sl : Value} {L : List Nd} (h : SlR H sl L) (k : Option α) : lenAgain .sl sl H' (.int .i64 L.length) k = k := by
  unfold lenAgain
  refine s_chk ?_ k
  rcases h with ⟨rfl, rfl⟩ | ⟨i, rfl, _⟩ <;> rfl
theorem StR.rd1 {H : Hp} {p f g : Nat} {lim : Int} {L : List Nd} {sl : Value} (h : StR H p lim L sl f g) : Hp.rdP H (.pointer (some ⟨p, 1, none⟩)) 1 false = some sl := by
  simp [Hp.rdP, Hp.rd, h.obj, rdCells]
end Go.AM
/- The Term seat: rules. -/
set_option linter.unusedVariables false
set_option maxRecDepth 100000
set_option linter.unusedSimpArgs false
namespace Go.AM
open Go
/-- A call on the program's store: what it keeps. -/
structure One (H : Hp) (lim : Int) (L : List Nd) (K : List (ByteArray × Int)) (p f g : Nat) (sl : Value) (H' : Hp) (L' : List Nd) (K' : List (ByteArray × Int)) (sl' : Value) : Prop where
  st : StF H' p lim L' K' sl' f g
  next : H.next ≤ H'.next
  same : ∀ j, j < H.next → ¬ Foot p f g sl j → H'.get j = H.get j
  foot : ∀ j, Foot p f g sl' j → Foot p f g sl j ∨ H.next ≤ j
theorem One.refl {H : Hp} {lim : Int} {L : List Nd} {K : List (ByteArray × Int)} {p f g : Nat} {sl : Value} (h : StF H p lim L K sl f g) : One H lim L K p f g sl H L K sl := ⟨h, Nat.le_refl _, fun _ _ _ => rfl, fun _ a => .inl a⟩
theorem One.trans {H : Hp} {lim : Int} {L : List Nd} {K : List (ByteArray × Int)} {p f g : Nat} {sl : Value} {H1 : Hp} {L1 : List Nd} {K1 : List (ByteArray × Int)} {s1 : Value} {H2 : Hp} {L2 : List Nd} {K2 : List (ByteArray × Int)} {s2 : Value}
    (h : One H lim L K p f g sl H1 L1 K1 s1) (k : One H1 lim L1 K1 p f g s1 H2 L2 K2 s2) : One H lim L K p f g sl H2 L2 K2 s2 := by
  refine ⟨k.st, Nat.le_trans h.next k.next, fun j hj a => ?_, fun j a => ?_⟩
  · rw [k.same j (Nat.lt_of_lt_of_le hj h.next) (fun b => by rcases h.foot j b with c | c; exact a c; omega), h.same j hj a]
  · rcases k.foot j a with b | b
    · exact h.foot j b
    · exact .inr (Nat.le_trans h.next b)
theorem Does.one {H : Hp} {lim : Int} {L : List Nd} {K : List (ByteArray × Int)} {p f g : Nat} {sl : Value} {fn : FuncId} {xs : List Value} {r : Res} (h : Does H p lim sl f g fn xs r) :
    ∃ H' sl', RR fn (.pointer (some ⟨p, 0, none⟩) :: xs) H = some (.tuple #[.int .i64 r.1, .int .i64 r.2.1], H') ∧ One H lim L K p f g sl H' r.2.2.1 r.2.2.2 sl' := by
  obtain ⟨H', sl', h1, h2⟩ := h
  exact ⟨H', sl', h1, h2.st, h2.next, fun j a b => h2.same a b, fun j a => h2.foot a⟩
theorem ScR.one {H : Hp} {lim : Int} {L : List Nd} {K : List (ByteArray × Int)} {p f g : Nat} {sl : Value} {H1 : Hp} {L1 : List Nd} {K1 : List (ByteArray × Int)} {s1 : Value} {x : Value} {os : List OpA} (hx : ScR H x os)
    (hst : StF H p lim L K sl f g) (h : One H lim L K p f g sl H1 L1 K1 s1) : ScR H1 x os :=
  hx.keep (fun y cs h1 h2 => by rw [h.same y h1 (fun a => by obtain ⟨o, g1, g2⟩ := hst.own a; rw [h2] at g1; cases g1; cases g2)]; exact h2) h.next
theorem newH_one {H : Hp} (lim : Int) : StF (newH lim H) (H.next + 2) lim [] [] (.slice none 0 0) H.next (H.next + 1) := newH_st lim H
theorem foot_nil {a b c i : Nat} (z : Foot a b c (.slice none 0 0) i) : i = a ∨ i = b ∨ i = c := by
  rcases z with z | z | z | z
  · exact .inl z
  · exact .inr (.inl z)
  · exact .inr (.inr z)
  · cases z
theorem s_pneq {α : Type} {P : Program} (T : TypeId) (a : Addr) (hT : ∃ t, P.underlying T = some (.pointer t)) (k : Value → Option α) : pBin P .neq T (.pointer (some a)) (.pointer none) k = k (.bool true) := by
  obtain ⟨t, ht⟩ := hT
  have : eqT P Op.maxDepth T (.pointer (some a)) (.pointer none) = some false := by
    unfold Op.maxDepth
    simp only [eqT, ht]
  simp only [pBin, binV, eqOp, this]; rfl
theorem s_pneq0 {α : Type} {P : Program} (T : TypeId) (hT : ∃ t, P.underlying T = some (.pointer t)) (k : Value → Option α) : pBin P .neq T (.pointer none) (.pointer none) k = k (.bool false) := by
  obtain ⟨t, ht⟩ := hT
  have : eqT P Op.maxDepth T (.pointer none) (.pointer none) = some true := by
    unfold Op.maxDepth
    simp only [eqT, ht]; rfl
  simp only [pBin, binV, eqOp, this]; rfl
theorem s_beql {α : Type} {P : Program} (T : TypeId) (a b : Bool) (hT : P.underlying T = some .bool) (k : Value → Option α) : pBin P .eql T (.bool a) (.bool b) k = k (.bool (a == b)) := by
  have : eqT P Op.maxDepth T (.bool a) (.bool b) = some (a == b) := by
    unfold Op.maxDepth
    simp only [eqT, hT]
  simp only [pBin, binV, eqOp, this]
theorem s_lookN {α : Type} {P : Program} {kt : TypeId} {z m key v : Value} {b : Bool} {H : Hp} (h : lookV P kt z m key H = some (v, b)) (k : Value → Option α) : pLook P kt z m key false H k = k v := by unfold pLook; rw [h]
theorem placeOf_take {L : List Nd} (hn : ∀ (i j : Nat) m, L[i]? = some m → L[j]? = some m → i = j) {i : Nat} {n : Nd} (hi : L[i]? = some n) : placeOf n 0 (L.take i) = none := by
  cases hq : placeOf n 0 (L.take i) with
  | none => rfl
  | some q =>
    obtain ⟨_, h2⟩ := placeOf_some n (L.take i) 0 q hq
    rw [Nat.sub_zero, List.getElem?_take] at h2
    split at h2
    · rename_i lt
      have := hn q i n h2 hi
      omega
    · cases h2
theorem ncell2 {α : Type} (n : Nd) (k : Value → Option α) : pCell 1 false n.cells 2 k = k (.int .i64 n.a) := s_cell _ 2 _ rfl k
theorem ncell3 {α : Type} (n : Nd) (k : Value → Option α) : pCell 1 false n.cells 3 k = k (.int .i64 n.b) := s_cell _ 3 _ rfl k
theorem ncell4 {α : Type} (n : Nd) (k : Value → Option α) : pCell 1 false n.cells 4 k = k (.int .i64 n.c) := s_cell _ 4 _ rfl k
end Go.AM
/- The Term seat: the program's order, a round. -/
set_option linter.unusedVariables false
set_option maxRecDepth 100000
set_option linter.unusedSimpArgs false
namespace Go.AM
open Go
def ints (l : List Nat) : List Value := l.map fun (t : Nat) => Value.int .i64 (t : Int)
def bools (l : List Bool) : List Value := l.map .bool
def plc (x : Nat × Nat) : List Value := [.int .i64 (x.1 : Int), .int .i64 (x.2 : Int)]
def places (l : List (Nat × Nat)) : List Value := l.flatMap plc
theorem ints_len (l : List Nat) : (ints l).length = l.length := by simp [ints]
theorem ints_one (l : List Nat) : (ints l).all one = true := by simp [ints, one]
theorem bools_one (l : List Bool) : (bools l).all one = true := by simp [bools, one]
theorem ints_app (l m : List Nat) : ints (l ++ m) = ints l ++ ints m := by simp [ints]
theorem places_len : ∀ l : List (Nat × Nat), (places l).length = l.length * 2
  | [] => rfl
  | x :: l => by
    show (plc x ++ places l).length = _
    rw [List.length_append, places_len l, List.length_cons]
    show 2 + _ = _; omega
theorem places_app (l m : List (Nat × Nat)) : places (l ++ m) = places l ++ places m := by simp [places]
theorem places_one : ∀ l : List (Nat × Nat), (places l).all one = true
  | [] => rfl
  | x :: l => by
    show (plc x ++ places l).all one = true
    rw [List.all_append, places_one l]; rfl
theorem places_last (l : List (Nat × Nat)) (x : Nat × Nat) : (places (l ++ [x]))[l.length * 2]? = some (.int .i64 (x.1 : Int)) ∧ (places (l ++ [x]))[l.length * 2 + 1]? = some (.int .i64 (x.2 : Int)) := by
  rw [places_app]
  have h := places_len l
  constructor
  · rw [List.getElem?_append_right (by omega), h, Nat.sub_self]; rfl
  · rw [List.getElem?_append_right (by omega), h, Nat.add_sub_cancel_left]; rfl
/-- What the order's rounds keep: the store as it was, three slices of their own. -/
structure PS (H0 H : Hp) (lv : Value) (out : List Nat) (sv : Value) (stk : List (Nat × Nat)) (bv : Value) (seen : List Bool) : Prop where
  next : H0.next ≤ H.next
  old : ∀ j, j < H0.next → H.get j = H0.get j
  l : Vec H 1 lv out.length (ints out)
  s : Vec H 2 sv stk.length (places stk)
  b : Vec H 1 bv seen.length (bools seen)
  al : ∀ j, Id lv j → H0.next ≤ j
  as' : ∀ j, Id sv j → H0.next ≤ j
  ab : ∀ j, Id bv j → H0.next ≤ j
  ls : ∀ j, Id lv j → ¬ Id sv j
  lb : ∀ j, Id lv j → ¬ Id bv j
  sb : ∀ j, Id sv j → ¬ Id bv j
section
variable {H0 H : Hp} {lv sv bv : Value} {out : List Nat} {stk : List (Nat × Nat)} {seen : List Bool} (h : PS H0 H lv out sv stk bv seen)
include h
theorem PS.at0 {p f g : Nat} {lim : Int} {L : List Nd} {K : List (ByteArray × Int)} {sl : Value} (hst : StF H0 p lim L K sl f g) : StF H p lim L K sl f g :=
  hst.keep (fun i hi => h.old i (hst.foot_lt hi)) h.next
/-- A term is seen. -/
theorem PS.see {i : Nat} (hi : i < seen.length) : ∃ y, Id bv y ∧ (∀ (α : Type) (kd : IntKind) (k : Value → Option α), pIdx 1 bv (.int kd (i : Int)) k = k (.pointer (some ⟨y, i * 1, none⟩))) ∧
    ∃ H', (∀ (α : Type) (k : Hp → Option α), pStore 1 H (.pointer (some ⟨y, i * 1, none⟩)) (.bool true) k = k H') ∧ PS H0 H' lv out sv stk bv (seen.set i true) ∧ H'.next = H.next := by
  obtain ⟨y, hy, _, hix⟩ := h.b.ix hi
  have hl : (bools seen).length = seen.length := by simp [bools]
  obtain ⟨H', h1, h2, h3, h4⟩ := h.b.set hy (m := 1) (o := i * 1) (x := .bool true) rfl (by rw [hl]; omega) rfl
  refine ⟨y, hy, hix, H', h1, ⟨?_, fun j hj => ?_, h.l.keep h3 h.lb, h.s.keep h3 h.sb, ?_, h.al, h.as', h.ab, h.ls, h.lb, h.sb⟩, h4⟩
  · rw [h4]; exact h.next
  · rw [h3.same j (Nat.lt_of_lt_of_le hj h.next) (fun q => by have := h.ab j q; omega), h.old j hj]
  · have e : spl (bools seen) (i * 1) (cellsL (.bool true)) = bools (seen.set i true) := by
      unfold spl bools
      show (seen.map Value.bool).take (i * 1) ++ [Value.bool true] ++ (seen.map Value.bool).drop (i * 1 + 1) = _
      rw [Nat.mul_one, List.map_set, List.set_eq_take_append_cons_drop, if_pos (by simpa using hi)]
      simp
    rw [e] at h2
    rw [List.length_set]; exact h2
theorem PS.seen_at {i : Nat} {b : Bool} (hi : seen[i]? = some b) : ∃ y, Id bv y ∧ (∀ (α : Type) (kd : IntKind) (k : Value → Option α), pIdx 1 bv (.int kd (i : Int)) k = k (.pointer (some ⟨y, i * 1, none⟩))) ∧
    (∀ (α : Type) (k : Value → Option α), pLoad 1 false H (.pointer (some ⟨y, i * 1, none⟩)) k = k (.bool b)) := by
  have hlt := (List.getElem?_eq_some_iff.1 hi).1
  obtain ⟨y, hy, ⟨rest, hg⟩, hix⟩ := h.b.ix hlt
  exact ⟨y, hy, hix, fun α k => ld_cell hg (by rw [Nat.mul_one]; unfold bools; rw [List.getElem?_map, hi]; rfl) k⟩
/-- A place more. -/
theorem PS.push (t : Nat) {zs : List Value} (hz : zs.length = 2) (hb : (stk.length + 1) * 16 ≤ 2 ^ 47) :
    ∃ sv' H', (∀ (α : Type) (k : Value → Hp → Option α), (pBuildSlice 2 zs 1 [(0, .agg #[.int .i64 (t : Int), .int .i64 0])] H fun x H1 => pAppend 2 16 sv x H1 k) = k sv' H') ∧ PS H0 H' lv out sv' (stk ++ [(t, 0)]) bv seen := by
  obtain ⟨sv', H', h1, h2, h3, h4, h5⟩ := h.s.push (bytes := 16) (zs := zs) (x := .agg #[.int .i64 (t : Int), .int .i64 0]) (by decide) (by decide) hz rfl rfl hb
  have hn := h.next
  refine ⟨sv', H', h1, ⟨Nat.le_trans h.next h3.next, fun j hj => ?_, h.l.keep h3 h.ls, ?_, h.b.keep h3 (fun j a b => h.sb j b a), h.al, fun j hj => ?_, h.ab, fun j a b => ?_, h.lb, fun j a b => ?_⟩⟩
  · rw [h3.same j (Nat.lt_of_lt_of_le hj h.next) (fun q => by have := h.as' j q; omega), h.old j hj]
  · have : places (stk ++ [(t, 0)]) = places stk ++ cellsL (.agg #[.int .i64 (t : Int), .int .i64 0]) := by rw [places_app]; rfl
    rw [this, List.length_append]; exact h2
  · rcases h4 j hj with q | q
    · exact h.as' j q
    · omega
  · rcases h4 j b with q | q
    · exact h.ls j a q
    · have := h.l.lt a; omega
  · rcases h4 j a with q | q
    · exact h.sb j q b
    · have := h.b.lt b; omega
/-- The last place is dropped. -/
theorem PS.pop {below : List (Nat × Nat)} {x : Nat × Nat} (hs : stk = below ++ [x]) : ∃ sv', (∀ (α : Type) (kd : IntKind) (k : Value → Option α), pSlice 2 sv none (some (.int kd (below.length : Int))) k = k sv') ∧ PS H0 H lv out sv' below bv seen := by
  subst hs
  obtain ⟨sv', h1, h2, h3⟩ := h.s.cut (places_one _) (m := below.length) (by simp)
  refine ⟨sv', h1, ⟨h.next, h.old, h.l, ?_, h.b, h.al, fun j a => h.as' j (h3 j a), h.ab, fun j a b => h.ls j a (h3 j b), h.lb, fun j a b => h.sb j (h3 j a) b⟩⟩
  rw [places_app, List.take_left' (places_len below)] at h2
  exact h2
/-- A term is told. -/
theorem PS.tell (t : Nat) (hb : (out.length + 1) * 8 ≤ 2 ^ 47) :
    ∃ lv' H', (∀ (α : Type) (k : Value → Hp → Option α), (pBuildSlice 1 [.int .i64 0] 1 [(0, .int .i64 (t : Int))] H fun x H1 => pAppend 1 8 lv x H1 k) = k lv' H') ∧ PS H0 H' lv' (out ++ [t]) sv stk bv seen := by
  obtain ⟨lv', H', h1, h2, h3, h4, h5⟩ := h.l.push (bytes := 8) (zs := [.int .i64 0]) (x := .int .i64 (t : Int)) (by decide) (by decide) rfl rfl rfl hb
  have hn := h.next
  refine ⟨lv', H', h1, ⟨Nat.le_trans h.next h3.next, fun j hj => ?_, ?_, h.s.keep h3 (fun j a b => h.ls j b a), h.b.keep h3 (fun j a b => h.lb j b a), fun j hj => ?_, h.as', h.ab, fun j a b => ?_, fun j a b => ?_, h.sb⟩⟩
  · rw [h3.same j (Nat.lt_of_lt_of_le hj h.next) (fun q => by have := h.al j q; omega), h.old j hj]
  · rw [ints_app, List.length_append]; exact h2
  · rcases h4 j hj with q | q
    · exact h.al j q
    · omega
  · rcases h4 j a with q | q
    · exact h.ls j q b
    · have := h.s.lt b; omega
  · rcases h4 j a with q | q
    · exact h.lb j q b
    · have := h.b.lt b; omega
/-- The last place goes on. -/
theorem PS.step {below : List (Nat × Nat)} {t j : Nat} (hs : stk = below ++ [(t, j)]) : ∃ y, (∀ (α : Type) (kd : IntKind) (k : Value → Option α), pIdx 2 sv (.int kd (below.length : Int)) k = k (.pointer (some ⟨y, below.length * 2, none⟩))) ∧
    (∀ (α : Type) (k : Value → Option α), pLoad 1 false H (.pointer (some ⟨y, below.length * 2, none⟩)) k = k (.int .i64 (t : Int))) ∧
    (∀ (α : Type) (k : Value → Option α), pLoad 1 false H (.pointer (some ⟨y, below.length * 2 + 1, none⟩)) k = k (.int .i64 (j : Int))) ∧
    Hp.rdP H (.pointer (some ⟨y, below.length * 2 + 1, none⟩)) 1 false = some (.int .i64 (j : Int)) ∧
    ∃ H', (∀ (α : Type) (k : Hp → Option α), pStore 1 H (.pointer (some ⟨y, below.length * 2 + 1, none⟩)) (.int .i64 ((j + 1 : Nat) : Int)) k = k H') ∧ PS H0 H' lv out sv (below ++ [(t, j + 1)]) bv seen := by
  subst hs
  have hlt : below.length < (below ++ [(t, j)]).length := by simp
  obtain ⟨y, hy, ⟨rest, hg⟩, hix⟩ := h.s.ix hlt
  obtain ⟨p1, p2⟩ := places_last below (t, j)
  have hl : (places (below ++ [(t, j)])).length = below.length * 2 + 2 := by rw [places_len, List.length_append]; simp; omega
  obtain ⟨H', h1, h2, h3, h4⟩ := h.s.set hy (m := 1) (o := below.length * 2 + 1) (x := .int .i64 ((j + 1 : Nat) : Int)) rfl (by rw [hl]; omega) rfl
  refine ⟨y, hix, fun α k => ld_cell hg p1 k, fun α k => ld_cell hg p2 k, ?_, H', h1, ⟨by rw [h4]; exact h.next, fun i hi => ?_, h.l.keep h3 h.ls, ?_, h.b.keep h3 (fun i a b => h.sb i b a), h.al, h.as', h.ab, h.ls, h.lb, h.sb⟩⟩
  · have : (places (below ++ [(t, j)]) ++ rest)[below.length * 2 + 1]? = some (.int .i64 (j : Int)) := by rw [List.getElem?_append_left (by omega)]; exact p2
    simp only [Hp.rdP, Hp.rd, hg, rdCells, this]
  · rw [h3.same i (Nat.lt_of_lt_of_le hi h.next) (fun q => by have := h.as' i q; omega), h.old i hi]
  · have e : spl (places (below ++ [(t, j)])) (below.length * 2 + 1) (cellsL (.int .i64 ((j + 1 : Nat) : Int))) = places (below ++ [(t, j + 1)]) := by
      rw [places_app, places_app]
      unfold spl
      have hb := places_len below
      show (places below ++ [Value.int .i64 (t : Int), Value.int .i64 (j : Int)]).take (below.length * 2 + 1) ++ [Value.int .i64 ((j + 1 : Nat) : Int)] ++ (places below ++ [Value.int .i64 (t : Int), Value.int .i64 (j : Int)]).drop (below.length * 2 + 1 + 1) = places below ++ [Value.int .i64 (t : Int), Value.int .i64 ((j + 1 : Nat) : Int)]
      rw [List.take_append, hb, List.drop_append, hb, List.take_of_length_le (by omega), List.drop_of_length_le (by omega), Nat.add_sub_cancel_left, show below.length * 2 + 1 + 1 - below.length * 2 = 2 by omega]
      simp
    rw [e] at h2
    rw [List.length_append] at h2 ⊢
    exact h2
end
end Go.AM
/- The Term seat: the program's order, what leads to one term. -/
set_option linter.unusedVariables false
set_option maxRecDepth 100000
set_option linter.unusedSimpArgs false
namespace Go.AM
open Go
theorem nodup_len : ∀ (n : Nat) (l : List Nat), l.Nodup → (∀ x ∈ l, 1 ≤ x ∧ x ≤ n) → l.length ≤ n
  | 0, l, _, h => by
    cases l with
    | nil => simp
    | cons a l => have := h a (List.mem_cons_self ..); omega
  | n + 1, l, hn, h => by
    by_cases hm : n + 1 ∈ l
    · have h1 := nodup_len n (l.erase (n + 1)) (hn.erase _) fun x hx => by
        have := (List.Nodup.mem_erase_iff hn).1 hx
        have := h x this.2
        omega
      rw [List.length_erase_of_mem hm] at h1
      omega
    · have := nodup_len n l hn fun x hx => by
        have := h x hx
        have : x ≠ n + 1 := fun e => hm (e ▸ hx)
        omega
      omega
theorem posts_nodup {L : List Nd} (h : Dag L) : ∀ (t : Nat), 1 ≤ t → ∀ (out : List Nat), out.Nodup → (post L t out).Nodup := by
  intro t
  induction t using Nat.strongRecOn with
  | _ t ih =>
    intro ht out hn
    rw [post_eq h ht]
    split
    · exact hn
    · rename_i hm
      have key : ∀ (l : List Nat) (o : List Nat), (∀ c ∈ l, c ∈ kids L t) → o.Nodup → (posts L l o).Nodup := by
        intro l
        induction l with
        | nil => exact fun o _ h => h
        | cons c l ihl =>
          intro o hl ho
          have hc := kids_lt h ht (hl c (List.mem_cons_self ..))
          exact ihl _ (fun c hc => hl c (List.mem_cons_of_mem _ hc)) (ih c hc.2 hc.1 o ho)
      refine List.nodup_append.2 ⟨key _ _ (fun c hc => hc) hn, by simp, fun x hx y hy => ?_⟩
      rw [List.mem_singleton] at hy
      subst hy
      intro e
      subst e
      rcases (posts_mem h (N := x - 1) (kids L x) out fun c hc => by have := kids_lt h ht hc; omega).2.2 x hx with q | q
      · exact hm q
      · omega
theorem posts_nd {L : List Nd} (h : Dag L) : ∀ (l : List Nat) (o : List Nat), (∀ c ∈ l, 1 ≤ c) → o.Nodup → (posts L l o).Nodup
  | [], o, _, ho => ho
  | c :: l, o, hl, ho => posts_nd h l _ (fun c hc => hl c (List.mem_cons_of_mem _ hc)) (posts_nodup h c (hl c (List.mem_cons_self ..)) o ho)
/-- Which terms are seen: those that are told, and those on the stack. -/
structure Seen (N : Nat) (seen : List Bool) (out : List Nat) (stk : List (Nat × Nat)) : Prop where
  len : seen.length = N + 1
  at' : ∀ x, x ≤ N → seen[x]? = some (decide (x ∈ out ∨ x ∈ stk.map Prod.fst))
/-- What is told so far. -/
structure Told (N : Nat) (out : List Nat) : Prop where
  nd : out.Nodup
  bd : ∀ x ∈ out, 1 ≤ x ∧ x ≤ N
theorem Told.len {N : Nat} {out : List Nat} (h : Told N out) : out.length ≤ N := nodup_len N out h.nd h.bd
theorem Told.posts {L : List Nd} {N : Nat} {out l : List Nat} (h : Told N out) (hd : Dag L) (hl : ∀ c ∈ l, 1 ≤ c ∧ c ≤ N) : Told N (posts L l out) :=
  ⟨posts_nd hd l out (fun c hc => (hl c hc).1) h.nd, fun x hx => by
    rcases (posts_mem hd l out hl).2.2 x hx with q | q
    · exact h.bd x q
    · exact q⟩
theorem arr3 {α : Type} {a b c : Int} {j : Nat} {x : Int} (h : [a, b, c][j]? = some x) (k : Value → Option α) : pAtArr 3 false 1 (.agg #[.int .i64 a, .int .i64 b, .int .i64 c]) (.int .i64 (j : Int)) k = k (.int .i64 x) := by
  match j, h with
  | 0, h => cases h; rfl
  | 1, h => cases h; rfl
  | 2, h => cases h; rfl
  | n + 3, h => simp at h
theorem build72 {α : Type} (t : Int) (k : Value → Option α) : pBuild PP T.term_place [(0, .int .i64 t), (1, .int .i64 0)] k = k (.agg #[.int .i64 t, .int .i64 0]) := bld (by kernel_rfl) k
theorem ncell0 {α : Type} (n : Nd) (k : Value → Option α) : pCell 1 false n.cells 0 k = k (.int .i64 n.op) := s_cell _ 0 _ rfl k
theorem partsT_nn (op : Int) : (0 : Int) ≤ partsT op ∧ partsT op ≤ 3 := by rcases partsT_cases op with q | q | q | q <;> rw [q] <;> decide
theorem Seen.told {N : Nat} {seen : List Bool} {out : List Nat} {below : List (Nat × Nat)} {t j : Nat} (h : Seen N seen out (below ++ [(t, j)])) : Seen N seen (out ++ [t]) below :=
  ⟨h.len, fun x hx => by
    rw [h.at' x hx]
    congr 2
    simp only [List.map_append, List.map_cons, List.map_nil, List.mem_append, List.mem_singleton, eq_iff_iff]
    constructor
    · rintro (q | q | q)
      · exact .inl (.inl q)
      · exact .inr q
      · exact .inl (.inr q)
    · rintro ((q | q) | q)
      · exact .inl q
      · exact .inr (.inr q)
      · exact .inr (.inl q)⟩
theorem Seen.next {N : Nat} {seen : List Bool} {out : List Nat} {below : List (Nat × Nat)} {t j i : Nat} (h : Seen N seen out (below ++ [(t, j)])) : Seen N seen out (below ++ [(t, i)]) :=
  ⟨h.len, fun x hx => by rw [h.at' x hx]; congr 2; simp⟩
theorem Seen.add {N : Nat} {seen : List Bool} {out : List Nat} {stk : List (Nat × Nat)} {c i : Nat} (h : Seen N seen out stk) (hc : c ≤ N) : Seen N (seen.set c true) out (stk ++ [(c, i)]) :=
  ⟨by rw [List.length_set]; exact h.len, fun x hx => by
    rw [List.getElem?_set]
    by_cases e : c = x
    · subst e
      rw [if_pos rfl, if_pos (by rw [h.len]; omega)]
      simp
    · rw [if_neg e, h.at' x hx]
      congr 2
      have : ¬ x = c := fun q => e q.symm
      simp [this]⟩
section
variable {H0 : Hp} {p f g : Nat} {lim : Int} {L : List Nd} {K : List (ByteArray × Int)} {sl : Value} (hst : StF H0 p lim L K sl f g) (hd : Dag L) (hL : L.length * 64 ≤ 2 ^ 46) (bv : Value)
include hst hd hL
theorem fwd : ∀ t, 1 ≤ t → t ≤ L.length → ∀ (m j : Nat), j + m = (kids L t).length → ∀ (out : List Nat) (below : List (Nat × Nat)) (seen : List Bool) (H : Hp) (lv sv : Value),
    PS H0 H lv out sv (below ++ [(t, j)]) bv seen → Seen L.length seen out (below ++ [(t, j)]) → Told L.length out → (∀ x ∈ below, t < x.1) → below.length + t ≤ L.length → t ∉ out →
    ∃ H' lv' sv' seen', loopD (s_term_Store_Order_2 RR (.pointer (some ⟨p, 0, none⟩)) bv) [lv, sv] H = loopD (s_term_Store_Order_2 RR (.pointer (some ⟨p, 0, none⟩)) bv) [lv', sv'] H' ∧
      PS H0 H' lv' (posts L ((kids L t).drop j) out ++ [t]) sv' below bv seen' ∧ Seen L.length seen' (posts L ((kids L t).drop j) out ++ [t]) below := by
  intro t
  induction t using Nat.strongRecOn with
  | _ t ih =>
    intro h1 hN m
    obtain ⟨n, hn⟩ : ∃ n, L[t - 1]? = some n := ⟨_, List.getElem?_eq_getElem (by omega)⟩
    have hk : kids L t = kidsN n := by unfold kids; rw [hn]
    obtain ⟨kl, kg, kb⟩ := kidsN_get hd hn
    have hpn := partsT_nn n.op
    induction m with
    | zero =>
      intro j hj out below seen H lv sv hp hs ht hb hbl hto
      have hst' := hp.at0 hst
      obtain ⟨y, e1, e2, e3, e4, _⟩ := hp.step rfl
      obtain ⟨sl', hsl, hix⟩ := hst'.st.all.ix (i := t - 1) (by omega) (α := Outc)
      have hol := ht.len
      obtain ⟨lv1, H1, t1, p1⟩ := hp.tell t (by omega)
      obtain ⟨sv1, c1, p2⟩ := p1.pop rfl
      have hlen : (below ++ [(t, j)]).length = below.length + 1 := by simp
      have w1 : IntKind.i64.wrap (((below.length + 1 : Nat) : Int) - 1) = (below.length : Int) := by rw [i64_wrap (by omega) (by omega)]; omega
      have w2 : IntKind.i64.wrap ((t : Int) - 1) = ((t - 1 : Nat) : Int) := by rw [i64_wrap (by omega) (by omega)]; omega
      have q1 : ((below.length + 1 : Nat) : Int) > 0 := by omega
      have hjp : (j : Int) = partsT n.op := by rw [hk, kl] at hj; omega
      have e4' := e4
      rw [hjp] at e4'
      have hls : ∀ {α : Type} (H' : Hp) (k : Value → Option α), pLen .sl sv H' k = k (.int .i64 ((below.length + 1 : Nat) : Int)) := fun H' k => by rw [hp.s.len, hlen]
      have hdrop : (kids L t).drop j = [] := List.drop_of_length_le (by omega)
      rw [hdrop]
      refine ⟨H1, lv1, sv1, seen, ?_, p2, hs.told⟩
      rw [loopD_eq]
      have : s_term_Store_Order_2 RR (.pointer (some ⟨p, 0, none⟩)) bv [lv, sv] H = some (.next, [lv1, sv1], H1) := by
        unfold s_term_Store_Order_2
        simp only [List.getD_cons_succ, List.getD_cons_zero, hls, s_gtr, q1, decide_true, s_bool, s_brt, s_sub, w1, e1, s_nil, s_offs, Nat.zero_add, Nat.add_zero, hst'.st.l1, e2, e3, w2, hix, ld7 hsl hn, spl7, ncell0, s_call (c29 _ _), s_chk e4', s_eql, hjp, t1, c1]
      rw [this]; rfl
    | succ m ihm =>
      intro j hj out below seen H lv sv hp hs ht hb hbl hto
      have hst' := hp.at0 hst
      obtain ⟨y, e1, e2, e3, e4, H1, e5, p1⟩ := hp.step rfl
      obtain ⟨sl', hsl, hix⟩ := hst'.st.all.ix (i := t - 1) (by omega) (α := Outc)
      have hlen : (below ++ [(t, j)]).length = below.length + 1 := by simp
      have w1 : IntKind.i64.wrap (((below.length + 1 : Nat) : Int) - 1) = (below.length : Int) := by rw [i64_wrap (by omega) (by omega)]; omega
      have w2 : IntKind.i64.wrap ((t : Int) - 1) = ((t - 1 : Nat) : Int) := by rw [i64_wrap (by omega) (by omega)]; omega
      have w3 : IntKind.i64.wrap ((j : Int) + 1) = ((j + 1 : Nat) : Int) := by
        have : j < 3 := by rw [hk, kl] at hj; omega
        exact i64_wrap (by omega) (by omega)
      have q1 : ((below.length + 1 : Nat) : Int) > 0 := by omega
      have hjp : ¬ (j : Int) = partsT n.op := by rw [hk, kl] at hj; omega
      have hj3 : j < 3 := by rw [hk, kl] at hj; omega
      obtain ⟨x, hx⟩ : ∃ x, [n.a, n.b, n.c][j]? = some x := ⟨_, List.getElem?_eq_getElem (by simpa using hj3)⟩
      obtain ⟨g1, g2, g3⟩ := kg j x hx (by rw [hk] at hj; omega)
      have hls : ∀ {α : Type} (H' : Hp) (k : Value → Option α), pLen .sl sv H' k = k (.int .i64 ((below.length + 1 : Nat) : Int)) := fun H' k => by rw [hp.s.len, hlen]
      have hxc : x = ((x.toNat : Nat) : Int) := by omega
      generalize x.toNat = c at g1 hxc
      subst hxc
      have hcN : c ≤ L.length := by omega
      have hct : c < t := by omega
      have hc1 : 1 ≤ c := by omega
      have hdrop : (kids L t).drop j = c :: (kids L t).drop (j + 1) := by
        rw [hk]
        have hlt : j < (kidsN n).length := (List.getElem?_eq_some_iff.1 g1).1
        rw [List.drop_eq_getElem_cons hlt]
        have : (kidsN n)[j] = c := (List.getElem?_eq_some_iff.1 g1).2
        rw [this]
      rw [hdrop, posts_cons]
      have hsc := hs.at' c hcN
      have hs1 : Seen L.length seen out (below ++ [(t, j + 1)]) := hs.next
      by_cases hco : c ∈ out
      · -- told
        have hsc' : seen[c]? = some true := by rw [hsc]; congr 1; simp [hco]
        obtain ⟨z, z0, z1, z2⟩ := p1.seen_at hsc'
        obtain ⟨H', lv', sv', seen', r1, r2, r3⟩ := ihm (j + 1) (by omega) out below seen H1 lv sv p1 hs1 ht hb hbl hto
        rw [post_in hd hc1 hco]
        refine ⟨H', lv', sv', seen', ?_, r2, r3⟩
        rw [← r1, loopD_eq]
        have : s_term_Store_Order_2 RR (.pointer (some ⟨p, 0, none⟩)) bv [lv, sv] H = some (.next, [lv, sv], H1) := by
          unfold s_term_Store_Order_2
          simp only [List.getD_cons_succ, List.getD_cons_zero, hls, s_gtr, q1, decide_true, s_bool, s_brt, s_brf, s_sub, w1, e1, s_nil, s_offs, Nat.zero_add, Nat.add_zero, hst'.st.l1, e2, e3, w2, hix, ld7 hsl hn, spl7, ncell0, ncell2, ncell3, ncell4, s_call (c29 _ _), s_chk e4, s_eql, hjp, decide_false, s_build3, arr3 hx, s_add, w3, e5, z1, z2, s_not, Bool.not_true]
        rw [this]; rfl
      · have hcs : c ∉ (below ++ [(t, j)]).map Prod.fst := fun q => by
          simp only [List.map_append, List.map_cons, List.map_nil, List.mem_append, List.mem_singleton, List.mem_map] at q
          rcases q with ⟨u, hu, e⟩ | e
          · have := hb u hu; omega
          · omega
        have hsc' : seen[c]? = some false := by rw [hsc]; congr 1; simpa [hco] using hcs
        obtain ⟨z, z0, z1, z2⟩ := p1.seen_at hsc'
        have hclt : c < seen.length := by rw [hs.len]; omega
        obtain ⟨z', hz', z3, H2, z4, p2, _⟩ := p1.see hclt
        obtain rfl : z' = z := Option.some.inj (hz'.symm.trans z0)
        have hlen1 : (below ++ [(t, j + 1)]).length = below.length + 1 := by simp
        obtain ⟨sv3, H3, z5, p3⟩ := p2.push c (zs := [.int .i64 0, .int .i64 0]) rfl (by rw [hlen1]; omega)
        have hs3 : Seen L.length (seen.set c true) out ((below ++ [(t, j + 1)]) ++ [(c, 0)]) := hs1.add hcN
        have hkc : 0 + (kids L c).length = (kids L c).length := by omega
        obtain ⟨H4, lv4, sv4, seen4, r1, r2, r3⟩ := ih c hct hc1 hcN (kids L c).length 0 hkc out (below ++ [(t, j + 1)]) (seen.set c true) H3 lv sv3 p3 hs3 ht
          (fun u hu => by
            rcases List.mem_append.1 hu with hu | hu
            · have := hb u hu; omega
            · rw [List.mem_singleton] at hu; subst hu; exact hct) (by rw [hlen1]; omega) hco
        rw [List.drop_zero, ← post_out hd hc1 hco] at r2 r3
        have ht4 : Told L.length (post L c out) := ht.posts (l := [c]) hd fun c' hc' => by rw [List.mem_singleton] at hc'; subst hc'; exact ⟨hc1, hcN⟩
        have hto4 : t ∉ post L c out := fun q => by
          rcases (post_mem hd c hc1 out).2.2 t q with q | q
          · exact hto q
          · omega
        obtain ⟨H5, lv5, sv5, seen5, s1, s2, s3⟩ := ihm (j + 1) (by omega) (post L c out) below seen4 H4 lv4 sv4 r2 r3 ht4 hb hbl hto4
        refine ⟨H5, lv5, sv5, seen5, ?_, s2, s3⟩
        rw [← s1, ← r1, loopD_eq]
        have : s_term_Store_Order_2 RR (.pointer (some ⟨p, 0, none⟩)) bv [lv, sv] H = some (.next, [lv, sv3], H3) := by
          unfold s_term_Store_Order_2
          simp only [List.getD_cons_succ, List.getD_cons_zero, hls, s_gtr, q1, decide_true, s_bool, s_brt, s_brf, s_sub, w1, e1, s_nil, s_offs, Nat.zero_add, Nat.add_zero, hst'.st.l1, e2, e3, w2, hix, ld7 hsl hn, spl7, ncell0, ncell2, ncell3, ncell4, s_call (c29 _ _), s_chk e4, s_eql, hjp, decide_false, s_build3, arr3 hx, s_add, w3, e5, z1, z2, s_not, Bool.not_false, z3, z4, build72, z5]
        rw [this]; rfl
end
end Go.AM
/- The Term seat: the program's order of any roots. -/
set_option linter.unusedVariables false
set_option maxRecDepth 100000
set_option linter.unusedSimpArgs false
namespace Go.AM
open Go
def intsI (l : List Int) : List Value := l.map fun (t : Int) => Value.int .i64 t
theorem intsI_len (l : List Int) : (intsI l).length = l.length := by simp [intsI]
theorem intsI_one (l : List Int) : (intsI l).all one = true := by simp [intsI, one]
theorem intsI_get {l : List Int} {i : Nat} {t : Int} (h : l[i]? = some t) : (intsI l)[i]? = some (.int .i64 t) := by simp [intsI, h]
theorem Rdb.int {H : Hp} {v : Value} {l : List Int} (h : Rdb H 1 v l.length (intsI l)) {i : Nat} {t : Int} (ht : l[i]? = some t) :
    ∃ y, (∀ (α : Type) (kd : IntKind) (k : Value → Option α), pIdx 1 v (.int kd (i : Int)) k = k (.pointer (some ⟨y, i * 1, none⟩))) ∧ (∀ (α : Type) (k : Value → Option α), pLoad 1 false H (.pointer (some ⟨y, i * 1, none⟩)) k = k (.int .i64 t)) := by
  obtain ⟨y, hy, ⟨rest, own, hg⟩, hix⟩ := h.ix (List.getElem?_eq_some_iff.1 ht).1
  exact ⟨y, hix, fun α k => ld_cell hg (by rw [Nat.mul_one]; exact intsI_get ht) k⟩
/-- All roots are terms, or one is not. -/
theorem loop13a {H : Hp} {p f g : Nat} {lim : Int} {L : List Nd} {K : List (ByteArray × Int)} {sl : Value} (hst : StF H p lim L K sl f g) {x : Value} {rs : List Int} (hx : Rdb H 1 x rs.length (intsI rs)) (hl : rs.length ≤ 2 ^ 40) :
    ∀ k i, i + k = rs.length → loopD (s_term_Store_Order_1 RR (.pointer (some ⟨p, 0, none⟩)) x (.int .i64 (rs.length : Int))) [.int .i64 (i : Int)] H =
      if (rs.drop i).all (isT L) = true then some (.exit 0, [.int .i64 (rs.length : Int)], H) else some (.ret, [.tuple #[.slice none 0 0, .int .i64 70]], H)
  | 0, i, h => by
    have : i = rs.length := by omega
    subst this
    rw [loopD_eq]
    have : s_term_Store_Order_1 RR (.pointer (some ⟨p, 0, none⟩)) x (.int .i64 (rs.length : Int)) [.int .i64 (rs.length : Int)] H = some (.exit 0, [.int .i64 (rs.length : Int)], H) := by
      unfold s_term_Store_Order_1
      simp only [s_lss, s_bool, s_brf, List.getD_cons_zero, Int.lt_irrefl, decide_false]
    rw [this, List.drop_of_length_le (Nat.le_refl _)]; rfl
  | k + 1, i, h => by
    have hlt : i < rs.length := by omega
    have hg : rs[i]? = some rs[i] := List.getElem?_eq_getElem hlt
    obtain ⟨y, e1, e2⟩ := hx.int hg
    have w : IntKind.i64.wrap ((i : Int) + 1) = ((i + 1 : Nat) : Int) := i64_wrap (by omega) (by omega)
    have q : (i : Int) < (rs.length : Int) := by omega
    rw [loopD_eq, List.drop_eq_getElem_cons hlt, List.all_cons]
    cases ht : isT L rs[i] with
    | true =>
      have : s_term_Store_Order_1 RR (.pointer (some ⟨p, 0, none⟩)) x (.int .i64 (rs.length : Int)) [.int .i64 (i : Int)] H = some (.next, [.int .i64 ((i + 1 : Nat) : Int)], H) := by
        unfold s_term_Store_Order_1
        simp only [s_lss, s_bool, s_brt, s_brf, List.getD_cons_zero, q, decide_true, e1, e2, s_call (c19 hst.st), ht, s_not, Bool.not_true, s_add, w]
      rw [this]
      show loopD _ _ _ = _
      rw [loop13a hst hx hl k (i + 1) (by omega), Bool.true_and]
    | false =>
      have : s_term_Store_Order_1 RR (.pointer (some ⟨p, 0, none⟩)) x (.int .i64 (rs.length : Int)) [.int .i64 (i : Int)] H = some (.ret, [.tuple #[.slice none 0 0, .int .i64 70]], H) := by
        unfold s_term_Store_Order_1
        simp only [s_lss, s_bool, s_brt, s_brf, List.getD_cons_zero, q, decide_true, e1, e2, s_call (c19 hst.st), ht, s_not, Bool.not_false]
      rw [this]; rfl
theorem Rdb.old {H0 H : Hp} {lv sv bv : Value} {out : List Nat} {stk : List (Nat × Nat)} {seen : List Bool} (h : PS H0 H lv out sv stk bv seen) {x : Value} {n : Nat} {cs : List Value} (hx : Rdb H0 1 x n cs) : Rdb H 1 x n cs :=
  hx.keep' (fun j hj => h.old j (hx.lt hj)) h.next
section
variable {H0 : Hp} {p f g : Nat} {lim : Int} {L : List Nd} {K : List (ByteArray × Int)} {sl : Value} (hst : StF H0 p lim L K sl f g) (hd : Dag L) (hL : L.length * 64 ≤ 2 ^ 46) (bv : Value)
  {x : Value} {ns : List Nat} (hx : Rdb H0 1 x ns.length (ints ns)) (hns : ∀ t ∈ ns, 1 ≤ t ∧ t ≤ L.length) (hnl : ns.length ≤ 2 ^ 40)
include hst hd hL hx hns hnl
theorem loop13b : ∀ (k i : Nat) (out : List Nat) (seen : List Bool) (H : Hp) (lv sv : Value), i + k = ns.length → PS H0 H lv out sv [] bv seen → Seen L.length seen out [] → Told L.length out →
    ∃ H' lv' sv' seen', loopD (s_term_Store_Order_3 RR (.pointer (some ⟨p, 0, none⟩)) x bv (.int .i64 (ns.length : Int))) [lv, sv, .int .i64 (i : Int)] H = some (.exit 2, [lv', sv', .int .i64 (ns.length : Int)], H') ∧
      PS H0 H' lv' (posts L (ns.drop i) out) sv' [] bv seen'
  | 0, i, out, seen, H, lv, sv, hi, hp, hs, ht => by
    have : i = ns.length := by omega
    subst this
    refine ⟨H, lv, sv, seen, ?_, ?_⟩
    · rw [loopD_eq]
      have : s_term_Store_Order_3 RR (.pointer (some ⟨p, 0, none⟩)) x bv (.int .i64 (ns.length : Int)) [lv, sv, .int .i64 (ns.length : Int)] H = some (.exit 2, [lv, sv, .int .i64 (ns.length : Int)], H) := by
        unfold s_term_Store_Order_3
        simp only [s_lss, s_bool, s_brf, List.getD_cons_succ, List.getD_cons_zero, Int.lt_irrefl, decide_false]
      rw [this]; rfl
    · rw [List.drop_of_length_le (Nat.le_refl _)]; exact hp
  | k + 1, i, out, seen, H, lv, sv, hi, hp, hs, ht => by
    have hlt : i < ns.length := by omega
    have hg : ns[i]? = some ns[i] := List.getElem?_eq_getElem hlt
    have hb := hns _ (List.getElem_mem hlt)
    have hdr : ns.drop i = ns[i] :: ns.drop (i + 1) := List.drop_eq_getElem_cons hlt
    rw [hdr, posts_cons]
    generalize ns[i] = t at hg hb
    have hxH := Rdb.old hp hx
    obtain ⟨y, hy, ⟨rest, own, hgy⟩, e1⟩ := hxH.ix hlt
    have e2 : ∀ (α : Type) (k : Value → Option α), pLoad 1 false H (.pointer (some ⟨y, i * 1, none⟩)) k = k (.int .i64 (t : Int)) := fun α k => ld_cell hgy (by rw [Nat.mul_one]; unfold ints; rw [List.getElem?_map, hg]; rfl) k
    have w : IntKind.i64.wrap ((i : Int) + 1) = ((i + 1 : Nat) : Int) := i64_wrap (by omega) (by omega)
    have q : (i : Int) < (ns.length : Int) := by omega
    have hsc := hs.at' t hb.2
    by_cases hto : t ∈ out
    · have hsc' : seen[t]? = some true := by rw [hsc]; congr 1; simp [hto]
      obtain ⟨z, z0, z1, z2⟩ := hp.seen_at hsc'
      rw [post_in hd hb.1 hto]
      obtain ⟨H', lv', sv', seen', r1, r2⟩ := loop13b k (i + 1) out seen H lv sv (by omega) hp hs ht
      refine ⟨H', lv', sv', seen', ?_, r2⟩
      rw [loopD_eq]
      have : s_term_Store_Order_3 RR (.pointer (some ⟨p, 0, none⟩)) x bv (.int .i64 (ns.length : Int)) [lv, sv, .int .i64 (i : Int)] H = some (.next, [lv, sv, .int .i64 ((i + 1 : Nat) : Int)], H) := by
        unfold s_term_Store_Order_3
        simp only [s_lss, s_bool, s_brt, List.getD_cons_succ, List.getD_cons_zero, q, decide_true, e1, e2, z1, z2, s_add, w]
      rw [this]; exact r1
    · have hsc' : seen[t]? = some false := by rw [hsc]; congr 1; simp [hto]
      obtain ⟨z, z0, z1, z2⟩ := hp.seen_at hsc'
      have hclt : t < seen.length := by rw [hs.len]; omega
      obtain ⟨z', hz', z3, H2, z4, p2, _⟩ := hp.see hclt
      obtain rfl : z' = z := Option.some.inj (hz'.symm.trans z0)
      obtain ⟨sv3, H3, z5, p3⟩ := p2.push t (zs := [.int .i64 0, .int .i64 0]) rfl (by simp)
      have hs3 : Seen L.length (seen.set t true) out ([] ++ [(t, 0)]) := hs.add hb.2
      obtain ⟨H4, lv4, sv4, seen4, r1, r2, r3⟩ := fwd hst hd hL bv t hb.1 hb.2 (kids L t).length 0 (by omega) out [] (seen.set t true) H3 lv sv3 p3 hs3 ht (fun u hu => by cases hu) (by simpa using hb.2) hto
      rw [List.drop_zero, ← post_out hd hb.1 hto] at r2 r3
      have ht4 : Told L.length (post L t out) := ht.posts (l := [t]) hd fun c' hc' => by rw [List.mem_singleton] at hc'; subst hc'; exact hb
      obtain ⟨H', lv', sv', seen', s1, s2⟩ := loop13b k (i + 1) (post L t out) seen4 H4 lv4 sv4 (by omega) r2 r3 ht4
      refine ⟨H', lv', sv', seen', ?_, s2⟩
      have hexit : loopD (s_term_Store_Order_2 RR (.pointer (some ⟨p, 0, none⟩)) bv) [lv4, sv4] H4 = some (.exit 4, [lv4, sv4], H4) := by
        rw [loopD_eq]
        have : s_term_Store_Order_2 RR (.pointer (some ⟨p, 0, none⟩)) bv [lv4, sv4] H4 = some (.exit 4, [lv4, sv4], H4) := by
          unfold s_term_Store_Order_2
          simp only [List.getD_cons_succ, List.getD_cons_zero, r2.s.len, List.length_nil, s_gtr, s_bool]
          rfl
        rw [this]; rfl
      rw [hexit] at r1
      rw [loopD_eq]
      have : s_term_Store_Order_3 RR (.pointer (some ⟨p, 0, none⟩)) x bv (.int .i64 (ns.length : Int)) [lv, sv, .int .i64 (i : Int)] H = some (.next, [lv4, sv4, .int .i64 ((i + 1 : Nat) : Int)], H4) := by
        unfold s_term_Store_Order_3
        simp only [s_lss, s_bool, s_brt, s_brf, List.getD_cons_succ, List.getD_cons_zero, q, decide_true, e1, e2, z1, z2, z3, z4, build72, z5, r1, s_bind, s_exit, s_onExit, s_add, w]
      rw [this]; exact s1
end
theorem bools_repl : ∀ n : Nat, repl n [.bool false] = bools (List.replicate n false)
  | 0 => rfl
  | n + 1 => by
    show [.bool false] ++ repl n [.bool false] = _
    rw [bools_repl n, List.replicate_succ]; rfl
theorem ints_intsI (ns : List Nat) : ints ns = intsI (ns.map fun (t : Nat) => (t : Int)) := by simp [ints, intsI]
/-- Roots that are terms, as naturals. -/
theorem nats {L : List Nd} : ∀ rs : List Int, rs.all (isT L) = true → ∃ ns : List Nat, rs = ns.map (fun (t : Nat) => (t : Int)) ∧ ∀ t ∈ ns, 1 ≤ t ∧ t ≤ L.length
  | [], _ => ⟨[], rfl, fun t h => by cases h⟩
  | r :: rs, h => by
    rw [List.all_cons, Bool.and_eq_true] at h
    obtain ⟨ns, h1, h2⟩ := nats rs h.2
    have := isT_iff.1 h.1
    refine ⟨r.toNat :: ns, by rw [List.map_cons, ← h1]; congr 1; omega, fun t ht => ?_⟩
    rcases List.mem_cons.1 ht with rfl | ht
    · omega
    · exact h2 t ht
/-- What an order's call does. -/
structure OrdOk (H0 H : Hp) (v : Value) (out : List Nat) : Prop where
  vec : Vec H 1 v out.length (ints out)
  next : H0.next ≤ H.next
  old : ∀ j, j < H0.next → H.get j = H0.get j
  new : ∀ j, Id v j → H0.next ≤ j
theorem c13_no {H0 : Hp} {p f g : Nat} {lim : Int} {L : List Nd} {K : List (ByteArray × Int)} {sl : Value} (hst : StF H0 p lim L K sl f g) {x : Value} {rs : List Int} (hx : Rdb H0 1 x rs.length (intsI rs)) (hl : rs.length ≤ 2 ^ 40)
    (hno : rs.all (isT L) = false) : RR F.term_Store_Order [.pointer (some ⟨p, 0, none⟩), x] H0 = some (.tuple #[.slice none 0 0, .int .i64 70], H0) := by
  have hr := (r_term_Store_Order E0 rfl (.pointer (some ⟨p, 0, none⟩)) x H0).trans (k_term_Store_Order _ _ _ _)
  refine hr.trans ?_
  have h1 := loop13a hst hx hl rs.length 0 (by omega)
  rw [List.drop_zero, hno, if_neg (by decide)] at h1
  rw [hx.len, show (0 : Int) = ((0 : Nat) : Int) from rfl, h1, s_bind, s_ret, s_head]
theorem c13_yes {H0 : Hp} {p f g : Nat} {lim : Int} {L : List Nd} {K : List (ByteArray × Int)} {sl : Value} (hst : StF H0 p lim L K sl f g) (hd : Dag L) (hL : L.length * 64 ≤ 2 ^ 46) {x : Value} {ns : List Nat} (hx : Rdb H0 1 x ns.length (ints ns)) (hl : ns.length ≤ 2 ^ 40)
    (hns : ∀ t ∈ ns, 1 ≤ t ∧ t ≤ L.length) : ∃ H' v, RR F.term_Store_Order [.pointer (some ⟨p, 0, none⟩), x] H0 = some (.tuple #[v, .int .i64 0], H') ∧ OrdOk H0 H' v (posts L ns []) := by
  have hr := (r_term_Store_Order E0 rfl (.pointer (some ⟨p, 0, none⟩)) x H0).trans (k_term_Store_Order _ _ _ _)
  have hmap : (ns.map fun (t : Nat) => (t : Int)).length = ns.length := List.length_map ..
  have h1 := loop13a (rs := ns.map fun (t : Nat) => (t : Int)) hst (x := x) (by rw [hmap, ← ints_intsI]; exact hx) (by rw [hmap]; exact hl) ns.length 0 (by rw [hmap]; omega)
  have hall : (ns.map fun (t : Nat) => (t : Int)).all (isT L) = true := by
    rw [List.all_map, List.all_eq_true]
    intro t ht
    have := hns t ht
    exact isT_iff.2 ⟨by show (1 : Int) ≤ (t : Int); omega, by show (t : Int) ≤ L.length; omega⟩
  rw [List.drop_zero, hall, if_pos rfl, hmap] at h1
  obtain ⟨bv, b1, b2, b3⟩ := Vec.make H0 (sz := 1) (bytes := 1) (zs := [.bool false]) rfl (n := L.length + 1) (by omega)
  rw [bools_repl] at b1 b2
  generalize hH1 : H0.new (.cells (bools (List.replicate (L.length + 1) false)) true) = H1 at b1 b2
  have n1 : H1.next = H0.next + 1 := by rw [← hH1]; rfl
  have hsl : (List.replicate (L.length + 1) false).length = L.length + 1 := List.length_replicate ..
  have ps : PS H0 H1 (.slice none 0 0) [] (.slice none 0 0) [] bv (List.replicate (L.length + 1) false) :=
    ⟨by omega, fun j hj => by rw [← hH1, get_new, if_neg (by omega)], Vec.nil _ _, Vec.nil _ _, by rw [hsl]; exact b2, fun j hj => (by cases hj), fun j hj => (by cases hj), fun j hj => by have := b3 j hj; omega,
      fun j a => (by cases a), fun j a => (by cases a), fun j a => (by cases a)⟩
  have sn : Seen L.length (List.replicate (L.length + 1) false) [] [] := ⟨hsl, fun x hx => by rw [List.getElem?_replicate, if_pos (by omega)]; rfl⟩
  obtain ⟨H', lv', sv', seen', g1, g2⟩ := loop13b hst hd hL bv hx hns hl ns.length 0 [] _ H1 _ _ (by omega) ps sn ⟨List.nodup_nil, fun x h => by cases h⟩
  rw [List.drop_zero] at g2
  refine ⟨H', lv', ?_, ⟨g2.l, g2.next, g2.old, g2.al⟩⟩
  refine hr.trans ?_
  have w : IntKind.i64.wrap ((L.length : Int) + 1) = ((L.length + 1 : Nat) : Int) := i64_wrap (by omega) (by omega)
  rw [hx.len, show (0 : Int) = ((0 : Nat) : Int) from rfl, h1, s_bind, s_exit, s_onExit, s_nil, s_offs, Nat.zero_add, hst.st.l1, hst.st.all.len, s_add, w, b1, hx.len, g1, s_bind, s_exit, s_onExit]
  rfl
end Go.AM
