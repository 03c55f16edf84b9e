/- Part of the proof of TermLoadsUptoCardSaid: see the last file.  -/
import Derived.Laws.MathBits
import Derived.KernelRfl
import Derived.Test.YtkfhklmklhnfaaaGreatDoorRows
import Derived.Lib.ItoaLen
import Derived.Lib.Strings
import Derived.Test.YtkfhklmklhnfaaaGreatDoorT0
import Derived.Test.YtkfhklmklhnfaaaGreatDoorT2
import Derived.Test.YtkfhklmklhnfaaaGreatDoorT3
set_option linter.unusedSimpArgs false
set_option linter.unusedVariables false
set_option linter.unusedSectionVars false
set_option maxRecDepth 100000
namespace Go.AM
open Go
def numL (base : Nat) : List UInt8 → Nat → Option Nat
  | [], v => some v
  | b :: r, v => if digV b.toNat base < 0 then none else if v > (18446744073709551615 - (digV b.toNat base).toNat) / base then none else numL base r (v * base + (digV b.toNat base).toNat)
def badN : Value := .tuple #[.int .u64 0, .int .i64 10]
theorem zkV (n base : Nat) : digV n base = -1 ∨ (0 ≤ digV n base ∧ digV n base < base ∧ digV n base ≤ 15) := by
  have := zkP n
  unfold digV
  split
  · exact .inl rfl
  · right; omega
theorem u64 {a : Int} (h0 : 0 ≤ a) (h1 : a ≤ 18446744073709551615) : IntKind.u64.wrap a = a := zca (k := .u64) h0 h1
theorem zlx (l : List UInt8) (hl : l.length ≤ 2 ^ 40) (base : Nat) (hb : base = 10 ∨ base = 16) (q : Value) (H : Hp) : ∀ (rest : List UInt8) (i v : Nat), l.drop i = rest → i ≤ l.length → v ≤ 18446744073709551615 →
    zaE (zar RR (str l) [.int .u64 (base : Int), q]) [.int .i64 (i : Int), .int .u64 (v : Int)] H = match numL base rest v with
      | some x => some (.exit 0, [.int .i64 (l.length : Int), .int .u64 (x : Int)], H)
      | none => some (.ret, [badN], H)
  | [], i, v, hr, hi, hv => by
    have hil : i = l.length := by
      have := congrArg List.length hr
      rw [List.length_drop] at this
      simp at this
      omega
    have e2 : ∀ {α : Type} (k : Value → Option α), pLen .str (str l) H k = k (.int .i64 (l.length : Int)) := fun k => by
      show k (.int .i64 ((ba l).size : Int)) = _
      rw [zbz]
    have this : zar RR (str l) [.int .u64 (base : Int), q] [.int .i64 (i : Int), .int .u64 (v : Int)] H = some (.exit 0, [.int .i64 (i : Int), .int .u64 (v : Int)], H) := by
      unfold zar
      have h1 : ¬ ((i : Int) < (l.length : Int)) := by omega
      simp only [e2, qg0, qg1, zaP, zac, s_br, h1, decide_false, Bool.false_eq_true, if_false]
    rw [zam, this, hil]
    rfl
  | b :: r, i, v, hr, hi, hv => by
    have hlt : i < l.length := by
      have := congrArg List.length hr
      rw [List.length_drop] at this
      simp at this
      omega
    have hget : l[i]? = some b := by
      have := congrArg (fun x => x[0]?) hr
      simpa using this
    have hr2 : l.drop (i + 1) = r := by rw [← List.drop_drop, hr]; rfl
    have e2 : ∀ {α : Type} (k : Value → Option α), pLen .str (str l) H k = k (.int .i64 (l.length : Int)) := fun k => by
      show k (.int .i64 ((ba l).size : Int)) = _
      rw [zbz]
    have hat : ∀ {α : Type} (k : Value → Option α), zaU (str l) (.int .i64 (i : Int)) k = k (.int .u8 (b.toNat : Int)) := fun k => f_at (ba l) .i64 i b (by rw [zdC]; exact hget) k
    have h1 : ((i : Int) < (l.length : Int)) := by omega
    have hdig := q_digit b.toNat base (UInt8.toNat_lt b) hb H
    have hd := zkV b.toNat base
    have hb0 : base ≠ 0 := by omega
    unfold numL
    by_cases h0 : digV b.toNat base < 0
    · rw [if_pos h0]
      have this : zar RR (str l) [.int .u64 (base : Int), q] [.int .i64 (i : Int), .int .u64 (v : Int)] H = some (.ret, [badN], H) := by
        unfold zar
        simp only [e2, qg0, qg1, zaP, zac, s_br, h1, decide_true, if_true, hat, zaj hdig, h0]
        rfl
      rw [zam, this]
      rfl
    · rw [if_neg h0]
      obtain ⟨dn, hdn⟩ : ∃ dn : Nat, digV b.toNat base = (dn : Int) := ⟨(digV b.toNat base).toNat, by omega⟩
      rw [hdn] at hdig hd h0 ⊢
      simp only [Int.toNat_natCast]
      have hconv : ∀ {α : Type} (k : Value → Option α), zaw .u64 (.int .i64 (dn : Int)) k = k (.int .u64 (dn : Int)) := fun k => by
        show k (.int .u64 (IntKind.u64.wrap (dn : Int))) = _
        rw [u64 (by omega) (by omega)]
      have hsub : IntKind.u64.wrap (18446744073709551615 - (dn : Int)) = ((18446744073709551615 - dn : Nat) : Int) := by
        rw [u64 (by omega) (by omega)]
        omega
      have hq := fun (k : Value → Option Outc) => q_quo (P := PP) T.uint64 (18446744073709551615 - dn) base hb0 (by omega) k
      by_cases h2 : v > (18446744073709551615 - dn) / base
      · rw [if_pos h2]
        have h2' : (v : Int) > (((18446744073709551615 - dn) / base : Nat) : Int) := Int.ofNat_lt.2 h2
        have this : zar RR (str l) [.int .u64 (base : Int), q] [.int .i64 (i : Int), .int .u64 (v : Int)] H = some (.ret, [badN], H) := by
          unfold zar
          simp only [e2, qg0, qg1, zaP, zac, s_br, h1, decide_true, decide_false, Bool.false_eq_true, if_true, if_false, hat, zaj hdig, h0, hconv, zcY, hsub, hq, zbi, h2']
          rfl
        rw [zam, this]
        rfl
      · rw [if_neg h2]
        have h2' : ¬ (v : Int) > (((18446744073709551615 - dn) / base : Nat) : Int) := fun h => h2 (Int.ofNat_lt.1 h)
        have hm : v * base ≤ 18446744073709551615 - dn := by
          have : v ≤ (18446744073709551615 - dn) / base := by omega
          exact (Nat.le_div_iff_mul_le (by omega)).1 this
        have hmul : IntKind.u64.wrap ((v : Int) * (base : Int)) = ((v * base : Nat) : Int) := by
          rw [← Int.natCast_mul]
          exact u64 (by omega) (by omega)
        have hadd : IntKind.u64.wrap (((v * base : Nat) : Int) + (dn : Int)) = ((v * base + dn : Nat) : Int) := by
          rw [← Int.natCast_add]
          exact u64 (by omega) (by omega)
        have hinc : IntKind.i64.wrap ((i : Int) + 1) = ((i + 1 : Nat) : Int) := w64 (by omega) (by omega)
        have this : zar RR (str l) [.int .u64 (base : Int), q] [.int .i64 (i : Int), .int .u64 (v : Int)] H = some (.next, [.int .i64 ((i + 1 : Nat) : Int), .int .u64 ((v * base + dn : Nat) : Int)], H) := by
          unfold zar
          simp only [e2, qg0, qg1, zaP, zac, s_br, h1, decide_true, decide_false, Bool.false_eq_true, if_true, if_false, hat, zaj hdig, h0, hconv, zcY, hsub, hq, zbi, h2', s_mul, hmul, za2, hadd, hinc]
        rw [zam, this]
        exact zlx l hl base hb q H r (i + 1) (v * base + dn) hr2 hlt (by omega)
end Go.AM
namespace Go.AM
open Go
def numP (l : List UInt8) : Option Nat :=
  if l[0]? = some 48 ∧ l[1]? = some 120 then (if l.length = 2 then none else numL 16 (l.drop 2) 0) else (if l.length = 0 then none else numL 10 l 0)
def numV : Option Nat → Value
  | some x => .tuple #[.int .u64 (x : Int), .int .i64 0]
  | none => badN
theorem u8ne {a c : UInt8} (h : ¬ a = c) : ¬ ((a.toNat : Int) = (c.toNat : Int)) := fun e => h (UInt8.toNat_inj.1 (Int.ofNat.inj e))
theorem zln (l : List UInt8) (hl : l.length ≤ 2 ^ 40) (H : Hp) : RR F.a19 [str l] H = some (numV (numP l), H) := by
  refine (zej E0 rfl _ H).trans ?_
  rw [zew]
  have e2 : ∀ {α : Type} (k : Value → Option α), pLen .str (str l) H k = k (.int .i64 (l.length : Int)) := fun k => by
    show k (.int .i64 ((ba l).size : Int)) = _
    rw [zbz]
  have tail : ∀ (base at_ : Nat) (hb : base = 10 ∨ base = 16) (ha : at_ ≤ l.length), @Eq (Option (Value × Hp))
      (zaC .next (pLen .str (str l) H fun v14 => pBin PP .eql T.int ([Value.int .u64 (base : Int), Value.int .i64 (at_ : Int)].getD 1 undef) v14 fun v15 => zab v15 fun b16 => br b16
        (some ((.tuple #[(.int .u64 0), (.int .i64 10)]), H))
        (zat (zaE (zar RR (str l) [Value.int .u64 (base : Int), Value.int .i64 (at_ : Int)]) [([Value.int .u64 (base : Int), Value.int .i64 (at_ : Int)].getD 1 undef), (.int .u64 0)] H) fun q36 l37 H38 => zaC q36 none
          (fun i39 => zax i39 0 (some ((.tuple #[(l37.getD 1 undef), (.int .i64 0)]), H38)) none)
          (some ((l37.headD undef), H38))))
        (fun i13 => none) (some (([Value.int .u64 (base : Int), Value.int .i64 (at_ : Int)].headD undef), H)))
      (some (numV (if l.length = at_ then none else numL base (l.drop at_) 0), H)) := by
    intro base at_ hb ha
    rw [zaA, e2]
    simp only [qg0, qg1, zaX, zac, s_br]
    by_cases h : l.length = at_
    · have h' : ((at_ : Int) = (l.length : Int)) := by omega
      rw [if_pos h]
      simp only [h', decide_true, if_true]
      rfl
    · have h' : ¬ ((at_ : Int) = (l.length : Int)) := by omega
      rw [if_neg h]
      simp only [h', decide_false, Bool.false_eq_true, if_false]
      have hlp := zlx l hl base hb (Value.int .i64 (at_ : Int)) H (l.drop at_) at_ 0 rfl ha (by omega)
      have hlp : zaE (zar RR (str l) [Value.int .u64 (base : Int), Value.int .i64 (at_ : Int)]) [Value.int .i64 (at_ : Int), Value.int .u64 0] H = _ := hlp
      rw [hlp]
      cases numL base (l.drop at_) 0 with
      | none => rfl
      | some x =>
        dsimp only
        rw [zan, zbe, zaO]
        rfl
  have hat : ∀ (i : Nat) (b : UInt8), l[i]? = some b → ∀ {α : Type} (k : Value → Option α), zaU (str l) (.int .i64 (i : Int)) k = k (.int .u8 (b.toNat : Int)) := fun i b hget α k => f_at (ba l) .i64 i b (by rw [zdC]; exact hget) k
  unfold numP
  by_cases h2 : 2 ≤ l.length
  · have h2' : ((l.length : Int) ≥ 2) := by omega
    have g0 : l[0]? = some l[0] := List.getElem?_eq_getElem (by omega)
    have g1 : l[1]? = some l[1] := List.getElem?_eq_getElem (by omega)
    have a0 : ∀ {α : Type} (k : Value → Option α), zaU (str l) (.int .i64 0) k = k (.int .u8 (l[0].toNat : Int)) := fun k => hat 0 _ g0 k
    have a1 : ∀ {α : Type} (k : Value → Option α), zaU (str l) (.int .i64 1) k = k (.int .u8 (l[1].toNat : Int)) := fun k => hat 1 _ g1 k
    have t10 := tail 10 0 (.inl rfl) (Nat.zero_le _)
    have t16 := tail 16 2 (.inr rfl) h2
    by_cases b0 : l[0] = 48
    · have b0' : ((l[0].toNat : Int) = 48) := by rw [b0]; rfl
      by_cases b1 : l[1] = 120
      · have b1' : ((l[1].toNat : Int) = 120) := by rw [b1]; rfl
        rw [if_pos ⟨by rw [g0, b0], by rw [g1, b1]⟩]
        simp only [e2, zbp, zac, s_br, h2', decide_true, if_true, a0, a1, zaX, b0', b1', zan] at t16 ⊢
        exact t16
      · have b1' : ¬ ((l[1].toNat : Int) = 120) := u8ne b1
        rw [if_neg (fun e => b1 (by rw [g1] at e; exact Option.some.inj e.2))]
        simp only [e2, zbp, zac, s_br, h2', decide_true, decide_false, Bool.false_eq_true, if_false, if_true, a0, a1, zaX, b0', b1', zan, qd0] at t10 ⊢
        exact t10
    · have b0' : ¬ ((l[0].toNat : Int) = 48) := u8ne b0
      rw [if_neg (fun e => b0 (by rw [g0] at e; exact Option.some.inj e.1))]
      simp only [e2, zbp, zac, s_br, h2', decide_true, decide_false, Bool.false_eq_true, if_false, if_true, a0, a1, zaX, b0', zan, qd0] at t10 ⊢
      exact t10
  · have h2' : ¬ ((l.length : Int) ≥ 2) := by omega
    have g1 : l[1]? = none := List.getElem?_eq_none (by omega)
    have t10 := tail 10 0 (.inl rfl) (Nat.zero_le _)
    rw [if_neg (fun e => by rw [g1] at e; cases e.2)]
    simp only [e2, zbp, zac, s_br, h2', decide_false, Bool.false_eq_true, if_false, zan, qd0] at t10 ⊢
    exact t10
end Go.AM
namespace Go.AM
open Go
def zaz (l : List UInt8) : Int :=
  match numP l with
  | some x => if x < 2147483648 then (x : Int) else -1
  | none => -1
theorem zkz (l : List UInt8) (hl : l.length ≤ 2 ^ 40) (H : Hp) : RR F.a23 [str l] H = some (.int .i64 (zaz l), H) := by
  refine (zeO E0 rfl _ H).trans ?_
  unfold zcJ
  rw [zaj (zln l hl H)]
  unfold zaz
  cases numP l with
  | none =>
    have e0 : ∀ {α : Type} (k : Value → Option α), zag (numV none) 0 k = k (.int .u64 0) := fun k => rfl
    have e1 : ∀ {α : Type} (k : Value → Option α), zag (numV none) 1 k = k (.int .i64 10) := fun k => rfl
    have h : ((10 : Int) ≠ 0) := by decide
    simp only [e0, e1, zbb, zac, s_br, h, decide_true, if_true, ne_eq, not_false_eq_true]
  | some x =>
    have e0 : ∀ {α : Type} (k : Value → Option α), zag (numV (some x)) 0 k = k (.int .u64 (x : Int)) := fun k => rfl
    have e1 : ∀ {α : Type} (k : Value → Option α), zag (numV (some x)) 1 k = k (.int .i64 0) := fun k => rfl
    have h : ¬ ((0 : Int) ≠ 0) := by decide
    dsimp only
    by_cases hx : x < 2147483648
    · have hx' : ¬ ((x : Int) ≥ 2147483648) := by omega
      have hc : ∀ {α : Type} (k : Value → Option α), zaw .i64 (.int .u64 (x : Int)) k = k (.int .i64 (x : Int)) := fun k => by
        show k (.int .i64 (IntKind.i64.wrap (x : Int))) = _
        rw [w64 (by omega) (by omega)]
      rw [if_pos hx]
      simp only [e0, e1, zbb, zac, s_br, h, decide_false, Bool.false_eq_true, if_false, zbp, hx', hc]
    · have hx' : ((x : Int) ≥ 2147483648) := by omega
      rw [if_neg hx]
      simp only [e0, e1, zbb, zac, s_br, h, decide_false, decide_true, Bool.false_eq_true, if_false, if_true, zbp, hx']
end Go.AM
namespace Go.AM
open Go
def lowB (n : Nat) : Nat := if n % 64 < 32 then n + 32 else n
theorem lowB_all : ((List.range 256).all fun n => match zdW .or .u8 (n : Int) 32 with | some (.int .u8 m) => m == (lowB n : Int) | _ => false) = true := by kernel_rfl
theorem s_low (n : Nat) (hn : n < 256) {α : Type} (T : TypeId) (k : Value → Option α) : pBin PP .or T (.int .u8 (n : Int)) (.int .u8 32) k = k (.int .u8 (lowB n : Int)) := by
  have h := List.all_eq_true.1 lowB_all n (List.mem_range.2 hn)
  have e : zdW .or .u8 (n : Int) 32 = some (.int .u8 (lowB n : Int)) := by
    split at h
    · rename_i m hm
      rw [hm, eq_of_beq h]
    · cases h
  have : binV PP .or T (.int .u8 (n : Int)) (.int .u8 32) = some (.int .u8 (lowB n : Int)) := e
  unfold pBin; rw [this]
theorem c_lower (n : Nat) (hn : n < 256) (H : Hp) : RR F.a4 [.int .u8 (n : Int)] H = some (.int .u8 (lowB n : Int), H) := by
  refine (zdH E0 rfl _ H).trans ?_
  unfold zbR
  rw [s_low n hn]
def pd (n : Nat) : Option Nat := if 48 ≤ n ∧ n ≤ 57 then some (n - 48) else if 97 ≤ lowB n ∧ lowB n ≤ 122 then some (lowB n - 97 + 10) else none
def pdOk (n base : Nat) : Bool := match pd n with
  | none => digV n base == -1
  | some d => d < 36 && (if d < base then digV n base == (d : Int) else digV n base == -1)
theorem pd_all : ((List.range 256).all fun n => pdOk n 10 && pdOk n 16) = true := by kernel_rfl
theorem pd_none {n base : Nat} (hn : n < 256) (hb : base = 10 ∨ base = 16) (h : pd n = none) : digV n base = -1 := by
  have := List.all_eq_true.1 pd_all n (List.mem_range.2 hn)
  rw [Bool.and_eq_true] at this
  have : pdOk n base = true := by rcases hb with rfl | rfl; exact this.1; exact this.2
  unfold pdOk at this
  rw [h] at this
  exact eq_of_beq this
theorem pd_some {n base d : Nat} (hn : n < 256) (hb : base = 10 ∨ base = 16) (h : pd n = some d) : d < 36 ∧ (d < base → digV n base = (d : Int)) ∧ (base ≤ d → digV n base = -1) := by
  have := List.all_eq_true.1 pd_all n (List.mem_range.2 hn)
  rw [Bool.and_eq_true] at this
  have : pdOk n base = true := by rcases hb with rfl | rfl; exact this.1; exact this.2
  unfold pdOk at this
  rw [h] at this
  dsimp only at this
  rw [Bool.and_eq_true, decide_eq_true_eq] at this
  refine ⟨this.1, fun q => ?_, fun q => ?_⟩
  · have h2 := this.2; rw [if_pos q] at h2; exact eq_of_beq h2
  · have h2 := this.2; rw [if_neg (by omega)] at h2; exact eq_of_beq h2
def zf2 (l : List UInt8) : List Value := l.map fun b => Value.int .u8 (b.toNat : Int)
def errP (u c : Int) : Value := .tuple #[.int .u64 u, .iface T.strconv_Error (.int .i64 c)]
theorem u8w {a : Int} (h0 : 0 ≤ a) (h1 : a ≤ 255) : IntKind.u8.wrap a = a := zca (k := .u8) h0 h1
def maxU : Value := .int .u64 18446744073709551615
theorem u64mod {a : Nat} (h : 18446744073709551616 ≤ a) (h2 : a < 2 * 18446744073709551616) : IntKind.u64.wrap (a : Int) = ((a - 18446744073709551616 : Nat) : Int) := by
  simp [IntKind.wrap, IntKind.signed, IntKind.bits]
  omega
def ParQ (v base : Nat) (d : Int) (i : Nat) (H : Hp) (r : Outc) : Prop :=
  ((d < 0 ∨ v > (18446744073709551615 - d.toNat) / base) → ∃ u c, (c = 1 ∨ c = 2) ∧ r = (.ret, [errP u c], H)) ∧
  (¬ (d < 0 ∨ v > (18446744073709551615 - d.toNat) / base) → r = (.next, [.bool false, .int .u64 ((v * base + d.toNat : Nat) : Int), .int .i64 ((i + 1 : Nat) : Int)], H))
theorem ParQ.bad {v base : Nat} {d : Int} {i : Nat} {H : Hp} (h : d < 0 ∨ v > (18446744073709551615 - d.toNat) / base) (u c : Int) (hc : c = 1 ∨ c = 2) : ParQ v base d i H (.ret, [errP u c], H) := ⟨fun _ => ⟨u, c, hc, rfl⟩, fun q => absurd h q⟩
theorem par_step (l : List UInt8) (hl : l.length ≤ 2 ^ 40) (base : Nat) (hb : base = 10 ∨ base = 16) (xs vb : Value) (H : Hp) (hv : Rdb H 1 vb l.length (zf2 l)) (i v : Nat) (b : UInt8) (hget : l[i]? = some b) (hv2 : v ≤ 18446744073709551615) :
    ∃ r, zaB RR (.bool false) maxU vb (.int .i64 (l.length : Int)) [xs, .int .i64 (base : Int)] [.int .u64 ((18446744073709551615 / base + 1 : Nat) : Int)] [.bool false, .int .u64 (v : Int), .int .i64 (i : Int)] H = some r ∧
      ParQ v base (digV b.toNat base) i H r := by
  have hi : i < l.length := (List.getElem?_eq_some_iff.1 hget).1
  obtain ⟨y, hy, ⟨rest, own, hg⟩, hix⟩ := hv.ix hi
  have hix' : ∀ (α : Type) (k : Value → Option α), pIdx 1 vb (.int .i64 (i : Int)) k = k (.pointer (some ⟨y, i, none⟩)) := fun α k => by
    have := hix α .i64 k
    rwa [Nat.mul_one] at this
  have hld : ∀ (α : Type) (k : Value → Option α), zah 1 false H (.pointer (some ⟨y, i, none⟩)) k = k (.int .u8 (b.toNat : Int)) := fun α k => zba hg i _ (by
    rw [List.getElem?_append_left (by simpa [zf2] using hi)]
    simp [zf2, hget]) k
  have hn := UInt8.toNat_lt b
  generalize b.toNat = n at hn hld ⊢
  have h1 : ((i : Int) < (l.length : Int)) := by omega
  have hlow := c_lower n hn H
  have hbase8 : ∀ (α : Type) (k : Value → Option α), zaw .u8 (.int .i64 (base : Int)) k = k (.int .u8 (base : Int)) := fun α k => by
    show k (.int .u8 (IntKind.u8.wrap (base : Int))) = _
    rw [u8w (by omega) (by omega)]
  have hbase64 : ∀ (α : Type) (k : Value → Option α), zaw .u64 (.int .i64 (base : Int)) k = k (.int .u64 (base : Int)) := fun α k => by
    show k (.int .u64 (IntKind.u64.wrap (base : Int))) = _
    rw [u64 (by omega) (by omega)]
  have hinc : IntKind.i64.wrap ((i : Int) + 1) = ((i + 1 : Nat) : Int) := w64 (by omega) (by omega)
  have tailD : ∀ d : Nat, pd n = some d → d < 36 → ∃ r : Outc,
      (zaw .u8 (.int .i64 (base : Int)) fun v131 =>
       pBin PP .geq T.uint8 (.int .u8 (d : Int)) v131 fun v132 =>
       zab v132 fun b133 => br b133
       (some (Ctl.ret, [(.tuple #[(.int .u64 0), (.iface T.strconv_Error (.int .i64 2))])], H))
       (pBin PP .geq T.uint64 (.int .u64 (v : Int)) (.int .u64 ((18446744073709551615 / base + 1 : Nat) : Int)) fun v134 =>
       zab v134 fun b135 => br b135
       (some (Ctl.ret, [(.tuple #[maxU, (.iface T.strconv_Error (.int .i64 1))])], H))
       (zaw .u64 (.int .i64 (base : Int)) fun v136 =>
       pBin PP .mul T.uint64 (.int .u64 (v : Int)) v136 fun v137 =>
       zaw .u64 (.int .u8 (d : Int)) fun v138 =>
       pBin PP .add T.uint64 v137 v138 fun v139 =>
       pBin PP .lss T.uint64 v139 v137 fun v140 =>
       zab v140 fun b141 => br b141
       (some (Ctl.ret, [(.tuple #[maxU, (.iface T.strconv_Error (.int .i64 1))])], H))
       (pBin PP .gtr T.uint64 v139 maxU fun v142 =>
       zab v142 fun b143 => br b143
       (some (Ctl.ret, [(.tuple #[maxU, (.iface T.strconv_Error (.int .i64 1))])], H))
       (pBin PP .add T.int (.int .i64 (i : Int)) (.int .i64 1) fun v144 =>
       some (Ctl.next, [.bool false, v139, v144], H)))))) = some r ∧
      ParQ v base (digV n base) i H r := by
    intro d hd hd36
    obtain ⟨_, hlt, hge⟩ := pd_some hn hb hd
    rw [hbase8]
    by_cases hdb : base ≤ d
    · have hq : digV n base < 0 := by rw [hge hdb]; decide
      have : ((d : Int) ≥ (base : Int)) := by omega
      simp only [zbp, zac, s_br, this, decide_true, if_true]
      exact ⟨_, rfl, ParQ.bad (.inl hq) 0 2 (.inr rfl)⟩
    · have hdv := hlt (by omega)
      rw [hdv]
      have hdb' : ¬ ((d : Int) ≥ (base : Int)) := by omega
      have hd0 : ¬ ((d : Int) < 0) := by omega
      have hcd : ∀ (α : Type) (k : Value → Option α), zaw .u64 (.int .u8 (d : Int)) k = k (.int .u64 (d : Int)) := fun α k => by
        show k (.int .u64 (IntKind.u64.wrap (d : Int))) = _
        rw [u64 (by omega) (by omega)]
      by_cases hc : v ≥ 18446744073709551615 / base + 1
      · have hq : v > (18446744073709551615 - d) / base := by
          have : (18446744073709551615 - d) / base ≤ 18446744073709551615 / base := Nat.div_le_div_right (by omega)
          omega
        have hc' : ((v : Int) ≥ ((18446744073709551615 / base + 1 : Nat) : Int)) := by omega
        simp only [zbp, zac, s_br, hdb', hc', decide_true, decide_false, Bool.false_eq_true, if_true, if_false]
        exact ⟨_, rfl, ParQ.bad (.inr hq) _ 1 (.inl rfl)⟩
      · have hc' : ¬ ((v : Int) ≥ ((18446744073709551615 / base + 1 : Nat) : Int)) := by omega
        have hb0 : 0 < base := by omega
        have hm : v * base ≤ 18446744073709551615 := by
          have : v ≤ 18446744073709551615 / base := by omega
          exact (Nat.le_div_iff_mul_le hb0).1 this
        have hmul : IntKind.u64.wrap ((v : Int) * (base : Int)) = ((v * base : Nat) : Int) := by
          rw [← Int.natCast_mul]
          exact u64 (by omega) (by omega)
        by_cases ho : v * base + d ≤ 18446744073709551615
        · have hq : ¬ (v > (18446744073709551615 - d) / base) := by
            have : v ≤ (18446744073709551615 - d) / base := (Nat.le_div_iff_mul_le hb0).2 (by omega)
            omega
          have hadd : IntKind.u64.wrap (((v * base : Nat) : Int) + (d : Int)) = ((v * base + d : Nat) : Int) := by
            rw [← Int.natCast_add]
            exact u64 (by omega) (by omega)
          have e1 : ¬ (((v * base + d : Nat) : Int) < ((v * base : Nat) : Int)) := by omega
          have e2 : ¬ (((v * base + d : Nat) : Int) > 18446744073709551615) := by omega
          simp only [zbp, zac, s_br, hdb', hc', decide_true, decide_false, Bool.false_eq_true, if_true, if_false, hbase64, s_mul, hmul, hcd, za2, hadd, zaP, e1, maxU, zbi, e2, hinc]
          exact ⟨_, rfl, fun q => absurd q (by intro q; rcases q with q | q; exact hd0 q; exact hq q), fun _ => rfl⟩
        · have hq : (v > (18446744073709551615 - d) / base) := by
            rcases Nat.lt_or_ge ((18446744073709551615 - d) / base) v with q | q
            · exact q
            · have := (Nat.le_div_iff_mul_le hb0).1 q; omega
          have hadd : IntKind.u64.wrap (((v * base : Nat) : Int) + (d : Int)) = ((v * base + d - 18446744073709551616 : Nat) : Int) := by
            rw [← Int.natCast_add]
            exact u64mod (by omega) (by omega)
          have e1 : (((v * base + d - 18446744073709551616 : Nat) : Int) < ((v * base : Nat) : Int)) := by omega
          simp only [zbp, zac, s_br, hdb', hc', decide_true, decide_false, Bool.false_eq_true, if_true, if_false, hbase64, s_mul, hmul, hcd, za2, hadd, zaP, e1]
          exact ⟨_, rfl, ParQ.bad (.inr hq) _ 1 (.inl rfl)⟩
  have bad : pd n = none → ParQ v base (digV n base) i H (Ctl.ret, [Value.tuple #[(.int .u64 0), (.iface T.strconv_Error (.int .i64 2))]], H) := fun hp =>
    ParQ.bad (.inl (by rw [pd_none hn hb hp]; decide)) 0 2 (.inr rfl)
  have hl256 : lowB n < 288 := by unfold lowB; split <;> omega
  unfold zaB
  simp only [qg0, qg1, zaP, zac, s_br, h1, decide_true, if_true, hix', hld]
  have e95 : (zat (pBin PP .eql T.uint8 (.int .u8 (n : Int)) (.int .u8 95) fun v91 => zab v91 fun b92 => br b92 (some (.next, [Value.bool false], H)) (some (.next, [(.bool false)], H))) : (Ctl → List Value → Hp → Option Outc) → Option Outc) = fun k => k .next [.bool false] H := by
    funext k
    rw [zaX, zac, s_br]
    split <;> rfl
  have e95' := fun k => congrFun e95 k
  simp only [zac, s_br] at e95'
  rw [e95', zaA]
  simp only [qg0, zac, s_br, Bool.false_eq_true, if_false, zbP]
  by_cases q1 : (48 : Int) ≤ (n : Int) <;> by_cases q2 : (n : Int) ≤ 57
  · have hp : pd n = some (n - 48) := by unfold pd; rw [if_pos ⟨by omega, by omega⟩]
    have hs : IntKind.u8.wrap ((n : Int) - 48) = ((n - 48 : Nat) : Int) := by rw [u8w (by omega) (by omega)]; omega
    have hT := tailD _ hp (by omega)
    simp only [zbP, zac, s_br, q1, q2, decide_true, if_true, zcY, hs, za2, zan, zaA, qg0, qg1] at hT ⊢
    exact hT
  all_goals
    have hno : ¬ (48 ≤ n ∧ n ≤ 57) := by omega
    by_cases q3 : (97 : Int) ≤ (lowB n : Int) <;> by_cases q4 : (lowB n : Int) ≤ 122
    · have hp : pd n = some (lowB n - 97 + 10) := by unfold pd; rw [if_neg hno, if_pos ⟨by omega, by omega⟩]
      have hs : IntKind.u8.wrap ((lowB n : Int) - 97) = ((lowB n - 97 : Nat) : Int) := by rw [u8w (by omega) (by omega)]; omega
      have ha : IntKind.u8.wrap (((lowB n - 97 : Nat) : Int) + 10) = ((lowB n - 97 + 10 : Nat) : Int) := by rw [u8w (by omega) (by omega)]; omega
      have hT := tailD _ hp (by omega)
      simp only [zbP, zac, s_br, q1, q2, q3, q4, decide_true, decide_false, Bool.false_eq_true, if_true, if_false, zaj hlow, zcY, hs, za2, ha, zan, zaA, qg0, qg1] at hT ⊢
      exact hT
    all_goals
      have hp : pd n = none := by unfold pd; rw [if_neg hno, if_neg (by omega)]
      simp only [zbP, zac, s_br, q1, q2, q3, q4, decide_true, decide_false, Bool.false_eq_true, if_true, if_false, zaj hlow, zan, zbx, List.headD_cons]
      exact ⟨_, rfl, bad hp⟩
theorem zlq (l : List UInt8) (hl : l.length ≤ 2 ^ 40) (base : Nat) (hb : base = 10 ∨ base = 16) (xs vb : Value) (H : Hp) (hv : Rdb H 1 vb l.length (zf2 l)) : ∀ (rest : List UInt8) (i v : Nat), l.drop i = rest → i ≤ l.length → v ≤ 18446744073709551615 →
    ∃ r, zaE (zaB RR (.bool false) maxU vb (.int .i64 (l.length : Int)) [xs, .int .i64 (base : Int)] [.int .u64 ((18446744073709551615 / base + 1 : Nat) : Int)]) [.bool false, .int .u64 (v : Int), .int .i64 (i : Int)] H = some r ∧
      match numL base rest v with
      | some x => r = (.exit 3, [.bool false, .int .u64 (x : Int), .int .i64 (l.length : Int)], H)
      | none => ∃ u c, (c = 1 ∨ c = 2) ∧ r = (.ret, [errP u c], H)
  | [], i, v, hr, hi, hv2 => by
    have hil : i = l.length := by
      have := congrArg List.length hr
      rw [List.length_drop] at this
      simp at this
      omega
    have this : zaB RR (.bool false) maxU vb (.int .i64 (l.length : Int)) [xs, .int .i64 (base : Int)] [.int .u64 ((18446744073709551615 / base + 1 : Nat) : Int)] [.bool false, .int .u64 (v : Int), .int .i64 (i : Int)] H = some (.exit 3, [.bool false, .int .u64 (v : Int), .int .i64 (i : Int)], H) := by
      unfold zaB
      have h1 : ¬ ((i : Int) < (l.length : Int)) := by omega
      simp only [qg0, qg1, zaP, zac, s_br, h1, decide_false, Bool.false_eq_true, if_false]
    subst hil
    exact ⟨_, (by rw [zam, this]; rfl), rfl⟩
  | b :: r, i, v, hr, hi, hv2 => by
    have hlt : i < l.length := by
      have := congrArg List.length hr
      rw [List.length_drop] at this
      simp at this
      omega
    have hget : l[i]? = some b := by
      have := congrArg (fun x => x[0]?) hr
      simpa using this
    have hr2 : l.drop (i + 1) = r := by rw [← List.drop_drop, hr]; rfl
    obtain ⟨o, h1, h2⟩ := par_step l hl base hb xs vb H hv i v b hget hv2
    unfold numL
    by_cases h0 : digV b.toNat base < 0
    · rw [if_pos h0]
      obtain ⟨u, c, hc, rfl⟩ := h2.1 (.inl h0)
      exact ⟨_, (by rw [zam, h1]; rfl), u, c, hc, rfl⟩
    · rw [if_neg h0]
      by_cases h3 : v > (18446744073709551615 - (digV b.toNat base).toNat) / base
      · rw [if_pos h3]
        obtain ⟨u, c, hc, rfl⟩ := h2.1 (.inr h3)
        exact ⟨_, (by rw [zam, h1]; rfl), u, c, hc, rfl⟩
      · rw [if_neg h3]
        have h2 := h2.2 (by intro q; rcases q with q | q; exact h0 q; exact h3 q)
        subst h2
        have hd := zkV b.toNat base
        have hm : v * base ≤ 18446744073709551615 - (digV b.toNat base).toNat := by
          have : v ≤ (18446744073709551615 - (digV b.toNat base).toNat) / base := by omega
          exact (Nat.le_div_iff_mul_le (by omega)).1 this
        rw [zam, h1]
        exact zlq l hl base hb xs vb H hv r (i + 1) _ hr2 hlt (by omega)
end Go.AM
namespace Go.AM
open Go
theorem run_ext {P : Program} {O : Orc} {ext : FuncId → Option (List Value → Hp → Option (Value × Hp))} {g : FuncId} {fn : Func} {e : List Value → Hp → Option (Value × Hp)} (hf : P.funcs[g]? = some fn) (hn : (fn.name == "runtime.NumGoroutine") = false) (hb : fn.body.isSome = true) (hx : ext g = some e) (xs : List Value) (H : Hp) :
    run P O ext g xs H = e xs H := by
  rw [run_eq]
  unfold zgK
  rw [hf]
  dsimp only
  rw [hn]
  dsimp only
  obtain ⟨c, hc⟩ := Option.isSome_iff_exists.1 hb
  rw [hc]
  dsimp only
  rw [hx]
def bv (l : List UInt8) : List Value := l.map fun b => Value.int .u8 (b.toNat : Int)
end Go.AM
namespace Go.AM
open Go
section
variable {α : Type}
end
end Go.AM
namespace Go.AM
open Go
section
variable {α : Type} {P : Program}
end
end Go.AM
namespace Go.AM
open Go
structure Tabs (H : Hp) : Prop where
  pow : ∃ cs e fz, H.get G.internal_strconv_uint64pow10 = some (.fix (.cells cs e fz)) ∧ ziK .u64 cs.toList zl9 = true
  spc : ∃ cs e fz, H.get G.strings_asciiSpace = some (.fix (.cells cs e fz)) ∧ ziK .u8 cs.toList zic = true
  bru : ∃ cs e fz, H.get G.bits_deBruijn64tab = some (.fix (.cells cs e fz)) ∧ cs.toList[15]? = some (.int .u8 4)
end Go.AM
namespace Go.AM
open Go
theorem zdx {α : Type} (T : TypeId) (a b : List UInt8) (k : Value → Option α) : pBin PP .eql T (str a) (str b) k = k (.bool (a == b)) := by
  show pBin PP .eql T (.string (ba a)) (.string (ba b)) k = _
  rw [zlf, zdC, zdC]
theorem zbU {α : Type} (l : List UInt8) (H : Hp) (k : Value → Option α) : pLen .str (str l) H k = k (.int .i64 (l.length : Int)) := by
  show k (.int .i64 ((ba l).size : Int)) = _
  rw [zbz]
theorem zjx {α : Type} (l : List UInt8) (hl : l.length ≤ 2 ^ 40) (H : Hp) (k : Value → Hp → Option α) : zcS (str l) H k = k (.slice (some ⟨H.next, 0, some 1⟩) l.length l.length) (H.new (.cells (zf2 l) true)) := by
  show (if (ba l).size ≤ 2 ^ 47 then k (.slice (some ⟨H.next, 0, some 1⟩) (ba l).size (ba l).size) (H.new (.cells ((ba l).data.toList.map fun b => .int .u8 (b.toNat : Int)) true)) else none) = _
  rw [zbz, zdC, if_pos (by omega)]
  rfl
theorem u8conv : IntKind.u64.wrap 64 = 64 := by decide
theorem shl64 {α : Type} (T : TypeId) (k : Value → Option α) : pBin PP .shl T (.int .u64 1) (.int .u64 64) k = k (.int .u64 0) := by
  have : binV PP .shl T (.int .u64 1) (.int .u64 64) = some (.int .u64 0) := by
    show shOp .shl .u64 1 64 = _
    kernel_rfl
  unfold pBin; rw [this]
def numB (base : Nat) (l : List UInt8) : Option Nat := if l = [] then none else numL base l 0
theorem c_iparse (l : List UInt8) (hl : l.length ≤ 2 ^ 40) (base : Nat) (hb : base = 10 ∨ base = 16) (H : Hp) : ∃ r H', RR F.a26 [str l, .int .i64 (base : Int), .int .i64 64] H = some (r, H') ∧ Frm (fun _ => False) H H' ∧
    match numB base l with
    | some x => r = .tuple #[.int .u64 (x : Int), .nilIface]
    | none => ∃ u c, (c = 1 ∨ c = 2) ∧ r = errP u c := by
  by_cases h0 : l = []
  · refine ⟨errP 0 2, H, ?_, Frm.refl _ _, ?_⟩
    · refine (zbA E0 rfl _ _ _ H).trans ?_
      rw [zbE]
      have he : ∀ {α : Type} (k : Value → Option α), pBin PP .eql T.string (str l) (.string ⟨#[]⟩) k = k (.bool (l == [])) := fun k => zdx T.string l [] k
      rw [he, h0, zac, s_br, if_pos (by rfl)]
      rfl
    · unfold numB
      rw [if_pos h0]
      exact ⟨0, 2, .inr rfl, rfl⟩
  · let H1 := H.new (.cells (zf2 l) true)
    have hv : Rdb H1 1 (.slice (some ⟨H.next, 0, some 1⟩) l.length l.length) l.length (zf2 l) :=
      .inr ⟨H.next, l.length, [], true, rfl, Nat.le_refl _, by rw [List.append_nil]; exact if_pos rfl, by simp [zf2], by show H.next < H.next + 1; omega⟩
    have hf : Frm (fun _ => False) H H1 := zde _ _ _
    obtain ⟨o, h1, h2⟩ := zlq l hl base hb (str l) _ H1 hv l 0 0 rfl (Nat.zero_le _) (by omega)
    have hrun : RR F.a26 [str l, .int .i64 (base : Int), .int .i64 64] H = zat (some o) fun q146 l147 H148 => zaC q146 none
        (fun i149 => zax i149 3 (
        zab (l147.getD 0 undef) fun b150 => br b150
        (zaf RR F.a66 [str l] H148 fun r151 H152 =>
        pUn .not r151 fun v153 =>
        zab v153 fun b154 => br b154
        (some ((.tuple #[(.int .u64 0), (.iface T.strconv_Error (.int .i64 2))]), H152))
        (some ((.tuple #[(l147.getD 1 undef), .nilIface]), H152)))
        (some ((.tuple #[(l147.getD 1 undef), .nilIface]), H148))) (
        none))
        (some ((l147.headD undef), H148)) := by
      refine (zbA E0 rfl _ _ _ H).trans ?_
      rw [zbE]
      have he : ∀ {α : Type} (k : Value → Option α), pBin PP .eql T.string (str l) (.string ⟨#[]⟩) k = k (.bool (l == [])) := fun k => zdx T.string l [] k
      have hne : (l == []) = false := by rw [beq_eq_false_iff_ne]; exact h0
      have b0 : ¬ ((base : Int) = 0) := by omega
      have b1 : (2 : Int) ≤ (base : Int) := by omega
      have b2 : (base : Int) ≤ 36 := by omega
      have c0 : ¬ ((64 : Int) = 0) := by decide
      have c1 : ¬ ((64 : Int) < 0) := by decide
      have c2 : ¬ ((64 : Int) > 64) := by decide
      have hcv : ∀ {α : Type} (k : Value → Option α), zaw .u64 (.int .i64 64) k = k (.int .u64 64) := fun k => by
        show k (.int .u64 (IntKind.u64.wrap 64)) = _
        rw [u8conv]
      have hsub : ∀ {α : Type} (k : Value → Option α), pBin PP .sub T.uint64 (.int .u64 0) (.int .u64 1) k = k maxU := fun k => by
        rw [zcY]; rfl
      have hlen : ∀ {α : Type} (k : Value → Option α), pLen .sl (.slice (some ⟨H.next, 0, some 1⟩) l.length l.length) (H.new (.cells (zf2 l) true)) k = k (.int .i64 (l.length : Int)) := fun k => rfl
      simp only [he, hne, zac, s_br, Bool.false_eq_true, if_false, zaX, b0, b1, b2, decide_false, decide_true, if_true, zbP, zan, zaA, qg0, qg1, c0, c1, c2, zaP, zbi]
      rcases hb with rfl | rfl
      · have d0 : ((10 : Nat) : Int) = 10 := rfl
        simp only [d0, decide_true, if_true, zan, zaA, hcv, shl64, hsub, zjx l hl, hlen]
        exact congrArg (fun z => zat z _) h1
      · have d0 : ¬ ((16 : Int) = 10) := by decide
        have d1 : ((16 : Nat) : Int) = 16 := rfl
        simp only [d0, d1, decide_true, decide_false, Bool.false_eq_true, if_false, if_true, zan, zaA, hcv, shl64, hsub, zjx l hl, hlen]
        exact congrArg (fun z => zat z _) h1
    unfold numB
    rw [if_neg h0]
    cases hn : numL base l 0 with
    | some x =>
      rw [hn] at h2
      subst h2
      exact ⟨_, H1, hrun, hf, rfl⟩
    | none =>
      rw [hn] at h2
      obtain ⟨u, c, hc, rfl⟩ := h2
      exact ⟨_, H1, hrun, hf, u, c, hc, rfl⟩
structure Laid (H : Hp) : Prop where
  next : PP.globals.size ≤ H.next
  tabs : Tabs H
  syn : ∃ cs ty fz, H.get G.strconv_ErrSyntax = some (.fix (.cells cs ty fz)) ∧ isErr cs.toList = true
  rng : ∃ cs ty fz, H.get G.strconv_ErrRange = some (.fix (.cells cs ty fz)) ∧ isErr cs.toList = true
theorem Laid.keep {H H' : Hp} {M : Nat → Prop} (h : Laid H) (k : Frm M H H') (hm : ∀ j, M j → PP.globals.size ≤ j) : Laid H' := by
  have e : ∀ g, g < PP.globals.size → H'.get g = H.get g := fun g hg => k.same g (by have := h.next; omega) fun q => by have := hm g q; omega
  exact ⟨Nat.le_trans h.next k.next, ⟨by rw [e _ (by rw [zh8]; decide)]; exact h.tabs.pow, by rw [e _ (by rw [zh8]; decide)]; exact h.tabs.spc, by rw [e _ (by rw [zh8]; decide)]; exact h.tabs.bru⟩,
    by rw [e _ (by rw [zh8]; decide)]; exact h.syn, by rw [e _ (by rw [zh8]; decide)]; exact h.rng⟩
theorem c_toerr (fn : ByteArray) (l : List UInt8) (hl : l.length ≤ 2 ^ 40) (b : Int) (c : Int) (hc : c = 1 ∨ c = 2) (H : Hp) (hL : Laid H) :
    ∃ t v, RR F.a27 [.string fn, str l, .int .i64 b, .int .i64 64, .iface T.strconv_Error (.int .i64 c)] H = some (.iface t v, H.skip) := by
  refine ⟨T.p_strconv_NumError, .pointer (some ⟨H.next, 0, none⟩), ?_⟩
  have hE : E0 F.a27 = some zj6 := rfl
  have : RR F.a27 [.string fn, str l, .int .i64 b, .int .i64 64, .iface T.strconv_Error (.int .i64 c)] H = zj6 [.string fn, str l, .int .i64 b, .int .i64 64, .iface T.strconv_Error (.int .i64 c)] H := run_ext Go.Proofs.Tryz.func91 (by kernel_rfl) (by kernel_rfl) hE _ _
  rw [this]
  have hg : ∃ cs ty fz, H.get (if c = 2 then G.strconv_ErrSyntax else G.strconv_ErrRange) = some (.fix (.cells cs ty fz)) ∧ isErr cs.toList = true := by
    rcases hc with rfl | rfl
    · exact hL.rng
    · exact hL.syn
  obtain ⟨cs, ty, fz, h1, h2⟩ := hg
  show (if T.strconv_Error = T.strconv_Error ∧ (ba l).size ≤ 281474976710656 ∧ (c = 1 ∨ c = 2) then _ else _) = _
  rw [if_pos ⟨rfl, by rw [zbz]; omega, hc⟩, h1]
  dsimp only
  rw [h2]
theorem skip_fr (H : Hp) : Frm (fun _ => False) H H.skip := ⟨by show H.next ≤ H.next + 1; omega, fun _ _ _ => rfl⟩
theorem c_parse (l : List UInt8) (hl : l.length ≤ 2 ^ 40) (base : Nat) (hb : base = 10 ∨ base = 16) (H : Hp) (hL : Laid H) : ∃ r H', RR F.a38 [str l, .int .i64 (base : Int), .int .i64 64] H = some (r, H') ∧ Frm (fun _ => False) H H' ∧
    match numB base l with
    | some x => r = .tuple #[.int .u64 (x : Int), .nilIface]
    | none => ∃ u t v, r = .tuple #[.int .u64 u, .iface t v] := by
  obtain ⟨r, H', h1, h2, h3⟩ := c_iparse l hl base hb H
  have hrun := zff E0 rfl (str l) (.int .i64 (base : Int)) (.int .i64 64) H
  unfold zc6 at hrun
  rw [zaj h1] at hrun
  cases hn : numB base l with
  | some x =>
    rw [hn] at h3
    subst h3
    refine ⟨_, H', hrun.trans ?_, h2, rfl⟩
    rw [x01]
    rfl
  | none =>
    rw [hn] at h3
    obtain ⟨u, c, hc, rfl⟩ := h3
    obtain ⟨t, v, h4⟩ := c_toerr ⟨#[80, 97, 114, 115, 101, 85, 105, 110, 116]⟩ l hl (base : Int) c hc H' (hL.keep h2 fun j q => q.elim)
    refine ⟨.tuple #[.int .u64 u, .iface t v], H'.skip, hrun.trans ?_, h2.trans (skip_fr H') fun j q => q.elim, u, t, v, rfl⟩
    unfold errP
    rw [x01]
    have e : ∀ {α : Type} (k : Value → Option α), zd3 PP .neq T.error (.iface T.strconv_Error (.int .i64 c)) k = k (.bool true) := fun k => rfl
    rw [e, zac, s_br, if_pos rfl, zaj h4]
theorem c_cutp (l : List UInt8) (H : Hp) : RR F.a58 [str l, .string ⟨#[48, 120]⟩] H = some (if l.take 2 = [48, 120] then .tuple #[str (l.drop 2), .bool true] else .tuple #[str l, .bool false], H) := by
  have hp : RR F.a56 [str l, str [48, 120]] H = some (.bool (decide (l.take 2 = [48, 120])), H) := by
    refine (zb7 E0 rfl _ _ H).trans ?_
    unfold zbm
    simp only [zbU, zbp, zac, s_br]
    by_cases h : l.length ≥ 2
    · have h' : ((l.length : Int) ≥ (([48, 120] : List UInt8).length : Int)) := by show (l.length : Int) ≥ 2; omega
      rw [if_pos (decide_eq_true h'), s_upto l .i64 (m := ([48, 120] : List UInt8).length) h, zdx]
      have e : (l.take ([48, 120] : List UInt8).length == [48, 120]) = decide (l.take 2 = [48, 120]) := by
        rw [Bool.eq_iff_iff]; simp
      rw [e]
    · have h' : ¬ ((l.length : Int) ≥ (([48, 120] : List UInt8).length : Int)) := by show ¬ (l.length : Int) ≥ 2; omega
      rw [if_neg (fun q => h' (of_decide_eq_true q))]
      have : ¬ (l.take 2 = [48, 120]) := fun e => by
        have := congrArg List.length e
        rw [List.length_take] at this
        simp at this
        omega
      rw [decide_eq_false this]
  have hc : RR F.a36 [str l, str [48, 120]] H = some (if l.take 2 = [48, 120] then .tuple #[str (l.drop 2), .bool true] else .tuple #[str l, .bool false], H) := by
    refine (zb8 E0 rfl _ _ H).trans ?_
    unfold zbn
    rw [zaj hp, zbL, zac, s_br]
    by_cases h : l.take 2 = [48, 120]
    · rw [decide_eq_true h, if_neg (by decide), if_pos h, zbU]
      have hl2 : 2 ≤ l.length := by
        have := congrArg List.length h
        rw [List.length_take] at this
        simp at this
        omega
      have := s_from l .i64 (m := 2) hl2 (fun v6 => some ((Value.tuple #[v6, .bool true]), H))
      exact this
    · rw [decide_eq_false h, if_pos (by decide), if_neg h]
  refine (zfe E0 rfl _ _ H).trans ?_
  unfold zc5
  have hc' : RR F.a36 [str l, .string ⟨#[48, 120]⟩] H = _ := hc
  rw [zaj hc']
  by_cases h : l.take 2 = [48, 120]
  · rw [if_pos h, x01]
  · rw [if_neg h, x01]
end Go.AM
namespace Go.AM
open Go
theorem zkW (l : List UInt8) (i : Nat) (hi : i < l.length) {c : Nat} (hc : c < 128) (h : ((Utf8.decode (ba l) i).1 : Int) = (c : Int)) : (l.getD i 0).toNat = c := by
  rw [Go.Lib.decode_at, zbz] at h
  simp only [ba_get] at h
  have hs := zka (l.length - i) (l.getD i 0).toNat (l.getD (i + 1) 0).toNat (l.getD (i + 2) 0).toNat (l.getD (i + 3) 0).toNat (by omega)
  generalize Go.Lib.decodeN (l.length - i) (l.getD i 0).toNat (l.getD (i + 1) 0).toNat (l.getD (i + 2) 0).toNat (l.getD (i + 3) 0).toNat = q at hs h
  obtain ⟨r, w⟩ := q
  rcases hs with ⟨h1, h2⟩ | ⟨h1, h2⟩ | ⟨h1, h2, h3, h4, h5⟩ | ⟨h1, h2, h3, h3', h4, h5⟩ | ⟨h1, h2, h3, h3', h3'', h4, h5⟩
  · cases h2; dsimp only at h; omega
  · cases h2; dsimp only at h; omega
  all_goals (dsimp only at h h5; omega)
theorem zly (base : Nat) : ∀ (l : List UInt8) (v : Nat), (∃ b ∈ l, digV b.toNat base < 0) → numL base l v = none
  | [], v, ⟨b, hb, _⟩ => by cases hb
  | a :: r, v, ⟨b, hb, hd⟩ => by
    unfold numL
    by_cases h0 : digV a.toNat base < 0
    · rw [if_pos h0]
    · rw [if_neg h0]
      split
      · rfl
      · rcases List.mem_cons.1 hb with q | q
        · subst q; exact absurd hd h0
        · exact zly base r _ ⟨b, q, hd⟩
theorem sign_bad {b : UInt8} {base : Nat} (hb : base = 10 ∨ base = 16) (h : b.toNat = 95 ∨ b.toNat = 43 ∨ b.toNat = 45) : digV b.toNat base < 0 := by
  rcases hb with rfl | rfl <;> rcases h with h | h | h <;> rw [h] <;> decide
theorem sign_loop (l : List UInt8) (hl : l.length ≤ 2 ^ 40) (H : Hp) : ∀ (m i : Nat), l.length - i = m → i ≤ l.length →
    zaE (za3 RR) [zcC l i] H = some (.exit 0, [zcC l l.length], H) ∨ (zaE (za3 RR) [zcC l i] H = some (.ret, [badN], H) ∧ ∃ b ∈ l, b.toNat = 95 ∨ b.toNat = 43 ∨ b.toNat = 45) := by
  intro m
  induction m using Nat.strongRecOn with
  | _ m ih =>
  intro i hm hi
  by_cases he : i = l.length
  · left
    subst he
    have hb : Nat.blt l.length (ba l).size = false := by rw [zbz]; exact Bool.eq_false_iff.2 fun q => by rw [Nat.blt_eq] at q; exact Nat.lt_irrefl _ q
    have : za3 RR [zcC l l.length] H = some (.exit 0, [zcC l l.length], H) := by
      show br (Nat.blt l.length (ba l).size) _ _ = _
      rw [hb]; rfl
    rw [zam, this]; rfl
  · have hlt : i < l.length := by omega
    have hb : Nat.blt i (ba l).size = true := by rw [zbz]; rw [Nat.blt_eq]; exact hlt
    obtain ⟨d1, d2, _⟩ := dec_sp l i hlt
    have hmem : l.getD i 0 ∈ l := by
      rw [List.getD_eq_getElem?_getD, List.getElem?_eq_getElem hlt]
      exact List.getElem_mem hlt
    have hstep : za3 RR [zcC l i] H =
        (if ((Utf8.decode (ba l) i).1 : Int) = 95 then some (.ret, [badN], H) else if ((Utf8.decode (ba l) i).1 : Int) = 43 then some (.ret, [badN], H) else if ((Utf8.decode (ba l) i).1 : Int) = 45 then some (.ret, [badN], H) else some (.next, [zcC l (i + (Utf8.decode (ba l) i).2)], H)) := by
      show br (Nat.blt i (ba l).size) (pBin PP .eql T.int32 (.int .i32 (Utf8.decode (ba l) i).1) (.int .i32 95) fun v13 => zab v13 fun b14 => br b14 (some (Ctl.ret, [(.tuple #[(.int .u64 0), (.int .i64 10)])], H))
        (pBin PP .eql T.int32 (.int .i32 (Utf8.decode (ba l) i).1) (.int .i32 43) fun v15 => zab v15 fun b16 => br b16 (some (Ctl.ret, [(.tuple #[(.int .u64 0), (.int .i64 10)])], H))
        (pBin PP .eql T.int32 (.int .i32 (Utf8.decode (ba l) i).1) (.int .i32 45) fun v17 => zab v17 fun b18 => br b18 (some (Ctl.ret, [(.tuple #[(.int .u64 0), (.int .i64 10)])], H))
        (some (Ctl.next, [zcC l (i + (Utf8.decode (ba l) i).2)], H))))) _ = _
      rw [hb]
      simp only [zaX, zac, s_br, decide_eq_true_eq, if_true]
      rfl
    rw [zam, hstep]
    by_cases h1 : ((Utf8.decode (ba l) i).1 : Int) = 95
    · right; rw [if_pos h1]; exact ⟨rfl, _, hmem, .inl (zkW l i hlt (c := 95) (by decide) h1)⟩
    · rw [if_neg h1]
      by_cases h2 : ((Utf8.decode (ba l) i).1 : Int) = 43
      · right; rw [if_pos h2]; exact ⟨rfl, _, hmem, .inr (.inl (zkW l i hlt (c := 43) (by decide) h2))⟩
      · rw [if_neg h2]
        by_cases h3 : ((Utf8.decode (ba l) i).1 : Int) = 45
        · right; rw [if_pos h3]; exact ⟨rfl, _, hmem, .inr (.inr (zkW l i hlt (c := 45) (by decide) h3))⟩
        · rw [if_neg h3]
          exact ih (l.length - (i + (Utf8.decode (ba l) i).2)) (by omega) (i + (Utf8.decode (ba l) i).2) rfl d2
theorem numP_eq (l : List UInt8) : numP l = if l.take 2 = [48, 120] then numB 16 (l.drop 2) else numB 10 l := by
  unfold numP numB
  match l with
  | [] => rfl
  | [a] => simp
  | a :: b :: r =>
    simp only [List.getElem?_cons_zero, List.getElem?_cons_succ, List.take_succ_cons, List.take_zero, qd1, qd0, List.length_cons, Option.some.injEq, List.cons.injEq, and_true]
    by_cases h : a = 48 ∧ b = 120
    · rw [if_pos h, if_pos h]
      by_cases hr : r = []
      · subst hr; rfl
      · rw [if_neg hr, if_neg (fun e => hr (List.length_eq_zero_iff.1 (by omega)))]
    · rw [if_neg h, if_neg h, if_neg (by omega), if_neg (by simp)]
theorem zlS (l : List UInt8) (hl : l.length ≤ 2 ^ 40) (H : Hp) (hL : Laid H) : ∃ H', RR F.a13 [str l] H = some (numV (numP l), H') ∧ Frm (fun _ => False) H H' := by
  have hrun := (ziY E0 rfl (str l) H)
  rw [zjb, zaj (c_cutp l H)] at hrun
  have tail : ∀ (d : List UInt8) (base : Nat), (base = 10 ∨ base = 16) → d.length ≤ 2 ^ 40 → ∃ H', (zh7 (str d) fun s10 =>
      zat (zaE (za3 RR) [(.tuple #[.string s10, .int .i64 (0 : Nat)])] H) fun q19 l20 H21 => zaC q19 none
      (fun i22 => zax i22 0 (
      zaf RR F.a38 [str d, (.int .i64 (base : Int)), (.int .i64 64)] H21 fun r23 H24 =>
      zag r23 0 fun v25 =>
      zag r23 1 fun v26 =>
      zd3 PP .neq T.error v26 fun v27 =>
      zab v27 fun b28 => br b28
      (some ((.tuple #[(.int .u64 0), (.int .i64 10)]), H24))
      (some ((.tuple #[v25, (.int .i64 0)]), H24))) (
      none))
      (some ((l20.headD undef), H21))) = some (numV (numB base d), H') ∧ Frm (fun _ => False) H H' := by
    intro d base hb hd
    have e : ∀ (k : ByteArray → Option (Value × Hp)), zh7 (str d) k = k (ba d) := fun k => rfl
    rw [e]
    rcases sign_loop d hd H d.length 0 rfl (Nat.zero_le _) with h | ⟨h, b, hm, hs⟩
    · have h : zaE (za3 RR) [(.tuple #[.string (ba d), .int .i64 (0 : Nat)])] H = _ := h
      obtain ⟨r, H', h1, h2, h3⟩ := c_parse d hd base hb H hL
      refine ⟨H', ?_, h2⟩
      rw [h, zan, zbe, zaO, zaj h1]
      cases hn : numB base d with
      | some x =>
        rw [hn] at h3
        subst h3
        rfl
      | none =>
        rw [hn] at h3
        obtain ⟨u, t, v, rfl⟩ := h3
        rfl
    · have h : zaE (za3 RR) [(.tuple #[.string (ba d), .int .i64 (0 : Nat)])] H = _ := h
      refine ⟨H, ?_, Frm.refl _ _⟩
      rw [h, zan, zbx]
      have : numB base d = none := by
        unfold numB
        rw [if_neg (fun e => by subst e; cases hm)]
        exact zly base d 0 ⟨b, hm, sign_bad hb hs⟩
      rw [this]
      rfl
  rw [numP_eq]
  by_cases h : l.take 2 = [48, 120]
  · obtain ⟨H', h1, h2⟩ := tail (l.drop 2) 16 (.inr rfl) (by rw [List.length_drop]; omega)
    refine ⟨H', hrun.trans ?_, h2⟩
    rw [if_pos h, if_pos h, x01]
    exact h1
  · obtain ⟨H', h1, h2⟩ := tail l 10 (.inl rfl) hl
    refine ⟨H', hrun.trans ?_, h2⟩
    rw [if_neg h, if_neg h, x01]
    exact h1
end Go.AM
namespace Go.AM
open Go
theorem zbq {h : zae} {g : FuncId} {args : List Value} {H : Hp} {v : Value} {H' : Hp} (e : h g args H = some (W1 v, H')) {α : Type} (kp k : Value → Hp → Option α) : za4 h g args H kp k = k v H' := by
  unfold za4; rw [e]; rfl
theorem zbr {h : zae} {g : FuncId} {args : List Value} {H : Hp} {v : Value} {H' : Hp} (e : h g args H = some (W0 v, H')) {α : Type} (kp k : Value → Hp → Option α) : za4 h g args H kp k = kp v H' := by
  unfold za4; rw [e]; rfl
theorem s_callT {h : zae} {g : FuncId} {args : List Value} {H : Hp} {v : Value} {H' : Hp} (e : h g args H = some (W1 v, H')) {α : Type} (k : Value → Hp → Option α) : zd4 h g args H k = k v H' := by
  unfold zd4; rw [e]; rfl
structure RdS (H : Hp) (p : Nat) (sp wv tv : Value) (ws : List (List UInt8)) : Prop where
  rd : H.get p = some (.cells [sp, wv, tv] true)
  wd : Wds H wv ws
  wp : ¬ Id wv p
  pl : p < H.next
  sh : ∀ w ∈ ws, w.length ≤ 2 ^ 40
theorem RdS.keep {H H' : Hp} {p : Nat} {sp wv tv : Value} {ws : List (List UInt8)} {M : Nat → Prop} (h : RdS H p sp wv tv ws) (k : Frm M H H') (hp : ¬ M p) (hw : ∀ j, Id wv j → ¬ M j) : RdS H' p sp wv tv ws :=
  ⟨by rw [k.same p h.pl hp]; exact h.rd, h.wd.keep k hw, h.wp, Nat.lt_of_lt_of_le h.pl k.next, h.sh⟩
theorem RdS.next {H : Hp} {p : Nat} {sp wv tv : Value} {w : List UInt8} {ws : List (List UInt8)} (h : RdS H p sp wv tv (w :: ws)) :
    ∃ H' wv', RR F.a3 [.pointer (some ⟨p, 0, none⟩)] H = some (W1 (str w), H') ∧ RdS H' p sp wv' tv ws ∧ (∀ j, Id wv' j → Id wv j) ∧ Frm (· = p) H H' := by
  obtain ⟨H', wv', h1, h2, h3, h4, h5, h6⟩ := next_some h.rd h.wd h.wp
  exact ⟨H', wv', h1, ⟨h2, h3, fun q => h.wp (h4 p q), by rw [h6]; exact h.pl, fun x hx => h.sh x (List.mem_cons_of_mem _ hx)⟩, h4, h5⟩
theorem RdS.stop {H : Hp} {p : Nat} {sp wv tv : Value} (h : RdS H p sp wv tv []) : RR F.a3 [.pointer (some ⟨p, 0, none⟩)] H = some (W0 (zbK 3), H) := next_none h.rd h.wd
def numF (ws : List (List UInt8)) : Option Int := match ws with
  | [] => none
  | w :: _ => if zaz w < 0 then none else some (zaz w)
def RdA (H : Hp) (p : Nat) (sp wv tv : Value) (ws : List (List UInt8)) (f : FuncId) (r : Option Int) : Prop :=
  match r with
  | none => ∃ H', RR f [.pointer (some ⟨p, 0, none⟩)] H = some (W0 (zbK 3), H') ∧ Frm (· = p) H H'
  | some v => ∃ H' wv', RR f [.pointer (some ⟨p, 0, none⟩)] H = some (W1 (.int .i64 v), H') ∧ RdS H' p sp wv' tv ws.tail ∧ (∀ j, Id wv' j → Id wv j) ∧ Frm (· = p) H H'
theorem zdF (w : List UInt8) : zaz w = match numP w with | some x => if x < 2147483648 then (x : Int) else -1 | none => -1 := rfl
theorem RdS.number {H : Hp} {p : Nat} {sp wv tv : Value} {ws : List (List UInt8)} (h : RdS H p sp wv tv ws) (hL : Laid H) (hp : PP.globals.size ≤ p) : RdA H p sp wv tv ws F.a2 (numF ws) := by
  have hrun := zeL E0 rfl (.pointer (some ⟨p, 0, none⟩)) H
  unfold zcG at hrun
  cases ws with
  | nil =>
    rw [zbr h.stop] at hrun
    exact ⟨H, hrun, Frm.refl _ _⟩
  | cons w ws =>
    obtain ⟨H1, wv', h1, h2, h3, h4⟩ := h.next
    have hL1 : Laid H1 := hL.keep h4 fun j q => by rw [q]; exact hp
    obtain ⟨H2, g1, g2⟩ := zlS w (h.sh w (List.mem_cons_self ..)) H1 hL1
    have h5 : RdS H2 p sp wv' tv ws := h2.keep g2 (fun q => q) fun _ _ q => q
    have hf : Frm (· = p) H H2 := h4.trans (g2.mono fun j q => q.elim) fun j q => .inl q
    rw [zbq h1, zaj g1] at hrun
    unfold numF
    dsimp only
    cases hn : numP w with
    | none =>
      rw [hn] at hrun
      have hs : zaz w = -1 := by rw [zdF, hn]
      rw [hs, if_pos (by decide)]
      refine ⟨H2, hrun.trans ?_, hf⟩
      have e0 : ∀ {α : Type} (k : Value → Option α), zag (numV none) 0 k = k (.int .u64 0) := fun k => rfl
      have e1 : ∀ {α : Type} (k : Value → Option α), zag (numV none) 1 k = k (.int .i64 10) := fun k => rfl
      simp only [e0, e1, zbb, zac, s_br, zbG, show ((10 : Int) ≠ 0) from by decide, decide_true, if_true, ne_eq, not_false_eq_true]
    | some x =>
      rw [hn] at hrun
      have e0 : ∀ {α : Type} (k : Value → Option α), zag (numV (some x)) 0 k = k (.int .u64 (x : Int)) := fun k => rfl
      have e1 : ∀ {α : Type} (k : Value → Option α), zag (numV (some x)) 1 k = k (.int .i64 0) := fun k => rfl
      have hz : ¬ ((0 : Int) ≠ 0) := by decide
      by_cases hx : x < 2147483648
      · have hs : zaz w = (x : Int) := by rw [zdF, hn]; exact if_pos hx
        rw [hs, if_neg (by omega)]
        have hx' : ¬ ((x : Int) ≥ 2147483648) := by omega
        have hc : ∀ {α : Type} (k : Value → Option α), zaw .i64 (.int .u64 (x : Int)) k = k (.int .i64 (x : Int)) := fun k => by
          show k (.int .i64 (IntKind.i64.wrap (x : Int))) = _
          rw [w64 (by omega) (by omega)]
        refine ⟨H2, wv', hrun.trans ?_, h5, h3, hf⟩
        simp only [e0, e1, zbb, zac, s_br, hz, decide_false, Bool.false_eq_true, if_false, zbp, hx', hc]
      · have hs : zaz w = -1 := by rw [zdF, hn]; exact if_neg hx
        rw [hs, if_pos (by decide)]
        have hx' : ((x : Int) ≥ 2147483648) := by omega
        refine ⟨H2, hrun.trans ?_, hf⟩
        simp only [e0, e1, zbb, zac, s_br, hz, decide_false, decide_true, Bool.false_eq_true, if_false, if_true, zbp, hx', zbG]
theorem zg3 (w : List UInt8) : zaz w = -1 ∨ (0 ≤ zaz w ∧ zaz w < 2147483648) := by
  rw [zdF]
  cases numP w with
  | none => exact .inl rfl
  | some x =>
    dsimp only
    split
    · right; omega
    · exact .inl rfl
theorem numF_bd {ws : List (List UInt8)} {v : Int} (h : numF ws = some v) : 0 ≤ v ∧ v < 2147483648 := by
  cases ws with
  | nil => cases h
  | cons w ws =>
    unfold numF at h
    dsimp only at h
    split at h
    · cases h
    · cases h
      have := zg3 w
      omega
def zi0 (ts : List Int) (ws : List (List UInt8)) : Option Int := match numF ws with
  | none => none
  | some v => if 1 ≤ v ∧ v ≤ ts.length then some (ts.getD (v - 1).toNat 0) else none
def i64s (l : List Int) : List Value := l.map fun z => Value.int .i64 z
theorem RdS.part {H : Hp} {p : Nat} {sp wv tv : Value} {ws : List (List UInt8)} {ts : List Int} (h : RdS H p sp wv tv ws) (hL : Laid H) (hp : PP.globals.size ≤ p) (ht : Vec H 1 tv ts.length (i64s ts)) (htp : ¬ Id tv p) : RdA H p sp wv tv ws F.a45 (zi0 ts ws) := by
  have hrun := zfK E0 rfl (.pointer (some ⟨p, 0, none⟩)) H
  unfold zdp at hrun
  have hn := h.number hL hp
  unfold zi0
  cases hf : numF ws with
  | none =>
    rw [hf] at hn
    obtain ⟨H', h1, h2⟩ := hn
    rw [zbr h1] at hrun
    exact ⟨H', hrun, h2⟩
  | some v =>
    rw [hf] at hn
    obtain ⟨H', wv', h1, h2, h3, h4⟩ := hn
    have hb := numF_bd hf
    rw [zbq h1] at hrun
    have ht' : Vec H' 1 tv ts.length (i64s ts) := ht.keep h4 fun j hj q => htp (by rw [q] at hj; exact hj)
    have hl := fun (α : Type) (k : Value → Option α) => zba h2.rd (0 + 2) tv rfl k
    dsimp only
    by_cases hv : 1 ≤ v ∧ v ≤ ts.length
    · rw [if_pos hv]
      have e1 : ¬ (v < 1) := by omega
      have e2 : ¬ (v > (ts.length : Int)) := by omega
      have e3 : IntKind.i64.wrap (v - 1) = (((v - 1).toNat : Nat) : Int) := by rw [w64 (by omega) (by omega)]; omega
      have hi : (v - 1).toNat < ts.length := by omega
      obtain ⟨y, hy, ⟨rest, hg⟩, hix⟩ := ht'.ix hi
      refine ⟨H', wv', hrun.trans ?_, h2, h3, h4⟩
      have hld := fun (α : Type) (k : Value → Option α) => zba hg ((v - 1).toNat * 1) (.int .i64 (ts.getD (v - 1).toNat 0)) (by
        rw [Nat.mul_one, List.getElem?_append_left (by simpa [i64s] using hi)]
        rw [i64s, List.getElem?_map, List.getD_eq_getElem?_getD, List.getElem?_eq_getElem hi]; rfl) k
      simp only [zaP, zac, s_br, e1, decide_false, Bool.false_eq_true, if_false, zbt, zaL, hl, ht'.len, zbi, e2, zcY, e3, hix, hld]
    · rw [if_neg hv]
      refine ⟨H', hrun.trans ?_, h4⟩
      by_cases e1 : v < 1
      · simp only [zaP, zac, s_br, e1, decide_true, if_true, zbG]
      · have e2 : (v > (ts.length : Int)) := by omega
        simp only [zaP, zac, s_br, e1, decide_false, decide_true, Bool.false_eq_true, if_false, if_true, zbt, zaL, hl, ht'.len, zbi, e2, zbG]
end Go.AM
namespace Go.AM
open Go
section
variable {α : Type}
end
end Go.AM
namespace Go.AM
open Go
end Go.AM
namespace Go.AM
open Go
theorem bld {α : Type} {P : Program} {t : TypeId} {l : List (Nat × Value)} {v : Value} (h : ze7 P t l = some v) (k : Value → Option α) : zaJ P t l k = k v := by unfold zaJ; rw [h]
section
variable {α : Type} (k : Value → Option α)
theorem b0 (o : Int) : zaJ PP T.api_Node [(0, .int .i64 o)] k = k (Nd.val ⟨o, 0, 0, 0, 0, 0, ⟨#[]⟩⟩) := bld (by kernel_rfl) k
end
abbrev Res := Int × Int × List Nd × List (ByteArray × Int)
def Does (H : Hp) (p : Nat) (lim : Int) (sl : Value) (f g : Nat) (fn : FuncId) (args : List Value) (r : Res) : Prop :=
  ∃ H' sl', RR fn (.pointer (some ⟨p, 0, none⟩) :: args) H = some (.tuple #[.int .i64 r.1, .int .i64 r.2.1], H') ∧ MkOk H p lim sl f g r H' sl'
structure zh1 (L : List Nd) : Prop where
  w : ∀ m ∈ L, 0 ≤ m.w ∧ m.w ≤ 64
  l : (L.length + 1) * 64 ≤ 2 ^ 47
theorem zh1.len {L : List Nd} (h : zh1 L) : (L.length : Int) ≤ 4611686018427387904 := by have := h.l; omega
section
variable {H : Hp} {p f g : Nat} {lim : Int} {L : List Nd} {K : List (ByteArray × Int)} {sl : Value} (h : StF H p lim L K sl f g) (hR : zh1 L)
include h hR
theorem d22 (n : Nd) (hn : 0 ≤ n.num ∧ n.num < 18446744073709551616) : Does H p lim sl f g F.a11 [n.val] (mkR lim L K n) := c22 h n hn hR.w hR.l
theorem d31 (n : Nd) (hn : 0 ≤ n.num ∧ n.num < 18446744073709551616) : Does H p lim sl f g F.a9 [n.val] (mkR lim L K n) := c31 h n hn hR.w hR.l
end
end Go.AM
namespace Go.AM
open Go
theorem spl7 {α : Type} (n : Nd) (k : List Value → Option α) : zaG 7 [.int .i64 0, .int .i64 0, .int .i64 0, .int .i64 0, .int .i64 0, .int .u64 0, .string ⟨#[]⟩] 0 n.val k = k n.cells := by
  have : za8 7 [.int .i64 0, .int .i64 0, .int .i64 0, .int .i64 0, .int .i64 0, .int .u64 0, .string ⟨#[]⟩] 0 n.val = some n.cells := by kernel_rfl
  unfold zaG; rw [this]
section
variable {H : Hp} {p f g : Nat} {lim : Int} {L : List Nd} {K : List (ByteArray × Int)} {sl : Value} (h : StF H p lim L K sl f g) (hR : zh1 L)
include h hR
end
end Go.AM
namespace Go.AM
open Go
structure OpA where
  kind : Int
  o : Int
  a : Int
  b : Int
  c : Int
  w : Int
  t : Bool
  x : Int
  name : ByteArray
  n : Nd
section
variable {α : Type} (o : OpA) (k : Value → Option α)
end
section
variable {H : Hp} {p f g : Nat} {lim : Int} {L : List Nd} {K : List (ByteArray × Int)} {sl : Value} (h : StF H p lim L K sl f g) (hR : zh1 L)
include h hR
end
theorem new61 {α : Type} (lim : Int) (v w : Nat) (k : Value → Option α) : zaJ PP T.term_Store [(0, .int .i64 lim), (2, .map (some v)), (3, .map (some w))] k = k (.agg #[.int .i64 lim, .slice none 0 0, .map (some v), .map (some w)]) := bld (by kernel_rfl) k
theorem new33 {α : Type} (lim : Int) (v w : Nat) (k : Value → Option α) : zaJ PP T.cadenceref07_Store [(0, .int .i64 lim), (2, .map (some v)), (3, .map (some w))] k = k (.agg #[.int .i64 lim, .slice none 0 0, .map (some v), .map (some w)]) := bld (by kernel_rfl) k
def newH (lim : Int) (H : Hp) : Hp := ((H.new (.map [])).new (.map [])).new (.cells [.int .i64 lim, .slice none 0 0, .map (some H.next), .map (some (H.next + 1))] true)
theorem newH_st (lim : Int) (H : Hp) : StF (newH lim H) (H.next + 2) lim [] [] (.slice none 0 0) H.next (H.next + 1) := by
  refine ⟨⟨?_, .inl ⟨rfl, rfl⟩⟩, ?_, ?_, by omega, by omega, by omega, ?_, ?_, ?_, fun i hi => by cases hi⟩
  · exact if_pos rfl
  · unfold newH; rw [zfX, if_neg (by show ¬ H.next = H.next + 1 + 1; omega), zfX, if_neg (by show ¬ H.next = H.next + 1; omega), zfX, if_pos rfl]; rfl
  · unfold newH; rw [zfX, if_neg (by show ¬ H.next + 1 = H.next + 1 + 1; omega), zfX]; exact if_pos rfl
  · show H.next + 2 < H.next + 1 + 1 + 1; omega
  · show H.next < H.next + 1 + 1 + 1; omega
  · show H.next + 1 < H.next + 1 + 1 + 1; omega
theorem zi6 (lim : Int) (H : Hp) (j : Nat) (hj : j < H.next) : (newH lim H).get j = H.get j := by
  unfold newH
  rw [zfX, if_neg (by show ¬ j = H.next + 1 + 1; omega), zfX, if_neg (by show ¬ j = H.next + 1; omega), zfX, if_neg (by omega)]
theorem zhz (lim : Int) (H : Hp) : (newH lim H).next = H.next + 3 := rfl
theorem c16 (lim : Int) (H : Hp) : RR F.a29 [.int .i64 lim] H = if lim < 0 then some (.tuple #[.pointer none, .int .i64 1], H) else some (.tuple #[.pointer (some ⟨H.next + 2, 0, none⟩), .int .i64 0], newH lim H) := by
  refine (zl5 E0 rfl _ _).trans ?_
  unfold zit
  simp only [zaP, zac, s_br, decide_eq_true_eq, zdz, zdm, new61]
  rfl
theorem c17 (lim : Int) (H : Hp) : RR F.a20 [.int .i64 lim] H = if lim < 0 then some (.tuple #[.pointer none, .int .i64 1], H) else some (.tuple #[.pointer (some ⟨H.next + 2, 0, none⟩), .int .i64 0], newH lim H) := by
  refine (zfN E0 rfl _ _).trans ?_
  unfold zds
  simp only [zaP, zac, s_br, decide_eq_true_eq, zdz, zdm, new33]
  rfl
end Go.AM
namespace Go.AM
open Go
def Foot (p f g : Nat) (sl : Value) (i : Nat) : Prop := i = p ∨ i = f ∨ i = g ∨ slId sl = some i
theorem StF.foot_lt {H : Hp} {p f g : Nat} {lim : Int} {L : List Nd} {K : List (ByteArray × Int)} {sl : Value} (h : StF H p lim L K sl f g) {i : Nat} (hi : Foot p f g sl i) : i < H.next := by
  rcases hi with rfl | rfl | rfl | hi
  · exact h.lp
  · exact h.lf
  · exact h.lg
  · exact (h.sa i hi).2.2.2
theorem StF.keep {H H' : Hp} {p f g : Nat} {lim : Int} {L : List Nd} {K : List (ByteArray × Int)} {sl : Value} (h : StF H p lim L K sl f g) (hg : ∀ i, Foot p f g sl i → H'.get i = H.get i) (hn : H.next ≤ H'.next) : StF H' p lim L K sl f g := by
  refine ⟨⟨?_, ?_⟩, ?_, ?_, h.pf, h.pg, h.fg, Nat.lt_of_lt_of_le h.lp hn, Nat.lt_of_lt_of_le h.lf hn, Nat.lt_of_lt_of_le h.lg hn, fun i hi => ?_⟩
  · rw [hg p (.inl rfl)]; exact h.st.obj
  · rcases h.st.all with e | ⟨j, e, hj⟩
    · exact .inl e
    · exact .inr ⟨j, e, by rw [hg j (.inr (.inr (.inr (by rw [e]; rfl))))]; exact hj⟩
  · rw [hg f (.inr (.inl rfl))]; exact h.fm
  · rw [hg g (.inr (.inr (.inl rfl)))]; exact h.gm
  · obtain ⟨a, b, c, d⟩ := h.sa i hi
    exact ⟨a, b, c, Nat.lt_of_lt_of_le d hn⟩
end Go.AM
namespace Go.AM
open Go
structure Inv (lim : Int) (L : List Nd) : Prop where
  w : ∀ m ∈ L, 0 ≤ m.w ∧ m.w ≤ 64
  parts : ∀ (i : Nat) m, L[i]? = some m → m.a ≤ i ∧ m.b ≤ i ∧ m.c ≤ i
  nod : ∀ (i j : Nat) m, L[i]? = some m → L[j]? = some m → i = j
  lim : lim > 0 → (L.length : Int) ≤ lim
theorem Inv.nil (lim : Int) : Inv lim [] := ⟨fun m h => (by cases h), fun i m h => (by cases h), fun i j m h => (by cases h), fun h => by simp; omega⟩
theorem zhy (n m : Nd) : zdJ n m = true ↔ n = m := by
  cases n; cases m
  unfold zdJ
  simp [ba_eq]
theorem zgr (n : Nd) : ∀ (L : List Nd) (i q : Nat), zbj n i L = some q → i ≤ q ∧ L[q - i]? = some n
  | [], i, q, h => by cases h
  | m :: r, i, q, h => by
    unfold zbj at h
    split at h
    · rename_i e
      cases h
      have := (zhy n m).1 e
      subst this
      exact ⟨Nat.le_refl _, by simp⟩
    · obtain ⟨h1, h2⟩ := zgr n r (i + 1) q h
      refine ⟨by omega, ?_⟩
      rw [show q - i = (q - (i + 1)) + 1 by omega]
      simpa using h2
theorem zem (n : Nd) : ∀ (L : List Nd) (i : Nat), zbj n i L = none → ∀ (j : Nat), L[j]? ≠ some n
  | [], i, h, j, e => by cases e
  | m :: r, i, h, j, e => by
    unfold zbj at h
    split at h
    · cases h
    · rename_i ne
      cases j with
      | zero => simp at e; subst e; exact ne ((zhy _ _).2 rfl)
      | succ j => exact zem n r (i + 1) h j (by simpa using e)
theorem zjH (op : Int) : zak op = 0 ∨ zak op = 1 ∨ zak op = 2 ∨ zak op = 3 := by
  unfold zak
  split
  · exact .inl rfl
  · split
    · exact .inr (.inl rfl)
    · split
      · exact .inr (.inr (.inr rfl))
      · exact .inr (.inr (.inl rfl))
theorem parts_ok {L : List Nd} {n : Nd} (h1 : ¬ zbh L n = true) (h2 : ¬ zeZ (zak n.op) n = true) :
    (isT L n.a = true ∨ n.a = 0) ∧ (isT L n.b = true ∨ n.b = 0) ∧ (isT L n.c = true ∨ n.c = 0) ∧ (zak n.op ≥ 1 → isT L n.a = true) ∧ (zak n.op ≥ 2 → isT L n.b = true) ∧ (zak n.op ≥ 3 → isT L n.c = true) := by
  unfold zbh at h1
  unfold zeZ at h2
  simp only [Bool.or_eq_true, Bool.and_eq_true, decide_eq_true_eq, Bool.not_eq_true', not_or, not_and, Bool.not_eq_false] at h1 h2
  have ha : zak n.op ≥ 1 → isT L n.a = true := h1.1.1
  have hb : zak n.op ≥ 2 → isT L n.b = true := h1.1.2
  have hc : zak n.op ≥ 3 → isT L n.c = true := h1.2
  refine ⟨?_, ?_, ?_, ha, hb, hc⟩
  · rcases Int.lt_or_le (zak n.op) 1 with q | q
    · right; have := h2.1.1.1.1 q; omega
    · exact .inl (ha q)
  · rcases Int.lt_or_le (zak n.op) 2 with q | q
    · right; have := h2.1.1.1.2 q; omega
    · exact .inl (hb q)
  · rcases Int.lt_or_le (zak n.op) 3 with q | q
    · right; have := h2.1.1.2 q; omega
    · exact .inl (hc q)
structure Right (L : List Nd) (K : List (ByteArray × Int)) (n : Nd) : Prop where
  op : ¬ (n.op < 1 ∨ n.op > 33)
  w : ¬ (n.w < 0 ∨ n.w > 64)
  pt : ¬ zbh L n = true
  sp : ¬ zeZ (zak n.op) n = true
  so : ¬ zdS n.op (wT L (-1) n.a) (wT L (-1) n.b) (wT L (-1) n.c) = false
  wi : ¬ zee n (wT L (-1) n.a) (wT L (-1) n.b) = false
  nm : ¬ (n.op = 4 ∧ zbN K n = true)
theorem right_iff {L : List Nd} {K : List (ByteArray × Int)} {n : Nd} : zbT L K n = 0 ↔ Right L K n := by
  constructor
  · intro h
    unfold zbT at h
    split at h
    · cases h
    · split at h
      · cases h
      · split at h
        · cases h
        · split at h
          · cases h
          · split at h
            · cases h
            · split at h
              · cases h
              · split at h
                · cases h
                · constructor <;> assumption
  · rintro ⟨h1, h2, h3, h4, h5, h6, h7⟩
    unfold zbT
    rw [if_neg h1, if_neg h2, if_neg h3, if_neg h4, if_neg h5, if_neg h6, if_neg h7]
theorem mk_no {lim : Int} {L : List Nd} {K : List (ByteArray × Int)} {n : Nd} (h : (mkR lim L K n).2.1 ≠ 0) : mkR lim L K n = (0, (mkR lim L K n).2.1, L, K) := by
  unfold mkR at h ⊢
  by_cases he : zbT L K n ≠ 0
  · rw [if_pos he]
  · rw [if_neg he] at h ⊢
    cases hq : zbj n 0 L with
    | some q => rw [hq] at h; exact absurd rfl h
    | none =>
      rw [hq] at h
      dsimp only at h ⊢
      split at h
      · rename_i g; rw [if_pos g]
      · exact absurd rfl h
theorem zlB {lim : Int} {L : List Nd} {K : List (ByteArray × Int)} {n : Nd} (h : (mkR lim L K n).2.1 = 0) : Right L K n ∧
    ((∃ q, zbj n 0 L = some q ∧ mkR lim L K n = (((q + 1 : Nat) : Int), 0, L, K)) ∨
     (zbj n 0 L = none ∧ ¬ (lim > 0 ∧ (L.length : Int) ≥ lim) ∧ mkR lim L K n = (((L.length + 1 : Nat) : Int), 0, L ++ [n], if n.op = 4 then zfo n.name n.w K else K))) := by
  unfold mkR at h ⊢
  by_cases he : zbT L K n ≠ 0
  · rw [if_pos he] at h; exact absurd h he
  · rw [if_neg he] at h ⊢
    refine ⟨right_iff.1 (by omega), ?_⟩
    cases hq : zbj n 0 L with
    | some q => exact .inl ⟨q, rfl, rfl⟩
    | none =>
      rw [hq] at h
      dsimp only at h ⊢
      split at h
      · cases h
      · rename_i g; rw [if_neg g]; exact .inr ⟨rfl, g, rfl⟩
theorem mk_bd {lim : Int} {L : List Nd} {K : List (ByteArray × Int)} {n : Nd} (h : (mkR lim L K n).2.1 = 0) : 1 ≤ (mkR lim L K n).1 ∧ (mkR lim L K n).1 ≤ ((mkR lim L K n).2.2.1.length : Int) := by
  obtain ⟨hr, ⟨q, hq, e⟩ | ⟨hq, _, e⟩⟩ := zlB h
  · rw [e]
    have := (List.getElem?_eq_some_iff.1 (zgr n L 0 q hq).2).1
    exact ⟨by show (1 : Int) ≤ ((q + 1 : Nat) : Int); omega, by show ((q + 1 : Nat) : Int) ≤ (L.length : Int); omega⟩
  · rw [e]; exact ⟨by show (1 : Int) ≤ ((L.length + 1 : Nat) : Int); omega, by simp⟩
theorem mk_inv {lim : Int} {L : List Nd} {K : List (ByteArray × Int)} {n : Nd} (h : Inv lim L) : Inv lim (mkR lim L K n).2.2.1 := by
  by_cases h0 : (mkR lim L K n).2.1 = 0
  · obtain ⟨hr, ⟨q, hq, e⟩ | ⟨hq, hl, e⟩⟩ := zlB h0
    · rw [e]; exact h
    · rw [e]
      obtain ⟨ga, gb, gc, _, _, _⟩ := parts_ok hr.pt hr.sp
      have bd : ∀ x : Int, isT L x = true ∨ x = 0 → x ≤ (L.length : Int) := fun x hx => by
        rcases hx with hx | hx
        · exact (zhH.1 hx).2
        · omega
      refine ⟨fun m hm => ?_, fun i m hm => ?_, fun i j m hi hj => ?_, fun hp => ?_⟩
      · rcases List.mem_append.1 hm with hm | hm
        · exact h.w m hm
        · rw [List.mem_singleton] at hm
          subst hm
          have := hr.w
          omega
      · rw [List.getElem?_append] at hm
        split at hm
        · exact h.parts i m hm
        · rename_i ge
          have : i = L.length := by
            have := (List.getElem?_eq_some_iff.1 hm).1
            simp at this; omega
          subst this
          simp at hm
          subst hm
          exact ⟨bd _ ga, bd _ gb, bd _ gc⟩
      · have key : ∀ i : Nat, (L ++ [n])[i]? = some m → (i < L.length ∧ L[i]? = some m) ∨ (i = L.length ∧ m = n) := fun i hi => by
          rw [List.getElem?_append] at hi
          split at hi
          · rename_i lt; exact .inl ⟨lt, hi⟩
          · rename_i ge
            have : i = L.length := by
              have := (List.getElem?_eq_some_iff.1 hi).1
              simp at this; omega
            subst this
            simp at hi
            exact .inr ⟨rfl, hi.symm⟩
        rcases key i hi with ⟨a1, a2⟩ | ⟨a1, a2⟩ <;> rcases key j hj with ⟨b1, b2⟩ | ⟨b1, b2⟩
        · exact h.nod i j m a2 b2
        · rw [b2] at a2; exact absurd a2 (zem n L 0 hq i)
        · rw [a2] at b2; exact absurd b2 (zem n L 0 hq j)
        · omega
      · have : ¬ (L.length : Int) ≥ lim := fun q => hl ⟨hp, q⟩
        simp; omega
  · rw [mk_no h0]; exact h
end Go.AM
namespace Go.AM
open Go
section
variable {lim : Int} {L : List Nd} {K : List (ByteArray × Int)}
end
end Go.AM
namespace Go.AM
open Go
def kidsN (n : Nd) : List Nat := ([n.a, n.b, n.c].take (zak n.op).toNat).map Int.toNat
def kids (L : List Nd) (t : Nat) : List Nat := match L[t - 1]? with
  | some n => kidsN n
  | none => []
structure Dag (L : List Nd) : Prop where
  a : ∀ (i : Nat) m, L[i]? = some m → (zak m.op ≥ 1 ∧ 1 ≤ m.a ∧ m.a ≤ i) ∨ (zak m.op < 1 ∧ m.a = 0)
  b : ∀ (i : Nat) m, L[i]? = some m → (zak m.op ≥ 2 ∧ 1 ≤ m.b ∧ m.b ≤ i) ∨ (zak m.op < 2 ∧ m.b = 0)
  c : ∀ (i : Nat) m, L[i]? = some m → (zak m.op ≥ 3 ∧ 1 ≤ m.c ∧ m.c ≤ i) ∨ (zak m.op < 3 ∧ m.c = 0)
def visit (L : List Nd) : Nat → Nat → List Nat → List Nat
  | 0, _, out => out
  | k + 1, t, out => if t ∈ out then out else (kids L t).foldl (fun o c => visit L k c o) out ++ [t]
def post (L : List Nd) (t : Nat) (out : List Nat) : List Nat := visit L t t out
end Go.AM
namespace Go.AM
open Go
theorem s_pnil {α : Type} {P : Program} (T : TypeId) (a : Addr) (hT : ∃ t, P.underlying T = some (.pointer t)) (k : Value → Option α) : pBin P .eql T (.pointer (some a)) (.pointer none) k = k (.bool false) := by
  obtain ⟨t, ht⟩ := hT
  have : eqT P Op.maxDepth T (.pointer (some a)) (.pointer none) = some false := by
    unfold Op.maxDepth
    simp only [eqT, ht]
  simp only [pBin, binV, eqOp, this]
theorem s_pnil0 {α : Type} {P : Program} (T : TypeId) (hT : ∃ t, P.underlying T = some (.pointer t)) (k : Value → Option α) : pBin P .eql T (.pointer none) (.pointer none) k = k (.bool true) := by
  obtain ⟨t, ht⟩ := hT
  have : eqT P Op.maxDepth T (.pointer none) (.pointer none) = some true := by
    unfold Op.maxDepth
    simp only [eqT, ht]; rfl
  simp only [pBin, binV, eqOp, this]
theorem s_bneq {α : Type} {P : Program} (T : TypeId) (a b : Bool) (hT : P.underlying T = some .bool) (k : Value → Option α) : pBin P .neq T (.bool a) (.bool b) k = k (.bool (!(a == b))) := by
  have : eqT P Op.maxDepth T (.bool a) (.bool b) = some (a == b) := by
    unfold Op.maxDepth
    simp only [eqT, hT]
  simp only [pBin, binV, eqOp, this]
end Go.AM
namespace Go.AM
open Go
theorem und23 : ∃ t, Program.underlying PP T.p_term_Store = some (.pointer t) := ⟨T.term_Store, by kernel_rfl⟩
theorem und24 : ∃ t, Program.underlying PP T.p_cadenceref07_Store = some (.pointer t) := ⟨T.cadenceref07_Store, by kernel_rfl⟩
theorem und4 : Program.underlying PP T.bool = some .bool := by kernel_rfl
theorem ziR {α : Type} (x y : Option α) : br false x y = y := rfl
theorem zkw {α : Type} (x y : Option α) : br true x y = x := rfl
end Go.AM
namespace Go.AM
open Go Go.ChangeShapes Go.WideShapes Go.ChangeAt Go.RowKit
end Go.AM
namespace Go.AM
open Go
theorem zgg {S : List Value → Hp → Option Outc} {H : Hp} (n : Nat) (hs : ∀ i, i < n → S [.int .i64 (i : Int)] H = some (.next, [.int .i64 ((i + 1 : Nat) : Int)], H))
    (he : S [.int .i64 (n : Int)] H = some (.exit 0, [.int .i64 (n : Int)], H)) : ∀ k i, i + k = n → zaE S [.int .i64 (i : Int)] H = some (.exit 0, [.int .i64 (n : Int)], H)
  | 0, i, h => by
    have : i = n := by omega
    subst this
    rw [zam, he]; rfl
  | k + 1, i, h => by
    rw [zam, hs i (by omega)]
    exact zgg n hs he k (i + 1) (by omega)
def noNd : Nd := ⟨0, 0, 0, 0, 0, 0, ⟨#[]⟩⟩
def zlz (L : List Nd) (t : Int) : Nd := if isT L t = true then (L[(t - 1).toNat]?).getD noNd else noNd
theorem bnil {α : Type} (k : Value → Option α) : zaJ PP T.api_Node [] k = k noNd.val := bld (by kernel_rfl) k
theorem ncell7 {α : Type} (n : Nd) (k : Value → Option α) : zad 7 true n.cells 0 k = k n.val := rfl
theorem nodes_at (L : List Nd) : ∀ i n, L[i]? = some n → ((L.flatMap Nd.cells).drop (i * 7)).take 7 = n.cells := by
  induction L with
  | nil => intro i o h; cases h
  | cons a L ih =>
    intro i o h
    have h7 : ∀ n : Nd, n.cells.length = 7 := fun n => rfl
    rw [List.flatMap_cons]
    cases i with
    | zero => cases h; rw [Nat.zero_mul, qd0, List.take_append_of_le_length (by rw [h7]; omega), List.take_of_length_le (by rw [h7]; omega)]
    | succ i =>
      rw [List.drop_append, List.drop_of_length_le (by rw [h7]; omega), h7, List.nil_append, show (i + 1) * 7 - 7 = i * 7 by omega]
      exact ih i o h
theorem ld7 {α : Type} {H : Hp} {L : List Nd} {y : Nat} {b : Bool} (h : H.get y = some (.cells (L.flatMap Nd.cells) b)) {i : Nat} {n : Nd} (ho : L[i]? = some n) (k : Value → Option α) :
    zah 7 true H (.pointer (some ⟨y, i * 7, none⟩)) k = k n.val := by
  have hlt : i < L.length := (List.getElem?_eq_some_iff.1 ho).1
  have h1 : i * 7 + 7 ≤ (L.flatMap Nd.cells).length := by rw [zjd]; omega
  simp only [zah, Hp.rdP, Hp.rd, h, zbM, h1, if_true, nodes_at L i n ho]
  rfl
theorem zmg (n m : Nd) : zdJ n m = true ↔ n = m := by
  cases n; cases m
  unfold zdJ
  simp [ba_eq]
theorem zkL (n : Nd) : zdJ n n = true := (zmg n n).2 rfl
theorem eq36d (n m : Nd) : eqT PP Op.maxDepth T.api_Node n.val m.val =
    zfC (n.op == m.op) (zfC (n.w == m.w) (zfC (n.a == m.a) (zfC (n.b == m.b) (zfC (n.c == m.c) (zfC (n.num == m.num) (zfC (n.name == m.name) (some true))))))) := by
  kernel_rfl
theorem eqOp36 (n m : Nd) : eqOp PP T.api_Node n.val m.val = some (zdJ n m) := by
  have hg : PP.eqGuardType PP.depth T.api_Node = false := by kernel_rfl
  show (match PP.eqGuardType PP.depth T.api_Node with | true => none | false => eqT PP Op.maxDepth T.api_Node n.val m.val) = _
  rw [hg, eq36d]
  unfold zdJ
  cases n.op == m.op <;> cases n.w == m.w <;> cases n.a == m.a <;> cases n.b == m.b <;> cases n.c == m.c <;> cases n.num == m.num <;> cases n.name == m.name <;> rfl
theorem s_neq36 {α : Type} (n m : Nd) (k : Value → Option α) : pBin PP .neq T.api_Node n.val m.val k = k (.bool (!zdJ n m)) := by
  have : binV PP .neq T.api_Node n.val m.val = some (.bool (!zdJ n m)) := by
    show (match eqOp PP T.api_Node n.val m.val with | some b => some (Value.bool !b) | none => none) = _
    rw [eqOp36]
  unfold pBin; rw [this]
theorem zmh {L : List Nd} {i : Nat} (h : i < L.length) : zlz L ((i + 1 : Nat) : Int) = L[i] ∧ isT L ((i + 1 : Nat) : Int) = true := by
  have h1 : isT L ((i + 1 : Nat) : Int) = true := zhH.2 ⟨by omega, by omega⟩
  refine ⟨?_, h1⟩
  unfold zlz
  rw [if_pos h1]
  have : (((i + 1 : Nat) : Int) - 1).toNat = i := by omega
  rw [this]; simp [h]
theorem SlR.ix {H : Hp} {L : List Nd} {sl : Value} (h : SlR H sl L) {i : Nat} (hi : i < L.length) {α : Type} :
    ∃ y, H.get y = some (.cells (L.flatMap Nd.cells) true) ∧ ∀ (k : Value → Option α), pIdx 7 sl (.int .i64 (i : Int)) k = k (.pointer (some ⟨y, i * 7, none⟩)) := by
  rcases h with ⟨rfl, _⟩ | ⟨y, rfl, hy⟩
  · cases hi
  · refine ⟨y, hy, fun k => ?_⟩
    unfold pIdx idxV
    have : (7 : Nat) = 7 ∧ (0 : Int) ≤ (i : Int) ∧ (i : Int) < (L.length : Int) := ⟨rfl, by omega, by omega⟩
    simp only [this, and_self, if_true, Nat.zero_add, Int.toNat_natCast]
theorem s_chkL {α : Type} {H H' : Hp} {sl : Value} {L : List Nd} (h : SlR H sl L) (k : Option α) : zgW .sl sl H' (.int .i64 L.length) k = k := by
  unfold zgW
  refine zgE ?_ k
  rcases h with ⟨rfl, rfl⟩ | ⟨i, rfl, _⟩ <;> rfl
theorem StR.rd1 {H : Hp} {p f g : Nat} {lim : Int} {L : List Nd} {sl : Value} (h : StR H p lim L sl f g) : Hp.rdP H (.pointer (some ⟨p, 1, none⟩)) 1 false = some sl := by
  simp [Hp.rdP, Hp.rd, h.obj, zbM]
end Go.AM
namespace Go.AM
open Go
theorem zfY {a b c i : Nat} (z : Foot a b c (.slice none 0 0) i) : i = a ∨ i = b ∨ i = c := by
  rcases z with z | z | z | z
  · exact .inl z
  · exact .inr (.inl z)
  · exact .inr (.inr z)
  · cases z
end Go.AM
namespace Go.AM
open Go
def ints (l : List Nat) : List Value := l.map fun (t : Nat) => Value.int .i64 (t : Int)
def bools (l : List Bool) : List Value := l.map .bool
def plc (x : Nat × Nat) : List Value := [.int .i64 (x.1 : Int), .int .i64 (x.2 : Int)]
def places (l : List (Nat × Nat)) : List Value := l.flatMap plc
structure PS (H0 H : Hp) (lv : Value) (out : List Nat) (sv : Value) (stk : List (Nat × Nat)) (bv : Value) (seen : List Bool) : Prop where
  next : H0.next ≤ H.next
  old : ∀ j, j < H0.next → H.get j = H0.get j
  l : Vec H 1 lv out.length (ints out)
  s : Vec H 2 sv stk.length (places stk)
  b : Vec H 1 bv seen.length (bools seen)
  al : ∀ j, Id lv j → H0.next ≤ j
  as' : ∀ j, Id sv j → H0.next ≤ j
  ab : ∀ j, Id bv j → H0.next ≤ j
  ls : ∀ j, Id lv j → ¬ Id sv j
  lb : ∀ j, Id lv j → ¬ Id bv j
  sb : ∀ j, Id sv j → ¬ Id bv j
section
variable {H0 H : Hp} {lv sv bv : Value} {out : List Nat} {stk : List (Nat × Nat)} {seen : List Bool} (h : PS H0 H lv out sv stk bv seen)
include h
end
end Go.AM
namespace Go.AM
open Go
section
variable {H0 : Hp} {p f g : Nat} {lim : Int} {L : List Nd} {K : List (ByteArray × Int)} {sl : Value} (hst : StF H0 p lim L K sl f g) (hd : Dag L) (hL : L.length * 64 ≤ 2 ^ 46) (bv : Value)
include hst hd hL
end
end Go.AM
namespace Go.AM
open Go
def zkO (l : List Int) : List Value := l.map fun (t : Int) => Value.int .i64 t
theorem intsI_get {l : List Int} {i : Nat} {t : Int} (h : l[i]? = some t) : (zkO l)[i]? = some (.int .i64 t) := by simp [zkO, h]
theorem Rdb.int {H : Hp} {v : Value} {l : List Int} (h : Rdb H 1 v l.length (zkO l)) {i : Nat} {t : Int} (ht : l[i]? = some t) :
    ∃ y, (∀ (α : Type) (kd : IntKind) (k : Value → Option α), pIdx 1 v (.int kd (i : Int)) k = k (.pointer (some ⟨y, i * 1, none⟩))) ∧ (∀ (α : Type) (k : Value → Option α), zah 1 false H (.pointer (some ⟨y, i * 1, none⟩)) k = k (.int .i64 t)) := by
  obtain ⟨y, hy, ⟨rest, own, hg⟩, hix⟩ := h.ix (List.getElem?_eq_some_iff.1 ht).1
  exact ⟨y, hix, fun α k => ld_cell hg (by rw [Nat.mul_one]; exact intsI_get ht) k⟩
section
variable {H0 : Hp} {p f g : Nat} {lim : Int} {L : List Nd} {K : List (ByteArray × Int)} {sl : Value} (hst : StF H0 p lim L K sl f g) (hd : Dag L) (hL : L.length * 64 ≤ 2 ^ 46) (bv : Value)
  {x : Value} {ns : List Nat} (hx : Rdb H0 1 x ns.length (ints ns)) (hns : ∀ t ∈ ns, 1 ≤ t ∧ t ≤ L.length) (hnl : ns.length ≤ 2 ^ 40)
include hst hd hL hx hns hnl
end
end Go.AM
namespace Go.AM
open Go
section
variable {H0 : Hp} {p f g : Nat} {lim : Int} {L : List Nd} {K : List (ByteArray × Int)} {sl : Value} (hst : StF H0 p lim L K sl f g) (hd : Dag L) (hL : L.length * 64 ≤ 2 ^ 46) (bv : Value)
include hst hd in
end
end Go.AM
namespace Go.AM
open Go
section
variable {H0 : Hp} {p f g : Nat} {lim : Int} {L : List Nd} {K : List (ByteArray × Int)} {sl : Value} (hst : StF H0 p lim L K sl f g) (hd : Dag L) (hL : L.length * 64 ≤ 2 ^ 46) (bv : Value)
include hst hd hL
end
end Go.AM
namespace Go.AM
open Go
section
variable {H0 : Hp} {p f g : Nat} {lim : Int} {L : List Nd} {K : List (ByteArray × Int)} {sl : Value} (hst : StF H0 p lim L K sl f g) (hd : Dag L) (hL : L.length * 64 ≤ 2 ^ 46) (bv : Value)
  {x : Value} {ns : List Nat} (hx : Rdb H0 1 x ns.length (ints ns)) (hns : ∀ t ∈ ns, 1 ≤ t ∧ t ≤ L.length) (hnl : ns.length ≤ 2 ^ 40)
include hst hd hL hx hns hnl
end
end Go.AM
namespace Go.AM
open Go
section
variable {H0 : Hp} {p f g : Nat} {lim : Int} {L : List Nd} {K : List (ByteArray × Int)} {sl : Value} (hst : StF H0 p lim L K sl f g) (hd : Dag L) (hL : L.length * 64 ≤ 2 ^ 46) {x : Value} {rs : List Int} (hx : Rdb H0 1 x rs.length (zkO rs)) (hl : rs.length ≤ 2 ^ 40)
include hst hd hL hx hl
end
end Go.AM
namespace Go.AM
open Go
structure NdTxt (m : Nd) : Prop where
  op : 1 ≤ m.op ∧ m.op ≤ 33
  w : 0 ≤ m.w ∧ m.w ≤ 64
  num : 0 ≤ m.num ∧ m.num < 18446744073709551616
  ext : m.op = 31 → m.num ≤ 64
  name : m.name.data.toList.length ≤ 24
def sp (l : List UInt8) : List UInt8 := 32 :: l
abbrev itoa := Go.Lib.itoa
def fl (op : Int) : List UInt8 := if op ≤ 2 then [] else if op = 3 then [119, 110] else if op = 4 then [115, 119] else if op = 31 then [112, 110, 119] else if op ≥ 32 then [112, 119] else List.replicate (zak op).toNat 112
def act (F : Int → Int) (n : Nd) : List UInt8 → Nat → List UInt8
  | [], _ => []
  | c :: r, k => if c = 112 then sp (itoa (F ([n.a, n.b, n.c].getD k 0))) ++ act F n r (k + 1) else if c = 110 then sp (numT n.num.toNat) ++ act F n r k else if c = 119 then sp (itoa n.w) ++ act F n r k
    else if c = 115 then sp n.name.data.toList ++ act F n r k else act F n r k
def word (ws : List (List UInt8)) (op : Int) : List UInt8 := ws.getD op.toNat []
def line (ws : List (List UInt8)) (F : Int → Int) (i : Nat) (n : Nd) : List UInt8 := itoa ((i + 1 : Nat) : Int) ++ [32] ++ word ws n.op ++ act F n (fl n.op) 0 ++ [10]
end Go.AM
namespace Go.AM
open Go
end Go.AM
namespace Go.AM
open Go
section
variable {B H : Hp} {wl : List Value} {b m w : Nat} {s : List UInt8} {Φ : Int → Int}
end
end Go.AM
namespace Go.AM
open Go
def zir : ByteArray := ⟨#[45, 32, 116, 114, 117, 101, 32, 102, 97, 108, 115, 101, 32, 99, 111, 110, 115, 116, 32, 118, 97, 114, 32, 110, 111, 116, 32, 97, 110, 100, 32, 111, 114, 32, 120, 111, 114, 32, 101, 113, 32, 117, 108, 116, 32, 117, 108, 101, 32, 115, 108, 116, 32, 115, 108, 101, 32, 105, 116, 101, 32, 99, 111, 109, 32, 110, 101, 103, 32, 98, 97, 110, 100, 32, 98, 111, 114, 32, 98, 120, 111, 114, 32, 97, 100, 100, 32, 115, 117, 98, 32, 109, 117, 108, 32, 100, 105, 118, 32, 114, 101, 109, 32, 115, 104, 108, 32, 115, 104, 114, 32, 115, 97, 114, 32, 114, 111, 108, 32, 114, 111, 114, 32, 99, 97, 116, 32, 115, 108, 105, 99, 101, 32, 122, 101, 120, 116, 32, 115, 101, 120, 116]⟩
def zcz : List (List UInt8) := [[45], [116, 114, 117, 101], [102, 97, 108, 115, 101], [99, 111, 110, 115, 116], [118, 97, 114], [110, 111, 116], [97, 110, 100], [111, 114], [120, 111, 114], [101, 113], [117, 108, 116], [117, 108, 101], [115, 108, 116], [115, 108, 101], [105, 116, 101], [99, 111, 109], [110, 101, 103], [98, 97, 110, 100], [98, 111, 114], [98, 120, 111, 114], [97, 100, 100], [115, 117, 98], [109, 117, 108], [100, 105, 118], [114, 101, 109], [115, 104, 108], [115, 104, 114], [115, 97, 114], [114, 111, 108], [114, 111, 114], [99, 97, 116], [115, 108, 105, 99, 101], [122, 101, 120, 116], [115, 101, 120, 116]]
theorem names_eq : Go.Lib.fields zir.data.toList = zcz := by kernel_rfl
theorem names_ok : zir.size < 4294967281 ∧ zir.data.toList.all (fun b => decide (b.toNat < 128)) = true := by constructor <;> decide +kernel
def ze9 : List Value := zcz.map fun l => Value.string (ba l)
theorem c_names {H : Hp} (hT : Tabs H) : RR F.a63 [] H = some (.slice (some ⟨H.next, 0, some 1⟩) 34 34, H.new (.cells ze9 true)) := by
  obtain ⟨cs, e, fz, hg, ht⟩ := hT.spc
  have hx : RR F.a40 [.string zir] H = some (.slice (some ⟨H.next, 0, some 1⟩) 34 34, H.new (.cells ze9 true)) := by
    refine (run_ext (O := orc) Go.Proofs.Tryz.func69 (by kernel_rfl) (by kernel_rfl) (show E0 F.a40 = some zhL from rfl) _ H).trans ?_
    show zhL [.string zir] H = _
    unfold zhL
    dsimp only
    rw [if_pos names_ok, hg]
    dsimp only
    rw [ht, names_eq]
    rfl
  refine (zjD E0 rfl _).trans ?_
  have : zgx RR H = zaf RR F.a40 [.string zir] H fun r1 H2 => some (r1, H2) := rfl
  rw [this, zaj hx]
theorem word_at {op : Int} (h : 1 ≤ op ∧ op ≤ 33) : ze9[op.toNat]? = some (.string (ba (word zcz op))) := by
  have hl : zcz.length = 34 := rfl
  have hlt : op.toNat < zcz.length := by omega
  unfold ze9 word
  rw [List.getElem?_map, List.getD_eq_getElem?_getD, List.getElem?_eq_getElem hlt]
  rfl
theorem refWord {op : Int} (h : 1 ≤ op ∧ op ≤ 33) (H : Hp) : RR F.a34 [.int .i64 op] H = some (.string (ba (word zcz op)), H) := by
  refine (zfh E0 rfl _ _).trans ?_
  have hm : zc8 RR (.int .i64 op) H = zeo 34 (.int .i64 op) fun j3 => zad 1 false ((Value.string ⟨#[]⟩) :: ze9.drop 1) (0 + j3 * 1) fun v4 => some (v4, H) := by kernel_rfl
  rw [hm]
  unfold zeo
  dsimp only
  rw [if_pos (by omega)]
  refine zdk _ _ _ ?_ _
  rw [Nat.zero_add, Nat.mul_one]
  have h0 : op.toNat = (op.toNat - 1) + 1 := by omega
  rw [h0, List.getElem?_cons_succ, List.getElem?_drop, ← word_at h]
  congr 1; omega
section
variable {B : Hp} {b m w : Nat} (hT : Tabs B) (hn : PP.globals.size ≤ B.next)
include hT hn
end
end Go.AM
namespace Go.AM
open Go
def ze4 (w : List UInt8) : List (List UInt8) → Nat → Option Nat
  | [], _ => none
  | x :: r, i => if 0 < i ∧ x = w then some i else ze4 w r (i + 1)
def opF (w : List UInt8) : Option Nat := ze4 w zcz 0
theorem zjT (w : List UInt8) : ∀ (l : List (List UInt8)) (i j : Nat), ze4 w l i = some j → 1 ≤ j ∧ j < i + l.length
  | [], i, j, h => by cases h
  | x :: r, i, j, h => by
    unfold ze4 at h
    split at h
    · rename_i hc
      cases h
      simp only [List.length_cons]
      omega
    · have := zjT w r (i + 1) j h
      simp only [List.length_cons]
      omega
theorem opF_bd {w : List UInt8} {j : Nat} (h : opF w = some j) : 1 ≤ j ∧ j ≤ 33 := by
  have := zjT w zcz 0 j h
  have hl : zcz.length = 34 := rfl
  omega
theorem zkH (w : List UInt8) (H : Hp) (wv : Value) (hv : Rdb H 1 wv 34 ze9) (z : Value) : ∀ (rest : List (List UInt8)) (i : Nat), zcz.drop i = rest → i ≤ 34 →
    zaE (zaF RR (str w) (.int .i64 34) wv) [z, .int .i64 (i : Int)] H = match ze4 w rest i with
      | some j => some (.ret, [W1 (.int .i64 (j : Int))], H)
      | none => some (.exit 0, [z, .int .i64 34], H)
  | [], i, hr, hi => by
    have hl : zcz.length = 34 := rfl
    have hil : i = 34 := by
      have := congrArg List.length hr
      rw [List.length_drop, hl] at this
      simp at this
      omega
    have this : zaF RR (str w) (.int .i64 34) wv [z, .int .i64 (i : Int)] H = some (.exit 0, [z, .int .i64 (i : Int)], H) := by
      unfold zaF
      have h1 : ¬ ((i : Int) < 34) := by omega
      simp only [qg0, qg1, zaP, zac, s_br, h1, decide_false, Bool.false_eq_true, if_false]
    rw [zam, this, hil]
    rfl
  | x :: r, i, hr, hi => by
    have hl : zcz.length = 34 := rfl
    have hlt : i < 34 := by
      have := congrArg List.length hr
      rw [List.length_drop, hl] at this
      simp at this
      omega
    have hget : zcz[i]? = some x := by
      have := congrArg (fun x => x[0]?) hr
      simpa using this
    have hr2 : zcz.drop (i + 1) = r := by rw [← List.drop_drop, hr]; rfl
    obtain ⟨y, hy, ⟨rest', own, hg⟩, hix⟩ := hv.ix hlt
    have hld := fun (α : Type) (k : Value → Option α) => zba hg (i * 1) (str x) (by
      rw [Nat.mul_one, List.getElem?_append_left (by unfold ze9; rw [List.length_map]; omega)]
      unfold ze9
      rw [List.getElem?_map, hget]; rfl) k
    have hinc : IntKind.i64.wrap ((i : Int) + 1) = ((i + 1 : Nat) : Int) := w64 (by omega) (by omega)
    have h1 : ((i : Int) < 34) := by omega
    unfold ze4
    by_cases h0 : 0 < i
    · have h0' : ((i : Int) > 0) := by omega
      by_cases hx : x = w
      · rw [if_pos ⟨h0, hx⟩]
        have hx' : (x == w) = true := by rw [beq_iff_eq]; exact hx
        have this : zaF RR (str w) (.int .i64 34) wv [z, .int .i64 (i : Int)] H = some (.ret, [W1 (.int .i64 (i : Int))], H) := by
          unfold zaF
          simp only [qg0, qg1, zaP, zac, s_br, h1, decide_true, if_true, hix, hld, zbi, h0', zdx, hx']
        rw [zam, this]
        rfl
      · rw [if_neg (fun q => hx q.2)]
        have hx' : (x == w) = false := by rw [beq_eq_false_iff_ne]; exact hx
        have this : zaF RR (str w) (.int .i64 34) wv [z, .int .i64 (i : Int)] H = some (.next, [z, .int .i64 ((i + 1 : Nat) : Int)], H) := by
          unfold zaF
          simp only [qg0, qg1, zaP, zac, s_br, h1, decide_true, if_true, hix, hld, zbi, h0', zdx, hx', Bool.false_eq_true, if_false, za2, hinc]
        rw [zam, this]
        exact zkH w H wv hv z r (i + 1) hr2 hlt
    · rw [if_neg (fun q => h0 q.1)]
      have h0' : ¬ ((i : Int) > 0) := by omega
      have this : zaF RR (str w) (.int .i64 34) wv [z, .int .i64 (i : Int)] H = some (.next, [z, .int .i64 ((i + 1 : Nat) : Int)], H) := by
        unfold zaF
        simp only [qg0, qg1, zaP, zac, s_br, h1, decide_true, if_true, hix, hld, zbi, h0', decide_false, Bool.false_eq_true, if_false, za2, hinc]
      rw [zam, this]
      exact zkH w H wv hv z r (i + 1) hr2 hlt
theorem zk0 (w : List UInt8) (H : Hp) (hL : Laid H) : ∃ H', Frm (fun _ => False) H H' ∧ RR F.a44 [str w] H = match opF w with
    | some j => some (W1 (.int .i64 (j : Int)), H')
    | none => some (W0 (zbK 3), H') := by
  have hrun := zgF E0 rfl (str w) H
  rw [zgI, zaj (c_names hL.tabs)] at hrun
  have hv : Rdb (H.new (.cells ze9 true)) 1 (.slice (some ⟨H.next, 0, some 1⟩) 34 34) 34 ze9 :=
    .inr ⟨H.next, 34, [], true, rfl, Nat.le_refl _, by rw [List.append_nil]; exact if_pos rfl, rfl, by show H.next < H.next + 1; omega⟩
  have hloop := zkH w _ _ hv (.int .i64 0) zcz 0 rfl (Nat.zero_le _)
  have hlen : ∀ {α : Type} (k : Value → Option α), pLen .sl (.slice (some ⟨H.next, 0, some 1⟩) 34 34) (H.new (.cells ze9 true)) k = k (.int .i64 34) := fun k => rfl
  rw [hlen] at hrun
  refine ⟨H.new (.cells ze9 true), zde _ _ _, hrun.trans ?_⟩
  have hloop : zaE (zaF RR (str w) (.int .i64 34) (.slice (some ⟨H.next, 0, some 1⟩) 34 34)) [.int .i64 0, .int .i64 0] (H.new (.cells ze9 true)) = match opF w with
      | some j => some (.ret, [W1 (.int .i64 (j : Int))], H.new (.cells ze9 true))
      | none => some (.exit 0, [.int .i64 0, .int .i64 34], H.new (.cells ze9 true)) := hloop
  rw [hloop]
  cases opF w with
  | some j => rfl
  | none =>
    dsimp only
    rw [zan, zbe, zaO, zbG]
end Go.AM
namespace Go.AM
open Go
inductive Fld where
  | p | n | w | s
  deriving DecidableEq
def setP (k : Nat) (n : Nd) (t : Int) : Nd := if k = 0 then { n with a := t } else if k = 1 then { n with b := t } else { n with c := t }
def setF (f : Fld) (w : List UInt8) (ts : List Int) (k : Nat) (n : Nd) : Option Nd :=
  match f with
  | .p => if 1 ≤ zaz w ∧ zaz w ≤ ts.length then some (setP k n (ts.getD (zaz w - 1).toNat 0)) else none
  | .n => match numP w with
    | none => none
    | some x => if n.op = 3 ∨ 0 ≤ zaz w then some { n with num := (x : Int) } else none
  | .w => if zaz w < 0 then none else some { n with w := zaz w }
  | .s => some { n with name := ba w }
def rdF : List Fld → List (List UInt8) → List Int → Nat → Nd → Option (Nd × List (List UInt8))
  | [], ws, _, _, n => some (n, ws)
  | _ :: _, [], _, _, _ => none
  | f :: fs, w :: ws, ts, k, n => match setF f w ts k n with
    | none => none
    | some m => rdF fs ws ts (if f = .p then k + 1 else k) m
theorem zbW (f : Fld) (fs : List Fld) (w : List UInt8) (ws : List (List UInt8)) (ts : List Int) (k : Nat) (n : Nd) : rdF (f :: fs) (w :: ws) ts k n = match setF f w ts k n with
    | none => none
    | some m => rdF fs ws ts (if f = .p then k + 1 else k) m := by
  conv => lhs; unfold rdF
theorem rdF_app (fs gs : List Fld) : ∀ (ws : List (List UInt8)) (ts : List Int) (k : Nat) (n : Nd), rdF (fs ++ gs) ws ts k n = match rdF fs ws ts k n with
    | none => none
    | some (m, ws') => rdF gs ws' ts (k + fs.count .p) m := by
  induction fs with
  | nil => intro ws ts k n; rfl
  | cons f fs ih =>
    intro ws ts k n
    cases ws with
    | nil => rfl
    | cons w ws =>
      rw [List.cons_append, zbW, zbW]
      cases setF f w ts k n with
      | none => rfl
      | some m =>
        dsimp only
        rw [ih]
        cases rdF fs ws ts (if f = .p then k + 1 else k) m with
        | none => rfl
        | some q =>
          dsimp only
          rw [List.count_cons]
          by_cases hf : f = .p
          · subst hf
            rw [if_pos rfl, if_pos (by rfl)]
            have : k + 1 + fs.count Fld.p = k + (fs.count Fld.p + 1) := by omega
            rw [this]
          · rw [if_neg hf]
            have : (f == Fld.p) = false := by rw [beq_eq_false_iff_ne]; exact hf
            rw [this]; simp
theorem rd_w (fs : List Fld) (ws : List (List UInt8)) (ts : List Int) (k : Nat) (n : Nd) : rdF (.w :: fs) ws ts k n = match numF ws with
    | none => none
    | some v => rdF fs ws.tail ts k { n with w := v } := by
  cases ws with
  | nil => rfl
  | cons w ws =>
    rw [zbW]
    unfold numF setF
    dsimp only
    by_cases h : zaz w < 0
    · rw [if_pos h, if_pos h]
    · rw [if_neg h, if_neg h]; rfl
theorem rd_p (fs : List Fld) (ws : List (List UInt8)) (ts : List Int) (k : Nat) (n : Nd) : rdF (.p :: fs) ws ts k n = match zi0 ts ws with
    | none => none
    | some t => rdF fs ws.tail ts (k + 1) (setP k n t) := by
  cases ws with
  | nil => rfl
  | cons w ws =>
    rw [zbW]
    unfold zi0 numF setF
    dsimp only
    by_cases h : zaz w < 0
    · rw [if_pos h, if_neg (by omega)]
    · rw [if_neg h]
      dsimp only
      by_cases h2 : 1 ≤ zaz w ∧ zaz w ≤ ts.length
      · rw [if_pos h2, if_pos h2]; rfl
      · rw [if_neg h2, if_neg h2]
theorem rd_s (fs : List Fld) (ws : List (List UInt8)) (ts : List Int) (k : Nat) (n : Nd) : rdF (.s :: fs) ws ts k n = match ws with
    | [] => none
    | w :: r => rdF fs r ts k { n with name := ba w } := by
  cases ws with
  | nil => rfl
  | cons w ws => rfl
theorem rd_n3 (fs : List Fld) (ws : List (List UInt8)) (ts : List Int) (k : Nat) (n : Nd) (h : n.op = 3) : rdF (.n :: fs) ws ts k n = match ws with
    | [] => none
    | w :: r => match numP w with
      | none => none
      | some x => rdF fs r ts k { n with num := (x : Int) } := by
  cases ws with
  | nil => rfl
  | cons w ws =>
    rw [zbW]
    unfold setF
    dsimp only
    cases numP w with
    | none => rfl
    | some x => dsimp only; rw [if_pos (.inl h)]; rfl
theorem rd_n (fs : List Fld) (ws : List (List UInt8)) (ts : List Int) (k : Nat) (n : Nd) (h : n.op ≠ 3) : rdF (.n :: fs) ws ts k n = match numF ws with
    | none => none
    | some v => rdF fs ws.tail ts k { n with num := v } := by
  cases ws with
  | nil => rfl
  | cons w ws =>
    rw [zbW]
    unfold numF setF
    dsimp only
    cases hn : numP w with
    | none =>
      have : zaz w = -1 := by rw [zdF, hn]
      rw [this, if_pos (show (-1 : Int) < 0 by decide)]
    | some x =>
      dsimp only
      by_cases h2 : zaz w < 0
      · rw [if_pos h2, if_neg (by intro q; rcases q with q | q; exact h q; omega)]
      · rw [if_neg h2, if_pos (.inr (by omega))]
        have : zaz w = (x : Int) := by
          rw [zdF, hn] at h2 ⊢
          dsimp only at h2 ⊢
          split
          · rfl
          · rename_i q; rw [if_neg q] at h2; exact absurd (by decide) h2
        rw [this]; rfl
structure NS (H : Hp) (p i : Nat) (sp wv tv : Value) (ws : List (List UInt8)) (n : Nd) : Prop where
  rs : RdS H p sp wv tv ws
  wi : ¬ Id wv i
  pi : p ≠ i
  nd : H.get i = some (.cells n.cells true)
  il : i < H.next
def NSA (H : Hp) (p i : Nat) (sp wv tv : Value) (ws : List (List UInt8)) (n : Nd) (f : FuncId) (r : Option Int) : Prop :=
  match r with
  | none => ∃ H', RR f [.pointer (some ⟨p, 0, none⟩)] H = some (W0 (zbK 3), H') ∧ Frm (· = p) H H'
  | some v => ∃ H' wv', RR f [.pointer (some ⟨p, 0, none⟩)] H = some (W1 (.int .i64 v), H') ∧ NS H' p i sp wv' tv ws.tail n ∧ (∀ j, Id wv' j → Id wv j) ∧ Frm (· = p) H H'
section
variable {H : Hp} {p i : Nat} {sp wv tv : Value} {ws : List (List UInt8)} {n : Nd}
theorem NS.of (h : NS H p i sp wv tv ws n) {f : FuncId} {r : Option Int} (k : RdA H p sp wv tv ws f r) : NSA H p i sp wv tv ws n f r := by
  cases r with
  | none => exact k
  | some v =>
    obtain ⟨H', wv', h1, h2, h3, h4⟩ := k
    exact ⟨H', wv', h1, ⟨h2, fun q => h.wi (h3 i q), h.pi, by rw [h4.same i h.il (Ne.symm h.pi)]; exact h.nd, Nat.lt_of_lt_of_le h.il h4.next⟩, h3, h4⟩
theorem NS.next {w : List UInt8} (h : NS H p i sp wv tv (w :: ws) n) :
    ∃ H' wv', RR F.a3 [.pointer (some ⟨p, 0, none⟩)] H = some (W1 (str w), H') ∧ NS H' p i sp wv' tv ws n ∧ (∀ j, Id wv' j → Id wv j) ∧ Frm (· = p) H H' := by
  obtain ⟨H', wv', h1, h2, h3, h4⟩ := h.rs.next
  exact ⟨H', wv', h1, ⟨h2, fun q => h.wi (h3 i q), h.pi, by rw [h4.same i h.il (Ne.symm h.pi)]; exact h.nd, Nat.lt_of_lt_of_le h.il h4.next⟩, h3, h4⟩
theorem NS.keep {H' : Hp} (h : NS H p i sp wv tv ws n) (k : Frm (fun _ => False) H H') : NS H' p i sp wv tv ws n :=
  ⟨h.rs.keep k (fun q => q) fun _ _ q => q, h.wi, h.pi, by rw [k.same i h.il fun q => q]; exact h.nd, Nat.lt_of_lt_of_le h.il k.next⟩
theorem NS.st (h : NS H p i sp wv tv ws n) {o : Nat} {v : Value} {m : Nd} (hc : zaa v = [v]) (h1 : one v = true) (ho : o < 7) (hs : spl n.cells o [v] = m.cells) :
    ∃ H', (∀ (α : Type) (k : Hp → Option α), zau 1 H (.pointer (some ⟨i, o, none⟩)) v k = k H') ∧ NS H' p i sp wv tv ws m ∧ Frm (· = i) H H' := by
  have hf : Frm (· = i) H (H.set i (some (.cells m.cells true))) := ze6 _ _ _ _ rfl
  refine ⟨H.set i (some (.cells m.cells true)), fun α k => ?_, ⟨h.rs.keep hf h.pi fun j hj q => h.wi (by rw [q] at hj; exact hj), h.wi, h.pi, by rw [get_set, if_pos rfl], h.il⟩, hf⟩
  have hw : za8 1 n.cells o v = some m.cells := by
    unfold za8
    rw [hc, if_pos ⟨rfl, by show o + 1 ≤ 7; omega, by simp [h1]⟩, hs]
  have : H.wr (.pointer (some ⟨i, o, none⟩)) 1 v = some (H.set i (some (.cells m.cells true))) := by
    show (match H.get i with | some (.cells cs true) => (match za8 1 cs o v with | some cs' => some (H.set i (some (.cells cs' true))) | none => none) | _ => none) = _
    rw [h.nd]; dsimp only; rw [hw]
  unfold zau; rw [this]
theorem NS.ld (h : NS H p i sp wv tv ws n) (o : Nat) (v : Value) (hv : n.cells[o]? = some v) {α : Type} (k : Value → Option α) : zah 1 false H (.pointer (some ⟨i, o, none⟩)) k = k v := zba h.nd o v hv k
end
def PhA (H : Hp) (p i : Nat) (sp wv tv : Value) (out : Option (Nd × List (List UInt8))) (c : Ctl) (ok : List Value) (X : Option Outc) : Prop :=
  match out with
  | none => ∃ H', X = some (.ret, [W0 (zbK 3)], H') ∧ Frm (fun j => j = p ∨ j = i) H H'
  | some (m, ws') => ∃ H' wv', X = some (c, ok, H') ∧ NS H' p i sp wv' tv ws' m ∧ (∀ j, Id wv' j → Id wv j) ∧ Frm (fun j => j = p ∨ j = i) H H'
theorem PhA.from {H H1 : Hp} {p i : Nat} {sp wv wv1 tv : Value} {out : Option (Nd × List (List UInt8))} {c : Ctl} {ok : List Value} {X : Option Outc} (h : PhA H1 p i sp wv1 tv out c ok X) (hf : Frm (fun j => j = p ∨ j = i) H H1) (hi : ∀ j, Id wv1 j → Id wv j) : PhA H p i sp wv tv out c ok X := by
  cases out with
  | none => obtain ⟨H', h1, h2⟩ := h; exact ⟨H', h1, hf.trans h2 fun j q => .inl q⟩
  | some q =>
    obtain ⟨m, ws'⟩ := q
    obtain ⟨H', wv', h1, h2, h3, h4⟩ := h
    exact ⟨H', wv', h1, h2, fun j q => hi j (h3 j q), hf.trans h4 fun j q => .inl q⟩
theorem fr_p {H H' : Hp} {p i : Nat} (h : Frm (· = p) H H') : Frm (fun j => j = p ∨ j = i) H H' := h.mono fun j q => .inl (.inl q)
theorem fr_i {H H' : Hp} {p i : Nat} (h : Frm (· = i) H H') : Frm (fun j => j = p ∨ j = i) H H' := h.mono fun j q => .inl (.inr q)
theorem fr_0 {H H' : Hp} {p i : Nat} (h : Frm (fun _ => False) H H') : Frm (fun j => j = p ∨ j = i) H H' := h.mono fun j q => q.elim
structure Away (p i : Nat) : Prop where
  p : PP.globals.size ≤ p
  i : PP.globals.size ≤ i
theorem Away.laid {H H' : Hp} {p i : Nat} (h : Away p i) (hL : Laid H) (k : Frm (fun j => j = p ∨ j = i) H H') : Laid H' := hL.keep k fun j q => by rcases q with rfl | rfl; exact h.p; exact h.i
noncomputable def ph1 (x0 p10 : Value) (H12 : Hp) : Option Outc :=
 zao 0 p10 fun p13 =>
 zah 1 false H12 p13 fun v14 =>
 pBin PP .eql T.int v14 (.int .i64 3) fun v15 =>
 zab v15 fun b16 => br b16
 (za4 RR F.a2 [x0] H12 (fun e17 H18 =>
 some (.ret, [(W0 e17)], H18)) fun r19 H20 =>
 zao 1 p10 fun p21 =>
 zau 1 H20 p21 r19 fun H22 =>
 za4 RR F.a3 [x0] H22 (fun e23 H24 =>
 some (.ret, [(W0 e23)], H24)) fun r25 H26 =>
 zaf RR F.a13 [r25] H26 fun r27 H28 =>
 zag r27 0 fun v29 =>
 zag r27 1 fun v30 =>
 pBin PP .neq T.api_Errno v30 (.int .i64 0) fun v31 =>
 zab v31 fun b32 => br b32
 (zaJ PP T.term_fault [(0, (.int .i64 3))] fun v33 =>
 some (.ret, [(W0 (.iface T.term_fault v33))], H28))
 (zao 5 p10 fun p34 =>
 zau 1 H28 p34 v29 fun H35 =>
 some (.next, [], H35)))
 (pBin PP .eql T.int v14 (.int .i64 4) fun v36 =>
 zab v36 fun b37 => br b37
 (za4 RR F.a3 [x0] H12 (fun e38 H39 =>
 some (.ret, [(W0 e38)], H39)) fun r40 H41 =>
 zao 6 p10 fun p42 =>
 zau 1 H41 p42 r40 fun H43 =>
 za4 RR F.a2 [x0] H43 (fun e44 H45 =>
 some (.ret, [(W0 e44)], H45)) fun r46 H47 =>
 zao 1 p10 fun p48 =>
 zau 1 H47 p48 r46 fun H49 =>
 some (.next, [], H49))
 (some (.next, [], H12)))
def preF (op : Int) : List Fld := if op = 3 then [.w, .n] else if op = 4 then [.s, .w] else []
theorem ph1_ok {H : Hp} {p i : Nat} {sp wv tv : Value} {ws : List (List UInt8)} {n : Nd} (h : NS H p i sp wv tv ws n) (hA : Away p i) (hL : Laid H) (ts : List Int) :
    PhA H p i sp wv tv (rdF (preF n.op) ws ts 0 n) .next [] (ph1 (.pointer (some ⟨p, 0, none⟩)) (.pointer (some ⟨i, 0, none⟩)) H) := by
  have hop : ∀ {α : Type} (k : Value → Option α), zah 1 false H (.pointer (some ⟨i, 0 + 0, none⟩)) k = k (.int .i64 n.op) := fun k => h.ld 0 _ rfl k
  unfold preF ph1
  by_cases h3 : n.op = 3
  · rw [if_pos h3, rd_w]
    have hn := h.of (h.rs.number hL hA.p)
    have hop3 : ∀ {α : Type} (k : Value → Option α), zah 1 false H (.pointer (some ⟨i, 0 + 0, none⟩)) k = k (.int .i64 3) := fun k => by rw [hop, h3]
    simp only [zaL, hop3, zaX, zac, s_br, decide_true, if_true]
    cases hf : numF ws with
    | none =>
      rw [hf] at hn
      obtain ⟨H1, a1, a2⟩ := hn
      rw [zbr a1]
      exact ⟨H1, rfl, fr_p a2⟩
    | some v =>
      rw [hf] at hn
      obtain ⟨H1, wv1, a1, a2, a3, a4⟩ := hn
      obtain ⟨H2, b1, b2, b3⟩ := a2.st (o := 0 + 1) (v := .int .i64 v) (m := { n with w := v }) rfl rfl (by decide) rfl
      have hf2 : Frm (fun j => j = p ∨ j = i) H H2 := (fr_p a4).trans (fr_i b3) fun j q => .inl q
      rw [zbq a1, b1]
      dsimp only
      rw [rd_n3 _ _ _ _ _ (show ({ n with w := v } : Nd).op = 3 from h3)]
      cases hw : ws.tail with
      | nil =>
        rw [hw] at b2
        rw [zbr b2.rs.stop]
        exact ⟨H2, rfl, hf2⟩
      | cons w r =>
        rw [hw] at b2
        obtain ⟨H3, wv3, c1, c2, c3, c4⟩ := b2.next
        have hf3 : Frm (fun j => j = p ∨ j = i) H H3 := hf2.trans (fr_p c4) fun j q => .inl q
        obtain ⟨H4, d1, d2⟩ := zlS w (b2.rs.sh w (List.mem_cons_self ..)) H3 (hA.laid hL hf3)
        have hf4 : Frm (fun j => j = p ∨ j = i) H H4 := hf3.trans (fr_0 d2) fun j q => .inl q
        rw [zbq c1, zaj d1]
        dsimp only
        cases hx : numP w with
        | none =>
          refine ⟨H4, ?_, hf4⟩
          have e0 : ∀ {α : Type} (k : Value → Option α), zag (numV none) 0 k = k (.int .u64 0) := fun k => rfl
          have e1 : ∀ {α : Type} (k : Value → Option α), zag (numV none) 1 k = k (.int .i64 10) := fun k => rfl
          simp only [e0, e1, zbb, zac, s_br, zbG, show ((10 : Int) ≠ 0) from by decide, decide_true, if_true, ne_eq, not_false_eq_true]
        | some x =>
          obtain ⟨H5, e1, e2, e3⟩ := (c2.keep d2).st (o := 0 + 5) (v := .int .u64 (x : Int)) (m := { n with w := v, num := (x : Int) }) rfl rfl (by decide) rfl
          refine ⟨H5, wv3, ?_, e2, fun j q => a3 j (c3 j q), hf4.trans (fr_i e3) fun j q => .inl q⟩
          have z0 : ∀ {α : Type} (k : Value → Option α), zag (numV (some x)) 0 k = k (.int .u64 (x : Int)) := fun k => rfl
          have z1 : ∀ {α : Type} (k : Value → Option α), zag (numV (some x)) 1 k = k (.int .i64 0) := fun k => rfl
          have hz : ¬ ((0 : Int) ≠ 0) := by decide
          simp only [z0, z1, zbb, zac, s_br, hz, decide_false, Bool.false_eq_true, if_false, e1]
  · rw [if_neg h3]
    by_cases h4 : n.op = 4
    · rw [if_pos h4, rd_s]
      have hop4 : ∀ {α : Type} (k : Value → Option α), zah 1 false H (.pointer (some ⟨i, 0 + 0, none⟩)) k = k (.int .i64 4) := fun k => by rw [hop, h4]
      simp only [zaL, hop4, zaX, zac, s_br, decide_true, if_true, show ¬ ((4 : Int) = 3) from by decide, decide_false, Bool.false_eq_true, if_false]
      cases ws with
      | nil =>
        rw [zbr h.rs.stop]
        exact ⟨H, rfl, Frm.refl _ _⟩
      | cons w r =>
        obtain ⟨H1, wv1, a1, a2, a3, a4⟩ := h.next
        obtain ⟨H2, b1, b2, b3⟩ := a2.st (o := 0 + 6) (v := str w) (m := { n with name := ba w }) rfl rfl (by decide) rfl
        have hf2 : Frm (fun j => j = p ∨ j = i) H H2 := (fr_p a4).trans (fr_i b3) fun j q => .inl q
        rw [zbq a1, b1]
        dsimp only
        rw [rd_w]
        have hn := b2.of (b2.rs.number (hA.laid hL hf2) hA.p)
        cases hf : numF r with
        | none =>
          rw [hf] at hn
          obtain ⟨H3, c1, c2⟩ := hn
          rw [zbr c1]
          exact ⟨H3, rfl, hf2.trans (fr_p c2) fun j q => .inl q⟩
        | some v =>
          rw [hf] at hn
          obtain ⟨H3, wv3, c1, c2, c3, c4⟩ := hn
          obtain ⟨H4, d1, d2, d3⟩ := c2.st (o := 0 + 1) (v := .int .i64 v) (m := { n with name := ba w, w := v }) rfl rfl (by decide) rfl
          refine ⟨H4, wv3, ?_, d2, fun j q => a3 j (c3 j q), (hf2.trans (fr_p c4) fun j q => .inl q).trans (fr_i d3) fun j q => .inl q⟩
          rw [zbq c1, d1]
    · rw [if_neg h4]
      simp only [zaL, hop, zaX, zac, s_br, h3, h4, decide_false, Bool.false_eq_true, if_false]
      exact ⟨H, wv, rfl, h, fun j q => q, Frm.refl _ _⟩
end Go.AM
namespace Go.AM
open Go
noncomputable def ph3 (x0 p10 : Value) (H : Hp) : Option Outc :=
 zao 0 p10 fun p77 =>
 zah 1 false H p77 fun v78 =>
 pBin PP .eql T.int v78 (.int .i64 31) fun v79 =>
 zab v79 fun b80 => br b80
 (za4 RR F.a2 [x0] H (fun e81 H82 =>
 some (.ret, [(W0 e81)], H82)) fun r83 H84 =>
 zaw .u64 r83 fun v85 =>
 zao 5 p10 fun p86 =>
 zau 1 H84 p86 v85 fun H87 =>
 za4 RR F.a2 [x0] H87 (fun e88 H89 =>
 some (.ret, [(W0 e88)], H89)) fun r90 H91 =>
 zao 1 p10 fun p92 =>
 zau 1 H91 p92 r90 fun H93 =>
 some (.next, [], H93))
 (zat (
 pBin PP .eql T.int v78 (.int .i64 32) fun v94 =>
 zab v94 fun b95 => br b95
 (some (.next, [(.bool true)], H))
 (pBin PP .eql T.int v78 (.int .i64 33) fun v96 =>
 some (.next, [v96], H))) fun q97 l98 H99 => zaC q97
 (zab (l98.getD 0 undef) fun b101 => br b101
 (za4 RR F.a2 [x0] H99 (fun e102 H103 =>
 some (.ret, [(W0 e102)], H103)) fun r104 H105 =>
 zao 1 p10 fun p106 =>
 zau 1 H105 p106 r104 fun H107 =>
 some (.next, [], H107))
 (pBin PP .eql T.int v78 (.int .i64 14) fun v108 =>
 zab v108 fun b109 => br b109
 (pNil x0 (
 zao 0 x0 fun p110 =>
 zah 1 false H99 p110 fun v111 =>
 zao 3 p10 fun p112 =>
 zah 1 false H99 p112 fun v113 =>
 zaf RR F.a1 [v111, v113] H99 fun r114 H115 =>
 zao 1 p10 fun p116 =>
 zau 1 H115 p116 r114 fun H117 =>
 some (.next, [], H117)))
 (pBin PP .eql T.int v78 (.int .i64 30) fun v118 =>
 zab v118 fun b119 => br b119
 (pNil x0 (
 zao 0 x0 fun p120 =>
 zah 1 false H99 p120 fun v121 =>
 zao 2 p10 fun p122 =>
 zah 1 false H99 p122 fun v123 =>
 zaf RR F.a1 [v121, v123] H99 fun r124 H125 =>
 pNil x0 (
 zao 0 x0 fun p126 =>
 zah 1 false H125 p126 fun v127 =>
 chk (Hp.rdP H99 p126 1 false = some v127) (
 zao 3 p10 fun p128 =>
 zah 1 false H125 p128 fun v129 =>
 chk (Hp.rdP H99 p128 1 false = some v129) (
 zaf RR F.a1 [v127, v129] H125 fun r130 H131 =>
 pBin PP .add T.int r124 r130 fun v132 =>
 pMM false [v132, (.int .i64 65)] fun v133 =>
 zao 1 p10 fun p134 =>
 zau 1 H131 p134 v133 fun H135 =>
 zao 1 p10 fun p136 =>
 zah 1 false H135 p136 fun v137 =>
 pBin PP .gtr T.int v137 (.int .i64 64) fun v138 =>
 zab v138 fun b139 => br b139
 (zao 1 p10 fun p140 =>
 zau 1 H135 p140 (.int .i64 0) fun H141 =>
 some (.next, [], H141))
 (some (.next, [], H135)))))))
 (pBin PP .geq T.int v78 (.int .i64 15) fun v142 =>
 zab v142 fun b143 => br b143
 (pBin PP .leq T.int v78 (.int .i64 29) fun v144 =>
 zab v144 fun b145 => br b145
 (pNil x0 (
 zao 0 x0 fun p146 =>
 zah 1 false H99 p146 fun v147 =>
 zao 2 p10 fun p148 =>
 zah 1 false H99 p148 fun v149 =>
 zaf RR F.a1 [v147, v149] H99 fun r150 H151 =>
 zao 1 p10 fun p152 =>
 zau 1 H151 p152 r150 fun H153 =>
 some (.next, [], H153)))
 (some (.next, [], H99)))
 (some (.next, [], H99))))))
 (fun i100 => zax i100 3 (
 some (.next, [], H99)) (
 some (.exit i100, [], H99)))
 (some (.ret, [(l98.headD undef)], H99)))
theorem setP_op (k : Nat) (n : Nd) (t : Int) : (setP k n t).op = n.op := by
  unfold setP; split
  · rfl
  · split <;> rfl
theorem bld3p (i : Nat) : ∀ {α : Type} (k : Value → Option α), zaJ PP T.a3_p_int [(0, .pointer (some ⟨i, 0 + 2, none⟩)), (1, .pointer (some ⟨i, 0 + 3, none⟩)), (2, .pointer (some ⟨i, 0 + 4, none⟩))] k = k (.agg #[.pointer (some ⟨i, 2, none⟩), .pointer (some ⟨i, 3, none⟩), .pointer (some ⟨i, 4, none⟩)]) := fun {α} k => by
  have : ze7 PP T.a3_p_int [(0, .pointer (some ⟨i, 0 + 2, none⟩)), (1, .pointer (some ⟨i, 0 + 3, none⟩)), (2, .pointer (some ⟨i, 0 + 4, none⟩))] = some (.agg #[.pointer (some ⟨i, 2, none⟩), .pointer (some ⟨i, 3, none⟩), .pointer (some ⟨i, 4, none⟩)]) := by kernel_rfl
  unfold zaJ; rw [this]
theorem zlZ (k : Nat) (hk : k < 3) (n : Nd) (t : Int) : spl n.cells (2 + k) [.int .i64 t] = (setP k n t).cells := by
  match k, hk with
  | 0, _ => rfl
  | 1, _ => rfl
  | 2, _ => rfl
theorem zjG (op : Int) : 0 ≤ zak op ∧ zak op ≤ 3 := by
  unfold zak
  split
  · decide
  · split
    · decide
    · split <;> decide
theorem zlo {p i : Nat} {sp tv : Value} (hA : Away p i) (ts : List Int) (P : Nat) (hP : P ≤ 3) (htp : ¬ Id tv p) (hti : ¬ Id tv i) : ∀ (d k : Nat) (H : Hp) (wv : Value) (ws : List (List UInt8)) (n : Nd), k + d = P → NS H p i sp wv tv ws n → Laid H → Vec H 1 tv ts.length (i64s ts) →
    PhA H p i sp wv tv (rdF (List.replicate d .p) ws ts k n) (.exit 1) [.int .i64 (P : Int)] (zaE (zaI RR (.pointer (some ⟨p, 0, none⟩)) (.int .i64 (P : Int)) (.pointer (some ⟨i, 0, none⟩))) [.int .i64 (k : Int)] H)
  | 0, k, H, wv, ws, n, hk, h, hL, ht => by
    have : zaI RR (.pointer (some ⟨p, 0, none⟩)) (.int .i64 (P : Int)) (.pointer (some ⟨i, 0, none⟩)) [.int .i64 (k : Int)] H = some (.exit 1, [.int .i64 (k : Int)], H) := by
      unfold zaI
      have h1 : ¬ ((k : Int) < (P : Int)) := by omega
      simp only [qg0, zaP, zac, s_br, h1, decide_false, Bool.false_eq_true, if_false]
    rw [zam, this]
    have hkp : k = P := by omega
    subst hkp
    exact ⟨H, wv, rfl, h, fun j q => q, Frm.refl _ _⟩
  | d + 1, k, H, wv, ws, n, hk, h, hL, ht => by
    rw [List.replicate_succ, rd_p]
    have h1 : ((k : Int) < (P : Int)) := by omega
    have hat : ∀ {α : Type} (kk : Value → Option α), zd5 3 false 1 (.agg #[.pointer (some ⟨i, 2, none⟩), .pointer (some ⟨i, 3, none⟩), .pointer (some ⟨i, 4, none⟩)]) (.int .i64 (k : Int)) kk = kk (.pointer (some ⟨i, 2 + k, none⟩)) := fun kk => by
      match k, (show k < 3 by omega) with
      | 0, _ => rfl
      | 1, _ => rfl
      | 2, _ => rfl
    have hn := h.of (h.rs.part hL hA.p ht htp)
    cases hf : zi0 ts ws with
    | none =>
      rw [hf] at hn
      obtain ⟨H1, a1, a2⟩ := hn
      have : zaI RR (.pointer (some ⟨p, 0, none⟩)) (.int .i64 (P : Int)) (.pointer (some ⟨i, 0, none⟩)) [.int .i64 (k : Int)] H = some (.ret, [W0 (zbK 3)], H1) := by
        unfold zaI
        simp only [qg0, zaP, zac, s_br, h1, decide_true, if_true, zaL, bld3p, hat]
        rw [zbr a1]
      rw [zam, this]
      exact ⟨H1, rfl, fr_p a2⟩
    | some t =>
      rw [hf] at hn
      obtain ⟨H1, wv1, a1, a2, a3, a4⟩ := hn
      obtain ⟨H2, b1, b2, b3⟩ := a2.st (o := 2 + k) (v := .int .i64 t) (m := setP k n t) rfl rfl (by omega) (zlZ k (by omega) n t)
      have hf2 : Frm (fun j => j = p ∨ j = i) H H2 := (fr_p a4).trans (fr_i b3) fun j q => .inl q
      have hinc : IntKind.i64.wrap ((k : Int) + 1) = ((k + 1 : Nat) : Int) := w64 (by omega) (by omega)
      have : zaI RR (.pointer (some ⟨p, 0, none⟩)) (.int .i64 (P : Int)) (.pointer (some ⟨i, 0, none⟩)) [.int .i64 (k : Int)] H = some (.next, [.int .i64 ((k + 1 : Nat) : Int)], H2) := by
        unfold zaI
        simp only [qg0, zaP, zac, s_br, h1, decide_true, if_true, zaL, bld3p, hat]
        rw [zbq a1, zbt, b1, za2, hinc]
      rw [zam, this]
      dsimp only
      refine PhA.from (zlo hA ts P hP htp hti d (k + 1) H2 wv1 ws.tail (setP k n t) (by omega) b2 (hA.laid hL hf2) (ht.keep hf2 fun j hj q => ?_)) hf2 a3
      rcases q with rfl | rfl
      · exact htp hj
      · exact hti hj
def postF (op : Int) : List Fld := if op = 31 then [.n, .w] else if op = 32 ∨ op = 33 then [.w] else []
def zb2 (L : List Nd) (n : Nd) : Int :=
  if n.op = 14 then wT L (-1) n.b else if n.op = 30 then (if wT L (-1) n.a + wT L (-1) n.b > 64 then 0 else wT L (-1) n.a + wT L (-1) n.b)
  else if 15 ≤ n.op ∧ n.op ≤ 29 then wT L (-1) n.a else n.w
def impl (L : List Nd) (q : Nd × List (List UInt8)) : Nd × List (List UInt8) := ({ q.1 with w := zb2 L q.1 }, q.2)
theorem ze3 {H : Hp} {i : Nat} {cs : List Value} {own : Bool} (h : H.get i = some (.cells cs own)) (o : Nat) (v : Value) (hv : cs[o]? = some v) : Hp.rdP H (.pointer (some ⟨i, o, none⟩)) 1 false = some v := by
  simp [Hp.rdP, Hp.rd, h, zbM, hv]
theorem ph3_ok {H : Hp} {p i : Nat} {st f g : Nat} {lim : Int} {L : List Nd} {K : List (ByteArray × Int)} {sl : Value} {wv tv : Value} {ws : List (List UInt8)} {n : Nd}
    (h : NS H p i (.pointer (some ⟨st, 0, none⟩)) wv tv ws n) (hA : Away p i) (hL : Laid H) (hS : StF H st lim L K sl f g) (hR : zh1 L) (ts : List Int) :
    PhA H p i (.pointer (some ⟨st, 0, none⟩)) wv tv ((rdF (postF n.op) ws ts (zak n.op).toNat n).map (impl L)) .next [] (ph3 (.pointer (some ⟨p, 0, none⟩)) (.pointer (some ⟨i, 0, none⟩)) H) := by
  have hop : ∀ {α : Type} (k : Value → Option α), zah 1 false H (.pointer (some ⟨i, 0 + 0, none⟩)) k = k (.int .i64 n.op) := fun k => h.ld 0 _ rfl k
  have hna : ∀ {α : Type} (k : Value → Option α), zah 1 false H (.pointer (some ⟨i, 0 + 2, none⟩)) k = k (.int .i64 n.a) := fun k => h.ld 2 _ rfl k
  have hnb : ∀ {α : Type} (k : Value → Option α), zah 1 false H (.pointer (some ⟨i, 0 + 3, none⟩)) k = k (.int .i64 n.b) := fun k => h.ld 3 _ rfl k
  have hsp : ∀ {α : Type} (k : Value → Option α), zah 1 false H (.pointer (some ⟨p, 0 + 0, none⟩)) k = k (.pointer (some ⟨st, 0, none⟩)) := fun k => zba h.rs.rd 0 _ rfl k
  have rsp : Hp.rdP H (.pointer (some ⟨p, 0 + 0, none⟩)) 1 false = some (.pointer (some ⟨st, 0, none⟩)) := ze3 h.rs.rd 0 _ rfl
  have rnb : Hp.rdP H (.pointer (some ⟨i, 0 + 3, none⟩)) 1 false = some (.int .i64 n.b) := ze3 h.nd 3 _ rfl
  have ba := zjo hR.w n.a
  have bb := zjo hR.w n.b
  unfold postF ph3
  by_cases h31 : n.op = 31
  · rw [if_pos h31]
    have hop' : ∀ {α : Type} (k : Value → Option α), zah 1 false H (.pointer (some ⟨i, 0 + 0, none⟩)) k = k (.int .i64 31) := fun k => by rw [hop, h31]
    simp only [zaL, hop', zaX, zac, s_br, decide_true, if_true]
    rw [rd_n _ _ _ _ _ (by omega)]
    have hn := h.of (h.rs.number hL hA.p)
    cases hf : numF ws with
    | none =>
      rw [hf] at hn
      obtain ⟨H1, a1, a2⟩ := hn
      rw [zbr a1]
      exact ⟨H1, rfl, fr_p a2⟩
    | some v =>
      rw [hf] at hn
      obtain ⟨H1, wv1, a1, a2, a3, a4⟩ := hn
      have hb := numF_bd hf
      obtain ⟨H2, b1, b2, b3⟩ := a2.st (o := 0 + 5) (v := .int .u64 v) (m := { n with num := v }) rfl rfl (by decide) rfl
      have hf2 : Frm (fun j => j = p ∨ j = i) H H2 := (fr_p a4).trans (fr_i b3) fun j q => .inl q
      have hcv : ∀ {α : Type} (k : Value → Option α), zaw .u64 (.int .i64 v) k = k (.int .u64 v) := fun k => by
        show k (.int .u64 (IntKind.u64.wrap v)) = _
        rw [u64 (by omega) (by omega)]
      rw [zbq a1, hcv, b1]
      dsimp only
      rw [rd_w]
      have hn2 := b2.of (b2.rs.number (hA.laid hL hf2) hA.p)
      cases hf' : numF ws.tail with
      | none =>
        rw [hf'] at hn2
        obtain ⟨H3, c1, c2⟩ := hn2
        rw [zbr c1]
        exact ⟨H3, rfl, hf2.trans (fr_p c2) fun j q => .inl q⟩
      | some u =>
        rw [hf'] at hn2
        obtain ⟨H3, wv3, c1, c2, c3, c4⟩ := hn2
        obtain ⟨H4, d1, d2, d3⟩ := c2.st (o := 0 + 1) (v := .int .i64 u) (m := { n with num := v, w := u }) rfl rfl (by decide) rfl
        refine ⟨H4, wv3, ?_, ?_, fun j q => a3 j (c3 j q), (hf2.trans (fr_p c4) fun j q => .inl q).trans (fr_i d3) fun j q => .inl q⟩
        · rw [zbq c1, d1]
        · have e : zb2 L { n with num := v, w := u } = u := by
            unfold zb2
            rw [if_neg (show ¬ n.op = 14 by omega), if_neg (show ¬ n.op = 30 by omega), if_neg (show ¬ (15 ≤ n.op ∧ n.op ≤ 29) by omega)]
          show NS H4 p i _ wv3 tv ws.tail.tail { n with num := v, w := zb2 L { n with num := v, w := u } }
          rw [e]; exact d2
  · rw [if_neg h31]
    by_cases h32 : n.op = 32 ∨ n.op = 33
    · rw [if_pos h32, rd_w]
      have hn := h.of (h.rs.number hL hA.p)
      have hX : ∀ (X Y : Option Outc), (zat (pBin PP .eql T.int (.int .i64 n.op) (.int .i64 32) fun v94 => zab v94 fun b95 => br b95 (some (.next, [(.bool true)], H)) (pBin PP .eql T.int (.int .i64 n.op) (.int .i64 33) fun v96 => some (.next, [v96], H))) : (Ctl → List Value → Hp → Option Outc) → Option Outc) = fun k => k .next [.bool true] H := fun X Y => by
        funext k
        rcases h32 with q | q
        · simp only [zaX, zac, s_br, q, decide_true, if_true, zan]
        · simp only [zaX, zac, s_br, q, decide_true, if_true, zan, show ¬ ((33 : Int) = 32) from by decide, decide_false, Bool.false_eq_true, if_false]
      have hX := congrFun (hX none none)
      simp only [zaL, hop, zaX, zac, s_br, h31, decide_false, Bool.false_eq_true, if_false] at hX ⊢
      rw [hX, zaA]
      simp only [qg0, zac, s_br, if_true]
      cases hf : numF ws with
      | none =>
        rw [hf] at hn
        obtain ⟨H1, a1, a2⟩ := hn
        rw [zbr a1]
        exact ⟨H1, rfl, fr_p a2⟩
      | some v =>
        rw [hf] at hn
        obtain ⟨H1, wv1, a1, a2, a3, a4⟩ := hn
        obtain ⟨H2, b1, b2, b3⟩ := a2.st (o := 0 + 1) (v := .int .i64 v) (m := { n with w := v }) rfl rfl (by decide) rfl
        refine ⟨H2, wv1, ?_, ?_, a3, (fr_p a4).trans (fr_i b3) fun j q => .inl q⟩
        · rw [zbq a1, b1]
        · have e : zb2 L { n with w := v } = v := by
            unfold zb2
            rw [if_neg (show ¬ n.op = 14 by omega), if_neg (show ¬ n.op = 30 by omega), if_neg (show ¬ (15 ≤ n.op ∧ n.op ≤ 29) by omega)]
          show NS H2 p i _ wv1 tv ws.tail { n with w := zb2 L { n with w := v } }
          rw [e]; exact b2
    · rw [if_neg h32]
      have h32a : ¬ n.op = 32 := fun q => h32 (.inl q)
      have h32b : ¬ n.op = 33 := fun q => h32 (.inr q)
      have fin : ∀ (w : Int) (X : Option Outc), zb2 L n = w → (∀ H', (∀ (α : Type) (k : Hp → Option α), zau 1 H (.pointer (some ⟨i, 0 + 1, none⟩)) (.int .i64 w) k = k H') → X = some (.next, [], H')) →
          PhA H p i (.pointer (some ⟨st, 0, none⟩)) wv tv ((rdF [] ws ts (zak n.op).toNat n).map (impl L)) .next [] X := fun w X hw hX => by
        obtain ⟨H2, b1, b2, b3⟩ := h.st (o := 0 + 1) (v := .int .i64 w) (m := { n with w := w }) rfl rfl (by decide) rfl
        refine ⟨H2, wv, hX H2 b1, ?_, fun j q => q, fr_i b3⟩
        rw [hw]
        exact b2
      simp only [zaL, hop, zaX, zac, s_br, h31, h32a, h32b, decide_false, Bool.false_eq_true, if_false, zan, zaA, qg0]
      by_cases h14 : n.op = 14
      · refine fin (wT L (-1) n.b) _ (by unfold zb2; rw [if_pos h14]) fun H' hs => ?_
        simp only [h14, decide_true, if_true, zbt, zaL, hsp, hnb, zaj (c40 hS.st hR.len), hs]
      · by_cases h30 : n.op = 30
        · simp only [h14, h30, show ¬ ((30 : Int) = 14) from by decide, decide_true, decide_false, Bool.false_eq_true, if_true, if_false, zbt, zaL, hsp, hna, hnb, zaj (c40 hS.st hR.len), rsp, rnb, zgE]
          by_cases hs : wT L (-1) n.a + wT L (-1) n.b > 64
          · have hw : zb2 L n = 0 := by unfold zb2; rw [if_neg h14, if_pos h30, if_pos hs]
            have hsum : IntKind.i64.wrap (wT L (-1) n.a + wT L (-1) n.b) = wT L (-1) n.a + wT L (-1) n.b := zb3 (by omega) (by omega)
            have hmm : ∀ {α : Type} (k : Value → Option α), pMM false [.int .i64 (wT L (-1) n.a + wT L (-1) n.b), .int .i64 65] k = k (.int .i64 65) := fun k => by
              show k (.int .i64 (if (65 : Int) < wT L (-1) n.a + wT L (-1) n.b then 65 else wT L (-1) n.a + wT L (-1) n.b)) = _
              split
              · rfl
              · have : wT L (-1) n.a + wT L (-1) n.b = 65 := by omega
                rw [this]
            obtain ⟨H2, b1, b2, b3⟩ := h.st (o := 0 + 1) (v := .int .i64 65) (m := { n with w := 65 }) rfl rfl (by decide) rfl
            have hld : ∀ {α : Type} (k : Value → Option α), zah 1 false H2 (.pointer (some ⟨i, 0 + 1, none⟩)) k = k (.int .i64 65) := fun k => b2.ld 1 _ rfl k
            obtain ⟨H3, c1, c2, c3⟩ := b2.st (o := 0 + 1) (v := .int .i64 0) (m := { n with w := 0 }) rfl rfl (by decide) rfl
            refine ⟨H3, wv, ?_, ?_, fun j q => q, (fr_i b3).trans (fr_i c3) fun j q => .inl q⟩
            · simp only [za2, hsum, hmm, b1, hld, zbi, show ((65 : Int) > 64) from by decide, decide_true, if_true, c1, zac, s_br]
            · rw [hw]; exact c2
          · refine fin (wT L (-1) n.a + wT L (-1) n.b) _ (by unfold zb2; rw [if_neg h14, if_pos h30, if_neg hs]) fun H' hst => ?_
            obtain ⟨H2, b1, b2, b3⟩ := h.st (o := 0 + 1) (v := .int .i64 (wT L (-1) n.a + wT L (-1) n.b)) (m := { n with w := wT L (-1) n.a + wT L (-1) n.b }) rfl rfl (by decide) rfl
            have hHH : H' = H2 := by
              have e1 := hst Hp some
              have e2 := b1 Hp some
              rw [e1] at e2
              exact Option.some.inj e2
            subst hHH
            have hsum : IntKind.i64.wrap (wT L (-1) n.a + wT L (-1) n.b) = wT L (-1) n.a + wT L (-1) n.b := zb3 (by omega) (by omega)
            have hmm : ∀ {α : Type} (k : Value → Option α), pMM false [.int .i64 (wT L (-1) n.a + wT L (-1) n.b), .int .i64 65] k = k (.int .i64 (wT L (-1) n.a + wT L (-1) n.b)) := fun k => by
              show k (.int .i64 (if (65 : Int) < wT L (-1) n.a + wT L (-1) n.b then 65 else wT L (-1) n.a + wT L (-1) n.b)) = _
              rw [if_neg (by omega)]
            have hld : ∀ {α : Type} (k : Value → Option α), zah 1 false H' (.pointer (some ⟨i, 0 + 1, none⟩)) k = k (.int .i64 (wT L (-1) n.a + wT L (-1) n.b)) := fun k => b2.ld 1 _ rfl k
            simp only [za2, hsum, hmm, b1, hld, zbi, hs, decide_false, Bool.false_eq_true, if_false, zac, s_br]
        · have same : ∀ X : Option Outc, (¬ (15 ≤ n.op ∧ n.op ≤ 29)) → X = some (.next, [], H) → PhA H p i (.pointer (some ⟨st, 0, none⟩)) wv tv ((rdF [] ws ts (zak n.op).toNat n).map (impl L)) .next [] X := fun X hq hX => by
            refine ⟨H, wv, hX, ?_, fun j q => q, Frm.refl _ _⟩
            have : zb2 L n = n.w := by unfold zb2; rw [if_neg h14, if_neg h30, if_neg hq]
            show NS H p i _ wv tv ws { n with w := zb2 L n }
            rw [this]; exact h
          simp only [h14, h30, decide_false, Bool.false_eq_true, if_false, zbp, zbP, zac, s_br]
          by_cases q1 : n.op ≥ 15
          · by_cases q2 : n.op ≤ 29
            · refine fin (wT L (-1) n.a) _ (by unfold zb2; rw [if_neg h14, if_neg h30, if_pos ⟨q1, q2⟩]) fun H' hs => ?_
              simp only [q1, q2, decide_true, if_true, zbt, zaL, hsp, hna, zaj (c40 hS.st hR.len), hs]
            · refine same _ (by omega) ?_
              simp only [q1, q2, decide_true, decide_false, Bool.false_eq_true, if_true, if_false]
          · refine same _ (by omega) ?_
            simp only [q1, decide_false, Bool.false_eq_true, if_false]
end Go.AM
namespace Go.AM
open Go
theorem zkK (base : Nat) (hb : 0 < base) : ∀ (l : List UInt8) (v x : Nat), v ≤ 18446744073709551615 → numL base l v = some x → x ≤ 18446744073709551615
  | [], v, x, hv, h => by cases h; exact hv
  | b :: r, v, x, hv, h => by
    unfold numL at h
    split at h
    · cases h
    · split at h
      · cases h
      · rename_i h1 h2
        refine zkK base hb r _ x ?_ h
        have hd : (digV b.toNat base).toNat ≤ 15 := by have := zkV b.toNat base; omega
        have hm : v * base ≤ 18446744073709551615 - (digV b.toNat base).toNat := (Nat.le_div_iff_mul_le hb).1 (by omega)
        omega
theorem numP_lt {l : List UInt8} {x : Nat} (h : numP l = some x) : x < 18446744073709551616 := by
  unfold numP at h
  split at h
  · split at h
    · cases h
    · have := zkK 16 (by decide) _ _ _ (by omega) h; omega
  · split at h
    · cases h
    · have := zkK 10 (by decide) _ _ _ (by omega) h; omega
def zk3 (n : Nd) : Prop := 0 ≤ n.num ∧ n.num < 18446744073709551616
theorem setF_ok {f : Fld} {w : List UInt8} {ts : List Int} {k : Nat} {n m : Nd} (h : setF f w ts k n = some m) : m.op = n.op ∧ (zk3 n → zk3 m) := by
  unfold setF at h
  split at h
  · split at h
    · cases h
      refine ⟨setP_op k n _, fun q => ?_⟩
      unfold setP
      split
      · exact q
      · split <;> exact q
    · cases h
  · split at h
    · cases h
    · rename_i x hx
      split at h
      · cases h
        exact ⟨rfl, fun _ => ⟨Int.natCast_nonneg x, Int.ofNat_lt.2 (numP_lt hx)⟩⟩
      · cases h
  · split at h
    · cases h
    · cases h; exact ⟨rfl, fun q => q⟩
  · cases h; exact ⟨rfl, fun q => q⟩
theorem zhb : ∀ (fs : List Fld) (ws : List (List UInt8)) (ts : List Int) (k : Nat) (n m : Nd) (ws' : List (List UInt8)), rdF fs ws ts k n = some (m, ws') → m.op = n.op ∧ (zk3 n → zk3 m)
  | [], ws, ts, k, n, m, ws', h => by cases h; exact ⟨rfl, fun q => q⟩
  | f :: fs, [], ts, k, n, m, ws', h => by cases h
  | f :: fs, w :: ws, ts, k, n, m, ws', h => by
    rw [zbW] at h
    cases hs : setF f w ts k n with
    | none => rw [hs] at h; cases h
    | some q =>
      rw [hs] at h
      have h1 := setF_ok hs
      have h2 := zhb fs ws ts _ q m ws' h
      exact ⟨h2.1.trans h1.1, fun z => h2.2 (h1.2 z)⟩
def zcD (op : Int) : List Fld := preF op ++ (List.replicate (zak op).toNat .p ++ postF op)
def nd0 (op : Int) : Nd := ⟨op, 0, 0, 0, 0, 0, ⟨#[]⟩⟩
def nodeP (ws : List (List UInt8)) (ts : List Int) (L : List Nd) : Option Nd := match ws with
  | [] => none
  | o :: r => match opF o with
    | none => none
    | some op => match rdF (zcD (op : Int)) r ts 0 (nd0 (op : Int)) with
      | some (m, []) => some { m with w := zb2 L m }
      | _ => none
theorem zl8 (op : Int) : (preF op).count .p = 0 := by
  unfold preF; split
  · rfl
  · split <;> rfl
def NodeA (H : Hp) (p st f g : Nat) (lim : Int) (L : List Nd) (K : List (ByteArray × Int)) (sl wv tv : Value) (r : Option Nd) : Prop := match r with
  | none => ∃ H', RR F.a12 [.pointer (some ⟨p, 0, none⟩)] H = some (W0 (zbK 3), H') ∧ Frm (fun j => j = p ∨ Foot st f g sl j) H H'
  | some m => ((mkR lim L K m).2.1 ≠ 0 → ∃ H', RR F.a12 [.pointer (some ⟨p, 0, none⟩)] H = some (W0 (zbK (mkR lim L K m).2.1), H') ∧ Frm (fun j => j = p ∨ Foot st f g sl j) H H') ∧
    ((mkR lim L K m).2.1 = 0 → ∃ H' wv' sl', RR F.a12 [.pointer (some ⟨p, 0, none⟩)] H = some (W1 (.int .i64 (mkR lim L K m).1), H') ∧ RdS H' p (.pointer (some ⟨st, 0, none⟩)) wv' tv [] ∧ StF H' st lim (mkR lim L K m).2.2.1 (mkR lim L K m).2.2.2 sl' f g ∧
      Frm (fun j => j = p ∨ Foot st f g sl j) H H' ∧ (∀ j, Foot st f g sl' j → Foot st f g sl j ∨ H.next ≤ j) ∧ (∀ j, Id wv' j → Id wv j))
theorem c_node {H : Hp} {p : Nat} {st f g : Nat} {lim : Int} {L : List Nd} {K : List (ByteArray × Int)} {sl : Value} {wv tv : Value} {ws : List (List UInt8)} {ts : List Int}
    (h : RdS H p (.pointer (some ⟨st, 0, none⟩)) wv tv ws) (hp : PP.globals.size ≤ p) (hL : Laid H) (hS : StF H st lim L K sl f g) (hR : zh1 L) (ht : Vec H 1 tv ts.length (i64s ts)) (htp : ¬ Id tv p)
    (hfp : ¬ Foot st f g sl p) (hfw : ∀ j, Id wv j → ¬ Foot st f g sl j) : NodeA H p st f g lim L K sl wv tv (nodeP ws ts L) := by
  have hrun := zfL E0 rfl (.pointer (some ⟨p, 0, none⟩)) H
  rw [zfV] at hrun
  have wid : ∀ {H' : Hp}, Frm (· = p) H H' → Frm (fun j => j = p ∨ Foot st f g sl j) H H' := fun k => k.mono fun j q => .inl (.inl q)
  cases ws with
  | nil =>
    rw [zbr h.stop] at hrun
    exact ⟨H, hrun, Frm.refl _ _⟩
  | cons o r =>
    obtain ⟨H1, wv1, a1, a2, a3, a4⟩ := h.next
    have hL1 : Laid H1 := hL.keep a4 fun j q => by rw [q]; exact hp
    obtain ⟨H2, b1, b2⟩ := zk0 o H1 hL1
    rw [zbq a1] at hrun
    have hf2 : Frm (· = p) H H2 := a4.trans (b1.mono fun j q => q.elim) fun j q => .inl q
    unfold nodeP
    dsimp only
    cases ho : opF o with
    | none =>
      rw [ho] at b2
      rw [zbr b2] at hrun
      exact ⟨H2, hrun, wid hf2⟩
    | some op =>
      rw [ho] at b2
      have hob := opF_bd ho
      rw [zbq b2, b0] at hrun
      dsimp only
      let i := H2.next
      let H3 := H2.new (.cells [.int .i64 0, .int .i64 0, .int .i64 0, .int .i64 0, .int .i64 0, .int .u64 0, .string ⟨#[]⟩] true)
      let n0 : Nd := nd0 (op : Int)
      let H4 := H3.set i (some (.cells n0.cells true))
      have hpi : p ≠ i := by have := h.pl; have := hf2.next; show p ≠ H2.next; omega
      have hst7 : ∀ {α : Type} (k : Hp → Option α), zau 7 H3 (.pointer (some ⟨i, 0, none⟩)) n0.val k = k H4 := fun k => by
        have e : H3.wr (.pointer (some ⟨i, 0, none⟩)) 7 n0.val = some H4 := by
          have hg : H3.get i = some (.cells [.int .i64 0, .int .i64 0, .int .i64 0, .int .i64 0, .int .i64 0, .int .u64 0, .string ⟨#[]⟩] true) := if_pos rfl
          have hw : za8 7 [.int .i64 0, .int .i64 0, .int .i64 0, .int .i64 0, .int .i64 0, .int .u64 0, .string ⟨#[]⟩] 0 n0.val = some n0.cells := by kernel_rfl
          show (match H3.get i with | some (.cells cs true) => (match za8 7 cs 0 n0.val with | some cs' => some (H3.set i (some (.cells cs' true))) | none => none) | _ => none) = _
          rw [hg]; dsimp only; rw [hw]
        unfold zau; rw [e]
      have hf24 : Frm (fun _ => False) H2 H4 := (zde _ _ _).trans (ze6 H3 i _ (· = i) rfl) fun j q => .inr (by rw [q]; exact Nat.le_refl _)
      have hf4 : Frm (· = p) H H4 := hf2.trans (hf24.mono fun j q => q.elim) fun j q => .inl q
      have hN : NS H4 p i (.pointer (some ⟨st, 0, none⟩)) wv1 tv r n0 := by
        have h2 : RdS H2 p (.pointer (some ⟨st, 0, none⟩)) wv1 tv r := a2.keep b1 (fun q => q) fun _ _ q => q
        refine ⟨h2.keep hf24 (fun q => q) (fun _ _ q => q), fun q => ?_, hpi, by show (H3.set i _).get i = _; rw [get_set, if_pos rfl], by show H2.next < H2.next + 1; omega⟩
        have : i < H2.next := by
          rcases h2.wd with ⟨_, e⟩ | ⟨y, c, pre, rest, own, e, _, _, hlt⟩
          · rw [e] at q; cases q
          · rw [e] at q
            have e2 : y = i := Option.some.inj q
            rw [e2] at hlt; exact hlt
        exact Nat.lt_irrefl _ this
      have hA : Away p i := ⟨hp, by have := hL.next; have := hf2.next; show _ ≤ H2.next; omega⟩
      have hti : ¬ Id tv i := fun q => by have := ht.lt q; have := hf2.next; have : i = H2.next := rfl; omega
      have hL4 : Laid H4 := hL.keep hf4 fun j q => by rw [q]; exact hp
      have bkk : ∀ {H' : Hp}, Frm (fun j => j = p ∨ j = i) H4 H' → Frm (· = p) H H' := fun k => hf4.trans (k.mono fun j q => .inl q) fun j q => by
        rcases q with q | q
        · exact .inl q
        · right; rw [q]; exact hf2.next
      have hpa : ∀ {α : Type} (k : Value → Hp → Option α), zdm [.int .i64 0, .int .i64 0, .int .i64 0, .int .i64 0, .int .i64 0, .int .u64 0, .string ⟨#[]⟩] H2 k = k (.pointer (some ⟨i, 0, none⟩)) H3 := fun k => rfl
      rw [hpa, show (Nd.val ⟨(op : Int), 0, 0, 0, 0, 0, ⟨#[]⟩⟩) = n0.val from rfl, hst7] at hrun
      have p1 := ph1_ok hN hA hL4 ts
      have hfl : rdF (zcD (op : Int)) r ts 0 n0 = match rdF (preF n0.op) r ts 0 n0 with
          | none => none
          | some (m1, w1) => match rdF (List.replicate (zak m1.op).toNat .p) w1 ts 0 m1 with
            | none => none
            | some (m2, w2) => rdF (postF m2.op) w2 ts (zak m2.op).toNat m2 := by
        unfold zcD
        rw [rdF_app, show n0.op = (op : Int) from rfl]
        cases e1 : rdF (preF (op : Int)) r ts 0 n0 with
        | none => rfl
        | some q1 =>
          obtain ⟨m1, w1⟩ := q1
          have o1 : m1.op = (op : Int) := (zhb _ _ _ _ _ _ _ e1).1
          dsimp only
          rw [rdF_app, zl8, o1, Nat.add_zero]
          cases e2 : rdF (List.replicate (zak (op : Int)).toNat .p) w1 ts 0 m1 with
          | none => rfl
          | some q2 =>
            obtain ⟨m2, w2⟩ := q2
            have o2 : m2.op = (op : Int) := (zhb _ _ _ _ _ _ _ e2).1.trans o1
            dsimp only
            rw [o2, Nat.zero_add, List.count_replicate_self]
      show NodeA H p st f g lim L K sl wv tv (match rdF (zcD (op : Int)) r ts 0 n0 with
        | some (m, []) => some { m with w := zb2 L m }
        | _ => none)
      rw [hfl]
      have no : zk3 n0 := ⟨by show (0 : Int) ≤ 0; decide, by show (0 : Int) < 18446744073709551616; decide⟩
      cases e1 : rdF (preF n0.op) r ts 0 n0 with
      | none =>
        rw [e1] at p1
        obtain ⟨H5, c1, c2⟩ := p1
        have c1 : ph1 (.pointer (some ⟨p, 0, none⟩)) (.pointer (some ⟨i, 0, none⟩)) H4 = some (.ret, [W0 (zbK 3)], H5) := c1
        refine ⟨H5, hrun.trans ?_, wid (bkk c2)⟩
        show zat (ph1 (.pointer (some ⟨p, 0, none⟩)) (.pointer (some ⟨i, 0, none⟩)) H4) _ = _
        rw [c1]; rfl
      | some q1 =>
        obtain ⟨m1, w1⟩ := q1
        rw [e1] at p1
        obtain ⟨H5, wv5, c1, c2, c3, c4⟩ := p1
        have g1 := zhb _ _ _ _ _ _ _ e1
        have hL5 : Laid H5 := hA.laid hL4 c4
        have ht5 : Vec H5 1 tv ts.length (i64s ts) := ht.keep (bkk c4) fun j hj q => htp (by rw [q] at hj; exact hj)
        have hb := zjG m1.op
        obtain ⟨P, hP⟩ : ∃ P : Nat, zak m1.op = (P : Int) := ⟨(zak m1.op).toNat, by omega⟩
        have p2 := zlo hA ts P (by omega) htp hti P 0 H5 wv5 w1 m1 (by omega) c2 hL5 ht5
        have hrun2 : RR F.a12 [.pointer (some ⟨p, 0, none⟩)] H = _ := hrun
        have hop5 : ∀ {α : Type} (k : Value → Option α), zah 1 false H5 (.pointer (some ⟨i, 0 + 0, none⟩)) k = k (.int .i64 m1.op) := fun k => c2.ld 0 _ rfl k
        dsimp only
        have hPn : (zak m1.op).toNat = P := by omega
        rw [hPn]
        have hrun3 := hrun.trans (show zat (ph1 (.pointer (some ⟨p, 0, none⟩)) (.pointer (some ⟨i, 0, none⟩)) H4) _ = _ by rw [c1, zan, zaA, zaL, hop5, zaj (c29 m1.op H5), hP])
        have p2' : PhA H5 p i (.pointer (some ⟨st, 0, none⟩)) wv5 tv (rdF (List.replicate P .p) w1 ts 0 m1) (.exit 1) [.int .i64 (P : Int)] (zaE (zaI RR (.pointer (some ⟨p, 0, none⟩)) (.int .i64 (P : Int)) (.pointer (some ⟨i, 0, none⟩))) [.int .i64 0] H5) := p2
        cases e2 : rdF (List.replicate P .p) w1 ts 0 m1 with
        | none =>
          rw [e2] at p2'
          obtain ⟨H6, d1, d2⟩ := p2'
          refine ⟨H6, hrun3.trans ?_, wid (bkk (c4.trans d2 fun j q => .inl q))⟩
          rw [d1]; rfl
        | some q2 =>
          obtain ⟨m2, w2⟩ := q2
          rw [e2] at p2'
          obtain ⟨H6, wv6, d1, d2, d3, d4⟩ := p2'
          have g2 := zhb _ _ _ _ _ _ _ e2
          have c46 : Frm (fun j => j = p ∨ j = i) H4 H6 := c4.trans d4 fun j q => .inl q
          have hL6 : Laid H6 := hA.laid hL4 c46
          have hS6 : StF H6 st lim L K sl f g := hS.keep (fun j hj => (bkk c46).same j (hS.foot_lt hj) fun q => hfp (by rw [q] at hj; exact hj)) (bkk c46).next
          have p3 := ph3_ok d2 hA hL6 hS6 hR ts
          dsimp only
          cases e3 : rdF (postF m2.op) w2 ts (zak m2.op).toNat m2 with
          | none =>
            rw [e3] at p3
            obtain ⟨H7, x1, x2⟩ := p3
            have x1 : ph3 (.pointer (some ⟨p, 0, none⟩)) (.pointer (some ⟨i, 0, none⟩)) H6 = some (.ret, [W0 (zbK 3)], H7) := x1
            refine ⟨H7, hrun3.trans ?_, wid (bkk (c46.trans x2 fun j q => .inl q))⟩
            rw [d1, zan, zbe, zaO]
            show zat (ph3 (.pointer (some ⟨p, 0, none⟩)) (.pointer (some ⟨i, 0, none⟩)) H6) _ = _
            rw [x1]; rfl
          | some q3 =>
            obtain ⟨m3, w3⟩ := q3
            rw [e3] at p3
            obtain ⟨H7, wv7, x1, x2, x3, x4⟩ := p3
            have g3 := zhb _ _ _ _ _ _ _ e3
            have x1 : ph3 (.pointer (some ⟨p, 0, none⟩)) (.pointer (some ⟨i, 0, none⟩)) H6 = some (.next, [], H7) := x1
            have c47 : Frm (fun j => j = p ∨ j = i) H4 H7 := c46.trans x4 fun j q => .inl q
            let m : Nd := { m3 with w := zb2 L m3 }
            have x2 : NS H7 p i (.pointer (some ⟨st, 0, none⟩)) wv7 tv w3 m := x2
            have hwv : ∀ {α : Type} (k : Value → Option α), zah 1 false H7 (.pointer (some ⟨p, 0 + 1, none⟩)) k = k wv7 := fun k => zba x2.rs.rd 1 _ rfl k
            have hsp : ∀ {α : Type} (k : Value → Option α), zah 1 false H7 (.pointer (some ⟨p, 0 + 0, none⟩)) k = k (.pointer (some ⟨st, 0, none⟩)) := fun k => zba x2.rs.rd 0 _ rfl k
            have hrun4 := hrun3.trans (show _ = _ by rw [d1, zan, zbe, zaO])
            have hrun5 := hrun4.trans (show zat (ph3 (.pointer (some ⟨p, 0, none⟩)) (.pointer (some ⟨i, 0, none⟩)) H6) _ = _ by rw [x1, zan, zaA, zbt, zaL, hwv, x2.rs.wd.len])
            cases w3 with
            | cons w w3 =>
              refine ⟨H7, hrun5.trans ?_, wid (bkk c47)⟩
              have hz : (((w :: w3).length : Int) > 0) := by rw [List.length_cons]; omega
              simp only [zbi, hz, decide_true, zac, s_br, if_true, zbG]
            | nil =>
              have hz : ¬ ((([] : List (List UInt8)).length : Int) > 0) := by decide
              have hld7 : ∀ {α : Type} (k : Value → Option α), zah 7 true H7 (.pointer (some ⟨i, 0, none⟩)) k = k m.val := fun k => by
                have e : H7.rdP (.pointer (some ⟨i, 0, none⟩)) 7 true = some m.val := by
                  simp only [Hp.rdP, Hp.rd, x2.nd, zbM]
                  kernel_rfl
                unfold zah; rw [e]
              have hS7 : StF H7 st lim L K sl f g := hS.keep (fun j hj => (bkk c47).same j (hS.foot_lt hj) fun q => hfp (by rw [q] at hj; exact hj)) (bkk c47).next
              have hm : zk3 m := g3.2 (g2.2 (g1.2 no))
              obtain ⟨H8, sl8, y1, y2⟩ := d22 hS7 hR m hm
              have hrun6 := hrun5.trans (show _ = _ by
                simp only [zbi, hz, decide_false, zac, s_br, Bool.false_eq_true, if_false, zbt, zaL, hsp, hld7]
                rw [zaj y1, x01])
              have hfm : Frm (Foot st f g sl) H7 H8 := ⟨y2.next, fun j hj hn => y2.frame j hj (fun q => hn (.inl q)) (fun q => hn (.inr (.inl q))) (fun q => hn (.inr (.inr (.inl q)))) (fun q => hn (.inr (.inr (.inr q))))⟩
              have hff : Frm (fun j => j = p ∨ Foot st f g sl j) H H8 := (wid (bkk c47)).trans (hfm.mono fun j q => .inl q) fun j q => .inl (.inr q)
              refine ⟨fun hne => ⟨H8, hrun6.trans ?_, hff⟩, fun heq => ⟨H8, wv7, sl8, hrun6.trans ?_, ?_, y2.st, hff, fun j q => ?_, fun j q => a3 j (c3 j (d3 j (x3 j q)))⟩⟩
              · have hne : ¬ ((mkR lim L K m).2.1 = 0) := hne
                simp only [zbb, hne, ne_eq, not_false_eq_true, decide_true, zac, s_br, if_true, zbG]
                rfl
              · have e0 : ¬ ((mkR lim L K m).2.1 ≠ 0) := fun q => q heq
                simp only [zbb, e0, decide_false, zac, s_br, Bool.false_eq_true, if_false]
                rfl
              · exact x2.rs.keep hfm hfp fun j hj => hfw j (a3 j (c3 j (d3 j (x3 j hj))))
              · rcases q with q | q | q | q
                · exact .inl (.inl q)
                · exact .inl (.inr (.inl q))
                · exact .inl (.inr (.inr (.inl q)))
                · rcases y2.own j q with z | z
                  · exact .inl (.inr (.inr (.inr z)))
                  · right; have := (bkk c47).next; omega
end Go.AM
namespace Go.AM
open Go
structure Reg (B : Nat) (H : Hp) (r : Nat → Nat → Prop) : Prop where
  lt : ∀ a j, r a j → j < H.next
  lo : ∀ a j, r a j → B ≤ j
  ap : ∀ a b j, r a j → r b j → a = b
def InR (S : List Nat) (r : Nat → Nat → Prop) (j : Nat) : Prop := ∃ a, a ∈ S ∧ r a j
theorem Reg.off {B : Nat} {H : Hp} {r : Nat → Nat → Prop} (h : Reg B H r) {S : List Nat} {b j : Nat} (hj : r b j) (hb : b ∉ S) : ¬ InR S r j := fun ⟨a, ha, hr⟩ => hb (h.ap a b j hr hj ▸ ha)
theorem Reg.upd {B : Nat} {H H' : Hp} {r r' : Nat → Nat → Prop} (h : Reg B H r) (a : Nat) (hn : H.next ≤ H'.next) (hg : B ≤ H.next) (same : ∀ b j, b ≠ a → r' b j → r b j) (new : ∀ j, r' a j → r a j ∨ (H.next ≤ j ∧ j < H'.next)) : Reg B H' r' := by
  have key : ∀ b j, r' b j → r b j ∨ (b = a ∧ H.next ≤ j ∧ j < H'.next) := fun b j hj => by
    by_cases e : b = a
    · subst e
      rcases new j hj with q | q
      · exact .inl q
      · exact .inr ⟨rfl, q⟩
    · exact .inl (same b j e hj)
  refine ⟨fun b j hj => ?_, fun b j hj => ?_, fun b c j hb hc => ?_⟩
  · rcases key b j hj with q | ⟨_, _, q⟩
    · exact Nat.lt_of_lt_of_le (h.lt b j q) hn
    · exact q
  · rcases key b j hj with q | ⟨_, q, _⟩
    · exact h.lo b j q
    · omega
  · rcases key b j hb with q | ⟨q, q1, _⟩ <;> rcases key c j hc with z | ⟨z, z1, _⟩
    · exact h.ap b c j q z
    · have := h.lt b j q; omega
    · have := h.lt c j z; omega
    · rw [q, z]
def LRg (p1 p3 p5 st f g p : Nat) (sl lv tv rv wv : Value) : Nat → Nat → Prop
  | 0 => fun j => j = p1
  | 1 => fun j => j = p3
  | 2 => fun j => j = p5
  | 3 => Foot st f g sl
  | 4 => Id lv
  | 5 => fun j => j = p
  | 6 => Id tv
  | 7 => Id rv
  | 8 => Id wv
  | _ => fun _ => False
structure LS (B : Nat) (H : Hp) (p1 p3 p5 st f g p : Nat) (lim : Int) (lv : Value) (lines : List (List UInt8)) (L : List Nd) (K : List (ByteArray × Int)) (sl tv : Value) (ts : List Int) (rv : Value) (rs : List Int) (wv : Value) (ws : List (List UInt8)) : Prop where
  gB : PP.globals.size ≤ B
  bn : B ≤ H.next
  reg : Reg B H (LRg p1 p3 p5 st f g p sl lv tv rv wv)
  b1 : H.get p1 = some (.cells [.pointer (some ⟨st, 0, none⟩)] true)
  b3 : H.get p3 = some (.cells [rv] true)
  b5 : H.get p5 = some (.cells [.int .i64 0] true)
  store : StF H st lim L K sl f g
  lin : Vec H 1 lv lines.length (lines.map str)
  rd : RdS H p (.pointer (some ⟨st, 0, none⟩)) wv tv ws
  tv : Vec H 1 tv ts.length (i64s ts)
  rv : Vec H 1 rv rs.length (i64s rs)
  laid : Laid H
section
variable {B : Nat} {H H' : Hp} {p1 p3 p5 st f g p : Nat} {lim : Int} {lv : Value} {lines : List (List UInt8)} {L : List Nd} {K : List (ByteArray × Int)} {sl tv : Value} {ts : List Int} {rv : Value} {rs : List Int} {wv : Value} {ws : List (List UInt8)}
theorem LS.off (h : LS B H p1 p3 p5 st f g p lim lv lines L K sl tv ts rv rs wv ws) (S : List Nat) (b : Nat) (hb : b ∉ S) {j : Nat} (hj : LRg p1 p3 p5 st f g p sl lv tv rv wv b j) : ¬ InR S (LRg p1 p3 p5 st f g p sl lv tv rv wv) j := h.reg.off hj hb
theorem LS.lay (h : LS B H p1 p3 p5 st f g p lim lv lines L K sl tv ts rv rs wv ws) {S : List Nat} (k : Frm (InR S (LRg p1 p3 p5 st f g p sl lv tv rv wv)) H H') : Laid H' := h.laid.keep k fun j ⟨a, _, q⟩ => Nat.le_trans h.gB (h.reg.lo a j q)
theorem LS.up (h : LS B H p1 p3 p5 st f g p lim lv lines L K sl tv ts rv rs wv ws) {S : List Nat} (k : Frm (InR S (LRg p1 p3 p5 st f g p sl lv tv rv wv)) H H') : Frm (B ≤ ·) H H' := k.mono fun j ⟨a, _, q⟩ => .inl (h.reg.lo a j q)
theorem LS.read (h : LS B H p1 p3 p5 st f g p lim lv lines L K sl tv ts rv rs wv ws) (k : Frm (· = p) H H') {wv' : Value} {ws' : List (List UInt8)} (hr : RdS H' p (.pointer (some ⟨st, 0, none⟩)) wv' tv ws') (hw : ∀ j, Id wv' j → Id wv j ∨ (H.next ≤ j ∧ j < H'.next)) :
    LS B H' p1 p3 p5 st f g p lim lv lines L K sl tv ts rv rs wv' ws' := by
  have k' : Frm (InR [5] (LRg p1 p3 p5 st f g p sl lv tv rv wv)) H H' := k.mono fun j q => .inl ⟨5, by simp, q⟩
  have o : ∀ b j, b ∉ [5] → LRg p1 p3 p5 st f g p sl lv tv rv wv b j → H'.get j = H.get j := fun b j hb hj => k'.same j (h.reg.lt b j hj) (h.off [5] b hb hj)
  refine ⟨h.gB, Nat.le_trans h.bn k.next, h.reg.upd 8 k.next h.bn (fun b j hb hj => ?_) fun j hj => hw j hj, by rw [o 0 p1 (by decide) rfl]; exact h.b1, by rw [o 1 p3 (by decide) rfl]; exact h.b3, by rw [o 2 p5 (by decide) rfl]; exact h.b5,
    h.store.keep (fun j hj => o 3 j (by decide) hj) k.next, h.lin.keep' (fun j hj => o 4 j (by decide) hj) k.next, hr, h.tv.keep' (fun j hj => o 6 j (by decide) hj) k.next, h.rv.keep' (fun j hj => o 7 j (by decide) hj) k.next, h.lay k'⟩
  match b, hb, hj with
  | 0, _, hj => exact hj
  | 1, _, hj => exact hj
  | 2, _, hj => exact hj
  | 3, _, hj => exact hj
  | 4, _, hj => exact hj
  | 5, _, hj => exact hj
  | 6, _, hj => exact hj
  | 7, _, hj => exact hj
  | 8, hb, _ => exact absurd rfl hb
  | n + 9, _, hj => exact hj
theorem LS.grow (h : LS B H p1 p3 p5 st f g p lim lv lines L K sl tv ts rv rs wv ws) (k : Frm (fun j => j = p ∨ Foot st f g sl j) H H') {wv' : Value} {ws' : List (List UInt8)} (hr : RdS H' p (.pointer (some ⟨st, 0, none⟩)) wv' tv ws') (hw : ∀ j, Id wv' j → Id wv j)
    {L' : List Nd} {K' : List (ByteArray × Int)} {sl' : Value} (hs : StF H' st lim L' K' sl' f g) (hf : ∀ j, Foot st f g sl' j → Foot st f g sl j ∨ H.next ≤ j) :
    LS B H' p1 p3 p5 st f g p lim lv lines L' K' sl' tv ts rv rs wv' ws' := by
  have k' : Frm (InR [3, 5] (LRg p1 p3 p5 st f g p sl lv tv rv wv)) H H' := k.mono fun j q => .inl (by rcases q with q | q; exact ⟨5, by simp, q⟩; exact ⟨3, by simp, q⟩)
  have o : ∀ b j, b ∉ [3, 5] → LRg p1 p3 p5 st f g p sl lv tv rv wv b j → H'.get j = H.get j := fun b j hb hj => k'.same j (h.reg.lt b j hj) (h.off [3, 5] b hb hj)
  have r1 : Reg B H' (LRg p1 p3 p5 st f g p sl' lv tv rv wv) := h.reg.upd 3 k.next h.bn (fun b j hb hj => by
    match b, hb, hj with
    | 0, _, hj => exact hj
    | 1, _, hj => exact hj
    | 2, _, hj => exact hj
    | 3, hb, _ => exact absurd rfl hb
    | 4, _, hj => exact hj
    | 5, _, hj => exact hj
    | 6, _, hj => exact hj
    | 7, _, hj => exact hj
    | 8, _, hj => exact hj
    | n + 9, _, hj => exact hj) fun j hj => (hf j hj).imp id fun q => ⟨q, hs.foot_lt hj⟩
  have r2 : Reg B H' (LRg p1 p3 p5 st f g p sl' lv tv rv wv') := r1.upd 8 (Nat.le_refl _) (Nat.le_trans h.bn k.next) (fun b j hb hj => by
    match b, hb, hj with
    | 0, _, hj => exact hj
    | 1, _, hj => exact hj
    | 2, _, hj => exact hj
    | 3, _, hj => exact hj
    | 4, _, hj => exact hj
    | 5, _, hj => exact hj
    | 6, _, hj => exact hj
    | 7, _, hj => exact hj
    | 8, hb, _ => exact absurd rfl hb
    | n + 9, _, hj => exact hj) fun j hj => .inl (hw j hj)
  exact ⟨h.gB, Nat.le_trans h.bn k.next, r2, by rw [o 0 p1 (by decide) rfl]; exact h.b1, by rw [o 1 p3 (by decide) rfl]; exact h.b3, by rw [o 2 p5 (by decide) rfl]; exact h.b5,
    hs, h.lin.keep' (fun j hj => o 4 j (by decide) hj) k.next, hr, h.tv.keep' (fun j hj => o 6 j (by decide) hj) k.next, h.rv.keep' (fun j hj => o 7 j (by decide) hj) k.next, h.lay k'⟩
theorem zfH {α : Type} (z x : Int) (H : Hp) (k : Value → Hp → Option α) : zap 1 [.int .i64 z] 1 [(0, .int .i64 x)] H k = k (.slice (some ⟨H.next, 0, some 1⟩) 1 1) (H.new (.cells [.int .i64 x] true)) := by
  have : zbv 1 [.int .i64 z] 1 [(0, .int .i64 x)] H = some (.slice (some ⟨H.next, 0, some 1⟩) 1 1, H.new (.cells [.int .i64 x] true)) := by
    unfold zbv
    rw [if_neg (by decide)]
    rfl
  unfold zap; rw [this]
theorem zfz {cs : List Value} {o : Nat} {v : Value} {i : Nat} (hg : H.get i = some (.cells cs true)) (hc : zaa v = [v]) (h1 : one v = true) (ho : o < cs.length) {α : Type} (k : Hp → Option α) :
    zau 1 H (.pointer (some ⟨i, o, none⟩)) v k = k (H.set i (some (.cells (spl cs o [v]) true))) := by
  have hw : za8 1 cs o v = some (spl cs o [v]) := by
    unfold za8
    rw [hc, if_pos ⟨rfl, by omega, by simp [h1]⟩]
  have : H.wr (.pointer (some ⟨i, o, none⟩)) 1 v = some (H.set i (some (.cells (spl cs o [v]) true))) := by
    show (match H.get i with | some (.cells cs true) => (match za8 1 cs o v with | some cs' => some (H.set i (some (.cells cs' true))) | none => none) | _ => none) = _
    rw [hg]; dsimp only; rw [hw]
  unfold zau; rw [this]
theorem zcW {sz : Nat} {v : Value} {n : Nat} {cs : List Value} (h : Vec H sz v n cs) : zaa v = [v] ∧ one v = true := by
  rcases h with ⟨_, _, rfl⟩ | ⟨y, c, rest, rfl, _⟩ <;> exact ⟨rfl, rfl⟩
theorem zgM {v : Value} {l : List Int} (h : Vec H 1 v l.length (i64s l)) (hl : l.length ≤ 2 ^ 40) (x z : Int) :
    ∃ v' H', (∀ (α : Type) (k : Value → Hp → Option α), zaQ 1 8 v (.slice (some ⟨H.next, 0, some 1⟩) 1 1) (H.new (.cells [.int .i64 x] true)) k = k v' H') ∧ Vec H' 1 v' (l ++ [x]).length (i64s (l ++ [x])) ∧ Frm (Id v) H H' ∧ (∀ j, Id v' j → Id v j ∨ (H.next ≤ j ∧ j < H'.next)) := by
  obtain ⟨v', H', h1, h2, h3, h4, _⟩ := h.push (bytes := 8) (zs := [.int .i64 z]) (x := .int .i64 x) (by omega) (by omega) rfl rfl rfl (by omega)
  refine ⟨v', H', fun α k => ?_, ?_, h3, fun j hj => (h4 j hj).imp id fun q => ⟨q, h2.lt hj⟩⟩
  · have := h1 α k
    rw [zfH] at this
    exact this
  · have e : i64s (l ++ [x]) = i64s l ++ zaa (.int .i64 x) := by simp [i64s, zaa, Value.cells]
    rw [List.length_append, e]
    exact h2
theorem LS.root (h : LS B H p1 p3 p5 st f g p lim lv lines L K sl tv ts rv rs wv ws) (hl : rs.length ≤ 2 ^ 40) (x z : Int) :
    ∃ rv' H', (∀ (α : Type) (k : Hp → Option α), (zap 1 [.int .i64 z] 1 [(0, .int .i64 x)] H fun v88 H89 => chk (Hp.rdP H89 (.pointer (some ⟨p3, 0, none⟩)) 1 false = some rv) (zaQ 1 8 rv v88 H89 fun v90 H91 => zau 1 H91 (.pointer (some ⟨p3, 0, none⟩)) v90 k)) = k H') ∧
      LS B H' p1 p3 p5 st f g p lim lv lines L K sl tv ts rv' (rs ++ [x]) wv ws ∧ Frm (InR [1, 7] (LRg p1 p3 p5 st f g p sl lv tv rv wv)) H H' ∧ (∀ j, Id rv' j → Id rv j ∨ H.next ≤ j) := by
  obtain ⟨rv', H1, a1, a2, a3, a4⟩ := zgM h.rv hl x z
  have hp3 : p3 < H.next := h.reg.lt 1 p3 rfl
  have n3 : ¬ Id rv p3 := fun q => by have := h.reg.ap 1 7 p3 rfl q; omega
  have g3 : H1.get p3 = some (.cells [rv] true) := by rw [a3.same p3 hp3 n3]; exact h.b3
  have n3' : ¬ Id rv' p3 := fun q => by
    rcases a4 p3 q with z | z
    · exact n3 z
    · omega
  have f2 : Frm (· = p3) H1 (H1.set p3 (some (.cells [rv'] true))) := ze6 _ _ _ _ rfl
  have k' : Frm (InR [1, 7] (LRg p1 p3 p5 st f g p sl lv tv rv wv)) H (H1.set p3 (some (.cells [rv'] true))) := (a3.mono fun j q => .inl ⟨7, by simp, q⟩).trans (f2.mono fun j q => .inl q) fun j q => .inl ⟨1, by simp, q⟩
  have o : ∀ b j, b ∉ [1, 7] → LRg p1 p3 p5 st f g p sl lv tv rv wv b j → (H1.set p3 (some (.cells [rv'] true))).get j = H.get j := fun b j hb hj => k'.same j (h.reg.lt b j hj) (h.off [1, 7] b hb hj)
  have r1 : Reg B (H1.set p3 (some (.cells [rv'] true))) (LRg p1 p3 p5 st f g p sl lv tv rv' wv) := h.reg.upd 7 k'.next h.bn (fun b j hb hj => by
    match b, hb, hj with
    | 0, _, hj => exact hj
    | 1, _, hj => exact hj
    | 2, _, hj => exact hj
    | 3, _, hj => exact hj
    | 4, _, hj => exact hj
    | 5, _, hj => exact hj
    | 6, _, hj => exact hj
    | 7, hb, _ => exact absurd rfl hb
    | 8, _, hj => exact hj
    | n + 9, _, hj => exact hj) a4
  refine ⟨rv', H1.set p3 (some (.cells [rv'] true)), fun α k => ?_, ⟨h.gB, Nat.le_trans h.bn k'.next, r1, by rw [o 0 p1 (by decide) rfl]; exact h.b1, by rw [get_set, if_pos rfl], by rw [o 2 p5 (by decide) rfl]; exact h.b5,
    h.store.keep (fun j hj => o 3 j (by decide) hj) k'.next, h.lin.keep' (fun j hj => o 4 j (by decide) hj) k'.next, h.rd.keep k' (h.off [1, 7] 5 (by decide) rfl) fun j hj => h.off [1, 7] 8 (by decide) hj,
    h.tv.keep' (fun j hj => o 6 j (by decide) hj) k'.next, a2.keep f2 fun j hj e => n3' (by rw [e] at hj; exact hj), h.lay k'⟩, k', fun j hj => (a4 j hj).imp id fun q => q.1⟩
  rw [zfH]
  have hrd : Hp.rdP (H.new (.cells [.int .i64 x] true)) (.pointer (some ⟨p3, 0, none⟩)) 1 false = some rv := ze3 (own := true) (cs := [rv]) (by rw [get_new, if_neg (by omega)]; exact h.b3) 0 rv rfl
  rw [zgE hrd, a1]
  exact zfz g3 (zcW a2).1 (zcW a2).2 (by show 0 < 1; decide) k
theorem LS.term (h : LS B H p1 p3 p5 st f g p lim lv lines L K sl tv ts rv rs wv ws) (hl : ts.length ≤ 2 ^ 40) (x z : Int) :
    ∃ tv' H', (∀ (α : Type) (k : Hp → Option α), (zap 1 [.int .i64 z] 1 [(0, .int .i64 x)] H fun v88 H89 => zaQ 1 8 tv v88 H89 fun v90 H91 => zau 1 H91 (.pointer (some ⟨p, 0 + 2, none⟩)) v90 k) = k H') ∧
      LS B H' p1 p3 p5 st f g p lim lv lines L K sl tv' (ts ++ [x]) rv rs wv ws ∧ Frm (InR [5, 6] (LRg p1 p3 p5 st f g p sl lv tv rv wv)) H H' ∧ (∀ j, Id tv' j → Id tv j ∨ H.next ≤ j) := by
  obtain ⟨tv', H1, a1, a2, a3, a4⟩ := zgM h.tv hl x z
  have hp : p < H.next := h.reg.lt 5 p rfl
  have n3 : ¬ Id tv p := fun q => by have := h.reg.ap 5 6 p rfl q; omega
  have g3 : H1.get p = some (.cells [.pointer (some ⟨st, 0, none⟩), wv, tv] true) := by rw [a3.same p hp n3]; exact h.rd.rd
  have n3' : ¬ Id tv' p := fun q => by
    rcases a4 p q with z | z
    · exact n3 z
    · omega
  let H2 := H1.set p (some (.cells [.pointer (some ⟨st, 0, none⟩), wv, tv'] true))
  have f2 : Frm (· = p) H1 H2 := ze6 _ _ _ _ rfl
  have k' : Frm (InR [5, 6] (LRg p1 p3 p5 st f g p sl lv tv rv wv)) H H2 := (a3.mono fun j q => .inl ⟨6, by simp, q⟩).trans (f2.mono fun j q => .inl q) fun j q => .inl ⟨5, by simp, q⟩
  have o : ∀ b j, b ∉ [5, 6] → LRg p1 p3 p5 st f g p sl lv tv rv wv b j → H2.get j = H.get j := fun b j hb hj => k'.same j (h.reg.lt b j hj) (h.off [5, 6] b hb hj)
  have r1 : Reg B H2 (LRg p1 p3 p5 st f g p sl lv tv' rv wv) := h.reg.upd 6 k'.next h.bn (fun b j hb hj => by
    match b, hb, hj with
    | 0, _, hj => exact hj
    | 1, _, hj => exact hj
    | 2, _, hj => exact hj
    | 3, _, hj => exact hj
    | 4, _, hj => exact hj
    | 5, _, hj => exact hj
    | 6, hb, _ => exact absurd rfl hb
    | 7, _, hj => exact hj
    | 8, _, hj => exact hj
    | n + 9, _, hj => exact hj) a4
  refine ⟨tv', H2, fun α k => ?_, ⟨h.gB, Nat.le_trans h.bn k'.next, r1, by rw [o 0 p1 (by decide) rfl]; exact h.b1, by rw [o 1 p3 (by decide) rfl]; exact h.b3, by rw [o 2 p5 (by decide) rfl]; exact h.b5,
    h.store.keep (fun j hj => o 3 j (by decide) hj) k'.next, h.lin.keep' (fun j hj => o 4 j (by decide) hj) k'.next,
    ⟨by show (H1.set p _).get p = _; rw [get_set, if_pos rfl], h.rd.wd.keep k' fun j hj => h.off [5, 6] 8 (by decide) hj, h.rd.wp, Nat.lt_of_lt_of_le hp k'.next, h.rd.sh⟩,
    a2.keep f2 fun j hj e => n3' (by rw [e] at hj; exact hj), h.rv.keep' (fun j hj => o 7 j (by decide) hj) k'.next, h.lay k'⟩, k', fun j hj => (a4 j hj).imp id fun q => q.1⟩
  rw [zfH, a1]
  exact zfz g3 (zcW a2).1 (zcW a2).2 (by show 2 < 3; decide) k
end
def zbV (ts : List Int) : List (List UInt8) → Option (List Int)
  | [] => some []
  | w :: r => match zi0 ts (w :: r) with
    | none => none
    | some t => match zbV ts r with
      | none => none
      | some l => some (t :: l)
theorem zif {B : Nat} {p1 p3 p5 st f g p : Nat} {lim : Int} {lv : Value} {lines : List (List UInt8)} {L : List Nd} {K : List (ByteArray × Int)} {sl tv : Value} {ts : List Int} (lineV : Value) : ∀ (ws : List (List UInt8)) (H : Hp) (rv : Value) (rs : List Int) (wv : Value), LS B H p1 p3 p5 st f g p lim lv lines L K sl tv ts rv rs wv ws → rs.length + ws.length ≤ 2 ^ 40 →
    match zbV ts ws with
    | none => ∃ H' rv', zaE (za6 RR lineV (.pointer (some ⟨p3, 0, none⟩)) (.pointer (some ⟨p, 0, none⟩))) [] H = some (.ret, [W0 (.tuple #[zbK 3, lineV])], H') ∧ (H'.get p1 = H.get p1 ∧ H'.get p3 = some (.cells [rv'] true) ∧ H'.get p5 = H.get p5) ∧ Frm (B ≤ ·) H H'
    | some l => ∃ H' rv' wv', zaE (za6 RR lineV (.pointer (some ⟨p3, 0, none⟩)) (.pointer (some ⟨p, 0, none⟩))) [] H = some (.exit 2, [], H') ∧ LS B H' p1 p3 p5 st f g p lim lv lines L K sl tv ts rv' (rs ++ l) wv' [] ∧ Frm (B ≤ ·) H H'
  | [], H, rv, rs, wv, h, hl => by
    have hw := fun (α : Type) (k : Value → Option α) => zba h.rd.rd (0 + 1) wv rfl k
    have this : za6 RR lineV (.pointer (some ⟨p3, 0, none⟩)) (.pointer (some ⟨p, 0, none⟩)) [] H = some (.exit 2, [], H) := by
      unfold za6
      have h1 : ¬ (((([] : List (List UInt8)).length : Nat) : Int) > 0) := by decide
      simp only [zbt, zaL, hw, h.rd.wd.len, zbi, h1, decide_false, zac, s_br, Bool.false_eq_true, if_false]
    refine ⟨H, rv, wv, by rw [zam, this]; rfl, by rw [List.append_nil]; exact h, Frm.refl _ _⟩
  | w :: r, H, rv, rs, wv, h, hl => by
    have hw := fun (α : Type) (k : Value → Option α) => zba h.rd.rd (0 + 1) wv rfl k
    have h1 : ((((w :: r).length : Nat) : Int) > 0) := by rw [List.length_cons]; omega
    have hr3 := fun (α : Type) (k : Value → Option α) => zba h.b3 0 rv rfl k
    have hn := h.rd.part h.laid (Nat.le_trans h.gB (h.reg.lo 5 p rfl)) h.tv (fun q => by have := h.reg.ap 5 6 p rfl q; omega)
    rw [List.length_cons] at hl
    unfold zbV
    cases hp : zi0 ts (w :: r) with
    | none =>
      rw [hp] at hn
      obtain ⟨H1, a1, a2⟩ := hn
      have k' : Frm (InR [5] (LRg p1 p3 p5 st f g p sl lv tv rv wv)) H H1 := a2.mono fun j q => .inl ⟨5, by simp, q⟩
      have o : ∀ b j, b ∉ [5] → LRg p1 p3 p5 st f g p sl lv tv rv wv b j → H1.get j = H.get j := fun b j hb hj => k'.same j (h.reg.lt b j hj) (h.off [5] b hb hj)
      have this : za6 RR lineV (.pointer (some ⟨p3, 0, none⟩)) (.pointer (some ⟨p, 0, none⟩)) [] H = some (.ret, [W0 (.tuple #[zbK 3, lineV])], H1) := by
        unfold za6
        simp only [zbt, zaL, hw, h.rd.wd.len, zbi, h1, decide_true, zac, s_br, if_true, hr3]
        rw [zbr a1]
      exact ⟨H1, rv, by rw [zam, this]; rfl, ⟨o 0 p1 (by decide) rfl, by rw [o 1 p3 (by decide) rfl]; exact h.b3, o 2 p5 (by decide) rfl⟩, h.up k'⟩
    | some t =>
      rw [hp] at hn
      obtain ⟨H1, wv1, a1, a2, a3, a4⟩ := hn
      have h2 := h.read a4 a2 fun j q => .inl (a3 j q)
      obtain ⟨rv2, H2, b1, b2, b3, b4⟩ := h2.root (by omega) t 0
      have this : za6 RR lineV (.pointer (some ⟨p3, 0, none⟩)) (.pointer (some ⟨p, 0, none⟩)) [] H = some (.next, [], H2) := by
        unfold za6
        simp only [zbt, zaL, hw, h.rd.wd.len, zbi, h1, decide_true, zac, s_br, if_true, hr3]
        rw [zbq a1, zgE (ze3 h2.b3 0 rv rfl), b1]
      have f2 : Frm (B ≤ ·) H H2 := (h.up (S := [5]) (a4.mono fun j q => .inl ⟨5, by simp, q⟩)).trans (h2.up b3) fun j q => .inl q
      have back2 : ∀ {H' : Hp}, Frm (B ≤ ·) H2 H' → Frm (B ≤ ·) H H' := fun k => f2.trans k fun j q => .inl q
      have ih := zif lineV r H2 rv2 (rs ++ [t]) wv1 b2 (by rw [List.length_append]; simp; omega)
      dsimp only
      have hk1 : H2.get p1 = H.get p1 := by rw [b2.b1, h.b1]
      have hk5 : H2.get p5 = H.get p5 := by rw [b2.b5, h.b5]
      cases hq : zbV ts r with
      | none =>
        rw [hq] at ih
        obtain ⟨H3, rv3, c1, ⟨c2, c3, c4⟩, c5⟩ := ih
        refine ⟨H3, rv3, ?_, ⟨c2.trans hk1, c3, c4.trans hk5⟩, back2 c5⟩
        rw [zam, this]
        exact c1
      | some l =>
        rw [hq] at ih
        obtain ⟨H3, rv3, wv3, c1, c2, c5⟩ := ih
        refine ⟨H3, rv3, wv3, ?_, ?_, back2 c5⟩
        · rw [zam, this]
          exact c1
        · rw [List.append_assoc] at c2
          exact c2
end Go.AM
namespace Go.AM
open Go
theorem zk7 {l : List UInt8} (hl : l.length ≤ 2 ^ 40) : ∀ w ∈ za0 l, w.length ≤ 2 ^ 40 := fun w hw => by
  unfold za0 at hw
  obtain ⟨q, _, rfl⟩ := List.mem_map.1 hw
  have h : (zbd l q).length ≤ l.length := by
    unfold zbd
    rw [List.length_drop, List.length_take]
    omega
  omega
section
variable {B : Nat} {H H' : Hp} {p1 p3 p5 st f g p : Nat} {lim : Int} {lv : Value} {lines : List (List UInt8)} {L : List Nd} {K : List (ByteArray × Int)} {sl tv : Value} {ts : List Int} {rv : Value} {rs : List Int} {wv : Value} {ws : List (List UInt8)}
theorem LS.words (h : LS B H p1 p3 p5 st f g p lim lv lines L K sl tv ts rv rs wv ws) {l : List UInt8} (hl : l.length ≤ 2 ^ 40) :
    ∃ v H1 H2, RR F.a10 [str l, spF] H = some (v, H1) ∧ (∀ (α : Type) (k : Hp → Option α), zau 1 H1 (.pointer (some ⟨p, 0 + 1, none⟩)) v k = k H2) ∧ LS B H2 p1 p3 p5 st f g p lim lv lines L K sl tv ts rv rs v (za0 l) ∧ Frm (B ≤ ·) H H2 := by
  obtain ⟨v, H1, a1, a2, a3, a4⟩ := c_fields l hl H
  have g1 : H1.get p = some (.cells [.pointer (some ⟨st, 0, none⟩), wv, tv] true) := by rw [a3.same p h.rd.pl fun q => q]; exact h.rd.rd
  let H2 := H1.set p (some (.cells [.pointer (some ⟨st, 0, none⟩), v, tv] true))
  have f2 : Frm (· = p) H1 H2 := ze6 _ _ _ _ rfl
  have k' : Frm (· = p) H H2 := (a3.mono fun j q => q.elim).trans f2 fun j q => .inl q
  have hvp : ¬ Id v p := fun q => by have := a4 p q; have := h.rd.pl; omega
  have hr : RdS H2 p (.pointer (some ⟨st, 0, none⟩)) v tv (za0 l) := ⟨by show (H1.set p _).get p = _; rw [get_set, if_pos rfl], (Vec.wds a2).keep f2 fun j hj e => hvp (by rw [e] at hj; exact hj), hvp, Nat.lt_of_lt_of_le h.rd.pl k'.next, zk7 hl⟩
  have h2 := h.read k' hr fun j hj => .inr ⟨a4 j hj, Nat.lt_of_lt_of_le (a2.lt hj) f2.next⟩
  exact ⟨v, H1, H2, a1, fun α k => zfz g1 (zcW a2).1 (zcW a2).2 (by show 1 < 3; decide) k, h2, h.up (S := [5]) (k'.mono fun j q => .inl ⟨5, by simp, q⟩)⟩
end
def zc0 : List UInt8 := [114, 111, 111, 116, 115]
def zi9 (ws : List (List UInt8)) (ts : List Int) (L : List Nd) : Option Nd := match numF ws with
  | none => none
  | some v => if v = ((ts.length + 1 : Nat) : Int) then nodeP ws.tail ts L else none
def Gone (H : Hp) (p1 p3 p5 st : Nat) : Prop := H.get p1 = some (.cells [.pointer (some ⟨st, 0, none⟩)] true) ∧ (∃ rv, H.get p3 = some (.cells [rv] true)) ∧ H.get p5 = some (.cells [.int .i64 0] true)
section
variable {B : Nat} {H H' : Hp} {p1 p3 p5 st f g p : Nat} {lim : Int} {lv : Value} {lines : List (List UInt8)} {L : List Nd} {K : List (ByteArray × Int)} {sl tv : Value} {ts : List Int} {rv : Value} {rs : List Int} {wv : Value} {ws : List (List UInt8)}
theorem LS.gone (h : LS B H p1 p3 p5 st f g p lim lv lines L K sl tv ts rv rs wv ws) : Gone H p1 p3 p5 st := ⟨h.b1, ⟨rv, h.b3⟩, h.b5⟩
theorem LS.goneF (h : LS B H p1 p3 p5 st f g p lim lv lines L K sl tv ts rv rs wv ws) {S : List Nat} (k : Frm (InR S (LRg p1 p3 p5 st f g p sl lv tv rv wv)) H H') (h0 : 0 ∉ S) (h1 : 1 ∉ S) (h2 : 2 ∉ S) : Gone H' p1 p3 p5 st := by
  have o : ∀ b j, b ∉ S → LRg p1 p3 p5 st f g p sl lv tv rv wv b j → H'.get j = H.get j := fun b j hb hj => k.same j (h.reg.lt b j hj) (h.off S b hb hj)
  exact ⟨by rw [o 0 p1 h0 rfl]; exact h.b1, ⟨rv, by rw [o 1 p3 h1 rfl]; exact h.b3⟩, by rw [o 2 p5 h2 rfl]; exact h.b5⟩
def StepF (B : Nat) (H : Hp) (p1 p3 p5 st : Nat) (e : Int) (i : Nat) (X : Option Outc) : Prop := ∃ H', X = some (.ret, [W0 (.tuple #[zbK e, .int .i64 ((i + 1 : Nat) : Int)])], H') ∧ Gone H' p1 p3 p5 st ∧ Frm (B ≤ ·) H H'
theorem zlH (h : LS B H p1 p3 p5 st f g p lim lv lines L K sl tv ts rv rs wv ws) {i : Nat} {l : List UInt8} (hi : lines[i]? = some l) (hl : l.length ≤ 2 ^ 40) (hn : lines.length ≤ 2 ^ 40) (x0 : Value) (en : Bool) (hb : en = true ∨ za0 l = []) :
    StepF B H p1 p3 p5 st 3 i (zaN RR (.int .i64 (lines.length : Int)) (.pointer (some ⟨p3, 0, none⟩)) (.pointer (some ⟨p, 0, none⟩)) [lv] [x0, .bool en, .int .i64 (i : Int)] H) := by
  have hlt : i < lines.length := (List.getElem?_eq_some_iff.1 hi).1
  obtain ⟨y, hy, ⟨rest, hg⟩, hix⟩ := h.lin.ix hlt
  have hld := fun (α : Type) (k : Value → Option α) => zba hg (i * 1) (str l) (by
    rw [Nat.mul_one, List.getElem?_append_left (by rw [List.length_map]; exact hlt), List.getElem?_map, hi]; rfl) k
  obtain ⟨v, H1, H2, a1, a2, a3, a4⟩ := h.words hl
  have hinc : IntKind.i64.wrap ((i : Int) + 1) = ((i + 1 : Nat) : Int) := w64 (by omega) (by omega)
  have h1 : ((i : Int) < (lines.length : Int)) := by omega
  have hw := fun (α : Type) (k : Value → Option α) => zba a3.rd.rd (0 + 1) v rfl k
  have a1' : RR F.a10 [str l, .func (.func F.a7) #[] #[]] H = some (v, H1) := a1
  refine ⟨H2, ?_, a3.gone, a4⟩
  unfold zaN
  simp only [qg0, qg1, zaP, zac, s_br, h1, decide_true, if_true, hix, hld, za2, hinc, zaj a1', zbt, zaL, a2]
  cases en with
  | true =>
    simp only [if_true, zbG]
    rfl
  | false =>
    have he : za0 l = [] := by
      rcases hb with q | q
      · cases q
      · exact q
    have hz : (((za0 l).length : Int) = 0) := by rw [he]; rfl
    simp only [Bool.false_eq_true, if_false, hw, a3.rd.wd.len, zaX, hz, decide_true, zac, s_br, if_true, zbG]
    rfl
theorem line_ok (h : LS B H p1 p3 p5 st f g p lim lv lines L K sl tv ts rv rs wv ws) {i : Nat} {l : List UInt8} (hi : lines[i]? = some l) (hl : l.length ≤ 2 ^ 40) (hn : lines.length ≤ 2 ^ 40) (hk : ts.length = i) (hR : zh1 L) (x0 : Value) {w0 : List UInt8} {r : List (List UInt8)} (hw : za0 l = w0 :: r) (hr : rs.length + r.length ≤ 2 ^ 40) {X : Option Outc}
    (hX : zaN RR (.int .i64 (lines.length : Int)) (.pointer (some ⟨p3, 0, none⟩)) (.pointer (some ⟨p, 0, none⟩)) [lv] [x0, .bool false, .int .i64 (i : Int)] H = X) :
    (w0 = zc0 → match zbV ts r with
      | none => StepF B H p1 p3 p5 st 3 i X
      | some q => ∃ H' rv' wv', X = some (.next, [.int .i64 ((i + 1 : Nat) : Int), .bool true, .int .i64 ((i + 1 : Nat) : Int)], H') ∧ LS B H' p1 p3 p5 st f g p lim lv lines L K sl tv ts rv' (rs ++ q) wv' [] ∧ Frm (B ≤ ·) H H') ∧
    (w0 ≠ zc0 → match zi9 (w0 :: r) ts L with
      | none => StepF B H p1 p3 p5 st 3 i X
      | some m => ((mkR lim L K m).2.1 ≠ 0 → StepF B H p1 p3 p5 st (mkR lim L K m).2.1 i X) ∧
        ((mkR lim L K m).2.1 = 0 → ∃ H' sl' tv' wv', X = some (.next, [.int .i64 ((i + 1 : Nat) : Int), .bool false, .int .i64 ((i + 1 : Nat) : Int)], H') ∧ LS B H' p1 p3 p5 st f g p lim lv lines (mkR lim L K m).2.2.1 (mkR lim L K m).2.2.2 sl' tv' (ts ++ [(mkR lim L K m).1]) rv rs wv' [] ∧ Frm (B ≤ ·) H H')) := by
  have hlt : i < lines.length := (List.getElem?_eq_some_iff.1 hi).1
  obtain ⟨y, hy, ⟨rest, hg⟩, hix⟩ := h.lin.ix hlt
  have hld := fun (α : Type) (k : Value → Option α) => zba hg (i * 1) (str l) (by
    rw [Nat.mul_one, List.getElem?_append_left (by rw [List.length_map]; exact hlt), List.getElem?_map, hi]; rfl) k
  obtain ⟨v, H1, H2, a1, a2, a3, a4⟩ := h.words hl
  rw [hw] at a3
  have hinc : IntKind.i64.wrap ((i : Int) + 1) = ((i + 1 : Nat) : Int) := w64 (by omega) (by omega)
  have h1 : ((i : Int) < (lines.length : Int)) := by omega
  have hwv := fun (α : Type) (k : Value → Option α) => zba a3.rd.rd (0 + 1) v rfl k
  have a1' : RR F.a10 [str l, .func (.func F.a7) #[] #[]] H = some (v, H1) := a1
  obtain ⟨v2, hd1, _, _, _⟩ := a3.rd.wd.head
  have hq : ∀ {α : Type} (k : Value → Option α), pBin PP .eql T.string (str w0) (.string ⟨#[114, 111, 111, 116, 115]⟩) k = k (.bool (w0 == zc0)) := fun k => zdx T.string w0 zc0 k
  have hz : ¬ ((((w0 :: r).length : Nat) : Int) = 0) := by rw [List.length_cons]; omega
  unfold zaN at hX
  simp only [qg0, qg1, zaP, zac, s_br, h1, decide_true, if_true, hix, hld, za2, hinc, zaj a1', zbt, zaL, a2, Bool.false_eq_true, if_false, hwv, a3.rd.wd.len, zaX, hz, decide_false, zan, zaA, hd1, hq] at hX
  refine ⟨fun hroot => ?_, fun hroot => ?_⟩
  · have hb : (w0 == zc0) = true := by rw [beq_iff_eq]; exact hroot
    rw [if_pos hb] at hX
    obtain ⟨H3, wv3, b1, b2, b3, b4⟩ := a3.rd.next
    have h3 := a3.read b4 b2 fun j q => .inl (b3 j q)
    have hf3 : Frm (B ≤ ·) H H3 := a4.trans (a3.up (S := [5]) (b4.mono fun j q => .inl ⟨5, by simp, q⟩)) fun j q => .inl q
    rw [zbq b1] at hX
    have hlp := zif (.int .i64 ((i + 1 : Nat) : Int)) r H3 rv rs wv3 h3 hr
    cases hq2 : zbV ts r with
    | none =>
      rw [hq2] at hlp
      obtain ⟨H4, rv4, c1, ⟨c2, c3, c4⟩, c5⟩ := hlp
      rw [c1] at hX
      exact ⟨H4, hX.symm, ⟨by rw [c2]; exact h3.b1, ⟨rv4, c3⟩, by rw [c4]; exact h3.b5⟩, hf3.trans c5 fun j q => .inl q⟩
    | some q =>
      rw [hq2] at hlp
      obtain ⟨H4, rv4, wv4, c1, c2, c5⟩ := hlp
      rw [c1, zan, zbe, zaO] at hX
      exact ⟨H4, rv4, wv4, hX.symm, c2, hf3.trans c5 fun j q => .inl q⟩
  · have hb : (w0 == zc0) = false := by rw [beq_eq_false_iff_ne]; exact hroot
    rw [hb, if_neg (by decide)] at hX
    have hp : PP.globals.size ≤ p := Nat.le_trans a3.gB (a3.reg.lo 5 p rfl)
    have hnum := a3.rd.number a3.laid hp
    unfold zi9
    cases hf : numF (w0 :: r) with
    | none =>
      rw [hf] at hnum
      obtain ⟨H3, b1, b2⟩ := hnum
      rw [zbr b1] at hX
      have k' : Frm (InR [5] (LRg p1 p3 p5 st f g p sl lv tv rv v)) H2 H3 := b2.mono fun j q => .inl ⟨5, by simp, q⟩
      exact ⟨H3, hX.symm, a3.goneF k' (by decide) (by decide) (by decide), a4.trans (a3.up k') fun j q => .inl q⟩
    | some z =>
      rw [hf] at hnum
      obtain ⟨H3, wv3, b1, b2, b3, b4⟩ := hnum
      have k3 : Frm (InR [5] (LRg p1 p3 p5 st f g p sl lv tv rv v)) H2 H3 := b4.mono fun j q => .inl ⟨5, by simp, q⟩
      have h3 := a3.read b4 b2 fun j q => .inl (b3 j q)
      have hf3 : Frm (B ≤ ·) H H3 := a4.trans (a3.up k3) fun j q => .inl q
      rw [zbq b1] at hX
      dsimp only
      by_cases hzi : z = ((ts.length + 1 : Nat) : Int)
      · rw [if_pos hzi]
        have hzi' : z = ((i + 1 : Nat) : Int) := by rw [hzi, hk]
        have e0 : ¬ (((i + 1 : Nat) : Int) ≠ ((i + 1 : Nat) : Int)) := fun q => q rfl
        rw [hzi'] at hX
        simp only [zbb, e0, decide_false, zac, s_br, Bool.false_eq_true, if_false] at hX
        have hnode := c_node h3.rd hp h3.laid h3.store hR h3.tv (fun q => by have := h3.reg.ap 5 6 p rfl q; omega) (fun q => by have := h3.reg.ap 5 3 p rfl q; omega) fun j hj q => by have := h3.reg.ap 8 3 j hj q; omega
        cases hm : nodeP (w0 :: r).tail ts L with
        | none =>
          rw [hm] at hnode
          obtain ⟨H4, c1, c2⟩ := hnode
          rw [zbr c1] at hX
          have k4 : Frm (InR [3, 5] (LRg p1 p3 p5 st f g p sl lv tv rv wv3)) H3 H4 := c2.mono fun j q => .inl (by rcases q with q | q; exact ⟨5, by simp, q⟩; exact ⟨3, by simp, q⟩)
          exact ⟨H4, hX.symm, h3.goneF k4 (by decide) (by decide) (by decide), hf3.trans (h3.up k4) fun j q => .inl q⟩
        | some m =>
          rw [hm] at hnode
          dsimp only
          refine ⟨fun hne => ?_, fun heq => ?_⟩
          · obtain ⟨H4, c1, c2⟩ := hnode.1 hne
            rw [zbr c1] at hX
            have k4 : Frm (InR [3, 5] (LRg p1 p3 p5 st f g p sl lv tv rv wv3)) H3 H4 := c2.mono fun j q => .inl (by rcases q with q | q; exact ⟨5, by simp, q⟩; exact ⟨3, by simp, q⟩)
            exact ⟨H4, hX.symm, h3.goneF k4 (by decide) (by decide) (by decide), hf3.trans (h3.up k4) fun j q => .inl q⟩
          · obtain ⟨H4, wv4, sl4, c1, c2, c3, c4, c5, c6⟩ := hnode.2 heq
            rw [zbq c1] at hX
            have k4 : Frm (InR [3, 5] (LRg p1 p3 p5 st f g p sl lv tv rv wv3)) H3 H4 := c4.mono fun j q => .inl (by rcases q with q | q; exact ⟨5, by simp, q⟩; exact ⟨3, by simp, q⟩)
            have h4 := h3.grow c4 c2 c6 c3 c5
            obtain ⟨tv5, H5, d1, d2, d3, d4⟩ := h4.term (by omega) (mkR lim L K m).1 0
            have htv := fun (α : Type) (k : Value → Option α) => zba h4.rd.rd (0 + 2) tv rfl k
            simp only [htv, d1] at hX
            exact ⟨H5, sl4, tv5, wv4, hX.symm, d2, (hf3.trans (h3.up k4) fun j q => .inl q).trans (h4.up d3) fun j q => .inl q⟩
      · rw [if_neg hzi]
        have hzi' : z ≠ ((i + 1 : Nat) : Int) := fun e => hzi (by rw [e, hk])
        simp only [zbb, hzi', ne_eq, not_false_eq_true, decide_true, zac, s_br, if_true, zbG] at hX
        exact ⟨H3, hX.symm, a3.goneF k3 (by decide) (by decide) (by decide), hf3⟩
end
end Go.AM
namespace Go.AM
open Go
inductive LdR where
  | bad (line : Nat) (e : Int)
  | good (L : List Nd) (K : List (ByteArray × Int)) (rs : List Int)
def zeT (lim : Int) : List (List UInt8) → Nat → List Nd → List (ByteArray × Int) → List Int → LdR
  | [], k, _, _, _ => .bad (k + 1) 3
  | l :: rest, k, L, K, ts => match za0 l with
    | [] => .bad (k + 1) 3
    | w0 :: r => if w0 = zc0 then (match zbV ts r with
        | none => .bad (k + 1) 3
        | some q => match rest with
          | [] => .good L K q
          | _ :: _ => .bad (k + 2) 3)
      else match zi9 (w0 :: r) ts L with
        | none => .bad (k + 1) 3
        | some m => if (mkR lim L K m).2.1 ≠ 0 then .bad (k + 1) (mkR lim L K m).2.1 else zeT lim rest (k + 1) (mkR lim L K m).2.2.1 (mkR lim L K m).2.2.2 (ts ++ [(mkR lim L K m).1])
theorem mk_le {lim : Int} {L : List Nd} {K : List (ByteArray × Int)} (n : Nd) : (mkR lim L K n).2.2.1.length ≤ L.length + 1 := by
  by_cases h0 : (mkR lim L K n).2.1 = 0
  · obtain ⟨_, ⟨q, _, e⟩ | ⟨_, _, e⟩⟩ := zlB h0 <;> rw [e] <;> simp
  · rw [mk_no h0]; simp
def ziH (B : Nat) (H : Hp) (p1 p3 p5 st f g p : Nat) (lim : Int) (lv : Value) (lines : List (List UInt8)) (X : Option Outc) : LdR → Prop
  | .bad ln e => ∃ H', (X = some (.ret, [W0 (.tuple #[zbK e, .int .i64 (ln : Int)])], H') ∨ (∃ a b, X = some (.exit 0, [a, .bool false, b], H') ∧ e = 3 ∧ ln = lines.length + 1)) ∧ Gone H' p1 p3 p5 st ∧ Frm (B ≤ ·) H H'
  | .good L K q => ∃ H' a b sl tv rv wv ts, X = some (.exit 0, [a, .bool true, b], H') ∧ LS B H' p1 p3 p5 st f g p lim lv lines L K sl tv ts rv q wv [] ∧ Frm (B ≤ ·) H H'
theorem ziH.of {B : Nat} {H H1 : Hp} {p1 p3 p5 st f g p : Nat} {lim : Int} {lv : Value} {lines : List (List UInt8)} {X : Option Outc} {r : LdR} (h : ziH B H1 p1 p3 p5 st f g p lim lv lines X r) (k : Frm (B ≤ ·) H H1) : ziH B H p1 p3 p5 st f g p lim lv lines X r := by
  cases r with
  | bad ln e => obtain ⟨H', h1, h2, h3⟩ := h; exact ⟨H', h1, h2, k.trans h3 fun j q => .inl q⟩
  | good L K q => obtain ⟨H', a, b, sl, tv, rv, wv, ts, h1, h2, h3⟩ := h; exact ⟨H', a, b, sl, tv, rv, wv, ts, h1, h2, k.trans h3 fun j q => .inl q⟩
theorem ziu {B : Nat} {p1 p3 p5 st f g p : Nat} {lim : Int} {lv : Value} {lines : List (List UInt8)} (hn : lines.length ≤ 2 ^ 38) (hsh : ∀ l ∈ lines, l.length ≤ 2 ^ 38) : ∀ (rest : List (List UInt8)) (i : Nat) (H : Hp) (x0 : Value) (L : List Nd) (K : List (ByteArray × Int)) (sl tv : Value) (ts : List Int) (rv wv : Value) (ws : List (List UInt8)),
    lines.drop i = rest → i ≤ lines.length → ts.length = i → L.length ≤ i → Inv lim L → LS B H p1 p3 p5 st f g p lim lv lines L K sl tv ts rv [] wv ws →
    ziH B H p1 p3 p5 st f g p lim lv lines (zaE (zaN RR (.int .i64 (lines.length : Int)) (.pointer (some ⟨p3, 0, none⟩)) (.pointer (some ⟨p, 0, none⟩)) [lv]) [x0, .bool false, .int .i64 (i : Int)] H) (zeT lim rest i L K ts)
  | [], i, H, x0, L, K, sl, tv, ts, rv, wv, ws, hr, hi, hk, hL, hI, h => by
    have hil : i = lines.length := by
      have := congrArg List.length hr
      rw [List.length_drop] at this
      simp at this
      omega
    have this : zaN RR (.int .i64 (lines.length : Int)) (.pointer (some ⟨p3, 0, none⟩)) (.pointer (some ⟨p, 0, none⟩)) [lv] [x0, .bool false, .int .i64 (i : Int)] H = some (.exit 0, [x0, .bool false, .int .i64 (i : Int)], H) := by
      unfold zaN
      have h1 : ¬ ((i : Int) < (lines.length : Int)) := by omega
      simp only [qg0, qg1, zaP, zac, s_br, h1, decide_false, Bool.false_eq_true, if_false]
    refine ⟨H, .inr ⟨x0, .int .i64 (i : Int), by rw [zam, this]; rfl, rfl, by rw [hil]⟩, h.gone, Frm.refl _ _⟩
  | l :: rest, i, H, x0, L, K, sl, tv, ts, rv, wv, ws, hr, hi, hk, hL, hI, h => by
    have hlt : i < lines.length := by
      have := congrArg List.length hr
      rw [List.length_drop] at this
      simp at this
      omega
    have hget : lines[i]? = some l := by
      have := congrArg (fun x => x[0]?) hr
      simpa using this
    have hr2 : lines.drop (i + 1) = rest := by rw [← List.drop_drop, hr]; rfl
    have hll : l.length ≤ 2 ^ 38 := hsh l (List.mem_of_getElem? hget)
    have hR : zh1 L := ⟨hI.w, by omega⟩
    unfold zeT
    cases hw : za0 l with
    | nil =>
      obtain ⟨H', h1, h2, h3⟩ := zlH h hget (by omega) (by omega) x0 false (.inr hw)
      exact ⟨H', .inl (by rw [zam, h1]; rfl), h2, h3⟩
    | cons w0 r =>
      have hwl : r.length ≤ l.length := by
        have h1 : (za0 l).length ≤ l.length + 1 := by unfold za0; rw [List.length_map]; exact zfb l 0 none
        rw [hw, List.length_cons] at h1
        omega
      have hline := line_ok h hget (by omega) (by omega) hk hR x0 hw (by show 0 + r.length ≤ _; omega) rfl
      dsimp only
      by_cases h0 : w0 = zc0
      · rw [if_pos h0]
        have h1 := hline.1 h0
        cases hq : zbV ts r with
        | none =>
          rw [hq] at h1
          obtain ⟨H', a1, a2, a3⟩ := h1
          exact ⟨H', .inl (by rw [zam, a1]; rfl), a2, a3⟩
        | some q =>
          rw [hq] at h1
          obtain ⟨H', rv', wv', a1, a2, a3⟩ := h1
          have hloop : zaE (zaN RR (.int .i64 (lines.length : Int)) (.pointer (some ⟨p3, 0, none⟩)) (.pointer (some ⟨p, 0, none⟩)) [lv]) [x0, .bool false, .int .i64 (i : Int)] H = zaE (zaN RR (.int .i64 (lines.length : Int)) (.pointer (some ⟨p3, 0, none⟩)) (.pointer (some ⟨p, 0, none⟩)) [lv]) [.int .i64 ((i + 1 : Nat) : Int), .bool true, .int .i64 ((i + 1 : Nat) : Int)] H' := by
            conv => lhs; rw [zam, a1]
            rfl
          rw [hloop]
          cases rest with
          | nil =>
            have hil : i + 1 = lines.length := by
              have := congrArg List.length hr2
              rw [List.length_drop] at this
              simp at this
              omega
            have this : zaN RR (.int .i64 (lines.length : Int)) (.pointer (some ⟨p3, 0, none⟩)) (.pointer (some ⟨p, 0, none⟩)) [lv] [.int .i64 ((i + 1 : Nat) : Int), .bool true, .int .i64 ((i + 1 : Nat) : Int)] H' = some (.exit 0, [.int .i64 ((i + 1 : Nat) : Int), .bool true, .int .i64 ((i + 1 : Nat) : Int)], H') := by
              unfold zaN
              have h1 : ¬ (((i + 1 : Nat) : Int) < (lines.length : Int)) := by omega
              simp only [qg0, qg1, zaP, zac, s_br, h1, decide_false, Bool.false_eq_true, if_false]
            exact ⟨H', _, _, sl, tv, rv', wv', ts, by rw [zam, this]; rfl, a2, a3⟩
          | cons l2 rest2 =>
            have hget2 : lines[i + 1]? = some l2 := by
              have := congrArg (fun x => x[0]?) hr2
              simpa using this
            have hll2 : l2.length ≤ 2 ^ 38 := hsh l2 (List.mem_of_getElem? hget2)
            obtain ⟨H2, b1, b2, b3⟩ := zlH a2 hget2 (by omega) (by omega) (.int .i64 ((i + 1 : Nat) : Int)) true (.inl rfl)
            exact ⟨H2, .inl (by rw [zam, b1]; rfl), b2, a3.trans b3 fun j q => .inl q⟩
      · rw [if_neg h0]
        have h1 := hline.2 h0
        cases hm : zi9 (w0 :: r) ts L with
        | none =>
          rw [hm] at h1
          obtain ⟨H', a1, a2, a3⟩ := h1
          exact ⟨H', .inl (by rw [zam, a1]; rfl), a2, a3⟩
        | some m =>
          rw [hm] at h1
          dsimp only
          by_cases he : (mkR lim L K m).2.1 = 0
          · rw [if_neg (fun q => q he)]
            obtain ⟨H', sl', tv', wv', a1, a2, a3⟩ := h1.2 he
            have hloop : zaE (zaN RR (.int .i64 (lines.length : Int)) (.pointer (some ⟨p3, 0, none⟩)) (.pointer (some ⟨p, 0, none⟩)) [lv]) [x0, .bool false, .int .i64 (i : Int)] H = zaE (zaN RR (.int .i64 (lines.length : Int)) (.pointer (some ⟨p3, 0, none⟩)) (.pointer (some ⟨p, 0, none⟩)) [lv]) [.int .i64 ((i + 1 : Nat) : Int), .bool false, .int .i64 ((i + 1 : Nat) : Int)] H' := by
              conv => lhs; rw [zam, a1]
              rfl
            rw [hloop]
            have hle := mk_le (lim := lim) (L := L) (K := K) m
            exact (ziu hn hsh rest (i + 1) H' _ _ _ sl' tv' _ rv wv' [] hr2 hlt (by rw [List.length_append, hk]; rfl) (by omega) (mk_inv hI) a2).of a3
          · rw [if_pos he]
            obtain ⟨H', a1, a2, a3⟩ := h1.1 he
            exact ⟨H', .inl (by rw [zam, a1]; rfl), a2, a3⟩
end Go.AM
namespace Go.AM
open Go
structure T3 (H : Hp) (p1 p3 p5 : Nat) (a b c : Value) : Prop where
  a1 : H.get p1 = some (.cells [a] true)
  a3 : H.get p3 = some (.cells [b] true)
  a5 : H.get p5 = some (.cells [c] true)
  n13 : p1 ≠ p3
  n15 : p1 ≠ p5
  n35 : p3 ≠ p5
def OneV (v : Value) : Prop := zaa v = [v] ∧ one v = true
section
variable {H : Hp} {p1 p3 p5 : Nat} {a b c v : Value}
theorem T3.s1 (h : T3 H p1 p3 p5 a b c) (hv : OneV v) : ∃ H', (∀ (α : Type) (k : Hp → Option α), zau 1 H (.pointer (some ⟨p1, 0, none⟩)) v k = k H') ∧ T3 H' p1 p3 p5 v b c ∧ Frm (· = p1) H H' :=
  ⟨_, fun α k => zfz h.a1 hv.1 hv.2 (by show 0 < 1; decide) k, ⟨by rw [get_set, if_pos rfl]; rfl, by rw [get_set, if_neg (Ne.symm h.n13)]; exact h.a3, by rw [get_set, if_neg (Ne.symm h.n15)]; exact h.a5, h.n13, h.n15, h.n35⟩, ze6 _ _ _ _ rfl⟩
theorem T3.s3 (h : T3 H p1 p3 p5 a b c) (hv : OneV v) : ∃ H', (∀ (α : Type) (k : Hp → Option α), zau 1 H (.pointer (some ⟨p3, 0, none⟩)) v k = k H') ∧ T3 H' p1 p3 p5 a v c ∧ Frm (· = p3) H H' :=
  ⟨_, fun α k => zfz h.a3 hv.1 hv.2 (by show 0 < 1; decide) k, ⟨by rw [get_set, if_neg h.n13]; exact h.a1, by rw [get_set, if_pos rfl]; rfl, by rw [get_set, if_neg (Ne.symm h.n35)]; exact h.a5, h.n13, h.n15, h.n35⟩, ze6 _ _ _ _ rfl⟩
theorem T3.s5 (h : T3 H p1 p3 p5 a b c) (hv : OneV v) : ∃ H', (∀ (α : Type) (k : Hp → Option α), zau 1 H (.pointer (some ⟨p5, 0, none⟩)) v k = k H') ∧ T3 H' p1 p3 p5 a b v ∧ Frm (· = p5) H H' :=
  ⟨_, fun α k => zfz h.a5 hv.1 hv.2 (by show 0 < 1; decide) k, ⟨by rw [get_set, if_neg h.n15]; exact h.a1, by rw [get_set, if_neg h.n35]; exact h.a3, by rw [get_set, if_pos rfl]; rfl, h.n13, h.n15, h.n35⟩, ze6 _ _ _ _ rfl⟩
theorem T3.l1 (h : T3 H p1 p3 p5 a b c) {α : Type} (k : Value → Option α) : zah 1 false H (.pointer (some ⟨p1, 0, none⟩)) k = k a := zba h.a1 0 a rfl k
theorem T3.l3 (h : T3 H p1 p3 p5 a b c) {α : Type} (k : Value → Option α) : zah 1 false H (.pointer (some ⟨p3, 0, none⟩)) k = k b := zba h.a3 0 b rfl k
theorem T3.l5 (h : T3 H p1 p3 p5 a b c) {α : Type} (k : Value → Option α) : zah 1 false H (.pointer (some ⟨p5, 0, none⟩)) k = k c := zba h.a5 0 c rfl k
theorem end_ld {fr : Fr} {t1 t2 t3 : TypeId} {lv : Value} (h : T3 H p1 p3 p5 a b c) (k : List Value → Option (Value × Hp)) (h4 : getS fr 4 = .val (.pointer (some ⟨p1, 0, none⟩))) (h5 : getS fr 5 = .val (.pointer (some ⟨p3, 0, none⟩))) (h7 : getS fr 7 = .val (.pointer (some ⟨p5, 0, none⟩)))
    (y1 : ∀ k : Nat → Bool → Option (Value × Hp), tyC PP t1 k = k 1 false) (y2 : ∀ k : Nat → Bool → Option (Value × Hp), tyC PP t2 k = k 1 false) (y3 : ∀ k : Nat → Bool → Option (Value × Hp), tyC PP t3 k = k 1 false) :
    endL PP fr H [.cell 4 t1, .cell 5 t2, .tmp 6, .cell 7 t3] [lv] k = k [a, b, lv, c] := by
  unfold endL
  rw [y1, h4]
  unfold sV
  dsimp only
  rw [h.l1]
  unfold endL
  rw [y2, h5]
  unfold sV
  dsimp only
  rw [h.l3]
  unfold endL
  unfold endL
  rw [y3, h7]
  unfold sV
  dsimp only
  rw [h.l5]
  rfl
theorem c_caught (h : T3 H p1 p3 p5 a b c) (e : Int) : ∃ H', zbZ RR (zbK e) (.pointer (some ⟨p1, 0, none⟩)) (.pointer (some ⟨p3, 0, none⟩)) (.pointer (some ⟨p5, 0, none⟩)) H = some (.tuple #[], H') ∧
    T3 H' p1 p3 p5 (.pointer none) (.slice none 0 0) (.int .i64 e) ∧ Frm (fun j => j = p1 ∨ j = p3 ∨ j = p5) H H' := by
  obtain ⟨H1, a1, a2, a3⟩ := h.s1 (v := .pointer none) ⟨rfl, rfl⟩
  obtain ⟨H2, b1, b2, b3⟩ := a2.s3 (v := .slice none 0 0) ⟨rfl, rfl⟩
  obtain ⟨H3, c1, c2, c3⟩ := b2.s5 (v := .int .i64 e) ⟨rfl, rfl⟩
  refine ⟨H3, ?_, c2, ((a3.mono fun j q => .inl (.inl q)).trans (b3.mono fun j q => .inl (.inr (.inl q))) fun j q => .inl q).trans (c3.mono fun j q => .inl (.inr (.inr q))) fun j q => .inl q⟩
  unfold zbZ
  have e1 : ∀ {α : Type} (k : Value → Option α), zd3 PP .eql T.interface (zbK e) k = k (.bool false) := fun k => rfl
  have e2 : ∀ {α : Type} (k : Value → Option α), zfn PP T.term_fault (zbK e) k = k (.agg #[.int .i64 e]) := fun k => rfl
  have e3 : ∀ {α : Type} (k : List Value → Option α), zaG 1 [.int .i64 0] 0 (.agg #[.int .i64 e]) k = k [.int .i64 e] := fun k => rfl
  have e4 : ∀ {α : Type} (k : Value → Option α), zad 1 false [.int .i64 e] 0 k = k (.int .i64 e) := fun k => rfl
  rw [e1, zac, s_br, if_neg (by decide), e2, e3, e4, a1, b1, c1]
theorem c_calm (x1 x2 x3 : Value) (H : Hp) : zbZ RR .nilIface x1 x2 x3 H = some (.tuple #[], H) := rfl
end
def za9 (l : List UInt8) : List (List UInt8) := if (cutB 10 l).getD (l.count 10) [] = [] then (cutB 10 l).take (l.count 10) else cutB 10 l
theorem s_wrap0 {α : Type} (x : Value) (k kp : Value → Option α) : zen (W0 x) k kp = kp x := rfl
theorem s_wrap1 {α : Type} (x : Value) (k kp : Value → Option α) : zen (W1 x) k kp = k x := rfl
theorem zhQ : ∀ (l : List UInt8), ∀ x ∈ cutB 10 l, x.length ≤ l.length
  | [], x, hx => by
    have : x = [] := by simpa [cutB] using hx
    rw [this]; exact Nat.le_refl _
  | b :: r, x, hx => by
    unfold cutB at hx
    split at hx
    · rcases List.mem_cons.1 hx with q | q
      · rw [q]; exact Nat.zero_le _
      · have := zhQ r x q; rw [List.length_cons]; omega
    · split at hx
      · rename_i h t e
        rcases List.mem_cons.1 hx with q | q
        · have := zhQ r h (by rw [e]; exact List.mem_cons_self ..)
          rw [q, List.length_cons, List.length_cons]; omega
        · have := zhQ r x (by rw [e]; exact List.mem_cons_of_mem _ q)
          rw [List.length_cons]; omega
      · have : x = [b] := by simpa using hx
        rw [this, List.length_cons]; simp
end Go.AM
namespace Go.AM
open Go
theorem bldRd (st : Nat) {α : Type} (k : Value → Option α) : zaJ PP T.term_reader [(0, .pointer (some ⟨st, 0, none⟩))] k = k (.agg #[.pointer (some ⟨st, 0, none⟩), .slice none 0 0, .slice none 0 0]) := by
  have : ze7 PP T.term_reader [(0, .pointer (some ⟨st, 0, none⟩))] = some (.agg #[.pointer (some ⟨st, 0, none⟩), .slice none 0 0, .slice none 0 0]) := by kernel_rfl
  unfold zaJ; rw [this]
def zk4 (H : Hp) (lim : Int) (f : FuncId) (wr : Value → Value) (args : List Value) : LdR → Prop
  | .bad ln e => ∃ H', RR f args H = some (wr (.tuple #[.pointer none, .slice none 0 0, .int .i64 (ln : Int), .int .i64 e]), H') ∧ Frm (fun _ => False) H H'
  | .good L K q => ∃ H' st fm gm sl rv, RR f args H = some (wr (.tuple #[.pointer (some ⟨st, 0, none⟩), rv, .int .i64 0, .int .i64 0]), H') ∧ StF H' st lim L K sl fm gm ∧ Vec H' 1 rv q.length (i64s q) ∧ Frm (fun _ => False) H H' ∧
      (∀ j, Foot st fm gm sl j → H.next ≤ j) ∧ (∀ j, Id rv j → H.next ≤ j) ∧ (∀ j, Id rv j → ¬ Foot st fm gm sl j)
theorem ziH.fin {B : Nat} {H : Hp} {p1 p3 p5 st f g p : Nat} {lim : Int} {lv : Value} {lines : List (List UInt8)} {X : Option Outc} {r : LdR} (h : ziH B H p1 p3 p5 st f g p lim lv lines X r) (hlv : ∀ {α : Type} (H : Hp) (k : Value → Option α), pLen .sl lv H k = k (.int .i64 (lines.length : Int)))
    (hn : lines.length ≤ 2 ^ 38) (n13 : p1 ≠ p3) (n15 : p1 ≠ p5) (n35 : p3 ≠ p5) (b1 : B ≤ p1) (b3 : B ≤ p3) (b5 : B ≤ p5) :
    match r with
    | .bad ln e => ∃ H', (zat X fun q121 l122 H123 => zaC q121 none
         (fun i124 => zax i124 0 (
         pLen .sl lv H123 fun v125 =>
         pBin PP .add T.int v125 (.int .i64 1) fun v126 =>
         pUn .not (l122.getD 1 undef) fun v127 =>
         zab v127 fun b128 => br b128
         (zaJ PP T.term_fault [(0, (.int .i64 3))] fun v129 =>
         some ((W0 (.tuple #[(.iface T.term_fault v129), v126])), H123))
         (zah 1 false H123 (.pointer (some ⟨p1, 0, none⟩)) fun v130 =>
         zah 1 false H123 (.pointer (some ⟨p3, 0, none⟩)) fun v131 =>
         zau 1 H123 (.pointer (some ⟨p1, 0, none⟩)) v130 fun H132 =>
         chk (Hp.rdP H132 (.pointer (some ⟨p3, 0, none⟩)) 1 false = some v131) (
         zau 1 H132 (.pointer (some ⟨p3, 0, none⟩)) v131 fun H133 =>
         zau 1 H133 (.pointer (some ⟨p5, 0, none⟩)) (.int .i64 0) fun H134 =>
         zah 1 false H134 (.pointer (some ⟨p1, 0, none⟩)) fun v135 =>
         zah 1 false H134 (.pointer (some ⟨p3, 0, none⟩)) fun v136 =>
         zah 1 false H134 (.pointer (some ⟨p5, 0, none⟩)) fun v137 =>
         some ((W1 (.tuple #[v135, v136, (.int .i64 0), v137])), H134)))) (
         none))
         (some ((l122.headD undef), H123))) = some (W0 (.tuple #[zbK e, .int .i64 (ln : Int)]), H') ∧ (∃ a b c, T3 H' p1 p3 p5 a b c) ∧ Frm (B ≤ ·) H H'
    | .good L K q => ∃ H' sl rv, (zat X fun q121 l122 H123 => zaC q121 none
         (fun i124 => zax i124 0 (
         pLen .sl lv H123 fun v125 =>
         pBin PP .add T.int v125 (.int .i64 1) fun v126 =>
         pUn .not (l122.getD 1 undef) fun v127 =>
         zab v127 fun b128 => br b128
         (zaJ PP T.term_fault [(0, (.int .i64 3))] fun v129 =>
         some ((W0 (.tuple #[(.iface T.term_fault v129), v126])), H123))
         (zah 1 false H123 (.pointer (some ⟨p1, 0, none⟩)) fun v130 =>
         zah 1 false H123 (.pointer (some ⟨p3, 0, none⟩)) fun v131 =>
         zau 1 H123 (.pointer (some ⟨p1, 0, none⟩)) v130 fun H132 =>
         chk (Hp.rdP H132 (.pointer (some ⟨p3, 0, none⟩)) 1 false = some v131) (
         zau 1 H132 (.pointer (some ⟨p3, 0, none⟩)) v131 fun H133 =>
         zau 1 H133 (.pointer (some ⟨p5, 0, none⟩)) (.int .i64 0) fun H134 =>
         zah 1 false H134 (.pointer (some ⟨p1, 0, none⟩)) fun v135 =>
         zah 1 false H134 (.pointer (some ⟨p3, 0, none⟩)) fun v136 =>
         zah 1 false H134 (.pointer (some ⟨p5, 0, none⟩)) fun v137 =>
         some ((W1 (.tuple #[v135, v136, (.int .i64 0), v137])), H134)))) (
         none))
         (some ((l122.headD undef), H123))) = some (W1 (.tuple #[.pointer (some ⟨st, 0, none⟩), rv, .int .i64 0, .int .i64 0]), H') ∧ T3 H' p1 p3 p5 (.pointer (some ⟨st, 0, none⟩)) rv (.int .i64 0) ∧ StF H' st lim L K sl f g ∧ Vec H' 1 rv q.length (i64s q) ∧ Frm (B ≤ ·) H H' ∧
         (∀ j, Foot st f g sl j → B ≤ j) ∧ (∀ j, Id rv j → B ≤ j) ∧ (∀ j, Id rv j → ¬ Foot st f g sl j) := by
  have w1 : ∀ {H2 H3 : Hp} {q : Nat}, B ≤ q → Frm (· = q) H2 H3 → Frm (B ≤ ·) H2 H3 := fun hq k => k.mono fun j e => .inl (by rw [e]; exact hq)
  cases r with
  | bad ln e =>
    obtain ⟨H', h1, ⟨g1, ⟨rv, g2⟩, g3⟩, h3⟩ := h
    refine ⟨H', ?_, ⟨_, _, _, g1, g2, g3, n13, n15, n35⟩, h3⟩
    rcases h1 with rfl | ⟨a, b, rfl, rfl, rfl⟩
    · rfl
    · rw [zan, zbe, zaO, hlv]
      have hinc : IntKind.i64.wrap ((lines.length : Int) + 1) = ((lines.length + 1 : Nat) : Int) := w64 (by omega) (by omega)
      rw [za2, hinc]
      simp only [qg1, qg0, zbL, zac, s_br, Bool.not_false, if_true, zbG]
  | good L K q =>
    obtain ⟨H1, a, b, sl, tv, rv, wv, ts, rfl, h2, h3⟩ := h
    have t1 : T3 H1 p1 p3 p5 (.pointer (some ⟨st, 0, none⟩)) rv (.int .i64 0) := ⟨h2.b1, h2.b3, h2.b5, n13, n15, n35⟩
    obtain ⟨H2, x1, x2, x3⟩ := t1.s1 (v := .pointer (some ⟨st, 0, none⟩)) ⟨rfl, rfl⟩
    obtain ⟨H3, y1, y2, y3⟩ := x2.s3 (v := rv) (zcW h2.rv)
    obtain ⟨H4, z1, z2, z3⟩ := y2.s5 (v := .int .i64 0) ⟨rfl, rfl⟩
    have hf : Frm (fun j => j = p1 ∨ j = p3 ∨ j = p5) H1 H4 := ((x3.mono fun j q => .inl (.inl q)).trans (y3.mono fun j q => .inl (.inr (.inl q))) fun j q => .inl q).trans (z3.mono fun j q => .inl (.inr (.inr q))) fun j q => .inl q
    have hr := h2.reg
    refine ⟨H4, sl, rv, ?_, z2, h2.store.keep (fun j hj => hf.same j (h2.store.foot_lt hj) fun e => ?_) hf.next, h2.rv.keep hf fun j hj e => ?_, h3.trans (hf.mono fun j e => .inl (by rcases e with e | e | e <;> rw [e] <;> assumption)) fun j e => .inl e, fun j hj => hr.lo 3 j hj, fun j hj => hr.lo 7 j hj, fun j hj e => by have := hr.ap 7 3 j hj e; omega⟩
    · rw [zan, zbe, zaO, hlv, za2]
      simp only [qg1, qg0, zbL, zac, s_br, Bool.not_true, Bool.false_eq_true, if_false, t1.l1, t1.l3, x1]
      rw [zgE (ze3 x2.a3 0 rv rfl), y1, z1, z2.l1, z2.l3, z2.l5]
    · rcases e with e | e | e
      · have := hr.ap 3 0 j hj e; omega
      · have := hr.ap 3 1 j hj e; omega
      · have := hr.ap 3 2 j hj e; omega
    · rcases e with e | e | e
      · have := hr.ap 7 0 j hj e; omega
      · have := hr.ap 7 1 j hj e; omega
      · have := hr.ap 7 2 j hj e; omega
theorem cut_last (l : List UInt8) : (cutB 10 l)[l.count 10]? = some ((cutB 10 l).getD (l.count 10) []) := by
  have h := zeK 10 l
  rw [List.getD_eq_getElem?_getD, List.getElem?_eq_getElem (by omega)]
  rfl
theorem zlD (l : List UInt8) : ∀ x ∈ za9 l, x.length ≤ l.length := fun x hx => by
  unfold za9 at hx
  split at hx
  · exact zhQ l x (List.mem_of_mem_take hx)
  · exact zhQ l x hx
theorem zi8 (l : List UInt8) : (za9 l).length ≤ l.length + 1 := by
  have h := zeK 10 l
  have h2 : l.count 10 ≤ l.length := List.count_le_length
  unfold za9
  split
  · rw [List.length_take]; omega
  · omega
theorem LS.start {H0 H12 H13 : Hp} {lim : Int} {lv : Value} {lines : List (List UInt8)} (hL : Laid H0)
    (t : T3 H12 H0.next (H0.next + 1) (H0.next + 2) (.pointer (some ⟨H0.next + 5, 0, none⟩)) (.slice none 0 0) (.int .i64 0)) (hS : StF H12 (H0.next + 5) lim [] [] (.slice none 0 0) (H0.next + 3) (H0.next + 4)) (n12 : H12.next = H0.next + 6) (f12 : Frm (H0.next ≤ ·) H0 H12)
    (hv : Vec H13 1 lv lines.length (lines.map str)) (f13 : Frm (fun _ => False) H12 H13) (hid : ∀ j, Id lv j → H12.next ≤ j) :
    LS H0.next (H13.new (.cells [.pointer (some ⟨H0.next + 5, 0, none⟩), .slice none 0 0, .slice none 0 0] true)) H0.next (H0.next + 1) (H0.next + 2) (H0.next + 5) (H0.next + 3) (H0.next + 4) H13.next lim lv lines [] [] (.slice none 0 0) (.slice none 0 0) [] (.slice none 0 0) [] (.slice none 0 0) [] := by
  let H14 := H13.new (.cells [.pointer (some ⟨H0.next + 5, 0, none⟩), .slice none 0 0, .slice none 0 0] true)
  have f14 : Frm (fun _ => False) H13 H14 := zde _ _ _
  have ff : Frm (fun _ => False) H12 H14 := f13.trans f14 fun j q => q.elim
  have hn := f13.next
  have o : ∀ j, j < H0.next + 6 → H14.get j = H12.get j := fun j hj => ff.same j (by omega) fun q => q
  let cl : Nat → Nat := fun j => if j = H0.next then 0 else if j = H0.next + 1 then 1 else if j = H0.next + 2 then 2 else if j < H0.next + 6 then 3 else if j < H13.next then 4 else 5
  have key : ∀ a j, LRg H0.next (H0.next + 1) (H0.next + 2) (H0.next + 5) (H0.next + 3) (H0.next + 4) H13.next (.slice none 0 0) lv (.slice none 0 0) (.slice none 0 0) (.slice none 0 0) a j → cl j = a ∧ H0.next ≤ j ∧ j < H13.next + 1 := fun a j hj => by
    match a, hj with
    | 0, hj => obtain rfl : j = H0.next := hj; exact ⟨if_pos rfl, by omega, by omega⟩
    | 1, hj => obtain rfl : j = H0.next + 1 := hj; exact ⟨by show (if _ then _ else _) = _; rw [if_neg (by omega), if_pos rfl], by omega, by omega⟩
    | 2, hj => obtain rfl : j = H0.next + 2 := hj; exact ⟨by show (if _ then _ else _) = _; rw [if_neg (by omega), if_neg (by omega), if_pos rfl], by omega, by omega⟩
    | 3, hj =>
      have hj : j = H0.next + 5 ∨ j = H0.next + 3 ∨ j = H0.next + 4 := zfY hj
      exact ⟨by show (if _ then _ else _) = _; rw [if_neg (by omega), if_neg (by omega), if_neg (by omega), if_pos (by omega)], by omega, by omega⟩
    | 4, hj =>
      have h1 := hid j hj
      have h2 := hv.lt hj
      exact ⟨by show (if _ then _ else _) = _; rw [if_neg (by omega), if_neg (by omega), if_neg (by omega), if_neg (by omega), if_pos h2], by omega, by omega⟩
    | 5, hj => obtain rfl : j = H13.next := hj; exact ⟨by show (if _ then _ else _) = _; rw [if_neg (by omega), if_neg (by omega), if_neg (by omega), if_neg (by omega), if_neg (by omega)], by omega, by omega⟩
    | 6, hj => cases hj
    | 7, hj => cases hj
    | 8, hj => cases hj
    | n + 9, hj => cases hj
  have hL14 : Laid H14 := hL.keep (M := (H0.next ≤ ·)) (f12.trans (ff.mono fun j q => q.elim) fun j q => .inl q) fun j q => Nat.le_trans hL.next q
  refine ⟨hL.next, by show H0.next ≤ H13.next + 1; omega, ⟨fun a j hj => (key a j hj).2.2, fun a j hj => (key a j hj).2.1, fun a b j ha hb => by rw [← (key a j ha).1, (key b j hb).1]⟩, by rw [o _ (by omega)]; exact t.a1, by rw [o _ (by omega)]; exact t.a3, by rw [o _ (by omega)]; exact t.a5,
    hS.keep (fun j hj => o j (by have := zfY hj; omega)) ff.next, hv.keep f14 fun _ _ q => q, ⟨if_pos rfl, .inl ⟨rfl, rfl⟩, fun q => (by cases q), by show H13.next < H13.next + 1; omega, fun w hw => (by cases hw)⟩, Vec.nil _ _, Vec.nil _ _, hL14⟩
theorem n_new (H : Hp) (o : AObj) : (H.new o).next = H.next + 1 := rfl
theorem zmr {H0 : Hp} (l : List UInt8) {lim : Int} (hlim : lim < 0) : zk4 H0 lim F.a15 W1 [str l, .int .i64 lim] (.bad 0 1) := by
  have hrun := zhd E0 rfl (str l) (.int .i64 lim) H0
  rw [zhG] at hrun
  let H3 := ((H0.new (.cells [.pointer none] true)).new (.cells [.slice none 0 0] true)).new (.cells [.int .i64 0] true)
  have t0 : T3 H3 H0.next (H0.next + 1) (H0.next + 2) (.pointer none) (.slice none 0 0) (.int .i64 0) := by
    refine ⟨?_, ?_, ?_, by omega, by omega, by omega⟩
    · show (Hp.new _ _).get _ = _
      rw [get_new, if_neg (by show ¬ H0.next = H0.next + 1 + 1; omega), get_new, if_neg (by show ¬ H0.next = H0.next + 1; omega), get_new, if_pos rfl]
    · show (Hp.new _ _).get _ = _
      rw [get_new, if_neg (by show ¬ H0.next + 1 = H0.next + 1 + 1; omega), get_new]; exact if_pos rfl
    · show (Hp.new _ _).get _ = _
      rw [get_new]; exact if_pos rfl
  have f03 : Frm (H0.next ≤ ·) H0 H3 := ((zde _ _ (H0.next ≤ ·)).trans (zde _ _ (H0.next ≤ ·)) fun j q => .inl q).trans (zde _ _ (H0.next ≤ ·)) fun j q => .inl q
  have hnew : RR F.a29 [.int .i64 lim] H3 = some (.tuple #[.pointer none, .int .i64 1], H3) := by rw [c16, if_pos hlim]
  have w1 : ∀ {H2 H3 : Hp} {q : Nat}, H0.next ≤ q → Frm (· = q) H2 H3 → Frm (H0.next ≤ ·) H2 H3 := fun hq k => k.mono fun j e => .inl (by rw [e]; exact hq)
  obtain ⟨H4, a1, a2, a3⟩ := t0.s1 (v := .pointer none) ⟨rfl, rfl⟩
  obtain ⟨H5, b1, b2, b3⟩ := a2.s5 (v := .int .i64 1) ⟨rfl, rfl⟩
  obtain ⟨H6, c1, c2, c3⟩ := b2.s1 (v := .pointer none) ⟨rfl, rfl⟩
  obtain ⟨H7, d1, d2, d3⟩ := c2.s3 (v := .slice none 0 0) ⟨rfl, rfl⟩
  obtain ⟨H8, e1, e2, e3⟩ := d2.s5 (v := .int .i64 1) ⟨rfl, rfl⟩
  have hf : Frm (H0.next ≤ ·) H0 H8 := (((((f03.trans (w1 (Nat.le_refl _) a3) fun j q => .inl q).trans (w1 (by omega) b3) fun j q => .inl q).trans (w1 (Nat.le_refl _) c3) fun j q => .inl q).trans (w1 (by omega) d3) fun j q => .inl q).trans (w1 (by omega) e3) fun j q => .inl q)
  refine ⟨H8, hrun.trans ?_, hf.mono fun j q => .inr q⟩
  have hne : ((1 : Int) ≠ 0) := by decide
  simp only [zdm, n_new]
  rw [show ((H0.new (.cells [.pointer none] true)).new (.cells [.slice none 0 0] true)).new (.cells [.int .i64 0] true) = H3 from rfl, zaj hnew, x01, a1, b1, b2.l5, zbb, zac, s_br, if_pos (decide_eq_true hne), b2.l5, c1, zgE (ze3 c2.a5 0 (.int .i64 1) rfl),
    d1, zgE (ze3 d2.a5 0 (.int .i64 1) rfl), e1, e2.l1, e2.l3, e2.l5]
  rfl
end Go.AM
namespace Go.AM
open Go
theorem ziG {α : Type} (v : Value) (H : Hp) (k : Value → Hp → Option α) : zf3 (some (v, H)) k = k v H := rfl
theorem c_load {H0 : Hp} (hL : Laid H0) (l : List UInt8) (hl : l.length ≤ 2 ^ 37) {lim : Int} (hlim : ¬ lim < 0) : zk4 H0 lim F.a15 W1 [str l, .int .i64 lim] (zeT lim (za9 l) 0 [] [] []) := by
  have hrun := zhd E0 rfl (str l) (.int .i64 lim) H0
  rw [zhG] at hrun
  let H3 := ((H0.new (.cells [.pointer none] true)).new (.cells [.slice none 0 0] true)).new (.cells [.int .i64 0] true)
  have t0 : T3 H3 H0.next (H0.next + 1) (H0.next + 2) (.pointer none) (.slice none 0 0) (.int .i64 0) := by
    refine ⟨?_, ?_, ?_, by omega, by omega, by omega⟩
    · show (Hp.new _ _).get _ = _
      rw [get_new, if_neg (by show ¬ H0.next = H0.next + 1 + 1; omega), get_new, if_neg (by show ¬ H0.next = H0.next + 1; omega), get_new, if_pos rfl]
    · show (Hp.new _ _).get _ = _
      rw [get_new, if_neg (by show ¬ H0.next + 1 = H0.next + 1 + 1; omega), get_new]; exact if_pos rfl
    · show (Hp.new _ _).get _ = _
      rw [get_new]; exact if_pos rfl
  have f03 : Frm (H0.next ≤ ·) H0 H3 := ((zde _ _ (H0.next ≤ ·)).trans (zde _ _ (H0.next ≤ ·)) fun j q => .inl q).trans (zde _ _ (H0.next ≤ ·)) fun j q => .inl q
  have hnew : RR F.a29 [.int .i64 lim] H3 = some (.tuple #[.pointer (some ⟨H0.next + 5, 0, none⟩), .int .i64 0], newH lim H3) := by rw [c16, if_neg hlim]; rfl
  have hS3 : StF (newH lim H3) (H0.next + 5) lim [] [] (.slice none 0 0) (H0.next + 3) (H0.next + 4) := newH_st lim H3
  have old3 : ∀ j, j < H0.next + 3 → (newH lim H3).get j = H3.get j := fun j hj => zi6 lim H3 j hj
  have t1 : T3 (newH lim H3) H0.next (H0.next + 1) (H0.next + 2) (.pointer none) (.slice none 0 0) (.int .i64 0) := ⟨by rw [old3 _ (by omega)]; exact t0.a1, by rw [old3 _ (by omega)]; exact t0.a3, by rw [old3 _ (by omega)]; exact t0.a5, t0.n13, t0.n15, t0.n35⟩
  have f3n : Frm (H0.next ≤ ·) H3 (newH lim H3) := ⟨by rw [zhz]; omega, fun j hj _ => zi6 lim H3 j hj⟩
  have w1 : ∀ {H2 H3 : Hp} {q : Nat}, H0.next ≤ q → Frm (· = q) H2 H3 → Frm (H0.next ≤ ·) H2 H3 := fun hq k => k.mono fun j e => .inl (by rw [e]; exact hq)
  obtain ⟨H4, a1, a2, a3⟩ := t1.s1 (v := .pointer (some ⟨H0.next + 5, 0, none⟩)) ⟨rfl, rfl⟩
  obtain ⟨H5, b1, b2, b3⟩ := a2.s5 (v := .int .i64 0) ⟨rfl, rfl⟩
  have hz : ¬ ((0 : Int) ≠ 0) := by decide
  simp only [zdm, n_new] at hrun
  rw [show ((H0.new (.cells [.pointer none] true)).new (.cells [.slice none 0 0] true)).new (.cells [.int .i64 0] true) = H3 from rfl, zaj hnew, x01, a1, b1, b2.l5, zbb, zac, s_br, if_neg (fun q => hz (of_decide_eq_true q))] at hrun
  have n5 : H5.next = H0.next + 6 := by
    have e1 := a1 Nat fun H => some H.next
    have e2 := b1 Nat fun H => some H.next
    have e3 : ∀ (o : Nat) (v : Value) (H : Hp) (cs : List Value), H.get o = some (.cells cs true) → cs.length = 1 → OneV v → (zau 1 H (.pointer (some ⟨o, 0, none⟩)) v fun H => some H.next) = some H.next := fun o v H cs hg hc hv => by
      rw [zfz hg hv.1 hv.2 (by omega)]
      rfl
    rw [e3 _ _ _ _ t1.a1 rfl ⟨rfl, rfl⟩] at e1
    rw [e3 _ _ _ _ a2.a5 rfl ⟨rfl, rfl⟩] at e2
    have e1 := Option.some.inj e1
    have e2 := Option.some.inj e2
    rw [← e2, ← e1, zhz]
    rfl
  have f35 : Frm (H0.next ≤ ·) (newH lim H3) H5 := (w1 (Nat.le_refl _) a3).trans (w1 (by omega) b3) fun j q => .inl q
  have f05 : Frm (H0.next ≤ ·) H0 H5 := (f03.trans f3n fun j q => .inl q).trans f35 fun j q => .inl q
  have hS5 : StF H5 (H0.next + 5) lim [] [] (.slice none 0 0) (H0.next + 3) (H0.next + 4) := by
    have k4 : StF H4 (H0.next + 5) lim [] [] (.slice none 0 0) (H0.next + 3) (H0.next + 4) := hS3.keep (fun j hj => a3.same j (hS3.foot_lt hj) fun e => by have := zfY hj; omega) a3.next
    exact k4.keep (fun j hj => b3.same j (k4.foot_lt hj) fun e => by have := zfY hj; omega) b3.next
  obtain ⟨v, H6, s1, s2, s3, s4⟩ := c_split l (by omega) H5
  have s1' : RR F.a41 [str l, .string ⟨#[10]⟩] H5 = some (v, H6) := s1
  rw [zaj s1'] at hrun
  have hcl := zeK 10 l
  have hcnt : l.count 10 ≤ l.length := List.count_le_length
  have hlast := cut_last l
  obtain ⟨y, hy, ⟨rest, hg⟩, hix⟩ := s2.ix (i := l.count 10) (by omega)
  have hld := fun (α : Type) (k : Value → Option α) => zba hg (l.count 10 * 1) (str ((cutB 10 l).getD (l.count 10) [])) (by
    rw [Nat.mul_one, List.getElem?_append_left (by rw [List.length_map]; omega), List.getElem?_map, hlast]; rfl) k
  have hone : ((cutB 10 l).map str).all one = true := by rw [List.all_map]; exact List.all_eq_true.2 fun _ _ => rfl
  obtain ⟨v2, u1, u2, u3⟩ := s2.cut hone (m := l.count 10) (by omega)
  have hsub : IntKind.i64.wrap (((cutB 10 l).length : Int) - 1) = ((l.count 10 : Nat) : Int) := by rw [hcl, w64 (by omega) (by omega)]; omega
  have hlines : ∃ lv, (zat (
       pLen .sl v H6 fun v25 =>
       pBin PP .sub T.int v25 (.int .i64 1) fun v26 =>
       pIdx 1 v v26 fun p27 =>
       zah 1 false H6 p27 fun v28 =>
       pBin PP .eql T.string v28 (.string ⟨#[]⟩) fun v29 =>
       zab v29 fun b30 => br b30
       (pLen .sl v H6 fun v31 =>
       pBin PP .sub T.int v31 (.int .i64 1) fun v32 =>
       zc2 1 v none (some v32) fun v33 =>
       some (.next, [v33], H6))
       (some (.next, [v], H6))) : (Ctl → List Value → Hp → Option (Value × Hp)) → Option (Value × Hp)) = (fun k => k .next [lv] H6) ∧ Vec H6 1 lv (za9 l).length ((za9 l).map str) ∧ ∀ j, Id lv j → H5.next ≤ j := by
    have hemp : ∀ {α : Type} (k : Value → Option α), pBin PP .eql T.string (str ((cutB 10 l).getD (l.count 10) [])) (.string ⟨#[]⟩) k = k (.bool ((cutB 10 l).getD (l.count 10) [] == [])) := fun k => zdx T.string _ [] k
    unfold za9
    by_cases he : (cutB 10 l).getD (l.count 10) [] = []
    · rw [if_pos he]
      have hb : ((cutB 10 l).getD (l.count 10) [] == []) = true := by rw [he]; rfl
      refine ⟨v2, ?_, ?_, fun j hj => s4 j (u3 j hj)⟩
      · funext k
        simp only [s2.len, zcY, hsub, hix, hld, hemp, hb, zac, s_br, if_true, u1, zan]
      · rw [List.length_take, Nat.min_eq_left (by omega), List.map_take]
        rw [Nat.mul_one] at u2
        exact u2
    · rw [if_neg he]
      have hb : ((cutB 10 l).getD (l.count 10) [] == []) = false := by rw [beq_eq_false_iff_ne]; exact he
      refine ⟨v, ?_, s2, s4⟩
      funext k
      simp only [s2.len, zcY, hsub, hix, hld, hemp, hb, zac, s_br, Bool.false_eq_true, if_false, zan]
  obtain ⟨lv, z1, z2, z3⟩ := hlines
  have hrun2 := hrun.trans (congrFun z1 _)
  rw [zaA] at hrun2
  have hst := LS.start hL b2 hS5 n5 f05 z2 s3 z3
  have hloop := ziu (lines := za9 l) (by have := zi8 l; omega) (fun x hx => by have := zlD l x hx; omega) (za9 l) 0 _ (.int .i64 0) [] [] _ _ [] _ _ [] rfl (Nat.zero_le _) rfl (Nat.le_refl _) (Inv.nil lim) hst
  have hfin := hloop.fin (fun H k => z2.len H k) (by have := zi8 l; omega) b2.n13 b2.n15 b2.n35 (Nat.le_refl _) (by omega) (by omega)
  have f07 : Frm (H0.next ≤ ·) H0 (H6.new (.cells [.pointer (some ⟨H0.next + 5, 0, none⟩), .slice none 0 0, .slice none 0 0] true)) := (f05.trans (s3.mono fun j q => q.elim) fun j q => .inl q).trans (zde _ _ (H0.next ≤ ·)) fun j q => .inl q
  have b6 : ∀ (k : Value → Option (Value × Hp)), zah 1 false H6 (.pointer (some ⟨H0.next, 0, none⟩)) k = k (.pointer (some ⟨H0.next + 5, 0, none⟩)) := fun k => by
    exact zba (by rw [s3.same _ (by omega) fun q => q]; exact b2.a1) 0 _ rfl k
  simp only [qg0] at hrun2
  rw [b6, bldRd] at hrun2
  have hcl3 : zaa (.agg #[.pointer (some ⟨H0.next + 5, 0, none⟩), .slice none 0 0, .slice none 0 0]) = [.pointer (some ⟨H0.next + 5, 0, none⟩), .slice none 0 0, .slice none 0 0] := rfl
  rw [hcl3, z2.len] at hrun2
  cases hq : zeT lim (za9 l) 0 [] [] [] with
  | bad ln e =>
    rw [hq] at hfin
    obtain ⟨H7, x1, ⟨a, b, c, x2⟩, x3⟩ := hfin
    have hrun3 := hrun2.trans (congrArg (fun z => zf3 z _) x1)
    obtain ⟨H8, y1, y2, y3⟩ := c_caught x2 e
    have hf8 : Frm (H0.next ≤ ·) H0 H8 := (f07.trans x3 fun j q => .inl q).trans (y3.mono fun j q => .inl (by rcases q with q | q | q <;> omega)) fun j q => .inl q
    refine ⟨H8, hrun3.trans ?_, hf8.mono fun j q => .inr q⟩
    rw [ziG, s_wrap0]
    have e1 : ∀ {α : Type} (k : Value → List Value → Option α), pTail (.tuple #[zbK e, .int .i64 (ln : Int)]) k = k (zbK e) [.int .i64 (ln : Int)] := fun k => rfl
    rw [e1, zf1]
    have e2 : ∀ (k : Value → Hp → Option (Value × Hp)), zf3 (zbZ RR (zbK e) (.pointer (some ⟨H0.next, 0, none⟩)) (.pointer (some ⟨H0.next + 1, 0, none⟩)) (.pointer (some ⟨H0.next + 2, 0, none⟩)) H7) k = k (.tuple #[]) H8 := fun k => by rw [y1]; rfl
    refine (e2 _).trans ?_
    rw [end_ld y2]
    · rfl
    · rfl
    · rfl
    · rfl
    · intro k; kernel_rfl
    · intro k; kernel_rfl
    · intro k; kernel_rfl
  | good L K q =>
    rw [hq] at hfin
    obtain ⟨H7, sl, rv, x1, x2, x3, x4, x5, x6, x7, x8⟩ := hfin
    have hrun3 := hrun2.trans (congrArg (fun z => zf3 z _) x1)
    refine ⟨H7, _, _, _, sl, rv, hrun3.trans ?_, x3, x4, (f07.trans x5 fun j q => .inl q).mono fun j q => .inr q, x6, x7, x8⟩
    rw [ziG, s_wrap1]
    have e1 : ∀ (k : List Value → Option (Value × Hp)), ziI [.cell 4 T.p_term_Store, .cell 5 T.sl_int, .tmp 6, .cell 7 T.api_Errno] (.tuple #[.pointer (some ⟨H0.next + 5, 0, none⟩), rv, .int .i64 0, .int .i64 0]) k = k [.pointer (some ⟨H0.next + 5, 0, none⟩), rv, .int .i64 0, .int .i64 0] := fun k => rfl
    have e2 : ∀ (k : List Value → Option (Value × Hp)), zjN [.cell 4 T.p_term_Store, .cell 5 T.sl_int, .tmp 6, .cell 7 T.api_Errno] [.pointer (some ⟨H0.next + 5, 0, none⟩), rv, .int .i64 0, .int .i64 0] k = k [.int .i64 0] := fun k => rfl
    refine (e1 _).trans ((e2 _).trans ?_)
    rw [zf1, c_calm]
    show endL PP _ H7 _ [.int .i64 0] _ = _
    rw [end_ld x2]
    · rfl
    · rfl
    · rfl
    · rfl
    · intro k; kernel_rfl
    · intro k; kernel_rfl
    · intro k; kernel_rfl
end Go.AM
namespace Go.AM
open Go
section
variable {B : Hp} {b m w p f g : Nat} {lim : Int} {L : List Nd} {K : List (ByteArray × Int)} {sl : Value} (hT : Tabs B) (hn : PP.globals.size ≤ B.next) (hst : StF B p lim L K sl f g) (hL : L.length * 64 ≤ 2 ^ 46) (hN : ∀ m ∈ L, NdTxt m)
include hT hn hst hL hN
end
end Go.AM
namespace Go.AM
open Go
section
variable {B : Hp} {b m w p f g : Nat} {lim : Int} {L : List Nd} {K : List (ByteArray × Int)} {sl : Value} (hT : Tabs B) (hn : PP.globals.size ≤ B.next) (hst : StF B p lim L K sl f g) (hL : L.length * 64 ≤ 2 ^ 46) (hN : ∀ m ∈ L, NdTxt m)
include hT hn hst hL hN
end
section
variable {H0 : Hp} {p f g : Nat} {lim : Int} {L : List Nd} {K : List (ByteArray × Int)} {sl : Value} (hT : Tabs H0) (hn : PP.globals.size ≤ H0.next) (hst : StF H0 p lim L K sl f g) (hd : Dag L) (hN : ∀ m ∈ L, NdTxt m) (hL : L.length ≤ 2 ^ 30) {x : Value} {rs : List Int} (hx : Rdb H0 1 x rs.length (zkO rs)) (hl : rs.length ≤ 2 ^ 30)
include hT hn hst hd hN hL hx hl
end
end Go.AM
namespace Go.AM
open Go
section
variable {B H : Hp} {a N : Nat} {av : Value} {s : List UInt8} {buf : Value} {Φ : Int → Int}
end
theorem q_fields {op : Int} (h : 1 ≤ op ∧ op ≤ 33) (H : Hp) : RR F.a21 [.int .i64 op] H = some (.string (ba (fl op)), H) := by
  refine (zeh E0 rfl _ _).trans ?_
  unfold zcr fl
  rw [zbP, zac]
  by_cases h2 : op ≤ 2
  · rw [decide_eq_true h2, zkw, if_pos h2]
  rw [decide_eq_false h2, ziR, if_neg h2, zaX, zac]
  by_cases h3 : op = 3
  · rw [decide_eq_true h3, zkw, if_pos h3]
  rw [decide_eq_false h3, ziR, if_neg h3, zaX, zac]
  by_cases h4 : op = 4
  · rw [decide_eq_true h4, zkw, if_pos h4]
  rw [decide_eq_false h4, ziR, if_neg h4, zaX, zac]
  by_cases h31 : op = 31
  · rw [decide_eq_true h31, zkw, if_pos h31]
  rw [decide_eq_false h31, ziR, if_neg h31, zbp, zac]
  by_cases h32 : op ≥ 32
  · rw [decide_eq_true h32, zkw, if_pos h32]
  rw [decide_eq_false h32, ziR, if_neg h32, zaj (c46 _ _)]
  have hp : zgs op = zak op := by unfold zgs; rw [if_neg (by omega)]
  rw [hp]
  rcases zjH op with q | q | q | q <;> rw [q]
  · rfl
  · rfl
  · rfl
  · rfl
end Go.AM
namespace Go.AM
open Go
def fullD : Option (Nd × List (List UInt8)) → Option Nd
  | some (m, []) => some m
  | _ => none
def zjV (ws : List (List UInt8)) (ts : List Int) : Option Nd := match ws with
  | w0 :: o :: r => if zaz w0 = ((ts.length + 1 : Nat) : Int) then (match opF o with
    | none => none
    | some op => fullD (rdF (zcD (op : Int)) r ts 0 (nd0 (op : Int)))) else none
  | _ => none
theorem lineP_eq (ws : List (List UInt8)) (ts : List Int) (L : List Nd) : zi9 ws ts L = (zjV ws ts).map fun m => { m with w := zb2 L m } := by
  unfold zi9 zjV numF
  match ws with
  | [] => rfl
  | [w0] =>
    dsimp only
    by_cases h : zaz w0 < 0
    · rw [if_pos h]; rfl
    · rw [if_neg h]
      dsimp only
      split <;> rfl
  | w0 :: o :: r =>
    dsimp only
    by_cases h : zaz w0 < 0
    · rw [if_pos h, if_neg (by omega)]; rfl
    · rw [if_neg h]
      dsimp only
      by_cases h2 : zaz w0 = ((ts.length + 1 : Nat) : Int)
      · rw [if_pos h2, if_pos h2]
        unfold nodeP
        dsimp only [List.tail_cons]
        cases opF o with
        | none => rfl
        | some op =>
          dsimp only
          cases rdF (zcD (op : Int)) r ts 0 (nd0 (op : Int)) with
          | none => rfl
          | some q =>
            obtain ⟨m, w⟩ := q
            cases w <;> rfl
      · rw [if_neg h2, if_neg h2]; rfl
def opL (w : List UInt8) : List (List UInt8) → Nat → Nat → Nat
  | [], _, acc => acc
  | x :: r, i, acc => opL w r (i + 1) (if x = w then i else acc)
theorem zhx {w : List UInt8} : ∀ (l : List (List UInt8)) (i : Nat), w ∉ l → ze4 w l i = none
  | [], _, _ => rfl
  | x :: r, i, h => by
    unfold ze4
    rw [if_neg (fun q : 0 < i ∧ x = w => h (q.2 ▸ List.mem_cons_self ..))]
    exact zhx r (i + 1) fun q => h (List.mem_cons_of_mem _ q)
theorem opL_eq {w : List UInt8} : ∀ (l : List (List UInt8)) (i acc : Nat), 0 < i → l.Nodup → opL w l i acc = (ze4 w l i).getD acc
  | [], _, _, _, _ => rfl
  | x :: r, i, acc, hi, hn => by
    unfold opL ze4
    rw [List.nodup_cons] at hn
    rw [opL_eq r (i + 1) _ (by omega) hn.2]
    by_cases h : x = w
    · rw [if_pos h, if_pos ⟨hi, h⟩, zhx r (i + 1) (h ▸ hn.1)]; rfl
    · rw [if_neg h, if_neg (fun q => h q.2)]
theorem opL_top (w : List UInt8) : opL w (zcz.drop 1) 1 0 = (opF w).getD 0 := by
  have h : (zcz.drop 1).Nodup := by decide
  rw [opL_eq _ 1 0 (by decide) h]
  rfl
theorem zd6 {α : Type} (n : Nd) (k : Value → Option α) : zad 7 true n.cells 0 k = k n.val := by
  have : zbM n.cells 0 7 true = some n.val := by kernel_rfl
  unfold zad; rw [this]
theorem splN {α : Type} (n : Nd) (o : Nat) (ho : o < 7) (v : Value) (h1 : OneV v) (k : List Value → Option α) : zaG 1 n.cells o v k = k (spl n.cells o [v]) := by
  have : za8 1 n.cells o v = some (spl n.cells o [v]) := by
    unfold za8
    rw [h1.1, if_pos ⟨rfl, by show o + 1 ≤ 7; omega, by simp [h1.2]⟩]
  unfold zaG; rw [this]
theorem zjE (w : List UInt8) (H : Hp) (x0 : Value) (hix : ∃ y, (∀ (α : Type) (k : Value → Option α), pIdx 1 x0 (.int .i64 1) k = k (.pointer (some y))) ∧ Hp.rdP H (.pointer (some y)) 1 false = some (str w)) : ∀ (rest : List (List UInt8)) (i acc : Nat), zcz.drop i = rest → 1 ≤ i → i ≤ 34 →
    zaE (zaR RR x0) [.int .i64 (i : Int), (nd0 (acc : Int)).val] H = some (.exit 0, [.int .i64 34, (nd0 ((opL w rest i acc : Nat) : Int)).val], H)
  | [], i, acc, hr, h1, hi => by
    have hl : zcz.length = 34 := rfl
    have hil : i = 34 := by
      have := congrArg List.length hr
      rw [List.length_drop, hl] at this
      simp at this
      omega
    have this : zaR RR x0 [.int .i64 (i : Int), (nd0 (acc : Int)).val] H = some (.exit 0, [.int .i64 (i : Int), (nd0 (acc : Int)).val], H) := by
      unfold zaR
      have h1 : ¬ ((i : Int) ≤ 33) := by omega
      simp only [qg0, qg1, qd1, qd0, zbP, zac, s_br, h1, decide_false, Bool.false_eq_true, if_false]
      rfl
    rw [zam, this, hil]
    rfl
  | x :: r, i, acc, hr, h1, hi => by
    have hl : zcz.length = 34 := rfl
    have hlt : i < 34 := by
      have := congrArg List.length hr
      rw [List.length_drop, hl] at this
      simp at this
      omega
    have hget : zcz[i]? = some x := by
      have := congrArg (fun x => x[0]?) hr
      simpa using this
    have hr2 : zcz.drop (i + 1) = r := by rw [← List.drop_drop, hr]; rfl
    obtain ⟨y, hix1, hrd⟩ := hix
    have hinc : IntKind.i64.wrap ((i : Int) + 1) = ((i + 1 : Nat) : Int) := w64 (by omega) (by omega)
    have hle : ((i : Int) ≤ 33) := by omega
    have hw : word zcz (i : Int) = x := by
      unfold word
      rw [Int.toNat_natCast, List.getD_eq_getElem?_getD, hget]; rfl
    have hwd : RR F.a34 [.int .i64 (i : Int)] H = some (str x, H) := by
      have := refWord (op := (i : Int)) (by omega) H
      rw [hw] at this; exact this
    have hld : ∀ {α : Type} (k : Value → Option α), zah 1 false H (.pointer (some y)) k = k (str w) := fun k => by unfold zah; rw [hrd]
    have hc : zaa (nd0 (acc : Int)).val = (nd0 (acc : Int)).cells := rfl
    have this : zaR RR x0 [.int .i64 (i : Int), (nd0 (acc : Int)).val] H = some (.next, [.int .i64 ((i + 1 : Nat) : Int), (nd0 (((if x = w then i else acc : Nat) : Nat) : Int)).val], H) := by
      unfold zaR
      by_cases hx : x = w
      · have hx' : (x == w) = true := by rw [beq_iff_eq]; exact hx
        rw [if_pos hx]
        simp only [qg0, qg1, qd1, qd0, zbP, zac, s_br, hle, decide_true, if_true, zaj hwd, hix1, hld, zgE hrd, zdx, hx', hc, splN _ 0 (by decide) _ (show OneV (.int .i64 (i : Int)) from ⟨rfl, rfl⟩), za2, hinc]
        rfl
      · have hx' : (x == w) = false := by rw [beq_eq_false_iff_ne]; exact hx
        rw [if_neg hx]
        simp only [qg0, qg1, qd1, qd0, zbP, zac, s_br, hle, decide_true, if_true, zaj hwd, hix1, hld, zgE hrd, zdx, hx', hc, Bool.false_eq_true, if_false, za2, hinc]
        rfl
    rw [zam, this]
    unfold opL
    exact zjE w H x0 ⟨y, hix1, hrd⟩ r (i + 1) _ hr2 (by omega) hlt
def fldC : Fld → UInt8
  | .p => 112
  | .n => 110
  | .w => 119
  | .s => 115
theorem fl_all : ((List.range 34).all fun op => decide (op = 0) || decide (fl (op : Int) = (zcD (op : Int)).map fldC)) = true := by decide +kernel
theorem fl_eq {op : Nat} (h1 : 1 ≤ op) (h2 : op ≤ 33) : fl (op : Int) = (zcD (op : Int)).map fldC := by
  have := List.all_eq_true.1 fl_all op (List.mem_range.2 (by omega))
  rw [Bool.or_eq_true, decide_eq_true_eq, decide_eq_true_eq] at this
  rcases this with q | q
  · omega
  · exact q
end Go.AM
namespace Go.AM
open Go
def z7 : List Value := [.int .i64 0, .int .i64 0, .int .i64 0, .int .i64 0, .int .i64 0, .int .u64 0, .string ⟨#[]⟩]
def z7V : Value := .agg z7.toArray
theorem splZ {α : Type} (n : Nd) (k : List Value → Option α) : zaG 7 (zaa z7V) 0 n.val k = k n.cells := spl7 n k
theorem splZ' {α : Type} (n : Nd) (k : List Value → Option α) : zaG 7 z7 0 n.val k = k n.cells := spl7 n k
theorem cellsV (n : Nd) : zaa n.val = n.cells := rfl
theorem ziU {H : Hp} {x0 : Value} {ws : List (List UInt8)} (h : Rdb H 1 x0 ws.length (ws.map str)) {j : Nat} {w : List UInt8} (hj : ws[j]? = some w) :
    ∃ y, (∀ (α : Type) (k : Value → Option α), pIdx 1 x0 (.int .i64 (j : Int)) k = k (.pointer (some y))) ∧ Hp.rdP H (.pointer (some y)) 1 false = some (str w) := by
  have hlt : j < ws.length := (List.getElem?_eq_some_iff.1 hj).1
  obtain ⟨y, hy, ⟨rest, own, hg⟩, hix⟩ := h.ix hlt
  refine ⟨⟨y, j * 1, none⟩, fun α k => hix α .i64 k, ze3 hg (j * 1) (str w) ?_⟩
  rw [Nat.mul_one, List.getElem?_append_left (by rw [List.length_map]; exact hlt), List.getElem?_map, hj]; rfl
theorem rd_int {H : Hp} {x1 : Value} {ts : List Int} (h : Rdb H 1 x1 ts.length (i64s ts)) {j : Nat} (hj : j < ts.length) :
    ∃ y, (∀ (α : Type) (k : Value → Option α), pIdx 1 x1 (.int .i64 (j : Int)) k = k (.pointer (some y))) ∧ Hp.rdP H (.pointer (some y)) 1 false = some (.int .i64 (ts.getD j 0)) := by
  obtain ⟨y, hy, ⟨rest, own, hg⟩, hix⟩ := h.ix hj
  refine ⟨⟨y, j * 1, none⟩, fun α k => hix α .i64 k, ze3 hg (j * 1) (.int .i64 (ts.getD j 0)) ?_⟩
  rw [Nat.mul_one, List.getElem?_append_left (by simpa [i64s] using hj), i64s, List.getElem?_map, List.getD_eq_getElem?_getD, List.getElem?_eq_getElem hj]; rfl
theorem zhD {H : Hp} {y : Addr} {v : Value} (h : Hp.rdP H (.pointer (some y)) 1 false = some v) {α : Type} (k : Value → Option α) : zah 1 false H (.pointer (some y)) k = k v := by unfold zah; rw [h]
theorem setP_spl (k : Nat) (n : Nd) (t : Int) : (setP k n t).cells = spl n.cells (if k = 0 then 2 else if k = 1 then 3 else 4) [.int .i64 t] := by
  unfold setP
  split
  · rfl
  · split <;> rfl
theorem rdF_len : ∀ (fs : List Fld) (ws : List (List UInt8)) (ts : List Int) (k : Nat) (n m : Nd), rdF fs ws ts k n = some (m, []) → fs.length = ws.length
  | [], ws, ts, k, n, m, h => by cases h; rfl
  | f :: fs, [], ts, k, n, m, h => by cases h
  | f :: fs, w :: ws, ts, k, n, m, h => by
    rw [zbW] at h
    cases hs : setF f w ts k n with
    | none => rw [hs] at h; cases h
    | some q =>
      rw [hs] at h
      rw [List.length_cons, List.length_cons, rdF_len fs ws ts _ q m h]
theorem zl7 {H : Hp} {x0 x1 : Value} {ws : List (List UInt8)} {ts : List Int} (hw : Rdb H 1 x0 ws.length (ws.map str)) (ht : Rdb H 1 x1 ts.length (i64s ts)) (hsh : ∀ w ∈ ws, w.length ≤ 2 ^ 40) (htl : ts.length ≤ 2 ^ 40) (all : List Fld) (hal : all.length ≤ 10) (k part : Nat) (hp : part ≤ k) (n : Nd) {f : Fld} {w : List UInt8} (hf : all[k]? = some f) (hk : ws[k + 2]? = some w) :
    match setF f w ts part n with
    | none => ∃ v : Nd, zay RR x0 x1 (str (all.map fldC)) [.int .i64 (part : Int), .int .i64 (k : Int), z7V, n.val] H = some (.ret, [.tuple #[v.val, .bool false]], H)
    | some m => zay RR x0 x1 (str (all.map fldC)) [.int .i64 (part : Int), .int .i64 (k : Int), z7V, n.val] H = some (.next, [.int .i64 (((if f = .p then part + 1 else part : Nat) : Nat) : Int), .int .i64 ((k + 1 : Nat) : Int), z7V, m.val], H) := by
  have hlt : k < all.length := (List.getElem?_eq_some_iff.1 hf).1
  have hwl := hsh w (List.mem_of_getElem? hk)
  obtain ⟨y, hix, hrd⟩ := ziU hw hk
  have hlen : ∀ {α : Type} (kk : Value → Option α), pLen .str (str (all.map fldC)) H kk = kk (.int .i64 (all.length : Int)) := fun kk => by rw [zbU, List.length_map]
  have h1 : ((k : Int) < (all.length : Int)) := by omega
  have hadd2 : IntKind.i64.wrap ((k : Int) + 2) = ((k + 2 : Nat) : Int) := w64 (by omega) (by omega)
  have hinc : IntKind.i64.wrap ((k : Int) + 1) = ((k + 1 : Nat) : Int) := w64 (by omega) (by omega)
  have hpinc : IntKind.i64.wrap ((part : Int) + 1) = ((part + 1 : Nat) : Int) := w64 (by omega) (by omega)
  have hat : ∀ {α : Type} (kk : Value → Option α), zaU (str (all.map fldC)) (.int .i64 (k : Int)) kk = kk (.int .u8 ((fldC f).toNat : Int)) := fun kk => f_at (ba (all.map fldC)) .i64 k (fldC f) (by rw [zdC, List.getElem?_map, hf]; rfl) kk
  have hsm := zkz w hwl H
  have hnum := zln w hwl H
  have hb := zg3 w
  have hzz : (Value.agg (zaa z7V).toArray) = z7V := rfl
  have hnn : ∀ m : Nd, Value.agg m.cells.toArray = m.val := fun m => rfl
  unfold zay
  simp only [qg0, qg1, qd1, qd0, hlen, zaP, zac, s_br, h1, decide_true, if_true, za2, hadd2, hix, zhD hrd, zaj hsm, hat, zaX, cellsV]
  unfold setF
  cases f with
  | p =>
    have c1 : ((fldC .p).toNat : Int) = 112 := rfl
    simp only [c1, decide_true, if_true]
    by_cases hv : 1 ≤ zaz w ∧ zaz w ≤ ts.length
    · rw [if_pos hv]
      have e1 : ¬ (zaz w < 1) := by omega
      have e2 : ¬ (zaz w > (ts.length : Int)) := by omega
      have e3 : IntKind.i64.wrap (zaz w - 1) = (((zaz w - 1).toNat : Nat) : Int) := by rw [w64 (by omega) (by omega)]; omega
      obtain ⟨y2, hix2, hrd2⟩ := rd_int ht (j := (zaz w - 1).toNat) (by omega)
      have ho : ∀ o, OneV (.int .i64 o) := fun o => ⟨rfl, rfl⟩
      have hspl := setP_spl part n (ts.getD (zaz w - 1).toNat 0)
      by_cases p0 : part = 0
      · have p0' : ((part : Int) = 0) := by omega
        rw [if_pos p0] at hspl
        simp only [e1, e2, decide_false, Bool.false_eq_true, if_false, ht.len, zbi, zan, zaA, p0', decide_true, if_true, zcY, e3, hix2, zhD hrd2, splN n 2 (by decide) _ (ho _), ← hspl, hzz, hnn, hinc, za2, zac, s_br]
        rw [p0]; rfl
      · have p0' : ¬ ((part : Int) = 0) := by omega
        rw [if_neg p0] at hspl
        by_cases p1 : part = 1
        · have p1' : ((part : Int) = 1) := by omega
          rw [if_pos p1] at hspl
          simp only [e1, e2, decide_false, Bool.false_eq_true, if_false, ht.len, zbi, zan, zaA, p0', p1', show ¬ ((1 : Int) = 0) from by decide, decide_true, if_true, zcY, e3, hix2, zhD hrd2, splN n 3 (by decide) _ (ho _), ← hspl, hzz, hnn, hinc, za2, zac, s_br]
          rw [p1]; rfl
        · have p1' : ¬ ((part : Int) = 1) := by omega
          rw [if_neg p1] at hspl
          simp only [e1, e2, decide_false, Bool.false_eq_true, if_false, ht.len, zbi, zan, zaA, p0', p1', decide_true, if_true, zcY, e3, hix2, zhD hrd2, splN n 4 (by decide) _ (ho _), ← hspl, hzz, hnn, hinc, hpinc, za2, zac, s_br]
          rfl
    · rw [if_neg hv]
      by_cases e1 : zaz w < 1
      · simp only [e1, decide_true, if_true, zd6, splZ, zan, zbx]
        exact ⟨_, rfl⟩
      · have e2 : (zaz w > (ts.length : Int)) := by omega
        simp only [e1, e2, decide_false, decide_true, Bool.false_eq_true, if_false, if_true, ht.len, zbi, zd6, splZ, zan, zbx, zac, s_br]
        exact ⟨_, rfl⟩
  | n =>
    have c1 : ((fldC .n).toNat : Int) = 110 := rfl
    simp only [c1, show ¬ ((110 : Int) = 112) from by decide, decide_true, decide_false, Bool.false_eq_true, if_false, if_true, zaj hnum]
    cases hn : numP w with
    | none =>
      have e0 : ∀ {α : Type} (k : Value → Option α), zag (numV none) 0 k = k (.int .u64 0) := fun k => rfl
      have e1 : ∀ {α : Type} (k : Value → Option α), zag (numV none) 1 k = k (.int .i64 10) := fun k => rfl
      simp only [e0, e1, zbb, zac, s_br, show ((10 : Int) ≠ 0) from by decide, decide_true, if_true, ne_eq, not_false_eq_true, zd6, splZ]
      exact ⟨_, rfl⟩
    | some x =>
      have e0 : ∀ {α : Type} (k : Value → Option α), zag (numV (some x)) 0 k = k (.int .u64 (x : Int)) := fun k => rfl
      have e1 : ∀ {α : Type} (k : Value → Option α), zag (numV (some x)) 1 k = k (.int .i64 0) := fun k => rfl
      have hz : ¬ ((0 : Int) ≠ 0) := by decide
      have hop : ∀ {α : Type} (kk : Value → Option α), zad 1 false n.cells 0 kk = kk (.int .i64 n.op) := fun kk => zdk _ 0 _ rfl kk
      have hspl : spl n.cells 5 [.int .u64 (x : Int)] = ({ n with num := (x : Int) } : Nd).cells := rfl
      dsimp only
      by_cases h3 : n.op = 3
      · rw [if_pos (.inl h3)]
        have h3' : ¬ (n.op ≠ 3) := fun q => q h3
        simp only [e0, e1, zbb, zac, s_br, hz, h3', decide_false, Bool.false_eq_true, if_false, hop, splN n 5 (by decide) _ (show OneV (.int .u64 (x : Int)) from ⟨rfl, rfl⟩), hspl, hinc, hzz, hnn]
        rfl
      · by_cases hv : 0 ≤ zaz w
        · rw [if_pos (.inr hv)]
          have hv' : ¬ (zaz w < 0) := by omega
          simp only [e0, e1, zbb, zac, s_br, hz, h3, hv', ne_eq, not_false_eq_true, decide_true, decide_false, Bool.false_eq_true, if_true, if_false, hop, splN n 5 (by decide) _ (show OneV (.int .u64 (x : Int)) from ⟨rfl, rfl⟩), hspl, hinc, hzz, hnn]
          rfl
        · rw [if_neg (by intro q; rcases q with q | q; exact h3 q; exact hv q)]
          have hv' : (zaz w < 0) := by omega
          simp only [e0, e1, zbb, zac, s_br, hz, h3, hv', ne_eq, not_false_eq_true, decide_true, decide_false, Bool.false_eq_true, if_true, if_false, hop, zd6, splZ]
          exact ⟨_, rfl⟩
  | w =>
    have c1 : ((fldC .w).toNat : Int) = 119 := rfl
    have hspl : spl n.cells 1 [.int .i64 (zaz w)] = ({ n with w := zaz w } : Nd).cells := rfl
    simp only [c1, show ¬ ((119 : Int) = 112) from by decide, show ¬ ((119 : Int) = 110) from by decide, decide_true, decide_false, Bool.false_eq_true, if_false, if_true]
    by_cases hv : zaz w < 0
    · rw [if_pos hv]
      simp only [hv, decide_true, if_true, zd6, splZ]
      exact ⟨_, rfl⟩
    · rw [if_neg hv]
      simp only [hv, decide_false, Bool.false_eq_true, if_false, splN n 1 (by decide) _ (show OneV (.int .i64 (zaz w)) from ⟨rfl, rfl⟩), hspl, hinc, hzz, hnn]
      rfl
  | s =>
    have c1 : ((fldC .s).toNat : Int) = 115 := rfl
    have hspl : spl n.cells 6 [str w] = ({ n with name := ba w } : Nd).cells := rfl
    simp only [c1, show ¬ ((115 : Int) = 112) from by decide, show ¬ ((115 : Int) = 110) from by decide, show ¬ ((115 : Int) = 119) from by decide, decide_true, decide_false, Bool.false_eq_true, if_false, if_true, hix, zhD hrd, splN n 6 (by decide) _ (show OneV (str w) from ⟨rfl, rfl⟩), hspl, hinc, hzz, hnn]
    rfl
theorem zih {H : Hp} {x0 x1 : Value} {ws : List (List UInt8)} {ts : List Int} (hw : Rdb H 1 x0 ws.length (ws.map str)) (ht : Rdb H 1 x1 ts.length (i64s ts)) (hsh : ∀ w ∈ ws, w.length ≤ 2 ^ 40) (htl : ts.length ≤ 2 ^ 40) (all : List Fld) (hal : all.length ≤ 10) : ∀ (fs : List Fld) (rws : List (List UInt8)) (k part : Nat) (n : Nd), all.drop k = fs → ws.drop (k + 2) = rws → fs.length = rws.length → part ≤ k → k ≤ all.length →
    match rdF fs rws ts part n with
    | none => ∃ v : Nd, zaE (zay RR x0 x1 (str (all.map fldC))) [.int .i64 (part : Int), .int .i64 (k : Int), z7V, n.val] H = some (.ret, [.tuple #[v.val, .bool false]], H)
    | some (m, q) => q = [] ∧ ∃ a b, zaE (zay RR x0 x1 (str (all.map fldC))) [.int .i64 (part : Int), .int .i64 (k : Int), z7V, n.val] H = some (.exit 2, [a, b, z7V, m.val], H)
  | [], rws, k, part, n, h1, h2, h3, h4, h5 => by
    have hk : k = all.length := by
      have := congrArg List.length h1
      rw [List.length_drop] at this
      simp at this
      omega
    have hr : rws = [] := List.length_eq_zero_iff.1 h3.symm
    have this : zay RR x0 x1 (str (all.map fldC)) [.int .i64 (part : Int), .int .i64 (k : Int), z7V, n.val] H = some (.exit 2, [.int .i64 (part : Int), .int .i64 (k : Int), z7V, n.val], H) := by
      have hlen : ∀ {α : Type} (kk : Value → Option α), pLen .str (str (all.map fldC)) H kk = kk (.int .i64 (all.length : Int)) := fun kk => by rw [zbU, List.length_map]
      have e1 : ¬ ((k : Int) < (all.length : Int)) := by omega
      unfold zay
      simp only [qg0, qg1, qd1, qd0, hlen, zaP, zac, s_br, e1, decide_false, Bool.false_eq_true, if_false]
      rfl
    exact ⟨hr, _, _, by rw [zam, this]; rfl⟩
  | f :: fs, [], k, part, n, h1, h2, h3, h4, h5 => by cases h3
  | f :: fs, w :: rws, k, part, n, h1, h2, h3, h4, h5 => by
    have hf : all[k]? = some f := by
      have := congrArg (fun x => x[0]?) h1
      simpa using this
    have hk : ws[k + 2]? = some w := by
      have := congrArg (fun x => x[0]?) h2
      simpa using this
    have hlt : k < all.length := (List.getElem?_eq_some_iff.1 hf).1
    have h1' : all.drop (k + 1) = fs := by rw [← List.drop_drop, h1]; rfl
    have h2' : ws.drop (k + 1 + 2) = rws := by
      have : k + 1 + 2 = (k + 2) + 1 := by omega
      rw [this, ← List.drop_drop, h2]; rfl
    have hs := zl7 hw ht hsh htl all hal k part h4 n hf hk
    rw [zbW]
    cases hq : setF f w ts part n with
    | none =>
      rw [hq] at hs
      obtain ⟨v, hv⟩ := hs
      exact ⟨v, by rw [zam, hv]; rfl⟩
    | some m =>
      rw [hq] at hs
      have ih := zih hw ht hsh htl all hal fs rws (k + 1) (if f = .p then part + 1 else part) m h1' h2' (Nat.succ.inj h3) (by split <;> omega) hlt
      rw [zam, hs]
      exact ih
end Go.AM
namespace Go.AM
open Go
theorem bld_nd {α : Type} (k : Value → Option α) : zaJ PP T.api_Node [] k = k (nd0 0).val := by
  have : ze7 PP T.api_Node [] = some (nd0 0).val := by kernel_rfl
  unfold zaJ; rw [this]
def QNode (H : Hp) (x0 x1 : Value) : Option Nd → Prop
  | none => ∃ m : Nd, RR F.a14 [x0, x1] H = some (.tuple #[m.val, .bool false], H)
  | some m => RR F.a14 [x0, x1] H = some (.tuple #[m.val, .bool true], H)
theorem q_node {H : Hp} {x0 x1 : Value} {ws : List (List UInt8)} {ts : List Int} (hw : Rdb H 1 x0 ws.length (ws.map str)) (ht : Rdb H 1 x1 ts.length (i64s ts)) (hsh : ∀ w ∈ ws, w.length ≤ 2 ^ 40) (htl : ts.length ≤ 2 ^ 40) (hwl : ws.length ≤ 2 ^ 40) :
    QNode H x0 x1 (zjV ws ts) := by
  have hrun := zfg E0 rfl x0 x1 H
  rw [zfp, bld_nd] at hrun
  have s0 : ∀ {α : Type} (n : Nd) (k : List Value → Option α), zaG 7 [.int .i64 0, .int .i64 0, .int .i64 0, .int .i64 0, .int .i64 0, .int .u64 0, .string ⟨#[]⟩] 0 n.val k = k n.cells := fun n k => spl7 n k
  have hlen : ∀ {α : Type} (k : Value → Option α), pLen .sl x0 H k = k (.int .i64 (ws.length : Int)) := fun k => hw.len H k
  rw [s0] at hrun
  simp only [hlen, zaP, zac, s_br] at hrun
  unfold zjV
  by_cases h2 : ws.length < 2
  · have h2' : ((ws.length : Int) < 2) := by omega
    simp only [h2', decide_true, if_true, zd6, s0, zan, zbx] at hrun
    match ws, h2 with
    | [], _ => exact ⟨_, hrun⟩
    | [a], _ => exact ⟨_, hrun⟩
    | a :: b :: r, h2 => simp at h2; omega
  · have h2' : ¬ ((ws.length : Int) < 2) := by omega
    match ws, h2 with
    | [], h2 => exact absurd (by decide) h2
    | [a], h2 => exact absurd (by show 1 < 2; decide) h2
    | w0 :: o :: r, _ =>
    dsimp only
    obtain ⟨y0, i0, d0⟩ := ziU hw (j := 0) (w := w0) rfl
    obtain ⟨y1, i1, d1⟩ := ziU hw (j := 1) (w := o) rfl
    have i0 : ∀ (α : Type) (k : Value → Option α), pIdx 1 x0 (.int .i64 0) k = k (.pointer (some y0)) := i0
    have i1 : ∀ (α : Type) (k : Value → Option α), pIdx 1 x0 (.int .i64 1) k = k (.pointer (some y1)) := i1
    have hsm := zkz w0 (hsh w0 (List.mem_cons_self ..)) H
    have htadd : IntKind.i64.wrap ((ts.length : Int) + 1) = ((ts.length + 1 : Nat) : Int) := w64 (by omega) (by omega)
    have hz0 : (Value.agg #[.int .i64 0, .int .i64 0, .int .i64 0, .int .i64 0, .int .i64 0, .int .u64 0, .string ⟨#[]⟩]) = z7V := rfl
    have hz1 : (Value.agg [.int .i64 0, .int .i64 0, .int .i64 0, .int .i64 0, .int .i64 0, .int .u64 0, .string ⟨#[]⟩].toArray) = z7V := rfl
    simp only [h2', decide_false, Bool.false_eq_true, if_false, i0, zhD d0, zaj hsm, ht.len, za2, htadd, zbb, zac, s_br] at hrun
    by_cases h3 : zaz w0 = ((ts.length + 1 : Nat) : Int)
    · rw [if_pos h3]
      have h3' : ¬ (zaz w0 ≠ ((ts.length + 1 : Nat) : Int)) := fun q => q h3
      simp only [h3', decide_false, Bool.false_eq_true, if_false, zan, zaA] at hrun
      have hloop := zjE o H x0 ⟨y1, i1, d1⟩ (zcz.drop 1) 1 0 rfl (by decide) (by decide)
      have hloop : zaE (zaR RR x0) [.int .i64 1, .agg (nd0 0).cells.toArray] H = some (.exit 0, [.int .i64 34, (nd0 ((opL o (zcz.drop 1) 1 0 : Nat) : Int)).val], H) := hloop
      rw [opL_top] at hloop
      replace hrun := hrun.trans (congrArg (fun z => zat z _) hloop)
      rw [zan, zbe, zaO] at hrun
      simp only [qd1, qd0, qg0] at hrun
      have hop : ∀ {α : Type} (n : Nd) (kk : Value → Option α), zad 1 false (zaa n.val) 0 kk = kk (.int .i64 n.op) := fun n kk => zdk _ 0 _ rfl kk
      have hcA : ∀ {α : Type} (n : Nd) (kk : Value → Option α), zad 7 true (zaa n.val) 0 kk = kk n.val := fun n kk => zd6 n kk
      cases ho : opF o with
      | none =>
        rw [ho] at hrun
        simp only [hop, hcA, Option.getD_none, zaX, show (nd0 ((0 : Nat) : Int)).op = 0 from rfl, decide_true, zac, s_br, if_true, zan, zbx] at hrun
        exact ⟨_, hrun.trans (by
          rw [hz1, splZ, zd6]
          rfl)⟩
      | some op =>
        have hob := opF_bd ho
        rw [ho] at hrun
        have hop0 : ¬ ((op : Int) = 0) := by omega
        have hfl := q_fields (op := (op : Int)) (by omega) H
        rw [fl_eq hob.1 hob.2] at hfl
        have hfl : RR F.a21 [.int .i64 (op : Int)] H = some (str ((zcD (op : Int)).map fldC), H) := hfl
        have hal : (zcD (op : Int)).length ≤ 10 := by
          have h := congrArg List.length (fl_eq hob.1 hob.2)
          rw [List.length_map] at h
          rw [← h]
          have hall : ((List.range 34).all fun op => decide ((fl (op : Int)).length ≤ 10)) = true := by decide +kernel
          exact of_decide_eq_true (List.all_eq_true.1 hall op (List.mem_range.2 (by omega)))
        have hsub : IntKind.i64.wrap ((((w0 :: o :: r).length : Nat) : Int) - 2) = (r.length : Int) := by
          rw [w64 (by simp only [List.length_cons]; omega) (by simp only [List.length_cons] at hwl ⊢; omega)]
          simp only [List.length_cons]; omega
        simp only [hop, hcA, Option.getD_some, zaX, show (nd0 (op : Int)).op = (op : Int) from rfl, hop0, decide_false, zac, s_br, Bool.false_eq_true, if_false, hlen, zcY, hsub, zaj hfl, zbU, List.length_map, zbb, zac, s_br] at hrun
        dsimp only
        by_cases hlr : (zcD (op : Int)).length = r.length
        · have hlr' : ¬ ((r.length : Int) ≠ ((zcD (op : Int)).length : Int)) := by omega
          simp only [hlr', decide_false, Bool.false_eq_true, if_false, zan, zaA, qd0, qg0, hz1, zaj hfl] at hrun
          have hlp := zih hw ht hsh htl (zcD (op : Int)) hal (zcD (op : Int)) r 0 0 (nd0 (op : Int)) rfl rfl hlr (Nat.le_refl _) (Nat.zero_le _)
          have hzc : Value.agg (zaa z7V).toArray = z7V := rfl
          cases hr : rdF (zcD (op : Int)) r ts 0 (nd0 (op : Int)) with
          | none =>
            rw [hr] at hlp
            obtain ⟨v, hv⟩ := hlp
            have hv : zaE (zay RR x0 x1 (str ((zcD (op : Int)).map fldC))) [.int .i64 0, .int .i64 0, z7V, (nd0 (op : Int)).val] H = _ := hv
            replace hrun := hrun.trans (congrArg (fun z => zat z _) hv)
            rw [zan, zbx] at hrun
            exact ⟨_, hrun⟩
          | some q =>
            obtain ⟨m, q⟩ := q
            rw [hr] at hlp
            obtain ⟨rfl, a, b, hv⟩ := hlp
            have hv : zaE (zay RR x0 x1 (str ((zcD (op : Int)).map fldC))) [.int .i64 0, .int .i64 0, z7V, (nd0 (op : Int)).val] H = _ := hv
            replace hrun := hrun.trans (congrArg (fun z => zat z _) hv)
            rw [zan, zbe, zaO] at hrun
            simp only [qd1, qd0, qg0, qg1, hcA, splZ, zd6] at hrun
            exact hrun
        · have hlr' : ((r.length : Int) ≠ ((zcD (op : Int)).length : Int)) := by omega
          have hno : ∀ m, rdF (zcD (op : Int)) r ts 0 (nd0 (op : Int)) ≠ some (m, []) := fun m e => hlr (rdF_len _ _ _ _ _ _ e)
          simp only [hlr', ne_eq, not_false_eq_true, decide_true, if_true, hz1, splZ, zd6, zan, zbx, List.headD_cons] at hrun
          have hnone : fullD (rdF (zcD (op : Int)) r ts 0 (nd0 (op : Int))) = none := by
            cases e : rdF (zcD (op : Int)) r ts 0 (nd0 (op : Int)) with
            | none => rfl
            | some q =>
              obtain ⟨m, q⟩ := q
              cases q with
              | nil => exact absurd e (hno m)
              | cons a b => rfl
          rw [hnone]
          exact ⟨_, hrun⟩
    · rw [if_neg h3]
      simp only [h3, ne_eq, not_false_eq_true, decide_true, if_true, zd6, s0, zan, zbx] at hrun
      exact ⟨_, hrun⟩
end Go.AM
