/- Part of the proof of TermBackUptoCardSaid: see the last file.  -/
import Derived.Laws.MathBits
import Derived.KernelRfl
import Derived.Test.YtkfhklmklhnfaaaGreatDoorRows
import Derived.Lib.ItoaLen
import Derived.Lib.Strings
import Derived.Test.YtkfhklmklhnfaaaGreatDoorT0
import Derived.Test.YtkfhklmklhnfaaaGreatDoorT2
import Derived.Test.YtkfhklmklhnfaaaGreatDoorT3
set_option linter.unusedSimpArgs false
set_option linter.unusedVariables false
set_option linter.unusedSectionVars false
set_option maxRecDepth 100000
namespace Go.AM
open Go
def lowB (n : Nat) : Nat := if n % 64 < 32 then n + 32 else n
theorem lowB_all : ((List.range 256).all fun n => match zdF .or .u8 (n : Int) 32 with | some (.int .u8 m) => m == (lowB n : Int) | _ => false) = true := by kernel_rfl
theorem s_low (n : Nat) (hn : n < 256) {α : Type} (T : TypeId) (k : Value → Option α) : pBin PP .or T (.int .u8 (n : Int)) (.int .u8 32) k = k (.int .u8 (lowB n : Int)) := by
  have h := List.all_eq_true.1 lowB_all n (List.mem_range.2 hn)
  have e : zdF .or .u8 (n : Int) 32 = some (.int .u8 (lowB n : Int)) := by
    split at h
    · rename_i m hm
      rw [hm, eq_of_beq h]
    · cases h
  have : binV PP .or T (.int .u8 (n : Int)) (.int .u8 32) = some (.int .u8 (lowB n : Int)) := e
  unfold pBin; rw [this]
theorem c_lower (n : Nat) (hn : n < 256) (H : Hp) : RR F.a4 [.int .u8 (n : Int)] H = some (.int .u8 (lowB n : Int), H) := by
  refine (zef E0 rfl _ H).trans ?_
  unfold zb8
  rw [s_low n hn]
def pd (n : Nat) : Option Nat := if 48 ≤ n ∧ n ≤ 57 then some (n - 48) else if 97 ≤ lowB n ∧ lowB n ≤ 122 then some (lowB n - 97 + 10) else none
def pdOk (n base : Nat) : Bool := match pd n with
  | none => digV n base == -1
  | some d => d < 36 && (if d < base then digV n base == (d : Int) else digV n base == -1)
theorem pd_all : ((List.range 256).all fun n => pdOk n 10 && pdOk n 16) = true := by kernel_rfl
theorem pd_none {n base : Nat} (hn : n < 256) (hb : base = 10 ∨ base = 16) (h : pd n = none) : digV n base = -1 := by
  have := List.all_eq_true.1 pd_all n (List.mem_range.2 hn)
  rw [Bool.and_eq_true] at this
  have : pdOk n base = true := by rcases hb with rfl | rfl; exact this.1; exact this.2
  unfold pdOk at this
  rw [h] at this
  exact eq_of_beq this
theorem pd_some {n base d : Nat} (hn : n < 256) (hb : base = 10 ∨ base = 16) (h : pd n = some d) : d < 36 ∧ (d < base → digV n base = (d : Int)) ∧ (base ≤ d → digV n base = -1) := by
  have := List.all_eq_true.1 pd_all n (List.mem_range.2 hn)
  rw [Bool.and_eq_true] at this
  have : pdOk n base = true := by rcases hb with rfl | rfl; exact this.1; exact this.2
  unfold pdOk at this
  rw [h] at this
  dsimp only at this
  rw [Bool.and_eq_true, decide_eq_true_eq] at this
  refine ⟨this.1, fun q => ?_, fun q => ?_⟩
  · have h2 := this.2; rw [if_pos q] at h2; exact eq_of_beq h2
  · have h2 := this.2; rw [if_neg (by omega)] at h2; exact eq_of_beq h2
def zgA (l : List UInt8) : List Value := l.map fun b => Value.int .u8 (b.toNat : Int)
def errP (u c : Int) : Value := .tuple #[.int .u64 u, .iface T.strconv_Error (.int .i64 c)]
theorem u8w {a : Int} (h0 : 0 ≤ a) (h1 : a ≤ 255) : IntKind.u8.wrap a = a := zdo (k := .u8) h0 h1
def maxU : Value := .int .u64 18446744073709551615
theorem u64mod {a : Nat} (h : 18446744073709551616 ≤ a) (h2 : a < 2 * 18446744073709551616) : IntKind.u64.wrap (a : Int) = ((a - 18446744073709551616 : Nat) : Int) := by
  simp [IntKind.wrap, IntKind.signed, IntKind.bits]
  omega
def ParQ (v base : Nat) (d : Int) (i : Nat) (H : Hp) (r : Outc) : Prop :=
  ((d < 0 ∨ v > (18446744073709551615 - d.toNat) / base) → ∃ u c, (c = 1 ∨ c = 2) ∧ r = (.ret, [errP u c], H)) ∧
  (¬ (d < 0 ∨ v > (18446744073709551615 - d.toNat) / base) → r = (.next, [.bool false, .int .u64 ((v * base + d.toNat : Nat) : Int), .int .i64 ((i + 1 : Nat) : Int)], H))
theorem ParQ.bad {v base : Nat} {d : Int} {i : Nat} {H : Hp} (h : d < 0 ∨ v > (18446744073709551615 - d.toNat) / base) (u c : Int) (hc : c = 1 ∨ c = 2) : ParQ v base d i H (.ret, [errP u c], H) := ⟨fun _ => ⟨u, c, hc, rfl⟩, fun q => absurd h q⟩
theorem par_step (l : List UInt8) (hl : l.length ≤ 2 ^ 40) (base : Nat) (hb : base = 10 ∨ base = 16) (xs vb : Value) (H : Hp) (hv : Rdb H 1 vb l.length (zgA l)) (i v : Nat) (b : UInt8) (hget : l[i]? = some b) (hv2 : v ≤ 18446744073709551615) :
    ∃ r, zay RR (.bool false) maxU vb (.int .i64 (l.length : Int)) [xs, .int .i64 (base : Int)] [.int .u64 ((18446744073709551615 / base + 1 : Nat) : Int)] [.bool false, .int .u64 (v : Int), .int .i64 (i : Int)] H = some r ∧
      ParQ v base (digV b.toNat base) i H r := by
  have hi : i < l.length := (List.getElem?_eq_some_iff.1 hget).1
  obtain ⟨y, hy, ⟨rest, own, hg⟩, hix⟩ := hv.ix hi
  have hix' : ∀ (α : Type) (k : Value → Option α), pIdx 1 vb (.int .i64 (i : Int)) k = k (.pointer (some ⟨y, i, none⟩)) := fun α k => by
    have := hix α .i64 k
    rwa [Nat.mul_one] at this
  have hld : ∀ (α : Type) (k : Value → Option α), zaj 1 false H (.pointer (some ⟨y, i, none⟩)) k = k (.int .u8 (b.toNat : Int)) := fun α k => zbe hg i _ (by
    rw [List.getElem?_append_left (by simpa [zgA] using hi)]
    simp [zgA, hget]) k
  have hn := UInt8.toNat_lt b
  generalize b.toNat = n at hn hld ⊢
  have h1 : ((i : Int) < (l.length : Int)) := by omega
  have hlow := c_lower n hn H
  have hbase8 : ∀ (α : Type) (k : Value → Option α), zal .u8 (.int .i64 (base : Int)) k = k (.int .u8 (base : Int)) := fun α k => by
    show k (.int .u8 (IntKind.u8.wrap (base : Int))) = _
    rw [u8w (by omega) (by omega)]
  have hbase64 : ∀ (α : Type) (k : Value → Option α), zal .u64 (.int .i64 (base : Int)) k = k (.int .u64 (base : Int)) := fun α k => by
    show k (.int .u64 (IntKind.u64.wrap (base : Int))) = _
    rw [u64 (by omega) (by omega)]
  have hinc : IntKind.i64.wrap ((i : Int) + 1) = ((i + 1 : Nat) : Int) := w64 (by omega) (by omega)
  have tailD : ∀ d : Nat, pd n = some d → d < 36 → ∃ r : Outc,
      (zal .u8 (.int .i64 (base : Int)) fun v131 =>
       pBin PP .geq T.uint8 (.int .u8 (d : Int)) v131 fun v132 =>
       zaa v132 fun b133 => br b133
       (some (Ctl.ret, [(.tuple #[(.int .u64 0), (.iface T.strconv_Error (.int .i64 2))])], H))
       (pBin PP .geq T.uint64 (.int .u64 (v : Int)) (.int .u64 ((18446744073709551615 / base + 1 : Nat) : Int)) fun v134 =>
       zaa v134 fun b135 => br b135
       (some (Ctl.ret, [(.tuple #[maxU, (.iface T.strconv_Error (.int .i64 1))])], H))
       (zal .u64 (.int .i64 (base : Int)) fun v136 =>
       pBin PP .mul T.uint64 (.int .u64 (v : Int)) v136 fun v137 =>
       zal .u64 (.int .u8 (d : Int)) fun v138 =>
       pBin PP .add T.uint64 v137 v138 fun v139 =>
       pBin PP .lss T.uint64 v139 v137 fun v140 =>
       zaa v140 fun b141 => br b141
       (some (Ctl.ret, [(.tuple #[maxU, (.iface T.strconv_Error (.int .i64 1))])], H))
       (pBin PP .gtr T.uint64 v139 maxU fun v142 =>
       zaa v142 fun b143 => br b143
       (some (Ctl.ret, [(.tuple #[maxU, (.iface T.strconv_Error (.int .i64 1))])], H))
       (pBin PP .add T.int (.int .i64 (i : Int)) (.int .i64 1) fun v144 =>
       some (Ctl.next, [.bool false, v139, v144], H)))))) = some r ∧
      ParQ v base (digV n base) i H r := by
    intro d hd hd36
    obtain ⟨_, hlt, hge⟩ := pd_some hn hb hd
    rw [hbase8]
    by_cases hdb : base ≤ d
    · have hq : digV n base < 0 := by rw [hge hdb]; decide
      have : ((d : Int) ≥ (base : Int)) := by omega
      simp only [zcb, zaf, s_br, this, decide_true, if_true]
      exact ⟨_, rfl, ParQ.bad (.inl hq) 0 2 (.inr rfl)⟩
    · have hdv := hlt (by omega)
      rw [hdv]
      have hdb' : ¬ ((d : Int) ≥ (base : Int)) := by omega
      have hd0 : ¬ ((d : Int) < 0) := by omega
      have hcd : ∀ (α : Type) (k : Value → Option α), zal .u64 (.int .u8 (d : Int)) k = k (.int .u64 (d : Int)) := fun α k => by
        show k (.int .u64 (IntKind.u64.wrap (d : Int))) = _
        rw [u64 (by omega) (by omega)]
      by_cases hc : v ≥ 18446744073709551615 / base + 1
      · have hq : v > (18446744073709551615 - d) / base := by
          have : (18446744073709551615 - d) / base ≤ 18446744073709551615 / base := Nat.div_le_div_right (by omega)
          omega
        have hc' : ((v : Int) ≥ ((18446744073709551615 / base + 1 : Nat) : Int)) := by omega
        simp only [zcb, zaf, s_br, hdb', hc', decide_true, decide_false, Bool.false_eq_true, if_true, if_false]
        exact ⟨_, rfl, ParQ.bad (.inr hq) _ 1 (.inl rfl)⟩
      · have hc' : ¬ ((v : Int) ≥ ((18446744073709551615 / base + 1 : Nat) : Int)) := by omega
        have hb0 : 0 < base := by omega
        have hm : v * base ≤ 18446744073709551615 := by
          have : v ≤ 18446744073709551615 / base := by omega
          exact (Nat.le_div_iff_mul_le hb0).1 this
        have hmul : IntKind.u64.wrap ((v : Int) * (base : Int)) = ((v * base : Nat) : Int) := by
          rw [← Int.natCast_mul]
          exact u64 (by omega) (by omega)
        by_cases ho : v * base + d ≤ 18446744073709551615
        · have hq : ¬ (v > (18446744073709551615 - d) / base) := by
            have : v ≤ (18446744073709551615 - d) / base := (Nat.le_div_iff_mul_le hb0).2 (by omega)
            omega
          have hadd : IntKind.u64.wrap (((v * base : Nat) : Int) + (d : Int)) = ((v * base + d : Nat) : Int) := by
            rw [← Int.natCast_add]
            exact u64 (by omega) (by omega)
          have e1 : ¬ (((v * base + d : Nat) : Int) < ((v * base : Nat) : Int)) := by omega
          have e2 : ¬ (((v * base + d : Nat) : Int) > 18446744073709551615) := by omega
          simp only [zcb, zaf, s_br, hdb', hc', decide_true, decide_false, Bool.false_eq_true, if_true, if_false, hbase64, zog, hmul, hcd, zbb, hadd, zaY, e1, maxU, zca, e2, hinc]
          exact ⟨_, rfl, fun q => absurd q (by intro q; rcases q with q | q; exact hd0 q; exact hq q), fun _ => rfl⟩
        · have hq : (v > (18446744073709551615 - d) / base) := by
            rcases Nat.lt_or_ge ((18446744073709551615 - d) / base) v with q | q
            · exact q
            · have := (Nat.le_div_iff_mul_le hb0).1 q; omega
          have hadd : IntKind.u64.wrap (((v * base : Nat) : Int) + (d : Int)) = ((v * base + d - 18446744073709551616 : Nat) : Int) := by
            rw [← Int.natCast_add]
            exact u64mod (by omega) (by omega)
          have e1 : (((v * base + d - 18446744073709551616 : Nat) : Int) < ((v * base : Nat) : Int)) := by omega
          simp only [zcb, zaf, s_br, hdb', hc', decide_true, decide_false, Bool.false_eq_true, if_true, if_false, hbase64, zog, hmul, hcd, zbb, hadd, zaY, e1]
          exact ⟨_, rfl, ParQ.bad (.inr hq) _ 1 (.inl rfl)⟩
  have bad : pd n = none → ParQ v base (digV n base) i H (Ctl.ret, [Value.tuple #[(.int .u64 0), (.iface T.strconv_Error (.int .i64 2))]], H) := fun hp =>
    ParQ.bad (.inl (by rw [pd_none hn hb hp]; decide)) 0 2 (.inr rfl)
  have hl256 : lowB n < 288 := by unfold lowB; split <;> omega
  unfold zay
  simp only [qg0, qg1, zaY, zaf, s_br, h1, decide_true, if_true, hix', hld]
  have e95 : (zav (pBin PP .eql T.uint8 (.int .u8 (n : Int)) (.int .u8 95) fun v91 => zaa v91 fun b92 => br b92 (some (.next, [Value.bool false], H)) (some (.next, [(.bool false)], H))) : (Ctl → List Value → Hp → Option Outc) → Option Outc) = fun k => k .next [.bool false] H := by
    funext k
    rw [za4, zaf, s_br]
    split <;> rfl
  have e95' := fun k => congrFun e95 k
  simp only [zaf, s_br] at e95'
  rw [e95', zaV]
  simp only [qg0, zaf, s_br, Bool.false_eq_true, if_false, zi3]
  by_cases q1 : (48 : Int) ≤ (n : Int) <;> by_cases q2 : (n : Int) ≤ 57
  · have hp : pd n = some (n - 48) := by unfold pd; rw [if_pos ⟨by omega, by omega⟩]
    have hs : IntKind.u8.wrap ((n : Int) - 48) = ((n - 48 : Nat) : Int) := by rw [u8w (by omega) (by omega)]; omega
    have hT := tailD _ hp (by omega)
    simp only [zi3, zaf, s_br, q1, q2, decide_true, if_true, zd4, hs, zbb, zaq, zaV, qg0, qg1] at hT ⊢
    exact hT
  all_goals
    have hno : ¬ (48 ≤ n ∧ n ≤ 57) := by omega
    by_cases q3 : (97 : Int) ≤ (lowB n : Int) <;> by_cases q4 : (lowB n : Int) ≤ 122
    · have hp : pd n = some (lowB n - 97 + 10) := by unfold pd; rw [if_neg hno, if_pos ⟨by omega, by omega⟩]
      have hs : IntKind.u8.wrap ((lowB n : Int) - 97) = ((lowB n - 97 : Nat) : Int) := by rw [u8w (by omega) (by omega)]; omega
      have ha : IntKind.u8.wrap (((lowB n - 97 : Nat) : Int) + 10) = ((lowB n - 97 + 10 : Nat) : Int) := by rw [u8w (by omega) (by omega)]; omega
      have hT := tailD _ hp (by omega)
      simp only [zi3, zaf, s_br, q1, q2, q3, q4, decide_true, decide_false, Bool.false_eq_true, if_true, if_false, zah hlow, zd4, hs, zbb, ha, zaq, zaV, qg0, qg1] at hT ⊢
      exact hT
    all_goals
      have hp : pd n = none := by unfold pd; rw [if_neg hno, if_neg (by omega)]
      simp only [zi3, zaf, s_br, q1, q2, q3, q4, decide_true, decide_false, Bool.false_eq_true, if_true, if_false, zah hlow, zaq, zeb, List.headD_cons]
      exact ⟨_, rfl, bad hp⟩
theorem znw (l : List UInt8) (hl : l.length ≤ 2 ^ 40) (base : Nat) (hb : base = 10 ∨ base = 16) (xs vb : Value) (H : Hp) (hv : Rdb H 1 vb l.length (zgA l)) : ∀ (rest : List UInt8) (i v : Nat), l.drop i = rest → i ≤ l.length → v ≤ 18446744073709551615 →
    ∃ r, zaG (zay RR (.bool false) maxU vb (.int .i64 (l.length : Int)) [xs, .int .i64 (base : Int)] [.int .u64 ((18446744073709551615 / base + 1 : Nat) : Int)]) [.bool false, .int .u64 (v : Int), .int .i64 (i : Int)] H = some r ∧
      match numL base rest v with
      | some x => r = (.exit 3, [.bool false, .int .u64 (x : Int), .int .i64 (l.length : Int)], H)
      | none => ∃ u c, (c = 1 ∨ c = 2) ∧ r = (.ret, [errP u c], H)
  | [], i, v, hr, hi, hv2 => by
    have hil : i = l.length := by
      have := congrArg List.length hr
      rw [List.length_drop] at this
      simp at this
      omega
    have this : zay RR (.bool false) maxU vb (.int .i64 (l.length : Int)) [xs, .int .i64 (base : Int)] [.int .u64 ((18446744073709551615 / base + 1 : Nat) : Int)] [.bool false, .int .u64 (v : Int), .int .i64 (i : Int)] H = some (.exit 3, [.bool false, .int .u64 (v : Int), .int .i64 (i : Int)], H) := by
      unfold zay
      have h1 : ¬ ((i : Int) < (l.length : Int)) := by omega
      simp only [qg0, qg1, zaY, zaf, s_br, h1, decide_false, Bool.false_eq_true, if_false]
    subst hil
    exact ⟨_, (by rw [zan, this]; rfl), rfl⟩
  | b :: r, i, v, hr, hi, hv2 => by
    have hlt : i < l.length := by
      have := congrArg List.length hr
      rw [List.length_drop] at this
      simp at this
      omega
    have hget : l[i]? = some b := by
      have := congrArg (fun x => x[0]?) hr
      simpa using this
    have hr2 : l.drop (i + 1) = r := by rw [← List.drop_drop, hr]; rfl
    obtain ⟨o, h1, h2⟩ := par_step l hl base hb xs vb H hv i v b hget hv2
    unfold numL
    by_cases h0 : digV b.toNat base < 0
    · rw [if_pos h0]
      obtain ⟨u, c, hc, rfl⟩ := h2.1 (.inl h0)
      exact ⟨_, (by rw [zan, h1]; rfl), u, c, hc, rfl⟩
    · rw [if_neg h0]
      by_cases h3 : v > (18446744073709551615 - (digV b.toNat base).toNat) / base
      · rw [if_pos h3]
        obtain ⟨u, c, hc, rfl⟩ := h2.1 (.inr h3)
        exact ⟨_, (by rw [zan, h1]; rfl), u, c, hc, rfl⟩
      · rw [if_neg h3]
        have h2 := h2.2 (by intro q; rcases q with q | q; exact h0 q; exact h3 q)
        subst h2
        have hd := digV_lt b.toNat base
        have hm : v * base ≤ 18446744073709551615 - (digV b.toNat base).toNat := by
          have : v ≤ (18446744073709551615 - (digV b.toNat base).toNat) / base := by omega
          exact (Nat.le_div_iff_mul_le (by omega)).1 this
        rw [zan, h1]
        exact znw l hl base hb xs vb H hv r (i + 1) _ hr2 hlt (by omega)
end Go.AM
namespace Go.AM
open Go
theorem zh2 {P : Program} {O : Orc} {ext : FuncId → Option (List Value → Hp → Option (Value × Hp))} {g : FuncId} {fn : Func} {e : List Value → Hp → Option (Value × Hp)} (hf : P.funcs[g]? = some fn) (hn : (fn.name == "runtime.NumGoroutine") = false) (hb : fn.body.isSome = true) (hx : ext g = some e) (xs : List Value) (H : Hp) :
    run P O ext g xs H = e xs H := by
  rw [run_eq]
  unfold zht
  rw [hf]
  dsimp only
  rw [hn]
  dsimp only
  obtain ⟨c, hc⟩ := Option.isSome_iff_exists.1 hb
  rw [hc]
  dsimp only
  rw [hx]
theorem x_cc (xs : List Value) (H : Hp) : RR F.a39 xs H = extCC xs H := zh2 Go.Proofs.Tryz.func67 (by kernel_rfl) (by kernel_rfl) rfl _ _
theorem x_str (xs : List Value) (H : Hp) : RR F.a38 xs H = znS xs H := zh2 Go.Proofs.Tryz.func46 (by kernel_rfl) (by kernel_rfl) rfl _ _
def bv (l : List UInt8) : List Value := l.map fun b => Value.int .u8 (b.toNat : Int)
theorem zgB (l : List UInt8) : (bv l).length = l.length := by simp [bv]
theorem bv_app (l m : List UInt8) : bv (l ++ m) = bv l ++ bv m := by simp [bv]
theorem bv_one (l : List UInt8) : (bv l).all one = true := by
  unfold bv; rw [List.all_map]; exact List.all_eq_true.2 fun _ _ => rfl
theorem zl0 : ∀ l : List UInt8, ziP (bv l) = some l
  | [] => rfl
  | b :: l => by
    have hb : b.toNat < 256 := b.toNat_lt
    show (if b.toNat < 256 then (match ziP (bv l) with | some l => some (UInt8.ofNat b.toNat :: l) | none => none) else none) = _
    rw [if_pos hb, zl0 l]
    simp
structure Bld (H : Hp) (i : Nat) (s : List UInt8) (j : Option Nat) : Prop where
  ty : H.ty i = some T.strings_Builder
  lt : i < H.next
  ex : ∃ a buf, H.get i = some (.cells [a, buf] true) ∧ (a = .pointer none ∨ a = .pointer (some ⟨i, 0, none⟩)) ∧
    ((j = none ∧ s = [] ∧ buf = .slice none 0 0) ∨ ∃ y, j = some y ∧ y ≠ i ∧ y < H.next ∧ s ≠ [] ∧ buf = .slice (some ⟨y, 0, some 1⟩) s.length s.length ∧ H.get y = some (.cells (bv s) true) ∧ H.ty y = some T.uint8)
structure BF (i : Nat) (H : Hp) (j : Option Nat) (H' : Hp) (j' : Option Nat) : Prop where
  next : H.next ≤ H'.next
  get : ∀ k, k < H.next → k ≠ i → j ≠ some k → H'.get k = H.get k
  ty : ∀ k, k < H.next → H'.ty k = H.ty k
  foot : ∀ y, j' = some y → j = some y ∨ H.next ≤ y
theorem BF.refl (i : Nat) (H : Hp) (j : Option Nat) : BF i H j H j := ⟨Nat.le_refl _, fun _ _ _ _ => rfl, fun _ _ => rfl, fun _ h => .inl h⟩
theorem zhI (H : Hp) (i : Nat) (T : TypeId) (k : Nat) : (H.mark i T).get k = H.get k := rfl
theorem ty_new (H : Hp) (o : AObj) : (H.new o).ty = H.ty := rfl
theorem zm7 {α : Type} {H : Hp} {i : Nat} {a b v : Value} (hg : H.get i = some (.cells [a, b] true)) (hc : zab v = [v]) (h1 : one v = true) (k : Hp → Option α) : zam 1 H (.pointer (some ⟨i, 1, none⟩)) v k = k (H.set i (some (.cells [a, v] true))) := by
  have hw : za5 1 [a, b] 1 v = some [a, v] := by
    unfold za5
    rw [hc, if_pos ⟨rfl, by simp, by simp [h1]⟩]
    rfl
  unfold zam Hp.wr
  dsimp only
  rw [hg]
  dsimp only
  rw [hw]
theorem app_buf {H : Hp} {i : Nat} {s : List UInt8} {j : Option Nat} {buf : Value} (hi : i < H.next) (hb : (j = none ∧ s = [] ∧ buf = .slice none 0 0) ∨ ∃ y, j = some y ∧ y ≠ i ∧ y < H.next ∧ s ≠ [] ∧ buf = .slice (some ⟨y, 0, some 1⟩) s.length s.length ∧ H.get y = some (.cells (bv s) true) ∧ H.ty y = some T.uint8)
    {x : Value} {t : List UInt8} (hx : zbi 1 x H = some (t.length, bv t)) (hl : s.length + t.length ≤ 2 ^ 46) :
    ∃ buf' H' j', (∀ (α : Type) (k : Value → Hp → Option α), zbw T.uint8 1 1 buf x H k = k buf' H') ∧ zab buf' = [buf'] ∧ one buf' = true ∧ H.next ≤ H'.next ∧ (∀ k, k < H.next → j ≠ some k → H'.get k = H.get k) ∧ (∀ k, k < H.next → H'.ty k = H.ty k) ∧
      (∀ y, j' = some y → j = some y ∨ H.next ≤ y) ∧
      ((j' = none ∧ s ++ t = [] ∧ buf' = .slice none 0 0) ∨ ∃ y, j' = some y ∧ y ≠ i ∧ y < H'.next ∧ s ++ t ≠ [] ∧ buf' = .slice (some ⟨y, 0, some 1⟩) (s ++ t).length (s ++ t).length ∧ H'.get y = some (.cells (bv (s ++ t)) true) ∧ H'.ty y = some T.uint8) := by
  have hone := bv_one t
  rcases hb with ⟨rfl, rfl, rfl⟩ | ⟨y, rfl, hyi, hyn, hs, rfl, hg, hty⟩
  · by_cases h0 : t.length = 0
    · have : t = [] := List.length_eq_zero_iff.1 h0
      subst this
      refine ⟨.slice none 0 0, H, none, fun α k => ?_, rfl, rfl, Nat.le_refl _, fun _ _ _ => rfl, fun _ _ => rfl, (fun y h => by cases h), .inl ⟨rfl, rfl, rfl⟩⟩
      have ha : zaZ 1 1 (.slice none 0 0) x H = some (.slice none 0 0, H) := by unfold zaZ; rw [hx]; rfl
      unfold zbw
      rw [ha]
      dsimp only
      unfold zou
      have : Nat.beq H.next (H.next + 1) = false := by
        cases q : Nat.beq H.next (H.next + 1) with
        | false => rfl
        | true => have := Nat.eq_of_beq_eq_true q; omega
      rw [this]; rfl
    · refine ⟨.slice (some ⟨H.next, 0, some 1⟩) t.length t.length, (H.new (.cells (bv t) true)).mark H.next T.uint8, some H.next, fun α k => ?_, rfl, rfl, Nat.le_succ _, fun k hk _ => ?_, fun k hk => ?_, (fun y h => by cases h; exact .inr (Nat.le_refl _)), .inr ⟨H.next, rfl, by omega, Nat.lt_succ_self _, ?_, ?_, ?_, ?_⟩⟩
      · have ha : zaZ 1 1 (.slice none 0 0) x H = some (.slice (some ⟨H.next, 0, some 1⟩) t.length t.length, H.new (.cells (bv t) true)) := by
          unfold zaZ; rw [hx]
          dsimp only
          rw [if_neg h0, if_pos ⟨by have : ([] : List UInt8).length = 0 := rfl; omega, hone⟩]
          rfl
        unfold zbw
        rw [ha]
        dsimp only
        unfold zou
        have : Nat.beq (H.new (.cells (bv t) true)).next (H.next + 1) = true := Nat.beq_refl _
        rw [this]; rfl
      · rw [zhI, get_new, if_neg (by omega)]
      · show (if k = H.next then _ else H.ty k) = _
        rw [if_neg (by omega)]
      · intro q; rw [List.nil_append] at q; rw [q] at h0; exact h0 rfl
      · rfl
      · rw [zhI, get_new, if_pos rfl, List.nil_append]
      · show (if H.next = H.next then _ else _) = _
        rw [if_pos rfl]
  · have hsl : 0 < s.length := List.length_pos_iff.2 hs
    by_cases h0 : t.length = 0
    · have : t = [] := List.length_eq_zero_iff.1 h0
      subst this
      refine ⟨.slice (some ⟨y, 0, some 1⟩) s.length s.length, H, some y, fun α k => ?_, rfl, rfl, Nat.le_refl _, fun _ _ _ => rfl, fun _ _ => rfl, fun y h => .inl h, .inr ⟨y, rfl, hyi, hyn, by simpa using hs, by simp, by simpa using hg, hty⟩⟩
      have ha : zaZ 1 1 (.slice (some ⟨y, 0, some 1⟩) s.length s.length) x H = some (.slice (some ⟨y, 0, some 1⟩) s.length s.length, H) := by
        unfold zaZ; rw [hx]
        dsimp only
        rw [if_neg (by decide), if_pos ⟨rfl, Nat.le_refl _⟩]
      unfold zbw
      rw [ha]
      dsimp only
      unfold zou
      have : Nat.beq H.next (H.next + 1) = false := by
        cases q : Nat.beq H.next (H.next + 1) with
        | false => rfl
        | true => have := Nat.eq_of_beq_eq_true q; omega
      rw [this]; rfl
    · refine ⟨.slice (some ⟨H.next, 0, some 1⟩) (s.length + t.length) (s.length + t.length), ((H.set y none).new (.cells (bv s ++ bv t) true)).mark H.next T.uint8, some H.next, fun α k => ?_, rfl, rfl, Nat.le_succ _, fun k hk hj => ?_, fun k hk => ?_, (fun y h => by cases h; exact .inr (Nat.le_refl _)), .inr ⟨H.next, rfl, by omega, Nat.lt_succ_self _, ?_, ?_, ?_, ?_⟩⟩
      · have ha : zaZ 1 1 (.slice (some ⟨y, 0, some 1⟩) s.length s.length) x H = some (.slice (some ⟨H.next, 0, some 1⟩) (s.length + t.length) (s.length + t.length), (H.set y none).new (.cells (bv s ++ bv t) true)) := by
          unfold zaZ; rw [hx]
          dsimp only
          rw [if_neg (by decide), if_neg (by omega), hg]
          dsimp only
          rw [if_neg (by omega), if_pos ⟨by rw [zgB]; omega, by omega, hone⟩]
          congr 4
          rw [qd0, List.take_of_length_le (by rw [zgB]; omega)]
        unfold zbw
        rw [ha]
        dsimp only
        unfold zou
        have e1 : Nat.beq ((H.set y none).new (.cells (bv s ++ bv t) true)).next (H.next + 1) = true := Nat.beq_refl _
        have e2 : ziO T.uint8 (.slice (some ⟨y, 0, some 1⟩) s.length s.length) H = true := by
          obtain ⟨q, hq⟩ : ∃ q, s.length = q + 1 := ⟨s.length - 1, by omega⟩
          rw [hq]
          show (match H.ty y with | some T => Nat.beq T _ | none => false) = true
          rw [hty]; exact Nat.beq_refl _
        rw [e1, e2]; rfl
      · rw [zhI, get_new, if_neg (show ¬ k = (H.set y none).next by show ¬ k = H.next; omega), Hp.get_set, if_neg (fun e => hj (by rw [e]))]
      · show (if k = H.next then _ else H.ty k) = _
        rw [if_neg (by omega)]
      · intro q
        have := congrArg List.length q
        rw [List.length_append] at this
        simp at this; exact h0 (by rw [this.2]; rfl)
      · rw [List.length_append]
      · rw [zhI, get_new, if_pos (show H.next = (H.set y none).next from rfl), bv_app]
      · show (if H.next = H.next then _ else _) = _
        rw [if_pos rfl]
theorem Bld.copy {H : Hp} {i : Nat} {s : List UInt8} {j : Option Nat} (h : Bld H i s j) : ∃ H1 buf, extCC [.pointer (some ⟨i, 0, none⟩)] H = some (.tuple #[], H1) ∧ H1.get i = some (.cells [.pointer (some ⟨i, 0, none⟩), buf] true) ∧ H1.next = H.next ∧ H1.ty = H.ty ∧ (∀ k, k ≠ i → H1.get k = H.get k) ∧
    ((j = none ∧ s = [] ∧ buf = .slice none 0 0) ∨ ∃ y, j = some y ∧ y ≠ i ∧ y < H1.next ∧ s ≠ [] ∧ buf = .slice (some ⟨y, 0, some 1⟩) s.length s.length ∧ H1.get y = some (.cells (bv s) true) ∧ H1.ty y = some T.uint8) := by
  obtain ⟨a, buf, hg, ha, hb⟩ := h.ex
  rcases ha with rfl | rfl
  · refine ⟨H.set i (some (.cells [.pointer (some ⟨i, 0, none⟩), buf] true)), buf, ?_, ?_, rfl, rfl, fun k hk => ?_, ?_⟩
    · show ccB i H (H.get i) = _
      rw [hg]
      exact if_pos h.ty
    · rw [Hp.get_set, if_pos rfl]
    · rw [Hp.get_set, if_neg hk]
    · rcases hb with hb | ⟨y, h1, h2, h3, h4, h5, h6, h7⟩
      · exact .inl hb
      · exact .inr ⟨y, h1, h2, h3, h4, h5, by rw [Hp.get_set, if_neg h2]; exact h6, h7⟩
  · refine ⟨H, buf, ?_, hg, rfl, rfl, fun k hk => rfl, hb⟩
    show ccB i H (H.get i) = _
    rw [hg]
    exact if_pos ⟨rfl, h.ty⟩
theorem Bld.ws {H : Hp} {i : Nat} {s : List UInt8} {j : Option Nat} (h : Bld H i s j) (t : ByteArray) (hl : s.length + t.data.toList.length ≤ 2 ^ 46) :
    ∃ H' j', RR F.a9 [.pointer (some ⟨i, 0, none⟩), .string t] H = some (.tuple #[.int .i64 (t.size : Int), .nilIface], H') ∧ Bld H' i (s ++ t.data.toList) j' ∧ BF i H j H' j' := by
  obtain ⟨H1, buf, e1, g1, n1, t1, f1, b1⟩ := h.copy
  have hx : zbi 1 (.string t) H1 = some (t.data.toList.length, bv t.data.toList) := by
    have : t.size = t.data.toList.length := (Array.length_toList (xs := t.data)).symm
    show some (t.size, _) = _
    rw [this]; rfl
  obtain ⟨buf', H2, j', e2, c2, o2, n2, f2, y2, ft2, b2⟩ := app_buf (i := i) (by rw [n1]; exact h.lt) b1 hx hl
  have hlt : i < H1.next := by rw [n1]; exact h.lt
  have hji : j ≠ some i := fun q => by
    rcases b1 with ⟨q1, _⟩ | ⟨y, q1, q2, _⟩
    · rw [q1] at q; cases q
    · rw [q1] at q; cases q; exact q2 rfl
  have hgi : H2.get i = some (.cells [.pointer (some ⟨i, 0, none⟩), buf] true) := by rw [f2 i hlt hji]; exact g1
  refine ⟨H2.set i (some (.cells [.pointer (some ⟨i, 0, none⟩), buf'] true)), j', ?_, ⟨?_, ?_, ?_⟩, ⟨?_, fun k hk hi hj => ?_, fun k hk => ?_, fun y hy => ?_⟩⟩
  · refine (zcU E0 rfl _ _ _).trans ?_
    unfold zbG
    rw [zah ((x_cc _ _).trans e1), zbm, zaE, zbe g1 _ buf rfl, e2, zbm, zaE]
    rw [show (0 + 1 : Nat) = 1 from rfl, zm7 hgi c2 o2]
    rfl
  · show H2.ty i = _
    rw [y2 i hlt, t1]; exact h.ty
  · show i < H2.next
    omega
  · refine ⟨_, buf', by rw [Hp.get_set, if_pos rfl], .inr rfl, ?_⟩
    rcases b2 with hb | ⟨y, h1, h2, h3, h4, h5, h6, h7⟩
    · exact .inl hb
    · exact .inr ⟨y, h1, h2, h3, h4, h5, by rw [Hp.get_set, if_neg h2]; exact h6, h7⟩
  · show H.next ≤ H2.next
    omega
  · rw [Hp.get_set, if_neg hi, f2 k (by omega) hj, f1 k hi]
  · show H2.ty k = _
    rw [y2 k (by omega), t1]
  · rw [← n1]; exact ft2 y hy
theorem Bld.wb {H : Hp} {i : Nat} {s : List UInt8} {j : Option Nat} (h : Bld H i s j) (b : UInt8) (hl : s.length + 1 ≤ 2 ^ 46) :
    ∃ H' j', RR F.a7 [.pointer (some ⟨i, 0, none⟩), .int .u8 (b.toNat : Int)] H = some (.nilIface, H') ∧ Bld H' i (s ++ [b]) j' ∧ BF i H j H' j' := by
  obtain ⟨H1, buf, e1, g1, n1, t1, f1, b1⟩ := h.copy
  have hbs : ∀ (α : Type) (k : Value → Hp → Option α), zao 1 [.int .u8 0] 1 [(0, .int .u8 (b.toNat : Int))] H1 k = k (.slice (some ⟨H1.next, 0, some 1⟩) 1 1) (H1.new (.cells (bv [b]) true)) := fun α k => rfl
  have hlt : i < H1.next := by rw [n1]; exact h.lt
  have hji : j ≠ some i := fun q => by
    rcases b1 with ⟨q1, _⟩ | ⟨y, q1, q2, _⟩
    · rw [q1] at q; cases q
    · rw [q1] at q; cases q; exact q2 rfl
  have b1' : (j = none ∧ s = [] ∧ buf = .slice none 0 0) ∨ ∃ y, j = some y ∧ y ≠ i ∧ y < (H1.new (.cells (bv [b]) true)).next ∧ s ≠ [] ∧ buf = .slice (some ⟨y, 0, some 1⟩) s.length s.length ∧ (H1.new (.cells (bv [b]) true)).get y = some (.cells (bv s) true) ∧ (H1.new (.cells (bv [b]) true)).ty y = some T.uint8 := by
    rcases b1 with hb | ⟨y, h1, h2, h3, h4, h5, h6, h7⟩
    · exact .inl hb
    · exact .inr ⟨y, h1, h2, Nat.lt_succ_of_lt h3, h4, h5, by rw [get_new, if_neg (by omega)]; exact h6, h7⟩
  have hx : zbi 1 (.slice (some ⟨H1.next, 0, some 1⟩) 1 1) (H1.new (.cells (bv [b]) true)) = some ([b].length, bv [b]) := by
    unfold zbi
    dsimp only
    rw [if_pos rfl, get_new, if_pos rfl]
    rfl
  obtain ⟨buf', H2, j', e2, c2, o2, n2, f2, y2, ft2, b2⟩ := app_buf (i := i) (Nat.lt_succ_of_lt hlt) b1' hx hl
  have n2 : H1.next + 1 ≤ H2.next := n2
  have hgi : H2.get i = some (.cells [.pointer (some ⟨i, 0, none⟩), buf] true) := by rw [f2 i (Nat.lt_succ_of_lt hlt) hji, get_new, if_neg (by omega)]; exact g1
  refine ⟨H2.set i (some (.cells [.pointer (some ⟨i, 0, none⟩), buf'] true)), j', ?_, ⟨?_, ?_, ?_⟩, ⟨?_, fun k hk hi hj => ?_, fun k hk => ?_, fun y hy => ?_⟩⟩
  · refine (zdu E0 rfl _ _ _).trans ?_
    unfold zbV
    rw [zah ((x_cc _ _).trans e1), zbm, zaE, zbe g1 _ buf rfl, hbs, e2, zbm, zaE]
    rw [show (0 + 1 : Nat) = 1 from rfl, zm7 hgi c2 o2]
  · show H2.ty i = _
    rw [y2 i (Nat.lt_succ_of_lt hlt), ty_new, t1]; exact h.ty
  · show i < H2.next
    omega
  · refine ⟨_, buf', by rw [Hp.get_set, if_pos rfl], .inr rfl, ?_⟩
    rcases b2 with hb | ⟨y, h1, h2, h3, h4, h5, h6, h7⟩
    · exact .inl hb
    · exact .inr ⟨y, h1, h2, h3, h4, h5, by rw [Hp.get_set, if_neg h2]; exact h6, h7⟩
  · show H.next ≤ H2.next
    omega
  · rw [Hp.get_set, if_neg hi, f2 k (by show k < H1.next + 1; omega) hj, get_new, if_neg (by omega), f1 k hi]
  · show H2.ty k = _
    rw [y2 k (by show k < H1.next + 1; omega), ty_new, t1]
  · rcases ft2 y hy with q | q
    · exact .inl q
    · have q : H1.next + 1 ≤ y := q
      exact .inr (by omega)
theorem Bld.text {H : Hp} {i : Nat} {s : List UInt8} {j : Option Nat} (h : Bld H i s j) (hl : s.length ≤ 2 ^ 46) :
    ∃ H', RR F.a38 [.pointer (some ⟨i, 0, none⟩)] H = some (.string ⟨s.toArray⟩, H') ∧ BF i H j H' j := by
  obtain ⟨a, buf, hg, ha, hb⟩ := h.ex
  rcases hb with ⟨rfl, rfl, rfl⟩ | ⟨y, rfl, h2, h3, h4, rfl, h6, h7⟩
  · refine ⟨H, (x_str _ _).trans ?_, BF.refl _ _ _⟩
    show strB i H (H.get i) = _
    rw [hg]
    exact if_pos h.ty
  · refine ⟨H.set y (some (.cells (bv s) false)), (x_str _ _).trans ?_, ⟨Nat.le_refl _, fun k hk hi hj => by rw [Hp.get_set, if_neg (fun e => hj (by rw [e]))], fun _ _ => rfl, fun _ q => .inl q⟩⟩
    show strB i H (H.get i) = _
    rw [hg]
    show strB2 i y s.length H (H.get y) = _
    rw [h6]
    have hsl : 0 < s.length := List.length_pos_iff.2 h4
    have hb : ziP ((bv s).take s.length) = some s := by rw [List.take_of_length_le (by rw [zgB]; exact Nat.le_refl _), zl0]
    refine (if_pos ⟨h.ty, h7, hsl, by rw [zgB]; exact Nat.le_refl _, by omega⟩).trans ?_
    rw [hb]
end Go.AM
namespace Go.AM
open Go
abbrev W64 := BitVec 64
section
variable {α : Type}
theorem at8 (s : ByteArray) (i : Nat) (hs : i < s.size) (k : Value → Option α) : zaQ (.string s) (.int .u8 (i : Int)) k = k (.int .u8 ((s[i]'hs).toNat : Int)) := by
  refine (q_at s i (s[i]'hs) ?_ k)
  rw [Array.getElem?_toList]
  exact Array.getElem?_eq_getElem (xs := s.data) hs
set_option maxRecDepth 100000 in
theorem at_len8 (i : Nat) (h : i < 256) (k : Value → Option α) : zaQ (.string ⟨#[0, 1, 2, 2, 3, 3, 3, 3, 4, 4, 4, 4, 4, 4, 4, 4, 5, 5, 5, 5, 5, 5, 5, 5, 5, 5, 5, 5, 5, 5, 5, 5, 6, 6, 6, 6, 6, 6, 6, 6, 6, 6, 6, 6, 6, 6, 6, 6, 6, 6, 6, 6, 6, 6, 6, 6, 6, 6, 6, 6, 6, 6, 6, 6, 7, 7, 7, 7, 7, 7, 7, 7, 7, 7, 7, 7, 7, 7, 7, 7, 7, 7, 7, 7, 7, 7, 7, 7, 7, 7, 7, 7, 7, 7, 7, 7, 7, 7, 7, 7, 7, 7, 7, 7, 7, 7, 7, 7, 7, 7, 7, 7, 7, 7, 7, 7, 7, 7, 7, 7, 7, 7, 7, 7, 7, 7, 7, 7, 8, 8, 8, 8, 8, 8, 8, 8, 8, 8, 8, 8, 8, 8, 8, 8, 8, 8, 8, 8, 8, 8, 8, 8, 8, 8, 8, 8, 8, 8, 8, 8, 8, 8, 8, 8, 8, 8, 8, 8, 8, 8, 8, 8, 8, 8, 8, 8, 8, 8, 8, 8, 8, 8, 8, 8, 8, 8, 8, 8, 8, 8, 8, 8, 8, 8, 8, 8, 8, 8, 8, 8, 8, 8, 8, 8, 8, 8, 8, 8, 8, 8, 8, 8, 8, 8, 8, 8, 8, 8, 8, 8, 8, 8, 8, 8, 8, 8, 8, 8, 8, 8, 8, 8, 8, 8, 8, 8, 8, 8, 8, 8, 8, 8, 8, 8, 8, 8, 8, 8, 8, 8, 8, 8, 8, 8, 8, 8]⟩) (.int .u8 (i : Int)) k = k (.int .u8 ((bitLen i : Nat) : Int)) := by
  have hs : i < (⟨#[0, 1, 2, 2, 3, 3, 3, 3, 4, 4, 4, 4, 4, 4, 4, 4, 5, 5, 5, 5, 5, 5, 5, 5, 5, 5, 5, 5, 5, 5, 5, 5, 6, 6, 6, 6, 6, 6, 6, 6, 6, 6, 6, 6, 6, 6, 6, 6, 6, 6, 6, 6, 6, 6, 6, 6, 6, 6, 6, 6, 6, 6, 6, 6, 7, 7, 7, 7, 7, 7, 7, 7, 7, 7, 7, 7, 7, 7, 7, 7, 7, 7, 7, 7, 7, 7, 7, 7, 7, 7, 7, 7, 7, 7, 7, 7, 7, 7, 7, 7, 7, 7, 7, 7, 7, 7, 7, 7, 7, 7, 7, 7, 7, 7, 7, 7, 7, 7, 7, 7, 7, 7, 7, 7, 7, 7, 7, 7, 8, 8, 8, 8, 8, 8, 8, 8, 8, 8, 8, 8, 8, 8, 8, 8, 8, 8, 8, 8, 8, 8, 8, 8, 8, 8, 8, 8, 8, 8, 8, 8, 8, 8, 8, 8, 8, 8, 8, 8, 8, 8, 8, 8, 8, 8, 8, 8, 8, 8, 8, 8, 8, 8, 8, 8, 8, 8, 8, 8, 8, 8, 8, 8, 8, 8, 8, 8, 8, 8, 8, 8, 8, 8, 8, 8, 8, 8, 8, 8, 8, 8, 8, 8, 8, 8, 8, 8, 8, 8, 8, 8, 8, 8, 8, 8, 8, 8, 8, 8, 8, 8, 8, 8, 8, 8, 8, 8, 8, 8, 8, 8, 8, 8, 8, 8, 8, 8, 8, 8, 8, 8, 8, 8, 8, 8, 8, 8]⟩ : ByteArray).size := h
  rw [at8 _ i hs k, len8tab_get i hs]
end
theorem conv8 (y : W64) (h : y.toNat < 256) {α : Type} (k : Value → Option α) : zal .u8 (wv y) k = k (.int .u8 (y.toNat : Int)) := by
  unfold wv
  rw [zjl, q_u8 (by omega) (by omega)]
theorem zj8 (x : W64) (n : Nat) : (x >>> n).toNat = x.toNat / 2 ^ n := by rw [BitVec.toNat_ushiftRight, Nat.shiftRight_eq_div_pow]
theorem c80 (x : W64) (H : Hp) : RR F.a27 [wv x] H = some (.int .i64 ((bitLen x.toNat : Nat) : Int), H) := by
  refine (zlc E0 rfl _ H).trans ?_
  unfold zhc
  have n1 : Value.int .u64 4294967296 = wv 4294967296#64 := rfl
  have n2 : Value.int .u64 65536 = wv 65536#64 := rfl
  have n3 : Value.int .u64 256 = wv 256#64 := rfl
  have n4 : ∀ n : Nat, Value.int .u64 (n : Int) = .int .u64 (n : Int) := fun _ => rfl
  have s32 : ∀ (a : W64) {α : Type} (k : Value → Option α), pBin PP .shr T.uint64 (wv a) (.int .u64 32) k = k (wv (a >>> 32)) := fun a _ k => b_shr T.uint64 a k .u64 32
  have s16 : ∀ (a : W64) {α : Type} (k : Value → Option α), pBin PP .shr T.uint64 (wv a) (.int .u64 16) k = k (wv (a >>> 16)) := fun a _ k => b_shr T.uint64 a k .u64 16
  have s8 : ∀ (a : W64) {α : Type} (k : Value → Option α), pBin PP .shr T.uint64 (wv a) (.int .u64 8) k = k (wv (a >>> 8)) := fun a _ k => b_shr T.uint64 a k .u64 8
  have tail : ∀ (y : W64) (n : Nat), n ≤ 64 → y.toNat < 2 ^ 16 → ∀ G : Option (Value × Hp), G = some (.int .i64 ((n + bitLen y.toNat : Nat) : Int), H) →
    (pBin PP .geq T.uint64 (wv y) (.int .u64 256) fun v24 => zaa v24 fun b25 => br b25
      (pBin PP .shr T.uint64 (wv y) (.int .u64 8) fun v26 => pBin PP .add T.int (.int .i64 (n : Int)) (.int .i64 8) fun v27 => zal .u8 v26 fun v28 =>
        zaQ (.string ⟨#[0, 1, 2, 2, 3, 3, 3, 3, 4, 4, 4, 4, 4, 4, 4, 4, 5, 5, 5, 5, 5, 5, 5, 5, 5, 5, 5, 5, 5, 5, 5, 5, 6, 6, 6, 6, 6, 6, 6, 6, 6, 6, 6, 6, 6, 6, 6, 6, 6, 6, 6, 6, 6, 6, 6, 6, 6, 6, 6, 6, 6, 6, 6, 6, 7, 7, 7, 7, 7, 7, 7, 7, 7, 7, 7, 7, 7, 7, 7, 7, 7, 7, 7, 7, 7, 7, 7, 7, 7, 7, 7, 7, 7, 7, 7, 7, 7, 7, 7, 7, 7, 7, 7, 7, 7, 7, 7, 7, 7, 7, 7, 7, 7, 7, 7, 7, 7, 7, 7, 7, 7, 7, 7, 7, 7, 7, 7, 7, 8, 8, 8, 8, 8, 8, 8, 8, 8, 8, 8, 8, 8, 8, 8, 8, 8, 8, 8, 8, 8, 8, 8, 8, 8, 8, 8, 8, 8, 8, 8, 8, 8, 8, 8, 8, 8, 8, 8, 8, 8, 8, 8, 8, 8, 8, 8, 8, 8, 8, 8, 8, 8, 8, 8, 8, 8, 8, 8, 8, 8, 8, 8, 8, 8, 8, 8, 8, 8, 8, 8, 8, 8, 8, 8, 8, 8, 8, 8, 8, 8, 8, 8, 8, 8, 8, 8, 8, 8, 8, 8, 8, 8, 8, 8, 8, 8, 8, 8, 8, 8, 8, 8, 8, 8, 8, 8, 8, 8, 8, 8, 8, 8, 8, 8, 8, 8, 8, 8, 8, 8, 8, 8, 8, 8, 8, 8, 8]⟩) v28 fun v29 => zal .i64 v29 fun v30 => pBin PP .add T.int v27 v30 fun v31 => some (v31, H))
      (zal .u8 (wv y) fun v32 => zaQ (.string ⟨#[0, 1, 2, 2, 3, 3, 3, 3, 4, 4, 4, 4, 4, 4, 4, 4, 5, 5, 5, 5, 5, 5, 5, 5, 5, 5, 5, 5, 5, 5, 5, 5, 6, 6, 6, 6, 6, 6, 6, 6, 6, 6, 6, 6, 6, 6, 6, 6, 6, 6, 6, 6, 6, 6, 6, 6, 6, 6, 6, 6, 6, 6, 6, 6, 7, 7, 7, 7, 7, 7, 7, 7, 7, 7, 7, 7, 7, 7, 7, 7, 7, 7, 7, 7, 7, 7, 7, 7, 7, 7, 7, 7, 7, 7, 7, 7, 7, 7, 7, 7, 7, 7, 7, 7, 7, 7, 7, 7, 7, 7, 7, 7, 7, 7, 7, 7, 7, 7, 7, 7, 7, 7, 7, 7, 7, 7, 7, 7, 8, 8, 8, 8, 8, 8, 8, 8, 8, 8, 8, 8, 8, 8, 8, 8, 8, 8, 8, 8, 8, 8, 8, 8, 8, 8, 8, 8, 8, 8, 8, 8, 8, 8, 8, 8, 8, 8, 8, 8, 8, 8, 8, 8, 8, 8, 8, 8, 8, 8, 8, 8, 8, 8, 8, 8, 8, 8, 8, 8, 8, 8, 8, 8, 8, 8, 8, 8, 8, 8, 8, 8, 8, 8, 8, 8, 8, 8, 8, 8, 8, 8, 8, 8, 8, 8, 8, 8, 8, 8, 8, 8, 8, 8, 8, 8, 8, 8, 8, 8, 8, 8, 8, 8, 8, 8, 8, 8, 8, 8, 8, 8, 8, 8, 8, 8, 8, 8, 8, 8, 8, 8, 8, 8, 8, 8, 8, 8]⟩) v32 fun v33 => zal .i64 v33 fun v34 => pBin PP .add T.int (.int .i64 (n : Int)) v34 fun v35 => some (v35, H))) = G := by
    intro y n hn hy G hG
    rw [hG, n3, b_geq, zaf, s_br, show (256#64).toNat = 256 from rfl]
    by_cases h : 256 ≤ y.toNat
    · rw [if_pos (decide_eq_true h), s8]
      have e := zj8 y 8
      have hlt : (y >>> 8).toNat < 256 := by omega
      have hb := bitLen_le8 _ hlt
      have hne : y.toNat / 2 ^ 8 ≠ 0 := by omega
      have hl := bitLen_shift y.toNat 8 hne
      rw [← e] at hl
      rw [zbb, conv8 _ hlt, at_len8 _ hlt, zjl, zbb, zhq (x := (n : Int) + 8) (by omega) (by omega), zhq (x := ((bitLen (y >>> 8).toNat : Nat) : Int)) (by omega) (by omega), zhq (by omega) (by omega), hl]
      congr 3; omega
    · rw [if_neg (by simpa using h)]
      have hlt : y.toNat < 256 := by omega
      have hb := bitLen_le8 _ hlt
      rw [conv8 _ hlt, at_len8 _ hlt, zjl, zbb, zhq (x := ((bitLen y.toNat : Nat) : Int)) (by omega) (by omega), zhq (by omega) (by omega)]
      congr 3
  have mid : ∀ (y : W64) (n : Nat), n ≤ 32 → y.toNat < 2 ^ 32 → ∀ G : Option (Value × Hp), G = some (.int .i64 ((n + bitLen y.toNat : Nat) : Int), H) → (zaD (α := Value × Hp) .next
 (pBin PP .geq T.uint64 (wv y) (.int .u64 65536) fun v8 =>
 zaa v8 fun b9 => br b9
 (pBin PP .shr T.uint64 (wv y) (.int .u64 16) fun v10 =>
 pBin PP .add T.int (.int .i64 (n : Int)) (.int .i64 16) fun v11 =>
 pBin PP .geq T.uint64 v10 (.int .u64 256) fun v12 =>
 zaa v12 fun b13 => br b13
 (pBin PP .shr T.uint64 v10 (.int .u64 8) fun v14 =>
 pBin PP .add T.int v11 (.int .i64 8) fun v15 =>
 zal .u8 v14 fun v16 =>
 zaQ (.string ⟨#[0, 1, 2, 2, 3, 3, 3, 3, 4, 4, 4, 4, 4, 4, 4, 4, 5, 5, 5, 5, 5, 5, 5, 5, 5, 5, 5, 5, 5, 5, 5, 5, 6, 6, 6, 6, 6, 6, 6, 6, 6, 6, 6, 6, 6, 6, 6, 6, 6, 6, 6, 6, 6, 6, 6, 6, 6, 6, 6, 6, 6, 6, 6, 6, 7, 7, 7, 7, 7, 7, 7, 7, 7, 7, 7, 7, 7, 7, 7, 7, 7, 7, 7, 7, 7, 7, 7, 7, 7, 7, 7, 7, 7, 7, 7, 7, 7, 7, 7, 7, 7, 7, 7, 7, 7, 7, 7, 7, 7, 7, 7, 7, 7, 7, 7, 7, 7, 7, 7, 7, 7, 7, 7, 7, 7, 7, 7, 7, 8, 8, 8, 8, 8, 8, 8, 8, 8, 8, 8, 8, 8, 8, 8, 8, 8, 8, 8, 8, 8, 8, 8, 8, 8, 8, 8, 8, 8, 8, 8, 8, 8, 8, 8, 8, 8, 8, 8, 8, 8, 8, 8, 8, 8, 8, 8, 8, 8, 8, 8, 8, 8, 8, 8, 8, 8, 8, 8, 8, 8, 8, 8, 8, 8, 8, 8, 8, 8, 8, 8, 8, 8, 8, 8, 8, 8, 8, 8, 8, 8, 8, 8, 8, 8, 8, 8, 8, 8, 8, 8, 8, 8, 8, 8, 8, 8, 8, 8, 8, 8, 8, 8, 8, 8, 8, 8, 8, 8, 8, 8, 8, 8, 8, 8, 8, 8, 8, 8, 8, 8, 8, 8, 8, 8, 8, 8, 8]⟩) v16 fun v17 =>
 zal .i64 v17 fun v18 =>
 pBin PP .add T.int v15 v18 fun v19 =>
 some (v19, H))
 (zal .u8 v10 fun v20 =>
 zaQ (.string ⟨#[0, 1, 2, 2, 3, 3, 3, 3, 4, 4, 4, 4, 4, 4, 4, 4, 5, 5, 5, 5, 5, 5, 5, 5, 5, 5, 5, 5, 5, 5, 5, 5, 6, 6, 6, 6, 6, 6, 6, 6, 6, 6, 6, 6, 6, 6, 6, 6, 6, 6, 6, 6, 6, 6, 6, 6, 6, 6, 6, 6, 6, 6, 6, 6, 7, 7, 7, 7, 7, 7, 7, 7, 7, 7, 7, 7, 7, 7, 7, 7, 7, 7, 7, 7, 7, 7, 7, 7, 7, 7, 7, 7, 7, 7, 7, 7, 7, 7, 7, 7, 7, 7, 7, 7, 7, 7, 7, 7, 7, 7, 7, 7, 7, 7, 7, 7, 7, 7, 7, 7, 7, 7, 7, 7, 7, 7, 7, 7, 8, 8, 8, 8, 8, 8, 8, 8, 8, 8, 8, 8, 8, 8, 8, 8, 8, 8, 8, 8, 8, 8, 8, 8, 8, 8, 8, 8, 8, 8, 8, 8, 8, 8, 8, 8, 8, 8, 8, 8, 8, 8, 8, 8, 8, 8, 8, 8, 8, 8, 8, 8, 8, 8, 8, 8, 8, 8, 8, 8, 8, 8, 8, 8, 8, 8, 8, 8, 8, 8, 8, 8, 8, 8, 8, 8, 8, 8, 8, 8, 8, 8, 8, 8, 8, 8, 8, 8, 8, 8, 8, 8, 8, 8, 8, 8, 8, 8, 8, 8, 8, 8, 8, 8, 8, 8, 8, 8, 8, 8, 8, 8, 8, 8, 8, 8, 8, 8, 8, 8, 8, 8, 8, 8, 8, 8, 8, 8]⟩) v20 fun v21 =>
 zal .i64 v21 fun v22 =>
 pBin PP .add T.int v11 v22 fun v23 =>
 some (v23, H)))
 (pBin PP .geq T.uint64 (wv y) (.int .u64 256) fun v24 =>
 zaa v24 fun b25 => br b25
 (pBin PP .shr T.uint64 (wv y) (.int .u64 8) fun v26 =>
 pBin PP .add T.int (.int .i64 (n : Int)) (.int .i64 8) fun v27 =>
 zal .u8 v26 fun v28 =>
 zaQ (.string ⟨#[0, 1, 2, 2, 3, 3, 3, 3, 4, 4, 4, 4, 4, 4, 4, 4, 5, 5, 5, 5, 5, 5, 5, 5, 5, 5, 5, 5, 5, 5, 5, 5, 6, 6, 6, 6, 6, 6, 6, 6, 6, 6, 6, 6, 6, 6, 6, 6, 6, 6, 6, 6, 6, 6, 6, 6, 6, 6, 6, 6, 6, 6, 6, 6, 7, 7, 7, 7, 7, 7, 7, 7, 7, 7, 7, 7, 7, 7, 7, 7, 7, 7, 7, 7, 7, 7, 7, 7, 7, 7, 7, 7, 7, 7, 7, 7, 7, 7, 7, 7, 7, 7, 7, 7, 7, 7, 7, 7, 7, 7, 7, 7, 7, 7, 7, 7, 7, 7, 7, 7, 7, 7, 7, 7, 7, 7, 7, 7, 8, 8, 8, 8, 8, 8, 8, 8, 8, 8, 8, 8, 8, 8, 8, 8, 8, 8, 8, 8, 8, 8, 8, 8, 8, 8, 8, 8, 8, 8, 8, 8, 8, 8, 8, 8, 8, 8, 8, 8, 8, 8, 8, 8, 8, 8, 8, 8, 8, 8, 8, 8, 8, 8, 8, 8, 8, 8, 8, 8, 8, 8, 8, 8, 8, 8, 8, 8, 8, 8, 8, 8, 8, 8, 8, 8, 8, 8, 8, 8, 8, 8, 8, 8, 8, 8, 8, 8, 8, 8, 8, 8, 8, 8, 8, 8, 8, 8, 8, 8, 8, 8, 8, 8, 8, 8, 8, 8, 8, 8, 8, 8, 8, 8, 8, 8, 8, 8, 8, 8, 8, 8, 8, 8, 8, 8, 8, 8]⟩) v28 fun v29 =>
 zal .i64 v29 fun v30 =>
 pBin PP .add T.int v27 v30 fun v31 =>
 some (v31, H))
 (zal .u8 (wv y) fun v32 =>
 zaQ (.string ⟨#[0, 1, 2, 2, 3, 3, 3, 3, 4, 4, 4, 4, 4, 4, 4, 4, 5, 5, 5, 5, 5, 5, 5, 5, 5, 5, 5, 5, 5, 5, 5, 5, 6, 6, 6, 6, 6, 6, 6, 6, 6, 6, 6, 6, 6, 6, 6, 6, 6, 6, 6, 6, 6, 6, 6, 6, 6, 6, 6, 6, 6, 6, 6, 6, 7, 7, 7, 7, 7, 7, 7, 7, 7, 7, 7, 7, 7, 7, 7, 7, 7, 7, 7, 7, 7, 7, 7, 7, 7, 7, 7, 7, 7, 7, 7, 7, 7, 7, 7, 7, 7, 7, 7, 7, 7, 7, 7, 7, 7, 7, 7, 7, 7, 7, 7, 7, 7, 7, 7, 7, 7, 7, 7, 7, 7, 7, 7, 7, 8, 8, 8, 8, 8, 8, 8, 8, 8, 8, 8, 8, 8, 8, 8, 8, 8, 8, 8, 8, 8, 8, 8, 8, 8, 8, 8, 8, 8, 8, 8, 8, 8, 8, 8, 8, 8, 8, 8, 8, 8, 8, 8, 8, 8, 8, 8, 8, 8, 8, 8, 8, 8, 8, 8, 8, 8, 8, 8, 8, 8, 8, 8, 8, 8, 8, 8, 8, 8, 8, 8, 8, 8, 8, 8, 8, 8, 8, 8, 8, 8, 8, 8, 8, 8, 8, 8, 8, 8, 8, 8, 8, 8, 8, 8, 8, 8, 8, 8, 8, 8, 8, 8, 8, 8, 8, 8, 8, 8, 8, 8, 8, 8, 8, 8, 8, 8, 8, 8, 8, 8, 8, 8, 8, 8, 8, 8, 8]⟩) v32 fun v33 =>
 zal .i64 v33 fun v34 =>
 pBin PP .add T.int (.int .i64 (n : Int)) v34 fun v35 =>
 some (v35, H)))) (fun i7 => none) none) = G := by
    intro y n hn hy G hG
    rw [zaV, n2, b_geq, zaf, s_br, show (65536#64).toNat = 65536 from rfl]
    by_cases h : 65536 ≤ y.toNat
    · rw [if_pos (decide_eq_true h), s16, zbb, zhq (by omega) (by omega)]
      have e := zj8 y 16
      have hne : y.toNat / 2 ^ 16 ≠ 0 := by omega
      have hl := bitLen_shift y.toNat 16 hne
      rw [← e] at hl
      have e2 : ((n : Int) + 16) = ((n + 16 : Nat) : Int) := by omega
      rw [e2]
      refine tail (y >>> 16) (n + 16) (by omega) (by omega) G ?_
      rw [hG, hl]
      congr 3; omega
    · rw [if_neg (by simpa using h)]
      exact tail y n (by omega) (by omega) G hG
  rw [n1, b_geq, zaf, s_br, show (4294967296#64).toNat = 4294967296 from rfl]
  by_cases h : 4294967296 ≤ x.toNat
  · rw [if_pos (decide_eq_true h), s32]
    have e := zj8 x 32
    have hx := x.isLt
    have hne : x.toNat / 2 ^ 32 ≠ 0 := by omega
    have hl := bitLen_shift x.toNat 32 hne
    rw [← e] at hl
    refine mid (x >>> 32) 32 (by omega) (by omega) _ ?_
    rw [hl]
  · rw [if_neg (by simpa using h)]
    refine mid x 0 (by omega) (by omega) _ ?_
    rw [Nat.zero_add]
end Go.AM
namespace Go.AM
open Go
section
variable {α : Type} {P : Program}
theorem q_u32 {x : Int} (h1 : 0 ≤ x) (h2 : x ≤ 4294967295) : IntKind.u32.wrap x = x := znp (by have : IntKind.u32.min = 0 := rfl; omega) (by have : IntKind.u32.max = 4294967295 := rfl; omega)
theorem t_quo (T : TypeId) (a b : Nat) (hb : b ≠ 0) (ha : a < 4294967296) (k : Value → Option α) : pBin P .quo T (.int .u32 (a : Int)) (.int .u32 (b : Int)) k = k (.int .u32 ((a / b : Nat) : Int)) := by
  have hb' : ¬ (b : Int) = 0 := by omega
  have h1 : ((a : Int).tdiv (b : Int)) = ((a / b : Nat) : Int) := rfl
  have h2 : a / b ≤ a := Nat.div_le_self a b
  have h3 : IntKind.u32.wrap ((a / b : Nat) : Int) = ((a / b : Nat) : Int) := by
    clear h1
    generalize a / b = q at h2
    exact q_u32 (by omega) (by omega)
  have : binV P .quo T (.int .u32 (a : Int)) (.int .u32 (b : Int)) = some (.int .u32 ((a / b : Nat) : Int)) := by
    show (if IntKind.u32 = IntKind.u32 then zdF .quo .u32 (a : Int) (b : Int) else none) = _
    rw [if_pos rfl]
    unfold zdF
    dsimp only
    rw [if_neg hb', h1, h3]
  unfold pBin; rw [this]
theorem t_mul (T : TypeId) (a b : Nat) (h : a * b < 4294967296) (k : Value → Option α) : pBin P .mul T (.int .u32 (a : Int)) (.int .u32 (b : Int)) k = k (.int .u32 ((a * b : Nat) : Int)) := by
  rw [zog, ← Int.natCast_mul, q_u32 (by omega) (by omega)]
theorem t_add (T : TypeId) (a b : Nat) (h : a + b < 4294967296) (k : Value → Option α) : pBin P .add T (.int .u32 (a : Int)) (.int .u32 (b : Int)) k = k (.int .u32 ((a + b : Nat) : Int)) := by
  rw [zbb, q_u32 (by omega) (by omega)]; rfl
theorem i_sub (T : TypeId) (a b : Nat) (h : b ≤ a) (ha : a < 2 ^ 60) (k : Value → Option α) : pBin P .sub T (.int .i64 (a : Int)) (.int .i64 (b : Int)) k = k (.int .i64 ((a - b : Nat) : Int)) := by
  rw [zd4, zhq (by omega) (by omega), Int.ofNat_sub h]
theorem ziB {n sz : Nat} {a o j : Nat} {kd : IntKind} (h : j < n) (k : Value → Option α) : zb0 n sz (.pointer (some ⟨a, o, none⟩)) (.int kd (j : Int)) k = k (.pointer (some ⟨a, o + j * sz, none⟩)) := by
  have : (0 : Int) ≤ j ∧ (j : Int) < n := by omega
  unfold zb0
  simp [this.1, h]
theorem zhR {H : Hp} {a : Nat} {l : List UInt8} (hg : H.get a = some (.cells (bv l) true)) {i : Nat} (hi : i < l.length) (b : UInt8) (k : Hp → Option α) :
    zam 1 H (.pointer (some ⟨a, i, none⟩)) (.int .u8 (b.toNat : Int)) k = k (H.set a (some (.cells (bv (l.set i b)) true))) := by
  have hw : za5 1 (bv l) i (.int .u8 (b.toNat : Int)) = some (bv (l.set i b)) := by
    unfold za5
    rw [if_pos ⟨rfl, by rw [zgB]; omega, rfl⟩]
    congr 1
    have := spl_set (fun b : UInt8 => Value.int .u8 (b.toNat : Int)) l hi b
    rw [Nat.mul_one] at this
    exact this
  unfold zam Hp.wr
  dsimp only
  rw [hg]
  dsimp only
  rw [hw]
end
def zdr : ByteArray := ⟨#[48, 48, 48, 49, 48, 50, 48, 51, 48, 52, 48, 53, 48, 54, 48, 55, 48, 56, 48, 57, 49, 48, 49, 49, 49, 50, 49, 51, 49, 52, 49, 53, 49, 54, 49, 55, 49, 56, 49, 57, 50, 48, 50, 49, 50, 50, 50, 51, 50, 52, 50, 53, 50, 54, 50, 55, 50, 56, 50, 57, 51, 48, 51, 49, 51, 50, 51, 51, 51, 52, 51, 53, 51, 54, 51, 55, 51, 56, 51, 57, 52, 48, 52, 49, 52, 50, 52, 51, 52, 52, 52, 53, 52, 54, 52, 55, 52, 56, 52, 57, 53, 48, 53, 49, 53, 50, 53, 51, 53, 52, 53, 53, 53, 54, 53, 55, 53, 56, 53, 57, 54, 48, 54, 49, 54, 50, 54, 51, 54, 52, 54, 53, 54, 54, 54, 55, 54, 56, 54, 57, 55, 48, 55, 49, 55, 50, 55, 51, 55, 52, 55, 53, 55, 54, 55, 55, 55, 56, 55, 57, 56, 48, 56, 49, 56, 50, 56, 51, 56, 52, 56, 53, 56, 54, 56, 55, 56, 56, 56, 57, 57, 48, 57, 49, 57, 50, 57, 51, 57, 52, 57, 53, 57, 54, 57, 55, 57, 56, 57, 57]⟩
def zfA : ByteArray := ⟨#[48, 49, 50, 51, 52, 53, 54, 55, 56, 57, 97, 98, 99, 100, 101, 102, 103, 104, 105, 106, 107, 108, 109, 110, 111, 112, 113, 114, 115, 116, 117, 118, 119, 120, 121, 122]⟩
theorem zob : (List.range 100).all (fun d => decide (zdr.data.toList[d * 2]? = some (dig (d / 10))) && decide (zdr.data.toList[d * 2 + 1]? = some (dig (d % 10))) && decide ((zdr.extract (d * 2) (d * 2 + 2)).data.toList = [dig (d / 10), dig (d % 10)])) = true := by kernel_rfl
theorem zkR {d : Nat} (h : d < 100) : zdr.data.toList[d * 2]? = some (dig (d / 10)) ∧ zdr.data.toList[d * 2 + 1]? = some (dig (d % 10)) ∧ zdr.extract (d * 2) (d * 2 + 2) = ba [dig (d / 10), dig (d % 10)] := by
  have := List.all_eq_true.1 zob d (List.mem_range.2 h)
  rw [Bool.and_eq_true, Bool.and_eq_true, decide_eq_true_eq, decide_eq_true_eq, decide_eq_true_eq] at this
  exact ⟨this.1.1, this.1.2, zfz this.2⟩
theorem digit_all : (List.range 36).all (fun d => decide (zfA.data.toList[d]? = some (dig d)) && decide ((zfA.extract d (d + 1)).data.toList = [dig d])) = true := by kernel_rfl
theorem zkz {d : Nat} (h : d < 36) : zfA.data.toList[d]? = some (dig d) ∧ zfA.extract d (d + 1) = ba [dig d] := by
  have := List.all_eq_true.1 digit_all d (List.mem_range.2 h)
  rw [Bool.and_eq_true, decide_eq_true_eq, decide_eq_true_eq] at this
  exact ⟨this.1, zfz this.2⟩
theorem c_small {x : Nat} (hx : x < 100) (H : Hp) : RR F.a60 [.int .i64 (x : Int)] H = some (.string (ba (dgt 10 x)), H) := by
  refine (zee E0 rfl _ _).trans ?_
  show (pBin PP .lss T.int (.int .i64 (x : Int)) (.int .i64 10) fun v1 => zaa v1 fun b2 => br b2
     (pBin PP .add T.int (.int .i64 (x : Int)) (.int .i64 1) fun v3 => zaX (.string zfA) (some (.int .i64 (x : Int))) (some v3) fun v4 => some (v4, H))
     (pBin PP .mul T.int (.int .i64 (x : Int)) (.int .i64 2) fun v5 => pBin PP .mul T.int (.int .i64 (x : Int)) (.int .i64 2) fun v6 => pBin PP .add T.int v6 (.int .i64 2) fun v7 => zaX (.string zdr) (some v5) (some v7) fun v8 => some (v8, H))) = _
  have d1 : zfA.size = 36 := rfl
  have d2 : zdr.size = 200 := rfl
  rw [zaY, zaf, s_br]
  by_cases h : x < 10
  · rw [if_pos (by simp; omega), zbb, zhq (by omega) (by omega), show ((x : Int) + 1) = ((x + 1 : Nat) : Int) from rfl, s_cut _ _ _ _ _ (by omega) (by omega), (zkz (by omega)).2, zfB h]
  · rw [if_neg (by simp; omega), zog, zog, zbb, zhq (by omega) (by omega), zhq (by omega) (by omega), show ((x : Int) * 2) = ((x * 2 : Nat) : Int) from (Int.natCast_mul x 2).symm, show (((x * 2 : Nat) : Int) + 2) = ((x * 2 + 2 : Nat) : Int) from rfl, s_cut _ _ _ _ _ (by omega) (by omega), (zkR hx).2.2,
      zfC (by decide) (by omega), zfB (show x / 10 < 10 by omega)]
    rfl
end Go.AM
namespace Go.AM
open Go
structure Tabs (H : Hp) : Prop where
  pow : ∃ cs e fz, H.get G.internal_strconv_uint64pow10 = some (.fix (.cells cs e fz)) ∧ zj1 .u64 cs.toList zol = true
  spc : ∃ cs e fz, H.get G.strings_asciiSpace = some (.fix (.cells cs e fz)) ∧ zj1 .u8 cs.toList zje = true
  bru : ∃ cs e fz, H.get G.bits_deBruijn64tab = some (.fix (.cells cs e fz)) ∧ cs.toList[15]? = some (.int .u8 4)
theorem ld_fix {α : Type} {H : Hp} {g : Nat} {cs : Array Value} {e : TypeId} {fz : Nat × Nat} (h : H.get g = some (.fix (.cells cs e fz))) {off : Nat} {kd : IntKind} {z : Int} (hc : cs.toList[off]? = some (.int kd z)) (k : Value → Option α) :
    zaj 1 false H (.pointer (some ⟨g, off, none⟩)) k = k (.int kd z) := by
  have : H.rdP (.pointer (some ⟨g, off, none⟩)) 1 false = some (.int kd z) := by
    unfold Hp.rdP Hp.rd
    dsimp only
    rw [h]
    dsimp only
    rw [hc]
  unfold zaj; rw [this]
theorem c_itoa {H : Hp} (hT : Tabs H) {n : Int} (h0 : -9223372036854775808 ≤ n) (h1 : n ≤ 9223372036854775807) : RR F.a36 [.int .i64 n] H = some (.string (ba (Go.Lib.itoa n)), H) := by
  obtain ⟨cs, e, fz, hg, ht⟩ := hT.pow
  have hx : RR F.a55 [.int .i64 n, .int .i64 10] H = some (.string (ba (Go.Lib.itoa n)), H) := by
    refine (zh2 (O := orc) Go.Proofs.Tryz.func82 (by kernel_rfl) (by kernel_rfl) (show E0 F.a55 = some extFmt from rfl) _ H).trans ?_
    show (if _ then _ else none) = _
    rw [if_pos ⟨h0, h1⟩, hg]
    dsimp only
    rw [ht]
  refine (zi5 E0 rfl _ _).trans ?_
  unfold zfx
  rw [zah ((zes E0 rfl _ _).trans (by unfold zcg; rw [zah hx]))]
theorem lens : (List.range 900).all (fun d => (decide (bitLen (100 + d) * 78913 / 262144 = 2) || (decide (bitLen (100 + d) * 78913 / 262144 = 3))) && decide (bitLen (100 + d) ≤ 64)) = true := by kernel_rfl
theorem zmU {H : Hp} (hT : Tabs H) {x : Nat} (h0 : 100 ≤ x) (h1 : x < 1000) : RR F.a59 [.int .u64 (x : Int)] H = some (.int .i64 3, H) := by
  obtain ⟨cs, e, fz, hg, ht⟩ := hT.pow
  have hcs := zj0 _ _ ht
  have hw : Value.int .u64 (x : Int) = wv (BitVec.ofNat 64 x) := by
    unfold wv
    rw [BitVec.toNat_ofNat, Nat.mod_eq_of_lt (by omega)]
  have e1 : RR F.a27 [.int .u64 (x : Int)] H = some (.int .i64 ((bitLen x : Nat) : Int), H) := by
    rw [hw, c80, BitVec.toNat_ofNat, Nat.mod_eq_of_lt (by omega)]
  have hl := List.all_eq_true.1 lens (x - 100) (List.mem_range.2 (by omega))
  rw [show 100 + (x - 100) = x by omega, Bool.and_eq_true, Bool.or_eq_true, decide_eq_true_eq, decide_eq_true_eq, decide_eq_true_eq] at hl
  generalize hK : bitLen x = K at e1 hl
  have e2 : RR F.a58 [.int .i64 (K : Int)] H = some (.int .i64 ((K * 78913 / 262144 : Nat) : Int), H) := by
    refine (zde E0 rfl _ _).trans ?_
    unfold zbP
    have hm : ((K : Int) * 78913) = ((K * 78913 : Nat) : Int) := (Int.natCast_mul K 78913).symm
    rw [zog, zhq (by omega) (by omega), hm]
    have hs : binV PP .shr T.int (.int .i64 ((K * 78913 : Nat) : Int)) (.int .u64 18) = some (.int .i64 ((K * 78913 / 262144 : Nat) : Int)) := by
      show (if (18 : Int) < 0 then none else some (Value.int .i64 (((K * 78913 : Nat) : Int).fdiv (2 ^ (min (18 : Int).toNat IntKind.i64.bits))))) = _
      rw [if_neg (by decide)]
      have : (2 : Int) ^ (min (18 : Int).toNat IntKind.i64.bits) = ((262144 : Nat) : Int) := rfl
      rw [this, Int.fdiv_eq_ediv_of_nonneg _ (by omega)]
      congr 2
    unfold pBin
    rw [hs]
  refine (zdd E0 rfl _ _).trans ?_
  unfold zbO
  rw [zah e1, zah e2]
  have b1 : ∀ v : Bool, RR F.a56 [.bool v] H = some (.int .i64 (if v = true then 1 else 0), H) := fun v => by
    refine (zdf E0 rfl _ _).trans ?_
    cases v <;> rfl
  rcases hl.1 with h | h
  · rw [h, ziB (by decide), ld_fix hg (kd := .u64) (z := 100) (by rw [hcs]; rfl), zcb, zah (b1 _), if_pos (by simp; omega), zbb]
    rfl
  · rw [h, ziB (by decide), ld_fix hg (kd := .u64) (z := 1000) (by rw [hcs]; rfl), zcb, zah (b1 _), if_neg (by simp; omega), zbb]
    rfl
end Go.AM
namespace Go.AM
open Go
theorem zeQ {α : Type} (T : TypeId) (a b : List UInt8) (k : Value → Option α) : pBin PP .eql T (str a) (str b) k = k (.bool (a == b)) := by
  show pBin PP .eql T (.string (ba a)) (.string (ba b)) k = _
  rw [znf, zd8, zd8]
theorem zne {α : Type} (l : List UInt8) (H : Hp) (k : Value → Option α) : pLen .str (str l) H k = k (.int .i64 (l.length : Int)) := by
  show k (.int .i64 ((ba l).size : Int)) = _
  rw [zb3]
theorem zk0 {α : Type} (l : List UInt8) (hl : l.length ≤ 2 ^ 40) (H : Hp) (k : Value → Hp → Option α) : zdg (str l) H k = k (.slice (some ⟨H.next, 0, some 1⟩) l.length l.length) (H.new (.cells (zgA l) true)) := by
  show (if (ba l).size ≤ 2 ^ 47 then k (.slice (some ⟨H.next, 0, some 1⟩) (ba l).size (ba l).size) (H.new (.cells ((ba l).data.toList.map fun b => .int .u8 (b.toNat : Int)) true)) else none) = _
  rw [zb3, zd8, if_pos (by omega)]
  rfl
theorem u8conv : IntKind.u64.wrap 64 = 64 := by decide
theorem shl64 {α : Type} (T : TypeId) (k : Value → Option α) : pBin PP .shl T (.int .u64 1) (.int .u64 64) k = k (.int .u64 0) := by
  have : binV PP .shl T (.int .u64 1) (.int .u64 64) = some (.int .u64 0) := by
    show shOp .shl .u64 1 64 = _
    kernel_rfl
  unfold pBin; rw [this]
def numB (base : Nat) (l : List UInt8) : Option Nat := if l = [] then none else numL base l 0
theorem c_iparse (l : List UInt8) (hl : l.length ≤ 2 ^ 40) (base : Nat) (hb : base = 10 ∨ base = 16) (H : Hp) : ∃ r H', RR F.a21 [str l, .int .i64 (base : Int), .int .i64 64] H = some (r, H') ∧ Frm (fun _ => False) H H' ∧
    match numB base l with
    | some x => r = .tuple #[.int .u64 (x : Int), .nilIface]
    | none => ∃ u c, (c = 1 ∨ c = 2) ∧ r = errP u c := by
  by_cases h0 : l = []
  · refine ⟨errP 0 2, H, ?_, Frm.refl _ _, ?_⟩
    · refine (zbM E0 rfl _ _ _ H).trans ?_
      rw [zbR]
      have he : ∀ {α : Type} (k : Value → Option α), pBin PP .eql T.string (str l) (.string ⟨#[]⟩) k = k (.bool (l == [])) := fun k => zeQ T.string l [] k
      rw [he, h0, zaf, s_br, if_pos (by rfl)]
      rfl
    · unfold numB
      rw [if_pos h0]
      exact ⟨0, 2, .inr rfl, rfl⟩
  · let H1 := H.new (.cells (zgA l) true)
    have hv : Rdb H1 1 (.slice (some ⟨H.next, 0, some 1⟩) l.length l.length) l.length (zgA l) :=
      .inr ⟨H.next, l.length, [], true, rfl, Nat.le_refl _, by rw [List.append_nil]; exact if_pos rfl, by simp [zgA], by show H.next < H.next + 1; omega⟩
    have hf : Frm (fun _ => False) H H1 := zc8 _ _ _
    obtain ⟨o, h1, h2⟩ := znw l hl base hb (str l) _ H1 hv l 0 0 rfl (Nat.zero_le _) (by omega)
    have hrun : RR F.a21 [str l, .int .i64 (base : Int), .int .i64 64] H = zav (some o) fun q146 l147 H148 => zaD q146 none
        (fun i149 => zaA i149 3 (
        zaa (l147.getD 0 undef) fun b150 => br b150
        (zae RR F.a75 [str l] H148 fun r151 H152 =>
        pUn .not r151 fun v153 =>
        zaa v153 fun b154 => br b154
        (some ((.tuple #[(.int .u64 0), (.iface T.strconv_Error (.int .i64 2))]), H152))
        (some ((.tuple #[(l147.getD 1 undef), .nilIface]), H152)))
        (some ((.tuple #[(l147.getD 1 undef), .nilIface]), H148))) (
        none))
        (some ((l147.headD undef), H148)) := by
      refine (zbM E0 rfl _ _ _ H).trans ?_
      rw [zbR]
      have he : ∀ {α : Type} (k : Value → Option α), pBin PP .eql T.string (str l) (.string ⟨#[]⟩) k = k (.bool (l == [])) := fun k => zeQ T.string l [] k
      have hne : (l == []) = false := by rw [beq_eq_false_iff_ne]; exact h0
      have b0 : ¬ ((base : Int) = 0) := by omega
      have b1 : (2 : Int) ≤ (base : Int) := by omega
      have b2 : (base : Int) ≤ 36 := by omega
      have c0 : ¬ ((64 : Int) = 0) := by decide
      have c1 : ¬ ((64 : Int) < 0) := by decide
      have c2 : ¬ ((64 : Int) > 64) := by decide
      have hcv : ∀ {α : Type} (k : Value → Option α), zal .u64 (.int .i64 64) k = k (.int .u64 64) := fun k => by
        show k (.int .u64 (IntKind.u64.wrap 64)) = _
        rw [u8conv]
      have hsub : ∀ {α : Type} (k : Value → Option α), pBin PP .sub T.uint64 (.int .u64 0) (.int .u64 1) k = k maxU := fun k => by
        rw [zd4]; rfl
      have hlen : ∀ {α : Type} (k : Value → Option α), pLen .sl (.slice (some ⟨H.next, 0, some 1⟩) l.length l.length) (H.new (.cells (zgA l) true)) k = k (.int .i64 (l.length : Int)) := fun k => rfl
      simp only [he, hne, zaf, s_br, Bool.false_eq_true, if_false, za4, b0, b1, b2, decide_false, decide_true, if_true, zi3, zaq, zaV, qg0, qg1, c0, c1, c2, zaY, zca]
      rcases hb with rfl | rfl
      · have d0 : ((10 : Nat) : Int) = 10 := rfl
        simp only [d0, decide_true, if_true, zaq, zaV, hcv, shl64, hsub, zk0 l hl, hlen]
        exact congrArg (fun z => zav z _) h1
      · have d0 : ¬ ((16 : Int) = 10) := by decide
        have d1 : ((16 : Nat) : Int) = 16 := rfl
        simp only [d0, d1, decide_true, decide_false, Bool.false_eq_true, if_false, if_true, zaq, zaV, hcv, shl64, hsub, zk0 l hl, hlen]
        exact congrArg (fun z => zav z _) h1
    unfold numB
    rw [if_neg h0]
    cases hn : numL base l 0 with
    | some x =>
      rw [hn] at h2
      subst h2
      exact ⟨_, H1, hrun, hf, rfl⟩
    | none =>
      rw [hn] at h2
      obtain ⟨u, c, hc, rfl⟩ := h2
      exact ⟨_, H1, hrun, hf, u, c, hc, rfl⟩
structure Laid (H : Hp) : Prop where
  next : PP.globals.size ≤ H.next
  tabs : Tabs H
  syn : ∃ cs ty fz, H.get G.strconv_ErrSyntax = some (.fix (.cells cs ty fz)) ∧ isErr cs.toList = true
  rng : ∃ cs ty fz, H.get G.strconv_ErrRange = some (.fix (.cells cs ty fz)) ∧ isErr cs.toList = true
theorem Laid.keep {H H' : Hp} {M : Nat → Prop} (h : Laid H) (k : Frm M H H') (hm : ∀ j, M j → PP.globals.size ≤ j) : Laid H' := by
  have e : ∀ g, g < PP.globals.size → H'.get g = H.get g := fun g hg => k.same g (by have := h.next; omega) fun q => by have := hm g q; omega
  exact ⟨Nat.le_trans h.next k.next, ⟨by rw [e _ (by rw [zfp]; decide)]; exact h.tabs.pow, by rw [e _ (by rw [zfp]; decide)]; exact h.tabs.spc, by rw [e _ (by rw [zfp]; decide)]; exact h.tabs.bru⟩,
    by rw [e _ (by rw [zfp]; decide)]; exact h.syn, by rw [e _ (by rw [zfp]; decide)]; exact h.rng⟩
theorem c_toerr (fn : ByteArray) (l : List UInt8) (hl : l.length ≤ 2 ^ 40) (b : Int) (c : Int) (hc : c = 1 ∨ c = 2) (H : Hp) (hL : Laid H) :
    ∃ t v, RR F.a24 [.string fn, str l, .int .i64 b, .int .i64 64, .iface T.strconv_Error (.int .i64 c)] H = some (.iface t v, H.skip) := by
  refine ⟨T.p_strconv_NumError, .pointer (some ⟨H.next, 0, none⟩), ?_⟩
  have hE : E0 F.a24 = some zlN := rfl
  have : RR F.a24 [.string fn, str l, .int .i64 b, .int .i64 64, .iface T.strconv_Error (.int .i64 c)] H = zlN [.string fn, str l, .int .i64 b, .int .i64 64, .iface T.strconv_Error (.int .i64 c)] H := zh2 Go.Proofs.Tryz.func91 (by kernel_rfl) (by kernel_rfl) hE _ _
  rw [this]
  have hg : ∃ cs ty fz, H.get (if c = 2 then G.strconv_ErrSyntax else G.strconv_ErrRange) = some (.fix (.cells cs ty fz)) ∧ isErr cs.toList = true := by
    rcases hc with rfl | rfl
    · exact hL.rng
    · exact hL.syn
  obtain ⟨cs, ty, fz, h1, h2⟩ := hg
  show (if T.strconv_Error = T.strconv_Error ∧ (ba l).size ≤ 281474976710656 ∧ (c = 1 ∨ c = 2) then _ else _) = _
  rw [if_pos ⟨rfl, by rw [zb3]; omega, hc⟩, h1]
  dsimp only
  rw [h2]
theorem skip_fr (H : Hp) : Frm (fun _ => False) H H.skip := ⟨by show H.next ≤ H.next + 1; omega, fun _ _ _ => rfl⟩
theorem c_parse (l : List UInt8) (hl : l.length ≤ 2 ^ 40) (base : Nat) (hb : base = 10 ∨ base = 16) (H : Hp) (hL : Laid H) : ∃ r H', RR F.a37 [str l, .int .i64 (base : Int), .int .i64 64] H = some (r, H') ∧ Frm (fun _ => False) H H' ∧
    match numB base l with
    | some x => r = .tuple #[.int .u64 (x : Int), .nilIface]
    | none => ∃ u t v, r = .tuple #[.int .u64 u, .iface t v] := by
  obtain ⟨r, H', h1, h2, h3⟩ := c_iparse l hl base hb H
  have hrun := zfM E0 rfl (str l) (.int .i64 (base : Int)) (.int .i64 64) H
  unfold zdB at hrun
  rw [zah h1] at hrun
  cases hn : numB base l with
  | some x =>
    rw [hn] at h3
    subst h3
    refine ⟨_, H', hrun.trans ?_, h2, rfl⟩
    rw [x01]
    rfl
  | none =>
    rw [hn] at h3
    obtain ⟨u, c, hc, rfl⟩ := h3
    obtain ⟨t, v, h4⟩ := c_toerr ⟨#[80, 97, 114, 115, 101, 85, 105, 110, 116]⟩ l hl (base : Int) c hc H' (hL.keep h2 fun j q => q.elim)
    refine ⟨.tuple #[.int .u64 u, .iface t v], H'.skip, hrun.trans ?_, h2.trans (skip_fr H') fun j q => q.elim, u, t, v, rfl⟩
    unfold errP
    rw [x01]
    have e : ∀ {α : Type} (k : Value → Option α), zeD PP .neq T.error (.iface T.strconv_Error (.int .i64 c)) k = k (.bool true) := fun k => rfl
    rw [e, zaf, s_br, if_pos rfl, zah h4]
theorem c_cutp (l : List UInt8) (H : Hp) : RR F.a63 [str l, .string ⟨#[48, 120]⟩] H = some (if l.take 2 = [48, 120] then .tuple #[str (l.drop 2), .bool true] else .tuple #[str l, .bool false], H) := by
  have hp : RR F.a61 [str l, str [48, 120]] H = some (.bool (decide (l.take 2 = [48, 120])), H) := by
    refine (zcn E0 rfl _ _ H).trans ?_
    unfold zbr
    simp only [zne, zcb, zaf, s_br]
    by_cases h : l.length ≥ 2
    · have h' : ((l.length : Int) ≥ (([48, 120] : List UInt8).length : Int)) := by show (l.length : Int) ≥ 2; omega
      rw [if_pos (decide_eq_true h'), s_upto l .i64 (m := ([48, 120] : List UInt8).length) h, zeQ]
      have e : (l.take ([48, 120] : List UInt8).length == [48, 120]) = decide (l.take 2 = [48, 120]) := by
        rw [Bool.eq_iff_iff]; simp
      rw [e]
    · have h' : ¬ ((l.length : Int) ≥ (([48, 120] : List UInt8).length : Int)) := by show ¬ (l.length : Int) ≥ 2; omega
      rw [if_neg (fun q => h' (of_decide_eq_true q))]
      have : ¬ (l.take 2 = [48, 120]) := fun e => by
        have := congrArg List.length e
        rw [List.length_take] at this
        simp at this
        omega
      rw [decide_eq_false this]
  have hc : RR F.a34 [str l, str [48, 120]] H = some (if l.take 2 = [48, 120] then .tuple #[str (l.drop 2), .bool true] else .tuple #[str l, .bool false], H) := by
    refine (zco E0 rfl _ _ H).trans ?_
    unfold zbs
    rw [zah hp, zc9, zaf, s_br]
    by_cases h : l.take 2 = [48, 120]
    · rw [decide_eq_true h, if_neg (by decide), if_pos h, zne]
      have hl2 : 2 ≤ l.length := by
        have := congrArg List.length h
        rw [List.length_take] at this
        simp at this
        omega
      have := s_from l .i64 (m := 2) hl2 (fun v6 => some ((Value.tuple #[v6, .bool true]), H))
      exact this
    · rw [decide_eq_false h, if_pos (by decide), if_neg h]
  refine (zfL E0 rfl _ _ H).trans ?_
  unfold zdA
  have hc' : RR F.a34 [str l, .string ⟨#[48, 120]⟩] H = _ := hc
  rw [zah hc']
  by_cases h : l.take 2 = [48, 120]
  · rw [if_pos h, x01]
  · rw [if_neg h, x01]
end Go.AM
namespace Go.AM
open Go
theorem zmP (l : List UInt8) (i : Nat) (hi : i < l.length) {c : Nat} (hc : c < 128) (h : ((Utf8.decode (ba l) i).1 : Int) = (c : Int)) : (l.getD i 0).toNat = c := by
  rw [Go.Lib.decode_at, zb3] at h
  simp only [ba_get] at h
  have hs := zlT (l.length - i) (l.getD i 0).toNat (l.getD (i + 1) 0).toNat (l.getD (i + 2) 0).toNat (l.getD (i + 3) 0).toNat (by omega)
  generalize Go.Lib.decodeN (l.length - i) (l.getD i 0).toNat (l.getD (i + 1) 0).toNat (l.getD (i + 2) 0).toNat (l.getD (i + 3) 0).toNat = q at hs h
  obtain ⟨r, w⟩ := q
  rcases hs with ⟨h1, h2⟩ | ⟨h1, h2⟩ | ⟨h1, h2, h3, h4, h5⟩ | ⟨h1, h2, h3, h3', h4, h5⟩ | ⟨h1, h2, h3, h3', h3'', h4, h5⟩
  · cases h2; dsimp only at h; omega
  · cases h2; dsimp only at h; omega
  all_goals (dsimp only at h h5; omega)
theorem znG (base : Nat) : ∀ (l : List UInt8) (v : Nat), (∃ b ∈ l, digV b.toNat base < 0) → numL base l v = none
  | [], v, ⟨b, hb, _⟩ => by cases hb
  | a :: r, v, ⟨b, hb, hd⟩ => by
    unfold numL
    by_cases h0 : digV a.toNat base < 0
    · rw [if_pos h0]
    · rw [if_neg h0]
      split
      · rfl
      · rcases List.mem_cons.1 hb with q | q
        · subst q; exact absurd hd h0
        · exact znG base r _ ⟨b, q, hd⟩
theorem sign_bad {b : UInt8} {base : Nat} (hb : base = 10 ∨ base = 16) (h : b.toNat = 95 ∨ b.toNat = 43 ∨ b.toNat = 45) : digV b.toNat base < 0 := by
  rcases hb with rfl | rfl <;> rcases h with h | h | h <;> rw [h] <;> decide
theorem sign_loop (l : List UInt8) (hl : l.length ≤ 2 ^ 40) (H : Hp) : ∀ (m i : Nat), l.length - i = m → i ≤ l.length →
    zaG (za6 RR) [zcX l i] H = some (.exit 0, [zcX l l.length], H) ∨ (zaG (za6 RR) [zcX l i] H = some (.ret, [badN], H) ∧ ∃ b ∈ l, b.toNat = 95 ∨ b.toNat = 43 ∨ b.toNat = 45) := by
  intro m
  induction m using Nat.strongRecOn with
  | _ m ih =>
  intro i hm hi
  by_cases he : i = l.length
  · left
    subst he
    have hb : Nat.blt l.length (ba l).size = false := by rw [zb3]; exact Bool.eq_false_iff.2 fun q => by rw [Nat.blt_eq] at q; exact Nat.lt_irrefl _ q
    have : za6 RR [zcX l l.length] H = some (.exit 0, [zcX l l.length], H) := by
      show br (Nat.blt l.length (ba l).size) _ _ = _
      rw [hb]; rfl
    rw [zan, this]; rfl
  · have hlt : i < l.length := by omega
    have hb : Nat.blt i (ba l).size = true := by rw [zb3]; rw [Nat.blt_eq]; exact hlt
    obtain ⟨d1, d2, _⟩ := dec_sp l i hlt
    have hmem : l.getD i 0 ∈ l := by
      rw [List.getD_eq_getElem?_getD, List.getElem?_eq_getElem hlt]
      exact List.getElem_mem hlt
    have hstep : za6 RR [zcX l i] H =
        (if ((Utf8.decode (ba l) i).1 : Int) = 95 then some (.ret, [badN], H) else if ((Utf8.decode (ba l) i).1 : Int) = 43 then some (.ret, [badN], H) else if ((Utf8.decode (ba l) i).1 : Int) = 45 then some (.ret, [badN], H) else some (.next, [zcX l (i + (Utf8.decode (ba l) i).2)], H)) := by
      show br (Nat.blt i (ba l).size) (pBin PP .eql T.int32 (.int .i32 (Utf8.decode (ba l) i).1) (.int .i32 95) fun v13 => zaa v13 fun b14 => br b14 (some (Ctl.ret, [(.tuple #[(.int .u64 0), (.int .i64 10)])], H))
        (pBin PP .eql T.int32 (.int .i32 (Utf8.decode (ba l) i).1) (.int .i32 43) fun v15 => zaa v15 fun b16 => br b16 (some (Ctl.ret, [(.tuple #[(.int .u64 0), (.int .i64 10)])], H))
        (pBin PP .eql T.int32 (.int .i32 (Utf8.decode (ba l) i).1) (.int .i32 45) fun v17 => zaa v17 fun b18 => br b18 (some (Ctl.ret, [(.tuple #[(.int .u64 0), (.int .i64 10)])], H))
        (some (Ctl.next, [zcX l (i + (Utf8.decode (ba l) i).2)], H))))) _ = _
      rw [hb]
      simp only [za4, zaf, s_br, decide_eq_true_eq, if_true]
      rfl
    rw [zan, hstep]
    by_cases h1 : ((Utf8.decode (ba l) i).1 : Int) = 95
    · right; rw [if_pos h1]; exact ⟨rfl, _, hmem, .inl (zmP l i hlt (c := 95) (by decide) h1)⟩
    · rw [if_neg h1]
      by_cases h2 : ((Utf8.decode (ba l) i).1 : Int) = 43
      · right; rw [if_pos h2]; exact ⟨rfl, _, hmem, .inr (.inl (zmP l i hlt (c := 43) (by decide) h2))⟩
      · rw [if_neg h2]
        by_cases h3 : ((Utf8.decode (ba l) i).1 : Int) = 45
        · right; rw [if_pos h3]; exact ⟨rfl, _, hmem, .inr (.inr (zmP l i hlt (c := 45) (by decide) h3))⟩
        · rw [if_neg h3]
          exact ih (l.length - (i + (Utf8.decode (ba l) i).2)) (by omega) (i + (Utf8.decode (ba l) i).2) rfl d2
theorem numP_eq (l : List UInt8) : numP l = if l.take 2 = [48, 120] then numB 16 (l.drop 2) else numB 10 l := by
  unfold numP numB
  match l with
  | [] => rfl
  | [a] => simp
  | a :: b :: r =>
    simp only [List.getElem?_cons_zero, List.getElem?_cons_succ, List.take_succ_cons, List.take_zero, qd1, qd0, List.length_cons, Option.some.injEq, List.cons.injEq, and_true]
    by_cases h : a = 48 ∧ b = 120
    · rw [if_pos h, if_pos h]
      by_cases hr : r = []
      · subst hr; rfl
      · rw [if_neg hr, if_neg (fun e => hr (List.length_eq_zero_iff.1 (by omega)))]
    · rw [if_neg h, if_neg h, if_neg (by omega), if_neg (by simp)]
theorem zn1 (l : List UInt8) (hl : l.length ≤ 2 ^ 40) (H : Hp) (hL : Laid H) : ∃ H', RR F.a15 [str l] H = some (numV (numP l), H') ∧ Frm (fun _ => False) H H' := by
  have hrun := (zkg E0 rfl (str l) H)
  rw [zkr, zah (c_cutp l H)] at hrun
  have tail : ∀ (d : List UInt8) (base : Nat), (base = 10 ∨ base = 16) → d.length ≤ 2 ^ 40 → ∃ H', (zi6 (str d) fun s10 =>
      zav (zaG (za6 RR) [(.tuple #[.string s10, .int .i64 (0 : Nat)])] H) fun q19 l20 H21 => zaD q19 none
      (fun i22 => zaA i22 0 (
      zae RR F.a37 [str d, (.int .i64 (base : Int)), (.int .i64 64)] H21 fun r23 H24 =>
      zac r23 0 fun v25 =>
      zac r23 1 fun v26 =>
      zeD PP .neq T.error v26 fun v27 =>
      zaa v27 fun b28 => br b28
      (some ((.tuple #[(.int .u64 0), (.int .i64 10)]), H24))
      (some ((.tuple #[v25, (.int .i64 0)]), H24))) (
      none))
      (some ((l20.headD undef), H21))) = some (numV (numB base d), H') ∧ Frm (fun _ => False) H H' := by
    intro d base hb hd
    have e : ∀ (k : ByteArray → Option (Value × Hp)), zi6 (str d) k = k (ba d) := fun k => rfl
    rw [e]
    rcases sign_loop d hd H d.length 0 rfl (Nat.zero_le _) with h | ⟨h, b, hm, hs⟩
    · have h : zaG (za6 RR) [(.tuple #[.string (ba d), .int .i64 (0 : Nat)])] H = _ := h
      obtain ⟨r, H', h1, h2, h3⟩ := c_parse d hd base hb H hL
      refine ⟨H', ?_, h2⟩
      rw [h, zaq, zbk, zaI, zah h1]
      cases hn : numB base d with
      | some x =>
        rw [hn] at h3
        subst h3
        rfl
      | none =>
        rw [hn] at h3
        obtain ⟨u, t, v, rfl⟩ := h3
        rfl
    · have h : zaG (za6 RR) [(.tuple #[.string (ba d), .int .i64 (0 : Nat)])] H = _ := h
      refine ⟨H, ?_, Frm.refl _ _⟩
      rw [h, zaq, zeb]
      have : numB base d = none := by
        unfold numB
        rw [if_neg (fun e => by subst e; cases hm)]
        exact znG base d 0 ⟨b, hm, sign_bad hb hs⟩
      rw [this]
      rfl
  rw [numP_eq]
  by_cases h : l.take 2 = [48, 120]
  · obtain ⟨H', h1, h2⟩ := tail (l.drop 2) 16 (.inr rfl) (by rw [List.length_drop]; omega)
    refine ⟨H', hrun.trans ?_, h2⟩
    rw [if_pos h, if_pos h, x01]
    exact h1
  · obtain ⟨H', h1, h2⟩ := tail l 10 (.inl rfl) hl
    refine ⟨H', hrun.trans ?_, h2⟩
    rw [if_neg h, if_neg h, x01]
    exact h1
end Go.AM
namespace Go.AM
open Go
theorem zbu {h : zad} {g : FuncId} {args : List Value} {H : Hp} {v : Value} {H' : Hp} (e : h g args H = some (W1 v, H')) {α : Type} (kp k : Value → Hp → Option α) : za7 h g args H kp k = k v H' := by
  unfold za7; rw [e]; rfl
theorem zbv {h : zad} {g : FuncId} {args : List Value} {H : Hp} {v : Value} {H' : Hp} (e : h g args H = some (W0 v, H')) {α : Type} (kp k : Value → Hp → Option α) : za7 h g args H kp k = kp v H' := by
  unfold za7; rw [e]; rfl
theorem zmm {h : zad} {g : FuncId} {args : List Value} {H : Hp} {v : Value} {H' : Hp} (e : h g args H = some (W1 v, H')) {α : Type} (k : Value → Hp → Option α) : zdN h g args H k = k v H' := by
  unfold zdN; rw [e]; rfl
structure RdS (H : Hp) (p : Nat) (sp wv tv : Value) (ws : List (List UInt8)) : Prop where
  rd : H.get p = some (.cells [sp, wv, tv] true)
  wd : Wds H wv ws
  wp : ¬ Id wv p
  pl : p < H.next
  sh : ∀ w ∈ ws, w.length ≤ 2 ^ 40
theorem RdS.keep {H H' : Hp} {p : Nat} {sp wv tv : Value} {ws : List (List UInt8)} {M : Nat → Prop} (h : RdS H p sp wv tv ws) (k : Frm M H H') (hp : ¬ M p) (hw : ∀ j, Id wv j → ¬ M j) : RdS H' p sp wv tv ws :=
  ⟨by rw [k.same p h.pl hp]; exact h.rd, h.wd.keep k hw, h.wp, Nat.lt_of_lt_of_le h.pl k.next, h.sh⟩
theorem RdS.next {H : Hp} {p : Nat} {sp wv tv : Value} {w : List UInt8} {ws : List (List UInt8)} (h : RdS H p sp wv tv (w :: ws)) :
    ∃ H' wv', RR F.a3 [.pointer (some ⟨p, 0, none⟩)] H = some (W1 (str w), H') ∧ RdS H' p sp wv' tv ws ∧ (∀ j, Id wv' j → Id wv j) ∧ Frm (· = p) H H' := by
  obtain ⟨H', wv', h1, h2, h3, h4, h5, h6⟩ := next_some h.rd h.wd h.wp
  exact ⟨H', wv', h1, ⟨h2, h3, fun q => h.wp (h4 p q), by rw [h6]; exact h.pl, fun x hx => h.sh x (List.mem_cons_of_mem _ hx)⟩, h4, h5⟩
theorem RdS.stop {H : Hp} {p : Nat} {sp wv tv : Value} (h : RdS H p sp wv tv []) : RR F.a3 [.pointer (some ⟨p, 0, none⟩)] H = some (W0 (zbY 3), H) := next_none h.rd h.wd
def numF (ws : List (List UInt8)) : Option Int := match ws with
  | [] => none
  | w :: _ => if zbj w < 0 then none else some (zbj w)
def RdA (H : Hp) (p : Nat) (sp wv tv : Value) (ws : List (List UInt8)) (f : FuncId) (r : Option Int) : Prop :=
  match r with
  | none => ∃ H', RR f [.pointer (some ⟨p, 0, none⟩)] H = some (W0 (zbY 3), H') ∧ Frm (· = p) H H'
  | some v => ∃ H' wv', RR f [.pointer (some ⟨p, 0, none⟩)] H = some (W1 (.int .i64 v), H') ∧ RdS H' p sp wv' tv ws.tail ∧ (∀ j, Id wv' j → Id wv j) ∧ Frm (· = p) H H'
theorem zcI (w : List UInt8) : zbj w = match numP w with | some x => if x < 2147483648 then (x : Int) else -1 | none => -1 := rfl
theorem RdS.number {H : Hp} {p : Nat} {sp wv tv : Value} {ws : List (List UInt8)} (h : RdS H p sp wv tv ws) (hL : Laid H) (hp : PP.globals.size ≤ p) : RdA H p sp wv tv ws F.a2 (numF ws) := by
  have hrun := zfl E0 rfl (.pointer (some ⟨p, 0, none⟩)) H
  unfold zc4 at hrun
  cases ws with
  | nil =>
    rw [zbv h.stop] at hrun
    exact ⟨H, hrun, Frm.refl _ _⟩
  | cons w ws =>
    obtain ⟨H1, wv', h1, h2, h3, h4⟩ := h.next
    have hL1 : Laid H1 := hL.keep h4 fun j q => by rw [q]; exact hp
    obtain ⟨H2, g1, g2⟩ := zn1 w (h.sh w (List.mem_cons_self ..)) H1 hL1
    have h5 : RdS H2 p sp wv' tv ws := h2.keep g2 (fun q => q) fun _ _ q => q
    have hf : Frm (· = p) H H2 := h4.trans (g2.mono fun j q => q.elim) fun j q => .inl q
    rw [zbu h1, zah g1] at hrun
    unfold numF
    dsimp only
    cases hn : numP w with
    | none =>
      rw [hn] at hrun
      have hs : zbj w = -1 := by rw [zcI, hn]
      rw [hs, if_pos (by decide)]
      refine ⟨H2, hrun.trans ?_, hf⟩
      have e0 : ∀ {α : Type} (k : Value → Option α), zac (numV none) 0 k = k (.int .u64 0) := fun k => rfl
      have e1 : ∀ {α : Type} (k : Value → Option α), zac (numV none) 1 k = k (.int .i64 10) := fun k => rfl
      simp only [e0, e1, zec, zaf, s_br, zbW, show ((10 : Int) ≠ 0) from by decide, decide_true, if_true, ne_eq, not_false_eq_true]
    | some x =>
      rw [hn] at hrun
      have e0 : ∀ {α : Type} (k : Value → Option α), zac (numV (some x)) 0 k = k (.int .u64 (x : Int)) := fun k => rfl
      have e1 : ∀ {α : Type} (k : Value → Option α), zac (numV (some x)) 1 k = k (.int .i64 0) := fun k => rfl
      have hz : ¬ ((0 : Int) ≠ 0) := by decide
      by_cases hx : x < 2147483648
      · have hs : zbj w = (x : Int) := by rw [zcI, hn]; exact if_pos hx
        rw [hs, if_neg (by omega)]
        have hx' : ¬ ((x : Int) ≥ 2147483648) := by omega
        have hc : ∀ {α : Type} (k : Value → Option α), zal .i64 (.int .u64 (x : Int)) k = k (.int .i64 (x : Int)) := fun k => by
          show k (.int .i64 (IntKind.i64.wrap (x : Int))) = _
          rw [w64 (by omega) (by omega)]
        refine ⟨H2, wv', hrun.trans ?_, h5, h3, hf⟩
        simp only [e0, e1, zec, zaf, s_br, hz, decide_false, Bool.false_eq_true, if_false, zcb, hx', hc]
      · have hs : zbj w = -1 := by rw [zcI, hn]; exact if_neg hx
        rw [hs, if_pos (by decide)]
        have hx' : ((x : Int) ≥ 2147483648) := by omega
        refine ⟨H2, hrun.trans ?_, hf⟩
        simp only [e0, e1, zec, zaf, s_br, hz, decide_false, decide_true, Bool.false_eq_true, if_false, if_true, zcb, hx', zbW]
theorem smallV_bd (w : List UInt8) : zbj w = -1 ∨ (0 ≤ zbj w ∧ zbj w < 2147483648) := by
  rw [zcI]
  cases numP w with
  | none => exact .inl rfl
  | some x =>
    dsimp only
    split
    · right; omega
    · exact .inl rfl
theorem numF_bd {ws : List (List UInt8)} {v : Int} (h : numF ws = some v) : 0 ≤ v ∧ v < 2147483648 := by
  cases ws with
  | nil => cases h
  | cons w ws =>
    unfold numF at h
    dsimp only at h
    split at h
    · cases h
    · cases h
      have := smallV_bd w
      omega
def zlg (ts : List Int) (ws : List (List UInt8)) : Option Int := match numF ws with
  | none => none
  | some v => if 1 ≤ v ∧ v ≤ ts.length then some (ts.getD (v - 1).toNat 0) else none
def i64s (l : List Int) : List Value := l.map fun z => Value.int .i64 z
theorem RdS.part {H : Hp} {p : Nat} {sp wv tv : Value} {ws : List (List UInt8)} {ts : List Int} (h : RdS H p sp wv tv ws) (hL : Laid H) (hp : PP.globals.size ≤ p) (ht : Vec H 1 tv ts.length (i64s ts)) (htp : ¬ Id tv p) : RdA H p sp wv tv ws F.a48 (zlg ts ws) := by
  have hrun := zge E0 rfl (.pointer (some ⟨p, 0, none⟩)) H
  unfold zdR at hrun
  have hn := h.number hL hp
  unfold zlg
  cases hf : numF ws with
  | none =>
    rw [hf] at hn
    obtain ⟨H', h1, h2⟩ := hn
    rw [zbv h1] at hrun
    exact ⟨H', hrun, h2⟩
  | some v =>
    rw [hf] at hn
    obtain ⟨H', wv', h1, h2, h3, h4⟩ := hn
    have hb := numF_bd hf
    rw [zbu h1] at hrun
    have ht' : Vec H' 1 tv ts.length (i64s ts) := ht.keep h4 fun j hj q => htp (by rw [q] at hj; exact hj)
    have hl := fun (α : Type) (k : Value → Option α) => zbe h2.rd (0 + 2) tv rfl k
    dsimp only
    by_cases hv : 1 ≤ v ∧ v ≤ ts.length
    · rw [if_pos hv]
      have e1 : ¬ (v < 1) := by omega
      have e2 : ¬ (v > (ts.length : Int)) := by omega
      have e3 : IntKind.i64.wrap (v - 1) = (((v - 1).toNat : Nat) : Int) := by rw [w64 (by omega) (by omega)]; omega
      have hi : (v - 1).toNat < ts.length := by omega
      obtain ⟨y, hy, ⟨rest, hg⟩, hix⟩ := ht'.ix hi
      refine ⟨H', wv', hrun.trans ?_, h2, h3, h4⟩
      have hld := fun (α : Type) (k : Value → Option α) => zbe hg ((v - 1).toNat * 1) (.int .i64 (ts.getD (v - 1).toNat 0)) (by
        rw [Nat.mul_one, List.getElem?_append_left (by simpa [i64s] using hi)]
        rw [i64s, List.getElem?_map, List.getD_eq_getElem?_getD, List.getElem?_eq_getElem hi]; rfl) k
      simp only [zaY, zaf, s_br, e1, decide_false, Bool.false_eq_true, if_false, zbm, zaE, hl, ht'.len, zca, e2, zd4, e3, hix, hld]
    · rw [if_neg hv]
      refine ⟨H', hrun.trans ?_, h4⟩
      by_cases e1 : v < 1
      · simp only [zaY, zaf, s_br, e1, decide_true, if_true, zbW]
      · have e2 : (v > (ts.length : Int)) := by omega
        simp only [zaY, zaf, s_br, e1, decide_false, decide_true, Bool.false_eq_true, if_false, if_true, zbm, zaE, hl, ht'.len, zca, e2, zbW]
end Go.AM
namespace Go.AM
open Go
section
variable {α : Type}
theorem sl_arr {H : Hp} {a n sz i j : Nat} {cs : List Value} (hg : H.get a = some (.cells cs true)) (hn : n * sz ≤ cs.length) (hi : i ≤ j) (hj : j ≤ n) {lo hi' : Option Value} (hlo : zcp 0 lo = some (i : Int)) (hhi : zcp n hi' = some (j : Int)) (k : Value → Option α) :
    zbU n sz (.pointer (some ⟨a, 0, none⟩)) lo hi' H k = k (.slice (some ⟨a, i * sz, some sz⟩) (j - i) (n - i)) := by
  have : zhU n sz (.pointer (some ⟨a, 0, none⟩)) lo hi' H = some (.slice (some ⟨a, i * sz, some sz⟩) (j - i) (n - i)) := by
    unfold zhU
    dsimp only
    rw [hg]
    dsimp only
    rw [hlo, hhi]
    dsimp only
    rw [if_pos ⟨by omega, by omega, by omega, by omega⟩]
    have e1 : ((j : Int) - (i : Int)).toNat = j - i := by omega
    rw [e1, Int.toNat_natCast, Nat.zero_add]
  unfold zbU; rw [this]
theorem zjS : ∀ l : List UInt8, zf3 (bv l) = some l
  | [] => rfl
  | b :: l => by
    show (match zf3 (bv l) with | some l => some (UInt8.ofNat ((b.toNat : Int)).toNat :: l) | none => none) = _
    rw [zjS l]
    simp
theorem to_str {H : Hp} {a i n c : Nat} {l : List UInt8} {own : Bool} (hg : H.get a = some (.cells (bv l) own)) (hn : i + n ≤ l.length) (k : Value → Option α) :
    zdM (.slice (some ⟨a, i, some 1⟩) n c) H k = k (.string (ba ((l.drop i).take n))) := by
  have hs : zbi 1 (.slice (some ⟨a, i, some 1⟩) n c) H = some (n, bv ((l.drop i).take n)) := by
    unfold zbi
    dsimp only
    rw [if_pos rfl, hg]
    dsimp only
    rw [if_pos (by rw [zgB]; omega), Nat.mul_one]
    congr 2
    unfold bv
    rw [List.map_take, List.map_drop]
  have : zkP (.slice (some ⟨a, i, some 1⟩) n c) H = some (.string (ba ((l.drop i).take n))) := by
    unfold zkP
    dsimp only
    rw [hs]
    dsimp only
    rw [zjS]
  unfold zdM; rw [this]
theorem zks {a o n c i : Nat} (h : i < n) (k : Value → Option α) : pIdx 1 (.slice (some ⟨a, o, some 1⟩) n c) (.int .i64 (i : Int)) k = k (.pointer (some ⟨a, o + i, none⟩)) := by
  have : idxV 1 (.slice (some ⟨a, o, some 1⟩) n c) (.int .i64 (i : Int)) = some (.pointer (some ⟨a, o + i, none⟩)) := by
    unfold idxV
    dsimp only
    rw [if_pos ⟨rfl, by omega, by omega⟩, Int.toNat_natCast, Nat.mul_one]
  unfold pIdx; rw [this]
end
theorem dig_dec {d : Nat} (h : d < 10) : (dig d).toNat = 48 + d := by
  unfold dig
  rw [if_pos h]
  simp [UInt8.toNat_ofNat]; omega
theorem c_base10 {H : Hp} {a : Nat} {l : List UInt8} (hg : H.get a = some (.cells (bv l) true)) (hl : l.length = 24) {x : Nat} (h0 : 100 ≤ x) (h1 : x < 1000) :
    ∃ r H', RR F.a22 [.slice (some ⟨a, 0, some 1⟩) 3 24, .int .u64 (x : Int)] H = some (r, H') ∧ H'.get a = some (.cells (bv (((l.set 2 (dig (x % 100 % 10))).set 1 (dig (x % 100 / 10))).set 0 (dig (x / 100)))) true) ∧ H'.next = H.next ∧ H'.ty = H.ty ∧ ∀ k, k ≠ a → H'.get k = H.get k := by
  have hd : x % 100 < 100 := Nat.mod_lt _ (by decide)
  obtain ⟨p1, p2, _⟩ := zkR hd
  have hr := (zcy E0 rfl (.slice (some ⟨a, 0, some 1⟩) 3 24) (.int .u64 (x : Int)) H).trans (zcB _ _ _ _)
  have hloop : zaG (zaP RR (.slice (some ⟨a, 0, some 1⟩) 3 24)) [.int .u64 (x : Int), .int .i64 3] H = some (.exit 0, [.int .u64 (x : Int), .int .i64 3], H) := by
    rw [zan]
    have : zaP RR (.slice (some ⟨a, 0, some 1⟩) 3 24) [.int .u64 (x : Int), .int .i64 3] H = some (.exit 0, [.int .u64 (x : Int), .int .i64 3], H) := by
      unfold zaP
      simp only [qg0, qg1]
      rw [zcb, zaf, s_br, if_neg (by decide)]
    rw [this]; rfl
  have hlen : pLen (α := Value × Hp) .sl (.slice (some ⟨a, 0, some 1⟩) 3 24) H = fun k => k (.int .i64 3) := rfl
  rw [hlen] at hr
  dsimp only at hr
  rw [hloop, zaq, zbk, zaI] at hr
  simp only [qg0, qg1] at hr
  have n2 : ∀ (T : TypeId) {α : Type} (k : Value → Option α), pBin PP .sub T (.int .i64 3) (.int .i64 1) k = k (.int .i64 ((2 : Nat) : Int)) := fun T _ k => rfl
  have n1 : ∀ (T : TypeId) {α : Type} (k : Value → Option α), pBin PP .sub T (.int .i64 3) (.int .i64 2) k = k (.int .i64 ((1 : Nat) : Int)) := fun T _ k => rfl
  rw [zjl, q_u32 (by omega) (by omega), zcb, zaf, s_br, if_neg (by decide), zaq, zaV] at hr
  simp only [qg0, qg1] at hr
  rw [zcb, zaf, s_br, if_pos (by decide), show (Value.int .u32 100) = .int .u32 ((100 : Nat) : Int) from rfl, q_rem _ _ _ _ (by decide), show (Value.int .u32 2) = .int .u32 ((2 : Nat) : Int) from rfl, t_mul _ _ _ (by omega), t_quo _ _ _ (by decide) (by omega), n2, n1,
    show (Value.int .u32 1) = .int .u32 ((1 : Nat) : Int) from rfl, t_add _ _ _ (by omega)] at hr
  have q1 := f_at zdr .u32 _ _ p2 (α := Value × Hp)
  have q2 := f_at zdr .u32 _ _ p1 (α := Value × Hp)
  unfold zdr at q1 q2
  rw [q1, q2, zks (by decide), Nat.zero_add, zhR hg (by omega), zks (by decide), Nat.zero_add] at hr
  have hg2 : (H.set a (some (.cells (bv (l.set 2 (dig (x % 100 % 10)))) true))).get a = some (.cells (bv (l.set 2 (dig (x % 100 % 10)))) true) := by rw [Hp.get_set, if_pos rfl]
  rw [zhR hg2 (by simp; omega)] at hr
  have hg3 : ((H.set a (some (.cells (bv (l.set 2 (dig (x % 100 % 10)))) true))).set a (some (.cells (bv ((l.set 2 (dig (x % 100 % 10))).set 1 (dig (x % 100 / 10)))) true))).get a = some (.cells (bv ((l.set 2 (dig (x % 100 % 10))).set 1 (dig (x % 100 / 10)))) true) := by rw [Hp.get_set, if_pos rfl]
  have hq : x / 100 < 10 := by omega
  rw [n1, zca, zaf, s_br, if_pos (by decide), show (Value.int .u32 48) = .int .u32 ((48 : Nat) : Int) from rfl, t_add _ _ _ (by omega), zjl, q_u8 (by omega) (by omega), ← dig_dec hq,
    show (Value.int .i64 0) = .int .i64 ((0 : Nat) : Int) from rfl, zks (by decide), Nat.zero_add, zhR hg3 (by simp; omega)] at hr
  refine ⟨_, _, hr, ?_, rfl, rfl, fun k hk => ?_⟩
  · rw [Hp.get_set, if_pos rfl]
  · rw [Hp.get_set, if_neg hk, Hp.get_set, if_neg hk, Hp.get_set, if_neg hk]
structure New (H H' : Hp) : Prop where
  next : H.next ≤ H'.next
  get : ∀ k, k < H.next → H'.get k = H.get k
  ty : ∀ k, k < H.next → H'.ty k = H.ty k
theorem New.refl (H : Hp) : New H H := ⟨Nat.le_refl _, fun _ _ => rfl, fun _ _ => rfl⟩
theorem new_new (H : Hp) (o : AObj) : New H (H.new o) := ⟨Nat.le_succ _, fun k hk => by rw [get_new, if_neg (by omega)], fun _ _ => rfl⟩
theorem Tabs.new {H H' : Hp} (h : Tabs H) (k : New H H') (hn : PP.globals.size ≤ H.next) : Tabs H' := by
  have e : ∀ g, g < PP.globals.size → H'.get g = H.get g := fun g hg => k.get g (by omega)
  exact ⟨by rw [e _ (by rw [zfp]; decide)]; exact h.pow, by rw [e _ (by rw [zfp]; decide)]; exact h.spc, by rw [e _ (by rw [zfp]; decide)]; exact h.bru⟩
theorem c_fmt10 {H : Hp} (hT : Tabs H) (hn : PP.globals.size ≤ H.next) {x : Nat} (h1 : x < 1000) : ∃ H', RR F.a23 [.int .u64 (x : Int), .int .i64 10] H = some (.string (ba (dgt 10 x)), H') ∧ New H H' := by
  have key : ∃ H', RR F.a32 [.int .u64 (x : Int), .int .i64 10] H = some (.string (ba (dgt 10 x)), H') ∧ New H H' := by
    have hr := zbE E0 rfl (.int .u64 (x : Int)) (.int .i64 10) H
    unfold zba at hr
    rw [za4, zaf, s_br, if_pos (by decide), zaY, zaf, s_br] at hr
    by_cases h : x < 100
    · rw [if_pos (by simp; omega), zjl, zhq (by omega) (by omega), zah (c_small h H)] at hr
      exact ⟨H, hr, New.refl _⟩
    · rw [if_neg (by simp; omega)] at hr
      have ha : ∀ {α : Type} (k : Value → Hp → Option α), zdx [.int .u8 0, .int .u8 0, .int .u8 0, .int .u8 0, .int .u8 0, .int .u8 0, .int .u8 0, .int .u8 0, .int .u8 0, .int .u8 0, .int .u8 0, .int .u8 0, .int .u8 0, .int .u8 0, .int .u8 0, .int .u8 0, .int .u8 0, .int .u8 0, .int .u8 0, .int .u8 0, .int .u8 0, .int .u8 0, .int .u8 0, .int .u8 0] H k = k (.pointer (some ⟨H.next, 0, none⟩)) (H.new (.cells (bv (List.replicate 24 0)) true)) := fun k => rfl
      have hg : (H.new (.cells (bv (List.replicate 24 0)) true)).get H.next = some (.cells (bv (List.replicate 24 0)) true) := by rw [get_new, if_pos rfl]
      have hT1 := hT.new (new_new H (.cells (bv (List.replicate 24 0)) true)) hn
      obtain ⟨r, H2, e2, g2, n2, y2, f2⟩ := c_base10 hg (by simp) (show 100 ≤ x by omega) h1
      rw [ha, zah (zmU hT1 (by omega) h1), sl_arr hg (i := 0) (j := 3) (by rw [zgB]; simp) (by decide) (by decide) rfl rfl] at hr
      have e2' : RR F.a22 [.slice (some ⟨H.next, 0 * 1, some 1⟩) (3 - 0) (24 - 0), .int .u64 (x : Int)] (H.new (.cells (bv (List.replicate 24 0)) true)) = some (r, H2) := e2
      rw [zah e2', sl_arr g2 (i := 0) (j := 3) (by rw [zgB]; simp) (by decide) (by decide) rfl rfl, to_str g2 (by simp)] at hr
      refine ⟨H2, hr.trans ?_, ⟨by rw [n2]; exact Nat.le_succ _, fun k hk => by rw [f2 k (by omega), get_new, if_neg (by omega)], fun k hk => by rw [y2]; rfl⟩⟩
      have e3 : dgt 10 x = [dig (x / 100), dig (x % 100 / 10), dig (x % 100 % 10)] := by
        rw [zfC (by decide) (by omega), zfC (by decide) (show 10 ≤ x / 10 by omega), zfB (show x / 10 / 10 < 10 by omega)]
        rw [show x / 10 / 10 = x / 100 by omega, show x / 10 % 10 = x % 100 / 10 by omega, show x % 100 % 10 = x % 10 by omega]; rfl
      rw [e3]; rfl
  obtain ⟨H', e, f⟩ := key
  exact ⟨H', (zc1 E0 rfl _ _ _).trans (by unfold zb1; rw [zah e]), f⟩
end Go.AM
namespace Go.AM
open Go
theorem zmZ {u : Nat} (h : u < 18446744073709551616) : Value.int .u64 (u : Int) = wv (BitVec.ofNat 64 u) := by
  unfold wv
  rw [BitVec.toNat_ofNat, Nat.mod_eq_of_lt h]
theorem and15 {α : Type} (T : TypeId) {u : Nat} (h : u < 18446744073709551616) (k : Value → Option α) : pBin PP .and T (.int .u64 (u : Int)) (.int .u64 15) k = k (.int .u64 ((u % 16 : Nat) : Int)) := by
  have e : (BitVec.ofNat 64 u &&& 15#64) = BitVec.ofNat 64 (u % 16) := BitVec.eq_of_toNat_eq (by
    rw [BitVec.toNat_and]
    simp only [BitVec.toNat_ofNat]
    rw [Nat.mod_eq_of_lt h, Nat.mod_eq_of_lt (show u % 16 < 2 ^ 64 by omega), show 15 % 2 ^ 64 = 15 from rfl]
    exact Nat.and_two_pow_sub_one_eq_mod u 4)
  rw [zmZ h, show (Value.int .u64 15) = wv 15#64 from rfl, b_and, e, ← zmZ (by omega)]
theorem shr4 {α : Type} (T : TypeId) {u : Nat} (h : u < 18446744073709551616) (k : Value → Option α) : pBin PP .shr T (.int .u64 (u : Int)) (.int .u64 4) k = k (.int .u64 ((u / 16 : Nat) : Int)) := by
  have e : (BitVec.ofNat 64 u) >>> 4 = BitVec.ofNat 64 (u / 16) := BitVec.eq_of_toNat_eq (by
    rw [zj8, BitVec.toNat_ofNat, BitVec.toNat_ofNat, Nat.mod_eq_of_lt h, Nat.mod_eq_of_lt (show u / 16 < 2 ^ 64 by omega)])
  rw [zmZ h, show (Value.int .u64 4) = .int .u64 ((4 : Nat) : Int) from rfl, b_shr, e, ← zmZ (by omega)]
theorem znd {l : List UInt8} {i : Nat} (hi : i < l.length) (d : UInt8) : (l.set i d).drop i = d :: l.drop (i + 1) := by
  apply List.ext_getElem?
  intro j
  rw [List.getElem?_drop, List.getElem?_set]
  cases j with
  | zero => simp [hi]
  | succ j => rw [if_neg (by omega), List.getElem?_cons_succ, List.getElem?_drop]; congr 1; omega
theorem fb_loop {A : Nat} {g : List UInt8} : ∀ (n u i : Nat) (l : List UInt8) (H : Hp), u < 16 ^ n → 0 < n → u < 18446744073709551616 → n ≤ i → i ≤ 65 → l.length = 65 → H.get A = some (.cells (bv l) true) → dgt 16 u ++ l.drop i = g →
    ∃ u' i' l' H', zaG (zas RR (.int .u64 4) (.int .u64 16) (.int .u64 15) (.pointer (some ⟨A, 0, none⟩))) [.int .u64 (u : Int), .int .i64 (i : Int)] H = some (.exit 0, [.int .u64 (u' : Nat), .int .i64 ((i' : Nat) : Int)], H') ∧
      u' < 16 ∧ 1 ≤ i' ∧ i' ≤ 65 ∧ l'.length = 65 ∧ H'.get A = some (.cells (bv l') true) ∧ [dig u'] ++ l'.drop i' = g ∧ H'.next = H.next ∧ H'.ty = H.ty ∧ ∀ k, k ≠ A → H'.get k = H.get k
  | 0, u, i, l, H, h, h0, _, _, _, _, _, _ => by omega
  | n + 1, u, i, l, H, h, _, hu, hni, hi, hl, hg, hd => by
    rw [zan]
    by_cases hb : u < 16
    · have : zas RR (.int .u64 4) (.int .u64 16) (.int .u64 15) (.pointer (some ⟨A, 0, none⟩)) [.int .u64 (u : Int), .int .i64 (i : Int)] H = some (.exit 0, [.int .u64 (u : Int), .int .i64 (i : Int)], H) := by
        unfold zas
        simp only [qg0, qg1]
        rw [zcb, zaf, s_br, if_neg (by simp; omega)]
      rw [this]
      rw [zfB hb] at hd
      exact ⟨u, i, l, H, rfl, hb, by omega, hi, hl, hg, hd, rfl, rfl, fun _ _ => rfl⟩
    · have hm : u % 16 < 36 := by omega
      have q1 := f_at zfA .u64 _ _ (zkz hm).1 (α := Outc)
      unfold zfA at q1
      have : zas RR (.int .u64 4) (.int .u64 16) (.int .u64 15) (.pointer (some ⟨A, 0, none⟩)) [.int .u64 (u : Int), .int .i64 (i : Int)] H = some (.next, [.int .u64 ((u / 16 : Nat) : Int), .int .i64 ((i - 1 : Nat) : Int)], H.set A (some (.cells (bv (l.set (i - 1) (dig (u % 16)))) true))) := by
        unfold zas
        simp only [qg0, qg1]
        rw [zcb, zaf, s_br, if_pos (by simp; omega), show (Value.int .i64 1) = .int .i64 ((1 : Nat) : Int) from rfl, i_sub _ _ _ (by omega) (by omega), and15 _ hu, q1, ziB (by omega), Nat.zero_add, Nat.mul_one, zhR hg (by omega), shr4 _ hu]
      rw [this]
      have hn : 0 < n := by
        rcases Nat.eq_zero_or_pos n with q | q
        · subst q; simp at h; omega
        · exact q
      have hlt : u / 16 < 16 ^ n := Nat.div_lt_of_lt_mul (by rw [Nat.pow_succ, Nat.mul_comm] at h; exact h)
      obtain ⟨u', i', l', H', e, f1, f2, f3, f4, f5, f6, f7, f8, f9⟩ := fb_loop (g := g) n (u / 16) (i - 1) (l.set (i - 1) (dig (u % 16))) (H.set A (some (.cells (bv (l.set (i - 1) (dig (u % 16)))) true))) hlt hn (by omega) (by omega) (by omega) (by simp [hl]) (by rw [Hp.get_set, if_pos rfl])
        (by rw [znd (by omega), show i - 1 + 1 = i by omega, ← hd, zfC (by decide) (show 16 ≤ u by omega), List.append_assoc]; rfl)
      exact ⟨u', i', l', H', e, f1, f2, f3, f4, f5, f6, f7, f8, fun k hk => by rw [f9 k hk, Hp.get_set, if_neg hk]⟩
theorem c_tz {H : Hp} (hT : Tabs H) : RR F.a51 [.int .u64 16] H = some (.int .i64 4, H) := by
  obtain ⟨cs, e, fz, hg, hc⟩ := hT.bru
  have h64 : RR F.a52 [.int .u64 16] H = some (.int .i64 4, H) := by
    refine (zeL E0 rfl _ _).trans ?_
    have hx : zcq RR (.int .u64 16) H = (zb0 64 1 (.pointer (some ⟨G.bits_deBruijn64tab, 0, none⟩)) (.int .u64 15) fun p7 => zaj 1 false H p7 fun v8 => zal .i64 v8 fun v9 => some (v9, H)) := by kernel_rfl
    rw [hx, show (Value.int .u64 15) = .int .u64 ((15 : Nat) : Int) from rfl, ziB (by decide), ld_fix hg hc]
    rfl
  refine (zfn E0 rfl _ _).trans ?_
  unfold zc6
  rw [zah h64]
theorem c_bits16 {H : Hp} (hT : Tabs H) (hn : PP.globals.size ≤ H.next) {x : Nat} (hx : x < 18446744073709551616) : ∃ H', RR F.a33 [.slice none 0 0, .int .u64 (x : Int), .int .i64 16, .bool false, .bool false] H = some (.tuple #[.slice none 0 0, .string (ba (dgt 16 x))], H') ∧ New H H' := by
  have hr := (zcV E0 rfl (.slice none 0 0) (.int .u64 (x : Int)) (.int .i64 16) (.bool false) (.bool false) H).trans (zcW _ _ _ _ _ _ _)
  rw [zaY, zaf, s_br, if_neg (by decide), za4, zaf, s_br, if_neg (by decide), zca, zaf, s_br, if_neg (by decide), zaq, zaV] at hr
  have ha : ∀ {α : Type} (k : Value → Hp → Option α), zdx [.int .u8 0, .int .u8 0, .int .u8 0, .int .u8 0, .int .u8 0, .int .u8 0, .int .u8 0, .int .u8 0, .int .u8 0, .int .u8 0, .int .u8 0, .int .u8 0, .int .u8 0, .int .u8 0, .int .u8 0, .int .u8 0, .int .u8 0, .int .u8 0, .int .u8 0, .int .u8 0, .int .u8 0, .int .u8 0, .int .u8 0, .int .u8 0, .int .u8 0, .int .u8 0, .int .u8 0, .int .u8 0, .int .u8 0, .int .u8 0, .int .u8 0, .int .u8 0, .int .u8 0, .int .u8 0, .int .u8 0, .int .u8 0, .int .u8 0, .int .u8 0, .int .u8 0, .int .u8 0, .int .u8 0, .int .u8 0, .int .u8 0, .int .u8 0, .int .u8 0, .int .u8 0, .int .u8 0, .int .u8 0, .int .u8 0, .int .u8 0, .int .u8 0, .int .u8 0, .int .u8 0, .int .u8 0, .int .u8 0, .int .u8 0, .int .u8 0, .int .u8 0, .int .u8 0, .int .u8 0, .int .u8 0, .int .u8 0, .int .u8 0, .int .u8 0, .int .u8 0] H k = k (.pointer (some ⟨H.next, 0, none⟩)) (H.new (.cells (bv (List.replicate 65 0)) true)) := fun k => rfl
  have hg : (H.new (.cells (bv (List.replicate 65 0)) true)).get H.next = some (.cells (bv (List.replicate 65 0)) true) := by rw [get_new, if_pos rfl]
  have hT1 := hT.new (new_new H (.cells (bv (List.replicate 65 0)) true)) hn
  have hp2 : RR F.a57 [.int .i64 16] (H.new (.cells (bv (List.replicate 65 0)) true)) = some (.bool true, H.new (.cells (bv (List.replicate 65 0)) true)) := (zcx E0 rfl _ _).trans (by kernel_rfl)
  have hc : ∀ {α : Type} (k : Value → Option α), zal .u64 (.int .i64 16) k = k (.int .u64 16) := fun k => rfl
  have hc4 : ∀ {α : Type} (k : Value → Option α), zal .u64 (.int .i64 4) k = k (.int .u64 4) := fun k => rfl
  have hm : ∀ {α : Type} (k : Value → Option α), pBin PP .sub T.uint (.int .u64 16) (.int .u64 1) k = k (.int .u64 15) := fun k => rfl
  obtain ⟨u', i', l', H2, e2, f1, f2, f3, f4, f5, f6, f7, f8, f9⟩ := fb_loop (g := dgt 16 x) 64 x 65 (List.replicate 65 0) _ (by omega) (by decide) hx (by decide) (by decide) (by simp) hg (by simp)
  have e2 : zaG (zas RR (.int .u64 4) (.int .u64 16) (.int .u64 15) (.pointer (some ⟨H.next, 0, none⟩))) [.int .u64 (x : Int), .int .i64 65] (H.new (.cells (bv (List.replicate 65 0)) true)) = _ := e2
  have q1 := f_at zfA .u64 _ _ (zkz (show u' < 36 by omega)).1 (α := Value × Hp)
  unfold zfA at q1
  rw [ha, zaf, q_brf, zaq, zaV, zah hp2, zaf, q_brt, hc, zah (c_tz hT1), hc4, hc, hc, hm] at hr
  simp only [qg0] at hr
  rw [e2, zaq, zbk, zaI] at hr
  simp only [qg0, qg1] at hr
  have hg3 : (H2.set H.next (some (.cells (bv (l'.set (i' - 1) (dig u'))) true))).get H.next = some (.cells (bv (l'.set (i' - 1) (dig u'))) true) := by rw [Hp.get_set, if_pos rfl]
  rw [show (Value.int .i64 1) = .int .i64 ((1 : Nat) : Int) from rfl, i_sub _ _ _ (by omega) (by omega), q1, ziB (by omega), Nat.zero_add, Nat.mul_one, zhR f5 (by omega), zaf, q_brf, zaf, q_brf,
    sl_arr hg3 (i := i' - 1) (j := 65) (by rw [zgB]; simp; omega) (by omega) (by decide) rfl rfl, Nat.mul_one, to_str hg3 (by simp; omega)] at hr
  refine ⟨H2.set H.next (some (.cells (bv (l'.set (i' - 1) (dig u'))) true)), hr.trans ?_, ⟨by show H.next ≤ H2.next; rw [f7]; exact Nat.le_succ _, fun k hk => by rw [Hp.get_set, if_neg (by omega), f9 k (by omega), get_new, if_neg (by omega)], fun k hk => by show H2.ty k = _; rw [f8]; rfl⟩⟩
  rw [znd (by omega), show i' - 1 + 1 = i' by omega, List.take_of_length_le (by simp; omega), ← f6]; rfl
theorem c_fmt16 {H : Hp} (hT : Tabs H) (hn : PP.globals.size ≤ H.next) {x : Nat} (hx : x < 18446744073709551616) : ∃ H', RR F.a23 [.int .u64 (x : Int), .int .i64 16] H = some (.string (ba (dgt 16 x)), H') ∧ New H H' := by
  obtain ⟨H', e, f⟩ := c_bits16 hT hn hx
  have key : RR F.a32 [.int .u64 (x : Int), .int .i64 16] H = some (.string (ba (dgt 16 x)), H') := by
    refine (zbE E0 rfl _ _ _).trans ?_
    unfold zba
    rw [za4, zaf, s_br, if_neg (by decide), zah e, q_ext0, q_ext1]
  exact ⟨H', (zc1 E0 rfl _ _ _).trans (by unfold zb1; rw [zah key]), f⟩
theorem c_text {H : Hp} (hT : Tabs H) (hn : PP.globals.size ≤ H.next) {x : Nat} (hx : x < 18446744073709551616) : ∃ H', RR F.a29 [.int .u64 (x : Int)] H = some (.string (ba (numT x)), H') ∧ New H H' := by
  have hr := zmp E0 rfl (.int .u64 (x : Int)) H
  unfold ziu at hr
  rw [zaY, zaf, s_br] at hr
  unfold numT
  by_cases h : x < 1000
  · obtain ⟨H', e, f⟩ := c_fmt10 hT hn h
    rw [if_pos (by simp; omega), zah e] at hr
    rw [if_pos h]
    exact ⟨H', hr, f⟩
  · obtain ⟨H', e, f⟩ := c_fmt16 hT hn hx
    rw [if_neg (by simp; omega), zah e] at hr
    rw [if_neg h]
    have hl := zkA (b := 16) (by decide) 16 x (by omega) (by decide)
    have hcat : pBin (α := Value × Hp) PP .add T.string (.string ⟨#[48, 120]⟩) (.string (ba (dgt 16 x))) = fun k => k (.string (ba ([48, 120] ++ dgt 16 x))) := funext fun k => zni _ [48, 120] _ (by simp; omega) k
    rw [hcat] at hr
    exact ⟨H', hr, f⟩
end Go.AM
namespace Go.AM
open Go
theorem bld {α : Type} {P : Program} {t : TypeId} {l : List (Nat × Value)} {v : Value} (h : zgC P t l = some v) (k : Value → Option α) : zau P t l k = k v := by unfold zau; rw [h]
section
variable {α : Type} (k : Value → Option α)
theorem b0 (o : Int) : zau PP T.api_Node [(0, .int .i64 o)] k = k (Nd.val ⟨o, 0, 0, 0, 0, 0, ⟨#[]⟩⟩) := bld (by kernel_rfl) k
theorem b015 (o : Int) (w : Int) (x : Int) : zau PP T.api_Node [(0, .int .i64 o), (1, .int .i64 w), (5, .int .u64 x)] k = k (Nd.val ⟨o, w, 0, 0, 0, x, ⟨#[]⟩⟩) := bld (by kernel_rfl) k
theorem b016 (o : Int) (w : Int) (s : ByteArray) : zau PP T.api_Node [(0, .int .i64 o), (1, .int .i64 w), (6, .string s)] k = k (Nd.val ⟨o, w, 0, 0, 0, 0, s⟩) := bld (by kernel_rfl) k
theorem b02 (o : Int) (a : Int) : zau PP T.api_Node [(0, .int .i64 o), (2, .int .i64 a)] k = k (Nd.val ⟨o, 0, a, 0, 0, 0, ⟨#[]⟩⟩) := bld (by kernel_rfl) k
theorem b012 (o : Int) (w : Int) (a : Int) : zau PP T.api_Node [(0, .int .i64 o), (1, .int .i64 w), (2, .int .i64 a)] k = k (Nd.val ⟨o, w, a, 0, 0, 0, ⟨#[]⟩⟩) := bld (by kernel_rfl) k
theorem b023 (o : Int) (a : Int) (b : Int) : zau PP T.api_Node [(0, .int .i64 o), (2, .int .i64 a), (3, .int .i64 b)] k = k (Nd.val ⟨o, 0, a, b, 0, 0, ⟨#[]⟩⟩) := bld (by kernel_rfl) k
theorem b01234 (o : Int) (w : Int) (a : Int) (b : Int) (c : Int) : zau PP T.api_Node [(0, .int .i64 o), (1, .int .i64 w), (2, .int .i64 a), (3, .int .i64 b), (4, .int .i64 c)] k = k (Nd.val ⟨o, w, a, b, c, 0, ⟨#[]⟩⟩) := bld (by kernel_rfl) k
theorem b0125 (o : Int) (w : Int) (a : Int) (x : Int) : zau PP T.api_Node [(0, .int .i64 o), (1, .int .i64 w), (2, .int .i64 a), (5, .int .u64 x)] k = k (Nd.val ⟨o, w, a, 0, 0, x, ⟨#[]⟩⟩) := bld (by kernel_rfl) k
end
abbrev Res := Int × Int × List Nd × List (ByteArray × Int)
def Does (H : Hp) (p : Nat) (lim : Int) (sl : Value) (f g : Nat) (fn : FuncId) (args : List Value) (r : Res) : Prop :=
  ∃ H' sl', RR fn (.pointer (some ⟨p, 0, none⟩) :: args) H = some (.tuple #[.int .i64 r.1, .int .i64 r.2.1], H') ∧ MkOk H p lim sl f g r H' sl'
theorem Does.wrap {H : Hp} {p : Nat} {lim : Int} {sl : Value} {f g : Nat} {fn fm : FuncId} {xs bs : List Value} {r : Res} (h : Does H p lim sl f g fn xs r)
    (e : RR fm (.pointer (some ⟨p, 0, none⟩) :: bs) H = zae RR fn (.pointer (some ⟨p, 0, none⟩) :: xs) H fun r H' => zac r 0 fun a => zac r 1 fun b => some (.tuple #[a, b], H')) : Does H p lim sl f g fm bs r := by
  obtain ⟨H', sl', h1, h2⟩ := h
  refine ⟨H', sl', ?_, h2⟩
  rw [e, zah h1]; rfl
theorem Does.no {H : Hp} {p : Nat} {lim : Int} {L : List Nd} {K : List (ByteArray × Int)} {sl : Value} {f g : Nat} (h : StF H p lim L K sl f g) {fn : FuncId} {xs : List Value} {e : Int}
    (hr : RR fn (.pointer (some ⟨p, 0, none⟩) :: xs) H = some (.tuple #[.int .i64 0, .int .i64 e], H)) : Does H p lim sl f g fn xs (0, e, L, K) := ⟨H, sl, hr, MkOk.stay h rfl⟩
structure zf4 (L : List Nd) : Prop where
  w : ∀ m ∈ L, 0 ≤ m.w ∧ m.w ≤ 64
  l : (L.length + 1) * 64 ≤ 2 ^ 47
theorem zf4.len {L : List Nd} (h : zf4 L) : (L.length : Int) ≤ 4611686018427387904 := by have := h.l; omega
theorem s_max {α : Type} (kd : IntKind) (a b : Int) (k : Value → Option α) : pMM true [.int kd a, .int kd b] k = k (.int kd (if b > a then b else a)) := rfl
theorem zm4 {L : List Nd} (h : zf4 L) (t : Int) : (if (0 : Int) > wT L (-1) t then 0 else wT L (-1) t) = wT L 0 t := by
  unfold wT
  split
  · rename_i ht
    obtain ⟨h1, h2⟩ := zbD.1 ht
    have hlt : (t - 1).toNat < L.length := by omega
    have hq : L[(t - 1).toNat]? = some L[(t - 1).toNat] := by simp [hlt]
    rw [hq]
    have := h.w _ (List.mem_of_getElem? hq)
    simp only [Option.map_some, Option.getD_some]
    rw [if_neg (by omega)]
  · rfl
theorem wT0_bd {L : List Nd} (h : zf4 L) (t : Int) : 0 ≤ wT L 0 t ∧ wT L 0 t ≤ 64 := by
  rw [← zm4 h]
  have := zmb h.w t
  split <;> omega
section
variable {H : Hp} {p f g : Nat} {lim : Int} {L : List Nd} {K : List (ByteArray × Int)} {sl : Value} (h : StF H p lim L K sl f g) (hR : zf4 L)
include h hR
theorem d22 (n : Nd) (hn : 0 ≤ n.num ∧ n.num < 18446744073709551616) : Does H p lim sl f g F.a0 [n.val] (mkR lim L K n) := c22 h n hn hR.w hR.l
def truthN (b : Bool) : Nd := ⟨if b then 1 else 2, 0, 0, 0, 0, 0, ⟨#[]⟩⟩
omit h hR in
theorem nz : (0 : Int) ≤ 0 ∧ (0 : Int) < 18446744073709551616 := by decide
theorem d23 (b : Bool) : Does H p lim sl f g F.a68 [.bool b] (mkR lim L K (truthN b)) :=
  (d22 h hR (truthN b) nz).wrap (by refine (zgg E0 rfl _ _ _).trans ?_; unfold zdT; simp only [zaf, b0]; cases b <;> rfl)
def constN (w x : Int) : Nd := ⟨3, w, 0, 0, 0, zmd w x, ⟨#[]⟩⟩
omit h hR in
theorem trim_bd (w x : Int) (hx : 0 ≤ x ∧ x < 18446744073709551616) : 0 ≤ zmd w x ∧ zmd w x < 18446744073709551616 := by
  unfold zmd
  split
  · omega
  · split
    · omega
    · have h2 : (0 : Int) < 2 ^ w.toNat := Int.pow_pos (by decide)
      have := Int.emod_nonneg x (show (2 : Int) ^ w.toNat ≠ 0 by omega)
      have h3 : x % 2 ^ w.toNat ≤ x := by
        obtain ⟨n, rfl⟩ := Int.eq_ofNat_of_zero_le hx.1
        have e : ((n : Int) % 2 ^ w.toNat) = ((n % 2 ^ w.toNat : Nat) : Int) := by simp
        rw [e]
        exact Int.ofNat_le.2 (Nat.mod_le _ _)
      omega
theorem d24 (w x : Int) (hx : 0 ≤ x ∧ x < 18446744073709551616) : Does H p lim sl f g F.a64 [.int .i64 w, .int .u64 x] (mkR lim L K (constN w x)) :=
  (d22 h hR (constN w x) (trim_bd w x hx)).wrap (by refine (zgi E0 rfl _ _ _ _).trans ?_; unfold zdW; simp only [zah (c45 w x hx.1 hx.2 H), b015]; rfl)
def varN (s : ByteArray) (w : Int) : Nd := ⟨4, w, 0, 0, 0, 0, s⟩
theorem d20 (s : ByteArray) (w : Int) : Does H p lim sl f g F.a46 [.string s, .int .i64 w] (mkR lim L K (varN s w)) :=
  (d22 h hR (varN s w) nz).wrap (by refine (zhk E0 rfl _ _ _ _).trans ?_; unfold zeF; simp only [b016]; rfl)
def unR (lim : Int) (L : List Nd) (K : List (ByteArray × Int)) (op a : Int) : Res :=
  if op = 5 then mkR lim L K ⟨op, 0, a, 0, 0, 0, ⟨#[]⟩⟩ else if op = 15 ∨ op = 16 then mkR lim L K ⟨op, wT L 0 a, a, 0, 0, 0, ⟨#[]⟩⟩ else (0, 73, L, K)
theorem d25 (op a : Int) : Does H p lim sl f g F.a69 [.int .i64 op, .int .i64 a] (unR lim L K op a) := by
  have hrun := zh5 E0 rfl (.pointer (some ⟨p, 0, none⟩)) (.int .i64 op) (.int .i64 a) H
  unfold zeY at hrun
  simp only [za4, zaf, s_br, decide_eq_true_eq, zah (c40 h.st hR.len), s_max, zm4 hR, b02, b012] at hrun
  unfold unR
  by_cases h5 : op = 5
  · rw [if_pos h5] at hrun ⊢
    exact Does.wrap (d22 h hR _ (by exact nz)) hrun
  rw [if_neg h5] at hrun ⊢
  by_cases h15 : op = 15
  · rw [if_pos h15, if_pos h15] at hrun
    rw [if_pos (.inl h15)]
    exact Does.wrap (d22 h hR _ (by exact nz)) hrun
  rw [if_neg h15] at hrun
  by_cases h16 : op = 16
  · rw [if_pos h16] at hrun
    rw [if_pos (.inr h16)]
    exact Does.wrap (d22 h hR _ (by exact nz)) hrun
  rw [if_neg h16] at hrun
  rw [if_neg (by omega)]
  exact Does.no h hrun
theorem d26 (c a b : Int) : Does H p lim sl f g F.a66 [.int .i64 c, .int .i64 a, .int .i64 b] (mkR lim L K ⟨14, wT L 0 a, c, a, b, 0, ⟨#[]⟩⟩) :=
  (d22 h hR ⟨14, wT L 0 a, c, a, b, 0, ⟨#[]⟩⟩ nz).wrap (by refine (zhm E0 rfl _ _ _ _ _).trans ?_; unfold zeH; simp only [zah (c40 h.st hR.len), s_max, zm4 hR, b01234])
omit h hR in
theorem u64_bd (x : Int) : 0 ≤ IntKind.u64.wrap x ∧ IntKind.u64.wrap x < 18446744073709551616 := by
  simp [IntKind.wrap, IntKind.signed, IntKind.bits]; omega
theorem d27 (a from' n : Int) : Does H p lim sl f g F.a67 [.int .i64 a, .int .i64 from', .int .i64 n] (mkR lim L K ⟨31, n, a, 0, 0, IntKind.u64.wrap from', ⟨#[]⟩⟩) :=
  (d22 h hR ⟨31, n, a, 0, 0, IntKind.u64.wrap from', ⟨#[]⟩⟩ (u64_bd _)).wrap (by refine (zgh E0 rfl _ _ _ _ _).trans ?_; unfold zdU; simp only [znh, b0125])
def extR (lim : Int) (L : List Nd) (K : List (ByteArray × Int)) (op a w : Int) : Res :=
  if op ≠ 32 then if op ≠ 33 then (0, 73, L, K) else mkR lim L K ⟨op, w, a, 0, 0, 0, ⟨#[]⟩⟩ else mkR lim L K ⟨op, w, a, 0, 0, 0, ⟨#[]⟩⟩
theorem d28 (op a w : Int) : Does H p lim sl f g F.a65 [.int .i64 op, .int .i64 a, .int .i64 w] (extR lim L K op a w) := by
  have hrun := zhn E0 rfl (.pointer (some ⟨p, 0, none⟩)) (.int .i64 op) (.int .i64 a) (.int .i64 w) H
  unfold zeI at hrun
  simp only [zec, zaf, s_br, decide_eq_true_eq, b012] at hrun
  unfold extR
  by_cases h5 : op ≠ 32
  · rw [if_pos h5] at hrun ⊢
    by_cases h6 : op ≠ 33
    · rw [if_pos h6] at hrun ⊢
      exact Does.no h hrun
    · rw [if_neg h6] at hrun ⊢
      exact Does.wrap (d22 h hR _ (by exact nz)) hrun
  · rw [if_neg h5] at hrun ⊢
    exact Does.wrap (d22 h hR _ (by exact nz)) hrun
end
end Go.AM
namespace Go.AM
open Go
theorem spl7 {α : Type} (n : Nd) (k : List Value → Option α) : zbx 7 [.int .i64 0, .int .i64 0, .int .i64 0, .int .i64 0, .int .i64 0, .int .u64 0, .string ⟨#[]⟩] 0 n.val k = k n.cells := by
  have : za5 7 [.int .i64 0, .int .i64 0, .int .i64 0, .int .i64 0, .int .i64 0, .int .u64 0, .string ⟨#[]⟩] 0 n.val = some n.cells := by kernel_rfl
  unfold zbx; rw [this]
theorem spl1 {α : Type} (n : Nd) (w : Int) (k : List Value → Option α) : zbx 1 n.cells 1 (.int .i64 w) k = k (Nd.cells { n with w := w }) := by
  have : za5 1 n.cells 1 (.int .i64 w) = some (Nd.cells { n with w := w }) := by kernel_rfl
  unfold zbx; rw [this]
theorem zjy {α : Type} (n : Nd) (k : Value → Option α) : zag 1 false n.cells 1 k = k (.int .i64 n.w) := zbT _ 1 _ rfl k
theorem nagg (n : Nd) : Value.agg n.cells.toArray = n.val := rfl
theorem s_drop0 {α : Type} (l : List α) : l.drop 0 = l := rfl
def binR (lim : Int) (L : List Nd) (K : List (ByteArray × Int)) (op a b : Int) : Res :=
  if op ≥ 6 ∧ op ≤ 13 then mkR lim L K ⟨op, 0, a, b, 0, 0, ⟨#[]⟩⟩ else if op ≥ 17 ∧ op ≤ 29 then mkR lim L K ⟨op, wT L 0 a, a, b, 0, 0, ⟨#[]⟩⟩
  else if op = 30 then mkR lim L K ⟨op, if wT L 0 a + wT L 0 b > 64 then 0 else wT L 0 a + wT L 0 b, a, b, 0, 0, ⟨#[]⟩⟩ else (0, 73, L, K)
theorem mk_past {lim : Int} {L : List Nd} {K : List (ByteArray × Int)} (w a b : Int) (hw : 0 ≤ w ∧ w ≤ 64) (hab : ¬ (isT L a = true ∧ isT L b = true)) : mkR lim L K ⟨30, w, a, b, 0, 0, ⟨#[]⟩⟩ = (0, 70, L, K) := by
  have h1 : zd7 L K ⟨30, w, a, b, 0, 0, ⟨#[]⟩⟩ = 70 := by
    unfold zd7
    rw [if_neg (by show ¬ ((30 : Int) < 1 ∨ (30 : Int) > 33); decide), if_neg (by show ¬ (w < 0 ∨ w > 64); omega), if_pos]
    unfold zbF
    have : zak 30 = 2 := by decide
    simp only [this]
    cases e1 : isT L a <;> cases e2 : isT L b <;> simp_all
  unfold mkR
  rw [h1]; rfl
section
variable {H : Hp} {p f g : Nat} {lim : Int} {L : List Nd} {K : List (ByteArray × Int)} {sl : Value} (h : StF H p lim L K sl f g) (hR : zf4 L)
include h hR
theorem d21 (op a b : Int) : Does H p lim sl f g F.a17 [.int .i64 op, .int .i64 a, .int .i64 b] (binR lim L K op a b) := by
  have hrun := zho E0 rfl (.pointer (some ⟨p, 0, none⟩)) (.int .i64 op) (.int .i64 a) (.int .i64 b) H
  unfold zeJ at hrun
  have ba := wT0_bd hR a
  have bb := wT0_bd hR b
  simp only [za4, zec, zca, zcb, zi3, zbb, zaf, s_br, zc9, zaq, zdj, zaV, zbk, zeb, zaI, zdH, s_drop0, qg0, decide_eq_true_eq, zah (c40 h.st hR.len), zah (c19 h.st), s_max, zm4 hR, b023, spl7, spl1, zjy, nagg, n07, za8 (show -9223372036854775808 ≤ wT L 0 a + wT L 0 b by omega) (show wT L 0 a + wT L 0 b ≤ 9223372036854775807 by omega)] at hrun
  unfold binR
  have hrun2 : RR F.a17 [.pointer (some ⟨p, 0, none⟩), .int .i64 op, .int .i64 a, .int .i64 b] H = if op ≥ 6 ∧ op ≤ 13 then
      zae RR F.a0 [.pointer (some ⟨p, 0, none⟩), Nd.val ⟨op, 0, a, b, 0, 0, ⟨#[]⟩⟩] H fun r H' => zac r 0 fun a => zac r 1 fun b => some (.tuple #[a, b], H')
      else if op ≥ 17 ∧ op ≤ 29 then
      zae RR F.a0 [.pointer (some ⟨p, 0, none⟩), Nd.val ⟨op, wT L 0 a, a, b, 0, 0, ⟨#[]⟩⟩] H fun r H' => zac r 0 fun a => zac r 1 fun b => some (.tuple #[a, b], H')
      else if op = 30 then zae RR F.a0 [.pointer (some ⟨p, 0, none⟩), Nd.val ⟨op, if wT L 0 a + wT L 0 b > 64 ∨ isT L a = false ∨ isT L b = false then 0 else wT L 0 a + wT L 0 b, a, b, 0, 0, ⟨#[]⟩⟩] H fun r H' => zac r 0 fun a => zac r 1 fun b => some (.tuple #[a, b], H')
      else some (.tuple #[.int .i64 0, .int .i64 73], H) := by
    refine hrun.trans ?_
    by_cases q1 : op ≥ 6 <;> by_cases q2 : op ≤ 13 <;> by_cases q3 : op ≥ 17 <;> by_cases q4 : op ≤ 29 <;> by_cases q5 : op = 30 <;> by_cases q6 : wT L 0 a + wT L 0 b > 64 <;>
      cases isT L a <;> cases isT L b <;>
      simp only [q1, q2, q3, q4, q5, q6, if_true, if_false, and_self, and_true, and_false, true_and, false_and, or_true, true_or, or_false, false_or, decide_true, decide_false, Bool.false_eq_true, Bool.true_eq_false, Bool.not_true, Bool.not_false, or_self, zaq, zaV, zeb, zdH, s_drop0, qg0, n07] <;> first | rfl | omega
  by_cases h1 : op ≥ 6 ∧ op ≤ 13
  · rw [if_pos h1] at hrun2 ⊢
    exact Does.wrap (d22 h hR _ (by exact nz)) hrun2
  rw [if_neg h1] at hrun2 ⊢
  by_cases h2 : op ≥ 17 ∧ op ≤ 29
  · rw [if_pos h2] at hrun2 ⊢
    exact Does.wrap (d22 h hR _ (by exact nz)) hrun2
  rw [if_neg h2] at hrun2 ⊢
  by_cases h3 : op = 30
  · rw [if_pos h3] at hrun2 ⊢
    have key : mkR lim L K ⟨op, if wT L 0 a + wT L 0 b > 64 then 0 else wT L 0 a + wT L 0 b, a, b, 0, 0, ⟨#[]⟩⟩ = mkR lim L K ⟨op, if wT L 0 a + wT L 0 b > 64 ∨ isT L a = false ∨ isT L b = false then 0 else wT L 0 a + wT L 0 b, a, b, 0, 0, ⟨#[]⟩⟩ := by
      subst h3
      by_cases q : isT L a = true ∧ isT L b = true
      · have : (wT L 0 a + wT L 0 b > 64 ∨ isT L a = false ∨ isT L b = false) ↔ wT L 0 a + wT L 0 b > 64 := by simp [q.1, q.2]
        simp only [this]
      · rw [mk_past _ a b (by split <;> omega) q, mk_past _ a b (by split <;> omega) q]
    rw [key]
    exact Does.wrap (d22 h hR _ (by exact nz)) hrun2
  rw [if_neg h3] at hrun2 ⊢
  exact Does.no h hrun2
end
end Go.AM
namespace Go.AM
open Go
structure OpA where
  kind : Int
  o : Int
  a : Int
  b : Int
  c : Int
  w : Int
  t : Bool
  x : Int
  name : ByteArray
  n : Nd
def OpA.cells (o : OpA) : List Value := [.int .i64 o.kind, .int .i64 o.o, .int .i64 o.a, .int .i64 o.b, .int .i64 o.c, .int .i64 o.w, .bool o.t, .int .u64 o.x, .string o.name] ++ o.n.cells
def OpA.val (o : OpA) : Value := .agg o.cells.toArray
structure OpA.Ok (o : OpA) : Prop where
  x : 0 ≤ o.x ∧ o.x < 18446744073709551616
  n : 0 ≤ o.n.num ∧ o.n.num < 18446744073709551616
section
variable {α : Type} (o : OpA) (k : Value → Option α)
theorem o0 : zag 1 false (zab o.val) 0 k = k (.int .i64 o.kind) := zbT _ 0 _ rfl k
theorem o1 : zag 1 false (zab o.val) 1 k = k (.int .i64 o.o) := zbT _ 1 _ rfl k
theorem o2 : zag 1 false (zab o.val) 2 k = k (.int .i64 o.a) := zbT _ 2 _ rfl k
theorem o3 : zag 1 false (zab o.val) 3 k = k (.int .i64 o.b) := zbT _ 3 _ rfl k
theorem o4 : zag 1 false (zab o.val) 4 k = k (.int .i64 o.c) := zbT _ 4 _ rfl k
theorem o5 : zag 1 false (zab o.val) 5 k = k (.int .i64 o.w) := zbT _ 5 _ rfl k
theorem o6 : zag 1 false (zab o.val) 6 k = k (.bool o.t) := zbT _ 6 _ rfl k
theorem o7 : zag 1 false (zab o.val) 7 k = k (.int .u64 o.x) := zbT _ 7 _ rfl k
theorem o8 : zag 1 false (zab o.val) 8 k = k (.string o.name) := zbT _ 8 _ rfl k
theorem o9 : zag 7 true (zab o.val) 9 k = k o.n.val := rfl
end
def askR (lim : Int) (L : List Nd) (K : List (ByteArray × Int)) (o : OpA) : Res :=
  if o.kind = 1 then mkR lim L K o.n else if o.kind = 2 then mkR lim L K (truthN o.t) else if o.kind = 3 then mkR lim L K (constN o.w o.x)
  else if o.kind = 4 then mkR lim L K (varN o.name o.w) else if o.kind = 5 then unR lim L K o.o o.a else if o.kind = 6 then binR lim L K o.o o.a o.b
  else if o.kind = 7 then mkR lim L K ⟨14, wT L 0 o.b, o.a, o.b, o.c, 0, ⟨#[]⟩⟩ else if o.kind = 8 then mkR lim L K ⟨31, o.c, o.a, 0, 0, IntKind.u64.wrap o.b, ⟨#[]⟩⟩
  else if o.kind = 9 then extR lim L K o.o o.a o.w else (0, 0, L, K)
section
variable {H : Hp} {p f g : Nat} {lim : Int} {L : List Nd} {K : List (ByteArray × Int)} {sl : Value} (h : StF H p lim L K sl f g) (hR : zf4 L)
include h hR
theorem d12 (o : OpA) (ho : o.Ok) : Does H p lim sl f g F.a53 [o.val] (askR lim L K o) := by
  have hrun := zgk E0 rfl (.pointer (some ⟨p, 0, none⟩)) o.val H
  unfold zdY at hrun
  simp only [za4, zaf, s_br, decide_eq_true_eq, o0, o1, o2, o3, o4, o5, o6, o7, o8, o9] at hrun
  unfold askR
  by_cases k1 : o.kind = 1
  · rw [if_pos k1] at hrun ⊢
    exact Does.wrap (d22 h hR _ ho.n) hrun
  rw [if_neg k1] at hrun ⊢
  by_cases k2 : o.kind = 2
  · rw [if_pos k2] at hrun ⊢
    exact Does.wrap (d23 h hR _) hrun
  rw [if_neg k2] at hrun ⊢
  by_cases k3 : o.kind = 3
  · rw [if_pos k3] at hrun ⊢
    exact Does.wrap (d24 h hR _ _ ho.x) hrun
  rw [if_neg k3] at hrun ⊢
  by_cases k4 : o.kind = 4
  · rw [if_pos k4] at hrun ⊢
    exact Does.wrap (d20 h hR _ _) hrun
  rw [if_neg k4] at hrun ⊢
  by_cases k5 : o.kind = 5
  · rw [if_pos k5] at hrun ⊢
    exact Does.wrap (d25 h hR _ _) hrun
  rw [if_neg k5] at hrun ⊢
  by_cases k6 : o.kind = 6
  · rw [if_pos k6] at hrun ⊢
    exact Does.wrap (d21 h hR _ _ _) hrun
  rw [if_neg k6] at hrun ⊢
  by_cases k7 : o.kind = 7
  · rw [if_pos k7] at hrun ⊢
    exact Does.wrap (d26 h hR _ _ _) hrun
  rw [if_neg k7] at hrun ⊢
  by_cases k8 : o.kind = 8
  · rw [if_pos k8] at hrun ⊢
    exact Does.wrap (d27 h hR _ _ _) hrun
  rw [if_neg k8] at hrun ⊢
  by_cases k9 : o.kind = 9
  · rw [if_pos k9] at hrun ⊢
    exact Does.wrap (d28 h hR _ _ _) hrun
  rw [if_neg k9] at hrun ⊢
  exact Does.no h hrun
end
theorem new61 {α : Type} (lim : Int) (v w : Nat) (k : Value → Option α) : zau PP T.term_Store [(0, .int .i64 lim), (2, .map (some v)), (3, .map (some w))] k = k (.agg #[.int .i64 lim, .slice none 0 0, .map (some v), .map (some w)]) := bld (by kernel_rfl) k
def newH (lim : Int) (H : Hp) : Hp := ((H.new (.map [])).new (.map [])).new (.cells [.int .i64 lim, .slice none 0 0, .map (some H.next), .map (some (H.next + 1))] true)
theorem zmE (lim : Int) (H : Hp) : StF (newH lim H) (H.next + 2) lim [] [] (.slice none 0 0) H.next (H.next + 1) := by
  refine ⟨⟨?_, .inl ⟨rfl, rfl⟩⟩, ?_, ?_, by omega, by omega, by omega, ?_, ?_, ?_, fun i hi => by cases hi⟩
  · exact if_pos rfl
  · unfold newH; rw [zfT, if_neg (by show ¬ H.next = H.next + 1 + 1; omega), zfT, if_neg (by show ¬ H.next = H.next + 1; omega), zfT, if_pos rfl]; rfl
  · unfold newH; rw [zfT, if_neg (by show ¬ H.next + 1 = H.next + 1 + 1; omega), zfT]; exact if_pos rfl
  · show H.next + 2 < H.next + 1 + 1 + 1; omega
  · show H.next < H.next + 1 + 1 + 1; omega
  · show H.next + 1 < H.next + 1 + 1 + 1; omega
theorem zhF (lim : Int) (H : Hp) (j : Nat) (hj : j < H.next) : (newH lim H).get j = H.get j := by
  unfold newH
  rw [zfT, if_neg (by show ¬ j = H.next + 1 + 1; omega), zfT, if_neg (by show ¬ j = H.next + 1; omega), zfT, if_neg (by omega)]
theorem zgq (lim : Int) (H : Hp) : (newH lim H).next = H.next + 3 := rfl
theorem c16 (lim : Int) (H : Hp) : RR F.a16 [.int .i64 lim] H = if lim < 0 then some (.tuple #[.pointer none, .int .i64 1], H) else some (.tuple #[.pointer (some ⟨H.next + 2, 0, none⟩), .int .i64 0], newH lim H) := by
  refine (zoj E0 rfl _ _).trans ?_
  unfold zjE
  simp only [zaY, zaf, s_br, decide_eq_true_eq, zeu, zdx, new61]
  rfl
end Go.AM
namespace Go.AM
open Go
def Foot (p f g : Nat) (sl : Value) (i : Nat) : Prop := i = p ∨ i = f ∨ i = g ∨ slId sl = some i
theorem StF.foot_lt {H : Hp} {p f g : Nat} {lim : Int} {L : List Nd} {K : List (ByteArray × Int)} {sl : Value} (h : StF H p lim L K sl f g) {i : Nat} (hi : Foot p f g sl i) : i < H.next := by
  rcases hi with rfl | rfl | rfl | hi
  · exact h.lp
  · exact h.lf
  · exact h.lg
  · exact (h.sa i hi).2.2.2
theorem StF.own {H : Hp} {p f g : Nat} {lim : Int} {L : List Nd} {K : List (ByteArray × Int)} {sl : Value} (h : StF H p lim L K sl f g) {i : Nat} (hi : Foot p f g sl i) : ∃ o, H.get i = some o ∧ o.own = true := by
  rcases hi with rfl | rfl | rfl | hi
  · exact ⟨_, h.st.obj, rfl⟩
  · exact ⟨_, h.fm, rfl⟩
  · exact ⟨_, h.gm, rfl⟩
  · rcases h.st.all with ⟨_, e⟩ | ⟨j, e, hj⟩
    · rw [e] at hi; cases hi
    · rw [e] at hi; cases hi; exact ⟨_, hj, rfl⟩
theorem StF.keep {H H' : Hp} {p f g : Nat} {lim : Int} {L : List Nd} {K : List (ByteArray × Int)} {sl : Value} (h : StF H p lim L K sl f g) (hg : ∀ i, Foot p f g sl i → H'.get i = H.get i) (hn : H.next ≤ H'.next) : StF H' p lim L K sl f g := by
  refine ⟨⟨?_, ?_⟩, ?_, ?_, h.pf, h.pg, h.fg, Nat.lt_of_lt_of_le h.lp hn, Nat.lt_of_lt_of_le h.lf hn, Nat.lt_of_lt_of_le h.lg hn, fun i hi => ?_⟩
  · rw [hg p (.inl rfl)]; exact h.st.obj
  · rcases h.st.all with e | ⟨j, e, hj⟩
    · exact .inl e
    · exact .inr ⟨j, e, by rw [hg j (.inr (.inr (.inr (by rw [e]; rfl))))]; exact hj⟩
  · rw [hg f (.inr (.inl rfl))]; exact h.fm
  · rw [hg g (.inr (.inr (.inl rfl)))]; exact h.gm
  · obtain ⟨a, b, c, d⟩ := h.sa i hi
    exact ⟨a, b, c, Nat.lt_of_lt_of_le d hn⟩
theorem MkOk.foot {H H' : Hp} {p f g : Nat} {lim : Int} {sl sl' : Value} {r : Res} (h : MkOk H p lim sl f g r H' sl') {i : Nat} (hi : Foot p f g sl' i) : Foot p f g sl i ∨ H.next ≤ i := by
  rcases hi with e | e | e | e
  · exact .inl (.inl e)
  · exact .inl (.inr (.inl e))
  · exact .inl (.inr (.inr (.inl e)))
  · exact (h.own i e).imp (fun q => .inr (.inr (.inr q))) id
theorem MkOk.same {H H' : Hp} {p f g : Nat} {lim : Int} {sl sl' : Value} {r : Res} (h : MkOk H p lim sl f g r H' sl') {i : Nat} (hl : i < H.next) (hi : ¬ Foot p f g sl i) : H'.get i = H.get i :=
  h.frame i hl (fun e => hi (.inl e)) (fun e => hi (.inr (.inl e))) (fun e => hi (.inr (.inr (.inl e)))) (fun e => hi (.inr (.inr (.inr e))))
theorem q_ite {Q : Res → Prop} {c : Prop} [Decidable c] {x y : Res} (h1 : Q x) (h2 : Q y) : Q (if c then x else y) := by split <;> assumption
theorem zmW {Q : Res → Prop} {lim : Int} {L : List Nd} {K : List (ByteArray × Int)} (hm : ∀ n, Q (mkR lim L K n)) (hn : ∀ e, Q (0, e, L, K)) (o : OpA) : Q (askR lim L K o) := by
  unfold askR unR binR extR
  repeat' first | exact hm _ | exact hn _ | refine q_ite (Q := Q) ?_ ?_
def runR (lim : Int) : List OpA → List Nd → List (ByteArray × Int) → List Nd × List (ByteArray × Int)
  | [], L, K => (L, K)
  | o :: r, L, K => runR lim r (askR lim L K o).2.2.1 (askR lim L K o).2.2.2
def ScR (H : Hp) (x : Value) (os : List OpA) : Prop :=
  (os = [] ∧ x = .slice none 0 0) ∨ ∃ y, x = .slice (some ⟨y, 0, some 16⟩) os.length os.length ∧ H.get y = some (.cells (os.flatMap OpA.cells) false) ∧ y < H.next
theorem zin (o : OpA) : o.cells.length = 16 := rfl
theorem flat_at (os : List OpA) : ∀ i o, os[i]? = some o → ((os.flatMap OpA.cells).drop (i * 16)).take 16 = o.cells := by
  induction os with
  | nil => intro i o h; cases h
  | cons a os ih =>
    intro i o h
    rw [List.flatMap_cons]
    cases i with
    | zero => cases h; rw [Nat.zero_mul, qd0, List.take_append_of_le_length (by rw [zin]; omega), List.take_of_length_le (by rw [zin]; omega)]
    | succ i =>
      rw [List.drop_append, List.drop_of_length_le (by rw [zin]; omega), zin, List.nil_append, show (i + 1) * 16 - 16 = i * 16 by omega]
      exact ih i o h
theorem zlq (os : List OpA) : (os.flatMap OpA.cells).length = os.length * 16 := by
  induction os with
  | nil => rfl
  | cons a os ih => rw [List.flatMap_cons, List.length_append, ih, zin, List.length_cons]; omega
theorem ScR.at {α : Type} {H : Hp} {x : Value} {os : List OpA} (h : ScR H x os) {i : Nat} {o : OpA} (ho : os[i]? = some o) :
    ∃ y, y < H.next ∧ H.get y = some (.cells (os.flatMap OpA.cells) false) ∧ ∀ (β : Type) (k : Value → Option β), pIdx 16 x (.int .i64 (i : Int)) k = k (.pointer (some ⟨y, i * 16, none⟩)) := by
  have hlt : i < os.length := (List.getElem?_eq_some_iff.1 ho).1
  rcases h with ⟨rfl, _⟩ | ⟨y, rfl, hy⟩
  · cases ho
  · refine ⟨y, hy.2, hy.1, fun β k => ?_⟩
    unfold pIdx idxV
    have : (16 : Nat) = 16 ∧ (0 : Int) ≤ (i : Int) ∧ (i : Int) < (os.length : Int) := ⟨rfl, by omega, by omega⟩
    simp only [this, and_self, if_true, Nat.zero_add, Int.toNat_natCast]
theorem ScR.ld {α : Type} {H : Hp} {os : List OpA} {y : Nat} (h : H.get y = some (.cells (os.flatMap OpA.cells) false)) {i : Nat} {o : OpA} (ho : os[i]? = some o) (k : Value → Option α) :
    zaj 16 true H (.pointer (some ⟨y, i * 16, none⟩)) k = k o.val := by
  have hlt : i < os.length := (List.getElem?_eq_some_iff.1 ho).1
  have h1 : i * 16 + 16 ≤ (os.flatMap OpA.cells).length := by rw [zlq]; omega
  simp only [zaj, Hp.rdP, Hp.rd, h, zbZ, h1, if_true, flat_at os i o ho]
  rfl
theorem ScR.len {α : Type} {H : Hp} {x : Value} {os : List OpA} (h : ScR H x os) (H' : Hp) (k : Value → Option α) : pLen .sl x H' k = k (.int .i64 os.length) := by
  rcases h with ⟨rfl, rfl⟩ | ⟨y, rfl, hy⟩ <;> rfl
theorem ScR.keep {H H' : Hp} {x : Value} {os : List OpA} (h : ScR H x os) (hg : ∀ y cs, y < H.next → H.get y = some (.cells cs false) → H'.get y = some (.cells cs false)) (hn : H.next ≤ H'.next) : ScR H' x os := by
  rcases h with e | ⟨y, e, hy⟩
  · exact .inl e
  · exact .inr ⟨y, e, hg _ _ hy.2 hy.1, Nat.lt_of_lt_of_le hy.2 hn⟩
end Go.AM
namespace Go.AM
open Go
structure Inv (lim : Int) (L : List Nd) : Prop where
  w : ∀ m ∈ L, 0 ≤ m.w ∧ m.w ≤ 64
  parts : ∀ (i : Nat) m, L[i]? = some m → m.a ≤ i ∧ m.b ≤ i ∧ m.c ≤ i
  nod : ∀ (i j : Nat) m, L[i]? = some m → L[j]? = some m → i = j
  lim : lim > 0 → (L.length : Int) ≤ lim
theorem Inv.nil (lim : Int) : Inv lim [] := ⟨fun m h => (by cases h), fun i m h => (by cases h), fun i j m h => (by cases h), fun h => by simp; omega⟩
theorem zir (n m : Nd) : zjv n m = true ↔ n = m := by
  cases n; cases m
  unfold zjv
  simp [ba_eq]
theorem zg6 (n : Nd) : ∀ (L : List Nd) (i q : Nat), zbf n i L = some q → i ≤ q ∧ L[q - i]? = some n
  | [], i, q, h => by cases h
  | m :: r, i, q, h => by
    unfold zbf at h
    split at h
    · rename_i e
      cases h
      have := (zir n m).1 e
      subst this
      exact ⟨Nat.le_refl _, by simp⟩
    · obtain ⟨h1, h2⟩ := zg6 n r (i + 1) q h
      refine ⟨by omega, ?_⟩
      rw [show q - i = (q - (i + 1)) + 1 by omega]
      simpa using h2
theorem zdL (n : Nd) : ∀ (L : List Nd) (i : Nat), zbf n i L = none → ∀ (j : Nat), L[j]? ≠ some n
  | [], i, h, j, e => by cases e
  | m :: r, i, h, j, e => by
    unfold zbf at h
    split at h
    · cases h
    · rename_i ne
      cases j with
      | zero => simp at e; subst e; exact ne ((zir _ _).2 rfl)
      | succ j => exact zdL n r (i + 1) h j (by simpa using e)
theorem zku {L : List Nd} {m : Nd} {t : Int} (h : isT L t = true) : isT (L ++ [m]) t = true := by
  obtain ⟨h1, h2⟩ := zbD.1 h
  exact zbD.2 ⟨h1, by simp; omega⟩
theorem wT_app {L : List Nd} {m : Nd} {d t : Int} (h : isT L t = true ∨ t ≤ 0) : wT (L ++ [m]) d t = wT L d t := by
  rcases h with h | h
  · obtain ⟨h1, h2⟩ := zbD.1 h
    unfold wT
    rw [if_pos h, if_pos (zku h), List.getElem?_append_left (by omega)]
  · have e1 : ∀ M : List Nd, isT M t = false := fun M => by
      cases e : isT M t with
      | false => rfl
      | true => have := (zbD.1 e).1; omega
    unfold wT
    rw [if_neg (by rw [e1]; decide), if_neg (by rw [e1]; decide)]
theorem zbo (op : Int) : zak op = 0 ∨ zak op = 1 ∨ zak op = 2 ∨ zak op = 3 := by
  unfold zak
  split
  · exact .inl rfl
  · split
    · exact .inr (.inl rfl)
    · split
      · exact .inr (.inr (.inr rfl))
      · exact .inr (.inr (.inl rfl))
theorem zkh {L : List Nd} {n : Nd} (h1 : ¬ zbF L n = true) (h2 : ¬ zeP (zak n.op) n = true) :
    (isT L n.a = true ∨ n.a = 0) ∧ (isT L n.b = true ∨ n.b = 0) ∧ (isT L n.c = true ∨ n.c = 0) ∧ (zak n.op ≥ 1 → isT L n.a = true) ∧ (zak n.op ≥ 2 → isT L n.b = true) ∧ (zak n.op ≥ 3 → isT L n.c = true) := by
  unfold zbF at h1
  unfold zeP at h2
  simp only [Bool.or_eq_true, Bool.and_eq_true, decide_eq_true_eq, Bool.not_eq_true', not_or, not_and, Bool.not_eq_false] at h1 h2
  have ha : zak n.op ≥ 1 → isT L n.a = true := h1.1.1
  have hb : zak n.op ≥ 2 → isT L n.b = true := h1.1.2
  have hc : zak n.op ≥ 3 → isT L n.c = true := h1.2
  refine ⟨?_, ?_, ?_, ha, hb, hc⟩
  · rcases Int.lt_or_le (zak n.op) 1 with q | q
    · right; have := h2.1.1.1.1 q; omega
    · exact .inl (ha q)
  · rcases Int.lt_or_le (zak n.op) 2 with q | q
    · right; have := h2.1.1.1.2 q; omega
    · exact .inl (hb q)
  · rcases Int.lt_or_le (zak n.op) 3 with q | q
    · right; have := h2.1.1.2 q; omega
    · exact .inl (hc q)
theorem zgT (s t : ByteArray) (w : Int) : ∀ (K : List (ByteArray × Int)) (i : Nat), zaS s i K = none → zaS s i (K ++ [(s, w)]) = some (i + K.length, w)
  | [], i, h => by
    show zaS s i [(s, w)] = _
    unfold zaS
    rw [if_pos ((ba_eq s s).2 rfl)]; rfl
  | (u, v) :: r, i, h => by
    unfold zaS at h
    split at h
    · cases h
    · rename_i ne
      show zaS s i ((u, v) :: (r ++ [(s, w)])) = _
      unfold zaS
      rw [if_neg ne, zgT s t w r (i + 1) h, List.length_cons]
      congr 2; omega
theorem zmV {K : List (ByteArray × Int)} {n : Nd} (h : zbh K n = false) : zbh (zbK n.name n.w K) n = false := by
  unfold zbK
  cases hq : zaS n.name 0 K with
  | some q => exact h
  | none =>
    unfold zbh at h ⊢
    rw [hq] at h
    rw [zgT n.name n.name n.w K 0 hq]
    simpa using h
structure zhu (L : List Nd) (K : List (ByteArray × Int)) (n : Nd) : Prop where
  op : ¬ (n.op < 1 ∨ n.op > 33)
  w : ¬ (n.w < 0 ∨ n.w > 64)
  pt : ¬ zbF L n = true
  sp : ¬ zeP (zak n.op) n = true
  so : ¬ zer n.op (wT L (-1) n.a) (wT L (-1) n.b) (wT L (-1) n.c) = false
  wi : ¬ zdp n (wT L (-1) n.a) (wT L (-1) n.b) = false
  nm : ¬ (n.op = 4 ∧ zbh K n = true)
theorem zk4 {L : List Nd} {K : List (ByteArray × Int)} {n : Nd} : zd7 L K n = 0 ↔ zhu L K n := by
  constructor
  · intro h
    unfold zd7 at h
    split at h
    · cases h
    · split at h
      · cases h
      · split at h
        · cases h
        · split at h
          · cases h
          · split at h
            · cases h
            · split at h
              · cases h
              · split at h
                · cases h
                · constructor <;> assumption
  · rintro ⟨h1, h2, h3, h4, h5, h6, h7⟩
    unfold zd7
    rw [if_neg h1, if_neg h2, if_neg h3, if_neg h4, if_neg h5, if_neg h6, if_neg h7]
theorem zhu.app {L : List Nd} {K K' : List (ByteArray × Int)} {n m : Nd} (h : zhu L K n) (hk : n.op = 4 → zbh K' n = false) : zhu (L ++ [m]) K' n := by
  obtain ⟨ga, gb, gc, ha, hb, hc⟩ := zkh h.pt h.sp
  have ea := wT_app (m := m) (d := -1) (ga.imp id (fun e => by omega) : isT L n.a = true ∨ n.a ≤ 0)
  have eb := wT_app (m := m) (d := -1) (gb.imp id (fun e => by omega) : isT L n.b = true ∨ n.b ≤ 0)
  have ec := wT_app (m := m) (d := -1) (gc.imp id (fun e => by omega) : isT L n.c = true ∨ n.c ≤ 0)
  refine ⟨h.op, h.w, ?_, h.sp, ?_, ?_, fun q => ?_⟩
  · intro q
    unfold zbF at q
    simp only [Bool.or_eq_true, Bool.and_eq_true, decide_eq_true_eq, Bool.not_eq_true'] at q
    rcases q with (⟨q1, q2⟩ | ⟨q1, q2⟩) | ⟨q1, q2⟩
    · rw [zku (ha q1)] at q2; cases q2
    · rw [zku (hb q1)] at q2; cases q2
    · rw [zku (hc q1)] at q2; cases q2
  · rw [ea, eb, ec]; exact h.so
  · rw [ea, eb]; exact h.wi
  · rw [hk q.1] at q; cases q.2
theorem zot {lim : Int} {L : List Nd} {K : List (ByteArray × Int)} {n : Nd} (h : (mkR lim L K n).2.1 ≠ 0) : mkR lim L K n = (0, (mkR lim L K n).2.1, L, K) := by
  unfold mkR at h ⊢
  by_cases he : zd7 L K n ≠ 0
  · rw [if_pos he]
  · rw [if_neg he] at h ⊢
    cases hq : zbf n 0 L with
    | some q => rw [hq] at h; exact absurd rfl h
    | none =>
      rw [hq] at h
      dsimp only at h ⊢
      split at h
      · rename_i g; rw [if_pos g]
      · exact absurd rfl h
theorem zjD {lim : Int} {L : List Nd} {K : List (ByteArray × Int)} {n : Nd} (h : (mkR lim L K n).2.1 = 0) : zhu L K n ∧
    ((∃ q, zbf n 0 L = some q ∧ mkR lim L K n = (((q + 1 : Nat) : Int), 0, L, K)) ∨
     (zbf n 0 L = none ∧ ¬ (lim > 0 ∧ (L.length : Int) ≥ lim) ∧ mkR lim L K n = (((L.length + 1 : Nat) : Int), 0, L ++ [n], if n.op = 4 then zbK n.name n.w K else K))) := by
  unfold mkR at h ⊢
  by_cases he : zd7 L K n ≠ 0
  · rw [if_pos he] at h; exact absurd h he
  · rw [if_neg he] at h ⊢
    refine ⟨zk4.1 (by omega), ?_⟩
    cases hq : zbf n 0 L with
    | some q => exact .inl ⟨q, rfl, rfl⟩
    | none =>
      rw [hq] at h
      dsimp only at h ⊢
      split at h
      · cases h
      · rename_i g; rw [if_neg g]; exact .inr ⟨rfl, g, rfl⟩
theorem mk_inv {lim : Int} {L : List Nd} {K : List (ByteArray × Int)} {n : Nd} (h : Inv lim L) : Inv lim (mkR lim L K n).2.2.1 := by
  by_cases h0 : (mkR lim L K n).2.1 = 0
  · obtain ⟨hr, ⟨q, hq, e⟩ | ⟨hq, hl, e⟩⟩ := zjD h0
    · rw [e]; exact h
    · rw [e]
      obtain ⟨ga, gb, gc, _, _, _⟩ := zkh hr.pt hr.sp
      have bd : ∀ x : Int, isT L x = true ∨ x = 0 → x ≤ (L.length : Int) := fun x hx => by
        rcases hx with hx | hx
        · exact (zbD.1 hx).2
        · omega
      refine ⟨fun m hm => ?_, fun i m hm => ?_, fun i j m hi hj => ?_, fun hp => ?_⟩
      · rcases List.mem_append.1 hm with hm | hm
        · exact h.w m hm
        · rw [List.mem_singleton] at hm
          subst hm
          have := hr.w
          omega
      · rw [List.getElem?_append] at hm
        split at hm
        · exact h.parts i m hm
        · rename_i ge
          have : i = L.length := by
            have := (List.getElem?_eq_some_iff.1 hm).1
            simp at this; omega
          subst this
          simp at hm
          subst hm
          exact ⟨bd _ ga, bd _ gb, bd _ gc⟩
      · have key : ∀ i : Nat, (L ++ [n])[i]? = some m → (i < L.length ∧ L[i]? = some m) ∨ (i = L.length ∧ m = n) := fun i hi => by
          rw [List.getElem?_append] at hi
          split at hi
          · rename_i lt; exact .inl ⟨lt, hi⟩
          · rename_i ge
            have : i = L.length := by
              have := (List.getElem?_eq_some_iff.1 hi).1
              simp at this; omega
            subst this
            simp at hi
            exact .inr ⟨rfl, hi.symm⟩
        rcases key i hi with ⟨a1, a2⟩ | ⟨a1, a2⟩ <;> rcases key j hj with ⟨b1, b2⟩ | ⟨b1, b2⟩
        · exact h.nod i j m a2 b2
        · rw [b2] at a2; exact absurd a2 (zdL n L 0 hq i)
        · rw [a2] at b2; exact absurd b2 (zdL n L 0 hq j)
        · omega
      · have : ¬ (L.length : Int) ≥ lim := fun q => hl ⟨hp, q⟩
        simp; omega
  · rw [zot h0]; exact h
end Go.AM
namespace Go.AM
open Go
section
variable {lim : Int} {L : List Nd} {K : List (ByteArray × Int)}
theorem ask_inv (o : OpA) (h : Inv lim L) : Inv lim (askR lim L K o).2.2.1 :=
  zmW (Q := fun r => Inv lim r.2.2.1) (fun n => mk_inv h) (fun e => h) o
theorem ask_le (o : OpA) : (askR lim L K o).2.2.1.length ≤ L.length + 1 :=
  zmW (Q := fun r => r.2.2.1.length ≤ L.length + 1) (fun n => by
    by_cases h0 : (mkR lim L K n).2.1 = 0
    · obtain ⟨_, ⟨q, _, e⟩ | ⟨_, _, e⟩⟩ := zjD h0 <;> rw [e] <;> simp
    · rw [zot h0]; simp) (fun e => by simp) o
end
end Go.AM
namespace Go.AM
open Go
def zb4 (n : Nd) : List Nat := ([n.a, n.b, n.c].take (zak n.op).toNat).map Int.toNat
def kids (L : List Nd) (t : Nat) : List Nat := match L[t - 1]? with
  | some n => zb4 n
  | none => []
structure Dag (L : List Nd) : Prop where
  a : ∀ (i : Nat) m, L[i]? = some m → (zak m.op ≥ 1 ∧ 1 ≤ m.a ∧ m.a ≤ i) ∨ (zak m.op < 1 ∧ m.a = 0)
  b : ∀ (i : Nat) m, L[i]? = some m → (zak m.op ≥ 2 ∧ 1 ≤ m.b ∧ m.b ≤ i) ∨ (zak m.op < 2 ∧ m.b = 0)
  c : ∀ (i : Nat) m, L[i]? = some m → (zak m.op ≥ 3 ∧ 1 ≤ m.c ∧ m.c ≤ i) ∨ (zak m.op < 3 ∧ m.c = 0)
theorem Dag.nil : Dag [] := ⟨fun i m h => (by cases h), fun i m h => (by cases h), fun i m h => (by cases h)⟩
theorem ziX {L : List Nd} {n m : Nd} {i : Nat} (h : (L ++ [n])[i]? = some m) : L[i]? = some m ∨ (i = L.length ∧ m = n) := by
  rw [List.getElem?_append] at h
  split at h
  · exact .inl h
  · have : i = L.length := by
      have := (List.getElem?_eq_some_iff.1 h).1
      simp at this; omega
    subst this
    simp at h
    exact .inr ⟨rfl, h.symm⟩
theorem mk_dag {lim : Int} {L : List Nd} {K : List (ByteArray × Int)} {n : Nd} (h : Dag L) : Dag (mkR lim L K n).2.2.1 := by
  by_cases h0 : (mkR lim L K n).2.1 = 0
  · obtain ⟨hr, ⟨q, hq, e⟩ | ⟨hq, hl, e⟩⟩ := zjD h0
    · rw [e]; exact h
    · rw [e]
      have h1 := hr.pt
      have h2 := hr.sp
      unfold zbF at h1
      unfold zeP at h2
      simp only [Bool.or_eq_true, Bool.and_eq_true, decide_eq_true_eq, Bool.not_eq_true', not_or, not_and, Bool.not_eq_false] at h1 h2
      refine ⟨fun i m hm => ?_, fun i m hm => ?_, fun i m hm => ?_⟩
      · rcases ziX hm with hm | ⟨rfl, rfl⟩
        · exact h.a i m hm
        · rcases Int.lt_or_le (zak m.op) 1 with q | q
          · have := h2.1.1.1.1 q; omega
          · have := zbD.1 (h1.1.1 q); omega
      · rcases ziX hm with hm | ⟨rfl, rfl⟩
        · exact h.b i m hm
        · rcases Int.lt_or_le (zak m.op) 2 with q | q
          · have := h2.1.1.1.2 q; omega
          · have := zbD.1 (h1.1.2 q); omega
      · rcases ziX hm with hm | ⟨rfl, rfl⟩
        · exact h.c i m hm
        · rcases Int.lt_or_le (zak m.op) 3 with q | q
          · have := h2.1.1.2 q; omega
          · have := zbD.1 (h1.2 q); omega
  · rw [zot h0]; exact h
theorem ask_dag {lim : Int} {L : List Nd} {K : List (ByteArray × Int)} (o : OpA) (h : Dag L) : Dag (askR lim L K o).2.2.1 :=
  zmW (Q := fun r => Dag r.2.2.1) (fun n => mk_dag h) (fun e => h) o
theorem run_dag {lim : Int} : ∀ (os : List OpA) (L : List Nd) (K : List (ByteArray × Int)), Dag L → Dag (runR lim os L K).1
  | [], L, K, h => h
  | o :: os, L, K, h => run_dag os _ _ (ask_dag o h)
theorem zlC {L : List Nd} (h : Dag L) {i : Nat} {n : Nd} (hn : L[i]? = some n) : (zb4 n).length = (zak n.op).toNat ∧
    (∀ (j : Nat) x, [n.a, n.b, n.c][j]? = some x → j < (zb4 n).length → (zb4 n)[j]? = some x.toNat ∧ 1 ≤ x ∧ x ≤ i) ∧ (∀ c ∈ zb4 n, 1 ≤ c ∧ c ≤ i) := by
  have ha := h.a i n hn
  have hb := h.b i n hn
  have hc := h.c i n hn
  have key : (zb4 n).length = (zak n.op).toNat ∧ (∀ (j : Nat) x, [n.a, n.b, n.c][j]? = some x → j < (zb4 n).length → (zb4 n)[j]? = some x.toNat ∧ 1 ≤ x ∧ x ≤ i) := by
    rcases zbo n.op with q | q | q | q
    · refine ⟨by simp [zb4, q], fun j x hx hj => ?_⟩
      simp [zb4, q] at hj
    · refine ⟨by simp [zb4, q], fun j x hx hj => ?_⟩
      simp [zb4, q] at hj
      subst hj
      simp at hx
      subst hx
      exact ⟨by simp [zb4, q], by omega, by omega⟩
    · refine ⟨by simp [zb4, q], fun j x hx hj => ?_⟩
      simp [zb4, q] at hj
      match j, hj with
      | 0, _ => simp at hx; subst hx; exact ⟨by simp [zb4, q], by omega, by omega⟩
      | 1, _ => simp at hx; subst hx; exact ⟨by simp [zb4, q], by omega, by omega⟩
    · refine ⟨by simp [zb4, q], fun j x hx hj => ?_⟩
      simp [zb4, q] at hj
      match j, hj with
      | 0, _ => simp at hx; subst hx; exact ⟨by simp [zb4, q], by omega, by omega⟩
      | 1, _ => simp at hx; subst hx; exact ⟨by simp [zb4, q], by omega, by omega⟩
      | 2, _ => simp at hx; subst hx; exact ⟨by simp [zb4, q], by omega, by omega⟩
  refine ⟨key.1, key.2, fun c hcm => ?_⟩
  obtain ⟨j, hj⟩ := List.getElem?_of_mem hcm
  have hlt := (List.getElem?_eq_some_iff.1 hj).1
  have hle : j < 3 := by
    have h1 := key.1
    rcases zbo n.op with q | q | q | q <;> rw [q] at h1 <;> simp at h1 <;> omega
  obtain ⟨x, hx⟩ : ∃ x, [n.a, n.b, n.c][j]? = some x := ⟨_, List.getElem?_eq_getElem (by simpa using hle)⟩
  obtain ⟨h1, h2, h3⟩ := key.2 j x hx hlt
  rw [hj] at h1
  cases h1
  omega
theorem zew {L : List Nd} (h : Dag L) {t c : Nat} (ht : 1 ≤ t) (hc : c ∈ kids L t) : 1 ≤ c ∧ c < t := by
  unfold kids at hc
  cases hq : L[t - 1]? with
  | none => rw [hq] at hc; cases hc
  | some n =>
    rw [hq] at hc
    have := (zlC h hq).2.2 c hc
    omega
def visit (L : List Nd) : Nat → Nat → List Nat → List Nat
  | 0, _, out => out
  | k + 1, t, out => if t ∈ out then out else (kids L t).foldl (fun o c => visit L k c o) out ++ [t]
theorem zfU {α β : Type} {f g : α → β → α} : ∀ (l : List β) (a : α), (∀ b ∈ l, ∀ a, f a b = g a b) → l.foldl f a = l.foldl g a
  | [], a, h => rfl
  | b :: l, a, h => by
    rw [List.foldl_cons, List.foldl_cons, h b (List.mem_cons_self ..)]
    exact zfU l _ fun b hb => h b (List.mem_cons_of_mem _ hb)
theorem zoa {L : List Nd} (h : Dag L) : ∀ (t : Nat), 1 ≤ t → ∀ (k m : Nat) (out : List Nat), t ≤ k → t ≤ m → visit L k t out = visit L m t out := by
  intro t
  induction t using Nat.strongRecOn with
  | _ t ih =>
    intro ht k m out hk hm
    cases k with
    | zero => omega
    | succ k =>
      cases m with
      | zero => omega
      | succ m =>
        unfold visit
        split
        · rfl
        · congr 1
          exact zfU _ _ fun c hc o => by
            have := zew h ht hc
            exact ih c this.2 this.1 k m o (by omega) (by omega)
def post (L : List Nd) (t : Nat) (out : List Nat) : List Nat := visit L t t out
def posts (L : List Nd) (l : List Nat) (out : List Nat) : List Nat := l.foldl (fun o c => post L c o) out
theorem zfN {L : List Nd} (h : Dag L) {t : Nat} (ht : 1 ≤ t) (out : List Nat) : post L t out = if t ∈ out then out else posts L (kids L t) out ++ [t] := by
  unfold post posts
  cases t with
  | zero => omega
  | succ t =>
    show (if t + 1 ∈ out then out else _) = _
    split
    · rfl
    · congr 1
      exact zfU _ _ fun c hc o => by
        have := zew h (t := t + 1) ht hc
        exact zoa h c this.1 _ _ o (by omega) (Nat.le_refl _)
theorem post_in {L : List Nd} (h : Dag L) {t : Nat} (ht : 1 ≤ t) {out : List Nat} (hm : t ∈ out) : post L t out = out := by rw [zfN h ht, if_pos hm]
theorem zns {L : List Nd} (h : Dag L) {t : Nat} (ht : 1 ≤ t) {out : List Nat} (hm : t ∉ out) : post L t out = posts L (kids L t) out ++ [t] := by rw [zfN h ht, if_neg hm]
theorem znt {L : List Nd} (h : Dag L) : ∀ (t : Nat), 1 ≤ t → ∀ (out : List Nat), (∀ x ∈ out, x ∈ post L t out) ∧ t ∈ post L t out ∧ (∀ x ∈ post L t out, x ∈ out ∨ (1 ≤ x ∧ x ≤ t)) := by
  intro t
  induction t using Nat.strongRecOn with
  | _ t ih =>
    intro ht out
    rw [zfN h ht]
    split
    · rename_i hm
      exact ⟨fun x hx => hx, hm, fun x hx => .inl hx⟩
    · have key : ∀ (l : List Nat) (o : List Nat), (∀ c ∈ l, c ∈ kids L t) → (∀ x ∈ o, x ∈ posts L l o) ∧ (∀ x ∈ posts L l o, x ∈ o ∨ (1 ≤ x ∧ x < t)) := by
        intro l
        induction l with
        | nil => exact fun o _ => ⟨fun x hx => hx, fun x hx => .inl hx⟩
        | cons c l ihl =>
          intro o hl
          have hc := zew h ht (hl c (List.mem_cons_self ..))
          obtain ⟨g1, g2, g3⟩ := ih c hc.2 hc.1 o
          obtain ⟨k1, k2⟩ := ihl (post L c o) fun c hc => hl c (List.mem_cons_of_mem _ hc)
          refine ⟨fun x hx => k1 x (g1 x hx), fun x hx => ?_⟩
          rcases k2 x hx with q | q
          · rcases g3 x q with q | q
            · exact .inl q
            · exact .inr ⟨q.1, by omega⟩
          · exact .inr q
      obtain ⟨k1, k2⟩ := key (kids L t) out fun c hc => hc
      refine ⟨fun x hx => List.mem_append_left _ (k1 x hx), by simp, fun x hx => ?_⟩
      rcases List.mem_append.1 hx with q | q
      · rcases k2 x q with q | q
        · exact .inl q
        · exact .inr ⟨q.1, by omega⟩
      · rw [List.mem_singleton] at q; subst q; exact .inr ⟨ht, Nat.le_refl _⟩
theorem zdl (L : List Nd) (c : Nat) (l : List Nat) (out : List Nat) : posts L (c :: l) out = posts L l (post L c out) := rfl
theorem zeT {L : List Nd} (h : Dag L) {N : Nat} : ∀ (l : List Nat) (o : List Nat), (∀ c ∈ l, 1 ≤ c ∧ c ≤ N) → (∀ x ∈ o, x ∈ posts L l o) ∧ (∀ x ∈ l, x ∈ posts L l o) ∧ (∀ x ∈ posts L l o, x ∈ o ∨ (1 ≤ x ∧ x ≤ N))
  | [], o, hl => ⟨fun x hx => hx, fun x hx => (by cases hx), fun x hx => .inl hx⟩
  | c :: l, o, hl => by
    have hc := hl c (List.mem_cons_self ..)
    obtain ⟨g1, g2, g3⟩ := znt h c hc.1 o
    obtain ⟨k1, k2, k3⟩ := zeT h l (post L c o) fun c hc => hl c (List.mem_cons_of_mem _ hc)
    refine ⟨fun x hx => k1 x (g1 x hx), fun x hx => ?_, fun x hx => ?_⟩
    · rcases List.mem_cons.1 hx with rfl | hx
      · exact k1 _ g2
      · exact k2 x hx
    · rcases k3 x hx with q | q
      · rcases g3 x q with q | q
        · exact .inl q
        · exact .inr ⟨q.1, by omega⟩
      · exact .inr q
end Go.AM
namespace Go.AM
open Go
theorem zng {α : Type} {P : Program} (T : TypeId) (a : Addr) (hT : ∃ t, P.underlying T = some (.pointer t)) (k : Value → Option α) : pBin P .eql T (.pointer (some a)) (.pointer none) k = k (.bool false) := by
  obtain ⟨t, ht⟩ := hT
  have : eqT P Op.maxDepth T (.pointer (some a)) (.pointer none) = some false := by
    unfold Op.maxDepth
    simp only [eqT, ht]
  simp only [pBin, binV, eqOp, this]
theorem s_pnil0 {α : Type} {P : Program} (T : TypeId) (hT : ∃ t, P.underlying T = some (.pointer t)) (k : Value → Option α) : pBin P .eql T (.pointer none) (.pointer none) k = k (.bool true) := by
  obtain ⟨t, ht⟩ := hT
  have : eqT P Op.maxDepth T (.pointer none) (.pointer none) = some true := by
    unfold Op.maxDepth
    simp only [eqT, ht]; rfl
  simp only [pBin, binV, eqOp, this]
theorem s_bneq {α : Type} {P : Program} (T : TypeId) (a b : Bool) (hT : P.underlying T = some .bool) (k : Value → Option α) : pBin P .neq T (.bool a) (.bool b) k = k (.bool (!(a == b))) := by
  have : eqT P Op.maxDepth T (.bool a) (.bool b) = some (a == b) := by
    unfold Op.maxDepth
    simp only [eqT, hT]
  simp only [pBin, binV, eqOp, this]
end Go.AM
namespace Go.AM
open Go
theorem zkO : ∃ t, Program.underlying PP T.p_term_Store = some (.pointer t) := ⟨T.term_Store, by kernel_rfl⟩
theorem und4 : Program.underlying PP T.bool = some .bool := by kernel_rfl
theorem zcJ {α : Type} (x y : Option α) : br false x y = y := rfl
theorem zda {α : Type} (x y : Option α) : br true x y = x := rfl
structure Fine (os : List OpA) : Prop where
  ok : ∀ o ∈ os, o.Ok
  len : (os.length + 1) * 64 ≤ 2 ^ 47
end Go.AM
namespace Go.AM
open Go Go.ChangeShapes Go.WideShapes Go.ChangeAt Go.RowKit
theorem ze6 {α : Type} {l : List α} {n : Nat} (h : l.length = n + 1) : ∃ a t, l = a :: t ∧ t.length = n := by
  cases l with
  | nil => cases h
  | cons a t => exact ⟨a, t, rfl, by simpa using h⟩
def ks16 : List Sc := [.int .i64, .int .i64, .int .i64, .int .i64, .int .i64, .int .i64, .bool, .int .u64, .str, .int .i64, .int .i64, .int .i64, .int .i64, .int .i64, .int .u64, .str]
theorem opDec (l : List Value) (h : OkL ks16 l) : ∃ o : OpA, o.cells = l ∧ o.Ok := by
  obtain ⟨hl0, hh⟩ := h
  obtain ⟨v0, l0, rfl, hl1⟩ := ze6 hl0
  obtain ⟨v1, l1, rfl, hl2⟩ := ze6 hl1
  obtain ⟨v2, l2, rfl, hl3⟩ := ze6 hl2
  obtain ⟨v3, l3, rfl, hl4⟩ := ze6 hl3
  obtain ⟨v4, l4, rfl, hl5⟩ := ze6 hl4
  obtain ⟨v5, l5, rfl, hl6⟩ := ze6 hl5
  obtain ⟨v6, l6, rfl, hl7⟩ := ze6 hl6
  obtain ⟨v7, l7, rfl, hl8⟩ := ze6 hl7
  obtain ⟨v8, l8, rfl, hl9⟩ := ze6 hl8
  obtain ⟨v9, l9, rfl, hl10⟩ := ze6 hl9
  obtain ⟨v10, l10, rfl, hl11⟩ := ze6 hl10
  obtain ⟨v11, l11, rfl, hl12⟩ := ze6 hl11
  obtain ⟨v12, l12, rfl, hl13⟩ := ze6 hl12
  obtain ⟨v13, l13, rfl, hl14⟩ := ze6 hl13
  obtain ⟨v14, l14, rfl, hl15⟩ := ze6 hl14
  obtain ⟨v15, l15, rfl, hl16⟩ := ze6 hl15
  have : l15 = [] := by cases l15 with | nil => rfl | cons a t => cases hl16
  subst this
  obtain ⟨_, e, n0, rfl, p0, q0⟩ := hh 0 _ rfl
  cases e
  obtain ⟨_, e, n1, rfl, p1, q1⟩ := hh 1 _ rfl
  cases e
  obtain ⟨_, e, n2, rfl, p2, q2⟩ := hh 2 _ rfl
  cases e
  obtain ⟨_, e, n3, rfl, p3, q3⟩ := hh 3 _ rfl
  cases e
  obtain ⟨_, e, n4, rfl, p4, q4⟩ := hh 4 _ rfl
  cases e
  obtain ⟨_, e, n5, rfl, p5, q5⟩ := hh 5 _ rfl
  cases e
  obtain ⟨_, e, n6, rfl⟩ := hh 6 _ rfl
  cases e
  obtain ⟨_, e, n7, rfl, p7, q7⟩ := hh 7 _ rfl
  cases e
  obtain ⟨_, e, n8, rfl⟩ := hh 8 _ rfl
  cases e
  obtain ⟨_, e, n9, rfl, p9, q9⟩ := hh 9 _ rfl
  cases e
  obtain ⟨_, e, n10, rfl, p10, q10⟩ := hh 10 _ rfl
  cases e
  obtain ⟨_, e, n11, rfl, p11, q11⟩ := hh 11 _ rfl
  cases e
  obtain ⟨_, e, n12, rfl, p12, q12⟩ := hh 12 _ rfl
  cases e
  obtain ⟨_, e, n13, rfl, p13, q13⟩ := hh 13 _ rfl
  cases e
  obtain ⟨_, e, n14, rfl, p14, q14⟩ := hh 14 _ rfl
  cases e
  obtain ⟨_, e, n15, rfl⟩ := hh 15 _ rfl
  cases e
  have e1 : IntKind.u64.min = 0 := rfl
  have e2 : IntKind.u64.max = 18446744073709551615 := rfl
  exact ⟨⟨n0, n1, n2, n3, n4, n5, n6, n7, n8, ⟨n9, n10, n11, n12, n13, n14, n15⟩⟩, rfl, ⟨⟨by show 0 ≤ n7; omega, by show n7 < 18446744073709551616; omega⟩, ⟨by show 0 ≤ n14; omega, by show n14 < 18446744073709551616; omega⟩⟩⟩
theorem decL {X : Type} {ks : List Sc} {cells : X → List Value} {Q : X → Prop} (dec : ∀ l, OkL ks l → ∃ o : X, cells o = l ∧ Q o) : ∀ Ls : List (List Value), (∀ l ∈ Ls, OkL ks l) → ∃ os : List X, Ls = os.map cells ∧ ∀ o ∈ os, Q o
  | [], _ => ⟨[], rfl, fun o h => by cases h⟩
  | l :: Ls, h => by
    obtain ⟨o, h1, h2⟩ := dec l (h l (List.mem_cons_self ..))
    obtain ⟨os, h3, h4⟩ := decL dec Ls fun l hl => h l (List.mem_cons_of_mem _ hl)
    refine ⟨o :: os, by rw [h3, List.map_cons, h1], fun x hx => ?_⟩
    rcases List.mem_cons.1 hx with rfl | hx
    · exact h2
    · exact h4 x hx
open Go.Proofs.YtkfhklmklhnfaaaGreatDoor in
theorem bulk1 {HH : Type} (d : DataW HH) : 1 ≤ Rows.uptoBulk d := by
  cases d <;> first | (rename_i l; cases l <;> simp [Rows.uptoBulk]) | simp [Rows.uptoBulk]
open Go.Proofs.YtkfhklmklhnfaaaGreatDoor in
theorem zkD {HH : Type} : ∀ es : List (DataW HH), es.length ≤ Rows.uptoBulkAll es
  | [] => Nat.zero_le _
  | d :: r => by
    have := zkD r
    have := bulk1 d
    simp only [Rows.uptoBulkAll, List.length_cons]
    omega
theorem flat46 : flat PP 3 T.cadencelaw07_Op = some ks16 := by kernel_rfl
theorem zof {HH : Type} {enc : TypeId × Value → HH} {W : World} {H : Hp} {β : Bt} (hR : Rel PP W H β) (hno : ∀ i o, H.get i = some o → o.own = false) {b0 : Nat} {v' : Value} {dw : DataW HH} {ps : List MemPlace}
    (hval : Value.okWide PP W .any b0 T.sl_cadencelaw07_Op v') (hd : DataW.Trod enc PP W 0 (fun _ => true) true T.sl_cadencelaw07_Op v' dw ps) :
    ∃ (v : Value) (H' : Hp) (β' : Bt) (os : List OpA), Rel PP W H' β' ∧ (∀ i o, H'.get i = some o → o.own = false) ∧ β.le β' ∧ VRel β' v v' ∧ ScR H' v os ∧ (∀ o ∈ os, o.Ok) ∧ os.length ≤ Go.Proofs.YtkfhklmklhnfaaaGreatDoor.Rows.uptoBulk dw ∧ Frm (fun _ => False) H H' := by
  obtain ⟨v, H', β', g1, g2, g3, g4, g5⟩ := zl4 (P := PP) (t := T.sl_cadencelaw07_Op) (e := T.cadencelaw07_Op) (d := 3) (ks := ks16) (by kernel_rfl) flat46 (by kernel_rfl) (by decide) hR hno hval hd
  rcases g5 with ⟨rfl, rfl, rfl⟩ | ⟨L, es, sp, rfl, rfl, h1, rfl, h2⟩
  · exact ⟨_, _, β', [], g1, g2, g3, g4, .inl ⟨rfl, rfl⟩, fun o h => (by cases h), by simp, Frm.refl _ _⟩
  · obtain ⟨os, h3, h4⟩ := decL (cells := OpA.cells) opDec L h1
    subst h3
    refine ⟨_, _, β', os, g1, g2, g3, g4, .inr ⟨H.next, ?_, ?_, ?_⟩, h4, ?_, zc8 _ _ _⟩
    · rw [List.length_map]; rfl
    · rw [zfT, if_pos rfl, List.flatMap_def]
    · show H.next < H.next + 1; omega
    · have := zkD es
      rw [List.length_map] at h2
      simp only [Go.Proofs.YtkfhklmklhnfaaaGreatDoor.Rows.uptoBulk]
      omega
end Go.AM
namespace Go.AM
open Go
theorem nodes_at (L : List Nd) : ∀ i n, L[i]? = some n → ((L.flatMap Nd.cells).drop (i * 7)).take 7 = n.cells := by
  induction L with
  | nil => intro i o h; cases h
  | cons a L ih =>
    intro i o h
    have h7 : ∀ n : Nd, n.cells.length = 7 := fun n => rfl
    rw [List.flatMap_cons]
    cases i with
    | zero => cases h; rw [Nat.zero_mul, qd0, List.take_append_of_le_length (by rw [h7]; omega), List.take_of_length_le (by rw [h7]; omega)]
    | succ i =>
      rw [List.drop_append, List.drop_of_length_le (by rw [h7]; omega), h7, List.nil_append, show (i + 1) * 7 - 7 = i * 7 by omega]
      exact ih i o h
theorem ld7 {α : Type} {H : Hp} {L : List Nd} {y : Nat} {b : Bool} (h : H.get y = some (.cells (L.flatMap Nd.cells) b)) {i : Nat} {n : Nd} (ho : L[i]? = some n) (k : Value → Option α) :
    zaj 7 true H (.pointer (some ⟨y, i * 7, none⟩)) k = k n.val := by
  have hlt : i < L.length := (List.getElem?_eq_some_iff.1 ho).1
  have h1 : i * 7 + 7 ≤ (L.flatMap Nd.cells).length := by rw [zkw]; omega
  simp only [zaj, Hp.rdP, Hp.rd, h, zbZ, h1, if_true, nodes_at L i n ho]
  rfl
theorem SlR.ix {H : Hp} {L : List Nd} {sl : Value} (h : SlR H sl L) {i : Nat} (hi : i < L.length) {α : Type} :
    ∃ y, H.get y = some (.cells (L.flatMap Nd.cells) true) ∧ ∀ (k : Value → Option α), pIdx 7 sl (.int .i64 (i : Int)) k = k (.pointer (some ⟨y, i * 7, none⟩)) := by
  rcases h with ⟨rfl, _⟩ | ⟨y, rfl, hy⟩
  · cases hi
  · refine ⟨y, hy, fun k => ?_⟩
    unfold pIdx idxV
    have : (7 : Nat) = 7 ∧ (0 : Int) ≤ (i : Int) ∧ (i : Int) < (L.length : Int) := ⟨rfl, by omega, by omega⟩
    simp only [this, and_self, if_true, Nat.zero_add, Int.toNat_natCast]
end Go.AM
namespace Go.AM
open Go
structure One (H : Hp) (lim : Int) (L : List Nd) (K : List (ByteArray × Int)) (p f g : Nat) (sl : Value) (H' : Hp) (L' : List Nd) (K' : List (ByteArray × Int)) (sl' : Value) : Prop where
  st : StF H' p lim L' K' sl' f g
  next : H.next ≤ H'.next
  same : ∀ j, j < H.next → ¬ Foot p f g sl j → H'.get j = H.get j
  foot : ∀ j, Foot p f g sl' j → Foot p f g sl j ∨ H.next ≤ j
theorem One.refl {H : Hp} {lim : Int} {L : List Nd} {K : List (ByteArray × Int)} {p f g : Nat} {sl : Value} (h : StF H p lim L K sl f g) : One H lim L K p f g sl H L K sl := ⟨h, Nat.le_refl _, fun _ _ _ => rfl, fun _ a => .inl a⟩
theorem One.trans {H : Hp} {lim : Int} {L : List Nd} {K : List (ByteArray × Int)} {p f g : Nat} {sl : Value} {H1 : Hp} {L1 : List Nd} {K1 : List (ByteArray × Int)} {s1 : Value} {H2 : Hp} {L2 : List Nd} {K2 : List (ByteArray × Int)} {s2 : Value}
    (h : One H lim L K p f g sl H1 L1 K1 s1) (k : One H1 lim L1 K1 p f g s1 H2 L2 K2 s2) : One H lim L K p f g sl H2 L2 K2 s2 := by
  refine ⟨k.st, Nat.le_trans h.next k.next, fun j hj a => ?_, fun j a => ?_⟩
  · rw [k.same j (Nat.lt_of_lt_of_le hj h.next) (fun b => by rcases h.foot j b with c | c; exact a c; omega), h.same j hj a]
  · rcases k.foot j a with b | b
    · exact h.foot j b
    · exact .inr (Nat.le_trans h.next b)
theorem Does.one {H : Hp} {lim : Int} {L : List Nd} {K : List (ByteArray × Int)} {p f g : Nat} {sl : Value} {fn : FuncId} {xs : List Value} {r : Res} (h : Does H p lim sl f g fn xs r) :
    ∃ H' sl', RR fn (.pointer (some ⟨p, 0, none⟩) :: xs) H = some (.tuple #[.int .i64 r.1, .int .i64 r.2.1], H') ∧ One H lim L K p f g sl H' r.2.2.1 r.2.2.2 sl' := by
  obtain ⟨H', sl', h1, h2⟩ := h
  exact ⟨H', sl', h1, h2.st, h2.next, fun j a b => h2.same a b, fun j a => h2.foot a⟩
theorem ScR.one {H : Hp} {lim : Int} {L : List Nd} {K : List (ByteArray × Int)} {p f g : Nat} {sl : Value} {H1 : Hp} {L1 : List Nd} {K1 : List (ByteArray × Int)} {s1 : Value} {x : Value} {os : List OpA} (hx : ScR H x os)
    (hst : StF H p lim L K sl f g) (h : One H lim L K p f g sl H1 L1 K1 s1) : ScR H1 x os :=
  hx.keep (fun y cs h1 h2 => by rw [h.same y h1 (fun a => by obtain ⟨o, g1, g2⟩ := hst.own a; rw [h2] at g1; cases g1; cases g2)]; exact h2) h.next
theorem zfk {a b c i : Nat} (z : Foot a b c (.slice none 0 0) i) : i = a ∨ i = b ∨ i = c := by
  rcases z with z | z | z | z
  · exact .inl z
  · exact .inr (.inl z)
  · exact .inr (.inr z)
  · cases z
theorem s_pneq {α : Type} {P : Program} (T : TypeId) (a : Addr) (hT : ∃ t, P.underlying T = some (.pointer t)) (k : Value → Option α) : pBin P .neq T (.pointer (some a)) (.pointer none) k = k (.bool true) := by
  obtain ⟨t, ht⟩ := hT
  have : eqT P Op.maxDepth T (.pointer (some a)) (.pointer none) = some false := by
    unfold Op.maxDepth
    simp only [eqT, ht]
  simp only [pBin, binV, eqOp, this]; rfl
theorem s_pneq0 {α : Type} {P : Program} (T : TypeId) (hT : ∃ t, P.underlying T = some (.pointer t)) (k : Value → Option α) : pBin P .neq T (.pointer none) (.pointer none) k = k (.bool false) := by
  obtain ⟨t, ht⟩ := hT
  have : eqT P Op.maxDepth T (.pointer none) (.pointer none) = some true := by
    unfold Op.maxDepth
    simp only [eqT, ht]; rfl
  simp only [pBin, binV, eqOp, this]; rfl
theorem s_beql {α : Type} {P : Program} (T : TypeId) (a b : Bool) (hT : P.underlying T = some .bool) (k : Value → Option α) : pBin P .eql T (.bool a) (.bool b) k = k (.bool (a == b)) := by
  have : eqT P Op.maxDepth T (.bool a) (.bool b) = some (a == b) := by
    unfold Op.maxDepth
    simp only [eqT, hT]
  simp only [pBin, binV, eqOp, this]
theorem ncell2 {α : Type} (n : Nd) (k : Value → Option α) : zag 1 false n.cells 2 k = k (.int .i64 n.a) := zbT _ 2 _ rfl k
theorem ncell3 {α : Type} (n : Nd) (k : Value → Option α) : zag 1 false n.cells 3 k = k (.int .i64 n.b) := zbT _ 3 _ rfl k
theorem ncell4 {α : Type} (n : Nd) (k : Value → Option α) : zag 1 false n.cells 4 k = k (.int .i64 n.c) := zbT _ 4 _ rfl k
end Go.AM
namespace Go.AM
open Go
def ints (l : List Nat) : List Value := l.map fun (t : Nat) => Value.int .i64 (t : Int)
def zkE (l : List Bool) : List Value := l.map .bool
def plc (x : Nat × Nat) : List Value := [.int .i64 (x.1 : Int), .int .i64 (x.2 : Int)]
def zb5 (l : List (Nat × Nat)) : List Value := l.flatMap plc
theorem ints_app (l m : List Nat) : ints (l ++ m) = ints l ++ ints m := by simp [ints]
theorem zeg : ∀ l : List (Nat × Nat), (zb5 l).length = l.length * 2
  | [] => rfl
  | x :: l => by
    show (plc x ++ zb5 l).length = _
    rw [List.length_append, zeg l, List.length_cons]
    show 2 + _ = _; omega
theorem zeh (l m : List (Nat × Nat)) : zb5 (l ++ m) = zb5 l ++ zb5 m := by simp [zb5]
theorem zjn : ∀ l : List (Nat × Nat), (zb5 l).all one = true
  | [] => rfl
  | x :: l => by
    show (plc x ++ zb5 l).all one = true
    rw [List.all_append, zjn l]; rfl
theorem zms (l : List (Nat × Nat)) (x : Nat × Nat) : (zb5 (l ++ [x]))[l.length * 2]? = some (.int .i64 (x.1 : Int)) ∧ (zb5 (l ++ [x]))[l.length * 2 + 1]? = some (.int .i64 (x.2 : Int)) := by
  rw [zeh]
  have h := zeg l
  constructor
  · rw [List.getElem?_append_right (by omega), h, Nat.sub_self]; rfl
  · rw [List.getElem?_append_right (by omega), h, Nat.add_sub_cancel_left]; rfl
structure PS (H0 H : Hp) (lv : Value) (out : List Nat) (sv : Value) (stk : List (Nat × Nat)) (bv : Value) (seen : List Bool) : Prop where
  next : H0.next ≤ H.next
  old : ∀ j, j < H0.next → H.get j = H0.get j
  l : Vec H 1 lv out.length (ints out)
  s : Vec H 2 sv stk.length (zb5 stk)
  b : Vec H 1 bv seen.length (zkE seen)
  al : ∀ j, Id lv j → H0.next ≤ j
  as' : ∀ j, Id sv j → H0.next ≤ j
  ab : ∀ j, Id bv j → H0.next ≤ j
  ls : ∀ j, Id lv j → ¬ Id sv j
  lb : ∀ j, Id lv j → ¬ Id bv j
  sb : ∀ j, Id sv j → ¬ Id bv j
section
variable {H0 H : Hp} {lv sv bv : Value} {out : List Nat} {stk : List (Nat × Nat)} {seen : List Bool} (h : PS H0 H lv out sv stk bv seen)
include h
theorem PS.at0 {p f g : Nat} {lim : Int} {L : List Nd} {K : List (ByteArray × Int)} {sl : Value} (hst : StF H0 p lim L K sl f g) : StF H p lim L K sl f g :=
  hst.keep (fun i hi => h.old i (hst.foot_lt hi)) h.next
theorem PS.see {i : Nat} (hi : i < seen.length) : ∃ y, Id bv y ∧ (∀ (α : Type) (kd : IntKind) (k : Value → Option α), pIdx 1 bv (.int kd (i : Int)) k = k (.pointer (some ⟨y, i * 1, none⟩))) ∧
    ∃ H', (∀ (α : Type) (k : Hp → Option α), zam 1 H (.pointer (some ⟨y, i * 1, none⟩)) (.bool true) k = k H') ∧ PS H0 H' lv out sv stk bv (seen.set i true) ∧ H'.next = H.next := by
  obtain ⟨y, hy, _, hix⟩ := h.b.ix hi
  have hl : (zkE seen).length = seen.length := by simp [zkE]
  obtain ⟨H', h1, h2, h3, h4⟩ := h.b.set hy (m := 1) (o := i * 1) (x := .bool true) rfl (by rw [hl]; omega) rfl
  refine ⟨y, hy, hix, H', h1, ⟨?_, fun j hj => ?_, h.l.keep h3 h.lb, h.s.keep h3 h.sb, ?_, h.al, h.as', h.ab, h.ls, h.lb, h.sb⟩, h4⟩
  · rw [h4]; exact h.next
  · rw [h3.same j (Nat.lt_of_lt_of_le hj h.next) (fun q => by have := h.ab j q; omega), h.old j hj]
  · have e : spl (zkE seen) (i * 1) (zab (.bool true)) = zkE (seen.set i true) := by
      unfold spl zkE
      show (seen.map Value.bool).take (i * 1) ++ [Value.bool true] ++ (seen.map Value.bool).drop (i * 1 + 1) = _
      rw [Nat.mul_one, List.map_set, List.set_eq_take_append_cons_drop, if_pos (by simpa using hi)]
      simp
    rw [e] at h2
    rw [List.length_set]; exact h2
theorem PS.seen_at {i : Nat} {b : Bool} (hi : seen[i]? = some b) : ∃ y, Id bv y ∧ (∀ (α : Type) (kd : IntKind) (k : Value → Option α), pIdx 1 bv (.int kd (i : Int)) k = k (.pointer (some ⟨y, i * 1, none⟩))) ∧
    (∀ (α : Type) (k : Value → Option α), zaj 1 false H (.pointer (some ⟨y, i * 1, none⟩)) k = k (.bool b)) := by
  have hlt := (List.getElem?_eq_some_iff.1 hi).1
  obtain ⟨y, hy, ⟨rest, hg⟩, hix⟩ := h.b.ix hlt
  exact ⟨y, hy, hix, fun α k => ziy hg (by rw [Nat.mul_one]; unfold zkE; rw [List.getElem?_map, hi]; rfl) k⟩
theorem PS.push (t : Nat) {zs : List Value} (hz : zs.length = 2) (hb : (stk.length + 1) * 16 ≤ 2 ^ 47) :
    ∃ sv' H', (∀ (α : Type) (k : Value → Hp → Option α), (zao 2 zs 1 [(0, .agg #[.int .i64 (t : Int), .int .i64 0])] H fun x H1 => zaF 2 16 sv x H1 k) = k sv' H') ∧ PS H0 H' lv out sv' (stk ++ [(t, 0)]) bv seen := by
  obtain ⟨sv', H', h1, h2, h3, h4, h5⟩ := h.s.push (bytes := 16) (zs := zs) (x := .agg #[.int .i64 (t : Int), .int .i64 0]) (by decide) (by decide) hz rfl rfl hb
  have hn := h.next
  refine ⟨sv', H', h1, ⟨Nat.le_trans h.next h3.next, fun j hj => ?_, h.l.keep h3 h.ls, ?_, h.b.keep h3 (fun j a b => h.sb j b a), h.al, fun j hj => ?_, h.ab, fun j a b => ?_, h.lb, fun j a b => ?_⟩⟩
  · rw [h3.same j (Nat.lt_of_lt_of_le hj h.next) (fun q => by have := h.as' j q; omega), h.old j hj]
  · have : zb5 (stk ++ [(t, 0)]) = zb5 stk ++ zab (.agg #[.int .i64 (t : Int), .int .i64 0]) := by rw [zeh]; rfl
    rw [this, List.length_append]; exact h2
  · rcases h4 j hj with q | q
    · exact h.as' j q
    · omega
  · rcases h4 j b with q | q
    · exact h.ls j a q
    · have := h.l.lt a; omega
  · rcases h4 j a with q | q
    · exact h.sb j q b
    · have := h.b.lt b; omega
theorem PS.pop {below : List (Nat × Nat)} {x : Nat × Nat} (hs : stk = below ++ [x]) : ∃ sv', (∀ (α : Type) (kd : IntKind) (k : Value → Option α), zc3 2 sv none (some (.int kd (below.length : Int))) k = k sv') ∧ PS H0 H lv out sv' below bv seen := by
  subst hs
  obtain ⟨sv', h1, h2, h3⟩ := h.s.cut (zjn _) (m := below.length) (by simp)
  refine ⟨sv', h1, ⟨h.next, h.old, h.l, ?_, h.b, h.al, fun j a => h.as' j (h3 j a), h.ab, fun j a b => h.ls j a (h3 j b), h.lb, fun j a b => h.sb j (h3 j a) b⟩⟩
  rw [zeh, List.take_left' (zeg below)] at h2
  exact h2
theorem PS.tell (t : Nat) (hb : (out.length + 1) * 8 ≤ 2 ^ 47) :
    ∃ lv' H', (∀ (α : Type) (k : Value → Hp → Option α), (zao 1 [.int .i64 0] 1 [(0, .int .i64 (t : Int))] H fun x H1 => zaF 1 8 lv x H1 k) = k lv' H') ∧ PS H0 H' lv' (out ++ [t]) sv stk bv seen := by
  obtain ⟨lv', H', h1, h2, h3, h4, h5⟩ := h.l.push (bytes := 8) (zs := [.int .i64 0]) (x := .int .i64 (t : Int)) (by decide) (by decide) rfl rfl rfl hb
  have hn := h.next
  refine ⟨lv', H', h1, ⟨Nat.le_trans h.next h3.next, fun j hj => ?_, ?_, h.s.keep h3 (fun j a b => h.ls j b a), h.b.keep h3 (fun j a b => h.lb j b a), fun j hj => ?_, h.as', h.ab, fun j a b => ?_, fun j a b => ?_, h.sb⟩⟩
  · rw [h3.same j (Nat.lt_of_lt_of_le hj h.next) (fun q => by have := h.al j q; omega), h.old j hj]
  · rw [ints_app, List.length_append]; exact h2
  · rcases h4 j hj with q | q
    · exact h.al j q
    · omega
  · rcases h4 j a with q | q
    · exact h.ls j q b
    · have := h.s.lt b; omega
  · rcases h4 j a with q | q
    · exact h.lb j q b
    · have := h.b.lt b; omega
theorem PS.step {below : List (Nat × Nat)} {t j : Nat} (hs : stk = below ++ [(t, j)]) : ∃ y, (∀ (α : Type) (kd : IntKind) (k : Value → Option α), pIdx 2 sv (.int kd (below.length : Int)) k = k (.pointer (some ⟨y, below.length * 2, none⟩))) ∧
    (∀ (α : Type) (k : Value → Option α), zaj 1 false H (.pointer (some ⟨y, below.length * 2, none⟩)) k = k (.int .i64 (t : Int))) ∧
    (∀ (α : Type) (k : Value → Option α), zaj 1 false H (.pointer (some ⟨y, below.length * 2 + 1, none⟩)) k = k (.int .i64 (j : Int))) ∧
    Hp.rdP H (.pointer (some ⟨y, below.length * 2 + 1, none⟩)) 1 false = some (.int .i64 (j : Int)) ∧
    ∃ H', (∀ (α : Type) (k : Hp → Option α), zam 1 H (.pointer (some ⟨y, below.length * 2 + 1, none⟩)) (.int .i64 ((j + 1 : Nat) : Int)) k = k H') ∧ PS H0 H' lv out sv (below ++ [(t, j + 1)]) bv seen := by
  subst hs
  have hlt : below.length < (below ++ [(t, j)]).length := by simp
  obtain ⟨y, hy, ⟨rest, hg⟩, hix⟩ := h.s.ix hlt
  obtain ⟨p1, p2⟩ := zms below (t, j)
  have hl : (zb5 (below ++ [(t, j)])).length = below.length * 2 + 2 := by rw [zeg, List.length_append]; simp; omega
  obtain ⟨H', h1, h2, h3, h4⟩ := h.s.set hy (m := 1) (o := below.length * 2 + 1) (x := .int .i64 ((j + 1 : Nat) : Int)) rfl (by rw [hl]; omega) rfl
  refine ⟨y, hix, fun α k => ziy hg p1 k, fun α k => ziy hg p2 k, ?_, H', h1, ⟨by rw [h4]; exact h.next, fun i hi => ?_, h.l.keep h3 h.ls, ?_, h.b.keep h3 (fun i a b => h.sb i b a), h.al, h.as', h.ab, h.ls, h.lb, h.sb⟩⟩
  · have : (zb5 (below ++ [(t, j)]) ++ rest)[below.length * 2 + 1]? = some (.int .i64 (j : Int)) := by rw [List.getElem?_append_left (by omega)]; exact p2
    simp only [Hp.rdP, Hp.rd, hg, zbZ, this]
  · rw [h3.same i (Nat.lt_of_lt_of_le hi h.next) (fun q => by have := h.as' i q; omega), h.old i hi]
  · have e : spl (zb5 (below ++ [(t, j)])) (below.length * 2 + 1) (zab (.int .i64 ((j + 1 : Nat) : Int))) = zb5 (below ++ [(t, j + 1)]) := by
      rw [zeh, zeh]
      unfold spl
      have hb := zeg below
      show (zb5 below ++ [Value.int .i64 (t : Int), Value.int .i64 (j : Int)]).take (below.length * 2 + 1) ++ [Value.int .i64 ((j + 1 : Nat) : Int)] ++ (zb5 below ++ [Value.int .i64 (t : Int), Value.int .i64 (j : Int)]).drop (below.length * 2 + 1 + 1) = zb5 below ++ [Value.int .i64 (t : Int), Value.int .i64 ((j + 1 : Nat) : Int)]
      rw [List.take_append, hb, List.drop_append, hb, List.take_of_length_le (by omega), List.drop_of_length_le (by omega), Nat.add_sub_cancel_left, show below.length * 2 + 1 + 1 - below.length * 2 = 2 by omega]
      simp
    rw [e] at h2
    rw [List.length_append] at h2 ⊢
    exact h2
end
end Go.AM
namespace Go.AM
open Go
theorem ziq : ∀ (n : Nat) (l : List Nat), l.Nodup → (∀ x ∈ l, 1 ≤ x ∧ x ≤ n) → l.length ≤ n
  | 0, l, _, h => by
    cases l with
    | nil => simp
    | cons a l => have := h a (List.mem_cons_self ..); omega
  | n + 1, l, hn, h => by
    by_cases hm : n + 1 ∈ l
    · have h1 := ziq n (l.erase (n + 1)) (hn.erase _) fun x hx => by
        have := (List.Nodup.mem_erase_iff hn).1 hx
        have := h x this.2
        omega
      rw [List.length_erase_of_mem hm] at h1
      omega
    · have := ziq n l hn fun x hx => by
        have := h x hx
        have : x ≠ n + 1 := fun e => hm (e ▸ hx)
        omega
      omega
theorem zmr {L : List Nd} (h : Dag L) : ∀ (t : Nat), 1 ≤ t → ∀ (out : List Nat), out.Nodup → (post L t out).Nodup := by
  intro t
  induction t using Nat.strongRecOn with
  | _ t ih =>
    intro ht out hn
    rw [zfN h ht]
    split
    · exact hn
    · rename_i hm
      have key : ∀ (l : List Nat) (o : List Nat), (∀ c ∈ l, c ∈ kids L t) → o.Nodup → (posts L l o).Nodup := by
        intro l
        induction l with
        | nil => exact fun o _ h => h
        | cons c l ihl =>
          intro o hl ho
          have hc := zew h ht (hl c (List.mem_cons_self ..))
          exact ihl _ (fun c hc => hl c (List.mem_cons_of_mem _ hc)) (ih c hc.2 hc.1 o ho)
      refine List.nodup_append.2 ⟨key _ _ (fun c hc => hc) hn, by simp, fun x hx y hy => ?_⟩
      rw [List.mem_singleton] at hy
      subst hy
      intro e
      subst e
      rcases (zeT h (N := x - 1) (kids L x) out fun c hc => by have := zew h ht hc; omega).2.2 x hx with q | q
      · exact hm q
      · omega
theorem znr {L : List Nd} (h : Dag L) : ∀ (l : List Nat) (o : List Nat), (∀ c ∈ l, 1 ≤ c) → o.Nodup → (posts L l o).Nodup
  | [], o, _, ho => ho
  | c :: l, o, hl, ho => znr h l _ (fun c hc => hl c (List.mem_cons_of_mem _ hc)) (zmr h c (hl c (List.mem_cons_self ..)) o ho)
structure Seen (N : Nat) (seen : List Bool) (out : List Nat) (stk : List (Nat × Nat)) : Prop where
  len : seen.length = N + 1
  at' : ∀ x, x ≤ N → seen[x]? = some (decide (x ∈ out ∨ x ∈ stk.map Prod.fst))
structure Told (N : Nat) (out : List Nat) : Prop where
  nd : out.Nodup
  bd : ∀ x ∈ out, 1 ≤ x ∧ x ≤ N
theorem Told.len {N : Nat} {out : List Nat} (h : Told N out) : out.length ≤ N := ziq N out h.nd h.bd
theorem Told.posts {L : List Nd} {N : Nat} {out l : List Nat} (h : Told N out) (hd : Dag L) (hl : ∀ c ∈ l, 1 ≤ c ∧ c ≤ N) : Told N (posts L l out) :=
  ⟨znr hd l out (fun c hc => (hl c hc).1) h.nd, fun x hx => by
    rcases (zeT hd l out hl).2.2 x hx with q | q
    · exact h.bd x q
    · exact q⟩
theorem arr3 {α : Type} {a b c : Int} {j : Nat} {x : Int} (h : [a, b, c][j]? = some x) (k : Value → Option α) : zdw 3 false 1 (.agg #[.int .i64 a, .int .i64 b, .int .i64 c]) (.int .i64 (j : Int)) k = k (.int .i64 x) := by
  match j, h with
  | 0, h => cases h; rfl
  | 1, h => cases h; rfl
  | 2, h => cases h; rfl
  | n + 3, h => simp at h
theorem build72 {α : Type} (t : Int) (k : Value → Option α) : zau PP T.term_place [(0, .int .i64 t), (1, .int .i64 0)] k = k (.agg #[.int .i64 t, .int .i64 0]) := bld (by kernel_rfl) k
theorem zgr {α : Type} (n : Nd) (k : Value → Option α) : zag 1 false n.cells 0 k = k (.int .i64 n.op) := zbT _ 0 _ rfl k
theorem zgm (op : Int) : (0 : Int) ≤ zak op ∧ zak op ≤ 3 := by rcases zbo op with q | q | q | q <;> rw [q] <;> decide
theorem Seen.told {N : Nat} {seen : List Bool} {out : List Nat} {below : List (Nat × Nat)} {t j : Nat} (h : Seen N seen out (below ++ [(t, j)])) : Seen N seen (out ++ [t]) below :=
  ⟨h.len, fun x hx => by
    rw [h.at' x hx]
    congr 2
    simp only [List.map_append, List.map_cons, List.map_nil, List.mem_append, List.mem_singleton, eq_iff_iff]
    constructor
    · rintro (q | q | q)
      · exact .inl (.inl q)
      · exact .inr q
      · exact .inl (.inr q)
    · rintro ((q | q) | q)
      · exact .inl q
      · exact .inr (.inr q)
      · exact .inr (.inl q)⟩
theorem Seen.next {N : Nat} {seen : List Bool} {out : List Nat} {below : List (Nat × Nat)} {t j i : Nat} (h : Seen N seen out (below ++ [(t, j)])) : Seen N seen out (below ++ [(t, i)]) :=
  ⟨h.len, fun x hx => by rw [h.at' x hx]; congr 2; simp⟩
theorem Seen.add {N : Nat} {seen : List Bool} {out : List Nat} {stk : List (Nat × Nat)} {c i : Nat} (h : Seen N seen out stk) (hc : c ≤ N) : Seen N (seen.set c true) out (stk ++ [(c, i)]) :=
  ⟨by rw [List.length_set]; exact h.len, fun x hx => by
    rw [List.getElem?_set]
    by_cases e : c = x
    · subst e
      rw [if_pos rfl, if_pos (by rw [h.len]; omega)]
      simp
    · rw [if_neg e, h.at' x hx]
      congr 2
      have : ¬ x = c := fun q => e q.symm
      simp [this]⟩
section
variable {H0 : Hp} {p f g : Nat} {lim : Int} {L : List Nd} {K : List (ByteArray × Int)} {sl : Value} (hst : StF H0 p lim L K sl f g) (hd : Dag L) (hL : L.length * 64 ≤ 2 ^ 46) (bv : Value)
include hst hd hL
theorem fwd : ∀ t, 1 ≤ t → t ≤ L.length → ∀ (m j : Nat), j + m = (kids L t).length → ∀ (out : List Nat) (below : List (Nat × Nat)) (seen : List Bool) (H : Hp) (lv sv : Value),
    PS H0 H lv out sv (below ++ [(t, j)]) bv seen → Seen L.length seen out (below ++ [(t, j)]) → Told L.length out → (∀ x ∈ below, t < x.1) → below.length + t ≤ L.length → t ∉ out →
    ∃ H' lv' sv' seen', zaG (zat RR (.pointer (some ⟨p, 0, none⟩)) bv) [lv, sv] H = zaG (zat RR (.pointer (some ⟨p, 0, none⟩)) bv) [lv', sv'] H' ∧
      PS H0 H' lv' (posts L ((kids L t).drop j) out ++ [t]) sv' below bv seen' ∧ Seen L.length seen' (posts L ((kids L t).drop j) out ++ [t]) below := by
  intro t
  induction t using Nat.strongRecOn with
  | _ t ih =>
    intro h1 hN m
    obtain ⟨n, hn⟩ : ∃ n, L[t - 1]? = some n := ⟨_, List.getElem?_eq_getElem (by omega)⟩
    have hk : kids L t = zb4 n := by unfold kids; rw [hn]
    obtain ⟨kl, kg, kb⟩ := zlC hd hn
    have hpn := zgm n.op
    induction m with
    | zero =>
      intro j hj out below seen H lv sv hp hs ht hb hbl hto
      have hst' := hp.at0 hst
      obtain ⟨y, e1, e2, e3, e4, _⟩ := hp.step rfl
      obtain ⟨sl', hsl, hix⟩ := hst'.st.all.ix (i := t - 1) (by omega) (α := Outc)
      have hol := ht.len
      obtain ⟨lv1, H1, t1, p1⟩ := hp.tell t (by omega)
      obtain ⟨sv1, c1, p2⟩ := p1.pop rfl
      have hlen : (below ++ [(t, j)]).length = below.length + 1 := by simp
      have w1 : IntKind.i64.wrap (((below.length + 1 : Nat) : Int) - 1) = (below.length : Int) := by rw [za8 (by omega) (by omega)]; omega
      have w2 : IntKind.i64.wrap ((t : Int) - 1) = ((t - 1 : Nat) : Int) := by rw [za8 (by omega) (by omega)]; omega
      have q1 : ((below.length + 1 : Nat) : Int) > 0 := by omega
      have hjp : (j : Int) = zak n.op := by rw [hk, kl] at hj; omega
      have e4' := e4
      rw [hjp] at e4'
      have hls : ∀ {α : Type} (H' : Hp) (k : Value → Option α), pLen .sl sv H' k = k (.int .i64 ((below.length + 1 : Nat) : Int)) := fun H' k => by rw [hp.s.len, hlen]
      have hdrop : (kids L t).drop j = [] := List.drop_of_length_le (by omega)
      rw [hdrop]
      refine ⟨H1, lv1, sv1, seen, ?_, p2, hs.told⟩
      rw [zan]
      have : zat RR (.pointer (some ⟨p, 0, none⟩)) bv [lv, sv] H = some (.next, [lv1, sv1], H1) := by
        unfold zat
        simp only [qg1, qg0, hls, zca, q1, decide_true, zaf, zda, zd4, w1, e1, zbm, zaE, Nat.zero_add, Nat.add_zero, hst'.st.l1, e2, e3, w2, hix, ld7 hsl hn, spl7, zgr, zah (c29 _ _), zfG e4', za4, hjp, t1, c1]
      rw [this]; rfl
    | succ m ihm =>
      intro j hj out below seen H lv sv hp hs ht hb hbl hto
      have hst' := hp.at0 hst
      obtain ⟨y, e1, e2, e3, e4, H1, e5, p1⟩ := hp.step rfl
      obtain ⟨sl', hsl, hix⟩ := hst'.st.all.ix (i := t - 1) (by omega) (α := Outc)
      have hlen : (below ++ [(t, j)]).length = below.length + 1 := by simp
      have w1 : IntKind.i64.wrap (((below.length + 1 : Nat) : Int) - 1) = (below.length : Int) := by rw [za8 (by omega) (by omega)]; omega
      have w2 : IntKind.i64.wrap ((t : Int) - 1) = ((t - 1 : Nat) : Int) := by rw [za8 (by omega) (by omega)]; omega
      have w3 : IntKind.i64.wrap ((j : Int) + 1) = ((j + 1 : Nat) : Int) := by
        have : j < 3 := by rw [hk, kl] at hj; omega
        exact za8 (by omega) (by omega)
      have q1 : ((below.length + 1 : Nat) : Int) > 0 := by omega
      have hjp : ¬ (j : Int) = zak n.op := by rw [hk, kl] at hj; omega
      have hj3 : j < 3 := by rw [hk, kl] at hj; omega
      obtain ⟨x, hx⟩ : ∃ x, [n.a, n.b, n.c][j]? = some x := ⟨_, List.getElem?_eq_getElem (by simpa using hj3)⟩
      obtain ⟨g1, g2, g3⟩ := kg j x hx (by rw [hk] at hj; omega)
      have hls : ∀ {α : Type} (H' : Hp) (k : Value → Option α), pLen .sl sv H' k = k (.int .i64 ((below.length + 1 : Nat) : Int)) := fun H' k => by rw [hp.s.len, hlen]
      have hxc : x = ((x.toNat : Nat) : Int) := by omega
      generalize x.toNat = c at g1 hxc
      subst hxc
      have hcN : c ≤ L.length := by omega
      have hct : c < t := by omega
      have hc1 : 1 ≤ c := by omega
      have hdrop : (kids L t).drop j = c :: (kids L t).drop (j + 1) := by
        rw [hk]
        have hlt : j < (zb4 n).length := (List.getElem?_eq_some_iff.1 g1).1
        rw [List.drop_eq_getElem_cons hlt]
        have : (zb4 n)[j] = c := (List.getElem?_eq_some_iff.1 g1).2
        rw [this]
      rw [hdrop, zdl]
      have hsc := hs.at' c hcN
      have hs1 : Seen L.length seen out (below ++ [(t, j + 1)]) := hs.next
      by_cases hco : c ∈ out
      · -- told
        have hsc' : seen[c]? = some true := by rw [hsc]; congr 1; simp [hco]
        obtain ⟨z, z0, z1, z2⟩ := p1.seen_at hsc'
        obtain ⟨H', lv', sv', seen', r1, r2, r3⟩ := ihm (j + 1) (by omega) out below seen H1 lv sv p1 hs1 ht hb hbl hto
        rw [post_in hd hc1 hco]
        refine ⟨H', lv', sv', seen', ?_, r2, r3⟩
        rw [← r1, zan]
        have : zat RR (.pointer (some ⟨p, 0, none⟩)) bv [lv, sv] H = some (.next, [lv, sv], H1) := by
          unfold zat
          simp only [qg1, qg0, hls, zca, q1, decide_true, zaf, zda, zcJ, zd4, w1, e1, zbm, zaE, Nat.zero_add, Nat.add_zero, hst'.st.l1, e2, e3, w2, hix, ld7 hsl hn, spl7, zgr, ncell2, ncell3, ncell4, zah (c29 _ _), zfG e4, za4, hjp, decide_false, zhy, arr3 hx, zbb, w3, e5, z1, z2, zc9, Bool.not_true]
        rw [this]; rfl
      · have hcs : c ∉ (below ++ [(t, j)]).map Prod.fst := fun q => by
          simp only [List.map_append, List.map_cons, List.map_nil, List.mem_append, List.mem_singleton, List.mem_map] at q
          rcases q with ⟨u, hu, e⟩ | e
          · have := hb u hu; omega
          · omega
        have hsc' : seen[c]? = some false := by rw [hsc]; congr 1; simpa [hco] using hcs
        obtain ⟨z, z0, z1, z2⟩ := p1.seen_at hsc'
        have hclt : c < seen.length := by rw [hs.len]; omega
        obtain ⟨z', hz', z3, H2, z4, p2, _⟩ := p1.see hclt
        obtain rfl : z' = z := Option.some.inj (hz'.symm.trans z0)
        have hlen1 : (below ++ [(t, j + 1)]).length = below.length + 1 := by simp
        obtain ⟨sv3, H3, z5, p3⟩ := p2.push c (zs := [.int .i64 0, .int .i64 0]) rfl (by rw [hlen1]; omega)
        have hs3 : Seen L.length (seen.set c true) out ((below ++ [(t, j + 1)]) ++ [(c, 0)]) := hs1.add hcN
        have hkc : 0 + (kids L c).length = (kids L c).length := by omega
        obtain ⟨H4, lv4, sv4, seen4, r1, r2, r3⟩ := ih c hct hc1 hcN (kids L c).length 0 hkc out (below ++ [(t, j + 1)]) (seen.set c true) H3 lv sv3 p3 hs3 ht
          (fun u hu => by
            rcases List.mem_append.1 hu with hu | hu
            · have := hb u hu; omega
            · rw [List.mem_singleton] at hu; subst hu; exact hct) (by rw [hlen1]; omega) hco
        rw [qd0, ← zns hd hc1 hco] at r2 r3
        have ht4 : Told L.length (post L c out) := ht.posts (l := [c]) hd fun c' hc' => by rw [List.mem_singleton] at hc'; subst hc'; exact ⟨hc1, hcN⟩
        have hto4 : t ∉ post L c out := fun q => by
          rcases (znt hd c hc1 out).2.2 t q with q | q
          · exact hto q
          · omega
        obtain ⟨H5, lv5, sv5, seen5, s1, s2, s3⟩ := ihm (j + 1) (by omega) (post L c out) below seen4 H4 lv4 sv4 r2 r3 ht4 hb hbl hto4
        refine ⟨H5, lv5, sv5, seen5, ?_, s2, s3⟩
        rw [← s1, ← r1, zan]
        have : zat RR (.pointer (some ⟨p, 0, none⟩)) bv [lv, sv] H = some (.next, [lv, sv3], H3) := by
          unfold zat
          simp only [qg1, qg0, hls, zca, q1, decide_true, zaf, zda, zcJ, zd4, w1, e1, zbm, zaE, Nat.zero_add, Nat.add_zero, hst'.st.l1, e2, e3, w2, hix, ld7 hsl hn, spl7, zgr, ncell2, ncell3, ncell4, zah (c29 _ _), zfG e4, za4, hjp, decide_false, zhy, arr3 hx, zbb, w3, e5, z1, z2, zc9, Bool.not_false, z3, z4, build72, z5]
        rw [this]; rfl
end
end Go.AM
namespace Go.AM
open Go
def zcP (l : List Int) : List Value := l.map fun (t : Int) => Value.int .i64 t
theorem intsI_len (l : List Int) : (zcP l).length = l.length := by simp [zcP]
theorem intsI_one (l : List Int) : (zcP l).all one = true := by simp [zcP, one]
theorem intsI_get {l : List Int} {i : Nat} {t : Int} (h : l[i]? = some t) : (zcP l)[i]? = some (.int .i64 t) := by simp [zcP, h]
theorem Rdb.int {H : Hp} {v : Value} {l : List Int} (h : Rdb H 1 v l.length (zcP l)) {i : Nat} {t : Int} (ht : l[i]? = some t) :
    ∃ y, (∀ (α : Type) (kd : IntKind) (k : Value → Option α), pIdx 1 v (.int kd (i : Int)) k = k (.pointer (some ⟨y, i * 1, none⟩))) ∧ (∀ (α : Type) (k : Value → Option α), zaj 1 false H (.pointer (some ⟨y, i * 1, none⟩)) k = k (.int .i64 t)) := by
  obtain ⟨y, hy, ⟨rest, own, hg⟩, hix⟩ := h.ix (List.getElem?_eq_some_iff.1 ht).1
  exact ⟨y, hix, fun α k => ziy hg (by rw [Nat.mul_one]; exact intsI_get ht) k⟩
theorem zmH {H : Hp} {p f g : Nat} {lim : Int} {L : List Nd} {K : List (ByteArray × Int)} {sl : Value} (hst : StF H p lim L K sl f g) {x : Value} {rs : List Int} (hx : Rdb H 1 x rs.length (zcP rs)) (hl : rs.length ≤ 2 ^ 40) :
    ∀ k i, i + k = rs.length → zaG (zaM RR (.pointer (some ⟨p, 0, none⟩)) x (.int .i64 (rs.length : Int))) [.int .i64 (i : Int)] H =
      if (rs.drop i).all (isT L) = true then some (.exit 0, [.int .i64 (rs.length : Int)], H) else some (.ret, [.tuple #[.slice none 0 0, .int .i64 70]], H)
  | 0, i, h => by
    have : i = rs.length := by omega
    subst this
    rw [zan]
    have : zaM RR (.pointer (some ⟨p, 0, none⟩)) x (.int .i64 (rs.length : Int)) [.int .i64 (rs.length : Int)] H = some (.exit 0, [.int .i64 (rs.length : Int)], H) := by
      unfold zaM
      simp only [zaY, zaf, zcJ, qg0, Int.lt_irrefl, decide_false]
    rw [this, List.drop_of_length_le (Nat.le_refl _)]; rfl
  | k + 1, i, h => by
    have hlt : i < rs.length := by omega
    have hg : rs[i]? = some rs[i] := List.getElem?_eq_getElem hlt
    obtain ⟨y, e1, e2⟩ := hx.int hg
    have w : IntKind.i64.wrap ((i : Int) + 1) = ((i + 1 : Nat) : Int) := za8 (by omega) (by omega)
    have q : (i : Int) < (rs.length : Int) := by omega
    rw [zan, List.drop_eq_getElem_cons hlt, List.all_cons]
    cases ht : isT L rs[i] with
    | true =>
      have : zaM RR (.pointer (some ⟨p, 0, none⟩)) x (.int .i64 (rs.length : Int)) [.int .i64 (i : Int)] H = some (.next, [.int .i64 ((i + 1 : Nat) : Int)], H) := by
        unfold zaM
        simp only [zaY, zaf, zda, zcJ, qg0, q, decide_true, e1, e2, zah (c19 hst.st), ht, zc9, Bool.not_true, zbb, w]
      rw [this]
      show zaG _ _ _ = _
      rw [zmH hst hx hl k (i + 1) (by omega), Bool.true_and]
    | false =>
      have : zaM RR (.pointer (some ⟨p, 0, none⟩)) x (.int .i64 (rs.length : Int)) [.int .i64 (i : Int)] H = some (.ret, [.tuple #[.slice none 0 0, .int .i64 70]], H) := by
        unfold zaM
        simp only [zaY, zaf, zda, zcJ, qg0, q, decide_true, e1, e2, zah (c19 hst.st), ht, zc9, Bool.not_false]
      rw [this]; rfl
theorem Rdb.old {H0 H : Hp} {lv sv bv : Value} {out : List Nat} {stk : List (Nat × Nat)} {seen : List Bool} (h : PS H0 H lv out sv stk bv seen) {x : Value} {n : Nat} {cs : List Value} (hx : Rdb H0 1 x n cs) : Rdb H 1 x n cs :=
  hx.keep' (fun j hj => h.old j (hx.lt hj)) h.next
section
variable {H0 : Hp} {p f g : Nat} {lim : Int} {L : List Nd} {K : List (ByteArray × Int)} {sl : Value} (hst : StF H0 p lim L K sl f g) (hd : Dag L) (hL : L.length * 64 ≤ 2 ^ 46) (bv : Value)
  {x : Value} {ns : List Nat} (hx : Rdb H0 1 x ns.length (ints ns)) (hns : ∀ t ∈ ns, 1 ≤ t ∧ t ≤ L.length) (hnl : ns.length ≤ 2 ^ 40)
include hst hd hL hx hns hnl
theorem zmG : ∀ (k i : Nat) (out : List Nat) (seen : List Bool) (H : Hp) (lv sv : Value), i + k = ns.length → PS H0 H lv out sv [] bv seen → Seen L.length seen out [] → Told L.length out →
    ∃ H' lv' sv' seen', zaG (zaL RR (.pointer (some ⟨p, 0, none⟩)) x bv (.int .i64 (ns.length : Int))) [lv, sv, .int .i64 (i : Int)] H = some (.exit 2, [lv', sv', .int .i64 (ns.length : Int)], H') ∧
      PS H0 H' lv' (posts L (ns.drop i) out) sv' [] bv seen'
  | 0, i, out, seen, H, lv, sv, hi, hp, hs, ht => by
    have : i = ns.length := by omega
    subst this
    refine ⟨H, lv, sv, seen, ?_, ?_⟩
    · rw [zan]
      have : zaL RR (.pointer (some ⟨p, 0, none⟩)) x bv (.int .i64 (ns.length : Int)) [lv, sv, .int .i64 (ns.length : Int)] H = some (.exit 2, [lv, sv, .int .i64 (ns.length : Int)], H) := by
        unfold zaL
        simp only [zaY, zaf, zcJ, qg1, qg0, Int.lt_irrefl, decide_false]
      rw [this]; rfl
    · rw [List.drop_of_length_le (Nat.le_refl _)]; exact hp
  | k + 1, i, out, seen, H, lv, sv, hi, hp, hs, ht => by
    have hlt : i < ns.length := by omega
    have hg : ns[i]? = some ns[i] := List.getElem?_eq_getElem hlt
    have hb := hns _ (List.getElem_mem hlt)
    have hdr : ns.drop i = ns[i] :: ns.drop (i + 1) := List.drop_eq_getElem_cons hlt
    rw [hdr, zdl]
    generalize ns[i] = t at hg hb
    have hxH := Rdb.old hp hx
    obtain ⟨y, hy, ⟨rest, own, hgy⟩, e1⟩ := hxH.ix hlt
    have e2 : ∀ (α : Type) (k : Value → Option α), zaj 1 false H (.pointer (some ⟨y, i * 1, none⟩)) k = k (.int .i64 (t : Int)) := fun α k => ziy hgy (by rw [Nat.mul_one]; unfold ints; rw [List.getElem?_map, hg]; rfl) k
    have w : IntKind.i64.wrap ((i : Int) + 1) = ((i + 1 : Nat) : Int) := za8 (by omega) (by omega)
    have q : (i : Int) < (ns.length : Int) := by omega
    have hsc := hs.at' t hb.2
    by_cases hto : t ∈ out
    · have hsc' : seen[t]? = some true := by rw [hsc]; congr 1; simp [hto]
      obtain ⟨z, z0, z1, z2⟩ := hp.seen_at hsc'
      rw [post_in hd hb.1 hto]
      obtain ⟨H', lv', sv', seen', r1, r2⟩ := zmG k (i + 1) out seen H lv sv (by omega) hp hs ht
      refine ⟨H', lv', sv', seen', ?_, r2⟩
      rw [zan]
      have : zaL RR (.pointer (some ⟨p, 0, none⟩)) x bv (.int .i64 (ns.length : Int)) [lv, sv, .int .i64 (i : Int)] H = some (.next, [lv, sv, .int .i64 ((i + 1 : Nat) : Int)], H) := by
        unfold zaL
        simp only [zaY, zaf, zda, qg1, qg0, q, decide_true, e1, e2, z1, z2, zbb, w]
      rw [this]; exact r1
    · have hsc' : seen[t]? = some false := by rw [hsc]; congr 1; simp [hto]
      obtain ⟨z, z0, z1, z2⟩ := hp.seen_at hsc'
      have hclt : t < seen.length := by rw [hs.len]; omega
      obtain ⟨z', hz', z3, H2, z4, p2, _⟩ := hp.see hclt
      obtain rfl : z' = z := Option.some.inj (hz'.symm.trans z0)
      obtain ⟨sv3, H3, z5, p3⟩ := p2.push t (zs := [.int .i64 0, .int .i64 0]) rfl (by simp)
      have hs3 : Seen L.length (seen.set t true) out ([] ++ [(t, 0)]) := hs.add hb.2
      obtain ⟨H4, lv4, sv4, seen4, r1, r2, r3⟩ := fwd hst hd hL bv t hb.1 hb.2 (kids L t).length 0 (by omega) out [] (seen.set t true) H3 lv sv3 p3 hs3 ht (fun u hu => by cases hu) (by simpa using hb.2) hto
      rw [qd0, ← zns hd hb.1 hto] at r2 r3
      have ht4 : Told L.length (post L t out) := ht.posts (l := [t]) hd fun c' hc' => by rw [List.mem_singleton] at hc'; subst hc'; exact hb
      obtain ⟨H', lv', sv', seen', s1, s2⟩ := zmG k (i + 1) (post L t out) seen4 H4 lv4 sv4 (by omega) r2 r3 ht4
      refine ⟨H', lv', sv', seen', ?_, s2⟩
      have hexit : zaG (zat RR (.pointer (some ⟨p, 0, none⟩)) bv) [lv4, sv4] H4 = some (.exit 4, [lv4, sv4], H4) := by
        rw [zan]
        have : zat RR (.pointer (some ⟨p, 0, none⟩)) bv [lv4, sv4] H4 = some (.exit 4, [lv4, sv4], H4) := by
          unfold zat
          simp only [qg1, qg0, r2.s.len, List.length_nil, zca, zaf]
          rfl
        rw [this]; rfl
      rw [hexit] at r1
      rw [zan]
      have : zaL RR (.pointer (some ⟨p, 0, none⟩)) x bv (.int .i64 (ns.length : Int)) [lv, sv, .int .i64 (i : Int)] H = some (.next, [lv4, sv4, .int .i64 ((i + 1 : Nat) : Int)], H4) := by
        unfold zaL
        simp only [zaY, zaf, zda, zcJ, qg1, qg0, q, decide_true, e1, e2, z1, z2, z3, z4, build72, z5, r1, zaq, zbk, zaI, zbb, w]
      rw [this]; exact s1
end
theorem zjU : ∀ n : Nat, repl n [.bool false] = zkE (List.replicate n false)
  | 0 => rfl
  | n + 1 => by
    show [.bool false] ++ repl n [.bool false] = _
    rw [zjU n, List.replicate_succ]; rfl
theorem zgW (ns : List Nat) : ints ns = zcP (ns.map fun (t : Nat) => (t : Int)) := by simp [ints, zcP]
theorem nats {L : List Nd} : ∀ rs : List Int, rs.all (isT L) = true → ∃ ns : List Nat, rs = ns.map (fun (t : Nat) => (t : Int)) ∧ ∀ t ∈ ns, 1 ≤ t ∧ t ≤ L.length
  | [], _ => ⟨[], rfl, fun t h => by cases h⟩
  | r :: rs, h => by
    rw [List.all_cons, Bool.and_eq_true] at h
    obtain ⟨ns, h1, h2⟩ := nats rs h.2
    have := zbD.1 h.1
    refine ⟨r.toNat :: ns, by rw [List.map_cons, ← h1]; congr 1; omega, fun t ht => ?_⟩
    rcases List.mem_cons.1 ht with rfl | ht
    · omega
    · exact h2 t ht
structure OrdOk (H0 H : Hp) (v : Value) (out : List Nat) : Prop where
  vec : Vec H 1 v out.length (ints out)
  next : H0.next ≤ H.next
  old : ∀ j, j < H0.next → H.get j = H0.get j
  new : ∀ j, Id v j → H0.next ≤ j
theorem c13_no {H0 : Hp} {p f g : Nat} {lim : Int} {L : List Nd} {K : List (ByteArray × Int)} {sl : Value} (hst : StF H0 p lim L K sl f g) {x : Value} {rs : List Int} (hx : Rdb H0 1 x rs.length (zcP rs)) (hl : rs.length ≤ 2 ^ 40)
    (hno : rs.all (isT L) = false) : RR F.a13 [.pointer (some ⟨p, 0, none⟩), x] H0 = some (.tuple #[.slice none 0 0, .int .i64 70], H0) := by
  have hr := (zdK E0 rfl (.pointer (some ⟨p, 0, none⟩)) x H0).trans (zd0 _ _ _ _)
  refine hr.trans ?_
  have h1 := zmH hst hx hl rs.length 0 (by omega)
  rw [qd0, hno, if_neg (by decide)] at h1
  rw [hx.len, show (0 : Int) = ((0 : Nat) : Int) from rfl, h1, zaq, zeb, zdH]
theorem c13_yes {H0 : Hp} {p f g : Nat} {lim : Int} {L : List Nd} {K : List (ByteArray × Int)} {sl : Value} (hst : StF H0 p lim L K sl f g) (hd : Dag L) (hL : L.length * 64 ≤ 2 ^ 46) {x : Value} {ns : List Nat} (hx : Rdb H0 1 x ns.length (ints ns)) (hl : ns.length ≤ 2 ^ 40)
    (hns : ∀ t ∈ ns, 1 ≤ t ∧ t ≤ L.length) : ∃ H' v, RR F.a13 [.pointer (some ⟨p, 0, none⟩), x] H0 = some (.tuple #[v, .int .i64 0], H') ∧ OrdOk H0 H' v (posts L ns []) := by
  have hr := (zdK E0 rfl (.pointer (some ⟨p, 0, none⟩)) x H0).trans (zd0 _ _ _ _)
  have hmap : (ns.map fun (t : Nat) => (t : Int)).length = ns.length := List.length_map ..
  have h1 := zmH (rs := ns.map fun (t : Nat) => (t : Int)) hst (x := x) (by rw [hmap, ← zgW]; exact hx) (by rw [hmap]; exact hl) ns.length 0 (by rw [hmap]; omega)
  have hall : (ns.map fun (t : Nat) => (t : Int)).all (isT L) = true := by
    rw [List.all_map, List.all_eq_true]
    intro t ht
    have := hns t ht
    exact zbD.2 ⟨by show (1 : Int) ≤ (t : Int); omega, by show (t : Int) ≤ L.length; omega⟩
  rw [qd0, hall, if_pos rfl, hmap] at h1
  obtain ⟨bv, b1, b2, b3⟩ := Vec.make H0 (sz := 1) (bytes := 1) (zs := [.bool false]) rfl (n := L.length + 1) (by omega)
  rw [zjU] at b1 b2
  generalize hH1 : H0.new (.cells (zkE (List.replicate (L.length + 1) false)) true) = H1 at b1 b2
  have n1 : H1.next = H0.next + 1 := by rw [← hH1]; rfl
  have hsl : (List.replicate (L.length + 1) false).length = L.length + 1 := List.length_replicate ..
  have ps : PS H0 H1 (.slice none 0 0) [] (.slice none 0 0) [] bv (List.replicate (L.length + 1) false) :=
    ⟨by omega, fun j hj => by rw [← hH1, get_new, if_neg (by omega)], Vec.nil _ _, Vec.nil _ _, by rw [hsl]; exact b2, fun j hj => (by cases hj), fun j hj => (by cases hj), fun j hj => by have := b3 j hj; omega,
      fun j a => (by cases a), fun j a => (by cases a), fun j a => (by cases a)⟩
  have sn : Seen L.length (List.replicate (L.length + 1) false) [] [] := ⟨hsl, fun x hx => by rw [List.getElem?_replicate, if_pos (by omega)]; rfl⟩
  obtain ⟨H', lv', sv', seen', g1, g2⟩ := zmG hst hd hL bv hx hns hl ns.length 0 [] _ H1 _ _ (by omega) ps sn ⟨List.nodup_nil, fun x h => by cases h⟩
  rw [qd0] at g2
  refine ⟨H', lv', ?_, ⟨g2.l, g2.next, g2.old, g2.al⟩⟩
  refine hr.trans ?_
  have w : IntKind.i64.wrap ((L.length : Int) + 1) = ((L.length + 1 : Nat) : Int) := za8 (by omega) (by omega)
  rw [hx.len, show (0 : Int) = ((0 : Nat) : Int) from rfl, h1, zaq, zbk, zaI, zbm, zaE, Nat.zero_add, hst.st.l1, hst.st.all.len, zbb, w, b1, hx.len, g1, zaq, zbk, zaI]
  rfl
end Go.AM
namespace Go.AM
open Go
section
variable {H0 : Hp} {p f g : Nat} {lim : Int} {L : List Nd} {K : List (ByteArray × Int)} {sl : Value} (hst : StF H0 p lim L K sl f g) (hd : Dag L) (hL : L.length * 64 ≤ 2 ^ 46) (bv : Value)
include hst hd in
end
end Go.AM
namespace Go.AM
open Go
section
variable {H0 : Hp} {p f g : Nat} {lim : Int} {L : List Nd} {K : List (ByteArray × Int)} {sl : Value} (hst : StF H0 p lim L K sl f g) (hd : Dag L) (hL : L.length * 64 ≤ 2 ^ 46) (bv : Value)
include hst hd hL
end
end Go.AM
namespace Go.AM
open Go
section
variable {H0 : Hp} {p f g : Nat} {lim : Int} {L : List Nd} {K : List (ByteArray × Int)} {sl : Value} (hst : StF H0 p lim L K sl f g) (hd : Dag L) (hL : L.length * 64 ≤ 2 ^ 46) (bv : Value)
  {x : Value} {ns : List Nat} (hx : Rdb H0 1 x ns.length (ints ns)) (hns : ∀ t ∈ ns, 1 ≤ t ∧ t ≤ L.length) (hnl : ns.length ≤ 2 ^ 40)
include hst hd hL hx hns hnl
end
end Go.AM
namespace Go.AM
open Go
def zb6 (L : List Nd) (rs : List Int) : Int × List Nat := if rs.all (isT L) = true then (0, posts L (rs.map Int.toNat) []) else (70, [])
theorem zkp (ns : List Nat) : (ns.map fun (t : Nat) => (t : Int)).map Int.toNat = ns := by
  induction ns with
  | nil => rfl
  | cons a l ih => rw [List.map_cons, List.map_cons, ih]; rfl
theorem zlp {L : List Nd} (hd : Dag L) (rs : List Int) : (zb6 L rs).2.length ≤ L.length := by
  unfold zb6
  split
  · rename_i h
    obtain ⟨ns, h1, h2⟩ := nats rs h
    have e : rs.map Int.toNat = ns := by rw [h1, zkp]
    rw [e]
    exact Told.len ((⟨List.nodup_nil, fun x h => by cases h⟩ : Told L.length []).posts hd h2)
  · simp
section
variable {H0 : Hp} {p f g : Nat} {lim : Int} {L : List Nd} {K : List (ByteArray × Int)} {sl : Value} (hst : StF H0 p lim L K sl f g) (hd : Dag L) (hL : L.length * 64 ≤ 2 ^ 46) {x : Value} {rs : List Int} (hx : Rdb H0 1 x rs.length (zcP rs)) (hl : rs.length ≤ 2 ^ 40)
include hst hd hL hx hl
theorem c13 : ∃ H' v, RR F.a13 [.pointer (some ⟨p, 0, none⟩), x] H0 = some (.tuple #[v, .int .i64 (zb6 L rs).1], H') ∧ OrdOk H0 H' v (zb6 L rs).2 := by
  unfold zb6
  cases h : rs.all (isT L) with
  | true =>
    obtain ⟨ns, h1, h2⟩ := nats rs h
    have e : rs.map Int.toNat = ns := by rw [h1, zkp]
    have hlen : rs.length = ns.length := by rw [h1, List.length_map]
    rw [if_pos rfl, e]
    exact c13_yes hst hd hL (by rw [zgW, ← h1, ← hlen]; exact hx) (by omega) h2
  | false =>
    rw [if_neg (by decide)]
    exact ⟨H0, _, c13_no hst hx hl h, Vec.nil _ _, Nat.le_refl _, fun _ _ => rfl, fun j hj => by cases hj⟩
end
end Go.AM
namespace Go.AM
open Go
structure zfa (m : Nd) : Prop where
  op : 1 ≤ m.op ∧ m.op ≤ 33
  w : 0 ≤ m.w ∧ m.w ≤ 64
  num : 0 ≤ m.num ∧ m.num < 18446744073709551616
  ext : m.op = 31 → m.num ≤ 64
  name : m.name.data.toList.length ≤ 24
theorem wT_le {L : List Nd} (h : ∀ m ∈ L, 0 ≤ m.w ∧ m.w ≤ 64) (t : Int) : wT L (-1) t ≤ 64 := by
  unfold wT
  split
  · cases q : L[(t - 1).toNat]? with
    | none => show (-1 : Int) ≤ 64; decide
    | some m => exact (h m (List.mem_of_getElem? q)).2
  · decide
theorem mk_txt {lim : Int} {L : List Nd} {K : List (ByteArray × Int)} {n : Nd} (hn : 0 ≤ n.num ∧ n.num < 18446744073709551616) (h : ∀ m ∈ L, zfa m) : ∀ m ∈ (mkR lim L K n).2.2.1, zfa m := by
  by_cases h0 : (mkR lim L K n).2.1 = 0
  · obtain ⟨hr, ⟨q, hq, e⟩ | ⟨hq, hl, e⟩⟩ := zjD h0
    · rw [e]; exact h
    · rw [e]
      intro m hm
      rcases List.mem_append.1 hm with hm | hm
      · exact h m hm
      · rw [List.mem_singleton] at hm
        subst hm
        have ho := hr.op
        have hw := hr.w
        refine ⟨by omega, by omega, hn, fun h31 => ?_, ?_⟩
        · have hwi := hr.wi
          have hle := wT_le (fun m hm => (h m hm).w) m.a
          unfold zdp at hwi
          rw [if_neg (by omega), if_neg (by omega), if_neg (by omega), if_neg (by omega), if_neg (by omega), if_neg (by omega), if_pos h31] at hwi
          simp only [Bool.and_eq_false_iff, decide_eq_false_iff_not, not_or, Decidable.not_not] at hwi
          omega
        · by_cases h4 : m.op = 4
          · have hb := hr.nm
            cases q : zdQ m.name with
            | false => exact absurd ⟨h4, by unfold zbh; rw [q]; rfl⟩ hb
            | true =>
              unfold zdQ at q
              simp only [Bool.and_eq_true, decide_eq_true_eq] at q
              have := q.1.1.2
              rw [zkS] at this
              exact this
          · have hs := hr.sp
            have hnm : zlz m = false := by
              cases q : zlz m with
              | false => rfl
              | true =>
                refine absurd ?_ hs
                unfold zeP
                rw [q, decide_eq_true h4]
                simp
            unfold zlz at hnm
            have e2 : m.name.toList = (⟨#[]⟩ : ByteArray).toList := by simpa using hnm
            rw [← ByteArray.toList_eq, e2, ByteArray.toList_eq]; decide
  · rw [zot h0]; exact h
theorem zn4 {Q : Res → Prop} {lim : Int} {L : List Nd} {K : List (ByteArray × Int)} (hm : ∀ n : Nd, 0 ≤ n.num ∧ n.num < 18446744073709551616 → Q (mkR lim L K n)) (hn : ∀ e, Q (0, e, L, K)) {o : OpA} (ho : o.Ok) : Q (askR lim L K o) := by
  have hz : (0 : Int) ≤ 0 ∧ (0 : Int) < 18446744073709551616 := by decide
  unfold askR unR binR extR
  repeat' first | exact hm _ hz | exact hm _ ho.n | exact hm _ (trim_bd o.w o.x ho.x) | exact hm _ (by exact ⟨Int.emod_nonneg _ (by decide), Int.emod_lt_of_pos _ (by decide)⟩) | exact hn _ | refine q_ite (Q := Q) ?_ ?_
theorem ask_txt {lim : Int} {L : List Nd} {K : List (ByteArray × Int)} {o : OpA} (ho : o.Ok) (h : ∀ m ∈ L, zfa m) : ∀ m ∈ (askR lim L K o).2.2.1, zfa m :=
  zn4 (Q := fun r => ∀ m ∈ r.2.2.1, zfa m) (fun n hn => mk_txt hn h) (fun e => h) ho
theorem run_txt {lim : Int} : ∀ (os : List OpA) (L : List Nd) (K : List (ByteArray × Int)), (∀ o ∈ os, o.Ok) → (∀ m ∈ L, zfa m) → ∀ m ∈ (runR lim os L K).1, zfa m
  | [], L, K, _, h => h
  | o :: os, L, K, ho, h => run_txt os _ _ (fun x hx => ho x (List.mem_cons_of_mem _ hx)) (ask_txt (ho o (List.mem_cons_self ..)) h)
def sp (l : List UInt8) : List UInt8 := 32 :: l
abbrev itoa := Go.Lib.itoa
theorem sp_ba (l : List UInt8) (hl : l.length ≤ 100) {α : Type} (k : Value → Option α) : pBin PP .add T.string (.string ⟨#[32]⟩) (.string (ba l)) k = k (.string (ba (sp l))) := zni _ [32] l (by simp; omega) k
theorem zcG {n : Int} (h0 : -9223372036854775808 ≤ n) (h1 : n ≤ 9223372036854775807) : (itoa n).length ≤ 21 := Go.Lib.itoa_length_le n h0 h1
def fl (op : Int) : List UInt8 := if op ≤ 2 then [] else if op = 3 then [119, 110] else if op = 4 then [115, 119] else if op = 31 then [112, 110, 119] else if op ≥ 32 then [112, 119] else List.replicate (zak op).toNat 112
def act (F : Int → Int) (n : Nd) : List UInt8 → Nat → List UInt8
  | [], _ => []
  | c :: r, k => if c = 112 then sp (itoa (F ([n.a, n.b, n.c].getD k 0))) ++ act F n r (k + 1) else if c = 110 then sp (numT n.num.toNat) ++ act F n r k else if c = 119 then sp (itoa n.w) ++ act F n r k
    else if c = 115 then sp n.name.data.toList ++ act F n r k else act F n r k
def word (ws : List (List UInt8)) (op : Int) : List UInt8 := ws.getD op.toNat []
def line (ws : List (List UInt8)) (F : Int → Int) (i : Nat) (n : Nd) : List UInt8 := itoa ((i + 1 : Nat) : Int) ++ [32] ++ word ws n.op ++ act F n (fl n.op) 0 ++ [10]
def upF (F : Int → Int) (t v : Int) : Int → Int := fun x => if x = t then v else F x
def zaU (L : List Nd) (t : Nat) : Nd := (L[t - 1]?).getD noNd'
  where noNd' : Nd := ⟨0, 0, 0, 0, 0, 0, ⟨#[]⟩⟩
def zcM : Nat → List Nat → (Int → Int) → (Int → Int)
  | _, [], F => F
  | i, t :: r, F => zcM (i + 1) r (upF F t ((i + 1 : Nat) : Int))
def zb9 (ws : List (List UInt8)) (L : List Nd) : Nat → List Nat → (Int → Int) → List UInt8
  | _, [], _ => []
  | i, t :: r, F => line ws (upF F t ((i + 1 : Nat) : Int)) i (zaU L t) ++ zb9 ws L (i + 1) r (upF F t ((i + 1 : Nat) : Int))
def zdI (F : Int → Int) (rs : List Int) : List UInt8 := rs.flatMap fun r => sp (itoa (F r))
def zgZ (ws : List (List UInt8)) (L : List Nd) (out : List Nat) (rs : List Int) : List UInt8 :=
  zb9 ws L 0 out (fun _ => 0) ++ [114, 111, 111, 116, 115] ++ zdI (zcM 0 out fun _ => 0) rs ++ [10]
end Go.AM
namespace Go.AM
open Go
def mapI (A : List (Int × Int)) : List (Value × Value) := A.map fun x => (.int .i64 x.1, .int .i64 x.2)
def lkI (t : Int) : Nat → List (Int × Int) → Option (Nat × Int)
  | _, [] => none
  | i, (u, w) :: r => if t = u then some (i, w) else lkI t (i + 1) r
def MapF (H : Hp) (m : Nat) (F : Int → Int) : Prop := ∃ A, H.get m = some (.map (mapI A)) ∧ ∀ t, F t = (match lkI t 0 A with | some q => q.2 | none => 0)
structure zn5 (P : Program) (kt : TypeId) : Prop where
  eq : ∀ a b : Int, eqT P 10000 kt (.int .i64 a) (.int .i64 b) = some (a == b)
  sh : ∀ a : Int, zd3 P 20 kt (.int .i64 a) = true
theorem findI {P : Program} {kt : TypeId} (hk : zn5 P kt) (t : Int) : ∀ (A : List (Int × Int)) (i : Nat), zfV P kt (.int .i64 t) (mapI A) i = some ((lkI t i A).map fun q => (q.1, .int .i64 q.2))
  | [], i => rfl
  | (u, w) :: r, i => by
    show (match eqT P 10000 kt (.int .i64 t) (.int .i64 u) with | some true => some (some (i, Value.int .i64 w)) | some false => zfV P kt (.int .i64 t) (mapI r) (i + 1) | none => none) = _
    rw [hk.eq]
    unfold lkI
    by_cases h : t = u
    · rw [if_pos h, show (t == u) = true by simpa using h]; rfl
    · rw [if_neg h, show (t == u) = false by simpa using h]
      exact findI hk t r (i + 1)
theorem MapF.look {P : Program} {kt : TypeId} (hk : zn5 P kt) {H : Hp} {m : Nat} {F : Int → Int} (h : MapF H m F) (t : Int) {α : Type} (k : Value → Option α) : zfo P kt (.int .i64 0) (.map (some m)) (.int .i64 t) false H k = k (.int .i64 (F t)) := by
  obtain ⟨A, h1, h2⟩ := h
  unfold zfo zi8
  rw [hk.sh, h2 t]
  simp only [if_true, mapOf, h1, findI hk]
  cases lkI t 0 A <;> rfl
theorem zmI (t : Int) : ∀ (A : List (Int × Int)) (i j : Nat) (w : Int), lkI t i A = some (j, w) → i ≤ j ∧ A[j - i]? = some (t, w)
  | [], i, j, w, h => by cases h
  | (u, v) :: r, i, j, w, h => by
    unfold lkI at h
    split at h
    · rename_i e
      cases h
      subst e
      exact ⟨Nat.le_refl _, by simp⟩
    · obtain ⟨h1, h2⟩ := zmI t r (i + 1) j w h
      refine ⟨by omega, ?_⟩
      rw [show j - i = (j - (i + 1)) + 1 by omega]
      simpa using h2
theorem lkI_app (t key v : Int) : ∀ (A : List (Int × Int)) (i : Nat), lkI key i A = none → (lkI t i (A ++ [(key, v)])).map Prod.snd = if t = key then some v else (lkI t i A).map Prod.snd
  | [], i, h => by
    show (lkI t i [(key, v)]).map Prod.snd = _
    unfold lkI lkI
    split <;> rfl
  | (u, w) :: r, i, h => by
    unfold lkI at h
    split at h
    · cases h
    · rename_i ne
      show (lkI t i ((u, w) :: (r ++ [(key, v)]))).map Prod.snd = _
      unfold lkI
      by_cases e : t = u
      · rw [if_pos e, if_pos e, if_neg (fun q => ne (by rw [← q, e]))]
      · rw [if_neg e, if_neg e]
        exact lkI_app t key v r (i + 1) h
theorem lkI_set (t key v : Int) : ∀ (A : List (Int × Int)) (i j : Nat) (w : Int), lkI key i A = some (j, w) → (lkI t i (A.set (j - i) (key, v))).map Prod.snd = if t = key then some v else (lkI t i A).map Prod.snd
  | [], i, j, w, h => by cases h
  | (u, x) :: r, i, j, w, h => by
    unfold lkI at h
    split at h
    · rename_i e
      cases h
      subst e
      rw [Nat.sub_self, List.set_cons_zero]
      unfold lkI
      by_cases q : t = key
      · rw [if_pos q, if_pos q]; rfl
      · rw [if_neg q, if_neg q, if_neg q]
    · rename_i ne
      have hle := (zmI key r (i + 1) j w h).1
      rw [show j - i = (j - (i + 1)) + 1 by omega, List.set_cons_succ]
      unfold lkI
      by_cases q : t = u
      · rw [if_pos q, if_pos q, if_neg (fun z => ne (by rw [← z, q]))]
      · rw [if_neg q, if_neg q]
        exact lkI_set t key v r (i + 1) j w h
theorem mtch (o : Option (Nat × Int)) : (match o with | some q => q.2 | none => (0 : Int)) = (o.map Prod.snd).getD 0 := by cases o <;> rfl
theorem MapF.upd {P : Program} {kt : TypeId} (hk : zn5 P kt) {H : Hp} {m : Nat} {F : Int → Int} (h : MapF H m F) (key v : Int) :
    ∃ H', (∀ (α : Type) (k : Hp → Option α), pUpd P kt (.map (some m)) (.int .i64 key) (.int .i64 v) H k = k H') ∧ MapF H' m (fun t => if t = key then v else F t) ∧ (∀ j, j ≠ m → H'.get j = H.get j) ∧ H'.next = H.next := by
  obtain ⟨A, h1, h2⟩ := h
  cases hq : lkI key 0 A with
  | none =>
    refine ⟨H.set m (some (.map (mapI (A ++ [(key, v)])))), fun α k => ?_, ⟨A ++ [(key, v)], by rw [get_set, if_pos rfl], fun t => ?_⟩, fun j hj => by rw [get_set, if_neg hj], rfl⟩
    · have : updV P kt (.map (some m)) (.int .i64 key) (.int .i64 v) H = some (H.set m (some (.map (mapI (A ++ [(key, v)]))))) := by
        unfold updV
        rw [hk.sh]
        simp only [if_true, h1, findI hk, hq, Option.map_none]
        rw [show mapI (A ++ [(key, v)]) = mapI A ++ [(Value.int .i64 key, Value.int .i64 v)] by simp [mapI]]
      unfold pUpd
      rw [this]
    · rw [mtch, lkI_app t key v A 0 hq]
      dsimp only
      split
      · rfl
      · rw [h2 t, mtch]
  | some q =>
    obtain ⟨j, w⟩ := q
    obtain ⟨_, hg⟩ := zmI key A 0 j w hq
    rw [Nat.sub_zero] at hg
    refine ⟨H.set m (some (.map (mapI (A.set j (key, v))))), fun α k => ?_, ⟨A.set j (key, v), by rw [get_set, if_pos rfl], fun t => ?_⟩, fun j hj => by rw [get_set, if_neg hj], rfl⟩
    · have hk1 : (mapI A)[j]? = some (.int .i64 key, .int .i64 w) := by unfold mapI; rw [List.getElem?_map, hg]; rfl
      have hsb : Instr.sameBits 10000 (.int .i64 key) (.int .i64 key) = true := by simp [Instr.sameBits]
      have : updV P kt (.map (some m)) (.int .i64 key) (.int .i64 v) H = some (H.set m (some (.map (mapI (A.set j (key, v)))))) := by
        unfold updV
        rw [hk.sh]
        simp only [if_true, h1, findI hk, hq, Option.map_some, hk1, hsb]
        rw [show mapI (A.set j (key, v)) = zkX (mapI A) j (.int .i64 key) (.int .i64 v) by unfold zkX mapI; rw [List.map_set]]
      unfold pUpd
      rw [this]
    · have := lkI_set t key v A 0 j w hq
      rw [Nat.sub_zero] at this
      rw [mtch, this]
      dsimp only
      split
      · rfl
      · rw [h2 t, mtch]
theorem MapF.keep {H H' : Hp} {m : Nat} {F : Int → Int} (h : MapF H m F) (hg : H'.get m = H.get m) : MapF H' m F := by
  obtain ⟨A, h1, h2⟩ := h
  exact ⟨A, by rw [hg]; exact h1, h2⟩
end Go.AM
namespace Go.AM
open Go
theorem ikI : zn5 PP T.int := ⟨fun a b => by kernel_rfl, fun a => by kernel_rfl⟩
theorem upd_ty {P : Program} {kt : TypeId} {m key v : Value} {H H' : Hp} (h : pUpd P kt m key v H some = some H') : H'.ty = H.ty := by
  unfold pUpd at h
  cases q : updV P kt m key v H with
  | none => rw [q] at h; cases h
  | some H1 =>
    rw [q] at h
    cases h
    unfold updV at q
    repeat' (first | (cases q; done) | (cases q; rfl) | split at q)
theorem Bld.keep {H H' : Hp} {i : Nat} {s : List UInt8} {j : Option Nat} (h : Bld H i s j) (hi : H'.get i = H.get i) (hj : ∀ y, j = some y → H'.get y = H.get y) (hn : H.next ≤ H'.next) (ht : ∀ k, k < H.next → H'.ty k = H.ty k) : Bld H' i s j := by
  refine ⟨by rw [ht i h.lt]; exact h.ty, Nat.lt_of_lt_of_le h.lt hn, ?_⟩
  obtain ⟨a, buf, h1, h2, h3⟩ := h.ex
  refine ⟨a, buf, by rw [hi]; exact h1, h2, ?_⟩
  rcases h3 with h3 | ⟨y, g1, g2, g3, g4, g5, g6, g7⟩
  · exact .inl h3
  · exact .inr ⟨y, g1, g2, Nat.lt_of_lt_of_le g3 hn, g4, g5, by rw [hj y g1]; exact g6, by rw [ht y g3]; exact g7⟩
theorem Bld.jn {H : Hp} {i : Nat} {s : List UInt8} {j : Option Nat} (h : Bld H i s j) {y : Nat} (hy : j = some y) : y < H.next ∧ y ≠ i := by
  obtain ⟨a, buf, h1, h2, h3⟩ := h.ex
  rcases h3 with ⟨h3, _⟩ | ⟨z, g1, g2, g3, _⟩
  · rw [h3] at hy; cases hy
  · rw [g1] at hy; cases hy; exact ⟨g3, g2⟩
theorem Tabs.old {B H : Hp} (h : Tabs B) (hn : PP.globals.size ≤ B.next) (ho : ∀ k, k < B.next → H.get k = B.get k) : Tabs H := by
  have e : ∀ g, g < PP.globals.size → H.get g = B.get g := fun g hg => ho g (by omega)
  exact ⟨by rw [e _ (by rw [zfp]; decide)]; exact h.pow, by rw [e _ (by rw [zfp]; decide)]; exact h.spc, by rw [e _ (by rw [zfp]; decide)]; exact h.bru⟩
structure DP (B H : Hp) (wl : List Value) (b m w : Nat) (s : List UInt8) (Φ : Int → Int) : Prop where
  next : B.next ≤ H.next
  old : ∀ k, k < B.next → H.get k = B.get k
  lb : B.next ≤ b
  lm : B.next ≤ m
  lw : B.next ≤ w
  bm : b ≠ m
  bw : b ≠ w
  mw : m ≠ w
  hm : m < H.next
  hw : w < H.next
  mp : MapF H m Φ
  nms : H.get w = some (.cells wl true)
  bld : ∃ j, Bld H b s j ∧ ∀ y, j = some y → B.next ≤ y ∧ y ≠ m ∧ y ≠ w
section
variable {B H : Hp} {wl : List Value} {b m w : Nat} {s : List UInt8} {Φ : Int → Int}
theorem DP.upd (h : DP B H wl b m w s Φ) (key v : Int) : ∃ H', (∀ (α : Type) (k : Hp → Option α), pUpd PP T.int (.map (some m)) (.int .i64 key) (.int .i64 v) H k = k H') ∧ DP B H' wl b m w s (upF Φ key v) := by
  obtain ⟨H', e1, e2, e3, e4⟩ := h.mp.upd ikI key v
  have ht := upd_ty (e1 Hp some)
  obtain ⟨j, hj, hj2⟩ := h.bld
  have lm := h.lm
  have bm := h.bm
  refine ⟨H', e1, ⟨by rw [e4]; exact h.next, fun k hk => by rw [e3 k (by omega)]; exact h.old k hk, h.lb, h.lm, h.lw, h.bm, h.bw, h.mw, by rw [e4]; exact h.hm, by rw [e4]; exact h.hw, e2, by rw [e3 w (Ne.symm h.mw)]; exact h.nms, j, hj.keep (e3 b bm) (fun y hy => e3 y (hj2 y hy).2.1) (by rw [e4]; exact Nat.le_refl _) (fun k _ => by rw [ht]), hj2⟩⟩
theorem DP.new {H' : Hp} (h : DP B H wl b m w s Φ) (k : New H H') : DP B H' wl b m w s Φ := by
  obtain ⟨j, hj, hj2⟩ := h.bld
  have n1 := k.next
  have n2 := h.next
  exact ⟨by omega, fun q hq => by rw [k.get q (by omega)]; exact h.old q hq, h.lb, h.lm, h.lw, h.bm, h.bw, h.mw, Nat.lt_of_lt_of_le h.hm n1, Nat.lt_of_lt_of_le h.hw n1, h.mp.keep (k.get m h.hm), by rw [k.get w h.hw]; exact h.nms, j, hj.keep (k.get b hj.lt) (fun y hy => k.get y (hj.jn hy).1) n1 k.ty, hj2⟩
theorem DP.bf {H' : Hp} {j j' : Option Nat} {s' : List UInt8} (h : DP B H wl b m w s Φ) (hb : Bld H b s j) (hj2 : ∀ y, j = some y → B.next ≤ y ∧ y ≠ m ∧ y ≠ w) (hb' : Bld H' b s' j') (k : BF b H j H' j') : DP B H' wl b m w s' Φ := by
  have n1 := k.next
  have n2 := h.next
  have lb := h.lb
  have hm := h.hm
  have hw := h.hw
  have bm := h.bm
  have bw := h.bw
  have nj : ∀ q, q < H.next → q < B.next ∨ q = m ∨ q = w → j ≠ some q := fun q hq hx e => by
    have := hj2 q e
    omega
  exact ⟨by omega, fun q hq => by rw [k.get q (by omega) (by omega) (nj q (by omega) (.inl hq))]; exact h.old q hq, h.lb, h.lm, h.lw, h.bm, h.bw, h.mw, by omega, by omega, h.mp.keep (k.get m hm (by omega) (nj m hm (.inr (.inl rfl)))), by rw [k.get w hw (by omega) (nj w hw (.inr (.inr rfl)))]; exact h.nms, j', hb', fun y hy => by
    rcases k.foot y hy with e | e
    · exact hj2 y e
    · omega⟩
theorem DP.ws (h : DP B H wl b m w s Φ) (t : List UInt8) (hl : s.length + t.length ≤ 2 ^ 46) :
    ∃ H', RR F.a9 [.pointer (some ⟨b, 0, none⟩), .string (ba t)] H = some (.tuple #[.int .i64 ((ba t).size : Int), .nilIface], H') ∧ DP B H' wl b m w (s ++ t) Φ := by
  obtain ⟨j, hj, hj2⟩ := h.bld
  obtain ⟨H', j', e1, e2, e3⟩ := hj.ws (ba t) (by rw [zd8]; exact hl)
  rw [zd8] at e2
  exact ⟨H', e1, h.bf hj hj2 e2 e3⟩
theorem DP.wb (h : DP B H wl b m w s Φ) (hl : s.length + 1 ≤ 2 ^ 46) :
    ∃ H', RR F.a7 [.pointer (some ⟨b, 0, none⟩), .int .u8 10] H = some (.nilIface, H') ∧ DP B H' wl b m w (s ++ [10]) Φ := by
  obtain ⟨j, hj, hj2⟩ := h.bld
  obtain ⟨H', j', e1, e2, e3⟩ := hj.wb 10 hl
  exact ⟨H', e1, h.bf hj hj2 e2 e3⟩
theorem DP.tabs (h : DP B H wl b m w s Φ) (hT : Tabs B) (hn : PP.globals.size ≤ B.next) : Tabs H := hT.old hn h.old
theorem DP.put (h : DP B H wl b m w s Φ) (hT : Tabs B) (hn : PP.globals.size ≤ B.next) {x : Int} (h0 : -9223372036854775808 ≤ x) (h1 : x ≤ 9223372036854775807) (hl : s.length + 100 ≤ 2 ^ 46) :
    ∃ H', RR F.a5 [.int .i64 x, .pointer (some ⟨b, 0, none⟩)] H = some (.tuple #[], H') ∧ DP B H' wl b m w (s ++ sp (itoa x)) Φ := by
  have il := zcG h0 h1
  obtain ⟨H', e1, e2⟩ := h.ws (sp (itoa x)) (by unfold sp; rw [List.length_cons]; omega)
  refine ⟨H', (zfK E0 rfl _ _ _).trans ?_, e2⟩
  unfold zdz
  rw [zah (c_itoa (h.tabs hT hn) h0 h1), sp_ba (itoa x) (by omega), zah e1]
end
end Go.AM
namespace Go.AM
open Go
def zjz : ByteArray := ⟨#[45, 32, 116, 114, 117, 101, 32, 102, 97, 108, 115, 101, 32, 99, 111, 110, 115, 116, 32, 118, 97, 114, 32, 110, 111, 116, 32, 97, 110, 100, 32, 111, 114, 32, 120, 111, 114, 32, 101, 113, 32, 117, 108, 116, 32, 117, 108, 101, 32, 115, 108, 116, 32, 115, 108, 101, 32, 105, 116, 101, 32, 99, 111, 109, 32, 110, 101, 103, 32, 98, 97, 110, 100, 32, 98, 111, 114, 32, 98, 120, 111, 114, 32, 97, 100, 100, 32, 115, 117, 98, 32, 109, 117, 108, 32, 100, 105, 118, 32, 114, 101, 109, 32, 115, 104, 108, 32, 115, 104, 114, 32, 115, 97, 114, 32, 114, 111, 108, 32, 114, 111, 114, 32, 99, 97, 116, 32, 115, 108, 105, 99, 101, 32, 122, 101, 120, 116, 32, 115, 101, 120, 116]⟩
def zaH : List (List UInt8) := [[45], [116, 114, 117, 101], [102, 97, 108, 115, 101], [99, 111, 110, 115, 116], [118, 97, 114], [110, 111, 116], [97, 110, 100], [111, 114], [120, 111, 114], [101, 113], [117, 108, 116], [117, 108, 101], [115, 108, 116], [115, 108, 101], [105, 116, 101], [99, 111, 109], [110, 101, 103], [98, 97, 110, 100], [98, 111, 114], [98, 120, 111, 114], [97, 100, 100], [115, 117, 98], [109, 117, 108], [100, 105, 118], [114, 101, 109], [115, 104, 108], [115, 104, 114], [115, 97, 114], [114, 111, 108], [114, 111, 114], [99, 97, 116], [115, 108, 105, 99, 101], [122, 101, 120, 116], [115, 101, 120, 116]]
theorem names_eq : Go.Lib.fields zjz.data.toList = zaH := by kernel_rfl
theorem names_ok : zjz.size < 4294967281 ∧ zjz.data.toList.all (fun b => decide (b.toNat < 128)) = true := by constructor <;> decide +kernel
def zcr : List Value := zaH.map fun l => Value.string (ba l)
theorem c_names {H : Hp} (hT : Tabs H) : RR F.a26 [] H = some (.slice (some ⟨H.next, 0, some 1⟩) 34 34, H.new (.cells zcr true)) := by
  obtain ⟨cs, e, fz, hg, ht⟩ := hT.spc
  have hx : RR F.a41 [.string zjz] H = some (.slice (some ⟨H.next, 0, some 1⟩) 34 34, H.new (.cells zcr true)) := by
    refine (zh2 (O := orc) Go.Proofs.Tryz.func69 (by kernel_rfl) (by kernel_rfl) (show E0 F.a41 = some ziG from rfl) _ H).trans ?_
    show ziG [.string zjz] H = _
    unfold ziG
    dsimp only
    rw [if_pos names_ok, hg]
    dsimp only
    rw [ht, names_eq]
    rfl
  refine (zlb E0 rfl _).trans ?_
  have : zhb RR H = zae RR F.a41 [.string zjz] H fun r1 H2 => some (r1, H2) := rfl
  rw [this, zah hx]
theorem zm2 (op : Int) : (word zaH op).length ≤ 24 := by
  unfold word
  have h : zaH.all (fun l => decide (l.length ≤ 24)) = true := by decide
  rw [List.getD_eq_getElem?_getD]
  cases q : zaH[op.toNat]? with
  | none => simp
  | some l => exact of_decide_eq_true (List.all_eq_true.1 h l (List.mem_of_getElem? q))
theorem word_at {op : Int} (h : 1 ≤ op ∧ op ≤ 33) : zcr[op.toNat]? = some (.string (ba (word zaH op))) := by
  have hl : zaH.length = 34 := rfl
  have hlt : op.toNat < zaH.length := by omega
  unfold zcr word
  rw [List.getElem?_map, List.getD_eq_getElem?_getD, List.getElem?_eq_getElem hlt]
  rfl
theorem zkG {Φ : Int → Int} {n : Nd} (hn : zfa n) (hΦ : ∀ t, 0 ≤ Φ t ∧ Φ t ≤ 2 ^ 42) : ∀ (cs : List UInt8) (k : Nat), (act Φ n cs k).length ≤ 30 * cs.length
  | [], k => Nat.zero_le _
  | c :: r, k => by
    have h1 := zkG hn hΦ r k
    have h2 := zkG hn hΦ r (k + 1)
    have a1 := hΦ ([n.a, n.b, n.c].getD k 0)
    have a2 := zcG (n := Φ ([n.a, n.b, n.c].getD k 0)) (by omega) (by omega)
    have a3 := znD (x := n.num.toNat) (by have := hn.num; omega)
    have a4 := zcG (n := n.w) (by have := hn.w; omega) (by have := hn.w; omega)
    have a5 := hn.name
    unfold act sp
    rw [List.length_cons]
    split
    · simp only [List.cons_append, List.length_cons, List.length_append]; omega
    · split
      · simp only [List.cons_append, List.length_cons, List.length_append]; omega
      · split
        · simp only [List.cons_append, List.length_cons, List.length_append]; omega
        · split
          · simp only [List.cons_append, List.length_cons, List.length_append]; omega
          · omega
theorem fl_len (op : Int) : (fl op).length ≤ 3 := by
  have := zgm op
  unfold fl
  repeat' split
  all_goals first | decide | (rw [List.length_replicate]; omega)
section
variable {B : Hp} {b m w : Nat} (hT : Tabs B) (hn : PP.globals.size ≤ B.next)
include hT hn
theorem loopP {n : Nd} {Φ : Int → Int} (hΦ : ∀ t, 0 ≤ Φ t ∧ Φ t ≤ 2 ^ 42) : ∀ (k i : Nat) (H : Hp) (s : List UInt8), ((i + k : Nat) : Int) = zak n.op → DP B H zcr b m w s Φ → s.length + 100 * (k + 1) ≤ 2 ^ 46 →
    ∃ H', zaG (za3 RR (.map (some m)) (.int .i64 (zak n.op)) (.pointer (some ⟨b, 0, none⟩)) n.cells) [.int .i64 (i : Int)] H = some (.exit 3, [.int .i64 (zak n.op)], H') ∧ DP B H' zcr b m w (s ++ act Φ n (List.replicate k 112) i) Φ
  | 0, i, H, s, hi, h, hl => by
    refine ⟨H, ?_, by rw [List.replicate_zero]; unfold act; rw [List.append_nil]; exact h⟩
    rw [Nat.add_zero] at hi
    rw [zan, hi]
    have : za3 RR (.map (some m)) (.int .i64 (zak n.op)) (.pointer (some ⟨b, 0, none⟩)) n.cells [.int .i64 (zak n.op)] H = some (.exit 3, [.int .i64 (zak n.op)], H) := by
      unfold za3
      simp only [zaY, zaf, zcJ, qg0, Int.lt_irrefl, decide_false]
    rw [this]; rfl
  | k + 1, i, H, s, hi, h, hl => by
    have hp := zgm n.op
    have hi3 : i < 3 := by omega
    have hx : [n.a, n.b, n.c][i]? = some ([n.a, n.b, n.c].getD i 0) := by
      rw [List.getD_eq_getElem?_getD, List.getElem?_eq_getElem (by simpa using hi3)]; rfl
    generalize hq : [n.a, n.b, n.c].getD i 0 = x at hx
    have hb := hΦ x
    obtain ⟨H1, e1, h1⟩ := h.put hT hn (x := Φ x) (by omega) (by omega) (by omega)
    have hil := zcG (n := Φ x) (by omega) (by omega)
    obtain ⟨H', e2, h2⟩ := loopP (n := n) hΦ k (i + 1) H1 (s ++ sp (itoa (Φ x))) (by omega) h1 (by unfold sp; rw [List.length_append, List.length_cons]; omega)
    refine ⟨H', ?_, ?_⟩
    · rw [zan]
      have w1 : IntKind.i64.wrap ((i : Int) + 1) = ((i + 1 : Nat) : Int) := za8 (by omega) (by omega)
      have q : (i : Int) < zak n.op := by omega
      have : za3 RR (.map (some m)) (.int .i64 (zak n.op)) (.pointer (some ⟨b, 0, none⟩)) n.cells [.int .i64 (i : Int)] H = some (.next, [.int .i64 ((i + 1 : Nat) : Int)], H1) := by
        unfold za3
        simp only [zaY, zaf, zda, qg0, q, decide_true, ncell2, ncell3, ncell4, zhy, arr3 hx, h.mp.look ikI, zah e1, zbb, w1]
      rw [this]; exact e2
    · have ea : act Φ n (List.replicate (k + 1) 112) i = sp (itoa (Φ x)) ++ act Φ n (List.replicate k 112) (i + 1) := by
        rw [List.replicate_succ]
        show (if (112 : UInt8) = 112 then _ else _) = _
        rw [if_pos rfl, hq]
      rw [ea, ← List.append_assoc]; exact h2
end
end Go.AM
namespace Go.AM
open Go
def zju (w : List UInt8) : List (List UInt8) → Nat → Option Nat
  | [], _ => none
  | x :: r, i => if 0 < i ∧ x = w then some i else zju w r (i + 1)
def opF (w : List UInt8) : Option Nat := zju w zaH 0
theorem zls (w : List UInt8) : ∀ (l : List (List UInt8)) (i j : Nat), zju w l i = some j → 1 ≤ j ∧ j < i + l.length
  | [], i, j, h => by cases h
  | x :: r, i, j, h => by
    unfold zju at h
    split at h
    · rename_i hc
      cases h
      simp only [List.length_cons]
      omega
    · have := zls w r (i + 1) j h
      simp only [List.length_cons]
      omega
theorem opF_bd {w : List UInt8} {j : Nat} (h : opF w = some j) : 1 ≤ j ∧ j ≤ 33 := by
  have := zls w zaH 0 j h
  have hl : zaH.length = 34 := rfl
  omega
theorem zmA (w : List UInt8) (H : Hp) (wv : Value) (hv : Rdb H 1 wv 34 zcr) (z : Value) : ∀ (rest : List (List UInt8)) (i : Nat), zaH.drop i = rest → i ≤ 34 →
    zaG (zaz RR (str w) (.int .i64 34) wv) [z, .int .i64 (i : Int)] H = match zju w rest i with
      | some j => some (.ret, [W1 (.int .i64 (j : Int))], H)
      | none => some (.exit 0, [z, .int .i64 34], H)
  | [], i, hr, hi => by
    have hl : zaH.length = 34 := rfl
    have hil : i = 34 := by
      have := congrArg List.length hr
      rw [List.length_drop, hl] at this
      simp at this
      omega
    have this : zaz RR (str w) (.int .i64 34) wv [z, .int .i64 (i : Int)] H = some (.exit 0, [z, .int .i64 (i : Int)], H) := by
      unfold zaz
      have h1 : ¬ ((i : Int) < 34) := by omega
      simp only [qg0, qg1, zaY, zaf, s_br, h1, decide_false, Bool.false_eq_true, if_false]
    rw [zan, this, hil]
    rfl
  | x :: r, i, hr, hi => by
    have hl : zaH.length = 34 := rfl
    have hlt : i < 34 := by
      have := congrArg List.length hr
      rw [List.length_drop, hl] at this
      simp at this
      omega
    have hget : zaH[i]? = some x := by
      have := congrArg (fun x => x[0]?) hr
      simpa using this
    have hr2 : zaH.drop (i + 1) = r := by rw [← List.drop_drop, hr]; rfl
    obtain ⟨y, hy, ⟨rest', own, hg⟩, hix⟩ := hv.ix hlt
    have hld := fun (α : Type) (k : Value → Option α) => zbe hg (i * 1) (str x) (by
      rw [Nat.mul_one, List.getElem?_append_left (by unfold zcr; rw [List.length_map]; omega)]
      unfold zcr
      rw [List.getElem?_map, hget]; rfl) k
    have hinc : IntKind.i64.wrap ((i : Int) + 1) = ((i + 1 : Nat) : Int) := w64 (by omega) (by omega)
    have h1 : ((i : Int) < 34) := by omega
    unfold zju
    by_cases h0 : 0 < i
    · have h0' : ((i : Int) > 0) := by omega
      by_cases hx : x = w
      · rw [if_pos ⟨h0, hx⟩]
        have hx' : (x == w) = true := by rw [beq_iff_eq]; exact hx
        have this : zaz RR (str w) (.int .i64 34) wv [z, .int .i64 (i : Int)] H = some (.ret, [W1 (.int .i64 (i : Int))], H) := by
          unfold zaz
          simp only [qg0, qg1, zaY, zaf, s_br, h1, decide_true, if_true, hix, hld, zca, h0', zeQ, hx']
        rw [zan, this]
        rfl
      · rw [if_neg (fun q => hx q.2)]
        have hx' : (x == w) = false := by rw [beq_eq_false_iff_ne]; exact hx
        have this : zaz RR (str w) (.int .i64 34) wv [z, .int .i64 (i : Int)] H = some (.next, [z, .int .i64 ((i + 1 : Nat) : Int)], H) := by
          unfold zaz
          simp only [qg0, qg1, zaY, zaf, s_br, h1, decide_true, if_true, hix, hld, zca, h0', zeQ, hx', Bool.false_eq_true, if_false, zbb, hinc]
        rw [zan, this]
        exact zmA w H wv hv z r (i + 1) hr2 hlt
    · rw [if_neg (fun q => h0 q.1)]
      have h0' : ¬ ((i : Int) > 0) := by omega
      have this : zaz RR (str w) (.int .i64 34) wv [z, .int .i64 (i : Int)] H = some (.next, [z, .int .i64 ((i + 1 : Nat) : Int)], H) := by
        unfold zaz
        simp only [qg0, qg1, zaY, zaf, s_br, h1, decide_true, if_true, hix, hld, zca, h0', decide_false, Bool.false_eq_true, if_false, zbb, hinc]
      rw [zan, this]
      exact zmA w H wv hv z r (i + 1) hr2 hlt
theorem zmT (w : List UInt8) (H : Hp) (hL : Laid H) : ∃ H', Frm (fun _ => False) H H' ∧ RR F.a47 [str w] H = match opF w with
    | some j => some (W1 (.int .i64 (j : Int)), H')
    | none => some (W0 (zbY 3), H') := by
  have hrun := zhj E0 rfl (str w) H
  rw [zhr, zah (c_names hL.tabs)] at hrun
  have hv : Rdb (H.new (.cells zcr true)) 1 (.slice (some ⟨H.next, 0, some 1⟩) 34 34) 34 zcr :=
    .inr ⟨H.next, 34, [], true, rfl, Nat.le_refl _, by rw [List.append_nil]; exact if_pos rfl, rfl, by show H.next < H.next + 1; omega⟩
  have hloop := zmA w _ _ hv (.int .i64 0) zaH 0 rfl (Nat.zero_le _)
  have hlen : ∀ {α : Type} (k : Value → Option α), pLen .sl (.slice (some ⟨H.next, 0, some 1⟩) 34 34) (H.new (.cells zcr true)) k = k (.int .i64 34) := fun k => rfl
  rw [hlen] at hrun
  refine ⟨H.new (.cells zcr true), zc8 _ _ _, hrun.trans ?_⟩
  have hloop : zaG (zaz RR (str w) (.int .i64 34) (.slice (some ⟨H.next, 0, some 1⟩) 34 34)) [.int .i64 0, .int .i64 0] (H.new (.cells zcr true)) = match opF w with
      | some j => some (.ret, [W1 (.int .i64 (j : Int))], H.new (.cells zcr true))
      | none => some (.exit 0, [.int .i64 0, .int .i64 34], H.new (.cells zcr true)) := hloop
  rw [hloop]
  cases opF w with
  | some j => rfl
  | none =>
    dsimp only
    rw [zaq, zbk, zaI, zbW]
end Go.AM
