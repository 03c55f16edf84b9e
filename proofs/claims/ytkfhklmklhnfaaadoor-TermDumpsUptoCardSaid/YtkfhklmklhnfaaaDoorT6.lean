/- Part of the proof of TermDumpsUptoCardSaid: see the last file.  -/
import Derived.KernelRfl
import Derived.Lib.ItoaLen
import Derived.Lib.Strings
import Derived.Test.YtkfhklmklhnfaaaDoorCards
import Derived.Test.YtkfhklmklhnfaaaDoorTie
import Derived.WalkKit
import Derived.ProofKit
import Derived.OpenShut
import Derived.Deep.DeepHandedRow
import Derived.Deep.DeepWitnessRowRef
import Derived.Lib.LaidTab
import Derived.Lib.LaidU8
import Derived.Lib.TrailingZeros
import Derived.Test.YtkfhklmklhnfaaaDoorT2
import Derived.Test.YtkfhklmklhnfaaaDoorT4
import Derived.Test.YtkfhklmklhnfaaaDoorT5
set_option linter.unusedSimpArgs false
set_option linter.unusedVariables false
set_option linter.unusedSectionVars false
/- The Term seat: the document's order. -/
set_option linter.unusedVariables false
set_option maxRecDepth 100000
set_option linter.unusedSimpArgs false
namespace Go.AM
open Go
/-- The first part that is not told. -/
def firstUn (out : List Nat) (l : List Nat) : Nat := (l.find? fun c => decide (c ∉ out)).getD 0
def scanOne (out : List Nat) (x : Int) (next : Int) : Int := if x > 0 ∧ x.toNat ∉ out then x else next
theorem scan3 {L : List Nd} (h : Dag L) {i : Nat} {n : Nd} (hn : L[i]? = some n) (out : List Nat) : scanOne out n.a (scanOne out n.b (scanOne out n.c 0)) = ((firstUn out (kidsN n) : Nat) : Int) := by
  have ha := h.a i n hn
  have hb := h.b i n hn
  have hc := h.c i n hn
  have z : ∀ (y : Int), scanOne out 0 y = y := fun y => by unfold scanOne; rw [if_neg (by omega)]
  have s : ∀ (x y : Int), 1 ≤ x → scanOne out x y = if x.toNat ∉ out then ((x.toNat : Nat) : Int) else y := fun x y hx => by
    unfold scanOne
    by_cases q : x.toNat ∉ out
    · rw [if_pos ⟨by omega, q⟩, if_pos q]; omega
    · rw [if_neg (fun w => q w.2), if_neg q]
  unfold firstUn kidsN
  rcases partsT_cases n.op with q | q | q | q
  · have e1 : n.a = 0 := by omega
    have e2 : n.b = 0 := by omega
    have e3 : n.c = 0 := by omega
    rw [q, e1, e2, e3, z, z, z]; rfl
  · have e2 : n.b = 0 := by omega
    have e3 : n.c = 0 := by omega
    rw [q, e2, e3, z, z, s _ _ (by omega)]
    by_cases k : n.a.toNat ∈ out <;> simp [k]
  · have e3 : n.c = 0 := by omega
    rw [q, e3, z, s _ _ (by omega), s _ _ (by omega)]
    by_cases k : n.a.toNat ∈ out <;> by_cases k2 : n.b.toNat ∈ out <;> simp [k, k2]
  · rw [q, s _ _ (by omega), s _ _ (by omega), s _ _ (by omega)]
    by_cases k : n.a.toNat ∈ out <;> by_cases k2 : n.b.toNat ∈ out <;> by_cases k3 : n.c.toNat ∈ out <;> simp [k, k2, k3]
/-- The three slices of the document's order. -/
abbrev PR (H0 H : Hp) (lv : Value) (out : List Nat) (sv : Value) (stk : List Nat) (bv : Value) (told : List Bool) : Prop := Own H0 H [⟨1, lv, out.length, ints out⟩, ⟨1, sv, stk.length, ints stk⟩, ⟨1, bv, told.length, bools told⟩]
def ToldB (N : Nat) (told : List Bool) (out : List Nat) : Prop := told.length = N + 1 ∧ ∀ x, x ≤ N → told[x]? = some (decide (x ∈ out))
section
variable {H0 : Hp} {p f g : Nat} {lim : Int} {L : List Nd} {K : List (ByteArray × Int)} {sl : Value} (hst : StF H0 p lim L K sl f g) (hd : Dag L) (hL : L.length * 64 ≤ 2 ^ 46) (bv : Value)
theorem Own.st {H : Hp} {r : List Sl} (h : Own H0 H r) (hst : StF H0 p lim L K sl f g) : StF H p lim L K sl f g :=
  hst.keep (fun i hi => h.old i (hst.foot_lt hi)) h.next
theorem PR.told_at {H : Hp} {lv sv : Value} {out stk : List Nat} {told : List Bool} (h : PR H0 H lv out sv stk bv told) {i : Nat} {b : Bool} (hi : told[i]? = some b) : ∃ y, (∀ (α : Type) (kd : IntKind) (k : Value → Option α), pIdx 1 bv (.int kd (i : Int)) k = k (.pointer (some ⟨y, i * 1, none⟩))) ∧
    (∀ (α : Type) (k : Value → Option α), pLoad 1 false H (.pointer (some ⟨y, i * 1, none⟩)) k = k (.bool b)) := by
  obtain ⟨y, h1, h2, h3, _⟩ := h.third.set (List.getElem?_eq_some_iff.1 hi).1
  exact ⟨y, h2, fun α k => h3 (i * 1) _ (by rw [Nat.mul_one]; unfold bools; rw [List.getElem?_map, hi]; rfl) α k⟩
theorem PR.told_set {H : Hp} {lv sv : Value} {out stk : List Nat} {told : List Bool} (h : PR H0 H lv out sv stk bv told) {i : Nat} (hi : i < told.length) : ∃ y, Id bv y ∧ (∀ (α : Type) (kd : IntKind) (k : Value → Option α), pIdx 1 bv (.int kd (i : Int)) k = k (.pointer (some ⟨y, i * 1, none⟩))) ∧
    ∃ H', (∀ (α : Type) (k : Hp → Option α), pStore 1 H (.pointer (some ⟨y, i * 1, none⟩)) (.bool true) k = k H') ∧ PR H0 H' lv out sv stk bv (told.set i true) := by
  obtain ⟨y, h1, h2, _, _, h5⟩ := h.third.set hi
  obtain ⟨H', g1, g2⟩ := h5 (i * 1) 1 (.bool true) rfl (by omega) rfl
  refine ⟨y, h1, h2, H', g1, ?_⟩
  have e : spl (bools told) (i * 1) (cellsL (.bool true)) = bools (told.set i true) := spl_set Value.bool told hi true
  rw [e] at g2
  have := g2.swap
  have := (this.tail.swap)
  have hh := g2.third.third
  unfold PR
  rw [List.length_set]
  exact g2.third.third
include hst hd in
theorem scan_loop {H : Hp} {lv sv : Value} {out stk : List Nat} {told : List Bool} (h : PR H0 H lv out sv stk bv told) (ht : ToldB L.length told out) {i : Nat} {n : Nd} (hn : L[i]? = some n) :
    loopD (s_cadenceref07_Store_Order_2 RR bv [.int .i64 n.a, .int .i64 n.b, .int .i64 n.c]) [.int .i64 0, .int .i64 2] H = some (.exit 6, [.int .i64 ((firstUn out (kidsN n) : Nat) : Int), .int .i64 (-1)], H) := by
  have hi := (List.getElem?_eq_some_iff.1 hn).1
  have step : ∀ (j : Nat) (x nx : Int), j < 3 → [n.a, n.b, n.c][j]? = some x → x ≤ L.length → s_cadenceref07_Store_Order_2 RR bv [.int .i64 n.a, .int .i64 n.b, .int .i64 n.c] [.int .i64 nx, .int .i64 (j : Int)] H = some (.next, [.int .i64 (scanOne out x nx), .int .i64 ((j : Int) - 1)], H) := by
    intro j x nx hj hx hb
    have w : IntKind.i64.wrap ((j : Int) - 1) = (j : Int) - 1 := i64_wrap (by omega) (by omega)
    have q : (j : Int) ≥ 0 := by omega
    have hix : ∀ (k : Nat → Option Outc), pIdxLoc 3 (.int .i64 (j : Int)) k = k j := fun k => by
      unfold pIdxLoc
      dsimp only
      rw [if_pos ⟨by omega, by omega⟩, Int.toNat_natCast]
    have hc : ∀ (k : Value → Option Outc), pCell 1 false [.int .i64 n.a, .int .i64 n.b, .int .i64 n.c] (0 + j * 1) k = k (.int .i64 x) := fun k => by
      refine s_cell _ _ _ ?_ k
      rw [Nat.zero_add, Nat.mul_one]
      match j, hj, hx with
      | 0, _, hx => cases hx; rfl
      | 1, _, hx => cases hx; rfl
      | 2, _, hx => cases hx; rfl
    unfold s_cadenceref07_Store_Order_2
    simp only [List.getD_cons_succ, List.getD_cons_zero, s_geq, q, decide_true, s_bool, s_brt, hix, hc, s_gtr]
    by_cases hp : x > 0
    · have hxc : x = ((x.toNat : Nat) : Int) := by omega
      have hat := ht.2 x.toNat (by omega)
      obtain ⟨y, e1, e2⟩ := PR.told_at bv h hat
      rw [← hxc] at e1
      simp only [hp, decide_true, s_brt, e1, e2, s_not, s_bool]
      by_cases ho : x.toNat ∈ out
      · have : scanOne out x nx = nx := by unfold scanOne; rw [if_neg (fun w => w.2 ho)]
        simp only [ho, decide_true, Bool.not_true, s_brf, s_sub, w, this]
      · have : scanOne out x nx = x := by unfold scanOne; rw [if_pos ⟨hp, ho⟩]
        simp only [ho, decide_false, Bool.not_false, s_brt, s_sub, w, this]
    · have : scanOne out x nx = nx := by unfold scanOne; rw [if_neg (fun w => hp w.1)]
      simp only [hp, decide_false, s_brf, s_sub, w, this]
  have ha := hd.a i n hn
  have hb := hd.b i n hn
  have hc := hd.c i n hn
  have s2 := step 2 n.c 0 (by omega) rfl (by omega)
  have s1 := fun nx => step 1 n.b nx (by omega) rfl (by omega)
  have s0 := fun nx => step 0 n.a nx (by omega) rfl (by omega)
  have e : ∀ nx : Int, s_cadenceref07_Store_Order_2 RR bv [.int .i64 n.a, .int .i64 n.b, .int .i64 n.c] [.int .i64 nx, .int .i64 (-1)] H = some (.exit 6, [.int .i64 nx, .int .i64 (-1)], H) := fun nx => by
    unfold s_cadenceref07_Store_Order_2
    simp only [List.getD_cons_succ, List.getD_cons_zero, s_geq, s_bool]
    rfl
  rw [← scan3 hd hn, loopD_eq, show (2 : Int) = ((2 : Nat) : Int) from rfl, s2]
  show loopD _ _ _ = _
  rw [loopD_eq, show ((2 : Nat) : Int) - 1 = ((1 : Nat) : Int) from rfl, s1]
  show loopD _ _ _ = _
  rw [loopD_eq, show ((1 : Nat) : Int) - 1 = ((0 : Nat) : Int) from rfl, s0]
  show loopD _ _ _ = _
  rw [loopD_eq, show ((0 : Nat) : Int) - 1 = -1 from rfl, e]
  rfl
end
end Go.AM
/- The Term seat: the document's order, what leads to one term. -/
set_option linter.unusedVariables false
set_option maxRecDepth 100000
set_option linter.unusedSimpArgs false
namespace Go.AM
open Go
theorem firstUn_nil {out l : List Nat} (h : ∀ c ∈ l, c ∈ out) : firstUn out l = 0 := by
  unfold firstUn
  have : l.find? (fun c => decide (c ∉ out)) = none := List.find?_eq_none.2 fun c hc => by simpa using h c hc
  rw [this]; rfl
theorem firstUn_cons {out pre l : List Nat} {c : Nat} (h : ∀ x ∈ pre, x ∈ out) (hc : c ∉ out) : firstUn out (pre ++ c :: l) = c := by
  unfold firstUn
  have : pre.find? (fun c => decide (c ∉ out)) = none := List.find?_eq_none.2 fun c hc => by simpa using h c hc
  rw [List.find?_append, this]
  simp [hc]
theorem spl3 {α : Type} (a b c : Int) (k : List Value → Option α) : pSplice 3 [.int .i64 0, .int .i64 0, .int .i64 0] 0 (.agg #[.int .i64 a, .int .i64 b, .int .i64 c]) k = k [.int .i64 a, .int .i64 b, .int .i64 c] := by
  have : wrCells 3 [.int .i64 0, .int .i64 0, .int .i64 0] 0 (.agg #[.int .i64 a, .int .i64 b, .int .i64 c]) = some [.int .i64 a, .int .i64 b, .int .i64 c] := by kernel_rfl
  unfold pSplice; rw [this]
theorem ToldB.set {N : Nat} {told : List Bool} {out : List Nat} (h : ToldB N told out) {t : Nat} (ht : t ≤ N) : ToldB N (told.set t true) (out ++ [t]) :=
  ⟨by rw [List.length_set]; exact h.1, fun x hx => by
    rw [List.getElem?_set]
    by_cases e : t = x
    · subst e
      rw [if_pos rfl, if_pos (by rw [h.1]; omega)]
      simp
    · rw [if_neg e, h.2 x hx]
      congr 2
      have : ¬ x = t := fun q => e q.symm
      simp [this]⟩
section
variable {H0 : Hp} {p f g : Nat} {lim : Int} {L : List Nd} {K : List (ByteArray × Int)} {sl : Value} (hst : StF H0 p lim L K sl f g) (hd : Dag L) (hL : L.length * 64 ≤ 2 ^ 46) (bv : Value)
/-- The last element of a stack. -/
theorem PR.top {H : Hp} {lv sv : Value} {out below : List Nat} {t : Nat} {told : List Bool} (h : PR H0 H lv out sv (below ++ [t]) bv told) : ∃ y, (∀ (α : Type) (kd : IntKind) (k : Value → Option α), pIdx 1 sv (.int kd (below.length : Int)) k = k (.pointer (some ⟨y, below.length * 1, none⟩))) ∧
    (∀ (α : Type) (k : Value → Option α), pLoad 1 false H (.pointer (some ⟨y, below.length * 1, none⟩)) k = k (.int .i64 (t : Int))) := by
  obtain ⟨y, _, h2, h3, _⟩ := h.swap.set (i := below.length) (by simp)
  refine ⟨y, h2, fun α k => h3 _ _ ?_ α k⟩
  rw [Nat.mul_one, ints_app, List.getElem?_append_right (by rw [ints_len]; omega), ints_len, Nat.sub_self]; rfl
theorem PR.push {H : Hp} {lv sv : Value} {out stk : List Nat} {told : List Bool} (h : PR H0 H lv out sv stk bv told) (t : Nat) (hb : (stk.length + 1) * 8 ≤ 2 ^ 47) :
    ∃ sv' H', (∀ (α : Type) (k : Value → Hp → Option α), (pBuildSlice 1 [.int .i64 0] 1 [(0, .int .i64 (t : Int))] H fun x H1 => pAppend 1 8 sv x H1 k) = k sv' H') ∧ PR H0 H' lv out sv' (stk ++ [t]) bv told := by
  obtain ⟨sv', H', e1, e2⟩ := h.swap.push (bytes := 8) (zs := [.int .i64 0]) (x := .int .i64 (t : Int)) (by decide) (by decide) rfl rfl rfl hb
  refine ⟨sv', H', e1, ?_⟩
  unfold PR
  rw [ints_app, List.length_append]
  exact e2.swap
theorem PR.tell {H : Hp} {lv sv : Value} {out stk : List Nat} {told : List Bool} (h : PR H0 H lv out sv stk bv told) (t : Nat) (hb : (out.length + 1) * 8 ≤ 2 ^ 47) :
    ∃ lv' H', (∀ (α : Type) (k : Value → Hp → Option α), (pBuildSlice 1 [.int .i64 0] 1 [(0, .int .i64 (t : Int))] H fun x H1 => pAppend 1 8 lv x H1 k) = k lv' H') ∧ PR H0 H' lv' (out ++ [t]) sv stk bv told := by
  obtain ⟨lv', H', e1, e2⟩ := Own.push h (bytes := 8) (zs := [.int .i64 0]) (x := .int .i64 (t : Int)) (by decide) (by decide) rfl rfl rfl hb
  refine ⟨lv', H', e1, ?_⟩
  unfold PR
  rw [ints_app, List.length_append]
  exact e2
theorem PR.pop {H : Hp} {lv sv : Value} {out below : List Nat} {t : Nat} {told : List Bool} (h : PR H0 H lv out sv (below ++ [t]) bv told) : ∃ sv', (∀ (α : Type) (kd : IntKind) (k : Value → Option α), pSlice 1 sv none (some (.int kd (below.length : Int))) k = k sv') ∧ PR H0 H lv out sv' below bv told := by
  obtain ⟨sv', e1, e2⟩ := h.swap.cut (ints_one _) (m := below.length) (by simp)
  refine ⟨sv', e1, ?_⟩
  rw [ints_app, Nat.mul_one, List.take_left' (ints_len below)] at e2
  exact e2.swap
include hst hd hL
theorem back : ∀ t, 1 ≤ t → t ≤ L.length → ∀ (out below : List Nat) (told : List Bool) (H : Hp) (lv sv : Value), PR H0 H lv out sv (below ++ [t]) bv told → ToldB L.length told out → Told L.length out → below.length + t ≤ L.length →
    ∃ H' lv' sv' told', loopD (s_cadenceref07_Store_Order_3 RR (.pointer (some ⟨p, 0, none⟩)) bv) [lv, sv] H = loopD (s_cadenceref07_Store_Order_3 RR (.pointer (some ⟨p, 0, none⟩)) bv) [lv', sv'] H' ∧
      PR H0 H' lv' (post L t out) sv' below bv told' ∧ ToldB L.length told' (post L t out) := by
  intro t
  induction t using Nat.strongRecOn with
  | _ t ih =>
    intro h1 hN out below told H lv sv hp ht hto hbl
    obtain ⟨n, hn⟩ : ∃ n, L[t - 1]? = some n := ⟨_, List.getElem?_eq_getElem (by omega)⟩
    have hk : kids L t = kidsN n := by unfold kids; rw [hn]
    have hkl : ∀ c ∈ kids L t, 1 ≤ c ∧ c < t := fun c hc => kids_lt hd h1 hc
    have hlen : (below ++ [t]).length = below.length + 1 := by simp
    have w1 : IntKind.i64.wrap (((below.length + 1 : Nat) : Int) - 1) = (below.length : Int) := by rw [i64_wrap (by omega) (by omega)]; omega
    have w2 : IntKind.i64.wrap ((t : Int) - 1) = ((t - 1 : Nat) : Int) := by rw [i64_wrap (by omega) (by omega)]; omega
    have q1 : ((below.length + 1 : Nat) : Int) > 0 := by omega
    by_cases hin : t ∈ out
    · -- told already
      have hst' := Own.st hp hst
      obtain ⟨y, e1, e2⟩ := PR.top bv hp
      obtain ⟨sl', hsl, hix⟩ := hst'.st.all.ix (i := t - 1) (by omega) (α := Outc)
      have hls : ∀ {α : Type} (H' : Hp) (k : Value → Option α), pLen .sl sv H' k = k (.int .i64 ((below.length + 1 : Nat) : Int)) := fun H' k => by rw [hp.swap.head.len, hlen]
      have hsc := scan_loop hst hd bv hp ht hn
      obtain ⟨z, z1, z2⟩ := PR.told_at bv hp (b := true) (by rw [ht.2 t hN]; simp [hin])
      obtain ⟨sv1, c1, p1⟩ := PR.pop bv hp
      rw [post_in hd h1 hin]
      refine ⟨H, lv, sv1, told, ?_, p1, ht⟩
      rw [loopD_eq]
      have : s_cadenceref07_Store_Order_3 RR (.pointer (some ⟨p, 0, none⟩)) bv [lv, sv] H = some (.next, [lv, sv1], H) := by
        unfold s_cadenceref07_Store_Order_3
        simp only [List.getD_cons_succ, List.getD_cons_zero, hls, s_gtr, q1, decide_true, s_bool, s_brt, s_brf, s_sub, w1, e1, e2, s_nil, s_offs, Nat.zero_add, hst'.st.l1, w2, hix, ld7 hsl hn, spl7, ncell2, ncell3, ncell4, s_build3, spl3, hsc, s_bind, s_exit, s_onExit, z1, z2, s_not, Bool.not_true, c1]
        cases decide (((firstUn out (kidsN n) : Nat) : Int) > 0) <;> rfl
      rw [this]; rfl
    · rw [post_out hd h1 hin]
      -- by the parts that are left
      have key : ∀ (l pre : List Nat), kids L t = pre ++ l → ∀ (out : List Nat) (told : List Bool) (H : Hp) (lv sv : Value), (∀ c ∈ pre, c ∈ out) → t ∉ out → PR H0 H lv out sv (below ++ [t]) bv told → ToldB L.length told out → Told L.length out →
          ∃ H' lv' sv' told', loopD (s_cadenceref07_Store_Order_3 RR (.pointer (some ⟨p, 0, none⟩)) bv) [lv, sv] H = loopD (s_cadenceref07_Store_Order_3 RR (.pointer (some ⟨p, 0, none⟩)) bv) [lv', sv'] H' ∧
            PR H0 H' lv' (posts L l out ++ [t]) sv' below bv told' ∧ ToldB L.length told' (posts L l out ++ [t]) := by
        intro l
        induction l with
        | nil =>
          intro pre hpre out told H lv sv hall hin hp ht hto
          rw [List.append_nil] at hpre
          have hst' := Own.st hp hst
          obtain ⟨y, e1, e2⟩ := PR.top bv hp
          obtain ⟨sl', hsl, hix⟩ := hst'.st.all.ix (i := t - 1) (by omega) (α := Outc)
          have hls : ∀ {α : Type} (H' : Hp) (k : Value → Option α), pLen .sl sv H' k = k (.int .i64 ((below.length + 1 : Nat) : Int)) := fun H' k => by rw [hp.swap.head.len, hlen]
          have hsc := scan_loop hst hd bv hp ht hn
          have hf0 : firstUn out (kidsN n) = 0 := by rw [← hk, hpre]; exact firstUn_nil hall
          rw [hf0] at hsc
          obtain ⟨z, z1, z2⟩ := PR.told_at bv hp (b := false) (by rw [ht.2 t hN]; simp [hin])
          obtain ⟨z', z0', z1', H1, z3, p1⟩ := PR.told_set bv hp (i := t) (by rw [ht.1]; omega)
          have hol := hto.len
          obtain ⟨lv1, H2, t1, p2⟩ := PR.tell bv p1 t (by omega)
          obtain ⟨sv1, c1, p3⟩ := PR.pop bv p2
          obtain rfl : z' = z := by
            have a1 := z1 Nat .i64 (fun v => match v with | .pointer (some a) => some a.block | _ => none)
            have a2 := z1' Nat .i64 (fun v => match v with | .pointer (some a) => some a.block | _ => none)
            rw [a1] at a2
            simpa using a2.symm
          refine ⟨H2, lv1, sv1, _, ?_, p3, ht.set hN⟩
          rw [loopD_eq]
          have q0 : ¬ (((0 : Nat) : Int) > 0) := by omega
          have : s_cadenceref07_Store_Order_3 RR (.pointer (some ⟨p, 0, none⟩)) bv [lv, sv] H = some (.next, [lv1, sv1], H2) := by
            unfold s_cadenceref07_Store_Order_3
            simp only [List.getD_cons_succ, List.getD_cons_zero, hls, s_gtr, q1, decide_true, s_bool, s_brt, s_brf, s_sub, w1, e1, e2, s_nil, s_offs, Nat.zero_add, hst'.st.l1, w2, hix, ld7 hsl hn, spl7, ncell2, ncell3, ncell4, s_build3, spl3, hsc, s_bind, s_exit, s_onExit, q0, decide_false, z1, z2, s_not, Bool.not_false, z3, t1, c1]
          rw [this]; rfl
        | cons c l ihl =>
          intro pre hpre out told H lv sv hall hin hp ht hto
          have hcm : c ∈ kids L t := by rw [hpre]; simp
          obtain ⟨hc1, hct⟩ := hkl c hcm
          rw [posts_cons]
          by_cases hco : c ∈ out
          · rw [post_in hd hc1 hco]
            exact ihl (pre ++ [c]) (by rw [hpre]; simp) out told H lv sv (fun x hx => by
              rcases List.mem_append.1 hx with hx | hx
              · exact hall x hx
              · rw [List.mem_singleton] at hx; subst hx; exact hco) hin hp ht hto
          · have hst' := Own.st hp hst
            obtain ⟨y, e1, e2⟩ := PR.top bv hp
            obtain ⟨sl', hsl, hix⟩ := hst'.st.all.ix (i := t - 1) (by omega) (α := Outc)
            have hls : ∀ {α : Type} (H' : Hp) (k : Value → Option α), pLen .sl sv H' k = k (.int .i64 ((below.length + 1 : Nat) : Int)) := fun H' k => by rw [hp.swap.head.len, hlen]
            have hsc := scan_loop hst hd bv hp ht hn
            have hf0 : firstUn out (kidsN n) = c := by rw [← hk, hpre]; exact firstUn_cons hall hco
            rw [hf0] at hsc
            obtain ⟨z, z1, z2⟩ := PR.told_at bv hp (b := false) (by rw [ht.2 t hN]; simp [hin])
            obtain ⟨sv1, H1, t1, p1⟩ := PR.push bv hp c (by rw [hlen]; omega)
            obtain ⟨H2, lv2, sv2, told2, r1, r2, r3⟩ := ih c hct hc1 (by omega) out (below ++ [t]) told H1 lv sv1 p1 ht hto (by rw [hlen]; omega)
            have ht2 : Told L.length (post L c out) := hto.posts (l := [c]) hd fun c' hc' => by rw [List.mem_singleton] at hc'; subst hc'; omega
            obtain ⟨m1, m2, m3⟩ := post_mem hd c hc1 out
            obtain ⟨H3, lv3, sv3, told3, s1, s2, s3⟩ := ihl (pre ++ [c]) (by rw [hpre]; simp) (post L c out) told2 H2 lv2 sv2 (fun x hx => by
              rcases List.mem_append.1 hx with hx | hx
              · exact m1 x (hall x hx)
              · rw [List.mem_singleton] at hx; subst hx; exact m2) (fun q => by
              rcases m3 t q with q | q
              · exact hin q
              · omega) r2 r3 ht2
            refine ⟨H3, lv3, sv3, told3, ?_, s2, s3⟩
            rw [← s1, ← r1, loopD_eq]
            have q0 : ((c : Nat) : Int) > 0 := by omega
            have : s_cadenceref07_Store_Order_3 RR (.pointer (some ⟨p, 0, none⟩)) bv [lv, sv] H = some (.next, [lv, sv1], H1) := by
              unfold s_cadenceref07_Store_Order_3
              simp only [List.getD_cons_succ, List.getD_cons_zero, hls, s_gtr, q1, decide_true, s_bool, s_brt, s_brf, s_sub, w1, e1, e2, s_nil, s_offs, Nat.zero_add, hst'.st.l1, w2, hix, ld7 hsl hn, spl7, ncell2, ncell3, ncell4, s_build3, spl3, hsc, s_bind, s_exit, s_onExit, q0, z1, z2, s_not, Bool.not_false, t1]
            rw [this]; rfl
      exact key (kids L t) [] rfl out told H lv sv (fun c hc => by cases hc) hin hp ht hto
end
end Go.AM
/- The Term seat: the document's order of any roots; lists held against each other. -/
set_option linter.unusedVariables false
set_option maxRecDepth 100000
set_option linter.unusedSimpArgs false
namespace Go.AM
open Go
theorem loop14a {H : Hp} {p f g : Nat} {lim : Int} {L : List Nd} {K : List (ByteArray × Int)} {sl : Value} (hst : StF H p lim L K sl f g) {x : Value} {rs : List Int} (hx : Rdb H 1 x rs.length (intsI rs)) (hl : rs.length ≤ 2 ^ 40) :
    ∀ k i, i + k = rs.length → loopD (s_cadenceref07_Store_Order_1 RR (.pointer (some ⟨p, 0, none⟩)) x) [.int .i64 (i : Int)] H =
      if (rs.drop i).all (isT L) = true then some (.exit 0, [.int .i64 (rs.length : Int)], H) else some (.ret, [.tuple #[.slice none 0 0, .int .i64 70]], H)
  | 0, i, h => by
    have : i = rs.length := by omega
    subst this
    rw [loopD_eq]
    have : s_cadenceref07_Store_Order_1 RR (.pointer (some ⟨p, 0, none⟩)) x [.int .i64 (rs.length : Int)] H = some (.exit 0, [.int .i64 (rs.length : Int)], H) := by
      unfold s_cadenceref07_Store_Order_1
      simp only [hx.len, s_lss, s_bool, s_brf, List.getD_cons_zero, Int.lt_irrefl, decide_false]
    rw [this, List.drop_of_length_le (Nat.le_refl _)]; rfl
  | k + 1, i, h => by
    have hlt : i < rs.length := by omega
    have hg : rs[i]? = some rs[i] := List.getElem?_eq_getElem hlt
    obtain ⟨y, e1, e2⟩ := hx.int hg
    have w : IntKind.i64.wrap ((i : Int) + 1) = ((i + 1 : Nat) : Int) := i64_wrap (by omega) (by omega)
    have q : (i : Int) < (rs.length : Int) := by omega
    rw [loopD_eq, List.drop_eq_getElem_cons hlt, List.all_cons]
    cases ht : isT L rs[i] with
    | true =>
      have : s_cadenceref07_Store_Order_1 RR (.pointer (some ⟨p, 0, none⟩)) x [.int .i64 (i : Int)] H = some (.next, [.int .i64 ((i + 1 : Nat) : Int)], H) := by
        unfold s_cadenceref07_Store_Order_1
        simp only [hx.len, s_lss, s_bool, s_brt, s_brf, List.getD_cons_zero, q, decide_true, e1, e2, s_call (c30 hst.st), ht, s_not, Bool.not_true, s_add, w]
      rw [this]
      show loopD _ _ _ = _
      rw [loop14a hst hx hl k (i + 1) (by omega), Bool.true_and]
    | false =>
      have : s_cadenceref07_Store_Order_1 RR (.pointer (some ⟨p, 0, none⟩)) x [.int .i64 (i : Int)] H = some (.ret, [.tuple #[.slice none 0 0, .int .i64 70]], H) := by
        unfold s_cadenceref07_Store_Order_1
        simp only [hx.len, s_lss, s_bool, s_brt, s_brf, List.getD_cons_zero, q, decide_true, e1, e2, s_call (c30 hst.st), ht, s_not, Bool.not_false]
      rw [this]; rfl
section
variable {H0 : Hp} {p f g : Nat} {lim : Int} {L : List Nd} {K : List (ByteArray × Int)} {sl : Value} (hst : StF H0 p lim L K sl f g) (hd : Dag L) (hL : L.length * 64 ≤ 2 ^ 46) (bv : Value)
  {x : Value} {ns : List Nat} (hx : Rdb H0 1 x ns.length (ints ns)) (hns : ∀ t ∈ ns, 1 ≤ t ∧ t ≤ L.length) (hnl : ns.length ≤ 2 ^ 40)
include hst hd hL hx hns hnl
theorem loop14b : ∀ (k i : Nat) (out : List Nat) (told : List Bool) (H : Hp) (lv : Value), i + k = ns.length → Own H0 H [⟨1, lv, out.length, ints out⟩, ⟨1, bv, told.length, bools told⟩] → ToldB L.length told out → Told L.length out →
    ∃ H' lv' told', loopD (s_cadenceref07_Store_Order_4 RR (.pointer (some ⟨p, 0, none⟩)) x bv) [lv, .int .i64 (i : Int)] H = some (.exit 2, [lv', .int .i64 (ns.length : Int)], H') ∧
      Own H0 H' [⟨1, lv', (posts L (ns.drop i) out).length, ints (posts L (ns.drop i) out)⟩, ⟨1, bv, told'.length, bools told'⟩]
  | 0, i, out, told, H, lv, hi, hp, ht, hto => by
    have : i = ns.length := by omega
    subst this
    refine ⟨H, lv, told, ?_, ?_⟩
    · rw [loopD_eq]
      have hxH : Rdb H 1 x ns.length (ints ns) := hx.keep' (fun j hj => hp.old j (hx.lt hj)) hp.next
      have : s_cadenceref07_Store_Order_4 RR (.pointer (some ⟨p, 0, none⟩)) x bv [lv, .int .i64 (ns.length : Int)] H = some (.exit 2, [lv, .int .i64 (ns.length : Int)], H) := by
        unfold s_cadenceref07_Store_Order_4
        simp only [hxH.len, s_lss, s_bool, s_brf, List.getD_cons_succ, List.getD_cons_zero, Int.lt_irrefl, decide_false]
      rw [this]; rfl
    · rw [List.drop_of_length_le (Nat.le_refl _)]; exact hp
  | k + 1, i, out, told, H, lv, hi, hp, ht, hto => by
    have hlt : i < ns.length := by omega
    have hg : ns[i]? = some ns[i] := List.getElem?_eq_getElem hlt
    have hb := hns _ (List.getElem_mem hlt)
    have hdr : ns.drop i = ns[i] :: ns.drop (i + 1) := List.drop_eq_getElem_cons hlt
    rw [hdr, posts_cons]
    generalize ns[i] = t at hg hb
    have hxH : Rdb H 1 x ns.length (ints ns) := hx.keep' (fun j hj => hp.old j (hx.lt hj)) hp.next
    obtain ⟨y, hy, ⟨rest, own, hgy⟩, e1⟩ := hxH.ix hlt
    have e2 : ∀ (α : Type) (k : Value → Option α), pLoad 1 false H (.pointer (some ⟨y, i * 1, none⟩)) k = k (.int .i64 (t : Int)) := fun α k => ld_cell hgy (by rw [Nat.mul_one]; unfold ints; rw [List.getElem?_map, hg]; rfl) k
    have w : IntKind.i64.wrap ((i : Int) + 1) = ((i + 1 : Nat) : Int) := i64_wrap (by omega) (by omega)
    have q : (i : Int) < (ns.length : Int) := by omega
    have hbs : ∀ (α : Type) (k : Value → Hp → Option α), pBuildSlice 1 [.int .i64 0] 1 [(0, .int .i64 (t : Int))] H k = k (.slice (some ⟨H.next, 0, some 1⟩) 1 1) (H.new (.cells [.int .i64 (t : Int)] true)) := fun α k => rfl
    have hp1 : PR H0 (H.new (.cells [.int .i64 (t : Int)] true)) lv out (.slice (some ⟨H.next, 0, some 1⟩) 1 1) ([] ++ [t]) bv told := by
      refine Own.swap (Own.add (a := ⟨1, .slice (some ⟨H.next, 0, some 1⟩) 1 1, 1, ints [t]⟩) hp (.inr ⟨H.next, 1, [], rfl, Nat.le_refl _, ?_, rfl, rfl, by show H.next < H.next + 1; omega, rfl⟩) (fr_new _ _ _) fun j hj => by cases hj; exact Nat.le_refl _)
      rw [get_new, if_pos rfl]; rfl
    obtain ⟨H4, lv4, sv4, told4, r1, r2, r3⟩ := back hst hd hL bv t hb.1 hb.2 out [] told _ lv _ hp1 ht hto (by simpa using hb.2)
    have ht4 : Told L.length (post L t out) := hto.posts (l := [t]) hd fun c' hc' => by rw [List.mem_singleton] at hc'; subst hc'; exact hb
    have hp4 : Own H0 H4 [⟨1, lv4, (post L t out).length, ints (post L t out)⟩, ⟨1, bv, told4.length, bools told4⟩] := r2.swap.tail
    obtain ⟨H', lv', told', s1, s2⟩ := loop14b k (i + 1) (post L t out) told4 H4 lv4 (by omega) hp4 r3 ht4
    refine ⟨H', lv', told', ?_, s2⟩
    have hexit : loopD (s_cadenceref07_Store_Order_3 RR (.pointer (some ⟨p, 0, none⟩)) bv) [lv4, sv4] H4 = some (.exit 4, [lv4, sv4], H4) := by
      rw [loopD_eq]
      have : s_cadenceref07_Store_Order_3 RR (.pointer (some ⟨p, 0, none⟩)) bv [lv4, sv4] H4 = some (.exit 4, [lv4, sv4], H4) := by
        unfold s_cadenceref07_Store_Order_3
        have hl := r2.swap.head
        dsimp only at hl
        simp only [List.getD_cons_succ, List.getD_cons_zero, hl.len, List.length_nil, s_gtr, s_bool]
        rfl
      rw [this]; rfl
    rw [hexit] at r1
    rw [loopD_eq]
    have : s_cadenceref07_Store_Order_4 RR (.pointer (some ⟨p, 0, none⟩)) x bv [lv, .int .i64 (i : Int)] H = some (.next, [lv4, .int .i64 ((i + 1 : Nat) : Int)], H4) := by
      unfold s_cadenceref07_Store_Order_4
      simp only [hxH.len, s_lss, s_bool, s_brt, List.getD_cons_succ, List.getD_cons_zero, q, decide_true, e1, e2, hbs, r1, s_bind, s_exit, s_onExit, s_add, w]
    rw [this]; exact s1
end
theorem c14_no {H0 : Hp} {p f g : Nat} {lim : Int} {L : List Nd} {K : List (ByteArray × Int)} {sl : Value} (hst : StF H0 p lim L K sl f g) {x : Value} {rs : List Int} (hx : Rdb H0 1 x rs.length (intsI rs)) (hl : rs.length ≤ 2 ^ 40)
    (hno : rs.all (isT L) = false) : RR F.cadenceref07_Store_Order [.pointer (some ⟨p, 0, none⟩), x] H0 = some (.tuple #[.slice none 0 0, .int .i64 70], H0) := by
  have hr := (r_cadenceref07_Store_Order E0 rfl (.pointer (some ⟨p, 0, none⟩)) x H0).trans (k_cadenceref07_Store_Order _ _ _ _)
  refine hr.trans ?_
  have h1 := loop14a hst hx hl rs.length 0 (by omega)
  rw [List.drop_zero, hno, if_neg (by decide)] at h1
  rw [show (0 : Int) = ((0 : Nat) : Int) from rfl, h1, s_bind, s_ret, s_head]
theorem c14_yes {H0 : Hp} {p f g : Nat} {lim : Int} {L : List Nd} {K : List (ByteArray × Int)} {sl : Value} (hst : StF H0 p lim L K sl f g) (hd : Dag L) (hL : L.length * 64 ≤ 2 ^ 46) {x : Value} {ns : List Nat} (hx : Rdb H0 1 x ns.length (ints ns)) (hl : ns.length ≤ 2 ^ 40)
    (hns : ∀ t ∈ ns, 1 ≤ t ∧ t ≤ L.length) : ∃ H' v, RR F.cadenceref07_Store_Order [.pointer (some ⟨p, 0, none⟩), x] H0 = some (.tuple #[v, .int .i64 0], H') ∧ OrdOk H0 H' v (posts L ns []) := by
  have hr := (r_cadenceref07_Store_Order E0 rfl (.pointer (some ⟨p, 0, none⟩)) x H0).trans (k_cadenceref07_Store_Order _ _ _ _)
  have hmap : (ns.map fun (t : Nat) => (t : Int)).length = ns.length := List.length_map ..
  have h1 := loop14a (rs := ns.map fun (t : Nat) => (t : Int)) hst (x := x) (by rw [hmap, ← ints_intsI]; exact hx) (by rw [hmap]; exact hl) ns.length 0 (by rw [hmap]; omega)
  have hall : (ns.map fun (t : Nat) => (t : Int)).all (isT L) = true := by
    rw [List.all_map, List.all_eq_true]
    intro t ht
    have := hns t ht
    exact isT_iff.2 ⟨by show (1 : Int) ≤ (t : Int); omega, by show (t : Int) ≤ L.length; omega⟩
  rw [List.drop_zero, hall, if_pos rfl, hmap] at h1
  obtain ⟨bv, H1, b1, b2⟩ := (Own.nil H0).make (sz := 1) (bytes := 1) (zs := [.bool false]) rfl (n := L.length + 1) (by omega)
  rw [bools_repl] at b2
  have hsl : (List.replicate (L.length + 1) false).length = L.length + 1 := List.length_replicate ..
  have hp : Own H0 H1 [⟨1, .slice none 0 0, ([] : List Nat).length, ints []⟩, ⟨1, bv, (List.replicate (L.length + 1) false).length, bools (List.replicate (L.length + 1) false)⟩] := by
    rw [hsl]; exact b2.addNil 1
  have sn : ToldB L.length (List.replicate (L.length + 1) false) [] := ⟨hsl, fun x hx => by rw [List.getElem?_replicate, if_pos (by omega)]; rfl⟩
  obtain ⟨H', lv', told', g1, g2⟩ := loop14b hst hd hL bv hx hns hl ns.length 0 [] _ H1 _ (by omega) hp sn ⟨List.nodup_nil, fun x h => by cases h⟩
  rw [List.drop_zero] at g2
  refine ⟨H', lv', ?_, ⟨g2.head, g2.next, g2.old, g2.new _ (List.mem_cons_self ..)⟩⟩
  refine hr.trans ?_
  have w : IntKind.i64.wrap ((L.length : Int) + 1) = ((L.length + 1 : Nat) : Int) := i64_wrap (by omega) (by omega)
  rw [show (0 : Int) = ((0 : Nat) : Int) from rfl, h1, s_bind, s_exit, s_onExit, s_nil, s_offs, Nat.zero_add, hst.st.l1, hst.st.all.len, s_add, w, b1, g1, s_bind, s_exit, s_onExit]
  rfl
end Go.AM
/- The Term seat: TermOrders. -/
set_option linter.unusedVariables false
set_option maxRecDepth 100000
set_option linter.unusedSimpArgs false
namespace Go.AM
open Go
def orderR (L : List Nd) (rs : List Int) : Int × List Nat := if rs.all (isT L) = true then (0, posts L (rs.map Int.toNat) []) else (70, [])
theorem map_nat (ns : List Nat) : (ns.map fun (t : Nat) => (t : Int)).map Int.toNat = ns := by
  induction ns with
  | nil => rfl
  | cons a l ih => rw [List.map_cons, List.map_cons, ih]; rfl
theorem orderR_bd {L : List Nd} (hd : Dag L) (rs : List Int) : (orderR L rs).2.length ≤ L.length := by
  unfold orderR
  split
  · rename_i h
    obtain ⟨ns, h1, h2⟩ := nats rs h
    have e : rs.map Int.toNat = ns := by rw [h1, map_nat]
    rw [e]
    exact Told.len ((⟨List.nodup_nil, fun x h => by cases h⟩ : Told L.length []).posts hd h2)
  · simp
section
variable {H0 : Hp} {p f g : Nat} {lim : Int} {L : List Nd} {K : List (ByteArray × Int)} {sl : Value} (hst : StF H0 p lim L K sl f g) (hd : Dag L) (hL : L.length * 64 ≤ 2 ^ 46) {x : Value} {rs : List Int} (hx : Rdb H0 1 x rs.length (intsI rs)) (hl : rs.length ≤ 2 ^ 40)
include hst hd hL hx hl
theorem c13 : ∃ H' v, RR F.term_Store_Order [.pointer (some ⟨p, 0, none⟩), x] H0 = some (.tuple #[v, .int .i64 (orderR L rs).1], H') ∧ OrdOk H0 H' v (orderR L rs).2 := by
  unfold orderR
  cases h : rs.all (isT L) with
  | true =>
    obtain ⟨ns, h1, h2⟩ := nats rs h
    have e : rs.map Int.toNat = ns := by rw [h1, map_nat]
    have hlen : rs.length = ns.length := by rw [h1, List.length_map]
    rw [if_pos rfl, e]
    exact c13_yes hst hd hL (by rw [ints_intsI, ← h1, ← hlen]; exact hx) (by omega) h2
  | false =>
    rw [if_neg (by decide)]
    exact ⟨H0, _, c13_no hst hx hl h, Vec.nil _ _, Nat.le_refl _, fun _ _ => rfl, fun j hj => by cases hj⟩
theorem c14 : ∃ H' v, RR F.cadenceref07_Store_Order [.pointer (some ⟨p, 0, none⟩), x] H0 = some (.tuple #[v, .int .i64 (orderR L rs).1], H') ∧ OrdOk H0 H' v (orderR L rs).2 := by
  unfold orderR
  cases h : rs.all (isT L) with
  | true =>
    obtain ⟨ns, h1, h2⟩ := nats rs h
    have e : rs.map Int.toNat = ns := by rw [h1, map_nat]
    have hlen : rs.length = ns.length := by rw [h1, List.length_map]
    rw [if_pos rfl, e]
    exact c14_yes hst hd hL (by rw [ints_intsI, ← h1, ← hlen]; exact hx) (by omega) h2
  | false =>
    rw [if_neg (by decide)]
    exact ⟨H0, _, c14_no hst hx hl h, Vec.nil _ _, Nat.le_refl _, fun _ _ => rfl, fun j hj => by cases hj⟩
end
theorem OrdOk.add {H0 H H' : Hp} {v : Value} {out : List Nat} {r : List Sl} (h : OrdOk H H' v out) (hr : Own H0 H r) : Own H0 H' (⟨1, v, out.length, ints out⟩ :: r) :=
  hr.add (a := ⟨1, v, out.length, ints out⟩) h.vec ⟨h.next, fun j hj _ => h.old j hj⟩ h.new
end Go.AM
/- Dump: what its text needs of a store; the text, plainly. -/
set_option linter.unusedVariables false
set_option linter.unusedSimpArgs false
set_option maxRecDepth 100000
namespace Go.AM
open Go
structure NdTxt (m : Nd) : Prop where
  op : 1 ≤ m.op ∧ m.op ≤ 33
  w : 0 ≤ m.w ∧ m.w ≤ 64
  num : 0 ≤ m.num ∧ m.num < 18446744073709551616
  ext : m.op = 31 → m.num ≤ 64
  name : m.name.data.toList.length ≤ 24
theorem wT_le {L : List Nd} (h : ∀ m ∈ L, 0 ≤ m.w ∧ m.w ≤ 64) (t : Int) : wT L (-1) t ≤ 64 := by
  unfold wT
  split
  · cases q : L[(t - 1).toNat]? with
    | none => show (-1 : Int) ≤ 64; decide
    | some m => exact (h m (List.mem_of_getElem? q)).2
  · decide
theorem mk_txt {lim : Int} {L : List Nd} {K : List (ByteArray × Int)} {n : Nd} (hn : 0 ≤ n.num ∧ n.num < 18446744073709551616) (h : ∀ m ∈ L, NdTxt m) : ∀ m ∈ (mkR lim L K n).2.2.1, NdTxt m := by
  by_cases h0 : (mkR lim L K n).2.1 = 0
  · obtain ⟨hr, ⟨q, hq, e⟩ | ⟨hq, hl, e⟩⟩ := mk_yes h0
    · rw [e]; exact h
    · rw [e]
      intro m hm
      rcases List.mem_append.1 hm with hm | hm
      · exact h m hm
      · rw [List.mem_singleton] at hm
        subst hm
        have ho := hr.op
        have hw := hr.w
        refine ⟨by omega, by omega, hn, fun h31 => ?_, ?_⟩
        · have hwi := hr.wi
          have hle := wT_le (fun m hm => (h m hm).w) m.a
          unfold widthOf at hwi
          rw [if_neg (by omega), if_neg (by omega), if_neg (by omega), if_neg (by omega), if_neg (by omega), if_neg (by omega), if_pos h31] at hwi
          simp only [Bool.and_eq_false_iff, decide_eq_false_iff_not, not_or, Decidable.not_not] at hwi
          omega
        · by_cases h4 : m.op = 4
          · have hb := hr.nm
            cases q : nameOk m.name with
            | false => exact absurd ⟨h4, by unfold badName; rw [q]; rfl⟩ hb
            | true =>
              unfold nameOk at q
              simp only [Bool.and_eq_true, decide_eq_true_eq] at q
              have := q.1.1.2
              rw [size_list] at this
              exact this
          · have hs := hr.sp
            have hnm : named m = false := by
              cases q : named m with
              | false => rfl
              | true =>
                refine absurd ?_ hs
                unfold spareK
                rw [q, decide_eq_true h4]
                simp
            unfold named at hnm
            have e2 : m.name.toList = (⟨#[]⟩ : ByteArray).toList := by simpa using hnm
            rw [← ByteArray.toList_eq, e2, ByteArray.toList_eq]; decide
  · rw [mk_no h0]; exact h
theorem ask_indN {Q : Res → Prop} {lim : Int} {L : List Nd} {K : List (ByteArray × Int)} (hm : ∀ n : Nd, 0 ≤ n.num ∧ n.num < 18446744073709551616 → Q (mkR lim L K n)) (hn : ∀ e, Q (0, e, L, K)) {o : OpA} (ho : o.Ok) : Q (askR lim L K o) := by
  have hz : (0 : Int) ≤ 0 ∧ (0 : Int) < 18446744073709551616 := by decide
  unfold askR unR binR extR
  repeat' first | exact hm _ hz | exact hm _ ho.n | exact hm _ (trim_bd o.w o.x ho.x) | exact hm _ (by exact ⟨Int.emod_nonneg _ (by decide), Int.emod_lt_of_pos _ (by decide)⟩) | exact hn _ | refine q_ite (Q := Q) ?_ ?_
theorem ask_txt {lim : Int} {L : List Nd} {K : List (ByteArray × Int)} {o : OpA} (ho : o.Ok) (h : ∀ m ∈ L, NdTxt m) : ∀ m ∈ (askR lim L K o).2.2.1, NdTxt m :=
  ask_indN (Q := fun r => ∀ m ∈ r.2.2.1, NdTxt m) (fun n hn => mk_txt hn h) (fun e => h) ho
theorem run_txt {lim : Int} : ∀ (os : List OpA) (L : List Nd) (K : List (ByteArray × Int)), (∀ o ∈ os, o.Ok) → (∀ m ∈ L, NdTxt m) → ∀ m ∈ (runR lim os L K).1, NdTxt m
  | [], L, K, _, h => h
  | o :: os, L, K, ho, h => run_txt os _ _ (fun x hx => ho x (List.mem_cons_of_mem _ hx)) (ask_txt (ho o (List.mem_cons_self ..)) h)
/-- The words. -/
def wordsS : List UInt8 := [45, 32, 116, 114, 117, 101, 32, 102, 97, 108, 115, 101, 32]
def sp (l : List UInt8) : List UInt8 := 32 :: l
abbrev itoa := Go.Lib.itoa
theorem sp_ba (l : List UInt8) (hl : l.length ≤ 100) {α : Type} (k : Value → Option α) : pBin PP .add T.string (.string ⟨#[32]⟩) (.string (ba l)) k = k (.string (ba (sp l))) := s_catL _ [32] l (by simp; omega) k
theorem itoa_len {n : Int} (h0 : -9223372036854775808 ≤ n) (h1 : n ≤ 9223372036854775807) : (itoa n).length ≤ 21 := Go.Lib.itoa_length_le n h0 h1
/-- The letters of an operation's fields. -/
def fl (op : Int) : List UInt8 := if op ≤ 2 then [] else if op = 3 then [119, 110] else if op = 4 then [115, 119] else if op = 31 then [112, 110, 119] else if op ≥ 32 then [112, 119] else List.replicate (partsT op).toNat 112
def act (F : Int → Int) (n : Nd) : List UInt8 → Nat → List UInt8
  | [], _ => []
  | c :: r, k => if c = 112 then sp (itoa (F ([n.a, n.b, n.c].getD k 0))) ++ act F n r (k + 1) else if c = 110 then sp (numT n.num.toNat) ++ act F n r k else if c = 119 then sp (itoa n.w) ++ act F n r k
    else if c = 115 then sp n.name.data.toList ++ act F n r k else act F n r k
def word (ws : List (List UInt8)) (op : Int) : List UInt8 := ws.getD op.toNat []
def line (ws : List (List UInt8)) (F : Int → Int) (i : Nat) (n : Nd) : List UInt8 := itoa ((i + 1 : Nat) : Int) ++ [32] ++ word ws n.op ++ act F n (fl n.op) 0 ++ [10]
def upF (F : Int → Int) (t v : Int) : Int → Int := fun x => if x = t then v else F x
def nodeT (L : List Nd) (t : Nat) : Nd := (L[t - 1]?).getD noNd'
  where noNd' : Nd := ⟨0, 0, 0, 0, 0, 0, ⟨#[]⟩⟩
def linesF : Nat → List Nat → (Int → Int) → (Int → Int)
  | _, [], F => F
  | i, t :: r, F => linesF (i + 1) r (upF F t ((i + 1 : Nat) : Int))
def linesT (ws : List (List UInt8)) (L : List Nd) : Nat → List Nat → (Int → Int) → List UInt8
  | _, [], _ => []
  | i, t :: r, F => line ws (upF F t ((i + 1 : Nat) : Int)) i (nodeT L t) ++ linesT ws L (i + 1) r (upF F t ((i + 1 : Nat) : Int))
def rootsT (F : Int → Int) (rs : List Int) : List UInt8 := rs.flatMap fun r => sp (itoa (F r))
def dumpT (ws : List (List UInt8)) (L : List Nd) (out : List Nat) (rs : List Int) : List UInt8 :=
  linesT ws L 0 out (fun _ => 0) ++ [114, 111, 111, 116, 115] ++ rootsT (linesF 0 out fun _ => 0) rs ++ [10]
end Go.AM
/- The abstract machine: maps from numbers to numbers, as functions. -/
set_option linter.unusedVariables false
set_option linter.unusedSimpArgs false
namespace Go.AM
open Go
def mapI (A : List (Int × Int)) : List (Value × Value) := A.map fun x => (.int .i64 x.1, .int .i64 x.2)
def lkI (t : Int) : Nat → List (Int × Int) → Option (Nat × Int)
  | _, [] => none
  | i, (u, w) :: r => if t = u then some (i, w) else lkI t (i + 1) r
/-- A map whose look at a number is F; 0 where nothing is. -/
def MapF (H : Hp) (m : Nat) (F : Int → Int) : Prop := ∃ A, H.get m = some (.map (mapI A)) ∧ ∀ t, F t = (match lkI t 0 A with | some q => q.2 | none => 0)
/-- A type whose values are whole numbers. -/
structure IntKey (P : Program) (kt : TypeId) : Prop where
  eq : ∀ a b : Int, eqT P 10000 kt (.int .i64 a) (.int .i64 b) = some (a == b)
  sh : ∀ a : Int, shapeOk P 20 kt (.int .i64 a) = true
theorem findI {P : Program} {kt : TypeId} (hk : IntKey P kt) (t : Int) : ∀ (A : List (Int × Int)) (i : Nat), findT P kt (.int .i64 t) (mapI A) i = some ((lkI t i A).map fun q => (q.1, .int .i64 q.2))
  | [], i => rfl
  | (u, w) :: r, i => by
    show (match eqT P 10000 kt (.int .i64 t) (.int .i64 u) with | some true => some (some (i, Value.int .i64 w)) | some false => findT P kt (.int .i64 t) (mapI r) (i + 1) | none => none) = _
    rw [hk.eq]
    unfold lkI
    by_cases h : t = u
    · rw [if_pos h, show (t == u) = true by simpa using h]; rfl
    · rw [if_neg h, show (t == u) = false by simpa using h]
      exact findI hk t r (i + 1)
theorem MapF.look {P : Program} {kt : TypeId} (hk : IntKey P kt) {H : Hp} {m : Nat} {F : Int → Int} (h : MapF H m F) (t : Int) {α : Type} (k : Value → Option α) : pLook P kt (.int .i64 0) (.map (some m)) (.int .i64 t) false H k = k (.int .i64 (F t)) := by
  obtain ⟨A, h1, h2⟩ := h
  unfold pLook lookV
  rw [hk.sh, h2 t]
  simp only [if_true, mapOf, h1, findI hk]
  cases lkI t 0 A <;> rfl
theorem lkI_get (t : Int) : ∀ (A : List (Int × Int)) (i j : Nat) (w : Int), lkI t i A = some (j, w) → i ≤ j ∧ A[j - i]? = some (t, w)
  | [], i, j, w, h => by cases h
  | (u, v) :: r, i, j, w, h => by
    unfold lkI at h
    split at h
    · rename_i e
      cases h
      subst e
      exact ⟨Nat.le_refl _, by simp⟩
    · obtain ⟨h1, h2⟩ := lkI_get t r (i + 1) j w h
      refine ⟨by omega, ?_⟩
      rw [show j - i = (j - (i + 1)) + 1 by omega]
      simpa using h2
theorem lkI_app (t key v : Int) : ∀ (A : List (Int × Int)) (i : Nat), lkI key i A = none → (lkI t i (A ++ [(key, v)])).map Prod.snd = if t = key then some v else (lkI t i A).map Prod.snd
  | [], i, h => by
    show (lkI t i [(key, v)]).map Prod.snd = _
    unfold lkI lkI
    split <;> rfl
  | (u, w) :: r, i, h => by
    unfold lkI at h
    split at h
    · cases h
    · rename_i ne
      show (lkI t i ((u, w) :: (r ++ [(key, v)]))).map Prod.snd = _
      unfold lkI
      by_cases e : t = u
      · rw [if_pos e, if_pos e, if_neg (fun q => ne (by rw [← q, e]))]
      · rw [if_neg e, if_neg e]
        exact lkI_app t key v r (i + 1) h
theorem lkI_set (t key v : Int) : ∀ (A : List (Int × Int)) (i j : Nat) (w : Int), lkI key i A = some (j, w) → (lkI t i (A.set (j - i) (key, v))).map Prod.snd = if t = key then some v else (lkI t i A).map Prod.snd
  | [], i, j, w, h => by cases h
  | (u, x) :: r, i, j, w, h => by
    unfold lkI at h
    split at h
    · rename_i e
      cases h
      subst e
      rw [Nat.sub_self, List.set_cons_zero]
      unfold lkI
      by_cases q : t = key
      · rw [if_pos q, if_pos q]; rfl
      · rw [if_neg q, if_neg q, if_neg q]
    · rename_i ne
      have hle := (lkI_get key r (i + 1) j w h).1
      rw [show j - i = (j - (i + 1)) + 1 by omega, List.set_cons_succ]
      unfold lkI
      by_cases q : t = u
      · rw [if_pos q, if_pos q, if_neg (fun z => ne (by rw [← z, q]))]
      · rw [if_neg q, if_neg q]
        exact lkI_set t key v r (i + 1) j w h
theorem mtch (o : Option (Nat × Int)) : (match o with | some q => q.2 | none => (0 : Int)) = (o.map Prod.snd).getD 0 := by cases o <;> rfl
theorem MapF.upd {P : Program} {kt : TypeId} (hk : IntKey P kt) {H : Hp} {m : Nat} {F : Int → Int} (h : MapF H m F) (key v : Int) :
    ∃ H', (∀ (α : Type) (k : Hp → Option α), pUpd P kt (.map (some m)) (.int .i64 key) (.int .i64 v) H k = k H') ∧ MapF H' m (fun t => if t = key then v else F t) ∧ (∀ j, j ≠ m → H'.get j = H.get j) ∧ H'.next = H.next := by
  obtain ⟨A, h1, h2⟩ := h
  cases hq : lkI key 0 A with
  | none =>
    refine ⟨H.set m (some (.map (mapI (A ++ [(key, v)])))), fun α k => ?_, ⟨A ++ [(key, v)], by rw [get_set, if_pos rfl], fun t => ?_⟩, fun j hj => by rw [get_set, if_neg hj], rfl⟩
    · have : updV P kt (.map (some m)) (.int .i64 key) (.int .i64 v) H = some (H.set m (some (.map (mapI (A ++ [(key, v)]))))) := by
        unfold updV
        rw [hk.sh]
        simp only [if_true, h1, findI hk, hq, Option.map_none]
        rw [show mapI (A ++ [(key, v)]) = mapI A ++ [(Value.int .i64 key, Value.int .i64 v)] by simp [mapI]]
      unfold pUpd
      rw [this]
    · rw [mtch, lkI_app t key v A 0 hq]
      dsimp only
      split
      · rfl
      · rw [h2 t, mtch]
  | some q =>
    obtain ⟨j, w⟩ := q
    obtain ⟨_, hg⟩ := lkI_get key A 0 j w hq
    rw [Nat.sub_zero] at hg
    refine ⟨H.set m (some (.map (mapI (A.set j (key, v))))), fun α k => ?_, ⟨A.set j (key, v), by rw [get_set, if_pos rfl], fun t => ?_⟩, fun j hj => by rw [get_set, if_neg hj], rfl⟩
    · have hk1 : (mapI A)[j]? = some (.int .i64 key, .int .i64 w) := by unfold mapI; rw [List.getElem?_map, hg]; rfl
      have hsb : Instr.sameBits 10000 (.int .i64 key) (.int .i64 key) = true := by simp [Instr.sameBits]
      have : updV P kt (.map (some m)) (.int .i64 key) (.int .i64 v) H = some (H.set m (some (.map (mapI (A.set j (key, v)))))) := by
        unfold updV
        rw [hk.sh]
        simp only [if_true, h1, findI hk, hq, Option.map_some, hk1, hsb]
        rw [show mapI (A.set j (key, v)) = setAt (mapI A) j (.int .i64 key) (.int .i64 v) by unfold setAt mapI; rw [List.map_set]]
      unfold pUpd
      rw [this]
    · have := lkI_set t key v A 0 j w hq
      rw [Nat.sub_zero] at this
      rw [mtch, this]
      dsimp only
      split
      · rfl
      · rw [h2 t, mtch]
theorem MapF.new (H : Hp) : MapF (H.new (.map [])) H.next (fun _ => 0) := ⟨[], by rw [get_new, if_pos rfl]; rfl, fun t => rfl⟩
theorem MapF.keep {H H' : Hp} {m : Nat} {F : Int → Int} (h : MapF H m F) (hg : H'.get m = H.get m) : MapF H' m F := by
  obtain ⟨A, h1, h2⟩ := h
  exact ⟨A, by rw [hg]; exact h1, h2⟩
end Go.AM
/- Dump: the state of the program's Dump; its words. -/
set_option linter.unusedVariables false
set_option linter.unusedSimpArgs false
set_option maxRecDepth 100000
namespace Go.AM
open Go
theorem ikI : IntKey PP T.int := ⟨fun a b => by kernel_rfl, fun a => by kernel_rfl⟩
theorem upd_ty {P : Program} {kt : TypeId} {m key v : Value} {H H' : Hp} (h : pUpd P kt m key v H some = some H') : H'.ty = H.ty := by
  unfold pUpd at h
  cases q : updV P kt m key v H with
  | none => rw [q] at h; cases h
  | some H1 =>
    rw [q] at h
    cases h
    unfold updV at q
    repeat' (first | (cases q; done) | (cases q; rfl) | split at q)
theorem Bld.keep {H H' : Hp} {i : Nat} {s : List UInt8} {j : Option Nat} (h : Bld H i s j) (hi : H'.get i = H.get i) (hj : ∀ y, j = some y → H'.get y = H.get y) (hn : H.next ≤ H'.next) (ht : ∀ k, k < H.next → H'.ty k = H.ty k) : Bld H' i s j := by
  refine ⟨by rw [ht i h.lt]; exact h.ty, Nat.lt_of_lt_of_le h.lt hn, ?_⟩
  obtain ⟨a, buf, h1, h2, h3⟩ := h.ex
  refine ⟨a, buf, by rw [hi]; exact h1, h2, ?_⟩
  rcases h3 with h3 | ⟨y, g1, g2, g3, g4, g5, g6, g7⟩
  · exact .inl h3
  · exact .inr ⟨y, g1, g2, Nat.lt_of_lt_of_le g3 hn, g4, g5, by rw [hj y g1]; exact g6, by rw [ht y g3]; exact g7⟩
theorem Bld.jn {H : Hp} {i : Nat} {s : List UInt8} {j : Option Nat} (h : Bld H i s j) {y : Nat} (hy : j = some y) : y < H.next ∧ y ≠ i := by
  obtain ⟨a, buf, h1, h2, h3⟩ := h.ex
  rcases h3 with ⟨h3, _⟩ | ⟨z, g1, g2, g3, _⟩
  · rw [h3] at hy; cases hy
  · rw [g1] at hy; cases hy; exact ⟨g3, g2⟩
theorem Tabs.old {B H : Hp} (h : Tabs B) (hn : PP.globals.size ≤ B.next) (ho : ∀ k, k < B.next → H.get k = B.get k) : Tabs H := by
  have e : ∀ g, g < 6 → H.get g = B.get g := fun g hg => ho g (by rw [nglob] at hn; omega)
  exact ⟨by rw [e _ (by decide)]; exact h.pow, by rw [e _ (by decide)]; exact h.spc, by rw [e _ (by decide)]; exact h.bru⟩
/-- The state: the builder b, the map m, the words w. -/
structure DP (B H : Hp) (wl : List Value) (b m w : Nat) (s : List UInt8) (Φ : Int → Int) : Prop where
  next : B.next ≤ H.next
  old : ∀ k, k < B.next → H.get k = B.get k
  lb : B.next ≤ b
  lm : B.next ≤ m
  lw : B.next ≤ w
  bm : b ≠ m
  bw : b ≠ w
  mw : m ≠ w
  hm : m < H.next
  hw : w < H.next
  mp : MapF H m Φ
  nms : H.get w = some (.cells wl true)
  bld : ∃ j, Bld H b s j ∧ ∀ y, j = some y → B.next ≤ y ∧ y ≠ m ∧ y ≠ w
section
variable {B H : Hp} {wl : List Value} {b m w : Nat} {s : List UInt8} {Φ : Int → Int}
theorem DP.upd (h : DP B H wl b m w s Φ) (key v : Int) : ∃ H', (∀ (α : Type) (k : Hp → Option α), pUpd PP T.int (.map (some m)) (.int .i64 key) (.int .i64 v) H k = k H') ∧ DP B H' wl b m w s (upF Φ key v) := by
  obtain ⟨H', e1, e2, e3, e4⟩ := h.mp.upd ikI key v
  have ht := upd_ty (e1 Hp some)
  obtain ⟨j, hj, hj2⟩ := h.bld
  have lm := h.lm
  have bm := h.bm
  refine ⟨H', e1, ⟨by rw [e4]; exact h.next, fun k hk => by rw [e3 k (by omega)]; exact h.old k hk, h.lb, h.lm, h.lw, h.bm, h.bw, h.mw, by rw [e4]; exact h.hm, by rw [e4]; exact h.hw, e2, by rw [e3 w (Ne.symm h.mw)]; exact h.nms, j, hj.keep (e3 b bm) (fun y hy => e3 y (hj2 y hy).2.1) (by rw [e4]; exact Nat.le_refl _) (fun k _ => by rw [ht]), hj2⟩⟩
theorem DP.new {H' : Hp} (h : DP B H wl b m w s Φ) (k : New H H') : DP B H' wl b m w s Φ := by
  obtain ⟨j, hj, hj2⟩ := h.bld
  have n1 := k.next
  have n2 := h.next
  exact ⟨by omega, fun q hq => by rw [k.get q (by omega)]; exact h.old q hq, h.lb, h.lm, h.lw, h.bm, h.bw, h.mw, Nat.lt_of_lt_of_le h.hm n1, Nat.lt_of_lt_of_le h.hw n1, h.mp.keep (k.get m h.hm), by rw [k.get w h.hw]; exact h.nms, j, hj.keep (k.get b hj.lt) (fun y hy => k.get y (hj.jn hy).1) n1 k.ty, hj2⟩
theorem DP.bf {H' : Hp} {j j' : Option Nat} {s' : List UInt8} (h : DP B H wl b m w s Φ) (hb : Bld H b s j) (hj2 : ∀ y, j = some y → B.next ≤ y ∧ y ≠ m ∧ y ≠ w) (hb' : Bld H' b s' j') (k : BF b H j H' j') : DP B H' wl b m w s' Φ := by
  have n1 := k.next
  have n2 := h.next
  have lb := h.lb
  have hm := h.hm
  have hw := h.hw
  have bm := h.bm
  have bw := h.bw
  have nj : ∀ q, q < H.next → q < B.next ∨ q = m ∨ q = w → j ≠ some q := fun q hq hx e => by
    have := hj2 q e
    omega
  exact ⟨by omega, fun q hq => by rw [k.get q (by omega) (by omega) (nj q (by omega) (.inl hq))]; exact h.old q hq, h.lb, h.lm, h.lw, h.bm, h.bw, h.mw, by omega, by omega, h.mp.keep (k.get m hm (by omega) (nj m hm (.inr (.inl rfl)))), by rw [k.get w hw (by omega) (nj w hw (.inr (.inr rfl)))]; exact h.nms, j', hb', fun y hy => by
    rcases k.foot y hy with e | e
    · exact hj2 y e
    · omega⟩
theorem DP.ws (h : DP B H wl b m w s Φ) (t : List UInt8) (hl : s.length + t.length ≤ 2 ^ 46) :
    ∃ H', RR F.strings_Builder_WriteString [.pointer (some ⟨b, 0, none⟩), .string (ba t)] H = some (.tuple #[.int .i64 ((ba t).size : Int), .nilIface], H') ∧ DP B H' wl b m w (s ++ t) Φ := by
  obtain ⟨j, hj, hj2⟩ := h.bld
  obtain ⟨H', j', e1, e2, e3⟩ := hj.ws (ba t) (by rw [ba_list]; exact hl)
  rw [ba_list] at e2
  exact ⟨H', e1, h.bf hj hj2 e2 e3⟩
theorem DP.wb (h : DP B H wl b m w s Φ) (hl : s.length + 1 ≤ 2 ^ 46) :
    ∃ H', RR F.strings_Builder_WriteByte [.pointer (some ⟨b, 0, none⟩), .int .u8 10] H = some (.nilIface, H') ∧ DP B H' wl b m w (s ++ [10]) Φ := by
  obtain ⟨j, hj, hj2⟩ := h.bld
  obtain ⟨H', j', e1, e2, e3⟩ := hj.wb 10 hl
  exact ⟨H', e1, h.bf hj hj2 e2 e3⟩
theorem DP.tabs (h : DP B H wl b m w s Φ) (hT : Tabs B) (hn : PP.globals.size ≤ B.next) : Tabs H := hT.old hn h.old
/-- One number, behind a space. -/
theorem DP.put (h : DP B H wl b m w s Φ) (hT : Tabs B) (hn : PP.globals.size ≤ B.next) {x : Int} (h0 : -9223372036854775808 ≤ x) (h1 : x ≤ 9223372036854775807) (hl : s.length + 100 ≤ 2 ^ 46) :
    ∃ H', RR F.term_Store_Dump_1 [.int .i64 x, .pointer (some ⟨b, 0, none⟩)] H = some (.tuple #[], H') ∧ DP B H' wl b m w (s ++ sp (itoa x)) Φ := by
  have il := itoa_len h0 h1
  obtain ⟨H', e1, e2⟩ := h.ws (sp (itoa x)) (by unfold sp; rw [List.length_cons]; omega)
  refine ⟨H', (r_term_Store_Dump_1 E0 rfl _ _ _).trans ?_, e2⟩
  unfold m_term_Store_Dump_1
  rw [s_call (c_itoa (h.tabs hT hn) h0 h1), sp_ba (itoa x) (by omega), s_call e1]
end
end Go.AM
/- Dump: the words; the program's lines. -/
set_option linter.unusedVariables false
set_option linter.unusedSimpArgs false
set_option maxRecDepth 100000
namespace Go.AM
open Go
def namesB : ByteArray := ⟨#[45, 32, 116, 114, 117, 101, 32, 102, 97, 108, 115, 101, 32, 99, 111, 110, 115, 116, 32, 118, 97, 114, 32, 110, 111, 116, 32, 97, 110, 100, 32, 111, 114, 32, 120, 111, 114, 32, 101, 113, 32, 117, 108, 116, 32, 117, 108, 101, 32, 115, 108, 116, 32, 115, 108, 101, 32, 105, 116, 101, 32, 99, 111, 109, 32, 110, 101, 103, 32, 98, 97, 110, 100, 32, 98, 111, 114, 32, 98, 120, 111, 114, 32, 97, 100, 100, 32, 115, 117, 98, 32, 109, 117, 108, 32, 100, 105, 118, 32, 114, 101, 109, 32, 115, 104, 108, 32, 115, 104, 114, 32, 115, 97, 114, 32, 114, 111, 108, 32, 114, 111, 114, 32, 99, 97, 116, 32, 115, 108, 105, 99, 101, 32, 122, 101, 120, 116, 32, 115, 101, 120, 116]⟩
def wordL : List (List UInt8) := [[45], [116, 114, 117, 101], [102, 97, 108, 115, 101], [99, 111, 110, 115, 116], [118, 97, 114], [110, 111, 116], [97, 110, 100], [111, 114], [120, 111, 114], [101, 113], [117, 108, 116], [117, 108, 101], [115, 108, 116], [115, 108, 101], [105, 116, 101], [99, 111, 109], [110, 101, 103], [98, 97, 110, 100], [98, 111, 114], [98, 120, 111, 114], [97, 100, 100], [115, 117, 98], [109, 117, 108], [100, 105, 118], [114, 101, 109], [115, 104, 108], [115, 104, 114], [115, 97, 114], [114, 111, 108], [114, 111, 114], [99, 97, 116], [115, 108, 105, 99, 101], [122, 101, 120, 116], [115, 101, 120, 116]]
theorem names_eq : Go.Lib.fields namesB.data.toList = wordL := by kernel_rfl
theorem names_ok : namesB.size < 4294967281 ∧ namesB.data.toList.all (fun b => decide (b.toNat < 128)) = true := by constructor <;> decide +kernel
def wordV : List Value := wordL.map fun l => Value.string (ba l)
theorem c_names {H : Hp} (hT : Tabs H) : RR F.term_names [] H = some (.slice (some ⟨H.next, 0, some 1⟩) 34 34, H.new (.cells wordV true)) := by
  obtain ⟨cs, e, fz, hg, ht⟩ := hT.spc
  have hx : RR F.strings_Fields [.string namesB] H = some (.slice (some ⟨H.next, 0, some 1⟩) 34 34, H.new (.cells wordV true)) := by
    refine (run_ext (O := orc) Go.Proofs.Tryd.func45 (by kernel_rfl) (by kernel_rfl) (show E0 F.strings_Fields = some extFlds from rfl) _ H).trans ?_
    show extFlds [.string namesB] H = _
    unfold extFlds
    dsimp only
    rw [if_pos names_ok, hg]
    dsimp only
    rw [ht, names_eq]
    rfl
  refine (r_term_names E0 rfl _).trans ?_
  have : m_term_names RR H = pCallF RR F.strings_Fields [.string namesB] H fun r1 H2 => some (r1, H2) := rfl
  rw [this, s_call hx]
theorem word_len (op : Int) : (word wordL op).length ≤ 24 := by
  unfold word
  have h : wordL.all (fun l => decide (l.length ≤ 24)) = true := by decide
  rw [List.getD_eq_getElem?_getD]
  cases q : wordL[op.toNat]? with
  | none => simp
  | some l => exact of_decide_eq_true (List.all_eq_true.1 h l (List.mem_of_getElem? q))
theorem word_at {op : Int} (h : 1 ≤ op ∧ op ≤ 33) : wordV[op.toNat]? = some (.string (ba (word wordL op))) := by
  have hl : wordL.length = 34 := rfl
  have hlt : op.toNat < wordL.length := by omega
  unfold wordV word
  rw [List.getElem?_map, List.getD_eq_getElem?_getD, List.getElem?_eq_getElem hlt]
  rfl
theorem refWord {op : Int} (h : 1 ≤ op ∧ op ≤ 33) (H : Hp) : RR F.cadenceref07_Word [.int .i64 op] H = some (.string (ba (word wordL op)), H) := by
  refine (r_cadenceref07_Word E0 rfl _ _).trans ?_
  have hm : m_cadenceref07_Word RR (.int .i64 op) H = pIdxLoc 34 (.int .i64 op) fun j3 => pCell 1 false ((Value.string ⟨#[]⟩) :: wordV.drop 1) (0 + j3 * 1) fun v4 => some (v4, H) := by kernel_rfl
  rw [hm]
  unfold pIdxLoc
  dsimp only
  rw [if_pos (by omega)]
  refine s_cell _ _ _ ?_ _
  rw [Nat.zero_add, Nat.mul_one]
  have h0 : op.toNat = (op.toNat - 1) + 1 := by omega
  rw [h0, List.getElem?_cons_succ, List.getElem?_drop, ← word_at h]
  congr 1; omega
theorem act_len {Φ : Int → Int} {n : Nd} (hn : NdTxt n) (hΦ : ∀ t, 0 ≤ Φ t ∧ Φ t ≤ 2 ^ 42) : ∀ (cs : List UInt8) (k : Nat), (act Φ n cs k).length ≤ 30 * cs.length
  | [], k => Nat.zero_le _
  | c :: r, k => by
    have h1 := act_len hn hΦ r k
    have h2 := act_len hn hΦ r (k + 1)
    have a1 := hΦ ([n.a, n.b, n.c].getD k 0)
    have a2 := itoa_len (n := Φ ([n.a, n.b, n.c].getD k 0)) (by omega) (by omega)
    have a3 := numT_len (x := n.num.toNat) (by have := hn.num; omega)
    have a4 := itoa_len (n := n.w) (by have := hn.w; omega) (by have := hn.w; omega)
    have a5 := hn.name
    unfold act sp
    rw [List.length_cons]
    split
    · simp only [List.cons_append, List.length_cons, List.length_append]; omega
    · split
      · simp only [List.cons_append, List.length_cons, List.length_append]; omega
      · split
        · simp only [List.cons_append, List.length_cons, List.length_append]; omega
        · split
          · simp only [List.cons_append, List.length_cons, List.length_append]; omega
          · omega
theorem fl_len (op : Int) : (fl op).length ≤ 3 := by
  have := partsT_nn op
  unfold fl
  repeat' split
  all_goals first | decide | (rw [List.length_replicate]; omega)
section
variable {B : Hp} {b m w : Nat} (hT : Tabs B) (hn : PP.globals.size ≤ B.next)
include hT hn
/-- The parts' numbers. -/
theorem loopP {n : Nd} {Φ : Int → Int} (hΦ : ∀ t, 0 ≤ Φ t ∧ Φ t ≤ 2 ^ 42) : ∀ (k i : Nat) (H : Hp) (s : List UInt8), ((i + k : Nat) : Int) = partsT n.op → DP B H wordV b m w s Φ → s.length + 100 * (k + 1) ≤ 2 ^ 46 →
    ∃ H', loopD (s_term_Store_Dump_1 RR (.map (some m)) (.int .i64 (partsT n.op)) (.pointer (some ⟨b, 0, none⟩)) n.cells) [.int .i64 (i : Int)] H = some (.exit 3, [.int .i64 (partsT n.op)], H') ∧ DP B H' wordV b m w (s ++ act Φ n (List.replicate k 112) i) Φ
  | 0, i, H, s, hi, h, hl => by
    refine ⟨H, ?_, by rw [List.replicate_zero]; unfold act; rw [List.append_nil]; exact h⟩
    rw [Nat.add_zero] at hi
    rw [loopD_eq, hi]
    have : s_term_Store_Dump_1 RR (.map (some m)) (.int .i64 (partsT n.op)) (.pointer (some ⟨b, 0, none⟩)) n.cells [.int .i64 (partsT n.op)] H = some (.exit 3, [.int .i64 (partsT n.op)], H) := by
      unfold s_term_Store_Dump_1
      simp only [s_lss, s_bool, s_brf, List.getD_cons_zero, Int.lt_irrefl, decide_false]
    rw [this]; rfl
  | k + 1, i, H, s, hi, h, hl => by
    have hp := partsT_nn n.op
    have hi3 : i < 3 := by omega
    have hx : [n.a, n.b, n.c][i]? = some ([n.a, n.b, n.c].getD i 0) := by
      rw [List.getD_eq_getElem?_getD, List.getElem?_eq_getElem (by simpa using hi3)]; rfl
    generalize hq : [n.a, n.b, n.c].getD i 0 = x at hx
    have hb := hΦ x
    obtain ⟨H1, e1, h1⟩ := h.put hT hn (x := Φ x) (by omega) (by omega) (by omega)
    have hil := itoa_len (n := Φ x) (by omega) (by omega)
    obtain ⟨H', e2, h2⟩ := loopP (n := n) hΦ k (i + 1) H1 (s ++ sp (itoa (Φ x))) (by omega) h1 (by unfold sp; rw [List.length_append, List.length_cons]; omega)
    refine ⟨H', ?_, ?_⟩
    · rw [loopD_eq]
      have w1 : IntKind.i64.wrap ((i : Int) + 1) = ((i + 1 : Nat) : Int) := i64_wrap (by omega) (by omega)
      have q : (i : Int) < partsT n.op := by omega
      have : s_term_Store_Dump_1 RR (.map (some m)) (.int .i64 (partsT n.op)) (.pointer (some ⟨b, 0, none⟩)) n.cells [.int .i64 (i : Int)] H = some (.next, [.int .i64 ((i + 1 : Nat) : Int)], H1) := by
        unfold s_term_Store_Dump_1
        simp only [s_lss, s_bool, s_brt, List.getD_cons_zero, q, decide_true, ncell2, ncell3, ncell4, s_build3, arr3 hx, h.mp.look ikI, s_call e1, s_add, w1]
      rw [this]; exact e2
    · have ea : act Φ n (List.replicate (k + 1) 112) i = sp (itoa (Φ x)) ++ act Φ n (List.replicate k 112) (i + 1) := by
        rw [List.replicate_succ]
        show (if (112 : UInt8) = 112 then _ else _) = _
        rw [if_pos rfl, hq]
      rw [ea, ← List.append_assoc]; exact h2
end
end Go.AM
/- Dump: the program's lines, roots; its Dump. -/
set_option linter.unusedVariables false
set_option linter.unusedSimpArgs false
set_option maxRecDepth 100000
namespace Go.AM
open Go
theorem ncell5 {α : Type} (n : Nd) (k : Value → Option α) : pCell 1 false n.cells 5 k = k (.int .u64 n.num) := s_cell _ 5 _ rfl k
theorem ncell6 {α : Type} (n : Nd) (k : Value → Option α) : pCell 1 false n.cells 6 k = k (.string n.name) := s_cell _ 6 _ rfl k
theorem small_all : (List.range 65).all (fun x => decide (numT x = itoa (x : Int))) = true := by decide +kernel
theorem small_num {x : Int} (h0 : 0 ≤ x) (h1 : x ≤ 64) : numT x.toNat = itoa x := by
  have := of_decide_eq_true (List.all_eq_true.1 small_all x.toNat (List.mem_range.2 (by omega)))
  rw [this, Int.toNat_of_nonneg h0]
theorem act_nil (Φ : Int → Int) (n : Nd) (k : Nat) : act Φ n [] k = [] := rfl
theorem act_p (Φ : Int → Int) (n : Nd) (r : List UInt8) (k : Nat) : act Φ n (112 :: r) k = sp (itoa (Φ ([n.a, n.b, n.c].getD k 0))) ++ act Φ n r (k + 1) := rfl
theorem act_n (Φ : Int → Int) (n : Nd) (r : List UInt8) (k : Nat) : act Φ n (110 :: r) k = sp (numT n.num.toNat) ++ act Φ n r k := rfl
theorem act_w (Φ : Int → Int) (n : Nd) (r : List UInt8) (k : Nat) : act Φ n (119 :: r) k = sp (itoa n.w) ++ act Φ n r k := rfl
theorem act_s (Φ : Int → Int) (n : Nd) (r : List UInt8) (k : Nat) : act Φ n (115 :: r) k = sp n.name.data.toList ++ act Φ n r k := rfl
section
variable {B : Hp} {b m w p f g : Nat} {lim : Int} {L : List Nd} {K : List (ByteArray × Int)} {sl : Value} (hT : Tabs B) (hn : PP.globals.size ≤ B.next) (hst : StF B p lim L K sl f g) (hL : L.length * 64 ≤ 2 ^ 46) (hN : ∀ m ∈ L, NdTxt m)
include hT hn hst hL hN
theorem stepL {out : List Nat} {v : Value} (hv : Rdb B 1 v out.length (ints out)) (hout : ∀ t ∈ out, 1 ≤ t ∧ t ≤ L.length) (hol : out.length ≤ 2 ^ 41) {i : Nat} {t : Nat} (hi : out[i]? = some t) {H : Hp} {s : List UInt8} {Φ : Int → Int} (h : DP B H wordV b m w s Φ)
    (hΦ : ∀ t, 0 ≤ Φ t ∧ Φ t ≤ 2 ^ 42) (hl : s.length + 1000 ≤ 2 ^ 46) :
    ∃ H', s_term_Store_Dump_2 RR (.pointer (some ⟨p, 0, none⟩)) v (.map (some m)) (.int .i64 (out.length : Int)) (.slice (some ⟨w, 0, some 1⟩) 34 34) (.pointer (some ⟨b, 0, none⟩)) [.int .i64 (i : Int)] H = some (.next, [.int .i64 ((i + 1 : Nat) : Int)], H') ∧
      DP B H' wordV b m w (s ++ line wordL (upF Φ t ((i + 1 : Nat) : Int)) i (nodeT L t)) (upF Φ t ((i + 1 : Nat) : Int)) ∧ (∀ x, 0 ≤ upF Φ t ((i + 1 : Nat) : Int) x ∧ upF Φ t ((i + 1 : Nat) : Int) x ≤ 2 ^ 42) := by
  have hlt : i < out.length := (List.getElem?_eq_some_iff.1 hi).1
  obtain ⟨t1, t2⟩ := hout t (List.mem_of_getElem? hi)
  have hΨ : ∀ x, 0 ≤ upF Φ t ((i + 1 : Nat) : Int) x ∧ upF Φ t ((i + 1 : Nat) : Int) x ≤ 2 ^ 42 := fun x => by
    unfold upF
    split
    · omega
    · exact hΦ x
  obtain ⟨H1, u1, h1⟩ := h.upd (t : Int) ((i + 1 : Nat) : Int)
  generalize hψ : upF Φ t ((i + 1 : Nat) : Int) = Ψ at h1 hΨ
  have hvH : Rdb H 1 v out.length (ints out) := hv.keep' (fun j hj => h.old j (hv.lt hj)) h.next
  have hvI : Rdb H 1 v (out.map fun (t : Nat) => (t : Int)).length (intsI (out.map fun (t : Nat) => (t : Int))) := by rw [List.length_map, ← ints_intsI]; exact hvH
  obtain ⟨y, x1, x2⟩ := hvI.int (i := i) (t := (t : Int)) (by rw [List.getElem?_map, hi]; rfl)
  have q : (i : Int) < (out.length : Int) := by omega
  have w1 : IntKind.i64.wrap ((i : Int) + 1) = ((i + 1 : Nat) : Int) := i64_wrap (by omega) (by omega)
  have w2 : IntKind.i64.wrap ((t : Int) - 1) = ((t - 1 : Nat) : Int) := by rw [i64_wrap (by omega) (by omega)]; omega
  have hst1 : StF H1 p lim L K sl f g := hst.keep (fun i hi => h1.old i (hst.foot_lt hi)) h1.next
  obtain ⟨n, hnn⟩ : ∃ n, L[t - 1]? = some n := ⟨_, List.getElem?_eq_getElem (by omega)⟩
  have hnd : nodeT L t = n := by unfold nodeT; rw [hnn]; rfl
  have hNn := hN n (List.mem_of_getElem? hnn)
  obtain ⟨ho1, ho2⟩ := hNn.op
  obtain ⟨sl', hsl, hix⟩ := hst1.st.all.ix (i := t - 1) (by omega) (α := Outc)
  have ci := c_itoa (h1.tabs hT hn) (n := ((i + 1 : Nat) : Int)) (by omega) (by omega)
  have il := itoa_len (n := ((i + 1 : Nat) : Int)) (by omega) (by omega)
  have wl := word_len n.op
  have cat1 : ∀ (k : Value → Option Outc), pBin PP .add T.string (.string (ba (Go.Lib.itoa ((i + 1 : Nat) : Int)))) (.string ⟨#[32]⟩) k = k (.string (ba (itoa ((i + 1 : Nat) : Int) ++ [32]))) := fun k => s_catL _ (itoa ((i + 1 : Nat) : Int)) [32] (by rw [List.length_singleton]; omega) k
  have cat2 : ∀ (k : Value → Option Outc), pBin PP .add T.string (.string (ba (itoa ((i + 1 : Nat) : Int) ++ [32]))) (.string (ba (word wordL n.op))) k = k (.string (ba (itoa ((i + 1 : Nat) : Int) ++ [32] ++ word wordL n.op))) := fun k => s_catL _ _ _ (by rw [List.length_append, List.length_singleton]; omega) k
  have ixw : ∀ (k : Value → Option Outc), pIdx 1 (.slice (some ⟨w, 0, some 1⟩) 34 34) (.int .i64 n.op) k = k (.pointer (some ⟨w, n.op.toNat, none⟩)) := fun k => by
    have : (.int .i64 n.op : Value) = .int .i64 ((n.op.toNat : Nat) : Int) := by rw [Int.toNat_of_nonneg (by omega)]
    rw [this, ix_byte (by omega), Nat.zero_add]
  have ldw : ∀ (k : Value → Option Outc), pLoad 1 false H1 (.pointer (some ⟨w, n.op.toNat, none⟩)) k = k (.string (ba (word wordL n.op))) := fun k => s_load h1.nms _ _ (word_at hNn.op) k
  have hck : Hp.rdP H1 (.pointer (some ⟨w, n.op.toNat, none⟩)) 1 false = some (.string (ba (word wordL n.op))) := by
    unfold Hp.rdP Hp.rd
    dsimp only
    rw [h1.nms]
    exact word_at hNn.op
  obtain ⟨H2, e1, h2⟩ := h1.ws (itoa ((i + 1 : Nat) : Int) ++ [32] ++ word wordL n.op) (by rw [List.length_append, List.length_append, List.length_singleton]; omega)
  have hpn := partsT_nn n.op
  have hnum := hNn.num
  have hw := hNn.w
  have hnm := hNn.name
  have iw := itoa_len (n := n.w) (by omega) (by omega)
  have hnt := numT_len (x := n.num.toNat) (by omega)
  have hl2 : (s ++ (itoa ((i + 1 : Nat) : Int) ++ [32] ++ word wordL n.op)).length ≤ s.length + 46 := by rw [List.length_append, List.length_append, List.length_append, List.length_singleton]; omega
  have hline : ∀ r : List UInt8, act Ψ n (fl n.op) 0 = r → s ++ line wordL Ψ i n = (s ++ (itoa ((i + 1 : Nat) : Int) ++ [32] ++ word wordL n.op)) ++ r ++ [10] := fun r hr => by
    unfold line
    rw [hr]
    simp only [List.append_assoc]
  rw [hnd]
  generalize (s ++ (itoa ((i + 1 : Nat) : Int) ++ [32] ++ word wordL n.op)) = s2 at h2 hl2 hline
  have text : ∀ {Hx : Hp} {sx : List UInt8}, DP B Hx wordV b m w sx Ψ → ∃ H', RR F.bits_Text [.int .u64 n.num] Hx = some (.string (ba (numT n.num.toNat)), H') ∧ DP B H' wordV b m w sx Ψ := fun hx => by
    obtain ⟨H', a1, a2⟩ := c_text (hx.tabs hT hn) (Nat.le_trans hn hx.next) (x := n.num.toNat) (by omega)
    rw [Int.toNat_of_nonneg hnum.1] at a1
    exact ⟨H', a1, hx.new a2⟩
  have spl : ∀ l : List UInt8, (sp l).length = l.length + 1 := fun l => rfl
  by_cases h3 : n.op = 3
  · have d3 : decide (n.op = 3) = true := decide_eq_true h3
    have d31 : decide (n.op = 31) = false := decide_eq_false (by omega)
    have d32 : decide (n.op = 32) = false := decide_eq_false (by omega)
    have d33 : decide (n.op = 33) = false := decide_eq_false (by omega)
    obtain ⟨H3, e2, g3⟩ := h2.put hT hn (x := n.w) (by omega) (by omega) (by omega)
    obtain ⟨H4, e3, g4⟩ := text g3
    obtain ⟨H5, e4, g5⟩ := g4.ws (sp (numT n.num.toNat)) (by rw [List.length_append, spl, spl]; omega)
    have sp1 := sp_ba (numT n.num.toNat) (by omega) (α := Outc)
    have hp0 : partsT n.op = 0 := by rw [h3]; decide
    obtain ⟨H6, lp, g6⟩ := loopP hT hn (n := n) hΨ 0 0 H5 _ (by rw [hp0]; rfl) g5 (by simp only [List.length_append, spl]; omega)
    rw [show ((0 : Nat) : Int) = 0 from rfl] at lp
    obtain ⟨H7, e5, g7⟩ := g6.wb (by rw [List.replicate_zero, act_nil, List.append_nil]; simp only [List.length_append, spl]; omega)
    refine ⟨H7, ?_, ?_, hΨ⟩
    · unfold s_term_Store_Dump_2
      simp only [List.getD_cons_zero, s_lss, q, decide_true, s_bool, s_brt, s_brf, x1, x2, s_add, w1, u1, s_nil, s_offs, Nat.zero_add, hst1.st.l1, s_sub, w2, hix, ld7 hsl hnn, spl7, s_call ci, cat1, ncell0, ixw, ldw, s_chk hck, cat2, s_call e1, s_eql, d3, ncell1, s_call e2, ncell5, s_call e3, sp1, s_call e4, s_bind, s_next, s_call (c29 _ _), lp, s_exit, s_onExit, d31, d32, d33, s_call e5]
    · rw [hline (sp (itoa n.w) ++ sp (numT n.num.toNat)) (by unfold fl; rw [if_neg (by omega), if_pos h3, act_w, act_n, act_nil, List.append_nil])]
      rw [List.replicate_zero, act_nil, List.append_nil, List.append_assoc s2] at g7
      exact g7
  have d3 : decide (n.op = 3) = false := decide_eq_false h3
  by_cases h4 : n.op = 4
  · have d4 : decide (n.op = 4) = true := decide_eq_true h4
    have d31 : decide (n.op = 31) = false := decide_eq_false (by omega)
    have d32 : decide (n.op = 32) = false := decide_eq_false (by omega)
    have d33 : decide (n.op = 33) = false := decide_eq_false (by omega)
    obtain ⟨H3, e2, g3⟩ := h2.ws (sp n.name.data.toList) (by rw [spl]; omega)
    obtain ⟨H4, e3, g4⟩ := g3.put hT hn (x := n.w) (by omega) (by omega) (by rw [List.length_append, spl]; omega)
    have sp1 : ∀ (k : Value → Option Outc), pBin PP .add T.string (.string ⟨#[32]⟩) (.string n.name) k = k (.string (ba (sp n.name.data.toList))) := fun k => by
      have := sp_ba n.name.data.toList (by omega) k
      rw [show ba n.name.data.toList = n.name from (fba_eq rfl).symm] at this
      exact this
    have hp0 : partsT n.op = 0 := by rw [h4]; decide
    obtain ⟨H6, lp, g6⟩ := loopP hT hn (n := n) hΨ 0 0 H4 _ (by rw [hp0]; rfl) g4 (by simp only [List.length_append, spl]; omega)
    rw [show ((0 : Nat) : Int) = 0 from rfl] at lp
    obtain ⟨H7, e5, g7⟩ := g6.wb (by rw [List.replicate_zero, act_nil, List.append_nil]; simp only [List.length_append, spl]; omega)
    refine ⟨H7, ?_, ?_, hΨ⟩
    · unfold s_term_Store_Dump_2
      simp only [List.getD_cons_zero, s_lss, q, decide_true, s_bool, s_brt, s_brf, x1, x2, s_add, w1, u1, s_nil, s_offs, Nat.zero_add, hst1.st.l1, s_sub, w2, hix, ld7 hsl hnn, spl7, s_call ci, cat1, ncell0, ixw, ldw, s_chk hck, cat2, s_call e1, s_eql, d3, d4, ncell6, sp1, s_call e2, ncell1, s_call e3, s_bind, s_next, s_call (c29 _ _), lp, s_exit, s_onExit, d31, d32, d33, s_call e5]
    · rw [hline (sp n.name.data.toList ++ sp (itoa n.w)) (by unfold fl; rw [if_neg (by omega), if_neg (by omega), if_pos h4, act_s, act_w, act_nil, List.append_nil])]
      rw [List.replicate_zero, act_nil, List.append_nil, List.append_assoc s2] at g7
      exact g7
  have d4 : decide (n.op = 4) = false := decide_eq_false h4
  obtain ⟨H6, lp, g6⟩ := loopP hT hn (n := n) hΨ (partsT n.op).toNat 0 H2 _ (by omega) h2 (by omega)
  rw [show ((0 : Nat) : Int) = 0 from rfl] at lp
  have al := act_len hNn hΨ (List.replicate (partsT n.op).toNat 112) 0
  rw [List.length_replicate] at al
  by_cases h31 : n.op = 31
  · have d31 : decide (n.op = 31) = true := decide_eq_true h31
    have hs := hNn.ext h31
    have cv : ∀ (k : Value → Option Outc), pConvInt .i64 (.int .u64 n.num) k = k (.int .i64 n.num) := fun k => by
      rw [s_conv, i64_wrap (by omega) (by omega)]
    obtain ⟨H7, e2, g7⟩ := g6.put hT hn (x := n.num) (by omega) (by omega) (by rw [List.length_append]; omega)
    have inu := itoa_len (n := n.num) (by omega) (by omega)
    obtain ⟨H8, e3, g8⟩ := g7.put hT hn (x := n.w) (by omega) (by omega) (by simp only [List.length_append, spl]; omega)
    obtain ⟨H9, e5, g9⟩ := g8.wb (by simp only [List.length_append, spl]; omega)
    have hp1 : (partsT n.op).toNat = 1 := by rw [h31]; decide
    refine ⟨H9, ?_, ?_, hΨ⟩
    · unfold s_term_Store_Dump_2
      simp only [List.getD_cons_zero, s_lss, q, decide_true, s_bool, s_brt, s_brf, x1, x2, s_add, w1, u1, s_nil, s_offs, Nat.zero_add, hst1.st.l1, s_sub, w2, hix, ld7 hsl hnn, spl7, s_call ci, cat1, ncell0, ixw, ldw, s_chk hck, cat2, s_call e1, s_eql, d3, d4, s_bind, s_next, s_call (c29 _ _), lp, s_exit, s_onExit, d31, ncell5, cv, s_call e2, ncell1, s_call e3, s_call e5]
    · rw [hline (sp (itoa (Ψ ([n.a, n.b, n.c].getD 0 0))) ++ (sp (itoa n.num) ++ sp (itoa n.w))) (by unfold fl; rw [if_neg (by omega), if_neg (by omega), if_neg (by omega), if_pos h31, act_p, act_n, act_w, act_nil, List.append_nil, small_num hnum.1 hs])]
      rw [hp1, show List.replicate 1 (112 : UInt8) = [112] from rfl, act_p, act_nil, List.append_nil, List.append_assoc (s2 ++ _), List.append_assoc s2] at g9
      exact g9
  have d31 : decide (n.op = 31) = false := decide_eq_false h31
  by_cases h32 : n.op = 32
  · have d32 : decide (n.op = 32) = true := decide_eq_true h32
    obtain ⟨H8, e3, g8⟩ := g6.put hT hn (x := n.w) (by omega) (by omega) (by simp only [List.length_append, spl]; omega)
    obtain ⟨H9, e5, g9⟩ := g8.wb (by simp only [List.length_append, spl]; omega)
    have hp1 : (partsT n.op).toNat = 1 := by rw [h32]; decide
    refine ⟨H9, ?_, ?_, hΨ⟩
    · unfold s_term_Store_Dump_2
      simp only [List.getD_cons_zero, s_lss, q, decide_true, s_bool, s_brt, s_brf, x1, x2, s_add, w1, u1, s_nil, s_offs, Nat.zero_add, hst1.st.l1, s_sub, w2, hix, ld7 hsl hnn, spl7, s_call ci, cat1, ncell0, ixw, ldw, s_chk hck, cat2, s_call e1, s_eql, d3, d4, s_bind, s_next, s_call (c29 _ _), lp, s_exit, s_onExit, d31, d32, ncell1, s_call e3, s_call e5]
    · rw [hline (sp (itoa (Ψ ([n.a, n.b, n.c].getD 0 0))) ++ sp (itoa n.w)) (by unfold fl; rw [if_neg (by omega), if_neg (by omega), if_neg (by omega), if_neg (by omega), if_pos (by omega), act_p, act_w, act_nil, List.append_nil])]
      rw [hp1, show List.replicate 1 (112 : UInt8) = [112] from rfl, act_p, act_nil, List.append_nil, List.append_assoc s2] at g9
      exact g9
  have d32 : decide (n.op = 32) = false := decide_eq_false h32
  by_cases h33 : n.op = 33
  · have d33 : decide (n.op = 33) = true := decide_eq_true h33
    obtain ⟨H8, e3, g8⟩ := g6.put hT hn (x := n.w) (by omega) (by omega) (by simp only [List.length_append, spl]; omega)
    obtain ⟨H9, e5, g9⟩ := g8.wb (by simp only [List.length_append, spl]; omega)
    have hp1 : (partsT n.op).toNat = 1 := by rw [h33]; decide
    refine ⟨H9, ?_, ?_, hΨ⟩
    · unfold s_term_Store_Dump_2
      simp only [List.getD_cons_zero, s_lss, q, decide_true, s_bool, s_brt, s_brf, x1, x2, s_add, w1, u1, s_nil, s_offs, Nat.zero_add, hst1.st.l1, s_sub, w2, hix, ld7 hsl hnn, spl7, s_call ci, cat1, ncell0, ixw, ldw, s_chk hck, cat2, s_call e1, s_eql, d3, d4, s_bind, s_next, s_call (c29 _ _), lp, s_exit, s_onExit, d31, d32, d33, ncell1, s_call e3, s_call e5]
    · rw [hline (sp (itoa (Ψ ([n.a, n.b, n.c].getD 0 0))) ++ sp (itoa n.w)) (by unfold fl; rw [if_neg (by omega), if_neg (by omega), if_neg (by omega), if_neg (by omega), if_pos (by omega), act_p, act_w, act_nil, List.append_nil])]
      rw [hp1, show List.replicate 1 (112 : UInt8) = [112] from rfl, act_p, act_nil, List.append_nil, List.append_assoc s2] at g9
      exact g9
  have d33 : decide (n.op = 33) = false := decide_eq_false h33
  obtain ⟨H9, e5, g9⟩ := g6.wb (by simp only [List.length_append]; omega)
  refine ⟨H9, ?_, ?_, hΨ⟩
  · unfold s_term_Store_Dump_2
    simp only [List.getD_cons_zero, s_lss, q, decide_true, s_bool, s_brt, s_brf, x1, x2, s_add, w1, u1, s_nil, s_offs, Nat.zero_add, hst1.st.l1, s_sub, w2, hix, ld7 hsl hnn, spl7, s_call ci, cat1, ncell0, ixw, ldw, s_chk hck, cat2, s_call e1, s_eql, d3, d4, s_bind, s_next, s_call (c29 _ _), lp, s_exit, s_onExit, d31, d32, d33, s_call e5]
  · have hfl : fl n.op = List.replicate (partsT n.op).toNat 112 := by
      unfold fl
      by_cases h2 : n.op ≤ 2
      · have : partsT n.op = 0 := by
          rcases (show n.op = 1 ∨ n.op = 2 by omega) with q | q <;> rw [q] <;> decide
        rw [if_pos h2, this]; rfl
      · rw [if_neg h2, if_neg h3, if_neg h4, if_neg h31, if_neg (by omega)]
    rw [hline (act Ψ n (List.replicate (partsT n.op).toNat 112) 0) (by rw [hfl])]
    exact g9
end
end Go.AM
/- Dump: the program's Dump, whole. -/
set_option linter.unusedVariables false
set_option linter.unusedSimpArgs false
set_option maxRecDepth 100000
namespace Go.AM
open Go
theorem line_len {Φ : Int → Int} {n : Nd} (hn : NdTxt n) (hΦ : ∀ t, 0 ≤ Φ t ∧ Φ t ≤ 2 ^ 42) {i : Nat} (hi : i ≤ 2 ^ 42) : (line wordL Φ i n).length ≤ 200 := by
  have h1 := itoa_len (n := ((i + 1 : Nat) : Int)) (by omega) (by omega)
  have h2 := word_len n.op
  have h3 := act_len hn hΦ (fl n.op) 0
  have h4 := fl_len n.op
  unfold line
  simp only [List.length_append, List.length_singleton]
  omega
section
variable {B : Hp} {b m w p f g : Nat} {lim : Int} {L : List Nd} {K : List (ByteArray × Int)} {sl : Value} (hT : Tabs B) (hn : PP.globals.size ≤ B.next) (hst : StF B p lim L K sl f g) (hL : L.length * 64 ≤ 2 ^ 46) (hN : ∀ m ∈ L, NdTxt m)
include hT hn hst hL hN
theorem loopL {out : List Nat} {v : Value} (hv : Rdb B 1 v out.length (ints out)) (hout : ∀ t ∈ out, 1 ≤ t ∧ t ≤ L.length) (hol : out.length ≤ 2 ^ 30) : ∀ (k i : Nat) (H : Hp) (s : List UInt8) (Φ : Int → Int), i + k = out.length → DP B H wordV b m w s Φ →
    (∀ t, 0 ≤ Φ t ∧ Φ t ≤ 2 ^ 42) → s.length + 200 * k + 1000 ≤ 2 ^ 46 →
    ∃ H', loopD (s_term_Store_Dump_2 RR (.pointer (some ⟨p, 0, none⟩)) v (.map (some m)) (.int .i64 (out.length : Int)) (.slice (some ⟨w, 0, some 1⟩) 34 34) (.pointer (some ⟨b, 0, none⟩))) [.int .i64 (i : Int)] H = some (.exit 0, [.int .i64 (out.length : Int)], H') ∧
      DP B H' wordV b m w (s ++ linesT wordL L i (out.drop i) Φ) (linesF i (out.drop i) Φ) ∧ (∀ t, 0 ≤ linesF i (out.drop i) Φ t ∧ linesF i (out.drop i) Φ t ≤ 2 ^ 42) ∧ (linesT wordL L i (out.drop i) Φ).length ≤ 200 * k
  | 0, i, H, s, Φ, hi, h, hΦ, hl => by
    have : i = out.length := by omega
    subst this
    rw [List.drop_of_length_le (Nat.le_refl _)]
    refine ⟨H, ?_, by unfold linesT linesF; rw [List.append_nil]; exact h, hΦ, Nat.zero_le _⟩
    rw [loopD_eq]
    have : s_term_Store_Dump_2 RR (.pointer (some ⟨p, 0, none⟩)) v (.map (some m)) (.int .i64 (out.length : Int)) (.slice (some ⟨w, 0, some 1⟩) 34 34) (.pointer (some ⟨b, 0, none⟩)) [.int .i64 (out.length : Int)] H = some (.exit 0, [.int .i64 (out.length : Int)], H) := by
      unfold s_term_Store_Dump_2
      simp only [s_lss, s_bool, s_brf, List.getD_cons_zero, Int.lt_irrefl, decide_false]
    rw [this]; rfl
  | k + 1, i, H, s, Φ, hi, h, hΦ, hl => by
    have hlt : i < out.length := by omega
    have hg : out[i]? = some out[i] := List.getElem?_eq_getElem hlt
    obtain ⟨t1, t2⟩ := hout out[i] (List.getElem_mem hlt)
    have hd : out.drop i = out[i] :: out.drop (i + 1) := List.drop_eq_getElem_cons hlt
    obtain ⟨H1, e1, h1, hΨ⟩ := stepL hT hn hst hL hN hv hout (by omega) hg h hΦ (by omega)
    have hnd : NdTxt (nodeT L out[i]) := by
      unfold nodeT
      have : L[out[i] - 1]? = some (L[out[i] - 1]'(by omega)) := List.getElem?_eq_getElem _
      rw [this]
      exact hN _ (List.getElem_mem _)
    have hll := line_len hnd hΨ (i := i) (by omega)
    obtain ⟨H', e2, h2, h3, h4⟩ := loopL hv hout hol k (i + 1) H1 _ _ (by omega) h1 hΨ (by rw [List.length_append]; omega)
    rw [hd]
    refine ⟨H', ?_, ?_, h3, ?_⟩
    · rw [loopD_eq, e1]; exact e2
    · rw [List.append_assoc] at h2; exact h2
    · unfold linesT
      rw [List.length_append]
      omega
omit hst hL hN in
theorem loopR {x : Value} {rs : List Int} (hx : Rdb B 1 x rs.length (intsI rs)) (hrl : rs.length ≤ 2 ^ 30) {Φ : Int → Int} (hΦ : ∀ t, 0 ≤ Φ t ∧ Φ t ≤ 2 ^ 42) : ∀ (k i : Nat) (H : Hp) (s : List UInt8), i + k = rs.length → DP B H wordV b m w s Φ → s.length + 200 * k + 1000 ≤ 2 ^ 46 →
    ∃ H', loopD (s_term_Store_Dump_3 RR x (.map (some m)) (.int .i64 (rs.length : Int)) (.pointer (some ⟨b, 0, none⟩))) [.int .i64 (i : Int)] H = some (.exit 6, [.int .i64 (rs.length : Int)], H') ∧ DP B H' wordV b m w (s ++ rootsT Φ (rs.drop i)) Φ ∧ (rootsT Φ (rs.drop i)).length ≤ 200 * k
  | 0, i, H, s, hi, h, hl => by
    have : i = rs.length := by omega
    subst this
    rw [List.drop_of_length_le (Nat.le_refl _)]
    refine ⟨H, ?_, by unfold rootsT; rw [List.flatMap_nil, List.append_nil]; exact h, by simp [rootsT]⟩
    rw [loopD_eq]
    have : s_term_Store_Dump_3 RR x (.map (some m)) (.int .i64 (rs.length : Int)) (.pointer (some ⟨b, 0, none⟩)) [.int .i64 (rs.length : Int)] H = some (.exit 6, [.int .i64 (rs.length : Int)], H) := by
      unfold s_term_Store_Dump_3
      simp only [s_lss, s_bool, s_brf, List.getD_cons_zero, Int.lt_irrefl, decide_false]
    rw [this]; rfl
  | k + 1, i, H, s, hi, h, hl => by
    have hlt : i < rs.length := by omega
    have hg : rs[i]? = some rs[i] := List.getElem?_eq_getElem hlt
    have hd : rs.drop i = rs[i] :: rs.drop (i + 1) := List.drop_eq_getElem_cons hlt
    have hxH : Rdb H 1 x rs.length (intsI rs) := hx.keep' (fun j hj => h.old j (hx.lt hj)) h.next
    obtain ⟨y, x1, x2⟩ := hxH.int hg
    have hb := hΦ rs[i]
    obtain ⟨H1, e1, h1⟩ := h.put hT hn (x := Φ rs[i]) (by omega) (by omega) (by omega)
    have il := itoa_len (n := Φ rs[i]) (by omega) (by omega)
    have spl : (sp (itoa (Φ rs[i]))).length = (itoa (Φ rs[i])).length + 1 := rfl
    obtain ⟨H', e2, h2, h4⟩ := loopR hx hrl hΦ k (i + 1) H1 _ (by omega) h1 (by rw [List.length_append, spl]; omega)
    rw [hd]
    have w1 : IntKind.i64.wrap ((i : Int) + 1) = ((i + 1 : Nat) : Int) := i64_wrap (by omega) (by omega)
    have q : (i : Int) < (rs.length : Int) := by omega
    refine ⟨H', ?_, ?_, ?_⟩
    · rw [loopD_eq]
      have : s_term_Store_Dump_3 RR x (.map (some m)) (.int .i64 (rs.length : Int)) (.pointer (some ⟨b, 0, none⟩)) [.int .i64 (i : Int)] H = some (.next, [.int .i64 ((i + 1 : Nat) : Int)], H1) := by
        unfold s_term_Store_Dump_3
        simp only [s_lss, s_bool, s_brt, List.getD_cons_zero, q, decide_true, x1, x2, h.mp.look ikI, s_call e1, s_add, w1]
      rw [this]; exact e2
    · rw [List.append_assoc] at h2; exact h2
    · unfold rootsT at h4 ⊢
      rw [List.flatMap_cons, List.length_append]
      omega
end
/-- Dump's answer. -/
def dumpR (L : List Nd) (rs : List Int) : List UInt8 := if (orderR L rs).1 = 0 then dumpT wordL L (orderR L rs).2 rs else []
theorem orderR_in {L : List Nd} (hd : Dag L) (rs : List Int) : ∀ t ∈ (orderR L rs).2, 1 ≤ t ∧ t ≤ L.length := by
  unfold orderR
  split
  · rename_i h
    obtain ⟨ns, h1, h2⟩ := nats rs h
    have e : rs.map Int.toNat = ns := by rw [h1, map_nat]
    rw [e]
    exact Told.bd ((⟨List.nodup_nil, fun x h => by cases h⟩ : Told L.length []).posts hd h2)
  · intro t h; cases h
theorem str_lit (l : List UInt8) : Value.string ⟨l.toArray⟩ = .string (ba l) := rfl
section
variable {H0 : Hp} {p f g : Nat} {lim : Int} {L : List Nd} {K : List (ByteArray × Int)} {sl : Value} (hT : Tabs H0) (hn : PP.globals.size ≤ H0.next) (hst : StF H0 p lim L K sl f g) (hd : Dag L) (hN : ∀ m ∈ L, NdTxt m) (hL : L.length ≤ 2 ^ 30) {x : Value} {rs : List Int} (hx : Rdb H0 1 x rs.length (intsI rs)) (hl : rs.length ≤ 2 ^ 30)
include hT hn hst hd hN hL hx hl
theorem c_dump : ∃ H', RR F.term_Store_Dump [.pointer (some ⟨p, 0, none⟩), x] H0 = some (.tuple #[.string (ba (dumpR L rs)), .int .i64 (orderR L rs).1], H') ∧ H0.next ≤ H'.next ∧ ∀ k, k < H0.next → H'.get k = H0.get k := by
  obtain ⟨H2, v, a1, a2⟩ := c13 hst hd (by omega) hx (by omega)
  have hbd := orderR_bd hd rs
  have hin := orderR_in hd rs
  have hr := (r_term_Store_Dump E0 rfl (.pointer (some ⟨p, 0, none⟩)) x H0).trans (k_term_Store_Dump _ _ _ _)
  unfold dumpR
  generalize (orderR L rs).1 = e at *
  generalize (orderR L rs).2 = out at *
  rw [s_call a1, s_ext0, s_ext1, s_neq, s_bool] at hr
  by_cases he : e = 0
  · subst he
    rw [decide_eq_false (by simp), s_brf] at hr
    have f2 : Frm (fun _ => False) H0 H2 := ⟨a2.next, fun j hj _ => a2.old j hj⟩
    have hst2 : StF H2 p lim L K sl f g := hst.keep (fun i hi => a2.old i (hst.foot_lt hi)) a2.next
    have hT2 := hT.old hn a2.old
    have hn2 : PP.globals.size ≤ H2.next := Nat.le_trans hn a2.next
    have hx2 : Rdb H2 1 x rs.length (intsI rs) := hx.keep' (fun j hj => a2.old j (hx.lt hj)) a2.next
    let HA : Hp := (H2.new (.cells [.pointer none, .slice none 0 0] true)).mark H2.next T.strings_Builder
    let HB : Hp := HA.new (.map [])
    let HC : Hp := HB.new (.cells wordV true)
    have hgB : ∀ k, k < H2.next → HB.get k = H2.get k := fun k hk => by
      show (if k = H2.next + 1 then _ else if k = H2.next then _ else H2.get k) = _
      rw [if_neg (by omega), if_neg (by omega)]
    have hgC : ∀ k, k < H2.next → HC.get k = H2.get k := fun k hk => by
      show (if k = H2.next + 2 then _ else HB.get k) = _
      rw [if_neg (by omega), hgB k hk]
    have hTB : Tabs HB := hT2.old hn2 hgB
    have hc : HC.get H2.next = some (.cells [.pointer none, .slice none 0 0] true) := by
      show (if H2.next = H2.next + 2 then _ else if H2.next = H2.next + 1 then _ else if H2.next = H2.next then _ else _) = _
      rw [if_neg (by omega), if_neg (by omega), if_pos rfl]
    have hm : HC.get (H2.next + 1) = some (.map []) := by
      show (if H2.next + 1 = H2.next + 2 then _ else if H2.next + 1 = H2.next + 1 then _ else _) = _
      rw [if_neg (by omega), if_pos rfl]
    have hw : HC.get (H2.next + 2) = some (.cells wordV true) := by
      show (if H2.next + 2 = H2.next + 2 then _ else _) = _
      rw [if_pos rfl]
    have hty : HC.ty H2.next = some T.strings_Builder := by
      show (if H2.next = H2.next then _ else _) = _
      rw [if_pos rfl]
    have st : DP H2 HC wordV H2.next (H2.next + 1) (H2.next + 2) [] (fun _ => 0) :=
      ⟨by show H2.next ≤ H2.next + 1 + 1 + 1; omega, hgC, Nat.le_refl _, by omega, by omega, by omega, by omega, by omega, by show H2.next + 1 < H2.next + 1 + 1 + 1; omega, by show H2.next + 2 < H2.next + 1 + 1 + 1; omega,
        ⟨[], hm, fun t => rfl⟩, hw, none, ⟨hty, by show H2.next < H2.next + 1 + 1 + 1; omega, _, _, hc, .inl rfl, .inl ⟨rfl, rfl, rfl⟩⟩, fun y hy => by cases hy⟩
    have ea : ∀ (k : Value → Hp → Option (Value × Hp)), pAllocT T.strings_Builder [.pointer none, .slice none 0 0] H2 k = k (.pointer (some ⟨H2.next, 0, none⟩)) HA := fun k => rfl
    have eb : ∀ (k : Value → Hp → Option (Value × Hp)), pNewMap HA k = k (.map (some (H2.next + 1))) HB := fun k => rfl
    have en : RR F.term_names [] HB = some (.slice (some ⟨H2.next + 2, 0, some 1⟩) 34 34, HC) := c_names hTB
    obtain ⟨H3, l1, d1, hΦ, len1⟩ := loopL (b := H2.next) (m := H2.next + 1) (w := H2.next + 2) hT2 hn2 hst2 (by omega) hN a2.vec.rd hin (by omega) out.length 0 HC [] _ (by omega) st (fun t => by constructor <;> decide) (by simp; omega)
    rw [List.drop_zero, List.nil_append] at d1
    rw [List.drop_zero] at hΦ len1
    obtain ⟨H4, e4, d4⟩ := d1.ws [114, 111, 111, 116, 115] (by simp; omega)
    obtain ⟨H5, l2, d5, len2⟩ := loopR hT2 hn2 hx2 hl hΦ rs.length 0 H4 _ (by omega) d4 (by rw [List.length_append]; simp; omega)
    rw [List.drop_zero] at d5 len2
    obtain ⟨H6, e6, d6⟩ := d5.wb (by rw [List.length_append, List.length_append]; simp; omega)
    obtain ⟨j, hj, hj2⟩ := d6.bld
    obtain ⟨H7, e7, bf⟩ := hj.text (by rw [List.length_append, List.length_append, List.length_append]; simp; omega)
    refine ⟨H7, hr.trans ?_, ?_, fun k hk => ?_⟩
    · rw [ea, eb, s_call en, a2.vec.len]
      rw [show (0 : Int) = ((0 : Nat) : Int) from rfl, l1, s_bind, s_exit, s_onExit, s_call e4, hx2.len, l2, s_bind, s_exit, s_onExit, s_call e6, s_call e7, if_pos rfl]
      rfl
    · have := d6.next
      have := bf.next
      have := a2.next
      omega
    · have h2 := a2.next
      have h6 := d6.next
      have := d6.lb
      rw [bf.get k (by omega) (by omega) (fun q => by have := hj2 k q; omega), d6.old k (by omega), a2.old k hk]
  · rw [decide_eq_true (by simpa using he), s_brt] at hr
    rw [if_neg he]
    exact ⟨H2, hr, a2.next, a2.old⟩
end
end Go.AM
/- Dump: the document's lines. -/
set_option linter.unusedVariables false
set_option linter.unusedSimpArgs false
set_option maxRecDepth 100000
namespace Go.AM
open Go
def Buf (H : Hp) (a : Nat) (s : List UInt8) (j : Option Nat) (buf : Value) : Prop :=
  (j = none ∧ s = [] ∧ buf = .slice none 0 0) ∨ ∃ y, j = some y ∧ y ≠ a ∧ y < H.next ∧ s ≠ [] ∧ buf = .slice (some ⟨y, 0, some 1⟩) s.length s.length ∧ H.get y = some (.cells (bv s) true) ∧ H.ty y = some T.uint8
def cellsF (N : Nat) (Φ : Int → Int) : List Value := intsI ((List.range (N + 1)).map fun (t : Nat) => Φ (t : Int))
structure DR (B H : Hp) (a N : Nat) (av : Value) (s : List UInt8) (buf : Value) (Φ : Int → Int) : Prop where
  next : B.next ≤ H.next
  old : ∀ k, k < B.next → H.get k = B.get k
  ia : ∀ j, Id av j ↔ j = a
  la : B.next ≤ a
  at_ : Vec H 1 av (N + 1) (cellsF N Φ)
  buf : ∃ j, Buf H a s j buf ∧ ∀ y, j = some y → B.next ≤ y
theorem cellsF_at {N : Nat} {Φ : Int → Int} {t : Nat} (h : t ≤ N) : (cellsF N Φ)[t]? = some (.int .i64 (Φ (t : Int))) := by
  refine intsI_get ?_
  rw [List.getElem?_map, List.getElem?_range (by omega)]
  rfl
theorem cellsF_set {N : Nat} {Φ : Int → Int} {t : Nat} (h : t ≤ N) (x : Int) : spl (cellsF N Φ) (t * 1) [.int .i64 x] = cellsF N (upF Φ (t : Int) x) := by
  unfold cellsF
  have e := spl_set (fun (t : Int) => Value.int .i64 t) ((List.range (N + 1)).map fun (t : Nat) => Φ (t : Int)) (i := t) (by simp; omega) x
  refine e.trans ?_
  unfold intsI
  congr 1
  apply List.ext_getElem?
  intro j
  rw [List.getElem?_set, List.getElem?_map, List.getElem?_map]
  unfold upF
  by_cases hj : j < N + 1
  · rw [List.getElem?_range hj]
    by_cases hq : t = j
    · subst hq
      rw [if_pos rfl, if_pos (by simp; omega), Option.map_some, if_pos rfl]
    · rw [if_neg hq, Option.map_some, Option.map_some, if_neg (by omega)]
  · have hn : (List.range (N + 1))[j]? = none := List.getElem?_eq_none (by simp; omega)
    rw [hn, if_neg (by omega)]; rfl
theorem st_ty {n : Nat} {H H' : Hp} {q v : Value} (h : pStore n H q v some = some H') : H'.ty = H.ty := by
  unfold pStore at h
  cases e : H.wr q n v with
  | none => rw [e] at h; cases h
  | some H1 =>
    rw [e] at h
    cases h
    unfold Hp.wr at e
    repeat' (first | (cases e; done) | (cases e; rfl) | split at e)
section
variable {B H : Hp} {a N : Nat} {av : Value} {s : List UInt8} {buf : Value} {Φ : Int → Int}
theorem DR.ia' (h : DR B H a N av s buf Φ) : Id av a := (h.ia a).2 rfl
theorem DR.ha (h : DR B H a N av s buf Φ) : a < H.next := h.at_.lt h.ia'
theorem DR.rd (h : DR B H a N av s buf Φ) {t : Int} (h0 : 0 ≤ t) (h1 : t ≤ N) : ∃ q, (∀ (α : Type) (k : Value → Option α), pIdx 1 av (.int .i64 t) k = k q) ∧ ∀ (α : Type) (k : Value → Option α), pLoad 1 false H q k = k (.int .i64 (Φ t)) := by
  have ht : ((t.toNat : Nat) : Int) = t := Int.toNat_of_nonneg h0
  obtain ⟨y, hy, ⟨rest, hg⟩, hix⟩ := h.at_.ix (i := t.toNat) (by omega)
  refine ⟨_, fun α k => by rw [← ht]; exact hix α .i64 k, fun α k => ?_⟩
  rw [ld_cell hg (by rw [Nat.mul_one]; exact cellsF_at (by omega)), ht]
theorem DR.put (h : DR B H a N av s buf Φ) {t : Nat} (h1 : t ≤ N) (x : Int) : ∃ q H', (∀ (α : Type) (k : Value → Option α), pIdx 1 av (.int .i64 (t : Int)) k = k q) ∧ (∀ (α : Type) (k : Hp → Option α), pStore 1 H q (.int .i64 x) k = k H') ∧ DR B H' a N av s buf (upF Φ (t : Int) x) := by
  obtain ⟨y, hy, ⟨rest, hg⟩, hix⟩ := h.at_.ix (i := t) (by omega)
  obtain ⟨H', e1, e2, e3, e3n⟩ := h.at_.set hy (o := t * 1) (m := 1) (x := .int .i64 x) rfl (by rw [h.at_.size]; omega) rfl
  have hya := (h.ia y).1 hy
  subst hya
  have e2' : Vec H' 1 av (N + 1) (cellsF N (upF Φ (t : Int) x)) := by
    have := e2
    rw [show cellsL (.int .i64 x) = [.int .i64 x] from rfl, cellsF_set h1] at this
    exact this
  have la := h.la
  have hn := h.next
  obtain ⟨j, hb, hb2⟩ := h.buf
  have fr : ∀ k, k < H.next → k ≠ y → H'.get k = H.get k := fun k hk hne => e3.same k hk (fun q => hne ((h.ia k).1 q))
  have hty : H'.ty = H.ty := by
    exact st_ty (e1 Hp some)
  refine ⟨_, H', fun α k => hix α .i64 k, e1, ⟨Nat.le_trans hn e3.next, fun k hk => by rw [fr k (by omega) (by omega), h.old k hk], h.ia, la, e2', j, ?_, hb2⟩⟩
  rcases hb with hb | ⟨z, g1, g2, g3, g4, g5, g6, g7⟩
  · exact .inl hb
  · exact .inr ⟨z, g1, g2, Nat.lt_of_lt_of_le g3 e3.next, g4, g5, by rw [fr z g3 g2]; exact g6, by rw [hty]; exact g7⟩
theorem DR.app {H1 : Hp} (h : DR B H a N av s buf Φ) (k1 : New H H1) {x : Value} {t : List UInt8} (hx : srcCells 1 x H1 = some (t.length, bv t)) (hl : s.length + t.length ≤ 2 ^ 46) :
    ∃ buf' H', (∀ (α : Type) (k : Value → Hp → Option α), pAppendT T.uint8 1 1 buf x H1 k = k buf' H') ∧ DR B H' a N av (s ++ t) buf' Φ := by
  obtain ⟨j, hb, hb2⟩ := h.buf
  have ha := h.ha
  have n1 := k1.next
  have hn := h.next
  have hb1 : Buf H1 a s j buf := by
    rcases hb with hb | ⟨z, g1, g2, g3, g4, g5, g6, g7⟩
    · exact .inl hb
    · exact .inr ⟨z, g1, g2, Nat.lt_of_lt_of_le g3 n1, g4, g5, by rw [k1.get z g3]; exact g6, by rw [k1.ty z g3]; exact g7⟩
  obtain ⟨buf', H', j', e1, _, _, e2, e3, e4, e5, e6⟩ := app_buf (i := a) (by omega) hb1 hx hl
  have ja : j ≠ some a := fun q => by
    rcases hb with ⟨hb, _⟩ | ⟨z, g1, g2, _⟩
    · rw [hb] at q; cases q
    · rw [g1] at q; cases q; exact g2 rfl
  refine ⟨buf', H', e1, ⟨by omega, fun k hk => ?_, h.ia, h.la, h.at_.keep' (fun i hi => ?_) (by omega), j', e6, fun y hy => ?_⟩⟩
  · rw [e3 k (by omega) (fun q => by have := hb2 k q; omega), k1.get k (by omega), h.old k hk]
  · have := (h.ia i).1 hi
    subst this
    rw [e3 i (by omega) ja, k1.get i ha]
  · rcases e5 y hy with q | q
    · exact hb2 y q
    · omega
theorem DR.str (h : DR B H a N av s buf Φ) (t : List UInt8) (hl : s.length + t.length ≤ 2 ^ 46) :
    ∃ buf' H', (∀ (α : Type) (k : Value → Hp → Option α), pAppendT T.uint8 1 1 buf (.string (ba t)) H k = k buf' H') ∧ DR B H' a N av (s ++ t) buf' Φ :=
  h.app (New.refl H) (by show some ((ba t).size, _) = _; rw [ba_size, ba_list]; rfl) hl
theorem DR.byte (h : DR B H a N av s buf Φ) (hl : s.length + 1 ≤ 2 ^ 46) :
    ∃ v H1 buf' H', (∀ (α : Type) (k : Value → Hp → Option α), pBuildSlice 1 [.int .u8 0] 1 [(0, .int .u8 10)] H k = k v H1) ∧ (∀ (α : Type) (k : Value → Hp → Option α), pAppendT T.uint8 1 1 buf v H1 k = k buf' H') ∧ DR B H' a N av (s ++ [10]) buf' Φ := by
  obtain ⟨buf', H', e1, e2⟩ := h.app (H1 := H.new (.cells (bv [10]) true)) (new_new H _) (x := .slice (some ⟨H.next, 0, some 1⟩) 1 1) (t := [10]) (by
    unfold srcCells
    dsimp only
    rw [if_pos rfl, get_new, if_pos rfl]
    rfl) hl
  exact ⟨_, _, buf', H', fun α k => rfl, e1, e2⟩
end
theorem c_fields {op : Int} (h : 1 ≤ op ∧ op ≤ 33) (H : Hp) : RR F.cadenceref07_fields [.int .i64 op] H = some (.string (ba (fl op)), H) := by
  refine (r_cadenceref07_fields E0 rfl _ _).trans ?_
  unfold m_cadenceref07_fields fl
  rw [s_leq, s_bool]
  by_cases h2 : op ≤ 2
  · rw [decide_eq_true h2, s_brt, if_pos h2]
  rw [decide_eq_false h2, s_brf, if_neg h2, s_eql, s_bool]
  by_cases h3 : op = 3
  · rw [decide_eq_true h3, s_brt, if_pos h3]
  rw [decide_eq_false h3, s_brf, if_neg h3, s_eql, s_bool]
  by_cases h4 : op = 4
  · rw [decide_eq_true h4, s_brt, if_pos h4]
  rw [decide_eq_false h4, s_brf, if_neg h4, s_eql, s_bool]
  by_cases h31 : op = 31
  · rw [decide_eq_true h31, s_brt, if_pos h31]
  rw [decide_eq_false h31, s_brf, if_neg h31, s_geq, s_bool]
  by_cases h32 : op ≥ 32
  · rw [decide_eq_true h32, s_brt, if_pos h32]
  rw [decide_eq_false h32, s_brf, if_neg h32, s_call (c46 _ _)]
  have hp : partsR op = partsT op := by unfold partsR; rw [if_neg (by omega)]
  rw [hp]
  rcases partsT_cases op with q | q | q | q <;> rw [q]
  · rfl
  · rfl
  · rfl
  · rfl
end Go.AM
/- Dump: the document's lines, II. -/
set_option linter.unusedVariables false
set_option linter.unusedSimpArgs false
set_option maxRecDepth 100000
namespace Go.AM
open Go
def cnt (r : List UInt8) : Nat := (r.filter fun c => c == 112).length
theorem u8_ne {c d : UInt8} (h : c ≠ d) : ¬ ((c.toNat : Int) = (d.toNat : Int)) := fun e => h (UInt8.toNat_inj.1 (by omega))
theorem num_int {n : Nd} (h : 0 ≤ n.num) : ((n.num.toNat : Nat) : Int) = n.num := Int.toNat_of_nonneg h
section
variable {B : Hp} {a N : Nat} {av : Value} (hT : Tabs B) (hn : PP.globals.size ≤ B.next)
theorem DR.tabs {H : Hp} {s : List UInt8} {buf : Value} {Φ : Int → Int} (h : DR B H a N av s buf Φ) (hT : Tabs B) (hn : PP.globals.size ≤ B.next) : Tabs H := hT.old hn h.old
include hT hn
theorem loopF {n : Nd} (hN : NdTxt n) {Φ : Int → Int} (hΦ : ∀ t, 0 ≤ Φ t ∧ Φ t ≤ 2 ^ 42) (hp : ∀ k : Nat, k < 3 → 0 ≤ [n.a, n.b, n.c].getD k 0 ∧ [n.a, n.b, n.c].getD k 0 ≤ N) (cs : List UInt8) (hcs : cs.length ≤ 10) : ∀ (r : List UInt8) (i k : Nat) (H : Hp) (s : List UInt8) (buf : Value),
    cs.drop i = r → i + r.length = cs.length → cnt r + k ≤ 3 → DR B H a N av s buf Φ → s.length + 100 * (r.length + 1) ≤ 2 ^ 46 →
    ∃ (H' : Hp) (buf' : Value) (k' : Int), loopD (s_cadenceref07_Store_Dump_1 RR av (.string (ba cs)) n.cells [.int .i64 n.a, .int .i64 n.b, .int .i64 n.c]) [buf, .int .i64 (k : Int), .int .i64 (i : Int)] H = some (.exit 2, [buf', .int .i64 k', .int .i64 (cs.length : Int)], H') ∧ DR B H' a N av (s ++ act Φ n r k) buf' Φ
  | [], i, k, H, s, buf, hd, hi, hk, h, hl => by
    have hi : i = cs.length := by simpa using hi
    subst hi
    refine ⟨H, buf, k, ?_, by rw [act_nil, List.append_nil]; exact h⟩
    rw [loopD_eq]
    have : s_cadenceref07_Store_Dump_1 RR av (.string (ba cs)) n.cells [.int .i64 n.a, .int .i64 n.b, .int .i64 n.c] [buf, .int .i64 (k : Int), .int .i64 (cs.length : Int)] H = some (.exit 2, [buf, .int .i64 (k : Int), .int .i64 (cs.length : Int)], H) := by
      unfold s_cadenceref07_Store_Dump_1
      have hlen : ∀ (k : Value → Option Outc), pLen .str (.string (ba cs)) H k = k (.int .i64 (cs.length : Int)) := fun k => by show k (.int .i64 ((ba cs).size : Int)) = _; rw [ba_size]
      simp only [List.getD_cons_succ, List.getD_cons_zero, hlen, s_lss, Int.lt_irrefl, decide_false, s_bool, s_brf]
    rw [this]; rfl
  | c :: r, i, k, H, s, buf, hd, hi, hk, h, hl => by
    rw [List.length_cons] at hi hl
    have hlt : i < cs.length := by omega
    have hc : cs[i]? = some c := by
      have := congrArg (fun l => l[0]?) hd
      rw [List.getElem?_drop] at this
      simpa using this
    have hd1 : cs.drop (i + 1) = r := by
      have := congrArg (List.drop 1) hd
      rw [List.drop_drop] at this
      simpa [Nat.add_comm] using this
    have hlen : ∀ (k : Value → Option Outc), pLen .str (.string (ba cs)) H k = k (.int .i64 (cs.length : Int)) := fun k => by show k (.int .i64 ((ba cs).size : Int)) = _; rw [ba_size]
    have hat : ∀ (k : Value → Option Outc), pAtStr (.string (ba cs)) (.int .i64 (i : Int)) k = k (.int .u8 (c.toNat : Int)) := fun k => f_at (ba cs) .i64 i c (by rw [ba_list]; exact hc) k
    have q : (i : Int) < (cs.length : Int) := by omega
    have w1 : IntKind.i64.wrap ((i : Int) + 1) = ((i + 1 : Nat) : Int) := i64_wrap (by omega) (by omega)
    have spl : ∀ l : List UInt8, (sp l).length = l.length + 1 := fun l => rfl
    have hnum := hN.num
    have hw := hN.w
    have hnm := hN.name
    have iw := itoa_len (n := n.w) (by omega) (by omega)
    have hnt := numT_len (x := n.num.toNat) (by omega)
    have hT1 := h.tabs hT hn
    by_cases c1 : c = 112
    · subst c1
      have hcn : cnt (112 :: r) = cnt r + 1 := rfl
      have hk3 : k < 3 := by omega
      obtain ⟨p1, p2⟩ := hp k hk3
      have hx : [Value.int .i64 n.a, .int .i64 n.b, .int .i64 n.c][0 + k * 1]? = some (.int .i64 ([n.a, n.b, n.c].getD k 0)) := by
        rw [Nat.zero_add, Nat.mul_one]
        match k, hk3 with
        | 0, _ => rfl
        | 1, _ => rfl
        | 2, _ => rfl
      generalize hq : [n.a, n.b, n.c].getD k 0 = x at hx p1 p2
      have hb := hΦ x
      have il := itoa_len (n := Φ x) (by omega) (by omega)
      obtain ⟨qq, x1, x2⟩ := h.rd p1 p2
      have ci := c_itoa hT1 (n := Φ x) (by omega) (by omega)
      have sp1 := sp_ba (itoa (Φ x)) (by omega) (α := Outc)
      obtain ⟨buf1, H1, e1, h1⟩ := h.str (sp (itoa (Φ x))) (by rw [spl]; omega)
      have hloc : ∀ (f : Nat → Option Outc), pIdxLoc 3 (.int .i64 (k : Int)) f = f k := fun f => by
        unfold pIdxLoc
        dsimp only
        rw [if_pos (by omega)]; rfl
      have hcell : ∀ (f : Value → Option Outc), pCell 1 false [Value.int .i64 n.a, .int .i64 n.b, .int .i64 n.c] (0 + k * 1) f = f (.int .i64 x) := fun f => s_cell _ _ _ hx f
      have wk : IntKind.i64.wrap ((k : Int) + 1) = ((k + 1 : Nat) : Int) := i64_wrap (by omega) (by omega)
      have t1 : decide (((112 : UInt8).toNat : Int) = 112) = true := by decide
      obtain ⟨H', buf', k', e2, h2⟩ := loopF hN hΦ hp cs hcs r (i + 1) (k + 1) H1 _ buf1 hd1 (by omega) (by omega) h1 (by rw [List.length_append, spl]; omega)
      refine ⟨H', buf', k', ?_, by rw [act_p, hq, ← List.append_assoc]; exact h2⟩
      rw [loopD_eq]
      have : s_cadenceref07_Store_Dump_1 RR av (.string (ba cs)) n.cells [.int .i64 n.a, .int .i64 n.b, .int .i64 n.c] [buf, .int .i64 (k : Int), .int .i64 (i : Int)] H = some (.next, [buf1, .int .i64 ((k + 1 : Nat) : Int), .int .i64 ((i + 1 : Nat) : Int)], H1) := by
        unfold s_cadenceref07_Store_Dump_1
        simp only [List.getD_cons_succ, List.getD_cons_zero, hlen, s_lss, q, decide_true, s_bool, s_brt, hat, s_eql, t1, hloc, hcell, x1, x2, s_call ci, sp1, e1, s_add, wk, w1]
      rw [this]; exact e2
    have f1 : decide ((c.toNat : Int) = 112) = false := decide_eq_false (u8_ne c1)
    have hcn : cnt (c :: r) = cnt r := by
      unfold cnt
      rw [List.filter_cons_of_neg (by simpa using c1)]
    by_cases c2 : c = 110
    · subst c2
      have ct := c_refText n.num.toNat (by omega) H
      rw [num_int hnum.1] at ct
      have sp1 := sp_ba (numT n.num.toNat) (by omega) (α := Outc)
      obtain ⟨buf1, H1, e1, h1⟩ := h.str (sp (numT n.num.toNat)) (by rw [spl]; omega)
      have t1 : decide (((110 : UInt8).toNat : Int) = 110) = true := by decide
      obtain ⟨H', buf', k', e2, h2⟩ := loopF hN hΦ hp cs hcs r (i + 1) k H1 _ buf1 hd1 (by omega) (by omega) h1 (by rw [List.length_append, spl]; omega)
      refine ⟨H', buf', k', ?_, by rw [act_n, ← List.append_assoc]; exact h2⟩
      rw [loopD_eq]
      have : s_cadenceref07_Store_Dump_1 RR av (.string (ba cs)) n.cells [.int .i64 n.a, .int .i64 n.b, .int .i64 n.c] [buf, .int .i64 (k : Int), .int .i64 (i : Int)] H = some (.next, [buf1, .int .i64 (k : Int), .int .i64 ((i + 1 : Nat) : Int)], H1) := by
        unfold s_cadenceref07_Store_Dump_1
        simp only [List.getD_cons_succ, List.getD_cons_zero, hlen, s_lss, q, decide_true, s_bool, s_brt, s_brf, hat, s_eql, f1, t1, ncell5, s_call ct, sp1, e1, s_add, w1]
      rw [this]; exact e2
    have f2 : decide ((c.toNat : Int) = 110) = false := decide_eq_false (u8_ne c2)
    by_cases c3 : c = 119
    · subst c3
      have ci := c_itoa hT1 (n := n.w) (by omega) (by omega)
      have sp1 := sp_ba (itoa n.w) (by omega) (α := Outc)
      obtain ⟨buf1, H1, e1, h1⟩ := h.str (sp (itoa n.w)) (by rw [spl]; omega)
      have t1 : decide (((119 : UInt8).toNat : Int) = 119) = true := by decide
      obtain ⟨H', buf', k', e2, h2⟩ := loopF hN hΦ hp cs hcs r (i + 1) k H1 _ buf1 hd1 (by omega) (by omega) h1 (by rw [List.length_append, spl]; omega)
      refine ⟨H', buf', k', ?_, by rw [act_w, ← List.append_assoc]; exact h2⟩
      rw [loopD_eq]
      have : s_cadenceref07_Store_Dump_1 RR av (.string (ba cs)) n.cells [.int .i64 n.a, .int .i64 n.b, .int .i64 n.c] [buf, .int .i64 (k : Int), .int .i64 (i : Int)] H = some (.next, [buf1, .int .i64 (k : Int), .int .i64 ((i + 1 : Nat) : Int)], H1) := by
        unfold s_cadenceref07_Store_Dump_1
        simp only [List.getD_cons_succ, List.getD_cons_zero, hlen, s_lss, q, decide_true, s_bool, s_brt, s_brf, hat, s_eql, f1, f2, t1, ncell1, s_call ci, sp1, e1, s_add, w1]
      rw [this]; exact e2
    have f3 : decide ((c.toNat : Int) = 119) = false := decide_eq_false (u8_ne c3)
    by_cases c4 : c = 115
    · subst c4
      have sp1 : ∀ (k : Value → Option Outc), pBin PP .add T.string (.string ⟨#[32]⟩) (.string n.name) k = k (.string (ba (sp n.name.data.toList))) := fun k => by
        have := sp_ba n.name.data.toList (by omega) k
        rw [show ba n.name.data.toList = n.name from (fba_eq rfl).symm] at this
        exact this
      obtain ⟨buf1, H1, e1, h1⟩ := h.str (sp n.name.data.toList) (by rw [spl]; omega)
      have t1 : decide (((115 : UInt8).toNat : Int) = 115) = true := by decide
      obtain ⟨H', buf', k', e2, h2⟩ := loopF hN hΦ hp cs hcs r (i + 1) k H1 _ buf1 hd1 (by omega) (by omega) h1 (by rw [List.length_append, spl]; omega)
      refine ⟨H', buf', k', ?_, by rw [act_s, ← List.append_assoc]; exact h2⟩
      rw [loopD_eq]
      have : s_cadenceref07_Store_Dump_1 RR av (.string (ba cs)) n.cells [.int .i64 n.a, .int .i64 n.b, .int .i64 n.c] [buf, .int .i64 (k : Int), .int .i64 (i : Int)] H = some (.next, [buf1, .int .i64 (k : Int), .int .i64 ((i + 1 : Nat) : Int)], H1) := by
        unfold s_cadenceref07_Store_Dump_1
        simp only [List.getD_cons_succ, List.getD_cons_zero, hlen, s_lss, q, decide_true, s_bool, s_brt, s_brf, hat, s_eql, f1, f2, f3, t1, ncell6, sp1, e1, s_add, w1]
      rw [this]; exact e2
    have f4 : decide ((c.toNat : Int) = 115) = false := decide_eq_false (u8_ne c4)
    obtain ⟨H', buf', k', e2, h2⟩ := loopF hN hΦ hp cs hcs r (i + 1) k H s buf hd1 (by omega) (by omega) h (by omega)
    have ea : act Φ n (c :: r) k = act Φ n r k := by
      show (if c = 112 then _ else if c = 110 then _ else if c = 119 then _ else if c = 115 then _ else _) = _
      rw [if_neg c1, if_neg c2, if_neg c3, if_neg c4]
    refine ⟨H', buf', k', ?_, by rw [ea]; exact h2⟩
    rw [loopD_eq]
    have : s_cadenceref07_Store_Dump_1 RR av (.string (ba cs)) n.cells [.int .i64 n.a, .int .i64 n.b, .int .i64 n.c] [buf, .int .i64 (k : Int), .int .i64 (i : Int)] H = some (.next, [buf, .int .i64 (k : Int), .int .i64 ((i + 1 : Nat) : Int)], H) := by
      unfold s_cadenceref07_Store_Dump_1
      simp only [List.getD_cons_succ, List.getD_cons_zero, hlen, s_lss, q, decide_true, s_bool, s_brt, s_brf, hat, s_eql, f1, f2, f3, f4, s_add, w1]
    rw [this]; exact e2
end
end Go.AM
/- Dump: the document's Dump, whole; TermDumps. -/
set_option linter.unusedVariables false
set_option linter.unusedSimpArgs false
set_option maxRecDepth 100000
namespace Go.AM
open Go
theorem cnt_fl {op : Int} (h : 1 ≤ op ∧ op ≤ 33) : cnt (fl op) + 0 ≤ 3 := by
  have := partsT_nn op
  unfold fl
  split
  · decide
  · split
    · decide
    · split
      · decide
      · split
        · decide
        · split
          · decide
          · rcases partsT_cases op with q | q | q | q <;> rw [q] <;> decide
section
variable {B : Hp} {a p f g : Nat} {av : Value} {lim : Int} {L : List Nd} {K : List (ByteArray × Int)} {sl : Value} (hT : Tabs B) (hn : PP.globals.size ≤ B.next) (hst : StF B p lim L K sl f g) (hd : Dag L) (hL : L.length * 64 ≤ 2 ^ 46) (hN : ∀ m ∈ L, NdTxt m)
include hT hn hst hd hL hN
theorem stepM {out : List Nat} {v : Value} (hv : Rdb B 1 v out.length (ints out)) (hout : ∀ t ∈ out, 1 ≤ t ∧ t ≤ L.length) (hol : out.length ≤ 2 ^ 41) {i : Nat} {t : Nat} (hi : out[i]? = some t) {H : Hp} {s : List UInt8} {buf : Value} {Φ : Int → Int} (h : DR B H a L.length av s buf Φ)
    (hΦ : ∀ t, 0 ≤ Φ t ∧ Φ t ≤ 2 ^ 42) (hl : s.length + 1000 ≤ 2 ^ 46) :
    ∃ H' buf', s_cadenceref07_Store_Dump_2 RR (.pointer (some ⟨p, 0, none⟩)) v av [buf, .int .i64 (i : Int)] H = some (.next, [buf', .int .i64 ((i + 1 : Nat) : Int)], H') ∧
      DR B H' a L.length av (s ++ line wordL (upF Φ t ((i + 1 : Nat) : Int)) i (nodeT L t)) buf' (upF Φ t ((i + 1 : Nat) : Int)) ∧ (∀ x, 0 ≤ upF Φ t ((i + 1 : Nat) : Int) x ∧ upF Φ t ((i + 1 : Nat) : Int) x ≤ 2 ^ 42) := by
  have hlt : i < out.length := (List.getElem?_eq_some_iff.1 hi).1
  obtain ⟨t1, t2⟩ := hout t (List.mem_of_getElem? hi)
  have hΨ : ∀ x, 0 ≤ upF Φ t ((i + 1 : Nat) : Int) x ∧ upF Φ t ((i + 1 : Nat) : Int) x ≤ 2 ^ 42 := fun x => by
    unfold upF
    split
    · omega
    · exact hΦ x
  obtain ⟨qp, H1, u0, u1, h1⟩ := h.put (t := t) t2 ((i + 1 : Nat) : Int)
  generalize hψ : upF Φ (t : Int) ((i + 1 : Nat) : Int) = Ψ at h1 hΨ
  obtain ⟨y, hy, ⟨rest, own, hgy⟩, hixv⟩ := hv.ix hlt
  have hya := hv.lt hy
  have hcy : (ints out)[i * 1]? = some (.int .i64 (t : Int)) := by
    unfold ints
    rw [Nat.mul_one, List.getElem?_map, hi]; rfl
  have x1 : ∀ (k : Value → Option Outc), pIdx 1 v (.int .i64 (i : Int)) k = k (.pointer (some ⟨y, i * 1, none⟩)) := fun k => hixv _ .i64 k
  have x2 : ∀ (k : Value → Option Outc), pLoad 1 false H (.pointer (some ⟨y, i * 1, none⟩)) k = k (.int .i64 (t : Int)) := fun k => ld_cell (by rw [h.old y hya]; exact hgy) hcy k
  have x4 : ∀ (k : Value → Option Outc), pLoad 1 false H1 (.pointer (some ⟨y, i * 1, none⟩)) k = k (.int .i64 (t : Int)) := fun k => ld_cell (by rw [h1.old y hya]; exact hgy) hcy k
  have q : (i : Int) < (out.length : Int) := by omega
  have w1 : IntKind.i64.wrap ((i : Int) + 1) = ((i + 1 : Nat) : Int) := i64_wrap (by omega) (by omega)
  have w2 : IntKind.i64.wrap ((t : Int) - 1) = ((t - 1 : Nat) : Int) := by rw [i64_wrap (by omega) (by omega)]; omega
  have hst1 : StF H1 p lim L K sl f g := hst.keep (fun i hi => h1.old i (hst.foot_lt hi)) h1.next
  obtain ⟨n, hnn⟩ : ∃ n, L[t - 1]? = some n := ⟨_, List.getElem?_eq_getElem (by omega)⟩
  have hnd : nodeT L t = n := by unfold nodeT; rw [hnn]; rfl
  have hNn := hN n (List.mem_of_getElem? hnn)
  have hp : ∀ k : Nat, k < 3 → 0 ≤ [n.a, n.b, n.c].getD k 0 ∧ [n.a, n.b, n.c].getD k 0 ≤ (L.length : Int) := fun k hk => by
    have ha := hd.a (t - 1) n hnn
    have hb := hd.b (t - 1) n hnn
    have hc := hd.c (t - 1) n hnn
    match k, hk with
    | 0, _ => show 0 ≤ n.a ∧ n.a ≤ _; omega
    | 1, _ => show 0 ≤ n.b ∧ n.b ≤ _; omega
    | 2, _ => show 0 ≤ n.c ∧ n.c ≤ _; omega
  obtain ⟨sl', hsl, hix⟩ := hst1.st.all.ix (i := t - 1) (by omega) (α := Outc)
  have ci := c_itoa (h1.tabs hT hn) (n := ((i + 1 : Nat) : Int)) (by omega) (by omega)
  have il := itoa_len (n := ((i + 1 : Nat) : Int)) (by omega) (by omega)
  have wl := word_len n.op
  have cat1 : ∀ (k : Value → Option Outc), pBin PP .add T.string (.string (ba (Go.Lib.itoa ((i + 1 : Nat) : Int)))) (.string ⟨#[32]⟩) k = k (.string (ba (itoa ((i + 1 : Nat) : Int) ++ [32]))) := fun k => s_catL _ (itoa ((i + 1 : Nat) : Int)) [32] (by rw [List.length_singleton]; omega) k
  have cat2 : ∀ (k : Value → Option Outc), pBin PP .add T.string (.string (ba (itoa ((i + 1 : Nat) : Int) ++ [32]))) (.string (ba (word wordL n.op))) k = k (.string (ba (itoa ((i + 1 : Nat) : Int) ++ [32] ++ word wordL n.op))) := fun k => s_catL _ _ _ (by rw [List.length_append, List.length_singleton]; omega) k
  have cw := refWord hNn.op H1
  obtain ⟨buf2, H2, e1, h2⟩ := h1.str (itoa ((i + 1 : Nat) : Int) ++ [32] ++ word wordL n.op) (by rw [List.length_append, List.length_append, List.length_singleton]; omega)
  have cf := c_fields hNn.op H2
  have hfl := fl_len n.op
  have hal := act_len hNn hΨ (fl n.op) 0
  have hl2 : (s ++ (itoa ((i + 1 : Nat) : Int) ++ [32] ++ word wordL n.op)).length ≤ s.length + 46 := by rw [List.length_append, List.length_append, List.length_append, List.length_singleton]; omega
  have hline : s ++ line wordL Ψ i n = (s ++ (itoa ((i + 1 : Nat) : Int) ++ [32] ++ word wordL n.op)) ++ act Ψ n (fl n.op) 0 ++ [10] := by
    unfold line
    simp only [List.append_assoc]
  rw [hnd, hline]
  generalize (s ++ (itoa ((i + 1 : Nat) : Int) ++ [32] ++ word wordL n.op)) = s2 at h2 hl2
  obtain ⟨H3, buf3, k3, lp, h3⟩ := loopF hT hn hNn hΨ hp (fl n.op) (by omega) (fl n.op) 0 0 H2 s2 buf2 rfl (by omega) (cnt_fl hNn.op) h2 (by omega)
  rw [show ((0 : Nat) : Int) = 0 from rfl] at lp
  obtain ⟨v4, H4, buf5, H5, e4, e5, h5⟩ := h3.byte (by rw [List.length_append]; omega)
  refine ⟨H5, buf5, ?_, h5, hΨ⟩
  unfold s_cadenceref07_Store_Dump_2
  simp only [List.getD_cons_succ, List.getD_cons_zero, hv.len, s_lss, q, decide_true, s_bool, s_brt, x1, x2, s_add, w1, u0, u1, s_nil, s_offs, Nat.zero_add, hst1.st.l1, x4, s_sub, w2, hix, ld7 hsl hnn, spl7, s_call ci, cat1, ncell0, s_call cw, cat2, e1, ncell2, ncell3, ncell4, s_build3, spl3, s_call cf, lp, s_bind, s_exit, s_onExit, e4, e5]
theorem loopM {out : List Nat} {v : Value} (hv : Rdb B 1 v out.length (ints out)) (hout : ∀ t ∈ out, 1 ≤ t ∧ t ≤ L.length) (hol : out.length ≤ 2 ^ 30) : ∀ (k i : Nat) (H : Hp) (s : List UInt8) (buf : Value) (Φ : Int → Int), i + k = out.length → DR B H a L.length av s buf Φ →
    (∀ t, 0 ≤ Φ t ∧ Φ t ≤ 2 ^ 42) → s.length + 200 * k + 1000 ≤ 2 ^ 46 →
    ∃ H' buf', loopD (s_cadenceref07_Store_Dump_2 RR (.pointer (some ⟨p, 0, none⟩)) v av) [buf, .int .i64 (i : Int)] H = some (.exit 0, [buf', .int .i64 (out.length : Int)], H') ∧
      DR B H' a L.length av (s ++ linesT wordL L i (out.drop i) Φ) buf' (linesF i (out.drop i) Φ) ∧ (∀ t, 0 ≤ linesF i (out.drop i) Φ t ∧ linesF i (out.drop i) Φ t ≤ 2 ^ 42) ∧ (linesT wordL L i (out.drop i) Φ).length ≤ 200 * k
  | 0, i, H, s, buf, Φ, hi, h, hΦ, hl => by
    have : i = out.length := by omega
    subst this
    rw [List.drop_of_length_le (Nat.le_refl _)]
    refine ⟨H, buf, ?_, by unfold linesT linesF; rw [List.append_nil]; exact h, hΦ, Nat.zero_le _⟩
    rw [loopD_eq]
    have : s_cadenceref07_Store_Dump_2 RR (.pointer (some ⟨p, 0, none⟩)) v av [buf, .int .i64 (out.length : Int)] H = some (.exit 0, [buf, .int .i64 (out.length : Int)], H) := by
      unfold s_cadenceref07_Store_Dump_2
      simp only [hv.len, s_lss, s_bool, s_brf, List.getD_cons_zero, List.getD_cons_succ, Int.lt_irrefl, decide_false]
    rw [this]; rfl
  | k + 1, i, H, s, buf, Φ, hi, h, hΦ, hl => by
    have hlt : i < out.length := by omega
    have hg : out[i]? = some out[i] := List.getElem?_eq_getElem hlt
    obtain ⟨t1, t2⟩ := hout out[i] (List.getElem_mem hlt)
    have hdr : out.drop i = out[i] :: out.drop (i + 1) := List.drop_eq_getElem_cons hlt
    obtain ⟨H1, buf1, e1, h1, hΨ⟩ := stepM hT hn hst hd hL hN hv hout (by omega) hg h hΦ (by omega)
    have hnd : NdTxt (nodeT L out[i]) := by
      unfold nodeT
      have : L[out[i] - 1]? = some (L[out[i] - 1]'(by omega)) := List.getElem?_eq_getElem _
      rw [this]
      exact hN _ (List.getElem_mem _)
    have hll := line_len hnd hΨ (i := i) (by omega)
    obtain ⟨H', buf', e2, h2, h3, h4⟩ := loopM hv hout hol k (i + 1) H1 _ buf1 _ (by omega) h1 hΨ (by rw [List.length_append]; omega)
    rw [hdr]
    refine ⟨H', buf', ?_, ?_, h3, ?_⟩
    · rw [loopD_eq, e1]; exact e2
    · rw [List.append_assoc] at h2; exact h2
    · unfold linesT
      rw [List.length_append]
      omega
omit hst hd hL hN in
theorem loopS {N : Nat} {x : Value} {rs : List Int} (hx : Rdb B 1 x rs.length (intsI rs)) (hrl : rs.length ≤ 2 ^ 30) (hrs : ∀ r ∈ rs, 0 ≤ r ∧ r ≤ (N : Int)) {Φ : Int → Int} (hΦ : ∀ t, 0 ≤ Φ t ∧ Φ t ≤ 2 ^ 42) : ∀ (k i : Nat) (H : Hp) (s : List UInt8) (buf : Value), i + k = rs.length → DR B H a N av s buf Φ → s.length + 200 * k + 1000 ≤ 2 ^ 46 →
    ∃ H' buf', loopD (s_cadenceref07_Store_Dump_3 RR x av) [buf, .int .i64 (i : Int)] H = some (.exit 5, [buf', .int .i64 (rs.length : Int)], H') ∧ DR B H' a N av (s ++ rootsT Φ (rs.drop i)) buf' Φ ∧ (rootsT Φ (rs.drop i)).length ≤ 200 * k
  | 0, i, H, s, buf, hi, h, hl => by
    have : i = rs.length := by omega
    subst this
    rw [List.drop_of_length_le (Nat.le_refl _)]
    refine ⟨H, buf, ?_, by unfold rootsT; rw [List.flatMap_nil, List.append_nil]; exact h, by simp [rootsT]⟩
    rw [loopD_eq]
    have : s_cadenceref07_Store_Dump_3 RR x av [buf, .int .i64 (rs.length : Int)] H = some (.exit 5, [buf, .int .i64 (rs.length : Int)], H) := by
      unfold s_cadenceref07_Store_Dump_3
      simp only [hx.len, s_lss, s_bool, s_brf, List.getD_cons_zero, List.getD_cons_succ, Int.lt_irrefl, decide_false]
    rw [this]; rfl
  | k + 1, i, H, s, buf, hi, h, hl => by
    have hlt : i < rs.length := by omega
    have hg : rs[i]? = some rs[i] := List.getElem?_eq_getElem hlt
    have hd : rs.drop i = rs[i] :: rs.drop (i + 1) := List.drop_eq_getElem_cons hlt
    have hxH : Rdb H 1 x rs.length (intsI rs) := hx.keep' (fun j hj => h.old j (hx.lt hj)) h.next
    obtain ⟨y, x1, x2⟩ := hxH.int hg
    have hb := hΦ rs[i]
    obtain ⟨r1, r2⟩ := hrs rs[i] (List.getElem_mem hlt)
    obtain ⟨qq, x3, x4⟩ := h.rd r1 r2
    have ci := c_itoa (h.tabs hT hn) (n := Φ rs[i]) (by omega) (by omega)
    have il := itoa_len (n := Φ rs[i]) (by omega) (by omega)
    have spl : (sp (itoa (Φ rs[i]))).length = (itoa (Φ rs[i])).length + 1 := rfl
    have sp1 := sp_ba (itoa (Φ rs[i])) (by omega) (α := Outc)
    obtain ⟨buf1, H1, e1, h1⟩ := h.str (sp (itoa (Φ rs[i]))) (by omega)
    obtain ⟨H', buf', e2, h2, h4⟩ := loopS hx hrl hrs hΦ k (i + 1) H1 _ buf1 (by omega) h1 (by rw [List.length_append, spl]; omega)
    rw [hd]
    have w1 : IntKind.i64.wrap ((i : Int) + 1) = ((i + 1 : Nat) : Int) := i64_wrap (by omega) (by omega)
    have q : (i : Int) < (rs.length : Int) := by omega
    refine ⟨H', buf', ?_, ?_, ?_⟩
    · rw [loopD_eq]
      have : s_cadenceref07_Store_Dump_3 RR x av [buf, .int .i64 (i : Int)] H = some (.next, [buf1, .int .i64 ((i + 1 : Nat) : Int)], H1) := by
        unfold s_cadenceref07_Store_Dump_3
        simp only [hx.len, s_lss, s_bool, s_brt, List.getD_cons_zero, List.getD_cons_succ, q, decide_true, x1, x2, x3, x4, s_call ci, sp1, e1, s_add, w1]
      rw [this]; exact e2
    · rw [List.append_assoc] at h2; exact h2
    · unfold rootsT at h4 ⊢
      rw [List.flatMap_cons, List.length_append]
      omega
end
theorem DR.text {B H : Hp} {a N : Nat} {av : Value} {s : List UInt8} {buf : Value} {Φ : Int → Int} (h : DR B H a N av s buf Φ) {α : Type} (k : Value → Option α) : pToStr buf H k = k (.string (ba s)) := by
  obtain ⟨j, hb, _⟩ := h.buf
  rcases hb with ⟨_, rfl, rfl⟩ | ⟨y, g1, g2, g3, g4, rfl, g6, g7⟩
  · rfl
  · rw [to_str g6 (by omega)]
    rw [List.drop_zero, List.take_of_length_le (Nat.le_refl _)]
theorem ask_in {L : List Nd} {rs : List Int} (h : (orderR L rs).1 = 0) : ∀ r ∈ rs, 0 ≤ r ∧ r ≤ (L.length : Int) := by
  unfold orderR at h
  by_cases q : rs.all (isT L) = true
  · intro r hr
    have := isT_iff.1 (List.all_eq_true.1 q r hr)
    omega
  · rw [if_neg q] at h; exact absurd h (by decide)
section
variable {H0 : Hp} {p f g : Nat} {lim : Int} {L : List Nd} {K : List (ByteArray × Int)} {sl : Value} (hT : Tabs H0) (hn : PP.globals.size ≤ H0.next) (hst : StF H0 p lim L K sl f g) (hd : Dag L) (hN : ∀ m ∈ L, NdTxt m) (hL : L.length ≤ 2 ^ 30) {x : Value} {rs : List Int} (hx : Rdb H0 1 x rs.length (intsI rs)) (hl : rs.length ≤ 2 ^ 30)
include hT hn hst hd hN hL hx hl
theorem c_dumpR : ∃ H', RR F.cadenceref07_Store_Dump [.pointer (some ⟨p, 0, none⟩), x] H0 = some (.tuple #[.string (ba (dumpR L rs)), .int .i64 (orderR L rs).1], H') := by
  obtain ⟨H2, v, a1, a2⟩ := c14 hst hd (by omega) hx (by omega)
  have hbd := orderR_bd hd rs
  have hin := orderR_in hd rs
  have hrg := ask_in (L := L) (rs := rs)
  have hr := (r_cadenceref07_Store_Dump E0 rfl (.pointer (some ⟨p, 0, none⟩)) x H0).trans (k_cadenceref07_Store_Dump _ _ _ _)
  unfold dumpR
  generalize (orderR L rs).1 = e at *
  generalize (orderR L rs).2 = out at *
  rw [s_call a1, s_ext0, s_ext1, s_neq, s_bool] at hr
  by_cases he : e = 0
  · subst he
    rw [decide_eq_false (by simp), s_brf] at hr
    have hst2 : StF H2 p lim L K sl f g := hst.keep (fun i hi => a2.old i (hst.foot_lt hi)) a2.next
    have hT2 := hT.old hn a2.old
    have hn2 : PP.globals.size ≤ H2.next := Nat.le_trans hn a2.next
    have hx2 : Rdb H2 1 x rs.length (intsI rs) := hx.keep' (fun j hj => a2.old j (hx.lt hj)) a2.next
    obtain ⟨av, em, ev, ei⟩ := Vec.make H2 (sz := 1) (bytes := 8) (zs := [.int .i64 0]) rfl (n := L.length + 1) (by omega)
    have hav : ∃ j, Id av j := by
      obtain ⟨y, hy, _⟩ := ev.ix (i := 0) (by omega)
      exact ⟨y, hy⟩
    obtain ⟨j0, hj0⟩ := hav
    have hrep : repl (L.length + 1) [.int .i64 0] = cellsF L.length (fun _ => 0) := by
      unfold cellsF
      generalize L.length + 1 = n
      have : ∀ n : Nat, repl n [.int .i64 0] = List.replicate n (Value.int .i64 0) := fun n => by
        induction n with
        | zero => rfl
        | succ n ih => show [.int .i64 0] ++ repl n _ = _; rw [ih]; rfl
      rw [this]
      unfold intsI
      rw [List.map_map]
      apply List.ext_getElem?
      intro j
      rw [List.getElem?_map, List.getElem?_replicate]
      by_cases hj : j < n
      · rw [List.getElem?_range hj, if_pos hj]; rfl
      · rw [List.getElem?_eq_none (by simp; omega), if_neg hj]; rfl
    rw [hrep] at ev em
    generalize hHA : H2.new (.cells (cellsF L.length fun _ => 0) true) = HA at ev em
    have hgA : ∀ k, k < H2.next → HA.get k = H2.get k := fun k hk => by rw [← hHA, get_new, if_neg (by omega)]
    have hnA : HA.next = H2.next + 1 := by rw [← hHA]; rfl
    have st : DR H2 HA H2.next L.length av [] (.slice none 0 0) (fun _ => 0) :=
      ⟨by omega, hgA, fun j => ⟨ei j, fun q => by rw [q, ← ei j0 hj0]; exact hj0⟩, Nat.le_refl _, ev, none, .inl ⟨rfl, rfl, rfl⟩, fun y hy => by cases hy⟩
    obtain ⟨H3, buf3, l1, d1, hΦ, len1⟩ := loopM hT2 hn2 hst2 hd (by omega) hN a2.vec.rd hin (by omega) out.length 0 HA [] _ _ (by omega) st (fun t => by constructor <;> decide) (by simp; omega)
    rw [List.drop_zero, List.nil_append] at d1
    rw [List.drop_zero] at hΦ len1
    obtain ⟨buf4, H4, e4, d4⟩ := d1.str [114, 111, 111, 116, 115] (by simp; omega)
    obtain ⟨H5, buf5, l2, d5, len2⟩ := loopS hT2 hn2 hx2 hl (hrg rfl) hΦ rs.length 0 H4 _ buf4 (by omega) d4 (by rw [List.length_append]; simp; omega)
    rw [List.drop_zero] at d5 len2
    obtain ⟨v6, H6, buf7, H7, e6, e7, d7⟩ := d5.byte (by rw [List.length_append, List.length_append]; simp; omega)
    have hlen := hst2.st.all
    have wL : IntKind.i64.wrap ((L.length : Int) + 1) = ((L.length + 1 : Nat) : Int) := i64_wrap (by omega) (by omega)
    have e4' : ∀ (k : Value → Hp → Option (Value × Hp)), pAppendT T.uint8 1 1 buf3 (.string ⟨#[114, 111, 111, 116, 115]⟩) H3 k = k buf4 H4 := fun k => e4 _ k
    refine ⟨H7, hr.trans ?_⟩
    rw [s_nil, s_offs, hst2.st.l1, hlen.len, s_add, wL, em]
    rw [show ((0 : Nat) : Int) = 0 from rfl] at l1 l2
    rw [l1, s_bind, s_exit, s_onExit]
    simp only [List.getD_cons_zero]
    rw [e4', l2, s_bind, s_exit, s_onExit, e6]
    simp only [List.getD_cons_zero]
    rw [e7, d7.text, if_pos trivial]
    rfl
  · rw [decide_eq_true (by simpa using he), s_brt] at hr
    rw [if_neg he]
    exact ⟨H2, hr⟩
end
/-- TermDumps, run. -/
theorem run9 (lim : Int) (os : List OpA) (hf : Fine os) (hos : os.length ≤ 2 ^ 20) (x y : Value) (rs : List Int) (H : Hp) (hT : Tabs H) (hn : PP.globals.size ≤ H.next) (hx : ScR H x os) (hy : Rdb H 1 y rs.length (intsI rs)) (hrs : rs.length ≤ 2 ^ 20) : ∃ H', RR F.cadencelaw07_TermDumps [.int .i64 lim, x, y] H = some (.bool true, H') := by
  have hr := r_cadencelaw07_TermDumps E0 rfl (.int .i64 lim) x y H
  unfold m_cadencelaw07_TermDumps at hr
  by_cases hl : lim < 0
  · rw [s_call (c8_neg lim x H hl), s_t3a, s_t3b, s_t3c, s_pnil0 T.p_term_Store und23, s_bool, s_brt] at hr
    exact ⟨_, hr⟩
  · obtain ⟨H2, p, f, g, s1, q, f', g', s2, e8, hw⟩ := c8_pos lim os hf x H hx hl
    rw [s_call e8, s_t3a, s_t3b, s_t3c, s_pnil T.p_term_Store _ und23, s_bool, s_brf] at hr
    have hll := hw.l
    have htwo := hw.two
    have hd := run_dag (lim := lim) os [] [] Dag.nil
    have hN := run_txt (lim := lim) os [] [] hf.ok (fun m hm => by cases hm)
    have hy2 : Rdb H2 1 y rs.length (intsI rs) := hy.keep' (fun j hj => hw.old j (hy.lt hj)) hw.next
    have hT2 : Tabs H2 := hT.old hn hw.old
    have hn2 : PP.globals.size ≤ H2.next := Nat.le_trans hn hw.next
    clear hw
    generalize (runR lim os [] []).1 = L at hll htwo hd hN
    generalize (runR lim os [] []).2 = K at htwo
    have sa := htwo.a
    have sb := htwo.b
    obtain ⟨m1, m2⟩ := Vec.empty H2 1 [.int .i64 0]
    have o0 : Own H2 (H2.new (.cells [] true)) [⟨1, .slice (some ⟨H2.next, 0, some 1⟩) 0 0, 0, []⟩] := (Own.nil H2).add (a := ⟨1, .slice (some ⟨H2.next, 0, some 1⟩) 0 0, 0, []⟩) m2 (fr_new _ _ _) fun j hj => by cases hj; exact Nat.le_refl _
    have rd : ∀ {Hx : Hp} {r : List Sl}, Own H2 Hx r → Rdb Hx 1 y rs.length (intsI rs) := fun o => hy2.keep' (fun j hj => o.old j (hy2.lt hj)) o.next
    obtain ⟨v10, H3, m3, m4, m5, m6⟩ := o0.head.app (bytes := 8) (rd o0) (intsI_one rs) (by dsimp only; omega)
    dsimp only at m3 m4
    rw [Nat.zero_add, List.nil_append] at m4
    have o1 : Own H2 H3 [⟨1, v10, rs.length, intsI rs⟩] := o0.upd (a' := ⟨1, v10, rs.length, intsI rs⟩) m4 m5 m6
    have hT3 : Tabs H3 := hT2.old hn2 o1.old
    have hn3 : PP.globals.size ≤ H3.next := Nat.le_trans hn2 o1.next
    obtain ⟨H4, a1, a2, a3⟩ := c_dump hT3 hn3 (Own.st o1 sa) hd hN (by omega) m4.rd (by omega)
    have sb3 := Own.st o1 sb
    have sb4 : StF H4 q lim L K s2 f' g' := sb3.keep (fun i hi => a3 i (sb3.foot_lt hi)) a2
    have rd3 := rd o1
    obtain ⟨H5, b1⟩ := c_dumpR (hT3.old hn3 a3) (Nat.le_trans hn3 a2) sb4 hd hN (by omega) (rd3.keep' (fun j hj => a3 j (rd3.lt hj)) a2) (by omega)
    refine ⟨H5, hr.trans ?_⟩
    have hse : ∀ (k : Value → Option (Value × Hp)), pBin PP .eql T.string (.string (ba (dumpR L rs))) (.string (ba (dumpR L rs))) k = k (.bool true) := fun k => by
      show k (.bool ((ba (dumpR L rs)).toList == (ba (dumpR L rs)).toList)) = _
      rw [beq_self_eq_true]
    rw [m1, m3, s_call a1, s_ext0, s_ext1, s_call b1, s_ext0, s_ext1, hse, s_bool, s_brt, s_eql, decide_eq_true rfl]
end Go.AM
/- The Term seat: arguments that are lists of numbers. -/
set_option linter.unusedVariables false
set_option maxRecDepth 100000
set_option linter.unusedSimpArgs false
namespace Go.AM
open Go Go.ChangeShapes Go.WideShapes Go.ChangeAt Go.RowKit
theorem flat3 : flat PP 1 T.int = some [.int .i64] := by kernel_rfl
theorem intDec (l : List Value) (h : OkL [.int .i64] l) : ∃ o : Int, [Value.int .i64 o] = l ∧ (IntKind.i64.min ≤ o ∧ o ≤ IntKind.i64.max) := by
  obtain ⟨hl, hh⟩ := h
  obtain ⟨v, l, rfl, hl2⟩ := consL hl
  obtain ⟨_, e, n, rfl, p, q⟩ := hh 0 _ rfl
  cases e
  have : l = [] := by cases l with | nil => rfl | cons a t => cases hl2
  subst this
  exact ⟨n, rfl, p, q⟩
theorem ints_arg {HH : Type} {enc : TypeId × Value → HH} {W : World} {H : Hp} {β : Bt} (hR : Rel PP W H β) (hno : ∀ i o, H.get i = some o → o.own = false) {b0 : Nat} {v' : Value} {dw : DataW HH} {ps : List MemPlace}
    (hval : Value.okWide PP W .any b0 T.sl_int v') (hd : DataW.Trod enc PP W 0 (fun _ => true) true T.sl_int v' dw ps) :
    ∃ (v : Value) (H' : Hp) (β' : Bt) (os : List Int), Rel PP W H' β' ∧ (∀ i o, H'.get i = some o → o.own = false) ∧ β.le β' ∧ VRel β' v v' ∧ Rdb H' 1 v os.length (intsI os) ∧ (∀ o ∈ os, IntKind.i64.min ≤ o ∧ o ≤ IntKind.i64.max) ∧ os.length ≤ Go.Proofs.YtkfhklmklhnfaaaDoor.Rows.uptoBulk dw ∧ Frm (fun _ => False) H H' := by
  obtain ⟨v, H', β', g1, g2, g3, g4, g5⟩ := arg_flats (P := PP) (t := T.sl_int) (e := T.int) (d := 1) (ks := [.int .i64]) (by kernel_rfl) flat3 (by kernel_rfl) (by decide) hR hno hval hd
  rcases g5 with ⟨rfl, rfl, rfl⟩ | ⟨L, es, sp, rfl, rfl, h1, rfl, h2⟩
  · exact ⟨_, _, β', [], g1, g2, g3, g4, .inl ⟨rfl, rfl, rfl⟩, fun o h => (by cases h), by simp, Frm.refl _ _⟩
  · obtain ⟨os, h3, h4⟩ := decL (cells := fun (t : Int) => [Value.int .i64 t]) intDec L h1
    have hfl : L.flatten = intsI os := by
      rw [h3, ← List.flatMap_def]
      clear h3 h1 g1 g2 g3 g4 h2 h4
      induction os with
      | nil => rfl
      | cons a t ih => rw [List.flatMap_cons, ih]; rfl
    have hll : L.length = os.length := by rw [h3, List.length_map]
    refine ⟨_, _, β', os, g1, g2, g3, g4, .inr ⟨H.next, L.length, [], false, ?_, by omega, ?_, ?_, ?_⟩, h4, ?_, fr_new _ _ _⟩
    · rw [hll]; rfl
    · rw [get_new, if_pos rfl, hfl, List.append_nil]
    · rw [intsI_len, Nat.mul_one]
    · show H.next < H.next + 1; omega
    · have := bulk_len es
      simp only [Go.Proofs.YtkfhklmklhnfaaaDoor.Rows.uptoBulk]
      omega
end Go.AM
/- The Term seat's door: the package variables; a world for the witness. -/
set_option linter.unusedVariables false
set_option linter.unusedSimpArgs false
set_option maxRecDepth 100000
namespace Go.AM
open Go Go.ChangeShapes Go.WideShapes Go.ChangeAt Go.RowKit Go.Proofs.YtkfhklmklhnfaaaDoor
theorem tab_of_vars {P : Program} {W : World} {name : String} {k : IntKind} {zs : List Int} {rest : List (String × DataW Unit)} {g : Nat} {t e : TypeId} {n : Nat} {ps : List MemPlace}
    (hg : P.globalNamed name = some g) (hty : (P.globals[g]?).map (·.type) = some t) (ht : P.underlying t = some (.array n e)) (he : P.underlying e = some (.int k)) (hce : P.cellsOf e = 1) (hct : P.cellsOf t = n)
    (h : DataW.LaidVars P W ((name, Go.Lib.tabData k zs) :: rest) ps) : ∃ ty fz, W.heap[g]? = some (.cells (zs.map fun z => Value.int k z).toArray ty fz) := by
  obtain ⟨g', t', cs, fuel, p, q, hg', ht', hvar, hd, _, _⟩ := h
  obtain rfl := Option.some.inj (hg.symm.trans hg')
  obtain rfl := Option.some.inj (hty.symm.trans ht')
  have hc := Go.Lib.cells_of_tab ht he hce hct hd
  unfold World.var? at hvar
  rw [hg] at hvar
  have hvar : (match W.heap[g]? with | some (Obj.cells cs _ _) => some cs | _ => none) = some cs := hvar
  split at hvar
  · rename_i cs' ty fz hw
    cases hvar
    refine ⟨ty, fz, ?_⟩
    rw [hw, ← hc]
  · cases hvar
theorem vars_tail {P : Program} {W : World} {x : String × DataW Unit} {rest : List (String × DataW Unit)} {ps : List MemPlace} (h : DataW.LaidVars P W (x :: rest) ps) : ∃ q, DataW.LaidVars P W rest q := by
  obtain ⟨n, d⟩ := x
  obtain ⟨g', t', cs, fuel, p, q, _, _, _, _, hq, _⟩ := h
  exact ⟨q, hq⟩
def bru64 : List Int := Go.Lib.deBruijn64tab.map fun (n : Nat) => (n : Int)
theorem pow_data : (Rows.laid_internal_strconv_uint64pow10 : DataW Unit) = Go.Lib.tabData .u64 pow10 := by kernel_rfl
theorem spc_data : (Rows.laid_strings_asciiSpace : DataW Unit) = Go.Lib.tabData .u8 spaces := by kernel_rfl
theorem bru_data : (Rows.laid_math_bits_deBruijn64tab : DataW Unit) = Go.Lib.tabData .u8 bru64 := by kernel_rfl
abbrev laidL : List (String × DataW Unit) := [("math/bits.deBruijn32tab", Rows.laid_math_bits_deBruijn32tab), ("math/bits.deBruijn64tab", Rows.laid_math_bits_deBruijn64tab), ("internal/strconv.uint64pow10", Rows.laid_internal_strconv_uint64pow10), ("unicode.White_Space", Rows.laid_unicode_White_Space), ("strings.asciiSpace", Rows.laid_strings_asciiSpace)]
theorem laid_tabs {W : World} (h : laidMetH PP laidL W) : (∃ ty fz, W.heap[G.internal_strconv_uint64pow10]? = some (.cells (pow10.map fun z => Value.int .u64 z).toArray ty fz)) ∧
    (∃ ty fz, W.heap[G.strings_asciiSpace]? = some (.cells (spaces.map fun z => Value.int .u8 z).toArray ty fz)) ∧ (∃ ty fz, W.heap[G.bits_deBruijn64tab]? = some (.cells (bru64.map fun z => Value.int .u8 z).toArray ty fz)) := by
  obtain ⟨ps, h, _⟩ : laidMet PP laidL W := h
  obtain ⟨q1, h1⟩ := vars_tail h
  obtain ⟨q2, h2⟩ := vars_tail h1
  obtain ⟨q3, h3⟩ := vars_tail h2
  obtain ⟨q4, h4⟩ := vars_tail h3
  rw [bru_data] at h1
  rw [pow_data] at h2
  rw [spc_data] at h4
  exact ⟨tab_of_vars (by kernel_rfl) (t := T.a20_uint64) (e := T.uint64) (n := 20) (by kernel_rfl) (by kernel_rfl) (by kernel_rfl) (by kernel_rfl) (by kernel_rfl) h2,
    tab_of_vars (by kernel_rfl) (t := T.a256_uint8) (e := T.uint8) (n := 256) (by kernel_rfl) (by kernel_rfl) (by kernel_rfl) (by kernel_rfl) (by kernel_rfl) h4,
    tab_of_vars (by kernel_rfl) (t := T.a64_uint8) (e := T.uint8) (n := 64) (by kernel_rfl) (by kernel_rfl) (by kernel_rfl) (by kernel_rfl) (by kernel_rfl) h1⟩
/-- The start heap: three tables are known. -/
theorem start {W : World} (hsz : PP.globals.size ≤ W.heap.size) (h : laidMetH PP laidL W) : ∃ H0, Rel PP W H0 (B00 PP) ∧ (∀ i o, H0.get i = some o → o.own = false) ∧ Tabs H0 ∧ PP.globals.size ≤ H0.next := by
  obtain ⟨⟨t1, z1, e1⟩, ⟨t2, z2, e2⟩, t3, z3, e3⟩ := laid_tabs h
  let Fx : Nat → Option AObj := fun i => if i = G.internal_strconv_uint64pow10 then some (.fix (.cells (pow10.map fun z => Value.int .u64 z).toArray t1 z1)) else if i = G.strings_asciiSpace then some (.fix (.cells (spaces.map fun z => Value.int .u8 z).toArray t2 z2))
    else if i = G.bits_deBruijn64tab then some (.fix (.cells (bru64.map fun z => Value.int .u8 z).toArray t3 z3)) else none
  obtain ⟨r1, r2⟩ := relStart (P := PP) hsz (F := Fx) (fun i o hi => by
    have hi : (if i = G.internal_strconv_uint64pow10 then _ else if i = G.strings_asciiSpace then _ else if i = G.bits_deBruijn64tab then _ else none) = some o := hi
    split at hi
    · rename_i q; subst q; cases hi; exact .inl ⟨_, rfl, e1⟩
    · split at hi
      · rename_i q; subst q; cases hi; exact .inl ⟨_, rfl, e2⟩
      · split at hi
        · rename_i q; subst q; cases hi; exact .inl ⟨_, rfl, e3⟩
        · cases hi)
  have g : ∀ i, i < 6 → (HS PP Fx).get i = Fx i := fun i hi => if_pos (by rw [nglob]; exact hi)
  refine ⟨_, r1, r2, ⟨⟨_, t1, z1, (g _ (by decide)).trans rfl, ?_⟩, ⟨_, t2, z2, (g _ (by decide)).trans rfl, ?_⟩, ⟨_, t3, z3, (g _ (by decide)).trans rfl, ?_⟩⟩, Nat.le_refl _⟩
  · kernel_rfl
  · kernel_rfl
  · kernel_rfl
/-- A world for the witness. -/
noncomputable def laidWorld (os : Os) : World :=
  let N := (World.settled PP os).heap.size
  let w0 := World.holding PP os ⟨#[.cells (Go.Lib.whiteT.map fun (z : Nat) => Value.int .u16 (z : Int)).toArray T.unicode_Range16, .cells #[.slice (some ⟨N, 0, none⟩) 7 7, .slice none 0 0, .int .i64 2] T.unicode_RangeTable], #[], []⟩
  let put (h : Array Obj) (g : Nat) (cs : Array Value) : Array Obj := h.modify g fun
    | .cells _ t frozen => .cells cs t frozen
    | o => o
  let h1 := put w0.heap G.strings_asciiSpace (spaces.map fun z => Value.int .u8 z).toArray
  let h2 := put h1 G.internal_strconv_uint64pow10 (pow10.map fun z => Value.int .u64 z).toArray
  let h3 := put h2 G.bits_deBruijn64tab (bru64.map fun z => Value.int .u8 z).toArray
  let h4 := put h3 G.bits_deBruijn32tab (Go.Lib.deBruijn32tab.map fun (z : Nat) => Value.int .u8 (z : Int)).toArray
  let h5 := put h4 G.unicode_White_Space #[.pointer (some ⟨N + 1, 0, none⟩)]
  { w0 with heap := h5 }
end Go.AM
