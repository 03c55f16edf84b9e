/- Part of the proof of KnownAppliesUptoCardSaid: see the last file.  -/
import Derived.Lib.TrailingZeros
import Derived.Lib.Mul64
import Derived.Test.YtloofbfkaombbaaGreatDoorT0
import Derived.Test.YtloofbfkaombbaaGreatDoorT3
import Derived.Test.YtloofbfkaombbaaGreatDoorT4
set_option linter.unusedSimpArgs false
set_option linter.unusedVariables false
set_option linter.unusedSectionVars false
set_option maxRecDepth 100000
namespace Go.AM.N14
open Go Go.AM
def nm (i : Nat) : ByteArray := ⟨#[UInt8.ofNat (97 + i)]⟩
def LL (ws : Nat → Int) : Nat → List Nd
  | 0 => []
  | i + 1 => LL ws i ++ [varN (nm i) (ws i)]
def KK (ws : Nat → Int) : Nat → List (ByteArray × Int)
  | 0 => []
  | i + 1 => KK ws i ++ [(nm i, ws i)]
theorem ziB (ws : Nat → Int) : ∀ i, (LL ws i).length = i
  | 0 => rfl
  | i + 1 => by unfold LL; rw [List.length_append, ziB ws i]; rfl
theorem zpj {ws : Nat → Int} : ∀ {i : Nat} {m : Nd}, m ∈ LL ws i → ∃ j, j < i ∧ m = varN (nm j) (ws j)
  | 0, m, h => by cases h
  | i + 1, m, h => by
    unfold LL at h
    rcases List.mem_append.1 h with h | h
    · obtain ⟨j, h1, h2⟩ := zpj h
      exact ⟨j, by omega, h2⟩
    · rw [List.mem_singleton] at h
      exact ⟨i, by omega, h⟩
theorem LL_get {ws : Nat → Int} : ∀ {i j : Nat}, j < i → (LL ws i)[j]? = some (varN (nm j) (ws j))
  | 0, j, h => by omega
  | i + 1, j, h => by
    unfold LL
    by_cases q : j = i
    · subst q
      rw [List.getElem?_append_right (by rw [ziB]; exact Nat.le_refl _), ziB, Nat.sub_self]; rfl
    · rw [List.getElem?_append_left (by rw [ziB]; omega)]
      exact LL_get (by omega)
theorem nm_ne {i j : Nat} (hi : i < 3) (hj : j < i) : nm j ≠ nm i := by
  match i, j, hi, hj with
  | 1, 0, _, _ => decide
  | 2, 0, _, _ => decide
  | 2, 1, _, _ => decide
theorem zkG {n : Nd} : ∀ (L : List Nd) (i : Nat), (∀ m ∈ L, m ≠ n) → zbA n i L = none
  | [], i, _ => rfl
  | m :: r, i, h => by
    unfold zbA
    have : ¬ zjz n m = true := fun q => h m (List.mem_cons_self ..) ((zjy n m).1 q).symm
    rw [if_neg this]
    exact zkG r (i + 1) fun x hx => h x (List.mem_cons_of_mem _ hx)
theorem nameAt_KK (ws : Nat → Int) {i : Nat} (hi : i < 3) : ∀ (k j : Nat), j ≤ i → zce (nm i) k (KK ws j) = none := by
  have app : ∀ (s : ByteArray) (t : ByteArray) (w : Int) (K : List (ByteArray × Int)) (k : Nat), t ≠ s → zce s k K = none → zce s k (K ++ [(t, w)]) = none := by
    intro s t w K
    induction K with
    | nil =>
      intro k h _
      show (if (s == t) = true then _ else none) = none
      rw [if_neg (fun q => h ((ba_eq s t).1 q).symm)]
    | cons x r ih =>
      intro k h hk
      obtain ⟨t', w'⟩ := x
      have hk : (if (s == t') = true then some (k, w') else zce s (k + 1) r) = none := hk
      show (if (s == t') = true then some (k, w') else zce s (k + 1) (r ++ [(t, w)])) = none
      split at hk
      · cases hk
      · rename_i q
        rw [if_neg q]
        exact ih (k + 1) h hk
  intro k j
  induction j with
  | zero => intro _; rfl
  | succ j ih =>
    intro hj
    unfold KK
    exact app _ _ _ _ _ (nm_ne hi (by omega)) (ih (by omega))
theorem var_mk {ws : Nat → Int} {i : Nat} (hi : i < 3) (hw : 0 ≤ ws i ∧ ws i ≤ 64) : mkR 0 (LL ws i) (KK ws i) (varN (nm i) (ws i)) = (((i + 1 : Nat) : Int), 0, LL ws (i + 1), KK ws (i + 1)) := by
  have hp : zam (varN (nm i) (ws i)).op = 0 := by show zam 4 = 0; decide
  have hno : zij (nm i) = true := by
    match i, hi with
    | 0, _ => decide
    | 1, _ => decide
    | 2, _ => decide
  have hna := nameAt_KK ws hi 0 i (Nat.le_refl _)
  have hr : Right (LL ws i) (KK ws i) (varN (nm i) (ws i)) := by
    refine ⟨by show ¬ ((4 : Int) < 1 ∨ (4 : Int) > 33); decide, by show ¬ (ws i < 0 ∨ ws i > 64); omega, ?_, ?_, ?_, ?_, ?_⟩
    · unfold zb5; rw [hp]; simp
    · unfold zgZ; rw [hp]; simp [varN]
    · unfold zbH; rw [hp]; simp
    · unfold zbJ
      have h4 : (varN (nm i) (ws i)).op = 4 := rfl
      rw [if_neg (by rw [h4]; decide), if_neg (by rw [h4]; decide), if_pos h4]; decide
    · intro h
      have hb : zdT (KK ws i) (varN (nm i) (ws i)) = false := by
        unfold zdT
        have e : (varN (nm i) (ws i)).name = nm i := rfl
        rw [e, hno, hna]; rfl
      rw [hb] at h
      exact absurd h.2 (by decide)
  unfold mkR
  rw [zja.2 hr, if_neg (by decide), zkG _ _ (fun m hm => by
    obtain ⟨j, h1, h2⟩ := zpj hm
    rw [h2]
    exact fun q => nm_ne hi h1 (congrArg Nd.name q))]
  dsimp only
  rw [if_neg (by omega), ziB]
  have e4 : (varN (nm i) (ws i)).op = 4 := rfl
  rw [if_pos e4]
  have e5 : zeR (varN (nm i) (ws i)).name (varN (nm i) (ws i)).w (KK ws i) = KK ws (i + 1) := by
    unfold zeR
    have e : (varN (nm i) (ws i)).name = nm i := rfl
    rw [e, hna]; rfl
  rw [e5]; rfl
theorem zlE {op : Int} (h : 1 ≤ op ∧ op ≤ 33) (H : Hp) : RR F.a52 [.int .i64 op] H = some (.int .i64 (zam op), H) := by
  refine (zlq E0 rfl _ _).trans ?_
  unfold zhu
  rw [zbE, zag]
  by_cases h4 : op ≤ 4
  · rw [decide_eq_true h4, zap]
    have : zam op = 0 := by unfold zam; rw [if_pos (by omega)]
    rw [this]
  rw [decide_eq_false h4, zan, zay, zag]
  by_cases h14 : op = 14
  · subst h14; rfl
  rw [decide_eq_false h14, zan, zay, zag]
  by_cases h5 : op = 5
  · subst h5; rfl
  rw [decide_eq_false h5, zan, zay, zag]
  by_cases h15 : op = 15
  · subst h15; rfl
  rw [decide_eq_false h15, zan, zay, zag]
  by_cases h16 : op = 16
  · subst h16; rfl
  rw [decide_eq_false h16, zan, zbg, zag]
  by_cases h31 : op ≥ 31
  · have : zam op = 1 := by unfold zam; rw [if_neg (by omega), if_pos (by omega)]
    simp only [decide_eq_true h31, zag, zap, this]
  · have : zam op = 2 := by unfold zam; rw [if_neg (by omega), if_neg (by omega), if_neg (by omega)]
    rw [decide_eq_false h31, zan, this]
def lv (i : Nat) : List Value := [.int .i64 (if 0 < i then 1 else 0), .int .i64 (if 1 < i then 2 else 0), .int .i64 (if 2 < i then 3 else 0)]
def nmV : List Value := [.string ⟨#[97]⟩, .string ⟨#[98]⟩, .string ⟨#[99]⟩]
def wsV (ws : Nat → Int) : Value := .agg #[.int .i64 (ws 0), .int .i64 (ws 1), .int .i64 (ws 2)]
theorem loopV {ws : Nat → Int} (hw : ∀ i, i < 3 → 0 ≤ ws i ∧ ws i ≤ 64) {p f g : Nat} {k : Nat} (hk : k ≤ 3) : ∀ (m i : Nat) (H : Hp) (sl : Value), i + m = k → StF H p 0 (LL ws i) (KK ws i) sl f g →
    ∃ H' sl', zaA (zbv RR (wsV ws) (.pointer (some ⟨p, 0, none⟩)) (.int .i64 (k : Int)) nmV) [.int .i64 (i : Int), .agg (lv i).toArray] H = some (.exit 0, [.int .i64 (k : Int), .agg (lv k).toArray], H') ∧ One H 0 (LL ws i) (KK ws i) p f g sl H' (LL ws k) (KK ws k) sl'
  | 0, i, H, sl, hi, h => by
    have : i = k := by omega
    subst this
    refine ⟨H, sl, ?_, One.refl h⟩
    rw [zaq]
    have : zbv RR (wsV ws) (.pointer (some ⟨p, 0, none⟩)) (.int .i64 (i : Int)) nmV [.int .i64 (i : Int), .agg (lv i).toArray] H = some (.exit 0, [.int .i64 (i : Int), .agg (lv i).toArray], H) := by
      unfold zbv
      simp only [qg0, zbj, Int.lt_irrefl, decide_false, zag, zan]
      rfl
    rw [this]; rfl
  | m + 1, i, H, sl, hi, h => by
    have hi3 : i < 3 := by omega
    have hR : znl (LL ws i) := ⟨fun x hx => by obtain ⟨j, h1, h2⟩ := zpj hx; rw [h2]; exact hw j (by omega), by rw [ziB]; omega⟩
    obtain ⟨H1, s1, e1, o1⟩ := Does.one (L := LL ws i) (K := KK ws i) (d20 h hR (nm i) (ws i))
    rw [var_mk hi3 (hw i hi3)] at e1 o1
    dsimp only at e1 o1
    obtain ⟨H', s2, g1, g2⟩ := loopV hw hk m (i + 1) H1 s1 (by omega) o1.st
    refine ⟨H', s2, ?_, o1.trans g2⟩
    rw [zaq]
    have w1 : IntKind.i64.wrap ((i : Int) + 1) = ((i + 1 : Nat) : Int) := zax (by omega) (by omega)
    have q : (i : Int) < (k : Int) := by omega
    have hloc : ∀ (f : Nat → Option Outc), zaS 3 (.int .i64 (i : Int)) f = f i := fun f => by
      unfold zaS
      dsimp only
      rw [if_pos (by omega)]; rfl
    have hc1 : ∀ (f : Value → Option Outc), zab 1 false nmV (0 + i * 1) f = f (.string (nm i)) := fun f => by
      match i, hi3 with
      | 0, _ => rfl
      | 1, _ => rfl
      | 2, _ => rfl
    have hc2 : ∀ (f : Value → Option Outc), zab 1 false (zaa (wsV ws)) (0 + i * 1) f = f (.int .i64 (ws i)) := fun f => by
      match i, hi3 with
      | 0, _ => rfl
      | 1, _ => rfl
      | 2, _ => rfl
    have hc3 : ∀ (f : List Value → Option Outc), zac 1 (zaa (.agg (lv i).toArray)) (0 + i * 1) (.int .i64 ((i + 1 : Nat) : Int)) f = f (lv (i + 1)) := fun f => by
      match i, hi3 with
      | 0, _ => rfl
      | 1, _ => rfl
      | 2, _ => rfl
    have : zbv RR (wsV ws) (.pointer (some ⟨p, 0, none⟩)) (.int .i64 (k : Int)) nmV [.int .i64 (i : Int), .agg (lv i).toArray] H = some (.next, [.int .i64 ((i + 1 : Nat) : Int), .agg (lv (i + 1)).toArray], H1) := by
      unfold zbv
      simp only [qg0, qd1, qd0, zbj, q, decide_true, zag, zap, hloc, hc1, hc2, zae e1, x01, hc3, za6, w1]
    rw [this]; exact g1
end Go.AM.N14
namespace Go.AM.N14
open Go Go.AM
theorem znV {L : List Nd} {K : List (ByteArray × Int)} {n : Nd} : (mkR 0 L K n).2.1 = 0 ↔ zdt L K n = 0 := by
  unfold mkR
  by_cases h : zdt L K n = 0
  · rw [if_neg (by rw [h]; decide)]
    cases zbA n 0 L with
    | some q => exact ⟨fun _ => h, fun _ => rfl⟩
    | none =>
      dsimp only
      rw [if_neg (by omega)]
      exact ⟨fun _ => h, fun _ => rfl⟩
  · rw [if_pos h]
def zdC (ws : Nat → Int) (op : Int) (i : Nat) : Int := if (i : Int) < zam op then ws i else 0
theorem LL_wT {ws : Nat → Int} {k i : Nat} (h : i < k) : isT (LL ws k) ((i + 1 : Nat) : Int) = true ∧ wT (LL ws k) (-1) ((i + 1 : Nat) : Int) = ws i := by
  have hT : isT (LL ws k) ((i + 1 : Nat) : Int) = true := zeU.2 ⟨by omega, by rw [ziB]; omega⟩
  refine ⟨hT, ?_⟩
  unfold wT
  rw [hT, if_pos rfl, show (((i + 1 : Nat) : Int) - 1).toNat = i by omega, LL_get h]
  rfl
theorem p_shape {n : Nd} (ho : 1 ≤ n.op ∧ n.op ≤ 33) (hw : 0 ≤ n.w ∧ n.w ≤ 64) (hnum : 0 ≤ n.num ∧ n.num < 18446744073709551616) {ws : Nat → Int} (hws : ∀ i, i < 3 → 0 ≤ ws i ∧ ws i ≤ 64) (H : Hp) :
    ∃ H', RR F.a53 [n.val, wsV ws] H = some (.bool (if n.op = 4 then decide (n.num = 0) else zbT n (zdC ws n.op 0) (zdC ws n.op 1) (zdC ws n.op 2)), H') ∧ H.next ≤ H'.next ∧ ∀ j, j < H.next → H'.get j = H.get j := by
  have hr := (zlp E0 rfl n.val (wsV ws) H).trans (zlN _ _ _ _)
  have e16 := Go.AM.c16 0 H
  rw [if_neg (by decide)] at e16
  have hk3 : (0 : Int) ≤ zam n.op ∧ zam n.op ≤ 3 := by rcases zbU n.op with q | q | q | q <;> rw [q] <;> decide
  obtain ⟨k, hk⟩ : ∃ k : Nat, (k : Int) = zam n.op := ⟨(zam n.op).toNat, by omega⟩
  have a1 := newH_st 0 H
  have hn1 := zmN 0 H
  obtain ⟨H1, s1, l1, o1⟩ := loopV (ws := ws) hws (p := H.next + 2) (k := k) (by omega) k 0 (newH 0 H) _ (by omega) a1
  have hb1 : ∀ (f : Value → Option (Value × Hp)), zar PP T.a3_string [(0, (.string ⟨#[97]⟩)), (1, (.string ⟨#[98]⟩)), (2, (.string ⟨#[99]⟩))] f = f (.agg nmV.toArray) := fun f => bld (by kernel_rfl) f
  have hs1 : ∀ (f : List Value → Option (Value × Hp)), zac 3 [.string ⟨#[]⟩, .string ⟨#[]⟩, .string ⟨#[]⟩] 0 (.agg nmV.toArray) f = f nmV := fun f => rfl
  have l1' : zaA (zbv RR (wsV ws) (.pointer (some ⟨H.next + 2, 0, none⟩)) (.int .i64 (zam n.op)) nmV) [.int .i64 0, .agg [.int .i64 0, .int .i64 0, .int .i64 0].toArray] (newH 0 H) = some (.exit 0, [.int .i64 (k : Int), .agg (lv k).toArray], H1) := by
    rw [← hk]; exact l1
  have keep : H.next ≤ H1.next ∧ ∀ j, j < H.next → H1.get j = H.get j := by
    refine ⟨Nat.le_trans (by omega) o1.next, fun j hj => ?_⟩
    rw [o1.same j (by omega) (fun q => by have := ziT q; omega), ziP _ _ _ hj]
  rw [zae e16, x01, hb1, hs1, n0, zae (zlE ho _), l1', zao, zbq, zaT, n0, zay, zag] at hr
  by_cases h4 : n.op = 4
  · rw [decide_eq_true h4, zap, n5, zay] at hr
    rw [if_pos h4]
    exact ⟨H1, hr, keep⟩
  rw [decide_eq_false h4, zan, n0, n1] at hr
  simp only [qd1, qd0, qg0] at hr
  let m : Nd := ⟨n.op, n.w, if 0 < k then 1 else 0, if 1 < k then 2 else 0, if 2 < k then 3 else 0, n.num, ⟨#[]⟩⟩
  have c0 : ∀ (f : Value → Option (Value × Hp)), zab 1 false (zaa (.agg (lv k).toArray)) 0 f = f (.int .i64 m.a) := fun f => rfl
  have c1 : ∀ (f : Value → Option (Value × Hp)), zab 1 false (zaa (.agg (lv k).toArray)) 1 f = f (.int .i64 m.b) := fun f => rfl
  have c2 : ∀ (f : Value → Option (Value × Hp)), zab 1 false (zaa (.agg (lv k).toArray)) 2 f = f (.int .i64 m.c) := fun f => rfl
  have hb2 : ∀ (a b c : Int) (f : Value → Option (Value × Hp)), zar PP T.api_Node [(0, .int .i64 n.op), (1, .int .i64 n.w), (2, .int .i64 a), (3, .int .i64 b), (4, .int .i64 c), (5, .int .u64 n.num)] f = f (Nd.val ⟨n.op, n.w, a, b, c, n.num, ⟨#[]⟩⟩) := fun a b c f => bld (by kernel_rfl) f
  have hR : znl (LL ws k) := ⟨fun x hx => by obtain ⟨j, h1, h2⟩ := zpj hx; rw [h2]; exact hws j (by omega), by rw [ziB]; omega⟩
  obtain ⟨H2, s2, e2, o2⟩ := Does.one (L := LL ws k) (K := KK ws k) (d22 o1.st hR m hnum)
  have hnmd : zmQ m = false := by
    unfold zmQ
    show (!((⟨#[]⟩ : ByteArray).toList == (⟨#[]⟩ : ByteArray).toList)) = false
    rw [beq_self_eq_true]; rfl
  have hp : zpi (LL ws k) m (zdC ws n.op 0) (zdC ws n.op 1) (zdC ws n.op 2) := by
    have key : ∀ (i : Nat), ((zam n.op ≥ ((i + 1 : Nat) : Int) ∧ isT (LL ws k) (if i < k then ((i + 1 : Nat) : Int) else 0) = true ∧ wT (LL ws k) (-1) (if i < k then ((i + 1 : Nat) : Int) else 0) = zdC ws n.op i) ∨ (zam n.op < ((i + 1 : Nat) : Int) ∧ (if i < k then ((i + 1 : Nat) : Int) else 0) = 0 ∧ zdC ws n.op i = 0)) := fun i => by
      unfold zdC
      by_cases q : i < k
      · obtain ⟨q1, q2⟩ := LL_wT (ws := ws) q
        rw [if_pos q, if_pos (by omega)]
        exact .inl ⟨by omega, q1, q2⟩
      · rw [if_neg q, if_neg (by omega)]
        exact .inr ⟨by omega, rfl, rfl⟩
    exact ⟨key 0, key 1, key 2⟩
  have hiff := zi2 (n := m) (K := KK ws k) ho h4 hw hnum hnmd hp
  have hans : decide ((mkR 0 (LL ws k) (KK ws k) m).2.1 = 0) = zbT n (zdC ws n.op 0) (zdC ws n.op 1) (zdC ws n.op 2) := by
    have hs : zbT m (zdC ws n.op 0) (zdC ws n.op 1) (zdC ws n.op 2) = zbT n (zdC ws n.op 0) (zdC ws n.op 1) (zdC ws n.op 2) := rfl
    rw [hs] at hiff
    cases q : zbT n (zdC ws n.op 0) (zdC ws n.op 1) (zdC ws n.op 2) with
    | true => exact decide_eq_true (znV.2 (hiff.2 q))
    | false => exact decide_eq_false fun z => by rw [hiff.1 (znV.1 z)] at q; cases q
  rw [c0, c1, c2, n5, hb2, zae e2, x01, zay, hans] at hr
  rw [if_neg h4]
  have o12 := o1.trans o2
  refine ⟨H2, hr, Nat.le_trans keep.1 o2.next, fun j hj => ?_⟩
  rw [o12.same j (by omega) (fun q => by have := ziT q; omega), ziP _ _ _ hj]
end Go.AM.N14
namespace Go.AM.N14
open Go Go.AM
theorem vok_of {n : Nd} (ho : 1 ≤ n.op ∧ n.op ≤ 33) (h4 : n.op ≠ 4) (hw : 0 ≤ n.w ∧ n.w ≤ 64) (hnum : 0 ≤ n.num ∧ n.num < 18446744073709551616) {wa wb : Nat} {c : Int} (hwa : wa ≤ 64) (hwb : wb ≤ 64) {a b : W64}
    (ha : wa = 0 → a.toNat ≤ 1) (hb : wb = 0 → b.toNat ≤ 1) (hs : zbT n (wa : Int) (wb : Int) c = true) : Vok n wa wb a b := by
  have hB : zbb n (wa : Int) (wb : Int) c = true := by
    unfold zbT at hs
    split at hs
    · cases hs
    · exact hs
  unfold zbb at hB
  refine ⟨⟨ho.1, ho.2, h4⟩, hnum, fun q1 q2 => ?_, fun q1 q2 => ?_, fun q1 q2 => ?_, fun q1 q2 => ?_, fun q1 => ?_, fun q1 => ?_, fun q1 => ?_⟩
  · rw [if_neg (by omega), if_neg (by omega), if_neg (by omega), if_neg (by omega), if_pos q2] at hB
    simp only [Bool.and_eq_true, decide_eq_true_eq] at hB
    exact ⟨ha (by omega), hb (by omega)⟩
  · rw [if_neg (by omega), if_neg (by omega), if_neg (by omega), if_neg (by omega), if_neg (by omega), if_neg (by omega), if_pos q2] at hB
    simp only [Bool.and_eq_true, decide_eq_true_eq] at hB
    omega
  · rw [if_neg (by omega), if_neg (by omega), if_neg (by omega), if_neg (by omega), if_neg (by omega), if_neg (by omega), if_neg (by omega), if_neg (by omega)] at hB
    by_cases g1 : n.op ≤ 16
    · rw [if_pos g1] at hB
      simp only [Bool.and_eq_true, decide_eq_true_eq] at hB
      omega
    rw [if_neg g1] at hB
    by_cases g2 : n.op ≤ 24
    · rw [if_pos g2] at hB
      simp only [Bool.and_eq_true, decide_eq_true_eq] at hB
      omega
    rw [if_neg g2, if_pos q2] at hB
    simp only [Bool.and_eq_true, decide_eq_true_eq] at hB
    omega
  · rw [if_neg (by omega), if_neg (by omega), if_neg (by omega), if_neg (by omega), if_neg (by omega), if_neg (by omega), if_neg (by omega), if_neg (by omega), if_neg (by omega), if_neg (by omega), if_pos q2] at hB
    simp only [Bool.and_eq_true, decide_eq_true_eq] at hB
    exact hB.2.2.2
  · rw [if_neg (by omega), if_neg (by omega), if_neg (by omega), if_neg (by omega), if_neg (by omega), if_neg (by omega), if_neg (by omega), if_neg (by omega), if_neg (by omega), if_neg (by omega), if_neg (by omega), if_pos q1] at hB
    simp only [Bool.and_eq_true, decide_eq_true_eq] at hB
    omega
  · rw [if_neg (by omega), if_neg (by omega), if_neg (by omega), if_neg (by omega), if_neg (by omega), if_neg (by omega), if_neg (by omega), if_neg (by omega), if_neg (by omega), if_neg (by omega), if_neg (by omega), if_neg (by omega), if_pos q1] at hB
    simp only [Bool.and_eq_true, decide_eq_true_eq] at hB
    omega
  · rw [if_neg (by omega), if_neg (by omega), if_neg (by omega), if_neg (by omega), if_neg (by omega), if_neg (by omega), if_neg (by omega), if_neg (by omega), if_neg (by omega), if_neg (by omega), if_neg (by omega), if_neg (by omega), if_neg (by omega)] at hB
    simp only [Bool.and_eq_true, decide_eq_true_eq] at hB
    omega
end Go.AM.N14
namespace Go.AM
open Go
def mapI (A : List (Int × Int)) : List (Value × Value) := A.map fun x => (.int .i64 x.1, .int .i64 x.2)
def lkI (t : Int) : Nat → List (Int × Int) → Option (Nat × Int)
  | _, [] => none
  | i, (u, w) :: r => if t = u then some (i, w) else lkI t (i + 1) r
def MapF (H : Hp) (m : Nat) (F : Int → Int) : Prop := ∃ A, H.get m = some (.map (mapI A)) ∧ ∀ t, F t = (match lkI t 0 A with | some q => q.2 | none => 0)
structure zj7 (P : Program) (kt : TypeId) : Prop where
  eq : ∀ a b : Int, eqT P 10000 kt (.int .i64 a) (.int .i64 b) = some (a == b)
  sh : ∀ a : Int, zem P 20 kt (.int .i64 a) = true
theorem findI {P : Program} {kt : TypeId} (hk : zj7 P kt) (t : Int) : ∀ (A : List (Int × Int)) (i : Nat), zfF P kt (.int .i64 t) (mapI A) i = some ((lkI t i A).map fun q => (q.1, .int .i64 q.2))
  | [], i => rfl
  | (u, w) :: r, i => by
    show (match eqT P 10000 kt (.int .i64 t) (.int .i64 u) with | some true => some (some (i, Value.int .i64 w)) | some false => zfF P kt (.int .i64 t) (mapI r) (i + 1) | none => none) = _
    rw [hk.eq]
    unfold lkI
    by_cases h : t = u
    · rw [if_pos h, show (t == u) = true by simpa using h]; rfl
    · rw [if_neg h, show (t == u) = false by simpa using h]
      exact findI hk t r (i + 1)
theorem MapF.look {P : Program} {kt : TypeId} (hk : zj7 P kt) {H : Hp} {m : Nat} {F : Int → Int} (h : MapF H m F) (t : Int) {α : Type} (k : Value → Option α) : zcn P kt (.int .i64 0) (.map (some m)) (.int .i64 t) false H k = k (.int .i64 (F t)) := by
  obtain ⟨A, h1, h2⟩ := h
  unfold zcn zjM
  rw [hk.sh, h2 t]
  simp only [if_true, zpH, h1, findI hk]
  cases lkI t 0 A <;> rfl
theorem zlK (t : Int) : ∀ (A : List (Int × Int)) (i j : Nat) (w : Int), lkI t i A = some (j, w) → i ≤ j ∧ A[j - i]? = some (t, w)
  | [], i, j, w, h => by cases h
  | (u, v) :: r, i, j, w, h => by
    unfold lkI at h
    split at h
    · rename_i e
      cases h
      subst e
      exact ⟨Nat.le_refl _, by simp⟩
    · obtain ⟨h1, h2⟩ := zlK t r (i + 1) j w h
      refine ⟨by omega, ?_⟩
      rw [show j - i = (j - (i + 1)) + 1 by omega]
      simpa using h2
theorem znY (t key v : Int) : ∀ (A : List (Int × Int)) (i : Nat), lkI key i A = none → (lkI t i (A ++ [(key, v)])).map Prod.snd = if t = key then some v else (lkI t i A).map Prod.snd
  | [], i, h => by
    show (lkI t i [(key, v)]).map Prod.snd = _
    unfold lkI lkI
    split <;> rfl
  | (u, w) :: r, i, h => by
    unfold lkI at h
    split at h
    · cases h
    · rename_i ne
      show (lkI t i ((u, w) :: (r ++ [(key, v)]))).map Prod.snd = _
      unfold lkI
      by_cases e : t = u
      · rw [if_pos e, if_pos e, if_neg (fun q => ne (by rw [← q, e]))]
      · rw [if_neg e, if_neg e]
        exact znY t key v r (i + 1) h
theorem znX (t key v : Int) : ∀ (A : List (Int × Int)) (i j : Nat) (w : Int), lkI key i A = some (j, w) → (lkI t i (A.set (j - i) (key, v))).map Prod.snd = if t = key then some v else (lkI t i A).map Prod.snd
  | [], i, j, w, h => by cases h
  | (u, x) :: r, i, j, w, h => by
    unfold lkI at h
    split at h
    · rename_i e
      cases h
      subst e
      rw [Nat.sub_self, List.set_cons_zero]
      unfold lkI
      by_cases q : t = key
      · rw [if_pos q, if_pos q]; rfl
      · rw [if_neg q, if_neg q, if_neg q]
    · rename_i ne
      have hle := (zlK key r (i + 1) j w h).1
      rw [show j - i = (j - (i + 1)) + 1 by omega, List.set_cons_succ]
      unfold lkI
      by_cases q : t = u
      · rw [if_pos q, if_pos q, if_neg (fun z => ne (by rw [← z, q]))]
      · rw [if_neg q, if_neg q]
        exact znX t key v r (i + 1) j w h
theorem mtch (o : Option (Nat × Int)) : (match o with | some q => q.2 | none => (0 : Int)) = (o.map Prod.snd).getD 0 := by cases o <;> rfl
theorem MapF.upd {P : Program} {kt : TypeId} (hk : zj7 P kt) {H : Hp} {m : Nat} {F : Int → Int} (h : MapF H m F) (key v : Int) :
    ∃ H', (∀ (α : Type) (k : Hp → Option α), pUpd P kt (.map (some m)) (.int .i64 key) (.int .i64 v) H k = k H') ∧ MapF H' m (fun t => if t = key then v else F t) ∧ (∀ j, j ≠ m → H'.get j = H.get j) ∧ H'.next = H.next := by
  obtain ⟨A, h1, h2⟩ := h
  cases hq : lkI key 0 A with
  | none =>
    refine ⟨H.set m (some (.map (mapI (A ++ [(key, v)])))), fun α k => ?_, ⟨A ++ [(key, v)], by rw [get_set, if_pos rfl], fun t => ?_⟩, fun j hj => by rw [get_set, if_neg hj], rfl⟩
    · have : updV P kt (.map (some m)) (.int .i64 key) (.int .i64 v) H = some (H.set m (some (.map (mapI (A ++ [(key, v)]))))) := by
        unfold updV
        rw [hk.sh]
        simp only [if_true, h1, findI hk, hq, Option.map_none]
        rw [show mapI (A ++ [(key, v)]) = mapI A ++ [(Value.int .i64 key, Value.int .i64 v)] by simp [mapI]]
      unfold pUpd
      rw [this]
    · rw [mtch, znY t key v A 0 hq]
      dsimp only
      split
      · rfl
      · rw [h2 t, mtch]
  | some q =>
    obtain ⟨j, w⟩ := q
    obtain ⟨_, hg⟩ := zlK key A 0 j w hq
    rw [Nat.sub_zero] at hg
    refine ⟨H.set m (some (.map (mapI (A.set j (key, v))))), fun α k => ?_, ⟨A.set j (key, v), by rw [get_set, if_pos rfl], fun t => ?_⟩, fun j hj => by rw [get_set, if_neg hj], rfl⟩
    · have hk1 : (mapI A)[j]? = some (.int .i64 key, .int .i64 w) := by unfold mapI; rw [List.getElem?_map, hg]; rfl
      have hsb : Instr.sameBits 10000 (.int .i64 key) (.int .i64 key) = true := by simp [Instr.sameBits]
      have : updV P kt (.map (some m)) (.int .i64 key) (.int .i64 v) H = some (H.set m (some (.map (mapI (A.set j (key, v)))))) := by
        unfold updV
        rw [hk.sh]
        simp only [if_true, h1, findI hk, hq, Option.map_some, hk1, hsb]
        rw [show mapI (A.set j (key, v)) = zka (mapI A) j (.int .i64 key) (.int .i64 v) by unfold zka mapI; rw [List.map_set]]
      unfold pUpd
      rw [this]
    · have := znX t key v A 0 j w hq
      rw [Nat.sub_zero] at this
      rw [mtch, this]
      dsimp only
      split
      · rfl
      · rw [h2 t, mtch]
theorem MapF.new (H : Hp) : MapF (H.new (.map [])) H.next (fun _ => 0) := ⟨[], by rw [get_new, if_pos rfl]; rfl, fun t => rfl⟩
theorem MapF.keep {H H' : Hp} {m : Nat} {F : Int → Int} (h : MapF H m F) (hg : H'.get m = H.get m) : MapF H' m F := by
  obtain ⟨A, h1, h2⟩ := h
  exact ⟨A, by rw [hg]; exact h1, h2⟩
end Go.AM
namespace Go.AM
open Go
def mapU (A : List (Int × Int)) : List (Value × Value) := A.map fun x => (.int .i64 x.1, .int .u64 x.2)
def MapU (H : Hp) (m : Nat) (F : Int → Int) : Prop := ∃ A, H.get m = some (.map (mapU A)) ∧ ∀ t, F t = ((lkI t 0 A).map Prod.snd).getD 0
theorem findU {P : Program} {kt : TypeId} (hk : zj7 P kt) (t : Int) : ∀ (A : List (Int × Int)) (i : Nat), zfF P kt (.int .i64 t) (mapU A) i = some ((lkI t i A).map fun q => (q.1, .int .u64 q.2))
  | [], i => rfl
  | (u, w) :: r, i => by
    show (match eqT P 10000 kt (.int .i64 t) (.int .i64 u) with | some true => some (some (i, Value.int .u64 w)) | some false => zfF P kt (.int .i64 t) (mapU r) (i + 1) | none => none) = _
    rw [hk.eq]
    unfold lkI
    by_cases h : t = u
    · rw [if_pos h, show (t == u) = true by simpa using h]; rfl
    · rw [if_neg h, show (t == u) = false by simpa using h]
      exact findU hk t r (i + 1)
theorem MapU.look {P : Program} {kt : TypeId} (hk : zj7 P kt) {H : Hp} {m : Nat} {F : Int → Int} (h : MapU H m F) (t : Int) {α : Type} (k : Value → Option α) : zcn P kt (.int .u64 0) (.map (some m)) (.int .i64 t) false H k = k (.int .u64 (F t)) := by
  obtain ⟨A, h1, h2⟩ := h
  unfold zcn zjM
  rw [hk.sh, h2 t]
  simp only [if_true, zpH, h1, findU hk]
  cases lkI t 0 A <;> rfl
theorem MapU.upd {P : Program} {kt : TypeId} (hk : zj7 P kt) {H : Hp} {m : Nat} {F : Int → Int} (h : MapU H m F) (key v : Int) :
    ∃ H', (∀ (α : Type) (k : Hp → Option α), pUpd P kt (.map (some m)) (.int .i64 key) (.int .u64 v) H k = k H') ∧ MapU H' m (fun t => if t = key then v else F t) ∧ (∀ j, j ≠ m → H'.get j = H.get j) ∧ H'.next = H.next := by
  obtain ⟨A, h1, h2⟩ := h
  cases hq : lkI key 0 A with
  | none =>
    refine ⟨H.set m (some (.map (mapU (A ++ [(key, v)])))), fun α k => ?_, ⟨A ++ [(key, v)], by rw [get_set, if_pos rfl], fun t => ?_⟩, fun j hj => by rw [get_set, if_neg hj], rfl⟩
    · have : updV P kt (.map (some m)) (.int .i64 key) (.int .u64 v) H = some (H.set m (some (.map (mapU (A ++ [(key, v)]))))) := by
        unfold updV
        rw [hk.sh]
        simp only [if_true, h1, findU hk, hq, Option.map_none]
        rw [show mapU (A ++ [(key, v)]) = mapU A ++ [(Value.int .i64 key, Value.int .u64 v)] by simp [mapU]]
      unfold pUpd
      rw [this]
    · rw [znY t key v A 0 hq]
      dsimp only
      split
      · rfl
      · rw [h2 t]
  | some q =>
    obtain ⟨j, w⟩ := q
    obtain ⟨_, hg⟩ := zlK key A 0 j w hq
    rw [Nat.sub_zero] at hg
    refine ⟨H.set m (some (.map (mapU (A.set j (key, v))))), fun α k => ?_, ⟨A.set j (key, v), by rw [get_set, if_pos rfl], fun t => ?_⟩, fun j hj => by rw [get_set, if_neg hj], rfl⟩
    · have hk1 : (mapU A)[j]? = some (.int .i64 key, .int .u64 w) := by unfold mapU; rw [List.getElem?_map, hg]; rfl
      have hsb : Instr.sameBits 10000 (.int .i64 key) (.int .i64 key) = true := by simp [Instr.sameBits]
      have : updV P kt (.map (some m)) (.int .i64 key) (.int .u64 v) H = some (H.set m (some (.map (mapU (A.set j (key, v)))))) := by
        unfold updV
        rw [hk.sh]
        simp only [if_true, h1, findU hk, hq, Option.map_some, hk1, hsb]
        rw [show mapU (A.set j (key, v)) = zka (mapU A) j (.int .i64 key) (.int .u64 v) by unfold zka mapU; rw [List.map_set]]
      unfold pUpd
      rw [this]
    · have := znX t key v A 0 j w hq
      rw [Nat.sub_zero] at this
      rw [this]
      dsimp only
      split
      · rfl
      · rw [h2 t]
theorem MapU.new (H : Hp) : MapU (H.new (.map [])) H.next (fun _ => 0) := ⟨[], by rw [get_new, if_pos rfl]; rfl, fun t => rfl⟩
theorem MapU.keep {H H' : Hp} {m : Nat} {F : Int → Int} (h : MapU H m F) (hg : H'.get m = H.get m) : MapU H' m F := by
  obtain ⟨A, h1, h2⟩ := h
  exact ⟨A, by rw [hg]; exact h1, h2⟩
end Go.AM
namespace Go.AM.N14
open Go Go.AM
theorem told_nil (H : Hp) : RR F.a73 [.slice none 0 0] H = some (.tuple #[.map (some H.next), .int .i64 0], H.new (.map [])) := by
  have hr := (znD E0 rfl (.slice none 0 0) H).trans (zn0 _ _ _)
  have hl : ∀ (H' : Hp) (f : Value → Option (Value × Hp)), pLen .sl (.slice none 0 0) H' f = f (.int .i64 0) := fun H' f => rfl
  have hm : ∀ (f : Value → Hp → Option (Value × Hp)), zc4 H f = f (.map (some H.next)) (H.new (.map [])) := fun f => rfl
  have hh : ∀ (f : Option (Value × Hp)), zkm (.int .i64 0) f = f := fun f => rfl
  have l1 : zaA (zdp RR (.slice none 0 0) (.map (some H.next)) (.int .i64 0)) [.int .i64 0] (H.new (.map [])) = some (.exit 0, [.int .i64 0], H.new (.map [])) := by
    rw [zaq]
    have : zdp RR (.slice none 0 0) (.map (some H.next)) (.int .i64 0) [.int .i64 0] (H.new (.map [])) = some (.exit 0, [.int .i64 0], H.new (.map [])) := by
      unfold zdp
      simp only [qg0]
      rw [lF (by decide)]
    rw [this]; rfl
  have l2 : zaA (zdo RR (.slice none 0 0) (.int .i64 0)) [.int .i64 0] (H.new (.map [])) = some (.exit 2, [.int .i64 0], H.new (.map [])) := by
    rw [zaq]
    have : zdo RR (.slice none 0 0) (.int .i64 0) [.int .i64 0] (H.new (.map [])) = some (.exit 2, [.int .i64 0], H.new (.map [])) := by
      unfold zdo
      simp only [qg0]
      rw [lF (by decide)]
    rw [this]; rfl
  rw [hl, hh, hm, hl, l1, zao, zbq, zaT, hl, l2, zao, zbq, zaT] at hr
  exact hr
end Go.AM.N14
namespace Go.AM
open Go
section
variable {H : Hp} {p f g : Nat} {lim : Int} {L : List Nd} {K : List (ByteArray × Int)} {sl : Value} (hs : StR H p lim L sl f g)
include hs
theorem c10 (hL : (L.length : Int) ≤ 4611686018427387904) (t : Int) : RR F.a122 [.pointer (some ⟨p, 0, none⟩), .int .i64 t] H = some (.tuple #[(zoS L t).val, .int .i64 (if isT L t = true then 0 else 70)], H) := by
  refine (zhR E0 rfl _ _ _).trans ?_
  unfold zeC
  rw [zae (c19 hs), za4, zag]
  unfold zoS
  cases ht : isT L t with
  | false => simp only [Bool.not_false, br, bnil, spl7, ncell7, Bool.false_eq_true, if_false]
  | true =>
    obtain ⟨i, n, hn, hi, hx⟩ := s_idx hs.all ht hL (fun p11 => zaB 7 true H p11 fun v12 =>
      zac 7 [.int .i64 0, .int .i64 0, .int .i64 0, .int .i64 0, .int .i64 0, .int .u64 0, .string ⟨#[]⟩] 0 v12 fun c13 => zab 7 true c13 0 fun v14 => some ((Value.tuple #[v14, (.int .i64 0)]), H))
    simp only [Bool.not_true, br, zeM, zb9, Nat.zero_add, hs.l1, zb0, if_true]
    rw [hx, ld7 hi hn, spl7, ncell7, hn]
    rfl
end
end Go.AM
namespace Go.AM
open Go
section
variable {H0 : Hp} {p f g : Nat} {lim : Int} {L : List Nd} {K : List (ByteArray × Int)} {sl : Value} (hst : StF H0 p lim L K sl f g) (hd : Dag L) (hL : L.length * 64 ≤ 2 ^ 46) (bv : Value)
  {x : Value} {ns : List Nat} (hx : Rdb H0 1 x ns.length (ints ns)) (hns : ∀ t ∈ ns, 1 ≤ t ∧ t ≤ L.length) (hnl : ns.length ≤ 2 ^ 40)
include hst hd hL hx hns hnl
end
end Go.AM
namespace Go.AM
open Go
section
variable {H0 : Hp} {p f g : Nat} {lim : Int} {L : List Nd} {K : List (ByteArray × Int)} {sl : Value} (hst : StF H0 p lim L K sl f g) (hd : Dag L) (hL : L.length * 64 ≤ 2 ^ 46) {x : Value} {rs : List Int} (hx : Rdb H0 1 x rs.length (zlQ rs)) (hl : rs.length ≤ 2 ^ 40)
include hst hd hL hx hl
end
end Go.AM
namespace Go.AM.N14
open Go Go.AM
theorem ikV : zj7 PP T.int := ⟨fun a b => by kernel_rfl, fun a => by kernel_rfl⟩
structure VS (B H : Hp) (m1 m2 : Nat) (V W : Int → Int) : Prop where
  next : B.next ≤ H.next
  old : ∀ j, j < B.next → H.get j = B.get j
  l1 : B.next ≤ m1
  l2 : B.next ≤ m2
  ne : m1 ≠ m2
  n1 : m1 < H.next
  f1 : MapU H m1 V
  f2 : MapF H m2 W
theorem VS.up1 {B H : Hp} {m1 m2 : Nat} {V W : Int → Int} (h : VS B H m1 m2 V W) (key v : Int) : ∃ H', (∀ (α : Type) (k : Hp → Option α), pUpd PP T.int (.map (some m1)) (.int .i64 key) (.int .u64 v) H k = k H') ∧ VS B H' m1 m2 (fun t => if t = key then v else V t) W := by
  obtain ⟨H', e1, e2, e3, e4⟩ := h.f1.upd ikV key v
  have a := h.l1
  exact ⟨H', e1, ⟨by rw [e4]; exact h.next, fun j hj => by rw [e3 j (by omega), h.old j hj], h.l1, h.l2, h.ne, by rw [e4]; exact h.n1, e2, h.f2.keep (e3 m2 (Ne.symm h.ne))⟩⟩
theorem VS.up2 {B H : Hp} {m1 m2 : Nat} {V W : Int → Int} (h : VS B H m1 m2 V W) (key v : Int) : ∃ H', (∀ (α : Type) (k : Hp → Option α), pUpd PP T.int (.map (some m2)) (.int .i64 key) (.int .i64 v) H k = k H') ∧ VS B H' m1 m2 V (fun t => if t = key then v else W t) := by
  obtain ⟨H', e1, e2, e3, e4⟩ := h.f2.upd ikV key v
  have a := h.l2
  exact ⟨H', e1, ⟨by rw [e4]; exact h.next, fun j hj => by rw [e3 j (by omega), h.old j hj], h.l1, h.l2, h.ne, by rw [e4]; exact h.n1, h.f1.keep (e3 m1 h.ne), e2⟩⟩
theorem step_val {B : Hp} {p f g : Nat} {lim : Int} {L : List Nd} {K : List (ByteArray × Int)} {sl : Value} (hst : StF B p lim L K sl f g) (hL : (L.length : Int) ≤ 4611686018427387904) {v : Value} {out : List Nat} (hv : Rdb B 1 v out.length (ints out)) (hol : out.length ≤ 2 ^ 41)
    {i t : Nat} (hi : out[i]? = some t) (ht : 1 ≤ t ∧ t ≤ L.length) {n : Nd} (hn : L[t - 1]? = some n) {H : Hp} {m1 m2 : Nat} {V W : Int → Int} (h : VS B H m1 m2 V W) {wa wb : Nat} {a b c : W64} (hok : Vok n wa wb a b)
    (hwa : (if n.a = (t : Int) then n.w else W n.a) = (wa : Int)) (hwb : (if n.b = (t : Int) then n.w else W n.b) = (wb : Int)) (hva : V n.a = (a.toNat : Int)) (hvb : V n.b = (b.toNat : Int)) (hvc : V n.c = (c.toNat : Int)) (v11 : Value) :
    ∃ H', zbx RR (.pointer (some ⟨p, 0, none⟩)) v v11 (.map (some m1)) (.map (some m2)) (.int .i64 (out.length : Int)) [.int .i64 (i : Int)] H = some (.next, [.int .i64 ((i + 1 : Nat) : Int)], H') ∧
      VS B H' m1 m2 (fun x => if x = (t : Int) then ((valW n wa wb a b c).toNat : Int) else V x) (fun x => if x = (t : Int) then n.w else W x) := by
  have hlt : i < out.length := (List.getElem?_eq_some_iff.1 hi).1
  have hvH : Rdb H 1 v out.length (ints out) := hv.keep' (fun j hj => h.old j (hv.lt hj)) h.next
  have hvI : Rdb H 1 v (out.map fun (t : Nat) => (t : Int)).length (zlQ (out.map fun (t : Nat) => (t : Int))) := by rw [List.length_map, ← zh3]; exact hvH
  obtain ⟨y, x1, x2⟩ := hvI.int (i := i) (t := (t : Int)) (by rw [List.getElem?_map, hi]; rfl)
  have q : (i : Int) < (out.length : Int) := by omega
  have w1 : IntKind.i64.wrap ((i : Int) + 1) = ((i + 1 : Nat) : Int) := zax (by omega) (by omega)
  have hstH : StF H p lim L K sl f g := hst.keep (fun i hi => h.old i (hst.foot_lt hi)) h.next
  have hT : isT L (t : Int) = true := zeU.2 ⟨by omega, by omega⟩
  have hnode : zoS L (t : Int) = n := by
    unfold zoS
    rw [hT, if_pos rfl, show ((t : Int) - 1).toNat = t - 1 by omega, hn]; rfl
  have e10 := Go.AM.c10 hstH.st hL (t : Int)
  rw [hnode, hT, if_pos rfl] at e10
  obtain ⟨H1, u2, h1⟩ := h.up2 (t : Int) n.w
  have hnd := p_node hok c H1
  obtain ⟨H2, u1, h2⟩ := h1.up1 (t : Int) ((valW n wa wb a b c).toNat : Int)
  have d4 : decide (n.op ≠ 4) = true := decide_eq_true hok.op.2.2
  have lv : ∀ (x : Int) (f : Value → Option Outc), zcn PP T.int (.int .u64 0) (.map (some m1)) (.int .i64 x) false H1 f = f (.int .u64 (V x)) := fun x f => h1.f1.look ikV x f
  have lw : ∀ (x : Int) (f : Value → Option Outc), zcn PP T.int (.int .i64 0) (.map (some m2)) (.int .i64 x) false H1 f = f (.int .i64 (if x = (t : Int) then n.w else W x)) := fun x f => h1.f2.look ikV x f
  have va : Value.int .u64 (V n.a) = wv a := by rw [hva]; rfl
  have vb : Value.int .u64 (V n.b) = wv b := by rw [hvb]; rfl
  have vc : Value.int .u64 (V n.c) = wv c := by rw [hvc]; rfl
  have u1' : ∀ (k : Hp → Option Outc), pUpd PP T.int (.map (some m1)) (.int .i64 (t : Int)) (wv (valW n wa wb a b c)) H1 k = k H2 := fun k => u1 _ k
  refine ⟨H2, ?_, h2⟩
  unfold zbx
  simp only [qg0]
  rw [lT q, x1, x2, zae e10, x01, spl7, ncell1, u2, zoV, zbY, zag, d4, zap, ncell7, zoU, lv, va, zoT, lv, vb, ncell4, lv, vc, zoU, lw, hwa, zoT, lw, hwb, zae hnd, u1', za6, w1]
end Go.AM.N14
namespace Go.AM
open Go
def zfJ (L : List Nd) (out : List Nat) : Prop := ∀ (i : Nat) t, out[i]? = some t → ∀ c ∈ kids L t, c ∈ out.take i
def Grew (L : List Nd) (l out out' : List Nat) : Prop := ∃ new, out' = out ++ new ∧ ∀ (i : Nat) x, new[i]? = some x → x ∈ l ∨ ∃ (j : Nat) (u : Nat), i < j ∧ new[j]? = some u ∧ x ∈ kids L u
theorem zfJ.app {L : List Nd} {out : List Nat} {t : Nat} (h : zfJ L out) (hk : ∀ c ∈ kids L t, c ∈ out) : zfJ L (out ++ [t]) := by
  intro i x hx c hc
  rw [List.getElem?_append] at hx
  split at hx
  · rename_i lt
    rw [List.take_append_of_le_length (by omega)]
    exact h i x hx c hc
  · have : i = out.length := by
      have := (List.getElem?_eq_some_iff.1 hx).1
      simp at this; omega
    subst this
    simp at hx
    subst hx
    rw [List.take_left' rfl]
    exact hk c hc
theorem Grew.refl (L : List Nd) (l out : List Nat) : Grew L l out out := ⟨[], by simp, fun i x h => by cases h⟩
theorem Grew.cons {L : List Nd} {c : Nat} {l out o1 o2 : List Nat} (h : Grew L [c] out o1) (k : Grew L l o1 o2) : Grew L (c :: l) out o2 := by
  obtain ⟨n1, e1, h1⟩ := h
  obtain ⟨n2, e2, h2⟩ := k
  refine ⟨n1 ++ n2, by rw [e2, e1, List.append_assoc], fun i x hx => ?_⟩
  rw [List.getElem?_append] at hx
  split at hx
  · rename_i lt
    rcases h1 i x hx with q | ⟨j, u, q1, q2, q3⟩
    · rw [List.mem_singleton] at q; subst q; exact .inl (List.mem_cons_self ..)
    · have := (List.getElem?_eq_some_iff.1 q2).1
      exact .inr ⟨j, u, q1, by rw [List.getElem?_append_left this]; exact q2, q3⟩
  · rename_i ge
    rcases h2 _ x hx with q | ⟨j, u, q1, q2, q3⟩
    · exact .inl (List.mem_cons_of_mem _ q)
    · exact .inr ⟨n1.length + j, u, by omega, by rw [List.getElem?_append_right (by omega), Nat.add_sub_cancel_left]; exact q2, q3⟩
theorem post_good {L : List Nd} (h : Dag L) : ∀ (t : Nat), 1 ≤ t → ∀ (out : List Nat), zfJ L out → zfJ L (post L t out) ∧ Grew L [t] out (post L t out) := by
  intro t
  induction t using Nat.strongRecOn with
  | _ t ih =>
    intro ht out hc
    rw [zjh h ht]
    split
    · exact ⟨hc, Grew.refl ..⟩
    · have key : ∀ (l : List Nat) (o : List Nat), (∀ c ∈ l, c ∈ kids L t) → zfJ L o → zfJ L (posts L l o) ∧ Grew L l o (posts L l o) := by
        intro l
        induction l with
        | nil => exact fun o _ h => ⟨h, Grew.refl ..⟩
        | cons c l ihl =>
          intro o hl ho
          have hcc := zgL h ht (hl c (List.mem_cons_self ..))
          obtain ⟨a1, a2⟩ := ih c hcc.2 hcc.1 o ho
          obtain ⟨b1, b2⟩ := ihl _ (fun c hc => hl c (List.mem_cons_of_mem _ hc)) a1
          exact ⟨b1, a2.cons b2⟩
      obtain ⟨k1, new, e, k2⟩ := key (kids L t) out (fun c hc => hc) hc
      have hm := (zfq h (N := t) (kids L t) out fun c hc => by have := zgL h ht hc; omega).2.1
      refine ⟨k1.app hm, new ++ [t], by rw [e, List.append_assoc], fun i x hx => ?_⟩
      rw [List.getElem?_append] at hx
      split at hx
      · rename_i lt
        rcases k2 i x hx with q | ⟨j, u, q1, q2, q3⟩
        · exact .inr ⟨new.length, t, lt, by rw [List.getElem?_append_right (Nat.le_refl _), Nat.sub_self]; rfl, q⟩
        · have := (List.getElem?_eq_some_iff.1 q2).1
          exact .inr ⟨j, u, q1, by rw [List.getElem?_append_left this]; exact q2, q3⟩
      · rename_i ge
        have := List.mem_of_getElem? hx
        exact .inl this
theorem zkD {L : List Nd} (h : Dag L) : ∀ (l o : List Nat), (∀ c ∈ l, 1 ≤ c) → zfJ L o → zfJ L (posts L l o) ∧ Grew L l o (posts L l o)
  | [], o, _, ho => ⟨ho, Grew.refl ..⟩
  | c :: l, o, hl, ho => by
    obtain ⟨a1, a2⟩ := post_good h c (hl c (List.mem_cons_self ..)) o ho
    obtain ⟨b1, b2⟩ := zkD h l _ (fun c hc => hl c (List.mem_cons_of_mem _ hc)) a1
    exact ⟨b1, a2.cons b2⟩
theorem zpI {L : List Nd} (h : Dag L) {i : Nat} {n : Nd} (hn : L[i]? = some n) : (∀ c ∈ zck n, (c : Int) = n.a ∨ (c : Int) = n.b ∨ (c : Int) = n.c) ∧ (∀ x : Int, x = n.a ∨ x = n.b ∨ x = n.c → x ≠ 0 → ∃ c ∈ zck n, (c : Int) = x) := by
  have ha := h.a i n hn
  have hb := h.b i n hn
  have hc := h.c i n hn
  unfold zck
  rcases zbU n.op with q | q | q | q <;> rw [q]
  · refine ⟨fun c hcm => by simp at hcm, fun x hx h0 => by omega⟩
  · refine ⟨fun c hcm => ?_, fun x hx h0 => ?_⟩
    · simp at hcm; omega
    · exact ⟨n.a.toNat, by simp, by omega⟩
  · refine ⟨fun c hcm => ?_, fun x hx h0 => ?_⟩
    · simp at hcm; omega
    · rcases hx with e | e | e
      · exact ⟨n.a.toNat, by simp, by omega⟩
      · exact ⟨n.b.toNat, by simp, by omega⟩
      · omega
  · refine ⟨fun c hcm => ?_, fun x hx h0 => ?_⟩
    · simp at hcm; omega
    · rcases hx with e | e | e
      · exact ⟨n.a.toNat, by simp, by omega⟩
      · exact ⟨n.b.toNat, by simp, by omega⟩
      · exact ⟨n.c.toNat, by simp, by omega⟩
end Go.AM
namespace Go.AM.N14
open Go Go.AM
structure IsVal (L : List Nd) (vf : Nat → W64) (S : Nat → Prop) : Prop where
  zero : vf 0 = 0#64
  ok : ∀ t n, 1 ≤ t → S t → L[t - 1]? = some n → Vok n (wT L 0 n.a).toNat (wT L 0 n.b).toNat (vf n.a.toNat) (vf n.b.toNat)
  eq : ∀ t n, 1 ≤ t → S t → L[t - 1]? = some n → vf t = valW n (wT L 0 n.a).toNat (wT L 0 n.b).toNat (vf n.a.toNat) (vf n.b.toNat) (vf n.c.toNat)
theorem wT_nn {L : List Nd} (h : ∀ m ∈ L, 0 ≤ m.w ∧ m.w ≤ 64) (t : Int) : 0 ≤ wT L 0 t := by
  unfold wT
  split
  · cases q : L[(t - 1).toNat]? with
    | none => exact Int.le_refl _
    | some m => exact (h m (List.mem_of_getElem? q)).1
  · exact Int.le_refl _
theorem wT_at {L : List Nd} {t : Nat} (ht : 1 ≤ t ∧ t ≤ L.length) {n : Nd} (hn : L[t - 1]? = some n) (d : Int) : wT L d (t : Int) = n.w := by
  unfold wT
  rw [zeU.2 ⟨by omega, by omega⟩, if_pos rfl, show ((t : Int) - 1).toNat = t - 1 by omega, hn]; rfl
theorem wT_0 (L : List Nd) : wT L 0 0 = 0 := rfl
section
variable {B : Hp} {p f g : Nat} {lim : Int} {L : List Nd} {K : List (ByteArray × Int)} {sl : Value} (hst : StF B p lim L K sl f g) (hL : (L.length : Int) ≤ 4611686018427387904) (hd : Dag L) (hw : ∀ m ∈ L, 0 ≤ m.w ∧ m.w ≤ 64)
  {v : Value} {out : List Nat} (hv : Rdb B 1 v out.length (ints out)) (hol : out.length ≤ 2 ^ 41) (hcl : zfJ L out) (hbd : ∀ t ∈ out, 1 ≤ t ∧ t ≤ L.length) {vf : Nat → W64} (hvf : IsVal L vf (· ∈ out)) (v11 : Value) {m1 m2 : Nat}
include hst hL hd hw hv hol hcl hbd hvf
theorem zl7 : ∀ (k i : Nat) (H : Hp) (V W : Int → Int), i + k = out.length → VS B H m1 m2 V W → V 0 = 0 → W 0 = 0 → (∀ t ∈ out.take i, V (t : Int) = ((vf t).toNat : Int) ∧ W (t : Int) = wT L 0 (t : Int)) →
    ∃ H' V' W', zaA (zbx RR (.pointer (some ⟨p, 0, none⟩)) v v11 (.map (some m1)) (.map (some m2)) (.int .i64 (out.length : Int))) [.int .i64 (i : Int)] H = some (.exit 0, [.int .i64 (out.length : Int)], H') ∧
      VS B H' m1 m2 V' W' ∧ ∀ t ∈ out, V' (t : Int) = ((vf t).toNat : Int)
  | 0, i, H, V, W, hk, h, _, _, hin => by
    have : i = out.length := by omega
    subst this
    refine ⟨H, V, W, ?_, h, fun t ht => (hin t (by rw [List.take_length]; exact ht)).1⟩
    rw [zaq]
    have : zbx RR (.pointer (some ⟨p, 0, none⟩)) v v11 (.map (some m1)) (.map (some m2)) (.int .i64 (out.length : Int)) [.int .i64 (out.length : Int)] H = some (.exit 0, [.int .i64 (out.length : Int)], H) := by
      unfold zbx
      simp only [qg0]
      rw [lF (Int.lt_irrefl _)]
    rw [this]; rfl
  | k + 1, i, H, V, W, hk, h, h0, hw0, hin => by
    have hlt : i < out.length := by omega
    have hi : out[i]? = some out[i] := List.getElem?_eq_getElem hlt
    generalize out[i] = t at hi
    have ht := hbd t (List.mem_of_getElem? hi)
    have hn : L[t - 1]? = some (L[t - 1]'(by omega)) := List.getElem?_eq_getElem (by omega)
    generalize L[t - 1]'(by omega) = n at hn
    have htS := List.mem_of_getElem? hi
    have hok := hvf.ok t n ht.1 htS hn
    have hkf := (zpI hd hn).2
    have hkt : kids L t = zck n := by unfold kids; rw [hn]
    have part : ∀ x : Int, x = n.a ∨ x = n.b ∨ x = n.c → 0 ≤ x → x < (t : Int) → V x = ((vf x.toNat).toNat : Int) ∧ (if x = (t : Int) then n.w else W x) = ((wT L 0 x).toNat : Int) := fun x hx h1 h2 => by
      rw [if_neg (by omega)]
      by_cases q : x = 0
      · subst q
        rw [h0, hw0]
        refine ⟨?_, by rw [wT_0]; rfl⟩
        show (0 : Int) = ((vf 0).toNat : Int)
        rw [hvf.zero]; rfl
      · obtain ⟨c, c1, c2⟩ := hkf x hx q
        obtain ⟨g1, g2⟩ := hin c (hcl i t hi c (by rw [hkt]; exact c1))
        rw [← c2, g1, g2, Int.toNat_natCast]
        refine ⟨rfl, ?_⟩
        have := wT_nn hw (c : Int)
        omega
    have ha := hd.a _ n hn
    have hb := hd.b _ n hn
    have hc := hd.c _ n hn
    obtain ⟨pa1, pa2⟩ := part n.a (.inl rfl) (by omega) (by omega)
    obtain ⟨pb1, pb2⟩ := part n.b (.inr (.inl rfl)) (by omega) (by omega)
    obtain ⟨pc1, _⟩ := part n.c (.inr (.inr rfl)) (by omega) (by omega)
    obtain ⟨H1, e1, h1⟩ := step_val hst hL hv hol hi ht hn h hok pa2 pb2 pa1 pb1 pc1 v11
    obtain ⟨H', V', W', g1, g2, g3⟩ := zl7 k (i + 1) H1 _ _ (by omega) h1 (by rw [if_neg (by omega)]; exact h0) (by rw [if_neg (by omega)]; exact hw0) (fun u hu => by
      rw [List.take_add_one, hi] at hu
      by_cases q : (u : Int) = (t : Int)
      · have : u = t := by omega
        subst this
        rw [if_pos rfl, if_pos rfl, wT_at ht hn, hvf.eq u n ht.1 htS hn]
        exact ⟨rfl, rfl⟩
      · rw [if_neg q, if_neg q]
        refine hin u ?_
        rcases List.mem_append.1 hu with hu | hu
        · exact hu
        · simp at hu
          omega)
    refine ⟨H', V', W', ?_, g2, g3⟩
    rw [zaq, e1]; exact g1
end
end Go.AM.N14
namespace Go.AM.N14
open Go Go.AM
def wvs (l : List W64) : List Value := l.map wv
theorem Vec.cap (H : Hp) {sz bytes : Nat} {zs : List Value} (hz : zs.length = sz) (h1 : zs.all one = true) {n : Nat} (hb : n * bytes ≤ 2 ^ 47) :
    ∃ v H', (∀ (α : Type) (k : Value → Hp → Option α), zbK sz bytes zs (.int .i64 0) (.int .i64 (n : Int)) H k = k v H') ∧ Vec H' sz v 0 [] ∧ Frm (fun _ => False) H H' ∧ (∀ j, Id v j → H.next ≤ j) := by
  have ra : ∀ n, (repl n zs).all one = true := fun n => by
    induction n with
    | zero => rfl
    | succ n ih => show (zs ++ repl n zs).all one = true; rw [List.all_append, h1, ih]; rfl
  refine ⟨.slice (some ⟨H.next, 0, some sz⟩) 0 n, H.new (.cells (repl n zs) true), fun α k => ?_, .inr ⟨H.next, n, repl n zs, rfl, Nat.zero_le _, ?_, by simp, by rw [zg3, hz]; rfl, by show H.next < H.next + 1; omega, ra n⟩, fr_new _ _ _, fun j hj => by cases hj; exact Nat.le_refl _⟩
  · have e : ((2 : Int) ^ 47) = ((2 ^ 47 : Nat) : Int) := by rfl
    have hb' : (n : Int) * (bytes : Int) ≤ 2 ^ 47 := by rw [e, ← Int.natCast_mul]; exact Int.ofNat_le.2 hb
    have : zcA sz bytes zs (.int .i64 0) (.int .i64 (n : Int)) H = some (.slice (some ⟨H.next, 0, some sz⟩) 0 n, H.new (.cells (repl n zs) true)) := by
      unfold zcA
      dsimp only
      rw [if_pos ⟨by omega, by omega, hb'⟩]
      rfl
    unfold zbK
    rw [this]
  · rw [get_new, if_pos rfl]; rfl
structure Made (B H : Hp) (v : Value) (n : Nat) (cs : List Value) : Prop where
  next : B.next ≤ H.next
  old : ∀ j, j < B.next → H.get j = B.get j
  vec : Vec H 1 v n cs
  new : ∀ j, Id v j → B.next ≤ j
theorem Made.push {B H : Hp} {v : Value} {n : Nat} {cs : List Value} (h : Made B H v n cs) (x : W64) (hb : (n + 1) * 8 ≤ 2 ^ 47) :
    ∃ v' H', (∀ (α : Type) (k : Value → Hp → Option α), (zaR 1 [.int .u64 0] 1 [(0, wv x)] H fun t H1 => zby 1 8 v t H1 k) = k v' H') ∧ Made B H' v' (n + 1) (cs ++ [wv x]) := by
  obtain ⟨v', H', e1, e2, e3, e4, _⟩ := h.vec.push (bytes := 8) (zs := [.int .u64 0]) (x := wv x) (by decide) (by decide) rfl rfl rfl hb
  have hn := h.next
  refine ⟨v', H', e1, Nat.le_trans h.next e3.next, fun j hj => ?_, e2, fun j hj => ?_⟩
  · rw [e3.same j (by omega) (fun q => by have := h.new j q; omega), h.old j hj]
  · rcases e4 j hj with q | q
    · exact h.new j q
    · omega
section
variable {B : Hp} {x : Value} {ns : List Nat} (hx : Rdb B 1 x ns.length (ints ns)) (hl : ns.length ≤ 2 ^ 40) {vf : Nat → W64} {m1 : Nat} {V : Int → Int} (hm : MapU B m1 V) (hml : m1 < B.next) (hV : ∀ t ∈ ns, V (t : Int) = ((vf t).toNat : Int))
include hx hl hm hml hV
theorem zol : ∀ (k i : Nat) (H : Hp) (v : Value), i + k = ns.length → Made B H v i (wvs ((ns.take i).map vf)) →
    ∃ H' v', zaA (zbw RR x (.map (some m1)) (.int .i64 (ns.length : Int))) [v, .int .i64 (i : Int)] H = some (.exit 2, [v', .int .i64 (ns.length : Int)], H') ∧ Made B H' v' ns.length (wvs (ns.map vf))
  | 0, i, H, v, hk, h => by
    have : i = ns.length := by omega
    subst this
    rw [List.take_length] at h
    refine ⟨H, v, ?_, h⟩
    rw [zaq]
    have : zbw RR x (.map (some m1)) (.int .i64 (ns.length : Int)) [v, .int .i64 (ns.length : Int)] H = some (.exit 2, [v, .int .i64 (ns.length : Int)], H) := by
      unfold zbw
      simp only [qg0, qg1]
      rw [lF (Int.lt_irrefl _)]
    rw [this]; rfl
  | k + 1, i, H, v, hk, h => by
    have hlt : i < ns.length := by omega
    have hi : ns[i]? = some ns[i] := List.getElem?_eq_getElem hlt
    generalize ns[i] = t at hi
    have hxH : Rdb H 1 x ns.length (ints ns) := hx.keep' (fun j hj => h.old j (hx.lt hj)) h.next
    have hxI : Rdb H 1 x (ns.map fun (t : Nat) => (t : Int)).length (zlQ (ns.map fun (t : Nat) => (t : Int))) := by rw [List.length_map, ← zh3]; exact hxH
    obtain ⟨y, x1, x2⟩ := hxI.int (i := i) (t := (t : Int)) (by rw [List.getElem?_map, hi]; rfl)
    have hmH : MapU H m1 V := hm.keep (h.old m1 hml)
    have lv : ∀ (f : Value → Option Outc), zcn PP T.int (.int .u64 0) (.map (some m1)) (.int .i64 (t : Int)) false H f = f (wv (vf t)) := fun f => by
      rw [hmH.look ikV, hV t (List.mem_of_getElem? hi)]; rfl
    have q : (i : Int) < (ns.length : Int) := by omega
    have w1 : IntKind.i64.wrap ((i : Int) + 1) = ((i + 1 : Nat) : Int) := zax (by omega) (by omega)
    obtain ⟨v1, H1, p1, p2⟩ := h.push (vf t) (by omega)
    have hcs : wvs ((ns.take i).map vf) ++ [wv (vf t)] = wvs ((ns.take (i + 1)).map vf) := by
      rw [List.take_add_one, hi]
      simp [wvs]
    rw [hcs] at p2
    obtain ⟨H', v', g1, g2⟩ := zol k (i + 1) H1 v1 (by omega) p2
    refine ⟨H', v', ?_, g2⟩
    rw [zaq]
    have : zbw RR x (.map (some m1)) (.int .i64 (ns.length : Int)) [v, .int .i64 (i : Int)] H = some (.next, [v1, .int .i64 ((i + 1 : Nat) : Int)], H1) := by
      unfold zbw
      simp only [qg0, qg1]
      rw [lT q, x1, x2, lv, p1, za6, w1]
    rw [this]; exact g1
end
theorem s_peql {α : Type} {P : Program} (T : TypeId) (a : Addr) (hT : ∃ t, P.underlying T = some (.pointer t)) (k : Value → Option α) : pBin P .eql T (.pointer (some a)) (.pointer none) k = k (.bool false) := by
  obtain ⟨t, ht⟩ := hT
  have : eqT P Op.maxDepth T (.pointer (some a)) (.pointer none) = some false := by
    unfold Op.maxDepth
    simp only [eqT, ht]
  simp only [pBin, binV, eqOp, this]
section
variable {H0 : Hp} {p f g : Nat} {lim : Int} {L : List Nd} {K : List (ByteArray × Int)} {sl : Value} (hst : StF H0 p lim L K sl f g) (hd : Dag L) (hL : L.length * 64 ≤ 2 ^ 46) (hw : ∀ m ∈ L, 0 ≤ m.w ∧ m.w ≤ 64)
  {x : Value} {ns : List Nat} (hx : Rdb H0 1 x ns.length (ints ns)) (hl : ns.length ≤ 2 ^ 40) (hb : ∀ t ∈ ns, 1 ≤ t ∧ t ≤ L.length) {vf : Nat → W64} (hvf : IsVal L vf (· ∈ posts L ns []))
include hst hd hL hw hx hl hb hvf
theorem p_values : ∃ H' v', RR F.a71 [.pointer (some ⟨p, 0, none⟩), x, .slice none 0 0] H0 = some (.tuple #[v', .int .i64 0], H') ∧ Made H0 H' v' ns.length (wvs (ns.map vf)) := by
  have hr := (zlu E0 rfl (.pointer (some ⟨p, 0, none⟩)) x (.slice none 0 0) H0).trans (zlP _ _ _ _ _)
  obtain ⟨H1, v1, e1, o1⟩ := c13_yes hst hd hL hx hl hb
  have z := @told_nil H1
  have hlen : (posts L ns []).length ≤ L.length := Told.len ((⟨List.nodup_nil, fun x h => by cases h⟩ : Told L.length []).posts hd hb)
  have hmem := zfq hd (N := L.length) ns [] hb
  have hbd : ∀ t ∈ posts L ns [], 1 ≤ t ∧ t ≤ L.length := fun t ht => by
    rcases hmem.2.2 t ht with q | q
    · cases q
    · exact q
  have hcl : zfJ L (posts L ns []) := (zkD hd ns [] (fun c hc => (hb c hc).1) (fun i t h => by cases h)).1
  generalize hout : posts L ns [] = out at *
  have hh : ∀ (n : Int) (f : Option (Value × Hp)), zkm (.int .i64 n) f = f := fun n f => rfl
  have hm : ∀ (H : Hp) (f : Value → Hp → Option (Value × Hp)), zc4 H f = f (.map (some H.next)) (H.new (.map [])) := fun H f => rfl
  let Ht := H1.new (.map [])
  let Hu := Ht.new (.map [])
  let Hv := Hu.new (.map [])
  have hn1 := o1.next
  have hvs : VS H1 Hv Ht.next Hu.next (fun _ => 0) (fun _ => 0) := by
    refine ⟨?_, fun j hj => ?_, ?_, ?_, ?_, ?_, ?_, ?_⟩
    · show H1.next ≤ H1.next + 1 + 1 + 1; omega
    · show (((H1.new (.map [])).new (.map [])).new (.map [])).get j = _
      rw [get_new, if_neg (by show j ≠ H1.next + 1 + 1; omega), get_new, if_neg (by show j ≠ H1.next + 1; omega), get_new, if_neg (by omega)]
    · show H1.next ≤ H1.next + 1; omega
    · show H1.next ≤ H1.next + 1 + 1; omega
    · show H1.next + 1 ≠ H1.next + 1 + 1; omega
    · show H1.next + 1 < H1.next + 1 + 1 + 1; omega
    · exact (MapU.new Ht).keep (by show (Hu.new (.map [])).get Ht.next = Hu.get Ht.next; rw [get_new, if_neg (by show H1.next + 1 ≠ H1.next + 1 + 1; omega)])
    · exact MapF.new Hu
  have hstB : StF H1 p lim L K sl f g := hst.keep (fun i hi => o1.old i (hst.foot_lt hi)) o1.next
  obtain ⟨H2, V', W', l1, h2, h3⟩ := zl7 (v := v1) hstB (by omega) hd hw o1.vec.rd (by omega) hcl hbd hvf (.map (some H1.next)) (m1 := Ht.next) (m2 := Hu.next) out.length 0 Hv (fun _ => 0) (fun _ => 0) (by omega) hvs rfl rfl (fun t ht => by rw [List.take_zero] at ht; cases ht)
  have hx2 : Rdb H2 1 x ns.length (ints ns) := hx.keep' (fun j hj => by
    have := hx.lt hj
    rw [h2.old j (by omega), o1.old j this]) (Nat.le_trans o1.next h2.next)
  obtain ⟨v3, H3, mk1, mk2, mk3, mk4⟩ := Vec.cap H2 (sz := 1) (bytes := 8) (zs := [.int .u64 0]) rfl rfl (n := ns.length) (by omega)
  have hml : Ht.next < H2.next := h2.n1
  obtain ⟨H4, v4, l2, h4⟩ := zol (B := H2) hx2 hl h2.f1 hml (fun t ht => h3 t (hmem.2.1 t ht)) ns.length 0 H3 v3 (by omega) ⟨mk3.next, fun j hj => mk3.same j hj (fun q => q), mk2, mk4⟩
  have l1' : zaA (zbx RR (.pointer (some ⟨p, 0, none⟩)) v1 (.map (some H1.next)) (.map (some (H1.new (.map [])).next)) (.map (some ((H1.new (.map [])).new (.map [])).next)) (.int .i64 (out.length : Int))) [.int .i64 0] (((H1.new (.map [])).new (.map [])).new (.map [])) = _ := l1
  have l2' : zaA (zbw RR x (.map (some (H1.new (.map [])).next)) (.int .i64 (ns.length : Int))) [v3, .int .i64 0] H3 = _ := l2
  rw [s_peql T.p_term_Store _ ⟨T.term_Store, by kernel_rfl⟩, zag, zan, zae e1, x01, zbY, bF (by decide), zae z, x01, zbY, bF (by decide), o1.vec.len, hh, hm, o1.vec.len, hh, hm, o1.vec.len, l1', zao, zbq, zaT, hx2.len, mk1, hx2.len, l2', zao, zbq, zaT] at hr
  refine ⟨H4, v4, hr, Nat.le_trans (Nat.le_trans o1.next h2.next) h4.next, fun j hj => ?_, h4.vec, fun j hj => Nat.le_trans (Nat.le_trans o1.next h2.next) (h4.new j hj)⟩
  rw [h4.old j (by have := h2.next; omega), h2.old j (by omega), o1.old j hj]
end
end Go.AM.N14
namespace Go.AM.N14
open Go Go.AM
theorem p_value1 {H0 : Hp} {p f g : Nat} {lim : Int} {L : List Nd} {K : List (ByteArray × Int)} {sl : Value} (hst : StF H0 p lim L K sl f g) (hd : Dag L) (hL : L.length * 64 ≤ 2 ^ 46) (hw : ∀ m ∈ L, 0 ≤ m.w ∧ m.w ≤ 64)
    {t : Nat} (ht : 1 ≤ t ∧ t ≤ L.length) {vf : Nat → W64} (hvf : IsVal L vf (· ∈ posts L [t] [])) :
    ∃ H', RR F.a110 [.pointer (some ⟨p, 0, none⟩), .int .i64 (t : Int), .slice none 0 0] H0 = some (.tuple #[wv (vf t), .int .i64 0], H') ∧ H0.next ≤ H'.next ∧ ∀ j, j < H0.next → H'.get j = H0.get j := by
  have hr := zmt E0 rfl (.pointer (some ⟨p, 0, none⟩)) (.int .i64 (t : Int)) (.slice none 0 0) H0
  unfold ziu at hr
  have hb : ∀ (k : Value → Hp → Option (Value × Hp)), zaR 1 [.int .i64 0] 1 [(0, .int .i64 (t : Int))] H0 k = k (.slice (some ⟨H0.next, 0, some 1⟩) 1 1) (H0.new (.cells [.int .i64 (t : Int)] true)) := fun k => rfl
  let H1 := H0.new (.cells [.int .i64 (t : Int)] true)
  have h1o : ∀ j, j < H0.next → H1.get j = H0.get j := fun j hj => by show (H0.new _).get j = _; rw [get_new, if_neg (by omega)]
  have h1n : H1.next = H0.next + 1 := rfl
  have hst1 : StF H1 p lim L K sl f g := hst.keep (fun i hi => h1o i (hst.foot_lt hi)) (by omega)
  have hx : Rdb H1 1 (.slice (some ⟨H0.next, 0, some 1⟩) 1 1) [t].length (ints [t]) := .inr ⟨H0.next, 1, [], true, rfl, Nat.le_refl _, by show (H0.new _).get _ = _; rw [get_new, if_pos rfl]; rfl, rfl, by omega⟩
  obtain ⟨H2, v, e1, m1⟩ := p_values hst1 hd hL hw hx (by show 1 ≤ _; decide) (fun u hu => by rw [List.mem_singleton] at hu; subst hu; exact ht) hvf
  obtain ⟨y, hy, ⟨rest, hg⟩, hix⟩ := m1.vec.ix (i := 0) (show 0 < 1 by decide)
  rw [hb, zae e1, x01, zbY, bF (by decide)] at hr
  have hix' : ∀ (k : Value → Option (Value × Hp)), pIdx 1 v (.int .i64 0) k = k (.pointer (some ⟨y, 0, none⟩)) := fun k => hix _ .i64 k
  rw [hix', zh2 hg (o := 0) (x := wv (vf t)) rfl] at hr
  have := m1.next
  exact ⟨H2, hr, by omega, fun j hj => by rw [m1.old j (by omega), h1o j hj]⟩
def cn (x : Fct) : Nd := if x.w = 0 then zkt (decide (x.least = 1#64)) else zpa x.w (x.least.toNat : Int)
structure Wd (x : Fct) : Prop where
  w : 0 ≤ x.w ∧ x.w ≤ 64
  l : x.least.toNat ≤ (msk (wd x.w)).toNat
theorem zjW {x : Fct} (h : Wd x) (h0 : x.w ≠ 0) : zfe x.w (x.least.toNat : Int) = (x.least.toNat : Int) := by
  have hw := h.w
  have e : x.w = ((x.w.toNat : Nat) : Int) := by omega
  have e2 : wd x.w = x.w.toNat := by unfold wd; omega
  have hl := h.l
  rw [e2] at hl
  rw [e, zld (by omega) (by omega), zbZ (by omega) hl]
theorem cn_op (x : Fct) : 1 ≤ (cn x).op ∧ (cn x).op ≤ 3 := by
  unfold cn
  split
  · unfold zkt; dsimp only; split <;> decide
  · exact ⟨by show (1 : Int) ≤ 3; decide, by show (3 : Int) ≤ 3; decide⟩
theorem cn_w {x : Fct} (h : Wd x) : (cn x).w = x.w := by
  unfold cn
  split
  · rename_i q; rw [q]; rfl
  · rfl
theorem cn_num {x : Fct} (h : Wd x) : 0 ≤ (cn x).num ∧ (cn x).num < 18446744073709551616 := by
  unfold cn
  split
  · exact nz
  · have := zjW h (by assumption)
    show 0 ≤ zfe _ _ ∧ zfe _ _ < _
    rw [this]
    have := x.least.isLt
    omega
def cval (n : Nd) : W64 := if n.op = 1 then 1#64 else if n.op = 2 then 0#64 else BitVec.ofInt 64 n.num
theorem cn_val {x : Fct} (h : Wd x) : cval (cn x) = x.least := by
  unfold cn
  split
  · rename_i q
    have hl := h.l
    rw [q] at hl
    have h01 := tr01 (a := x.least) hl
    rcases h01 with e | e <;> rw [e] <;> rfl
  · rename_i q
    have := zjW h q
    show BitVec.ofInt 64 (zfe x.w (x.least.toNat : Int)) = _
    rw [this]
    apply BitVec.eq_of_toNat_eq
    have := x.least.isLt
    rw [BitVec.toNat_ofInt]; omega
theorem cn_err {x : Fct} (h : Wd x) (L : List Nd) (K : List (ByteArray × Int)) : zdt L K (cn x) = 0 := by
  have ho := cn_op x
  have hw := h.w
  have hp : zam (cn x).op = 0 := by unfold zam; rw [if_pos (by omega)]
  have habc : (cn x).a = 0 ∧ (cn x).b = 0 ∧ (cn x).c = 0 ∧ (cn x).name = ⟨#[]⟩ := by unfold cn; split <;> exact ⟨rfl, rfl, rfl, rfl⟩
  refine (zi2 (a := 0) (b := 0) (c := 0) ⟨ho.1, by omega⟩ (by omega) (by rw [cn_w h]; exact hw) (cn_num h) (by unfold zmQ; rw [habc.2.2.2]; show (!((⟨#[]⟩ : ByteArray).toList == (⟨#[]⟩ : ByteArray).toList)) = false; rw [beq_self_eq_true]; rfl) ⟨.inr ⟨by omega, habc.1, rfl⟩, .inr ⟨by omega, habc.2.1, rfl⟩, .inr ⟨by omega, habc.2.2.1, rfl⟩⟩).2 ?_
  have hs : zbb (cn x) 0 0 0 = true := by
    unfold zbb
    by_cases q : x.w = 0
    · have : (cn x).op ≤ 2 := by unfold cn; rw [if_pos q]; unfold zkt; dsimp only; split <;> decide
      rw [if_pos this, cn_w h, q]; rfl
    · have : (cn x).op = 3 := by unfold cn; rw [if_neg q]; rfl
      have hn : (cn x).num = (x.least.toNat : Int) := by unfold cn; rw [if_neg q]; exact zjW h q
      have hl := h.l
      rw [if_neg (by omega), if_pos this, cn_w h, hn, decide_eq_true (by omega), decide_eq_true (by omega)]; rfl
  unfold zbT
  rw [hs]
  split
  · rename_i q
    exfalso
    apply q.1
    have : (cn x).op ≤ 2 := by omega
    unfold cn at this ⊢
    split
    · rfl
    · rename_i z; rw [if_neg z] at this; exact absurd this (by show ¬ (3 : Int) ≤ 2; decide)
  · rfl
structure CS (fs : Nat → Fct) (i : Nat) (L : List Nd) (p : Nat → Nat) : Prop where
  len : L.length ≤ i
  mem : ∀ m ∈ L, 1 ≤ m.op ∧ m.op ≤ 3 ∧ (0 ≤ m.w ∧ m.w ≤ 64) ∧ 0 ≤ m.num ∧ m.num < 18446744073709551616
  at_ : ∀ j, j < i → 1 ≤ p j ∧ p j ≤ L.length ∧ L[p j - 1]? = some (cn (fs j))
  dag : Dag L
theorem CS.roomy {fs : Nat → Fct} {i : Nat} {L : List Nd} {p : Nat → Nat} (h : CS fs i L p) (hi : i ≤ 3) : znl L := ⟨fun m hm => (h.mem m hm).2.2.1, by have := h.len; omega⟩
theorem zoY {lim : Int} {L : List Nd} {K : List (ByteArray × Int)} {n : Nd} (h : (mkR lim L K n).2.1 = 0) :
    ∃ t : Nat, (mkR lim L K n).1 = (t : Int) ∧ 1 ≤ t ∧ t ≤ (mkR lim L K n).2.2.1.length ∧ (mkR lim L K n).2.2.1[t - 1]? = some n ∧ ((mkR lim L K n).2.2.1 = L ∨ (mkR lim L K n).2.2.1 = L ++ [n]) := by
  rcases (mk_yes h).2 with ⟨q, h1, h2⟩ | ⟨_, _, h2⟩
  · rw [h2]
    have := (zif n L 0 q h1).2
    exact ⟨q + 1, rfl, by omega, (List.getElem?_eq_some_iff.1 this).1, this, .inl rfl⟩
  · rw [h2]
    refine ⟨L.length + 1, rfl, by omega, by simp, ?_, .inr rfl⟩
    simp
theorem zoZ {L : List Nd} {K : List (ByteArray × Int)} {n : Nd} (h : zdt L K n = 0) : (mkR 0 L K n).2.1 = 0 := znV.2 h
theorem CS.step {fs : Nat → Fct} {i : Nat} {L : List Nd} {p : Nat → Nat} (h : CS fs i L p) (hx : Wd (fs i)) (K : List (ByteArray × Int)) :
    ∃ t : Nat, (mkR 0 L K (cn (fs i))).1 = (t : Int) ∧ CS fs (i + 1) (mkR 0 L K (cn (fs i))).2.2.1 (fun j => if j = i then t else p j) := by
  obtain ⟨t, t1, t2, t3, t4, t5⟩ := zoY (zoZ (cn_err hx L K))
  refine ⟨t, t1, ⟨?_, fun m hm => ?_, fun j hj => ?_, mk_dag h.dag⟩⟩
  · have := h.len
    rcases t5 with q | q <;> rw [q]
    · omega
    · simp; omega
  · have hc : 1 ≤ (cn (fs i)).op ∧ (cn (fs i)).op ≤ 3 ∧ (0 ≤ (cn (fs i)).w ∧ (cn (fs i)).w ≤ 64) ∧ 0 ≤ (cn (fs i)).num ∧ (cn (fs i)).num < 18446744073709551616 := ⟨(cn_op _).1, (cn_op _).2, by rw [cn_w hx]; exact hx.w, (cn_num hx).1, (cn_num hx).2⟩
    rcases t5 with q | q <;> rw [q] at hm
    · exact h.mem m hm
    · rcases List.mem_append.1 hm with hm | hm
      · exact h.mem m hm
      · rw [List.mem_singleton] at hm; rw [hm]; exact hc
  · by_cases q : j = i
    · rw [if_pos q, q]; exact ⟨t2, t3, t4⟩
    · rw [if_neg q]
      obtain ⟨a1, a2, a3⟩ := h.at_ j (by omega)
      rcases t5 with z | z <;> rw [z]
      · exact ⟨a1, a2, a3⟩
      · exact ⟨a1, by simp; omega, by rw [List.getElem?_append_left (by omega)]; exact a3⟩
end Go.AM.N14
namespace Go.AM.N14
open Go Go.AM
def lvp (q : Nat → Nat) (i : Nat) : List Value := [.int .i64 (if 0 < i then (q 0 : Int) else 0), .int .i64 (if 1 < i then (q 1 : Int) else 0), .int .i64 (if 2 < i then (q 2 : Int) else 0)]
def fsV (fs : Nat → Fct) : Value := .agg (zaa (fs 0).val ++ zaa (fs 1).val ++ zaa (fs 2).val).toArray
def pf (n : Nd) (fs : Nat → Fct) (i : Nat) : Fct := if (i : Int) < zam n.op then fs i else F0
theorem fs_w {α : Type} (fs : Nat → Fct) {i : Nat} (h : i < 3) (f : Value → Option α) : zab 1 false (zaa (fsV fs)) ((0 + i * 5) + 0) f = f (.int .i64 (fs i).w) := by
  match i, h with
  | 0, _ => rfl
  | 1, _ => rfl
  | 2, _ => rfl
theorem fs_l {α : Type} (fs : Nat → Fct) {i : Nat} (h : i < 3) (f : Value → Option α) : zab 1 false (zaa (fsV fs)) ((0 + i * 5) + 3) f = f (wv (fs i).least) := by
  match i, h with
  | 0, _ => rfl
  | 1, _ => rfl
  | 2, _ => rfl
theorem loopC {fs : Nat → Fct} {p f g : Nat} {k : Nat} (hfs : ∀ i, i < k → Wd (fs i)) (hk : k ≤ 3) : ∀ (m i : Nat) (H : Hp) (sl : Value) (L : List Nd) (K : List (ByteArray × Int)) (q : Nat → Nat), i + m = k → StF H p 0 L K sl f g → CS fs i L q →
    ∃ H' sl' L' K' q', zaA (zbh RR (fsV fs) (.pointer (some ⟨p, 0, none⟩)) (.int .i64 (k : Int))) [.int .i64 (i : Int), .agg (lvp q i).toArray] H = some (.exit 0, [.int .i64 (k : Int), .agg (lvp q' k).toArray], H') ∧ One H 0 L K p f g sl H' L' K' sl' ∧ CS fs k L' q'
  | 0, i, H, sl, L, K, q, hi, h, hc => by
    have : i = k := by omega
    subst this
    refine ⟨H, sl, L, K, q, ?_, One.refl h, hc⟩
    rw [zaq]
    have : zbh RR (fsV fs) (.pointer (some ⟨p, 0, none⟩)) (.int .i64 (i : Int)) [.int .i64 (i : Int), .agg (lvp q i).toArray] H = some (.exit 0, [.int .i64 (i : Int), .agg (lvp q i).toArray], H) := by
      unfold zbh
      simp only [qg0, zbj, Int.lt_irrefl, decide_false, zag, zan]
      rfl
    rw [this]; rfl
  | m + 1, i, H, sl, L, K, q, hi, h, hc => by
    have hi3 : i < 3 := by omega
    have hik : i < k := by omega
    have hR : znl L := hc.roomy (by omega)
    obtain ⟨t, t1, t2⟩ := hc.step (hfs i hik) K
    have q1 : (i : Int) < (k : Int) := by omega
    have w1 : IntKind.i64.wrap ((i : Int) + 1) = ((i + 1 : Nat) : Int) := zax (by omega) (by omega)
    have hloc : ∀ (f : Nat → Option Outc), zaS 3 (.int .i64 (i : Int)) f = f i := fun f => by
      unfold zaS
      dsimp only
      rw [if_pos (by omega)]; rfl
    have hc3 : ∀ (f : List Value → Option Outc), zac 1 (zaa (.agg (lvp q i).toArray)) (0 + i * 1) (.int .i64 (t : Int)) f = f (lvp (fun j => if j = i then t else q j) (i + 1)) := fun f => by
      match i, hi3 with
      | 0, _ => rfl
      | 1, _ => rfl
      | 2, _ => rfl
    by_cases hw0 : (fs i).w = 0
    · have hcn : cn (fs i) = zkt (decide ((fs i).least = 1#64)) := by unfold cn; rw [if_pos hw0]
      obtain ⟨H1, s1, e1, o1⟩ := Does.one (L := L) (K := K) (d23 h hR (decide ((fs i).least = 1#64)))
      have e0 : (mkR 0 L K (cn (fs i))).2.1 = 0 := zoZ (cn_err (hfs i hik) L K)
      rw [hcn] at t1 t2 e0
      rw [t1, e0] at e1
      obtain ⟨H', s2, L2, K2, q2, g1, g2, g3⟩ := loopC hfs hk m (i + 1) H1 s1 _ _ _ (by omega) o1.st t2
      refine ⟨H', s2, L2, K2, q2, ?_, o1.trans g2, g3⟩
      have hb1 : ∀ (k : Value → Option Outc), pBin PP .eql T.uint64 (wv (fs i).least) (.int .u64 1) k = k (.bool (decide ((fs i).least = 1#64))) := fun k => zdU _ _ 1#64 k
      rw [zaq]
      have : zbh RR (fsV fs) (.pointer (some ⟨p, 0, none⟩)) (.int .i64 (k : Int)) [.int .i64 (i : Int), .agg (lvp q i).toArray] H = some (.next, [.int .i64 ((i + 1 : Nat) : Int), .agg (lvp (fun j => if j = i then t else q j) (i + 1)).toArray], H1) := by
        unfold zbh
        simp only [qg0, qd1, qd0, zbj, q1, decide_true, zag, zap, hloc, fs_w fs hi3, hw0, zay, fs_l fs hi3, hb1, zae e1, x01, hc3, za6, w1]
      rw [this]; exact g1
    · have hcn : cn (fs i) = zpa (fs i).w ((fs i).least.toNat : Int) := by unfold cn; rw [if_neg hw0]
      obtain ⟨H1, s1, e1, o1⟩ := Does.one (L := L) (K := K) (d24 h hR (fs i).w ((fs i).least.toNat : Int) ⟨by omega, by have := (fs i).least.isLt; omega⟩)
      have e0 : (mkR 0 L K (cn (fs i))).2.1 = 0 := zoZ (cn_err (hfs i hik) L K)
      rw [hcn] at t1 t2 e0
      rw [t1, e0] at e1
      obtain ⟨H', s2, L2, K2, q2, g1, g2, g3⟩ := loopC hfs hk m (i + 1) H1 s1 _ _ _ (by omega) o1.st t2
      refine ⟨H', s2, L2, K2, q2, ?_, o1.trans g2, g3⟩
      have e1' : RR F.a81 [.pointer (some ⟨p, 0, none⟩), .int .i64 (fs i).w, wv (fs i).least] H = some (.tuple #[.int .i64 (t : Int), .int .i64 0], H1) := e1
      rw [zaq]
      have : zbh RR (fsV fs) (.pointer (some ⟨p, 0, none⟩)) (.int .i64 (k : Int)) [.int .i64 (i : Int), .agg (lvp q i).toArray] H = some (.next, [.int .i64 ((i + 1 : Nat) : Int), .agg (lvp (fun j => if j = i then t else q j) (i + 1)).toArray], H1) := by
        unfold zbh
        simp only [qg0, qd1, qd0, zbj, q1, decide_true, zag, zap, hloc, fs_w fs hi3, hw0, decide_false, zan, zay, fs_l fs hi3, zae e1', x01, hc3, za6, w1]
      rw [this]; exact g1
noncomputable def vfC (L : List Nd) (x : W64) (u : Nat) : W64 := if u = 0 then 0#64 else match L[u - 1]? with
  | some m => if m.op ≤ 3 then cval m else x
  | none => 0#64
theorem valW_c {n : Nd} (h : 1 ≤ n.op ∧ n.op ≤ 3) (wa wb : Nat) (a b c : W64) : valW n wa wb a b c = cval n := by
  unfold valW cval
  by_cases h1 : n.op = 1
  · rw [if_pos h1, if_pos h1]
  rw [if_neg h1, if_neg h1]
  by_cases h2 : n.op = 2
  · rw [if_pos h2, if_pos h2]
  rw [if_neg h2, if_neg h2, if_pos (by omega)]
theorem p_kvalue {n : Nd} (ho : 1 ≤ n.op ∧ n.op ≤ 33) (h4 : n.op ≠ 4) (hw : 0 ≤ n.w ∧ n.w ≤ 64) (hnum : 0 ≤ n.num ∧ n.num < 18446744073709551616) {fs : Nat → Fct} (hfs : ∀ i : Nat, (i : Int) < zam n.op → Wd (fs i))
    (hs : zbT n (pf n fs 0).w (pf n fs 1).w (pf n fs 2).w = true) (H : Hp) :
    ∃ H', RR F.a56 [n.val, fsV fs] H = some (wv (valW n (pf n fs 0).w.toNat (pf n fs 1).w.toNat (pf n fs 0).least (pf n fs 1).least (pf n fs 2).least), H') ∧ H.next ≤ H'.next ∧ ∀ j, j < H.next → H'.get j = H.get j := by
  have hr := (zln E0 rfl n.val (fsV fs) H).trans (zlM _ _ _ _)
  have e16 := Go.AM.c16 0 H
  rw [if_neg (by decide)] at e16
  have hk3 : (0 : Int) ≤ zam n.op ∧ zam n.op ≤ 3 := by rcases zbU n.op with q | q | q | q <;> rw [q] <;> decide
  obtain ⟨k, hk⟩ : ∃ k : Nat, (k : Int) = zam n.op := ⟨(zam n.op).toNat, by omega⟩
  have a1 := newH_st 0 H
  have hn1 := zmN 0 H
  obtain ⟨H1, s1, L, K, q, l1, o1, hc⟩ := loopC (p := H.next + 2) (k := k) (fun i hi => hfs i (by omega)) (by omega) k 0 (newH 0 H) _ [] [] (fun _ => 0) (by omega) a1 ⟨Nat.le_refl _, (fun m hm => by cases hm), (fun j hj => by omega), Dag.nil⟩
  have l1' : zaA (zbh RR (fsV fs) (.pointer (some ⟨H.next + 2, 0, none⟩)) (.int .i64 (zam n.op))) [.int .i64 0, .agg [.int .i64 0, .int .i64 0, .int .i64 0].toArray] (newH 0 H) = some (.exit 0, [.int .i64 (k : Int), .agg (lvp q k).toArray], H1) := by
    rw [← hk]; exact l1
  have keep : H.next ≤ H1.next ∧ ∀ j, j < H.next → H1.get j = H.get j := by
    refine ⟨Nat.le_trans (by omega) o1.next, fun j hj => ?_⟩
    rw [o1.same j (by omega) (fun q => by have := ziT q; omega), ziP _ _ _ hj]
  rw [zae e16, x01, n0, zae (zlE ho _), l1', zao, zbq, zaT, n0, n1] at hr
  simp only [qd1, qd0, qg0] at hr
  let pi : Nat → Nat := fun i => if i < k then q i else 0
  let m : Nd := ⟨n.op, n.w, (pi 0 : Int), (pi 1 : Int), (pi 2 : Int), n.num, ⟨#[]⟩⟩
  have ci : ∀ i : Nat, ((if i < k then q i else 0 : Nat) : Int) = if i < k then (q i : Int) else 0 := fun i => by split <;> rfl
  have c0 : ∀ (f : Value → Option (Value × Hp)), zab 1 false (zaa (.agg (lvp q k).toArray)) 0 f = f (.int .i64 m.a) := fun f => by
    show f (.int .i64 (if 0 < k then (q 0 : Int) else 0)) = _
    rw [← ci]
  have c1 : ∀ (f : Value → Option (Value × Hp)), zab 1 false (zaa (.agg (lvp q k).toArray)) 1 f = f (.int .i64 m.b) := fun f => by
    show f (.int .i64 (if 1 < k then (q 1 : Int) else 0)) = _
    rw [← ci]
  have c2 : ∀ (f : Value → Option (Value × Hp)), zab 1 false (zaa (.agg (lvp q k).toArray)) 2 f = f (.int .i64 m.c) := fun f => by
    show f (.int .i64 (if 2 < k then (q 2 : Int) else 0)) = _
    rw [← ci]
  have hb2 : ∀ (a b c : Int) (f : Value → Option (Value × Hp)), zar PP T.api_Node [(0, .int .i64 n.op), (1, .int .i64 n.w), (2, .int .i64 a), (3, .int .i64 b), (4, .int .i64 c), (5, .int .u64 n.num)] f = f (Nd.val ⟨n.op, n.w, a, b, c, n.num, ⟨#[]⟩⟩) := fun a b c f => bld (by kernel_rfl) f
  have hR : znl L := hc.roomy (by omega)
  obtain ⟨H2, s2, e2, o2⟩ := Does.one (L := L) (K := K) (d22 o1.st hR m hnum)
  have hnmd : zmQ m = false := by
    unfold zmQ
    show (!((⟨#[]⟩ : ByteArray).toList == (⟨#[]⟩ : ByteArray).toList)) = false
    rw [beq_self_eq_true]; rfl
  have atI : ∀ i, i < k → 1 ≤ q i ∧ q i ≤ L.length ∧ L[q i - 1]? = some (cn (fs i)) := hc.at_
  have hp : zpi L m (pf n fs 0).w (pf n fs 1).w (pf n fs 2).w := by
    have key : ∀ (i : Nat), i < 3 → ((zam n.op ≥ ((i + 1 : Nat) : Int) ∧ isT L (pi i : Int) = true ∧ wT L (-1) (pi i : Int) = (pf n fs i).w) ∨ (zam n.op < ((i + 1 : Nat) : Int) ∧ (pi i : Int) = 0 ∧ (pf n fs i).w = 0)) := fun i hi3 => by
      unfold pf
      show (_ ∧ isT L ((if i < k then q i else 0 : Nat) : Int) = true ∧ wT L (-1) ((if i < k then q i else 0 : Nat) : Int) = _) ∨ (_ ∧ ((if i < k then q i else 0 : Nat) : Int) = 0 ∧ _)
      by_cases z : i < k
      · obtain ⟨g1, g2, g3⟩ := atI i z
        rw [if_pos z, if_pos (by omega)]
        exact .inl ⟨by omega, zeU.2 ⟨by omega, by omega⟩, by rw [wT_at ⟨g1, g2⟩ g3, cn_w (hfs i (by omega))]⟩
      · rw [if_neg z, if_neg (by omega)]
        exact .inr ⟨by omega, rfl, rfl⟩
    exact ⟨key 0 (by decide), key 1 (by decide), key 2 (by decide)⟩
  have hsm : zbT m (pf n fs 0).w (pf n fs 1).w (pf n fs 2).w = true := hs
  have he := (zi2 (n := m) (K := K) ho h4 hw hnum hnmd hp).2 hsm
  have hz := zoZ he
  obtain ⟨t, t1, t2, t3, t4, t5⟩ := zoY hz
  rw [t1, hz] at e2
  have hdag : Dag (mkR 0 L K m).2.2.1 := mk_dag hc.dag
  have st2 := o2.st
  generalize (mkR 0 L K m).2.2.1 = L' at *
  generalize (mkR 0 L K m).2.2.2 = K' at *
  have hmem : ∀ x ∈ L', (1 ≤ x.op ∧ x.op ≤ 3 ∧ (0 ≤ x.w ∧ x.w ≤ 64) ∧ 0 ≤ x.num ∧ x.num < 18446744073709551616) ∨ x = m := fun x hx => by
    rcases t5 with z | z <;> rw [z] at hx
    · exact .inl (hc.mem x hx)
    · rcases List.mem_append.1 hx with hx | hx
      · exact .inl (hc.mem x hx)
      · exact .inr (List.mem_singleton.1 hx)
  have hlen : L'.length ≤ 4 := by
    have := hc.len
    rcases t5 with z | z <;> rw [z]
    · omega
    · simp; omega
  have pre : ∀ (i : Nat) x, L[i]? = some x → L'[i]? = some x := fun i x hx => by
    rcases t5 with z | z <;> rw [z]
    · exact hx
    · rw [List.getElem?_append_left (List.getElem?_eq_some_iff.1 hx).1]; exact hx
  let X := valW n (pf n fs 0).w.toNat (pf n fs 1).w.toNat (pf n fs 0).least (pf n fs 1).least (pf n fs 2).least
  have part : ∀ i, i < 3 → (wT L' 0 ((pi i : Nat) : Int)).toNat = (pf n fs i).w.toNat ∧ vfC L' X (pi i) = (pf n fs i).least := fun i hi3 => by
    unfold pf
    show (wT L' 0 ((if i < k then q i else 0 : Nat) : Int)).toNat = _ ∧ vfC L' X (if i < k then q i else 0) = _
    by_cases z : i < k
    · obtain ⟨g1, g2, g3⟩ := atI i z
      have g4 := pre _ _ g3
      have g5 := (List.getElem?_eq_some_iff.1 g4).1
      rw [if_pos z, if_pos (by omega), wT_at ⟨g1, by omega⟩ g4, cn_w (hfs i (by omega))]
      refine ⟨rfl, ?_⟩
      unfold vfC
      rw [if_neg (by omega), g4]
      dsimp only
      rw [if_pos (cn_op _).2, cn_val (hfs i (by omega))]
    · rw [if_neg z, if_neg (by omega)]
      exact ⟨rfl, rfl⟩
  obtain ⟨pa1, pa2⟩ := part 0 (by decide)
  obtain ⟨pb1, pb2⟩ := part 1 (by decide)
  obtain ⟨pc1, pc2⟩ := part 2 (by decide)
  have hpfw : ∀ i, i < 3 → Wd (pf n fs i) := fun i hi => by
    unfold pf
    split
    · rename_i q; exact hfs i q
    · exact ⟨by decide, by decide⟩
  have hvf : IsVal L' (vfC L' X) (fun _ => True) := by
    refine ⟨rfl, fun u x hu _ hx => ?_, fun u x hu _ hx => ?_⟩
    · rcases hmem x (List.mem_of_getElem? hx) with ⟨z1, z2, z3, z4⟩ | z
      · exact ⟨⟨z1, by omega, by omega⟩, z4, (fun h => by omega), (fun h => by omega), (fun h => by omega), (fun h => by omega), (fun h => by omega), (fun h => by omega), (fun h => by omega)⟩
      · subst z
        show Vok m (wT L' 0 ((pi 0 : Nat) : Int)).toNat (wT L' 0 ((pi 1 : Nat) : Int)).toNat (vfC L' X (pi 0)) (vfC L' X (pi 1))
        rw [pa1, pb1, pa2, pb2]
        have wA := hpfw 0 (by decide)
        have wB := hpfw 1 (by decide)
        have a1 := wA.w
        have b1 := wB.w
        have key : ∀ y : Fct, Wd y → y.w.toNat = 0 → y.least.toNat ≤ 1 := fun y hy h0 => by
          have h1 := hy.l
          have h2 := hy.w
          rw [show y.w = 0 by omega] at h1
          exact h1
        have vk := vok_of ho h4 hw hnum (c := (pf n fs 2).w) (by omega) (by omega) (key _ wA) (key _ wB) (by
          rw [show (((pf n fs 0).w.toNat : Nat) : Int) = (pf n fs 0).w by omega, show (((pf n fs 1).w.toNat : Nat) : Int) = (pf n fs 1).w by omega]; exact hs)
        exact ⟨vk.op, vk.num, vk.t, vk.cmp, vk.un, vk.sh, vk.cat, vk.sl, vk.ext⟩
    · have ev : vfC L' X u = if x.op ≤ 3 then cval x else X := by
        unfold vfC
        rw [if_neg (by omega), hx]
      rw [ev]
      by_cases z : x.op ≤ 3
      · have z1 : 1 ≤ x.op := by
          rcases hmem x (List.mem_of_getElem? hx) with ⟨z1, _⟩ | z
          · exact z1
          · rw [z]; exact ho.1
        rw [if_pos z, valW_c ⟨z1, z⟩]
      · rw [if_neg z]
        rcases hmem x (List.mem_of_getElem? hx) with ⟨z1, z2, _⟩ | z'
        · exact absurd z2 z
        · subst z'
          show X = valW m (wT L' 0 ((pi 0 : Nat) : Int)).toNat (wT L' 0 ((pi 1 : Nat) : Int)).toNat (vfC L' X (pi 0)) (vfC L' X (pi 1)) (vfC L' X (pi 2))
          rw [pa1, pb1, pa2, pb2, pc2]
          rfl
  obtain ⟨H3, e3, g3, g4⟩ := p_value1 st2 hdag (by omega) (fun x hx => by
    rcases hmem x hx with ⟨_, _, z, _⟩ | z
    · exact z
    · rw [z]; exact hw) ⟨t2, t3⟩ (vf := vfC L' X) ⟨hvf.zero, fun u x a _ b => hvf.ok u x a trivial b, fun u x a _ b => hvf.eq u x a trivial b⟩
  have hans : vfC L' X t = X := by
    rw [hvf.eq t m t2 trivial t4]
    show valW m (wT L' 0 ((pi 0 : Nat) : Int)).toNat (wT L' 0 ((pi 1 : Nat) : Int)).toNat (vfC L' X (pi 0)) (vfC L' X (pi 1)) (vfC L' X (pi 2)) = X
    rw [pa1, pb1, pa2, pb2, pc2]
    rfl
  rw [hans] at e3
  rw [c0, c1, c2, n5, hb2, zae e2, x01, zae e3, x01] at hr
  have o12 := o1.trans o2
  refine ⟨H3, hr, Nat.le_trans keep.1 (Nat.le_trans o2.next g3), fun j hj => ?_⟩
  rw [g4 j (by have := o2.next; omega), o12.same j (by omega) (fun q => by have := ziT q; omega), ziP _ _ _ hj]
end Go.AM.N14
namespace Go.AM.N14
open Go Go.AM
structure Row (x y : Fct) : Prop where
  mx : x.May
  my : y.May
  w : x.w = y.w
  mem : ∀ t, Mem x t ↔ Mem y t
theorem Row.refl {x : Fct} (h : x.May) : Row x x := ⟨h, h, rfl, fun _ => Iff.rfl⟩
theorem Sd.le {f : Fct} (h : Sd f) : f.least.toNat ≤ f.top.toNat := (h.stl.all _ h.stl.lo).2
theorem Sd.exl {f : Fct} (h : Sd f) (i : Nat) : exl (f.one.getLsbD i) (f.zero.getLsbD i) := fun ⟨a, b⟩ => by
  have := h.stl.lo.1.dis i a
  rw [b] at this; cases this
theorem zcu {n : Nat} (hn : n ≤ 64) {x y : W64} (hx : x.toNat ≤ (msk n).toNat) : (x &&& y).toNat ≤ (msk n).toNat := (zaQ hn).2 fun j hj => by
  rw [BitVec.getLsbD_and, (zaQ hn).1 hx j hj, Bool.false_and]
theorem zeo {n : Nat} (hn : n ≤ 64) {x y : W64} (hx : x.toNat ≤ (msk n).toNat) (hy : y.toNat ≤ (msk n).toNat) : (x ||| y).toNat ≤ (msk n).toNat := (zaQ hn).2 fun j hj => by
  rw [BitVec.getLsbD_or, (zaQ hn).1 hx j hj, (zaQ hn).1 hy j hj, Bool.false_or]
theorem zoo {n : Nat} {x : W64} (hx : x.toNat ≤ (msk n).toNat) : (msk n - x).toNat ≤ (msk n).toNat := by
  rw [BitVec.toNat_sub_of_le (by rw [BitVec.le_def]; exact hx)]; omega
theorem zero_le (n : Nat) : (0#64).toNat ≤ (msk n).toNat := Nat.zero_le _
theorem mn_le {a b : W64} {n : Nat} (ha : a.toNat ≤ n) (hb : b.toNat ≤ n) : (mn a b).toNat ≤ n := by unfold mn; split <;> assumption
theorem rip_le {n : Nat} (hn : n ≤ 64) (a b : Fct) (c : Bool) : ∀ i, i ≤ n → (ripO a b c i).1.toNat ≤ (msk n).toNat ∧ (ripO a b c i).2.toNat ≤ (msk n).toNat
  | 0, _ => ⟨zero_le _, zero_le _⟩
  | i + 1, h => by
    obtain ⟨h1, h2⟩ := rip_le hn a b c i (by omega)
    unfold ripO
    split
    · split
      · exact ⟨zoF hn (by omega) h1, h2⟩
      · exact ⟨h1, zoF hn (by omega) h2⟩
    · exact ⟨h1, h2⟩
theorem zo9 {a : Fct} (ha : a.May) (b : Fct) : (difF a b).May := by
  have hn := zbf ha.w64
  obtain ⟨r1, r2⟩ := rip_le hn a (neg1 b a.w) true _ (Nat.le_refl _)
  unfold difF
  dsimp only
  split
  · exact ⟨ha.w0, ha.w64, r1, r2, zbz hn _, zbz hn _⟩
  split
  · exact ⟨ha.w0, ha.w64, r1, r2, zbz hn _, zbz hn _⟩
  · exact ⟨ha.w0, ha.w64, r1, r2, zero_le _, Nat.le_refl _⟩
theorem sumF_may {a : Fct} (ha : a.May) (b : Fct) : (sumF a b).May := by
  have hn := zbf ha.w64
  obtain ⟨r1, r2⟩ := rip_le hn a b false _ (Nat.le_refl _)
  unfold sumF
  dsimp only
  split
  · exact ⟨ha.w0, ha.w64, r1, r2, zbz hn _, zbz hn _⟩
  · exact ⟨ha.w0, ha.w64, r1, r2, zero_le _, Nat.le_refl _⟩
theorem remF_may {a b : Fct} (ha : a.May) : (remF a b).May := by
  unfold remF
  split
  · exact ha
  split
  · refine ⟨ha.w0, ha.w64, zero_le _, zero_le _, zero_le _, ?_⟩
    show (mn a.top (b.top - 1#64)).toNat ≤ (msk (wd a.w)).toNat
    unfold mn
    split
    · have := ha.top
      omega
    · exact ha.top
  · exact ⟨ha.w0, ha.w64, zero_le _, zero_le _, zero_le _, ha.top⟩
theorem divF_may {a b : Fct} (ha : a.May) : (divF a b).May := by
  unfold divF
  split
  · refine ⟨ha.w0, ha.w64, zero_le _, zero_le _, ?_, ?_⟩
    · show (a.least / b.top).toNat ≤ _
      rw [BitVec.toNat_udiv]
      exact Nat.le_trans (Nat.div_le_self _ _) ha.least
    · show (a.top / b.least).toNat ≤ _
      rw [BitVec.toNat_udiv]
      exact Nat.le_trans (Nat.div_le_self _ _) ha.top
  · exact ⟨ha.w0, ha.w64, zero_le _, zero_le _, zero_le _, Nat.le_refl _⟩
theorem zm9 {n k m : Nat} (hm : m ≤ 64) (hk : n + k ≤ m) {x y : W64} (hx : x.toNat ≤ (msk n).toNat) (hy : y.toNat ≤ (msk k).toNat) : (x <<< k ||| y).toNat ≤ (msk m).toNat := (zaQ hm).2 fun j hj => by
  rw [BitVec.getLsbD_or, BitVec.getLsbD_shiftLeft, (zaQ (by omega)).1 hx (j - k) (by omega), (zaQ (by omega)).1 hy j (by omega)]
  simp
theorem zcP {n m : Nat} (hm : m ≤ 64) (h : n ≤ m) {x : W64} (hx : x.toNat ≤ (msk n).toNat) : x.toNat ≤ (msk m).toNat := (zaQ hm).2 fun j hj => (zaQ (by omega)).1 hx j (by omega)
theorem zlB {n : Nd} (ho : 30 ≤ n.op ∧ n.op ≤ 33) (hw : 1 ≤ n.w ∧ n.w ≤ 64) {a b : Fct} (ha : a.May) (hb : b.May) (h1 : 1 ≤ a.w) (h30 : n.op = 30 → 1 ≤ b.w ∧ n.w = a.w + b.w) (h32 : 32 ≤ n.op → a.w ≤ n.w) : (pieF n a b).May := by
  have hn := zbf hw.2
  unfold pieF
  dsimp only
  split
  · rename_i q
    obtain ⟨g1, g2⟩ := h30 q
    have hk : wd a.w + wd b.w ≤ wd n.w := by unfold wd; omega
    exact ⟨by show 0 ≤ n.w; omega, hw.2, zm9 hn hk ha.one hb.one, zm9 hn hk ha.zero hb.zero, zm9 hn hk ha.least hb.least, zm9 hn hk ha.top hb.top⟩
  split
  · split
    · exact ⟨by show 0 ≤ n.w; omega, hw.2, zbz hn _, zbz hn _, zbz hn _, zbz hn _⟩
    · exact ⟨by show 0 ≤ n.w; omega, hw.2, zbz hn _, zbz hn _, zero_le _, Nat.le_refl _⟩
  have hup : (msk (wd n.w) &&& ~~~ msk (wd a.w)).toNat ≤ (msk (wd n.w)).toNat := zcu hn (Nat.le_refl _)
  have hle : wd a.w ≤ wd n.w := by have := h32 (by omega); unfold wd; omega
  split
  · exact ⟨by show 0 ≤ n.w; omega, hw.2, zcP hn hle ha.one, zeo hn (zcP hn hle ha.zero) hup, zcP hn hle ha.least, zcP hn hle ha.top⟩
  split
  · exact ⟨by show 0 ≤ n.w; omega, hw.2, zcP hn hle ha.one, zeo hn (zcP hn hle ha.zero) hup, zcP hn hle ha.least, zcP hn hle ha.top⟩
  split
  · exact ⟨by show 0 ≤ n.w; omega, hw.2, zeo hn (zcP hn hle ha.one) hup, zcP hn hle ha.zero, zeo hn (zcP hn hle ha.least) hup, zeo hn (zcP hn hle ha.top) hup⟩
  · exact ⟨by show 0 ≤ n.w; omega, hw.2, zcP hn hle ha.one, zcP hn hle ha.zero, zero_le _, Nat.le_refl _⟩
abbrev Fr0 := Frm (fun _ => False)
theorem Fr0.refl (H : Hp) : Fr0 H H := Frm.refl _ H
theorem Fr0.trans {H H1 H2 : Hp} (h : Fr0 H H1) (k : Fr0 H1 H2) : Fr0 H H2 := Frm.trans h k fun _ q => q.elim
theorem al1 (cs : List Value) (H : Hp) {α : Type} (k : Value → Hp → Option α) : ze2 cs H k = k (.pointer (some ⟨H.next, 0, none⟩)) (H.new (.cells cs true)) := rfl
theorem of1 (p n o : Nat) {α : Type} (k : Value → Option α) : za7 n (.pointer (some ⟨p, o, none⟩)) k = k (.pointer (some ⟨p, o + n, none⟩)) := rfl
structure FB (H : Hp) (p : Nat) (f : Fct) : Prop where
  at_ : H.get p = some (.cells (zaa f.val) true)
section
variable {H : Hp} {p : Nat} {f : Fct} (h : FB H p f) {α : Type} (k : Value → Option α)
include h
theorem FB.rd (i : Nat) (v : Value) (hv : (zaa f.val)[i]? = some v) : Hp.rdP H (.pointer (some ⟨p, i, none⟩)) 1 false = some v := by
  show Hp.rd H p i 1 false = some v
  unfold Hp.rd
  rw [h.at_]
  exact hv
theorem FB.ld (i : Nat) (v : Value) (hv : (zaa f.val)[i]? = some v) : zaB 1 false H (.pointer (some ⟨p, i, none⟩)) k = k v := by
  unfold zaB; rw [h.rd i v hv]
theorem FB.w : zaB 1 false H (.pointer (some ⟨p, 0, none⟩)) k = k (.int .i64 f.w) := h.ld k 0 _ rfl
theorem FB.one : zaB 1 false H (.pointer (some ⟨p, 1, none⟩)) k = k (wv f.one) := h.ld k 1 _ rfl
theorem FB.zero : zaB 1 false H (.pointer (some ⟨p, 2, none⟩)) k = k (wv f.zero) := h.ld k 2 _ rfl
theorem FB.least : zaB 1 false H (.pointer (some ⟨p, 3, none⟩)) k = k (wv f.least) := h.ld k 3 _ rfl
theorem FB.top : zaB 1 false H (.pointer (some ⟨p, 4, none⟩)) k = k (wv f.top) := h.ld k 4 _ rfl
end
end Go.AM.N14
namespace Go.AM.N14
open Go Go.AM
theorem sgn_nat {n : Nat} (h0 : 1 ≤ n) (hn : n ≤ 64) : ((1#64) <<< (n - 1)).toNat = 2 ^ (n - 1) := by
  have h1 : 2 ^ (n - 1) < 2 ^ 64 := Nat.pow_lt_pow_right (by decide) (by omega)
  rw [BitVec.toNat_shiftLeft, Nat.shiftLeft_eq, show (1#64).toNat = 1 from rfl, Nat.one_mul, Nat.mod_eq_of_lt h1]
theorem zla (x : W64) (i j : Nat) (hi : i < 64) : (x ^^^ (1#64) <<< i).getLsbD j = (x.getLsbD j ^^ decide (j = i)) := by
  rw [BitVec.getLsbD_xor, zbQ i j hi]
theorem sgx {n : Nat} (h0 : 1 ≤ n) (hn : n ≤ 64) {x : W64} (hx : x.toNat ≤ (msk n).toNat) : sg n x = ((x ^^^ (1#64) <<< (n - 1)).toNat : Int) - ((2 ^ (n - 1) : Nat) : Int) := by
  rw [zkv h0 hn, zbZ hn hx]
  have hs := sgn_nat h0 hn
  have h2 : 2 ^ n = 2 * 2 ^ (n - 1) := by rw [← Nat.pow_succ']; congr 1; omega
  have hp : 0 < 2 ^ (n - 1) := Nat.two_pow_pos _
  have hlt : 2 ^ (n - 1) ≤ 2 ^ 63 := Nat.pow_le_pow_right (by decide) (by omega)
  have hsum : ∀ y : W64, y.toNat ≤ (msk (n - 1)).toNat → (y + (1#64) <<< (n - 1)).toNat = y.toNat + 2 ^ (n - 1) := fun y hy => by
    rw [zep _ (by omega)] at hy
    rw [BitVec.toNat_add, hs, Nat.mod_eq_of_lt (by omega)]
  split
  · rename_i hb
    have hlow : (x ^^^ (1#64) <<< (n - 1)).toNat ≤ (msk (n - 1)).toNat := (zaQ (by omega)).2 fun j hj => by
      rw [zla x _ j (by omega)]
      by_cases q : j = n - 1
      · subst q; rw [hb]; simp
      · rw [(zaQ hn).1 hx j (by omega)]; simp [q]
    have hx' : (x ^^^ (1#64) <<< (n - 1)) + (1#64) <<< (n - 1) = x := by
      rw [BitVec.add_eq_or_of_and_eq_zero]
      · refine zbL fun j => ?_
        rw [BitVec.getLsbD_or, zla x _ j (by omega), zbQ _ j (by omega)]
        by_cases q : j = n - 1
        · subst q; rw [hb]; simp
        · simp [q]
      · refine zbL fun j => ?_
        rw [BitVec.getLsbD_and, zla x _ j (by omega), zbQ _ j (by omega)]
        by_cases q : j = n - 1
        · subst q; rw [hb]; simp
        · simp [q]
    have := hsum _ hlow
    rw [hx'] at this
    omega
  · rename_i hb
    have hb : x.getLsbD (n - 1) = false := by simpa using hb
    have hlow : x.toNat ≤ (msk (n - 1)).toNat := (zaQ (by omega)).2 fun j hj => by
      by_cases q : j = n - 1
      · subst q; exact hb
      · exact (zaQ hn).1 hx j (by omega)
    have hx' : x + (1#64) <<< (n - 1) = x ^^^ (1#64) <<< (n - 1) := by
      rw [BitVec.add_eq_or_of_and_eq_zero]
      · refine zbL fun j => ?_
        rw [BitVec.getLsbD_or, zla x _ j (by omega), zbQ _ j (by omega)]
        by_cases q : j = n - 1
        · subst q; rw [hb]; simp
        · simp [q]
      · refine zbL fun j => ?_
        rw [BitVec.getLsbD_and, zbQ _ j (by omega)]
        by_cases q : j = n - 1
        · subst q; rw [hb]; simp
        · simp [q]
    have := hsum _ hlow
    rw [hx'] at this
    omega
structure Ends (f : Fct) (L U : W64) : Prop where
  l : L.toNat ≤ (msk (wd f.w)).toNat
  u : U.toNat ≤ (msk (wd f.w)).toNat
  le : (L ^^^ (1#64) <<< (wd f.w - 1)).toNat ≤ (U ^^^ (1#64) <<< (wd f.w - 1)).toNat
  p : ∀ H, ∃ H', RR F.a55 [f.val] H = some (.tuple #[.int .i64 (sg (wd f.w) L), .int .i64 (sg (wd f.w) U)], H') ∧ Fr0 H H'
  q : ∀ H, RR F.a27 [f.val] H = some (.tuple #[wv (L ^^^ (1#64) <<< (wd f.w - 1)), wv (U ^^^ (1#64) <<< (wd f.w - 1))], H)
theorem p_with {H : Hp} {p : Nat} {f : Fct} (h : FB H p f) (o z : W64) {g : Fct} {b : Bool} (hs : RR F.a5 [Fct.val ⟨f.w, f.one ||| o, f.zero ||| z, f.least, f.top⟩] H = some (.tuple #[g.val, .bool b], H)) :
    RR F.a21 [wv o, wv z, .pointer (some ⟨p, 0, none⟩)] H = some (g.val, H) := by
  refine (ziD E0 rfl _ _ _ H).trans ?_
  unfold ze5
  rw [of1, h.w, of1, h.one, b_or, of1, h.zero, b_or, of1, h.least, of1, h.top, b_5, zae hs, x01, sp_0, zak, sp_0, zak]
theorem xor_le {n : Nat} (hn : n ≤ 64) {x y : W64} (hx : x.toNat ≤ (msk n).toNat) (hy : y.toNat ≤ (msk n).toNat) (i : Nat) (hi : i < n) (hb : x.getLsbD i = y.getLsbD i) (hi2 : i = n - 1) (h : x.toNat ≤ y.toNat) : (x ^^^ (1#64) <<< i).toNat ≤ (y ^^^ (1#64) <<< i).toNat := by
  have h1 := sgx (n := n) (by omega) hn hx
  have h2 := sgx (n := n) (by omega) hn hy
  rw [zkv (by omega) hn, zbZ hn hx] at h1
  rw [zkv (by omega) hn, zbZ hn hy] at h2
  subst hi2
  rw [hb] at h1
  split at h1 <;> rename_i q
  · rw [if_pos q] at h2; omega
  · rw [if_neg q] at h2; omega
theorem ends_of {f : Fct} (hf : Sd f) (h1 : 1 ≤ f.w) : ∃ L U, Ends f L U := by
  have hn := zbf hf.may.w64
  have e1 := zda h1
  have hp := zc9 f.w
  have hfw : f.w - 1 = ((wd f.w - 1 : Nat) : Int) := by omega
  have h64 := hf.may.w64
  have hi : wd f.w - 1 < 64 := by omega
  have hsl : ((1#64) <<< (wd f.w - 1)).toNat ≤ (msk (wd f.w)).toNat := (zaQ hn).2 fun j hj => by rw [zbQ _ j hi]; simp; omega
  have wsub : IntKind.i64.wrap (f.w - 1) = f.w - 1 := zax (by omega) (by omega)
  have mO : (⟨f.w, f.one ||| (1#64) <<< (wd f.w - 1), f.zero, f.least, f.top⟩ : Fct).May := ⟨hf.may.w0, h64, zeo hn hf.may.one hsl, hf.may.zero, hf.may.least, hf.may.top⟩
  have mZ : (⟨f.w, f.one, f.zero ||| (1#64) <<< (wd f.w - 1), f.least, f.top⟩ : Fct).May := ⟨hf.may.w0, h64, hf.may.one, zeo hn hf.may.zero hsl, hf.may.least, hf.may.top⟩
  have memO : ∀ t, Mem ⟨f.w, f.one ||| (1#64) <<< (wd f.w - 1), f.zero, f.least, f.top⟩ t ↔ Mem f t ∧ t.getLsbD (wd f.w - 1) = true := fun t => by
    show (Fit _ _ _ ∧ _) ↔ (Fit _ _ _ ∧ _) ∧ _
    rw [zjS hi]
    exact ⟨fun ⟨⟨a, b⟩, c⟩ => ⟨⟨a, c⟩, b⟩, fun ⟨⟨a, c⟩, b⟩ => ⟨⟨a, b⟩, c⟩⟩
  have memZ : ∀ t, Mem ⟨f.w, f.one, f.zero ||| (1#64) <<< (wd f.w - 1), f.least, f.top⟩ t ↔ Mem f t ∧ t.getLsbD (wd f.w - 1) = false := fun t => by
    show (Fit _ _ _ ∧ _) ↔ (Fit _ _ _ ∧ _) ∧ _
    rw [zhF hi]
    exact ⟨fun ⟨⟨a, b⟩, c⟩ => ⟨⟨a, c⟩, b⟩, fun ⟨⟨a, c⟩, b⟩ => ⟨⟨a, b⟩, c⟩⟩
  obtain ⟨g, eg, g1, g2, g3⟩ := zfL mO mO rfl (fun _ => Iff.rfl)
  obtain ⟨z, ez, z1, z2, z3⟩ := zfL mZ mZ rfl (fun _ => Iff.rfl)
  have hds := c28 (w := f.w) (by omega)
  have hq : ∀ H, RR F.a27 [f.val] H = some (.tuple #[wv ((if eg = 0 then g.least else z.least) ^^^ (1#64) <<< (wd f.w - 1)), wv ((if ez = 0 then z.top else g.top) ^^^ (1#64) <<< (wd f.w - 1))], H) := fun H => by
    have hr := zgA E0 rfl f.val H
    unfold zdJ at hr
    have hc : ∀ (k : Value → Option (Value × Hp)), (pBin PP .sub T.int (.int .i64 ((wd f.w : Nat) : Int)) (.int .i64 1) fun v => zal .u64 v k) = k (.int .u64 ((wd f.w - 1 : Nat) : Int)) := fun k => by
      rw [zb0, ← e1, wsub, hfw, cu64 _ (by omega)]
    rw [f_w, zae (hds H), hc, u_1, zb2, zak, sp_0, zaX, b_or, zb3, zak, zae (g3 H), x01, sp_0, zak, sp_f, zaD, b_or, zbs, zak, zae (z3 H), x01, sp_0, zas, zl1, zay, zag] at hr
    by_cases q1 : eg = 0
    · rw [decide_eq_true q1, zap, zas, zl1, zaK, zl1, zay, zag] at hr
      rw [if_pos q1]
      by_cases q2 : ez = 0
      · rw [decide_eq_true q2, zap, zaK, zl1] at hr
        rw [if_pos q2]; exact hr
      · rw [decide_eq_false q2, zan] at hr
        rw [if_neg q2]; exact hr
    · rw [decide_eq_false q1, zan, zaK, zl1, zay, zag] at hr
      rw [if_neg q1]
      by_cases q2 : ez = 0
      · rw [decide_eq_true q2, zap, zaK, zl1] at hr
        rw [if_pos q2]; exact hr
      · rw [decide_eq_false q2, zan] at hr
        rw [if_neg q2]; exact hr
  have hpp : ∀ H, ∃ H', RR F.a55 [f.val] H = some (.tuple #[.int .i64 (sg (wd f.w) (if f.one.getLsbD (wd f.w - 1) = true ∨ f.zero.getLsbD (wd f.w - 1) = true then f.least else g.least)), .int .i64 (sg (wd f.w) (if f.one.getLsbD (wd f.w - 1) = true ∨ f.zero.getLsbD (wd f.w - 1) = true then f.top else z.top))], H') ∧ Fr0 H H' := fun H => by
    have hr := zke E0 rfl f.val H
    unfold zgi at hr
    let H1 := H.new (.cells (zaa f.val) true)
    have hb : FB H1 H.next f := ⟨by show (H.new _).get _ = _; rw [get_new, if_pos rfl]⟩
    have hc : ∀ (k : Value → Option (Value × Hp)), (pBin PP .sub T.int (.int .i64 f.w) (.int .i64 1) fun v => zal .u64 v k) = k (.int .u64 ((wd f.w - 1 : Nat) : Int)) := fun k => by
      rw [zb0, wsub, hfw, cu64 _ (by omega)]
    have hS : ∀ x, RR F.a6 [.int .i64 f.w, wv x] H1 = some (.int .i64 (sg (wd f.w) x), H1) := fun x => by
      have := zhn (n := wd f.w) hp hn x H1
      rwa [← e1] at this
    refine ⟨H1, ?_, fr_new _ _ _⟩
    have eO : f.zero ||| 0#64 = f.zero := by simp
    have eZ : f.one ||| 0#64 = f.one := by simp
    have w1 : RR F.a21 [wv ((1#64) <<< (wd f.w - 1)), .int .u64 0, .pointer (some ⟨H.next, 0, none⟩)] H1 = some (g.val, H1) := p_with hb ((1#64) <<< (wd f.w - 1)) 0#64 (by rw [eO]; exact g2 H1)
    have w2 : RR F.a21 [.int .u64 0, wv ((1#64) <<< (wd f.w - 1)), .pointer (some ⟨H.next, 0, none⟩)] H1 = some (z.val, H1) := p_with hb 0#64 ((1#64) <<< (wd f.w - 1)) (by rw [eZ]; exact z2 H1)
    have hpl : ∀ (x : Fct) (k : Value → Option (Value × Hp)), zhZ false 1 3 x.val k = k (wv x.least) := fun x k => rfl
    have hpt : ∀ (x : Fct) (k : Value → Option (Value × Hp)), zhZ false 1 4 x.val k = k (wv x.top) := fun x k => rfl
    have k0 : Hp.rdP H1 (.pointer (some ⟨H.next, 0 + 0, none⟩)) 1 false = some (.int .i64 f.w) := hb.rd 0 _ rfl
    have k4 : Hp.rdP H1 (.pointer (some ⟨H.next, 0 + 4, none⟩)) 1 false = some (wv f.top) := hb.rd 4 _ rfl
    have lw : ∀ (k : Value → Option (Value × Hp)), zaB 1 false H1 (.pointer (some ⟨H.next, 0 + 0, none⟩)) k = k (.int .i64 f.w) := fun k => hb.w k
    have lo : ∀ (k : Value → Option (Value × Hp)), zaB 1 false H1 (.pointer (some ⟨H.next, 0 + 1, none⟩)) k = k (wv f.one) := fun k => hb.one k
    have lz : ∀ (k : Value → Option (Value × Hp)), zaB 1 false H1 (.pointer (some ⟨H.next, 0 + 2, none⟩)) k = k (wv f.zero) := fun k => hb.zero k
    have ll : ∀ (k : Value → Option (Value × Hp)), zaB 1 false H1 (.pointer (some ⟨H.next, 0 + 3, none⟩)) k = k (wv f.least) := fun k => hb.least k
    have lt : ∀ (k : Value → Option (Value × Hp)), zaB 1 false H1 (.pointer (some ⟨H.next, 0 + 4, none⟩)) k = k (wv f.top) := fun k => hb.top k
    rw [al1, of1, lw, hc, u_1, zb2, of1, lo, zj3 hi, zag] at hr
    by_cases q1 : f.one.getLsbD (wd f.w - 1) = true
    · rw [q1, zap, zag, zap, of1, lw, of1, ll, zae (hS _), of1, lw, zfQ k0, of1, lt, zfQ k4, zae (hS _)] at hr
      rw [if_pos (.inl q1), if_pos (.inl q1)]; exact hr
    have q1' : f.one.getLsbD (wd f.w - 1) = false := by simpa using q1
    rw [q1', zan, of1, lz, zj3 hi, zag] at hr
    by_cases q2 : f.zero.getLsbD (wd f.w - 1) = true
    · rw [q2, zap, of1, lw, of1, ll, zae (hS _), of1, lw, zfQ k0, of1, lt, zfQ k4, zae (hS _)] at hr
      rw [if_pos (.inr q2), if_pos (.inr q2)]; exact hr
    have q2' : f.zero.getLsbD (wd f.w - 1) = false := by simpa using q2
    rw [q2', zan, of1, lw, zae w1, zfQ k0, hpl, zae (hS _), of1, lw, zfQ k0, zfQ k0, zae w2, zfQ k0, hpt, zae (hS _)] at hr
    rw [if_neg (by rw [q1', q2']; simp), if_neg (by rw [q1', q2']; simp)]; exact hr
  have sA : ∀ t, Mem f t → f.least.toNat ≤ t.toNat ∧ t.toNat ≤ f.top.toNat := hf.stl.all
  by_cases q1 : f.one.getLsbD (wd f.w - 1) = true
  · have hall := ((hf.stl.one _).1 q1).2
    have hgf : g = f ∧ eg = 0 := by
      rcases g1 with ⟨q, _⟩ | ⟨_, q, _⟩ | ⟨_, q, e⟩
      · exact absurd mO q
      · exact absurd ((memO _).2 ⟨hf.stl.lo, hall _ hf.stl.lo⟩) (q _)
      · exact ⟨Stl.same (f := ⟨f.w, f.one ||| (1#64) <<< (wd f.w - 1), f.zero, f.least, f.top⟩) (f' := f) rfl (fun t => (memO t).trans ⟨fun x => x.1, fun x => ⟨x, hall t x⟩⟩) q hf.stl, e⟩
    have hez : ez ≠ 0 := by
      rcases z1 with ⟨q, _⟩ | ⟨_, _, _, e⟩ | ⟨_, q, _⟩
      · exact absurd mZ q
      · rw [e]; decide
      · have := (memZ _).1 q.lo
        rw [hall _ this.1] at this; exact absurd this.2 (by decide)
    refine ⟨f.least, f.top, hf.may.least, hf.may.top, ?_, fun H => ?_, fun H => ?_⟩
    · exact xor_le hn hf.may.least hf.may.top _ (by omega) (by rw [hall _ hf.stl.lo, hall _ hf.stl.hi]) rfl hf.le
    · obtain ⟨H', a, b⟩ := hpp H
      rw [if_pos (.inl q1), if_pos (.inl q1)] at a
      exact ⟨H', a, b⟩
    · have := hq H
      rw [if_pos hgf.2, if_neg hez, hgf.1] at this; exact this
  have q1' : f.one.getLsbD (wd f.w - 1) = false := by simpa using q1
  by_cases q2 : f.zero.getLsbD (wd f.w - 1) = true
  · have hall := ((hf.stl.zero _).1 q2).2
    have hzf : z = f ∧ ez = 0 := by
      rcases z1 with ⟨q, _⟩ | ⟨_, q, _⟩ | ⟨_, q, e⟩
      · exact absurd mZ q
      · exact absurd ((memZ _).2 ⟨hf.stl.lo, hall _ hf.stl.lo⟩) (q _)
      · exact ⟨Stl.same (f := ⟨f.w, f.one, f.zero ||| (1#64) <<< (wd f.w - 1), f.least, f.top⟩) (f' := f) rfl (fun t => (memZ t).trans ⟨fun x => x.1, fun x => ⟨x, hall t x⟩⟩) q hf.stl, e⟩
    have heg : eg ≠ 0 := by
      rcases g1 with ⟨q, _⟩ | ⟨_, _, _, e⟩ | ⟨_, q, _⟩
      · exact absurd mO q
      · rw [e]; decide
      · have := (memO _).1 q.lo
        rw [hall _ this.1] at this; exact absurd this.2 (by decide)
    refine ⟨f.least, f.top, hf.may.least, hf.may.top, ?_, fun H => ?_, fun H => ?_⟩
    · exact xor_le hn hf.may.least hf.may.top _ (by omega) (by rw [hall _ hf.stl.lo, hall _ hf.stl.hi]) rfl hf.le
    · obtain ⟨H', a, b⟩ := hpp H
      rw [if_pos (.inr q2), if_pos (.inr q2)] at a
      exact ⟨H', a, b⟩
    · have := hq H
      rw [if_neg heg, if_pos hzf.2, hzf.1] at this; exact this
  have q2' : f.zero.getLsbD (wd f.w - 1) = false := by simpa using q2
  have exO : ∃ t, Mem f t ∧ t.getLsbD (wd f.w - 1) = true := by
    refine Classical.byContradiction fun h => q2 ((hf.stl.zero _).2 ⟨by omega, fun t ht => ?_⟩)
    cases z : t.getLsbD (wd f.w - 1) with
    | false => rfl
    | true => exact absurd ⟨t, ht, z⟩ h
  have exZ : ∃ t, Mem f t ∧ t.getLsbD (wd f.w - 1) = false := by
    refine Classical.byContradiction fun h => q1 ((hf.stl.one _).2 ⟨by omega, fun t ht => ?_⟩)
    cases z : t.getLsbD (wd f.w - 1) with
    | true => rfl
    | false => exact absurd ⟨t, ht, z⟩ h
  obtain ⟨t1, t1a, t1b⟩ := exO
  obtain ⟨t2, t2a, t2b⟩ := exZ
  have hg : Stl ⟨f.w, f.one ||| (1#64) <<< (wd f.w - 1), f.zero, f.least, f.top⟩ g ∧ eg = 0 := by
    rcases g1 with ⟨q, _⟩ | ⟨_, q, _⟩ | ⟨_, q, e⟩
    · exact absurd mO q
    · exact absurd ((memO _).2 ⟨t1a, t1b⟩) (q _)
    · exact ⟨q, e⟩
  have hz : Stl ⟨f.w, f.one, f.zero ||| (1#64) <<< (wd f.w - 1), f.least, f.top⟩ z ∧ ez = 0 := by
    rcases z1 with ⟨q, _⟩ | ⟨_, q, _⟩ | ⟨_, q, e⟩
    · exact absurd mZ q
    · exact absurd ((memZ _).2 ⟨t2a, t2b⟩) (q _)
    · exact ⟨q, e⟩
  have gl := (memO _).1 hg.1.lo
  have zl := (memZ _).1 hz.1.hi
  have gm := Mem.le hf.may gl.1
  have zm := Mem.le hf.may zl.1
  refine ⟨g.least, z.top, gm, zm, ?_, fun H => ?_, fun H => ?_⟩
  · have a := sgx hp hn gm
    have b := sgx hp hn zm
    rw [zkv hp hn, zbZ hn gm, if_pos gl.2] at a
    rw [zkv hp hn, zbZ hn zm, if_neg (by rw [zl.2]; decide)] at b
    rw [zep _ hn] at gm
    have hp2 : 0 < 2 ^ wd f.w := Nat.two_pow_pos _
    omega
  · obtain ⟨H', a, b⟩ := hpp H
    rw [if_neg (by rw [q1', q2']; simp), if_neg (by rw [q1', q2']; simp)] at a
    exact ⟨H', a, b⟩
  · have := hq H
    rw [if_pos hg.2, if_pos hz.2] at this; exact this
end Go.AM.N14
namespace Go.AM.N14
open Go Go.AM
theorem zhm (y n : Bool) (H : Hp) (k : Value → Hp → Option (Value × Hp)) : (zaf RR F.a22 [.bool y, .bool n] H fun r H' => zac 5 [.int .i64 0, .int .u64 0, .int .u64 0, .int .u64 0, .int .u64 0] 0 r fun c => zab 5 true c 0 fun v => k v H') = k (truF y n).val H := by
  rw [zae (p_truth y n H), sp_0, zak]
theorem zoC (f : Fct) (H : Hp) : RR F.a34 [f.val] H = some (.bool (decide (f.least = f.top)), H) := by
  refine (zhb E0 rfl _ H).trans ?_
  unfold zd8
  rw [zas, zaK, zdU]
theorem b_t1 (k : Value → Option (Value × Hp)) : zar PP T.api_Fact [(4, (.int .u64 1))] k = k (Fct.val ⟨0, 0#64, 0#64, 0#64, 1#64⟩) := bld (by kernel_rfl) k
theorem zkB (y n : Bool) (H : Hp) :
    (zar PP T.api_Fact [(4, (.int .u64 1))] fun v71 =>
 zac 5 [.int .i64 0, .int .u64 0, .int .u64 0, .int .u64 0, .int .u64 0] 0 v71 fun c72 =>
 zad (.bool y) fun b73 => br b73
 (zac 1 c72 1 (.int .u64 1) fun c74 =>
 zad (.bool n) fun b75 => br b75
 (zac 1 c74 2 (.int .u64 1) fun c76 =>
 zab 5 true c76 0 fun v77 =>
 zac 5 [.int .i64 0, .int .u64 0, .int .u64 0, .int .u64 0, .int .u64 0] 0 v77 fun c78 =>
 zab 5 true c78 0 fun v79 =>
 some (v79, H))
 (zab 5 true c74 0 fun v80 =>
 zac 5 [.int .i64 0, .int .u64 0, .int .u64 0, .int .u64 0, .int .u64 0] 0 v80 fun c81 =>
 zab 5 true c81 0 fun v82 =>
 some (v82, H)))
 (zad (.bool n) fun b83 => br b83
 (zac 1 c72 2 (.int .u64 1) fun c84 =>
 zab 5 true c84 0 fun v85 =>
 zac 5 [.int .i64 0, .int .u64 0, .int .u64 0, .int .u64 0, .int .u64 0] 0 v85 fun c86 =>
 zab 5 true c86 0 fun v87 =>
 some (v87, H))
 (zab 5 true c72 0 fun v88 =>
 zac 5 [.int .i64 0, .int .u64 0, .int .u64 0, .int .u64 0, .int .u64 0] 0 v88 fun c89 =>
 zab 5 true c89 0 fun v90 =>
 some (v90, H)))) = some ((truR y n).val, H) := by
  rw [b_t1, sp_0, zag]
  cases y <;> cases n <;> rfl
theorem meets {a b : Fct} (ha : Sd a) (hb : Sd b) (hw : a.w = b.w) : ∃ e : Int, (∀ H, ∃ p : Fct, RR F.a74 [a.val, b.val] H = some (.tuple #[p.val, .int .i64 e], H)) ∧ ∀ H, ∃ q : Fct, RR F.a64 [a.val, b.val] H = some (.tuple #[q.val, .int .i64 e], H) := by
  obtain ⟨x0, y0, e0, _, _, n1, _, _⟩ := c14 a b ⟨0, fun _ => none, fun _ => none⟩
  obtain ⟨x1, y1, i0, _, i1, k1, k2, _⟩ := c22 a b ⟨0, fun _ => none, fun _ => none⟩
  obtain ⟨z1, z2⟩ := zlc n1 k1
  refine ⟨if i0 = 0 then i1 else i0, fun H => ?_, fun H => ?_⟩
  · obtain ⟨x, y, e, p, e', h1, h2, h3⟩ := c14 a b H
    obtain ⟨g1, g2⟩ := zlc h1 k1
    subst g1
    by_cases q : e = 0
    · obtain ⟨rfl, rfl, _⟩ := g2 q
      have := (h2 q).eq k2
      rw [if_pos q, if_pos q] at h3
      rw [if_pos q]
      exact ⟨p, by rw [← this.2]; exact h3⟩
    · rw [if_neg q, if_neg q] at h3
      rw [if_neg q]
      exact ⟨_, h3⟩
  · obtain ⟨x, y, e, p, e', h1, h2, h3⟩ := c22 a b H
    obtain ⟨g1, g2⟩ := zlc n1 h1
    subst z1
    subst g1
    by_cases q : e0 = 0
    · obtain ⟨rfl, rfl, _⟩ := g2 q
      obtain ⟨rfl, rfl, _⟩ := z2 q
      have := h2.eq k2
      rw [if_pos q, if_pos q] at h3
      rw [if_pos q]
      exact ⟨p, by rw [← this.2]; exact h3⟩
    · rw [if_neg q, if_neg q] at h3
      rw [if_neg q]
      exact ⟨_, h3⟩
theorem zpb {op : Int} (ho : 9 ≤ op ∧ op ≤ 13) {a b : Fct} (ha : Sd a) (hb : Sd b) (hw : a.w = b.w) (h1 : 10 ≤ op → 1 ≤ a.w) (hl : ¬ (a.least = a.top ∧ b.least = b.top)) :
    ∃ y n : Bool, ¬ (y = true ∧ n = true) ∧ (∀ H, ∃ H', RR F.a114 [.int .i64 op, a.val, b.val] H = some ((truF y n).val, H') ∧ Fr0 H H') ∧ ∀ H, RR F.a102 [.int .i64 op, a.val, b.val] H = some ((truR y n).val, H) := by
  have la := ha.le
  have lb := hb.le
  have hr := fun H => (zje E0 rfl (.int .i64 op) a.val b.val H).symm
  have hq := fun H => (zeP E0 rfl (.int .i64 op) a.val b.val H).symm
  unfold zfx at hr
  unfold zcj at hq
  by_cases o9 : op = 9
  · subst o9
    obtain ⟨e, m1, m2⟩ := meets ha hb hw
    refine ⟨false, decide (e ≠ 0), by simp, fun H => ⟨H, ?_, Fr0.refl H⟩, fun H => ?_⟩
    · obtain ⟨p, m1⟩ := m1 H
      have hr := hr H
      rw [zay, zag, decide_eq_true rfl, zap, zak, zak, zae m1, zgc, zgb, sp_0, zbY, zhm] at hr
      exact hr.symm
    · obtain ⟨q, m2⟩ := m2 H
      have hq := hq H
      rw [zas, zaK, zas, zaK, zay, zag, decide_eq_false (by decide), zan, zay, zag, decide_eq_false (by decide), zan, zao, zai, zay, zag, decide_eq_true rfl, zap, zak, zak, zae m2, zgc, zgb, sp_0, zbY, zak, zae (zoC a H), zag] at hq
      by_cases qa : a.least = a.top
      · have qb : ¬ b.least = b.top := fun z => hl ⟨qa, z⟩
        rw [decide_eq_true qa, zap, zak, zae (zoC b H), zag, decide_eq_false qb, zan, zao, zai] at hq
        simp only [List.getD_cons_zero, List.getD_cons_succ] at hq
        rw [zkB] at hq
        exact hq.symm
      · rw [decide_eq_false qa, zan, zao, zai] at hq
        simp only [List.getD_cons_zero, List.getD_cons_succ] at hq
        rw [zkB] at hq
        exact hq.symm
  by_cases o10 : op = 10
  · subst o10
    refine ⟨decide (a.top.toNat < b.least.toNat), decide (b.top.toNat ≤ a.least.toNat), by simp only [decide_eq_true_eq]; omega, fun H => ⟨H, ?_, Fr0.refl H⟩, fun H => ?_⟩
    · have hr := hr H
      rw [zay, zag, decide_eq_false o9, zan, zay, zag, decide_eq_true rfl, zap, zaK, zas, zkr, zas, zaK, znf, zhm] at hr
      exact hr.symm
    · have hq := hq H
      rw [zas, zaK, zas, zaK, zay, zag, decide_eq_false (by decide), zan, zay, zag, decide_eq_false (by decide), zan, zao, zai, zay, zag, decide_eq_false (by decide), zan, zay, zag, decide_eq_true rfl, zap, zag, zap] at hq
      simp only [List.getD_cons_zero, List.getD_cons_succ] at hq
      rw [zkr, znf, zao, zai] at hq
      simp only [List.getD_cons_zero, List.getD_cons_succ] at hq
      rw [zkB] at hq
      exact hq.symm
  by_cases o11 : op = 11
  · subst o11
    refine ⟨decide (a.top.toNat ≤ b.least.toNat), decide (b.top.toNat < a.least.toNat), by simp only [decide_eq_true_eq]; omega, fun H => ⟨H, ?_, Fr0.refl H⟩, fun H => ?_⟩
    · have hr := hr H
      rw [zay, zag, decide_eq_false o9, zan, zay, zag, decide_eq_false o10, zan, zay, zag, decide_eq_true rfl, zap, zaK, zas, zhJ, zas, zaK, zhK, zhm] at hr
      exact hr.symm
    · have hq := hq H
      rw [zas, zaK, zas, zaK, zay, zag, decide_eq_false (by decide), zan, zay, zag, decide_eq_false (by decide), zan, zao, zai, zay, zag, decide_eq_false (by decide), zan, zay, zag, decide_eq_false (by decide), zan, zay, zag, decide_eq_false (by decide), zan] at hq
      simp only [List.getD_cons_zero, List.getD_cons_succ] at hq
      rw [zhJ, zhK, zao, zai] at hq
      simp only [List.getD_cons_zero, List.getD_cons_succ] at hq
      rw [zkB] at hq
      exact hq.symm
  have hw1 : 1 ≤ a.w := h1 (by omega)
  obtain ⟨L, U, e1⟩ := ends_of ha hw1
  obtain ⟨L', U', e2⟩ := ends_of hb (by omega)
  have hn := zbf ha.may.w64
  have ew : wd b.w = wd a.w := by rw [hw]
  have p1 := e1.p
  have p2 := e2.p
  have q1 := e1.q
  have q2 := e2.q
  have l2 := e2.le
  have b1 := e2.l
  have b2 := e2.u
  rw [ew] at p2 q2 l2 b1 b2
  have l1 := e1.le
  have xa := sgx (zc9 a.w) hn e1.l
  have xb := sgx (zc9 a.w) hn e1.u
  have xc := sgx (zc9 a.w) hn b1
  have xd := sgx (zc9 a.w) hn b2
  generalize sg (wd a.w) L = A at *
  generalize sg (wd a.w) U = B at *
  generalize sg (wd a.w) L' = C at *
  generalize sg (wd a.w) U' = D at *
  generalize L ^^^ 1#64 <<< (wd a.w - 1) = A1 at *
  generalize U ^^^ 1#64 <<< (wd a.w - 1) = B1 at *
  generalize L' ^^^ 1#64 <<< (wd a.w - 1) = C1 at *
  generalize U' ^^^ 1#64 <<< (wd a.w - 1) = D1 at *
  by_cases o12 : op = 12
  · subst o12
    refine ⟨decide (B1.toNat < C1.toNat), decide (D1.toNat ≤ A1.toNat), by simp only [decide_eq_true_eq]; omega, fun H => ?_, fun H => ?_⟩
    · obtain ⟨H1, p1, f1⟩ := p1 H
      obtain ⟨H2, p2, f2⟩ := p2 H1
      refine ⟨H2, ?_, f1.trans f2⟩
      have hr := hr H
      rw [zay, zag, decide_eq_false o9, zan, zay, zag, decide_eq_false o10, zan, zay, zag, decide_eq_false o11, zan, zak, zae p1, zgc, zgb, zak, zae p2, zgc, zgb, zay, zag, decide_eq_true rfl, zap, zbj, zbg, show decide (B < C) = decide (B1.toNat < C1.toNat) from decide_eq_decide.2 (by omega), show decide (A ≥ D) = decide (D1.toNat ≤ A1.toNat) from decide_eq_decide.2 (by omega), zhm] at hr
      exact hr.symm
    · have hq := hq H
      rw [zas, zaK, zas, zaK, zay, zag, decide_eq_true rfl, zap, zak, zae (q1 H), zgc, zgb, zak, zae (q2 H), zgc, zgb, zao, zai, zay, zag, decide_eq_false (by decide), zan, zay, zag, decide_eq_false (by decide), zan, zay, zag, decide_eq_true rfl, zap] at hq
      simp only [List.getD_cons_zero, List.getD_cons_succ] at hq
      rw [zkr, znf, zao, zai] at hq
      simp only [List.getD_cons_zero, List.getD_cons_succ] at hq
      rw [zkB] at hq
      exact hq.symm
  · have : op = 13 := by omega
    subst this
    refine ⟨decide (B1.toNat ≤ C1.toNat), decide (D1.toNat < A1.toNat), by simp only [decide_eq_true_eq]; omega, fun H => ?_, fun H => ?_⟩
    · obtain ⟨H1, p1, f1⟩ := p1 H
      obtain ⟨H2, p2, f2⟩ := p2 H1
      refine ⟨H2, ?_, f1.trans f2⟩
      have hr := hr H
      rw [zay, zag, decide_eq_false o9, zan, zay, zag, decide_eq_false o10, zan, zay, zag, decide_eq_false o11, zan, zak, zae p1, zgc, zgb, zak, zae p2, zgc, zgb, zay, zag, decide_eq_false o12, zan, zbE, zbl, show decide (B ≤ C) = decide (B1.toNat ≤ C1.toNat) from decide_eq_decide.2 (by omega), show decide (A > D) = decide (D1.toNat < A1.toNat) from decide_eq_decide.2 (by omega), zhm] at hr
      exact hr.symm
    · have hq := hq H
      rw [zas, zaK, zas, zaK, zay, zag, decide_eq_false (by decide), zan, zay, zag, decide_eq_true rfl, zap, zak, zae (q1 H), zgc, zgb, zak, zae (q2 H), zgc, zgb, zao, zai, zay, zag, decide_eq_false (by decide), zan, zay, zag, decide_eq_false (by decide), zan, zay, zag, decide_eq_false (by decide), zan] at hq
      simp only [List.getD_cons_zero, List.getD_cons_succ] at hq
      rw [zhJ, zhK, zao, zai] at hq
      simp only [List.getD_cons_zero, List.getD_cons_succ] at hq
      rw [zkB] at hq
      exact hq.symm
end Go.AM.N14
namespace Go.AM.N14
open Go Go.AM
def zof : List Int := Go.Lib.deBruijn64tab.map fun (n : Nat) => (n : Int)
structure TabB (H : Hp) : Prop where
  lt : G.bits_deBruijn64tab < H.next
  ob : ∃ cs e fz, H.get G.bits_deBruijn64tab = some (.fix (.cells cs e fz)) ∧ cs.toList = zof.map fun z => Value.int .u8 z
theorem TabB.fr {H H' : Hp} (h : TabB H) (k : Fr0 H H') : TabB H' := ⟨Nat.lt_of_lt_of_le h.lt k.next, by rw [k.same _ h.lt (fun q => q)]; exact h.ob⟩
theorem ldx {α : Type} {H : Hp} {g : Nat} {cs : Array Value} {e : TypeId} {fz : Nat × Nat} (h : H.get g = some (.fix (.cells cs e fz))) {off : Nat} {kd : IntKind} {z : Int} (hc : cs.toList[off]? = some (.int kd z)) (k : Value → Option α) :
    zaB 1 false H (.pointer (some ⟨g, off, none⟩)) k = k (.int kd z) := by
  have : H.rdP (.pointer (some ⟨g, off, none⟩)) 1 false = some (.int kd z) := by
    unfold Hp.rdP Hp.rd
    dsimp only
    rw [h]
    dsimp only
    rw [hc]
  unfold zaB; rw [this]
theorem brC : (285870213051353865#64).toNat = 285870213051353865 := by decide
theorem brV : Value.int .u64 285870213051353865 = wv (285870213051353865#64) := by
  unfold wv
  rw [brC]; rfl
theorem p64 : (2 : Nat) ^ 64 = 18446744073709551616 := by decide
theorem p58 : (2 : Nat) ^ 58 = 288230376151711744 := by decide
theorem ctz_0 : Go.Lib.ctz 64 (0#64).toNat = 64 := by
  unfold Go.Lib.ctz
  rw [if_pos (show (0#64).toNat = 0 from rfl)]
theorem and_negB {x : W64} (h : x.toNat ≠ 0) : (x &&& (0#64 - x)).toNat = 2 ^ Go.Lib.ctz 64 x.toNat := by
  have hlt := x.isLt
  have hneg : (0#64 - x).toNat = 2 ^ 64 - x.toNat := by
    rw [BitVec.toNat_sub, show (0#64).toNat = 0 from rfl, Nat.add_zero, Nat.mod_eq_of_lt (by omega)]
  rw [BitVec.toNat_and, hneg, (Go.Lib.lowest_bit 64 x.toNat h hlt).1]
theorem brIx {x : W64} (h : x.toNat ≠ 0) : (((x &&& (0#64 - x)) * 285870213051353865#64) >>> 58).toNat = 2 ^ Go.Lib.ctz 64 x.toNat * 285870213051353865 % 18446744073709551616 / 288230376151711744 := by
  rw [zel, BitVec.toNat_mul, and_negB h, brC, p64, p58]
theorem br_idx {y : W64} {m : Nat} (h : y.toNat = m) (hm : m < 64) (g : Nat) (k : Value → Option (Value × Hp)) : zfr 64 1 (.pointer (some ⟨g, 0, none⟩)) (wv y) k = k (.pointer (some ⟨g, m, none⟩)) := by
  unfold wv zfr
  rw [h]
  dsimp only
  rw [if_pos (by omega), Int.toNat_natCast, Nat.zero_add, Nat.mul_one]
theorem br_get {m c : Nat} (d1 : m < 64) (d2 : Go.Lib.deBruijn64tab.getD m 0 = c) {l : List Value} (hl : l = zof.map fun z => Value.int .u8 z) : l[m]? = some (.int .u8 (c : Int)) := by
  rw [hl]
  unfold zof
  have hl : m < Go.Lib.deBruijn64tab.length := d1
  rw [List.getElem?_map, List.getElem?_map, List.getElem?_eq_getElem hl]
  rw [List.getD_eq_getElem?_getD, List.getElem?_eq_getElem hl] at d2
  have d2 : Go.Lib.deBruijn64tab[m] = c := d2
  rw [d2]; rfl
theorem p_tz {H : Hp} (hT : TabB H) (x : W64) : RR F.a91 [wv x] H = some (.int .i64 ((Go.Lib.ctz 64 x.toNat : Nat) : Int), H) := by
  have hr := zfc E0 rfl (wv x) H
  unfold zcs at hr
  have e0 : ∀ (k : Value → Option (Value × Hp)), pBin PP .eql T.uint64 (wv x) (.int .u64 0) k = k (.bool (decide (x = 0#64))) := fun k => zdU _ x 0#64 k
  rw [e0, zag] at hr
  by_cases h0 : x = 0#64
  · rw [decide_eq_true h0, zap] at hr
    rw [h0] at hr ⊢
    rw [ctz_0]; exact hr
  rw [decide_eq_false h0, zan, b_neg, zba] at hr
  have hx0 : x.toNat ≠ 0 := fun q => h0 (BitVec.eq_of_toNat_eq q)
  have l2 := (Go.Lib.lowest_bit 64 x.toNat hx0 x.isLt).2
  obtain ⟨d1, d2⟩ := Go.Lib.deBruijn64_at _ l2
  have hix := brIx hx0
  rw [brV, zeY, show (Value.int .u64 58) = .int .u64 ((58 : Nat) : Int) from rfl, zc8] at hr
  generalize 2 ^ Go.Lib.ctz 64 x.toNat * 285870213051353865 % 18446744073709551616 / 288230376151711744 = m at *
  generalize (((x &&& (0#64 - x)) * 285870213051353865#64) >>> 58) = y at *
  obtain ⟨cs, e, fz, g1, g2⟩ := hT.ob
  have hc := br_get d1 d2 g2
  rw [br_idx hix d1, ldx g1 hc, zgd, zax (by omega) (by omega)] at hr
  exact hr
def lowN (x : W64) (w : Nat) : Nat := min (Go.Lib.ctz 64 (~~~x).toNat) w
theorem ze7 (x : W64) (w : Nat) : lowN x w ≤ w := Nat.min_le_right _ _
theorem ziR {x : W64} {w : Nat} (hw : w ≤ 64) : (∀ j, j < lowN x w → x.getLsbD j = true) ∧ (lowN x w < w → x.getLsbD (lowN x w) = false) := by
  by_cases h0 : ~~~x = 0#64
  · have hx : ∀ j, j < 64 → x.getLsbD j = true := fun j hj => by
      have : (~~~x).getLsbD j = false := by rw [h0]; simp
      rw [BitVec.getLsbD_not] at this
      simp [hj] at this
      exact this
    have e : lowN x w = w := by
      unfold lowN Go.Lib.ctz
      rw [h0, if_pos (show (0#64).toNat = 0 from rfl)]; omega
    rw [e]
    exact ⟨fun j hj => hx j (by omega), fun h => absurd h (Nat.lt_irrefl _)⟩
  have hx0 : (~~~x).toNat ≠ 0 := fun q => h0 (BitVec.eq_of_toNat_eq q)
  obtain ⟨m, hm, hk⟩ := Go.Lib.ctzFrom_spec 64 (~~~x).toNat (by omega) (~~~x).isLt
  have e : Go.Lib.ctz 64 (~~~x).toNat = Go.Lib.ctzFrom 64 (~~~x).toNat := by unfold Go.Lib.ctz; rw [if_neg hx0]
  have bits : ∀ j, j < 64 → x.getLsbD j = !((2 ^ Go.Lib.ctzFrom 64 (~~~x).toNat * (2 * m + 1)).testBit j) := fun j hj => by
    rw [← hm]
    show _ = !(~~~x).getLsbD j
    rw [BitVec.getLsbD_not]; simp [hj]
  unfold lowN
  rw [e]
  generalize Go.Lib.ctzFrom 64 (~~~x).toNat = k at *
  refine ⟨fun j hj => ?_, fun h => ?_⟩
  · rw [bits j (by omega), Nat.mul_comm, Nat.testBit_mul_two_pow]
    simp; omega
  · have : min k w = k := by omega
    rw [this, bits k hk, Nat.mul_comm, Nat.testBit_mul_two_pow]
    simp
theorem s_minI (a b : Nat) (k : Value → Option (Value × Hp)) : pMM false [.int .i64 (a : Int), .int .i64 (b : Int)] k = k (.int .i64 ((min a b : Nat) : Int)) := by
  show k (.int .i64 (if (b : Int) < (a : Int) then (b : Int) else (a : Int))) = _
  split
  · rw [show min a b = b by omega]
  · rw [show min a b = a by omega]
theorem p_lowest {H : Hp} (hT : TabB H) (x : W64) (w : Nat) : RR F.a30 [wv x, .int .i64 (w : Int)] H = some (.int .i64 ((lowN x w : Nat) : Int), H) := by
  have hr := zki E0 rfl (wv x) (.int .i64 (w : Int)) H
  unfold zgm at hr
  rw [b_not, zae (p_tz hT _), s_minI] at hr
  exact hr
theorem p_sure (f : Fct) (H : Hp) : RR F.a79 [f.val] H = some (wv (f.one ||| f.zero), H) := by
  refine (zmn E0 rfl _ H).trans ?_
  unfold zim
  rw [zaX, zaD, b_or]
theorem tri_ne2 (a b : Bool) : decide (tri a b ≠ 2) = (a || b) := by cases a <;> cases b <;> decide
theorem zoD (f : Fct) {w : Nat} (hw : f.w = (w : Int)) (h64 : w ≤ 64) (H : Hp) : ∀ (m i : Nat), i + m = lowN (f.one ||| f.zero) w →
    zaA (za3 RR f.val) [.int .i64 (i : Int)] H = some (.exit 0, [.int .i64 ((lowN (f.one ||| f.zero) w : Nat) : Int)], H)
  | 0, i, hi => by
    have hi : i = lowN (f.one ||| f.zero) w := by omega
    have hle := ze7 (f.one ||| f.zero) w
    rw [zaq]
    have : za3 RR f.val [.int .i64 (i : Int)] H = some (.exit 0, [.int .i64 (i : Int)], H) := by
      unfold za3
      simp only [qg0]
      rw [f_w, zbj, hw, zag]
      by_cases q : i < w
      · have hb := (ziR (x := f.one ||| f.zero) h64).2 (by omega)
        rw [← hi, BitVec.getLsbD_or] at hb
        rw [decide_eq_true (by omega), zap, zak, zae (zfp f (by omega) H), zbY, tri_ne2, hb, zag, zan]
      · rw [decide_eq_false (by omega), zan]
    rw [this, ← hi]; rfl
  | m + 1, i, hi => by
    have hle := ze7 (f.one ||| f.zero) w
    have w1 : IntKind.i64.wrap ((i : Int) + 1) = ((i + 1 : Nat) : Int) := zax (by omega) (by omega)
    have hb := (ziR (x := f.one ||| f.zero) h64).1 i (by omega)
    rw [BitVec.getLsbD_or] at hb
    rw [zaq]
    have : za3 RR f.val [.int .i64 (i : Int)] H = some (.next, [.int .i64 ((i + 1 : Nat) : Int)], H) := by
      unfold za3
      simp only [qg0]
      rw [f_w, zbj, hw, bT (by omega), zak, zae (zfp f (by omega) H), zbY, tri_ne2, hb, zag, zap, za6, w1]
    rw [this]
    exact zoD f hw h64 H m (i + 1) (by omega)
theorem q_known (f : Fct) {w : Nat} (hw : f.w = (w : Int)) (h64 : w ≤ 64) (H : Hp) : RR F.a28 [f.val] H = some (.int .i64 ((lowN (f.one ||| f.zero) w : Nat) : Int), H) := by
  have hr := (zfW E0 rfl f.val H).trans (zf7 _ _ _)
  have l := zoD f hw h64 H _ 0 (Nat.zero_add _)
  have l' : zaA (za3 RR f.val) [.int .i64 0] H = _ := l
  rw [l', zao, zbq, zaT] at hr
  exact hr
theorem tri_0 {a b : Bool} (h : exl a b) : decide (tri a b = 0) = b := by
  unfold exl at h
  cases a <;> cases b <;> first | decide | exact absurd ⟨rfl, rfl⟩ h
theorem zoA (f : Fct) (he : ∀ i, exl (f.one.getLsbD i) (f.zero.getLsbD i)) {w : Nat} (hw : f.w = (w : Int)) (h64 : w ≤ 64) (H : Hp) : ∀ (m i : Nat), i + m = lowN f.zero w →
    zaA (za1 RR f.val) [.int .i64 (i : Int)] H = some (.exit 0, [.int .i64 ((lowN f.zero w : Nat) : Int)], H)
  | 0, i, hi => by
    have hi : i = lowN f.zero w := by omega
    have hle := ze7 f.zero w
    rw [zaq]
    have : za1 RR f.val [.int .i64 (i : Int)] H = some (.exit 0, [.int .i64 (i : Int)], H) := by
      unfold za1
      simp only [qg0]
      rw [f_w, zbj, hw, zag]
      by_cases q : i < w
      · have hb := (ziR (x := f.zero) h64).2 (by omega)
        rw [← hi] at hb
        rw [decide_eq_true (by omega), zap, zak, zae (zfp f (by omega) H), zay, tri_0 (he i), hb, zag, zan]
      · rw [decide_eq_false (by omega), zan]
    rw [this, ← hi]; rfl
  | m + 1, i, hi => by
    have hle := ze7 f.zero w
    have w1 : IntKind.i64.wrap ((i : Int) + 1) = ((i + 1 : Nat) : Int) := zax (by omega) (by omega)
    have hb := (ziR (x := f.zero) h64).1 i (by omega)
    rw [zaq]
    have : za1 RR f.val [.int .i64 (i : Int)] H = some (.next, [.int .i64 ((i + 1 : Nat) : Int)], H) := by
      unfold za1
      simp only [qg0]
      rw [f_w, zbj, hw, bT (by omega), zak, zae (zfp f (by omega) H), zay, tri_0 (he i), hb, zag, zap, za6, w1]
    rw [this]
    exact zoA f he hw h64 H m (i + 1) (by omega)
theorem q_zeros (f : Fct) (he : ∀ i, exl (f.one.getLsbD i) (f.zero.getLsbD i)) {w : Nat} (hw : f.w = (w : Int)) (h64 : w ≤ 64) (H : Hp) : RR F.a50 [f.val] H = some (.int .i64 ((lowN f.zero w : Nat) : Int), H) := by
  have hr := (zfR E0 rfl f.val H).trans (zf4 _ _ _)
  have l := zoA f he hw h64 H _ 0 (Nat.zero_add _)
  have l' : zaA (za1 RR f.val) [.int .i64 0] H = _ := l
  rw [l', zao, zbq, zaT] at hr
  exact hr
theorem p_mul64 (x y : W64) (H : Hp) : ∃ h : W64, h.toNat = x.toNat * y.toNat / 18446744073709551616 ∧ RR F.a58 [wv x, wv y] H = some (.tuple #[wv h, wv (x * y)], H) := by
  have hr := zmx E0 rfl (wv x) (wv y) H
  unfold ziy at hr
  have hm : ∀ (z : W64) (k : Value → Option (Value × Hp)), pBin PP .and T.uint64 (wv z) (.int .u64 4294967295) k = k (wv (z &&& msk 32)) := fun z k => zba _ z (msk 32) k
  have hs : ∀ (z : W64) (k : Value → Option (Value × Hp)), pBin PP .shr T.uint64 (wv z) (.int .u64 32) k = k (wv (z >>> 32)) := fun z k => zc8 _ z k .u64 32
  rw [hm, hs, hm, hs, zeY, zeY, hs, zgV, hm, hs, zeY, zgV, zeY, zgV, hs, zgV, zeY] at hr
  refine ⟨_, ?_, hr⟩
  have e1 : ∀ z : W64, (z &&& msk 32).toNat = z.toNat % 4294967296 := fun z => zft (by decide) z
  have e2 : ∀ z : W64, (z >>> 32).toNat = z.toNat / 4294967296 := fun z => zel z 32
  obtain ⟨g1, g2, g3, g4⟩ := Go.Lib.mul64_hi x.toNat y.toNat x.isLt y.isLt
  have hx := x.isLt
  have hy := y.isLt
  have ha := Go.Lib.half_mul_le (a := x.toNat / 4294967296) (b := y.toNat / 4294967296) (by omega) (by omega)
  have hb := Go.Lib.half_mul_le (a := x.toNat / 4294967296) (b := y.toNat % 4294967296) (by omega) (by omega)
  have hc := Go.Lib.half_mul_le (a := x.toNat % 4294967296) (b := y.toNat / 4294967296) (by omega) (by omega)
  simp only [BitVec.toNat_add, BitVec.toNat_mul, e1, e2]
  have m1 : ∀ n : Nat, n < 18446744073709551616 → n % 2 ^ 64 = n := fun n h => Nat.mod_eq_of_lt h
  rw [m1 _ (show x.toNat % 4294967296 * (y.toNat % 4294967296) < _ from g1), m1 (x.toNat / 4294967296 * (y.toNat / 4294967296)) (by omega), m1 (x.toNat / 4294967296 * (y.toNat % 4294967296)) (by omega), m1 (x.toNat % 4294967296 * (y.toNat / 4294967296)) (by omega)]
  rw [m1 _ g2, m1 _ g3]
  generalize (x.toNat / 4294967296) * (y.toNat / 4294967296) = a at *
  generalize (x.toNat / 4294967296) * (y.toNat % 4294967296) = b at *
  generalize (x.toNat % 4294967296) * (y.toNat / 4294967296) = c at *
  generalize (x.toNat % 4294967296) * (y.toNat % 4294967296) = d at *
  have hlt : x.toNat * y.toNat / 18446744073709551616 < 18446744073709551616 := by
    rw [← g4]; omega
  rw [m1 (a + (b + d / 4294967296) / 4294967296) (by omega), m1 _ (by rw [g4]; exact hlt)]
  exact g4
end Go.AM.N14
namespace Go.AM.N14
open Go Go.AM
def proK (a b : Fct) : Nat := min (lowN (a.one ||| a.zero) (wd a.w)) (lowN (b.one ||| b.zero) (wd a.w))
def proZ (a b : Fct) : Nat := min (lowN a.zero (wd a.w) + lowN b.zero (wd a.w)) (wd a.w)
def proP (a b : Fct) : W64 := a.one * b.one &&& msk (proK a b)
def proF (a b : Fct) : Fct :=
  if a.top.toNat * b.top.toNat ≤ (msk (wd a.w)).toNat then ⟨a.w, proP a b, (~~~ proP a b &&& msk (proK a b)) ||| msk (proZ a b), a.least * b.least, a.top * b.top⟩
  else ⟨a.w, proP a b, (~~~ proP a b &&& msk (proK a b)) ||| msk (proZ a b), 0#64, msk (wd a.w)⟩
theorem znU {n m : Nat} (h : n ≤ m) (hm : m ≤ 64) : (msk n).toNat ≤ (msk m).toNat := (zaQ hm).2 fun j hj => by rw [zbe]; simp; omega
theorem proF_may {a b : Fct} (ha : Sd a) (hb : Sd b) (hw : a.w = b.w) : (proF a b).May := by
  have hn := zbf ha.may.w64
  have k1 : proK a b ≤ wd a.w := by have := ze7 (a.one ||| a.zero) (wd a.w); unfold proK; omega
  have z1 : proZ a b ≤ wd a.w := by unfold proZ; omega
  have e1 : (proP a b).toNat ≤ (msk (wd a.w)).toNat := zcP hn k1 (zbz (by omega) _)
  have e2 : ((~~~ proP a b &&& msk (proK a b)) ||| msk (proZ a b)).toNat ≤ (msk (wd a.w)).toNat := zeo hn (zcP hn k1 (zbz (by omega) _)) (znU z1 hn)
  unfold proF
  split
  · rename_i q
    have la := ha.le
    have lb := hb.le
    have hm := (msk (wd a.w)).isLt
    have hl : a.least.toNat * b.least.toNat ≤ a.top.toNat * b.top.toNat := Nat.mul_le_mul la lb
    refine ⟨ha.may.w0, ha.may.w64, e1, e2, ?_, ?_⟩
    · show (a.least * b.least).toNat ≤ _
      rw [BitVec.toNat_mul, Nat.mod_eq_of_lt (by omega)]
      exact Nat.le_trans hl q
    · show (a.top * b.top).toNat ≤ _
      rw [BitVec.toNat_mul, Nat.mod_eq_of_lt (by omega)]
      exact q
  · exact ⟨ha.may.w0, ha.may.w64, e1, e2, zero_le _, Nat.le_refl _⟩
theorem all_msk {n : Nat} (hn : n ≤ 64) : msk 64 &&& msk n = msk n := zbL fun j => by
  rw [BitVec.getLsbD_and, zbe, zbe]; simp
theorem p_product {a b : Fct} (ha : Sd a) (hb : Sd b) (h1 : 1 ≤ a.w) (hw : a.w = b.w) {H : Hp} (hT : TabB H) : RR F.a117 [a.val, b.val] H = some ((proF a b).val, H) := by
  have hr := zjd E0 rfl a.val b.val H
  unfold zfw at hr
  have hn := zbf ha.may.w64
  have e1 := zda h1
  have e0 : ∀ x : W64, (0#64) &&& x = 0#64 := fun x => BitVec.zero_and
  have hraw := zmE ha.may.w64 0#64 0#64 H
  rw [e0] at hraw
  have hraw' : RR F.a11 [.int .i64 a.w, .int .u64 0, .int .u64 0] H = _ := hraw
  have lw : ∀ x : W64, RR F.a30 [wv x, .int .i64 a.w] H = some (.int .i64 ((lowN x (wd a.w) : Nat) : Int), H) := fun x => by
    have := p_lowest hT x (wd a.w)
    rwa [← e1] at this
  have kle : proK a b ≤ 64 := by have := ze7 (a.one ||| a.zero) (wd a.w); unfold proK; omega
  have zle : proZ a b ≤ 64 := by unfold proZ; omega
  have minw : ∀ (n : Nat) (k : Value → Option (Value × Hp)), pMM false [.int .i64 (n : Int), .int .i64 a.w] k = k (.int .i64 ((min n (wd a.w) : Nat) : Int)) := fun n k => by
    have z := s_minI n (wd a.w) k
    rwa [← e1] at z
  have l1 := ze7 a.zero (wd a.w)
  have l2 := ze7 b.zero (wd a.w)
  have wadd : IntKind.i64.wrap ((lowN a.zero (wd a.w) : Nat) + (lowN b.zero (wd a.w) : Nat) : Int) = ((lowN a.zero (wd a.w) + lowN b.zero (wd a.w) : Nat) : Int) := zax (by omega) (by omega)
  have t1 : RR F.a0 [.int .i64 ((proK a b : Nat) : Int), wv (a.one * b.one)] H = some (wv (proP a b), H) := c42 _ kle _ H
  have t2 : RR F.a0 [.int .i64 ((proK a b : Nat) : Int), wv (~~~ proP a b)] H = some (wv (~~~ proP a b &&& msk (proK a b)), H) := c42 _ kle _ H
  have t3 : RR F.a0 [.int .i64 ((proZ a b : Nat) : Int), .int .u64 18446744073709551615] H = some (wv (msk (proZ a b)), H) := by
    have := c42 (proZ a b) zle (msk 64) H
    rwa [all_msk zle] at this
  obtain ⟨h, g1, g2⟩ := p_mul64 a.top b.top H
  have hz : ∀ (k : Value → Option (Value × Hp)), pBin PP .eql T.uint64 (wv h) (.int .u64 0) k = k (.bool (decide (h = 0#64))) := fun k => zdU _ h 0#64 k
  have hm := (msk (wd a.w)).isLt
  have key : (h = 0#64 ∧ (a.top * b.top).toNat ≤ (msk (wd a.w)).toNat) ↔ a.top.toNat * b.top.toNat ≤ (msk (wd a.w)).toNat := by
    constructor
    · rintro ⟨q1, q2⟩
      rw [q1] at g1
      have g1 : 0 = a.top.toNat * b.top.toNat / 18446744073709551616 := g1
      rw [BitVec.toNat_mul, Nat.mod_eq_of_lt (by omega)] at q2
      exact q2
    · intro q
      refine ⟨BitVec.eq_of_toNat_eq (by rw [g1, show (0#64).toNat = 0 from rfl]; omega), ?_⟩
      rw [BitVec.toNat_mul, Nat.mod_eq_of_lt (by omega)]; exact q
  rw [f_w, zae hraw', sp_0, zak, zae (p_sure a H), zae (lw _), zak, zae (p_sure b H), zae (lw _), s_minI] at hr
  have ek : min (lowN (a.one ||| a.zero) (wd a.w)) (lowN (b.one ||| b.zero) (wd a.w)) = proK a b := rfl
  have ez : min (lowN a.zero (wd a.w) + lowN b.zero (wd a.w)) (wd a.w) = proZ a b := rfl
  rw [zaX, zaX, zeY, ek, zae t1, zb3, b_not, zae t2, zbs, zaD, zaD, zae (lw _), zaD, zae (lw _), za6, wadd, minw, ez, zae t3, b_or, zbs, zaK, zaK, zae g2, x01, hz, zag] at hr
  unfold proF
  by_cases q1 : h = 0#64
  · rw [decide_eq_true q1, zap, zae (c26 ha.may.w64 H), zhJ, zag] at hr
    by_cases q2 : (a.top * b.top).toNat ≤ (msk (wd a.w)).toNat
    · rw [decide_eq_true q2, zap, zas, zas, zeY, za5, zbt, zak, sp_0, zak] at hr
      rw [if_pos (key.1 ⟨q1, q2⟩)]; exact hr
    · rw [decide_eq_false q2, zan, zak, sp_0, zak] at hr
      rw [if_neg (fun z => q2 (key.2 z).2)]; exact hr
  · rw [decide_eq_false q1, zan, zak, sp_0, zak] at hr
    rw [if_neg (fun z => q1 (key.2 z).1)]; exact hr
theorem q_product {a b : Fct} (ha : Sd a) (hb : Sd b) (h1 : 1 ≤ a.w) (hw : a.w = b.w) (H : Hp) : RR F.a106 [a.val, b.val] H = some ((proF a b).val, H) := by
  have hr := ze9 E0 rfl a.val b.val H
  unfold zcp at hr
  have hn := zbf ha.may.w64
  have e1 := zda h1
  have l1 := ze7 a.zero (wd a.w)
  have l2 := ze7 b.zero (wd a.w)
  have kA := q_known a e1 hn H
  have kB := q_known b (w := wd a.w) (by rw [← hw]; exact e1) hn H
  have zA := q_zeros a ha.exl e1 hn H
  have zB := q_zeros b hb.exl (w := wd a.w) (by rw [← hw]; exact e1) hn H
  have wadd : IntKind.i64.wrap ((lowN a.zero (wd a.w) : Nat) + (lowN b.zero (wd a.w) : Nat) : Int) = ((lowN a.zero (wd a.w) + lowN b.zero (wd a.w) : Nat) : Int) := zax (by omega) (by omega)
  have kle : proK a b ≤ 64 := by have := ze7 (a.one ||| a.zero) (wd a.w); unfold proK; omega
  have kle' : proK a b ≤ wd a.w := by have := ze7 (a.one ||| a.zero) (wd a.w); unfold proK; omega
  have zle : proZ a b ≤ 64 := by unfold proZ; omega
  have zle' : proZ a b ≤ wd a.w := by unfold proZ; omega
  have hones := c11 ha.may.w0 ha.may.w64 H
  rw [f_w, zae hones, f_w, b_wt, sp_0, zak, zae kA, zak, zae kB, zbj, zag] at hr
  have hmin : (br (decide (((lowN (b.one ||| b.zero) (wd a.w) : Nat) : Int) < ((lowN (a.one ||| a.zero) (wd a.w) : Nat) : Int))) (zab 5 true (zaa b.val) 0 fun v15 => zaf RR F.a28 [v15] H fun r16 H17 => some (Ctl.next, [r16], H17)) (some (Ctl.next, [.int .i64 ((lowN (a.one ||| a.zero) (wd a.w) : Nat) : Int)], H))) = (some (Ctl.next, [.int .i64 ((proK a b : Nat) : Int)], H) : Option Outc) := by
    unfold proK
    by_cases q : lowN (b.one ||| b.zero) (wd a.w) < lowN (a.one ||| a.zero) (wd a.w)
    · rw [decide_eq_true (by omega), zap, zak, zae kB, show min (lowN (a.one ||| a.zero) (wd a.w)) (lowN (b.one ||| b.zero) (wd a.w)) = lowN (b.one ||| b.zero) (wd a.w) by omega]
    · rw [decide_eq_false (by omega), zan, show min (lowN (a.one ||| a.zero) (wd a.w)) (lowN (b.one ||| b.zero) (wd a.w)) = lowN (a.one ||| a.zero) (wd a.w) by omega]
  rw [hmin, zao, zai] at hr
  simp only [qg0] at hr
  rw [zaX, zaX, zeY, zae (c48 _ kle H), zba, zak, zae zA, zak, zae zB, za6, wadd, f_w, zbl, zag] at hr
  have hmin2 : (br (decide (((lowN a.zero (wd a.w) + lowN b.zero (wd a.w) : Nat) : Int) > a.w)) (zab 1 false (zaa a.val) 0 fun v38 => some (Ctl.next, [v38], H)) (some (Ctl.next, [.int .i64 ((lowN a.zero (wd a.w) + lowN b.zero (wd a.w) : Nat) : Int)], H))) = (some (Ctl.next, [.int .i64 ((proZ a b : Nat) : Int)], H) : Option Outc) := by
    unfold proZ
    by_cases q : wd a.w < lowN a.zero (wd a.w) + lowN b.zero (wd a.w)
    · rw [decide_eq_true (by omega), zap, f_w, show min (lowN a.zero (wd a.w) + lowN b.zero (wd a.w)) (wd a.w) = wd a.w by omega, ← e1]
    · rw [decide_eq_false (by omega), zan, show min (lowN a.zero (wd a.w) + lowN b.zero (wd a.w)) (wd a.w) = lowN a.zero (wd a.w) + lowN b.zero (wd a.w) by omega]
  rw [hmin2, zao, zai] at hr
  simp only [qg0] at hr
  have ezero : ((msk (proK a b) &&& ~~~(a.one * b.one &&& msk (proK a b))) ||| msk (proZ a b)) &&& msk (wd a.w) = (~~~ proP a b &&& msk (proK a b)) ||| msk (proZ a b) := by
    rw [zbZ hn (zeo hn (zcu hn (znU kle' hn)) (znU zle' hn)), BitVec.and_comm]
    rfl
  have hz : ∀ (k : Value → Option (Value × Hp)), pBin PP .eql T.uint64 (wv b.top) (.int .u64 0) k = k (.bool (decide (b.top = 0#64))) := fun k => zdU _ b.top 0#64 k
  have ep : a.one * b.one &&& msk (proK a b) = proP a b := rfl
  rw [zb3, zae (c48 _ kle H), zbR, zae (c48 _ zle H), b_or, zba, ezero, zbs, zaK, hz, zag, ep] at hr
  unfold proF
  by_cases q1 : b.top = 0#64
  · rw [decide_eq_true q1, zap, zas, zas, zeY, za5, zaK, zaK, zeY, zbt, zak, sp_0, zak] at hr
    rw [if_pos (by rw [q1]; exact Nat.zero_le _)]; exact hr
  have hb0 : 0 < b.top.toNat := Nat.pos_of_ne_zero fun q => q1 (BitVec.eq_of_toNat_eq q)
  rw [decide_eq_false q1, zan, zaK, zaK, zog _ q1, zhJ, zag, BitVec.toNat_udiv] at hr
  by_cases q2 : a.top.toNat * b.top.toNat ≤ (msk (wd a.w)).toNat
  · rw [decide_eq_true ((Nat.le_div_iff_mul_le hb0).2 q2), zap, zas, zas, zeY, za5, zaK, zaK, zeY, zbt, zak, sp_0, zak] at hr
    rw [if_pos q2]; exact hr
  · rw [decide_eq_false (fun z => q2 ((Nat.le_div_iff_mul_le hb0).1 z)), zan, zak, sp_0, zak] at hr
    rw [if_neg q2]; exact hr
end Go.AM.N14
namespace Go.AM.N14
open Go Go.AM
theorem zjB {op : Int} (hop : 25 ≤ op ∧ op ≤ 29) {n k : Nat} (h0 : 1 ≤ n) (hn : n ≤ 64) (hk : k < n) {x : W64} (hx : x.toNat ≤ (msk n).toNat) : zhL op n x k (movW op n x k) := by
  obtain ⟨v, h1, _⟩ := p_moved hop h0 hn hk hx ⟨0, fun _ => none, fun _ => none⟩
  rw [zjC h1]; exact h1
theorem atM_lt {op : Int} {n k j p : Nat} (hk : k < n) (hj : j < n) (h : atM op n k j = some p) : p < n := by
  unfold atM at h
  split at h
  · split at h <;> cases h; omega
  split at h
  · split at h <;> cases h; assumption
  split at h
  · cases h; omega
  split at h
  · cases h; exact Nat.mod_lt _ (by omega)
  · cases h; exact Nat.mod_lt _ (by omega)
def zAt (a : Fct) : Option Nat → Bool
  | some p => a.zero.getLsbD p
  | none => true
noncomputable def came (op : Int) (w k : Nat) : W64 := if op = 25 ∨ op = 26 then msk w &&& ~~~ movW op w (msk w) k else 0#64
noncomputable def shB (op : Int) (a : Fct) (k : Nat) (l t : W64) : Fct := ⟨a.w, movW op (wd a.w) a.one k &&& msk (wd a.w), (movW op (wd a.w) a.zero k &&& msk (wd a.w)) ||| came op (wd a.w) k, l, t⟩
noncomputable def shF (op : Int) (a : Fct) (k : Nat) : Fct :=
  if op = 25 ∧ a.top.toNat * 2 ^ k ≤ (msk (wd a.w)).toNat then shB op a k (a.least <<< k) (a.top <<< k)
  else if op = 26 then shB op a k (a.least >>> k) (a.top >>> k) else shB op a k 0#64 (msk (wd a.w))
section
variable {op : Int} (hop : 25 ≤ op ∧ op ≤ 29) {a : Fct} (ha : Sd a) (h1 : 1 ≤ a.w) {k : Nat} (hk : k < wd a.w)
include hop ha h1 hk
theorem sh_one (j : Nat) : (movW op (wd a.w) a.one k &&& msk (wd a.w)).getLsbD j = (decide (j < wd a.w) && zdS a.one (atM op (wd a.w) k j)) := by
  have hn := zbf ha.may.w64
  rw [BitVec.getLsbD_and, zjB hop (zc9 _) hn hk ha.may.one j, zbe]
  by_cases q : j < wd a.w
  · simp [q]; omega
  · simp [q]
theorem znv (j : Nat) : ((movW op (wd a.w) a.zero k &&& msk (wd a.w)) ||| came op (wd a.w) k).getLsbD j = (decide (j < wd a.w) && zAt a (atM op (wd a.w) k j)) := by
  have hn := zbf ha.may.w64
  have hm := zjB hop (zc9 a.w) hn hk (x := msk (wd a.w)) (Nat.le_refl _)
  rw [BitVec.getLsbD_or, BitVec.getLsbD_and, zjB hop (zc9 _) hn hk ha.may.zero j, zbe]
  by_cases q : j < wd a.w
  · have h64 : j < 64 := by omega
    have hc : (came op (wd a.w) k).getLsbD j = (atM op (wd a.w) k j).isNone := by
      unfold came
      by_cases o : op = 25 ∨ op = 26
      · rw [if_pos o, BitVec.getLsbD_and, BitVec.getLsbD_not, hm j, zbe]
        cases e : atM op (wd a.w) k j with
        | none => simp [q, h64, zdS]
        | some p =>
          have := atM_lt hk q e
          simp only [zdS, zbe, q, h64]
          simp; omega
      · rw [if_neg o]
        cases e : atM op (wd a.w) k j with
        | none =>
          unfold atM at e
          rw [if_neg (by omega), if_neg (by omega)] at e
          split at e
          · cases e
          split at e <;> cases e
        | some p => simp
    rw [hc]
    cases e : atM op (wd a.w) k j with
    | none => simp [q, h64, zdS, zAt]
    | some p => simp [q, h64, zdS, zAt]
  · have hc : (came op (wd a.w) k).getLsbD j = false := by
      unfold came
      split
      · rw [BitVec.getLsbD_and, zbe]; simp [q]
      · simp
    simp [q, hc]
theorem sh_dat (l t : W64) (hl : l.toNat ≤ (msk (wd a.w)).toNat) (ht : t.toNat ≤ (msk (wd a.w)).toNat) : (shB op a k l t).May := by
  have hn := zbf ha.may.w64
  refine ⟨ha.may.w0, ha.may.w64, zbz hn _, (zaQ hn).2 fun j hj => ?_, hl, ht⟩
  have := znv hop ha h1 hk j
  show ((movW op (wd a.w) a.zero k &&& msk (wd a.w)) ||| came op (wd a.w) k).getLsbD j = false
  rw [this, decide_eq_false (by omega), Bool.false_and]
theorem zli {x : W64} (h : x.toNat * 2 ^ k ≤ (msk (wd a.w)).toNat) : (x <<< k).toNat = x.toNat * 2 ^ k := by
  have hm := (msk (wd a.w)).isLt
  rw [BitVec.toNat_shiftLeft, Nat.shiftLeft_eq, Nat.mod_eq_of_lt (by omega)]
theorem zlj : (shF op a k).May := by
  have hle := ha.le
  unfold shF
  split
  · rename_i q
    have e1 := zli hop ha h1 hk q.2
    have hl : a.least.toNat * 2 ^ k ≤ a.top.toNat * 2 ^ k := Nat.mul_le_mul_right _ hle
    have e2 := zli hop ha h1 hk (x := a.least) (by omega)
    exact sh_dat hop ha h1 hk _ _ (by rw [e2]; omega) (by rw [e1]; exact q.2)
  split
  · exact sh_dat hop ha h1 hk _ _ (by rw [zel]; exact Nat.le_trans (Nat.div_le_self _ _) ha.may.least) (by rw [zel]; exact Nat.le_trans (Nat.div_le_self _ _) ha.may.top)
  · exact sh_dat hop ha h1 hk _ _ (zero_le _) (Nat.le_refl _)
theorem shF_mem : ∃ t, Mem (shF op a k) t := by
  have hn := zbf ha.may.w64
  have hp := zc9 a.w
  have hm := zjB hop hp hn hk ha.may.least
  have hfit : Fit (movW op (wd a.w) a.one k &&& msk (wd a.w)) ((movW op (wd a.w) a.zero k &&& msk (wd a.w)) ||| came op (wd a.w) k) (movW op (wd a.w) a.least k) := fun j => by
    rw [sh_one hop ha h1 hk j, znv hop ha h1 hk j, hm j]
    have hf := ha.stl.lo.1
    cases e : atM op (wd a.w) k j with
    | none => simp [zdS]
    | some p =>
      have := hf p
      by_cases q : j < wd a.w
      · simp only [q, decide_true, Bool.true_and, zdS, zAt]
        exact this
      · simp [q]
  have hle := ha.le
  refine ⟨movW op (wd a.w) a.least k, ?_⟩
  unfold shF
  split
  · rename_i q
    have hl : a.least.toNat * 2 ^ k ≤ a.top.toNat * 2 ^ k := Nat.mul_le_mul_right _ hle
    have e1 := zli hop ha h1 hk q.2
    have e2 := zli hop ha h1 hk (x := a.least) (by omega)
    have em : movW op (wd a.w) a.least k = a.least <<< k := by
      rw [q.1]
      rw [zjC (zot hn hk), zbZ hn (by rw [e2]; omega)]
    refine ⟨hfit, ?_, ?_⟩
    · rw [em]; exact Nat.le_refl _
    · rw [em]; show (a.least <<< k).toNat ≤ (a.top <<< k).toNat; rw [e1, e2]; exact hl
  split
  · rename_i q
    have em : movW op (wd a.w) a.least k = a.least >>> k := by
      rw [q]; exact zjC (zos hn hk ha.may.least)
    refine ⟨hfit, ?_, ?_⟩
    · rw [em]; exact Nat.le_refl _
    · rw [em]; show (a.least >>> k).toNat ≤ (a.top >>> k).toNat; rw [zel, zel]; exact Nat.div_le_div_right hle
  · refine ⟨hfit, Nat.zero_le _, ?_⟩
    exact (zaQ hn).2 fun j hj => by rw [hm j, decide_eq_false (by omega), Bool.false_and]
end
theorem zjA {k : Nat} (h : k < 18446744073709551616) : Value.int .u64 (k : Int) = wv (BitVec.ofNat 64 k) := by
  unfold wv
  rw [BitVec.toNat_ofNat, Nat.mod_eq_of_lt (by omega)]
theorem bin_mov {op : Int} (hop : 25 ≤ op ∧ op ≤ 29) {w k : Nat} (hw : w ≤ 64) (hk : k < w) {x : W64} (hx : x.toNat ≤ (msk w).toNat) : binW op w x (BitVec.ofNat 64 k) = movW op w x k := by
  have hkm : (BitVec.ofNat 64 k).toNat = k := by rw [BitVec.toNat_ofNat, Nat.mod_eq_of_lt (by omega)]
  have hle : (BitVec.ofNat 64 k).toNat ≤ (msk w).toNat := by
    rw [hkm, zep _ hw]
    have := @Nat.lt_two_pow_self w
    omega
  unfold binW
  dsimp only
  rw [if_neg (by omega), if_neg (by omega), if_neg (by omega), if_neg (by omega), if_neg (by omega), if_neg (by omega), if_neg (by omega), if_neg (by omega), zbZ hw hx, zbZ hw hle, hkm, Nat.mod_eq_of_lt hk]
structure SB (H : Hp) (p : Nat) (op : Int) (w k : Nat) : Prop where
  a : H.get p = some (.cells [.int .i64 op] true)
  b : H.get (p + 1) = some (.cells [.int .i64 (k : Int)] true)
  c : H.get (p + 2) = some (.cells [.int .i64 (w : Int)] true)
theorem ld1 {H : Hp} {p : Nat} {v : Value} (h : H.get p = some (.cells [v] true)) {α : Type} (k : Value → Option α) : zaB 1 false H (.pointer (some ⟨p, 0, none⟩)) k = k v := by
  have : Hp.rdP H (.pointer (some ⟨p, 0, none⟩)) 1 false = some v := by
    show Hp.rd H p 0 1 false = some v
    unfold Hp.rd
    rw [h]; rfl
  unfold zaB; rw [this]
theorem rd1 {H : Hp} {p : Nat} {v : Value} (h : H.get p = some (.cells [v] true)) : Hp.rdP H (.pointer (some ⟨p, 0, none⟩)) 1 false = some v := by
  show Hp.rd H p 0 1 false = some v
  unfold Hp.rd
  rw [h]; rfl
theorem p_mv {H : Hp} {p : Nat} {op : Int} {w k : Nat} (h : SB H p op w k) (hop : 25 ≤ op ∧ op ≤ 29) (h0 : 1 ≤ w) (hw : w ≤ 64) (hs : ziG (w : Int) = true) (hk : k < w) {x : W64} (hx : x.toNat ≤ (msk w).toNat) :
    RR F.a54 [wv x, .pointer (some ⟨p, 0, none⟩), .pointer (some ⟨p + 2, 0, none⟩), .pointer (some ⟨p + 1, 0, none⟩)] H = some (wv (movW op w x k), H) := by
  refine (zhT E0 rfl _ _ _ _ H).trans ?_
  unfold zeE
  have hb := p_bin (op := op) ⟨by omega, hop.2⟩ h0 hw (fun _ => hs) x (BitVec.ofNat 64 k) H
  rw [bin_mov hop hw hk hx] at hb
  rw [ld1 h.a, ld1 h.c, ld1 h.b, cu64 _ (by omega), zjA (by omega), zae hb, x01]
theorem p_shifted {op : Int} (hop : 25 ≤ op ∧ op ≤ 29) {a : Fct} (ha : Sd a) (h1 : 1 ≤ a.w) (hs : ziG a.w = true) {k : Nat} (hk : k < wd a.w) (H : Hp) :
    ∃ H', RR F.a119 [.int .i64 op, a.val, .int .i64 (k : Int)] H = some ((shF op a k).val, H') ∧ Fr0 H H' := by
  have hr := zjc E0 rfl (.int .i64 op) a.val (.int .i64 (k : Int)) H
  unfold zfv at hr
  have hn := zbf ha.may.w64
  have e1 := zda h1
  have hp := zc9 a.w
  let A := (H.new (.cells [.int .i64 op] true))
  let B := A.new (.cells [.int .i64 (k : Int)] true)
  let C := B.new (.cells [.int .i64 0] true)
  let D := C.set (H.next + 2) (some (.cells [.int .i64 a.w] true))
  have ea : ∀ (f : Value → Hp → Option (Value × Hp)), ze2 (zaa (.int .i64 op)) H f = f (.pointer (some ⟨H.next, 0, none⟩)) A := fun f => rfl
  have eb : ∀ (f : Value → Hp → Option (Value × Hp)), ze2 (zaa (.int .i64 (k : Int))) A f = f (.pointer (some ⟨H.next + 1, 0, none⟩)) B := fun f => rfl
  have ec : ∀ (f : Value → Hp → Option (Value × Hp)), ze2 [.int .i64 0] B f = f (.pointer (some ⟨H.next + 2, 0, none⟩)) C := fun f => rfl
  have gC : C.get (H.next + 2) = some (.cells [.int .i64 0] true) := by
    show (B.new _).get _ = _
    rw [get_new]
    exact if_pos rfl
  have ed : ∀ (f : Hp → Option (Value × Hp)), zcc 1 C (.pointer (some ⟨H.next + 2, 0, none⟩)) (.int .i64 a.w) f = f D := fun f => by
    have : C.wr (.pointer (some ⟨H.next + 2, 0, none⟩)) 1 (.int .i64 a.w) = some D := by
      unfold Hp.wr
      dsimp only
      rw [gC]
      rfl
    unfold zcc; rw [this]
  have fr : Fr0 H D := by
    refine ⟨by show H.next ≤ H.next + 1 + 1 + 1; omega, fun j hj _ => ?_⟩
    show (C.set _ _).get j = _
    rw [get_set, if_neg (by omega)]
    show (B.new _).get j = _
    rw [get_new, if_neg (by show j ≠ H.next + 1 + 1; omega)]
    show (A.new _).get j = _
    rw [get_new, if_neg (by show j ≠ H.next + 1; omega)]
    show (H.new _).get j = _
    rw [get_new, if_neg (by omega)]
  have sb : SB D H.next op (wd a.w) k := by
    refine ⟨?_, ?_, ?_⟩
    · show (C.set _ _).get _ = _
      rw [get_set, if_neg (by omega)]
      show (B.new _).get _ = _
      rw [get_new, if_neg (by show H.next ≠ H.next + 1 + 1; omega)]
      show (A.new _).get _ = _
      rw [get_new, if_neg (by show H.next ≠ H.next + 1; omega)]
      show (H.new _).get _ = _
      rw [get_new, if_pos rfl]
    · show (C.set _ _).get _ = _
      rw [get_set, if_neg (by omega)]
      show (B.new _).get _ = _
      rw [get_new, if_neg (by show H.next + 1 ≠ H.next + 1 + 1; omega)]
      show (A.new _).get _ = _
      rw [get_new]
      exact if_pos rfl
    · show (C.set _ _).get _ = _
      rw [get_set, if_pos rfl, ← e1]
  have hs' : ziG ((wd a.w : Nat) : Int) = true := by rw [← e1]; exact hs
  have m1 := p_mv sb hop hp hn hs' hk ha.may.one
  have m2 := p_mv sb hop hp hn hs' hk ha.may.zero
  have m3 := p_mv sb hop hp hn hs' hk (x := msk (wd a.w)) (Nat.le_refl _)
  have lw : ∀ (f : Value → Option (Value × Hp)), zaB 1 false D (.pointer (some ⟨H.next + 2, 0, none⟩)) f = f (.int .i64 a.w) := fun f => by
    have := ld1 sb.c f
    rwa [← e1] at this
  have rw_ : Hp.rdP D (.pointer (some ⟨H.next + 2, 0, none⟩)) 1 false = some (.int .i64 a.w) := by
    have := rd1 sb.c
    rwa [← e1] at this
  refine ⟨D, ?_, fr⟩
  have eo : (if op = 25 ∨ op = 26 then msk (wd a.w) &&& ~~~ movW op (wd a.w) (msk (wd a.w)) k else 0#64) = came op (wd a.w) k := rfl
  rw [ea, eb, f_w, ec, ed, lw, zaX, zae m1, zfQ rw_, zaD, zae m2, zfQ rw_, zae (zmE ha.may.w64 _ _ D), sp_0, lw, zae (c26 ha.may.w64 D), lw, zfQ rw_, zae (c26 ha.may.w64 D), zae m3, zbR, ld1 sb.a, zay, zag] at hr
  unfold shF
  by_cases o25 : op = 25
  · have ec : came op (wd a.w) k = msk (wd a.w) &&& ~~~ movW op (wd a.w) (msk (wd a.w)) k := if_pos (.inl o25)
    obtain ⟨h, g1, g2⟩ := p_mul64 a.top ((1#64) <<< k) D
    have hz : ∀ (k : Value → Option (Value × Hp)), pBin PP .eql T.uint64 (wv h) (.int .u64 0) k = k (.bool (decide (h = 0#64))) := fun k => zdU _ h 0#64 k
    have h1k : ((1#64) <<< k).toNat = 2 ^ k := by
      have : 2 ^ k < 2 ^ 64 := Nat.pow_lt_pow_right (by decide) (by omega)
      rw [BitVec.toNat_shiftLeft, Nat.shiftLeft_eq, show (1#64).toNat = 1 from rfl, Nat.one_mul, Nat.mod_eq_of_lt this]
    rw [h1k] at g1
    have hm := (msk (wd a.w)).isLt
    have emul : a.top * (1#64) <<< k = a.top <<< k := BitVec.eq_of_toNat_eq (by rw [BitVec.toNat_mul, h1k, BitVec.toNat_shiftLeft, Nat.shiftLeft_eq])
    rw [emul] at g2
    have key : (h = 0#64 ∧ (a.top <<< k).toNat ≤ (msk (wd a.w)).toNat) ↔ a.top.toNat * 2 ^ k ≤ (msk (wd a.w)).toNat := by
      rw [BitVec.toNat_shiftLeft, Nat.shiftLeft_eq]
      constructor
      · rintro ⟨q1, q2⟩
        rw [q1] at g1
        have g1 : 0 = a.top.toNat * 2 ^ k / 18446744073709551616 := g1
        rw [Nat.mod_eq_of_lt (by omega)] at q2
        exact q2
      · intro q
        refine ⟨BitVec.eq_of_toNat_eq (by rw [g1, show (0#64).toNat = 0 from rfl]; omega), ?_⟩
        rw [Nat.mod_eq_of_lt (by omega)]; exact q
    rw [decide_eq_true o25, zap, zaD, b_or, ← ec, zbs, zaK, ld1 sb.b, cu64 _ (by omega), u_1, zb2, zae g2, x01, hz, zag] at hr
    by_cases q1 : h = 0#64
    · rw [decide_eq_true q1, zap, lw, zae (c26 ha.may.w64 D), zhJ, zag] at hr
      by_cases q2 : (a.top <<< k).toNat ≤ (msk (wd a.w)).toNat
      · rw [decide_eq_true q2, zap, zas, ld1 sb.b, cu64 _ (by omega), zb2, za5, zbt, zak, sp_0, zak] at hr
        rw [if_pos ⟨o25, key.1 ⟨q1, q2⟩⟩]; exact hr
      · rw [decide_eq_false q2, zan, zak, sp_0, zak] at hr
        rw [if_neg (fun z => q2 (key.2 z.2).2), if_neg (by omega)]; exact hr
    · rw [decide_eq_false q1, zan, zak, sp_0, zak] at hr
      rw [if_neg (fun z => q1 (key.2 z.2).1), if_neg (by omega)]; exact hr
  rw [decide_eq_false o25, zan, zay, zag] at hr
  rw [if_neg (fun z => o25 z.1)]
  by_cases o26 : op = 26
  · have ec : came op (wd a.w) k = msk (wd a.w) &&& ~~~ movW op (wd a.w) (msk (wd a.w)) k := if_pos (.inr o26)
    rw [decide_eq_true o26, zap, zaD, b_or, ← ec, zbs, zas, ld1 sb.b, cu64 _ (by omega), zc8, zaK, ld1 sb.b, cu64 _ (by omega), zc8, za5, zbt, zak, sp_0, zak] at hr
    rw [if_pos o26]; exact hr
  · have ec : came op (wd a.w) k = 0#64 := if_neg (by omega)
    rw [decide_eq_false o26, zan, zak, sp_0, zak] at hr
    rw [if_neg o26]
    unfold shB
    rw [ec, BitVec.or_zero]; exact hr
end Go.AM.N14
namespace Go.AM.N14
open Go Go.AM
structure MV (op : Int) (a : Fct) (k i : Nat) (f : Fct) : Prop where
  w : f.w = a.w
  l : f.least = 0#64
  t : f.top = msk (wd a.w)
  one : ∀ j, f.one.getLsbD j = (decide (j < i) && zdS a.one (atM op (wd a.w) k j))
  zero : ∀ j, f.zero.getLsbD j = (decide (j < i) && zAt a (atM op (wd a.w) k j))
def stA (a : Fct) : Option Nat → Int
  | some p => tri (a.one.getLsbD p) (a.zero.getLsbD p)
  | none => 0
theorem tri_10 {x y : Bool} (h : exl x y) : decide (tri x y = 1) = x ∧ decide (tri x y = 0) = y := by
  unfold exl at h
  cases x <;> cases y <;> first | decide | exact absurd ⟨rfl, rfl⟩ h
theorem st_1 {a : Fct} (he : ∀ i, exl (a.one.getLsbD i) (a.zero.getLsbD i)) (o : Option Nat) : decide (stA a o = 1) = zdS a.one o ∧ decide (stA a o = 0) = zAt a o := by
  cases o with
  | none => exact ⟨rfl, rfl⟩
  | some p =>
    exact tri_10 (he p)
theorem zon (x y : Nat) : (x : Int).tmod (y : Int) = ((x % y : Nat) : Int) := rfl
theorem put_bit {o : W64} {i : Nat} (h64 : i < 64) {P : Nat → Bool} (h : ∀ j, o.getLsbD j = (decide (j < i) && P j)) : ∀ j, (if P i = true then o ||| (1#64) <<< i else o).getLsbD j = (decide (j < i + 1) && P j) := fun j => by
  by_cases q : P i = true
  · rw [if_pos q, zb1 o i j h64, h j]
    rcases Nat.lt_trichotomy j i with z | z | z
    · simp [z, show j < i + 1 by omega, show j ≠ i by omega]
    · subst z; simp [q]
    · simp [show ¬ j < i by omega, show ¬ j < i + 1 by omega, show j ≠ i by omega]
  · rw [if_neg q, h j]
    rcases Nat.lt_trichotomy j i with z | z | z
    · simp [z, show j < i + 1 by omega]
    · subst z; simp [q]
    · simp [show ¬ j < i by omega, show ¬ j < i + 1 by omega]
section
variable {op : Int} (hop : 25 ≤ op ∧ op ≤ 29) {a : Fct} (ha : Sd a) (h1 : 1 ≤ a.w) {k : Nat} (hk : k < wd a.w)
include hop ha h1 hk
theorem q_mv_step {i : Nat} (hi : i < wd a.w) {f : Fct} (hf : MV op a k i f) (H : Hp) :
    ∃ f', za2 RR (.int .i64 op) a.val (.int .i64 (k : Int)) (.int .i64 a.w) [.int .i64 (i : Int), f.val] H = some (.next, [.int .i64 ((i + 1 : Nat) : Int), f'.val], H) ∧ MV op a k (i + 1) f' := by
  have hn := zbf ha.may.w64
  have e1 := zda h1
  have he := ha.exl
  obtain ⟨s1, s0⟩ := st_1 he (atM op (wd a.w) k i)
  have hq : ∀ (p : Nat), p < wd a.w → RR F.a10 [a.val, .int .i64 (p : Int)] H = some (.int .i64 (tri (a.one.getLsbD p) (a.zero.getLsbD p)), H) := fun p hp => zfp a (by omega) H
  refine ⟨⟨f.w, if zdS a.one (atM op (wd a.w) k i) = true then f.one ||| (1#64) <<< i else f.one, if zAt a (atM op (wd a.w) k i) = true then f.zero ||| (1#64) <<< i else f.zero, f.least, f.top⟩, ?_,
    ⟨hf.w, hf.l, hf.t, put_bit (P := fun j => zdS a.one (atM op (wd a.w) k j)) (by omega) hf.one, put_bit (P := fun j => zAt a (atM op (wd a.w) k j)) (by omega) hf.zero⟩⟩
  have w1 : IntKind.i64.wrap ((i : Int) + 1) = ((i + 1 : Nat) : Int) := zax (by omega) (by omega)
  have wk : IntKind.i64.wrap ((i : Int) + (k : Int)) = ((i + k : Nat) : Int) := zax (by omega) (by omega)
  have wm : IntKind.i64.wrap ((i : Int) - (k : Int)) = (i : Int) - (k : Int) := zax (by omega) (by omega)
  have tail : ∀ s : Int, s = stA a (atM op (wd a.w) k i) → (pBin PP .eql T.int (.int .i64 s) (.int .i64 1) fun v57 =>
 zad v57 fun b58 => br b58
 (zab 1 false (zaa f.val) 1 fun v59 =>
 zal .u64 (.int .i64 (i : Int)) fun v60 =>
 pBin PP .shl T.uint64 (.int .u64 1) v60 fun v61 =>
 pBin PP .or T.uint64 v59 v61 fun v62 =>
 zac 1 (zaa f.val) 1 v62 fun c63 =>
 pBin PP .eql T.int (.int .i64 s) (.int .i64 0) fun v64 =>
 zad v64 fun b65 => br b65
 (zab 1 false c63 2 fun v66 =>
 zal .u64 (.int .i64 (i : Int)) fun v67 =>
 pBin PP .shl T.uint64 (.int .u64 1) v67 fun v68 =>
 pBin PP .or T.uint64 v66 v68 fun v69 =>
 zac 1 c63 2 v69 fun c70 =>
 pBin PP .add T.int (.int .i64 (i : Int)) (.int .i64 1) fun v71 =>
 some (Ctl.next, [v71, (.agg c70.toArray)], H))
 (pBin PP .add T.int (.int .i64 (i : Int)) (.int .i64 1) fun v72 =>
 some (Ctl.next, [v72, (.agg c63.toArray)], H)))
 (pBin PP .eql T.int (.int .i64 s) (.int .i64 0) fun v73 =>
 zad v73 fun b74 => br b74
 (zab 1 false (zaa f.val) 2 fun v75 =>
 zal .u64 (.int .i64 (i : Int)) fun v76 =>
 pBin PP .shl T.uint64 (.int .u64 1) v76 fun v77 =>
 pBin PP .or T.uint64 v75 v77 fun v78 =>
 zac 1 (zaa f.val) 2 v78 fun c79 =>
 pBin PP .add T.int (.int .i64 (i : Int)) (.int .i64 1) fun v80 =>
 some (Ctl.next, [v80, (.agg c79.toArray)], H))
 (pBin PP .add T.int (.int .i64 (i : Int)) (.int .i64 1) fun v81 =>
 some (Ctl.next, [v81, (.agg (zaa f.val).toArray)], H)))) = (some (.next, [.int .i64 ((i + 1 : Nat) : Int), Fct.val ⟨f.w, if zdS a.one (atM op (wd a.w) k i) = true then f.one ||| (1#64) <<< i else f.one, if zAt a (atM op (wd a.w) k i) = true then f.zero ||| (1#64) <<< i else f.zero, f.least, f.top⟩], H) : Option Outc) := fun s hs => by
    rw [← hs] at s1 s0
    rw [zay, zag, s1]
    cases b : zdS a.one (atM op (wd a.w) k i) with
    | true =>
      rw [zap, zaX, cu64 _ (by omega), u_1, zb2, b_or, zb3, zay, zag, s0]
      cases z : zAt a (atM op (wd a.w) k i) with
      | true => rw [zap, zaD, cu64 _ (by omega), zb2, b_or, zbs, za6, w1, zaL, if_pos rfl, if_pos rfl]
      | false => rw [zan, za6, w1, zaL, if_pos rfl, if_neg (by decide)]
    | false =>
      rw [zan, zay, zag, s0]
      cases z : zAt a (atM op (wd a.w) k i) with
      | true => rw [zap, zaD, cu64 _ (by omega), u_1, zb2, b_or, zbs, za6, w1, zaL, if_neg (by decide), if_pos rfl]
      | false => rw [zan, za6, w1, zaL, if_neg (by decide), if_neg (by decide)]
  unfold za2
  simp only [qg0, qd1, qd0]
  rw [lT (by omega), za6, wk, zay, zag]
  by_cases o25 : op = 25
  · rw [decide_eq_true o25, zap, zb0, wm, zao, zai, eF (by omega), zay, decide_eq_false (by omega), zao, zai]
    simp only [qg0]
    rw [zag, zan, zbg, zag]
    by_cases q : k ≤ i
    · have hat : atM op (wd a.w) k i = some (i - k) := by unfold atM; rw [if_pos o25, if_pos q]
      rw [decide_eq_true (by omega), zap, lT (by omega), zak, show (i : Int) - (k : Int) = ((i - k : Nat) : Int) by omega, zae (hq (i - k) (by omega)), zao, zai]
      simp only [qg0]
      exact tail _ (by rw [hat]; rfl)
    · have hat : atM op (wd a.w) k i = none := by unfold atM; rw [if_pos o25, if_neg q]
      rw [decide_eq_false (by omega), zan, eF (by omega), zao, zai]
      simp only [qg0]
      exact tail _ (by rw [hat]; rfl)
  rw [decide_eq_false o25, zan, zay, zag]
  by_cases o28 : op = 28
  · have hat : atM op (wd a.w) k i = some ((i + wd a.w - k) % wd a.w) := by unfold atM; rw [if_neg o25, if_neg (by omega), if_neg (by omega), if_pos o28]
    have hlt : (i + wd a.w - k) % wd a.w < wd a.w := Nat.mod_lt _ (by omega)
    have wa : IntKind.i64.wrap ((i : Int) - (k : Int) + a.w) = ((i + wd a.w - k : Nat) : Int) := by rw [zax (by omega) (by omega)]; omega
    have wr : ((i + wd a.w - k : Nat) : Int).tmod a.w = (((i + wd a.w - k) % wd a.w : Nat) : Int) := by
      have z := zon (i + wd a.w - k) (wd a.w)
      rwa [← e1] at z
    rw [decide_eq_true o28, zap, zb0, wm, zao, zai, eT o28, zao, zai]
    simp only [qg0]
    rw [zag, zap, zak, za6, wa, zkc _ _ _ _ (by omega), wr, zae (hq _ hlt), zao, zai]
    simp only [qg0]
    exact tail _ (by rw [hat]; rfl)
  rw [decide_eq_false o28, zan, zao, zai, eF o28, zay, zao, zai]
  simp only [qg0]
  rw [zag]
  by_cases o29 : op = 29
  · have hat : atM op (wd a.w) k i = some ((i + k) % wd a.w) := by unfold atM; rw [if_neg o25, if_neg (by omega), if_neg (by omega), if_neg o28]
    have hlt : (i + k) % wd a.w < wd a.w := Nat.mod_lt _ (by omega)
    have wa : IntKind.i64.wrap (((i + k : Nat) : Int) + a.w) = ((i + k + wd a.w : Nat) : Int) := by rw [zax (by omega) (by omega)]; omega
    have wr : ((i + k + wd a.w : Nat) : Int).tmod a.w = (((i + k) % wd a.w : Nat) : Int) := by
      have z := zon (i + k + wd a.w) (wd a.w)
      rw [← e1] at z
      rw [z, Nat.add_mod_right]
    rw [decide_eq_true o29, zap, zak, za6, wa, zkc _ _ _ _ (by omega), wr, zae (hq _ hlt), zao, zai]
    simp only [qg0]
    exact tail _ (by rw [hat]; rfl)
  rw [decide_eq_false o29, zan, zbg, bT (by omega), zbj, zag]
  by_cases q : i + k < wd a.w
  · have hat : atM op (wd a.w) k i = some (i + k) := by
      unfold atM
      rw [if_neg o25]
      by_cases o26 : op = 26
      · rw [if_pos o26, if_pos q]
      · rw [if_neg o26, if_pos (by omega), show min (i + k) (wd a.w - 1) = i + k by omega]
    rw [decide_eq_true (by omega), zap, zak, zae (hq (i + k) q), zao, zai]
    simp only [qg0]
    exact tail _ (by rw [hat]; rfl)
  rw [decide_eq_false (by omega), zan, zay, zag]
  by_cases o27 : op = 27
  · have hat : atM op (wd a.w) k i = some (wd a.w - 1) := by
      unfold atM
      rw [if_neg o25, if_neg (by omega), if_pos o27, show min (i + k) (wd a.w - 1) = wd a.w - 1 by omega]
    have ws : IntKind.i64.wrap (a.w - 1) = ((wd a.w - 1 : Nat) : Int) := by rw [zax (by omega) (by omega)]; omega
    rw [decide_eq_true o27, zap, zak, zb0, ws, zae (hq (wd a.w - 1) (by omega)), zao, zai]
    simp only [qg0]
    exact tail _ (by rw [hat]; rfl)
  · have hat : atM op (wd a.w) k i = none := by
      unfold atM
      rw [if_neg o25, if_pos (by omega), if_neg q]
    rw [decide_eq_false o27, zan, zao, zai]
    simp only [qg0]
    exact tail _ (by rw [hat]; rfl)
theorem zmz (H : Hp) : ∀ (m i : Nat) (f : Fct), i + m = wd a.w → MV op a k i f →
    ∃ f', zaA (za2 RR (.int .i64 op) a.val (.int .i64 (k : Int)) (.int .i64 a.w)) [.int .i64 (i : Int), f.val] H = some (.exit 0, [.int .i64 a.w, f'.val], H) ∧ MV op a k (wd a.w) f'
  | 0, i, f, hi, hf => by
    have : i = wd a.w := by omega
    subst this
    refine ⟨f, ?_, hf⟩
    have e1 := zda h1
    rw [zaq]
    have : za2 RR (.int .i64 op) a.val (.int .i64 (k : Int)) (.int .i64 a.w) [.int .i64 ((wd a.w : Nat) : Int), f.val] H = some (.exit 0, [.int .i64 ((wd a.w : Nat) : Int), f.val], H) := by
      unfold za2
      simp only [qg0, qd1, qd0]
      rw [lF (by omega), zaL]
    rw [this, ← e1]; rfl
  | m + 1, i, f, hi, hf => by
    obtain ⟨f1, g1, g2⟩ := q_mv_step hop ha h1 hk (i := i) (by omega) hf H
    obtain ⟨f', g3, g4⟩ := zmz H m (i + 1) f1 (by omega) g2
    refine ⟨f', ?_, g4⟩
    rw [zaq, g1]; exact g3
theorem q_moved14 (H : Hp) : RR F.a49 [.int .i64 op, a.val, .int .i64 (k : Int)] H = some ((shF op a k).val, H) := by
  have hr := (zfU E0 rfl (.int .i64 op) a.val (.int .i64 (k : Int)) H).trans (zf5 _ _ _ _ _)
  have hn := zbf ha.may.w64
  have e1 := zda h1
  obtain ⟨f, l1, mf⟩ := zmz hop ha h1 hk H (wd a.w) 0 ⟨a.w, 0#64, 0#64, 0#64, msk (wd a.w)⟩ (by omega) ⟨rfl, rfl, rfl, fun j => by simp, fun j => by simp⟩
  have l1' : zaA (za2 RR (.int .i64 op) a.val (.int .i64 (k : Int)) (.int .i64 a.w)) [.int .i64 0, .agg (zaa (Fct.val ⟨a.w, 0#64, 0#64, 0#64, msk (wd a.w)⟩)).toArray] H = _ := l1
  have eO : f.one = movW op (wd a.w) a.one k &&& msk (wd a.w) := zbL fun j => by rw [mf.one, sh_one hop ha h1 hk]
  have eZ : f.zero = (movW op (wd a.w) a.zero k &&& msk (wd a.w)) ||| came op (wd a.w) k := zbL fun j => by rw [mf.zero, znv hop ha h1 hk]
  have ef : f = shB op a k 0#64 (msk (wd a.w)) := by
    obtain ⟨w, o, z, l, t⟩ := f
    have := mf.w
    have := mf.l
    have := mf.t
    simp only at *
    unfold shB
    subst_vars
    rfl
  have hones := c11 ha.may.w0 ha.may.w64 H
  rw [f_w, zae hones, b_wt, sp_0, l1', zao, zbq, zaT] at hr
  simp only [qd1, qd0, qg0] at hr
  rw [zay, zag] at hr
  have hm := (msk (wd a.w)).isLt
  have hp2 : 0 < 2 ^ k := Nat.two_pow_pos _
  unfold shF
  by_cases o25 : op = 25
  · rw [decide_eq_true o25, zap, zaK, zae hones, cu64 _ (by omega), zc8, zhJ, zag, zel] at hr
    by_cases q : a.top.toNat * 2 ^ k ≤ (msk (wd a.w)).toNat
    · rw [decide_eq_true ((Nat.le_div_iff_mul_le hp2).2 q), zap, zas, cu64 _ (by omega), zb2, za5, zaK, cu64 _ (by omega), zb2, zbt, zao, zai] at hr
      simp only [qd0, qg0] at hr
      rw [eF (by omega), zaL, zak, sp_0, zak] at hr
      rw [if_pos ⟨o25, q⟩]; refine hr.trans ?_; rw [ef]; rfl
    · rw [decide_eq_false (fun z => q ((Nat.le_div_iff_mul_le hp2).1 z)), zan, zao, zai] at hr
      simp only [qd0, qg0] at hr
      rw [eF (by omega), zaL, zak, sp_0, zak] at hr
      rw [if_neg (fun z => q z.2), if_neg (by omega)]; refine hr.trans ?_; rw [ef]
  rw [decide_eq_false o25, zan, zao, zai] at hr
  simp only [qd0, qg0] at hr
  rw [zay, zag] at hr
  rw [if_neg (fun z => o25 z.1)]
  by_cases o26 : op = 26
  · rw [decide_eq_true o26, zap, zas, cu64 _ (by omega), zc8, zaL, za5, zaK, cu64 _ (by omega), zc8, zbt, zak, sp_0, zak] at hr
    rw [if_pos o26]; refine hr.trans ?_; rw [ef]; rfl
  · rw [decide_eq_false o26, zan, zaL, zak, sp_0, zak] at hr
    rw [if_neg o26]; refine hr.trans ?_; rw [ef]
end
end Go.AM.N14
namespace Go.AM.N14
open Go Go.AM
def amF (b : Fct) (k : Nat) : Fct := ⟨b.w, b.one ||| BitVec.ofNat 64 k, b.zero ||| (BitVec.ofNat 64 (wd b.w - 1) &&& ~~~ BitVec.ofNat 64 k), b.least, b.top⟩
theorem nat_le {k w : Nat} (hw : w ≤ 64) (hk : k < w) : (BitVec.ofNat 64 k).toNat ≤ (msk w).toNat := by
  rw [BitVec.toNat_ofNat, Nat.mod_eq_of_lt (by omega), zep _ hw]
  have := @Nat.lt_two_pow_self w
  omega
theorem amF_may {b : Fct} (hb : b.May) {k : Nat} (hk : k < wd b.w) : (amF b k).May := by
  have hn := zbf hb.w64
  exact ⟨hb.w0, hb.w64, zeo hn hb.one (nat_le hn hk), zeo hn hb.zero (zcu hn (nat_le hn (by omega))), hb.least, hb.top⟩
theorem amounts {b : Fct} (hb : Sd b) (h1 : 1 ≤ b.w) {k : Nat} (hk : k < wd b.w) : ∃ e : Int, (∀ H, RR F.a112 [b.val, .int .i64 (k : Int)] H = some (.bool (decide (e = 0)), H)) ∧
    ∀ H, ∃ g : Fct, RR F.a2 [(amF b k).val] H = some (.tuple #[g.val, .int .i64 e], H) := by
  have hm := amF_may hb.may hk
  obtain ⟨g, e, g1, g2, g3⟩ := zfL hm hm rfl (fun _ => Iff.rfl)
  have e1 := zda h1
  have h64 := hb.may.w64
  have wsub : IntKind.i64.wrap (b.w - 1) = ((wd b.w - 1 : Nat) : Int) := by rw [zax (by omega) (by omega)]; omega
  refine ⟨e, fun H => ?_, fun H => ⟨g, g3 H⟩⟩
  have hr := zkk E0 rfl b.val (.int .i64 (k : Int)) H
  unfold zgo at hr
  have g2' : RR F.a5 [Fct.val ⟨b.w, b.one ||| BitVec.ofNat 64 k, b.zero ||| (BitVec.ofNat 64 (wd b.w - 1) &&& ~~~ BitVec.ofNat 64 k), b.least, b.top⟩] H = _ := g2 H
  rw [f_w, zb0, wsub, cu64 _ (by omega), f_w, zaX, cu64 _ (by omega), zjA (k := k) (by omega), b_or, zaD, cu64 _ (by omega), zjA (k := wd b.w - 1) (by omega), zjA (k := k) (by omega), zbR, b_or, zas, zaK, b_5, sp_0, zak, zae g2', x01, sp_0] at hr
  exact hr
def Gath (a : Fct) (any : Bool) (out : Fct) : Prop := (any = false ∧ out = F0) ∨ (any = true ∧ Sd out ∧ out.w = a.w)
theorem Gath.may {a out : Fct} {any : Bool} (h : Gath a any out) : out.May := by
  rcases h with ⟨_, rfl⟩ | ⟨_, h, _⟩
  · exact ⟨by decide, by decide, by decide, by decide, by decide, by decide⟩
  · exact h.may
section
variable {op : Int} (hop : 25 ≤ op ∧ op ≤ 29) {a b : Fct} (ha : Sd a) (hb : Sd b) (h1 : 1 ≤ a.w) (hw : a.w = b.w) (hs : ziG a.w = true)
include hop ha hb h1 hw hs
theorem shs_step {any : Bool} {out : Fct} (hg : Gath a any out) {i : Nat} (hi : i < wd a.w) : ∃ any' out', Gath a any' out' ∧
    (∀ H, ∃ H', zbd RR (.int .i64 op) a.val b.val (.int .i64 a.w) [.bool any, .int .i64 (i : Int), out.val] H = some (.next, [.bool any', .int .i64 ((i + 1 : Nat) : Int), out'.val], H') ∧ Fr0 H H') ∧
    (∀ H, zaP RR (.int .i64 op) a.val b.val [.bool any, .int .i64 (i : Int), out.val] H = some (.next, [.bool any', .int .i64 ((i + 1 : Nat) : Int), out'.val], H)) := by
  have hn := zbf ha.may.w64
  have e1 := zda h1
  have ew : wd b.w = wd a.w := by rw [hw]
  obtain ⟨e, a1, a2⟩ := amounts hb (by omega) (k := i) (by omega)
  have w1 : IntKind.i64.wrap ((i : Int) + 1) = ((i + 1 : Nat) : Int) := zax (by omega) (by omega)
  have h64 := ha.may.w64
  have wsub : IntKind.i64.wrap (a.w - 1) = ((wd a.w - 1 : Nat) : Int) := by rw [zax (by omega) (by omega)]; omega
  have qpre : ∀ H, ∃ g : Fct, zaP RR (.int .i64 op) a.val b.val [.bool any, .int .i64 (i : Int), out.val] H = br (decide (e ≠ 0))
      (some (.next, [.bool any, .int .i64 ((i + 1 : Nat) : Int), out.val], H))
      (zaf RR F.a49 [.int .i64 op, a.val, .int .i64 (i : Int)] H fun r30 H31 =>
 zaf RR F.a2 [r30] H31 fun r32 H33 =>
 zah r32 0 fun v34 =>
 zah r32 1 fun v35 =>
 zac 5 [.int .i64 0, .int .u64 0, .int .u64 0, .int .u64 0, .int .u64 0] 0 v34 fun c36 =>
 br any
 (zab 5 true (zaa out.val) 0 fun v38 =>
 zab 5 true c36 0 fun v39 =>
 zaf RR F.a48 [v38, v39] H33 fun r40 H41 =>
 zac 5 c36 0 r40 fun c42 =>
 zab 5 true c42 0 fun v43 =>
 zac 5 (zaa out.val) 0 v43 fun c44 =>
 some (.next, [(.bool true), .int .i64 ((i + 1 : Nat) : Int), (.agg c44.toArray)], H41))
 (zab 5 true c36 0 fun v46 =>
 zac 5 (zaa out.val) 0 v46 fun c47 =>
 some (.next, [(.bool true), .int .i64 ((i + 1 : Nat) : Int), (.agg c47.toArray)], H33))) := fun H => by
    obtain ⟨g, g1⟩ := a2 H
    refine ⟨g, ?_⟩
    have g1' : RR F.a2 [Fct.val ⟨b.w, b.one ||| BitVec.ofNat 64 i, b.zero ||| (BitVec.ofNat 64 (wd a.w - 1) &&& ~~~ BitVec.ofNat 64 i), b.least, b.top⟩] H = some (.tuple #[g.val, .int .i64 e], H) := by
      rw [← ew]; exact g1
    unfold zaP
    simp only [qg0, qg1, qd1, qd0]
    rw [f_w, lT (by omega), zak, sp_0, zaX, cu64 _ (by omega), zjA (k := i) (by omega), b_or, zb3, zaD, f_w, zb0, wsub, cu64 _ (by omega), zjA (k := wd a.w - 1) (by omega), cu64 _ (by omega), zjA (k := i) (by omega), zbR, b_or, zbs, zak, zae g1', x01, sp_0, zbY, zag, za6, w1, zaL, zak]
    simp only [zag, za6, w1]
  by_cases he : e = 0
  · obtain ⟨gs, es, s1, s2, s3⟩ := zfL (zlj hop ha h1 hi) (zlj hop ha h1 hi) rfl (fun _ => Iff.rfl)
    have hst : Stl (shF op a i) gs ∧ es = 0 := by
      obtain ⟨t, ht⟩ := shF_mem hop ha h1 hi
      rcases s1 with ⟨q, _⟩ | ⟨_, q, _⟩ | ⟨_, q, e⟩
      · exact absurd (zlj hop ha h1 hi) q
      · exact absurd ht (q t)
      · exact ⟨q, e⟩
    have sg := hst.1.sd (zlj hop ha h1 hi)
    have swg : gs.w = a.w := by
      rw [hst.1.w]
      unfold shF
      split
      · rfl
      · split <;> rfl
    have hmv := q_moved14 hop ha h1 hi
    have ppre : ∀ H, ∃ H', zbd RR (.int .i64 op) a.val b.val (.int .i64 a.w) [.bool any, .int .i64 (i : Int), out.val] H = br any
         (zab 5 true (zaa out.val) 0 fun v26 =>
         zab 5 true (zaa gs.val) 0 fun v27 =>
         zaf RR F.a51 [v26, v27] H' fun r28 H29 =>
         zac 5 (zaa gs.val) 0 r28 fun c30 =>
         zab 5 true c30 0 fun v31 =>
         zac 5 (zaa out.val) 0 v31 fun c32 =>
         some (.next, [(.bool true), .int .i64 ((i + 1 : Nat) : Int), (.agg c32.toArray)], H29))
         (zab 5 true (zaa gs.val) 0 fun v34 =>
         zac 5 (zaa out.val) 0 v34 fun c35 =>
         some (.next, [(.bool true), .int .i64 ((i + 1 : Nat) : Int), (.agg c35.toArray)], H')) ∧ Fr0 H H' := fun H => by
      obtain ⟨H', p1, p2⟩ := p_shifted hop ha h1 hs hi H
      refine ⟨H', ?_, p2⟩
      have hno : ∀ (b : Bool) (k : Value → Option Outc), pUn .not (.bool b) k = k (.bool (!b)) := fun b k => rfl
      unfold zbd
      simp only [qg0, qg1, qd1, qd0]
      rw [lT (by omega), zak, zae (a1 H), hno, zag, decide_eq_true he, Bool.not_true, zan, zak, zae p1, zae (s2 H'), x01, sp_0, hno, zag, decide_eq_true hst.2, Bool.not_true, zan]
      simp only [zag, za6, w1]
    cases any with
    | true =>
      obtain ⟨so, swo⟩ : Sd out ∧ out.w = a.w := by
        rcases hg with ⟨q, _⟩ | ⟨_, q⟩
        · cases q
        · exact q
      refine ⟨true, zbS out gs, .inr ⟨rfl, (join_sd so sg (by omega)).1, swo⟩, fun H => ?_, fun H => ?_⟩
      · obtain ⟨H', p1, p2⟩ := ppre H
        refine ⟨H', ?_, p2⟩
        rw [p1, zap, zak, zak, zae (c30 out gs H'), sp_f, zak, sp_f, zaL]
      · obtain ⟨g, q1⟩ := qpre H
        rw [q1, decide_eq_false (by omega), zan, zae (hmv H), zae (s3 H), x01, sp_0, zap, zak, zak, zae (c37 out gs H), sp_f, zak, sp_f, zaL]
    | false =>
      refine ⟨true, gs, .inr ⟨rfl, sg, swg⟩, fun H => ?_, fun H => ?_⟩
      · obtain ⟨H', p1, p2⟩ := ppre H
        refine ⟨H', ?_, p2⟩
        rw [p1, zan, zak, sp_f, zaL]
      · obtain ⟨g, q1⟩ := qpre H
        rw [q1, decide_eq_false (by omega), zan, zae (hmv H), zae (s3 H), x01, sp_0, zan, zak, sp_f, zaL]
  · refine ⟨any, out, hg, fun H => ⟨H, ?_, Fr0.refl H⟩, fun H => ?_⟩
    · have hno : ∀ (b : Bool) (k : Value → Option Outc), pUn .not (.bool b) k = k (.bool (!b)) := fun b k => rfl
      unfold zbd
      simp only [qg0, qg1, qd1, qd0]
      rw [lT (by omega), zak, zae (a1 H), hno, zag, decide_eq_false he, Bool.not_false, zap, za6, w1, zaL]
    · obtain ⟨g, q1⟩ := qpre H
      rw [q1, decide_eq_true he, zap]
theorem zor : ∀ (m i : Nat) (any : Bool) (out : Fct), i + m = wd a.w → Gath a any out → ∃ any' out', Gath a any' out' ∧
    (∀ H, ∃ H', zaA (zbd RR (.int .i64 op) a.val b.val (.int .i64 a.w)) [.bool any, .int .i64 (i : Int), out.val] H = some (.exit 0, [.bool any', .int .i64 ((wd a.w : Nat) : Int), out'.val], H') ∧ Fr0 H H') ∧
    (∀ H, zaA (zaP RR (.int .i64 op) a.val b.val) [.bool any, .int .i64 (i : Int), out.val] H = some (.exit 0, [.bool any', .int .i64 ((wd a.w : Nat) : Int), out'.val], H))
  | 0, i, any, out, hi, hg => by
    have : i = wd a.w := by omega
    subst this
    have e1 := zda h1
    refine ⟨any, out, hg, fun H => ⟨H, ?_, Fr0.refl H⟩, fun H => ?_⟩
    · rw [zaq]
      have : zbd RR (.int .i64 op) a.val b.val (.int .i64 a.w) [.bool any, .int .i64 ((wd a.w : Nat) : Int), out.val] H = some (.exit 0, [.bool any, .int .i64 ((wd a.w : Nat) : Int), out.val], H) := by
        unfold zbd
        simp only [qg0, qg1, qd1, qd0]
        rw [lF (by omega), zaL]
      rw [this]; rfl
    · rw [zaq]
      have : zaP RR (.int .i64 op) a.val b.val [.bool any, .int .i64 ((wd a.w : Nat) : Int), out.val] H = some (.exit 0, [.bool any, .int .i64 ((wd a.w : Nat) : Int), out.val], H) := by
        unfold zaP
        simp only [qg0, qg1, qd1, qd0]
        rw [f_w, lF (by omega), zaL]
      rw [this]; rfl
  | m + 1, i, any, out, hi, hg => by
    obtain ⟨any1, out1, g1, p1, q1⟩ := shs_step hop ha hb h1 hw hs hg (i := i) (by omega)
    obtain ⟨any', out', g2, p2, q2⟩ := zor m (i + 1) any1 out1 (by omega) g1
    refine ⟨any', out', g2, fun H => ?_, fun H => ?_⟩
    · obtain ⟨H1, e1, f1⟩ := p1 H
      obtain ⟨H2, e2, f2⟩ := p2 H1
      refine ⟨H2, ?_, f1.trans f2⟩
      rw [zaq, e1]; exact e2
    · rw [zaq, q1]; exact q2 H
theorem zpp : ∃ out : Fct, out.May ∧ (∀ H, ∃ H', RR F.a77 [.int .i64 op, a.val, b.val] H = some (out.val, H') ∧ Fr0 H H') ∧ ∀ H, RR F.a69 [.int .i64 op, a.val, b.val] H = some (out.val, H) := by
  obtain ⟨any, out, g, p, q⟩ := zor hop ha hb h1 hw hs (wd a.w) 0 false F0 (by omega) (.inl ⟨rfl, rfl⟩)
  refine ⟨out, g.may, fun H => ?_, fun H => ?_⟩
  · obtain ⟨H', e1, f1⟩ := p H
    have hr := (zkf E0 rfl (.int .i64 op) a.val b.val H).trans (zko _ _ _ _ _)
    have e1' : zaA (zbd RR (.int .i64 op) a.val b.val (.int .i64 a.w)) [.bool false, .int .i64 0, .agg (zaa F0.val).toArray] H = _ := e1
    rw [f_w, zcZ, sp_0, e1', zao, zbq, zaT] at hr
    simp only [qg0, qg1, qd1, qd0] at hr
    rw [zak, sp_0, zak] at hr
    exact ⟨H', hr, f1⟩
  · have hr := (ze8 E0 rfl (.int .i64 op) a.val b.val H).trans (zfd _ _ _ _ _)
    have e1' : zaA (zaP RR (.int .i64 op) a.val b.val) [.bool false, .int .i64 0, .agg [.int .i64 0, .int .u64 0, .int .u64 0, .int .u64 0, .int .u64 0].toArray] H = _ := q H
    rw [e1', zao, zbq, zaT] at hr
    simp only [qg0, qg1, qd1, qd0] at hr
    rw [zak, sp_0, zak] at hr
    exact hr
end
end Go.AM.N14
namespace Go.AM.N14
open Go Go.AM
section
variable {α : Type}
theorem orP (op x y : Int) (H : Hp) (K : Ctl → List Value → Hp → Option α) : zaC (pBin PP .eql T.int (.int .i64 op) (.int .i64 x) fun v5 => zad v5 fun b6 => br b6 (some (.next, [v5], H)) (pBin PP .eql T.int (.int .i64 op) (.int .i64 y) fun v7 => some (.next, [v7], H))) K = K .next [.bool (decide (op = x ∨ op = y))] H := by
  rw [zay, zag]
  by_cases h : op = x
  · rw [decide_eq_true h, zap, zao, decide_eq_true (.inl h)]
  · rw [decide_eq_false h, zan, zay, zao]
    congr 3
    exact decide_eq_decide.2 ⟨.inr, fun q => q.resolve_left h⟩
theorem orQ (op x y : Int) (H : Hp) (K : Ctl → List Value → Hp → Option α) : zaC (pBin PP .eql T.int (.int .i64 op) (.int .i64 x) fun v5 => zad v5 fun b6 => br b6 (some (.next, [.bool true], H)) (pBin PP .eql T.int (.int .i64 op) (.int .i64 y) fun v7 => some (.next, [v7], H))) K = K .next [.bool (decide (op = x ∨ op = y))] H := by
  rw [zay, zag]
  by_cases h : op = x
  · rw [decide_eq_true h, zap, zao, decide_eq_true (.inl h)]
  · rw [decide_eq_false h, zan, zay, zao]
    congr 3
    exact decide_eq_decide.2 ⟨.inr, fun q => q.resolve_left h⟩
theorem rngP (op : Int) (H : Hp) (K : Ctl → List Value → Hp → Option α) : zaC (pBin PP .geq T.int (.int .i64 op) (.int .i64 9) fun v88 => zad v88 fun b89 => br b89 (pBin PP .leq T.int (.int .i64 op) (.int .i64 13) fun v90 => some (.next, [v90], H)) (some (.next, [(.bool false)], H))) K = K .next [.bool (decide (9 ≤ op ∧ op ≤ 13))] H := by
  rw [zbg, zag]
  by_cases h : op ≥ 9
  · rw [decide_eq_true h, zap, zbE, zao]
    congr 3
    exact decide_eq_decide.2 ⟨fun q => ⟨h, q⟩, fun q => q.2⟩
  · rw [decide_eq_false h, zan, zao, decide_eq_false (fun q => h q.1)]
end
theorem zbn {n : Nd} {a b c : Int} (hs : zbT n a b c = true) : zbb n a b c = true := by
  unfold zbT at hs
  split at hs
  · cases hs
  · exact hs
section
variable {n : Nd} (ho : 1 ≤ n.op ∧ n.op ≤ 33) (hw : 0 ≤ n.w ∧ n.w ≤ 64) (hnum : 0 ≤ n.num ∧ n.num < 18446744073709551616) {a b c b2 c2 : Fct} (ha : Sd a) (hb : 2 ≤ zam n.op → Sd b ∧ b2 = b) (hc : 3 ≤ zam n.op → Sd c ∧ c2 = c)
  (hs : zbT n a.w b2.w c2.w = true) (hl : ¬ (a.least = a.top ∧ (2 ≤ zam n.op → b.least = b.top) ∧ (3 ≤ zam n.op → c.least = c.top)))
include ho hw hnum ha hb hc hs hl
def zdX (n : Nd) (a b c b2 c2 : Fct) : Prop := ∃ x y, Row x y ∧ (∀ H, TabB H → ∃ H', RR F.a113 [n.val, a.val, b.val, c.val] H = some (x.val, H') ∧ Fr0 H H') ∧ ∀ H, RR F.a109 [n.val, a.val, b2.val, c2.val] H = some (y.val, H)
theorem t_not (h : n.op = 5) : zdX n a b c b2 c2 := by
  have hB := zbn hs
  unfold zbb at hB
  rw [if_neg (by omega), if_neg (by omega), if_neg (by omega), if_pos (by omega)] at hB
  simp only [Bool.and_eq_true, decide_eq_true_eq] at hB
  have hn := zbf ha.may.w64
  have ew : n.w = a.w := by omega
  refine ⟨⟨a.w, a.zero, a.one, msk (wd a.w) - a.top, msk (wd a.w) - a.least⟩, _, Row.refl ⟨ha.may.w0, ha.may.w64, ha.may.zero, ha.may.one, zoo ha.may.top, zoo ha.may.least⟩, fun H hT => ?_, fun H => ?_⟩
  · have hr := zaI E0 rfl n.val a.val b.val c.val H
    unfold zaF at hr
    rw [n1, zae (c26 hw.2 H), n0, orP, zai, qg0, bT (by omega)] at hr
    rw [zaD, zaX, zaK, zc7, zas, zc7, b_5, sp_0, zak, ew] at hr
    exact ⟨H, hr, Fr0.refl H⟩
  · have hr := zav E0 rfl n.val a.val b2.val c2.val H
    unfold zat at hr
    rw [n1, n1, zae (c11 hw.1 hw.2 H), b_wt, sp_0, n0, orQ, zai, qg0, bT (by omega)] at hr
    rw [zak, zae (zlx ha.may.w0 ha.may.w64 H), sp_0, zak] at hr
    exact hr
theorem t_com (h : n.op = 15) : zdX n a b c b2 c2 := by
  have hB := zbn hs
  unfold zbb at hB
  rw [if_neg (by omega), if_neg (by omega), if_neg (by omega), if_neg (by omega), if_neg (by omega), if_neg (by omega), if_neg (by omega), if_neg (by omega), if_pos (by omega)] at hB
  simp only [Bool.and_eq_true, decide_eq_true_eq] at hB
  have hn := zbf ha.may.w64
  have ew : n.w = a.w := by omega
  refine ⟨⟨a.w, a.zero, a.one, msk (wd a.w) - a.top, msk (wd a.w) - a.least⟩, _, Row.refl ⟨ha.may.w0, ha.may.w64, ha.may.zero, ha.may.one, zoo ha.may.top, zoo ha.may.least⟩, fun H hT => ?_, fun H => ?_⟩
  · have hr := zaI E0 rfl n.val a.val b.val c.val H
    unfold zaF at hr
    rw [n1, zae (c26 hw.2 H), n0, orP, zai, qg0, bT (by omega)] at hr
    rw [zaD, zaX, zaK, zc7, zas, zc7, b_5, sp_0, zak, ew] at hr
    exact ⟨H, hr, Fr0.refl H⟩
  · have hr := zav E0 rfl n.val a.val b2.val c2.val H
    unfold zat at hr
    rw [n1, n1, zae (c11 hw.1 hw.2 H), b_wt, sp_0, n0, orQ, zai, qg0, bT (by omega)] at hr
    rw [zak, zae (zlx ha.may.w0 ha.may.w64 H), sp_0, zak] at hr
    exact hr
theorem t_and (h : n.op = 6) : zdX n a b c b2 c2 := by
  have hB := zbn hs
  unfold zbb at hB
  rw [if_neg (by omega), if_neg (by omega), if_neg (by omega), if_neg (by omega), if_pos (by omega)] at hB
  simp only [Bool.and_eq_true, decide_eq_true_eq] at hB
  have hk : zam n.op = 2 := by unfold zam; rw [if_neg (by omega), if_neg (by omega), if_neg (by omega)]
  obtain ⟨hb, e2⟩ := hb (by omega)
  subst e2
  have hn := zbf ha.may.w64
  have ew : n.w = a.w := by omega
  have eb : b2.w = a.w := by omega
  refine ⟨⟨a.w, a.one &&& b2.one, a.zero ||| b2.zero, 0#64, mn a.top b2.top⟩, _, Row.refl ⟨ha.may.w0, ha.may.w64, zcu hn ha.may.one, zeo hn ha.may.zero (by rw [← eb]; exact hb.may.zero), zero_le _, mn_le ha.may.top (by rw [← eb]; exact hb.may.top)⟩, fun H hT => ?_, fun H => ?_⟩
  · have hr := zaI E0 rfl n.val a.val b2.val c.val H
    unfold zaF at hr
    rw [n1, zae (c26 hw.2 H), n0, orP, zai, qg0, bF (by omega), orP, zai, qg0, bT (by omega)] at hr
    rw [zaX, zaX, zba, zaD, zaD, b_or, zaK, zaK, zmR, zpg, sp_0, zak, ew] at hr
    exact ⟨H, hr, Fr0.refl H⟩
  · have hr := zav E0 rfl n.val a.val b2.val c2.val H
    unfold zat at hr
    rw [n1, n1, zae (c11 hw.1 hw.2 H), b_wt, sp_0, n0, orQ, zai, qg0, bF (by omega), orQ, zai, qg0, bT (by omega)] at hr
    rw [zaX, zaX, zba, zb3, zaD, zaD, b_or, zbs, zaK, zaK, zae (zlz _ _ H), zbt, zak, sp_0, zak, ew] at hr
    exact hr
theorem t_band (h : n.op = 17) : zdX n a b c b2 c2 := by
  have hB := zbn hs
  unfold zbb at hB
  rw [if_neg (by omega), if_neg (by omega), if_neg (by omega), if_neg (by omega), if_neg (by omega), if_neg (by omega), if_neg (by omega), if_neg (by omega), if_neg (by omega), if_pos (by omega)] at hB
  simp only [Bool.and_eq_true, decide_eq_true_eq] at hB
  have hk : zam n.op = 2 := by unfold zam; rw [if_neg (by omega), if_neg (by omega), if_neg (by omega)]
  obtain ⟨hb, e2⟩ := hb (by omega)
  subst e2
  have hn := zbf ha.may.w64
  have ew : n.w = a.w := by omega
  have eb : b2.w = a.w := by omega
  refine ⟨⟨a.w, a.one &&& b2.one, a.zero ||| b2.zero, 0#64, mn a.top b2.top⟩, _, Row.refl ⟨ha.may.w0, ha.may.w64, zcu hn ha.may.one, zeo hn ha.may.zero (by rw [← eb]; exact hb.may.zero), zero_le _, mn_le ha.may.top (by rw [← eb]; exact hb.may.top)⟩, fun H hT => ?_, fun H => ?_⟩
  · have hr := zaI E0 rfl n.val a.val b2.val c.val H
    unfold zaF at hr
    rw [n1, zae (c26 hw.2 H), n0, orP, zai, qg0, bF (by omega), orP, zai, qg0, bT (by omega)] at hr
    rw [zaX, zaX, zba, zaD, zaD, b_or, zaK, zaK, zmR, zpg, sp_0, zak, ew] at hr
    exact ⟨H, hr, Fr0.refl H⟩
  · have hr := zav E0 rfl n.val a.val b2.val c2.val H
    unfold zat at hr
    rw [n1, n1, zae (c11 hw.1 hw.2 H), b_wt, sp_0, n0, orQ, zai, qg0, bF (by omega), orQ, zai, qg0, bT (by omega)] at hr
    rw [zaX, zaX, zba, zb3, zaD, zaD, b_or, zbs, zaK, zaK, zae (zlz _ _ H), zbt, zak, sp_0, zak, ew] at hr
    exact hr
theorem t_or (h : n.op = 7) : zdX n a b c b2 c2 := by
  have hB := zbn hs
  unfold zbb at hB
  rw [if_neg (by omega), if_neg (by omega), if_neg (by omega), if_neg (by omega), if_pos (by omega)] at hB
  simp only [Bool.and_eq_true, decide_eq_true_eq] at hB
  have hk : zam n.op = 2 := by unfold zam; rw [if_neg (by omega), if_neg (by omega), if_neg (by omega)]
  obtain ⟨hb, e2⟩ := hb (by omega)
  subst e2
  have hn := zbf ha.may.w64
  have ew : n.w = a.w := by omega
  have eb : b2.w = a.w := by omega
  refine ⟨⟨a.w, a.one ||| b2.one, a.zero &&& b2.zero, if a.least.toNat < b2.least.toNat then b2.least else a.least, msk (wd a.w)⟩, _, Row.refl ⟨ha.may.w0, ha.may.w64, zeo hn ha.may.one (by rw [← eb]; exact hb.may.one), zcu hn ha.may.zero, by show (if a.least.toNat < b2.least.toNat then b2.least else a.least).toNat ≤ (msk (wd a.w)).toNat; split; (rw [← eb]; exact hb.may.least); exact ha.may.least, Nat.le_refl _⟩, fun H hT => ?_, fun H => ?_⟩
  · have hr := zaI E0 rfl n.val a.val b2.val c.val H
    unfold zaF at hr
    rw [n1, zae (c26 hw.2 H), n0, orP, zai, qg0, bF (by omega), orP, zai, qg0, bF (by omega), orP, zai, qg0, bT (by omega)] at hr
    rw [zaX, zaX, b_or, zaD, zaD, zba, zas, zas, zoX, b_5, sp_0, zak, ew] at hr
    exact ⟨H, hr, Fr0.refl H⟩
  · have hr := zav E0 rfl n.val a.val b2.val c2.val H
    unfold zat at hr
    rw [n1, n1, zae (c11 hw.1 hw.2 H), b_wt, sp_0, n0, orQ, zai, qg0, bF (by omega), orQ, zai, qg0, bF (by omega), orQ, zai, qg0, bT (by omega)] at hr
    rw [zaX, zaX, b_or, zb3, zaD, zaD, zba, zbs, zas, zas, zae (zmA _ _ H), za5, zak, sp_0, zak, ew] at hr
    exact hr
theorem t_bor (h : n.op = 18) : zdX n a b c b2 c2 := by
  have hB := zbn hs
  unfold zbb at hB
  rw [if_neg (by omega), if_neg (by omega), if_neg (by omega), if_neg (by omega), if_neg (by omega), if_neg (by omega), if_neg (by omega), if_neg (by omega), if_neg (by omega), if_pos (by omega)] at hB
  simp only [Bool.and_eq_true, decide_eq_true_eq] at hB
  have hk : zam n.op = 2 := by unfold zam; rw [if_neg (by omega), if_neg (by omega), if_neg (by omega)]
  obtain ⟨hb, e2⟩ := hb (by omega)
  subst e2
  have hn := zbf ha.may.w64
  have ew : n.w = a.w := by omega
  have eb : b2.w = a.w := by omega
  refine ⟨⟨a.w, a.one ||| b2.one, a.zero &&& b2.zero, if a.least.toNat < b2.least.toNat then b2.least else a.least, msk (wd a.w)⟩, _, Row.refl ⟨ha.may.w0, ha.may.w64, zeo hn ha.may.one (by rw [← eb]; exact hb.may.one), zcu hn ha.may.zero, by show (if a.least.toNat < b2.least.toNat then b2.least else a.least).toNat ≤ (msk (wd a.w)).toNat; split; (rw [← eb]; exact hb.may.least); exact ha.may.least, Nat.le_refl _⟩, fun H hT => ?_, fun H => ?_⟩
  · have hr := zaI E0 rfl n.val a.val b2.val c.val H
    unfold zaF at hr
    rw [n1, zae (c26 hw.2 H), n0, orP, zai, qg0, bF (by omega), orP, zai, qg0, bF (by omega), orP, zai, qg0, bT (by omega)] at hr
    rw [zaX, zaX, b_or, zaD, zaD, zba, zas, zas, zoX, b_5, sp_0, zak, ew] at hr
    exact ⟨H, hr, Fr0.refl H⟩
  · have hr := zav E0 rfl n.val a.val b2.val c2.val H
    unfold zat at hr
    rw [n1, n1, zae (c11 hw.1 hw.2 H), b_wt, sp_0, n0, orQ, zai, qg0, bF (by omega), orQ, zai, qg0, bF (by omega), orQ, zai, qg0, bT (by omega)] at hr
    rw [zaX, zaX, b_or, zb3, zaD, zaD, zba, zbs, zas, zas, zae (zmA _ _ H), za5, zak, sp_0, zak, ew] at hr
    exact hr
theorem t_xor (h : n.op = 8) : zdX n a b c b2 c2 := by
  have hB := zbn hs
  unfold zbb at hB
  rw [if_neg (by omega), if_neg (by omega), if_neg (by omega), if_neg (by omega), if_pos (by omega)] at hB
  simp only [Bool.and_eq_true, decide_eq_true_eq] at hB
  have hk : zam n.op = 2 := by unfold zam; rw [if_neg (by omega), if_neg (by omega), if_neg (by omega)]
  obtain ⟨hb, e2⟩ := hb (by omega)
  subst e2
  have hn := zbf ha.may.w64
  have ew : n.w = a.w := by omega
  have eb : b2.w = a.w := by omega
  have l1 : (a.one &&& b2.zero ||| a.zero &&& b2.one).toNat ≤ (msk (wd a.w)).toNat := zeo hn (zcu hn ha.may.one) (zcu hn ha.may.zero)
  have l2 : (a.one &&& b2.one ||| a.zero &&& b2.zero).toNat ≤ (msk (wd a.w)).toNat := zeo hn (zcu hn ha.may.one) (zcu hn ha.may.zero)
  refine ⟨⟨a.w, (a.one &&& b2.zero ||| a.zero &&& b2.one), (a.one &&& b2.one ||| a.zero &&& b2.zero), 0#64, msk (wd a.w)⟩, _, Row.refl ⟨ha.may.w0, ha.may.w64, l1, l2, zero_le _, Nat.le_refl _⟩, fun H hT => ?_, fun H => ?_⟩
  · have hr := zaI E0 rfl n.val a.val b2.val c.val H
    unfold zaF at hr
    rw [n1, zae (c26 hw.2 H), n0, orP, zai, qg0, bF (by omega), orP, zai, qg0, bF (by omega), orP, zai, qg0, bF (by omega), orP, zai, qg0, bT (by omega)] at hr
    rw [zaX, zaD, zba, zaD, zaX, zba, b_or, zaX, zaX, zba, zaD, zaD, zba, b_or, zae (zmE hw.2 _ _ H), sp_0, zak, ew, zbZ hn l1, zbZ hn l2] at hr
    exact ⟨H, hr, Fr0.refl H⟩
  · have hr := zav E0 rfl n.val a.val b2.val c2.val H
    unfold zat at hr
    rw [n1, n1, zae (c11 hw.1 hw.2 H), b_wt, sp_0, n0, orQ, zai, qg0, bF (by omega), orQ, zai, qg0, bF (by omega), orQ, zai, qg0, bF (by omega), orQ, zai, qg0, bT (by omega)] at hr
    rw [zaX, zaD, zba, zaD, zaX, zba, b_or, zb3, zaX, zaX, zba, zaD, zaD, zba, b_or, zbs, zak, sp_0, zak, ew] at hr
    exact hr
theorem t_bxor (h : n.op = 19) : zdX n a b c b2 c2 := by
  have hB := zbn hs
  unfold zbb at hB
  rw [if_neg (by omega), if_neg (by omega), if_neg (by omega), if_neg (by omega), if_neg (by omega), if_neg (by omega), if_neg (by omega), if_neg (by omega), if_neg (by omega), if_pos (by omega)] at hB
  simp only [Bool.and_eq_true, decide_eq_true_eq] at hB
  have hk : zam n.op = 2 := by unfold zam; rw [if_neg (by omega), if_neg (by omega), if_neg (by omega)]
  obtain ⟨hb, e2⟩ := hb (by omega)
  subst e2
  have hn := zbf ha.may.w64
  have ew : n.w = a.w := by omega
  have eb : b2.w = a.w := by omega
  have l1 : (a.one &&& b2.zero ||| a.zero &&& b2.one).toNat ≤ (msk (wd a.w)).toNat := zeo hn (zcu hn ha.may.one) (zcu hn ha.may.zero)
  have l2 : (a.one &&& b2.one ||| a.zero &&& b2.zero).toNat ≤ (msk (wd a.w)).toNat := zeo hn (zcu hn ha.may.one) (zcu hn ha.may.zero)
  refine ⟨⟨a.w, (a.one &&& b2.zero ||| a.zero &&& b2.one), (a.one &&& b2.one ||| a.zero &&& b2.zero), 0#64, msk (wd a.w)⟩, _, Row.refl ⟨ha.may.w0, ha.may.w64, l1, l2, zero_le _, Nat.le_refl _⟩, fun H hT => ?_, fun H => ?_⟩
  · have hr := zaI E0 rfl n.val a.val b2.val c.val H
    unfold zaF at hr
    rw [n1, zae (c26 hw.2 H), n0, orP, zai, qg0, bF (by omega), orP, zai, qg0, bF (by omega), orP, zai, qg0, bF (by omega), orP, zai, qg0, bT (by omega)] at hr
    rw [zaX, zaD, zba, zaD, zaX, zba, b_or, zaX, zaX, zba, zaD, zaD, zba, b_or, zae (zmE hw.2 _ _ H), sp_0, zak, ew, zbZ hn l1, zbZ hn l2] at hr
    exact ⟨H, hr, Fr0.refl H⟩
  · have hr := zav E0 rfl n.val a.val b2.val c2.val H
    unfold zat at hr
    rw [n1, n1, zae (c11 hw.1 hw.2 H), b_wt, sp_0, n0, orQ, zai, qg0, bF (by omega), orQ, zai, qg0, bF (by omega), orQ, zai, qg0, bF (by omega), orQ, zai, qg0, bT (by omega)] at hr
    rw [zaX, zaD, zba, zaD, zaX, zba, b_or, zb3, zaX, zaX, zba, zaD, zaD, zba, b_or, zbs, zak, sp_0, zak, ew] at hr
    exact hr
theorem t_eq (h : n.op = 9) : zdX n a b c b2 c2 := by
  have hB := zbn hs
  unfold zbb at hB
  rw [if_neg (by omega), if_neg (by omega), if_neg (by omega), if_neg (by omega), if_neg (by omega), if_pos (by omega)] at hB
  simp only [Bool.and_eq_true, decide_eq_true_eq] at hB
  have hk : zam n.op = 2 := by unfold zam; rw [if_neg (by omega), if_neg (by omega), if_neg (by omega)]
  obtain ⟨hb, e2⟩ := hb (by omega)
  subst e2
  obtain ⟨y, z, h0, p0, q0⟩ := zpb (op := n.op) (by omega) ha hb (by omega) (fun q => by omega) (fun q => hl ⟨q.1, fun _ => q.2, fun q => by omega⟩)
  obtain ⟨m1, m2⟩ := tru_may y z
  refine ⟨truF y z, truR y z, ⟨m1, m2, by unfold truF truR; split; rfl; split <;> rfl, tru_mem h0⟩, fun H hT => ?_, fun H => ?_⟩
  · obtain ⟨H', p1, f1⟩ := p0 H
    have hr := zaI E0 rfl n.val a.val b2.val c.val H
    unfold zaF at hr
    rw [n1, zae (c26 hw.2 H), n0, orP, zai, qg0, bF (by omega), orP, zai, qg0, bF (by omega), orP, zai, qg0, bF (by omega), orP, zai, qg0, bF (by omega), rngP, zai, qg0, bT (by omega), zak, zak, zae p1, sp_0, zak] at hr
    exact ⟨H', hr, f1⟩
  · have hr := zav E0 rfl n.val a.val b2.val c2.val H
    unfold zat at hr
    rw [n1, n1, zae (c11 hw.1 hw.2 H), b_wt, sp_0, n0, orQ, zai, qg0, bF (by omega), orQ, zai, qg0, bF (by omega), orQ, zai, qg0, bF (by omega), orQ, zai, qg0, bF (by omega), rngP, zai, qg0, bT (by omega), zak, zak, zae (q0 H), sp_0, zak] at hr
    exact hr
theorem t_cmp (h : 10 ≤ n.op ∧ n.op ≤ 13) : zdX n a b c b2 c2 := by
  have hB := zbn hs
  unfold zbb at hB
  rw [if_neg (by omega), if_neg (by omega), if_neg (by omega), if_neg (by omega), if_neg (by omega), if_neg (by omega), if_pos (by omega)] at hB
  simp only [Bool.and_eq_true, decide_eq_true_eq] at hB
  have hk : zam n.op = 2 := by unfold zam; rw [if_neg (by omega), if_neg (by omega), if_neg (by omega)]
  obtain ⟨hb, e2⟩ := hb (by omega)
  subst e2
  obtain ⟨y, z, h0, p0, q0⟩ := zpb (op := n.op) (by omega) ha hb (by omega) (fun _ => by omega) (fun q => hl ⟨q.1, fun _ => q.2, fun q => by omega⟩)
  obtain ⟨m1, m2⟩ := tru_may y z
  refine ⟨truF y z, truR y z, ⟨m1, m2, by unfold truF truR; split; rfl; split <;> rfl, tru_mem h0⟩, fun H hT => ?_, fun H => ?_⟩
  · obtain ⟨H', p1, f1⟩ := p0 H
    have hr := zaI E0 rfl n.val a.val b2.val c.val H
    unfold zaF at hr
    rw [n1, zae (c26 hw.2 H), n0, orP, zai, qg0, bF (by omega), orP, zai, qg0, bF (by omega), orP, zai, qg0, bF (by omega), orP, zai, qg0, bF (by omega), rngP, zai, qg0, bT (by omega), zak, zak, zae p1, sp_0, zak] at hr
    exact ⟨H', hr, f1⟩
  · have hr := zav E0 rfl n.val a.val b2.val c2.val H
    unfold zat at hr
    rw [n1, n1, zae (c11 hw.1 hw.2 H), b_wt, sp_0, n0, orQ, zai, qg0, bF (by omega), orQ, zai, qg0, bF (by omega), orQ, zai, qg0, bF (by omega), orQ, zai, qg0, bF (by omega), rngP, zai, qg0, bT (by omega), zak, zak, zae (q0 H), sp_0, zak] at hr
    exact hr
theorem t_ite (h : n.op = 14) : zdX n a b c b2 c2 := by
  have hB := zbn hs
  unfold zbb at hB
  rw [if_neg (by omega), if_neg (by omega), if_neg (by omega), if_neg (by omega), if_neg (by omega), if_neg (by omega), if_neg (by omega), if_pos (by omega)] at hB
  simp only [Bool.and_eq_true, decide_eq_true_eq] at hB
  have hk : zam n.op = 3 := by unfold zam; rw [if_neg (by omega), if_neg (by omega), if_pos (by omega)]
  obtain ⟨hb, e2⟩ := hb (by omega)
  obtain ⟨hc, e3⟩ := hc (by omega)
  subst e2
  subst e3
  have ew : b2.w = c2.w := by omega
  refine ⟨if a.least = a.top then (if a.least = 1#64 then b2 else c2) else zbS b2 c2, _, Row.refl ?_, fun H hT => ⟨H, ?_, Fr0.refl H⟩, fun H => ?_⟩
  · split
    · split
      · exact hb.may
      · exact hc.may
    · exact (join_sd hb hc ew).1.may
  · have hr := zaI E0 rfl n.val a.val b2.val c2.val H
    unfold zaF at hr
    have h1 : ∀ (k : Value → Option (Value × Hp)), pBin PP .eql T.uint64 (wv a.least) (.int .u64 1) k = k (.bool (decide (a.least = 1#64))) := fun k => zdU _ _ 1#64 k
    rw [n1, zae (c26 hw.2 H), n0, orP, zai, qg0, bF (by omega), orP, zai, qg0, bF (by omega), orP, zai, qg0, bF (by omega), orP, zai, qg0, bF (by omega), rngP, zai, qg0, bF (by omega), eT (by omega), zas, zaK, zdU, zag] at hr
    by_cases q : a.least = a.top
    · rw [decide_eq_true q, zap, zas, h1, zag] at hr
      rw [if_pos q]
      by_cases q1 : a.least = 1#64
      · rw [decide_eq_true q1, zap, zak, sp_0, zak] at hr
        rw [if_pos q1]; exact hr
      · rw [decide_eq_false q1, zan, zak, sp_0, zak] at hr
        rw [if_neg q1]; exact hr
    · rw [decide_eq_false q, zan, zak, zak, zae (c30 b2 c2 H), sp_0, zak] at hr
      rw [if_neg q]; exact hr
  · have hr := zav E0 rfl n.val a.val b2.val c2.val H
    unfold zat at hr
    have h1 : ∀ (k : Value → Option (Value × Hp)), pBin PP .eql T.uint64 (wv a.least) (.int .u64 1) k = k (.bool (decide (a.least = 1#64))) := fun k => zdU _ _ 1#64 k
    rw [n1, n1, zae (c11 hw.1 hw.2 H), b_wt, sp_0, n0, orQ, zai, qg0, bF (by omega), orQ, zai, qg0, bF (by omega), orQ, zai, qg0, bF (by omega), orQ, zai, qg0, bF (by omega), rngP, zai, qg0, bF (by omega), eT (by omega), zak, zae (zoC a H), za4, zag] at hr
    by_cases q : a.least = a.top
    · rw [decide_eq_true q, Bool.not_true, zan, zas, h1, zag] at hr
      rw [if_pos q]
      by_cases q1 : a.least = 1#64
      · rw [decide_eq_true q1, zap, zak, sp_0, zak] at hr
        rw [if_pos q1]; exact hr
      · rw [decide_eq_false q1, zan, zak, sp_0, zak] at hr
        rw [if_neg q1]; exact hr
    · rw [decide_eq_false q, Bool.not_false, zap, zak, zak, zae (c37 b2 c2 H), sp_0, zak] at hr
      rw [if_neg q]; exact hr
theorem t_add (h : n.op = 20) : zdX n a b c b2 c2 := by
  have hB := zbn hs
  unfold zbb at hB
  rw [if_neg (by omega), if_neg (by omega), if_neg (by omega), if_neg (by omega), if_neg (by omega), if_neg (by omega), if_neg (by omega), if_neg (by omega), if_neg (by omega), if_pos (by omega)] at hB
  simp only [Bool.and_eq_true, decide_eq_true_eq] at hB
  have hk : zam n.op = 2 := by unfold zam; rw [if_neg (by omega), if_neg (by omega), if_neg (by omega)]
  obtain ⟨hb, e2⟩ := hb (by omega)
  subst e2
  have hn := zbf ha.may.w64
  have ew : n.w = a.w := by omega
  have eb : b2.w = a.w := by omega
  refine ⟨sumF a b2, _, Row.refl (sumF_may ha.may b2), fun H hT => ?_, fun H => ?_⟩
  · have hr := zaI E0 rfl n.val a.val b2.val c.val H
    unfold zaF at hr
    rw [n1, zae (c26 hw.2 H), n0, orP, zai, qg0, bF (by omega), orP, zai, qg0, bF (by omega), orP, zai, qg0, bF (by omega), orP, zai, qg0, bF (by omega), rngP, zai, qg0, bF (by omega), eF (by omega), eT (by omega)] at hr
    rw [zak, zak, zae (p_sum ha.may.w64 ha.le hb.le H), sp_0, zak] at hr
    exact ⟨H, hr, Fr0.refl H⟩
  · have hr := zav E0 rfl n.val a.val b2.val c2.val H
    unfold zat at hr
    rw [n1, n1, zae (c11 hw.1 hw.2 H), b_wt, sp_0, n0, orQ, zai, qg0, bF (by omega), orQ, zai, qg0, bF (by omega), orQ, zai, qg0, bF (by omega), orQ, zai, qg0, bF (by omega), rngP, zai, qg0, bF (by omega), eF (by omega), eF (by omega), eT (by omega)] at hr
    rw [zak, zak, zae (q_sum ha.exl hb.exl (by omega) ha.may.w64 ha.may.least ha.may.top H), sp_0, zak] at hr
    exact hr
theorem t_sub (h : n.op = 21) : zdX n a b c b2 c2 := by
  have hB := zbn hs
  unfold zbb at hB
  rw [if_neg (by omega), if_neg (by omega), if_neg (by omega), if_neg (by omega), if_neg (by omega), if_neg (by omega), if_neg (by omega), if_neg (by omega), if_neg (by omega), if_pos (by omega)] at hB
  simp only [Bool.and_eq_true, decide_eq_true_eq] at hB
  have hk : zam n.op = 2 := by unfold zam; rw [if_neg (by omega), if_neg (by omega), if_neg (by omega)]
  obtain ⟨hb, e2⟩ := hb (by omega)
  subst e2
  have hn := zbf ha.may.w64
  have ew : n.w = a.w := by omega
  have eb : b2.w = a.w := by omega
  refine ⟨difF a b2, _, Row.refl (zo9 ha.may b2), fun H hT => ?_, fun H => ?_⟩
  · have hr := zaI E0 rfl n.val a.val b2.val c.val H
    unfold zaF at hr
    rw [n1, zae (c26 hw.2 H), n0, orP, zai, qg0, bF (by omega), orP, zai, qg0, bF (by omega), orP, zai, qg0, bF (by omega), orP, zai, qg0, bF (by omega), rngP, zai, qg0, bF (by omega), eF (by omega), eF (by omega), eT (by omega)] at hr
    rw [zak, zak, zae (zig a b2 ha.may.w64 H), sp_0, zak] at hr
    exact ⟨H, hr, Fr0.refl H⟩
  · have hr := zav E0 rfl n.val a.val b2.val c2.val H
    unfold zat at hr
    rw [n1, n1, zae (c11 hw.1 hw.2 H), b_wt, sp_0, n0, orQ, zai, qg0, bF (by omega), orQ, zai, qg0, bF (by omega), orQ, zai, qg0, bF (by omega), orQ, zai, qg0, bF (by omega), rngP, zai, qg0, bF (by omega), eF (by omega), eF (by omega), eF (by omega), eT (by omega)] at hr
    rw [zak, zak, zae (q_less ha.exl hb.exl (by omega) ha.may.w64 eb H), sp_0, zak] at hr
    exact hr
theorem t_neg (h : n.op = 16) : zdX n a b c b2 c2 := by
  have hB := zbn hs
  unfold zbb at hB
  rw [if_neg (by omega), if_neg (by omega), if_neg (by omega), if_neg (by omega), if_neg (by omega), if_neg (by omega), if_neg (by omega), if_neg (by omega), if_pos (by omega)] at hB
  simp only [Bool.and_eq_true, decide_eq_true_eq] at hB
  have hn := zbf ha.may.w64
  have ew : n.w = a.w := by omega
  have zm : (Fct.mk a.w 0#64 (msk (wd a.w) &&& ~~~ 0#64) 0#64 0#64).May := ⟨ha.may.w0, ha.may.w64, zero_le _, zcu hn (Nat.le_refl _), zero_le _, zero_le _⟩
  have zx : ∀ i, exl ((Fct.mk a.w 0#64 (msk (wd a.w) &&& ~~~ 0#64) 0#64 0#64).one.getLsbD i) ((Fct.mk a.w 0#64 (msk (wd a.w) &&& ~~~ 0#64) 0#64 0#64).zero.getLsbD i) := fun i q => by have := q.1; simp at this
  have hal : zgr a.w 0#64 = (⟨a.w, 0#64, msk (wd a.w) &&& ~~~ 0#64, 0#64, 0#64⟩, 0) := by unfold zgr; rw [if_neg (by omega), if_neg (by have := ha.may.w64; omega), if_neg (show ¬ (msk (wd a.w)).toNat < (0#64).toNat from Nat.not_lt_zero _)]
  refine ⟨difF ⟨a.w, 0#64, msk (wd a.w) &&& ~~~ 0#64, 0#64, 0#64⟩ a, _, Row.refl (zo9 zm a), fun H hT => ?_, fun H => ?_⟩
  · have hr := zaI E0 rfl n.val a.val b.val c.val H
    unfold zaF at hr
    rw [n1, zae (c26 hw.2 H), n0, orP, zai, qg0, bF (by omega), orP, zai, qg0, bF (by omega), orP, zai, qg0, bF (by omega), orP, zai, qg0, bF (by omega), rngP, zai, qg0, bF (by omega), eF (by omega), eF (by omega), eF (by omega), eT (by omega)] at hr
    have h0 : RR F.a16 [.int .i64 n.w, .int .u64 0] H = _ := c32 hw.2 0#64 H
    rw [zae h0, zak, ew, zae (zig ⟨a.w, 0#64, msk (wd a.w) &&& ~~~ 0#64, 0#64, 0#64⟩ a ha.may.w64 H), sp_0, zak] at hr
    exact ⟨H, hr, Fr0.refl H⟩
  · have hr := zav E0 rfl n.val a.val b2.val c2.val H
    unfold zat at hr
    rw [n1, n1, zae (c11 hw.1 hw.2 H), b_wt, sp_0, n0, orQ, zai, qg0, bF (by omega), orQ, zai, qg0, bF (by omega), orQ, zai, qg0, bF (by omega), orQ, zai, qg0, bF (by omega), rngP, zai, qg0, bF (by omega), eF (by omega), eT (by omega)] at hr
    have h0 : RR F.a46 [.int .i64 a.w, .int .u64 0] H = _ := c18 a.w 0#64 H
    rw [hal] at h0
    rw [f_w, zae h0, x01, sp_0, zak, zak, zae (q_less zx ha.exl (by show 1 ≤ a.w; omega) ha.may.w64 rfl H), sp_0, zak] at hr
    exact hr
theorem t_mul (h : n.op = 22) : zdX n a b c b2 c2 := by
  have hB := zbn hs
  unfold zbb at hB
  rw [if_neg (by omega), if_neg (by omega), if_neg (by omega), if_neg (by omega), if_neg (by omega), if_neg (by omega), if_neg (by omega), if_neg (by omega), if_neg (by omega), if_pos (by omega)] at hB
  simp only [Bool.and_eq_true, decide_eq_true_eq] at hB
  have hk : zam n.op = 2 := by unfold zam; rw [if_neg (by omega), if_neg (by omega), if_neg (by omega)]
  obtain ⟨hb, e2⟩ := hb (by omega)
  subst e2
  have hn := zbf ha.may.w64
  have ew : n.w = a.w := by omega
  have eb : b2.w = a.w := by omega
  refine ⟨proF a b2, _, Row.refl (proF_may ha hb (by omega)), fun H hT => ?_, fun H => ?_⟩
  · have hr := zaI E0 rfl n.val a.val b2.val c.val H
    unfold zaF at hr
    rw [n1, zae (c26 hw.2 H), n0, orP, zai, qg0, bF (by omega), orP, zai, qg0, bF (by omega), orP, zai, qg0, bF (by omega), orP, zai, qg0, bF (by omega), rngP, zai, qg0, bF (by omega), eF (by omega), eF (by omega), eF (by omega), eF (by omega), eT (by omega)] at hr
    rw [zak, zak, zae (p_product ha hb (by omega) (by omega) hT), sp_0, zak] at hr
    exact ⟨H, hr, Fr0.refl H⟩
  · have hr := zav E0 rfl n.val a.val b2.val c2.val H
    unfold zat at hr
    rw [n1, n1, zae (c11 hw.1 hw.2 H), b_wt, sp_0, n0, orQ, zai, qg0, bF (by omega), orQ, zai, qg0, bF (by omega), orQ, zai, qg0, bF (by omega), orQ, zai, qg0, bF (by omega), rngP, zai, qg0, bF (by omega), eF (by omega), eF (by omega), eF (by omega), eF (by omega), eT (by omega)] at hr
    rw [zak, zak, zae (q_product ha hb (by omega) (by omega) H), sp_0, zak] at hr
    exact hr
theorem t_div (h : n.op = 23) : zdX n a b c b2 c2 := by
  have hB := zbn hs
  unfold zbb at hB
  rw [if_neg (by omega), if_neg (by omega), if_neg (by omega), if_neg (by omega), if_neg (by omega), if_neg (by omega), if_neg (by omega), if_neg (by omega), if_neg (by omega), if_pos (by omega)] at hB
  simp only [Bool.and_eq_true, decide_eq_true_eq] at hB
  have hk : zam n.op = 2 := by unfold zam; rw [if_neg (by omega), if_neg (by omega), if_neg (by omega)]
  obtain ⟨hb, e2⟩ := hb (by omega)
  subst e2
  have hn := zbf ha.may.w64
  have ew : n.w = a.w := by omega
  have eb : b2.w = a.w := by omega
  refine ⟨divF a b2, _, Row.refl (divF_may ha.may), fun H hT => ?_, fun H => ?_⟩
  · have hr := zaI E0 rfl n.val a.val b2.val c.val H
    unfold zaF at hr
    rw [n1, zae (c26 hw.2 H), n0, orP, zai, qg0, bF (by omega), orP, zai, qg0, bF (by omega), orP, zai, qg0, bF (by omega), orP, zai, qg0, bF (by omega), rngP, zai, qg0, bF (by omega), eF (by omega), eF (by omega), eF (by omega), eF (by omega), eF (by omega), eT (by omega)] at hr
    rw [zae (c31 hw.2 H), sp_0, zas, gtr0, zag] at hr
    refine ⟨H, ?_, Fr0.refl H⟩
    unfold divF
    have hle := hb.le
    by_cases q : 0 < b2.least.toNat
    · have h1 : b2.least ≠ 0#64 := fun z => by rw [z] at q; exact absurd q (by decide)
      have h2 : b2.top ≠ 0#64 := fun z => by rw [z] at hle; have : b2.least.toNat ≤ 0 := hle; omega
      rw [decide_eq_true q, zap, zas, zaK, zog _ h2, zaK, zas, zog _ h1, za5, zbt, zak, sp_0, zak, ew] at hr
      rw [if_pos q]; exact hr
    · rw [decide_eq_false q, zan, zak, sp_0, zak, ew] at hr
      rw [if_neg q]; exact hr
  · have hr := zav E0 rfl n.val a.val b2.val c2.val H
    unfold zat at hr
    rw [n1, n1, zae (c11 hw.1 hw.2 H), b_wt, sp_0, n0, orQ, zai, qg0, bF (by omega), orQ, zai, qg0, bF (by omega), orQ, zai, qg0, bF (by omega), orQ, zai, qg0, bF (by omega), rngP, zai, qg0, bF (by omega), eF (by omega), eF (by omega), eF (by omega), eF (by omega), eF (by omega), orQ, zai, qg0, bT (by omega)] at hr
    rw [zak, zak, zae (zmB (.inl h) a b2 ha.may.w0 ha.may.w64 hb.le H), if_neg (by omega), sp_0, zak] at hr
    exact hr
theorem t_rem (h : n.op = 24) : zdX n a b c b2 c2 := by
  have hB := zbn hs
  unfold zbb at hB
  rw [if_neg (by omega), if_neg (by omega), if_neg (by omega), if_neg (by omega), if_neg (by omega), if_neg (by omega), if_neg (by omega), if_neg (by omega), if_neg (by omega), if_pos (by omega)] at hB
  simp only [Bool.and_eq_true, decide_eq_true_eq] at hB
  have hk : zam n.op = 2 := by unfold zam; rw [if_neg (by omega), if_neg (by omega), if_neg (by omega)]
  obtain ⟨hb, e2⟩ := hb (by omega)
  subst e2
  have hn := zbf ha.may.w64
  have ew : n.w = a.w := by omega
  have eb : b2.w = a.w := by omega
  refine ⟨remF a b2, _, Row.refl (remF_may ha.may), fun H hT => ?_, fun H => ?_⟩
  · have hr := zaI E0 rfl n.val a.val b2.val c.val H
    unfold zaF at hr
    rw [n1, zae (c26 hw.2 H), n0, orP, zai, qg0, bF (by omega), orP, zai, qg0, bF (by omega), orP, zai, qg0, bF (by omega), orP, zai, qg0, bF (by omega), rngP, zai, qg0, bF (by omega), eF (by omega), eF (by omega), eF (by omega), eF (by omega), eF (by omega), eF (by omega), eT (by omega)] at hr
    rw [zak, zak, zae (znK a b2 ha.may.w64 H), sp_0, zak] at hr
    exact ⟨H, hr, Fr0.refl H⟩
  · have hr := zav E0 rfl n.val a.val b2.val c2.val H
    unfold zat at hr
    rw [n1, n1, zae (c11 hw.1 hw.2 H), b_wt, sp_0, n0, orQ, zai, qg0, bF (by omega), orQ, zai, qg0, bF (by omega), orQ, zai, qg0, bF (by omega), orQ, zai, qg0, bF (by omega), rngP, zai, qg0, bF (by omega), eF (by omega), eF (by omega), eF (by omega), eF (by omega), eF (by omega), orQ, zai, qg0, bT (by omega)] at hr
    rw [zak, zak, zae (zmB (.inr h) a b2 ha.may.w0 ha.may.w64 hb.le H), if_pos h, sp_0, zak] at hr
    exact hr
theorem t_sh (h : 25 ≤ n.op ∧ n.op ≤ 29) : zdX n a b c b2 c2 := by
  have hB := zbn hs
  unfold zbb at hB
  rw [if_neg (by omega), if_neg (by omega), if_neg (by omega), if_neg (by omega), if_neg (by omega), if_neg (by omega), if_neg (by omega), if_neg (by omega), if_neg (by omega), if_neg (by omega), if_pos (by omega)] at hB
  simp only [Bool.and_eq_true, decide_eq_true_eq] at hB
  have hk : zam n.op = 2 := by unfold zam; rw [if_neg (by omega), if_neg (by omega), if_neg (by omega)]
  obtain ⟨hb, e2⟩ := hb (by omega)
  subst e2
  have hn := zbf ha.may.w64
  have ew : n.w = a.w := by omega
  have eb : b2.w = a.w := by omega
  obtain ⟨out, om, op, oq⟩ := zpp h ha hb (by omega) (by omega) hB.2.2.2
  refine ⟨out, _, Row.refl om, fun H hT => ?_, fun H => ?_⟩
  · have hr := zaI E0 rfl n.val a.val b2.val c.val H
    unfold zaF at hr
    rw [n1, zae (c26 hw.2 H), n0, orP, zai, qg0, bF (by omega), orP, zai, qg0, bF (by omega), orP, zai, qg0, bF (by omega), orP, zai, qg0, bF (by omega), rngP, zai, qg0, bF (by omega), eF (by omega), eF (by omega), eF (by omega), eF (by omega), eF (by omega), eF (by omega), eF (by omega), zbg, bT (by omega), zbE, bT (by omega)] at hr
    obtain ⟨H', p1, f1⟩ := op H
    rw [zak, zak, zae p1, sp_0, zak] at hr
    exact ⟨H', hr, f1⟩
  · have hr := zav E0 rfl n.val a.val b2.val c2.val H
    unfold zat at hr
    rw [n1, n1, zae (c11 hw.1 hw.2 H), b_wt, sp_0, n0, orQ, zai, qg0, bF (by omega), orQ, zai, qg0, bF (by omega), orQ, zai, qg0, bF (by omega), orQ, zai, qg0, bF (by omega), rngP, zai, qg0, bF (by omega), eF (by omega), eF (by omega), eF (by omega), eF (by omega), eF (by omega), orQ, zai, qg0, bF (by omega), zbg, bT (by omega), zbE, bT (by omega)] at hr
    rw [zak, zak, zae (oq H), sp_0, zak] at hr
    exact hr
theorem t_cat (h : n.op = 30) : zdX n a b c b2 c2 := by
  have hB := zbn hs
  unfold zbb at hB
  rw [if_neg (by omega), if_neg (by omega), if_neg (by omega), if_neg (by omega), if_neg (by omega), if_neg (by omega), if_neg (by omega), if_neg (by omega), if_neg (by omega), if_neg (by omega), if_neg (by omega), if_pos (by omega)] at hB
  simp only [Bool.and_eq_true, decide_eq_true_eq] at hB
  have hk : zam n.op = 2 := by unfold zam; rw [if_neg (by omega), if_neg (by omega), if_neg (by omega)]
  obtain ⟨hb, e2⟩ := hb (by omega)
  subst e2
  have hn := zbf ha.may.w64
  refine ⟨pieF n a b2, _, Row.refl (zlB (by omega) (by omega) ha.may hb.may (by omega) (fun _ => by omega) (fun q => by omega)), fun H hT => ?_, fun H => ?_⟩
  · have hr := zaI E0 rfl n.val a.val b2.val c.val H
    unfold zaF at hr
    rw [n1, zae (c26 hw.2 H), n0, orP, zai, qg0, bF (by omega), orP, zai, qg0, bF (by omega), orP, zai, qg0, bF (by omega), orP, zai, qg0, bF (by omega), rngP, zai, qg0, bF (by omega), eF (by omega), eF (by omega), eF (by omega), eF (by omega), eF (by omega), eF (by omega), eF (by omega), zbg, bT (by omega), zbE, bF (by omega)] at hr
    have na : ∀ (k : Value → Option (Value × Hp)), zab 7 true (zaa n.val) 0 k = k n.val := fun k => rfl
    rw [na, zak, zak, zae (zlD (by omega) (by omega) hnum ⟨by omega, ha.may.w64⟩ (fun _ => ⟨by omega, hb.may.w64⟩) (fun q => by omega) ha.may.one ha.may.zero H), sp_0, zak] at hr
    exact ⟨H, hr, Fr0.refl H⟩
  · have hr := zav E0 rfl n.val a.val b2.val c2.val H
    unfold zat at hr
    rw [n1, n1, zae (c11 hw.1 hw.2 H), b_wt, sp_0, n0, orQ, zai, qg0, bF (by omega), orQ, zai, qg0, bF (by omega), orQ, zai, qg0, bF (by omega), orQ, zai, qg0, bF (by omega), rngP, zai, qg0, bF (by omega), eF (by omega), eF (by omega), eF (by omega), eF (by omega), eF (by omega), orQ, zai, qg0, bF (by omega), zbg, bT (by omega), zbE, bF (by omega)] at hr
    have na : ∀ (k : Value → Option (Value × Hp)), zab 7 true (zaa n.val) 0 k = k n.val := fun k => rfl
    rw [na, zak, zak, zae (zly (by omega) (by omega) hnum ⟨by omega, ha.may.w64⟩ (fun _ => ⟨by omega, hb.may.w64⟩) (ha.exl _) H), sp_0, zak] at hr
    exact hr
theorem t_slice (h : n.op = 31) : zdX n a b c b2 c2 := by
  have hB := zbn hs
  unfold zbb at hB
  rw [if_neg (by omega), if_neg (by omega), if_neg (by omega), if_neg (by omega), if_neg (by omega), if_neg (by omega), if_neg (by omega), if_neg (by omega), if_neg (by omega), if_neg (by omega), if_neg (by omega), if_neg (by omega), if_pos (by omega)] at hB
  simp only [Bool.and_eq_true, decide_eq_true_eq] at hB
  have hn := zbf ha.may.w64
  have hpe : ∀ z : Fct, pieF n a z = pieF n a F0 := fun z => by unfold pieF; dsimp only; rw [if_neg (show ¬ n.op = 30 by omega), if_neg (show ¬ n.op = 30 by omega)]
  refine ⟨pieF n a F0, _, Row.refl (zlB (b := F0) (by omega) (by omega) ha.may ⟨by decide, by decide, by decide, by decide, by decide, by decide⟩ (by omega) (fun q => by omega) (fun q => by omega)), fun H hT => ?_, fun H => ?_⟩
  · have hr := zaI E0 rfl n.val a.val b.val c.val H
    unfold zaF at hr
    rw [n1, zae (c26 hw.2 H), n0, orP, zai, qg0, bF (by omega), orP, zai, qg0, bF (by omega), orP, zai, qg0, bF (by omega), orP, zai, qg0, bF (by omega), rngP, zai, qg0, bF (by omega), eF (by omega), eF (by omega), eF (by omega), eF (by omega), eF (by omega), eF (by omega), eF (by omega), zbg, bT (by omega), zbE, bF (by omega)] at hr
    have na : ∀ (k : Value → Option (Value × Hp)), zab 7 true (zaa n.val) 0 k = k n.val := fun k => rfl
    rw [na, zak, zak, zae (zlD (by omega) (by omega) hnum ⟨by omega, ha.may.w64⟩ (fun q => by omega) (fun q => by omega) ha.may.one ha.may.zero H), sp_0, zak, hpe] at hr
    exact ⟨H, hr, Fr0.refl H⟩
  · have hr := zav E0 rfl n.val a.val b2.val c2.val H
    unfold zat at hr
    rw [n1, n1, zae (c11 hw.1 hw.2 H), b_wt, sp_0, n0, orQ, zai, qg0, bF (by omega), orQ, zai, qg0, bF (by omega), orQ, zai, qg0, bF (by omega), orQ, zai, qg0, bF (by omega), rngP, zai, qg0, bF (by omega), eF (by omega), eF (by omega), eF (by omega), eF (by omega), eF (by omega), orQ, zai, qg0, bF (by omega), zbg, bT (by omega), zbE, bF (by omega)] at hr
    have na : ∀ (k : Value → Option (Value × Hp)), zab 7 true (zaa n.val) 0 k = k n.val := fun k => rfl
    rw [na, zak, zak, zae (zly (by omega) (by omega) hnum ⟨by omega, ha.may.w64⟩ (fun q => by omega) (ha.exl _) H), sp_0, zak, hpe] at hr
    exact hr
theorem t_ext (h : 32 ≤ n.op) : zdX n a b c b2 c2 := by
  have hB := zbn hs
  unfold zbb at hB
  rw [if_neg (by omega), if_neg (by omega), if_neg (by omega), if_neg (by omega), if_neg (by omega), if_neg (by omega), if_neg (by omega), if_neg (by omega), if_neg (by omega), if_neg (by omega), if_neg (by omega), if_neg (by omega), if_neg (by omega)] at hB
  simp only [Bool.and_eq_true, decide_eq_true_eq] at hB
  have hn := zbf ha.may.w64
  have hpe : ∀ z : Fct, pieF n a z = pieF n a F0 := fun z => by unfold pieF; dsimp only; rw [if_neg (show ¬ n.op = 30 by omega), if_neg (show ¬ n.op = 30 by omega)]
  refine ⟨pieF n a F0, _, Row.refl (zlB (b := F0) (by omega) (by omega) ha.may ⟨by decide, by decide, by decide, by decide, by decide, by decide⟩ (by omega) (fun q => by omega) (fun q => by omega)), fun H hT => ?_, fun H => ?_⟩
  · have hr := zaI E0 rfl n.val a.val b.val c.val H
    unfold zaF at hr
    rw [n1, zae (c26 hw.2 H), n0, orP, zai, qg0, bF (by omega), orP, zai, qg0, bF (by omega), orP, zai, qg0, bF (by omega), orP, zai, qg0, bF (by omega), rngP, zai, qg0, bF (by omega), eF (by omega), eF (by omega), eF (by omega), eF (by omega), eF (by omega), eF (by omega), eF (by omega), zbg, bT (by omega), zbE, bF (by omega)] at hr
    have na : ∀ (k : Value → Option (Value × Hp)), zab 7 true (zaa n.val) 0 k = k n.val := fun k => rfl
    rw [na, zak, zak, zae (zlD (by omega) (by omega) hnum ⟨by omega, ha.may.w64⟩ (fun q => by omega) (fun q => by omega) ha.may.one ha.may.zero H), sp_0, zak, hpe] at hr
    exact ⟨H, hr, Fr0.refl H⟩
  · have hr := zav E0 rfl n.val a.val b2.val c2.val H
    unfold zat at hr
    rw [n1, n1, zae (c11 hw.1 hw.2 H), b_wt, sp_0, n0, orQ, zai, qg0, bF (by omega), orQ, zai, qg0, bF (by omega), orQ, zai, qg0, bF (by omega), orQ, zai, qg0, bF (by omega), rngP, zai, qg0, bF (by omega), eF (by omega), eF (by omega), eF (by omega), eF (by omega), eF (by omega), orQ, zai, qg0, bF (by omega), zbg, bT (by omega), zbE, bF (by omega)] at hr
    have na : ∀ (k : Value → Option (Value × Hp)), zab 7 true (zaa n.val) 0 k = k n.val := fun k => rfl
    rw [na, zak, zak, zae (zly (by omega) (by omega) hnum ⟨by omega, ha.may.w64⟩ (fun q => by omega) (ha.exl _) H), sp_0, zak, hpe] at hr
    exact hr
theorem table_row (h5 : 5 ≤ n.op) : zdX n a b c b2 c2 := by
  by_cases g : n.op = 5
  · exact t_not ho hw hnum ha hb hc hs hl g
  by_cases g : n.op = 15
  · exact t_com ho hw hnum ha hb hc hs hl g
  by_cases g : n.op = 6
  · exact t_and ho hw hnum ha hb hc hs hl g
  by_cases g : n.op = 17
  · exact t_band ho hw hnum ha hb hc hs hl g
  by_cases g : n.op = 7
  · exact t_or ho hw hnum ha hb hc hs hl g
  by_cases g : n.op = 18
  · exact t_bor ho hw hnum ha hb hc hs hl g
  by_cases g : n.op = 8
  · exact t_xor ho hw hnum ha hb hc hs hl g
  by_cases g : n.op = 19
  · exact t_bxor ho hw hnum ha hb hc hs hl g
  by_cases g : n.op = 9
  · exact t_eq ho hw hnum ha hb hc hs hl g
  by_cases g : 10 ≤ n.op ∧ n.op ≤ 13
  · exact t_cmp ho hw hnum ha hb hc hs hl g
  by_cases g : n.op = 14
  · exact t_ite ho hw hnum ha hb hc hs hl g
  by_cases g : n.op = 20
  · exact t_add ho hw hnum ha hb hc hs hl g
  by_cases g : n.op = 21
  · exact t_sub ho hw hnum ha hb hc hs hl g
  by_cases g : n.op = 16
  · exact t_neg ho hw hnum ha hb hc hs hl g
  by_cases g : n.op = 22
  · exact t_mul ho hw hnum ha hb hc hs hl g
  by_cases g : n.op = 23
  · exact t_div ho hw hnum ha hb hc hs hl g
  by_cases g : n.op = 24
  · exact t_rem ho hw hnum ha hb hc hs hl g
  by_cases g : 25 ≤ n.op ∧ n.op ≤ 29
  · exact t_sh ho hw hnum ha hb hc hs hl g
  by_cases g : n.op = 30
  · exact t_cat ho hw hnum ha hb hc hs hl g
  by_cases g : n.op = 31
  · exact t_slice ho hw hnum ha hb hc hs hl g
  · exact t_ext ho hw hnum ha hb hc hs hl (by omega)
end
end Go.AM.N14
namespace Go.AM.N14
open Go Go.AM
theorem b2w_le (c : Bool) (n : Nat) (h : 1 ≤ n) (hn : n ≤ 64) : (b2w c).toNat ≤ (msk n).toNat := by
  rw [zep _ hn]
  have : 2 ^ 1 ≤ 2 ^ n := Nat.pow_le_pow_right (by decide) h
  cases c
  · exact Nat.zero_le _
  · show 1 ≤ _; omega
theorem bin_le {op : Int} (hop : 17 ≤ op ∧ op ≤ 29) {n : Nat} (h0 : 1 ≤ n) (hn : n ≤ 64) (x y : W64) : (binW op n x y).toNat ≤ (msk n).toNat := by
  have hX := zbz hn x
  have hY := zbz hn y
  unfold binW
  dsimp only
  split
  · exact zcu hn hX
  split
  · exact zeo hn hX hY
  split
  · exact (zaQ hn).2 fun j hj => by rw [BitVec.getLsbD_xor, (zaQ hn).1 hX j hj, (zaQ hn).1 hY j hj]; rfl
  split
  · exact zbz hn _
  split
  · exact zbz hn _
  split
  · exact zbz hn _
  split
  · split
    · exact Nat.le_refl _
    · rw [BitVec.toNat_udiv]; exact Nat.le_trans (Nat.div_le_self _ _) hX
  split
  · split
    · exact hX
    · rw [BitVec.toNat_umod]; exact Nat.le_trans (Nat.mod_le _ _) hX
  · have hm := zjB (op := op) (by omega) h0 hn (Nat.mod_lt (y &&& msk n).toNat (show n > 0 by omega)) hX
    exact (zaQ hn).2 fun j hj => by rw [hm j, decide_eq_false (by omega), Bool.false_and]
theorem val_le {n : Nd} (ho : 1 ≤ n.op ∧ n.op ≤ 33) (h4 : n.op ≠ 4) (hw : 0 ≤ n.w ∧ n.w ≤ 64) (hnum : 0 ≤ n.num ∧ n.num < 18446744073709551616) {x y z : Fct} (hx : Wd x) (hy : Wd y) (hz : Wd z) (hs : zbT n x.w y.w z.w = true) :
    (valW n x.w.toNat y.w.toNat x.least y.least z.least).toNat ≤ (msk (wd n.w)).toNat := by
  have hB := zbn hs
  have hn := zbf hw.2
  have hp := zc9 n.w
  have m1 : (msk 1).toNat = 1 := rfl
  have one : ∀ c : Bool, (b2w c).toNat ≤ (msk (wd n.w)).toNat := fun c => b2w_le c _ hp hn
  unfold zbb at hB
  unfold valW
  by_cases h1 : n.op = 1
  · rw [if_pos h1]; exact one true
  rw [if_neg h1]
  by_cases h2 : n.op = 2
  · rw [if_pos h2]; exact zero_le _
  rw [if_neg h2]
  by_cases h3 : n.op = 3
  · rw [if_pos h3]
    rw [if_neg (by omega), if_pos h3] at hB
    simp only [Bool.and_eq_true, decide_eq_true_eq] at hB
    rw [BitVec.toNat_ofInt]
    have := hB.2
    omega
  rw [if_neg h3]
  by_cases h5 : n.op = 5
  · rw [if_pos h5]
    rw [if_neg (by omega), if_neg (by omega), if_neg (by omega), if_pos h5] at hB
    simp only [Bool.and_eq_true, decide_eq_true_eq] at hB
    have hl := hx.l
    rw [hB.2] at hl
    rcases tr01 (a := x.least) hl with e | e <;> rw [e]
    · exact one true
    · exact zero_le _
  rw [if_neg h5]
  by_cases h8 : n.op ≤ 8
  · rw [if_neg (by omega), if_neg (by omega), if_neg (by omega), if_neg (by omega), if_pos h8] at hB
    simp only [Bool.and_eq_true, decide_eq_true_eq] at hB
    have lx := hx.l
    have ly := hy.l
    rw [hB.2.1, ← hB.1] at lx
    rw [hB.2.2, ← hB.1] at ly
    by_cases h6 : n.op = 6
    · rw [if_pos h6]; exact zcu hn lx
    rw [if_neg h6]
    by_cases h7 : n.op = 7
    · rw [if_pos h7]; exact zeo hn lx ly
    rw [if_neg h7, if_pos (by omega)]
    exact (zaQ hn).2 fun j hj => by rw [BitVec.getLsbD_xor, (zaQ hn).1 lx j hj, (zaQ hn).1 ly j hj]; rfl
  rw [if_neg (by omega), if_neg (by omega), if_neg (by omega)]
  rw [if_neg (by omega), if_neg (by omega), if_neg (by omega), if_neg (by omega), if_neg (by omega)] at hB
  by_cases h9 : n.op = 9
  · rw [if_pos h9]; exact one _
  rw [if_neg h9]
  rw [if_neg h9] at hB
  by_cases h13 : n.op ≤ 13
  · rw [if_pos h13]; exact one _
  rw [if_neg h13]
  rw [if_neg h13] at hB
  by_cases h14 : n.op = 14
  · rw [if_pos h14]
    rw [if_pos h14] at hB
    simp only [Bool.and_eq_true, decide_eq_true_eq] at hB
    split
    · rw [hB.2.2]; exact hy.l
    · rw [hB.2.2, hB.2.1]; exact hz.l
  rw [if_neg h14]
  rw [if_neg h14] at hB
  have hxw := hx.w
  by_cases h16 : n.op ≤ 16
  · rw [if_pos h16]
    rw [if_pos h16] at hB
    simp only [Bool.and_eq_true, decide_eq_true_eq] at hB
    have ew : x.w.toNat = wd n.w := by unfold wd; omega
    rw [ew]
    unfold unW
    split <;> exact zbz hn _
  rw [if_neg h16]
  rw [if_neg h16] at hB
  by_cases h29 : n.op ≤ 29
  · rw [if_pos h29]
    have ew : x.w.toNat = wd n.w ∧ 1 ≤ x.w.toNat := by
      by_cases h24 : n.op ≤ 24
      · rw [if_pos h24] at hB
        simp only [Bool.and_eq_true, decide_eq_true_eq] at hB
        unfold wd; omega
      · rw [if_neg h24, if_pos h29] at hB
        simp only [Bool.and_eq_true, decide_eq_true_eq] at hB
        unfold wd; omega
    rw [ew.1]
    exact bin_le ⟨by omega, h29⟩ hp hn _ _
  rw [if_neg h29]
  rw [if_neg (by omega), if_neg (by omega)] at hB
  by_cases h30 : n.op = 30
  · rw [if_pos h30]
    rw [if_pos h30] at hB
    simp only [Bool.and_eq_true, decide_eq_true_eq] at hB
    have hyw := hy.w
    unfold catW
    exact zm9 hn (n := x.w.toNat) (k := y.w.toNat) (by unfold wd; omega) (zbz (by omega) _) (zbz (by omega) _)
  rw [if_neg h30]
  rw [if_neg h30] at hB
  by_cases h31 : n.op = 31
  · rw [if_pos h31]
    rw [if_pos h31] at hB
    simp only [Bool.and_eq_true, decide_eq_true_eq] at hB
    have ew : n.w.toNat = wd n.w := by unfold wd; omega
    unfold zop
    rw [ew]; exact zbz hn _
  rw [if_neg h31]
  rw [if_neg h31] at hB
  simp only [Bool.and_eq_true, decide_eq_true_eq] at hB
  have ew : n.w.toNat = wd n.w := by unfold wd; omega
  unfold extW
  split
  · exact zcP hn (n := x.w.toNat) (by unfold wd; omega) (zbz (by omega) _)
  · rw [ew]; exact zbz hn _
end Go.AM.N14
namespace Go.AM.N14
open Go Go.AM
def fsC (fs : Nat → Fct) : List Value := zaa (fs 0).val ++ zaa (fs 1).val ++ zaa (fs 2).val
theorem zn2 (fs : Nat → Fct) : .agg (fsC fs).toArray = fsV fs := rfl
theorem zfH (fs : Nat → Fct) : zaa (fsV fs) = fsC fs := rfl
theorem fs_at {α : Type} (fs : Nat → Fct) {i : Nat} (h : i < 3) (f : Value → Option α) : zab 5 true (fsC fs) (0 + i * 5) f = f (fs i).val := by
  match i, h with
  | 0, _ => rfl
  | 1, _ => rfl
  | 2, _ => rfl
def up (fs : Nat → Fct) (i : Nat) (x : Fct) : Nat → Fct := fun j => if j = i then x else fs j
theorem fs_put {α : Type} (fs : Nat → Fct) {i : Nat} (h : i < 3) (x : Fct) (f : List Value → Option α) : zac 5 (fsC fs) (0 + i * 5) x.val f = f (fsC (up fs i x)) := by
  match i, h with
  | 0, _ => rfl
  | 1, _ => rfl
  | 2, _ => rfl
def upW (ws : Nat → Int) (i : Nat) (x : Int) : Nat → Int := fun j => if j = i then x else ws j
theorem ws_put {α : Type} (ws : Nat → Int) {i : Nat} (h : i < 3) (x : Int) (f : List Value → Option α) : zac 1 (zaa (wsV ws)) (0 + i * 1) (.int .i64 x) f = f (zaa (wsV (upW ws i x))) := by
  match i, h with
  | 0, _ => rfl
  | 1, _ => rfl
  | 2, _ => rfl
theorem agg_ws (ws : Nat → Int) : Value.agg (zaa (wsV ws)).toArray = wsV ws := rfl
theorem zmZ {fs gs : Nat → Fct} (h : ∀ i, i < 3 → fs i = gs i) : fsV fs = fsV gs := by
  unfold fsV
  rw [h 0 (by decide), h 1 (by decide), h 2 (by decide)]
theorem ws_ext {ws us : Nat → Int} (h : ∀ i, i < 3 → ws i = us i) : wsV ws = wsV us := by
  unfold wsV
  rw [h 0 (by decide), h 1 (by decide), h 2 (by decide)]
structure Parts (k : Nat) (g s : Nat → Fct) (e : Nat → Int) : Prop where
  may : ∀ i, i < k → (g i).May
  set : ∀ i, i < k → SetR (g i) (s i) (e i)
  p : ∀ i, i < k → ∀ H, RR F.a5 [(g i).val] H = some (.tuple #[(s i).val, .bool (decide (e i = 0))], H)
  q : ∀ i, i < k → ∀ H, RR F.a2 [(g i).val] H = some (.tuple #[(s i).val, .int .i64 (e i)], H)
theorem parts_of {k : Nat} {g : Nat → Fct} (h : ∀ i, i < k → (g i).May) : ∃ s e, Parts k g s e := by
  have key : ∀ i : Nat, ∃ r : Fct × Int, i < k → SetR (g i) r.1 r.2 ∧ (∀ H, RR F.a5 [(g i).val] H = some (.tuple #[r.1.val, .bool (decide (r.2 = 0))], H)) ∧ ∀ H, RR F.a2 [(g i).val] H = some (.tuple #[r.1.val, .int .i64 r.2], H) := fun i => by
    by_cases q : i < k
    · obtain ⟨s, e, h1, h2, h3⟩ := zfL (h i q) (h i q) rfl (fun _ => Iff.rfl)
      exact ⟨(s, e), fun _ => ⟨h1, h2, h3⟩⟩
    · exact ⟨(F0, 0), fun z => absurd z q⟩
  obtain ⟨f, hf⟩ := Classical.axiomOfChoice key
  exact ⟨fun i => (f i).1, fun i => (f i).2, h, fun i hi => (hf i hi).1, fun i hi => (hf i hi).2.1, fun i hi => (hf i hi).2.2⟩
theorem p_may {k : Nat} (hk : k ≤ 3) (g : Nat → Fct) (H : Hp) : ∀ (m i : Nat) (w : Bool), i + m = k → ∃ w' : Bool, (w' = true ↔ (w = true ∨ ∃ j, i ≤ j ∧ j < k ∧ ¬ (g j).May)) ∧
    zaA (zbp RR (.int .i64 (k : Int)) (fsC g)) [.bool w, .int .i64 (i : Int)] H = some (.exit 0, [.bool w', .int .i64 (k : Int)], H)
  | 0, i, w, hi => by
    have : i = k := by omega
    subst this
    refine ⟨w, ⟨.inl, fun q => q.elim id fun ⟨j, h1, h2, _⟩ => by omega⟩, ?_⟩
    rw [zaq]
    have : zbp RR (.int .i64 (i : Int)) (fsC g) [.bool w, .int .i64 (i : Int)] H = some (.exit 0, [.bool w, .int .i64 (i : Int)], H) := by
      unfold zbp
      simp only [qg0, qg1]
      rw [lF (Int.lt_irrefl _)]
    rw [this]; rfl
  | m + 1, i, w, hi => by
    have w1 : IntKind.i64.wrap ((i : Int) + 1) = ((i + 1 : Nat) : Int) := zax (by omega) (by omega)
    have hloc : ∀ (f : Nat → Option Outc), zaS 3 (.int .i64 (i : Int)) f = f i := fun f => by
      unfold zaS
      dsimp only
      rw [if_pos (by omega)]; rfl
    obtain ⟨w', h1, h2⟩ := p_may hk g H m (i + 1) (w || !decide (g i).May) (by omega)
    refine ⟨w', h1.trans ?_, ?_⟩
    · simp only [Bool.or_eq_true, Bool.not_eq_true', decide_eq_false_iff_not]
      constructor
      · rintro ((q | q) | ⟨j, j1, j2, j3⟩)
        · exact .inl q
        · exact .inr ⟨i, Nat.le_refl _, by omega, q⟩
        · exact .inr ⟨j, by omega, j2, j3⟩
      · rintro (q | ⟨j, j1, j2, j3⟩)
        · exact .inl (.inl q)
        · by_cases z : j = i
          · subst z; exact .inl (.inr j3)
          · exact .inr ⟨j, by omega, j2, j3⟩
    · rw [zaq]
      have : zbp RR (.int .i64 (k : Int)) (fsC g) [.bool w, .int .i64 (i : Int)] H = some (.next, [.bool (w || !decide (g i).May), .int .i64 ((i + 1 : Nat) : Int)], H) := by
        unfold zbp
        simp only [qg0, qg1]
        rw [lT (by omega), zag]
        cases w with
        | true => rw [zap, za6, w1, Bool.true_or]
        | false => rw [zan, hloc, fs_at g (by omega), zae (c19 (g i) H), za4, za6, w1, Bool.false_or]
      rw [this]; exact h2
theorem q_may {k : Nat} (hk : k ≤ 3) (g : Nat → Fct) (z : Fct) (H : Hp) : ∀ (m i : Nat), i + m = k →
    ((∀ j, i ≤ j → j < k → (g j).May) ∧ zaA (zaO RR (.int .i64 (k : Int)) (fsC g)) [.int .i64 (i : Int), z.val] H = some (.exit 0, [.int .i64 (k : Int), z.val], H)) ∨
    ((∃ j, i ≤ j ∧ j < k ∧ ¬ (g j).May) ∧ zaA (zaO RR (.int .i64 (k : Int)) (fsC g)) [.int .i64 (i : Int), z.val] H = some (.ret, [.tuple #[F0.val, .int .i64 5]], H))
  | 0, i, hi => by
    have : i = k := by omega
    subst this
    refine .inl ⟨fun j h1 h2 => by omega, ?_⟩
    rw [zaq]
    have : zaO RR (.int .i64 (i : Int)) (fsC g) [.int .i64 (i : Int), z.val] H = some (.exit 0, [.int .i64 (i : Int), z.val], H) := by
      unfold zaO
      simp only [qg0, qg1, qd1, qd0]
      rw [lF (Int.lt_irrefl _), zaL]
    rw [this]; rfl
  | m + 1, i, hi => by
    have w1 : IntKind.i64.wrap ((i : Int) + 1) = ((i + 1 : Nat) : Int) := zax (by omega) (by omega)
    have hloc : ∀ (f : Nat → Option Outc), zaS 3 (.int .i64 (i : Int)) f = f i := fun f => by
      unfold zaS
      dsimp only
      rw [if_pos (by omega)]; rfl
    have hs : zaO RR (.int .i64 (k : Int)) (fsC g) [.int .i64 (i : Int), z.val] H = if (g i).May then some (.next, [.int .i64 ((i + 1 : Nat) : Int), z.val], H) else some (.ret, [.tuple #[F0.val, .int .i64 5]], H) := by
      unfold zaO
      simp only [qg0, qg1, qd1, qd0]
      rw [lT (by omega), hloc, fs_at g (by omega), zae (c8 (g i) H), za4, zag]
      by_cases q : (g i).May
      · rw [decide_eq_true q, Bool.not_true, zan, za6, w1, zaL, if_pos q]
      · rw [decide_eq_false q, Bool.not_false, zap, zcZ, sp_f, zak, if_neg q]
    by_cases q : (g i).May
    · rw [if_pos q] at hs
      rcases q_may hk g z H m (i + 1) (by omega) with ⟨h1, h2⟩ | ⟨⟨j, j1, j2, j3⟩, h2⟩
      · refine .inl ⟨fun j a b => ?_, by rw [zaq, hs]; exact h2⟩
        by_cases z : j = i
        · subst z; exact q
        · exact h1 j (by omega) b
      · exact .inr ⟨⟨j, by omega, j2, j3⟩, by rw [zaq, hs]; exact h2⟩
    · rw [if_neg q] at hs
      exact .inr ⟨⟨i, Nat.le_refl _, by omega, q⟩, by rw [zaq, hs]; rfl⟩
def mixP (k : Nat) (s g : Nat → Fct) (i : Nat) : Nat → Fct := fun j => if j < i then s j else g j
def mixW (s : Nat → Fct) (i : Nat) : Nat → Int := fun j => if j < i then (s j).w else 0
def zeI (s : Nat → Fct) : Nat → Bool
  | 0 => true
  | i + 1 => zeI s i && decide ((s i).least = (s i).top)
theorem zo0 (s : Nat → Fct) : ∀ i, zeI s i = true ↔ ∀ j, j < i → (s j).least = (s j).top
  | 0 => ⟨fun _ j h => by omega, fun _ => rfl⟩
  | i + 1 => by
    unfold zeI
    rw [Bool.and_eq_true, zo0 s i, decide_eq_true_eq]
    exact ⟨fun ⟨a, b⟩ j hj => by
      by_cases q : j = i
      · subst q; exact b
      · exact a j (by omega), fun h => ⟨fun j hj => h j (by omega), h i (by omega)⟩⟩
theorem p_set {k : Nat} (hk : k ≤ 3) {g s : Nat → Fct} {e : Nat → Int} (h : Parts k g s e) (H : Hp) : ∀ (m i : Nat), i + m = k →
    ((∀ j, i ≤ j → j < k → e j = 0) ∧ zaA (zbi RR (.int .i64 (k : Int))) [.bool (zeI s i), .int .i64 (i : Int), F0.val, fsV (mixP k s g i), wsV (mixW s i)] H = some (.exit 2, [.bool (zeI s k), .int .i64 (k : Int), F0.val, fsV (mixP k s g k), wsV (mixW s k)], H)) ∨
    ((∃ j, i ≤ j ∧ j < k ∧ e j ≠ 0) ∧ zaA (zbi RR (.int .i64 (k : Int))) [.bool (zeI s i), .int .i64 (i : Int), F0.val, fsV (mixP k s g i), wsV (mixW s i)] H = some (.ret, [.tuple #[F0.val, .int .i64 1]], H))
  | 0, i, hi => by
    have : i = k := by omega
    subst this
    refine .inl ⟨fun j h1 h2 => by omega, ?_⟩
    rw [zaq]
    have : zbi RR (.int .i64 (i : Int)) [.bool (zeI s i), .int .i64 (i : Int), F0.val, fsV (mixP i s g i), wsV (mixW s i)] H = some (.exit 2, [.bool (zeI s i), .int .i64 (i : Int), F0.val, fsV (mixP i s g i), wsV (mixW s i)], H) := by
      unfold zbi
      simp only [qg0, qg1, qd1, qd0]
      rw [lF (Int.lt_irrefl _), zaL, zfH, zn2, agg_ws]
    rw [this]; rfl
  | m + 1, i, hi => by
    have w1 : IntKind.i64.wrap ((i : Int) + 1) = ((i + 1 : Nat) : Int) := zax (by omega) (by omega)
    have hloc : ∀ (f : Nat → Option Outc), zaS 3 (.int .i64 (i : Int)) f = f i := fun f => by
      unfold zaS
      dsimp only
      rw [if_pos (by omega)]; rfl
    have hmi : mixP k s g i i = g i := if_neg (by omega)
    have em : ∀ j, j < 3 → up (mixP k s g i) i (s i) j = mixP k s g (i + 1) j := fun j hj => by
      unfold up mixP
      by_cases q : j = i
      · subst q; rw [if_pos rfl, if_pos (by omega)]
      · rw [if_neg q]
        by_cases z : j < i
        · rw [if_pos z, if_pos (by omega)]
        · rw [if_neg z, if_neg (by omega)]
    have ew : ∀ j, j < 3 → upW (mixW s i) i (s i).w j = mixW s (i + 1) j := fun j hj => by
      unfold upW mixW
      by_cases q : j = i
      · subst q; rw [if_pos rfl, if_pos (by omega)]
      · rw [if_neg q]
        by_cases z : j < i
        · rw [if_pos z, if_pos (by omega)]
        · rw [if_neg z, if_neg (by omega)]
    have hs : zbi RR (.int .i64 (k : Int)) [.bool (zeI s i), .int .i64 (i : Int), F0.val, fsV (mixP k s g i), wsV (mixW s i)] H = if e i = 0 then some (.next, [.bool (zeI s (i + 1)), .int .i64 ((i + 1 : Nat) : Int), F0.val, fsV (mixP k s g (i + 1)), wsV (mixW s (i + 1))], H) else some (.ret, [.tuple #[F0.val, .int .i64 1]], H) := by
      unfold zbi
      simp only [qg0, qg1, qd1, qd0]
      rw [lT (by omega), hloc, zfH, fs_at _ (by omega), hmi, zae (h.p i (by omega) H), x01, sp_0, za4, zag]
      by_cases q : e i = 0
      · rw [decide_eq_true q, Bool.not_true, zan, zak, f_w, hloc, fs_put _ (by omega), hloc, ws_put _ (by omega), zag, if_pos q]
        rw [zn2, zmZ em, agg_ws, ws_ext ew, zaL]
        cases hl : zeI s i with
        | true =>
          rw [zap, zas, zaK, zdU, za6, w1]
          show some (Ctl.next, [Value.bool _, _, _, _, _], H) = _
          unfold zeI
          rw [hl, Bool.true_and]
        | false =>
          rw [zan, za6, w1]
          unfold zeI
          rw [hl, Bool.false_and]
      · rw [decide_eq_false q, Bool.not_false, zap, zcZ, sp_f, zak, if_neg q]
    by_cases q : e i = 0
    · rw [if_pos q] at hs
      rcases p_set hk h H m (i + 1) (by omega) with ⟨h1, h2⟩ | ⟨⟨j, j1, j2, j3⟩, h2⟩
      · refine .inl ⟨fun j a b => ?_, by rw [zaq, hs]; exact h2⟩
        by_cases z : j = i
        · subst z; exact q
        · exact h1 j (by omega) b
      · exact .inr ⟨⟨j, by omega, j2, j3⟩, by rw [zaq, hs]; exact h2⟩
    · rw [if_neg q] at hs
      exact .inr ⟨⟨i, Nat.le_refl _, by omega, q⟩, by rw [zaq, hs]; rfl⟩
def mixQ (k : Nat) (s g : Nat → Fct) (i : Nat) : Nat → Fct := fun j => if j < i then (if j < k then s j else F0) else g j
def zgK (k : Nat) (s : Nat → Fct) (i : Nat) : Bool := zeI s (min i k)
theorem q_set {k : Nat} (hk : k ≤ 3) {g s : Nat → Fct} {e : Nat → Int} (h : Parts k g s e) (he : ∀ i, i < k → e i = 0 ∨ e i = 1) (H : Hp) : ∀ (m i : Nat), i + m = 3 →
    ((∀ j, i ≤ j → j < k → e j = 0) ∧ zaA (zaN RR (.int .i64 (k : Int))) [.bool (zgK k s i), .int .i64 (i : Int), F0.val, fsV (mixQ k s g i)] H = some (.exit 2, [.bool (zeI s k), .int .i64 3, F0.val, fsV (mixQ k s g 3)], H)) ∨
    ((∃ j, i ≤ j ∧ j < k ∧ e j ≠ 0) ∧ zaA (zaN RR (.int .i64 (k : Int))) [.bool (zgK k s i), .int .i64 (i : Int), F0.val, fsV (mixQ k s g i)] H = some (.ret, [.tuple #[F0.val, .int .i64 1]], H))
  | 0, i, hi => by
    have : i = 3 := by omega
    subst this
    refine .inl ⟨fun j h1 h2 => by omega, ?_⟩
    rw [zaq]
    have : zaN RR (.int .i64 (k : Int)) [.bool (zgK k s 3), .int .i64 ((3 : Nat) : Int), F0.val, fsV (mixQ k s g 3)] H = some (.exit 2, [.bool (zeI s k), .int .i64 3, F0.val, fsV (mixQ k s g 3)], H) := by
      unfold zaN
      simp only [qg0, qg1, qd1, qd0]
      rw [lF (by decide), zaL, zfH, zn2]
      unfold zgK
      rw [show min 3 k = k by omega]
      rfl
    rw [this]; rfl
  | m + 1, i, hi => by
    have w1 : IntKind.i64.wrap ((i : Int) + 1) = ((i + 1 : Nat) : Int) := zax (by omega) (by omega)
    have hloc : ∀ (f : Nat → Option Outc), zaS 3 (.int .i64 (i : Int)) f = f i := fun f => by
      unfold zaS
      dsimp only
      rw [if_pos (by omega)]; rfl
    have hmi : mixQ k s g i i = g i := if_neg (by omega)
    have em : ∀ j, j < 3 → up (mixQ k s g i) i (if i < k then s i else F0) j = mixQ k s g (i + 1) j := fun j hj => by
      unfold up mixQ
      by_cases q : j = i
      · subst q; rw [if_pos rfl, if_pos (show j < j + 1 by omega)]
      · rw [if_neg q]
        by_cases z : j < i
        · rw [if_pos z, if_pos (show j < i + 1 by omega)]
        · rw [if_neg z, if_neg (show ¬ j < i + 1 by omega)]
    have hs : zaN RR (.int .i64 (k : Int)) [.bool (zgK k s i), .int .i64 (i : Int), F0.val, fsV (mixQ k s g i)] H = if i < k → e i = 0 then some (.next, [.bool (zgK k s (i + 1)), .int .i64 ((i + 1 : Nat) : Int), F0.val, fsV (mixQ k s g (i + 1))], H) else some (.ret, [.tuple #[F0.val, .int .i64 1]], H) := by
      unfold zaN
      simp only [qg0, qg1, qd1, qd0]
      rw [lT (by omega), zbg, zag]
      by_cases c : i < k
      · rw [if_pos c] at em
        rw [decide_eq_false (by omega), zan, hloc, zfH, fs_at _ (by omega), hmi, zae (h.q i c H), x01, sp_0, zbY, zag]
        by_cases q : e i = 0
        · have hl1 : zgK k s (i + 1) = (zeI s i && decide ((s i).least = (s i).top)) := by unfold zgK; rw [show min (i + 1) k = i + 1 by omega]; rfl
          have hl0 : zgK k s i = zeI s i := by unfold zgK; rw [show min i k = i by omega]
          rw [decide_eq_false (by omega), zan, zak, hloc, fs_put _ (by omega), zag, if_pos (fun _ => q), hl1, hl0]
          rw [zn2, zmZ em, zaL]
          cases hl : zeI s i with
          | true => rw [zap, zak, zae (zoC (s i) H), za6, w1, Bool.true_and]
          | false => rw [zan, za6, w1, Bool.false_and]
        · have e1 : e i = 1 := (he i c).resolve_left q
          rw [decide_eq_true q, zap, zcZ, sp_f, zak, if_neg (fun z => q (z c)), e1]
      · rw [if_neg c] at em
        have hl1 : zgK k s (i + 1) = zgK k s i := by unfold zgK; rw [show min (i + 1) k = min i k by omega]
        rw [decide_eq_true (by omega), zap, zcZ, hloc, zfH, fs_put _ (by omega), za6, w1, zn2, zmZ em, zaL, if_pos (fun z => absurd z c), hl1]
    by_cases q : i < k → e i = 0
    · rw [if_pos q] at hs
      rcases q_set hk h he H m (i + 1) (by omega) with ⟨h1, h2⟩ | ⟨⟨j, j1, j2, j3⟩, h2⟩
      · refine .inl ⟨fun j a b => ?_, by rw [zaq, hs]; exact h2⟩
        by_cases z : j = i
        · subst z; exact q b
        · exact h1 j (by omega) b
      · exact .inr ⟨⟨j, by omega, j2, j3⟩, by rw [zaq, hs]; exact h2⟩
    · rw [if_neg q] at hs
      have : i < k ∧ e i ≠ 0 := by
        constructor
        · exact Classical.byContradiction fun z => q fun y => absurd y z
        · exact fun z => q fun _ => z
      exact .inr ⟨⟨i, Nat.le_refl _, this.1, this.2⟩, by rw [zaq, hs]; rfl⟩
end Go.AM.N14
