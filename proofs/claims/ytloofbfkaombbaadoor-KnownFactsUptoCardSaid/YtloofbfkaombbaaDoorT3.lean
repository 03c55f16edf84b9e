/- Part of the proof of KnownFactsUptoCardSaid: see the last file.  -/
import Derived.KernelRfl
import Derived.Test.YtloofbfkaombbaaDoorCards
import Derived.Test.YtloofbfkaombbaaDoorTie
import Derived.WalkKit
import Derived.ProofKit
import Derived.OpenShut
import Derived.Deep.DeepHandedRow
import Derived.Lib.LaidTab
import Derived.Test.YtloofbfkaombbaaDoorT0
import Derived.Test.YtloofbfkaombbaaDoorT2
set_option linter.unusedSimpArgs false
set_option linter.unusedVariables false
set_option linter.unusedSectionVars false
/- up: the least word from one on that has the bits. -/
set_option linter.unusedVariables false
set_option linter.unusedSimpArgs false
namespace Go.AM.N14
open Go Go.AM
theorem bit_test (x : W64) (n : Nat) : ((x >>> n &&& 1#64) = 1#64) ↔ x.getLsbD n = true := by
  constructor
  · intro h
    have := congrArg (fun b => BitVec.getLsbD b 0) h
    simp only [BitVec.getLsbD_and, BitVec.getLsbD_ushiftRight] at this
    simpa using this
  · intro h
    refine bit_eq fun j => ?_
    rw [BitVec.getLsbD_and, BitVec.getLsbD_ushiftRight]
    have e1 : (1#64).getLsbD j = decide (j = 0) := by have := bit_one 0 j (by decide); rwa [BitVec.shiftLeft_zero] at this
    rw [e1]
    by_cases hj : j = 0
    · subst hj; simp [h]
    · simp [hj]
theorem bit_test0 (x : W64) (n : Nat) : ((x >>> n &&& 1#64) = 0#64) ↔ x.getLsbD n = false := by
  constructor
  · intro h
    have := congrArg (fun b => BitVec.getLsbD b 0) h
    simp only [BitVec.getLsbD_and, BitVec.getLsbD_ushiftRight] at this
    simpa using this
  · intro h
    refine bit_eq fun j => ?_
    rw [BitVec.getLsbD_and, BitVec.getLsbD_ushiftRight, BitVec.getLsbD_zero]
    have e1 : (1#64).getLsbD j = decide (j = 0) := by have := bit_one 0 j (by decide); rwa [BitVec.shiftLeft_zero] at this
    rw [e1]
    by_cases hj : j = 0
    · subst hj; simp [h]
    · simp [hj]
/-- What 'up' answers. -/
def upV (r : Option W64) : Value := .tuple #[wv (r.getD 0#64), .bool r.isSome]
theorem s44_step {f : Fct} (hw : f.w ≤ 64) (x : W64) (i : Nat) (hi : i ≤ 64) (H : Hp) : s44_1 R f.val (wv x) [.int .i64 (i : Int)] H =
    if i < wd f.w then (if x.getLsbD i = false ∧ f.zero.getLsbD i = false then some (.ret, [upV (some (candT f.one x i))], H) else some (.next, [.int .i64 ((i + 1 : Nat) : Int)], H)) else some (.exit 0, [.int .i64 (i : Int)], H) := by
  unfold s44_1
  have hn := wd_le hw
  simp only [f_w, f_zero, f_one, s_call (c43 _ _), List.getD_cons_zero, s_lss, s_bool, s_br, decide_eq_true_eq, cu64 i (by omega), b_shr, u_1, u_0, b_and, b_eql, b_shl, b_sub, b_or, s_add, bit_test0]
  by_cases h : i < wd f.w
  · rw [if_pos (by omega), if_pos h]
    by_cases h1 : x.getLsbD i = false
    · rw [if_pos h1]
      simp only [s_bind, s_next, List.getD_cons_zero, s_bool, s_br, decide_eq_true_eq]
      by_cases h2 : f.zero.getLsbD i = false
      · rw [if_pos h2, if_pos ⟨h1, h2⟩]; rfl
      · rw [if_neg h2, if_neg (fun q => h2 q.2), q_i64 (by omega) (by omega)]; rfl
    · rw [if_neg h1, if_neg (fun q => h1 q.1)]
      simp only [s_bind, s_next, List.getD_cons_zero, s_bool, s_br]
      rw [if_neg (by decide), q_i64 (by omega) (by omega)]; rfl
  · rw [if_neg (by omega), if_neg h]
theorem loop44 {f : Fct} (hw : f.w ≤ 64) (x : W64) (H : Hp) : ∀ (m i : Nat), i + m = 64 → i ≤ wd f.w → (∃ j, i ≤ j ∧ j < wd f.w ∧ x.getLsbD j = false ∧ f.zero.getLsbD j = false ∧ (∀ k, i ≤ k → k < j → ¬ (x.getLsbD k = false ∧ f.zero.getLsbD k = false)) ∧
      loopD (s44_1 R f.val (wv x)) [.int .i64 (i : Int)] H = some (.ret, [upV (some (candT f.one x j))], H)) ∨
    ((∀ k, i ≤ k → k < wd f.w → ¬ (x.getLsbD k = false ∧ f.zero.getLsbD k = false)) ∧ ∃ l, loopD (s44_1 R f.val (wv x)) [.int .i64 (i : Int)] H = some (.exit 0, l, H))
  | m, i, hm, hi => by
    have hn := wd_le hw
    rw [loopD_eq, s44_step hw x i (by omega)]
    by_cases h : i < wd f.w
    · rw [if_pos h]
      by_cases h1 : x.getLsbD i = false ∧ f.zero.getLsbD i = false
      · rw [if_pos h1]
        exact .inl ⟨i, Nat.le_refl _, h, h1.1, h1.2, fun k a b => absurd a (by omega), rfl⟩
      · rw [if_neg h1]
        show _ ∨ (_ ∧ ∃ l, loopD (s44_1 R f.val (wv x)) [.int .i64 ((i + 1 : Nat) : Int)] H = _)
        match m, hm with
        | 0, hm => omega
        | m + 1, hm =>
        rcases loop44 hw x H m (i + 1) (by omega) (by omega) with ⟨j, a1, a2, a3, a4, a5, a6⟩ | ⟨a1, a2⟩
        · refine .inl ⟨j, by omega, a2, a3, a4, fun k b1 b2 => ?_, a6⟩
          rcases Nat.lt_or_eq_of_le b1 with q | rfl
          · exact a5 k q b2
          · exact h1
        · refine .inr ⟨fun k b1 b2 => ?_, a2⟩
          rcases Nat.lt_or_eq_of_le b1 with q | rfl
          · exact a1 k q b2
          · exact h1
    · rw [if_neg h]
      exact .inr ⟨fun k a b => absurd b (by omega), _, rfl⟩
theorem c44 {f : Fct} (h0 : 0 ≤ f.w) (hw : f.w ≤ 64) (ho : f.one.toNat ≤ (msk (wd f.w)).toNat) (hz : f.zero.toNat ≤ (msk (wd f.w)).toNat) {x : W64} (hx : x.toNat ≤ (msk (wd f.w)).toNat) (H : Hp) :
    ∃ r, Up f.one f.zero x (wd f.w) r ∧ R 44 [f.val, wv x] H = some (upV r, H) := by
  have hr := (r44 E14 rfl f.val (wv x) H).trans (k44 _ _ _ _)
  have hn := wd_le hw
  rw [f_one, f_zero, b_and, u_0, b_neq, s_bool, s_br] at hr
  by_cases hd : f.one &&& f.zero = 0#64
  case neg =>
    rw [if_pos (by simp [hd])] at hr
    exact ⟨none, up_clash fun q => hd (dis_iff.2 q), hr⟩
  rw [if_neg (by simp [hd])] at hr
  have hd := dis_iff.1 hd
  rw [f_all, s_call (c27 f x H), s_bool, s_br] at hr
  by_cases hf : Fit f.one f.zero x
  case pos =>
    rw [if_pos (decide_eq_true hf)] at hr
    exact ⟨some x, up_fit hx hf, hr⟩
  rw [if_neg (by simpa using hf)] at hr
  rw [f_zero, b_and, b_not, f_one, b_and, b_or, s_call (c63 _ H)] at hr
  generalize hwr : (x &&& f.zero ||| ~~~x &&& f.one) = wr at hr
  have wbit : ∀ j, wr.getLsbD j = ((x.getLsbD j && f.zero.getLsbD j) || (!x.getLsbD j && f.one.getLsbD j)) := fun j => by
    rw [← hwr, BitVec.getLsbD_or, BitVec.getLsbD_and, BitVec.getLsbD_and, BitVec.getLsbD_not]
    rcases Nat.lt_or_ge j 64 with q | q
    · simp [q]
    · simp [bit_hi x q, bit_hi f.one q]
  have good : ∀ j, wr.getLsbD j = false → (f.one.getLsbD j = true → x.getLsbD j = true) ∧ (f.zero.getLsbD j = true → x.getLsbD j = false) := fun j hj => by
    rw [wbit] at hj
    cases h1 : x.getLsbD j <;> cases h2 : f.zero.getLsbD j <;> cases h3 : f.one.getLsbD j <;> rw [h1, h2, h3] at hj <;> first | (exact absurd hj (by decide)) | simp
  have hne : wr ≠ 0#64 := fun e => hf fun j => good j (by rw [e, BitVec.getLsbD_zero])
  obtain ⟨h, h64, hb, hbit, habove⟩ := top_bit hne
  rw [hb, s_sub, q_i64 (by omega) (by omega), show ((63 : Int) - ((64 - (h + 1) : Nat) : Int)) = (h : Int) by omega] at hr
  simp only [f_one, f_zero, cu64 h (by omega), b_shr, u_1, b_and, b_eql, bit_test, s_bool, s_br, decide_eq_true_eq, b_shl, b_or, b_sub] at hr
  have bad : ∀ i, (∀ j, i < j → (f.one.getLsbD j = true → x.getLsbD j = true) ∧ (f.zero.getLsbD j = true → x.getLsbD j = false)) → h ≤ i := fun i hi => by
    rcases Nat.lt_or_ge i h with q | q
    · have g := hi h q
      rw [wbit] at hbit
      cases h1 : x.getLsbD h <;> cases h2 : f.zero.getLsbD h <;> cases h3 : f.one.getLsbD h <;> rw [h1, h2, h3] at hbit g <;> simp at hbit g
    · exact q
  by_cases h1 : f.one.getLsbD h = true
  · rw [if_pos h1] at hr
    have hz0 := hd h h1
    have hx0 : x.getLsbD h = false := by
      rw [wbit, hz0, h1] at hbit
      cases q : x.getLsbD h with
      | false => rfl
      | true => rw [q] at hbit; cases hbit
    have hlt : h < wd f.w := by
      rcases Nat.lt_or_ge h (wd f.w) with q | q
      · exact q
      · rw [(le_msk hn).1 ho h q] at h1; cases h1
    exact ⟨some (candT f.one x h), up_at hn hlt hx ho hd hf hx0 hz0 (fun j hj => good j (habove j hj)) (fun i _ _ hi => bad i hi) (candT_ok _ _ h64), hr⟩
  · rw [if_neg h1, s_add, q_i64 (by omega) (by omega)] at hr
    have hxz : x.getLsbD h = true ∧ f.zero.getLsbD h = true := by
      rw [wbit] at hbit
      cases q : x.getLsbD h <;> cases q2 : f.zero.getLsbD h <;> rw [q, q2, Bool.eq_false_iff.2 h1] at hbit <;> simp at hbit ⊢
    have hlt : h < wd f.w := by
      rcases Nat.lt_or_ge h (wd f.w) with q | q
      · exact q
      · rw [(le_msk hn).1 hx h q] at hxz; exact absurd hxz.1 (by decide)
    rw [show ((h : Int) + 1) = ((h + 1 : Nat) : Int) by omega] at hr
    rcases loop44 hw x H (64 - (h + 1)) (h + 1) (by omega) hlt with ⟨j, a1, a2, a3, a4, a5, a6⟩ | ⟨a1, l, a2⟩
    · rw [a6, s_bind, s_ret] at hr
      refine ⟨some (candT f.one x j), up_at hn a2 hx ho hd hf a3 a4 (fun k hk => good k (habove k (by omega))) (fun i b1 b2 b3 => ?_) (candT_ok _ _ (by omega)), hr⟩
      have := bad i b3
      rcases Nat.lt_or_ge i j with q | q
      · rcases Nat.lt_or_eq_of_le this with q2 | rfl
        · exact absurd ⟨b1, b2⟩ (a5 i q2 q)
        · rw [hxz.1] at b1; cases b1
      · exact q
    · rw [a2, s_bind, s_exit] at hr
      refine ⟨none, up_none hn hf fun i b1 b2 b3 b4 => ?_, hr⟩
      have := bad i b4
      rcases Nat.lt_or_eq_of_le this with q2 | rfl
      · exact a1 i q2 b1 ⟨b2, b3⟩
      · rw [hxz.1] at b2; cases b2
end Go.AM.N14
/- May, Has; down; some. -/
set_option linter.unusedVariables false
set_option linter.unusedSimpArgs false
namespace Go.AM.N14
open Go Go.AM
/-- A fact that may be. -/
structure Fct.May (f : Fct) : Prop where
  w0 : 0 ≤ f.w
  w64 : f.w ≤ 64
  one : f.one.toNat ≤ (msk (wd f.w)).toNat
  zero : f.zero.toNat ≤ (msk (wd f.w)).toNat
  least : f.least.toNat ≤ (msk (wd f.w)).toNat
  top : f.top.toNat ≤ (msk (wd f.w)).toNat
theorem may_iff (f : Fct) : f.May ↔ ((0 ≤ f.w ∧ f.w ≤ 64) ∧ f.one.toNat ≤ (msk (wd f.w)).toNat ∧ f.zero.toNat ≤ (msk (wd f.w)).toNat ∧ f.least.toNat ≤ (msk (wd f.w)).toNat ∧ f.top.toNat ≤ (msk (wd f.w)).toNat) :=
  ⟨fun ⟨a, b, c, d, e, g⟩ => ⟨⟨a, b⟩, c, d, e, g⟩, fun ⟨⟨a, b⟩, c, d, e, g⟩ => ⟨a, b, c, d, e, g⟩⟩
instance (f : Fct) : Decidable f.May := decidable_of_iff _ (may_iff f).symm
theorem may_chain (H : Hp) (f : Fct) (m : W64) : (pCell 1 false (cellsL f.val) 1 fun v14 => pBin Go.Proofs.Tryd.prog .leq 22 v14 (wv m) fun v15 => pBool v15 fun b16 => br b16
 (pCell 1 false (cellsL f.val) 2 fun v17 => pBin Go.Proofs.Tryd.prog .leq 22 v17 (wv m) fun v18 => pBool v18 fun b19 => br b19
 (pCell 1 false (cellsL f.val) 3 fun v20 => pBin Go.Proofs.Tryd.prog .leq 22 v20 (wv m) fun v21 => pBool v21 fun b22 => br b22
 (pCell 1 false (cellsL f.val) 4 fun v23 => pBin Go.Proofs.Tryd.prog .leq 22 v23 (wv m) fun v24 => some (v24, H))
 (some ((.bool false), H))) (some ((.bool false), H))) (some ((.bool false), H))) =
    some (.bool (decide (f.one.toNat ≤ m.toNat ∧ f.zero.toNat ≤ m.toNat ∧ f.least.toNat ≤ m.toNat ∧ f.top.toNat ≤ m.toNat)), H) := by
  simp only [f_one, f_zero, f_least, f_top, b_leq, s_bool, s_br, decide_eq_true_eq]
  by_cases h1 : f.one.toNat ≤ m.toNat
  · by_cases h2 : f.zero.toNat ≤ m.toNat
    · by_cases h3 : f.least.toNat ≤ m.toNat
      · simp [h1, h2, h3]
      · simp [h1, h2, h3]
    · simp [h1, h2]
  · simp [h1]
theorem c19 (f : Fct) (H : Hp) : R 19 [f.val] H = some (.bool (decide f.May), H) := by
  refine (r19 E14 rfl _ H).trans ?_
  unfold m19
  simp only [f_w, s_lss, s_gtr, s_bool, s_br, decide_eq_true_eq]
  by_cases h0 : f.w < 0
  · rw [if_pos h0, s_bind, s_ret, decide_eq_false (fun q => by have := q.w0; omega)]; rfl
  rw [if_neg h0]
  by_cases h1 : f.w > 64
  · rw [if_pos h1, s_bind, s_ret, decide_eq_false (fun q => by have := q.w64; omega)]; rfl
  rw [if_neg h1, s_bind, s_next, s_call (c26 (by omega) H)]
  have := may_chain H f (msk (wd f.w))
  simp only [s_br, decide_eq_true_eq] at this
  rw [this]
  congr 3
  rw [decide_eq_decide, may_iff]
  exact ⟨fun h => ⟨by omega, h⟩, fun h => h.2⟩
theorem c8 (f : Fct) (H : Hp) : R 8 [f.val] H = some (.bool (decide f.May), H) := by
  refine (r8 E14 rfl _ H).trans ?_
  unfold m8
  simp only [f_w, s_lss, s_gtr, s_bool, s_br, decide_eq_true_eq]
  by_cases h0 : f.w < 0
  · rw [if_pos h0, s_bind, s_ret, decide_eq_false (fun q => by have := q.w0; omega)]; rfl
  rw [if_neg h0]
  by_cases h1 : f.w > 64
  · rw [if_pos h1, s_bind, s_ret, decide_eq_false (fun q => by have := q.w64; omega)]; rfl
  rw [if_neg h1, s_bind, s_next, s_call (c11 (by omega) (by omega) H)]
  have := may_chain H f (msk (wd f.w))
  simp only [s_br, decide_eq_true_eq] at this
  rw [this]
  congr 3
  rw [decide_eq_decide, may_iff]
  exact ⟨fun h => ⟨by omega, h⟩, fun h => h.2⟩
/-- The words of a fact. -/
def Mem (f : Fct) (x : W64) : Prop := Fit f.one f.zero x ∧ f.least.toNat ≤ x.toNat ∧ x.toNat ≤ f.top.toNat
instance (f : Fct) (x : W64) : Decidable (Mem f x) := by unfold Mem; infer_instance
theorem Mem.le {f : Fct} (hf : f.May) {x : W64} (h : Mem f x) : x.toNat ≤ (msk (wd f.w)).toNat := Nat.le_trans h.2.2 hf.top
theorem has_chain (f : Fct) (x : W64) (H : Hp) (hf : f.May) : (pBin Go.Proofs.Tryd.prog .leq 22 (wv x) (wv (msk (wd f.w))) fun v8 => pBool v8 fun b9 => br b9
 (pBool (.bool (decide (Fit f.one f.zero x))) fun b13 => br b13
 (pCell 1 false (cellsL f.val) 3 fun v14 => pBin Go.Proofs.Tryd.prog .geq 22 (wv x) v14 fun v15 => pBool v15 fun b16 => br b16
 (pCell 1 false (cellsL f.val) 4 fun v17 => pBin Go.Proofs.Tryd.prog .leq 22 (wv x) v17 fun v18 => some (v18, H))
 (some ((.bool false), H))) (some ((.bool false), H))) (some ((.bool false), H))) = some (.bool (decide (Mem f x)), H) := by
  simp only [f_least, f_top, b_leq, b_geq, s_bool, s_br, decide_eq_true_eq]
  have hl := hf.top
  by_cases h1 : x.toNat ≤ (msk (wd f.w)).toNat
  · rw [if_pos h1]
    by_cases h2 : Fit f.one f.zero x
    · rw [if_pos h2]
      by_cases h3 : f.least.toNat ≤ x.toNat
      · rw [if_pos h3]
        congr 3
        rw [decide_eq_decide]
        exact ⟨fun q => ⟨h2, h3, q⟩, fun q => q.2.2⟩
      · rw [if_neg h3, decide_eq_false (fun q => h3 q.2.1)]
    · rw [if_neg h2, decide_eq_false (fun q => h2 q.1)]
  · rw [if_neg h1, decide_eq_false (fun q => by have := q.2.2; omega)]
/-- Has. -/
theorem c10 (f : Fct) (x : W64) (H : Hp) : R 10 [f.val, wv x] H = some (.bool (decide (f.May ∧ Mem f x)), H) := by
  refine (r10 E14 rfl _ _ H).trans ?_
  unfold m10
  rw [f_all, s_call (c19 f H), s_bool, s_br]
  by_cases hf : f.May
  · rw [if_pos (decide_eq_true hf), f_w, s_call (c26 hf.w64 H)]
    simp only [f_all, s_call (c27 f x H)]
    rw [has_chain f x H hf]
    congr 3
    rw [decide_eq_decide]
    exact ⟨fun q => ⟨hf, q⟩, fun q => q.2⟩
  · rw [if_neg (by simpa using hf), decide_eq_false (fun q => hf q.1)]
theorem c9 (f : Fct) (x : W64) (H : Hp) : R 9 [f.val, wv x] H = some (.bool (decide (f.May ∧ Mem f x)), H) := by
  refine (r9 E14 rfl _ _ H).trans ?_
  unfold m9
  rw [f_all, s_call (c8 f H), s_bool, s_br]
  by_cases hf : f.May
  · rw [if_pos (decide_eq_true hf), f_w, s_call (c11 hf.w0 hf.w64 H)]
    simp only [f_all, s_call (c25 f x H)]
    rw [has_chain f x H hf]
    congr 3
    rw [decide_eq_decide]
    exact ⟨fun q => ⟨hf, q⟩, fun q => q.2⟩
  · rw [if_neg (by simpa using hf), decide_eq_false (fun q => hf q.1)]
/-- down. -/
theorem c45 {f : Fct} (h0 : 0 ≤ f.w) (hw : f.w ≤ 64) (ho : f.one.toNat ≤ (msk (wd f.w)).toNat) (hz : f.zero.toNat ≤ (msk (wd f.w)).toNat) {x : W64} (hx : x.toNat ≤ (msk (wd f.w)).toNat) (H : Hp) :
    ∃ r b, Down f.one f.zero x (wd f.w) r ∧ (∀ y, r = some y → b = y) ∧ R 45 [f.val, wv x] H = some (.tuple #[wv b, .bool r.isSome], H) := by
  have hn := wd_le hw
  obtain ⟨r, h1, h2⟩ := c44 (f := ⟨f.w, f.zero, f.one, 0#64, 0#64⟩) h0 hw hz ho (x := msk (wd f.w) &&& ~~~x) (flip_le hn x) H
  refine ⟨r.map fun y => msk (wd f.w) &&& ~~~y, msk (wd f.w) &&& ~~~(r.getD 0#64), down_of_up hn ho hz hx h1, fun y hy => ?_, ?_⟩
  · cases r with
    | none => cases hy
    | some z => cases hy; rfl
  · refine (r45 E14 rfl _ _ H).trans ?_
    unfold m45
    rw [f_w, s_call (c26 hw H), f_w, f_zero, f_one, b_w3, b_andNot, s_call h2]
    unfold upV
    rw [q_ext0, q_ext1, b_andNot]
    cases r <;> rfl
/-- some: is there a fitting word from least to top? -/
theorem c46 {f : Fct} (h0 : 0 ≤ f.w) (hw : f.w ≤ 64) (ho : f.one.toNat ≤ (msk (wd f.w)).toNat) (hz : f.zero.toNat ≤ (msk (wd f.w)).toNat) {x y : W64} (hx : x.toNat ≤ (msk (wd f.w)).toNat) (hy : y.toNat ≤ (msk (wd f.w)).toNat) (H : Hp) :
    ∃ b : Bool, (b = true ↔ ∃ t, Fit f.one f.zero t ∧ x.toNat ≤ t.toNat ∧ t.toNat ≤ y.toNat) ∧ R 46 [f.val, wv x, wv y] H = some (.bool b, H) := by
  obtain ⟨r, h1, h2⟩ := c44 h0 hw ho hz hx H
  have hr := r46 E14 rfl f.val (wv x) (wv y) H
  unfold m46 at hr
  rw [f_all, s_call h2] at hr
  unfold upV at hr
  rw [q_ext0, q_ext1, s_bool, s_br] at hr
  cases r with
  | none =>
    rw [if_neg (by simp)] at hr
    refine ⟨false, ⟨fun h => absurd h (by decide), fun ⟨t, a, b, c⟩ => (h1 t a b (by omega)).elim⟩, hr⟩
  | some z =>
    rw [if_pos (by simp), b_leq] at hr
    refine ⟨decide (z.toNat ≤ y.toNat), ?_, hr⟩
    rw [decide_eq_true_eq]
    exact ⟨fun h => ⟨z, h1.1, h1.2.1, h⟩, fun ⟨t, a, b, c⟩ => Nat.le_trans (h1.2.2.2 t a b) c⟩
end Go.AM.N14
/- Settle: the tightest fact with the same words. -/
set_option linter.unusedVariables false
set_option linter.unusedSimpArgs false
namespace Go.AM.N14
open Go Go.AM
abbrev F0 : Fct := ⟨0, 0#64, 0#64, 0#64, 0#64⟩
section
variable {α : Type}
theorem b_nil (k : Value → Option α) : pBuild Go.Proofs.Tryd.prog 24 [] k = k F0.val := by kernel_rfl
theorem agg_cells (f : Fct) : Value.agg (cellsL f.val).toArray = f.val := rfl
theorem V0_len : V0.length = 5 := rfl
theorem V0_val : Value.agg ([Value.int .i64 0, .int .u64 0, .int .u64 0, .int .u64 0, .int .u64 0] : List Value).toArray = F0.val := rfl
theorem sp_0 (f : Fct) (k : List Value → Option α) : pSplice 5 [.int .i64 0, .int .u64 0, .int .u64 0, .int .u64 0, .int .u64 0] 0 f.val k = k (cellsL f.val) := sp_all f _ rfl k
theorem sp_f (f g : Fct) (k : List Value → Option α) : pSplice 5 (cellsL g.val) 0 f.val k = k (cellsL f.val) := sp_all f _ rfl k
end
/-- A fact is settled. -/
structure Stl (f g : Fct) : Prop where
  w : g.w = f.w
  lo : Mem f g.least
  hi : Mem f g.top
  all : ∀ t, Mem f t → g.least.toNat ≤ t.toNat ∧ t.toNat ≤ g.top.toNat
  one : ∀ j, g.one.getLsbD j = true ↔ (j < wd f.w ∧ ∀ t, Mem f t → t.getLsbD j = true)
  zero : ∀ j, g.zero.getLsbD j = true ↔ (j < wd f.w ∧ ∀ t, Mem f t → t.getLsbD j = false)
/-- Up to a bit. -/
structure Inv33 (f g : Fct) (lo hi : W64) (i : Nat) : Prop where
  w : g.w = f.w
  least : g.least = lo
  top : g.top = hi
  one : ∀ j, g.one.getLsbD j = true ↔ (j < i ∧ ∀ t, Mem f t → t.getLsbD j = true)
  zero : ∀ j, g.zero.getLsbD j = true ↔ (j < i ∧ ∀ t, Mem f t → t.getLsbD j = false)
theorem bit_put (o : W64) (i j : Nat) (hi : i < 64) : (o ||| (1#64) <<< i).getLsbD j = (o.getLsbD j || decide (j = i)) := by
  rw [BitVec.getLsbD_or, bit_one i j hi]
theorem fit_one {o z t : W64} {i : Nat} (hi : i < 64) : Fit (o ||| (1#64) <<< i) z t ↔ Fit o z t ∧ t.getLsbD i = true := by
  constructor
  · intro h
    refine ⟨fun j => ⟨fun hj => (h j).1 (by rw [bit_put o i j hi, hj]; rfl), (h j).2⟩, (h i).1 (by rw [bit_put o i i hi]; simp)⟩
  · rintro ⟨h, ht⟩ j
    refine ⟨fun hj => ?_, (h j).2⟩
    rw [bit_put o i j hi] at hj
    by_cases e : j = i
    · subst e; exact ht
    · exact (h j).1 (by simpa [e] using hj)
theorem fit_zero {o z t : W64} {i : Nat} (hi : i < 64) : Fit o (z ||| (1#64) <<< i) t ↔ Fit o z t ∧ t.getLsbD i = false := by
  constructor
  · intro h
    refine ⟨fun j => ⟨(h j).1, fun hj => (h j).2 (by rw [bit_put z i j hi, hj]; rfl)⟩, (h i).2 (by rw [bit_put z i i hi]; simp)⟩
  · rintro ⟨h, ht⟩ j
    refine ⟨(h j).1, fun hj => ?_⟩
    rw [bit_put z i j hi] at hj
    by_cases e : j = i
    · subst e; exact ht
    · exact (h j).2 (by simpa [e] using hj)
theorem and_one_ne {o : W64} {i : Nat} (hi : i < 64) : (o &&& (1#64) <<< i = 0#64) ↔ o.getLsbD i = false := by
  constructor
  · intro h
    have := congrArg (fun b => BitVec.getLsbD b i) h
    simp only [BitVec.getLsbD_and, bit_one i i hi, BitVec.getLsbD_zero] at this
    simpa using this
  · intro h
    refine bit_eq fun j => ?_
    rw [BitVec.getLsbD_and, bit_one i j hi, BitVec.getLsbD_zero]
    by_cases e : j = i
    · subst e; rw [h]; rfl
    · simp [e]
theorem inv_one {f g : Fct} {lo hi : W64} {i : Nat} (h : Inv33 f g lo hi i) (h64 : i < 64) (hm : Mem f lo) (ha : ∀ t, Mem f t → t.getLsbD i = true) : Inv33 f { g with one := g.one ||| (1#64) <<< i } lo hi (i + 1) := by
  refine ⟨h.w, h.least, h.top, fun j => ?_, fun j => ?_⟩
  · show (g.one ||| (1#64) <<< i).getLsbD j = true ↔ _
    rw [bit_put _ _ _ h64, Bool.or_eq_true, h.one j, decide_eq_true_eq]
    constructor
    · rintro (⟨a, b⟩ | rfl)
      · exact ⟨by omega, b⟩
      · exact ⟨by omega, ha⟩
    · rintro ⟨a, b⟩
      by_cases e : j = i
      · exact .inr e
      · exact .inl ⟨by omega, b⟩
  · rw [h.zero j]
    constructor
    · exact fun ⟨a, b⟩ => ⟨by omega, b⟩
    · rintro ⟨a, b⟩
      refine ⟨?_, b⟩
      by_cases e : j = i
      · subst e; have := ha lo hm; rw [b lo hm] at this; cases this
      · omega
theorem inv_zero {f g : Fct} {lo hi : W64} {i : Nat} (h : Inv33 f g lo hi i) (h64 : i < 64) (hm : Mem f lo) (ha : ∀ t, Mem f t → t.getLsbD i = false) : Inv33 f { g with zero := g.zero ||| (1#64) <<< i } lo hi (i + 1) := by
  refine ⟨h.w, h.least, h.top, fun j => ?_, fun j => ?_⟩
  · rw [h.one j]
    constructor
    · exact fun ⟨a, b⟩ => ⟨by omega, b⟩
    · rintro ⟨a, b⟩
      refine ⟨?_, b⟩
      by_cases e : j = i
      · subst e; have := ha lo hm; rw [b lo hm] at this; cases this
      · omega
  · show (g.zero ||| (1#64) <<< i).getLsbD j = true ↔ _
    rw [bit_put _ _ _ h64, Bool.or_eq_true, h.zero j, decide_eq_true_eq]
    constructor
    · rintro (⟨a, b⟩ | rfl)
      · exact ⟨by omega, b⟩
      · exact ⟨by omega, ha⟩
    · rintro ⟨a, b⟩
      by_cases e : j = i
      · exact .inr e
      · exact .inl ⟨by omega, b⟩
theorem inv_same {f g : Fct} {lo hi : W64} {i : Nat} (h : Inv33 f g lo hi i) {t u : W64} (ht : Mem f t) (hu : Mem f u) (h1 : t.getLsbD i = true) (h2 : u.getLsbD i = false) : Inv33 f g lo hi (i + 1) := by
  refine ⟨h.w, h.least, h.top, fun j => ?_, fun j => ?_⟩
  · rw [h.one j]
    constructor
    · exact fun ⟨a, b⟩ => ⟨by omega, b⟩
    · rintro ⟨a, b⟩
      refine ⟨?_, b⟩
      by_cases e : j = i
      · subst e; have := b u hu; rw [h2] at this; cases this
      · omega
  · rw [h.zero j]
    constructor
    · exact fun ⟨a, b⟩ => ⟨by omega, b⟩
    · rintro ⟨a, b⟩
      refine ⟨?_, b⟩
      by_cases e : j = i
      · subst e; have := b t ht; rw [h1] at this; cases this
      · omega
theorem put_le {o : W64} {i n : Nat} (hn : n ≤ 64) (hi : i < n) (ho : o.toNat ≤ (msk n).toNat) : (o ||| (1#64) <<< i).toNat ≤ (msk n).toNat := (le_msk hn).2 fun j hj => by
  rw [bit_put o i j (by omega), (le_msk hn).1 ho j hj]; simp; omega
theorem s33_step {f : Fct} (hf : f.May) {lo hi : W64} (hlo : Mem f lo) (hhi : Mem f hi) (hall : ∀ t, Mem f t ↔ (Fit f.one f.zero t ∧ lo.toNat ≤ t.toNat ∧ t.toNat ≤ hi.toNat)) {g : Fct} {i : Nat} (h : i < wd f.w) (hI : Inv33 f g lo hi i) (H : Hp) :
    ∃ g', Inv33 f g' lo hi (i + 1) ∧ s33_1 R f.val (wv lo) (wv hi) (.int .i64 ((wd f.w : Nat) : Int)) [.int .i64 (i : Int), g.val] H = some (.next, [.int .i64 ((i + 1 : Nat) : Int), g'.val], H) := by
  have hn := wd_le hf.w64
  have hle := hlo.le hf
  have hhe := hhi.le hf
  have w1 : ({ f with one := f.one ||| (1#64) <<< i, least := 0#64, top := 0#64 } : Fct).w = f.w := rfl
  obtain ⟨b1, e1, q1⟩ := c46 (f := ⟨f.w, f.one ||| (1#64) <<< i, f.zero, 0#64, 0#64⟩) hf.w0 hf.w64 (put_le hn h hf.one) hf.zero hle hhe H
  obtain ⟨b2, e2, q2⟩ := c46 (f := ⟨f.w, f.one, f.zero ||| (1#64) <<< i, 0#64, 0#64⟩) hf.w0 hf.w64 hf.one (put_le hn h hf.zero) hle hhe H
  have hs : s33_1 R f.val (wv lo) (wv hi) (.int .i64 ((wd f.w : Nat) : Int)) [.int .i64 (i : Int), g.val] H =
      (if f.one.getLsbD i = true then some (.next, [.int .i64 ((i + 1 : Nat) : Int), ({ g with one := g.one ||| (1#64) <<< i } : Fct).val], H)
       else if f.zero.getLsbD i = true then some (.next, [.int .i64 ((i + 1 : Nat) : Int), ({ g with zero := g.zero ||| (1#64) <<< i } : Fct).val], H)
       else if b1 = false then some (.next, [.int .i64 ((i + 1 : Nat) : Int), ({ g with zero := g.zero ||| (1#64) <<< i } : Fct).val], H)
       else if b2 = false then some (.next, [.int .i64 ((i + 1 : Nat) : Int), ({ g with one := g.one ||| (1#64) <<< i } : Fct).val], H)
       else some (.next, [.int .i64 ((i + 1 : Nat) : Int), g.val], H)) := by
    unfold s33_1
    simp only [List.getD_cons_zero, List.drop_succ_cons, List.drop_zero, s_lss, s_bool, s_br, decide_eq_true_eq, cu64 i (by omega), u_1, u_0, b_shl, f_w, f_one, f_zero, b_and, b_neq, b_or, and_one_ne (show i < 64 by omega), s_add, q_i64 (x := (i : Int) + 1) (by omega) (by omega),
      sp_one, sp_zero, agg_cells, b_w3, s_call q1, s_call q2, s_not]
    rw [if_pos (by omega)]
    have c : ((i : Int) + 1) = ((i + 1 : Nat) : Int) := by omega
    rw [c]
    cases f.one.getLsbD i <;> cases f.zero.getLsbD i <;> cases b1 <;> cases b2 <;> simp
  rw [hs]
  by_cases h1 : f.one.getLsbD i = true
  · rw [if_pos h1]
    exact ⟨_, inv_one hI (by omega) hlo fun t ht => (ht.1 i).1 h1, rfl⟩
  rw [if_neg h1]
  by_cases h2 : f.zero.getLsbD i = true
  · rw [if_pos h2]
    exact ⟨_, inv_zero hI (by omega) hlo fun t ht => (ht.1 i).2 h2, rfl⟩
  rw [if_neg h2]
  by_cases h3 : b1 = false
  · rw [if_pos h3]
    refine ⟨_, inv_zero hI (by omega) hlo fun t ht => ?_, rfl⟩
    cases q : t.getLsbD i with
    | false => rfl
    | true =>
      have := (hall t).1 ht
      rw [e1.2 ⟨t, (fit_one (by omega)).2 ⟨this.1, q⟩, this.2⟩] at h3; cases h3
  rw [if_neg h3]
  by_cases h4 : b2 = false
  · rw [if_pos h4]
    refine ⟨_, inv_one hI (by omega) hlo fun t ht => ?_, rfl⟩
    cases q : t.getLsbD i with
    | true => rfl
    | false =>
      have := (hall t).1 ht
      rw [e2.2 ⟨t, (fit_zero (by omega)).2 ⟨this.1, q⟩, this.2⟩] at h4; cases h4
  rw [if_neg h4]
  obtain ⟨t, t1, t2⟩ := e1.1 (by simpa using h3)
  obtain ⟨u, u1, u2⟩ := e2.1 (by simpa using h4)
  obtain ⟨t1, t3⟩ := (fit_one (by omega)).1 t1
  obtain ⟨u1, u3⟩ := (fit_zero (by omega)).1 u1
  exact ⟨g, inv_same hI ((hall t).2 ⟨t1, t2⟩) ((hall u).2 ⟨u1, u2⟩) t3 u3, rfl⟩
theorem loop33 {f : Fct} (hf : f.May) {lo hi : W64} (hlo : Mem f lo) (hhi : Mem f hi) (hall : ∀ t, Mem f t ↔ (Fit f.one f.zero t ∧ lo.toNat ≤ t.toNat ∧ t.toNat ≤ hi.toNat)) (H : Hp) : ∀ (m i : Nat) (g : Fct), i + m = wd f.w → Inv33 f g lo hi i →
    ∃ g', Inv33 f g' lo hi (wd f.w) ∧ loopD (s33_1 R f.val (wv lo) (wv hi) (.int .i64 ((wd f.w : Nat) : Int))) [.int .i64 (i : Int), g.val] H = some (.exit 0, [.int .i64 ((wd f.w : Nat) : Int), g'.val], H)
  | 0, i, g, hm, hI => by
    have : i = wd f.w := by omega
    subst this
    refine ⟨g, hI, ?_⟩
    rw [loopD_eq]
    have : s33_1 R f.val (wv lo) (wv hi) (.int .i64 ((wd f.w : Nat) : Int)) [.int .i64 ((wd f.w : Nat) : Int), g.val] H = some (.exit 0, [.int .i64 ((wd f.w : Nat) : Int), g.val], H) := by
      unfold s33_1
      simp only [List.getD_cons_zero, List.drop_succ_cons, List.drop_zero, s_lss, s_bool, s_br, decide_eq_true_eq, agg_cells]
      rw [if_neg (by omega)]
    rw [this]; rfl
  | m + 1, i, g, hm, hI => by
    obtain ⟨g1, h1, h2⟩ := s33_step hf hlo hhi hall (by omega) hI H
    obtain ⟨g2, h3, h4⟩ := loop33 hf hlo hhi hall H m (i + 1) g1 (by omega) h1
    refine ⟨g2, h3, ?_⟩
    rw [loopD_eq, h2]
    exact h4
/-- settle. -/
theorem c33 {f : Fct} (hf : f.May) (H : Hp) : (∃ g, Stl f g ∧ R 33 [f.val] H = some (.tuple #[g.val, .bool true], H)) ∨ ((∀ t, ¬ Mem f t) ∧ R 33 [f.val] H = some (.tuple #[F0.val, .bool false], H)) := by
  have hn := wd_le hf.w64
  obtain ⟨r, u1, u2⟩ := c44 hf.w0 hf.w64 hf.one hf.zero hf.least H
  obtain ⟨s, b, d1, d2, d3⟩ := c45 hf.w0 hf.w64 hf.one hf.zero hf.top H
  have hr := (r33 E14 rfl f.val H).trans (k33 _ _ _)
  rw [f_all, f_least, s_call u2] at hr
  unfold upV at hr
  rw [q_ext0, q_ext1, f_all, f_top, s_call d3, q_ext0, q_ext1] at hr
  simp only [s_not, s_bool, s_br, b_nil, sp_0, f_all, f_least, f_top, b_gtr, decide_eq_true_eq, V0_val] at hr
  cases r with
  | none =>
    rw [Option.isSome_none, if_pos (by decide), s_bind, s_ret] at hr
    exact .inr ⟨fun t ht => u1 t ht.1 ht.2.1 (ht.le hf), hr⟩
  | some lo =>
    rw [Option.isSome_some, if_neg (by decide)] at hr
    cases s with
    | none =>
      rw [Option.isSome_none, if_pos (by decide), s_bind, s_ret] at hr
      exact .inr ⟨fun t ht => d1 t ht.1 ht.2.2, hr⟩
    | some hi =>
      obtain rfl : b = hi := d2 hi rfl
      rw [Option.isSome_some, if_neg (by decide), Option.getD_some] at hr
      by_cases h1 : b.toNat < lo.toNat
      · rw [if_pos h1, s_bind, s_ret] at hr
        refine .inr ⟨fun t ht => ?_, hr⟩
        have := u1.2.2.2 t ht.1 ht.2.1
        have := d1.2.2 t ht.1 ht.2.2
        omega
      rw [if_neg h1] at hr
      by_cases h2 : f.top.toNat < f.least.toNat
      · rw [if_pos h2, s_bind, s_ret] at hr
        exact .inr ⟨fun t ht => by have := ht.2.1; have := ht.2.2; omega, hr⟩
      rw [if_neg h2, s_bind, s_next] at hr
      have hlo : Mem f lo := ⟨u1.1, u1.2.1, by have := d1.2.1; omega⟩
      have hhi : Mem f b := ⟨d1.1, by have := u1.2.1; omega, d1.2.1⟩
      have hall : ∀ t, Mem f t ↔ (Fit f.one f.zero t ∧ lo.toNat ≤ t.toNat ∧ t.toNat ≤ b.toNat) := fun t =>
        ⟨fun ht => ⟨ht.1, u1.2.2.2 t ht.1 ht.2.1, d1.2.2 t ht.1 ht.2.2⟩, fun ht => ⟨ht.1, by have := u1.2.1; omega, by have := d1.2.1; omega⟩⟩
      have hI0 : Inv33 f ⟨f.w, 0#64, 0#64, lo, b⟩ lo b 0 := ⟨rfl, rfl, rfl, fun j => by simp, fun j => by simp⟩
      obtain ⟨g, g1, g2⟩ := loop33 hf hlo hhi hall H (wd f.w) 0 ⟨f.w, 0#64, 0#64, lo, b⟩ (by omega) hI0
      rw [f_w, b_wlt, sp_0, f_w, s_call (c26 hf.w64 H), f_w, s_call (c43 f.w H), agg_cells] at hr
      have g2' : loopD (s33_1 R f.val (wv lo) (wv b) (.int .i64 ((wd f.w : Nat) : Int))) [.int .i64 0, Fct.val ⟨f.w, 0#64, 0#64, lo, b⟩] H = some (.exit 0, [.int .i64 ((wd f.w : Nat) : Int), g.val], H) := g2
      rw [g2', s_bind, s_exit] at hr
      have gone : g.one &&& msk (wd f.w) = g.one := bit_eq fun j => by
        rw [BitVec.getLsbD_and, bit_msk]
        cases hj : g.one.getLsbD j with
        | false => rfl
        | true => have := ((g1.one j).1 hj).1; simp [this]; omega
      simp only [s_onExit, List.drop_succ_cons, List.drop_zero, List.getD_cons_zero, f_one, b_and, gone, sp_one, f_all, sp_f, sp_0] at hr
      refine .inl ⟨g, ⟨g1.w, by rw [g1.least]; exact hlo, by rw [g1.top]; exact hhi, fun t ht => ?_, g1.one, g1.zero⟩, ?_⟩
      · have := (hall t).1 ht
        rw [g1.least, g1.top]; exact this.2
      · exact hr
end Go.AM.N14
/- Facts are held against each other; Settle, settled. -/
set_option linter.unusedVariables false
set_option linter.unusedSimpArgs false
namespace Go.AM.N14
open Go Go.AM
def thenF (b : Bool) (k : Option Bool) : Option Bool := match some b with | some true => k | r => r
theorem eq24c (f g : Fct) : eqT Go.Proofs.Tryd.prog 10000 24 f.val g.val =
    thenF (f.w == g.w) (thenF ((f.one.toNat : Int) == (g.one.toNat : Int)) (thenF ((f.zero.toNat : Int) == (g.zero.toNat : Int)) (thenF ((f.least.toNat : Int) == (g.least.toNat : Int)) (thenF ((f.top.toNat : Int) == (g.top.toNat : Int)) (some true))))) := by kernel_rfl
theorem thenF_eq (b : Bool) (c : Bool) : thenF b (some c) = some (b && c) := by cases b <;> rfl
instance : DecidableEq Fct := fun f g => decidable_of_iff (f.w = g.w ∧ f.one = g.one ∧ f.zero = g.zero ∧ f.least = g.least ∧ f.top = g.top) (by
  cases f; cases g; simp)
theorem eq24 (f g : Fct) : eqT Go.Proofs.Tryd.prog 10000 24 f.val g.val = some (decide (f = g)) := by
  rw [eq24c]
  have key : ∀ a b : W64, ((a.toNat : Int) == (b.toNat : Int)) = decide (a = b) := fun a b => by
    rw [Bool.eq_iff_iff, decide_eq_true_eq]
    simp only [beq_iff_eq]
    exact ⟨fun h => BitVec.eq_of_toNat_eq (by omega), fun h => by rw [h]⟩
  have keyw : (f.w == g.w) = decide (f.w = g.w) := by rw [Bool.eq_iff_iff, decide_eq_true_eq]; simp
  simp only [key, keyw, thenF_eq]
  congr 1
  rw [Bool.eq_iff_iff]
  obtain ⟨w, a, b, c, d⟩ := f
  obtain ⟨w', a', b', c', d'⟩ := g
  simp
section
variable {α : Type}
theorem grd24 : Go.Proofs.Tryd.prog.eqGuardType Go.Proofs.Tryd.prog.depth 24 = false := by kernel_rfl
theorem eq24m (f g : Fct) : eqT Go.Proofs.Tryd.prog Op.maxDepth 24 f.val g.val = some (decide (f = g)) := by
  have e : Op.maxDepth = 10000 := rfl
  rw [e]; exact eq24 f g
theorem f_eqOp (f g : Fct) : eqOp Go.Proofs.Tryd.prog 24 f.val g.val = some (decide (f = g)) := by
  have h := eq24m f g
  unfold eqOp Fct.val
  simp only [grd24]
  exact h
theorem f_eql (f g : Fct) (k : Value → Option α) : pBin Go.Proofs.Tryd.prog .eql 24 f.val g.val k = k (.bool (decide (f = g))) := by
  have h := f_eqOp f g
  unfold Fct.val at h
  unfold pBin binV Fct.val
  simp only [h]
theorem f_neq (f g : Fct) (k : Value → Option α) : pBin Go.Proofs.Tryd.prog .neq 24 f.val g.val k = k (.bool (!decide (f = g))) := by
  have h := f_eqOp f g
  unfold Fct.val at h
  unfold pBin binV Fct.val
  simp only [h]
end
/-! ### What a settled fact is -/
theorem Stl.fit {f g : Fct} (hf : f.May) (h : Stl f g) {t : W64} (ht : Fit g.one g.zero t) : Fit f.one f.zero t := by
  have hn := wd_le hf.w64
  intro j
  constructor
  · intro hj
    refine (ht j).1 ((h.one j).2 ⟨?_, fun t ht => (ht.1 j).1 hj⟩)
    rcases Nat.lt_or_ge j (wd f.w) with q | q
    · exact q
    · rw [(le_msk hn).1 hf.one j q] at hj; cases hj
  · intro hj
    refine (ht j).2 ((h.zero j).2 ⟨?_, fun t ht => (ht.1 j).2 hj⟩)
    rcases Nat.lt_or_ge j (wd f.w) with q | q
    · exact q
    · rw [(le_msk hn).1 hf.zero j q] at hj; cases hj
theorem Stl.mem {f g : Fct} (hf : f.May) (h : Stl f g) (t : W64) : Mem g t ↔ Mem f t := by
  constructor
  · intro ht
    exact ⟨h.fit hf ht.1, Nat.le_trans h.lo.2.1 ht.2.1, Nat.le_trans ht.2.2 h.hi.2.2⟩
  · intro ht
    exact ⟨fun j => ⟨fun hj => ((h.one j).1 hj).2 t ht, fun hj => ((h.zero j).1 hj).2 t ht⟩, h.all t ht⟩
theorem Stl.may {f g : Fct} (hf : f.May) (h : Stl f g) : g.May := by
  have hn := wd_le hf.w64
  refine ⟨by rw [h.w]; exact hf.w0, by rw [h.w]; exact hf.w64, ?_, ?_, by rw [h.w]; exact h.lo.le hf, by rw [h.w]; exact h.hi.le hf⟩
  · rw [h.w]
    refine (le_msk hn).2 fun j hj => ?_
    cases q : g.one.getLsbD j with
    | false => rfl
    | true => have := ((h.one j).1 q).1; omega
  · rw [h.w]
    refine (le_msk hn).2 fun j hj => ?_
    cases q : g.zero.getLsbD j with
    | false => rfl
    | true => have := ((h.zero j).1 q).1; omega
theorem bool_iff {a b : Bool} (h : a = true ↔ b = true) : a = b := Bool.eq_iff_iff.2 h
/-- Two settled facts with the same words are one. -/
theorem Stl.same {f f' g h : Fct} (hw : f.w = f'.w) (hm : ∀ t, Mem f t ↔ Mem f' t) (h1 : Stl f g) (h2 : Stl f' h) : g = h := by
  have e1 : g.w = h.w := by rw [h1.w, h2.w, hw]
  have e2 : g.least = h.least := BitVec.eq_of_toNat_eq (by
    have := (h1.all h.least ((hm _).2 h2.lo)).1
    have := (h2.all g.least ((hm _).1 h1.lo)).1
    omega)
  have e3 : g.top = h.top := BitVec.eq_of_toNat_eq (by
    have := (h1.all h.top ((hm _).2 h2.hi)).2
    have := (h2.all g.top ((hm _).1 h1.hi)).2
    omega)
  have e4 : g.one = h.one := bit_eq fun j => bool_iff (by
    rw [h1.one, h2.one, hw]
    exact ⟨fun ⟨a, b⟩ => ⟨a, fun t ht => b t ((hm t).2 ht)⟩, fun ⟨a, b⟩ => ⟨a, fun t ht => b t ((hm t).1 ht)⟩⟩)
  have e5 : g.zero = h.zero := bit_eq fun j => bool_iff (by
    rw [h1.zero, h2.zero, hw]
    exact ⟨fun ⟨a, b⟩ => ⟨a, fun t ht => b t ((hm t).2 ht)⟩, fun ⟨a, b⟩ => ⟨a, fun t ht => b t ((hm t).1 ht)⟩⟩)
  cases g; cases h
  simp only at e1 e2 e3 e4 e5
  rw [e1, e2, e3, e4, e5]
/-- The answer of Settle. -/
def SetR (f g : Fct) (e : Int) : Prop := (¬ f.May ∧ g = F0 ∧ e = 5) ∨ (f.May ∧ (∀ t, ¬ Mem f t) ∧ g = F0 ∧ e = 1) ∨ (f.May ∧ Stl f g ∧ e = 0)
theorem c20 (f : Fct) (H : Hp) : ∃ g e, SetR f g e ∧ R 20 [f.val] H = some (.tuple #[g.val, .int .i64 e], H) := by
  have hr := r20 E14 rfl f.val H
  unfold m20 at hr
  rw [f_all, s_call (c19 f H), s_not, s_bool, s_br] at hr
  by_cases hf : f.May
  case neg =>
    rw [if_pos (by simp [hf]), b_nil, sp_0, f_all] at hr
    exact ⟨F0, 5, .inl ⟨hf, rfl, rfl⟩, hr⟩
  rw [if_neg (by simp [hf]), f_all] at hr
  rcases c33 hf H with ⟨g, h1, h2⟩ | ⟨h1, h2⟩
  · rw [s_call h2, q_ext0, q_ext1, sp_0, s_not, s_bool, s_br, if_neg (by decide), f_all, sp_0, f_all] at hr
    exact ⟨g, 0, .inr (.inr ⟨hf, h1, rfl⟩), hr⟩
  · rw [s_call h2, q_ext0, q_ext1, sp_0, s_not, s_bool, s_br, if_pos (by decide), b_nil, sp_0, f_all] at hr
    exact ⟨F0, 1, .inr (.inl ⟨hf, h1, rfl, rfl⟩), hr⟩
theorem c13 (v : Value) (H : Hp) : R 13 [v] H = some (v, H) := r13 E14 rfl v H
theorem c7 (f : Fct) (H : Hp) : ∃ g e, SetR f g e ∧ R 7 [f.val] H = some (.tuple #[g.val, .bool (decide (e = 0))], H) := by
  obtain ⟨g, e, h1, h2⟩ := c20 f H
  refine ⟨g, e, h1, ?_⟩
  refine (r7 E14 rfl _ H).trans ?_
  unfold m7
  rw [f_all, s_call h2, q_ext0, q_ext1, sp_0, f_all, s_call (c13 _ H), s_eql, sp_0, f_all]
end Go.AM.N14
/- The abstract machine: arguments. -/
set_option linter.unusedVariables false
namespace Go.AM
open Go Go.ChangeShapes Go.WideShapes Go.ChangeAt Go.RowKit

inductive Sc where
  | bool | int (k : IntKind) | str
def okSc : Sc → Value → Prop
  | .bool, v => ∃ b, v = .bool b
  | .int k, v => ∃ n, v = .int k n ∧ k.min ≤ n ∧ n ≤ k.max
  | .str, v => ∃ s : ByteArray, v = .string s
theorem okSc.rel {k : Sc} {v : Value} (h : okSc k v) (β : Bt) : VRel β v v := by
  cases k with
  | bool => obtain ⟨b, rfl⟩ := h; exact .bool b
  | int k => obtain ⟨n, rfl, _⟩ := h; exact .int k n
  | str => obtain ⟨s, rfl⟩ := h; exact .string s

/-- The cells of a type that holds nothing but truths, numbers and texts. -/
def flatFs (P : Program) (c : TypeId → Option (List Sc)) : List Field → Nat → Option (List Sc)
  | [], _ => some []
  | f :: fs, off => match c f.type with
    | none => none
    | some ks => match Nat.beq f.offset off && Nat.beq ks.length (P.cellsOf f.type) with
      | true => match flatFs P c fs (off + ks.length) with
        | some r => some (ks ++ r)
        | none => none
      | false => none
def flat (P : Program) : Nat → TypeId → Option (List Sc)
  | 0, _ => none
  | d + 1, t => match P.underlying t with
    | some .bool => some [.bool]
    | some (.int k) => some [.int k]
    | some .string => some [.str]
    | some (.struct fs) => match flatFs P (flat P d) fs.toList 0 with
      | some ks => match Nat.beq ks.length (P.cellsOf t) with
        | true => some ks
        | false => none
      | none => none
    | _ => none

def OkL (ks : List Sc) (cs : List Value) : Prop := cs.length = ks.length ∧ ∀ (j : Nat) k, ks[j]? = some k → ∃ v, cs[j]? = some v ∧ okSc k v
theorem OkL.one {k : Sc} {v : Value} (h : okSc k v) : OkL [k] [v] := ⟨rfl, fun j k' hk => by
  cases j with
  | zero => cases hk; exact ⟨v, rfl, h⟩
  | succ j => cases hk⟩

variable {HH : Type} {enc : TypeId × Value → HH} {P : Program} {w : World} {base : Nat} {sp : Nat → Bool} {held : Bool}

theorem flatFs_ok {n : Nat} {c : TypeId → Option (List Sc)} (hc : ∀ t ks cs x, c t = some ks → DataW.trod enc P w base sp held n t cs = some x → OkL ks cs) {cs : List Value} :
    ∀ (fs : List Field) (off : Nat) (ks : List Sc), flatFs P c fs off = some ks → (∀ f ∈ fs, ∃ x, DataW.trod enc P w base sp held n f.type ((cs.drop f.offset).take (P.cellsOf f.type)) = some x) → off + ks.length ≤ cs.length →
      ∀ (j : Nat) k, ks[j]? = some k → ∃ v, cs[off + j]? = some v ∧ okSc k v
  | [], off, ks, h, _, _, j, k, hk => by cases h; cases hk
  | f :: fs, off, ks, h, hx, hl, j, k, hk => by
    unfold flatFs at h
    split at h
    · cases h
    · rename_i k1 h1
      split at h
      · rename_i hb
        rw [Bool.and_eq_true] at hb
        have ho : f.offset = off := Nat.eq_of_beq_eq_true hb.1
        have hk1 : k1.length = P.cellsOf f.type := Nat.eq_of_beq_eq_true hb.2
        split at h
        · rename_i r hr
          cases h
          obtain ⟨x, hx1⟩ := hx f (List.mem_cons_self ..)
          have hok := hc _ _ _ _ h1 hx1
          rcases Nat.lt_or_ge j k1.length with q | q
          · rw [List.getElem?_append_left q] at hk
            obtain ⟨v, hv, hs⟩ := hok.2 j k hk
            rw [List.getElem?_take] at hv
            split at hv
            · rw [List.getElem?_drop, ho] at hv
              exact ⟨v, hv, hs⟩
            · cases hv
          · rw [List.getElem?_append_right q] at hk
            simp only [List.length_append] at hl
            obtain ⟨v, hv, hs⟩ := flatFs_ok hc fs (off + k1.length) r hr (fun f hf => hx f (List.mem_cons_of_mem _ hf)) (by omega) (j - k1.length) k hk
            exact ⟨v, by rw [show off + j = off + k1.length + (j - k1.length) by omega]; exact hv, hs⟩
        · cases h
      · cases h

theorem flat_ok : ∀ (d : Nat) (t : TypeId) (ks : List Sc), flat P d t = some ks → ∀ (fuel : Nat) (cs : List Value) (x : DataW HH × List MemPlace), DataW.trod enc P w base sp held fuel t cs = some x → OkL ks cs
  | 0, t, ks, h, _, _, _, _ => by cases h
  | d + 1, t, ks, h, fuel, cs, x, hx => by
    unfold flat at h
    split at h
    · rename_i hu
      cases h
      obtain ⟨b, rfl, _⟩ := DataW.trod_bool hu hx
      exact OkL.one ⟨b, rfl⟩
    · rename_i k hu
      cases h
      obtain ⟨n, rfl, _, hw⟩ := DataW.trod_int hu hx
      refine OkL.one ⟨n, rfl, ?_⟩
      simpa [Lit.wf] using hw
    · rename_i hu
      cases h
      obtain ⟨s, rfl, _⟩ := DataW.trod_string hu hx
      exact OkL.one ⟨s, rfl⟩
    · rename_i fs hu
      split at h
      · rename_i k1 hf
        split at h
        · rename_i hb
          cases h
          have hlen : ks.length = P.cellsOf t := Nat.eq_of_beq_eq_true hb
          obtain ⟨xs, n, rfl, _, hl, hxl, hall⟩ := DataW.trod_struct hu hx
          refine ⟨by omega, fun j k hk => ?_⟩
          obtain ⟨v, hv, hs⟩ := flatFs_ok (n := n) (fun t ks cs x h1 h2 => flat_ok d t ks h1 n cs x h2) (cs := cs) fs.toList 0 ks hf (fun f hf => by
            obtain ⟨i, hi, rfl⟩ := List.getElem_of_mem hf
            have hi' : i < fs.size := by simpa using hi
            have := hall i fs.toList[i] (by simp [hi'])
            rw [this]
            exact ⟨xs[i], by simp⟩) (by omega) j k hk
          exact ⟨v, by simpa using hv, hs⟩
        · cases h
      · cases h
    · cases h

/-! ### Start heaps -/
def H00 (P : Program) : Hp := ⟨P.globals.size, fun _ => none, fun _ => none⟩
def B00 (P : Program) : Bt := fun g => if g < P.globals.size then some ⟨g, 0, 0⟩ else none
theorem rel00 {W : World} (h : P.globals.size ≤ W.heap.size) : Rel P W (H00 P) (B00 P) :=
  ⟨fun i cs own hi => (by cases hi), fun i kv hi => (by cases hi), fun i j o o' x y _ hi => (by cases hi), fun i hi => ⟨rfl, by unfold B00; rw [if_neg (by have : P.globals.size ≤ i := hi; omega)]⟩,
    fun i x hx => by unfold B00 at hx; split at hx <;> cases hx; show i < _; omega, fun g hg => ⟨0, by unfold B00; rw [if_pos hg]⟩, fun i o hi => (by cases hi), fun i T hi => (by cases hi)⟩
/-- A start with package variables that are known. -/
def HFix (P : Program) (F : Nat → Option Obj) : Hp := ⟨P.globals.size, fun i => if i < P.globals.size then (F i).map .fix else none, fun _ => none⟩
theorem relFix {W : World} (h : P.globals.size ≤ W.heap.size) {F : Nat → Option Obj} (hF : ∀ i o, F i = some o → W.heap[i]? = some o) : Rel P W (HFix P F) (B00 P) ∧ (∀ i o, (HFix P F).get i = some o → o.own = false) := by
  have key : ∀ i o, (HFix P F).get i = some o → i < P.globals.size ∧ ∃ q, F i = some q ∧ o = .fix q := fun i o hi => by
    have hi : (if i < P.globals.size then (F i).map AObj.fix else none) = some o := hi
    split at hi
    · rename_i hlt
      cases hq : F i with
      | none => rw [hq] at hi; cases hi
      | some q => rw [hq] at hi; cases hi; exact ⟨hlt, q, rfl, rfl⟩
    · cases hi
  have hno : ∀ i o, (HFix P F).get i = some o → o.own = false := fun i o hi => by obtain ⟨_, q, _, rfl⟩ := key i o hi; rfl
  refine ⟨⟨fun i cs own hi => ?_, fun i kv hi => ?_, fun i j o o' x y _ hi _ ho => ?_, fun i hi => ⟨?_, by unfold B00; rw [if_neg (by have : P.globals.size ≤ i := hi; omega)]⟩,
    fun i x hx => (by unfold B00 at hx; split at hx <;> cases hx; show i < _; omega), fun g hg => ⟨0, by unfold B00; rw [if_pos hg]⟩, fun i o hi => ?_, fun i T hi => (by cases hi)⟩, hno⟩
  · obtain ⟨_, q, _, e⟩ := key i _ hi; cases e
  · obtain ⟨_, q, _, e⟩ := key i _ hi; cases e
  · rw [hno i o hi] at ho; cases ho
  · show (if i < P.globals.size then (F i).map AObj.fix else none) = none
    have : P.globals.size ≤ i := hi
    rw [if_neg (by omega)]
  · obtain ⟨h1, q, h2, e⟩ := key i _ hi
    cases e
    exact ⟨⟨i, 0, 0⟩, by unfold B00; rw [if_pos h1], hF i _ h2⟩
/-- A thing that is only read. -/
theorem Rel.addRo {W : World} {H : Hp} {β : Bt} (h : Rel P W H β) (hno : ∀ i o, H.get i = some o → o.own = false) {cs : List Value} {b s t : Nat} (hb : b < W.heap.size)
    (hc : ∀ (j : Nat) v, cs[j]? = some v → ∃ v', W.cell? ⟨b, s + j, none⟩ = some v' ∧ VRel β v v') :
    Rel P W (H.new (.cells cs false)) (β.set H.next ⟨b, s, t⟩) ∧ (∀ i o, (H.new (.cells cs false)).get i = some o → o.own = false) ∧ β.le (β.set H.next ⟨b, s, t⟩) := by
  have hf := (h.fresh H.next (Nat.le_refl _)).2
  have hle : β.le (β.set H.next ⟨b, s, t⟩) := Bt.le_set hf
  have hno' : ∀ i o, (H.new (.cells cs false)).get i = some o → o.own = false := fun i o hi => by
    rw [Hp.get_new] at hi
    split at hi
    · cases hi; rfl
    · exact hno i o hi
  refine ⟨⟨fun i ds own hi => ?_, fun i kv hi => ?_, fun i j o o' x y hij hi hj ho => (by rw [hno' i o hi] at ho; cases ho), fun i hi => ?_, fun i x hx => ?_, fun g hg => ?_, fun i o hi => (by
      rw [Hp.get_new] at hi
      split at hi
      · cases hi
      · obtain ⟨x, hx, h1⟩ := h.fix i o hi
        exact ⟨x, hle i x hx, h1⟩), fun i T hi => (h.tys i T hi).le hle⟩, hno', hle⟩
  · rw [Hp.get_new] at hi
    split at hi
    · rename_i e
      cases hi
      subst e
      exact ⟨_, Bt.set_same _ _ _, fun j v hv => by obtain ⟨v', h1, h2⟩ := hc j v hv; exact ⟨v', h1, h2.mono hle⟩, fun ho => by cases ho⟩
    · obtain ⟨x, hx, h1, h2⟩ := h.cells i ds own hi
      exact ⟨x, hle i x hx, fun j v hv => by obtain ⟨v', h3, h4⟩ := h1 j v hv; exact ⟨v', h3, h4.mono hle⟩, h2⟩
  · rw [Hp.get_new] at hi
    split at hi
    · cases hi
    · have := hno i _ hi
      cases this
  · have hi : H.next + 1 ≤ i := hi
    have := h.fresh i (by omega)
    refine ⟨?_, ?_⟩
    · rw [Hp.get_new, if_neg (by omega)]; exact this.1
    · unfold Bt.set; rw [if_neg (by omega)]; exact this.2
  · unfold Bt.set at hx
    split at hx
    · cases hx; exact hb
    · exact h.lt i x hx
  · obtain ⟨t', ht⟩ := h.glob g hg
    exact ⟨t', hle g _ ht⟩

/-! ### Slices of flat things -/
theorem mapM_get {γ δ : Type} {f : γ → Option δ} : ∀ (l : List γ) (cs : List δ), l.mapM f = some cs → cs.length = l.length ∧ ∀ (j : Nat) x, l[j]? = some x → ∃ c, cs[j]? = some c ∧ f x = some c
  | [], cs, h => by cases h; exact ⟨rfl, fun j x hx => by cases hx⟩
  | y :: l, cs, h => by
    rw [List.mapM_cons] at h
    cases hy : f y with
    | none => rw [hy] at h; cases h
    | some c =>
      rw [hy] at h
      cases hl : l.mapM f with
      | none => rw [hl] at h; cases h
      | some r =>
        rw [hl] at h
        cases h
        obtain ⟨h1, h2⟩ := mapM_get l r hl
        refine ⟨by simp [h1], fun j x hx => ?_⟩
        cases j with
        | zero => cases hx; exact ⟨c, rfl, hy⟩
        | succ j => exact h2 j x hx
theorem flatten_get {sz : Nat} : ∀ (L : List (List Value)), (∀ l ∈ L, l.length = sz) → ∀ i j, j < sz → L.flatten[i * sz + j]? = L[i]?.bind fun l => l[j]?
  | [], _, i, j, _ => by simp
  | l :: L, hL, i, j, hj => by
    have h0 := hL l (List.mem_cons_self ..)
    rw [List.flatten_cons]
    cases i with
    | zero =>
      rw [Nat.zero_mul, Nat.zero_add, List.getElem?_append_left (by omega)]
      rfl
    | succ i =>
      rw [List.getElem?_append_right (by rw [h0, Nat.succ_mul]; omega), h0, show (i + 1) * sz + j - sz = i * sz + j by rw [Nat.succ_mul]; omega]
      exact flatten_get L (fun l hl => hL l (List.mem_cons_of_mem _ hl)) i j hj
theorem flatten_length {sz : Nat} : ∀ (L : List (List Value)), (∀ l ∈ L, l.length = sz) → L.flatten.length = L.length * sz
  | [], _ => by simp
  | l :: L, hL => by
    rw [List.flatten_cons, List.length_append, hL l (List.mem_cons_self ..), flatten_length L (fun l hl => hL l (List.mem_cons_of_mem _ hl)), List.length_cons, Nat.succ_mul]
    omega

theorem arg_flats {t e : TypeId} {d : Nat} {ks : List Sc} (ht : P.underlying t = some (.slice e)) (hf : flat P d e = some ks) (hk : P.cellsOf e = ks.length) (h0 : 0 < ks.length)
    {W : World} {H : Hp} {β : Bt} (hR : Rel P W H β) (hno : ∀ i o, H.get i = some o → o.own = false) {b0 : Nat} {v' : Value} {dw : DataW HH} {ps : List MemPlace}
    (hval : Value.okWide P W .any b0 t v') (hd : DataW.Trod enc P W 0 (fun _ => true) true t v' dw ps) :
    ∃ (v : Value) (H' : Hp) (β' : Bt), Rel P W H' β' ∧ (∀ i o, H'.get i = some o → o.own = false) ∧ β.le β' ∧ VRel β' v v' ∧
      ((v = .slice none 0 0 ∧ dw = .nil ∧ H' = H) ∨
        ∃ (L : List (List Value)) (es sp : List (DataW HH)), v = .slice (some ⟨H.next, 0, some ks.length⟩) L.length L.length ∧ H' = H.new (.cells L.flatten false) ∧ (∀ l ∈ L, OkL ks l) ∧ dw = .slice es sp ∧ es.length = L.length) := by
  obtain ⟨a, len, cap, rfl⟩ := okWide_slice ht hval
  obtain ⟨fuel, hx⟩ := hd
  rcases DataW.trod_slice ht hx with ⟨h1, h2⟩ | ⟨a', len', cap', elems, rest, n, hfu, h1, h2, h3, h4, h5, h6, h7, _, _⟩
  · cases h1
    cases h2
    exact ⟨.slice none 0 0, H, β, hR, hno, Bt.le_refl _, .snil, .inl ⟨rfl, rfl, rfl⟩⟩
  · cases h1
    have hhas : W.has P .any b0 a' e cap := by
      have := hval
      unfold Value.okWide Cell.okWide Cell.ok at this
      rw [ht] at this
      exact this.2.2
    obtain ⟨_, hspot, row, cells, hshape, _⟩ := hhas
    obtain ⟨b, s, sp0⟩ := a'
    simp only at hspot
    subst hspot
    have hbl : b < W.heap.size := by
      unfold World.shape? at hshape
      cases hq : W.heap[b]? with
      | none => rw [hq] at hshape; cases hshape
      | some o => exact (Array.getElem?_eq_some_iff.1 hq).1
    have hrow : ∀ i, i < len → ∃ l : List Value, OkL ks l ∧ ∀ j u, l[j]? = some u → W.cell? ⟨b, s + (i * ks.length + j), none⟩ = some u := by
      intro i hi
      have := h7 i hi
      cases hc : W.cells? 0 ((⟨b, s, none⟩ : Addr).add (i * P.cellsOf e)) (P.cellsOf e) with
      | none =>
        rw [hc] at this
        have hlt : i < elems.length := by omega
        rw [List.getElem?_eq_getElem hlt] at this; cases this
      | some l =>
        rw [hc] at this
        have hlt : i < elems.length := by omega
        rw [List.getElem?_eq_getElem hlt] at this
        have hok := flat_ok d e ks hf n l _ this
        refine ⟨l, hok, fun j u hu => ?_⟩
        unfold World.cells? at hc
        rw [if_pos (Nat.zero_le _)] at hc
        obtain ⟨g1, g2⟩ := mapM_get _ _ hc
        have hjl : j < l.length := (List.getElem?_eq_some_iff.1 hu).1
        obtain ⟨c, g3, g4⟩ := g2 j j (by rw [List.getElem?_range]; simp at g1; omega)
        rw [hu] at g3; cases g3
        rw [hk, addr_add, addr_add] at g4
        rw [show s + (i * ks.length + j) = s + i * ks.length + j by omega]
        exact g4
    have hL : ∃ L : List (List Value), L.length = len ∧ ∀ i l, L[i]? = some l → OkL ks l ∧ ∀ j u, l[j]? = some u → W.cell? ⟨b, s + (i * ks.length + j), none⟩ = some u := by
      refine ⟨(List.range len).map fun i => if h : i < len then (hrow i h).choose else [], by simp, fun i l hl => ?_⟩
      rw [List.getElem?_map] at hl
      by_cases hi : i < len
      · rw [List.getElem?_range hi] at hl
        simp only [Option.map_some, dif_pos hi, Option.some.injEq] at hl
        subst hl
        exact (hrow i hi).choose_spec
      · rw [List.getElem?_eq_none (by simp; omega)] at hl; cases hl
    obtain ⟨L, hLl, hLp⟩ := hL
    have hLk : ∀ l ∈ L, OkL ks l := fun l hl => by
      obtain ⟨i, hi, rfl⟩ := List.getElem_of_mem hl
      exact (hLp i L[i] (by simp)).1
    have hLs : ∀ l ∈ L, l.length = ks.length := fun l hl => (hLk l hl).1
    obtain ⟨g1, g2, g3⟩ := hR.addRo hno (cs := L.flatten) (b := b) (s := s) (t := s + cap * ks.length) hbl (fun q v hv => by
      have hq : q < L.flatten.length := (List.getElem?_eq_some_iff.1 hv).1
      rw [flatten_length L hLs] at hq
      have hdm : q / ks.length * ks.length + q % ks.length = q := by rw [Nat.mul_comm]; exact Nat.div_add_mod q ks.length
      have hm := Nat.mod_lt q h0
      rw [← hdm, flatten_get L hLs _ _ hm] at hv
      cases hl : L[q / ks.length]? with
      | none => rw [hl] at hv; cases hv
      | some l =>
        rw [hl] at hv
        obtain ⟨p1, p2⟩ := hLp _ l hl
        refine ⟨v, ?_, ?_⟩
        · have := p2 (q % ks.length) v hv
          rw [hdm] at this
          exact this
        · have hkk : q % ks.length < ks.length := hm
          obtain ⟨u, hu1, hu2⟩ := p1.2 (q % ks.length) _ (List.getElem?_eq_getElem hkk)
          have hv' : l[q % ks.length]? = some v := hv
          rw [hu1] at hv'; cases hv'
          exact hu2.rel _)
    refine ⟨.slice (some ⟨H.next, 0, some ks.length⟩) L.length L.length, _, _, g1, g2, g3, ?_, .inr ⟨L, _, _, rfl, rfl, hLk, (Prod.mk.inj h2).1, by simp; omega⟩⟩
    rw [hLl]
    exact .slice _ _ _ _ _ _ _ _ (Bt.set_same _ _ _) (Nat.le_refl _) h4 (Nat.le_refl _) (fun _ => rfl)
end Go.AM
/- The chapter's examples, worked out by the kernel. -/
namespace Go.AM.N14
open Go Go.AM
theorem live_map : (runM 70 Go.Proofs.Tryd.prog orc E14 30 6 [] ⟨1, fun _ => none, fun _ => none⟩).map (·.1) = some (.bool true) := by kernel_rfl
theorem globs : Go.Proofs.Tryd.prog.globals.size = 1 := by kernel_rfl
theorem live_run : ∃ H', R 6 [] (H00 Go.Proofs.Tryd.prog) = some (.bool true, H') := by
  have e : H00 Go.Proofs.Tryd.prog = ⟨1, fun _ => none, fun _ => none⟩ := by unfold H00; rw [globs]
  rw [e]
  have h := live_map
  cases hq : runM 70 Go.Proofs.Tryd.prog orc E14 30 6 [] ⟨1, fun _ => none, fun _ => none⟩ with
  | none => rw [hq] at h; cases h
  | some r =>
    obtain ⟨v, H'⟩ := r
    rw [hq] at h
    have h : some v = some (Value.bool true) := h
    cases h
    exact ⟨H', run_of_runM hq⟩
theorem xt14 : XtC Go.Proofs.Tryd.prog orc.xt := by
  intro f e h
  have h : look none [(89, some add64)] f = some e := h
  unfold look at h
  split at h
  · rename_i q
    cases h
    have : f = 89 := (Nat.eq_of_beq_eq_true q).symm
    subst this
    exact add64_xt Go.Proofs.Tryd.func89 (by kernel_rfl) (by kernel_rfl) (by kernel_rfl) (by kernel_rfl)
  · cases h
end Go.AM.N14
/- KnownTight: the run. -/
set_option linter.unusedVariables false
set_option linter.unusedSimpArgs false
namespace Go.AM.N14
open Go Go.AM
section
variable {α : Type}
theorem u4 : Go.Proofs.Tryd.prog.underlying 4 = some .bool := Go.Proofs.Tryd.underlying4
theorem b_bneq (a b : Bool) (k : Value → Option α) : pBin Go.Proofs.Tryd.prog .neq 4 (.bool a) (.bool b) k = k (.bool (!(a == b))) := by
  have h : eqT Go.Proofs.Tryd.prog Op.maxDepth 4 (.bool a) (.bool b) = some (a == b) := by
    have e : Op.maxDepth = 9999 + 1 := rfl
    rw [e]; simp only [eqT, u4]
  unfold pBin binV eqOp
  simp only [h]
end
/-- Where the walk through all words stands. -/
structure Inv3 (f : Fct) (m a n lo hi : W64) (k : Nat) : Prop where
  one : ∀ j, a.getLsbD j = true ↔ (m.getLsbD j = true ∧ ∀ t : W64, t.toNat < k → Mem f t → t.getLsbD j = true)
  any : ∀ j, n.getLsbD j = true ↔ ∃ t : W64, t.toNat < k ∧ Mem f t ∧ t.getLsbD j = true
  lo1 : ∀ t : W64, t.toNat < k → Mem f t → lo.toNat ≤ t.toNat
  lo2 : lo = m ∨ Mem f lo
  hi1 : ∀ t : W64, t.toNat < k → Mem f t → t.toNat ≤ hi.toNat
  hi2 : hi = 0#64 ∨ Mem f hi
theorem inv3_skip {f : Fct} {m a n lo hi y : W64} (h : Inv3 f m a n lo hi y.toNat) (hy : ¬ Mem f y) : Inv3 f m a n lo hi (y.toNat + 1) := by
  have key : ∀ t : W64, t.toNat < y.toNat + 1 → Mem f t → t.toNat < y.toNat := fun t h1 h2 => by
    rcases Nat.lt_or_eq_of_le (Nat.le_of_lt_succ h1) with q | q
    · exact q
    · exact absurd (BitVec.eq_of_toNat_eq q ▸ h2) hy
  refine ⟨fun j => ?_, fun j => ?_, fun t h1 h2 => h.lo1 t (key t h1 h2) h2, h.lo2, fun t h1 h2 => h.hi1 t (key t h1 h2) h2, h.hi2⟩
  · rw [h.one j]
    exact ⟨fun ⟨a, b⟩ => ⟨a, fun t h1 h2 => b t (key t h1 h2) h2⟩, fun ⟨a, b⟩ => ⟨a, fun t h1 h2 => b t (by omega) h2⟩⟩
  · rw [h.any j]
    exact ⟨fun ⟨t, a, b, c⟩ => ⟨t, by omega, b, c⟩, fun ⟨t, a, b, c⟩ => ⟨t, key t a b, b, c⟩⟩
theorem inv3_put {f : Fct} {m a n lo hi y : W64} (hm : y.toNat ≤ m.toNat) (h : Inv3 f m a n lo hi y.toNat) (hy : Mem f y) : Inv3 f m (a &&& y) (n ||| y) (if y.toNat < lo.toNat then y else lo) y (y.toNat + 1) := by
  have key : ∀ t : W64, t.toNat < y.toNat + 1 → t.toNat < y.toNat ∨ t = y := fun t h1 => by
    rcases Nat.lt_or_eq_of_le (Nat.le_of_lt_succ h1) with q | q
    · exact .inl q
    · exact .inr (BitVec.eq_of_toNat_eq q)
  refine ⟨fun j => ?_, fun j => ?_, fun t h1 h2 => ?_, ?_, fun t h1 h2 => by omega, .inr hy⟩
  · rw [BitVec.getLsbD_and, Bool.and_eq_true, h.one j]
    constructor
    · rintro ⟨⟨a, b⟩, c⟩
      exact ⟨a, fun t h1 h2 => by
        rcases key t h1 with q | rfl
        · exact b t q h2
        · exact c⟩
    · rintro ⟨a, b⟩
      exact ⟨⟨a, fun t h1 h2 => b t (by omega) h2⟩, b y (by omega) hy⟩
  · rw [BitVec.getLsbD_or, Bool.or_eq_true, h.any j]
    constructor
    · rintro (⟨t, a, b, c⟩ | c)
      · exact ⟨t, by omega, b, c⟩
      · exact ⟨y, by omega, hy, c⟩
    · rintro ⟨t, a, b, c⟩
      rcases key t a with q | rfl
      · exact .inl ⟨t, q, b, c⟩
      · exact .inr c
  · split
    · rcases key t h1 with q | rfl
      · have := h.lo1 t q h2; omega
      · exact Nat.le_refl _
    · rcases key t h1 with q | rfl
      · exact h.lo1 t q h2
      · omega
  · split
    · exact .inr hy
    · exact h.lo2
theorem s3_step {f : Fct} (hf : f.May) {m a n lo hi y : W64} (hy : y.toNat ≤ m.toNat) (h : Inv3 f m a n lo hi y.toNat) (H : Hp) : ∃ a' n' lo' hi', Inv3 f m a' n' lo' hi' (y.toNat + 1) ∧
    s3_1 R f.val (wv m) [wv a, wv n, wv lo, wv hi, wv y] H = some (.next, [wv a', wv n', wv lo', wv hi', wv (y + 1#64)], H) := by
  by_cases hM : Mem f y
  · refine ⟨_, _, _, _, inv3_put hy h hM, ?_⟩
    unfold s3_1
    simp only [List.getD_cons_zero, List.getD_cons_succ, b_leq, s_bool, s_br, decide_eq_true_eq, f_all, s_call (c9 f y H), s_not, u_1, b_add, b_and, b_or, b_lss]
    rw [if_pos hy, if_neg (by simp [hf, hM])]
    by_cases q : y.toNat < lo.toNat
    · rw [if_pos q, if_pos q]
    · rw [if_neg q, if_neg q]
  · refine ⟨a, n, lo, hi, inv3_skip h hM, ?_⟩
    unfold s3_1
    simp only [List.getD_cons_zero, List.getD_cons_succ, b_leq, s_bool, s_br, decide_eq_true_eq, f_all, s_call (c9 f y H), s_not, u_1, b_add, b_and, b_or, b_lss]
    rw [if_pos hy, if_pos (by simp [hM])]
theorem loop3 {f : Fct} (hf : f.May) {m : W64} (hm : m.toNat < 2 ^ 32) (H : Hp) : ∀ (d : Nat) (a n lo hi y : W64), y.toNat + d = m.toNat + 1 → Inv3 f m a n lo hi y.toNat →
    ∃ a' n' lo' hi' y', Inv3 f m a' n' lo' hi' (m.toNat + 1) ∧ loopD (s3_1 R f.val (wv m)) [wv a, wv n, wv lo, wv hi, wv y] H = some (.exit 0, [wv a', wv n', wv lo', wv hi', wv y'], H)
  | 0, a, n, lo, hi, y, hd, h => by
    have e : y.toNat = m.toNat + 1 := by omega
    refine ⟨a, n, lo, hi, y, e ▸ h, ?_⟩
    rw [loopD_eq]
    have : s3_1 R f.val (wv m) [wv a, wv n, wv lo, wv hi, wv y] H = some (.exit 0, [wv a, wv n, wv lo, wv hi, wv y], H) := by
      unfold s3_1
      simp only [List.getD_cons_zero, List.getD_cons_succ, b_leq, s_bool, s_br, decide_eq_true_eq]
      rw [if_neg (by omega)]
    rw [this]; rfl
  | d + 1, a, n, lo, hi, y, hd, h => by
    obtain ⟨a1, n1, l1, h1, i1, e1⟩ := s3_step hf (show y.toNat ≤ m.toNat by omega) h H
    have ey : (y + 1#64).toNat = y.toNat + 1 := by
      rw [BitVec.toNat_add]
      show (y.toNat + 1) % 2 ^ 64 = _
      rw [Nat.mod_eq_of_lt (by omega)]
    obtain ⟨a2, n2, l2, h2, y2, i2, e2⟩ := loop3 hf hm H d a1 n1 l1 h1 (y + 1#64) (by omega) (ey ▸ i1)
    refine ⟨a2, n2, l2, h2, y2, i2, ?_⟩
    rw [loopD_eq, e1]
    exact e2
theorem run3 (f : Fct) (x : W64) : ∃ H', R 3 [f.val, wv x] (H00 Go.Proofs.Tryd.prog) = some (.bool true, H') := by
  obtain ⟨HL, hL⟩ := live_run
  obtain ⟨g, e, hs, hg⟩ := c7 f HL
  have hr := (r3 E14 rfl f.val (wv x) (H00 Go.Proofs.Tryd.prog)).trans (k3 _ _ _ _)
  rw [s_call hL, s_not, s_bool, s_br, if_neg (by decide), f_all, s_call hg, q_ext0, q_ext1, sp_0, f_all, s_call (c8 f HL), s_not, s_bool, s_br] at hr
  refine ⟨HL, ?_⟩
  rcases hs with ⟨h1, rfl, rfl⟩ | ⟨h1, h2, rfl, rfl⟩ | ⟨h1, h2, rfl⟩
  · rw [if_pos (by simp [h1]), s_not, s_bool, s_br, if_pos (by decide), f_all, b_nil, f_eql] at hr
    simpa using hr
  · rw [if_neg (by simp [h1]), s_not, s_bool, s_br, if_pos (by decide), f_all, b_nil, f_eql, s_bool, s_br, if_pos (by simp), f_all, s_call (c9 f x HL), s_not, s_bool, s_br, if_pos (by simp [h2]), f_all, f_least, s_call (c9 f f.least HL), s_not, s_bool, s_br, if_pos (by simp [h2]),
      f_all, f_top, s_call (c9 f f.top HL), s_not] at hr
    simpa [h2] using hr
  · have hgm := h2.may h1
    rw [if_neg (by simp [h1]), s_not, s_bool, s_br, if_neg (by decide), f_all] at hr
    obtain ⟨h, e', hs', hh⟩ := c7 g HL
    rcases hs' with ⟨q1, _, _⟩ | ⟨_, q2, _, _⟩ | ⟨_, q3, rfl⟩
    · exact absurd hgm q1
    · exact absurd ((h2.mem h1 _).2 h2.lo) (q2 _)
    have hgh : g = h := h2.same h2.w.symm (fun t => (h2.mem h1 t).symm) q3
    subst hgh
    have n1 : (f.May ∧ Mem f g.least) = True := eq_true ⟨h1, h2.lo⟩
    have n2 : (f.May ∧ Mem f g.top) = True := eq_true ⟨h1, h2.hi⟩
    have n3 : (decide (f.May ∧ Mem f x) == decide (g.May ∧ Mem g x)) = true := by
      have : (f.May ∧ Mem f x) ↔ (g.May ∧ Mem g x) := ⟨fun q => ⟨hgm, (h2.mem h1 x).2 q.2⟩, fun q => ⟨h1, (h2.mem h1 x).1 q.2⟩⟩
      simp [this]
    rw [s_call hh, q_ext0, q_ext1, sp_0, s_not, s_bool, s_br, if_neg (by decide), f_all, f_all, f_neq, s_bool, s_br, if_neg (by simp), f_w, f_w, s_neq, s_bool, s_br, if_neg (by simp [h2.w]), f_all, f_least, s_call (c9 f _ HL), s_not, s_bool, s_br, if_neg (by simp [n1]),
      f_all, f_top, s_call (c9 f _ HL), s_not, s_bool, s_br, if_neg (by simp [n2]), f_all, s_call (c9 f x HL), f_all, s_call (c10 g x HL), b_bneq, s_bool, s_br, if_neg (by rw [n3]; decide), s_bind, s_next, f_w, s_gtr, s_bool, s_br] at hr
    by_cases h8 : f.w > 8
    · rw [if_pos (decide_eq_true h8)] at hr
      exact hr
    rw [if_neg (by simpa using h8), f_w, s_call (c11 h1.w0 h1.w64 HL)] at hr
    have hn := wd_le h1.w64
    have h8n : wd f.w ≤ 8 := by unfold wd; omega
    have hmn := msk_nat (wd f.w) hn
    have hp : 2 ^ wd f.w ≤ 2 ^ 8 := Nat.pow_le_pow_right (by decide) h8n
    have h0 : Inv3 f (msk (wd f.w)) (msk (wd f.w)) 0#64 (msk (wd f.w)) 0#64 (0#64 : W64).toNat :=
      ⟨fun j => ⟨fun q => ⟨q, fun t ht => absurd ht (Nat.not_lt_zero _)⟩, fun q => q.1⟩, fun j => ⟨fun q => absurd q (by rw [BitVec.getLsbD_zero]; decide), fun ⟨t, ht, _⟩ => absurd ht (Nat.not_lt_zero _)⟩, fun t ht => absurd ht (Nat.not_lt_zero _), .inl rfl, fun t ht => absurd ht (Nat.not_lt_zero _), .inl rfl⟩
    obtain ⟨a, n, lo, hi, y, hI, hl⟩ := loop3 h1 (m := msk (wd f.w)) (by omega) HL ((msk (wd f.w)).toNat + 1) (msk (wd f.w)) 0#64 (msk (wd f.w)) 0#64 0#64 (by simp) h0
    have hb : ∀ t, Mem f t → t.toNat < (msk (wd f.w)).toNat + 1 := fun t ht => Nat.lt_succ_of_le (ht.le h1)
    have egl : Mem f lo := by
      rcases hI.lo2 with q | q
      · have a1 := hI.lo1 _ (hb _ h2.lo) h2.lo
        have a2 := h2.lo.le h1
        have : lo = g.least := BitVec.eq_of_toNat_eq (by rw [q] at a1 ⊢; omega)
        rw [this]; exact h2.lo
      · exact q
    have egh : Mem f hi := by
      rcases hI.hi2 with q | q
      · have a1 := hI.hi1 _ (hb _ h2.lo) h2.lo
        have : hi = g.least := BitVec.eq_of_toNat_eq (by rw [q] at a1 ⊢; have e0 : (0#64 : W64).toNat = 0 := rfl; omega)
        rw [this]; exact h2.lo
      · exact q
    have hfin : g = ⟨f.w, a, msk (wd f.w) &&& ~~~n, lo, hi⟩ := by
      have hst : Stl f ⟨f.w, a, msk (wd f.w) &&& ~~~n, lo, hi⟩ := by
        refine ⟨rfl, egl, egh, fun t ht => ⟨hI.lo1 t (hb t ht) ht, hI.hi1 t (hb t ht) ht⟩, fun j => ?_, fun j => ?_⟩
        · show a.getLsbD j = true ↔ _
          rw [hI.one j, bit_msk]
          constructor
          · rintro ⟨q, r⟩
            exact ⟨by simp at q; omega, fun t ht => r t (hb t ht) ht⟩
          · rintro ⟨q, r⟩
            exact ⟨by simp; omega, fun t _ ht => r t ht⟩
        · show (msk (wd f.w) &&& ~~~n).getLsbD j = true ↔ _
          rw [flip_bit, bit_msk, Bool.and_eq_true]
          constructor
          · rintro ⟨q, r⟩
            refine ⟨by simp at q; omega, fun t ht => ?_⟩
            cases qt : t.getLsbD j with
            | false => rfl
            | true => rw [(hI.any j).2 ⟨t, hb t ht, ht, qt⟩] at r; cases r
          · rintro ⟨q, r⟩
            refine ⟨by simp; omega, ?_⟩
            cases qn : n.getLsbD j with
            | false => rfl
            | true =>
              obtain ⟨t, t1, t2, t3⟩ := (hI.any j).1 qn
              rw [r t t2] at t3; cases t3
      exact h2.same rfl (fun _ => Iff.rfl) hst
    have hl' : loopD (s3_1 R f.val (wv (msk (wd f.w)))) [wv (msk (wd f.w)), .int .u64 0, wv (msk (wd f.w)), .int .u64 0, .int .u64 0] HL = some (.exit 0, [wv a, wv n, wv lo, wv hi, wv y], HL) := hl
    rw [hl', s_bind, s_exit, s_onExit, f_all, f_w] at hr
    simp only [List.getD_cons_zero, List.getD_cons_succ] at hr
    rw [b_andNot, b_5, f_eql, ← hfin] at hr
    simpa using hr
end Go.AM.N14
/- The known seat: the arguments. -/
set_option linter.unusedVariables false
set_option linter.unusedSimpArgs false
set_option maxRecDepth 100000
namespace Go.AM.N14
open Go Go.AM Go.ChangeShapes Go.WideShapes Go.ChangeAt Go.RowKit Go.Proofs.YtloofbfkaombbaaDoor
theorem take1 {l : List Value} {i : Nat} {v : Value} (h : (l.drop i).take 1 = [v]) : l[i]? = some v := by
  have : ((l.drop i).take 1)[0]? = some v := by rw [h]; rfl
  rwa [List.getElem?_take, if_pos (by decide), List.getElem?_drop, Nat.add_zero] at this
theorem len_cells {l : List Value} {n : Nat} {m : List Value} (hl : l.length = n) (hm : m.length = n) (h : ∀ (i : Nat) v, m[i]? = some v → l[i]? = some v) : l = m := by
  apply List.ext_getElem?
  intro i
  rcases Nat.lt_or_ge i n with q | q
  · have : m[i]? = some (m[i]'(by omega)) := List.getElem?_eq_getElem (by omega)
    rw [h i _ this, this]
  · rw [List.getElem?_eq_none (by omega), List.getElem?_eq_none (by omega)]
theorem u64_val {z : Int} (h : 0 ≤ z ∧ z ≤ 18446744073709551615) : Value.int .u64 z = wv (BitVec.ofInt 64 z) := by
  rw [← bv_wrapI, q_u64 h.1 h.2]
theorem fact_arg {HH : Type} {enc : TypeId × Value → HH} {W : World} {b0 : Nat} {v' : Value} {dw : DataW HH} {ps : List MemPlace}
    (hval : Value.okWide Go.Proofs.Tryd.prog W .any b0 24 v') (hd : DataW.Trod enc Go.Proofs.Tryd.prog W 0 (fun _ => true) true 24 v' dw ps) : ∃ f : Fct, v' = f.val := by
  obtain ⟨cs, rfl, hsz⟩ := okWide_struct Go.Proofs.Tryd.underlying24 hval
  have c24 : Go.Proofs.Tryd.prog.cellsOf 24 = 5 := by kernel_rfl
  have c3 : Go.Proofs.Tryd.prog.cellsOf 3 = 1 := by kernel_rfl
  have c22 : Go.Proofs.Tryd.prog.cellsOf 22 = 1 := by kernel_rfl
  rw [c24] at hsz
  obtain ⟨fuel, hx⟩ := hd
  obtain ⟨xs, m, _, hdw, hl, hxl, hall⟩ := DataW.trod_struct Go.Proofs.Tryd.underlying24 hx
  have hcs : cs.toList.length = 5 := by rw [Array.length_toList]; exact hsz
  have g0 := hall 0 { name := "W", type := 3, offset := 0, embedded := false, tag := "", pkgPath := "", byteOffset := 0 } rfl
  have l0 : 0 < xs.length := by rw [hxl]; decide
  rw [List.getElem?_eq_getElem l0] at g0
  try dsimp only at g0
  rw [c3] at g0
  obtain ⟨s0, e0, f0, w0⟩ := DataW.trod_int Go.Proofs.Tryd.underlying3 g0
  have t0 := take1 (l := cs.toList) e0
  have g1 := hall 1 { name := "One", type := 22, offset := 1, embedded := false, tag := "", pkgPath := "", byteOffset := 8 } rfl
  have l1 : 1 < xs.length := by rw [hxl]; decide
  rw [List.getElem?_eq_getElem l1] at g1
  try dsimp only at g1
  rw [c22] at g1
  obtain ⟨s1, e1, f1, w1⟩ := DataW.trod_int Go.Proofs.Tryd.underlying22 g1
  have t1 := take1 (l := cs.toList) e1
  have w1 : 0 ≤ s1 ∧ s1 ≤ 18446744073709551615 := by simpa [Lit.wf, IntKind.min, IntKind.max, IntKind.signed, IntKind.bits] using w1
  have g2 := hall 2 { name := "Zero", type := 22, offset := 2, embedded := false, tag := "", pkgPath := "", byteOffset := 16 } rfl
  have l2 : 2 < xs.length := by rw [hxl]; decide
  rw [List.getElem?_eq_getElem l2] at g2
  try dsimp only at g2
  rw [c22] at g2
  obtain ⟨s2, e2, f2, w2⟩ := DataW.trod_int Go.Proofs.Tryd.underlying22 g2
  have t2 := take1 (l := cs.toList) e2
  have w2 : 0 ≤ s2 ∧ s2 ≤ 18446744073709551615 := by simpa [Lit.wf, IntKind.min, IntKind.max, IntKind.signed, IntKind.bits] using w2
  have g3 := hall 3 { name := "Least", type := 22, offset := 3, embedded := false, tag := "", pkgPath := "", byteOffset := 24 } rfl
  have l3 : 3 < xs.length := by rw [hxl]; decide
  rw [List.getElem?_eq_getElem l3] at g3
  try dsimp only at g3
  rw [c22] at g3
  obtain ⟨s3, e3, f3, w3⟩ := DataW.trod_int Go.Proofs.Tryd.underlying22 g3
  have t3 := take1 (l := cs.toList) e3
  have w3 : 0 ≤ s3 ∧ s3 ≤ 18446744073709551615 := by simpa [Lit.wf, IntKind.min, IntKind.max, IntKind.signed, IntKind.bits] using w3
  have g4 := hall 4 { name := "Top", type := 22, offset := 4, embedded := false, tag := "", pkgPath := "", byteOffset := 32 } rfl
  have l4 : 4 < xs.length := by rw [hxl]; decide
  rw [List.getElem?_eq_getElem l4] at g4
  try dsimp only at g4
  rw [c22] at g4
  obtain ⟨s4, e4, f4, w4⟩ := DataW.trod_int Go.Proofs.Tryd.underlying22 g4
  have t4 := take1 (l := cs.toList) e4
  have w4 : 0 ≤ s4 ∧ s4 ≤ 18446744073709551615 := by simpa [Lit.wf, IntKind.min, IntKind.max, IntKind.signed, IntKind.bits] using w4
  have hcells : cs.toList = [.int .i64 s0, .int .u64 s1, .int .u64 s2, .int .u64 s3, .int .u64 s4] := by
    refine len_cells hcs rfl fun i v hv => ?_
    match i, hv with
    | 0, hv => cases hv; exact t0
    | 1, hv => cases hv; exact t1
    | 2, hv => cases hv; exact t2
    | 3, hv => cases hv; exact t3
    | 4, hv => cases hv; exact t4
    | k + 5, hv => simp at hv
  refine ⟨⟨s0, BitVec.ofInt 64 s1, BitVec.ofInt 64 s2, BitVec.ofInt 64 s3, BitVec.ofInt 64 s4⟩, ?_⟩
  unfold Fct.val
  rw [← u64_val w1, ← u64_val w2, ← u64_val w3, ← u64_val w4]
  congr 1
  apply Array.ext'
  rw [hcells]
theorem word_arg {HH : Type} {enc : TypeId × Value → HH} {W : World} {b0 : Nat} {v' : Value} {dw : DataW HH} {ps : List MemPlace}
    (hval : Value.okWide Go.Proofs.Tryd.prog W .any b0 22 v') (hd : DataW.Trod enc Go.Proofs.Tryd.prog W 0 (fun _ => true) true 22 v' dw ps) : ∃ x : W64, v' = wv x := by
  obtain ⟨a, rfl, _, _, hw⟩ := open_int Go.Proofs.Tryd.underlying22 hval hd
  have hw : 0 ≤ a ∧ a ≤ 18446744073709551615 := by simpa [Lit.wf, IntKind.min, IntKind.max, IntKind.signed, IntKind.bits] using hw
  exact ⟨_, u64_val hw⟩
theorem fct_rel (f : Fct) (β : Bt) : VRel β f.val f.val := by
  refine .agg _ _ rfl fun k v v' h1 h2 => ?_
  have h1 : (cellsL f.val)[k]? = some v := h1
  have h2 : (cellsL f.val)[k]? = some v' := h2
  rw [h1] at h2
  cases h2
  have hm := List.mem_of_getElem? h1
  rw [← cells_val] at hm
  simp only [List.mem_cons, List.not_mem_nil, or_false] at hm
  rcases hm with rfl | rfl | rfl | rfl | rfl <;> exact .int _ _
theorem wv_rel (x : W64) (β : Bt) : VRel β (wv x) (wv x) := .int _ _
/-- A world for the witness. -/
def setBlock (hp : Array Obj) (g : Nat) (cs : Array Value) : Array Obj := hp.modify g fun
  | .cells _ t frozen => .cells cs t frozen
  | o => o
noncomputable def laidWorld (os : Os) : World :=
  { World.holding Go.Proofs.Tryd.prog os ⟨#[], #[], []⟩ with heap := setBlock (World.holding Go.Proofs.Tryd.prog os ⟨#[], #[], []⟩).heap 0 #[.int .u8 0, .int .u8 1, .int .u8 56, .int .u8 2, .int .u8 57, .int .u8 49, .int .u8 28, .int .u8 3, .int .u8 61, .int .u8 58, .int .u8 42, .int .u8 50, .int .u8 38, .int .u8 29, .int .u8 17, .int .u8 4, .int .u8 62, .int .u8 47, .int .u8 59, .int .u8 36, .int .u8 45, .int .u8 43, .int .u8 51, .int .u8 22, .int .u8 53, .int .u8 39, .int .u8 33, .int .u8 30, .int .u8 24, .int .u8 18, .int .u8 12, .int .u8 5, .int .u8 63, .int .u8 55, .int .u8 48, .int .u8 27, .int .u8 60, .int .u8 41, .int .u8 37, .int .u8 16, .int .u8 46, .int .u8 35, .int .u8 44, .int .u8 21, .int .u8 52, .int .u8 32, .int .u8 23, .int .u8 11, .int .u8 54, .int .u8 26, .int .u8 40, .int .u8 15, .int .u8 34, .int .u8 20, .int .u8 31, .int .u8 10, .int .u8 25, .int .u8 14, .int .u8 19, .int .u8 9, .int .u8 13, .int .u8 8, .int .u8 7, .int .u8 6] }
end Go.AM.N14
/- Meet and Join. -/
set_option linter.unusedVariables false
set_option linter.unusedSimpArgs false
namespace Go.AM.N14
open Go Go.AM
section
variable {α : Type}
theorem x_30 (a b c : Value) (k : Value → Option α) : pExtract (.tuple #[a, b, c]) 0 k = k a := rfl
theorem x_31 (a b c : Value) (k : Value → Option α) : pExtract (.tuple #[a, b, c]) 1 k = k b := rfl
theorem x_32 (a b c : Value) (k : Value → Option α) : pExtract (.tuple #[a, b, c]) 2 k = k c := rfl
theorem mm_max (a b : W64) (k : Value → Option α) : pMM true [wv a, wv b] k = k (wv (if a.toNat < b.toNat then b else a)) := by
  have : mm true (wv a) (wv b) = some (wv (if a.toNat < b.toNat then b else a)) := by
    show some (Value.int .u64 (if (b.toNat : Int) > (a.toNat : Int) then (b.toNat : Int) else (a.toNat : Int))) = _
    by_cases h : a.toNat < b.toNat
    · rw [if_pos (by omega), if_pos h]; rfl
    · rw [if_neg (by omega), if_neg h]; rfl
  simp only [pMM, mmL, this]
theorem mm_min (a b : W64) (k : Value → Option α) : pMM false [wv a, wv b] k = k (wv (if b.toNat < a.toNat then b else a)) := by
  have : mm false (wv a) (wv b) = some (wv (if b.toNat < a.toNat then b else a)) := by
    show some (Value.int .u64 (if (b.toNat : Int) < (a.toNat : Int) then (b.toNat : Int) else (a.toNat : Int))) = _
    by_cases h : b.toNat < a.toNat
    · rw [if_pos (by omega), if_pos h]; rfl
    · rw [if_neg (by omega), if_neg h]; rfl
  simp only [pMM, mmL, this]
end
/-- A fact that is settled itself. -/
structure Sd (f : Fct) : Prop where
  may : f.May
  stl : Stl f f
theorem Stl.sd {f g : Fct} (hf : f.May) (h : Stl f g) : Sd g := by
  refine ⟨h.may hf, ⟨rfl, (h.mem hf _).2 h.lo, (h.mem hf _).2 h.hi, fun t ht => h.all t ((h.mem hf t).1 ht), fun j => ?_, fun j => ?_⟩⟩
  · rw [h.one, h.w]
    exact ⟨fun ⟨a, b⟩ => ⟨a, fun t ht => b t ((h.mem hf t).1 ht)⟩, fun ⟨a, b⟩ => ⟨a, fun t ht => b t ((h.mem hf t).2 ht)⟩⟩
  · rw [h.zero, h.w]
    exact ⟨fun ⟨a, b⟩ => ⟨a, fun t ht => b t ((h.mem hf t).1 ht)⟩, fun ⟨a, b⟩ => ⟨a, fun t ht => b t ((h.mem hf t).2 ht)⟩⟩
theorem Sd.eq {f g : Fct} (hf : Sd f) (h : Stl f g) : g = f := Stl.same rfl (fun _ => Iff.rfl) h hf.stl
/-- The answer of 'two'. -/
def TwoR (f g x y : Fct) (e : Int) : Prop :=
  (¬ (f.May ∧ g.May ∧ f.w = g.w) ∧ x = f ∧ y = g ∧ e = 5) ∨
  ((f.May ∧ g.May ∧ f.w = g.w) ∧ ((∀ t, ¬ Mem f t) ∨ ∀ t, ¬ Mem g t) ∧ x = f ∧ y = g ∧ e = 1) ∨
  ((f.May ∧ g.May ∧ f.w = g.w) ∧ Stl f x ∧ Stl g y ∧ e = 0)
theorem c29 (f g : Fct) (H : Hp) : ∃ x y e, TwoR f g x y e ∧ R 29 [f.val, g.val] H = some (.tuple #[x.val, y.val, .int .i64 e], H) := by
  have hr := r29 E14 rfl f.val g.val H
  unfold m29 at hr
  rw [f_all, s_call (c19 f H), s_not, s_bool, s_br] at hr
  by_cases hf : f.May
  case neg =>
    rw [if_pos (by simp [hf]), f_all, f_all, sp_0, sp_0, f_all, f_all, s_bind, s_ret] at hr
    exact ⟨f, g, 5, .inl ⟨fun q => hf q.1, rfl, rfl, rfl⟩, hr⟩
  rw [if_neg (by simp [hf]), f_all, s_call (c19 g H), s_not, s_bool, s_br] at hr
  by_cases hg : g.May
  case neg =>
    rw [if_pos (by simp [hg]), f_all, f_all, sp_0, sp_0, f_all, f_all, s_bind, s_ret] at hr
    exact ⟨f, g, 5, .inl ⟨fun q => hg q.2.1, rfl, rfl, rfl⟩, hr⟩
  rw [if_neg (by simp [hg]), f_w, f_w, s_neq, s_bool, s_br] at hr
  by_cases hw : f.w = g.w
  case neg =>
    rw [if_pos (by simp [hw]), f_all, f_all, sp_0, sp_0, f_all, f_all, s_bind, s_ret] at hr
    exact ⟨f, g, 5, .inl ⟨fun q => hw q.2.2, rfl, rfl, rfl⟩, hr⟩
  have hall : f.May ∧ g.May ∧ f.w = g.w := ⟨hf, hg, hw⟩
  rw [if_neg (by simp [hw]), s_bind, s_next, f_all] at hr
  simp only [V0_val, List.drop_zero, List.getD_cons_zero, List.getD_cons_succ] at hr
  rcases c33 hf H with ⟨x, h1, h2⟩ | ⟨h1, h2⟩
  · rw [s_call h2, q_ext0, q_ext1, sp_0, f_all] at hr
    rcases c33 hg H with ⟨y, h3, h4⟩ | ⟨h3, h4⟩
    · rw [s_call h4, q_ext0, q_ext1, sp_0, s_not, s_bool, s_br, if_neg (by decide), s_not, s_bool, s_br, if_neg (by decide), f_all, f_all, sp_f, sp_f, f_all, f_all] at hr
      exact ⟨x, y, 0, .inr (.inr ⟨hall, h1, h3, rfl⟩), hr⟩
    · rw [s_call h4, q_ext0, q_ext1, sp_0, s_not, s_bool, s_br, if_neg (by decide), s_not, s_bool, s_br, if_pos (by decide), f_all, f_all, sp_f, sp_f, f_all, f_all] at hr
      exact ⟨f, g, 1, .inr (.inl ⟨hall, .inr h3, rfl, rfl, rfl⟩), hr⟩
  · rw [s_call h2, q_ext0, q_ext1, sp_0, f_all] at hr
    rcases c33 hg H with ⟨y, h3, h4⟩ | ⟨h3, h4⟩
    · rw [s_call h4, q_ext0, q_ext1, sp_0, s_not, s_bool, s_br, if_pos (by decide), f_all, f_all, sp_f, sp_f, f_all, f_all] at hr
      exact ⟨f, g, 1, .inr (.inl ⟨hall, .inl h1, rfl, rfl, rfl⟩), hr⟩
    · rw [s_call h4, q_ext0, q_ext1, sp_0, s_not, s_bool, s_br, if_pos (by decide), f_all, f_all, sp_f, sp_f, f_all, f_all] at hr
      exact ⟨f, g, 1, .inr (.inl ⟨hall, .inl h1, rfl, rfl, rfl⟩), hr⟩
/-- What both know. -/
def joinF (x y : Fct) : Fct := ⟨x.w, x.one &&& y.one, x.zero &&& y.zero, if y.least.toNat < x.least.toNat then y.least else x.least, if x.top.toNat < y.top.toNat then y.top else x.top⟩
theorem c30 (x y : Fct) (H : Hp) : R 30 [x.val, y.val] H = some ((joinF x y).val, H) := by
  refine (r30 E14 rfl _ _ H).trans ?_
  unfold m30
  simp only [f_w, f_one, f_zero, f_least, f_top, b_and, mm_max, mm_min, b_5, sp_0, f_all]
  rfl
/-- The words of both, untidied. -/
def meetF (x y : Fct) : Fct := ⟨x.w, x.one ||| y.one, x.zero ||| y.zero, if x.least.toNat < y.least.toNat then y.least else x.least, if y.top.toNat < x.top.toNat then y.top else x.top⟩
theorem c12 (f g : Fct) (H : Hp) : ∃ x y e, TwoR f g x y e ∧ R 12 [f.val, g.val] H = some (.tuple #[(if e = 0 then joinF x y else F0).val, .int .i64 e], H) := by
  obtain ⟨x, y, e, h1, h2⟩ := c29 f g H
  refine ⟨x, y, e, h1, (r12 E14 rfl _ _ H).trans ?_⟩
  unfold m12
  rw [f_all, f_all, s_call h2, x_30, x_31, x_32, sp_0, sp_0, s_neq, s_bool, s_br]
  by_cases he : e = 0
  · subst he
    rw [if_neg (by decide), f_all, f_all, s_call (c30 x y H), sp_0, f_all]; rfl
  · rw [if_pos (by simp [he]), b_nil, sp_0, f_all, if_neg he]
theorem c14 (f g : Fct) (H : Hp) : ∃ x y e p e', TwoR f g x y e ∧ (e = 0 → SetR (meetF x y) p e') ∧ R 14 [f.val, g.val] H = some (.tuple #[(if e = 0 then p else F0).val, .int .i64 (if e = 0 then e' else e)], H) := by
  obtain ⟨x, y, e, h1, h2⟩ := c29 f g H
  obtain ⟨p, e', h3, h4⟩ := c20 (meetF x y) H
  refine ⟨x, y, e, p, e', h1, fun _ => h3, (r14 E14 rfl _ _ H).trans ?_⟩
  unfold m14
  rw [f_all, f_all, s_call h2, x_30, x_31, x_32, sp_0, sp_0, s_neq, s_bool, s_br]
  by_cases he : e = 0
  · subst he
    rw [if_neg (by decide)]
    simp only [f_w, f_one, f_zero, f_least, f_top, b_or, mm_max, mm_min, b_5]
    have h4 : R 20 [Fct.val ⟨x.w, x.one ||| y.one, x.zero ||| y.zero, if x.least.toNat < y.least.toNat then y.least else x.least, if y.top.toNat < x.top.toNat then y.top else x.top⟩] H = some (.tuple #[p.val, .int .i64 e'], H) := h4
    rw [s_call h4, q_ext0, q_ext1, sp_0, f_all]; rfl
  · rw [if_pos (by simp [he]), b_nil, sp_0, f_all, if_neg he, if_neg he]
/-! ### Of settled facts -/
theorem join_sd {x y : Fct} (hx : Sd x) (hy : Sd y) (hw : x.w = y.w) : Sd (joinF x y) ∧ (∀ t, Mem x t → Mem (joinF x y) t) ∧ ∀ t, Mem y t → Mem (joinF x y) t := by
  have hn := wd_le hx.may.w64
  have lx : (joinF x y).least.toNat ≤ x.least.toNat ∧ (joinF x y).least.toNat ≤ y.least.toNat := by unfold joinF; dsimp only; split <;> omega
  have tx : x.top.toNat ≤ (joinF x y).top.toNat ∧ y.top.toNat ≤ (joinF x y).top.toNat := by unfold joinF; dsimp only; split <;> omega
  have m1 : ∀ t, Mem x t → Mem (joinF x y) t := fun t ht => by
    refine ⟨fun j => ⟨fun h => ?_, fun h => ?_⟩, Nat.le_trans lx.1 ht.2.1, Nat.le_trans ht.2.2 tx.1⟩
    · have h : (x.one &&& y.one).getLsbD j = true := h
      rw [BitVec.getLsbD_and, Bool.and_eq_true] at h; exact (ht.1 j).1 h.1
    · have h : (x.zero &&& y.zero).getLsbD j = true := h
      rw [BitVec.getLsbD_and, Bool.and_eq_true] at h; exact (ht.1 j).2 h.1
  have m2 : ∀ t, Mem y t → Mem (joinF x y) t := fun t ht => by
    refine ⟨fun j => ⟨fun h => ?_, fun h => ?_⟩, Nat.le_trans lx.2 ht.2.1, Nat.le_trans ht.2.2 tx.2⟩
    · have h : (x.one &&& y.one).getLsbD j = true := h
      rw [BitVec.getLsbD_and, Bool.and_eq_true] at h; exact (ht.1 j).1 h.2
    · have h : (x.zero &&& y.zero).getLsbD j = true := h
      rw [BitVec.getLsbD_and, Bool.and_eq_true] at h; exact (ht.1 j).2 h.2
  have hlo : Mem (joinF x y) (joinF x y).least := by
    have : (joinF x y).least = x.least ∨ (joinF x y).least = y.least := by unfold joinF; dsimp only; split <;> simp
    rcases this with e | e <;> rw [e]
    · exact m1 _ hx.stl.lo
    · exact m2 _ hy.stl.lo
  have hhi : Mem (joinF x y) (joinF x y).top := by
    have : (joinF x y).top = x.top ∨ (joinF x y).top = y.top := by unfold joinF; dsimp only; split <;> simp
    rcases this with e | e <;> rw [e]
    · exact m1 _ hx.stl.hi
    · exact m2 _ hy.stl.hi
  have hone : ∀ j, (joinF x y).one.getLsbD j = true ↔ (j < wd x.w ∧ (∀ t, Mem (joinF x y) t → t.getLsbD j = true)) := fun j => by
    constructor
    · intro h
      have h' : (x.one &&& y.one).getLsbD j = true := h
      rw [BitVec.getLsbD_and, Bool.and_eq_true] at h'
      exact ⟨((hx.stl.one j).1 h'.1).1, fun t ht => (ht.1 j).1 h⟩
    · rintro ⟨a, b⟩
      show (x.one &&& y.one).getLsbD j = true
      rw [BitVec.getLsbD_and, Bool.and_eq_true]
      exact ⟨(hx.stl.one j).2 ⟨a, fun t ht => b t (m1 t ht)⟩, (hy.stl.one j).2 ⟨hw ▸ a, fun t ht => b t (m2 t ht)⟩⟩
  have hzero : ∀ j, (joinF x y).zero.getLsbD j = true ↔ (j < wd x.w ∧ (∀ t, Mem (joinF x y) t → t.getLsbD j = false)) := fun j => by
    constructor
    · intro h
      have h' : (x.zero &&& y.zero).getLsbD j = true := h
      rw [BitVec.getLsbD_and, Bool.and_eq_true] at h'
      exact ⟨((hx.stl.zero j).1 h'.1).1, fun t ht => (ht.1 j).2 h⟩
    · rintro ⟨a, b⟩
      show (x.zero &&& y.zero).getLsbD j = true
      rw [BitVec.getLsbD_and, Bool.and_eq_true]
      exact ⟨(hx.stl.zero j).2 ⟨a, fun t ht => b t (m1 t ht)⟩, (hy.stl.zero j).2 ⟨hw ▸ a, fun t ht => b t (m2 t ht)⟩⟩
  have hst : Stl (joinF x y) (joinF x y) := ⟨rfl, hlo, hhi, fun t ht => ht.2, hone, hzero⟩
  refine ⟨⟨⟨hx.may.w0, hx.may.w64, ?_, ?_, ?_, ?_⟩, hst⟩, m1, m2⟩
  · refine (le_msk hn).2 fun j hj => ?_
    cases q : (joinF x y).one.getLsbD j with
    | false => rfl
    | true => have := ((hone j).1 q).1; exact absurd this (by show ¬ j < wd x.w; exact Nat.not_lt.2 hj)
  · refine (le_msk hn).2 fun j hj => ?_
    cases q : (joinF x y).zero.getLsbD j with
    | false => rfl
    | true => have := ((hzero j).1 q).1; exact absurd this (by show ¬ j < wd x.w; exact Nat.not_lt.2 hj)
  · exact Nat.le_trans lx.1 hx.may.least
  · show (joinF x y).top.toNat ≤ (msk (wd x.w)).toNat
    have a := hx.may.top
    have b := hy.may.top
    rw [← hw] at b
    unfold joinF; dsimp only; split <;> omega
theorem meet_may {x y : Fct} (hx : Sd x) (hy : Sd y) (hw : x.w = y.w) : (meetF x y).May := by
  have hn := wd_le hx.may.w64
  refine ⟨hx.may.w0, hx.may.w64, ?_, ?_, ?_, ?_⟩
  · refine (le_msk hn).2 fun j hj => ?_
    show (x.one ||| y.one).getLsbD j = false
    rw [BitVec.getLsbD_or, (le_msk hn).1 hx.may.one j hj, (le_msk hn).1 (hw ▸ hy.may.one) j hj]; rfl
  · refine (le_msk hn).2 fun j hj => ?_
    show (x.zero ||| y.zero).getLsbD j = false
    rw [BitVec.getLsbD_or, (le_msk hn).1 hx.may.zero j hj, (le_msk hn).1 (hw ▸ hy.may.zero) j hj]; rfl
  · have a := hx.may.least
    have b := hy.may.least
    rw [← hw] at b
    show (if x.least.toNat < y.least.toNat then y.least else x.least).toNat ≤ (msk (wd x.w)).toNat
    split <;> omega
  · have a := hx.may.top
    have b := hy.may.top
    rw [← hw] at b
    show (if y.top.toNat < x.top.toNat then y.top else x.top).toNat ≤ (msk (wd x.w)).toNat
    split <;> omega
theorem meet_mem (x y : Fct) (t : W64) : Mem (meetF x y) t ↔ (Mem x t ∧ Mem y t) := by
  have hl : (meetF x y).least.toNat ≤ t.toNat ↔ x.least.toNat ≤ t.toNat ∧ y.least.toNat ≤ t.toNat := by
    show (if x.least.toNat < y.least.toNat then y.least else x.least).toNat ≤ t.toNat ↔ _
    split <;> omega
  have ht : t.toNat ≤ (meetF x y).top.toNat ↔ t.toNat ≤ x.top.toNat ∧ t.toNat ≤ y.top.toNat := by
    show t.toNat ≤ (if y.top.toNat < x.top.toNat then y.top else x.top).toNat ↔ _
    split <;> omega
  have hf : Fit (meetF x y).one (meetF x y).zero t ↔ Fit x.one x.zero t ∧ Fit y.one y.zero t := by
    have e1 : ∀ j, (meetF x y).one.getLsbD j = (x.one.getLsbD j || y.one.getLsbD j) := fun j => BitVec.getLsbD_or ..
    have e2 : ∀ j, (meetF x y).zero.getLsbD j = (x.zero.getLsbD j || y.zero.getLsbD j) := fun j => BitVec.getLsbD_or ..
    constructor
    · intro h
      exact ⟨fun j => ⟨fun q => (h j).1 (by rw [e1, q]; rfl), fun q => (h j).2 (by rw [e2, q]; rfl)⟩, fun j => ⟨fun q => (h j).1 (by rw [e1, q, Bool.or_true]), fun q => (h j).2 (by rw [e2, q, Bool.or_true])⟩⟩
    · rintro ⟨h, g⟩ j
      constructor
      · intro q
        rw [e1, Bool.or_eq_true] at q
        rcases q with q | q
        · exact (h j).1 q
        · exact (g j).1 q
      · intro q
        rw [e2, Bool.or_eq_true] at q
        rcases q with q | q
        · exact (h j).2 q
        · exact (g j).2 q
  unfold Mem
  rw [hf, hl, ht]
  constructor
  · rintro ⟨⟨a, b⟩, ⟨c, d⟩, e, f⟩; exact ⟨⟨a, c, e⟩, b, d, f⟩
  · rintro ⟨⟨a, c, e⟩, b, d, f⟩; exact ⟨⟨a, b⟩, ⟨c, d⟩, e, f⟩
/-- Join of settled facts. -/
theorem c12s {x y : Fct} (hx : Sd x) (hy : Sd y) (hw : x.w = y.w) (H : Hp) : R 12 [x.val, y.val] H = some (.tuple #[(joinF x y).val, .int .i64 0], H) := by
  obtain ⟨a, b, e, h1, h2⟩ := c12 x y H
  rcases h1 with ⟨q, _⟩ | ⟨_, q, _⟩ | ⟨_, q1, q2, rfl⟩
  · exact absurd ⟨hx.may, hy.may, hw⟩ q
  · rcases q with q | q
    · exact absurd hx.stl.lo (q _)
    · exact absurd hy.stl.lo (q _)
  · have e1 := hx.eq q1
    have e2 := hy.eq q2
    subst e1 e2
    rw [if_pos rfl] at h2; exact h2
/-- Meet of settled facts. -/
theorem c14s {x y : Fct} (hx : Sd x) (hy : Sd y) (hw : x.w = y.w) (H : Hp) : ∃ p e, R 14 [x.val, y.val] H = some (.tuple #[p.val, .int .i64 e], H) ∧
    ((e = 0 ∧ Sd p ∧ p.w = x.w ∧ ∀ t, Mem p t ↔ (Mem x t ∧ Mem y t)) ∨ (e = 1 ∧ p = F0 ∧ ∀ t, ¬ (Mem x t ∧ Mem y t))) := by
  obtain ⟨a, b, e, p, e', h1, h2, h3⟩ := c14 x y H
  rcases h1 with ⟨q, _⟩ | ⟨_, q, _⟩ | ⟨_, q1, q2, rfl⟩
  · exact absurd ⟨hx.may, hy.may, hw⟩ q
  · rcases q with q | q
    · exact absurd hx.stl.lo (q _)
    · exact absurd hy.stl.lo (q _)
  · have e1 := hx.eq q1
    have e2 := hy.eq q2
    subst e1 e2
    rw [if_pos rfl, if_pos rfl] at h3
    refine ⟨p, e', h3, ?_⟩
    rcases h2 rfl with ⟨r, _⟩ | ⟨_, r1, r2, r3⟩ | ⟨r0, r1, r2⟩
    · exact absurd (meet_may hx hy hw) r
    · exact .inr ⟨r3, r2, fun t ht => r1 t ((meet_mem _ _ t).2 ht)⟩
    · exact .inl ⟨r2, r1.sd r0, r1.w, fun t => (r1.mem r0 t).trans (meet_mem _ _ t)⟩
end Go.AM.N14
/- The document's Settle. -/
set_option linter.unusedVariables false
set_option linter.unusedSimpArgs false
namespace Go.AM.N14
open Go Go.AM
section
variable {α : Type}
theorem i_inc (T : TypeId) (i : Nat) (hi : i < 1000) (k : Value → Option α) : pBin Go.Proofs.Tryd.prog .add T (.int .i64 (i : Int)) (.int .i64 1) k = k (.int .i64 ((i + 1 : Nat) : Int)) := by
  rw [s_add, q_i64 (by omega) (by omega)]; rfl
theorem i_m1 (T : TypeId) (k : Value → Option α) : pBin Go.Proofs.Tryd.prog .add T (.int .i64 (-1)) (.int .i64 1) k = k (.int .i64 ((0 : Nat) : Int)) := rfl
end
/-! ### least -/
theorem s34_first {f : Fct} (h0 : 0 ≤ f.w) (H : Hp) : s34_1 R f.val [.int .i64 (-1)] H = if Fit f.one f.zero f.least then some (.ret, [.tuple #[wv f.least, .bool (decide (f.least.toNat ≤ f.top.toNat))]], H) else some (.next, [.int .i64 ((0 : Nat) : Int)], H) := by
  have hp := wd_pos f.w
  unfold s34_1
  simp only [List.getD_cons_zero, f_w, s_call (c28 h0 H), s_lss, s_bool, s_br, decide_eq_true_eq, f_least, s_geq, f_all, s_call (c25 f f.least H), f_top, b_leq, i_m1]
  rw [if_pos (by omega), if_neg (by omega)]
theorem s34_step {f : Fct} (h0 : 0 ≤ f.w) (hw : f.w ≤ 64) {i : Nat} (hi : i < wd f.w) (H : Hp) : s34_1 R f.val [.int .i64 (i : Int)] H =
    if f.least.getLsbD i = true then some (.next, [.int .i64 ((i + 1 : Nat) : Int)], H)
    else if Fit f.one f.zero (candR f.one f.least i) then some (.ret, [.tuple #[wv (candR f.one f.least i), .bool (decide ((candR f.one f.least i).toNat ≤ f.top.toNat))]], H) else some (.next, [.int .i64 ((i + 1 : Nat) : Int)], H) := by
  have hn := wd_le hw
  have hc : f.least &&& ~~~(msk (i + 1)) ||| (1#64) <<< i ||| (f.one &&& msk i) = candR f.one f.least i := rfl
  unfold s34_1
  simp only [List.getD_cons_zero, f_w, s_call (c28 h0 H), s_lss, s_bool, s_br, decide_eq_true_eq, f_least, s_geq, f_all, f_top, f_one, b_leq, s_call (c47 f.least i (by omega) H), i_inc _ i (by omega), s_call (c48 (i + 1) (by omega) H), s_call (c48 i (by omega) H), b_andNot, cu64 i (by omega), u_1, b_shl, b_or, b_and, hc, s_call (c25 f _ H)]
  rw [if_pos (by omega), if_pos (by omega)]
theorem s34_end {f : Fct} (h0 : 0 ≤ f.w) (hw : f.w ≤ 64) (H : Hp) : s34_1 R f.val [.int .i64 ((wd f.w : Nat) : Int)] H = some (.exit 0, [.int .i64 ((wd f.w : Nat) : Int)], H) := by
  unfold s34_1
  simp only [List.getD_cons_zero, f_w, s_call (c28 h0 H), s_lss, s_bool, s_br, decide_eq_true_eq]
  rw [if_neg (by omega)]
/-- The first place where a candidate fits. -/
theorem up_first {o z x : W64} {n i : Nat} (hn : n ≤ 64) (hi : i < n) (hx : x.toNat ≤ (msk n).toNat) (hnf : ¬ Fit o z x) (hb : ∀ j, j < i → x.getLsbD j = false → ¬ Fit o z (candR o x j)) (h1 : x.getLsbD i = false) (h2 : Fit o z (candR o x i)) :
    Up o z x n (some (candR o x i)) := by
  have hc := candR_ok o x (show i < 64 by omega)
  refine ⟨h2, Nat.le_of_lt (hc.lt h1), (le_msk hn).2 fun j hj => ?_, fun t ht hle => ?_⟩
  · rw [hc.hi j (by omega)]; exact (le_msk hn).1 hx j hj
  · obtain ⟨j, j1, j2, j3, j4, j5, j6⟩ := part ht (ne_of_not_fit hnf ht hle)
    have hij : i ≤ j := by
      rcases Nat.lt_or_ge j i with q | q
      · exact absurd ((candR_ok o x j1).fit ht.dis j4 j6) (hb j q j2)
      · exact q
    exact hc.le ht j2 j3 j5 hij
theorem up_nofirst {o z x : W64} {n : Nat} (hn : n ≤ 64) (hnf : ¬ Fit o z x) (hb : ∀ j, j < n → x.getLsbD j = false → ¬ Fit o z (candR o x j)) : Up o z x n none := fun t ht h1 h2 => by
  obtain ⟨j, j1, j2, j3, j4, j5, j6⟩ := part ht (ne_of_not_fit hnf ht h1)
  have hj : j < n := by
    rcases Nat.lt_or_ge j n with q | q
    · exact q
    · rw [(le_msk hn).1 h2 j q] at j3; cases j3
  exact hb j hj j2 ((candR_ok o x j1).fit ht.dis j4 j6)
theorem loop34 {f : Fct} (h0 : 0 ≤ f.w) (hw : f.w ≤ 64) (hl : f.least.toNat ≤ (msk (wd f.w)).toNat) (hnf : ¬ Fit f.one f.zero f.least) (H : Hp) :
    ∀ (d i : Nat), i + d = wd f.w → (∀ j, j < i → f.least.getLsbD j = false → ¬ Fit f.one f.zero (candR f.one f.least j)) →
    ∃ r, Up f.one f.zero f.least (wd f.w) r ∧ loopD (s34_1 R f.val) [.int .i64 (i : Int)] H = some (match r with
      | some y => (.ret, [.tuple #[wv y, .bool (decide (y.toNat ≤ f.top.toNat))]], H)
      | none => (.exit 0, [.int .i64 ((wd f.w : Nat) : Int)], H))
  | 0, i, hd, hb => by
    have hn := wd_le hw
    obtain rfl : i = wd f.w := by omega
    exact ⟨none, up_nofirst hn hnf hb, by rw [loopD_eq, s34_end h0 hw]; rfl⟩
  | d + 1, i, hd, hb => by
    have hn := wd_le hw
    rw [loopD_eq, s34_step h0 hw (show i < wd f.w by omega)]
    by_cases h1 : f.least.getLsbD i = true
    · rw [if_pos h1]
      obtain ⟨r, r1, r2⟩ := loop34 h0 hw hl hnf H d (i + 1) (by omega) (fun j hj hf => by
        rcases Nat.lt_or_eq_of_le (Nat.le_of_lt_succ hj) with q | q
        · exact hb j q hf
        · subst q; rw [h1] at hf; cases hf)
      exact ⟨r, r1, r2⟩
    rw [if_neg h1]
    have h1 : f.least.getLsbD i = false := by simpa using h1
    by_cases h2 : Fit f.one f.zero (candR f.one f.least i)
    · rw [if_pos h2]
      exact ⟨some (candR f.one f.least i), up_first hn (by omega) hl hnf hb h1 h2, rfl⟩
    · rw [if_neg h2]
      obtain ⟨r, r1, r2⟩ := loop34 h0 hw hl hnf H d (i + 1) (by omega) (fun j hj hf => by
        rcases Nat.lt_or_eq_of_le (Nat.le_of_lt_succ hj) with q | q
        · exact hb j q hf
        · subst q; exact h2)
      exact ⟨r, r1, r2⟩
theorem c34 {f : Fct} (h0 : 0 ≤ f.w) (hw : f.w ≤ 64) (hl : f.least.toNat ≤ (msk (wd f.w)).toNat) (H : Hp) : ∃ r, Up f.one f.zero f.least (wd f.w) r ∧
    R 34 [f.val] H = some (.tuple #[wv (r.getD 0#64), .bool (match r with | some y => decide (y.toNat ≤ f.top.toNat) | none => false)], H) := by
  have hr := (r34 E14 rfl f.val H).trans (k34 _ _ _)
  by_cases hf : Fit f.one f.zero f.least
  · rw [loopD_eq, s34_first h0, if_pos hf] at hr
    exact ⟨some f.least, up_fit hl hf, hr⟩
  · rw [loopD_eq, s34_first h0, if_neg hf] at hr
    obtain ⟨r, r1, r2⟩ := loop34 h0 hw hl hf H (wd f.w) 0 (by omega) (fun j hj => absurd hj (Nat.not_lt_zero _))
    have hr : R 34 [f.val] H = bindO (loopD (s34_1 R f.val) [.int .i64 ((0 : Nat) : Int)] H) _ := hr
    rw [r2] at hr
    refine ⟨r, r1, ?_⟩
    cases r with
    | none => exact hr
    | some y => exact hr
/-! ### greatest -/
def candG (z x : W64) (i : Nat) : W64 := x &&& ~~~(msk (i + 1)) ||| (msk i &&& ~~~z)
theorem candG_bit (z x : W64) {i : Nat} (hi : i < 64) (j : Nat) : (candG z x i).getLsbD j = if i < j then x.getLsbD j else if j = i then false else !z.getLsbD j := by
  unfold candG
  rw [BitVec.getLsbD_or, flip_bit, flip_bit, bit_msk, bit_msk]
  rcases Nat.lt_trichotomy j i with q | q | q
  · rw [if_neg (by omega), if_neg (by omega)]; simp [show j < 64 by omega, q, show j < i + 1 by omega]
  · subst q; rw [if_neg (by omega), if_pos rfl]; simp [hi]
  · rw [if_pos q]; simp [show ¬ j < i by omega, show ¬ j < i + 1 by omega]
theorem candR_bit (o x : W64) {i : Nat} (hi : i < 64) (j : Nat) : (candR o x i).getLsbD j = if i < j then x.getLsbD j else if j = i then true else o.getLsbD j := by
  have h := candR_ok o x hi
  rcases Nat.lt_trichotomy j i with q | q | q
  · rw [if_neg (by omega), if_neg (by omega), h.lo j q]
  · subst q; rw [if_neg (by omega), if_pos rfl, h.mid]
  · rw [if_pos q, h.hi j q]
theorem candG_le {n : Nat} (hn : n ≤ 64) {z x : W64} (hx : x.toNat ≤ (msk n).toNat) {i : Nat} (hi : i < n) : (candG z x i).toNat ≤ (msk n).toNat :=
  (le_msk hn).2 fun j hj => by rw [candG_bit z x (by omega), if_pos (by omega)]; exact (le_msk hn).1 hx j hj
theorem candG_flip {n : Nat} (hn : n ≤ 64) {z x : W64} {i : Nat} (hi : i < n) : msk n &&& ~~~(candG z x i) = candR z (msk n &&& ~~~x) i := bit_eq fun j => by
  rw [flip_bit, candG_bit z x (by omega), candR_bit z _ (by omega), flip_bit, bit_msk]
  rcases Nat.lt_trichotomy j i with q | q | q
  · rw [if_neg (by omega), if_neg (by omega), if_neg (by omega), if_neg (by omega)]; simp [show j < 64 by omega, show j < n by omega]
  · subst q; simp [show j < 64 by omega, hi]
  · rw [if_pos q, if_pos q]
theorem flip_fit' {n : Nat} (hn : n ≤ 64) {o z x : W64} (ho : o.toNat ≤ (msk n).toNat) (hz : z.toNat ≤ (msk n).toNat) (hx : x.toNat ≤ (msk n).toNat) : Fit z o (msk n &&& ~~~x) ↔ Fit o z x := by
  refine ⟨fun h => ?_, flip_fit hn ho hz⟩
  have := flip_fit hn hz ho h
  rwa [flip_flip hn hx] at this
theorem s35_first {f : Fct} (h0 : 0 ≤ f.w) (H : Hp) : s35_1 R f.val [.int .i64 (-1)] H = if Fit f.one f.zero f.top then some (.ret, [wv f.top], H) else some (.next, [.int .i64 ((0 : Nat) : Int)], H) := by
  have hp := wd_pos f.w
  unfold s35_1
  simp only [List.getD_cons_zero, f_w, s_call (c28 h0 H), s_lss, s_bool, s_br, decide_eq_true_eq, f_least, s_geq, f_all, s_call (c25 f f.top H), f_top, b_leq, i_m1]
  rw [if_pos (by omega), if_neg (by omega)]
theorem s35_step {f : Fct} (h0 : 0 ≤ f.w) (hw : f.w ≤ 64) {i : Nat} (hi : i < wd f.w) (H : Hp) : s35_1 R f.val [.int .i64 (i : Int)] H =
    if f.top.getLsbD i = false then some (.next, [.int .i64 ((i + 1 : Nat) : Int)], H)
    else if Fit f.one f.zero (candG f.zero f.top i) then some (.ret, [wv (candG f.zero f.top i)], H) else some (.next, [.int .i64 ((i + 1 : Nat) : Int)], H) := by
  have hn := wd_le hw
  have hc : f.top &&& ~~~(msk (i + 1)) ||| (msk i &&& ~~~f.zero) = candG f.zero f.top i := rfl
  unfold s35_1
  simp only [List.getD_cons_zero, f_w, s_call (c28 h0 H), s_lss, s_bool, s_br, decide_eq_true_eq, f_least, s_geq, f_all, f_top, f_zero, s_call (c47 f.top i (by omega) H), i_inc _ i (by omega), s_call (c48 (i + 1) (by omega) H), s_call (c48 i (by omega) H), b_andNot, b_or, b_and, hc, s_call (c25 f _ H), s_not, Bool.not_eq_true']
  rw [if_pos (by omega), if_pos (by omega)]
theorem s35_end {f : Fct} (h0 : 0 ≤ f.w) (hw : f.w ≤ 64) (H : Hp) : s35_1 R f.val [.int .i64 ((wd f.w : Nat) : Int)] H = some (.exit 0, [.int .i64 ((wd f.w : Nat) : Int)], H) := by
  unfold s35_1
  simp only [List.getD_cons_zero, f_w, s_call (c28 h0 H), s_lss, s_bool, s_br, decide_eq_true_eq]
  rw [if_neg (by omega)]
theorem loop35 {f : Fct} (hf : f.May) (hnf : ¬ Fit f.one f.zero f.top) (H : Hp) :
    ∀ (d i : Nat), i + d = wd f.w → (∀ j, j < i → (msk (wd f.w) &&& ~~~f.top).getLsbD j = false → ¬ Fit f.zero f.one (candR f.zero (msk (wd f.w) &&& ~~~f.top) j)) →
    ∃ r, Down f.one f.zero f.top (wd f.w) r ∧ loopD (s35_1 R f.val) [.int .i64 (i : Int)] H = some (match r with
      | some y => (.ret, [wv y], H)
      | none => (.exit 0, [.int .i64 ((wd f.w : Nat) : Int)], H))
  | 0, i, hd, hb => by
    have hn := wd_le hf.w64
    obtain rfl : i = wd f.w := by omega
    have hnf' : ¬ Fit f.zero f.one (msk (wd f.w) &&& ~~~f.top) := fun h => hnf ((flip_fit' hn hf.one hf.zero hf.top).1 h)
    exact ⟨none, down_of_up hn hf.one hf.zero hf.top (up_nofirst hn hnf' hb), by rw [loopD_eq, s35_end hf.w0 hf.w64]; rfl⟩
  | d + 1, i, hd, hb => by
    have hn := wd_le hf.w64
    have hi : i < wd f.w := by omega
    have hnf' : ¬ Fit f.zero f.one (msk (wd f.w) &&& ~~~f.top) := fun h => hnf ((flip_fit' hn hf.one hf.zero hf.top).1 h)
    have hbit : (msk (wd f.w) &&& ~~~f.top).getLsbD i = !f.top.getLsbD i := by rw [flip_bit, bit_msk]; simp [hi, show i < 64 by omega]
    rw [loopD_eq, s35_step hf.w0 hf.w64 hi]
    have hfit : Fit f.zero f.one (candR f.zero (msk (wd f.w) &&& ~~~f.top) i) ↔ Fit f.one f.zero (candG f.zero f.top i) := by
      rw [← candG_flip hn hi]; exact flip_fit' hn hf.one hf.zero (candG_le hn hf.top hi)
    by_cases h1 : f.top.getLsbD i = false
    · rw [if_pos h1]
      obtain ⟨r, r1, r2⟩ := loop35 hf hnf H d (i + 1) (by omega) (fun j hj hq => by
        rcases Nat.lt_or_eq_of_le (Nat.le_of_lt_succ hj) with q | q
        · exact hb j q hq
        · subst q; rw [hbit, h1] at hq; cases hq)
      exact ⟨r, r1, r2⟩
    rw [if_neg h1]
    by_cases h2 : Fit f.one f.zero (candG f.zero f.top i)
    · rw [if_pos h2]
      have hu := up_first hn hi (flip_le hn f.top) hnf' hb (by rw [hbit]; simpa using h1) (hfit.2 h2)
      have hd := down_of_up hn hf.one hf.zero hf.top hu
      rw [Option.map_some, ← candG_flip hn hi, flip_flip hn (candG_le hn hf.top hi)] at hd
      exact ⟨some (candG f.zero f.top i), hd, rfl⟩
    · rw [if_neg h2]
      obtain ⟨r, r1, r2⟩ := loop35 hf hnf H d (i + 1) (by omega) (fun j hj hq => by
        rcases Nat.lt_or_eq_of_le (Nat.le_of_lt_succ hj) with q | q
        · exact hb j q hq
        · subst q; exact fun h => h2 (hfit.1 h))
      exact ⟨r, r1, r2⟩
theorem c35 {f : Fct} (hf : f.May) (H : Hp) : ∃ r, Down f.one f.zero f.top (wd f.w) r ∧ R 35 [f.val] H = some (wv (r.getD 0#64), H) := by
  have hr := (r35 E14 rfl f.val H).trans (k35 _ _ _)
  by_cases hq : Fit f.one f.zero f.top
  · rw [loopD_eq, s35_first hf.w0, if_pos hq] at hr
    exact ⟨some f.top, ⟨hq, Nat.le_refl _, fun t _ h => h⟩, hr⟩
  · rw [loopD_eq, s35_first hf.w0, if_neg hq] at hr
    obtain ⟨r, r1, r2⟩ := loop35 hf hq H (wd f.w) 0 (by omega) (fun j hj => absurd hj (Nat.not_lt_zero _))
    have hr : R 35 [f.val] H = bindO (loopD (s35_1 R f.val) [.int .i64 ((0 : Nat) : Int)] H) _ := hr
    rw [r2] at hr
    refine ⟨r, r1, ?_⟩
    cases r with
    | none => exact hr
    | some y => exact hr
end Go.AM.N14
/- The document's Settle, Meet and Join; all and alone. -/
set_option linter.unusedVariables false
set_option linter.unusedSimpArgs false
namespace Go.AM.N14
open Go Go.AM
def flagOf (f : Fct) (r : Option W64) : Bool := match r with | some y => decide (y.toNat ≤ f.top.toNat) | none => false
theorem flag_iff {f : Fct} {n : Nat} {r : Option W64} (h : Up f.one f.zero f.least n r) (ht : f.top.toNat ≤ (msk n).toNat) : flagOf f r = true ↔ ∃ t, Mem f t := by
  cases r with
  | none => exact ⟨fun h => absurd (show false = true from h) (by decide), fun ⟨t, h1, h2, h3⟩ => (h t h1 h2 (by omega)).elim⟩
  | some y =>
    obtain ⟨h1, h2, h3, h4⟩ := h
    show decide _ = true ↔ _
    rw [decide_eq_true_eq]
    exact ⟨fun q => ⟨y, h1, h2, q⟩, fun ⟨t, t1, t2, t3⟩ => by have := h4 t t1 t2; omega⟩
theorem shl_le {n i : Nat} (hn : n ≤ 64) (hi : i < n) {o : W64} (ho : o.toNat ≤ (msk n).toNat) : (o ||| (1#64) <<< i).toNat ≤ (msk n).toNat :=
  (le_msk hn).2 fun j hj => by rw [bit_put o i j (by omega), (le_msk hn).1 ho j hj]; simp; omega
theorem Inv33.step {f g : Fct} {lo hi : W64} {i : Nat} (h64 : i < 64) (h : Inv33 f g lo hi i) {g' : Fct} (hw : g'.w = g.w) (hl : g'.least = g.least) (ht : g'.top = g.top)
    {a b : Bool} (ha : a = true ↔ ∀ t, Mem f t → t.getLsbD i = true) (hb : b = true ↔ ∀ t, Mem f t → t.getLsbD i = false)
    (h1 : g'.one = if a = true then g.one ||| (1#64) <<< i else g.one) (h2 : g'.zero = if b = true then g.zero ||| (1#64) <<< i else g.zero) : Inv33 f g' lo hi (i + 1) := by
  refine ⟨hw.trans h.w, hl.trans h.least, ht.trans h.top, fun j => ?_, fun j => ?_⟩
  · rw [h1]
    rcases Nat.lt_trichotomy j i with q | q | q
    · have e : (if a = true then g.one ||| (1#64) <<< i else g.one).getLsbD j = g.one.getLsbD j := by
        split
        · rw [bit_put g.one i j h64]; simp [show j ≠ i by omega]
        · rfl
      rw [e, h.one j]
      exact ⟨fun ⟨_, x⟩ => ⟨by omega, x⟩, fun ⟨_, x⟩ => ⟨q, x⟩⟩
    · subst q
      cases ha' : a with
      | true => rw [if_pos rfl, bit_put g.one j j h64]; simp; exact ha.1 ha'
      | false =>
        rw [if_neg (by decide), h.one j]
        exact ⟨fun ⟨x, _⟩ => absurd x (Nat.lt_irrefl _), fun ⟨_, x⟩ => by rw [ha.2 x] at ha'; cases ha'⟩
    · have e : (if a = true then g.one ||| (1#64) <<< i else g.one).getLsbD j = g.one.getLsbD j := by
        split
        · rw [bit_put g.one i j h64]; simp [show j ≠ i by omega]
        · rfl
      rw [e, h.one j]
      exact ⟨fun ⟨x, _⟩ => by omega, fun ⟨x, _⟩ => by omega⟩
  · rw [h2]
    rcases Nat.lt_trichotomy j i with q | q | q
    · have e : (if b = true then g.zero ||| (1#64) <<< i else g.zero).getLsbD j = g.zero.getLsbD j := by
        split
        · rw [bit_put g.zero i j h64]; simp [show j ≠ i by omega]
        · rfl
      rw [e, h.zero j]
      exact ⟨fun ⟨_, x⟩ => ⟨by omega, x⟩, fun ⟨_, x⟩ => ⟨q, x⟩⟩
    · subst q
      cases hb' : b with
      | true => rw [if_pos rfl, bit_put g.zero j j h64]; simp; exact hb.1 hb'
      | false =>
        rw [if_neg (by decide), h.zero j]
        exact ⟨fun ⟨x, _⟩ => absurd x (Nat.lt_irrefl _), fun ⟨_, x⟩ => by rw [hb.2 x] at hb'; cases hb'⟩
    · have e : (if b = true then g.zero ||| (1#64) <<< i else g.zero).getLsbD j = g.zero.getLsbD j := by
        split
        · rw [bit_put g.zero i j h64]; simp [show j ≠ i by omega]
        · rfl
      rw [e, h.zero j]
      exact ⟨fun ⟨x, _⟩ => by omega, fun ⟨x, _⟩ => by omega⟩
theorem s21_step {f : Fct} (hf : f.May) {g : Fct} {lo hi : W64} {i : Nat} (hi' : i < wd f.w) (h : Inv33 f g lo hi i) (H : Hp) :
    ∃ g', Inv33 f g' lo hi (i + 1) ∧ s21_1 R f.val [.int .i64 (i : Int), g.val] H = some (.next, [.int .i64 ((i + 1 : Nat) : Int), g'.val], H) := by
  have hn := wd_le hf.w64
  obtain ⟨r, r1, r2⟩ := c34 (f := { f with zero := f.zero ||| (1#64) <<< i }) hf.w0 hf.w64 hf.least H
  obtain ⟨s, s1, s2⟩ := c34 (f := { f with one := f.one ||| (1#64) <<< i }) hf.w0 hf.w64 hf.least H
  have f1 := flag_iff r1 hf.top
  have f2 := flag_iff s1 hf.top
  have a1 : (!flagOf { f with zero := f.zero ||| (1#64) <<< i } r) = true ↔ ∀ t, Mem f t → t.getLsbD i = true := by
    rw [Bool.not_eq_true', ← Bool.not_eq_true, f1]
    constructor
    · intro h t ht
      cases q : t.getLsbD i with
      | true => rfl
      | false => exact absurd ⟨t, (fit_zero (by omega)).2 ⟨ht.1, q⟩, ht.2⟩ h
    · rintro h ⟨t, t1, t2⟩
      have := (fit_zero (show i < 64 by omega)).1 t1
      rw [h t ⟨this.1, t2⟩] at this; exact absurd this.2 (by decide)
  have a2 : (!flagOf { f with one := f.one ||| (1#64) <<< i } s) = true ↔ ∀ t, Mem f t → t.getLsbD i = false := by
    rw [Bool.not_eq_true', ← Bool.not_eq_true, f2]
    constructor
    · intro h t ht
      cases q : t.getLsbD i with
      | false => rfl
      | true => exact absurd ⟨t, (fit_one (by omega)).2 ⟨ht.1, q⟩, ht.2⟩ h
    · rintro h ⟨t, t1, t2⟩
      have := (fit_one (show i < 64 by omega)).1 t1
      rw [h t ⟨this.1, t2⟩] at this; exact absurd this.2 (by decide)
  have r2 : R 34 [Fct.val { f with zero := f.zero ||| (1#64) <<< i }] H = some (.tuple #[wv (r.getD 0#64), .bool (flagOf { f with zero := f.zero ||| (1#64) <<< i } r)], H) := r2
  have s2 : R 34 [Fct.val { f with one := f.one ||| (1#64) <<< i }] H = some (.tuple #[wv (s.getD 0#64), .bool (flagOf { f with one := f.one ||| (1#64) <<< i } s)], H) := s2
  refine ⟨⟨g.w, if (!flagOf { f with zero := f.zero ||| (1#64) <<< i } r) = true then g.one ||| (1#64) <<< i else g.one, if (!flagOf { f with one := f.one ||| (1#64) <<< i } s) = true then g.zero ||| (1#64) <<< i else g.zero, g.least, g.top⟩, h.step (by omega) rfl rfl rfl a1 a2 rfl rfl, ?_⟩
  unfold s21_1
  simp only [List.getD_cons_zero, List.drop_succ_cons, List.drop_zero, f_w, s_call (c28 hf.w0 H), s_lss, s_bool, s_br, decide_eq_true_eq, cu64 i (by omega), u_1, b_shl, f_all, sp_0, f_zero, f_one, b_or, sp_zero, sp_one, sp_f, s_call r2, s_call s2, q_ext0, q_ext1, s_not, i_inc _ i (by omega), agg_cells]
  rw [if_pos (by omega)]
  cases flagOf { f with zero := f.zero ||| (1#64) <<< i } r <;> cases flagOf { f with one := f.one ||| (1#64) <<< i } s <;> rfl
theorem loop21 {f : Fct} (hf : f.May) {lo hi : W64} (H : Hp) : ∀ (d i : Nat) (g : Fct), i + d = wd f.w → Inv33 f g lo hi i →
    ∃ g', Inv33 f g' lo hi (wd f.w) ∧ loopD (s21_1 R f.val) [.int .i64 (i : Int), g.val] H = some (.exit 0, [.int .i64 ((wd f.w : Nat) : Int), g'.val], H)
  | 0, i, g, hd, h => by
    obtain rfl : i = wd f.w := by omega
    refine ⟨g, h, ?_⟩
    rw [loopD_eq]
    have : s21_1 R f.val [.int .i64 ((wd f.w : Nat) : Int), g.val] H = some (.exit 0, [.int .i64 ((wd f.w : Nat) : Int), g.val], H) := by
      unfold s21_1
      simp only [List.getD_cons_zero, List.drop_succ_cons, List.drop_zero, f_w, s_call (c28 hf.w0 H), s_lss, s_bool, s_br, decide_eq_true_eq, agg_cells]
      rw [if_neg (by omega)]
    rw [this]; rfl
  | d + 1, i, g, hd, h => by
    obtain ⟨g1, i1, e1⟩ := s21_step hf (show i < wd f.w by omega) h H
    obtain ⟨g2, i2, e2⟩ := loop21 hf H d (i + 1) g1 (by omega) i1
    refine ⟨g2, i2, ?_⟩
    rw [loopD_eq, e1]
    exact e2
theorem c21 (f : Fct) (H : Hp) : ∃ g e, SetR f g e ∧ R 21 [f.val] H = some (.tuple #[g.val, .int .i64 e], H) := by
  have hr := (r21 E14 rfl f.val H).trans (k21 _ _ _)
  rw [f_all, s_call (c8 f H), s_not, s_bool, s_br] at hr
  by_cases hf : f.May
  case neg =>
    rw [if_pos (by simp [hf]), b_nil, sp_0, f_all] at hr
    exact ⟨F0, 5, .inl ⟨hf, rfl, rfl⟩, hr⟩
  have hn := wd_le hf.w64
  rw [if_neg (by simp [hf])] at hr
  obtain ⟨r, r1, r2⟩ := c34 hf.w0 hf.w64 hf.least H
  have r2 : R 34 [f.val] H = some (.tuple #[wv (r.getD 0#64), .bool (flagOf f r)], H) := r2
  have fl := flag_iff r1 hf.top
  rw [f_all, s_call r2, q_ext0, q_ext1, s_not, s_bool, s_br] at hr
  cases hq : flagOf f r with
  | false =>
    rw [hq] at fl hr
    rw [if_pos (by decide), b_nil, sp_0, f_all] at hr
    exact ⟨F0, 1, .inr (.inl ⟨hf, fun t ht => absurd (fl.2 ⟨t, ht⟩) (by decide), rfl, rfl⟩), hr⟩
  | true =>
    rw [hq] at fl hr
    obtain ⟨t, ht⟩ := fl.1 rfl
    obtain ⟨s, d1, d2⟩ := c35 hf H
    cases r with
    | none => exact absurd (r1 t ht.1 ht.2.1 (by have := ht.2.2; have := hf.top; omega)) id
    | some lo =>
      cases s with
      | none => exact absurd (d1 t ht.1 ht.2.2) id
      | some hi =>
        have hlo : Mem f lo := ⟨r1.1, r1.2.1, by have := r1.2.2.2 t ht.1 ht.2.1; have := ht.2.2; omega⟩
        have hhi : Mem f hi := ⟨d1.1, by have := d1.2.2 t ht.1 ht.2.2; have := ht.2.1; omega, d1.2.1⟩
        have hI0 : Inv33 f ⟨f.w, 0#64, 0#64, lo, hi⟩ lo hi 0 := ⟨rfl, rfl, rfl, fun j => by simp, fun j => by simp⟩
        obtain ⟨g, g1, g2⟩ := loop21 hf H (wd f.w) 0 ⟨f.w, 0#64, 0#64, lo, hi⟩ (by omega) hI0
        have g2' : loopD (s21_1 R f.val) [.int .i64 0, Fct.val ⟨f.w, 0#64, 0#64, lo, hi⟩] H = some (.exit 0, [.int .i64 ((wd f.w : Nat) : Int), g.val], H) := g2
        rw [if_neg (by decide), f_w, f_all, s_call d2, Option.getD_some, Option.getD_some, b_wlt, sp_0, agg_cells, g2', s_bind, s_exit, s_onExit] at hr
        simp only [List.drop_succ_cons, List.drop_zero, List.getD_cons_zero, f_all, sp_0] at hr
        refine ⟨g, 0, .inr (.inr ⟨hf, ⟨g1.w, by rw [g1.least]; exact hlo, by rw [g1.top]; exact hhi, fun t ht => ?_, g1.one, g1.zero⟩, rfl⟩), hr⟩
        rw [g1.least, g1.top]
        exact ⟨r1.2.2.2 t ht.1 ht.2.1, d1.2.2 t ht.1 ht.2.2⟩
theorem SetR.eq {f g h : Fct} {e i : Int} (h1 : SetR f g e) (h2 : SetR f h i) : g = h ∧ e = i := by
  rcases h1 with ⟨a, rfl, rfl⟩ | ⟨a, b, rfl, rfl⟩ | ⟨a, b, rfl⟩ <;> rcases h2 with ⟨c, rfl, rfl⟩ | ⟨c, d, rfl, rfl⟩ | ⟨c, d, rfl⟩ <;> first | exact ⟨rfl, rfl⟩ | exact absurd ‹f.May› ‹¬ f.May› | skip
  · exact absurd d.lo (b _)
  · exact absurd b.lo (d _)
  · exact ⟨b.same rfl (fun _ => Iff.rfl) d, rfl⟩
end Go.AM.N14
/- KnownLattice: the run. -/
set_option linter.unusedVariables false
set_option linter.unusedSimpArgs false
namespace Go.AM.N14
open Go Go.AM
theorem joinF_comm (a b : Fct) (hw : a.w = b.w) : joinF b a = joinF a b := by
  unfold joinF
  simp only [Fct.mk.injEq]
  refine ⟨hw.symm, BitVec.and_comm .., BitVec.and_comm .., BitVec.eq_of_toNat_eq ?_, BitVec.eq_of_toNat_eq ?_⟩
  · split <;> split <;> omega
  · split <;> split <;> omega
theorem joinF_idem (a : Fct) : joinF a a = a := by
  unfold joinF
  simp
theorem joinF_assoc (a b c : Fct) : joinF (joinF a b) c = joinF a (joinF b c) := by
  unfold joinF
  simp only [Fct.mk.injEq]
  refine ⟨trivial, BitVec.and_assoc .., BitVec.and_assoc .., BitVec.eq_of_toNat_eq ?_, BitVec.eq_of_toNat_eq ?_⟩
  · repeat' split
    all_goals omega
  · repeat' split
    all_goals omega
def Out (p : Fct) (e : Int) (w : Int) (M : W64 → Prop) : Prop := (e = 0 ∧ Sd p ∧ p.w = w ∧ ∀ t, Mem p t ↔ M t) ∨ (e = 1 ∧ p = F0 ∧ ∀ t, ¬ M t)
theorem Out.eq {p q : Fct} {e i w : Int} {M N : W64 → Prop} (h : Out p e w M) (k : Out q i w N) (hm : ∀ t, M t ↔ N t) : p = q ∧ e = i := by
  rcases h with ⟨rfl, h1, h2, h3⟩ | ⟨rfl, rfl, h3⟩ <;> rcases k with ⟨rfl, k1, k2, k3⟩ | ⟨rfl, rfl, k3⟩
  · refine ⟨?_, rfl⟩
    have := h1.stl.same (h2.trans k2.symm) (fun t => (h3 t).trans ((hm t).trans (k3 t).symm)) k1.stl
    exact this
  · exact absurd ((hm _).1 ((h3 _).1 h1.stl.lo)) (k3 _)
  · exact absurd ((hm _).2 ((k3 _).1 k1.stl.lo)) (h3 _)
  · exact ⟨rfl, rfl⟩
theorem c14o {x y : Fct} (hx : Sd x) (hy : Sd y) (hw : x.w = y.w) (H : Hp) : ∃ p e, R 14 [x.val, y.val] H = some (.tuple #[p.val, .int .i64 e], H) ∧ Out p e x.w fun t => Mem x t ∧ Mem y t := by
  obtain ⟨p, e, h1, h2⟩ := c14s hx hy hw H
  exact ⟨p, e, h1, h2⟩
theorem c14a (x y : Fct) (H : Hp) : ∃ (p : Fct) (e : Int), R 14 [x.val, y.val] H = some (.tuple #[p.val, .int .i64 e], H) := by
  obtain ⟨a, b, e, p, e', h1, h2, h3⟩ := c14 x y H
  exact ⟨_, _, h3⟩
theorem has (a : Fct) (x : W64) (H : Hp) : ∃ v : Bool, R 10 [a.val, wv x] H = some (.bool v, H) ∧ (Sd a → (v = true ↔ Mem a x)) :=
  ⟨_, c10 a x H, fun h => by simp [h.may]⟩
theorem run4 (f g h : Fct) (x : W64) : ∃ H', R 4 [f.val, g.val, h.val, wv x] (H00 Go.Proofs.Tryd.prog) = some (.bool true, H') := by
  obtain ⟨HL, hL⟩ := live_run
  have hr := r4 E14 rfl f.val g.val h.val (wv x) (H00 Go.Proofs.Tryd.prog)
  refine ⟨HL, hr.trans ?_⟩
  clear hr
  obtain ⟨a, ea, sa, ga⟩ := c7 f HL
  obtain ⟨b, eb, sb, gb⟩ := c7 g HL
  obtain ⟨c, ec, sc, gc⟩ := c7 h HL
  unfold m4
  simp only [s_call hL, s_not, s_bool, s_br, f_all, s_call ga, q_ext0, q_ext1, sp_0, s_call gb, s_call gc, f_w, s_neq, Bool.not_true, Bool.false_eq_true, if_false]
  by_cases ha : ea = 0
  case neg => simp [ha, s_bind, s_ret]
  by_cases hb : eb = 0
  case neg => simp [ha, hb, s_bind, s_ret]
  by_cases hc : ec = 0
  case neg => simp [ha, hb, hc, s_bind, s_ret]
  by_cases w1 : a.w = b.w
  case neg => simp [ha, hb, hc, w1, s_bind, s_ret]
  by_cases w2 : b.w = c.w
  case neg => simp [ha, hb, hc, w1, w2, s_bind, s_ret]
  have sd : ∀ {f g : Fct} {e : Int}, SetR f g e → e = 0 → Sd g := fun {f g e} h he => by
    rcases h with ⟨_, _, q⟩ | ⟨_, _, _, q⟩ | ⟨q1, q2, _⟩
    · omega
    · omega
    · exact q2.sd q1
  have da := sd sa ha
  have db := sd sb hb
  have dc := sd sc hc
  subst ha hb hc
  obtain ⟨dj, ja, jb⟩ := join_sd da db w1
  obtain ⟨dm, mb, mc⟩ := join_sd db dc w2
  have h1 := c12s da db w1 HL
  have h2 := c12s db da w1.symm HL
  have h3 := c12s da da rfl HL
  rw [joinF_comm _ _ w1] at h2
  rw [joinF_idem] at h3
  have h4 := c12s dj dc (show a.w = c.w from w1.trans w2) HL
  have h5 := c12s db dc w2 HL
  have h6 := c12s da dm (show a.w = b.w from w1) HL
  rw [← joinF_assoc] at h6
  obtain ⟨va, q1, v1⟩ := has a x HL
  obtain ⟨vb, q2, v2⟩ := has b x HL
  obtain ⟨vj, q3, v3⟩ := has (joinF a b) x HL
  have v1 := v1 da
  have v2 := v2 db
  have v3 := v3 dj
  have vj1 : va = true → vj = true := fun h => v3.2 (ja _ (v1.1 h))
  have vj2 : vb = true → vj = true := fun h => v3.2 (jb _ (v2.1 h))
  obtain ⟨p, e, k1, o1⟩ := c14o da db w1 HL
  obtain ⟨q, i, k2, o2⟩ := c14o db da w1.symm HL
  obtain ⟨r, n, k3, o3⟩ := c14o da da rfl HL
  obtain ⟨s, e1, k4, o4⟩ := c14o db dc w2 HL
  obtain ⟨rfl, rfl⟩ := o1.eq (w1 ▸ o2) (fun t => And.comm)
  have hr : r = a ∧ n = 0 := by
    have : Out a 0 a.w fun t => Mem a t ∧ Mem a t := .inl ⟨rfl, da, rfl, fun t => by simp⟩
    exact o3.eq this fun t => Iff.rfl
  obtain ⟨rfl, rfl⟩ := hr
  obtain ⟨vp, q4, v4⟩ := has p x HL
  have vp1 : e = 0 → vp = (va && vb) := fun he => by
    rcases o1 with ⟨_, y1, y2, y3⟩ | ⟨y, _⟩
    · have := v4 y1
      rw [Bool.eq_iff_iff, this, y3, Bool.and_eq_true, v1, v2]
    · omega
  have vp2 : e ≠ 0 → (va && vb) = false := fun he => by
    rcases o1 with ⟨y, _⟩ | ⟨_, _, y⟩
    · omega
    · have : ¬ (Mem r x ∧ Mem b x) := y x
      rw [← v1, ← v2, ← Bool.and_eq_true] at this
      simpa using this
  obtain ⟨t, e2, u, e3, k5, k6, hfin⟩ : ∃ (t : Fct) (e2 : Int) (u : Fct) (e3 : Int), R 14 [p.val, c.val] HL = some (.tuple #[t.val, .int .i64 e2], HL) ∧ R 14 [r.val, s.val] HL = some (.tuple #[u.val, .int .i64 e3], HL) ∧
      ((e = 0 ∧ e2 = 0) ↔ (e1 = 0 ∧ e3 = 0)) ∧ (e = 0 ∧ e2 = 0 → t = u) := by
    rcases o1 with ⟨rfl, y1, y2, y3⟩ | ⟨rfl, rfl, y3⟩
    · obtain ⟨t, e2, k5, o5⟩ := c14o y1 dc (y2.trans (w1.trans w2)) HL
      rcases o4 with ⟨rfl, z1, z2, z3⟩ | ⟨rfl, rfl, z3⟩
      · obtain ⟨u, e3, k6, o6⟩ := c14o da z1 (w1.trans z2.symm) HL
        obtain ⟨rfl, rfl⟩ := (y2 ▸ o5).eq o6 fun t => by rw [y3, z3, and_assoc]
        exact ⟨_, _, _, _, k5, k6, by simp, fun _ => rfl⟩
      · obtain ⟨u, e3, k6⟩ := c14a r F0 HL
        refine ⟨_, _, _, _, k5, k6, ?_, ?_⟩
        · rcases o5 with ⟨_, x1, x2, x3⟩ | ⟨rfl, _⟩
          · have := (x3 _).1 x1.stl.lo
            exact absurd ⟨((y3 _).1 this.1).2, this.2⟩ (z3 _)
          · simp
        · rcases o5 with ⟨_, x1, x2, x3⟩ | ⟨rfl, _⟩
          · have := (x3 _).1 x1.stl.lo
            exact absurd ⟨((y3 _).1 this.1).2, this.2⟩ (z3 _)
          · simp
    · obtain ⟨t, e2, k5⟩ := c14a F0 c HL
      rcases o4 with ⟨rfl, z1, z2, z3⟩ | ⟨rfl, rfl, z3⟩
      · obtain ⟨u, e3, k6, o6⟩ := c14o da z1 (w1.trans z2.symm) HL
        refine ⟨_, _, _, _, k5, k6, ?_, by simp⟩
        rcases o6 with ⟨_, x1, x2, x3⟩ | ⟨rfl, _⟩
        · have := (x3 _).1 x1.stl.lo
          exact absurd ⟨this.1, ((z3 _).1 this.2).1⟩ (y3 _)
        · simp
      · obtain ⟨u, e3, k6⟩ := c14a r F0 HL
        exact ⟨_, _, _, _, k5, k6, by simp, by simp⟩
  obtain ⟨hlr, htu⟩ := hfin
  have w1' : decide (r.w ≠ b.w) = false := by simp [w1]
  have w2' : decide (b.w ≠ c.w) = false := by simp [w2]
  have z0 : IntKind.i64.wrap (0 + 0) = 0 := by decide
  simp only [w1', w2', decide_true, Bool.not_true, Bool.false_eq_true, if_false, s_bind, s_next, s_call h1, s_call h2, s_call h3, x_30, q_ext0, q_ext1, sp_0, s_call (c13 _ _), f_all, s_add, s_neq, f_neq, s_bool, s_br, s_call q1, s_call q2, s_call q3, s_not, ne_eq, not_true, decide_false, z0]
  have ev1 : (if va = true then if (!vj) = true then (some (Ctl.ret, [Value.bool false], HL) : Option Outc) else some (Ctl.next, [], HL) else if vb = true then if (!vj) = true then some (Ctl.ret, [Value.bool false], HL) else some (Ctl.next, [], HL) else some (Ctl.next, [], HL)) = some (Ctl.next, [], HL) := by
    cases va <;> cases vb <;> simp_all
  rw [ev1]
  simp only [s_bind, s_next, s_call h4, s_call h5, s_call h6, q_ext0, q_ext1, sp_0, f_all, s_add, s_neq, f_neq, s_bool, s_br, ne_eq, not_true, decide_false, decide_true, z0, Bool.false_eq_true, if_false, s_call k1, s_call k2, s_call (c13 _ _), b_bneq, s_call q4, s_call q1, s_call q2, s_eql]
  have nt : (if (!true) = true then (some (Ctl.ret, [Value.bool false], HL) : Option Outc) else some (Ctl.next, [], HL)) = some (Ctl.next, [], HL) := rfl
  rw [nt]
  by_cases he : e = 0
  · have hvp := vp1 he
    subst he
    cases va <;> cases vb <;> subst hvp <;>
    simp only [s_bind, s_next, s_call q1, s_call q2, s_call q4, q_ext0, q_ext1, sp_0, f_all, s_neq, f_neq, s_bool, s_br, s_call k1, s_call k2, s_call k3, s_call k4, s_call k5, s_call k6, s_call (c13 _ _), b_bneq, s_eql, ne_eq, not_true, decide_false, decide_true, Bool.false_eq_true, if_false, if_true, Bool.and_true, Bool.and_false, Bool.and_self,
      beq_self_eq_true, Bool.not_true, Bool.not_false, not_false_iff] <;>
    (by_cases x2 : e2 = 0 <;> by_cases x1 : e1 = 0 <;> by_cases x3 : e3 = 0 <;>
     simp [x1, x2, x3, s_bind, s_next, s_call q1, s_call q2, s_call q4, q_ext0, q_ext1, sp_0, f_all, s_neq, f_neq, s_bool, s_br, s_call k1, s_call k2, s_call k3, s_call k4, s_call k5, s_call k6, s_call (c13 _ _), b_bneq, s_eql, q_beql _ _ _ u4, s_not, f_eql] at hlr ⊢ <;> (try (have := htu ⟨rfl, x2⟩; subst this; simp [f_eql])))
  · have hvp := vp2 he
    cases va <;> cases vb <;> cases vp <;> cases hvp <;>
    simp only [s_bind, s_next, s_call q1, s_call q2, s_call q4, q_ext0, q_ext1, sp_0, f_all, s_neq, f_neq, s_bool, s_br, s_call k1, s_call k2, s_call k3, s_call k4, s_call k5, s_call k6, s_call (c13 _ _), b_bneq, s_eql, ne_eq, not_true, decide_false, decide_true, Bool.false_eq_true, if_false, if_true, Bool.and_true, Bool.and_false, Bool.and_self,
      beq_self_eq_true, Bool.not_true, Bool.not_false, not_false_iff, he] <;>
    (by_cases x2 : e2 = 0 <;> by_cases x1 : e1 = 0 <;> by_cases x3 : e3 = 0 <;>
     simp [he, x1, x2, x3, s_bind, s_next, s_call q1, s_call q2, s_call q4, q_ext0, q_ext1, sp_0, f_all, s_neq, f_neq, s_bool, s_br, s_call k1, s_call k2, s_call k3, s_call k4, s_call k5, s_call k6, s_call (c13 _ _), b_bneq, s_eql, q_beql _ _ _ u4, s_not, f_eql] at hlr ⊢)
end Go.AM.N14
/- KnownFacts: the run. -/
set_option linter.unusedVariables false
set_option linter.unusedSimpArgs false
set_option maxRecDepth 100000
namespace Go.AM.N14
open Go Go.AM Go.ChangeShapes Go.WideShapes Go.ChangeAt Go.RowKit
theorem int_arg {HH : Type} {enc : TypeId × Value → HH} {W : World} {b0 : Nat} {v' : Value} {dw : DataW HH} {ps : List MemPlace}
    (hval : Value.okWide Go.Proofs.Tryd.prog W .any b0 3 v') (hd : DataW.Trod enc Go.Proofs.Tryd.prog W 0 (fun _ => true) true 3 v' dw ps) : ∃ x : Int, v' = .int .i64 x := by
  obtain ⟨a, rfl, _, _, hw⟩ := open_int Go.Proofs.Tryd.underlying3 hval hd
  exact ⟨_, rfl⟩
theorem int_rel (x : Int) (β : Bt) : VRel β (.int .i64 x) (.int .i64 x) := .int _ _
/-- All, Alone. -/
def allR (w : Int) : Fct × Int := if w < 0 then (F0, 5) else if w > 64 then (F0, 5) else (⟨w, 0#64, 0#64, 0#64, msk (wd w)⟩, 0)
def aloneR (w : Int) (x : W64) : Fct × Int := if w < 0 then (F0, 5) else if w > 64 then (F0, 5) else if (msk (wd w)).toNat < x.toNat then (F0, 5) else (⟨w, x, msk (wd w) &&& ~~~x, x, x⟩, 0)
theorem c31 {w : Int} (hw : w ≤ 64) (H : Hp) : R 31 [.int .i64 w] H = some (Fct.val ⟨w, 0#64, 0#64, 0#64, msk (wd w)⟩, H) := by
  refine (r31 E14 rfl _ H).trans ?_
  unfold m31
  simp only [s_call (c26 hw H), b_wt, sp_0, f_all]
theorem c32 {w : Int} (hw : w ≤ 64) (x : W64) (H : Hp) : R 32 [.int .i64 w, wv x] H = some (Fct.val ⟨w, x, msk (wd w) &&& ~~~x, x, x⟩, H) := by
  refine (r32 E14 rfl _ _ H).trans ?_
  unfold m32
  simp only [s_call (c26 hw H), b_andNot, b_5, sp_0, f_all]
theorem c15 (w : Int) (H : Hp) : R 15 [.int .i64 w] H = some (.tuple #[(allR w).1.val, .int .i64 (allR w).2], H) := by
  refine (r15 E14 rfl _ H).trans ?_
  unfold m15 allR
  simp only [s_lss, s_gtr, s_bool, s_br, decide_eq_true_eq, b_nil, sp_0, f_all]
  by_cases h0 : w < 0
  · simp only [h0, if_true]
  by_cases h1 : w > 64
  · simp only [h0, h1, if_true, if_false]
  · simp only [h0, h1, if_false, s_call (c31 (show w ≤ 64 by omega) H), sp_0, f_all]
theorem c16 (w : Int) (H : Hp) : R 16 [.int .i64 w] H = some (.tuple #[(allR w).1.val, .int .i64 (allR w).2], H) := by
  refine (r16 E14 rfl _ H).trans ?_
  unfold m16 allR
  simp only [s_lss, s_gtr, s_bool, s_br, decide_eq_true_eq, b_nil, sp_0, f_all]
  by_cases h0 : w < 0
  · simp only [h0, if_true]
  by_cases h1 : w > 64
  · simp only [h0, h1, if_true, if_false]
  · simp only [h0, h1, if_false, s_call (c11 (show 0 ≤ w by omega) (show w ≤ 64 by omega) H), b_wt, sp_0, f_all]
theorem c17 (w : Int) (x : W64) (H : Hp) : R 17 [.int .i64 w, wv x] H = some (.tuple #[(aloneR w x).1.val, .int .i64 (aloneR w x).2], H) := by
  refine (r17 E14 rfl _ _ H).trans ?_
  unfold m17 aloneR
  simp only [s_lss, s_gtr, s_bool, s_br, decide_eq_true_eq, b_nil, sp_0, f_all]
  by_cases h0 : w < 0
  · simp only [h0, if_true]
  by_cases h1 : w > 64
  · simp only [h0, h1, if_true, if_false]
  simp only [h0, h1, if_false, s_call (c26 (show w ≤ 64 by omega) H), b_gtr, s_bool, decide_eq_true_eq]
  by_cases h2 : (msk (wd w)).toNat < x.toNat
  · simp only [h2, if_true]
  · simp only [h2, if_false, s_call (c32 (show w ≤ 64 by omega) x H), sp_0, f_all]
theorem c18 (w : Int) (x : W64) (H : Hp) : R 18 [.int .i64 w, wv x] H = some (.tuple #[(aloneR w x).1.val, .int .i64 (aloneR w x).2], H) := by
  refine (r18 E14 rfl _ _ H).trans ?_
  unfold m18 aloneR
  simp only [s_lss, s_gtr, s_bool, s_br, decide_eq_true_eq, b_nil, sp_0, f_all]
  by_cases h0 : w < 0
  · simp only [h0, if_true]
  by_cases h1 : w > 64
  · simp only [h0, h1, if_true, if_false]
  simp only [h0, h1, if_false, s_call (c11 (show 0 ≤ w by omega) (show w ≤ 64 by omega) H), b_gtr, s_bool, decide_eq_true_eq]
  by_cases h2 : (msk (wd w)).toNat < x.toNat
  · simp only [h2, if_true]
  · simp only [h2, if_false, b_andNot, b_5, sp_0, f_all]
/-- The answer of 'both'. -/
def BothR (f g x y : Fct) (e : Int) : Prop :=
  (¬ (f.May ∧ g.May ∧ f.w = g.w) ∧ e = 5) ∨ ((f.May ∧ g.May ∧ f.w = g.w) ∧ ((∀ t, ¬ Mem f t) ∨ ∀ t, ¬ Mem g t) ∧ e = 1) ∨ ((f.May ∧ g.May ∧ f.w = g.w) ∧ Stl f x ∧ Stl g y ∧ e = 0)
theorem c36 (f g : Fct) (H : Hp) : ∃ x y e, BothR f g x y e ∧ R 36 [f.val, g.val] H = some (.tuple #[x.val, y.val, .int .i64 e], H) := by
  have hr := r36 E14 rfl f.val g.val H
  unfold m36 at hr
  simp only [f_all, s_call (c8 _ H), s_not, s_bool, s_br, sp_0, f_w, s_neq] at hr
  by_cases hf : f.May
  case neg =>
    simp only [hf, decide_false, Bool.not_false, if_true, s_bind, s_ret] at hr
    exact ⟨f, g, 5, .inl ⟨fun q => hf q.1, rfl⟩, hr⟩
  by_cases hg : g.May
  case neg =>
    simp only [hf, hg, decide_false, decide_true, Bool.not_true, Bool.not_false, if_true, if_false, s_bind, s_ret, Bool.false_eq_true] at hr
    exact ⟨f, g, 5, .inl ⟨fun q => hg q.2.1, rfl⟩, hr⟩
  by_cases hw : f.w = g.w
  case neg =>
    simp only [hf, hg, hw, decide_true, Bool.not_true, Bool.not_false, if_true, if_false, s_bind, s_ret, Bool.false_eq_true, ne_eq, not_false_iff] at hr
    exact ⟨f, g, 5, .inl ⟨fun q => hw q.2.2, rfl⟩, hr⟩
  have hall : f.May ∧ g.May ∧ f.w = g.w := ⟨hf, hg, hw⟩
  obtain ⟨x, e, hx, x1⟩ := c21 f H
  obtain ⟨y, i, hy, y1⟩ := c21 g H
  simp only [hf, hg, hw, decide_true, Bool.not_true, if_false, s_bind, s_next, Bool.false_eq_true, ne_eq, not_true, decide_false, s_call x1, s_call y1, q_ext0, q_ext1, sp_0, s_neq, s_bool, List.drop_zero, List.getD_cons_zero, List.getD_cons_succ, V0_val, sp_f, f_all, decide_eq_true_eq] at hr
  rcases hx with ⟨q, _⟩ | ⟨_, q, _, rfl⟩ | ⟨_, q, rfl⟩
  · exact absurd hf q
  · rw [if_pos (by decide)] at hr
    exact ⟨f, g, 1, .inr (.inl ⟨hall, .inl q, rfl⟩), hr⟩
  · rw [if_neg (by decide)] at hr
    rcases hy with ⟨r, _⟩ | ⟨_, r, rfl, rfl⟩ | ⟨_, r, rfl⟩
    · exact absurd hg r
    · exact ⟨x, F0, 1, .inr (.inl ⟨hall, .inr r, rfl⟩), hr⟩
    · exact ⟨x, y, 0, .inr (.inr ⟨hall, q, r, rfl⟩), hr⟩
theorem c37 (x y : Fct) (H : Hp) : R 37 [x.val, y.val] H = some ((joinF x y).val, H) := by
  refine (r37 E14 rfl _ _ H).trans ?_
  unfold m37
  simp only [f_w, f_one, f_zero, f_least, f_top, b_and, b_5, sp_0, b_lss, b_gtr, s_bool, s_br, decide_eq_true_eq, sp_least, sp_top, f_all]
  unfold joinF
  by_cases h1 : y.least.toNat < x.least.toNat <;> by_cases h2 : x.top.toNat < y.top.toNat <;> simp only [h1, h2, if_true, if_false]
theorem c22 (f g : Fct) (H : Hp) : ∃ x y e p e', BothR f g x y e ∧ SetR (meetF x y) p e' ∧ R 22 [f.val, g.val] H = some (.tuple #[(if e = 0 then p else F0).val, .int .i64 (if e = 0 then e' else e)], H) := by
  obtain ⟨x, y, e, h1, h2⟩ := c36 f g H
  obtain ⟨p, e', h3, h4⟩ := c21 (meetF x y) H
  refine ⟨x, y, e, p, e', h1, h3, (r22 E14 rfl _ _ H).trans ?_⟩
  unfold m22
  simp only [f_all, s_call h2, x_30, x_31, x_32, sp_0, s_neq, s_bool, s_br, decide_eq_true_eq, b_nil, f_w, f_one, f_zero, f_least, f_top, b_or, b_5, b_gtr, b_lss, sp_least, sp_top]
  unfold meetF at h4
  by_cases he : e = 0
  · subst he
    by_cases h1 : x.least.toNat < y.least.toNat <;> by_cases h2 : y.top.toNat < x.top.toNat <;> simp only [h1, h2, if_true, if_false, ne_eq, not_true, s_call h4] at h4 ⊢ <;> simp only [s_call h4, q_ext0, q_ext1, sp_0, f_all]
  · simp only [he, if_true, if_false, ne_eq, not_false_iff]
theorem c23 (f g : Fct) (H : Hp) : ∃ x y e p e', BothR f g x y e ∧ SetR (joinF x y) p e' ∧ R 23 [f.val, g.val] H = some (.tuple #[(if e = 0 then p else F0).val, .int .i64 (if e = 0 then e' else e)], H) := by
  obtain ⟨x, y, e, h1, h2⟩ := c36 f g H
  obtain ⟨p, e', h3, h4⟩ := c21 (joinF x y) H
  refine ⟨x, y, e, p, e', h1, h3, (r23 E14 rfl _ _ H).trans ?_⟩
  unfold m23
  simp only [f_all, s_call h2, x_30, x_31, x_32, sp_0, s_neq, s_bool, s_br, decide_eq_true_eq, b_nil, s_call (c37 x y H), s_call h4, q_ext0, q_ext1]
  by_cases he : e = 0
  · simp only [he, if_true, if_false, ne_eq, not_true]
  · simp only [he, if_true, if_false, ne_eq, not_false_iff]
theorem two_both {f g x y x' y' : Fct} {e i : Int} (h : TwoR f g x y e) (k : BothR f g x' y' i) : e = i ∧ (e = 0 → x = x' ∧ y = y' ∧ Sd x ∧ Sd y ∧ x.w = y.w) := by
  rcases h with ⟨a, _, _, rfl⟩ | ⟨a, b, _, _, rfl⟩ | ⟨a, b, c, rfl⟩ <;> rcases k with ⟨a', rfl⟩ | ⟨a', b', rfl⟩ | ⟨a', b', c', rfl⟩
  · exact ⟨rfl, fun q => by cases q⟩
  · exact absurd a' a
  · exact absurd a' a
  · exact absurd a a'
  · exact ⟨rfl, fun q => by cases q⟩
  · rcases b with b | b
    · exact absurd b'.lo (b _)
    · exact absurd c'.lo (b _)
  · exact absurd a a'
  · rcases b' with b' | b'
    · exact absurd b.lo (b' _)
    · exact absurd c.lo (b' _)
  · exact ⟨rfl, fun _ => ⟨b.same rfl (fun _ => Iff.rfl) b', c.same rfl (fun _ => Iff.rfl) c', b.sd a.1, c.sd a.2.1, b.w.trans (a.2.2.trans c.w.symm)⟩⟩
theorem run5 (f g : Fct) (w : Int) (x : W64) : ∃ H', R 5 [f.val, g.val, .int .i64 w, wv x] (H00 Go.Proofs.Tryd.prog) = some (.bool true, H') := by
  obtain ⟨HL, hL⟩ := live_run
  refine ⟨HL, (r5 E14 rfl _ _ _ _ _).trans ?_⟩
  obtain ⟨g1, e1, s1, q1⟩ := c20 f HL
  obtain ⟨g2, e2, s2, q2⟩ := c21 f HL
  obtain ⟨rfl, rfl⟩ := s1.eq s2
  obtain ⟨x3, y3, e3, p3, i3, a3, b3, q3⟩ := c14 f g HL
  obtain ⟨x4, y4, e4, p4, i4, a4, b4, q4⟩ := c22 f g HL
  obtain ⟨x5, y5, e5, a5, q5⟩ := c12 f g HL
  obtain ⟨x6, y6, e6, p6, i6, a6, b6, q6⟩ := c23 f g HL
  obtain ⟨rfl, t4⟩ := two_both a3 a4
  obtain ⟨rfl, t6⟩ := two_both a5 a6
  have m1 : (if e3 = 0 then p3 else F0) = (if e3 = 0 then p4 else F0) ∧ (if e3 = 0 then i3 else e3) = (if e3 = 0 then i4 else e3) := by
    by_cases he : e3 = 0
    · obtain ⟨rfl, rfl, _⟩ := t4 he
      obtain ⟨rfl, rfl⟩ := (b3 he).eq b4
      exact ⟨rfl, rfl⟩
    · rw [if_neg he, if_neg he, if_neg he, if_neg he]; exact ⟨rfl, rfl⟩
  have m2 : (if e5 = 0 then joinF x5 y5 else F0) = (if e5 = 0 then p6 else F0) ∧ e5 = (if e5 = 0 then i6 else e5) := by
    by_cases he : e5 = 0
    · obtain ⟨rfl, rfl, dx, dy, dw⟩ := t6 he
      obtain ⟨dj, _⟩ := join_sd dx dy dw
      obtain ⟨rfl, rfl⟩ := b6.eq (.inr (.inr ⟨dj.may, dj.stl, rfl⟩))
      simp [he]
    · rw [if_neg he, if_neg he, if_neg he]; exact ⟨rfl, rfl⟩
  rw [m1.1, m1.2] at q3
  rw [m2.1] at q5
  have q5 : R 12 [f.val, g.val] HL = some (.tuple #[(if e5 = 0 then p6 else F0).val, .int .i64 (if e5 = 0 then i6 else e5)], HL) := by rw [← m2.2]; exact q5
  unfold m5
  simp only [s_call (c15 w _), s_call (c16 w _), q_ext0, q_ext1, sp_0, sp_f, f_all, f_neq, f_eql, ne_eq, not_true, decide_true, Bool.not_true, s_bool, s_br, Bool.false_eq_true, if_false, if_true, s_call (c13 _ _), s_neq, s_eql, decide_false, s_call hL, s_not, s_bind, s_next,
    s_call (c17 w x HL), s_call (c18 w x HL), s_call (c19 f HL), s_call (c8 f HL), b_bneq, beq_self_eq_true, s_call (c10 f x HL), s_call (c9 f x HL), s_call q1, s_call q2, s_call q3, s_call q4, s_call q5, s_call q6]
end Go.AM.N14
