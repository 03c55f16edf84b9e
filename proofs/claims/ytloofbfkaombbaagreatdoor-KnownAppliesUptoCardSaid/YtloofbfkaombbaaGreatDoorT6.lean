/- Part of the proof of KnownAppliesUptoCardSaid: see the last file.  -/
import Derived.KernelRfl
import Derived.Test.YtloofbfkaombbaaGreatDoorCards
import Derived.Test.YtloofbfkaombbaaGreatDoorTie
import Derived.WalkKit
import Derived.ProofKit
import Derived.OpenShut
import Derived.Deep.DeepHandedRow
import Derived.Lib.LaidTab
import Derived.Lib.LaidU8
import Derived.Test.YtloofbfkaombbaaGreatDoorT0
import Derived.Test.YtloofbfkaombbaaGreatDoorT3
import Derived.Test.YtloofbfkaombbaaGreatDoorT4
import Derived.Test.YtloofbfkaombbaaGreatDoorT5
set_option linter.unusedSimpArgs false
set_option linter.unusedVariables false
set_option linter.unusedSectionVars false
set_option maxRecDepth 100000
namespace Go.AM.N14
open Go Go.AM
theorem b3f (g : Nat → Fct) {α : Type} (k : Value → Option α) : zar PP T.a3_api_Fact [(0, (g 0).val), (1, (g 1).val), (2, (g 2).val)] k = k (fsV g) := bld (by kernel_rfl) k
theorem sp_15 (g : Nat → Fct) {α : Type} (k : List Value → Option α) : zac 15 [.int .i64 0, .int .u64 0, .int .u64 0, .int .u64 0, .int .u64 0, .int .i64 0, .int .u64 0, .int .u64 0, .int .u64 0, .int .u64 0, .int .i64 0, .int .u64 0, .int .u64 0, .int .u64 0, .int .u64 0] 0 (fsV g) k = k (fsC g) := rfl
theorem zpk : Value.agg (zaa F0.val).toArray = F0.val := rfl
theorem sorts4 {n : Nd} (h : n.op = 4) (a b c : Int) : zbT n a b c = decide (n.num = 0) := by
  unfold zbT zbb
  rw [if_neg (show ¬ n.op ≤ 2 by omega), if_neg (show ¬ n.op = 3 by omega), if_pos h]
  by_cases q : n.num = 0
  · rw [if_neg (fun z => z.1 q), decide_eq_true q]
  · rw [if_pos ⟨q, by omega, by omega⟩, decide_eq_false q]
def EqD {α : Type} (a b : α) : Prop := a = b
theorem applies {n : Nd} (hnum : 0 ≤ n.num ∧ n.num < 18446744073709551616) (g : Nat → Fct) : ∃ (r : Fct) (e : Int),
    (∀ H, TabB H → ∃ H', RR F.a15 [n.val, (g 0).val, (g 1).val, (g 2).val] H = some (.tuple #[r.val, .int .i64 e], H') ∧ Fr0 H H') ∧
    ∀ H, RR F.a13 [n.val, (g 0).val, (g 1).val, (g 2).val] H = some (.tuple #[r.val, .int .i64 e], H) := by
  have P := fun H => ((zls E0 rfl n.val (g 0).val (g 1).val (g 2).val H).trans (zlO _ _ _ _ _ _)).symm
  have Q := fun H => ((zfY E0 rfl n.val (g 0).val (g 1).val (g 2).val H).trans (zf8 _ _ _ _ _ _)).symm
  by_cases o1 : n.op < 1
  · refine ⟨F0, 73, fun H hT => ⟨H, ?_, Fr0.refl H⟩, fun H => ?_⟩
    · have h := P H
      rw [n0, lT o1, zcZ, sp_0, zak, zao, zbM, zb4] at h
      exact h.symm
    · have h := Q H
      rw [n0, lT o1, zcZ, sp_0, zak, zao, zbM, zb4] at h
      exact h.symm
  by_cases o2 : n.op > 33
  · refine ⟨F0, 73, fun H hT => ⟨H, ?_, Fr0.refl H⟩, fun H => ?_⟩
    · have h := P H
      rw [n0, lF o1, n0, zbl, bT o2, zcZ, sp_0, zak, zao, zbM, zb4] at h
      exact h.symm
    · have h := Q H
      rw [n0, lF o1, n0, zbl, bT o2, zcZ, sp_0, zak, zao, zbM, zb4] at h
      exact h.symm
  have ho : 1 ≤ n.op ∧ n.op ≤ 33 := by omega
  have hk3 : (0 : Int) ≤ zam n.op ∧ zam n.op ≤ 3 := by rcases zbU n.op with q | q | q | q <;> rw [q] <;> decide
  obtain ⟨k, hk⟩ : ∃ k : Nat, (k : Int) = zam n.op := ⟨(zam n.op).toNat, by omega⟩
  have hk' : k ≤ 3 := by omega
  have hpr : zoK n.op = (k : Int) := by unfold zoK; rw [if_neg (by omega), hk]
  have zagg : Value.agg [Value.int .i64 0, .int .u64 0, .int .u64 0, .int .u64 0, .int .u64 0].toArray = F0.val := rfl
  have hwide : ∀ H : Hp, (pBin PP .lss T.int (.int .i64 n.w) (.int .i64 0) fun v26 => zad v26 fun b27 => br b27 (some (Ctl.next, [(.bool true)], H)) (zab 1 false (zaa n.val) 1 fun v28 => pBin PP .gtr T.int v28 (.int .i64 64) fun v29 => some (Ctl.next, [v29], H))) = (some (.next, [.bool (decide (n.w < 0 ∨ n.w > 64))], H) : Option Outc) := fun H => by
    rw [zbj, zag]
    by_cases q : n.w < 0
    · rw [decide_eq_true q, zap, decide_eq_true (.inl q)]
    · rw [decide_eq_false q, zan, n1, zbl, show decide (n.w > 64) = decide (n.w < 0 ∨ n.w > 64) from decide_eq_decide.2 ⟨.inr, fun z => z.resolve_left q⟩]
  have hP1 : ∀ H w', zaA (zbp RR (.int .i64 (k : Int)) (fsC g)) [.bool (decide (n.w < 0 ∨ n.w > 64)), .int .i64 0] H = some (.exit 0, [.bool w', .int .i64 (k : Int)], H) → w' = true → RR F.a15 [n.val, (g 0).val, (g 1).val, (g 2).val] H = some (.tuple #[F0.val, .int .i64 5], H) := fun H w' l hw' => by
    have h := P H
    rw [n0, lF o1, n0, zbl, bF o2, zao, zai, zak, zak, zak, b3f, sp_15, n0, zae (zlE ho H), ← hk, n1, hwide H, zao, zai] at h
    simp only [qg0, qd0] at h
    rw [l, zao, zbq, zaT] at h
    simp only [qg0] at h
    rw [zag, hw', zap, zcZ, zagg, sp_f, zak] at h
    exact h.symm
  by_cases hw : n.w < 0 ∨ n.w > 64
  · refine ⟨F0, 5, fun H hT => ?_, fun H => ?_⟩
    · obtain ⟨w', h1, h2⟩ := p_may hk' g H k 0 (decide (n.w < 0 ∨ n.w > 64)) (by omega)
      exact ⟨H, hP1 H w' h2 (h1.2 (.inl (decide_eq_true hw))), Fr0.refl H⟩
    · have h := Q H
      rw [n0, lF o1, n0, zbl, bF o2, zao, zai, n1, zbj, zag] at h
      simp only [qg0, qd0] at h
      by_cases q : n.w < 0
      · rw [decide_eq_true q, zap, zcZ, zagg, sp_f, zak, zao, zbM, zb4] at h
        exact h.symm
      · rw [decide_eq_false q, zan, n1, zbl, bT (hw.resolve_left q), zcZ, zagg, sp_f, zak, zao, zbM, zb4] at h
        exact h.symm
  have hww : 0 ≤ n.w ∧ n.w ≤ 64 := by omega
  have hQ0 : ∀ H, EqD (RR F.a13 [n.val, (g 0).val, (g 1).val, (g 2).val] H) _ := fun H => by
    have h := Q H
    rw [n0, lF o1, n0, zbl, bF o2, zao, zai, n1, lF (by omega), n1, zbl, bF (by omega), zao, zai, n0, zae (Go.AM.c46 n.op H), zak, zak, zak, b3f, sp_15, hpr] at h
    simp only [qg0, qd0] at h
    rw [zagg, zpk, zpk] at h
    exact h.symm
  by_cases hm : ∃ j, j < k ∧ ¬ (g j).May
  · refine ⟨F0, 5, fun H hT => ?_, fun H => ?_⟩
    · obtain ⟨w', h1, h2⟩ := p_may hk' g H k 0 (decide (n.w < 0 ∨ n.w > 64)) (by omega)
      obtain ⟨j, j1, j2⟩ := hm
      exact ⟨H, hP1 H w' h2 (h1.2 (.inr ⟨j, Nat.zero_le _, j1, j2⟩)), Fr0.refl H⟩
    · have h : _ = _ := hQ0 H
      rcases q_may hk' g F0 H k 0 (by omega) with ⟨z, _⟩ | ⟨_, l⟩
      · obtain ⟨j, j1, j2⟩ := hm
        exact absurd (z j (Nat.zero_le _) j1) j2
      · have l' : zaA (zaO RR (.int .i64 (k : Int)) (fsC g)) [.int .i64 0, F0.val] H = _ := l
        rw [l', zao, zbM, zb4] at h
        exact h
  have hmay : ∀ j, j < k → (g j).May := fun j hj => Classical.byContradiction fun z => hm ⟨j, hj, z⟩
  obtain ⟨s, e, hS⟩ := parts_of hmay
  have he : ∀ i, i < k → e i = 0 ∨ e i = 1 := fun i hi => by
    rcases hS.set i hi with ⟨q, _⟩ | ⟨_, _, _, q⟩ | ⟨_, _, q⟩
    · exact absurd (hmay i hi) q
    · exact .inr q
    · exact .inl q
  have m0 : fsV (mixP k s g 0) = fsV g := zmZ fun i _ => if_neg (by omega)
  have q0 : fsV (mixQ k s g 0) = fsV g := zmZ fun i _ => if_neg (by omega)
  have w0 : wsV (mixW s 0) = .agg #[.int .i64 0, .int .i64 0, .int .i64 0] := by unfold wsV mixW; rfl
  have lq0 : zgK k s 0 = true := by unfold zgK; rw [Nat.zero_min]; rfl
  have hP0 : ∀ H, EqD (RR F.a15 [n.val, (g 0).val, (g 1).val, (g 2).val] H) _ := fun H => by
    obtain ⟨w', h1, h2⟩ := p_may hk' g H k 0 false (by omega)
    have hw' : w' = false := by
      cases w' with
      | false => rfl
      | true =>
        rcases h1.1 rfl with q | ⟨j, _, j2, j3⟩
        · cases q
        · exact absurd (hmay j j2) j3
    have h2' : zaA (zbp RR (.int .i64 (k : Int)) (fsC g)) [.bool false, .int .i64 0] H = _ := h2
    have h := P H
    rw [n0, lF o1, n0, zbl, bF o2, zao, zai, zak, zak, zak, b3f, sp_15, n0, zae (zlE ho H), ← hk, n1, hwide H, decide_eq_false hw, zao, zai] at h
    simp only [qg0, qd0] at h
    rw [h2', zao, zbq, zaT] at h
    simp only [qg0] at h
    rw [zag, hw', zan, zagg, zpk, zn2] at h
    exact h.symm
  have hQ1 : ∀ H, EqD (RR F.a13 [n.val, (g 0).val, (g 1).val, (g 2).val] H) _ := fun H => by
    have h : _ = _ := hQ0 H
    rcases q_may hk' g F0 H k 0 (by omega) with ⟨_, l⟩ | ⟨⟨j, _, j2, j3⟩, _⟩
    · have l' : zaA (zaO RR (.int .i64 (k : Int)) (fsC g)) [.int .i64 0, F0.val] H = _ := l
      rw [l', zao, zbq, zaT] at h
      simp only [qg0, qd1, qd0] at h
      rw [zpk, zn2] at h
      exact h
    · exact absurd (hmay j j2) j3
  have pS := fun H => p_set hk' hS H k 0 (by omega)
  have qS := fun H => q_set hk' hS he H 3 0 (by omega)
  rw [m0, w0] at pS
  rw [q0, lq0] at qS
  by_cases hz : ∃ j, j < k ∧ e j ≠ 0
  · obtain ⟨j, j1, j2⟩ := hz
    refine ⟨F0, 1, fun H hT => ⟨H, ?_, Fr0.refl H⟩, fun H => ?_⟩
    · have h : _ = _ := hP0 H
      rcases pS H with ⟨z, _⟩ | ⟨_, l⟩
      · exact absurd (z j (Nat.zero_le _) j1) j2
      · have l' : zaA (zbi RR (.int .i64 (k : Int))) [.bool true, .int .i64 0, F0.val, fsV g, .agg [.int .i64 0, .int .i64 0, .int .i64 0].toArray] H = _ := l
        rw [l', zao, zbM, zb4] at h
        exact h
    · have h : _ = _ := hQ1 H
      rcases qS H with ⟨z, _⟩ | ⟨_, l⟩
      · exact absurd (z j (Nat.zero_le _) j1) j2
      · have l' : zaA (zaN RR (.int .i64 (k : Int))) [.bool true, .int .i64 0, F0.val, fsV g] H = _ := l
        rw [l', zao, zbM, zb4] at h
        exact h
  have e0 : ∀ j, j < k → e j = 0 := fun j hj => Classical.byContradiction fun z => hz ⟨j, hj, z⟩
  have stl : ∀ j, j < k → Sd (s j) := fun j hj => by
    rcases hS.set j hj with ⟨q, _⟩ | ⟨_, _, _, q⟩ | ⟨_, q, _⟩
    · exact absurd (hmay j hj) q
    · rw [e0 j hj] at q; cases q
    · exact q.sd (hmay j hj)
  have pfE : ∀ i, i < 3 → mixQ k s g 3 i = pf n (mixP k s g k) i := fun i hi => by
    unfold mixQ pf mixP
    rw [if_pos hi]
    by_cases q : i < k
    · rw [if_pos q, if_pos (by omega), if_pos q]
    · rw [if_neg q, if_neg (by omega)]
  have pwE : ∀ i, i < 3 → zdC (mixW s k) n.op i = (mixQ k s g 3 i).w := fun i hi => by
    unfold mixQ zdC mixW
    rw [if_pos hi]
    by_cases q : i < k
    · rw [if_pos (by omega), if_pos q, if_pos q]
    · rw [if_neg (by omega), if_neg q]
  have hWd : ∀ i, i < 3 → Wd (mixQ k s g 3 i) := fun i hi => by
    unfold mixQ
    rw [if_pos hi]
    split
    · rename_i q
      have := (stl i q).may
      exact ⟨⟨this.w0, this.w64⟩, this.least⟩
    · exact ⟨by decide, by decide⟩
  have hWd' : ∀ i : Nat, (i : Int) < zam n.op → Wd (mixP k s g k i) := fun i hi => by
    unfold mixP
    rw [if_pos (by omega)]
    have := (stl i (by omega)).may
    exact ⟨⟨this.w0, this.w64⟩, this.least⟩
  have hws : ∀ i, i < 3 → 0 ≤ mixW s k i ∧ mixW s k i ≤ 64 := fun i hi => by
    unfold mixW
    split
    · rename_i q
      have := (stl i q).may
      exact ⟨this.w0, this.w64⟩
    · decide
  have hPb : ∀ H, EqD (RR F.a15 [n.val, (g 0).val, (g 1).val, (g 2).val] H) _ := fun H => by
    have h : _ = _ := hP0 H
    rcases pS H with ⟨_, l⟩ | ⟨⟨j, _, j2, j3⟩, _⟩
    · have l' : zaA (zbi RR (.int .i64 (k : Int))) [.bool true, .int .i64 0, F0.val, fsV g, .agg [.int .i64 0, .int .i64 0, .int .i64 0].toArray] H = _ := l
      have na : ∀ (k : Value → Option (Value × Hp)), zab 7 true (zaa n.val) 0 k = k n.val := fun k => rfl
      have nw : ∀ (ws : Nat → Int) (k : Value → Option (Value × Hp)), zab 3 true (zaa (wsV ws)) 0 k = k (wsV ws) := fun ws k => rfl
      rw [l', zao, zbq, zaT] at h
      simp only [qg0, qg1, qd1, qd0] at h
      rw [na, nw] at h
      exact h
    · exact absurd (e0 j j2) j3
  have hQb : ∀ H, EqD (RR F.a13 [n.val, (g 0).val, (g 1).val, (g 2).val] H) _ := fun H => by
    have h : _ = _ := hQ1 H
    rcases qS H with ⟨_, l⟩ | ⟨⟨j, _, j2, j3⟩, _⟩
    · have l' : zaA (zaN RR (.int .i64 (k : Int))) [.bool true, .int .i64 0, F0.val, fsV g] H = _ := l
      have na : ∀ (k : Value → Option (Value × Hp)), zab 7 true (zaa n.val) 0 k = k n.val := fun k => rfl
      have cell0 : ∀ (fs : Nat → Fct) (k : Value → Option (Value × Hp)), zab 1 false (zaa (fsV fs)) 0 k = k (.int .i64 (fs 0).w) := fun fs k => rfl
      have cell5 : ∀ (fs : Nat → Fct) (k : Value → Option (Value × Hp)), zab 1 false (zaa (fsV fs)) 5 k = k (.int .i64 (fs 1).w) := fun fs k => rfl
      have cell10 : ∀ (fs : Nat → Fct) (k : Value → Option (Value × Hp)), zab 1 false (zaa (fsV fs)) 10 k = k (.int .i64 (fs 2).w) := fun fs k => rfl
      rw [l', zao, zbq, zaT] at h
      simp only [qg0, qg1, qd1, qd0] at h
      rw [na, cell0, cell5, cell10, zae (q_sorts ho hww hnum (hWd 0 (by decide)).w (hWd 1 (by decide)).w H), za4, zag] at h
      exact h
    · exact absurd (e0 j j2) j3
  have hshape : ∀ H, ∃ H', RR F.a53 [n.val, wsV (mixW s k)] H = some (.bool (zbT n (mixQ k s g 3 0).w (mixQ k s g 3 1).w (mixQ k s g 3 2).w), H') ∧ Fr0 H H' := fun H => by
    obtain ⟨H', h1, h2, h3⟩ := p_shape ho hww hnum hws H
    refine ⟨H', ?_, h2, fun j hj _ => h3 j hj⟩
    rw [h1, pwE 0 (by decide), pwE 1 (by decide), pwE 2 (by decide)]
    by_cases q : n.op = 4
    · rw [if_pos q, sorts4 q]
    · rw [if_neg q]
  cases hs : zbT n (mixQ k s g 3 0).w (mixQ k s g 3 1).w (mixQ k s g 3 2).w with
  | false =>
    refine ⟨F0, 71, fun H hT => ?_, fun H => ?_⟩
    · obtain ⟨H', h1, h2⟩ := hshape H
      have h : _ = _ := hPb H
      rw [zae h1, za4, zag, hs, Bool.not_false, zap, zcZ, sp_f, zak] at h
      exact ⟨H', h, h2⟩
    · have h : _ = _ := hQb H
      rw [hs, Bool.not_false, zap, zcZ, sp_f, zak] at h
      exact h
  | true =>
    by_cases h4 : n.op = 4
    · have hal : allR n.w = (⟨n.w, 0#64, 0#64, 0#64, msk (wd n.w)⟩, 0) := by unfold allR; rw [if_neg (by omega), if_neg (by omega)]
      refine ⟨⟨n.w, 0#64, 0#64, 0#64, msk (wd n.w)⟩, 0, fun H hT => ?_, fun H => ?_⟩
      · obtain ⟨H', h1, h2⟩ := hshape H
        have h : _ = _ := hPb H
        rw [zae h1, za4, zag, hs, Bool.not_true, zan, n0, eT h4, n1, zae (c31 hww.2 H'), sp_f, zak] at h
        exact ⟨H', h, h2⟩
      · have h : _ = _ := hQb H
        have ha := c16 n.w H
        rw [hal] at ha
        rw [hs, Bool.not_true, zan, n0, eT h4, n1, zae ha, x01, sp_f, zak] at h
        exact h
    have hsP : zbT n (pf n (mixP k s g k) 0).w (pf n (mixP k s g k) 1).w (pf n (mixP k s g k) 2).w = true := by
      rw [← pfE 0 (by decide), ← pfE 1 (by decide), ← pfE 2 (by decide)]; exact hs
    cases hlone : zeI s k with
    | true =>
      let X := valW n (mixQ k s g 3 0).w.toNat (mixQ k s g 3 1).w.toNat (mixQ k s g 3 0).least (mixQ k s g 3 1).least (mixQ k s g 3 2).least
      have hX : X.toNat ≤ (msk (wd n.w)).toNat := val_le ho h4 hww hnum (hWd 0 (by decide)) (hWd 1 (by decide)) (hWd 2 (by decide)) hs
      have hal : zgr n.w X = (⟨n.w, X, msk (wd n.w) &&& ~~~X, X, X⟩, 0) := by unfold zgr; rw [if_neg (by omega), if_neg (by omega), if_neg (by omega)]
      refine ⟨⟨n.w, X, msk (wd n.w) &&& ~~~X, X, X⟩, 0, fun H hT => ?_, fun H => ?_⟩
      · obtain ⟨H', h1, h2⟩ := hshape H
        obtain ⟨H2, v1, v2, v3⟩ := p_kvalue ho h4 hww hnum hWd' hsP H'
        have v1' : RR F.a56 [n.val, fsV (mixP k s g k)] H' = some (wv X, H2) := by
          rw [v1, ← pfE 0 (by decide), ← pfE 1 (by decide), ← pfE 2 (by decide)]
        have h : _ = _ := hPb H
        have na : ∀ (k : Value → Option (Value × Hp)), zab 7 true (zaa n.val) 0 k = k n.val := fun k => rfl
        have nf : ∀ (fs : Nat → Fct) (k : Value → Option (Value × Hp)), zab 15 true (zaa (fsV fs)) 0 k = k (fsV fs) := fun fs k => rfl
        rw [zae h1, za4, zag, hs, Bool.not_true, zan, n0, eF h4, zag, hlone, zap, n1, na, nf, zae v1', zae (c32 hww.2 X H2), sp_f, zak] at h
        exact ⟨H2, h, h2.trans ⟨v2, fun j hj _ => v3 j hj⟩⟩
      · have h : _ = _ := hQb H
        have na : ∀ (k : Value → Option (Value × Hp)), zab 7 true (zaa n.val) 0 k = k n.val := fun k => rfl
        have l3 : ∀ (fs : Nat → Fct) (k : Value → Option (Value × Hp)), zab 1 false (zaa (fsV fs)) 3 k = k (wv (fs 0).least) := fun fs k => rfl
        have l8 : ∀ (fs : Nat → Fct) (k : Value → Option (Value × Hp)), zab 1 false (zaa (fsV fs)) 8 k = k (wv (fs 1).least) := fun fs k => rfl
        have l13 : ∀ (fs : Nat → Fct) (k : Value → Option (Value × Hp)), zab 1 false (zaa (fsV fs)) 13 k = k (wv (fs 2).least) := fun fs k => rfl
        have cell0 : ∀ (fs : Nat → Fct) (k : Value → Option (Value × Hp)), zab 1 false (zaa (fsV fs)) 0 k = k (.int .i64 (fs 0).w) := fun fs k => rfl
        have cell5 : ∀ (fs : Nat → Fct) (k : Value → Option (Value × Hp)), zab 1 false (zaa (fsV fs)) 5 k = k (.int .i64 (fs 1).w) := fun fs k => rfl
        have wA := hWd 0 (by decide)
        have wB := hWd 1 (by decide)
        have a1 := wA.w
        have b1 := wB.w
        have key : ∀ y : Fct, Wd y → y.w.toNat = 0 → y.least.toNat ≤ 1 := fun y hy h0 => by
          have h1 := hy.l
          have h2 := hy.w
          rw [show y.w = 0 by omega] at h1
          exact h1
        have ea : (((mixQ k s g 3 0).w.toNat : Nat) : Int) = (mixQ k s g 3 0).w := by omega
        have eb : (((mixQ k s g 3 1).w.toNat : Nat) : Int) = (mixQ k s g 3 1).w := by omega
        have vk := vok_of ho h4 hww hnum (c := (mixQ k s g 3 2).w) (wa := (mixQ k s g 3 0).w.toNat) (wb := (mixQ k s g 3 1).w.toNat) (by omega) (by omega) (key _ wA) (key _ wB) (by rw [ea, eb]; exact hs)
        have hof := q_of vk (mixQ k s g 3 2).least H
        rw [ea, eb] at hof
        have hof' : RR F.a63 [n.val, wv (mixQ k s g 3 0).least, wv (mixQ k s g 3 1).least, wv (mixQ k s g 3 2).least, .int .i64 (mixQ k s g 3 0).w, .int .i64 (mixQ k s g 3 1).w] H = some (wv X, H) := hof
        have ha := c18 n.w X H
        rw [hal] at ha
        rw [hs, Bool.not_true, zan, n0, eF h4, zag, hlone, zap, n1, na, l3, l8, l13, cell0, cell5, zae hof', zae ha, x01, sp_f, zak] at h
        exact h
    | false =>
      have hk1 : 1 ≤ k := by
        rcases Nat.eq_zero_or_pos k with q | q
        · rw [q] at hlone; cases hlone
        · exact q
      have h5 : 5 ≤ n.op := by
        refine Classical.byContradiction fun z => ?_
        have : zam n.op = 0 := by unfold zam; rw [if_pos (by omega)]
        omega
      have mP : ∀ i, i < k → mixP k s g k i = s i := fun i hi => if_pos hi
      have mQ : ∀ i, i < k → mixQ k s g 3 i = s i := fun i hi => by unfold mixQ; rw [if_pos (by omega), if_pos hi]
      have hnl : ¬ ∀ j, j < k → (s j).least = (s j).top := fun z => by
        rw [(zo0 s k).2 z] at hlone; cases hlone
      obtain ⟨x, y, hrow, rp, rq⟩ := table_row (n := n) (a := s 0) (b := mixP k s g k 1) (c := mixP k s g k 2) (b2 := mixQ k s g 3 1) (c2 := mixQ k s g 3 2) ho hww hnum (stl 0 (by omega))
        (fun q => ⟨by rw [mP 1 (by omega)]; exact stl 1 (by omega), by rw [mP 1 (by omega), mQ 1 (by omega)]⟩) (fun q => ⟨by rw [mP 2 (by omega)]; exact stl 2 (by omega), by rw [mP 2 (by omega), mQ 2 (by omega)]⟩)
        (by rw [← mQ 0 (by omega)]; exact hs) (fun ⟨z0, z1, z2⟩ => hnl fun j hj => by
          match j, hj with
          | 0, _ => exact z0
          | 1, hj => have := z1 (by omega); rwa [mP 1 hj] at this
          | 2, hj => have := z2 (by omega); rwa [mP 2 hj] at this
          | j + 3, hj => omega) h5
      obtain ⟨r, er, g1, g2, g3⟩ := zfL hrow.mx hrow.my hrow.w hrow.mem
      have hr01 : (er = 0) ∨ (er = 1 ∧ r = F0) := by
        rcases g1 with ⟨q, _⟩ | ⟨_, _, q1, q2⟩ | ⟨_, _, q⟩
        · exact absurd hrow.mx q
        · exact .inr ⟨q2, q1⟩
        · exact .inl q
      refine ⟨r, er, fun H hT => ?_, fun H => ?_⟩
      · obtain ⟨H', h1, h2⟩ := hshape H
        obtain ⟨H2, v1, v2⟩ := rp H' (hT.fr h2)
        have h : _ = _ := hPb H
        have na : ∀ (k : Value → Option (Value × Hp)), zab 7 true (zaa n.val) 0 k = k n.val := fun k => rfl
        have f0 : ∀ (fs : Nat → Fct) (k : Value → Option (Value × Hp)), zab 5 true (zaa (fsV fs)) 0 k = k (fs 0).val := fun fs k => rfl
        have f5 : ∀ (fs : Nat → Fct) (k : Value → Option (Value × Hp)), zab 5 true (zaa (fsV fs)) 5 k = k (fs 1).val := fun fs k => rfl
        have f10 : ∀ (fs : Nat → Fct) (k : Value → Option (Value × Hp)), zab 5 true (zaa (fsV fs)) 10 k = k (fs 2).val := fun fs k => rfl
        rw [zae h1, za4, zag, hs, Bool.not_true, zan, n0, eF h4, zag, hlone, zan, na, f0, f5, f10, mP 0 (by omega), zae v1, zae (g2 H2), x01, sp_0, za4, zag] at h
        refine ⟨H2, ?_, h2.trans v2⟩
        rcases hr01 with q | ⟨q, q'⟩
        · rw [decide_eq_true q, Bool.not_true, zan, zak, sp_f, zak] at h
          rw [q]; exact h
        · rw [decide_eq_false (by omega), Bool.not_false, zap, zcZ, sp_f, zak] at h
          rw [q, q']; exact h
      · have h : _ = _ := hQb H
        have na : ∀ (k : Value → Option (Value × Hp)), zab 7 true (zaa n.val) 0 k = k n.val := fun k => rfl
        have f0 : ∀ (fs : Nat → Fct) (k : Value → Option (Value × Hp)), zab 5 true (zaa (fsV fs)) 0 k = k (fs 0).val := fun fs k => rfl
        have f5 : ∀ (fs : Nat → Fct) (k : Value → Option (Value × Hp)), zab 5 true (zaa (fsV fs)) 5 k = k (fs 1).val := fun fs k => rfl
        have f10 : ∀ (fs : Nat → Fct) (k : Value → Option (Value × Hp)), zab 5 true (zaa (fsV fs)) 10 k = k (fs 2).val := fun fs k => rfl
        rw [hs, Bool.not_true, zan, n0, eF h4, zag, hlone, zan, na, f0, f5, f10, mQ 0 (by omega), zae (rq H), zae (g3 H), x01, sp_f, zak] at h
        exact h
end Go.AM.N14
namespace Go.AM
open Go
def eqL (f : Value → Value → Bool) : List Value → List Value → Bool
  | [], [] => true
  | a :: r, b :: s => match f a b with
    | true => eqL f r s
    | false => false
  | _, _ => false
theorem zjU {f : Value → Value → Bool} (hf : ∀ a b, f a b = true → a = b) : ∀ {l m : List Value}, eqL f l m = true → l = m
  | [], [], _ => rfl
  | [], _ :: _, h => by cases h
  | _ :: _, [], h => by cases h
  | a :: r, b :: s, h => by
    unfold eqL at h
    cases q : f a b with
    | true => rw [q] at h; rw [hf a b q, zjU hf h]
    | false => rw [q] at h; cases h
def eqF : Value → Value → Bool
  | .bool a, .bool b => a == b
  | .int k a, .int j b => decide (k = j) && decide (a = b)
  | .string a, .string b => decide (a.data.toList = b.data.toList)
  | .pointer a, .pointer b => decide (a = b)
  | .slice a n m, .slice b i j => decide (a = b) && (decide (n = i) && decide (m = j))
  | .map a, .map b => decide (a = b)
  | _, _ => false
theorem zm7 (a b : Value) (h : eqF a b = true) : a = b := by
  unfold eqF at h
  split at h <;> first | (cases h; done) | skip
  · rename_i x y; exact congrArg Value.bool (by simpa using h)
  · simp only [Bool.and_eq_true, decide_eq_true_eq] at h; rw [h.1, h.2]
  · rename_i x y
    have : x.data.toList = y.data.toList := of_decide_eq_true h
    cases x; cases y
    rename_i x y
    exact congrArg (fun z => Value.string ⟨z⟩) (Array.ext' this)
  · rw [of_decide_eq_true h]
  · simp only [Bool.and_eq_true, decide_eq_true_eq] at h; rw [h.1, h.2.1, h.2.2]
  · rw [of_decide_eq_true h]
def eqA (f : Value → Value → Bool) (a b : Value) : Bool :=
  match a, b with
  | .agg a, .agg b => eqL f a.toList b.toList
  | .tuple a, .tuple b => eqL f a.toList b.toList
  | a, b => eqF a b
theorem eqA_sound {f : Value → Value → Bool} (hf : ∀ a b, f a b = true → a = b) (a b : Value) (h : eqA f a b = true) : a = b := by
  unfold eqA at h
  split at h
  · exact congrArg Value.agg (Array.ext' (zjU hf h))
  · exact congrArg Value.tuple (Array.ext' (zjU hf h))
  · exact zm7 _ _ h
def eqV : Nat → Value → Value → Bool
  | 0 => eqF
  | n + 1 => eqA (eqV n)
theorem zm6 : ∀ (n : Nat) (a b : Value), eqV n a b = true → a = b
  | 0 => zm7
  | n + 1 => eqA_sound (zm6 n)
def eqO : Option Value → Value → Bool
  | some a, b => eqV 8 a b
  | none, _ => false
noncomputable def chkE {α : Type} (o : Option Value) (v : Value) (k : Option α) : Option α := match eqO o v with
  | true => k
  | false => chk (o = some v) k
theorem chkE_eq {α : Type} (o : Option Value) (v : Value) (k : Option α) : chkE o v k = chk (o = some v) k := by
  unfold chkE
  cases h : eqO o v with
  | false => rfl
  | true =>
    cases o with
    | none => cases h
    | some a =>
      have : a = v := zm6 8 a v h
      subst this
      unfold chk
      dsimp only
      rw [if_pos rfl]
noncomputable def zph {α : Type} (C : Ctx) (fr : Fr) (S : St) (o : Oper) (s : Slot) (k : Option α) : Option α :=
  let G := C.P.globals.size
  match s with
  | .val v => match o.op with
    | .load T a => tyC C.P T fun n agg => match ev G fr a with
      | .loc d off => match S.bx d with
        | some (.cells cs _) => chkE (zcz cs off n agg) v k
        | _ => none
      | .val p => chkE (S.hp.rdP p n agg) v k
      | _ => none
    | .lookup T m key ok => sV (ev G fr m) fun m => sV (ev G fr key) fun key => mapC C.P T fun kt z =>
        chkE (zcn C.P kt z m key ok S.hp some) v k
    | .call c => evs G fr c.args.toList fun vs => match vs, c.argTypes.toList with
      | [x], [t] => match C.P.underlying t with
        | some d => match lenK d with
          | some q => chkE (lenV q x S.hp) v k
          | none => none
        | none => none
      | _, _ => none
    | _ => none
  | _ => none
theorem znk : @zph = @zgW := by
  funext α C fr S o s k
  unfold zph zgW zo1
  simp only [chkE_eq] <;> rfl
noncomputable def zhH {α : Type} (C : Ctx) (an i : Nat) (o : Oper) (fr : Fr) (s : Slot) (tag : Option Nat) (k : Option α) : List (Nat × Option Nat × St) → Option α
  | [] => k
  | (j, t, S) :: r => match an.testBit j || !(zb7 t tag) with
    | true => zhH C an i o fr s tag k r
    | false => zph C fr S o s (zhH C an i o fr s tag k r)
theorem zoc : @zhH = @zes := by
  funext α C an i o fr s tag k l
  induction l with
  | nil => rfl
  | cons x r ih => unfold zhH zes; rw [ih, znk] <;> rfl
noncomputable def zhG {α : Type} (C : Ctx) (an : Nat) (tag : Option Nat) (S : St) (k : Option α) : List Rd → Option α
  | [] => k
  | r :: rs => match an.testBit r.i || !(zb7 r.tag tag) with
    | true => zhG C an tag S k rs
    | false => zph C r.fr S r.o r.s (zhG C an tag S k rs)
theorem zob : @zhG = @zer := by
  funext α C an tag S k l
  induction l with
  | nil => rfl
  | cons x r ih => unfold zhG zer; rw [ih, znk] <;> rfl
noncomputable def zoa {α : Type} (C : Ctx) (ops : List Oper) (an : List Nat) (k : Fr → St → Option α) : List Oper → Nat → Fr → St → List (Nat × Option Nat × St) → List Rd → Option α
  | [], _, fr, S, _, _ => k fr S
  | o :: rest, i, fr, S, es, rs => zdP ops fr o fun w fr => match w with
    | false => zoa C ops an k rest (i + 1) (putS fr o.dst .und) S es rs
    | true => match zbP C.P C.O C.f o with
      | .pure => opD C fr S o fun s S' => zoa C ops an k rest (i + 1) (putS fr o.dst s) S' es rs
      | .read => opD C fr S o fun s S' => zhH C (an.getD i 0) i o fr s (zbD C fr o)
          (zoa C ops an k rest (i + 1) (putS fr o.dst s) S' es (rs ++ [⟨i, o, fr, s, zbD C fr o⟩])) es
      | .eff => opD C fr S o fun s S' => zhG C (an.getD i 0) (zbD C fr o) S'
          (zoa C ops an k rest (i + 1) (putS fr o.dst s) S' (es ++ [(i, zbD C fr o, S)]) rs) rs
theorem zo8 {α : Type} (C : Ctx) (ops : List Oper) (an : List Nat) (k : Fr → St → Option α) : ∀ (l : List Oper), zoa C ops an k l = zh5 C ops an k l
  | [] => rfl
  | o :: l => by
    funext i fr S es rs
    unfold zoa zh5
    simp only [zo8 C ops an k l, zoc, zob] <;> rfl
noncomputable def drawHM {α : Type} (C : Ctx) (ops : List Oper) (k : Fr → St → Option α) (fr : Fr) (S : St) : Option α :=
  zhD C (fun S => zoa C ops (ancs ops) k ops 0 fr S [] []) ops S
theorem drawHM_eq {α : Type} (C : Ctx) (ops : List Oper) (k : Fr → St → Option α) : drawHM C ops k = zpL C ops k := by
  funext fr S
  unfold drawHM zpL
  simp only [zo8]
noncomputable def zeX (m : Nat) (C : Ctx) (rs : List ResultVar) : Code → (α : Type) → Fr → St → K α → Option α
  | .skip, _, fr, S, k => k.norm fr S
  | .region _ ops draw, _, fr, S, k => match draw with
    | false => opsC C ops.toList k.norm ops.toList fr S
    | true => match zeV C.P C.O C.f ops.toList (ancs ops.toList) with
      | true => drawHM C ops.toList k.norm fr S
      | false => none
  | .seq a b, α, fr, S, k => match C.O.join C.f (rid b) with
    | none => zeX m C rs a α fr S { k with norm := fun fr S => zeX m C rs b α fr S k }
    | some (ks, kb) => zaC (zeX m C rs a Outc fr ⟨roB kb S.bx, S.hp⟩ (Kout ks kb)) fun c l H => zaJ c
      (zeX m C rs b α (zdV (wr a []) ks l fr 0) ⟨zc6 kb (l.drop ks.length) S.bx, H⟩ k)
      (fun id => k.exit id (zdV (wr a []) ks l fr 0) ⟨zc6 kb (l.drop ks.length) S.bx, H⟩)
      (k.ret (l.headD undef) H)
  | .cond c x y, α, fr, S, k => sV (ev C.P.globals.size fr c) fun v => zad v fun t => br t (zeX m C rs x α fr S k) (zeX m C rs y α fr S k)
  | .block id c, α, fr, S, k => zeX m C rs c α fr S { k with exit := fun j fr S => zaE j id (k.norm fr S) (k.exit j fr S) }
  | .loop c, _, fr, S, k => match C.O.loop C.f (rid c) with
    | (ks, kb) => zmd fr ks fun vs => zkb S kb fun bs =>
      zaC (zeT (fun l H => zeX m C rs c Outc (zdV (wr c []) ks l fr 0) ⟨ziH kb (l.drop ks.length) S.bx, H⟩ (Kout ks kb)) m (vs ++ bs) S.hp) fun c' l H => zaJ c' none
      (fun id => k.exit id (zdV (wr c []) ks l fr 0) ⟨zc6 kb (l.drop ks.length) S.bx, H⟩)
      (k.ret (l.headD undef) H)
  | .exit id, _, fr, S, k => k.exit id fr S
  | .ret, _, fr, S, k => resC C.P fr S rs fun vs => k.ret (resV vs) S.hp
  | _, _, _, _, _ => none
noncomputable def callM (m : Nat) (P : Program) (O : Orc) (ext : FuncId → Option (List Value → Hp → Option (Value × Hp))) (h : zaj) : zaj := fun f args H =>
  match P.funcs[f]? with
  | none => none
  | some fn => match fn.name == "runtime.NumGoroutine" with
    | true => none
    | false => match fn.body with
      | none => match O.xt f with
        | some e => (match e args with
          | some v => some (v, H)
          | none => none)
        | none => none
      | some c => match ext f with
        | some e => e args H
        | none => zeX m ⟨P, O, h, f⟩ fn.results.toList c _ (args.map .val ++ List.replicate (fn.ntmps - args.length) .unk) ⟨fun _ => none, H⟩ (Kfun P fn.results.toList)
noncomputable def runM (m : Nat) (P : Program) (O : Orc) (ext : FuncId → Option (List Value → Hp → Option (Value × Hp))) : Nat → zaj
  | 0 => fun _ _ _ => none
  | n + 1 => callM m P O ext (runM m P O ext n)
variable {P : Program} {O : Orc} {f : FuncId} {hs : Nat → zaj} {h : zaj}
theorem Lim.loopM {F : Nat → List Value → Hp → Option Outc} {step : List Value → Hp → Option Outc} (h : ∀ l H, Lim (fun n => F n l H) (step l H)) (m : Nat → Nat) (hm : ∀ n, m n ≤ m (n + 1)) (hs : ∀ n, ∃ k, n ≤ m k) (l : List Value) (H : Hp) : Lim (fun n => zeT (F n) (m n) l H) (zaA step l H) := by
  have key : ∀ {a b : Nat}, a ≤ b → m a ≤ m b := fun {a b} hab => by
    induction b with
    | zero => have : a = 0 := by omega
              subst this; exact Nat.le_refl _
    | succ b ih =>
      rcases Nat.lt_or_ge b a with q | q
      · have : a = b + 1 := by omega
        subst this; exact Nat.le_refl _
      · exact Nat.le_trans (ih q) (hm b)
  refine ⟨fun n r hr => ziS (hm n) ((Lim.iter h (m n) l H).mono n r hr), fun n r hr => zbW.2 ⟨m n, (Lim.iter h (m n) l H).le n r hr⟩, fun r hr => ?_⟩
  obtain ⟨a, ha⟩ := zbW.1 hr
  obtain ⟨n, hn⟩ := (Lim.iter h a l H).sup r ha
  obtain ⟨k, hk⟩ := hs a
  refine ⟨max n k, ?_⟩
  exact ziS (Nat.le_trans hk (key (Nat.le_max_right n k))) ((Lim.iter h a l H).mono' (Nat.le_max_left n k) hn)
theorem zcl (hc : zib P O f hs h) (rs : List ResultVar) : ∀ (c : Code) {α : Type} (fr : Fr) (S : St) {K : Nat → AM.K α} {k : AM.K α}, KLim K k → Lim (fun n => zeX n ⟨P, O, hs n, f⟩ rs c α fr S (K n)) (exec ⟨P, O, h, f⟩ rs c α fr S k)
  | .skip, α, fr, S, K, k, hk => hk.norm fr S
  | .region id ops draw, α, fr, S, K, k, hk => by
    unfold exec zeX
    cases draw with
    | false => exact ziO hc hk.norm _ _ _
    | true =>
      dsimp only
      cases zeV P O f ops.toList (ancs ops.toList) with
      | true => simp only [drawHM_eq]; exact zm8 hc hk.norm _ _
      | false => exact Lim.const _
  | .seq a b, α, fr, S, K, k, hk => by
    unfold exec zeX
    dsimp only
    rcases O.join f (rid b) with _ | ⟨ks, kb⟩
    · exact zcl hc rs a fr S ⟨fun fr S => zcl hc rs b fr S hk, hk.exit, hk.ret⟩
    · refine zhI (zcl hc rs a fr _ ⟨fun _ _ => Lim.const _, fun _ _ _ => Lim.const _, fun _ _ => Lim.const _⟩) fun c l H => ?_
      cases c with
      | next => exact zcl hc rs b _ _ hk
      | exit id => exact hk.exit _ _ _
      | ret => exact hk.ret _ _
  | .cond c x y, α, fr, S, K, k, hk => by
    unfold exec zeX
    dsimp only
    refine Lim.nat (p := sV (ev P.globals.size fr c) fun v => zad v some) (G := fun n t => br t (zeX n ⟨P, O, hs n, f⟩ rs x α fr S (K n)) (zeX n ⟨P, O, hs n, f⟩ rs y α fr S (K n)))
      (g := fun t => br t (exec ⟨P, O, h, f⟩ rs x α fr S k) (exec ⟨P, O, h, f⟩ rs y α fr S k)) (fun n => zaz fun v => zdE fun t => rfl) (zaz fun v => zdE fun t => rfl) fun t => ?_
    cases t with
    | true => exact zcl hc rs x fr S hk
    | false => exact zcl hc rs y fr S hk
  | .block id c, α, fr, S, K, k, hk => by
    unfold exec zeX
    refine zcl hc rs c fr S ⟨hk.norm, fun j fr S => ?_, hk.ret⟩
    try dsimp only
    unfold zaE
    cases Nat.beq j id with
    | true => exact hk.norm _ _
    | false => exact hk.exit _ _ _
  | .loop c, α, fr, S, K, k, hk => by
    obtain ⟨ks, kb, hq⟩ : ∃ ks kb, O.loop f (rid c) = (ks, kb) := ⟨_, _, rfl⟩
    unfold exec zeX
    simp only [hq]
    refine Lim.nat (fun n => zff ks (g := some) fun v => rfl) (zff ks (g := some) fun v => rfl) fun vs => ?_
    refine Lim.nat (fun n => zev kb (g := some) fun v => rfl) (zev kb (g := some) fun v => rfl) fun bs => ?_
    refine zhI (Lim.loopM (F := fun n l H => zeX n ⟨P, O, hs n, f⟩ rs c Outc (zdV (wr c []) ks l fr 0) ⟨ziH kb (l.drop ks.length) S.bx, H⟩ (Kout ks kb)) (fun l H => zcl hc rs c _ _ ⟨fun _ _ => Lim.const _, fun _ _ _ => Lim.const _, fun _ _ => Lim.const _⟩) (fun n => n) (fun n => Nat.le_succ n) (fun n => ⟨n, Nat.le_refl n⟩) _ _) fun c' l H => ?_
    cases c' with
    | next => exact Lim.const _
    | exit id => exact hk.exit _ _ _
    | ret => exact hk.ret _ _
  | .exit id, α, fr, S, K, k, hk => hk.exit id fr S
  | .ret, α, fr, S, K, k, hk => by
    unfold exec zeX
    exact Lim.nat (fun n => zdZ rs _) (zdZ rs _) fun vs => hk.ret _ _
  | .rangeFunc _ _ _ _, _, _, _, _, _, _ => Lim.const _
  | .scope _, _, _, _, _, _, _ => Lim.const _
  | .label _, _, _, _, _, _, _ => Lim.const _
  | .goto _, _, _, _, _, _, _ => Lim.const _
  | .refuse _, _, _, _, _, _, _ => Lim.const _
theorem callM_le {ext : FuncId → Option (List Value → Hp → Option (Value × Hp))} {h1 : zaj} (m : Nat) (hle : ∀ g a H r, h1 g a H = some r → h g a H = some r) {g : FuncId} {args : List Value} {H : Hp} {r : Value × Hp} :
    callM m P O ext h1 g args H = some r → zh8 P O ext h g args H = some r := by
  unfold callM zh8
  rcases P.funcs[g]? with _ | fn
  · intro hr; cases hr
  · dsimp only
    cases fn.name == "runtime.NumGoroutine" with
    | true => intro hr; cases hr
    | false =>
      dsimp only
      rcases fn.body with _ | c
      · exact id
      · dsimp only
        rcases ext g with _ | e
        · dsimp only
          intro hr
          have hc : zib P O g (fun i => match decide (i ≤ m) with | true => h1 | false => h) h := by
            refine ⟨fun q a H => ⟨fun n r hr => ?_, fun n r hr => ?_, fun r hr => ⟨m + 1, ?_⟩⟩⟩
            · show (match decide (n + 1 ≤ m) with | true => h1 | false => h) q a H = some r
              have hr : (match decide (n ≤ m) with | true => h1 | false => h) q a H = some r := hr
              cases e1 : decide (n + 1 ≤ m) with
              | true =>
                have e2 : decide (n ≤ m) = true := decide_eq_true (by have := of_decide_eq_true e1; omega)
                rw [e2] at hr; exact hr
              | false =>
                cases e2 : decide (n ≤ m) with
                | true => rw [e2] at hr; exact hle q a H r hr
                | false => rw [e2] at hr; exact hr
            · have hr : (match decide (n ≤ m) with | true => h1 | false => h) q a H = some r := hr
              cases e2 : decide (n ≤ m) with
              | true => rw [e2] at hr; exact hle q a H r hr
              | false => rw [e2] at hr; exact hr
            · show (match decide (m + 1 ≤ m) with | true => h1 | false => h) q a H = some r
              have e2 : decide (m + 1 ≤ m) = false := decide_eq_false (by omega)
              rw [e2]; exact hr
          have := (zcl hc fn.results.toList c (args.map .val ++ List.replicate (fn.ntmps - args.length) .unk) ⟨fun _ => none, H⟩ (K := fun _ => Kfun P fn.results.toList) (k := Kfun P fn.results.toList) ⟨fun _ _ => Lim.const _, fun _ _ _ => Lim.const _, fun _ _ => Lim.const _⟩).le m r
          have e : decide (m ≤ m) = true := decide_eq_true (Nat.le_refl m)
          rw [e] at this
          exact this hr
        · exact id
theorem zi8 {ext : FuncId → Option (List Value → Hp → Option (Value × Hp))} {m : Nat} : ∀ {n : Nat} {g : FuncId} {args : List Value} {H : Hp} {r : Value × Hp}, runM m P O ext n g args H = some r → run P O ext g args H = some r
  | 0, g, args, H, r, hr => by cases hr
  | n + 1, g, args, H, r, hr => by
    rw [run_eq]
    exact callM_le m (fun g a H r => zi8) hr
end Go.AM
namespace Go.AM.N14
open Go Go.AM
theorem globs : PP.globals.size = 1 := by kernel_rfl
theorem xt14 : XtC PP orc.xt := by
  intro f e h
  have h : look none [(F.a83, some add64)] f = some e := h
  unfold look at h
  split at h
  · rename_i q
    cases h
    have : f = F.a83 := (Nat.eq_of_beq_eq_true q).symm
    subst this
    exact add64_xt Go.Proofs.Tryz.func115 (by kernel_rfl) (by kernel_rfl) (by kernel_rfl) (by kernel_rfl)
  · cases h
end Go.AM.N14
namespace Go.AM.N14
open Go Go.AM
def HN : Hp := ⟨1, fun _ => none, fun _ => none⟩
theorem ev_of {f : FuncId} {xs : List Value} {v : Value} (h : (runM 70 PP orc E0 30 f xs HN).map (·.1) = some v) : ∃ H', RR f xs HN = some (v, H') := by
  cases hq : runM 70 PP orc E0 30 f xs HN with
  | none => rw [hq] at h; cases h
  | some r =>
    obtain ⟨u, H'⟩ := r
    rw [hq] at h
    have h : some u = some v := h
    cases h
    exact ⟨H', zi8 hq⟩
theorem znm {a b c d : Value} (h : Value.tuple #[a, b] = .tuple #[c, d]) : a = c ∧ b = d := by cases h; exact ⟨rfl, rfl⟩
def x1 : Fct := ⟨4, 1#64, 0#64, 0#64, 6#64⟩
def x2 : Fct := ⟨4, 0#64, 0#64, 5#64, 6#64⟩
def x3 : Fct := ⟨4, 8#64, 0#64, 0#64, 3#64⟩
def y1 : Fct := ⟨4, 1#64, 8#64, 1#64, 5#64⟩
def y2 : Fct := ⟨4, 4#64, 8#64, 5#64, 6#64⟩
def y4 : Fct := ⟨4, 5#64, 10#64, 5#64, 5#64⟩
def x5 : Fct := ⟨4, 0#64, 1#64, 0#64, 14#64⟩
def y5 : Fct := ⟨4, 1#64, 0#64, 1#64, 15#64⟩
def nA : Nd := ⟨20, 4, 0, 0, 0, 0, ⟨#[]⟩⟩
theorem ev1 : (runM 70 PP orc E0 30 F.a7 [x1.val] HN).map (·.1) = some (.tuple #[y1.val, .int .i64 0]) := by kernel_rfl
theorem ev2 : (runM 70 PP orc E0 30 F.a7 [x2.val] HN).map (·.1) = some (.tuple #[y2.val, .int .i64 0]) := by kernel_rfl
theorem ev3 : (runM 70 PP orc E0 30 F.a7 [x3.val] HN).map (·.1) = some (.tuple #[F0.val, .int .i64 1]) := by kernel_rfl
theorem ev4 : (runM 70 PP orc E0 30 F.a20 [.int .i64 4, .int .u64 5] HN).map (·.1) = some (.tuple #[y4.val, .int .i64 0]) := by kernel_rfl
theorem ev5 : (runM 70 PP orc E0 30 F.a13 [nA.val, y4.val, x5.val, F0.val] HN).map (·.1) = some (.tuple #[y5.val, .int .i64 0]) := by kernel_rfl
theorem set_at {f g : Fct} {e : Int} (h : (runM 70 PP orc E0 30 F.a7 [f.val] HN).map (·.1) = some (.tuple #[g.val, .int .i64 e])) (H : Hp) : RR F.a7 [f.val] H = some (.tuple #[g.val, .int .i64 e], H) := by
  obtain ⟨_, h1⟩ := ev_of h
  obtain ⟨a, i, s1, r1⟩ := c20 f HN
  obtain ⟨b, j, s2, r2⟩ := c20 f H
  obtain ⟨rfl, rfl⟩ := s2.eq s1
  have h1 : R F.a7 [f.val] HN = _ := h1
  rw [h1] at r1
  have := Option.some.inj r1
  obtain ⟨q1, q2⟩ := znm (congrArg Prod.fst this)
  rw [q1, q2]; exact r2
theorem alone4 (H : Hp) : RR F.a20 [.int .i64 4, .int .u64 5] H = some (.tuple #[y4.val, .int .i64 0], H) := by
  have h : R F.a20 [.int .i64 4, wv 5#64] H = _ := c17 4 5#64 H
  have h2 : R F.a20 [.int .i64 4, wv 5#64] HN = _ := c17 4 5#64 HN
  obtain ⟨_, h1⟩ := ev_of ev4
  have h1 : R F.a20 [.int .i64 4, wv 5#64] HN = _ := h1
  rw [h1] at h2
  obtain ⟨q1, q2⟩ := znm (congrArg Prod.fst (Option.some.inj h2))
  rw [q1, q2]; exact h
theorem live_any (H : Hp) (hT : TabB H) : ∃ H', RR F.a93 [] H = some (.bool true, H') := by
  have hr := zgF E0 rfl H
  unfold zdO at hr
  obtain ⟨r, e, a1, a2⟩ := applies (n := nA) (by decide) (fun i => if i = 0 then y4 else if i = 1 then x5 else F0)
  have a2' := a2 HN
  obtain ⟨_, h5⟩ := ev_of ev5
  have a2' : RR F.a13 [nA.val, y4.val, x5.val, F0.val] HN = some (.tuple #[r.val, .int .i64 e], HN) := a2'
  rw [h5] at a2'
  obtain ⟨q1, q2⟩ := znm (congrArg Prod.fst (Option.some.inj a2'))
  obtain ⟨H', h6, _⟩ := a1 H hT
  have h6 : RR F.a15 [nA.val, y4.val, x5.val, F0.val] H = some (.tuple #[r.val, .int .i64 e], H') := h6
  rw [← q1, ← q2] at h6
  have b1 : ∀ (k : Value → Option (Value × Hp)), zar PP T.api_Fact [(0, (.int .i64 4)), (1, (.int .u64 1)), (4, (.int .u64 6))] k = k x1.val := fun k => bld (by kernel_rfl) k
  have b2 : ∀ (k : Value → Option (Value × Hp)), zar PP T.api_Fact [(0, (.int .i64 4)), (3, (.int .u64 5)), (4, (.int .u64 6))] k = k x2.val := fun k => bld (by kernel_rfl) k
  have b3 : ∀ (k : Value → Option (Value × Hp)), zar PP T.api_Fact [(0, (.int .i64 4)), (1, (.int .u64 8)), (4, (.int .u64 3))] k = k x3.val := fun k => bld (by kernel_rfl) k
  have b4 : ∀ (k : Value → Option (Value × Hp)), zar PP T.api_Node [(0, (.int .i64 20)), (1, (.int .i64 4))] k = k nA.val := fun k => bld (by kernel_rfl) k
  have b5 : ∀ (k : Value → Option (Value × Hp)), zar PP T.api_Fact [(0, (.int .i64 4)), (2, (.int .u64 1)), (4, (.int .u64 14))] k = k x5.val := fun k => bld (by kernel_rfl) k
  have b6 : ∀ (k : Value → Option (Value × Hp)), zar PP T.api_Fact [(0, (.int .i64 4)), (1, (.int .u64 1)), (2, (.int .u64 8)), (3, (.int .u64 1)), (4, (.int .u64 5))] k = k y1.val := fun k => bld (by kernel_rfl) k
  have b7 : ∀ (k : Value → Option (Value × Hp)), zar PP T.api_Fact [(0, (.int .i64 4)), (1, (.int .u64 4)), (2, (.int .u64 8)), (3, (.int .u64 5)), (4, (.int .u64 6))] k = k y2.val := fun k => bld (by kernel_rfl) k
  have b8 : ∀ (k : Value → Option (Value × Hp)), zar PP T.api_Fact [(0, (.int .i64 4)), (1, (.int .u64 1)), (3, (.int .u64 1)), (4, (.int .u64 15))] k = k y5.val := fun k => bld (by kernel_rfl) k
  have no : ∀ v H, RR F.a19 [v] H = some (v, H) := fun v H => zey E0 rfl v H
  have add0 : ∀ (k : Value → Option (Value × Hp)), pBin PP .add T.int (.int .i64 0) (.int .i64 0) k = k (.int .i64 0) := fun k => by rw [za6]; rfl
  have fT : ∀ (f : Fct) (k : Value → Option (Value × Hp)), pBin PP .eql T.api_Fact f.val f.val k = k (.bool true) := fun f k => by rw [f_eql, decide_eq_true rfl]
  have dT : decide ((0 : Int) = 0) = true := by decide
  have d1 : decide ((1 : Int) = 1) = true := by decide
  rw [b1, zae (set_at ev1 H), x01, sp_0, b2, zae (set_at ev2 H), x01, sp_0, b3, zae (set_at ev3 H), x01, sp_0, zae (alone4 H), x01, sp_0, b4, zak, b5, zcZ, zae h6, x01, sp_0, zae (no _ _), zae (no _ _), add0, zae (no _ _), add0, zay, dT, zag, zap, zae (no _ _), zay, d1, zag, zap, zak, b6, fT, zag, zap, zak, b7, fT, zag, zap, zak, b8, fT] at hr
  exact ⟨H', hr⟩
theorem runA {n : Nd} (hnum : 0 ≤ n.num ∧ n.num < 18446744073709551616) (a b c : Fct) (H : Hp) (hT : TabB H) : ∃ H', RR F.a128 [n.val, a.val, b.val, c.val] H = some (.bool true, H') := by
  have hr := zdB E0 rfl n.val a.val b.val c.val H
  unfold zbV at hr
  obtain ⟨r, e, a1, a2⟩ := applies hnum (fun i => if i = 0 then a else if i = 1 then b else c)
  obtain ⟨H1, h1, f1⟩ := a1 H hT
  have h1 : RR F.a15 [n.val, a.val, b.val, c.val] H = some (.tuple #[r.val, .int .i64 e], H1) := h1
  have h2 : RR F.a13 [n.val, a.val, b.val, c.val] H1 = some (.tuple #[r.val, .int .i64 e], H1) := a2 H1
  obtain ⟨H2, h3⟩ := live_any H1 (hT.fr f1)
  have na : ∀ (k : Value → Option (Value × Hp)), zab 7 true (zaa n.val) 0 k = k n.val := fun k => rfl
  have no : ∀ v H, RR F.a19 [v] H = some (v, H) := fun v H => zey E0 rfl v H
  have fT : ∀ (f : Fct) (k : Value → Option (Value × Hp)), pBin PP .eql T.api_Fact f.val f.val k = k (.bool true) := fun f k => by rw [f_eql, decide_eq_true rfl]
  rw [na, zak, zak, zak, zae h1, x01, sp_0, na, zak, zak, zak, zae h2, x01, sp_0, zak, zak, fT, zag, zap, zae (no _ _), zay, decide_eq_true rfl, zag, zap, zae h3] at hr
  exact ⟨H2, hr⟩
end Go.AM.N14
namespace Go.AM.N14
open Go Go.AM Go.ChangeShapes Go.WideShapes Go.ChangeAt Go.RowKit Go.Proofs.YtloofbfkaombbaaGreatDoor
theorem zlb {z : Int} (h : 0 ≤ z ∧ z ≤ 18446744073709551615) : Value.int .u64 z = wv (BitVec.ofInt 64 z) := by
  rw [← zdu, q_u64 h.1 h.2]
theorem list5 {l : List Value} (h : l.length = 5) : ∃ a b c d e, l = [a, b, c, d, e] := by
  match l, h with
  | [a, b, c, d, e], _ => exact ⟨a, b, c, d, e, rfl⟩
theorem list7 {l : List Value} (h : l.length = 7) : ∃ a b c d e f g, l = [a, b, c, d, e, f, g] := by
  match l, h with
  | [a, b, c, d, e, f, g], _ => exact ⟨a, b, c, d, e, f, g, rfl⟩
theorem zn6 (f : Fct) (β : Bt) : VRel β f.val f.val := by
  refine .agg _ _ rfl fun k v v' h1 h2 => ?_
  have h1 : (zaa f.val)[k]? = some v := h1
  have h2 : (zaa f.val)[k]? = some v' := h2
  rw [h1] at h2
  cases h2
  have hm := List.mem_of_getElem? h1
  rw [← cells_val] at hm
  simp only [List.mem_cons, List.not_mem_nil, or_false] at hm
  rcases hm with rfl | rfl | rfl | rfl | rfl <;> exact .int _ _
theorem nd_rel (n : Nd) (β : Bt) : VRel β n.val n.val := by
  refine .agg _ _ rfl fun k v v' h1 h2 => ?_
  have h1 : n.cells[k]? = some v := h1
  have h2 : n.cells[k]? = some v' := h2
  rw [h1] at h2
  cases h2
  have hm := List.mem_of_getElem? h1
  unfold Nd.cells at hm
  simp only [List.mem_cons, List.not_mem_nil, or_false] at hm
  rcases hm with rfl | rfl | rfl | rfl | rfl | rfl | rfl <;> first | exact .int _ _ | exact .string _
theorem zlV {HH : Type} {enc : TypeId × Value → HH} {W : World} {b0 : Nat} {v' : Value} {dw : DataW HH} {ps : List MemPlace}
    (hval : Value.okWide PP W .any b0 T.api_Fact v') (hd : DataW.Trod enc PP W 0 (fun _ => true) true T.api_Fact v' dw ps) : ∃ f : Fct, v' = f.val := by
  obtain ⟨cs, rfl, hsz⟩ := okWide_struct Go.Proofs.Tryz.underlying26 hval
  obtain ⟨fuel, hx⟩ := hd
  have hok := zn4 20 T.api_Fact [.int .i64, .int .u64, .int .u64, .int .u64, .int .u64] (by kernel_rfl) fuel _ _ hx
  have hok : OkL [.int .i64, .int .u64, .int .u64, .int .u64, .int .u64] cs.toList := hok
  obtain ⟨c0, c1, c2, c3, c4, hl⟩ := list5 (show cs.toList.length = 5 from hok.1)
  rw [hl] at hok
  obtain ⟨_, e0, s0, rfl, w0⟩ := hok.2 0 _ rfl
  obtain ⟨_, e1, s1, rfl, w1⟩ := hok.2 1 _ rfl
  obtain ⟨_, e2, s2, rfl, w2⟩ := hok.2 2 _ rfl
  obtain ⟨_, e3, s3, rfl, w3⟩ := hok.2 3 _ rfl
  obtain ⟨_, e4, s4, rfl, w4⟩ := hok.2 4 _ rfl
  cases e0; cases e1; cases e2; cases e3; cases e4
  have w1 : 0 ≤ s1 ∧ s1 ≤ 18446744073709551615 := by simpa [IntKind.min, IntKind.max, IntKind.signed, IntKind.bits] using w1
  have w2 : 0 ≤ s2 ∧ s2 ≤ 18446744073709551615 := by simpa [IntKind.min, IntKind.max, IntKind.signed, IntKind.bits] using w2
  have w3 : 0 ≤ s3 ∧ s3 ≤ 18446744073709551615 := by simpa [IntKind.min, IntKind.max, IntKind.signed, IntKind.bits] using w3
  have w4 : 0 ≤ s4 ∧ s4 ≤ 18446744073709551615 := by simpa [IntKind.min, IntKind.max, IntKind.signed, IntKind.bits] using w4
  refine ⟨⟨s0, BitVec.ofInt 64 s1, BitVec.ofInt 64 s2, BitVec.ofInt 64 s3, BitVec.ofInt 64 s4⟩, ?_⟩
  unfold Fct.val
  rw [← zlb w1, ← zlb w2, ← zlb w3, ← zlb w4]
  congr 1
  apply Array.ext'
  rw [hl]
theorem node_arg {HH : Type} {enc : TypeId × Value → HH} {W : World} {b0 : Nat} {v' : Value} {dw : DataW HH} {ps : List MemPlace}
    (hval : Value.okWide PP W .any b0 T.api_Node v') (hd : DataW.Trod enc PP W 0 (fun _ => true) true T.api_Node v' dw ps) : ∃ n : Nd, v' = n.val ∧ 0 ≤ n.num ∧ n.num < 18446744073709551616 := by
  obtain ⟨cs, rfl, hsz⟩ := okWide_struct Go.Proofs.Tryz.underlying24 hval
  obtain ⟨fuel, hx⟩ := hd
  have hok := zn4 20 T.api_Node [.int .i64, .int .i64, .int .i64, .int .i64, .int .i64, .int .u64, .str] (by kernel_rfl) fuel _ _ hx
  have hok : OkL [.int .i64, .int .i64, .int .i64, .int .i64, .int .i64, .int .u64, .str] cs.toList := hok
  obtain ⟨c0, c1, c2, c3, c4, c5, c6, hl⟩ := list7 (show cs.toList.length = 7 from hok.1)
  rw [hl] at hok
  obtain ⟨_, e0, s0, rfl, w0⟩ := hok.2 0 _ rfl
  obtain ⟨_, e1, s1, rfl, w1⟩ := hok.2 1 _ rfl
  obtain ⟨_, e2, s2, rfl, w2⟩ := hok.2 2 _ rfl
  obtain ⟨_, e3, s3, rfl, w3⟩ := hok.2 3 _ rfl
  obtain ⟨_, e4, s4, rfl, w4⟩ := hok.2 4 _ rfl
  obtain ⟨_, e5, s5, rfl, w5⟩ := hok.2 5 _ rfl
  obtain ⟨_, e6, s6, rfl⟩ := hok.2 6 _ rfl
  cases e0; cases e1; cases e2; cases e3; cases e4; cases e5; cases e6
  have w5 : 0 ≤ s5 ∧ s5 ≤ 18446744073709551615 := by simpa [IntKind.min, IntKind.max, IntKind.signed, IntKind.bits] using w5
  refine ⟨⟨s0, s1, s2, s3, s4, s5, s6⟩, ?_, w5.1, by show s5 < _; omega⟩
  unfold Nd.val Nd.cells
  congr 1
  apply Array.ext'
  rw [hl]
theorem zno {P : Program} {W : World} {name : String} {k : IntKind} {zs : List Int} {rest : List (String × DataW Unit)} {g : Nat} {t e : TypeId} {n : Nat} {ps : List MemPlace}
    (hg : P.globalNamed name = some g) (hty : (P.globals[g]?).map (·.type) = some t) (ht : P.underlying t = some (.array n e)) (he : P.underlying e = some (.int k)) (hce : P.cellsOf e = 1) (hct : P.cellsOf t = n)
    (h : DataW.LaidVars P W ((name, Go.Lib.tabData k zs) :: rest) ps) : ∃ ty fz, W.heap[g]? = some (.cells (zs.map fun z => Value.int k z).toArray ty fz) := by
  obtain ⟨g', t', cs, fuel, p, q, hg', ht', hvar, hd, _, _⟩ := h
  obtain rfl := Option.some.inj (hg.symm.trans hg')
  obtain rfl := Option.some.inj (hty.symm.trans ht')
  have hc := Go.Lib.cells_of_tab ht he hce hct hd
  unfold World.var? at hvar
  rw [hg] at hvar
  have hvar : (match W.heap[g]? with | some (Obj.cells cs _ _) => some cs | _ => none) = some cs := hvar
  split at hvar
  · rename_i cs' ty fz hw
    cases hvar
    refine ⟨ty, fz, ?_⟩
    rw [hw, ← hc]
  · cases hvar
theorem bru_data : (Rows.laid_math_bits_deBruijn64tab : DataW Unit) = Go.Lib.tabData .u8 zof := by kernel_rfl
abbrev laidL : List (String × DataW Unit) := [("math/bits.deBruijn64tab", Rows.laid_math_bits_deBruijn64tab)]
theorem laid_tab {W : World} (h : laidMetH PP laidL W) : ∃ ty fz, W.heap[G.bits_deBruijn64tab]? = some (.cells (zof.map fun z => Value.int .u8 z).toArray ty fz) := by
  obtain ⟨ps, h, _⟩ : laidMet PP laidL W := h
  rw [show laidL = [("math/bits.deBruijn64tab", Rows.laid_math_bits_deBruijn64tab)] from rfl, bru_data] at h
  exact zno (by kernel_rfl) (t := T.a64_uint8) (e := T.uint8) (n := 64) (by kernel_rfl) (by kernel_rfl) (by kernel_rfl) (by kernel_rfl) (by kernel_rfl) h
theorem start14 {W : World} (hsz : PP.globals.size ≤ W.heap.size) (h : laidMetH PP laidL W) : ∃ H0, Rel PP W H0 (B00 PP) ∧ (∀ i o, H0.get i = some o → o.own = false) ∧ TabB H0 := by
  obtain ⟨t3, z3, e3⟩ := laid_tab h
  let Fx : Nat → Option AObj := fun i => if i = G.bits_deBruijn64tab then some (.fix (.cells (zof.map fun z => Value.int .u8 z).toArray t3 z3)) else none
  obtain ⟨r1, r2⟩ := relStart (P := PP) hsz (F := Fx) (fun i o hi => by
    have hi : (if i = G.bits_deBruijn64tab then _ else none) = some o := hi
    split at hi
    · rename_i q; subst q; cases hi; exact .inl ⟨_, rfl, e3⟩
    · cases hi)
  have hlt : G.bits_deBruijn64tab < PP.globals.size := by rw [globs]; decide
  have g : (HS PP Fx).get G.bits_deBruijn64tab = Fx G.bits_deBruijn64tab := by
    show (if G.bits_deBruijn64tab < PP.globals.size then Fx G.bits_deBruijn64tab else none) = _
    exact if_pos hlt
  exact ⟨_, r1, r2, ⟨hlt, ⟨_, t3, z3, g.trans (if_pos rfl), by simp⟩⟩⟩
noncomputable def zjN (os : Os) : World :=
  { World.holding PP os ⟨#[], #[], []⟩ with heap := (World.holding PP os ⟨#[], #[], []⟩).heap.modify G.bits_deBruijn64tab fun
    | .cells _ t frozen => .cells (zof.map fun z => Value.int .u8 z).toArray t frozen
    | o => o }
end Go.AM.N14
