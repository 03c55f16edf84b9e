/- Part of the proof of KnownAppliesUptoCardSaid: see the last file.  -/
import Derived.Laws.MathBits
import Derived.Test.YtloofbfkaombbaaGreatDoorRows
import Derived.KernelRfl
import Derived.Test.YtloofbfkaombbaaGreatDoorT0
import Derived.Test.YtloofbfkaombbaaGreatDoorT3
set_option linter.unusedSimpArgs false
set_option linter.unusedVariables false
set_option linter.unusedSectionVars false
set_option maxRecDepth 100000
namespace Go.AM.N14
open Go Go.AM
section
variable {α : Type}
theorem at8 (s : ByteArray) (i : Nat) (hs : i < s.size) (k : Value → Option α) : zcf (.string s) (.int .u8 (i : Int)) k = k (.int .u8 ((s[i]'hs).toNat : Int)) := by
  refine (q_at s i (s[i]'hs) ?_ k)
  rw [Array.getElem?_toList]
  exact Array.getElem?_eq_getElem (xs := s.data) hs
set_option maxRecDepth 100000 in
theorem at_len8 (i : Nat) (h : i < 256) (k : Value → Option α) : zcf (.string ⟨#[0, 1, 2, 2, 3, 3, 3, 3, 4, 4, 4, 4, 4, 4, 4, 4, 5, 5, 5, 5, 5, 5, 5, 5, 5, 5, 5, 5, 5, 5, 5, 5, 6, 6, 6, 6, 6, 6, 6, 6, 6, 6, 6, 6, 6, 6, 6, 6, 6, 6, 6, 6, 6, 6, 6, 6, 6, 6, 6, 6, 6, 6, 6, 6, 7, 7, 7, 7, 7, 7, 7, 7, 7, 7, 7, 7, 7, 7, 7, 7, 7, 7, 7, 7, 7, 7, 7, 7, 7, 7, 7, 7, 7, 7, 7, 7, 7, 7, 7, 7, 7, 7, 7, 7, 7, 7, 7, 7, 7, 7, 7, 7, 7, 7, 7, 7, 7, 7, 7, 7, 7, 7, 7, 7, 7, 7, 7, 7, 8, 8, 8, 8, 8, 8, 8, 8, 8, 8, 8, 8, 8, 8, 8, 8, 8, 8, 8, 8, 8, 8, 8, 8, 8, 8, 8, 8, 8, 8, 8, 8, 8, 8, 8, 8, 8, 8, 8, 8, 8, 8, 8, 8, 8, 8, 8, 8, 8, 8, 8, 8, 8, 8, 8, 8, 8, 8, 8, 8, 8, 8, 8, 8, 8, 8, 8, 8, 8, 8, 8, 8, 8, 8, 8, 8, 8, 8, 8, 8, 8, 8, 8, 8, 8, 8, 8, 8, 8, 8, 8, 8, 8, 8, 8, 8, 8, 8, 8, 8, 8, 8, 8, 8, 8, 8, 8, 8, 8, 8, 8, 8, 8, 8, 8, 8, 8, 8, 8, 8, 8, 8, 8, 8, 8, 8, 8, 8]⟩) (.int .u8 (i : Int)) k = k (.int .u8 ((bitLen i : Nat) : Int)) := by
  have hs : i < (⟨#[0, 1, 2, 2, 3, 3, 3, 3, 4, 4, 4, 4, 4, 4, 4, 4, 5, 5, 5, 5, 5, 5, 5, 5, 5, 5, 5, 5, 5, 5, 5, 5, 6, 6, 6, 6, 6, 6, 6, 6, 6, 6, 6, 6, 6, 6, 6, 6, 6, 6, 6, 6, 6, 6, 6, 6, 6, 6, 6, 6, 6, 6, 6, 6, 7, 7, 7, 7, 7, 7, 7, 7, 7, 7, 7, 7, 7, 7, 7, 7, 7, 7, 7, 7, 7, 7, 7, 7, 7, 7, 7, 7, 7, 7, 7, 7, 7, 7, 7, 7, 7, 7, 7, 7, 7, 7, 7, 7, 7, 7, 7, 7, 7, 7, 7, 7, 7, 7, 7, 7, 7, 7, 7, 7, 7, 7, 7, 7, 8, 8, 8, 8, 8, 8, 8, 8, 8, 8, 8, 8, 8, 8, 8, 8, 8, 8, 8, 8, 8, 8, 8, 8, 8, 8, 8, 8, 8, 8, 8, 8, 8, 8, 8, 8, 8, 8, 8, 8, 8, 8, 8, 8, 8, 8, 8, 8, 8, 8, 8, 8, 8, 8, 8, 8, 8, 8, 8, 8, 8, 8, 8, 8, 8, 8, 8, 8, 8, 8, 8, 8, 8, 8, 8, 8, 8, 8, 8, 8, 8, 8, 8, 8, 8, 8, 8, 8, 8, 8, 8, 8, 8, 8, 8, 8, 8, 8, 8, 8, 8, 8, 8, 8, 8, 8, 8, 8, 8, 8, 8, 8, 8, 8, 8, 8, 8, 8, 8, 8, 8, 8, 8, 8, 8, 8, 8, 8]⟩ : ByteArray).size := h
  rw [at8 _ i hs k, len8tab_get i hs]
end
theorem conv8 (y : W64) (h : y.toNat < 256) {α : Type} (k : Value → Option α) : zal .u8 (wv y) k = k (.int .u8 (y.toNat : Int)) := by
  unfold wv
  rw [zoE, q_u8 (by omega) (by omega)]
theorem zel (x : W64) (n : Nat) : (x >>> n).toNat = x.toNat / 2 ^ n := by rw [BitVec.toNat_ushiftRight, Nat.shiftRight_eq_div_pow]
theorem c80 (x : W64) (H : Hp) : R F.a88 [wv x] H = some (.int .i64 ((bitLen x.toNat : Nat) : Int), H) := by
  refine (zmy E0 rfl _ H).trans ?_
  unfold ziz
  have n1 : Value.int .u64 4294967296 = wv 4294967296#64 := rfl
  have n2 : Value.int .u64 65536 = wv 65536#64 := rfl
  have n3 : Value.int .u64 256 = wv 256#64 := rfl
  have n4 : ∀ n : Nat, Value.int .u64 (n : Int) = .int .u64 (n : Int) := fun _ => rfl
  have s32 : ∀ (a : W64) {α : Type} (k : Value → Option α), pBin PP .shr T.uint64 (wv a) (.int .u64 32) k = k (wv (a >>> 32)) := fun a _ k => zc8 22 a k .u64 32
  have s16 : ∀ (a : W64) {α : Type} (k : Value → Option α), pBin PP .shr T.uint64 (wv a) (.int .u64 16) k = k (wv (a >>> 16)) := fun a _ k => zc8 22 a k .u64 16
  have s8 : ∀ (a : W64) {α : Type} (k : Value → Option α), pBin PP .shr T.uint64 (wv a) (.int .u64 8) k = k (wv (a >>> 8)) := fun a _ k => zc8 22 a k .u64 8
  have tail : ∀ (y : W64) (n : Nat), n ≤ 64 → y.toNat < 2 ^ 16 → ∀ G : Option (Value × Hp), G = some (.int .i64 ((n + bitLen y.toNat : Nat) : Int), H) →
    (pBin PP .geq T.uint64 (wv y) (.int .u64 256) fun v24 => zad v24 fun b25 => br b25
      (pBin PP .shr T.uint64 (wv y) (.int .u64 8) fun v26 => pBin PP .add T.int (.int .i64 (n : Int)) (.int .i64 8) fun v27 => zal .u8 v26 fun v28 =>
        zcf (.string ⟨#[0, 1, 2, 2, 3, 3, 3, 3, 4, 4, 4, 4, 4, 4, 4, 4, 5, 5, 5, 5, 5, 5, 5, 5, 5, 5, 5, 5, 5, 5, 5, 5, 6, 6, 6, 6, 6, 6, 6, 6, 6, 6, 6, 6, 6, 6, 6, 6, 6, 6, 6, 6, 6, 6, 6, 6, 6, 6, 6, 6, 6, 6, 6, 6, 7, 7, 7, 7, 7, 7, 7, 7, 7, 7, 7, 7, 7, 7, 7, 7, 7, 7, 7, 7, 7, 7, 7, 7, 7, 7, 7, 7, 7, 7, 7, 7, 7, 7, 7, 7, 7, 7, 7, 7, 7, 7, 7, 7, 7, 7, 7, 7, 7, 7, 7, 7, 7, 7, 7, 7, 7, 7, 7, 7, 7, 7, 7, 7, 8, 8, 8, 8, 8, 8, 8, 8, 8, 8, 8, 8, 8, 8, 8, 8, 8, 8, 8, 8, 8, 8, 8, 8, 8, 8, 8, 8, 8, 8, 8, 8, 8, 8, 8, 8, 8, 8, 8, 8, 8, 8, 8, 8, 8, 8, 8, 8, 8, 8, 8, 8, 8, 8, 8, 8, 8, 8, 8, 8, 8, 8, 8, 8, 8, 8, 8, 8, 8, 8, 8, 8, 8, 8, 8, 8, 8, 8, 8, 8, 8, 8, 8, 8, 8, 8, 8, 8, 8, 8, 8, 8, 8, 8, 8, 8, 8, 8, 8, 8, 8, 8, 8, 8, 8, 8, 8, 8, 8, 8, 8, 8, 8, 8, 8, 8, 8, 8, 8, 8, 8, 8, 8, 8, 8, 8, 8, 8]⟩) v28 fun v29 => zal .i64 v29 fun v30 => pBin PP .add T.int v27 v30 fun v31 => some (v31, H))
      (zal .u8 (wv y) fun v32 => zcf (.string ⟨#[0, 1, 2, 2, 3, 3, 3, 3, 4, 4, 4, 4, 4, 4, 4, 4, 5, 5, 5, 5, 5, 5, 5, 5, 5, 5, 5, 5, 5, 5, 5, 5, 6, 6, 6, 6, 6, 6, 6, 6, 6, 6, 6, 6, 6, 6, 6, 6, 6, 6, 6, 6, 6, 6, 6, 6, 6, 6, 6, 6, 6, 6, 6, 6, 7, 7, 7, 7, 7, 7, 7, 7, 7, 7, 7, 7, 7, 7, 7, 7, 7, 7, 7, 7, 7, 7, 7, 7, 7, 7, 7, 7, 7, 7, 7, 7, 7, 7, 7, 7, 7, 7, 7, 7, 7, 7, 7, 7, 7, 7, 7, 7, 7, 7, 7, 7, 7, 7, 7, 7, 7, 7, 7, 7, 7, 7, 7, 7, 8, 8, 8, 8, 8, 8, 8, 8, 8, 8, 8, 8, 8, 8, 8, 8, 8, 8, 8, 8, 8, 8, 8, 8, 8, 8, 8, 8, 8, 8, 8, 8, 8, 8, 8, 8, 8, 8, 8, 8, 8, 8, 8, 8, 8, 8, 8, 8, 8, 8, 8, 8, 8, 8, 8, 8, 8, 8, 8, 8, 8, 8, 8, 8, 8, 8, 8, 8, 8, 8, 8, 8, 8, 8, 8, 8, 8, 8, 8, 8, 8, 8, 8, 8, 8, 8, 8, 8, 8, 8, 8, 8, 8, 8, 8, 8, 8, 8, 8, 8, 8, 8, 8, 8, 8, 8, 8, 8, 8, 8, 8, 8, 8, 8, 8, 8, 8, 8, 8, 8, 8, 8, 8, 8, 8, 8, 8, 8]⟩) v32 fun v33 => zal .i64 v33 fun v34 => pBin PP .add T.int (.int .i64 (n : Int)) v34 fun v35 => some (v35, H))) = G := by
    intro y n hn hy G hG
    rw [hG, n3, znf, zag, s_br, show (256#64).toNat = 256 from rfl]
    by_cases h : 256 ≤ y.toNat
    · rw [if_pos (decide_eq_true h), s8]
      have e := zel y 8
      have hlt : (y >>> 8).toNat < 256 := by omega
      have hb := bitLen_le8 _ hlt
      have hne : y.toNat / 2 ^ 8 ≠ 0 := by omega
      have hl := bitLen_shift y.toNat 8 hne
      rw [← e] at hl
      rw [za6, conv8 _ hlt, at_len8 _ hlt, zoE, za6, zhX (x := (n : Int) + 8) (by omega) (by omega), zhX (x := ((bitLen (y >>> 8).toNat : Nat) : Int)) (by omega) (by omega), zhX (by omega) (by omega), hl]
      congr 3; omega
    · rw [if_neg (by simpa using h)]
      have hlt : y.toNat < 256 := by omega
      have hb := bitLen_le8 _ hlt
      rw [conv8 _ hlt, at_len8 _ hlt, zoE, za6, zhX (x := ((bitLen y.toNat : Nat) : Int)) (by omega) (by omega), zhX (by omega) (by omega)]
      congr 3
  have mid : ∀ (y : W64) (n : Nat), n ≤ 32 → y.toNat < 2 ^ 32 → ∀ G : Option (Value × Hp), G = some (.int .i64 ((n + bitLen y.toNat : Nat) : Int), H) → (zaJ (α := Value × Hp) .next
 (pBin PP .geq T.uint64 (wv y) (.int .u64 65536) fun v8 =>
 zad v8 fun b9 => br b9
 (pBin PP .shr T.uint64 (wv y) (.int .u64 16) fun v10 =>
 pBin PP .add T.int (.int .i64 (n : Int)) (.int .i64 16) fun v11 =>
 pBin PP .geq T.uint64 v10 (.int .u64 256) fun v12 =>
 zad v12 fun b13 => br b13
 (pBin PP .shr T.uint64 v10 (.int .u64 8) fun v14 =>
 pBin PP .add T.int v11 (.int .i64 8) fun v15 =>
 zal .u8 v14 fun v16 =>
 zcf (.string ⟨#[0, 1, 2, 2, 3, 3, 3, 3, 4, 4, 4, 4, 4, 4, 4, 4, 5, 5, 5, 5, 5, 5, 5, 5, 5, 5, 5, 5, 5, 5, 5, 5, 6, 6, 6, 6, 6, 6, 6, 6, 6, 6, 6, 6, 6, 6, 6, 6, 6, 6, 6, 6, 6, 6, 6, 6, 6, 6, 6, 6, 6, 6, 6, 6, 7, 7, 7, 7, 7, 7, 7, 7, 7, 7, 7, 7, 7, 7, 7, 7, 7, 7, 7, 7, 7, 7, 7, 7, 7, 7, 7, 7, 7, 7, 7, 7, 7, 7, 7, 7, 7, 7, 7, 7, 7, 7, 7, 7, 7, 7, 7, 7, 7, 7, 7, 7, 7, 7, 7, 7, 7, 7, 7, 7, 7, 7, 7, 7, 8, 8, 8, 8, 8, 8, 8, 8, 8, 8, 8, 8, 8, 8, 8, 8, 8, 8, 8, 8, 8, 8, 8, 8, 8, 8, 8, 8, 8, 8, 8, 8, 8, 8, 8, 8, 8, 8, 8, 8, 8, 8, 8, 8, 8, 8, 8, 8, 8, 8, 8, 8, 8, 8, 8, 8, 8, 8, 8, 8, 8, 8, 8, 8, 8, 8, 8, 8, 8, 8, 8, 8, 8, 8, 8, 8, 8, 8, 8, 8, 8, 8, 8, 8, 8, 8, 8, 8, 8, 8, 8, 8, 8, 8, 8, 8, 8, 8, 8, 8, 8, 8, 8, 8, 8, 8, 8, 8, 8, 8, 8, 8, 8, 8, 8, 8, 8, 8, 8, 8, 8, 8, 8, 8, 8, 8, 8, 8]⟩) v16 fun v17 =>
 zal .i64 v17 fun v18 =>
 pBin PP .add T.int v15 v18 fun v19 =>
 some (v19, H))
 (zal .u8 v10 fun v20 =>
 zcf (.string ⟨#[0, 1, 2, 2, 3, 3, 3, 3, 4, 4, 4, 4, 4, 4, 4, 4, 5, 5, 5, 5, 5, 5, 5, 5, 5, 5, 5, 5, 5, 5, 5, 5, 6, 6, 6, 6, 6, 6, 6, 6, 6, 6, 6, 6, 6, 6, 6, 6, 6, 6, 6, 6, 6, 6, 6, 6, 6, 6, 6, 6, 6, 6, 6, 6, 7, 7, 7, 7, 7, 7, 7, 7, 7, 7, 7, 7, 7, 7, 7, 7, 7, 7, 7, 7, 7, 7, 7, 7, 7, 7, 7, 7, 7, 7, 7, 7, 7, 7, 7, 7, 7, 7, 7, 7, 7, 7, 7, 7, 7, 7, 7, 7, 7, 7, 7, 7, 7, 7, 7, 7, 7, 7, 7, 7, 7, 7, 7, 7, 8, 8, 8, 8, 8, 8, 8, 8, 8, 8, 8, 8, 8, 8, 8, 8, 8, 8, 8, 8, 8, 8, 8, 8, 8, 8, 8, 8, 8, 8, 8, 8, 8, 8, 8, 8, 8, 8, 8, 8, 8, 8, 8, 8, 8, 8, 8, 8, 8, 8, 8, 8, 8, 8, 8, 8, 8, 8, 8, 8, 8, 8, 8, 8, 8, 8, 8, 8, 8, 8, 8, 8, 8, 8, 8, 8, 8, 8, 8, 8, 8, 8, 8, 8, 8, 8, 8, 8, 8, 8, 8, 8, 8, 8, 8, 8, 8, 8, 8, 8, 8, 8, 8, 8, 8, 8, 8, 8, 8, 8, 8, 8, 8, 8, 8, 8, 8, 8, 8, 8, 8, 8, 8, 8, 8, 8, 8, 8]⟩) v20 fun v21 =>
 zal .i64 v21 fun v22 =>
 pBin PP .add T.int v11 v22 fun v23 =>
 some (v23, H)))
 (pBin PP .geq T.uint64 (wv y) (.int .u64 256) fun v24 =>
 zad v24 fun b25 => br b25
 (pBin PP .shr T.uint64 (wv y) (.int .u64 8) fun v26 =>
 pBin PP .add T.int (.int .i64 (n : Int)) (.int .i64 8) fun v27 =>
 zal .u8 v26 fun v28 =>
 zcf (.string ⟨#[0, 1, 2, 2, 3, 3, 3, 3, 4, 4, 4, 4, 4, 4, 4, 4, 5, 5, 5, 5, 5, 5, 5, 5, 5, 5, 5, 5, 5, 5, 5, 5, 6, 6, 6, 6, 6, 6, 6, 6, 6, 6, 6, 6, 6, 6, 6, 6, 6, 6, 6, 6, 6, 6, 6, 6, 6, 6, 6, 6, 6, 6, 6, 6, 7, 7, 7, 7, 7, 7, 7, 7, 7, 7, 7, 7, 7, 7, 7, 7, 7, 7, 7, 7, 7, 7, 7, 7, 7, 7, 7, 7, 7, 7, 7, 7, 7, 7, 7, 7, 7, 7, 7, 7, 7, 7, 7, 7, 7, 7, 7, 7, 7, 7, 7, 7, 7, 7, 7, 7, 7, 7, 7, 7, 7, 7, 7, 7, 8, 8, 8, 8, 8, 8, 8, 8, 8, 8, 8, 8, 8, 8, 8, 8, 8, 8, 8, 8, 8, 8, 8, 8, 8, 8, 8, 8, 8, 8, 8, 8, 8, 8, 8, 8, 8, 8, 8, 8, 8, 8, 8, 8, 8, 8, 8, 8, 8, 8, 8, 8, 8, 8, 8, 8, 8, 8, 8, 8, 8, 8, 8, 8, 8, 8, 8, 8, 8, 8, 8, 8, 8, 8, 8, 8, 8, 8, 8, 8, 8, 8, 8, 8, 8, 8, 8, 8, 8, 8, 8, 8, 8, 8, 8, 8, 8, 8, 8, 8, 8, 8, 8, 8, 8, 8, 8, 8, 8, 8, 8, 8, 8, 8, 8, 8, 8, 8, 8, 8, 8, 8, 8, 8, 8, 8, 8, 8]⟩) v28 fun v29 =>
 zal .i64 v29 fun v30 =>
 pBin PP .add T.int v27 v30 fun v31 =>
 some (v31, H))
 (zal .u8 (wv y) fun v32 =>
 zcf (.string ⟨#[0, 1, 2, 2, 3, 3, 3, 3, 4, 4, 4, 4, 4, 4, 4, 4, 5, 5, 5, 5, 5, 5, 5, 5, 5, 5, 5, 5, 5, 5, 5, 5, 6, 6, 6, 6, 6, 6, 6, 6, 6, 6, 6, 6, 6, 6, 6, 6, 6, 6, 6, 6, 6, 6, 6, 6, 6, 6, 6, 6, 6, 6, 6, 6, 7, 7, 7, 7, 7, 7, 7, 7, 7, 7, 7, 7, 7, 7, 7, 7, 7, 7, 7, 7, 7, 7, 7, 7, 7, 7, 7, 7, 7, 7, 7, 7, 7, 7, 7, 7, 7, 7, 7, 7, 7, 7, 7, 7, 7, 7, 7, 7, 7, 7, 7, 7, 7, 7, 7, 7, 7, 7, 7, 7, 7, 7, 7, 7, 8, 8, 8, 8, 8, 8, 8, 8, 8, 8, 8, 8, 8, 8, 8, 8, 8, 8, 8, 8, 8, 8, 8, 8, 8, 8, 8, 8, 8, 8, 8, 8, 8, 8, 8, 8, 8, 8, 8, 8, 8, 8, 8, 8, 8, 8, 8, 8, 8, 8, 8, 8, 8, 8, 8, 8, 8, 8, 8, 8, 8, 8, 8, 8, 8, 8, 8, 8, 8, 8, 8, 8, 8, 8, 8, 8, 8, 8, 8, 8, 8, 8, 8, 8, 8, 8, 8, 8, 8, 8, 8, 8, 8, 8, 8, 8, 8, 8, 8, 8, 8, 8, 8, 8, 8, 8, 8, 8, 8, 8, 8, 8, 8, 8, 8, 8, 8, 8, 8, 8, 8, 8, 8, 8, 8, 8, 8, 8]⟩) v32 fun v33 =>
 zal .i64 v33 fun v34 =>
 pBin PP .add T.int (.int .i64 (n : Int)) v34 fun v35 =>
 some (v35, H)))) (fun i7 => none) none) = G := by
    intro y n hn hy G hG
    rw [zai, n2, znf, zag, s_br, show (65536#64).toNat = 65536 from rfl]
    by_cases h : 65536 ≤ y.toNat
    · rw [if_pos (decide_eq_true h), s16, za6, zhX (by omega) (by omega)]
      have e := zel y 16
      have hne : y.toNat / 2 ^ 16 ≠ 0 := by omega
      have hl := bitLen_shift y.toNat 16 hne
      rw [← e] at hl
      have e2 : ((n : Int) + 16) = ((n + 16 : Nat) : Int) := by omega
      rw [e2]
      refine tail (y >>> 16) (n + 16) (by omega) (by omega) G ?_
      rw [hG, hl]
      congr 3; omega
    · rw [if_neg (by simpa using h)]
      exact tail y n (by omega) (by omega) G hG
  rw [n1, znf, zag, s_br, show (4294967296#64).toNat = 4294967296 from rfl]
  by_cases h : 4294967296 ≤ x.toNat
  · rw [if_pos (decide_eq_true h), s32]
    have e := zel x 32
    have hx := x.isLt
    have hne : x.toNat / 2 ^ 32 ≠ 0 := by omega
    have hl := bitLen_shift x.toNat 32 hne
    rw [← e] at hl
    refine mid (x >>> 32) 32 (by omega) (by omega) _ ?_
    rw [hl]
  · rw [if_neg (by simpa using h)]
    refine mid x 0 (by omega) (by omega) _ ?_
    rw [Nat.zero_add]
theorem bitLen_64 (x : W64) : bitLen x.toNat ≤ 64 := by
  unfold bitLen
  split
  · omega
  · rename_i h
    have := (Nat.log2_lt h).2 x.isLt
    omega
theorem c63 (x : W64) (H : Hp) : R F.a87 [wv x] H = some (.int .i64 ((64 - bitLen x.toNat : Nat) : Int), H) := by
  refine (zfo E0 rfl _ H).trans ?_
  unfold zcX
  have := bitLen_64 x
  rw [zae (c80 x H), zb0, zhX (by omega) (by omega)]
  congr 3; omega
theorem top_bit {x : W64} (h : x ≠ 0#64) : ∃ i, i < 64 ∧ bitLen x.toNat = i + 1 ∧ x.getLsbD i = true ∧ ∀ j, i < j → x.getLsbD j = false := by
  have h0 : x.toNat ≠ 0 := fun e => h (BitVec.eq_of_toNat_eq e)
  refine ⟨x.toNat.log2, (Nat.log2_lt h0).2 x.isLt, by unfold bitLen; rw [if_neg h0], ?_, fun j hj => ?_⟩
  · rw [← BitVec.testBit_toNat]; exact Nat.testBit_log2 h0
  · rw [← BitVec.testBit_toNat]
    exact Nat.testBit_lt_two_pow (Nat.lt_of_lt_of_le Nat.lt_log2_self (Nat.pow_le_pow_right (by decide) hj))
end Go.AM.N14
namespace Go.AM.N14
open Go Go.AM
theorem bit_test (x : W64) (n : Nat) : ((x >>> n &&& 1#64) = 1#64) ↔ x.getLsbD n = true := by
  constructor
  · intro h
    have := congrArg (fun b => BitVec.getLsbD b 0) h
    simp only [BitVec.getLsbD_and, BitVec.getLsbD_ushiftRight] at this
    simpa using this
  · intro h
    refine zbL fun j => ?_
    rw [BitVec.getLsbD_and, BitVec.getLsbD_ushiftRight]
    have e1 : (1#64).getLsbD j = decide (j = 0) := by have := zbQ 0 j (by decide); rwa [BitVec.shiftLeft_zero] at this
    rw [e1]
    by_cases hj : j = 0
    · subst hj; simp [h]
    · simp [hj]
theorem bit_test0 (x : W64) (n : Nat) : ((x >>> n &&& 1#64) = 0#64) ↔ x.getLsbD n = false := by
  constructor
  · intro h
    have := congrArg (fun b => BitVec.getLsbD b 0) h
    simp only [BitVec.getLsbD_and, BitVec.getLsbD_ushiftRight] at this
    simpa using this
  · intro h
    refine zbL fun j => ?_
    rw [BitVec.getLsbD_and, BitVec.getLsbD_ushiftRight, BitVec.getLsbD_zero]
    have e1 : (1#64).getLsbD j = decide (j = 0) := by have := zbQ 0 j (by decide); rwa [BitVec.shiftLeft_zero] at this
    rw [e1]
    by_cases hj : j = 0
    · subst hj; simp [h]
    · simp [hj]
def upV (r : Option W64) : Value := .tuple #[wv (r.getD 0#64), .bool r.isSome]
theorem s44_step {f : Fct} (hw : f.w ≤ 64) (x : W64) (i : Nat) (hi : i ≤ 64) (H : Hp) : zca R f.val (wv x) [.int .i64 (i : Int)] H =
    if i < wd f.w then (if x.getLsbD i = false ∧ f.zero.getLsbD i = false then some (.ret, [upV (some (zpQ f.one x i))], H) else some (.next, [.int .i64 ((i + 1 : Nat) : Int)], H)) else some (.exit 0, [.int .i64 (i : Int)], H) := by
  unfold zca
  have hn := zbf hw
  simp only [f_w, zaD, zaX, zae (c43 _ _), qg0, zbj, zag, s_br, decide_eq_true_eq, cu64 i (by omega), zc8, u_1, u_0, zba, zdU, zb2, zc7, b_or, za6, bit_test0]
  by_cases h : i < wd f.w
  · rw [if_pos (by omega), if_pos h]
    by_cases h1 : x.getLsbD i = false
    · rw [if_pos h1]
      simp only [zao, zai, qg0, zag, s_br, decide_eq_true_eq]
      by_cases h2 : f.zero.getLsbD i = false
      · rw [if_pos h2, if_pos ⟨h1, h2⟩]; rfl
      · rw [if_neg h2, if_neg (fun q => h2 q.2), zhX (by omega) (by omega)]; rfl
    · rw [if_neg h1, if_neg (fun q => h1 q.1)]
      simp only [zao, zai, qg0, zag, s_br]
      rw [if_neg (by decide), zhX (by omega) (by omega)]; rfl
  · rw [if_neg (by omega), if_neg h]
theorem loop44 {f : Fct} (hw : f.w ≤ 64) (x : W64) (H : Hp) : ∀ (m i : Nat), i + m = 64 → i ≤ wd f.w → (∃ j, i ≤ j ∧ j < wd f.w ∧ x.getLsbD j = false ∧ f.zero.getLsbD j = false ∧ (∀ k, i ≤ k → k < j → ¬ (x.getLsbD k = false ∧ f.zero.getLsbD k = false)) ∧
      zaA (zca R f.val (wv x)) [.int .i64 (i : Int)] H = some (.ret, [upV (some (zpQ f.one x j))], H)) ∨
    ((∀ k, i ≤ k → k < wd f.w → ¬ (x.getLsbD k = false ∧ f.zero.getLsbD k = false)) ∧ ∃ l, zaA (zca R f.val (wv x)) [.int .i64 (i : Int)] H = some (.exit 0, l, H))
  | m, i, hm, hi => by
    have hn := zbf hw
    rw [zaq, s44_step hw x i (by omega)]
    by_cases h : i < wd f.w
    · rw [if_pos h]
      by_cases h1 : x.getLsbD i = false ∧ f.zero.getLsbD i = false
      · rw [if_pos h1]
        exact .inl ⟨i, Nat.le_refl _, h, h1.1, h1.2, fun k a b => absurd a (by omega), rfl⟩
      · rw [if_neg h1]
        show _ ∨ (_ ∧ ∃ l, zaA (zca R f.val (wv x)) [.int .i64 ((i + 1 : Nat) : Int)] H = _)
        match m, hm with
        | 0, hm => omega
        | m + 1, hm =>
        rcases loop44 hw x H m (i + 1) (by omega) (by omega) with ⟨j, a1, a2, a3, a4, a5, a6⟩ | ⟨a1, a2⟩
        · refine .inl ⟨j, by omega, a2, a3, a4, fun k b1 b2 => ?_, a6⟩
          rcases Nat.lt_or_eq_of_le b1 with q | rfl
          · exact a5 k q b2
          · exact h1
        · refine .inr ⟨fun k b1 b2 => ?_, a2⟩
          rcases Nat.lt_or_eq_of_le b1 with q | rfl
          · exact a1 k q b2
          · exact h1
    · rw [if_neg h]
      exact .inr ⟨fun k a b => absurd b (by omega), _, rfl⟩
theorem c44 {f : Fct} (h0 : 0 ≤ f.w) (hw : f.w ≤ 64) (ho : f.one.toNat ≤ (msk (wd f.w)).toNat) (hz : f.zero.toNat ≤ (msk (wd f.w)).toNat) {x : W64} (hx : x.toNat ≤ (msk (wd f.w)).toNat) (H : Hp) :
    ∃ r, Up f.one f.zero x (wd f.w) r ∧ R F.a40 [f.val, wv x] H = some (upV r, H) := by
  have hr := (zpt E0 rfl f.val (wv x) H).trans (zpJ _ _ _ _)
  have hn := zbf hw
  rw [zaX, zaD, zba, u_0, b_neq, zag, s_br] at hr
  by_cases hd : f.one &&& f.zero = 0#64
  case neg =>
    rw [if_pos (by simp [hd])] at hr
    exact ⟨none, up_clash fun q => hd (dis_iff.2 q), hr⟩
  rw [if_neg (by simp [hd])] at hr
  have hd := dis_iff.1 hd
  rw [zak, zae (c27 f x H), zag, s_br] at hr
  by_cases hf : Fit f.one f.zero x
  case pos =>
    rw [if_pos (decide_eq_true hf)] at hr
    exact ⟨some x, up_fit hx hf, hr⟩
  rw [if_neg (by simpa using hf)] at hr
  rw [zaD, zba, b_not, zaX, zba, b_or, zae (c63 _ H)] at hr
  generalize hwr : (x &&& f.zero ||| ~~~x &&& f.one) = wr at hr
  have wbit : ∀ j, wr.getLsbD j = ((x.getLsbD j && f.zero.getLsbD j) || (!x.getLsbD j && f.one.getLsbD j)) := fun j => by
    rw [← hwr, BitVec.getLsbD_or, BitVec.getLsbD_and, BitVec.getLsbD_and, BitVec.getLsbD_not]
    rcases Nat.lt_or_ge j 64 with q | q
    · simp [q]
    · simp [zj4 x q, zj4 f.one q]
  have good : ∀ j, wr.getLsbD j = false → (f.one.getLsbD j = true → x.getLsbD j = true) ∧ (f.zero.getLsbD j = true → x.getLsbD j = false) := fun j hj => by
    rw [wbit] at hj
    cases h1 : x.getLsbD j <;> cases h2 : f.zero.getLsbD j <;> cases h3 : f.one.getLsbD j <;> rw [h1, h2, h3] at hj <;> first | (exact absurd hj (by decide)) | simp
  have hne : wr ≠ 0#64 := fun e => hf fun j => good j (by rw [e, BitVec.getLsbD_zero])
  obtain ⟨h, h64, hb, hbit, habove⟩ := top_bit hne
  rw [hb, zb0, zhX (by omega) (by omega), show ((63 : Int) - ((64 - (h + 1) : Nat) : Int)) = (h : Int) by omega] at hr
  simp only [zaX, zaD, cu64 h (by omega), zc8, u_1, zba, zdU, bit_test, zag, s_br, decide_eq_true_eq, zb2, b_or, zc7] at hr
  have bad : ∀ i, (∀ j, i < j → (f.one.getLsbD j = true → x.getLsbD j = true) ∧ (f.zero.getLsbD j = true → x.getLsbD j = false)) → h ≤ i := fun i hi => by
    rcases Nat.lt_or_ge i h with q | q
    · have g := hi h q
      rw [wbit] at hbit
      cases h1 : x.getLsbD h <;> cases h2 : f.zero.getLsbD h <;> cases h3 : f.one.getLsbD h <;> rw [h1, h2, h3] at hbit g <;> simp at hbit g
    · exact q
  by_cases h1 : f.one.getLsbD h = true
  · rw [if_pos h1] at hr
    have hz0 := hd h h1
    have hx0 : x.getLsbD h = false := by
      rw [wbit, hz0, h1] at hbit
      cases q : x.getLsbD h with
      | false => rfl
      | true => rw [q] at hbit; cases hbit
    have hlt : h < wd f.w := by
      rcases Nat.lt_or_ge h (wd f.w) with q | q
      · exact q
      · rw [(zaQ hn).1 ho h q] at h1; cases h1
    exact ⟨some (zpQ f.one x h), up_at hn hlt hx ho hd hf hx0 hz0 (fun j hj => good j (habove j hj)) (fun i _ _ hi => bad i hi) (zpc _ _ h64), hr⟩
  · rw [if_neg h1, za6, zhX (by omega) (by omega)] at hr
    have hxz : x.getLsbD h = true ∧ f.zero.getLsbD h = true := by
      rw [wbit] at hbit
      cases q : x.getLsbD h <;> cases q2 : f.zero.getLsbD h <;> rw [q, q2, Bool.eq_false_iff.2 h1] at hbit <;> simp at hbit ⊢
    have hlt : h < wd f.w := by
      rcases Nat.lt_or_ge h (wd f.w) with q | q
      · exact q
      · rw [(zaQ hn).1 hx h q] at hxz; exact absurd hxz.1 (by decide)
    rw [show ((h : Int) + 1) = ((h + 1 : Nat) : Int) by omega] at hr
    rcases loop44 hw x H (64 - (h + 1)) (h + 1) (by omega) hlt with ⟨j, a1, a2, a3, a4, a5, a6⟩ | ⟨a1, l, a2⟩
    · rw [a6, zao, zbM] at hr
      refine ⟨some (zpQ f.one x j), up_at hn a2 hx ho hd hf a3 a4 (fun k hk => good k (habove k (by omega))) (fun i b1 b2 b3 => ?_) (zpc _ _ (by omega)), hr⟩
      have := bad i b3
      rcases Nat.lt_or_ge i j with q | q
      · rcases Nat.lt_or_eq_of_le this with q2 | rfl
        · exact absurd ⟨b1, b2⟩ (a5 i q2 q)
        · rw [hxz.1] at b1; cases b1
      · exact q
    · rw [a2, zao, zbq] at hr
      refine ⟨none, up_none hn hf fun i b1 b2 b3 b4 => ?_, hr⟩
      have := bad i b4
      rcases Nat.lt_or_eq_of_le this with q2 | rfl
      · exact a1 i q2 b1 ⟨b2, b3⟩
      · rw [hxz.1] at b2; cases b2
end Go.AM.N14
namespace Go.AM.N14
open Go Go.AM
structure Fct.May (f : Fct) : Prop where
  w0 : 0 ≤ f.w
  w64 : f.w ≤ 64
  one : f.one.toNat ≤ (msk (wd f.w)).toNat
  zero : f.zero.toNat ≤ (msk (wd f.w)).toNat
  least : f.least.toNat ≤ (msk (wd f.w)).toNat
  top : f.top.toNat ≤ (msk (wd f.w)).toNat
theorem zjD (f : Fct) : f.May ↔ ((0 ≤ f.w ∧ f.w ≤ 64) ∧ f.one.toNat ≤ (msk (wd f.w)).toNat ∧ f.zero.toNat ≤ (msk (wd f.w)).toNat ∧ f.least.toNat ≤ (msk (wd f.w)).toNat ∧ f.top.toNat ≤ (msk (wd f.w)).toNat) :=
  ⟨fun ⟨a, b, c, d, e, g⟩ => ⟨⟨a, b⟩, c, d, e, g⟩, fun ⟨⟨a, b⟩, c, d, e, g⟩ => ⟨a, b, c, d, e, g⟩⟩
instance (f : Fct) : Decidable f.May := decidable_of_iff _ (zjD f).symm
theorem zmS (H : Hp) (f : Fct) (m : W64) : (zab 1 false (zaa f.val) 1 fun v14 => pBin PP .leq T.uint64 v14 (wv m) fun v15 => zad v15 fun b16 => br b16
 (zab 1 false (zaa f.val) 2 fun v17 => pBin PP .leq T.uint64 v17 (wv m) fun v18 => zad v18 fun b19 => br b19
 (zab 1 false (zaa f.val) 3 fun v20 => pBin PP .leq T.uint64 v20 (wv m) fun v21 => zad v21 fun b22 => br b22
 (zab 1 false (zaa f.val) 4 fun v23 => pBin PP .leq T.uint64 v23 (wv m) fun v24 => some (v24, H))
 (some ((.bool false), H))) (some ((.bool false), H))) (some ((.bool false), H))) =
    some (.bool (decide (f.one.toNat ≤ m.toNat ∧ f.zero.toNat ≤ m.toNat ∧ f.least.toNat ≤ m.toNat ∧ f.top.toNat ≤ m.toNat)), H) := by
  simp only [zaX, zaD, zas, zaK, zhJ, zag, s_br, decide_eq_true_eq]
  by_cases h1 : f.one.toNat ≤ m.toNat
  · by_cases h2 : f.zero.toNat ≤ m.toNat
    · by_cases h3 : f.least.toNat ≤ m.toNat
      · simp [h1, h2, h3]
      · simp [h1, h2, h3]
    · simp [h1, h2]
  · simp [h1]
theorem c19 (f : Fct) (H : Hp) : R F.a37 [f.val] H = some (.bool (decide f.May), H) := by
  refine (znC E0 rfl _ H).trans ?_
  unfold zjI
  simp only [f_w, zbj, zbl, zag, s_br, decide_eq_true_eq]
  by_cases h0 : f.w < 0
  · rw [if_pos h0, zao, zbM, decide_eq_false (fun q => by have := q.w0; omega)]; rfl
  rw [if_neg h0]
  by_cases h1 : f.w > 64
  · rw [if_pos h1, zao, zbM, decide_eq_false (fun q => by have := q.w64; omega)]; rfl
  rw [if_neg h1, zao, zai, zae (c26 (by omega) H)]
  have := zmS H f (msk (wd f.w))
  simp only [s_br, decide_eq_true_eq] at this
  rw [this]
  congr 3
  rw [decide_eq_decide, zjD]
  exact ⟨fun h => ⟨by omega, h⟩, fun h => h.2⟩
theorem c8 (f : Fct) (H : Hp) : R F.a33 [f.val] H = some (.bool (decide f.May), H) := by
  refine (zhc E0 rfl _ H).trans ?_
  unfold zd9
  simp only [f_w, zbj, zbl, zag, s_br, decide_eq_true_eq]
  by_cases h0 : f.w < 0
  · rw [if_pos h0, zao, zbM, decide_eq_false (fun q => by have := q.w0; omega)]; rfl
  rw [if_neg h0]
  by_cases h1 : f.w > 64
  · rw [if_pos h1, zao, zbM, decide_eq_false (fun q => by have := q.w64; omega)]; rfl
  rw [if_neg h1, zao, zai, zae (c11 (by omega) (by omega) H)]
  have := zmS H f (msk (wd f.w))
  simp only [s_br, decide_eq_true_eq] at this
  rw [this]
  congr 3
  rw [decide_eq_decide, zjD]
  exact ⟨fun h => ⟨by omega, h⟩, fun h => h.2⟩
def Mem (f : Fct) (x : W64) : Prop := Fit f.one f.zero x ∧ f.least.toNat ≤ x.toNat ∧ x.toNat ≤ f.top.toNat
instance (f : Fct) (x : W64) : Decidable (Mem f x) := by unfold Mem; infer_instance
theorem Mem.le {f : Fct} (hf : f.May) {x : W64} (h : Mem f x) : x.toNat ≤ (msk (wd f.w)).toNat := Nat.le_trans h.2.2 hf.top
theorem c45 {f : Fct} (h0 : 0 ≤ f.w) (hw : f.w ≤ 64) (ho : f.one.toNat ≤ (msk (wd f.w)).toNat) (hz : f.zero.toNat ≤ (msk (wd f.w)).toNat) {x : W64} (hx : x.toNat ≤ (msk (wd f.w)).toNat) (H : Hp) :
    ∃ r b, Down f.one f.zero x (wd f.w) r ∧ (∀ y, r = some y → b = y) ∧ R F.a115 [f.val, wv x] H = some (.tuple #[wv b, .bool r.isSome], H) := by
  have hn := zbf hw
  obtain ⟨r, h1, h2⟩ := c44 (f := ⟨f.w, f.zero, f.one, 0#64, 0#64⟩) h0 hw hz ho (x := msk (wd f.w) &&& ~~~x) (zn3 hn x) H
  refine ⟨r.map fun y => msk (wd f.w) &&& ~~~y, msk (wd f.w) &&& ~~~(r.getD 0#64), zh6 hn ho hz hx h1, fun y hy => ?_, ?_⟩
  · cases r with
    | none => cases hy
    | some z => cases hy; rfl
  · refine (zmr E0 rfl _ _ H).trans ?_
    unfold zis
    rw [f_w, zae (c26 hw H), f_w, zaD, zaX, b_w3, zbR, zae h2]
    unfold upV
    rw [zcN, zcM, zbR]
    cases r <;> rfl
theorem c46 {f : Fct} (h0 : 0 ≤ f.w) (hw : f.w ≤ 64) (ho : f.one.toNat ≤ (msk (wd f.w)).toNat) (hz : f.zero.toNat ≤ (msk (wd f.w)).toNat) {x y : W64} (hx : x.toNat ≤ (msk (wd f.w)).toNat) (hy : y.toNat ≤ (msk (wd f.w)).toNat) (H : Hp) :
    ∃ b : Bool, (b = true ↔ ∃ t, Fit f.one f.zero t ∧ x.toNat ≤ t.toNat ∧ t.toNat ≤ y.toNat) ∧ R F.a78 [f.val, wv x, wv y] H = some (.bool b, H) := by
  obtain ⟨r, h1, h2⟩ := c44 h0 hw ho hz hx H
  have hr := zmo E0 rfl f.val (wv x) (wv y) H
  unfold zin at hr
  rw [zak, zae h2] at hr
  unfold upV at hr
  rw [zcN, zcM, zag, s_br] at hr
  cases r with
  | none =>
    rw [if_neg (by simp)] at hr
    refine ⟨false, ⟨fun h => absurd h (by decide), fun ⟨t, a, b, c⟩ => (h1 t a b (by omega)).elim⟩, hr⟩
  | some z =>
    rw [if_pos (by simp), zhJ] at hr
    refine ⟨decide (z.toNat ≤ y.toNat), ?_, hr⟩
    rw [decide_eq_true_eq]
    exact ⟨fun h => ⟨z, h1.1, h1.2.1, h⟩, fun ⟨t, a, b, c⟩ => Nat.le_trans (h1.2.2.2 t a b) c⟩
end Go.AM.N14
namespace Go.AM.N14
open Go Go.AM
abbrev F0 : Fct := ⟨0, 0#64, 0#64, 0#64, 0#64⟩
section
variable {α : Type}
theorem zcZ (k : Value → Option α) : zar PP T.api_Fact [] k = k F0.val := by kernel_rfl
theorem zaL (f : Fct) : Value.agg (zaa f.val).toArray = f.val := rfl
theorem V0_val : Value.agg ([Value.int .i64 0, .int .u64 0, .int .u64 0, .int .u64 0, .int .u64 0] : List Value).toArray = F0.val := rfl
theorem sp_0 (f : Fct) (k : List Value → Option α) : zac 5 [.int .i64 0, .int .u64 0, .int .u64 0, .int .u64 0, .int .u64 0] 0 f.val k = k (zaa f.val) := sp_all f _ rfl k
theorem sp_f (f g : Fct) (k : List Value → Option α) : zac 5 (zaa g.val) 0 f.val k = k (zaa f.val) := sp_all f _ rfl k
end
structure Stl (f g : Fct) : Prop where
  w : g.w = f.w
  lo : Mem f g.least
  hi : Mem f g.top
  all : ∀ t, Mem f t → g.least.toNat ≤ t.toNat ∧ t.toNat ≤ g.top.toNat
  one : ∀ j, g.one.getLsbD j = true ↔ (j < wd f.w ∧ ∀ t, Mem f t → t.getLsbD j = true)
  zero : ∀ j, g.zero.getLsbD j = true ↔ (j < wd f.w ∧ ∀ t, Mem f t → t.getLsbD j = false)
structure ze0 (f g : Fct) (lo hi : W64) (i : Nat) : Prop where
  w : g.w = f.w
  least : g.least = lo
  top : g.top = hi
  one : ∀ j, g.one.getLsbD j = true ↔ (j < i ∧ ∀ t, Mem f t → t.getLsbD j = true)
  zero : ∀ j, g.zero.getLsbD j = true ↔ (j < i ∧ ∀ t, Mem f t → t.getLsbD j = false)
theorem zb1 (o : W64) (i j : Nat) (hi : i < 64) : (o ||| (1#64) <<< i).getLsbD j = (o.getLsbD j || decide (j = i)) := by
  rw [BitVec.getLsbD_or, zbQ i j hi]
theorem zjS {o z t : W64} {i : Nat} (hi : i < 64) : Fit (o ||| (1#64) <<< i) z t ↔ Fit o z t ∧ t.getLsbD i = true := by
  constructor
  · intro h
    refine ⟨fun j => ⟨fun hj => (h j).1 (by rw [zb1 o i j hi, hj]; rfl), (h j).2⟩, (h i).1 (by rw [zb1 o i i hi]; simp)⟩
  · rintro ⟨h, ht⟩ j
    refine ⟨fun hj => ?_, (h j).2⟩
    rw [zb1 o i j hi] at hj
    by_cases e : j = i
    · subst e; exact ht
    · exact (h j).1 (by simpa [e] using hj)
theorem zhF {o z t : W64} {i : Nat} (hi : i < 64) : Fit o (z ||| (1#64) <<< i) t ↔ Fit o z t ∧ t.getLsbD i = false := by
  constructor
  · intro h
    refine ⟨fun j => ⟨(h j).1, fun hj => (h j).2 (by rw [zb1 z i j hi, hj]; rfl)⟩, (h i).2 (by rw [zb1 z i i hi]; simp)⟩
  · rintro ⟨h, ht⟩ j
    refine ⟨(h j).1, fun hj => ?_⟩
    rw [zb1 z i j hi] at hj
    by_cases e : j = i
    · subst e; exact ht
    · exact (h j).2 (by simpa [e] using hj)
theorem zia {o : W64} {i : Nat} (hi : i < 64) : (o &&& (1#64) <<< i = 0#64) ↔ o.getLsbD i = false := by
  constructor
  · intro h
    have := congrArg (fun b => BitVec.getLsbD b i) h
    simp only [BitVec.getLsbD_and, zbQ i i hi, BitVec.getLsbD_zero] at this
    simpa using this
  · intro h
    refine zbL fun j => ?_
    rw [BitVec.getLsbD_and, zbQ i j hi, BitVec.getLsbD_zero]
    by_cases e : j = i
    · subst e; rw [h]; rfl
    · simp [e]
theorem inv_one {f g : Fct} {lo hi : W64} {i : Nat} (h : ze0 f g lo hi i) (h64 : i < 64) (hm : Mem f lo) (ha : ∀ t, Mem f t → t.getLsbD i = true) : ze0 f { g with one := g.one ||| (1#64) <<< i } lo hi (i + 1) := by
  refine ⟨h.w, h.least, h.top, fun j => ?_, fun j => ?_⟩
  · show (g.one ||| (1#64) <<< i).getLsbD j = true ↔ _
    rw [zb1 _ _ _ h64, Bool.or_eq_true, h.one j, decide_eq_true_eq]
    constructor
    · rintro (⟨a, b⟩ | rfl)
      · exact ⟨by omega, b⟩
      · exact ⟨by omega, ha⟩
    · rintro ⟨a, b⟩
      by_cases e : j = i
      · exact .inr e
      · exact .inl ⟨by omega, b⟩
  · rw [h.zero j]
    constructor
    · exact fun ⟨a, b⟩ => ⟨by omega, b⟩
    · rintro ⟨a, b⟩
      refine ⟨?_, b⟩
      by_cases e : j = i
      · subst e; have := ha lo hm; rw [b lo hm] at this; cases this
      · omega
theorem zo2 {f g : Fct} {lo hi : W64} {i : Nat} (h : ze0 f g lo hi i) (h64 : i < 64) (hm : Mem f lo) (ha : ∀ t, Mem f t → t.getLsbD i = false) : ze0 f { g with zero := g.zero ||| (1#64) <<< i } lo hi (i + 1) := by
  refine ⟨h.w, h.least, h.top, fun j => ?_, fun j => ?_⟩
  · rw [h.one j]
    constructor
    · exact fun ⟨a, b⟩ => ⟨by omega, b⟩
    · rintro ⟨a, b⟩
      refine ⟨?_, b⟩
      by_cases e : j = i
      · subst e; have := ha lo hm; rw [b lo hm] at this; cases this
      · omega
  · show (g.zero ||| (1#64) <<< i).getLsbD j = true ↔ _
    rw [zb1 _ _ _ h64, Bool.or_eq_true, h.zero j, decide_eq_true_eq]
    constructor
    · rintro (⟨a, b⟩ | rfl)
      · exact ⟨by omega, b⟩
      · exact ⟨by omega, ha⟩
    · rintro ⟨a, b⟩
      by_cases e : j = i
      · exact .inr e
      · exact .inl ⟨by omega, b⟩
theorem inv_same {f g : Fct} {lo hi : W64} {i : Nat} (h : ze0 f g lo hi i) {t u : W64} (ht : Mem f t) (hu : Mem f u) (h1 : t.getLsbD i = true) (h2 : u.getLsbD i = false) : ze0 f g lo hi (i + 1) := by
  refine ⟨h.w, h.least, h.top, fun j => ?_, fun j => ?_⟩
  · rw [h.one j]
    constructor
    · exact fun ⟨a, b⟩ => ⟨by omega, b⟩
    · rintro ⟨a, b⟩
      refine ⟨?_, b⟩
      by_cases e : j = i
      · subst e; have := b u hu; rw [h2] at this; cases this
      · omega
  · rw [h.zero j]
    constructor
    · exact fun ⟨a, b⟩ => ⟨by omega, b⟩
    · rintro ⟨a, b⟩
      refine ⟨?_, b⟩
      by_cases e : j = i
      · subst e; have := b t ht; rw [h1] at this; cases this
      · omega
theorem zoF {o : W64} {i n : Nat} (hn : n ≤ 64) (hi : i < n) (ho : o.toNat ≤ (msk n).toNat) : (o ||| (1#64) <<< i).toNat ≤ (msk n).toNat := (zaQ hn).2 fun j hj => by
  rw [zb1 o i j (by omega), (zaQ hn).1 ho j hj]; simp; omega
theorem s33_step {f : Fct} (hf : f.May) {lo hi : W64} (hlo : Mem f lo) (hhi : Mem f hi) (hall : ∀ t, Mem f t ↔ (Fit f.one f.zero t ∧ lo.toNat ≤ t.toNat ∧ t.toNat ≤ hi.toNat)) {g : Fct} {i : Nat} (h : i < wd f.w) (hI : ze0 f g lo hi i) (H : Hp) :
    ∃ g', ze0 f g' lo hi (i + 1) ∧ zbk R f.val (wv lo) (wv hi) (.int .i64 ((wd f.w : Nat) : Int)) [.int .i64 (i : Int), g.val] H = some (.next, [.int .i64 ((i + 1 : Nat) : Int), g'.val], H) := by
  have hn := zbf hf.w64
  have hle := hlo.le hf
  have hhe := hhi.le hf
  have w1 : ({ f with one := f.one ||| (1#64) <<< i, least := 0#64, top := 0#64 } : Fct).w = f.w := rfl
  obtain ⟨b1, e1, q1⟩ := c46 (f := ⟨f.w, f.one ||| (1#64) <<< i, f.zero, 0#64, 0#64⟩) hf.w0 hf.w64 (zoF hn h hf.one) hf.zero hle hhe H
  obtain ⟨b2, e2, q2⟩ := c46 (f := ⟨f.w, f.one, f.zero ||| (1#64) <<< i, 0#64, 0#64⟩) hf.w0 hf.w64 hf.one (zoF hn h hf.zero) hle hhe H
  have hs : zbk R f.val (wv lo) (wv hi) (.int .i64 ((wd f.w : Nat) : Int)) [.int .i64 (i : Int), g.val] H =
      (if f.one.getLsbD i = true then some (.next, [.int .i64 ((i + 1 : Nat) : Int), ({ g with one := g.one ||| (1#64) <<< i } : Fct).val], H)
       else if f.zero.getLsbD i = true then some (.next, [.int .i64 ((i + 1 : Nat) : Int), ({ g with zero := g.zero ||| (1#64) <<< i } : Fct).val], H)
       else if b1 = false then some (.next, [.int .i64 ((i + 1 : Nat) : Int), ({ g with zero := g.zero ||| (1#64) <<< i } : Fct).val], H)
       else if b2 = false then some (.next, [.int .i64 ((i + 1 : Nat) : Int), ({ g with one := g.one ||| (1#64) <<< i } : Fct).val], H)
       else some (.next, [.int .i64 ((i + 1 : Nat) : Int), g.val], H)) := by
    unfold zbk
    simp only [qg0, qd1, qd0, zbj, zag, s_br, decide_eq_true_eq, cu64 i (by omega), u_1, u_0, zb2, f_w, zaX, zaD, zba, b_neq, b_or, zia (show i < 64 by omega), za6, zhX (x := (i : Int) + 1) (by omega) (by omega),
      zb3, zbs, zaL, b_w3, zae q1, zae q2, za4]
    rw [if_pos (by omega)]
    have c : ((i : Int) + 1) = ((i + 1 : Nat) : Int) := by omega
    rw [c]
    cases f.one.getLsbD i <;> cases f.zero.getLsbD i <;> cases b1 <;> cases b2 <;> simp
  rw [hs]
  by_cases h1 : f.one.getLsbD i = true
  · rw [if_pos h1]
    exact ⟨_, inv_one hI (by omega) hlo fun t ht => (ht.1 i).1 h1, rfl⟩
  rw [if_neg h1]
  by_cases h2 : f.zero.getLsbD i = true
  · rw [if_pos h2]
    exact ⟨_, zo2 hI (by omega) hlo fun t ht => (ht.1 i).2 h2, rfl⟩
  rw [if_neg h2]
  by_cases h3 : b1 = false
  · rw [if_pos h3]
    refine ⟨_, zo2 hI (by omega) hlo fun t ht => ?_, rfl⟩
    cases q : t.getLsbD i with
    | false => rfl
    | true =>
      have := (hall t).1 ht
      rw [e1.2 ⟨t, (zjS (by omega)).2 ⟨this.1, q⟩, this.2⟩] at h3; cases h3
  rw [if_neg h3]
  by_cases h4 : b2 = false
  · rw [if_pos h4]
    refine ⟨_, inv_one hI (by omega) hlo fun t ht => ?_, rfl⟩
    cases q : t.getLsbD i with
    | true => rfl
    | false =>
      have := (hall t).1 ht
      rw [e2.2 ⟨t, (zhF (by omega)).2 ⟨this.1, q⟩, this.2⟩] at h4; cases h4
  rw [if_neg h4]
  obtain ⟨t, t1, t2⟩ := e1.1 (by simpa using h3)
  obtain ⟨u, u1, u2⟩ := e2.1 (by simpa using h4)
  obtain ⟨t1, t3⟩ := (zjS (by omega)).1 t1
  obtain ⟨u1, u3⟩ := (zhF (by omega)).1 u1
  exact ⟨g, inv_same hI ((hall t).2 ⟨t1, t2⟩) ((hall u).2 ⟨u1, u2⟩) t3 u3, rfl⟩
theorem loop33 {f : Fct} (hf : f.May) {lo hi : W64} (hlo : Mem f lo) (hhi : Mem f hi) (hall : ∀ t, Mem f t ↔ (Fit f.one f.zero t ∧ lo.toNat ≤ t.toNat ∧ t.toNat ≤ hi.toNat)) (H : Hp) : ∀ (m i : Nat) (g : Fct), i + m = wd f.w → ze0 f g lo hi i →
    ∃ g', ze0 f g' lo hi (wd f.w) ∧ zaA (zbk R f.val (wv lo) (wv hi) (.int .i64 ((wd f.w : Nat) : Int))) [.int .i64 (i : Int), g.val] H = some (.exit 0, [.int .i64 ((wd f.w : Nat) : Int), g'.val], H)
  | 0, i, g, hm, hI => by
    have : i = wd f.w := by omega
    subst this
    refine ⟨g, hI, ?_⟩
    rw [zaq]
    have : zbk R f.val (wv lo) (wv hi) (.int .i64 ((wd f.w : Nat) : Int)) [.int .i64 ((wd f.w : Nat) : Int), g.val] H = some (.exit 0, [.int .i64 ((wd f.w : Nat) : Int), g.val], H) := by
      unfold zbk
      simp only [qg0, qd1, qd0, zbj, zag, s_br, decide_eq_true_eq, zaL]
      rw [if_neg (by omega)]
    rw [this]; rfl
  | m + 1, i, g, hm, hI => by
    obtain ⟨g1, h1, h2⟩ := s33_step hf hlo hhi hall (by omega) hI H
    obtain ⟨g2, h3, h4⟩ := loop33 hf hlo hhi hall H m (i + 1) g1 (by omega) h1
    refine ⟨g2, h3, ?_⟩
    rw [zaq, h2]
    exact h4
theorem c33 {f : Fct} (hf : f.May) (H : Hp) : (∃ g, Stl f g ∧ R F.a5 [f.val] H = some (.tuple #[g.val, .bool true], H)) ∨ ((∀ t, ¬ Mem f t) ∧ R F.a5 [f.val] H = some (.tuple #[F0.val, .bool false], H)) := by
  have hn := zbf hf.w64
  obtain ⟨r, u1, u2⟩ := c44 hf.w0 hf.w64 hf.one hf.zero hf.least H
  obtain ⟨s, b, d1, d2, d3⟩ := c45 hf.w0 hf.w64 hf.one hf.zero hf.top H
  have hr := (zkg E0 rfl f.val H).trans (zkp _ _ _)
  rw [zak, zas, zae u2] at hr
  unfold upV at hr
  rw [zcN, zcM, zak, zaK, zae d3, zcN, zcM] at hr
  simp only [za4, zag, s_br, zcZ, sp_0, zak, zas, zaK, zhK, decide_eq_true_eq, V0_val] at hr
  cases r with
  | none =>
    rw [Option.isSome_none, if_pos (by decide), zao, zbM] at hr
    exact .inr ⟨fun t ht => u1 t ht.1 ht.2.1 (ht.le hf), hr⟩
  | some lo =>
    rw [Option.isSome_some, if_neg (by decide)] at hr
    cases s with
    | none =>
      rw [Option.isSome_none, if_pos (by decide), zao, zbM] at hr
      exact .inr ⟨fun t ht => d1 t ht.1 ht.2.2, hr⟩
    | some hi =>
      obtain rfl : b = hi := d2 hi rfl
      rw [Option.isSome_some, if_neg (by decide), Option.getD_some] at hr
      by_cases h1 : b.toNat < lo.toNat
      · rw [if_pos h1, zao, zbM] at hr
        refine .inr ⟨fun t ht => ?_, hr⟩
        have := u1.2.2.2 t ht.1 ht.2.1
        have := d1.2.2 t ht.1 ht.2.2
        omega
      rw [if_neg h1] at hr
      by_cases h2 : f.top.toNat < f.least.toNat
      · rw [if_pos h2, zao, zbM] at hr
        exact .inr ⟨fun t ht => by have := ht.2.1; have := ht.2.2; omega, hr⟩
      rw [if_neg h2, zao, zai] at hr
      have hlo : Mem f lo := ⟨u1.1, u1.2.1, by have := d1.2.1; omega⟩
      have hhi : Mem f b := ⟨d1.1, by have := u1.2.1; omega, d1.2.1⟩
      have hall : ∀ t, Mem f t ↔ (Fit f.one f.zero t ∧ lo.toNat ≤ t.toNat ∧ t.toNat ≤ b.toNat) := fun t =>
        ⟨fun ht => ⟨ht.1, u1.2.2.2 t ht.1 ht.2.1, d1.2.2 t ht.1 ht.2.2⟩, fun ht => ⟨ht.1, by have := u1.2.1; omega, by have := d1.2.1; omega⟩⟩
      have hI0 : ze0 f ⟨f.w, 0#64, 0#64, lo, b⟩ lo b 0 := ⟨rfl, rfl, rfl, fun j => by simp, fun j => by simp⟩
      obtain ⟨g, g1, g2⟩ := loop33 hf hlo hhi hall H (wd f.w) 0 ⟨f.w, 0#64, 0#64, lo, b⟩ (by omega) hI0
      rw [f_w, b_wlt, sp_0, f_w, zae (c26 hf.w64 H), f_w, zae (c43 f.w H), zaL] at hr
      have g2' : zaA (zbk R f.val (wv lo) (wv b) (.int .i64 ((wd f.w : Nat) : Int))) [.int .i64 0, Fct.val ⟨f.w, 0#64, 0#64, lo, b⟩] H = some (.exit 0, [.int .i64 ((wd f.w : Nat) : Int), g.val], H) := g2
      rw [g2', zao, zbq] at hr
      have gone : g.one &&& msk (wd f.w) = g.one := zbL fun j => by
        rw [BitVec.getLsbD_and, zbe]
        cases hj : g.one.getLsbD j with
        | false => rfl
        | true => have := ((g1.one j).1 hj).1; simp [this]; omega
      simp only [zaT, qd1, qd0, qg0, zaX, zba, gone, zb3, zak, sp_f, sp_0] at hr
      refine .inl ⟨g, ⟨g1.w, by rw [g1.least]; exact hlo, by rw [g1.top]; exact hhi, fun t ht => ?_, g1.one, g1.zero⟩, ?_⟩
      · have := (hall t).1 ht
        rw [g1.least, g1.top]; exact this.2
      · exact hr
end Go.AM.N14
namespace Go.AM.N14
open Go Go.AM
def maj (a b c : Bool) : Bool := (a && b) || (a && c) || (b && c)
def ripC (a b : Fct) (c : Bool) : Nat → Bool × Bool
  | 0 => (c, !c)
  | i + 1 => (maj (a.one.getLsbD i) (b.one.getLsbD i) (ripC a b c i).1, maj (a.zero.getLsbD i) (b.zero.getLsbD i) (ripC a b c i).2)
def ripK (a b : Fct) (c : Bool) (i : Nat) : Bool := (a.one.getLsbD i || a.zero.getLsbD i) && (b.one.getLsbD i || b.zero.getLsbD i) && ((ripC a b c i).1 || (ripC a b c i).2)
def ripB (a b : Fct) (c : Bool) (i : Nat) : Bool := !((!(a.one.getLsbD i == b.one.getLsbD i)) == (ripC a b c i).1)
def ripO (a b : Fct) (c : Bool) : Nat → W64 × W64
  | 0 => (0#64, 0#64)
  | i + 1 => if ripK a b c i = true then (if ripB a b c i = true then ((ripO a b c i).1 ||| 1#64 <<< i, (ripO a b c i).2) else ((ripO a b c i).1, (ripO a b c i).2 ||| 1#64 <<< i)) else ripO a b c i
theorem b3 (a b c : Bool) {α : Type} (k : Value → Option α) : zar PP T.a3_bool [(0, .bool a), (1, .bool b), (2, .bool c)] k = k (.agg #[.bool a, .bool b, .bool c]) := bld (by kernel_rfl) k
theorem at0 {α : Type} (a b c : Value) (k : Value → Option α) : zcg 3 false 1 (.agg #[a, b, c]) (.int .i64 0) k = k a := rfl
theorem at1 {α : Type} (a b c : Value) (k : Value → Option α) : zcg 3 false 1 (.agg #[a, b, c]) (.int .i64 1) k = k b := rfl
theorem at2 {α : Type} (a b c : Value) (k : Value → Option α) : zcg 3 false 1 (.agg #[a, b, c]) (.int .i64 2) k = k c := rfl
def b2i (b : Bool) : Int := if b = true then 1 else 0
theorem cnt1 (a b c : Bool) (H : Hp) : zaA (za9 RR (.agg #[.bool a, .bool b, .bool c])) [.int .i64 0, .int .i64 0] H = some (.exit 2, [.int .i64 (b2i a + b2i b + b2i c), .int .i64 3], H) := by
  have st : ∀ (t : Bool) (n i : Int), 0 ≤ n ∧ n < 10 → 0 ≤ i ∧ i < 3 → (∀ (f : Value → Option Outc), zcg 3 false 1 (.agg #[.bool a, .bool b, .bool c]) (.int .i64 i) f = f (.bool t)) → za9 RR (.agg #[.bool a, .bool b, .bool c]) [.int .i64 n, .int .i64 i] H = some (.next, [.int .i64 (n + b2i t), .int .i64 (i + 1)], H) := fun t n i hn hi ha => by
    unfold za9
    simp only [qg0, qg1]
    rw [lT hi.2, ha, zag]
    cases t with
    | true => rw [zap, za6, za6, zax (by omega) (by omega), zax (by omega) (by omega)]; rfl
    | false => rw [zan, za6, zax (by omega) (by omega)]; unfold b2i; simp
  have en : ∀ (n : Int), za9 RR (.agg #[.bool a, .bool b, .bool c]) [.int .i64 n, .int .i64 3] H = some (.exit 2, [.int .i64 n, .int .i64 3], H) := fun n => by
    unfold za9
    simp only [qg0, qg1]
    rw [lF (by decide)]
  have bd : ∀ t : Bool, 0 ≤ b2i t ∧ b2i t ≤ 1 := fun t => by cases t <;> decide
  have ba := bd a
  have bb := bd b
  have hbc := bd c
  rw [zaq, st a 0 0 (by omega) (by omega) (fun f => at0 _ _ _ f)]
  show zaA (za9 RR _) _ H = _
  rw [zaq, st b (0 + b2i a) (0 + 1) (by omega) (by omega) (fun f => at1 _ _ _ f)]
  show zaA (za9 RR _) _ H = _
  rw [zaq, st c (0 + b2i a + b2i b) (0 + 1 + 1) (by omega) (by omega) (fun f => at2 _ _ _ f)]
  show zaA (za9 RR _) _ H = _
  rw [zaq, show (0 + 1 + 1 + 1 : Int) = 3 from rfl, en, Int.zero_add]
  rfl
theorem cnt2 (a b c : Bool) (H : Hp) : zaA (za8 RR (.agg #[.bool a, .bool b, .bool c])) [.int .i64 0, .int .i64 0] H = some (.exit 4, [.int .i64 (b2i a + b2i b + b2i c), .int .i64 3], H) := by
  have st : ∀ (t : Bool) (n i : Int), 0 ≤ n ∧ n < 10 → 0 ≤ i ∧ i < 3 → (∀ (f : Value → Option Outc), zcg 3 false 1 (.agg #[.bool a, .bool b, .bool c]) (.int .i64 i) f = f (.bool t)) → za8 RR (.agg #[.bool a, .bool b, .bool c]) [.int .i64 n, .int .i64 i] H = some (.next, [.int .i64 (n + b2i t), .int .i64 (i + 1)], H) := fun t n i hn hi ha => by
    unfold za8
    simp only [qg0, qg1]
    rw [lT hi.2, ha, zag]
    cases t with
    | true => rw [zap, za6, za6, zax (by omega) (by omega), zax (by omega) (by omega)]; rfl
    | false => rw [zan, za6, zax (by omega) (by omega)]; unfold b2i; simp
  have en : ∀ (n : Int), za8 RR (.agg #[.bool a, .bool b, .bool c]) [.int .i64 n, .int .i64 3] H = some (.exit 4, [.int .i64 n, .int .i64 3], H) := fun n => by
    unfold za8
    simp only [qg0, qg1]
    rw [lF (by decide)]
  have bd : ∀ t : Bool, 0 ≤ b2i t ∧ b2i t ≤ 1 := fun t => by cases t <;> decide
  have ba := bd a
  have bb := bd b
  have hbc := bd c
  rw [zaq, st a 0 0 (by omega) (by omega) (fun f => at0 _ _ _ f)]
  show zaA (za8 RR _) _ H = _
  rw [zaq, st b (0 + b2i a) (0 + 1) (by omega) (by omega) (fun f => at1 _ _ _ f)]
  show zaA (za8 RR _) _ H = _
  rw [zaq, st c (0 + b2i a + b2i b) (0 + 1 + 1) (by omega) (by omega) (fun f => at2 _ _ _ f)]
  show zaA (za8 RR _) _ H = _
  rw [zaq, show (0 + 1 + 1 + 1 : Int) = 3 from rfl, en, Int.zero_add]
  rfl
theorem maj_cnt (a b c : Bool) : decide (b2i a + b2i b + b2i c ≥ 2) = maj a b c := by cases a <;> cases b <;> cases c <;> decide
theorem zj3 {o : W64} {i : Nat} (hi : i < 64) {α : Type} (k : Value → Option α) : (pBin PP .and T.uint64 (wv o) (wv (1#64 <<< i)) fun v => pBin PP .neq T.uint64 v (.int .u64 0) k) = k (.bool (o.getLsbD i)) := by
  rw [zba]
  have : pBin PP .neq T.uint64 (wv (o &&& 1#64 <<< i)) (.int .u64 0) k = k (.bool (!decide (o &&& 1#64 <<< i = 0#64))) := b_neq _ _ 0#64 k
  rw [this]
  congr 2
  cases h : o.getLsbD i with
  | true => rw [decide_eq_false (fun q => by rw [(zia hi).1 q] at h; cases h)]; rfl
  | false => rw [decide_eq_true ((zia hi).2 h)]; rfl
theorem zpB (a b : Fct) (c : Bool) {w i : Nat} (hw : w ≤ 64) (hi : i < w) (H : Hp) :
    zbo RR a.val b.val (.int .i64 (w : Int)) [wv (ripO a b c i).1, wv (ripO a b c i).2, .bool (ripC a b c i).1, .bool (ripC a b c i).2, .int .i64 (i : Int)] H =
      some (.next, [wv (ripO a b c (i + 1)).1, wv (ripO a b c (i + 1)).2, .bool (ripC a b c (i + 1)).1, .bool (ripC a b c (i + 1)).2, .int .i64 ((i + 1 : Nat) : Int)], H) := by
  have w1 : IntKind.i64.wrap ((i : Int) + 1) = ((i + 1 : Nat) : Int) := zax (by omega) (by omega)
  have q : (i : Int) < (w : Int) := by omega
  have h64 : i < 64 := by omega
  have e1 : ripC a b c (i + 1) = (maj (a.one.getLsbD i) (b.one.getLsbD i) (ripC a b c i).1, maj (a.zero.getLsbD i) (b.zero.getLsbD i) (ripC a b c i).2) := rfl
  have e2 : ripO a b c (i + 1) = if ripK a b c i = true then (if ripB a b c i = true then ((ripO a b c i).1 ||| 1#64 <<< i, (ripO a b c i).2) else ((ripO a b c i).1, (ripO a b c i).2 ||| 1#64 <<< i)) else ripO a b c i := rfl
  rw [e1, e2]
  unfold ripK ripB
  have u1 : Value.int .u64 1 = wv 1#64 := rfl
  unfold zbo
  simp only [qg0, qg1]
  rw [lT q, cu64 _ (by omega), u1, zb2, zaX, zj3 h64, zaD, zj3 h64, zaX, zj3 h64, zaD, zj3 h64]
  generalize a.one.getLsbD i = x1
  generalize a.zero.getLsbD i = x0
  generalize b.one.getLsbD i = y1
  generalize b.zero.getLsbD i = y0
  generalize (ripC a b c i).1 = c1
  generalize (ripC a b c i).2 = c0
  generalize ripO a b c i = p
  obtain ⟨po, pz⟩ := p
  dsimp only
  have hn : ∀ (x y : Bool) (f : Value → Option Outc), pBin PP .neq T.bool (.bool x) (.bool y) f = f (.bool (!(x == y))) := fun x y f => s_bneq T.bool x y und4 f
  cases x1 <;> cases x0 <;> cases y1 <;> cases y0 <;> cases c1 <;> cases c0 <;>
    simp only [zag, zap, zan, zao, zai, zbq, zaT, qg0, qg1, hn, b_or, b3, cnt1, cnt2, zbg, maj_cnt, za6, w1, maj] <;> rfl
end Go.AM.N14
namespace Go.AM
open Go
theorem zjy (n m : Nd) : zjz n m = true ↔ n = m := by
  cases n; cases m
  unfold zjz
  simp [ba_eq]
theorem zif (n : Nd) : ∀ (L : List Nd) (i q : Nat), zbA n i L = some q → i ≤ q ∧ L[q - i]? = some n
  | [], i, q, h => by cases h
  | m :: r, i, q, h => by
    unfold zbA at h
    split at h
    · rename_i e
      cases h
      have := (zjy n m).1 e
      subst this
      exact ⟨Nat.le_refl _, by simp⟩
    · obtain ⟨h1, h2⟩ := zif n r (i + 1) q h
      refine ⟨by omega, ?_⟩
      rw [show q - i = (q - (i + 1)) + 1 by omega]
      simpa using h2
theorem zbU (op : Int) : zam op = 0 ∨ zam op = 1 ∨ zam op = 2 ∨ zam op = 3 := by
  unfold zam
  split
  · exact .inl rfl
  · split
    · exact .inr (.inl rfl)
    · split
      · exact .inr (.inr (.inr rfl))
      · exact .inr (.inr (.inl rfl))
structure Right (L : List Nd) (K : List (ByteArray × Int)) (n : Nd) : Prop where
  op : ¬ (n.op < 1 ∨ n.op > 33)
  w : ¬ (n.w < 0 ∨ n.w > 64)
  pt : ¬ zb5 L n = true
  sp : ¬ zgZ (zam n.op) n = true
  so : ¬ zbH n.op (wT L (-1) n.a) (wT L (-1) n.b) (wT L (-1) n.c) = false
  wi : ¬ zbJ n (wT L (-1) n.a) (wT L (-1) n.b) = false
  nm : ¬ (n.op = 4 ∧ zdT K n = true)
theorem zja {L : List Nd} {K : List (ByteArray × Int)} {n : Nd} : zdt L K n = 0 ↔ Right L K n := by
  constructor
  · intro h
    unfold zdt at h
    split at h
    · cases h
    · split at h
      · cases h
      · split at h
        · cases h
        · split at h
          · cases h
          · split at h
            · cases h
            · split at h
              · cases h
              · split at h
                · cases h
                · constructor <;> assumption
  · rintro ⟨h1, h2, h3, h4, h5, h6, h7⟩
    unfold zdt
    rw [if_neg h1, if_neg h2, if_neg h3, if_neg h4, if_neg h5, if_neg h6, if_neg h7]
theorem mk_no {lim : Int} {L : List Nd} {K : List (ByteArray × Int)} {n : Nd} (h : (mkR lim L K n).2.1 ≠ 0) : mkR lim L K n = (0, (mkR lim L K n).2.1, L, K) := by
  unfold mkR at h ⊢
  by_cases he : zdt L K n ≠ 0
  · rw [if_pos he]
  · rw [if_neg he] at h ⊢
    cases hq : zbA n 0 L with
    | some q => rw [hq] at h; exact absurd rfl h
    | none =>
      rw [hq] at h
      dsimp only at h ⊢
      split at h
      · rename_i g; rw [if_pos g]
      · exact absurd rfl h
theorem mk_yes {lim : Int} {L : List Nd} {K : List (ByteArray × Int)} {n : Nd} (h : (mkR lim L K n).2.1 = 0) : Right L K n ∧
    ((∃ q, zbA n 0 L = some q ∧ mkR lim L K n = (((q + 1 : Nat) : Int), 0, L, K)) ∨
     (zbA n 0 L = none ∧ ¬ (lim > 0 ∧ (L.length : Int) ≥ lim) ∧ mkR lim L K n = (((L.length + 1 : Nat) : Int), 0, L ++ [n], if n.op = 4 then zeR n.name n.w K else K))) := by
  unfold mkR at h ⊢
  by_cases he : zdt L K n ≠ 0
  · rw [if_pos he] at h; exact absurd h he
  · rw [if_neg he] at h ⊢
    refine ⟨zja.1 (by omega), ?_⟩
    cases hq : zbA n 0 L with
    | some q => exact .inl ⟨q, rfl, rfl⟩
    | none =>
      rw [hq] at h
      dsimp only at h ⊢
      split at h
      · cases h
      · rename_i g; rw [if_neg g]; exact .inr ⟨rfl, g, rfl⟩
end Go.AM
namespace Go.AM
open Go
section
variable {lim : Int} {L : List Nd} {K : List (ByteArray × Int)}
end
end Go.AM
namespace Go.AM
open Go
def zck (n : Nd) : List Nat := ([n.a, n.b, n.c].take (zam n.op).toNat).map Int.toNat
def kids (L : List Nd) (t : Nat) : List Nat := match L[t - 1]? with
  | some n => zck n
  | none => []
structure Dag (L : List Nd) : Prop where
  a : ∀ (i : Nat) m, L[i]? = some m → (zam m.op ≥ 1 ∧ 1 ≤ m.a ∧ m.a ≤ i) ∨ (zam m.op < 1 ∧ m.a = 0)
  b : ∀ (i : Nat) m, L[i]? = some m → (zam m.op ≥ 2 ∧ 1 ≤ m.b ∧ m.b ≤ i) ∨ (zam m.op < 2 ∧ m.b = 0)
  c : ∀ (i : Nat) m, L[i]? = some m → (zam m.op ≥ 3 ∧ 1 ≤ m.c ∧ m.c ≤ i) ∨ (zam m.op < 3 ∧ m.c = 0)
theorem Dag.nil : Dag [] := ⟨fun i m h => (by cases h), fun i m h => (by cases h), fun i m h => (by cases h)⟩
theorem zoj {L : List Nd} {n m : Nd} {i : Nat} (h : (L ++ [n])[i]? = some m) : L[i]? = some m ∨ (i = L.length ∧ m = n) := by
  rw [List.getElem?_append] at h
  split at h
  · exact .inl h
  · have : i = L.length := by
      have := (List.getElem?_eq_some_iff.1 h).1
      simp at this; omega
    subst this
    simp at h
    exact .inr ⟨rfl, h.symm⟩
theorem mk_dag {lim : Int} {L : List Nd} {K : List (ByteArray × Int)} {n : Nd} (h : Dag L) : Dag (mkR lim L K n).2.2.1 := by
  by_cases h0 : (mkR lim L K n).2.1 = 0
  · obtain ⟨hr, ⟨q, hq, e⟩ | ⟨hq, hl, e⟩⟩ := mk_yes h0
    · rw [e]; exact h
    · rw [e]
      have h1 := hr.pt
      have h2 := hr.sp
      unfold zb5 at h1
      unfold zgZ at h2
      simp only [Bool.or_eq_true, Bool.and_eq_true, decide_eq_true_eq, Bool.not_eq_true', not_or, not_and, Bool.not_eq_false] at h1 h2
      refine ⟨fun i m hm => ?_, fun i m hm => ?_, fun i m hm => ?_⟩
      · rcases zoj hm with hm | ⟨rfl, rfl⟩
        · exact h.a i m hm
        · rcases Int.lt_or_le (zam m.op) 1 with q | q
          · have := h2.1.1.1.1 q; omega
          · have := zeU.1 (h1.1.1 q); omega
      · rcases zoj hm with hm | ⟨rfl, rfl⟩
        · exact h.b i m hm
        · rcases Int.lt_or_le (zam m.op) 2 with q | q
          · have := h2.1.1.1.2 q; omega
          · have := zeU.1 (h1.1.2 q); omega
      · rcases zoj hm with hm | ⟨rfl, rfl⟩
        · exact h.c i m hm
        · rcases Int.lt_or_le (zam m.op) 3 with q | q
          · have := h2.1.1.2 q; omega
          · have := zeU.1 (h1.2 q); omega
  · rw [mk_no h0]; exact h
theorem zmV {L : List Nd} (h : Dag L) {i : Nat} {n : Nd} (hn : L[i]? = some n) : (zck n).length = (zam n.op).toNat ∧
    (∀ (j : Nat) x, [n.a, n.b, n.c][j]? = some x → j < (zck n).length → (zck n)[j]? = some x.toNat ∧ 1 ≤ x ∧ x ≤ i) ∧ (∀ c ∈ zck n, 1 ≤ c ∧ c ≤ i) := by
  have ha := h.a i n hn
  have hb := h.b i n hn
  have hc := h.c i n hn
  have key : (zck n).length = (zam n.op).toNat ∧ (∀ (j : Nat) x, [n.a, n.b, n.c][j]? = some x → j < (zck n).length → (zck n)[j]? = some x.toNat ∧ 1 ≤ x ∧ x ≤ i) := by
    rcases zbU n.op with q | q | q | q
    · refine ⟨by simp [zck, q], fun j x hx hj => ?_⟩
      simp [zck, q] at hj
    · refine ⟨by simp [zck, q], fun j x hx hj => ?_⟩
      simp [zck, q] at hj
      subst hj
      simp at hx
      subst hx
      exact ⟨by simp [zck, q], by omega, by omega⟩
    · refine ⟨by simp [zck, q], fun j x hx hj => ?_⟩
      simp [zck, q] at hj
      match j, hj with
      | 0, _ => simp at hx; subst hx; exact ⟨by simp [zck, q], by omega, by omega⟩
      | 1, _ => simp at hx; subst hx; exact ⟨by simp [zck, q], by omega, by omega⟩
    · refine ⟨by simp [zck, q], fun j x hx hj => ?_⟩
      simp [zck, q] at hj
      match j, hj with
      | 0, _ => simp at hx; subst hx; exact ⟨by simp [zck, q], by omega, by omega⟩
      | 1, _ => simp at hx; subst hx; exact ⟨by simp [zck, q], by omega, by omega⟩
      | 2, _ => simp at hx; subst hx; exact ⟨by simp [zck, q], by omega, by omega⟩
  refine ⟨key.1, key.2, fun c hcm => ?_⟩
  obtain ⟨j, hj⟩ := List.getElem?_of_mem hcm
  have hlt := (List.getElem?_eq_some_iff.1 hj).1
  have hle : j < 3 := by
    have h1 := key.1
    rcases zbU n.op with q | q | q | q <;> rw [q] at h1 <;> simp at h1 <;> omega
  obtain ⟨x, hx⟩ : ∃ x, [n.a, n.b, n.c][j]? = some x := ⟨_, List.getElem?_eq_getElem (by simpa using hle)⟩
  obtain ⟨h1, h2, h3⟩ := key.2 j x hx hlt
  rw [hj] at h1
  cases h1
  omega
theorem zgL {L : List Nd} (h : Dag L) {t c : Nat} (ht : 1 ≤ t) (hc : c ∈ kids L t) : 1 ≤ c ∧ c < t := by
  unfold kids at hc
  cases hq : L[t - 1]? with
  | none => rw [hq] at hc; cases hc
  | some n =>
    rw [hq] at hc
    have := (zmV h hq).2.2 c hc
    omega
def visit (L : List Nd) : Nat → Nat → List Nat → List Nat
  | 0, _, out => out
  | k + 1, t, out => if t ∈ out then out else (kids L t).foldl (fun o c => visit L k c o) out ++ [t]
theorem zgM {α β : Type} {f g : α → β → α} : ∀ (l : List β) (a : α), (∀ b ∈ l, ∀ a, f a b = g a b) → l.foldl f a = l.foldl g a
  | [], a, h => rfl
  | b :: l, a, h => by
    rw [List.foldl_cons, List.foldl_cons, h b (List.mem_cons_self ..)]
    exact zgM l _ fun b hb => h b (List.mem_cons_of_mem _ hb)
theorem zpm {L : List Nd} (h : Dag L) : ∀ (t : Nat), 1 ≤ t → ∀ (k m : Nat) (out : List Nat), t ≤ k → t ≤ m → visit L k t out = visit L m t out := by
  intro t
  induction t using Nat.strongRecOn with
  | _ t ih =>
    intro ht k m out hk hm
    cases k with
    | zero => omega
    | succ k =>
      cases m with
      | zero => omega
      | succ m =>
        unfold visit
        split
        · rfl
        · congr 1
          exact zgM _ _ fun c hc o => by
            have := zgL h ht hc
            exact ih c this.2 this.1 k m o (by omega) (by omega)
def post (L : List Nd) (t : Nat) (out : List Nat) : List Nat := visit L t t out
def posts (L : List Nd) (l : List Nat) (out : List Nat) : List Nat := l.foldl (fun o c => post L c o) out
theorem zjh {L : List Nd} (h : Dag L) {t : Nat} (ht : 1 ≤ t) (out : List Nat) : post L t out = if t ∈ out then out else posts L (kids L t) out ++ [t] := by
  unfold post posts
  cases t with
  | zero => omega
  | succ t =>
    show (if t + 1 ∈ out then out else _) = _
    split
    · rfl
    · congr 1
      exact zgM _ _ fun c hc o => by
        have := zgL h (t := t + 1) ht hc
        exact zpm h c this.1 _ _ o (by omega) (Nat.le_refl _)
theorem post_in {L : List Nd} (h : Dag L) {t : Nat} (ht : 1 ≤ t) {out : List Nat} (hm : t ∈ out) : post L t out = out := by rw [zjh h ht, if_pos hm]
theorem zoH {L : List Nd} (h : Dag L) {t : Nat} (ht : 1 ≤ t) {out : List Nat} (hm : t ∉ out) : post L t out = posts L (kids L t) out ++ [t] := by rw [zjh h ht, if_neg hm]
theorem zoI {L : List Nd} (h : Dag L) : ∀ (t : Nat), 1 ≤ t → ∀ (out : List Nat), (∀ x ∈ out, x ∈ post L t out) ∧ t ∈ post L t out ∧ (∀ x ∈ post L t out, x ∈ out ∨ (1 ≤ x ∧ x ≤ t)) := by
  intro t
  induction t using Nat.strongRecOn with
  | _ t ih =>
    intro ht out
    rw [zjh h ht]
    split
    · rename_i hm
      exact ⟨fun x hx => hx, hm, fun x hx => .inl hx⟩
    · have key : ∀ (l : List Nat) (o : List Nat), (∀ c ∈ l, c ∈ kids L t) → (∀ x ∈ o, x ∈ posts L l o) ∧ (∀ x ∈ posts L l o, x ∈ o ∨ (1 ≤ x ∧ x < t)) := by
        intro l
        induction l with
        | nil => exact fun o _ => ⟨fun x hx => hx, fun x hx => .inl hx⟩
        | cons c l ihl =>
          intro o hl
          have hc := zgL h ht (hl c (List.mem_cons_self ..))
          obtain ⟨g1, g2, g3⟩ := ih c hc.2 hc.1 o
          obtain ⟨k1, k2⟩ := ihl (post L c o) fun c hc => hl c (List.mem_cons_of_mem _ hc)
          refine ⟨fun x hx => k1 x (g1 x hx), fun x hx => ?_⟩
          rcases k2 x hx with q | q
          · rcases g3 x q with q | q
            · exact .inl q
            · exact .inr ⟨q.1, by omega⟩
          · exact .inr q
      obtain ⟨k1, k2⟩ := key (kids L t) out fun c hc => hc
      refine ⟨fun x hx => List.mem_append_left _ (k1 x hx), by simp, fun x hx => ?_⟩
      rcases List.mem_append.1 hx with q | q
      · rcases k2 x q with q | q
        · exact .inl q
        · exact .inr ⟨q.1, by omega⟩
      · rw [List.mem_singleton] at q; subst q; exact .inr ⟨ht, Nat.le_refl _⟩
theorem zkE (L : List Nd) (c : Nat) (l : List Nat) (out : List Nat) : posts L (c :: l) out = posts L l (post L c out) := rfl
theorem zfq {L : List Nd} (h : Dag L) {N : Nat} : ∀ (l : List Nat) (o : List Nat), (∀ c ∈ l, 1 ≤ c ∧ c ≤ N) → (∀ x ∈ o, x ∈ posts L l o) ∧ (∀ x ∈ l, x ∈ posts L l o) ∧ (∀ x ∈ posts L l o, x ∈ o ∨ (1 ≤ x ∧ x ≤ N))
  | [], o, hl => ⟨fun x hx => hx, fun x hx => (by cases hx), fun x hx => .inl hx⟩
  | c :: l, o, hl => by
    have hc := hl c (List.mem_cons_self ..)
    obtain ⟨g1, g2, g3⟩ := zoI h c hc.1 o
    obtain ⟨k1, k2, k3⟩ := zfq h l (post L c o) fun c hc => hl c (List.mem_cons_of_mem _ hc)
    refine ⟨fun x hx => k1 x (g1 x hx), fun x hx => ?_, fun x hx => ?_⟩
    · rcases List.mem_cons.1 hx with rfl | hx
      · exact k1 _ g2
      · exact k2 x hx
    · rcases k3 x hx with q | q
      · rcases g3 x q with q | q
        · exact .inl q
        · exact .inr ⟨q.1, by omega⟩
      · exact .inr q
end Go.AM
namespace Go.AM
open Go Go.ChangeShapes Go.WideShapes Go.ChangeAt Go.RowKit
end Go.AM
namespace Go.AM
open Go
def noNd : Nd := ⟨0, 0, 0, 0, 0, 0, ⟨#[]⟩⟩
def zoS (L : List Nd) (t : Int) : Nd := if isT L t = true then (L[(t - 1).toNat]?).getD noNd else noNd
theorem bnil {α : Type} (k : Value → Option α) : zar PP T.api_Node [] k = k noNd.val := bld (by kernel_rfl) k
theorem ncell7 {α : Type} (n : Nd) (k : Value → Option α) : zab 7 true n.cells 0 k = k n.val := rfl
theorem nodes_at (L : List Nd) : ∀ i n, L[i]? = some n → ((L.flatMap Nd.cells).drop (i * 7)).take 7 = n.cells := by
  induction L with
  | nil => intro i o h; cases h
  | cons a L ih =>
    intro i o h
    have h7 : ∀ n : Nd, n.cells.length = 7 := fun n => rfl
    rw [List.flatMap_cons]
    cases i with
    | zero => cases h; rw [Nat.zero_mul, qd0, List.take_append_of_le_length (by rw [h7]; omega), List.take_of_length_le (by rw [h7]; omega)]
    | succ i =>
      rw [List.drop_append, List.drop_of_length_le (by rw [h7]; omega), h7, List.nil_append, show (i + 1) * 7 - 7 = i * 7 by omega]
      exact ih i o h
theorem ld7 {α : Type} {H : Hp} {L : List Nd} {y : Nat} {b : Bool} (h : H.get y = some (.cells (L.flatMap Nd.cells) b)) {i : Nat} {n : Nd} (ho : L[i]? = some n) (k : Value → Option α) :
    zaB 7 true H (.pointer (some ⟨y, i * 7, none⟩)) k = k n.val := by
  have hlt : i < L.length := (List.getElem?_eq_some_iff.1 ho).1
  have h1 : i * 7 + 7 ≤ (L.flatMap Nd.cells).length := by rw [zlS]; omega
  simp only [zaB, Hp.rdP, Hp.rd, h, zcz, h1, if_true, nodes_at L i n ho]
  rfl
theorem SlR.ix {H : Hp} {L : List Nd} {sl : Value} (h : SlR H sl L) {i : Nat} (hi : i < L.length) {α : Type} :
    ∃ y, H.get y = some (.cells (L.flatMap Nd.cells) true) ∧ ∀ (k : Value → Option α), pIdx 7 sl (.int .i64 (i : Int)) k = k (.pointer (some ⟨y, i * 7, none⟩)) := by
  rcases h with ⟨rfl, _⟩ | ⟨y, rfl, hy⟩
  · cases hi
  · refine ⟨y, hy, fun k => ?_⟩
    unfold pIdx idxV
    have : (7 : Nat) = 7 ∧ (0 : Int) ≤ (i : Int) ∧ (i : Int) < (L.length : Int) := ⟨rfl, by omega, by omega⟩
    simp only [this, and_self, if_true, Nat.zero_add, Int.toNat_natCast]
end Go.AM
namespace Go.AM
open Go
structure One (H : Hp) (lim : Int) (L : List Nd) (K : List (ByteArray × Int)) (p f g : Nat) (sl : Value) (H' : Hp) (L' : List Nd) (K' : List (ByteArray × Int)) (sl' : Value) : Prop where
  st : StF H' p lim L' K' sl' f g
  next : H.next ≤ H'.next
  same : ∀ j, j < H.next → ¬ Foot p f g sl j → H'.get j = H.get j
  foot : ∀ j, Foot p f g sl' j → Foot p f g sl j ∨ H.next ≤ j
theorem One.refl {H : Hp} {lim : Int} {L : List Nd} {K : List (ByteArray × Int)} {p f g : Nat} {sl : Value} (h : StF H p lim L K sl f g) : One H lim L K p f g sl H L K sl := ⟨h, Nat.le_refl _, fun _ _ _ => rfl, fun _ a => .inl a⟩
theorem One.trans {H : Hp} {lim : Int} {L : List Nd} {K : List (ByteArray × Int)} {p f g : Nat} {sl : Value} {H1 : Hp} {L1 : List Nd} {K1 : List (ByteArray × Int)} {s1 : Value} {H2 : Hp} {L2 : List Nd} {K2 : List (ByteArray × Int)} {s2 : Value}
    (h : One H lim L K p f g sl H1 L1 K1 s1) (k : One H1 lim L1 K1 p f g s1 H2 L2 K2 s2) : One H lim L K p f g sl H2 L2 K2 s2 := by
  refine ⟨k.st, Nat.le_trans h.next k.next, fun j hj a => ?_, fun j a => ?_⟩
  · rw [k.same j (Nat.lt_of_lt_of_le hj h.next) (fun b => by rcases h.foot j b with c | c; exact a c; omega), h.same j hj a]
  · rcases k.foot j a with b | b
    · exact h.foot j b
    · exact .inr (Nat.le_trans h.next b)
theorem Does.one {H : Hp} {lim : Int} {L : List Nd} {K : List (ByteArray × Int)} {p f g : Nat} {sl : Value} {fn : FuncId} {xs : List Value} {r : Res} (h : Does H p lim sl f g fn xs r) :
    ∃ H' sl', RR fn (.pointer (some ⟨p, 0, none⟩) :: xs) H = some (.tuple #[.int .i64 r.1, .int .i64 r.2.1], H') ∧ One H lim L K p f g sl H' r.2.2.1 r.2.2.2 sl' := by
  obtain ⟨H', sl', h1, h2⟩ := h
  exact ⟨H', sl', h1, h2.st, h2.next, fun j a b => h2.same a b, fun j a => h2.foot a⟩
theorem ziT {a b c i : Nat} (z : Foot a b c (.slice none 0 0) i) : i = a ∨ i = b ∨ i = c := by
  rcases z with z | z | z | z
  · exact .inl z
  · exact .inr (.inl z)
  · exact .inr (.inr z)
  · cases z
theorem s_beql {α : Type} {P : Program} (T : TypeId) (a b : Bool) (hT : P.underlying T = some .bool) (k : Value → Option α) : pBin P .eql T (.bool a) (.bool b) k = k (.bool (a == b)) := by
  have : eqT P Op.maxDepth T (.bool a) (.bool b) = some (a == b) := by
    unfold Op.maxDepth
    simp only [eqT, hT]
  simp only [pBin, binV, eqOp, this]
theorem zoU {α : Type} (n : Nd) (k : Value → Option α) : zab 1 false n.cells 2 k = k (.int .i64 n.a) := ze1 _ 2 _ rfl k
theorem zoT {α : Type} (n : Nd) (k : Value → Option α) : zab 1 false n.cells 3 k = k (.int .i64 n.b) := ze1 _ 3 _ rfl k
theorem ncell4 {α : Type} (n : Nd) (k : Value → Option α) : zab 1 false n.cells 4 k = k (.int .i64 n.c) := ze1 _ 4 _ rfl k
end Go.AM
namespace Go.AM
open Go
def ints (l : List Nat) : List Value := l.map fun (t : Nat) => Value.int .i64 (t : Int)
def zl0 (l : List Bool) : List Value := l.map .bool
def plc (x : Nat × Nat) : List Value := [.int .i64 (x.1 : Int), .int .i64 (x.2 : Int)]
def zcb (l : List (Nat × Nat)) : List Value := l.flatMap plc
theorem ints_app (l m : List Nat) : ints (l ++ m) = ints l ++ ints m := by simp [ints]
theorem zez : ∀ l : List (Nat × Nat), (zcb l).length = l.length * 2
  | [] => rfl
  | x :: l => by
    show (plc x ++ zcb l).length = _
    rw [List.length_append, zez l, List.length_cons]
    show 2 + _ = _; omega
theorem zeA (l m : List (Nat × Nat)) : zcb (l ++ m) = zcb l ++ zcb m := by simp [zcb]
theorem zkF : ∀ l : List (Nat × Nat), (zcb l).all one = true
  | [] => rfl
  | x :: l => by
    show (plc x ++ zcb l).all one = true
    rw [List.all_append, zkF l]; rfl
theorem znH (l : List (Nat × Nat)) (x : Nat × Nat) : (zcb (l ++ [x]))[l.length * 2]? = some (.int .i64 (x.1 : Int)) ∧ (zcb (l ++ [x]))[l.length * 2 + 1]? = some (.int .i64 (x.2 : Int)) := by
  rw [zeA]
  have h := zez l
  constructor
  · rw [List.getElem?_append_right (by omega), h, Nat.sub_self]; rfl
  · rw [List.getElem?_append_right (by omega), h, Nat.add_sub_cancel_left]; rfl
structure PS (H0 H : Hp) (lv : Value) (out : List Nat) (sv : Value) (stk : List (Nat × Nat)) (bv : Value) (seen : List Bool) : Prop where
  next : H0.next ≤ H.next
  old : ∀ j, j < H0.next → H.get j = H0.get j
  l : Vec H 1 lv out.length (ints out)
  s : Vec H 2 sv stk.length (zcb stk)
  b : Vec H 1 bv seen.length (zl0 seen)
  al : ∀ j, Id lv j → H0.next ≤ j
  as' : ∀ j, Id sv j → H0.next ≤ j
  ab : ∀ j, Id bv j → H0.next ≤ j
  ls : ∀ j, Id lv j → ¬ Id sv j
  lb : ∀ j, Id lv j → ¬ Id bv j
  sb : ∀ j, Id sv j → ¬ Id bv j
section
variable {H0 H : Hp} {lv sv bv : Value} {out : List Nat} {stk : List (Nat × Nat)} {seen : List Bool} (h : PS H0 H lv out sv stk bv seen)
include h
theorem PS.at0 {p f g : Nat} {lim : Int} {L : List Nd} {K : List (ByteArray × Int)} {sl : Value} (hst : StF H0 p lim L K sl f g) : StF H p lim L K sl f g :=
  hst.keep (fun i hi => h.old i (hst.foot_lt hi)) h.next
theorem PS.see {i : Nat} (hi : i < seen.length) : ∃ y, Id bv y ∧ (∀ (α : Type) (kd : IntKind) (k : Value → Option α), pIdx 1 bv (.int kd (i : Int)) k = k (.pointer (some ⟨y, i * 1, none⟩))) ∧
    ∃ H', (∀ (α : Type) (k : Hp → Option α), zcc 1 H (.pointer (some ⟨y, i * 1, none⟩)) (.bool true) k = k H') ∧ PS H0 H' lv out sv stk bv (seen.set i true) ∧ H'.next = H.next := by
  obtain ⟨y, hy, _, hix⟩ := h.b.ix hi
  have hl : (zl0 seen).length = seen.length := by simp [zl0]
  obtain ⟨H', h1, h2, h3, h4⟩ := h.b.set hy (m := 1) (o := i * 1) (x := .bool true) rfl (by rw [hl]; omega) rfl
  refine ⟨y, hy, hix, H', h1, ⟨?_, fun j hj => ?_, h.l.keep h3 h.lb, h.s.keep h3 h.sb, ?_, h.al, h.as', h.ab, h.ls, h.lb, h.sb⟩, h4⟩
  · rw [h4]; exact h.next
  · rw [h3.same j (Nat.lt_of_lt_of_le hj h.next) (fun q => by have := h.ab j q; omega), h.old j hj]
  · have e : spl (zl0 seen) (i * 1) (zaa (.bool true)) = zl0 (seen.set i true) := by
      unfold spl zl0
      show (seen.map Value.bool).take (i * 1) ++ [Value.bool true] ++ (seen.map Value.bool).drop (i * 1 + 1) = _
      rw [Nat.mul_one, List.map_set, List.set_eq_take_append_cons_drop, if_pos (by simpa using hi)]
      simp
    rw [e] at h2
    rw [List.length_set]; exact h2
theorem PS.seen_at {i : Nat} {b : Bool} (hi : seen[i]? = some b) : ∃ y, Id bv y ∧ (∀ (α : Type) (kd : IntKind) (k : Value → Option α), pIdx 1 bv (.int kd (i : Int)) k = k (.pointer (some ⟨y, i * 1, none⟩))) ∧
    (∀ (α : Type) (k : Value → Option α), zaB 1 false H (.pointer (some ⟨y, i * 1, none⟩)) k = k (.bool b)) := by
  have hlt := (List.getElem?_eq_some_iff.1 hi).1
  obtain ⟨y, hy, ⟨rest, hg⟩, hix⟩ := h.b.ix hlt
  exact ⟨y, hy, hix, fun α k => zh2 hg (by rw [Nat.mul_one]; unfold zl0; rw [List.getElem?_map, hi]; rfl) k⟩
theorem PS.push (t : Nat) {zs : List Value} (hz : zs.length = 2) (hb : (stk.length + 1) * 16 ≤ 2 ^ 47) :
    ∃ sv' H', (∀ (α : Type) (k : Value → Hp → Option α), (zaR 2 zs 1 [(0, .agg #[.int .i64 (t : Int), .int .i64 0])] H fun x H1 => zby 2 16 sv x H1 k) = k sv' H') ∧ PS H0 H' lv out sv' (stk ++ [(t, 0)]) bv seen := by
  obtain ⟨sv', H', h1, h2, h3, h4, h5⟩ := h.s.push (bytes := 16) (zs := zs) (x := .agg #[.int .i64 (t : Int), .int .i64 0]) (by decide) (by decide) hz rfl rfl hb
  have hn := h.next
  refine ⟨sv', H', h1, ⟨Nat.le_trans h.next h3.next, fun j hj => ?_, h.l.keep h3 h.ls, ?_, h.b.keep h3 (fun j a b => h.sb j b a), h.al, fun j hj => ?_, h.ab, fun j a b => ?_, h.lb, fun j a b => ?_⟩⟩
  · rw [h3.same j (Nat.lt_of_lt_of_le hj h.next) (fun q => by have := h.as' j q; omega), h.old j hj]
  · have : zcb (stk ++ [(t, 0)]) = zcb stk ++ zaa (.agg #[.int .i64 (t : Int), .int .i64 0]) := by rw [zeA]; rfl
    rw [this, List.length_append]; exact h2
  · rcases h4 j hj with q | q
    · exact h.as' j q
    · omega
  · rcases h4 j b with q | q
    · exact h.ls j a q
    · have := h.l.lt a; omega
  · rcases h4 j a with q | q
    · exact h.sb j q b
    · have := h.b.lt b; omega
theorem PS.pop {below : List (Nat × Nat)} {x : Nat × Nat} (hs : stk = below ++ [x]) : ∃ sv', (∀ (α : Type) (kd : IntKind) (k : Value → Option α), zgg 2 sv none (some (.int kd (below.length : Int))) k = k sv') ∧ PS H0 H lv out sv' below bv seen := by
  subst hs
  obtain ⟨sv', h1, h2, h3⟩ := h.s.cut (zkF _) (m := below.length) (by simp)
  refine ⟨sv', h1, ⟨h.next, h.old, h.l, ?_, h.b, h.al, fun j a => h.as' j (h3 j a), h.ab, fun j a b => h.ls j a (h3 j b), h.lb, fun j a b => h.sb j (h3 j a) b⟩⟩
  rw [zeA, List.take_left' (zez below)] at h2
  exact h2
theorem PS.tell (t : Nat) (hb : (out.length + 1) * 8 ≤ 2 ^ 47) :
    ∃ lv' H', (∀ (α : Type) (k : Value → Hp → Option α), (zaR 1 [.int .i64 0] 1 [(0, .int .i64 (t : Int))] H fun x H1 => zby 1 8 lv x H1 k) = k lv' H') ∧ PS H0 H' lv' (out ++ [t]) sv stk bv seen := by
  obtain ⟨lv', H', h1, h2, h3, h4, h5⟩ := h.l.push (bytes := 8) (zs := [.int .i64 0]) (x := .int .i64 (t : Int)) (by decide) (by decide) rfl rfl rfl hb
  have hn := h.next
  refine ⟨lv', H', h1, ⟨Nat.le_trans h.next h3.next, fun j hj => ?_, ?_, h.s.keep h3 (fun j a b => h.ls j b a), h.b.keep h3 (fun j a b => h.lb j b a), fun j hj => ?_, h.as', h.ab, fun j a b => ?_, fun j a b => ?_, h.sb⟩⟩
  · rw [h3.same j (Nat.lt_of_lt_of_le hj h.next) (fun q => by have := h.al j q; omega), h.old j hj]
  · rw [ints_app, List.length_append]; exact h2
  · rcases h4 j hj with q | q
    · exact h.al j q
    · omega
  · rcases h4 j a with q | q
    · exact h.ls j q b
    · have := h.s.lt b; omega
  · rcases h4 j a with q | q
    · exact h.lb j q b
    · have := h.b.lt b; omega
theorem PS.step {below : List (Nat × Nat)} {t j : Nat} (hs : stk = below ++ [(t, j)]) : ∃ y, (∀ (α : Type) (kd : IntKind) (k : Value → Option α), pIdx 2 sv (.int kd (below.length : Int)) k = k (.pointer (some ⟨y, below.length * 2, none⟩))) ∧
    (∀ (α : Type) (k : Value → Option α), zaB 1 false H (.pointer (some ⟨y, below.length * 2, none⟩)) k = k (.int .i64 (t : Int))) ∧
    (∀ (α : Type) (k : Value → Option α), zaB 1 false H (.pointer (some ⟨y, below.length * 2 + 1, none⟩)) k = k (.int .i64 (j : Int))) ∧
    Hp.rdP H (.pointer (some ⟨y, below.length * 2 + 1, none⟩)) 1 false = some (.int .i64 (j : Int)) ∧
    ∃ H', (∀ (α : Type) (k : Hp → Option α), zcc 1 H (.pointer (some ⟨y, below.length * 2 + 1, none⟩)) (.int .i64 ((j + 1 : Nat) : Int)) k = k H') ∧ PS H0 H' lv out sv (below ++ [(t, j + 1)]) bv seen := by
  subst hs
  have hlt : below.length < (below ++ [(t, j)]).length := by simp
  obtain ⟨y, hy, ⟨rest, hg⟩, hix⟩ := h.s.ix hlt
  obtain ⟨p1, p2⟩ := znH below (t, j)
  have hl : (zcb (below ++ [(t, j)])).length = below.length * 2 + 2 := by rw [zez, List.length_append]; simp; omega
  obtain ⟨H', h1, h2, h3, h4⟩ := h.s.set hy (m := 1) (o := below.length * 2 + 1) (x := .int .i64 ((j + 1 : Nat) : Int)) rfl (by rw [hl]; omega) rfl
  refine ⟨y, hix, fun α k => zh2 hg p1 k, fun α k => zh2 hg p2 k, ?_, H', h1, ⟨by rw [h4]; exact h.next, fun i hi => ?_, h.l.keep h3 h.ls, ?_, h.b.keep h3 (fun i a b => h.sb i b a), h.al, h.as', h.ab, h.ls, h.lb, h.sb⟩⟩
  · have : (zcb (below ++ [(t, j)]) ++ rest)[below.length * 2 + 1]? = some (.int .i64 (j : Int)) := by rw [List.getElem?_append_left (by omega)]; exact p2
    simp only [Hp.rdP, Hp.rd, hg, zcz, this]
  · rw [h3.same i (Nat.lt_of_lt_of_le hi h.next) (fun q => by have := h.as' i q; omega), h.old i hi]
  · have e : spl (zcb (below ++ [(t, j)])) (below.length * 2 + 1) (zaa (.int .i64 ((j + 1 : Nat) : Int))) = zcb (below ++ [(t, j + 1)]) := by
      rw [zeA, zeA]
      unfold spl
      have hb := zez below
      show (zcb below ++ [Value.int .i64 (t : Int), Value.int .i64 (j : Int)]).take (below.length * 2 + 1) ++ [Value.int .i64 ((j + 1 : Nat) : Int)] ++ (zcb below ++ [Value.int .i64 (t : Int), Value.int .i64 (j : Int)]).drop (below.length * 2 + 1 + 1) = zcb below ++ [Value.int .i64 (t : Int), Value.int .i64 ((j + 1 : Nat) : Int)]
      rw [List.take_append, hb, List.drop_append, hb, List.take_of_length_le (by omega), List.drop_of_length_le (by omega), Nat.add_sub_cancel_left, show below.length * 2 + 1 + 1 - below.length * 2 = 2 by omega]
      simp
    rw [e] at h2
    rw [List.length_append] at h2 ⊢
    exact h2
end
end Go.AM
namespace Go.AM
open Go
theorem zjx : ∀ (n : Nat) (l : List Nat), l.Nodup → (∀ x ∈ l, 1 ≤ x ∧ x ≤ n) → l.length ≤ n
  | 0, l, _, h => by
    cases l with
    | nil => simp
    | cons a l => have := h a (List.mem_cons_self ..); omega
  | n + 1, l, hn, h => by
    by_cases hm : n + 1 ∈ l
    · have h1 := zjx n (l.erase (n + 1)) (hn.erase _) fun x hx => by
        have := (List.Nodup.mem_erase_iff hn).1 hx
        have := h x this.2
        omega
      rw [List.length_erase_of_mem hm] at h1
      omega
    · have := zjx n l hn fun x hx => by
        have := h x hx
        have : x ≠ n + 1 := fun e => hm (e ▸ hx)
        omega
      omega
theorem znG {L : List Nd} (h : Dag L) : ∀ (t : Nat), 1 ≤ t → ∀ (out : List Nat), out.Nodup → (post L t out).Nodup := by
  intro t
  induction t using Nat.strongRecOn with
  | _ t ih =>
    intro ht out hn
    rw [zjh h ht]
    split
    · exact hn
    · rename_i hm
      have key : ∀ (l : List Nat) (o : List Nat), (∀ c ∈ l, c ∈ kids L t) → o.Nodup → (posts L l o).Nodup := by
        intro l
        induction l with
        | nil => exact fun o _ h => h
        | cons c l ihl =>
          intro o hl ho
          have hc := zgL h ht (hl c (List.mem_cons_self ..))
          exact ihl _ (fun c hc => hl c (List.mem_cons_of_mem _ hc)) (ih c hc.2 hc.1 o ho)
      refine List.nodup_append.2 ⟨key _ _ (fun c hc => hc) hn, by simp, fun x hx y hy => ?_⟩
      rw [List.mem_singleton] at hy
      subst hy
      intro e
      subst e
      rcases (zfq h (N := x - 1) (kids L x) out fun c hc => by have := zgL h ht hc; omega).2.2 x hx with q | q
      · exact hm q
      · omega
theorem zoG {L : List Nd} (h : Dag L) : ∀ (l : List Nat) (o : List Nat), (∀ c ∈ l, 1 ≤ c) → o.Nodup → (posts L l o).Nodup
  | [], o, _, ho => ho
  | c :: l, o, hl, ho => zoG h l _ (fun c hc => hl c (List.mem_cons_of_mem _ hc)) (znG h c (hl c (List.mem_cons_self ..)) o ho)
structure Seen (N : Nat) (seen : List Bool) (out : List Nat) (stk : List (Nat × Nat)) : Prop where
  len : seen.length = N + 1
  at' : ∀ x, x ≤ N → seen[x]? = some (decide (x ∈ out ∨ x ∈ stk.map Prod.fst))
structure Told (N : Nat) (out : List Nat) : Prop where
  nd : out.Nodup
  bd : ∀ x ∈ out, 1 ≤ x ∧ x ≤ N
theorem Told.len {N : Nat} {out : List Nat} (h : Told N out) : out.length ≤ N := zjx N out h.nd h.bd
theorem Told.posts {L : List Nd} {N : Nat} {out l : List Nat} (h : Told N out) (hd : Dag L) (hl : ∀ c ∈ l, 1 ≤ c ∧ c ≤ N) : Told N (posts L l out) :=
  ⟨zoG hd l out (fun c hc => (hl c hc).1) h.nd, fun x hx => by
    rcases (zfq hd l out hl).2.2 x hx with q | q
    · exact h.bd x q
    · exact q⟩
theorem arr3 {α : Type} {a b c : Int} {j : Nat} {x : Int} (h : [a, b, c][j]? = some x) (k : Value → Option α) : zcg 3 false 1 (.agg #[.int .i64 a, .int .i64 b, .int .i64 c]) (.int .i64 (j : Int)) k = k (.int .i64 x) := by
  match j, h with
  | 0, h => cases h; rfl
  | 1, h => cases h; rfl
  | 2, h => cases h; rfl
  | n + 3, h => simp at h
theorem build72 {α : Type} (t : Int) (k : Value → Option α) : zar PP T.term_place [(0, .int .i64 t), (1, .int .i64 0)] k = k (.agg #[.int .i64 t, .int .i64 0]) := bld (by kernel_rfl) k
theorem zoV {α : Type} (n : Nd) (k : Value → Option α) : zab 1 false n.cells 0 k = k (.int .i64 n.op) := ze1 _ 0 _ rfl k
theorem partsT_nn (op : Int) : (0 : Int) ≤ zam op ∧ zam op ≤ 3 := by rcases zbU op with q | q | q | q <;> rw [q] <;> decide
theorem Seen.told {N : Nat} {seen : List Bool} {out : List Nat} {below : List (Nat × Nat)} {t j : Nat} (h : Seen N seen out (below ++ [(t, j)])) : Seen N seen (out ++ [t]) below :=
  ⟨h.len, fun x hx => by
    rw [h.at' x hx]
    congr 2
    simp only [List.map_append, List.map_cons, List.map_nil, List.mem_append, List.mem_singleton, eq_iff_iff]
    constructor
    · rintro (q | q | q)
      · exact .inl (.inl q)
      · exact .inr q
      · exact .inl (.inr q)
    · rintro ((q | q) | q)
      · exact .inl q
      · exact .inr (.inr q)
      · exact .inr (.inl q)⟩
theorem Seen.next {N : Nat} {seen : List Bool} {out : List Nat} {below : List (Nat × Nat)} {t j i : Nat} (h : Seen N seen out (below ++ [(t, j)])) : Seen N seen out (below ++ [(t, i)]) :=
  ⟨h.len, fun x hx => by rw [h.at' x hx]; congr 2; simp⟩
theorem Seen.add {N : Nat} {seen : List Bool} {out : List Nat} {stk : List (Nat × Nat)} {c i : Nat} (h : Seen N seen out stk) (hc : c ≤ N) : Seen N (seen.set c true) out (stk ++ [(c, i)]) :=
  ⟨by rw [List.length_set]; exact h.len, fun x hx => by
    rw [List.getElem?_set]
    by_cases e : c = x
    · subst e
      rw [if_pos rfl, if_pos (by rw [h.len]; omega)]
      simp
    · rw [if_neg e, h.at' x hx]
      congr 2
      have : ¬ x = c := fun q => e q.symm
      simp [this]⟩
section
variable {H0 : Hp} {p f g : Nat} {lim : Int} {L : List Nd} {K : List (ByteArray × Int)} {sl : Value} (hst : StF H0 p lim L K sl f g) (hd : Dag L) (hL : L.length * 64 ≤ 2 ^ 46) (bv : Value)
include hst hd hL
theorem fwd : ∀ t, 1 ≤ t → t ≤ L.length → ∀ (m j : Nat), j + m = (kids L t).length → ∀ (out : List Nat) (below : List (Nat × Nat)) (seen : List Bool) (H : Hp) (lv sv : Value),
    PS H0 H lv out sv (below ++ [(t, j)]) bv seen → Seen L.length seen out (below ++ [(t, j)]) → Told L.length out → (∀ x ∈ below, t < x.1) → below.length + t ≤ L.length → t ∉ out →
    ∃ H' lv' sv' seen', zaA (zaG RR (.pointer (some ⟨p, 0, none⟩)) bv) [lv, sv] H = zaA (zaG RR (.pointer (some ⟨p, 0, none⟩)) bv) [lv', sv'] H' ∧
      PS H0 H' lv' (posts L ((kids L t).drop j) out ++ [t]) sv' below bv seen' ∧ Seen L.length seen' (posts L ((kids L t).drop j) out ++ [t]) below := by
  intro t
  induction t using Nat.strongRecOn with
  | _ t ih =>
    intro h1 hN m
    obtain ⟨n, hn⟩ : ∃ n, L[t - 1]? = some n := ⟨_, List.getElem?_eq_getElem (by omega)⟩
    have hk : kids L t = zck n := by unfold kids; rw [hn]
    obtain ⟨kl, kg, kb⟩ := zmV hd hn
    have hpn := partsT_nn n.op
    induction m with
    | zero =>
      intro j hj out below seen H lv sv hp hs ht hb hbl hto
      have hst' := hp.at0 hst
      obtain ⟨y, e1, e2, e3, e4, _⟩ := hp.step rfl
      obtain ⟨sl', hsl, hix⟩ := hst'.st.all.ix (i := t - 1) (by omega) (α := Outc)
      have hol := ht.len
      obtain ⟨lv1, H1, t1, p1⟩ := hp.tell t (by omega)
      obtain ⟨sv1, c1, p2⟩ := p1.pop rfl
      have hlen : (below ++ [(t, j)]).length = below.length + 1 := by simp
      have w1 : IntKind.i64.wrap (((below.length + 1 : Nat) : Int) - 1) = (below.length : Int) := by rw [zax (by omega) (by omega)]; omega
      have w2 : IntKind.i64.wrap ((t : Int) - 1) = ((t - 1 : Nat) : Int) := by rw [zax (by omega) (by omega)]; omega
      have q1 : ((below.length + 1 : Nat) : Int) > 0 := by omega
      have hjp : (j : Int) = zam n.op := by rw [hk, kl] at hj; omega
      have e4' := e4
      rw [hjp] at e4'
      have hls : ∀ {α : Type} (H' : Hp) (k : Value → Option α), pLen .sl sv H' k = k (.int .i64 ((below.length + 1 : Nat) : Int)) := fun H' k => by rw [hp.s.len, hlen]
      have hdrop : (kids L t).drop j = [] := List.drop_of_length_le (by omega)
      rw [hdrop]
      refine ⟨H1, lv1, sv1, seen, ?_, p2, hs.told⟩
      rw [zaq]
      have : zaG RR (.pointer (some ⟨p, 0, none⟩)) bv [lv, sv] H = some (.next, [lv1, sv1], H1) := by
        unfold zaG
        simp only [qg1, qg0, hls, zbl, q1, decide_true, zag, zap, zb0, w1, e1, zeM, zb9, Nat.zero_add, Nat.add_zero, hst'.st.l1, e2, e3, w2, hix, ld7 hsl hn, spl7, zoV, zae (c29 _ _), zfQ e4', zay, hjp, t1, c1]
      rw [this]; rfl
    | succ m ihm =>
      intro j hj out below seen H lv sv hp hs ht hb hbl hto
      have hst' := hp.at0 hst
      obtain ⟨y, e1, e2, e3, e4, H1, e5, p1⟩ := hp.step rfl
      obtain ⟨sl', hsl, hix⟩ := hst'.st.all.ix (i := t - 1) (by omega) (α := Outc)
      have hlen : (below ++ [(t, j)]).length = below.length + 1 := by simp
      have w1 : IntKind.i64.wrap (((below.length + 1 : Nat) : Int) - 1) = (below.length : Int) := by rw [zax (by omega) (by omega)]; omega
      have w2 : IntKind.i64.wrap ((t : Int) - 1) = ((t - 1 : Nat) : Int) := by rw [zax (by omega) (by omega)]; omega
      have w3 : IntKind.i64.wrap ((j : Int) + 1) = ((j + 1 : Nat) : Int) := by
        have : j < 3 := by rw [hk, kl] at hj; omega
        exact zax (by omega) (by omega)
      have q1 : ((below.length + 1 : Nat) : Int) > 0 := by omega
      have hjp : ¬ (j : Int) = zam n.op := by rw [hk, kl] at hj; omega
      have hj3 : j < 3 := by rw [hk, kl] at hj; omega
      obtain ⟨x, hx⟩ : ∃ x, [n.a, n.b, n.c][j]? = some x := ⟨_, List.getElem?_eq_getElem (by simpa using hj3)⟩
      obtain ⟨g1, g2, g3⟩ := kg j x hx (by rw [hk] at hj; omega)
      have hls : ∀ {α : Type} (H' : Hp) (k : Value → Option α), pLen .sl sv H' k = k (.int .i64 ((below.length + 1 : Nat) : Int)) := fun H' k => by rw [hp.s.len, hlen]
      have hxc : x = ((x.toNat : Nat) : Int) := by omega
      generalize x.toNat = c at g1 hxc
      subst hxc
      have hcN : c ≤ L.length := by omega
      have hct : c < t := by omega
      have hc1 : 1 ≤ c := by omega
      have hdrop : (kids L t).drop j = c :: (kids L t).drop (j + 1) := by
        rw [hk]
        have hlt : j < (zck n).length := (List.getElem?_eq_some_iff.1 g1).1
        rw [List.drop_eq_getElem_cons hlt]
        have : (zck n)[j] = c := (List.getElem?_eq_some_iff.1 g1).2
        rw [this]
      rw [hdrop, zkE]
      have hsc := hs.at' c hcN
      have hs1 : Seen L.length seen out (below ++ [(t, j + 1)]) := hs.next
      by_cases hco : c ∈ out
      · -- told
        have hsc' : seen[c]? = some true := by rw [hsc]; congr 1; simp [hco]
        obtain ⟨z, z0, z1, z2⟩ := p1.seen_at hsc'
        obtain ⟨H', lv', sv', seen', r1, r2, r3⟩ := ihm (j + 1) (by omega) out below seen H1 lv sv p1 hs1 ht hb hbl hto
        rw [post_in hd hc1 hco]
        refine ⟨H', lv', sv', seen', ?_, r2, r3⟩
        rw [← r1, zaq]
        have : zaG RR (.pointer (some ⟨p, 0, none⟩)) bv [lv, sv] H = some (.next, [lv, sv], H1) := by
          unfold zaG
          simp only [qg1, qg0, hls, zbl, q1, decide_true, zag, zap, zan, zb0, w1, e1, zeM, zb9, Nat.zero_add, Nat.add_zero, hst'.st.l1, e2, e3, w2, hix, ld7 hsl hn, spl7, zoV, zoU, zoT, ncell4, zae (c29 _ _), zfQ e4, zay, hjp, decide_false, ziJ, arr3 hx, za6, w3, e5, z1, z2, za4, Bool.not_true]
        rw [this]; rfl
      · have hcs : c ∉ (below ++ [(t, j)]).map Prod.fst := fun q => by
          simp only [List.map_append, List.map_cons, List.map_nil, List.mem_append, List.mem_singleton, List.mem_map] at q
          rcases q with ⟨u, hu, e⟩ | e
          · have := hb u hu; omega
          · omega
        have hsc' : seen[c]? = some false := by rw [hsc]; congr 1; simpa [hco] using hcs
        obtain ⟨z, z0, z1, z2⟩ := p1.seen_at hsc'
        have hclt : c < seen.length := by rw [hs.len]; omega
        obtain ⟨z', hz', z3, H2, z4, p2, _⟩ := p1.see hclt
        obtain rfl : z' = z := Option.some.inj (hz'.symm.trans z0)
        have hlen1 : (below ++ [(t, j + 1)]).length = below.length + 1 := by simp
        obtain ⟨sv3, H3, z5, p3⟩ := p2.push c (zs := [.int .i64 0, .int .i64 0]) rfl (by rw [hlen1]; omega)
        have hs3 : Seen L.length (seen.set c true) out ((below ++ [(t, j + 1)]) ++ [(c, 0)]) := hs1.add hcN
        have hkc : 0 + (kids L c).length = (kids L c).length := by omega
        obtain ⟨H4, lv4, sv4, seen4, r1, r2, r3⟩ := ih c hct hc1 hcN (kids L c).length 0 hkc out (below ++ [(t, j + 1)]) (seen.set c true) H3 lv sv3 p3 hs3 ht
          (fun u hu => by
            rcases List.mem_append.1 hu with hu | hu
            · have := hb u hu; omega
            · rw [List.mem_singleton] at hu; subst hu; exact hct) (by rw [hlen1]; omega) hco
        rw [qd0, ← zoH hd hc1 hco] at r2 r3
        have ht4 : Told L.length (post L c out) := ht.posts (l := [c]) hd fun c' hc' => by rw [List.mem_singleton] at hc'; subst hc'; exact ⟨hc1, hcN⟩
        have hto4 : t ∉ post L c out := fun q => by
          rcases (zoI hd c hc1 out).2.2 t q with q | q
          · exact hto q
          · omega
        obtain ⟨H5, lv5, sv5, seen5, s1, s2, s3⟩ := ihm (j + 1) (by omega) (post L c out) below seen4 H4 lv4 sv4 r2 r3 ht4 hb hbl hto4
        refine ⟨H5, lv5, sv5, seen5, ?_, s2, s3⟩
        rw [← s1, ← r1, zaq]
        have : zaG RR (.pointer (some ⟨p, 0, none⟩)) bv [lv, sv] H = some (.next, [lv, sv3], H3) := by
          unfold zaG
          simp only [qg1, qg0, hls, zbl, q1, decide_true, zag, zap, zan, zb0, w1, e1, zeM, zb9, Nat.zero_add, Nat.add_zero, hst'.st.l1, e2, e3, w2, hix, ld7 hsl hn, spl7, zoV, zoU, zoT, ncell4, zae (c29 _ _), zfQ e4, zay, hjp, decide_false, ziJ, arr3 hx, za6, w3, e5, z1, z2, za4, Bool.not_false, z3, z4, build72, z5]
        rw [this]; rfl
end
end Go.AM
namespace Go.AM
open Go
def zlQ (l : List Int) : List Value := l.map fun (t : Int) => Value.int .i64 t
theorem intsI_get {l : List Int} {i : Nat} {t : Int} (h : l[i]? = some t) : (zlQ l)[i]? = some (.int .i64 t) := by simp [zlQ, h]
theorem Rdb.int {H : Hp} {v : Value} {l : List Int} (h : Rdb H 1 v l.length (zlQ l)) {i : Nat} {t : Int} (ht : l[i]? = some t) :
    ∃ y, (∀ (α : Type) (kd : IntKind) (k : Value → Option α), pIdx 1 v (.int kd (i : Int)) k = k (.pointer (some ⟨y, i * 1, none⟩))) ∧ (∀ (α : Type) (k : Value → Option α), zaB 1 false H (.pointer (some ⟨y, i * 1, none⟩)) k = k (.int .i64 t)) := by
  obtain ⟨y, hy, ⟨rest, own, hg⟩, hix⟩ := h.ix (List.getElem?_eq_some_iff.1 ht).1
  exact ⟨y, hix, fun α k => zh2 hg (by rw [Nat.mul_one]; exact intsI_get ht) k⟩
theorem loop13a {H : Hp} {p f g : Nat} {lim : Int} {L : List Nd} {K : List (ByteArray × Int)} {sl : Value} (hst : StF H p lim L K sl f g) {x : Value} {rs : List Int} (hx : Rdb H 1 x rs.length (zlQ rs)) (hl : rs.length ≤ 2 ^ 40) :
    ∀ k i, i + k = rs.length → zaA (za0 RR (.pointer (some ⟨p, 0, none⟩)) x (.int .i64 (rs.length : Int))) [.int .i64 (i : Int)] H =
      if (rs.drop i).all (isT L) = true then some (.exit 0, [.int .i64 (rs.length : Int)], H) else some (.ret, [.tuple #[.slice none 0 0, .int .i64 70]], H)
  | 0, i, h => by
    have : i = rs.length := by omega
    subst this
    rw [zaq]
    have : za0 RR (.pointer (some ⟨p, 0, none⟩)) x (.int .i64 (rs.length : Int)) [.int .i64 (rs.length : Int)] H = some (.exit 0, [.int .i64 (rs.length : Int)], H) := by
      unfold za0
      simp only [zbj, zag, zan, qg0, Int.lt_irrefl, decide_false]
    rw [this, List.drop_of_length_le (Nat.le_refl _)]; rfl
  | k + 1, i, h => by
    have hlt : i < rs.length := by omega
    have hg : rs[i]? = some rs[i] := List.getElem?_eq_getElem hlt
    obtain ⟨y, e1, e2⟩ := hx.int hg
    have w : IntKind.i64.wrap ((i : Int) + 1) = ((i + 1 : Nat) : Int) := zax (by omega) (by omega)
    have q : (i : Int) < (rs.length : Int) := by omega
    rw [zaq, List.drop_eq_getElem_cons hlt, List.all_cons]
    cases ht : isT L rs[i] with
    | true =>
      have : za0 RR (.pointer (some ⟨p, 0, none⟩)) x (.int .i64 (rs.length : Int)) [.int .i64 (i : Int)] H = some (.next, [.int .i64 ((i + 1 : Nat) : Int)], H) := by
        unfold za0
        simp only [zbj, zag, zap, zan, qg0, q, decide_true, e1, e2, zae (c19 hst.st), ht, za4, Bool.not_true, za6, w]
      rw [this]
      show zaA _ _ _ = _
      rw [loop13a hst hx hl k (i + 1) (by omega), Bool.true_and]
    | false =>
      have : za0 RR (.pointer (some ⟨p, 0, none⟩)) x (.int .i64 (rs.length : Int)) [.int .i64 (i : Int)] H = some (.ret, [.tuple #[.slice none 0 0, .int .i64 70]], H) := by
        unfold za0
        simp only [zbj, zag, zap, zan, qg0, q, decide_true, e1, e2, zae (c19 hst.st), ht, za4, Bool.not_false]
      rw [this]; rfl
theorem Rdb.old {H0 H : Hp} {lv sv bv : Value} {out : List Nat} {stk : List (Nat × Nat)} {seen : List Bool} (h : PS H0 H lv out sv stk bv seen) {x : Value} {n : Nat} {cs : List Value} (hx : Rdb H0 1 x n cs) : Rdb H 1 x n cs :=
  hx.keep' (fun j hj => h.old j (hx.lt hj)) h.next
section
variable {H0 : Hp} {p f g : Nat} {lim : Int} {L : List Nd} {K : List (ByteArray × Int)} {sl : Value} (hst : StF H0 p lim L K sl f g) (hd : Dag L) (hL : L.length * 64 ≤ 2 ^ 46) (bv : Value)
  {x : Value} {ns : List Nat} (hx : Rdb H0 1 x ns.length (ints ns)) (hns : ∀ t ∈ ns, 1 ≤ t ∧ t ≤ L.length) (hnl : ns.length ≤ 2 ^ 40)
include hst hd hL hx hns hnl
theorem znW : ∀ (k i : Nat) (out : List Nat) (seen : List Bool) (H : Hp) (lv sv : Value), i + k = ns.length → PS H0 H lv out sv [] bv seen → Seen L.length seen out [] → Told L.length out →
    ∃ H' lv' sv' seen', zaA (zaZ RR (.pointer (some ⟨p, 0, none⟩)) x bv (.int .i64 (ns.length : Int))) [lv, sv, .int .i64 (i : Int)] H = some (.exit 2, [lv', sv', .int .i64 (ns.length : Int)], H') ∧
      PS H0 H' lv' (posts L (ns.drop i) out) sv' [] bv seen'
  | 0, i, out, seen, H, lv, sv, hi, hp, hs, ht => by
    have : i = ns.length := by omega
    subst this
    refine ⟨H, lv, sv, seen, ?_, ?_⟩
    · rw [zaq]
      have : zaZ RR (.pointer (some ⟨p, 0, none⟩)) x bv (.int .i64 (ns.length : Int)) [lv, sv, .int .i64 (ns.length : Int)] H = some (.exit 2, [lv, sv, .int .i64 (ns.length : Int)], H) := by
        unfold zaZ
        simp only [zbj, zag, zan, qg1, qg0, Int.lt_irrefl, decide_false]
      rw [this]; rfl
    · rw [List.drop_of_length_le (Nat.le_refl _)]; exact hp
  | k + 1, i, out, seen, H, lv, sv, hi, hp, hs, ht => by
    have hlt : i < ns.length := by omega
    have hg : ns[i]? = some ns[i] := List.getElem?_eq_getElem hlt
    have hb := hns _ (List.getElem_mem hlt)
    have hdr : ns.drop i = ns[i] :: ns.drop (i + 1) := List.drop_eq_getElem_cons hlt
    rw [hdr, zkE]
    generalize ns[i] = t at hg hb
    have hxH := Rdb.old hp hx
    obtain ⟨y, hy, ⟨rest, own, hgy⟩, e1⟩ := hxH.ix hlt
    have e2 : ∀ (α : Type) (k : Value → Option α), zaB 1 false H (.pointer (some ⟨y, i * 1, none⟩)) k = k (.int .i64 (t : Int)) := fun α k => zh2 hgy (by rw [Nat.mul_one]; unfold ints; rw [List.getElem?_map, hg]; rfl) k
    have w : IntKind.i64.wrap ((i : Int) + 1) = ((i + 1 : Nat) : Int) := zax (by omega) (by omega)
    have q : (i : Int) < (ns.length : Int) := by omega
    have hsc := hs.at' t hb.2
    by_cases hto : t ∈ out
    · have hsc' : seen[t]? = some true := by rw [hsc]; congr 1; simp [hto]
      obtain ⟨z, z0, z1, z2⟩ := hp.seen_at hsc'
      rw [post_in hd hb.1 hto]
      obtain ⟨H', lv', sv', seen', r1, r2⟩ := znW k (i + 1) out seen H lv sv (by omega) hp hs ht
      refine ⟨H', lv', sv', seen', ?_, r2⟩
      rw [zaq]
      have : zaZ RR (.pointer (some ⟨p, 0, none⟩)) x bv (.int .i64 (ns.length : Int)) [lv, sv, .int .i64 (i : Int)] H = some (.next, [lv, sv, .int .i64 ((i + 1 : Nat) : Int)], H) := by
        unfold zaZ
        simp only [zbj, zag, zap, qg1, qg0, q, decide_true, e1, e2, z1, z2, za6, w]
      rw [this]; exact r1
    · have hsc' : seen[t]? = some false := by rw [hsc]; congr 1; simp [hto]
      obtain ⟨z, z0, z1, z2⟩ := hp.seen_at hsc'
      have hclt : t < seen.length := by rw [hs.len]; omega
      obtain ⟨z', hz', z3, H2, z4, p2, _⟩ := hp.see hclt
      obtain rfl : z' = z := Option.some.inj (hz'.symm.trans z0)
      obtain ⟨sv3, H3, z5, p3⟩ := p2.push t (zs := [.int .i64 0, .int .i64 0]) rfl (by simp)
      have hs3 : Seen L.length (seen.set t true) out ([] ++ [(t, 0)]) := hs.add hb.2
      obtain ⟨H4, lv4, sv4, seen4, r1, r2, r3⟩ := fwd hst hd hL bv t hb.1 hb.2 (kids L t).length 0 (by omega) out [] (seen.set t true) H3 lv sv3 p3 hs3 ht (fun u hu => by cases hu) (by simpa using hb.2) hto
      rw [qd0, ← zoH hd hb.1 hto] at r2 r3
      have ht4 : Told L.length (post L t out) := ht.posts (l := [t]) hd fun c' hc' => by rw [List.mem_singleton] at hc'; subst hc'; exact hb
      obtain ⟨H', lv', sv', seen', s1, s2⟩ := znW k (i + 1) (post L t out) seen4 H4 lv4 sv4 (by omega) r2 r3 ht4
      refine ⟨H', lv', sv', seen', ?_, s2⟩
      have hexit : zaA (zaG RR (.pointer (some ⟨p, 0, none⟩)) bv) [lv4, sv4] H4 = some (.exit 4, [lv4, sv4], H4) := by
        rw [zaq]
        have : zaG RR (.pointer (some ⟨p, 0, none⟩)) bv [lv4, sv4] H4 = some (.exit 4, [lv4, sv4], H4) := by
          unfold zaG
          simp only [qg1, qg0, r2.s.len, List.length_nil, zbl, zag]
          rfl
        rw [this]; rfl
      rw [hexit] at r1
      rw [zaq]
      have : zaZ RR (.pointer (some ⟨p, 0, none⟩)) x bv (.int .i64 (ns.length : Int)) [lv, sv, .int .i64 (i : Int)] H = some (.next, [lv4, sv4, .int .i64 ((i + 1 : Nat) : Int)], H4) := by
        unfold zaZ
        simp only [zbj, zag, zap, zan, qg1, qg0, q, decide_true, e1, e2, z1, z2, z3, z4, build72, z5, r1, zao, zbq, zaT, za6, w]
      rw [this]; exact s1
end
theorem zk7 : ∀ n : Nat, repl n [.bool false] = zl0 (List.replicate n false)
  | 0 => rfl
  | n + 1 => by
    show [.bool false] ++ repl n [.bool false] = _
    rw [zk7 n, List.replicate_succ]; rfl
theorem zh3 (ns : List Nat) : ints ns = zlQ (ns.map fun (t : Nat) => (t : Int)) := by simp [ints, zlQ]
structure OrdOk (H0 H : Hp) (v : Value) (out : List Nat) : Prop where
  vec : Vec H 1 v out.length (ints out)
  next : H0.next ≤ H.next
  old : ∀ j, j < H0.next → H.get j = H0.get j
  new : ∀ j, Id v j → H0.next ≤ j
theorem c13_yes {H0 : Hp} {p f g : Nat} {lim : Int} {L : List Nd} {K : List (ByteArray × Int)} {sl : Value} (hst : StF H0 p lim L K sl f g) (hd : Dag L) (hL : L.length * 64 ≤ 2 ^ 46) {x : Value} {ns : List Nat} (hx : Rdb H0 1 x ns.length (ints ns)) (hl : ns.length ≤ 2 ^ 40)
    (hns : ∀ t ∈ ns, 1 ≤ t ∧ t ≤ L.length) : ∃ H' v, RR F.a82 [.pointer (some ⟨p, 0, none⟩), x] H0 = some (.tuple #[v, .int .i64 0], H') ∧ OrdOk H0 H' v (posts L ns []) := by
  have hr := (zg5 E0 rfl (.pointer (some ⟨p, 0, none⟩)) x H0).trans (zhC _ _ _ _)
  have hmap : (ns.map fun (t : Nat) => (t : Int)).length = ns.length := List.length_map ..
  have h1 := loop13a (rs := ns.map fun (t : Nat) => (t : Int)) hst (x := x) (by rw [hmap, ← zh3]; exact hx) (by rw [hmap]; exact hl) ns.length 0 (by rw [hmap]; omega)
  have hall : (ns.map fun (t : Nat) => (t : Int)).all (isT L) = true := by
    rw [List.all_map, List.all_eq_true]
    intro t ht
    have := hns t ht
    exact zeU.2 ⟨by show (1 : Int) ≤ (t : Int); omega, by show (t : Int) ≤ L.length; omega⟩
  rw [qd0, hall, if_pos rfl, hmap] at h1
  obtain ⟨bv, b1, b2, b3⟩ := Vec.make H0 (sz := 1) (bytes := 1) (zs := [.bool false]) rfl (n := L.length + 1) (by omega)
  rw [zk7] at b1 b2
  generalize hH1 : H0.new (.cells (zl0 (List.replicate (L.length + 1) false)) true) = H1 at b1 b2
  have n1 : H1.next = H0.next + 1 := by rw [← hH1]; rfl
  have hsl : (List.replicate (L.length + 1) false).length = L.length + 1 := List.length_replicate ..
  have ps : PS H0 H1 (.slice none 0 0) [] (.slice none 0 0) [] bv (List.replicate (L.length + 1) false) :=
    ⟨by omega, fun j hj => by rw [← hH1, get_new, if_neg (by omega)], Vec.nil _ _, Vec.nil _ _, by rw [hsl]; exact b2, fun j hj => (by cases hj), fun j hj => (by cases hj), fun j hj => by have := b3 j hj; omega,
      fun j a => (by cases a), fun j a => (by cases a), fun j a => (by cases a)⟩
  have sn : Seen L.length (List.replicate (L.length + 1) false) [] [] := ⟨hsl, fun x hx => by rw [List.getElem?_replicate, if_pos (by omega)]; rfl⟩
  obtain ⟨H', lv', sv', seen', g1, g2⟩ := znW hst hd hL bv hx hns hl ns.length 0 [] _ H1 _ _ (by omega) ps sn ⟨List.nodup_nil, fun x h => by cases h⟩
  rw [qd0] at g2
  refine ⟨H', lv', ?_, ⟨g2.l, g2.next, g2.old, g2.al⟩⟩
  refine hr.trans ?_
  have w : IntKind.i64.wrap ((L.length : Int) + 1) = ((L.length + 1 : Nat) : Int) := zax (by omega) (by omega)
  rw [hx.len, show (0 : Int) = ((0 : Nat) : Int) from rfl, h1, zao, zbq, zaT, zeM, zb9, Nat.zero_add, hst.st.l1, hst.st.all.len, za6, w, b1, hx.len, g1, zao, zbq, zaT]
  rfl
end Go.AM
namespace Go.AM
open Go
section
variable {H0 : Hp} {p f g : Nat} {lim : Int} {L : List Nd} {K : List (ByteArray × Int)} {sl : Value} (hst : StF H0 p lim L K sl f g) (hd : Dag L) (hL : L.length * 64 ≤ 2 ^ 46) (bv : Value)
include hst hd in
end
end Go.AM
namespace Go.AM
open Go
theorem spl3 {α : Type} (a b c : Int) (k : List Value → Option α) : zac 3 [.int .i64 0, .int .i64 0, .int .i64 0] 0 (.agg #[.int .i64 a, .int .i64 b, .int .i64 c]) k = k [.int .i64 a, .int .i64 b, .int .i64 c] := by
  have : zdz 3 [.int .i64 0, .int .i64 0, .int .i64 0] 0 (.agg #[.int .i64 a, .int .i64 b, .int .i64 c]) = some [.int .i64 a, .int .i64 b, .int .i64 c] := by kernel_rfl
  unfold zac; rw [this]
section
variable {H0 : Hp} {p f g : Nat} {lim : Int} {L : List Nd} {K : List (ByteArray × Int)} {sl : Value} (hst : StF H0 p lim L K sl f g) (hd : Dag L) (hL : L.length * 64 ≤ 2 ^ 46) (bv : Value)
include hst hd hL
end
end Go.AM
namespace Go.AM.N14
open Go Go.AM
theorem zkH (a b : Fct) (c : Bool) {w : Nat} (hw : w ≤ 64) (H : Hp) : ∀ (m i : Nat), i + m = w →
    zaA (zbo RR a.val b.val (.int .i64 (w : Int))) [wv (ripO a b c i).1, wv (ripO a b c i).2, .bool (ripC a b c i).1, .bool (ripC a b c i).2, .int .i64 (i : Int)] H =
      some (.exit 0, [wv (ripO a b c w).1, wv (ripO a b c w).2, .bool (ripC a b c w).1, .bool (ripC a b c w).2, .int .i64 (w : Int)], H)
  | 0, i, hi => by
    have : i = w := by omega
    subst this
    rw [zaq]
    have : zbo RR a.val b.val (.int .i64 (i : Int)) [wv (ripO a b c i).1, wv (ripO a b c i).2, .bool (ripC a b c i).1, .bool (ripC a b c i).2, .int .i64 (i : Int)] H = some (.exit 0, [wv (ripO a b c i).1, wv (ripO a b c i).2, .bool (ripC a b c i).1, .bool (ripC a b c i).2, .int .i64 (i : Int)], H) := by
      unfold zbo
      simp only [qg0, qg1]
      rw [lF (Int.lt_irrefl _)]
    rw [this]; rfl
  | m + 1, i, hi => by
    rw [zaq, zpB a b c hw (show i < w by omega) H]
    exact zkH a b c hw H m (i + 1) (by omega)
theorem zmF (a b : Fct) (c : Bool) {w : Int} (hw : w ≤ 64) (H : Hp) : RR F.a39 [.int .i64 w, a.val, b.val, .bool c] H = some (.tuple #[wv (ripO a b c (wd w)).1, wv (ripO a b c (wd w)).2], H) := by
  have hr := (zjf E0 rfl (.int .i64 w) a.val b.val (.bool c) H).trans (zjO _ _ _ _ _ _)
  have l := zkH a b c (zbf hw) H (wd w) 0 (by omega)
  have l' : zaA (zbo RR a.val b.val (.int .i64 (wd w : Int))) [.int .u64 0, .int .u64 0, .bool c, .bool (!c), .int .i64 0] H = _ := l
  rw [za4, zae (c43 w H), l', zao, zbq, zaT] at hr
  exact hr
def tri (x1 x0 : Bool) : Int := if x1 = true then 1 else if x0 = true then 0 else 2
theorem zfp (a : Fct) {i : Nat} (hi : i < 64) (H : Hp) : RR F.a10 [a.val, .int .i64 (i : Int)] H = some (.int .i64 (tri (a.one.getLsbD i) (a.zero.getLsbD i)), H) := by
  refine (zfS E0 rfl _ _ _).trans ?_
  unfold zdc tri
  rw [zaX, zae (c47 a.one i hi H), zag]
  cases a.one.getLsbD i with
  | true => rw [zap]; rfl
  | false =>
    rw [zan, zaD, zae (c47 a.zero i hi H), zag]
    cases a.zero.getLsbD i with
    | true => rw [zap]; rfl
    | false => rw [zan]; rfl
def zeK (t : Int) (n : Int × Int × Int) : Int × Int × Int := if t = 0 then (n.1 + 1, n.2.1, n.2.2) else if t = 1 then (n.1, n.2.1 + 1, n.2.2) else (n.1, n.2.1, n.2.2 + 1)
def nV (n : Int × Int × Int) : Value := .agg #[.int .i64 n.1, .int .i64 n.2.1, .int .i64 n.2.2]
theorem q_cnt {t0 t1 t2 : Int} (h0 : t0 = 0 ∨ t0 = 1 ∨ t0 = 2) (h1 : t1 = 0 ∨ t1 = 1 ∨ t1 = 2) (h2 : t2 = 0 ∨ t2 = 1 ∨ t2 = 2) (H : Hp) :
    zaA (zaV RR [.int .i64 t0, .int .i64 t1, .int .i64 t2]) [.int .i64 0, .agg #[.int .i64 0, .int .i64 0, .int .i64 0]] H = some (.exit 2, [.int .i64 3, nV (zeK t2 (zeK t1 (zeK t0 (0, 0, 0))))], H) := by
  have st : ∀ (t : Int) (i : Nat) (n : Int × Int × Int), (t = 0 ∨ t = 1 ∨ t = 2) → i < 3 → (0 ≤ n.1 ∧ n.1 < 5) → (0 ≤ n.2.1 ∧ n.2.1 < 5) → (0 ≤ n.2.2 ∧ n.2.2 < 5) →
      (∀ (f : Value → Option Outc), zab 1 false [Value.int .i64 t0, .int .i64 t1, .int .i64 t2] (0 + i * 1) f = f (.int .i64 t)) →
      zaV RR [.int .i64 t0, .int .i64 t1, .int .i64 t2] [.int .i64 (i : Int), nV n] H = some (.next, [.int .i64 ((i + 1 : Nat) : Int), nV (zeK t n)], H) := fun t i n ht hi b0 b1 b2 hc => by
    obtain ⟨n0, n1, n2⟩ := n
    dsimp only at b0 b1 b2
    unfold zaV
    simp only [qg0, qd1, qd0]
    have hloc : ∀ (f : Nat → Option Outc), zaS 3 (.int .i64 (i : Int)) f = f i := fun f => by
      unfold zaS
      dsimp only
      rw [if_pos (by omega)]; rfl
    have w1 : IntKind.i64.wrap ((i : Int) + 1) = ((i + 1 : Nat) : Int) := zax (by omega) (by omega)
    rw [lT (by omega), hloc, hc]
    rcases ht with rfl | rfl | rfl
    · have l0 : ∀ (f : Nat → Option Outc), zaS 3 (.int .i64 0) f = f 0 := fun f => rfl
      have c0 : ∀ (f : Value → Option Outc), zab 1 false (zaa (nV (n0, n1, n2))) (0 + 0 * 1) f = f (.int .i64 n0) := fun f => rfl
      have p0 : ∀ (x : Int) (f : List Value → Option Outc), zac 1 (zaa (nV (n0, n1, n2))) (0 + 0 * 1) (.int .i64 x) f = f (zaa (nV (x, n1, n2))) := fun x f => rfl
      rw [l0, c0, za6, zax (by omega) (by omega), l0, p0, za6, w1]; rfl
    · have l0 : ∀ (f : Nat → Option Outc), zaS 3 (.int .i64 1) f = f 1 := fun f => rfl
      have c0 : ∀ (f : Value → Option Outc), zab 1 false (zaa (nV (n0, n1, n2))) (0 + 1 * 1) f = f (.int .i64 n1) := fun f => rfl
      have p0 : ∀ (x : Int) (f : List Value → Option Outc), zac 1 (zaa (nV (n0, n1, n2))) (0 + 1 * 1) (.int .i64 x) f = f (zaa (nV (n0, x, n2))) := fun x f => rfl
      rw [l0, c0, za6, zax (by omega) (by omega), l0, p0, za6, w1]; rfl
    · have l0 : ∀ (f : Nat → Option Outc), zaS 3 (.int .i64 2) f = f 2 := fun f => rfl
      have c0 : ∀ (f : Value → Option Outc), zab 1 false (zaa (nV (n0, n1, n2))) (0 + 2 * 1) f = f (.int .i64 n2) := fun f => rfl
      have p0 : ∀ (x : Int) (f : List Value → Option Outc), zac 1 (zaa (nV (n0, n1, n2))) (0 + 2 * 1) (.int .i64 x) f = f (zaa (nV (n0, n1, x))) := fun x f => rfl
      rw [l0, c0, za6, zax (by omega) (by omega), l0, p0, za6, w1]; rfl
  have en : ∀ (n : Int × Int × Int), zaV RR [.int .i64 t0, .int .i64 t1, .int .i64 t2] [.int .i64 ((3 : Nat) : Int), nV n] H = some (.exit 2, [.int .i64 3, nV n], H) := fun n => by
    unfold zaV
    simp only [qg0, qd1, qd0]
    rw [lF (by decide)]; rfl
  have bd : ∀ (t : Int) (n : Int × Int × Int) (k : Int), (0 ≤ n.1 ∧ n.1 ≤ k) ∧ (0 ≤ n.2.1 ∧ n.2.1 ≤ k) ∧ (0 ≤ n.2.2 ∧ n.2.2 ≤ k) → (0 ≤ (zeK t n).1 ∧ (zeK t n).1 ≤ k + 1) ∧ (0 ≤ (zeK t n).2.1 ∧ (zeK t n).2.1 ≤ k + 1) ∧ (0 ≤ (zeK t n).2.2 ∧ (zeK t n).2.2 ≤ k + 1) := fun t n k h => by
    unfold zeK
    split
    · dsimp only; omega
    · split <;> dsimp only <;> omega
  have B0 : (0 ≤ ((0, 0, 0) : Int × Int × Int).1 ∧ ((0, 0, 0) : Int × Int × Int).1 ≤ 0) ∧ (0 ≤ ((0, 0, 0) : Int × Int × Int).2.1 ∧ ((0, 0, 0) : Int × Int × Int).2.1 ≤ 0) ∧ (0 ≤ ((0, 0, 0) : Int × Int × Int).2.2 ∧ ((0, 0, 0) : Int × Int × Int).2.2 ≤ 0) := by decide
  have B1 := bd t0 _ _ B0
  have B2 := bd t1 _ _ B1
  show zaA _ [.int .i64 ((0 : Nat) : Int), nV (0, 0, 0)] H = _
  rw [zaq, st t0 0 (0, 0, 0) h0 (by decide) (by decide) (by decide) (by decide) (fun f => rfl)]
  show zaA _ [.int .i64 ((1 : Nat) : Int), nV (zeK t0 (0, 0, 0))] H = _
  rw [zaq, st t1 1 _ h1 (by decide) (by omega) (by omega) (by omega) (fun f => rfl)]
  show zaA _ [.int .i64 ((2 : Nat) : Int), nV (zeK t1 (zeK t0 (0, 0, 0)))] H = _
  rw [zaq, st t2 2 _ h2 (by decide) (by omega) (by omega) (by omega) (fun f => rfl)]
  show zaA _ [.int .i64 ((3 : Nat) : Int), nV (zeK t2 (zeK t1 (zeK t0 (0, 0, 0))))] H = _
  rw [zaq, en]
  rfl
end Go.AM.N14
namespace Go.AM.N14
open Go Go.AM
def exl (x1 x0 : Bool) : Prop := ¬ (x1 = true ∧ x0 = true)
theorem tri3 (x1 x0 : Bool) : tri x1 x0 = 0 ∨ tri x1 x0 = 1 ∨ tri x1 x0 = 2 := by cases x1 <;> cases x0 <;> decide
theorem zlm {a b : Fct} (ha : ∀ i, exl (a.one.getLsbD i) (a.zero.getLsbD i)) (hb : ∀ i, exl (b.one.getLsbD i) (b.zero.getLsbD i)) (c : Bool) : ∀ i, exl (ripC a b c i).1 (ripC a b c i).2
  | 0 => by
    show ¬ (c = true ∧ (!c) = true)
    cases c <;> decide
  | i + 1 => by
    have h1 := ha i
    have h2 := hb i
    have h3 := zlm ha hb c i
    show exl (maj _ _ _) (maj _ _ _)
    revert h1 h2 h3
    generalize a.one.getLsbD i = x1
    generalize a.zero.getLsbD i = x0
    generalize b.one.getLsbD i = y1
    generalize b.zero.getLsbD i = y0
    generalize (ripC a b c i).1 = c1
    generalize (ripC a b c i).2 = c0
    unfold exl
    cases x1 <;> cases x0 <;> cases y1 <;> cases y0 <;> cases c1 <;> cases c0 <;> decide
def cN (x1 x0 y1 y0 c1 c0 : Bool) : Int × Int × Int := zeK (tri c1 c0) (zeK (tri y1 y0) (zeK (tri x1 x0) (0, 0, 0)))
theorem cN_facts {x1 x0 y1 y0 c1 c0 : Bool} (h1 : exl x1 x0) (h2 : exl y1 y0) (h3 : exl c1 c0) :
    decide ((cN x1 x0 y1 y0 c1 c0).2.2 = 0) = ((x1 || x0) && (y1 || y0) && (c1 || c0)) ∧ (((x1 || x0) && (y1 || y0) && (c1 || c0)) = true → decide ((cN x1 x0 y1 y0 c1 c0).2.1.tmod 2 = 1) = !((!(x1 == y1)) == c1)) ∧
    (((x1 || x0) && (y1 || y0) && (c1 || c0)) = true → decide ((cN x1 x0 y1 y0 c1 c0).2.1.tmod 2 = 0) = ((!(x1 == y1)) == c1)) ∧ decide ((cN x1 x0 y1 y0 c1 c0).2.1 ≥ 2) = maj x1 y1 c1 ∧ decide ((cN x1 x0 y1 y0 c1 c0).1 ≥ 2) = maj x0 y0 c0 := by
  revert h1 h2 h3
  unfold exl
  cases x1 <;> cases x0 <;> cases y1 <;> cases y0 <;> cases c1 <;> cases c0 <;> decide
def ripF (a b : Fct) (c : Bool) (i : Nat) : Fct := ⟨a.w, (ripO a b c i).1, (ripO a b c i).2, 0#64, msk (wd a.w)⟩
theorem zpz {a b : Fct} (ha : ∀ i, exl (a.one.getLsbD i) (a.zero.getLsbD i)) (hb : ∀ i, exl (b.one.getLsbD i) (b.zero.getLsbD i)) (c : Bool) {i : Nat} (hi : (i : Int) < a.w) (hw : a.w ≤ 64) (H : Hp) :
    zaU RR a.val b.val [.int .i64 (tri (ripC a b c i).1 (ripC a b c i).2), .int .i64 (i : Int), (ripF a b c i).val] H =
      some (.next, [.int .i64 (tri (ripC a b c (i + 1)).1 (ripC a b c (i + 1)).2), .int .i64 ((i + 1 : Nat) : Int), (ripF a b c (i + 1)).val], H) := by
  have w1 : IntKind.i64.wrap ((i : Int) + 1) = ((i + 1 : Nat) : Int) := zax (by omega) (by omega)
  have h64 : i < 64 := by omega
  have e1 : ripC a b c (i + 1) = (maj (a.one.getLsbD i) (b.one.getLsbD i) (ripC a b c i).1, maj (a.zero.getLsbD i) (b.zero.getLsbD i) (ripC a b c i).2) := rfl
  have e2 : ripO a b c (i + 1) = if ripK a b c i = true then (if ripB a b c i = true then ((ripO a b c i).1 ||| 1#64 <<< i, (ripO a b c i).2) else ((ripO a b c i).1, (ripO a b c i).2 ||| 1#64 <<< i)) else ripO a b c i := rfl
  have hx := ha i
  have hy := hb i
  have hz := zlm ha hb c i
  have hm := zlm ha hb c (i + 1)
  rw [e1] at hm ⊢
  unfold ripF
  rw [e2]
  unfold ripK ripB
  have hst1 := zfp a h64 H
  have hst2 := zfp b h64 H
  revert hst1 hst2 hx hy hz hm
  generalize a.one.getLsbD i = x1
  generalize a.zero.getLsbD i = x0
  generalize b.one.getLsbD i = y1
  generalize b.zero.getLsbD i = y0
  generalize (ripC a b c i).1 = c1
  generalize (ripC a b c i).2 = c0
  generalize ripO a b c i = p
  intro hx hy hz hm hst1 hst2
  obtain ⟨po, pz⟩ := p
  dsimp only at hm ⊢
  obtain ⟨k1, k2, k3, k4, k5⟩ := cN_facts hx hy hz
  have hcnt := q_cnt (tri3 x1 x0) (tri3 y1 y0) (tri3 c1 c0) H
  have hcnt' : zaA (zaV RR [.int .i64 (tri x1 x0), .int .i64 (tri y1 y0), .int .i64 (tri c1 c0)]) [.int .i64 0, .agg [Value.int .i64 0, .int .i64 0, .int .i64 0].toArray] H = some (.exit 2, [.int .i64 3, nV (cN x1 x0 y1 y0 c1 c0)], H) := hcnt
  have hz3 : ∀ (f : Value → Option Outc), zar PP T.a3_int [] f = f (.agg #[.int .i64 0, .int .i64 0, .int .i64 0]) := fun f => bld (by kernel_rfl) f
  generalize cN x1 x0 y1 y0 c1 c0 = N at k1 k2 k3 k4 k5 hcnt'
  have n0' : ∀ (f : Value → Option Outc), zab 1 false (zaa (nV N)) 0 f = f (.int .i64 N.1) := fun f => rfl
  have n1' : ∀ (f : Value → Option Outc), zab 1 false (zaa (nV N)) 1 f = f (.int .i64 N.2.1) := fun f => rfl
  have n2' : ∀ (f : Value → Option Outc), zab 1 false (zaa (nV N)) 2 f = f (.int .i64 N.2.2) := fun f => rfl
  have hrem : ∀ (f : Value → Option Outc), pBin PP .rem T.int (.int .i64 N.2.1) (.int .i64 2) f = f (.int .i64 (N.2.1.tmod 2)) := fun f => zkc _ _ _ _ (by decide) f
  have hcu : ∀ (f : Value → Option Outc), zal .u64 (.int .i64 (i : Int)) f = f (.int .u64 (i : Int)) := fun f => cu64 _ (by omega) f
  have hsh : ∀ (f : Value → Option Outc), pBin PP .shl T.uint64 (.int .u64 1) (.int .u64 (i : Int)) f = f (wv (1#64 <<< i)) := fun f => zb2 _ 1#64 f .u64 i
  unfold zaU
  simp only [qg0, qg1, qd1, qd0, f_w, zbj, decide_eq_true hi, zag, zap, zak, zae hst1, zae hst2, ziJ, spl3, hz3, hcnt', zao, zbq, zaT, n2', zay, k1]
  generalize hK : ((x1 || x0) && (y1 || y0) && (c1 || c0)) = K at k2 k3 ⊢
  generalize maj x1 y1 c1 = m1 at hm k4 ⊢
  generalize maj x0 y0 c0 = m0 at hm k5 ⊢
  cases K with
  | true =>
    have k2 := k2 rfl
    have k3 := k3 rfl
    generalize ((!(x1 == y1)) == c1) = B at k2 k3 ⊢
    cases B <;> cases m1 <;> cases m0 <;> first | (exact absurd ⟨rfl, rfl⟩ hm) | skip <;>
      simp only [zap, zan, n0', n1', hrem, zay, k2, k3, zag, zaX, zaD, hcu, hsh, b_or, zb3, zbs, zaL, zao, zai, qg0, qd0, zbg, k4, k5, za6, w1, Bool.not_true, Bool.not_false] <;> rfl
  | false =>
    cases m1 <;> cases m0 <;> first | (exact absurd ⟨rfl, rfl⟩ hm) | skip <;>
      simp only [zap, zan, n0', n1', hrem, zay, zag, zaX, zaD, hcu, hsh, b_or, zb3, zbs, zaL, zao, zai, qg0, qd0, zbg, k4, k5, za6, w1] <;> rfl
theorem zkC {a b : Fct} (ha : ∀ i, exl (a.one.getLsbD i) (a.zero.getLsbD i)) (hb : ∀ i, exl (b.one.getLsbD i) (b.zero.getLsbD i)) (c : Bool) {w : Nat} (haw : a.w = (w : Int)) (hw : a.w ≤ 64) (H : Hp) : ∀ (m i : Nat), i + m = w →
    zaA (zaU RR a.val b.val) [.int .i64 (tri (ripC a b c i).1 (ripC a b c i).2), .int .i64 (i : Int), (ripF a b c i).val] H = some (.exit 0, [.int .i64 (tri (ripC a b c w).1 (ripC a b c w).2), .int .i64 (w : Int), (ripF a b c w).val], H)
  | 0, i, hi => by
    have : i = w := by omega
    subst this
    rw [zaq]
    have : zaU RR a.val b.val [.int .i64 (tri (ripC a b c i).1 (ripC a b c i).2), .int .i64 (i : Int), (ripF a b c i).val] H = some (.exit 0, [.int .i64 (tri (ripC a b c i).1 (ripC a b c i).2), .int .i64 (i : Int), (ripF a b c i).val], H) := by
      unfold zaU
      simp only [qg0, qg1, qd1, qd0, f_w]
      rw [zbj, zag, haw, decide_eq_false (Int.lt_irrefl _), zan, zaL]
    rw [this]; rfl
  | m + 1, i, hi => by
    rw [zaq, zpz ha hb c (by omega) hw H]
    exact zkC ha hb c haw hw H m (i + 1) (by omega)
theorem zoB {a b : Fct} (ha : ∀ i, exl (a.one.getLsbD i) (a.zero.getLsbD i)) (hb : ∀ i, exl (b.one.getLsbD i) (b.zero.getLsbD i)) (c : Bool) (h0 : 1 ≤ a.w) (hw : a.w ≤ 64) (H : Hp) :
    RR F.a29 [a.val, b.val, .int .i64 (if c = true then 1 else 0)] H = some ((ripF a b c (wd a.w)).val, H) := by
  have hr := (zfi E0 rfl a.val b.val (.int .i64 (if c = true then 1 else 0)) H).trans (zfA _ _ _ _ _)
  have e : a.w = ((wd a.w : Nat) : Int) := by unfold wd; omega
  have l := zkC ha hb c e hw H (wd a.w) 0 (by omega)
  have hc : Value.int .i64 (tri (ripC a b c 0).1 (ripC a b c 0).2) = .int .i64 (if c = true then 1 else 0) := by cases c <;> rfl
  rw [hc] at l
  have l' : zaA (zaU RR a.val b.val) [.int .i64 (if c = true then 1 else 0), .int .i64 0, (Fct.val ⟨a.w, 0#64, 0#64, 0#64, msk (wd a.w)⟩)] H = _ := l
  rw [f_w, f_w, zae (c11 (by omega) hw H), b_wt, sp_0, zaL, l', zao, zbq, zaT] at hr
  simp only [qd1, qd0, qg0] at hr
  rw [zak, sp_0, zak] at hr
  exact hr
end Go.AM.N14
namespace Go.AM.N14
open Go Go.AM
theorem zkz {a b b' : Fct} {c : Bool} (h1 : b.one = b'.one) (h2 : b.zero = b'.zero) : ∀ i, ripC a b c i = ripC a b' c i
  | 0 => rfl
  | i + 1 => by
    show (maj _ _ _, maj _ _ _) = (maj _ _ _, maj _ _ _)
    rw [zkz h1 h2 i, h1, h2]
theorem zky {a b b' : Fct} {c : Bool} (h1 : b.one = b'.one) (h2 : b.zero = b'.zero) : ∀ i, ripO a b c i = ripO a b' c i
  | 0 => rfl
  | i + 1 => by
    unfold ripO ripK ripB
    rw [zky h1 h2 i, zkz h1 h2 i, h1, h2]
theorem zpg (w : Int) (b c e : W64) {α : Type} (k : Value → Option α) : zar PP T.api_Fact [(0, .int .i64 w), (1, wv b), (2, wv c), (4, wv e)] k = k (Fct.val ⟨w, b, c, 0#64, e⟩) := by kernel_rfl
theorem zmE {w : Int} (hw : w ≤ 64) (o z : W64) (H : Hp) : RR F.a11 [.int .i64 w, wv o, wv z] H = some (Fct.val ⟨w, o &&& msk (wd w), z &&& msk (wd w), 0#64, msk (wd w)⟩, H) := by
  refine (znA E0 rfl _ _ _ H).trans ?_
  unfold zjG
  rw [zae (c26 hw H), zba, zba, zpg, sp_0, zak]
def neg1 (b : Fct) (w : Int) : Fct := ⟨w, b.zero, b.one, 0#64, 0#64⟩
def difF (a b : Fct) : Fct :=
  let f := ripF a (neg1 b a.w) true (wd a.w)
  if b.top.toNat ≤ a.least.toNat then { f with least := (a.least - b.top) &&& msk (wd a.w), top := (a.top - b.least) &&& msk (wd a.w) }
  else if a.top.toNat < b.least.toNat then { f with least := (a.least - b.top) &&& msk (wd a.w), top := (a.top - b.least) &&& msk (wd a.w) } else f
theorem zig (a b : Fct) (hw : a.w ≤ 64) (H : Hp) : RR F.a76 [a.val, b.val] H = some ((difF a b).val, H) := by
  have hr := zg7 E0 rfl a.val b.val H
  unfold zd5 at hr
  have z : Value.int .u64 0 = wv 0#64 := rfl
  have hraw := zmE hw 0#64 0#64 H
  have hcar := zmF a (neg1 b a.w) true hw H
  have e0 : ∀ x : W64, (0#64) &&& x = 0#64 := fun x => BitVec.zero_and
  rw [e0] at hraw
  rw [f_w, zae (c26 hw H)] at hr
  have hraw' : RR F.a11 [.int .i64 a.w, .int .u64 0, .int .u64 0] H = _ := hraw
  rw [zae hraw', sp_0, zak, zaD, zaX, b_w3] at hr
  have hcar' : RR F.a39 [.int .i64 a.w, a.val, Fct.val ⟨a.w, b.zero, b.one, 0#64, 0#64⟩, .bool true] H = _ := hcar
  rw [zae hcar', x01, zb3, zbs, zas, zaK, znf, zag] at hr
  unfold difF
  dsimp only
  by_cases h1 : b.top.toNat ≤ a.least.toNat
  · rw [decide_eq_true h1, zap, zas, zaK, zc7, zba, zaK, zas, zc7, zba, za5, zbt, zak, sp_0, zak] at hr
    rw [if_pos h1]; exact hr
  rw [decide_eq_false h1, zan, zaK, zas, zkr, zag] at hr
  rw [if_neg h1]
  by_cases h2 : a.top.toNat < b.least.toNat
  · rw [decide_eq_true h2, zap, zas, zaK, zc7, zba, zaK, zas, zc7, zba, za5, zbt, zak, sp_0, zak] at hr
    rw [if_pos h2]; exact hr
  · rw [decide_eq_false h2, zan, zak, sp_0, zak] at hr
    rw [if_neg h2]; exact hr
theorem zlx {b : Fct} (h0 : 0 ≤ b.w) (hw : b.w ≤ 64) (H : Hp) : RR F.a70 [b.val] H = some (Fct.val ⟨b.w, b.zero, b.one, msk (wd b.w) - b.top, msk (wd b.w) - b.least⟩, H) := by
  refine (zfh E0 rfl _ H).trans ?_
  unfold zcQ
  rw [f_w, zae (c11 h0 hw H), f_w, zaD, zaX, zaK, zc7, zas, zc7, b_5, sp_0, zak]
theorem q_less {a b : Fct} (ha : ∀ i, exl (a.one.getLsbD i) (a.zero.getLsbD i)) (hb : ∀ i, exl (b.one.getLsbD i) (b.zero.getLsbD i)) (h0 : 1 ≤ a.w) (hw : a.w ≤ 64) (hbw : b.w = a.w) (H : Hp) : RR F.a65 [a.val, b.val] H = some ((difF a b).val, H) := by
  have hr := zgx E0 rfl a.val b.val H
  unfold zdH at hr
  have hb' : ∀ i, exl (b.zero.getLsbD i) (b.one.getLsbD i) := fun i h => hb i ⟨h.2, h.1⟩
  have hrip := zoB (b := ⟨b.w, b.zero, b.one, msk (wd b.w) - b.top, msk (wd b.w) - b.least⟩) ha hb' true h0 hw H
  have e : ripF a ⟨b.w, b.zero, b.one, msk (wd b.w) - b.top, msk (wd b.w) - b.least⟩ true (wd a.w) = ripF a (neg1 b a.w) true (wd a.w) := by
    unfold ripF
    rw [zky (b := ⟨b.w, b.zero, b.one, msk (wd b.w) - b.top, msk (wd b.w) - b.least⟩) (b' := neg1 b a.w) rfl rfl]
  rw [e] at hrip
  have hrip' : RR F.a29 [a.val, Fct.val ⟨b.w, b.zero, b.one, msk (wd b.w) - b.top, msk (wd b.w) - b.least⟩, .int .i64 1] H = _ := hrip
  rw [zak, zak, zae (zlx (by omega) (by omega) H), zae hrip', sp_0, f_w, zae (c11 (by omega) hw H), zas, zaK, znf, zag] at hr
  unfold difF
  dsimp only
  by_cases h1 : b.top.toNat ≤ a.least.toNat
  · rw [decide_eq_true h1, zap, zas, zaK, zc7, zba, za5, zaK, zas, zc7, zba, zbt, zak, sp_0, zak] at hr
    rw [if_pos h1]; exact hr
  rw [decide_eq_false h1, zan, zaK, zas, zkr, zag] at hr
  rw [if_neg h1]
  by_cases h2 : a.top.toNat < b.least.toNat
  · rw [decide_eq_true h2, zap, zas, zaK, zc7, zba, za5, zaK, zas, zc7, zba, zbt, zak, sp_0, zak] at hr
    rw [if_pos h2]; exact hr
  · rw [decide_eq_false h2, zan, zak, sp_0, zak] at hr
    rw [if_neg h2]; exact hr
end Go.AM.N14
namespace Go.AM.N14
open Go Go.AM
theorem run_xt {P : Program} {O : Orc} {ext : FuncId → Option (List Value → Hp → Option (Value × Hp))} {g : FuncId} {fn : Func} {e : List Value → Option Value} (hf : P.funcs[g]? = some fn) (hn : (fn.name == "runtime.NumGoroutine") = false) (hb : fn.body.isNone = true) (hx : O.xt g = some e) {xs : List Value} {v : Value} (hv : e xs = some v) (H : Hp) :
    run P O ext g xs H = some (v, H) := by
  have hb : fn.body = none := by
    cases q : fn.body with
    | none => rfl
    | some c => rw [q] at hb; cases hb
  rw [run_eq]
  unfold zh8
  rw [hf]
  dsimp only
  rw [hn]
  dsimp only
  rw [hb]
  dsimp only
  rw [hx]
  dsimp only
  rw [hv]
theorem x_add64 (x y : W64) (H : Hp) : RR F.a83 [wv x, wv y, .int .u64 0] H = some (.tuple #[wv (x + y), .int .u64 (((x.toNat + y.toNat) / 18446744073709551616 : Nat) : Int)], H) := by
  refine run_xt (e := add64) Go.Proofs.Tryz.func115 (by kernel_rfl) (by kernel_rfl) (by kernel_rfl) ?_ H
  show some (Value.tuple #[.int .u64 (((x.toNat + y.toNat + 0) % 18446744073709551616 : Nat) : Int), .int .u64 (((x.toNat + y.toNat + 0) / 18446744073709551616 : Nat) : Int)]) = _
  unfold wv
  rw [BitVec.toNat_add]
  rfl
theorem zoM {w : Int} (hw : w ≤ 64) (x y : W64) (H : Hp) : RR F.a75 [.int .i64 w, wv x, wv y] H = some (.bool (decide ((msk (wd w)).toNat < x.toNat + y.toNat)), H) := by
  refine (zkj E0 rfl _ _ _ H).trans ?_
  unfold zgn
  have hm := (msk (wd w)).isLt
  have hx := x.isLt
  have hy := y.isLt
  rw [zae (x_add64 x y H), x01, zay, zag]
  by_cases h : (((x.toNat + y.toNat) / 18446744073709551616 : Nat) : Int) = 1
  · rw [decide_eq_true h, zap, decide_eq_true (by omega)]
  · rw [decide_eq_false h, zan, zae (c26 hw H), zhK]
    have e : (x + y).toNat = x.toNat + y.toNat := by
      rw [BitVec.toNat_add]
      exact Nat.mod_eq_of_lt (by omega)
    rw [e]
theorem q_over {w : Int} (h0 : 0 ≤ w) (hw : w ≤ 64) {x : W64} (hx : x.toNat ≤ (msk (wd w)).toNat) (y : W64) (H : Hp) : RR F.a67 [.int .i64 w, wv x, wv y] H = some (.bool (decide ((msk (wd w)).toNat < x.toNat + y.toNat)), H) := by
  refine (zgw E0 rfl _ _ _ H).trans ?_
  unfold zdG
  rw [zae (c11 h0 hw H), zc7, zhK]
  have e : (msk (wd w) - x).toNat = (msk (wd w)).toNat - x.toNat := BitVec.toNat_sub_of_le hx
  rw [e]
  congr 3
  exact decide_eq_decide.2 (by omega)
def sumF (a b : Fct) : Fct :=
  let f := ripF a b false (wd a.w)
  if (decide ((msk (wd a.w)).toNat < a.top.toNat + b.top.toNat) == decide ((msk (wd a.w)).toNat < a.least.toNat + b.least.toNat)) = true then { f with least := (a.least + b.least) &&& msk (wd a.w), top := (a.top + b.top) &&& msk (wd a.w) } else f
theorem q_sum {a b : Fct} (ha : ∀ i, exl (a.one.getLsbD i) (a.zero.getLsbD i)) (hb : ∀ i, exl (b.one.getLsbD i) (b.zero.getLsbD i)) (h0 : 1 ≤ a.w) (hw : a.w ≤ 64) (hl : a.least.toNat ≤ (msk (wd a.w)).toNat) (ht : a.top.toNat ≤ (msk (wd a.w)).toNat) (H : Hp) : RR F.a108 [a.val, b.val] H = some ((sumF a b).val, H) := by
  have hr := zg8 E0 rfl a.val b.val H
  unfold zd6 at hr
  have hrip : RR F.a29 [a.val, b.val, .int .i64 0] H = _ := zoB ha hb false h0 hw H
  rw [zak, zak, zae hrip, sp_0, f_w, zae (c11 (by omega) hw H), f_w, zaK, zaK, zae (q_over (by omega) hw ht b.top H), f_w, zas, zas, zae (q_over (by omega) hw hl b.least H), s_beql T.bool _ _ und4, zag] at hr
  unfold sumF
  dsimp only
  cases h : (decide ((msk (wd a.w)).toNat < a.top.toNat + b.top.toNat) == decide ((msk (wd a.w)).toNat < a.least.toNat + b.least.toNat)) with
  | true =>
    rw [h, zap, zas, zas, zgV, zba, za5, zaK, zaK, zgV, zba, zbt, zak, sp_0, zak] at hr
    rw [if_pos rfl]; exact hr
  | false =>
    rw [h, zan, zak, sp_0, zak] at hr
    rw [if_neg (by decide)]; exact hr
theorem p_sum {a b : Fct} (hw : a.w ≤ 64) (hla : a.least.toNat ≤ a.top.toNat) (hlb : b.least.toNat ≤ b.top.toNat) (H : Hp) : RR F.a120 [a.val, b.val] H = some ((sumF a b).val, H) := by
  have hr := znz E0 rfl a.val b.val H
  unfold zjF at hr
  have e0 : ∀ x : W64, (0#64) &&& x = 0#64 := fun x => BitVec.zero_and
  have hraw := zmE hw 0#64 0#64 H
  rw [e0] at hraw
  have hraw' : RR F.a11 [.int .i64 a.w, .int .u64 0, .int .u64 0] H = _ := hraw
  have hcar := zmF a b false hw H
  rw [f_w, zae hraw', sp_0, zak, zak, zae hcar, x01, zb3, zbs, zae (c26 hw H), zaK, zaK, zae (zoM hw a.top b.top H), za4, zag] at hr
  unfold sumF
  dsimp only
  by_cases h1 : (msk (wd a.w)).toNat < a.top.toNat + b.top.toNat
  · rw [decide_eq_true h1, show (!true) = false from rfl, zan, zas, zas, zae (zoM hw a.least b.least H), zag] at hr
    by_cases h2 : (msk (wd a.w)).toNat < a.least.toNat + b.least.toNat
    · rw [decide_eq_true h2, zap, zas, zas, zgV, zba, zaK, zaK, zgV, zba, za5, zbt, zak, sp_0, zak] at hr
      rw [decide_eq_true h1, decide_eq_true h2, if_pos (by decide)]; exact hr
    · rw [decide_eq_false h2, zan, zak, sp_0, zak] at hr
      rw [decide_eq_true h1, decide_eq_false h2, if_neg (by decide)]; exact hr
  · have h2 : ¬ (msk (wd a.w)).toNat < a.least.toNat + b.least.toNat := by omega
    rw [decide_eq_false h1, show (!false) = true from rfl, zap, zas, zas, zgV, zba, zaK, zaK, zgV, zba, za5, zbt, zak, sp_0, zak] at hr
    rw [decide_eq_false h1, decide_eq_false h2, if_pos (by decide)]; exact hr
end Go.AM.N14
namespace Go.AM.N14
open Go Go.AM
def zpn (b : Bool) (k : Option Bool) : Option Bool := match some b with | some true => k | r => r
theorem eq24c (f g : Fct) : eqT PP 10000 T.api_Fact f.val g.val =
    zpn (f.w == g.w) (zpn ((f.one.toNat : Int) == (g.one.toNat : Int)) (zpn ((f.zero.toNat : Int) == (g.zero.toNat : Int)) (zpn ((f.least.toNat : Int) == (g.least.toNat : Int)) (zpn ((f.top.toNat : Int) == (g.top.toNat : Int)) (some true))))) := by kernel_rfl
theorem thenF_eq (b : Bool) (c : Bool) : zpn b (some c) = some (b && c) := by cases b <;> rfl
instance : DecidableEq Fct := fun f g => decidable_of_iff (f.w = g.w ∧ f.one = g.one ∧ f.zero = g.zero ∧ f.least = g.least ∧ f.top = g.top) (by
  cases f; cases g; simp)
theorem eq24 (f g : Fct) : eqT PP 10000 T.api_Fact f.val g.val = some (decide (f = g)) := by
  rw [eq24c]
  have key : ∀ a b : W64, ((a.toNat : Int) == (b.toNat : Int)) = decide (a = b) := fun a b => by
    rw [Bool.eq_iff_iff, decide_eq_true_eq]
    simp only [beq_iff_eq]
    exact ⟨fun h => BitVec.eq_of_toNat_eq (by omega), fun h => by rw [h]⟩
  have keyw : (f.w == g.w) = decide (f.w = g.w) := by rw [Bool.eq_iff_iff, decide_eq_true_eq]; simp
  simp only [key, keyw, thenF_eq]
  congr 1
  rw [Bool.eq_iff_iff]
  obtain ⟨w, a, b, c, d⟩ := f
  obtain ⟨w', a', b', c', d'⟩ := g
  simp
section
variable {α : Type}
theorem grd24 : PP.eqGuardType PP.depth T.api_Fact = false := by kernel_rfl
theorem eq24m (f g : Fct) : eqT PP Op.maxDepth T.api_Fact f.val g.val = some (decide (f = g)) := by
  have e : Op.maxDepth = 10000 := rfl
  rw [e]; exact eq24 f g
theorem f_eqOp (f g : Fct) : eqOp PP T.api_Fact f.val g.val = some (decide (f = g)) := by
  have h := eq24m f g
  unfold eqOp Fct.val
  simp only [grd24]
  exact h
theorem f_eql (f g : Fct) (k : Value → Option α) : pBin PP .eql T.api_Fact f.val g.val k = k (.bool (decide (f = g))) := by
  have h := f_eqOp f g
  unfold Fct.val at h
  unfold pBin binV Fct.val
  simp only [h]
end
theorem Stl.fit {f g : Fct} (hf : f.May) (h : Stl f g) {t : W64} (ht : Fit g.one g.zero t) : Fit f.one f.zero t := by
  have hn := zbf hf.w64
  intro j
  constructor
  · intro hj
    refine (ht j).1 ((h.one j).2 ⟨?_, fun t ht => (ht.1 j).1 hj⟩)
    rcases Nat.lt_or_ge j (wd f.w) with q | q
    · exact q
    · rw [(zaQ hn).1 hf.one j q] at hj; cases hj
  · intro hj
    refine (ht j).2 ((h.zero j).2 ⟨?_, fun t ht => (ht.1 j).2 hj⟩)
    rcases Nat.lt_or_ge j (wd f.w) with q | q
    · exact q
    · rw [(zaQ hn).1 hf.zero j q] at hj; cases hj
theorem Stl.mem {f g : Fct} (hf : f.May) (h : Stl f g) (t : W64) : Mem g t ↔ Mem f t := by
  constructor
  · intro ht
    exact ⟨h.fit hf ht.1, Nat.le_trans h.lo.2.1 ht.2.1, Nat.le_trans ht.2.2 h.hi.2.2⟩
  · intro ht
    exact ⟨fun j => ⟨fun hj => ((h.one j).1 hj).2 t ht, fun hj => ((h.zero j).1 hj).2 t ht⟩, h.all t ht⟩
theorem Stl.may {f g : Fct} (hf : f.May) (h : Stl f g) : g.May := by
  have hn := zbf hf.w64
  refine ⟨by rw [h.w]; exact hf.w0, by rw [h.w]; exact hf.w64, ?_, ?_, by rw [h.w]; exact h.lo.le hf, by rw [h.w]; exact h.hi.le hf⟩
  · rw [h.w]
    refine (zaQ hn).2 fun j hj => ?_
    cases q : g.one.getLsbD j with
    | false => rfl
    | true => have := ((h.one j).1 q).1; omega
  · rw [h.w]
    refine (zaQ hn).2 fun j hj => ?_
    cases q : g.zero.getLsbD j with
    | false => rfl
    | true => have := ((h.zero j).1 q).1; omega
theorem zpe {a b : Bool} (h : a = true ↔ b = true) : a = b := Bool.eq_iff_iff.2 h
theorem Stl.same {f f' g h : Fct} (hw : f.w = f'.w) (hm : ∀ t, Mem f t ↔ Mem f' t) (h1 : Stl f g) (h2 : Stl f' h) : g = h := by
  have e1 : g.w = h.w := by rw [h1.w, h2.w, hw]
  have e2 : g.least = h.least := BitVec.eq_of_toNat_eq (by
    have := (h1.all h.least ((hm _).2 h2.lo)).1
    have := (h2.all g.least ((hm _).1 h1.lo)).1
    omega)
  have e3 : g.top = h.top := BitVec.eq_of_toNat_eq (by
    have := (h1.all h.top ((hm _).2 h2.hi)).2
    have := (h2.all g.top ((hm _).1 h1.hi)).2
    omega)
  have e4 : g.one = h.one := zbL fun j => zpe (by
    rw [h1.one, h2.one, hw]
    exact ⟨fun ⟨a, b⟩ => ⟨a, fun t ht => b t ((hm t).2 ht)⟩, fun ⟨a, b⟩ => ⟨a, fun t ht => b t ((hm t).1 ht)⟩⟩)
  have e5 : g.zero = h.zero := zbL fun j => zpe (by
    rw [h1.zero, h2.zero, hw]
    exact ⟨fun ⟨a, b⟩ => ⟨a, fun t ht => b t ((hm t).2 ht)⟩, fun ⟨a, b⟩ => ⟨a, fun t ht => b t ((hm t).1 ht)⟩⟩)
  cases g; cases h
  simp only at e1 e2 e3 e4 e5
  rw [e1, e2, e3, e4, e5]
def SetR (f g : Fct) (e : Int) : Prop := (¬ f.May ∧ g = F0 ∧ e = 5) ∨ (f.May ∧ (∀ t, ¬ Mem f t) ∧ g = F0 ∧ e = 1) ∨ (f.May ∧ Stl f g ∧ e = 0)
theorem c20 (f : Fct) (H : Hp) : ∃ g e, SetR f g e ∧ R F.a7 [f.val] H = some (.tuple #[g.val, .int .i64 e], H) := by
  have hr := zkl E0 rfl f.val H
  unfold zgp at hr
  rw [zak, zae (c19 f H), za4, zag, s_br] at hr
  by_cases hf : f.May
  case neg =>
    rw [if_pos (by simp [hf]), zcZ, sp_0, zak] at hr
    exact ⟨F0, 5, .inl ⟨hf, rfl, rfl⟩, hr⟩
  rw [if_neg (by simp [hf]), zak] at hr
  rcases c33 hf H with ⟨g, h1, h2⟩ | ⟨h1, h2⟩
  · rw [zae h2, zcN, zcM, sp_0, za4, zag, s_br, if_neg (by decide), zak, sp_0, zak] at hr
    exact ⟨g, 0, .inr (.inr ⟨hf, h1, rfl⟩), hr⟩
  · rw [zae h2, zcN, zcM, sp_0, za4, zag, s_br, if_pos (by decide), zcZ, sp_0, zak] at hr
    exact ⟨F0, 1, .inr (.inl ⟨hf, h1, rfl, rfl⟩), hr⟩
end Go.AM.N14
namespace Go.AM.N14
open Go Go.AM
section
variable {α : Type}
theorem x_30 (a b c : Value) (k : Value → Option α) : zah (.tuple #[a, b, c]) 0 k = k a := rfl
theorem x_31 (a b c : Value) (k : Value → Option α) : zah (.tuple #[a, b, c]) 1 k = k b := rfl
theorem x_32 (a b c : Value) (k : Value → Option α) : zah (.tuple #[a, b, c]) 2 k = k c := rfl
theorem zoX (a b : W64) (k : Value → Option α) : pMM true [wv a, wv b] k = k (wv (if a.toNat < b.toNat then b else a)) := by
  have : mm true (wv a) (wv b) = some (wv (if a.toNat < b.toNat then b else a)) := by
    show some (Value.int .u64 (if (b.toNat : Int) > (a.toNat : Int) then (b.toNat : Int) else (a.toNat : Int))) = _
    by_cases h : a.toNat < b.toNat
    · rw [if_pos (by omega), if_pos h]; rfl
    · rw [if_neg (by omega), if_neg h]; rfl
  simp only [pMM, mmL, this]
theorem zmR (a b : W64) (k : Value → Option α) : pMM false [wv a, wv b] k = k (wv (if b.toNat < a.toNat then b else a)) := by
  have : mm false (wv a) (wv b) = some (wv (if b.toNat < a.toNat then b else a)) := by
    show some (Value.int .u64 (if (b.toNat : Int) < (a.toNat : Int) then (b.toNat : Int) else (a.toNat : Int))) = _
    by_cases h : b.toNat < a.toNat
    · rw [if_pos (by omega), if_pos h]; rfl
    · rw [if_neg (by omega), if_neg h]; rfl
  simp only [pMM, mmL, this]
end
structure Sd (f : Fct) : Prop where
  may : f.May
  stl : Stl f f
theorem Stl.sd {f g : Fct} (hf : f.May) (h : Stl f g) : Sd g := by
  refine ⟨h.may hf, ⟨rfl, (h.mem hf _).2 h.lo, (h.mem hf _).2 h.hi, fun t ht => h.all t ((h.mem hf t).1 ht), fun j => ?_, fun j => ?_⟩⟩
  · rw [h.one, h.w]
    exact ⟨fun ⟨a, b⟩ => ⟨a, fun t ht => b t ((h.mem hf t).1 ht)⟩, fun ⟨a, b⟩ => ⟨a, fun t ht => b t ((h.mem hf t).2 ht)⟩⟩
  · rw [h.zero, h.w]
    exact ⟨fun ⟨a, b⟩ => ⟨a, fun t ht => b t ((h.mem hf t).1 ht)⟩, fun ⟨a, b⟩ => ⟨a, fun t ht => b t ((h.mem hf t).2 ht)⟩⟩
def TwoR (f g x y : Fct) (e : Int) : Prop :=
  (¬ (f.May ∧ g.May ∧ f.w = g.w) ∧ x = f ∧ y = g ∧ e = 5) ∨
  ((f.May ∧ g.May ∧ f.w = g.w) ∧ ((∀ t, ¬ Mem f t) ∨ ∀ t, ¬ Mem g t) ∧ x = f ∧ y = g ∧ e = 1) ∨
  ((f.May ∧ g.May ∧ f.w = g.w) ∧ Stl f x ∧ Stl g y ∧ e = 0)
theorem c29 (f g : Fct) (H : Hp) : ∃ x y e, TwoR f g x y e ∧ R F.a121 [f.val, g.val] H = some (.tuple #[x.val, y.val, .int .i64 e], H) := by
  have hr := zny E0 rfl f.val g.val H
  unfold zjE at hr
  rw [zak, zae (c19 f H), za4, zag, s_br] at hr
  by_cases hf : f.May
  case neg =>
    rw [if_pos (by simp [hf]), zak, zak, sp_0, sp_0, zak, zak, zao, zbM] at hr
    exact ⟨f, g, 5, .inl ⟨fun q => hf q.1, rfl, rfl, rfl⟩, hr⟩
  rw [if_neg (by simp [hf]), zak, zae (c19 g H), za4, zag, s_br] at hr
  by_cases hg : g.May
  case neg =>
    rw [if_pos (by simp [hg]), zak, zak, sp_0, sp_0, zak, zak, zao, zbM] at hr
    exact ⟨f, g, 5, .inl ⟨fun q => hg q.2.1, rfl, rfl, rfl⟩, hr⟩
  rw [if_neg (by simp [hg]), f_w, f_w, zbY, zag, s_br] at hr
  by_cases hw : f.w = g.w
  case neg =>
    rw [if_pos (by simp [hw]), zak, zak, sp_0, sp_0, zak, zak, zao, zbM] at hr
    exact ⟨f, g, 5, .inl ⟨fun q => hw q.2.2, rfl, rfl, rfl⟩, hr⟩
  have hall : f.May ∧ g.May ∧ f.w = g.w := ⟨hf, hg, hw⟩
  rw [if_neg (by simp [hw]), zao, zai, zak] at hr
  simp only [V0_val, qd0, qg0, qg1] at hr
  rcases c33 hf H with ⟨x, h1, h2⟩ | ⟨h1, h2⟩
  · rw [zae h2, zcN, zcM, sp_0, zak] at hr
    rcases c33 hg H with ⟨y, h3, h4⟩ | ⟨h3, h4⟩
    · rw [zae h4, zcN, zcM, sp_0, za4, zag, s_br, if_neg (by decide), za4, zag, s_br, if_neg (by decide), zak, zak, sp_f, sp_f, zak, zak] at hr
      exact ⟨x, y, 0, .inr (.inr ⟨hall, h1, h3, rfl⟩), hr⟩
    · rw [zae h4, zcN, zcM, sp_0, za4, zag, s_br, if_neg (by decide), za4, zag, s_br, if_pos (by decide), zak, zak, sp_f, sp_f, zak, zak] at hr
      exact ⟨f, g, 1, .inr (.inl ⟨hall, .inr h3, rfl, rfl, rfl⟩), hr⟩
  · rw [zae h2, zcN, zcM, sp_0, zak] at hr
    rcases c33 hg H with ⟨y, h3, h4⟩ | ⟨h3, h4⟩
    · rw [zae h4, zcN, zcM, sp_0, za4, zag, s_br, if_pos (by decide), zak, zak, sp_f, sp_f, zak, zak] at hr
      exact ⟨f, g, 1, .inr (.inl ⟨hall, .inl h1, rfl, rfl, rfl⟩), hr⟩
    · rw [zae h4, zcN, zcM, sp_0, za4, zag, s_br, if_pos (by decide), zak, zak, sp_f, sp_f, zak, zak] at hr
      exact ⟨f, g, 1, .inr (.inl ⟨hall, .inl h1, rfl, rfl, rfl⟩), hr⟩
def zbS (x y : Fct) : Fct := ⟨x.w, x.one &&& y.one, x.zero &&& y.zero, if y.least.toNat < x.least.toNat then y.least else x.least, if x.top.toNat < y.top.toNat then y.top else x.top⟩
theorem c30 (x y : Fct) (H : Hp) : R F.a51 [x.val, y.val] H = some ((zbS x y).val, H) := by
  refine (zmq E0 rfl _ _ H).trans ?_
  unfold ziq
  simp only [f_w, zaX, zaD, zas, zaK, zba, zoX, zmR, b_5, sp_0, zak]
  rfl
def meetF (x y : Fct) : Fct := ⟨x.w, x.one ||| y.one, x.zero ||| y.zero, if x.least.toNat < y.least.toNat then y.least else x.least, if y.top.toNat < x.top.toNat then y.top else x.top⟩
theorem c14 (f g : Fct) (H : Hp) : ∃ x y e p e', TwoR f g x y e ∧ (e = 0 → SetR (meetF x y) p e') ∧ R F.a74 [f.val, g.val] H = some (.tuple #[(if e = 0 then p else F0).val, .int .i64 (if e = 0 then e' else e)], H) := by
  obtain ⟨x, y, e, h1, h2⟩ := c29 f g H
  obtain ⟨p, e', h3, h4⟩ := c20 (meetF x y) H
  refine ⟨x, y, e, p, e', h1, fun _ => h3, (zms E0 rfl _ _ H).trans ?_⟩
  unfold zit
  rw [zak, zak, zae h2, x_30, x_31, x_32, sp_0, sp_0, zbY, zag, s_br]
  by_cases he : e = 0
  · subst he
    rw [if_neg (by decide)]
    simp only [f_w, zaX, zaD, zas, zaK, b_or, zoX, zmR, b_5]
    have h4 : R F.a7 [Fct.val ⟨x.w, x.one ||| y.one, x.zero ||| y.zero, if x.least.toNat < y.least.toNat then y.least else x.least, if y.top.toNat < x.top.toNat then y.top else x.top⟩] H = some (.tuple #[p.val, .int .i64 e'], H) := h4
    rw [zae h4, zcN, zcM, sp_0, zak]; rfl
  · rw [if_pos (by simp [he]), zcZ, sp_0, zak, if_neg he, if_neg he]
theorem join_sd {x y : Fct} (hx : Sd x) (hy : Sd y) (hw : x.w = y.w) : Sd (zbS x y) ∧ (∀ t, Mem x t → Mem (zbS x y) t) ∧ ∀ t, Mem y t → Mem (zbS x y) t := by
  have hn := zbf hx.may.w64
  have lx : (zbS x y).least.toNat ≤ x.least.toNat ∧ (zbS x y).least.toNat ≤ y.least.toNat := by unfold zbS; dsimp only; split <;> omega
  have tx : x.top.toNat ≤ (zbS x y).top.toNat ∧ y.top.toNat ≤ (zbS x y).top.toNat := by unfold zbS; dsimp only; split <;> omega
  have m1 : ∀ t, Mem x t → Mem (zbS x y) t := fun t ht => by
    refine ⟨fun j => ⟨fun h => ?_, fun h => ?_⟩, Nat.le_trans lx.1 ht.2.1, Nat.le_trans ht.2.2 tx.1⟩
    · have h : (x.one &&& y.one).getLsbD j = true := h
      rw [BitVec.getLsbD_and, Bool.and_eq_true] at h; exact (ht.1 j).1 h.1
    · have h : (x.zero &&& y.zero).getLsbD j = true := h
      rw [BitVec.getLsbD_and, Bool.and_eq_true] at h; exact (ht.1 j).2 h.1
  have m2 : ∀ t, Mem y t → Mem (zbS x y) t := fun t ht => by
    refine ⟨fun j => ⟨fun h => ?_, fun h => ?_⟩, Nat.le_trans lx.2 ht.2.1, Nat.le_trans ht.2.2 tx.2⟩
    · have h : (x.one &&& y.one).getLsbD j = true := h
      rw [BitVec.getLsbD_and, Bool.and_eq_true] at h; exact (ht.1 j).1 h.2
    · have h : (x.zero &&& y.zero).getLsbD j = true := h
      rw [BitVec.getLsbD_and, Bool.and_eq_true] at h; exact (ht.1 j).2 h.2
  have hlo : Mem (zbS x y) (zbS x y).least := by
    have : (zbS x y).least = x.least ∨ (zbS x y).least = y.least := by unfold zbS; dsimp only; split <;> simp
    rcases this with e | e <;> rw [e]
    · exact m1 _ hx.stl.lo
    · exact m2 _ hy.stl.lo
  have hhi : Mem (zbS x y) (zbS x y).top := by
    have : (zbS x y).top = x.top ∨ (zbS x y).top = y.top := by unfold zbS; dsimp only; split <;> simp
    rcases this with e | e <;> rw [e]
    · exact m1 _ hx.stl.hi
    · exact m2 _ hy.stl.hi
  have hone : ∀ j, (zbS x y).one.getLsbD j = true ↔ (j < wd x.w ∧ (∀ t, Mem (zbS x y) t → t.getLsbD j = true)) := fun j => by
    constructor
    · intro h
      have h' : (x.one &&& y.one).getLsbD j = true := h
      rw [BitVec.getLsbD_and, Bool.and_eq_true] at h'
      exact ⟨((hx.stl.one j).1 h'.1).1, fun t ht => (ht.1 j).1 h⟩
    · rintro ⟨a, b⟩
      show (x.one &&& y.one).getLsbD j = true
      rw [BitVec.getLsbD_and, Bool.and_eq_true]
      exact ⟨(hx.stl.one j).2 ⟨a, fun t ht => b t (m1 t ht)⟩, (hy.stl.one j).2 ⟨hw ▸ a, fun t ht => b t (m2 t ht)⟩⟩
  have hzero : ∀ j, (zbS x y).zero.getLsbD j = true ↔ (j < wd x.w ∧ (∀ t, Mem (zbS x y) t → t.getLsbD j = false)) := fun j => by
    constructor
    · intro h
      have h' : (x.zero &&& y.zero).getLsbD j = true := h
      rw [BitVec.getLsbD_and, Bool.and_eq_true] at h'
      exact ⟨((hx.stl.zero j).1 h'.1).1, fun t ht => (ht.1 j).2 h⟩
    · rintro ⟨a, b⟩
      show (x.zero &&& y.zero).getLsbD j = true
      rw [BitVec.getLsbD_and, Bool.and_eq_true]
      exact ⟨(hx.stl.zero j).2 ⟨a, fun t ht => b t (m1 t ht)⟩, (hy.stl.zero j).2 ⟨hw ▸ a, fun t ht => b t (m2 t ht)⟩⟩
  have hst : Stl (zbS x y) (zbS x y) := ⟨rfl, hlo, hhi, fun t ht => ht.2, hone, hzero⟩
  refine ⟨⟨⟨hx.may.w0, hx.may.w64, ?_, ?_, ?_, ?_⟩, hst⟩, m1, m2⟩
  · refine (zaQ hn).2 fun j hj => ?_
    cases q : (zbS x y).one.getLsbD j with
    | false => rfl
    | true => have := ((hone j).1 q).1; exact absurd this (by show ¬ j < wd x.w; exact Nat.not_lt.2 hj)
  · refine (zaQ hn).2 fun j hj => ?_
    cases q : (zbS x y).zero.getLsbD j with
    | false => rfl
    | true => have := ((hzero j).1 q).1; exact absurd this (by show ¬ j < wd x.w; exact Nat.not_lt.2 hj)
  · exact Nat.le_trans lx.1 hx.may.least
  · show (zbS x y).top.toNat ≤ (msk (wd x.w)).toNat
    have a := hx.may.top
    have b := hy.may.top
    rw [← hw] at b
    unfold zbS; dsimp only; split <;> omega
end Go.AM.N14
namespace Go.AM.N14
open Go Go.AM
section
variable {α : Type}
theorem i_inc (T : TypeId) (i : Nat) (hi : i < 1000) (k : Value → Option α) : pBin PP .add T (.int .i64 (i : Int)) (.int .i64 1) k = k (.int .i64 ((i + 1 : Nat) : Int)) := by
  rw [za6, zhX (by omega) (by omega)]; rfl
theorem i_m1 (T : TypeId) (k : Value → Option α) : pBin PP .add T (.int .i64 (-1)) (.int .i64 1) k = k (.int .i64 ((0 : Nat) : Int)) := rfl
end
theorem zmi {f : Fct} (h0 : 0 ≤ f.w) (H : Hp) : zaM R f.val [.int .i64 (-1)] H = if Fit f.one f.zero f.least then some (.ret, [.tuple #[wv f.least, .bool (decide (f.least.toNat ≤ f.top.toNat))]], H) else some (.next, [.int .i64 ((0 : Nat) : Int)], H) := by
  have hp := zc9 f.w
  unfold zaM
  simp only [qg0, f_w, zae (c28 h0 H), zbj, zag, s_br, decide_eq_true_eq, zas, zbg, zak, zae (c25 f f.least H), zaK, zhJ, i_m1]
  rw [if_pos (by omega), if_neg (by omega)]
theorem s34_step {f : Fct} (h0 : 0 ≤ f.w) (hw : f.w ≤ 64) {i : Nat} (hi : i < wd f.w) (H : Hp) : zaM R f.val [.int .i64 (i : Int)] H =
    if f.least.getLsbD i = true then some (.next, [.int .i64 ((i + 1 : Nat) : Int)], H)
    else if Fit f.one f.zero (zfI f.one f.least i) then some (.ret, [.tuple #[wv (zfI f.one f.least i), .bool (decide ((zfI f.one f.least i).toNat ≤ f.top.toNat))]], H) else some (.next, [.int .i64 ((i + 1 : Nat) : Int)], H) := by
  have hn := zbf hw
  have hc : f.least &&& ~~~(msk (i + 1)) ||| (1#64) <<< i ||| (f.one &&& msk i) = zfI f.one f.least i := rfl
  unfold zaM
  simp only [qg0, f_w, zae (c28 h0 H), zbj, zag, s_br, decide_eq_true_eq, zas, zbg, zak, zaK, zaX, zhJ, zae (c47 f.least i (by omega) H), i_inc _ i (by omega), zae (c48 (i + 1) (by omega) H), zae (c48 i (by omega) H), zbR, cu64 i (by omega), u_1, zb2, b_or, zba, hc, zae (c25 f _ H)]
  rw [if_pos (by omega), if_pos (by omega)]
theorem s34_end {f : Fct} (h0 : 0 ≤ f.w) (hw : f.w ≤ 64) (H : Hp) : zaM R f.val [.int .i64 ((wd f.w : Nat) : Int)] H = some (.exit 0, [.int .i64 ((wd f.w : Nat) : Int)], H) := by
  unfold zaM
  simp only [qg0, f_w, zae (c28 h0 H), zbj, zag, s_br, decide_eq_true_eq]
  rw [if_neg (by omega)]
theorem zom {o z x : W64} {n i : Nat} (hn : n ≤ 64) (hi : i < n) (hx : x.toNat ≤ (msk n).toNat) (hnf : ¬ Fit o z x) (hb : ∀ j, j < i → x.getLsbD j = false → ¬ Fit o z (zfI o x j)) (h1 : x.getLsbD i = false) (h2 : Fit o z (zfI o x i)) :
    Up o z x n (some (zfI o x i)) := by
  have hc := ziY o x (show i < 64 by omega)
  refine ⟨h2, Nat.le_of_lt (hc.lt h1), (zaQ hn).2 fun j hj => ?_, fun t ht hle => ?_⟩
  · rw [hc.hi j (by omega)]; exact (zaQ hn).1 hx j hj
  · obtain ⟨j, j1, j2, j3, j4, j5, j6⟩ := part ht (zdr hnf ht hle)
    have hij : i ≤ j := by
      rcases Nat.lt_or_ge j i with q | q
      · exact absurd ((ziY o x j1).fit ht.dis j4 j6) (hb j q j2)
      · exact q
    exact hc.le ht j2 j3 j5 hij
theorem zks {o z x : W64} {n : Nat} (hn : n ≤ 64) (hnf : ¬ Fit o z x) (hb : ∀ j, j < n → x.getLsbD j = false → ¬ Fit o z (zfI o x j)) : Up o z x n none := fun t ht h1 h2 => by
  obtain ⟨j, j1, j2, j3, j4, j5, j6⟩ := part ht (zdr hnf ht h1)
  have hj : j < n := by
    rcases Nat.lt_or_ge j n with q | q
    · exact q
    · rw [(zaQ hn).1 h2 j q] at j3; cases j3
  exact hb j hj j2 ((ziY o x j1).fit ht.dis j4 j6)
theorem loop34 {f : Fct} (h0 : 0 ≤ f.w) (hw : f.w ≤ 64) (hl : f.least.toNat ≤ (msk (wd f.w)).toNat) (hnf : ¬ Fit f.one f.zero f.least) (H : Hp) :
    ∀ (d i : Nat), i + d = wd f.w → (∀ j, j < i → f.least.getLsbD j = false → ¬ Fit f.one f.zero (zfI f.one f.least j)) →
    ∃ r, Up f.one f.zero f.least (wd f.w) r ∧ zaA (zaM R f.val) [.int .i64 (i : Int)] H = some (match r with
      | some y => (.ret, [.tuple #[wv y, .bool (decide (y.toNat ≤ f.top.toNat))]], H)
      | none => (.exit 0, [.int .i64 ((wd f.w : Nat) : Int)], H))
  | 0, i, hd, hb => by
    have hn := zbf hw
    obtain rfl : i = wd f.w := by omega
    exact ⟨none, zks hn hnf hb, by rw [zaq, s34_end h0 hw]; rfl⟩
  | d + 1, i, hd, hb => by
    have hn := zbf hw
    rw [zaq, s34_step h0 hw (show i < wd f.w by omega)]
    by_cases h1 : f.least.getLsbD i = true
    · rw [if_pos h1]
      obtain ⟨r, r1, r2⟩ := loop34 h0 hw hl hnf H d (i + 1) (by omega) (fun j hj hf => by
        rcases Nat.lt_or_eq_of_le (Nat.le_of_lt_succ hj) with q | q
        · exact hb j q hf
        · subst q; rw [h1] at hf; cases hf)
      exact ⟨r, r1, r2⟩
    rw [if_neg h1]
    have h1 : f.least.getLsbD i = false := by simpa using h1
    by_cases h2 : Fit f.one f.zero (zfI f.one f.least i)
    · rw [if_pos h2]
      exact ⟨some (zfI f.one f.least i), zom hn (by omega) hl hnf hb h1 h2, rfl⟩
    · rw [if_neg h2]
      obtain ⟨r, r1, r2⟩ := loop34 h0 hw hl hnf H d (i + 1) (by omega) (fun j hj hf => by
        rcases Nat.lt_or_eq_of_le (Nat.le_of_lt_succ hj) with q | q
        · exact hb j q hf
        · subst q; exact h2)
      exact ⟨r, r1, r2⟩
theorem c34 {f : Fct} (h0 : 0 ≤ f.w) (hw : f.w ≤ 64) (hl : f.least.toNat ≤ (msk (wd f.w)).toNat) (H : Hp) : ∃ r, Up f.one f.zero f.least (wd f.w) r ∧
    R F.a14 [f.val] H = some (.tuple #[wv (r.getD 0#64), .bool (match r with | some y => decide (y.toNat ≤ f.top.toNat) | none => false)], H) := by
  have hr := (zfV E0 rfl f.val H).trans (zf6 _ _ _)
  by_cases hf : Fit f.one f.zero f.least
  · rw [zaq, zmi h0, if_pos hf] at hr
    exact ⟨some f.least, up_fit hl hf, hr⟩
  · rw [zaq, zmi h0, if_neg hf] at hr
    obtain ⟨r, r1, r2⟩ := loop34 h0 hw hl hf H (wd f.w) 0 (by omega) (fun j hj => absurd hj (Nat.not_lt_zero _))
    have hr : R F.a14 [f.val] H = zaC (zaA (zaM R f.val) [.int .i64 ((0 : Nat) : Int)] H) _ := hr
    rw [r2] at hr
    refine ⟨r, r1, ?_⟩
    cases r with
    | none => exact hr
    | some y => exact hr
def zkq (z x : W64) (i : Nat) : W64 := x &&& ~~~(msk (i + 1)) ||| (msk i &&& ~~~z)
theorem zna (z x : W64) {i : Nat} (hi : i < 64) (j : Nat) : (zkq z x i).getLsbD j = if i < j then x.getLsbD j else if j = i then false else !z.getLsbD j := by
  unfold zkq
  rw [BitVec.getLsbD_or, zb6, zb6, zbe, zbe]
  rcases Nat.lt_trichotomy j i with q | q | q
  · rw [if_neg (by omega), if_neg (by omega)]; simp [show j < 64 by omega, q, show j < i + 1 by omega]
  · subst q; rw [if_neg (by omega), if_pos rfl]; simp [hi]
  · rw [if_pos q]; simp [show ¬ j < i by omega, show ¬ j < i + 1 by omega]
theorem candR_bit (o x : W64) {i : Nat} (hi : i < 64) (j : Nat) : (zfI o x i).getLsbD j = if i < j then x.getLsbD j else if j = i then true else o.getLsbD j := by
  have h := ziY o x hi
  rcases Nat.lt_trichotomy j i with q | q | q
  · rw [if_neg (by omega), if_neg (by omega), h.lo j q]
  · subst q; rw [if_neg (by omega), if_pos rfl, h.mid]
  · rw [if_pos q, h.hi j q]
theorem zpd {n : Nat} (hn : n ≤ 64) {z x : W64} (hx : x.toNat ≤ (msk n).toNat) {i : Nat} (hi : i < n) : (zkq z x i).toNat ≤ (msk n).toNat :=
  (zaQ hn).2 fun j hj => by rw [zna z x (by omega), if_pos (by omega)]; exact (zaQ hn).1 hx j hj
theorem zk4 {n : Nat} (hn : n ≤ 64) {z x : W64} {i : Nat} (hi : i < n) : msk n &&& ~~~(zkq z x i) = zfI z (msk n &&& ~~~x) i := zbL fun j => by
  rw [zb6, zna z x (by omega), candR_bit z _ (by omega), zb6, zbe]
  rcases Nat.lt_trichotomy j i with q | q | q
  · rw [if_neg (by omega), if_neg (by omega), if_neg (by omega), if_neg (by omega)]; simp [show j < 64 by omega, show j < n by omega]
  · subst q; simp [show j < 64 by omega, hi]
  · rw [if_pos q, if_pos q]
theorem zjR {n : Nat} (hn : n ≤ 64) {o z x : W64} (ho : o.toNat ≤ (msk n).toNat) (hz : z.toNat ≤ (msk n).toNat) (hx : x.toNat ≤ (msk n).toNat) : Fit z o (msk n &&& ~~~x) ↔ Fit o z x := by
  refine ⟨fun h => ?_, ziV hn ho hz⟩
  have := ziV hn hz ho h
  rwa [zm2 hn hx] at this
theorem zmh {f : Fct} (h0 : 0 ≤ f.w) (H : Hp) : zaH R f.val [.int .i64 (-1)] H = if Fit f.one f.zero f.top then some (.ret, [wv f.top], H) else some (.next, [.int .i64 ((0 : Nat) : Int)], H) := by
  have hp := zc9 f.w
  unfold zaH
  simp only [qg0, f_w, zae (c28 h0 H), zbj, zag, s_br, decide_eq_true_eq, zas, zbg, zak, zae (c25 f f.top H), zaK, zhJ, i_m1]
  rw [if_pos (by omega), if_neg (by omega)]
theorem s35_step {f : Fct} (h0 : 0 ≤ f.w) (hw : f.w ≤ 64) {i : Nat} (hi : i < wd f.w) (H : Hp) : zaH R f.val [.int .i64 (i : Int)] H =
    if f.top.getLsbD i = false then some (.next, [.int .i64 ((i + 1 : Nat) : Int)], H)
    else if Fit f.one f.zero (zkq f.zero f.top i) then some (.ret, [wv (zkq f.zero f.top i)], H) else some (.next, [.int .i64 ((i + 1 : Nat) : Int)], H) := by
  have hn := zbf hw
  have hc : f.top &&& ~~~(msk (i + 1)) ||| (msk i &&& ~~~f.zero) = zkq f.zero f.top i := rfl
  unfold zaH
  simp only [qg0, f_w, zae (c28 h0 H), zbj, zag, s_br, decide_eq_true_eq, zas, zbg, zak, zaK, zaD, zae (c47 f.top i (by omega) H), i_inc _ i (by omega), zae (c48 (i + 1) (by omega) H), zae (c48 i (by omega) H), zbR, b_or, zba, hc, zae (c25 f _ H), za4, Bool.not_eq_true']
  rw [if_pos (by omega), if_pos (by omega)]
theorem s35_end {f : Fct} (h0 : 0 ≤ f.w) (hw : f.w ≤ 64) (H : Hp) : zaH R f.val [.int .i64 ((wd f.w : Nat) : Int)] H = some (.exit 0, [.int .i64 ((wd f.w : Nat) : Int)], H) := by
  unfold zaH
  simp only [qg0, f_w, zae (c28 h0 H), zbj, zag, s_br, decide_eq_true_eq]
  rw [if_neg (by omega)]
theorem loop35 {f : Fct} (hf : f.May) (hnf : ¬ Fit f.one f.zero f.top) (H : Hp) :
    ∀ (d i : Nat), i + d = wd f.w → (∀ j, j < i → (msk (wd f.w) &&& ~~~f.top).getLsbD j = false → ¬ Fit f.zero f.one (zfI f.zero (msk (wd f.w) &&& ~~~f.top) j)) →
    ∃ r, Down f.one f.zero f.top (wd f.w) r ∧ zaA (zaH R f.val) [.int .i64 (i : Int)] H = some (match r with
      | some y => (.ret, [wv y], H)
      | none => (.exit 0, [.int .i64 ((wd f.w : Nat) : Int)], H))
  | 0, i, hd, hb => by
    have hn := zbf hf.w64
    obtain rfl : i = wd f.w := by omega
    have hnf' : ¬ Fit f.zero f.one (msk (wd f.w) &&& ~~~f.top) := fun h => hnf ((zjR hn hf.one hf.zero hf.top).1 h)
    exact ⟨none, zh6 hn hf.one hf.zero hf.top (zks hn hnf' hb), by rw [zaq, s35_end hf.w0 hf.w64]; rfl⟩
  | d + 1, i, hd, hb => by
    have hn := zbf hf.w64
    have hi : i < wd f.w := by omega
    have hnf' : ¬ Fit f.zero f.one (msk (wd f.w) &&& ~~~f.top) := fun h => hnf ((zjR hn hf.one hf.zero hf.top).1 h)
    have hbit : (msk (wd f.w) &&& ~~~f.top).getLsbD i = !f.top.getLsbD i := by rw [zb6, zbe]; simp [hi, show i < 64 by omega]
    rw [zaq, s35_step hf.w0 hf.w64 hi]
    have hfit : Fit f.zero f.one (zfI f.zero (msk (wd f.w) &&& ~~~f.top) i) ↔ Fit f.one f.zero (zkq f.zero f.top i) := by
      rw [← zk4 hn hi]; exact zjR hn hf.one hf.zero (zpd hn hf.top hi)
    by_cases h1 : f.top.getLsbD i = false
    · rw [if_pos h1]
      obtain ⟨r, r1, r2⟩ := loop35 hf hnf H d (i + 1) (by omega) (fun j hj hq => by
        rcases Nat.lt_or_eq_of_le (Nat.le_of_lt_succ hj) with q | q
        · exact hb j q hq
        · subst q; rw [hbit, h1] at hq; cases hq)
      exact ⟨r, r1, r2⟩
    rw [if_neg h1]
    by_cases h2 : Fit f.one f.zero (zkq f.zero f.top i)
    · rw [if_pos h2]
      have hu := zom hn hi (zn3 hn f.top) hnf' hb (by rw [hbit]; simpa using h1) (hfit.2 h2)
      have hd := zh6 hn hf.one hf.zero hf.top hu
      rw [Option.map_some, ← zk4 hn hi, zm2 hn (zpd hn hf.top hi)] at hd
      exact ⟨some (zkq f.zero f.top i), hd, rfl⟩
    · rw [if_neg h2]
      obtain ⟨r, r1, r2⟩ := loop35 hf hnf H d (i + 1) (by omega) (fun j hj hq => by
        rcases Nat.lt_or_eq_of_le (Nat.le_of_lt_succ hj) with q | q
        · exact hb j q hq
        · subst q; exact fun h => h2 (hfit.1 h))
      exact ⟨r, r1, r2⟩
theorem c35 {f : Fct} (hf : f.May) (H : Hp) : ∃ r, Down f.one f.zero f.top (wd f.w) r ∧ R F.a47 [f.val] H = some (wv (r.getD 0#64), H) := by
  have hr := (zeN E0 rfl f.val H).trans (zeS _ _ _)
  by_cases hq : Fit f.one f.zero f.top
  · rw [zaq, zmh hf.w0, if_pos hq] at hr
    exact ⟨some f.top, ⟨hq, Nat.le_refl _, fun t _ h => h⟩, hr⟩
  · rw [zaq, zmh hf.w0, if_neg hq] at hr
    obtain ⟨r, r1, r2⟩ := loop35 hf hq H (wd f.w) 0 (by omega) (fun j hj => absurd hj (Nat.not_lt_zero _))
    have hr : R F.a47 [f.val] H = zaC (zaA (zaH R f.val) [.int .i64 ((0 : Nat) : Int)] H) _ := hr
    rw [r2] at hr
    refine ⟨r, r1, ?_⟩
    cases r with
    | none => exact hr
    | some y => exact hr
end Go.AM.N14
namespace Go.AM.N14
open Go Go.AM
def zfE (f : Fct) (r : Option W64) : Bool := match r with | some y => decide (y.toNat ≤ f.top.toNat) | none => false
theorem zlT {f : Fct} {n : Nat} {r : Option W64} (h : Up f.one f.zero f.least n r) (ht : f.top.toNat ≤ (msk n).toNat) : zfE f r = true ↔ ∃ t, Mem f t := by
  cases r with
  | none => exact ⟨fun h => absurd (show false = true from h) (by decide), fun ⟨t, h1, h2, h3⟩ => (h t h1 h2 (by omega)).elim⟩
  | some y =>
    obtain ⟨h1, h2, h3, h4⟩ := h
    show decide _ = true ↔ _
    rw [decide_eq_true_eq]
    exact ⟨fun q => ⟨y, h1, h2, q⟩, fun ⟨t, t1, t2, t3⟩ => by have := h4 t t1 t2; omega⟩
theorem ze0.step {f g : Fct} {lo hi : W64} {i : Nat} (h64 : i < 64) (h : ze0 f g lo hi i) {g' : Fct} (hw : g'.w = g.w) (hl : g'.least = g.least) (ht : g'.top = g.top)
    {a b : Bool} (ha : a = true ↔ ∀ t, Mem f t → t.getLsbD i = true) (hb : b = true ↔ ∀ t, Mem f t → t.getLsbD i = false)
    (h1 : g'.one = if a = true then g.one ||| (1#64) <<< i else g.one) (h2 : g'.zero = if b = true then g.zero ||| (1#64) <<< i else g.zero) : ze0 f g' lo hi (i + 1) := by
  refine ⟨hw.trans h.w, hl.trans h.least, ht.trans h.top, fun j => ?_, fun j => ?_⟩
  · rw [h1]
    rcases Nat.lt_trichotomy j i with q | q | q
    · have e : (if a = true then g.one ||| (1#64) <<< i else g.one).getLsbD j = g.one.getLsbD j := by
        split
        · rw [zb1 g.one i j h64]; simp [show j ≠ i by omega]
        · rfl
      rw [e, h.one j]
      exact ⟨fun ⟨_, x⟩ => ⟨by omega, x⟩, fun ⟨_, x⟩ => ⟨q, x⟩⟩
    · subst q
      cases ha' : a with
      | true => rw [if_pos rfl, zb1 g.one j j h64]; simp; exact ha.1 ha'
      | false =>
        rw [if_neg (by decide), h.one j]
        exact ⟨fun ⟨x, _⟩ => absurd x (Nat.lt_irrefl _), fun ⟨_, x⟩ => by rw [ha.2 x] at ha'; cases ha'⟩
    · have e : (if a = true then g.one ||| (1#64) <<< i else g.one).getLsbD j = g.one.getLsbD j := by
        split
        · rw [zb1 g.one i j h64]; simp [show j ≠ i by omega]
        · rfl
      rw [e, h.one j]
      exact ⟨fun ⟨x, _⟩ => by omega, fun ⟨x, _⟩ => by omega⟩
  · rw [h2]
    rcases Nat.lt_trichotomy j i with q | q | q
    · have e : (if b = true then g.zero ||| (1#64) <<< i else g.zero).getLsbD j = g.zero.getLsbD j := by
        split
        · rw [zb1 g.zero i j h64]; simp [show j ≠ i by omega]
        · rfl
      rw [e, h.zero j]
      exact ⟨fun ⟨_, x⟩ => ⟨by omega, x⟩, fun ⟨_, x⟩ => ⟨q, x⟩⟩
    · subst q
      cases hb' : b with
      | true => rw [if_pos rfl, zb1 g.zero j j h64]; simp; exact hb.1 hb'
      | false =>
        rw [if_neg (by decide), h.zero j]
        exact ⟨fun ⟨x, _⟩ => absurd x (Nat.lt_irrefl _), fun ⟨_, x⟩ => by rw [hb.2 x] at hb'; cases hb'⟩
    · have e : (if b = true then g.zero ||| (1#64) <<< i else g.zero).getLsbD j = g.zero.getLsbD j := by
        split
        · rw [zb1 g.zero i j h64]; simp [show j ≠ i by omega]
        · rfl
      rw [e, h.zero j]
      exact ⟨fun ⟨x, _⟩ => by omega, fun ⟨x, _⟩ => by omega⟩
theorem s21_step {f : Fct} (hf : f.May) {g : Fct} {lo hi : W64} {i : Nat} (hi' : i < wd f.w) (h : ze0 f g lo hi i) (H : Hp) :
    ∃ g', ze0 f g' lo hi (i + 1) ∧ zaW R f.val [.int .i64 (i : Int), g.val] H = some (.next, [.int .i64 ((i + 1 : Nat) : Int), g'.val], H) := by
  have hn := zbf hf.w64
  obtain ⟨r, r1, r2⟩ := c34 (f := { f with zero := f.zero ||| (1#64) <<< i }) hf.w0 hf.w64 hf.least H
  obtain ⟨s, s1, s2⟩ := c34 (f := { f with one := f.one ||| (1#64) <<< i }) hf.w0 hf.w64 hf.least H
  have f1 := zlT r1 hf.top
  have f2 := zlT s1 hf.top
  have a1 : (!zfE { f with zero := f.zero ||| (1#64) <<< i } r) = true ↔ ∀ t, Mem f t → t.getLsbD i = true := by
    rw [Bool.not_eq_true', ← Bool.not_eq_true, f1]
    constructor
    · intro h t ht
      cases q : t.getLsbD i with
      | true => rfl
      | false => exact absurd ⟨t, (zhF (by omega)).2 ⟨ht.1, q⟩, ht.2⟩ h
    · rintro h ⟨t, t1, t2⟩
      have := (zhF (show i < 64 by omega)).1 t1
      rw [h t ⟨this.1, t2⟩] at this; exact absurd this.2 (by decide)
  have a2 : (!zfE { f with one := f.one ||| (1#64) <<< i } s) = true ↔ ∀ t, Mem f t → t.getLsbD i = false := by
    rw [Bool.not_eq_true', ← Bool.not_eq_true, f2]
    constructor
    · intro h t ht
      cases q : t.getLsbD i with
      | false => rfl
      | true => exact absurd ⟨t, (zjS (by omega)).2 ⟨ht.1, q⟩, ht.2⟩ h
    · rintro h ⟨t, t1, t2⟩
      have := (zjS (show i < 64 by omega)).1 t1
      rw [h t ⟨this.1, t2⟩] at this; exact absurd this.2 (by decide)
  have r2 : R F.a14 [Fct.val { f with zero := f.zero ||| (1#64) <<< i }] H = some (.tuple #[wv (r.getD 0#64), .bool (zfE { f with zero := f.zero ||| (1#64) <<< i } r)], H) := r2
  have s2 : R F.a14 [Fct.val { f with one := f.one ||| (1#64) <<< i }] H = some (.tuple #[wv (s.getD 0#64), .bool (zfE { f with one := f.one ||| (1#64) <<< i } s)], H) := s2
  refine ⟨⟨g.w, if (!zfE { f with zero := f.zero ||| (1#64) <<< i } r) = true then g.one ||| (1#64) <<< i else g.one, if (!zfE { f with one := f.one ||| (1#64) <<< i } s) = true then g.zero ||| (1#64) <<< i else g.zero, g.least, g.top⟩, h.step (by omega) rfl rfl rfl a1 a2 rfl rfl, ?_⟩
  unfold zaW
  simp only [qg0, qd1, qd0, f_w, zae (c28 hf.w0 H), zbj, zag, s_br, decide_eq_true_eq, cu64 i (by omega), u_1, zb2, zak, sp_0, zaD, zaX, b_or, zbs, zb3, sp_f, zae r2, zae s2, zcN, zcM, za4, i_inc _ i (by omega), zaL]
  rw [if_pos (by omega)]
  cases zfE { f with zero := f.zero ||| (1#64) <<< i } r <;> cases zfE { f with one := f.one ||| (1#64) <<< i } s <;> rfl
theorem loop21 {f : Fct} (hf : f.May) {lo hi : W64} (H : Hp) : ∀ (d i : Nat) (g : Fct), i + d = wd f.w → ze0 f g lo hi i →
    ∃ g', ze0 f g' lo hi (wd f.w) ∧ zaA (zaW R f.val) [.int .i64 (i : Int), g.val] H = some (.exit 0, [.int .i64 ((wd f.w : Nat) : Int), g'.val], H)
  | 0, i, g, hd, h => by
    obtain rfl : i = wd f.w := by omega
    refine ⟨g, h, ?_⟩
    rw [zaq]
    have : zaW R f.val [.int .i64 ((wd f.w : Nat) : Int), g.val] H = some (.exit 0, [.int .i64 ((wd f.w : Nat) : Int), g.val], H) := by
      unfold zaW
      simp only [qg0, qd1, qd0, f_w, zae (c28 hf.w0 H), zbj, zag, s_br, decide_eq_true_eq, zaL]
      rw [if_neg (by omega)]
    rw [this]; rfl
  | d + 1, i, g, hd, h => by
    obtain ⟨g1, i1, e1⟩ := s21_step hf (show i < wd f.w by omega) h H
    obtain ⟨g2, i2, e2⟩ := loop21 hf H d (i + 1) g1 (by omega) i1
    refine ⟨g2, i2, ?_⟩
    rw [zaq, e1]
    exact e2
theorem c21 (f : Fct) (H : Hp) : ∃ g e, SetR f g e ∧ R F.a2 [f.val] H = some (.tuple #[g.val, .int .i64 e], H) := by
  have hr := (zfl E0 rfl f.val H).trans (zfB _ _ _)
  rw [zak, zae (c8 f H), za4, zag, s_br] at hr
  by_cases hf : f.May
  case neg =>
    rw [if_pos (by simp [hf]), zcZ, sp_0, zak] at hr
    exact ⟨F0, 5, .inl ⟨hf, rfl, rfl⟩, hr⟩
  have hn := zbf hf.w64
  rw [if_neg (by simp [hf])] at hr
  obtain ⟨r, r1, r2⟩ := c34 hf.w0 hf.w64 hf.least H
  have r2 : R F.a14 [f.val] H = some (.tuple #[wv (r.getD 0#64), .bool (zfE f r)], H) := r2
  have fl := zlT r1 hf.top
  rw [zak, zae r2, zcN, zcM, za4, zag, s_br] at hr
  cases hq : zfE f r with
  | false =>
    rw [hq] at fl hr
    rw [if_pos (by decide), zcZ, sp_0, zak] at hr
    exact ⟨F0, 1, .inr (.inl ⟨hf, fun t ht => absurd (fl.2 ⟨t, ht⟩) (by decide), rfl, rfl⟩), hr⟩
  | true =>
    rw [hq] at fl hr
    obtain ⟨t, ht⟩ := fl.1 rfl
    obtain ⟨s, d1, d2⟩ := c35 hf H
    cases r with
    | none => exact absurd (r1 t ht.1 ht.2.1 (by have := ht.2.2; have := hf.top; omega)) id
    | some lo =>
      cases s with
      | none => exact absurd (d1 t ht.1 ht.2.2) id
      | some hi =>
        have hlo : Mem f lo := ⟨r1.1, r1.2.1, by have := r1.2.2.2 t ht.1 ht.2.1; have := ht.2.2; omega⟩
        have hhi : Mem f hi := ⟨d1.1, by have := d1.2.2 t ht.1 ht.2.2; have := ht.2.1; omega, d1.2.1⟩
        have hI0 : ze0 f ⟨f.w, 0#64, 0#64, lo, hi⟩ lo hi 0 := ⟨rfl, rfl, rfl, fun j => by simp, fun j => by simp⟩
        obtain ⟨g, g1, g2⟩ := loop21 hf H (wd f.w) 0 ⟨f.w, 0#64, 0#64, lo, hi⟩ (by omega) hI0
        have g2' : zaA (zaW R f.val) [.int .i64 0, Fct.val ⟨f.w, 0#64, 0#64, lo, hi⟩] H = some (.exit 0, [.int .i64 ((wd f.w : Nat) : Int), g.val], H) := g2
        rw [if_neg (by decide), f_w, zak, zae d2, Option.getD_some, Option.getD_some, b_wlt, sp_0, zaL, g2', zao, zbq, zaT] at hr
        simp only [qd1, qd0, qg0, zak, sp_0] at hr
        refine ⟨g, 0, .inr (.inr ⟨hf, ⟨g1.w, by rw [g1.least]; exact hlo, by rw [g1.top]; exact hhi, fun t ht => ?_, g1.one, g1.zero⟩, rfl⟩), hr⟩
        rw [g1.least, g1.top]
        exact ⟨r1.2.2.2 t ht.1 ht.2.1, d1.2.2 t ht.1 ht.2.2⟩
theorem SetR.eq {f g h : Fct} {e i : Int} (h1 : SetR f g e) (h2 : SetR f h i) : g = h ∧ e = i := by
  rcases h1 with ⟨a, rfl, rfl⟩ | ⟨a, b, rfl, rfl⟩ | ⟨a, b, rfl⟩ <;> rcases h2 with ⟨c, rfl, rfl⟩ | ⟨c, d, rfl, rfl⟩ | ⟨c, d, rfl⟩ <;> first | exact ⟨rfl, rfl⟩ | exact absurd ‹f.May› ‹¬ f.May› | skip
  · exact absurd d.lo (b _)
  · exact absurd b.lo (d _)
  · exact ⟨b.same rfl (fun _ => Iff.rfl) d, rfl⟩
end Go.AM.N14
namespace Go.AM.N14
open Go Go.AM
end Go.AM.N14
namespace Go.AM.N14
open Go Go.AM Go.ChangeShapes Go.WideShapes Go.ChangeAt Go.RowKit
def allR (w : Int) : Fct × Int := if w < 0 then (F0, 5) else if w > 64 then (F0, 5) else (⟨w, 0#64, 0#64, 0#64, msk (wd w)⟩, 0)
def zgr (w : Int) (x : W64) : Fct × Int := if w < 0 then (F0, 5) else if w > 64 then (F0, 5) else if (msk (wd w)).toNat < x.toNat then (F0, 5) else (⟨w, x, msk (wd w) &&& ~~~x, x, x⟩, 0)
theorem c31 {w : Int} (hw : w ≤ 64) (H : Hp) : R F.a38 [.int .i64 w] H = some (Fct.val ⟨w, 0#64, 0#64, 0#64, msk (wd w)⟩, H) := by
  refine (znB E0 rfl _ H).trans ?_
  unfold zjH
  simp only [zae (c26 hw H), b_wt, sp_0, zak]
theorem c32 {w : Int} (hw : w ≤ 64) (x : W64) (H : Hp) : R F.a16 [.int .i64 w, wv x] H = some (Fct.val ⟨w, x, msk (wd w) &&& ~~~x, x, x⟩, H) := by
  refine (zlr E0 rfl _ _ H).trans ?_
  unfold zhv
  simp only [zae (c26 hw H), zbR, b_5, sp_0, zak]
theorem c16 (w : Int) (H : Hp) : R F.a100 [.int .i64 w] H = some (.tuple #[(allR w).1.val, .int .i64 (allR w).2], H) := by
  refine (zhd E0 rfl _ H).trans ?_
  unfold zea allR
  simp only [zbj, zbl, zag, s_br, decide_eq_true_eq, zcZ, sp_0, zak]
  by_cases h0 : w < 0
  · simp only [h0, if_true]
  by_cases h1 : w > 64
  · simp only [h0, h1, if_true, if_false]
  · simp only [h0, h1, if_false, zae (c11 (show 0 ≤ w by omega) (show w ≤ 64 by omega) H), b_wt, sp_0, zak]
theorem c17 (w : Int) (x : W64) (H : Hp) : R F.a20 [.int .i64 w, wv x] H = some (.tuple #[(zgr w x).1.val, .int .i64 (zgr w x).2], H) := by
  refine (zlt E0 rfl _ _ H).trans ?_
  unfold zhx zgr
  simp only [zbj, zbl, zag, s_br, decide_eq_true_eq, zcZ, sp_0, zak]
  by_cases h0 : w < 0
  · simp only [h0, if_true]
  by_cases h1 : w > 64
  · simp only [h0, h1, if_true, if_false]
  simp only [h0, h1, if_false, zae (c26 (show w ≤ 64 by omega) H), zhK, zag, decide_eq_true_eq]
  by_cases h2 : (msk (wd w)).toNat < x.toNat
  · simp only [h2, if_true]
  · simp only [h2, if_false, zae (c32 (show w ≤ 64 by omega) x H), sp_0, zak]
theorem c18 (w : Int) (x : W64) (H : Hp) : R F.a46 [.int .i64 w, wv x] H = some (.tuple #[(zgr w x).1.val, .int .i64 (zgr w x).2], H) := by
  refine (zfZ E0 rfl _ _ H).trans ?_
  unfold zdj zgr
  simp only [zbj, zbl, zag, s_br, decide_eq_true_eq, zcZ, sp_0, zak]
  by_cases h0 : w < 0
  · simp only [h0, if_true]
  by_cases h1 : w > 64
  · simp only [h0, h1, if_true, if_false]
  simp only [h0, h1, if_false, zae (c11 (show 0 ≤ w by omega) (show w ≤ 64 by omega) H), zhK, zag, decide_eq_true_eq]
  by_cases h2 : (msk (wd w)).toNat < x.toNat
  · simp only [h2, if_true]
  · simp only [h2, if_false, zbR, b_5, sp_0, zak]
def BothR (f g x y : Fct) (e : Int) : Prop :=
  (¬ (f.May ∧ g.May ∧ f.w = g.w) ∧ e = 5) ∨ ((f.May ∧ g.May ∧ f.w = g.w) ∧ ((∀ t, ¬ Mem f t) ∨ ∀ t, ¬ Mem g t) ∧ e = 1) ∨ ((f.May ∧ g.May ∧ f.w = g.w) ∧ Stl f x ∧ Stl g y ∧ e = 0)
theorem c36 (f g : Fct) (H : Hp) : ∃ x y e, BothR f g x y e ∧ R F.a101 [f.val, g.val] H = some (.tuple #[x.val, y.val, .int .i64 e], H) := by
  have hr := zgB E0 rfl f.val g.val H
  unfold zdK at hr
  simp only [zak, zae (c8 _ H), za4, zag, s_br, sp_0, f_w, zbY] at hr
  by_cases hf : f.May
  case neg =>
    simp only [hf, decide_false, Bool.not_false, if_true, zao, zbM] at hr
    exact ⟨f, g, 5, .inl ⟨fun q => hf q.1, rfl⟩, hr⟩
  by_cases hg : g.May
  case neg =>
    simp only [hf, hg, decide_false, decide_true, Bool.not_true, Bool.not_false, if_true, if_false, zao, zbM, Bool.false_eq_true] at hr
    exact ⟨f, g, 5, .inl ⟨fun q => hg q.2.1, rfl⟩, hr⟩
  by_cases hw : f.w = g.w
  case neg =>
    simp only [hf, hg, hw, decide_true, Bool.not_true, Bool.not_false, if_true, if_false, zao, zbM, Bool.false_eq_true, ne_eq, not_false_iff] at hr
    exact ⟨f, g, 5, .inl ⟨fun q => hw q.2.2, rfl⟩, hr⟩
  have hall : f.May ∧ g.May ∧ f.w = g.w := ⟨hf, hg, hw⟩
  obtain ⟨x, e, hx, x1⟩ := c21 f H
  obtain ⟨y, i, hy, y1⟩ := c21 g H
  simp only [hf, hg, hw, decide_true, Bool.not_true, if_false, zao, zai, Bool.false_eq_true, ne_eq, not_true, decide_false, zae x1, zae y1, zcN, zcM, sp_0, zbY, zag, qd0, qg0, qg1, V0_val, sp_f, zak, decide_eq_true_eq] at hr
  rcases hx with ⟨q, _⟩ | ⟨_, q, _, rfl⟩ | ⟨_, q, rfl⟩
  · exact absurd hf q
  · rw [if_pos (by decide)] at hr
    exact ⟨f, g, 1, .inr (.inl ⟨hall, .inl q, rfl⟩), hr⟩
  · rw [if_neg (by decide)] at hr
    rcases hy with ⟨r, _⟩ | ⟨_, r, rfl, rfl⟩ | ⟨_, r, rfl⟩
    · exact absurd hg r
    · exact ⟨x, F0, 1, .inr (.inl ⟨hall, .inr r, rfl⟩), hr⟩
    · exact ⟨x, y, 0, .inr (.inr ⟨hall, q, r, rfl⟩), hr⟩
theorem c37 (x y : Fct) (H : Hp) : R F.a48 [x.val, y.val] H = some ((zbS x y).val, H) := by
  refine (zgy E0 rfl _ _ H).trans ?_
  unfold zdI
  simp only [f_w, zaX, zaD, zas, zaK, zba, b_5, sp_0, zkr, zhK, zag, s_br, decide_eq_true_eq, za5, zbt, zak]
  unfold zbS
  by_cases h1 : y.least.toNat < x.least.toNat <;> by_cases h2 : x.top.toNat < y.top.toNat <;> simp only [h1, h2, if_true, if_false]
theorem c22 (f g : Fct) (H : Hp) : ∃ x y e p e', BothR f g x y e ∧ SetR (meetF x y) p e' ∧ R F.a64 [f.val, g.val] H = some (.tuple #[(if e = 0 then p else F0).val, .int .i64 (if e = 0 then e' else e)], H) := by
  obtain ⟨x, y, e, h1, h2⟩ := c36 f g H
  obtain ⟨p, e', h3, h4⟩ := c21 (meetF x y) H
  refine ⟨x, y, e, p, e', h1, h3, (zgD E0 rfl _ _ H).trans ?_⟩
  unfold zdM
  simp only [zak, zae h2, x_30, x_31, x_32, sp_0, zbY, zag, s_br, decide_eq_true_eq, zcZ, f_w, zaX, zaD, zas, zaK, b_or, b_5, zhK, zkr, za5, zbt]
  unfold meetF at h4
  by_cases he : e = 0
  · subst he
    by_cases h1 : x.least.toNat < y.least.toNat <;> by_cases h2 : y.top.toNat < x.top.toNat <;> simp only [h1, h2, if_true, if_false, ne_eq, not_true, zae h4] at h4 ⊢ <;> simp only [zae h4, zcN, zcM, sp_0, zak]
  · simp only [he, if_true, if_false, ne_eq, not_false_iff]
theorem zlc {f g x y x' y' : Fct} {e i : Int} (h : TwoR f g x y e) (k : BothR f g x' y' i) : e = i ∧ (e = 0 → x = x' ∧ y = y' ∧ Sd x ∧ Sd y ∧ x.w = y.w) := by
  rcases h with ⟨a, _, _, rfl⟩ | ⟨a, b, _, _, rfl⟩ | ⟨a, b, c, rfl⟩ <;> rcases k with ⟨a', rfl⟩ | ⟨a', b', rfl⟩ | ⟨a', b', c', rfl⟩
  · exact ⟨rfl, fun q => by cases q⟩
  · exact absurd a' a
  · exact absurd a' a
  · exact absurd a a'
  · exact ⟨rfl, fun q => by cases q⟩
  · rcases b with b | b
    · exact absurd b'.lo (b _)
    · exact absurd c'.lo (b _)
  · exact absurd a a'
  · rcases b' with b' | b'
    · exact absurd b.lo (b' _)
    · exact absurd c.lo (b' _)
  · exact ⟨rfl, fun _ => ⟨b.same rfl (fun _ => Iff.rfl) b', c.same rfl (fun _ => Iff.rfl) c', b.sd a.1, c.sd a.2.1, b.w.trans (a.2.2.trans c.w.symm)⟩⟩
end Go.AM.N14
namespace Go.AM.N14
open Go Go.AM
def mn (a b : W64) : W64 := if b.toNat < a.toNat then b else a
def remF (a b : Fct) : Fct := if a.top.toNat < b.least.toNat then a else if 0 < b.least.toNat then ⟨a.w, 0#64, 0#64, 0#64, mn a.top (b.top - 1#64)⟩ else ⟨a.w, 0#64, 0#64, 0#64, a.top⟩
def divF (a b : Fct) : Fct := if 0 < b.least.toNat then ⟨a.w, 0#64, 0#64, a.least / b.top, a.top / b.least⟩ else ⟨a.w, 0#64, 0#64, 0#64, msk (wd a.w)⟩
theorem gtr0 {α : Type} (x : W64) (k : Value → Option α) : pBin PP .gtr T.uint64 (wv x) (.int .u64 0) k = k (.bool (decide (0 < x.toNat))) := zhK _ x 0#64 k
theorem sub1 {α : Type} (x : W64) (k : Value → Option α) : pBin PP .sub T.uint64 (wv x) (.int .u64 1) k = k (wv (x - 1#64)) := zc7 _ x 1#64 k
theorem znK (a b : Fct) (hw : a.w ≤ 64) (H : Hp) : RR F.a118 [a.val, b.val] H = some ((remF a b).val, H) := by
  have hr := zhU E0 rfl a.val b.val H
  unfold zeF at hr
  unfold remF
  rw [zas, zaK, zhK, zag] at hr
  by_cases h1 : a.top.toNat < b.least.toNat
  · rw [decide_eq_true h1, zap, zak, sp_0, zak] at hr
    rw [if_pos h1]; exact hr
  rw [decide_eq_false h1, zan, f_w, zae (c31 hw H), sp_0, zaK, zbt, zas, gtr0, zag] at hr
  rw [if_neg h1]
  by_cases h2 : 0 < b.least.toNat
  · rw [decide_eq_true h2, zap, zaK, zaK, sub1, zmR, zbt, zak, sp_0, zak] at hr
    rw [if_pos h2]; exact hr
  · rw [decide_eq_false h2, zan, zak, sp_0, zak] at hr
    rw [if_neg h2]; exact hr
theorem zlz (a b : W64) (H : Hp) : RR F.a66 [wv a, wv b] H = some (wv (mn a b), H) := by
  refine (zfk E0 rfl _ _ H).trans ?_
  unfold zcT mn
  rw [zkr, zag]
  by_cases h : a.toNat < b.toNat
  · rw [decide_eq_true h, zap, if_neg (by omega)]
  · rw [decide_eq_false h, zan]
    by_cases h2 : b.toNat < a.toNat
    · rw [if_pos h2]
    · rw [if_neg h2, show b = a from BitVec.eq_of_toNat_eq (by omega)]
theorem zmA (a b : W64) (H : Hp) : RR F.a105 [wv a, wv b] H = some (wv (if a.toNat < b.toNat then b else a), H) := by
  refine (zfa E0 rfl _ _ H).trans ?_
  unfold zcq
  rw [zhK, zag]
  by_cases h : b.toNat < a.toNat
  · rw [decide_eq_true h, zap, if_neg (by omega)]
  · rw [decide_eq_false h, zan]
    by_cases h2 : a.toNat < b.toNat
    · rw [if_pos h2]
    · rw [if_neg h2, show b = a from BitVec.eq_of_toNat_eq (by omega)]
theorem zmB {op : Int} (hop : op = 23 ∨ op = 24) (a b : Fct) (h0 : 0 ≤ a.w) (hw : a.w ≤ 64) (hb : b.least.toNat ≤ b.top.toNat) (H : Hp) : RR F.a103 [.int .i64 op, a.val, b.val] H = some ((if op = 24 then remF a b else divF a b).val, H) := by
  have hr := zfb E0 rfl (.int .i64 op) a.val b.val H
  unfold zcr at hr
  rw [f_w, f_w, zae (c11 h0 hw H), b_wt, sp_0, zay, zag] at hr
  rcases hop with rfl | rfl
  · rw [decide_eq_false (by decide), zan, zas, gtr0, zag] at hr
    rw [if_neg (by decide)]
    unfold divF
    by_cases h2 : 0 < b.least.toNat
    · have n1 : b.top ≠ 0#64 := fun q => by rw [q] at hb; simp at hb; omega
      have n2 : b.least ≠ 0#64 := fun q => by rw [q] at h2; simp at h2
      rw [decide_eq_true h2, zap, zas, zaK, zog _ n1, za5, zaK, zas, zog _ n2, zbt, zak, sp_0, zak] at hr
      rw [if_pos h2]; exact hr
    · rw [decide_eq_false h2, zan, zak, sp_0, zak] at hr
      rw [if_neg h2]; exact hr
  · rw [decide_eq_true rfl, zap, zas, zaK, zhK, zag] at hr
    rw [if_pos rfl]
    unfold remF
    by_cases h1 : a.top.toNat < b.least.toNat
    · rw [decide_eq_true h1, zap, zak, sp_0, zak] at hr
      rw [if_pos h1]; exact hr
    rw [decide_eq_false h1, zan, zaK, zbt, zas, gtr0, zag] at hr
    rw [if_neg h1]
    by_cases h2 : 0 < b.least.toNat
    · rw [decide_eq_true h2, zap, zaK, zaK, sub1, zae (zlz _ _ H), zbt, zak, sp_0, zak] at hr
      rw [if_pos h2]; exact hr
    · rw [decide_eq_false h2, zan, zak, sp_0, zak] at hr
      rw [if_neg h2]; exact hr
end Go.AM.N14
namespace Go.AM.N14
open Go Go.AM
def pieF (n : Nd) (a b : Fct) : Fct :=
  let m := msk (wd n.w)
  let k := wd b.w
  let s := n.num.toNat
  let up := m &&& ~~~ msk (wd a.w)
  if n.op = 30 then ⟨n.w, a.one <<< k ||| b.one, a.zero <<< k ||| b.zero, a.least <<< k ||| b.least, a.top <<< k ||| b.top⟩
  else if n.op = 31 then (if n.w = 64 ∨ a.least >>> s >>> wd n.w = a.top >>> s >>> wd n.w then ⟨n.w, a.one >>> s &&& m, a.zero >>> s &&& m, a.least >>> s &&& m, a.top >>> s &&& m⟩ else ⟨n.w, a.one >>> s &&& m, a.zero >>> s &&& m, 0#64, m⟩)
  else if n.op = 32 then ⟨n.w, a.one, a.zero ||| up, a.least, a.top⟩
  else if a.zero.getLsbD (wd a.w - 1) = true then ⟨n.w, a.one, a.zero ||| up, a.least, a.top⟩
  else if a.one.getLsbD (wd a.w - 1) = true then ⟨n.w, a.one ||| up, a.zero, a.least ||| up, a.top ||| up⟩ else ⟨n.w, a.one, a.zero, 0#64, m⟩
theorem zda {w : Int} (h : 1 ≤ w) : w = ((wd w : Nat) : Int) := by unfold wd; omega
theorem zlD {n : Nd} (ho : 30 ≤ n.op ∧ n.op ≤ 33) (hw : 1 ≤ n.w ∧ n.w ≤ 64) (hnum : 0 ≤ n.num ∧ n.num < 18446744073709551616) {a b : Fct} (haw : 1 ≤ a.w ∧ a.w ≤ 64) (hbw : n.op = 30 → 1 ≤ b.w ∧ b.w ≤ 64) (hle : n.op = 33 → a.w ≤ n.w)
    (h1 : a.one.toNat ≤ (msk (wd a.w)).toNat) (h2 : a.zero.toNat ≤ (msk (wd a.w)).toNat) (H : Hp) : RR F.a18 [n.val, a.val, b.val] H = some ((pieF n a b).val, H) := by
  have hr := zkh E0 rfl n.val a.val b.val H
  unfold zgl at hr
  have eN := zda hw.1
  have hN := zbf hw.2
  have eA := zda haw.1
  have hA := zbf haw.2
  have pN := zc9 n.w
  have pA := zc9 a.w
  rw [n1, n0, zay, zag] at hr
  unfold pieF
  dsimp only
  by_cases g30 : n.op = 30
  · have eB := zda (hbw g30).1
    have hB := zbf (hbw g30).2
    have hc : ∀ (f : Value → Option (Value × Hp)), zal .u64 (.int .i64 b.w) f = f (.int .u64 ((wd b.w : Nat) : Int)) := fun f => by
      have := cu64 (wd b.w) (by omega) f
      rw [← eB] at this ⊢
      exact this
    rw [decide_eq_true g30, zap, f_w, hc, zaX, zb2, zaX, b_or, zaD, zb2, zaD, b_or, zas, zb2, zas, b_or, zaK, zb2, zaK, b_or, b_5, sp_0, zak] at hr
    rw [if_pos g30]; exact hr
  rw [decide_eq_false g30, zan, zay, zag] at hr
  rw [if_neg g30]
  by_cases g31 : n.op = 31
  · have hs : ∀ (x : W64) (f : Value → Option (Value × Hp)), pBin PP .shr T.uint64 (wv x) (.int .u64 n.num) f = f (wv (x >>> n.num.toNat)) := fun x f => by
      have := zc8 (P := PP) T.uint64 x f .u64 n.num.toNat
      rw [Int.toNat_of_nonneg hnum.1] at this
      exact this
    have hcn : ∀ (f : Value → Option (Value × Hp)), zal .u64 (.int .i64 n.w) f = f (.int .u64 ((wd n.w : Nat) : Int)) := fun f => by
      have := cu64 (wd n.w) (by omega) f
      rw [← eN] at this ⊢
      exact this
    have ht : ∀ x : W64, RR F.a0 [.int .i64 n.w, wv x] H = some (wv (x &&& msk (wd n.w)), H) := fun x => by
      have := zbG (n := wd n.w) pN hN x H
      rw [← eN] at this
      exact this
    rw [decide_eq_true g31, zap, zaX, n5, hs, zaD, n5, hs, zae (zmE hw.2 _ _ H), sp_0, zas, n5, hs, zaK, n5, hs, zay, zag] at hr
    rw [if_pos g31]
    by_cases q1 : n.w = 64
    · rw [decide_eq_true q1, zap, zae (ht _), zae (ht _), za5, zbt, zak, sp_0, zak] at hr
      rw [if_pos (.inl q1)]; exact hr
    · rw [decide_eq_false q1, zan, hcn, zc8, hcn, zc8, zdU, zag] at hr
      by_cases q2 : a.least >>> n.num.toNat >>> wd n.w = a.top >>> n.num.toNat >>> wd n.w
      · rw [decide_eq_true q2, zap, zae (ht _), zae (ht _), za5, zbt, zak, sp_0, zak] at hr
        rw [if_pos (.inr q2)]; exact hr
      · rw [decide_eq_false q2, zan, zak, sp_0, zak] at hr
        rw [if_neg (fun z => by rcases z with z | z; exact q1 z; exact q2 z)]; exact hr
  rw [decide_eq_false g31, zan, zay, zag] at hr
  rw [if_neg g31]
  by_cases g32 : n.op = 32
  · rw [decide_eq_true g32, zap, zaX, zaD, zae (c26 hw.2 H), f_w, zae (c26 haw.2 H), zbR, b_or, zas, zaK, b_5, sp_0, zak] at hr
    rw [if_pos g32]; exact hr
  have hmm : (msk (wd a.w)).toNat ≤ (msk (wd n.w)).toNat := by
    have := hle (by omega)
    rw [zep _ hA, zep _ hN]
    exact Nat.sub_le_sub_right (Nat.pow_le_pow_right (by decide) (by omega)) 1
  have k1 : a.one &&& msk (wd n.w) = a.one := zbZ hN (Nat.le_trans h1 hmm)
  have k2 : a.zero &&& msk (wd n.w) = a.zero := zbZ hN (Nat.le_trans h2 hmm)
  have hraw := zmE hw.2 a.one a.zero H
  rw [k1, k2] at hraw
  have hc1 : ∀ (f : Value → Option (Value × Hp)), (pBin PP .sub T.int (.int .i64 a.w) (.int .i64 1) fun v => zal .u64 v f) = f (.int .u64 ((wd a.w - 1 : Nat) : Int)) := fun f => by
    rw [zb0, zax (by omega) (by omega), show a.w - 1 = ((wd a.w - 1 : Nat) : Int) by omega, cu64 _ (by omega)]
  have u1 : Value.int .u64 1 = wv 1#64 := rfl
  rw [decide_eq_false g32, zan, zae (c26 hw.2 H), f_w, zae (c26 haw.2 H), zbR, f_w, hc1, u1, zb2, zaX, zaD, zae hraw, sp_0, zaD] at hr
  rw [if_neg g32]
  have hbz : ∀ (o : W64) (f : Value → Option (Value × Hp)), (pBin PP .and T.uint64 (wv o) (wv (1#64 <<< (wd a.w - 1))) fun v => pBin PP .neq T.uint64 v (.int .u64 0) f) = f (.bool (o.getLsbD (wd a.w - 1))) := fun o f => zj3 (by omega) f
  rw [hbz, zag] at hr
  cases q1 : a.zero.getLsbD (wd a.w - 1) with
  | true =>
    rw [q1, zap, zaD, b_or, zbs, zas, zaK, za5, zbt, zak, sp_0, zak] at hr
    rw [if_pos rfl]; exact hr
  | false =>
    rw [q1, zan, zaX, hbz, zag] at hr
    rw [if_neg (by decide)]
    cases q2 : a.one.getLsbD (wd a.w - 1) with
    | true =>
      rw [q2, zap, zaX, b_or, zb3, zas, b_or, zaK, b_or, za5, zbt, zak, sp_0, zak] at hr
      rw [if_pos rfl]; exact hr
    | false =>
      rw [q2, zan, zak, sp_0, zak] at hr
      rw [if_neg (by decide)]; exact hr
end Go.AM.N14
namespace Go.AM.N14
open Go Go.AM
theorem zpA {a : Fct} (haw : 1 ≤ a.w ∧ a.w ≤ 64) (ha : exl (a.one.getLsbD (wd a.w - 1)) (a.zero.getLsbD (wd a.w - 1))) (w : Int) (m : W64) (H : Hp) :
    RR F.a104 [a.val, wv m, .int .i64 w] H = some (Fct.val (if a.zero.getLsbD (wd a.w - 1) = true then ⟨w, a.one, a.zero ||| (m &&& ~~~ msk (wd a.w)), a.least, a.top⟩
      else if a.one.getLsbD (wd a.w - 1) = true then ⟨w, a.one ||| (m &&& ~~~ msk (wd a.w)), a.zero, a.least ||| (m &&& ~~~ msk (wd a.w)), a.top ||| (m &&& ~~~ msk (wd a.w))⟩ else ⟨w, a.one, a.zero, 0#64, m⟩), H) := by
  have hr := zeO E0 rfl a.val (wv m) (.int .i64 w) H
  unfold zci at hr
  have eA := zda haw.1
  have hA := zbf haw.2
  have pA := zc9 a.w
  have hst := zfp a (i := wd a.w - 1) (by omega) H
  have hs1 : ∀ (f : Value → Option (Value × Hp)), pBin PP .sub T.int (.int .i64 a.w) (.int .i64 1) f = f (.int .i64 ((wd a.w - 1 : Nat) : Int)) := fun f => by
    rw [zb0, zax (by omega) (by omega), show a.w - 1 = ((wd a.w - 1 : Nat) : Int) by omega]
  rw [f_w, zae (c11 (by omega) haw.2 H), zbR, zaX, zaD, zpg, sp_0, zak, f_w, hs1, zae hst, zay, zag] at hr
  generalize a.one.getLsbD (wd a.w - 1) = x1 at *
  generalize a.zero.getLsbD (wd a.w - 1) = x0 at *
  cases x0 with
  | true =>
    have : x1 = false := by
      cases x1 with
      | true => exact absurd ⟨rfl, rfl⟩ ha
      | false => rfl
    subst this
    have f0 : decide (tri false true = 0) = true := by decide
    rw [f0, zap, zaD, b_or, zbs, zas, za5, zaK, zbt, zak, sp_0, zak] at hr
    rw [if_pos rfl]; exact hr
  | false =>
    rw [if_neg (by decide)]
    cases x1 with
    | true =>
      have f0 : decide (tri true false = 0) = false := by decide
      have f1 : decide (tri true false = 1) = true := by decide
      rw [f0, zan, zay, zag, f1, zap, zaX, b_or, zb3, zas, b_or, za5, zaK, b_or, zbt, zak, sp_0, zak] at hr
      rw [if_pos rfl]; exact hr
    | false =>
      have f0 : decide (tri false false = 0) = false := by decide
      have f1 : decide (tri false false = 1) = false := by decide
      rw [f0, zan, zay, zag, f1, zan, zak, sp_0, zak] at hr
      rw [if_neg (by decide)]; exact hr
theorem zly {n : Nd} (ho : 30 ≤ n.op ∧ n.op ≤ 33) (hw : 1 ≤ n.w ∧ n.w ≤ 64) (hnum : 0 ≤ n.num ∧ n.num < 18446744073709551616) {a b : Fct} (haw : 1 ≤ a.w ∧ a.w ≤ 64) (hbw : n.op = 30 → 1 ≤ b.w ∧ b.w ≤ 64)
    (ha : exl (a.one.getLsbD (wd a.w - 1)) (a.zero.getLsbD (wd a.w - 1))) (H : Hp) : RR F.a68 [n.val, a.val, b.val] H = some ((pieF n a b).val, H) := by
  have hr := zfj E0 rfl n.val a.val b.val H
  unfold zcS at hr
  have eN := zda hw.1
  have hN := zbf hw.2
  rw [n1, zae (c11 (by omega) hw.2 H), n1, b_wt, sp_0, n0, zay, zag] at hr
  unfold pieF
  dsimp only
  by_cases g30 : n.op = 30
  · have eB := zda (hbw g30).1
    have hB := zbf (hbw g30).2
    have hc : ∀ (f : Value → Option (Value × Hp)), zal .u64 (.int .i64 b.w) f = f (.int .u64 ((wd b.w : Nat) : Int)) := fun f => by
      have := cu64 (wd b.w) (by omega) f
      rw [← eB] at this ⊢
      exact this
    rw [decide_eq_true g30, zap, f_w, hc, n1, zaX, zb2, zaX, b_or, zaD, zb2, zaD, b_or, zas, zb2, zas, b_or, zaK, zb2, zaK, b_or, b_5, sp_0, zak] at hr
    rw [if_pos g30]; exact hr
  rw [decide_eq_false g30, zan, zay, zag] at hr
  rw [if_neg g30]
  by_cases g31 : n.op = 31
  · have hs : ∀ (x : W64) (f : Value → Option (Value × Hp)), pBin PP .shr T.uint64 (wv x) (.int .u64 n.num) f = f (wv (x >>> n.num.toNat)) := fun x f => by
      have := zc8 (P := PP) T.uint64 x f .u64 n.num.toNat
      rw [Int.toNat_of_nonneg hnum.1] at this
      exact this
    have hcn : ∀ (f : Value → Option (Value × Hp)), zal .u64 (.int .i64 n.w) f = f (.int .u64 ((wd n.w : Nat) : Int)) := fun f => by
      have := cu64 (wd n.w) (by omega) f
      rw [← eN] at this ⊢
      exact this
    rw [decide_eq_true g31, zap, n5, zaX, hs, zba, zb3, zaD, hs, zba, zbs, zas, hs, zaK, hs, n1, zbg, zag] at hr
    rw [if_pos g31]
    by_cases q1 : n.w = 64
    · rw [decide_eq_true (show n.w ≥ 64 by omega), zap, zba, za5, zba, zbt, zak, sp_0, zak] at hr
      rw [if_pos (.inl q1)]; exact hr
    · rw [decide_eq_false (show ¬ n.w ≥ 64 by omega), zan, n1, hcn, zc8, n1, hcn, zc8, zdU, zag] at hr
      by_cases q2 : a.least >>> n.num.toNat >>> wd n.w = a.top >>> n.num.toNat >>> wd n.w
      · rw [decide_eq_true q2, zap, zba, za5, zba, zbt, zak, sp_0, zak] at hr
        rw [if_pos (.inr q2)]; exact hr
      · rw [decide_eq_false q2, zan, zak, sp_0, zak] at hr
        rw [if_neg (fun z => by rcases z with z | z; exact q1 z; exact q2 z)]; exact hr
  rw [decide_eq_false g31, zan, zay, zag] at hr
  rw [if_neg g31]
  by_cases g32 : n.op = 32
  · rw [decide_eq_true g32, zap, n1, zaX, zaD, f_w, zae (c11 (by omega) haw.2 H), zbR, b_or, zas, zaK, b_5, sp_0, zak] at hr
    rw [if_pos g32]; exact hr
  rw [decide_eq_false g32, zan, eT (by omega), zak, n1, zae (zpA haw ha n.w _ H), sp_0, zak] at hr
  rw [if_neg g32]; exact hr
end Go.AM.N14
namespace Go.AM.N14
open Go Go.AM
def truF (y n : Bool) : Fct := if y = true then ⟨0, 1#64, 0#64, 1#64, 1#64⟩ else if n = true then ⟨0, 0#64, 1#64, 0#64, 0#64⟩ else ⟨0, 0#64, 0#64, 0#64, 1#64⟩
def truR (y n : Bool) : Fct := ⟨0, b2w y, b2w n, 0#64, 1#64⟩
theorem p_truth (y n : Bool) (H : Hp) : RR F.a22 [.bool y, .bool n] H = some ((truF y n).val, H) := by
  refine (zlo E0 rfl _ _ H).trans ?_
  unfold zhs truF
  have e1 := c32 (w := 0) (by decide) 1#64 H
  have e0 := c32 (w := 0) (by decide) 0#64 H
  have ea := c31 (w := 0) (by decide) H
  have w0 : wd 0 = 1 := by decide
  have m1 : msk 1 &&& ~~~(1#64) = 0#64 := by decide
  have m0 : msk 1 &&& ~~~(0#64) = 1#64 := by decide
  have ma : msk 1 = 1#64 := by decide
  rw [w0, m1] at e1
  rw [w0, m0] at e0
  rw [w0, ma] at ea
  have e1' : RR F.a16 [.int .i64 0, .int .u64 1] H = _ := e1
  have e0' : RR F.a16 [.int .i64 0, .int .u64 0] H = _ := e0
  rw [zag]
  cases y with
  | true => rw [zap, zae e1', sp_0, zak, if_pos rfl]
  | false =>
    rw [zan, zag, if_neg (by decide)]
    cases n with
    | true => rw [zap, zae e0', sp_0, zak, if_pos rfl]
    | false => rw [zan, zae ea, sp_0, zak, if_neg (by decide)]
theorem tru_may (y n : Bool) : (truF y n).May ∧ (truR y n).May := by
  cases y <;> cases n <;> exact ⟨(zjD _).2 (by decide), (zjD _).2 (by decide)⟩
theorem tru_mem {y n : Bool} (h : ¬ (y = true ∧ n = true)) (t : W64) : Mem (truF y n) t ↔ Mem (truR y n) t := by
  have one_bit : ∀ {z : W64}, Fit 1#64 z t → 1 ≤ t.toNat := fun hf => by
    have h0 := (hf 0).1 (by decide)
    rcases Nat.eq_zero_or_pos t.toNat with q | q
    · have : t = 0#64 := BitVec.eq_of_toNat_eq q
      rw [this] at h0
      exact absurd h0 (by decide)
    · exact q
  have zero_bit : ∀ {o : W64}, Fit o 1#64 t → t.toNat ≤ 1 → t.toNat = 0 := fun hf hl => by
    have h0 := (hf 0).2 (by decide)
    rcases Nat.eq_zero_or_pos t.toNat with q | q
    · exact q
    · have : t = 1#64 := BitVec.eq_of_toNat_eq (by show t.toNat = 1; omega)
      rw [this] at h0
      exact absurd h0 (by decide)
  unfold truF truR
  cases y with
  | true =>
    cases n with
    | true => exact absurd ⟨rfl, rfl⟩ h
    | false =>
      rw [if_pos rfl]
      constructor
      · intro q; exact ⟨q.1, Nat.zero_le _, q.2.2⟩
      · intro q; exact ⟨q.1, one_bit q.1, q.2.2⟩
  | false =>
    rw [if_neg (by decide)]
    cases n with
    | true =>
      rw [if_pos rfl]
      constructor
      · intro q
        have h0 : t.toNat ≤ 0 := q.2.2
        exact ⟨q.1, Nat.zero_le _, by show t.toNat ≤ 1; omega⟩
      · intro q
        have := zero_bit q.1 q.2.2
        exact ⟨q.1, Nat.zero_le _, by show t.toNat ≤ 0; omega⟩
    | false =>
      rw [if_neg (by decide)]
      exact Iff.rfl
end Go.AM.N14
namespace Go.AM.N14
open Go Go.AM
theorem zfL {f f' : Fct} (hf : f.May) (hf' : f'.May) (hw : f.w = f'.w) (hm : ∀ t, Mem f t ↔ Mem f' t) : ∃ g e, SetR f g e ∧ (∀ H, R F.a5 [f.val] H = some (.tuple #[g.val, .bool (decide (e = 0))], H)) ∧ ∀ H, R F.a2 [f'.val] H = some (.tuple #[g.val, .int .i64 e], H) := by
  by_cases hne : ∃ t, Mem f t
  · obtain ⟨t, ht⟩ := hne
    have key : ∀ H, ∃ g, Stl f g ∧ R F.a5 [f.val] H = some (.tuple #[g.val, .bool true], H) := fun H => by
      rcases c33 hf H with h | ⟨h, _⟩
      · exact h
      · exact absurd ht (h t)
    have key2 : ∀ H, ∃ g, Stl f' g ∧ R F.a2 [f'.val] H = some (.tuple #[g.val, .int .i64 0], H) := fun H => by
      obtain ⟨g, e, h1, h2⟩ := c21 f' H
      rcases h1 with ⟨q, _, _⟩ | ⟨_, q, _, _⟩ | ⟨_, q, rfl⟩
      · exact absurd hf' q
      · exact absurd ((hm t).1 ht) (q t)
      · exact ⟨g, q, h2⟩
    obtain ⟨g, g1, _⟩ := key ⟨0, fun _ => none, fun _ => none⟩
    refine ⟨g, 0, .inr (.inr ⟨hf, g1, rfl⟩), fun H => ?_, fun H => ?_⟩
    · obtain ⟨g', h1, h2⟩ := key H
      have : g = g' := Stl.same rfl (fun _ => Iff.rfl) g1 h1
      rw [this]; exact h2
    · obtain ⟨g', h1, h2⟩ := key2 H
      have : g = g' := Stl.same hw hm g1 h1
      rw [this]; exact h2
  · have hno : ∀ t, ¬ Mem f t := fun t ht => hne ⟨t, ht⟩
    refine ⟨F0, 1, .inr (.inl ⟨hf, hno, rfl, rfl⟩), fun H => ?_, fun H => ?_⟩
    · rcases c33 hf H with ⟨g, h1, _⟩ | ⟨_, h⟩
      · exact absurd h1.lo (hno _)
      · exact h
    · obtain ⟨g, e, h1, h2⟩ := c21 f' H
      rcases h1 with ⟨q, _, _⟩ | ⟨_, _, rfl, rfl⟩ | ⟨_, q, _⟩
      · exact absurd hf' q
      · exact h2
      · exact absurd ((hm _).2 q.lo) (hno _)
end Go.AM.N14
namespace Go.AM.N14
open Go Go.AM
def zbb (n : Nd) (a b c : Int) : Bool :=
  if n.op ≤ 2 then decide (n.w = 0) else if n.op = 3 then decide (n.w > 0) && decide (n.num ≤ ((msk (wd n.w)).toNat : Int)) else if n.op = 4 then true else if n.op = 5 then decide (n.w = 0) && decide (a = 0) else if n.op ≤ 8 then decide (n.w = 0) && (decide (a = 0) && decide (b = 0)) else if n.op = 9 then decide (n.w = 0) && decide (a = b) else if n.op ≤ 13 then decide (n.w = 0) && (decide (a > 0) && decide (a = b)) else if n.op = 14 then decide (a = 0) && (decide (b = c) && decide (n.w = b))
  else if n.op ≤ 16 then decide (a > 0) && decide (n.w = a) else if n.op ≤ 24 then decide (a > 0) && (decide (a = b) && decide (n.w = a)) else if n.op ≤ 29 then decide (a > 0) && (decide (a = b) && (decide (n.w = a) && ziG a)) else if n.op = 30 then decide (a > 0) && (decide (b > 0) && decide (n.w = a + b)) else if n.op = 31 then decide (a > 0) && (decide (n.w ≥ 1) && (decide (n.w ≤ a) && decide (n.num ≤ a - n.w))) else decide (a > 0) && decide (n.w ≥ a)
def zbT (n : Nd) (a b c : Int) : Bool := if n.num ≠ 0 ∧ n.op ≠ 3 ∧ n.op ≠ 31 then false else zbb n a b c
theorem zct (p q : Bool) (H : Hp) : br p (some (Value.bool q, H)) (some (Value.bool false, H)) = some (Value.bool (p && q), H) := by cases p <;> rfl
theorem q_sorts {n : Nd} (ho : 1 ≤ n.op ∧ n.op ≤ 33) (hw : 0 ≤ n.w ∧ n.w ≤ 64) (hnum : 0 ≤ n.num ∧ n.num < 18446744073709551616) {a b c : Int} (ha : 0 ≤ a ∧ a ≤ 64) (hb : 0 ≤ b ∧ b ≤ 64) (H : Hp) :
    RR F.a107 [n.val, .int .i64 a, .int .i64 b, .int .i64 c] H = some (.bool (zbT n a b c), H) := by
  have hr := zfT E0 rfl n.val (.int .i64 a) (.int .i64 b) (.int .i64 c) H
  unfold zdd at hr
  have hun : ∀ {β : Type} (f : Value → Option β), pBin PP .neq T.uint64 (.int .u64 n.num) (.int .u64 0) f = f (.bool (decide (n.num ≠ 0))) := fun f => zbY ..
  rw [zbl, n5, hun, zag, n0, zbY, zag, n0, zbY, zag] at hr
  unfold zbT
  by_cases hq : n.num ≠ 0 ∧ n.op ≠ 3 ∧ n.op ≠ 31
  · rw [decide_eq_true hq.1, zap, decide_eq_true hq.2.1, zap, decide_eq_true hq.2.2, zap, zao, zbM, zb4] at hr
    rw [if_pos hq]; exact hr
  rw [if_neg hq]
  have key : (br (decide (n.num ≠ 0)) (br (decide (n.op ≠ 3)) (br (decide (n.op ≠ 31)) (some (Ctl.ret, [Value.bool false], H)) (some (Ctl.next, [], H))) (some (Ctl.next, [], H))) (some (Ctl.next, [], H))) = some (Ctl.next, [], H) := by
    by_cases q1 : n.num ≠ 0
    · rw [decide_eq_true q1, zap]
      by_cases q2 : n.op ≠ 3
      · rw [decide_eq_true q2, zap, decide_eq_false (fun q3 => hq ⟨q1, q2, q3⟩), zan]
      · rw [decide_eq_false q2, zan]
    · rw [decide_eq_false q1, zan]
  rw [key, zao, zai] at hr
  have hones := c11 (w := n.w) hw.1 hw.2 H
  have hnw : ∀ {β : Type} (x : W64) (f : Value → Option β), pBin PP .leq T.uint64 (.int .u64 n.num) (wv x) f = f (.bool (decide (n.num ≤ (x.toNat : Int)))) := fun x f => zbE ..
  refine hr.trans ?_
  clear hr
  unfold zbb
  by_cases g1 : 1 ≤ n.op ∧ n.op ≤ 2
  · have f0 : decide (n.op ≤ 2) = true := decide_eq_true (by omega)
    have f1 : decide (n.op = 3) = false := decide_eq_false (by omega)
    have f2 : decide (n.op = 4) = false := decide_eq_false (by omega)
    have f3 : decide (n.op = 5) = false := decide_eq_false (by omega)
    have f4 : decide (n.op = 6) = false := decide_eq_false (by omega)
    have f5 : decide (n.op = 7) = false := decide_eq_false (by omega)
    have f6 : decide (n.op = 8) = false := decide_eq_false (by omega)
    have f7 : decide (n.op = 9) = false := decide_eq_false (by omega)
    have f8 : decide (n.op ≥ 10) = false := decide_eq_false (by omega)
    have f9 : decide (n.op ≤ 13) = true := decide_eq_true (by omega)
    have f10 : decide (n.op = 14) = false := decide_eq_false (by omega)
    have f11 : decide (n.op = 15) = false := decide_eq_false (by omega)
    have f12 : decide (n.op = 16) = false := decide_eq_false (by omega)
    have f13 : decide (n.op ≥ 17) = false := decide_eq_false (by omega)
    have f14 : decide (n.op ≤ 24) = true := decide_eq_true (by omega)
    have f15 : decide (n.op ≥ 25) = false := decide_eq_false (by omega)
    have f16 : decide (n.op ≤ 29) = true := decide_eq_true (by omega)
    have f17 : decide (n.op = 30) = false := decide_eq_false (by omega)
    have f18 : decide (n.op = 31) = false := decide_eq_false (by omega)
    rw [if_pos (show n.op ≤ 2 by omega)]
    simp only [n0, n1, n5, zay, zbE, zbg, zbl, zag, f0, f1, f2, f3, f4, f5, f6, f7, f8, f9, f10, f11, f12, f13, f14, f15, f16, f17, f18, zap, zan, zao, zai, qg0, zct]
  by_cases g3 : n.op = 3
  · have f0 : decide (n.op ≤ 2) = false := decide_eq_false (by omega)
    have f1 : decide (n.op = 3) = true := decide_eq_true (by omega)
    have f2 : decide (n.op = 4) = false := decide_eq_false (by omega)
    have f3 : decide (n.op = 5) = false := decide_eq_false (by omega)
    have f4 : decide (n.op = 6) = false := decide_eq_false (by omega)
    have f5 : decide (n.op = 7) = false := decide_eq_false (by omega)
    have f6 : decide (n.op = 8) = false := decide_eq_false (by omega)
    have f7 : decide (n.op = 9) = false := decide_eq_false (by omega)
    have f8 : decide (n.op ≥ 10) = false := decide_eq_false (by omega)
    have f9 : decide (n.op ≤ 13) = true := decide_eq_true (by omega)
    have f10 : decide (n.op = 14) = false := decide_eq_false (by omega)
    have f11 : decide (n.op = 15) = false := decide_eq_false (by omega)
    have f12 : decide (n.op = 16) = false := decide_eq_false (by omega)
    have f13 : decide (n.op ≥ 17) = false := decide_eq_false (by omega)
    have f14 : decide (n.op ≤ 24) = true := decide_eq_true (by omega)
    have f15 : decide (n.op ≥ 25) = false := decide_eq_false (by omega)
    have f16 : decide (n.op ≤ 29) = true := decide_eq_true (by omega)
    have f17 : decide (n.op = 30) = false := decide_eq_false (by omega)
    have f18 : decide (n.op = 31) = false := decide_eq_false (by omega)
    rw [if_neg (show ¬ n.op ≤ 2 by omega), if_pos (show n.op = 3 by omega)]
    simp only [n0, n1, n5, zay, zbE, zbg, zbl, zag, f0, f1, f2, f3, f4, f5, f6, f7, f8, f9, f10, f11, f12, f13, f14, f15, f16, f17, f18, zap, zan, zao, zai, qg0, zct, zae hones, hnw]
  by_cases g4 : n.op = 4
  · have f0 : decide (n.op ≤ 2) = false := decide_eq_false (by omega)
    have f1 : decide (n.op = 3) = false := decide_eq_false (by omega)
    have f2 : decide (n.op = 4) = true := decide_eq_true (by omega)
    have f3 : decide (n.op = 5) = false := decide_eq_false (by omega)
    have f4 : decide (n.op = 6) = false := decide_eq_false (by omega)
    have f5 : decide (n.op = 7) = false := decide_eq_false (by omega)
    have f6 : decide (n.op = 8) = false := decide_eq_false (by omega)
    have f7 : decide (n.op = 9) = false := decide_eq_false (by omega)
    have f8 : decide (n.op ≥ 10) = false := decide_eq_false (by omega)
    have f9 : decide (n.op ≤ 13) = true := decide_eq_true (by omega)
    have f10 : decide (n.op = 14) = false := decide_eq_false (by omega)
    have f11 : decide (n.op = 15) = false := decide_eq_false (by omega)
    have f12 : decide (n.op = 16) = false := decide_eq_false (by omega)
    have f13 : decide (n.op ≥ 17) = false := decide_eq_false (by omega)
    have f14 : decide (n.op ≤ 24) = true := decide_eq_true (by omega)
    have f15 : decide (n.op ≥ 25) = false := decide_eq_false (by omega)
    have f16 : decide (n.op ≤ 29) = true := decide_eq_true (by omega)
    have f17 : decide (n.op = 30) = false := decide_eq_false (by omega)
    have f18 : decide (n.op = 31) = false := decide_eq_false (by omega)
    rw [if_neg (show ¬ n.op ≤ 2 by omega), if_neg (show ¬ n.op = 3 by omega), if_pos (show n.op = 4 by omega)]
    simp only [n0, n1, n5, zay, zbE, zbg, zbl, zag, f0, f1, f2, f3, f4, f5, f6, f7, f8, f9, f10, f11, f12, f13, f14, f15, f16, f17, f18, zap, zan, zao, zai, qg0, zct]
  by_cases g5 : n.op = 5
  · have f0 : decide (n.op ≤ 2) = false := decide_eq_false (by omega)
    have f1 : decide (n.op = 3) = false := decide_eq_false (by omega)
    have f2 : decide (n.op = 4) = false := decide_eq_false (by omega)
    have f3 : decide (n.op = 5) = true := decide_eq_true (by omega)
    have f4 : decide (n.op = 6) = false := decide_eq_false (by omega)
    have f5 : decide (n.op = 7) = false := decide_eq_false (by omega)
    have f6 : decide (n.op = 8) = false := decide_eq_false (by omega)
    have f7 : decide (n.op = 9) = false := decide_eq_false (by omega)
    have f8 : decide (n.op ≥ 10) = false := decide_eq_false (by omega)
    have f9 : decide (n.op ≤ 13) = true := decide_eq_true (by omega)
    have f10 : decide (n.op = 14) = false := decide_eq_false (by omega)
    have f11 : decide (n.op = 15) = false := decide_eq_false (by omega)
    have f12 : decide (n.op = 16) = false := decide_eq_false (by omega)
    have f13 : decide (n.op ≥ 17) = false := decide_eq_false (by omega)
    have f14 : decide (n.op ≤ 24) = true := decide_eq_true (by omega)
    have f15 : decide (n.op ≥ 25) = false := decide_eq_false (by omega)
    have f16 : decide (n.op ≤ 29) = true := decide_eq_true (by omega)
    have f17 : decide (n.op = 30) = false := decide_eq_false (by omega)
    have f18 : decide (n.op = 31) = false := decide_eq_false (by omega)
    rw [if_neg (show ¬ n.op ≤ 2 by omega), if_neg (show ¬ n.op = 3 by omega), if_neg (show ¬ n.op = 4 by omega), if_pos (show n.op = 5 by omega)]
    simp only [n0, n1, n5, zay, zbE, zbg, zbl, zag, f0, f1, f2, f3, f4, f5, f6, f7, f8, f9, f10, f11, f12, f13, f14, f15, f16, f17, f18, zap, zan, zao, zai, qg0, zct]
  by_cases g6 : n.op = 6
  · have f0 : decide (n.op ≤ 2) = false := decide_eq_false (by omega)
    have f1 : decide (n.op = 3) = false := decide_eq_false (by omega)
    have f2 : decide (n.op = 4) = false := decide_eq_false (by omega)
    have f3 : decide (n.op = 5) = false := decide_eq_false (by omega)
    have f4 : decide (n.op = 6) = true := decide_eq_true (by omega)
    have f5 : decide (n.op = 7) = false := decide_eq_false (by omega)
    have f6 : decide (n.op = 8) = false := decide_eq_false (by omega)
    have f7 : decide (n.op = 9) = false := decide_eq_false (by omega)
    have f8 : decide (n.op ≥ 10) = false := decide_eq_false (by omega)
    have f9 : decide (n.op ≤ 13) = true := decide_eq_true (by omega)
    have f10 : decide (n.op = 14) = false := decide_eq_false (by omega)
    have f11 : decide (n.op = 15) = false := decide_eq_false (by omega)
    have f12 : decide (n.op = 16) = false := decide_eq_false (by omega)
    have f13 : decide (n.op ≥ 17) = false := decide_eq_false (by omega)
    have f14 : decide (n.op ≤ 24) = true := decide_eq_true (by omega)
    have f15 : decide (n.op ≥ 25) = false := decide_eq_false (by omega)
    have f16 : decide (n.op ≤ 29) = true := decide_eq_true (by omega)
    have f17 : decide (n.op = 30) = false := decide_eq_false (by omega)
    have f18 : decide (n.op = 31) = false := decide_eq_false (by omega)
    rw [if_neg (show ¬ n.op ≤ 2 by omega), if_neg (show ¬ n.op = 3 by omega), if_neg (show ¬ n.op = 4 by omega), if_neg (show ¬ n.op = 5 by omega), if_pos (show n.op ≤ 8 by omega)]
    simp only [n0, n1, n5, zay, zbE, zbg, zbl, zag, f0, f1, f2, f3, f4, f5, f6, f7, f8, f9, f10, f11, f12, f13, f14, f15, f16, f17, f18, zap, zan, zao, zai, qg0, zct]
  by_cases g7 : n.op = 7
  · have f0 : decide (n.op ≤ 2) = false := decide_eq_false (by omega)
    have f1 : decide (n.op = 3) = false := decide_eq_false (by omega)
    have f2 : decide (n.op = 4) = false := decide_eq_false (by omega)
    have f3 : decide (n.op = 5) = false := decide_eq_false (by omega)
    have f4 : decide (n.op = 6) = false := decide_eq_false (by omega)
    have f5 : decide (n.op = 7) = true := decide_eq_true (by omega)
    have f6 : decide (n.op = 8) = false := decide_eq_false (by omega)
    have f7 : decide (n.op = 9) = false := decide_eq_false (by omega)
    have f8 : decide (n.op ≥ 10) = false := decide_eq_false (by omega)
    have f9 : decide (n.op ≤ 13) = true := decide_eq_true (by omega)
    have f10 : decide (n.op = 14) = false := decide_eq_false (by omega)
    have f11 : decide (n.op = 15) = false := decide_eq_false (by omega)
    have f12 : decide (n.op = 16) = false := decide_eq_false (by omega)
    have f13 : decide (n.op ≥ 17) = false := decide_eq_false (by omega)
    have f14 : decide (n.op ≤ 24) = true := decide_eq_true (by omega)
    have f15 : decide (n.op ≥ 25) = false := decide_eq_false (by omega)
    have f16 : decide (n.op ≤ 29) = true := decide_eq_true (by omega)
    have f17 : decide (n.op = 30) = false := decide_eq_false (by omega)
    have f18 : decide (n.op = 31) = false := decide_eq_false (by omega)
    rw [if_neg (show ¬ n.op ≤ 2 by omega), if_neg (show ¬ n.op = 3 by omega), if_neg (show ¬ n.op = 4 by omega), if_neg (show ¬ n.op = 5 by omega), if_pos (show n.op ≤ 8 by omega)]
    simp only [n0, n1, n5, zay, zbE, zbg, zbl, zag, f0, f1, f2, f3, f4, f5, f6, f7, f8, f9, f10, f11, f12, f13, f14, f15, f16, f17, f18, zap, zan, zao, zai, qg0, zct]
  by_cases g8 : n.op = 8
  · have f0 : decide (n.op ≤ 2) = false := decide_eq_false (by omega)
    have f1 : decide (n.op = 3) = false := decide_eq_false (by omega)
    have f2 : decide (n.op = 4) = false := decide_eq_false (by omega)
    have f3 : decide (n.op = 5) = false := decide_eq_false (by omega)
    have f4 : decide (n.op = 6) = false := decide_eq_false (by omega)
    have f5 : decide (n.op = 7) = false := decide_eq_false (by omega)
    have f6 : decide (n.op = 8) = true := decide_eq_true (by omega)
    have f7 : decide (n.op = 9) = false := decide_eq_false (by omega)
    have f8 : decide (n.op ≥ 10) = false := decide_eq_false (by omega)
    have f9 : decide (n.op ≤ 13) = true := decide_eq_true (by omega)
    have f10 : decide (n.op = 14) = false := decide_eq_false (by omega)
    have f11 : decide (n.op = 15) = false := decide_eq_false (by omega)
    have f12 : decide (n.op = 16) = false := decide_eq_false (by omega)
    have f13 : decide (n.op ≥ 17) = false := decide_eq_false (by omega)
    have f14 : decide (n.op ≤ 24) = true := decide_eq_true (by omega)
    have f15 : decide (n.op ≥ 25) = false := decide_eq_false (by omega)
    have f16 : decide (n.op ≤ 29) = true := decide_eq_true (by omega)
    have f17 : decide (n.op = 30) = false := decide_eq_false (by omega)
    have f18 : decide (n.op = 31) = false := decide_eq_false (by omega)
    rw [if_neg (show ¬ n.op ≤ 2 by omega), if_neg (show ¬ n.op = 3 by omega), if_neg (show ¬ n.op = 4 by omega), if_neg (show ¬ n.op = 5 by omega), if_pos (show n.op ≤ 8 by omega)]
    simp only [n0, n1, n5, zay, zbE, zbg, zbl, zag, f0, f1, f2, f3, f4, f5, f6, f7, f8, f9, f10, f11, f12, f13, f14, f15, f16, f17, f18, zap, zan, zao, zai, qg0, zct]
  by_cases g9 : n.op = 9
  · have f0 : decide (n.op ≤ 2) = false := decide_eq_false (by omega)
    have f1 : decide (n.op = 3) = false := decide_eq_false (by omega)
    have f2 : decide (n.op = 4) = false := decide_eq_false (by omega)
    have f3 : decide (n.op = 5) = false := decide_eq_false (by omega)
    have f4 : decide (n.op = 6) = false := decide_eq_false (by omega)
    have f5 : decide (n.op = 7) = false := decide_eq_false (by omega)
    have f6 : decide (n.op = 8) = false := decide_eq_false (by omega)
    have f7 : decide (n.op = 9) = true := decide_eq_true (by omega)
    have f8 : decide (n.op ≥ 10) = false := decide_eq_false (by omega)
    have f9 : decide (n.op ≤ 13) = true := decide_eq_true (by omega)
    have f10 : decide (n.op = 14) = false := decide_eq_false (by omega)
    have f11 : decide (n.op = 15) = false := decide_eq_false (by omega)
    have f12 : decide (n.op = 16) = false := decide_eq_false (by omega)
    have f13 : decide (n.op ≥ 17) = false := decide_eq_false (by omega)
    have f14 : decide (n.op ≤ 24) = true := decide_eq_true (by omega)
    have f15 : decide (n.op ≥ 25) = false := decide_eq_false (by omega)
    have f16 : decide (n.op ≤ 29) = true := decide_eq_true (by omega)
    have f17 : decide (n.op = 30) = false := decide_eq_false (by omega)
    have f18 : decide (n.op = 31) = false := decide_eq_false (by omega)
    rw [if_neg (show ¬ n.op ≤ 2 by omega), if_neg (show ¬ n.op = 3 by omega), if_neg (show ¬ n.op = 4 by omega), if_neg (show ¬ n.op = 5 by omega), if_neg (show ¬ n.op ≤ 8 by omega), if_pos (show n.op = 9 by omega)]
    simp only [n0, n1, n5, zay, zbE, zbg, zbl, zag, f0, f1, f2, f3, f4, f5, f6, f7, f8, f9, f10, f11, f12, f13, f14, f15, f16, f17, f18, zap, zan, zao, zai, qg0, zct]
  by_cases g10 : 10 ≤ n.op ∧ n.op ≤ 13
  · have f0 : decide (n.op ≤ 2) = false := decide_eq_false (by omega)
    have f1 : decide (n.op = 3) = false := decide_eq_false (by omega)
    have f2 : decide (n.op = 4) = false := decide_eq_false (by omega)
    have f3 : decide (n.op = 5) = false := decide_eq_false (by omega)
    have f4 : decide (n.op = 6) = false := decide_eq_false (by omega)
    have f5 : decide (n.op = 7) = false := decide_eq_false (by omega)
    have f6 : decide (n.op = 8) = false := decide_eq_false (by omega)
    have f7 : decide (n.op = 9) = false := decide_eq_false (by omega)
    have f8 : decide (n.op ≥ 10) = true := decide_eq_true (by omega)
    have f9 : decide (n.op ≤ 13) = true := decide_eq_true (by omega)
    have f10 : decide (n.op = 14) = false := decide_eq_false (by omega)
    have f11 : decide (n.op = 15) = false := decide_eq_false (by omega)
    have f12 : decide (n.op = 16) = false := decide_eq_false (by omega)
    have f13 : decide (n.op ≥ 17) = false := decide_eq_false (by omega)
    have f14 : decide (n.op ≤ 24) = true := decide_eq_true (by omega)
    have f15 : decide (n.op ≥ 25) = false := decide_eq_false (by omega)
    have f16 : decide (n.op ≤ 29) = true := decide_eq_true (by omega)
    have f17 : decide (n.op = 30) = false := decide_eq_false (by omega)
    have f18 : decide (n.op = 31) = false := decide_eq_false (by omega)
    rw [if_neg (show ¬ n.op ≤ 2 by omega), if_neg (show ¬ n.op = 3 by omega), if_neg (show ¬ n.op = 4 by omega), if_neg (show ¬ n.op = 5 by omega), if_neg (show ¬ n.op ≤ 8 by omega), if_neg (show ¬ n.op = 9 by omega), if_pos (show n.op ≤ 13 by omega)]
    simp only [n0, n1, n5, zay, zbE, zbg, zbl, zag, f0, f1, f2, f3, f4, f5, f6, f7, f8, f9, f10, f11, f12, f13, f14, f15, f16, f17, f18, zap, zan, zao, zai, qg0, zct]
  by_cases g14 : n.op = 14
  · have f0 : decide (n.op ≤ 2) = false := decide_eq_false (by omega)
    have f1 : decide (n.op = 3) = false := decide_eq_false (by omega)
    have f2 : decide (n.op = 4) = false := decide_eq_false (by omega)
    have f3 : decide (n.op = 5) = false := decide_eq_false (by omega)
    have f4 : decide (n.op = 6) = false := decide_eq_false (by omega)
    have f5 : decide (n.op = 7) = false := decide_eq_false (by omega)
    have f6 : decide (n.op = 8) = false := decide_eq_false (by omega)
    have f7 : decide (n.op = 9) = false := decide_eq_false (by omega)
    have f8 : decide (n.op ≥ 10) = true := decide_eq_true (by omega)
    have f9 : decide (n.op ≤ 13) = false := decide_eq_false (by omega)
    have f10 : decide (n.op = 14) = true := decide_eq_true (by omega)
    have f11 : decide (n.op = 15) = false := decide_eq_false (by omega)
    have f12 : decide (n.op = 16) = false := decide_eq_false (by omega)
    have f13 : decide (n.op ≥ 17) = false := decide_eq_false (by omega)
    have f14 : decide (n.op ≤ 24) = true := decide_eq_true (by omega)
    have f15 : decide (n.op ≥ 25) = false := decide_eq_false (by omega)
    have f16 : decide (n.op ≤ 29) = true := decide_eq_true (by omega)
    have f17 : decide (n.op = 30) = false := decide_eq_false (by omega)
    have f18 : decide (n.op = 31) = false := decide_eq_false (by omega)
    rw [if_neg (show ¬ n.op ≤ 2 by omega), if_neg (show ¬ n.op = 3 by omega), if_neg (show ¬ n.op = 4 by omega), if_neg (show ¬ n.op = 5 by omega), if_neg (show ¬ n.op ≤ 8 by omega), if_neg (show ¬ n.op = 9 by omega), if_neg (show ¬ n.op ≤ 13 by omega), if_pos (show n.op = 14 by omega)]
    simp only [n0, n1, n5, zay, zbE, zbg, zbl, zag, f0, f1, f2, f3, f4, f5, f6, f7, f8, f9, f10, f11, f12, f13, f14, f15, f16, f17, f18, zap, zan, zao, zai, qg0, zct]
  by_cases g15 : n.op = 15
  · have f0 : decide (n.op ≤ 2) = false := decide_eq_false (by omega)
    have f1 : decide (n.op = 3) = false := decide_eq_false (by omega)
    have f2 : decide (n.op = 4) = false := decide_eq_false (by omega)
    have f3 : decide (n.op = 5) = false := decide_eq_false (by omega)
    have f4 : decide (n.op = 6) = false := decide_eq_false (by omega)
    have f5 : decide (n.op = 7) = false := decide_eq_false (by omega)
    have f6 : decide (n.op = 8) = false := decide_eq_false (by omega)
    have f7 : decide (n.op = 9) = false := decide_eq_false (by omega)
    have f8 : decide (n.op ≥ 10) = true := decide_eq_true (by omega)
    have f9 : decide (n.op ≤ 13) = false := decide_eq_false (by omega)
    have f10 : decide (n.op = 14) = false := decide_eq_false (by omega)
    have f11 : decide (n.op = 15) = true := decide_eq_true (by omega)
    have f12 : decide (n.op = 16) = false := decide_eq_false (by omega)
    have f13 : decide (n.op ≥ 17) = false := decide_eq_false (by omega)
    have f14 : decide (n.op ≤ 24) = true := decide_eq_true (by omega)
    have f15 : decide (n.op ≥ 25) = false := decide_eq_false (by omega)
    have f16 : decide (n.op ≤ 29) = true := decide_eq_true (by omega)
    have f17 : decide (n.op = 30) = false := decide_eq_false (by omega)
    have f18 : decide (n.op = 31) = false := decide_eq_false (by omega)
    rw [if_neg (show ¬ n.op ≤ 2 by omega), if_neg (show ¬ n.op = 3 by omega), if_neg (show ¬ n.op = 4 by omega), if_neg (show ¬ n.op = 5 by omega), if_neg (show ¬ n.op ≤ 8 by omega), if_neg (show ¬ n.op = 9 by omega), if_neg (show ¬ n.op ≤ 13 by omega), if_neg (show ¬ n.op = 14 by omega), if_pos (show n.op ≤ 16 by omega)]
    simp only [n0, n1, n5, zay, zbE, zbg, zbl, zag, f0, f1, f2, f3, f4, f5, f6, f7, f8, f9, f10, f11, f12, f13, f14, f15, f16, f17, f18, zap, zan, zao, zai, qg0, zct]
  by_cases g16 : n.op = 16
  · have f0 : decide (n.op ≤ 2) = false := decide_eq_false (by omega)
    have f1 : decide (n.op = 3) = false := decide_eq_false (by omega)
    have f2 : decide (n.op = 4) = false := decide_eq_false (by omega)
    have f3 : decide (n.op = 5) = false := decide_eq_false (by omega)
    have f4 : decide (n.op = 6) = false := decide_eq_false (by omega)
    have f5 : decide (n.op = 7) = false := decide_eq_false (by omega)
    have f6 : decide (n.op = 8) = false := decide_eq_false (by omega)
    have f7 : decide (n.op = 9) = false := decide_eq_false (by omega)
    have f8 : decide (n.op ≥ 10) = true := decide_eq_true (by omega)
    have f9 : decide (n.op ≤ 13) = false := decide_eq_false (by omega)
    have f10 : decide (n.op = 14) = false := decide_eq_false (by omega)
    have f11 : decide (n.op = 15) = false := decide_eq_false (by omega)
    have f12 : decide (n.op = 16) = true := decide_eq_true (by omega)
    have f13 : decide (n.op ≥ 17) = false := decide_eq_false (by omega)
    have f14 : decide (n.op ≤ 24) = true := decide_eq_true (by omega)
    have f15 : decide (n.op ≥ 25) = false := decide_eq_false (by omega)
    have f16 : decide (n.op ≤ 29) = true := decide_eq_true (by omega)
    have f17 : decide (n.op = 30) = false := decide_eq_false (by omega)
    have f18 : decide (n.op = 31) = false := decide_eq_false (by omega)
    rw [if_neg (show ¬ n.op ≤ 2 by omega), if_neg (show ¬ n.op = 3 by omega), if_neg (show ¬ n.op = 4 by omega), if_neg (show ¬ n.op = 5 by omega), if_neg (show ¬ n.op ≤ 8 by omega), if_neg (show ¬ n.op = 9 by omega), if_neg (show ¬ n.op ≤ 13 by omega), if_neg (show ¬ n.op = 14 by omega), if_pos (show n.op ≤ 16 by omega)]
    simp only [n0, n1, n5, zay, zbE, zbg, zbl, zag, f0, f1, f2, f3, f4, f5, f6, f7, f8, f9, f10, f11, f12, f13, f14, f15, f16, f17, f18, zap, zan, zao, zai, qg0, zct]
  by_cases g17 : 17 ≤ n.op ∧ n.op ≤ 24
  · have f0 : decide (n.op ≤ 2) = false := decide_eq_false (by omega)
    have f1 : decide (n.op = 3) = false := decide_eq_false (by omega)
    have f2 : decide (n.op = 4) = false := decide_eq_false (by omega)
    have f3 : decide (n.op = 5) = false := decide_eq_false (by omega)
    have f4 : decide (n.op = 6) = false := decide_eq_false (by omega)
    have f5 : decide (n.op = 7) = false := decide_eq_false (by omega)
    have f6 : decide (n.op = 8) = false := decide_eq_false (by omega)
    have f7 : decide (n.op = 9) = false := decide_eq_false (by omega)
    have f8 : decide (n.op ≥ 10) = true := decide_eq_true (by omega)
    have f9 : decide (n.op ≤ 13) = false := decide_eq_false (by omega)
    have f10 : decide (n.op = 14) = false := decide_eq_false (by omega)
    have f11 : decide (n.op = 15) = false := decide_eq_false (by omega)
    have f12 : decide (n.op = 16) = false := decide_eq_false (by omega)
    have f13 : decide (n.op ≥ 17) = true := decide_eq_true (by omega)
    have f14 : decide (n.op ≤ 24) = true := decide_eq_true (by omega)
    have f15 : decide (n.op ≥ 25) = false := decide_eq_false (by omega)
    have f16 : decide (n.op ≤ 29) = true := decide_eq_true (by omega)
    have f17 : decide (n.op = 30) = false := decide_eq_false (by omega)
    have f18 : decide (n.op = 31) = false := decide_eq_false (by omega)
    rw [if_neg (show ¬ n.op ≤ 2 by omega), if_neg (show ¬ n.op = 3 by omega), if_neg (show ¬ n.op = 4 by omega), if_neg (show ¬ n.op = 5 by omega), if_neg (show ¬ n.op ≤ 8 by omega), if_neg (show ¬ n.op = 9 by omega), if_neg (show ¬ n.op ≤ 13 by omega), if_neg (show ¬ n.op = 14 by omega), if_neg (show ¬ n.op ≤ 16 by omega), if_pos (show n.op ≤ 24 by omega)]
    simp only [n0, n1, n5, zay, zbE, zbg, zbl, zag, f0, f1, f2, f3, f4, f5, f6, f7, f8, f9, f10, f11, f12, f13, f14, f15, f16, f17, f18, zap, zan, zao, zai, qg0, zct]
  by_cases g25 : 25 ≤ n.op ∧ n.op ≤ 29
  · have f0 : decide (n.op ≤ 2) = false := decide_eq_false (by omega)
    have f1 : decide (n.op = 3) = false := decide_eq_false (by omega)
    have f2 : decide (n.op = 4) = false := decide_eq_false (by omega)
    have f3 : decide (n.op = 5) = false := decide_eq_false (by omega)
    have f4 : decide (n.op = 6) = false := decide_eq_false (by omega)
    have f5 : decide (n.op = 7) = false := decide_eq_false (by omega)
    have f6 : decide (n.op = 8) = false := decide_eq_false (by omega)
    have f7 : decide (n.op = 9) = false := decide_eq_false (by omega)
    have f8 : decide (n.op ≥ 10) = true := decide_eq_true (by omega)
    have f9 : decide (n.op ≤ 13) = false := decide_eq_false (by omega)
    have f10 : decide (n.op = 14) = false := decide_eq_false (by omega)
    have f11 : decide (n.op = 15) = false := decide_eq_false (by omega)
    have f12 : decide (n.op = 16) = false := decide_eq_false (by omega)
    have f13 : decide (n.op ≥ 17) = true := decide_eq_true (by omega)
    have f14 : decide (n.op ≤ 24) = false := decide_eq_false (by omega)
    have f15 : decide (n.op ≥ 25) = true := decide_eq_true (by omega)
    have f16 : decide (n.op ≤ 29) = true := decide_eq_true (by omega)
    have f17 : decide (n.op = 30) = false := decide_eq_false (by omega)
    have f18 : decide (n.op = 31) = false := decide_eq_false (by omega)
    rw [if_neg (show ¬ n.op ≤ 2 by omega), if_neg (show ¬ n.op = 3 by omega), if_neg (show ¬ n.op = 4 by omega), if_neg (show ¬ n.op = 5 by omega), if_neg (show ¬ n.op ≤ 8 by omega), if_neg (show ¬ n.op = 9 by omega), if_neg (show ¬ n.op ≤ 13 by omega), if_neg (show ¬ n.op = 14 by omega), if_neg (show ¬ n.op ≤ 16 by omega), if_neg (show ¬ n.op ≤ 24 by omega), if_pos (show n.op ≤ 29 by omega)]
    simp only [n0, n1, n5, zay, zbE, zbg, zbl, zag, f0, f1, f2, f3, f4, f5, f6, f7, f8, f9, f10, f11, f12, f13, f14, f15, f16, f17, f18, zap, zan, zao, zai, qg0, zct, zae (c55 a H)]
  by_cases g30 : n.op = 30
  · have f0 : decide (n.op ≤ 2) = false := decide_eq_false (by omega)
    have f1 : decide (n.op = 3) = false := decide_eq_false (by omega)
    have f2 : decide (n.op = 4) = false := decide_eq_false (by omega)
    have f3 : decide (n.op = 5) = false := decide_eq_false (by omega)
    have f4 : decide (n.op = 6) = false := decide_eq_false (by omega)
    have f5 : decide (n.op = 7) = false := decide_eq_false (by omega)
    have f6 : decide (n.op = 8) = false := decide_eq_false (by omega)
    have f7 : decide (n.op = 9) = false := decide_eq_false (by omega)
    have f8 : decide (n.op ≥ 10) = true := decide_eq_true (by omega)
    have f9 : decide (n.op ≤ 13) = false := decide_eq_false (by omega)
    have f10 : decide (n.op = 14) = false := decide_eq_false (by omega)
    have f11 : decide (n.op = 15) = false := decide_eq_false (by omega)
    have f12 : decide (n.op = 16) = false := decide_eq_false (by omega)
    have f13 : decide (n.op ≥ 17) = true := decide_eq_true (by omega)
    have f14 : decide (n.op ≤ 24) = false := decide_eq_false (by omega)
    have f15 : decide (n.op ≥ 25) = true := decide_eq_true (by omega)
    have f16 : decide (n.op ≤ 29) = false := decide_eq_false (by omega)
    have f17 : decide (n.op = 30) = true := decide_eq_true (by omega)
    have f18 : decide (n.op = 31) = false := decide_eq_false (by omega)
    rw [if_neg (show ¬ n.op ≤ 2 by omega), if_neg (show ¬ n.op = 3 by omega), if_neg (show ¬ n.op = 4 by omega), if_neg (show ¬ n.op = 5 by omega), if_neg (show ¬ n.op ≤ 8 by omega), if_neg (show ¬ n.op = 9 by omega), if_neg (show ¬ n.op ≤ 13 by omega), if_neg (show ¬ n.op = 14 by omega), if_neg (show ¬ n.op ≤ 16 by omega), if_neg (show ¬ n.op ≤ 24 by omega), if_neg (show ¬ n.op ≤ 29 by omega), if_pos (show n.op = 30 by omega)]
    simp only [n0, n1, n5, zay, zbE, zbg, zbl, zag, f0, f1, f2, f3, f4, f5, f6, f7, f8, f9, f10, f11, f12, f13, f14, f15, f16, f17, f18, zap, zan, zao, zai, qg0, zct, za6, zax (show -9223372036854775808 ≤ a + b by omega) (show a + b ≤ 9223372036854775807 by omega)]
  by_cases g31 : n.op = 31
  · have f0 : decide (n.op ≤ 2) = false := decide_eq_false (by omega)
    have f1 : decide (n.op = 3) = false := decide_eq_false (by omega)
    have f2 : decide (n.op = 4) = false := decide_eq_false (by omega)
    have f3 : decide (n.op = 5) = false := decide_eq_false (by omega)
    have f4 : decide (n.op = 6) = false := decide_eq_false (by omega)
    have f5 : decide (n.op = 7) = false := decide_eq_false (by omega)
    have f6 : decide (n.op = 8) = false := decide_eq_false (by omega)
    have f7 : decide (n.op = 9) = false := decide_eq_false (by omega)
    have f8 : decide (n.op ≥ 10) = true := decide_eq_true (by omega)
    have f9 : decide (n.op ≤ 13) = false := decide_eq_false (by omega)
    have f10 : decide (n.op = 14) = false := decide_eq_false (by omega)
    have f11 : decide (n.op = 15) = false := decide_eq_false (by omega)
    have f12 : decide (n.op = 16) = false := decide_eq_false (by omega)
    have f13 : decide (n.op ≥ 17) = true := decide_eq_true (by omega)
    have f14 : decide (n.op ≤ 24) = false := decide_eq_false (by omega)
    have f15 : decide (n.op ≥ 25) = true := decide_eq_true (by omega)
    have f16 : decide (n.op ≤ 29) = false := decide_eq_false (by omega)
    have f17 : decide (n.op = 30) = false := decide_eq_false (by omega)
    have f18 : decide (n.op = 31) = true := decide_eq_true (by omega)
    rw [if_neg (show ¬ n.op ≤ 2 by omega), if_neg (show ¬ n.op = 3 by omega), if_neg (show ¬ n.op = 4 by omega), if_neg (show ¬ n.op = 5 by omega), if_neg (show ¬ n.op ≤ 8 by omega), if_neg (show ¬ n.op = 9 by omega), if_neg (show ¬ n.op ≤ 13 by omega), if_neg (show ¬ n.op = 14 by omega), if_neg (show ¬ n.op ≤ 16 by omega), if_neg (show ¬ n.op ≤ 24 by omega), if_neg (show ¬ n.op ≤ 29 by omega), if_neg (show ¬ n.op = 30 by omega), if_pos (show n.op = 31 by omega)]
    simp only [n0, n1, n5, zay, zbE, zbg, zbl, zag, f0, f1, f2, f3, f4, f5, f6, f7, f8, f9, f10, f11, f12, f13, f14, f15, f16, f17, f18, zap, zan, zao, zai, qg0, zb0, zgd, zax (show -9223372036854775808 ≤ a - n.w by omega) (show a - n.w ≤ 9223372036854775807 by omega)]
    by_cases q1 : n.w ≤ a
    · rw [ziI (show 0 ≤ a - n.w by omega) (by omega)]; simp only [decide_eq_true q1, zap, zct, Bool.true_and]
    · simp only [decide_eq_false q1, zan, zct, Bool.false_and, Bool.and_false]
  have f0 : decide (n.op ≤ 2) = false := decide_eq_false (by omega)
  have f1 : decide (n.op = 3) = false := decide_eq_false (by omega)
  have f2 : decide (n.op = 4) = false := decide_eq_false (by omega)
  have f3 : decide (n.op = 5) = false := decide_eq_false (by omega)
  have f4 : decide (n.op = 6) = false := decide_eq_false (by omega)
  have f5 : decide (n.op = 7) = false := decide_eq_false (by omega)
  have f6 : decide (n.op = 8) = false := decide_eq_false (by omega)
  have f7 : decide (n.op = 9) = false := decide_eq_false (by omega)
  have f8 : decide (n.op ≥ 10) = true := decide_eq_true (by omega)
  have f9 : decide (n.op ≤ 13) = false := decide_eq_false (by omega)
  have f10 : decide (n.op = 14) = false := decide_eq_false (by omega)
  have f11 : decide (n.op = 15) = false := decide_eq_false (by omega)
  have f12 : decide (n.op = 16) = false := decide_eq_false (by omega)
  have f13 : decide (n.op ≥ 17) = true := decide_eq_true (by omega)
  have f14 : decide (n.op ≤ 24) = false := decide_eq_false (by omega)
  have f15 : decide (n.op ≥ 25) = true := decide_eq_true (by omega)
  have f16 : decide (n.op ≤ 29) = false := decide_eq_false (by omega)
  have f17 : decide (n.op = 30) = false := decide_eq_false (by omega)
  have f18 : decide (n.op = 31) = false := decide_eq_false (by omega)
  rw [if_neg (show ¬ n.op ≤ 2 by omega), if_neg (show ¬ n.op = 3 by omega), if_neg (show ¬ n.op = 4 by omega), if_neg (show ¬ n.op = 5 by omega), if_neg (show ¬ n.op ≤ 8 by omega), if_neg (show ¬ n.op = 9 by omega), if_neg (show ¬ n.op ≤ 13 by omega), if_neg (show ¬ n.op = 14 by omega), if_neg (show ¬ n.op ≤ 16 by omega), if_neg (show ¬ n.op ≤ 24 by omega), if_neg (show ¬ n.op ≤ 29 by omega), if_neg (show ¬ n.op = 30 by omega), if_neg (show ¬ n.op = 31 by omega)]
  simp only [n0, n1, n5, zay, zbE, zbg, zbl, zag, f0, f1, f2, f3, f4, f5, f6, f7, f8, f9, f10, f11, f12, f13, f14, f15, f16, f17, f18, zap, zan, zao, zai, qg0, zct]
end Go.AM.N14
namespace Go.AM.N14
open Go Go.AM
structure zpi (L : List Nd) (n : Nd) (a b c : Int) : Prop where
  a : (zam n.op ≥ 1 ∧ isT L n.a = true ∧ wT L (-1) n.a = a) ∨ (zam n.op < 1 ∧ n.a = 0 ∧ a = 0)
  b : (zam n.op ≥ 2 ∧ isT L n.b = true ∧ wT L (-1) n.b = b) ∨ (zam n.op < 2 ∧ n.b = 0 ∧ b = 0)
  c : (zam n.op ≥ 3 ∧ isT L n.c = true ∧ wT L (-1) n.c = c) ∨ (zam n.op < 3 ∧ n.c = 0 ∧ c = 0)
theorem trim_iff {n : Nd} (hw : 0 < n.w ∧ n.w ≤ 64) (hnum : 0 ≤ n.num ∧ n.num < 18446744073709551616) : decide (zfe n.w n.num = n.num) = decide (n.num ≤ ((msk (wd n.w)).toNat : Int)) := by
  have e1 : wd n.w = n.w.toNat := by unfold wd; omega
  rw [e1, zep _ (by omega)]
  unfold zfe
  rw [if_neg (by omega)]
  by_cases h64 : n.w ≥ 64
  · have : n.w.toNat = 64 := by omega
    rw [if_pos h64, this, decide_eq_true rfl, decide_eq_true (by omega)]
  · rw [if_neg h64]
    have hp : 0 < 2 ^ n.w.toNat := Nat.two_pow_pos _
    have ep : ((2 : Int) ^ n.w.toNat) = ((2 ^ n.w.toNat : Nat) : Int) := by push_cast; rfl
    rw [ep]
    generalize 2 ^ n.w.toNat = m at *
    have : (n.num % (m : Int) = n.num) ↔ n.num ≤ ((m - 1 : Nat) : Int) := by
      constructor
      · intro h
        have := Int.emod_lt_of_pos n.num (show (0 : Int) < (m : Int) by omega)
        omega
      · intro h
        exact Int.emod_eq_of_lt hnum.1 (by omega)
    exact decide_eq_decide.2 this
theorem checks {n : Nd} (ho : 1 ≤ n.op ∧ n.op ≤ 33) (h4 : n.op ≠ 4) (hw : 0 ≤ n.w ∧ n.w ≤ 64) (hnum : 0 ≤ n.num ∧ n.num < 18446744073709551616) {L : List Nd} {a b c : Int} (hp : zpi L n a b c) :
    (zbH n.op (wT L (-1) n.a) (wT L (-1) n.b) (wT L (-1) n.c) && zbJ n (wT L (-1) n.a) (wT L (-1) n.b)) = zbb n a b c := by
  have pa := hp.a
  have pb := hp.b
  have pc := hp.c
  by_cases g1 : 1 ≤ n.op ∧ n.op ≤ 2
  · have hk : zam n.op = 0 := by unfold zam; rw [if_pos (by omega)]
    rw [hk] at pa pb pc
    unfold zbH zbJ zbb
    rw [if_pos (show zam n.op = 0 by omega), if_pos (show n.op = 1 ∨ n.op = 2 ∨ (5 ≤ n.op ∧ n.op ≤ 13) by omega), if_pos (show n.op ≤ 2 by omega)]
    rw [Bool.true_and]
  by_cases g3 : n.op = 3
  · have hk : zam n.op = 0 := by unfold zam; rw [if_pos (by omega)]
    rw [hk] at pa pb pc
    unfold zbH zbJ zbb
    rw [if_pos (show zam n.op = 0 by omega), if_neg (show ¬ (n.op = 1 ∨ n.op = 2 ∨ (5 ≤ n.op ∧ n.op ≤ 13)) by omega), if_pos (show n.op = 3 by omega), if_neg (show ¬ n.op ≤ 2 by omega), if_pos (show n.op = 3 by omega)]
    by_cases q : n.w > 0
    · rw [trim_iff ⟨q, hw.2⟩ hnum, Bool.true_and]
    · rw [decide_eq_false q]; rfl
  by_cases g5 : n.op = 5
  · have hk : zam n.op = 1 := by unfold zam; rw [if_neg (by omega), if_pos (by omega)]
    rw [hk] at pa pb pc
    have ea : wT L (-1) n.a = a := by rcases pa with ⟨_, _, q⟩ | ⟨q, _, _⟩; exact q; exact absurd q (by decide)
    unfold zbH zbJ zbb
    rw [ea]
    rw [if_neg (show ¬ (zam n.op = 0) by omega), if_pos (show n.op = 5 by omega), if_pos (show n.op = 1 ∨ n.op = 2 ∨ (5 ≤ n.op ∧ n.op ≤ 13) by omega), if_neg (show ¬ n.op ≤ 2 by omega), if_neg (show ¬ n.op = 3 by omega), if_neg (show ¬ n.op = 4 by omega), if_pos (show n.op = 5 by omega)]
    ac_rfl
  by_cases g6 : 6 ≤ n.op ∧ n.op ≤ 8
  · have hk : zam n.op = 2 := by unfold zam; rw [if_neg (by omega), if_neg (by omega), if_neg (by omega)]
    rw [hk] at pa pb pc
    have ea : wT L (-1) n.a = a := by rcases pa with ⟨_, _, q⟩ | ⟨q, _, _⟩; exact q; exact absurd q (by decide)
    have eb : wT L (-1) n.b = b := by rcases pb with ⟨_, _, q⟩ | ⟨q, _, _⟩; exact q; exact absurd q (by decide)
    unfold zbH zbJ zbb
    rw [ea, eb]
    rw [if_neg (show ¬ (zam n.op = 0) by omega), if_neg (show ¬ (n.op = 5) by omega), if_pos (show n.op = 6 ∨ n.op = 7 ∨ n.op = 8 by omega), if_pos (show n.op = 1 ∨ n.op = 2 ∨ (5 ≤ n.op ∧ n.op ≤ 13) by omega), if_neg (show ¬ n.op ≤ 2 by omega), if_neg (show ¬ n.op = 3 by omega), if_neg (show ¬ n.op = 4 by omega), if_neg (show ¬ n.op = 5 by omega), if_pos (show n.op ≤ 8 by omega)]
    ac_rfl
  by_cases g9 : n.op = 9
  · have hk : zam n.op = 2 := by unfold zam; rw [if_neg (by omega), if_neg (by omega), if_neg (by omega)]
    rw [hk] at pa pb pc
    have ea : wT L (-1) n.a = a := by rcases pa with ⟨_, _, q⟩ | ⟨q, _, _⟩; exact q; exact absurd q (by decide)
    have eb : wT L (-1) n.b = b := by rcases pb with ⟨_, _, q⟩ | ⟨q, _, _⟩; exact q; exact absurd q (by decide)
    unfold zbH zbJ zbb
    rw [ea, eb]
    rw [if_neg (show ¬ (zam n.op = 0) by omega), if_neg (show ¬ (n.op = 5) by omega), if_neg (show ¬ (n.op = 6 ∨ n.op = 7 ∨ n.op = 8) by omega), if_pos (show n.op = 9 by omega), if_pos (show n.op = 1 ∨ n.op = 2 ∨ (5 ≤ n.op ∧ n.op ≤ 13) by omega), if_neg (show ¬ n.op ≤ 2 by omega), if_neg (show ¬ n.op = 3 by omega), if_neg (show ¬ n.op = 4 by omega), if_neg (show ¬ n.op = 5 by omega), if_neg (show ¬ n.op ≤ 8 by omega), if_pos (show n.op = 9 by omega)]
    ac_rfl
  by_cases g10 : 10 ≤ n.op ∧ n.op ≤ 13
  · have hk : zam n.op = 2 := by unfold zam; rw [if_neg (by omega), if_neg (by omega), if_neg (by omega)]
    rw [hk] at pa pb pc
    have ea : wT L (-1) n.a = a := by rcases pa with ⟨_, _, q⟩ | ⟨q, _, _⟩; exact q; exact absurd q (by decide)
    have eb : wT L (-1) n.b = b := by rcases pb with ⟨_, _, q⟩ | ⟨q, _, _⟩; exact q; exact absurd q (by decide)
    unfold zbH zbJ zbb
    rw [ea, eb]
    rw [if_neg (show ¬ (zam n.op = 0) by omega), if_neg (show ¬ (n.op = 5) by omega), if_neg (show ¬ (n.op = 6 ∨ n.op = 7 ∨ n.op = 8) by omega), if_neg (show ¬ (n.op = 9) by omega), if_neg (show ¬ (n.op = 14) by omega), if_neg (show ¬ (n.op = 30) by omega), if_neg (show ¬ (zam n.op = 1) by omega), if_pos (show n.op = 1 ∨ n.op = 2 ∨ (5 ≤ n.op ∧ n.op ≤ 13) by omega), if_neg (show ¬ n.op ≤ 2 by omega), if_neg (show ¬ n.op = 3 by omega), if_neg (show ¬ n.op = 4 by omega), if_neg (show ¬ n.op = 5 by omega), if_neg (show ¬ n.op ≤ 8 by omega), if_neg (show ¬ n.op = 9 by omega), if_pos (show n.op ≤ 13 by omega)]
    ac_rfl
  by_cases g14 : n.op = 14
  · have hk : zam n.op = 3 := by unfold zam; rw [if_neg (by omega), if_neg (by omega), if_pos (by omega)]
    rw [hk] at pa pb pc
    have ea : wT L (-1) n.a = a := by rcases pa with ⟨_, _, q⟩ | ⟨q, _, _⟩; exact q; exact absurd q (by decide)
    have eb : wT L (-1) n.b = b := by rcases pb with ⟨_, _, q⟩ | ⟨q, _, _⟩; exact q; exact absurd q (by decide)
    have ec : wT L (-1) n.c = c := by rcases pc with ⟨_, _, q⟩ | ⟨q, _, _⟩; exact q; exact absurd q (by decide)
    unfold zbH zbJ zbb
    rw [ea, eb, ec]
    rw [if_neg (show ¬ (zam n.op = 0) by omega), if_neg (show ¬ (n.op = 5) by omega), if_neg (show ¬ (n.op = 6 ∨ n.op = 7 ∨ n.op = 8) by omega), if_neg (show ¬ (n.op = 9) by omega), if_pos (show n.op = 14 by omega), if_neg (show ¬ (n.op = 1 ∨ n.op = 2 ∨ (5 ≤ n.op ∧ n.op ≤ 13)) by omega), if_neg (show ¬ (n.op = 3) by omega), if_neg (show ¬ (n.op = 4) by omega), if_pos (show n.op = 14 by omega), if_neg (show ¬ n.op ≤ 2 by omega), if_neg (show ¬ n.op = 3 by omega), if_neg (show ¬ n.op = 4 by omega), if_neg (show ¬ n.op = 5 by omega), if_neg (show ¬ n.op ≤ 8 by omega), if_neg (show ¬ n.op = 9 by omega), if_neg (show ¬ n.op ≤ 13 by omega), if_pos (show n.op = 14 by omega)]
    ac_rfl
  by_cases g15 : 15 ≤ n.op ∧ n.op ≤ 16
  · have hk : zam n.op = 1 := by unfold zam; rw [if_neg (by omega), if_pos (by omega)]
    rw [hk] at pa pb pc
    have ea : wT L (-1) n.a = a := by rcases pa with ⟨_, _, q⟩ | ⟨q, _, _⟩; exact q; exact absurd q (by decide)
    unfold zbH zbJ zbb
    rw [ea]
    rw [if_neg (show ¬ (zam n.op = 0) by omega), if_neg (show ¬ (n.op = 5) by omega), if_neg (show ¬ (n.op = 6 ∨ n.op = 7 ∨ n.op = 8) by omega), if_neg (show ¬ (n.op = 9) by omega), if_neg (show ¬ (n.op = 14) by omega), if_neg (show ¬ (n.op = 30) by omega), if_pos (show zam n.op = 1 by omega), if_neg (show ¬ (n.op = 1 ∨ n.op = 2 ∨ (5 ≤ n.op ∧ n.op ≤ 13)) by omega), if_neg (show ¬ (n.op = 3) by omega), if_neg (show ¬ (n.op = 4) by omega), if_neg (show ¬ (n.op = 14) by omega), if_neg (show ¬ (25 ≤ n.op ∧ n.op ≤ 29) by omega), if_neg (show ¬ (n.op = 30) by omega), if_neg (show ¬ (n.op = 31) by omega), if_neg (show ¬ (n.op = 32 ∨ n.op = 33) by omega), if_neg (show ¬ n.op ≤ 2 by omega), if_neg (show ¬ n.op = 3 by omega), if_neg (show ¬ n.op = 4 by omega), if_neg (show ¬ n.op = 5 by omega), if_neg (show ¬ n.op ≤ 8 by omega), if_neg (show ¬ n.op = 9 by omega), if_neg (show ¬ n.op ≤ 13 by omega), if_neg (show ¬ n.op = 14 by omega), if_pos (show n.op ≤ 16 by omega)]
  by_cases g17 : 17 ≤ n.op ∧ n.op ≤ 24
  · have hk : zam n.op = 2 := by unfold zam; rw [if_neg (by omega), if_neg (by omega), if_neg (by omega)]
    rw [hk] at pa pb pc
    have ea : wT L (-1) n.a = a := by rcases pa with ⟨_, _, q⟩ | ⟨q, _, _⟩; exact q; exact absurd q (by decide)
    have eb : wT L (-1) n.b = b := by rcases pb with ⟨_, _, q⟩ | ⟨q, _, _⟩; exact q; exact absurd q (by decide)
    unfold zbH zbJ zbb
    rw [ea, eb]
    rw [if_neg (show ¬ (zam n.op = 0) by omega), if_neg (show ¬ (n.op = 5) by omega), if_neg (show ¬ (n.op = 6 ∨ n.op = 7 ∨ n.op = 8) by omega), if_neg (show ¬ (n.op = 9) by omega), if_neg (show ¬ (n.op = 14) by omega), if_neg (show ¬ (n.op = 30) by omega), if_neg (show ¬ (zam n.op = 1) by omega), if_neg (show ¬ (n.op = 1 ∨ n.op = 2 ∨ (5 ≤ n.op ∧ n.op ≤ 13)) by omega), if_neg (show ¬ (n.op = 3) by omega), if_neg (show ¬ (n.op = 4) by omega), if_neg (show ¬ (n.op = 14) by omega), if_neg (show ¬ (25 ≤ n.op ∧ n.op ≤ 29) by omega), if_neg (show ¬ (n.op = 30) by omega), if_neg (show ¬ (n.op = 31) by omega), if_neg (show ¬ (n.op = 32 ∨ n.op = 33) by omega), if_neg (show ¬ n.op ≤ 2 by omega), if_neg (show ¬ n.op = 3 by omega), if_neg (show ¬ n.op = 4 by omega), if_neg (show ¬ n.op = 5 by omega), if_neg (show ¬ n.op ≤ 8 by omega), if_neg (show ¬ n.op = 9 by omega), if_neg (show ¬ n.op ≤ 13 by omega), if_neg (show ¬ n.op = 14 by omega), if_neg (show ¬ n.op ≤ 16 by omega), if_pos (show n.op ≤ 24 by omega)]
    ac_rfl
  by_cases g25 : 25 ≤ n.op ∧ n.op ≤ 29
  · have hk : zam n.op = 2 := by unfold zam; rw [if_neg (by omega), if_neg (by omega), if_neg (by omega)]
    rw [hk] at pa pb pc
    have ea : wT L (-1) n.a = a := by rcases pa with ⟨_, _, q⟩ | ⟨q, _, _⟩; exact q; exact absurd q (by decide)
    have eb : wT L (-1) n.b = b := by rcases pb with ⟨_, _, q⟩ | ⟨q, _, _⟩; exact q; exact absurd q (by decide)
    unfold zbH zbJ zbb
    rw [ea, eb]
    rw [if_neg (show ¬ (zam n.op = 0) by omega), if_neg (show ¬ (n.op = 5) by omega), if_neg (show ¬ (n.op = 6 ∨ n.op = 7 ∨ n.op = 8) by omega), if_neg (show ¬ (n.op = 9) by omega), if_neg (show ¬ (n.op = 14) by omega), if_neg (show ¬ (n.op = 30) by omega), if_neg (show ¬ (zam n.op = 1) by omega), if_neg (show ¬ (n.op = 1 ∨ n.op = 2 ∨ (5 ≤ n.op ∧ n.op ≤ 13)) by omega), if_neg (show ¬ (n.op = 3) by omega), if_neg (show ¬ (n.op = 4) by omega), if_neg (show ¬ (n.op = 14) by omega), if_pos (show 25 ≤ n.op ∧ n.op ≤ 29 by omega), if_neg (show ¬ n.op ≤ 2 by omega), if_neg (show ¬ n.op = 3 by omega), if_neg (show ¬ n.op = 4 by omega), if_neg (show ¬ n.op = 5 by omega), if_neg (show ¬ n.op ≤ 8 by omega), if_neg (show ¬ n.op = 9 by omega), if_neg (show ¬ n.op ≤ 13 by omega), if_neg (show ¬ n.op = 14 by omega), if_neg (show ¬ n.op ≤ 16 by omega), if_neg (show ¬ n.op ≤ 24 by omega), if_pos (show n.op ≤ 29 by omega)]
    ac_rfl
  by_cases g30 : n.op = 30
  · have hk : zam n.op = 2 := by unfold zam; rw [if_neg (by omega), if_neg (by omega), if_neg (by omega)]
    rw [hk] at pa pb pc
    have ea : wT L (-1) n.a = a := by rcases pa with ⟨_, _, q⟩ | ⟨q, _, _⟩; exact q; exact absurd q (by decide)
    have eb : wT L (-1) n.b = b := by rcases pb with ⟨_, _, q⟩ | ⟨q, _, _⟩; exact q; exact absurd q (by decide)
    unfold zbH zbJ zbb
    rw [ea, eb]
    rw [if_neg (show ¬ (zam n.op = 0) by omega), if_neg (show ¬ (n.op = 5) by omega), if_neg (show ¬ (n.op = 6 ∨ n.op = 7 ∨ n.op = 8) by omega), if_neg (show ¬ (n.op = 9) by omega), if_neg (show ¬ (n.op = 14) by omega), if_pos (show n.op = 30 by omega), if_neg (show ¬ (n.op = 1 ∨ n.op = 2 ∨ (5 ≤ n.op ∧ n.op ≤ 13)) by omega), if_neg (show ¬ (n.op = 3) by omega), if_neg (show ¬ (n.op = 4) by omega), if_neg (show ¬ (n.op = 14) by omega), if_neg (show ¬ (25 ≤ n.op ∧ n.op ≤ 29) by omega), if_pos (show n.op = 30 by omega), if_neg (show ¬ n.op ≤ 2 by omega), if_neg (show ¬ n.op = 3 by omega), if_neg (show ¬ n.op = 4 by omega), if_neg (show ¬ n.op = 5 by omega), if_neg (show ¬ n.op ≤ 8 by omega), if_neg (show ¬ n.op = 9 by omega), if_neg (show ¬ n.op ≤ 13 by omega), if_neg (show ¬ n.op = 14 by omega), if_neg (show ¬ n.op ≤ 16 by omega), if_neg (show ¬ n.op ≤ 24 by omega), if_neg (show ¬ n.op ≤ 29 by omega), if_pos (show n.op = 30 by omega)]
    ac_rfl
  by_cases g31 : n.op = 31
  · have hk : zam n.op = 1 := by unfold zam; rw [if_neg (by omega), if_pos (by omega)]
    rw [hk] at pa pb pc
    have ea : wT L (-1) n.a = a := by rcases pa with ⟨_, _, q⟩ | ⟨q, _, _⟩; exact q; exact absurd q (by decide)
    unfold zbH zbJ zbb
    rw [ea]
    rw [if_neg (show ¬ (zam n.op = 0) by omega), if_neg (show ¬ (n.op = 5) by omega), if_neg (show ¬ (n.op = 6 ∨ n.op = 7 ∨ n.op = 8) by omega), if_neg (show ¬ (n.op = 9) by omega), if_neg (show ¬ (n.op = 14) by omega), if_neg (show ¬ (n.op = 30) by omega), if_pos (show zam n.op = 1 by omega), if_neg (show ¬ (n.op = 1 ∨ n.op = 2 ∨ (5 ≤ n.op ∧ n.op ≤ 13)) by omega), if_neg (show ¬ (n.op = 3) by omega), if_neg (show ¬ (n.op = 4) by omega), if_neg (show ¬ (n.op = 14) by omega), if_neg (show ¬ (25 ≤ n.op ∧ n.op ≤ 29) by omega), if_neg (show ¬ (n.op = 30) by omega), if_pos (show n.op = 31 by omega), if_neg (show ¬ n.op ≤ 2 by omega), if_neg (show ¬ n.op = 3 by omega), if_neg (show ¬ n.op = 4 by omega), if_neg (show ¬ n.op = 5 by omega), if_neg (show ¬ n.op ≤ 8 by omega), if_neg (show ¬ n.op = 9 by omega), if_neg (show ¬ n.op ≤ 13 by omega), if_neg (show ¬ n.op = 14 by omega), if_neg (show ¬ n.op ≤ 16 by omega), if_neg (show ¬ n.op ≤ 24 by omega), if_neg (show ¬ n.op ≤ 29 by omega), if_neg (show ¬ n.op = 30 by omega), if_pos (show n.op = 31 by omega)]
    ac_rfl
  have hk : zam n.op = 1 := by unfold zam; rw [if_neg (by omega), if_pos (by omega)]
  rw [hk] at pa pb pc
  have ea : wT L (-1) n.a = a := by rcases pa with ⟨_, _, q⟩ | ⟨q, _, _⟩; exact q; exact absurd q (by decide)
  unfold zbH zbJ zbb
  rw [ea]
  rw [if_neg (show ¬ (zam n.op = 0) by omega), if_neg (show ¬ (n.op = 5) by omega), if_neg (show ¬ (n.op = 6 ∨ n.op = 7 ∨ n.op = 8) by omega), if_neg (show ¬ (n.op = 9) by omega), if_neg (show ¬ (n.op = 14) by omega), if_neg (show ¬ (n.op = 30) by omega), if_pos (show zam n.op = 1 by omega), if_neg (show ¬ (n.op = 1 ∨ n.op = 2 ∨ (5 ≤ n.op ∧ n.op ≤ 13)) by omega), if_neg (show ¬ (n.op = 3) by omega), if_neg (show ¬ (n.op = 4) by omega), if_neg (show ¬ (n.op = 14) by omega), if_neg (show ¬ (25 ≤ n.op ∧ n.op ≤ 29) by omega), if_neg (show ¬ (n.op = 30) by omega), if_neg (show ¬ (n.op = 31) by omega), if_pos (show n.op = 32 ∨ n.op = 33 by omega), if_neg (show ¬ n.op ≤ 2 by omega), if_neg (show ¬ n.op = 3 by omega), if_neg (show ¬ n.op = 4 by omega), if_neg (show ¬ n.op = 5 by omega), if_neg (show ¬ n.op ≤ 8 by omega), if_neg (show ¬ n.op = 9 by omega), if_neg (show ¬ n.op ≤ 13 by omega), if_neg (show ¬ n.op = 14 by omega), if_neg (show ¬ n.op ≤ 16 by omega), if_neg (show ¬ n.op ≤ 24 by omega), if_neg (show ¬ n.op ≤ 29 by omega), if_neg (show ¬ n.op = 30 by omega), if_neg (show ¬ n.op = 31 by omega)]
theorem zi2 {n : Nd} (ho : 1 ≤ n.op ∧ n.op ≤ 33) (h4 : n.op ≠ 4) (hw : 0 ≤ n.w ∧ n.w ≤ 64) (hnum : 0 ≤ n.num ∧ n.num < 18446744073709551616) (hnm : zmQ n = false) {L : List Nd} {K : List (ByteArray × Int)} {a b c : Int} (hp : zpi L n a b c) : zdt L K n = 0 ↔ zbT n a b c = true := by
  rw [zja]
  have hc := checks ho h4 hw hnum hp
  have pa := hp.a
  have pb := hp.b
  have pc := hp.c
  have hsp : zgZ (zam n.op) n = decide (n.num ≠ 0 ∧ n.op ≠ 3 ∧ n.op ≠ 31) := by
    unfold zgZ
    rw [hnm, Bool.false_and, Bool.or_false]
    have e1 : (decide (zam n.op < 1) && decide (n.a ≠ 0)) = false := by
      rcases pa with ⟨q, _, _⟩ | ⟨_, q, _⟩
      · rw [decide_eq_false (by omega)]; rfl
      · rw [q]; simp
    have e2 : (decide (zam n.op < 2) && decide (n.b ≠ 0)) = false := by
      rcases pb with ⟨q, _, _⟩ | ⟨_, q, _⟩
      · rw [decide_eq_false (by omega)]; rfl
      · rw [q]; simp
    have e3 : (decide (zam n.op < 3) && decide (n.c ≠ 0)) = false := by
      rcases pc with ⟨q, _, _⟩ | ⟨_, q, _⟩
      · rw [decide_eq_false (by omega)]; rfl
      · rw [q]; simp
    rw [e1, e2, e3]
    simp only [Bool.false_or]
    by_cases q1 : n.num ≠ 0 <;> by_cases q2 : n.op ≠ 3 <;> by_cases q3 : n.op ≠ 31 <;> simp [q1, q2, q3]
  have hpt : zb5 L n = false := by
    unfold zb5
    have e1 : (decide (zam n.op ≥ 1) && !isT L n.a) = false := by
      rcases pa with ⟨_, q, _⟩ | ⟨q, _, _⟩
      · rw [q]; simp
      · rw [decide_eq_false (by omega)]; rfl
    have e2 : (decide (zam n.op ≥ 2) && !isT L n.b) = false := by
      rcases pb with ⟨_, q, _⟩ | ⟨q, _, _⟩
      · rw [q]; simp
      · rw [decide_eq_false (by omega)]; rfl
    have e3 : (decide (zam n.op ≥ 3) && !isT L n.c) = false := by
      rcases pc with ⟨_, q, _⟩ | ⟨q, _, _⟩
      · rw [q]; simp
      · rw [decide_eq_false (by omega)]; rfl
    rw [e1, e2, e3]; rfl
  unfold zbT
  by_cases hq : n.num ≠ 0 ∧ n.op ≠ 3 ∧ n.op ≠ 31
  · rw [if_pos hq]
    rw [decide_eq_true hq] at hsp
    exact ⟨fun h => absurd hsp h.sp, fun h => absurd h (by decide)⟩
  · rw [if_neg hq, ← hc]
    rw [decide_eq_false hq] at hsp
    constructor
    · intro h
      have h1 := h.so
      have h2 := h.wi
      rw [Bool.not_eq_false] at h1 h2
      rw [h1, h2]; rfl
    · intro h
      rw [Bool.and_eq_true] at h
      exact ⟨by omega, by omega, by rw [hpt]; decide, by rw [hsp]; decide, by rw [h.1]; decide, by rw [h.2]; decide, fun q => h4 q.1⟩
end Go.AM.N14
