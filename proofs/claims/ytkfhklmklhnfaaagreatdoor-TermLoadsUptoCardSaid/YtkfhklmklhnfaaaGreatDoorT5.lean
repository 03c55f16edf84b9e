/- Part of the proof of TermLoadsUptoCardSaid: see the last file.  -/
import Derived.Test.YtkfhklmklhnfaaaGreatDoorCards
import Derived.Test.YtkfhklmklhnfaaaGreatDoorTie
import Derived.WalkKit
import Derived.ProofKit
import Derived.OpenShut
import Derived.Deep.DeepHandedRow
import Derived.Deep.DeepWitnessRowRef
import Derived.Stop.LaidErr
import Derived.Lib.LaidTab
import Derived.Lib.LaidU8
import Derived.Lib.TrailingZeros
import Derived.Lib.LaidIn
import Derived.KernelRfl
import Derived.Test.YtkfhklmklhnfaaaGreatDoorT2
import Derived.Test.YtkfhklmklhnfaaaGreatDoorT4
set_option linter.unusedSimpArgs false
set_option linter.unusedVariables false
set_option linter.unusedSectionVars false
set_option maxRecDepth 100000
namespace Go.AM
open Go
def zjJ (m : Nd) (j : Nat) : Int := if j = 0 then m.a else if j = 1 then m.b else m.c
theorem zjs {f : Fld} {w : List UInt8} {ts : List Int} {k : Nat} {n q : Nd} (h : setF f w ts k n = some q) (hk : f = .p → k < 3) (j : Nat) (hj : j < 3) : (f = .p → j = k → zjJ q j ∈ ts) ∧ ((f ≠ .p ∨ j ≠ k) → zjJ q j = zjJ n j) := by
  unfold setF at h
  cases f with
  | p =>
    dsimp only at h
    split at h
    · rename_i hv
      cases h
      have hk3 := hk rfl
      have hmem : ts.getD (zaz w - 1).toNat 0 ∈ ts := by
        rw [List.getD_eq_getElem?_getD, List.getElem?_eq_getElem (by omega)]
        exact List.getElem_mem _
      refine ⟨fun _ e => ?_, fun e => ?_⟩
      · subst e
        unfold setP zjJ
        match j, hk3 with
        | 0, _ => exact hmem
        | 1, _ => exact hmem
        | 2, _ => exact hmem
      · have e : j ≠ k := by rcases e with e | e; exact absurd rfl e; exact e
        unfold setP zjJ
        match j, hj, k, hk3, e with
        | 0, _, 0, _, e => exact absurd rfl e
        | 0, _, 1, _, _ => rfl
        | 0, _, 2, _, _ => rfl
        | 1, _, 0, _, _ => rfl
        | 1, _, 1, _, e => exact absurd rfl e
        | 1, _, 2, _, _ => rfl
        | 2, _, 0, _, _ => rfl
        | 2, _, 1, _, _ => rfl
        | 2, _, 2, _, e => exact absurd rfl e
    · cases h
  | n =>
    dsimp only at h
    split at h
    · cases h
    · split at h
      · cases h; exact ⟨fun e => (by cases e), fun _ => rfl⟩
      · cases h
  | w =>
    dsimp only at h
    split at h
    · cases h
    · cases h; exact ⟨fun e => (by cases e), fun _ => rfl⟩
  | s =>
    dsimp only at h
    cases h; exact ⟨fun e => (by cases e), fun _ => rfl⟩
theorem ziW : ∀ (fs : List Fld) (ws : List (List UInt8)) (ts : List Int) (k : Nat) (n m : Nd) (ws' : List (List UInt8)), rdF fs ws ts k n = some (m, ws') → k + fs.count .p ≤ 3 → ∀ j, j < 3 → (k ≤ j → j < k + fs.count .p → zjJ m j ∈ ts) ∧ (j < k → zjJ m j = zjJ n j)
  | [], ws, ts, k, n, m, ws', h, hc, j, hj => by
    cases h
    exact ⟨fun h1 h2 => by simp at h2; omega, fun _ => rfl⟩
  | f :: fs, [], ts, k, n, m, ws', h, hc, j, hj => by cases h
  | f :: fs, w :: ws, ts, k, n, m, ws', h, hc, j, hj => by
    rw [zbW] at h
    rw [List.count_cons] at hc ⊢
    cases hs : setF f w ts k n with
    | none => rw [hs] at h; cases h
    | some q =>
      rw [hs] at h
      dsimp only at h
      by_cases hf : f = .p
      · subst hf
        have e1 : (Fld.p == Fld.p) = true := by decide
        rw [e1, if_pos rfl] at hc
        rw [e1, if_pos rfl]
        rw [if_pos rfl] at h
        obtain ⟨s1, s2⟩ := zjs hs (fun _ => by omega) j hj
        obtain ⟨i1, i2⟩ := ziW fs ws ts (k + 1) q m ws' h (by omega) j hj
        refine ⟨fun h1 h2 => ?_, fun h1 => ?_⟩
        · by_cases e : j = k
          · rw [i2 (by omega)]; exact s1 rfl e
          · exact i1 (by omega) (by omega)
        · rw [i2 (by omega)]; exact s2 (.inr (by omega))
      · have e1 : (f == Fld.p) = false := by rw [beq_eq_false_iff_ne]; exact hf
        rw [e1] at hc ⊢
        rw [if_neg hf] at h
        simp only [Bool.false_eq_true, if_false, Nat.add_zero] at hc ⊢
        obtain ⟨s1, s2⟩ := zjs hs (fun e => absurd e hf) j hj
        obtain ⟨i1, i2⟩ := ziW fs ws ts k q m ws' h hc j hj
        exact ⟨i1, fun h1 => by rw [i2 h1]; exact s2 (.inl hf)⟩
theorem setF_w {f : Fld} {w : List UInt8} {ts : List Int} {k : Nat} {n q : Nd} (h : setF f w ts k n = some q) (hf : f ≠ .w) : q.w = n.w := by
  unfold setF at h
  cases f with
  | p =>
    dsimp only at h
    split at h
    · cases h; unfold setP; split
      · rfl
      · split <;> rfl
    · cases h
  | n =>
    dsimp only at h
    split at h
    · cases h
    · split at h
      · cases h; rfl
      · cases h
  | w => exact absurd rfl hf
  | s => dsimp only at h; cases h; rfl
theorem rdF_w : ∀ (fs : List Fld) (ws : List (List UInt8)) (ts : List Int) (k : Nat) (n m : Nd) (ws' : List (List UInt8)), rdF fs ws ts k n = some (m, ws') → Fld.w ∉ fs → m.w = n.w
  | [], ws, ts, k, n, m, ws', h, hc => by cases h; rfl
  | f :: fs, [], ts, k, n, m, ws', h, hc => by cases h
  | f :: fs, w :: ws, ts, k, n, m, ws', h, hc => by
    rw [zbW] at h
    cases hs : setF f w ts k n with
    | none => rw [hs] at h; cases h
    | some q =>
      rw [hs] at h
      rw [rdF_w fs ws ts _ q m ws' h fun e => hc (List.mem_cons_of_mem _ e)]
      exact setF_w hs fun e => hc (e ▸ List.mem_cons_self ..)
theorem nodeD_ok {ws : List (List UInt8)} {ts : List Int} {m : Nd} (h : zjV ws ts = some m) : 1 ≤ m.op ∧ m.op ≤ 33 ∧ zk3 m ∧ (zak m.op ≥ 1 → m.a ∈ ts) ∧ (zak m.op ≥ 2 → m.b ∈ ts) ∧ (m.op = 30 → m.w = 0) := by
  unfold zjV at h
  match ws with
  | [] => cases h
  | [a] => cases h
  | w0 :: o :: r =>
    dsimp only at h
    split at h
    · cases ho : opF o with
      | none => rw [ho] at h; cases h
      | some op =>
        rw [ho] at h
        dsimp only at h
        have hob := opF_bd ho
        cases hr : rdF (zcD (op : Int)) r ts 0 (nd0 (op : Int)) with
        | none => rw [hr] at h; cases h
        | some q =>
          obtain ⟨m', w'⟩ := q
          rw [hr] at h
          cases w' with
          | cons a b => cases h
          | nil =>
            cases h
            have h1 := zhb _ _ _ _ _ _ _ hr
            have hop : m.op = (op : Int) := h1.1
            have hall : ((List.range 34).all fun op => decide ((zcD (op : Int)).count .p = (zak (op : Int)).toNat)) = true := by decide +kernel
            have hcnt : (zcD (op : Int)).count .p = (zak (op : Int)).toNat := of_decide_eq_true (List.all_eq_true.1 hall op (List.mem_range.2 (by omega)))
            have hp := zjG (op : Int)
            have hpart := ziW _ _ _ _ _ _ _ hr (by rw [hcnt]; omega)
            rw [hop]
            refine ⟨by omega, by omega, h1.2 ⟨by show (0 : Int) ≤ 0; decide, by show (0 : Int) < 18446744073709551616; decide⟩, fun e => (hpart 0 (by decide)).1 (Nat.le_refl _) (by rw [hcnt]; omega), fun e => (hpart 1 (by decide)).1 (Nat.zero_le _) (by rw [hcnt]; omega), fun e => ?_⟩
            have : op = 30 := by omega
            subst this
            have hnw : Fld.w ∉ zcD ((30 : Nat) : Int) := by decide
            exact rdF_w _ _ _ _ _ _ _ hr hnw
    · cases h
theorem q_implied {H : Hp} {st f g : Nat} {lim : Int} {L : List Nd} {K : List (ByteArray × Int)} {sl : Value} (hS : StF H st lim L K sl f g) (hR : zh1 L) {m : Nd} (h1 : 1 ≤ m.op ∧ m.op ≤ 33) (ha : zak m.op ≥ 1 → isT L m.a = true) (hb : zak m.op ≥ 2 → isT L m.b = true) (hw : m.op = 30 → m.w = 0) :
    RR F.a52 [.pointer (some ⟨st, 0, none⟩), m.val] H = some (.int .i64 (zb2 L m), H) := by
  have hrun := zcR E0 rfl (.pointer (some ⟨st, 0, none⟩)) m.val H
  unfold zbD at hrun
  have o0 : ∀ {α : Type} (kk : Value → Option α), zad 1 false (zaa m.val) 0 kk = kk (.int .i64 m.op) := fun kk => zdk _ 0 _ rfl kk
  have o1 : ∀ {α : Type} (kk : Value → Option α), zad 1 false (zaa m.val) 1 kk = kk (.int .i64 m.w) := fun kk => zdk _ 1 _ rfl kk
  have o2 : ∀ {α : Type} (kk : Value → Option α), zad 1 false (zaa m.val) 2 kk = kk (.int .i64 m.a) := fun kk => zdk _ 2 _ rfl kk
  have o3 : ∀ {α : Type} (kk : Value → Option α), zad 1 false (zaa m.val) 3 kk = kk (.int .i64 m.b) := fun kk => zdk _ 3 _ rfl kk
  have ba := zjo hR.w m.a
  have bb := zjo hR.w m.b
  refine hrun.trans ?_
  unfold zb2
  simp only [o0, o1, o2, o3, zaX, zbp, zbP, zac, s_br]
  by_cases h14 : m.op = 14
  · have hp : zak m.op ≥ 2 := by rw [h14]; decide
    rw [if_pos h14]
    simp only [h14, decide_true, if_true, zaj (c54 hS.st hR.len (hb hp) (-1))]
  · rw [if_neg h14]
    by_cases h30 : m.op = 30
    · have hp : zak m.op ≥ 2 := by rw [h30]; decide
      have hp1 : zak m.op ≥ 1 := by rw [h30]; decide
      rw [if_pos h30]
      have hsum : IntKind.i64.wrap (wT L (-1) m.a + wT L (-1) m.b) = wT L (-1) m.a + wT L (-1) m.b := zb3 (by omega) (by omega)
      by_cases hs : wT L (-1) m.a + wT L (-1) m.b ≤ 64
      · rw [if_neg (show ¬ (wT L (-1) m.a + wT L (-1) m.b > 64) by omega)]
        simp only [h30, show ¬ ((30 : Int) = 14) from by decide, show ¬ ((30 : Int) = 15) from by decide, show ¬ ((30 : Int) = 16) from by decide, show ((30 : Int) ≥ 17) from by decide, show ¬ ((30 : Int) ≤ 29) from by decide, decide_true, decide_false, Bool.false_eq_true, if_true, if_false, zan, zaA, qg0, zac, s_br,
          zaj (c54 hS.st hR.len (ha hp1) (-1)), zaj (c54 hS.st hR.len (hb hp) (-1)), za2, hsum, zbP, hs]
      · rw [if_pos (show (wT L (-1) m.a + wT L (-1) m.b > 64) by omega)]
        simp only [h30, show ¬ ((30 : Int) = 14) from by decide, show ¬ ((30 : Int) = 15) from by decide, show ¬ ((30 : Int) = 16) from by decide, show ((30 : Int) ≥ 17) from by decide, show ¬ ((30 : Int) ≤ 29) from by decide, decide_true, decide_false, Bool.false_eq_true, if_true, if_false, zan, zaA, qg0, zac, s_br,
          zaj (c54 hS.st hR.len (ha hp1) (-1)), zaj (c54 hS.st hR.len (hb hp) (-1)), za2, hsum, zbP, hs]
        rw [hw h30]
    · rw [if_neg h30]
      by_cases h15 : 15 ≤ m.op ∧ m.op ≤ 29
      · rw [if_pos h15]
        have hp1 : zak m.op ≥ 1 := by
          unfold zak
          rw [if_neg (by omega)]
          split
          · decide
          · first | decide | (split <;> decide)
        have c := zaj (c54 hS.st hR.len (ha hp1) (-1)) (fun r24 H25 => some (r24, H25))
        by_cases q1 : m.op = 15
        · simp only [h14, q1, decide_true, decide_false, Bool.false_eq_true, if_true, if_false, zan, zaA, qg0, zac, s_br, show ¬ ((15 : Int) = 14) from by decide]
          exact c
        · by_cases q2 : m.op = 16
          · simp only [h14, q2, decide_true, decide_false, Bool.false_eq_true, if_true, if_false, zan, zaA, qg0, zac, s_br, show ¬ ((16 : Int) = 14) from by decide, show ¬ ((16 : Int) = 15) from by decide]
            exact c
          · have q3 : m.op ≥ 17 := by omega
            have q4 : m.op ≤ 29 := h15.2
            simp only [h14, q1, q2, q3, q4, decide_true, decide_false, Bool.false_eq_true, if_true, if_false, zan, zaA, qg0, zac, s_br]
            exact c
      · rw [if_neg h15]
        have q1 : ¬ m.op = 15 := by omega
        have q2 : ¬ m.op = 16 := by omega
        by_cases q3 : m.op ≥ 17
        · have q4 : ¬ m.op ≤ 29 := by omega
          simp only [h14, h30, q1, q2, q3, q4, decide_true, decide_false, Bool.false_eq_true, if_true, if_false, zan, zaA, qg0, zac, s_br]
        · simp only [h14, h30, q1, q2, q3, decide_true, decide_false, Bool.false_eq_true, if_true, if_false, zan, zaA, qg0, zac, s_br]
theorem wds_word {H : Hp} {x0 : Value} {ws : List (List UInt8)} (h : Wds H x0 ws) {j : Nat} {w : List UInt8} (hj : ws[j]? = some w) :
    ∃ y, (∀ (α : Type) (k : Value → Option α), pIdx 1 x0 (.int .i64 (j : Int)) k = k (.pointer (some y))) ∧ Hp.rdP H (.pointer (some y)) 1 false = some (str w) := by
  have hlt : j < ws.length := (List.getElem?_eq_some_iff.1 hj).1
  rcases h with ⟨rfl, _⟩ | ⟨y, c, pre, rest, own, rfl, h1, h2, h3⟩
  · cases hj
  · refine ⟨⟨y, pre.length + j * 1, none⟩, fun α k => ?_, ze3 h2 (pre.length + j * 1) (str w) ?_⟩
    · have e : idxV 1 (.slice (some ⟨y, pre.length, some 1⟩) ws.length c) (.int .i64 (j : Int)) = some (.pointer (some ⟨y, pre.length + j * 1, none⟩)) := by
        unfold idxV
        dsimp only
        rw [if_pos ⟨rfl, by omega, by omega⟩]
        rfl
      unfold pIdx
      rw [e]
    · rw [Nat.mul_one, List.append_assoc, List.getElem?_append_right (by omega), Nat.add_sub_cancel_left, List.getElem?_append_left (by rw [List.length_map]; exact hlt), List.getElem?_map, hj]; rfl
theorem partF_eq (ts : List Int) (w : List UInt8) (r : List (List UInt8)) : zi0 ts (w :: r) = if 1 ≤ zaz w ∧ zaz w ≤ ts.length then some (ts.getD (zaz w - 1).toNat 0) else none := by
  unfold zi0 numF
  dsimp only
  by_cases h : zaz w < 0
  · rw [if_pos h, if_neg (by omega)]
  · rw [if_neg h]
theorem zgq {B : Nat} {x0 x1 : Value} {ws : List (List UInt8)} {ts : List Int} (hsh : ∀ w ∈ ws, w.length ≤ 2 ^ 40) (htl : ts.length ≤ 2 ^ 40) (hwl : ws.length ≤ 2 ^ 40) (h0 : ∀ j, Id x0 j → j < B) (h1 : ∀ j, Id x1 j → j < B) : ∀ (rest : List (List UInt8)) (i : Nat) (acc : List Int) (av : Value) (H : Hp), ws.drop i = rest → i ≤ ws.length → acc.length = i → B ≤ H.next → Wds H x0 ws → Rdb H 1 x1 ts.length (i64s ts) → Vec H 1 av acc.length (i64s acc) → (∀ j, Id av j → B ≤ j) →
    match zbV ts rest with
    | none => ∃ H', zaE (zav RR x0 x1) [av, .int .i64 (i : Int)] H = some (.ret, [.tuple #[.slice none 0 0, .bool false]], H') ∧ Frm (B ≤ ·) H H'
    | some l => ∃ H' av' b, zaE (zav RR x0 x1) [av, .int .i64 (i : Int)] H = some (.exit 0, [av', b], H') ∧ Vec H' 1 av' (acc ++ l).length (i64s (acc ++ l)) ∧ (∀ j, Id av' j → B ≤ j) ∧ Frm (B ≤ ·) H H'
  | [], i, acc, av, H, hr, hi, hk, hB, hw, ht, hv, hid => by
    have hil : i = ws.length := by
      have := congrArg List.length hr
      rw [List.length_drop] at this
      simp at this
      omega
    have this : zav RR x0 x1 [av, .int .i64 (i : Int)] H = some (.exit 0, [av, .int .i64 (i : Int)], H) := by
      unfold zav
      have e1 : ¬ ((i : Int) < (ws.length : Int)) := by omega
      simp only [qg0, qg1, hw.len, zaP, zac, s_br, e1, decide_false, Bool.false_eq_true, if_false]
    exact ⟨H, av, _, by rw [zam, this]; rfl, by rw [List.append_nil]; exact hv, hid, Frm.refl _ _⟩
  | w :: r, i, acc, av, H, hr, hi, hk, hB, hw, ht, hv, hid => by
    have hlt : i < ws.length := by
      have := congrArg List.length hr
      rw [List.length_drop] at this
      simp at this
      omega
    have hget : ws[i]? = some w := by
      have := congrArg (fun x => x[0]?) hr
      simpa using this
    have hr2 : ws.drop (i + 1) = r := by rw [← List.drop_drop, hr]; rfl
    obtain ⟨y, hix, hrd⟩ := wds_word hw hget
    have hsm := zkz w (hsh w (List.mem_of_getElem? hget)) H
    have e1 : ((i : Int) < (ws.length : Int)) := by omega
    have hb := zg3 w
    unfold zbV
    rw [partF_eq]
    by_cases hp : 1 ≤ zaz w ∧ zaz w ≤ ts.length
    · rw [if_pos hp]
      have p1 : ¬ (zaz w < 1) := by omega
      have p2 : ¬ (zaz w > (ts.length : Int)) := by omega
      have e3 : IntKind.i64.wrap (zaz w - 1) = (((zaz w - 1).toNat : Nat) : Int) := by rw [w64 (by omega) (by omega)]; omega
      obtain ⟨y2, hix2, hrd2⟩ := rd_int ht (j := (zaz w - 1).toNat) (by omega)
      obtain ⟨av', H1, a1, a2, a3, a4⟩ := zgM hv (by omega) (ts.getD (zaz w - 1).toNat 0) 0
      have hinc : IntKind.i64.wrap ((i : Int) + 1) = ((i + 1 : Nat) : Int) := w64 (by omega) (by omega)
      have hb1 : ∀ {α : Type} (k : Value → Hp → Option α), (zap 1 [.int .i64 0] 1 [(0, .int .i64 (ts.getD (zaz w - 1).toNat 0))] H fun v18 H19 => zaQ 1 8 av v18 H19 k) = k av' H1 := fun k => by rw [zfH, a1]
      have this : zav RR x0 x1 [av, .int .i64 (i : Int)] H = some (.next, [av', .int .i64 ((i + 1 : Nat) : Int)], H1) := by
        unfold zav
        simp only [qg0, qg1, hw.len, zaP, zac, s_br, e1, decide_true, if_true, hix, zhD hrd, zaj hsm, p1, decide_false, Bool.false_eq_true, if_false, ht.len, zbi, p2, zcY, e3, hix2, zhD hrd2, hb1, za2, hinc]
      have f1 : Frm (B ≤ ·) H H1 := a3.mono fun j q => .inl (hid j q)
      have ih := zgq hsh htl hwl h0 h1 r (i + 1) (acc ++ [ts.getD (zaz w - 1).toNat 0]) av' H1 hr2 hlt (by rw [List.length_append, hk]; rfl) (Nat.le_trans hB f1.next)
        (hw.keep f1 fun j hj q => by have := h0 j hj; omega) (ht.keep f1 fun j hj q => by have := h1 j hj; omega) a2 fun j hj => by
          rcases a4 j hj with q | q
          · exact hid j q
          · omega
      rw [zam, this]
      dsimp only
      cases hq : zbV ts r with
      | none =>
        rw [hq] at ih
        obtain ⟨H', c1, c2⟩ := ih
        exact ⟨H', c1, f1.trans c2 fun j q => .inl q⟩
      | some l =>
        rw [hq] at ih
        obtain ⟨H', v', b, c1, c2, c3, c4⟩ := ih
        rw [List.append_assoc] at c2
        exact ⟨H', v', b, c1, c2, c3, f1.trans c4 fun j q => .inl q⟩
    · rw [if_neg hp]
      refine ⟨H, ?_, Frm.refl _ _⟩
      have this : zav RR x0 x1 [av, .int .i64 (i : Int)] H = some (.ret, [.tuple #[.slice none 0 0, .bool false]], H) := by
        unfold zav
        by_cases p1 : zaz w < 1
        · simp only [qg0, qg1, hw.len, zaP, zac, s_br, e1, decide_true, if_true, hix, zhD hrd, zaj hsm, p1]
        · have p2 : (zaz w > (ts.length : Int)) := by omega
          simp only [qg0, qg1, hw.len, zaP, zac, s_br, e1, decide_true, if_true, hix, zhD hrd, zaj hsm, p1, decide_false, Bool.false_eq_true, if_false, ht.len, zbi, p2]
      rw [zam, this]; rfl
theorem q_roots {H : Hp} {x0 x1 : Value} {ws : List (List UInt8)} {ts : List Int} (hw : Wds H x0 ws) (ht : Rdb H 1 x1 ts.length (i64s ts)) (hsh : ∀ w ∈ ws, w.length ≤ 2 ^ 40) (htl : ts.length ≤ 2 ^ 40) (hwl : ws.length ≤ 2 ^ 40) :
    match zbV ts ws with
    | none => ∃ H', RR F.a22 [x0, x1] H = some (.tuple #[.slice none 0 0, .bool false], H') ∧ Frm (fun _ => False) H H'
    | some l => ∃ H' v, RR F.a22 [x0, x1] H = some (.tuple #[v, .bool true], H') ∧ Vec H' 1 v l.length (i64s l) ∧ (∀ j, Id v j → H.next ≤ j) ∧ Frm (fun _ => False) H H' := by
  have hrun := zeP E0 rfl x0 x1 H
  rw [zeW] at hrun
  have hw0 : ∀ j, Id x0 j → j < H.next := fun j hj => by
    rcases hw with ⟨_, e⟩ | ⟨y, c, pre, rest, own, e, _, _, hlt⟩
    · rw [e] at hj; cases hj
    · rw [e] at hj
      have e2 : y = j := Option.some.inj hj
      rw [← e2]; exact hlt
  have hl := zgq (B := H.next) hsh htl hwl hw0 (fun j hj => ht.lt hj) ws 0 [] (.slice none 0 0) H rfl (Nat.zero_le _) rfl (Nat.le_refl _) hw ht (Vec.nil H 1) fun j hj => by cases hj
  cases hq : zbV ts ws with
  | none =>
    rw [hq] at hl
    obtain ⟨H', h1, h2⟩ := hl
    have h1 : zaE (zav RR x0 x1) [.slice none 0 0, .int .i64 0] H = _ := h1
    rw [h1, zan, zbx] at hrun
    exact ⟨H', hrun, h2.mono fun j q => .inr q⟩
  | some l =>
    rw [hq] at hl
    obtain ⟨H', v, b, h1, h2, h3, h4⟩ := hl
    have h1 : zaE (zav RR x0 x1) [.slice none 0 0, .int .i64 0] H = _ := h1
    rw [h1, zan, zbe, zaO] at hrun
    exact ⟨H', v, hrun, h2, h3, h4.mono fun j q => .inr q⟩
end Go.AM
namespace Go.AM
open Go
theorem spn_miss {b : UInt8} (hb : (b == 32) = false) (r : List UInt8) (i : Nat) (st : Option Nat) : spn (b :: r) i st = spn r (i + 1) (some (st.getD i)) := by
  conv => lhs; unfold spn
  rw [hb]
theorem zlW (l : List UInt8) (hl : l.length ≤ 2 ^ 40) : ∀ (m i : Nat) (done : List (List UInt8)) (st : Option Nat) (z : Int) (v : Value) (H : Hp), i + m = l.length → stV st z → (∀ a, st = some a → a ≤ i) → done.length ≤ i → Vec H 1 v done.length (done.map str) →
    ∃ H' v' z', zaE (zal RR (str l)) [v, .int .i64 z, .int .i64 (i : Int)] H = some (.exit 0, [v', .int .i64 z', .int .i64 ((l.length + 1 : Nat) : Int)], H') ∧
      Vec H' 1 v' (done ++ (spn (l.drop i) i st).map (zbd l)).length ((done ++ (spn (l.drop i) i st).map (zbd l)).map str) ∧ Frm (Id v) H H' ∧ (∀ j, Id v' j → Id v j ∨ H.next ≤ j) := by
  have e2 : ∀ {α : Type} (H : Hp) (k : Value → Option α), pLen .str (str l) H k = k (.int .i64 (l.length : Int)) := fun H k => by
    show k (.int .i64 ((ba l).size : Int)) = _
    rw [zbz]
  have stop : ∀ (v : Value) (z : Int) (H : Hp), zaE (zal RR (str l)) [v, .int .i64 z, .int .i64 ((l.length + 1 : Nat) : Int)] H = some (.exit 0, [v, .int .i64 z, .int .i64 ((l.length + 1 : Nat) : Int)], H) := fun v z H => by
    have h1 : ¬ (((l.length + 1 : Nat) : Int) ≤ (l.length : Int)) := by omega
    have this : zal RR (str l) [v, .int .i64 z, .int .i64 ((l.length + 1 : Nat) : Int)] H = some (.exit 0, [v, .int .i64 z, .int .i64 ((l.length + 1 : Nat) : Int)], H) := by
      unfold zal
      simp only [e2, qg0, qg1, zbP, zac, s_br, h1, decide_false, Bool.false_eq_true, if_false]
    rw [zam, this]
    rfl
  have hone : ∀ x : List UInt8, zaa (str x) = [str x] := fun x => rfl
  intro m
  induction m with
  | zero =>
    intro i done st z v H hi hst hsti hdl hv
    have hil : i = l.length := by omega
    subst hil
    rw [List.drop_length]
    have h1 : ((l.length : Int) ≤ (l.length : Int)) := by omega
    have h2 : ¬ ((l.length : Int) < (l.length : Int)) := by omega
    have hinc : IntKind.i64.wrap ((l.length : Int) + 1) = ((l.length + 1 : Nat) : Int) := w64 (by omega) (by omega)
    cases st with
    | none =>
      have hz : ¬ z ≥ 0 := by have : z < 0 := hst; omega
      have this : zal RR (str l) [v, .int .i64 z, .int .i64 (l.length : Int)] H = some (.next, [v, .int .i64 (-1), .int .i64 ((l.length + 1 : Nat) : Int)], H) := by
        unfold zal
        simp only [e2, qg0, qg1, zbP, zaP, zac, s_br, h1, h2, decide_true, decide_false, Bool.false_eq_true, if_false, if_true, zbp, hz, za2, hinc]
      refine ⟨H, v, -1, ?_, by simpa [spn] using hv, Frm.refl _ _, fun j hj => .inl hj⟩
      rw [zam, this]
      exact stop v (-1) H
    | some a =>
      have hza : z = (a : Int) := hst
      have hz : z ≥ 0 := by omega
      have hal := hsti a rfl
      obtain ⟨v2, H2, hpu, hv2, hf2, hid2, _⟩ := hv.push (bytes := 16) (zs := [str []]) (x := str (zbd l (a, l.length))) (by omega) (by omega) rfl rfl rfl (by omega)
      have hpu' : ∀ (α : Type) (k : Value → Hp → Option α), (zap 1 [Value.string ⟨#[]⟩] 1 [(0, str (zbd l (a, l.length)))] H fun t H1 => zaQ 1 16 v t H1 k) = k v2 H2 := hpu
      have this : zal RR (str l) [v, .int .i64 z, .int .i64 (l.length : Int)] H = some (.next, [v2, .int .i64 (-1), .int .i64 ((l.length + 1 : Nat) : Int)], H2) := by
        unfold zal
        simp only [e2, qg0, qg1, zbP, zaP, zac, s_br, h1, h2, decide_true, decide_false, Bool.false_eq_true, if_false, if_true, zbp, hz]
        rw [hza, zlg l hal (Nat.le_refl _), hpu', za2, hinc]
      refine ⟨H2, v2, -1, ?_, ?_, hf2, hid2⟩
      · rw [zam, this]
        exact stop v2 (-1) H2
      · rw [hone] at hv2
        simpa [spn] using hv2
  | succ m ih =>
    intro i done st z v H hi hst hsti hdl hv
    have hlt : i < l.length := by omega
    have h1 : ((i : Int) ≤ (l.length : Int)) := by omega
    have h2 : ((i : Int) < (l.length : Int)) := by omega
    have hinc : IntKind.i64.wrap ((i : Int) + 1) = ((i + 1 : Nat) : Int) := w64 (by omega) (by omega)
    have hdrop : l.drop i = l[i] :: l.drop (i + 1) := List.drop_eq_getElem_cons hlt
    have hat : ∀ {α : Type} (k : Value → Option α), zaU (str l) (.int .i64 (i : Int)) k = k (.int .u8 (l[i].toNat : Int)) := fun k => f_at (ba l) .i64 i l[i] (by rw [zdC]; exact List.getElem?_eq_getElem hlt) k
    rw [hdrop]
    generalize l[i] = b at hat
    by_cases hb : b = 32
    · have hb' : (b == 32) = true := by rw [hb]; rfl
      have hbi : ¬ ((b.toNat : Int) ≠ 32) := by rw [hb]; decide
      cases st with
      | none =>
        have hz : ¬ z ≥ 0 := by have : z < 0 := hst; omega
        have this : zal RR (str l) [v, .int .i64 z, .int .i64 (i : Int)] H = some (.next, [v, .int .i64 (-1), .int .i64 ((i + 1 : Nat) : Int)], H) := by
          unfold zal
          simp only [e2, qg0, qg1, zbP, zaP, zac, s_br, h1, h2, decide_true, decide_false, Bool.false_eq_true, if_false, if_true, hat, zbb, hbi, zbp, hz, za2, hinc]
        obtain ⟨H', v', z', g1, g2⟩ := ih (i + 1) done none (-1) v H (by omega) (by show (-1 : Int) < 0; decide) (fun a ha => by cases ha) (by omega) hv
        rw [zgN hb']
        exact ⟨H', v', z', by rw [zam, this]; exact g1, g2⟩
      | some a =>
        have hza : z = (a : Int) := hst
        have hz : z ≥ 0 := by omega
        have hal := hsti a rfl
        obtain ⟨v2, H2, hpu, hv2, hf2, hid2, _⟩ := hv.push (bytes := 16) (zs := [str []]) (x := str (zbd l (a, i))) (by omega) (by omega) rfl rfl rfl (by omega)
        have hpu' : ∀ (α : Type) (k : Value → Hp → Option α), (zap 1 [Value.string ⟨#[]⟩] 1 [(0, str (zbd l (a, i)))] H fun t H1 => zaQ 1 16 v t H1 k) = k v2 H2 := hpu
        have this : zal RR (str l) [v, .int .i64 z, .int .i64 (i : Int)] H = some (.next, [v2, .int .i64 (-1), .int .i64 ((i + 1 : Nat) : Int)], H2) := by
          unfold zal
          simp only [e2, qg0, qg1, zbP, zaP, zac, s_br, h1, h2, decide_true, decide_false, Bool.false_eq_true, if_false, if_true, hat, zbb, hbi, zbp, hz]
          rw [hza, zlg l hal (by omega), hpu', za2, hinc]
        have hv3 : Vec H2 1 v2 (done ++ [zbd l (a, i)]).length ((done ++ [zbd l (a, i)]).map str) := by
          rw [hone] at hv2
          simpa using hv2
        obtain ⟨H', v', z', g1, g2, g3, g4⟩ := ih (i + 1) (done ++ [zbd l (a, i)]) none (-1) v2 H2 (by omega) (by show (-1 : Int) < 0; decide) (fun a ha => by cases ha) (by simp; omega) hv3
        rw [ziL hb']
        refine ⟨H', v', z', by rw [zam, this]; exact g1, by simpa using g2, hf2.trans g3 hid2, fun j hj => ?_⟩
        rcases g4 j hj with q | q
        · exact hid2 j q
        · exact .inr (Nat.le_trans hf2.next q)
    · have hb' : (b == 32) = false := by rw [beq_eq_false_iff_ne]; exact hb
      have hbi : ((b.toNat : Int) ≠ 32) := u8ne hb
      rw [spn_miss hb']
      cases st with
      | none =>
        have hz : z < 0 := hst
        have this : zal RR (str l) [v, .int .i64 z, .int .i64 (i : Int)] H = some (.next, [v, .int .i64 (i : Int), .int .i64 ((i + 1 : Nat) : Int)], H) := by
          unfold zal
          simp only [e2, qg0, qg1, zbP, zaP, zac, s_br, h1, h2, decide_true, decide_false, Bool.false_eq_true, if_false, if_true, hat, zbb, hbi, hz, za2, hinc, ne_eq, not_false_eq_true]
        obtain ⟨H', v', z', g1, g2⟩ := ih (i + 1) done (some i) (i : Int) v H (by omega) rfl (fun a ha => by cases ha; omega) (by omega) hv
        exact ⟨H', v', z', by rw [zam, this]; exact g1, g2⟩
      | some a =>
        have hza : z = (a : Int) := hst
        have hz : ¬ z < 0 := by omega
        have hal := hsti a rfl
        have this : zal RR (str l) [v, .int .i64 z, .int .i64 (i : Int)] H = some (.next, [v, .int .i64 z, .int .i64 ((i + 1 : Nat) : Int)], H) := by
          unfold zal
          simp only [e2, qg0, qg1, zbP, zaP, zac, s_br, h1, h2, decide_true, decide_false, Bool.false_eq_true, if_false, if_true, hat, zbb, hbi, hz, za2, hinc, ne_eq, not_false_eq_true]
        obtain ⟨H', v', z', g1, g2⟩ := ih (i + 1) done (some a) z v H (by omega) hst (fun a ha => by cases ha; omega) (by omega) hv
        exact ⟨H', v', z', by rw [zam, this]; exact g1, g2⟩
theorem q_words (l : List UInt8) (hl : l.length ≤ 2 ^ 40) (H : Hp) : ∃ v H', RR F.a35 [str l] H = some (v, H') ∧ Vec H' 1 v (za0 l).length ((za0 l).map str) ∧ Frm (fun _ => False) H H' ∧ ∀ j, Id v j → H.next ≤ j := by
  obtain ⟨H', v', z', g1, g2, g3, g4⟩ := zlW l hl l.length 0 [] none (-1) (.slice none 0 0) H (by omega) (by show (-1 : Int) < 0; decide) (fun a ha => by cases ha) (Nat.le_refl _) (Vec.nil H 1)
  refine ⟨v', H', ?_, g2, g3.mono fun j hj => (by cases hj), fun j hj => ?_⟩
  · refine (zeN E0 rfl _ H).trans ?_
    rw [zeV]
    have g1' : zaE (zal RR (str l)) [(.slice none 0 0), (.int .i64 (-1)), (.int .i64 0)] H = _ := g1
    rw [g1', zan, zbe, zaO]
    rfl
  · rcases g4 j hj with q | q
    · cases q
    · exact q
end Go.AM
namespace Go.AM
open Go
theorem zgh : za9 [] = [] := by
  have h : cutB 10 [] = [[]] := rfl
  unfold za9
  rw [h]; rfl
theorem zkc : ∀ (a r : List UInt8), 10 ∉ a → cutB 10 (a ++ 10 :: r) = a :: cutB 10 r
  | [], r, _ => by
    show cutB 10 (10 :: r) = _
    rw [zlR (by rfl)]
  | b :: a, r, h => by
    have hb : (b == 10) = false := by rw [beq_eq_false_iff_ne]; exact fun e => h (e ▸ List.mem_cons_self ..)
    rw [List.cons_append, zkd hb (zkc a r fun q => h (List.mem_cons_of_mem _ q))]
theorem zkM (a r : List UInt8) (h : 10 ∉ a) : za9 (a ++ 10 :: r) = a :: za9 r := by
  have hc : (a ++ 10 :: r).count 10 = r.count 10 + 1 := by
    rw [List.count_append, List.count_eq_zero.2 h, List.count_cons_self]; omega
  unfold za9
  rw [zkc a r h, hc, qg1, List.take_succ_cons]
  split <;> rfl
theorem zmj (a : List UInt8) (h : 10 ∉ a) (h0 : a ≠ []) : za9 a = [a] := by
  have hc : a.count 10 = 0 := List.count_eq_zero.2 h
  unfold za9
  rw [zfZ 10 a hc, hc, qg0, if_neg h0]
theorem zjZ {r : List UInt8} (h : za9 r = []) : r = [] := by
  have hl := zeK 10 r
  unfold za9 at h
  split at h
  · rename_i he
    have hc : r.count 10 = 0 := by
      have := congrArg List.length h
      rw [List.length_take] at this
      simp at this
      rcases this with q | q
      · exact q
      · rw [q] at hl; simp at hl
    rw [zfZ 10 r hc, hc, qg0] at he
    exact he
  · rw [h] at hl; simp at hl
def DocA (B : Nat) (H : Hp) (st f g : Nat) (lim : Int) (X : Option Outc) : LdR → Prop
  | .bad ln e => ∃ H', (X = some (.ret, [.tuple #[.pointer none, .slice none 0 0, .int .i64 (ln : Int), .int .i64 e]], H') ∨ (∃ a b c, X = some (.exit 0, [a, b, .int .i64 ((ln - 1 : Nat) : Int), c], H') ∧ e = 3 ∧ 1 ≤ ln ∧ ln ≤ 2 ^ 40)) ∧ Frm (B ≤ ·) H H'
  | .good L K q => ∃ H' sl v, X = some (.ret, [.tuple #[.pointer (some ⟨st, 0, none⟩), v, .int .i64 0, .int .i64 0]], H') ∧ StF H' st lim L K sl f g ∧ Vec H' 1 v q.length (i64s q) ∧ (∀ j, Foot st f g sl j → B ≤ j) ∧ (∀ j, Id v j → B ≤ j) ∧ (∀ j, Id v j → ¬ Foot st f g sl j) ∧ Frm (B ≤ ·) H H'
theorem DocA.of {B : Nat} {H H1 : Hp} {st f g : Nat} {lim : Int} {X : Option Outc} {r : LdR} (h : DocA B H1 st f g lim X r) (k : Frm (B ≤ ·) H H1) : DocA B H st f g lim X r := by
  cases r with
  | bad ln e => obtain ⟨H', h1, h2⟩ := h; exact ⟨H', h1, k.trans h2 fun j q => .inl q⟩
  | good L K q => obtain ⟨H', sl, v, h1, h2, h3, h4, h5, h6, h7⟩ := h; exact ⟨H', sl, v, h1, h2, h3, h4, h5, h6, k.trans h7 fun j q => .inl q⟩
structure DS (B : Nat) (H : Hp) (st f g : Nat) (lim : Int) (L : List Nd) (K : List (ByteArray × Int)) (sl tv : Value) (ts : List Int) : Prop where
  bn : B ≤ H.next
  store : StF H st lim L K sl f g
  tvv : Vec H 1 tv ts.length (i64s ts)
  fb : ∀ j, Foot st f g sl j → B ≤ j
  tb : ∀ j, Id tv j → B ≤ j
  ap : ∀ j, Id tv j → ¬ Foot st f g sl j
  inv : Inv lim L
  ln : L.length ≤ ts.length
  is : ∀ t ∈ ts, isT L t = true
theorem DS.keep {B : Nat} {H H' : Hp} {st f g : Nat} {lim : Int} {L : List Nd} {K : List (ByteArray × Int)} {sl tv : Value} {ts : List Int} (h : DS B H st f g lim L K sl tv ts) (k : Frm (fun _ => False) H H') : DS B H' st f g lim L K sl tv ts :=
  ⟨Nat.le_trans h.bn k.next, h.store.keep (fun j hj => k.same j (h.store.foot_lt hj) fun q => q) k.next, h.tvv.keep k fun _ _ q => q, h.fb, h.tb, h.ap, h.inv, h.ln, h.is⟩
section
variable {B : Nat} {H : Hp} {st f g : Nat} {lim : Int} {L : List Nd} {K : List (ByteArray × Int)} {sl tv : Value} {ts : List Int}
theorem q_line (h : DS B H st f g lim L K sl tv ts) (l a : List UInt8) (hl : l.length ≤ 2 ^ 37) (fr at_ e en fr' : Nat) (hat : at_ = ts.length) (hts : ts.length ≤ l.length) (hfr : fr ≤ en) (hen : en ≤ l.length) (ha : zbd l (fr, en) = a) (he : e < l.length) (hfr' : fr' = e + 1)
    (hend : ∀ (k : Ctl → List Value → Hp → Option Outc), (zat (
       zaU (str l) (.int .i64 (e : Int)) fun v12 =>
       pBin PP .neq T.uint8 v12 (.int .u8 10) fun v13 =>
       zab v13 fun b14 => br b14
       (pLen .str (str l) H fun v15 =>
       pBin PP .sub T.int v15 (.int .i64 1) fun v16 =>
       pBin PP .neq T.int (.int .i64 (e : Int)) v16 fun v17 =>
       zab v17 fun b18 => br b18
       (some (.exit 1, [], H))
       (some (.next, [], H)))
       (some (.next, [], H))) k) = k .next [] H)
    (hend2 : ∀ (k : Ctl → List Value → Hp → Option Outc), (zat (
       zaU (str l) (.int .i64 (e : Int)) fun v23 =>
       pBin PP .neq T.uint8 v23 (.int .u8 10) fun v24 =>
       zab v24 fun b25 => br b25
       (pBin PP .add T.int (.int .i64 (e : Int)) (.int .i64 1) fun v26 =>
       some (.next, [v26], H))
       (some (.next, [(.int .i64 (e : Int))], H))) k) = k .next [.int .i64 (en : Int)] H)
    {X : Option Outc} (hX : zas RR (str l) (.pointer (some ⟨st, 0, none⟩)) [tv, .int .i64 (fr : Int), .int .i64 (at_ : Int), .int .i64 (e : Int)] H = X) :
    match za0 a with
    | [] => DocA B H st f g lim X (.bad (at_ + 1) 3)
    | w0 :: r => (w0 = zc0 → match zbV ts r with
        | none => DocA B H st f g lim X (.bad (at_ + 1) 3)
        | some q => if fr' < l.length then DocA B H st f g lim X (.bad (at_ + 2) 3) else DocA B H st f g lim X (.good L K q)) ∧
      (w0 ≠ zc0 → match zi9 (w0 :: r) ts L with
        | none => DocA B H st f g lim X (.bad (at_ + 1) 3)
        | some m => ((mkR lim L K m).2.1 ≠ 0 → DocA B H st f g lim X (.bad (at_ + 1) (mkR lim L K m).2.1)) ∧
          ((mkR lim L K m).2.1 = 0 → ∃ H' sl' tv', X = some (.next, [tv', .int .i64 (fr' : Int), .int .i64 ((at_ + 1 : Nat) : Int), .int .i64 (fr' : Int)], H') ∧ DS B H' st f g lim (mkR lim L K m).2.2.1 (mkR lim L K m).2.2.2 sl' tv' (ts ++ [(mkR lim L K m).1]) ∧ Frm (B ≤ ·) H H')) := by
  have hal : a.length ≤ l.length := by
    rw [← ha]; unfold zbd
    rw [List.length_drop, List.length_take]; omega
  obtain ⟨v, H1, a1, a2, a3, a4⟩ := q_words a (by omega) H
  have h1 := h.keep a3
  have hsh : ∀ w ∈ za0 a, w.length ≤ 2 ^ 40 := zk7 (by omega)
  have hwl : (za0 a).length ≤ a.length + 1 := by unfold za0; rw [List.length_map]; exact zfb a 0 none
  have f1 : Frm (B ≤ ·) H H1 := a3.mono fun j q => q.elim
  have hlt : ((e : Int) < (l.length : Int)) := by omega
  have hat1 : IntKind.i64.wrap ((at_ : Int) + 1) = ((at_ + 1 : Nat) : Int) := w64 (by omega) (by omega)
  have he1 : IntKind.i64.wrap ((e : Int) + 1) = (fr' : Int) := by rw [w64 (by omega) (by omega), hfr']; rfl
  have hcut : ∀ {α : Type} (k : Value → Option α), zaV (str l) (some (.int .i64 (fr : Int))) (some (.int .i64 (en : Int))) k = k (str a) := fun k => by rw [zlg l hfr hen, ha]
  unfold zas at hX
  simp only [qg0, qg1, zbU, zaP, hlt, decide_true] at hX
  rw [zac, s_br, if_pos rfl] at hX
  simp only [zbU] at hend
  rw [hend, zaA, hend2, zaA] at hX
  simp only [qg0, za2, hat1, hcut, he1] at hX
  rw [zaj a1] at hX
  have hR : zh1 L := ⟨h.inv.w, by have := h.ln; omega⟩
  cases hw : za0 a with
  | nil =>
    rw [hw] at a2
    have hd : zjV [] ts = none := rfl
    have hz : ¬ ((([] : List (List UInt8)).length : Int) > 0) := by decide
    have hn := q_node (ws := []) (a2.rd) h1.tvv.rd (fun w hw => by cases hw) (by omega) (by simp)
    rw [hd] at hn
    obtain ⟨m, hm⟩ := hn
    simp only [a2.len, zbi, hz, decide_false, zac, s_br, Bool.false_eq_true, if_false, zan, zaA, qg0, zaj hm, x01, splZ', zbL, Bool.not_false, if_true] at hX
    have sZ : ∀ {α : Type} (n : Nd) (k : List Value → Option α), zaG 7 [.int .i64 0, .int .i64 0, .int .i64 0, .int .i64 0, .int .i64 0, .int .u64 0, .string ⟨#[]⟩] 0 n.val k = k n.cells := fun n k => spl7 n k
    rw [sZ] at hX
    exact ⟨H1, .inl hX.symm, f1⟩
  | cons w0 r =>
    rw [hw] at a2 hsh hwl
    have hz : ((((w0 :: r).length : Nat) : Int) > 0) := by rw [List.length_cons]; omega
    obtain ⟨y0, i0, d0⟩ := ziU a2.rd (j := 0) (w := w0) rfl
    have i0 : ∀ (α : Type) (k : Value → Option α), pIdx 1 v (.int .i64 0) k = k (.pointer (some y0)) := i0
    have hq : ∀ {α : Type} (k : Value → Option α), pBin PP .eql T.string (str w0) (.string ⟨#[114, 111, 111, 116, 115]⟩) k = k (.bool (w0 == zc0)) := fun k => zdx T.string w0 zc0 k
    simp only [a2.len, zbi, hz, decide_true, zac, s_br, if_true, i0, zhD d0, hq, zan, zaA, qg0] at hX
    refine ⟨fun hroot => ?_, fun hroot => ?_⟩
    · have hb : (w0 == zc0) = true := by rw [beq_iff_eq]; exact hroot
      obtain ⟨v2, _, hsl, hwd, hid2⟩ := (Vec.wds a2).head
      rw [if_pos hb, hsl] at hX
      have hrt := q_roots hwd h1.tvv.rd (fun w hw => hsh w (List.mem_cons_of_mem _ hw)) (by omega) (by rw [List.length_cons] at hwl; omega)
      cases hr : zbV ts r with
      | none =>
        rw [hr] at hrt
        obtain ⟨H2, b1, b2⟩ := hrt
        simp only [zaj b1, x01, zbL, zac, s_br, Bool.not_false, if_true] at hX
        exact ⟨H2, .inl hX.symm, f1.trans (b2.mono fun j q => q.elim) fun j q => .inl q⟩
      | some q =>
        rw [hr] at hrt
        obtain ⟨H2, u, b1, b2, b3, b4⟩ := hrt
        simp only [zaj b1, x01, zbL, zac, s_br, Bool.not_true, Bool.false_eq_true, if_false, zbU, zaP] at hX
        have f2 : Frm (B ≤ ·) H H2 := f1.trans (b4.mono fun j q => q.elim) fun j q => .inl q
        dsimp only
        by_cases hf : fr' < l.length
        · rw [if_pos hf]
          have hf' : ((fr' : Int) < (l.length : Int)) := by omega
          have hat2 : IntKind.i64.wrap (((at_ + 1 : Nat) : Int) + 1) = ((at_ + 2 : Nat) : Int) := by rw [w64 (by omega) (by omega)]; omega
          simp only [hf', decide_true, if_true, za2, hat2] at hX
          exact ⟨H2, .inl hX.symm, f2⟩
        · rw [if_neg hf]
          have hf' : ¬ ((fr' : Int) < (l.length : Int)) := by omega
          simp only [hf', decide_false, Bool.false_eq_true, if_false] at hX
          have h2 := h1.keep b4
          exact ⟨H2, sl, u, hX.symm, h2.store, b2, h2.fb, fun j hj => Nat.le_trans h1.bn (b3 j hj), fun j hj e => by have := b3 j hj; have := h1.store.foot_lt e; omega, f2⟩
    · have hb : (w0 == zc0) = false := by rw [beq_eq_false_iff_ne]; exact hroot
      rw [hb, if_neg (by decide)] at hX
      have hn := q_node a2.rd h1.tvv.rd hsh (by omega) (by omega)
      rw [lineP_eq]
      have sZ : ∀ {α : Type} (n : Nd) (k : List Value → Option α), zaG 7 [.int .i64 0, .int .i64 0, .int .i64 0, .int .i64 0, .int .i64 0, .int .u64 0, .string ⟨#[]⟩] 0 n.val k = k n.cells := fun n k => spl7 n k
      cases hd : zjV (w0 :: r) ts with
      | none =>
        rw [hd] at hn
        obtain ⟨m, hm⟩ := hn
        simp only [zaj hm, x01, sZ, zbL, Bool.not_false, zac, s_br, if_true] at hX
        exact ⟨H1, .inl hX.symm, f1⟩
      | some m =>
        rw [hd] at hn
        have hok := nodeD_ok hd
        have hn : RR F.a14 [v, tv] H1 = some (.tuple #[m.val, .bool true], H1) := hn
        have himp := q_implied h1.store hR (m := m) ⟨hok.1, hok.2.1⟩ (fun q => h1.is _ (hok.2.2.2.1 q)) (fun q => h1.is _ (hok.2.2.2.2.1 q)) hok.2.2.2.2.2
        have hspl : spl m.cells 1 [.int .i64 (zb2 L m)] = ({ m with w := zb2 L m } : Nd).cells := rfl
        simp only [zaj hn, x01, sZ, zbL, Bool.not_true, zac, s_br, Bool.false_eq_true, if_false, zd6, zaj himp, splN m 1 (by decide) _ (show OneV (.int .i64 (zb2 L m)) from ⟨rfl, rfl⟩), hspl] at hX
        obtain ⟨H2, sl2, b1, b2⟩ := d31 h1.store hR { m with w := zb2 L m } hok.2.2.1
        simp only [zaj b1, x01] at hX
        have hfm : Frm (Foot st f g sl) H1 H2 := ⟨b2.next, fun j hj hn => b2.frame j hj (fun q => hn (.inl q)) (fun q => hn (.inr (.inl q))) (fun q => hn (.inr (.inr (.inl q)))) (fun q => hn (.inr (.inr (.inr q))))⟩
        have f2 : Frm (B ≤ ·) H H2 := f1.trans (hfm.mono fun j q => .inl (h.fb j q)) fun j q => .inl q
        rw [show (some m).map (fun m => ({ m with w := zb2 L m } : Nd)) = some { m with w := zb2 L m } from rfl]
        dsimp only
        generalize hmm : ({ m with w := zb2 L m } : Nd) = m' at *
        refine ⟨fun hne => ?_, fun heq => ?_⟩
        · simp only [zbb, hne, ne_eq, not_false_eq_true, decide_true, zac, s_br, if_true] at hX
          exact ⟨H2, .inl hX.symm, f2⟩
        · have e0 : ¬ ((mkR lim L K m').2.1 ≠ 0) := fun q => q heq
          have htv2 : Vec H2 1 tv ts.length (i64s ts) := h1.tvv.keep hfm h1.ap
          obtain ⟨tv3, H3, c1, c2, c3, c4⟩ := zgM htv2 (by omega) (mkR lim L K m').1 0
          have hb1 : ∀ {α : Type} (k : Value → Hp → Option α), (zap 1 [.int .i64 0] 1 [(0, .int .i64 (mkR lim L K m').1)] H2 fun v18 H19 => zaQ 1 8 tv v18 H19 k) = k tv3 H3 := fun k => by rw [zfH, c1]
          simp only [zbb, e0, decide_false, zac, s_br, Bool.false_eq_true, if_false, hb1, za2, he1] at hX
          have hft : ∀ j, Foot st f g sl2 j → Foot st f g sl j ∨ H1.next ≤ j := fun j q => by
            rcases q with q | q | q | q
            · exact .inl (.inl q)
            · exact .inl (.inr (.inl q))
            · exact .inl (.inr (.inr (.inl q)))
            · rcases b2.own j q with z | z
              · exact .inl (.inr (.inr (.inr z)))
              · exact .inr z
          have hnt : ∀ j, Foot st f g sl2 j → ¬ Id tv j := fun j q z => by
            rcases hft j q with y | y
            · exact h1.ap j z y
            · have := h1.tvv.lt z; omega
          refine ⟨H3, sl2, tv3, hX.symm, ⟨Nat.le_trans h1.bn (Nat.le_trans hfm.next c3.next), b2.st.keep (fun j hj => c3.same j (b2.st.foot_lt hj) (hnt j hj)) c3.next, c2, fun j q => ?_, fun j q => ?_, fun j q z => ?_, mk_inv h.inv, ?_, fun t ht => ?_⟩, f2.trans (c3.mono fun j q => .inl (h.tb j q)) fun j q => .inl q⟩
          · rcases hft j q with y | y
            · exact h.fb j y
            · exact Nat.le_trans h1.bn y
          · rcases c4 j q with y | y
            · exact h.tb j y
            · exact Nat.le_trans h1.bn (Nat.le_trans hfm.next y.1)
          · rcases c4 j q with y | y
            · exact hnt j z y
            · have := b2.st.foot_lt z; omega
          · have := mk_le (lim := lim) (L := L) (K := K) m'
            have := h.ln
            rw [List.length_append, List.length_singleton]; omega
          · rcases List.mem_append.1 ht with y | y
            · have hy := h.is t y
              rw [zhH] at hy ⊢
              have : L.length ≤ (mkR lim L K m').2.2.1.length := by
                obtain ⟨_, ⟨q, _, e⟩ | ⟨_, _, e⟩⟩ := zlB heq <;> rw [e] <;> simp
              omega
            · have y : t = (mkR lim L K m').1 := by simpa using y
              have := mk_bd heq
              rw [y, zhH]; exact this
end
end Go.AM
namespace Go.AM
open Go
theorem zel {l : List UInt8} {i : Nat} {b : UInt8} (h : l[i]? = some b) {α : Type} (k : Value → Option α) : zaU (str l) (.int .i64 (i : Int)) k = k (.int .u8 (b.toNat : Int)) := f_at (ba l) .i64 i b (by rw [zdC]; exact h) k
theorem ne10 {b : UInt8} (h : b ≠ 10) : ((b.toNat : Int) ≠ 10) := u8ne h
theorem q_skip (l : List UInt8) (hl : l.length ≤ 2 ^ 37) (sv tv fv av : Value) (H : Hp) (e : Nat) : ∀ (d i : Nat), i + d = e → (∀ j, i ≤ j → j < e → ∃ b, l[j]? = some b ∧ b ≠ 10 ∧ j + 1 ≠ l.length) →
    zaE (zas RR (str l) sv) [tv, fv, av, .int .i64 (i : Int)] H = zaE (zas RR (str l) sv) [tv, fv, av, .int .i64 (e : Int)] H
  | 0, i, hi, _ => by
    have : i = e := by omega
    rw [this]
  | d + 1, i, hi, hb => by
    obtain ⟨b, h1, h2, h3⟩ := hb i (Nat.le_refl _) (by omega)
    have hlt : i < l.length := (List.getElem?_eq_some_iff.1 h1).1
    have e1 : ((i : Int) < (l.length : Int)) := by omega
    have e2 := ne10 h2
    have e3 : IntKind.i64.wrap ((l.length : Int) - 1) = (l.length : Int) - 1 := w64 (by omega) (by omega)
    have e4 : ((i : Int) ≠ (l.length : Int) - 1) := by omega
    have hinc : IntKind.i64.wrap ((i : Int) + 1) = ((i + 1 : Nat) : Int) := w64 (by omega) (by omega)
    have this : zas RR (str l) sv [tv, fv, av, .int .i64 (i : Int)] H = some (.next, [tv, fv, av, .int .i64 ((i + 1 : Nat) : Int)], H) := by
      unfold zas
      simp only [qg0, qg1, zbU, zaP, e1, decide_true, zac, s_br, if_true, zel h1, zbb, e2, ne_eq, not_false_eq_true, zcY, e3, e4, zan, zbe, zaO, za2, hinc]
    rw [zam, this]
    exact q_skip l hl sv tv fv av H e d (i + 1) (by omega) fun j h1 h2 => hb j (by omega) h2
theorem q_lines {B st f g : Nat} {lim : Int} (l : List UInt8) (hl : l.length ≤ 2 ^ 37) : ∀ (n : Nat) (rest : List UInt8) (fr : Nat) (H : Hp) (L : List Nd) (K : List (ByteArray × Int)) (sl tv : Value) (ts : List Int), rest.length = n → l.drop fr = rest → fr ≤ l.length → ts.length ≤ fr → DS B H st f g lim L K sl tv ts →
    DocA B H st f g lim (zaE (zas RR (str l) (.pointer (some ⟨st, 0, none⟩))) [tv, .int .i64 (fr : Int), .int .i64 (ts.length : Int), .int .i64 (fr : Int)] H) (zeT lim (za9 rest) ts.length L K ts) := by
  intro n
  induction n using Nat.strongRecOn with
  | _ n ih =>
  intro rest fr H L K sl tv ts hn hr hfr hts h
  have hrl : rest.length = l.length - fr := by rw [← hr, List.length_drop]
  by_cases h0 : rest = []
  · subst h0
    have hf : fr = l.length := by simp at hrl; omega
    have this : zas RR (str l) (.pointer (some ⟨st, 0, none⟩)) [tv, .int .i64 (fr : Int), .int .i64 (ts.length : Int), .int .i64 (fr : Int)] H = some (.exit 0, [tv, .int .i64 (fr : Int), .int .i64 (ts.length : Int), .int .i64 (fr : Int)], H) := by
      unfold zas
      have e1 : ¬ ((fr : Int) < (l.length : Int)) := by omega
      simp only [qg0, qg1, zbU, zaP, e1, decide_false, zac, s_br, Bool.false_eq_true, if_false]
    rw [zgh]
    refine ⟨H, .inr ⟨tv, .int .i64 (fr : Int), .int .i64 (fr : Int), ?_, rfl, by omega, by omega⟩, Frm.refl _ _⟩
    rw [zam, this]; rfl
  · -- a line, its end, what is left
    have hget : ∀ j, l[fr + j]? = rest[j]? := fun j => by rw [← hr, List.getElem?_drop]
    have main : ∀ (a : List UInt8) (e en fr' : Nat) (rest' : List UInt8), fr ≤ e → e < l.length → fr ≤ en → en ≤ l.length → fr' = e + 1 → zbd l (fr, en) = a → l.drop fr' = rest' → za9 rest = a :: za9 rest' → (rest'.length < n) →
        (∀ j, fr ≤ j → j < e → ∃ b, l[j]? = some b ∧ b ≠ 10 ∧ j + 1 ≠ l.length) →
        (∀ (H : Hp) (k : Ctl → List Value → Hp → Option Outc), (zat (
         zaU (str l) (.int .i64 (e : Int)) fun v12 =>
         pBin PP .neq T.uint8 v12 (.int .u8 10) fun v13 =>
         zab v13 fun b14 => br b14
         (pLen .str (str l) H fun v15 =>
         pBin PP .sub T.int v15 (.int .i64 1) fun v16 =>
         pBin PP .neq T.int (.int .i64 (e : Int)) v16 fun v17 =>
         zab v17 fun b18 => br b18
         (some (.exit 1, [], H))
         (some (.next, [], H)))
         (some (.next, [], H))) k) = k .next [] H) →
        (∀ (H : Hp) (k : Ctl → List Value → Hp → Option Outc), (zat (
         zaU (str l) (.int .i64 (e : Int)) fun v23 =>
         pBin PP .neq T.uint8 v23 (.int .u8 10) fun v24 =>
         zab v24 fun b25 => br b25
         (pBin PP .add T.int (.int .i64 (e : Int)) (.int .i64 1) fun v26 =>
         some (.next, [v26], H))
         (some (.next, [(.int .i64 (e : Int))], H))) k) = k .next [.int .i64 (en : Int)] H) →
        DocA B H st f g lim (zaE (zas RR (str l) (.pointer (some ⟨st, 0, none⟩))) [tv, .int .i64 (fr : Int), .int .i64 (ts.length : Int), .int .i64 (fr : Int)] H) (zeT lim (za9 rest) ts.length L K ts) := by
      intro a e en fr' rest' g1 g2 g3 g4 g5 g6 g7 g8 g9 g10 g11 g12
      rw [q_skip l hl _ _ _ _ H e (e - fr) fr (by omega) g10, g8]
      have hq := q_line h l a hl fr ts.length e en fr' rfl (by omega) g3 g4 g6 g2 g5 (g11 H) (g12 H) rfl
      have hrest : fr' < l.length ↔ rest' ≠ [] := by
        constructor
        · intro hlt e0
          have := congrArg List.length g7
          rw [List.length_drop, e0] at this
          simp at this; omega
        · intro hne
          rcases Nat.lt_or_ge fr' l.length with q | q
          · exact q
          · exact absurd (by rw [← g7]; exact List.drop_of_length_le q) hne
      generalize hX : zas RR (str l) (.pointer (some ⟨st, 0, none⟩)) [tv, .int .i64 (fr : Int), .int .i64 (ts.length : Int), .int .i64 (e : Int)] H = X at hq
      have bad : ∀ ln e', DocA B H st f g lim X (.bad ln e') → DocA B H st f g lim (zaE (zas RR (str l) (.pointer (some ⟨st, 0, none⟩))) [tv, .int .i64 (fr : Int), .int .i64 (ts.length : Int), .int .i64 (e : Int)] H) (.bad ln e') := fun ln e' hd => by
        obtain ⟨H', hx, hf⟩ := hd
        rcases hx with hx | ⟨a, b, c, hx, he, hln⟩
        · exact ⟨H', .inl (by rw [zam, hX, hx]; rfl), hf⟩
        · exact ⟨H', .inr ⟨a, b, c, by rw [zam, hX, hx]; rfl, he, hln⟩, hf⟩
      unfold zeT
      cases hw : za0 a with
      | nil =>
        rw [hw] at hq
        exact bad _ _ hq
      | cons w0 r =>
        rw [hw] at hq
        dsimp only at hq ⊢
        by_cases hroot : w0 = zc0
        · rw [if_pos hroot]
          have hq := hq.1 hroot
          cases hp : zbV ts r with
          | none =>
            rw [hp] at hq
            exact bad _ _ hq
          | some q =>
            rw [hp] at hq
            dsimp only at hq ⊢
            by_cases hr0 : rest' = []
            · rw [if_neg (fun q => (hrest.1 q) hr0)] at hq
              rw [hr0, zgh]
              obtain ⟨H', sl', v, hx, y1, y2, y3, y4, y5, y6⟩ := hq
              exact ⟨H', sl', v, by rw [zam, hX, hx]; rfl, y1, y2, y3, y4, y5, y6⟩
            · rw [if_pos (hrest.2 hr0)] at hq
              cases hlp : za9 rest' with
              | nil => exact absurd (zjZ hlp) hr0
              | cons x y => exact bad _ _ hq
        · rw [if_neg hroot]
          have hq := hq.2 hroot
          cases hp : zi9 (w0 :: r) ts L with
          | none =>
            rw [hp] at hq
            exact bad _ _ hq
          | some m =>
            rw [hp] at hq
            dsimp only at hq ⊢
            by_cases he : (mkR lim L K m).2.1 = 0
            · rw [if_neg (fun q => q he)]
              obtain ⟨H', sl', tv', hx, y1, y2⟩ := hq.2 he
              have hih := ih rest'.length g9 rest' fr' H' _ _ sl' tv' _ rfl g7 (by omega) (by rw [List.length_append, List.length_singleton]; omega) y1
              have e1 : (ts ++ [(mkR lim L K m).1]).length = ts.length + 1 := by rw [List.length_append, List.length_singleton]
              rw [e1] at hih
              rw [zam, hX, hx]
              exact hih.of y2
            · rw [if_pos he]
              exact bad _ _ (hq.1 he)
    by_cases hm : (10 : UInt8) ∈ rest
    · obtain ⟨a, r, h1, h2⟩ := List.eq_append_cons_of_mem hm
      have hlen := congrArg List.length h1
      rw [List.length_append, List.length_cons] at hlen
      have hbyte : l[fr + a.length]? = some 10 := by
        rw [hget, h1, List.getElem?_append_right (Nat.le_refl _), Nat.sub_self]; rfl
      have hz : ¬ (((10 : UInt8).toNat : Int) ≠ 10) := by decide
      refine main a (fr + a.length) (fr + a.length) (fr + a.length + 1) r (by omega) (by omega) (by omega) (by omega) rfl ?_ ?_ (by rw [h1]; exact zkM a r h2) (by omega) (fun j hj hje => ?_) (fun H k => ?_) fun H k => ?_
      · unfold zbd
        rw [List.drop_take, hr, h1, Nat.add_sub_cancel_left, List.take_left]
      · rw [Nat.add_assoc, ← List.drop_drop, hr, h1, ← List.drop_drop, List.drop_left]; rfl
      · have hjj : fr + (j - fr) = j := by omega
        have hg := hget (j - fr)
        rw [hjj, h1, List.getElem?_append_left (by omega), List.getElem?_eq_getElem (l := a) (by omega)] at hg
        exact ⟨_, hg, fun e => h2 (e ▸ List.getElem_mem _), by omega⟩
      · simp only [zel hbyte, zbb, hz, decide_false, zac, s_br, Bool.false_eq_true, if_false, zan]
      · simp only [zel hbyte, zbb, hz, decide_false, zac, s_br, Bool.false_eq_true, if_false, zan]
    · have hpos : 0 < rest.length := List.length_pos_iff.2 h0
      have hbyte : ∃ b, l[l.length - 1]? = some b ∧ b ≠ 10 := by
        have hg := hget (rest.length - 1)
        have hjj : fr + (rest.length - 1) = l.length - 1 := by omega
        rw [hjj, List.getElem?_eq_getElem (l := rest) (by omega)] at hg
        exact ⟨_, hg, fun e => hm (e ▸ List.getElem_mem _)⟩
      obtain ⟨b, hb1, hb2⟩ := hbyte
      have e2 := ne10 hb2
      have e3 : IntKind.i64.wrap ((l.length : Int) - 1) = (l.length : Int) - 1 := w64 (by omega) (by omega)
      have e4 : ¬ (((l.length - 1 : Nat) : Int) ≠ (l.length : Int) - 1) := by omega
      have e5 : IntKind.i64.wrap (((l.length - 1 : Nat) : Int) + 1) = (l.length : Int) := by rw [w64 (by omega) (by omega)]; omega
      refine main rest (l.length - 1) l.length l.length [] (by omega) (by omega) hfr (Nat.le_refl _) (by omega) ?_ (List.drop_of_length_le (Nat.le_refl _)) (by rw [zmj rest hm h0, zgh]) (by show 0 < n; omega) (fun j hj hje => ?_) (fun H k => ?_) fun H k => ?_
      · unfold zbd
        rw [List.take_of_length_le (Nat.le_refl _), hr]
      · have hjj : fr + (j - fr) = j := by omega
        have hg := hget (j - fr)
        rw [hjj, List.getElem?_eq_getElem (l := rest) (by omega)] at hg
        exact ⟨_, hg, fun e => hm (e ▸ List.getElem_mem _), by omega⟩
      · simp only [zel hb1, zbb, e2, ne_eq, not_false_eq_true, decide_true, zac, s_br, if_true, zbU, zcY, e3]
        have e4' : (((l.length - 1 : Nat) : Int) = (l.length : Int) - 1) := by omega
        simp only [e4', not_true_eq_false, decide_false, Bool.false_eq_true, if_false, zan]
      · simp only [zel hb1, zbb, e2, ne_eq, not_false_eq_true, decide_true, zac, s_br, if_true, za2, e5, zan]
theorem zl6 {H : Hp} (l : List UInt8) {lim : Int} (hlim : lim < 0) : zk4 H lim F.a5 (fun v => v) [str l, .int .i64 lim] (.bad 0 1) := by
  have hrun := zc1 E0 rfl (str l) (.int .i64 lim) H
  rw [zdd] at hrun
  have hnew : RR F.a20 [.int .i64 lim] H = some (.tuple #[.pointer none, .int .i64 1], H) := by rw [c17, if_pos hlim]
  have hne : ((1 : Int) ≠ 0) := by decide
  rw [zaj hnew, x01, zbb, zac, s_br, if_pos (decide_eq_true hne)] at hrun
  exact ⟨H, hrun, Frm.refl _ _⟩
theorem q_load {H : Hp} (l : List UInt8) (hl : l.length ≤ 2 ^ 37) {lim : Int} (hlim : ¬ lim < 0) : zk4 H lim F.a5 (fun v => v) [str l, .int .i64 lim] (zeT lim (za9 l) 0 [] [] []) := by
  have hrun := zc1 E0 rfl (str l) (.int .i64 lim) H
  rw [zdd] at hrun
  have hnew : RR F.a20 [.int .i64 lim] H = some (.tuple #[.pointer (some ⟨H.next + 2, 0, none⟩), .int .i64 0], newH lim H) := by rw [c17, if_neg hlim]
  have hz : ¬ ((0 : Int) ≠ 0) := by decide
  rw [zaj hnew, x01, zbb, zac, s_br, if_neg (fun q => hz (of_decide_eq_true q))] at hrun
  have f1 : Frm (fun _ => False) H (newH lim H) := ⟨by rw [zhz]; omega, fun j hj _ => zi6 lim H j hj⟩
  have hD : DS H.next (newH lim H) (H.next + 2) H.next (H.next + 1) lim [] [] (.slice none 0 0) (.slice none 0 0) [] :=
    ⟨f1.next, newH_st lim H, Vec.nil _ _, fun j hj => by have := zfY hj; omega, fun j hj => (by cases hj), fun j hj => (by cases hj), Inv.nil lim, Nat.le_refl _, fun t ht => by cases ht⟩
  have hA := q_lines l hl l.length l 0 _ _ _ _ _ [] rfl rfl (Nat.zero_le _) (Nat.le_refl _) hD
  have f2 : ∀ {H' : Hp}, Frm (H.next ≤ ·) (newH lim H) H' → Frm (fun _ => False) H H' := fun k => f1.trans (k.mono (N := (H.next ≤ ·)) fun j q => .inl q) fun j q => .inr q
  cases hr : zeT lim (za9 l) 0 [] [] [] with
  | bad ln e =>
    have hA : DocA H.next (newH lim H) (H.next + 2) H.next (H.next + 1) lim _ (zeT lim (za9 l) 0 [] [] []) := hA
    rw [hr] at hA
    obtain ⟨H', hx, hf⟩ := hA
    refine ⟨H', ?_, f2 hf⟩
    rcases hx with hx | ⟨a, b, c, hx, he, hln⟩
    · have hrun := hrun.trans (congrArg (fun z => zat z _) hx)
      exact hrun
    · have hrun := hrun.trans (congrArg (fun z => zat z _) hx)
      have hadd : IntKind.i64.wrap (((ln - 1 : Nat) : Int) + 1) = (ln : Int) := by rw [w64 (by omega) (by omega)]; omega
      rw [zan, zbe, zaO] at hrun
      simp only [qg0, qg1, za2, hadd] at hrun
      rw [he]
      exact hrun
  | good L K q =>
    have hA : DocA H.next (newH lim H) (H.next + 2) H.next (H.next + 1) lim _ (zeT lim (za9 l) 0 [] [] []) := hA
    rw [hr] at hA
    obtain ⟨H', sl, v, hx, y1, y2, y3, y4, y5, y6⟩ := hA
    have hrun := hrun.trans (congrArg (fun z => zat z _) hx)
    exact ⟨H', _, _, _, sl, v, hrun, y1, y2, f2 y6, y3, y4, y5⟩
end Go.AM
namespace Go.AM
open Go
theorem c15 {H : Hp} {x y : Value} {l m : List Int} (hx : Rdb H 1 x l.length (zkO l)) (hy : Rdb H 1 y m.length (zkO m)) (hl : l.length ≤ 2 ^ 60) (he : l = m) : RR F.a32 [x, y] H = some (.bool true, H) := by
  subst he
  have hr := (zfk E0 rfl x y H).trans (zfq _ _ _ _)
  refine hr.trans ?_
  have hloop := zgg (S := zbf RR x y) (H := H) l.length (fun i hi => by
      have hg : l[i]? = some l[i] := List.getElem?_eq_getElem hi
      obtain ⟨a, a1, a2⟩ := hx.int hg
      obtain ⟨b, b1, b2⟩ := hy.int hg
      have w : IntKind.i64.wrap ((i : Int) + 1) = ((i + 1 : Nat) : Int) := zb3 (by omega) (by omega)
      have q : (i : Int) < (l.length : Int) := by omega
      unfold zbf
      simp only [hx.len, zaP, qg0, q, decide_true, zac, zkw, a1, a2, b1, b2, zbb, ne_eq, not_true_eq_false, decide_false, ziR, za2, w])
    (by unfold zbf; simp only [hx.len, zaP, qg0, Int.lt_irrefl, decide_false, zac, ziR]) l.length 0 (by omega)
  rw [hx.len, hy.len, zbb, bF (by simp), show (0 : Int) = ((0 : Nat) : Int) from rfl, hloop, zan, zbe, zaO]
end Go.AM
namespace Go.AM
open Go
section
variable {H : Hp} {p f g : Nat} {lim : Int} {L : List Nd} {K : List (ByteArray × Int)} {sl : Value} (hs : StR H p lim L sl f g)
include hs
theorem c9 : RR F.a59 [.pointer (some ⟨p, 0, none⟩)] H = some (.int .i64 L.length, H) := by
  refine (zgG E0 rfl _ _).trans ?_
  unfold zd8
  simp only [zbt, zaL, Nat.zero_add, hs.l1, hs.all.len]
theorem c10 (hL : (L.length : Int) ≤ 4611686018427387904) (t : Int) : RR F.a60 [.pointer (some ⟨p, 0, none⟩), .int .i64 t] H = some (.tuple #[(zlz L t).val, .int .i64 (if isT L t = true then 0 else 70)], H) := by
  refine (zgc E0 rfl _ _ _).trans ?_
  unfold zdM
  rw [zaj (c19 hs), zbL, zac]
  unfold zlz
  cases ht : isT L t with
  | false => simp only [Bool.not_false, br, bnil, spl7, ncell7, Bool.false_eq_true, if_false]
  | true =>
    obtain ⟨i, n, hn, hi, hx⟩ := s_idx hs.all ht hL (fun p11 => zah 7 true H p11 fun v12 =>
      zaG 7 [.int .i64 0, .int .i64 0, .int .i64 0, .int .i64 0, .int .i64 0, .int .u64 0, .string ⟨#[]⟩] 0 v12 fun c13 => zad 7 true c13 0 fun v14 => some ((Value.tuple #[v14, (.int .i64 0)]), H))
    simp only [Bool.not_true, br, zbt, zaL, Nat.zero_add, hs.l1, zcY, if_true]
    rw [hx, ld7 hi hn, spl7, ncell7, hn]
    rfl
end
end Go.AM
namespace Go.AM
open Go
theorem s_t4 {α : Type} (a b c d : Value) (k : Value → Option α) : zag (.tuple #[a, b, c, d]) 0 k = k a ∧ zag (.tuple #[a, b, c, d]) 1 k = k b ∧ zag (.tuple #[a, b, c, d]) 2 k = k c ∧ zag (.tuple #[a, b, c, d]) 3 k = k d := ⟨rfl, rfl, rfl, rfl⟩
theorem Vec.stay {H H' : Hp} {v : Value} {n : Nat} {cs : List Value} (h : Vec H 1 v n cs) (k : Frm (fun _ => False) H H') : Vec H' 1 v n cs := h.keep k fun _ _ q => q
theorem zig {ts : List Int} : ∀ (ws : List (List UInt8)) (l : List Int), zbV ts ws = some l → l.length = ws.length
  | [], l, h => by cases h; rfl
  | w :: r, l, h => by
    unfold zbV at h
    split at h
    · cases h
    · split at h
      · cases h
      · rename_i q hq
        cases h
        rw [List.length_cons, List.length_cons, zig r q hq]
theorem zlC {lim : Int} {N : Nat} : ∀ (lines : List (List UInt8)) (k : Nat) (L : List Nd) (K : List (ByteArray × Int)) (ts : List Int) (L' : List Nd) (K' : List (ByteArray × Int)) (q : List Int), (∀ l ∈ lines, l.length ≤ N) → zeT lim lines k L K ts = .good L' K' q → L'.length ≤ L.length + lines.length ∧ q.length ≤ N + 1
  | [], k, L, K, ts, L', K', q, hN, h => by cases h
  | l :: rest, k, L, K, ts, L', K', q, hN, h => by
    unfold zeT at h
    have hl := hN l (List.mem_cons_self ..)
    have hwl : (za0 l).length ≤ l.length + 1 := by unfold za0; rw [List.length_map]; exact zfb l 0 none
    cases hw : za0 l with
    | nil => rw [hw] at h; cases h
    | cons w0 r =>
      rw [hw] at h hwl
      dsimp only at h
      rw [List.length_cons] at hwl
      split at h
      · cases hp : zbV ts r with
        | none => rw [hp] at h; cases h
        | some q' =>
          rw [hp] at h
          have hql := zig r q' hp
          cases rest with
          | nil =>
            cases h
            exact ⟨by omega, by omega⟩
          | cons a b => cases h
      · cases hp : zi9 (w0 :: r) ts L with
        | none => rw [hp] at h; cases h
        | some m =>
          rw [hp] at h
          dsimp only at h
          split at h
          · cases h
          · have ih := zlC rest (k + 1) _ _ _ L' K' q (fun x hx => hN x (List.mem_cons_of_mem _ hx)) h
            have := mk_le (lim := lim) (L := L) (K := K) m
            rw [List.length_cons]
            exact ⟨by omega, ih.2⟩
theorem run7 (l : List UInt8) (hl : l.length ≤ 2 ^ 37) (lim : Int) (H : Hp) (hL : Laid H) : ∃ H', RR F.a31 [str l, .int .i64 lim] H = some (.bool true, H') := by
  have hr := zdI E0 rfl (str l) (.int .i64 lim) H
  rw [zdP] at hr
  have bad : ∀ (ln : Nat) (e : Int), zk4 H lim F.a15 W1 [str l, .int .i64 lim] (.bad ln e) → (∀ H1, zk4 H1 lim F.a5 (fun v => v) [str l, .int .i64 lim] (.bad ln e)) → ∃ H', RR F.a31 [str l, .int .i64 lim] H = some (.bool true, H') := fun ln e hc hq => by
    obtain ⟨H1, a1, a2⟩ := hc
    obtain ⟨H2, b1, b2⟩ := hq H1
    have hi := c15 (H := H2) (x := .slice none 0 0) (y := .slice none 0 0) (l := []) (m := []) (Vec.nil H2 1).rd (Vec.nil H2 1).rd (by simp) rfl
    rw [s_callT a1] at hr
    simp only [(s_t4 _ _ _ _ _).1, (s_t4 _ _ _ _ _).2.1, (s_t4 _ _ _ _ _).2.2.1, (s_t4 _ _ _ _ _).2.2.2] at hr
    have b1 : RR F.a5 [str l, .int .i64 lim] H1 = some (.tuple #[.pointer none, .slice none 0 0, .int .i64 (ln : Int), .int .i64 e], H2) := b1
    rw [zaj b1] at hr
    have e0 : ∀ x : Int, ¬ (x ≠ x) := fun x q => q rfl
    simp only [(s_t4 _ _ _ _ _).1, (s_t4 _ _ _ _ _).2.1, (s_t4 _ _ _ _ _).2.2.1, (s_t4 _ _ _ _ _).2.2.2, zaj hi, zbL, Bool.not_true, zac, s_br, Bool.false_eq_true, if_false, zbb, e0, decide_false, s_pnil0 T.p_term_Store und23, s_pnil0 T.p_cadenceref07_Store und24, s_bneq T.bool _ _ und4, beq_self_eq_true, Bool.not_true, zan, zaA, if_true] at hr
    exact ⟨H2, hr⟩
  by_cases hlim : lim < 0
  · exact bad 0 1 (zmr l hlim) fun H1 => zl6 l hlim
  · have hc := c_load hL l hl hlim
    have hq : ∀ H1, zk4 H1 lim F.a5 (fun v => v) [str l, .int .i64 lim] (zeT lim (za9 l) 0 [] [] []) := fun H1 => q_load l hl hlim
    cases hr0 : zeT lim (za9 l) 0 [] [] [] with
    | bad ln e =>
      rw [hr0] at hc
      exact bad ln e hc fun H1 => by have := hq H1; rw [hr0] at this; exact this
    | good L K q =>
      rw [hr0] at hc
      obtain ⟨H1, st, f, g, sl, rv, a1, a2, a3, a4, a5, a6, a7⟩ := hc
      have hq1 := hq H1
      rw [hr0] at hq1
      obtain ⟨H2, st', f', g', sl', rv', b1, b2, b3, b4, b5, b6, b7⟩ := hq1
      have A := a2.keep (fun j hj => b4.same j (a2.foot_lt hj) fun q => q) b4.next
      have hbd := zlC (N := l.length) _ _ _ _ _ _ _ _ (zlD l) hr0
      have hll := zi8 l
      have hql : q.length ≤ 2 ^ 60 := by omega
      have hLb : (L.length : Int) ≤ 4611686018427387904 := by
        have := hbd.1
        rw [List.length_nil] at this
        omega
      have hi := c15 (l := q) (m := q) (a3.stay b4).rd b3.rd hql rfl
      rw [s_callT a1] at hr
      simp only [(s_t4 _ _ _ _ _).1, (s_t4 _ _ _ _ _).2.1, (s_t4 _ _ _ _ _).2.2.1, (s_t4 _ _ _ _ _).2.2.2] at hr
      have b1 : RR F.a5 [str l, .int .i64 lim] H1 = some (.tuple #[.pointer (some ⟨st', 0, none⟩), rv', .int .i64 0, .int .i64 0], H2) := b1
      rw [zaj b1] at hr
      have e0 : ∀ x : Int, ¬ (x ≠ x) := fun x q => q rfl
      have A := A.st
      have B := b2.st
      simp only [(s_t4 _ _ _ _ _).1, (s_t4 _ _ _ _ _).2.1, (s_t4 _ _ _ _ _).2.2.1, (s_t4 _ _ _ _ _).2.2.2, zaj hi, zbL, Bool.not_true, zac, s_br, Bool.false_eq_true, if_false, zbb, e0, decide_false, s_pnil T.p_term_Store _ und23, s_pnil T.p_cadenceref07_Store _ und24, s_bneq T.bool _ _ und4, beq_self_eq_true, Bool.not_true, zan, zaA] at hr
      rw [zaj (c9 A), zbt, zaL, Nat.zero_add, B.l1, zgE B.rd1, B.all.len, s_chkL B.all, zbb, zac, decide_eq_false (by simp), if_neg (by decide)] at hr
      have hloop := zgg (S := zaZ RR (.pointer (some ⟨st, 0, none⟩)) (.pointer (some ⟨st', 0, none⟩))) (H := H2) L.length (fun i hi => by
        have hwr : IntKind.i64.wrap ((i : Int) + 1) = ((i + 1 : Nat) : Int) := zb3 (by omega) (by omega)
        have hlt : (i : Int) < (L.length : Int) := by omega
        have hn := zmh hi
        obtain ⟨y, hy, hix⟩ := B.all.ix hi (α := Outc)
        unfold zaZ
        simp only [zbt, zaL, Nat.zero_add, B.l1, B.all.len, zaP, qg0, hlt, decide_true, zac, zkw, za2, hwr, zaj (c10 A hLb _), x01, hn.1, hn.2, if_true, spl7, ncell7, hix, ld7 hy (show L[i]? = some L[i] by simp [hi]), s_neq36, zkL, Bool.not_true, ziR, zbb, ne_eq, not_true_eq_false, decide_false])
        (by unfold zaZ; simp only [zbt, zaL, Nat.zero_add, B.l1, B.all.len, zaP, qg0, Int.lt_irrefl, decide_false, zac, ziR]) L.length 0 (by omega)
      rw [show ((0 : Nat) : Int) = 0 from rfl] at hloop
      rw [hloop, zan, zbe, zaO] at hr
      exact ⟨H2, hr⟩
end Go.AM
namespace Go.AM
open Go Go.ChangeShapes Go.WideShapes Go.ChangeAt Go.RowKit Go.Proofs.YtkfhklmklhnfaaaGreatDoor
theorem xt7 : XtC PP orc.xt := by
  intro f e h
  have h : look none [(F.a25, some ziw), (F.a24, some ziC)] f = some e := h
  unfold look at h
  split at h
  · rename_i q
    cases h
    have : f = F.a25 := (Nat.eq_of_beq_eq_true q).symm
    subst this
    exact idxStr_xt Go.Proofs.Tryz.func118 (by kernel_rfl) (by kernel_rfl) (by kernel_rfl) (by kernel_rfl)
  · unfold look at h
    split at h
    · rename_i q
      cases h
      have : f = F.a24 := (Nat.eq_of_beq_eq_true q).symm
      subst this
      exact cntStr_xt Go.Proofs.Tryz.func87 (by kernel_rfl) (by kernel_rfl) (by kernel_rfl) (by kernel_rfl)
    · cases h
theorem zfa {P : Program} {W : World} {name : String} {k : IntKind} {zs : List Int} {rest : List (String × DataW Unit)} {g : Nat} {t e : TypeId} {n : Nat} {ps : List MemPlace}
    (hg : P.globalNamed name = some g) (hty : (P.globals[g]?).map (·.type) = some t) (ht : P.underlying t = some (.array n e)) (he : P.underlying e = some (.int k)) (hce : P.cellsOf e = 1) (hct : P.cellsOf t = n)
    (h : DataW.LaidVars P W ((name, Go.Lib.tabData k zs) :: rest) ps) : ∃ ty fz, W.heap[g]? = some (.cells (zs.map fun z => Value.int k z).toArray ty fz) := by
  obtain ⟨g', t', cs, fuel, p, q, hg', ht', hvar, hd, _, _⟩ := h
  obtain rfl := Option.some.inj (hg.symm.trans hg')
  obtain rfl := Option.some.inj (hty.symm.trans ht')
  have hc := Go.Lib.cells_of_tab ht he hce hct hd
  unfold World.var? at hvar
  rw [hg] at hvar
  have hvar : (match W.heap[g]? with | some (Obj.cells cs _ _) => some cs | _ => none) = some cs := hvar
  split at hvar
  · rename_i cs' ty fz hw
    cases hvar
    refine ⟨ty, fz, ?_⟩
    rw [hw, ← hc]
  · cases hvar
theorem zhJ {P : Program} {W : World} {name : String} {g : Nat} {cs : Array Value} (hg : P.globalNamed name = some g) (hvar : W.var? P name = some cs) : ∃ ty fz, W.heap[g]? = some (.cells cs ty fz) := by
  unfold World.var? at hvar
  rw [hg] at hvar
  have hvar : (match W.heap[g]? with | some (Obj.cells cs _ _) => some cs | _ => none) = some cs := hvar
  split at hvar
  · rename_i cs' ty fz hw
    cases hvar
    exact ⟨ty, fz, hw⟩
  · cases hvar
def bru64 : List Int := Go.Lib.deBruijn64tab.map fun (n : Nat) => (n : Int)
theorem pow_data : (Rows.laid_internal_strconv_uint64pow10 : DataW Unit) = Go.Lib.tabData .u64 zl9 := by kernel_rfl
theorem spc_data : (Rows.laid_strings_asciiSpace : DataW Unit) = Go.Lib.tabData .u8 zic := by kernel_rfl
theorem bru_data : (Rows.laid_math_bits_deBruijn64tab : DataW Unit) = Go.Lib.tabData .u8 bru64 := by kernel_rfl
abbrev zh9 : List (String × DataW Unit) := [("math/bits.deBruijn32tab", Rows.laid_math_bits_deBruijn32tab), ("math/bits.deBruijn64tab", Rows.laid_math_bits_deBruijn64tab), ("internal/strconv.uint64pow10", Rows.laid_internal_strconv_uint64pow10), ("unicode/utf8.acceptRanges", Rows.laid_unicode_utf8_acceptRanges),
  ("strconv.ErrRange", Rows.laid_strconv_ErrRange), ("strconv.ErrSyntax", Rows.laid_strconv_ErrSyntax), ("unicode.White_Space", Rows.laid_unicode_White_Space), ("strings.asciiSpace", Rows.laid_strings_asciiSpace), ("unicode/utf8.first", Rows.laid_unicode_utf8_first)]
theorem zlM : "*" ++ "errors.errorString" = "*errors.errorString" := by decide
theorem err_row : ∀ u, PP.typeName? 3 u = some "*errors.errorString" → u = T.p_errors_errorString := fun u h =>
  typeName_ptr_named (nm := "errors.errorString") (by rw [zlM]; kernel_rfl) (by kernel_rfl) (by decide) u (by rw [zlM]; exact h)
theorem laid_errs {W : World} (h : laidMetH PP zh9 W) : (∃ p ty fz, W.heap[G.strconv_ErrRange]? = some (.cells #[.iface T.p_errors_errorString p] ty fz)) ∧ (∃ p ty fz, W.heap[G.strconv_ErrSyntax]? = some (.cells #[.iface T.p_errors_errorString p] ty fz)) := by
  have h : laidMet PP zh9 W := h
  have h4 := h.tail.tail.tail.tail
  obtain ⟨a, s, hv, _⟩ := laid_sentinel (g := G.strconv_ErrRange) (ti := T.error) (tp := T.p_errors_errorString) (te := T.errors_errorString) (ts := T.string) h4 (by kernel_rfl) (by kernel_rfl) Go.Proofs.Tryz.underlying90 err_row (by kernel_rfl) Go.Proofs.Tryz.underlying182 rfl rfl (by kernel_rfl) (by kernel_rfl) (by kernel_rfl)
  obtain ⟨a2, s2, hv2, _⟩ := laid_sentinel (g := G.strconv_ErrSyntax) (ti := T.error) (tp := T.p_errors_errorString) (te := T.errors_errorString) (ts := T.string) h4.tail (by kernel_rfl) (by kernel_rfl) Go.Proofs.Tryz.underlying90 err_row (by kernel_rfl) Go.Proofs.Tryz.underlying182 rfl rfl (by kernel_rfl) (by kernel_rfl) (by kernel_rfl)
  obtain ⟨t1, z1, e1⟩ := zhJ (by kernel_rfl) hv
  obtain ⟨t2, z2, e2⟩ := zhJ (by kernel_rfl) hv2
  exact ⟨⟨_, t1, z1, e1⟩, ⟨_, t2, z2, e2⟩⟩
theorem laid_tabs {W : World} (h : laidMetH PP zh9 W) : (∃ ty fz, W.heap[G.internal_strconv_uint64pow10]? = some (.cells (zl9.map fun z => Value.int .u64 z).toArray ty fz)) ∧
    (∃ ty fz, W.heap[G.strings_asciiSpace]? = some (.cells (zic.map fun z => Value.int .u8 z).toArray ty fz)) ∧ (∃ ty fz, W.heap[G.bits_deBruijn64tab]? = some (.cells (bru64.map fun z => Value.int .u8 z).toArray ty fz)) := by
  have h : laidMet PP zh9 W := h
  obtain ⟨q1, h1, _⟩ := h.tail
  obtain ⟨q2, h2, _⟩ := h.tail.tail
  obtain ⟨q7, h7, _⟩ := h.tail.tail.tail.tail.tail.tail.tail
  rw [bru_data] at h1
  rw [pow_data] at h2
  rw [spc_data] at h7
  exact ⟨zfa (by kernel_rfl) (t := T.a20_uint64) (e := T.uint64) (n := 20) (by kernel_rfl) (by kernel_rfl) (by kernel_rfl) (by kernel_rfl) (by kernel_rfl) h2,
    zfa (by kernel_rfl) (t := T.a256_uint8) (e := T.uint8) (n := 256) (by kernel_rfl) (by kernel_rfl) (by kernel_rfl) (by kernel_rfl) (by kernel_rfl) h7,
    zfa (by kernel_rfl) (t := T.a64_uint8) (e := T.uint8) (n := 64) (by kernel_rfl) (by kernel_rfl) (by kernel_rfl) (by kernel_rfl) (by kernel_rfl) h1⟩
theorem start {W : World} (hsz : PP.globals.size ≤ W.heap.size) (h : laidMetH PP zh9 W) : ∃ H0, Rel PP W H0 (B00 PP) ∧ (∀ i o, H0.get i = some o → o.own = false) ∧ Laid H0 := by
  obtain ⟨⟨t1, z1, e1⟩, ⟨t2, z2, e2⟩, t3, z3, e3⟩ := laid_tabs h
  obtain ⟨⟨p4, t4, z4, e4⟩, p5, t5, z5, e5⟩ := laid_errs h
  let Fx : Nat → Option AObj := fun i => if i = G.internal_strconv_uint64pow10 then some (.fix (.cells (zl9.map fun z => Value.int .u64 z).toArray t1 z1)) else if i = G.strings_asciiSpace then some (.fix (.cells (zic.map fun z => Value.int .u8 z).toArray t2 z2))
    else if i = G.bits_deBruijn64tab then some (.fix (.cells (bru64.map fun z => Value.int .u8 z).toArray t3 z3)) else if i = G.strconv_ErrRange then some (.fix (.cells #[.iface T.p_errors_errorString p4] t4 z4)) else if i = G.strconv_ErrSyntax then some (.fix (.cells #[.iface T.p_errors_errorString p5] t5 z5)) else none
  obtain ⟨r1, r2⟩ := relStart (P := PP) hsz (F := Fx) (fun i o hi => by
    have hi : (if i = G.internal_strconv_uint64pow10 then _ else if i = G.strings_asciiSpace then _ else if i = G.bits_deBruijn64tab then _ else if i = G.strconv_ErrRange then _ else if i = G.strconv_ErrSyntax then _ else none) = some o := hi
    split at hi
    · rename_i q; subst q; cases hi; exact .inl ⟨_, rfl, e1⟩
    · split at hi
      · rename_i q; subst q; cases hi; exact .inl ⟨_, rfl, e2⟩
      · split at hi
        · rename_i q; subst q; cases hi; exact .inl ⟨_, rfl, e3⟩
        · split at hi
          · rename_i q; subst q; cases hi; exact .inl ⟨_, rfl, e4⟩
          · split at hi
            · rename_i q; subst q; cases hi; exact .inl ⟨_, rfl, e5⟩
            · cases hi)
  have g : ∀ i, i < PP.globals.size → (HS PP Fx).get i = Fx i := fun i hi => if_pos hi
  have lt : ∀ i, i < 11 → i < PP.globals.size := fun i hi => by rw [zh8]; exact hi
  refine ⟨_, r1, r2, ⟨Nat.le_refl _, ⟨⟨_, t1, z1, (g _ (lt _ (by decide))).trans rfl, ?_⟩, ⟨_, t2, z2, (g _ (lt _ (by decide))).trans rfl, ?_⟩, ⟨_, t3, z3, (g _ (lt _ (by decide))).trans rfl, ?_⟩⟩, ⟨_, t5, z5, (g _ (lt _ (by decide))).trans rfl, rfl⟩, ⟨_, t4, z4, (g _ (lt _ (by decide))).trans rfl, rfl⟩⟩⟩
  · kernel_rfl
  · kernel_rfl
  · kernel_rfl
noncomputable def zcv (os : Os) : World :=
  let N := (World.settled PP os).heap.size
  let w0 := World.holding PP os ⟨#[.cells (Go.Lib.whiteT.map fun (z : Nat) => Value.int .u16 (z : Int)).toArray T.unicode_Range16, .cells #[.slice (some ⟨N, 0, none⟩) 7 7, .slice none 0 0, .int .i64 2] T.unicode_RangeTable,
    .cells #[.string ⟨#[105, 110, 118, 97, 108, 105, 100, 32, 115, 121, 110, 116, 97, 120]⟩] T.errors_errorString, .cells #[.string ⟨#[118, 97, 108, 117, 101, 32, 111, 117, 116, 32, 111, 102, 32, 114, 97, 110, 103, 101]⟩] T.errors_errorString], #[], []⟩
  let put (h : Array Obj) (g : Nat) (cs : Array Value) : Array Obj := h.modify g fun
    | .cells _ t frozen => .cells cs t frozen
    | o => o
  let h1 := put w0.heap G.strings_asciiSpace (zic.map fun z => Value.int .u8 z).toArray
  let h2 := put h1 G.internal_strconv_uint64pow10 (zl9.map fun z => Value.int .u64 z).toArray
  let h3 := put h2 G.bits_deBruijn64tab (bru64.map fun z => Value.int .u8 z).toArray
  let h4 := put h3 G.bits_deBruijn32tab (Go.Lib.deBruijn32tab.map fun (z : Nat) => Value.int .u8 (z : Int)).toArray
  let h5 := put h4 G.unicode_White_Space #[.pointer (some ⟨N + 1, 0, none⟩)]
  let h6 := put h5 G.strconv_ErrSyntax #[.iface T.p_errors_errorString (.pointer (some ⟨N + 2, 0, none⟩))]
  let h7 := put h6 G.strconv_ErrRange #[.iface T.p_errors_errorString (.pointer (some ⟨N + 3, 0, none⟩))]
  let h8 := put h7 G.utf8_first (Go.Lib.firstTab.map fun z => Value.int .u8 z).toArray
  let h9 := put h8 G.utf8_acceptRanges (((List.range 16).flatMap fun i => [Value.int .u8 (Go.Lib.accLo i), Value.int .u8 (Go.Lib.accHi i)]).toArray)
  { w0 with heap := h9 }
set_option maxRecDepth 1000000
noncomputable abbrev nS : Nat := (World.settled PP default).heap.size
theorem lp1 (os : Os) (args : Array Value) : LaidIn PP ((zcv os).forCall (fun _ _ => 0) ⟨#[], args, []⟩).memory (zh9.take 3) [G.bits_deBruijn32tab, G.bits_deBruijn64tab, G.internal_strconv_uint64pow10] :=
  LaidIn.of_run _ 8 (by kernel_rfl) (by kernel_rfl) (by kernel_rfl) (by kernel_rfl)
theorem lp2 (os : Os) (args : Array Value) : LaidIn PP ((zcv os).forCall (fun _ _ => 0) ⟨#[], args, []⟩).memory ((zh9.drop 3).take 4) [G.utf8_acceptRanges, G.strconv_ErrRange, G.strconv_ErrSyntax, G.unicode_White_Space, nS, nS + 1, nS + 2, nS + 3] :=
  LaidIn.of_run _ 8 (by kernel_rfl) (by kernel_rfl) (by kernel_rfl) (by kernel_rfl)
theorem lp3 (os : Os) (args : Array Value) : LaidIn PP ((zcv os).forCall (fun _ _ => 0) ⟨#[], args, []⟩).memory ((zh9.drop 7).take 1) [G.strings_asciiSpace] :=
  LaidIn.of_run _ 8 (by kernel_rfl) (by kernel_rfl) (by kernel_rfl) (by kernel_rfl)
theorem lp4 (os : Os) (args : Array Value) : LaidIn PP ((zcv os).forCall (fun _ _ => 0) ⟨#[], args, []⟩).memory (zh9.drop 8) [G.utf8_first] :=
  LaidIn.of_run _ 8 (by kernel_rfl) (by kernel_rfl) (by kernel_rfl) (by kernel_rfl)
theorem laid_all (os : Os) (args : Array Value) : laidMet PP zh9 ((zcv os).forCall (fun _ _ => 0) ⟨#[], args, []⟩).memory :=
  ((((lp1 os args).append (lp2 os args) (by kernel_rfl)).append (lp3 os args) (by kernel_rfl)).append (lp4 os args) (by kernel_rfl)).met
end Go.AM
