/- Part of the proof of TermBackUptoCardSaid: see the last file.  -/
import Derived.Test.YtkfhklmklhnfaaaGreatDoorCards
import Derived.Test.YtkfhklmklhnfaaaGreatDoorTie
import Derived.WalkKit
import Derived.ProofKit
import Derived.OpenShut
import Derived.Deep.DeepHandedRow
import Derived.Deep.DeepWitnessRowRef
import Derived.Stop.LaidErr
import Derived.Lib.LaidTab
import Derived.Lib.LaidU8
import Derived.Lib.TrailingZeros
import Derived.Lib.LaidIn
import Derived.KernelRfl
import Derived.Test.YtkfhklmklhnfaaaGreatDoorT2
import Derived.Test.YtkfhklmklhnfaaaGreatDoorT3
import Derived.Test.YtkfhklmklhnfaaaGreatDoorT4
set_option linter.unusedSimpArgs false
set_option linter.unusedVariables false
set_option linter.unusedSectionVars false
set_option maxRecDepth 100000
namespace Go.AM
open Go
inductive Fld where
  | p | n | w | s
  deriving DecidableEq
def setP (k : Nat) (n : Nd) (t : Int) : Nd := if k = 0 then { n with a := t } else if k = 1 then { n with b := t } else { n with c := t }
def setF (f : Fld) (w : List UInt8) (ts : List Int) (k : Nat) (n : Nd) : Option Nd :=
  match f with
  | .p => if 1 ≤ zbj w ∧ zbj w ≤ ts.length then some (setP k n (ts.getD (zbj w - 1).toNat 0)) else none
  | .n => match numP w with
    | none => none
    | some x => if n.op = 3 ∨ 0 ≤ zbj w then some { n with num := (x : Int) } else none
  | .w => if zbj w < 0 then none else some { n with w := zbj w }
  | .s => some { n with name := ba w }
def rdF : List Fld → List (List UInt8) → List Int → Nat → Nd → Option (Nd × List (List UInt8))
  | [], ws, _, _, n => some (n, ws)
  | _ :: _, [], _, _, _ => none
  | f :: fs, w :: ws, ts, k, n => match setF f w ts k n with
    | none => none
    | some m => rdF fs ws ts (if f = .p then k + 1 else k) m
theorem zcc (f : Fld) (fs : List Fld) (w : List UInt8) (ws : List (List UInt8)) (ts : List Int) (k : Nat) (n : Nd) : rdF (f :: fs) (w :: ws) ts k n = match setF f w ts k n with
    | none => none
    | some m => rdF fs ws ts (if f = .p then k + 1 else k) m := by
  conv => lhs; unfold rdF
theorem rdF_app (fs gs : List Fld) : ∀ (ws : List (List UInt8)) (ts : List Int) (k : Nat) (n : Nd), rdF (fs ++ gs) ws ts k n = match rdF fs ws ts k n with
    | none => none
    | some (m, ws') => rdF gs ws' ts (k + fs.count .p) m := by
  induction fs with
  | nil => intro ws ts k n; rfl
  | cons f fs ih =>
    intro ws ts k n
    cases ws with
    | nil => rfl
    | cons w ws =>
      rw [List.cons_append, zcc, zcc]
      cases setF f w ts k n with
      | none => rfl
      | some m =>
        dsimp only
        rw [ih]
        cases rdF fs ws ts (if f = .p then k + 1 else k) m with
        | none => rfl
        | some q =>
          dsimp only
          rw [List.count_cons]
          by_cases hf : f = .p
          · subst hf
            rw [if_pos rfl, if_pos (by rfl)]
            have : k + 1 + fs.count Fld.p = k + (fs.count Fld.p + 1) := by omega
            rw [this]
          · rw [if_neg hf]
            have : (f == Fld.p) = false := by rw [beq_eq_false_iff_ne]; exact hf
            rw [this]; simp
theorem rd_w (fs : List Fld) (ws : List (List UInt8)) (ts : List Int) (k : Nat) (n : Nd) : rdF (.w :: fs) ws ts k n = match numF ws with
    | none => none
    | some v => rdF fs ws.tail ts k { n with w := v } := by
  cases ws with
  | nil => rfl
  | cons w ws =>
    rw [zcc]
    unfold numF setF
    dsimp only
    by_cases h : zbj w < 0
    · rw [if_pos h, if_pos h]
    · rw [if_neg h, if_neg h]; rfl
theorem rd_p (fs : List Fld) (ws : List (List UInt8)) (ts : List Int) (k : Nat) (n : Nd) : rdF (.p :: fs) ws ts k n = match zlg ts ws with
    | none => none
    | some t => rdF fs ws.tail ts (k + 1) (setP k n t) := by
  cases ws with
  | nil => rfl
  | cons w ws =>
    rw [zcc]
    unfold zlg numF setF
    dsimp only
    by_cases h : zbj w < 0
    · rw [if_pos h, if_neg (by omega)]
    · rw [if_neg h]
      dsimp only
      by_cases h2 : 1 ≤ zbj w ∧ zbj w ≤ ts.length
      · rw [if_pos h2, if_pos h2]; rfl
      · rw [if_neg h2, if_neg h2]
theorem rd_s (fs : List Fld) (ws : List (List UInt8)) (ts : List Int) (k : Nat) (n : Nd) : rdF (.s :: fs) ws ts k n = match ws with
    | [] => none
    | w :: r => rdF fs r ts k { n with name := ba w } := by
  cases ws with
  | nil => rfl
  | cons w ws => rfl
theorem rd_n3 (fs : List Fld) (ws : List (List UInt8)) (ts : List Int) (k : Nat) (n : Nd) (h : n.op = 3) : rdF (.n :: fs) ws ts k n = match ws with
    | [] => none
    | w :: r => match numP w with
      | none => none
      | some x => rdF fs r ts k { n with num := (x : Int) } := by
  cases ws with
  | nil => rfl
  | cons w ws =>
    rw [zcc]
    unfold setF
    dsimp only
    cases numP w with
    | none => rfl
    | some x => dsimp only; rw [if_pos (.inl h)]; rfl
theorem rd_n (fs : List Fld) (ws : List (List UInt8)) (ts : List Int) (k : Nat) (n : Nd) (h : n.op ≠ 3) : rdF (.n :: fs) ws ts k n = match numF ws with
    | none => none
    | some v => rdF fs ws.tail ts k { n with num := v } := by
  cases ws with
  | nil => rfl
  | cons w ws =>
    rw [zcc]
    unfold numF setF
    dsimp only
    cases hn : numP w with
    | none =>
      have : zbj w = -1 := by rw [zcI, hn]
      rw [this, if_pos (show (-1 : Int) < 0 by decide)]
    | some x =>
      dsimp only
      by_cases h2 : zbj w < 0
      · rw [if_pos h2, if_neg (by intro q; rcases q with q | q; exact h q; omega)]
      · rw [if_neg h2, if_pos (.inr (by omega))]
        have : zbj w = (x : Int) := by
          rw [zcI, hn] at h2 ⊢
          dsimp only at h2 ⊢
          split
          · rfl
          · rename_i q; rw [if_neg q] at h2; exact absurd (by decide) h2
        rw [this]; rfl
structure NS (H : Hp) (p i : Nat) (sp wv tv : Value) (ws : List (List UInt8)) (n : Nd) : Prop where
  rs : RdS H p sp wv tv ws
  wi : ¬ Id wv i
  pi : p ≠ i
  nd : H.get i = some (.cells n.cells true)
  il : i < H.next
def NSA (H : Hp) (p i : Nat) (sp wv tv : Value) (ws : List (List UInt8)) (n : Nd) (f : FuncId) (r : Option Int) : Prop :=
  match r with
  | none => ∃ H', RR f [.pointer (some ⟨p, 0, none⟩)] H = some (W0 (zbY 3), H') ∧ Frm (· = p) H H'
  | some v => ∃ H' wv', RR f [.pointer (some ⟨p, 0, none⟩)] H = some (W1 (.int .i64 v), H') ∧ NS H' p i sp wv' tv ws.tail n ∧ (∀ j, Id wv' j → Id wv j) ∧ Frm (· = p) H H'
section
variable {H : Hp} {p i : Nat} {sp wv tv : Value} {ws : List (List UInt8)} {n : Nd}
theorem NS.of (h : NS H p i sp wv tv ws n) {f : FuncId} {r : Option Int} (k : RdA H p sp wv tv ws f r) : NSA H p i sp wv tv ws n f r := by
  cases r with
  | none => exact k
  | some v =>
    obtain ⟨H', wv', h1, h2, h3, h4⟩ := k
    exact ⟨H', wv', h1, ⟨h2, fun q => h.wi (h3 i q), h.pi, by rw [h4.same i h.il (Ne.symm h.pi)]; exact h.nd, Nat.lt_of_lt_of_le h.il h4.next⟩, h3, h4⟩
theorem NS.next {w : List UInt8} (h : NS H p i sp wv tv (w :: ws) n) :
    ∃ H' wv', RR F.a3 [.pointer (some ⟨p, 0, none⟩)] H = some (W1 (str w), H') ∧ NS H' p i sp wv' tv ws n ∧ (∀ j, Id wv' j → Id wv j) ∧ Frm (· = p) H H' := by
  obtain ⟨H', wv', h1, h2, h3, h4⟩ := h.rs.next
  exact ⟨H', wv', h1, ⟨h2, fun q => h.wi (h3 i q), h.pi, by rw [h4.same i h.il (Ne.symm h.pi)]; exact h.nd, Nat.lt_of_lt_of_le h.il h4.next⟩, h3, h4⟩
theorem NS.keep {H' : Hp} (h : NS H p i sp wv tv ws n) (k : Frm (fun _ => False) H H') : NS H' p i sp wv tv ws n :=
  ⟨h.rs.keep k (fun q => q) fun _ _ q => q, h.wi, h.pi, by rw [k.same i h.il fun q => q]; exact h.nd, Nat.lt_of_lt_of_le h.il k.next⟩
theorem NS.st (h : NS H p i sp wv tv ws n) {o : Nat} {v : Value} {m : Nd} (hc : zab v = [v]) (h1 : one v = true) (ho : o < 7) (hs : spl n.cells o [v] = m.cells) :
    ∃ H', (∀ (α : Type) (k : Hp → Option α), zam 1 H (.pointer (some ⟨i, o, none⟩)) v k = k H') ∧ NS H' p i sp wv tv ws m ∧ Frm (· = i) H H' := by
  have hf : Frm (· = i) H (H.set i (some (.cells m.cells true))) := ze3 _ _ _ _ rfl
  refine ⟨H.set i (some (.cells m.cells true)), fun α k => ?_, ⟨h.rs.keep hf h.pi fun j hj q => h.wi (by rw [q] at hj; exact hj), h.wi, h.pi, by rw [get_set, if_pos rfl], h.il⟩, hf⟩
  have hw : za5 1 n.cells o v = some m.cells := by
    unfold za5
    rw [hc, if_pos ⟨rfl, by show o + 1 ≤ 7; omega, by simp [h1]⟩, hs]
  have : H.wr (.pointer (some ⟨i, o, none⟩)) 1 v = some (H.set i (some (.cells m.cells true))) := by
    show (match H.get i with | some (.cells cs true) => (match za5 1 cs o v with | some cs' => some (H.set i (some (.cells cs' true))) | none => none) | _ => none) = _
    rw [h.nd]; dsimp only; rw [hw]
  unfold zam; rw [this]
theorem NS.ld (h : NS H p i sp wv tv ws n) (o : Nat) (v : Value) (hv : n.cells[o]? = some v) {α : Type} (k : Value → Option α) : zaj 1 false H (.pointer (some ⟨i, o, none⟩)) k = k v := zbe h.nd o v hv k
end
def PhA (H : Hp) (p i : Nat) (sp wv tv : Value) (out : Option (Nd × List (List UInt8))) (c : Ctl) (ok : List Value) (X : Option Outc) : Prop :=
  match out with
  | none => ∃ H', X = some (.ret, [W0 (zbY 3)], H') ∧ Frm (fun j => j = p ∨ j = i) H H'
  | some (m, ws') => ∃ H' wv', X = some (c, ok, H') ∧ NS H' p i sp wv' tv ws' m ∧ (∀ j, Id wv' j → Id wv j) ∧ Frm (fun j => j = p ∨ j = i) H H'
theorem PhA.from {H H1 : Hp} {p i : Nat} {sp wv wv1 tv : Value} {out : Option (Nd × List (List UInt8))} {c : Ctl} {ok : List Value} {X : Option Outc} (h : PhA H1 p i sp wv1 tv out c ok X) (hf : Frm (fun j => j = p ∨ j = i) H H1) (hi : ∀ j, Id wv1 j → Id wv j) : PhA H p i sp wv tv out c ok X := by
  cases out with
  | none => obtain ⟨H', h1, h2⟩ := h; exact ⟨H', h1, hf.trans h2 fun j q => .inl q⟩
  | some q =>
    obtain ⟨m, ws'⟩ := q
    obtain ⟨H', wv', h1, h2, h3, h4⟩ := h
    exact ⟨H', wv', h1, h2, fun j q => hi j (h3 j q), hf.trans h4 fun j q => .inl q⟩
theorem fr_p {H H' : Hp} {p i : Nat} (h : Frm (· = p) H H') : Frm (fun j => j = p ∨ j = i) H H' := h.mono fun j q => .inl (.inl q)
theorem fr_i {H H' : Hp} {p i : Nat} (h : Frm (· = i) H H') : Frm (fun j => j = p ∨ j = i) H H' := h.mono fun j q => .inl (.inr q)
theorem fr_0 {H H' : Hp} {p i : Nat} (h : Frm (fun _ => False) H H') : Frm (fun j => j = p ∨ j = i) H H' := h.mono fun j q => q.elim
structure Away (p i : Nat) : Prop where
  p : PP.globals.size ≤ p
  i : PP.globals.size ≤ i
theorem Away.laid {H H' : Hp} {p i : Nat} (h : Away p i) (hL : Laid H) (k : Frm (fun j => j = p ∨ j = i) H H') : Laid H' := hL.keep k fun j q => by rcases q with rfl | rfl; exact h.p; exact h.i
noncomputable def ph1 (x0 p10 : Value) (H12 : Hp) : Option Outc :=
 zar 0 p10 fun p13 =>
 zaj 1 false H12 p13 fun v14 =>
 pBin PP .eql T.int v14 (.int .i64 3) fun v15 =>
 zaa v15 fun b16 => br b16
 (za7 RR F.a2 [x0] H12 (fun e17 H18 =>
 some (.ret, [(W0 e17)], H18)) fun r19 H20 =>
 zar 1 p10 fun p21 =>
 zam 1 H20 p21 r19 fun H22 =>
 za7 RR F.a3 [x0] H22 (fun e23 H24 =>
 some (.ret, [(W0 e23)], H24)) fun r25 H26 =>
 zae RR F.a15 [r25] H26 fun r27 H28 =>
 zac r27 0 fun v29 =>
 zac r27 1 fun v30 =>
 pBin PP .neq T.api_Errno v30 (.int .i64 0) fun v31 =>
 zaa v31 fun b32 => br b32
 (zau PP T.term_fault [(0, (.int .i64 3))] fun v33 =>
 some (.ret, [(W0 (.iface T.term_fault v33))], H28))
 (zar 5 p10 fun p34 =>
 zam 1 H28 p34 v29 fun H35 =>
 some (.next, [], H35)))
 (pBin PP .eql T.int v14 (.int .i64 4) fun v36 =>
 zaa v36 fun b37 => br b37
 (za7 RR F.a3 [x0] H12 (fun e38 H39 =>
 some (.ret, [(W0 e38)], H39)) fun r40 H41 =>
 zar 6 p10 fun p42 =>
 zam 1 H41 p42 r40 fun H43 =>
 za7 RR F.a2 [x0] H43 (fun e44 H45 =>
 some (.ret, [(W0 e44)], H45)) fun r46 H47 =>
 zar 1 p10 fun p48 =>
 zam 1 H47 p48 r46 fun H49 =>
 some (.next, [], H49))
 (some (.next, [], H12)))
def preF (op : Int) : List Fld := if op = 3 then [.w, .n] else if op = 4 then [.s, .w] else []
theorem ph1_ok {H : Hp} {p i : Nat} {sp wv tv : Value} {ws : List (List UInt8)} {n : Nd} (h : NS H p i sp wv tv ws n) (hA : Away p i) (hL : Laid H) (ts : List Int) :
    PhA H p i sp wv tv (rdF (preF n.op) ws ts 0 n) .next [] (ph1 (.pointer (some ⟨p, 0, none⟩)) (.pointer (some ⟨i, 0, none⟩)) H) := by
  have hop : ∀ {α : Type} (k : Value → Option α), zaj 1 false H (.pointer (some ⟨i, 0 + 0, none⟩)) k = k (.int .i64 n.op) := fun k => h.ld 0 _ rfl k
  unfold preF ph1
  by_cases h3 : n.op = 3
  · rw [if_pos h3, rd_w]
    have hn := h.of (h.rs.number hL hA.p)
    have hop3 : ∀ {α : Type} (k : Value → Option α), zaj 1 false H (.pointer (some ⟨i, 0 + 0, none⟩)) k = k (.int .i64 3) := fun k => by rw [hop, h3]
    simp only [zaE, hop3, za4, zaf, s_br, decide_true, if_true]
    cases hf : numF ws with
    | none =>
      rw [hf] at hn
      obtain ⟨H1, a1, a2⟩ := hn
      rw [zbv a1]
      exact ⟨H1, rfl, fr_p a2⟩
    | some v =>
      rw [hf] at hn
      obtain ⟨H1, wv1, a1, a2, a3, a4⟩ := hn
      obtain ⟨H2, b1, b2, b3⟩ := a2.st (o := 0 + 1) (v := .int .i64 v) (m := { n with w := v }) rfl rfl (by decide) rfl
      have hf2 : Frm (fun j => j = p ∨ j = i) H H2 := (fr_p a4).trans (fr_i b3) fun j q => .inl q
      rw [zbu a1, b1]
      dsimp only
      rw [rd_n3 _ _ _ _ _ (show ({ n with w := v } : Nd).op = 3 from h3)]
      cases hw : ws.tail with
      | nil =>
        rw [hw] at b2
        rw [zbv b2.rs.stop]
        exact ⟨H2, rfl, hf2⟩
      | cons w r =>
        rw [hw] at b2
        obtain ⟨H3, wv3, c1, c2, c3, c4⟩ := b2.next
        have hf3 : Frm (fun j => j = p ∨ j = i) H H3 := hf2.trans (fr_p c4) fun j q => .inl q
        obtain ⟨H4, d1, d2⟩ := zn1 w (b2.rs.sh w (List.mem_cons_self ..)) H3 (hA.laid hL hf3)
        have hf4 : Frm (fun j => j = p ∨ j = i) H H4 := hf3.trans (fr_0 d2) fun j q => .inl q
        rw [zbu c1, zah d1]
        dsimp only
        cases hx : numP w with
        | none =>
          refine ⟨H4, ?_, hf4⟩
          have e0 : ∀ {α : Type} (k : Value → Option α), zac (numV none) 0 k = k (.int .u64 0) := fun k => rfl
          have e1 : ∀ {α : Type} (k : Value → Option α), zac (numV none) 1 k = k (.int .i64 10) := fun k => rfl
          simp only [e0, e1, zec, zaf, s_br, zbW, show ((10 : Int) ≠ 0) from by decide, decide_true, if_true, ne_eq, not_false_eq_true]
        | some x =>
          obtain ⟨H5, e1, e2, e3⟩ := (c2.keep d2).st (o := 0 + 5) (v := .int .u64 (x : Int)) (m := { n with w := v, num := (x : Int) }) rfl rfl (by decide) rfl
          refine ⟨H5, wv3, ?_, e2, fun j q => a3 j (c3 j q), hf4.trans (fr_i e3) fun j q => .inl q⟩
          have z0 : ∀ {α : Type} (k : Value → Option α), zac (numV (some x)) 0 k = k (.int .u64 (x : Int)) := fun k => rfl
          have z1 : ∀ {α : Type} (k : Value → Option α), zac (numV (some x)) 1 k = k (.int .i64 0) := fun k => rfl
          have hz : ¬ ((0 : Int) ≠ 0) := by decide
          simp only [z0, z1, zec, zaf, s_br, hz, decide_false, Bool.false_eq_true, if_false, e1]
  · rw [if_neg h3]
    by_cases h4 : n.op = 4
    · rw [if_pos h4, rd_s]
      have hop4 : ∀ {α : Type} (k : Value → Option α), zaj 1 false H (.pointer (some ⟨i, 0 + 0, none⟩)) k = k (.int .i64 4) := fun k => by rw [hop, h4]
      simp only [zaE, hop4, za4, zaf, s_br, decide_true, if_true, show ¬ ((4 : Int) = 3) from by decide, decide_false, Bool.false_eq_true, if_false]
      cases ws with
      | nil =>
        rw [zbv h.rs.stop]
        exact ⟨H, rfl, Frm.refl _ _⟩
      | cons w r =>
        obtain ⟨H1, wv1, a1, a2, a3, a4⟩ := h.next
        obtain ⟨H2, b1, b2, b3⟩ := a2.st (o := 0 + 6) (v := str w) (m := { n with name := ba w }) rfl rfl (by decide) rfl
        have hf2 : Frm (fun j => j = p ∨ j = i) H H2 := (fr_p a4).trans (fr_i b3) fun j q => .inl q
        rw [zbu a1, b1]
        dsimp only
        rw [rd_w]
        have hn := b2.of (b2.rs.number (hA.laid hL hf2) hA.p)
        cases hf : numF r with
        | none =>
          rw [hf] at hn
          obtain ⟨H3, c1, c2⟩ := hn
          rw [zbv c1]
          exact ⟨H3, rfl, hf2.trans (fr_p c2) fun j q => .inl q⟩
        | some v =>
          rw [hf] at hn
          obtain ⟨H3, wv3, c1, c2, c3, c4⟩ := hn
          obtain ⟨H4, d1, d2, d3⟩ := c2.st (o := 0 + 1) (v := .int .i64 v) (m := { n with name := ba w, w := v }) rfl rfl (by decide) rfl
          refine ⟨H4, wv3, ?_, d2, fun j q => a3 j (c3 j q), (hf2.trans (fr_p c4) fun j q => .inl q).trans (fr_i d3) fun j q => .inl q⟩
          rw [zbu c1, d1]
    · rw [if_neg h4]
      simp only [zaE, hop, za4, zaf, s_br, h3, h4, decide_false, Bool.false_eq_true, if_false]
      exact ⟨H, wv, rfl, h, fun j q => q, Frm.refl _ _⟩
end Go.AM
namespace Go.AM
open Go
noncomputable def ph3 (x0 p10 : Value) (H : Hp) : Option Outc :=
 zar 0 p10 fun p77 =>
 zaj 1 false H p77 fun v78 =>
 pBin PP .eql T.int v78 (.int .i64 31) fun v79 =>
 zaa v79 fun b80 => br b80
 (za7 RR F.a2 [x0] H (fun e81 H82 =>
 some (.ret, [(W0 e81)], H82)) fun r83 H84 =>
 zal .u64 r83 fun v85 =>
 zar 5 p10 fun p86 =>
 zam 1 H84 p86 v85 fun H87 =>
 za7 RR F.a2 [x0] H87 (fun e88 H89 =>
 some (.ret, [(W0 e88)], H89)) fun r90 H91 =>
 zar 1 p10 fun p92 =>
 zam 1 H91 p92 r90 fun H93 =>
 some (.next, [], H93))
 (zav (
 pBin PP .eql T.int v78 (.int .i64 32) fun v94 =>
 zaa v94 fun b95 => br b95
 (some (.next, [(.bool true)], H))
 (pBin PP .eql T.int v78 (.int .i64 33) fun v96 =>
 some (.next, [v96], H))) fun q97 l98 H99 => zaD q97
 (zaa (l98.getD 0 undef) fun b101 => br b101
 (za7 RR F.a2 [x0] H99 (fun e102 H103 =>
 some (.ret, [(W0 e102)], H103)) fun r104 H105 =>
 zar 1 p10 fun p106 =>
 zam 1 H105 p106 r104 fun H107 =>
 some (.next, [], H107))
 (pBin PP .eql T.int v78 (.int .i64 14) fun v108 =>
 zaa v108 fun b109 => br b109
 (pNil x0 (
 zar 0 x0 fun p110 =>
 zaj 1 false H99 p110 fun v111 =>
 zar 3 p10 fun p112 =>
 zaj 1 false H99 p112 fun v113 =>
 zae RR F.a1 [v111, v113] H99 fun r114 H115 =>
 zar 1 p10 fun p116 =>
 zam 1 H115 p116 r114 fun H117 =>
 some (.next, [], H117)))
 (pBin PP .eql T.int v78 (.int .i64 30) fun v118 =>
 zaa v118 fun b119 => br b119
 (pNil x0 (
 zar 0 x0 fun p120 =>
 zaj 1 false H99 p120 fun v121 =>
 zar 2 p10 fun p122 =>
 zaj 1 false H99 p122 fun v123 =>
 zae RR F.a1 [v121, v123] H99 fun r124 H125 =>
 pNil x0 (
 zar 0 x0 fun p126 =>
 zaj 1 false H125 p126 fun v127 =>
 chk (Hp.rdP H99 p126 1 false = some v127) (
 zar 3 p10 fun p128 =>
 zaj 1 false H125 p128 fun v129 =>
 chk (Hp.rdP H99 p128 1 false = some v129) (
 zae RR F.a1 [v127, v129] H125 fun r130 H131 =>
 pBin PP .add T.int r124 r130 fun v132 =>
 pMM false [v132, (.int .i64 65)] fun v133 =>
 zar 1 p10 fun p134 =>
 zam 1 H131 p134 v133 fun H135 =>
 zar 1 p10 fun p136 =>
 zaj 1 false H135 p136 fun v137 =>
 pBin PP .gtr T.int v137 (.int .i64 64) fun v138 =>
 zaa v138 fun b139 => br b139
 (zar 1 p10 fun p140 =>
 zam 1 H135 p140 (.int .i64 0) fun H141 =>
 some (.next, [], H141))
 (some (.next, [], H135)))))))
 (pBin PP .geq T.int v78 (.int .i64 15) fun v142 =>
 zaa v142 fun b143 => br b143
 (pBin PP .leq T.int v78 (.int .i64 29) fun v144 =>
 zaa v144 fun b145 => br b145
 (pNil x0 (
 zar 0 x0 fun p146 =>
 zaj 1 false H99 p146 fun v147 =>
 zar 2 p10 fun p148 =>
 zaj 1 false H99 p148 fun v149 =>
 zae RR F.a1 [v147, v149] H99 fun r150 H151 =>
 zar 1 p10 fun p152 =>
 zam 1 H151 p152 r150 fun H153 =>
 some (.next, [], H153)))
 (some (.next, [], H99)))
 (some (.next, [], H99))))))
 (fun i100 => zaA i100 3 (
 some (.next, [], H99)) (
 some (.exit i100, [], H99)))
 (some (.ret, [(l98.headD undef)], H99)))
theorem setP_op (k : Nat) (n : Nd) (t : Int) : (setP k n t).op = n.op := by
  unfold setP; split
  · rfl
  · split <;> rfl
theorem bld3p (i : Nat) : ∀ {α : Type} (k : Value → Option α), zau PP T.a3_p_int [(0, .pointer (some ⟨i, 0 + 2, none⟩)), (1, .pointer (some ⟨i, 0 + 3, none⟩)), (2, .pointer (some ⟨i, 0 + 4, none⟩))] k = k (.agg #[.pointer (some ⟨i, 2, none⟩), .pointer (some ⟨i, 3, none⟩), .pointer (some ⟨i, 4, none⟩)]) := fun {α} k => by
  have : zgC PP T.a3_p_int [(0, .pointer (some ⟨i, 0 + 2, none⟩)), (1, .pointer (some ⟨i, 0 + 3, none⟩)), (2, .pointer (some ⟨i, 0 + 4, none⟩))] = some (.agg #[.pointer (some ⟨i, 2, none⟩), .pointer (some ⟨i, 3, none⟩), .pointer (some ⟨i, 4, none⟩)]) := by kernel_rfl
  unfold zau; rw [this]
theorem zod (k : Nat) (hk : k < 3) (n : Nd) (t : Int) : spl n.cells (2 + k) [.int .i64 t] = (setP k n t).cells := by
  match k, hk with
  | 0, _ => rfl
  | 1, _ => rfl
  | 2, _ => rfl
theorem partsT_le (op : Int) : 0 ≤ zak op ∧ zak op ≤ 3 := by
  unfold zak
  split
  · decide
  · split
    · decide
    · split <;> decide
theorem znu {p i : Nat} {sp tv : Value} (hA : Away p i) (ts : List Int) (P : Nat) (hP : P ≤ 3) (htp : ¬ Id tv p) (hti : ¬ Id tv i) : ∀ (d k : Nat) (H : Hp) (wv : Value) (ws : List (List UInt8)) (n : Nd), k + d = P → NS H p i sp wv tv ws n → Laid H → Vec H 1 tv ts.length (i64s ts) →
    PhA H p i sp wv tv (rdF (List.replicate d .p) ws ts k n) (.exit 1) [.int .i64 (P : Int)] (zaG (zaC RR (.pointer (some ⟨p, 0, none⟩)) (.int .i64 (P : Int)) (.pointer (some ⟨i, 0, none⟩))) [.int .i64 (k : Int)] H)
  | 0, k, H, wv, ws, n, hk, h, hL, ht => by
    have : zaC RR (.pointer (some ⟨p, 0, none⟩)) (.int .i64 (P : Int)) (.pointer (some ⟨i, 0, none⟩)) [.int .i64 (k : Int)] H = some (.exit 1, [.int .i64 (k : Int)], H) := by
      unfold zaC
      have h1 : ¬ ((k : Int) < (P : Int)) := by omega
      simp only [qg0, zaY, zaf, s_br, h1, decide_false, Bool.false_eq_true, if_false]
    rw [zan, this]
    have hkp : k = P := by omega
    subst hkp
    exact ⟨H, wv, rfl, h, fun j q => q, Frm.refl _ _⟩
  | d + 1, k, H, wv, ws, n, hk, h, hL, ht => by
    rw [List.replicate_succ, rd_p]
    have h1 : ((k : Int) < (P : Int)) := by omega
    have hat : ∀ {α : Type} (kk : Value → Option α), zdw 3 false 1 (.agg #[.pointer (some ⟨i, 2, none⟩), .pointer (some ⟨i, 3, none⟩), .pointer (some ⟨i, 4, none⟩)]) (.int .i64 (k : Int)) kk = kk (.pointer (some ⟨i, 2 + k, none⟩)) := fun kk => by
      match k, (show k < 3 by omega) with
      | 0, _ => rfl
      | 1, _ => rfl
      | 2, _ => rfl
    have hn := h.of (h.rs.part hL hA.p ht htp)
    cases hf : zlg ts ws with
    | none =>
      rw [hf] at hn
      obtain ⟨H1, a1, a2⟩ := hn
      have : zaC RR (.pointer (some ⟨p, 0, none⟩)) (.int .i64 (P : Int)) (.pointer (some ⟨i, 0, none⟩)) [.int .i64 (k : Int)] H = some (.ret, [W0 (zbY 3)], H1) := by
        unfold zaC
        simp only [qg0, zaY, zaf, s_br, h1, decide_true, if_true, zaE, bld3p, hat]
        rw [zbv a1]
      rw [zan, this]
      exact ⟨H1, rfl, fr_p a2⟩
    | some t =>
      rw [hf] at hn
      obtain ⟨H1, wv1, a1, a2, a3, a4⟩ := hn
      obtain ⟨H2, b1, b2, b3⟩ := a2.st (o := 2 + k) (v := .int .i64 t) (m := setP k n t) rfl rfl (by omega) (zod k (by omega) n t)
      have hf2 : Frm (fun j => j = p ∨ j = i) H H2 := (fr_p a4).trans (fr_i b3) fun j q => .inl q
      have hinc : IntKind.i64.wrap ((k : Int) + 1) = ((k + 1 : Nat) : Int) := w64 (by omega) (by omega)
      have : zaC RR (.pointer (some ⟨p, 0, none⟩)) (.int .i64 (P : Int)) (.pointer (some ⟨i, 0, none⟩)) [.int .i64 (k : Int)] H = some (.next, [.int .i64 ((k + 1 : Nat) : Int)], H2) := by
        unfold zaC
        simp only [qg0, zaY, zaf, s_br, h1, decide_true, if_true, zaE, bld3p, hat]
        rw [zbu a1, zbm, b1, zbb, hinc]
      rw [zan, this]
      dsimp only
      refine PhA.from (znu hA ts P hP htp hti d (k + 1) H2 wv1 ws.tail (setP k n t) (by omega) b2 (hA.laid hL hf2) (ht.keep hf2 fun j hj q => ?_)) hf2 a3
      rcases q with rfl | rfl
      · exact htp hj
      · exact hti hj
def zom (op : Int) : List Fld := if op = 31 then [.n, .w] else if op = 32 ∨ op = 33 then [.w] else []
def zcj (L : List Nd) (n : Nd) : Int :=
  if n.op = 14 then wT L (-1) n.b else if n.op = 30 then (if wT L (-1) n.a + wT L (-1) n.b > 64 then 0 else wT L (-1) n.a + wT L (-1) n.b)
  else if 15 ≤ n.op ∧ n.op ≤ 29 then wT L (-1) n.a else n.w
def impl (L : List Nd) (q : Nd × List (List UInt8)) : Nd × List (List UInt8) := ({ q.1 with w := zcj L q.1 }, q.2)
theorem zk8 {H : Hp} {i : Nat} {cs : List Value} {own : Bool} (h : H.get i = some (.cells cs own)) (o : Nat) (v : Value) (hv : cs[o]? = some v) : Hp.rdP H (.pointer (some ⟨i, o, none⟩)) 1 false = some v := by
  simp [Hp.rdP, Hp.rd, h, zbZ, hv]
theorem ph3_ok {H : Hp} {p i : Nat} {st f g : Nat} {lim : Int} {L : List Nd} {K : List (ByteArray × Int)} {sl : Value} {wv tv : Value} {ws : List (List UInt8)} {n : Nd}
    (h : NS H p i (.pointer (some ⟨st, 0, none⟩)) wv tv ws n) (hA : Away p i) (hL : Laid H) (hS : StF H st lim L K sl f g) (hR : zf4 L) (ts : List Int) :
    PhA H p i (.pointer (some ⟨st, 0, none⟩)) wv tv ((rdF (zom n.op) ws ts (zak n.op).toNat n).map (impl L)) .next [] (ph3 (.pointer (some ⟨p, 0, none⟩)) (.pointer (some ⟨i, 0, none⟩)) H) := by
  have hop : ∀ {α : Type} (k : Value → Option α), zaj 1 false H (.pointer (some ⟨i, 0 + 0, none⟩)) k = k (.int .i64 n.op) := fun k => h.ld 0 _ rfl k
  have hna : ∀ {α : Type} (k : Value → Option α), zaj 1 false H (.pointer (some ⟨i, 0 + 2, none⟩)) k = k (.int .i64 n.a) := fun k => h.ld 2 _ rfl k
  have hnb : ∀ {α : Type} (k : Value → Option α), zaj 1 false H (.pointer (some ⟨i, 0 + 3, none⟩)) k = k (.int .i64 n.b) := fun k => h.ld 3 _ rfl k
  have hsp : ∀ {α : Type} (k : Value → Option α), zaj 1 false H (.pointer (some ⟨p, 0 + 0, none⟩)) k = k (.pointer (some ⟨st, 0, none⟩)) := fun k => zbe h.rs.rd 0 _ rfl k
  have rsp : Hp.rdP H (.pointer (some ⟨p, 0 + 0, none⟩)) 1 false = some (.pointer (some ⟨st, 0, none⟩)) := zk8 h.rs.rd 0 _ rfl
  have rnb : Hp.rdP H (.pointer (some ⟨i, 0 + 3, none⟩)) 1 false = some (.int .i64 n.b) := zk8 h.nd 3 _ rfl
  have ba := zmb hR.w n.a
  have bb := zmb hR.w n.b
  unfold zom ph3
  by_cases h31 : n.op = 31
  · rw [if_pos h31]
    have hop' : ∀ {α : Type} (k : Value → Option α), zaj 1 false H (.pointer (some ⟨i, 0 + 0, none⟩)) k = k (.int .i64 31) := fun k => by rw [hop, h31]
    simp only [zaE, hop', za4, zaf, s_br, decide_true, if_true]
    rw [rd_n _ _ _ _ _ (by omega)]
    have hn := h.of (h.rs.number hL hA.p)
    cases hf : numF ws with
    | none =>
      rw [hf] at hn
      obtain ⟨H1, a1, a2⟩ := hn
      rw [zbv a1]
      exact ⟨H1, rfl, fr_p a2⟩
    | some v =>
      rw [hf] at hn
      obtain ⟨H1, wv1, a1, a2, a3, a4⟩ := hn
      have hb := numF_bd hf
      obtain ⟨H2, b1, b2, b3⟩ := a2.st (o := 0 + 5) (v := .int .u64 v) (m := { n with num := v }) rfl rfl (by decide) rfl
      have hf2 : Frm (fun j => j = p ∨ j = i) H H2 := (fr_p a4).trans (fr_i b3) fun j q => .inl q
      have hcv : ∀ {α : Type} (k : Value → Option α), zal .u64 (.int .i64 v) k = k (.int .u64 v) := fun k => by
        show k (.int .u64 (IntKind.u64.wrap v)) = _
        rw [u64 (by omega) (by omega)]
      rw [zbu a1, hcv, b1]
      dsimp only
      rw [rd_w]
      have hn2 := b2.of (b2.rs.number (hA.laid hL hf2) hA.p)
      cases hf' : numF ws.tail with
      | none =>
        rw [hf'] at hn2
        obtain ⟨H3, c1, c2⟩ := hn2
        rw [zbv c1]
        exact ⟨H3, rfl, hf2.trans (fr_p c2) fun j q => .inl q⟩
      | some u =>
        rw [hf'] at hn2
        obtain ⟨H3, wv3, c1, c2, c3, c4⟩ := hn2
        obtain ⟨H4, d1, d2, d3⟩ := c2.st (o := 0 + 1) (v := .int .i64 u) (m := { n with num := v, w := u }) rfl rfl (by decide) rfl
        refine ⟨H4, wv3, ?_, ?_, fun j q => a3 j (c3 j q), (hf2.trans (fr_p c4) fun j q => .inl q).trans (fr_i d3) fun j q => .inl q⟩
        · rw [zbu c1, d1]
        · have e : zcj L { n with num := v, w := u } = u := by
            unfold zcj
            rw [if_neg (show ¬ n.op = 14 by omega), if_neg (show ¬ n.op = 30 by omega), if_neg (show ¬ (15 ≤ n.op ∧ n.op ≤ 29) by omega)]
          show NS H4 p i _ wv3 tv ws.tail.tail { n with num := v, w := zcj L { n with num := v, w := u } }
          rw [e]; exact d2
  · rw [if_neg h31]
    by_cases h32 : n.op = 32 ∨ n.op = 33
    · rw [if_pos h32, rd_w]
      have hn := h.of (h.rs.number hL hA.p)
      have hX : ∀ (X Y : Option Outc), (zav (pBin PP .eql T.int (.int .i64 n.op) (.int .i64 32) fun v94 => zaa v94 fun b95 => br b95 (some (.next, [(.bool true)], H)) (pBin PP .eql T.int (.int .i64 n.op) (.int .i64 33) fun v96 => some (.next, [v96], H))) : (Ctl → List Value → Hp → Option Outc) → Option Outc) = fun k => k .next [.bool true] H := fun X Y => by
        funext k
        rcases h32 with q | q
        · simp only [za4, zaf, s_br, q, decide_true, if_true, zaq]
        · simp only [za4, zaf, s_br, q, decide_true, if_true, zaq, show ¬ ((33 : Int) = 32) from by decide, decide_false, Bool.false_eq_true, if_false]
      have hX := congrFun (hX none none)
      simp only [zaE, hop, za4, zaf, s_br, h31, decide_false, Bool.false_eq_true, if_false] at hX ⊢
      rw [hX, zaV]
      simp only [qg0, zaf, s_br, if_true]
      cases hf : numF ws with
      | none =>
        rw [hf] at hn
        obtain ⟨H1, a1, a2⟩ := hn
        rw [zbv a1]
        exact ⟨H1, rfl, fr_p a2⟩
      | some v =>
        rw [hf] at hn
        obtain ⟨H1, wv1, a1, a2, a3, a4⟩ := hn
        obtain ⟨H2, b1, b2, b3⟩ := a2.st (o := 0 + 1) (v := .int .i64 v) (m := { n with w := v }) rfl rfl (by decide) rfl
        refine ⟨H2, wv1, ?_, ?_, a3, (fr_p a4).trans (fr_i b3) fun j q => .inl q⟩
        · rw [zbu a1, b1]
        · have e : zcj L { n with w := v } = v := by
            unfold zcj
            rw [if_neg (show ¬ n.op = 14 by omega), if_neg (show ¬ n.op = 30 by omega), if_neg (show ¬ (15 ≤ n.op ∧ n.op ≤ 29) by omega)]
          show NS H2 p i _ wv1 tv ws.tail { n with w := zcj L { n with w := v } }
          rw [e]; exact b2
    · rw [if_neg h32]
      have h32a : ¬ n.op = 32 := fun q => h32 (.inl q)
      have h32b : ¬ n.op = 33 := fun q => h32 (.inr q)
      have fin : ∀ (w : Int) (X : Option Outc), zcj L n = w → (∀ H', (∀ (α : Type) (k : Hp → Option α), zam 1 H (.pointer (some ⟨i, 0 + 1, none⟩)) (.int .i64 w) k = k H') → X = some (.next, [], H')) →
          PhA H p i (.pointer (some ⟨st, 0, none⟩)) wv tv ((rdF [] ws ts (zak n.op).toNat n).map (impl L)) .next [] X := fun w X hw hX => by
        obtain ⟨H2, b1, b2, b3⟩ := h.st (o := 0 + 1) (v := .int .i64 w) (m := { n with w := w }) rfl rfl (by decide) rfl
        refine ⟨H2, wv, hX H2 b1, ?_, fun j q => q, fr_i b3⟩
        rw [hw]
        exact b2
      simp only [zaE, hop, za4, zaf, s_br, h31, h32a, h32b, decide_false, Bool.false_eq_true, if_false, zaq, zaV, qg0]
      by_cases h14 : n.op = 14
      · refine fin (wT L (-1) n.b) _ (by unfold zcj; rw [if_pos h14]) fun H' hs => ?_
        simp only [h14, decide_true, if_true, zbm, zaE, hsp, hnb, zah (c40 hS.st hR.len), hs]
      · by_cases h30 : n.op = 30
        · simp only [h14, h30, show ¬ ((30 : Int) = 14) from by decide, decide_true, decide_false, Bool.false_eq_true, if_true, if_false, zbm, zaE, hsp, hna, hnb, zah (c40 hS.st hR.len), rsp, rnb, zfG]
          by_cases hs : wT L (-1) n.a + wT L (-1) n.b > 64
          · have hw : zcj L n = 0 := by unfold zcj; rw [if_neg h14, if_pos h30, if_pos hs]
            have hsum : IntKind.i64.wrap (wT L (-1) n.a + wT L (-1) n.b) = wT L (-1) n.a + wT L (-1) n.b := za8 (by omega) (by omega)
            have hmm : ∀ {α : Type} (k : Value → Option α), pMM false [.int .i64 (wT L (-1) n.a + wT L (-1) n.b), .int .i64 65] k = k (.int .i64 65) := fun k => by
              show k (.int .i64 (if (65 : Int) < wT L (-1) n.a + wT L (-1) n.b then 65 else wT L (-1) n.a + wT L (-1) n.b)) = _
              split
              · rfl
              · have : wT L (-1) n.a + wT L (-1) n.b = 65 := by omega
                rw [this]
            obtain ⟨H2, b1, b2, b3⟩ := h.st (o := 0 + 1) (v := .int .i64 65) (m := { n with w := 65 }) rfl rfl (by decide) rfl
            have hld : ∀ {α : Type} (k : Value → Option α), zaj 1 false H2 (.pointer (some ⟨i, 0 + 1, none⟩)) k = k (.int .i64 65) := fun k => b2.ld 1 _ rfl k
            obtain ⟨H3, c1, c2, c3⟩ := b2.st (o := 0 + 1) (v := .int .i64 0) (m := { n with w := 0 }) rfl rfl (by decide) rfl
            refine ⟨H3, wv, ?_, ?_, fun j q => q, (fr_i b3).trans (fr_i c3) fun j q => .inl q⟩
            · simp only [zbb, hsum, hmm, b1, hld, zca, show ((65 : Int) > 64) from by decide, decide_true, if_true, c1, zaf, s_br]
            · rw [hw]; exact c2
          · refine fin (wT L (-1) n.a + wT L (-1) n.b) _ (by unfold zcj; rw [if_neg h14, if_pos h30, if_neg hs]) fun H' hst => ?_
            obtain ⟨H2, b1, b2, b3⟩ := h.st (o := 0 + 1) (v := .int .i64 (wT L (-1) n.a + wT L (-1) n.b)) (m := { n with w := wT L (-1) n.a + wT L (-1) n.b }) rfl rfl (by decide) rfl
            have hHH : H' = H2 := by
              have e1 := hst Hp some
              have e2 := b1 Hp some
              rw [e1] at e2
              exact Option.some.inj e2
            subst hHH
            have hsum : IntKind.i64.wrap (wT L (-1) n.a + wT L (-1) n.b) = wT L (-1) n.a + wT L (-1) n.b := za8 (by omega) (by omega)
            have hmm : ∀ {α : Type} (k : Value → Option α), pMM false [.int .i64 (wT L (-1) n.a + wT L (-1) n.b), .int .i64 65] k = k (.int .i64 (wT L (-1) n.a + wT L (-1) n.b)) := fun k => by
              show k (.int .i64 (if (65 : Int) < wT L (-1) n.a + wT L (-1) n.b then 65 else wT L (-1) n.a + wT L (-1) n.b)) = _
              rw [if_neg (by omega)]
            have hld : ∀ {α : Type} (k : Value → Option α), zaj 1 false H' (.pointer (some ⟨i, 0 + 1, none⟩)) k = k (.int .i64 (wT L (-1) n.a + wT L (-1) n.b)) := fun k => b2.ld 1 _ rfl k
            simp only [zbb, hsum, hmm, b1, hld, zca, hs, decide_false, Bool.false_eq_true, if_false, zaf, s_br]
        · have same : ∀ X : Option Outc, (¬ (15 ≤ n.op ∧ n.op ≤ 29)) → X = some (.next, [], H) → PhA H p i (.pointer (some ⟨st, 0, none⟩)) wv tv ((rdF [] ws ts (zak n.op).toNat n).map (impl L)) .next [] X := fun X hq hX => by
            refine ⟨H, wv, hX, ?_, fun j q => q, Frm.refl _ _⟩
            have : zcj L n = n.w := by unfold zcj; rw [if_neg h14, if_neg h30, if_neg hq]
            show NS H p i _ wv tv ws { n with w := zcj L n }
            rw [this]; exact h
          simp only [h14, h30, decide_false, Bool.false_eq_true, if_false, zcb, zi3, zaf, s_br]
          by_cases q1 : n.op ≥ 15
          · by_cases q2 : n.op ≤ 29
            · refine fin (wT L (-1) n.a) _ (by unfold zcj; rw [if_neg h14, if_neg h30, if_pos ⟨q1, q2⟩]) fun H' hs => ?_
              simp only [q1, q2, decide_true, if_true, zbm, zaE, hsp, hna, zah (c40 hS.st hR.len), hs]
            · refine same _ (by omega) ?_
              simp only [q1, q2, decide_true, decide_false, Bool.false_eq_true, if_true, if_false]
          · refine same _ (by omega) ?_
            simp only [q1, decide_false, Bool.false_eq_true, if_false]
end Go.AM
namespace Go.AM
open Go
theorem zmD (base : Nat) (hb : 0 < base) : ∀ (l : List UInt8) (v x : Nat), v ≤ 18446744073709551615 → numL base l v = some x → x ≤ 18446744073709551615
  | [], v, x, hv, h => by cases h; exact hv
  | b :: r, v, x, hv, h => by
    unfold numL at h
    split at h
    · cases h
    · split at h
      · cases h
      · rename_i h1 h2
        refine zmD base hb r _ x ?_ h
        have hd : (digV b.toNat base).toNat ≤ 15 := by have := digV_lt b.toNat base; omega
        have hm : v * base ≤ 18446744073709551615 - (digV b.toNat base).toNat := (Nat.le_div_iff_mul_le hb).1 (by omega)
        omega
theorem numP_lt {l : List UInt8} {x : Nat} (h : numP l = some x) : x < 18446744073709551616 := by
  unfold numP at h
  split at h
  · split at h
    · cases h
    · have := zmD 16 (by decide) _ _ _ (by omega) h; omega
  · split at h
    · cases h
    · have := zmD 10 (by decide) _ _ _ (by omega) h; omega
def zkI (n : Nd) : Prop := 0 ≤ n.num ∧ n.num < 18446744073709551616
theorem setF_ok {f : Fld} {w : List UInt8} {ts : List Int} {k : Nat} {n m : Nd} (h : setF f w ts k n = some m) : m.op = n.op ∧ (zkI n → zkI m) := by
  unfold setF at h
  split at h
  · split at h
    · cases h
      refine ⟨setP_op k n _, fun q => ?_⟩
      unfold setP
      split
      · exact q
      · split <;> exact q
    · cases h
  · split at h
    · cases h
    · rename_i x hx
      split at h
      · cases h
        exact ⟨rfl, fun _ => ⟨Int.natCast_nonneg x, Int.ofNat_lt.2 (numP_lt hx)⟩⟩
      · cases h
  · split at h
    · cases h
    · cases h; exact ⟨rfl, fun q => q⟩
  · cases h; exact ⟨rfl, fun q => q⟩
theorem zjk : ∀ (fs : List Fld) (ws : List (List UInt8)) (ts : List Int) (k : Nat) (n m : Nd) (ws' : List (List UInt8)), rdF fs ws ts k n = some (m, ws') → m.op = n.op ∧ (zkI n → zkI m)
  | [], ws, ts, k, n, m, ws', h => by cases h; exact ⟨rfl, fun q => q⟩
  | f :: fs, [], ts, k, n, m, ws', h => by cases h
  | f :: fs, w :: ws, ts, k, n, m, ws', h => by
    rw [zcc] at h
    cases hs : setF f w ts k n with
    | none => rw [hs] at h; cases h
    | some q =>
      rw [hs] at h
      have h1 := setF_ok hs
      have h2 := zjk fs ws ts _ q m ws' h
      exact ⟨h2.1.trans h1.1, fun z => h2.2 (h1.2 z)⟩
def zbB (op : Int) : List Fld := preF op ++ (List.replicate (zak op).toNat .p ++ zom op)
def nd0 (op : Int) : Nd := ⟨op, 0, 0, 0, 0, 0, ⟨#[]⟩⟩
def nodeP (ws : List (List UInt8)) (ts : List Int) (L : List Nd) : Option Nd := match ws with
  | [] => none
  | o :: r => match opF o with
    | none => none
    | some op => match rdF (zbB (op : Int)) r ts 0 (nd0 (op : Int)) with
      | some (m, []) => some { m with w := zcj L m }
      | _ => none
theorem zok (op : Int) : (preF op).count .p = 0 := by
  unfold preF; split
  · rfl
  · split <;> rfl
def NodeA (H : Hp) (p st f g : Nat) (lim : Int) (L : List Nd) (K : List (ByteArray × Int)) (sl wv tv : Value) (r : Option Nd) : Prop := match r with
  | none => ∃ H', RR F.a14 [.pointer (some ⟨p, 0, none⟩)] H = some (W0 (zbY 3), H') ∧ Frm (fun j => j = p ∨ Foot st f g sl j) H H'
  | some m => ((mkR lim L K m).2.1 ≠ 0 → ∃ H', RR F.a14 [.pointer (some ⟨p, 0, none⟩)] H = some (W0 (zbY (mkR lim L K m).2.1), H') ∧ Frm (fun j => j = p ∨ Foot st f g sl j) H H') ∧
    ((mkR lim L K m).2.1 = 0 → ∃ H' wv' sl', RR F.a14 [.pointer (some ⟨p, 0, none⟩)] H = some (W1 (.int .i64 (mkR lim L K m).1), H') ∧ RdS H' p (.pointer (some ⟨st, 0, none⟩)) wv' tv [] ∧ StF H' st lim (mkR lim L K m).2.2.1 (mkR lim L K m).2.2.2 sl' f g ∧
      Frm (fun j => j = p ∨ Foot st f g sl j) H H' ∧ (∀ j, Foot st f g sl' j → Foot st f g sl j ∨ H.next ≤ j) ∧ (∀ j, Id wv' j → Id wv j))
theorem c_node {H : Hp} {p : Nat} {st f g : Nat} {lim : Int} {L : List Nd} {K : List (ByteArray × Int)} {sl : Value} {wv tv : Value} {ws : List (List UInt8)} {ts : List Int}
    (h : RdS H p (.pointer (some ⟨st, 0, none⟩)) wv tv ws) (hp : PP.globals.size ≤ p) (hL : Laid H) (hS : StF H st lim L K sl f g) (hR : zf4 L) (ht : Vec H 1 tv ts.length (i64s ts)) (htp : ¬ Id tv p)
    (hfp : ¬ Foot st f g sl p) (hfw : ∀ j, Id wv j → ¬ Foot st f g sl j) : NodeA H p st f g lim L K sl wv tv (nodeP ws ts L) := by
  have hrun := zgf E0 rfl (.pointer (some ⟨p, 0, none⟩)) H
  rw [zgu] at hrun
  have wid : ∀ {H' : Hp}, Frm (· = p) H H' → Frm (fun j => j = p ∨ Foot st f g sl j) H H' := fun k => k.mono fun j q => .inl (.inl q)
  cases ws with
  | nil =>
    rw [zbv h.stop] at hrun
    exact ⟨H, hrun, Frm.refl _ _⟩
  | cons o r =>
    obtain ⟨H1, wv1, a1, a2, a3, a4⟩ := h.next
    have hL1 : Laid H1 := hL.keep a4 fun j q => by rw [q]; exact hp
    obtain ⟨H2, b1, b2⟩ := zmT o H1 hL1
    rw [zbu a1] at hrun
    have hf2 : Frm (· = p) H H2 := a4.trans (b1.mono fun j q => q.elim) fun j q => .inl q
    unfold nodeP
    dsimp only
    cases ho : opF o with
    | none =>
      rw [ho] at b2
      rw [zbv b2] at hrun
      exact ⟨H2, hrun, wid hf2⟩
    | some op =>
      rw [ho] at b2
      have hob := opF_bd ho
      rw [zbu b2, b0] at hrun
      dsimp only
      let i := H2.next
      let H3 := H2.new (.cells [.int .i64 0, .int .i64 0, .int .i64 0, .int .i64 0, .int .i64 0, .int .u64 0, .string ⟨#[]⟩] true)
      let n0 : Nd := nd0 (op : Int)
      let H4 := H3.set i (some (.cells n0.cells true))
      have hpi : p ≠ i := by have := h.pl; have := hf2.next; show p ≠ H2.next; omega
      have hst7 : ∀ {α : Type} (k : Hp → Option α), zam 7 H3 (.pointer (some ⟨i, 0, none⟩)) n0.val k = k H4 := fun k => by
        have e : H3.wr (.pointer (some ⟨i, 0, none⟩)) 7 n0.val = some H4 := by
          have hg : H3.get i = some (.cells [.int .i64 0, .int .i64 0, .int .i64 0, .int .i64 0, .int .i64 0, .int .u64 0, .string ⟨#[]⟩] true) := if_pos rfl
          have hw : za5 7 [.int .i64 0, .int .i64 0, .int .i64 0, .int .i64 0, .int .i64 0, .int .u64 0, .string ⟨#[]⟩] 0 n0.val = some n0.cells := by kernel_rfl
          show (match H3.get i with | some (.cells cs true) => (match za5 7 cs 0 n0.val with | some cs' => some (H3.set i (some (.cells cs' true))) | none => none) | _ => none) = _
          rw [hg]; dsimp only; rw [hw]
        unfold zam; rw [e]
      have hf24 : Frm (fun _ => False) H2 H4 := (zc8 _ _ _).trans (ze3 H3 i _ (· = i) rfl) fun j q => .inr (by rw [q]; exact Nat.le_refl _)
      have hf4 : Frm (· = p) H H4 := hf2.trans (hf24.mono fun j q => q.elim) fun j q => .inl q
      have hN : NS H4 p i (.pointer (some ⟨st, 0, none⟩)) wv1 tv r n0 := by
        have h2 : RdS H2 p (.pointer (some ⟨st, 0, none⟩)) wv1 tv r := a2.keep b1 (fun q => q) fun _ _ q => q
        refine ⟨h2.keep hf24 (fun q => q) (fun _ _ q => q), fun q => ?_, hpi, by show (H3.set i _).get i = _; rw [get_set, if_pos rfl], by show H2.next < H2.next + 1; omega⟩
        have : i < H2.next := by
          rcases h2.wd with ⟨_, e⟩ | ⟨y, c, pre, rest, own, e, _, _, hlt⟩
          · rw [e] at q; cases q
          · rw [e] at q
            have e2 : y = i := Option.some.inj q
            rw [e2] at hlt; exact hlt
        exact Nat.lt_irrefl _ this
      have hA : Away p i := ⟨hp, by have := hL.next; have := hf2.next; show _ ≤ H2.next; omega⟩
      have hti : ¬ Id tv i := fun q => by have := ht.lt q; have := hf2.next; have : i = H2.next := rfl; omega
      have hL4 : Laid H4 := hL.keep hf4 fun j q => by rw [q]; exact hp
      have bkk : ∀ {H' : Hp}, Frm (fun j => j = p ∨ j = i) H4 H' → Frm (· = p) H H' := fun k => hf4.trans (k.mono fun j q => .inl q) fun j q => by
        rcases q with q | q
        · exact .inl q
        · right; rw [q]; exact hf2.next
      have hpa : ∀ {α : Type} (k : Value → Hp → Option α), zdx [.int .i64 0, .int .i64 0, .int .i64 0, .int .i64 0, .int .i64 0, .int .u64 0, .string ⟨#[]⟩] H2 k = k (.pointer (some ⟨i, 0, none⟩)) H3 := fun k => rfl
      rw [hpa, show (Nd.val ⟨(op : Int), 0, 0, 0, 0, 0, ⟨#[]⟩⟩) = n0.val from rfl, hst7] at hrun
      have p1 := ph1_ok hN hA hL4 ts
      have hfl : rdF (zbB (op : Int)) r ts 0 n0 = match rdF (preF n0.op) r ts 0 n0 with
          | none => none
          | some (m1, w1) => match rdF (List.replicate (zak m1.op).toNat .p) w1 ts 0 m1 with
            | none => none
            | some (m2, w2) => rdF (zom m2.op) w2 ts (zak m2.op).toNat m2 := by
        unfold zbB
        rw [rdF_app, show n0.op = (op : Int) from rfl]
        cases e1 : rdF (preF (op : Int)) r ts 0 n0 with
        | none => rfl
        | some q1 =>
          obtain ⟨m1, w1⟩ := q1
          have o1 : m1.op = (op : Int) := (zjk _ _ _ _ _ _ _ e1).1
          dsimp only
          rw [rdF_app, zok, o1, Nat.add_zero]
          cases e2 : rdF (List.replicate (zak (op : Int)).toNat .p) w1 ts 0 m1 with
          | none => rfl
          | some q2 =>
            obtain ⟨m2, w2⟩ := q2
            have o2 : m2.op = (op : Int) := (zjk _ _ _ _ _ _ _ e2).1.trans o1
            dsimp only
            rw [o2, Nat.zero_add, List.count_replicate_self]
      show NodeA H p st f g lim L K sl wv tv (match rdF (zbB (op : Int)) r ts 0 n0 with
        | some (m, []) => some { m with w := zcj L m }
        | _ => none)
      rw [hfl]
      have no : zkI n0 := ⟨by show (0 : Int) ≤ 0; decide, by show (0 : Int) < 18446744073709551616; decide⟩
      cases e1 : rdF (preF n0.op) r ts 0 n0 with
      | none =>
        rw [e1] at p1
        obtain ⟨H5, c1, c2⟩ := p1
        have c1 : ph1 (.pointer (some ⟨p, 0, none⟩)) (.pointer (some ⟨i, 0, none⟩)) H4 = some (.ret, [W0 (zbY 3)], H5) := c1
        refine ⟨H5, hrun.trans ?_, wid (bkk c2)⟩
        show zav (ph1 (.pointer (some ⟨p, 0, none⟩)) (.pointer (some ⟨i, 0, none⟩)) H4) _ = _
        rw [c1]; rfl
      | some q1 =>
        obtain ⟨m1, w1⟩ := q1
        rw [e1] at p1
        obtain ⟨H5, wv5, c1, c2, c3, c4⟩ := p1
        have g1 := zjk _ _ _ _ _ _ _ e1
        have hL5 : Laid H5 := hA.laid hL4 c4
        have ht5 : Vec H5 1 tv ts.length (i64s ts) := ht.keep (bkk c4) fun j hj q => htp (by rw [q] at hj; exact hj)
        have hb := partsT_le m1.op
        obtain ⟨P, hP⟩ : ∃ P : Nat, zak m1.op = (P : Int) := ⟨(zak m1.op).toNat, by omega⟩
        have p2 := znu hA ts P (by omega) htp hti P 0 H5 wv5 w1 m1 (by omega) c2 hL5 ht5
        have hrun2 : RR F.a14 [.pointer (some ⟨p, 0, none⟩)] H = _ := hrun
        have hop5 : ∀ {α : Type} (k : Value → Option α), zaj 1 false H5 (.pointer (some ⟨i, 0 + 0, none⟩)) k = k (.int .i64 m1.op) := fun k => c2.ld 0 _ rfl k
        dsimp only
        have hPn : (zak m1.op).toNat = P := by omega
        rw [hPn]
        have hrun3 := hrun.trans (show zav (ph1 (.pointer (some ⟨p, 0, none⟩)) (.pointer (some ⟨i, 0, none⟩)) H4) _ = _ by rw [c1, zaq, zaV, zaE, hop5, zah (c29 m1.op H5), hP])
        have p2' : PhA H5 p i (.pointer (some ⟨st, 0, none⟩)) wv5 tv (rdF (List.replicate P .p) w1 ts 0 m1) (.exit 1) [.int .i64 (P : Int)] (zaG (zaC RR (.pointer (some ⟨p, 0, none⟩)) (.int .i64 (P : Int)) (.pointer (some ⟨i, 0, none⟩))) [.int .i64 0] H5) := p2
        cases e2 : rdF (List.replicate P .p) w1 ts 0 m1 with
        | none =>
          rw [e2] at p2'
          obtain ⟨H6, d1, d2⟩ := p2'
          refine ⟨H6, hrun3.trans ?_, wid (bkk (c4.trans d2 fun j q => .inl q))⟩
          rw [d1]; rfl
        | some q2 =>
          obtain ⟨m2, w2⟩ := q2
          rw [e2] at p2'
          obtain ⟨H6, wv6, d1, d2, d3, d4⟩ := p2'
          have g2 := zjk _ _ _ _ _ _ _ e2
          have c46 : Frm (fun j => j = p ∨ j = i) H4 H6 := c4.trans d4 fun j q => .inl q
          have hL6 : Laid H6 := hA.laid hL4 c46
          have hS6 : StF H6 st lim L K sl f g := hS.keep (fun j hj => (bkk c46).same j (hS.foot_lt hj) fun q => hfp (by rw [q] at hj; exact hj)) (bkk c46).next
          have p3 := ph3_ok d2 hA hL6 hS6 hR ts
          dsimp only
          cases e3 : rdF (zom m2.op) w2 ts (zak m2.op).toNat m2 with
          | none =>
            rw [e3] at p3
            obtain ⟨H7, x1, x2⟩ := p3
            have x1 : ph3 (.pointer (some ⟨p, 0, none⟩)) (.pointer (some ⟨i, 0, none⟩)) H6 = some (.ret, [W0 (zbY 3)], H7) := x1
            refine ⟨H7, hrun3.trans ?_, wid (bkk (c46.trans x2 fun j q => .inl q))⟩
            rw [d1, zaq, zbk, zaI]
            show zav (ph3 (.pointer (some ⟨p, 0, none⟩)) (.pointer (some ⟨i, 0, none⟩)) H6) _ = _
            rw [x1]; rfl
          | some q3 =>
            obtain ⟨m3, w3⟩ := q3
            rw [e3] at p3
            obtain ⟨H7, wv7, x1, x2, x3, x4⟩ := p3
            have g3 := zjk _ _ _ _ _ _ _ e3
            have x1 : ph3 (.pointer (some ⟨p, 0, none⟩)) (.pointer (some ⟨i, 0, none⟩)) H6 = some (.next, [], H7) := x1
            have c47 : Frm (fun j => j = p ∨ j = i) H4 H7 := c46.trans x4 fun j q => .inl q
            let m : Nd := { m3 with w := zcj L m3 }
            have x2 : NS H7 p i (.pointer (some ⟨st, 0, none⟩)) wv7 tv w3 m := x2
            have hwv : ∀ {α : Type} (k : Value → Option α), zaj 1 false H7 (.pointer (some ⟨p, 0 + 1, none⟩)) k = k wv7 := fun k => zbe x2.rs.rd 1 _ rfl k
            have hsp : ∀ {α : Type} (k : Value → Option α), zaj 1 false H7 (.pointer (some ⟨p, 0 + 0, none⟩)) k = k (.pointer (some ⟨st, 0, none⟩)) := fun k => zbe x2.rs.rd 0 _ rfl k
            have hrun4 := hrun3.trans (show _ = _ by rw [d1, zaq, zbk, zaI])
            have hrun5 := hrun4.trans (show zav (ph3 (.pointer (some ⟨p, 0, none⟩)) (.pointer (some ⟨i, 0, none⟩)) H6) _ = _ by rw [x1, zaq, zaV, zbm, zaE, hwv, x2.rs.wd.len])
            cases w3 with
            | cons w w3 =>
              refine ⟨H7, hrun5.trans ?_, wid (bkk c47)⟩
              have hz : (((w :: w3).length : Int) > 0) := by rw [List.length_cons]; omega
              simp only [zca, hz, decide_true, zaf, s_br, if_true, zbW]
            | nil =>
              have hz : ¬ ((([] : List (List UInt8)).length : Int) > 0) := by decide
              have hld7 : ∀ {α : Type} (k : Value → Option α), zaj 7 true H7 (.pointer (some ⟨i, 0, none⟩)) k = k m.val := fun k => by
                have e : H7.rdP (.pointer (some ⟨i, 0, none⟩)) 7 true = some m.val := by
                  simp only [Hp.rdP, Hp.rd, x2.nd, zbZ]
                  kernel_rfl
                unfold zaj; rw [e]
              have hS7 : StF H7 st lim L K sl f g := hS.keep (fun j hj => (bkk c47).same j (hS.foot_lt hj) fun q => hfp (by rw [q] at hj; exact hj)) (bkk c47).next
              have hm : zkI m := g3.2 (g2.2 (g1.2 no))
              obtain ⟨H8, sl8, y1, y2⟩ := d22 hS7 hR m hm
              have hrun6 := hrun5.trans (show _ = _ by
                simp only [zca, hz, decide_false, zaf, s_br, Bool.false_eq_true, if_false, zbm, zaE, hsp, hld7]
                rw [zah y1, x01])
              have hfm : Frm (Foot st f g sl) H7 H8 := ⟨y2.next, fun j hj hn => y2.frame j hj (fun q => hn (.inl q)) (fun q => hn (.inr (.inl q))) (fun q => hn (.inr (.inr (.inl q)))) (fun q => hn (.inr (.inr (.inr q))))⟩
              have hff : Frm (fun j => j = p ∨ Foot st f g sl j) H H8 := (wid (bkk c47)).trans (hfm.mono fun j q => .inl q) fun j q => .inl (.inr q)
              refine ⟨fun hne => ⟨H8, hrun6.trans ?_, hff⟩, fun heq => ⟨H8, wv7, sl8, hrun6.trans ?_, ?_, y2.st, hff, fun j q => ?_, fun j q => a3 j (c3 j (d3 j (x3 j q)))⟩⟩
              · have hne : ¬ ((mkR lim L K m).2.1 = 0) := hne
                simp only [zec, hne, ne_eq, not_false_eq_true, decide_true, zaf, s_br, if_true, zbW]
                rfl
              · have e0 : ¬ ((mkR lim L K m).2.1 ≠ 0) := fun q => q heq
                simp only [zec, e0, decide_false, zaf, s_br, Bool.false_eq_true, if_false]
                rfl
              · exact x2.rs.keep hfm hfp fun j hj => hfw j (a3 j (c3 j (d3 j (x3 j hj))))
              · rcases q with q | q | q | q
                · exact .inl (.inl q)
                · exact .inl (.inr (.inl q))
                · exact .inl (.inr (.inr (.inl q)))
                · rcases y2.own j q with z | z
                  · exact .inl (.inr (.inr (.inr z)))
                  · right; have := (bkk c47).next; omega
end Go.AM
namespace Go.AM
open Go
structure Reg (B : Nat) (H : Hp) (r : Nat → Nat → Prop) : Prop where
  lt : ∀ a j, r a j → j < H.next
  lo : ∀ a j, r a j → B ≤ j
  ap : ∀ a b j, r a j → r b j → a = b
def InR (S : List Nat) (r : Nat → Nat → Prop) (j : Nat) : Prop := ∃ a, a ∈ S ∧ r a j
theorem Reg.off {B : Nat} {H : Hp} {r : Nat → Nat → Prop} (h : Reg B H r) {S : List Nat} {b j : Nat} (hj : r b j) (hb : b ∉ S) : ¬ InR S r j := fun ⟨a, ha, hr⟩ => hb (h.ap a b j hr hj ▸ ha)
theorem Reg.upd {B : Nat} {H H' : Hp} {r r' : Nat → Nat → Prop} (h : Reg B H r) (a : Nat) (hn : H.next ≤ H'.next) (hg : B ≤ H.next) (same : ∀ b j, b ≠ a → r' b j → r b j) (new : ∀ j, r' a j → r a j ∨ (H.next ≤ j ∧ j < H'.next)) : Reg B H' r' := by
  have key : ∀ b j, r' b j → r b j ∨ (b = a ∧ H.next ≤ j ∧ j < H'.next) := fun b j hj => by
    by_cases e : b = a
    · subst e
      rcases new j hj with q | q
      · exact .inl q
      · exact .inr ⟨rfl, q⟩
    · exact .inl (same b j e hj)
  refine ⟨fun b j hj => ?_, fun b j hj => ?_, fun b c j hb hc => ?_⟩
  · rcases key b j hj with q | ⟨_, _, q⟩
    · exact Nat.lt_of_lt_of_le (h.lt b j q) hn
    · exact q
  · rcases key b j hj with q | ⟨_, q, _⟩
    · exact h.lo b j q
    · omega
  · rcases key b j hb with q | ⟨q, q1, _⟩ <;> rcases key c j hc with z | ⟨z, z1, _⟩
    · exact h.ap b c j q z
    · have := h.lt b j q; omega
    · have := h.lt c j z; omega
    · rw [q, z]
def LRg (p1 p3 p5 st f g p : Nat) (sl lv tv rv wv : Value) : Nat → Nat → Prop
  | 0 => fun j => j = p1
  | 1 => fun j => j = p3
  | 2 => fun j => j = p5
  | 3 => Foot st f g sl
  | 4 => Id lv
  | 5 => fun j => j = p
  | 6 => Id tv
  | 7 => Id rv
  | 8 => Id wv
  | _ => fun _ => False
structure LS (B : Nat) (H : Hp) (p1 p3 p5 st f g p : Nat) (lim : Int) (lv : Value) (lines : List (List UInt8)) (L : List Nd) (K : List (ByteArray × Int)) (sl tv : Value) (ts : List Int) (rv : Value) (rs : List Int) (wv : Value) (ws : List (List UInt8)) : Prop where
  gB : PP.globals.size ≤ B
  bn : B ≤ H.next
  reg : Reg B H (LRg p1 p3 p5 st f g p sl lv tv rv wv)
  b1 : H.get p1 = some (.cells [.pointer (some ⟨st, 0, none⟩)] true)
  b3 : H.get p3 = some (.cells [rv] true)
  b5 : H.get p5 = some (.cells [.int .i64 0] true)
  store : StF H st lim L K sl f g
  lin : Vec H 1 lv lines.length (lines.map str)
  rd : RdS H p (.pointer (some ⟨st, 0, none⟩)) wv tv ws
  tv : Vec H 1 tv ts.length (i64s ts)
  rv : Vec H 1 rv rs.length (i64s rs)
  laid : Laid H
section
variable {B : Nat} {H H' : Hp} {p1 p3 p5 st f g p : Nat} {lim : Int} {lv : Value} {lines : List (List UInt8)} {L : List Nd} {K : List (ByteArray × Int)} {sl tv : Value} {ts : List Int} {rv : Value} {rs : List Int} {wv : Value} {ws : List (List UInt8)}
theorem LS.off (h : LS B H p1 p3 p5 st f g p lim lv lines L K sl tv ts rv rs wv ws) (S : List Nat) (b : Nat) (hb : b ∉ S) {j : Nat} (hj : LRg p1 p3 p5 st f g p sl lv tv rv wv b j) : ¬ InR S (LRg p1 p3 p5 st f g p sl lv tv rv wv) j := h.reg.off hj hb
theorem LS.lay (h : LS B H p1 p3 p5 st f g p lim lv lines L K sl tv ts rv rs wv ws) {S : List Nat} (k : Frm (InR S (LRg p1 p3 p5 st f g p sl lv tv rv wv)) H H') : Laid H' := h.laid.keep k fun j ⟨a, _, q⟩ => Nat.le_trans h.gB (h.reg.lo a j q)
theorem LS.up (h : LS B H p1 p3 p5 st f g p lim lv lines L K sl tv ts rv rs wv ws) {S : List Nat} (k : Frm (InR S (LRg p1 p3 p5 st f g p sl lv tv rv wv)) H H') : Frm (B ≤ ·) H H' := k.mono fun j ⟨a, _, q⟩ => .inl (h.reg.lo a j q)
theorem LS.read (h : LS B H p1 p3 p5 st f g p lim lv lines L K sl tv ts rv rs wv ws) (k : Frm (· = p) H H') {wv' : Value} {ws' : List (List UInt8)} (hr : RdS H' p (.pointer (some ⟨st, 0, none⟩)) wv' tv ws') (hw : ∀ j, Id wv' j → Id wv j ∨ (H.next ≤ j ∧ j < H'.next)) :
    LS B H' p1 p3 p5 st f g p lim lv lines L K sl tv ts rv rs wv' ws' := by
  have k' : Frm (InR [5] (LRg p1 p3 p5 st f g p sl lv tv rv wv)) H H' := k.mono fun j q => .inl ⟨5, by simp, q⟩
  have o : ∀ b j, b ∉ [5] → LRg p1 p3 p5 st f g p sl lv tv rv wv b j → H'.get j = H.get j := fun b j hb hj => k'.same j (h.reg.lt b j hj) (h.off [5] b hb hj)
  refine ⟨h.gB, Nat.le_trans h.bn k.next, h.reg.upd 8 k.next h.bn (fun b j hb hj => ?_) fun j hj => hw j hj, by rw [o 0 p1 (by decide) rfl]; exact h.b1, by rw [o 1 p3 (by decide) rfl]; exact h.b3, by rw [o 2 p5 (by decide) rfl]; exact h.b5,
    h.store.keep (fun j hj => o 3 j (by decide) hj) k.next, h.lin.keep' (fun j hj => o 4 j (by decide) hj) k.next, hr, h.tv.keep' (fun j hj => o 6 j (by decide) hj) k.next, h.rv.keep' (fun j hj => o 7 j (by decide) hj) k.next, h.lay k'⟩
  match b, hb, hj with
  | 0, _, hj => exact hj
  | 1, _, hj => exact hj
  | 2, _, hj => exact hj
  | 3, _, hj => exact hj
  | 4, _, hj => exact hj
  | 5, _, hj => exact hj
  | 6, _, hj => exact hj
  | 7, _, hj => exact hj
  | 8, hb, _ => exact absurd rfl hb
  | n + 9, _, hj => exact hj
theorem LS.grow (h : LS B H p1 p3 p5 st f g p lim lv lines L K sl tv ts rv rs wv ws) (k : Frm (fun j => j = p ∨ Foot st f g sl j) H H') {wv' : Value} {ws' : List (List UInt8)} (hr : RdS H' p (.pointer (some ⟨st, 0, none⟩)) wv' tv ws') (hw : ∀ j, Id wv' j → Id wv j)
    {L' : List Nd} {K' : List (ByteArray × Int)} {sl' : Value} (hs : StF H' st lim L' K' sl' f g) (hf : ∀ j, Foot st f g sl' j → Foot st f g sl j ∨ H.next ≤ j) :
    LS B H' p1 p3 p5 st f g p lim lv lines L' K' sl' tv ts rv rs wv' ws' := by
  have k' : Frm (InR [3, 5] (LRg p1 p3 p5 st f g p sl lv tv rv wv)) H H' := k.mono fun j q => .inl (by rcases q with q | q; exact ⟨5, by simp, q⟩; exact ⟨3, by simp, q⟩)
  have o : ∀ b j, b ∉ [3, 5] → LRg p1 p3 p5 st f g p sl lv tv rv wv b j → H'.get j = H.get j := fun b j hb hj => k'.same j (h.reg.lt b j hj) (h.off [3, 5] b hb hj)
  have r1 : Reg B H' (LRg p1 p3 p5 st f g p sl' lv tv rv wv) := h.reg.upd 3 k.next h.bn (fun b j hb hj => by
    match b, hb, hj with
    | 0, _, hj => exact hj
    | 1, _, hj => exact hj
    | 2, _, hj => exact hj
    | 3, hb, _ => exact absurd rfl hb
    | 4, _, hj => exact hj
    | 5, _, hj => exact hj
    | 6, _, hj => exact hj
    | 7, _, hj => exact hj
    | 8, _, hj => exact hj
    | n + 9, _, hj => exact hj) fun j hj => (hf j hj).imp id fun q => ⟨q, hs.foot_lt hj⟩
  have r2 : Reg B H' (LRg p1 p3 p5 st f g p sl' lv tv rv wv') := r1.upd 8 (Nat.le_refl _) (Nat.le_trans h.bn k.next) (fun b j hb hj => by
    match b, hb, hj with
    | 0, _, hj => exact hj
    | 1, _, hj => exact hj
    | 2, _, hj => exact hj
    | 3, _, hj => exact hj
    | 4, _, hj => exact hj
    | 5, _, hj => exact hj
    | 6, _, hj => exact hj
    | 7, _, hj => exact hj
    | 8, hb, _ => exact absurd rfl hb
    | n + 9, _, hj => exact hj) fun j hj => .inl (hw j hj)
  exact ⟨h.gB, Nat.le_trans h.bn k.next, r2, by rw [o 0 p1 (by decide) rfl]; exact h.b1, by rw [o 1 p3 (by decide) rfl]; exact h.b3, by rw [o 2 p5 (by decide) rfl]; exact h.b5,
    hs, h.lin.keep' (fun j hj => o 4 j (by decide) hj) k.next, hr, h.tv.keep' (fun j hj => o 6 j (by decide) hj) k.next, h.rv.keep' (fun j hj => o 7 j (by decide) hj) k.next, h.lay k'⟩
theorem zka {α : Type} (z x : Int) (H : Hp) (k : Value → Hp → Option α) : zao 1 [.int .i64 z] 1 [(0, .int .i64 x)] H k = k (.slice (some ⟨H.next, 0, some 1⟩) 1 1) (H.new (.cells [.int .i64 x] true)) := by
  have : zbg 1 [.int .i64 z] 1 [(0, .int .i64 x)] H = some (.slice (some ⟨H.next, 0, some 1⟩) 1 1, H.new (.cells [.int .i64 x] true)) := by
    unfold zbg
    rw [if_neg (by decide)]
    rfl
  unfold zao; rw [this]
theorem zf2 {cs : List Value} {o : Nat} {v : Value} {i : Nat} (hg : H.get i = some (.cells cs true)) (hc : zab v = [v]) (h1 : one v = true) (ho : o < cs.length) {α : Type} (k : Hp → Option α) :
    zam 1 H (.pointer (some ⟨i, o, none⟩)) v k = k (H.set i (some (.cells (spl cs o [v]) true))) := by
  have hw : za5 1 cs o v = some (spl cs o [v]) := by
    unfold za5
    rw [hc, if_pos ⟨rfl, by omega, by simp [h1]⟩]
  have : H.wr (.pointer (some ⟨i, o, none⟩)) 1 v = some (H.set i (some (.cells (spl cs o [v]) true))) := by
    show (match H.get i with | some (.cells cs true) => (match za5 1 cs o v with | some cs' => some (H.set i (some (.cells cs' true))) | none => none) | _ => none) = _
    rw [hg]; dsimp only; rw [hw]
  unfold zam; rw [this]
theorem zdq {sz : Nat} {v : Value} {n : Nat} {cs : List Value} (h : Vec H sz v n cs) : zab v = [v] ∧ one v = true := by
  rcases h with ⟨_, _, rfl⟩ | ⟨y, c, rest, rfl, _⟩ <;> exact ⟨rfl, rfl⟩
theorem zm5 {v : Value} {l : List Int} (h : Vec H 1 v l.length (i64s l)) (hl : l.length ≤ 2 ^ 40) (x z : Int) :
    ∃ v' H', (∀ (α : Type) (k : Value → Hp → Option α), zaF 1 8 v (.slice (some ⟨H.next, 0, some 1⟩) 1 1) (H.new (.cells [.int .i64 x] true)) k = k v' H') ∧ Vec H' 1 v' (l ++ [x]).length (i64s (l ++ [x])) ∧ Frm (Id v) H H' ∧ (∀ j, Id v' j → Id v j ∨ (H.next ≤ j ∧ j < H'.next)) := by
  obtain ⟨v', H', h1, h2, h3, h4, _⟩ := h.push (bytes := 8) (zs := [.int .i64 z]) (x := .int .i64 x) (by omega) (by omega) rfl rfl rfl (by omega)
  refine ⟨v', H', fun α k => ?_, ?_, h3, fun j hj => (h4 j hj).imp id fun q => ⟨q, h2.lt hj⟩⟩
  · have := h1 α k
    rw [zka] at this
    exact this
  · have e : i64s (l ++ [x]) = i64s l ++ zab (.int .i64 x) := by simp [i64s, zab, Value.cells]
    rw [List.length_append, e]
    exact h2
theorem LS.root (h : LS B H p1 p3 p5 st f g p lim lv lines L K sl tv ts rv rs wv ws) (hl : rs.length ≤ 2 ^ 40) (x z : Int) :
    ∃ rv' H', (∀ (α : Type) (k : Hp → Option α), (zao 1 [.int .i64 z] 1 [(0, .int .i64 x)] H fun v88 H89 => chk (Hp.rdP H89 (.pointer (some ⟨p3, 0, none⟩)) 1 false = some rv) (zaF 1 8 rv v88 H89 fun v90 H91 => zam 1 H91 (.pointer (some ⟨p3, 0, none⟩)) v90 k)) = k H') ∧
      LS B H' p1 p3 p5 st f g p lim lv lines L K sl tv ts rv' (rs ++ [x]) wv ws ∧ Frm (InR [1, 7] (LRg p1 p3 p5 st f g p sl lv tv rv wv)) H H' ∧ (∀ j, Id rv' j → Id rv j ∨ H.next ≤ j) := by
  obtain ⟨rv', H1, a1, a2, a3, a4⟩ := zm5 h.rv hl x z
  have hp3 : p3 < H.next := h.reg.lt 1 p3 rfl
  have n3 : ¬ Id rv p3 := fun q => by have := h.reg.ap 1 7 p3 rfl q; omega
  have g3 : H1.get p3 = some (.cells [rv] true) := by rw [a3.same p3 hp3 n3]; exact h.b3
  have n3' : ¬ Id rv' p3 := fun q => by
    rcases a4 p3 q with z | z
    · exact n3 z
    · omega
  have f2 : Frm (· = p3) H1 (H1.set p3 (some (.cells [rv'] true))) := ze3 _ _ _ _ rfl
  have k' : Frm (InR [1, 7] (LRg p1 p3 p5 st f g p sl lv tv rv wv)) H (H1.set p3 (some (.cells [rv'] true))) := (a3.mono fun j q => .inl ⟨7, by simp, q⟩).trans (f2.mono fun j q => .inl q) fun j q => .inl ⟨1, by simp, q⟩
  have o : ∀ b j, b ∉ [1, 7] → LRg p1 p3 p5 st f g p sl lv tv rv wv b j → (H1.set p3 (some (.cells [rv'] true))).get j = H.get j := fun b j hb hj => k'.same j (h.reg.lt b j hj) (h.off [1, 7] b hb hj)
  have r1 : Reg B (H1.set p3 (some (.cells [rv'] true))) (LRg p1 p3 p5 st f g p sl lv tv rv' wv) := h.reg.upd 7 k'.next h.bn (fun b j hb hj => by
    match b, hb, hj with
    | 0, _, hj => exact hj
    | 1, _, hj => exact hj
    | 2, _, hj => exact hj
    | 3, _, hj => exact hj
    | 4, _, hj => exact hj
    | 5, _, hj => exact hj
    | 6, _, hj => exact hj
    | 7, hb, _ => exact absurd rfl hb
    | 8, _, hj => exact hj
    | n + 9, _, hj => exact hj) a4
  refine ⟨rv', H1.set p3 (some (.cells [rv'] true)), fun α k => ?_, ⟨h.gB, Nat.le_trans h.bn k'.next, r1, by rw [o 0 p1 (by decide) rfl]; exact h.b1, by rw [get_set, if_pos rfl], by rw [o 2 p5 (by decide) rfl]; exact h.b5,
    h.store.keep (fun j hj => o 3 j (by decide) hj) k'.next, h.lin.keep' (fun j hj => o 4 j (by decide) hj) k'.next, h.rd.keep k' (h.off [1, 7] 5 (by decide) rfl) fun j hj => h.off [1, 7] 8 (by decide) hj,
    h.tv.keep' (fun j hj => o 6 j (by decide) hj) k'.next, a2.keep f2 fun j hj e => n3' (by rw [e] at hj; exact hj), h.lay k'⟩, k', fun j hj => (a4 j hj).imp id fun q => q.1⟩
  rw [zka]
  have hrd : Hp.rdP (H.new (.cells [.int .i64 x] true)) (.pointer (some ⟨p3, 0, none⟩)) 1 false = some rv := zk8 (own := true) (cs := [rv]) (by rw [get_new, if_neg (by omega)]; exact h.b3) 0 rv rfl
  rw [zfG hrd, a1]
  exact zf2 g3 (zdq a2).1 (zdq a2).2 (by show 0 < 1; decide) k
theorem LS.term (h : LS B H p1 p3 p5 st f g p lim lv lines L K sl tv ts rv rs wv ws) (hl : ts.length ≤ 2 ^ 40) (x z : Int) :
    ∃ tv' H', (∀ (α : Type) (k : Hp → Option α), (zao 1 [.int .i64 z] 1 [(0, .int .i64 x)] H fun v88 H89 => zaF 1 8 tv v88 H89 fun v90 H91 => zam 1 H91 (.pointer (some ⟨p, 0 + 2, none⟩)) v90 k) = k H') ∧
      LS B H' p1 p3 p5 st f g p lim lv lines L K sl tv' (ts ++ [x]) rv rs wv ws ∧ Frm (InR [5, 6] (LRg p1 p3 p5 st f g p sl lv tv rv wv)) H H' ∧ (∀ j, Id tv' j → Id tv j ∨ H.next ≤ j) := by
  obtain ⟨tv', H1, a1, a2, a3, a4⟩ := zm5 h.tv hl x z
  have hp : p < H.next := h.reg.lt 5 p rfl
  have n3 : ¬ Id tv p := fun q => by have := h.reg.ap 5 6 p rfl q; omega
  have g3 : H1.get p = some (.cells [.pointer (some ⟨st, 0, none⟩), wv, tv] true) := by rw [a3.same p hp n3]; exact h.rd.rd
  have n3' : ¬ Id tv' p := fun q => by
    rcases a4 p q with z | z
    · exact n3 z
    · omega
  let H2 := H1.set p (some (.cells [.pointer (some ⟨st, 0, none⟩), wv, tv'] true))
  have f2 : Frm (· = p) H1 H2 := ze3 _ _ _ _ rfl
  have k' : Frm (InR [5, 6] (LRg p1 p3 p5 st f g p sl lv tv rv wv)) H H2 := (a3.mono fun j q => .inl ⟨6, by simp, q⟩).trans (f2.mono fun j q => .inl q) fun j q => .inl ⟨5, by simp, q⟩
  have o : ∀ b j, b ∉ [5, 6] → LRg p1 p3 p5 st f g p sl lv tv rv wv b j → H2.get j = H.get j := fun b j hb hj => k'.same j (h.reg.lt b j hj) (h.off [5, 6] b hb hj)
  have r1 : Reg B H2 (LRg p1 p3 p5 st f g p sl lv tv' rv wv) := h.reg.upd 6 k'.next h.bn (fun b j hb hj => by
    match b, hb, hj with
    | 0, _, hj => exact hj
    | 1, _, hj => exact hj
    | 2, _, hj => exact hj
    | 3, _, hj => exact hj
    | 4, _, hj => exact hj
    | 5, _, hj => exact hj
    | 6, hb, _ => exact absurd rfl hb
    | 7, _, hj => exact hj
    | 8, _, hj => exact hj
    | n + 9, _, hj => exact hj) a4
  refine ⟨tv', H2, fun α k => ?_, ⟨h.gB, Nat.le_trans h.bn k'.next, r1, by rw [o 0 p1 (by decide) rfl]; exact h.b1, by rw [o 1 p3 (by decide) rfl]; exact h.b3, by rw [o 2 p5 (by decide) rfl]; exact h.b5,
    h.store.keep (fun j hj => o 3 j (by decide) hj) k'.next, h.lin.keep' (fun j hj => o 4 j (by decide) hj) k'.next,
    ⟨by show (H1.set p _).get p = _; rw [get_set, if_pos rfl], h.rd.wd.keep k' fun j hj => h.off [5, 6] 8 (by decide) hj, h.rd.wp, Nat.lt_of_lt_of_le hp k'.next, h.rd.sh⟩,
    a2.keep f2 fun j hj e => n3' (by rw [e] at hj; exact hj), h.rv.keep' (fun j hj => o 7 j (by decide) hj) k'.next, h.lay k'⟩, k', fun j hj => (a4 j hj).imp id fun q => q.1⟩
  rw [zka, a1]
  exact zf2 g3 (zdq a2).1 (zdq a2).2 (by show 2 < 3; decide) k
end
def zfv (ts : List Int) : List (List UInt8) → Option (List Int)
  | [] => some []
  | w :: r => match zlg ts (w :: r) with
    | none => none
    | some t => match zfv ts r with
      | none => none
      | some l => some (t :: l)
theorem zji {B : Nat} {p1 p3 p5 st f g p : Nat} {lim : Int} {lv : Value} {lines : List (List UInt8)} {L : List Nd} {K : List (ByteArray × Int)} {sl tv : Value} {ts : List Int} (lineV : Value) : ∀ (ws : List (List UInt8)) (H : Hp) (rv : Value) (rs : List Int) (wv : Value), LS B H p1 p3 p5 st f g p lim lv lines L K sl tv ts rv rs wv ws → rs.length + ws.length ≤ 2 ^ 40 →
    match zfv ts ws with
    | none => ∃ H' rv', zaG (zbc RR lineV (.pointer (some ⟨p3, 0, none⟩)) (.pointer (some ⟨p, 0, none⟩))) [] H = some (.ret, [W0 (.tuple #[zbY 3, lineV])], H') ∧ (H'.get p1 = H.get p1 ∧ H'.get p3 = some (.cells [rv'] true) ∧ H'.get p5 = H.get p5) ∧ Frm (B ≤ ·) H H'
    | some l => ∃ H' rv' wv', zaG (zbc RR lineV (.pointer (some ⟨p3, 0, none⟩)) (.pointer (some ⟨p, 0, none⟩))) [] H = some (.exit 2, [], H') ∧ LS B H' p1 p3 p5 st f g p lim lv lines L K sl tv ts rv' (rs ++ l) wv' [] ∧ Frm (B ≤ ·) H H'
  | [], H, rv, rs, wv, h, hl => by
    have hw := fun (α : Type) (k : Value → Option α) => zbe h.rd.rd (0 + 1) wv rfl k
    have this : zbc RR lineV (.pointer (some ⟨p3, 0, none⟩)) (.pointer (some ⟨p, 0, none⟩)) [] H = some (.exit 2, [], H) := by
      unfold zbc
      have h1 : ¬ (((([] : List (List UInt8)).length : Nat) : Int) > 0) := by decide
      simp only [zbm, zaE, hw, h.rd.wd.len, zca, h1, decide_false, zaf, s_br, Bool.false_eq_true, if_false]
    refine ⟨H, rv, wv, by rw [zan, this]; rfl, by rw [List.append_nil]; exact h, Frm.refl _ _⟩
  | w :: r, H, rv, rs, wv, h, hl => by
    have hw := fun (α : Type) (k : Value → Option α) => zbe h.rd.rd (0 + 1) wv rfl k
    have h1 : ((((w :: r).length : Nat) : Int) > 0) := by rw [List.length_cons]; omega
    have hr3 := fun (α : Type) (k : Value → Option α) => zbe h.b3 0 rv rfl k
    have hn := h.rd.part h.laid (Nat.le_trans h.gB (h.reg.lo 5 p rfl)) h.tv (fun q => by have := h.reg.ap 5 6 p rfl q; omega)
    rw [List.length_cons] at hl
    unfold zfv
    cases hp : zlg ts (w :: r) with
    | none =>
      rw [hp] at hn
      obtain ⟨H1, a1, a2⟩ := hn
      have k' : Frm (InR [5] (LRg p1 p3 p5 st f g p sl lv tv rv wv)) H H1 := a2.mono fun j q => .inl ⟨5, by simp, q⟩
      have o : ∀ b j, b ∉ [5] → LRg p1 p3 p5 st f g p sl lv tv rv wv b j → H1.get j = H.get j := fun b j hb hj => k'.same j (h.reg.lt b j hj) (h.off [5] b hb hj)
      have this : zbc RR lineV (.pointer (some ⟨p3, 0, none⟩)) (.pointer (some ⟨p, 0, none⟩)) [] H = some (.ret, [W0 (.tuple #[zbY 3, lineV])], H1) := by
        unfold zbc
        simp only [zbm, zaE, hw, h.rd.wd.len, zca, h1, decide_true, zaf, s_br, if_true, hr3]
        rw [zbv a1]
      exact ⟨H1, rv, by rw [zan, this]; rfl, ⟨o 0 p1 (by decide) rfl, by rw [o 1 p3 (by decide) rfl]; exact h.b3, o 2 p5 (by decide) rfl⟩, h.up k'⟩
    | some t =>
      rw [hp] at hn
      obtain ⟨H1, wv1, a1, a2, a3, a4⟩ := hn
      have h2 := h.read a4 a2 fun j q => .inl (a3 j q)
      obtain ⟨rv2, H2, b1, b2, b3, b4⟩ := h2.root (by omega) t 0
      have this : zbc RR lineV (.pointer (some ⟨p3, 0, none⟩)) (.pointer (some ⟨p, 0, none⟩)) [] H = some (.next, [], H2) := by
        unfold zbc
        simp only [zbm, zaE, hw, h.rd.wd.len, zca, h1, decide_true, zaf, s_br, if_true, hr3]
        rw [zbu a1, zfG (zk8 h2.b3 0 rv rfl), b1]
      have f2 : Frm (B ≤ ·) H H2 := (h.up (S := [5]) (a4.mono fun j q => .inl ⟨5, by simp, q⟩)).trans (h2.up b3) fun j q => .inl q
      have back2 : ∀ {H' : Hp}, Frm (B ≤ ·) H2 H' → Frm (B ≤ ·) H H' := fun k => f2.trans k fun j q => .inl q
      have ih := zji lineV r H2 rv2 (rs ++ [t]) wv1 b2 (by rw [List.length_append]; simp; omega)
      dsimp only
      have hk1 : H2.get p1 = H.get p1 := by rw [b2.b1, h.b1]
      have hk5 : H2.get p5 = H.get p5 := by rw [b2.b5, h.b5]
      cases hq : zfv ts r with
      | none =>
        rw [hq] at ih
        obtain ⟨H3, rv3, c1, ⟨c2, c3, c4⟩, c5⟩ := ih
        refine ⟨H3, rv3, ?_, ⟨c2.trans hk1, c3, c4.trans hk5⟩, back2 c5⟩
        rw [zan, this]
        exact c1
      | some l =>
        rw [hq] at ih
        obtain ⟨H3, rv3, wv3, c1, c2, c5⟩ := ih
        refine ⟨H3, rv3, wv3, ?_, ?_, back2 c5⟩
        · rw [zan, this]
          exact c1
        · rw [List.append_assoc] at c2
          exact c2
end Go.AM
namespace Go.AM
open Go
theorem words_sh {l : List UInt8} (hl : l.length ≤ 2 ^ 40) : ∀ w ∈ zbJ l, w.length ≤ 2 ^ 40 := fun w hw => by
  unfold zbJ at hw
  obtain ⟨q, _, rfl⟩ := List.mem_map.1 hw
  have h : (zc0 l q).length ≤ l.length := by
    unfold zc0
    rw [List.length_drop, List.length_take]
    omega
  omega
section
variable {B : Nat} {H H' : Hp} {p1 p3 p5 st f g p : Nat} {lim : Int} {lv : Value} {lines : List (List UInt8)} {L : List Nd} {K : List (ByteArray × Int)} {sl tv : Value} {ts : List Int} {rv : Value} {rs : List Int} {wv : Value} {ws : List (List UInt8)}
theorem LS.words (h : LS B H p1 p3 p5 st f g p lim lv lines L K sl tv ts rv rs wv ws) {l : List UInt8} (hl : l.length ≤ 2 ^ 40) :
    ∃ v H1 H2, RR F.a12 [str l, spF] H = some (v, H1) ∧ (∀ (α : Type) (k : Hp → Option α), zam 1 H1 (.pointer (some ⟨p, 0 + 1, none⟩)) v k = k H2) ∧ LS B H2 p1 p3 p5 st f g p lim lv lines L K sl tv ts rv rs v (zbJ l) ∧ Frm (B ≤ ·) H H2 := by
  obtain ⟨v, H1, a1, a2, a3, a4⟩ := c_fields l hl H
  have g1 : H1.get p = some (.cells [.pointer (some ⟨st, 0, none⟩), wv, tv] true) := by rw [a3.same p h.rd.pl fun q => q]; exact h.rd.rd
  let H2 := H1.set p (some (.cells [.pointer (some ⟨st, 0, none⟩), v, tv] true))
  have f2 : Frm (· = p) H1 H2 := ze3 _ _ _ _ rfl
  have k' : Frm (· = p) H H2 := (a3.mono fun j q => q.elim).trans f2 fun j q => .inl q
  have hvp : ¬ Id v p := fun q => by have := a4 p q; have := h.rd.pl; omega
  have hr : RdS H2 p (.pointer (some ⟨st, 0, none⟩)) v tv (zbJ l) := ⟨by show (H1.set p _).get p = _; rw [get_set, if_pos rfl], (Vec.wds a2).keep f2 fun j hj e => hvp (by rw [e] at hj; exact hj), hvp, Nat.lt_of_lt_of_le h.rd.pl k'.next, words_sh hl⟩
  have h2 := h.read k' hr fun j hj => .inr ⟨a4 j hj, Nat.lt_of_lt_of_le (a2.lt hj) f2.next⟩
  exact ⟨v, H1, H2, a1, fun α k => zf2 g1 (zdq a2).1 (zdq a2).2 (by show 1 < 3; decide) k, h2, h.up (S := [5]) (k'.mono fun j q => .inl ⟨5, by simp, q⟩)⟩
end
def zeS : List UInt8 := [114, 111, 111, 116, 115]
def zlB (ws : List (List UInt8)) (ts : List Int) (L : List Nd) : Option Nd := match numF ws with
  | none => none
  | some v => if v = ((ts.length + 1 : Nat) : Int) then nodeP ws.tail ts L else none
def Gone (H : Hp) (p1 p3 p5 st : Nat) : Prop := H.get p1 = some (.cells [.pointer (some ⟨st, 0, none⟩)] true) ∧ (∃ rv, H.get p3 = some (.cells [rv] true)) ∧ H.get p5 = some (.cells [.int .i64 0] true)
section
variable {B : Nat} {H H' : Hp} {p1 p3 p5 st f g p : Nat} {lim : Int} {lv : Value} {lines : List (List UInt8)} {L : List Nd} {K : List (ByteArray × Int)} {sl tv : Value} {ts : List Int} {rv : Value} {rs : List Int} {wv : Value} {ws : List (List UInt8)}
theorem LS.gone (h : LS B H p1 p3 p5 st f g p lim lv lines L K sl tv ts rv rs wv ws) : Gone H p1 p3 p5 st := ⟨h.b1, ⟨rv, h.b3⟩, h.b5⟩
theorem LS.goneF (h : LS B H p1 p3 p5 st f g p lim lv lines L K sl tv ts rv rs wv ws) {S : List Nat} (k : Frm (InR S (LRg p1 p3 p5 st f g p sl lv tv rv wv)) H H') (h0 : 0 ∉ S) (h1 : 1 ∉ S) (h2 : 2 ∉ S) : Gone H' p1 p3 p5 st := by
  have o : ∀ b j, b ∉ S → LRg p1 p3 p5 st f g p sl lv tv rv wv b j → H'.get j = H.get j := fun b j hb hj => k.same j (h.reg.lt b j hj) (h.off S b hb hj)
  exact ⟨by rw [o 0 p1 h0 rfl]; exact h.b1, ⟨rv, by rw [o 1 p3 h1 rfl]; exact h.b3⟩, by rw [o 2 p5 h2 rfl]; exact h.b5⟩
def StepF (B : Nat) (H : Hp) (p1 p3 p5 st : Nat) (e : Int) (i : Nat) (X : Option Outc) : Prop := ∃ H', X = some (.ret, [W0 (.tuple #[zbY e, .int .i64 ((i + 1 : Nat) : Int)])], H') ∧ Gone H' p1 p3 p5 st ∧ Frm (B ≤ ·) H H'
theorem znP (h : LS B H p1 p3 p5 st f g p lim lv lines L K sl tv ts rv rs wv ws) {i : Nat} {l : List UInt8} (hi : lines[i]? = some l) (hl : l.length ≤ 2 ^ 40) (hn : lines.length ≤ 2 ^ 40) (x0 : Value) (en : Bool) (hb : en = true ∨ zbJ l = []) :
    StepF B H p1 p3 p5 st 3 i (zaO RR (.int .i64 (lines.length : Int)) (.pointer (some ⟨p3, 0, none⟩)) (.pointer (some ⟨p, 0, none⟩)) [lv] [x0, .bool en, .int .i64 (i : Int)] H) := by
  have hlt : i < lines.length := (List.getElem?_eq_some_iff.1 hi).1
  obtain ⟨y, hy, ⟨rest, hg⟩, hix⟩ := h.lin.ix hlt
  have hld := fun (α : Type) (k : Value → Option α) => zbe hg (i * 1) (str l) (by
    rw [Nat.mul_one, List.getElem?_append_left (by rw [List.length_map]; exact hlt), List.getElem?_map, hi]; rfl) k
  obtain ⟨v, H1, H2, a1, a2, a3, a4⟩ := h.words hl
  have hinc : IntKind.i64.wrap ((i : Int) + 1) = ((i + 1 : Nat) : Int) := w64 (by omega) (by omega)
  have h1 : ((i : Int) < (lines.length : Int)) := by omega
  have hw := fun (α : Type) (k : Value → Option α) => zbe a3.rd.rd (0 + 1) v rfl k
  have a1' : RR F.a12 [str l, .func (.func F.a10) #[] #[]] H = some (v, H1) := a1
  refine ⟨H2, ?_, a3.gone, a4⟩
  unfold zaO
  simp only [qg0, qg1, zaY, zaf, s_br, h1, decide_true, if_true, hix, hld, zbb, hinc, zah a1', zbm, zaE, a2]
  cases en with
  | true =>
    simp only [if_true, zbW]
    rfl
  | false =>
    have he : zbJ l = [] := by
      rcases hb with q | q
      · cases q
      · exact q
    have hz : (((zbJ l).length : Int) = 0) := by rw [he]; rfl
    simp only [Bool.false_eq_true, if_false, hw, a3.rd.wd.len, za4, hz, decide_true, zaf, s_br, if_true, zbW]
    rfl
theorem line_ok (h : LS B H p1 p3 p5 st f g p lim lv lines L K sl tv ts rv rs wv ws) {i : Nat} {l : List UInt8} (hi : lines[i]? = some l) (hl : l.length ≤ 2 ^ 40) (hn : lines.length ≤ 2 ^ 40) (hk : ts.length = i) (hR : zf4 L) (x0 : Value) {w0 : List UInt8} {r : List (List UInt8)} (hw : zbJ l = w0 :: r) (hr : rs.length + r.length ≤ 2 ^ 40) {X : Option Outc}
    (hX : zaO RR (.int .i64 (lines.length : Int)) (.pointer (some ⟨p3, 0, none⟩)) (.pointer (some ⟨p, 0, none⟩)) [lv] [x0, .bool false, .int .i64 (i : Int)] H = X) :
    (w0 = zeS → match zfv ts r with
      | none => StepF B H p1 p3 p5 st 3 i X
      | some q => ∃ H' rv' wv', X = some (.next, [.int .i64 ((i + 1 : Nat) : Int), .bool true, .int .i64 ((i + 1 : Nat) : Int)], H') ∧ LS B H' p1 p3 p5 st f g p lim lv lines L K sl tv ts rv' (rs ++ q) wv' [] ∧ Frm (B ≤ ·) H H') ∧
    (w0 ≠ zeS → match zlB (w0 :: r) ts L with
      | none => StepF B H p1 p3 p5 st 3 i X
      | some m => ((mkR lim L K m).2.1 ≠ 0 → StepF B H p1 p3 p5 st (mkR lim L K m).2.1 i X) ∧
        ((mkR lim L K m).2.1 = 0 → ∃ H' sl' tv' wv', X = some (.next, [.int .i64 ((i + 1 : Nat) : Int), .bool false, .int .i64 ((i + 1 : Nat) : Int)], H') ∧ LS B H' p1 p3 p5 st f g p lim lv lines (mkR lim L K m).2.2.1 (mkR lim L K m).2.2.2 sl' tv' (ts ++ [(mkR lim L K m).1]) rv rs wv' [] ∧ Frm (B ≤ ·) H H')) := by
  have hlt : i < lines.length := (List.getElem?_eq_some_iff.1 hi).1
  obtain ⟨y, hy, ⟨rest, hg⟩, hix⟩ := h.lin.ix hlt
  have hld := fun (α : Type) (k : Value → Option α) => zbe hg (i * 1) (str l) (by
    rw [Nat.mul_one, List.getElem?_append_left (by rw [List.length_map]; exact hlt), List.getElem?_map, hi]; rfl) k
  obtain ⟨v, H1, H2, a1, a2, a3, a4⟩ := h.words hl
  rw [hw] at a3
  have hinc : IntKind.i64.wrap ((i : Int) + 1) = ((i + 1 : Nat) : Int) := w64 (by omega) (by omega)
  have h1 : ((i : Int) < (lines.length : Int)) := by omega
  have hwv := fun (α : Type) (k : Value → Option α) => zbe a3.rd.rd (0 + 1) v rfl k
  have a1' : RR F.a12 [str l, .func (.func F.a10) #[] #[]] H = some (v, H1) := a1
  obtain ⟨v2, hd1, _, _, _⟩ := a3.rd.wd.head
  have hq : ∀ {α : Type} (k : Value → Option α), pBin PP .eql T.string (str w0) (.string ⟨#[114, 111, 111, 116, 115]⟩) k = k (.bool (w0 == zeS)) := fun k => zeQ T.string w0 zeS k
  have hz : ¬ ((((w0 :: r).length : Nat) : Int) = 0) := by rw [List.length_cons]; omega
  unfold zaO at hX
  simp only [qg0, qg1, zaY, zaf, s_br, h1, decide_true, if_true, hix, hld, zbb, hinc, zah a1', zbm, zaE, a2, Bool.false_eq_true, if_false, hwv, a3.rd.wd.len, za4, hz, decide_false, zaq, zaV, hd1, hq] at hX
  refine ⟨fun hroot => ?_, fun hroot => ?_⟩
  · have hb : (w0 == zeS) = true := by rw [beq_iff_eq]; exact hroot
    rw [if_pos hb] at hX
    obtain ⟨H3, wv3, b1, b2, b3, b4⟩ := a3.rd.next
    have h3 := a3.read b4 b2 fun j q => .inl (b3 j q)
    have hf3 : Frm (B ≤ ·) H H3 := a4.trans (a3.up (S := [5]) (b4.mono fun j q => .inl ⟨5, by simp, q⟩)) fun j q => .inl q
    rw [zbu b1] at hX
    have hlp := zji (.int .i64 ((i + 1 : Nat) : Int)) r H3 rv rs wv3 h3 hr
    cases hq2 : zfv ts r with
    | none =>
      rw [hq2] at hlp
      obtain ⟨H4, rv4, c1, ⟨c2, c3, c4⟩, c5⟩ := hlp
      rw [c1] at hX
      exact ⟨H4, hX.symm, ⟨by rw [c2]; exact h3.b1, ⟨rv4, c3⟩, by rw [c4]; exact h3.b5⟩, hf3.trans c5 fun j q => .inl q⟩
    | some q =>
      rw [hq2] at hlp
      obtain ⟨H4, rv4, wv4, c1, c2, c5⟩ := hlp
      rw [c1, zaq, zbk, zaI] at hX
      exact ⟨H4, rv4, wv4, hX.symm, c2, hf3.trans c5 fun j q => .inl q⟩
  · have hb : (w0 == zeS) = false := by rw [beq_eq_false_iff_ne]; exact hroot
    rw [hb, if_neg (by decide)] at hX
    have hp : PP.globals.size ≤ p := Nat.le_trans a3.gB (a3.reg.lo 5 p rfl)
    have hnum := a3.rd.number a3.laid hp
    unfold zlB
    cases hf : numF (w0 :: r) with
    | none =>
      rw [hf] at hnum
      obtain ⟨H3, b1, b2⟩ := hnum
      rw [zbv b1] at hX
      have k' : Frm (InR [5] (LRg p1 p3 p5 st f g p sl lv tv rv v)) H2 H3 := b2.mono fun j q => .inl ⟨5, by simp, q⟩
      exact ⟨H3, hX.symm, a3.goneF k' (by decide) (by decide) (by decide), a4.trans (a3.up k') fun j q => .inl q⟩
    | some z =>
      rw [hf] at hnum
      obtain ⟨H3, wv3, b1, b2, b3, b4⟩ := hnum
      have k3 : Frm (InR [5] (LRg p1 p3 p5 st f g p sl lv tv rv v)) H2 H3 := b4.mono fun j q => .inl ⟨5, by simp, q⟩
      have h3 := a3.read b4 b2 fun j q => .inl (b3 j q)
      have hf3 : Frm (B ≤ ·) H H3 := a4.trans (a3.up k3) fun j q => .inl q
      rw [zbu b1] at hX
      dsimp only
      by_cases hzi : z = ((ts.length + 1 : Nat) : Int)
      · rw [if_pos hzi]
        have hzi' : z = ((i + 1 : Nat) : Int) := by rw [hzi, hk]
        have e0 : ¬ (((i + 1 : Nat) : Int) ≠ ((i + 1 : Nat) : Int)) := fun q => q rfl
        rw [hzi'] at hX
        simp only [zec, e0, decide_false, zaf, s_br, Bool.false_eq_true, if_false] at hX
        have hnode := c_node h3.rd hp h3.laid h3.store hR h3.tv (fun q => by have := h3.reg.ap 5 6 p rfl q; omega) (fun q => by have := h3.reg.ap 5 3 p rfl q; omega) fun j hj q => by have := h3.reg.ap 8 3 j hj q; omega
        cases hm : nodeP (w0 :: r).tail ts L with
        | none =>
          rw [hm] at hnode
          obtain ⟨H4, c1, c2⟩ := hnode
          rw [zbv c1] at hX
          have k4 : Frm (InR [3, 5] (LRg p1 p3 p5 st f g p sl lv tv rv wv3)) H3 H4 := c2.mono fun j q => .inl (by rcases q with q | q; exact ⟨5, by simp, q⟩; exact ⟨3, by simp, q⟩)
          exact ⟨H4, hX.symm, h3.goneF k4 (by decide) (by decide) (by decide), hf3.trans (h3.up k4) fun j q => .inl q⟩
        | some m =>
          rw [hm] at hnode
          dsimp only
          refine ⟨fun hne => ?_, fun heq => ?_⟩
          · obtain ⟨H4, c1, c2⟩ := hnode.1 hne
            rw [zbv c1] at hX
            have k4 : Frm (InR [3, 5] (LRg p1 p3 p5 st f g p sl lv tv rv wv3)) H3 H4 := c2.mono fun j q => .inl (by rcases q with q | q; exact ⟨5, by simp, q⟩; exact ⟨3, by simp, q⟩)
            exact ⟨H4, hX.symm, h3.goneF k4 (by decide) (by decide) (by decide), hf3.trans (h3.up k4) fun j q => .inl q⟩
          · obtain ⟨H4, wv4, sl4, c1, c2, c3, c4, c5, c6⟩ := hnode.2 heq
            rw [zbu c1] at hX
            have k4 : Frm (InR [3, 5] (LRg p1 p3 p5 st f g p sl lv tv rv wv3)) H3 H4 := c4.mono fun j q => .inl (by rcases q with q | q; exact ⟨5, by simp, q⟩; exact ⟨3, by simp, q⟩)
            have h4 := h3.grow c4 c2 c6 c3 c5
            obtain ⟨tv5, H5, d1, d2, d3, d4⟩ := h4.term (by omega) (mkR lim L K m).1 0
            have htv := fun (α : Type) (k : Value → Option α) => zbe h4.rd.rd (0 + 2) tv rfl k
            simp only [htv, d1] at hX
            exact ⟨H5, sl4, tv5, wv4, hX.symm, d2, (hf3.trans (h3.up k4) fun j q => .inl q).trans (h4.up d3) fun j q => .inl q⟩
      · rw [if_neg hzi]
        have hzi' : z ≠ ((i + 1 : Nat) : Int) := fun e => hzi (by rw [e, hk])
        simp only [zec, hzi', ne_eq, not_false_eq_true, decide_true, zaf, s_br, if_true, zbW] at hX
        exact ⟨H3, hX.symm, a3.goneF k3 (by decide) (by decide) (by decide), hf3⟩
end
end Go.AM
namespace Go.AM
open Go
inductive LdR where
  | bad (line : Nat) (e : Int)
  | good (L : List Nd) (K : List (ByteArray × Int)) (rs : List Int)
def zfq (lim : Int) : List (List UInt8) → Nat → List Nd → List (ByteArray × Int) → List Int → LdR
  | [], k, _, _, _ => .bad (k + 1) 3
  | l :: rest, k, L, K, ts => match zbJ l with
    | [] => .bad (k + 1) 3
    | w0 :: r => if w0 = zeS then (match zfv ts r with
        | none => .bad (k + 1) 3
        | some q => match rest with
          | [] => .good L K q
          | _ :: _ => .bad (k + 2) 3)
      else match zlB (w0 :: r) ts L with
        | none => .bad (k + 1) 3
        | some m => if (mkR lim L K m).2.1 ≠ 0 then .bad (k + 1) (mkR lim L K m).2.1 else zfq lim rest (k + 1) (mkR lim L K m).2.2.1 (mkR lim L K m).2.2.2 (ts ++ [(mkR lim L K m).1])
theorem mk_le {lim : Int} {L : List Nd} {K : List (ByteArray × Int)} (n : Nd) : (mkR lim L K n).2.2.1.length ≤ L.length + 1 := by
  by_cases h0 : (mkR lim L K n).2.1 = 0
  · obtain ⟨_, ⟨q, _, e⟩ | ⟨_, _, e⟩⟩ := zjD h0 <;> rw [e] <;> simp
  · rw [zot h0]; simp
def zjW (B : Nat) (H : Hp) (p1 p3 p5 st f g p : Nat) (lim : Int) (lv : Value) (lines : List (List UInt8)) (X : Option Outc) : LdR → Prop
  | .bad ln e => ∃ H', (X = some (.ret, [W0 (.tuple #[zbY e, .int .i64 (ln : Int)])], H') ∨ (∃ a b, X = some (.exit 0, [a, .bool false, b], H') ∧ e = 3 ∧ ln = lines.length + 1)) ∧ Gone H' p1 p3 p5 st ∧ Frm (B ≤ ·) H H'
  | .good L K q => ∃ H' a b sl tv rv wv ts, X = some (.exit 0, [a, .bool true, b], H') ∧ LS B H' p1 p3 p5 st f g p lim lv lines L K sl tv ts rv q wv [] ∧ Frm (B ≤ ·) H H'
theorem zjW.of {B : Nat} {H H1 : Hp} {p1 p3 p5 st f g p : Nat} {lim : Int} {lv : Value} {lines : List (List UInt8)} {X : Option Outc} {r : LdR} (h : zjW B H1 p1 p3 p5 st f g p lim lv lines X r) (k : Frm (B ≤ ·) H H1) : zjW B H p1 p3 p5 st f g p lim lv lines X r := by
  cases r with
  | bad ln e => obtain ⟨H', h1, h2, h3⟩ := h; exact ⟨H', h1, h2, k.trans h3 fun j q => .inl q⟩
  | good L K q => obtain ⟨H', a, b, sl, tv, rv, wv, ts, h1, h2, h3⟩ := h; exact ⟨H', a, b, sl, tv, rv, wv, ts, h1, h2, k.trans h3 fun j q => .inl q⟩
theorem zjG {B : Nat} {p1 p3 p5 st f g p : Nat} {lim : Int} {lv : Value} {lines : List (List UInt8)} (hn : lines.length ≤ 2 ^ 38) (hsh : ∀ l ∈ lines, l.length ≤ 2 ^ 38) : ∀ (rest : List (List UInt8)) (i : Nat) (H : Hp) (x0 : Value) (L : List Nd) (K : List (ByteArray × Int)) (sl tv : Value) (ts : List Int) (rv wv : Value) (ws : List (List UInt8)),
    lines.drop i = rest → i ≤ lines.length → ts.length = i → L.length ≤ i → Inv lim L → LS B H p1 p3 p5 st f g p lim lv lines L K sl tv ts rv [] wv ws →
    zjW B H p1 p3 p5 st f g p lim lv lines (zaG (zaO RR (.int .i64 (lines.length : Int)) (.pointer (some ⟨p3, 0, none⟩)) (.pointer (some ⟨p, 0, none⟩)) [lv]) [x0, .bool false, .int .i64 (i : Int)] H) (zfq lim rest i L K ts)
  | [], i, H, x0, L, K, sl, tv, ts, rv, wv, ws, hr, hi, hk, hL, hI, h => by
    have hil : i = lines.length := by
      have := congrArg List.length hr
      rw [List.length_drop] at this
      simp at this
      omega
    have this : zaO RR (.int .i64 (lines.length : Int)) (.pointer (some ⟨p3, 0, none⟩)) (.pointer (some ⟨p, 0, none⟩)) [lv] [x0, .bool false, .int .i64 (i : Int)] H = some (.exit 0, [x0, .bool false, .int .i64 (i : Int)], H) := by
      unfold zaO
      have h1 : ¬ ((i : Int) < (lines.length : Int)) := by omega
      simp only [qg0, qg1, zaY, zaf, s_br, h1, decide_false, Bool.false_eq_true, if_false]
    refine ⟨H, .inr ⟨x0, .int .i64 (i : Int), by rw [zan, this]; rfl, rfl, by rw [hil]⟩, h.gone, Frm.refl _ _⟩
  | l :: rest, i, H, x0, L, K, sl, tv, ts, rv, wv, ws, hr, hi, hk, hL, hI, h => by
    have hlt : i < lines.length := by
      have := congrArg List.length hr
      rw [List.length_drop] at this
      simp at this
      omega
    have hget : lines[i]? = some l := by
      have := congrArg (fun x => x[0]?) hr
      simpa using this
    have hr2 : lines.drop (i + 1) = rest := by rw [← List.drop_drop, hr]; rfl
    have hll : l.length ≤ 2 ^ 38 := hsh l (List.mem_of_getElem? hget)
    have hR : zf4 L := ⟨hI.w, by omega⟩
    unfold zfq
    cases hw : zbJ l with
    | nil =>
      obtain ⟨H', h1, h2, h3⟩ := znP h hget (by omega) (by omega) x0 false (.inr hw)
      exact ⟨H', .inl (by rw [zan, h1]; rfl), h2, h3⟩
    | cons w0 r =>
      have hwl : r.length ≤ l.length := by
        have h1 : (zbJ l).length ≤ l.length + 1 := by unfold zbJ; rw [List.length_map]; exact zhS l 0 none
        rw [hw, List.length_cons] at h1
        omega
      have hline := line_ok h hget (by omega) (by omega) hk hR x0 hw (by show 0 + r.length ≤ _; omega) rfl
      dsimp only
      by_cases h0 : w0 = zeS
      · rw [if_pos h0]
        have h1 := hline.1 h0
        cases hq : zfv ts r with
        | none =>
          rw [hq] at h1
          obtain ⟨H', a1, a2, a3⟩ := h1
          exact ⟨H', .inl (by rw [zan, a1]; rfl), a2, a3⟩
        | some q =>
          rw [hq] at h1
          obtain ⟨H', rv', wv', a1, a2, a3⟩ := h1
          have hloop : zaG (zaO RR (.int .i64 (lines.length : Int)) (.pointer (some ⟨p3, 0, none⟩)) (.pointer (some ⟨p, 0, none⟩)) [lv]) [x0, .bool false, .int .i64 (i : Int)] H = zaG (zaO RR (.int .i64 (lines.length : Int)) (.pointer (some ⟨p3, 0, none⟩)) (.pointer (some ⟨p, 0, none⟩)) [lv]) [.int .i64 ((i + 1 : Nat) : Int), .bool true, .int .i64 ((i + 1 : Nat) : Int)] H' := by
            conv => lhs; rw [zan, a1]
            rfl
          rw [hloop]
          cases rest with
          | nil =>
            have hil : i + 1 = lines.length := by
              have := congrArg List.length hr2
              rw [List.length_drop] at this
              simp at this
              omega
            have this : zaO RR (.int .i64 (lines.length : Int)) (.pointer (some ⟨p3, 0, none⟩)) (.pointer (some ⟨p, 0, none⟩)) [lv] [.int .i64 ((i + 1 : Nat) : Int), .bool true, .int .i64 ((i + 1 : Nat) : Int)] H' = some (.exit 0, [.int .i64 ((i + 1 : Nat) : Int), .bool true, .int .i64 ((i + 1 : Nat) : Int)], H') := by
              unfold zaO
              have h1 : ¬ (((i + 1 : Nat) : Int) < (lines.length : Int)) := by omega
              simp only [qg0, qg1, zaY, zaf, s_br, h1, decide_false, Bool.false_eq_true, if_false]
            exact ⟨H', _, _, sl, tv, rv', wv', ts, by rw [zan, this]; rfl, a2, a3⟩
          | cons l2 rest2 =>
            have hget2 : lines[i + 1]? = some l2 := by
              have := congrArg (fun x => x[0]?) hr2
              simpa using this
            have hll2 : l2.length ≤ 2 ^ 38 := hsh l2 (List.mem_of_getElem? hget2)
            obtain ⟨H2, b1, b2, b3⟩ := znP a2 hget2 (by omega) (by omega) (.int .i64 ((i + 1 : Nat) : Int)) true (.inl rfl)
            exact ⟨H2, .inl (by rw [zan, b1]; rfl), b2, a3.trans b3 fun j q => .inl q⟩
      · rw [if_neg h0]
        have h1 := hline.2 h0
        cases hm : zlB (w0 :: r) ts L with
        | none =>
          rw [hm] at h1
          obtain ⟨H', a1, a2, a3⟩ := h1
          exact ⟨H', .inl (by rw [zan, a1]; rfl), a2, a3⟩
        | some m =>
          rw [hm] at h1
          dsimp only
          by_cases he : (mkR lim L K m).2.1 = 0
          · rw [if_neg (fun q => q he)]
            obtain ⟨H', sl', tv', wv', a1, a2, a3⟩ := h1.2 he
            have hloop : zaG (zaO RR (.int .i64 (lines.length : Int)) (.pointer (some ⟨p3, 0, none⟩)) (.pointer (some ⟨p, 0, none⟩)) [lv]) [x0, .bool false, .int .i64 (i : Int)] H = zaG (zaO RR (.int .i64 (lines.length : Int)) (.pointer (some ⟨p3, 0, none⟩)) (.pointer (some ⟨p, 0, none⟩)) [lv]) [.int .i64 ((i + 1 : Nat) : Int), .bool false, .int .i64 ((i + 1 : Nat) : Int)] H' := by
              conv => lhs; rw [zan, a1]
              rfl
            rw [hloop]
            have hle := mk_le (lim := lim) (L := L) (K := K) m
            exact (zjG hn hsh rest (i + 1) H' _ _ _ sl' tv' _ rv wv' [] hr2 hlt (by rw [List.length_append, hk]; rfl) (by omega) (mk_inv hI) a2).of a3
          · rw [if_pos he]
            obtain ⟨H', a1, a2, a3⟩ := h1.1 he
            exact ⟨H', .inl (by rw [zan, a1]; rfl), a2, a3⟩
end Go.AM
namespace Go.AM
open Go
structure T3 (H : Hp) (p1 p3 p5 : Nat) (a b c : Value) : Prop where
  a1 : H.get p1 = some (.cells [a] true)
  a3 : H.get p3 = some (.cells [b] true)
  a5 : H.get p5 = some (.cells [c] true)
  n13 : p1 ≠ p3
  n15 : p1 ≠ p5
  n35 : p3 ≠ p5
def OneV (v : Value) : Prop := zab v = [v] ∧ one v = true
section
variable {H : Hp} {p1 p3 p5 : Nat} {a b c v : Value}
theorem T3.s1 (h : T3 H p1 p3 p5 a b c) (hv : OneV v) : ∃ H', (∀ (α : Type) (k : Hp → Option α), zam 1 H (.pointer (some ⟨p1, 0, none⟩)) v k = k H') ∧ T3 H' p1 p3 p5 v b c ∧ Frm (· = p1) H H' :=
  ⟨_, fun α k => zf2 h.a1 hv.1 hv.2 (by show 0 < 1; decide) k, ⟨by rw [get_set, if_pos rfl]; rfl, by rw [get_set, if_neg (Ne.symm h.n13)]; exact h.a3, by rw [get_set, if_neg (Ne.symm h.n15)]; exact h.a5, h.n13, h.n15, h.n35⟩, ze3 _ _ _ _ rfl⟩
theorem T3.s3 (h : T3 H p1 p3 p5 a b c) (hv : OneV v) : ∃ H', (∀ (α : Type) (k : Hp → Option α), zam 1 H (.pointer (some ⟨p3, 0, none⟩)) v k = k H') ∧ T3 H' p1 p3 p5 a v c ∧ Frm (· = p3) H H' :=
  ⟨_, fun α k => zf2 h.a3 hv.1 hv.2 (by show 0 < 1; decide) k, ⟨by rw [get_set, if_neg h.n13]; exact h.a1, by rw [get_set, if_pos rfl]; rfl, by rw [get_set, if_neg (Ne.symm h.n35)]; exact h.a5, h.n13, h.n15, h.n35⟩, ze3 _ _ _ _ rfl⟩
theorem T3.s5 (h : T3 H p1 p3 p5 a b c) (hv : OneV v) : ∃ H', (∀ (α : Type) (k : Hp → Option α), zam 1 H (.pointer (some ⟨p5, 0, none⟩)) v k = k H') ∧ T3 H' p1 p3 p5 a b v ∧ Frm (· = p5) H H' :=
  ⟨_, fun α k => zf2 h.a5 hv.1 hv.2 (by show 0 < 1; decide) k, ⟨by rw [get_set, if_neg h.n15]; exact h.a1, by rw [get_set, if_neg h.n35]; exact h.a3, by rw [get_set, if_pos rfl]; rfl, h.n13, h.n15, h.n35⟩, ze3 _ _ _ _ rfl⟩
theorem T3.l1 (h : T3 H p1 p3 p5 a b c) {α : Type} (k : Value → Option α) : zaj 1 false H (.pointer (some ⟨p1, 0, none⟩)) k = k a := zbe h.a1 0 a rfl k
theorem T3.l3 (h : T3 H p1 p3 p5 a b c) {α : Type} (k : Value → Option α) : zaj 1 false H (.pointer (some ⟨p3, 0, none⟩)) k = k b := zbe h.a3 0 b rfl k
theorem T3.l5 (h : T3 H p1 p3 p5 a b c) {α : Type} (k : Value → Option α) : zaj 1 false H (.pointer (some ⟨p5, 0, none⟩)) k = k c := zbe h.a5 0 c rfl k
theorem end_ld {fr : Fr} {t1 t2 t3 : TypeId} {lv : Value} (h : T3 H p1 p3 p5 a b c) (k : List Value → Option (Value × Hp)) (h4 : getS fr 4 = .val (.pointer (some ⟨p1, 0, none⟩))) (h5 : getS fr 5 = .val (.pointer (some ⟨p3, 0, none⟩))) (h7 : getS fr 7 = .val (.pointer (some ⟨p5, 0, none⟩)))
    (y1 : ∀ k : Nat → Bool → Option (Value × Hp), tyC PP t1 k = k 1 false) (y2 : ∀ k : Nat → Bool → Option (Value × Hp), tyC PP t2 k = k 1 false) (y3 : ∀ k : Nat → Bool → Option (Value × Hp), tyC PP t3 k = k 1 false) :
    endL PP fr H [.cell 4 t1, .cell 5 t2, .tmp 6, .cell 7 t3] [lv] k = k [a, b, lv, c] := by
  unfold endL
  rw [y1, h4]
  unfold sV
  dsimp only
  rw [h.l1]
  unfold endL
  rw [y2, h5]
  unfold sV
  dsimp only
  rw [h.l3]
  unfold endL
  unfold endL
  rw [y3, h7]
  unfold sV
  dsimp only
  rw [h.l5]
  rfl
theorem c_caught (h : T3 H p1 p3 p5 a b c) (e : Int) : ∃ H', zcf RR (zbY e) (.pointer (some ⟨p1, 0, none⟩)) (.pointer (some ⟨p3, 0, none⟩)) (.pointer (some ⟨p5, 0, none⟩)) H = some (.tuple #[], H') ∧
    T3 H' p1 p3 p5 (.pointer none) (.slice none 0 0) (.int .i64 e) ∧ Frm (fun j => j = p1 ∨ j = p3 ∨ j = p5) H H' := by
  obtain ⟨H1, a1, a2, a3⟩ := h.s1 (v := .pointer none) ⟨rfl, rfl⟩
  obtain ⟨H2, b1, b2, b3⟩ := a2.s3 (v := .slice none 0 0) ⟨rfl, rfl⟩
  obtain ⟨H3, c1, c2, c3⟩ := b2.s5 (v := .int .i64 e) ⟨rfl, rfl⟩
  refine ⟨H3, ?_, c2, ((a3.mono fun j q => .inl (.inl q)).trans (b3.mono fun j q => .inl (.inr (.inl q))) fun j q => .inl q).trans (c3.mono fun j q => .inl (.inr (.inr q))) fun j q => .inl q⟩
  unfold zcf
  have e1 : ∀ {α : Type} (k : Value → Option α), zeD PP .eql T.interface (zbY e) k = k (.bool false) := fun k => rfl
  have e2 : ∀ {α : Type} (k : Value → Option α), zfQ PP T.term_fault (zbY e) k = k (.agg #[.int .i64 e]) := fun k => rfl
  have e3 : ∀ {α : Type} (k : List Value → Option α), zbx 1 [.int .i64 0] 0 (.agg #[.int .i64 e]) k = k [.int .i64 e] := fun k => rfl
  have e4 : ∀ {α : Type} (k : Value → Option α), zag 1 false [.int .i64 e] 0 k = k (.int .i64 e) := fun k => rfl
  rw [e1, zaf, s_br, if_neg (by decide), e2, e3, e4, a1, b1, c1]
theorem c_calm (x1 x2 x3 : Value) (H : Hp) : zcf RR .nilIface x1 x2 x3 H = some (.tuple #[], H) := rfl
end
def zbA (l : List UInt8) : List (List UInt8) := if (cutB 10 l).getD (l.count 10) [] = [] then (cutB 10 l).take (l.count 10) else cutB 10 l
theorem s_wrap0 {α : Type} (x : Value) (k kp : Value → Option α) : zeU (W0 x) k kp = kp x := rfl
theorem s_wrap1 {α : Type} (x : Value) (k kp : Value → Option α) : zeU (W1 x) k kp = k x := rfl
theorem ziM : ∀ (l : List UInt8), ∀ x ∈ cutB 10 l, x.length ≤ l.length
  | [], x, hx => by
    have : x = [] := by simpa [cutB] using hx
    rw [this]; exact Nat.le_refl _
  | b :: r, x, hx => by
    unfold cutB at hx
    split at hx
    · rcases List.mem_cons.1 hx with q | q
      · rw [q]; exact Nat.zero_le _
      · have := ziM r x q; rw [List.length_cons]; omega
    · split at hx
      · rename_i h t e
        rcases List.mem_cons.1 hx with q | q
        · have := ziM r h (by rw [e]; exact List.mem_cons_self ..)
          rw [q, List.length_cons, List.length_cons]; omega
        · have := ziM r x (by rw [e]; exact List.mem_cons_of_mem _ q)
          rw [List.length_cons]; omega
      · have : x = [b] := by simpa using hx
        rw [this, List.length_cons]; simp
end Go.AM
namespace Go.AM
open Go
theorem bldRd (st : Nat) {α : Type} (k : Value → Option α) : zau PP T.term_reader [(0, .pointer (some ⟨st, 0, none⟩))] k = k (.agg #[.pointer (some ⟨st, 0, none⟩), .slice none 0 0, .slice none 0 0]) := by
  have : zgC PP T.term_reader [(0, .pointer (some ⟨st, 0, none⟩))] = some (.agg #[.pointer (some ⟨st, 0, none⟩), .slice none 0 0, .slice none 0 0]) := by kernel_rfl
  unfold zau; rw [this]
def LoadA (H : Hp) (lim : Int) (f : FuncId) (wr : Value → Value) (args : List Value) : LdR → Prop
  | .bad ln e => ∃ H', RR f args H = some (wr (.tuple #[.pointer none, .slice none 0 0, .int .i64 (ln : Int), .int .i64 e]), H') ∧ Frm (fun _ => False) H H'
  | .good L K q => ∃ H' st fm gm sl rv, RR f args H = some (wr (.tuple #[.pointer (some ⟨st, 0, none⟩), rv, .int .i64 0, .int .i64 0]), H') ∧ StF H' st lim L K sl fm gm ∧ Vec H' 1 rv q.length (i64s q) ∧ Frm (fun _ => False) H H' ∧
      (∀ j, Foot st fm gm sl j → H.next ≤ j) ∧ (∀ j, Id rv j → H.next ≤ j) ∧ (∀ j, Id rv j → ¬ Foot st fm gm sl j)
theorem zjW.fin {B : Nat} {H : Hp} {p1 p3 p5 st f g p : Nat} {lim : Int} {lv : Value} {lines : List (List UInt8)} {X : Option Outc} {r : LdR} (h : zjW B H p1 p3 p5 st f g p lim lv lines X r) (hlv : ∀ {α : Type} (H : Hp) (k : Value → Option α), pLen .sl lv H k = k (.int .i64 (lines.length : Int)))
    (hn : lines.length ≤ 2 ^ 38) (n13 : p1 ≠ p3) (n15 : p1 ≠ p5) (n35 : p3 ≠ p5) (b1 : B ≤ p1) (b3 : B ≤ p3) (b5 : B ≤ p5) :
    match r with
    | .bad ln e => ∃ H', (zav X fun q121 l122 H123 => zaD q121 none
         (fun i124 => zaA i124 0 (
         pLen .sl lv H123 fun v125 =>
         pBin PP .add T.int v125 (.int .i64 1) fun v126 =>
         pUn .not (l122.getD 1 undef) fun v127 =>
         zaa v127 fun b128 => br b128
         (zau PP T.term_fault [(0, (.int .i64 3))] fun v129 =>
         some ((W0 (.tuple #[(.iface T.term_fault v129), v126])), H123))
         (zaj 1 false H123 (.pointer (some ⟨p1, 0, none⟩)) fun v130 =>
         zaj 1 false H123 (.pointer (some ⟨p3, 0, none⟩)) fun v131 =>
         zam 1 H123 (.pointer (some ⟨p1, 0, none⟩)) v130 fun H132 =>
         chk (Hp.rdP H132 (.pointer (some ⟨p3, 0, none⟩)) 1 false = some v131) (
         zam 1 H132 (.pointer (some ⟨p3, 0, none⟩)) v131 fun H133 =>
         zam 1 H133 (.pointer (some ⟨p5, 0, none⟩)) (.int .i64 0) fun H134 =>
         zaj 1 false H134 (.pointer (some ⟨p1, 0, none⟩)) fun v135 =>
         zaj 1 false H134 (.pointer (some ⟨p3, 0, none⟩)) fun v136 =>
         zaj 1 false H134 (.pointer (some ⟨p5, 0, none⟩)) fun v137 =>
         some ((W1 (.tuple #[v135, v136, (.int .i64 0), v137])), H134)))) (
         none))
         (some ((l122.headD undef), H123))) = some (W0 (.tuple #[zbY e, .int .i64 (ln : Int)]), H') ∧ (∃ a b c, T3 H' p1 p3 p5 a b c) ∧ Frm (B ≤ ·) H H'
    | .good L K q => ∃ H' sl rv, (zav X fun q121 l122 H123 => zaD q121 none
         (fun i124 => zaA i124 0 (
         pLen .sl lv H123 fun v125 =>
         pBin PP .add T.int v125 (.int .i64 1) fun v126 =>
         pUn .not (l122.getD 1 undef) fun v127 =>
         zaa v127 fun b128 => br b128
         (zau PP T.term_fault [(0, (.int .i64 3))] fun v129 =>
         some ((W0 (.tuple #[(.iface T.term_fault v129), v126])), H123))
         (zaj 1 false H123 (.pointer (some ⟨p1, 0, none⟩)) fun v130 =>
         zaj 1 false H123 (.pointer (some ⟨p3, 0, none⟩)) fun v131 =>
         zam 1 H123 (.pointer (some ⟨p1, 0, none⟩)) v130 fun H132 =>
         chk (Hp.rdP H132 (.pointer (some ⟨p3, 0, none⟩)) 1 false = some v131) (
         zam 1 H132 (.pointer (some ⟨p3, 0, none⟩)) v131 fun H133 =>
         zam 1 H133 (.pointer (some ⟨p5, 0, none⟩)) (.int .i64 0) fun H134 =>
         zaj 1 false H134 (.pointer (some ⟨p1, 0, none⟩)) fun v135 =>
         zaj 1 false H134 (.pointer (some ⟨p3, 0, none⟩)) fun v136 =>
         zaj 1 false H134 (.pointer (some ⟨p5, 0, none⟩)) fun v137 =>
         some ((W1 (.tuple #[v135, v136, (.int .i64 0), v137])), H134)))) (
         none))
         (some ((l122.headD undef), H123))) = some (W1 (.tuple #[.pointer (some ⟨st, 0, none⟩), rv, .int .i64 0, .int .i64 0]), H') ∧ T3 H' p1 p3 p5 (.pointer (some ⟨st, 0, none⟩)) rv (.int .i64 0) ∧ StF H' st lim L K sl f g ∧ Vec H' 1 rv q.length (i64s q) ∧ Frm (B ≤ ·) H H' ∧
         (∀ j, Foot st f g sl j → B ≤ j) ∧ (∀ j, Id rv j → B ≤ j) ∧ (∀ j, Id rv j → ¬ Foot st f g sl j) := by
  have w1 : ∀ {H2 H3 : Hp} {q : Nat}, B ≤ q → Frm (· = q) H2 H3 → Frm (B ≤ ·) H2 H3 := fun hq k => k.mono fun j e => .inl (by rw [e]; exact hq)
  cases r with
  | bad ln e =>
    obtain ⟨H', h1, ⟨g1, ⟨rv, g2⟩, g3⟩, h3⟩ := h
    refine ⟨H', ?_, ⟨_, _, _, g1, g2, g3, n13, n15, n35⟩, h3⟩
    rcases h1 with rfl | ⟨a, b, rfl, rfl, rfl⟩
    · rfl
    · rw [zaq, zbk, zaI, hlv]
      have hinc : IntKind.i64.wrap ((lines.length : Int) + 1) = ((lines.length + 1 : Nat) : Int) := w64 (by omega) (by omega)
      rw [zbb, hinc]
      simp only [qg1, qg0, zc9, zaf, s_br, Bool.not_false, if_true, zbW]
  | good L K q =>
    obtain ⟨H1, a, b, sl, tv, rv, wv, ts, rfl, h2, h3⟩ := h
    have t1 : T3 H1 p1 p3 p5 (.pointer (some ⟨st, 0, none⟩)) rv (.int .i64 0) := ⟨h2.b1, h2.b3, h2.b5, n13, n15, n35⟩
    obtain ⟨H2, x1, x2, x3⟩ := t1.s1 (v := .pointer (some ⟨st, 0, none⟩)) ⟨rfl, rfl⟩
    obtain ⟨H3, y1, y2, y3⟩ := x2.s3 (v := rv) (zdq h2.rv)
    obtain ⟨H4, z1, z2, z3⟩ := y2.s5 (v := .int .i64 0) ⟨rfl, rfl⟩
    have hf : Frm (fun j => j = p1 ∨ j = p3 ∨ j = p5) H1 H4 := ((x3.mono fun j q => .inl (.inl q)).trans (y3.mono fun j q => .inl (.inr (.inl q))) fun j q => .inl q).trans (z3.mono fun j q => .inl (.inr (.inr q))) fun j q => .inl q
    have hr := h2.reg
    refine ⟨H4, sl, rv, ?_, z2, h2.store.keep (fun j hj => hf.same j (h2.store.foot_lt hj) fun e => ?_) hf.next, h2.rv.keep hf fun j hj e => ?_, h3.trans (hf.mono fun j e => .inl (by rcases e with e | e | e <;> rw [e] <;> assumption)) fun j e => .inl e, fun j hj => hr.lo 3 j hj, fun j hj => hr.lo 7 j hj, fun j hj e => by have := hr.ap 7 3 j hj e; omega⟩
    · rw [zaq, zbk, zaI, hlv, zbb]
      simp only [qg1, qg0, zc9, zaf, s_br, Bool.not_true, Bool.false_eq_true, if_false, t1.l1, t1.l3, x1]
      rw [zfG (zk8 x2.a3 0 rv rfl), y1, z1, z2.l1, z2.l3, z2.l5]
    · rcases e with e | e | e
      · have := hr.ap 3 0 j hj e; omega
      · have := hr.ap 3 1 j hj e; omega
      · have := hr.ap 3 2 j hj e; omega
    · rcases e with e | e | e
      · have := hr.ap 7 0 j hj e; omega
      · have := hr.ap 7 1 j hj e; omega
      · have := hr.ap 7 2 j hj e; omega
theorem cut_last (l : List UInt8) : (cutB 10 l)[l.count 10]? = some ((cutB 10 l).getD (l.count 10) []) := by
  have h := zgx 10 l
  rw [List.getD_eq_getElem?_getD, List.getElem?_eq_getElem (by omega)]
  rfl
theorem lines_sh (l : List UInt8) : ∀ x ∈ zbA l, x.length ≤ l.length := fun x hx => by
  unfold zbA at hx
  split at hx
  · exact ziM l x (List.mem_of_mem_take hx)
  · exact ziM l x hx
theorem znK (l : List UInt8) : (zbA l).length ≤ l.length + 1 := by
  have h := zgx 10 l
  have h2 : l.count 10 ≤ l.length := List.count_le_length
  unfold zbA
  split
  · rw [List.length_take]; omega
  · omega
theorem LS.start {H0 H12 H13 : Hp} {lim : Int} {lv : Value} {lines : List (List UInt8)} (hL : Laid H0)
    (t : T3 H12 H0.next (H0.next + 1) (H0.next + 2) (.pointer (some ⟨H0.next + 5, 0, none⟩)) (.slice none 0 0) (.int .i64 0)) (hS : StF H12 (H0.next + 5) lim [] [] (.slice none 0 0) (H0.next + 3) (H0.next + 4)) (n12 : H12.next = H0.next + 6) (f12 : Frm (H0.next ≤ ·) H0 H12)
    (hv : Vec H13 1 lv lines.length (lines.map str)) (f13 : Frm (fun _ => False) H12 H13) (hid : ∀ j, Id lv j → H12.next ≤ j) :
    LS H0.next (H13.new (.cells [.pointer (some ⟨H0.next + 5, 0, none⟩), .slice none 0 0, .slice none 0 0] true)) H0.next (H0.next + 1) (H0.next + 2) (H0.next + 5) (H0.next + 3) (H0.next + 4) H13.next lim lv lines [] [] (.slice none 0 0) (.slice none 0 0) [] (.slice none 0 0) [] (.slice none 0 0) [] := by
  let H14 := H13.new (.cells [.pointer (some ⟨H0.next + 5, 0, none⟩), .slice none 0 0, .slice none 0 0] true)
  have f14 : Frm (fun _ => False) H13 H14 := zc8 _ _ _
  have ff : Frm (fun _ => False) H12 H14 := f13.trans f14 fun j q => q.elim
  have hn := f13.next
  have o : ∀ j, j < H0.next + 6 → H14.get j = H12.get j := fun j hj => ff.same j (by omega) fun q => q
  let cl : Nat → Nat := fun j => if j = H0.next then 0 else if j = H0.next + 1 then 1 else if j = H0.next + 2 then 2 else if j < H0.next + 6 then 3 else if j < H13.next then 4 else 5
  have key : ∀ a j, LRg H0.next (H0.next + 1) (H0.next + 2) (H0.next + 5) (H0.next + 3) (H0.next + 4) H13.next (.slice none 0 0) lv (.slice none 0 0) (.slice none 0 0) (.slice none 0 0) a j → cl j = a ∧ H0.next ≤ j ∧ j < H13.next + 1 := fun a j hj => by
    match a, hj with
    | 0, hj => obtain rfl : j = H0.next := hj; exact ⟨if_pos rfl, by omega, by omega⟩
    | 1, hj => obtain rfl : j = H0.next + 1 := hj; exact ⟨by show (if _ then _ else _) = _; rw [if_neg (by omega), if_pos rfl], by omega, by omega⟩
    | 2, hj => obtain rfl : j = H0.next + 2 := hj; exact ⟨by show (if _ then _ else _) = _; rw [if_neg (by omega), if_neg (by omega), if_pos rfl], by omega, by omega⟩
    | 3, hj =>
      have hj : j = H0.next + 5 ∨ j = H0.next + 3 ∨ j = H0.next + 4 := zfk hj
      exact ⟨by show (if _ then _ else _) = _; rw [if_neg (by omega), if_neg (by omega), if_neg (by omega), if_pos (by omega)], by omega, by omega⟩
    | 4, hj =>
      have h1 := hid j hj
      have h2 := hv.lt hj
      exact ⟨by show (if _ then _ else _) = _; rw [if_neg (by omega), if_neg (by omega), if_neg (by omega), if_neg (by omega), if_pos h2], by omega, by omega⟩
    | 5, hj => obtain rfl : j = H13.next := hj; exact ⟨by show (if _ then _ else _) = _; rw [if_neg (by omega), if_neg (by omega), if_neg (by omega), if_neg (by omega), if_neg (by omega)], by omega, by omega⟩
    | 6, hj => cases hj
    | 7, hj => cases hj
    | 8, hj => cases hj
    | n + 9, hj => cases hj
  have hL14 : Laid H14 := hL.keep (M := (H0.next ≤ ·)) (f12.trans (ff.mono fun j q => q.elim) fun j q => .inl q) fun j q => Nat.le_trans hL.next q
  refine ⟨hL.next, by show H0.next ≤ H13.next + 1; omega, ⟨fun a j hj => (key a j hj).2.2, fun a j hj => (key a j hj).2.1, fun a b j ha hb => by rw [← (key a j ha).1, (key b j hb).1]⟩, by rw [o _ (by omega)]; exact t.a1, by rw [o _ (by omega)]; exact t.a3, by rw [o _ (by omega)]; exact t.a5,
    hS.keep (fun j hj => o j (by have := zfk hj; omega)) ff.next, hv.keep f14 fun _ _ q => q, ⟨if_pos rfl, .inl ⟨rfl, rfl⟩, fun q => (by cases q), by show H13.next < H13.next + 1; omega, fun w hw => (by cases hw)⟩, Vec.nil _ _, Vec.nil _ _, hL14⟩
theorem n_new (H : Hp) (o : AObj) : (H.new o).next = H.next + 1 := rfl
end Go.AM
namespace Go.AM
open Go
theorem zjV {α : Type} (v : Value) (H : Hp) (k : Value → Hp → Option α) : zgD (some (v, H)) k = k v H := rfl
theorem c_load {H0 : Hp} (hL : Laid H0) (l : List UInt8) (hl : l.length ≤ 2 ^ 37) {lim : Int} (hlim : ¬ lim < 0) : LoadA H0 lim F.a8 W1 [str l, .int .i64 lim] (zfq lim (zbA l) 0 [] [] []) := by
  have hrun := zmn E0 rfl (str l) (.int .i64 lim) H0
  rw [zmK] at hrun
  let H3 := ((H0.new (.cells [.pointer none] true)).new (.cells [.slice none 0 0] true)).new (.cells [.int .i64 0] true)
  have t0 : T3 H3 H0.next (H0.next + 1) (H0.next + 2) (.pointer none) (.slice none 0 0) (.int .i64 0) := by
    refine ⟨?_, ?_, ?_, by omega, by omega, by omega⟩
    · show (Hp.new _ _).get _ = _
      rw [get_new, if_neg (by show ¬ H0.next = H0.next + 1 + 1; omega), get_new, if_neg (by show ¬ H0.next = H0.next + 1; omega), get_new, if_pos rfl]
    · show (Hp.new _ _).get _ = _
      rw [get_new, if_neg (by show ¬ H0.next + 1 = H0.next + 1 + 1; omega), get_new]; exact if_pos rfl
    · show (Hp.new _ _).get _ = _
      rw [get_new]; exact if_pos rfl
  have f03 : Frm (H0.next ≤ ·) H0 H3 := ((zc8 _ _ (H0.next ≤ ·)).trans (zc8 _ _ (H0.next ≤ ·)) fun j q => .inl q).trans (zc8 _ _ (H0.next ≤ ·)) fun j q => .inl q
  have hnew : RR F.a16 [.int .i64 lim] H3 = some (.tuple #[.pointer (some ⟨H0.next + 5, 0, none⟩), .int .i64 0], newH lim H3) := by rw [c16, if_neg hlim]; rfl
  have hS3 : StF (newH lim H3) (H0.next + 5) lim [] [] (.slice none 0 0) (H0.next + 3) (H0.next + 4) := zmE lim H3
  have old3 : ∀ j, j < H0.next + 3 → (newH lim H3).get j = H3.get j := fun j hj => zhF lim H3 j hj
  have t1 : T3 (newH lim H3) H0.next (H0.next + 1) (H0.next + 2) (.pointer none) (.slice none 0 0) (.int .i64 0) := ⟨by rw [old3 _ (by omega)]; exact t0.a1, by rw [old3 _ (by omega)]; exact t0.a3, by rw [old3 _ (by omega)]; exact t0.a5, t0.n13, t0.n15, t0.n35⟩
  have f3n : Frm (H0.next ≤ ·) H3 (newH lim H3) := ⟨by rw [zgq]; omega, fun j hj _ => zhF lim H3 j hj⟩
  have w1 : ∀ {H2 H3 : Hp} {q : Nat}, H0.next ≤ q → Frm (· = q) H2 H3 → Frm (H0.next ≤ ·) H2 H3 := fun hq k => k.mono fun j e => .inl (by rw [e]; exact hq)
  obtain ⟨H4, a1, a2, a3⟩ := t1.s1 (v := .pointer (some ⟨H0.next + 5, 0, none⟩)) ⟨rfl, rfl⟩
  obtain ⟨H5, b1, b2, b3⟩ := a2.s5 (v := .int .i64 0) ⟨rfl, rfl⟩
  have hz : ¬ ((0 : Int) ≠ 0) := by decide
  simp only [zdx, n_new] at hrun
  rw [show ((H0.new (.cells [.pointer none] true)).new (.cells [.slice none 0 0] true)).new (.cells [.int .i64 0] true) = H3 from rfl, zah hnew, x01, a1, b1, b2.l5, zec, zaf, s_br, if_neg (fun q => hz (of_decide_eq_true q))] at hrun
  have n5 : H5.next = H0.next + 6 := by
    have e1 := a1 Nat fun H => some H.next
    have e2 := b1 Nat fun H => some H.next
    have e3 : ∀ (o : Nat) (v : Value) (H : Hp) (cs : List Value), H.get o = some (.cells cs true) → cs.length = 1 → OneV v → (zam 1 H (.pointer (some ⟨o, 0, none⟩)) v fun H => some H.next) = some H.next := fun o v H cs hg hc hv => by
      rw [zf2 hg hv.1 hv.2 (by omega)]
      rfl
    rw [e3 _ _ _ _ t1.a1 rfl ⟨rfl, rfl⟩] at e1
    rw [e3 _ _ _ _ a2.a5 rfl ⟨rfl, rfl⟩] at e2
    have e1 := Option.some.inj e1
    have e2 := Option.some.inj e2
    rw [← e2, ← e1, zgq]
    rfl
  have f35 : Frm (H0.next ≤ ·) (newH lim H3) H5 := (w1 (Nat.le_refl _) a3).trans (w1 (by omega) b3) fun j q => .inl q
  have f05 : Frm (H0.next ≤ ·) H0 H5 := (f03.trans f3n fun j q => .inl q).trans f35 fun j q => .inl q
  have hS5 : StF H5 (H0.next + 5) lim [] [] (.slice none 0 0) (H0.next + 3) (H0.next + 4) := by
    have k4 : StF H4 (H0.next + 5) lim [] [] (.slice none 0 0) (H0.next + 3) (H0.next + 4) := hS3.keep (fun j hj => a3.same j (hS3.foot_lt hj) fun e => by have := zfk hj; omega) a3.next
    exact k4.keep (fun j hj => b3.same j (k4.foot_lt hj) fun e => by have := zfk hj; omega) b3.next
  obtain ⟨v, H6, s1, s2, s3, s4⟩ := c_split l (by omega) H5
  have s1' : RR F.a42 [str l, .string ⟨#[10]⟩] H5 = some (v, H6) := s1
  rw [zah s1'] at hrun
  have hcl := zgx 10 l
  have hcnt : l.count 10 ≤ l.length := List.count_le_length
  have hlast := cut_last l
  obtain ⟨y, hy, ⟨rest, hg⟩, hix⟩ := s2.ix (i := l.count 10) (by omega)
  have hld := fun (α : Type) (k : Value → Option α) => zbe hg (l.count 10 * 1) (str ((cutB 10 l).getD (l.count 10) [])) (by
    rw [Nat.mul_one, List.getElem?_append_left (by rw [List.length_map]; omega), List.getElem?_map, hlast]; rfl) k
  have hone : ((cutB 10 l).map str).all one = true := by rw [List.all_map]; exact List.all_eq_true.2 fun _ _ => rfl
  obtain ⟨v2, u1, u2, u3⟩ := s2.cut hone (m := l.count 10) (by omega)
  have hsub : IntKind.i64.wrap (((cutB 10 l).length : Int) - 1) = ((l.count 10 : Nat) : Int) := by rw [hcl, w64 (by omega) (by omega)]; omega
  have hlines : ∃ lv, (zav (
       pLen .sl v H6 fun v25 =>
       pBin PP .sub T.int v25 (.int .i64 1) fun v26 =>
       pIdx 1 v v26 fun p27 =>
       zaj 1 false H6 p27 fun v28 =>
       pBin PP .eql T.string v28 (.string ⟨#[]⟩) fun v29 =>
       zaa v29 fun b30 => br b30
       (pLen .sl v H6 fun v31 =>
       pBin PP .sub T.int v31 (.int .i64 1) fun v32 =>
       zc3 1 v none (some v32) fun v33 =>
       some (.next, [v33], H6))
       (some (.next, [v], H6))) : (Ctl → List Value → Hp → Option (Value × Hp)) → Option (Value × Hp)) = (fun k => k .next [lv] H6) ∧ Vec H6 1 lv (zbA l).length ((zbA l).map str) ∧ ∀ j, Id lv j → H5.next ≤ j := by
    have hemp : ∀ {α : Type} (k : Value → Option α), pBin PP .eql T.string (str ((cutB 10 l).getD (l.count 10) [])) (.string ⟨#[]⟩) k = k (.bool ((cutB 10 l).getD (l.count 10) [] == [])) := fun k => zeQ T.string _ [] k
    unfold zbA
    by_cases he : (cutB 10 l).getD (l.count 10) [] = []
    · rw [if_pos he]
      have hb : ((cutB 10 l).getD (l.count 10) [] == []) = true := by rw [he]; rfl
      refine ⟨v2, ?_, ?_, fun j hj => s4 j (u3 j hj)⟩
      · funext k
        simp only [s2.len, zd4, hsub, hix, hld, hemp, hb, zaf, s_br, if_true, u1, zaq]
      · rw [List.length_take, Nat.min_eq_left (by omega), List.map_take]
        rw [Nat.mul_one] at u2
        exact u2
    · rw [if_neg he]
      have hb : ((cutB 10 l).getD (l.count 10) [] == []) = false := by rw [beq_eq_false_iff_ne]; exact he
      refine ⟨v, ?_, s2, s4⟩
      funext k
      simp only [s2.len, zd4, hsub, hix, hld, hemp, hb, zaf, s_br, Bool.false_eq_true, if_false, zaq]
  obtain ⟨lv, z1, z2, z3⟩ := hlines
  have hrun2 := hrun.trans (congrFun z1 _)
  rw [zaV] at hrun2
  have hst := LS.start hL b2 hS5 n5 f05 z2 s3 z3
  have hloop := zjG (lines := zbA l) (by have := znK l; omega) (fun x hx => by have := lines_sh l x hx; omega) (zbA l) 0 _ (.int .i64 0) [] [] _ _ [] _ _ [] rfl (Nat.zero_le _) rfl (Nat.le_refl _) (Inv.nil lim) hst
  have hfin := hloop.fin (fun H k => z2.len H k) (by have := znK l; omega) b2.n13 b2.n15 b2.n35 (Nat.le_refl _) (by omega) (by omega)
  have f07 : Frm (H0.next ≤ ·) H0 (H6.new (.cells [.pointer (some ⟨H0.next + 5, 0, none⟩), .slice none 0 0, .slice none 0 0] true)) := (f05.trans (s3.mono fun j q => q.elim) fun j q => .inl q).trans (zc8 _ _ (H0.next ≤ ·)) fun j q => .inl q
  have b6 : ∀ (k : Value → Option (Value × Hp)), zaj 1 false H6 (.pointer (some ⟨H0.next, 0, none⟩)) k = k (.pointer (some ⟨H0.next + 5, 0, none⟩)) := fun k => by
    exact zbe (by rw [s3.same _ (by omega) fun q => q]; exact b2.a1) 0 _ rfl k
  simp only [qg0] at hrun2
  rw [b6, bldRd] at hrun2
  have hcl3 : zab (.agg #[.pointer (some ⟨H0.next + 5, 0, none⟩), .slice none 0 0, .slice none 0 0]) = [.pointer (some ⟨H0.next + 5, 0, none⟩), .slice none 0 0, .slice none 0 0] := rfl
  rw [hcl3, z2.len] at hrun2
  cases hq : zfq lim (zbA l) 0 [] [] [] with
  | bad ln e =>
    rw [hq] at hfin
    obtain ⟨H7, x1, ⟨a, b, c, x2⟩, x3⟩ := hfin
    have hrun3 := hrun2.trans (congrArg (fun z => zgD z _) x1)
    obtain ⟨H8, y1, y2, y3⟩ := c_caught x2 e
    have hf8 : Frm (H0.next ≤ ·) H0 H8 := (f07.trans x3 fun j q => .inl q).trans (y3.mono fun j q => .inl (by rcases q with q | q | q <;> omega)) fun j q => .inl q
    refine ⟨H8, hrun3.trans ?_, hf8.mono fun j q => .inr q⟩
    rw [zjV, s_wrap0]
    have e1 : ∀ {α : Type} (k : Value → List Value → Option α), pTail (.tuple #[zbY e, .int .i64 (ln : Int)]) k = k (zbY e) [.int .i64 (ln : Int)] := fun k => rfl
    rw [e1, zgz]
    have e2 : ∀ (k : Value → Hp → Option (Value × Hp)), zgD (zcf RR (zbY e) (.pointer (some ⟨H0.next, 0, none⟩)) (.pointer (some ⟨H0.next + 1, 0, none⟩)) (.pointer (some ⟨H0.next + 2, 0, none⟩)) H7) k = k (.tuple #[]) H8 := fun k => by rw [y1]; rfl
    refine (e2 _).trans ?_
    rw [end_ld y2]
    · rfl
    · rfl
    · rfl
    · rfl
    · intro k; kernel_rfl
    · intro k; kernel_rfl
    · intro k; kernel_rfl
  | good L K q =>
    rw [hq] at hfin
    obtain ⟨H7, sl, rv, x1, x2, x3, x4, x5, x6, x7, x8⟩ := hfin
    have hrun3 := hrun2.trans (congrArg (fun z => zgD z _) x1)
    refine ⟨H7, _, _, _, sl, rv, hrun3.trans ?_, x3, x4, (f07.trans x5 fun j q => .inl q).mono fun j q => .inr q, x6, x7, x8⟩
    rw [zjV, s_wrap1]
    have e1 : ∀ (k : List Value → Option (Value × Hp)), zjY [.cell 4 T.p_term_Store, .cell 5 T.sl_int, .tmp 6, .cell 7 T.api_Errno] (.tuple #[.pointer (some ⟨H0.next + 5, 0, none⟩), rv, .int .i64 0, .int .i64 0]) k = k [.pointer (some ⟨H0.next + 5, 0, none⟩), rv, .int .i64 0, .int .i64 0] := fun k => rfl
    have e2 : ∀ (k : List Value → Option (Value × Hp)), zlk [.cell 4 T.p_term_Store, .cell 5 T.sl_int, .tmp 6, .cell 7 T.api_Errno] [.pointer (some ⟨H0.next + 5, 0, none⟩), rv, .int .i64 0, .int .i64 0] k = k [.int .i64 0] := fun k => rfl
    refine (e1 _).trans ((e2 _).trans ?_)
    rw [zgz, c_calm]
    show endL PP _ H7 _ [.int .i64 0] _ = _
    rw [end_ld x2]
    · rfl
    · rfl
    · rfl
    · rfl
    · intro k; kernel_rfl
    · intro k; kernel_rfl
    · intro k; kernel_rfl
end Go.AM
namespace Go.AM
open Go
theorem ncell5 {α : Type} (n : Nd) (k : Value → Option α) : zag 1 false n.cells 5 k = k (.int .u64 n.num) := zbT _ 5 _ rfl k
theorem ncell6 {α : Type} (n : Nd) (k : Value → Option α) : zag 1 false n.cells 6 k = k (.string n.name) := zbT _ 6 _ rfl k
theorem small_all : (List.range 65).all (fun x => decide (numT x = itoa (x : Int))) = true := by decide +kernel
theorem small_num {x : Int} (h0 : 0 ≤ x) (h1 : x ≤ 64) : numT x.toNat = itoa x := by
  have := of_decide_eq_true (List.all_eq_true.1 small_all x.toNat (List.mem_range.2 (by omega)))
  rw [this, Int.toNat_of_nonneg h0]
theorem zcZ (Φ : Int → Int) (n : Nd) (k : Nat) : act Φ n [] k = [] := rfl
theorem zoM (Φ : Int → Int) (n : Nd) (r : List UInt8) (k : Nat) : act Φ n (112 :: r) k = sp (itoa (Φ ([n.a, n.b, n.c].getD k 0))) ++ act Φ n r (k + 1) := rfl
theorem act_n (Φ : Int → Int) (n : Nd) (r : List UInt8) (k : Nat) : act Φ n (110 :: r) k = sp (numT n.num.toNat) ++ act Φ n r k := rfl
theorem act_w (Φ : Int → Int) (n : Nd) (r : List UInt8) (k : Nat) : act Φ n (119 :: r) k = sp (itoa n.w) ++ act Φ n r k := rfl
theorem act_s (Φ : Int → Int) (n : Nd) (r : List UInt8) (k : Nat) : act Φ n (115 :: r) k = sp n.name.data.toList ++ act Φ n r k := rfl
section
variable {B : Hp} {b m w p f g : Nat} {lim : Int} {L : List Nd} {K : List (ByteArray × Int)} {sl : Value} (hT : Tabs B) (hn : PP.globals.size ≤ B.next) (hst : StF B p lim L K sl f g) (hL : L.length * 64 ≤ 2 ^ 46) (hN : ∀ m ∈ L, zfa m)
include hT hn hst hL hN
theorem stepL {out : List Nat} {v : Value} (hv : Rdb B 1 v out.length (ints out)) (hout : ∀ t ∈ out, 1 ≤ t ∧ t ≤ L.length) (hol : out.length ≤ 2 ^ 41) {i : Nat} {t : Nat} (hi : out[i]? = some t) {H : Hp} {s : List UInt8} {Φ : Int → Int} (h : DP B H zcr b m w s Φ)
    (hΦ : ∀ t, 0 ≤ Φ t ∧ Φ t ≤ 2 ^ 42) (hl : s.length + 1000 ≤ 2 ^ 46) :
    ∃ H', zax RR (.pointer (some ⟨p, 0, none⟩)) v (.map (some m)) (.int .i64 (out.length : Int)) (.slice (some ⟨w, 0, some 1⟩) 34 34) (.pointer (some ⟨b, 0, none⟩)) [.int .i64 (i : Int)] H = some (.next, [.int .i64 ((i + 1 : Nat) : Int)], H') ∧
      DP B H' zcr b m w (s ++ line zaH (upF Φ t ((i + 1 : Nat) : Int)) i (zaU L t)) (upF Φ t ((i + 1 : Nat) : Int)) ∧ (∀ x, 0 ≤ upF Φ t ((i + 1 : Nat) : Int) x ∧ upF Φ t ((i + 1 : Nat) : Int) x ≤ 2 ^ 42) := by
  have hlt : i < out.length := (List.getElem?_eq_some_iff.1 hi).1
  obtain ⟨t1, t2⟩ := hout t (List.mem_of_getElem? hi)
  have hΨ : ∀ x, 0 ≤ upF Φ t ((i + 1 : Nat) : Int) x ∧ upF Φ t ((i + 1 : Nat) : Int) x ≤ 2 ^ 42 := fun x => by
    unfold upF
    split
    · omega
    · exact hΦ x
  obtain ⟨H1, u1, h1⟩ := h.upd (t : Int) ((i + 1 : Nat) : Int)
  generalize hψ : upF Φ t ((i + 1 : Nat) : Int) = Ψ at h1 hΨ
  have hvH : Rdb H 1 v out.length (ints out) := hv.keep' (fun j hj => h.old j (hv.lt hj)) h.next
  have hvI : Rdb H 1 v (out.map fun (t : Nat) => (t : Int)).length (zcP (out.map fun (t : Nat) => (t : Int))) := by rw [List.length_map, ← zgW]; exact hvH
  obtain ⟨y, x1, x2⟩ := hvI.int (i := i) (t := (t : Int)) (by rw [List.getElem?_map, hi]; rfl)
  have q : (i : Int) < (out.length : Int) := by omega
  have w1 : IntKind.i64.wrap ((i : Int) + 1) = ((i + 1 : Nat) : Int) := za8 (by omega) (by omega)
  have w2 : IntKind.i64.wrap ((t : Int) - 1) = ((t - 1 : Nat) : Int) := by rw [za8 (by omega) (by omega)]; omega
  have hst1 : StF H1 p lim L K sl f g := hst.keep (fun i hi => h1.old i (hst.foot_lt hi)) h1.next
  obtain ⟨n, hnn⟩ : ∃ n, L[t - 1]? = some n := ⟨_, List.getElem?_eq_getElem (by omega)⟩
  have hnd : zaU L t = n := by unfold zaU; rw [hnn]; rfl
  have hNn := hN n (List.mem_of_getElem? hnn)
  obtain ⟨ho1, ho2⟩ := hNn.op
  obtain ⟨sl', hsl, hix⟩ := hst1.st.all.ix (i := t - 1) (by omega) (α := Outc)
  have ci := c_itoa (h1.tabs hT hn) (n := ((i + 1 : Nat) : Int)) (by omega) (by omega)
  have il := zcG (n := ((i + 1 : Nat) : Int)) (by omega) (by omega)
  have wl := zm2 n.op
  have cat1 : ∀ (k : Value → Option Outc), pBin PP .add T.string (.string (ba (Go.Lib.itoa ((i + 1 : Nat) : Int)))) (.string ⟨#[32]⟩) k = k (.string (ba (itoa ((i + 1 : Nat) : Int) ++ [32]))) := fun k => zni _ (itoa ((i + 1 : Nat) : Int)) [32] (by rw [List.length_singleton]; omega) k
  have cat2 : ∀ (k : Value → Option Outc), pBin PP .add T.string (.string (ba (itoa ((i + 1 : Nat) : Int) ++ [32]))) (.string (ba (word zaH n.op))) k = k (.string (ba (itoa ((i + 1 : Nat) : Int) ++ [32] ++ word zaH n.op))) := fun k => zni _ _ _ (by rw [List.length_append, List.length_singleton]; omega) k
  have ixw : ∀ (k : Value → Option Outc), pIdx 1 (.slice (some ⟨w, 0, some 1⟩) 34 34) (.int .i64 n.op) k = k (.pointer (some ⟨w, n.op.toNat, none⟩)) := fun k => by
    have : (.int .i64 n.op : Value) = .int .i64 ((n.op.toNat : Nat) : Int) := by rw [Int.toNat_of_nonneg (by omega)]
    rw [this, zks (by omega), Nat.zero_add]
  have ldw : ∀ (k : Value → Option Outc), zaj 1 false H1 (.pointer (some ⟨w, n.op.toNat, none⟩)) k = k (.string (ba (word zaH n.op))) := fun k => zbe h1.nms _ _ (word_at hNn.op) k
  have hck : Hp.rdP H1 (.pointer (some ⟨w, n.op.toNat, none⟩)) 1 false = some (.string (ba (word zaH n.op))) := by
    unfold Hp.rdP Hp.rd
    dsimp only
    rw [h1.nms]
    exact word_at hNn.op
  obtain ⟨H2, e1, h2⟩ := h1.ws (itoa ((i + 1 : Nat) : Int) ++ [32] ++ word zaH n.op) (by rw [List.length_append, List.length_append, List.length_singleton]; omega)
  have hpn := zgm n.op
  have hnum := hNn.num
  have hw := hNn.w
  have hnm := hNn.name
  have iw := zcG (n := n.w) (by omega) (by omega)
  have hnt := znD (x := n.num.toNat) (by omega)
  have hl2 : (s ++ (itoa ((i + 1 : Nat) : Int) ++ [32] ++ word zaH n.op)).length ≤ s.length + 46 := by rw [List.length_append, List.length_append, List.length_append, List.length_singleton]; omega
  have hline : ∀ r : List UInt8, act Ψ n (fl n.op) 0 = r → s ++ line zaH Ψ i n = (s ++ (itoa ((i + 1 : Nat) : Int) ++ [32] ++ word zaH n.op)) ++ r ++ [10] := fun r hr => by
    unfold line
    rw [hr]
    simp only [List.append_assoc]
  rw [hnd]
  generalize (s ++ (itoa ((i + 1 : Nat) : Int) ++ [32] ++ word zaH n.op)) = s2 at h2 hl2 hline
  have text : ∀ {Hx : Hp} {sx : List UInt8}, DP B Hx zcr b m w sx Ψ → ∃ H', RR F.a29 [.int .u64 n.num] Hx = some (.string (ba (numT n.num.toNat)), H') ∧ DP B H' zcr b m w sx Ψ := fun hx => by
    obtain ⟨H', a1, a2⟩ := c_text (hx.tabs hT hn) (Nat.le_trans hn hx.next) (x := n.num.toNat) (by omega)
    rw [Int.toNat_of_nonneg hnum.1] at a1
    exact ⟨H', a1, hx.new a2⟩
  have spl : ∀ l : List UInt8, (sp l).length = l.length + 1 := fun l => rfl
  by_cases h3 : n.op = 3
  · have d3 : decide (n.op = 3) = true := decide_eq_true h3
    have d31 : decide (n.op = 31) = false := decide_eq_false (by omega)
    have d32 : decide (n.op = 32) = false := decide_eq_false (by omega)
    have d33 : decide (n.op = 33) = false := decide_eq_false (by omega)
    obtain ⟨H3, e2, g3⟩ := h2.put hT hn (x := n.w) (by omega) (by omega) (by omega)
    obtain ⟨H4, e3, g4⟩ := text g3
    obtain ⟨H5, e4, g5⟩ := g4.ws (sp (numT n.num.toNat)) (by rw [List.length_append, spl, spl]; omega)
    have sp1 := sp_ba (numT n.num.toNat) (by omega) (α := Outc)
    have hp0 : zak n.op = 0 := by rw [h3]; decide
    obtain ⟨H6, lp, g6⟩ := loopP hT hn (n := n) hΨ 0 0 H5 _ (by rw [hp0]; rfl) g5 (by simp only [List.length_append, spl]; omega)
    rw [show ((0 : Nat) : Int) = 0 from rfl] at lp
    obtain ⟨H7, e5, g7⟩ := g6.wb (by rw [List.replicate_zero, zcZ, List.append_nil]; simp only [List.length_append, spl]; omega)
    refine ⟨H7, ?_, ?_, hΨ⟩
    · unfold zax
      simp only [qg0, zaY, q, decide_true, zaf, zda, zcJ, x1, x2, zbb, w1, u1, zbm, zaE, Nat.zero_add, hst1.st.l1, zd4, w2, hix, ld7 hsl hnn, spl7, zah ci, cat1, zgr, ixw, ldw, zfG hck, cat2, zah e1, za4, d3, zjy, zah e2, ncell5, zah e3, sp1, zah e4, zaq, zaV, zah (c29 _ _), lp, zbk, zaI, d31, d32, d33, zah e5]
    · rw [hline (sp (itoa n.w) ++ sp (numT n.num.toNat)) (by unfold fl; rw [if_neg (by omega), if_pos h3, act_w, act_n, zcZ, List.append_nil])]
      rw [List.replicate_zero, zcZ, List.append_nil, List.append_assoc s2] at g7
      exact g7
  have d3 : decide (n.op = 3) = false := decide_eq_false h3
  by_cases h4 : n.op = 4
  · have d4 : decide (n.op = 4) = true := decide_eq_true h4
    have d31 : decide (n.op = 31) = false := decide_eq_false (by omega)
    have d32 : decide (n.op = 32) = false := decide_eq_false (by omega)
    have d33 : decide (n.op = 33) = false := decide_eq_false (by omega)
    obtain ⟨H3, e2, g3⟩ := h2.ws (sp n.name.data.toList) (by rw [spl]; omega)
    obtain ⟨H4, e3, g4⟩ := g3.put hT hn (x := n.w) (by omega) (by omega) (by rw [List.length_append, spl]; omega)
    have sp1 : ∀ (k : Value → Option Outc), pBin PP .add T.string (.string ⟨#[32]⟩) (.string n.name) k = k (.string (ba (sp n.name.data.toList))) := fun k => by
      have := sp_ba n.name.data.toList (by omega) k
      rw [show ba n.name.data.toList = n.name from (zfz rfl).symm] at this
      exact this
    have hp0 : zak n.op = 0 := by rw [h4]; decide
    obtain ⟨H6, lp, g6⟩ := loopP hT hn (n := n) hΨ 0 0 H4 _ (by rw [hp0]; rfl) g4 (by simp only [List.length_append, spl]; omega)
    rw [show ((0 : Nat) : Int) = 0 from rfl] at lp
    obtain ⟨H7, e5, g7⟩ := g6.wb (by rw [List.replicate_zero, zcZ, List.append_nil]; simp only [List.length_append, spl]; omega)
    refine ⟨H7, ?_, ?_, hΨ⟩
    · unfold zax
      simp only [qg0, zaY, q, decide_true, zaf, zda, zcJ, x1, x2, zbb, w1, u1, zbm, zaE, Nat.zero_add, hst1.st.l1, zd4, w2, hix, ld7 hsl hnn, spl7, zah ci, cat1, zgr, ixw, ldw, zfG hck, cat2, zah e1, za4, d3, d4, ncell6, sp1, zah e2, zjy, zah e3, zaq, zaV, zah (c29 _ _), lp, zbk, zaI, d31, d32, d33, zah e5]
    · rw [hline (sp n.name.data.toList ++ sp (itoa n.w)) (by unfold fl; rw [if_neg (by omega), if_neg (by omega), if_pos h4, act_s, act_w, zcZ, List.append_nil])]
      rw [List.replicate_zero, zcZ, List.append_nil, List.append_assoc s2] at g7
      exact g7
  have d4 : decide (n.op = 4) = false := decide_eq_false h4
  obtain ⟨H6, lp, g6⟩ := loopP hT hn (n := n) hΨ (zak n.op).toNat 0 H2 _ (by omega) h2 (by omega)
  rw [show ((0 : Nat) : Int) = 0 from rfl] at lp
  have al := zkG hNn hΨ (List.replicate (zak n.op).toNat 112) 0
  rw [List.length_replicate] at al
  by_cases h31 : n.op = 31
  · have d31 : decide (n.op = 31) = true := decide_eq_true h31
    have hs := hNn.ext h31
    have cv : ∀ (k : Value → Option Outc), zal .i64 (.int .u64 n.num) k = k (.int .i64 n.num) := fun k => by
      rw [znh, za8 (by omega) (by omega)]
    obtain ⟨H7, e2, g7⟩ := g6.put hT hn (x := n.num) (by omega) (by omega) (by rw [List.length_append]; omega)
    have inu := zcG (n := n.num) (by omega) (by omega)
    obtain ⟨H8, e3, g8⟩ := g7.put hT hn (x := n.w) (by omega) (by omega) (by simp only [List.length_append, spl]; omega)
    obtain ⟨H9, e5, g9⟩ := g8.wb (by simp only [List.length_append, spl]; omega)
    have hp1 : (zak n.op).toNat = 1 := by rw [h31]; decide
    refine ⟨H9, ?_, ?_, hΨ⟩
    · unfold zax
      simp only [qg0, zaY, q, decide_true, zaf, zda, zcJ, x1, x2, zbb, w1, u1, zbm, zaE, Nat.zero_add, hst1.st.l1, zd4, w2, hix, ld7 hsl hnn, spl7, zah ci, cat1, zgr, ixw, ldw, zfG hck, cat2, zah e1, za4, d3, d4, zaq, zaV, zah (c29 _ _), lp, zbk, zaI, d31, ncell5, cv, zah e2, zjy, zah e3, zah e5]
    · rw [hline (sp (itoa (Ψ ([n.a, n.b, n.c].getD 0 0))) ++ (sp (itoa n.num) ++ sp (itoa n.w))) (by unfold fl; rw [if_neg (by omega), if_neg (by omega), if_neg (by omega), if_pos h31, zoM, act_n, act_w, zcZ, List.append_nil, small_num hnum.1 hs])]
      rw [hp1, show List.replicate 1 (112 : UInt8) = [112] from rfl, zoM, zcZ, List.append_nil, List.append_assoc (s2 ++ _), List.append_assoc s2] at g9
      exact g9
  have d31 : decide (n.op = 31) = false := decide_eq_false h31
  by_cases h32 : n.op = 32
  · have d32 : decide (n.op = 32) = true := decide_eq_true h32
    obtain ⟨H8, e3, g8⟩ := g6.put hT hn (x := n.w) (by omega) (by omega) (by simp only [List.length_append, spl]; omega)
    obtain ⟨H9, e5, g9⟩ := g8.wb (by simp only [List.length_append, spl]; omega)
    have hp1 : (zak n.op).toNat = 1 := by rw [h32]; decide
    refine ⟨H9, ?_, ?_, hΨ⟩
    · unfold zax
      simp only [qg0, zaY, q, decide_true, zaf, zda, zcJ, x1, x2, zbb, w1, u1, zbm, zaE, Nat.zero_add, hst1.st.l1, zd4, w2, hix, ld7 hsl hnn, spl7, zah ci, cat1, zgr, ixw, ldw, zfG hck, cat2, zah e1, za4, d3, d4, zaq, zaV, zah (c29 _ _), lp, zbk, zaI, d31, d32, zjy, zah e3, zah e5]
    · rw [hline (sp (itoa (Ψ ([n.a, n.b, n.c].getD 0 0))) ++ sp (itoa n.w)) (by unfold fl; rw [if_neg (by omega), if_neg (by omega), if_neg (by omega), if_neg (by omega), if_pos (by omega), zoM, act_w, zcZ, List.append_nil])]
      rw [hp1, show List.replicate 1 (112 : UInt8) = [112] from rfl, zoM, zcZ, List.append_nil, List.append_assoc s2] at g9
      exact g9
  have d32 : decide (n.op = 32) = false := decide_eq_false h32
  by_cases h33 : n.op = 33
  · have d33 : decide (n.op = 33) = true := decide_eq_true h33
    obtain ⟨H8, e3, g8⟩ := g6.put hT hn (x := n.w) (by omega) (by omega) (by simp only [List.length_append, spl]; omega)
    obtain ⟨H9, e5, g9⟩ := g8.wb (by simp only [List.length_append, spl]; omega)
    have hp1 : (zak n.op).toNat = 1 := by rw [h33]; decide
    refine ⟨H9, ?_, ?_, hΨ⟩
    · unfold zax
      simp only [qg0, zaY, q, decide_true, zaf, zda, zcJ, x1, x2, zbb, w1, u1, zbm, zaE, Nat.zero_add, hst1.st.l1, zd4, w2, hix, ld7 hsl hnn, spl7, zah ci, cat1, zgr, ixw, ldw, zfG hck, cat2, zah e1, za4, d3, d4, zaq, zaV, zah (c29 _ _), lp, zbk, zaI, d31, d32, d33, zjy, zah e3, zah e5]
    · rw [hline (sp (itoa (Ψ ([n.a, n.b, n.c].getD 0 0))) ++ sp (itoa n.w)) (by unfold fl; rw [if_neg (by omega), if_neg (by omega), if_neg (by omega), if_neg (by omega), if_pos (by omega), zoM, act_w, zcZ, List.append_nil])]
      rw [hp1, show List.replicate 1 (112 : UInt8) = [112] from rfl, zoM, zcZ, List.append_nil, List.append_assoc s2] at g9
      exact g9
  have d33 : decide (n.op = 33) = false := decide_eq_false h33
  obtain ⟨H9, e5, g9⟩ := g6.wb (by simp only [List.length_append]; omega)
  refine ⟨H9, ?_, ?_, hΨ⟩
  · unfold zax
    simp only [qg0, zaY, q, decide_true, zaf, zda, zcJ, x1, x2, zbb, w1, u1, zbm, zaE, Nat.zero_add, hst1.st.l1, zd4, w2, hix, ld7 hsl hnn, spl7, zah ci, cat1, zgr, ixw, ldw, zfG hck, cat2, zah e1, za4, d3, d4, zaq, zaV, zah (c29 _ _), lp, zbk, zaI, d31, d32, d33, zah e5]
  · have hfl : fl n.op = List.replicate (zak n.op).toNat 112 := by
      unfold fl
      by_cases h2 : n.op ≤ 2
      · have : zak n.op = 0 := by
          rcases (show n.op = 1 ∨ n.op = 2 by omega) with q | q <;> rw [q] <;> decide
        rw [if_pos h2, this]; rfl
      · rw [if_neg h2, if_neg h3, if_neg h4, if_neg h31, if_neg (by omega)]
    rw [hline (act Ψ n (List.replicate (zak n.op).toNat 112) 0) (by rw [hfl])]
    exact g9
end
end Go.AM
namespace Go.AM
open Go
theorem znL {Φ : Int → Int} {n : Nd} (hn : zfa n) (hΦ : ∀ t, 0 ≤ Φ t ∧ Φ t ≤ 2 ^ 42) {i : Nat} (hi : i ≤ 2 ^ 42) : (line zaH Φ i n).length ≤ 200 := by
  have h1 := zcG (n := ((i + 1 : Nat) : Int)) (by omega) (by omega)
  have h2 := zm2 n.op
  have h3 := zkG hn hΦ (fl n.op) 0
  have h4 := fl_len n.op
  unfold line
  simp only [List.length_append, List.length_singleton]
  omega
section
variable {B : Hp} {b m w p f g : Nat} {lim : Int} {L : List Nd} {K : List (ByteArray × Int)} {sl : Value} (hT : Tabs B) (hn : PP.globals.size ≤ B.next) (hst : StF B p lim L K sl f g) (hL : L.length * 64 ≤ 2 ^ 46) (hN : ∀ m ∈ L, zfa m)
include hT hn hst hL hN
theorem loopL {out : List Nat} {v : Value} (hv : Rdb B 1 v out.length (ints out)) (hout : ∀ t ∈ out, 1 ≤ t ∧ t ≤ L.length) (hol : out.length ≤ 2 ^ 30) : ∀ (k i : Nat) (H : Hp) (s : List UInt8) (Φ : Int → Int), i + k = out.length → DP B H zcr b m w s Φ →
    (∀ t, 0 ≤ Φ t ∧ Φ t ≤ 2 ^ 42) → s.length + 200 * k + 1000 ≤ 2 ^ 46 →
    ∃ H', zaG (zax RR (.pointer (some ⟨p, 0, none⟩)) v (.map (some m)) (.int .i64 (out.length : Int)) (.slice (some ⟨w, 0, some 1⟩) 34 34) (.pointer (some ⟨b, 0, none⟩))) [.int .i64 (i : Int)] H = some (.exit 0, [.int .i64 (out.length : Int)], H') ∧
      DP B H' zcr b m w (s ++ zb9 zaH L i (out.drop i) Φ) (zcM i (out.drop i) Φ) ∧ (∀ t, 0 ≤ zcM i (out.drop i) Φ t ∧ zcM i (out.drop i) Φ t ≤ 2 ^ 42) ∧ (zb9 zaH L i (out.drop i) Φ).length ≤ 200 * k
  | 0, i, H, s, Φ, hi, h, hΦ, hl => by
    have : i = out.length := by omega
    subst this
    rw [List.drop_of_length_le (Nat.le_refl _)]
    refine ⟨H, ?_, by unfold zb9 zcM; rw [List.append_nil]; exact h, hΦ, Nat.zero_le _⟩
    rw [zan]
    have : zax RR (.pointer (some ⟨p, 0, none⟩)) v (.map (some m)) (.int .i64 (out.length : Int)) (.slice (some ⟨w, 0, some 1⟩) 34 34) (.pointer (some ⟨b, 0, none⟩)) [.int .i64 (out.length : Int)] H = some (.exit 0, [.int .i64 (out.length : Int)], H) := by
      unfold zax
      simp only [zaY, zaf, zcJ, qg0, Int.lt_irrefl, decide_false]
    rw [this]; rfl
  | k + 1, i, H, s, Φ, hi, h, hΦ, hl => by
    have hlt : i < out.length := by omega
    have hg : out[i]? = some out[i] := List.getElem?_eq_getElem hlt
    obtain ⟨t1, t2⟩ := hout out[i] (List.getElem_mem hlt)
    have hd : out.drop i = out[i] :: out.drop (i + 1) := List.drop_eq_getElem_cons hlt
    obtain ⟨H1, e1, h1, hΨ⟩ := stepL hT hn hst hL hN hv hout (by omega) hg h hΦ (by omega)
    have hnd : zfa (zaU L out[i]) := by
      unfold zaU
      have : L[out[i] - 1]? = some (L[out[i] - 1]'(by omega)) := List.getElem?_eq_getElem _
      rw [this]
      exact hN _ (List.getElem_mem _)
    have hll := znL hnd hΨ (i := i) (by omega)
    obtain ⟨H', e2, h2, h3, h4⟩ := loopL hv hout hol k (i + 1) H1 _ _ (by omega) h1 hΨ (by rw [List.length_append]; omega)
    rw [hd]
    refine ⟨H', ?_, ?_, h3, ?_⟩
    · rw [zan, e1]; exact e2
    · rw [List.append_assoc] at h2; exact h2
    · unfold zb9
      rw [List.length_append]
      omega
omit hst hL hN in
theorem loopR {x : Value} {rs : List Int} (hx : Rdb B 1 x rs.length (zcP rs)) (hrl : rs.length ≤ 2 ^ 30) {Φ : Int → Int} (hΦ : ∀ t, 0 ≤ Φ t ∧ Φ t ≤ 2 ^ 42) : ∀ (k i : Nat) (H : Hp) (s : List UInt8), i + k = rs.length → DP B H zcr b m w s Φ → s.length + 200 * k + 1000 ≤ 2 ^ 46 →
    ∃ H', zaG (za2 RR x (.map (some m)) (.int .i64 (rs.length : Int)) (.pointer (some ⟨b, 0, none⟩))) [.int .i64 (i : Int)] H = some (.exit 6, [.int .i64 (rs.length : Int)], H') ∧ DP B H' zcr b m w (s ++ zdI Φ (rs.drop i)) Φ ∧ (zdI Φ (rs.drop i)).length ≤ 200 * k
  | 0, i, H, s, hi, h, hl => by
    have : i = rs.length := by omega
    subst this
    rw [List.drop_of_length_le (Nat.le_refl _)]
    refine ⟨H, ?_, by unfold zdI; rw [List.flatMap_nil, List.append_nil]; exact h, by simp [zdI]⟩
    rw [zan]
    have : za2 RR x (.map (some m)) (.int .i64 (rs.length : Int)) (.pointer (some ⟨b, 0, none⟩)) [.int .i64 (rs.length : Int)] H = some (.exit 6, [.int .i64 (rs.length : Int)], H) := by
      unfold za2
      simp only [zaY, zaf, zcJ, qg0, Int.lt_irrefl, decide_false]
    rw [this]; rfl
  | k + 1, i, H, s, hi, h, hl => by
    have hlt : i < rs.length := by omega
    have hg : rs[i]? = some rs[i] := List.getElem?_eq_getElem hlt
    have hd : rs.drop i = rs[i] :: rs.drop (i + 1) := List.drop_eq_getElem_cons hlt
    have hxH : Rdb H 1 x rs.length (zcP rs) := hx.keep' (fun j hj => h.old j (hx.lt hj)) h.next
    obtain ⟨y, x1, x2⟩ := hxH.int hg
    have hb := hΦ rs[i]
    obtain ⟨H1, e1, h1⟩ := h.put hT hn (x := Φ rs[i]) (by omega) (by omega) (by omega)
    have il := zcG (n := Φ rs[i]) (by omega) (by omega)
    have spl : (sp (itoa (Φ rs[i]))).length = (itoa (Φ rs[i])).length + 1 := rfl
    obtain ⟨H', e2, h2, h4⟩ := loopR hx hrl hΦ k (i + 1) H1 _ (by omega) h1 (by rw [List.length_append, spl]; omega)
    rw [hd]
    have w1 : IntKind.i64.wrap ((i : Int) + 1) = ((i + 1 : Nat) : Int) := za8 (by omega) (by omega)
    have q : (i : Int) < (rs.length : Int) := by omega
    refine ⟨H', ?_, ?_, ?_⟩
    · rw [zan]
      have : za2 RR x (.map (some m)) (.int .i64 (rs.length : Int)) (.pointer (some ⟨b, 0, none⟩)) [.int .i64 (i : Int)] H = some (.next, [.int .i64 ((i + 1 : Nat) : Int)], H1) := by
        unfold za2
        simp only [zaY, zaf, zda, qg0, q, decide_true, x1, x2, h.mp.look ikI, zah e1, zbb, w1]
      rw [this]; exact e2
    · rw [List.append_assoc] at h2; exact h2
    · unfold zdI at h4 ⊢
      rw [List.flatMap_cons, List.length_append]
      omega
end
def zdC (L : List Nd) (rs : List Int) : List UInt8 := if (zb6 L rs).1 = 0 then zgZ zaH L (zb6 L rs).2 rs else []
theorem orderR_in {L : List Nd} (hd : Dag L) (rs : List Int) : ∀ t ∈ (zb6 L rs).2, 1 ≤ t ∧ t ≤ L.length := by
  unfold zb6
  split
  · rename_i h
    obtain ⟨ns, h1, h2⟩ := nats rs h
    have e : rs.map Int.toNat = ns := by rw [h1, zkp]
    rw [e]
    exact Told.bd ((⟨List.nodup_nil, fun x h => by cases h⟩ : Told L.length []).posts hd h2)
  · intro t h; cases h
section
variable {H0 : Hp} {p f g : Nat} {lim : Int} {L : List Nd} {K : List (ByteArray × Int)} {sl : Value} (hT : Tabs H0) (hn : PP.globals.size ≤ H0.next) (hst : StF H0 p lim L K sl f g) (hd : Dag L) (hN : ∀ m ∈ L, zfa m) (hL : L.length ≤ 2 ^ 30) {x : Value} {rs : List Int} (hx : Rdb H0 1 x rs.length (zcP rs)) (hl : rs.length ≤ 2 ^ 30)
include hT hn hst hd hN hL hx hl
theorem c_dump : ∃ H', RR F.a18 [.pointer (some ⟨p, 0, none⟩), x] H0 = some (.tuple #[.string (ba (zdC L rs)), .int .i64 (zb6 L rs).1], H') ∧ H0.next ≤ H'.next ∧ ∀ k, k < H0.next → H'.get k = H0.get k := by
  obtain ⟨H2, v, a1, a2⟩ := c13 hst hd (by omega) hx (by omega)
  have hbd := zlp hd rs
  have hin := orderR_in hd rs
  have hr := (zgQ E0 rfl (.pointer (some ⟨p, 0, none⟩)) x H0).trans (zgV _ _ _ _)
  unfold zdC
  generalize (zb6 L rs).1 = e at *
  generalize (zb6 L rs).2 = out at *
  rw [zah a1, x01, zec, zaf] at hr
  by_cases he : e = 0
  · subst he
    rw [decide_eq_false (by simp), zcJ] at hr
    have f2 : Frm (fun _ => False) H0 H2 := ⟨a2.next, fun j hj _ => a2.old j hj⟩
    have hst2 : StF H2 p lim L K sl f g := hst.keep (fun i hi => a2.old i (hst.foot_lt hi)) a2.next
    have hT2 := hT.old hn a2.old
    have hn2 : PP.globals.size ≤ H2.next := Nat.le_trans hn a2.next
    have hx2 : Rdb H2 1 x rs.length (zcP rs) := hx.keep' (fun j hj => a2.old j (hx.lt hj)) a2.next
    let HA : Hp := (H2.new (.cells [.pointer none, .slice none 0 0] true)).mark H2.next T.strings_Builder
    let HB : Hp := HA.new (.map [])
    let HC : Hp := HB.new (.cells zcr true)
    have hgB : ∀ k, k < H2.next → HB.get k = H2.get k := fun k hk => by
      show (if k = H2.next + 1 then _ else if k = H2.next then _ else H2.get k) = _
      rw [if_neg (by omega), if_neg (by omega)]
    have hgC : ∀ k, k < H2.next → HC.get k = H2.get k := fun k hk => by
      show (if k = H2.next + 2 then _ else HB.get k) = _
      rw [if_neg (by omega), hgB k hk]
    have hTB : Tabs HB := hT2.old hn2 hgB
    have hc : HC.get H2.next = some (.cells [.pointer none, .slice none 0 0] true) := by
      show (if H2.next = H2.next + 2 then _ else if H2.next = H2.next + 1 then _ else if H2.next = H2.next then _ else _) = _
      rw [if_neg (by omega), if_neg (by omega), if_pos rfl]
    have hm : HC.get (H2.next + 1) = some (.map []) := by
      show (if H2.next + 1 = H2.next + 2 then _ else if H2.next + 1 = H2.next + 1 then _ else _) = _
      rw [if_neg (by omega), if_pos rfl]
    have hw : HC.get (H2.next + 2) = some (.cells zcr true) := by
      show (if H2.next + 2 = H2.next + 2 then _ else _) = _
      rw [if_pos rfl]
    have hty : HC.ty H2.next = some T.strings_Builder := by
      show (if H2.next = H2.next then _ else _) = _
      rw [if_pos rfl]
    have st : DP H2 HC zcr H2.next (H2.next + 1) (H2.next + 2) [] (fun _ => 0) :=
      ⟨by show H2.next ≤ H2.next + 1 + 1 + 1; omega, hgC, Nat.le_refl _, by omega, by omega, by omega, by omega, by omega, by show H2.next + 1 < H2.next + 1 + 1 + 1; omega, by show H2.next + 2 < H2.next + 1 + 1 + 1; omega,
        ⟨[], hm, fun t => rfl⟩, hw, none, ⟨hty, by show H2.next < H2.next + 1 + 1 + 1; omega, _, _, hc, .inl rfl, .inl ⟨rfl, rfl, rfl⟩⟩, fun y hy => by cases hy⟩
    have ea : ∀ (k : Value → Hp → Option (Value × Hp)), zkk T.strings_Builder [.pointer none, .slice none 0 0] H2 k = k (.pointer (some ⟨H2.next, 0, none⟩)) HA := fun k => rfl
    have eb : ∀ (k : Value → Hp → Option (Value × Hp)), zeu HA k = k (.map (some (H2.next + 1))) HB := fun k => rfl
    have en : RR F.a26 [] HB = some (.slice (some ⟨H2.next + 2, 0, some 1⟩) 34 34, HC) := c_names hTB
    obtain ⟨H3, l1, d1, hΦ, len1⟩ := loopL (b := H2.next) (m := H2.next + 1) (w := H2.next + 2) hT2 hn2 hst2 (by omega) hN a2.vec.rd hin (by omega) out.length 0 HC [] _ (by omega) st (fun t => by constructor <;> decide) (by simp; omega)
    rw [qd0, List.nil_append] at d1
    rw [qd0] at hΦ len1
    obtain ⟨H4, e4, d4⟩ := d1.ws [114, 111, 111, 116, 115] (by simp; omega)
    obtain ⟨H5, l2, d5, len2⟩ := loopR hT2 hn2 hx2 hl hΦ rs.length 0 H4 _ (by omega) d4 (by rw [List.length_append]; simp; omega)
    rw [qd0] at d5 len2
    obtain ⟨H6, e6, d6⟩ := d5.wb (by rw [List.length_append, List.length_append]; simp; omega)
    obtain ⟨j, hj, hj2⟩ := d6.bld
    obtain ⟨H7, e7, bf⟩ := hj.text (by rw [List.length_append, List.length_append, List.length_append]; simp; omega)
    refine ⟨H7, hr.trans ?_, ?_, fun k hk => ?_⟩
    · rw [ea, eb, zah en, a2.vec.len]
      rw [show (0 : Int) = ((0 : Nat) : Int) from rfl, l1, zaq, zbk, zaI, zah e4, hx2.len, l2, zaq, zbk, zaI, zah e6, zah e7, if_pos rfl]
      rfl
    · have := d6.next
      have := bf.next
      have := a2.next
      omega
    · have h2 := a2.next
      have h6 := d6.next
      have := d6.lb
      rw [bf.get k (by omega) (by omega) (fun q => by have := hj2 k q; omega), d6.old k (by omega), a2.old k hk]
  · rw [decide_eq_true (by simpa using he), zda] at hr
    rw [if_neg he]
    exact ⟨H2, hr, a2.next, a2.old⟩
end
end Go.AM
namespace Go.AM
open Go
section
variable {B H : Hp} {a N : Nat} {av : Value} {s : List UInt8} {buf : Value} {Φ : Int → Int}
end
end Go.AM
namespace Go.AM
open Go
def fullD : Option (Nd × List (List UInt8)) → Option Nd
  | some (m, []) => some m
  | _ => none
def nodeD (ws : List (List UInt8)) (ts : List Int) : Option Nd := match ws with
  | w0 :: o :: r => if zbj w0 = ((ts.length + 1 : Nat) : Int) then (match opF o with
    | none => none
    | some op => fullD (rdF (zbB (op : Int)) r ts 0 (nd0 (op : Int)))) else none
  | _ => none
theorem lineP_eq (ws : List (List UInt8)) (ts : List Int) (L : List Nd) : zlB ws ts L = (nodeD ws ts).map fun m => { m with w := zcj L m } := by
  unfold zlB nodeD numF
  match ws with
  | [] => rfl
  | [w0] =>
    dsimp only
    by_cases h : zbj w0 < 0
    · rw [if_pos h]; rfl
    · rw [if_neg h]
      dsimp only
      split <;> rfl
  | w0 :: o :: r =>
    dsimp only
    by_cases h : zbj w0 < 0
    · rw [if_pos h, if_neg (by omega)]; rfl
    · rw [if_neg h]
      dsimp only
      by_cases h2 : zbj w0 = ((ts.length + 1 : Nat) : Int)
      · rw [if_pos h2, if_pos h2]
        unfold nodeP
        dsimp only [List.tail_cons]
        cases opF o with
        | none => rfl
        | some op =>
          dsimp only
          cases rdF (zbB (op : Int)) r ts 0 (nd0 (op : Int)) with
          | none => rfl
          | some q =>
            obtain ⟨m, w⟩ := q
            cases w <;> rfl
      · rw [if_neg h2, if_neg h2]; rfl
def fldC : Fld → UInt8
  | .p => 112
  | .n => 110
  | .w => 119
  | .s => 115
theorem fl_all : ((List.range 34).all fun op => decide (op = 0) || decide (fl (op : Int) = (zbB (op : Int)).map fldC)) = true := by decide +kernel
theorem fl_eq {op : Nat} (h1 : 1 ≤ op) (h2 : op ≤ 33) : fl (op : Int) = (zbB (op : Int)).map fldC := by
  have := List.all_eq_true.1 fl_all op (List.mem_range.2 (by omega))
  rw [Bool.or_eq_true, decide_eq_true_eq, decide_eq_true_eq] at this
  rcases this with q | q
  · omega
  · exact q
end Go.AM
namespace Go.AM
open Go
end Go.AM
namespace Go.AM
open Go
end Go.AM
namespace Go.AM
open Go
end Go.AM
namespace Go.AM
open Go
theorem spn_miss {b : UInt8} (hb : (b == 32) = false) (r : List UInt8) (i : Nat) (st : Option Nat) : spn (b :: r) i st = spn r (i + 1) (some (st.getD i)) := by
  conv => lhs; unfold spn
  rw [hb]
end Go.AM
namespace Go.AM
open Go
theorem zow : zbA [] = [] := by
  have h : cutB 10 [] = [[]] := rfl
  unfold zbA
  rw [h]; rfl
theorem zlV : ∀ (a r : List UInt8), 10 ∉ a → cutB 10 (a ++ 10 :: r) = a :: cutB 10 r
  | [], r, _ => by
    show cutB 10 (10 :: r) = _
    rw [zn0 (by rfl)]
  | b :: a, r, h => by
    have hb : (b == 10) = false := by rw [beq_eq_false_iff_ne]; exact fun e => h (e ▸ List.mem_cons_self ..)
    rw [List.cons_append, zlX hb (zlV a r fun q => h (List.mem_cons_of_mem _ q))]
theorem zix (a r : List UInt8) (h : 10 ∉ a) : zbA (a ++ 10 :: r) = a :: zbA r := by
  have hc : (a ++ 10 :: r).count 10 = r.count 10 + 1 := by
    rw [List.count_append, List.count_eq_zero.2 h, List.count_cons_self]; omega
  unfold zbA
  rw [zlV a r h, hc, qg1, List.take_succ_cons]
  split <;> rfl
section
variable {B : Nat} {H : Hp} {st f g : Nat} {lim : Int} {L : List Nd} {K : List (ByteArray × Int)} {sl tv : Value} {ts : List Int}
end
end Go.AM
namespace Go.AM
open Go
end Go.AM
namespace Go.AM
open Go
end Go.AM
namespace Go.AM
open Go
section
variable {H : Hp} {p f g : Nat} {lim : Int} {L : List Nd} {K : List (ByteArray × Int)} {sl : Value} (hs : StR H p lim L sl f g)
include hs
theorem c9 : RR F.a45 [.pointer (some ⟨p, 0, none⟩)] H = some (.int .i64 L.length, H) := by
  refine (zhl E0 rfl _ _).trans ?_
  unfold zeG
  simp only [zbm, zaE, Nat.zero_add, hs.l1, hs.all.len]
end
end Go.AM
namespace Go.AM
open Go
theorem s_t4 {α : Type} (a b c d : Value) (k : Value → Option α) : zac (.tuple #[a, b, c, d]) 0 k = k a ∧ zac (.tuple #[a, b, c, d]) 1 k = k b ∧ zac (.tuple #[a, b, c, d]) 2 k = k c ∧ zac (.tuple #[a, b, c, d]) 3 k = k d := ⟨rfl, rfl, rfl, rfl⟩
end Go.AM
namespace Go.AM
open Go Go.ChangeShapes Go.WideShapes Go.ChangeAt Go.RowKit Go.Proofs.YtkfhklmklhnfaaaGreatDoor
theorem xt7 : XtC PP orc.xt := by
  intro f e h
  have h : look none [(F.a20, some zjK), (F.a19, some zjQ)] f = some e := h
  unfold look at h
  split at h
  · rename_i q
    cases h
    have : f = F.a20 := (Nat.eq_of_beq_eq_true q).symm
    subst this
    exact idxStr_xt Go.Proofs.Tryz.func118 (by kernel_rfl) (by kernel_rfl) (by kernel_rfl) (by kernel_rfl)
  · unfold look at h
    split at h
    · rename_i q
      cases h
      have : f = F.a19 := (Nat.eq_of_beq_eq_true q).symm
      subst this
      exact cntStr_xt Go.Proofs.Tryz.func87 (by kernel_rfl) (by kernel_rfl) (by kernel_rfl) (by kernel_rfl)
    · cases h
theorem zfF {P : Program} {W : World} {name : String} {k : IntKind} {zs : List Int} {rest : List (String × DataW Unit)} {g : Nat} {t e : TypeId} {n : Nat} {ps : List MemPlace}
    (hg : P.globalNamed name = some g) (hty : (P.globals[g]?).map (·.type) = some t) (ht : P.underlying t = some (.array n e)) (he : P.underlying e = some (.int k)) (hce : P.cellsOf e = 1) (hct : P.cellsOf t = n)
    (h : DataW.LaidVars P W ((name, Go.Lib.tabData k zs) :: rest) ps) : ∃ ty fz, W.heap[g]? = some (.cells (zs.map fun z => Value.int k z).toArray ty fz) := by
  obtain ⟨g', t', cs, fuel, p, q, hg', ht', hvar, hd, _, _⟩ := h
  obtain rfl := Option.some.inj (hg.symm.trans hg')
  obtain rfl := Option.some.inj (hty.symm.trans ht')
  have hc := Go.Lib.cells_of_tab ht he hce hct hd
  unfold World.var? at hvar
  rw [hg] at hvar
  have hvar : (match W.heap[g]? with | some (Obj.cells cs _ _) => some cs | _ => none) = some cs := hvar
  split at hvar
  · rename_i cs' ty fz hw
    cases hvar
    refine ⟨ty, fz, ?_⟩
    rw [hw, ← hc]
  · cases hvar
theorem ziD {P : Program} {W : World} {name : String} {g : Nat} {cs : Array Value} (hg : P.globalNamed name = some g) (hvar : W.var? P name = some cs) : ∃ ty fz, W.heap[g]? = some (.cells cs ty fz) := by
  unfold World.var? at hvar
  rw [hg] at hvar
  have hvar : (match W.heap[g]? with | some (Obj.cells cs _ _) => some cs | _ => none) = some cs := hvar
  split at hvar
  · rename_i cs' ty fz hw
    cases hvar
    exact ⟨ty, fz, hw⟩
  · cases hvar
def bru64 : List Int := Go.Lib.deBruijn64tab.map fun (n : Nat) => (n : Int)
theorem pow_data : (Rows.laid_internal_strconv_uint64pow10 : DataW Unit) = Go.Lib.tabData .u64 zol := by kernel_rfl
theorem spc_data : (Rows.laid_strings_asciiSpace : DataW Unit) = Go.Lib.tabData .u8 zje := by kernel_rfl
theorem bru_data : (Rows.laid_math_bits_deBruijn64tab : DataW Unit) = Go.Lib.tabData .u8 bru64 := by kernel_rfl
abbrev zi9 : List (String × DataW Unit) := [("math/bits.deBruijn32tab", Rows.laid_math_bits_deBruijn32tab), ("math/bits.deBruijn64tab", Rows.laid_math_bits_deBruijn64tab), ("internal/strconv.uint64pow10", Rows.laid_internal_strconv_uint64pow10), ("unicode/utf8.acceptRanges", Rows.laid_unicode_utf8_acceptRanges),
  ("strconv.ErrRange", Rows.laid_strconv_ErrRange), ("strconv.ErrSyntax", Rows.laid_strconv_ErrSyntax), ("unicode.White_Space", Rows.laid_unicode_White_Space), ("strings.asciiSpace", Rows.laid_strings_asciiSpace), ("unicode/utf8.first", Rows.laid_unicode_utf8_first)]
theorem znV : "*" ++ "errors.errorString" = "*errors.errorString" := by decide
theorem err_row : ∀ u, PP.typeName? 3 u = some "*errors.errorString" → u = T.p_errors_errorString := fun u h =>
  typeName_ptr_named (nm := "errors.errorString") (by rw [znV]; kernel_rfl) (by kernel_rfl) (by decide) u (by rw [znV]; exact h)
theorem laid_errs {W : World} (h : laidMetH PP zi9 W) : (∃ p ty fz, W.heap[G.strconv_ErrRange]? = some (.cells #[.iface T.p_errors_errorString p] ty fz)) ∧ (∃ p ty fz, W.heap[G.strconv_ErrSyntax]? = some (.cells #[.iface T.p_errors_errorString p] ty fz)) := by
  have h : laidMet PP zi9 W := h
  have h4 := h.tail.tail.tail.tail
  obtain ⟨a, s, hv, _⟩ := laid_sentinel (g := G.strconv_ErrRange) (ti := T.error) (tp := T.p_errors_errorString) (te := T.errors_errorString) (ts := T.string) h4 (by kernel_rfl) (by kernel_rfl) Go.Proofs.Tryz.underlying90 err_row (by kernel_rfl) Go.Proofs.Tryz.underlying182 rfl rfl (by kernel_rfl) (by kernel_rfl) (by kernel_rfl)
  obtain ⟨a2, s2, hv2, _⟩ := laid_sentinel (g := G.strconv_ErrSyntax) (ti := T.error) (tp := T.p_errors_errorString) (te := T.errors_errorString) (ts := T.string) h4.tail (by kernel_rfl) (by kernel_rfl) Go.Proofs.Tryz.underlying90 err_row (by kernel_rfl) Go.Proofs.Tryz.underlying182 rfl rfl (by kernel_rfl) (by kernel_rfl) (by kernel_rfl)
  obtain ⟨t1, z1, e1⟩ := ziD (by kernel_rfl) hv
  obtain ⟨t2, z2, e2⟩ := ziD (by kernel_rfl) hv2
  exact ⟨⟨_, t1, z1, e1⟩, ⟨_, t2, z2, e2⟩⟩
theorem laid_tabs {W : World} (h : laidMetH PP zi9 W) : (∃ ty fz, W.heap[G.internal_strconv_uint64pow10]? = some (.cells (zol.map fun z => Value.int .u64 z).toArray ty fz)) ∧
    (∃ ty fz, W.heap[G.strings_asciiSpace]? = some (.cells (zje.map fun z => Value.int .u8 z).toArray ty fz)) ∧ (∃ ty fz, W.heap[G.bits_deBruijn64tab]? = some (.cells (bru64.map fun z => Value.int .u8 z).toArray ty fz)) := by
  have h : laidMet PP zi9 W := h
  obtain ⟨q1, h1, _⟩ := h.tail
  obtain ⟨q2, h2, _⟩ := h.tail.tail
  obtain ⟨q7, h7, _⟩ := h.tail.tail.tail.tail.tail.tail.tail
  rw [bru_data] at h1
  rw [pow_data] at h2
  rw [spc_data] at h7
  exact ⟨zfF (by kernel_rfl) (t := T.a20_uint64) (e := T.uint64) (n := 20) (by kernel_rfl) (by kernel_rfl) (by kernel_rfl) (by kernel_rfl) (by kernel_rfl) h2,
    zfF (by kernel_rfl) (t := T.a256_uint8) (e := T.uint8) (n := 256) (by kernel_rfl) (by kernel_rfl) (by kernel_rfl) (by kernel_rfl) (by kernel_rfl) h7,
    zfF (by kernel_rfl) (t := T.a64_uint8) (e := T.uint8) (n := 64) (by kernel_rfl) (by kernel_rfl) (by kernel_rfl) (by kernel_rfl) (by kernel_rfl) h1⟩
theorem start {W : World} (hsz : PP.globals.size ≤ W.heap.size) (h : laidMetH PP zi9 W) : ∃ H0, Rel PP W H0 (B00 PP) ∧ (∀ i o, H0.get i = some o → o.own = false) ∧ Laid H0 := by
  obtain ⟨⟨t1, z1, e1⟩, ⟨t2, z2, e2⟩, t3, z3, e3⟩ := laid_tabs h
  obtain ⟨⟨p4, t4, z4, e4⟩, p5, t5, z5, e5⟩ := laid_errs h
  let Fx : Nat → Option AObj := fun i => if i = G.internal_strconv_uint64pow10 then some (.fix (.cells (zol.map fun z => Value.int .u64 z).toArray t1 z1)) else if i = G.strings_asciiSpace then some (.fix (.cells (zje.map fun z => Value.int .u8 z).toArray t2 z2))
    else if i = G.bits_deBruijn64tab then some (.fix (.cells (bru64.map fun z => Value.int .u8 z).toArray t3 z3)) else if i = G.strconv_ErrRange then some (.fix (.cells #[.iface T.p_errors_errorString p4] t4 z4)) else if i = G.strconv_ErrSyntax then some (.fix (.cells #[.iface T.p_errors_errorString p5] t5 z5)) else none
  obtain ⟨r1, r2⟩ := relStart (P := PP) hsz (F := Fx) (fun i o hi => by
    have hi : (if i = G.internal_strconv_uint64pow10 then _ else if i = G.strings_asciiSpace then _ else if i = G.bits_deBruijn64tab then _ else if i = G.strconv_ErrRange then _ else if i = G.strconv_ErrSyntax then _ else none) = some o := hi
    split at hi
    · rename_i q; subst q; cases hi; exact .inl ⟨_, rfl, e1⟩
    · split at hi
      · rename_i q; subst q; cases hi; exact .inl ⟨_, rfl, e2⟩
      · split at hi
        · rename_i q; subst q; cases hi; exact .inl ⟨_, rfl, e3⟩
        · split at hi
          · rename_i q; subst q; cases hi; exact .inl ⟨_, rfl, e4⟩
          · split at hi
            · rename_i q; subst q; cases hi; exact .inl ⟨_, rfl, e5⟩
            · cases hi)
  have g : ∀ i, i < PP.globals.size → (HS PP Fx).get i = Fx i := fun i hi => if_pos hi
  have lt : ∀ i, i < 11 → i < PP.globals.size := fun i hi => by rw [zfp]; exact hi
  refine ⟨_, r1, r2, ⟨Nat.le_refl _, ⟨⟨_, t1, z1, (g _ (lt _ (by decide))).trans rfl, ?_⟩, ⟨_, t2, z2, (g _ (lt _ (by decide))).trans rfl, ?_⟩, ⟨_, t3, z3, (g _ (lt _ (by decide))).trans rfl, ?_⟩⟩, ⟨_, t5, z5, (g _ (lt _ (by decide))).trans rfl, rfl⟩, ⟨_, t4, z4, (g _ (lt _ (by decide))).trans rfl, rfl⟩⟩⟩
  · kernel_rfl
  · kernel_rfl
  · kernel_rfl
noncomputable def zcN (os : Os) : World :=
  let N := (World.settled PP os).heap.size
  let w0 := World.holding PP os ⟨#[.cells (Go.Lib.whiteT.map fun (z : Nat) => Value.int .u16 (z : Int)).toArray T.unicode_Range16, .cells #[.slice (some ⟨N, 0, none⟩) 7 7, .slice none 0 0, .int .i64 2] T.unicode_RangeTable,
    .cells #[.string ⟨#[105, 110, 118, 97, 108, 105, 100, 32, 115, 121, 110, 116, 97, 120]⟩] T.errors_errorString, .cells #[.string ⟨#[118, 97, 108, 117, 101, 32, 111, 117, 116, 32, 111, 102, 32, 114, 97, 110, 103, 101]⟩] T.errors_errorString], #[], []⟩
  let put (h : Array Obj) (g : Nat) (cs : Array Value) : Array Obj := h.modify g fun
    | .cells _ t frozen => .cells cs t frozen
    | o => o
  let h1 := put w0.heap G.strings_asciiSpace (zje.map fun z => Value.int .u8 z).toArray
  let h2 := put h1 G.internal_strconv_uint64pow10 (zol.map fun z => Value.int .u64 z).toArray
  let h3 := put h2 G.bits_deBruijn64tab (bru64.map fun z => Value.int .u8 z).toArray
  let h4 := put h3 G.bits_deBruijn32tab (Go.Lib.deBruijn32tab.map fun (z : Nat) => Value.int .u8 (z : Int)).toArray
  let h5 := put h4 G.unicode_White_Space #[.pointer (some ⟨N + 1, 0, none⟩)]
  let h6 := put h5 G.strconv_ErrSyntax #[.iface T.p_errors_errorString (.pointer (some ⟨N + 2, 0, none⟩))]
  let h7 := put h6 G.strconv_ErrRange #[.iface T.p_errors_errorString (.pointer (some ⟨N + 3, 0, none⟩))]
  let h8 := put h7 G.utf8_first (Go.Lib.firstTab.map fun z => Value.int .u8 z).toArray
  let h9 := put h8 G.utf8_acceptRanges (((List.range 16).flatMap fun i => [Value.int .u8 (Go.Lib.accLo i), Value.int .u8 (Go.Lib.accHi i)]).toArray)
  { w0 with heap := h9 }
set_option maxRecDepth 1000000
noncomputable abbrev nS : Nat := (World.settled PP default).heap.size
theorem lp1 (os : Os) (args : Array Value) : LaidIn PP ((zcN os).forCall (fun _ _ => 0) ⟨#[], args, []⟩).memory (zi9.take 3) [G.bits_deBruijn32tab, G.bits_deBruijn64tab, G.internal_strconv_uint64pow10] :=
  LaidIn.of_run _ 8 (by kernel_rfl) (by kernel_rfl) (by kernel_rfl) (by kernel_rfl)
theorem lp2 (os : Os) (args : Array Value) : LaidIn PP ((zcN os).forCall (fun _ _ => 0) ⟨#[], args, []⟩).memory ((zi9.drop 3).take 4) [G.utf8_acceptRanges, G.strconv_ErrRange, G.strconv_ErrSyntax, G.unicode_White_Space, nS, nS + 1, nS + 2, nS + 3] :=
  LaidIn.of_run _ 8 (by kernel_rfl) (by kernel_rfl) (by kernel_rfl) (by kernel_rfl)
theorem lp3 (os : Os) (args : Array Value) : LaidIn PP ((zcN os).forCall (fun _ _ => 0) ⟨#[], args, []⟩).memory ((zi9.drop 7).take 1) [G.strings_asciiSpace] :=
  LaidIn.of_run _ 8 (by kernel_rfl) (by kernel_rfl) (by kernel_rfl) (by kernel_rfl)
theorem lp4 (os : Os) (args : Array Value) : LaidIn PP ((zcN os).forCall (fun _ _ => 0) ⟨#[], args, []⟩).memory (zi9.drop 8) [G.utf8_first] :=
  LaidIn.of_run _ 8 (by kernel_rfl) (by kernel_rfl) (by kernel_rfl) (by kernel_rfl)
theorem laid_all (os : Os) (args : Array Value) : laidMet PP zi9 ((zcN os).forCall (fun _ _ => 0) ⟨#[], args, []⟩).memory :=
  ((((lp1 os args).append (lp2 os args) (by kernel_rfl)).append (lp3 os args) (by kernel_rfl)).append (lp4 os args) (by kernel_rfl)).met
end Go.AM
namespace Go.AM
open Go
theorem zlv (b : Nat) (c : UInt8) (r : List UInt8) (v : Nat) : numL b (c :: r) v = if digV c.toNat b < 0 then none else if v > (18446744073709551615 - (digV c.toNat b).toNat) / b then none else numL b r (v * b + (digV c.toNat b).toNat) := by
  conv => lhs; unfold numL
theorem znH (b : Nat) : ∀ (l m : List UInt8) (v : Nat), numL b (l ++ m) v = match numL b l v with | none => none | some x => numL b m x
  | [], m, v => rfl
  | c :: l, m, v => by
    rw [List.cons_append, zlv, zlv]
    split
    · rfl
    · split
      · rfl
      · exact znH b l m (v * b + (digV c.toNat b).toNat)
theorem zlR : ((List.range 16).all fun d => (decide (d < 10 → digV (dig d).toNat 10 = (d : Int))) && decide (digV (dig d).toNat 16 = (d : Int))) = true := by decide +kernel
theorem digV_dig {b d : Nat} (hb : b = 10 ∨ b = 16) (hd : d < b) : digV (dig d).toNat b = (d : Int) := by
  have h := List.all_eq_true.1 zlR d (List.mem_range.2 (by omega))
  rw [Bool.and_eq_true, decide_eq_true_eq, decide_eq_true_eq] at h
  rcases hb with rfl | rfl
  · exact h.1 hd
  · exact h.2
theorem znF {b d v : Nat} (hb : b = 10 ∨ b = 16) (hd : d < b) (hv : v * b + d ≤ 18446744073709551615) : numL b [dig d] v = some (v * b + d) := by
  unfold numL
  rw [digV_dig hb hd]
  have hle : v ≤ (18446744073709551615 - d) / b := (Nat.le_div_iff_mul_le (by omega)).2 (by omega)
  rw [if_neg (by omega), if_neg (by simp only [Int.toNat_natCast]; omega), Int.toNat_natCast]
  rfl
theorem zko {b : Nat} (hb : b = 10 ∨ b = 16) : ∀ x : Nat, x ≤ 18446744073709551615 → numL b (dgt b x) 0 = some x := by
  intro x
  induction x using Nat.strongRecOn with
  | _ x ih =>
    intro hx
    by_cases h : x < b
    · rw [zfB h, znF hb h (by omega)]
      congr 1; omega
    · have hlt : x / b < x := Nat.div_lt_self (by omega) (by omega)
      have hdm : b * (x / b) + x % b = x := Nat.div_add_mod x b
      rw [zfC (by omega) (by omega), znH, ih _ hlt (by omega)]
      dsimp only
      rw [znF hb (Nat.mod_lt _ (by omega)) (by rw [Nat.mul_comm]; omega)]
      congr 1
      rw [Nat.mul_comm]; exact hdm
theorem dgt_ne {b : Nat} (hb : 2 ≤ b) (x : Nat) : dgt b x ≠ [] := by
  by_cases h : x < b
  · rw [zfB h]; simp
  · rw [zfC hb (by omega)]; simp
theorem dig_all : ((List.range 16).all fun d => decide (dig d ≠ 10 ∧ dig d ≠ 32 ∧ dig d ≠ 120)) = true := by decide +kernel
theorem ziL {b : Nat} (hb : 2 ≤ b) (hb16 : b ≤ 16) : ∀ x : Nat, ∀ c ∈ dgt b x, c ≠ 10 ∧ c ≠ 32 ∧ c ≠ 120 := by
  intro x
  induction x using Nat.strongRecOn with
  | _ x ih =>
    intro c hc
    by_cases h : x < b
    · rw [zfB h, List.mem_singleton] at hc
      rw [hc]
      exact of_decide_eq_true (List.all_eq_true.1 dig_all x (List.mem_range.2 (by omega)))
    · rw [zfC hb (by omega)] at hc
      rcases List.mem_append.1 hc with q | q
      · exact ih _ (Nat.div_lt_self (by omega) (by omega)) c q
      · rw [List.mem_singleton] at q
        rw [q]
        exact of_decide_eq_true (List.all_eq_true.1 dig_all _ (List.mem_range.2 (by have := Nat.mod_lt x (show b > 0 by omega); omega)))
theorem znE {x : Nat} (hx : x ≤ 18446744073709551615) : numP (dgt 10 x) = some x := by
  have hne := dgt_ne (b := 10) (by decide) x
  have hcl := ziL (b := 10) (by decide) (by decide) x
  unfold numP
  rw [if_neg (fun h => (hcl 120 (List.mem_of_getElem? h.2)).2.2 rfl), if_neg (fun h => hne (List.length_eq_zero_iff.1 h)), zko (.inl rfl) x hx]
theorem numP_numT {x : Nat} (hx : x ≤ 18446744073709551615) : numP (numT x) = some x := by
  unfold numT
  split
  · exact znE hx
  · have hne := dgt_ne (b := 16) (by decide) x
    unfold numP
    rw [if_pos ⟨rfl, rfl⟩, if_neg (fun h => hne (List.length_eq_zero_iff.1 (by simpa using h)))]
    exact zko (.inr rfl) x hx
theorem dec_dgt : ∀ x : Nat, Go.Lib.decDigits x = dgt 10 x := by
  intro x
  induction x using Nat.strongRecOn with
  | _ x ih =>
    rw [Go.Lib.decDigits]
    by_cases h : x < 10
    · rw [dif_pos h, zfB h]
      unfold dig
      rw [if_pos h]
    · rw [dif_neg h, zfC (by decide) (by omega), ih (x / 10) (by omega)]
      unfold dig
      rw [if_pos (Nat.mod_lt _ (by decide))]
theorem zkt (x : Nat) : itoa (x : Int) = dgt 10 x := by
  show (if (x : Int) < 0 then _ else Go.Lib.decDigits (x : Int).toNat) = _
  rw [if_neg (by omega), Int.toNat_natCast, dec_dgt]
theorem zgG {x : Nat} (hx : x < 2147483648) : zbj (itoa (x : Int)) = (x : Int) := by
  rw [zcI, zkt, znE (by omega)]
  exact if_pos hx
end Go.AM
namespace Go.AM
open Go
def wrd : List UInt8 → Option (List UInt8) → List (List UInt8)
  | [], none => []
  | [], some c => [c]
  | b :: r, st => if b = 32 then (match st with
      | none => wrd r none
      | some c => c :: wrd r none) else wrd r (some (st.getD [] ++ [b]))
theorem zjX (l : List UInt8) : ∀ (r : List UInt8) (i : Nat) (st : Option Nat), l.drop i = r → i ≤ l.length → (∀ a, st = some a → a ≤ i) → (spn r i st).map (zc0 l) = wrd r (st.map fun a => (l.take i).drop a)
  | [], i, none, hr, hi, hs => rfl
  | [], i, some a, hr, hi, hs => rfl
  | b :: r, i, st, hr, hi, hs => by
    have hlt : i < l.length := by
      have := congrArg List.length hr
      rw [List.length_drop] at this
      simp at this
      omega
    have hr2 : l.drop (i + 1) = r := by rw [← List.drop_drop, hr]; rfl
    have hget : l[i]? = some b := by
      have := congrArg (fun x => x[0]?) hr
      simpa using this
    unfold wrd
    by_cases hb : b = 32
    · have hb' : (b == 32) = true := by rw [hb]; rfl
      rw [if_pos hb]
      cases st with
      | none =>
        rw [zhw hb', zjX l r (i + 1) none hr2 hlt fun a ha => by cases ha]
        rfl
      | some a =>
        rw [zj3 hb', List.map_cons, zjX l r (i + 1) none hr2 hlt fun a ha => by cases ha]
        rfl
    · have hb' : (b == 32) = false := by rw [beq_eq_false_iff_ne]; exact hb
      rw [if_neg hb, spn_miss hb', zjX l r (i + 1) (some (st.getD i)) hr2 hlt fun a ha => by
        cases ha
        cases st with
        | none => show i ≤ i + 1; omega
        | some a => have := hs a rfl; show a ≤ i + 1; omega]
      congr 1
      have htk : l.take (i + 1) = l.take i ++ [b] := by rw [List.take_add_one, hget]; rfl
      cases st with
      | none =>
        show some ((l.take (i + 1)).drop i) = some ([] ++ [b])
        rw [htk, List.drop_append_of_le_length (by rw [List.length_take]; omega), List.drop_of_length_le (by rw [List.length_take]; omega)]
      | some a =>
        have := hs a rfl
        show some ((l.take (i + 1)).drop a) = some ((l.take i).drop a ++ [b])
        rw [htk, List.drop_append_of_le_length (by rw [List.length_take]; omega)]
theorem zn7 (l : List UInt8) : zbJ l = wrd l none := zjX l l 0 none rfl (Nat.zero_le _) fun a ha => by cases ha
theorem zm0 : ∀ (w r : List UInt8) (c : List UInt8), (∀ b ∈ w, b ≠ 32) → wrd (w ++ r) (some c) = wrd r (some (c ++ w))
  | [], r, c, h => by rw [List.append_nil]; rfl
  | b :: w, r, c, h => by
    rw [List.cons_append]
    have : wrd (b :: (w ++ r)) (some c) = wrd (w ++ r) (some (c ++ [b])) := by
      conv => lhs; unfold wrd
      rw [if_neg (h b (List.mem_cons_self ..))]; rfl
    rw [this, zm0 w r _ fun b hb => h b (List.mem_cons_of_mem _ hb), List.append_assoc]; rfl
theorem zkK (w r : List UInt8) (h : ∀ b ∈ w, b ≠ 32) (h0 : w ≠ []) : wrd (w ++ r) none = wrd r (some w) := by
  cases w with
  | nil => exact absurd rfl h0
  | cons b w =>
    rw [List.cons_append]
    have : wrd (b :: (w ++ r)) none = wrd (w ++ r) (some [b]) := by
      conv => lhs; unfold wrd
      rw [if_neg (h b (List.mem_cons_self ..))]; rfl
    rw [this, zm0 w r _ fun b hb => h b (List.mem_cons_of_mem _ hb)]; rfl
def ze9 (w : List UInt8) : Prop := w ≠ [] ∧ ∀ b ∈ w, b ≠ 32 ∧ b ≠ 10
theorem zm1 : ∀ (ws : List (List UInt8)) (c : List UInt8), (∀ w ∈ ws, ze9 w) → wrd (ws.flatMap sp) (some c) = c :: ws
  | [], c, h => rfl
  | w :: ws, c, h => by
    have hw := h w (List.mem_cons_self ..)
    rw [List.flatMap_cons]
    unfold sp
    rw [List.cons_append]
    have : wrd (32 :: (w ++ ws.flatMap fun l => 32 :: l)) (some c) = c :: wrd (w ++ ws.flatMap fun l => 32 :: l) none := by
      conv => lhs; unfold wrd
      rw [if_pos rfl]
    rw [this, zkK w _ (fun b hb => (hw.2 b hb).1) hw.1]
    have ih := zm1 ws w fun x hx => h x (List.mem_cons_of_mem _ hx)
    unfold sp at ih
    rw [ih]
theorem zjc (w : List UInt8) (ws : List (List UInt8)) (h0 : ze9 w) (h : ∀ x ∈ ws, ze9 x) : zbJ (w ++ ws.flatMap sp) = w :: ws := by
  rw [zn7, zkK w _ (fun b hb => (h0.2 b hb).1) h0.1, zm1 ws w h]
theorem zjI (w : List UInt8) (ws : List (List UInt8)) (h0 : ze9 w) (h : ∀ x ∈ ws, ze9 x) : 10 ∉ w ++ ws.flatMap sp := fun hm => by
  rcases List.mem_append.1 hm with q | q
  · exact (h0.2 10 q).2 rfl
  · obtain ⟨x, hx, hq⟩ := List.mem_flatMap.1 q
    rcases List.mem_cons.1 hq with e | e
    · cases e
    · exact ((h x hx).2 10 e).2 rfl
theorem zhQ {b : Nat} (hb : 2 ≤ b) (hb16 : b ≤ 16) (x : Nat) : ze9 (dgt b x) := ⟨dgt_ne hb x, fun c hc => ⟨(ziL hb hb16 x c hc).2.1, (ziL hb hb16 x c hc).1⟩⟩
theorem zfb (x : Nat) : ze9 (itoa (x : Int)) := by rw [zkt]; exact zhQ (by decide) (by decide) x
theorem zn8 (x : Nat) : ze9 (numT x) := by
  unfold numT
  split
  · exact zhQ (by decide) (by decide) x
  · refine ⟨by simp, fun c hc => ?_⟩
    rcases List.mem_append.1 hc with q | q
    · have : c = 48 ∨ c = 120 := by simpa using q
      rcases this with rfl | rfl <;> decide
    · exact (zhQ (b := 16) (by decide) (by decide) x).2 c q
theorem zkN : ((List.range 34).all fun op => decide (op = 0) || (decide (word zaH (op : Int) ≠ []) && ((word zaH (op : Int)).all fun b => decide (b ≠ 32 ∧ b ≠ 10)) && decide (opF (word zaH (op : Int)) = some op))) = true := by decide +kernel
theorem zm3 {op : Nat} (h1 : 1 ≤ op) (h2 : op ≤ 33) : ze9 (word zaH (op : Int)) ∧ opF (word zaH (op : Int)) = some op := by
  have := List.all_eq_true.1 zkN op (List.mem_range.2 (by omega))
  rw [Bool.or_eq_true, decide_eq_true_eq, Bool.and_eq_true, Bool.and_eq_true, decide_eq_true_eq, decide_eq_true_eq] at this
  rcases this with q | ⟨⟨q1, q2⟩, q3⟩
  · omega
  · exact ⟨⟨q1, fun b hb => of_decide_eq_true (List.all_eq_true.1 q2 b hb)⟩, q3⟩
theorem zlu : ((List.range 256).all fun n => decide ((zem (n : Int) || zlQ (n : Int)) = true → n ≠ 32 ∧ n ≠ 10)) = true := by decide +kernel
theorem zn9 {s : ByteArray} (h : zdQ s = true) : ze9 s.data.toList := by
  unfold zdQ at h
  simp only [Bool.and_eq_true, decide_eq_true_eq] at h
  obtain ⟨⟨⟨h1, h2⟩, h3⟩, h4⟩ := h
  have hcl : ∀ b : UInt8, (zem (b.toNat : Int) || zlQ (b.toNat : Int)) = true → b ≠ 32 ∧ b ≠ 10 := fun b hb => by
    have := of_decide_eq_true (List.all_eq_true.1 zlu b.toNat (List.mem_range.2 (UInt8.toNat_lt b))) hb
    exact ⟨fun e => this.1 (by rw [e]; rfl), fun e => this.2 (by rw [e]; rfl)⟩
  cases hl : s.data.toList with
  | nil =>
    rw [zkS, hl] at h1
    simp at h1
  | cons b r =>
    rw [hl] at h3 h4
    refine ⟨by simp, fun c hc => ?_⟩
    rcases List.mem_cons.1 hc with q | q
    · have h3 : zem (b.toNat : Int) = true := by simpa using h3
      rw [q]
      exact hcl b (by rw [h3]; rfl)
    · have hok := List.all_eq_true.1 h4 c (by simpa using q)
      exact hcl c (by unfold zio at hok; exact hok)
end Go.AM
namespace Go.AM
open Go
def zfD (L : List Nd) (out : List Nat) : Prop := ∀ (i : Nat) t, out[i]? = some t → ∀ c ∈ kids L t, c ∈ out.take i
def Grew (L : List Nd) (l out out' : List Nat) : Prop := ∃ new, out' = out ++ new ∧ ∀ (i : Nat) x, new[i]? = some x → x ∈ l ∨ ∃ (j : Nat) (u : Nat), i < j ∧ new[j]? = some u ∧ x ∈ kids L u
theorem zfD.app {L : List Nd} {out : List Nat} {t : Nat} (h : zfD L out) (hk : ∀ c ∈ kids L t, c ∈ out) : zfD L (out ++ [t]) := by
  intro i x hx c hc
  rw [List.getElem?_append] at hx
  split at hx
  · rename_i lt
    rw [List.take_append_of_le_length (by omega)]
    exact h i x hx c hc
  · have : i = out.length := by
      have := (List.getElem?_eq_some_iff.1 hx).1
      simp at this; omega
    subst this
    simp at hx
    subst hx
    rw [List.take_left' rfl]
    exact hk c hc
theorem Grew.refl (L : List Nd) (l out : List Nat) : Grew L l out out := ⟨[], by simp, fun i x h => by cases h⟩
theorem Grew.cons {L : List Nd} {c : Nat} {l out o1 o2 : List Nat} (h : Grew L [c] out o1) (k : Grew L l o1 o2) : Grew L (c :: l) out o2 := by
  obtain ⟨n1, e1, h1⟩ := h
  obtain ⟨n2, e2, h2⟩ := k
  refine ⟨n1 ++ n2, by rw [e2, e1, List.append_assoc], fun i x hx => ?_⟩
  rw [List.getElem?_append] at hx
  split at hx
  · rename_i lt
    rcases h1 i x hx with q | ⟨j, u, q1, q2, q3⟩
    · rw [List.mem_singleton] at q; subst q; exact .inl (List.mem_cons_self ..)
    · have := (List.getElem?_eq_some_iff.1 q2).1
      exact .inr ⟨j, u, q1, by rw [List.getElem?_append_left this]; exact q2, q3⟩
  · rename_i ge
    rcases h2 _ x hx with q | ⟨j, u, q1, q2, q3⟩
    · exact .inl (List.mem_cons_of_mem _ q)
    · exact .inr ⟨n1.length + j, u, by omega, by rw [List.getElem?_append_right (by omega), Nat.add_sub_cancel_left]; exact q2, q3⟩
theorem post_good {L : List Nd} (h : Dag L) : ∀ (t : Nat), 1 ≤ t → ∀ (out : List Nat), zfD L out → zfD L (post L t out) ∧ Grew L [t] out (post L t out) := by
  intro t
  induction t using Nat.strongRecOn with
  | _ t ih =>
    intro ht out hc
    rw [zfN h ht]
    split
    · exact ⟨hc, Grew.refl ..⟩
    · have key : ∀ (l : List Nat) (o : List Nat), (∀ c ∈ l, c ∈ kids L t) → zfD L o → zfD L (posts L l o) ∧ Grew L l o (posts L l o) := by
        intro l
        induction l with
        | nil => exact fun o _ h => ⟨h, Grew.refl ..⟩
        | cons c l ihl =>
          intro o hl ho
          have hcc := zew h ht (hl c (List.mem_cons_self ..))
          obtain ⟨a1, a2⟩ := ih c hcc.2 hcc.1 o ho
          obtain ⟨b1, b2⟩ := ihl _ (fun c hc => hl c (List.mem_cons_of_mem _ hc)) a1
          exact ⟨b1, a2.cons b2⟩
      obtain ⟨k1, new, e, k2⟩ := key (kids L t) out (fun c hc => hc) hc
      have hm := (zeT h (N := t) (kids L t) out fun c hc => by have := zew h ht hc; omega).2.1
      refine ⟨k1.app hm, new ++ [t], by rw [e, List.append_assoc], fun i x hx => ?_⟩
      rw [List.getElem?_append] at hx
      split at hx
      · rename_i lt
        rcases k2 i x hx with q | ⟨j, u, q1, q2, q3⟩
        · exact .inr ⟨new.length, t, lt, by rw [List.getElem?_append_right (Nat.le_refl _), Nat.sub_self]; rfl, q⟩
        · have := (List.getElem?_eq_some_iff.1 q2).1
          exact .inr ⟨j, u, q1, by rw [List.getElem?_append_left this]; exact q2, q3⟩
      · rename_i ge
        have := List.mem_of_getElem? hx
        exact .inl this
theorem zjm {L : List Nd} (h : Dag L) : ∀ (l o : List Nat), (∀ c ∈ l, 1 ≤ c) → zfD L o → zfD L (posts L l o) ∧ Grew L l o (posts L l o)
  | [], o, _, ho => ⟨ho, Grew.refl ..⟩
  | c :: l, o, hl, ho => by
    obtain ⟨a1, a2⟩ := post_good h c (hl c (List.mem_cons_self ..)) o ho
    obtain ⟨b1, b2⟩ := zjm h l _ (fun c hc => hl c (List.mem_cons_of_mem _ hc)) a1
    exact ⟨b1, a2.cons b2⟩
theorem zox {L : List Nd} (h : Dag L) {i : Nat} {n : Nd} (hn : L[i]? = some n) : (∀ c ∈ zb4 n, (c : Int) = n.a ∨ (c : Int) = n.b ∨ (c : Int) = n.c) ∧ (∀ x : Int, x = n.a ∨ x = n.b ∨ x = n.c → x ≠ 0 → ∃ c ∈ zb4 n, (c : Int) = x) := by
  have ha := h.a i n hn
  have hb := h.b i n hn
  have hc := h.c i n hn
  unfold zb4
  rcases zbo n.op with q | q | q | q <;> rw [q]
  · refine ⟨fun c hcm => by simp at hcm, fun x hx h0 => by omega⟩
  · refine ⟨fun c hcm => ?_, fun x hx h0 => ?_⟩
    · simp at hcm; omega
    · exact ⟨n.a.toNat, by simp, by omega⟩
  · refine ⟨fun c hcm => ?_, fun x hx h0 => ?_⟩
    · simp at hcm; omega
    · rcases hx with e | e | e
      · exact ⟨n.a.toNat, by simp, by omega⟩
      · exact ⟨n.b.toNat, by simp, by omega⟩
      · omega
  · refine ⟨fun c hcm => ?_, fun x hx h0 => ?_⟩
    · simp at hcm; omega
    · rcases hx with e | e | e
      · exact ⟨n.a.toNat, by simp, by omega⟩
      · exact ⟨n.b.toNat, by simp, by omega⟩
      · exact ⟨n.c.toNat, by simp, by omega⟩
end Go.AM
namespace Go.AM
open Go
structure zeq (L : List Nd) (K : List (ByteArray × Int)) : Prop where
  dag : Dag L
  rt : ∀ m ∈ L, zhu L K m
  num : ∀ m ∈ L, zkI m
  nod : ∀ (i j : Nat) m, L[i]? = some m → L[j]? = some m → i = j
  kn : ∀ m ∈ L, m.op = 4 → ∃ j, zaS m.name 0 K = some (j, m.w)
theorem zeq.nil : zeq [] [] := ⟨Dag.nil, fun m h => (by cases h), fun m h => (by cases h), fun i j m h => (by cases h), fun m h => by cases h⟩
theorem zjA {s : ByteArray} (M : List (ByteArray × Int)) : ∀ (K : List (ByteArray × Int)) (i : Nat) (q : Nat × Int), zaS s i K = some q → zaS s i (K ++ M) = some q
  | [], i, q, h => by cases h
  | (u, v) :: r, i, q, h => by
    unfold zaS at h
    show zaS s i ((u, v) :: (r ++ M)) = _
    unfold zaS
    split at h
    · rename_i e; rw [if_pos e]; exact h
    · rename_i e; rw [if_neg e]; exact zjA M r (i + 1) q h
theorem zjB {s t : ByteArray} {w : Int} : ∀ (K : List (ByteArray × Int)) (i j : Nat) (v : Int), zaS t i (K ++ [(s, w)]) = some (j, v) → (∃ j', zaS t i K = some (j', v)) ∨ (t = s ∧ v = w)
  | [], i, j, v, h => by
    have h : zaS t i [(s, w)] = some (j, v) := h
    unfold zaS at h
    split at h
    · rename_i e
      cases h
      exact .inr ⟨(ba_eq t s).1 e, rfl⟩
    · cases h
  | (u, x) :: r, i, j, v, h => by
    have h : zaS t i ((u, x) :: (r ++ [(s, w)])) = some (j, v) := h
    unfold zaS at h ⊢
    split at h
    · rename_i e; cases h; rw [if_pos e]; exact .inl ⟨_, rfl⟩
    · rename_i e; rw [if_neg e]; exact zjB r (i + 1) j v h
theorem zmF {s t : ByteArray} {w : Int} {K : List (ByteArray × Int)} {q : Nat × Int} (h : zaS t 0 K = some q) : zaS t 0 (zbK s w K) = some q := by
  unfold zbK
  split
  · exact h
  · exact zjA _ K 0 q h
theorem zlA {s : ByteArray} {w : Int} {K : List (ByteArray × Int)} (h : ∀ j v, zaS s 0 K = some (j, v) → v = w) : ∃ j, zaS s 0 (zbK s w K) = some (j, w) := by
  unfold zbK
  cases hq : zaS s 0 K with
  | some q => exact ⟨q.1, by rw [← h q.1 q.2 hq]; exact hq⟩
  | none => exact ⟨_, zgT s s w K 0 hq⟩
theorem zhL {K : List (ByteArray × Int)} {n : Nd} (h : zbh K n = false) : zdQ n.name = true ∧ ∀ j v, zaS n.name 0 K = some (j, v) → v = n.w := by
  unfold zbh at h
  rw [Bool.or_eq_false_iff] at h
  refine ⟨by simpa using h.1, fun j v hv => ?_⟩
  have h2 := h.2
  rw [hv] at h2
  simpa using h2
theorem bad_of {K : List (ByteArray × Int)} {n : Nd} (h1 : zdQ n.name = true) (h2 : ∀ j v, zaS n.name 0 K = some (j, v) → v = n.w) : zbh K n = false := by
  unfold zbh
  rw [h1]
  cases hq : zaS n.name 0 K with
  | none => rfl
  | some q => have := h2 q.1 q.2 hq; simp [this]
theorem zhu.free {L : List Nd} {K : List (ByteArray × Int)} {n : Nd} (h : zhu L K n) (h4 : n.op = 4) : zbh K n = false := by
  cases q : zbh K n with
  | false => rfl
  | true => exact absurd ⟨h4, q⟩ h.nm
theorem mk_goodS {lim : Int} {L : List Nd} {K : List (ByteArray × Int)} {n : Nd} (hn : zkI n) (h : zeq L K) : zeq (mkR lim L K n).2.2.1 (mkR lim L K n).2.2.2 := by
  by_cases h0 : (mkR lim L K n).2.1 = 0
  · have hdag := mk_dag (lim := lim) (K := K) (n := n) h.dag
    obtain ⟨hr, ⟨q, hq, e⟩ | ⟨hq, _, e⟩⟩ := zjD h0
    · rw [e]; exact h
    · rw [e] at hdag ⊢
      have hself : n.op = 4 → ∃ j, zaS n.name 0 (zbK n.name n.w K) = some (j, n.w) := fun h4 => zlA (zhL (hr.free h4)).2
      have hpre : ∀ (t : ByteArray) q, zaS t 0 K = some q → zaS t 0 (if n.op = 4 then zbK n.name n.w K else K) = some q := fun t q hq => by
        split
        · exact zmF hq
        · exact hq
      refine ⟨hdag, fun m hm => ?_, fun m hm => ?_, fun i j m hi hj => ?_, fun m hm h4 => ?_⟩
      · rcases List.mem_append.1 hm with q | q
        · refine (h.rt m q).app fun h4 => ?_
          obtain ⟨j, hj⟩ := h.kn m q h4
          refine bad_of (zhL ((h.rt m q).free h4)).1 fun j' v hv => ?_
          rw [hpre _ _ hj] at hv
          cases hv; rfl
        · rw [List.mem_singleton] at q
          subst q
          refine hr.app fun h4 => ?_
          rw [if_pos h4]
          exact zmV (hr.free h4)
      · rcases List.mem_append.1 hm with q | q
        · exact h.num m q
        · rw [List.mem_singleton] at q; rw [q]; exact hn
      · have hno := zdL n L 0 hq
        rcases ziX hi with a | ⟨a1, a2⟩ <;> rcases ziX hj with b | ⟨b1, b2⟩
        · exact h.nod i j m a b
        · subst b2; exact absurd a (hno i)
        · subst a2; exact absurd b (hno j)
        · rw [a1, b1]
      · rcases List.mem_append.1 hm with q | q
        · obtain ⟨j, hj⟩ := h.kn m q h4
          exact ⟨j, hpre _ _ hj⟩
        · rw [List.mem_singleton] at q
          subst q
          rw [if_pos h4]; exact hself h4
  · rw [zot h0]; exact h
def ixO (O : List Nat) (t : Nat) : Nat := O.idxOf t + 1
def rpI (O : List Nat) (x : Int) : Int := if x ≤ 0 then 0 else (ixO O x.toNat : Int)
def renN (O : List Nat) (n : Nd) : Nd := { n with a := rpI O n.a, b := rpI O n.b, c := rpI O n.c }
def renL (L : List Nd) (O : List Nat) : List Nd := O.map fun t => renN O (zaU L t)
theorem ix_at {O : List Nat} (hn : O.Nodup) {i t : Nat} (h : O[i]? = some t) : ixO O t = i + 1 := by
  unfold ixO
  have hlt := (List.getElem?_eq_some_iff.1 h).1
  have he : O[i] = t := (List.getElem?_eq_some_iff.1 h).2
  rw [← he, hn.idxOf_getElem]
theorem ix_inj {O : List Nat} {t u : Nat} (ht : t ∈ O) (h : ixO O t = ixO O u) : t = u := by
  unfold ixO at h
  have h : O.idxOf t = O.idxOf u := by omega
  have h1 := List.idxOf_lt_length_of_mem ht
  have e1 : O[O.idxOf t] = t := List.getElem_idxOf h1
  have h2 : O.idxOf u < O.length := by omega
  have e2 : O[O.idxOf u] = u := List.getElem_idxOf h2
  rw [← e1, ← e2]
  congr 1
structure Ord (L : List Nd) (O : List Nat) : Prop where
  nd : O.Nodup
  bd : ∀ t ∈ O, 1 ≤ t ∧ t ≤ L.length
  cl : zfD L O
theorem zby {L : List Nd} {t : Nat} (h : 1 ≤ t ∧ t ≤ L.length) : L[t - 1]? = some (zaU L t) := by
  unfold zaU
  rw [List.getElem?_eq_getElem (by omega)]; rfl
theorem Ord.kid {L : List Nd} {O : List Nat} (h : Ord L O) (hd : Dag L) {i t : Nat} (ht : O[i]? = some t) {x : Int} (hx : x = (zaU L t).a ∨ x = (zaU L t).b ∨ x = (zaU L t).c) : x = 0 ∨ ∃ c : Nat, x = (c : Int) ∧ 1 ≤ c ∧ c ∈ O.take i := by
  have hb := h.bd t (List.mem_of_getElem? ht)
  have hn := zby hb
  by_cases h0 : x = 0
  · exact .inl h0
  · obtain ⟨c, c1, c2⟩ := (zox hd hn).2 x hx h0
    have hk : c ∈ kids L t := by unfold kids; rw [hn]; exact c1
    exact .inr ⟨c, c2.symm, (zew hd hb.1 hk).1, h.cl i t ht c hk⟩
theorem zgc {L : List Nd} {O : List Nat} (h : Ord L O) {i c : Nat} (hc : c ∈ O.take i) (h1 : 1 ≤ c) : rpI O (c : Int) = (ixO O c : Int) ∧ 1 ≤ ixO O c ∧ ixO O c ≤ i ∧ O[ixO O c - 1]? = some c := by
  obtain ⟨j, hj⟩ := List.getElem?_of_mem hc
  have hji : j < i := by
    have := (List.getElem?_eq_some_iff.1 hj).1
    rw [List.length_take] at this; omega
  rw [List.getElem?_take, if_pos hji] at hj
  have e := ix_at h.nd hj
  refine ⟨?_, by omega, by omega, by rw [e]; exact hj⟩
  unfold rpI
  rw [if_neg (by omega), Int.toNat_natCast]
theorem zkd {L : List Nd} {O : List Nat} {i t : Nat} (h : O[i]? = some t) : (renL L O)[i]? = some (renN O (zaU L t)) := by
  unfold renL
  rw [List.getElem?_map, h]; rfl
theorem zgM (L : List Nd) (O : List Nat) : (renL L O).length = O.length := by unfold renL; rw [List.length_map]
theorem wT_ren {L : List Nd} {O : List Nat} (h : Ord L O) {i : Nat} (hi : i ≤ O.length) {x : Int} (hx : x = 0 ∨ ∃ c : Nat, x = (c : Int) ∧ 1 ≤ c ∧ c ∈ O.take i) (d : Int) : wT ((renL L O).take i) d (rpI O x) = wT L d x := by
  rcases hx with rfl | ⟨c, rfl, h1, hc⟩
  · rfl
  · obtain ⟨e1, e2, e3, e4⟩ := zgc h hc h1
    have hb := h.bd c (List.mem_of_mem_take hc)
    have hlen : ((renL L O).take i).length = i := by rw [List.length_take, zgM]; omega
    rw [e1]
    unfold wT
    rw [zbD.2 ⟨by omega, by omega⟩, zbD.2 ⟨by omega, by omega⟩, if_pos rfl, if_pos rfl, show ((ixO O c : Int) - 1).toNat = ixO O c - 1 by omega, show ((c : Int) - 1).toNat = c - 1 by omega, List.getElem?_take, if_pos (by omega), zkd e4, zby hb]
    rfl
theorem zgJ (O : List Nat) (x : Int) (h : x = 0) : rpI O x = 0 := by rw [h]; rfl
theorem right_ren {L : List Nd} {K K' : List (ByteArray × Int)} {O : List Nat} (hg : zeq L K) (h : Ord L O) {i t : Nat} (ht : O[i]? = some t) (hk : (zaU L t).op = 4 → zbh K' (renN O (zaU L t)) = false) : zhu ((renL L O).take i) K' (renN O (zaU L t)) := by
  have hlt := (List.getElem?_eq_some_iff.1 ht).1
  have hb := h.bd t (List.mem_of_getElem? ht)
  have hr := hg.rt _ (List.mem_of_getElem? (zby hb))
  have ka := h.kid hg.dag ht (x := (zaU L t).a) (.inl rfl)
  have kb := h.kid hg.dag ht (x := (zaU L t).b) (.inr (.inl rfl))
  have kc := h.kid hg.dag ht (x := (zaU L t).c) (.inr (.inr rfl))
  have wa := wT_ren h (Nat.le_of_lt hlt) ka (-1)
  have wb := wT_ren h (Nat.le_of_lt hlt) kb (-1)
  have wc := wT_ren h (Nat.le_of_lt hlt) kc (-1)
  have da := hg.dag.a _ _ (zby hb)
  have db := hg.dag.b _ _ (zby hb)
  have dc := hg.dag.c _ _ (zby hb)
  have hlen : ((renL L O).take i).length = i := by rw [List.length_take, zgM]; omega
  have isr : ∀ x : Int, (x = 0 ∨ ∃ c : Nat, x = (c : Int) ∧ 1 ≤ c ∧ c ∈ O.take i) → 1 ≤ x → isT ((renL L O).take i) (rpI O x) = true := fun x hx h1 => by
    rcases hx with rfl | ⟨c, rfl, c1, c2⟩
    · omega
    · obtain ⟨e1, e2, e3, e4⟩ := zgc h c2 c1
      rw [e1, zbD]; omega
  generalize zaU L t = n at *
  refine ⟨hr.op, hr.w, ?_, ?_, ?_, ?_, fun q => by rw [hk q.1] at q; cases q.2⟩
  · intro q
    unfold zbF at q
    simp only [Bool.or_eq_true, Bool.and_eq_true, decide_eq_true_eq, Bool.not_eq_true'] at q
    rcases q with (⟨q1, q2⟩ | ⟨q1, q2⟩) | ⟨q1, q2⟩
    · rw [show (renN O n).a = rpI O n.a from rfl, isr n.a ka (by have q1 : zak n.op ≥ 1 := q1; omega)] at q2; cases q2
    · rw [show (renN O n).b = rpI O n.b from rfl, isr n.b kb (by have q1 : zak n.op ≥ 2 := q1; omega)] at q2; cases q2
    · rw [show (renN O n).c = rpI O n.c from rfl, isr n.c kc (by have q1 : zak n.op ≥ 3 := q1; omega)] at q2; cases q2
  · intro q
    refine hr.sp ?_
    unfold zeP at q ⊢
    simp only [Bool.or_eq_true, Bool.and_eq_true, decide_eq_true_eq] at q ⊢
    have z : ∀ x : Int, rpI O x ≠ 0 → x ≠ 0 := fun x hx e => hx (zgJ O x e)
    rcases q with (((⟨q1, q2⟩ | ⟨q1, q2⟩) | ⟨q1, q2⟩) | q) | q
    · exact .inl (.inl (.inl (.inl ⟨q1, z _ q2⟩)))
    · exact .inl (.inl (.inl (.inr ⟨q1, z _ q2⟩)))
    · exact .inl (.inl (.inr ⟨q1, z _ q2⟩))
    · exact .inl (.inr q)
    · exact .inr q
  · show ¬ zer n.op (wT _ (-1) (rpI O n.a)) (wT _ (-1) (rpI O n.b)) (wT _ (-1) (rpI O n.c)) = false
    rw [wa, wb, wc]; exact hr.so
  · show ¬ zdp (renN O n) (wT _ (-1) (rpI O n.a)) (wT _ (-1) (rpI O n.b)) = false
    rw [wa, wb]; exact hr.wi
theorem ren_new {L : List Nd} {K : List (ByteArray × Int)} {O : List Nat} (hg : zeq L K) (h : Ord L O) {i t : Nat} (ht : O[i]? = some t) : zbf (renN O (zaU L t)) 0 ((renL L O).take i) = none := by
  cases hq : zbf (renN O (zaU L t)) 0 ((renL L O).take i) with
  | none => rfl
  | some q =>
    obtain ⟨_, hq⟩ := zg6 _ _ 0 q hq
    rw [Nat.sub_zero] at hq
    have hqi : q < i := by
      have := (List.getElem?_eq_some_iff.1 hq).1
      rw [List.length_take] at this; omega
    rw [List.getElem?_take, if_pos hqi] at hq
    have hlt := (List.getElem?_eq_some_iff.1 ht).1
    obtain ⟨u, hu⟩ : ∃ u, O[q]? = some u := ⟨_, List.getElem?_eq_getElem (by omega)⟩
    rw [zkd hu] at hq
    have hq := Option.some.inj hq
    have bt := h.bd t (List.mem_of_getElem? ht)
    have bu := h.bd u (List.mem_of_getElem? hu)
    have inj : ∀ (x y : Int), (x = 0 ∨ ∃ c : Nat, x = (c : Int) ∧ 1 ≤ c ∧ c ∈ O.take q) → (y = 0 ∨ ∃ c : Nat, y = (c : Int) ∧ 1 ≤ c ∧ c ∈ O.take i) → rpI O x = rpI O y → x = y := fun x y hx hy e => by
      rcases hx with rfl | ⟨c, rfl, c1, c2⟩ <;> rcases hy with rfl | ⟨d, rfl, d1, d2⟩
      · rfl
      · have := zgc h d2 d1
        rw [zgJ O 0 rfl] at e; omega
      · have := zgc h c2 c1
        rw [zgJ O 0 rfl] at e; omega
      · have g1 := zgc h c2 c1
        have g2 := zgc h d2 d1
        rw [g1.1, g2.1] at e
        have e : ixO O c = ixO O d := by omega
        rw [ix_inj (List.mem_of_mem_take c2) e]
    have ea := inj _ _ (h.kid hg.dag hu (.inl rfl)) (h.kid hg.dag ht (.inl rfl)) (congrArg Nd.a hq)
    have eb := inj _ _ (h.kid hg.dag hu (.inr (.inl rfl))) (h.kid hg.dag ht (.inr (.inl rfl))) (congrArg Nd.b hq)
    have ec := inj _ _ (h.kid hg.dag hu (.inr (.inr rfl))) (h.kid hg.dag ht (.inr (.inr rfl))) (congrArg Nd.c hq)
    have e1 := congrArg Nd.op hq
    have e2 := congrArg Nd.w hq
    have e3 := congrArg Nd.num hq
    have e4 := congrArg Nd.name hq
    have hn : zaU L u = zaU L t := by
      generalize zaU L u = x at *
      generalize zaU L t = y at *
      cases x; cases y
      simp only [renN] at e1 e2 e3 e4 ea eb ec
      simp only [Nd.mk.injEq]
      exact ⟨e1, e2, ea, eb, ec, e3, e4⟩
    have hut := hg.nod (u - 1) (t - 1) _ (zby bu) (by rw [zby bt, hn])
    have : u = t := by omega
    subst this
    have := ix_at h.nd hu
    have := ix_at h.nd ht
    omega
end Go.AM
namespace Go.AM
open Go
def fw (F : Int → Int) (n : Nd) : List Fld → Nat → List (List UInt8)
  | [], _ => []
  | .p :: r, k => itoa (F ([n.a, n.b, n.c].getD k 0)) :: fw F n r (k + 1)
  | .n :: r, k => numT n.num.toNat :: fw F n r k
  | .w :: r, k => itoa n.w :: fw F n r k
  | .s :: r, k => n.name.data.toList :: fw F n r k
theorem zl9 (F : Int → Int) (n : Nd) : ∀ (fs : List Fld) (k : Nat), act F n (fs.map fldC) k = (fw F n fs k).flatMap sp
  | [], k => rfl
  | .p :: r, k => by
    rw [List.map_cons]
    show sp _ ++ act F n (r.map fldC) (k + 1) = _
    rw [zl9 F n r (k + 1)]; rfl
  | .n :: r, k => by
    rw [List.map_cons]
    show sp _ ++ act F n (r.map fldC) k = _
    rw [zl9 F n r k]; rfl
  | .w :: r, k => by
    rw [List.map_cons]
    show sp _ ++ act F n (r.map fldC) k = _
    rw [zl9 F n r k]; rfl
  | .s :: r, k => by
    rw [List.map_cons]
    show sp _ ++ act F n (r.map fldC) k = _
    rw [zl9 F n r k]; rfl
def upT (n : Nat) : List Int := (List.range n).map fun (j : Nat) => ((j + 1 : Nat) : Int)
theorem zmc (n : Nat) : (upT n).length = n := by unfold upT; rw [List.length_map, List.length_range]
theorem upT_succ (n : Nat) : upT (n + 1) = upT n ++ [((n + 1 : Nat) : Int)] := by unfold upT; rw [List.range_succ, List.map_append]; rfl
theorem upT_get {n : Nat} {x : Int} (h : 1 ≤ x ∧ x ≤ n) : (upT n).getD (x - 1).toNat 0 = x := by
  unfold upT
  rw [List.getD_eq_getElem?_getD, List.getElem?_map, List.getElem?_range (by omega)]
  show (((x - 1).toNat + 1 : Nat) : Int) = x
  omega
theorem zna {x : Int} (h : 0 ≤ x ∧ x < 2147483648) : zbj (itoa x) = x := by
  have := zgG (x := x.toNat) (by omega)
  rw [Int.toNat_of_nonneg h.1] at this
  exact this
section
variable {fs : List Fld} {ws : List (List UInt8)} {N k : Nat} {m : Nd}
theorem zlF {x : Int} (hN : N < 2147483648) (h : 1 ≤ x ∧ x ≤ N) : rdF (.p :: fs) (itoa x :: ws) (upT N) k m = rdF fs ws (upT N) (k + 1) (setP k m x) := by
  rw [zcc]
  unfold setF
  have e := zna (x := x) (by omega)
  dsimp only
  rw [e, if_pos (by rw [zmc]; exact h), upT_get h]
  rfl
theorem get_w {x : Int} {ts : List Int} (h : 0 ≤ x ∧ x ≤ 64) : rdF (.w :: fs) (itoa x :: ws) ts k m = rdF fs ws ts k { m with w := x } := by
  rw [zcc]
  unfold setF
  have e := zna (x := x) (by omega)
  dsimp only
  rw [e, if_neg (by omega)]
  rfl
theorem get_s {s : ByteArray} {ts : List Int} : rdF (.s :: fs) (s.data.toList :: ws) ts k m = rdF fs ws ts k { m with name := s } := by
  rw [zcc]
  unfold setF
  dsimp only
  rw [← zfz (s := s) rfl]
  rfl
theorem get_n {x : Int} {ts : List Int} (h : 0 ≤ x ∧ x < 18446744073709551616) (h3 : m.op = 3 ∨ x ≤ 64) : rdF (.n :: fs) (numT x.toNat :: ws) ts k m = rdF fs ws ts k { m with num := x } := by
  rw [zcc]
  unfold setF
  have e := numP_numT (x := x.toNat) (by omega)
  have hc : ((x.toNat : Nat) : Int) = x := Int.toNat_of_nonneg h.1
  dsimp only
  rw [e]
  dsimp only
  rw [if_pos (by
    rcases h3 with q | q
    · exact .inl q
    · right
      rw [zcI, e]
      dsimp only
      rw [if_pos (by omega)]; omega), hc]
  rfl
end
theorem q_seqlE (a b : ByteArray) (h : (a.toList == b.toList) = true) : a = b := by
  have h : a.toList = b.toList := by simpa using h
  rw [Go.Lib.toList_data, Go.Lib.toList_data] at h
  rw [zfz (s := a) rfl, zfz (s := b) rfl, h]
theorem zhG {M : List Nd} {K : List (ByteArray × Int)} {n : Nd} (h : zhu M K n) : (zak n.op ≥ 1 → 1 ≤ n.a ∧ n.a ≤ M.length) ∧ (zak n.op < 1 → n.a = 0) ∧ (zak n.op ≥ 2 → 1 ≤ n.b ∧ n.b ≤ M.length) ∧ (zak n.op < 2 → n.b = 0) ∧ (zak n.op ≥ 3 → 1 ≤ n.c ∧ n.c ≤ M.length) ∧ (zak n.op < 3 → n.c = 0) ∧
    (n.op ≠ 3 → n.op ≠ 31 → n.num = 0) ∧ (n.op ≠ 4 → n.name = ⟨#[]⟩) := by
  obtain ⟨_, _, _, ha, hb, hc⟩ := zkh h.pt h.sp
  have h2 := h.sp
  unfold zeP at h2
  simp only [Bool.or_eq_true, Bool.and_eq_true, decide_eq_true_eq, not_or, not_and] at h2
  refine ⟨fun q => zbD.1 (ha q), fun q => ?_, fun q => zbD.1 (hb q), fun q => ?_, fun q => zbD.1 (hc q), fun q => ?_, fun q1 q2 => ?_, fun q => ?_⟩
  · have := h2.1.1.1.1 q; omega
  · have := h2.1.1.1.2 q; omega
  · have := h2.1.1.2 q; omega
  · exact Decidable.byContradiction fun e => h2.1.2 ⟨e, q1⟩ q2
  · have hn : zlz n = false := by
      cases e : zlz n with
      | false => rfl
      | true => exact absurd q (h2.2 e)
    unfold zlz at hn
    have he : (n.name.toList == (⟨#[]⟩ : ByteArray).toList) = true := by simpa using hn
    have h3 := q_seqlE n.name ⟨#[]⟩ he
    exact h3
theorem fldsT_mid {op : Int} (h3 : op ≠ 3) (h4 : op ≠ 4) (h : op < 31) : zbB op = List.replicate (zak op).toNat .p := by
  unfold zbB preF zom
  rw [if_neg h3, if_neg h4, if_neg (by omega), if_neg (by omega), List.nil_append, List.append_nil]
theorem zoi {M : List Nd} {K : List (ByteArray × Int)} {n : Nd} (h : zhu M K n) (hn : zkI n) (hM : M.length < 2147483647) (hw : ∀ m ∈ M, 0 ≤ m.w ∧ m.w ≤ 64) :
    zlB (itoa ((M.length + 1 : Nat) : Int) :: word zaH n.op :: fw (fun x => x) n (zbB n.op) 0) (upT M.length) M = some n := by
  have ho := h.op
  have hww := h.w
  obtain ⟨pa, pa0, pb, pb0, pc, pc0, pn, ps⟩ := zhG h
  obtain ⟨op, hop⟩ : ∃ op : Nat, n.op = (op : Int) := ⟨n.op.toNat, by omega⟩
  have hwo := zm3 (op := op) (by omega) (by omega)
  have hso : zer n.op (wT M (-1) n.a) (wT M (-1) n.b) (wT M (-1) n.c) = true := by
    cases q : zer n.op (wT M (-1) n.a) (wT M (-1) n.b) (wT M (-1) n.c) with
    | true => rfl
    | false => exact absurd q h.so
  have hwi : zdp n (wT M (-1) n.a) (wT M (-1) n.b) = true := by
    cases q : zdp n (wT M (-1) n.a) (wT M (-1) n.b) with
    | true => rfl
    | false => exact absurd q h.wi
  have ba := zmb hw n.a
  have bb := zmb hw n.b
  have hsm : zbj (itoa ((M.length + 1 : Nat) : Int)) = ((M.length + 1 : Nat) : Int) := zgG (by omega)
  rw [lineP_eq]
  have fin : ∀ m : Nd, rdF (zbB (op : Int)) (fw (fun x => x) n (zbB n.op) 0) (upT M.length) 0 (nd0 (op : Int)) = some (m, []) → ({ m with w := zcj M m } : Nd) = n →
      (nodeD (itoa ((M.length + 1 : Nat) : Int) :: word zaH n.op :: fw (fun x => x) n (zbB n.op) 0) (upT M.length)).map (fun m => ({ m with w := zcj M m } : Nd)) = some n := fun m h1 h2 => by
    unfold nodeD
    dsimp only
    rw [hsm, if_pos (by rw [zmc]), show word zaH n.op = word zaH (op : Int) by rw [hop], hwo.2]
    dsimp only
    rw [h1]
    show some ({ m with w := zcj M m } : Nd) = some n
    rw [h2]
  obtain ⟨o, w, a, b, c, num, name⟩ := n
  dsimp only at hop ho hww pa pa0 pb pb0 pc pc0 pn ps hso hwi ba bb fin hn ⊢
  have hn : 0 ≤ num ∧ num < 18446744073709551616 := hn
  by_cases c3 : o = 3
  · have e : zbB (op : Int) = [.w, .n] := by rw [← hop, c3]; rfl
    have e' : zbB o = [.w, .n] := by rw [c3]; rfl
    have hp : zak o = 0 := by rw [c3]; rfl
    refine fin ⟨o, w, 0, 0, 0, num, ⟨#[]⟩⟩ ?_ ?_
    · rw [e, e']
      show rdF [.w, .n] [itoa w, numT num.toNat] _ _ _ = _
      rw [get_w (by omega), get_n hn (.inl (by show (op : Int) = 3; omega))]
      show some (_, _) = _
      rw [hop]; rfl
    · rw [pa0 (by omega), pb0 (by omega), pc0 (by omega), ps (by omega)]
      unfold zcj
      dsimp only
      rw [if_neg (by omega), if_neg (by omega), if_neg (by omega)]
  by_cases c4 : o = 4
  · have e : zbB (op : Int) = [.s, .w] := by rw [← hop, c4]; rfl
    have e' : zbB o = [.s, .w] := by rw [c4]; rfl
    have hp : zak o = 0 := by rw [c4]; rfl
    refine fin ⟨o, w, 0, 0, 0, 0, name⟩ ?_ ?_
    · rw [e, e']
      show rdF [.s, .w] [name.data.toList, itoa w] _ _ _ = _
      rw [get_s, get_w (by omega)]
      show some (_, _) = _
      rw [hop]; rfl
    · rw [pa0 (by omega), pb0 (by omega), pc0 (by omega), pn (by omega) (by omega)]
      unfold zcj
      dsimp only
      rw [if_neg (by omega), if_neg (by omega), if_neg (by omega)]
  by_cases c31 : o = 31
  · have e : zbB (op : Int) = [.p, .n, .w] := by rw [← hop, c31]; rfl
    have e' : zbB o = [.p, .n, .w] := by rw [c31]; rfl
    have hp : zak o = 1 := by rw [c31]; rfl
    have hnum : num ≤ 64 := by
      unfold zdp at hwi
      dsimp only at hwi
      rw [if_neg (by omega), if_neg (by omega), if_neg (by omega), if_neg (by omega), if_neg (by omega), if_neg (by omega), if_pos c31] at hwi
      simp only [Bool.and_eq_true, decide_eq_true_eq] at hwi
      omega
    refine fin ⟨o, w, a, 0, 0, num, ⟨#[]⟩⟩ ?_ ?_
    · rw [e, e']
      show rdF [.p, .n, .w] [itoa a, numT num.toNat, itoa w] _ _ _ = _
      rw [zlF (by omega) (pa (by omega)), get_n hn (.inr hnum), get_w (by omega)]
      show some (_, _) = _
      rw [hop]; rfl
    · rw [pb0 (by omega), pc0 (by omega), ps (by omega)]
      unfold zcj
      dsimp only
      rw [if_neg (by omega), if_neg (by omega), if_neg (by omega)]
  by_cases c32 : o = 32 ∨ o = 33
  · have e' : zbB o = [.p, .w] := by rcases c32 with q | q <;> rw [q] <;> rfl
    have e : zbB (op : Int) = [.p, .w] := by rw [← hop]; exact e'
    have hp : zak o = 1 := by rcases c32 with q | q <;> rw [q] <;> rfl
    refine fin ⟨o, w, a, 0, 0, 0, ⟨#[]⟩⟩ ?_ ?_
    · rw [e, e']
      show rdF [.p, .w] [itoa a, itoa w] _ _ _ = _
      rw [zlF (by omega) (pa (by omega)), get_w (by omega)]
      show some (_, _) = _
      rw [hop]; rfl
    · rw [pb0 (by omega), pc0 (by omega), ps (by omega), pn (by omega) (by omega)]
      unfold zcj
      dsimp only
      rw [if_neg (by omega), if_neg (by omega), if_neg (by omega)]
  · have e' := fldsT_mid c3 c4 (show o < 31 by omega)
    have e : zbB (op : Int) = List.replicate (zak o).toNat .p := by rw [← hop]; exact e'
    have hnm := ps (by omega)
    have hnu := pn (by omega) (by omega)
    have himp : ∀ m : Nd, m.op = o → m.a = a → m.b = b → m.w = 0 → zcj M m = w := fun m m1 m2 m3 m4 => by
      unfold zcj
      rw [m1, m2, m3, m4]
      unfold zdp at hwi
      dsimp only at hwi
      by_cases q1 : o = 1 ∨ o = 2 ∨ (5 ≤ o ∧ o ≤ 13)
      · rw [if_pos q1] at hwi
        rw [if_neg (by omega), if_neg (by omega), if_neg (by omega)]
        simpa using (of_decide_eq_true hwi).symm
      · rw [if_neg q1, if_neg (by omega), if_neg (by omega)] at hwi
        by_cases q2 : o = 14
        · rw [if_pos q2] at hwi ⊢
          exact (of_decide_eq_true hwi).symm
        · rw [if_neg q2] at hwi ⊢
          by_cases q3 : 25 ≤ o ∧ o ≤ 29
          · rw [if_pos q3, Bool.and_eq_true] at hwi
            rw [if_neg (by omega), if_pos (by omega)]
            exact (of_decide_eq_true hwi.1).symm
          · rw [if_neg q3] at hwi
            by_cases q4 : o = 30
            · rw [if_pos q4] at hwi ⊢
              have := of_decide_eq_true hwi
              rw [if_neg (by omega)]; exact this.symm
            · rw [if_neg q4, if_neg (by omega), if_neg (by omega)] at hwi
              rw [if_neg q4, if_pos (by omega)]
              exact (of_decide_eq_true hwi).symm
    rcases zbo o with q | q | q | q
    · refine fin ⟨o, 0, 0, 0, 0, 0, ⟨#[]⟩⟩ ?_ ?_
      · rw [e, e', q]
        show some (_, _) = _
        rw [hop]; rfl
      · rw [himp _ rfl (pa0 (by omega)).symm (pb0 (by omega)).symm rfl, pa0 (by omega), pb0 (by omega), pc0 (by omega), hnm, hnu]
    · refine fin ⟨o, 0, a, 0, 0, 0, ⟨#[]⟩⟩ ?_ ?_
      · rw [e, e', q]
        show rdF [.p] [itoa a] _ _ _ = _
        rw [zlF (by omega) (pa (by omega))]
        show some (_, _) = _
        rw [hop]; rfl
      · rw [himp _ rfl rfl (pb0 (by omega)).symm rfl, pb0 (by omega), pc0 (by omega), hnm, hnu]
    · refine fin ⟨o, 0, a, b, 0, 0, ⟨#[]⟩⟩ ?_ ?_
      · rw [e, e', q]
        show rdF [.p, .p] [itoa a, itoa b] _ _ _ = _
        rw [zlF (by omega) (pa (by omega)), zlF (by omega) (pb (by omega))]
        show some (_, _) = _
        rw [hop]; rfl
      · rw [himp _ rfl rfl rfl rfl, pc0 (by omega), hnm, hnu]
    · refine fin ⟨o, 0, a, b, c, 0, ⟨#[]⟩⟩ ?_ ?_
      · rw [e, e', q]
        show rdF [.p, .p, .p] [itoa a, itoa b, itoa c] _ _ _ = _
        rw [zlF (by omega) (pa (by omega)), zlF (by omega) (pb (by omega)), zlF (by omega) (pc (by omega))]
        show some (_, _) = _
        rw [hop]; rfl
      · rw [himp _ rfl rfl rfl rfl, hnm, hnu]
end Go.AM
namespace Go.AM
open Go
theorem zlI {F : Int → Int} {n m : Nd} (hw : m.w = n.w) (hn : m.num = n.num) (hs : m.name = n.name) : ∀ (fs : List Fld) (k : Nat), (∀ j, k ≤ j → j < k + fs.count .p → F ([n.a, n.b, n.c].getD j 0) = [m.a, m.b, m.c].getD j 0) → fw F n fs k = fw (fun x => x) m fs k
  | [], k, h => rfl
  | .p :: r, k, h => by
    rw [List.count_cons_self] at h
    show itoa _ :: fw F n r (k + 1) = itoa _ :: fw (fun x => x) m r (k + 1)
    rw [h k (Nat.le_refl _) (by omega), zlI hw hn hs r (k + 1) fun j h1 h2 => h j (by omega) (by omega)]
  | .n :: r, k, h => by
    have hc : (Fld.n :: r).count .p = r.count .p := List.count_cons_of_ne (by decide)
    rw [hc] at h
    show numT _ :: fw F n r k = numT _ :: fw (fun x => x) m r k
    rw [hn, zlI hw hn hs r k h]
  | .w :: r, k, h => by
    have hc : (Fld.w :: r).count .p = r.count .p := List.count_cons_of_ne (by decide)
    rw [hc] at h
    show itoa _ :: fw F n r k = itoa _ :: fw (fun x => x) m r k
    rw [hw, zlI hw hn hs r k h]
  | .s :: r, k, h => by
    have hc : (Fld.s :: r).count .p = r.count .p := List.count_cons_of_ne (by decide)
    rw [hc] at h
    show n.name.data.toList :: fw F n r k = m.name.data.toList :: fw (fun x => x) m r k
    rw [hs, zlI hw hn hs r k h]
theorem zja : ((List.range 34).all fun op => decide ((zbB (op : Int)).count .p = (zak (op : Int)).toNat)) = true := by decide +kernel
theorem zgY {op : Int} (h : 1 ≤ op ∧ op ≤ 33) : (zbB op).count .p = (zak op).toNat := by
  obtain ⟨o, ho⟩ : ∃ o : Nat, op = (o : Int) := ⟨op.toNat, by omega⟩
  subst ho
  exact of_decide_eq_true (List.all_eq_true.1 zja o (List.mem_range.2 (by omega)))
theorem zgU (F : Int → Int) (i : Nat) (n : Nd) (h : 1 ≤ n.op ∧ n.op ≤ 33) : line zaH F i n = (itoa ((i + 1 : Nat) : Int) ++ (word zaH n.op :: fw F n (zbB n.op) 0).flatMap sp) ++ [10] := by
  obtain ⟨o, ho⟩ : ∃ o : Nat, n.op = (o : Int) := ⟨n.op.toNat, by omega⟩
  have hf : fl n.op = (zbB n.op).map fldC := by rw [ho]; exact fl_eq (by omega) (by omega)
  unfold line
  rw [hf, zl9, List.flatMap_cons]
  unfold sp
  simp only [List.append_assoc, List.cons_append, List.nil_append]
theorem fw_word {M : List Nd} {K : List (ByteArray × Int)} {n : Nd} (h : zhu M K n) : ∀ w ∈ fw (fun x => x) n (zbB n.op) 0, ze9 w := by
  have ho := h.op
  have hww := h.w
  obtain ⟨pa, pa0, pb, pb0, pc, pc0, _, _⟩ := zhG h
  have hcnt := zgY (op := n.op) (by omega)
  have hp := zbo n.op
  have nn : ∀ j, j < 0 + (zbB n.op).count .p → 0 ≤ [n.a, n.b, n.c].getD j 0 := fun j hj => by
    rw [hcnt] at hj
    match j, hj with
    | 0, hj => show 0 ≤ n.a; have := pa (by omega); omega
    | 1, hj => show 0 ≤ n.b; have := pb (by omega); omega
    | 2, hj => show 0 ≤ n.c; have := pc (by omega); omega
    | j + 3, hj => omega
  have key : ∀ (fs : List Fld) (k : Nat), (∀ j, k ≤ j → j < k + fs.count .p → 0 ≤ [n.a, n.b, n.c].getD j 0) → (Fld.s ∈ fs → zdQ n.name = true) → ∀ w ∈ fw (fun x => x) n fs k, ze9 w := by
    intro fs
    induction fs with
    | nil => intro k _ _ w hw; cases hw
    | cons f r ih =>
      intro k h1 h2 w hw
      have wi : ∀ x : Int, 0 ≤ x → ze9 (itoa x) := fun x hx => by
        have := zfb x.toNat
        rwa [Int.toNat_of_nonneg hx] at this
      cases f with
      | p =>
        rw [List.count_cons_self] at h1
        rcases List.mem_cons.1 hw with q | q
        · rw [q]; exact wi _ (h1 k (Nat.le_refl _) (by omega))
        · exact ih (k + 1) (fun j a b => h1 j (by omega) (by omega)) (fun q => h2 (List.mem_cons_of_mem _ q)) w q
      | n =>
        have hc : (Fld.n :: r).count .p = r.count .p := List.count_cons_of_ne (by decide)
        rw [hc] at h1
        rcases List.mem_cons.1 hw with q | q
        · rw [q]; exact zn8 _
        · exact ih k h1 (fun q => h2 (List.mem_cons_of_mem _ q)) w q
      | w =>
        have hc : (Fld.w :: r).count .p = r.count .p := List.count_cons_of_ne (by decide)
        rw [hc] at h1
        rcases List.mem_cons.1 hw with q | q
        · rw [q]; exact wi _ (by omega)
        · exact ih k h1 (fun q => h2 (List.mem_cons_of_mem _ q)) w q
      | s =>
        have hc : (Fld.s :: r).count .p = r.count .p := List.count_cons_of_ne (by decide)
        rw [hc] at h1
        rcases List.mem_cons.1 hw with q | q
        · rw [q]; exact zn9 (h2 (List.mem_cons_self ..))
        · exact ih k h1 (fun q => h2 (List.mem_cons_of_mem _ q)) w q
  refine key (zbB n.op) 0 (fun j _ hj => nn j hj) fun hs => ?_
  by_cases h4 : n.op = 4
  · exact (zhL (h.free h4)).1
  · exfalso
    have hall : ((List.range 34).all fun op => decide (op = 4) || !((zbB (op : Int)).contains Fld.s)) = true := by decide +kernel
    obtain ⟨o, ho'⟩ : ∃ o : Nat, n.op = (o : Int) := ⟨n.op.toNat, by omega⟩
    have := List.all_eq_true.1 hall o (List.mem_range.2 (by omega))
    rw [Bool.or_eq_true, decide_eq_true_eq] at this
    rcases this with q | q
    · omega
    · rw [ho'] at hs
      have : (zbB (o : Int)).contains Fld.s = true := by rw [List.contains_iff_mem]; exact hs
      rw [this] at q; cases q
theorem zoy (x : Nat) : itoa (x : Int) ≠ zeS := fun e => by
  rw [zkt] at e
  have h := zko (b := 10) (.inl rfl)
  have hm : (114 : UInt8) ∈ dgt 10 x := by rw [e]; decide
  have key : ∀ y : Nat, (114 : UInt8) ∉ dgt 10 y := by
    intro y
    induction y using Nat.strongRecOn with
    | _ y ih =>
      by_cases hy : y < 10
      · rw [zfB hy, List.mem_singleton]
        have hall : ((List.range 10).all fun d => decide ((114 : UInt8) ≠ dig d)) = true := by decide +kernel
        exact of_decide_eq_true (List.all_eq_true.1 hall y (List.mem_range.2 hy))
      · rw [zfC (by decide) (by omega), List.mem_append, List.mem_singleton]
        rintro (q | q)
        · exact ih (y / 10) (by omega) q
        · have hall : ((List.range 10).all fun d => decide ((114 : UInt8) ≠ dig d)) = true := by decide +kernel
          exact of_decide_eq_true (List.all_eq_true.1 hall (y % 10) (List.mem_range.2 (Nat.mod_lt _ (by decide)))) q
  exact key x hm
def KI (L : List Nd) (K : List (ByteArray × Int)) : Prop := ∀ s j w, zaS s 0 K = some (j, w) → ∃ m ∈ L, m.op = 4 ∧ m.name = s ∧ m.w = w
theorem KI.nil (L : List Nd) : KI L [] := fun s j w h => by cases h
theorem KI.set {L : List Nd} {K : List (ByteArray × Int)} (h : KI L K) {m : Nd} (hm : m ∈ L) (h4 : m.op = 4) : KI L (zbK m.name m.w K) := fun s j w hq => by
  unfold zbK at hq
  split at hq
  · exact h s j w hq
  · rcases zjB K 0 j w hq with ⟨j', q⟩ | ⟨rfl, rfl⟩
    · exact h s j' w q
    · exact ⟨m, hm, h4, rfl, rfl⟩
theorem KI.free {L : List Nd} {K K' : List (ByteArray × Int)} (h : KI L K') (hg : zeq L K) {m : Nd} (hm : m ∈ L) (h4 : m.op = 4) {n : Nd} (e1 : n.name = m.name) (e2 : n.w = m.w) : zbh K' n = false := by
  refine bad_of (by rw [e1]; exact (zhL ((hg.rt m hm).free h4)).1) fun j v hq => ?_
  rw [e1] at hq
  obtain ⟨u, hu, u4, un, uw⟩ := h _ j v hq
  obtain ⟨j1, q1⟩ := hg.kn m hm h4
  obtain ⟨j2, q2⟩ := hg.kn u hu u4
  rw [un, q1] at q2
  have := congrArg Prod.snd (Option.some.inj q2)
  rw [e2, ← uw]; exact this.symm
section
variable {L : List Nd} {K : List (ByteArray × Int)} (hg : zeq L K) {O : List Nat} (h : Ord L O) (hO : O.length < 2147483647)
include hg h hO
theorem load_line {lim : Int} {i t : Nat} (ht : O[i]? = some t) {F : Int → Int} (hF : ∀ u ∈ O.take i, F (u : Int) = (ixO O u : Int)) {K' : List (ByteArray × Int)} (hK : KI L K') (rest : List UInt8) :
    (¬ (lim > 0 ∧ (i : Int) ≥ lim) → ∃ K2, KI L K2 ∧ zfq lim (zbA (line zaH F i (zaU L t) ++ rest)) i ((renL L O).take i) K' (upT i) = zfq lim (zbA rest) (i + 1) ((renL L O).take (i + 1)) K2 (upT (i + 1))) ∧
    ((lim > 0 ∧ (i : Int) ≥ lim) → zfq lim (zbA (line zaH F i (zaU L t) ++ rest)) i ((renL L O).take i) K' (upT i) = .bad (i + 1) 4) := by
  have hlt := (List.getElem?_eq_some_iff.1 ht).1
  have hb := h.bd t (List.mem_of_getElem? ht)
  have hmem := List.mem_of_getElem? (zby hb)
  have hk4 : (zaU L t).op = 4 → zbh K' (renN O (zaU L t)) = false := fun h4 => hK.free hg hmem h4 rfl rfl
  have hr := right_ren hg h ht hk4
  have hnew := ren_new hg h ht
  have hlen : ((renL L O).take i).length = i := by rw [List.length_take, zgM]; omega
  have hop := hr.op
  have hparts := zhG (hg.rt _ hmem)
  have hop0 : ((zaU L t).op < 1 ∨ (zaU L t).op > 33) = False := by have : ¬ ((zaU L t).op < 1 ∨ (zaU L t).op > 33) := (hg.rt _ hmem).op; simp only [this]
  have hkid := fun x hx => h.kid hg.dag ht (x := x) hx
  have hdag := hg.dag
  have hnum := hg.num _ hmem
  have htake : (renL L O).take (i + 1) = (renL L O).take i ++ [renN O (zaU L t)] := by rw [List.take_add_one, zkd ht]; rfl
  have hwM : ∀ m ∈ (renL L O).take i, 0 ≤ m.w ∧ m.w ≤ 64 := fun m hm => by
    obtain ⟨u, hu, rfl⟩ := List.mem_map.1 (List.mem_of_mem_take hm)
    have hru := hg.rt _ (List.mem_of_getElem? (zby (h.bd u hu)))
    have := hru.w
    show 0 ≤ (zaU L u).w ∧ (zaU L u).w ≤ 64
    omega
  have da := hg.dag.a _ _ (zby hb)
  have db := hg.dag.b _ _ (zby hb)
  have dc := hg.dag.c _ _ (zby hb)
  generalize hn : zaU L t = n at *
  have hread := zoi hr hnum (by rw [hlen]; omega) hwM
  rw [hlen] at hread
  have hFx : ∀ x : Int, (x = n.a ∨ x = n.b ∨ x = n.c) → 1 ≤ x → F x = rpI O x := fun x hx h1 => by
    rcases hkid x hx with q | ⟨c, rfl, c1, c2⟩
    · omega
    · rw [hF c c2, (zgc h c2 c1).1]
  have hop' : 1 ≤ n.op ∧ n.op ≤ 33 := by have : ¬ (n.op < 1 ∨ n.op > 33) := of_eq_false hop0; omega
  have hcnt := zgY (op := n.op) hop'
  have hpc := zbo n.op
  have hfw : fw F n (zbB n.op) 0 = fw (fun x => x) (renN O n) (zbB n.op) 0 := zlI (F := F) (n := n) (m := renN O n) rfl rfl rfl (zbB n.op) 0 fun j _ hj => by
    rw [hcnt] at hj
    match j, hj with
    | 0, hj => exact hFx n.a (.inl rfl) (hparts.1 (by omega)).1
    | 1, hj => exact hFx n.b (.inr (.inl rfl)) (hparts.2.2.1 (by omega)).1
    | 2, hj => exact hFx n.c (.inr (.inr rfl)) (hparts.2.2.2.2.1 (by omega)).1
    | j + 3, hj => omega
  obtain ⟨o, ho⟩ : ∃ o : Nat, n.op = (o : Int) := ⟨n.op.toNat, by omega⟩
  have hwo : ze9 (word zaH n.op) := by rw [ho]; exact (zm3 (by omega) (by omega)).1
  have hws : ∀ w ∈ word zaH n.op :: fw (fun x => x) (renN O n) (zbB n.op) 0, ze9 w := fun w hw => by
    rcases List.mem_cons.1 hw with q | q
    · rw [q]; exact hwo
    · exact fw_word hr w q
  have hlin : zbA (line zaH F i n ++ rest) = (itoa ((i + 1 : Nat) : Int) ++ (word zaH n.op :: fw (fun x => x) (renN O n) (zbB n.op) 0).flatMap sp) :: zbA rest := by
    rw [zgU F i n hop', hfw, List.append_assoc, List.singleton_append]
    exact zix _ _ (zjI _ _ (zfb (i + 1)) hws)
  have hwords := zjc _ _ (zfb (i + 1)) hws
  have hmk : mkR lim ((renL L O).take i) K' (renN O n) = if lim > 0 ∧ (i : Int) ≥ lim then (0, 4, (renL L O).take i, K') else (((i + 1 : Nat) : Int), 0, (renL L O).take i ++ [renN O n], if n.op = 4 then zbK n.name n.w K' else K') := by
    unfold mkR
    rw [zk4.2 hr, if_neg (by decide), hnew, hlen]
    rfl
  rw [hlin, zfq.eq_2, hwords]
  dsimp only
  rw [if_neg (zoy (i + 1))]
  have hread' : zlB (itoa ((i + 1 : Nat) : Int) :: word zaH n.op :: fw (fun x => x) (renN O n) (zbB n.op) 0) (upT i) ((renL L O).take i) = some (renN O n) := hread
  rw [hread']
  dsimp only
  rw [hmk]
  refine ⟨fun hl => ?_, fun hl => ?_⟩
  · rw [if_neg hl]
    dsimp only
    rw [if_neg (by decide), htake, upT_succ]
    refine ⟨_, ?_, rfl⟩
    split
    · rename_i h4; exact hK.set hmem h4
    · exact hK
  · rw [if_pos hl]
    dsimp only
    rw [if_pos (by decide)]
end
end Go.AM
namespace Go.AM
open Go
section
variable {L : List Nd} {K : List (ByteArray × Int)} (hg : zeq L K) {O : List Nat} (h : Ord L O) (hO : O.length < 2147483647)
include hg h hO
theorem zjF {lim : Int} (tail : List UInt8) : ∀ (r : List Nat) (i : Nat) (F : Int → Int) (K' : List (ByteArray × Int)), O.drop i = r → i ≤ O.length → (∀ u ∈ O.take i, F (u : Int) = (ixO O u : Int)) → KI L K' →
    ((lim > 0 → (O.length : Int) ≤ lim) → ∃ K2, KI L K2 ∧ zfq lim (zbA (zb9 zaH L i r F ++ tail)) i ((renL L O).take i) K' (upT i) = zfq lim (zbA tail) O.length (renL L O) K2 (upT O.length)) ∧
    (lim > 0 → (i : Int) ≤ lim → lim < O.length → zfq lim (zbA (zb9 zaH L i r F ++ tail)) i ((renL L O).take i) K' (upT i) = .bad (lim.toNat + 1) 4) ∧
    (∀ u ∈ O, zcM i r F (u : Int) = (ixO O u : Int))
  | [], i, F, K', hr, hi, hF, hK => by
    have hil : i = O.length := by
      have := congrArg List.length hr
      rw [List.length_drop] at this
      simp at this
      omega
    subst hil
    rw [List.take_of_length_le (by rw [zgM]; omega)]
    rw [List.take_of_length_le (Nat.le_refl _)] at hF
    exact ⟨fun _ => ⟨K', hK, rfl⟩, fun _ _ _ => by omega, hF⟩
  | t :: r, i, F, K', hr, hi, hF, hK => by
    have ht : O[i]? = some t := by
      have := congrArg (fun x => x[0]?) hr
      simpa using this
    have hlt := (List.getElem?_eq_some_iff.1 ht).1
    have hr2 : O.drop (i + 1) = r := by rw [← List.drop_drop, hr]; rfl
    have hix := ix_at h.nd ht
    have hF2 : ∀ u, (u = t ∨ u ∈ O.take i) → upF F (t : Int) ((i + 1 : Nat) : Int) (u : Int) = (ixO O u : Int) := fun u hu => by
      unfold upF
      by_cases e : (u : Int) = (t : Int)
      · rw [if_pos e, show u = t by omega, hix]
      · rw [if_neg e]
        rcases hu with q | q
        · exact absurd (by rw [q]) e
        · exact hF u q
    obtain ⟨a1, a2⟩ := load_line hg h hO (lim := lim) ht (F := upF F (t : Int) ((i + 1 : Nat) : Int)) (fun u hu => hF2 u (.inr hu)) hK (zb9 zaH L (i + 1) r (upF F (t : Int) ((i + 1 : Nat) : Int)) ++ tail)
    have htk : ∀ u ∈ O.take (i + 1), upF F (t : Int) ((i + 1 : Nat) : Int) (u : Int) = (ixO O u : Int) := fun u hu => by
      rw [List.take_add_one, ht] at hu
      rcases List.mem_append.1 hu with q | q
      · exact hF2 u (.inr q)
      · exact hF2 u (.inl (by simpa using q))
    have ih := fun K2 hK2 => zjF (lim := lim) tail r (i + 1) (upF F (t : Int) ((i + 1 : Nat) : Int)) K2 hr2 hlt htk hK2
    have hsplit : zb9 zaH L i (t :: r) F ++ tail = line zaH (upF F (t : Int) ((i + 1 : Nat) : Int)) i (zaU L t) ++ (zb9 zaH L (i + 1) r (upF F (t : Int) ((i + 1 : Nat) : Int)) ++ tail) := by
      show (line zaH _ i (zaU L t) ++ zb9 zaH L (i + 1) r _) ++ tail = _
      rw [List.append_assoc]
    rw [hsplit]
    refine ⟨fun hl => ?_, fun h1 h2 h3 => ?_, (ih K' hK).2.2⟩
    · obtain ⟨K2, b1, b2⟩ := a1 (by intro q; have := hl q.1; omega)
      obtain ⟨K3, c1, c2⟩ := (ih K2 b1).1 hl
      exact ⟨K3, c1, b2.trans c2⟩
    · by_cases he : (i : Int) = lim
      · rw [a2 ⟨h1, by omega⟩, ← he]; rfl
      · obtain ⟨K2, b1, b2⟩ := a1 (by omega)
        rw [b2]
        exact (ih K2 b1).2.1 h1 (by omega) h3
end
theorem zhP : ze9 zeS := ⟨by decide, by decide⟩
theorem ix_le {O : List Nat} {u : Nat} (hu : u ∈ O) : ixO O u ≤ O.length := by
  unfold ixO
  exact List.idxOf_lt_length_of_mem hu
theorem ix_pos (O : List Nat) (u : Nat) : 1 ≤ ixO O u := by unfold ixO; omega
theorem zjh {O : List Nat} (hO : O.length < 2147483647) {Φ : Int → Int} (hΦ : ∀ u ∈ O, Φ (u : Int) = (ixO O u : Int)) : ∀ ns : List Nat, (∀ t ∈ ns, t ∈ O) →
    zfv (upT O.length) ((ns.map fun (t : Nat) => (t : Int)).map fun r => itoa (Φ r)) = some ((ns.map (ixO O)).map fun (t : Nat) => (t : Int))
  | [], _ => rfl
  | t :: r, hns => by
    have ht := hns t (List.mem_cons_self ..)
    have hle := ix_le ht
    have hp := ix_pos O t
    have ih := zjh hO hΦ r fun x hx => hns x (List.mem_cons_of_mem _ hx)
    rw [List.map_cons, List.map_cons]
    unfold zfv zlg numF
    dsimp only
    have hs : zbj (itoa (Φ (t : Int))) = (ixO O t : Int) := by rw [hΦ t ht]; exact zgG (by omega)
    rw [hs, if_neg (by omega)]
    dsimp only
    rw [if_pos (by rw [zmc]; omega), upT_get (by omega)]
    dsimp only
    rw [ih]
    rfl
section
variable {L : List Nd} {K : List (ByteArray × Int)} (hg : zeq L K) {O : List Nat} (h : Ord L O) (hO : O.length < 2147483647)
include hg h hO
theorem ziw {lim : Int} {ns : List Nat} (hns : ∀ t ∈ ns, t ∈ O) :
    ((lim > 0 → (O.length : Int) ≤ lim) → ∃ K2, zfq lim (zbA (zgZ zaH L O (ns.map fun (t : Nat) => (t : Int)))) 0 [] [] [] = .good (renL L O) K2 ((ns.map (ixO O)).map fun (t : Nat) => (t : Int))) ∧
    (lim > 0 → lim < O.length → zfq lim (zbA (zgZ zaH L O (ns.map fun (t : Nat) => (t : Int)))) 0 [] [] [] = .bad (lim.toNat + 1) 4) := by
  obtain ⟨a1, a2, a3⟩ := zjF hg h hO (lim := lim) ([114, 111, 111, 116, 115] ++ zdI (zcM 0 O fun _ => 0) (ns.map fun (t : Nat) => (t : Int)) ++ [10]) O 0 (fun _ => 0) [] rfl (Nat.zero_le _) (fun u hu => by simp at hu) (KI.nil L)
  have hd : zgZ zaH L O (ns.map fun (t : Nat) => (t : Int)) = zb9 zaH L 0 O (fun _ => 0) ++ ([114, 111, 111, 116, 115] ++ zdI (zcM 0 O fun _ => 0) (ns.map fun (t : Nat) => (t : Int)) ++ [10]) := by
    unfold zgZ
    simp only [List.append_assoc]
  rw [hd]
  refine ⟨fun hl => ?_, fun h1 h2 => a2 h1 (by show (0 : Int) ≤ lim; omega) h2⟩
  obtain ⟨K2, b1, b2⟩ := a1 hl
  refine ⟨K2, ?_⟩
  have b2' : zfq lim (zbA (zb9 zaH L 0 O (fun _ => 0) ++ ([114, 111, 111, 116, 115] ++ zdI (zcM 0 O fun _ => 0) (ns.map fun (t : Nat) => (t : Int)) ++ [10]))) 0 [] [] [] = _ := b2
  rw [b2']
  have hws : ∀ x ∈ (ns.map fun (t : Nat) => (t : Int)).map fun r => itoa (zcM 0 O (fun _ => 0) r), ze9 x := fun x hx => by
    obtain ⟨r, hr, rfl⟩ := List.mem_map.1 hx
    obtain ⟨t, ht, rfl⟩ := List.mem_map.1 hr
    rw [a3 t (hns t ht)]
    exact zfb _
  have hroots : [114, 111, 111, 116, 115] ++ zdI (zcM 0 O fun _ => 0) (ns.map fun (t : Nat) => (t : Int)) ++ [10] = (zeS ++ ((ns.map fun (t : Nat) => (t : Int)).map fun r => itoa (zcM 0 O (fun _ => 0) r)).flatMap sp) ++ 10 :: [] := by
    unfold zdI
    rw [List.flatMap_map (f := fun r => itoa _)]
    rfl
  rw [hroots, zix _ _ (zjI _ _ zhP hws), zow, zfq.eq_2, zjc _ _ zhP hws]
  dsimp only
  rw [if_pos rfl, zjh hO a3 ns hns]
end
end Go.AM
namespace Go.AM
open Go
section
variable {L : List Nd} {K : List (ByteArray × Int)} (hg : zeq L K) {O : List Nat} (h : Ord L O)
include hg h
theorem ren_dag : Dag (renL L O) := by
  have key : ∀ (i : Nat) m, (renL L O)[i]? = some m → ∃ t, O[i]? = some t ∧ m = renN O (zaU L t) := fun i m hm => by
    unfold renL at hm
    rw [List.getElem?_map] at hm
    cases q : O[i]? with
    | none => rw [q] at hm; cases hm
    | some t => rw [q] at hm; cases hm; exact ⟨t, rfl, rfl⟩
  have one : ∀ (i : Nat) (t : Nat), O[i]? = some t → ∀ x : Int, (x = (zaU L t).a ∨ x = (zaU L t).b ∨ x = (zaU L t).c) → 1 ≤ x → 1 ≤ rpI O x ∧ rpI O x ≤ i := fun i t ht x hx h1 => by
    rcases h.kid hg.dag ht hx with q | ⟨c, rfl, c1, c2⟩
    · omega
    · have := zgc h c2 c1
      omega
  refine ⟨fun i m hm => ?_, fun i m hm => ?_, fun i m hm => ?_⟩ <;> obtain ⟨t, ht, rfl⟩ := key i m hm
  · rcases hg.dag.a _ _ (zby (h.bd t (List.mem_of_getElem? ht))) with ⟨q1, q2, _⟩ | ⟨q1, q2⟩
    · exact .inl ⟨q1, one i t ht _ (.inl rfl) q2⟩
    · exact .inr ⟨q1, zgJ O _ q2⟩
  · rcases hg.dag.b _ _ (zby (h.bd t (List.mem_of_getElem? ht))) with ⟨q1, q2, _⟩ | ⟨q1, q2⟩
    · exact .inl ⟨q1, one i t ht _ (.inr (.inl rfl)) q2⟩
    · exact .inr ⟨q1, zgJ O _ q2⟩
  · rcases hg.dag.c _ _ (zby (h.bd t (List.mem_of_getElem? ht))) with ⟨q1, q2, _⟩ | ⟨q1, q2⟩
    · exact .inl ⟨q1, one i t ht _ (.inr (.inr rfl)) q2⟩
    · exact .inr ⟨q1, zgJ O _ q2⟩
theorem znn {t : Nat} (ht : t ∈ O) : (renL L O)[ixO O t - 1]? = some (renN O (zaU L t)) := by
  obtain ⟨i, hi⟩ := List.getElem?_of_mem ht
  rw [ix_at h.nd hi, Nat.add_sub_cancel]
  exact zkd hi
theorem ren_kids {t : Nat} (ht : t ∈ O) : kids (renL L O) (ixO O t) = (kids L t).map (ixO O) := by
  obtain ⟨i, hi⟩ := List.getElem?_of_mem ht
  have hb := h.bd t ht
  have hn := zby hb
  have da := hg.dag.a _ _ hn
  have db := hg.dag.b _ _ hn
  have dc := hg.dag.c _ _ hn
  have e1 : kids (renL L O) (ixO O t) = zb4 (renN O (zaU L t)) := by unfold kids; rw [znn hg h ht]
  have e2 : kids L t = zb4 (zaU L t) := by unfold kids; rw [hn]
  rw [e1, e2]
  have one : ∀ x : Int, 1 ≤ x → (rpI O x).toNat = ixO O x.toNat := fun x h1 => by
    unfold rpI
    rw [if_neg (by omega), Int.toNat_natCast]
  generalize zaU L t = n at *
  unfold zb4
  rw [show (renN O n).op = n.op from rfl, show (renN O n).a = rpI O n.a from rfl, show (renN O n).b = rpI O n.b from rfl, show (renN O n).c = rpI O n.c from rfl]
  rcases zbo n.op with q | q | q | q <;> rw [q] at da db dc ⊢
  · rfl
  · show [(rpI O n.a).toNat] = [ixO O n.a.toNat]
    rw [one n.a (by omega)]
  · show [(rpI O n.a).toNat, (rpI O n.b).toNat] = [ixO O n.a.toNat, ixO O n.b.toNat]
    rw [one n.a (by omega), one n.b (by omega)]
  · show [(rpI O n.a).toNat, (rpI O n.b).toNat, (rpI O n.c).toNat] = [ixO O n.a.toNat, ixO O n.b.toNat, ixO O n.c.toNat]
    rw [one n.a (by omega), one n.b (by omega), one n.c (by omega)]
theorem kid_in {t : Nat} (ht : t ∈ O) {c : Nat} (hc : c ∈ kids L t) : c ∈ O := by
  obtain ⟨i, hi⟩ := List.getElem?_of_mem ht
  exact List.mem_of_mem_take (h.cl i t hi c hc)
theorem ren_mem {t : Nat} (ht : t ∈ O) {o : List Nat} : ixO O t ∈ o.map (ixO O) ↔ t ∈ o := by
  refine ⟨fun q => ?_, fun q => List.mem_map_of_mem q⟩
  obtain ⟨u, hu, e⟩ := List.mem_map.1 q
  rw [ix_inj ht e.symm]
  exact hu
theorem ren_post : ∀ (t : Nat), t ∈ O → ∀ o : List Nat, post (renL L O) (ixO O t) (o.map (ixO O)) = (post L t o).map (ixO O) := by
  have hd := ren_dag hg h
  intro t
  induction t using Nat.strongRecOn with
  | _ t ih =>
    intro ht o
    have ht1 := (h.bd t ht).1
    rw [zfN hd (ix_pos O t), zfN hg.dag ht1]
    by_cases hm : t ∈ o
    · rw [if_pos hm, if_pos ((ren_mem hg h ht).2 hm)]
    · rw [if_neg hm, if_neg fun q => hm ((ren_mem hg h ht).1 q), List.map_append, ren_kids hg h ht]
      have key : ∀ (l : List Nat) (o : List Nat), (∀ c ∈ l, c ∈ kids L t) → posts (renL L O) (l.map (ixO O)) (o.map (ixO O)) = (posts L l o).map (ixO O) := by
        intro l
        induction l with
        | nil => intro o _; rfl
        | cons c l ihl =>
          intro o hl
          have hc := hl c (List.mem_cons_self ..)
          rw [List.map_cons, zdl, zdl, ih c (zew hg.dag ht1 hc).2 (kid_in hg h ht hc), ihl _ fun x hx => hl x (List.mem_cons_of_mem _ hx)]
      rw [key _ o fun c hc => hc]
      rfl
theorem zk5 : ∀ (l o : List Nat), (∀ c ∈ l, c ∈ O) → posts (renL L O) (l.map (ixO O)) (o.map (ixO O)) = (posts L l o).map (ixO O)
  | [], o, _ => rfl
  | c :: l, o, hl => by
    rw [List.map_cons, zdl, zdl, ren_post hg h c (hl c (List.mem_cons_self ..)), zk5 l _ fun x hx => hl x (List.mem_cons_of_mem _ hx)]
omit hg h in
theorem line_same {F F2 : Int → Int} {i : Nat} {n m : Nd} (h : fw F n (zbB n.op) 0 = fw F2 m (zbB n.op) 0) (ho : m.op = n.op) (hop : 1 ≤ n.op ∧ n.op ≤ 33) : line zaH F i n = line zaH F2 i m := by
  rw [zgU F i n hop, zgU F2 i m (by rw [ho]; exact hop), ho, h]
omit hg h in
theorem zlH {F F2 : Int → Int} {n m : Nd} (hw : m.w = n.w) (hn : m.num = n.num) (hs : m.name = n.name) : ∀ (fs : List Fld) (k : Nat), (∀ j, k ≤ j → j < k + fs.count .p → F ([n.a, n.b, n.c].getD j 0) = F2 ([m.a, m.b, m.c].getD j 0)) → fw F n fs k = fw F2 m fs k
  | [], k, h => rfl
  | .p :: r, k, h => by
    rw [List.count_cons_self] at h
    show itoa _ :: fw F n r (k + 1) = itoa _ :: fw F2 m r (k + 1)
    rw [h k (Nat.le_refl _) (by omega), zlH hw hn hs r (k + 1) fun j h1 h2 => h j (by omega) (by omega)]
  | .n :: r, k, h => by
    have hc : (Fld.n :: r).count .p = r.count .p := List.count_cons_of_ne (by decide)
    rw [hc] at h
    show numT _ :: fw F n r k = numT _ :: fw F2 m r k
    rw [hn, zlH hw hn hs r k h]
  | .w :: r, k, h => by
    have hc : (Fld.w :: r).count .p = r.count .p := List.count_cons_of_ne (by decide)
    rw [hc] at h
    show itoa _ :: fw F n r k = itoa _ :: fw F2 m r k
    rw [hw, zlH hw hn hs r k h]
  | .s :: r, k, h => by
    have hc : (Fld.s :: r).count .p = r.count .p := List.count_cons_of_ne (by decide)
    rw [hc] at h
    show n.name.data.toList :: fw F n r k = m.name.data.toList :: fw F2 m r k
    rw [hs, zlH hw hn hs r k h]
theorem zk6 : ∀ (r : List Nat) (i : Nat) (F F2 : Int → Int), O.drop i = r → (∀ u ∈ O.take i, F (u : Int) = F2 (ixO O u : Int)) →
    zb9 zaH (renL L O) i (r.map (ixO O)) F2 = zb9 zaH L i r F ∧ (∀ u, (u ∈ O.take i ∨ u ∈ r) → zcM i r F (u : Int) = zcM i (r.map (ixO O)) F2 (ixO O u : Int))
  | [], i, F, F2, hr, hF => ⟨rfl, fun u hu => by
    rcases hu with q | q
    · exact hF u q
    · cases q⟩
  | t :: r, i, F, F2, hr, hF => by
    have ht : O[i]? = some t := by
      have := congrArg (fun x => x[0]?) hr
      simpa using this
    have hmem := List.mem_of_getElem? ht
    have hr2 : O.drop (i + 1) = r := by rw [← List.drop_drop, hr]; rfl
    have hF2 : ∀ u, (u = t ∨ u ∈ O.take i) → upF F (t : Int) ((i + 1 : Nat) : Int) (u : Int) = upF F2 (ixO O t : Int) ((i + 1 : Nat) : Int) (ixO O u : Int) := fun u hu => by
      unfold upF
      by_cases e : u = t
      · rw [e, if_pos rfl, if_pos rfl]
      · rw [if_neg (by omega), if_neg fun q => e (ix_inj hmem (show ixO O t = ixO O u by omega)).symm]
        rcases hu with q | q
        · exact absurd q e
        · exact hF u q
    have htk : ∀ u ∈ O.take (i + 1), upF F (t : Int) ((i + 1 : Nat) : Int) (u : Int) = upF F2 (ixO O t : Int) ((i + 1 : Nat) : Int) (ixO O u : Int) := fun u hu => by
      rw [List.take_add_one, ht] at hu
      rcases List.mem_append.1 hu with q | q
      · exact hF2 u (.inr q)
      · exact hF2 u (.inl (by simpa using q))
    obtain ⟨ih1, ih2⟩ := zk6 r (i + 1) (upF F (t : Int) ((i + 1 : Nat) : Int)) (upF F2 (ixO O t : Int) ((i + 1 : Nat) : Int)) hr2 htk
    refine ⟨?_, fun u hu => ih2 u ?_⟩
    · rw [List.map_cons]
      show line zaH (upF F2 (ixO O t : Int) _) i (zaU (renL L O) (ixO O t)) ++ zb9 zaH (renL L O) (i + 1) (r.map (ixO O)) (upF F2 (ixO O t : Int) _) = line zaH (upF F (t : Int) _) i (zaU L t) ++ zb9 zaH L (i + 1) r (upF F (t : Int) _)
      rw [ih1]
      congr 1
      have hnd : zaU (renL L O) (ixO O t) = renN O (zaU L t) := by unfold zaU; rw [znn hg h hmem]; rfl
      rw [hnd]
      have hrt := hg.rt _ (List.mem_of_getElem? (zby (h.bd t hmem)))
      have hop : 1 ≤ (zaU L t).op ∧ (zaU L t).op ≤ 33 := by have : ¬ ((zaU L t).op < 1 ∨ (zaU L t).op > 33) := hrt.op; omega
      have hparts := zhG hrt
      have hkid := fun x hx => h.kid hg.dag ht (x := x) hx
      have hcnt := zgY (op := (zaU L t).op) hop
      have hpc := zbo (zaU L t).op
      refine (line_same (F := upF F (t : Int) ((i + 1 : Nat) : Int)) (F2 := upF F2 (ixO O t : Int) ((i + 1 : Nat) : Int)) (n := zaU L t) (m := renN O (zaU L t)) ?_ rfl hop).symm
      have one : ∀ x : Int, (x = (zaU L t).a ∨ x = (zaU L t).b ∨ x = (zaU L t).c) → 1 ≤ x → upF F (t : Int) ((i + 1 : Nat) : Int) x = upF F2 (ixO O t : Int) ((i + 1 : Nat) : Int) (rpI O x) := fun x hx h1 => by
        rcases hkid x hx with q | ⟨c, rfl, c1, c2⟩
        · omega
        · rw [(zgc h c2 c1).1]
          exact hF2 c (.inr c2)
      refine zlH (n := zaU L t) (m := renN O (zaU L t)) rfl rfl rfl (zbB (zaU L t).op) 0 fun j _ hj => ?_
      rw [hcnt] at hj
      match j, hj with
      | 0, hj => exact one _ (.inl rfl) (hparts.1 (by omega)).1
      | 1, hj => exact one _ (.inr (.inl rfl)) (hparts.2.2.1 (by omega)).1
      | 2, hj => exact one _ (.inr (.inr rfl)) (hparts.2.2.2.2.1 (by omega)).1
      | j + 3, hj => omega
    · rw [List.take_add_one, ht]
      rcases hu with q | q
      · exact .inl (List.mem_append_left _ q)
      · rcases List.mem_cons.1 q with q | q
        · exact .inl (List.mem_append_right _ (by simp [q]))
        · exact .inr q
theorem ren_dump {ns : List Nat} (hns : ∀ t ∈ ns, t ∈ O) : zgZ zaH (renL L O) (O.map (ixO O)) ((ns.map (ixO O)).map fun (t : Nat) => (t : Int)) = zgZ zaH L O (ns.map fun (t : Nat) => (t : Int)) := by
  obtain ⟨a1, a2⟩ := zk6 hg h O 0 (fun _ => 0) (fun _ => 0) rfl (fun u hu => by simp at hu)
  unfold zgZ
  rw [a1]
  congr 2
  unfold zdI
  induction ns with
  | nil => rfl
  | cons t r ih =>
    rw [List.map_cons, List.map_cons, List.map_cons, List.flatMap_cons, List.flatMap_cons, ih fun x hx => hns x (List.mem_cons_of_mem _ hx)]
    rw [a2 t (.inr (hns t (List.mem_cons_self ..)))]
end
theorem zld {L : List Nd} (hd : Dag L) {ns : List Nat} (hns : ∀ t ∈ ns, 1 ≤ t ∧ t ≤ L.length) : Ord L (posts L ns []) ∧ (∀ t ∈ ns, t ∈ posts L ns []) := by
  have ht : Told L.length (posts L ns []) := (⟨List.nodup_nil, fun x h => by cases h⟩ : Told L.length []).posts hd hns
  have hc := (zjm hd ns [] (fun c hc => (hns c hc).1) (fun i t q => by cases q)).1
  exact ⟨⟨ht.nd, ht.bd, hc⟩, (zeT hd ns [] hns).2.1⟩
theorem zeq.txt {L : List Nd} {K : List (ByteArray × Int)} (h : zeq L K) (hN : ∀ m ∈ L, zfa m) (O : List Nat) (hO : ∀ t ∈ O, 1 ≤ t ∧ t ≤ L.length) : ∀ m ∈ renL L O, zfa m := fun m hm => by
  obtain ⟨t, ht, rfl⟩ := List.mem_map.1 hm
  have := hN _ (List.mem_of_getElem? (zby (hO t ht)))
  exact ⟨this.op, this.w, this.num, this.ext, this.name⟩
theorem ask_goodS {lim : Int} {L : List Nd} {K : List (ByteArray × Int)} {o : OpA} (ho : o.Ok) (h : zeq L K) : zeq (askR lim L K o).2.2.1 (askR lim L K o).2.2.2 :=
  zn4 (Q := fun r => zeq r.2.2.1 r.2.2.2) (fun n hn => mk_goodS hn h) (fun e => h) ho
theorem zk2 {lim : Int} : ∀ (os : List OpA) (L : List Nd) (K : List (ByteArray × Int)), (∀ o ∈ os, o.Ok) → zeq L K → zeq (runR lim os L K).1 (runR lim os L K).2
  | [], L, K, _, h => h
  | o :: os, L, K, ho, h => zk2 os _ _ (fun x hx => ho x (List.mem_cons_of_mem _ hx)) (ask_goodS (ho o (List.mem_cons_self ..)) h)
end Go.AM
namespace Go.AM
open Go
abbrev ofN (ns : List Nat) : List Int := ns.map fun (t : Nat) => (t : Int)
abbrev ren (O ns : List Nat) : List Nat := ns.map (ixO O)
theorem all_ofN {L : List Nd} {ns : List Nat} (h : ∀ t ∈ ns, 1 ≤ t ∧ t ≤ L.length) : (ofN ns).all (isT L) = true := by
  rw [List.all_eq_true]
  intro x hx
  obtain ⟨t, ht, rfl⟩ := List.mem_map.1 hx
  have := h t ht
  exact zbD.2 (by omega)
theorem zgS {L : List Nd} {ns : List Nat} (h : ∀ t ∈ ns, 1 ≤ t ∧ t ≤ L.length) : zb6 L (ofN ns) = (0, posts L ns []) := by
  unfold zb6
  rw [if_pos (all_ofN h), zkp]
theorem zoI {L : List Nd} {K : List (ByteArray × Int)} (hg : zeq L K) {ns : List Nat} (hns : ∀ t ∈ ns, 1 ≤ t ∧ t ≤ L.length) :
    zdC L (ofN ns) = zgZ zaH L (posts L ns []) (ofN ns) ∧ zb6 (renL L (posts L ns [])) (ofN (ren (posts L ns []) ns)) = (0, (posts L ns []).map (ixO (posts L ns []))) ∧
    zdC (renL L (posts L ns [])) (ofN (ren (posts L ns []) ns)) = zdC L (ofN ns) := by
  obtain ⟨ho, hin⟩ := zld hg.dag hns
  generalize hO : posts L ns [] = O at *
  have h1 : zdC L (ofN ns) = zgZ zaH L O (ofN ns) := by
    unfold zdC
    rw [zgS hns, if_pos rfl, hO]
  have h2 : zb6 (renL L O) (ofN (ren O ns)) = (0, O.map (ixO O)) := by
    rw [zgS fun t ht => by
      obtain ⟨u, hu, rfl⟩ := List.mem_map.1 ht
      rw [zgM]
      exact ⟨ix_pos O u, ix_le (hin u hu)⟩]
    have := zk5 hg ho ns [] hin
    rw [hO] at this
    exact congrArg (fun x => ((0 : Int), x)) this
  refine ⟨h1, h2, ?_⟩
  rw [h1]
  unfold zdC
  rw [h2, if_pos rfl]
  exact ren_dump hg ho hin
theorem zjH {L : List Nd} : ∀ (r : List Nat) (i : Nat) (F : Int → Int), (∀ t ∈ r, zfa (zaU L t)) → (∀ x, 0 ≤ F x ∧ F x ≤ 2 ^ 42) → i + r.length ≤ 2 ^ 42 → (zb9 zaH L i r F).length ≤ 200 * r.length ∧ ∀ x, 0 ≤ zcM i r F x ∧ zcM i r F x ≤ 2 ^ 42
  | [], i, F, h1, h2, h3 => ⟨Nat.zero_le _, h2⟩
  | t :: r, i, F, h1, h2, h3 => by
    rw [List.length_cons] at h3 ⊢
    have hF : ∀ x, 0 ≤ upF F (t : Int) ((i + 1 : Nat) : Int) x ∧ upF F (t : Int) ((i + 1 : Nat) : Int) x ≤ 2 ^ 42 := fun x => by
      unfold upF
      split
      · omega
      · exact h2 x
    obtain ⟨a, b⟩ := zjH r (i + 1) _ (fun x hx => h1 x (List.mem_cons_of_mem _ hx)) hF (by omega)
    refine ⟨?_, b⟩
    unfold zb9
    rw [List.length_append]
    have := znL (h1 t (List.mem_cons_self ..)) hF (i := i) (by omega)
    omega
theorem zjj {F : Int → Int} (h : ∀ x, 0 ≤ F x ∧ F x ≤ 2 ^ 42) : ∀ rs : List Int, (zdI F rs).length ≤ 200 * rs.length
  | [] => Nat.zero_le _
  | r :: rs => by
    have ih := zjj h rs
    unfold zdI at ih ⊢
    rw [List.flatMap_cons, List.length_append, List.length_cons]
    have := h r
    have il := zcG (n := F r) (by omega) (by omega)
    have spl : (sp (itoa (F r))).length = (itoa (F r)).length + 1 := rfl
    omega
theorem dumpT_len {L : List Nd} {O : List Nat} {rs : List Int} (h1 : ∀ t ∈ O, zfa (zaU L t)) (h2 : O.length ≤ 2 ^ 30) : (zgZ zaH L O rs).length ≤ 200 * O.length + 200 * rs.length + 6 := by
  obtain ⟨a, b⟩ := zjH O 0 (fun _ => 0) h1 (fun x => by constructor <;> decide) (by omega)
  have c := zjj b rs
  unfold zgZ
  simp only [List.length_append, List.length_cons, List.length_nil]
  omega
theorem Laid.old {H H' : Hp} (h : Laid H) (hn : H.next ≤ H'.next) (hg : ∀ k, k < H.next → H'.get k = H.get k) : Laid H' := h.keep (M := fun _ => False) ⟨hn, fun j hj _ => hg j hj⟩ fun j q => q.elim
end Go.AM
namespace Go.AM
open Go
theorem c11_neg (lim : Int) (H : Hp) (hl : lim < 0) : RR F.a31 [.int .i64 lim] H = some (.tuple #[.pointer none, .bool true], H) := by
  refine (zc2 E0 rfl _ _).trans ?_
  unfold zb2
  have e1 := c16 lim H
  rw [if_pos hl] at e1
  have h0 : ¬ lim ≥ 0 := by omega
  have k1 : ¬ (1 : Int) = 0 := by decide
  simp only [zah e1, x01, zcb, h0, decide_false, zaf, zcJ, zda, s_pneq0 T.p_term_Store zkO, s_beql T.bool _ _ und4, s_bneq T.bool _ _ und4, beq_self_eq_true, Bool.not_true, Bool.not_false, za4, zc9, k1, zaq, zeb, zdH]
def kN : Nd := varN ⟨#[107]⟩ 8
def kK : List (ByteArray × Int) := [(⟨#[107]⟩, 8)]
def aN : Nd := ⟨20, 8, 1, 1, 0, 0, ⟨#[]⟩⟩
theorem mk_first : mkR 0 [] [] kN = (1, 0, [kN], kK) := by kernel_rfl
theorem bin_first : binR 0 [kN] kK 20 1 1 = (2, 0, [kN, aN], kK) := by kernel_rfl
theorem zoH : binR 0 [kN, aN] kK 20 1 1 = (2, 0, [kN, aN], kK) := by kernel_rfl
theorem zfH {L : List Nd} (h : ∀ m ∈ L, 0 ≤ m.w ∧ m.w ≤ 64) (l : L.length ≤ 10) : zf4 L := ⟨h, by omega⟩
theorem c11_pos (lim : Int) (H : Hp) (hl : ¬ lim < 0) : ∃ H' p f g, RR F.a31 [.int .i64 lim] H = some (.tuple #[.pointer (some ⟨p, 0, none⟩), .bool true], H') ∧ StF H' p lim [] [] (.slice none 0 0) f g ∧ H.next ≤ H'.next ∧
    (∀ j, j < H.next → H'.get j = H.get j) ∧ (∀ j, Foot p f g (.slice none 0 0) j → H.next ≤ j) := by
  have e1 := c16 lim H
  have e2 := c16 0 (newH lim H)
  rw [if_neg hl] at e1
  rw [if_neg (by decide)] at e2
  have a1 := zmE lim H
  have a2 := zmE 0 (newH lim H)
  have n1 := zgq lim H
  have n2 := zgq 0 (newH lim H)
  obtain ⟨H1, s1, g1, o1⟩ := Does.one (L := []) (K := []) (d20 a2 (zfH (fun m h => by cases h) (by simp)) ⟨#[107]⟩ 8)
  rw [show varN ⟨#[107]⟩ 8 = kN from rfl, mk_first] at g1 o1
  have st1 : StF H1 ((newH lim H).next + 2) 0 [kN] kK s1 (newH lim H).next ((newH lim H).next + 1) := o1.st
  have R1 : zf4 [kN] := zfH (fun m h => by rw [List.mem_singleton] at h; subst h; decide) (by simp)
  obtain ⟨H2, s2, g2, o2⟩ := Does.one (L := [kN]) (K := kK) (d21 st1 R1 20 1 1)
  rw [bin_first] at g2 o2
  have st2 : StF H2 ((newH lim H).next + 2) 0 [kN, aN] kK s2 (newH lim H).next ((newH lim H).next + 1) := o2.st
  have R2 : zf4 [kN, aN] := zfH (fun m h => by
    rcases List.mem_cons.1 h with rfl | h
    · decide
    · rw [List.mem_singleton] at h; subst h; decide) (by simp)
  obtain ⟨H3, s3, g3, o3⟩ := Does.one (L := [kN, aN]) (K := kK) (d21 st2 R2 20 1 1)
  rw [zoH] at g3 o3
  have st3 : StF H3 ((newH lim H).next + 2) 0 [kN, aN] kK s3 (newH lim H).next ((newH lim H).next + 1) := o3.st
  have all := (o1.trans o2).trans o3
  have hsame : ∀ j, j < (newH lim H).next → H3.get j = (newH lim H).get j := fun j hj => by
    rw [all.same j (by omega) (fun z => by have := zfk z; omega), zhF 0 _ _ hj]
  have hn3 := all.next
  refine ⟨H3, H.next + 2, H.next, H.next + 1, ?_, a1.keep (fun i hi => hsame i (a1.foot_lt hi)) (by omega), by omega, fun j hj => by rw [hsame j (by omega), zhF lim H j hj], fun j hj => by have := zfk hj; omega⟩
  refine (zc2 E0 rfl _ _).trans ?_
  unfold zb2
  have h0 : lim ≥ 0 := by omega
  have c9' := c9 st3.st
  simp only [zah e1, x01, zcb, h0, decide_true, decide_false, zaf, zcJ, zda, s_pneq T.p_term_Store _ zkO, zng T.p_term_Store _ zkO, s_beql T.bool _ _ und4, s_bneq T.bool _ _ und4, beq_self_eq_true, Bool.not_true, Bool.not_false, za4, zc9, zaq, zaV, zdH, zah e2, zah g1, zah g2, zah g3, zec, ne_eq, not_true_eq_false, zah c9', List.length_cons, List.length_nil, Nat.zero_add]
  rfl
end Go.AM
