/- Part of the proof of TermLoadsUptoCardSaid: see the last file.  -/
import Derived.WalkKit
import Derived.ProofKit
import Derived.JoinedCond
import Derived.OpenShut
import Derived.Deep.DeepHandedRow
import Derived.Laws.Externs
import Derived.Lib.Bytealg
import Derived.KernelRfl
import Derived.Test.YtkfhklmklhnfaaaGreatDoorProg
import Derived.Test.YtkfhklmklhnfaaaGreatDoorT0
import Derived.Test.YtkfhklmklhnfaaaGreatDoorT1
set_option linter.unusedSimpArgs false
set_option linter.unusedVariables false
set_option linter.unusedSectionVars false
set_option maxRecDepth 100000
namespace Go.AM
open Go
section
variable {C : Ctx} {ops : List Oper} {fr0 : Fr} {S0 : St} {an : List Nat}
theorem zjv (a b : Option Nat) : zcc a b = zcc b a := by
  cases a <;> cases b <;> first | rfl | skip
  rename_i x y
  show Nat.beq x y = Nat.beq y x
  rw [Bool.eq_iff_iff, Nat.beq_eq, Nat.beq_eq]
  exact ⟨Eq.symm, Eq.symm⟩
theorem zgP (fr : Fr) (d : Option Nat) (s : Slot) (t : Nat) : (putS fr d s)[t]? = if d = some t then (fr[t]?).map fun _ => s else fr[t]? := by
  cases d with
  | none => rfl
  | some d =>
    simp only [putS, List.getElem?_set, Option.some.injEq]
    by_cases h : d = t
    · subst h
      rw [if_pos rfl, if_pos rfl]
      split
      · rename_i hl; rw [List.getElem?_eq_getElem hl]; rfl
      · rename_i hl; rw [List.getElem?_eq_none (by omega)]; rfl
    · rw [if_neg h, if_neg h]
theorem getS_of {fr fr' : Fr} {t : Nat} (h : fr[t]? = fr'[t]?) : getS fr t = getS fr' t := by
  unfold getS; rw [List.getD_eq_getElem?_getD, List.getD_eq_getElem?_getD, h]
variable (C ops fr0 S0) in
def FD (L : Array Bool) : Nat → Fr
  | 0 => fr0
  | i + 1 => match L.getD i false with
    | true => match ops[i]? with
      | some o => putS (FD L i) o.dst (sl C ops fr0 S0 i)
      | none => FD L i
    | false => FD L i
theorem FD_slot {L : Array Bool} {t j : Nat} (hok : ∀ i o, i < j → ops[i]? = some o → ∃ b, OKi C ops fr0 S0 i o b) (hj : j ≤ ops.length)
    (h1 : ∀ i o, i < j → ops[i]? = some o → o.dst = some t → L.getD i false = true) (h2 : ∀ i o, j ≤ i → ops[i]? = some o → o.dst = some t → L.getD i false = false) :
    ∀ m, m ≤ ops.length → (FD C ops fr0 S0 L m)[t]? = ((stp C ops fr0 S0 (min m j)).1)[t]?
  | 0, _ => by rw [Nat.zero_min]; rfl
  | m + 1, hm => by
    have ih := FD_slot hok hj h1 h2 m (by omega)
    have hom : ∃ o, ops[m]? = some o := ⟨ops[m], by simp⟩
    obtain ⟨o, ho⟩ := hom
    unfold FD
    rcases Nat.lt_or_ge m j with q | q
    · obtain ⟨b, hb⟩ := hok m o q ho
      rw [Nat.min_eq_left q, hb.next, zgP]
      rw [Nat.min_eq_left (by omega)] at ih
      cases hL : L.getD m false with
      | true =>
        dsimp only
        rw [ho]
        dsimp only
        rw [zgP, ih]
      | false =>
        dsimp only
        rw [ih]
        split
        · rename_i hd; rw [h1 m o q ho hd] at hL; cases hL
        · rfl
    · rw [Nat.min_eq_right (by omega)]
      rw [Nat.min_eq_right q] at ih
      cases hL : L.getD m false with
      | true =>
        dsimp only
        rw [ho]
        dsimp only
        rw [zgP, ih]
        split
        · rename_i hd; rw [h2 m o q ho hd] at hL; cases hL
        · rfl
      | false => dsimp only; exact ih
theorem zdX {L : Array Bool} {j i : Nat} (hj : j < L.size) : (L.setIfInBounds j true).getD i false = if i = j then true else L.getD i false := by
  simp only [Array.getD_eq_getD_getElem?, Array.getElem?_setIfInBounds]
  by_cases h : j = i
  · subst h; rw [if_pos rfl, if_pos rfl, if_pos hj]; rfl
  · rw [if_neg h, if_neg (fun e => h e.symm)]
theorem FD_set {L : Array Bool} {j : Nat} {oj : Oper} (hoj : ops[j]? = some oj) (hjL : j < L.size) (hnj : L.getD j false = false)
    (h2 : ∀ i o, j < i → ops[i]? = some o → L.getD i false = true → ∀ d, oj.dst = some d → o.dst ≠ some d) :
    ∀ m, m ≤ ops.length → FD C ops fr0 S0 (L.setIfInBounds j true) m = if m ≤ j then FD C ops fr0 S0 L m else putS (FD C ops fr0 S0 L m) oj.dst (sl C ops fr0 S0 j)
  | 0, _ => by rw [if_pos (Nat.zero_le _)]; rfl
  | m + 1, hm => by
    have ih := FD_set hoj hjL hnj h2 m (by omega)
    unfold FD
    rw [zdX hjL]
    obtain ⟨o, ho⟩ : ∃ o, ops[m]? = some o := ⟨ops[m], by simp⟩
    rcases Nat.lt_trichotomy m j with q | q | q
    · rw [if_neg (by omega), if_pos (by omega)]
      rw [if_pos (by omega)] at ih
      rw [ih]
    · subst q
      rw [if_pos rfl, if_neg (by omega), hnj]
      rw [if_pos (Nat.le_refl _)] at ih
      rw [hoj]
      dsimp only
      rw [ih]
    · rw [if_neg (by omega), if_neg (by omega)]
      rw [if_neg (by omega)] at ih
      cases hL : L.getD m false with
      | false => dsimp only; exact ih
      | true =>
        dsimp only
        rw [ho]
        dsimp only
        rw [ih]
        apply List.ext_getElem?
        intro t
        simp only [zgP]
        have := h2 m o q ho hL
        by_cases e1 : o.dst = some t
        · by_cases e2 : oj.dst = some t
          · exact absurd e1 (this t e2)
          · rw [if_pos e1, if_neg e2, if_neg e2, if_pos e1]
        · rw [if_neg e1, if_neg e1]
variable (C ops fr0 S0) in
def Effw (i : Nat) : Prop := ∃ o, ops[i]? = some o ∧ Wd C ops fr0 S0 i o ∧ zby C.P C.O C.f o = .eff
theorem zh0 {n0 : Nat} (hok : ∀ j o, j < n0 → ops[j]? = some o → ∃ b, OKi C ops fr0 S0 j o b) (hn0 : n0 ≤ ops.length) {m : Nat} : ∀ m', m ≤ m' → m' ≤ n0 → (∀ i, m ≤ i → i < m' → ¬ Effw C ops fr0 S0 i) → (stp C ops fr0 S0 m').2 = (stp C ops fr0 S0 m).2 := by
  intro m' hm
  induction m' with
  | zero => intro _ _; have : m = 0 := by omega
            rw [this]
  | succ n ih =>
    intro hn h
    rcases Nat.lt_or_ge n m with q | q
    · have : m = n + 1 := by omega
      rw [this]
    · rw [← ih q (by omega) (fun i h1 h2 => h i h1 (by omega))]
      obtain ⟨o, ho⟩ : ∃ o, ops[n]? = some o := ⟨ops[n], by simp⟩
      obtain ⟨b, hb⟩ := hok n o (by omega) ho
      cases b with
      | false => exact (hb.no rfl).2
      | true =>
        have hk : zby C.P C.O C.f o ≠ .eff := fun hk => h n q (Nat.lt_succ_self n) ⟨o, ho, hb.guard, hk⟩
        have hR := hb.yes rfl
        refine (zi4 (S2 := (stp C ops fr0 S0 n).2) hR ?_).1
        cases hq : zby C.P C.O C.f o with
        | pure => exact .inl rfl
        | read => exact .inr ⟨rfl, rfl⟩
        | eff => exact absurd hq hk
theorem read_any {n0 : Nat} (hok : ∀ j o, j < n0 → ops[j]? = some o → ∃ b, OKi C ops fr0 S0 j o b) (hn0 : n0 ≤ ops.length) (hchk : ∀ j o, j < n0 → ops[j]? = some o → Chk C ops fr0 S0 an j o)
    {j : Nat} (hj0 : j < n0) {o : Oper} (ho : ops[j]? = some o) (hb : OKi C ops fr0 S0 j o true) (hk : zby C.P C.O C.f o = .read) :
    (∀ n, ∀ m, m + n = j → (∀ i, m ≤ i → i < j → Effw C ops fr0 S0 i → (an.getD j 0).testBit i = false) → opRD C (stp C ops fr0 S0 j).1 (stp C ops fr0 S0 m).2 o = some (sl C ops fr0 S0 j, (stp C ops fr0 S0 m).2)) ∧
    (∀ m, j ≤ m → m ≤ n0 → (∀ i, j < i → i < m → Effw C ops fr0 S0 i → (an.getD i 0).testBit j = false) → opRD C (stp C ops fr0 S0 j).1 (stp C ops fr0 S0 m).2 o = some (sl C ops fr0 S0 j, (stp C ops fr0 S0 m).2)) := by
  have h0 : opRD C (stp C ops fr0 S0 j).1 (stp C ops fr0 S0 j).2 o = some (sl C ops fr0 S0 j, (stp C ops fr0 S0 j).2) := (zi4 (hb.yes rfl) (.inr ⟨hk, rfl⟩)).2
  have hjl := (List.getElem?_eq_some_iff.1 ho).1
  refine ⟨fun n => ?_, fun m => ?_⟩
  · induction n with
    | zero => intro m hm _; have : m = j := by omega
              rw [this]; exact h0
    | succ n ih =>
      intro m hm hno
      have h1 := ih (m + 1) (by omega) (fun i h1 h2 => hno i (by omega) h2)
      obtain ⟨om, hom⟩ : ∃ om, ops[m]? = some om := ⟨ops[m], by simp⟩
      by_cases hw : Wd C ops fr0 S0 m om ∧ zby C.P C.O C.f om = .eff
      · have hbit := hno m (Nat.le_refl _) (by omega) ⟨om, hom, hw.1, hw.2⟩
        cases ht : zcc (zbo C (stp C ops fr0 S0 m).1 om) (zbo C (stp C ops fr0 S0 j).1 o) with
        | true => exact (hchk j o hj0 ho).1 hb.guard hk m om (by omega) hom hw.1 hw.2 hbit ht
        | false =>
          obtain ⟨b, hbm⟩ := hok m om (by omega) hom
          have hbt : b = true := by have := hbm.guard; rw [hw.1] at this; cases this; rfl
          subst hbt
          have htag := zlP (hbm.yes rfl) hw.2
          have hst : zcc (zbo C (stp C ops fr0 S0 j).1 o) (zbo C (stp C ops fr0 S0 m).1 om) = false := by rw [zjv]; exact ht
          have := htag.other hst
          refine zga h1 hk ?_
          unfold zjw at this ⊢
          split at this
          · exact this.symm
          · exact this.symm
      · have hT : (stp C ops fr0 S0 (m + 1)).2 = (stp C ops fr0 S0 m).2 := zh0 hok hn0 (m + 1) (by omega) (by omega) (fun i h1 h2 he => by
          have : i = m := by omega
          subst this
          obtain ⟨o', ho', hw1, hw2⟩ := he
          rw [hom] at ho'; cases ho'
          exact hw ⟨hw1, hw2⟩)
        rw [hT] at h1; exact h1
  · induction m with
    | zero => intro hm _ _; have : j = 0 := by omega
              subst this; exact h0
    | succ m ih =>
      intro hm hml hno
      rcases Nat.lt_or_ge m j with q | q
      · have : m + 1 = j := by omega
        rw [this]; exact h0
      · have h1 := ih q (by omega) (fun i h1 h2 => hno i h1 (by omega))
        obtain ⟨om, hom⟩ : ∃ om, ops[m]? = some om := ⟨ops[m], by simp⟩
        by_cases hw : Wd C ops fr0 S0 m om ∧ zby C.P C.O C.f om = .eff
        · have hjm : j < m := by
            rcases Nat.lt_or_ge j m with q' | q'
            · exact q'
            · have : m = j := by omega
              subst this
              rw [ho] at hom; cases hom
              rw [hk] at hw; cases hw.2
          have hbit := hno m hjm (Nat.lt_succ_self m) ⟨om, hom, hw.1, hw.2⟩
          cases ht : zcc (zbo C (stp C ops fr0 S0 j).1 o) (zbo C (stp C ops fr0 S0 m).1 om) with
          | true => exact (hchk m om (by omega) hom).2 hw.1 hw.2 j o hjm ho hb.guard hk hbit ht
          | false =>
            obtain ⟨b, hbm⟩ := hok m om (by omega) hom
            have hbt : b = true := by have := hbm.guard; rw [hw.1] at this; cases this; rfl
            subst hbt
            exact zga h1 hk ((zlP (hbm.yes rfl) hw.2).other ht)
        · have hT : (stp C ops fr0 S0 (m + 1)).2 = (stp C ops fr0 S0 m).2 := zh0 hok hn0 (m + 1) (by omega) (by omega) (fun i h1 h2 he => by
            have : i = m := by omega
            subst this
            obtain ⟨o', ho', hw1, hw2⟩ := he
            rw [hom] at ho'; cases ho'
            exact hw ⟨hw1, hw2⟩)
          rw [hT]; exact h1
end
section
variable {C : Ctx} {ops : List Oper} {α : Type}
theorem LA_inv {o : Oper} (h : isLA C.O C.f o = true) : ∃ T d, o.guard = none ∧ o.op = .alloc T ∧ o.dst = some d ∧ (C.O.loc C.f).elem d = true := by
  unfold isLA at h
  split at h
  · rename_i T d h1 h2 h3; exact ⟨T, d, h1, h2, h3, h⟩
  · cases h
theorem LA_step {o : Oper} (h : isLA C.O C.f o = true) {S : St} {k : Slot → St → Option α} {r : α} (hk : opC C [] S o k = some r) :
    ∃ d c, o.dst = some d ∧ S.bx d = none ∧ k (.loc d 0) (S.setB d (some c)) = some r ∧ ∀ fr S2, S2.bx d = none → opR C fr S2 o = some (.loc d 0, S2.setB d (some c)) := by
  obtain ⟨T, d, h1, h2, h3, h4⟩ := LA_inv h
  unfold opC at hk
  rw [h2] at hk
  dsimp only at hk
  unfold ze8 at hk
  rcases hi : C.P.info? T with _ | i
  · rw [hi] at hk; cases hk
  · rw [hi] at hk
    dsimp only at hk
    rcases hz : i.zero with _ | z
    · rw [hz] at hk; cases hk
    · rw [hz] at hk
      dsimp only at hk
      cases hc : zcE z with
      | false => rw [hc] at hk; cases hk
      | true =>
        rw [hc] at hk
        dsimp only at hk
        cases ha : (zaa z).all one with
        | false => rw [ha] at hk; cases hk
        | true =>
          rw [ha] at hk
          dsimp only at hk
          unfold zcp at hk
          rw [h3] at hk
          dsimp only at hk
          rw [h4] at hk
          dsimp only at hk
          rcases hb : S.bx d with _ | b
          · rw [hb] at hk
            refine ⟨d, .cells (zaa z) false, h3, hb, hk, fun fr S2 h5 => ?_⟩
            unfold opR opC
            rw [h2]
            dsimp only
            unfold ze8
            rw [hi]
            dsimp only
            rw [hz]
            dsimp only
            rw [hc]
            dsimp only
            rw [ha]
            dsimp only
            unfold zcp
            rw [h3]
            dsimp only
            rw [h4]
            dsimp only
            rw [h5]
          · rw [hb] at hk; cases hk
theorem zhI {k : St → Option α} {r : α} : ∀ (l : List Oper) (S : St), zgy C k l S = some r → ∃ S0, k S0 = some r ∧ S0.hp = S.hp ∧ (∀ d, (∀ o ∈ l, isLA C.O C.f o = true → o.dst ≠ some d) → S0.bx d = S.bx d) ∧
    (∀ o ∈ l, isLA C.O C.f o = true → ∃ d c, o.dst = some d ∧ S.bx d = none ∧ S0.bx d = some c ∧ ∀ fr S2, S2.bx d = none → opR C fr S2 o = some (.loc d 0, S2.setB d (some c))) ∧
    (∀ (i j : Nat) oi oj, l[i]? = some oi → l[j]? = some oj → isLA C.O C.f oi = true → isLA C.O C.f oj = true → oi.dst = oj.dst → i = j)
  | [], S, h => ⟨S, h, rfl, fun _ _ => rfl, fun o ho => absurd ho List.not_mem_nil, fun i j oi oj h1 => absurd h1 (by simp)⟩
  | o :: l, S, h => by
    unfold zgy at h
    cases hl : isLA C.O C.f o with
    | false =>
      rw [hl] at h
      obtain ⟨S0, h1, h2, h3, h4, h5⟩ := zhI l S h
      refine ⟨S0, h1, h2, fun d hd => h3 d fun o' ho' => hd o' (List.mem_cons_of_mem _ ho'), fun o' ho' hl' => ?_, fun i j oi oj hi hj li lj hd => ?_⟩
      · rcases List.mem_cons.1 ho' with rfl | ho'
        · rw [hl] at hl'; cases hl'
        · exact h4 o' ho' hl'
      · cases i with
        | zero => simp at hi; subst hi; rw [hl] at li; cases li
        | succ i => cases j with
          | zero => simp at hj; subst hj; rw [hl] at lj; cases lj
          | succ j => exact congrArg (· + 1) (h5 i j oi oj (by simpa using hi) (by simpa using hj) li lj hd)
    | true =>
      rw [hl] at h
      obtain ⟨d, c, e1, e2, e3, e4⟩ := LA_step hl h
      obtain ⟨S0, h1, h2, h3, h4, h5⟩ := zhI l _ e3
      have hne : ∀ o' ∈ l, isLA C.O C.f o' = true → o'.dst ≠ some d := fun o' ho' hl' hd => by
        obtain ⟨d', c', q1, q2, _⟩ := h4 o' ho' hl'
        rw [hd] at q1; cases q1
        rw [St.setB_same] at q2; cases q2
      refine ⟨S0, h1, h2, fun d' hd' => ?_, fun o' ho' hl' => ?_, fun i j oi oj hi hj li lj hd => ?_⟩
      · rw [h3 d' fun o' ho' => hd' o' (List.mem_cons_of_mem _ ho')]
        exact St.setB_ne _ _ fun q => hd' o (List.mem_cons_self ..) hl (by rw [e1, q])
      · rcases List.mem_cons.1 ho' with rfl | ho'
        · refine ⟨d, c, e1, e2, ?_, e4⟩
          rw [h3 d hne, St.setB_same]
        · obtain ⟨d', c', q1, q2, q3, q4⟩ := h4 o' ho' hl'
          refine ⟨d', c', q1, ?_, q3, q4⟩
          rw [St.setB_ne _ _ (fun q => hne o' ho' hl' (by rw [q1, q]))] at q2
          exact q2
      · cases i with
        | zero =>
          simp at hi
          subst hi
          cases j with
          | zero => rfl
          | succ j => exact absurd (hd.symm.trans e1) (hne oj (List.mem_of_getElem? (by simpa using hj)) lj)
        | succ i => cases j with
          | zero =>
            simp at hj
            subst hj
            exact absurd (hd.trans e1) (hne oi (List.mem_of_getElem? (by simpa using hi)) li)
          | succ j => exact congrArg (· + 1) (h5 i j oi oj (by simpa using hi) (by simpa using hj) li lj hd)
variable (C ops) in
def Due (L : Array Bool) (d : Nat) : Prop := ∃ (j : Nat) (o : Oper), ops[j]? = some o ∧ isLA C.O C.f o = true ∧ o.dst = some d ∧ L.getD j false = false
open Classical in
variable (C ops) in
noncomputable def rst (L : Array Bool) (S : St) : St := ⟨fun d => if Due C ops L d then none else S.bx d, S.hp⟩
open Classical in
theorem zcB {L : Array Bool} {S : St} {d : Nat} (h : Due C ops L d) : (rst C ops L S).bx d = none := by
  show (if Due C ops L d then none else S.bx d) = none
  rw [if_pos h]
open Classical in
theorem zcZ {L : Array Bool} {S : St} {d : Nat} (h : ¬ Due C ops L d) : (rst C ops L S).bx d = S.bx d := by
  show (if Due C ops L d then none else S.bx d) = _
  rw [if_neg h]
theorem St.ext' {S S' : St} (h1 : ∀ d, S.bx d = S'.bx d) (h2 : S.hp = S'.hp) : S = S' := by
  cases S; cases S'
  simp only [St.mk.injEq]
  exact ⟨funext h1, h2⟩
theorem rst_all {L : Array Bool} {S : St} (h : ∀ i, i < ops.length → L.getD i false = true) : rst C ops L S = S :=
  St.ext' (fun d => zcZ fun ⟨j, o, h1, _, _, h4⟩ => by rw [h j (List.getElem?_eq_some_iff.1 h1).1] at h4; cases h4) rfl
theorem zkS {L : Array Bool} {j : Nat} {oj : Oper} (hoj : ops[j]? = some oj) (hjL : j < L.size) {e : Nat} (hd : isLA C.O C.f oj = false ∨ oj.dst ≠ some e) : Due C ops (L.setIfInBounds j true) e ↔ Due C ops L e := by
  constructor
  · rintro ⟨i, o, h1, h2, h3, h4⟩
    rw [zdX hjL] at h4
    split at h4
    · cases h4
    · exact ⟨i, o, h1, h2, h3, h4⟩
  · rintro ⟨i, o, h1, h2, h3, h4⟩
    refine ⟨i, o, h1, h2, h3, ?_⟩
    rw [zdX hjL, if_neg (fun q => by
      subst q
      rw [hoj] at h1; cases h1
      rcases hd with hd | hd
      · rw [hd] at h2; cases h2
      · exact hd h3)]
    exact h4
theorem ziT {L : Array Bool} {j : Nat} {oj : Oper} (hoj : ops[j]? = some oj) (hjL : j < L.size) (hl : isLA C.O C.f oj = false) (S : St) : rst C ops (L.setIfInBounds j true) S = rst C ops L S := by
  refine St.ext' (fun d => ?_) rfl
  by_cases h : Due C ops L d
  · rw [zcB h, zcB ((zkS hoj hjL (.inl hl)).2 h)]
  · rw [zcZ h, zcZ fun q => h ((zkS hoj hjL (.inl hl)).1 q)]
theorem tag_loc {fr : Fr} {o : Oper} {d : Nat} (h : zbo C fr o = some d) : (∃ x off, ev C.P.globals.size fr x = .loc d off) ∨ ∀ S r, opR C fr S o = some r → S.bx d = none := by
  unfold zbo at h
  split at h
  · rename_i T x hop
    split at h
    · rename_i e off he
      cases h; exact .inl ⟨x, off, he⟩
    · cases h
  · rename_i T x y hop
    split at h
    · rename_i e off he
      cases h; exact .inl ⟨x, off, he⟩
    · cases h
  · rename_i T hop
    right
    intro S r hr
    split at h
    · rename_i e hd
      split at h
      · rename_i he
        cases h
        cases hb : S.bx d with
        | none => rfl
        | some b =>
          unfold opR opC at hr
          rw [hop] at hr
          dsimp only at hr
          unfold zcp ze8 at hr
          rw [hd] at hr
          dsimp only at hr
          rw [he, hb] at hr
          dsimp only at hr
          repeat' split at hr
          all_goals cases hr
      · cases h
    · cases h
  · rename_i T x hop
    right
    intro S r hr
    split at h
    · rename_i e hd
      split at h
      · rename_i he
        cases h
        cases hb : S.bx d with
        | none => rfl
        | some b =>
          unfold opR opC at hr
          rw [hop] at hr
          dsimp only at hr
          unfold zcp sV at hr
          rw [hd] at hr
          dsimp only at hr
          rw [he, hb] at hr
          dsimp only at hr
          repeat' split at hr
          all_goals cases hr
      · cases h
    · cases h
  · rename_i T x hop
    right
    intro S r hr
    cases hb : S.bx d with
    | none => rfl
    | some b =>
      unfold opR opC at hr
      rw [hop] at hr
      dsimp only at hr
      unfold sV at hr
      rw [h] at hr
      split at hr
      · split at hr
        · rename_i q; cases q
          rw [hb] at hr; cases hr
        · cases hr
      · cases hr
  · rename_i x b hop
    split at h
    · rename_i e off he
      cases h; exact .inl ⟨x, off, he⟩
    · cases h
  · cases h
theorem LA_guard {o : Oper} (h : isLA C.O C.f o = true) (fr : Fr) : zcO ops fr o = some true := by
  obtain ⟨T, d, h1, _⟩ := LA_inv h
  unfold zcO zdv
  rw [h1]
end
theorem opX_congr {C : Ctx} {fr fr' : Fr} {S S' : St} {o : Oper} (h : ∀ x ∈ o.op.operands, ev C.P.globals.size fr x = ev C.P.globals.size fr' x) (hp : S.hp = S'.hp) : opX C fr S o = opX C fr' S' o := by
  unfold opX opW
  rw [hp]
  split
  · rename_i c ho
    split
    · rename_i g hc
      rw [ho] at h
      exact zcy _ _ fun x hx => h x (by simp [Op.operands, Call.operands, hc]; exact .inr (by simpa using hx))
    · rfl
  · rename_i x ho
    rw [ho] at h
    rw [h x (by simp [Op.operands])]
  · rfl
theorem zkT {P : Program} (O : Orc) (h : zae) (f : FuncId) (hh : SimC P O h) : zk5 ⟨P, O, h, f⟩ := by
  intro α w0 H0 β0 r ops kp k Q W S1 a1 β1 l1 hord hW hk hkp fr0 Sb a w β lam hrun hG hM
  generalize hC : (⟨P, O, h, f⟩ : Ctx) = C at *
  have hhC : SimC C.P C.O C.h := by rw [← hC]; exact hh
  clear hC hh
  obtain ⟨S0, hrun, hhp, hoth, hla, huniq⟩ := zhI _ _ hrun
  have hla' : ∀ (j : Nat) o d, ops[j]? = some o → isLA C.O C.f o = true → o.dst = some d → ∃ c, Sb.bx d = none ∧ S0.bx d = some c ∧ ∀ fr S2, S2.bx d = none → opR C fr S2 o = some (.loc d 0, S2.setB d (some c)) := fun j o d h1 h2 h3 => by
    obtain ⟨d', c, q1, q2, q3, q4⟩ := hla o (List.mem_of_getElem? h1) h2
    rw [h3] at q1; cases q1
    exact ⟨c, q2, q3, q4⟩
  obtain ⟨n0, hall, hend⟩ := zhP (C := C) (ops := ops) (fr0 := fr0) (S0 := S0) (an := ancs ops) ops 0 [] [] rfl hrun (fun l o' hl => by omega) (fun l o' hl => by omega) (fun q hq => by cases hq)
  have hn0 : n0 ≤ ops.length := by
    rcases hend with ⟨h1, _⟩ | ⟨o, x, H, h1⟩
    · omega
    · exact Nat.le_of_lt (List.getElem?_eq_some_iff.1 h1.at_).1
  have hok : ∀ j o, j < n0 → ops[j]? = some o → ∃ b, OKi C ops fr0 S0 j o b := fun j o hj ho => (hall j o (Nat.zero_le _) hj ho).1
  have hchk : ∀ j o, j < n0 → ops[j]? = some o → Chk C ops fr0 S0 (ancs ops) j o := fun j o hj ho => (hall j o (Nat.zero_le _) hj ho).2
  have fin : ∀ (L : Array Bool) (a : Act) (w : World) (β : Bt) (lam : Nat → Nat) (m : Nat), (∀ i, L.getD i false = true → i < n0) → (∀ i, i < ops.length → L.getD i false = true) → m ≤ n0 → (∀ i, m ≤ i → Effw C ops fr0 S0 i → L.getD i false = false) →
      Good C.P w0 H0 β0 (FD C ops fr0 S0 L ops.length) (rst C ops L (stp C ops fr0 S0 m).2) a w β lam → zbw W S1 a1 β1 l1 (rst C ops L (stp C ops fr0 S0 m).2) a β lam → Q .normal a w := by
    intro L a w β lam m hL0 hL hm hm2 hG hM
    have hne : n0 = ops.length := by
      rcases Nat.lt_or_ge n0 ops.length with q | q
      · exact absurd (hL0 n0 (hL n0 q)) (Nat.lt_irrefl _)
      · omega
    have hend : k (stp C ops fr0 S0 ops.length).1 (stp C ops fr0 S0 ops.length).2 = some r := by
      rcases hend with ⟨_, h1⟩ | ⟨o, x, H, h1⟩
      · exact h1
      · have := (List.getElem?_eq_some_iff.1 h1.at_).1
        omega
    rw [hne] at hm
    rw [rst_all hL] at hG hM
    have hF : ∀ q, q ≤ ops.length → FD C ops fr0 S0 L q = (stp C ops fr0 S0 q).1 := by
      intro q
      induction q with
      | zero => intro _; rfl
      | succ q ih =>
        intro hq
        obtain ⟨o, ho⟩ : ∃ o, ops[q]? = some o := ⟨ops[q], by simp⟩
        obtain ⟨b, hb⟩ := hok q o (by omega) ho
        unfold FD
        rw [hL q (by omega)]
        dsimp only
        rw [ho]
        dsimp only
        rw [ih (by omega), hb.next]
    have hT : (stp C ops fr0 S0 ops.length).2 = (stp C ops fr0 S0 m).2 := zh0 hok hn0 _ hm (by omega) (fun i h1 h2 he => by
      have := hm2 i h1 he
      rw [hL i h2] at this; cases this)
    rw [hF _ (Nat.le_refl _)] at hG
    rw [← hT] at hG hM
    exact hk _ _ a w β lam hend hG hM
  have full : ∀ (L : Array Bool), L.size = ops.length → Region.ready .any ops.toArray L = [] → ∀ i, i < ops.length → L.getD i false = true := by
    intro L hs hr i
    induction i using Nat.strongRecOn with
    | _ i ih =>
      intro hi
      cases hL : L.getD i false with
      | true => rfl
      | false =>
        exfalso
        have : i ∈ Region.ready .any ops.toArray L := by
          refine mem_ready.2 ⟨?_, ops[i], by simp [hi], fun e he hb => ?_⟩
          · rw [Array.getD_eq_getD_getElem?] at hL ⊢
            rw [Array.getElem?_eq_getElem (by omega)] at hL ⊢
            exact hL
          · have hlt := zjc hord (j := i) (o := ops[i]) (by simp) e he hb
            exact ih e.on hlt (by omega)
        rw [hr] at this; cases this
  have main : ∀ (fuel : Nat) (L : Array Bool) (a : Act) (w : World) (β : Bt) (lam : Nat → Nat) (U : List Nat) (m : Nat), L.size = ops.length → U.length = fuel → (∀ i, i < ops.length → L.getD i false = false → i ∈ U) →
      (∀ i o, L.getD i false = true → ops[i]? = some o → ∀ e ∈ o.after, Region.binds .any e = true → L.getD e.on false = true) →
      (∀ i, L.getD i false = true → i < n0) → m ≤ n0 → (∀ i, i < m → Effw C ops fr0 S0 i → L.getD i false = true) → (∀ i, m ≤ i → Effw C ops fr0 S0 i → L.getD i false = false) →
      (∀ (i : Nat) o d, ops[i]? = some o → isLA C.O C.f o = true → o.dst = some d → L.getD i false = false → (stp C ops fr0 S0 m).2.bx d = S0.bx d) →
      Good C.P w0 H0 β0 (FD C ops fr0 S0 L ops.length) (rst C ops L (stp C ops fr0 S0 m).2) a w β lam → zbw W S1 a1 β1 l1 (rst C ops L (stp C ops fr0 S0 m).2) a β lam →
      wpAny C.P .any ops.toArray Q fuel L a w := by
    intro fuel
    induction fuel with
    | zero =>
      intro L a w β lam U m hs hU hUm hcl hL0 hm hm1 hm2 hI hG hM
      have hU0 : U = [] := List.length_eq_zero_iff.1 hU
      subst hU0
      have hL : ∀ i, i < ops.length → L.getD i false = true := fun i hi => by
        cases hq : L.getD i false with
        | true => rfl
        | false => exact absurd (hUm i hi hq) (by simp)
      refine ⟨?_, fin L a w β lam m hL0 hL hm hm2 hG hM⟩
      cases hr : Region.ready .any ops.toArray L with
      | nil => rfl
      | cons j js =>
        obtain ⟨h1, o, h2, _⟩ := mem_ready.1 (show j ∈ Region.ready .any ops.toArray L by rw [hr]; exact List.mem_cons_self ..)
        have hj : j < ops.length := by have := (Array.getElem?_eq_some_iff.1 h2).1; simpa using this
        have h3 := hL j hj
        rw [Array.getD_eq_getD_getElem?, Array.getElem?_eq_getElem (by omega)] at h1 h3
        simp only [Option.getD_some] at h1 h3
        rw [h1] at h3; cases h3
    | succ fuel ih =>
      intro L a w β lam U m hs hU hUm hcl hL0 hm hm1 hm2 hI hG hM
      refine ⟨fun hr => fin L a w β lam m hL0 (full L hs hr) hm hm2 hG hM, fun j hj => ?_⟩
      obtain ⟨hnj, o, ho, he⟩ := mem_ready.1 hj
      have ho : ops[j]? = some o := by simpa using ho
      have hjn := (List.getElem?_eq_some_iff.1 ho).1
      have hjL : j < L.size := by omega
      have hnj' : L.getD j false = false := by
        rw [Array.getD_eq_getD_getElem?, Array.getElem?_eq_getElem hjL] at hnj ⊢
        exact hnj
      have hanc : ∀ l, ((ancs ops).getD j 0).testBit l = true → L.getD l false = true := anc_in (D := fun i => L.getD i false = true) hcl j o ho he
      have hdesc : ∀ i oi, ops[i]? = some oi → L.getD i false = true → ((ancs ops).getD i 0).testBit j = true → False := fun i oi hoi hi hbit => by
        have := anc_in (D := fun i => L.getD i false = true) hcl i oi hoi (hcl i oi hi hoi) j hbit
        have this : L.getD j false = true := this
        rw [hnj'] at this; cases this
      have hj0 : j ≤ n0 := by
        rcases Nat.lt_or_ge n0 j with q | q
        · exfalso
          rcases hend with ⟨h1, _⟩ | ⟨o1, x, H, h1⟩
          · omega
          · have h2 := h1.last
            unfold zlE at h2
            have h3 := List.all_eq_true.1 h2 j (List.mem_range.2 hjn)
            rw [Bool.or_eq_true, Nat.ble_eq] at h3
            rcases h3 with h3 | h3
            · omega
            · exact absurd (hL0 n0 (hanc n0 h3)) (Nat.lt_irrefl _)
        · exact q
      have hslot : ∀ t ∈ zcA ops o, getS (FD C ops fr0 S0 L ops.length) t = getS (stp C ops fr0 S0 j).1 t := by
        intro t ht
        have := FD_slot (L := L) (t := t) (j := j) (fun i o hi => hok i o (by omega)) (Nat.le_of_lt hjn) (fun i oi hij hoi hd => by
          rcases zcx hord hij hoi ho with q | q
          · exact hanc i q
          · exact absurd ht ((zfw q.1).1 t hd).1) (fun i oi hij hoi hd => by
          cases hL : L.getD i false with
          | false => rfl
          | true =>
            rcases Nat.lt_or_ge j i with q | q
            · rcases zcx hord q ho hoi with q' | q'
              · exact (hdesc i oi hoi hL q').elim
              · exact absurd ht ((zfw q'.1).2 t hd)
            · have : i = j := by omega
              subst this; rw [hnj'] at hL; cases hL) ops.length (Nat.le_refl _)
        rw [Nat.min_eq_right (Nat.le_of_lt hjn)] at this
        exact getS_of this
      rcases Nat.eq_or_lt_of_le hj0 with hj0 | hj0
      · subst hj0
        rcases hend with ⟨h1, _⟩ | ⟨o1, x, H, h1⟩
        · omega
        have h2 := h1.at_
        rw [ho] at h2
        cases h2
        have hgd : zcO ops (FD C ops fr0 S0 L ops.length) o = some true := by rw [zgz hslot]; exact h1.guard
        have hwant : Region.wanted o (yielded ops.toArray a.tmps) = true := by
          obtain ⟨b', fr', e1, _, e2⟩ := zfs hgd hG.fr
          cases e1; exact e2
        unfold wpOp
        simp only [List.getElem?_toArray, ho, hwant, if_true]
        have hno : ∀ i, m ≤ i → i < j → ¬ Effw C ops fr0 S0 i := fun i h1' h2' hei => by
          have h3 := hm2 i h1' hei
          obtain ⟨oi, hoi, hw, hk'⟩ := hei
          rcases zcx hord h2' hoi ho with q | q
          · rw [hanc i q] at h3; cases h3
          · exact q.2 ⟨hk', (zi1 h1.op).2⟩
        have hT := zh0 hok hn0 j hm (Nat.le_refl _) hno
        have hX := h1.run
        have hX : opX C (FD C ops fr0 S0 L ops.length) (rst C ops L (stp C ops fr0 S0 m).2) o = some (x, H) := by
          rw [← hX, hT]
          exact opX_congr (zlL hslot) rfl
        refine .inl (zjS hhC hG.n hX h1.op hG.rel hG.fr (fun x1 H1 w' β' x' g1 g2 g3 g4 g5 => ?_) fun s S' w' v' β' lam' g1 => (by cases g1))
        cases g1
        exact hkp h1.pan x _ ⟨(rst C ops L (stp C ops fr0 S0 m).2).bx, H⟩ a w' β' lam x' h1.kp ⟨g2, g3, hG.ext.trans g5⟩ ⟨hM.tmps, hM.size, Bt.le_trans hM.le g5.le, hM.dfr⟩ g4
      obtain ⟨b, hb⟩ := hok j o hj0 ho
      have hwant : Region.wanted o (yielded ops.toArray a.tmps) = b := by
        have hg : zcO ops (FD C ops fr0 S0 L ops.length) o = some b := by rw [zgz hslot]; exact hb.guard
        obtain ⟨b', fr', e1, _, e2⟩ := zfs hg hG.fr
        cases e1; exact e2
      have hset : FD C ops fr0 S0 (L.setIfInBounds j true) ops.length = putS (FD C ops fr0 S0 L ops.length) o.dst (sl C ops fr0 S0 j) := by
        rw [FD_set ho hjL hnj' (fun i oi hij hoi hL d hd => by
          rcases zcx hord hij ho hoi with q | q
          · exact (hdesc i oi hoi hL q).elim
          · exact ((zfw q.1).1 d hd).2) ops.length (Nat.le_refl _), if_neg (by omega)]
      have hmono : ∀ x, L.getD x false = true → (L.setIfInBounds j true).getD x false = true := fun x hx => by
        rw [zdX hjL]; split
        · rfl
        · exact hx
      have hjj : (L.setIfInBounds j true).getD j false = true := by rw [zdX hjL, if_pos rfl]
      have hne : ∀ x, x ≠ j → (L.setIfInBounds j true).getD x false = L.getD x false := fun x hx => by rw [zdX hjL, if_neg hx]
      have hjU : j ∈ U := hUm j hjn hnj'
      have hWo := hW o (List.mem_of_getElem? ho)
      have hIj : ∀ m', (∀ (i : Nat) o d, ops[i]? = some o → isLA C.O C.f o = true → o.dst = some d → L.getD i false = false → (stp C ops fr0 S0 m').2.bx d = S0.bx d) →
          ∀ (i : Nat) o d, ops[i]? = some o → isLA C.O C.f o = true → o.dst = some d → (L.setIfInBounds j true).getD i false = false → (stp C ops fr0 S0 m').2.bx d = S0.bx d := fun m' h i o' d h1 h2 h3 h4 => by
        rw [zdX hjL] at h4
        split at h4
        · cases h4
        · exact h i o' d h1 h2 h3 h4
      have next : ∀ (a' : Act) (w' : World) (β' : Bt) (lam' : Nat → Nat) (m' : Nat), m' ≤ n0 → (∀ i, i < m' → Effw C ops fr0 S0 i → (L.setIfInBounds j true).getD i false = true) → (∀ i, m' ≤ i → Effw C ops fr0 S0 i → (L.setIfInBounds j true).getD i false = false) →
          (∀ (i : Nat) o d, ops[i]? = some o → isLA C.O C.f o = true → o.dst = some d → (L.setIfInBounds j true).getD i false = false → (stp C ops fr0 S0 m').2.bx d = S0.bx d) →
          Good C.P w0 H0 β0 (putS (FD C ops fr0 S0 L ops.length) o.dst (sl C ops fr0 S0 j)) (rst C ops (L.setIfInBounds j true) (stp C ops fr0 S0 m').2) a' w' β' lam' → zbw W S1 a1 β1 l1 (rst C ops (L.setIfInBounds j true) (stp C ops fr0 S0 m').2) a' β' lam' → wpAny C.P .any ops.toArray Q fuel (L.setIfInBounds j true) a' w' := by
        intro a' w' β' lam' m' q1 q2 q3 q0 q4 q5
        refine ih (L.setIfInBounds j true) a' w' β' lam' (U.erase j) m' (by simpa using hs) (by rw [List.length_erase_of_mem hjU, hU]; rfl) (fun i hi hLi => ?_) (fun i oi hLi hoi e hem hbd => ?_) (fun i hi => ?_) q1 q2 q3 q0 (by rw [hset]; exact q4) q5
        · have hij : i ≠ j := fun q => by subst q; rw [hjj] at hLi; cases hLi
          rw [hne i hij] at hLi
          exact (List.mem_erase_of_ne hij).2 (hUm i hi hLi)
        · by_cases hij : i = j
          · subst hij
            rw [ho] at hoi; cases hoi
            exact hmono _ (he e hem hbd)
          · rw [hne i hij] at hLi
            exact hmono _ (hcl i oi hLi hoi e hem hbd)
        · by_cases hij : i = j
          · rw [hij]; exact hj0
          · rw [hne i hij] at hi
            exact hL0 i hi
      unfold wpOp
      simp only [List.getElem?_toArray, ho, hwant]
      cases b with
      | false =>
        simp only [Bool.false_eq_true, if_false]
        have hnoteff : ∀ i, Effw C ops fr0 S0 i → i ≠ j := fun i ⟨oi, hoi, hw, _⟩ q => by
          subst q; rw [ho] at hoi; cases hoi
          have h1 := hb.guard
          unfold Wd at hw
          rw [hw] at h1; cases h1
        have hl : isLA C.O C.f o = false := by
          cases hl : isLA C.O C.f o with
          | false => rfl
          | true =>
            have h1 := hb.guard
            rw [LA_guard hl] at h1; cases h1
        refine next _ w β lam m hm (fun i hi hei => hmono i (hm1 i hi hei)) (fun i hi hei => by rw [hne i (hnoteff i hei)]; exact hm2 i hi hei) (hIj m hI) ?_ ?_
        rotate_left
        · rw [ziT ho hjL hl]
          exact hM.put hWo _ (BMv.refl _ _) (Bt.le_refl _)
        rw [ziT ho hjL hl]
        refine ⟨hG.rel, ?_, hG.ext⟩
        rw [(hb.no rfl).1]
        exact hG.fr.put (s := .und) rfl _
      | true =>
        simp only [if_true]
        have hcong : ∀ S, opRD C (FD C ops fr0 S0 L ops.length) S o = opRD C (stp C ops fr0 S0 j).1 S o := fun S => zmf (zlL hslot)
        refine .inl ?_
        cases hl : isLA C.O C.f o with
        | true =>
          obtain ⟨T, d, _, hop, hd, _⟩ := LA_inv hl
          obtain ⟨c, g1, g2, g3⟩ := hla' j o d ho hl hd
          have hdue : Due C ops L d := ⟨j, o, ho, hl, hd, hnj'⟩
          have hsl : sl C ops fr0 S0 j = .loc d 0 := by
            have := hb.yes rfl
            unfold opRD opD at this
            rw [hl, hd] at this
            exact (congrArg Prod.fst (Option.some.inj this)).symm
          have hnotd : ¬ Due C ops (L.setIfInBounds j true) d := fun ⟨i, o', h1, h2, h3, h4⟩ => by
            have hij := huniq i j o' o h1 ho h2 hl (h3.trans hd.symm)
            subst hij
            rw [hjj] at h4; cases h4
          have hst : rst C ops (L.setIfInBounds j true) (stp C ops fr0 S0 m).2 = (rst C ops L (stp C ops fr0 S0 m).2).setB d (some c) := by
            refine St.ext' (fun e => ?_) rfl
            by_cases he : e = d
            · subst he
              rw [zcZ hnotd, St.setB_same, hI j o e ho hl hd hnj', g2]
            · rw [St.setB_ne _ _ he]
              have hde := zkS (C := C) ho hjL (e := e) (.inr (fun q => he (by rw [hd] at q; cases q; rfl)))
              by_cases hu : Due C ops L e
              · rw [zcB hu, zcB (hde.2 hu)]
              · rw [zcZ hu, zcZ fun q => hu (hde.1 q)]
          have hnoteff : ∀ i, Effw C ops fr0 S0 i → i ≠ j := fun i ⟨oi, hoi, hw, hk⟩ q => by
            subst q; rw [ho] at hoi; cases hoi
            rw [zja hl] at hk; cases hk
          refine zgU (r := (sl C ops fr0 S0 j, rst C ops (L.setIfInBounds j true) (stp C ops fr0 S0 m).2)) hhC hG.n (by rw [hst, hsl]; exact g3 _ _ (zcB hdue)) hG.rel hG.fr fun s S' w' v' β' lam' k1 k2 k3 k4 k5 k6 => ?_
          cases k1
          exact next _ w' β' lam' m hm (fun i hi hei => hmono i (hm1 i hi hei)) (fun i hi hei => by rw [hne i (hnoteff i hei)]; exact hm2 i hi hei) (hIj m hI) ⟨k2, k3.put k4 _, hG.ext.trans k5⟩ (hM.put hWo _ k6 k5.le)
        | false =>
        have step : ∀ m', m' ≤ n0 → (∀ i, i < m' → Effw C ops fr0 S0 i → (L.setIfInBounds j true).getD i false = true) → (∀ i, m' ≤ i → Effw C ops fr0 S0 i → (L.setIfInBounds j true).getD i false = false) →
            (∀ (i : Nat) o d, ops[i]? = some o → isLA C.O C.f o = true → o.dst = some d → L.getD i false = false → (stp C ops fr0 S0 m').2.bx d = S0.bx d) →
            opRD C (FD C ops fr0 S0 L ops.length) (rst C ops L (stp C ops fr0 S0 m).2) o = some (sl C ops fr0 S0 j, rst C ops L (stp C ops fr0 S0 m').2) → o.wp C.P a w (wpAny C.P .any ops.toArray Q fuel (L.setIfInBounds j true)) Q := by
          intro m' q1 q2 q3 q0 q4
          rw [zbX hl] at q4
          refine zgU (r := (sl C ops fr0 S0 j, rst C ops L (stp C ops fr0 S0 m').2)) hhC hG.n q4 hG.rel hG.fr fun s S' w' v' β' lam' g1 g2 g3 g4 g5 g6 => ?_
          cases g1
          exact next _ w' β' lam' m' q1 q2 q3 (hIj m' q0) (by rw [ziT ho hjL hl]; exact ⟨g2, g3.put g4 _, hG.ext.trans g5⟩) (by rw [ziT ho hjL hl]; exact hM.put hWo _ g6 g5.le)
        have htagd : ∀ r, opR C (FD C ops fr0 S0 L ops.length) (stp C ops fr0 S0 m).2 o = some r → ∀ d, zbo C (FD C ops fr0 S0 L ops.length) o = some d → (rst C ops L (stp C ops fr0 S0 m).2).bx d = (stp C ops fr0 S0 m).2.bx d := fun r hr d hd => by
          by_cases hu : Due C ops L d
          · rcases tag_loc hd with ⟨x, off, hx⟩ | h2
            · have h1 := zdQ hG.rel hG.fr x
              rw [hx] at h1
              have h1 : ((rst C ops L (stp C ops fr0 S0 m).2).bx d).isSome = true := h1.1
              rw [zcB hu] at h1; cases h1
            · rw [zcB hu, h2 _ _ hr]
          · exact zcZ hu
        cases hkd : zby C.P C.O C.f o with
        | pure =>
          have hnoteff : ∀ i, Effw C ops fr0 S0 i → i ≠ j := fun i ⟨oi, hoi, hw, hk⟩ q => by
            subst q; rw [ho] at hoi; cases hoi
            rw [hkd] at hk; cases hk
          exact step m hm (fun i hi hei => hmono i (hm1 i hi hei)) (fun i hi hei => by rw [hne i (hnoteff i hei)]; exact hm2 i hi hei) hI (by rw [hcong]; exact (zi4 (S2 := rst C ops L (stp C ops fr0 S0 m).2) (hb.yes rfl) (.inl hkd)).2)
        | read =>
          have hnoteff : ∀ i, Effw C ops fr0 S0 i → i ≠ j := fun i ⟨oi, hoi, hw, hk⟩ q => by
            subst q; rw [ho] at hoi; cases hoi
            rw [hkd] at hk; cases hk
          suffices hsuf : opRD C (stp C ops fr0 S0 j).1 (stp C ops fr0 S0 m).2 o = some (sl C ops fr0 S0 j, (stp C ops fr0 S0 m).2) by
            refine step m hm (fun i hi hei => hmono i (hm1 i hi hei)) (fun i hi hei => by rw [hne i (hnoteff i hei)]; exact hm2 i hi hei) hI ?_
            rw [← hcong] at hsuf
            refine zga hsuf hkd ?_
            rw [zbX hl] at hsuf
            have ht := htagd _ hsuf
            unfold zjw
            split
            · rfl
            · rename_i d hd; exact ht d hd
          obtain ⟨r1, r2⟩ := read_any hok hn0 hchk hj0 ho hb hkd
          rcases Nat.le_total m j with q | q
          · refine r1 (j - m) m (by omega) fun i h1 h2 hei => ?_
            cases hbit : ((ancs ops).getD j 0).testBit i with
            | false => rfl
            | true =>
              have h3 := hanc i hbit
              rw [hm2 i h1 hei] at h3; cases h3
          · refine r2 m q hm fun i h1 h2 hei => ?_
            cases hbit : ((ancs ops).getD i 0).testBit j with
            | false => rfl
            | true =>
              have h3 := hm1 i h2 hei
              obtain ⟨oi, hoi, _⟩ := hei
              exact (hdesc i oi hoi h3 hbit).elim
        | eff =>
          have hej : Effw C ops fr0 S0 j := ⟨o, ho, hb.guard, hkd⟩
          have hmj : m ≤ j := by
            rcases Nat.lt_or_ge j m with q | q
            · have := hm1 j q hej
              rw [hnj'] at this; cases this
            · exact q
          have hno : ∀ i, m ≤ i → i < j → ¬ Effw C ops fr0 S0 i := fun i h1 h2 hei => by
            have h3 := hm2 i h1 hei
            obtain ⟨oi, hoi, hw, hk⟩ := hei
            rcases zcx hord h2 hoi ho with q | q
            · rw [hanc i q] at h3; cases h3
            · exact q.2 ⟨hk, hkd⟩
          have hT := zh0 hok hn0 j hmj (Nat.le_of_lt hj0) hno
          have hy := hb.yes rfl
          rw [hT, ← hcong, zbX hl] at hy
          have hk' : zcw C.P o.op = .eff := by rw [← zdO hl]; exact hkd
          have htag := zkR hy hk'
          have hbx := htagd _ hy
          refine step (j + 1) hj0 (fun i hi hei => ?_) (fun i hi hei => ?_) (fun i o' d h1 h2 h3 h4 => ?_) ?_
          · rcases Nat.lt_or_ge i m with q | q
            · exact hmono i (hm1 i q hei)
            · rcases Nat.lt_or_ge i j with q' | q'
              · exact absurd hei (hno i q q')
              · have : i = j := by omega
                subst this; exact hjj
          · rw [hne i (by omega)]
            exact hm2 i (by omega) hei
          · have hdue : Due C ops L d := ⟨i, o', h1, h2, h3, h4⟩
            have hm0 := hI i o' d h1 h2 h3 h4
            obtain ⟨c, _, hc, _⟩ := hla' i o' d h1 h2 h3
            have hnt : zbo C (FD C ops fr0 S0 L ops.length) o ≠ some d := fun q => by
              have := hbx d q
              rw [zcB hdue, hm0, hc] at this; cases this
            rw [← hm0]
            cases ht : zbo C (FD C ops fr0 S0 L ops.length) o with
            | none => rw [ht] at htag; exact congrFun htag d
            | some e => rw [ht] at htag; exact htag.2 d fun q => hnt (by rw [ht, q])
          · rw [zbX hl]
            refine (eff_bx (bx2 := (rst C ops L (stp C ops fr0 S0 m).2).bx) hy hk' hbx).trans ?_
            congr 2
            refine St.ext' (fun d => ?_) rfl
            have he : zbo C (FD C ops fr0 S0 L ops.length) o ≠ some d → (stp C ops fr0 S0 (j + 1)).2.bx d = (stp C ops fr0 S0 m).2.bx d := fun q => by
              cases ht : zbo C (FD C ops fr0 S0 L ops.length) o with
              | none => rw [ht] at htag; exact congrFun htag d
              | some e => rw [ht] at htag; exact htag.2 d fun q' => q (by rw [ht, q'])
            have hd : zbo C (FD C ops fr0 S0 L ops.length) o = some d → ¬ Due C ops L d := fun q hu => by
              obtain ⟨i, o', h1, h2, h3, h4⟩ := id hu
              obtain ⟨c, _, hc, _⟩ := hla' i o' d h1 h2 h3
              have := hbx d q
              rw [zcB hu, hI i o' d h1 h2 h3 h4, hc] at this; cases this
            show zkC (zbo C (FD C ops fr0 S0 L ops.length) o) (stp C ops fr0 S0 (j + 1)).2.bx (rst C ops L (stp C ops fr0 S0 m).2).bx d = _
            have keep : zbo C (FD C ops fr0 S0 L ops.length) o ≠ some d → (rst C ops L (stp C ops fr0 S0 m).2).bx d = (rst C ops L (stp C ops fr0 S0 (j + 1)).2).bx d := fun q => by
              by_cases hu : Due C ops L d
              · rw [zcB hu, zcB hu]
              · rw [zcZ hu, zcZ hu, he q]
            cases ht : zbo C (FD C ops fr0 S0 L ops.length) o with
            | none => exact keep (by rw [ht]; exact fun q => by cases q)
            | some e =>
              show (if d = e then (stp C ops fr0 S0 (j + 1)).2.bx d else (rst C ops L (stp C ops fr0 S0 m).2).bx d) = _
              by_cases q : d = e
              · subst q
                rw [if_pos rfl, zcZ (hd ht)]
              · rw [if_neg q]
                exact keep (by rw [ht]; exact fun q' => q (by cases q'; rfl))
  have hrep : ∀ i, (Array.replicate ops.length false).getD i false = false := fun i => by
    rw [Array.getD_eq_getD_getElem?, Array.getElem?_replicate]
    split <;> rfl
  have hFD : ∀ m, FD C ops fr0 S0 (Array.replicate ops.length false) m = fr0 := by
    intro m
    induction m with
    | zero => rfl
    | succ m ih => unfold FD; rw [hrep]; exact ih
  have hst0 : rst C ops (Array.replicate ops.length false) S0 = Sb := by
    refine St.ext' (fun d => ?_) hhp
    by_cases hu : Due C ops (Array.replicate ops.length false) d
    · rw [zcB hu]
      obtain ⟨i, o', h1, h2, h3, h4⟩ := hu
      exact (hla' i o' d h1 h2 h3).choose_spec.1.symm
    · rw [zcZ hu]
      refine hoth d fun o ho hl hd => ?_
      obtain ⟨i, hi⟩ := List.mem_iff_getElem?.1 ho
      exact hu ⟨i, o, hi, hl, hd, hrep i⟩
  refine main ops.length _ a w β lam (List.range ops.length) 0 (by simp) (by simp) (fun i hi _ => List.mem_range.2 hi) ?_ (fun i hi => by rw [hrep] at hi; cases hi) (Nat.zero_le _) (fun i hi => by omega) (fun i _ _ => hrep i) (fun i o d _ _ _ _ => rfl) ?_ ?_
  · intro i o hi
    rw [hrep] at hi; cases hi
  · rw [hFD]
    show Good C.P w0 H0 β0 fr0 (rst C ops _ S0) a w β lam
    rw [hst0]; exact hG
  · show zbw W S1 a1 β1 l1 (rst C ops _ S0) a β lam
    rw [hst0]; exact hM
end Go.AM
namespace Go.AM
open Go
theorem sound {P : Program} {O : Orc} {ext : Ext1} (hm : P.follows .mixedOrders = true) (he : ExtC P ext) (hx : XtC P O.xt) (ho : ExtO O ext) : SimC P O (run P O ext) := run_sound hm (fun O h f hh => zkT O h f hh) he hx ho
theorem sound1 {P : Program} {O : Orc} {ext : Ext1} (hm : P.follows .mixedOrders = true) (he : ExtC P ext) (hx : XtC P O.xt) (ho : ExtO O ext) {f : FuncId} (hf : O.xt f = none) (hp : O.pan f = false) {args : List Value} {H : Hp} {v : Value} {H' : Hp} (h : run P O ext f args H = some (v, H')) :
    zkn P f ∧ ∀ args' w β, LRel β args args' → Rel P w H β → Calls P f args'.toArray w fun e w' => ∃ v' β', e = .returned v' ∧ Rel P w' H' β' ∧ Ext w.heap.size w H β w' H' β' ∧ VRel β' v v' := by
  rcases sound (O := O) hm he hx ho f args H v H' h with ⟨h1, h2⟩ | ⟨_, _, h2, _⟩
  · refine ⟨h1, fun args' w β h3 h4 => Calls.mono (h2 args' w β h3 h4) fun e w' h5 => ?_⟩
    unfold Ends at h5
    rw [hp] at h5
    exact h5
  · exact absurd h2 (run_body hf h)
#print axioms sound
end Go.AM
namespace Go.AM
open Go Go.ChangeShapes Go.WideShapes Go.ChangeAt Go.RowKit
theorem zki {P : Program} {O : Orc} {ext : Ext1} (hm : P.follows .mixedOrders = true) (he : ExtC P ext) {f : FuncId} {W : World} {args : Array Value} {H H' : Hp} {β : Bt} {xs : List Value}
    (hR : Rel P W H β) (hno : ∀ i o, H.get i = some o → o.own = false) (ha : LRel β xs args.toList) (hrun : run P O ext f xs H = some (.bool true, H')) (hx : XtC P O.xt := by intro f e h; cases h) (hxf : O.xt f = none := by rfl) (ho : ExtO O ext := by intro f _; rfl) (hpf : O.pan f = false := by rfl) :
    Calls P f args W fun e W' => e = .returned (.bool true) ∧ Below W.heap.size W W' := by
  have h := (sound1 (O := O) hm he hx ho hxf hpf hrun).2 args.toList W β ha hR
  rw [show args.toList.toArray = args from by simp] at h
  refine h.mono fun e W' ⟨v', β', h1, h2, h3, h4⟩ => ?_
  cases h4
  exact ⟨h1, h3.os, h3.tape, h3.output, h3.size, fun k hk => h3.frame k hk fun ⟨i, o, x, g1, g2, _, _⟩ => by rw [hno i o g1] at g2; cases g2⟩
theorem zfB {HH : Type} {enc : TypeId × Value → HH} {P : Program} (hl : laidOutB P = true) {W W' : World} (hb : Below W.heap.size W W') :
    ∀ {ts : List TypeId} {vs : List Value} {ds : List (DataW HH)} {ps : List MemPlace}, (∀ t ∈ ts, P.readableRec t = true ∧ t < P.types.size) → DataW.TrodAll enc P W 0 (fun _ => true) true ts vs ds ps →
      (∀ x ∈ ps, x.block < W.heap.size) → DataW.TrodAll enc P W' 0 (fun b => decide (b < W.heap.size)) true ts vs ds ps
  | [], [], [], ps, _, h, _ => h
  | t :: ts, v :: vs, d :: ds, ps, ht, h, hlt => by
    obtain ⟨p, q, h1, h2, e⟩ := h
    have h0 := ht t (List.mem_cons_self ..)
    exact ⟨p, q, Below.trod hl h0.1 h0.2 h1 hb (fun x hx => hlt x (by rw [e]; simp [hx])), zfB hl hb (fun t h => ht t (List.mem_cons_of_mem _ h)) h2 (fun x hx => hlt x (by rw [e]; simp [hx])), e⟩
  | [], _ :: _, _, _, _, h, _ => h.elim
  | [], [], _ :: _, _, _, h, _ => h.elim
  | _ :: _, [], _, _, _, h, _ => h.elim
  | _ :: _, _ :: _, [], _, _, h, _ => h.elim
theorem post_true {HH : Type} {enc : TypeId × Value → HH} {P : Program} {f : Func} {s : ChangeSpec} (hl : laidOutB P = true) (hp : ∀ t ∈ f.params.toList, P.readableRec t = true ∧ t < P.types.size) (hv : s.vars = [])
    {tb : TypeId} (hr : f.resultTypes = #[tb]) (hb : P.underlying tb = some .bool) {W W' : World} {args : Array Value} {ds gs : List (DataW HH)} {before : List MemPlace}
    (hW : DataW.Whole enc P f.params.toList s.vars false W args.toList ds gs before) (hB : Below W.heap.size W W') (hfn : s.fn HH (ds ++ gs) = { results := [.lit (.bool true)], args := ds }) :
    s.post enc P f false true false false W args (.bool true) W' := by
  have hlt := hW.lt
  obtain ⟨p, q, h1, h2, e, h3, h4⟩ := id hW
  rw [hv] at h2
  have hq : gs = [] ∧ q = [] := by
    cases gs with
    | nil => exact ⟨rfl, h2⟩
    | cons g gs => exact h2.elim
  refine ⟨ds, gs, before, [], p, [], hW, ?_, ?_, ?_, ?_, fun h => by cases h⟩
  · rw [hfn, hr]
    exact trodAll_cons_mk (shut_bool hb _) trodAll_mk0
  · rw [hfn]
    exact zfB hl hB hp h1 (fun x hx => hlt x (by rw [e]; simp [hx]))
  · rw [hfn, hv]; rfl
  · exact hB.frame _
theorem zkt {P : Program} {W : World} (h : W.ShapedOpen P) (hg : P.globals.size = 0 ∨ ∃ x, (((begin P (fun _ _ => 0) default).world.heap[P.globals.size - 1]?).bind Obj.row?) = some x) : P.globals.size ≤ W.heap.size := by
  rcases hg with hg | ⟨⟨z, t⟩, hx⟩
  · omega
  · rcases Nat.eq_zero_or_pos P.globals.size with h0 | h0
    · omega
    · obtain ⟨cs, hc, _⟩ := h.1 (P.globals.size - 1) z t (by omega) hx
      have := (Array.getElem?_eq_some_iff.1 hc).1
      omega
end Go.AM
namespace Go.AM
open Go Go.ChangeShapes Go.WideShapes Go.ChangeAt Go.RowKit
variable {HH : Type} {enc : TypeId × Value → HH} {P : Program} {w : World} {base : Nat} {sp : Nat → Bool} {held : Bool}
def B00 (P : Program) : Bt := fun g => if g < P.globals.size then some ⟨g, 0, 0⟩ else none
end Go.AM
namespace Go.AM
open Go
theorem Rel.freeze {P : Program} {w w' : World} {H : Hp} {β : Bt} (h : Rel P w H β) {i : Nat} {cs : List Value} {x : BI} (hi : H.get i = some (.cells cs true)) (hx : β i = some x)
    (ho : w'.os = w.os) (ht : w'.tape = w.tape) (hu : w'.output = w.output) (hs : w'.heap.size = w.heap.size) (hoth : ∀ k, k ≠ x.b → w'.heap[k]? = w.heap[k]?)
    (hrow : ∀ arr e fz, w.heap[x.b]? = some (.cells arr e fz) → ∃ fz', w'.heap[x.b]? = some (.cells arr e fz')) :
    Rel P w' (H.set i (some (.cells cs false))) β ∧ Ext w.heap.size w H β w' (H.set i (some (.cells cs false))) β := by
  have hfr : ∀ j o y, j ≠ i → H.get j = some o → β j = some y → w'.heap[y.b]? = w.heap[y.b]? := fun j o y hji hj hy =>
    hoth _ (fun e => h.apart i j _ _ x y (Ne.symm hji) hi hj rfl hx hy e.symm)
  refine ⟨⟨fun j ds own hj => ?_, fun j kv hj => ?_, fun j k o o' y z hjk hj hk hoo hy hz => ?_, fun j hj => ?_, fun j y hy => ?_, h.glob, fun j o hj => (by
      rw [Hp.get_set] at hj
      split at hj
      · cases hj
      · rename_i hji
        obtain ⟨y, hy, h0, h3⟩ := h.fix j o hj
        exact ⟨y, hy, h0, by rw [hfr j _ y hji hj hy]; exact h3⟩), fun j T hj => (by
      obtain ⟨y, arr, fz, hy, h1, h2, h3⟩ := h.tys j T hj
      by_cases e : y.b = x.b
      · rw [e] at h2
        obtain ⟨fz', h4⟩ := hrow arr T fz h2
        exact ⟨y, arr, fz', hy, h1, by rw [e]; exact h4, h3⟩
      · exact ⟨y, arr, fz, hy, h1, by rw [hoth _ e]; exact h2, h3⟩)⟩,
    ⟨ho, ht, hu, by rw [hs]; exact Nat.le_refl _, Bt.le_refl _, Nat.le_refl _, fun b hb hno => ?_, fun b => ?_, fun j y hy hn => by rw [hn] at hy; cases hy⟩⟩
  · rw [Hp.get_set] at hj
    split at hj
    · rename_i hji
      cases hj
      subst hji
      obtain ⟨x', hx', h1, _⟩ := h.cells j cs true hi
      rw [hx] at hx'; cases hx'
      refine ⟨x, hx, fun k v hk => ?_, fun q => by cases q⟩
      obtain ⟨v', hv', hr⟩ := h1 k v hk
      obtain ⟨arr, e, fz, g1, g2⟩ := zbH.1 hv'
      obtain ⟨fz', g3⟩ := hrow arr e fz g1
      exact ⟨v', zbH.2 ⟨arr, e, fz', g3, g2⟩, hr⟩
    · rename_i hji
      obtain ⟨y, hy, h3, h4⟩ := h.cells j ds own hj
      have hw := hfr j _ y hji hj hy
      refine ⟨y, hy, fun k v hk => ?_, fun q => ⟨(h4 q).1.congr hw, (h4 q).2⟩⟩
      obtain ⟨v', hv', hr⟩ := h3 k v hk
      exact ⟨v', by rw [zci hw]; exact hv', hr⟩
  · rw [Hp.get_set] at hj
    split at hj
    · cases hj
    · rename_i hji
      obtain ⟨y, hy, es, clock, h3, h4⟩ := h.maps j kv hj
      exact ⟨y, hy, es, clock, by rw [hfr j _ y hji hj hy]; exact h3, h4⟩
  · rw [Hp.get_set] at hj hk
    split at hj
    · cases hj; cases hoo
    · have hk' : ∃ q, H.get k = some q := by
        split at hk
        · rename_i e; subst e; exact ⟨_, hi⟩
        · exact ⟨_, hk⟩
      obtain ⟨q, g⟩ := hk'
      exact h.apart j k o q y z hjk hj g hoo hy hz
  · have := h.fresh j hj
    rw [Hp.get_set, if_neg (fun e => by subst e; rw [hi] at this; cases this.1)]
    exact this
  · rw [hs]; exact h.lt j y hy
  · exact hoth b (fun e => by subst e; exact hno ⟨i, _, x, hi, rfl, hx, rfl⟩)
  · rintro ⟨j, o, y, hj, hoo, hy, rfl⟩
    rw [Hp.get_set] at hj
    split at hj
    · cases hj; cases hoo
    · exact .inr ⟨j, o, y, hj, hoo, hy, rfl⟩
end Go.AM
namespace Go.AM
open Go
structure Lim {α : Type} (F : Nat → Option α) (x : Option α) : Prop where
  mono : ∀ n r, F n = some r → F (n + 1) = some r
  le : ∀ n r, F n = some r → x = some r
  sup : ∀ r, x = some r → ∃ n, F n = some r
section
variable {α γ : Type}
theorem Lim.const (x : Option α) : Lim (fun _ => x) x := ⟨fun _ _ h => h, fun _ _ h => h, fun _ h => ⟨0, h⟩⟩
theorem Lim.of_eq {F : Nat → Option α} {x : Option α} (h : ∀ n, F n = x) : Lim F x := by
  have : F = fun _ => x := funext h
  rw [this]; exact Lim.const x
theorem Lim.mono' {F : Nat → Option α} {x : Option α} (h : Lim F x) {n m : Nat} (hm : n ≤ m) {r : α} (hr : F n = some r) : F m = some r := by
  induction m with
  | zero => have : n = 0 := by omega
            subst this; exact hr
  | succ m ih =>
    rcases Nat.lt_or_ge m n with q | q
    · have : n = m + 1 := by omega
      subst this; exact hr
    · exact h.mono m r (ih q)
theorem Lim.bind {F : Nat → Option γ} {x : Option γ} (h : Lim F x) {G : Nat → γ → Option α} {g : γ → Option α} (hg : ∀ v, Lim (fun n => G n v) (g v)) : Lim (fun n => (F n).bind (G n)) (x.bind g) := by
  have inv : ∀ {a : Option γ} {f : γ → Option α} {r : α}, a.bind f = some r → ∃ v, a = some v ∧ f v = some r := fun {a f r} h => by
    cases a with
    | none => cases h
    | some v => exact ⟨v, rfl, h⟩
  refine ⟨fun n r hr => ?_, fun n r hr => ?_, fun r hr => ?_⟩
  · obtain ⟨v, h1, h2⟩ := inv hr
    rw [h.mono n v h1]; exact (hg v).mono n r h2
  · obtain ⟨v, h1, h2⟩ := inv hr
    rw [h.le n v h1]; exact (hg v).le n r h2
  · obtain ⟨v, h1, h2⟩ := inv hr
    obtain ⟨n, hn⟩ := h.sup v h1
    obtain ⟨m, hm⟩ := (hg v).sup r h2
    refine ⟨max n m, ?_⟩
    rw [h.mono' (Nat.le_max_left n m) hn]
    exact (hg v).mono' (Nat.le_max_right n m) hm
theorem Lim.nat {p : Option γ} {X : Nat → Option α} {x : Option α} {G : Nat → γ → Option α} {g : γ → Option α} (hX : ∀ n, X n = p.bind (G n)) (hx : x = p.bind g) (hg : ∀ v, Lim (fun n => G n v) (g v)) : Lim X x := by
  have : X = fun n => p.bind (G n) := funext hX
  rw [this, hx]
  exact (Lim.const p).bind hg
def zgf (f : List Value → Hp → Option Outc) (o : Outc) : Option Outc :=
  match o with
  | (.next, l, H) => f l H
  | r => some r
theorem zcU (s : List Value → Hp → Option Outc) (m : Nat) (l : List Value) (H : Hp) : zex s (m + 1) l H = (s l H).bind (zgf (zex s m)) := by
  show (match s l H with | some (.next, l', H') => zex s m l' H' | r => r) = _
  rcases s l H with _ | ⟨c, l', H'⟩
  · rfl
  · cases c <;> rfl
theorem bind_some {α γ : Type} {a : Option γ} {f : γ → Option α} {r : α} (h : a.bind f = some r) : ∃ v, a = some v ∧ f v = some r := by
  cases a with
  | none => cases h
  | some v => exact ⟨v, rfl, h⟩
theorem zjW {f g : List Value → Hp → Option Outc} {o r : Outc} (h : ∀ l H, f l H = some r → g l H = some r) (hr : zgf f o = some r) : zgf g o = some r := by
  obtain ⟨c, l, H⟩ := o
  cases c with
  | next => exact h l H hr
  | _ => exact hr
theorem zj0 {step : List Value → Hp → Option Outc} : ∀ (n : Nat) {l : List Value} {H : Hp} {r : Outc}, zex step n l H = some r → zex step (n + 1) l H = some r
  | 0, l, H, r, h => by cases h
  | n + 1, l, H, r, h => by
    rw [zcU] at h ⊢
    obtain ⟨v, h1, h2⟩ := bind_some h
    rw [h1]
    exact zjW (fun l H => zj0 n) h2
theorem zlF {step : List Value → Hp → Option Outc} {n m : Nat} (hm : n ≤ m) {l : List Value} {H : Hp} {r : Outc} (h : zex step n l H = some r) : zex step m l H = some r := by
  induction m with
  | zero => have : n = 0 := by omega
            subst this; exact h
  | succ m ih =>
    rcases Nat.lt_or_ge m n with q | q
    · have : n = m + 1 := by omega
      subst this; exact h
    · exact zj0 m (ih q)
theorem zb1 {step : List Value → Hp → Option Outc} {l : List Value} {H : Hp} {r : Outc} : zaE step l H = some r ↔ ∃ n, zex step n l H = some r := by
  unfold zaE
  constructor
  · intro h
    split at h
    · rename_i hex
      obtain ⟨n, hn⟩ := hex.choose_spec
      have h : hex.choose = r := by simpa using h
      exact ⟨n, by rw [hn, h]⟩
    · cases h
  · rintro ⟨n, hn⟩
    have hex : ∃ r n, zex step n l H = some r := ⟨r, n, hn⟩
    rw [dif_pos hex]
    obtain ⟨m, hm⟩ := hex.choose_spec
    have h1 := zlF (Nat.le_max_left n m) hn
    have h2 := zlF (Nat.le_max_right n m) hm
    rw [h1] at h2
    exact h2.symm
theorem zam (step : List Value → Hp → Option Outc) (l : List Value) (H : Hp) : zaE step l H = (step l H).bind (zgf (zaE step)) := by
  apply Option.ext
  intro r
  rw [zb1]
  constructor
  · rintro ⟨n, hn⟩
    cases n with
    | zero => cases hn
    | succ n =>
      rw [zcU] at hn
      obtain ⟨v, h1, h2⟩ := bind_some hn
      rw [h1]
      exact zjW (fun l H h => zb1.2 ⟨n, h⟩) h2
  · intro h
    obtain ⟨⟨c, l', H'⟩, h1, h2⟩ := bind_some h
    cases c with
    | next =>
      obtain ⟨n, hn⟩ := zb1.1 h2
      exact ⟨n + 1, by rw [zcU, h1]; exact hn⟩
    | _ => exact ⟨1, by rw [zcU, h1]; exact h2⟩
theorem Lim.iter {F : Nat → List Value → Hp → Option Outc} {step : List Value → Hp → Option Outc} (h : ∀ l H, Lim (fun n => F n l H) (step l H)) : ∀ (m : Nat) (l : List Value) (H : Hp), Lim (fun n => zex (F n) m l H) (zex step m l H)
  | 0, l, H => Lim.const none
  | m + 1, l, H => by
    have e1 : (fun n => zex (F n) (m + 1) l H) = fun n => (F n l H).bind (zgf (zex (F n) m)) := funext fun n => zcU (F n) m l H
    rw [e1, zcU]
    refine (h l H).bind fun o => ?_
    obtain ⟨c, l', H'⟩ := o
    cases c with
    | next => exact Lim.iter h m l' H'
    | _ => exact Lim.const _
theorem Lim.loop {F : Nat → List Value → Hp → Option Outc} {step : List Value → Hp → Option Outc} (h : ∀ l H, Lim (fun n => F n l H) (step l H)) (l : List Value) (H : Hp) : Lim (fun n => zaE (F n) l H) (zaE step l H) := by
  refine ⟨fun n r hr => ?_, fun n r hr => ?_, fun r hr => ?_⟩
  · obtain ⟨m, hm⟩ := zb1.1 hr
    exact zb1.2 ⟨m, (Lim.iter h m l H).mono n r hm⟩
  · obtain ⟨m, hm⟩ := zb1.1 hr
    exact zb1.2 ⟨m, (Lim.iter h m l H).le n r hm⟩
  · obtain ⟨m, hm⟩ := zb1.1 hr
    obtain ⟨n, hn⟩ := (Lim.iter h m l H).sup r hm
    exact ⟨n, zb1.2 ⟨m, hn⟩⟩
structure zed (P : Program) (O : Orc) (f : FuncId) (hs : Nat → zae) (h : zae) : Prop where
  lim : ∀ g a H, Lim (fun n => hs n g a H) (h g a H)
variable {P : Program} {O : Orc} {f : FuncId} {hs : Nat → zae} {h : zae}
theorem zjK {α : Type} {v : Value} {K KP : Nat → Value → Option α} {k kp : Value → Option α} (hk : ∀ u, Lim (fun n => K n u) (k u)) (hp : ∀ u, Lim (fun n => KP n u) (kp u)) : Lim (fun n => zen v (K n) (KP n)) (zen v k kp) := by
  unfold zen
  split
  · exact hk _
  · exact hp _
  · exact Lim.const _
theorem opR_lim (hc : zed P O f hs h) (fr : Fr) (S : St) (o : Oper) : Lim (fun n => opR ⟨P, O, hs n, f⟩ fr S o) (opR ⟨P, O, h, f⟩ fr S o) := by
  unfold opR opC
  dsimp only
  cases o.op <;> (try dsimp only) <;> first | exact Lim.of_eq fun n => rfl | skip
  case makeMap t r => cases r <;> exact Lim.of_eq fun n => rfl
  case slice T x lo hi mx => cases mx <;> exact Lim.of_eq fun n => rfl
  case next it b => cases b <;> exact Lim.of_eq fun n => rfl
  rename_i c
  rcases c.callee with fo | ⟨rv, m⟩ | b
  · refine Lim.nat (fun n => zaq (g := some) fun v => rfl) (zaq (g := some) fun v => rfl) fun fv => ?_
    refine Lim.nat (fun n => za7 _ (g := some) fun v => rfl) (za7 _ (g := some) fun v => rfl) fun vs => ?_
    have e : ∀ h' : zae, zdV O h' fv vs S.hp (fun v H => some (Slot.val v, (⟨S.bx, H⟩ : St))) = (zdV O h' fv vs S.hp fun v H => some (v, H)).bind fun p => some (Slot.val p.1, (⟨S.bx, p.2⟩ : St)) := fun h' => zfP fun _ _ => rfl
    have e1 : (fun n => zdV O (hs n) fv vs S.hp (fun v H => some (Slot.val v, (⟨S.bx, H⟩ : St)))) = fun n => (zdV O (hs n) fv vs S.hp fun v H => some (v, H)).bind fun p => some (Slot.val p.1, (⟨S.bx, p.2⟩ : St)) := funext fun n => e (hs n)
    show Lim (fun n => zdV O (hs n) fv vs S.hp (fun v H => some (Slot.val v, (⟨S.bx, H⟩ : St)))) (zdV O h fv vs S.hp (fun v H => some (Slot.val v, (⟨S.bx, H⟩ : St))))
    rw [e1, e h]
    refine Lim.bind ?_ fun v => Lim.const _
    unfold zdV
    split
    · rename_i g first captured
      cases O.pan g with
      | true =>
        have e2 : ∀ h' : zae, zd4 h' g (first.toList ++ (vs ++ captured.toList)) S.hp (fun v H => some (v, H)) = (h' g (first.toList ++ (vs ++ captured.toList)) S.hp).bind fun p => zen p.1 (fun u => some (u, p.2)) fun _ => none := fun h' => by
          unfold zd4
          rcases h' g (first.toList ++ (vs ++ captured.toList)) S.hp with _ | ⟨v, H'⟩ <;> rfl
        simp only [e2]
        exact (hc.lim g _ S.hp).bind fun p => Lim.const _
      | false =>
      dsimp only
      have e2 : ∀ h' : zae, zaf h' g (first.toList ++ (vs ++ captured.toList)) S.hp (fun v H => some (v, H)) = h' g (first.toList ++ (vs ++ captured.toList)) S.hp := fun h' => by
        unfold zaf
        rcases h' g (first.toList ++ (vs ++ captured.toList)) S.hp with _ | ⟨v, H'⟩ <;> rfl
      simp only [e2]
      exact hc.lim g _ S.hp
    · exact Lim.const _
  · exact Lim.const _
  · exact Lim.const _
theorem zi5 (hc : zed P O f hs h) {fr : Fr} {S : St} {o : Oper} {K : Nat → Slot → St → Option α} {k : Slot → St → Option α} (hk : ∀ s S, Lim (fun n => K n s S) (k s S)) : Lim (fun n => opC ⟨P, O, hs n, f⟩ fr S o (K n)) (opC ⟨P, O, h, f⟩ fr S o k) := by
  have e1 : (fun n => opC ⟨P, O, hs n, f⟩ fr S o (K n)) = fun n => (opR ⟨P, O, hs n, f⟩ fr S o).bind fun p => K n p.1 p.2 := funext fun n => zkJ _ _ _ _ _
  rw [e1, zkJ]
  exact (opR_lim hc fr S o).bind fun p => hk p.1 p.2
theorem opW_lim (hc : zed P O f hs h) {fr : Fr} {S : St} {o : Oper} {KP : Nat → Value → Hp → Option α} {kp : Value → Hp → Option α} (hp : ∀ x H, Lim (fun n => KP n x H) (kp x H)) {K : Nat → Slot → St → Option α} {k : Slot → St → Option α} (hk : ∀ s S, Lim (fun n => K n s S) (k s S)) :
    Lim (fun n => opW ⟨P, O, hs n, f⟩ fr S o (KP n) (K n)) (opW ⟨P, O, h, f⟩ fr S o kp k) := by
  unfold opW
  split
  · rename_i c _
    split
    · rename_i g _
      dsimp only
      refine Lim.nat (fun n => za7 _ (g := some) fun v => rfl) (za7 _ (g := some) fun v => rfl) fun vs => ?_
      have e2 : ∀ (h' : zae) (q1 q2 : Value → Hp → Option α), za4 h' g vs S.hp q1 q2 = (h' g vs S.hp).bind fun p => zen p.1 (fun u => q2 u p.2) fun x => q1 x p.2 := fun h' q1 q2 => by
        unfold za4
        rcases h' g vs S.hp with _ | ⟨v, H'⟩ <;> rfl
      show Lim (fun n => za4 (hs n) g vs S.hp (KP n) fun v H => K n (.val v) ⟨S.bx, H⟩) (za4 h g vs S.hp kp fun v H => k (.val v) ⟨S.bx, H⟩)
      simp only [e2]
      exact (hc.lim g _ S.hp).bind fun p => zjK (fun u => hk _ _) fun x => hp _ _
    · exact Lim.const _
  · dsimp only
    refine Lim.nat (fun n => zaq (g := some) fun v => rfl) (zaq (g := some) fun v => rfl) fun v => ?_
    cases v <;> first | exact hp _ _ | exact Lim.const _
  · exact Lim.const _
theorem ziy {α : Type} (ops : List Oper) (fr : Fr) (o : Oper) (k : Bool → Fr → Option α) : zdv ops fr o k = (zdv ops fr o fun b fr => some (b, fr)).bind fun p => k p.1 p.2 := by
  unfold zdv
  split
  · rfl
  · split
    · split
      · split
        · rfl
        · exact zaq fun v => zep fun b => br_nat rfl rfl
      · rfl
    · rfl
theorem ziz {α : Type} {ops : List Oper} {fr : Fr} {o : Oper} {K : Nat → Bool → Fr → Option α} {k : Bool → Fr → Option α} (hk : ∀ b fr, Lim (fun n => K n b fr) (k b fr)) : Lim (fun n => zdv ops fr o (K n)) (zdv ops fr o k) :=
  Lim.nat (fun n => ziy ops fr o (K n)) (ziy ops fr o k) fun p => hk p.1 p.2
theorem zgT {α : Type} (hc : zed P O f hs h) {ops : List Oper} {KP : Nat → Value → Hp → Option α} {kp : Value → Hp → Option α} (hp : ∀ x H, Lim (fun n => KP n x H) (kp x H)) {K : Nat → Fr → St → Option α} {k : Fr → St → Option α} (hk : ∀ fr S, Lim (fun n => K n fr S) (k fr S)) : ∀ (l : List Oper) (fr : Fr) (S : St), Lim (fun n => opsC ⟨P, O, hs n, f⟩ ops (KP n) (K n) l fr S) (opsC ⟨P, O, h, f⟩ ops kp k l fr S)
  | [], fr, S => hk fr S
  | o :: l, fr, S => by
    refine ziz fun b fr => ?_
    cases b with
    | true =>
      have e : ∀ h', panS ⟨P, O, h', f⟩ o = panS ⟨P, O, h, f⟩ o := fun h' => rfl
      simp only [e]
      cases O.pan f && panS ⟨P, O, h, f⟩ o with
      | false => exact zi5 hc fun s S' => zgT hc hp hk l _ _
      | true => exact opW_lim hc hp fun s S' => zgT hc hp hk l _ _
    | false => exact zgT hc hp hk l _ _
theorem zjh {α : Type} {p : Prop} (k : Option α) : chk p k = (chk p (some ())).bind fun _ => k := by
  unfold chk; split <;> rfl
theorem zkl {α : Type} (C : Ctx) (fr : Fr) (S : St) (o : Oper) (s : Slot) (k : Option α) : zgm C fr S o s k = (zgm C fr S o s (some ())).bind fun _ => k := by
  unfold zgm
  dsimp only
  cases s <;> first | rfl | skip
  rename_i v
  cases o.op <;> (try dsimp only) <;> first | rfl | skip
  case load T a =>
    refine zcb fun n agg => ?_
    cases ev C.P.globals.size fr a with
    | loc d off =>
      dsimp only
      rcases S.bx d with _ | b
      · rfl
      · cases b <;> first | rfl | exact zjh k
    | val p => exact zjh k
    | _ => rfl
  case lookup T m key ok => exact zaq fun m => zaq fun key => zbu fun kt z => zjh k
  case call c =>
    refine za7 _ fun vs => ?_
    generalize c.argTypes.toList = ts
    rcases vs with _ | ⟨x, _ | ⟨y, vs⟩⟩ <;> rcases ts with _ | ⟨t, _ | ⟨u, ts⟩⟩ <;> (try dsimp only) <;> first | rfl | skip
    rcases C.P.underlying t with _ | d
    · rfl
    · dsimp only
      rcases lenK d with _ | q
      · rfl
      · exact zjh k
theorem zkm {α : Type} {fr : Fr} {S : St} {o : Oper} {s : Slot} {K : Nat → Option α} {k : Option α} (hk : Lim K k) : Lim (fun n => zgm ⟨P, O, hs n, f⟩ fr S o s (K n)) (zgm ⟨P, O, h, f⟩ fr S o s k) := by
  have e : ∀ h', zgm ⟨P, O, h', f⟩ fr S o s (some ()) = zgm ⟨P, O, h, f⟩ fr S o s (some ()) := fun h' => rfl
  exact Lim.nat (p := zgm ⟨P, O, h, f⟩ fr S o s (some ())) (G := fun n _ => K n) (g := fun _ => k) (fun n => by rw [zkl, e]) (zkl _ _ _ _ _ _) fun _ => hk
theorem zfx {α : Type} {a i : Nat} {o : Oper} {fr : Fr} {s : Slot} {tag : Option Nat} {K : Nat → Option α} {k : Option α} (hk : Lim K k) : ∀ es : List (Nat × Option Nat × St), Lim (fun n => zeA ⟨P, O, hs n, f⟩ a i o fr s tag (K n) es) (zeA ⟨P, O, h, f⟩ a i o fr s tag k es)
  | [] => hk
  | (j, t, S) :: es => by
    unfold zeA
    split
    · exact zfx hk es
    · exact zkm (zfx hk es)
theorem zdY {α : Type} {a : Nat} {tag : Option Nat} {S : St} {K : Nat → Option α} {k : Option α} (hk : Lim K k) : ∀ rs : List Rd, Lim (fun n => zd0 ⟨P, O, hs n, f⟩ a tag S (K n) rs) (zd0 ⟨P, O, h, f⟩ a tag S k rs)
  | [] => hk
  | r :: rs => by
    unfold zd0
    split
    · exact zdY hk rs
    · exact zkm (zdY hk rs)
theorem zkI (hc : zed P O f hs h) {fr : Fr} {S : St} {o : Oper} {K : Nat → Slot → St → Option α} {k : Slot → St → Option α} (hk : ∀ s S, Lim (fun n => K n s S) (k s S)) : Lim (fun n => opD ⟨P, O, hs n, f⟩ fr S o (K n)) (opD ⟨P, O, h, f⟩ fr S o k) := by
  unfold opD
  dsimp only
  cases hl : isLA O f o with
  | true =>
    cases hd : o.dst with
    | none => exact Lim.const _
    | some d => exact hk _ _
  | false => exact zi5 hc hk
theorem zgi (hc : zed P O f hs h) {K : Nat → St → Option α} {k : St → Option α} (hk : ∀ S, Lim (fun n => K n S) (k S)) : ∀ (l : List Oper) (S : St), Lim (fun n => zgy ⟨P, O, hs n, f⟩ (K n) l S) (zgy ⟨P, O, h, f⟩ k l S)
  | [], S => hk S
  | o :: l, S => by
    unfold zgy
    dsimp only
    cases isLA O f o with
    | true => exact zi5 hc fun _ S' => zgi hc hk l S'
    | false => exact zgi hc hk l S
theorem zdR {α : Type} (hc : zed P O f hs h) {ops : List Oper} {an : List Nat} {KP : Nat → Value → Hp → Option α} {kp : Value → Hp → Option α} (hp : ∀ x H, Lim (fun n => KP n x H) (kp x H)) {K : Nat → Fr → St → Option α} {k : Fr → St → Option α} (hk : ∀ fr S, Lim (fun n => K n fr S) (k fr S)) :
    ∀ (l : List Oper) (i : Nat) (fr : Fr) (S : St) (es : List (Nat × Option Nat × St)) (rs : List Rd), Lim (fun n => zgJ ⟨P, O, hs n, f⟩ ops an (KP n) (K n) l i fr S es rs) (zgJ ⟨P, O, h, f⟩ ops an kp k l i fr S es rs)
  | [], i, fr, S, es, rs => hk fr S
  | o :: l, i, fr, S, es, rs => by
    unfold zgJ
    refine ziz fun b fr => ?_
    cases b with
    | false => exact zdR hc hp hk l _ _ _ _ _
    | true =>
      dsimp only
      obtain ⟨tg, ht⟩ : ∃ t, ∀ h', zbo ⟨P, O, h', f⟩ fr o = t := ⟨zbo ⟨P, O, h, f⟩ fr o, fun h' => rfl⟩
      have e : ∀ h', panS ⟨P, O, h', f⟩ o = panS ⟨P, O, h, f⟩ o := fun h' => rfl
      simp only [ht, e]
      cases O.pan f && panS ⟨P, O, h, f⟩ o with
      | true =>
        refine opW_lim hc (fun x H => ?_) fun s S' => zdY (zdR hc hp hk l _ _ _ _ _) rs
        cases zlE ops an i with
        | true => exact hp _ _
        | false => exact Lim.const _
      | false =>
      dsimp only
      cases zby P O f o with
      | pure => exact zkI hc fun s S' => zdR hc hp hk l _ _ _ _ _
      | read => exact zkI hc fun s S' => zfx (zdR hc hp hk l _ _ _ _ _) es
      | eff => exact zkI hc fun s S' => zdY (zdR hc hp hk l _ _ _ _ _) rs
theorem drawH_lim {α : Type} (hc : zed P O f hs h) {ops : List Oper} {KP : Nat → Value → Hp → Option α} {kp : Value → Hp → Option α} (hp : ∀ x H, Lim (fun n => KP n x H) (kp x H)) {K : Nat → Fr → St → Option α} {k : Fr → St → Option α} (hk : ∀ fr S, Lim (fun n => K n fr S) (k fr S)) (fr : Fr) (S : St) :
    Lim (fun n => drawH ⟨P, O, hs n, f⟩ ops (KP n) (K n) fr S) (drawH ⟨P, O, h, f⟩ ops kp k fr S) :=
  zgi hc (fun S => zdR hc hp hk _ _ _ _ _ _) _ _
theorem zeH {α : Type} {fr : Fr} {S : St} : ∀ (rs : List ResultVar) (k : List Value → Option α), resC P fr S rs k = (resC P fr S rs some).bind k
  | [], k => rfl
  | .tmp t :: rs, k => by
    have e : ∀ {γ : Type} (k : List Value → Option γ), resC P fr S (.tmp t :: rs) k = sV (getS fr t) fun v => resC P fr S rs fun vs => k (v :: vs) := fun k => rfl
    rw [e, e]
    refine zaq fun v => ?_
    rw [zeH rs, zeH rs fun vs => some (v :: vs)]
    cases resC P fr S rs some <;> rfl
  | .cell t T :: rs, k => by
    unfold resC
    refine zcb fun n agg => ?_
    have e : ∀ v, (resC P fr S rs fun vs => k (v :: vs)) = (resC P fr S rs fun vs => some (v :: vs)).bind k := fun v => by
      rw [zeH rs, zeH rs fun vs => some (v :: vs)]
      cases resC P fr S rs some <;> rfl
    cases getS fr t with
    | loc d off =>
      dsimp only
      rcases S.bx d with _ | b
      · rfl
      · cases b <;> first | rfl | exact zhu e
    | val p => exact zho e
    | _ => rfl
structure KLim {α : Type} (K : Nat → AM.K α) (k : AM.K α) : Prop where
  norm : ∀ fr S, Lim (fun n => (K n).norm fr S) (k.norm fr S)
  exit : ∀ id fr S, Lim (fun n => (K n).exit id fr S) (k.exit id fr S)
  ret : ∀ v H, Lim (fun n => (K n).ret v H) (k.ret v H)
theorem zg6 {α γ : Type} {X : γ → Option α} {fr : Fr} : ∀ (ks : List Nat) {k : List Value → Option α} {g : List Value → Option γ}, (∀ v, k v = (g v).bind X) → zku fr ks k = (zku fr ks g).bind X
  | [], k, g, h => h []
  | d :: ks, k, g, h => zaq fun v => zg6 ks fun vs => h (v :: vs)
theorem zfG {α γ : Type} {X : γ → Option α} {S : St} : ∀ (ks : List Nat) {k : List Value → Option α} {g : List Value → Option γ}, (∀ v, k v = (g v).bind X) → ziQ S ks k = (ziQ S ks g).bind X
  | [], k, g, h => h []
  | d :: ks, k, g, h => by
    unfold ziQ boxV
    split
    · exact zfG ks fun vs => h _
    · exact zfG ks fun vs => h _
    · rfl
theorem zlU {α : Type} (x : Option Outc) (k : Ctl → List Value → Hp → Option α) : zat x k = x.bind fun o => k o.1 o.2.1 o.2.2 := by rcases x with _ | ⟨c, l, H⟩ <;> rfl
theorem zhX {α : Type} {X : Nat → Option Outc} {x : Option Outc} (hx : Lim X x) {K : Nat → Ctl → List Value → Hp → Option α} {k : Ctl → List Value → Hp → Option α} (hk : ∀ c l H, Lim (fun n => K n c l H) (k c l H)) :
    Lim (fun n => zat (X n) (K n)) (zat x k) := by
  have e : (fun n => zat (X n) (K n)) = fun n => (X n).bind fun o => K n o.1 o.2.1 o.2.2 := funext fun n => zlU _ _
  rw [e, zlU]
  exact hx.bind fun o => hk _ _ _
theorem zef {α : Type} {fr : Fr} : ∀ (rs : List ResultVar) (k : List Value → Option α), zh3 fr rs k = (zh3 fr rs some).bind k
  | [], k => rfl
  | .tmp t :: rs, k => by
    unfold zh3
    refine zaq fun v => ?_
    rw [zef rs, zef rs fun vs => some (v :: vs)]
    cases zh3 fr rs some <;> rfl
  | .cell t T :: rs, k => by
    unfold zh3
    exact zef rs k
theorem zlr {α : Type} {rs : List ResultVar} {ops : List Oper} {fr : Fr} {K : Nat → AM.K α} {k : AM.K α} (hk : KLim K k) (x : Value) (H : Hp) : Lim (fun n => panK ⟨P, O, hs n, f⟩ rs ops fr (K n) x H) (panK ⟨P, O, h, f⟩ rs ops fr k x H) := by
  unfold panK
  dsimp only
  cases O.dfr f with
  | false => exact hk.ret _ _
  | true =>
    cases zhF ops rs with
    | true => exact Lim.nat (fun n => zef rs _) (zef rs _) fun vs => hk.ret _ _
    | false => exact Lim.const _
theorem zb4 (hc : zed P O f hs h) (rs : List ResultVar) : ∀ (c : Code) {α : Type} (fr : Fr) (S : St) {K : Nat → AM.K α} {k : AM.K α}, KLim K k → Lim (fun n => exec ⟨P, O, hs n, f⟩ rs c α fr S (K n)) (exec ⟨P, O, h, f⟩ rs c α fr S k)
  | .skip, α, fr, S, K, k, hk => hk.norm fr S
  | .region id ops draw, α, fr, S, K, k, hk => by
    unfold exec
    cases draw with
    | false => exact zgT hc (zlr hk) hk.norm _ _ _
    | true =>
      dsimp only
      cases zfr P O f ops.toList (ancs ops.toList) with
      | true => exact drawH_lim hc (zlr hk) hk.norm _ _
      | false => exact Lim.const _
  | .seq a b, α, fr, S, K, k, hk => by
    unfold exec
    dsimp only
    rcases O.join f (rid b) with _ | ⟨ks, kb⟩
    · exact zb4 hc rs a fr S ⟨fun fr S => zb4 hc rs b fr S hk, hk.exit, hk.ret⟩
    · refine zhX (zb4 hc rs a fr _ ⟨fun _ _ => Lim.const _, fun _ _ _ => Lim.const _, fun _ _ => Lim.const _⟩) fun c l H => ?_
      cases c with
      | next => exact zb4 hc rs b _ _ hk
      | exit id => exact hk.exit _ _ _
      | ret => exact hk.ret _ _
  | .cond c x y, α, fr, S, K, k, hk => by
    unfold exec
    dsimp only
    refine Lim.nat (p := sV (ev P.globals.size fr c) fun v => zab v some) (G := fun n t => br t (exec ⟨P, O, hs n, f⟩ rs x α fr S (K n)) (exec ⟨P, O, hs n, f⟩ rs y α fr S (K n)))
      (g := fun t => br t (exec ⟨P, O, h, f⟩ rs x α fr S k) (exec ⟨P, O, h, f⟩ rs y α fr S k)) (fun n => zaq fun v => zep fun t => rfl) (zaq fun v => zep fun t => rfl) fun t => ?_
    cases t with
    | true => exact zb4 hc rs x fr S hk
    | false => exact zb4 hc rs y fr S hk
  | .block id c, α, fr, S, K, k, hk => by
    unfold exec
    refine zb4 hc rs c fr S ⟨hk.norm, fun j fr S => ?_, hk.ret⟩
    try dsimp only
    unfold zax
    cases Nat.beq j id with
    | true => exact hk.norm _ _
    | false => exact hk.exit _ _ _
  | .loop c, α, fr, S, K, k, hk => by
    obtain ⟨ks, kb, hq⟩ : ∃ ks kb, O.loop f (rid c) = (ks, kb) := ⟨_, _, rfl⟩
    unfold exec
    simp only [hq]
    refine Lim.nat (fun n => zg6 ks (g := some) fun v => rfl) (zg6 ks (g := some) fun v => rfl) fun vs => ?_
    refine Lim.nat (fun n => zfG kb (g := some) fun v => rfl) (zfG kb (g := some) fun v => rfl) fun bs => ?_
    refine zhX (Lim.loop (fun l H => zb4 hc rs c _ _ ⟨fun _ _ => Lim.const _, fun _ _ _ => Lim.const _, fun _ _ => Lim.const _⟩) _ _) fun c' l H => ?_
    cases c' with
    | next => exact Lim.const _
    | exit id => exact hk.exit _ _ _
    | ret => exact hk.ret _ _
  | .exit id, α, fr, S, K, k, hk => hk.exit id fr S
  | .ret, α, fr, S, K, k, hk => by
    unfold exec
    exact Lim.nat (fun n => zeH rs _) (zeH rs _) fun vs => hk.ret _ _
  | .rangeFunc _ _ _ _, _, _, _, _, _, _ => Lim.const _
  | .scope _, _, _, _, _, _, _ => Lim.const _
  | .label _, _, _, _, _, _, _ => Lim.const _
  | .goto _, _, _, _, _, _, _ => Lim.const _
  | .refuse _, _, _, _, _, _, _ => Lim.const _
theorem zkg {α : Type} {X : Nat → Option (Value × Hp)} {x : Option (Value × Hp)} (hx : Lim X x) {K : Nat → Value → Hp → Option α} {k : Value → Hp → Option α} (hk : ∀ l H, Lim (fun n => K n l H) (k l H)) :
    Lim (fun n => zf3 (X n) (K n)) (zf3 x k) := by
  have e0 : ∀ (x : Option (Value × Hp)) (k : Value → Hp → Option α), zf3 x k = x.bind fun o => k o.1 o.2 := fun x k => by rcases x with _ | ⟨l, H⟩ <;> rfl
  have e : (fun n => zf3 (X n) (K n)) = fun n => (X n).bind fun o => K n o.1 o.2 := funext fun n => e0 _ _
  rw [e, e0]
  exact hx.bind fun o => hk _ _
theorem zhN (hc : zed P O f hs h) (rs : List ResultVar) (c : Code) (fr : Fr) (S : St) : Lim (fun n => exec ⟨P, O, hs n, f⟩ rs c (Value × Hp) fr S (Kfun ⟨P, O, hs n, f⟩ rs)) (exec ⟨P, O, h, f⟩ rs c (Value × Hp) fr S (Kfun ⟨P, O, h, f⟩ rs)) :=
  zb4 hc rs c _ _ ⟨fun _ _ => Lim.of_eq fun n => rfl, fun _ _ _ => Lim.const _, fun _ _ => Lim.const _⟩
theorem zke {α : Type} (hc : zed P O f hs h) (g : FuncId) (args : List Value) (x : Value) (H : Hp) (k : Hp → Option α) : Lim (fun n => zf0 P O (hs n) g args x H k) (zf0 P O h g args x H k) := by
  have hg : zed P O g hs h := ⟨hc.lim⟩
  unfold zf0
  rcases P.funcs[g]? with _ | fn
  · exact Lim.const _
  · dsimp only
    cases fn.name == "runtime.NumGoroutine" with
    | true => exact Lim.const _
    | false =>
      cases O.pan g with
      | true => exact Lim.const _
      | false =>
        rcases fn.body with _ | c
        · exact Lim.const _
        · dsimp only
          rcases zlm c with _ | ⟨d, b⟩
          · exact Lim.const _
          · dsimp only
            exact zkg (zhN hg _ b _ _) (K := fun n _ H => k H) (k := fun _ H => k H) fun _ _ => Lim.const _
theorem zmn (hc : zed P O f hs h) (rs : List ResultVar) (b : Code) (fr : Fr) (S : St) (fo : Operand) : Lim (fun n => zgC ⟨P, O, hs n, f⟩ rs b fr S fo) (zgC ⟨P, O, h, f⟩ rs b fr S fo) := by
  unfold zgC
  cases zgl (wr b []) rs with
  | false => exact Lim.const _
  | true =>
    dsimp only
    rcases ev P.globals.size fr fo with _ | fv
    · exact Lim.const _
    · exact Lim.const _
    · rename_i fv
      unfold sV
      dsimp only
      unfold pClos
      split
      · rename_i g cs
        dsimp only
        refine zkg (zhN hc _ b _ _) fun v H => zjK (fun u => ?_) fun x => ?_
        · have q1 : ∀ vs : List Value, Lim (fun n => zjN rs vs fun tv => zf0 P O (hs n) g cs .nilIface H fun H' => endL P fr H' rs tv fun vs => some (W1 (resV vs), H')) (zjN rs vs fun tv => zf0 P O h g cs .nilIface H fun H' => endL P fr H' rs tv fun vs => some (W1 (resV vs), H')) := fun vs => by
            unfold zjN
            split
            · exact zke hc _ _ _ _ _
            · exact Lim.const _
          unfold ziI
          split
          · exact q1 _
          · split
            · exact q1 _
            · exact Lim.const _
        · unfold pTail
          split
          · exact zke hc _ _ _ _ _
          · exact Lim.const _
      · exact Lim.const _
    · exact Lim.const _
theorem zhM (hc : zed P O f hs h) (rs : List ResultVar) : ∀ (c : Code) (fr : Fr) (S : St), Lim (fun n => zj8 ⟨P, O, hs n, f⟩ rs c fr S) (zj8 ⟨P, O, h, f⟩ rs c fr S)
  | .seq a b, fr, S => by
    unfold zj8
    rcases zlQ a with _ | ⟨o1, fo⟩
    · dsimp only
      rcases O.join f (rid b) with _ | ⟨ks, kb⟩
      · exact zb4 hc rs a fr S ⟨fun fr S => zhM hc rs b fr S, fun _ _ _ => Lim.const _, fun _ _ => Lim.const _⟩
      · refine zhX (zb4 hc rs a fr _ ⟨fun _ _ => Lim.const _, fun _ _ _ => Lim.const _, fun _ _ => Lim.const _⟩) fun c l H => ?_
        cases c with
        | next => exact zhM hc rs b _ _
        | exit id => exact Lim.const _
        | ret => exact Lim.const _
    · exact zi5 hc fun s S' => zmn hc rs b _ _ fo
  | .skip, _, _ => Lim.const _
  | .region .., _, _ => Lim.const _
  | .cond .., _, _ => Lim.const _
  | .block .., _, _ => Lim.const _
  | .loop .., _, _ => Lim.const _
  | .exit _, _, _ => Lim.const _
  | .ret, _, _ => Lim.const _
  | .rangeFunc _ _ _ _, _, _ => Lim.const _
  | .scope _, _, _ => Lim.const _
  | .label _, _, _ => Lim.const _
  | .goto _, _, _ => Lim.const _
  | .refuse _, _, _ => Lim.const _
theorem execB_lim (hc : zed P O f hs h) (rs : List ResultVar) (c : Code) (fr : Fr) (S : St) : Lim (fun n => zml ⟨P, O, hs n, f⟩ rs c fr S) (zml ⟨P, O, h, f⟩ rs c fr S) := by
  unfold zml
  dsimp only
  cases O.dfr f with
  | false => exact zhN hc rs c _ _
  | true =>
    cases O.pan f with
    | true => exact zhM hc rs c fr S
    | false => exact Lim.const _
theorem zkf {ext : FuncId → Option (List Value → Hp → Option (Value × Hp))} (hc : ∀ f, zed P O f hs h) (g : FuncId) (args : List Value) (H : Hp) : Lim (fun n => zgK P O ext (hs n) g args H) (zgK P O ext h g args H) := by
  unfold zgK
  rcases P.funcs[g]? with _ | fn
  · exact Lim.const _
  · dsimp only
    cases fn.name == "runtime.NumGoroutine" with
    | true => exact Lim.const _
    | false =>
      dsimp only
      rcases fn.body with _ | c
      · exact Lim.const _
      · dsimp only
        rcases ext g with _ | e
        · exact execB_lim (hc g) _ c _ _
        · exact Lim.const _
theorem zfI {ext : FuncId → Option (List Value → Hp → Option (Value × Hp))} : ∀ (n : Nat) (g : FuncId) (args : List Value) (H : Hp) (r : Value × Hp), runN P O ext n g args H = some r → runN P O ext (n + 1) g args H = some r
  | 0, g, args, H, r, h => by cases h
  | n + 1, g, args, H, r, h => by
    have hch : ∀ f, zed P O f (fun i => match i with | 0 => runN P O ext n | _ => runN P O ext (n + 1)) (runN P O ext (n + 1)) := fun f => ⟨fun g a H => ⟨fun i r hr => by
        cases i with
        | zero => exact zfI n g a H r hr
        | succ i => exact hr, fun i r hr => by
        cases i with
        | zero => exact zfI n g a H r hr
        | succ i => exact hr, fun r hr => ⟨1, hr⟩⟩⟩
    exact (zkf (ext := ext) hch g args H).mono 0 r h
theorem ziS {ext : FuncId → Option (List Value → Hp → Option (Value × Hp))} {g : FuncId} {args : List Value} {H : Hp} {r : Value × Hp} : run P O ext g args H = some r ↔ ∃ n, runN P O ext n g args H = some r := by
  have hle : ∀ {n m : Nat} {r : Value × Hp}, n ≤ m → runN P O ext n g args H = some r → runN P O ext m g args H = some r := by
    intro n m r hm hr
    induction m with
    | zero => have : n = 0 := by omega
              subst this; exact hr
    | succ m ih =>
      rcases Nat.lt_or_ge m n with q | q
      · have : n = m + 1 := by omega
        subst this; exact hr
      · exact zfI m g args H r (ih q)
  unfold run
  constructor
  · intro h
    split at h
    · rename_i hex
      obtain ⟨n, hn⟩ := hex.choose_spec
      have h : hex.choose = r := by simpa using h
      exact ⟨n, by rw [hn, h]⟩
    · cases h
  · rintro ⟨n, hn⟩
    have hex : ∃ r n, runN P O ext n g args H = some r := ⟨r, n, hn⟩
    rw [dif_pos hex]
    obtain ⟨m, hm⟩ := hex.choose_spec
    have h1 := hle (Nat.le_max_left n m) hn
    have h2 := hle (Nat.le_max_right n m) hm
    rw [h1] at h2
    exact h2.symm
theorem run_eq {ext : FuncId → Option (List Value → Hp → Option (Value × Hp))} (g : FuncId) (args : List Value) (H : Hp) : run P O ext g args H = zgK P O ext (run P O ext) g args H := by
  have hch : ∀ f, zed P O f (runN P O ext) (run P O ext) := fun f => ⟨fun g a H => ⟨fun n r hr => zfI n g a H r hr, fun n r hr => ziS.2 ⟨n, hr⟩, fun r hr => ziS.1 hr⟩⟩
  have hl := zkf (ext := ext) hch g args H
  apply Option.ext
  intro r
  constructor
  · intro h
    obtain ⟨n, hn⟩ := ziS.1 h
    cases n with
    | zero => cases hn
    | succ n => exact hl.le n r hn
  · intro h
    obtain ⟨n, hn⟩ := hl.sup r h
    exact ziS.2 ⟨n + 1, hn⟩
theorem zaD {ext : FuncId → Option (List Value → Hp → Option (Value × Hp))} {g : FuncId} {fn : Func} (hf : P.funcs[g]? = some fn) (hn : (fn.name == "runtime.NumGoroutine") = false) (hb : fn.body.isSome = true) (hx : ext g = none) (args : List Value) (H : Hp) :
    run P O ext g args H = zeX P O (run P O ext) g fn args H := by
  rw [run_eq]
  unfold zgK zeX
  rw [hf]
  dsimp only
  rw [hn]
  dsimp only
  obtain ⟨c, hc⟩ := Option.isSome_iff_exists.1 hb
  rw [hc]
  dsimp only
  rw [hx]
  rfl
end
end Go.AM
namespace Go.AM
open Go
section
variable {α : Type} {P : Program}
theorem zac (b : Bool) (k : Bool → Option α) : zab (.bool b) k = k b := rfl
theorem s_br (b : Bool) (x y : Option α) : br b x y = if b = true then x else y := by cases b <;> rfl
theorem zaP (T : TypeId) (kd : IntKind) (a b : Int) (k : Value → Option α) : pBin P .lss T (.int kd a) (.int kd b) k = k (.bool (decide (a < b))) := by simp [pBin, binV, zdW]
theorem zbP (T : TypeId) (kd : IntKind) (a b : Int) (k : Value → Option α) : pBin P .leq T (.int kd a) (.int kd b) k = k (.bool (decide (a ≤ b))) := by simp [pBin, binV, zdW]
theorem zbi (T : TypeId) (kd : IntKind) (a b : Int) (k : Value → Option α) : pBin P .gtr T (.int kd a) (.int kd b) k = k (.bool (decide (a > b))) := by simp [pBin, binV, zdW]
theorem zbp (T : TypeId) (kd : IntKind) (a b : Int) (k : Value → Option α) : pBin P .geq T (.int kd a) (.int kd b) k = k (.bool (decide (a ≥ b))) := by simp [pBin, binV, zdW]
theorem zaX (T : TypeId) (kd : IntKind) (a b : Int) (k : Value → Option α) : pBin P .eql T (.int kd a) (.int kd b) k = k (.bool (decide (a = b))) := by
  have : (a == b) = decide (a = b) := by rw [Bool.eq_iff_iff]; simp
  simp [pBin, binV, zdW, this]
theorem zbb (T : TypeId) (kd : IntKind) (a b : Int) (k : Value → Option α) : pBin P .neq T (.int kd a) (.int kd b) k = k (.bool (decide (a ≠ b))) := by
  have : (a != b) = decide (a ≠ b) := by rw [Bool.eq_iff_iff]; simp
  simp [pBin, binV, zdW, this]
theorem za2 (T : TypeId) (kd : IntKind) (a b : Int) (k : Value → Option α) : pBin P .add T (.int kd a) (.int kd b) k = k (.int kd (kd.wrap (a + b))) := by simp [pBin, binV, zdW]
theorem zcY (T : TypeId) (kd : IntKind) (a b : Int) (k : Value → Option α) : pBin P .sub T (.int kd a) (.int kd b) k = k (.int kd (kd.wrap (a - b))) := by simp [pBin, binV, zdW]
theorem s_mul (T : TypeId) (kd : IntKind) (a b : Int) (k : Value → Option α) : pBin P .mul T (.int kd a) (.int kd b) k = k (.int kd (kd.wrap (a * b))) := by simp [pBin, binV, zdW]
theorem zbL (b : Bool) (k : Value → Option α) : pUn .not (.bool b) k = k (.bool !b) := rfl
theorem zbt (a : Addr) (k : Option α) : pNil (.pointer (some a)) k = k := rfl
theorem zaL (n i o : Nat) (k : Value → Option α) : zao n (.pointer (some ⟨i, o, none⟩)) k = k (.pointer (some ⟨i, o + n, none⟩)) := rfl
theorem zba {H : Hp} {i : Nat} {cs : List Value} {own : Bool} (h : H.get i = some (.cells cs own)) (o : Nat) (v : Value) (hv : cs[o]? = some v) (k : Value → Option α) : zah 1 false H (.pointer (some ⟨i, o, none⟩)) k = k v := by
  simp [zah, Hp.rdP, Hp.rd, h, zbM, hv]
theorem zdk (cs : List Value) (o : Nat) (v : Value) (hv : cs[o]? = some v) (k : Value → Option α) : zad 1 false cs o k = k v := by simp [zad, zbM, hv]
theorem zan (c : Ctl) (l : List Value) (H : Hp) (k : Ctl → List Value → Hp → Option α) : zat (some (c, l, H)) k = k c l H := rfl
theorem zbs (p : Prop) [Decidable p] (a b : Option Outc) (k : Ctl → List Value → Hp → Option α) : zat (if p then a else b) k = if p then zat a k else zat b k := by split <;> rfl
theorem zaA (a : Option α) (b : Nat → Option α) (c : Option α) : zaC .next a b c = a := rfl
theorem zbe (j : Nat) (a : Option α) (b : Nat → Option α) (c : Option α) : zaC (.exit j) a b c = b j := rfl
theorem zbx (a : Option α) (b : Nat → Option α) (c : Option α) : zaC .ret a b c = c := rfl
theorem zaO (j : Nat) (x y : Option α) : zax j j x y = x := by simp [zax]
theorem zaj {h : zae} {g : FuncId} {args : List Value} {H : Hp} {v : Value} {H' : Hp} (e : h g args H = some (v, H')) (k : Value → Hp → Option α) : zaf h g args H k = k v H' := by simp [zaf, e]
end
end Go.AM
namespace Go.AM
open Go
variable {α : Type}
theorem bT {p : Prop} [Decidable p] (h : p) (x y : Option α) : (zab (.bool (decide p)) fun b => br b x y) = x := by
  show br (decide p) x y = x
  rw [decide_eq_true h]; rfl
theorem bF {p : Prop} [Decidable p] (h : ¬ p) (x y : Option α) : (zab (.bool (decide p)) fun b => br b x y) = y := by
  show br (decide p) x y = y
  rw [decide_eq_false h]; rfl
theorem eT {P : Program} {T : TypeId} {kd : IntKind} {a b : Int} (h : a = b) (x y : Option α) : (pBin P .eql T (.int kd a) (.int kd b) fun v => zab v fun b => br b x y) = x := by
  rw [zaX, bT h]
theorem eF {P : Program} {T : TypeId} {kd : IntKind} {a b : Int} (h : ¬ a = b) (x y : Option α) : (pBin P .eql T (.int kd a) (.int kd b) fun v => zab v fun b => br b x y) = y := by
  rw [zaX, bF h]
theorem lT {P : Program} {T : TypeId} {kd : IntKind} {a b : Int} (h : a < b) (x y : Option α) : (pBin P .lss T (.int kd a) (.int kd b) fun v => zab v fun b => br b x y) = x := by
  rw [zaP, bT h]
theorem lF {P : Program} {T : TypeId} {kd : IntKind} {a b : Int} (h : ¬ a < b) (x y : Option α) : (pBin P .lss T (.int kd a) (.int kd b) fun v => zab v fun b => br b x y) = y := by
  rw [zaP, bF h]
theorem x01 (a b : Value) (k : Value → Value → Option α) : (zag (.tuple #[a, b]) 0 fun u => zag (.tuple #[a, b]) 1 fun v => k u v) = k a b := rfl
theorem qg0 {β : Type} {a : β} {l : List β} {d : β} : (a :: l).getD 0 d = a := List.getD_cons_zero
theorem qg1 {β : Type} {a : β} {l : List β} {n : Nat} {d : β} : (a :: l).getD (n + 1) d = l.getD n d := List.getD_cons_succ
theorem qd1 {β : Type} {a : β} {l : List β} {n : Nat} : (a :: l).drop (n + 1) = l.drop n := List.drop_succ_cons
theorem qd0 {β : Type} {l : List β} : l.drop 0 = l := List.drop_zero
end Go.AM
namespace Go.AM
open Go
structure Frm (M : Nat → Prop) (H H' : Hp) : Prop where
  next : H.next ≤ H'.next
  same : ∀ j, j < H.next → ¬ M j → H'.get j = H.get j
theorem Frm.refl (M : Nat → Prop) (H : Hp) : Frm M H H := ⟨Nat.le_refl _, fun _ _ _ => rfl⟩
theorem Frm.trans {M N : Nat → Prop} {H H1 H2 : Hp} (h : Frm M H H1) (k : Frm N H1 H2) (hn : ∀ j, N j → M j ∨ H.next ≤ j) : Frm M H H2 :=
  ⟨Nat.le_trans h.next k.next, fun j hj hm => by
    rw [k.same j (Nat.lt_of_lt_of_le hj h.next) (fun q => by rcases hn j q with a | a; exact hm a; omega), h.same j hj hm]⟩
theorem Frm.mono {M N : Nat → Prop} {H H' : Hp} (h : Frm M H H') (hn : ∀ j, M j → N j ∨ H.next ≤ j) : Frm N H H' := ⟨h.next, fun j hj hm => h.same j hj fun q => by rcases hn j q with a | a; exact hm a; omega⟩
def vid : Value → Option Nat
  | .slice (some a) _ _ => some a.block
  | _ => none
def Id (v : Value) (j : Nat) : Prop := vid v = some j
theorem get_new (H : Hp) (o : AObj) (i : Nat) : (H.new o).get i = if i = H.next then some o else H.get i := rfl
theorem get_set (H : Hp) (j : Nat) (o : Option AObj) (i : Nat) : (H.set j o).get i = if i = j then o else H.get i := rfl
theorem zde (H : Hp) (o : AObj) (M : Nat → Prop) : Frm M H (H.new o) := ⟨by show H.next ≤ H.next + 1; omega, fun j hj _ => by rw [get_new, if_neg (by omega)]⟩
theorem ze6 (H : Hp) (i : Nat) (o : Option AObj) (M : Nat → Prop) (hm : M i) : Frm M H (H.set i o) := ⟨Nat.le_refl _, fun j hj hn => by rw [get_set, if_neg (fun e => hn (by rw [e]; exact hm))]⟩
def Vec (H : Hp) (sz : Nat) (v : Value) (n : Nat) (cs : List Value) : Prop :=
  (n = 0 ∧ cs = [] ∧ v = .slice none 0 0) ∨ ∃ y c rest, v = .slice (some ⟨y, 0, some sz⟩) n c ∧ n ≤ c ∧ H.get y = some (.cells (cs ++ rest) true) ∧ cs.length = n * sz ∧ rest.length = (c - n) * sz ∧ y < H.next ∧ rest.all one = true
section
variable {H H' : Hp} {sz : Nat} {v : Value} {n : Nat} {cs : List Value}
theorem Vec.len (h : Vec H sz v n cs) {α : Type} (H' : Hp) (k : Value → Option α) : pLen .sl v H' k = k (.int .i64 n) := by
  rcases h with ⟨rfl, _, rfl⟩ | ⟨y, c, rest, rfl, _⟩ <;> rfl
theorem Vec.size (h : Vec H sz v n cs) : cs.length = n * sz := by
  rcases h with ⟨rfl, rfl, _⟩ | ⟨y, c, rest, _, _, _, h, _⟩
  · simp
  · exact h
theorem Vec.lt (h : Vec H sz v n cs) {j : Nat} (hj : Id v j) : j < H.next := by
  rcases h with ⟨_, _, rfl⟩ | ⟨y, c, rest, rfl, _, _, _, _, h, _⟩
  · cases hj
  · cases hj; exact h
theorem Vec.keep' (h : Vec H sz v n cs) (hg : ∀ j, Id v j → H'.get j = H.get j) (hn : H.next ≤ H'.next) : Vec H' sz v n cs := by
  rcases h with e | ⟨y, c, rest, rfl, h1, h2, h3, h4, h5, h6⟩
  · exact .inl e
  · exact .inr ⟨y, c, rest, rfl, h1, by rw [hg y rfl]; exact h2, h3, h4, Nat.lt_of_lt_of_le h5 hn, h6⟩
theorem Vec.keep {M : Nat → Prop} (h : Vec H sz v n cs) (k : Frm M H H') (hm : ∀ j, Id v j → ¬ M j) : Vec H' sz v n cs :=
  h.keep' (fun j hj => k.same j (h.lt hj) (hm j hj)) k.next
theorem Vec.nil (H : Hp) (sz : Nat) : Vec H sz (.slice none 0 0) 0 [] := .inl ⟨rfl, rfl, rfl⟩
theorem Vec.ix (h : Vec H sz v n cs) {i : Nat} (hi : i < n) : ∃ y, Id v y ∧ (∃ rest, H.get y = some (.cells (cs ++ rest) true)) ∧ ∀ (α : Type) (kd : IntKind) (k : Value → Option α), pIdx sz v (.int kd (i : Int)) k = k (.pointer (some ⟨y, i * sz, none⟩)) := by
  rcases h with ⟨rfl, _, _⟩ | ⟨y, c, rest, rfl, h1, h2, h3, h4, h5⟩
  · omega
  · refine ⟨y, rfl, ⟨rest, h2⟩, fun α kd k => ?_⟩
    unfold pIdx idxV
    have : sz = sz ∧ (0 : Int) ≤ (i : Int) ∧ (i : Int) < (n : Int) := ⟨rfl, by omega, by omega⟩
    simp only [this, and_self, if_true, Nat.zero_add, Int.toNat_natCast]
theorem ld_cell {y : Nat} {rest : List Value} {own : Bool} (h : H.get y = some (.cells (cs ++ rest) own)) {o : Nat} {x : Value} (hx : cs[o]? = some x) {α : Type} (k : Value → Option α) : zah 1 false H (.pointer (some ⟨y, o, none⟩)) k = k x := by
  have hlt := (List.getElem?_eq_some_iff.1 hx).1
  have : (cs ++ rest)[o]? = some x := by rw [List.getElem?_append_left hlt]; exact hx
  simp [zah, Hp.rdP, Hp.rd, h, zbM, this]
theorem ld_agg {y : Nat} {rest : List Value} {own : Bool} (h : H.get y = some (.cells (cs ++ rest) own)) {o m : Nat} (ho : o + m ≤ cs.length) {α : Type} (k : Value → Option α) : zah m true H (.pointer (some ⟨y, o, none⟩)) k = k (.agg ((cs.drop o).take m).toArray) := by
  have h1 : o + m ≤ (cs ++ rest).length := by rw [List.length_append]; omega
  have h2 : ((cs ++ rest).drop o).take m = (cs.drop o).take m := by
    rw [List.drop_append_of_le_length (by omega), List.take_append_of_le_length (by rw [List.length_drop]; omega)]
  simp only [zah, Hp.rdP, Hp.rd, h, zbM, h1, if_true, h2]
theorem Vec.ids (h : Vec H sz v n cs) {y : Nat} (hy : Id v y) : ∃ c rest, v = .slice (some ⟨y, 0, some sz⟩) n c ∧ n ≤ c ∧ H.get y = some (.cells (cs ++ rest) true) ∧ cs.length = n * sz ∧ rest.length = (c - n) * sz ∧ y < H.next ∧ rest.all one = true := by
  rcases h with ⟨_, _, rfl⟩ | ⟨y', c, rest, rfl, h⟩
  · cases hy
  · cases hy; exact ⟨c, rest, rfl, h⟩
theorem Vec.set (h : Vec H sz v n cs) {y o m : Nat} (hy : Id v y) {x : Value} (hm : (zaa x).length = m) (ho : o + m ≤ cs.length) (h1 : (zaa x).all one = true) :
    ∃ H', (∀ (α : Type) (k : Hp → Option α), zau m H (.pointer (some ⟨y, o, none⟩)) x k = k H') ∧ Vec H' sz v n (spl cs o (zaa x)) ∧ Frm (Id v) H H' ∧ H'.next = H.next := by
  obtain ⟨c, rest, rfl, g1, g2, g3, g4, g5, g6⟩ := h.ids hy
  have hs : spl (cs ++ rest) o (zaa x) = spl cs o (zaa x) ++ rest := by
    unfold spl
    rw [List.take_append_of_le_length (by omega), List.drop_append_of_le_length (by omega)]
    simp
  have hw : za8 m (cs ++ rest) o x = some (spl cs o (zaa x) ++ rest) := by
    unfold za8
    rw [if_pos ⟨hm, by rw [List.length_append]; omega, h1⟩, hs]
  have hl : (spl cs o (zaa x)).length = cs.length := by
    unfold spl
    simp only [List.length_append, List.length_take, List.length_drop, hm]
    omega
  refine ⟨H.set y (some (.cells (spl cs o (zaa x) ++ rest) true)), fun α k => ?_, .inr ⟨y, c, rest, rfl, g1, ?_, by rw [hl]; exact g3, g4, g5, g6⟩, ze6 _ _ _ _ rfl, rfl⟩
  · unfold zau
    have : H.wr (.pointer (some ⟨y, o, none⟩)) m x = some (H.set y (some (.cells (spl cs o (zaa x) ++ rest) true))) := by
      show (match H.get y with | some (.cells cs true) => (match za8 m cs o x with | some cs' => some (H.set y (some (.cells cs' true))) | none => none) | _ => none) = _
      rw [g2]; dsimp only; rw [hw]
    rw [this]
  · rw [get_set, if_pos rfl]
theorem Vec.cut (h : Vec H sz v n cs) (hcs : cs.all one = true) {m : Nat} (hm : m ≤ n) : ∃ v', (∀ (α : Type) (kd : IntKind) (k : Value → Option α), zc2 sz v none (some (.int kd (m : Int))) k = k v') ∧ Vec H sz v' m (cs.take (m * sz)) ∧ (∀ j, Id v' j → Id v j) := by
  rcases h with ⟨rfl, rfl, rfl⟩ | ⟨y, c, rest, rfl, h1, h2, h3, h4, h5, h6⟩
  · obtain rfl : m = 0 := by omega
    refine ⟨.slice none 0 0, fun α kd k => ?_, by simpa using Vec.nil H sz, fun j hj => hj⟩
    unfold zc2 zgn
    simp [zcF]
  · refine ⟨.slice (some ⟨y, 0, some sz⟩) m c, fun α kd k => ?_, .inr ⟨y, c, cs.drop (m * sz) ++ rest, rfl, by omega, ?_, ?_, ?_, h5, ?_⟩, fun j hj => hj⟩
    · have : zgn sz (.slice (some ⟨y, 0, some sz⟩) n c) none (some (.int kd (m : Int))) = some (.slice (some ⟨y, 0, some sz⟩) m c) := by
        unfold zgn
        dsimp only [zcF]
        rw [if_pos ⟨rfl, by omega, by omega, by omega⟩]
        simp
      unfold zc2
      rw [this]
    · rw [← List.append_assoc, List.take_append_drop]; exact h2
    · rw [List.length_take, h3]; exact Nat.min_eq_left (Nat.mul_le_mul_right sz hm)
    · rw [List.length_append, List.length_drop, h3, h4, Nat.sub_mul, Nat.sub_mul]
      have a1 := Nat.mul_le_mul_right sz hm
      have a2 := Nat.mul_le_mul_right sz h1
      rw [Nat.sub_mul] at *
      omega
    · rw [List.all_append, Bool.and_eq_true]
      refine ⟨?_, h6⟩
      rw [List.all_eq_true] at hcs ⊢
      exact fun x hx => hcs x (List.mem_of_mem_drop hx)
theorem zfJ (zs : List Value) : ∀ n, (repl n zs).length = n * zs.length
  | 0 => by simp [repl]
  | n + 1 => by show (zs ++ repl n zs).length = _; rw [List.length_append, zfJ zs n, Nat.succ_mul]; omega
theorem Vec.make (H : Hp) {sz bytes : Nat} {zs : List Value} (hz : zs.length = sz) {n : Nat} (hb : n * bytes ≤ 2 ^ 47) :
    ∃ v, (∀ (α : Type) (k : Value → Hp → Option α), za1 sz bytes zs (.int .i64 (n : Int)) (.int .i64 (n : Int)) H k = k v (H.new (.cells (repl n zs) true))) ∧ Vec (H.new (.cells (repl n zs) true)) sz v n (repl n zs) ∧ (∀ j, Id v j → j = H.next) := by
  refine ⟨.slice (some ⟨H.next, 0, some sz⟩) n n, fun α k => ?_, .inr ⟨H.next, n, [], rfl, Nat.le_refl _, ?_, by rw [zfJ, hz], by simp, by show H.next < H.next + 1; omega, rfl⟩, fun j hj => by cases hj; rfl⟩
  · have e : ((2 : Int) ^ 47) = ((2 ^ 47 : Nat) : Int) := by rfl
    have hb' : (n : Int) * (bytes : Int) ≤ 2 ^ 47 := by rw [e, ← Int.natCast_mul]; exact Int.ofNat_le.2 hb
    have : zcf sz bytes zs (.int .i64 (n : Int)) (.int .i64 (n : Int)) H = some (.slice (some ⟨H.next, 0, some sz⟩) n n, H.new (.cells (repl n zs) true)) := by
      unfold zcf
      dsimp only
      rw [if_pos ⟨by omega, by omega, hb'⟩]
      rfl
    unfold za1
    rw [this]
  · rw [get_new, if_pos rfl, List.append_nil]
theorem Vec.push (h : Vec H sz v n cs) {bytes : Nat} {zs : List Value} {x : Value} (hs : 0 < sz) (hs2 : sz ≤ 2 ^ 24) (hz : zs.length = sz) (hx : (zaa x).length = sz) (h1 : (zaa x).all one = true) (hb : (n + 1) * bytes ≤ 2 ^ 47) :
    ∃ v' H', (∀ (α : Type) (k : Value → Hp → Option α), (zap sz zs 1 [(0, x)] H fun t H1 => zaQ sz bytes v t H1 k) = k v' H') ∧ Vec H' sz v' (n + 1) (cs ++ zaa x) ∧ Frm (Id v) H H' ∧ (∀ j, Id v' j → Id v j ∨ H.next ≤ j) ∧ (∃ j, Id v' j) := by
  have hbuild : zbv sz zs 1 [(0, x)] H = some (.slice (some ⟨H.next, 0, some sz⟩) 1 1, H.new (.cells (zaa x) true)) := by
    unfold zbv
    rw [if_neg (by omega)]
    have e0 : spl (repl 1 zs) (0 * sz) (zaa x) = zaa x := by
      unfold spl
      have : (repl 1 zs).length = sz := by rw [zfJ, hz, Nat.one_mul]
      rw [Nat.zero_mul, List.take_zero, List.nil_append, List.drop_of_length_le (by omega), List.append_nil]
    have : zhK (fun i => some (i * sz, sz)) (repl 1 zs) [(0, x)] = some (zaa x) := by
      unfold zhK
      dsimp only
      rw [if_pos ⟨hx, by rw [zfJ, hz]; omega, h1⟩, e0]
      rfl
    rw [this]
  have hb' : ∀ (α : Type) (k : Value → Hp → Option α), (zap sz zs 1 [(0, x)] H fun t H1 => zaQ sz bytes v t H1 k) = zaQ sz bytes v (.slice (some ⟨H.next, 0, some sz⟩) 1 1) (H.new (.cells (zaa x) true)) k := fun α k => by
    unfold zap; rw [hbuild]
  generalize hH1 : H.new (.cells (zaa x) true) = H1 at hb'
  have n1 : H1.next = H.next + 1 := by rw [← hH1]; rfl
  have g1 : ∀ j, j < H.next → H1.get j = H.get j := fun j hj => by rw [← hH1, get_new, if_neg (by omega)]
  have gt : H1.get H.next = some (.cells (zaa x) true) := by rw [← hH1, get_new, if_pos rfl]
  have hsrc : zck sz (.slice (some ⟨H.next, 0, some sz⟩) 1 1) H1 = some (1, zaa x) := by
    unfold zck
    dsimp only
    rw [if_pos rfl, gt]
    dsimp only
    rw [if_pos (by omega), List.drop_zero, List.take_of_length_le (by omega)]
  rcases h with ⟨rfl, rfl, rfl⟩ | ⟨y, c, rest, rfl, k1, k2, k3, k4, k5, k6⟩
  · refine ⟨.slice (some ⟨H1.next, 0, some sz⟩) 1 1, H1.new (.cells (zaa x) true), fun α k => ?_, .inr ⟨H1.next, 1, [], rfl, Nat.le_refl _, ?_, by simpa using hx, by simp, by show H1.next < H1.next + 1; omega, rfl⟩, ⟨by show H.next ≤ H1.next + 1; omega, fun j hj _ => by rw [get_new, if_neg (by omega), g1 j hj]⟩, fun j hj => ?_, ⟨_, rfl⟩⟩
    · rw [hb']
      unfold zaQ zcj
      rw [hsrc]
      dsimp only
      rw [if_neg (by decide), if_pos ⟨by omega, h1⟩]
      rfl
    · rw [get_new, if_pos rfl, List.nil_append, List.append_nil]
    · cases hj; exact .inr (by show H.next ≤ H1.next; omega)
  · have gy : H1.get y = some (.cells (cs ++ rest) true) := by rw [g1 y k5]; exact k2
    have hyn : y ≠ H.next := by omega
    by_cases hc : n + 1 ≤ c
    · -- in place
      have hrl : sz ≤ rest.length := by
        rw [k4]
        have : 1 * sz ≤ (c - n) * sz := Nat.mul_le_mul_right sz (by omega)
        omega
      have hsp : spl (cs ++ rest) (0 + n * sz) (zaa x) = (cs ++ zaa x) ++ rest.drop sz := by
        unfold spl
        rw [Nat.zero_add, ← k3, List.take_left' rfl, hx]
        rw [List.drop_append, List.drop_of_length_le (by omega), List.nil_append, Nat.add_sub_cancel_left]
      refine ⟨.slice (some ⟨y, 0, some sz⟩) (n + 1) c, H1.set y (some (.cells ((cs ++ zaa x) ++ rest.drop sz) true)), fun α k => ?_, .inr ⟨y, c, rest.drop sz, rfl, hc, ?_, ?_, ?_, by show y < H1.next; omega, ?_⟩, ⟨by show H.next ≤ H1.next; omega, fun j hj hm => ?_⟩, fun j hj => ?_, ⟨_, rfl⟩⟩
      · rw [hb']
        unfold zaQ zcj
        rw [hsrc]
        dsimp only
        rw [if_neg (by simp), if_neg (by omega), gy]
        dsimp only
        rw [if_pos hc, if_pos ⟨by rw [List.length_append, k3, k4]; have := Nat.mul_le_mul_right sz hc; rw [Nat.sub_mul]; have := Nat.mul_le_mul_right sz k1; omega, h1⟩, hsp]
      · rw [get_set, if_pos rfl]
      · rw [List.length_append, k3, hx, Nat.succ_mul]
      · rw [List.length_drop, k4]
        have : (c - n) * sz = (c - (n + 1)) * sz + sz := by rw [← Nat.succ_mul]; congr 1; omega
        omega
      · rw [List.all_eq_true] at k6 ⊢
        exact fun z hz => k6 z (List.mem_of_mem_drop hz)
      · rw [get_set, if_neg (fun e => hm (by rw [e]; rfl)), g1 j hj]
      · cases hj; exact .inl rfl
    · -- it moves
      refine ⟨.slice (some ⟨H1.next, 0, some sz⟩) (n + 1) (n + 1), (H1.set y none).new (.cells (cs ++ zaa x) true), fun α k => ?_, .inr ⟨H1.next, n + 1, [], rfl, Nat.le_refl _, ?_, ?_, by simp, by show H1.next < H1.next + 1; omega, rfl⟩, ⟨by show H.next ≤ H1.next + 1; omega, fun j hj hm => ?_⟩, fun j hj => ?_, ⟨_, rfl⟩⟩
      · rw [hb']
        unfold zaQ zcj
        rw [hsrc]
        dsimp only
        have ht : ((cs ++ rest).drop 0).take (n * sz) = cs := by rw [List.drop_zero, ← k3, List.take_left' rfl]
        rw [if_neg (by simp), if_neg (by omega), gy]
        dsimp only
        rw [if_neg hc, if_pos ⟨by rw [List.length_append, k3]; omega, hb, h1⟩, ht]
      · rw [get_new, if_pos (show H1.next = (H1.set y none).next from rfl), List.append_nil]
      · rw [List.length_append, k3, hx, Nat.succ_mul]
      · rw [get_new, if_neg (by show ¬ j = H1.next; omega), get_set, if_neg (fun e => hm (by rw [e]; rfl)), g1 j hj]
      · cases hj; exact .inr (by show H.next ≤ H1.next; omega)
end
end Go.AM
namespace Go.AM
open Go
def Rdb (H : Hp) (sz : Nat) (v : Value) (n : Nat) (cs : List Value) : Prop :=
  (n = 0 ∧ cs = [] ∧ v = .slice none 0 0) ∨ ∃ y c rest own, v = .slice (some ⟨y, 0, some sz⟩) n c ∧ n ≤ c ∧ H.get y = some (.cells (cs ++ rest) own) ∧ cs.length = n * sz ∧ y < H.next
section
variable {H H' : Hp} {sz : Nat} {v : Value} {n : Nat} {cs : List Value}
theorem Vec.rd (h : Vec H sz v n cs) : Rdb H sz v n cs := by
  rcases h with e | ⟨y, c, rest, rfl, h1, h2, h3, h4, h5, h6⟩
  · exact .inl e
  · exact .inr ⟨y, c, rest, true, rfl, h1, h2, h3, h5⟩
theorem Rdb.len (h : Rdb H sz v n cs) {α : Type} (H' : Hp) (k : Value → Option α) : pLen .sl v H' k = k (.int .i64 n) := by
  rcases h with ⟨rfl, _, rfl⟩ | ⟨y, c, rest, own, rfl, _⟩ <;> rfl
theorem Rdb.lt (h : Rdb H sz v n cs) {j : Nat} (hj : Id v j) : j < H.next := by
  rcases h with ⟨_, _, rfl⟩ | ⟨y, c, rest, own, rfl, _, _, _, h⟩
  · cases hj
  · cases hj; exact h
theorem Rdb.keep' (h : Rdb H sz v n cs) (hg : ∀ j, Id v j → H'.get j = H.get j) (hn : H.next ≤ H'.next) : Rdb H' sz v n cs := by
  rcases h with e | ⟨y, c, rest, own, rfl, h1, h2, h3, h4⟩
  · exact .inl e
  · exact .inr ⟨y, c, rest, own, rfl, h1, by rw [hg y rfl]; exact h2, h3, Nat.lt_of_lt_of_le h4 hn⟩
theorem Rdb.keep {M : Nat → Prop} (h : Rdb H sz v n cs) (k : Frm M H H') (hm : ∀ j, Id v j → ¬ M j) : Rdb H' sz v n cs :=
  h.keep' (fun j hj => k.same j (h.lt hj) (hm j hj)) k.next
theorem Rdb.ix (h : Rdb H sz v n cs) {i : Nat} (hi : i < n) : ∃ y, Id v y ∧ (∃ rest own, H.get y = some (.cells (cs ++ rest) own)) ∧ ∀ (α : Type) (kd : IntKind) (k : Value → Option α), pIdx sz v (.int kd (i : Int)) k = k (.pointer (some ⟨y, i * sz, none⟩)) := by
  rcases h with ⟨rfl, _, _⟩ | ⟨y, c, rest, own, rfl, h1, h2, h3, h4⟩
  · omega
  · refine ⟨y, rfl, ⟨rest, own, h2⟩, fun α kd k => ?_⟩
    unfold pIdx idxV
    have : sz = sz ∧ (0 : Int) ≤ (i : Int) ∧ (i : Int) < (n : Int) := ⟨rfl, by omega, by omega⟩
    simp only [this, and_self, if_true, Nat.zero_add, Int.toNat_natCast]
end
end Go.AM
namespace Go.AM
open Go
structure Sl where
  sz : Nat
  v : Value
  n : Nat
  cs : List Value
section
variable {H0 H : Hp} {sz : Nat} {v : Value} {n : Nat} {cs : List Value} {r : List Sl}
end
end Go.AM
namespace Go.AM
end Go.AM
namespace Go.AM
open Go
section
variable {α : Type} {P : Program}
theorem q_wrap {k : IntKind} {n : Int} (h1 : k.min ≤ n) (h2 : n ≤ k.max) : k.wrap n = n := by
  cases k <;> simp [IntKind.wrap, IntKind.min, IntKind.max, IntKind.signed, IntKind.bits] at * <;> omega
theorem q_u64 {x : Int} (h1 : 0 ≤ x) (h2 : x ≤ 18446744073709551615) : IntKind.u64.wrap x = x := q_wrap (by have : IntKind.u64.min = 0 := rfl; omega) (by have : IntKind.u64.max = 18446744073709551615 := rfl; omega)
theorem q_quo (T : TypeId) (a b : Nat) (hb : b ≠ 0) (ha : a < 18446744073709551616) (k : Value → Option α) : pBin P .quo T (.int .u64 (a : Int)) (.int .u64 (b : Int)) k = k (.int .u64 ((a / b : Nat) : Int)) := by
  have hb' : ¬ (b : Int) = 0 := by omega
  have h1 : ((a : Int).tdiv (b : Int)) = ((a / b : Nat) : Int) := rfl
  have h2 : a / b ≤ a := Nat.div_le_self a b
  have h3 : IntKind.u64.wrap ((a / b : Nat) : Int) = ((a / b : Nat) : Int) := by
    clear h1
    generalize a / b = q at h2
    exact q_u64 (by omega) (by omega)
  have : binV P .quo T (.int .u64 (a : Int)) (.int .u64 (b : Int)) = some (.int .u64 ((a / b : Nat) : Int)) := by
    show (if IntKind.u64 = IntKind.u64 then zdW .quo .u64 (a : Int) (b : Int) else none) = _
    rw [if_pos rfl]
    unfold zdW
    dsimp only
    rw [if_neg hb', h1, h3]
  unfold pBin; rw [this]
theorem q_at (s : ByteArray) (i : Nat) (b : UInt8) (h : s.data.toList[i]? = some b) (k : Value → Option α) : zaU (.string s) (.int .i64 (i : Int)) k = k (.int .u8 (b.toNat : Int)) := by
  have hi : i < s.data.toList.length := (List.getElem?_eq_some_iff.1 h).1
  have hb : s[i]? = some b := by
    have h1 : s.data[i]? = some b := by rw [← h]; simp
    obtain ⟨h2, h3⟩ := Array.getElem?_eq_some_iff.1 h1
    have h4 : i < s.size := h2
    rw [getElem?_pos s i h4]
    exact congrArg some h3
  have : zk1 s (i : Int) = some (.int .u8 (b.toNat : Int)) := by
    unfold zk1
    rw [if_pos (by omega), Int.toNat_natCast, hb]; rfl
  unfold zaU
  dsimp only
  rw [this]
end
end Go.AM
namespace Go.AM
open Go
def wv (b : BitVec 64) : Value := .int .u64 (b.toNat : Int)
section
variable {α : Type} {P : Program}
variable (T : TypeId) (a b : BitVec 64) (k : Value → Option α)
end
end Go.AM
namespace Go.AM
open Go Go.ChangeShapes Go.WideShapes Go.ChangeAt Go.RowKit
theorem zh2 {HH : Type} {enc : TypeId × Value → HH} {P : Program} {W : World} : ∀ {ts : List TypeId} {vs : List Value} {ds : List (DataW HH)} {ps : List MemPlace}, DataW.TrodAll enc P W 0 (fun _ => true) true ts vs ds ps → ds.length = ts.length := by
  intro ts
  induction ts with
  | nil => intro vs ds ps h; cases vs <;> cases ds <;> first | rfl | exact h.elim
  | cons t ts ih => intro vs ds ps h; cases vs <;> cases ds <;> first | exact h.elim | (obtain ⟨p, q, _, h2, _⟩ := h; simp [ih h2])
theorem zf8 {C : Checked} {os : Os} {f : FuncId} {fn : Func} {s : OpenSpec} {HH : Type} {enc : TypeId × Value → HH} {k : (H : Type) → List (DataW H) → Bool} (hk : s.cond = some k) {F : Stop.Interp} {conds : List PathCond} {laid : List (String × DataW Unit)}
    (own : ownKnob C.prog.godebug = none) (started : os.Started) (noInit : C.prog.inits.idxOf? f = none) (hfn : C.prog.funcs[f]? = some fn)
    (witness : ∃ (w : World) (tape : Tape) (i : Input), w.os = os ∧ (w.forCall tape i).Shaped C.prog ∧ i.vars = [] ∧ Input.okWide C.prog (w.forCall tape i) .any w.heap.size f i ∧
      s.preRow enc C.prog fn conds false laid (w.forCall tape i).memory i.args ∧ ({} : Assume).holds C.prog (lone (Frame.enter C.prog f i.args .normal) [] (w.forCall tape i)))
    (hl : laidOutB C.prog = true) (hp : ∀ t ∈ fn.params.toList, C.prog.readableRec t = true ∧ t < C.prog.types.size) (hv : s.vars = []) {tb : TypeId} (hr : fn.resultTypes = #[tb]) (hb : C.prog.underlying tb = some .bool)
    (hg : C.prog.globals.size = 0 ∨ ∃ x, (((begin C.prog (fun _ _ => 0) default).world.heap[C.prog.globals.size - 1]?).bind Obj.row?) = some x)
    (hsp : ∀ ds : List (DataW HH), ds.length = fn.params.size → (s.at F).fn HH ds = { results := [.lit (.bool true)], args := ds })
    {O : Orc} {ext : Ext1} (hm : C.prog.follows .mixedOrders = true) (he : ExtC C.prog ext)
    (main : ∀ (W : World) (base : Nat) (args : Array Value) (ds : List (DataW HH)) (ps : List MemPlace), C.prog.globals.size ≤ W.heap.size →
      (∀ (j : Nat) t v, fn.params[j]? = some t → args[j]? = some v → Value.okWide C.prog W .any base t v) → DataW.TrodAll enc C.prog W 0 (fun _ => true) true fn.params.toList args.toList ds ps → k HH ds = true → laidMetH C.prog laid W →
      ∃ (H0 H1 : Hp) (β : Bt) (xs : List Value), Rel C.prog W H0 β ∧ (∀ i o, H0.get i = some o → o.own = false) ∧ LRel β xs args.toList ∧ run C.prog O ext f xs H0 = some (.bool true, H1))
    (hx : XtC C.prog O.xt := by intro f e h; cases h) (hxf : O.xt f = none := by rfl) (ho : ExtO O ext := by intro f _; rfl) (hpf : O.pan f = false := by rfl) :
    ReturnsInHanded {} C os f .any (s.preRow enc C.prog fn conds false laid) ((s.at F).post enc C.prog fn false true false false) := by
  refine returnsInHanded_of_row own started noInit hfn witness ?_
  intro W base args ds gs before hval hw hc hkk _ hL hsh _
  have hkk := hkk k hk
  obtain ⟨p, q, h1, h2, e, _, _⟩ := id hw
  have hgs : gs = [] := by
    rw [hv] at h2
    cases gs with
    | nil => rfl
    | cons g gs => exact h2.elim
  subst hgs
  rw [List.append_nil] at hkk
  obtain ⟨H0, H1, β, xs, g1, g2, g3, g4⟩ := main W base args ds p (zkt hsh hg) hval h1 hkk hL
  refine (zki hm he g1 g2 g3 g4 hx hxf ho hpf).mono fun e W' ⟨h3, h4⟩ => ?_
  subst h3
  have hlen : ds.length = fn.params.size := by simpa using zh2 h1
  exact ⟨_, rfl, post_true (s := s.at F) hl hp hv hr hb hw h4 (by rw [List.append_nil]; exact hsp ds hlen)⟩
end Go.AM
namespace Go.AM
open Go
end Go.AM
namespace Go.AM
open Go
def ziw (l : List Value) : Option Value :=
  match l with
  | [.string s, .int .u8 c] => some (.int .i64 (Go.Lib.indexByte s.data.toList c.toNat.toUInt8))
  | _ => none
def ziC (l : List Value) : Option Value :=
  match l with
  | [.string s, .int .u8 c] => some (.int .i64 (Go.Lib.countByte s.data.toList c.toNat.toUInt8 : Nat))
  | _ => none
theorem LRel.strInt {β : Bt} {s : ByteArray} {k : IntKind} {c : Int} {l : List Value} (h : LRel β [.string s, .int k c] l) : l = [.string s, .int k c] := by
  obtain ⟨h1, h2⟩ := h
  match l, h1 with
  | [x, y], _ =>
    have e0 := h2 0 _ x rfl rfl
    have e1 := h2 1 _ y rfl rfl
    cases e0; cases e1
    rfl
theorem idxStr_xt {P : Program} {f : FuncId} {fn : Func} (hf : P.funcs[f]? = some fn) (hname : (fn.name == "runtime.NumGoroutine") = false) (hb : fn.body.isNone = true) (hn : Extern.findNext fn = none) (he : Extern.find fn = some Extern.BytealgIndexByte.indexByte)
    (args : List Value) (v : Value) (h : ziw args = some v) : XT P f args v := by
  unfold ziw at h
  split at h
  · rename_i s c
    cases h
    intro args' β w hl
    obtain rfl := hl.strInt
    exact ⟨_, .int _ _, by rw [run_callFunc_extern hf hname hb hn he, Go.Lib.run_indexByteString]; rfl⟩
  · cases h
theorem cntStr_xt {P : Program} {f : FuncId} {fn : Func} (hf : P.funcs[f]? = some fn) (hname : (fn.name == "runtime.NumGoroutine") = false) (hb : fn.body.isNone = true) (hn : Extern.findNext fn = none) (he : Extern.find fn = some Extern.BytealgCount.count)
    (args : List Value) (v : Value) (h : ziC args = some v) : XT P f args v := by
  unfold ziC at h
  split at h
  · rename_i s c
    cases h
    intro args' β w hl
    obtain rfl := hl.strInt
    exact ⟨_, .int _ _, by rw [run_callFunc_extern hf hname hb hn he, Go.Lib.run_countString]; rfl⟩
  · cases h
end Go.AM
namespace Go.AM
open Go Go.AM
noncomputable abbrev PP : Program := Go.Proofs.Tryz.prog
abbrev ET := FuncId → Option (List Value → Hp → Option (Value × Hp))
abbrev G.strings_asciiSpace : Nat := 0
abbrev G.unicode_White_Space : Nat := 1
abbrev G.internal_bytealg_MaxLen : Nat := 2
abbrev G.internal_strconv_uint64pow10 : Nat := 3
abbrev G.utf8_first : Nat := 4
abbrev G.utf8_acceptRanges : Nat := 5
abbrev G.strconv_ErrSyntax : Nat := 6
abbrev G.strconv_ErrRange : Nat := 7
abbrev G.bits_deBruijn32tab : Nat := 8
abbrev G.bits_deBruijn64tab : Nat := 9
abbrev F.a46 : FuncId := 65
abbrev F.a13 : FuncId := 48
abbrev F.a30 : FuncId := 80
abbrev F.a47 : FuncId := 93
abbrev F.a48 : FuncId := 66
abbrev F.a31 : FuncId := 3
abbrev F.a32 : FuncId := 7
abbrev F.a17 : FuncId := 79
abbrev F.a18 : FuncId := 61
abbrev F.a19 : FuncId := 54
abbrev F.a49 : FuncId := 78
abbrev F.a50 : FuncId := 77
abbrev F.a51 : FuncId := 76
abbrev F.a5 : FuncId := 6
abbrev F.a20 : FuncId := 23
abbrev F.a33 : FuncId := 56
abbrev F.a9 : FuncId := 28
abbrev F.a0 : FuncId := 55
abbrev F.a52 : FuncId := 27
abbrev F.a6 : FuncId := 57
abbrev F.a53 : FuncId := 59
abbrev F.a54 : FuncId := 60
abbrev F.a34 : FuncId := 52
abbrev F.a55 : FuncId := 58
abbrev F.a21 : FuncId := 53
abbrev F.a14 : FuncId := 26
abbrev F.a22 : FuncId := 25
abbrev F.a23 : FuncId := 51
abbrev F.a35 : FuncId := 24
abbrev F.a24 : FuncId := 87
abbrev F.a69 : FuncId := 102
abbrev F.a25 : FuncId := 118
abbrev F.a70 : FuncId := 103
abbrev F.a65 : FuncId := 101
abbrev F.a71 : FuncId := 82
abbrev F.a26 : FuncId := 90
abbrev F.a4 : FuncId := 105
abbrev F.a66 : FuncId := 106
abbrev F.a36 : FuncId := 89
abbrev F.a56 : FuncId := 104
abbrev F.a57 : FuncId := 88
abbrev F.a37 : FuncId := 100
abbrev F.a38 : FuncId := 75
abbrev F.a27 : FuncId := 91
abbrev F.a67 : FuncId := 46
abbrev F.a68 : FuncId := 67
abbrev F.a39 : FuncId := 72
abbrev F.a58 : FuncId := 74
abbrev F.a40 : FuncId := 69
abbrev F.a10 : FuncId := 17
abbrev F.a28 : FuncId := 73
abbrev F.a41 : FuncId := 15
abbrev F.a72 : FuncId := 71
abbrev F.a42 : FuncId := 47
abbrev F.a15 : FuncId := 5
abbrev F.a43 : FuncId := 16
abbrev F.a7 : FuncId := 18
abbrev F.a29 : FuncId := 14
abbrev F.a59 : FuncId := 8
abbrev F.a11 : FuncId := 32
abbrev F.a60 : FuncId := 9
abbrev F.a16 : FuncId := 29
abbrev F.a61 : FuncId := 63
abbrev F.a1 : FuncId := 50
abbrev F.a62 : FuncId := 64
abbrev F.a63 : FuncId := 42
abbrev F.a44 : FuncId := 49
abbrev F.a8 : FuncId := 44
abbrev F.a3 : FuncId := 19
abbrev F.a12 : FuncId := 22
abbrev F.a2 : FuncId := 21
abbrev F.a45 : FuncId := 20
abbrev F.a64 : FuncId := 62
abbrev F.a73 : FuncId := 85
abbrev T.a20_uint64 : TypeId := 156
abbrev T.a256_uint8 : TypeId := 135
abbrev T.a34_string : TypeId := 127
abbrev T.a3_int : TypeId := 98
abbrev T.a3_p_int : TypeId := 113
abbrev T.a64_uint8 : TypeId := 184
abbrev T.api_Errno : TypeId := 24
abbrev T.api_Node : TypeId := 39
abbrev T.bool : TypeId := 4
abbrev T.cadenceref07_Store : TypeId := 36
abbrev T.error : TypeId := 90
abbrev T.errors_errorString : TypeId := 182
abbrev T.int : TypeId := 3
abbrev T.int32 : TypeId := 21
abbrev T.interface : TypeId := 20
abbrev T.p_cadenceref07_Store : TypeId := 27
abbrev T.p_errors_errorString : TypeId := 180
abbrev T.p_strconv_NumError : TypeId := 152
abbrev T.p_term_Store : TypeId := 22
abbrev T.sl_int : TypeId := 23
abbrev T.strconv_Error : TypeId := 150
abbrev T.string : TypeId := 9
abbrev T.strings_Builder : TypeId := 87
abbrev T.strings_span : TypeId := 108
abbrev T.term_Store : TypeId := 77
abbrev T.term_fault : TypeId := 60
abbrev T.term_reader : TypeId := 63
abbrev T.uint64 : TypeId := 37
abbrev T.uint8 : TypeId := 5
abbrev T.unicode_Range16 : TypeId := 164
abbrev T.unicode_RangeTable : TypeId := 161
def orc : Orc := { mkOrc [(3, [14]), (6, [18]), (9, [4]), (11, [3]), (12, [14]), (13, [14]), (16, [4]), (17, [11, 14]), (26, [4, 6]), (27, [3]), (28, [3]), (31, [10]), (32, [3]), (48, [18]), (52, [3]), (58, [2]), (59, [3]), (60, [3]), (62, [1]), (63, [3]), (64, [3]), (65, [15]), (85, [4]), (99, [9]), (117, [10])]
  [(3, [(5, some ([], []))]), (4, [(25, some ([], [])), (20, some ([], [])), (17, some ([], [])), (4, some ([], []))]), (5, [(17, some ([], [])), (7, some ([8], []))]), (6, [(18, some ([71], [])), (14, some ([14], [])), (11, some ([], []))]), (10, [(5, some ([], []))]), (12, [(21, some ([], []))]), (17, [(14, some ([5], []))]), (22, [(22, some ([69], [])), (31, some ([], [])), (12, some ([], []))]), (26, [(21, some ([], [4])), (11, some ([], [4])), (4, some ([], [4]))]), (27, [(4, some ([13], []))]), (28, [(23, some ([], [])), (18, some ([], [])), (7, some ([26], [])), (5, some ([17], []))]), (31, [(5, some ([22], [])), (4, some ([15], [])), (10, some ([], [10]))]), (32, [(26, some ([], [])), (21, some ([], [])), (5, some ([], [])), (3, some ([], []))]), (44, [(6, some ([4], []))]), (47, [(7, some ([3], []))]), (48, [(5, some ([4], []))]), (54, [(6, some ([4, 5], []))]), (56, [(2, some ([3], []))]), (58, [(3, some ([], []))]), (59, [(12, some ([67], []))]), (60, [(3, some ([8], []))]), (61, [(3, some ([], []))]), (63, [(8, some ([27], []))]), (64, [(12, some ([60], [])), (4, some ([13], []))]), (65, [(7, some ([5], [])), (3, some ([], []))]), (71, [(4, some ([1], []))]), (76, [(3, some ([6], [])), (8, some ([5], []))]), (82, [(8, some ([6], [])), (4, some ([], []))]), (88, [(26, some ([107], [])), (23, some ([], [])), (21, some ([8], [])), (3, some ([16], [])), (10, some ([], []))]), (90, [(41, some ([106], [])), (46, some ([12, 16], [])), (32, some ([10], [])), (25, some ([2], [])), (16, some ([52], [])), (13, some ([40], [])), (7, some ([25], [])), (21, some ([0, 1], []))]), (96, [(20, some ([4, 12], []))]), (97, [(7, some ([1], [])), (3, some ([], []))]), (98, [(5, some ([], []))]), (99, [(21, some ([], [])), (16, some ([], []))]), (103, [(10, some ([], []))]), (106, [(14, some ([3], [])), (10, some ([3, 4, 5], [])), (5, some ([0], []))]), (112, [(4, some ([0, 2], []))]), (116, [(2, some ([17], []))])]
  [(3, [(10, [13], [])]), (4, [(5, [9], [])]), (5, [(19, [], []), (11, [6, 10, 42], [])]), (6, [(8, [10, 11, 12, 13], [])]), (7, [(4, [5], [])]), (12, [(37, [128], []), (22, [86], []), (9, [32], [])]), (13, [(16, [8, 10], []), (11, [8, 10, 36], []), (2, [18], [])]), (17, [(16, [49], []), (4, [5, 6], [14])]), (22, [(13, [44], [])]), (24, [(4, [3, 4, 5], [])]), (25, [(3, [6, 7], [])]), (26, [(14, [9, 10], [4, 6]), (5, [7], [6])]), (32, [(6, [35], [])]), (47, [(11, [0, 10], [])]), (48, [(6, [], [18])]), (49, [(2, [2, 7], [])]), (54, [(9, [5, 6], [])]), (61, [(4, [3], [])]), (65, [(4, [], [15])]), (69, [(27, [12], []), (21, [10, 11, 12], []), (18, [12], []), (5, [3, 4, 5, 6], [])]), (71, [(6, [0, 7], [])]), (72, [(6, [0, 5], [])]), (78, [(2, [3], [])]), (85, [(2, [2], [4])]), (88, [(15, [8, 10], [])]), (90, [(36, [12, 13, 101], [])]), (96, [(1, [1, 4], [])]), (97, [(11, [1, 13], []), (18, [1, 13], [])]), (103, [(11, [8, 10], []), (5, [8, 9], [])]), (106, [(10, [3, 4], [])]), (116, [(14, [7, 8], []), (3, [20], [])]), (117, [(14, [7, 8], []), (3, [16], [])]), (119, [(8, [6, 7, 8], []), (3, [4, 5], [])])] with xt := look none [(118, some ziw), (87, some ziC)], gt := fun t => List.elem t [5, 87], pan := fun f => List.elem f [5, 19, 20, 21, 22, 49], dfr := fun f => List.elem f [5] }
noncomputable def zbS (R : zae) (x0 x1 : Value) (H0 : Hp) : Option (Value × Hp) := zeX PP orc R F.a31 Go.Proofs.Tryz.f3 [x0, x1] H0
noncomputable def zhA (R : zae) (x0 x1 : Value) (H0 : Hp) : Option (Value × Hp) := zeX PP orc R F.a15 Go.Proofs.Tryz.f5 [x0, x1] H0
noncomputable def zc9 (R : zae) (x0 x1 : Value) (H0 : Hp) : Option (Value × Hp) := zeX PP orc R F.a5 Go.Proofs.Tryz.f6 [x0, x1] H0
noncomputable def zdc (R : zae) (x0 x1 : Value) (H0 : Hp) : Option (Value × Hp) := zeX PP orc R F.a32 Go.Proofs.Tryz.f7 [x0, x1] H0
noncomputable def zd8 (R : zae) (x0 : Value) (H0 : Hp) : Option (Value × Hp) :=
 pNil x0 (
 zao 1 x0 fun p1 =>
 zah 1 false H0 p1 fun v2 =>
 pLen .sl v2 H0 fun v3 =>
 some (v3, H0))
noncomputable def zdM (R : zae) (x0 x1 : Value) (H0 : Hp) : Option (Value × Hp) :=
 zaf R F.a16 [x0, x1] H0 fun r1 H2 =>
 pUn .not r1 fun v3 =>
 zab v3 fun b4 => br b4
 (zaJ PP T.api_Node [] fun v5 =>
 zaG 7 [.int .i64 0, .int .i64 0, .int .i64 0, .int .i64 0, .int .i64 0, .int .u64 0, .string ⟨#[]⟩] 0 v5 fun c6 =>
 zad 7 true c6 0 fun v7 =>
 some ((.tuple #[v7, (.int .i64 70)]), H2))
 (pNil x0 (
 zao 1 x0 fun p8 =>
 zah 1 false H2 p8 fun v9 =>
 pBin PP .sub T.int x1 (.int .i64 1) fun v10 =>
 pIdx 7 v9 v10 fun p11 =>
 zah 7 true H2 p11 fun v12 =>
 zaG 7 [.int .i64 0, .int .i64 0, .int .i64 0, .int .i64 0, .int .i64 0, .int .u64 0, .string ⟨#[]⟩] 0 v12 fun c13 =>
 zad 7 true c13 0 fun v14 =>
 some ((.tuple #[v14, (.int .i64 0)]), H2)))
noncomputable def zit (R : zae) (x0 : Value) (H0 : Hp) : Option (Value × Hp) :=
 pBin PP .lss T.int x0 (.int .i64 0) fun v1 =>
 zab v1 fun b2 => br b2
 (some ((.tuple #[(.pointer none), (.int .i64 1)]), H0))
 (zdz H0 fun v3 H4 =>
 zdz H4 fun v5 H6 =>
 zaJ PP T.term_Store [(0, x0), (2, v3), (3, v5)] fun v7 =>
 zdm (zaa v7) H6 fun p8 H9 =>
 some ((.tuple #[p8, (.int .i64 0)]), H9))
noncomputable def zet (R : zae) (x0 x1 : Value) (H0 : Hp) : Option (Value × Hp) :=
 zaf R F.a42 [x0, x1, (.int .i64 0), (.int .i64 (-1))] H0 fun r1 H2 =>
 some (r1, H2)
noncomputable def zbZ (R : zae) (x x0 x1 x2 : Value) (H0 : Hp) : Option (Value × Hp) :=
 zd3 PP .eql T.interface x fun v1 =>
 zab v1 fun b2 => br b2
 (some ((.tuple #[]), H0))
 (zfn PP T.term_fault x fun v3 =>
 zaG 1 [.int .i64 0] 0 v3 fun c4 =>
 zad 1 false c4 0 fun v5 =>
 zau 1 H0 x0 (.pointer none) fun H6 =>
 zau 1 H6 x1 (.slice none 0 0) fun H7 =>
 zau 1 H7 x2 v5 fun H8 =>
 some ((.tuple #[]), H8))
theorem zf1 (R : zae) (x x0 x1 x2 : Value) (H0 : Hp) {α : Type} (k : Hp → Option α) : zf0 PP orc R F.a43 [x0, x1, x2] x H0 k = zf3 (zbZ R x x0 x1 x2 H0) fun _ H => k H := by kernel_rfl
noncomputable def zcH (R : zae) (x0 x1 : Value) (H0 : Hp) : Option (Value × Hp) := zeX PP orc R F.a10 Go.Proofs.Tryz.f17 [x0, x1] H0
noncomputable def zfT (R : zae) (x0 : Value) (H0 : Hp) : Option (Value × Hp) :=
 pBin PP .eql T.int32 x0 (.int .i32 32) fun v1 =>
 some (v1, H0)
noncomputable def zbY (R : zae) (x0 : Value) (H0 : Hp) : Option (Value × Hp) :=
 pNil x0 (
 zao 1 x0 fun p1 =>
 zah 1 false H0 p1 fun v2 =>
 pLen .sl v2 H0 fun v3 =>
 pBin PP .eql T.int v3 (.int .i64 0) fun v4 =>
 zab v4 fun b5 => br b5
 (zaJ PP T.term_fault [(0, (.int .i64 3))] fun v6 =>
 some ((W0 (.iface T.term_fault v6)), H0))
 (pNil x0 (
 zao 1 x0 fun p7 =>
 zah 1 false H0 p7 fun v8 =>
 pIdx 1 v8 (.int .i64 0) fun p9 =>
 zah 1 false H0 p9 fun v10 =>
 pNil x0 (
 zao 1 x0 fun p11 =>
 zah 1 false H0 p11 fun v12 =>
 zc2 1 v12 (some (.int .i64 1)) none fun v13 =>
 pNil x0 (
 zao 1 x0 fun p14 =>
 zau 1 H0 p14 v13 fun H15 =>
 some ((W1 v10), H15))))))
noncomputable def zdp (R : zae) (x0 : Value) (H0 : Hp) : Option (Value × Hp) :=
 za4 R F.a2 [x0] H0 (fun e1 H2 =>
 some ((W0 e1), H2)) fun r3 H4 =>
 pBin PP .lss T.int r3 (.int .i64 1) fun v5 =>
 zab v5 fun b6 => br b6
 (zaJ PP T.term_fault [(0, (.int .i64 3))] fun v7 =>
 some ((W0 (.iface T.term_fault v7)), H4))
 (pNil x0 (
 zao 2 x0 fun p8 =>
 zah 1 false H4 p8 fun v9 =>
 pLen .sl v9 H4 fun v10 =>
 pBin PP .gtr T.int r3 v10 fun v11 =>
 zab v11 fun b12 => br b12
 (zaJ PP T.term_fault [(0, (.int .i64 3))] fun v13 =>
 some ((W0 (.iface T.term_fault v13)), H4))
 (pNil x0 (
 zao 2 x0 fun p14 =>
 zah 1 false H4 p14 fun v15 =>
 pBin PP .sub T.int r3 (.int .i64 1) fun v16 =>
 pIdx 1 v15 v16 fun p17 =>
 zah 1 false H4 p17 fun v18 =>
 some ((W1 v18), H4)))))
noncomputable def zcG (R : zae) (x0 : Value) (H0 : Hp) : Option (Value × Hp) :=
 za4 R F.a3 [x0] H0 (fun e1 H2 =>
 some ((W0 e1), H2)) fun r3 H4 =>
 zaf R F.a13 [r3] H4 fun r5 H6 =>
 zag r5 0 fun v7 =>
 zag r5 1 fun v8 =>
 pBin PP .neq T.api_Errno v8 (.int .i64 0) fun v9 =>
 zab v9 fun b10 => br b10
 (zaJ PP T.term_fault [(0, (.int .i64 3))] fun v11 =>
 some ((W0 (.iface T.term_fault v11)), H6))
 (pBin PP .geq T.uint64 v7 (.int .u64 2147483648) fun v12 =>
 zab v12 fun b13 => br b13
 (zaJ PP T.term_fault [(0, (.int .i64 3))] fun v14 =>
 some ((W0 (.iface T.term_fault v14)), H6))
 (zaw .i64 v7 fun v15 =>
 some ((W1 v15), H6)))
noncomputable def zdq (R : zae) (x0 : Value) (H0 : Hp) : Option (Value × Hp) := zeX PP orc R F.a12 Go.Proofs.Tryz.f22 [x0] H0
noncomputable def zds (R : zae) (x0 : Value) (H0 : Hp) : Option (Value × Hp) :=
 pBin PP .lss T.int x0 (.int .i64 0) fun v1 =>
 zab v1 fun b2 => br b2
 (some ((.tuple #[(.pointer none), (.int .i64 1)]), H0))
 (zdz H0 fun v3 H4 =>
 zdz H4 fun v5 H6 =>
 zaJ PP T.cadenceref07_Store [(0, x0), (2, v3), (3, v5)] fun v7 =>
 zdm (zaa v7) H6 fun p8 H9 =>
 some ((.tuple #[p8, (.int .i64 0)]), H9))
noncomputable def zcI (R : zae) (x0 : Value) (H0 : Hp) : Option (Value × Hp) := zeX PP orc R F.a35 Go.Proofs.Tryz.f24 [x0] H0
noncomputable def zcK (R : zae) (x0 x1 : Value) (H0 : Hp) : Option (Value × Hp) := zeX PP orc R F.a22 Go.Proofs.Tryz.f25 [x0, x1] H0
noncomputable def zc7 (R : zae) (x0 x1 : Value) (H0 : Hp) : Option (Value × Hp) := zeX PP orc R F.a14 Go.Proofs.Tryz.f26 [x0, x1] H0
noncomputable def zbD (R : zae) (x0 x1 : Value) (H0 : Hp) : Option (Value × Hp) :=
 zad 1 false (zaa x1) 0 fun v1 =>
 pBin PP .eql T.int v1 (.int .i64 14) fun v2 =>
 zab v2 fun b3 => br b3
 (zad 1 false (zaa x1) 3 fun v4 =>
 zaf R F.a0 [x0, v4] H0 fun r5 H6 =>
 some (r5, H6))
 (zat (
 zad 1 false (zaa x1) 0 fun v7 =>
 pBin PP .eql T.int v7 (.int .i64 15) fun v8 =>
 zab v8 fun b9 => br b9
 (some (.next, [(.bool true)], H0))
 (zad 1 false (zaa x1) 0 fun v10 =>
 pBin PP .eql T.int v10 (.int .i64 16) fun v11 =>
 zab v11 fun b12 => br b12
 (some (.next, [(.bool true)], H0))
 (zad 1 false (zaa x1) 0 fun v13 =>
 pBin PP .geq T.int v13 (.int .i64 17) fun v14 =>
 zab v14 fun b15 => br b15
 (zad 1 false (zaa x1) 0 fun v16 =>
 pBin PP .leq T.int v16 (.int .i64 29) fun v17 =>
 some (.next, [v17], H0))
 (some (.next, [(.bool false)], H0))))) fun q18 l19 H20 => zaC q18
 (zab (l19.getD 0 undef) fun b22 => br b22
 (zad 1 false (zaa x1) 2 fun v23 =>
 zaf R F.a0 [x0, v23] H20 fun r24 H25 =>
 some (r24, H25))
 (zad 1 false (zaa x1) 0 fun v26 =>
 pBin PP .eql T.int v26 (.int .i64 30) fun v27 =>
 zab v27 fun b28 => br b28
 (zad 1 false (zaa x1) 2 fun v29 =>
 zaf R F.a0 [x0, v29] H20 fun r30 H31 =>
 zad 1 false (zaa x1) 3 fun v32 =>
 zaf R F.a0 [x0, v32] H31 fun r33 H34 =>
 pBin PP .add T.int r30 r33 fun v35 =>
 pBin PP .leq T.int v35 (.int .i64 64) fun v36 =>
 zab v36 fun b37 => br b37
 (zad 1 false (zaa x1) 2 fun v38 =>
 zaf R F.a0 [x0, v38] H34 fun r39 H40 =>
 zad 1 false (zaa x1) 3 fun v41 =>
 zaf R F.a0 [x0, v41] H40 fun r42 H43 =>
 pBin PP .add T.int r39 r42 fun v44 =>
 some (v44, H43))
 (zad 1 false (zaa x1) 1 fun v45 =>
 some (v45, H34)))
 (zad 1 false (zaa x1) 1 fun v46 =>
 some (v46, H20))))
 (fun i21 => zax i21 0 (
 zad 1 false (zaa x1) 1 fun v47 =>
 some (v47, H20)) (
 none))
 (some ((l19.headD undef), H20)))
noncomputable def zbO (R : zae) (x0 x1 : Value) (H0 : Hp) : Option (Value × Hp) :=
 zad 1 false (zaa x1) 0 fun v1 =>
 zaf R F.a33 [v1] H0 fun r2 H3 =>
 pBin PP .lss T.int r2 (.int .i64 0) fun v4 =>
 zab v4 fun b5 => br b5
 (some ((.tuple #[(.int .i64 0), (.int .i64 73)]), H3))
 (zat (
 zad 1 false (zaa x1) 1 fun v6 =>
 pBin PP .lss T.int v6 (.int .i64 0) fun v7 =>
 zab v7 fun b8 => br b8
 (some (.next, [(.bool true)], H3))
 (zad 1 false (zaa x1) 1 fun v9 =>
 pBin PP .gtr T.int v9 (.int .i64 64) fun v10 =>
 some (.next, [v10], H3))) fun q11 l12 H13 => zaC q11
 (zab (l12.getD 0 undef) fun b15 => br b15
 (some ((.tuple #[(.int .i64 0), (.int .i64 5)]), H13))
 (zat (
 pBin PP .geq T.int r2 (.int .i64 1) fun v16 =>
 zab v16 fun b17 => br b17
 (zad 1 false (zaa x1) 2 fun v18 =>
 zaf R F.a6 [x0, v18] H13 fun r19 H20 =>
 pUn .not r19 fun v21 =>
 zab v21 fun b22 => br b22
 (some (.next, [(.bool true)], H20))
 (pBin PP .geq T.int r2 (.int .i64 2) fun v23 =>
 zab v23 fun b24 => br b24
 (zad 1 false (zaa x1) 3 fun v25 =>
 zaf R F.a6 [x0, v25] H20 fun r26 H27 =>
 pUn .not r26 fun v28 =>
 zab v28 fun b29 => br b29
 (some (.next, [(.bool true)], H27))
 (pBin PP .geq T.int r2 (.int .i64 3) fun v30 =>
 zab v30 fun b31 => br b31
 (zad 1 false (zaa x1) 4 fun v32 =>
 zaf R F.a6 [x0, v32] H27 fun r33 H34 =>
 pUn .not r33 fun v35 =>
 some (.next, [v35], H34))
 (some (.next, [(.bool false)], H27))))
 (pBin PP .geq T.int r2 (.int .i64 3) fun v36 =>
 zab v36 fun b37 => br b37
 (zad 1 false (zaa x1) 4 fun v38 =>
 zaf R F.a6 [x0, v38] H20 fun r39 H40 =>
 pUn .not r39 fun v41 =>
 some (.next, [v41], H40))
 (some (.next, [(.bool false)], H20)))))
 (pBin PP .geq T.int r2 (.int .i64 2) fun v42 =>
 zab v42 fun b43 => br b43
 (zad 1 false (zaa x1) 3 fun v44 =>
 zaf R F.a6 [x0, v44] H13 fun r45 H46 =>
 pUn .not r45 fun v47 =>
 zab v47 fun b48 => br b48
 (some (.next, [(.bool true)], H46))
 (pBin PP .geq T.int r2 (.int .i64 3) fun v49 =>
 zab v49 fun b50 => br b50
 (zad 1 false (zaa x1) 4 fun v51 =>
 zaf R F.a6 [x0, v51] H46 fun r52 H53 =>
 pUn .not r52 fun v54 =>
 some (.next, [v54], H53))
 (some (.next, [(.bool false)], H46))))
 (pBin PP .geq T.int r2 (.int .i64 3) fun v55 =>
 zab v55 fun b56 => br b56
 (zad 1 false (zaa x1) 4 fun v57 =>
 zaf R F.a6 [x0, v57] H13 fun r58 H59 =>
 pUn .not r58 fun v60 =>
 some (.next, [v60], H59))
 (some (.next, [(.bool false)], H13))))) fun q61 l62 H63 => zaC q61
 (zab (l62.getD 0 undef) fun b65 => br b65
 (some ((.tuple #[(.int .i64 0), (.int .i64 70)]), H63))
 (zad 7 true (zaa x1) 0 fun v66 =>
 zaf R F.a55 [v66, r2] H63 fun r67 H68 =>
 zab r67 fun b69 => br b69
 (some ((.tuple #[(.int .i64 0), (.int .i64 1)]), H68))
 (zad 7 true (zaa x1) 0 fun v70 =>
 zaf R F.a53 [x0, v70] H68 fun r71 H72 =>
 pUn .not r71 fun v73 =>
 zab v73 fun b74 => br b74
 (some ((.tuple #[(.int .i64 0), (.int .i64 71)]), H72))
 (zad 7 true (zaa x1) 0 fun v75 =>
 zaf R F.a54 [x0, v75] H72 fun r76 H77 =>
 pUn .not r76 fun v78 =>
 zab v78 fun b79 => br b79
 (some ((.tuple #[(.int .i64 0), (.int .i64 5)]), H77))
 (zat (
 zad 1 false (zaa x1) 0 fun v80 =>
 pBin PP .eql T.int v80 (.int .i64 4) fun v81 =>
 zab v81 fun b82 => br b82
 (pNil x0 (
 zao 3 x0 fun p83 =>
 zah 1 false H77 p83 fun v84 =>
 zad 1 false (zaa x1) 6 fun v85 =>
 zeb PP T.string (.int .i64 0) v84 v85 true H77 fun v86 =>
 zag v86 0 fun v87 =>
 zag v86 1 fun v88 =>
 zad 1 false (zaa x1) 6 fun v89 =>
 zaf R F.a18 [v89] H77 fun r90 H91 =>
 pUn .not r90 fun v92 =>
 zab v92 fun b93 => br b93
 (some (.ret, [(.tuple #[(.int .i64 0), (.int .i64 72)])], H91))
 (zab v88 fun b94 => br b94
 (zad 1 false (zaa x1) 1 fun v95 =>
 pBin PP .neq T.int v87 v95 fun v96 =>
 zab v96 fun b97 => br b97
 (some (.ret, [(.tuple #[(.int .i64 0), (.int .i64 72)])], H91))
 (some (.next, [], H91)))
 (some (.next, [], H91)))))
 (some (.next, [], H77))) fun q98 l99 H100 => zaC q98
 (pNil x0 (
 zao 2 x0 fun p102 =>
 zah 1 false H100 p102 fun v103 =>
 zad 7 true (zaa x1) 0 fun v104 =>
 zeb PP T.api_Node (.int .i64 0) v103 v104 true H100 fun v105 =>
 zag v105 0 fun v106 =>
 zag v105 1 fun v107 =>
 zab v107 fun b108 => br b108
 (some ((.tuple #[v106, (.int .i64 0)]), H100))
 (zat (
 pNil x0 (
 zao 0 x0 fun p109 =>
 zah 1 false H100 p109 fun v110 =>
 pBin PP .gtr T.int v110 (.int .i64 0) fun v111 =>
 zab v111 fun b112 => br b112
 (pNil x0 (
 zao 1 x0 fun p113 =>
 zah 1 false H100 p113 fun v114 =>
 pLen .sl v114 H100 fun v115 =>
 pNil x0 (
 zao 0 x0 fun p116 =>
 zah 1 false H100 p116 fun v117 =>
 pBin PP .geq T.int v115 v117 fun v118 =>
 zab v118 fun b119 => br b119
 (some (.ret, [(.tuple #[(.int .i64 0), (.int .i64 4)])], H100))
 (some (.next, [], H100)))))
 (some (.next, [], H100)))) fun q120 l121 H122 => zaC q120
 (pNil x0 (
 zao 1 x0 fun p124 =>
 zah 1 false H122 p124 fun v125 =>
 zad 7 true (zaa x1) 0 fun v126 =>
 zap 7 [.int .i64 0, .int .i64 0, .int .i64 0, .int .i64 0, .int .i64 0, .int .u64 0, .string ⟨#[]⟩] 1 [(0, v126)] H122 fun v127 H128 =>
 chk (Hp.rdP H128 p124 1 false = some v125) (
 zaQ 7 64 v125 v127 H128 fun v129 H130 =>
 pNil x0 (
 zao 1 x0 fun p131 =>
 zau 1 H130 p131 v129 fun H132 =>
 pNil x0 (
 zao 2 x0 fun p133 =>
 zah 1 false H132 p133 fun v134 =>
 zad 7 true (zaa x1) 0 fun v135 =>
 pNil x0 (
 zao 1 x0 fun p136 =>
 zah 1 false H132 p136 fun v137 =>
 pLen .sl v137 H132 fun v138 =>
 pUpd PP T.api_Node v134 v135 v138 H132 fun H139 =>
 zad 1 false (zaa x1) 0 fun v140 =>
 pBin PP .eql T.int v140 (.int .i64 4) fun v141 =>
 zab v141 fun b142 => br b142
 (pNil x0 (
 zao 3 x0 fun p143 =>
 zah 1 false H139 p143 fun v144 =>
 zad 1 false (zaa x1) 6 fun v145 =>
 zad 1 false (zaa x1) 1 fun v146 =>
 pUpd PP T.string v144 v145 v146 H139 fun H147 =>
 pNil x0 (
 zao 1 x0 fun p148 =>
 zah 1 false H147 p148 fun v149 =>
 pLen .sl v149 H147 fun v150 =>
 some ((.tuple #[v150, (.int .i64 0)]), H147))))
 (pNil x0 (
 zao 1 x0 fun p151 =>
 zah 1 false H139 p151 fun v152 =>
 pLen .sl v152 H139 fun v153 =>
 some ((.tuple #[v153, (.int .i64 0)]), H139)))))))))
 (fun i123 => none)
 (some ((l121.headD undef), H122)))))
 (fun i101 => none)
 (some ((l99.headD undef), H100)))))))
 (fun i64 => zax i64 0 (
 zat (
 zad 1 false (zaa x1) 0 fun v154 =>
 pBin PP .eql T.int v154 (.int .i64 4) fun v155 =>
 zab v155 fun b156 => br b156
 (pNil x0 (
 zao 3 x0 fun p157 =>
 zah 1 false H63 p157 fun v158 =>
 zad 1 false (zaa x1) 6 fun v159 =>
 zeb PP T.string (.int .i64 0) v158 v159 true H63 fun v160 =>
 zag v160 0 fun v161 =>
 zag v160 1 fun v162 =>
 zad 1 false (zaa x1) 6 fun v163 =>
 zaf R F.a18 [v163] H63 fun r164 H165 =>
 pUn .not r164 fun v166 =>
 zab v166 fun b167 => br b167
 (some (.ret, [(.tuple #[(.int .i64 0), (.int .i64 72)])], H165))
 (zab v162 fun b168 => br b168
 (zad 1 false (zaa x1) 1 fun v169 =>
 pBin PP .neq T.int v161 v169 fun v170 =>
 zab v170 fun b171 => br b171
 (some (.ret, [(.tuple #[(.int .i64 0), (.int .i64 72)])], H165))
 (some (.next, [], H165)))
 (some (.next, [], H165)))))
 (some (.next, [], H63))) fun q172 l173 H174 => zaC q172
 (pNil x0 (
 zao 2 x0 fun p176 =>
 zah 1 false H174 p176 fun v177 =>
 zad 7 true (zaa x1) 0 fun v178 =>
 zeb PP T.api_Node (.int .i64 0) v177 v178 true H174 fun v179 =>
 zag v179 0 fun v180 =>
 zag v179 1 fun v181 =>
 zab v181 fun b182 => br b182
 (some ((.tuple #[v180, (.int .i64 0)]), H174))
 (zat (
 pNil x0 (
 zao 0 x0 fun p183 =>
 zah 1 false H174 p183 fun v184 =>
 pBin PP .gtr T.int v184 (.int .i64 0) fun v185 =>
 zab v185 fun b186 => br b186
 (pNil x0 (
 zao 1 x0 fun p187 =>
 zah 1 false H174 p187 fun v188 =>
 pLen .sl v188 H174 fun v189 =>
 pNil x0 (
 zao 0 x0 fun p190 =>
 zah 1 false H174 p190 fun v191 =>
 pBin PP .geq T.int v189 v191 fun v192 =>
 zab v192 fun b193 => br b193
 (some (.ret, [(.tuple #[(.int .i64 0), (.int .i64 4)])], H174))
 (some (.next, [], H174)))))
 (some (.next, [], H174)))) fun q194 l195 H196 => zaC q194
 (pNil x0 (
 zao 1 x0 fun p198 =>
 zah 1 false H196 p198 fun v199 =>
 zad 7 true (zaa x1) 0 fun v200 =>
 zap 7 [.int .i64 0, .int .i64 0, .int .i64 0, .int .i64 0, .int .i64 0, .int .u64 0, .string ⟨#[]⟩] 1 [(0, v200)] H196 fun v201 H202 =>
 chk (Hp.rdP H202 p198 1 false = some v199) (
 zaQ 7 64 v199 v201 H202 fun v203 H204 =>
 pNil x0 (
 zao 1 x0 fun p205 =>
 zau 1 H204 p205 v203 fun H206 =>
 pNil x0 (
 zao 2 x0 fun p207 =>
 zah 1 false H206 p207 fun v208 =>
 zad 7 true (zaa x1) 0 fun v209 =>
 pNil x0 (
 zao 1 x0 fun p210 =>
 zah 1 false H206 p210 fun v211 =>
 pLen .sl v211 H206 fun v212 =>
 pUpd PP T.api_Node v208 v209 v212 H206 fun H213 =>
 zad 1 false (zaa x1) 0 fun v214 =>
 pBin PP .eql T.int v214 (.int .i64 4) fun v215 =>
 zab v215 fun b216 => br b216
 (pNil x0 (
 zao 3 x0 fun p217 =>
 zah 1 false H213 p217 fun v218 =>
 zad 1 false (zaa x1) 6 fun v219 =>
 zad 1 false (zaa x1) 1 fun v220 =>
 pUpd PP T.string v218 v219 v220 H213 fun H221 =>
 pNil x0 (
 zao 1 x0 fun p222 =>
 zah 1 false H221 p222 fun v223 =>
 pLen .sl v223 H221 fun v224 =>
 some ((.tuple #[v224, (.int .i64 0)]), H221))))
 (pNil x0 (
 zao 1 x0 fun p225 =>
 zah 1 false H213 p225 fun v226 =>
 pLen .sl v226 H213 fun v227 =>
 some ((.tuple #[v227, (.int .i64 0)]), H213)))))))))
 (fun i197 => none)
 (some ((l195.headD undef), H196)))))
 (fun i175 => none)
 (some ((l173.headD undef), H174))) (
 none))
 (some ((l62.headD undef), H63))))
 (fun i14 => zax i14 0 (
 zat (
 zad 1 false (zaa x1) 0 fun v228 =>
 pBin PP .eql T.int v228 (.int .i64 4) fun v229 =>
 zab v229 fun b230 => br b230
 (pNil x0 (
 zao 3 x0 fun p231 =>
 zah 1 false H13 p231 fun v232 =>
 zad 1 false (zaa x1) 6 fun v233 =>
 zeb PP T.string (.int .i64 0) v232 v233 true H13 fun v234 =>
 zag v234 0 fun v235 =>
 zag v234 1 fun v236 =>
 zad 1 false (zaa x1) 6 fun v237 =>
 zaf R F.a18 [v237] H13 fun r238 H239 =>
 pUn .not r238 fun v240 =>
 zab v240 fun b241 => br b241
 (some (.ret, [(.tuple #[(.int .i64 0), (.int .i64 72)])], H239))
 (zab v236 fun b242 => br b242
 (zad 1 false (zaa x1) 1 fun v243 =>
 pBin PP .neq T.int v235 v243 fun v244 =>
 zab v244 fun b245 => br b245
 (some (.ret, [(.tuple #[(.int .i64 0), (.int .i64 72)])], H239))
 (some (.next, [], H239)))
 (some (.next, [], H239)))))
 (some (.next, [], H13))) fun q246 l247 H248 => zaC q246
 (pNil x0 (
 zao 2 x0 fun p250 =>
 zah 1 false H248 p250 fun v251 =>
 zad 7 true (zaa x1) 0 fun v252 =>
 zeb PP T.api_Node (.int .i64 0) v251 v252 true H248 fun v253 =>
 zag v253 0 fun v254 =>
 zag v253 1 fun v255 =>
 zab v255 fun b256 => br b256
 (some ((.tuple #[v254, (.int .i64 0)]), H248))
 (zat (
 pNil x0 (
 zao 0 x0 fun p257 =>
 zah 1 false H248 p257 fun v258 =>
 pBin PP .gtr T.int v258 (.int .i64 0) fun v259 =>
 zab v259 fun b260 => br b260
 (pNil x0 (
 zao 1 x0 fun p261 =>
 zah 1 false H248 p261 fun v262 =>
 pLen .sl v262 H248 fun v263 =>
 pNil x0 (
 zao 0 x0 fun p264 =>
 zah 1 false H248 p264 fun v265 =>
 pBin PP .geq T.int v263 v265 fun v266 =>
 zab v266 fun b267 => br b267
 (some (.ret, [(.tuple #[(.int .i64 0), (.int .i64 4)])], H248))
 (some (.next, [], H248)))))
 (some (.next, [], H248)))) fun q268 l269 H270 => zaC q268
 (pNil x0 (
 zao 1 x0 fun p272 =>
 zah 1 false H270 p272 fun v273 =>
 zad 7 true (zaa x1) 0 fun v274 =>
 zap 7 [.int .i64 0, .int .i64 0, .int .i64 0, .int .i64 0, .int .i64 0, .int .u64 0, .string ⟨#[]⟩] 1 [(0, v274)] H270 fun v275 H276 =>
 chk (Hp.rdP H276 p272 1 false = some v273) (
 zaQ 7 64 v273 v275 H276 fun v277 H278 =>
 pNil x0 (
 zao 1 x0 fun p279 =>
 zau 1 H278 p279 v277 fun H280 =>
 pNil x0 (
 zao 2 x0 fun p281 =>
 zah 1 false H280 p281 fun v282 =>
 zad 7 true (zaa x1) 0 fun v283 =>
 pNil x0 (
 zao 1 x0 fun p284 =>
 zah 1 false H280 p284 fun v285 =>
 pLen .sl v285 H280 fun v286 =>
 pUpd PP T.api_Node v282 v283 v286 H280 fun H287 =>
 zad 1 false (zaa x1) 0 fun v288 =>
 pBin PP .eql T.int v288 (.int .i64 4) fun v289 =>
 zab v289 fun b290 => br b290
 (pNil x0 (
 zao 3 x0 fun p291 =>
 zah 1 false H287 p291 fun v292 =>
 zad 1 false (zaa x1) 6 fun v293 =>
 zad 1 false (zaa x1) 1 fun v294 =>
 pUpd PP T.string v292 v293 v294 H287 fun H295 =>
 pNil x0 (
 zao 1 x0 fun p296 =>
 zah 1 false H295 p296 fun v297 =>
 pLen .sl v297 H295 fun v298 =>
 some ((.tuple #[v298, (.int .i64 0)]), H295))))
 (pNil x0 (
 zao 1 x0 fun p299 =>
 zah 1 false H287 p299 fun v300 =>
 pLen .sl v300 H287 fun v301 =>
 some ((.tuple #[v301, (.int .i64 0)]), H287)))))))))
 (fun i271 => none)
 (some ((l269.headD undef), H270)))))
 (fun i249 => none)
 (some ((l247.headD undef), H248))) (
 none))
 (some ((l12.headD undef), H13)))
noncomputable def zes (R : zae) (x0 x1 : Value) (H0 : Hp) : Option (Value × Hp) :=
 pBin PP .geq T.int x1 (.int .i64 1) fun v1 =>
 zab v1 fun b2 => br b2
 (pNil x0 (
 zao 1 x0 fun p3 =>
 zah 1 false H0 p3 fun v4 =>
 pLen .sl v4 H0 fun v5 =>
 pBin PP .leq T.int x1 v5 fun v6 =>
 some (v6, H0)))
 (some ((.bool false), H0))
noncomputable def zdN (R : zae) (x0 x1 : Value) (H0 : Hp) : Option (Value × Hp) :=
 zat (
 zad 1 false (zaa x1) 0 fun v1 =>
 pBin PP .lss T.int v1 (.int .i64 1) fun v2 =>
 zab v2 fun b3 => br b3
 (some (.ret, [(.tuple #[(.int .i64 0), (.int .i64 73)])], H0))
 (zad 1 false (zaa x1) 0 fun v4 =>
 pBin PP .gtr T.int v4 (.int .i64 33) fun v5 =>
 zab v5 fun b6 => br b6
 (some (.ret, [(.tuple #[(.int .i64 0), (.int .i64 73)])], H0))
 (some (.next, [], H0)))) fun q7 l8 H9 => zaC q7
 (zat (
 zad 1 false (zaa x1) 1 fun v11 =>
 pBin PP .lss T.int v11 (.int .i64 0) fun v12 =>
 zab v12 fun b13 => br b13
 (some (.ret, [(.tuple #[(.int .i64 0), (.int .i64 5)])], H9))
 (zad 1 false (zaa x1) 1 fun v14 =>
 pBin PP .gtr T.int v14 (.int .i64 64) fun v15 =>
 zab v15 fun b16 => br b16
 (some (.ret, [(.tuple #[(.int .i64 0), (.int .i64 5)])], H9))
 (some (.next, [], H9)))) fun q17 l18 H19 => zaC q17
 (zad 1 false (zaa x1) 2 fun v21 =>
 zad 1 false (zaa x1) 3 fun v22 =>
 zad 1 false (zaa x1) 4 fun v23 =>
 zaJ PP T.a3_int [(0, v21), (1, v22), (2, v23)] fun v24 =>
 zat (zaE (fun l25 H26 =>
 pBin PP .lss T.int (l25.getD 0 undef) (.int .i64 3) fun v27 =>
 zab v27 fun b28 => br b28
 (zd5 3 false 1 v24 (l25.getD 0 undef) fun v29 =>
 zad 1 false (zaa x1) 0 fun v30 =>
 zaf R F.a8 [v30] H26 fun r31 H32 =>
 pBin PP .lss T.int (l25.getD 0 undef) r31 fun v33 =>
 zab v33 fun b34 => br b34
 (zaf R F.a16 [x0, v29] H32 fun r35 H36 =>
 pUn .not r35 fun v37 =>
 zab v37 fun b38 => br b38
 (some (.ret, [(.tuple #[(.int .i64 0), (.int .i64 70)])], H36))
 (pBin PP .add T.int (l25.getD 0 undef) (.int .i64 1) fun v39 =>
 some (.next, [v39], H36)))
 (pBin PP .add T.int (l25.getD 0 undef) (.int .i64 1) fun v40 =>
 some (.next, [v40], H32)))
 (some (.exit 0, [(l25.getD 0 undef)], H26))) [(.int .i64 0)] H19) fun q41 l42 H43 => zaC q41 none
 (fun i44 => zax i44 0 (
 zad 7 true (zaa x1) 0 fun v45 =>
 zaf R F.a64 [v45] H43 fun r46 H47 =>
 zab r46 fun b48 => br b48
 (some ((.tuple #[(.int .i64 0), (.int .i64 1)]), H47))
 (zad 7 true (zaa x1) 0 fun v49 =>
 zaf R F.a61 [x0, v49] H47 fun r50 H51 =>
 pUn .not r50 fun v52 =>
 zab v52 fun b53 => br b53
 (some ((.tuple #[(.int .i64 0), (.int .i64 71)]), H51))
 (zad 7 true (zaa x1) 0 fun v54 =>
 zaf R F.a62 [x0, v54] H51 fun r55 H56 =>
 pUn .not r55 fun v57 =>
 zab v57 fun b58 => br b58
 (some ((.tuple #[(.int .i64 0), (.int .i64 5)]), H56))
 (zat (
 zad 1 false (zaa x1) 0 fun v59 =>
 pBin PP .eql T.int v59 (.int .i64 4) fun v60 =>
 zab v60 fun b61 => br b61
 (pNil x0 (
 zao 3 x0 fun p62 =>
 zah 1 false H56 p62 fun v63 =>
 zad 1 false (zaa x1) 6 fun v64 =>
 zeb PP T.string (.int .i64 0) v63 v64 true H56 fun v65 =>
 zag v65 0 fun v66 =>
 zag v65 1 fun v67 =>
 zad 1 false (zaa x1) 6 fun v68 =>
 zaf R F.a46 [v68] H56 fun r69 H70 =>
 pUn .not r69 fun v71 =>
 zab v71 fun b72 => br b72
 (some (.ret, [(.tuple #[(.int .i64 0), (.int .i64 72)])], H70))
 (zab v67 fun b73 => br b73
 (zad 1 false (zaa x1) 1 fun v74 =>
 pBin PP .neq T.int v66 v74 fun v75 =>
 zab v75 fun b76 => br b76
 (some (.ret, [(.tuple #[(.int .i64 0), (.int .i64 72)])], H70))
 (some (.next, [], H70)))
 (some (.next, [], H70)))))
 (some (.next, [], H56))) fun q77 l78 H79 => zaC q77
 (pNil x0 (
 zao 2 x0 fun p81 =>
 zah 1 false H79 p81 fun v82 =>
 zad 7 true (zaa x1) 0 fun v83 =>
 zeb PP T.api_Node (.int .i64 0) v82 v83 true H79 fun v84 =>
 zag v84 0 fun v85 =>
 zag v84 1 fun v86 =>
 zab v86 fun b87 => br b87
 (some ((.tuple #[v85, (.int .i64 0)]), H79))
 (zat (
 pNil x0 (
 zao 0 x0 fun p88 =>
 zah 1 false H79 p88 fun v89 =>
 pBin PP .gtr T.int v89 (.int .i64 0) fun v90 =>
 zab v90 fun b91 => br b91
 (pNil x0 (
 zao 1 x0 fun p92 =>
 zah 1 false H79 p92 fun v93 =>
 pLen .sl v93 H79 fun v94 =>
 pNil x0 (
 zao 0 x0 fun p95 =>
 zah 1 false H79 p95 fun v96 =>
 pBin PP .geq T.int v94 v96 fun v97 =>
 zab v97 fun b98 => br b98
 (some (.ret, [(.tuple #[(.int .i64 0), (.int .i64 4)])], H79))
 (some (.next, [], H79)))))
 (some (.next, [], H79)))) fun q99 l100 H101 => zaC q99
 (pNil x0 (
 zao 1 x0 fun p103 =>
 zah 1 false H101 p103 fun v104 =>
 zad 7 true (zaa x1) 0 fun v105 =>
 zap 7 [.int .i64 0, .int .i64 0, .int .i64 0, .int .i64 0, .int .i64 0, .int .u64 0, .string ⟨#[]⟩] 1 [(0, v105)] H101 fun v106 H107 =>
 chk (Hp.rdP H107 p103 1 false = some v104) (
 zaQ 7 64 v104 v106 H107 fun v108 H109 =>
 pNil x0 (
 zao 1 x0 fun p110 =>
 zau 1 H109 p110 v108 fun H111 =>
 pNil x0 (
 zao 2 x0 fun p112 =>
 zah 1 false H111 p112 fun v113 =>
 zad 7 true (zaa x1) 0 fun v114 =>
 pNil x0 (
 zao 1 x0 fun p115 =>
 zah 1 false H111 p115 fun v116 =>
 pLen .sl v116 H111 fun v117 =>
 pUpd PP T.api_Node v113 v114 v117 H111 fun H118 =>
 zad 1 false (zaa x1) 0 fun v119 =>
 pBin PP .eql T.int v119 (.int .i64 4) fun v120 =>
 zab v120 fun b121 => br b121
 (pNil x0 (
 zao 3 x0 fun p122 =>
 zah 1 false H118 p122 fun v123 =>
 zad 1 false (zaa x1) 6 fun v124 =>
 zad 1 false (zaa x1) 1 fun v125 =>
 pUpd PP T.string v123 v124 v125 H118 fun H126 =>
 pNil x0 (
 zao 1 x0 fun p127 =>
 zah 1 false H126 p127 fun v128 =>
 pLen .sl v128 H126 fun v129 =>
 some ((.tuple #[v129, (.int .i64 0)]), H126))))
 (pNil x0 (
 zao 1 x0 fun p130 =>
 zah 1 false H118 p130 fun v131 =>
 pLen .sl v131 H118 fun v132 =>
 some ((.tuple #[v132, (.int .i64 0)]), H118)))))))))
 (fun i102 => none)
 (some ((l100.headD undef), H101)))))
 (fun i80 => none)
 (some ((l78.headD undef), H79)))))) (
 none))
 (some ((l42.headD undef), H43)))
 (fun i20 => none)
 (some ((l18.headD undef), H19)))
 (fun i10 => none)
 (some ((l8.headD undef), H9))
noncomputable def zgx (R : zae) (H0 : Hp) : Option (Value × Hp) :=
 zaf R F.a40 [(.string ⟨#[45, 32, 116, 114, 117, 101, 32, 102, 97, 108, 115, 101, 32, 99, 111, 110, 115, 116, 32, 118, 97, 114, 32, 110, 111, 116, 32, 97, 110, 100, 32, 111, 114, 32, 120, 111, 114, 32, 101, 113, 32, 117, 108, 116, 32, 117, 108, 101, 32, 115, 108, 116, 32, 115, 108, 101, 32, 105, 116, 101, 32, 99, 111, 109, 32, 110, 101, 103, 32, 98, 97, 110, 100, 32, 98, 111, 114, 32, 98, 120, 111, 114, 32, 97, 100, 100, 32, 115, 117, 98, 32, 109, 117, 108, 32, 100, 105, 118, 32, 114, 101, 109, 32, 115, 104, 108, 32, 115, 104, 114, 32, 115, 97, 114, 32, 114, 111, 108, 32, 114, 111, 114, 32, 99, 97, 116, 32, 115, 108, 105, 99, 101, 32, 122, 101, 120, 116, 32, 115, 101, 120, 116]⟩)] H0 fun r1 H2 =>
 some (r1, H2)
noncomputable def zgw (R : zae) (x0 : Value) (H0 : Hp) : Option (Value × Hp) :=
 zat (
 pBin PP .eql T.int x0 (.int .i64 1) fun v1 =>
 zab v1 fun b2 => br b2
 (some (.next, [v1], H0))
 (pBin PP .eql T.int x0 (.int .i64 2) fun v3 =>
 zab v3 fun b4 => br b4
 (some (.next, [v3], H0))
 (pBin PP .eql T.int x0 (.int .i64 3) fun v5 =>
 zab v5 fun b6 => br b6
 (some (.next, [v5], H0))
 (pBin PP .eql T.int x0 (.int .i64 4) fun v7 =>
 some (.next, [v7], H0))))) fun q8 l9 H10 => zaC q8
 (zab (l9.getD 0 undef) fun b12 => br b12
 (some ((.int .i64 0), H10))
 (pBin PP .eql T.int x0 (.int .i64 5) fun v13 =>
 zab v13 fun b14 => br b14
 (zab v13 fun b15 => br b15
 (some ((.int .i64 1), H10))
 (pBin PP .eql T.int x0 (.int .i64 14) fun v16 =>
 zab v16 fun b17 => br b17
 (some ((.int .i64 3), H10))
 (some ((.int .i64 2), H10))))
 (pBin PP .eql T.int x0 (.int .i64 15) fun v18 =>
 zab v18 fun b19 => br b19
 (zab v18 fun b20 => br b20
 (some ((.int .i64 1), H10))
 (pBin PP .eql T.int x0 (.int .i64 14) fun v21 =>
 zab v21 fun b22 => br b22
 (some ((.int .i64 3), H10))
 (some ((.int .i64 2), H10))))
 (pBin PP .eql T.int x0 (.int .i64 16) fun v23 =>
 zab v23 fun b24 => br b24
 (zab v23 fun b25 => br b25
 (some ((.int .i64 1), H10))
 (pBin PP .eql T.int x0 (.int .i64 14) fun v26 =>
 zab v26 fun b27 => br b27
 (some ((.int .i64 3), H10))
 (some ((.int .i64 2), H10))))
 (pBin PP .eql T.int x0 (.int .i64 31) fun v28 =>
 zab v28 fun b29 => br b29
 (zab v28 fun b30 => br b30
 (some ((.int .i64 1), H10))
 (pBin PP .eql T.int x0 (.int .i64 14) fun v31 =>
 zab v31 fun b32 => br b32
 (some ((.int .i64 3), H10))
 (some ((.int .i64 2), H10))))
 (pBin PP .eql T.int x0 (.int .i64 32) fun v33 =>
 zab v33 fun b34 => br b34
 (zab v33 fun b35 => br b35
 (some ((.int .i64 1), H10))
 (pBin PP .eql T.int x0 (.int .i64 14) fun v36 =>
 zab v36 fun b37 => br b37
 (some ((.int .i64 3), H10))
 (some ((.int .i64 2), H10))))
 (pBin PP .eql T.int x0 (.int .i64 33) fun v38 =>
 zab v38 fun b39 => br b39
 (some ((.int .i64 1), H10))
 (pBin PP .eql T.int x0 (.int .i64 14) fun v40 =>
 zab v40 fun b41 => br b41
 (some ((.int .i64 3), H10))
 (some ((.int .i64 2), H10))))))))))
 (fun i11 => zax i11 0 (
 some ((.int .i64 2), H10)) (
 none))
 (some ((l9.headD undef), H10))
noncomputable def zdr (R : zae) (x0 x1 x2 x3 : Value) (H0 : Hp) : Option (Value × Hp) := zeX PP orc R F.a42 Go.Proofs.Tryz.f47 [x0, x1, x2, x3] H0
noncomputable def zfU (R : zae) (x0 : Value) (H0 : Hp) : Option (Value × Hp) := zeX PP orc R F.a13 Go.Proofs.Tryz.f48 [x0] H0
noncomputable def zd7 (R : zae) (x0 : Value) (H0 : Hp) : Option (Value × Hp) := zeX PP orc R F.a44 Go.Proofs.Tryz.f49 [x0] H0
noncomputable def ze5 (R : zae) (x0 x1 : Value) (H0 : Hp) : Option (Value × Hp) :=
 zaf R F.a16 [x0, x1] H0 fun r1 H2 =>
 pUn .not r1 fun v3 =>
 zab v3 fun b4 => br b4
 (some ((.int .i64 (-1)), H2))
 (pNil x0 (
 zao 1 x0 fun p5 =>
 zah 1 false H2 p5 fun v6 =>
 pBin PP .sub T.int x1 (.int .i64 1) fun v7 =>
 pIdx 7 v6 v7 fun p8 =>
 zao 1 p8 fun p9 =>
 zah 1 false H2 p9 fun v10 =>
 some (v10, H2)))
noncomputable def zcJ (R : zae) (x0 : Value) (H0 : Hp) : Option (Value × Hp) :=
 zaf R F.a19 [x0] H0 fun r1 H2 =>
 zag r1 0 fun v3 =>
 zag r1 1 fun v4 =>
 pBin PP .neq T.api_Errno v4 (.int .i64 0) fun v5 =>
 zab v5 fun b6 => br b6
 (some ((.int .i64 (-1)), H2))
 (pBin PP .geq T.uint64 v3 (.int .u64 2147483648) fun v7 =>
 zab v7 fun b8 => br b8
 (some ((.int .i64 (-1)), H2))
 (zaw .i64 v3 fun v9 =>
 some (v9, H2)))
noncomputable def zc8 (R : zae) (x0 : Value) (H0 : Hp) : Option (Value × Hp) :=
 zaJ PP T.a34_string [(0, (.string ⟨#[]⟩)), (1, (.string ⟨#[116, 114, 117, 101]⟩)), (2, (.string ⟨#[102, 97, 108, 115, 101]⟩)), (3, (.string ⟨#[99, 111, 110, 115, 116]⟩)), (4, (.string ⟨#[118, 97, 114]⟩)), (5, (.string ⟨#[110, 111, 116]⟩)), (6, (.string ⟨#[97, 110, 100]⟩)), (7, (.string ⟨#[111, 114]⟩)), (8, (.string ⟨#[120, 111, 114]⟩)), (9, (.string ⟨#[101, 113]⟩)), (10, (.string ⟨#[117, 108, 116]⟩)), (11, (.string ⟨#[117, 108, 101]⟩)), (12, (.string ⟨#[115, 108, 116]⟩)), (13, (.string ⟨#[115, 108, 101]⟩)), (14, (.string ⟨#[105, 116, 101]⟩)), (15, (.string ⟨#[99, 111, 109]⟩)), (16, (.string ⟨#[110, 101, 103]⟩)), (17, (.string ⟨#[98, 97, 110, 100]⟩)), (18, (.string ⟨#[98, 111, 114]⟩)), (19, (.string ⟨#[98, 120, 111, 114]⟩)), (20, (.string ⟨#[97, 100, 100]⟩)), (21, (.string ⟨#[115, 117, 98]⟩)), (22, (.string ⟨#[109, 117, 108]⟩)), (23, (.string ⟨#[100, 105, 118]⟩)), (24, (.string ⟨#[114, 101, 109]⟩)), (25, (.string ⟨#[115, 104, 108]⟩)), (26, (.string ⟨#[115, 104, 114]⟩)), (27, (.string ⟨#[115, 97, 114]⟩)), (28, (.string ⟨#[114, 111, 108]⟩)), (29, (.string ⟨#[114, 111, 114]⟩)), (30, (.string ⟨#[99, 97, 116]⟩)), (31, (.string ⟨#[115, 108, 105, 99, 101]⟩)), (32, (.string ⟨#[122, 101, 120, 116]⟩)), (33, (.string ⟨#[115, 101, 120, 116]⟩))] fun v1 =>
 zaG 34 [.string ⟨#[]⟩, .string ⟨#[]⟩, .string ⟨#[]⟩, .string ⟨#[]⟩, .string ⟨#[]⟩, .string ⟨#[]⟩, .string ⟨#[]⟩, .string ⟨#[]⟩, .string ⟨#[]⟩, .string ⟨#[]⟩, .string ⟨#[]⟩, .string ⟨#[]⟩, .string ⟨#[]⟩, .string ⟨#[]⟩, .string ⟨#[]⟩, .string ⟨#[]⟩, .string ⟨#[]⟩, .string ⟨#[]⟩, .string ⟨#[]⟩, .string ⟨#[]⟩, .string ⟨#[]⟩, .string ⟨#[]⟩, .string ⟨#[]⟩, .string ⟨#[]⟩, .string ⟨#[]⟩, .string ⟨#[]⟩, .string ⟨#[]⟩, .string ⟨#[]⟩, .string ⟨#[]⟩, .string ⟨#[]⟩, .string ⟨#[]⟩, .string ⟨#[]⟩, .string ⟨#[]⟩, .string ⟨#[]⟩] 0 v1 fun c2 =>
 zeo 34 x0 fun j3 =>
 zad 1 false c2 (0 + j3 * 1) fun v4 =>
 some (v4, H0)
noncomputable def zcr (R : zae) (x0 : Value) (H0 : Hp) : Option (Value × Hp) :=
 pBin PP .leq T.int x0 (.int .i64 2) fun v1 =>
 zab v1 fun b2 => br b2
 (some ((.string ⟨#[]⟩), H0))
 (pBin PP .eql T.int x0 (.int .i64 3) fun v3 =>
 zab v3 fun b4 => br b4
 (some ((.string ⟨#[119, 110]⟩), H0))
 (pBin PP .eql T.int x0 (.int .i64 4) fun v5 =>
 zab v5 fun b6 => br b6
 (some ((.string ⟨#[115, 119]⟩), H0))
 (pBin PP .eql T.int x0 (.int .i64 31) fun v7 =>
 zab v7 fun b8 => br b8
 (some ((.string ⟨#[112, 110, 119]⟩), H0))
 (pBin PP .geq T.int x0 (.int .i64 32) fun v9 =>
 zab v9 fun b10 => br b10
 (some ((.string ⟨#[112, 119]⟩), H0))
 (zaf R F.a33 [x0] H0 fun r11 H12 =>
 zaV (.string ⟨#[112, 112, 112]⟩) none (some r11) fun v13 =>
 some (v13, H12))))))
noncomputable def zct (R : zae) (x0 : Value) (H0 : Hp) : Option (Value × Hp) := zeX PP orc R F.a19 Go.Proofs.Tryz.f54 [x0] H0
noncomputable def zb9 (R : zae) (x0 x1 : Value) (H0 : Hp) : Option (Value × Hp) :=
 pNil x0 (
 zao 1 x0 fun p1 =>
 zah 1 false H0 p1 fun v2 =>
 pBin PP .sub T.int x1 (.int .i64 1) fun v3 =>
 pIdx 7 v2 v3 fun p4 =>
 zao 1 p4 fun p5 =>
 zah 1 false H0 p5 fun v6 =>
 some (v6, H0))
noncomputable def zcM (R : zae) (x0 : Value) (H0 : Hp) : Option (Value × Hp) :=
 zat (
 pBin PP .lss T.int x0 (.int .i64 1) fun v1 =>
 zab v1 fun b2 => br b2
 (some (.next, [(.bool true)], H0))
 (pBin PP .gtr T.int x0 (.int .i64 33) fun v3 =>
 some (.next, [v3], H0))) fun q4 l5 H6 => zaC q4
 (zab (l5.getD 0 undef) fun b8 => br b8
 (some ((.int .i64 (-1)), H6))
 (pBin PP .leq T.int x0 (.int .i64 4) fun v9 =>
 zab v9 fun b10 => br b10
 (some ((.int .i64 0), H6))
 (pBin PP .eql T.int x0 (.int .i64 5) fun v11 =>
 zab v11 fun b12 => br b12
 (some ((.int .i64 1), H6))
 (pBin PP .eql T.int x0 (.int .i64 15) fun v13 =>
 zab v13 fun b14 => br b14
 (some ((.int .i64 1), H6))
 (pBin PP .eql T.int x0 (.int .i64 16) fun v15 =>
 zab v15 fun b16 => br b16
 (some ((.int .i64 1), H6))
 (pBin PP .geq T.int x0 (.int .i64 31) fun v17 =>
 zab v17 fun b18 => br b18
 (some ((.int .i64 1), H6))
 (pBin PP .eql T.int x0 (.int .i64 14) fun v19 =>
 zab v19 fun b20 => br b20
 (some ((.int .i64 3), H6))
 (some ((.int .i64 2), H6)))))))))
 (fun i7 => zax i7 0 (
 some ((.int .i64 2), H6)) (
 none))
 (some ((l5.headD undef), H6))
noncomputable def zb0 (R : zae) (x0 x1 : Value) (H0 : Hp) : Option (Value × Hp) :=
 pBin PP .geq T.int x1 (.int .i64 1) fun v1 =>
 zab v1 fun b2 => br b2
 (pNil x0 (
 zao 1 x0 fun p3 =>
 zah 1 false H0 p3 fun v4 =>
 pLen .sl v4 H0 fun v5 =>
 pBin PP .leq T.int x1 v5 fun v6 =>
 some (v6, H0)))
 (some ((.bool false), H0))
noncomputable def zcL (R : zae) (x0 x1 : Value) (H0 : Hp) : Option (Value × Hp) :=
 zat (
 pBin PP .lss T.int x1 (.int .i64 1) fun v1 =>
 zab v1 fun b2 => br b2
 (zad 1 false (zaa x0) 2 fun v3 =>
 pBin PP .neq T.int v3 (.int .i64 0) fun v4 =>
 zab v4 fun b5 => br b5
 (some (.ret, [(.bool true)], H0))
 (pBin PP .lss T.int x1 (.int .i64 2) fun v6 =>
 zab v6 fun b7 => br b7
 (zad 1 false (zaa x0) 3 fun v8 =>
 pBin PP .neq T.int v8 (.int .i64 0) fun v9 =>
 zab v9 fun b10 => br b10
 (some (.ret, [(.bool true)], H0))
 (pBin PP .lss T.int x1 (.int .i64 3) fun v11 =>
 zab v11 fun b12 => br b12
 (zad 1 false (zaa x0) 4 fun v13 =>
 pBin PP .neq T.int v13 (.int .i64 0) fun v14 =>
 zab v14 fun b15 => br b15
 (some (.ret, [(.bool true)], H0))
 (some (.next, [], H0)))
 (some (.next, [], H0))))
 (pBin PP .lss T.int x1 (.int .i64 3) fun v16 =>
 zab v16 fun b17 => br b17
 (zad 1 false (zaa x0) 4 fun v18 =>
 pBin PP .neq T.int v18 (.int .i64 0) fun v19 =>
 zab v19 fun b20 => br b20
 (some (.ret, [(.bool true)], H0))
 (some (.next, [], H0)))
 (some (.next, [], H0)))))
 (pBin PP .lss T.int x1 (.int .i64 2) fun v21 =>
 zab v21 fun b22 => br b22
 (zad 1 false (zaa x0) 3 fun v23 =>
 pBin PP .neq T.int v23 (.int .i64 0) fun v24 =>
 zab v24 fun b25 => br b25
 (some (.ret, [(.bool true)], H0))
 (pBin PP .lss T.int x1 (.int .i64 3) fun v26 =>
 zab v26 fun b27 => br b27
 (zad 1 false (zaa x0) 4 fun v28 =>
 pBin PP .neq T.int v28 (.int .i64 0) fun v29 =>
 zab v29 fun b30 => br b30
 (some (.ret, [(.bool true)], H0))
 (some (.next, [], H0)))
 (some (.next, [], H0))))
 (pBin PP .lss T.int x1 (.int .i64 3) fun v31 =>
 zab v31 fun b32 => br b32
 (zad 1 false (zaa x0) 4 fun v33 =>
 pBin PP .neq T.int v33 (.int .i64 0) fun v34 =>
 zab v34 fun b35 => br b35
 (some (.ret, [(.bool true)], H0))
 (some (.next, [], H0)))
 (some (.next, [], H0))))) fun q36 l37 H38 => zaC q36
 (zad 1 false (zaa x0) 5 fun v40 =>
 pBin PP .neq T.uint64 v40 (.int .u64 0) fun v41 =>
 zab v41 fun b42 => br b42
 (zad 1 false (zaa x0) 0 fun v43 =>
 pBin PP .neq T.int v43 (.int .i64 3) fun v44 =>
 zab v44 fun b45 => br b45
 (zad 1 false (zaa x0) 0 fun v46 =>
 pBin PP .neq T.int v46 (.int .i64 31) fun v47 =>
 zab v47 fun b48 => br b48
 (some ((.bool true), H38))
 (zad 1 false (zaa x0) 6 fun v49 =>
 pBin PP .neq T.string v49 (.string ⟨#[]⟩) fun v50 =>
 zab v50 fun b51 => br b51
 (zad 1 false (zaa x0) 0 fun v52 =>
 pBin PP .neq T.int v52 (.int .i64 4) fun v53 =>
 some (v53, H38))
 (some ((.bool false), H38))))
 (zad 1 false (zaa x0) 6 fun v54 =>
 pBin PP .neq T.string v54 (.string ⟨#[]⟩) fun v55 =>
 zab v55 fun b56 => br b56
 (zad 1 false (zaa x0) 0 fun v57 =>
 pBin PP .neq T.int v57 (.int .i64 4) fun v58 =>
 some (v58, H38))
 (some ((.bool false), H38))))
 (zad 1 false (zaa x0) 6 fun v59 =>
 pBin PP .neq T.string v59 (.string ⟨#[]⟩) fun v60 =>
 zab v60 fun b61 => br b61
 (zad 1 false (zaa x0) 0 fun v62 =>
 pBin PP .neq T.int v62 (.int .i64 4) fun v63 =>
 some (v63, H38))
 (some ((.bool false), H38))))
 (fun i39 => none)
 (some ((l37.headD undef), H38))
noncomputable def zbJ (R : zae) (x0 x1 : Value) (H0 : Hp) : Option (Value × Hp) :=
 zad 1 false (zaa x1) 0 fun v1 =>
 pBin PP .leq T.int v1 (.int .i64 4) fun v2 =>
 zab v2 fun b3 => br b3
 (some ((.bool true), H0))
 (zad 1 false (zaa x1) 0 fun v4 =>
 pBin PP .eql T.int v4 (.int .i64 5) fun v5 =>
 zab v5 fun b6 => br b6
 (zad 1 false (zaa x1) 2 fun v7 =>
 zaf R F.a0 [x0, v7] H0 fun r8 H9 =>
 pBin PP .eql T.int r8 (.int .i64 0) fun v10 =>
 some (v10, H9))
 (zad 1 false (zaa x1) 0 fun v11 =>
 pBin PP .leq T.int v11 (.int .i64 8) fun v12 =>
 zab v12 fun b13 => br b13
 (zad 1 false (zaa x1) 2 fun v14 =>
 zaf R F.a0 [x0, v14] H0 fun r15 H16 =>
 pBin PP .eql T.int r15 (.int .i64 0) fun v17 =>
 zab v17 fun b18 => br b18
 (zad 1 false (zaa x1) 3 fun v19 =>
 zaf R F.a0 [x0, v19] H16 fun r20 H21 =>
 pBin PP .eql T.int r20 (.int .i64 0) fun v22 =>
 some (v22, H21))
 (some ((.bool false), H16)))
 (zad 1 false (zaa x1) 0 fun v23 =>
 pBin PP .eql T.int v23 (.int .i64 9) fun v24 =>
 zab v24 fun b25 => br b25
 (zad 1 false (zaa x1) 2 fun v26 =>
 zaf R F.a0 [x0, v26] H0 fun r27 H28 =>
 zad 1 false (zaa x1) 3 fun v29 =>
 zaf R F.a0 [x0, v29] H28 fun r30 H31 =>
 pBin PP .eql T.int r27 r30 fun v32 =>
 some (v32, H31))
 (zad 1 false (zaa x1) 0 fun v33 =>
 pBin PP .eql T.int v33 (.int .i64 14) fun v34 =>
 zab v34 fun b35 => br b35
 (zad 1 false (zaa x1) 2 fun v36 =>
 zaf R F.a0 [x0, v36] H0 fun r37 H38 =>
 pBin PP .eql T.int r37 (.int .i64 0) fun v39 =>
 zab v39 fun b40 => br b40
 (zad 1 false (zaa x1) 3 fun v41 =>
 zaf R F.a0 [x0, v41] H38 fun r42 H43 =>
 zad 1 false (zaa x1) 4 fun v44 =>
 zaf R F.a0 [x0, v44] H43 fun r45 H46 =>
 pBin PP .eql T.int r42 r45 fun v47 =>
 some (v47, H46))
 (some ((.bool false), H38)))
 (zat (
 zad 1 false (zaa x1) 0 fun v48 =>
 pBin PP .eql T.int v48 (.int .i64 15) fun v49 =>
 zab v49 fun b50 => br b50
 (some (.next, [(.bool true)], H0))
 (zad 1 false (zaa x1) 0 fun v51 =>
 pBin PP .eql T.int v51 (.int .i64 16) fun v52 =>
 zab v52 fun b53 => br b53
 (some (.next, [(.bool true)], H0))
 (zad 1 false (zaa x1) 0 fun v54 =>
 pBin PP .geq T.int v54 (.int .i64 31) fun v55 =>
 some (.next, [v55], H0)))) fun q56 l57 H58 => zaC q56
 (zab (l57.getD 0 undef) fun b60 => br b60
 (zad 1 false (zaa x1) 2 fun v61 =>
 zaf R F.a0 [x0, v61] H58 fun r62 H63 =>
 pBin PP .gtr T.int r62 (.int .i64 0) fun v64 =>
 some (v64, H63))
 (zad 1 false (zaa x1) 0 fun v65 =>
 pBin PP .eql T.int v65 (.int .i64 30) fun v66 =>
 zab v66 fun b67 => br b67
 (zad 1 false (zaa x1) 2 fun v68 =>
 zaf R F.a0 [x0, v68] H58 fun r69 H70 =>
 pBin PP .gtr T.int r69 (.int .i64 0) fun v71 =>
 zab v71 fun b72 => br b72
 (zad 1 false (zaa x1) 3 fun v73 =>
 zaf R F.a0 [x0, v73] H70 fun r74 H75 =>
 pBin PP .gtr T.int r74 (.int .i64 0) fun v76 =>
 some (v76, H75))
 (some ((.bool false), H70)))
 (zad 1 false (zaa x1) 2 fun v77 =>
 zaf R F.a0 [x0, v77] H58 fun r78 H79 =>
 pBin PP .gtr T.int r78 (.int .i64 0) fun v80 =>
 zab v80 fun b81 => br b81
 (zad 1 false (zaa x1) 2 fun v82 =>
 zaf R F.a0 [x0, v82] H79 fun r83 H84 =>
 zad 1 false (zaa x1) 3 fun v85 =>
 zaf R F.a0 [x0, v85] H84 fun r86 H87 =>
 pBin PP .eql T.int r83 r86 fun v88 =>
 some (v88, H87))
 (some ((.bool false), H79)))))
 (fun i59 => zax i59 0 (
 zad 1 false (zaa x1) 2 fun v89 =>
 zaf R F.a0 [x0, v89] H58 fun r90 H91 =>
 pBin PP .gtr T.int r90 (.int .i64 0) fun v92 =>
 zab v92 fun b93 => br b93
 (zad 1 false (zaa x1) 2 fun v94 =>
 zaf R F.a0 [x0, v94] H91 fun r95 H96 =>
 zad 1 false (zaa x1) 3 fun v97 =>
 zaf R F.a0 [x0, v97] H96 fun r98 H99 =>
 pBin PP .eql T.int r95 r98 fun v100 =>
 some (v100, H99))
 (some ((.bool false), H91))) (
 none))
 (some ((l57.headD undef), H58)))))))
noncomputable def zbI (R : zae) (x0 x1 : Value) (H0 : Hp) : Option (Value × Hp) :=
 zad 1 false (zaa x1) 1 fun v1 =>
 zat (
 zad 1 false (zaa x1) 0 fun v2 =>
 pBin PP .leq T.int v2 (.int .i64 2) fun v3 =>
 zab v3 fun b4 => br b4
 (some (.next, [(.bool true)], H0))
 (zad 1 false (zaa x1) 0 fun v5 =>
 pBin PP .geq T.int v5 (.int .i64 5) fun v6 =>
 zab v6 fun b7 => br b7
 (zad 1 false (zaa x1) 0 fun v8 =>
 pBin PP .leq T.int v8 (.int .i64 13) fun v9 =>
 some (.next, [v9], H0))
 (some (.next, [(.bool false)], H0)))) fun q10 l11 H12 => zaC q10
 (zab (l11.getD 0 undef) fun b14 => br b14
 (pBin PP .eql T.int v1 (.int .i64 0) fun v15 =>
 some (v15, H12))
 (zad 1 false (zaa x1) 0 fun v16 =>
 pBin PP .eql T.int v16 (.int .i64 3) fun v17 =>
 zab v17 fun b18 => br b18
 (pBin PP .geq T.int v1 (.int .i64 1) fun v19 =>
 zab v19 fun b20 => br b20
 (zad 1 false (zaa x1) 5 fun v21 =>
 zaf R F.a50 [v1, v21] H12 fun r22 H23 =>
 zad 1 false (zaa x1) 5 fun v24 =>
 pBin PP .eql T.uint64 r22 v24 fun v25 =>
 some (v25, H23))
 (some ((.bool false), H12)))
 (zad 1 false (zaa x1) 0 fun v26 =>
 pBin PP .eql T.int v26 (.int .i64 4) fun v27 =>
 zab v27 fun b28 => br b28
 (some ((.bool true), H12))
 (zad 1 false (zaa x1) 0 fun v29 =>
 pBin PP .eql T.int v29 (.int .i64 14) fun v30 =>
 zab v30 fun b31 => br b31
 (zad 1 false (zaa x1) 3 fun v32 =>
 zaf R F.a0 [x0, v32] H12 fun r33 H34 =>
 pBin PP .eql T.int v1 r33 fun v35 =>
 some (v35, H34))
 (zad 1 false (zaa x1) 0 fun v36 =>
 pBin PP .eql T.int v36 (.int .i64 30) fun v37 =>
 zab v37 fun b38 => br b38
 (zad 1 false (zaa x1) 2 fun v39 =>
 zaf R F.a0 [x0, v39] H12 fun r40 H41 =>
 zad 1 false (zaa x1) 3 fun v42 =>
 zaf R F.a0 [x0, v42] H41 fun r43 H44 =>
 pBin PP .add T.int r40 r43 fun v45 =>
 pBin PP .eql T.int v1 v45 fun v46 =>
 some (v46, H44))
 (zad 1 false (zaa x1) 0 fun v47 =>
 pBin PP .eql T.int v47 (.int .i64 31) fun v48 =>
 zab v48 fun b49 => br b49
 (pBin PP .geq T.int v1 (.int .i64 1) fun v50 =>
 zab v50 fun b51 => br b51
 (zad 1 false (zaa x1) 5 fun v52 =>
 pBin PP .leq T.uint64 v52 (.int .u64 64) fun v53 =>
 zab v53 fun b54 => br b54
 (zad 1 false (zaa x1) 5 fun v55 =>
 zaw .i64 v55 fun v56 =>
 pBin PP .add T.int v56 v1 fun v57 =>
 zad 1 false (zaa x1) 2 fun v58 =>
 zaf R F.a0 [x0, v58] H12 fun r59 H60 =>
 pBin PP .leq T.int v57 r59 fun v61 =>
 some (v61, H60))
 (some ((.bool false), H12)))
 (some ((.bool false), H12)))
 (zad 1 false (zaa x1) 0 fun v62 =>
 pBin PP .geq T.int v62 (.int .i64 32) fun v63 =>
 zab v63 fun b64 => br b64
 (zad 1 false (zaa x1) 2 fun v65 =>
 zaf R F.a0 [x0, v65] H12 fun r66 H67 =>
 pBin PP .geq T.int v1 r66 fun v68 =>
 some (v68, H67))
 (zad 1 false (zaa x1) 0 fun v69 =>
 pBin PP .geq T.int v69 (.int .i64 25) fun v70 =>
 zab v70 fun b71 => br b71
 (zad 1 false (zaa x1) 2 fun v72 =>
 zaf R F.a0 [x0, v72] H12 fun r73 H74 =>
 pBin PP .eql T.int v1 r73 fun v75 =>
 zab v75 fun b76 => br b76
 (zaf R F.a49 [v1] H74 fun r77 H78 =>
 some (r77, H78))
 (some ((.bool false), H74)))
 (zad 1 false (zaa x1) 2 fun v79 =>
 zaf R F.a0 [x0, v79] H12 fun r80 H81 =>
 pBin PP .eql T.int v1 r80 fun v82 =>
 some (v82, H81))))))))))
 (fun i13 => zax i13 0 (
 zad 1 false (zaa x1) 2 fun v83 =>
 zaf R F.a0 [x0, v83] H12 fun r84 H85 =>
 pBin PP .eql T.int v1 r84 fun v86 =>
 some (v86, H85)) (
 none))
 (some ((l11.headD undef), H12))
noncomputable def zdb (R : zae) (x0 : Value) (H0 : Hp) : Option (Value × Hp) :=
 zat (
 pLen .str x0 H0 fun v1 =>
 pBin PP .lss T.int v1 (.int .i64 1) fun v2 =>
 zab v2 fun b3 => br b3
 (some (.ret, [(.bool false)], H0))
 (pLen .str x0 H0 fun v4 =>
 pBin PP .gtr T.int v4 (.int .i64 24) fun v5 =>
 zab v5 fun b6 => br b6
 (some (.ret, [(.bool false)], H0))
 (zaU x0 (.int .i64 0) fun v7 =>
 zaf R F.a17 [v7] H0 fun r8 H9 =>
 pUn .not r8 fun v10 =>
 zab v10 fun b11 => br b11
 (some (.ret, [(.bool false)], H9))
 (some (.next, [], H9))))) fun q12 l13 H14 => zaC q12
 (zat (zaE (fun l16 H17 =>
 pLen .str x0 H17 fun v18 =>
 pBin PP .lss T.int (l16.getD 0 undef) v18 fun v19 =>
 zab v19 fun b20 => br b20
 (zaU x0 (l16.getD 0 undef) fun v21 =>
 zaf R F.a17 [v21] H17 fun r22 H23 =>
 pUn .not r22 fun v24 =>
 zab v24 fun b25 => br b25
 (zaU x0 (l16.getD 0 undef) fun v26 =>
 pBin PP .lss T.uint8 v26 (.int .u8 48) fun v27 =>
 zab v27 fun b28 => br b28
 (some (.ret, [(.bool false)], H23))
 (zaU x0 (l16.getD 0 undef) fun v29 =>
 pBin PP .gtr T.uint8 v29 (.int .u8 57) fun v30 =>
 zab v30 fun b31 => br b31
 (some (.ret, [(.bool false)], H23))
 (pBin PP .add T.int (l16.getD 0 undef) (.int .i64 1) fun v32 =>
 some (.next, [v32], H23))))
 (pBin PP .add T.int (l16.getD 0 undef) (.int .i64 1) fun v33 =>
 some (.next, [v33], H23)))
 (some (.exit 0, [(l16.getD 0 undef)], H17))) [(.int .i64 1)] H14) fun q34 l35 H36 => zaC q34 none
 (fun i37 => zax i37 0 (
 some ((.bool true), H36)) (
 none))
 (some ((l35.headD undef), H36)))
 (fun i15 => none)
 (some ((l13.headD undef), H14))
noncomputable def zgv (R : zae) (x0 : Value) (H0 : Hp) : Option (Value × Hp) :=
 zad 1 false (zaa x0) 0 fun v1 =>
 zaf R F.a8 [v1] H0 fun r2 H3 =>
 pBin PP .lss T.int r2 (.int .i64 1) fun v4 =>
 zab v4 fun b5 => br b5
 (zad 1 false (zaa x0) 2 fun v6 =>
 pBin PP .neq T.int v6 (.int .i64 0) fun v7 =>
 zab v7 fun b8 => br b8
 (some ((.bool true), H3))
 (pBin PP .lss T.int r2 (.int .i64 2) fun v9 =>
 zab v9 fun b10 => br b10
 (zad 1 false (zaa x0) 3 fun v11 =>
 pBin PP .neq T.int v11 (.int .i64 0) fun v12 =>
 zab v12 fun b13 => br b13
 (some ((.bool true), H3))
 (pBin PP .lss T.int r2 (.int .i64 3) fun v14 =>
 zab v14 fun b15 => br b15
 (zad 1 false (zaa x0) 4 fun v16 =>
 pBin PP .neq T.int v16 (.int .i64 0) fun v17 =>
 zab v17 fun b18 => br b18
 (some ((.bool true), H3))
 (zad 1 false (zaa x0) 5 fun v19 =>
 pBin PP .neq T.uint64 v19 (.int .u64 0) fun v20 =>
 zab v20 fun b21 => br b21
 (zad 1 false (zaa x0) 0 fun v22 =>
 pBin PP .neq T.int v22 (.int .i64 3) fun v23 =>
 zab v23 fun b24 => br b24
 (zad 1 false (zaa x0) 0 fun v25 =>
 pBin PP .neq T.int v25 (.int .i64 31) fun v26 =>
 zab v26 fun b27 => br b27
 (some ((.bool true), H3))
 (zad 1 false (zaa x0) 6 fun v28 =>
 pBin PP .neq T.string v28 (.string ⟨#[]⟩) fun v29 =>
 zab v29 fun b30 => br b30
 (zad 1 false (zaa x0) 0 fun v31 =>
 pBin PP .neq T.int v31 (.int .i64 4) fun v32 =>
 some (v32, H3))
 (some ((.bool false), H3))))
 (zad 1 false (zaa x0) 6 fun v33 =>
 pBin PP .neq T.string v33 (.string ⟨#[]⟩) fun v34 =>
 zab v34 fun b35 => br b35
 (zad 1 false (zaa x0) 0 fun v36 =>
 pBin PP .neq T.int v36 (.int .i64 4) fun v37 =>
 some (v37, H3))
 (some ((.bool false), H3))))
 (zad 1 false (zaa x0) 6 fun v38 =>
 pBin PP .neq T.string v38 (.string ⟨#[]⟩) fun v39 =>
 zab v39 fun b40 => br b40
 (zad 1 false (zaa x0) 0 fun v41 =>
 pBin PP .neq T.int v41 (.int .i64 4) fun v42 =>
 some (v42, H3))
 (some ((.bool false), H3)))))
 (zad 1 false (zaa x0) 5 fun v43 =>
 pBin PP .neq T.uint64 v43 (.int .u64 0) fun v44 =>
 zab v44 fun b45 => br b45
 (zad 1 false (zaa x0) 0 fun v46 =>
 pBin PP .neq T.int v46 (.int .i64 3) fun v47 =>
 zab v47 fun b48 => br b48
 (zad 1 false (zaa x0) 0 fun v49 =>
 pBin PP .neq T.int v49 (.int .i64 31) fun v50 =>
 zab v50 fun b51 => br b51
 (some ((.bool true), H3))
 (zad 1 false (zaa x0) 6 fun v52 =>
 pBin PP .neq T.string v52 (.string ⟨#[]⟩) fun v53 =>
 zab v53 fun b54 => br b54
 (zad 1 false (zaa x0) 0 fun v55 =>
 pBin PP .neq T.int v55 (.int .i64 4) fun v56 =>
 some (v56, H3))
 (some ((.bool false), H3))))
 (zad 1 false (zaa x0) 6 fun v57 =>
 pBin PP .neq T.string v57 (.string ⟨#[]⟩) fun v58 =>
 zab v58 fun b59 => br b59
 (zad 1 false (zaa x0) 0 fun v60 =>
 pBin PP .neq T.int v60 (.int .i64 4) fun v61 =>
 some (v61, H3))
 (some ((.bool false), H3))))
 (zad 1 false (zaa x0) 6 fun v62 =>
 pBin PP .neq T.string v62 (.string ⟨#[]⟩) fun v63 =>
 zab v63 fun b64 => br b64
 (zad 1 false (zaa x0) 0 fun v65 =>
 pBin PP .neq T.int v65 (.int .i64 4) fun v66 =>
 some (v66, H3))
 (some ((.bool false), H3))))))
 (pBin PP .lss T.int r2 (.int .i64 3) fun v67 =>
 zab v67 fun b68 => br b68
 (zad 1 false (zaa x0) 4 fun v69 =>
 pBin PP .neq T.int v69 (.int .i64 0) fun v70 =>
 zab v70 fun b71 => br b71
 (some ((.bool true), H3))
 (zad 1 false (zaa x0) 5 fun v72 =>
 pBin PP .neq T.uint64 v72 (.int .u64 0) fun v73 =>
 zab v73 fun b74 => br b74
 (zad 1 false (zaa x0) 0 fun v75 =>
 pBin PP .neq T.int v75 (.int .i64 3) fun v76 =>
 zab v76 fun b77 => br b77
 (zad 1 false (zaa x0) 0 fun v78 =>
 pBin PP .neq T.int v78 (.int .i64 31) fun v79 =>
 zab v79 fun b80 => br b80
 (some ((.bool true), H3))
 (zad 1 false (zaa x0) 6 fun v81 =>
 pBin PP .neq T.string v81 (.string ⟨#[]⟩) fun v82 =>
 zab v82 fun b83 => br b83
 (zad 1 false (zaa x0) 0 fun v84 =>
 pBin PP .neq T.int v84 (.int .i64 4) fun v85 =>
 some (v85, H3))
 (some ((.bool false), H3))))
 (zad 1 false (zaa x0) 6 fun v86 =>
 pBin PP .neq T.string v86 (.string ⟨#[]⟩) fun v87 =>
 zab v87 fun b88 => br b88
 (zad 1 false (zaa x0) 0 fun v89 =>
 pBin PP .neq T.int v89 (.int .i64 4) fun v90 =>
 some (v90, H3))
 (some ((.bool false), H3))))
 (zad 1 false (zaa x0) 6 fun v91 =>
 pBin PP .neq T.string v91 (.string ⟨#[]⟩) fun v92 =>
 zab v92 fun b93 => br b93
 (zad 1 false (zaa x0) 0 fun v94 =>
 pBin PP .neq T.int v94 (.int .i64 4) fun v95 =>
 some (v95, H3))
 (some ((.bool false), H3)))))
 (zad 1 false (zaa x0) 5 fun v96 =>
 pBin PP .neq T.uint64 v96 (.int .u64 0) fun v97 =>
 zab v97 fun b98 => br b98
 (zad 1 false (zaa x0) 0 fun v99 =>
 pBin PP .neq T.int v99 (.int .i64 3) fun v100 =>
 zab v100 fun b101 => br b101
 (zad 1 false (zaa x0) 0 fun v102 =>
 pBin PP .neq T.int v102 (.int .i64 31) fun v103 =>
 zab v103 fun b104 => br b104
 (some ((.bool true), H3))
 (zad 1 false (zaa x0) 6 fun v105 =>
 pBin PP .neq T.string v105 (.string ⟨#[]⟩) fun v106 =>
 zab v106 fun b107 => br b107
 (zad 1 false (zaa x0) 0 fun v108 =>
 pBin PP .neq T.int v108 (.int .i64 4) fun v109 =>
 some (v109, H3))
 (some ((.bool false), H3))))
 (zad 1 false (zaa x0) 6 fun v110 =>
 pBin PP .neq T.string v110 (.string ⟨#[]⟩) fun v111 =>
 zab v111 fun b112 => br b112
 (zad 1 false (zaa x0) 0 fun v113 =>
 pBin PP .neq T.int v113 (.int .i64 4) fun v114 =>
 some (v114, H3))
 (some ((.bool false), H3))))
 (zad 1 false (zaa x0) 6 fun v115 =>
 pBin PP .neq T.string v115 (.string ⟨#[]⟩) fun v116 =>
 zab v116 fun b117 => br b117
 (zad 1 false (zaa x0) 0 fun v118 =>
 pBin PP .neq T.int v118 (.int .i64 4) fun v119 =>
 some (v119, H3))
 (some ((.bool false), H3)))))))
 (pBin PP .lss T.int r2 (.int .i64 2) fun v120 =>
 zab v120 fun b121 => br b121
 (zad 1 false (zaa x0) 3 fun v122 =>
 pBin PP .neq T.int v122 (.int .i64 0) fun v123 =>
 zab v123 fun b124 => br b124
 (some ((.bool true), H3))
 (pBin PP .lss T.int r2 (.int .i64 3) fun v125 =>
 zab v125 fun b126 => br b126
 (zad 1 false (zaa x0) 4 fun v127 =>
 pBin PP .neq T.int v127 (.int .i64 0) fun v128 =>
 zab v128 fun b129 => br b129
 (some ((.bool true), H3))
 (zad 1 false (zaa x0) 5 fun v130 =>
 pBin PP .neq T.uint64 v130 (.int .u64 0) fun v131 =>
 zab v131 fun b132 => br b132
 (zad 1 false (zaa x0) 0 fun v133 =>
 pBin PP .neq T.int v133 (.int .i64 3) fun v134 =>
 zab v134 fun b135 => br b135
 (zad 1 false (zaa x0) 0 fun v136 =>
 pBin PP .neq T.int v136 (.int .i64 31) fun v137 =>
 zab v137 fun b138 => br b138
 (some ((.bool true), H3))
 (zad 1 false (zaa x0) 6 fun v139 =>
 pBin PP .neq T.string v139 (.string ⟨#[]⟩) fun v140 =>
 zab v140 fun b141 => br b141
 (zad 1 false (zaa x0) 0 fun v142 =>
 pBin PP .neq T.int v142 (.int .i64 4) fun v143 =>
 some (v143, H3))
 (some ((.bool false), H3))))
 (zad 1 false (zaa x0) 6 fun v144 =>
 pBin PP .neq T.string v144 (.string ⟨#[]⟩) fun v145 =>
 zab v145 fun b146 => br b146
 (zad 1 false (zaa x0) 0 fun v147 =>
 pBin PP .neq T.int v147 (.int .i64 4) fun v148 =>
 some (v148, H3))
 (some ((.bool false), H3))))
 (zad 1 false (zaa x0) 6 fun v149 =>
 pBin PP .neq T.string v149 (.string ⟨#[]⟩) fun v150 =>
 zab v150 fun b151 => br b151
 (zad 1 false (zaa x0) 0 fun v152 =>
 pBin PP .neq T.int v152 (.int .i64 4) fun v153 =>
 some (v153, H3))
 (some ((.bool false), H3)))))
 (zad 1 false (zaa x0) 5 fun v154 =>
 pBin PP .neq T.uint64 v154 (.int .u64 0) fun v155 =>
 zab v155 fun b156 => br b156
 (zad 1 false (zaa x0) 0 fun v157 =>
 pBin PP .neq T.int v157 (.int .i64 3) fun v158 =>
 zab v158 fun b159 => br b159
 (zad 1 false (zaa x0) 0 fun v160 =>
 pBin PP .neq T.int v160 (.int .i64 31) fun v161 =>
 zab v161 fun b162 => br b162
 (some ((.bool true), H3))
 (zad 1 false (zaa x0) 6 fun v163 =>
 pBin PP .neq T.string v163 (.string ⟨#[]⟩) fun v164 =>
 zab v164 fun b165 => br b165
 (zad 1 false (zaa x0) 0 fun v166 =>
 pBin PP .neq T.int v166 (.int .i64 4) fun v167 =>
 some (v167, H3))
 (some ((.bool false), H3))))
 (zad 1 false (zaa x0) 6 fun v168 =>
 pBin PP .neq T.string v168 (.string ⟨#[]⟩) fun v169 =>
 zab v169 fun b170 => br b170
 (zad 1 false (zaa x0) 0 fun v171 =>
 pBin PP .neq T.int v171 (.int .i64 4) fun v172 =>
 some (v172, H3))
 (some ((.bool false), H3))))
 (zad 1 false (zaa x0) 6 fun v173 =>
 pBin PP .neq T.string v173 (.string ⟨#[]⟩) fun v174 =>
 zab v174 fun b175 => br b175
 (zad 1 false (zaa x0) 0 fun v176 =>
 pBin PP .neq T.int v176 (.int .i64 4) fun v177 =>
 some (v177, H3))
 (some ((.bool false), H3))))))
 (pBin PP .lss T.int r2 (.int .i64 3) fun v178 =>
 zab v178 fun b179 => br b179
 (zad 1 false (zaa x0) 4 fun v180 =>
 pBin PP .neq T.int v180 (.int .i64 0) fun v181 =>
 zab v181 fun b182 => br b182
 (some ((.bool true), H3))
 (zad 1 false (zaa x0) 5 fun v183 =>
 pBin PP .neq T.uint64 v183 (.int .u64 0) fun v184 =>
 zab v184 fun b185 => br b185
 (zad 1 false (zaa x0) 0 fun v186 =>
 pBin PP .neq T.int v186 (.int .i64 3) fun v187 =>
 zab v187 fun b188 => br b188
 (zad 1 false (zaa x0) 0 fun v189 =>
 pBin PP .neq T.int v189 (.int .i64 31) fun v190 =>
 zab v190 fun b191 => br b191
 (some ((.bool true), H3))
 (zad 1 false (zaa x0) 6 fun v192 =>
 pBin PP .neq T.string v192 (.string ⟨#[]⟩) fun v193 =>
 zab v193 fun b194 => br b194
 (zad 1 false (zaa x0) 0 fun v195 =>
 pBin PP .neq T.int v195 (.int .i64 4) fun v196 =>
 some (v196, H3))
 (some ((.bool false), H3))))
 (zad 1 false (zaa x0) 6 fun v197 =>
 pBin PP .neq T.string v197 (.string ⟨#[]⟩) fun v198 =>
 zab v198 fun b199 => br b199
 (zad 1 false (zaa x0) 0 fun v200 =>
 pBin PP .neq T.int v200 (.int .i64 4) fun v201 =>
 some (v201, H3))
 (some ((.bool false), H3))))
 (zad 1 false (zaa x0) 6 fun v202 =>
 pBin PP .neq T.string v202 (.string ⟨#[]⟩) fun v203 =>
 zab v203 fun b204 => br b204
 (zad 1 false (zaa x0) 0 fun v205 =>
 pBin PP .neq T.int v205 (.int .i64 4) fun v206 =>
 some (v206, H3))
 (some ((.bool false), H3)))))
 (zad 1 false (zaa x0) 5 fun v207 =>
 pBin PP .neq T.uint64 v207 (.int .u64 0) fun v208 =>
 zab v208 fun b209 => br b209
 (zad 1 false (zaa x0) 0 fun v210 =>
 pBin PP .neq T.int v210 (.int .i64 3) fun v211 =>
 zab v211 fun b212 => br b212
 (zad 1 false (zaa x0) 0 fun v213 =>
 pBin PP .neq T.int v213 (.int .i64 31) fun v214 =>
 zab v214 fun b215 => br b215
 (some ((.bool true), H3))
 (zad 1 false (zaa x0) 6 fun v216 =>
 pBin PP .neq T.string v216 (.string ⟨#[]⟩) fun v217 =>
 zab v217 fun b218 => br b218
 (zad 1 false (zaa x0) 0 fun v219 =>
 pBin PP .neq T.int v219 (.int .i64 4) fun v220 =>
 some (v220, H3))
 (some ((.bool false), H3))))
 (zad 1 false (zaa x0) 6 fun v221 =>
 pBin PP .neq T.string v221 (.string ⟨#[]⟩) fun v222 =>
 zab v222 fun b223 => br b223
 (zad 1 false (zaa x0) 0 fun v224 =>
 pBin PP .neq T.int v224 (.int .i64 4) fun v225 =>
 some (v225, H3))
 (some ((.bool false), H3))))
 (zad 1 false (zaa x0) 6 fun v226 =>
 pBin PP .neq T.string v226 (.string ⟨#[]⟩) fun v227 =>
 zab v227 fun b228 => br b228
 (zad 1 false (zaa x0) 0 fun v229 =>
 pBin PP .neq T.int v229 (.int .i64 4) fun v230 =>
 some (v230, H3))
 (some ((.bool false), H3))))))
noncomputable def zc4 (R : zae) (x0 x1 : Value) (H0 : Hp) : Option (Value × Hp) :=
 zad 1 false (zaa x1) 2 fun v1 =>
 zaf R F.a1 [x0, v1] H0 fun r2 H3 =>
 zad 1 false (zaa x1) 3 fun v4 =>
 zaf R F.a1 [x0, v4] H3 fun r5 H6 =>
 zad 1 false (zaa x1) 0 fun v7 =>
 zaf R F.a8 [v7] H6 fun r8 H9 =>
 pBin PP .eql T.int r8 (.int .i64 0) fun v10 =>
 zab v10 fun b11 => br b11
 (some ((.bool true), H9))
 (pBin PP .eql T.int v7 (.int .i64 5) fun v12 =>
 zab v12 fun b13 => br b13
 (pBin PP .eql T.int r2 (.int .i64 0) fun v14 =>
 some (v14, H9))
 (zat (
 pBin PP .eql T.int v7 (.int .i64 6) fun v15 =>
 zab v15 fun b16 => br b16
 (some (.next, [(.bool true)], H9))
 (pBin PP .eql T.int v7 (.int .i64 7) fun v17 =>
 zab v17 fun b18 => br b18
 (some (.next, [(.bool true)], H9))
 (pBin PP .eql T.int v7 (.int .i64 8) fun v19 =>
 some (.next, [v19], H9)))) fun q20 l21 H22 => zaC q20
 (zab (l21.getD 0 undef) fun b24 => br b24
 (pBin PP .eql T.int r2 (.int .i64 0) fun v25 =>
 zab v25 fun b26 => br b26
 (pBin PP .eql T.int r5 (.int .i64 0) fun v27 =>
 some (v27, H22))
 (some ((.bool false), H22)))
 (pBin PP .eql T.int v7 (.int .i64 9) fun v28 =>
 zab v28 fun b29 => br b29
 (pBin PP .eql T.int r2 r5 fun v30 =>
 some (v30, H22))
 (pBin PP .eql T.int v7 (.int .i64 14) fun v31 =>
 zab v31 fun b32 => br b32
 (pBin PP .eql T.int r2 (.int .i64 0) fun v33 =>
 zab v33 fun b34 => br b34
 (zad 1 false (zaa x1) 4 fun v35 =>
 zaf R F.a1 [x0, v35] H22 fun r36 H37 =>
 pBin PP .eql T.int r5 r36 fun v38 =>
 some (v38, H37))
 (some ((.bool false), H22)))
 (pBin PP .eql T.int v7 (.int .i64 30) fun v39 =>
 zab v39 fun b40 => br b40
 (pBin PP .gtr T.int r2 (.int .i64 0) fun v41 =>
 zab v41 fun b42 => br b42
 (pBin PP .gtr T.int r5 (.int .i64 0) fun v43 =>
 some (v43, H22))
 (some ((.bool false), H22)))
 (zaf R F.a8 [v7] H22 fun r44 H45 =>
 pBin PP .eql T.int r44 (.int .i64 1) fun v46 =>
 zab v46 fun b47 => br b47
 (pBin PP .gtr T.int r2 (.int .i64 0) fun v48 =>
 some (v48, H45))
 (pBin PP .gtr T.int r2 (.int .i64 0) fun v49 =>
 zab v49 fun b50 => br b50
 (pBin PP .eql T.int r2 r5 fun v51 =>
 some (v51, H45))
 (some ((.bool false), H45))))))))
 (fun i23 => zax i23 0 (
 pBin PP .gtr T.int r2 (.int .i64 0) fun v52 =>
 zab v52 fun b53 => br b53
 (pBin PP .eql T.int r2 r5 fun v54 =>
 some (v54, H22))
 (some ((.bool false), H22))) (
 none))
 (some ((l21.headD undef), H22))))
noncomputable def zdL (R : zae) (x0 x1 : Value) (H0 : Hp) : Option (Value × Hp) :=
 zad 1 false (zaa x1) 2 fun v1 =>
 zaf R F.a1 [x0, v1] H0 fun r2 H3 =>
 zad 1 false (zaa x1) 0 fun v4 =>
 zat (
 pBin PP .eql T.int v4 (.int .i64 1) fun v5 =>
 zab v5 fun b6 => br b6
 (some (.next, [(.bool true)], H3))
 (pBin PP .eql T.int v4 (.int .i64 2) fun v7 =>
 zab v7 fun b8 => br b8
 (some (.next, [(.bool true)], H3))
 (pBin PP .geq T.int v4 (.int .i64 5) fun v9 =>
 zab v9 fun b10 => br b10
 (pBin PP .leq T.int v4 (.int .i64 13) fun v11 =>
 some (.next, [v11], H3))
 (some (.next, [(.bool false)], H3))))) fun q12 l13 H14 => zaC q12
 (zab (l13.getD 0 undef) fun b16 => br b16
 (zad 1 false (zaa x1) 1 fun v17 =>
 pBin PP .eql T.int v17 (.int .i64 0) fun v18 =>
 some (v18, H14))
 (pBin PP .eql T.int v4 (.int .i64 3) fun v19 =>
 zab v19 fun b20 => br b20
 (zad 1 false (zaa x1) 1 fun v21 =>
 pBin PP .gtr T.int v21 (.int .i64 0) fun v22 =>
 zab v22 fun b23 => br b23
 (zad 1 false (zaa x1) 1 fun v24 =>
 zad 1 false (zaa x1) 5 fun v25 =>
 zaf R F.a48 [v24, v25] H14 fun r26 H27 =>
 zad 1 false (zaa x1) 5 fun v28 =>
 pBin PP .eql T.uint64 r26 v28 fun v29 =>
 some (v29, H27))
 (some ((.bool false), H14)))
 (pBin PP .eql T.int v4 (.int .i64 4) fun v30 =>
 zab v30 fun b31 => br b31
 (some ((.bool true), H14))
 (pBin PP .eql T.int v4 (.int .i64 14) fun v32 =>
 zab v32 fun b33 => br b33
 (zad 1 false (zaa x1) 1 fun v34 =>
 zad 1 false (zaa x1) 3 fun v35 =>
 zaf R F.a1 [x0, v35] H14 fun r36 H37 =>
 pBin PP .eql T.int v34 r36 fun v38 =>
 some (v38, H37))
 (zat (
 pBin PP .geq T.int v4 (.int .i64 25) fun v39 =>
 zab v39 fun b40 => br b40
 (pBin PP .leq T.int v4 (.int .i64 29) fun v41 =>
 some (.next, [v41], H14))
 (some (.next, [(.bool false)], H14))) fun q42 l43 H44 => zaC q42
 (zab (l43.getD 0 undef) fun b46 => br b46
 (zad 1 false (zaa x1) 1 fun v47 =>
 pBin PP .eql T.int v47 r2 fun v48 =>
 zab v48 fun b49 => br b49
 (zaw .u64 r2 fun v50 =>
 zaf R F.a30 [v50] H44 fun r51 H52 =>
 pBin PP .eql T.int r51 (.int .i64 1) fun v53 =>
 some (v53, H52))
 (some ((.bool false), H44)))
 (pBin PP .eql T.int v4 (.int .i64 30) fun v54 =>
 zab v54 fun b55 => br b55
 (zad 1 false (zaa x1) 1 fun v56 =>
 zad 1 false (zaa x1) 3 fun v57 =>
 zaf R F.a1 [x0, v57] H44 fun r58 H59 =>
 pBin PP .add T.int r2 r58 fun v60 =>
 pBin PP .eql T.int v56 v60 fun v61 =>
 some (v61, H59))
 (pBin PP .eql T.int v4 (.int .i64 31) fun v62 =>
 zab v62 fun b63 => br b63
 (zad 1 false (zaa x1) 1 fun v64 =>
 pBin PP .geq T.int v64 (.int .i64 1) fun v65 =>
 zab v65 fun b66 => br b66
 (zad 1 false (zaa x1) 1 fun v67 =>
 pBin PP .leq T.int v67 r2 fun v68 =>
 zab v68 fun b69 => br b69
 (zad 1 false (zaa x1) 5 fun v70 =>
 zad 1 false (zaa x1) 1 fun v71 =>
 pBin PP .sub T.int r2 v71 fun v72 =>
 zaw .u64 v72 fun v73 =>
 pBin PP .leq T.uint64 v70 v73 fun v74 =>
 some (v74, H44))
 (some ((.bool false), H44)))
 (some ((.bool false), H44)))
 (pBin PP .eql T.int v4 (.int .i64 32) fun v75 =>
 zab v75 fun b76 => br b76
 (zad 1 false (zaa x1) 1 fun v77 =>
 pBin PP .geq T.int v77 r2 fun v78 =>
 some (v78, H44))
 (pBin PP .eql T.int v4 (.int .i64 33) fun v79 =>
 zab v79 fun b80 => br b80
 (zad 1 false (zaa x1) 1 fun v81 =>
 pBin PP .geq T.int v81 r2 fun v82 =>
 some (v82, H44))
 (zad 1 false (zaa x1) 1 fun v83 =>
 pBin PP .eql T.int v83 r2 fun v84 =>
 some (v84, H44)))))))
 (fun i45 => zax i45 0 (
 zad 1 false (zaa x1) 1 fun v85 =>
 pBin PP .eql T.int v85 r2 fun v86 =>
 some (v86, H44)) (
 none))
 (some ((l43.headD undef), H44)))))))
 (fun i15 => zax i15 0 (
 zad 1 false (zaa x1) 1 fun v87 =>
 pBin PP .eql T.int v87 r2 fun v88 =>
 some (v88, H14)) (
 none))
 (some ((l13.headD undef), H14))
noncomputable def zhC (R : zae) (x0 : Value) (H0 : Hp) : Option (Value × Hp) :=
 zat (
 pLen .str x0 H0 fun v1 =>
 pBin PP .lss T.int v1 (.int .i64 1) fun v2 =>
 zab v2 fun b3 => br b3
 (some (.ret, [(.bool false)], H0))
 (pLen .str x0 H0 fun v4 =>
 pBin PP .gtr T.int v4 (.int .i64 24) fun v5 =>
 zab v5 fun b6 => br b6
 (some (.ret, [(.bool false)], H0))
 (some (.next, [], H0)))) fun q7 l8 H9 => zaC q7
 (zh7 x0 fun s11 =>
 zat (zaE (fun l12 H13 =>
 br (Nat.blt (zaS ((l12.drop 0).getD 0 undef)) (zaW ((l12.drop 0).getD 0 undef)).size)
 (zat (
 pBin PP .geq T.int32 (.int .i32 (Utf8.decode (zaW ((l12.drop 0).getD 0 undef)) (zaS ((l12.drop 0).getD 0 undef))).1) (.int .i32 97) fun v14 =>
 zab v14 fun b15 => br b15
 (pBin PP .leq T.int32 (.int .i32 (Utf8.decode (zaW ((l12.drop 0).getD 0 undef)) (zaS ((l12.drop 0).getD 0 undef))).1) (.int .i32 122) fun v16 =>
 zab v16 fun b17 => br b17
 (some (.next, [(.bool true)], H13))
 (pBin PP .geq T.int32 (.int .i32 (Utf8.decode (zaW ((l12.drop 0).getD 0 undef)) (zaS ((l12.drop 0).getD 0 undef))).1) (.int .i32 65) fun v18 =>
 zab v18 fun b19 => br b19
 (pBin PP .leq T.int32 (.int .i32 (Utf8.decode (zaW ((l12.drop 0).getD 0 undef)) (zaS ((l12.drop 0).getD 0 undef))).1) (.int .i32 90) fun v20 =>
 zab v20 fun b21 => br b21
 (some (.next, [(.bool true)], H13))
 (pBin PP .eql T.int32 (.int .i32 (Utf8.decode (zaW ((l12.drop 0).getD 0 undef)) (zaS ((l12.drop 0).getD 0 undef))).1) (.int .i32 95) fun v22 =>
 some (.next, [v22], H13)))
 (pBin PP .eql T.int32 (.int .i32 (Utf8.decode (zaW ((l12.drop 0).getD 0 undef)) (zaS ((l12.drop 0).getD 0 undef))).1) (.int .i32 95) fun v23 =>
 some (.next, [v23], H13))))
 (pBin PP .geq T.int32 (.int .i32 (Utf8.decode (zaW ((l12.drop 0).getD 0 undef)) (zaS ((l12.drop 0).getD 0 undef))).1) (.int .i32 65) fun v24 =>
 zab v24 fun b25 => br b25
 (pBin PP .leq T.int32 (.int .i32 (Utf8.decode (zaW ((l12.drop 0).getD 0 undef)) (zaS ((l12.drop 0).getD 0 undef))).1) (.int .i32 90) fun v26 =>
 zab v26 fun b27 => br b27
 (some (.next, [(.bool true)], H13))
 (pBin PP .eql T.int32 (.int .i32 (Utf8.decode (zaW ((l12.drop 0).getD 0 undef)) (zaS ((l12.drop 0).getD 0 undef))).1) (.int .i32 95) fun v28 =>
 some (.next, [v28], H13)))
 (pBin PP .eql T.int32 (.int .i32 (Utf8.decode (zaW ((l12.drop 0).getD 0 undef)) (zaS ((l12.drop 0).getD 0 undef))).1) (.int .i32 95) fun v29 =>
 some (.next, [v29], H13)))) fun q30 l31 H32 => zaC q30
 (pUn .not (l31.getD 0 undef) fun v34 =>
 zab v34 fun b35 => br b35
 (pBin PP .eql T.int (.int .i64 ((zaS ((l12.drop 0).getD 0 undef)) : Nat)) (.int .i64 0) fun v36 =>
 zab v36 fun b37 => br b37
 (some (.ret, [(.bool false)], H32))
 (pBin PP .lss T.int32 (.int .i32 (Utf8.decode (zaW ((l12.drop 0).getD 0 undef)) (zaS ((l12.drop 0).getD 0 undef))).1) (.int .i32 48) fun v38 =>
 zab v38 fun b39 => br b39
 (some (.ret, [(.bool false)], H32))
 (pBin PP .gtr T.int32 (.int .i32 (Utf8.decode (zaW ((l12.drop 0).getD 0 undef)) (zaS ((l12.drop 0).getD 0 undef))).1) (.int .i32 57) fun v40 =>
 zab v40 fun b41 => br b41
 (some (.ret, [(.bool false)], H32))
 (some (.next, [(.tuple #[.string (zaW ((l12.drop 0).getD 0 undef)), .int .i64 (((zaS ((l12.drop 0).getD 0 undef)) + (Utf8.decode (zaW ((l12.drop 0).getD 0 undef)) (zaS ((l12.drop 0).getD 0 undef))).2) : Nat)])], H32)))))
 (some (.next, [(.tuple #[.string (zaW ((l12.drop 0).getD 0 undef)), .int .i64 (((zaS ((l12.drop 0).getD 0 undef)) + (Utf8.decode (zaW ((l12.drop 0).getD 0 undef)) (zaS ((l12.drop 0).getD 0 undef))).2) : Nat)])], H32)))
 (fun i33 => zax i33 1 (
 some (.next, [(.tuple #[.string (zaW ((l12.drop 0).getD 0 undef)), .int .i64 (((zaS ((l12.drop 0).getD 0 undef)) + (Utf8.decode (zaW ((l12.drop 0).getD 0 undef)) (zaS ((l12.drop 0).getD 0 undef))).2) : Nat)])], H32)) (
 some (.exit i33, [(.tuple #[.string (zaW ((l12.drop 0).getD 0 undef)), .int .i64 (((zaS ((l12.drop 0).getD 0 undef)) + (Utf8.decode (zaW ((l12.drop 0).getD 0 undef)) (zaS ((l12.drop 0).getD 0 undef))).2) : Nat)])], H32)))
 (some (.ret, [(l31.headD undef)], H32)))
 (some (.exit 0, [(.tuple #[.string (zaW ((l12.drop 0).getD 0 undef)), .int .i64 ((zaS ((l12.drop 0).getD 0 undef)) : Nat)])], H13))) [(.tuple #[.string s11, .int .i64 (0 : Nat)])] H9) fun q42 l43 H44 => zaC q42 none
 (fun i45 => zax i45 0 (
 some ((.bool true), H44)) (
 none))
 (some ((l43.headD undef), H44)))
 (fun i10 => none)
 (some ((l8.headD undef), H9))
noncomputable def zhB (R : zae) (x0 x1 : Value) (H0 : Hp) : Option (Value × Hp) :=
 pBin PP .lss T.int x0 (.int .i64 1) fun v1 =>
 zab v1 fun b2 => br b2
 (some ((.int .u64 0), H0))
 (pBin PP .geq T.int x0 (.int .i64 64) fun v3 =>
 zab v3 fun b4 => br b4
 (some (x1, H0))
 (zaw .u64 x0 fun v5 =>
 pBin PP .shl T.uint64 (.int .u64 1) v5 fun v6 =>
 pBin PP .sub T.uint64 v6 (.int .u64 1) fun v7 =>
 pBin PP .and T.uint64 x1 v7 fun v8 =>
 some (v8, H0)))
noncomputable def zev (R : zae) (x0 x1 : Value) (H0 : Hp) : Option (Value × Hp) :=
 pLen .str x1 H0 fun v1 =>
 pBin PP .eql T.int v1 (.int .i64 0) fun v2 =>
 zab v2 fun b3 => br b3
 (zaf R F.a73 [x0] H0 fun r4 H5 =>
 pBin PP .add T.int r4 (.int .i64 1) fun v6 =>
 some (v6, H5))
 (pLen .str x1 H0 fun v7 =>
 pBin PP .eql T.int v7 (.int .i64 1) fun v8 =>
 zab v8 fun b9 => br b9
 (zaU x1 (.int .i64 0) fun v10 =>
 zaf R F.a24 [x0, v10] H0 fun r11 H12 =>
 some (r11, H12))
 (zat (zaE (fun l13 H14 =>
 zaf R F.a28 [(l13.getD 0 undef), x1] H14 fun r15 H16 =>
 pBin PP .eql T.int r15 (.int .i64 (-1)) fun v17 =>
 zab v17 fun b18 => br b18
 (some (.ret, [(l13.getD 1 undef)], H16))
 (pBin PP .add T.int (l13.getD 1 undef) (.int .i64 1) fun v19 =>
 pLen .str x1 H16 fun v20 =>
 pBin PP .add T.int r15 v20 fun v21 =>
 zaV (l13.getD 0 undef) (some v21) none fun v22 =>
 some (.next, [v22, v19], H16))) [x0, (.int .i64 0)] H0) fun q23 l24 H25 => zaC q23 none
 (fun i26 => zax i26 0 (
 none) (
 none))
 (some ((l24.headD undef), H25))))
noncomputable def zeu (R : zae) (x0 x1 : Value) (H0 : Hp) : Option (Value × Hp) :=
 zaf R F.a57 [x0, x1] H0 fun r1 H2 =>
 some (r1, H2)
noncomputable def zc5 (R : zae) (x0 x1 : Value) (H0 : Hp) : Option (Value × Hp) :=
 zaf R F.a36 [x0, x1] H0 fun r1 H2 =>
 zag r1 0 fun v3 =>
 zag r1 1 fun v4 =>
 some ((.tuple #[v3, v4]), H2)
noncomputable def zc6 (R : zae) (x0 x1 x2 : Value) (H0 : Hp) : Option (Value × Hp) :=
 zaf R F.a26 [x0, x1, x2] H0 fun r1 H2 =>
 zag r1 0 fun v3 =>
 zag r1 1 fun v4 =>
 zd3 PP .neq T.error v4 fun v5 =>
 zab v5 fun b6 => br b6
 (zaf R F.a27 [(.string ⟨#[80, 97, 114, 115, 101, 85, 105, 110, 116]⟩), x0, x1, x2, v4] H2 fun r7 H8 =>
 some ((.tuple #[v3, r7]), H8))
 (some ((.tuple #[v3, .nilIface]), H2))
noncomputable def zcN (R : zae) (x0 x1 : Value) (H0 : Hp) : Option (Value × Hp) :=
 zat (
 zat (
 pBin PP .geq T.uint8 x0 (.int .u8 48) fun v1 =>
 zab v1 fun b2 => br b2
 (pBin PP .leq T.uint8 x0 (.int .u8 57) fun v3 =>
 some (.next, [v3], H0))
 (some (.next, [(.bool false)], H0))) fun q4 l5 H6 => zaC q4
 (zab (l5.getD 0 undef) fun b8 => br b8
 (zaw .i64 x0 fun v9 =>
 pBin PP .sub T.int v9 (.int .i64 48) fun v10 =>
 some (.next, [v10], H6))
 (pBin PP .geq T.uint8 x0 (.int .u8 97) fun v11 =>
 zab v11 fun b12 => br b12
 (pBin PP .leq T.uint8 x0 (.int .u8 102) fun v13 =>
 zab v13 fun b14 => br b14
 (zaw .i64 x0 fun v15 =>
 pBin PP .sub T.int v15 (.int .i64 97) fun v16 =>
 pBin PP .add T.int v16 (.int .i64 10) fun v17 =>
 some (.next, [v17], H6))
 (pBin PP .geq T.uint8 x0 (.int .u8 65) fun v18 =>
 zab v18 fun b19 => br b19
 (pBin PP .leq T.uint8 x0 (.int .u8 70) fun v20 =>
 zab v20 fun b21 => br b21
 (zaw .i64 x0 fun v22 =>
 pBin PP .sub T.int v22 (.int .i64 65) fun v23 =>
 pBin PP .add T.int v23 (.int .i64 10) fun v24 =>
 some (.next, [v24], H6))
 (some (.next, [(.int .i64 (-1))], H6)))
 (some (.next, [(.int .i64 (-1))], H6))))
 (pBin PP .geq T.uint8 x0 (.int .u8 65) fun v25 =>
 zab v25 fun b26 => br b26
 (pBin PP .leq T.uint8 x0 (.int .u8 70) fun v27 =>
 zab v27 fun b28 => br b28
 (zaw .i64 x0 fun v29 =>
 pBin PP .sub T.int v29 (.int .i64 65) fun v30 =>
 pBin PP .add T.int v30 (.int .i64 10) fun v31 =>
 some (.next, [v31], H6))
 (some (.next, [(.int .i64 (-1))], H6)))
 (some (.next, [(.int .i64 (-1))], H6)))))
 (fun i7 => zax i7 0 (
 some (.next, [(.int .i64 (-1))], H6)) (
 some (.exit i7, [(.int .i64 (-1))], H6)))
 (some (.ret, [(l5.headD undef)], H6))) fun q32 l33 H34 => zaC q32
 (pMM true [(l33.getD 0 undef), (.int .i64 0)] fun v36 =>
 zaw .u64 v36 fun v37 =>
 pBin PP .geq T.uint64 v37 x1 fun v38 =>
 zab v38 fun b39 => br b39
 (some ((.int .i64 (-1)), H34))
 (some ((l33.getD 0 undef), H34)))
 (fun i35 => none)
 (some ((l33.headD undef), H34))
noncomputable def zda (R : zae) (x0 x1 : Value) (H0 : Hp) : Option (Value × Hp) :=
 pBin PP .lss T.int x0 (.int .i64 1) fun v1 =>
 zab v1 fun b2 => br b2
 (some ((.int .u64 0), H0))
 (pBin PP .geq T.int x0 (.int .i64 64) fun v3 =>
 zab v3 fun b4 => br b4
 (some (x1, H0))
 (zaw .u64 x0 fun v5 =>
 pBin PP .shl T.uint64 (.int .u64 1) v5 fun v6 =>
 pBin PP .rem T.uint64 x1 v6 fun v7 =>
 some (v7, H0)))
noncomputable def zcs (R : zae) (x0 : Value) (H0 : Hp) : Option (Value × Hp) :=
 zat (zaE (fun l1 H2 =>
 pBin PP .leq T.int (l1.getD 0 undef) (.int .i64 64) fun v3 =>
 zab v3 fun b4 => br b4
 (pBin PP .eql T.int x0 (l1.getD 0 undef) fun v5 =>
 zab v5 fun b6 => br b6
 (some (.ret, [(.bool true)], H2))
 (pBin PP .mul T.int (.int .i64 2) (l1.getD 0 undef) fun v7 =>
 some (.next, [v7], H2)))
 (some (.exit 0, [(l1.getD 0 undef)], H2))) [(.int .i64 1)] H0) fun q8 l9 H10 => zaC q8 none
 (fun i11 => zax i11 0 (
 some ((.bool false), H10)) (
 none))
 (some ((l9.headD undef), H10))
noncomputable def zcu (R : zae) (x0 : Value) (H0 : Hp) : Option (Value × Hp) :=
 pBin PP .geq T.uint8 x0 (.int .u8 97) fun v1 =>
 zab v1 fun b2 => br b2
 (pBin PP .leq T.uint8 x0 (.int .u8 122) fun v3 =>
 zab v3 fun b4 => br b4
 (some ((.bool true), H0))
 (pBin PP .geq T.uint8 x0 (.int .u8 65) fun v5 =>
 zab v5 fun b6 => br b6
 (pBin PP .leq T.uint8 x0 (.int .u8 90) fun v7 =>
 zab v7 fun b8 => br b8
 (some ((.bool true), H0))
 (pBin PP .eql T.uint8 x0 (.int .u8 95) fun v9 =>
 some (v9, H0)))
 (pBin PP .eql T.uint8 x0 (.int .u8 95) fun v10 =>
 some (v10, H0))))
 (pBin PP .geq T.uint8 x0 (.int .u8 65) fun v11 =>
 zab v11 fun b12 => br b12
 (pBin PP .leq T.uint8 x0 (.int .u8 90) fun v13 =>
 zab v13 fun b14 => br b14
 (some ((.bool true), H0))
 (pBin PP .eql T.uint8 x0 (.int .u8 95) fun v15 =>
 some (v15, H0)))
 (pBin PP .eql T.uint8 x0 (.int .u8 95) fun v16 =>
 some (v16, H0)))
noncomputable def zd9 (R : zae) (x0 : Value) (H0 : Hp) : Option (Value × Hp) :=
 zaf R F.a47 [x0] H0 fun r1 H2 =>
 some (r1, H2)
noncomputable def zbB (R : zae) (x0 x1 : Value) (H0 : Hp) : Option (Value × Hp) :=
 pLen .str x1 H0 fun v1 =>
 zat (
 zat (
 pBin PP .eql T.int v1 (.int .i64 0) fun v2 =>
 zab v2 fun b3 => br b3
 (some (.next, [(.bool true)], H0))
 (pBin PP .eql T.string x1 x0 fun v4 =>
 some (.next, [v4], H0))) fun q5 l6 H7 => zaC q5
 (zab (l6.getD 0 undef) fun b9 => br b9
 (some (.ret, [(.int .i64 0)], H7))
 (pBin PP .eql T.int v1 (.int .i64 1) fun v10 =>
 zab v10 fun b11 => br b11
 (zaU x1 (.int .i64 0) fun v12 =>
 zaf R F.a37 [x0, v12] H7 fun r13 H14 =>
 some (.ret, [r13], H14))
 (pLen .str x0 H7 fun v15 =>
 pBin PP .geq T.int v1 v15 fun v16 =>
 zab v16 fun b17 => br b17
 (some (.ret, [(.int .i64 (-1))], H7))
 (zah 1 false H7 (.pointer (some ⟨G.internal_bytealg_MaxLen, 0, none⟩)) fun v18 =>
 pBin PP .leq T.int v1 v18 fun v19 =>
 zab v19 fun b20 => br b20
 (pLen .str x0 H7 fun v21 =>
 pBin PP .leq T.int v21 (.int .i64 64) fun v22 =>
 zab v22 fun b23 => br b23
 (zaf R F.a65 [x0, x1] H7 fun r24 H25 =>
 some (.ret, [r24], H25))
 (some (.next, [], H7)))
 (some (.next, [], H7))))))
 (fun i8 => zax i8 0 (
 some (.next, [], H7)) (
 some (.exit i8, [], H7)))
 (some (.ret, [(l6.headD undef)], H7))) fun q26 l27 H28 => zaC q26
 (zaU x1 (.int .i64 0) fun v30 =>
 zaU x1 (.int .i64 1) fun v31 =>
 pLen .str x0 H28 fun v32 =>
 pBin PP .sub T.int v32 v1 fun v33 =>
 pBin PP .add T.int v33 (.int .i64 1) fun v34 =>
 zat (zaE (fun l35 H36 =>
 pBin PP .lss T.int (l35.getD 0 undef) v34 fun v37 =>
 zab v37 fun b38 => br b38
 (zat (
 zaU x0 (l35.getD 0 undef) fun v39 =>
 pBin PP .neq T.uint8 v39 v30 fun v40 =>
 zab v40 fun b41 => br b41
 (pBin PP .add T.int (l35.getD 0 undef) (.int .i64 1) fun v42 =>
 zaV x0 (some v42) (some v34) fun v43 =>
 zaf R F.a37 [v43, v30] H36 fun r44 H45 =>
 pBin PP .lss T.int r44 (.int .i64 0) fun v46 =>
 zab v46 fun b47 => br b47
 (some (.ret, [(.int .i64 (-1))], H45))
 (pBin PP .add T.int r44 (.int .i64 1) fun v48 =>
 pBin PP .add T.int (l35.getD 0 undef) v48 fun v49 =>
 some (.next, [v49], H45)))
 (some (.next, [(l35.getD 0 undef)], H36))) fun q50 l51 H52 => zaC q50
 (zat (
 pBin PP .add T.int (l51.getD 0 undef) (.int .i64 1) fun v54 =>
 zaU x0 v54 fun v55 =>
 pBin PP .eql T.uint8 v55 v31 fun v56 =>
 zab v56 fun b57 => br b57
 (pBin PP .add T.int (l51.getD 0 undef) v1 fun v58 =>
 zaV x0 (some (l51.getD 0 undef)) (some v58) fun v59 =>
 pBin PP .eql T.string v59 x1 fun v60 =>
 zab v60 fun b61 => br b61
 (some (.ret, [(l51.getD 0 undef)], H52))
 (some (.next, [], H52)))
 (some (.next, [], H52))) fun q62 l63 H64 => zaC q62
 (pBin PP .add T.int (l51.getD 0 undef) (.int .i64 1) fun v66 =>
 pBin PP .add T.int (l35.getD 1 undef) (.int .i64 1) fun v67 =>
 zat (
 zah 1 false H64 (.pointer (some ⟨G.internal_bytealg_MaxLen, 0, none⟩)) fun v68 =>
 pBin PP .leq T.int v1 v68 fun v69 =>
 zab v69 fun b70 => br b70
 (zaf R F.a69 [v66] H64 fun r71 H72 =>
 pBin PP .gtr T.int v67 r71 fun v73 =>
 some (.next, [v73], H72))
 (some (.next, [(.bool false)], H64))) fun q74 l75 H76 => zaC q74
 (zab (l75.getD 0 undef) fun b78 => br b78
 (zaV x0 (some v66) none fun v79 =>
 zaf R F.a65 [v79, x1] H76 fun r80 H81 =>
 pBin PP .geq T.int r80 (.int .i64 0) fun v82 =>
 zab v82 fun b83 => br b83
 (pBin PP .add T.int r80 v66 fun v84 =>
 some (.ret, [v84], H81))
 (some (.ret, [(.int .i64 (-1))], H81)))
 (zah 1 false H76 (.pointer (some ⟨G.internal_bytealg_MaxLen, 0, none⟩)) fun v85 =>
 pBin PP .gtr T.int v1 v85 fun v86 =>
 zab v86 fun b87 => br b87
 (pBin PP .shr T.int v66 (.int .u64 4) fun v88 =>
 pBin PP .add T.int (.int .i64 4) v88 fun v89 =>
 pBin PP .geq T.int v67 v89 fun v90 =>
 zab v90 fun b91 => br b91
 (pBin PP .lss T.int v66 v34 fun v92 =>
 zab v92 fun b93 => br b93
 (zaV x0 (some v66) none fun v94 =>
 zaf R F.a70 [v94, x1] H76 fun r95 H96 =>
 pBin PP .lss T.int r95 (.int .i64 0) fun v97 =>
 zab v97 fun b98 => br b98
 (some (.ret, [(.int .i64 (-1))], H96))
 (pBin PP .add T.int v66 r95 fun v99 =>
 some (.ret, [v99], H96)))
 (some (.next, [v66, v67], H76)))
 (some (.next, [v66, v67], H76)))
 (some (.next, [v66, v67], H76))))
 (fun i77 => zax i77 2 (
 some (.next, [v66, v67], H76)) (
 some (.exit i77, [v66, v67], H76)))
 (some (.ret, [(l75.headD undef)], H76)))
 (fun i65 => zax i65 2 (
 some (.next, [(l51.getD 0 undef), (l35.getD 1 undef)], H64)) (
 some (.exit i65, [(l51.getD 0 undef), (l35.getD 1 undef)], H64)))
 (some (.ret, [(l63.headD undef)], H64)))
 (fun i53 => zax i53 2 (
 some (.next, [(l51.getD 0 undef), (l35.getD 1 undef)], H52)) (
 some (.exit i53, [(l51.getD 0 undef), (l35.getD 1 undef)], H52)))
 (some (.ret, [(l51.headD undef)], H52)))
 (some (.exit 1, [(l35.getD 0 undef), (l35.getD 1 undef)], H36))) [(.int .i64 0), (.int .i64 0)] H28) fun q100 l101 H102 => zaC q100 none
 (fun i103 => zax i103 1 (
 some ((.int .i64 (-1)), H102)) (
 none))
 (some ((l101.headD undef), H102)))
 (fun i29 => none)
 (some ((l27.headD undef), H28))
noncomputable def zbn (R : zae) (x0 x1 : Value) (H0 : Hp) : Option (Value × Hp) :=
 zaf R F.a56 [x0, x1] H0 fun r1 H2 =>
 pUn .not r1 fun v3 =>
 zab v3 fun b4 => br b4
 (some ((.tuple #[x0, (.bool false)]), H2))
 (pLen .str x1 H2 fun v5 =>
 zaV x0 (some v5) none fun v6 =>
 some ((.tuple #[v6, (.bool true)]), H2))
noncomputable def zbC (R : zae) (x0 x1 x2 : Value) (H0 : Hp) : Option (Value × Hp) := zeX PP orc R F.a26 Go.Proofs.Tryz.f90 [x0, x1, x2] H0
noncomputable def zdt (R : zae) (x0 : Value) (H0 : Hp) : Option (Value × Hp) :=
 pBin PP .shr T.uint64 x0 (.int .u64 1) fun v1 =>
 pBin PP .and T.uint64 v1 (.int .u64 6148914691236517205) fun v2 =>
 pBin PP .and T.uint64 x0 (.int .u64 6148914691236517205) fun v3 =>
 pBin PP .add T.uint64 v2 v3 fun v4 =>
 pBin PP .shr T.uint64 v4 (.int .u64 2) fun v5 =>
 pBin PP .and T.uint64 v5 (.int .u64 3689348814741910323) fun v6 =>
 pBin PP .and T.uint64 v4 (.int .u64 3689348814741910323) fun v7 =>
 pBin PP .add T.uint64 v6 v7 fun v8 =>
 pBin PP .shr T.uint64 v8 (.int .u64 4) fun v9 =>
 pBin PP .add T.uint64 v9 v8 fun v10 =>
 pBin PP .and T.uint64 v10 (.int .u64 1085102592571150095) fun v11 =>
 pBin PP .shr T.uint64 v11 (.int .u64 8) fun v12 =>
 pBin PP .add T.uint64 v11 v12 fun v13 =>
 pBin PP .shr T.uint64 v13 (.int .u64 16) fun v14 =>
 pBin PP .add T.uint64 v13 v14 fun v15 =>
 pBin PP .shr T.uint64 v15 (.int .u64 32) fun v16 =>
 pBin PP .add T.uint64 v15 v16 fun v17 =>
 zaw .i64 v17 fun v18 =>
 pBin PP .and T.int v18 (.int .i64 127) fun v19 =>
 some (v19, H0)
noncomputable def zbl (R : zae) (x0 x1 : Value) (H0 : Hp) : Option (Value × Hp) :=
 zaf R F.a25 [x0, x1] H0 fun r1 H2 =>
 some (r1, H2)
noncomputable def zbm (R : zae) (x0 x1 : Value) (H0 : Hp) : Option (Value × Hp) :=
 pLen .str x0 H0 fun v1 =>
 pLen .str x1 H0 fun v2 =>
 pBin PP .geq T.int v1 v2 fun v3 =>
 zab v3 fun b4 => br b4
 (pLen .str x1 H0 fun v5 =>
 zaV x0 none (some v5) fun v6 =>
 pBin PP .eql T.string v6 x1 fun v7 =>
 some (v7, H0))
 (some ((.bool false), H0))
noncomputable def zbR (R : zae) (x0 : Value) (H0 : Hp) : Option (Value × Hp) :=
 pBin PP .or T.uint8 x0 (.int .u8 32) fun v1 =>
 some (v1, H0)
theorem zdI (E : ET) (h : E F.a31 = none) (x0 x1 : Value) (H0 : Hp) : run PP orc E F.a31 [x0, x1] H0 = zbS (run PP orc E) x0 x1 H0 := (zaD Go.Proofs.Tryz.func3 (by kernel_rfl) (by kernel_rfl) h _ _).trans (rfl)
theorem zhd (E : ET) (h : E F.a15 = none) (x0 x1 : Value) (H0 : Hp) : run PP orc E F.a15 [x0, x1] H0 = zhA (run PP orc E) x0 x1 H0 := (zaD Go.Proofs.Tryz.func5 (by kernel_rfl) (by kernel_rfl) h _ _).trans (rfl)
theorem zc1 (E : ET) (h : E F.a5 = none) (x0 x1 : Value) (H0 : Hp) : run PP orc E F.a5 [x0, x1] H0 = zc9 (run PP orc E) x0 x1 H0 := (zaD Go.Proofs.Tryz.func6 (by kernel_rfl) (by kernel_rfl) h _ _).trans (rfl)
theorem zfk (E : ET) (h : E F.a32 = none) (x0 x1 : Value) (H0 : Hp) : run PP orc E F.a32 [x0, x1] H0 = zdc (run PP orc E) x0 x1 H0 := (zaD Go.Proofs.Tryz.func7 (by kernel_rfl) (by kernel_rfl) h _ _).trans (rfl)
theorem zgG (E : ET) (h : E F.a59 = none) (x0 : Value) (H0 : Hp) : run PP orc E F.a59 [x0] H0 = zd8 (run PP orc E) x0 H0 := (zaD Go.Proofs.Tryz.func8 (by kernel_rfl) (by kernel_rfl) h _ _).trans (by kernel_rfl)
theorem zgc (E : ET) (h : E F.a60 = none) (x0 x1 : Value) (H0 : Hp) : run PP orc E F.a60 [x0, x1] H0 = zdM (run PP orc E) x0 x1 H0 := (zaD Go.Proofs.Tryz.func9 (by kernel_rfl) (by kernel_rfl) h _ _).trans (by kernel_rfl)
theorem zl5 (E : ET) (h : E F.a29 = none) (x0 : Value) (H0 : Hp) : run PP orc E F.a29 [x0] H0 = zit (run PP orc E) x0 H0 := (zaD Go.Proofs.Tryz.func14 (by kernel_rfl) (by kernel_rfl) h _ _).trans (by kernel_rfl)
theorem zhe (E : ET) (h : E F.a41 = none) (x0 x1 : Value) (H0 : Hp) : run PP orc E F.a41 [x0, x1] H0 = zet (run PP orc E) x0 x1 H0 := (zaD Go.Proofs.Tryz.func15 (by kernel_rfl) (by kernel_rfl) h _ _).trans (by kernel_rfl)
theorem zeM (E : ET) (h : E F.a10 = none) (x0 x1 : Value) (H0 : Hp) : run PP orc E F.a10 [x0, x1] H0 = zcH (run PP orc E) x0 x1 H0 := (zaD Go.Proofs.Tryz.func17 (by kernel_rfl) (by kernel_rfl) h _ _).trans (rfl)
theorem ziX (E : ET) (h : E F.a7 = none) (x0 : Value) (H0 : Hp) : run PP orc E F.a7 [x0] H0 = zfT (run PP orc E) x0 H0 := (zaD Go.Proofs.Tryz.func18 (by kernel_rfl) (by kernel_rfl) h _ _).trans (by kernel_rfl)
theorem zdl (E : ET) (h : E F.a3 = none) (x0 : Value) (H0 : Hp) : run PP orc E F.a3 [x0] H0 = zbY (run PP orc E) x0 H0 := (zaD Go.Proofs.Tryz.func19 (by kernel_rfl) (by kernel_rfl) h _ _).trans (by kernel_rfl)
theorem zfK (E : ET) (h : E F.a45 = none) (x0 : Value) (H0 : Hp) : run PP orc E F.a45 [x0] H0 = zdp (run PP orc E) x0 H0 := (zaD Go.Proofs.Tryz.func20 (by kernel_rfl) (by kernel_rfl) h _ _).trans (by kernel_rfl)
theorem zeL (E : ET) (h : E F.a2 = none) (x0 : Value) (H0 : Hp) : run PP orc E F.a2 [x0] H0 = zcG (run PP orc E) x0 H0 := (zaD Go.Proofs.Tryz.func21 (by kernel_rfl) (by kernel_rfl) h _ _).trans (by kernel_rfl)
theorem zfL (E : ET) (h : E F.a12 = none) (x0 : Value) (H0 : Hp) : run PP orc E F.a12 [x0] H0 = zdq (run PP orc E) x0 H0 := (zaD Go.Proofs.Tryz.func22 (by kernel_rfl) (by kernel_rfl) h _ _).trans (rfl)
theorem zfN (E : ET) (h : E F.a20 = none) (x0 : Value) (H0 : Hp) : run PP orc E F.a20 [x0] H0 = zds (run PP orc E) x0 H0 := (zaD Go.Proofs.Tryz.func23 (by kernel_rfl) (by kernel_rfl) h _ _).trans (by kernel_rfl)
theorem zeN (E : ET) (h : E F.a35 = none) (x0 : Value) (H0 : Hp) : run PP orc E F.a35 [x0] H0 = zcI (run PP orc E) x0 H0 := (zaD Go.Proofs.Tryz.func24 (by kernel_rfl) (by kernel_rfl) h _ _).trans (rfl)
theorem zeP (E : ET) (h : E F.a22 = none) (x0 x1 : Value) (H0 : Hp) : run PP orc E F.a22 [x0, x1] H0 = zcK (run PP orc E) x0 x1 H0 := (zaD Go.Proofs.Tryz.func25 (by kernel_rfl) (by kernel_rfl) h _ _).trans (rfl)
theorem zfg (E : ET) (h : E F.a14 = none) (x0 x1 : Value) (H0 : Hp) : run PP orc E F.a14 [x0, x1] H0 = zc7 (run PP orc E) x0 x1 H0 := (zaD Go.Proofs.Tryz.func26 (by kernel_rfl) (by kernel_rfl) h _ _).trans (rfl)
theorem zcR (E : ET) (h : E F.a52 = none) (x0 x1 : Value) (H0 : Hp) : run PP orc E F.a52 [x0, x1] H0 = zbD (run PP orc E) x0 x1 H0 := (zaD Go.Proofs.Tryz.func27 (by kernel_rfl) (by kernel_rfl) h _ _).trans (by kernel_rfl)
theorem zdy (E : ET) (h : E F.a9 = none) (x0 x1 : Value) (H0 : Hp) : run PP orc E F.a9 [x0, x1] H0 = zbO (run PP orc E) x0 x1 H0 := (zaD Go.Proofs.Tryz.func28 (by kernel_rfl) (by kernel_rfl) h _ _).trans (by kernel_rfl)
theorem zhc (E : ET) (h : E F.a16 = none) (x0 x1 : Value) (H0 : Hp) : run PP orc E F.a16 [x0, x1] H0 = zes (run PP orc E) x0 x1 H0 := (zaD Go.Proofs.Tryz.func29 (by kernel_rfl) (by kernel_rfl) h _ _).trans (by kernel_rfl)
theorem zgd (E : ET) (h : E F.a11 = none) (x0 x1 : Value) (H0 : Hp) : run PP orc E F.a11 [x0, x1] H0 = zdN (run PP orc E) x0 x1 H0 := (zaD Go.Proofs.Tryz.func32 (by kernel_rfl) (by kernel_rfl) h _ _).trans (by kernel_rfl)
theorem zjD (E : ET) (h : E F.a63 = none) (H0 : Hp) : run PP orc E F.a63 [] H0 = zgx (run PP orc E)  H0 := (zaD Go.Proofs.Tryz.func42 (by kernel_rfl) (by kernel_rfl) h _ _).trans (by kernel_rfl)
theorem zjC (E : ET) (h : E F.a8 = none) (x0 : Value) (H0 : Hp) : run PP orc E F.a8 [x0] H0 = zgw (run PP orc E) x0 H0 := (zaD Go.Proofs.Tryz.func44 (by kernel_rfl) (by kernel_rfl) h _ _).trans (by kernel_rfl)
theorem zfM (E : ET) (h : E F.a42 = none) (x0 x1 x2 x3 : Value) (H0 : Hp) : run PP orc E F.a42 [x0, x1, x2, x3] H0 = zdr (run PP orc E) x0 x1 x2 x3 H0 := (zaD Go.Proofs.Tryz.func47 (by kernel_rfl) (by kernel_rfl) h _ _).trans (rfl)
theorem ziY (E : ET) (h : E F.a13 = none) (x0 : Value) (H0 : Hp) : run PP orc E F.a13 [x0] H0 = zfU (run PP orc E) x0 H0 := (zaD Go.Proofs.Tryz.func48 (by kernel_rfl) (by kernel_rfl) h _ _).trans (rfl)
theorem zgF (E : ET) (h : E F.a44 = none) (x0 : Value) (H0 : Hp) : run PP orc E F.a44 [x0] H0 = zd7 (run PP orc E) x0 H0 := (zaD Go.Proofs.Tryz.func49 (by kernel_rfl) (by kernel_rfl) h _ _).trans (rfl)
theorem zh6 (E : ET) (h : E F.a1 = none) (x0 x1 : Value) (H0 : Hp) : run PP orc E F.a1 [x0, x1] H0 = ze5 (run PP orc E) x0 x1 H0 := (zaD Go.Proofs.Tryz.func50 (by kernel_rfl) (by kernel_rfl) h _ _).trans (by kernel_rfl)
theorem zeO (E : ET) (h : E F.a23 = none) (x0 : Value) (H0 : Hp) : run PP orc E F.a23 [x0] H0 = zcJ (run PP orc E) x0 H0 := (zaD Go.Proofs.Tryz.func51 (by kernel_rfl) (by kernel_rfl) h _ _).trans (by kernel_rfl)
theorem zfh (E : ET) (h : E F.a34 = none) (x0 : Value) (H0 : Hp) : run PP orc E F.a34 [x0] H0 = zc8 (run PP orc E) x0 H0 := (zaD Go.Proofs.Tryz.func52 (by kernel_rfl) (by kernel_rfl) h _ _).trans (by kernel_rfl)
theorem zeh (E : ET) (h : E F.a21 = none) (x0 : Value) (H0 : Hp) : run PP orc E F.a21 [x0] H0 = zcr (run PP orc E) x0 H0 := (zaD Go.Proofs.Tryz.func53 (by kernel_rfl) (by kernel_rfl) h _ _).trans (by kernel_rfl)
theorem zej (E : ET) (h : E F.a19 = none) (x0 : Value) (H0 : Hp) : run PP orc E F.a19 [x0] H0 = zct (run PP orc E) x0 H0 := (zaD Go.Proofs.Tryz.func54 (by kernel_rfl) (by kernel_rfl) h _ _).trans (rfl)
theorem zea (E : ET) (h : E F.a0 = none) (x0 x1 : Value) (H0 : Hp) : run PP orc E F.a0 [x0, x1] H0 = zb9 (run PP orc E) x0 x1 H0 := (zaD Go.Proofs.Tryz.func55 (by kernel_rfl) (by kernel_rfl) h _ _).trans (by kernel_rfl)
theorem zeR (E : ET) (h : E F.a33 = none) (x0 : Value) (H0 : Hp) : run PP orc E F.a33 [x0] H0 = zcM (run PP orc E) x0 H0 := (zaD Go.Proofs.Tryz.func56 (by kernel_rfl) (by kernel_rfl) h _ _).trans (by kernel_rfl)
theorem zdU (E : ET) (h : E F.a6 = none) (x0 x1 : Value) (H0 : Hp) : run PP orc E F.a6 [x0, x1] H0 = zb0 (run PP orc E) x0 x1 H0 := (zaD Go.Proofs.Tryz.func57 (by kernel_rfl) (by kernel_rfl) h _ _).trans (by kernel_rfl)
theorem zeQ (E : ET) (h : E F.a55 = none) (x0 x1 : Value) (H0 : Hp) : run PP orc E F.a55 [x0, x1] H0 = zcL (run PP orc E) x0 x1 H0 := (zaD Go.Proofs.Tryz.func58 (by kernel_rfl) (by kernel_rfl) h _ _).trans (by kernel_rfl)
theorem zdi (E : ET) (h : E F.a53 = none) (x0 x1 : Value) (H0 : Hp) : run PP orc E F.a53 [x0, x1] H0 = zbJ (run PP orc E) x0 x1 H0 := (zaD Go.Proofs.Tryz.func59 (by kernel_rfl) (by kernel_rfl) h _ _).trans (by kernel_rfl)
theorem zdh (E : ET) (h : E F.a54 = none) (x0 x1 : Value) (H0 : Hp) : run PP orc E F.a54 [x0, x1] H0 = zbI (run PP orc E) x0 x1 H0 := (zaD Go.Proofs.Tryz.func60 (by kernel_rfl) (by kernel_rfl) h _ _).trans (by kernel_rfl)
theorem zfj (E : ET) (h : E F.a18 = none) (x0 : Value) (H0 : Hp) : run PP orc E F.a18 [x0] H0 = zdb (run PP orc E) x0 H0 := (zaD Go.Proofs.Tryz.func61 (by kernel_rfl) (by kernel_rfl) h _ _).trans (by kernel_rfl)
theorem zjB (E : ET) (h : E F.a64 = none) (x0 : Value) (H0 : Hp) : run PP orc E F.a64 [x0] H0 = zgv (run PP orc E) x0 H0 := (zaD Go.Proofs.Tryz.func62 (by kernel_rfl) (by kernel_rfl) h _ _).trans (by kernel_rfl)
theorem zfd (E : ET) (h : E F.a61 = none) (x0 x1 : Value) (H0 : Hp) : run PP orc E F.a61 [x0, x1] H0 = zc4 (run PP orc E) x0 x1 H0 := (zaD Go.Proofs.Tryz.func63 (by kernel_rfl) (by kernel_rfl) h _ _).trans (by kernel_rfl)
theorem zgb (E : ET) (h : E F.a62 = none) (x0 x1 : Value) (H0 : Hp) : run PP orc E F.a62 [x0, x1] H0 = zdL (run PP orc E) x0 x1 H0 := (zaD Go.Proofs.Tryz.func64 (by kernel_rfl) (by kernel_rfl) h _ _).trans (by kernel_rfl)
theorem zky (E : ET) (h : E F.a46 = none) (x0 : Value) (H0 : Hp) : run PP orc E F.a46 [x0] H0 = zhC (run PP orc E) x0 H0 := (zaD Go.Proofs.Tryz.func65 (by kernel_rfl) (by kernel_rfl) h _ _).trans (by kernel_rfl)
theorem zkx (E : ET) (h : E F.a48 = none) (x0 x1 : Value) (H0 : Hp) : run PP orc E F.a48 [x0, x1] H0 = zhB (run PP orc E) x0 x1 H0 := (zaD Go.Proofs.Tryz.func66 (by kernel_rfl) (by kernel_rfl) h _ _).trans (by kernel_rfl)
theorem zhg (E : ET) (h : E F.a39 = none) (x0 x1 : Value) (H0 : Hp) : run PP orc E F.a39 [x0, x1] H0 = zev (run PP orc E) x0 x1 H0 := (zaD Go.Proofs.Tryz.func72 (by kernel_rfl) (by kernel_rfl) h _ _).trans (by kernel_rfl)
theorem zhf (E : ET) (h : E F.a28 = none) (x0 x1 : Value) (H0 : Hp) : run PP orc E F.a28 [x0, x1] H0 = zeu (run PP orc E) x0 x1 H0 := (zaD Go.Proofs.Tryz.func73 (by kernel_rfl) (by kernel_rfl) h _ _).trans (by kernel_rfl)
theorem zfe (E : ET) (h : E F.a58 = none) (x0 x1 : Value) (H0 : Hp) : run PP orc E F.a58 [x0, x1] H0 = zc5 (run PP orc E) x0 x1 H0 := (zaD Go.Proofs.Tryz.func74 (by kernel_rfl) (by kernel_rfl) h _ _).trans (by kernel_rfl)
theorem zff (E : ET) (h : E F.a38 = none) (x0 x1 x2 : Value) (H0 : Hp) : run PP orc E F.a38 [x0, x1, x2] H0 = zc6 (run PP orc E) x0 x1 x2 H0 := (zaD Go.Proofs.Tryz.func75 (by kernel_rfl) (by kernel_rfl) h _ _).trans (by kernel_rfl)
theorem zeS (E : ET) (h : E F.a51 = none) (x0 x1 : Value) (H0 : Hp) : run PP orc E F.a51 [x0, x1] H0 = zcN (run PP orc E) x0 x1 H0 := (zaD Go.Proofs.Tryz.func76 (by kernel_rfl) (by kernel_rfl) h _ _).trans (by kernel_rfl)
theorem zfi (E : ET) (h : E F.a50 = none) (x0 x1 : Value) (H0 : Hp) : run PP orc E F.a50 [x0, x1] H0 = zda (run PP orc E) x0 x1 H0 := (zaD Go.Proofs.Tryz.func77 (by kernel_rfl) (by kernel_rfl) h _ _).trans (by kernel_rfl)
theorem zei (E : ET) (h : E F.a49 = none) (x0 : Value) (H0 : Hp) : run PP orc E F.a49 [x0] H0 = zcs (run PP orc E) x0 H0 := (zaD Go.Proofs.Tryz.func78 (by kernel_rfl) (by kernel_rfl) h _ _).trans (by kernel_rfl)
theorem zek (E : ET) (h : E F.a17 = none) (x0 : Value) (H0 : Hp) : run PP orc E F.a17 [x0] H0 = zcu (run PP orc E) x0 H0 := (zaD Go.Proofs.Tryz.func79 (by kernel_rfl) (by kernel_rfl) h _ _).trans (by kernel_rfl)
theorem zgH (E : ET) (h : E F.a30 = none) (x0 : Value) (H0 : Hp) : run PP orc E F.a30 [x0] H0 = zd9 (run PP orc E) x0 H0 := (zaD Go.Proofs.Tryz.func80 (by kernel_rfl) (by kernel_rfl) h _ _).trans (by kernel_rfl)
theorem zcQ (E : ET) (h : E F.a57 = none) (x0 x1 : Value) (H0 : Hp) : run PP orc E F.a57 [x0, x1] H0 = zbB (run PP orc E) x0 x1 H0 := (zaD Go.Proofs.Tryz.func88 (by kernel_rfl) (by kernel_rfl) h _ _).trans (by kernel_rfl)
theorem zb8 (E : ET) (h : E F.a36 = none) (x0 x1 : Value) (H0 : Hp) : run PP orc E F.a36 [x0, x1] H0 = zbn (run PP orc E) x0 x1 H0 := (zaD Go.Proofs.Tryz.func89 (by kernel_rfl) (by kernel_rfl) h _ _).trans (by kernel_rfl)
theorem zbA (E : ET) (h : E F.a26 = none) (x0 x1 x2 : Value) (H0 : Hp) : run PP orc E F.a26 [x0, x1, x2] H0 = zbC (run PP orc E) x0 x1 x2 H0 := (zaD Go.Proofs.Tryz.func90 (by kernel_rfl) (by kernel_rfl) h _ _).trans (rfl)
theorem zfO (E : ET) (h : E F.a47 = none) (x0 : Value) (H0 : Hp) : run PP orc E F.a47 [x0] H0 = zdt (run PP orc E) x0 H0 := (zaD Go.Proofs.Tryz.func93 (by kernel_rfl) (by kernel_rfl) h _ _).trans (by kernel_rfl)
theorem zb6 (E : ET) (h : E F.a37 = none) (x0 x1 : Value) (H0 : Hp) : run PP orc E F.a37 [x0, x1] H0 = zbl (run PP orc E) x0 x1 H0 := (zaD Go.Proofs.Tryz.func100 (by kernel_rfl) (by kernel_rfl) h _ _).trans (by kernel_rfl)
theorem zb7 (E : ET) (h : E F.a56 = none) (x0 x1 : Value) (H0 : Hp) : run PP orc E F.a56 [x0, x1] H0 = zbm (run PP orc E) x0 x1 H0 := (zaD Go.Proofs.Tryz.func104 (by kernel_rfl) (by kernel_rfl) h _ _).trans (by kernel_rfl)
theorem zdH (E : ET) (h : E F.a4 = none) (x0 : Value) (H0 : Hp) : run PP orc E F.a4 [x0] H0 = zbR (run PP orc E) x0 H0 := (zaD Go.Proofs.Tryz.func105 (by kernel_rfl) (by kernel_rfl) h _ _).trans (by kernel_rfl)
end Go.AM
namespace Go.AM
open Go
def ccB (i : Nat) (H : Hp) : Option AObj → Option (Value × Hp)
  | some (.cells [.pointer none, v] true) => if H.ty i = some T.strings_Builder then some (.tuple #[], H.set i (some (.cells [.pointer (some ⟨i, 0, none⟩), v] true))) else none
  | some (.cells [.pointer (some ⟨j, 0, none⟩), v] true) => if j = i ∧ H.ty i = some T.strings_Builder then some (.tuple #[], H) else none
  | _ => none
def extCC (l : List Value) (H : Hp) : Option (Value × Hp) :=
  match l with
  | [.pointer (some ⟨i, 0, none⟩)] => ccB i H (H.get i)
  | _ => none
def zlT : List Value → Option (List UInt8)
  | [] => some []
  | .int .u8 (.ofNat n) :: r => if n < 256 then (match zlT r with
    | some l => some (UInt8.ofNat n :: l)
    | none => none) else none
  | _ => none
def strB2 (i j n : Nat) (H : Hp) : Option AObj → Option (Value × Hp)
  | some (.cells cs true) => if H.ty i = some T.strings_Builder ∧ H.ty j = some T.uint8 ∧ 0 < n ∧ n ≤ cs.length ∧ n ≤ 2 ^ 60 then (match zlT (cs.take n) with
    | some l => some (.string ⟨l.toArray⟩, H.set j (some (.cells cs false)))
    | none => none) else none
  | _ => none
def strB (i : Nat) (H : Hp) : Option AObj → Option (Value × Hp)
  | some (.cells [_, .slice none 0 0] _) => if H.ty i = some T.strings_Builder then some (.string ⟨#[]⟩, H) else none
  | some (.cells [_, .slice (some ⟨j, 0, some 1⟩) n c] _) => strB2 i j n H (H.get j)
  | _ => none
def extStr (l : List Value) (H : Hp) : Option (Value × Hp) :=
  match l with
  | [.pointer (some ⟨i, 0, none⟩)] => strB i H (H.get i)
  | _ => none
theorem zgD : ∀ (cs : List Value) (l : List UInt8), zlT cs = some l → cs = l.map fun b => Value.int .u8 (b.toNat : Int)
  | [], l, h => by cases h; rfl
  | v :: r, l, h => by
    unfold zlT at h
    split at h
    · rename_i q; cases q
    · rename_i n r' q
      cases q
      split at h
      · rename_i hn
        split at h
        · rename_i l' hl
          cases h
          rw [List.map_cons, ← zgD _ _ hl]
          have : (UInt8.ofNat n).toNat = n := by simp [UInt8.toNat_ofNat]; omega
          rw [this]; rfl
        · cases h
      · cases h
    · cases h
theorem LRel.single {β : Bt} {a : Value} {l : List Value} (h : LRel β [a] l) : ∃ a', l = [a'] ∧ VRel β a a' := by
  obtain ⟨hl, hv⟩ := h
  match l, hl with
  | [x], _ => exact ⟨x, rfl, hv 0 _ _ rfl rfl⟩
theorem zld {w : World} {b : Nat} {arr : Array Value} {e : TypeId} {fz : Nat × Nat} (h : w.heap[b]? = some (.cells arr e fz)) : w.shape? b = some (e, arr.size) := by
  unfold World.shape?
  rw [h]
theorem zj3 (w : World) (b n : Nat) : (w.freeze ⟨b, 0, none⟩ n).heap.size = w.heap.size ∧ (∀ k, k ≠ b → (w.freeze ⟨b, 0, none⟩ n).heap[k]? = w.heap[k]?) ∧
    (∀ arr e fz, w.heap[b]? = some (.cells arr e fz) → ∃ fz', (w.freeze ⟨b, 0, none⟩ n).heap[b]? = some (.cells arr e fz')) ∧ (w.freeze ⟨b, 0, none⟩ n).os = w.os ∧ (w.freeze ⟨b, 0, none⟩ n).tape = w.tape ∧ (w.freeze ⟨b, 0, none⟩ n).output = w.output := by
  unfold World.freeze
  split
  · exact ⟨rfl, fun _ _ => rfl, fun arr e fz h => ⟨fz, h⟩, rfl, rfl, rfl⟩
  · refine ⟨by simp, fun k hk => ?_, fun arr e fz h => ?_, rfl, rfl, rfl⟩
    · simp only [Array.getElem?_modify]
      rw [if_neg (by omega)]
    · simp only [Array.getElem?_modify, if_true, h, Option.map_some]
      exact ⟨_, rfl⟩
theorem extCC_ok {args : List Value} {H : Hp} {v : Value} {H' : Hp} (he : extCC args H = some (v, H')) {args' : List Value} {w : World} {β : Bt} (hl : LRel β args args') (hR : Rel PP w H β) :
    Calls PP F.a68 args'.toArray w fun x w' => ∃ v' β', x = .returned v' ∧ Rel PP w' H' β' ∧ Ext w.heap.size w H β w' H' β' ∧ VRel β' v v' := by
  have key : ∀ (i : Nat) (p u : Value), H.get i = some (.cells [p, u] true) → H.ty i = some T.strings_Builder → ∀ x, β i = some x → x.s = 0 ∧ ∃ arr fz, w.heap[x.b]? = some (.cells arr T.strings_Builder fz) ∧ arr.size = x.t ∧ 2 ≤ arr.size ∧ (∀ j, j < x.t → ¬ (fz.1 ≤ j ∧ j < fz.2)) ∧
      ∃ p', w.cell? ⟨x.b, 0, none⟩ = some p' ∧ VRel β p p' := by
    intro i p u hg hty x hx
    obtain ⟨x', hx', h1, h2⟩ := hR.cells i _ true hg
    rw [hx] at hx'; cases hx'
    obtain ⟨⟨arr, e, fz, g1, g2, g3⟩, g4⟩ := h2 rfl
    obtain ⟨x2, arr2, fz2, hx2, hs0, g5, g6⟩ := hR.tys i _ hty
    rw [hx] at hx2; cases hx2
    rw [g1] at g5; cases g5
    obtain ⟨p', a1, a2⟩ := h1 0 p rfl
    rw [hs0] at a1 g4
    have g4 : 0 + 2 ≤ x.t := g4
    exact ⟨hs0, arr, fz, g1, g2, by omega, g3, p', a1, a2⟩
  unfold extCC at he
  split at he
  · rename_i i
    obtain ⟨a', rfl, ha⟩ := hl.single
    cases ha with
    | ptr _ _ x hx =>
    unfold ccB at he
    split at he
    · rename_i u hg
      split at he
      · rename_i hty
        cases he
        obtain ⟨hs0, arr, fz, g1, g2, g3, g4, p', c0, r0⟩ := key i _ _ hg hty x hx
        cases r0
        have hput := zg5 w x.b 0 (.pointer (some ⟨x.b, 0, none⟩)) arr _ fz g1 (by omega)
        have hfz : w.frozen? ⟨x.b, 0, none⟩ = false := zgA g1 (g4 0 (by omega))
        have hcall := cc_fresh x.b arr.size g3 w c0 (zld g1) hfz
        rw [hs0]
        refine hcall.mono fun e w' ⟨h1, h2⟩ => ?_
        subst h2
        have hv : LRel β [Value.pointer (some ⟨i, 0, none⟩)] [Value.pointer (some ⟨x.b, 0, none⟩)] := by
          have := VRel.ptr (β := β) i 0 x hx
          rw [hs0] at this
          exact LRel.cons this (LRel.nil _)
        obtain ⟨k1, k2⟩ := hR.write hg hx (off := 0) (vs := [Value.pointer (some ⟨i, 0, none⟩)]) (vs' := [Value.pointer (some ⟨x.b, 0, none⟩)]) (by simp) hv (by rw [hs0]; exact hput)
        exact ⟨_, β, h1, k1, k2, .tuple [] [] rfl (fun k v v' h => by cases h)⟩
      · cases he
    · rename_i j u hg
      split at he
      · rename_i hj
        cases he
        obtain ⟨rfl, hty⟩ := hj
        obtain ⟨hs0, arr, fz, g1, g2, g3, g4, p', c0, r0⟩ := key _ _ _ hg hty x hx
        cases r0 with
        | ptr _ _ y hy =>
        rw [hx] at hy; cases hy
        rw [hs0] at c0 ⊢
        refine (cc_used x.b w c0).mono fun e w' ⟨h1, h2⟩ => ?_
        subst h2
        exact ⟨_, β, h1, hR, Ext.refl _ _ _ _, .tuple [] [] rfl (fun k v v' h => by cases h)⟩
      · cases he
    · cases he
  · cases he
theorem extStr_ok {args : List Value} {H : Hp} {v : Value} {H' : Hp} (he : extStr args H = some (v, H')) {args' : List Value} {w : World} {β : Bt} (hl : LRel β args args') (hR : Rel PP w H β) :
    Calls PP F.a67 args'.toArray w fun x w' => ∃ v' β', x = .returned v' ∧ Rel PP w' H' β' ∧ Ext w.heap.size w H β w' H' β' ∧ VRel β' v v' := by
  have zero : ∀ i x, H.ty i = some T.strings_Builder → β i = some x → x.s = 0 := fun i x hty hx => by
    obtain ⟨x2, arr2, fz2, hx2, hs0, _⟩ := hR.tys i _ hty
    rw [hx] at hx2; cases hx2; exact hs0
  unfold extStr at he
  split at he
  · rename_i i
    obtain ⟨a', rfl, ha⟩ := hl.single
    cases ha with
    | ptr _ _ x hx =>
    unfold strB at he
    split at he
    · rename_i p own hg
      split at he
      · rename_i hty
        cases he
        have hs0 := zero i x hty hx
        obtain ⟨x', hx', h1, _⟩ := hR.cells i _ _ hg
        rw [hx] at hx'; cases hx'
        obtain ⟨v', c1, r1⟩ := h1 1 _ rfl
        cases r1
        rw [hs0] at c1 ⊢
        refine (str_nil x.b w c1).mono fun e w' ⟨g1, g2, g3, g4, g5⟩ => ?_
        have hw : ∀ b : Nat, w'.heap[b]? = w.heap[b]? := fun b => by rw [g2]
        exact ⟨_, β, g1, hR.frame (by rw [g2]; exact Nat.le_refl _) (fun _ _ _ => hw _), ⟨g3, g4, g5, by rw [g2]; exact Nat.le_refl _, Bt.le_refl _, Nat.le_refl _, fun b _ _ => hw b, fun b q => .inr q, fun i x hx hn => by rw [hn] at hx; cases hx⟩, .string _⟩
      · cases he
    · rename_i p j n c own hg
      unfold strB2 at he
      split at he
      · rename_i cs hgj
        split at he
        · rename_i hc
          obtain ⟨hty, htj, hn0, hn, hn60⟩ := hc
          split at he
          · rename_i l hb
            cases he
            have hs0 := zero i x hty hx
            obtain ⟨x', hx', h1, _⟩ := hR.cells i _ _ hg
            rw [hx] at hx'; cases hx'
            obtain ⟨v', c1, r1⟩ := h1 1 _ rfl
            cases r1 with
            | slice _ _ _ _ _ y o' c' hy hnc hcc ht hoo =>
            obtain ⟨y2, arr, fz, hy2, ys0, k1, k2⟩ := hR.tys j _ htj
            rw [hy] at hy2; cases hy2
            have ho' : o' = 0 := by have := hoo (by omega); omega
            subst ho'
            have hcl := zgD _ _ hb
            have hlen : l.length = n := by
              have := congrArg List.length hcl
              rw [List.length_take, List.length_map] at this
              omega
            obtain ⟨y3, hy3, m1, m2⟩ := hR.cells j _ _ hgj
            rw [hy] at hy3; cases hy3
            obtain ⟨_, m3⟩ := m2 rfl
            have hcell : ∀ q b, l[q]? = some b → w.cell? ((⟨y.b, 0, none⟩ : Addr).add q) = some (.int .u8 b.toNat) := fun q b hq => by
              have hq' : cs[q]? = some (.int .u8 (b.toNat : Int)) := by
                have e1 : (cs.take n)[q]? = some (Value.int .u8 (b.toNat : Int)) := by rw [hcl, List.getElem?_map, hq]; rfl
                rw [List.getElem?_take] at e1
                split at e1
                · exact e1
                · cases e1
              obtain ⟨v2, d1, d2⟩ := m1 q _ hq'
              cases d2
              have ea : (⟨y.b, 0, none⟩ : Addr).add q = ⟨y.b, y.s + q, none⟩ := by
                rw [ys0]; unfold Addr.add; split <;> simp_all
              rw [ea]; exact d1
            rw [hs0] at c1 ⊢
            rw [← hlen] at c1
            have hne : l ≠ [] := fun q => by rw [q] at hlen; simp at hlen; omega
            refine (str_row x.b y.b c' arr.size l hne (by omega) (by omega) (by omega) w c1 (zld k1) hcell).mono fun e w' ⟨g1, w0, g2, g3, g4, g5, g6⟩ => ?_
            subst g6
            obtain ⟨f1, f2, f3, f4, f5, f6⟩ := zj3 w0 y.b l.length
            obtain ⟨q1, q2⟩ := hR.freeze (w' := w0.freeze ⟨y.b, 0, none⟩ l.length) hgj hy (f4.trans g3) (f5.trans g4) (f6.trans g5) (by rw [f1, g2]) (fun k hk => by rw [f2 k hk, g2]) (fun arr e fz hh => f3 arr e fz (by rw [g2]; exact hh))
            exact ⟨_, β, g1, q1, q2, .string _⟩
          · cases he
        · cases he
      · cases he
    · cases he
  · cases he
end Go.AM
