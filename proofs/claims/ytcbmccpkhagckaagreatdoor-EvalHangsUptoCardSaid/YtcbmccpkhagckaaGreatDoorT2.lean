/- Part of the proof of EvalHangsUptoCardSaid: see the last file.  -/
import Derived.WalkKit
import Derived.ProofKit
import Derived.JoinedCond
import Derived.OpenShut
import Derived.Deep.DeepHandedRow
import Derived.Laws.Externs
import Derived.Lib.Bytealg
import Derived.KernelRfl
import Derived.Test.YtcbmccpkhagckaaGreatDoorProg
import Derived.Test.YtcbmccpkhagckaaGreatDoorT0
import Derived.Test.YtcbmccpkhagckaaGreatDoorT1
set_option linter.unusedSimpArgs false
set_option linter.unusedVariables false
set_option linter.unusedSectionVars false
set_option maxRecDepth 100000
namespace Go.AM
open Go
section
variable {C : Ctx} {ops : List Oper} {fr0 : Fr} {S0 : St} {an : List Nat}
theorem zkX (a b : Option Nat) : zcw a b = zcw b a := by
  cases a <;> cases b <;> first | rfl | skip
  rename_i x y
  show Nat.beq x y = Nat.beq y x
  rw [Bool.eq_iff_iff, Nat.beq_eq, Nat.beq_eq]
  exact ⟨Eq.symm, Eq.symm⟩
theorem zhk (fr : Fr) (d : Option Nat) (s : Slot) (t : Nat) : (putS fr d s)[t]? = if d = some t then (fr[t]?).map fun _ => s else fr[t]? := by
  cases d with
  | none => rfl
  | some d =>
    simp only [putS, List.getElem?_set, Option.some.injEq]
    by_cases h : d = t
    · subst h
      rw [if_pos rfl, if_pos rfl]
      split
      · rename_i hl; rw [List.getElem?_eq_getElem hl]; rfl
      · rename_i hl; rw [List.getElem?_eq_none (by omega)]; rfl
    · rw [if_neg h, if_neg h]
theorem getS_of {fr fr' : Fr} {t : Nat} (h : fr[t]? = fr'[t]?) : getS fr t = getS fr' t := by
  unfold getS; rw [List.getD_eq_getElem?_getD, List.getD_eq_getElem?_getD, h]
variable (C ops fr0 S0) in
def FD (L : Array Bool) : Nat → Fr
  | 0 => fr0
  | i + 1 => match L.getD i false with
    | true => match ops[i]? with
      | some o => putS (FD L i) o.dst (sl C ops fr0 S0 i)
      | none => FD L i
    | false => FD L i
theorem FD_slot {L : Array Bool} {t j : Nat} (hok : ∀ i o, i < j → ops[i]? = some o → ∃ b, OKi C ops fr0 S0 i o b) (hj : j ≤ ops.length)
    (h1 : ∀ i o, i < j → ops[i]? = some o → o.dst = some t → L.getD i false = true) (h2 : ∀ i o, j ≤ i → ops[i]? = some o → o.dst = some t → L.getD i false = false) :
    ∀ m, m ≤ ops.length → (FD C ops fr0 S0 L m)[t]? = ((stp C ops fr0 S0 (min m j)).1)[t]?
  | 0, _ => by rw [Nat.zero_min]; rfl
  | m + 1, hm => by
    have ih := FD_slot hok hj h1 h2 m (by omega)
    have hom : ∃ o, ops[m]? = some o := ⟨ops[m], by simp⟩
    obtain ⟨o, ho⟩ := hom
    unfold FD
    rcases Nat.lt_or_ge m j with q | q
    · obtain ⟨b, hb⟩ := hok m o q ho
      rw [Nat.min_eq_left q, hb.next, zhk]
      rw [Nat.min_eq_left (by omega)] at ih
      cases hL : L.getD m false with
      | true =>
        dsimp only
        rw [ho]
        dsimp only
        rw [zhk, ih]
      | false =>
        dsimp only
        rw [ih]
        split
        · rename_i hd; rw [h1 m o q ho hd] at hL; cases hL
        · rfl
    · rw [Nat.min_eq_right (by omega)]
      rw [Nat.min_eq_right q] at ih
      cases hL : L.getD m false with
      | true =>
        dsimp only
        rw [ho]
        dsimp only
        rw [zhk, ih]
        split
        · rename_i hd; rw [h2 m o q ho hd] at hL; cases hL
        · rfl
      | false => dsimp only; exact ih
theorem zeg {L : Array Bool} {j i : Nat} (hj : j < L.size) : (L.setIfInBounds j true).getD i false = if i = j then true else L.getD i false := by
  simp only [Array.getD_eq_getD_getElem?, Array.getElem?_setIfInBounds]
  by_cases h : j = i
  · subst h; rw [if_pos rfl, if_pos rfl, if_pos hj]; rfl
  · rw [if_neg h, if_neg (fun e => h e.symm)]
theorem FD_set {L : Array Bool} {j : Nat} {oj : Oper} (hoj : ops[j]? = some oj) (hjL : j < L.size) (hnj : L.getD j false = false)
    (h2 : ∀ i o, j < i → ops[i]? = some o → L.getD i false = true → ∀ d, oj.dst = some d → o.dst ≠ some d) :
    ∀ m, m ≤ ops.length → FD C ops fr0 S0 (L.setIfInBounds j true) m = if m ≤ j then FD C ops fr0 S0 L m else putS (FD C ops fr0 S0 L m) oj.dst (sl C ops fr0 S0 j)
  | 0, _ => by rw [if_pos (Nat.zero_le _)]; rfl
  | m + 1, hm => by
    have ih := FD_set hoj hjL hnj h2 m (by omega)
    unfold FD
    rw [zeg hjL]
    obtain ⟨o, ho⟩ : ∃ o, ops[m]? = some o := ⟨ops[m], by simp⟩
    rcases Nat.lt_trichotomy m j with q | q | q
    · rw [if_neg (by omega), if_pos (by omega)]
      rw [if_pos (by omega)] at ih
      rw [ih]
    · subst q
      rw [if_pos rfl, if_neg (by omega), hnj]
      rw [if_pos (Nat.le_refl _)] at ih
      rw [hoj]
      dsimp only
      rw [ih]
    · rw [if_neg (by omega), if_neg (by omega)]
      rw [if_neg (by omega)] at ih
      cases hL : L.getD m false with
      | false => dsimp only; exact ih
      | true =>
        dsimp only
        rw [ho]
        dsimp only
        rw [ih]
        apply List.ext_getElem?
        intro t
        simp only [zhk]
        have := h2 m o q ho hL
        by_cases e1 : o.dst = some t
        · by_cases e2 : oj.dst = some t
          · exact absurd e1 (this t e2)
          · rw [if_pos e1, if_neg e2, if_neg e2, if_pos e1]
        · rw [if_neg e1, if_neg e1]
variable (C ops fr0 S0) in
def Effw (i : Nat) : Prop := ∃ o, ops[i]? = some o ∧ Wd C ops fr0 S0 i o ∧ zbO C.P C.O C.f o = .eff
theorem ziO {n0 : Nat} (hok : ∀ j o, j < n0 → ops[j]? = some o → ∃ b, OKi C ops fr0 S0 j o b) (hn0 : n0 ≤ ops.length) {m : Nat} : ∀ m', m ≤ m' → m' ≤ n0 → (∀ i, m ≤ i → i < m' → ¬ Effw C ops fr0 S0 i) → (stp C ops fr0 S0 m').2 = (stp C ops fr0 S0 m).2 := by
  intro m' hm
  induction m' with
  | zero => intro _ _; have : m = 0 := by omega
            rw [this]
  | succ n ih =>
    intro hn h
    rcases Nat.lt_or_ge n m with q | q
    · have : m = n + 1 := by omega
      rw [this]
    · rw [← ih q (by omega) (fun i h1 h2 => h i h1 (by omega))]
      obtain ⟨o, ho⟩ : ∃ o, ops[n]? = some o := ⟨ops[n], by simp⟩
      obtain ⟨b, hb⟩ := hok n o (by omega) ho
      cases b with
      | false => exact (hb.no rfl).2
      | true =>
        have hk : zbO C.P C.O C.f o ≠ .eff := fun hk => h n q (Nat.lt_succ_self n) ⟨o, ho, hb.guard, hk⟩
        have hR := hb.yes rfl
        refine (zkn (S2 := (stp C ops fr0 S0 n).2) hR ?_).1
        cases hq : zbO C.P C.O C.f o with
        | pure => exact .inl rfl
        | read => exact .inr ⟨rfl, rfl⟩
        | eff => exact absurd hq hk
theorem read_any {n0 : Nat} (hok : ∀ j o, j < n0 → ops[j]? = some o → ∃ b, OKi C ops fr0 S0 j o b) (hn0 : n0 ≤ ops.length) (hchk : ∀ j o, j < n0 → ops[j]? = some o → Chk C ops fr0 S0 an j o)
    {j : Nat} (hj0 : j < n0) {o : Oper} (ho : ops[j]? = some o) (hb : OKi C ops fr0 S0 j o true) (hk : zbO C.P C.O C.f o = .read) :
    (∀ n, ∀ m, m + n = j → (∀ i, m ≤ i → i < j → Effw C ops fr0 S0 i → (an.getD j 0).testBit i = false) → opRD C (stp C ops fr0 S0 j).1 (stp C ops fr0 S0 m).2 o = some (sl C ops fr0 S0 j, (stp C ops fr0 S0 m).2)) ∧
    (∀ m, j ≤ m → m ≤ n0 → (∀ i, j < i → i < m → Effw C ops fr0 S0 i → (an.getD i 0).testBit j = false) → opRD C (stp C ops fr0 S0 j).1 (stp C ops fr0 S0 m).2 o = some (sl C ops fr0 S0 j, (stp C ops fr0 S0 m).2)) := by
  have h0 : opRD C (stp C ops fr0 S0 j).1 (stp C ops fr0 S0 j).2 o = some (sl C ops fr0 S0 j, (stp C ops fr0 S0 j).2) := (zkn (hb.yes rfl) (.inr ⟨hk, rfl⟩)).2
  have hjl := (List.getElem?_eq_some_iff.1 ho).1
  refine ⟨fun n => ?_, fun m => ?_⟩
  · induction n with
    | zero => intro m hm _; have : m = j := by omega
              rw [this]; exact h0
    | succ n ih =>
      intro m hm hno
      have h1 := ih (m + 1) (by omega) (fun i h1 h2 => hno i (by omega) h2)
      obtain ⟨om, hom⟩ : ∃ om, ops[m]? = some om := ⟨ops[m], by simp⟩
      by_cases hw : Wd C ops fr0 S0 m om ∧ zbO C.P C.O C.f om = .eff
      · have hbit := hno m (Nat.le_refl _) (by omega) ⟨om, hom, hw.1, hw.2⟩
        cases ht : zcw (zby C (stp C ops fr0 S0 m).1 om) (zby C (stp C ops fr0 S0 j).1 o) with
        | true => exact (hchk j o hj0 ho).1 hb.guard hk m om (by omega) hom hw.1 hw.2 hbit ht
        | false =>
          obtain ⟨b, hbm⟩ := hok m om (by omega) hom
          have hbt : b = true := by have := hbm.guard; rw [hw.1] at this; cases this; rfl
          subst hbt
          have htag := zn5 (hbm.yes rfl) hw.2
          have hst : zcw (zby C (stp C ops fr0 S0 j).1 o) (zby C (stp C ops fr0 S0 m).1 om) = false := by rw [zkX]; exact ht
          have := htag.other hst
          refine zgs h1 hk ?_
          unfold zkY at this ⊢
          split at this
          · exact this.symm
          · exact this.symm
      · have hT : (stp C ops fr0 S0 (m + 1)).2 = (stp C ops fr0 S0 m).2 := ziO hok hn0 (m + 1) (by omega) (by omega) (fun i h1 h2 he => by
          have : i = m := by omega
          subst this
          obtain ⟨o', ho', hw1, hw2⟩ := he
          rw [hom] at ho'; cases ho'
          exact hw ⟨hw1, hw2⟩)
        rw [hT] at h1; exact h1
  · induction m with
    | zero => intro hm _ _; have : j = 0 := by omega
              subst this; exact h0
    | succ m ih =>
      intro hm hml hno
      rcases Nat.lt_or_ge m j with q | q
      · have : m + 1 = j := by omega
        rw [this]; exact h0
      · have h1 := ih q (by omega) (fun i h1 h2 => hno i h1 (by omega))
        obtain ⟨om, hom⟩ : ∃ om, ops[m]? = some om := ⟨ops[m], by simp⟩
        by_cases hw : Wd C ops fr0 S0 m om ∧ zbO C.P C.O C.f om = .eff
        · have hjm : j < m := by
            rcases Nat.lt_or_ge j m with q' | q'
            · exact q'
            · have : m = j := by omega
              subst this
              rw [ho] at hom; cases hom
              rw [hk] at hw; cases hw.2
          have hbit := hno m hjm (Nat.lt_succ_self m) ⟨om, hom, hw.1, hw.2⟩
          cases ht : zcw (zby C (stp C ops fr0 S0 j).1 o) (zby C (stp C ops fr0 S0 m).1 om) with
          | true => exact (hchk m om (by omega) hom).2 hw.1 hw.2 j o hjm ho hb.guard hk hbit ht
          | false =>
            obtain ⟨b, hbm⟩ := hok m om (by omega) hom
            have hbt : b = true := by have := hbm.guard; rw [hw.1] at this; cases this; rfl
            subst hbt
            exact zgs h1 hk ((zn5 (hbm.yes rfl) hw.2).other ht)
        · have hT : (stp C ops fr0 S0 (m + 1)).2 = (stp C ops fr0 S0 m).2 := ziO hok hn0 (m + 1) (by omega) (by omega) (fun i h1 h2 he => by
            have : i = m := by omega
            subst this
            obtain ⟨o', ho', hw1, hw2⟩ := he
            rw [hom] at ho'; cases ho'
            exact hw ⟨hw1, hw2⟩)
          rw [hT]; exact h1
end
section
variable {C : Ctx} {ops : List Oper} {α : Type}
theorem LA_inv {o : Oper} (h : isLA C.O C.f o = true) : ∃ T d, o.guard = none ∧ o.op = .alloc T ∧ o.dst = some d ∧ (C.O.loc C.f).elem d = true := by
  unfold isLA at h
  split at h
  · rename_i T d h1 h2 h3; exact ⟨T, d, h1, h2, h3, h⟩
  · cases h
theorem LA_step {o : Oper} (h : isLA C.O C.f o = true) {S : St} {k : Slot → St → Option α} {r : α} (hk : opC C [] S o k = some r) :
    ∃ d c, o.dst = some d ∧ S.bx d = none ∧ k (.loc d 0) (S.setB d (some c)) = some r ∧ ∀ fr S2, S2.bx d = none → opR C fr S2 o = some (.loc d 0, S2.setB d (some c)) := by
  obtain ⟨T, d, h1, h2, h3, h4⟩ := LA_inv h
  unfold opC at hk
  rw [h2] at hk
  dsimp only at hk
  unfold zfk at hk
  rcases hi : C.P.info? T with _ | i
  · rw [hi] at hk; cases hk
  · rw [hi] at hk
    dsimp only at hk
    rcases hz : i.zero with _ | z
    · rw [hz] at hk; cases hk
    · rw [hz] at hk
      dsimp only at hk
      cases hc : zcU z with
      | false => rw [hc] at hk; cases hk
      | true =>
        rw [hc] at hk
        dsimp only at hk
        cases ha : (zab z).all one with
        | false => rw [ha] at hk; cases hk
        | true =>
          rw [ha] at hk
          dsimp only at hk
          unfold zcJ at hk
          rw [h3] at hk
          dsimp only at hk
          rw [h4] at hk
          dsimp only at hk
          rcases hb : S.bx d with _ | b
          · rw [hb] at hk
            refine ⟨d, .cells (zab z) false, h3, hb, hk, fun fr S2 h5 => ?_⟩
            unfold opR opC
            rw [h2]
            dsimp only
            unfold zfk
            rw [hi]
            dsimp only
            rw [hz]
            dsimp only
            rw [hc]
            dsimp only
            rw [ha]
            dsimp only
            unfold zcJ
            rw [h3]
            dsimp only
            rw [h4]
            dsimp only
            rw [h5]
          · rw [hb] at hk; cases hk
theorem ziq {k : St → Option α} {r : α} : ∀ (l : List Oper) (S : St), zg1 C k l S = some r → ∃ S0, k S0 = some r ∧ S0.hp = S.hp ∧ (∀ d, (∀ o ∈ l, isLA C.O C.f o = true → o.dst ≠ some d) → S0.bx d = S.bx d) ∧
    (∀ o ∈ l, isLA C.O C.f o = true → ∃ d c, o.dst = some d ∧ S.bx d = none ∧ S0.bx d = some c ∧ ∀ fr S2, S2.bx d = none → opR C fr S2 o = some (.loc d 0, S2.setB d (some c))) ∧
    (∀ (i j : Nat) oi oj, l[i]? = some oi → l[j]? = some oj → isLA C.O C.f oi = true → isLA C.O C.f oj = true → oi.dst = oj.dst → i = j)
  | [], S, h => ⟨S, h, rfl, fun _ _ => rfl, fun o ho => absurd ho List.not_mem_nil, fun i j oi oj h1 => absurd h1 (by simp)⟩
  | o :: l, S, h => by
    unfold zg1 at h
    cases hl : isLA C.O C.f o with
    | false =>
      rw [hl] at h
      obtain ⟨S0, h1, h2, h3, h4, h5⟩ := ziq l S h
      refine ⟨S0, h1, h2, fun d hd => h3 d fun o' ho' => hd o' (List.mem_cons_of_mem _ ho'), fun o' ho' hl' => ?_, fun i j oi oj hi hj li lj hd => ?_⟩
      · rcases List.mem_cons.1 ho' with rfl | ho'
        · rw [hl] at hl'; cases hl'
        · exact h4 o' ho' hl'
      · cases i with
        | zero => simp at hi; subst hi; rw [hl] at li; cases li
        | succ i => cases j with
          | zero => simp at hj; subst hj; rw [hl] at lj; cases lj
          | succ j => exact congrArg (· + 1) (h5 i j oi oj (by simpa using hi) (by simpa using hj) li lj hd)
    | true =>
      rw [hl] at h
      obtain ⟨d, c, e1, e2, e3, e4⟩ := LA_step hl h
      obtain ⟨S0, h1, h2, h3, h4, h5⟩ := ziq l _ e3
      have hne : ∀ o' ∈ l, isLA C.O C.f o' = true → o'.dst ≠ some d := fun o' ho' hl' hd => by
        obtain ⟨d', c', q1, q2, _⟩ := h4 o' ho' hl'
        rw [hd] at q1; cases q1
        rw [St.setB_same] at q2; cases q2
      refine ⟨S0, h1, h2, fun d' hd' => ?_, fun o' ho' hl' => ?_, fun i j oi oj hi hj li lj hd => ?_⟩
      · rw [h3 d' fun o' ho' => hd' o' (List.mem_cons_of_mem _ ho')]
        exact St.setB_ne _ _ fun q => hd' o (List.mem_cons_self ..) hl (by rw [e1, q])
      · rcases List.mem_cons.1 ho' with rfl | ho'
        · refine ⟨d, c, e1, e2, ?_, e4⟩
          rw [h3 d hne, St.setB_same]
        · obtain ⟨d', c', q1, q2, q3, q4⟩ := h4 o' ho' hl'
          refine ⟨d', c', q1, ?_, q3, q4⟩
          rw [St.setB_ne _ _ (fun q => hne o' ho' hl' (by rw [q1, q]))] at q2
          exact q2
      · cases i with
        | zero =>
          simp at hi
          subst hi
          cases j with
          | zero => rfl
          | succ j => exact absurd (hd.symm.trans e1) (hne oj (List.mem_of_getElem? (by simpa using hj)) lj)
        | succ i => cases j with
          | zero =>
            simp at hj
            subst hj
            exact absurd (hd.trans e1) (hne oi (List.mem_of_getElem? (by simpa using hi)) li)
          | succ j => exact congrArg (· + 1) (h5 i j oi oj (by simpa using hi) (by simpa using hj) li lj hd)
variable (C ops) in
def Due (L : Array Bool) (d : Nat) : Prop := ∃ (j : Nat) (o : Oper), ops[j]? = some o ∧ isLA C.O C.f o = true ∧ o.dst = some d ∧ L.getD j false = false
open Classical in
variable (C ops) in
noncomputable def rst (L : Array Bool) (S : St) : St := ⟨fun d => if Due C ops L d then none else S.bx d, S.hp⟩
open Classical in
theorem zcR {L : Array Bool} {S : St} {d : Nat} (h : Due C ops L d) : (rst C ops L S).bx d = none := by
  show (if Due C ops L d then none else S.bx d) = none
  rw [if_pos h]
open Classical in
theorem zdf {L : Array Bool} {S : St} {d : Nat} (h : ¬ Due C ops L d) : (rst C ops L S).bx d = S.bx d := by
  show (if Due C ops L d then none else S.bx d) = _
  rw [if_neg h]
theorem St.ext' {S S' : St} (h1 : ∀ d, S.bx d = S'.bx d) (h2 : S.hp = S'.hp) : S = S' := by
  cases S; cases S'
  simp only [St.mk.injEq]
  exact ⟨funext h1, h2⟩
theorem rst_all {L : Array Bool} {S : St} (h : ∀ i, i < ops.length → L.getD i false = true) : rst C ops L S = S :=
  St.ext' (fun d => zdf fun ⟨j, o, h1, _, _, h4⟩ => by rw [h j (List.getElem?_eq_some_iff.1 h1).1] at h4; cases h4) rfl
theorem zmU {L : Array Bool} {j : Nat} {oj : Oper} (hoj : ops[j]? = some oj) (hjL : j < L.size) {e : Nat} (hd : isLA C.O C.f oj = false ∨ oj.dst ≠ some e) : Due C ops (L.setIfInBounds j true) e ↔ Due C ops L e := by
  constructor
  · rintro ⟨i, o, h1, h2, h3, h4⟩
    rw [zeg hjL] at h4
    split at h4
    · cases h4
    · exact ⟨i, o, h1, h2, h3, h4⟩
  · rintro ⟨i, o, h1, h2, h3, h4⟩
    refine ⟨i, o, h1, h2, h3, ?_⟩
    rw [zeg hjL, if_neg (fun q => by
      subst q
      rw [hoj] at h1; cases h1
      rcases hd with hd | hd
      · rw [hd] at h2; cases h2
      · exact hd h3)]
    exact h4
theorem zj9 {L : Array Bool} {j : Nat} {oj : Oper} (hoj : ops[j]? = some oj) (hjL : j < L.size) (hl : isLA C.O C.f oj = false) (S : St) : rst C ops (L.setIfInBounds j true) S = rst C ops L S := by
  refine St.ext' (fun d => ?_) rfl
  by_cases h : Due C ops L d
  · rw [zcR h, zcR ((zmU hoj hjL (.inl hl)).2 h)]
  · rw [zdf h, zdf fun q => h ((zmU hoj hjL (.inl hl)).1 q)]
theorem tag_loc {fr : Fr} {o : Oper} {d : Nat} (h : zby C fr o = some d) : (∃ x off, ev C.P.globals.size fr x = .loc d off) ∨ ∀ S r, opR C fr S o = some r → S.bx d = none := by
  unfold zby at h
  split at h
  · rename_i T x hop
    split at h
    · rename_i e off he
      cases h; exact .inl ⟨x, off, he⟩
    · cases h
  · rename_i T x y hop
    split at h
    · rename_i e off he
      cases h; exact .inl ⟨x, off, he⟩
    · cases h
  · rename_i T hop
    right
    intro S r hr
    split at h
    · rename_i e hd
      split at h
      · rename_i he
        cases h
        cases hb : S.bx d with
        | none => rfl
        | some b =>
          unfold opR opC at hr
          rw [hop] at hr
          dsimp only at hr
          unfold zcJ zfk at hr
          rw [hd] at hr
          dsimp only at hr
          rw [he, hb] at hr
          dsimp only at hr
          repeat' split at hr
          all_goals cases hr
      · cases h
    · cases h
  · rename_i T x hop
    right
    intro S r hr
    split at h
    · rename_i e hd
      split at h
      · rename_i he
        cases h
        cases hb : S.bx d with
        | none => rfl
        | some b =>
          unfold opR opC at hr
          rw [hop] at hr
          dsimp only at hr
          unfold zcJ sV at hr
          rw [hd] at hr
          dsimp only at hr
          rw [he, hb] at hr
          dsimp only at hr
          repeat' split at hr
          all_goals cases hr
      · cases h
    · cases h
  · rename_i T x hop
    right
    intro S r hr
    cases hb : S.bx d with
    | none => rfl
    | some b =>
      unfold opR opC at hr
      rw [hop] at hr
      dsimp only at hr
      unfold sV at hr
      rw [h] at hr
      split at hr
      · split at hr
        · rename_i q; cases q
          rw [hb] at hr; cases hr
        · cases hr
      · cases hr
  · rename_i x b hop
    split at h
    · rename_i e off he
      cases h; exact .inl ⟨x, off, he⟩
    · cases h
  · cases h
theorem LA_guard {o : Oper} (h : isLA C.O C.f o = true) (fr : Fr) : zcZ ops fr o = some true := by
  obtain ⟨T, d, h1, _⟩ := LA_inv h
  unfold zcZ zdH
  rw [h1]
end
theorem opX_congr {C : Ctx} {fr fr' : Fr} {S S' : St} {o : Oper} (h : ∀ x ∈ o.op.operands, ev C.P.globals.size fr x = ev C.P.globals.size fr' x) (hp : S.hp = S'.hp) : opX C fr S o = opX C fr' S' o := by
  unfold opX opW
  rw [hp]
  split
  · rename_i c ho
    split
    · rename_i g hc
      rw [ho] at h
      exact zcP _ _ fun x hx => h x (by simp [Op.operands, Call.operands, hc]; exact .inr (by simpa using hx))
    · rfl
  · rename_i x ho
    rw [ho] at h
    rw [h x (by simp [Op.operands])]
  · rfl
theorem zmV {P : Program} (O : Orc) (h : zad) (f : FuncId) (hh : SimC P O h) : zm6 ⟨P, O, h, f⟩ := by
  intro α w0 H0 β0 r ops kp k Q W S1 a1 β1 l1 hord hW hk hkp fr0 Sb a w β lam hrun hG hM
  generalize hC : (⟨P, O, h, f⟩ : Ctx) = C at *
  have hhC : SimC C.P C.O C.h := by rw [← hC]; exact hh
  clear hC hh
  obtain ⟨S0, hrun, hhp, hoth, hla, huniq⟩ := ziq _ _ hrun
  have hla' : ∀ (j : Nat) o d, ops[j]? = some o → isLA C.O C.f o = true → o.dst = some d → ∃ c, Sb.bx d = none ∧ S0.bx d = some c ∧ ∀ fr S2, S2.bx d = none → opR C fr S2 o = some (.loc d 0, S2.setB d (some c)) := fun j o d h1 h2 h3 => by
    obtain ⟨d', c, q1, q2, q3, q4⟩ := hla o (List.mem_of_getElem? h1) h2
    rw [h3] at q1; cases q1
    exact ⟨c, q2, q3, q4⟩
  obtain ⟨n0, hall, hend⟩ := ziB (C := C) (ops := ops) (fr0 := fr0) (S0 := S0) (an := ancs ops) ops 0 [] [] rfl hrun (fun l o' hl => by omega) (fun l o' hl => by omega) (fun q hq => by cases hq)
  have hn0 : n0 ≤ ops.length := by
    rcases hend with ⟨h1, _⟩ | ⟨o, x, H, h1⟩
    · omega
    · exact Nat.le_of_lt (List.getElem?_eq_some_iff.1 h1.at_).1
  have hok : ∀ j o, j < n0 → ops[j]? = some o → ∃ b, OKi C ops fr0 S0 j o b := fun j o hj ho => (hall j o (Nat.zero_le _) hj ho).1
  have hchk : ∀ j o, j < n0 → ops[j]? = some o → Chk C ops fr0 S0 (ancs ops) j o := fun j o hj ho => (hall j o (Nat.zero_le _) hj ho).2
  have fin : ∀ (L : Array Bool) (a : Act) (w : World) (β : Bt) (lam : Nat → Nat) (m : Nat), (∀ i, L.getD i false = true → i < n0) → (∀ i, i < ops.length → L.getD i false = true) → m ≤ n0 → (∀ i, m ≤ i → Effw C ops fr0 S0 i → L.getD i false = false) →
      Good C.P w0 H0 β0 (FD C ops fr0 S0 L ops.length) (rst C ops L (stp C ops fr0 S0 m).2) a w β lam → zbN W S1 a1 β1 l1 (rst C ops L (stp C ops fr0 S0 m).2) a β lam → Q .normal a w := by
    intro L a w β lam m hL0 hL hm hm2 hG hM
    have hne : n0 = ops.length := by
      rcases Nat.lt_or_ge n0 ops.length with q | q
      · exact absurd (hL0 n0 (hL n0 q)) (Nat.lt_irrefl _)
      · omega
    have hend : k (stp C ops fr0 S0 ops.length).1 (stp C ops fr0 S0 ops.length).2 = some r := by
      rcases hend with ⟨_, h1⟩ | ⟨o, x, H, h1⟩
      · exact h1
      · have := (List.getElem?_eq_some_iff.1 h1.at_).1
        omega
    rw [hne] at hm
    rw [rst_all hL] at hG hM
    have hF : ∀ q, q ≤ ops.length → FD C ops fr0 S0 L q = (stp C ops fr0 S0 q).1 := by
      intro q
      induction q with
      | zero => intro _; rfl
      | succ q ih =>
        intro hq
        obtain ⟨o, ho⟩ : ∃ o, ops[q]? = some o := ⟨ops[q], by simp⟩
        obtain ⟨b, hb⟩ := hok q o (by omega) ho
        unfold FD
        rw [hL q (by omega)]
        dsimp only
        rw [ho]
        dsimp only
        rw [ih (by omega), hb.next]
    have hT : (stp C ops fr0 S0 ops.length).2 = (stp C ops fr0 S0 m).2 := ziO hok hn0 _ hm (by omega) (fun i h1 h2 he => by
      have := hm2 i h1 he
      rw [hL i h2] at this; cases this)
    rw [hF _ (Nat.le_refl _)] at hG
    rw [← hT] at hG hM
    exact hk _ _ a w β lam hend hG hM
  have full : ∀ (L : Array Bool), L.size = ops.length → Region.ready .any ops.toArray L = [] → ∀ i, i < ops.length → L.getD i false = true := by
    intro L hs hr i
    induction i using Nat.strongRecOn with
    | _ i ih =>
      intro hi
      cases hL : L.getD i false with
      | true => rfl
      | false =>
        exfalso
        have : i ∈ Region.ready .any ops.toArray L := by
          refine mem_ready.2 ⟨?_, ops[i], by simp [hi], fun e he hb => ?_⟩
          · rw [Array.getD_eq_getD_getElem?] at hL ⊢
            rw [Array.getElem?_eq_getElem (by omega)] at hL ⊢
            exact hL
          · have hlt := zkx hord (j := i) (o := ops[i]) (by simp) e he hb
            exact ih e.on hlt (by omega)
        rw [hr] at this; cases this
  have main : ∀ (fuel : Nat) (L : Array Bool) (a : Act) (w : World) (β : Bt) (lam : Nat → Nat) (U : List Nat) (m : Nat), L.size = ops.length → U.length = fuel → (∀ i, i < ops.length → L.getD i false = false → i ∈ U) →
      (∀ i o, L.getD i false = true → ops[i]? = some o → ∀ e ∈ o.after, Region.binds .any e = true → L.getD e.on false = true) →
      (∀ i, L.getD i false = true → i < n0) → m ≤ n0 → (∀ i, i < m → Effw C ops fr0 S0 i → L.getD i false = true) → (∀ i, m ≤ i → Effw C ops fr0 S0 i → L.getD i false = false) →
      (∀ (i : Nat) o d, ops[i]? = some o → isLA C.O C.f o = true → o.dst = some d → L.getD i false = false → (stp C ops fr0 S0 m).2.bx d = S0.bx d) →
      Good C.P w0 H0 β0 (FD C ops fr0 S0 L ops.length) (rst C ops L (stp C ops fr0 S0 m).2) a w β lam → zbN W S1 a1 β1 l1 (rst C ops L (stp C ops fr0 S0 m).2) a β lam →
      wpAny C.P .any ops.toArray Q fuel L a w := by
    intro fuel
    induction fuel with
    | zero =>
      intro L a w β lam U m hs hU hUm hcl hL0 hm hm1 hm2 hI hG hM
      have hU0 : U = [] := List.length_eq_zero_iff.1 hU
      subst hU0
      have hL : ∀ i, i < ops.length → L.getD i false = true := fun i hi => by
        cases hq : L.getD i false with
        | true => rfl
        | false => exact absurd (hUm i hi hq) (by simp)
      refine ⟨?_, fin L a w β lam m hL0 hL hm hm2 hG hM⟩
      cases hr : Region.ready .any ops.toArray L with
      | nil => rfl
      | cons j js =>
        obtain ⟨h1, o, h2, _⟩ := mem_ready.1 (show j ∈ Region.ready .any ops.toArray L by rw [hr]; exact List.mem_cons_self ..)
        have hj : j < ops.length := by have := (Array.getElem?_eq_some_iff.1 h2).1; simpa using this
        have h3 := hL j hj
        rw [Array.getD_eq_getD_getElem?, Array.getElem?_eq_getElem (by omega)] at h1 h3
        simp only [Option.getD_some] at h1 h3
        rw [h1] at h3; cases h3
    | succ fuel ih =>
      intro L a w β lam U m hs hU hUm hcl hL0 hm hm1 hm2 hI hG hM
      refine ⟨fun hr => fin L a w β lam m hL0 (full L hs hr) hm hm2 hG hM, fun j hj => ?_⟩
      obtain ⟨hnj, o, ho, he⟩ := mem_ready.1 hj
      have ho : ops[j]? = some o := by simpa using ho
      have hjn := (List.getElem?_eq_some_iff.1 ho).1
      have hjL : j < L.size := by omega
      have hnj' : L.getD j false = false := by
        rw [Array.getD_eq_getD_getElem?, Array.getElem?_eq_getElem hjL] at hnj ⊢
        exact hnj
      have hanc : ∀ l, ((ancs ops).getD j 0).testBit l = true → L.getD l false = true := anc_in (D := fun i => L.getD i false = true) hcl j o ho he
      have hdesc : ∀ i oi, ops[i]? = some oi → L.getD i false = true → ((ancs ops).getD i 0).testBit j = true → False := fun i oi hoi hi hbit => by
        have := anc_in (D := fun i => L.getD i false = true) hcl i oi hoi (hcl i oi hi hoi) j hbit
        have this : L.getD j false = true := this
        rw [hnj'] at this; cases this
      have hj0 : j ≤ n0 := by
        rcases Nat.lt_or_ge n0 j with q | q
        · exfalso
          rcases hend with ⟨h1, _⟩ | ⟨o1, x, H, h1⟩
          · omega
          · have h2 := h1.last
            unfold znQ at h2
            have h3 := List.all_eq_true.1 h2 j (List.mem_range.2 hjn)
            rw [Bool.or_eq_true, Nat.ble_eq] at h3
            rcases h3 with h3 | h3
            · omega
            · exact absurd (hL0 n0 (hanc n0 h3)) (Nat.lt_irrefl _)
        · exact q
      have hslot : ∀ t ∈ zcQ ops o, getS (FD C ops fr0 S0 L ops.length) t = getS (stp C ops fr0 S0 j).1 t := by
        intro t ht
        have := FD_slot (L := L) (t := t) (j := j) (fun i o hi => hok i o (by omega)) (Nat.le_of_lt hjn) (fun i oi hij hoi hd => by
          rcases zcN hord hij hoi ho with q | q
          · exact hanc i q
          · exact absurd ht ((zfH q.1).1 t hd).1) (fun i oi hij hoi hd => by
          cases hL : L.getD i false with
          | false => rfl
          | true =>
            rcases Nat.lt_or_ge j i with q | q
            · rcases zcN hord q ho hoi with q' | q'
              · exact (hdesc i oi hoi hL q').elim
              · exact absurd ht ((zfH q'.1).2 t hd)
            · have : i = j := by omega
              subst this; rw [hnj'] at hL; cases hL) ops.length (Nat.le_refl _)
        rw [Nat.min_eq_right (Nat.le_of_lt hjn)] at this
        exact getS_of this
      rcases Nat.eq_or_lt_of_le hj0 with hj0 | hj0
      · subst hj0
        rcases hend with ⟨h1, _⟩ | ⟨o1, x, H, h1⟩
        · omega
        have h2 := h1.at_
        rw [ho] at h2
        cases h2
        have hgd : zcZ ops (FD C ops fr0 S0 L ops.length) o = some true := by rw [zg2 hslot]; exact h1.guard
        have hwant : Region.wanted o (yielded ops.toArray a.tmps) = true := by
          obtain ⟨b', fr', e1, _, e2⟩ := zfC hgd hG.fr
          cases e1; exact e2
        unfold wpOp
        simp only [List.getElem?_toArray, ho, hwant, if_true]
        have hno : ∀ i, m ≤ i → i < j → ¬ Effw C ops fr0 S0 i := fun i h1' h2' hei => by
          have h3 := hm2 i h1' hei
          obtain ⟨oi, hoi, hw, hk'⟩ := hei
          rcases zcN hord h2' hoi ho with q | q
          · rw [hanc i q] at h3; cases h3
          · exact q.2 ⟨hk', (zkj h1.op).2⟩
        have hT := ziO hok hn0 j hm (Nat.le_refl _) hno
        have hX := h1.run
        have hX : opX C (FD C ops fr0 S0 L ops.length) (rst C ops L (stp C ops fr0 S0 m).2) o = some (x, H) := by
          rw [← hX, hT]
          exact opX_congr (zn1 hslot) rfl
        refine .inl (zlm hhC hG.n hX h1.op hG.rel hG.fr (fun x1 H1 w' β' x' g1 g2 g3 g4 g5 => ?_) fun s S' w' v' β' lam' g1 => (by cases g1))
        cases g1
        exact hkp h1.pan x _ ⟨(rst C ops L (stp C ops fr0 S0 m).2).bx, H⟩ a w' β' lam x' h1.kp ⟨g2, g3, hG.ext.trans g5⟩ ⟨hM.tmps, hM.size, Bt.le_trans hM.le g5.le, hM.dfr⟩ g4
      obtain ⟨b, hb⟩ := hok j o hj0 ho
      have hwant : Region.wanted o (yielded ops.toArray a.tmps) = b := by
        have hg : zcZ ops (FD C ops fr0 S0 L ops.length) o = some b := by rw [zg2 hslot]; exact hb.guard
        obtain ⟨b', fr', e1, _, e2⟩ := zfC hg hG.fr
        cases e1; exact e2
      have hset : FD C ops fr0 S0 (L.setIfInBounds j true) ops.length = putS (FD C ops fr0 S0 L ops.length) o.dst (sl C ops fr0 S0 j) := by
        rw [FD_set ho hjL hnj' (fun i oi hij hoi hL d hd => by
          rcases zcN hord hij ho hoi with q | q
          · exact (hdesc i oi hoi hL q).elim
          · exact ((zfH q.1).1 d hd).2) ops.length (Nat.le_refl _), if_neg (by omega)]
      have hmono : ∀ x, L.getD x false = true → (L.setIfInBounds j true).getD x false = true := fun x hx => by
        rw [zeg hjL]; split
        · rfl
        · exact hx
      have hjj : (L.setIfInBounds j true).getD j false = true := by rw [zeg hjL, if_pos rfl]
      have hne : ∀ x, x ≠ j → (L.setIfInBounds j true).getD x false = L.getD x false := fun x hx => by rw [zeg hjL, if_neg hx]
      have hjU : j ∈ U := hUm j hjn hnj'
      have hWo := hW o (List.mem_of_getElem? ho)
      have hIj : ∀ m', (∀ (i : Nat) o d, ops[i]? = some o → isLA C.O C.f o = true → o.dst = some d → L.getD i false = false → (stp C ops fr0 S0 m').2.bx d = S0.bx d) →
          ∀ (i : Nat) o d, ops[i]? = some o → isLA C.O C.f o = true → o.dst = some d → (L.setIfInBounds j true).getD i false = false → (stp C ops fr0 S0 m').2.bx d = S0.bx d := fun m' h i o' d h1 h2 h3 h4 => by
        rw [zeg hjL] at h4
        split at h4
        · cases h4
        · exact h i o' d h1 h2 h3 h4
      have next : ∀ (a' : Act) (w' : World) (β' : Bt) (lam' : Nat → Nat) (m' : Nat), m' ≤ n0 → (∀ i, i < m' → Effw C ops fr0 S0 i → (L.setIfInBounds j true).getD i false = true) → (∀ i, m' ≤ i → Effw C ops fr0 S0 i → (L.setIfInBounds j true).getD i false = false) →
          (∀ (i : Nat) o d, ops[i]? = some o → isLA C.O C.f o = true → o.dst = some d → (L.setIfInBounds j true).getD i false = false → (stp C ops fr0 S0 m').2.bx d = S0.bx d) →
          Good C.P w0 H0 β0 (putS (FD C ops fr0 S0 L ops.length) o.dst (sl C ops fr0 S0 j)) (rst C ops (L.setIfInBounds j true) (stp C ops fr0 S0 m').2) a' w' β' lam' → zbN W S1 a1 β1 l1 (rst C ops (L.setIfInBounds j true) (stp C ops fr0 S0 m').2) a' β' lam' → wpAny C.P .any ops.toArray Q fuel (L.setIfInBounds j true) a' w' := by
        intro a' w' β' lam' m' q1 q2 q3 q0 q4 q5
        refine ih (L.setIfInBounds j true) a' w' β' lam' (U.erase j) m' (by simpa using hs) (by rw [List.length_erase_of_mem hjU, hU]; rfl) (fun i hi hLi => ?_) (fun i oi hLi hoi e hem hbd => ?_) (fun i hi => ?_) q1 q2 q3 q0 (by rw [hset]; exact q4) q5
        · have hij : i ≠ j := fun q => by subst q; rw [hjj] at hLi; cases hLi
          rw [hne i hij] at hLi
          exact (List.mem_erase_of_ne hij).2 (hUm i hi hLi)
        · by_cases hij : i = j
          · subst hij
            rw [ho] at hoi; cases hoi
            exact hmono _ (he e hem hbd)
          · rw [hne i hij] at hLi
            exact hmono _ (hcl i oi hLi hoi e hem hbd)
        · by_cases hij : i = j
          · rw [hij]; exact hj0
          · rw [hne i hij] at hi
            exact hL0 i hi
      unfold wpOp
      simp only [List.getElem?_toArray, ho, hwant]
      cases b with
      | false =>
        simp only [Bool.false_eq_true, if_false]
        have hnoteff : ∀ i, Effw C ops fr0 S0 i → i ≠ j := fun i ⟨oi, hoi, hw, _⟩ q => by
          subst q; rw [ho] at hoi; cases hoi
          have h1 := hb.guard
          unfold Wd at hw
          rw [hw] at h1; cases h1
        have hl : isLA C.O C.f o = false := by
          cases hl : isLA C.O C.f o with
          | false => rfl
          | true =>
            have h1 := hb.guard
            rw [LA_guard hl] at h1; cases h1
        refine next _ w β lam m hm (fun i hi hei => hmono i (hm1 i hi hei)) (fun i hi hei => by rw [hne i (hnoteff i hei)]; exact hm2 i hi hei) (hIj m hI) ?_ ?_
        rotate_left
        · rw [zj9 ho hjL hl]
          exact hM.put hWo _ (BMv.refl _ _) (Bt.le_refl _)
        rw [zj9 ho hjL hl]
        refine ⟨hG.rel, ?_, hG.ext⟩
        rw [(hb.no rfl).1]
        exact hG.fr.put (s := .und) rfl _
      | true =>
        simp only [if_true]
        have hcong : ∀ S, opRD C (FD C ops fr0 S0 L ops.length) S o = opRD C (stp C ops fr0 S0 j).1 S o := fun S => zoD (zn1 hslot)
        refine .inl ?_
        cases hl : isLA C.O C.f o with
        | true =>
          obtain ⟨T, d, _, hop, hd, _⟩ := LA_inv hl
          obtain ⟨c, g1, g2, g3⟩ := hla' j o d ho hl hd
          have hdue : Due C ops L d := ⟨j, o, ho, hl, hd, hnj'⟩
          have hsl : sl C ops fr0 S0 j = .loc d 0 := by
            have := hb.yes rfl
            unfold opRD opD at this
            rw [hl, hd] at this
            exact (congrArg Prod.fst (Option.some.inj this)).symm
          have hnotd : ¬ Due C ops (L.setIfInBounds j true) d := fun ⟨i, o', h1, h2, h3, h4⟩ => by
            have hij := huniq i j o' o h1 ho h2 hl (h3.trans hd.symm)
            subst hij
            rw [hjj] at h4; cases h4
          have hst : rst C ops (L.setIfInBounds j true) (stp C ops fr0 S0 m).2 = (rst C ops L (stp C ops fr0 S0 m).2).setB d (some c) := by
            refine St.ext' (fun e => ?_) rfl
            by_cases he : e = d
            · subst he
              rw [zdf hnotd, St.setB_same, hI j o e ho hl hd hnj', g2]
            · rw [St.setB_ne _ _ he]
              have hde := zmU (C := C) ho hjL (e := e) (.inr (fun q => he (by rw [hd] at q; cases q; rfl)))
              by_cases hu : Due C ops L e
              · rw [zcR hu, zcR (hde.2 hu)]
              · rw [zdf hu, zdf fun q => hu (hde.1 q)]
          have hnoteff : ∀ i, Effw C ops fr0 S0 i → i ≠ j := fun i ⟨oi, hoi, hw, hk⟩ q => by
            subst q; rw [ho] at hoi; cases hoi
            rw [zkt hl] at hk; cases hk
          refine zhq (r := (sl C ops fr0 S0 j, rst C ops (L.setIfInBounds j true) (stp C ops fr0 S0 m).2)) hhC hG.n (by rw [hst, hsl]; exact g3 _ _ (zcR hdue)) hG.rel hG.fr fun s S' w' v' β' lam' k1 k2 k3 k4 k5 k6 => ?_
          cases k1
          exact next _ w' β' lam' m hm (fun i hi hei => hmono i (hm1 i hi hei)) (fun i hi hei => by rw [hne i (hnoteff i hei)]; exact hm2 i hi hei) (hIj m hI) ⟨k2, k3.put k4 _, hG.ext.trans k5⟩ (hM.put hWo _ k6 k5.le)
        | false =>
        have step : ∀ m', m' ≤ n0 → (∀ i, i < m' → Effw C ops fr0 S0 i → (L.setIfInBounds j true).getD i false = true) → (∀ i, m' ≤ i → Effw C ops fr0 S0 i → (L.setIfInBounds j true).getD i false = false) →
            (∀ (i : Nat) o d, ops[i]? = some o → isLA C.O C.f o = true → o.dst = some d → L.getD i false = false → (stp C ops fr0 S0 m').2.bx d = S0.bx d) →
            opRD C (FD C ops fr0 S0 L ops.length) (rst C ops L (stp C ops fr0 S0 m).2) o = some (sl C ops fr0 S0 j, rst C ops L (stp C ops fr0 S0 m').2) → o.wp C.P a w (wpAny C.P .any ops.toArray Q fuel (L.setIfInBounds j true)) Q := by
          intro m' q1 q2 q3 q0 q4
          rw [zcj hl] at q4
          refine zhq (r := (sl C ops fr0 S0 j, rst C ops L (stp C ops fr0 S0 m').2)) hhC hG.n q4 hG.rel hG.fr fun s S' w' v' β' lam' g1 g2 g3 g4 g5 g6 => ?_
          cases g1
          exact next _ w' β' lam' m' q1 q2 q3 (hIj m' q0) (by rw [zj9 ho hjL hl]; exact ⟨g2, g3.put g4 _, hG.ext.trans g5⟩) (by rw [zj9 ho hjL hl]; exact hM.put hWo _ g6 g5.le)
        have htagd : ∀ r, opR C (FD C ops fr0 S0 L ops.length) (stp C ops fr0 S0 m).2 o = some r → ∀ d, zby C (FD C ops fr0 S0 L ops.length) o = some d → (rst C ops L (stp C ops fr0 S0 m).2).bx d = (stp C ops fr0 S0 m).2.bx d := fun r hr d hd => by
          by_cases hu : Due C ops L d
          · rcases tag_loc hd with ⟨x, off, hx⟩ | h2
            · have h1 := zd8 hG.rel hG.fr x
              rw [hx] at h1
              have h1 : ((rst C ops L (stp C ops fr0 S0 m).2).bx d).isSome = true := h1.1
              rw [zcR hu] at h1; cases h1
            · rw [zcR hu, h2 _ _ hr]
          · exact zdf hu
        cases hkd : zbO C.P C.O C.f o with
        | pure =>
          have hnoteff : ∀ i, Effw C ops fr0 S0 i → i ≠ j := fun i ⟨oi, hoi, hw, hk⟩ q => by
            subst q; rw [ho] at hoi; cases hoi
            rw [hkd] at hk; cases hk
          exact step m hm (fun i hi hei => hmono i (hm1 i hi hei)) (fun i hi hei => by rw [hne i (hnoteff i hei)]; exact hm2 i hi hei) hI (by rw [hcong]; exact (zkn (S2 := rst C ops L (stp C ops fr0 S0 m).2) (hb.yes rfl) (.inl hkd)).2)
        | read =>
          have hnoteff : ∀ i, Effw C ops fr0 S0 i → i ≠ j := fun i ⟨oi, hoi, hw, hk⟩ q => by
            subst q; rw [ho] at hoi; cases hoi
            rw [hkd] at hk; cases hk
          suffices hsuf : opRD C (stp C ops fr0 S0 j).1 (stp C ops fr0 S0 m).2 o = some (sl C ops fr0 S0 j, (stp C ops fr0 S0 m).2) by
            refine step m hm (fun i hi hei => hmono i (hm1 i hi hei)) (fun i hi hei => by rw [hne i (hnoteff i hei)]; exact hm2 i hi hei) hI ?_
            rw [← hcong] at hsuf
            refine zgs hsuf hkd ?_
            rw [zcj hl] at hsuf
            have ht := htagd _ hsuf
            unfold zkY
            split
            · rfl
            · rename_i d hd; exact ht d hd
          obtain ⟨r1, r2⟩ := read_any hok hn0 hchk hj0 ho hb hkd
          rcases Nat.le_total m j with q | q
          · refine r1 (j - m) m (by omega) fun i h1 h2 hei => ?_
            cases hbit : ((ancs ops).getD j 0).testBit i with
            | false => rfl
            | true =>
              have h3 := hanc i hbit
              rw [hm2 i h1 hei] at h3; cases h3
          · refine r2 m q hm fun i h1 h2 hei => ?_
            cases hbit : ((ancs ops).getD i 0).testBit j with
            | false => rfl
            | true =>
              have h3 := hm1 i h2 hei
              obtain ⟨oi, hoi, _⟩ := hei
              exact (hdesc i oi hoi h3 hbit).elim
        | eff =>
          have hej : Effw C ops fr0 S0 j := ⟨o, ho, hb.guard, hkd⟩
          have hmj : m ≤ j := by
            rcases Nat.lt_or_ge j m with q | q
            · have := hm1 j q hej
              rw [hnj'] at this; cases this
            · exact q
          have hno : ∀ i, m ≤ i → i < j → ¬ Effw C ops fr0 S0 i := fun i h1 h2 hei => by
            have h3 := hm2 i h1 hei
            obtain ⟨oi, hoi, hw, hk⟩ := hei
            rcases zcN hord h2 hoi ho with q | q
            · rw [hanc i q] at h3; cases h3
            · exact q.2 ⟨hk, hkd⟩
          have hT := ziO hok hn0 j hmj (Nat.le_of_lt hj0) hno
          have hy := hb.yes rfl
          rw [hT, ← hcong, zcj hl] at hy
          have hk' : zcM C.P o.op = .eff := by rw [← zd5 hl]; exact hkd
          have htag := zmT hy hk'
          have hbx := htagd _ hy
          refine step (j + 1) hj0 (fun i hi hei => ?_) (fun i hi hei => ?_) (fun i o' d h1 h2 h3 h4 => ?_) ?_
          · rcases Nat.lt_or_ge i m with q | q
            · exact hmono i (hm1 i q hei)
            · rcases Nat.lt_or_ge i j with q' | q'
              · exact absurd hei (hno i q q')
              · have : i = j := by omega
                subst this; exact hjj
          · rw [hne i (by omega)]
            exact hm2 i (by omega) hei
          · have hdue : Due C ops L d := ⟨i, o', h1, h2, h3, h4⟩
            have hm0 := hI i o' d h1 h2 h3 h4
            obtain ⟨c, _, hc, _⟩ := hla' i o' d h1 h2 h3
            have hnt : zby C (FD C ops fr0 S0 L ops.length) o ≠ some d := fun q => by
              have := hbx d q
              rw [zcR hdue, hm0, hc] at this; cases this
            rw [← hm0]
            cases ht : zby C (FD C ops fr0 S0 L ops.length) o with
            | none => rw [ht] at htag; exact congrFun htag d
            | some e => rw [ht] at htag; exact htag.2 d fun q => hnt (by rw [ht, q])
          · rw [zcj hl]
            refine (eff_bx (bx2 := (rst C ops L (stp C ops fr0 S0 m).2).bx) hy hk' hbx).trans ?_
            congr 2
            refine St.ext' (fun d => ?_) rfl
            have he : zby C (FD C ops fr0 S0 L ops.length) o ≠ some d → (stp C ops fr0 S0 (j + 1)).2.bx d = (stp C ops fr0 S0 m).2.bx d := fun q => by
              cases ht : zby C (FD C ops fr0 S0 L ops.length) o with
              | none => rw [ht] at htag; exact congrFun htag d
              | some e => rw [ht] at htag; exact htag.2 d fun q' => q (by rw [ht, q'])
            have hd : zby C (FD C ops fr0 S0 L ops.length) o = some d → ¬ Due C ops L d := fun q hu => by
              obtain ⟨i, o', h1, h2, h3, h4⟩ := id hu
              obtain ⟨c, _, hc, _⟩ := hla' i o' d h1 h2 h3
              have := hbx d q
              rw [zcR hu, hI i o' d h1 h2 h3 h4, hc] at this; cases this
            show zmt (zby C (FD C ops fr0 S0 L ops.length) o) (stp C ops fr0 S0 (j + 1)).2.bx (rst C ops L (stp C ops fr0 S0 m).2).bx d = _
            have keep : zby C (FD C ops fr0 S0 L ops.length) o ≠ some d → (rst C ops L (stp C ops fr0 S0 m).2).bx d = (rst C ops L (stp C ops fr0 S0 (j + 1)).2).bx d := fun q => by
              by_cases hu : Due C ops L d
              · rw [zcR hu, zcR hu]
              · rw [zdf hu, zdf hu, he q]
            cases ht : zby C (FD C ops fr0 S0 L ops.length) o with
            | none => exact keep (by rw [ht]; exact fun q => by cases q)
            | some e =>
              show (if d = e then (stp C ops fr0 S0 (j + 1)).2.bx d else (rst C ops L (stp C ops fr0 S0 m).2).bx d) = _
              by_cases q : d = e
              · subst q
                rw [if_pos rfl, zdf (hd ht)]
              · rw [if_neg q]
                exact keep (by rw [ht]; exact fun q' => q (by cases q'; rfl))
  have hrep : ∀ i, (Array.replicate ops.length false).getD i false = false := fun i => by
    rw [Array.getD_eq_getD_getElem?, Array.getElem?_replicate]
    split <;> rfl
  have hFD : ∀ m, FD C ops fr0 S0 (Array.replicate ops.length false) m = fr0 := by
    intro m
    induction m with
    | zero => rfl
    | succ m ih => unfold FD; rw [hrep]; exact ih
  have hst0 : rst C ops (Array.replicate ops.length false) S0 = Sb := by
    refine St.ext' (fun d => ?_) hhp
    by_cases hu : Due C ops (Array.replicate ops.length false) d
    · rw [zcR hu]
      obtain ⟨i, o', h1, h2, h3, h4⟩ := hu
      exact (hla' i o' d h1 h2 h3).choose_spec.1.symm
    · rw [zdf hu]
      refine hoth d fun o ho hl hd => ?_
      obtain ⟨i, hi⟩ := List.mem_iff_getElem?.1 ho
      exact hu ⟨i, o, hi, hl, hd, hrep i⟩
  refine main ops.length _ a w β lam (List.range ops.length) 0 (by simp) (by simp) (fun i hi _ => List.mem_range.2 hi) ?_ (fun i hi => by rw [hrep] at hi; cases hi) (Nat.zero_le _) (fun i hi => by omega) (fun i _ _ => hrep i) (fun i o d _ _ _ _ => rfl) ?_ ?_
  · intro i o hi
    rw [hrep] at hi; cases hi
  · rw [hFD]
    show Good C.P w0 H0 β0 fr0 (rst C ops _ S0) a w β lam
    rw [hst0]; exact hG
  · show zbN W S1 a1 β1 l1 (rst C ops _ S0) a β lam
    rw [hst0]; exact hM
end Go.AM
namespace Go.AM
open Go
theorem sound {P : Program} {O : Orc} {ext : Ext1} (hm : P.follows .mixedOrders = true) (he : ExtC P ext) (hx : XtC P O.xt) (ho : ExtO O ext) : SimC P O (run P O ext) := run_sound hm (fun O h f hh => zmV O h f hh) he hx ho
theorem sound1 {P : Program} {O : Orc} {ext : Ext1} (hm : P.follows .mixedOrders = true) (he : ExtC P ext) (hx : XtC P O.xt) (ho : ExtO O ext) {f : FuncId} (hf : O.xt f = none) (hp : O.pan f = false) {args : List Value} {H : Hp} {v : Value} {H' : Hp} (h : run P O ext f args H = some (v, H')) :
    zl1 P f ∧ ∀ args' w β, LRel β args args' → Rel P w H β → Calls P f args'.toArray w fun e w' => ∃ v' β', e = .returned v' ∧ Rel P w' H' β' ∧ Ext w.heap.size w H β w' H' β' ∧ VRel β' v v' := by
  rcases sound (O := O) hm he hx ho f args H v H' h with ⟨h1, h2⟩ | ⟨_, _, h2, _⟩
  · refine ⟨h1, fun args' w β h3 h4 => Calls.mono (h2 args' w β h3 h4) fun e w' h5 => ?_⟩
    unfold Ends at h5
    rw [hp] at h5
    exact h5
  · exact absurd h2 (run_body hf h)
#print axioms sound
end Go.AM
namespace Go.AM
open Go Go.ChangeShapes Go.WideShapes Go.ChangeAt Go.RowKit
theorem zlW {P : Program} {O : Orc} {ext : Ext1} (hm : P.follows .mixedOrders = true) (he : ExtC P ext) {f : FuncId} {W : World} {args : Array Value} {H H' : Hp} {β : Bt} {xs : List Value}
    (hR : Rel P W H β) (hno : ∀ i o, H.get i = some o → o.own = false) (ha : LRel β xs args.toList) (hrun : run P O ext f xs H = some (.bool true, H')) (hx : XtC P O.xt := by intro f e h; cases h) (hxf : O.xt f = none := by rfl) (ho : ExtO O ext := by intro f _; rfl) (hpf : O.pan f = false := by rfl) :
    Calls P f args W fun e W' => e = .returned (.bool true) ∧ Below W.heap.size W W' := by
  have h := (sound1 (O := O) hm he hx ho hxf hpf hrun).2 args.toList W β ha hR
  rw [show args.toList.toArray = args from by simp] at h
  refine h.mono fun e W' ⟨v', β', h1, h2, h3, h4⟩ => ?_
  cases h4
  exact ⟨h1, h3.os, h3.tape, h3.output, h3.size, fun k hk => h3.frame k hk fun ⟨i, o, x, g1, g2, _, _⟩ => by rw [hno i o g1] at g2; cases g2⟩
theorem zfN {HH : Type} {enc : TypeId × Value → HH} {P : Program} (hl : laidOutB P = true) {W W' : World} (hb : Below W.heap.size W W') :
    ∀ {ts : List TypeId} {vs : List Value} {ds : List (DataW HH)} {ps : List MemPlace}, (∀ t ∈ ts, P.readableRec t = true ∧ t < P.types.size) → DataW.TrodAll enc P W 0 (fun _ => true) true ts vs ds ps →
      (∀ x ∈ ps, x.block < W.heap.size) → DataW.TrodAll enc P W' 0 (fun b => decide (b < W.heap.size)) true ts vs ds ps
  | [], [], [], ps, _, h, _ => h
  | t :: ts, v :: vs, d :: ds, ps, ht, h, hlt => by
    obtain ⟨p, q, h1, h2, e⟩ := h
    have h0 := ht t (List.mem_cons_self ..)
    exact ⟨p, q, Below.trod hl h0.1 h0.2 h1 hb (fun x hx => hlt x (by rw [e]; simp [hx])), zfN hl hb (fun t h => ht t (List.mem_cons_of_mem _ h)) h2 (fun x hx => hlt x (by rw [e]; simp [hx])), e⟩
  | [], _ :: _, _, _, _, h, _ => h.elim
  | [], [], _ :: _, _, _, h, _ => h.elim
  | _ :: _, [], _, _, _, h, _ => h.elim
  | _ :: _, _ :: _, [], _, _, h, _ => h.elim
theorem post_true {HH : Type} {enc : TypeId × Value → HH} {P : Program} {f : Func} {s : ChangeSpec} (hl : laidOutB P = true) (hp : ∀ t ∈ f.params.toList, P.readableRec t = true ∧ t < P.types.size) (hv : s.vars = [])
    {tb : TypeId} (hr : f.resultTypes = #[tb]) (hb : P.underlying tb = some .bool) {W W' : World} {args : Array Value} {ds gs : List (DataW HH)} {before : List MemPlace}
    (hW : DataW.Whole enc P f.params.toList s.vars false W args.toList ds gs before) (hB : Below W.heap.size W W') (hfn : s.fn HH (ds ++ gs) = { results := [.lit (.bool true)], args := ds }) :
    s.post enc P f false true false false W args (.bool true) W' := by
  have hlt := hW.lt
  obtain ⟨p, q, h1, h2, e, h3, h4⟩ := id hW
  rw [hv] at h2
  have hq : gs = [] ∧ q = [] := by
    cases gs with
    | nil => exact ⟨rfl, h2⟩
    | cons g gs => exact h2.elim
  refine ⟨ds, gs, before, [], p, [], hW, ?_, ?_, ?_, ?_, fun h => by cases h⟩
  · rw [hfn, hr]
    exact trodAll_cons_mk (shut_bool hb _) trodAll_mk0
  · rw [hfn]
    exact zfN hl hB hp h1 (fun x hx => hlt x (by rw [e]; simp [hx]))
  · rw [hfn, hv]; rfl
  · exact hB.frame _
theorem zmb {P : Program} {W : World} (h : W.ShapedOpen P) (hg : P.globals.size = 0 ∨ ∃ x, (((begin P (fun _ _ => 0) default).world.heap[P.globals.size - 1]?).bind Obj.row?) = some x) : P.globals.size ≤ W.heap.size := by
  rcases hg with hg | ⟨⟨z, t⟩, hx⟩
  · omega
  · rcases Nat.eq_zero_or_pos P.globals.size with h0 | h0
    · omega
    · obtain ⟨cs, hc, _⟩ := h.1 (P.globals.size - 1) z t (by omega) hx
      have := (Array.getElem?_eq_some_iff.1 hc).1
      omega
end Go.AM
namespace Go.AM
open Go Go.ChangeShapes Go.WideShapes Go.ChangeAt Go.RowKit
inductive Sc where
  | bool | int (k : IntKind) | str
def okSc : Sc → Value → Prop
  | .bool, v => ∃ b, v = .bool b
  | .int k, v => ∃ n, v = .int k n ∧ k.min ≤ n ∧ n ≤ k.max
  | .str, v => ∃ s : ByteArray, v = .string s
theorem okSc.rel {k : Sc} {v : Value} (h : okSc k v) (β : Bt) : VRel β v v := by
  cases k with
  | bool => obtain ⟨b, rfl⟩ := h; exact .bool b
  | int k => obtain ⟨n, rfl, _⟩ := h; exact .int k n
  | str => obtain ⟨s, rfl⟩ := h; exact .string s
def znY (P : Program) (c : TypeId → Option (List Sc)) : List Field → Nat → Option (List Sc)
  | [], _ => some []
  | f :: fs, off => match c f.type with
    | none => none
    | some ks => match Nat.beq f.offset off && Nat.beq ks.length (P.cellsOf f.type) with
      | true => match znY P c fs (off + ks.length) with
        | some r => some (ks ++ r)
        | none => none
      | false => none
def flat (P : Program) : Nat → TypeId → Option (List Sc)
  | 0, _ => none
  | d + 1, t => match P.underlying t with
    | some .bool => some [.bool]
    | some (.int k) => some [.int k]
    | some .string => some [.str]
    | some (.struct fs) => match znY P (flat P d) fs.toList 0 with
      | some ks => match Nat.beq ks.length (P.cellsOf t) with
        | true => some ks
        | false => none
      | none => none
    | _ => none
def OkL (ks : List Sc) (cs : List Value) : Prop := cs.length = ks.length ∧ ∀ (j : Nat) k, ks[j]? = some k → ∃ v, cs[j]? = some v ∧ okSc k v
theorem OkL.one {k : Sc} {v : Value} (h : okSc k v) : OkL [k] [v] := ⟨rfl, fun j k' hk => by
  cases j with
  | zero => cases hk; exact ⟨v, rfl, h⟩
  | succ j => cases hk⟩
variable {HH : Type} {enc : TypeId × Value → HH} {P : Program} {w : World} {base : Nat} {sp : Nat → Bool} {held : Bool}
theorem zlI {n : Nat} {c : TypeId → Option (List Sc)} (hc : ∀ t ks cs x, c t = some ks → DataW.trod enc P w base sp held n t cs = some x → OkL ks cs) {cs : List Value} :
    ∀ (fs : List Field) (off : Nat) (ks : List Sc), znY P c fs off = some ks → (∀ f ∈ fs, ∃ x, DataW.trod enc P w base sp held n f.type ((cs.drop f.offset).take (P.cellsOf f.type)) = some x) → off + ks.length ≤ cs.length →
      ∀ (j : Nat) k, ks[j]? = some k → ∃ v, cs[off + j]? = some v ∧ okSc k v
  | [], off, ks, h, _, _, j, k, hk => by cases h; cases hk
  | f :: fs, off, ks, h, hx, hl, j, k, hk => by
    unfold znY at h
    split at h
    · cases h
    · rename_i k1 h1
      split at h
      · rename_i hb
        rw [Bool.and_eq_true] at hb
        have ho : f.offset = off := Nat.eq_of_beq_eq_true hb.1
        have hk1 : k1.length = P.cellsOf f.type := Nat.eq_of_beq_eq_true hb.2
        split at h
        · rename_i r hr
          cases h
          obtain ⟨x, hx1⟩ := hx f (List.mem_cons_self ..)
          have hok := hc _ _ _ _ h1 hx1
          rcases Nat.lt_or_ge j k1.length with q | q
          · rw [List.getElem?_append_left q] at hk
            obtain ⟨v, hv, hs⟩ := hok.2 j k hk
            rw [List.getElem?_take] at hv
            split at hv
            · rw [List.getElem?_drop, ho] at hv
              exact ⟨v, hv, hs⟩
            · cases hv
          · rw [List.getElem?_append_right q] at hk
            simp only [List.length_append] at hl
            obtain ⟨v, hv, hs⟩ := zlI hc fs (off + k1.length) r hr (fun f hf => hx f (List.mem_cons_of_mem _ hf)) (by omega) (j - k1.length) k hk
            exact ⟨v, by rw [show off + j = off + k1.length + (j - k1.length) by omega]; exact hv, hs⟩
        · cases h
      · cases h
theorem flat_ok : ∀ (d : Nat) (t : TypeId) (ks : List Sc), flat P d t = some ks → ∀ (fuel : Nat) (cs : List Value) (x : DataW HH × List MemPlace), DataW.trod enc P w base sp held fuel t cs = some x → OkL ks cs
  | 0, t, ks, h, _, _, _, _ => by cases h
  | d + 1, t, ks, h, fuel, cs, x, hx => by
    unfold flat at h
    split at h
    · rename_i hu
      cases h
      obtain ⟨b, rfl, _⟩ := DataW.trod_bool hu hx
      exact OkL.one ⟨b, rfl⟩
    · rename_i k hu
      cases h
      obtain ⟨n, rfl, _, hw⟩ := DataW.trod_int hu hx
      refine OkL.one ⟨n, rfl, ?_⟩
      simpa [Lit.wf] using hw
    · rename_i hu
      cases h
      obtain ⟨s, rfl, _⟩ := DataW.trod_string hu hx
      exact OkL.one ⟨s, rfl⟩
    · rename_i fs hu
      split at h
      · rename_i k1 hf
        split at h
        · rename_i hb
          cases h
          have hlen : ks.length = P.cellsOf t := Nat.eq_of_beq_eq_true hb
          obtain ⟨xs, n, rfl, _, hl, hxl, hall⟩ := DataW.trod_struct hu hx
          refine ⟨by omega, fun j k hk => ?_⟩
          obtain ⟨v, hv, hs⟩ := zlI (n := n) (fun t ks cs x h1 h2 => flat_ok d t ks h1 n cs x h2) (cs := cs) fs.toList 0 ks hf (fun f hf => by
            obtain ⟨i, hi, rfl⟩ := List.getElem_of_mem hf
            have hi' : i < fs.size := by simpa using hi
            have := hall i fs.toList[i] (by simp [hi'])
            rw [this]
            exact ⟨xs[i], by simp⟩) (by omega) j k hk
          exact ⟨v, by simpa using hv, hs⟩
        · cases h
      · cases h
    · cases h
def B00 (P : Program) : Bt := fun g => if g < P.globals.size then some ⟨g, 0, 0⟩ else none
theorem Rel.addRo {W : World} {H : Hp} {β : Bt} (h : Rel P W H β) (hno : ∀ i o, H.get i = some o → o.own = false) {cs : List Value} {b s t : Nat} (hb : b < W.heap.size)
    (hc : ∀ (j : Nat) v, cs[j]? = some v → ∃ v', W.cell? ⟨b, s + j, none⟩ = some v' ∧ VRel β v v') :
    Rel P W (H.new (.cells cs false)) (β.set H.next ⟨b, s, t⟩) ∧ (∀ i o, (H.new (.cells cs false)).get i = some o → o.own = false) ∧ β.le (β.set H.next ⟨b, s, t⟩) := by
  have hf := (h.fresh H.next (Nat.le_refl _)).2
  have hle : β.le (β.set H.next ⟨b, s, t⟩) := Bt.le_set hf
  have hno' : ∀ i o, (H.new (.cells cs false)).get i = some o → o.own = false := fun i o hi => by
    rw [Hp.get_new] at hi
    split at hi
    · cases hi; rfl
    · exact hno i o hi
  refine ⟨⟨fun i ds own hi => ?_, fun i kv hi => ?_, fun i j o o' x y hij hi hj ho => (by rw [hno' i o hi] at ho; cases ho), fun i hi => ?_, fun i x hx => ?_, fun g hg => ?_, fun i o hi => (by
      rw [Hp.get_new] at hi
      split at hi
      · cases hi
      · obtain ⟨x, hx, h0, h1⟩ := h.fix i o hi
        exact ⟨x, hle i x hx, h0, h1⟩), fun i T hi => (h.tys i T hi).le hle⟩, hno', hle⟩
  · rw [Hp.get_new] at hi
    split at hi
    · rename_i e
      cases hi
      subst e
      exact ⟨_, Bt.set_same _ _ _, fun j v hv => by obtain ⟨v', h1, h2⟩ := hc j v hv; exact ⟨v', h1, h2.mono hle⟩, fun ho => by cases ho⟩
    · obtain ⟨x, hx, h1, h2⟩ := h.cells i ds own hi
      exact ⟨x, hle i x hx, fun j v hv => by obtain ⟨v', h3, h4⟩ := h1 j v hv; exact ⟨v', h3, h4.mono hle⟩, h2⟩
  · rw [Hp.get_new] at hi
    split at hi
    · cases hi
    · have := hno i _ hi
      cases this
  · have hi : H.next + 1 ≤ i := hi
    have := h.fresh i (by omega)
    refine ⟨?_, ?_⟩
    · rw [Hp.get_new, if_neg (by omega)]; exact this.1
    · unfold Bt.set; rw [if_neg (by omega)]; exact this.2
  · unfold Bt.set at hx
    split at hx
    · cases hx; exact hb
    · exact h.lt i x hx
  · obtain ⟨t', ht⟩ := h.glob g hg
    exact ⟨t', hle g _ ht⟩
theorem znM {γ δ : Type} {f : γ → Option δ} : ∀ (l : List γ) (cs : List δ), l.mapM f = some cs → cs.length = l.length ∧ ∀ (j : Nat) x, l[j]? = some x → ∃ c, cs[j]? = some c ∧ f x = some c
  | [], cs, h => by cases h; exact ⟨rfl, fun j x hx => by cases hx⟩
  | y :: l, cs, h => by
    rw [List.mapM_cons] at h
    cases hy : f y with
    | none => rw [hy] at h; cases h
    | some c =>
      rw [hy] at h
      cases hl : l.mapM f with
      | none => rw [hl] at h; cases h
      | some r =>
        rw [hl] at h
        cases h
        obtain ⟨h1, h2⟩ := znM l r hl
        refine ⟨by simp [h1], fun j x hx => ?_⟩
        cases j with
        | zero => cases hx; exact ⟨c, rfl, hy⟩
        | succ j => exact h2 j x hx
theorem zit {sz : Nat} : ∀ (L : List (List Value)), (∀ l ∈ L, l.length = sz) → ∀ i j, j < sz → L.flatten[i * sz + j]? = L[i]?.bind fun l => l[j]?
  | [], _, i, j, _ => by simp
  | l :: L, hL, i, j, hj => by
    have h0 := hL l (List.mem_cons_self ..)
    rw [List.flatten_cons]
    cases i with
    | zero =>
      rw [Nat.zero_mul, Nat.zero_add, List.getElem?_append_left (by omega)]
      rfl
    | succ i =>
      rw [List.getElem?_append_right (by rw [h0, Nat.succ_mul]; omega), h0, show (i + 1) * sz + j - sz = i * sz + j by rw [Nat.succ_mul]; omega]
      exact zit L (fun l hl => hL l (List.mem_cons_of_mem _ hl)) i j hj
theorem zfj {sz : Nat} : ∀ (L : List (List Value)), (∀ l ∈ L, l.length = sz) → L.flatten.length = L.length * sz
  | [], _ => by simp
  | l :: L, hL => by
    rw [List.flatten_cons, List.length_append, hL l (List.mem_cons_self ..), zfj L (fun l hl => hL l (List.mem_cons_of_mem _ hl)), List.length_cons, Nat.succ_mul]
    omega
theorem arg_flats {t e : TypeId} {d : Nat} {ks : List Sc} (ht : P.underlying t = some (.slice e)) (hf : flat P d e = some ks) (hk : P.cellsOf e = ks.length) (h0 : 0 < ks.length)
    {W : World} {H : Hp} {β : Bt} (hR : Rel P W H β) (hno : ∀ i o, H.get i = some o → o.own = false) {b0 : Nat} {v' : Value} {dw : DataW HH} {ps : List MemPlace}
    (hval : Value.okWide P W .any b0 t v') (hd : DataW.Trod enc P W 0 (fun _ => true) true t v' dw ps) :
    ∃ (v : Value) (H' : Hp) (β' : Bt), Rel P W H' β' ∧ (∀ i o, H'.get i = some o → o.own = false) ∧ β.le β' ∧ VRel β' v v' ∧
      ((v = .slice none 0 0 ∧ dw = .nil ∧ H' = H) ∨
        ∃ (L : List (List Value)) (es sp : List (DataW HH)), v = .slice (some ⟨H.next, 0, some ks.length⟩) L.length L.length ∧ H' = H.new (.cells L.flatten false) ∧ (∀ l ∈ L, OkL ks l) ∧ dw = .slice es sp ∧ es.length = L.length) := by
  obtain ⟨a, len, cap, rfl⟩ := okWide_slice ht hval
  obtain ⟨fuel, hx⟩ := hd
  rcases DataW.trod_slice ht hx with ⟨h1, h2⟩ | ⟨a', len', cap', elems, rest, n, hfu, h1, h2, h3, h4, h5, h6, h7, _, _⟩
  · cases h1
    cases h2
    exact ⟨.slice none 0 0, H, β, hR, hno, Bt.le_refl _, .snil, .inl ⟨rfl, rfl, rfl⟩⟩
  · cases h1
    have hhas : W.has P .any b0 a' e cap := by
      have := hval
      unfold Value.okWide Cell.okWide Cell.ok at this
      rw [ht] at this
      exact this.2.2
    obtain ⟨_, hspot, row, cells, hshape, _⟩ := hhas
    obtain ⟨b, s, sp0⟩ := a'
    simp only at hspot
    subst hspot
    have hbl : b < W.heap.size := by
      unfold World.shape? at hshape
      cases hq : W.heap[b]? with
      | none => rw [hq] at hshape; cases hshape
      | some o => exact (Array.getElem?_eq_some_iff.1 hq).1
    have hrow : ∀ i, i < len → ∃ l : List Value, OkL ks l ∧ ∀ j u, l[j]? = some u → W.cell? ⟨b, s + (i * ks.length + j), none⟩ = some u := by
      intro i hi
      have := h7 i hi
      cases hc : W.cells? 0 ((⟨b, s, none⟩ : Addr).add (i * P.cellsOf e)) (P.cellsOf e) with
      | none =>
        rw [hc] at this
        have hlt : i < elems.length := by omega
        rw [List.getElem?_eq_getElem hlt] at this; cases this
      | some l =>
        rw [hc] at this
        have hlt : i < elems.length := by omega
        rw [List.getElem?_eq_getElem hlt] at this
        have hok := flat_ok d e ks hf n l _ this
        refine ⟨l, hok, fun j u hu => ?_⟩
        unfold World.cells? at hc
        rw [if_pos (Nat.zero_le _)] at hc
        obtain ⟨g1, g2⟩ := znM _ _ hc
        have hjl : j < l.length := (List.getElem?_eq_some_iff.1 hu).1
        obtain ⟨c, g3, g4⟩ := g2 j j (by rw [List.getElem?_range]; simp at g1; omega)
        rw [hu] at g3; cases g3
        rw [hk, zc6, zc6] at g4
        rw [show s + (i * ks.length + j) = s + i * ks.length + j by omega]
        exact g4
    have hL : ∃ L : List (List Value), L.length = len ∧ ∀ i l, L[i]? = some l → OkL ks l ∧ ∀ j u, l[j]? = some u → W.cell? ⟨b, s + (i * ks.length + j), none⟩ = some u := by
      refine ⟨(List.range len).map fun i => if h : i < len then (hrow i h).choose else [], by simp, fun i l hl => ?_⟩
      rw [List.getElem?_map] at hl
      by_cases hi : i < len
      · rw [List.getElem?_range hi] at hl
        simp only [Option.map_some, dif_pos hi, Option.some.injEq] at hl
        subst hl
        exact (hrow i hi).choose_spec
      · rw [List.getElem?_eq_none (by simp; omega)] at hl; cases hl
    obtain ⟨L, hLl, hLp⟩ := hL
    have hLk : ∀ l ∈ L, OkL ks l := fun l hl => by
      obtain ⟨i, hi, rfl⟩ := List.getElem_of_mem hl
      exact (hLp i L[i] (by simp)).1
    have hLs : ∀ l ∈ L, l.length = ks.length := fun l hl => (hLk l hl).1
    obtain ⟨g1, g2, g3⟩ := hR.addRo hno (cs := L.flatten) (b := b) (s := s) (t := s + cap * ks.length) hbl (fun q v hv => by
      have hq : q < L.flatten.length := (List.getElem?_eq_some_iff.1 hv).1
      rw [zfj L hLs] at hq
      have hdm : q / ks.length * ks.length + q % ks.length = q := by rw [Nat.mul_comm]; exact Nat.div_add_mod q ks.length
      have hm := Nat.mod_lt q h0
      rw [← hdm, zit L hLs _ _ hm] at hv
      cases hl : L[q / ks.length]? with
      | none => rw [hl] at hv; cases hv
      | some l =>
        rw [hl] at hv
        obtain ⟨p1, p2⟩ := hLp _ l hl
        refine ⟨v, ?_, ?_⟩
        · have := p2 (q % ks.length) v hv
          rw [hdm] at this
          exact this
        · have hkk : q % ks.length < ks.length := hm
          obtain ⟨u, hu1, hu2⟩ := p1.2 (q % ks.length) _ (List.getElem?_eq_getElem hkk)
          have hv' : l[q % ks.length]? = some v := hv
          rw [hu1] at hv'; cases hv'
          exact hu2.rel _)
    refine ⟨.slice (some ⟨H.next, 0, some ks.length⟩) L.length L.length, _, _, g1, g2, g3, ?_, .inr ⟨L, _, _, rfl, rfl, hLk, (Prod.mk.inj h2).1, by simp; omega⟩⟩
    rw [hLl]
    exact .slice _ _ _ _ _ _ _ _ (Bt.set_same _ _ _) (Nat.le_refl _) h4 (Nat.le_refl _) (fun _ => rfl)
end Go.AM
namespace Go.AM
open Go
theorem Rel.freeze {P : Program} {w w' : World} {H : Hp} {β : Bt} (h : Rel P w H β) {i : Nat} {cs : List Value} {x : BI} (hi : H.get i = some (.cells cs true)) (hx : β i = some x)
    (ho : w'.os = w.os) (ht : w'.tape = w.tape) (hu : w'.output = w.output) (hs : w'.heap.size = w.heap.size) (hoth : ∀ k, k ≠ x.b → w'.heap[k]? = w.heap[k]?)
    (hrow : ∀ arr e fz, w.heap[x.b]? = some (.cells arr e fz) → ∃ fz', w'.heap[x.b]? = some (.cells arr e fz')) :
    Rel P w' (H.set i (some (.cells cs false))) β ∧ Ext w.heap.size w H β w' (H.set i (some (.cells cs false))) β := by
  have hfr : ∀ j o y, j ≠ i → H.get j = some o → β j = some y → w'.heap[y.b]? = w.heap[y.b]? := fun j o y hji hj hy =>
    hoth _ (fun e => h.apart i j _ _ x y (Ne.symm hji) hi hj rfl hx hy e.symm)
  refine ⟨⟨fun j ds own hj => ?_, fun j kv hj => ?_, fun j k o o' y z hjk hj hk hoo hy hz => ?_, fun j hj => ?_, fun j y hy => ?_, h.glob, fun j o hj => (by
      rw [Hp.get_set] at hj
      split at hj
      · cases hj
      · rename_i hji
        obtain ⟨y, hy, h0, h3⟩ := h.fix j o hj
        exact ⟨y, hy, h0, by rw [hfr j _ y hji hj hy]; exact h3⟩), fun j T hj => (by
      obtain ⟨y, arr, fz, hy, h1, h2, h3⟩ := h.tys j T hj
      by_cases e : y.b = x.b
      · rw [e] at h2
        obtain ⟨fz', h4⟩ := hrow arr T fz h2
        exact ⟨y, arr, fz', hy, h1, by rw [e]; exact h4, h3⟩
      · exact ⟨y, arr, fz, hy, h1, by rw [hoth _ e]; exact h2, h3⟩)⟩,
    ⟨ho, ht, hu, by rw [hs]; exact Nat.le_refl _, Bt.le_refl _, Nat.le_refl _, fun b hb hno => ?_, fun b => ?_, fun j y hy hn => by rw [hn] at hy; cases hy⟩⟩
  · rw [Hp.get_set] at hj
    split at hj
    · rename_i hji
      cases hj
      subst hji
      obtain ⟨x', hx', h1, _⟩ := h.cells j cs true hi
      rw [hx] at hx'; cases hx'
      refine ⟨x, hx, fun k v hk => ?_, fun q => by cases q⟩
      obtain ⟨v', hv', hr⟩ := h1 k v hk
      obtain ⟨arr, e, fz, g1, g2⟩ := zbY.1 hv'
      obtain ⟨fz', g3⟩ := hrow arr e fz g1
      exact ⟨v', zbY.2 ⟨arr, e, fz', g3, g2⟩, hr⟩
    · rename_i hji
      obtain ⟨y, hy, h3, h4⟩ := h.cells j ds own hj
      have hw := hfr j _ y hji hj hy
      refine ⟨y, hy, fun k v hk => ?_, fun q => ⟨(h4 q).1.congr hw, (h4 q).2⟩⟩
      obtain ⟨v', hv', hr⟩ := h3 k v hk
      exact ⟨v', by rw [zcB hw]; exact hv', hr⟩
  · rw [Hp.get_set] at hj
    split at hj
    · cases hj
    · rename_i hji
      obtain ⟨y, hy, es, clock, h3, h4⟩ := h.maps j kv hj
      exact ⟨y, hy, es, clock, by rw [hfr j _ y hji hj hy]; exact h3, h4⟩
  · rw [Hp.get_set] at hj hk
    split at hj
    · cases hj; cases hoo
    · have hk' : ∃ q, H.get k = some q := by
        split at hk
        · rename_i e; subst e; exact ⟨_, hi⟩
        · exact ⟨_, hk⟩
      obtain ⟨q, g⟩ := hk'
      exact h.apart j k o q y z hjk hj g hoo hy hz
  · have := h.fresh j hj
    rw [Hp.get_set, if_neg (fun e => by subst e; rw [hi] at this; cases this.1)]
    exact this
  · rw [hs]; exact h.lt j y hy
  · exact hoth b (fun e => by subst e; exact hno ⟨i, _, x, hi, rfl, hx, rfl⟩)
  · rintro ⟨j, o, y, hj, hoo, hy, rfl⟩
    rw [Hp.get_set] at hj
    split at hj
    · cases hj; cases hoo
    · exact .inr ⟨j, o, y, hj, hoo, hy, rfl⟩
end Go.AM
namespace Go.AM
open Go
structure Lim {α : Type} (F : Nat → Option α) (x : Option α) : Prop where
  mono : ∀ n r, F n = some r → F (n + 1) = some r
  le : ∀ n r, F n = some r → x = some r
  sup : ∀ r, x = some r → ∃ n, F n = some r
section
variable {α γ : Type}
theorem Lim.const (x : Option α) : Lim (fun _ => x) x := ⟨fun _ _ h => h, fun _ _ h => h, fun _ h => ⟨0, h⟩⟩
theorem Lim.of_eq {F : Nat → Option α} {x : Option α} (h : ∀ n, F n = x) : Lim F x := by
  have : F = fun _ => x := funext h
  rw [this]; exact Lim.const x
theorem Lim.mono' {F : Nat → Option α} {x : Option α} (h : Lim F x) {n m : Nat} (hm : n ≤ m) {r : α} (hr : F n = some r) : F m = some r := by
  induction m with
  | zero => have : n = 0 := by omega
            subst this; exact hr
  | succ m ih =>
    rcases Nat.lt_or_ge m n with q | q
    · have : n = m + 1 := by omega
      subst this; exact hr
    · exact h.mono m r (ih q)
theorem Lim.bind {F : Nat → Option γ} {x : Option γ} (h : Lim F x) {G : Nat → γ → Option α} {g : γ → Option α} (hg : ∀ v, Lim (fun n => G n v) (g v)) : Lim (fun n => (F n).bind (G n)) (x.bind g) := by
  have inv : ∀ {a : Option γ} {f : γ → Option α} {r : α}, a.bind f = some r → ∃ v, a = some v ∧ f v = some r := fun {a f r} h => by
    cases a with
    | none => cases h
    | some v => exact ⟨v, rfl, h⟩
  refine ⟨fun n r hr => ?_, fun n r hr => ?_, fun r hr => ?_⟩
  · obtain ⟨v, h1, h2⟩ := inv hr
    rw [h.mono n v h1]; exact (hg v).mono n r h2
  · obtain ⟨v, h1, h2⟩ := inv hr
    rw [h.le n v h1]; exact (hg v).le n r h2
  · obtain ⟨v, h1, h2⟩ := inv hr
    obtain ⟨n, hn⟩ := h.sup v h1
    obtain ⟨m, hm⟩ := (hg v).sup r h2
    refine ⟨max n m, ?_⟩
    rw [h.mono' (Nat.le_max_left n m) hn]
    exact (hg v).mono' (Nat.le_max_right n m) hm
theorem Lim.nat {p : Option γ} {X : Nat → Option α} {x : Option α} {G : Nat → γ → Option α} {g : γ → Option α} (hX : ∀ n, X n = p.bind (G n)) (hx : x = p.bind g) (hg : ∀ v, Lim (fun n => G n v) (g v)) : Lim X x := by
  have : X = fun n => p.bind (G n) := funext hX
  rw [this, hx]
  exact (Lim.const p).bind hg
def ziX (f : List Value → Hp → Option Outc) (o : Outc) : Option Outc :=
  match o with
  | (.next, l, H) => f l H
  | r => some r
theorem zc8 (s : List Value → Hp → Option Outc) (m : Nat) (l : List Value) (H : Hp) : zeL s (m + 1) l H = (s l H).bind (ziX (zeL s m)) := by
  show (match s l H with | some (.next, l', H') => zeL s m l' H' | r => r) = _
  rcases s l H with _ | ⟨c, l', H'⟩
  · rfl
  · cases c <;> rfl
theorem bind_some {α γ : Type} {a : Option γ} {f : γ → Option α} {r : α} (h : a.bind f = some r) : ∃ v, a = some v ∧ f v = some r := by
  cases a with
  | none => cases h
  | some v => exact ⟨v, rfl, h⟩
theorem zlp {f g : List Value → Hp → Option Outc} {o r : Outc} (h : ∀ l H, f l H = some r → g l H = some r) (hr : ziX f o = some r) : ziX g o = some r := by
  obtain ⟨c, l, H⟩ := o
  cases c with
  | next => exact h l H hr
  | _ => exact hr
theorem zlB {step : List Value → Hp → Option Outc} : ∀ (n : Nat) {l : List Value} {H : Hp} {r : Outc}, zeL step n l H = some r → zeL step (n + 1) l H = some r
  | 0, l, H, r, h => by cases h
  | n + 1, l, H, r, h => by
    rw [zc8] at h ⊢
    obtain ⟨v, h1, h2⟩ := bind_some h
    rw [h1]
    exact zlp (fun l H => zlB n) h2
theorem znR {step : List Value → Hp → Option Outc} {n m : Nat} (hm : n ≤ m) {l : List Value} {H : Hp} {r : Outc} (h : zeL step n l H = some r) : zeL step m l H = some r := by
  induction m with
  | zero => have : n = 0 := by omega
            subst this; exact h
  | succ m ih =>
    rcases Nat.lt_or_ge m n with q | q
    · have : n = m + 1 := by omega
      subst this; exact h
    · exact zlB m (ih q)
theorem zcm {step : List Value → Hp → Option Outc} {l : List Value} {H : Hp} {r : Outc} : zat step l H = some r ↔ ∃ n, zeL step n l H = some r := by
  unfold zat
  constructor
  · intro h
    split at h
    · rename_i hex
      obtain ⟨n, hn⟩ := hex.choose_spec
      have h : hex.choose = r := by simpa using h
      exact ⟨n, by rw [hn, h]⟩
    · cases h
  · rintro ⟨n, hn⟩
    have hex : ∃ r n, zeL step n l H = some r := ⟨r, n, hn⟩
    rw [dif_pos hex]
    obtain ⟨m, hm⟩ := hex.choose_spec
    have h1 := znR (Nat.le_max_left n m) hn
    have h2 := znR (Nat.le_max_right n m) hm
    rw [h1] at h2
    exact h2.symm
theorem zak (step : List Value → Hp → Option Outc) (l : List Value) (H : Hp) : zat step l H = (step l H).bind (ziX (zat step)) := by
  apply Option.ext
  intro r
  rw [zcm]
  constructor
  · rintro ⟨n, hn⟩
    cases n with
    | zero => cases hn
    | succ n =>
      rw [zc8] at hn
      obtain ⟨v, h1, h2⟩ := bind_some hn
      rw [h1]
      exact zlp (fun l H h => zcm.2 ⟨n, h⟩) h2
  · intro h
    obtain ⟨⟨c, l', H'⟩, h1, h2⟩ := bind_some h
    cases c with
    | next =>
      obtain ⟨n, hn⟩ := zcm.1 h2
      exact ⟨n + 1, by rw [zc8, h1]; exact hn⟩
    | _ => exact ⟨1, by rw [zc8, h1]; exact h2⟩
theorem Lim.iter {F : Nat → List Value → Hp → Option Outc} {step : List Value → Hp → Option Outc} (h : ∀ l H, Lim (fun n => F n l H) (step l H)) : ∀ (m : Nat) (l : List Value) (H : Hp), Lim (fun n => zeL (F n) m l H) (zeL step m l H)
  | 0, l, H => Lim.const none
  | m + 1, l, H => by
    have e1 : (fun n => zeL (F n) (m + 1) l H) = fun n => (F n l H).bind (ziX (zeL (F n) m)) := funext fun n => zc8 (F n) m l H
    rw [e1, zc8]
    refine (h l H).bind fun o => ?_
    obtain ⟨c, l', H'⟩ := o
    cases c with
    | next => exact Lim.iter h m l' H'
    | _ => exact Lim.const _
theorem Lim.loop {F : Nat → List Value → Hp → Option Outc} {step : List Value → Hp → Option Outc} (h : ∀ l H, Lim (fun n => F n l H) (step l H)) (l : List Value) (H : Hp) : Lim (fun n => zat (F n) l H) (zat step l H) := by
  refine ⟨fun n r hr => ?_, fun n r hr => ?_, fun r hr => ?_⟩
  · obtain ⟨m, hm⟩ := zcm.1 hr
    exact zcm.2 ⟨m, (Lim.iter h m l H).mono n r hm⟩
  · obtain ⟨m, hm⟩ := zcm.1 hr
    exact zcm.2 ⟨m, (Lim.iter h m l H).le n r hm⟩
  · obtain ⟨m, hm⟩ := zcm.1 hr
    obtain ⟨n, hn⟩ := (Lim.iter h m l H).sup r hm
    exact ⟨n, zcm.2 ⟨m, hn⟩⟩
structure zew (P : Program) (O : Orc) (f : FuncId) (hs : Nat → zad) (h : zad) : Prop where
  lim : ∀ g a H, Lim (fun n => hs n g a H) (h g a H)
variable {P : Program} {O : Orc} {f : FuncId} {hs : Nat → zad} {h : zad}
theorem zld {α : Type} {v : Value} {K KP : Nat → Value → Option α} {k kp : Value → Option α} (hk : ∀ u, Lim (fun n => K n u) (k u)) (hp : ∀ u, Lim (fun n => KP n u) (kp u)) : Lim (fun n => zeB v (K n) (KP n)) (zeB v k kp) := by
  unfold zeB
  split
  · exact hk _
  · exact hp _
  · exact Lim.const _
theorem opR_lim (hc : zew P O f hs h) (fr : Fr) (S : St) (o : Oper) : Lim (fun n => opR ⟨P, O, hs n, f⟩ fr S o) (opR ⟨P, O, h, f⟩ fr S o) := by
  unfold opR opC
  dsimp only
  cases o.op <;> (try dsimp only) <;> first | exact Lim.of_eq fun n => rfl | skip
  case makeMap t r => cases r <;> exact Lim.of_eq fun n => rfl
  case slice T x lo hi mx => cases mx <;> exact Lim.of_eq fun n => rfl
  case next it b => cases b <;> exact Lim.of_eq fun n => rfl
  rename_i c
  rcases c.callee with fo | ⟨rv, m⟩ | b
  · refine Lim.nat (fun n => zao (g := some) fun v => rfl) (zao (g := some) fun v => rfl) fun fv => ?_
    refine Lim.nat (fun n => zbi _ (g := some) fun v => rfl) (zbi _ (g := some) fun v => rfl) fun vs => ?_
    have e : ∀ h' : zad, zed O h' fv vs S.hp (fun v H => some (Slot.val v, (⟨S.bx, H⟩ : St))) = (zed O h' fv vs S.hp fun v H => some (v, H)).bind fun p => some (Slot.val p.1, (⟨S.bx, p.2⟩ : St)) := fun h' => zfZ fun _ _ => rfl
    have e1 : (fun n => zed O (hs n) fv vs S.hp (fun v H => some (Slot.val v, (⟨S.bx, H⟩ : St)))) = fun n => (zed O (hs n) fv vs S.hp fun v H => some (v, H)).bind fun p => some (Slot.val p.1, (⟨S.bx, p.2⟩ : St)) := funext fun n => e (hs n)
    show Lim (fun n => zed O (hs n) fv vs S.hp (fun v H => some (Slot.val v, (⟨S.bx, H⟩ : St)))) (zed O h fv vs S.hp (fun v H => some (Slot.val v, (⟨S.bx, H⟩ : St))))
    rw [e1, e h]
    refine Lim.bind ?_ fun v => Lim.const _
    unfold zed
    split
    · rename_i g first captured
      cases O.pan g with
      | true =>
        have e2 : ∀ h' : zad, zd1 h' g (first.toList ++ (vs ++ captured.toList)) S.hp (fun v H => some (v, H)) = (h' g (first.toList ++ (vs ++ captured.toList)) S.hp).bind fun p => zeB p.1 (fun u => some (u, p.2)) fun _ => none := fun h' => by
          unfold zd1
          rcases h' g (first.toList ++ (vs ++ captured.toList)) S.hp with _ | ⟨v, H'⟩ <;> rfl
        simp only [e2]
        exact (hc.lim g _ S.hp).bind fun p => Lim.const _
      | false =>
      dsimp only
      have e2 : ∀ h' : zad, zaf h' g (first.toList ++ (vs ++ captured.toList)) S.hp (fun v H => some (v, H)) = h' g (first.toList ++ (vs ++ captured.toList)) S.hp := fun h' => by
        unfold zaf
        rcases h' g (first.toList ++ (vs ++ captured.toList)) S.hp with _ | ⟨v, H'⟩ <;> rfl
      simp only [e2]
      exact hc.lim g _ S.hp
    · exact Lim.const _
  · exact Lim.const _
  · exact Lim.const _
theorem zko (hc : zew P O f hs h) {fr : Fr} {S : St} {o : Oper} {K : Nat → Slot → St → Option α} {k : Slot → St → Option α} (hk : ∀ s S, Lim (fun n => K n s S) (k s S)) : Lim (fun n => opC ⟨P, O, hs n, f⟩ fr S o (K n)) (opC ⟨P, O, h, f⟩ fr S o k) := by
  have e1 : (fun n => opC ⟨P, O, hs n, f⟩ fr S o (K n)) = fun n => (opR ⟨P, O, hs n, f⟩ fr S o).bind fun p => K n p.1 p.2 := funext fun n => zmA _ _ _ _ _
  rw [e1, zmA]
  exact (opR_lim hc fr S o).bind fun p => hk p.1 p.2
theorem opW_lim (hc : zew P O f hs h) {fr : Fr} {S : St} {o : Oper} {KP : Nat → Value → Hp → Option α} {kp : Value → Hp → Option α} (hp : ∀ x H, Lim (fun n => KP n x H) (kp x H)) {K : Nat → Slot → St → Option α} {k : Slot → St → Option α} (hk : ∀ s S, Lim (fun n => K n s S) (k s S)) :
    Lim (fun n => opW ⟨P, O, hs n, f⟩ fr S o (KP n) (K n)) (opW ⟨P, O, h, f⟩ fr S o kp k) := by
  unfold opW
  split
  · rename_i c _
    split
    · rename_i g _
      dsimp only
      refine Lim.nat (fun n => zbi _ (g := some) fun v => rfl) (zbi _ (g := some) fun v => rfl) fun vs => ?_
      have e2 : ∀ (h' : zad) (q1 q2 : Value → Hp → Option α), zbd h' g vs S.hp q1 q2 = (h' g vs S.hp).bind fun p => zeB p.1 (fun u => q2 u p.2) fun x => q1 x p.2 := fun h' q1 q2 => by
        unfold zbd
        rcases h' g vs S.hp with _ | ⟨v, H'⟩ <;> rfl
      show Lim (fun n => zbd (hs n) g vs S.hp (KP n) fun v H => K n (.val v) ⟨S.bx, H⟩) (zbd h g vs S.hp kp fun v H => k (.val v) ⟨S.bx, H⟩)
      simp only [e2]
      exact (hc.lim g _ S.hp).bind fun p => zld (fun u => hk _ _) fun x => hp _ _
    · exact Lim.const _
  · dsimp only
    refine Lim.nat (fun n => zao (g := some) fun v => rfl) (zao (g := some) fun v => rfl) fun v => ?_
    cases v <;> first | exact hp _ _ | exact Lim.const _
  · exact Lim.const _
theorem zjG {α : Type} (ops : List Oper) (fr : Fr) (o : Oper) (k : Bool → Fr → Option α) : zdH ops fr o k = (zdH ops fr o fun b fr => some (b, fr)).bind fun p => k p.1 p.2 := by
  unfold zdH
  split
  · rfl
  · split
    · split
      · split
        · rfl
        · exact zao fun v => zeC fun b => br_nat rfl rfl
      · rfl
    · rfl
theorem zjH {α : Type} {ops : List Oper} {fr : Fr} {o : Oper} {K : Nat → Bool → Fr → Option α} {k : Bool → Fr → Option α} (hk : ∀ b fr, Lim (fun n => K n b fr) (k b fr)) : Lim (fun n => zdH ops fr o (K n)) (zdH ops fr o k) :=
  Lim.nat (fun n => zjG ops fr o (K n)) (zjG ops fr o k) fun p => hk p.1 p.2
theorem zhp {α : Type} (hc : zew P O f hs h) {ops : List Oper} {KP : Nat → Value → Hp → Option α} {kp : Value → Hp → Option α} (hp : ∀ x H, Lim (fun n => KP n x H) (kp x H)) {K : Nat → Fr → St → Option α} {k : Fr → St → Option α} (hk : ∀ fr S, Lim (fun n => K n fr S) (k fr S)) : ∀ (l : List Oper) (fr : Fr) (S : St), Lim (fun n => opsC ⟨P, O, hs n, f⟩ ops (KP n) (K n) l fr S) (opsC ⟨P, O, h, f⟩ ops kp k l fr S)
  | [], fr, S => hk fr S
  | o :: l, fr, S => by
    refine zjH fun b fr => ?_
    cases b with
    | true =>
      have e : ∀ h', panS ⟨P, O, h', f⟩ o = panS ⟨P, O, h, f⟩ o := fun h' => rfl
      simp only [e]
      cases O.pan f && panS ⟨P, O, h, f⟩ o with
      | false => exact zko hc fun s S' => zhp hc hp hk l _ _
      | true => exact opW_lim hc hp fun s S' => zhp hc hp hk l _ _
    | false => exact zhp hc hp hk l _ _
theorem zkC {α : Type} {p : Prop} (k : Option α) : chk p k = (chk p (some ())).bind fun _ => k := by
  unfold chk; split <;> rfl
theorem zlZ {α : Type} (C : Ctx) (fr : Fr) (S : St) (o : Oper) (s : Slot) (k : Option α) : zgL C fr S o s k = (zgL C fr S o s (some ())).bind fun _ => k := by
  unfold zgL
  dsimp only
  cases s <;> first | rfl | skip
  rename_i v
  cases o.op <;> (try dsimp only) <;> first | rfl | skip
  case load T a =>
    refine zcu fun n agg => ?_
    cases ev C.P.globals.size fr a with
    | loc d off =>
      dsimp only
      rcases S.bx d with _ | b
      · rfl
      · cases b <;> first | rfl | exact zkC k
    | val p => exact zkC k
    | _ => rfl
  case lookup T m key ok => exact zao fun m => zao fun key => zbJ fun kt z => zkC k
  case call c =>
    refine zbi _ fun vs => ?_
    generalize c.argTypes.toList = ts
    rcases vs with _ | ⟨x, _ | ⟨y, vs⟩⟩ <;> rcases ts with _ | ⟨t, _ | ⟨u, ts⟩⟩ <;> (try dsimp only) <;> first | rfl | skip
    rcases C.P.underlying t with _ | d
    · rfl
    · dsimp only
      rcases lenK d with _ | q
      · rfl
      · exact zkC k
theorem zl0 {α : Type} {fr : Fr} {S : St} {o : Oper} {s : Slot} {K : Nat → Option α} {k : Option α} (hk : Lim K k) : Lim (fun n => zgL ⟨P, O, hs n, f⟩ fr S o s (K n)) (zgL ⟨P, O, h, f⟩ fr S o s k) := by
  have e : ∀ h', zgL ⟨P, O, h', f⟩ fr S o s (some ()) = zgL ⟨P, O, h, f⟩ fr S o s (some ()) := fun h' => rfl
  exact Lim.nat (p := zgL ⟨P, O, h, f⟩ fr S o s (some ())) (G := fun n _ => K n) (g := fun _ => k) (fun n => by rw [zlZ, e]) (zlZ _ _ _ _ _ _) fun _ => hk
theorem zfI {α : Type} {a i : Nat} {o : Oper} {fr : Fr} {s : Slot} {tag : Option Nat} {K : Nat → Option α} {k : Option α} (hk : Lim K k) : ∀ es : List (Nat × Option Nat × St), Lim (fun n => zeO ⟨P, O, hs n, f⟩ a i o fr s tag (K n) es) (zeO ⟨P, O, h, f⟩ a i o fr s tag k es)
  | [] => hk
  | (j, t, S) :: es => by
    unfold zeO
    split
    · exact zfI hk es
    · exact zl0 (zfI hk es)
theorem zek {α : Type} {a : Nat} {tag : Option Nat} {S : St} {K : Nat → Option α} {k : Option α} (hk : Lim K k) : ∀ rs : List Rd, Lim (fun n => zem ⟨P, O, hs n, f⟩ a tag S (K n) rs) (zem ⟨P, O, h, f⟩ a tag S k rs)
  | [] => hk
  | r :: rs => by
    unfold zem
    split
    · exact zek hk rs
    · exact zl0 (zek hk rs)
theorem zmz (hc : zew P O f hs h) {fr : Fr} {S : St} {o : Oper} {K : Nat → Slot → St → Option α} {k : Slot → St → Option α} (hk : ∀ s S, Lim (fun n => K n s S) (k s S)) : Lim (fun n => opD ⟨P, O, hs n, f⟩ fr S o (K n)) (opD ⟨P, O, h, f⟩ fr S o k) := by
  unfold opD
  dsimp only
  cases hl : isLA O f o with
  | true =>
    cases hd : o.dst with
    | none => exact Lim.const _
    | some d => exact hk _ _
  | false => exact zko hc hk
theorem zgF (hc : zew P O f hs h) {K : Nat → St → Option α} {k : St → Option α} (hk : ∀ S, Lim (fun n => K n S) (k S)) : ∀ (l : List Oper) (S : St), Lim (fun n => zg1 ⟨P, O, hs n, f⟩ (K n) l S) (zg1 ⟨P, O, h, f⟩ k l S)
  | [], S => hk S
  | o :: l, S => by
    unfold zg1
    dsimp only
    cases isLA O f o with
    | true => exact zko hc fun _ S' => zgF hc hk l S'
    | false => exact zgF hc hk l S
theorem zea {α : Type} (hc : zew P O f hs h) {ops : List Oper} {an : List Nat} {KP : Nat → Value → Hp → Option α} {kp : Value → Hp → Option α} (hp : ∀ x H, Lim (fun n => KP n x H) (kp x H)) {K : Nat → Fr → St → Option α} {k : Fr → St → Option α} (hk : ∀ fr S, Lim (fun n => K n fr S) (k fr S)) :
    ∀ (l : List Oper) (i : Nat) (fr : Fr) (S : St) (es : List (Nat × Option Nat × St)) (rs : List Rd), Lim (fun n => zhd ⟨P, O, hs n, f⟩ ops an (KP n) (K n) l i fr S es rs) (zhd ⟨P, O, h, f⟩ ops an kp k l i fr S es rs)
  | [], i, fr, S, es, rs => hk fr S
  | o :: l, i, fr, S, es, rs => by
    unfold zhd
    refine zjH fun b fr => ?_
    cases b with
    | false => exact zea hc hp hk l _ _ _ _ _
    | true =>
      dsimp only
      obtain ⟨tg, ht⟩ : ∃ t, ∀ h', zby ⟨P, O, h', f⟩ fr o = t := ⟨zby ⟨P, O, h, f⟩ fr o, fun h' => rfl⟩
      have e : ∀ h', panS ⟨P, O, h', f⟩ o = panS ⟨P, O, h, f⟩ o := fun h' => rfl
      simp only [ht, e]
      cases O.pan f && panS ⟨P, O, h, f⟩ o with
      | true =>
        refine opW_lim hc (fun x H => ?_) fun s S' => zek (zea hc hp hk l _ _ _ _ _) rs
        cases znQ ops an i with
        | true => exact hp _ _
        | false => exact Lim.const _
      | false =>
      dsimp only
      cases zbO P O f o with
      | pure => exact zmz hc fun s S' => zea hc hp hk l _ _ _ _ _
      | read => exact zmz hc fun s S' => zfI (zea hc hp hk l _ _ _ _ _) es
      | eff => exact zmz hc fun s S' => zek (zea hc hp hk l _ _ _ _ _) rs
theorem drawH_lim {α : Type} (hc : zew P O f hs h) {ops : List Oper} {KP : Nat → Value → Hp → Option α} {kp : Value → Hp → Option α} (hp : ∀ x H, Lim (fun n => KP n x H) (kp x H)) {K : Nat → Fr → St → Option α} {k : Fr → St → Option α} (hk : ∀ fr S, Lim (fun n => K n fr S) (k fr S)) (fr : Fr) (S : St) :
    Lim (fun n => drawH ⟨P, O, hs n, f⟩ ops (KP n) (K n) fr S) (drawH ⟨P, O, h, f⟩ ops kp k fr S) :=
  zgF hc (fun S => zea hc hp hk _ _ _ _ _ _) _ _
theorem zeV {α : Type} {fr : Fr} {S : St} : ∀ (rs : List ResultVar) (k : List Value → Option α), resC P fr S rs k = (resC P fr S rs some).bind k
  | [], k => rfl
  | .tmp t :: rs, k => by
    have e : ∀ {γ : Type} (k : List Value → Option γ), resC P fr S (.tmp t :: rs) k = sV (getS fr t) fun v => resC P fr S rs fun vs => k (v :: vs) := fun k => rfl
    rw [e, e]
    refine zao fun v => ?_
    rw [zeV rs, zeV rs fun vs => some (v :: vs)]
    cases resC P fr S rs some <;> rfl
  | .cell t T :: rs, k => by
    unfold resC
    refine zcu fun n agg => ?_
    have e : ∀ v, (resC P fr S rs fun vs => k (v :: vs)) = (resC P fr S rs fun vs => some (v :: vs)).bind k := fun v => by
      rw [zeV rs, zeV rs fun vs => some (v :: vs)]
      cases resC P fr S rs some <;> rfl
    cases getS fr t with
    | loc d off =>
      dsimp only
      rcases S.bx d with _ | b
      · rfl
      · cases b <;> first | rfl | exact zh7 e
    | val p => exact zh0 e
    | _ => rfl
structure KLim {α : Type} (K : Nat → AM.K α) (k : AM.K α) : Prop where
  norm : ∀ fr S, Lim (fun n => (K n).norm fr S) (k.norm fr S)
  exit : ∀ id fr S, Lim (fun n => (K n).exit id fr S) (k.exit id fr S)
  ret : ∀ v H, Lim (fun n => (K n).ret v H) (k.ret v H)
theorem zhI {α γ : Type} {X : γ → Option α} {fr : Fr} : ∀ (ks : List Nat) {k : List Value → Option α} {g : List Value → Option γ}, (∀ v, k v = (g v).bind X) → zmc fr ks k = (zmc fr ks g).bind X
  | [], k, g, h => h []
  | d :: ks, k, g, h => zao fun v => zhI ks fun vs => h (v :: vs)
theorem zfS {α γ : Type} {X : γ → Option α} {S : St} : ∀ (ks : List Nat) {k : List Value → Option α} {g : List Value → Option γ}, (∀ v, k v = (g v).bind X) → zj5 S ks k = (zj5 S ks g).bind X
  | [], k, g, h => h []
  | d :: ks, k, g, h => by
    unfold zj5 boxV
    split
    · exact zfS ks fun vs => h _
    · exact zfS ks fun vs => h _
    · rfl
theorem zoe {α : Type} (x : Option Outc) (k : Ctl → List Value → Hp → Option α) : zav x k = x.bind fun o => k o.1 o.2.1 o.2.2 := by rcases x with _ | ⟨c, l, H⟩ <;> rfl
theorem ziK {α : Type} {X : Nat → Option Outc} {x : Option Outc} (hx : Lim X x) {K : Nat → Ctl → List Value → Hp → Option α} {k : Ctl → List Value → Hp → Option α} (hk : ∀ c l H, Lim (fun n => K n c l H) (k c l H)) :
    Lim (fun n => zav (X n) (K n)) (zav x k) := by
  have e : (fun n => zav (X n) (K n)) = fun n => (X n).bind fun o => K n o.1 o.2.1 o.2.2 := funext fun n => zoe _ _
  rw [e, zoe]
  exact hx.bind fun o => hk _ _ _
theorem zex {α : Type} {fr : Fr} : ∀ (rs : List ResultVar) (k : List Value → Option α), ziR fr rs k = (ziR fr rs some).bind k
  | [], k => rfl
  | .tmp t :: rs, k => by
    unfold ziR
    refine zao fun v => ?_
    rw [zex rs, zex rs fun vs => some (v :: vs)]
    cases ziR fr rs some <;> rfl
  | .cell t T :: rs, k => by
    unfold ziR
    exact zex rs k
theorem znA {α : Type} {rs : List ResultVar} {ops : List Oper} {fr : Fr} {K : Nat → AM.K α} {k : AM.K α} (hk : KLim K k) (x : Value) (H : Hp) : Lim (fun n => panK ⟨P, O, hs n, f⟩ rs ops fr (K n) x H) (panK ⟨P, O, h, f⟩ rs ops fr k x H) := by
  unfold panK
  dsimp only
  cases O.dfr f with
  | false => exact hk.ret _ _
  | true =>
    cases zio ops rs with
    | true => exact Lim.nat (fun n => zex rs _) (zex rs _) fun vs => hk.ret _ _
    | false => exact Lim.const _
theorem zcn (hc : zew P O f hs h) (rs : List ResultVar) : ∀ (c : Code) {α : Type} (fr : Fr) (S : St) {K : Nat → AM.K α} {k : AM.K α}, KLim K k → Lim (fun n => exec ⟨P, O, hs n, f⟩ rs c α fr S (K n)) (exec ⟨P, O, h, f⟩ rs c α fr S k)
  | .skip, α, fr, S, K, k, hk => hk.norm fr S
  | .region id ops draw, α, fr, S, K, k, hk => by
    unfold exec
    cases draw with
    | false => exact zhp hc (znA hk) hk.norm _ _ _
    | true =>
      dsimp only
      cases zfB P O f ops.toList (ancs ops.toList) with
      | true => exact drawH_lim hc (znA hk) hk.norm _ _
      | false => exact Lim.const _
  | .seq a b, α, fr, S, K, k, hk => by
    unfold exec
    dsimp only
    rcases O.join f (rid b) with _ | ⟨ks, kb⟩
    · exact zcn hc rs a fr S ⟨fun fr S => zcn hc rs b fr S hk, hk.exit, hk.ret⟩
    · refine ziK (zcn hc rs a fr _ ⟨fun _ _ => Lim.const _, fun _ _ _ => Lim.const _, fun _ _ => Lim.const _⟩) fun c l H => ?_
      cases c with
      | next => exact zcn hc rs b _ _ hk
      | exit id => exact hk.exit _ _ _
      | ret => exact hk.ret _ _
  | .cond c x y, α, fr, S, K, k, hk => by
    unfold exec
    dsimp only
    refine Lim.nat (p := sV (ev P.globals.size fr c) fun v => zaa v some) (G := fun n t => br t (exec ⟨P, O, hs n, f⟩ rs x α fr S (K n)) (exec ⟨P, O, hs n, f⟩ rs y α fr S (K n)))
      (g := fun t => br t (exec ⟨P, O, h, f⟩ rs x α fr S k) (exec ⟨P, O, h, f⟩ rs y α fr S k)) (fun n => zao fun v => zeC fun t => rfl) (zao fun v => zeC fun t => rfl) fun t => ?_
    cases t with
    | true => exact zcn hc rs x fr S hk
    | false => exact zcn hc rs y fr S hk
  | .block id c, α, fr, S, K, k, hk => by
    unfold exec
    refine zcn hc rs c fr S ⟨hk.norm, fun j fr S => ?_, hk.ret⟩
    try dsimp only
    unfold zay
    cases Nat.beq j id with
    | true => exact hk.norm _ _
    | false => exact hk.exit _ _ _
  | .loop c, α, fr, S, K, k, hk => by
    obtain ⟨ks, kb, hq⟩ : ∃ ks kb, O.loop f (rid c) = (ks, kb) := ⟨_, _, rfl⟩
    unfold exec
    simp only [hq]
    refine Lim.nat (fun n => zhI ks (g := some) fun v => rfl) (zhI ks (g := some) fun v => rfl) fun vs => ?_
    refine Lim.nat (fun n => zfS kb (g := some) fun v => rfl) (zfS kb (g := some) fun v => rfl) fun bs => ?_
    refine ziK (Lim.loop (fun l H => zcn hc rs c _ _ ⟨fun _ _ => Lim.const _, fun _ _ _ => Lim.const _, fun _ _ => Lim.const _⟩) _ _) fun c' l H => ?_
    cases c' with
    | next => exact Lim.const _
    | exit id => exact hk.exit _ _ _
    | ret => exact hk.ret _ _
  | .exit id, α, fr, S, K, k, hk => hk.exit id fr S
  | .ret, α, fr, S, K, k, hk => by
    unfold exec
    exact Lim.nat (fun n => zeV rs _) (zeV rs _) fun vs => hk.ret _ _
  | .rangeFunc _ _ _ _, _, _, _, _, _, _ => Lim.const _
  | .scope _, _, _, _, _, _, _ => Lim.const _
  | .label _, _, _, _, _, _, _ => Lim.const _
  | .goto _, _, _, _, _, _, _ => Lim.const _
  | .refuse _, _, _, _, _, _, _ => Lim.const _
theorem zlU {α : Type} {X : Nat → Option (Value × Hp)} {x : Option (Value × Hp)} (hx : Lim X x) {K : Nat → Value → Hp → Option α} {k : Value → Hp → Option α} (hk : ∀ l H, Lim (fun n => K n l H) (k l H)) :
    Lim (fun n => zgj (X n) (K n)) (zgj x k) := by
  have e0 : ∀ (x : Option (Value × Hp)) (k : Value → Hp → Option α), zgj x k = x.bind fun o => k o.1 o.2 := fun x k => by rcases x with _ | ⟨l, H⟩ <;> rfl
  have e : (fun n => zgj (X n) (K n)) = fun n => (X n).bind fun o => K n o.1 o.2 := funext fun n => e0 _ _
  rw [e, e0]
  exact hx.bind fun o => hk _ _
theorem ziy (hc : zew P O f hs h) (rs : List ResultVar) (c : Code) (fr : Fr) (S : St) : Lim (fun n => exec ⟨P, O, hs n, f⟩ rs c (Value × Hp) fr S (Kfun ⟨P, O, hs n, f⟩ rs)) (exec ⟨P, O, h, f⟩ rs c (Value × Hp) fr S (Kfun ⟨P, O, h, f⟩ rs)) :=
  zcn hc rs c _ _ ⟨fun _ _ => Lim.of_eq fun n => rfl, fun _ _ _ => Lim.const _, fun _ _ => Lim.const _⟩
theorem zlR {α : Type} (hc : zew P O f hs h) (g : FuncId) (args : List Value) (x : Value) (H : Hp) (k : Hp → Option α) : Lim (fun n => zgf P O (hs n) g args x H k) (zgf P O h g args x H k) := by
  have hg : zew P O g hs h := ⟨hc.lim⟩
  unfold zgf
  rcases P.funcs[g]? with _ | fn
  · exact Lim.const _
  · dsimp only
    cases fn.name == "runtime.NumGoroutine" with
    | true => exact Lim.const _
    | false =>
      cases O.pan g with
      | true => exact Lim.const _
      | false =>
        rcases fn.body with _ | c
        · exact Lim.const _
        · dsimp only
          rcases znt c with _ | ⟨d, b⟩
          · exact Lim.const _
          · dsimp only
            exact zlU (ziy hg _ b _ _) (K := fun n _ H => k H) (k := fun _ H => k H) fun _ _ => Lim.const _
theorem zoM (hc : zew P O f hs h) (rs : List ResultVar) (b : Code) (fr : Fr) (S : St) (fo : Operand) : Lim (fun n => zg5 ⟨P, O, hs n, f⟩ rs b fr S fo) (zg5 ⟨P, O, h, f⟩ rs b fr S fo) := by
  unfold zg5
  cases zgJ (wr b []) rs with
  | false => exact Lim.const _
  | true =>
    dsimp only
    rcases ev P.globals.size fr fo with _ | fv
    · exact Lim.const _
    · exact Lim.const _
    · rename_i fv
      unfold sV
      dsimp only
      unfold pClos
      split
      · rename_i g cs
        dsimp only
        refine zlU (ziy hc _ b _ _) fun v H => zld (fun u => ?_) fun x => ?_
        · have q1 : ∀ vs : List Value, Lim (fun n => zlg rs vs fun tv => zgf P O (hs n) g cs .nilIface H fun H' => endL P fr H' rs tv fun vs => some (W1 (resV vs), H')) (zlg rs vs fun tv => zgf P O h g cs .nilIface H fun H' => endL P fr H' rs tv fun vs => some (W1 (resV vs), H')) := fun vs => by
            unfold zlg
            split
            · exact zlR hc _ _ _ _ _
            · exact Lim.const _
          unfold zjW
          split
          · exact q1 _
          · split
            · exact q1 _
            · exact Lim.const _
        · unfold pTail
          split
          · exact zlR hc _ _ _ _ _
          · exact Lim.const _
      · exact Lim.const _
    · exact Lim.const _
theorem zix (hc : zew P O f hs h) (rs : List ResultVar) : ∀ (c : Code) (fr : Fr) (S : St), Lim (fun n => zlM ⟨P, O, hs n, f⟩ rs c fr S) (zlM ⟨P, O, h, f⟩ rs c fr S)
  | .seq a b, fr, S => by
    unfold zlM
    rcases zn8 a with _ | ⟨o1, fo⟩
    · dsimp only
      rcases O.join f (rid b) with _ | ⟨ks, kb⟩
      · exact zcn hc rs a fr S ⟨fun fr S => zix hc rs b fr S, fun _ _ _ => Lim.const _, fun _ _ => Lim.const _⟩
      · refine ziK (zcn hc rs a fr _ ⟨fun _ _ => Lim.const _, fun _ _ _ => Lim.const _, fun _ _ => Lim.const _⟩) fun c l H => ?_
        cases c with
        | next => exact zix hc rs b _ _
        | exit id => exact Lim.const _
        | ret => exact Lim.const _
    · exact zko hc fun s S' => zoM hc rs b _ _ fo
  | .skip, _, _ => Lim.const _
  | .region .., _, _ => Lim.const _
  | .cond .., _, _ => Lim.const _
  | .block .., _, _ => Lim.const _
  | .loop .., _, _ => Lim.const _
  | .exit _, _, _ => Lim.const _
  | .ret, _, _ => Lim.const _
  | .rangeFunc _ _ _ _, _, _ => Lim.const _
  | .scope _, _, _ => Lim.const _
  | .label _, _, _ => Lim.const _
  | .goto _, _, _ => Lim.const _
  | .refuse _, _, _ => Lim.const _
theorem execB_lim (hc : zew P O f hs h) (rs : List ResultVar) (c : Code) (fr : Fr) (S : St) : Lim (fun n => zoJ ⟨P, O, hs n, f⟩ rs c fr S) (zoJ ⟨P, O, h, f⟩ rs c fr S) := by
  unfold zoJ
  dsimp only
  cases O.dfr f with
  | false => exact ziy hc rs c _ _
  | true =>
    cases O.pan f with
    | true => exact zix hc rs c fr S
    | false => exact Lim.const _
theorem zlS {ext : FuncId → Option (List Value → Hp → Option (Value × Hp))} (hc : ∀ f, zew P O f hs h) (g : FuncId) (args : List Value) (H : Hp) : Lim (fun n => zhe P O ext (hs n) g args H) (zhe P O ext h g args H) := by
  unfold zhe
  rcases P.funcs[g]? with _ | fn
  · exact Lim.const _
  · dsimp only
    cases fn.name == "runtime.NumGoroutine" with
    | true => exact Lim.const _
    | false =>
      dsimp only
      rcases fn.body with _ | c
      · exact Lim.const _
      · dsimp only
        rcases ext g with _ | e
        · exact execB_lim (hc g) _ c _ _
        · exact Lim.const _
theorem zfT {ext : FuncId → Option (List Value → Hp → Option (Value × Hp))} : ∀ (n : Nat) (g : FuncId) (args : List Value) (H : Hp) (r : Value × Hp), runN P O ext n g args H = some r → runN P O ext (n + 1) g args H = some r
  | 0, g, args, H, r, h => by cases h
  | n + 1, g, args, H, r, h => by
    have hch : ∀ f, zew P O f (fun i => match i with | 0 => runN P O ext n | _ => runN P O ext (n + 1)) (runN P O ext (n + 1)) := fun f => ⟨fun g a H => ⟨fun i r hr => by
        cases i with
        | zero => exact zfT n g a H r hr
        | succ i => exact hr, fun i r hr => by
        cases i with
        | zero => exact zfT n g a H r hr
        | succ i => exact hr, fun r hr => ⟨1, hr⟩⟩⟩
    exact (zlS (ext := ext) hch g args H).mono 0 r h
theorem zj8 {ext : FuncId → Option (List Value → Hp → Option (Value × Hp))} {g : FuncId} {args : List Value} {H : Hp} {r : Value × Hp} : run P O ext g args H = some r ↔ ∃ n, runN P O ext n g args H = some r := by
  have hle : ∀ {n m : Nat} {r : Value × Hp}, n ≤ m → runN P O ext n g args H = some r → runN P O ext m g args H = some r := by
    intro n m r hm hr
    induction m with
    | zero => have : n = 0 := by omega
              subst this; exact hr
    | succ m ih =>
      rcases Nat.lt_or_ge m n with q | q
      · have : n = m + 1 := by omega
        subst this; exact hr
      · exact zfT m g args H r (ih q)
  unfold run
  constructor
  · intro h
    split at h
    · rename_i hex
      obtain ⟨n, hn⟩ := hex.choose_spec
      have h : hex.choose = r := by simpa using h
      exact ⟨n, by rw [hn, h]⟩
    · cases h
  · rintro ⟨n, hn⟩
    have hex : ∃ r n, runN P O ext n g args H = some r := ⟨r, n, hn⟩
    rw [dif_pos hex]
    obtain ⟨m, hm⟩ := hex.choose_spec
    have h1 := hle (Nat.le_max_left n m) hn
    have h2 := hle (Nat.le_max_right n m) hm
    rw [h1] at h2
    exact h2.symm
theorem run_eq {ext : FuncId → Option (List Value → Hp → Option (Value × Hp))} (g : FuncId) (args : List Value) (H : Hp) : run P O ext g args H = zhe P O ext (run P O ext) g args H := by
  have hch : ∀ f, zew P O f (runN P O ext) (run P O ext) := fun f => ⟨fun g a H => ⟨fun n r hr => zfT n g a H r hr, fun n r hr => zj8.2 ⟨n, hr⟩, fun r hr => zj8.1 hr⟩⟩
  have hl := zlS (ext := ext) hch g args H
  apply Option.ext
  intro r
  constructor
  · intro h
    obtain ⟨n, hn⟩ := zj8.1 h
    cases n with
    | zero => cases hn
    | succ n => exact hl.le n r hn
  · intro h
    obtain ⟨n, hn⟩ := hl.sup r h
    exact zj8.2 ⟨n + 1, hn⟩
theorem zaC {ext : FuncId → Option (List Value → Hp → Option (Value × Hp))} {g : FuncId} {fn : Func} (hf : P.funcs[g]? = some fn) (hn : (fn.name == "runtime.NumGoroutine") = false) (hb : fn.body.isSome = true) (hx : ext g = none) (args : List Value) (H : Hp) :
    run P O ext g args H = zeu P O (run P O ext) g fn args H := by
  rw [run_eq]
  unfold zhe zeu
  rw [hf]
  dsimp only
  rw [hn]
  dsimp only
  obtain ⟨c, hc⟩ := Option.isSome_iff_exists.1 hb
  rw [hc]
  dsimp only
  rw [hx]
  rfl
end
end Go.AM
namespace Go.AM
open Go
section
variable {α : Type} {P : Program}
theorem zac (b : Bool) (k : Bool → Option α) : zaa (.bool b) k = k b := rfl
theorem s_br (b : Bool) (x y : Option α) : br b x y = if b = true then x else y := by cases b <;> rfl
theorem zbc (T : TypeId) (kd : IntKind) (a b : Int) (k : Value → Option α) : pBin P .lss T (.int kd a) (.int kd b) k = k (.bool (decide (a < b))) := by simp [pBin, binV, zdM]
theorem zfp (T : TypeId) (kd : IntKind) (a b : Int) (k : Value → Option α) : pBin P .leq T (.int kd a) (.int kd b) k = k (.bool (decide (a ≤ b))) := by simp [pBin, binV, zdM]
theorem zb1 (T : TypeId) (kd : IntKind) (a b : Int) (k : Value → Option α) : pBin P .gtr T (.int kd a) (.int kd b) k = k (.bool (decide (a > b))) := by simp [pBin, binV, zdM]
theorem zde (T : TypeId) (kd : IntKind) (a b : Int) (k : Value → Option α) : pBin P .geq T (.int kd a) (.int kd b) k = k (.bool (decide (a ≥ b))) := by simp [pBin, binV, zdM]
theorem za0 (T : TypeId) (kd : IntKind) (a b : Int) (k : Value → Option α) : pBin P .eql T (.int kd a) (.int kd b) k = k (.bool (decide (a = b))) := by
  have : (a == b) = decide (a = b) := by rw [Bool.eq_iff_iff]; simp
  simp [pBin, binV, zdM, this]
theorem zbo (T : TypeId) (kd : IntKind) (a b : Int) (k : Value → Option α) : pBin P .neq T (.int kd a) (.int kd b) k = k (.bool (decide (a ≠ b))) := by
  have : (a != b) = decide (a ≠ b) := by rw [Bool.eq_iff_iff]; simp
  simp [pBin, binV, zdM, this]
theorem za5 (T : TypeId) (kd : IntKind) (a b : Int) (k : Value → Option α) : pBin P .add T (.int kd a) (.int kd b) k = k (.int kd (kd.wrap (a + b))) := by simp [pBin, binV, zdM]
theorem zdr (T : TypeId) (kd : IntKind) (a b : Int) (k : Value → Option α) : pBin P .sub T (.int kd a) (.int kd b) k = k (.int kd (kd.wrap (a - b))) := by simp [pBin, binV, zdM]
theorem s_mul (T : TypeId) (kd : IntKind) (a b : Int) (k : Value → Option α) : pBin P .mul T (.int kd a) (.int kd b) k = k (.int kd (kd.wrap (a * b))) := by simp [pBin, binV, zdM]
theorem zbE (b : Bool) (k : Value → Option α) : pUn .not (.bool b) k = k (.bool !b) := rfl
theorem zbV (a : Addr) (k : Option α) : pNil (.pointer (some a)) k = k := rfl
theorem zaT (n i o : Nat) (k : Value → Option α) : zas n (.pointer (some ⟨i, o, none⟩)) k = k (.pointer (some ⟨i, o + n, none⟩)) := rfl
theorem zbl {H : Hp} {i : Nat} {cs : List Value} {own : Bool} (h : H.get i = some (.cells cs own)) (o : Nat) (v : Value) (hv : cs[o]? = some v) (k : Value → Option α) : zal 1 false H (.pointer (some ⟨i, o, none⟩)) k = k v := by
  simp [zal, Hp.rdP, Hp.rd, h, zb6, hv]
theorem zdT (cs : List Value) (o : Nat) (v : Value) (hv : cs[o]? = some v) (k : Value → Option α) : zai 1 false cs o k = k v := by simp [zai, zb6, hv]
theorem zap (c : Ctl) (l : List Value) (H : Hp) (k : Ctl → List Value → Hp → Option α) : zav (some (c, l, H)) k = k c l H := rfl
theorem zdU (p : Prop) [Decidable p] (a b : Option Outc) (k : Ctl → List Value → Hp → Option α) : zav (if p then a else b) k = if p then zav a k else zav b k := by split <;> rfl
theorem za3 (a : Option α) (b : Nat → Option α) (c : Option α) : zaL .next a b c = a := rfl
theorem zbg (j : Nat) (a : Option α) (b : Nat → Option α) (c : Option α) : zaL (.exit j) a b c = b j := rfl
theorem zez (a : Option α) (b : Nat → Option α) (c : Option α) : zaL .ret a b c = c := rfl
theorem zaJ (j : Nat) (x y : Option α) : zay j j x y = x := by simp [zay]
theorem zag {h : zad} {g : FuncId} {args : List Value} {H : Hp} {v : Value} {H' : Hp} (e : h g args H = some (v, H')) (k : Value → Hp → Option α) : zaf h g args H k = k v H' := by simp [zaf, e]
end
end Go.AM
namespace Go.AM
open Go
variable {α : Type}
theorem bT {p : Prop} [Decidable p] (h : p) (x y : Option α) : (zaa (.bool (decide p)) fun b => br b x y) = x := by
  show br (decide p) x y = x
  rw [decide_eq_true h]; rfl
theorem bF {p : Prop} [Decidable p] (h : ¬ p) (x y : Option α) : (zaa (.bool (decide p)) fun b => br b x y) = y := by
  show br (decide p) x y = y
  rw [decide_eq_false h]; rfl
theorem eT {P : Program} {T : TypeId} {kd : IntKind} {a b : Int} (h : a = b) (x y : Option α) : (pBin P .eql T (.int kd a) (.int kd b) fun v => zaa v fun b => br b x y) = x := by
  rw [za0, bT h]
theorem eF {P : Program} {T : TypeId} {kd : IntKind} {a b : Int} (h : ¬ a = b) (x y : Option α) : (pBin P .eql T (.int kd a) (.int kd b) fun v => zaa v fun b => br b x y) = y := by
  rw [za0, bF h]
theorem lT {P : Program} {T : TypeId} {kd : IntKind} {a b : Int} (h : a < b) (x y : Option α) : (pBin P .lss T (.int kd a) (.int kd b) fun v => zaa v fun b => br b x y) = x := by
  rw [zbc, bT h]
theorem lF {P : Program} {T : TypeId} {kd : IntKind} {a b : Int} (h : ¬ a < b) (x y : Option α) : (pBin P .lss T (.int kd a) (.int kd b) fun v => zaa v fun b => br b x y) = y := by
  rw [zbc, bF h]
theorem x01 (a b : Value) (k : Value → Value → Option α) : (zae (.tuple #[a, b]) 0 fun u => zae (.tuple #[a, b]) 1 fun v => k u v) = k a b := rfl
theorem qg0 {β : Type} {a : β} {l : List β} {d : β} : (a :: l).getD 0 d = a := List.getD_cons_zero
theorem qg1 {β : Type} {a : β} {l : List β} {n : Nat} {d : β} : (a :: l).getD (n + 1) d = l.getD n d := List.getD_cons_succ
theorem qd1 {β : Type} {a : β} {l : List β} {n : Nat} : (a :: l).drop (n + 1) = l.drop n := List.drop_succ_cons
theorem qd0 {β : Type} {l : List β} : l.drop 0 = l := List.drop_zero
end Go.AM
namespace Go.AM
open Go
structure Frm (M : Nat → Prop) (H H' : Hp) : Prop where
  next : H.next ≤ H'.next
  same : ∀ j, j < H.next → ¬ M j → H'.get j = H.get j
theorem Frm.refl (M : Nat → Prop) (H : Hp) : Frm M H H := ⟨Nat.le_refl _, fun _ _ _ => rfl⟩
theorem Frm.trans {M N : Nat → Prop} {H H1 H2 : Hp} (h : Frm M H H1) (k : Frm N H1 H2) (hn : ∀ j, N j → M j ∨ H.next ≤ j) : Frm M H H2 :=
  ⟨Nat.le_trans h.next k.next, fun j hj hm => by
    rw [k.same j (Nat.lt_of_lt_of_le hj h.next) (fun q => by rcases hn j q with a | a; exact hm a; omega), h.same j hj hm]⟩
theorem Frm.mono {M N : Nat → Prop} {H H' : Hp} (h : Frm M H H') (hn : ∀ j, M j → N j ∨ H.next ≤ j) : Frm N H H' := ⟨h.next, fun j hj hm => h.same j hj fun q => by rcases hn j q with a | a; exact hm a; omega⟩
def vid : Value → Option Nat
  | .slice (some a) _ _ => some a.block
  | _ => none
def Id (v : Value) (j : Nat) : Prop := vid v = some j
theorem get_new (H : Hp) (o : AObj) (i : Nat) : (H.new o).get i = if i = H.next then some o else H.get i := rfl
theorem get_set (H : Hp) (j : Nat) (o : Option AObj) (i : Nat) : (H.set j o).get i = if i = j then o else H.get i := rfl
theorem zct (H : Hp) (o : AObj) (M : Nat → Prop) : Frm M H (H.new o) := ⟨by show H.next ≤ H.next + 1; omega, fun j hj _ => by rw [get_new, if_neg (by omega)]⟩
theorem zfi (H : Hp) (i : Nat) (o : Option AObj) (M : Nat → Prop) (hm : M i) : Frm M H (H.set i o) := ⟨Nat.le_refl _, fun j hj hn => by rw [get_set, if_neg (fun e => hn (by rw [e]; exact hm))]⟩
def Vec (H : Hp) (sz : Nat) (v : Value) (n : Nat) (cs : List Value) : Prop :=
  (n = 0 ∧ cs = [] ∧ v = .slice none 0 0) ∨ ∃ y c rest, v = .slice (some ⟨y, 0, some sz⟩) n c ∧ n ≤ c ∧ H.get y = some (.cells (cs ++ rest) true) ∧ cs.length = n * sz ∧ rest.length = (c - n) * sz ∧ y < H.next ∧ rest.all one = true
section
variable {H H' : Hp} {sz : Nat} {v : Value} {n : Nat} {cs : List Value}
theorem Vec.len (h : Vec H sz v n cs) {α : Type} (H' : Hp) (k : Value → Option α) : pLen .sl v H' k = k (.int .i64 n) := by
  rcases h with ⟨rfl, _, rfl⟩ | ⟨y, c, rest, rfl, _⟩ <;> rfl
theorem Vec.size (h : Vec H sz v n cs) : cs.length = n * sz := by
  rcases h with ⟨rfl, rfl, _⟩ | ⟨y, c, rest, _, _, _, h, _⟩
  · simp
  · exact h
theorem Vec.lt (h : Vec H sz v n cs) {j : Nat} (hj : Id v j) : j < H.next := by
  rcases h with ⟨_, _, rfl⟩ | ⟨y, c, rest, rfl, _, _, _, _, h, _⟩
  · cases hj
  · cases hj; exact h
theorem Vec.keep' (h : Vec H sz v n cs) (hg : ∀ j, Id v j → H'.get j = H.get j) (hn : H.next ≤ H'.next) : Vec H' sz v n cs := by
  rcases h with e | ⟨y, c, rest, rfl, h1, h2, h3, h4, h5, h6⟩
  · exact .inl e
  · exact .inr ⟨y, c, rest, rfl, h1, by rw [hg y rfl]; exact h2, h3, h4, Nat.lt_of_lt_of_le h5 hn, h6⟩
theorem Vec.keep {M : Nat → Prop} (h : Vec H sz v n cs) (k : Frm M H H') (hm : ∀ j, Id v j → ¬ M j) : Vec H' sz v n cs :=
  h.keep' (fun j hj => k.same j (h.lt hj) (hm j hj)) k.next
theorem Vec.nil (H : Hp) (sz : Nat) : Vec H sz (.slice none 0 0) 0 [] := .inl ⟨rfl, rfl, rfl⟩
theorem Vec.ix (h : Vec H sz v n cs) {i : Nat} (hi : i < n) : ∃ y, Id v y ∧ (∃ rest, H.get y = some (.cells (cs ++ rest) true)) ∧ ∀ (α : Type) (kd : IntKind) (k : Value → Option α), pIdx sz v (.int kd (i : Int)) k = k (.pointer (some ⟨y, i * sz, none⟩)) := by
  rcases h with ⟨rfl, _, _⟩ | ⟨y, c, rest, rfl, h1, h2, h3, h4, h5⟩
  · omega
  · refine ⟨y, rfl, ⟨rest, h2⟩, fun α kd k => ?_⟩
    unfold pIdx idxV
    have : sz = sz ∧ (0 : Int) ≤ (i : Int) ∧ (i : Int) < (n : Int) := ⟨rfl, by omega, by omega⟩
    simp only [this, and_self, if_true, Nat.zero_add, Int.toNat_natCast]
theorem zfA {y : Nat} {rest : List Value} {own : Bool} (h : H.get y = some (.cells (cs ++ rest) own)) {o : Nat} {x : Value} (hx : cs[o]? = some x) {α : Type} (k : Value → Option α) : zal 1 false H (.pointer (some ⟨y, o, none⟩)) k = k x := by
  have hlt := (List.getElem?_eq_some_iff.1 hx).1
  have : (cs ++ rest)[o]? = some x := by rw [List.getElem?_append_left hlt]; exact hx
  simp [zal, Hp.rdP, Hp.rd, h, zb6, this]
theorem ld_agg {y : Nat} {rest : List Value} {own : Bool} (h : H.get y = some (.cells (cs ++ rest) own)) {o m : Nat} (ho : o + m ≤ cs.length) {α : Type} (k : Value → Option α) : zal m true H (.pointer (some ⟨y, o, none⟩)) k = k (.agg ((cs.drop o).take m).toArray) := by
  have h1 : o + m ≤ (cs ++ rest).length := by rw [List.length_append]; omega
  have h2 : ((cs ++ rest).drop o).take m = (cs.drop o).take m := by
    rw [List.drop_append_of_le_length (by omega), List.take_append_of_le_length (by rw [List.length_drop]; omega)]
  simp only [zal, Hp.rdP, Hp.rd, h, zb6, h1, if_true, h2]
theorem Vec.ids (h : Vec H sz v n cs) {y : Nat} (hy : Id v y) : ∃ c rest, v = .slice (some ⟨y, 0, some sz⟩) n c ∧ n ≤ c ∧ H.get y = some (.cells (cs ++ rest) true) ∧ cs.length = n * sz ∧ rest.length = (c - n) * sz ∧ y < H.next ∧ rest.all one = true := by
  rcases h with ⟨_, _, rfl⟩ | ⟨y', c, rest, rfl, h⟩
  · cases hy
  · cases hy; exact ⟨c, rest, rfl, h⟩
theorem Vec.set (h : Vec H sz v n cs) {y o m : Nat} (hy : Id v y) {x : Value} (hm : (zab x).length = m) (ho : o + m ≤ cs.length) (h1 : (zab x).all one = true) :
    ∃ H', (∀ (α : Type) (k : Hp → Option α), zar m H (.pointer (some ⟨y, o, none⟩)) x k = k H') ∧ Vec H' sz v n (spl cs o (zab x)) ∧ Frm (Id v) H H' ∧ H'.next = H.next := by
  obtain ⟨c, rest, rfl, g1, g2, g3, g4, g5, g6⟩ := h.ids hy
  have hs : spl (cs ++ rest) o (zab x) = spl cs o (zab x) ++ rest := by
    unfold spl
    rw [List.take_append_of_le_length (by omega), List.drop_append_of_le_length (by omega)]
    simp
  have hw : zbj m (cs ++ rest) o x = some (spl cs o (zab x) ++ rest) := by
    unfold zbj
    rw [if_pos ⟨hm, by rw [List.length_append]; omega, h1⟩, hs]
  have hl : (spl cs o (zab x)).length = cs.length := by
    unfold spl
    simp only [List.length_append, List.length_take, List.length_drop, hm]
    omega
  refine ⟨H.set y (some (.cells (spl cs o (zab x) ++ rest) true)), fun α k => ?_, .inr ⟨y, c, rest, rfl, g1, ?_, by rw [hl]; exact g3, g4, g5, g6⟩, zfi _ _ _ _ rfl, rfl⟩
  · unfold zar
    have : H.wr (.pointer (some ⟨y, o, none⟩)) m x = some (H.set y (some (.cells (spl cs o (zab x) ++ rest) true))) := by
      show (match H.get y with | some (.cells cs true) => (match zbj m cs o x with | some cs' => some (H.set y (some (.cells cs' true))) | none => none) | _ => none) = _
      rw [g2]; dsimp only; rw [hw]
    rw [this]
  · rw [get_set, if_pos rfl]
theorem Vec.cut (h : Vec H sz v n cs) (hcs : cs.all one = true) {m : Nat} (hm : m ≤ n) : ∃ v', (∀ (α : Type) (kd : IntKind) (k : Value → Option α), zch sz v none (some (.int kd (m : Int))) k = k v') ∧ Vec H sz v' m (cs.take (m * sz)) ∧ (∀ j, Id v' j → Id v j) := by
  rcases h with ⟨rfl, rfl, rfl⟩ | ⟨y, c, rest, rfl, h1, h2, h3, h4, h5, h6⟩
  · obtain rfl : m = 0 := by omega
    refine ⟨.slice none 0 0, fun α kd k => ?_, by simpa using Vec.nil H sz, fun j hj => hj⟩
    unfold zch zfa
    simp [zcI]
  · refine ⟨.slice (some ⟨y, 0, some sz⟩) m c, fun α kd k => ?_, .inr ⟨y, c, cs.drop (m * sz) ++ rest, rfl, by omega, ?_, ?_, ?_, h5, ?_⟩, fun j hj => hj⟩
    · have : zfa sz (.slice (some ⟨y, 0, some sz⟩) n c) none (some (.int kd (m : Int))) = some (.slice (some ⟨y, 0, some sz⟩) m c) := by
        unfold zfa
        dsimp only [zcI]
        rw [if_pos ⟨rfl, by omega, by omega, by omega⟩]
        simp
      unfold zch
      rw [this]
    · rw [← List.append_assoc, List.take_append_drop]; exact h2
    · rw [List.length_take, h3]; exact Nat.min_eq_left (Nat.mul_le_mul_right sz hm)
    · rw [List.length_append, List.length_drop, h3, h4, Nat.sub_mul, Nat.sub_mul]
      have a1 := Nat.mul_le_mul_right sz hm
      have a2 := Nat.mul_le_mul_right sz h1
      rw [Nat.sub_mul] at *
      omega
    · rw [List.all_append, Bool.and_eq_true]
      refine ⟨?_, h6⟩
      rw [List.all_eq_true] at hcs ⊢
      exact fun x hx => hcs x (List.mem_of_mem_drop hx)
theorem zeW (zs : List Value) : ∀ n, (repl n zs).length = n * zs.length
  | 0 => by simp [repl]
  | n + 1 => by show (zs ++ repl n zs).length = _; rw [List.length_append, zeW zs n, Nat.succ_mul]; omega
theorem Vec.make (H : Hp) {sz bytes : Nat} {zs : List Value} (hz : zs.length = sz) {n : Nat} (hb : n * bytes ≤ 2 ^ 47) :
    ∃ v, (∀ (α : Type) (k : Value → Hp → Option α), zaZ sz bytes zs (.int .i64 (n : Int)) (.int .i64 (n : Int)) H k = k v (H.new (.cells (repl n zs) true))) ∧ Vec (H.new (.cells (repl n zs) true)) sz v n (repl n zs) ∧ (∀ j, Id v j → j = H.next) := by
  refine ⟨.slice (some ⟨H.next, 0, some sz⟩) n n, fun α k => ?_, .inr ⟨H.next, n, [], rfl, Nat.le_refl _, ?_, by rw [zeW, hz], by simp, by show H.next < H.next + 1; omega, rfl⟩, fun j hj => by cases hj; rfl⟩
  · have e : ((2 : Int) ^ 47) = ((2 ^ 47 : Nat) : Int) := by rfl
    have hb' : (n : Int) * (bytes : Int) ≤ 2 ^ 47 := by rw [e, ← Int.natCast_mul]; exact Int.ofNat_le.2 hb
    have : zbX sz bytes zs (.int .i64 (n : Int)) (.int .i64 (n : Int)) H = some (.slice (some ⟨H.next, 0, some sz⟩) n n, H.new (.cells (repl n zs) true)) := by
      unfold zbX
      dsimp only
      rw [if_pos ⟨by omega, by omega, hb'⟩]
      rfl
    unfold zaZ
    rw [this]
  · rw [get_new, if_pos rfl, List.append_nil]
theorem Vec.push (h : Vec H sz v n cs) {bytes : Nat} {zs : List Value} {x : Value} (hs : 0 < sz) (hs2 : sz ≤ 2 ^ 24) (hz : zs.length = sz) (hx : (zab x).length = sz) (h1 : (zab x).all one = true) (hb : (n + 1) * bytes ≤ 2 ^ 47) :
    ∃ v' H', (∀ (α : Type) (k : Value → Hp → Option α), (zaj sz zs 1 [(0, x)] H fun t H1 => zaF sz bytes v t H1 k) = k v' H') ∧ Vec H' sz v' (n + 1) (cs ++ zab x) ∧ Frm (Id v) H H' ∧ (∀ j, Id v' j → Id v j ∨ H.next ≤ j) ∧ (∃ j, Id v' j) := by
  have hbuild : zbK sz zs 1 [(0, x)] H = some (.slice (some ⟨H.next, 0, some sz⟩) 1 1, H.new (.cells (zab x) true)) := by
    unfold zbK
    rw [if_neg (by omega)]
    have e0 : spl (repl 1 zs) (0 * sz) (zab x) = zab x := by
      unfold spl
      have : (repl 1 zs).length = sz := by rw [zeW, hz, Nat.one_mul]
      rw [Nat.zero_mul, List.take_zero, List.nil_append, List.drop_of_length_le (by omega), List.append_nil]
    have : ziu (fun i => some (i * sz, sz)) (repl 1 zs) [(0, x)] = some (zab x) := by
      unfold ziu
      dsimp only
      rw [if_pos ⟨hx, by rw [zeW, hz]; omega, h1⟩, e0]
      rfl
    rw [this]
  have hb' : ∀ (α : Type) (k : Value → Hp → Option α), (zaj sz zs 1 [(0, x)] H fun t H1 => zaF sz bytes v t H1 k) = zaF sz bytes v (.slice (some ⟨H.next, 0, some sz⟩) 1 1) (H.new (.cells (zab x) true)) k := fun α k => by
    unfold zaj; rw [hbuild]
  generalize hH1 : H.new (.cells (zab x) true) = H1 at hb'
  have n1 : H1.next = H.next + 1 := by rw [← hH1]; rfl
  have g1 : ∀ j, j < H.next → H1.get j = H.get j := fun j hj => by rw [← hH1, get_new, if_neg (by omega)]
  have gt : H1.get H.next = some (.cells (zab x) true) := by rw [← hH1, get_new, if_pos rfl]
  have hsrc : zb4 sz (.slice (some ⟨H.next, 0, some sz⟩) 1 1) H1 = some (1, zab x) := by
    unfold zb4
    dsimp only
    rw [if_pos rfl, gt]
    dsimp only
    rw [if_pos (by omega), List.drop_zero, List.take_of_length_le (by omega)]
  rcases h with ⟨rfl, rfl, rfl⟩ | ⟨y, c, rest, rfl, k1, k2, k3, k4, k5, k6⟩
  · refine ⟨.slice (some ⟨H1.next, 0, some sz⟩) 1 1, H1.new (.cells (zab x) true), fun α k => ?_, .inr ⟨H1.next, 1, [], rfl, Nat.le_refl _, ?_, by simpa using hx, by simp, by show H1.next < H1.next + 1; omega, rfl⟩, ⟨by show H.next ≤ H1.next + 1; omega, fun j hj _ => by rw [get_new, if_neg (by omega), g1 j hj]⟩, fun j hj => ?_, ⟨_, rfl⟩⟩
    · rw [hb']
      unfold zaF zcC
      rw [hsrc]
      dsimp only
      rw [if_neg (by decide), if_pos ⟨by omega, h1⟩]
      rfl
    · rw [get_new, if_pos rfl, List.nil_append, List.append_nil]
    · cases hj; exact .inr (by show H.next ≤ H1.next; omega)
  · have gy : H1.get y = some (.cells (cs ++ rest) true) := by rw [g1 y k5]; exact k2
    have hyn : y ≠ H.next := by omega
    by_cases hc : n + 1 ≤ c
    · -- in place
      have hrl : sz ≤ rest.length := by
        rw [k4]
        have : 1 * sz ≤ (c - n) * sz := Nat.mul_le_mul_right sz (by omega)
        omega
      have hsp : spl (cs ++ rest) (0 + n * sz) (zab x) = (cs ++ zab x) ++ rest.drop sz := by
        unfold spl
        rw [Nat.zero_add, ← k3, List.take_left' rfl, hx]
        rw [List.drop_append, List.drop_of_length_le (by omega), List.nil_append, Nat.add_sub_cancel_left]
      refine ⟨.slice (some ⟨y, 0, some sz⟩) (n + 1) c, H1.set y (some (.cells ((cs ++ zab x) ++ rest.drop sz) true)), fun α k => ?_, .inr ⟨y, c, rest.drop sz, rfl, hc, ?_, ?_, ?_, by show y < H1.next; omega, ?_⟩, ⟨by show H.next ≤ H1.next; omega, fun j hj hm => ?_⟩, fun j hj => ?_, ⟨_, rfl⟩⟩
      · rw [hb']
        unfold zaF zcC
        rw [hsrc]
        dsimp only
        rw [if_neg (by simp), if_neg (by omega), gy]
        dsimp only
        rw [if_pos hc, if_pos ⟨by rw [List.length_append, k3, k4]; have := Nat.mul_le_mul_right sz hc; rw [Nat.sub_mul]; have := Nat.mul_le_mul_right sz k1; omega, h1⟩, hsp]
      · rw [get_set, if_pos rfl]
      · rw [List.length_append, k3, hx, Nat.succ_mul]
      · rw [List.length_drop, k4]
        have : (c - n) * sz = (c - (n + 1)) * sz + sz := by rw [← Nat.succ_mul]; congr 1; omega
        omega
      · rw [List.all_eq_true] at k6 ⊢
        exact fun z hz => k6 z (List.mem_of_mem_drop hz)
      · rw [get_set, if_neg (fun e => hm (by rw [e]; rfl)), g1 j hj]
      · cases hj; exact .inl rfl
    · -- it moves
      refine ⟨.slice (some ⟨H1.next, 0, some sz⟩) (n + 1) (n + 1), (H1.set y none).new (.cells (cs ++ zab x) true), fun α k => ?_, .inr ⟨H1.next, n + 1, [], rfl, Nat.le_refl _, ?_, ?_, by simp, by show H1.next < H1.next + 1; omega, rfl⟩, ⟨by show H.next ≤ H1.next + 1; omega, fun j hj hm => ?_⟩, fun j hj => ?_, ⟨_, rfl⟩⟩
      · rw [hb']
        unfold zaF zcC
        rw [hsrc]
        dsimp only
        have ht : ((cs ++ rest).drop 0).take (n * sz) = cs := by rw [List.drop_zero, ← k3, List.take_left' rfl]
        rw [if_neg (by simp), if_neg (by omega), gy]
        dsimp only
        rw [if_neg hc, if_pos ⟨by rw [List.length_append, k3]; omega, hb, h1⟩, ht]
      · rw [get_new, if_pos (show H1.next = (H1.set y none).next from rfl), List.append_nil]
      · rw [List.length_append, k3, hx, Nat.succ_mul]
      · rw [get_new, if_neg (by show ¬ j = H1.next; omega), get_set, if_neg (fun e => hm (by rw [e]; rfl)), g1 j hj]
      · cases hj; exact .inr (by show H.next ≤ H1.next; omega)
end
end Go.AM
namespace Go.AM
open Go
def Rdb (H : Hp) (sz : Nat) (v : Value) (n : Nat) (cs : List Value) : Prop :=
  (n = 0 ∧ cs = [] ∧ v = .slice none 0 0) ∨ ∃ y c rest own, v = .slice (some ⟨y, 0, some sz⟩) n c ∧ n ≤ c ∧ H.get y = some (.cells (cs ++ rest) own) ∧ cs.length = n * sz ∧ y < H.next
section
variable {H H' : Hp} {sz : Nat} {v : Value} {n : Nat} {cs : List Value}
theorem Vec.rd (h : Vec H sz v n cs) : Rdb H sz v n cs := by
  rcases h with e | ⟨y, c, rest, rfl, h1, h2, h3, h4, h5, h6⟩
  · exact .inl e
  · exact .inr ⟨y, c, rest, true, rfl, h1, h2, h3, h5⟩
theorem Rdb.len (h : Rdb H sz v n cs) {α : Type} (H' : Hp) (k : Value → Option α) : pLen .sl v H' k = k (.int .i64 n) := by
  rcases h with ⟨rfl, _, rfl⟩ | ⟨y, c, rest, own, rfl, _⟩ <;> rfl
theorem Rdb.size (h : Rdb H sz v n cs) : cs.length = n * sz := by
  rcases h with ⟨rfl, rfl, _⟩ | ⟨y, c, rest, own, _, _, _, h, _⟩
  · simp
  · exact h
theorem Rdb.lt (h : Rdb H sz v n cs) {j : Nat} (hj : Id v j) : j < H.next := by
  rcases h with ⟨_, _, rfl⟩ | ⟨y, c, rest, own, rfl, _, _, _, h⟩
  · cases hj
  · cases hj; exact h
theorem Rdb.keep' (h : Rdb H sz v n cs) (hg : ∀ j, Id v j → H'.get j = H.get j) (hn : H.next ≤ H'.next) : Rdb H' sz v n cs := by
  rcases h with e | ⟨y, c, rest, own, rfl, h1, h2, h3, h4⟩
  · exact .inl e
  · exact .inr ⟨y, c, rest, own, rfl, h1, by rw [hg y rfl]; exact h2, h3, Nat.lt_of_lt_of_le h4 hn⟩
theorem Rdb.keep {M : Nat → Prop} (h : Rdb H sz v n cs) (k : Frm M H H') (hm : ∀ j, Id v j → ¬ M j) : Rdb H' sz v n cs :=
  h.keep' (fun j hj => k.same j (h.lt hj) (hm j hj)) k.next
theorem Rdb.ix (h : Rdb H sz v n cs) {i : Nat} (hi : i < n) : ∃ y, Id v y ∧ (∃ rest own, H.get y = some (.cells (cs ++ rest) own)) ∧ ∀ (α : Type) (kd : IntKind) (k : Value → Option α), pIdx sz v (.int kd (i : Int)) k = k (.pointer (some ⟨y, i * sz, none⟩)) := by
  rcases h with ⟨rfl, _, _⟩ | ⟨y, c, rest, own, rfl, h1, h2, h3, h4⟩
  · omega
  · refine ⟨y, rfl, ⟨rest, own, h2⟩, fun α kd k => ?_⟩
    unfold pIdx idxV
    have : sz = sz ∧ (0 : Int) ≤ (i : Int) ∧ (i : Int) < (n : Int) := ⟨rfl, by omega, by omega⟩
    simp only [this, and_self, if_true, Nat.zero_add, Int.toNat_natCast]
end
end Go.AM
namespace Go.AM
open Go
structure Sl where
  sz : Nat
  v : Value
  n : Nat
  cs : List Value
structure Own (H0 H : Hp) (vs : List Sl) : Prop where
  next : H0.next ≤ H.next
  old : ∀ j, j < H0.next → H.get j = H0.get j
  vec : ∀ e ∈ vs, Vec H e.sz e.v e.n e.cs
  new : ∀ e ∈ vs, ∀ j, Id e.v j → H0.next ≤ j
  apart : vs.Pairwise fun a b => ∀ j, Id a.v j → ¬ Id b.v j
section
variable {H0 H : Hp} {sz : Nat} {v : Value} {n : Nat} {cs : List Value} {r : List Sl}
theorem Own.nil (H : Hp) : Own H H [] := ⟨Nat.le_refl _, fun _ _ => rfl, fun e h => (by cases h), fun e h => (by cases h), List.Pairwise.nil⟩
theorem Own.head {a : Sl} (h : Own H0 H (a :: r)) : Vec H a.sz a.v a.n a.cs := h.vec a (List.mem_cons_self ..)
theorem Own.upd {a a' : Sl} {H' : Hp} (h : Own H0 H (a :: r)) (hv : Vec H' a'.sz a'.v a'.n a'.cs) (hf : Frm (Id a.v) H H') (hi : ∀ j, Id a'.v j → Id a.v j ∨ H.next ≤ j) : Own H0 H' (a' :: r) := by
  obtain ⟨h1, h2⟩ := List.pairwise_cons.1 h.apart
  have hn := h.next
  refine ⟨Nat.le_trans h.next hf.next, fun j hj => ?_, fun e he => ?_, fun e he j hj => ?_, List.pairwise_cons.2 ⟨fun e he j x y => ?_, h2⟩⟩
  · rw [hf.same j (Nat.lt_of_lt_of_le hj h.next) (fun q => by have := h.new a (by simp) j q; omega), h.old j hj]
  · rcases List.mem_cons.1 he with rfl | he
    · exact hv
    · exact (h.vec e (by simp [he])).keep hf fun j x y => h1 e he j y x
  · rcases List.mem_cons.1 he with rfl | he
    · rcases hi j hj with q | q
      · exact h.new a (by simp) j q
      · omega
    · exact h.new e (by simp [he]) j hj
  · rcases hi j x with q | q
    · exact h1 e he j q y
    · have := (h.vec e (by simp [he])).lt y; omega
theorem Own.frm {H' : Hp} (h : Own H0 H r) (hf : Frm (fun _ => False) H H') : Own H0 H' r :=
  ⟨Nat.le_trans h.next hf.next, fun j hj => by rw [hf.same j (Nat.lt_of_lt_of_le hj h.next) (fun q => q), h.old j hj], fun e he => (h.vec e he).keep hf fun j _ q => q, h.new, h.apart⟩
theorem Own.toFrm (h : Own H0 H r) : Frm (fun _ => False) H0 H := ⟨h.next, fun j hj _ => h.old j hj⟩
theorem Own.addNil (h : Own H0 H r) (sz : Nat) : Own H0 H (⟨sz, .slice none 0 0, 0, []⟩ :: r) := by
  refine ⟨h.next, h.old, fun e he => ?_, fun e he j hj => ?_, List.pairwise_cons.2 ⟨fun e he j x => (by cases x), h.apart⟩⟩
  · rcases List.mem_cons.1 he with rfl | he
    · exact Vec.nil H sz
    · exact h.vec e he
  · rcases List.mem_cons.1 he with rfl | he
    · cases hj
    · exact h.new e he j hj
theorem Own.push (h : Own H0 H (⟨sz, v, n, cs⟩ :: r)) {bytes : Nat} {zs : List Value} {x : Value} (hs : 0 < sz) (hs2 : sz ≤ 2 ^ 24) (hz : zs.length = sz) (hx : (zab x).length = sz) (h1 : (zab x).all one = true) (hb : (n + 1) * bytes ≤ 2 ^ 47) :
    ∃ v' H', (∀ (α : Type) (k : Value → Hp → Option α), (zaj sz zs 1 [(0, x)] H fun t H1 => zaF sz bytes v t H1 k) = k v' H') ∧ Own H0 H' (⟨sz, v', n + 1, cs ++ zab x⟩ :: r) := by
  obtain ⟨v', H', e1, e2, e3, e4, _⟩ := h.head.push (bytes := bytes) (zs := zs) hs hs2 hz hx h1 hb
  exact ⟨v', H', e1, h.upd (a' := ⟨sz, v', n + 1, cs ++ zab x⟩) e2 e3 e4⟩
end
end Go.AM
namespace Go.AM
end Go.AM
namespace Go.AM
open Go
section
variable {α : Type} {P : Program}
theorem q_conv (kd k2 : IntKind) (a : Int) (k : Value → Option α) : zan kd (.int k2 a) k = k (.int kd (kd.wrap a)) := rfl
theorem q_wrap {k : IntKind} {n : Int} (h1 : k.min ≤ n) (h2 : n ≤ k.max) : k.wrap n = n := by
  cases k <;> simp [IntKind.wrap, IntKind.min, IntKind.max, IntKind.signed, IntKind.bits] at * <;> omega
theorem q_u64 {x : Int} (h1 : 0 ≤ x) (h2 : x ≤ 18446744073709551615) : IntKind.u64.wrap x = x := q_wrap (by have : IntKind.u64.min = 0 := rfl; omega) (by have : IntKind.u64.max = 18446744073709551615 := rfl; omega)
theorem q_at (s : ByteArray) (i : Nat) (b : UInt8) (h : s.data.toList[i]? = some b) (k : Value → Option α) : zci (.string s) (.int .i64 (i : Int)) k = k (.int .u8 (b.toNat : Int)) := by
  have hi : i < s.data.toList.length := (List.getElem?_eq_some_iff.1 h).1
  have hb : s[i]? = some b := by
    have h1 : s.data[i]? = some b := by rw [← h]; simp
    obtain ⟨h2, h3⟩ := Array.getElem?_eq_some_iff.1 h1
    have h4 : i < s.size := h2
    rw [getElem?_pos s i h4]
    exact congrArg some h3
  have : zoW s (i : Int) = some (.int .u8 (b.toNat : Int)) := by
    unfold zoW
    rw [if_pos (by omega), Int.toNat_natCast, hb]; rfl
  unfold zci
  dsimp only
  rw [this]
theorem q_seql (T : TypeId) (a b : ByteArray) (k : Value → Option α) : pBin P .eql T (.string a) (.string b) k = k (.bool (a.toList == b.toList)) := rfl
end
end Go.AM
namespace Go.AM
open Go
def wv (b : BitVec 64) : Value := .int .u64 (b.toNat : Int)
section
variable {α : Type} {P : Program}
theorem zen (a : BitVec 64) : BitVec.ofInt 64 (a.toNat : Int) = a := by
  rw [BitVec.ofInt_natCast, BitVec.ofNat_toNat, BitVec.setWidth_eq]
theorem ziE (a : BitVec 64) : IntKind.u64.wrap (a.toNat : Int) = (a.toNat : Int) := q_u64 (by omega) (by have := a.isLt; omega)
theorem zdJ (x : Int) : Value.int .u64 (IntKind.u64.wrap x) = wv (BitVec.ofInt 64 x) := by
  unfold wv
  congr 1
  rw [BitVec.toNat_ofInt]
  simp [IntKind.wrap, IntKind.signed, IntKind.bits]
  omega
theorem zoV {op : BinOp} {T : TypeId} {a b c : BitVec 64} {k : Value → Option α} (h : zdM op .u64 (a.toNat : Int) (b.toNat : Int) = some (wv c)) (hop : op ≠ .shl ∧ op ≠ .shr) : pBin P op T (wv a) (wv b) k = k (wv c) := by
  have : binV P op T (wv a) (wv b) = some (wv c) := by
    rw [← h]
    unfold wv binV
    cases op <;> first | rfl | (exact absurd rfl hop.1) | (exact absurd rfl hop.2)
  unfold pBin; rw [this]
theorem zof {op : BinOp} {T : TypeId} {a b : BitVec 64} {c : Bool} {k : Value → Option α} (h : zdM op .u64 (a.toNat : Int) (b.toNat : Int) = some (.bool c)) (hop : op ≠ .shl ∧ op ≠ .shr) : pBin P op T (wv a) (wv b) k = k (.bool c) := by
  have : binV P op T (wv a) (wv b) = some (.bool c) := by
    rw [← h]
    unfold wv binV
    cases op <;> first | rfl | (exact absurd rfl hop.1) | (exact absurd rfl hop.2)
  unfold pBin; rw [this]
variable (T : TypeId) (a b : BitVec 64) (k : Value → Option α)
theorem b_and : pBin P .and T (wv a) (wv b) k = k (wv (a &&& b)) := zoV (by
  show some (Value.int .u64 (IntKind.u64.wrap ((BitVec.ofInt 64 (a.toNat : Int)) &&& (BitVec.ofInt 64 (b.toNat : Int))).toNat)) = _
  rw [zen, zen, ziE]; rfl) ⟨by decide, by decide⟩
theorem b_or : pBin P .or T (wv a) (wv b) k = k (wv (a ||| b)) := zoV (by
  show some (Value.int .u64 (IntKind.u64.wrap ((BitVec.ofInt 64 (a.toNat : Int)) ||| (BitVec.ofInt 64 (b.toNat : Int))).toNat)) = _
  rw [zen, zen, ziE]; rfl) ⟨by decide, by decide⟩
theorem b_xor : pBin P .xor T (wv a) (wv b) k = k (wv (a ^^^ b)) := zoV (by
  show some (Value.int .u64 (IntKind.u64.wrap ((BitVec.ofInt 64 (a.toNat : Int)) ^^^ (BitVec.ofInt 64 (b.toNat : Int))).toNat)) = _
  rw [zen, zen, ziE]; rfl) ⟨by decide, by decide⟩
theorem b_not : pUn .xor (wv a) k = k (wv (~~~a)) := by
  have : unV .xor (wv a) = some (wv (~~~a)) := by
    show some (Value.int .u64 (IntKind.u64.wrap ((BitVec.ofInt 64 (IntKind.u64.max)) ^^^ (BitVec.ofInt 64 (a.toNat : Int))).toNat)) = _
    rw [zen, ziE]
    have : BitVec.ofInt 64 IntKind.u64.max = BitVec.allOnes 64 := by decide
    rw [this, BitVec.allOnes_xor]; rfl
  unfold pUn; rw [this]
theorem b_add : pBin P .add T (wv a) (wv b) k = k (wv (a + b)) := zoV (by
  show some (Value.int .u64 (IntKind.u64.wrap ((a.toNat : Int) + b.toNat))) = _
  rw [zdJ]
  congr 2) ⟨by decide, by decide⟩
theorem b_sub : pBin P .sub T (wv a) (wv b) k = k (wv (a - b)) := zoV (by
  show some (Value.int .u64 (IntKind.u64.wrap ((a.toNat : Int) - b.toNat))) = _
  rw [zdJ]
  congr 2
  apply BitVec.eq_of_toNat_eq
  rw [BitVec.toNat_ofInt, BitVec.toNat_sub]
  have := a.isLt
  have := b.isLt
  omega) ⟨by decide, by decide⟩
theorem b_mul : pBin P .mul T (wv a) (wv b) k = k (wv (a * b)) := zoV (by
  show some (Value.int .u64 (IntKind.u64.wrap ((a.toNat : Int) * b.toNat))) = _
  rw [zdJ]
  congr 2) ⟨by decide, by decide⟩
theorem b_eql : pBin P .eql T (wv a) (wv b) k = k (.bool (decide (a = b))) := zof (by
  show some (Value.bool ((a.toNat : Int) == b.toNat)) = _
  congr 2
  have e : (a.toNat : Int) = b.toNat ↔ a = b := ⟨fun h => BitVec.eq_of_toNat_eq (by omega), fun h => by rw [h]⟩
  rw [Bool.eq_iff_iff]
  simp [e]) ⟨by decide, by decide⟩
theorem b_neq : pBin P .neq T (wv a) (wv b) k = k (.bool (!decide (a = b))) := zof (by
  show some (Value.bool ((a.toNat : Int) != b.toNat)) = _
  congr 2
  have e : (a.toNat : Int) = b.toNat ↔ a = b := ⟨fun h => BitVec.eq_of_toNat_eq (by omega), fun h => by rw [h]⟩
  rw [Bool.eq_iff_iff]
  simp [e]) ⟨by decide, by decide⟩
theorem b_lss : pBin P .lss T (wv a) (wv b) k = k (.bool (decide (a.toNat < b.toNat))) := zof (by
  show some (Value.bool (decide ((a.toNat : Int) < b.toNat))) = _
  congr 2
  rw [decide_eq_decide]; omega) ⟨by decide, by decide⟩
theorem b_leq : pBin P .leq T (wv a) (wv b) k = k (.bool (decide (a.toNat ≤ b.toNat))) := zof (by
  show some (Value.bool (decide ((a.toNat : Int) ≤ b.toNat))) = _
  congr 2
  rw [decide_eq_decide]; omega) ⟨by decide, by decide⟩
theorem b_shl (kd : IntKind) (n : Nat) : pBin P .shl T (wv a) (.int kd (n : Int)) k = k (wv (a <<< n)) := by
  have : binV P .shl T (wv a) (.int kd (n : Int)) = some (wv (a <<< n)) := by
    show (if (n : Int) < 0 then none else some (Value.int .u64 (IntKind.u64.wrap ((a.toNat : Int) * 2 ^ (min ((n : Int).toNat) 64))))) = _
    rw [if_neg (by omega), zdJ, Int.toNat_natCast]
    congr 2
    apply BitVec.eq_of_toNat_eq
    rw [BitVec.toNat_ofInt, BitVec.toNat_shiftLeft, Nat.shiftLeft_eq]
    have e : ((a.toNat : Int) * 2 ^ (min n 64)) = ((a.toNat * 2 ^ (min n 64) : Nat) : Int) := by push_cast; rfl
    rw [e]
    have e2 : (((a.toNat * 2 ^ (min n 64) : Nat) : Int) % ((2 ^ 64 : Nat) : Int)).toNat = a.toNat * 2 ^ (min n 64) % 2 ^ 64 := by omega
    rw [e2]
    rcases Nat.lt_or_ge n 64 with h | h
    · rw [Nat.min_eq_left (by omega)]
    · rw [Nat.min_eq_right h]
      have : a.toNat * 2 ^ n = a.toNat * 2 ^ (n - 64) * 2 ^ 64 := by
        rw [Nat.mul_assoc, ← Nat.pow_add]; congr 2; omega
      rw [this, Nat.mul_mod_left, Nat.mul_mod_left]
  unfold pBin; rw [this]
theorem b_shr (kd : IntKind) (n : Nat) : pBin P .shr T (wv a) (.int kd (n : Int)) k = k (wv (a >>> n)) := by
  have : binV P .shr T (wv a) (.int kd (n : Int)) = some (wv (a >>> n)) := by
    show (if (n : Int) < 0 then none else some (Value.int .u64 ((a.toNat : Int).fdiv (2 ^ (min ((n : Int).toNat) 64))))) = _
    rw [if_neg (by omega), Int.toNat_natCast]
    unfold wv
    congr 2
    rw [BitVec.toNat_ushiftRight, Nat.shiftRight_eq_div_pow]
    have e : ((2 : Int) ^ (min n 64)) = ((2 ^ (min n 64) : Nat) : Int) := by push_cast; rfl
    rw [e, ← Int.ofNat_fdiv]
    congr 1
    rcases Nat.lt_or_ge n 64 with h | h
    · rw [Nat.min_eq_left (by omega)]
    · rw [Nat.min_eq_right h, Nat.div_eq_of_lt a.isLt, Nat.div_eq_of_lt (Nat.lt_of_lt_of_le a.isLt (Nat.pow_le_pow_right (by decide) h))]
  unfold pBin; rw [this]
end
end Go.AM
namespace Go.AM
open Go Go.ChangeShapes Go.WideShapes Go.ChangeAt Go.RowKit
theorem ziQ {HH : Type} {enc : TypeId × Value → HH} {P : Program} {W : World} : ∀ {ts : List TypeId} {vs : List Value} {ds : List (DataW HH)} {ps : List MemPlace}, DataW.TrodAll enc P W 0 (fun _ => true) true ts vs ds ps → ds.length = ts.length := by
  intro ts
  induction ts with
  | nil => intro vs ds ps h; cases vs <;> cases ds <;> first | rfl | exact h.elim
  | cons t ts ih => intro vs ds ps h; cases vs <;> cases ds <;> first | exact h.elim | (obtain ⟨p, q, _, h2, _⟩ := h; simp [ih h2])
theorem zgq {C : Checked} {os : Os} {f : FuncId} {fn : Func} {s : OpenSpec} {HH : Type} {enc : TypeId × Value → HH} {k : (H : Type) → List (DataW H) → Bool} (hk : s.cond = some k) {F : Stop.Interp} {conds : List PathCond} {laid : List (String × DataW Unit)}
    (own : ownKnob C.prog.godebug = none) (started : os.Started) (noInit : C.prog.inits.idxOf? f = none) (hfn : C.prog.funcs[f]? = some fn)
    (witness : ∃ (w : World) (tape : Tape) (i : Input), w.os = os ∧ (w.forCall tape i).Shaped C.prog ∧ i.vars = [] ∧ Input.okWide C.prog (w.forCall tape i) .any w.heap.size f i ∧
      s.preRow enc C.prog fn conds false laid (w.forCall tape i).memory i.args ∧ ({} : Assume).holds C.prog (lone (Frame.enter C.prog f i.args .normal) [] (w.forCall tape i)))
    (hl : laidOutB C.prog = true) (hp : ∀ t ∈ fn.params.toList, C.prog.readableRec t = true ∧ t < C.prog.types.size) (hv : s.vars = []) {tb : TypeId} (hr : fn.resultTypes = #[tb]) (hb : C.prog.underlying tb = some .bool)
    (hg : C.prog.globals.size = 0 ∨ ∃ x, (((begin C.prog (fun _ _ => 0) default).world.heap[C.prog.globals.size - 1]?).bind Obj.row?) = some x)
    (hsp : ∀ ds : List (DataW HH), ds.length = fn.params.size → (s.at F).fn HH ds = { results := [.lit (.bool true)], args := ds })
    {O : Orc} {ext : Ext1} (hm : C.prog.follows .mixedOrders = true) (he : ExtC C.prog ext)
    (main : ∀ (W : World) (base : Nat) (args : Array Value) (ds : List (DataW HH)) (ps : List MemPlace), C.prog.globals.size ≤ W.heap.size →
      (∀ (j : Nat) t v, fn.params[j]? = some t → args[j]? = some v → Value.okWide C.prog W .any base t v) → DataW.TrodAll enc C.prog W 0 (fun _ => true) true fn.params.toList args.toList ds ps → k HH ds = true → laidMetH C.prog laid W →
      ∃ (H0 H1 : Hp) (β : Bt) (xs : List Value), Rel C.prog W H0 β ∧ (∀ i o, H0.get i = some o → o.own = false) ∧ LRel β xs args.toList ∧ run C.prog O ext f xs H0 = some (.bool true, H1))
    (hx : XtC C.prog O.xt := by intro f e h; cases h) (hxf : O.xt f = none := by rfl) (ho : ExtO O ext := by intro f _; rfl) (hpf : O.pan f = false := by rfl) :
    ReturnsInHanded {} C os f .any (s.preRow enc C.prog fn conds false laid) ((s.at F).post enc C.prog fn false true false false) := by
  refine returnsInHanded_of_row own started noInit hfn witness ?_
  intro W base args ds gs before hval hw hc hkk _ hL hsh _
  have hkk := hkk k hk
  obtain ⟨p, q, h1, h2, e, _, _⟩ := id hw
  have hgs : gs = [] := by
    rw [hv] at h2
    cases gs with
    | nil => rfl
    | cons g gs => exact h2.elim
  subst hgs
  rw [List.append_nil] at hkk
  obtain ⟨H0, H1, β, xs, g1, g2, g3, g4⟩ := main W base args ds p (zmb hsh hg) hval h1 hkk hL
  refine (zlW hm he g1 g2 g3 g4 hx hxf ho hpf).mono fun e W' ⟨h3, h4⟩ => ?_
  subst h3
  have hlen : ds.length = fn.params.size := by simpa using ziQ h1
  exact ⟨_, rfl, post_true (s := s.at F) hl hp hv hr hb hw h4 (by rw [List.append_nil]; exact hsp ds hlen)⟩
end Go.AM
namespace Go.AM
open Go
end Go.AM
namespace Go.AM
open Go
def zjE (l : List Value) : Option Value :=
  match l with
  | [.string s, .int .u8 c] => some (.int .i64 (Go.Lib.indexByte s.data.toList c.toNat.toUInt8))
  | _ => none
def zjO (l : List Value) : Option Value :=
  match l with
  | [.string s, .int .u8 c] => some (.int .i64 (Go.Lib.countByte s.data.toList c.toNat.toUInt8 : Nat))
  | _ => none
theorem LRel.strInt {β : Bt} {s : ByteArray} {k : IntKind} {c : Int} {l : List Value} (h : LRel β [.string s, .int k c] l) : l = [.string s, .int k c] := by
  obtain ⟨h1, h2⟩ := h
  match l, h1 with
  | [x, y], _ =>
    have e0 := h2 0 _ x rfl rfl
    have e1 := h2 1 _ y rfl rfl
    cases e0; cases e1
    rfl
theorem idxStr_xt {P : Program} {f : FuncId} {fn : Func} (hf : P.funcs[f]? = some fn) (hname : (fn.name == "runtime.NumGoroutine") = false) (hb : fn.body.isNone = true) (hn : Extern.findNext fn = none) (he : Extern.find fn = some Extern.BytealgIndexByte.indexByte)
    (args : List Value) (v : Value) (h : zjE args = some v) : XT P f args v := by
  unfold zjE at h
  split at h
  · rename_i s c
    cases h
    intro args' β w hl
    obtain rfl := hl.strInt
    exact ⟨_, .int _ _, by rw [run_callFunc_extern hf hname hb hn he, Go.Lib.run_indexByteString]; rfl⟩
  · cases h
theorem cntStr_xt {P : Program} {f : FuncId} {fn : Func} (hf : P.funcs[f]? = some fn) (hname : (fn.name == "runtime.NumGoroutine") = false) (hb : fn.body.isNone = true) (hn : Extern.findNext fn = none) (he : Extern.find fn = some Extern.BytealgCount.count)
    (args : List Value) (v : Value) (h : zjO args = some v) : XT P f args v := by
  unfold zjO at h
  split at h
  · rename_i s c
    cases h
    intro args' β w hl
    obtain rfl := hl.strInt
    exact ⟨_, .int _ _, by rw [run_callFunc_extern hf hname hb hn he, Go.Lib.run_countString]; rfl⟩
  · cases h
end Go.AM
namespace Go.AM
open Go Go.AM
noncomputable abbrev PP : Program := Go.Proofs.Tryz.prog
abbrev ET := FuncId → Option (List Value → Hp → Option (Value × Hp))
abbrev G.strings_asciiSpace : Nat := 1
abbrev G.unicode_White_Space : Nat := 2
abbrev G.internal_strconv_uint64pow10 : Nat := 3
abbrev G.internal_bytealg_MaxLen : Nat := 4
abbrev G.utf8_first : Nat := 5
abbrev G.utf8_acceptRanges : Nat := 6
abbrev G.strconv_ErrSyntax : Nat := 7
abbrev G.strconv_ErrRange : Nat := 8
abbrev G.bits_deBruijn32tab : Nat := 9
abbrev G.bits_deBruijn64tab : Nat := 10
abbrev F.a49 : FuncId := 84
abbrev F.a50 : FuncId := 85
abbrev F.a51 : FuncId := 82
abbrev F.a52 : FuncId := 87
abbrev F.a30 : FuncId := 55
abbrev F.a15 : FuncId := 102
abbrev F.a18 : FuncId := 117
abbrev F.a53 : FuncId := 143
abbrev F.a4 : FuncId := 114
abbrev F.a16 : FuncId := 115
abbrev F.a54 : FuncId := 86
abbrev F.a0 : FuncId := 80
abbrev F.a55 : FuncId := 83
abbrev F.a31 : FuncId := 118
abbrev F.a32 : FuncId := 116
abbrev F.a56 : FuncId := 4
abbrev F.a19 : FuncId := 46
abbrev F.a33 : FuncId := 21
abbrev F.a57 : FuncId := 12
abbrev F.a34 : FuncId := 19
abbrev F.a5 : FuncId := 15
abbrev F.a20 : FuncId := 16
abbrev F.a35 : FuncId := 22
abbrev F.a21 : FuncId := 24
abbrev F.a22 : FuncId := 18
abbrev F.a10 : FuncId := 13
abbrev F.a23 : FuncId := 20
abbrev F.a58 : FuncId := 40
abbrev F.a36 : FuncId := 81
abbrev F.a59 : FuncId := 47
abbrev F.a37 : FuncId := 39
abbrev F.a24 : FuncId := 157
abbrev F.a71 : FuncId := 173
abbrev F.a25 : FuncId := 184
abbrev F.a72 : FuncId := 174
abbrev F.a67 : FuncId := 172
abbrev F.a73 : FuncId := 131
abbrev F.a26 : FuncId := 160
abbrev F.a6 : FuncId := 176
abbrev F.a68 : FuncId := 177
abbrev F.a38 : FuncId := 159
abbrev F.a60 : FuncId := 175
abbrev F.a61 : FuncId := 158
abbrev F.a39 : FuncId := 171
abbrev F.a40 : FuncId := 138
abbrev F.a27 : FuncId := 161
abbrev F.a69 : FuncId := 64
abbrev F.a70 : FuncId := 97
abbrev F.a41 : FuncId := 135
abbrev F.a62 : FuncId := 137
abbrev F.a42 : FuncId := 99
abbrev F.a11 : FuncId := 67
abbrev F.a28 : FuncId := 136
abbrev F.a43 : FuncId := 65
abbrev F.a74 : FuncId := 134
abbrev F.a44 : FuncId := 101
abbrev F.a17 : FuncId := 35
abbrev F.a45 : FuncId := 66
abbrev F.a8 : FuncId := 68
abbrev F.a46 : FuncId := 26
abbrev F.a12 : FuncId := 48
abbrev F.a29 : FuncId := 31
abbrev F.a9 : FuncId := 38
abbrev F.a13 : FuncId := 50
abbrev F.a63 : FuncId := 94
abbrev F.a1 : FuncId := 49
abbrev F.a64 : FuncId := 95
abbrev F.a65 : FuncId := 60
abbrev F.a47 : FuncId := 103
abbrev F.a7 : FuncId := 62
abbrev F.a3 : FuncId := 69
abbrev F.a14 : FuncId := 72
abbrev F.a2 : FuncId := 71
abbrev F.a48 : FuncId := 70
abbrev F.a66 : FuncId := 93
abbrev F.a75 : FuncId := 155
abbrev T.a20_uint64 : TypeId := 235
abbrev T.a256_uint8 : TypeId := 196
abbrev T.a3_int : TypeId := 106
abbrev T.a3_p_int : TypeId := 167
abbrev T.a64_uint8 : TypeId := 266
abbrev T.api_Errno : TypeId := 30
abbrev T.api_Node : TypeId := 71
abbrev T.api_Value : TypeId := 48
abbrev T.error : TypeId := 114
abbrev T.errors_errorString : TypeId := 269
abbrev T.int : TypeId := 3
abbrev T.int32 : TypeId := 21
abbrev T.int64 : TypeId := 2
abbrev T.interface : TypeId := 20
abbrev T.p_errors_errorString : TypeId := 267
abbrev T.p_strconv_NumError : TypeId := 251
abbrev T.p_term_Store : TypeId := 24
abbrev T.sl_int : TypeId := 22
abbrev T.sl_uint64 : TypeId := 29
abbrev T.strconv_Error : TypeId := 249
abbrev T.string : TypeId := 9
abbrev T.strings_Builder : TypeId := 121
abbrev T.strings_span : TypeId := 175
abbrev T.term_Store : TypeId := 109
abbrev T.term_fault : TypeId := 131
abbrev T.term_place : TypeId := 148
abbrev T.term_reader : TypeId := 134
abbrev T.uint64 : TypeId := 38
abbrev T.uint8 : TypeId := 5
abbrev T.unicode_Range16 : TypeId := 243
abbrev T.unicode_RangeTable : TypeId := 240
def orc : Orc := { mkOrc [(8, [20]), (13, [15, 17]), (14, [12]), (20, [11]), (21, [7]), (23, [10]), (24, [14]), (25, [13, 14]), (28, [10]), (29, [17, 19]), (31, [4]), (32, [16]), (34, [14]), (36, [18]), (37, [6]), (38, [14]), (39, [6, 7, 10]), (40, [6]), (43, [12, 14]), (45, [11, 12, 13, 14]), (48, [3]), (53, [2]), (55, [15]), (56, [1]), (66, [4]), (67, [11, 14]), (76, [4, 6]), (77, [3]), (78, [3]), (92, [6]), (93, [1]), (94, [3]), (95, [3]), (96, [5]), (102, [18]), (105, [3]), (110, [2]), (111, [3]), (112, [3]), (155, [4]), (169, [10]), (170, [9])]
  [(3, [(10, some ([], [])), (4, some ([], []))]), (4, [(13, some ([], []))]), (5, [(9, some ([], [])), (4, some ([], []))]), (6, [(16, some ([8], [])), (13, some ([], [])), (5, some ([], []))]), (8, [(37, some ([], [])), (32, some ([], [])), (20, some ([], []))]), (10, [(10, some ([], []))]), (11, [(5, some ([], []))]), (12, [(4, some ([], []))]), (21, [(9, some ([], [7]))]), (28, [(5, some ([22], [])), (4, some ([15], [])), (10, some ([], [10]))]), (34, [(21, some ([], []))]), (35, [(17, some ([], [])), (7, some ([8], []))]), (36, [(18, some ([71], [])), (14, some ([14], [])), (11, some ([], []))]), (48, [(26, some ([], [])), (21, some ([], [])), (5, some ([], [])), (3, some ([], []))]), (52, [(15, some ([], []))]), (55, [(7, some ([5], [])), (3, some ([], []))]), (62, [(6, some ([4], []))]), (67, [(14, some ([5], []))]), (72, [(22, some ([69], [])), (31, some ([], [])), (12, some ([], []))]), (76, [(21, some ([], [4])), (11, some ([], [4])), (4, some ([], [4]))]), (77, [(4, some ([13], []))]), (78, [(23, some ([], [])), (18, some ([], [])), (7, some ([26], [])), (5, some ([17], []))]), (82, [(3, some ([], []))]), (84, [(5, some ([], [])), (3, some ([], []))]), (86, [(3, some ([], []))]), (87, [(5, some ([], [])), (3, some ([], []))]), (92, [(26, some ([111], [])), (24, some ([94], [])), (17, some ([66], []))]), (94, [(8, some ([27], []))]), (95, [(12, some ([60], [])), (4, some ([13], []))]), (96, [(9, some ([], [])), (5, some ([], []))]), (101, [(7, some ([3], []))]), (102, [(5, some ([4], []))]), (107, [(6, some ([4, 5], []))]), (109, [(2, some ([3], []))]), (110, [(3, some ([], []))]), (111, [(12, some ([67], []))]), (112, [(3, some ([8], []))]), (113, [(3, some ([], []))]), (120, [(3, some ([], []))]), (122, [(5, some ([], [])), (3, some ([], []))]), (124, [(3, some ([], []))]), (125, [(5, some ([], [])), (3, some ([], []))]), (131, [(8, some ([6], [])), (4, some ([], []))]), (134, [(4, some ([1], []))]), (139, [(3, some ([6], [])), (8, some ([5], []))]), (146, [(19, some ([11], []))]), (152, [(20, some ([4, 12], []))]), (153, [(7, some ([1], [])), (3, some ([], []))]), (154, [(5, some ([], []))]), (158, [(26, some ([107], [])), (23, some ([], [])), (21, some ([8], [])), (3, some ([16], [])), (10, some ([], []))]), (160, [(41, some ([106], [])), (46, some ([12, 16], [])), (32, some ([10], [])), (25, some ([2], [])), (16, some ([52], [])), (13, some ([40], [])), (7, some ([25], [])), (21, some ([0, 1], []))]), (164, [(4, some ([0, 2], []))]), (168, [(2, some ([17], []))]), (170, [(21, some ([], [])), (16, some ([], []))]), (174, [(10, some ([], []))]), (177, [(14, some ([3], [])), (10, some ([3, 4, 5], [])), (5, some ([0], []))])]
  [(3, [(11, [17], [])]), (4, [(24, [17, 19], []), (21, [17, 18], []), (14, [14], [])]), (5, [(10, [14], [])]), (6, [(8, [5, 6, 7], [])]), (7, [(19, [17], []), (13, [16], [])]), (8, [(41, [30], []), (38, [29], []), (12, [12, 13, 14, 15, 16], [])]), (9, [(20, [17], []), (11, [12, 13], [])]), (13, [(26, [19, 113], []), (12, [49], [])]), (14, [(22, [16, 17], []), (10, [11], [])]), (16, [(4, [5], [])]), (17, [(4, [5], [])]), (20, [(8, [8, 26], [])]), (21, [(3, [5, 6], [])]), (22, [(6, [5, 6], []), (3, [3], [])]), (23, [(8, [8, 9], [])]), (24, [(14, [57], []), (9, [38], [])]), (25, [(16, [15, 16, 17], []), (9, [12], [])]), (29, [(21, [72], []), (16, [58], [])]), (30, [(4, [5], [])]), (32, [(24, [17, 18, 69], []), (17, [56], []), (10, [41], [])]), (34, [(37, [128], []), (22, [86], []), (9, [32], [])]), (35, [(19, [], []), (11, [6, 10, 42], [])]), (36, [(8, [10, 11, 12, 13], [])]), (37, [(4, [5], [])]), (38, [(16, [8, 10], []), (11, [8, 10, 36], []), (2, [18], [])]), (39, [(11, [41], []), (3, [16], [])]), (41, [(2, [5], [])]), (42, [(9, [5], []), (3, [3, 4], [])]), (43, [(18, [13, 15], []), (12, [8, 10], []), (9, [8, 9], []), (2, [6], [])]), (44, [(2, [5], [])]), (45, [(8, [15], [13, 14])]), (48, [(6, [35], [])]), (51, [(3, [11], [])]), (52, [(32, [26, 130], []), (17, [21, 79], []), (6, [45], [])]), (55, [(4, [], [15])]), (67, [(16, [49], []), (4, [5, 6], [14])]), (72, [(13, [44], [])]), (74, [(4, [3, 4, 5], [])]), (75, [(3, [6, 7], [])]), (76, [(14, [9, 10], [4, 6]), (5, [7], [6])]), (89, [(7, [4], []), (2, [3], [])]), (99, [(27, [12], []), (21, [10, 11, 12], []), (18, [12], []), (5, [3, 4, 5, 6], [])]), (101, [(11, [0, 10], [])]), (102, [(6, [], [18])]), (103, [(2, [2, 7], [])]), (107, [(9, [5, 6], [])]), (113, [(4, [3], [])]), (134, [(6, [0, 7], [])]), (135, [(6, [0, 5], [])]), (140, [(2, [3], [])]), (146, [(3, [9, 10], [])]), (152, [(1, [1, 4], [])]), (153, [(11, [1, 13], []), (18, [1, 13], [])]), (155, [(2, [2], [4])]), (158, [(15, [8, 10], [])]), (160, [(36, [12, 13, 101], [])]), (168, [(14, [7, 8], []), (3, [20], [])]), (169, [(14, [7, 8], []), (3, [16], [])]), (174, [(11, [8, 10], []), (5, [8, 9], [])]), (177, [(10, [3, 4], [])]), (185, [(8, [6, 7, 8], []), (3, [4, 5], [])])] with xt := look none [(184, some zjE), (157, some zjO)], gt := fun t => List.elem t [5, 121], pan := fun f => List.elem f [35, 69, 70, 71, 72, 103], dfr := fun f => List.elem f [35] }
noncomputable def zce (R : zad) (x0 x1 x2 : Value) (H0 : Hp) : Option (Value × Hp) := zeu PP orc R F.a56 Go.Proofs.Tryz.f4 [x0, x1, x2] H0
noncomputable def zdn (R : zad) (H0 : Hp) : Option (Value × Hp) :=
 zd1 R F.a17 [(.string ⟨#[49, 32, 118, 97, 114, 32, 120, 32, 56, 10, 50, 32, 118, 97, 114, 32, 121, 32, 56, 10, 51, 32, 97, 100, 100, 32, 49, 32, 50, 10, 52, 32, 101, 113, 32, 51, 32, 49, 10, 114, 111, 111, 116, 115, 32, 51, 32, 52, 10]⟩), (.int .i64 0)] H0 fun r1 H2 =>
 zae r1 0 fun v3 =>
 zae r1 1 fun v4 =>
 zae r1 2 fun v5 =>
 zae r1 3 fun v6 =>
 zav (
 zaf R F.a5 [v6] H2 fun r7 H8 =>
 pBin PP .neq T.int r7 (.int .i64 0) fun v9 =>
 zaa v9 fun b10 => br b10
 (some (.ret, [(.bool false)], H8))
 (pBin PP .eql T.p_term_Store v3 (.pointer none) fun v11 =>
 zaa v11 fun b12 => br b12
 (some (.ret, [(.bool false)], H8))
 (pLen .sl v4 H8 fun v13 =>
 pBin PP .neq T.int v13 (.int .i64 2) fun v14 =>
 zaa v14 fun b15 => br b15
 (some (.ret, [(.bool false)], H8))
 (some (.next, [], H8))))) fun q16 l17 H18 => zaL q16
 (zaG PP T.api_Value [(0, (.string ⟨#[120]⟩)), (1, (.int .i64 8)), (2, (.int .u64 200))] fun v20 =>
 zaG PP T.api_Value [(0, (.string ⟨#[121]⟩)), (1, (.int .i64 8)), (2, (.int .u64 100))] fun v21 =>
 zaj 3 [.string ⟨#[]⟩, .int .i64 0, .int .u64 0] 2 [(0, v20), (1, v21)] H18 fun v22 H23 =>
 zaf R F.a10 [v3, v4, v22] H23 fun r24 H25 =>
 zae r24 0 fun v26 =>
 zae r24 1 fun v27 =>
 pIdx 1 v4 (.int .i64 1) fun p28 =>
 zal 1 false H25 p28 fun v29 =>
 zaf R F.a21 [v3, v29] H25 fun r30 H31 =>
 zae r30 0 fun v32 =>
 zae r30 1 fun v33 =>
 zae r30 2 fun v34 =>
 zae r30 3 fun v35 =>
 pIdx 1 v4 (.int .i64 0) fun p36 =>
 zal 1 false H31 p36 fun v37 =>
 zaG PP T.api_Value [(0, (.string ⟨#[120]⟩)), (1, (.int .i64 4)), (2, (.int .u64 1))] fun v38 =>
 zaj 3 [.string ⟨#[]⟩, .int .i64 0, .int .u64 0] 1 [(0, v38)] H31 fun v39 H40 =>
 zaf R F.a22 [v3, v37, v39] H40 fun r41 H42 =>
 zae r41 0 fun v43 =>
 zae r41 1 fun v44 =>
 zaf R F.a5 [v27] H42 fun r45 H46 =>
 zaf R F.a5 [v35] H46 fun r47 H48 =>
 pBin PP .add T.int r45 r47 fun v49 =>
 pBin PP .eql T.int v49 (.int .i64 0) fun v50 =>
 zaa v50 fun b51 => br b51
 (zaj 1 [.int .u64 0] 2 [(0, (.int .u64 44)), (1, (.int .u64 0))] H48 fun v52 H53 =>
 zaf R F.a20 [v26, v52] H53 fun r54 H55 =>
 zaa r54 fun b56 => br b56
 (pBin PP .eql T.int v32 (.int .i64 4) fun v57 =>
 zaa v57 fun b58 => br b58
 (pBin PP .eql T.uint64 v33 (.int .u64 5) fun v59 =>
 zaa v59 fun b60 => br b60
 (pBin PP .eql T.int v34 (.int .i64 3) fun v61 =>
 zaa v61 fun b62 => br b62
 (zaf R F.a5 [v44] H55 fun r63 H64 =>
 pBin PP .eql T.int r63 (.int .i64 71) fun v65 =>
 some (v65, H64))
 (some ((.bool false), H55)))
 (some ((.bool false), H55)))
 (some ((.bool false), H55)))
 (some ((.bool false), H55)))
 (some ((.bool false), H48)))
 (fun i19 => none)
 (some ((l17.headD undef), H18))
noncomputable def zf4 (R : zad) (x0 x1 x2 : Value) (H0 : Hp) : Option (Value × Hp) := zeu PP orc R F.a10 Go.Proofs.Tryz.f13 [x0, x1, x2] H0
noncomputable def zgD (R : zad) (x0 : Value) (H0 : Hp) : Option (Value × Hp) :=
 some (x0, H0)
noncomputable def zcd (R : zad) (x0 x1 : Value) (H0 : Hp) : Option (Value × Hp) := zeu PP orc R F.a20 Go.Proofs.Tryz.f16 [x0, x1] H0
noncomputable def zgX (R : zad) (x0 x1 x2 : Value) (H0 : Hp) : Option (Value × Hp) :=
 zaj 1 [.int .i64 0] 1 [(0, x1)] H0 fun v1 H2 =>
 zaf R F.a10 [x0, v1, x2] H2 fun r3 H4 =>
 zae r3 0 fun v5 =>
 zae r3 1 fun v6 =>
 pBin PP .neq T.api_Errno v6 (.int .i64 0) fun v7 =>
 zaa v7 fun b8 => br b8
 (some ((.tuple #[(.int .u64 0), v6]), H4))
 (pIdx 1 v5 (.int .i64 0) fun p9 =>
 zal 1 false H4 p9 fun v10 =>
 some ((.tuple #[v10, (.int .i64 0)]), H4))
noncomputable def zdm (R : zad) (x0 : Value) (H0 : Hp) : Option (Value × Hp) :=
 zd1 R F.a17 [x0, (.int .i64 0)] H0 fun r1 H2 =>
 zae r1 0 fun v3 =>
 zae r1 1 fun v4 =>
 zae r1 2 fun v5 =>
 zae r1 3 fun v6 =>
 zaf R F.a5 [v6] H2 fun r7 H8 =>
 pBin PP .eql T.int r7 (.int .i64 0) fun v9 =>
 zaa v9 fun b10 => br b10
 (pBin PP .neq T.p_term_Store v3 (.pointer none) fun v11 =>
 some ((.tuple #[v3, v4, v11]), H8))
 (some ((.tuple #[v3, v4, (.bool false)]), H8))
noncomputable def zii (R : zad) (x0 x1 : Value) (H0 : Hp) : Option (Value × Hp) := zeu PP orc R F.a23 Go.Proofs.Tryz.f20 [x0, x1] H0
noncomputable def zcY (R : zad) (x0 x1 : Value) (H0 : Hp) : Option (Value × Hp) := zeu PP orc R F.a33 Go.Proofs.Tryz.f21 [x0, x1] H0
noncomputable def zcX (R : zad) (x0 : Value) (H0 : Hp) : Option (Value × Hp) := zeu PP orc R F.a35 Go.Proofs.Tryz.f22 [x0] H0
noncomputable def zij (R : zad) (x0 x1 : Value) (H0 : Hp) : Option (Value × Hp) := zeu PP orc R F.a21 Go.Proofs.Tryz.f24 [x0, x1] H0
noncomputable def zju (R : zad) (x0 : Value) (H0 : Hp) : Option (Value × Hp) :=
 pBin PP .lss T.int x0 (.int .i64 0) fun v1 =>
 zaa v1 fun b2 => br b2
 (some ((.tuple #[(.pointer none), (.int .i64 1)]), H0))
 (zb7 H0 fun v3 H4 =>
 zb7 H4 fun v5 H6 =>
 zaG PP T.term_Store [(0, x0), (2, v3), (3, v5)] fun v7 =>
 zeE (zab v7) H6 fun p8 H9 =>
 some ((.tuple #[p8, (.int .i64 0)]), H9))
noncomputable def zd3 (R : zad) (x0 x1 : Value) (H0 : Hp) : Option (Value × Hp) :=
 zaf R F.a13 [x0, x1] H0 fun r1 H2 =>
 pUn .not r1 fun v3 =>
 zaa v3 fun b4 => br b4
 (zaG PP T.api_Node [] fun v5 =>
 zaV 7 [.int .i64 0, .int .i64 0, .int .i64 0, .int .i64 0, .int .i64 0, .int .u64 0, .string ⟨#[]⟩] 0 v5 fun c6 =>
 zai 7 true c6 0 fun v7 =>
 some ((.tuple #[v7, (.int .i64 70)]), H2))
 (pNil x0 (
 zas 1 x0 fun p8 =>
 zal 1 false H2 p8 fun v9 =>
 pBin PP .sub T.int x1 (.int .i64 1) fun v10 =>
 pIdx 7 v9 v10 fun p11 =>
 zal 7 true H2 p11 fun v12 =>
 zaV 7 [.int .i64 0, .int .i64 0, .int .i64 0, .int .i64 0, .int .i64 0, .int .u64 0, .string ⟨#[]⟩] 0 v12 fun c13 =>
 zai 7 true c13 0 fun v14 =>
 some ((.tuple #[v14, (.int .i64 0)]), H2)))
noncomputable def zie (R : zad) (x0 x1 : Value) (H0 : Hp) : Option (Value × Hp) := zeu PP orc R F.a17 Go.Proofs.Tryz.f35 [x0, x1] H0
noncomputable def zdD (R : zad) (x0 x1 : Value) (H0 : Hp) : Option (Value × Hp) := zeu PP orc R F.a9 Go.Proofs.Tryz.f38 [x0, x1] H0
noncomputable def zif (R : zad) (x0 : Value) (H0 : Hp) : Option (Value × Hp) := zeu PP orc R F.a37 Go.Proofs.Tryz.f39 [x0] H0
noncomputable def zih (R : zad) (x0 x1 x2 x3 x4 x5 : Value) (H0 : Hp) : Option (Value × Hp) :=
 zai 1 false (zab x0) 0 fun v1 =>
 pBin PP .eql T.int v1 (.int .i64 1) fun v2 =>
 zaa v2 fun b3 => br b3
 (some ((.int .u64 1), H0))
 (pBin PP .eql T.int v1 (.int .i64 2) fun v4 =>
 zaa v4 fun b5 => br b5
 (some ((.int .u64 0), H0))
 (pBin PP .eql T.int v1 (.int .i64 3) fun v6 =>
 zaa v6 fun b7 => br b7
 (zai 1 false (zab x0) 5 fun v8 =>
 some (v8, H0))
 (pBin PP .eql T.int v1 (.int .i64 5) fun v9 =>
 zaa v9 fun b10 => br b10
 (pBin PP .sub T.uint64 (.int .u64 1) x1 fun v11 =>
 some (v11, H0))
 (pBin PP .eql T.int v1 (.int .i64 6) fun v12 =>
 zaa v12 fun b13 => br b13
 (pBin PP .and T.uint64 x1 x2 fun v14 =>
 some (v14, H0))
 (pBin PP .eql T.int v1 (.int .i64 7) fun v15 =>
 zaa v15 fun b16 => br b16
 (pBin PP .or T.uint64 x1 x2 fun v17 =>
 some (v17, H0))
 (pBin PP .eql T.int v1 (.int .i64 8) fun v18 =>
 zaa v18 fun b19 => br b19
 (pBin PP .xor T.uint64 x1 x2 fun v20 =>
 some (v20, H0))
 (pBin PP .eql T.int v1 (.int .i64 9) fun v21 =>
 zaa v21 fun b22 => br b22
 (pBin PP .eql T.uint64 x1 x2 fun v23 =>
 zaf R F.a36 [v23] H0 fun r24 H25 =>
 some (r24, H25))
 (pBin PP .leq T.int v1 (.int .i64 13) fun v26 =>
 zaa v26 fun b27 => br b27
 (zaf R F.a51 [v1, x4, x1, x2] H0 fun r28 H29 =>
 zae r28 0 fun v30 =>
 zae r28 1 fun v31 =>
 zaf R F.a36 [v30] H29 fun r32 H33 =>
 some (r32, H33))
 (pBin PP .eql T.int v1 (.int .i64 14) fun v34 =>
 zaa v34 fun b35 => br b35
 (pBin PP .eql T.uint64 x1 (.int .u64 1) fun v36 =>
 zaa v36 fun b37 => br b37
 (some (x2, H0))
 (some (x3, H0)))
 (pBin PP .leq T.int v1 (.int .i64 16) fun v38 =>
 zaa v38 fun b39 => br b39
 (zai 1 false (zab x0) 1 fun v40 =>
 zaf R F.a55 [v1, v40, x1] H0 fun r41 H42 =>
 zae r41 0 fun v43 =>
 zae r41 1 fun v44 =>
 some (v43, H42))
 (pBin PP .leq T.int v1 (.int .i64 29) fun v45 =>
 zaa v45 fun b46 => br b46
 (zai 1 false (zab x0) 1 fun v47 =>
 zaf R F.a49 [v1, v47, x1, x2] H0 fun r48 H49 =>
 zae r48 0 fun v50 =>
 zae r48 1 fun v51 =>
 some (v50, H49))
 (pBin PP .eql T.int v1 (.int .i64 30) fun v52 =>
 zaa v52 fun b53 => br b53
 (zaf R F.a50 [x4, x1, x5, x2] H0 fun r54 H55 =>
 zae r54 0 fun v56 =>
 zae r54 1 fun v57 =>
 some (v56, H55))
 (pBin PP .eql T.int v1 (.int .i64 31) fun v58 =>
 zaa v58 fun b59 => br b59
 (zai 1 false (zab x0) 5 fun v60 =>
 zan .i64 v60 fun v61 =>
 zai 1 false (zab x0) 1 fun v62 =>
 zaf R F.a54 [x4, x1, v61, v62] H0 fun r63 H64 =>
 zae r63 0 fun v65 =>
 zae r63 1 fun v66 =>
 some (v65, H64))
 (zai 1 false (zab x0) 0 fun v67 =>
 zai 1 false (zab x0) 1 fun v68 =>
 zaf R F.a52 [v67, x4, x1, v68] H0 fun r69 H70 =>
 zae r69 0 fun v71 =>
 zae r69 1 fun v72 =>
 some (v71, H70)))))))))))))))
noncomputable def zcs (R : zad) (x0 : Value) (H0 : Hp) : Option (Value × Hp) :=
 pBin PP .lss T.int x0 (.int .i64 10) fun v1 =>
 zaa v1 fun b2 => br b2
 (pBin PP .add T.int (.int .i64 48) x0 fun v3 =>
 zan .u8 v3 fun v4 =>
 zaj 1 [.int .u8 0] 1 [(0, v4)] H0 fun v5 H6 =>
 zfe v5 H6 fun v7 =>
 some (v7, H6))
 (pBin PP .quo T.int x0 (.int .i64 10) fun v8 =>
 zaf R F.a19 [v8] H0 fun r9 H10 =>
 pBin PP .rem T.int x0 (.int .i64 10) fun v11 =>
 zaf R F.a19 [v11] H10 fun r12 H13 =>
 pBin PP .add T.string r9 r12 fun v14 =>
 some (v14, H13))
noncomputable def zig (R : zad) (x0 x1 : Value) (H0 : Hp) : Option (Value × Hp) :=
 pBin PP .add T.uint64 x0 x1 fun v1 =>
 pBin PP .lss T.uint64 v1 x0 fun v2 =>
 zaa v2 fun b3 => br b3
 (some ((.int .u64 18446744073709551615), H0))
 (pBin PP .add T.uint64 x0 x1 fun v4 =>
 some (v4, H0))
noncomputable def zd4 (R : zad) (x0 x1 : Value) (H0 : Hp) : Option (Value × Hp) :=
 zav (
 zai 1 false (zab x1) 0 fun v1 =>
 pBin PP .lss T.int v1 (.int .i64 1) fun v2 =>
 zaa v2 fun b3 => br b3
 (some (.ret, [(.tuple #[(.int .i64 0), (.int .i64 73)])], H0))
 (zai 1 false (zab x1) 0 fun v4 =>
 pBin PP .gtr T.int v4 (.int .i64 33) fun v5 =>
 zaa v5 fun b6 => br b6
 (some (.ret, [(.tuple #[(.int .i64 0), (.int .i64 73)])], H0))
 (some (.next, [], H0)))) fun q7 l8 H9 => zaL q7
 (zav (
 zai 1 false (zab x1) 1 fun v11 =>
 pBin PP .lss T.int v11 (.int .i64 0) fun v12 =>
 zaa v12 fun b13 => br b13
 (some (.ret, [(.tuple #[(.int .i64 0), (.int .i64 5)])], H9))
 (zai 1 false (zab x1) 1 fun v14 =>
 pBin PP .gtr T.int v14 (.int .i64 64) fun v15 =>
 zaa v15 fun b16 => br b16
 (some (.ret, [(.tuple #[(.int .i64 0), (.int .i64 5)])], H9))
 (some (.next, [], H9)))) fun q17 l18 H19 => zaL q17
 (zai 1 false (zab x1) 2 fun v21 =>
 zai 1 false (zab x1) 3 fun v22 =>
 zai 1 false (zab x1) 4 fun v23 =>
 zaG PP T.a3_int [(0, v21), (1, v22), (2, v23)] fun v24 =>
 zav (zat (fun l25 H26 =>
 pBin PP .lss T.int (l25.getD 0 undef) (.int .i64 3) fun v27 =>
 zaa v27 fun b28 => br b28
 (zdi 3 false 1 v24 (l25.getD 0 undef) fun v29 =>
 zai 1 false (zab x1) 0 fun v30 =>
 zaf R F.a7 [v30] H26 fun r31 H32 =>
 pBin PP .lss T.int (l25.getD 0 undef) r31 fun v33 =>
 zaa v33 fun b34 => br b34
 (zaf R F.a13 [x0, v29] H32 fun r35 H36 =>
 pUn .not r35 fun v37 =>
 zaa v37 fun b38 => br b38
 (some (.ret, [(.tuple #[(.int .i64 0), (.int .i64 70)])], H36))
 (pBin PP .add T.int (l25.getD 0 undef) (.int .i64 1) fun v39 =>
 some (.next, [v39], H36)))
 (pBin PP .add T.int (l25.getD 0 undef) (.int .i64 1) fun v40 =>
 some (.next, [v40], H32)))
 (some (.exit 0, [(l25.getD 0 undef)], H26))) [(.int .i64 0)] H19) fun q41 l42 H43 => zaL q41 none
 (fun i44 => zay i44 0 (
 zai 7 true (zab x1) 0 fun v45 =>
 zaf R F.a66 [v45] H43 fun r46 H47 =>
 zaa r46 fun b48 => br b48
 (some ((.tuple #[(.int .i64 0), (.int .i64 1)]), H47))
 (zai 7 true (zab x1) 0 fun v49 =>
 zaf R F.a63 [x0, v49] H47 fun r50 H51 =>
 pUn .not r50 fun v52 =>
 zaa v52 fun b53 => br b53
 (some ((.tuple #[(.int .i64 0), (.int .i64 71)]), H51))
 (zai 7 true (zab x1) 0 fun v54 =>
 zaf R F.a64 [x0, v54] H51 fun r55 H56 =>
 pUn .not r55 fun v57 =>
 zaa v57 fun b58 => br b58
 (some ((.tuple #[(.int .i64 0), (.int .i64 5)]), H56))
 (zav (
 zai 1 false (zab x1) 0 fun v59 =>
 pBin PP .eql T.int v59 (.int .i64 4) fun v60 =>
 zaa v60 fun b61 => br b61
 (pNil x0 (
 zas 3 x0 fun p62 =>
 zal 1 false H56 p62 fun v63 =>
 zai 1 false (zab x1) 6 fun v64 =>
 zbs PP T.string (.int .i64 0) v63 v64 true H56 fun v65 =>
 zae v65 0 fun v66 =>
 zae v65 1 fun v67 =>
 zai 1 false (zab x1) 6 fun v68 =>
 zaf R F.a30 [v68] H56 fun r69 H70 =>
 pUn .not r69 fun v71 =>
 zaa v71 fun b72 => br b72
 (some (.ret, [(.tuple #[(.int .i64 0), (.int .i64 72)])], H70))
 (zaa v67 fun b73 => br b73
 (zai 1 false (zab x1) 1 fun v74 =>
 pBin PP .neq T.int v66 v74 fun v75 =>
 zaa v75 fun b76 => br b76
 (some (.ret, [(.tuple #[(.int .i64 0), (.int .i64 72)])], H70))
 (some (.next, [], H70)))
 (some (.next, [], H70)))))
 (some (.next, [], H56))) fun q77 l78 H79 => zaL q77
 (pNil x0 (
 zas 2 x0 fun p81 =>
 zal 1 false H79 p81 fun v82 =>
 zai 7 true (zab x1) 0 fun v83 =>
 zbs PP T.api_Node (.int .i64 0) v82 v83 true H79 fun v84 =>
 zae v84 0 fun v85 =>
 zae v84 1 fun v86 =>
 zaa v86 fun b87 => br b87
 (some ((.tuple #[v85, (.int .i64 0)]), H79))
 (zav (
 pNil x0 (
 zas 0 x0 fun p88 =>
 zal 1 false H79 p88 fun v89 =>
 pBin PP .gtr T.int v89 (.int .i64 0) fun v90 =>
 zaa v90 fun b91 => br b91
 (pNil x0 (
 zas 1 x0 fun p92 =>
 zal 1 false H79 p92 fun v93 =>
 pLen .sl v93 H79 fun v94 =>
 pNil x0 (
 zas 0 x0 fun p95 =>
 zal 1 false H79 p95 fun v96 =>
 pBin PP .geq T.int v94 v96 fun v97 =>
 zaa v97 fun b98 => br b98
 (some (.ret, [(.tuple #[(.int .i64 0), (.int .i64 4)])], H79))
 (some (.next, [], H79)))))
 (some (.next, [], H79)))) fun q99 l100 H101 => zaL q99
 (pNil x0 (
 zas 1 x0 fun p103 =>
 zal 1 false H101 p103 fun v104 =>
 zai 7 true (zab x1) 0 fun v105 =>
 zaj 7 [.int .i64 0, .int .i64 0, .int .i64 0, .int .i64 0, .int .i64 0, .int .u64 0, .string ⟨#[]⟩] 1 [(0, v105)] H101 fun v106 H107 =>
 chk (Hp.rdP H107 p103 1 false = some v104) (
 zaF 7 64 v104 v106 H107 fun v108 H109 =>
 pNil x0 (
 zas 1 x0 fun p110 =>
 zar 1 H109 p110 v108 fun H111 =>
 pNil x0 (
 zas 2 x0 fun p112 =>
 zal 1 false H111 p112 fun v113 =>
 zai 7 true (zab x1) 0 fun v114 =>
 pNil x0 (
 zas 1 x0 fun p115 =>
 zal 1 false H111 p115 fun v116 =>
 pLen .sl v116 H111 fun v117 =>
 pUpd PP T.api_Node v113 v114 v117 H111 fun H118 =>
 zai 1 false (zab x1) 0 fun v119 =>
 pBin PP .eql T.int v119 (.int .i64 4) fun v120 =>
 zaa v120 fun b121 => br b121
 (pNil x0 (
 zas 3 x0 fun p122 =>
 zal 1 false H118 p122 fun v123 =>
 zai 1 false (zab x1) 6 fun v124 =>
 zai 1 false (zab x1) 1 fun v125 =>
 pUpd PP T.string v123 v124 v125 H118 fun H126 =>
 pNil x0 (
 zas 1 x0 fun p127 =>
 zal 1 false H126 p127 fun v128 =>
 pLen .sl v128 H126 fun v129 =>
 some ((.tuple #[v129, (.int .i64 0)]), H126))))
 (pNil x0 (
 zas 1 x0 fun p130 =>
 zal 1 false H118 p130 fun v131 =>
 pLen .sl v131 H118 fun v132 =>
 some ((.tuple #[v132, (.int .i64 0)]), H118)))))))))
 (fun i102 => none)
 (some ((l100.headD undef), H101)))))
 (fun i80 => none)
 (some ((l78.headD undef), H79)))))) (
 none))
 (some ((l42.headD undef), H43)))
 (fun i20 => none)
 (some ((l18.headD undef), H19)))
 (fun i10 => none)
 (some ((l8.headD undef), H9))
noncomputable def zfh (R : zad) (x0 x1 : Value) (H0 : Hp) : Option (Value × Hp) :=
 zaf R F.a13 [x0, x1] H0 fun r1 H2 =>
 pUn .not r1 fun v3 =>
 zaa v3 fun b4 => br b4
 (some ((.int .i64 (-1)), H2))
 (pNil x0 (
 zas 1 x0 fun p5 =>
 zal 1 false H2 p5 fun v6 =>
 pBin PP .sub T.int x1 (.int .i64 1) fun v7 =>
 pIdx 7 v6 v7 fun p8 =>
 zas 1 p8 fun p9 =>
 zal 1 false H2 p9 fun v10 =>
 some (v10, H2)))
noncomputable def zeF (R : zad) (x0 x1 : Value) (H0 : Hp) : Option (Value × Hp) :=
 pBin PP .geq T.int x1 (.int .i64 1) fun v1 =>
 zaa v1 fun b2 => br b2
 (pNil x0 (
 zas 1 x0 fun p3 =>
 zal 1 false H0 p3 fun v4 =>
 pLen .sl v4 H0 fun v5 =>
 pBin PP .leq T.int x1 v5 fun v6 =>
 some (v6, H0)))
 (some ((.bool false), H0))
noncomputable def zil (R : zad) (x0 : Value) (H0 : Hp) : Option (Value × Hp) :=
 zav (
 pLen .str x0 H0 fun v1 =>
 pBin PP .lss T.int v1 (.int .i64 1) fun v2 =>
 zaa v2 fun b3 => br b3
 (some (.ret, [(.bool false)], H0))
 (pLen .str x0 H0 fun v4 =>
 pBin PP .gtr T.int v4 (.int .i64 24) fun v5 =>
 zaa v5 fun b6 => br b6
 (some (.ret, [(.bool false)], H0))
 (some (.next, [], H0)))) fun q7 l8 H9 => zaL q7
 (ziV x0 fun s11 =>
 zav (zat (fun l12 H13 =>
 br (Nat.blt (zaU ((l12.drop 0).getD 0 undef)) (za2 ((l12.drop 0).getD 0 undef)).size)
 (zav (
 pBin PP .geq T.int32 (.int .i32 (Utf8.decode (za2 ((l12.drop 0).getD 0 undef)) (zaU ((l12.drop 0).getD 0 undef))).1) (.int .i32 97) fun v14 =>
 zaa v14 fun b15 => br b15
 (pBin PP .leq T.int32 (.int .i32 (Utf8.decode (za2 ((l12.drop 0).getD 0 undef)) (zaU ((l12.drop 0).getD 0 undef))).1) (.int .i32 122) fun v16 =>
 zaa v16 fun b17 => br b17
 (some (.next, [(.bool true)], H13))
 (pBin PP .geq T.int32 (.int .i32 (Utf8.decode (za2 ((l12.drop 0).getD 0 undef)) (zaU ((l12.drop 0).getD 0 undef))).1) (.int .i32 65) fun v18 =>
 zaa v18 fun b19 => br b19
 (pBin PP .leq T.int32 (.int .i32 (Utf8.decode (za2 ((l12.drop 0).getD 0 undef)) (zaU ((l12.drop 0).getD 0 undef))).1) (.int .i32 90) fun v20 =>
 zaa v20 fun b21 => br b21
 (some (.next, [(.bool true)], H13))
 (pBin PP .eql T.int32 (.int .i32 (Utf8.decode (za2 ((l12.drop 0).getD 0 undef)) (zaU ((l12.drop 0).getD 0 undef))).1) (.int .i32 95) fun v22 =>
 some (.next, [v22], H13)))
 (pBin PP .eql T.int32 (.int .i32 (Utf8.decode (za2 ((l12.drop 0).getD 0 undef)) (zaU ((l12.drop 0).getD 0 undef))).1) (.int .i32 95) fun v23 =>
 some (.next, [v23], H13))))
 (pBin PP .geq T.int32 (.int .i32 (Utf8.decode (za2 ((l12.drop 0).getD 0 undef)) (zaU ((l12.drop 0).getD 0 undef))).1) (.int .i32 65) fun v24 =>
 zaa v24 fun b25 => br b25
 (pBin PP .leq T.int32 (.int .i32 (Utf8.decode (za2 ((l12.drop 0).getD 0 undef)) (zaU ((l12.drop 0).getD 0 undef))).1) (.int .i32 90) fun v26 =>
 zaa v26 fun b27 => br b27
 (some (.next, [(.bool true)], H13))
 (pBin PP .eql T.int32 (.int .i32 (Utf8.decode (za2 ((l12.drop 0).getD 0 undef)) (zaU ((l12.drop 0).getD 0 undef))).1) (.int .i32 95) fun v28 =>
 some (.next, [v28], H13)))
 (pBin PP .eql T.int32 (.int .i32 (Utf8.decode (za2 ((l12.drop 0).getD 0 undef)) (zaU ((l12.drop 0).getD 0 undef))).1) (.int .i32 95) fun v29 =>
 some (.next, [v29], H13)))) fun q30 l31 H32 => zaL q30
 (pUn .not (l31.getD 0 undef) fun v34 =>
 zaa v34 fun b35 => br b35
 (pBin PP .eql T.int (.int .i64 ((zaU ((l12.drop 0).getD 0 undef)) : Nat)) (.int .i64 0) fun v36 =>
 zaa v36 fun b37 => br b37
 (some (.ret, [(.bool false)], H32))
 (pBin PP .lss T.int32 (.int .i32 (Utf8.decode (za2 ((l12.drop 0).getD 0 undef)) (zaU ((l12.drop 0).getD 0 undef))).1) (.int .i32 48) fun v38 =>
 zaa v38 fun b39 => br b39
 (some (.ret, [(.bool false)], H32))
 (pBin PP .gtr T.int32 (.int .i32 (Utf8.decode (za2 ((l12.drop 0).getD 0 undef)) (zaU ((l12.drop 0).getD 0 undef))).1) (.int .i32 57) fun v40 =>
 zaa v40 fun b41 => br b41
 (some (.ret, [(.bool false)], H32))
 (some (.next, [(.tuple #[.string (za2 ((l12.drop 0).getD 0 undef)), .int .i64 (((zaU ((l12.drop 0).getD 0 undef)) + (Utf8.decode (za2 ((l12.drop 0).getD 0 undef)) (zaU ((l12.drop 0).getD 0 undef))).2) : Nat)])], H32)))))
 (some (.next, [(.tuple #[.string (za2 ((l12.drop 0).getD 0 undef)), .int .i64 (((zaU ((l12.drop 0).getD 0 undef)) + (Utf8.decode (za2 ((l12.drop 0).getD 0 undef)) (zaU ((l12.drop 0).getD 0 undef))).2) : Nat)])], H32)))
 (fun i33 => zay i33 1 (
 some (.next, [(.tuple #[.string (za2 ((l12.drop 0).getD 0 undef)), .int .i64 (((zaU ((l12.drop 0).getD 0 undef)) + (Utf8.decode (za2 ((l12.drop 0).getD 0 undef)) (zaU ((l12.drop 0).getD 0 undef))).2) : Nat)])], H32)) (
 some (.exit i33, [(.tuple #[.string (za2 ((l12.drop 0).getD 0 undef)), .int .i64 (((zaU ((l12.drop 0).getD 0 undef)) + (Utf8.decode (za2 ((l12.drop 0).getD 0 undef)) (zaU ((l12.drop 0).getD 0 undef))).2) : Nat)])], H32)))
 (some (.ret, [(l31.headD undef)], H32)))
 (some (.exit 0, [(.tuple #[.string (za2 ((l12.drop 0).getD 0 undef)), .int .i64 ((zaU ((l12.drop 0).getD 0 undef)) : Nat)])], H13))) [(.tuple #[.string s11, .int .i64 (0 : Nat)])] H9) fun q42 l43 H44 => zaL q42 none
 (fun i45 => zay i45 0 (
 some ((.bool true), H44)) (
 none))
 (some ((l43.headD undef), H44)))
 (fun i10 => none)
 (some ((l8.headD undef), H9))
noncomputable def zgW (R : zad) (H0 : Hp) : Option (Value × Hp) :=
 zaf R F.a42 [(.string ⟨#[45, 32, 116, 114, 117, 101, 32, 102, 97, 108, 115, 101, 32, 99, 111, 110, 115, 116, 32, 118, 97, 114, 32, 110, 111, 116, 32, 97, 110, 100, 32, 111, 114, 32, 120, 111, 114, 32, 101, 113, 32, 117, 108, 116, 32, 117, 108, 101, 32, 115, 108, 116, 32, 115, 108, 101, 32, 105, 116, 101, 32, 99, 111, 109, 32, 110, 101, 103, 32, 98, 97, 110, 100, 32, 98, 111, 114, 32, 98, 120, 111, 114, 32, 97, 100, 100, 32, 115, 117, 98, 32, 109, 117, 108, 32, 100, 105, 118, 32, 114, 101, 109, 32, 115, 104, 108, 32, 115, 104, 114, 32, 115, 97, 114, 32, 114, 111, 108, 32, 114, 111, 114, 32, 99, 97, 116, 32, 115, 108, 105, 99, 101, 32, 122, 101, 120, 116, 32, 115, 101, 120, 116]⟩)] H0 fun r1 H2 =>
 some (r1, H2)
noncomputable def zgV (R : zad) (x0 : Value) (H0 : Hp) : Option (Value × Hp) :=
 zav (
 pBin PP .eql T.int x0 (.int .i64 1) fun v1 =>
 zaa v1 fun b2 => br b2
 (some (.next, [v1], H0))
 (pBin PP .eql T.int x0 (.int .i64 2) fun v3 =>
 zaa v3 fun b4 => br b4
 (some (.next, [v3], H0))
 (pBin PP .eql T.int x0 (.int .i64 3) fun v5 =>
 zaa v5 fun b6 => br b6
 (some (.next, [v5], H0))
 (pBin PP .eql T.int x0 (.int .i64 4) fun v7 =>
 some (.next, [v7], H0))))) fun q8 l9 H10 => zaL q8
 (zaa (l9.getD 0 undef) fun b12 => br b12
 (some ((.int .i64 0), H10))
 (pBin PP .eql T.int x0 (.int .i64 5) fun v13 =>
 zaa v13 fun b14 => br b14
 (zaa v13 fun b15 => br b15
 (some ((.int .i64 1), H10))
 (pBin PP .eql T.int x0 (.int .i64 14) fun v16 =>
 zaa v16 fun b17 => br b17
 (some ((.int .i64 3), H10))
 (some ((.int .i64 2), H10))))
 (pBin PP .eql T.int x0 (.int .i64 15) fun v18 =>
 zaa v18 fun b19 => br b19
 (zaa v18 fun b20 => br b20
 (some ((.int .i64 1), H10))
 (pBin PP .eql T.int x0 (.int .i64 14) fun v21 =>
 zaa v21 fun b22 => br b22
 (some ((.int .i64 3), H10))
 (some ((.int .i64 2), H10))))
 (pBin PP .eql T.int x0 (.int .i64 16) fun v23 =>
 zaa v23 fun b24 => br b24
 (zaa v23 fun b25 => br b25
 (some ((.int .i64 1), H10))
 (pBin PP .eql T.int x0 (.int .i64 14) fun v26 =>
 zaa v26 fun b27 => br b27
 (some ((.int .i64 3), H10))
 (some ((.int .i64 2), H10))))
 (pBin PP .eql T.int x0 (.int .i64 31) fun v28 =>
 zaa v28 fun b29 => br b29
 (zaa v28 fun b30 => br b30
 (some ((.int .i64 1), H10))
 (pBin PP .eql T.int x0 (.int .i64 14) fun v31 =>
 zaa v31 fun b32 => br b32
 (some ((.int .i64 3), H10))
 (some ((.int .i64 2), H10))))
 (pBin PP .eql T.int x0 (.int .i64 32) fun v33 =>
 zaa v33 fun b34 => br b34
 (zaa v33 fun b35 => br b35
 (some ((.int .i64 1), H10))
 (pBin PP .eql T.int x0 (.int .i64 14) fun v36 =>
 zaa v36 fun b37 => br b37
 (some ((.int .i64 3), H10))
 (some ((.int .i64 2), H10))))
 (pBin PP .eql T.int x0 (.int .i64 33) fun v38 =>
 zaa v38 fun b39 => br b39
 (some ((.int .i64 1), H10))
 (pBin PP .eql T.int x0 (.int .i64 14) fun v40 =>
 zaa v40 fun b41 => br b41
 (some ((.int .i64 3), H10))
 (some ((.int .i64 2), H10))))))))))
 (fun i11 => zay i11 0 (
 some ((.int .i64 2), H10)) (
 none))
 (some ((l9.headD undef), H10))
noncomputable def zeG (R : zad) (x0 x1 : Value) (H0 : Hp) : Option (Value × Hp) :=
 zaf R F.a44 [x0, x1, (.int .i64 0), (.int .i64 (-1))] H0 fun r1 H2 =>
 some (r1, H2)
noncomputable def zcl (R : zad) (x x0 x1 x2 : Value) (H0 : Hp) : Option (Value × Hp) :=
 zep PP .eql T.interface x fun v1 =>
 zaa v1 fun b2 => br b2
 (some ((.tuple #[]), H0))
 (zfy PP T.term_fault x fun v3 =>
 zaV 1 [.int .i64 0] 0 v3 fun c4 =>
 zai 1 false c4 0 fun v5 =>
 zar 1 H0 x0 (.pointer none) fun H6 =>
 zar 1 H6 x1 (.slice none 0 0) fun H7 =>
 zar 1 H7 x2 v5 fun H8 =>
 some ((.tuple #[]), H8))
theorem zgg (R : zad) (x x0 x1 x2 : Value) (H0 : Hp) {α : Type} (k : Hp → Option α) : zgf PP orc R F.a45 [x0, x1, x2] x H0 k = zgj (zcl R x x0 x1 x2 H0) fun _ H => k H := by kernel_rfl
noncomputable def zcW (R : zad) (x0 x1 : Value) (H0 : Hp) : Option (Value × Hp) := zeu PP orc R F.a11 Go.Proofs.Tryz.f67 [x0, x1] H0
noncomputable def zf3 (R : zad) (x0 : Value) (H0 : Hp) : Option (Value × Hp) :=
 pBin PP .eql T.int32 x0 (.int .i32 32) fun v1 =>
 some (v1, H0)
noncomputable def zck (R : zad) (x0 : Value) (H0 : Hp) : Option (Value × Hp) :=
 pNil x0 (
 zas 1 x0 fun p1 =>
 zal 1 false H0 p1 fun v2 =>
 pLen .sl v2 H0 fun v3 =>
 pBin PP .eql T.int v3 (.int .i64 0) fun v4 =>
 zaa v4 fun b5 => br b5
 (zaG PP T.term_fault [(0, (.int .i64 3))] fun v6 =>
 some ((W0 (.iface T.term_fault v6)), H0))
 (pNil x0 (
 zas 1 x0 fun p7 =>
 zal 1 false H0 p7 fun v8 =>
 pIdx 1 v8 (.int .i64 0) fun p9 =>
 zal 1 false H0 p9 fun v10 =>
 pNil x0 (
 zas 1 x0 fun p11 =>
 zal 1 false H0 p11 fun v12 =>
 zch 1 v12 (some (.int .i64 1)) none fun v13 =>
 pNil x0 (
 zas 1 x0 fun p14 =>
 zar 1 H0 p14 v13 fun H15 =>
 some ((W1 v10), H15))))))
noncomputable def zdB (R : zad) (x0 : Value) (H0 : Hp) : Option (Value × Hp) :=
 zbd R F.a2 [x0] H0 (fun e1 H2 =>
 some ((W0 e1), H2)) fun r3 H4 =>
 pBin PP .lss T.int r3 (.int .i64 1) fun v5 =>
 zaa v5 fun b6 => br b6
 (zaG PP T.term_fault [(0, (.int .i64 3))] fun v7 =>
 some ((W0 (.iface T.term_fault v7)), H4))
 (pNil x0 (
 zas 2 x0 fun p8 =>
 zal 1 false H4 p8 fun v9 =>
 pLen .sl v9 H4 fun v10 =>
 pBin PP .gtr T.int r3 v10 fun v11 =>
 zaa v11 fun b12 => br b12
 (zaG PP T.term_fault [(0, (.int .i64 3))] fun v13 =>
 some ((W0 (.iface T.term_fault v13)), H4))
 (pNil x0 (
 zas 2 x0 fun p14 =>
 zal 1 false H4 p14 fun v15 =>
 pBin PP .sub T.int r3 (.int .i64 1) fun v16 =>
 pIdx 1 v15 v16 fun p17 =>
 zal 1 false H4 p17 fun v18 =>
 some ((W1 v18), H4)))))
noncomputable def zcV (R : zad) (x0 : Value) (H0 : Hp) : Option (Value × Hp) :=
 zbd R F.a3 [x0] H0 (fun e1 H2 =>
 some ((W0 e1), H2)) fun r3 H4 =>
 zaf R F.a15 [r3] H4 fun r5 H6 =>
 zae r5 0 fun v7 =>
 zae r5 1 fun v8 =>
 pBin PP .neq T.api_Errno v8 (.int .i64 0) fun v9 =>
 zaa v9 fun b10 => br b10
 (zaG PP T.term_fault [(0, (.int .i64 3))] fun v11 =>
 some ((W0 (.iface T.term_fault v11)), H6))
 (pBin PP .geq T.uint64 v7 (.int .u64 2147483648) fun v12 =>
 zaa v12 fun b13 => br b13
 (zaG PP T.term_fault [(0, (.int .i64 3))] fun v14 =>
 some ((W0 (.iface T.term_fault v14)), H6))
 (zan .i64 v7 fun v15 =>
 some ((W1 v15), H6)))
noncomputable def zdC (R : zad) (x0 : Value) (H0 : Hp) : Option (Value × Hp) := zeu PP orc R F.a14 Go.Proofs.Tryz.f72 [x0] H0
noncomputable def zik (R : zad) (x0 x1 : Value) (H0 : Hp) : Option (Value × Hp) :=
 pBin PP .lss T.int x0 (.int .i64 1) fun v1 =>
 zaa v1 fun b2 => br b2
 (some ((.int .u64 0), H0))
 (pBin PP .geq T.int x0 (.int .i64 64) fun v3 =>
 zaa v3 fun b4 => br b4
 (some (x1, H0))
 (zan .u64 x0 fun v5 =>
 pBin PP .shl T.uint64 (.int .u64 1) v5 fun v6 =>
 pBin PP .sub T.uint64 v6 (.int .u64 1) fun v7 =>
 pBin PP .and T.uint64 x1 v7 fun v8 =>
 some (v8, H0)))
noncomputable def zjv (R : zad) (x0 : Value) (H0 : Hp) : Option (Value × Hp) :=
 zaa x0 fun b1 => br b1
 (some ((.int .u64 1), H0))
 (some ((.int .u64 0), H0))
noncomputable def zjx (R : zad) (x0 x1 x2 x3 : Value) (H0 : Hp) : Option (Value × Hp) :=
 zav (
 pBin PP .lss T.int x0 (.int .i64 9) fun v1 =>
 zaa v1 fun b2 => br b2
 (some (.ret, [(.tuple #[(.bool false), (.int .i64 73)])], H0))
 (pBin PP .gtr T.int x0 (.int .i64 13) fun v3 =>
 zaa v3 fun b4 => br b4
 (some (.ret, [(.tuple #[(.bool false), (.int .i64 73)])], H0))
 (some (.next, [], H0)))) fun q5 l6 H7 => zaL q5
 (zaf R F.a4 [x1] H7 fun r9 H10 =>
 pUn .not r9 fun v11 =>
 zaa v11 fun b12 => br b12
 (some ((.tuple #[(.bool false), (.int .i64 5)]), H10))
 (zaf R F.a0 [x1, x2] H10 fun r13 H14 =>
 zaf R F.a0 [x1, x3] H14 fun r15 H16 =>
 zaf R F.a16 [x1, r13] H16 fun r17 H18 =>
 zaf R F.a16 [x1, r15] H18 fun r19 H20 =>
 pBin PP .eql T.int x0 (.int .i64 9) fun v21 =>
 zaa v21 fun b22 => br b22
 (pBin PP .eql T.uint64 r13 r15 fun v23 =>
 some ((.tuple #[v23, (.int .i64 0)]), H20))
 (pBin PP .eql T.int x0 (.int .i64 10) fun v24 =>
 zaa v24 fun b25 => br b25
 (pBin PP .lss T.uint64 r13 r15 fun v26 =>
 some ((.tuple #[v26, (.int .i64 0)]), H20))
 (pBin PP .eql T.int x0 (.int .i64 11) fun v27 =>
 zaa v27 fun b28 => br b28
 (pBin PP .leq T.uint64 r13 r15 fun v29 =>
 some ((.tuple #[v29, (.int .i64 0)]), H20))
 (pBin PP .eql T.int x0 (.int .i64 12) fun v30 =>
 zaa v30 fun b31 => br b31
 (pBin PP .lss T.int64 r17 r19 fun v32 =>
 some ((.tuple #[v32, (.int .i64 0)]), H20))
 (pBin PP .leq T.int64 r17 r19 fun v33 =>
 some ((.tuple #[v33, (.int .i64 0)]), H20)))))))
 (fun i8 => none)
 (some ((l6.headD undef), H7))
noncomputable def zly (R : zad) (x0 x1 x2 : Value) (H0 : Hp) : Option (Value × Hp) :=
 pBin PP .neq T.int x0 (.int .i64 15) fun v1 =>
 zaa v1 fun b2 => br b2
 (pBin PP .neq T.int x0 (.int .i64 16) fun v3 =>
 zaa v3 fun b4 => br b4
 (some ((.tuple #[(.int .u64 0), (.int .i64 73)]), H0))
 (zaf R F.a4 [x1] H0 fun r5 H6 =>
 pUn .not r5 fun v7 =>
 zaa v7 fun b8 => br b8
 (some ((.tuple #[(.int .u64 0), (.int .i64 5)]), H6))
 (pBin PP .eql T.int x0 (.int .i64 15) fun v9 =>
 zaa v9 fun b10 => br b10
 (pUn .xor x2 fun v11 =>
 zaf R F.a0 [x1, v11] H6 fun r12 H13 =>
 some ((.tuple #[r12, (.int .i64 0)]), H13))
 (pUn .neg x2 fun v14 =>
 zaf R F.a0 [x1, v14] H6 fun r15 H16 =>
 some ((.tuple #[r15, (.int .i64 0)]), H16)))))
 (zaf R F.a4 [x1] H0 fun r17 H18 =>
 pUn .not r17 fun v19 =>
 zaa v19 fun b20 => br b20
 (some ((.tuple #[(.int .u64 0), (.int .i64 5)]), H18))
 (pBin PP .eql T.int x0 (.int .i64 15) fun v21 =>
 zaa v21 fun b22 => br b22
 (pUn .xor x2 fun v23 =>
 zaf R F.a0 [x1, v23] H18 fun r24 H25 =>
 some ((.tuple #[r24, (.int .i64 0)]), H25))
 (pUn .neg x2 fun v26 =>
 zaf R F.a0 [x1, v26] H18 fun r27 H28 =>
 some ((.tuple #[r27, (.int .i64 0)]), H28))))
noncomputable def zjz (R : zad) (x0 x1 x2 x3 : Value) (H0 : Hp) : Option (Value × Hp) :=
 zav (
 pBin PP .lss T.int x0 (.int .i64 17) fun v1 =>
 zaa v1 fun b2 => br b2
 (some (.ret, [(.tuple #[(.int .u64 0), (.int .i64 73)])], H0))
 (pBin PP .gtr T.int x0 (.int .i64 29) fun v3 =>
 zaa v3 fun b4 => br b4
 (some (.ret, [(.tuple #[(.int .u64 0), (.int .i64 73)])], H0))
 (some (.next, [], H0)))) fun q5 l6 H7 => zaL q5
 (zav (
 zaf R F.a4 [x1] H7 fun r9 H10 =>
 pUn .not r9 fun v11 =>
 zaa v11 fun b12 => br b12
 (some (.ret, [(.tuple #[(.int .u64 0), (.int .i64 5)])], H10))
 (zaf R F.a32 [x0] H10 fun r13 H14 =>
 zaa r13 fun b15 => br b15
 (zan .u64 x1 fun v16 =>
 zaf R F.a18 [v16] H14 fun r17 H18 =>
 pBin PP .neq T.int r17 (.int .i64 1) fun v19 =>
 zaa v19 fun b20 => br b20
 (some (.ret, [(.tuple #[(.int .u64 0), (.int .i64 5)])], H18))
 (some (.next, [], H18)))
 (some (.next, [], H14)))) fun q21 l22 H23 => zaL q21
 (zaf R F.a0 [x1, x2] H23 fun r25 H26 =>
 zaf R F.a0 [x1, x3] H26 fun r27 H28 =>
 zaf R F.a32 [x0] H28 fun r29 H30 =>
 zaa r29 fun b31 => br b31
 (zan .u64 x1 fun v32 =>
 pBin PP .rem T.uint64 r27 v32 fun v33 =>
 zan .i64 v33 fun v34 =>
 zaf R F.a31 [x0, x1, r25, v34] H30 fun r35 H36 =>
 some ((.tuple #[r35, (.int .i64 0)]), H36))
 (pBin PP .eql T.int x0 (.int .i64 17) fun v37 =>
 zaa v37 fun b38 => br b38
 (pBin PP .and T.uint64 r25 r27 fun v39 =>
 zaf R F.a0 [x1, v39] H30 fun r40 H41 =>
 some ((.tuple #[r40, (.int .i64 0)]), H41))
 (pBin PP .eql T.int x0 (.int .i64 18) fun v42 =>
 zaa v42 fun b43 => br b43
 (pBin PP .or T.uint64 r25 r27 fun v44 =>
 zaf R F.a0 [x1, v44] H30 fun r45 H46 =>
 some ((.tuple #[r45, (.int .i64 0)]), H46))
 (pBin PP .eql T.int x0 (.int .i64 19) fun v47 =>
 zaa v47 fun b48 => br b48
 (pBin PP .xor T.uint64 r25 r27 fun v49 =>
 zaf R F.a0 [x1, v49] H30 fun r50 H51 =>
 some ((.tuple #[r50, (.int .i64 0)]), H51))
 (pBin PP .eql T.int x0 (.int .i64 20) fun v52 =>
 zaa v52 fun b53 => br b53
 (pBin PP .add T.uint64 r25 r27 fun v54 =>
 zaf R F.a0 [x1, v54] H30 fun r55 H56 =>
 some ((.tuple #[r55, (.int .i64 0)]), H56))
 (pBin PP .eql T.int x0 (.int .i64 21) fun v57 =>
 zaa v57 fun b58 => br b58
 (pBin PP .sub T.uint64 r25 r27 fun v59 =>
 zaf R F.a0 [x1, v59] H30 fun r60 H61 =>
 some ((.tuple #[r60, (.int .i64 0)]), H61))
 (pBin PP .eql T.int x0 (.int .i64 22) fun v62 =>
 zaa v62 fun b63 => br b63
 (pBin PP .mul T.uint64 r25 r27 fun v64 =>
 zaf R F.a0 [x1, v64] H30 fun r65 H66 =>
 some ((.tuple #[r65, (.int .i64 0)]), H66))
 (pBin PP .eql T.int x0 (.int .i64 23) fun v67 =>
 zaa v67 fun b68 => br b68
 (pBin PP .neq T.uint64 r27 (.int .u64 0) fun v69 =>
 zaa v69 fun b70 => br b70
 (pBin PP .quo T.uint64 r25 r27 fun v71 =>
 zaf R F.a0 [x1, v71] H30 fun r72 H73 =>
 some ((.tuple #[r72, (.int .i64 0)]), H73))
 (zaf R F.a0 [x1, (.int .u64 18446744073709551615)] H30 fun r74 H75 =>
 some ((.tuple #[r74, (.int .i64 0)]), H75)))
 (pBin PP .eql T.int x0 (.int .i64 24) fun v76 =>
 zaa v76 fun b77 => br b77
 (pBin PP .neq T.uint64 r27 (.int .u64 0) fun v78 =>
 zaa v78 fun b79 => br b79
 (pBin PP .rem T.uint64 r25 r27 fun v80 =>
 zaf R F.a0 [x1, v80] H30 fun r81 H82 =>
 some ((.tuple #[r81, (.int .i64 0)]), H82))
 (zaf R F.a0 [x1, r25] H30 fun r83 H84 =>
 some ((.tuple #[r83, (.int .i64 0)]), H84)))
 (zaf R F.a0 [x1, (.int .u64 0)] H30 fun r85 H86 =>
 some ((.tuple #[r85, (.int .i64 0)]), H86)))))))))))
 (fun i24 => none)
 (some ((l22.headD undef), H23)))
 (fun i8 => none)
 (some ((l6.headD undef), H7))
noncomputable def zjy (R : zad) (x0 x1 x2 x3 : Value) (H0 : Hp) : Option (Value × Hp) :=
 zaf R F.a4 [x0] H0 fun r1 H2 =>
 pUn .not r1 fun v3 =>
 zaa v3 fun b4 => br b4
 (some ((.tuple #[(.int .u64 0), (.int .i64 5)]), H2))
 (zaf R F.a4 [x2] H2 fun r5 H6 =>
 pUn .not r5 fun v7 =>
 zaa v7 fun b8 => br b8
 (some ((.tuple #[(.int .u64 0), (.int .i64 5)]), H6))
 (pBin PP .add T.int x0 x2 fun v9 =>
 pBin PP .gtr T.int v9 (.int .i64 64) fun v10 =>
 zaa v10 fun b11 => br b11
 (some ((.tuple #[(.int .u64 0), (.int .i64 5)]), H6))
 (zaf R F.a0 [x0, x1] H6 fun r12 H13 =>
 zan .u64 x2 fun v14 =>
 pBin PP .shl T.uint64 r12 v14 fun v15 =>
 zaf R F.a0 [x2, x3] H13 fun r16 H17 =>
 pBin PP .or T.uint64 v15 r16 fun v18 =>
 some ((.tuple #[v18, (.int .i64 0)]), H17))))
noncomputable def zgZ (R : zad) (x0 x1 x2 x3 : Value) (H0 : Hp) : Option (Value × Hp) :=
 zav (
 zaf R F.a4 [x0] H0 fun r1 H2 =>
 pUn .not r1 fun v3 =>
 zaa v3 fun b4 => br b4
 (some (.ret, [(.tuple #[(.int .u64 0), (.int .i64 5)])], H2))
 (pBin PP .lss T.int x3 (.int .i64 1) fun v5 =>
 zaa v5 fun b6 => br b6
 (some (.ret, [(.tuple #[(.int .u64 0), (.int .i64 5)])], H2))
 (pBin PP .lss T.int x2 (.int .i64 0) fun v7 =>
 zaa v7 fun b8 => br b8
 (some (.ret, [(.tuple #[(.int .u64 0), (.int .i64 5)])], H2))
 (pBin PP .gtr T.int x2 x0 fun v9 =>
 zaa v9 fun b10 => br b10
 (some (.ret, [(.tuple #[(.int .u64 0), (.int .i64 5)])], H2))
 (pBin PP .sub T.int x0 x2 fun v11 =>
 pBin PP .gtr T.int x3 v11 fun v12 =>
 zaa v12 fun b13 => br b13
 (some (.ret, [(.tuple #[(.int .u64 0), (.int .i64 5)])], H2))
 (some (.next, [], H2))))))) fun q14 l15 H16 => zaL q14
 (zaf R F.a0 [x0, x1] H16 fun r18 H19 =>
 zan .u64 x2 fun v20 =>
 pBin PP .shr T.uint64 r18 v20 fun v21 =>
 zaf R F.a0 [x3, v21] H19 fun r22 H23 =>
 some ((.tuple #[r22, (.int .i64 0)]), H23))
 (fun i17 => none)
 (some ((l15.headD undef), H16))
noncomputable def zjw (R : zad) (x0 x1 x2 x3 : Value) (H0 : Hp) : Option (Value × Hp) :=
 zav (
 pBin PP .neq T.int x0 (.int .i64 32) fun v1 =>
 zaa v1 fun b2 => br b2
 (pBin PP .neq T.int x0 (.int .i64 33) fun v3 =>
 zaa v3 fun b4 => br b4
 (some (.ret, [(.tuple #[(.int .u64 0), (.int .i64 73)])], H0))
 (some (.next, [], H0)))
 (some (.next, [], H0))) fun q5 l6 H7 => zaL q5
 (zav (
 zaf R F.a4 [x1] H7 fun r9 H10 =>
 pUn .not r9 fun v11 =>
 zaa v11 fun b12 => br b12
 (some (.ret, [(.tuple #[(.int .u64 0), (.int .i64 5)])], H10))
 (zaf R F.a4 [x3] H10 fun r13 H14 =>
 pUn .not r13 fun v15 =>
 zaa v15 fun b16 => br b16
 (some (.ret, [(.tuple #[(.int .u64 0), (.int .i64 5)])], H14))
 (pBin PP .lss T.int x3 x1 fun v17 =>
 zaa v17 fun b18 => br b18
 (some (.ret, [(.tuple #[(.int .u64 0), (.int .i64 5)])], H14))
 (some (.next, [], H14))))) fun q19 l20 H21 => zaL q19
 (pBin PP .eql T.int x0 (.int .i64 32) fun v23 =>
 zaa v23 fun b24 => br b24
 (zaf R F.a0 [x1, x2] H21 fun r25 H26 =>
 some ((.tuple #[r25, (.int .i64 0)]), H26))
 (zaf R F.a16 [x1, x2] H21 fun r27 H28 =>
 zan .u64 r27 fun v29 =>
 zaf R F.a0 [x3, v29] H28 fun r30 H31 =>
 some ((.tuple #[r30, (.int .i64 0)]), H31)))
 (fun i22 => none)
 (some ((l20.headD undef), H21)))
 (fun i8 => none)
 (some ((l6.headD undef), H7))
noncomputable def zgU (R : zad) (x0 : Value) (H0 : Hp) : Option (Value × Hp) :=
 zai 1 false (zab x0) 0 fun v1 =>
 zaf R F.a7 [v1] H0 fun r2 H3 =>
 pBin PP .lss T.int r2 (.int .i64 1) fun v4 =>
 zaa v4 fun b5 => br b5
 (zai 1 false (zab x0) 2 fun v6 =>
 pBin PP .neq T.int v6 (.int .i64 0) fun v7 =>
 zaa v7 fun b8 => br b8
 (some ((.bool true), H3))
 (pBin PP .lss T.int r2 (.int .i64 2) fun v9 =>
 zaa v9 fun b10 => br b10
 (zai 1 false (zab x0) 3 fun v11 =>
 pBin PP .neq T.int v11 (.int .i64 0) fun v12 =>
 zaa v12 fun b13 => br b13
 (some ((.bool true), H3))
 (pBin PP .lss T.int r2 (.int .i64 3) fun v14 =>
 zaa v14 fun b15 => br b15
 (zai 1 false (zab x0) 4 fun v16 =>
 pBin PP .neq T.int v16 (.int .i64 0) fun v17 =>
 zaa v17 fun b18 => br b18
 (some ((.bool true), H3))
 (zai 1 false (zab x0) 5 fun v19 =>
 pBin PP .neq T.uint64 v19 (.int .u64 0) fun v20 =>
 zaa v20 fun b21 => br b21
 (zai 1 false (zab x0) 0 fun v22 =>
 pBin PP .neq T.int v22 (.int .i64 3) fun v23 =>
 zaa v23 fun b24 => br b24
 (zai 1 false (zab x0) 0 fun v25 =>
 pBin PP .neq T.int v25 (.int .i64 31) fun v26 =>
 zaa v26 fun b27 => br b27
 (some ((.bool true), H3))
 (zai 1 false (zab x0) 6 fun v28 =>
 pBin PP .neq T.string v28 (.string ⟨#[]⟩) fun v29 =>
 zaa v29 fun b30 => br b30
 (zai 1 false (zab x0) 0 fun v31 =>
 pBin PP .neq T.int v31 (.int .i64 4) fun v32 =>
 some (v32, H3))
 (some ((.bool false), H3))))
 (zai 1 false (zab x0) 6 fun v33 =>
 pBin PP .neq T.string v33 (.string ⟨#[]⟩) fun v34 =>
 zaa v34 fun b35 => br b35
 (zai 1 false (zab x0) 0 fun v36 =>
 pBin PP .neq T.int v36 (.int .i64 4) fun v37 =>
 some (v37, H3))
 (some ((.bool false), H3))))
 (zai 1 false (zab x0) 6 fun v38 =>
 pBin PP .neq T.string v38 (.string ⟨#[]⟩) fun v39 =>
 zaa v39 fun b40 => br b40
 (zai 1 false (zab x0) 0 fun v41 =>
 pBin PP .neq T.int v41 (.int .i64 4) fun v42 =>
 some (v42, H3))
 (some ((.bool false), H3)))))
 (zai 1 false (zab x0) 5 fun v43 =>
 pBin PP .neq T.uint64 v43 (.int .u64 0) fun v44 =>
 zaa v44 fun b45 => br b45
 (zai 1 false (zab x0) 0 fun v46 =>
 pBin PP .neq T.int v46 (.int .i64 3) fun v47 =>
 zaa v47 fun b48 => br b48
 (zai 1 false (zab x0) 0 fun v49 =>
 pBin PP .neq T.int v49 (.int .i64 31) fun v50 =>
 zaa v50 fun b51 => br b51
 (some ((.bool true), H3))
 (zai 1 false (zab x0) 6 fun v52 =>
 pBin PP .neq T.string v52 (.string ⟨#[]⟩) fun v53 =>
 zaa v53 fun b54 => br b54
 (zai 1 false (zab x0) 0 fun v55 =>
 pBin PP .neq T.int v55 (.int .i64 4) fun v56 =>
 some (v56, H3))
 (some ((.bool false), H3))))
 (zai 1 false (zab x0) 6 fun v57 =>
 pBin PP .neq T.string v57 (.string ⟨#[]⟩) fun v58 =>
 zaa v58 fun b59 => br b59
 (zai 1 false (zab x0) 0 fun v60 =>
 pBin PP .neq T.int v60 (.int .i64 4) fun v61 =>
 some (v61, H3))
 (some ((.bool false), H3))))
 (zai 1 false (zab x0) 6 fun v62 =>
 pBin PP .neq T.string v62 (.string ⟨#[]⟩) fun v63 =>
 zaa v63 fun b64 => br b64
 (zai 1 false (zab x0) 0 fun v65 =>
 pBin PP .neq T.int v65 (.int .i64 4) fun v66 =>
 some (v66, H3))
 (some ((.bool false), H3))))))
 (pBin PP .lss T.int r2 (.int .i64 3) fun v67 =>
 zaa v67 fun b68 => br b68
 (zai 1 false (zab x0) 4 fun v69 =>
 pBin PP .neq T.int v69 (.int .i64 0) fun v70 =>
 zaa v70 fun b71 => br b71
 (some ((.bool true), H3))
 (zai 1 false (zab x0) 5 fun v72 =>
 pBin PP .neq T.uint64 v72 (.int .u64 0) fun v73 =>
 zaa v73 fun b74 => br b74
 (zai 1 false (zab x0) 0 fun v75 =>
 pBin PP .neq T.int v75 (.int .i64 3) fun v76 =>
 zaa v76 fun b77 => br b77
 (zai 1 false (zab x0) 0 fun v78 =>
 pBin PP .neq T.int v78 (.int .i64 31) fun v79 =>
 zaa v79 fun b80 => br b80
 (some ((.bool true), H3))
 (zai 1 false (zab x0) 6 fun v81 =>
 pBin PP .neq T.string v81 (.string ⟨#[]⟩) fun v82 =>
 zaa v82 fun b83 => br b83
 (zai 1 false (zab x0) 0 fun v84 =>
 pBin PP .neq T.int v84 (.int .i64 4) fun v85 =>
 some (v85, H3))
 (some ((.bool false), H3))))
 (zai 1 false (zab x0) 6 fun v86 =>
 pBin PP .neq T.string v86 (.string ⟨#[]⟩) fun v87 =>
 zaa v87 fun b88 => br b88
 (zai 1 false (zab x0) 0 fun v89 =>
 pBin PP .neq T.int v89 (.int .i64 4) fun v90 =>
 some (v90, H3))
 (some ((.bool false), H3))))
 (zai 1 false (zab x0) 6 fun v91 =>
 pBin PP .neq T.string v91 (.string ⟨#[]⟩) fun v92 =>
 zaa v92 fun b93 => br b93
 (zai 1 false (zab x0) 0 fun v94 =>
 pBin PP .neq T.int v94 (.int .i64 4) fun v95 =>
 some (v95, H3))
 (some ((.bool false), H3)))))
 (zai 1 false (zab x0) 5 fun v96 =>
 pBin PP .neq T.uint64 v96 (.int .u64 0) fun v97 =>
 zaa v97 fun b98 => br b98
 (zai 1 false (zab x0) 0 fun v99 =>
 pBin PP .neq T.int v99 (.int .i64 3) fun v100 =>
 zaa v100 fun b101 => br b101
 (zai 1 false (zab x0) 0 fun v102 =>
 pBin PP .neq T.int v102 (.int .i64 31) fun v103 =>
 zaa v103 fun b104 => br b104
 (some ((.bool true), H3))
 (zai 1 false (zab x0) 6 fun v105 =>
 pBin PP .neq T.string v105 (.string ⟨#[]⟩) fun v106 =>
 zaa v106 fun b107 => br b107
 (zai 1 false (zab x0) 0 fun v108 =>
 pBin PP .neq T.int v108 (.int .i64 4) fun v109 =>
 some (v109, H3))
 (some ((.bool false), H3))))
 (zai 1 false (zab x0) 6 fun v110 =>
 pBin PP .neq T.string v110 (.string ⟨#[]⟩) fun v111 =>
 zaa v111 fun b112 => br b112
 (zai 1 false (zab x0) 0 fun v113 =>
 pBin PP .neq T.int v113 (.int .i64 4) fun v114 =>
 some (v114, H3))
 (some ((.bool false), H3))))
 (zai 1 false (zab x0) 6 fun v115 =>
 pBin PP .neq T.string v115 (.string ⟨#[]⟩) fun v116 =>
 zaa v116 fun b117 => br b117
 (zai 1 false (zab x0) 0 fun v118 =>
 pBin PP .neq T.int v118 (.int .i64 4) fun v119 =>
 some (v119, H3))
 (some ((.bool false), H3)))))))
 (pBin PP .lss T.int r2 (.int .i64 2) fun v120 =>
 zaa v120 fun b121 => br b121
 (zai 1 false (zab x0) 3 fun v122 =>
 pBin PP .neq T.int v122 (.int .i64 0) fun v123 =>
 zaa v123 fun b124 => br b124
 (some ((.bool true), H3))
 (pBin PP .lss T.int r2 (.int .i64 3) fun v125 =>
 zaa v125 fun b126 => br b126
 (zai 1 false (zab x0) 4 fun v127 =>
 pBin PP .neq T.int v127 (.int .i64 0) fun v128 =>
 zaa v128 fun b129 => br b129
 (some ((.bool true), H3))
 (zai 1 false (zab x0) 5 fun v130 =>
 pBin PP .neq T.uint64 v130 (.int .u64 0) fun v131 =>
 zaa v131 fun b132 => br b132
 (zai 1 false (zab x0) 0 fun v133 =>
 pBin PP .neq T.int v133 (.int .i64 3) fun v134 =>
 zaa v134 fun b135 => br b135
 (zai 1 false (zab x0) 0 fun v136 =>
 pBin PP .neq T.int v136 (.int .i64 31) fun v137 =>
 zaa v137 fun b138 => br b138
 (some ((.bool true), H3))
 (zai 1 false (zab x0) 6 fun v139 =>
 pBin PP .neq T.string v139 (.string ⟨#[]⟩) fun v140 =>
 zaa v140 fun b141 => br b141
 (zai 1 false (zab x0) 0 fun v142 =>
 pBin PP .neq T.int v142 (.int .i64 4) fun v143 =>
 some (v143, H3))
 (some ((.bool false), H3))))
 (zai 1 false (zab x0) 6 fun v144 =>
 pBin PP .neq T.string v144 (.string ⟨#[]⟩) fun v145 =>
 zaa v145 fun b146 => br b146
 (zai 1 false (zab x0) 0 fun v147 =>
 pBin PP .neq T.int v147 (.int .i64 4) fun v148 =>
 some (v148, H3))
 (some ((.bool false), H3))))
 (zai 1 false (zab x0) 6 fun v149 =>
 pBin PP .neq T.string v149 (.string ⟨#[]⟩) fun v150 =>
 zaa v150 fun b151 => br b151
 (zai 1 false (zab x0) 0 fun v152 =>
 pBin PP .neq T.int v152 (.int .i64 4) fun v153 =>
 some (v153, H3))
 (some ((.bool false), H3)))))
 (zai 1 false (zab x0) 5 fun v154 =>
 pBin PP .neq T.uint64 v154 (.int .u64 0) fun v155 =>
 zaa v155 fun b156 => br b156
 (zai 1 false (zab x0) 0 fun v157 =>
 pBin PP .neq T.int v157 (.int .i64 3) fun v158 =>
 zaa v158 fun b159 => br b159
 (zai 1 false (zab x0) 0 fun v160 =>
 pBin PP .neq T.int v160 (.int .i64 31) fun v161 =>
 zaa v161 fun b162 => br b162
 (some ((.bool true), H3))
 (zai 1 false (zab x0) 6 fun v163 =>
 pBin PP .neq T.string v163 (.string ⟨#[]⟩) fun v164 =>
 zaa v164 fun b165 => br b165
 (zai 1 false (zab x0) 0 fun v166 =>
 pBin PP .neq T.int v166 (.int .i64 4) fun v167 =>
 some (v167, H3))
 (some ((.bool false), H3))))
 (zai 1 false (zab x0) 6 fun v168 =>
 pBin PP .neq T.string v168 (.string ⟨#[]⟩) fun v169 =>
 zaa v169 fun b170 => br b170
 (zai 1 false (zab x0) 0 fun v171 =>
 pBin PP .neq T.int v171 (.int .i64 4) fun v172 =>
 some (v172, H3))
 (some ((.bool false), H3))))
 (zai 1 false (zab x0) 6 fun v173 =>
 pBin PP .neq T.string v173 (.string ⟨#[]⟩) fun v174 =>
 zaa v174 fun b175 => br b175
 (zai 1 false (zab x0) 0 fun v176 =>
 pBin PP .neq T.int v176 (.int .i64 4) fun v177 =>
 some (v177, H3))
 (some ((.bool false), H3))))))
 (pBin PP .lss T.int r2 (.int .i64 3) fun v178 =>
 zaa v178 fun b179 => br b179
 (zai 1 false (zab x0) 4 fun v180 =>
 pBin PP .neq T.int v180 (.int .i64 0) fun v181 =>
 zaa v181 fun b182 => br b182
 (some ((.bool true), H3))
 (zai 1 false (zab x0) 5 fun v183 =>
 pBin PP .neq T.uint64 v183 (.int .u64 0) fun v184 =>
 zaa v184 fun b185 => br b185
 (zai 1 false (zab x0) 0 fun v186 =>
 pBin PP .neq T.int v186 (.int .i64 3) fun v187 =>
 zaa v187 fun b188 => br b188
 (zai 1 false (zab x0) 0 fun v189 =>
 pBin PP .neq T.int v189 (.int .i64 31) fun v190 =>
 zaa v190 fun b191 => br b191
 (some ((.bool true), H3))
 (zai 1 false (zab x0) 6 fun v192 =>
 pBin PP .neq T.string v192 (.string ⟨#[]⟩) fun v193 =>
 zaa v193 fun b194 => br b194
 (zai 1 false (zab x0) 0 fun v195 =>
 pBin PP .neq T.int v195 (.int .i64 4) fun v196 =>
 some (v196, H3))
 (some ((.bool false), H3))))
 (zai 1 false (zab x0) 6 fun v197 =>
 pBin PP .neq T.string v197 (.string ⟨#[]⟩) fun v198 =>
 zaa v198 fun b199 => br b199
 (zai 1 false (zab x0) 0 fun v200 =>
 pBin PP .neq T.int v200 (.int .i64 4) fun v201 =>
 some (v201, H3))
 (some ((.bool false), H3))))
 (zai 1 false (zab x0) 6 fun v202 =>
 pBin PP .neq T.string v202 (.string ⟨#[]⟩) fun v203 =>
 zaa v203 fun b204 => br b204
 (zai 1 false (zab x0) 0 fun v205 =>
 pBin PP .neq T.int v205 (.int .i64 4) fun v206 =>
 some (v206, H3))
 (some ((.bool false), H3)))))
 (zai 1 false (zab x0) 5 fun v207 =>
 pBin PP .neq T.uint64 v207 (.int .u64 0) fun v208 =>
 zaa v208 fun b209 => br b209
 (zai 1 false (zab x0) 0 fun v210 =>
 pBin PP .neq T.int v210 (.int .i64 3) fun v211 =>
 zaa v211 fun b212 => br b212
 (zai 1 false (zab x0) 0 fun v213 =>
 pBin PP .neq T.int v213 (.int .i64 31) fun v214 =>
 zaa v214 fun b215 => br b215
 (some ((.bool true), H3))
 (zai 1 false (zab x0) 6 fun v216 =>
 pBin PP .neq T.string v216 (.string ⟨#[]⟩) fun v217 =>
 zaa v217 fun b218 => br b218
 (zai 1 false (zab x0) 0 fun v219 =>
 pBin PP .neq T.int v219 (.int .i64 4) fun v220 =>
 some (v220, H3))
 (some ((.bool false), H3))))
 (zai 1 false (zab x0) 6 fun v221 =>
 pBin PP .neq T.string v221 (.string ⟨#[]⟩) fun v222 =>
 zaa v222 fun b223 => br b223
 (zai 1 false (zab x0) 0 fun v224 =>
 pBin PP .neq T.int v224 (.int .i64 4) fun v225 =>
 some (v225, H3))
 (some ((.bool false), H3))))
 (zai 1 false (zab x0) 6 fun v226 =>
 pBin PP .neq T.string v226 (.string ⟨#[]⟩) fun v227 =>
 zaa v227 fun b228 => br b228
 (zai 1 false (zab x0) 0 fun v229 =>
 pBin PP .neq T.int v229 (.int .i64 4) fun v230 =>
 some (v230, H3))
 (some ((.bool false), H3))))))
noncomputable def zdj (R : zad) (x0 x1 : Value) (H0 : Hp) : Option (Value × Hp) :=
 zai 1 false (zab x1) 2 fun v1 =>
 zaf R F.a1 [x0, v1] H0 fun r2 H3 =>
 zai 1 false (zab x1) 3 fun v4 =>
 zaf R F.a1 [x0, v4] H3 fun r5 H6 =>
 zai 1 false (zab x1) 0 fun v7 =>
 zaf R F.a7 [v7] H6 fun r8 H9 =>
 pBin PP .eql T.int r8 (.int .i64 0) fun v10 =>
 zaa v10 fun b11 => br b11
 (some ((.bool true), H9))
 (pBin PP .eql T.int v7 (.int .i64 5) fun v12 =>
 zaa v12 fun b13 => br b13
 (pBin PP .eql T.int r2 (.int .i64 0) fun v14 =>
 some (v14, H9))
 (zav (
 pBin PP .eql T.int v7 (.int .i64 6) fun v15 =>
 zaa v15 fun b16 => br b16
 (some (.next, [(.bool true)], H9))
 (pBin PP .eql T.int v7 (.int .i64 7) fun v17 =>
 zaa v17 fun b18 => br b18
 (some (.next, [(.bool true)], H9))
 (pBin PP .eql T.int v7 (.int .i64 8) fun v19 =>
 some (.next, [v19], H9)))) fun q20 l21 H22 => zaL q20
 (zaa (l21.getD 0 undef) fun b24 => br b24
 (pBin PP .eql T.int r2 (.int .i64 0) fun v25 =>
 zaa v25 fun b26 => br b26
 (pBin PP .eql T.int r5 (.int .i64 0) fun v27 =>
 some (v27, H22))
 (some ((.bool false), H22)))
 (pBin PP .eql T.int v7 (.int .i64 9) fun v28 =>
 zaa v28 fun b29 => br b29
 (pBin PP .eql T.int r2 r5 fun v30 =>
 some (v30, H22))
 (pBin PP .eql T.int v7 (.int .i64 14) fun v31 =>
 zaa v31 fun b32 => br b32
 (pBin PP .eql T.int r2 (.int .i64 0) fun v33 =>
 zaa v33 fun b34 => br b34
 (zai 1 false (zab x1) 4 fun v35 =>
 zaf R F.a1 [x0, v35] H22 fun r36 H37 =>
 pBin PP .eql T.int r5 r36 fun v38 =>
 some (v38, H37))
 (some ((.bool false), H22)))
 (pBin PP .eql T.int v7 (.int .i64 30) fun v39 =>
 zaa v39 fun b40 => br b40
 (pBin PP .gtr T.int r2 (.int .i64 0) fun v41 =>
 zaa v41 fun b42 => br b42
 (pBin PP .gtr T.int r5 (.int .i64 0) fun v43 =>
 some (v43, H22))
 (some ((.bool false), H22)))
 (zaf R F.a7 [v7] H22 fun r44 H45 =>
 pBin PP .eql T.int r44 (.int .i64 1) fun v46 =>
 zaa v46 fun b47 => br b47
 (pBin PP .gtr T.int r2 (.int .i64 0) fun v48 =>
 some (v48, H45))
 (pBin PP .gtr T.int r2 (.int .i64 0) fun v49 =>
 zaa v49 fun b50 => br b50
 (pBin PP .eql T.int r2 r5 fun v51 =>
 some (v51, H45))
 (some ((.bool false), H45))))))))
 (fun i23 => zay i23 0 (
 pBin PP .gtr T.int r2 (.int .i64 0) fun v52 =>
 zaa v52 fun b53 => br b53
 (pBin PP .eql T.int r2 r5 fun v54 =>
 some (v54, H22))
 (some ((.bool false), H22))) (
 none))
 (some ((l21.headD undef), H22))))
noncomputable def zd2 (R : zad) (x0 x1 : Value) (H0 : Hp) : Option (Value × Hp) :=
 zai 1 false (zab x1) 2 fun v1 =>
 zaf R F.a1 [x0, v1] H0 fun r2 H3 =>
 zai 1 false (zab x1) 0 fun v4 =>
 zav (
 pBin PP .eql T.int v4 (.int .i64 1) fun v5 =>
 zaa v5 fun b6 => br b6
 (some (.next, [(.bool true)], H3))
 (pBin PP .eql T.int v4 (.int .i64 2) fun v7 =>
 zaa v7 fun b8 => br b8
 (some (.next, [(.bool true)], H3))
 (pBin PP .geq T.int v4 (.int .i64 5) fun v9 =>
 zaa v9 fun b10 => br b10
 (pBin PP .leq T.int v4 (.int .i64 13) fun v11 =>
 some (.next, [v11], H3))
 (some (.next, [(.bool false)], H3))))) fun q12 l13 H14 => zaL q12
 (zaa (l13.getD 0 undef) fun b16 => br b16
 (zai 1 false (zab x1) 1 fun v17 =>
 pBin PP .eql T.int v17 (.int .i64 0) fun v18 =>
 some (v18, H14))
 (pBin PP .eql T.int v4 (.int .i64 3) fun v19 =>
 zaa v19 fun b20 => br b20
 (zai 1 false (zab x1) 1 fun v21 =>
 pBin PP .gtr T.int v21 (.int .i64 0) fun v22 =>
 zaa v22 fun b23 => br b23
 (zai 1 false (zab x1) 1 fun v24 =>
 zai 1 false (zab x1) 5 fun v25 =>
 zaf R F.a0 [v24, v25] H14 fun r26 H27 =>
 zai 1 false (zab x1) 5 fun v28 =>
 pBin PP .eql T.uint64 r26 v28 fun v29 =>
 some (v29, H27))
 (some ((.bool false), H14)))
 (pBin PP .eql T.int v4 (.int .i64 4) fun v30 =>
 zaa v30 fun b31 => br b31
 (some ((.bool true), H14))
 (pBin PP .eql T.int v4 (.int .i64 14) fun v32 =>
 zaa v32 fun b33 => br b33
 (zai 1 false (zab x1) 1 fun v34 =>
 zai 1 false (zab x1) 3 fun v35 =>
 zaf R F.a1 [x0, v35] H14 fun r36 H37 =>
 pBin PP .eql T.int v34 r36 fun v38 =>
 some (v38, H37))
 (zav (
 pBin PP .geq T.int v4 (.int .i64 25) fun v39 =>
 zaa v39 fun b40 => br b40
 (pBin PP .leq T.int v4 (.int .i64 29) fun v41 =>
 some (.next, [v41], H14))
 (some (.next, [(.bool false)], H14))) fun q42 l43 H44 => zaL q42
 (zaa (l43.getD 0 undef) fun b46 => br b46
 (zai 1 false (zab x1) 1 fun v47 =>
 pBin PP .eql T.int v47 r2 fun v48 =>
 zaa v48 fun b49 => br b49
 (zan .u64 r2 fun v50 =>
 zaf R F.a18 [v50] H44 fun r51 H52 =>
 pBin PP .eql T.int r51 (.int .i64 1) fun v53 =>
 some (v53, H52))
 (some ((.bool false), H44)))
 (pBin PP .eql T.int v4 (.int .i64 30) fun v54 =>
 zaa v54 fun b55 => br b55
 (zai 1 false (zab x1) 1 fun v56 =>
 zai 1 false (zab x1) 3 fun v57 =>
 zaf R F.a1 [x0, v57] H44 fun r58 H59 =>
 pBin PP .add T.int r2 r58 fun v60 =>
 pBin PP .eql T.int v56 v60 fun v61 =>
 some (v61, H59))
 (pBin PP .eql T.int v4 (.int .i64 31) fun v62 =>
 zaa v62 fun b63 => br b63
 (zai 1 false (zab x1) 1 fun v64 =>
 pBin PP .geq T.int v64 (.int .i64 1) fun v65 =>
 zaa v65 fun b66 => br b66
 (zai 1 false (zab x1) 1 fun v67 =>
 pBin PP .leq T.int v67 r2 fun v68 =>
 zaa v68 fun b69 => br b69
 (zai 1 false (zab x1) 5 fun v70 =>
 zai 1 false (zab x1) 1 fun v71 =>
 pBin PP .sub T.int r2 v71 fun v72 =>
 zan .u64 v72 fun v73 =>
 pBin PP .leq T.uint64 v70 v73 fun v74 =>
 some (v74, H44))
 (some ((.bool false), H44)))
 (some ((.bool false), H44)))
 (pBin PP .eql T.int v4 (.int .i64 32) fun v75 =>
 zaa v75 fun b76 => br b76
 (zai 1 false (zab x1) 1 fun v77 =>
 pBin PP .geq T.int v77 r2 fun v78 =>
 some (v78, H44))
 (pBin PP .eql T.int v4 (.int .i64 33) fun v79 =>
 zaa v79 fun b80 => br b80
 (zai 1 false (zab x1) 1 fun v81 =>
 pBin PP .geq T.int v81 r2 fun v82 =>
 some (v82, H44))
 (zai 1 false (zab x1) 1 fun v83 =>
 pBin PP .eql T.int v83 r2 fun v84 =>
 some (v84, H44)))))))
 (fun i45 => zay i45 0 (
 zai 1 false (zab x1) 1 fun v85 =>
 pBin PP .eql T.int v85 r2 fun v86 =>
 some (v86, H44)) (
 none))
 (some ((l43.headD undef), H44)))))))
 (fun i15 => zay i15 0 (
 zai 1 false (zab x1) 1 fun v87 =>
 pBin PP .eql T.int v87 r2 fun v88 =>
 some (v88, H14)) (
 none))
 (some ((l13.headD undef), H14))
noncomputable def zdE (R : zad) (x0 x1 x2 x3 : Value) (H0 : Hp) : Option (Value × Hp) := zeu PP orc R F.a44 Go.Proofs.Tryz.f101 [x0, x1, x2, x3] H0
noncomputable def zf7 (R : zad) (x0 : Value) (H0 : Hp) : Option (Value × Hp) := zeu PP orc R F.a15 Go.Proofs.Tryz.f102 [x0] H0
noncomputable def zeq (R : zad) (x0 : Value) (H0 : Hp) : Option (Value × Hp) := zeu PP orc R F.a47 Go.Proofs.Tryz.f103 [x0] H0
noncomputable def zg0 (R : zad) (x0 : Value) (H0 : Hp) : Option (Value × Hp) :=
 pBin PP .geq T.int x0 (.int .i64 1) fun v1 =>
 zaa v1 fun b2 => br b2
 (pBin PP .leq T.int x0 (.int .i64 64) fun v3 =>
 some (v3, H0))
 (some ((.bool false), H0))
noncomputable def zf6 (R : zad) (x0 x1 : Value) (H0 : Hp) : Option (Value × Hp) :=
 zaf R F.a4 [x0] H0 fun r1 H2 =>
 pUn .not r1 fun v3 =>
 zaa v3 fun b4 => br b4
 (some ((.int .i64 0), H2))
 (pBin PP .sub T.int (.int .i64 64) x0 fun v5 =>
 zan .u64 v5 fun v6 =>
 pBin PP .shl T.uint64 x1 v6 fun v7 =>
 zan .i64 v7 fun v8 =>
 pBin PP .shr T.int64 v8 v6 fun v9 =>
 some (v9, H2))
noncomputable def zf5 (R : zad) (x0 : Value) (H0 : Hp) : Option (Value × Hp) :=
 pBin PP .geq T.int x0 (.int .i64 25) fun v1 =>
 zaa v1 fun b2 => br b2
 (pBin PP .leq T.int x0 (.int .i64 29) fun v3 =>
 some (v3, H0))
 (some ((.bool false), H0))
noncomputable def zer (R : zad) (x0 : Value) (H0 : Hp) : Option (Value × Hp) :=
 zaf R F.a53 [x0] H0 fun r1 H2 =>
 some (r1, H2)
noncomputable def zgY (R : zad) (x0 x1 x2 x3 : Value) (H0 : Hp) : Option (Value × Hp) :=
 pBin PP .eql T.int x0 (.int .i64 25) fun v1 =>
 zaa v1 fun b2 => br b2
 (zan .u64 x3 fun v3 =>
 pBin PP .shl T.uint64 x2 v3 fun v4 =>
 zaf R F.a0 [x1, v4] H0 fun r5 H6 =>
 some (r5, H6))
 (pBin PP .eql T.int x0 (.int .i64 26) fun v7 =>
 zaa v7 fun b8 => br b8
 (zan .u64 x3 fun v9 =>
 pBin PP .shr T.uint64 x2 v9 fun v10 =>
 some (v10, H0))
 (pBin PP .eql T.int x0 (.int .i64 27) fun v11 =>
 zaa v11 fun b12 => br b12
 (zaf R F.a16 [x1, x2] H0 fun r13 H14 =>
 zan .u64 x3 fun v15 =>
 pBin PP .shr T.int64 r13 v15 fun v16 =>
 zan .u64 v16 fun v17 =>
 zaf R F.a0 [x1, v17] H14 fun r18 H19 =>
 some (r18, H19))
 (pBin PP .eql T.int x0 (.int .i64 29) fun v20 =>
 zaa v20 fun b21 => br b21
 (pBin PP .sub T.int x1 x3 fun v22 =>
 pBin PP .rem T.int v22 x1 fun v23 =>
 zan .u64 v23 fun v24 =>
 pBin PP .shl T.uint64 x2 v24 fun v25 =>
 pBin PP .sub T.int x1 v23 fun v26 =>
 zan .u64 v26 fun v27 =>
 pBin PP .shr T.uint64 x2 v27 fun v28 =>
 pBin PP .or T.uint64 v25 v28 fun v29 =>
 zaf R F.a0 [x1, v29] H0 fun r30 H31 =>
 some (r30, H31))
 (zan .u64 x3 fun v32 =>
 pBin PP .shl T.uint64 x2 v32 fun v33 =>
 pBin PP .sub T.int x1 x3 fun v34 =>
 zan .u64 v34 fun v35 =>
 pBin PP .shr T.uint64 x2 v35 fun v36 =>
 pBin PP .or T.uint64 v33 v36 fun v37 =>
 zaf R F.a0 [x1, v37] H0 fun r38 H39 =>
 some (r38, H39)))))
noncomputable def zeI (R : zad) (x0 x1 : Value) (H0 : Hp) : Option (Value × Hp) :=
 pLen .str x1 H0 fun v1 =>
 pBin PP .eql T.int v1 (.int .i64 0) fun v2 =>
 zaa v2 fun b3 => br b3
 (zaf R F.a75 [x0] H0 fun r4 H5 =>
 pBin PP .add T.int r4 (.int .i64 1) fun v6 =>
 some (v6, H5))
 (pLen .str x1 H0 fun v7 =>
 pBin PP .eql T.int v7 (.int .i64 1) fun v8 =>
 zaa v8 fun b9 => br b9
 (zci x1 (.int .i64 0) fun v10 =>
 zaf R F.a24 [x0, v10] H0 fun r11 H12 =>
 some (r11, H12))
 (zav (zat (fun l13 H14 =>
 zaf R F.a28 [(l13.getD 0 undef), x1] H14 fun r15 H16 =>
 pBin PP .eql T.int r15 (.int .i64 (-1)) fun v17 =>
 zaa v17 fun b18 => br b18
 (some (.ret, [(l13.getD 1 undef)], H16))
 (pBin PP .add T.int (l13.getD 1 undef) (.int .i64 1) fun v19 =>
 pLen .str x1 H16 fun v20 =>
 pBin PP .add T.int r15 v20 fun v21 =>
 za9 (l13.getD 0 undef) (some v21) none fun v22 =>
 some (.next, [v22, v19], H16))) [x0, (.int .i64 0)] H0) fun q23 l24 H25 => zaL q23 none
 (fun i26 => zay i26 0 (
 none) (
 none))
 (some ((l24.headD undef), H25))))
noncomputable def zeH (R : zad) (x0 x1 : Value) (H0 : Hp) : Option (Value × Hp) :=
 zaf R F.a61 [x0, x1] H0 fun r1 H2 =>
 some (r1, H2)
noncomputable def zdk (R : zad) (x0 x1 : Value) (H0 : Hp) : Option (Value × Hp) :=
 zaf R F.a38 [x0, x1] H0 fun r1 H2 =>
 zae r1 0 fun v3 =>
 zae r1 1 fun v4 =>
 some ((.tuple #[v3, v4]), H2)
noncomputable def zdl (R : zad) (x0 x1 x2 : Value) (H0 : Hp) : Option (Value × Hp) :=
 zaf R F.a26 [x0, x1, x2] H0 fun r1 H2 =>
 zae r1 0 fun v3 =>
 zae r1 1 fun v4 =>
 zep PP .neq T.error v4 fun v5 =>
 zaa v5 fun b6 => br b6
 (zaf R F.a27 [(.string ⟨#[80, 97, 114, 115, 101, 85, 105, 110, 116]⟩), x0, x1, x2, v4] H2 fun r7 H8 =>
 some ((.tuple #[v3, r7]), H8))
 (some ((.tuple #[v3, .nilIface]), H2))
noncomputable def zdF (R : zad) (x0 : Value) (H0 : Hp) : Option (Value × Hp) :=
 pBin PP .shr T.uint64 x0 (.int .u64 1) fun v1 =>
 pBin PP .and T.uint64 v1 (.int .u64 6148914691236517205) fun v2 =>
 pBin PP .and T.uint64 x0 (.int .u64 6148914691236517205) fun v3 =>
 pBin PP .add T.uint64 v2 v3 fun v4 =>
 pBin PP .shr T.uint64 v4 (.int .u64 2) fun v5 =>
 pBin PP .and T.uint64 v5 (.int .u64 3689348814741910323) fun v6 =>
 pBin PP .and T.uint64 v4 (.int .u64 3689348814741910323) fun v7 =>
 pBin PP .add T.uint64 v6 v7 fun v8 =>
 pBin PP .shr T.uint64 v8 (.int .u64 4) fun v9 =>
 pBin PP .add T.uint64 v9 v8 fun v10 =>
 pBin PP .and T.uint64 v10 (.int .u64 1085102592571150095) fun v11 =>
 pBin PP .shr T.uint64 v11 (.int .u64 8) fun v12 =>
 pBin PP .add T.uint64 v11 v12 fun v13 =>
 pBin PP .shr T.uint64 v13 (.int .u64 16) fun v14 =>
 pBin PP .add T.uint64 v13 v14 fun v15 =>
 pBin PP .shr T.uint64 v15 (.int .u64 32) fun v16 =>
 pBin PP .add T.uint64 v15 v16 fun v17 =>
 zan .i64 v17 fun v18 =>
 pBin PP .and T.int v18 (.int .i64 127) fun v19 =>
 some (v19, H0)
noncomputable def zbQ (R : zad) (x0 x1 : Value) (H0 : Hp) : Option (Value × Hp) :=
 pLen .str x1 H0 fun v1 =>
 zav (
 zav (
 pBin PP .eql T.int v1 (.int .i64 0) fun v2 =>
 zaa v2 fun b3 => br b3
 (some (.next, [(.bool true)], H0))
 (pBin PP .eql T.string x1 x0 fun v4 =>
 some (.next, [v4], H0))) fun q5 l6 H7 => zaL q5
 (zaa (l6.getD 0 undef) fun b9 => br b9
 (some (.ret, [(.int .i64 0)], H7))
 (pBin PP .eql T.int v1 (.int .i64 1) fun v10 =>
 zaa v10 fun b11 => br b11
 (zci x1 (.int .i64 0) fun v12 =>
 zaf R F.a39 [x0, v12] H7 fun r13 H14 =>
 some (.ret, [r13], H14))
 (pLen .str x0 H7 fun v15 =>
 pBin PP .geq T.int v1 v15 fun v16 =>
 zaa v16 fun b17 => br b17
 (some (.ret, [(.int .i64 (-1))], H7))
 (zal 1 false H7 (.pointer (some ⟨G.internal_bytealg_MaxLen, 0, none⟩)) fun v18 =>
 pBin PP .leq T.int v1 v18 fun v19 =>
 zaa v19 fun b20 => br b20
 (pLen .str x0 H7 fun v21 =>
 pBin PP .leq T.int v21 (.int .i64 64) fun v22 =>
 zaa v22 fun b23 => br b23
 (zaf R F.a67 [x0, x1] H7 fun r24 H25 =>
 some (.ret, [r24], H25))
 (some (.next, [], H7)))
 (some (.next, [], H7))))))
 (fun i8 => zay i8 0 (
 some (.next, [], H7)) (
 some (.exit i8, [], H7)))
 (some (.ret, [(l6.headD undef)], H7))) fun q26 l27 H28 => zaL q26
 (zci x1 (.int .i64 0) fun v30 =>
 zci x1 (.int .i64 1) fun v31 =>
 pLen .str x0 H28 fun v32 =>
 pBin PP .sub T.int v32 v1 fun v33 =>
 pBin PP .add T.int v33 (.int .i64 1) fun v34 =>
 zav (zat (fun l35 H36 =>
 pBin PP .lss T.int (l35.getD 0 undef) v34 fun v37 =>
 zaa v37 fun b38 => br b38
 (zav (
 zci x0 (l35.getD 0 undef) fun v39 =>
 pBin PP .neq T.uint8 v39 v30 fun v40 =>
 zaa v40 fun b41 => br b41
 (pBin PP .add T.int (l35.getD 0 undef) (.int .i64 1) fun v42 =>
 za9 x0 (some v42) (some v34) fun v43 =>
 zaf R F.a39 [v43, v30] H36 fun r44 H45 =>
 pBin PP .lss T.int r44 (.int .i64 0) fun v46 =>
 zaa v46 fun b47 => br b47
 (some (.ret, [(.int .i64 (-1))], H45))
 (pBin PP .add T.int r44 (.int .i64 1) fun v48 =>
 pBin PP .add T.int (l35.getD 0 undef) v48 fun v49 =>
 some (.next, [v49], H45)))
 (some (.next, [(l35.getD 0 undef)], H36))) fun q50 l51 H52 => zaL q50
 (zav (
 pBin PP .add T.int (l51.getD 0 undef) (.int .i64 1) fun v54 =>
 zci x0 v54 fun v55 =>
 pBin PP .eql T.uint8 v55 v31 fun v56 =>
 zaa v56 fun b57 => br b57
 (pBin PP .add T.int (l51.getD 0 undef) v1 fun v58 =>
 za9 x0 (some (l51.getD 0 undef)) (some v58) fun v59 =>
 pBin PP .eql T.string v59 x1 fun v60 =>
 zaa v60 fun b61 => br b61
 (some (.ret, [(l51.getD 0 undef)], H52))
 (some (.next, [], H52)))
 (some (.next, [], H52))) fun q62 l63 H64 => zaL q62
 (pBin PP .add T.int (l51.getD 0 undef) (.int .i64 1) fun v66 =>
 pBin PP .add T.int (l35.getD 1 undef) (.int .i64 1) fun v67 =>
 zav (
 zal 1 false H64 (.pointer (some ⟨G.internal_bytealg_MaxLen, 0, none⟩)) fun v68 =>
 pBin PP .leq T.int v1 v68 fun v69 =>
 zaa v69 fun b70 => br b70
 (zaf R F.a71 [v66] H64 fun r71 H72 =>
 pBin PP .gtr T.int v67 r71 fun v73 =>
 some (.next, [v73], H72))
 (some (.next, [(.bool false)], H64))) fun q74 l75 H76 => zaL q74
 (zaa (l75.getD 0 undef) fun b78 => br b78
 (za9 x0 (some v66) none fun v79 =>
 zaf R F.a67 [v79, x1] H76 fun r80 H81 =>
 pBin PP .geq T.int r80 (.int .i64 0) fun v82 =>
 zaa v82 fun b83 => br b83
 (pBin PP .add T.int r80 v66 fun v84 =>
 some (.ret, [v84], H81))
 (some (.ret, [(.int .i64 (-1))], H81)))
 (zal 1 false H76 (.pointer (some ⟨G.internal_bytealg_MaxLen, 0, none⟩)) fun v85 =>
 pBin PP .gtr T.int v1 v85 fun v86 =>
 zaa v86 fun b87 => br b87
 (pBin PP .shr T.int v66 (.int .u64 4) fun v88 =>
 pBin PP .add T.int (.int .i64 4) v88 fun v89 =>
 pBin PP .geq T.int v67 v89 fun v90 =>
 zaa v90 fun b91 => br b91
 (pBin PP .lss T.int v66 v34 fun v92 =>
 zaa v92 fun b93 => br b93
 (za9 x0 (some v66) none fun v94 =>
 zaf R F.a72 [v94, x1] H76 fun r95 H96 =>
 pBin PP .lss T.int r95 (.int .i64 0) fun v97 =>
 zaa v97 fun b98 => br b98
 (some (.ret, [(.int .i64 (-1))], H96))
 (pBin PP .add T.int v66 r95 fun v99 =>
 some (.ret, [v99], H96)))
 (some (.next, [v66, v67], H76)))
 (some (.next, [v66, v67], H76)))
 (some (.next, [v66, v67], H76))))
 (fun i77 => zay i77 2 (
 some (.next, [v66, v67], H76)) (
 some (.exit i77, [v66, v67], H76)))
 (some (.ret, [(l75.headD undef)], H76)))
 (fun i65 => zay i65 2 (
 some (.next, [(l51.getD 0 undef), (l35.getD 1 undef)], H64)) (
 some (.exit i65, [(l51.getD 0 undef), (l35.getD 1 undef)], H64)))
 (some (.ret, [(l63.headD undef)], H64)))
 (fun i53 => zay i53 2 (
 some (.next, [(l51.getD 0 undef), (l35.getD 1 undef)], H52)) (
 some (.exit i53, [(l51.getD 0 undef), (l35.getD 1 undef)], H52)))
 (some (.ret, [(l51.headD undef)], H52)))
 (some (.exit 1, [(l35.getD 0 undef), (l35.getD 1 undef)], H36))) [(.int .i64 0), (.int .i64 0)] H28) fun q100 l101 H102 => zaL q100 none
 (fun i103 => zay i103 1 (
 some ((.int .i64 (-1)), H102)) (
 none))
 (some ((l101.headD undef), H102)))
 (fun i29 => none)
 (some ((l27.headD undef), H28))
noncomputable def zbx (R : zad) (x0 x1 : Value) (H0 : Hp) : Option (Value × Hp) :=
 zaf R F.a60 [x0, x1] H0 fun r1 H2 =>
 pUn .not r1 fun v3 =>
 zaa v3 fun b4 => br b4
 (some ((.tuple #[x0, (.bool false)]), H2))
 (pLen .str x1 H2 fun v5 =>
 za9 x0 (some v5) none fun v6 =>
 some ((.tuple #[v6, (.bool true)]), H2))
noncomputable def zbR (R : zad) (x0 x1 x2 : Value) (H0 : Hp) : Option (Value × Hp) := zeu PP orc R F.a26 Go.Proofs.Tryz.f160 [x0, x1, x2] H0
noncomputable def zbv (R : zad) (x0 x1 : Value) (H0 : Hp) : Option (Value × Hp) :=
 zaf R F.a25 [x0, x1] H0 fun r1 H2 =>
 some (r1, H2)
noncomputable def zbw (R : zad) (x0 x1 : Value) (H0 : Hp) : Option (Value × Hp) :=
 pLen .str x0 H0 fun v1 =>
 pLen .str x1 H0 fun v2 =>
 pBin PP .geq T.int v1 v2 fun v3 =>
 zaa v3 fun b4 => br b4
 (pLen .str x1 H0 fun v5 =>
 za9 x0 none (some v5) fun v6 =>
 pBin PP .eql T.string v6 x1 fun v7 =>
 some (v7, H0))
 (some ((.bool false), H0))
noncomputable def zcc (R : zad) (x0 : Value) (H0 : Hp) : Option (Value × Hp) :=
 pBin PP .or T.uint8 x0 (.int .u8 32) fun v1 =>
 some (v1, H0)
theorem zdY (E : ET) (h : E F.a56 = none) (x0 x1 x2 : Value) (H0 : Hp) : run PP orc E F.a56 [x0, x1, x2] H0 = zce (run PP orc E) x0 x1 x2 H0 := (zaC Go.Proofs.Tryz.func4 (by kernel_rfl) (by kernel_rfl) h _ _).trans (rfl)
theorem zfv (E : ET) (h : E F.a57 = none) (H0 : Hp) : run PP orc E F.a57 [] H0 = zdn (run PP orc E)  H0 := (zaC Go.Proofs.Tryz.func12 (by kernel_rfl) (by kernel_rfl) h _ _).trans (by kernel_rfl)
theorem zkc (E : ET) (h : E F.a10 = none) (x0 x1 x2 : Value) (H0 : Hp) : run PP orc E F.a10 [x0, x1, x2] H0 = zf4 (run PP orc E) x0 x1 x2 H0 := (zaC Go.Proofs.Tryz.func13 (by kernel_rfl) (by kernel_rfl) h _ _).trans (rfl)
theorem zgw (E : ET) (h : E F.a5 = none) (x0 : Value) (H0 : Hp) : run PP orc E F.a5 [x0] H0 = zgD (run PP orc E) x0 H0 := (zaC Go.Proofs.Tryz.func15 (by kernel_rfl) (by kernel_rfl) h _ _).trans (by kernel_rfl)
theorem zdX (E : ET) (h : E F.a20 = none) (x0 x1 : Value) (H0 : Hp) : run PP orc E F.a20 [x0, x1] H0 = zcd (run PP orc E) x0 x1 H0 := (zaC Go.Proofs.Tryz.func16 (by kernel_rfl) (by kernel_rfl) h _ _).trans (rfl)
theorem zk7 (E : ET) (h : E F.a22 = none) (x0 x1 x2 : Value) (H0 : Hp) : run PP orc E F.a22 [x0, x1, x2] H0 = zgX (run PP orc E) x0 x1 x2 H0 := (zaC Go.Proofs.Tryz.func18 (by kernel_rfl) (by kernel_rfl) h _ _).trans (by kernel_rfl)
theorem zfu (E : ET) (h : E F.a34 = none) (x0 : Value) (H0 : Hp) : run PP orc E F.a34 [x0] H0 = zdm (run PP orc E) x0 H0 := (zaC Go.Proofs.Tryz.func19 (by kernel_rfl) (by kernel_rfl) h _ _).trans (by kernel_rfl)
theorem zmk (E : ET) (h : E F.a23 = none) (x0 x1 : Value) (H0 : Hp) : run PP orc E F.a23 [x0, x1] H0 = zii (run PP orc E) x0 x1 H0 := (zaC Go.Proofs.Tryz.func20 (by kernel_rfl) (by kernel_rfl) h _ _).trans (rfl)
theorem ze3 (E : ET) (h : E F.a33 = none) (x0 x1 : Value) (H0 : Hp) : run PP orc E F.a33 [x0, x1] H0 = zcY (run PP orc E) x0 x1 H0 := (zaC Go.Proofs.Tryz.func21 (by kernel_rfl) (by kernel_rfl) h _ _).trans (rfl)
theorem ze2 (E : ET) (h : E F.a35 = none) (x0 : Value) (H0 : Hp) : run PP orc E F.a35 [x0] H0 = zcX (run PP orc E) x0 H0 := (zaC Go.Proofs.Tryz.func22 (by kernel_rfl) (by kernel_rfl) h _ _).trans (rfl)
theorem zml (E : ET) (h : E F.a21 = none) (x0 x1 : Value) (H0 : Hp) : run PP orc E F.a21 [x0, x1] H0 = zij (run PP orc E) x0 x1 H0 := (zaC Go.Proofs.Tryz.func24 (by kernel_rfl) (by kernel_rfl) h _ _).trans (rfl)
theorem zoq (E : ET) (h : E F.a46 = none) (x0 : Value) (H0 : Hp) : run PP orc E F.a46 [x0] H0 = zju (run PP orc E) x0 H0 := (zaC Go.Proofs.Tryz.func26 (by kernel_rfl) (by kernel_rfl) h _ _).trans (by kernel_rfl)
theorem zgu (E : ET) (h : E F.a29 = none) (x0 x1 : Value) (H0 : Hp) : run PP orc E F.a29 [x0, x1] H0 = zd3 (run PP orc E) x0 x1 H0 := (zaC Go.Proofs.Tryz.func31 (by kernel_rfl) (by kernel_rfl) h _ _).trans (by kernel_rfl)
theorem zmg (E : ET) (h : E F.a17 = none) (x0 x1 : Value) (H0 : Hp) : run PP orc E F.a17 [x0, x1] H0 = zie (run PP orc E) x0 x1 H0 := (zaC Go.Proofs.Tryz.func35 (by kernel_rfl) (by kernel_rfl) h _ _).trans (rfl)
theorem zdv (E : ET) (h : E F.a9 = none) (x0 x1 : Value) (H0 : Hp) : run PP orc E F.a9 [x0, x1] H0 = zdD (run PP orc E) x0 x1 H0 := (zaC Go.Proofs.Tryz.func38 (by kernel_rfl) (by kernel_rfl) h _ _).trans (rfl)
theorem zmh (E : ET) (h : E F.a37 = none) (x0 : Value) (H0 : Hp) : run PP orc E F.a37 [x0] H0 = zif (run PP orc E) x0 H0 := (zaC Go.Proofs.Tryz.func39 (by kernel_rfl) (by kernel_rfl) h _ _).trans (rfl)
theorem zmj (E : ET) (h : E F.a58 = none) (x0 x1 x2 x3 x4 x5 : Value) (H0 : Hp) : run PP orc E F.a58 [x0, x1, x2, x3, x4, x5] H0 = zih (run PP orc E) x0 x1 x2 x3 x4 x5 H0 := (zaC Go.Proofs.Tryz.func40 (by kernel_rfl) (by kernel_rfl) h _ _).trans (by kernel_rfl)
theorem zes (E : ET) (h : E F.a19 = none) (x0 : Value) (H0 : Hp) : run PP orc E F.a19 [x0] H0 = zcs (run PP orc E) x0 H0 := (zaC Go.Proofs.Tryz.func46 (by kernel_rfl) (by kernel_rfl) h _ _).trans (by kernel_rfl)
theorem zmi (E : ET) (h : E F.a59 = none) (x0 x1 : Value) (H0 : Hp) : run PP orc E F.a59 [x0, x1] H0 = zig (run PP orc E) x0 x1 H0 := (zaC Go.Proofs.Tryz.func47 (by kernel_rfl) (by kernel_rfl) h _ _).trans (by kernel_rfl)
theorem zgv (E : ET) (h : E F.a12 = none) (x0 x1 : Value) (H0 : Hp) : run PP orc E F.a12 [x0, x1] H0 = zd4 (run PP orc E) x0 x1 H0 := (zaC Go.Proofs.Tryz.func48 (by kernel_rfl) (by kernel_rfl) h _ _).trans (by kernel_rfl)
theorem ziU (E : ET) (h : E F.a1 = none) (x0 x1 : Value) (H0 : Hp) : run PP orc E F.a1 [x0, x1] H0 = zfh (run PP orc E) x0 x1 H0 := (zaC Go.Proofs.Tryz.func49 (by kernel_rfl) (by kernel_rfl) h _ _).trans (by kernel_rfl)
theorem zhQ (E : ET) (h : E F.a13 = none) (x0 x1 : Value) (H0 : Hp) : run PP orc E F.a13 [x0, x1] H0 = zeF (run PP orc E) x0 x1 H0 := (zaC Go.Proofs.Tryz.func50 (by kernel_rfl) (by kernel_rfl) h _ _).trans (by kernel_rfl)
theorem zmn (E : ET) (h : E F.a30 = none) (x0 : Value) (H0 : Hp) : run PP orc E F.a30 [x0] H0 = zil (run PP orc E) x0 H0 := (zaC Go.Proofs.Tryz.func55 (by kernel_rfl) (by kernel_rfl) h _ _).trans (by kernel_rfl)
theorem zk6 (E : ET) (h : E F.a65 = none) (H0 : Hp) : run PP orc E F.a65 [] H0 = zgW (run PP orc E)  H0 := (zaC Go.Proofs.Tryz.func60 (by kernel_rfl) (by kernel_rfl) h _ _).trans (by kernel_rfl)
theorem zk5 (E : ET) (h : E F.a7 = none) (x0 : Value) (H0 : Hp) : run PP orc E F.a7 [x0] H0 = zgV (run PP orc E) x0 H0 := (zaC Go.Proofs.Tryz.func62 (by kernel_rfl) (by kernel_rfl) h _ _).trans (by kernel_rfl)
theorem zhR (E : ET) (h : E F.a43 = none) (x0 x1 : Value) (H0 : Hp) : run PP orc E F.a43 [x0, x1] H0 = zeG (run PP orc E) x0 x1 H0 := (zaC Go.Proofs.Tryz.func65 (by kernel_rfl) (by kernel_rfl) h _ _).trans (by kernel_rfl)
theorem ze1 (E : ET) (h : E F.a11 = none) (x0 x1 : Value) (H0 : Hp) : run PP orc E F.a11 [x0, x1] H0 = zcW (run PP orc E) x0 x1 H0 := (zaC Go.Proofs.Tryz.func67 (by kernel_rfl) (by kernel_rfl) h _ _).trans (rfl)
theorem zkb (E : ET) (h : E F.a8 = none) (x0 : Value) (H0 : Hp) : run PP orc E F.a8 [x0] H0 = zf3 (run PP orc E) x0 H0 := (zaC Go.Proofs.Tryz.func68 (by kernel_rfl) (by kernel_rfl) h _ _).trans (by kernel_rfl)
theorem zdu (E : ET) (h : E F.a3 = none) (x0 : Value) (H0 : Hp) : run PP orc E F.a3 [x0] H0 = zck (run PP orc E) x0 H0 := (zaC Go.Proofs.Tryz.func69 (by kernel_rfl) (by kernel_rfl) h _ _).trans (by kernel_rfl)
theorem zfU (E : ET) (h : E F.a48 = none) (x0 : Value) (H0 : Hp) : run PP orc E F.a48 [x0] H0 = zdB (run PP orc E) x0 H0 := (zaC Go.Proofs.Tryz.func70 (by kernel_rfl) (by kernel_rfl) h _ _).trans (by kernel_rfl)
theorem ze0 (E : ET) (h : E F.a2 = none) (x0 : Value) (H0 : Hp) : run PP orc E F.a2 [x0] H0 = zcV (run PP orc E) x0 H0 := (zaC Go.Proofs.Tryz.func71 (by kernel_rfl) (by kernel_rfl) h _ _).trans (by kernel_rfl)
theorem zfV (E : ET) (h : E F.a14 = none) (x0 : Value) (H0 : Hp) : run PP orc E F.a14 [x0] H0 = zdC (run PP orc E) x0 H0 := (zaC Go.Proofs.Tryz.func72 (by kernel_rfl) (by kernel_rfl) h _ _).trans (rfl)
theorem zmm (E : ET) (h : E F.a0 = none) (x0 x1 : Value) (H0 : Hp) : run PP orc E F.a0 [x0, x1] H0 = zik (run PP orc E) x0 x1 H0 := (zaC Go.Proofs.Tryz.func80 (by kernel_rfl) (by kernel_rfl) h _ _).trans (by kernel_rfl)
theorem zor (E : ET) (h : E F.a36 = none) (x0 : Value) (H0 : Hp) : run PP orc E F.a36 [x0] H0 = zjv (run PP orc E) x0 H0 := (zaC Go.Proofs.Tryz.func81 (by kernel_rfl) (by kernel_rfl) h _ _).trans (by kernel_rfl)
theorem zot (E : ET) (h : E F.a51 = none) (x0 x1 x2 x3 : Value) (H0 : Hp) : run PP orc E F.a51 [x0, x1, x2, x3] H0 = zjx (run PP orc E) x0 x1 x2 x3 H0 := (zaC Go.Proofs.Tryz.func82 (by kernel_rfl) (by kernel_rfl) h _ _).trans (by kernel_rfl)
theorem r_bits_Un (E : ET) (h : E F.a55 = none) (x0 x1 x2 : Value) (H0 : Hp) : run PP orc E F.a55 [x0, x1, x2] H0 = zly (run PP orc E) x0 x1 x2 H0 := (zaC Go.Proofs.Tryz.func83 (by kernel_rfl) (by kernel_rfl) h _ _).trans (by kernel_rfl)
theorem zov (E : ET) (h : E F.a49 = none) (x0 x1 x2 x3 : Value) (H0 : Hp) : run PP orc E F.a49 [x0, x1, x2, x3] H0 = zjz (run PP orc E) x0 x1 x2 x3 H0 := (zaC Go.Proofs.Tryz.func84 (by kernel_rfl) (by kernel_rfl) h _ _).trans (by kernel_rfl)
theorem zou (E : ET) (h : E F.a50 = none) (x0 x1 x2 x3 : Value) (H0 : Hp) : run PP orc E F.a50 [x0, x1, x2, x3] H0 = zjy (run PP orc E) x0 x1 x2 x3 H0 := (zaC Go.Proofs.Tryz.func85 (by kernel_rfl) (by kernel_rfl) h _ _).trans (by kernel_rfl)
theorem zk9 (E : ET) (h : E F.a54 = none) (x0 x1 x2 x3 : Value) (H0 : Hp) : run PP orc E F.a54 [x0, x1, x2, x3] H0 = zgZ (run PP orc E) x0 x1 x2 x3 H0 := (zaC Go.Proofs.Tryz.func86 (by kernel_rfl) (by kernel_rfl) h _ _).trans (by kernel_rfl)
theorem zos (E : ET) (h : E F.a52 = none) (x0 x1 x2 x3 : Value) (H0 : Hp) : run PP orc E F.a52 [x0, x1, x2, x3] H0 = zjw (run PP orc E) x0 x1 x2 x3 H0 := (zaC Go.Proofs.Tryz.func87 (by kernel_rfl) (by kernel_rfl) h _ _).trans (by kernel_rfl)
theorem zk4 (E : ET) (h : E F.a66 = none) (x0 : Value) (H0 : Hp) : run PP orc E F.a66 [x0] H0 = zgU (run PP orc E) x0 H0 := (zaC Go.Proofs.Tryz.func93 (by kernel_rfl) (by kernel_rfl) h _ _).trans (by kernel_rfl)
theorem zfr (E : ET) (h : E F.a63 = none) (x0 x1 : Value) (H0 : Hp) : run PP orc E F.a63 [x0, x1] H0 = zdj (run PP orc E) x0 x1 H0 := (zaC Go.Proofs.Tryz.func94 (by kernel_rfl) (by kernel_rfl) h _ _).trans (by kernel_rfl)
theorem zgt (E : ET) (h : E F.a64 = none) (x0 x1 : Value) (H0 : Hp) : run PP orc E F.a64 [x0, x1] H0 = zd2 (run PP orc E) x0 x1 H0 := (zaC Go.Proofs.Tryz.func95 (by kernel_rfl) (by kernel_rfl) h _ _).trans (by kernel_rfl)
theorem zfW (E : ET) (h : E F.a44 = none) (x0 x1 x2 x3 : Value) (H0 : Hp) : run PP orc E F.a44 [x0, x1, x2, x3] H0 = zdE (run PP orc E) x0 x1 x2 x3 H0 := (zaC Go.Proofs.Tryz.func101 (by kernel_rfl) (by kernel_rfl) h _ _).trans (rfl)
theorem zkf (E : ET) (h : E F.a15 = none) (x0 : Value) (H0 : Hp) : run PP orc E F.a15 [x0] H0 = zf7 (run PP orc E) x0 H0 := (zaC Go.Proofs.Tryz.func102 (by kernel_rfl) (by kernel_rfl) h _ _).trans (rfl)
theorem zha (E : ET) (h : E F.a47 = none) (x0 : Value) (H0 : Hp) : run PP orc E F.a47 [x0] H0 = zeq (run PP orc E) x0 H0 := (zaC Go.Proofs.Tryz.func103 (by kernel_rfl) (by kernel_rfl) h _ _).trans (rfl)
theorem zla (E : ET) (h : E F.a4 = none) (x0 : Value) (H0 : Hp) : run PP orc E F.a4 [x0] H0 = zg0 (run PP orc E) x0 H0 := (zaC Go.Proofs.Tryz.func114 (by kernel_rfl) (by kernel_rfl) h _ _).trans (by kernel_rfl)
theorem zke (E : ET) (h : E F.a16 = none) (x0 x1 : Value) (H0 : Hp) : run PP orc E F.a16 [x0, x1] H0 = zf6 (run PP orc E) x0 x1 H0 := (zaC Go.Proofs.Tryz.func115 (by kernel_rfl) (by kernel_rfl) h _ _).trans (by kernel_rfl)
theorem zkd (E : ET) (h : E F.a32 = none) (x0 : Value) (H0 : Hp) : run PP orc E F.a32 [x0] H0 = zf5 (run PP orc E) x0 H0 := (zaC Go.Proofs.Tryz.func116 (by kernel_rfl) (by kernel_rfl) h _ _).trans (by kernel_rfl)
theorem zhb (E : ET) (h : E F.a18 = none) (x0 : Value) (H0 : Hp) : run PP orc E F.a18 [x0] H0 = zer (run PP orc E) x0 H0 := (zaC Go.Proofs.Tryz.func117 (by kernel_rfl) (by kernel_rfl) h _ _).trans (by kernel_rfl)
theorem zk8 (E : ET) (h : E F.a31 = none) (x0 x1 x2 x3 : Value) (H0 : Hp) : run PP orc E F.a31 [x0, x1, x2, x3] H0 = zgY (run PP orc E) x0 x1 x2 x3 H0 := (zaC Go.Proofs.Tryz.func118 (by kernel_rfl) (by kernel_rfl) h _ _).trans (by kernel_rfl)
theorem zhT (E : ET) (h : E F.a41 = none) (x0 x1 : Value) (H0 : Hp) : run PP orc E F.a41 [x0, x1] H0 = zeI (run PP orc E) x0 x1 H0 := (zaC Go.Proofs.Tryz.func135 (by kernel_rfl) (by kernel_rfl) h _ _).trans (by kernel_rfl)
theorem zhS (E : ET) (h : E F.a28 = none) (x0 x1 : Value) (H0 : Hp) : run PP orc E F.a28 [x0, x1] H0 = zeH (run PP orc E) x0 x1 H0 := (zaC Go.Proofs.Tryz.func136 (by kernel_rfl) (by kernel_rfl) h _ _).trans (by kernel_rfl)
theorem zfs (E : ET) (h : E F.a62 = none) (x0 x1 : Value) (H0 : Hp) : run PP orc E F.a62 [x0, x1] H0 = zdk (run PP orc E) x0 x1 H0 := (zaC Go.Proofs.Tryz.func137 (by kernel_rfl) (by kernel_rfl) h _ _).trans (by kernel_rfl)
theorem zft (E : ET) (h : E F.a40 = none) (x0 x1 x2 : Value) (H0 : Hp) : run PP orc E F.a40 [x0, x1, x2] H0 = zdl (run PP orc E) x0 x1 x2 H0 := (zaC Go.Proofs.Tryz.func138 (by kernel_rfl) (by kernel_rfl) h _ _).trans (by kernel_rfl)
theorem zfX (E : ET) (h : E F.a53 = none) (x0 : Value) (H0 : Hp) : run PP orc E F.a53 [x0] H0 = zdF (run PP orc E) x0 H0 := (zaC Go.Proofs.Tryz.func143 (by kernel_rfl) (by kernel_rfl) h _ _).trans (by kernel_rfl)
theorem zc2 (E : ET) (h : E F.a61 = none) (x0 x1 : Value) (H0 : Hp) : run PP orc E F.a61 [x0, x1] H0 = zbQ (run PP orc E) x0 x1 H0 := (zaC Go.Proofs.Tryz.func158 (by kernel_rfl) (by kernel_rfl) h _ _).trans (by kernel_rfl)
theorem zcr (E : ET) (h : E F.a38 = none) (x0 x1 : Value) (H0 : Hp) : run PP orc E F.a38 [x0, x1] H0 = zbx (run PP orc E) x0 x1 H0 := (zaC Go.Proofs.Tryz.func159 (by kernel_rfl) (by kernel_rfl) h _ _).trans (by kernel_rfl)
theorem zbP (E : ET) (h : E F.a26 = none) (x0 x1 x2 : Value) (H0 : Hp) : run PP orc E F.a26 [x0, x1, x2] H0 = zbR (run PP orc E) x0 x1 x2 H0 := (zaC Go.Proofs.Tryz.func160 (by kernel_rfl) (by kernel_rfl) h _ _).trans (rfl)
theorem zcp (E : ET) (h : E F.a39 = none) (x0 x1 : Value) (H0 : Hp) : run PP orc E F.a39 [x0, x1] H0 = zbv (run PP orc E) x0 x1 H0 := (zaC Go.Proofs.Tryz.func171 (by kernel_rfl) (by kernel_rfl) h _ _).trans (by kernel_rfl)
theorem zcq (E : ET) (h : E F.a60 = none) (x0 x1 : Value) (H0 : Hp) : run PP orc E F.a60 [x0, x1] H0 = zbw (run PP orc E) x0 x1 H0 := (zaC Go.Proofs.Tryz.func175 (by kernel_rfl) (by kernel_rfl) h _ _).trans (by kernel_rfl)
theorem zdW (E : ET) (h : E F.a6 = none) (x0 : Value) (H0 : Hp) : run PP orc E F.a6 [x0] H0 = zcc (run PP orc E) x0 H0 := (zaC Go.Proofs.Tryz.func176 (by kernel_rfl) (by kernel_rfl) h _ _).trans (by kernel_rfl)
end Go.AM
namespace Go.AM
open Go
def ccB (i : Nat) (H : Hp) : Option AObj → Option (Value × Hp)
  | some (.cells [.pointer none, v] true) => if H.ty i = some T.strings_Builder then some (.tuple #[], H.set i (some (.cells [.pointer (some ⟨i, 0, none⟩), v] true))) else none
  | some (.cells [.pointer (some ⟨j, 0, none⟩), v] true) => if j = i ∧ H.ty i = some T.strings_Builder then some (.tuple #[], H) else none
  | _ => none
def extCC (l : List Value) (H : Hp) : Option (Value × Hp) :=
  match l with
  | [.pointer (some ⟨i, 0, none⟩)] => ccB i H (H.get i)
  | _ => none
def zoc : List Value → Option (List UInt8)
  | [] => some []
  | .int .u8 (.ofNat n) :: r => if n < 256 then (match zoc r with
    | some l => some (UInt8.ofNat n :: l)
    | none => none) else none
  | _ => none
def strB2 (i j n : Nat) (H : Hp) : Option AObj → Option (Value × Hp)
  | some (.cells cs true) => if H.ty i = some T.strings_Builder ∧ H.ty j = some T.uint8 ∧ 0 < n ∧ n ≤ cs.length ∧ n ≤ 2 ^ 60 then (match zoc (cs.take n) with
    | some l => some (.string ⟨l.toArray⟩, H.set j (some (.cells cs false)))
    | none => none) else none
  | _ => none
def strB (i : Nat) (H : Hp) : Option AObj → Option (Value × Hp)
  | some (.cells [_, .slice none 0 0] _) => if H.ty i = some T.strings_Builder then some (.string ⟨#[]⟩, H) else none
  | some (.cells [_, .slice (some ⟨j, 0, some 1⟩) n c] _) => strB2 i j n H (H.get j)
  | _ => none
def extStr (l : List Value) (H : Hp) : Option (Value × Hp) :=
  match l with
  | [.pointer (some ⟨i, 0, none⟩)] => strB i H (H.get i)
  | _ => none
theorem zg7 : ∀ (cs : List Value) (l : List UInt8), zoc cs = some l → cs = l.map fun b => Value.int .u8 (b.toNat : Int)
  | [], l, h => by cases h; rfl
  | v :: r, l, h => by
    unfold zoc at h
    split at h
    · rename_i q; cases q
    · rename_i n r' q
      cases q
      split at h
      · rename_i hn
        split at h
        · rename_i l' hl
          cases h
          rw [List.map_cons, ← zg7 _ _ hl]
          have : (UInt8.ofNat n).toNat = n := by simp [UInt8.toNat_ofNat]; omega
          rw [this]; rfl
        · cases h
      · cases h
    · cases h
theorem LRel.single {β : Bt} {a : Value} {l : List Value} (h : LRel β [a] l) : ∃ a', l = [a'] ∧ VRel β a a' := by
  obtain ⟨hl, hv⟩ := h
  match l, hl with
  | [x], _ => exact ⟨x, rfl, hv 0 _ _ rfl rfl⟩
theorem znj {w : World} {b : Nat} {arr : Array Value} {e : TypeId} {fz : Nat × Nat} (h : w.heap[b]? = some (.cells arr e fz)) : w.shape? b = some (e, arr.size) := by
  unfold World.shape?
  rw [h]
theorem zlG (w : World) (b n : Nat) : (w.freeze ⟨b, 0, none⟩ n).heap.size = w.heap.size ∧ (∀ k, k ≠ b → (w.freeze ⟨b, 0, none⟩ n).heap[k]? = w.heap[k]?) ∧
    (∀ arr e fz, w.heap[b]? = some (.cells arr e fz) → ∃ fz', (w.freeze ⟨b, 0, none⟩ n).heap[b]? = some (.cells arr e fz')) ∧ (w.freeze ⟨b, 0, none⟩ n).os = w.os ∧ (w.freeze ⟨b, 0, none⟩ n).tape = w.tape ∧ (w.freeze ⟨b, 0, none⟩ n).output = w.output := by
  unfold World.freeze
  split
  · exact ⟨rfl, fun _ _ => rfl, fun arr e fz h => ⟨fz, h⟩, rfl, rfl, rfl⟩
  · refine ⟨by simp, fun k hk => ?_, fun arr e fz h => ?_, rfl, rfl, rfl⟩
    · simp only [Array.getElem?_modify]
      rw [if_neg (by omega)]
    · simp only [Array.getElem?_modify, if_true, h, Option.map_some]
      exact ⟨_, rfl⟩
theorem extCC_ok {args : List Value} {H : Hp} {v : Value} {H' : Hp} (he : extCC args H = some (v, H')) {args' : List Value} {w : World} {β : Bt} (hl : LRel β args args') (hR : Rel PP w H β) :
    Calls PP F.a70 args'.toArray w fun x w' => ∃ v' β', x = .returned v' ∧ Rel PP w' H' β' ∧ Ext w.heap.size w H β w' H' β' ∧ VRel β' v v' := by
  have key : ∀ (i : Nat) (p u : Value), H.get i = some (.cells [p, u] true) → H.ty i = some T.strings_Builder → ∀ x, β i = some x → x.s = 0 ∧ ∃ arr fz, w.heap[x.b]? = some (.cells arr T.strings_Builder fz) ∧ arr.size = x.t ∧ 2 ≤ arr.size ∧ (∀ j, j < x.t → ¬ (fz.1 ≤ j ∧ j < fz.2)) ∧
      ∃ p', w.cell? ⟨x.b, 0, none⟩ = some p' ∧ VRel β p p' := by
    intro i p u hg hty x hx
    obtain ⟨x', hx', h1, h2⟩ := hR.cells i _ true hg
    rw [hx] at hx'; cases hx'
    obtain ⟨⟨arr, e, fz, g1, g2, g3⟩, g4⟩ := h2 rfl
    obtain ⟨x2, arr2, fz2, hx2, hs0, g5, g6⟩ := hR.tys i _ hty
    rw [hx] at hx2; cases hx2
    rw [g1] at g5; cases g5
    obtain ⟨p', a1, a2⟩ := h1 0 p rfl
    rw [hs0] at a1 g4
    have g4 : 0 + 2 ≤ x.t := g4
    exact ⟨hs0, arr, fz, g1, g2, by omega, g3, p', a1, a2⟩
  unfold extCC at he
  split at he
  · rename_i i
    obtain ⟨a', rfl, ha⟩ := hl.single
    cases ha with
    | ptr _ _ x hx =>
    unfold ccB at he
    split at he
    · rename_i u hg
      split at he
      · rename_i hty
        cases he
        obtain ⟨hs0, arr, fz, g1, g2, g3, g4, p', c0, r0⟩ := key i _ _ hg hty x hx
        cases r0
        have hput := zhH w x.b 0 (.pointer (some ⟨x.b, 0, none⟩)) arr _ fz g1 (by omega)
        have hfz : w.frozen? ⟨x.b, 0, none⟩ = false := zg3 g1 (g4 0 (by omega))
        have hcall := cc_fresh x.b arr.size g3 w c0 (znj g1) hfz
        rw [hs0]
        refine hcall.mono fun e w' ⟨h1, h2⟩ => ?_
        subst h2
        have hv : LRel β [Value.pointer (some ⟨i, 0, none⟩)] [Value.pointer (some ⟨x.b, 0, none⟩)] := by
          have := VRel.ptr (β := β) i 0 x hx
          rw [hs0] at this
          exact LRel.cons this (LRel.nil _)
        obtain ⟨k1, k2⟩ := hR.write hg hx (off := 0) (vs := [Value.pointer (some ⟨i, 0, none⟩)]) (vs' := [Value.pointer (some ⟨x.b, 0, none⟩)]) (by simp) hv (by rw [hs0]; exact hput)
        exact ⟨_, β, h1, k1, k2, .tuple [] [] rfl (fun k v v' h => by cases h)⟩
      · cases he
    · rename_i j u hg
      split at he
      · rename_i hj
        cases he
        obtain ⟨rfl, hty⟩ := hj
        obtain ⟨hs0, arr, fz, g1, g2, g3, g4, p', c0, r0⟩ := key _ _ _ hg hty x hx
        cases r0 with
        | ptr _ _ y hy =>
        rw [hx] at hy; cases hy
        rw [hs0] at c0 ⊢
        refine (cc_used x.b w c0).mono fun e w' ⟨h1, h2⟩ => ?_
        subst h2
        exact ⟨_, β, h1, hR, Ext.refl _ _ _ _, .tuple [] [] rfl (fun k v v' h => by cases h)⟩
      · cases he
    · cases he
  · cases he
theorem extStr_ok {args : List Value} {H : Hp} {v : Value} {H' : Hp} (he : extStr args H = some (v, H')) {args' : List Value} {w : World} {β : Bt} (hl : LRel β args args') (hR : Rel PP w H β) :
    Calls PP F.a69 args'.toArray w fun x w' => ∃ v' β', x = .returned v' ∧ Rel PP w' H' β' ∧ Ext w.heap.size w H β w' H' β' ∧ VRel β' v v' := by
  have zero : ∀ i x, H.ty i = some T.strings_Builder → β i = some x → x.s = 0 := fun i x hty hx => by
    obtain ⟨x2, arr2, fz2, hx2, hs0, _⟩ := hR.tys i _ hty
    rw [hx] at hx2; cases hx2; exact hs0
  unfold extStr at he
  split at he
  · rename_i i
    obtain ⟨a', rfl, ha⟩ := hl.single
    cases ha with
    | ptr _ _ x hx =>
    unfold strB at he
    split at he
    · rename_i p own hg
      split at he
      · rename_i hty
        cases he
        have hs0 := zero i x hty hx
        obtain ⟨x', hx', h1, _⟩ := hR.cells i _ _ hg
        rw [hx] at hx'; cases hx'
        obtain ⟨v', c1, r1⟩ := h1 1 _ rfl
        cases r1
        rw [hs0] at c1 ⊢
        refine (str_nil x.b w c1).mono fun e w' ⟨g1, g2, g3, g4, g5⟩ => ?_
        have hw : ∀ b : Nat, w'.heap[b]? = w.heap[b]? := fun b => by rw [g2]
        exact ⟨_, β, g1, hR.frame (by rw [g2]; exact Nat.le_refl _) (fun _ _ _ => hw _), ⟨g3, g4, g5, by rw [g2]; exact Nat.le_refl _, Bt.le_refl _, Nat.le_refl _, fun b _ _ => hw b, fun b q => .inr q, fun i x hx hn => by rw [hn] at hx; cases hx⟩, .string _⟩
      · cases he
    · rename_i p j n c own hg
      unfold strB2 at he
      split at he
      · rename_i cs hgj
        split at he
        · rename_i hc
          obtain ⟨hty, htj, hn0, hn, hn60⟩ := hc
          split at he
          · rename_i l hb
            cases he
            have hs0 := zero i x hty hx
            obtain ⟨x', hx', h1, _⟩ := hR.cells i _ _ hg
            rw [hx] at hx'; cases hx'
            obtain ⟨v', c1, r1⟩ := h1 1 _ rfl
            cases r1 with
            | slice _ _ _ _ _ y o' c' hy hnc hcc ht hoo =>
            obtain ⟨y2, arr, fz, hy2, ys0, k1, k2⟩ := hR.tys j _ htj
            rw [hy] at hy2; cases hy2
            have ho' : o' = 0 := by have := hoo (by omega); omega
            subst ho'
            have hcl := zg7 _ _ hb
            have hlen : l.length = n := by
              have := congrArg List.length hcl
              rw [List.length_take, List.length_map] at this
              omega
            obtain ⟨y3, hy3, m1, m2⟩ := hR.cells j _ _ hgj
            rw [hy] at hy3; cases hy3
            obtain ⟨_, m3⟩ := m2 rfl
            have hcell : ∀ q b, l[q]? = some b → w.cell? ((⟨y.b, 0, none⟩ : Addr).add q) = some (.int .u8 b.toNat) := fun q b hq => by
              have hq' : cs[q]? = some (.int .u8 (b.toNat : Int)) := by
                have e1 : (cs.take n)[q]? = some (Value.int .u8 (b.toNat : Int)) := by rw [hcl, List.getElem?_map, hq]; rfl
                rw [List.getElem?_take] at e1
                split at e1
                · exact e1
                · cases e1
              obtain ⟨v2, d1, d2⟩ := m1 q _ hq'
              cases d2
              have ea : (⟨y.b, 0, none⟩ : Addr).add q = ⟨y.b, y.s + q, none⟩ := by
                rw [ys0]; unfold Addr.add; split <;> simp_all
              rw [ea]; exact d1
            rw [hs0] at c1 ⊢
            rw [← hlen] at c1
            have hne : l ≠ [] := fun q => by rw [q] at hlen; simp at hlen; omega
            refine (str_row x.b y.b c' arr.size l hne (by omega) (by omega) (by omega) w c1 (znj k1) hcell).mono fun e w' ⟨g1, w0, g2, g3, g4, g5, g6⟩ => ?_
            subst g6
            obtain ⟨f1, f2, f3, f4, f5, f6⟩ := zlG w0 y.b l.length
            obtain ⟨q1, q2⟩ := hR.freeze (w' := w0.freeze ⟨y.b, 0, none⟩ l.length) hgj hy (f4.trans g3) (f5.trans g4) (f6.trans g5) (by rw [f1, g2]) (fun k hk => by rw [f2 k hk, g2]) (fun arr e fz hh => f3 arr e fz (by rw [g2]; exact hh))
            exact ⟨_, β, g1, q1, q2, .string _⟩
          · cases he
        · cases he
      · cases he
    · cases he
  · cases he
end Go.AM
